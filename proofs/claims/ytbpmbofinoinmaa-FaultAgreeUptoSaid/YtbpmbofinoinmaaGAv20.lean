import Derived.Test.YtbpmbofinoinmaaGAv15
namespace Go.Av

/-- A call that only makes memory: what it gives hangs on no mutable block. -/
def PureRun (P : Program) (f : FuncId) (args : List AV) (v : AV) : Prop :=
  Callable P f ∧ ∀ M J w (cargs : Array Value), args.length = cargs.size → (∀ (j : Nat) c x, args[j]? = some c → cargs[j]? = some x → Rep M J c x) → MRep M w.heap →
    Calls P f cargs w fun e w' => ∃ cv M', e = .returned cv ∧ (∀ β o, M β = some o → M' β = some o) ∧ MRep M' w'.heap ∧ w'.os = w.os ∧ w'.tape = w.tape ∧ w'.output = w.output ∧ w.heap.size ≤ w'.heap.size ∧
      (∀ (β : Nat) o, w.heap[β]? = some o → w'.heap[β]? = some o) ∧ (∀ β o, M' β = some o → M β = some o ∨ w.heap.size ≤ β) ∧ ∀ J', Rep M' J' v cv

theorem Rep.anyJ {M J} {a : AV} {v : Value} (h : Rep M J a v) (hp : Pure a) (J' : Inj) : Rep M J' a v :=
  (h.ren (ρ := fun _ _ => none) (.pure hp)).ext ⟨fun _ _ h => h, fun g i l h => by simp [Inj.via] at h⟩

theorem PureRun.of {P : Program} {f : FuncId} {args : List AV} {v : AV} (ha : ∀ a ∈ args, Pure a) (hv : Pure v) (h : CallOK P f args [] fun res _ => res = v) : PureRun P f args v := by
  refine ⟨h.1, fun M J w cargs hl hr hM => ?_⟩
  have hH : HRep M (fun _ _ => none) [] w.heap :=
    ⟨fun g i x hx => (by simp [hget] at hx), fun g i g' i' l l' β _ _ hJ => (by cases hJ), fun g i l β _ hJ => (by cases hJ), fun g i l hJ => (by cases hJ)⟩
  refine (h.2 M (fun _ _ => none) w cargs hl (fun j c x hc hx => (hr j c x hc hx).anyJ (ha c (List.mem_of_getElem? hc)) _) hH hM).mono ?_
  rintro e w' ⟨cv, M', J', res, H', rfl, hs, hrep, rfl⟩
  have hno : ∀ g i, ¬ liveAt [] g i := by
    rintro g i ⟨x, hx, _⟩
    simp [hget] at hx
  refine ⟨cv, M', rfl, hs.m, hs.mrep, hs.os, hs.tape, hs.output, hs.size, fun β o ho => hs.frame β o ho fun g i l hl _ => absurd hl (hno g i), fun β o ho => ?_, fun J'' => hrep.anyJ hv J''⟩
  rcases hs.fresh β o ho with h1 | h1 | ⟨g, i, l, hl, _⟩
  · exact .inl h1
  · exact .inr h1
  · exact absurd hl (hno g i)

/-- Such a call, from whatever heap. -/
theorem PureRun.step {M J H} {w w' : World} (k : Nat) (hH : HRep M J H w.heap) {M' : Mem} (h1 : ∀ β o, M β = some o → M' β = some o) (h2 : MRep M' w'.heap) (h3 : w'.os = w.os) (h4 : w'.tape = w.tape) (h5 : w'.output = w.output)
    (h6 : w.heap.size ≤ w'.heap.size) (h7 : ∀ (β : Nat) o, w.heap[β]? = some o → w'.heap[β]? = some o) (h8 : ∀ β o, M' β = some o → M β = some o ∨ w.heap.size ≤ β) : Step k M J H w M' J H w' := by
  have hx : Ext M J M' J := ⟨h1, fun _ _ _ h => h⟩
  refine ⟨h1, fun _ _ _ _ h => h, ⟨?_, hH.inj, ?_, ?_⟩, h2, h3, h4, h5, h6, fun β o ho _ => h7 β o ho, fun β o ho => ?_, fun g i l β a b c => .inl ⟨g, i, l, a, b, c⟩⟩
  · intro g i x hg hl
    obtain ⟨l, p, q⟩ := hH.blk g i x hg hl
    refine ⟨l, p, q.ext hx fun β hβ => ?_⟩
    have hlt := (hH.dom g i l p).2 β hβ
    rw [Array.getElem?_eq_getElem hlt]
    exact h7 β _ (Array.getElem?_eq_getElem hlt)
  · intro g i l β a b c
    cases e : M' β with
    | none => rfl
    | some o =>
      rcases h8 β o e with h | h
      · rw [hH.out g i l β a b c] at h; cases h
      · have := (hH.dom g i l b).2 β c; omega
  · intro g i l a
    have := hH.dom g i l a
    exact ⟨this.1, fun β hβ => Nat.lt_of_lt_of_le (this.2 β hβ) h6⟩
  · rcases h8 β o ho with h | h
    · exact .inl h
    · exact .inr (.inl h)

theorem CallOK.ofPure {P : Program} {f : FuncId} {args : List AV} {v : AV} (h : PureRun P f args v) (H : Heap) {R : AV → Heap → Prop} (hR : R v H) : CallOK P f args H R := by
  refine ⟨h.1, fun M J w cargs hl hr hH hM => (h.2 M J w cargs hl hr hM).mono ?_⟩
  rintro e w' ⟨cv, M', rfl, h1, h2, h3, h4, h5, h6, h7, h8, h9⟩
  exact ⟨cv, M', J, v, H, rfl, PureRun.step _ hH h1 h2 h3 h4 h5 h6 h7 h8, h9 J, hR⟩

structure RRec where
  x : IOper
  id : Nat × Nat
  v : AV
  rd : List (Nat × Nat)
  wr : List (Nat × Nat)

def opdTmps : List Operand → List Nat
  | [] => []
  | .tmp t :: r => t :: opdTmps r
  | _ :: r => opdTmps r

def IAct.opds : IAct → List Operand
  | .op o => o.opds
  | .call _ args => args
  | .callV f args => f :: args

def IOper.tmps (x : IOper) : List Nat :=
  match x.guard with
  | some (t, _) => t :: opdTmps x.act.opds
  | none => opdTmps x.act.opds

abbrev S := Fr × Heap

def Eqv (s t : S) : Prop := (∀ a, s.1.get a = t.1.get a) ∧ ∀ a b, hget s.2 a b = hget t.2 a b

/-- An operation done: what it gives, what it looked at, what it wrote. -/
def RStep (P : Program) (r : RRec) (s t : S) : Prop :=
  t.1 = s.1.put r.x.dst r.v ∧
  ((gok s.1 r.x.guard = some true ∧ ∃ o, r.x.act = .op o ∧ dstep r.id.1 r.id.2 o s.1 s.2 = some (r.v, t.2) ∧ drd s.1 o = r.rd ∧ dwr r.id.1 r.id.2 s.1 o = r.wr) ∨
   (gok s.1 r.x.guard = some true ∧ r.rd = [] ∧ r.wr = [] ∧ (∀ a b, hget t.2 a b = hget s.2 a b) ∧ ∃ f args, r.x.act = .call f args ∧ PureRun P f (avals s.1 args) r.v) ∨
   (gok s.1 r.x.guard = some false ∧ r.rd = [] ∧ r.wr = [] ∧ r.v = .sc Go.undef ∧ (∀ a b, hget t.2 a b = hget s.2 a b)))

theorem mem_opdTmps {l : List Operand} {t : Nat} (h : .tmp t ∈ l) : t ∈ opdTmps l := by
  induction l with
  | nil => cases h
  | cons a l ih =>
    cases h with
    | head => exact List.mem_cons_self ..
    | tail _ h => cases a <;> first | exact List.mem_cons_of_mem _ (ih h) | exact ih h

theorem ev_same {l : List Operand} {fr fr2 : Fr} (h : ∀ t ∈ opdTmps l, fr2.get t = fr.get t) : ∀ x ∈ l, ev fr2 x = ev fr x := by
  intro x hx
  cases x with
  | tmp t => exact h t (mem_opdTmps hx)
  | _ => rfl

theorem act_tmps {x : IOper} {fr fr2 : Fr} (h : ∀ t ∈ x.tmps, fr2.get t = fr.get t) : (∀ o ∈ x.act.opds, ev fr2 o = ev fr o) ∧ gok fr2 x.guard = gok fr x.guard := by
  unfold IOper.tmps at h
  split at h
  · rename_i t b e
    refine ⟨ev_same fun u hu => h u (List.mem_cons_of_mem _ hu), ?_⟩
    rw [e]
    simp only [gok, h t (List.mem_cons_self ..)]
  · rename_i e
    exact ⟨ev_same h, by rw [e]; rfl⟩

/-- An operation done elsewhere, where all that it looks at is the same. -/
theorem RStep.ext {P : Program} {r : RRec} {s s1 s2 : S} (h : RStep P r s s1) (ht : ∀ t ∈ r.x.tmps, s2.1.get t = s.1.get t) (hr : ∀ p ∈ r.rd, hget s2.2 p.1 p.2 = hget s.2 p.1 p.2)
    (hi : r.id ∈ r.wr → (hget s.2 r.id.1 r.id.2).isSome ∧ (hget s2.2 r.id.1 r.id.2).isSome) :
    ∃ s3, RStep P r s2 s3 ∧ s3.1 = s2.1.put r.x.dst r.v ∧ (∀ a b, (a, b) ∈ r.wr → hget s3.2 a b = hget s1.2 a b) ∧ (∀ a b, (a, b) ∉ r.wr → hget s3.2 a b = hget s2.2 a b) ∧
      (∀ a b, (a, b) ∉ r.wr → hget s1.2 a b = hget s.2 a b) ∧ (∀ a b, (a, b) ∈ r.wr → (hget s1.2 a b).isSome) := by
  obtain ⟨ha, hg⟩ := act_tmps ht
  obtain ⟨hf, h⟩ := h
  rcases h with ⟨h1, o, h2, h3, h4, h5⟩ | ⟨h1, h2, h3, h4, f, args, h5, h6⟩ | ⟨h1, h2, h3, h4, h5⟩
  · have ho : ∀ x ∈ o.opds, ev s2.1 x = ev s.1 x := fun x hx => ha x (by rw [h2]; exact hx)
    have e4 : drd s2.1 o = drd s.1 o := by
      cases o <;> simp only [drd] <;> simp only [IOp.opds, List.mem_cons, List.not_mem_nil, or_false, forall_eq_or_imp, forall_eq] at ho <;> simp [ho]
    have e5 : dwr r.id.1 r.id.2 s2.1 o = dwr r.id.1 r.id.2 s.1 o := by
      cases o <;> simp only [dwr] <;> simp only [IOp.opds, List.mem_cons, List.not_mem_nil, or_false, forall_eq_or_imp, forall_eq] at ho <;> simp [ho]
    have hd := dstep_frame (g := r.id.1) (i := r.id.2) (H := s2.2) ho
    obtain ⟨H2', q1, q2, q3, q4, q5⟩ := dstep_heap (H2 := s2.2) h3 (fun hm => (hi (by rw [← h5]; exact hm)).1) (fun hm => (hi (by rw [← h5]; exact hm)).2) (fun p hp => hr p (by rw [← h4]; exact hp))
    rw [h5] at q2 q3 q4 q5
    exact ⟨(s2.1.put r.x.dst r.v, H2'), ⟨rfl, .inl ⟨by rw [hg, h1], o, h2, by rw [hd]; exact q1, by rw [e4, h4], by rw [e5, h5]⟩⟩, rfl, q2, q3, q4, q5⟩
  · have hav : avals s2.1 args = avals s.1 args := List.map_congr_left fun x hx => ha x (by rw [h5]; exact hx)
    refine ⟨(s2.1.put r.x.dst r.v, s2.2), ⟨rfl, .inr (.inl ⟨by rw [hg, h1], h2, h3, fun _ _ => rfl, f, args, h5, by rw [hav]; exact h6⟩)⟩, rfl, fun a b hm => ?_, fun _ _ _ => rfl, fun a b _ => h4 a b, fun a b hm => ?_⟩
    · rw [h3] at hm; cases hm
    · rw [h3] at hm; cases hm
  · refine ⟨(s2.1.put r.x.dst r.v, s2.2), ⟨rfl, .inr (.inr ⟨by rw [hg, h1], h2, h3, h4, fun _ _ => rfl⟩)⟩, rfl, fun a b hm => ?_, fun _ _ _ => rfl, fun a b _ => h5 a b, fun a b hm => ?_⟩
    · rw [h3] at hm; cases hm
    · rw [h3] at hm; cases hm

def disj (a b : List (Nat × Nat)) : Bool := a.all fun p => b.all fun q => !(Nat.beq p.1 q.1 && Nat.beq p.2 q.2)
def dstOut (d : Option Nat) (l : List Nat) : Bool :=
  match d with
  | some d => l.all fun t => !Nat.beq d t
  | none => true
def dstDiff : Option Nat → Option Nat → Bool
  | some a, some b => !Nat.beq a b
  | _, _ => true

/-- Two operations that may change places. -/
def indep (a b : RRec) : Bool :=
  dstOut a.x.dst b.x.tmps && (dstOut b.x.dst a.x.tmps && (dstDiff a.x.dst b.x.dst && (disj a.wr (b.rd ++ b.wr) && disj b.wr a.rd)))

theorem disj_spec {a b : List (Nat × Nat)} (h : disj a b = true) {p : Nat × Nat} (h1 : p ∈ a) : p ∉ b := by
  intro h2
  have := List.all_eq_true.1 (List.all_eq_true.1 h p h1) p h2
  simp at this

theorem put_get_other {fr : Fr} {d : Option Nat} {v : AV} {l : List Nat} (h : dstOut d l = true) {t : Nat} (ht : t ∈ l) : (fr.put d v).get t = fr.get t := by
  cases d with
  | none => rfl
  | some d =>
    have := List.all_eq_true.1 h t ht
    simp only [Bool.not_eq_true'] at this
    show (match Nat.beq d t with | true => v | false => Fr.get fr t) = _
    rw [this]

theorem put_get (fr : Fr) (d : Option Nat) (v : AV) (t : Nat) : (fr.put d v).get t = if d = some t then v else fr.get t := by
  cases d with
  | none => rfl
  | some d =>
    show (match Nat.beq d t with | true => v | false => Fr.get fr t) = _
    split
    · rename_i e
      rw [if_pos (by rw [Nat.eq_of_beq_eq_true e])]
    · rename_i e
      rw [if_neg]
      intro h
      injection h with h
      subst h
      simp at e

theorem put_comm {fr : Fr} {a b : Option Nat} {u v : AV} (h : dstDiff a b = true) (t : Nat) : ((fr.put a u).put b v).get t = ((fr.put b v).put a u).get t := by
  simp only [put_get]
  by_cases h1 : a = some t
  · by_cases h2 : b = some t
    · subst h1; subst h2
      simp [dstDiff] at h
    · rw [if_neg h2, if_pos h1, if_pos h1]
  · rw [if_neg h1, if_neg h1]

theorem RStep.swap {P : Program} {a b : RRec} {s s1 s2 : S} (ha : RStep P a s s1) (hb : RStep P b s1 s2) (hi : indep a b = true)
    (ia : a.id ∈ a.wr → (hget s.2 a.id.1 a.id.2).isSome) (ib : b.id ∈ b.wr → (hget s.2 b.id.1 b.id.2).isSome) : ∃ t s2', RStep P b s t ∧ RStep P a t s2' ∧ Eqv s2' s2 := by
  simp only [indep, Bool.and_eq_true] at hi
  obtain ⟨i1, i2, i3, i4, i5⟩ := hi
  obtain ⟨_, _, _, _, _, a4, a5⟩ := RStep.ext (s2 := s) ha (fun _ _ => rfl) (fun _ _ => rfl) (fun h => ⟨ia h, ia h⟩)
  have hs1 : s1.1 = s.1.put a.x.dst a.v := ha.1
  have hs2 : s2.1 = s1.1.put b.x.dst b.v := hb.1
  have ib1 : b.id ∈ b.wr → (hget s1.2 b.id.1 b.id.2).isSome := fun h => by
    rw [a4 _ _ fun hm => disj_spec i4 hm (List.mem_append_right _ h)]
    exact ib h
  obtain ⟨t, b1, b2, b3, b4, b5, b6⟩ := hb.ext (s2 := s) (fun u hu => by rw [hs1, put_get_other i1 hu]) (fun p hp => (a4 _ _ fun hm => disj_spec i4 hm (List.mem_append_left _ hp)).symm) (fun h => ⟨ib1 h, ib h⟩)
  have ia1 : a.id ∈ a.wr → (hget t.2 a.id.1 a.id.2).isSome := fun h => by
    rw [b4 _ _ fun hm => disj_spec i4 h (List.mem_append_right _ hm)]
    exact ia h
  obtain ⟨s2', c1, c2, c3, c4, _, _⟩ := ha.ext (s2 := t) (fun u hu => by rw [b2, put_get_other i2 hu]) (fun p hp => b4 _ _ fun hm => disj_spec i5 hm hp) (fun h => ⟨ia h, ia1 h⟩)
  refine ⟨t, s2', b1, c1, fun u => ?_, fun x y => ?_⟩
  · rw [c2, b2, hs2, hs1]
    exact (put_comm i3 u).symm
  · by_cases h1 : (x, y) ∈ a.wr
    · rw [c3 x y h1, b5 x y fun hm => disj_spec i4 h1 (List.mem_append_right _ hm)]
    · rw [c4 x y h1]
      by_cases h2 : (x, y) ∈ b.wr
      · rw [b3 x y h2]
      · rw [b4 x y h2, b5 x y h2, a4 x y h1]

def Run (P : Program) : List RRec → S → S → Prop
  | [], s, t => Eqv s t
  | r :: l, s, t => ∃ s1, RStep P r s s1 ∧ Run P l s1 t

theorem Eqv.refl (s : S) : Eqv s s := ⟨fun _ => rfl, fun _ _ => rfl⟩
theorem Eqv.symm {s t : S} (h : Eqv s t) : Eqv t s := ⟨fun a => (h.1 a).symm, fun a b => (h.2 a b).symm⟩
theorem Eqv.trans {s t u : S} (h : Eqv s t) (h' : Eqv t u) : Eqv s u := ⟨fun a => (h.1 a).trans (h'.1 a), fun a b => (h.2 a b).trans (h'.2 a b)⟩

/-- All numbers that a run takes are there. -/
def Have (l : List RRec) (H : Heap) : Prop := ∀ r ∈ l, r.id ∈ r.wr → (hget H r.id.1 r.id.2).isSome

theorem RStep.have {P : Program} {r : RRec} {s t : S} (h : RStep P r s t) {l : List RRec} (hr : r.id ∈ r.wr → (hget s.2 r.id.1 r.id.2).isSome) (hl : Have l s.2) : Have l t.2 := by
  obtain ⟨_, _, _, _, _, a4, a5⟩ := h.ext (s2 := s) (fun _ _ => rfl) (fun _ _ => rfl) (fun h => ⟨hr h, hr h⟩)
  intro q hq hm
  by_cases hw : (q.id.1, q.id.2) ∈ r.wr
  · exact a5 _ _ hw
  · rw [a4 _ _ hw]
    exact hl q hq hm

theorem Run.ext {P : Program} : ∀ {l : List RRec} {s s2 t : S}, Run P l s t → Eqv s s2 → Have l s.2 → Run P l s2 t
  | [], s, s2, t, h, he, _ => he.symm.trans h
  | r :: l, s, s2, t, ⟨s1, h1, h2⟩, he, hh => by
    have hr := hh r (List.mem_cons_self ..)
    obtain ⟨s3, q1, q2, q3, q4, q5, q6⟩ := h1.ext (s2 := s2) (fun u _ => (he.1 u).symm) (fun p _ => (he.2 _ _).symm) (fun h => ⟨hr h, by rw [← he.2]; exact hr h⟩)
    refine ⟨s3, q1, Run.ext h2 ⟨fun u => ?_, fun a b => ?_⟩ (h1.have hr fun q hq => hh q (List.mem_cons_of_mem _ hq))⟩
    · rw [h1.1, q2, put_get, put_get, he.1]
    · by_cases hw : (a, b) ∈ r.wr
      · rw [q3 a b hw]
      · rw [q4 a b hw, q5 a b hw, he.2]

theorem Run.bubble {P : Program} {r : RRec} {B : List RRec} : ∀ {A : List RRec} {s t : S}, Run P (A ++ r :: B) s t → (∀ a ∈ A, indep a r = true) → Have (A ++ r :: B) s.2 → ∃ s1, RStep P r s s1 ∧ Run P (A ++ B) s1 t
  | [], s, t, h, _, _ => h
  | a :: A, s, t, ⟨s1, h1, h2⟩, hi, hh => by
    have ha := hh a (List.mem_cons_self ..)
    have hrr := hh r (by simp)
    have h1' : Have (A ++ r :: B) s1.2 := h1.have ha fun q hq => hh q (List.mem_cons_of_mem _ hq)
    obtain ⟨s2, q1, q2⟩ := Run.bubble h2 (fun x hx => hi x (List.mem_cons_of_mem _ hx)) h1'
    obtain ⟨u, s2', p1, p2, p3⟩ := h1.swap q1 (hi a (List.mem_cons_self ..)) ha hrr
    refine ⟨u, p1, s2', p2, Run.ext q2 p3.symm ?_⟩
    exact q1.have (h1' r (by simp)) fun q hq => h1' q ((List.mem_append.1 hq).elim (fun h => List.mem_append_left _ h) fun h => List.mem_append_right _ (List.mem_cons_of_mem _ h))

end Go.Av
namespace Go.Av

/-- An order in which the operations that are left may run. -/
inductive Sched : List (Nat × RRec) → List Nat → Prop
  | nil : Sched [] []
  | cons (A : List (Nat × RRec)) (i : Nat) (r : RRec) (B : List (Nat × RRec)) (l : List Nat) (h : ∀ a ∈ A, indep a.2 r = true) (hs : Sched (A ++ B) l) : Sched (A ++ (i, r) :: B) (i :: l)

theorem HRep.eqv {M J H H'} {h : Array Obj} (hH : HRep M J H h) (he : ∀ a b, hget H a b = hget H' a b) : HRep M J H' h :=
  ⟨fun g i x hx => hH.blk g i x (by rw [he]; exact hx), fun g i g' i' l l' β ⟨x, hx, hl⟩ ⟨y, hy, hl'⟩ => hH.inj g i g' i' l l' β ⟨x, by rw [he]; exact hx, hl⟩ ⟨y, by rw [he]; exact hy, hl'⟩,
    fun g i l β ⟨x, hx, hl⟩ => hH.out g i l β ⟨x, by rw [he]; exact hx, hl⟩, fun g i l hJ => by rw [← he]; exact hH.dom g i l hJ⟩

theorem Step.eqv {k M J H w M' J' H' H'' w'} (h : Step k M J H w M' J' H' w') (he : ∀ a b, hget H' a b = hget H'' a b) : Step k M J H w M' J' H'' w' :=
  { h with hrep := h.hrep.eqv he, live := fun g i l β ⟨x, hx, hl⟩ => h.live g i l β ⟨x, by rw [he]; exact hx, hl⟩ }

theorem run_sched {P : Program} {N k : Nat} {ops : Array Oper} {t : S} {rem : List (Nat × RRec)} {l : List Nat} (hsch : Sched rem l) :
    (∀ p ∈ rem, ∃ o, ops[p.1]? = some o ∧ coper P N ops o = some p.2.x) → (rem.map (·.2.id)).Nodup → ∀ (s : S) M J tmps w, FRep N M J s.1 tmps → HRep M J s.2 w.heap → MRep M w.heap → Run P (rem.map (·.2)) s t →
      (∀ p ∈ rem, (hget s.2 p.2.id.1 p.2.id.2).isSome ∧ J p.2.id.1 p.2.id.2 = none) →
      ∀ Q, (∀ a' w', Post k N M J s.2 w (fun fr H => fr = t.1 ∧ H = t.2) a' w' → Q Exit.normal a' w') → wpOps P ops Q l ⟨tmps, []⟩ w := by
  induction hsch with
  | nil =>
    intro _ _ s M J tmps w hF hH hM hrun _ Q hQ
    refine hQ _ _ ⟨M, J, t.1, t.2, (Step.refl k hH hM).eqv hrun.2, ⟨hF.1, fun u => ?_⟩, rfl, rfl, rfl⟩
    rw [← hrun.1]
    exact hF.2 u
  | cons A i r B l hi hs ih =>
    intro hops hnd s M J tmps w hF hH hM hrun hids Q hQ
    have hmem : (i, r) ∈ A ++ (i, r) :: B := List.mem_append_right _ (List.mem_cons_self ..)
    have hsub : ∀ p ∈ A ++ B, p ∈ A ++ (i, r) :: B := fun p hp => (List.mem_append.1 hp).elim (fun h => List.mem_append_left _ h) fun h => List.mem_append_right _ (List.mem_cons_of_mem _ h)
    obtain ⟨o0, ho, hc⟩ := hops _ hmem
    obtain ⟨c1, c2, c3⟩ := coper_some hc
    simp only [List.map_append, List.map_cons] at hrun
    have hhave : Have (A.map (·.2) ++ r :: B.map (·.2)) s.2 := by
      intro q hq _
      have : ∃ p ∈ A ++ (i, r) :: B, p.2 = q := by
        rcases List.mem_append.1 hq with h | h
        · obtain ⟨p, hp, rfl⟩ := List.mem_map.1 h
          exact ⟨p, List.mem_append_left _ hp, rfl⟩
        · cases h with
          | head => exact ⟨(i, r), hmem, rfl⟩
          | tail _ h =>
            obtain ⟨p, hp, rfl⟩ := List.mem_map.1 h
            exact ⟨p, List.mem_append_right _ (List.mem_cons_of_mem _ hp), rfl⟩
      obtain ⟨p, hp, rfl⟩ := this
      exact (hids p hp).1
    obtain ⟨s1, hstep, hrest⟩ := Run.bubble hrun (fun a ha => by
      obtain ⟨p, hp, rfl⟩ := List.mem_map.1 ha
      exact hi p hp) hhave
    have hid := hids _ hmem
    have hne : ∀ p ∈ A ++ B, p.2.id ≠ r.id := by
      intro p hp e
      simp only [List.map_append, List.map_cons] at hnd
      rw [List.nodup_append] at hnd
      rcases List.mem_append.1 hp with h | h
      · exact hnd.2.2 p.2.id (List.mem_map.2 ⟨p, h, rfl⟩) r.id (List.mem_cons_self ..) e
      · have := (List.nodup_cons.1 hnd.2.1).1
        exact this (List.mem_map.2 ⟨p, h, e⟩)
    have hnd' : ((A ++ B).map (·.2.id)).Nodup := by
      simp only [List.map_append, List.map_cons] at hnd ⊢
      rw [List.nodup_append] at hnd ⊢
      exact ⟨hnd.1, (List.nodup_cons.1 hnd.2.1).2, fun a ha b hb => hnd.2.2 a ha b (List.mem_cons_of_mem _ hb)⟩
    have hkeep : ∀ p ∈ A ++ B, (hget s1.2 p.2.id.1 p.2.id.2).isSome := by
      intro p hp
      obtain ⟨_, _, _, _, _, a4, a5⟩ := hstep.ext (s2 := s) (fun _ _ => rfl) (fun _ _ => rfl) (fun _ => ⟨hid.1, hid.1⟩)
      by_cases hw : (p.2.id.1, p.2.id.2) ∈ r.wr
      · exact a5 _ _ hw
      · rw [a4 _ _ hw]
        exact (hids p (hsub p hp)).1
    have hrest' : Run P ((A ++ B).map (·.2)) s1 t := by rw [List.map_append]; exact hrest
    have go : ∀ (M' : Mem) (J' : Inj) (tmps' : Array Value) (w' : World), Step k M J s.2 w M' J' s1.2 w' → FRep N M' J' s1.1 tmps' → (∀ g i, ¬ (g = r.id.1 ∧ i = r.id.2) → J' g i = J g i) → wpOps P ops Q l ⟨tmps', []⟩ w' := by
      intro M' J' tmps' w' hst hF' hJ'
      refine ih (fun p hp => hops p (hsub p hp)) hnd' s1 M' J' tmps' w' hF' hst.hrep hst.mrep hrest' (fun p hp => ⟨hkeep p hp, ?_⟩) Q fun a' w'' hp => hQ a' w'' ?_
      · rw [hJ' _ _ fun ⟨e1, e2⟩ => hne p hp (Prod.ext e1 e2)]
        exact (hids p (hsub p hp)).2
      · obtain ⟨M2, J2, fr2, H2, q1, q2, q3, q4⟩ := hp
        exact ⟨M2, J2, fr2, H2, hst.trans q1, q2, q3, q4⟩
    obtain ⟨hf, hcase⟩ := hstep
    rcases hcase with ⟨h1, o, h2, h3, h4, h5⟩ | ⟨h1, h2, h3, h4, f, args, h5, h6⟩ | ⟨h1, h2, h3, h4, h5⟩
    · have hw := gok_sound hF c2 h1
      have hcop : cop P o0.op = some o := by
        rw [h2] at c3
        unfold cact at c3
        split at c3
        · cases c3
        · cases c3
        · simp only [Option.map_eq_some_iff, IAct.op.injEq] at c3
          obtain ⟨a, ha, rfl⟩ := c3
          exact ha
      obtain ⟨cv, w', J', hrun', hrep, hext, hst, hJ'⟩ := cop_sound (ds := []) hcop hF hH hM (.inl hid.1) hid.2 h3
      simp only [wpOps, ho, hw, if_true]
      left
      have hnext : wpOps P ops Q l (Act.put ⟨tmps, []⟩ o0.dst cv) w' := by
        rw [put_defers]
        refine go M J' _ w' (hst k) ?_ hJ'
        rw [hf]
        exact (hF.ext hext).put c1 hrep
      rcases hrun' with hrun' | ⟨hrun', rfl⟩
      · simp only [Oper.wp, hrun', Oper.upon]; exact hnext
      · simp only [Oper.wp, hrun', Oper.upon]; exact hnext
    · have hw := gok_sound hF c2 h1
      simp only [wpOps, ho, hw, if_true]
      left
      rw [h5] at c3
      unfold cact at c3
      split at c3
      · rename_i f' args' ts hop
        simp only [Option.some.injEq, IAct.call.injEq] at c3
        obtain ⟨rfl, rfl⟩ := c3
        obtain ⟨e1, e2⟩ := avals_rep (ds := []) hF args'.toList _ rfl args' rfl
        have hexec : (execOp (Act.eval ⟨tmps, []⟩) o0).run P w = .ok (.enter f' (args'.map (Act.eval ⟨tmps, []⟩))) w := by
          have he : Act.eval ⟨tmps, []⟩ (.func f') = .func (.func f') #[] #[] := rfl
          simp only [execOp, hop, resolve, he, Deferred.ofValue, Sem.run_bind, Sem.run_pure, Result.andThen_ok, invoke]
          rw [show #[] ++ args'.map (Act.eval ⟨tmps, []⟩) ++ #[] = args'.map (Act.eval ⟨tmps, []⟩) by simp]
          exact run_callFunc h6.1 _ _
        simp only [Oper.wp, hexec, Oper.upon]
        refine (h6.2 M J w _ e1 e2 hM).mono ?_
        rintro e w' ⟨cv, M', rfl, p1, p2, p3, p4, p5, p6, p7, p8, p9⟩
        simp only
        rw [put_defers]
        refine go M' J _ w' ((PureRun.step k hH p1 p2 p3 p4 p5 p6 p7 p8).eqv fun a b => (h4 a b).symm) ?_ fun _ _ _ => rfl
        rw [hf]
        exact (hF.ext ⟨p1, fun _ _ _ h => h⟩).put c1 (p9 J)
      · cases c3
      · simp only [Option.map_eq_some_iff] at c3
        obtain ⟨a, _, ha⟩ := c3
        cases ha
    · have hw := gok_sound hF c2 h1
      simp only [wpOps, ho, hw, Bool.false_eq_true, if_false]
      rw [put_defers]
      refine go M J _ w ((Step.refl k hH hM).eqv fun a b => (h5 a b).symm) ?_ fun _ _ _ => rfl
      rw [hf, h4]
      exact hF.put c1 (.sc _)

/-! The orders that the model draws. -/

/-- a stands before b, through edges that bind. -/
inductive Bef (af : Nat → List Nat) : Nat → Nat → Prop
  | base {a b : Nat} (h : a ∈ af b) : Bef af a b
  | step {a m b : Nat} (h : m ∈ af b) (h' : Bef af a m) : Bef af a b

theorem Bef.closed {af : Nat → List Nat} {D : Nat → Prop} (hD : ∀ j, D j → ∀ k ∈ af j, D k) {a b : Nat} (h : Bef af a b) (hb : ∀ k ∈ af b, D k) : D a := by
  induction h with
  | base h => exact hb _ h
  | step h _ ih => exact ih (hD _ (hb _ h))

def afterOf (ops : Array Oper) (j : Nat) : List Nat := match ops[j]? with | some o => cafter o | none => []

/-- An order of the numbers that are left: what I does not let pass stands behind. -/
inductive SchedI (I : Nat → Nat → Prop) : List Nat → List Nat → Prop
  | nil : SchedI I [] []
  | cons (A : List Nat) (i : Nat) (B : List Nat) (l : List Nat) (h : ∀ a ∈ A, I a i) (hs : SchedI I (A ++ B) l) : SchedI I (A ++ i :: B) (i :: l)

theorem SchedI.to {I : Nat → Nat → Prop} {R : Nat → RRec} (hI : ∀ a b, I a b → indep (R a) (R b) = true) {rem l : List Nat} (h : SchedI I rem l) : Sched (rem.map fun j => (j, R j)) l := by
  induction h with
  | nil => exact .nil
  | cons A i B l h _ ih =>
    simp only [List.map_append, List.map_cons] at ih ⊢
    refine .cons _ _ _ _ _ (fun a ha => ?_) ih
    obtain ⟨a', ha', rfl⟩ := List.mem_map.1 ha
    exact hI _ _ (h a' ha')

theorem SchedI.nil_inv {I : Nat → Nat → Prop} {rem l : List Nat} (h : SchedI I rem l) (e : rem = []) : l = [] := by
  cases h with
  | nil => rfl
  | cons => simp at e

/-- What nothing passes stands last. -/
theorem SchedI.last {I : Nat → Nat → Prop} {n : Nat} (hn : ∀ a, ¬ I a n) {all l : List Nat} (h : SchedI I all l) : ∀ rem : List Nat, n ∉ rem → all = rem ++ [n] → ∃ l', l = l' ++ [n] ∧ SchedI I rem l' := by
  induction h with
  | nil => intro rem _ e; simp at e
  | cons A i B l h hs ih =>
    intro rem hnr e
    rcases List.eq_nil_or_concat B with rfl | ⟨B', b, rfl⟩
    · have h1 : A = rem ∧ i = n := by
        have := List.append_inj' e rfl
        exact ⟨this.1, by simpa using this.2⟩
      obtain ⟨rfl, rfl⟩ := h1
      cases A with
      | nil =>
        have := hs.nil_inv rfl
        subst this
        exact ⟨[], rfl, .nil⟩
      | cons a A => exact absurd (h a (List.mem_cons_self ..)) (hn a)
    · have h1 : A ++ i :: B' = rem ∧ b = n := by
        rw [show A ++ i :: (B'.concat b) = (A ++ i :: B') ++ [b] by simp] at e
        have := List.append_inj' e rfl
        exact ⟨this.1, by simpa using this.2⟩
      obtain ⟨rfl, rfl⟩ := h1
      obtain ⟨l', h2, h3⟩ := ih (A ++ B') (by simp at hnr ⊢; exact ⟨hnr.1, hnr.2.2⟩) (by simp)
      exact ⟨i :: l', by rw [h2]; rfl, .cons _ _ _ _ h h3⟩

theorem linearise_schedI (ops : Array Oper) (I : Nat → Nat → Prop) (hlt : ∀ j, ∀ k ∈ afterOf ops j, k < j) (hind : ∀ a b, a < b → b < ops.size → Bef (afterOf ops) a b ∨ I a b) (t : Nat) :
    SchedI I (List.range ops.size) (Region.linearise .any ops t) := by
  have key : ∀ (fuel t : Nat) (listed : Array Bool) (acc : List Nat), listed.size = ops.size → (∀ j, listed.getD j false = true → ∀ k ∈ afterOf ops j, listed.getD k false = true) →
      ((List.range ops.size).filter fun j => !listed.getD j true).length ≤ fuel →
      ∃ l, Region.linearise.go .any ops fuel t listed acc = acc.reverse ++ l ∧ SchedI I ((List.range ops.size).filter fun j => !listed.getD j true) l := by
    intro fuel
    induction fuel with
    | zero =>
      intro t listed acc _ _ hf
      have : ((List.range ops.size).filter fun j => !listed.getD j true) = [] := List.eq_nil_of_length_eq_zero (by omega)
      rw [this]
      exact ⟨[], by simp [Region.linearise.go], .nil⟩
    | succ fuel ih =>
      intro t listed acc hsz hcl hf
      unfold Region.linearise.go
      simp only
      generalize hrs : ((List.range ops.size).filter fun i => !listed.getD i true && ((ops[i]?).map (fun o => o.after.all fun e => !Region.binds .any e || listed.getD e.on false)).getD false) = rs
      have hrdy : ∀ i, i ∈ rs ↔ i < ops.size ∧ listed.getD i true = false ∧ ∀ k ∈ afterOf ops i, listed.getD k false = true := by
        intro i
        rw [← hrs, List.mem_filter, List.mem_range]
        constructor
        · rintro ⟨h1, h2⟩
          simp only [Bool.and_eq_true, Bool.not_eq_true'] at h2
          refine ⟨h1, h2.1, fun k hk => ?_⟩
          have ho : ops[i]? = some ops[i] := Array.getElem?_eq_getElem h1
          have h3 := h2.2
          rw [ho] at h3
          simp only [Option.map_some, Option.getD_some, Array.all_eq_true] at h3
          simp only [afterOf, ho, cafter, List.mem_map, List.mem_filter] at hk
          obtain ⟨e, ⟨he, hbind⟩, rfl⟩ := hk
          obtain ⟨q, hq, rfl⟩ := List.mem_iff_getElem.1 he
          simp at hq
          have := h3 q hq
          simp only [Array.getElem_toList] at hbind ⊢
          rw [hbind] at this
          simpa using this
        · rintro ⟨h1, h2, h3⟩
          refine ⟨h1, ?_⟩
          have ho : ops[i]? = some ops[i] := Array.getElem?_eq_getElem h1
          simp only [h2, Bool.not_false, Bool.true_and, ho, Option.map_some, Option.getD_some, Array.all_eq_true]
          intro q hq
          cases hb : Region.binds .any ops[i].after[q] with
          | false => simp
          | true =>
            simp only [Bool.not_true, Bool.false_or]
            refine h3 _ ?_
            simp only [afterOf, ho, cafter, List.mem_map, List.mem_filter]
            exact ⟨ops[i].after[q], ⟨by simp, hb⟩, rfl⟩
      have hgetD : ∀ j, j < ops.size → listed.getD j true = listed.getD j false := by
        intro j hj
        have : j < listed.size := by omega
        simp [Array.getD, this]
      by_cases hemp : ((List.range ops.size).filter fun j => !listed.getD j true) = []
      · have : rs = [] := by
          cases hr : rs with
          | nil => rfl
          | cons i r =>
            have hi := (hrdy i).1 (by rw [hr]; exact List.mem_cons_self ..)
            have : i ∈ ((List.range ops.size).filter fun j => !listed.getD j true) := List.mem_filter.2 ⟨List.mem_range.2 hi.1, by simp [hi.2.1]⟩
            rw [hemp] at this
            cases this
        rw [this, hemp]
        exact ⟨[], by simp, .nil⟩
      · -- the first that is not listed is ready
        have hne : rs ≠ [] := by
          intro hnil
          have hall : ∀ j, j < ops.size → listed.getD j false = true := by
            intro j
            induction j using Nat.strongRecOn with
            | _ j ihj =>
              intro hj
              cases hl : listed.getD j false with
              | true => rfl
              | false =>
                have : j ∈ rs := (hrdy j).2 ⟨hj, by rw [hgetD j hj]; exact hl, fun k hk => ihj k (hlt j k hk) (by have := hlt j k hk; omega)⟩
                rw [hnil] at this
                cases this
          apply hemp
          rw [List.filter_eq_nil_iff]
          intro j hj
          have hj := List.mem_range.1 hj
          simp [hgetD j hj, hall j hj]
        have hpos : 0 < rs.length := List.length_pos_iff.2 hne
        have hmod : t % rs.length < rs.length := Nat.mod_lt _ hpos
        rw [List.getElem?_eq_getElem hmod]
        generalize hi : rs[t % rs.length] = i
        have himem : i ∈ rs := hi ▸ List.getElem_mem hmod
        obtain ⟨r1, r2, r3⟩ := (hrdy i).1 himem
        have hifil : i ∈ ((List.range ops.size).filter fun j => !listed.getD j true) := List.mem_filter.2 ⟨List.mem_range.2 r1, by simp [r2]⟩
        obtain ⟨A, B, hAB⟩ := List.append_of_mem hifil
        have hpw : List.Pairwise (· < ·) ((List.range ops.size).filter fun j => !listed.getD j true) := List.Pairwise.filter _ List.pairwise_lt_range
        rw [hAB] at hpw
        have hA : ∀ a ∈ A, a < i := fun a ha => (List.pairwise_append.1 hpw).2.2 a ha i (List.mem_cons_self ..)
        have hB : ∀ b ∈ B, i < b := fun b hb => (List.pairwise_cons.1 (List.pairwise_append.1 hpw).2.1).1 b hb
        have hget' : ∀ j, (listed.setIfInBounds i true).getD j true = (listed.getD j true || decide (j = i)) := by
          intro j
          rw [Array.getD_eq_getD_getElem?, Array.getElem?_setIfInBounds, Array.getD_eq_getD_getElem?]
          by_cases e : i = j
          · subst e
            rw [if_pos rfl, if_pos (by omega)]
            simp
          · rw [if_neg e]
            have : decide (j = i) = false := by simp; exact fun h => e h.symm
            rw [this, Bool.or_false]
        have hget'' : ∀ j, (listed.setIfInBounds i true).getD j false = true ↔ (listed.getD j false = true ∨ j = i) := by
          intro j
          rw [Array.getD_eq_getD_getElem?, Array.getElem?_setIfInBounds, Array.getD_eq_getD_getElem?]
          by_cases e : i = j
          · subst e
            rw [if_pos rfl, if_pos (by omega)]
            simp
          · rw [if_neg e]
            constructor
            · exact fun h => .inl h
            · rintro (h | h)
              · exact h
              · exact absurd h.symm e
        have hfil' : ((List.range ops.size).filter fun j => !(listed.setIfInBounds i true).getD j true) = A ++ B := by
          have h1 : ((List.range ops.size).filter fun j => !(listed.setIfInBounds i true).getD j true) = ((List.range ops.size).filter fun j => !listed.getD j true).filter fun j => !decide (j = i) := by
            rw [List.filter_filter]
            congr 1
            funext j
            rw [hget']
            cases listed.getD j true <;> cases decide (j = i) <;> rfl
          rw [h1, hAB, List.filter_append, List.filter_cons]
          have h2 : A.filter (fun j => !decide (j = i)) = A := List.filter_eq_self.2 fun a ha => by have := hA a ha; simp; omega
          have h3 : B.filter (fun j => !decide (j = i)) = B := List.filter_eq_self.2 fun b hb => by have := hB b hb; simp; omega
          rw [h2, h3]
          simp
        obtain ⟨l, hl1, hl2⟩ := ih (t / rs.length) (listed.setIfInBounds i true) (i :: acc) (by simp [hsz]) (by
          intro j hj k hk
          rw [hget''] at hj ⊢
          left
          rcases hj with hj | rfl
          · exact hcl j hj k hk
          · exact r3 k hk) (by
          rw [hfil']
          rw [hAB] at hf
          simp at hf ⊢
          omega)
        refine ⟨i :: l, by
          show Region.linearise.go .any ops fuel (t / rs.length) (listed.setIfInBounds i true) (i :: acc) = _
          rw [hl1]; simp, ?_⟩
        rw [hfil'] at hl2
        rw [hAB]
        refine .cons _ _ _ _ (fun a' ha' => ?_) hl2
        rcases hind a' i (hA a' ha') r1 with hb | hb
        · exfalso
          have hlist := hb.closed (D := fun j => listed.getD j false = true) hcl r3
          have hun : a' ∈ ((List.range ops.size).filter fun j => !listed.getD j true) := by rw [hAB]; exact List.mem_append_left _ ha'
          have := (List.mem_filter.1 hun)
          rw [hgetD a' (List.mem_range.1 this.1), hlist] at this
          simp at this
        · exact hb
  obtain ⟨l, h1, h2⟩ := key ops.size t (Array.replicate ops.size false) [] (by simp) (by
    intro j hj
    rw [Array.getD_eq_getD_getElem?, Array.getElem?_replicate] at hj
    split at hj <;> simp at hj) (Nat.le_trans (List.length_filter_le _ _) (by simp))
  have hnil : ((List.range ops.size).filter fun j => !(Array.replicate ops.size false).getD j true) = List.range ops.size := by
    rw [List.filter_eq_self]
    intro j hj
    have hj := List.mem_range.1 hj
    simp [Array.getD, hj]
  rw [hnil] at h2
  unfold Region.linearise
  rw [h1]
  simpa using h2

theorem linearise_sched (ops : Array Oper) (R : Nat → RRec) (hlt : ∀ j, ∀ k ∈ afterOf ops j, k < j) (hind : ∀ a b, a < b → b < ops.size → Bef (afterOf ops) a b ∨ indep (R a) (R b) = true) (t : Nat) :
    Sched ((List.range ops.size).map fun j => (j, R j)) (Region.linearise .any ops t) :=
  (linearise_schedI ops (fun a b => indep (R a) (R b) = true) hlt hind t).to fun _ _ h => h

end Go.Av
namespace Go.Av

def befB (af : List (List Nat)) : Nat → Nat → Nat → Bool
  | 0, _, _ => false
  | f + 1, a, b => match af[b]? with
    | some l => l.any (Nat.beq a) || l.any fun m => befB af f a m
    | none => false

theorem befB_sound {af : List (List Nat)} {F : Nat → List Nat} (hF : ∀ j l, af[j]? = some l → F j = l) : ∀ (f a b : Nat), befB af f a b = true → Bef F a b
  | 0, _, _, h => by simp [befB] at h
  | f + 1, a, b, h => by
    simp only [befB] at h
    split at h
    · rename_i l hl
      have hb := hF b l hl
      simp only [Bool.or_eq_true, List.any_eq_true] at h
      rcases h with ⟨k, hk, he⟩ | ⟨m, hm, he⟩
      · have : a = k := Nat.eq_of_beq_eq_true he
        subst this
        exact .base (by rw [hb]; exact hk)
      · exact .step (by rw [hb]; exact hm) (befB_sound hF f a m he)
    · cases h

/-- The operations that no edge orders may change places; edges lead back. -/
def chkB (af : List (List Nat)) (R : List RRec) (b : Nat) (rb : RRec) : Nat → List RRec → Bool
  | _, [] => true
  | a, ra :: l => (Nat.ble b a || (befB af af.length a b || indep ra rb)) && chkB af R b rb (a + 1) l

def chkAll (af : List (List Nat)) (R : List RRec) : Nat → List RRec → Bool
  | _, [] => true
  | b, rb :: l => chkB af R b rb 0 R && chkAll af R (b + 1) l

def lowB : Nat → List (List Nat) → Bool
  | _, [] => true
  | j, l :: r => l.all (fun k => Nat.blt k j) && lowB (j + 1) r

def chk (af : List (List Nat)) (R : List RRec) : Bool := lowB 0 af && chkAll af R 0 R

theorem chkB_sound {af R b rb} : ∀ (l : List RRec) (a0 : Nat), chkB af R b rb a0 l = true → ∀ (j : Nat) ra, l[j]? = some ra → a0 + j < b → befB af af.length (a0 + j) b = true ∨ indep ra rb = true
  | [], _, _, j, ra, h, _ => by simp at h
  | r :: l, a0, h, j, ra, hj, hlt => by
    simp only [chkB, Bool.and_eq_true, Bool.or_eq_true] at h
    cases j with
    | zero =>
      simp at hj
      subst hj
      rcases h.1 with h1 | h1
      · have := Nat.le_of_ble_eq_true h1; omega
      · exact h1
    | succ j =>
      have := chkB_sound l (a0 + 1) h.2 j ra (by simpa using hj) (by omega)
      rwa [show a0 + 1 + j = a0 + (j + 1) by omega] at this

theorem chkAll_sound {af R} : ∀ (l : List RRec) (b0 : Nat), chkAll af R b0 l = true → ∀ (j : Nat) rb, l[j]? = some rb → chkB af R (b0 + j) rb 0 R = true
  | [], _, _, j, rb, h => by simp at h
  | r :: l, b0, h, j, rb, hj => by
    simp only [chkAll, Bool.and_eq_true] at h
    cases j with
    | zero => simp at hj; subst hj; exact h.1
    | succ j =>
      have := chkAll_sound l (b0 + 1) h.2 j rb (by simpa using hj)
      rwa [show b0 + 1 + j = b0 + (j + 1) by omega] at this

theorem lowB_sound : ∀ (l : List (List Nat)) (j0 : Nat), lowB j0 l = true → ∀ (j : Nat) as, l[j]? = some as → ∀ k ∈ as, k < j0 + j
  | [], _, _, j, as, h => by simp at h
  | r :: l, j0, h, j, as, hj => by
    simp only [lowB, Bool.and_eq_true, List.all_eq_true] at h
    cases j with
    | zero =>
      simp at hj
      subst hj
      intro k hk
      have : k < j0 := Nat.le_of_ble_eq_true (h.1 k hk)
      omega
    | succ j =>
      have := lowB_sound l (j0 + 1) h.2 j as (by simpa using hj)
      rwa [show j0 + 1 + j = j0 + (j + 1) by omega] at this

/-- The region's operations in the order of the text. -/
inductive DRun (P : Program) (base : Nat) : Nat → List IOper → Fr → Heap → List RRec → Fr → Heap → Prop
  | nil (j : Nat) (fr : Fr) (H : Heap) : DRun P base j [] fr H [] fr H
  | op {j : Nat} {x : IOper} {xs : List IOper} {fr : Fr} {H : Heap} {o : IOp} {v : AV} {H1 : Heap} {R : List RRec} {fr' : Fr} {H' : Heap} (hg : gok fr x.guard = some true) (hx : x.act = .op o)
      (hs : dstep base j o fr H = some (v, H1)) (h : DRun P base (j + 1) xs (fr.put x.dst v) H1 R fr' H') : DRun P base j (x :: xs) fr H (⟨x, (base, j), v, drd fr o, dwr base j fr o⟩ :: R) fr' H'
  | call {j : Nat} {x : IOper} {xs : List IOper} {fr : Fr} {H : Heap} {f : FuncId} {args : List Operand} {v : AV} {R : List RRec} {fr' : Fr} {H' : Heap} (hg : gok fr x.guard = some true) (hx : x.act = .call f args)
      (hc : PureRun P f (avals fr args) v) (h : DRun P base (j + 1) xs (fr.put x.dst v) H R fr' H') : DRun P base j (x :: xs) fr H (⟨x, (base, j), v, [], []⟩ :: R) fr' H'
  | skip {j : Nat} {x : IOper} {xs : List IOper} {fr : Fr} {H : Heap} {R : List RRec} {fr' : Fr} {H' : Heap} (hg : gok fr x.guard = some false)
      (h : DRun P base (j + 1) xs (fr.put x.dst (.sc Go.undef)) H R fr' H') : DRun P base j (x :: xs) fr H (⟨x, (base, j), .sc Go.undef, [], []⟩ :: R) fr' H'

theorem DRun.run {P base j xs fr H R fr' H'} (h : DRun P base j xs fr H R fr' H') : Run P R (fr, H) (fr', H') := by
  induction h with
  | nil => exact Eqv.refl _
  | op hg hx hs _ ih => exact ⟨_, ⟨rfl, .inl ⟨hg, _, hx, hs, rfl, rfl⟩⟩, ih⟩
  | @call j x xs fr H f args v R fr' H' hg hx hc _ ih => exact ⟨(fr.put x.dst v, H), ⟨rfl, .inr (.inl ⟨hg, rfl, rfl, fun _ _ => rfl, _, _, hx, hc⟩)⟩, ih⟩
  | @skip j x xs fr H R fr' H' hg _ ih => exact ⟨(fr.put x.dst (.sc Go.undef), H), ⟨rfl, .inr (.inr ⟨hg, rfl, rfl, rfl, fun _ _ => rfl⟩)⟩, ih⟩

theorem DRun.recs {P base j xs fr H R fr' H'} (h : DRun P base j xs fr H R fr' H') : R.map (·.x) = xs ∧ ∀ (i : Nat) r, R[i]? = some r → r.id = (base, j + i) := by
  induction h with
  | nil => exact ⟨rfl, fun i r h => by simp at h⟩
  | op _ _ _ _ ih =>
    refine ⟨by simp [ih.1], fun i r h => ?_⟩
    cases i with
    | zero => simp at h; subst h; rfl
    | succ i => rw [ih.2 i r (by simpa using h)]; congr 1; omega
  | call _ _ _ _ ih =>
    refine ⟨by simp [ih.1], fun i r h => ?_⟩
    cases i with
    | zero => simp at h; subst h; rfl
    | succ i => rw [ih.2 i r (by simpa using h)]; congr 1; omega
  | skip _ _ ih =>
    refine ⟨by simp [ih.1], fun i r h => ?_⟩
    cases i with
    | zero => simp at h; subst h; rfl
    | succ i => rw [ih.2 i r (by simpa using h)]; congr 1; omega

theorem hget_append (H : Heap) (f : List Blk) (g i : Nat) : hget (H ++ [f]) g i = if g = H.length then f[i]? else hget H g i := by
  unfold hget
  rw [List.getElem?_append]
  by_cases h : g < H.length
  · rw [if_pos h, if_neg (by omega)]
  · rw [if_neg h]
    by_cases e : g = H.length
    · subst e; simp
    · rw [if_neg e, List.getElem?_eq_none (by simp; omega), List.getElem?_eq_none (by omega)]

theorem copers_len {P : Program} {N : Nat} {ops : Array Oper} : ∀ (l : List Oper) (xs : List IOper), copers P N ops l = some xs → xs.length = l.length ∧ ∀ (j : Nat) o, l[j]? = some o → ∃ x, xs[j]? = some x ∧ coper P N ops o = some x
  | [], xs, h => by
    simp [copers] at h
    subst h
    exact ⟨rfl, fun j o h => by simp at h⟩
  | o :: l, xs, h => by
    simp only [copers] at h
    split at h
    · rename_i x ys h1 h2
      injection h with h
      subst h
      obtain ⟨h3, h4⟩ := copers_len l ys h2
      refine ⟨by simp [h3], fun j o' hj => ?_⟩
      cases j with
      | zero => simp at hj; subst hj; exact ⟨x, rfl, h1⟩
      | succ j => exact h4 j o' (by simpa using hj)
    · cases h

/-- A region whose order is open. -/
theorem AWP.draw {P : Program} {N k : Nat} {fr : Fr} {H : Heap} {Q : Exit → Fr → Heap → Prop} {xs : List IOper} {af : List (List Nat)} {R : List RRec} {fr' : Fr} {H' : Heap} (hp : P.follows .mixedOrders = true)
    (hrun : DRun P H.length 0 xs fr (H ++ [List.replicate xs.length .dead]) R fr' H') (hchk : chk af R = true) (h : Q .normal fr' H') : AWP P N k (.draw xs af) Q fr H := by
  intro c0 hc M J tmps w hF hH hM
  cases c0 with
  | region id ops draw =>
    simp only [ccode] at hc
    split at hc
    · rename_i ys hys
      cases draw with
      | false => cases hc
      | true =>
        injection hc with hc
        injection hc with hc1 hc2
        subst hc1; subst hc2
        refine wp_region_draw fun t => ?_
        rw [hp]
        have hsch : Region.schedule true ops t = Region.linearise .any ops t := by simp [Region.schedule]
        rw [hsch]
        obtain ⟨hlen, hgx⟩ := copers_len _ _ hys
        obtain ⟨hrx, hrid⟩ := hrun.recs
        have hRlen : R.length = ops.size := by
          have := congrArg List.length hrx
          simp at this
          rw [this, hlen]
          simp
        let R' : Nat → RRec := fun j => R.getD j ⟨⟨none, none, .call 0 []⟩, (0, 0), .undef, [], []⟩
        have hR' : ∀ j, j < ops.size → R[j]? = some (R' j) := by
          intro j hj
          have : j < R.length := by omega
          simp [R', List.getD, this]
        have haf : ∀ j l, (ops.toList.map cafter)[j]? = some l → afterOf ops j = l := by
          intro j l hj
          rw [List.getElem?_map, Array.getElem?_toList] at hj
          unfold afterOf
          cases ho : ops[j]? with
          | none => rw [ho] at hj; cases hj
          | some o => rw [ho] at hj; simpa using hj
        simp only [chk, Bool.and_eq_true] at hchk
        have hs := linearise_sched ops R' (fun j k hk => by
          have hl : (ops.toList.map cafter)[j]? = some (afterOf ops j) := by
            rw [List.getElem?_map, Array.getElem?_toList]
            unfold afterOf at hk ⊢
            cases ho : ops[j]? with
            | none => rw [ho] at hk; cases hk
            | some o => rfl
          have := lowB_sound _ 0 hchk.1 j _ hl k hk
          omega) (fun a b hab hb => by
          have h1 := chkAll_sound _ 0 hchk.2 b _ (hR' b hb)
          rcases chkB_sound _ 0 h1 a _ (hR' a (by omega)) (by omega) with h2 | h2
          · left
            rw [Nat.zero_add, Nat.zero_add] at h2
            exact befB_sound haf _ _ _ h2
          · exact .inr h2) t
        have hrem : ((List.range ops.size).map fun j => (j, R' j)).map (·.2) = R := by
          apply List.ext_getElem?
          intro j
          rw [List.map_map, List.getElem?_map]
          by_cases hj : j < ops.size
          · rw [hR' j hj, List.getElem?_range hj]
            rfl
          · have h1 : (List.range ops.size)[j]? = none := List.getElem?_eq_none (by rw [List.length_range]; omega)
            have h2 : R[j]? = none := List.getElem?_eq_none (by omega)
            rw [h1, h2]
            rfl
        have hdead : ∀ g i x, hget (H ++ [List.replicate ys.length Blk.dead]) g i = some x → x.live = true → hget H g i = some x := by
          intro g i x hx hl
          rw [hget_append] at hx
          split at hx
          · rw [List.getElem?_replicate] at hx
            split at hx
            · injection hx with hx; subst hx; cases hl
            · cases hx
          · exact hx
        have hH0 : HRep M J (H ++ [List.replicate ys.length .dead]) w.heap := by
          refine ⟨fun g i x hx hl => hH.blk g i x (hdead g i x hx hl) hl, fun g i g' i' l l' β ⟨x, hx, hl⟩ ⟨y, hy, hl'⟩ => hH.inj g i g' i' l l' β ⟨x, hdead _ _ _ hx hl, hl⟩ ⟨y, hdead _ _ _ hy hl', hl'⟩,
            fun g i l β ⟨x, hx, hl⟩ => hH.out g i l β ⟨x, hdead _ _ _ hx hl, hl⟩, fun g i l hJ => ?_⟩
          have := hH.dom g i l hJ
          refine ⟨?_, this.2⟩
          rw [hget_append]
          split
          · rename_i e
            subst e
            have h2 := this.1
            simp [hget] at h2
          · exact this.1
        have hids : ∀ j, j < ops.size → (R' j).id = (H.length, j) := fun j hj => by rw [hrid j _ (hR' j hj), Nat.zero_add]
        refine run_sched (k := k) (N := N) (t := (fr', H')) hs (fun p hp => ?_) ?_ (fr, H ++ [List.replicate ys.length .dead]) M J tmps { w with drawn := w.drawn + 1 } hF hH0 hM (by rw [hrem]; exact hrun.run) (fun p hp => ?_) _ fun a' w' hp => ?_
        · obtain ⟨j, hj, rfl⟩ := List.mem_map.1 hp
          have hj := List.mem_range.1 hj
          have ho : ops[j]? = some ops[j] := Array.getElem?_eq_getElem hj
          obtain ⟨x, hx1, hx2⟩ := hgx j ops[j] (by rw [Array.getElem?_toList]; exact ho)
          refine ⟨ops[j], ho, ?_⟩
          have : some (R' j).x = some x := by
            rw [← hx1, ← hrx, List.getElem?_map, hR' j hj]
            rfl
          injection this with this
          rw [this]
          exact hx2
        · rw [List.map_map]
          have he : (List.range ops.size).map ((fun x : Nat × RRec => x.2.id) ∘ fun j => (j, R' j)) = (List.range ops.size).map fun j => (H.length, j) :=
            List.map_congr_left fun j hj => hids j (List.mem_range.1 hj)
          rw [he]
          exact List.Pairwise.map _ (fun a b hab e => hab (by injection e)) List.nodup_range
        · obtain ⟨j, hj, rfl⟩ := List.mem_map.1 hp
          have hj := List.mem_range.1 hj
          rw [hids j hj]
          refine ⟨?_, ?_⟩
          · rw [hget_append, if_pos rfl, List.getElem?_replicate, if_pos (by rw [hlen]; simpa using hj)]
            rfl
          · cases e : J H.length j with
            | none => rfl
            | some l =>
              have := (hH.dom _ _ l e).1
              simp [hget] at this
        · obtain ⟨M2, J2, fr2, H2, q1, q2, q3, q4, q5⟩ := hp
          subst q4; subst q5
          refine ⟨M2, J2, fr2, H2, ?_, q2, q3, h⟩
          have hlive : ∀ g i, liveAt (H ++ [List.replicate ys.length Blk.dead]) g i → liveAt H g i := fun g i ⟨x, hx, hl⟩ => ⟨x, hdead g i x hx hl, hl⟩
          exact ⟨q1.m, q1.j, q1.hrep, q1.mrep, q1.os, q1.tape, q1.output, q1.size, fun β o ho hn => q1.frame β o ho fun g i l hl hJ => hn g i l (hlive g i hl) hJ,
            fun β o ho => or2 (q1.fresh β o ho) (fun h => h) fun h => or2 h (fun h => h) fun ⟨g, i, l, a, b, c⟩ => ⟨g, i, l, hlive g i a, b, c⟩,
            fun g i l β a b c => or2 (q1.live g i l β a b c) (fun ⟨g0, i0, l0, a, b, c⟩ => ⟨g0, i0, l0, hlive g0 i0 a, b, c⟩) fun h => h⟩
    · cases hc
  | _ => simp only [ccode] at hc; (try split at hc) <;> (try cases hc) <;> (try simp at hc)

end Go.Av
namespace Go.Av

/-! What a walk uses. -/

theorem wrap_small {n : Int} (h1 : -9223372036854775808 ≤ n) (h2 : n ≤ 9223372036854775807) : IntKind.i64.wrap n = n := by
  rw [IntKind.wrap_i64]; omega

theorem Ren.int {ρ : Nat → Nat → Option (Nat × Nat)} {k : IntKind} {a b : Int} (h : a = b) : Ren ρ (.sc (.int k a)) (.sc (.int k b)) := by subst h; exact .sc _
theorem Ren.bool {ρ : Nat → Nat → Option (Nat × Nat)} {a b : Bool} (h : a = b) : Ren ρ (.sc (.bool a)) (.sc (.bool b)) := by subst h; exact .sc _
theorem Ren.of_eq {ρ : Nat → Nat → Option (Nat × Nat)} {a b : AV} (h : a = b) (hp : Pure b) : Ren ρ a b := by subst h; exact .pure hp

def rho (ids : List (List (Nat × Nat))) (g i : Nat) : Option (Nat × Nat) :=
  match ids[g]? with
  | some f => f[i]?
  | none => none

def famOK (ρ : Nat → Nat → Option (Nat × Nat)) (H : Heap) : List (Nat × Nat) → List Blk → Prop
  | [], [] => True
  | p :: ps, x :: xs => (∃ y, hget H p.1 p.2 = some y ∧ RenB ρ y x) ∧ famOK ρ H ps xs
  | _, _ => False

def famsOK (ρ : Nat → Nat → Option (Nat × Nat)) (H : Heap) : List (List (Nat × Nat)) → Heap → Prop
  | [], [] => True
  | p :: ps, x :: xs => famOK ρ H p x ∧ famsOK ρ H ps xs
  | _, _ => False

theorem famOK_get {ρ H} : ∀ {ps : List (Nat × Nat)} {xs : List Blk}, famOK ρ H ps xs → ps.length = xs.length ∧ ∀ (i : Nat) p x, ps[i]? = some p → xs[i]? = some x → ∃ y, hget H p.1 p.2 = some y ∧ RenB ρ y x
  | [], [], _ => ⟨rfl, fun i p x h => by simp at h⟩
  | [], _ :: _, h => h.elim
  | _ :: _, [], h => h.elim
  | p :: ps, x :: xs, ⟨h1, h2⟩ => by
    obtain ⟨h3, h4⟩ := famOK_get h2
    refine ⟨by simp [h3], fun i q y hq hy => ?_⟩
    cases i with
    | zero => simp at hq hy; subst hq; subst hy; exact h1
    | succ i => exact h4 i q y (by simpa using hq) (by simpa using hy)

theorem famsOK_get {ρ H} : ∀ {ps : List (List (Nat × Nat))} {xs : Heap}, famsOK ρ H ps xs → ps.length = xs.length ∧ ∀ (i : Nat) p x, ps[i]? = some p → xs[i]? = some x → famOK ρ H p x
  | [], [], _ => ⟨rfl, fun i p x h => by simp at h⟩
  | [], _ :: _, h => h.elim
  | _ :: _, [], h => h.elim
  | p :: ps, x :: xs, ⟨h1, h2⟩ => by
    obtain ⟨h3, h4⟩ := famsOK_get h2
    refine ⟨by simp [h3], fun i q y hq hy => ?_⟩
    cases i with
    | zero => simp at hq hy; subst hq; subst hy; exact h1
    | succ i => exact h4 i q y (by simpa using hq) (by simpa using hy)

def idIn (p : Nat × Nat) (l : List (Nat × Nat)) : Bool := l.any fun q => Nat.beq p.1 q.1 && Nat.beq p.2 q.2
def ndup : List (Nat × Nat) → Bool
  | [] => true
  | p :: l => !idIn p l && ndup l

theorem ndup_spec : ∀ {l : List (Nat × Nat)}, ndup l = true → l.Nodup
  | [], _ => List.nodup_nil
  | p :: l, h => by
    simp only [ndup, Bool.and_eq_true, Bool.not_eq_true'] at h
    refine List.nodup_cons.2 ⟨fun hm => ?_, ndup_spec h.2⟩
    have : idIn p l = true := List.any_eq_true.2 ⟨p, hm, by simp⟩
    rw [this] at h
    cases h.1

/-- The first families keep their numbers. -/
def lowOK : Nat → Nat → List (List (Nat × Nat)) → Bool
  | _, 0, _ => true
  | _, _ + 1, [] => false
  | g, k + 1, f :: r => (f.zipIdx.all fun x => Nat.beq x.1.1 g && Nat.beq x.1.2 x.2) && lowOK (g + 1) k r

/-- .. all of them. -/
def lens : Nat → List (List (Nat × Nat)) → Heap → Bool
  | 0, _, _ => true
  | k + 1, f :: r, h :: H => Nat.ble h.length f.length && lens k r H
  | _ + 1, _, _ => false

theorem lowOK_spec : ∀ (k g0 : Nat) (ids : List (List (Nat × Nat))), lowOK g0 k ids = true → ∀ g f, g < k → ids[g]? = some f → ∀ (i : Nat) p, f[i]? = some p → p = (g0 + g, i)
  | 0, _, _, _, g, _, hg, _ => by omega
  | k + 1, g0, [], h, g, f, hg, hf => by simp at hf
  | k + 1, g0, f0 :: r, h, g, f, hg, hf => by
    simp only [lowOK, Bool.and_eq_true] at h
    cases g with
    | zero =>
      simp at hf
      subst hf
      intro i p hp
      have := List.all_eq_true.1 h.1 (p, i) (by
        rw [List.mem_zipIdx_iff_getElem?]
        exact hp)
      simp only [Bool.and_eq_true] at this
      exact Prod.ext (by simpa using Nat.eq_of_beq_eq_true this.1) (Nat.eq_of_beq_eq_true this.2)
    | succ g =>
      intro i p hp
      have := lowOK_spec k (g0 + 1) r h.2 g f (by omega) (by simpa using hf) i p hp
      rw [this]
      exact Prod.ext (by simp; omega) rfl

theorem lens_spec : ∀ (k : Nat) (ids : List (List (Nat × Nat))) (H : Heap), lens k ids H = true → ∀ g, g < k → ∀ i, (hget H g i).isSome → ∃ f, ids[g]? = some f ∧ i < f.length
  | 0, _, _, _, g, hg => by omega
  | k + 1, [], H, h, g, hg => by simp [lens] at h
  | k + 1, f :: r, [], h, g, hg => by simp [lens] at h
  | k + 1, f :: r, h0 :: H, h, g, hg => by
    simp only [lens, Bool.and_eq_true] at h
    intro i hi
    cases g with
    | zero =>
      refine ⟨f, rfl, ?_⟩
      simp only [hget, List.getElem?_cons_zero] at hi
      have : i < h0.length := by
        rw [Option.isSome_iff_exists] at hi
        obtain ⟨y, hy⟩ := hi
        exact (List.getElem?_eq_some_iff.1 hy).1
      have := Nat.le_of_ble_eq_true h.1
      omega
    | succ g =>
      obtain ⟨f', h1, h2⟩ := lens_spec k r H h.2 g (by omega) i (by simpa [hget] using hi)
      exact ⟨f', by simpa using h1, h2⟩

theorem Numb.list {k : Nat} {H H' : Heap} {ids : List (List (Nat × Nat))} (h1 : lowOK 0 k ids = true) (h2 : lens k ids H = true) (h3 : ndup ids.flatten = true) (h4 : famsOK (rho ids) H ids H') : Numb (rho ids) k H H' := by
  obtain ⟨hl, hf⟩ := famsOK_get h4
  have hnd := ndup_spec h3
  refine ⟨fun g i hg hi => ?_, fun g i g' i' p hp hp' => ?_, fun g i x hx _ => ?_, fun g i p hp _ => ?_⟩
  · obtain ⟨f, e1, e2⟩ := lens_spec k ids H h2 g hg i hi
    have := lowOK_spec k 0 ids h1 g f hg e1 i f[i] (List.getElem?_eq_getElem e2)
    simp only [rho, e1, List.getElem?_eq_getElem e2, this, Nat.zero_add]
  · unfold rho at hp hp'
    split at hp
    · rename_i f e
      split at hp'
      · rename_i f' e'
        unfold List.Nodup at hnd
        rw [List.pairwise_flatten] at hnd
        by_cases hgg : g = g'
        · subst hgg
          rw [e] at e'
          injection e' with e'
          subst e'
          refine ⟨rfl, ?_⟩
          have hn := hnd.1 f (List.mem_of_getElem? e)
          have hi := (List.getElem?_eq_some_iff.1 hp).1
          exact (List.getElem?_inj hi hn).1 (hp.trans hp'.symm)
        · exfalso
          have hpw := hnd.2
          rw [List.pairwise_iff_getElem] at hpw
          have hg1 := (List.getElem?_eq_some_iff.1 e).1
          have hg2 := (List.getElem?_eq_some_iff.1 e').1
          have v1 := (List.getElem?_eq_some_iff.1 e).2
          have v2 := (List.getElem?_eq_some_iff.1 e').2
          rcases Nat.lt_or_gt_of_ne hgg with hlt | hgt
          · have := hpw g g' hg1 hg2 hlt
            rw [v1, v2] at this
            exact this p (List.mem_of_getElem? hp) p (List.mem_of_getElem? hp') rfl
          · have := hpw g' g hg2 hg1 hgt
            rw [v1, v2] at this
            exact this p (List.mem_of_getElem? hp') p (List.mem_of_getElem? hp) rfl
      · cases hp'
    · cases hp
  · unfold hget at hx
    split at hx
    · rename_i f e
      have hg := (List.getElem?_eq_some_iff.1 e).1
      have e' : ids[g]? = some ids[g] := List.getElem?_eq_getElem (by omega)
      obtain ⟨q1, q2⟩ := famOK_get (hf g _ _ e' e)
      have hi := (List.getElem?_eq_some_iff.1 hx).1
      have e2 : ids[g][i]? = some ids[g][i] := List.getElem?_eq_getElem (by omega)
      obtain ⟨y, r1, r2⟩ := q2 i _ x e2 hx
      exact ⟨_, _, y, by simp only [rho, e']; exact e2, r1, r2⟩
    · cases hx
  · unfold rho at hp
    split at hp
    · rename_i f e
      have hg := (List.getElem?_eq_some_iff.1 e).1
      have e' : H'[g]? = some H'[g] := List.getElem?_eq_getElem (by omega)
      obtain ⟨q1, _⟩ := famOK_get (hf g _ _ e e')
      have hi := (List.getElem?_eq_some_iff.1 hp).1
      simp only [hget, e', List.getElem?_eq_getElem (show i < H'[g].length by omega)]
      rfl
    · cases hp

def RenAll (ρ : Nat → Nat → Option (Nat × Nat)) (fr : Fr) : Fr → Prop
  | [] => True
  | x :: r => Ren ρ (fr.get x.1) x.2 ∧ RenAll ρ fr r

theorem RenAll.mem {ρ fr} : ∀ {fr' : Fr}, RenAll ρ fr fr' → ∀ x ∈ fr', Ren ρ (fr.get x.1) x.2
  | [], _, x, h => by cases h
  | _ :: _, ⟨h1, h2⟩, x, h => by
    cases h with
    | head => exact h1
    | tail _ h => exact RenAll.mem h2 x h

def LeAll (fr : Fr) : Fr → Prop
  | [] => True
  | x :: r => Le (fr.get x.1) x.2 ∧ LeAll fr r

theorem LeAll.mem {fr} : ∀ {fr' : Fr}, LeAll fr fr' → ∀ x ∈ fr', Le (fr.get x.1) x.2
  | [], _, x, h => by cases h
  | _ :: _, ⟨h1, h2⟩, x, h => by
    cases h with
    | head => exact h1
    | tail _ h => exact LeAll.mem h2 x h

/-- The state told anew: these slots, these blocks (ids: their old numbers). -/
theorem Sub.re {k N : Nat} {fr fr' : Fr} {H H' : Heap} (ids : List (List (Nat × Nat))) (h1 : lowOK 0 k ids = true) (h2 : lens k ids H = true) (h3 : ndup ids.flatten = true) (h4 : famsOK (rho ids) H ids H')
    (h5 : RenAll (rho ids) fr fr') : Sub k N fr H fr' H' := Sub.ren _ (Numb.list h1 h2 h3 h4) h5.mem

/-- .. where no block is kept. -/
theorem Sub.none {N : Nat} {fr fr' : Fr} {H : Heap} (h5 : RenAll (rho []) fr fr') : Sub 0 N fr H fr' [] := Sub.re [] rfl rfl rfl trivial h5

theorem Sub.keep {k N : Nat} {fr fr' : Fr} {H : Heap} (h : LeAll fr fr') : Sub k N fr H fr' H := Sub.le h.mem

theorem SubV.pure {H : Heap} {res : AV} (h : Pure res) : SubV 0 H res [] res := SubV.ren (rho []) (Numb.list rfl rfl rfl trivial) (.pure h)

/-- The end of a function whose result holds no mutable block. -/
theorem fin_pure {e : Exit} (he : e = .normal ∨ e = .ret) {rs : List IRes} {fr : Fr} {H : Heap} {res : AV} {R : AV → Heap → Prop} (hres : resOf fr H rs = some res) (hp : Pure res) (hR : R res []) :
    (e = .normal ∨ e = .ret) ∧ ∃ res res' H2, resOf fr H rs = some res ∧ SubV 0 H res H2 res' ∧ R res' H2 := ⟨he, res, res, [], hres, .pure hp, hR⟩

section
variable {P : Program} {N k : Nat} {fr : Fr} {H : Heap} {Q : Exit → Fr → Heap → Prop}
theorem AWP.condT {c : Operand} {x y : ICode} (hb : ev fr c = .sc (.bool true)) (h : AWP P N k x Q fr H) : AWP P N k (.cond c x y) Q fr H := AWP.cond hb (fun _ => h) (fun e => by cases e)
theorem AWP.condF {c : Operand} {x y : ICode} (hb : ev fr c = .sc (.bool false)) (h : AWP P N k y Q fr H) : AWP P N k (.cond c x y) Q fr H := AWP.cond hb (fun e => by cases e) (fun _ => h)

end

/-! Values that hold no mutable block. -/
theorem Pure.listOf {sz : Nat} {rows : List (List AV)} (h : ∀ r ∈ rows, ∀ c ∈ r, Pure c) : Pure (.list sz rows) := .list sz rows h
theorem Pure.cells {l : List AV} (h : ∀ c ∈ l, Pure c) : Pure (.agg l) := .agg l h
theorem allPure_nil : ∀ c ∈ ([] : List AV), Pure c := fun c h => by cases h
theorem allPure_cons {a : AV} {l : List AV} (h : Pure a) (h' : ∀ c ∈ l, Pure c) : ∀ c ∈ a :: l, Pure c := fun c hc => by
  cases hc with
  | head => exact h
  | tail _ hc => exact h' c hc
theorem allPure_map {α : Type} {f : α → List AV} (h : ∀ a, ∀ c ∈ f a, Pure c) (l : List α) : ∀ r ∈ l.map f, ∀ c ∈ r, Pure c := fun r hr => by
  obtain ⟨a, _, rfl⟩ := List.mem_map.1 hr
  exact h a
theorem allPure_append {l l' : List AV} (h : ∀ c ∈ l, Pure c) (h' : ∀ c ∈ l', Pure c) : ∀ c ∈ l ++ l', Pure c := fun c hc => (List.mem_append.1 hc).elim (h c) (h' c)
theorem allPure_sc {α : Type} {f : α → Value} (l : List α) : ∀ c ∈ l.map (fun a => AV.sc (f a)), Pure c := fun c hc => by
  obtain ⟨a, _, rfl⟩ := List.mem_map.1 hc
  exact .sc _

end Go.Av
namespace Go.Av

/-- A region whose order is open, as a walk goes through it: what has been done so far stands in acc. -/
def DK (P : Program) (base j : Nat) (xs : List IOper) (fr : Fr) (H : Heap) (acc : List RRec) (K : List RRec → Fr → Heap → Prop) : Prop :=
  ∃ R fr' H', DRun P base j xs fr H R fr' H' ∧ K (acc.reverse ++ R) fr' H'

section
variable {P : Program} {base j : Nat} {xs : List IOper} {fr : Fr} {H : Heap} {v : AV} {H1 : Heap} {acc : List RRec} {K : List RRec → Fr → Heap → Prop} {d : Nat} {gd : Option (Nat × Bool)}

theorem DK.nil (h : K acc.reverse fr H) : DK P base j [] fr H acc K := ⟨[], fr, H, .nil _ _ _, by rw [List.append_nil]; exact h⟩
theorem DK.o {o : IOp} (hg : gok fr gd = some true) (hs : dstep base j o fr H = some (v, H1)) (h : DK P base (j + 1) xs ((d, v) :: fr) H1 (⟨⟨some d, gd, .op o⟩, (base, j), v, drd fr o, dwr base j fr o⟩ :: acc) K) :
    DK P base j (⟨some d, gd, .op o⟩ :: xs) fr H acc K := by
  obtain ⟨R, fr', H', h1, h2⟩ := h
  exact ⟨_, fr', H', DRun.op (x := ⟨some d, gd, .op o⟩) hg rfl hs h1, by simpa using h2⟩
theorem DK.on {o : IOp} (hg : gok fr gd = some true) (hs : dstep base j o fr H = some (v, H1)) (h : DK P base (j + 1) xs fr H1 (⟨⟨none, gd, .op o⟩, (base, j), v, drd fr o, dwr base j fr o⟩ :: acc) K) :
    DK P base j (⟨none, gd, .op o⟩ :: xs) fr H acc K := by
  obtain ⟨R, fr', H', h1, h2⟩ := h
  exact ⟨_, fr', H', DRun.op (x := ⟨none, gd, .op o⟩) hg rfl hs h1, by simpa using h2⟩
theorem DK.c {f : FuncId} {args : List Operand} (hg : gok fr gd = some true) (hc : PureRun P f (avals fr args) v) (h : DK P base (j + 1) xs ((d, v) :: fr) H (⟨⟨some d, gd, .call f args⟩, (base, j), v, [], []⟩ :: acc) K) :
    DK P base j (⟨some d, gd, .call f args⟩ :: xs) fr H acc K := by
  obtain ⟨R, fr', H', h1, h2⟩ := h
  exact ⟨_, fr', H', DRun.call (x := ⟨some d, gd, .call f args⟩) hg rfl hc h1, by simpa using h2⟩
theorem DK.s {a : IAct} (hg : gok fr gd = some false) (h : DK P base (j + 1) xs ((d, .sc Go.undef) :: fr) H (⟨⟨some d, gd, a⟩, (base, j), .sc Go.undef, [], []⟩ :: acc) K) :
    DK P base j (⟨some d, gd, a⟩ :: xs) fr H acc K := by
  obtain ⟨R, fr', H', h1, h2⟩ := h
  exact ⟨_, fr', H', DRun.skip (x := ⟨some d, gd, a⟩) hg h1, by simpa using h2⟩
theorem DK.sn {a : IAct} (hg : gok fr gd = some false) (h : DK P base (j + 1) xs fr H (⟨⟨none, gd, a⟩, (base, j), .sc Go.undef, [], []⟩ :: acc) K) :
    DK P base j (⟨none, gd, a⟩ :: xs) fr H acc K := by
  obtain ⟨R, fr', H', h1, h2⟩ := h
  exact ⟨_, fr', H', DRun.skip (x := ⟨none, gd, a⟩) hg h1, by simpa using h2⟩
end

theorem AWP.dk {P : Program} {N k : Nat} {fr : Fr} {H : Heap} {Q : Exit → Fr → Heap → Prop} {xs : List IOper} {af : List (List Nat)} (hp : P.follows .mixedOrders = true)
    (h : DK P H.length 0 xs fr (H ++ [List.replicate xs.length .dead]) [] fun R fr' H' => chk af R = true ∧ Q .normal fr' H') : AWP P N k (.draw xs af) Q fr H := by
  obtain ⟨R, fr', H', h1, h2, h3⟩ := h
  exact AWP.draw hp h1 h2 h3

theorem rowIx_map {α : Type} (f : α → List AV) (l : List α) (k : Nat) (h : k < l.length) : rowIx (l.map f) (k : Int) = some (f l[k]) := by
  rw [rowIx_nat, List.getElem?_map, List.getElem?_eq_getElem h]; rfl

theorem dstep_idxSl {g i : Nat} {fr : Fr} {H : Heap} {sz : Nat} {x ix : Operand} {k : IntKind} {n : Int} {rows : List (List AV)} {r : List AV} (hx : ev fr x = .list sz rows) (hi : ev fr ix = .sc (.int k n)) (hr : rowIx rows n = some r) :
    dstep g i (.idxSl sz x ix) fr H = some (.cptr r, H) := by simp [dstep, hx, hi, hr]

theorem dstep_idxH {g i : Nat} {fr : Fr} {H : Heap} {sz : Nat} {x ix : Operand} {k : IntKind} {q : Nat} {g' i' start len : Nat} {rows : List (List AV)} (hx : ev fr x = .hsl g' i' start len) (hi : ev fr ix = .sc (.int k (q : Int)))
    (hh : hget H g' i' = some (.cells sz rows)) (h1 : q < len) (h2 : start + len ≤ rows.length) :
    dstep g i (.idxSl sz x ix) fr H = some (.ptr g' i' (start + q) 0, H) := by
  have e1 : Nat.blt q len = true := by simpa [Nat.blt_eq] using h1
  have e2 : Nat.ble (start + len) rows.length = true := by simpa using h2
  simp only [dstep, hi, hx]
  show (match hget H g' i' with
    | some (.cells s rows) => match Nat.beq s sz && (Nat.blt q len && Nat.ble (start + len) rows.length) with
      | true => some (AV.ptr g' i' (start + q) 0, H)
      | false => none
    | _ => none) = _
  rw [hh]
  simp [e1, e2]

theorem Sub.leGet {k N : Nat} {fr fr' : Fr} {H : Heap} (h : ∀ t, Le (fr.get t) (fr'.get t)) : Sub k N fr H fr' H :=
  fun M J _ _ hF hH hM => ⟨M, J, .refl k hH hM, hF.1, fun t => h t M J _ (hF.2 t)⟩

theorem shadow {fr : Fr} {t : Nat} {v : AV} (h : fr.get t = v) (u : Nat) : Fr.get ((t, v) :: fr) u = fr.get u := by
  show (match Nat.beq t u with | true => v | false => Fr.get fr u) = _
  split
  · rename_i e
    have := Nat.eq_of_beq_eq_true e
    subst this
    exact h.symm
  · rfl

/-- The two ways of a guard. -/
theorem Reg.gs {P : Program} {N k : Nat} {xs : List IOper} {fr : Fr} {H : Heap} {K : Fr → Heap → Prop} {d : Option Nat} {t : Nat} {w : Bool} {a : IAct} {c : Bool} (hg : fr.get t = .sc (.bool c))
    (h1 : c = true → Reg P N k (⟨d, some (t, w), a⟩ :: xs) ((t, .sc (.bool true)) :: fr) H K) (h2 : c = false → Reg P N k (⟨d, some (t, w), a⟩ :: xs) ((t, .sc (.bool false)) :: fr) H K) :
    Reg P N k (⟨d, some (t, w), a⟩ :: xs) fr H K := by
  cases c with
  | true => exact Reg.sub (Sub.leGet fun u => by rw [shadow hg u]; exact Le.refl _) (h1 rfl)
  | false => exact Reg.sub (Sub.leGet fun u => by rw [shadow hg u]; exact Le.refl _) (h2 rfl)

/-- Arguments told otherwise. -/
theorem CallOK.args {P : Program} {f : FuncId} {args args' : List AV} {H : Heap} {R : AV → Heap → Prop} (h : CallOK P f args' H R) (hl : args.length = args'.length) (hle : ∀ (j : Nat) a b, args[j]? = some a → args'[j]? = some b → Le a b) :
    CallOK P f args H R := by
  refine ⟨h.1, fun M J w cargs h1 h2 h3 h4 => h.2 M J w cargs (by omega) (fun j c v hc hv => ?_) h3 h4⟩
  have hj := (List.getElem?_eq_some_iff.1 hc).1
  have e : args[j]? = some args[j] := List.getElem?_eq_getElem (by omega)
  exact hle j _ c e hc M J v (h2 j _ v e hv)

end Go.Av
