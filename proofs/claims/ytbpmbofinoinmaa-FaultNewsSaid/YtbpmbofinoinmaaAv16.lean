import Derived.Test.YtbpmbofinoinmaaAv15
namespace Go.Av

/-- A call that only makes memory: what it gives hangs on no mutable block. -/
def PureRun (P : Program) (f : FuncId) (args : List AV) (v : AV) : Prop :=
  Callable P f ∧ ∀ M J w (cargs : Array Value), args.length = cargs.size → (∀ (j : Nat) c x, args[j]? = some c → cargs[j]? = some x → Rep M J c x) → MRep M w.heap →
    Calls P f cargs w fun e w' => ∃ cv M', e = .returned cv ∧ (∀ β o, M β = some o → M' β = some o) ∧ MRep M' w'.heap ∧ w'.os = w.os ∧ w'.tape = w.tape ∧ w'.output = w.output ∧ w.heap.size ≤ w'.heap.size ∧
      (∀ (β : Nat) o, w.heap[β]? = some o → w'.heap[β]? = some o) ∧ (∀ β o, M' β = some o → M β = some o ∨ w.heap.size ≤ β) ∧ ∀ J', Rep M' J' v cv

theorem Rep.anyJ {M J} {a : AV} {v : Value} (h : Rep M J a v) (hp : Pure a) (J' : Inj) : Rep M J' a v :=
  (h.ren (ρ := fun _ _ => none) (.pure hp)).ext ⟨fun _ _ h => h, fun g i l h => by simp [Inj.via] at h⟩

theorem PureRun.of {P : Program} {f : FuncId} {args : List AV} {v : AV} (ha : ∀ a ∈ args, Pure a) (hv : Pure v) (h : CallOK P f args [] fun res _ => res = v) : PureRun P f args v := by
  refine ⟨h.1, fun M J w cargs hl hr hM => ?_⟩
  have hH : HRep M (fun _ _ => none) [] w.heap :=
    ⟨fun g i x hx => (by simp [hget] at hx), fun g i g' i' l l' β _ _ hJ => (by cases hJ), fun g i l β _ hJ => (by cases hJ), fun g i l hJ => (by cases hJ)⟩
  refine (h.2 M (fun _ _ => none) w cargs hl (fun j c x hc hx => (hr j c x hc hx).anyJ (ha c (List.mem_of_getElem? hc)) _) hH hM).mono ?_
  rintro e w' ⟨cv, M', J', res, H', rfl, hs, hrep, rfl⟩
  have hno : ∀ g i, ¬ liveAt [] g i := by
    rintro g i ⟨x, hx, _⟩
    simp [hget] at hx
  refine ⟨cv, M', rfl, hs.m, hs.mrep, hs.os, hs.tape, hs.output, hs.size, fun β o ho => hs.frame β o ho fun g i l hl _ => absurd hl (hno g i), fun β o ho => ?_, fun J'' => hrep.anyJ hv J''⟩
  rcases hs.fresh β o ho with h1 | h1 | ⟨g, i, l, hl, _⟩
  · exact .inl h1
  · exact .inr h1
  · exact absurd hl (hno g i)

/-- Such a call, from whatever heap. -/
theorem PureRun.step {M J H} {w w' : World} (k : Nat) (hH : HRep M J H w.heap) {M' : Mem} (h1 : ∀ β o, M β = some o → M' β = some o) (h2 : MRep M' w'.heap) (h3 : w'.os = w.os) (h4 : w'.tape = w.tape) (h5 : w'.output = w.output)
    (h6 : w.heap.size ≤ w'.heap.size) (h7 : ∀ (β : Nat) o, w.heap[β]? = some o → w'.heap[β]? = some o) (h8 : ∀ β o, M' β = some o → M β = some o ∨ w.heap.size ≤ β) : Step k M J H w M' J H w' := by
  have hx : Ext M J M' J := ⟨h1, fun _ _ _ h => h⟩
  refine ⟨h1, fun _ _ _ _ h => h, ⟨?_, hH.inj, ?_, ?_⟩, h2, h3, h4, h5, h6, fun β o ho _ => h7 β o ho, fun β o ho => ?_, fun g i l β a b c => .inl ⟨g, i, l, a, b, c⟩⟩
  · intro g i x hg hl
    obtain ⟨l, p, q⟩ := hH.blk g i x hg hl
    refine ⟨l, p, q.ext hx fun β hβ => ?_⟩
    have hlt := (hH.dom g i l p).2 β hβ
    rw [Array.getElem?_eq_getElem hlt]
    exact h7 β _ (Array.getElem?_eq_getElem hlt)
  · intro g i l β a b c
    cases e : M' β with
    | none => rfl
    | some o =>
      rcases h8 β o e with h | h
      · rw [hH.out g i l β a b c] at h; cases h
      · have := (hH.dom g i l b).2 β c; omega
  · intro g i l a
    have := hH.dom g i l a
    exact ⟨this.1, fun β hβ => Nat.lt_of_lt_of_le (this.2 β hβ) h6⟩
  · rcases h8 β o ho with h | h
    · exact .inl h
    · exact .inr (.inl h)

theorem CallOK.ofPure {P : Program} {f : FuncId} {args : List AV} {v : AV} (h : PureRun P f args v) (H : Heap) {R : AV → Heap → Prop} (hR : R v H) : CallOK P f args H R := by
  refine ⟨h.1, fun M J w cargs hl hr hH hM => (h.2 M J w cargs hl hr hM).mono ?_⟩
  rintro e w' ⟨cv, M', rfl, h1, h2, h3, h4, h5, h6, h7, h8, h9⟩
  exact ⟨cv, M', J, v, H, rfl, PureRun.step _ hH h1 h2 h3 h4 h5 h6 h7 h8, h9 J, hR⟩

structure RRec where
  x : IOper
  id : Nat × Nat
  v : AV
  rd : List (Nat × Nat)
  wr : List (Nat × Nat)

def opdTmps : List Operand → List Nat
  | [] => []
  | .tmp t :: r => t :: opdTmps r
  | _ :: r => opdTmps r

def IAct.opds : IAct → List Operand
  | .op o => o.opds
  | .call _ args => args
  | .callV f args => f :: args

def IOper.tmps (x : IOper) : List Nat :=
  match x.guard with
  | some (t, _) => t :: opdTmps x.act.opds
  | none => opdTmps x.act.opds

abbrev S := Fr × Heap

def Eqv (s t : S) : Prop := (∀ a, s.1.get a = t.1.get a) ∧ ∀ a b, hget s.2 a b = hget t.2 a b

/-- An operation done: what it gives, what it looked at, what it wrote. -/
def RStep (P : Program) (r : RRec) (s t : S) : Prop :=
  t.1 = s.1.put r.x.dst r.v ∧
  ((gok s.1 r.x.guard = some true ∧ ∃ o, r.x.act = .op o ∧ dstep r.id.1 r.id.2 o s.1 s.2 = some (r.v, t.2) ∧ drd s.1 o = r.rd ∧ dwr r.id.1 r.id.2 s.1 o = r.wr) ∨
   (gok s.1 r.x.guard = some true ∧ r.rd = [] ∧ r.wr = [] ∧ (∀ a b, hget t.2 a b = hget s.2 a b) ∧ ∃ f args, r.x.act = .call f args ∧ PureRun P f (avals s.1 args) r.v) ∨
   (gok s.1 r.x.guard = some false ∧ r.rd = [] ∧ r.wr = [] ∧ r.v = .sc Go.undef ∧ (∀ a b, hget t.2 a b = hget s.2 a b)))

theorem mem_opdTmps {l : List Operand} {t : Nat} (h : .tmp t ∈ l) : t ∈ opdTmps l := by
  induction l with
  | nil => cases h
  | cons a l ih =>
    cases h with
    | head => exact List.mem_cons_self ..
    | tail _ h => cases a <;> first | exact List.mem_cons_of_mem _ (ih h) | exact ih h

theorem ev_same {l : List Operand} {fr fr2 : Fr} (h : ∀ t ∈ opdTmps l, fr2.get t = fr.get t) : ∀ x ∈ l, ev fr2 x = ev fr x := by
  intro x hx
  cases x with
  | tmp t => exact h t (mem_opdTmps hx)
  | _ => rfl

theorem act_tmps {x : IOper} {fr fr2 : Fr} (h : ∀ t ∈ x.tmps, fr2.get t = fr.get t) : (∀ o ∈ x.act.opds, ev fr2 o = ev fr o) ∧ gok fr2 x.guard = gok fr x.guard := by
  unfold IOper.tmps at h
  split at h
  · rename_i t b e
    refine ⟨ev_same fun u hu => h u (List.mem_cons_of_mem _ hu), ?_⟩
    rw [e]
    simp only [gok, h t (List.mem_cons_self ..)]
  · rename_i e
    exact ⟨ev_same h, by rw [e]; rfl⟩

/-- An operation done elsewhere, where all that it looks at is the same. -/
theorem RStep.ext {P : Program} {r : RRec} {s s1 s2 : S} (h : RStep P r s s1) (ht : ∀ t ∈ r.x.tmps, s2.1.get t = s.1.get t) (hr : ∀ p ∈ r.rd, hget s2.2 p.1 p.2 = hget s.2 p.1 p.2)
    (hi : r.id ∈ r.wr → (hget s.2 r.id.1 r.id.2).isSome ∧ (hget s2.2 r.id.1 r.id.2).isSome) :
    ∃ s3, RStep P r s2 s3 ∧ s3.1 = s2.1.put r.x.dst r.v ∧ (∀ a b, (a, b) ∈ r.wr → hget s3.2 a b = hget s1.2 a b) ∧ (∀ a b, (a, b) ∉ r.wr → hget s3.2 a b = hget s2.2 a b) ∧
      (∀ a b, (a, b) ∉ r.wr → hget s1.2 a b = hget s.2 a b) ∧ (∀ a b, (a, b) ∈ r.wr → (hget s1.2 a b).isSome) := by
  obtain ⟨ha, hg⟩ := act_tmps ht
  obtain ⟨hf, h⟩ := h
  rcases h with ⟨h1, o, h2, h3, h4, h5⟩ | ⟨h1, h2, h3, h4, f, args, h5, h6⟩ | ⟨h1, h2, h3, h4, h5⟩
  · have ho : ∀ x ∈ o.opds, ev s2.1 x = ev s.1 x := fun x hx => ha x (by rw [h2]; exact hx)
    have e4 : drd s2.1 o = drd s.1 o := by
      cases o <;> simp only [drd] <;> simp only [IOp.opds, List.mem_cons, List.not_mem_nil, or_false, forall_eq_or_imp, forall_eq] at ho <;> simp [ho]
    have e5 : dwr r.id.1 r.id.2 s2.1 o = dwr r.id.1 r.id.2 s.1 o := by
      cases o <;> simp only [dwr] <;> simp only [IOp.opds, List.mem_cons, List.not_mem_nil, or_false, forall_eq_or_imp, forall_eq] at ho <;> simp [ho]
    have hd := dstep_frame (g := r.id.1) (i := r.id.2) (H := s2.2) ho
    obtain ⟨H2', q1, q2, q3, q4, q5⟩ := dstep_heap (H2 := s2.2) h3 (fun hm => (hi (by rw [← h5]; exact hm)).1) (fun hm => (hi (by rw [← h5]; exact hm)).2) (fun p hp => hr p (by rw [← h4]; exact hp))
    rw [h5] at q2 q3 q4 q5
    exact ⟨(s2.1.put r.x.dst r.v, H2'), ⟨rfl, .inl ⟨by rw [hg, h1], o, h2, by rw [hd]; exact q1, by rw [e4, h4], by rw [e5, h5]⟩⟩, rfl, q2, q3, q4, q5⟩
  · have hav : avals s2.1 args = avals s.1 args := List.map_congr_left fun x hx => ha x (by rw [h5]; exact hx)
    refine ⟨(s2.1.put r.x.dst r.v, s2.2), ⟨rfl, .inr (.inl ⟨by rw [hg, h1], h2, h3, fun _ _ => rfl, f, args, h5, by rw [hav]; exact h6⟩)⟩, rfl, fun a b hm => ?_, fun _ _ _ => rfl, fun a b _ => h4 a b, fun a b hm => ?_⟩
    · rw [h3] at hm; cases hm
    · rw [h3] at hm; cases hm
  · refine ⟨(s2.1.put r.x.dst r.v, s2.2), ⟨rfl, .inr (.inr ⟨by rw [hg, h1], h2, h3, h4, fun _ _ => rfl⟩)⟩, rfl, fun a b hm => ?_, fun _ _ _ => rfl, fun a b _ => h5 a b, fun a b hm => ?_⟩
    · rw [h3] at hm; cases hm
    · rw [h3] at hm; cases hm

def disj (a b : List (Nat × Nat)) : Bool := a.all fun p => b.all fun q => !(Nat.beq p.1 q.1 && Nat.beq p.2 q.2)
def dstOut (d : Option Nat) (l : List Nat) : Bool :=
  match d with
  | some d => l.all fun t => !Nat.beq d t
  | none => true
def dstDiff : Option Nat → Option Nat → Bool
  | some a, some b => !Nat.beq a b
  | _, _ => true

/-- Two operations that may change places. -/
def indep (a b : RRec) : Bool :=
  dstOut a.x.dst b.x.tmps && (dstOut b.x.dst a.x.tmps && (dstDiff a.x.dst b.x.dst && (disj a.wr (b.rd ++ b.wr) && disj b.wr a.rd)))

theorem disj_spec {a b : List (Nat × Nat)} (h : disj a b = true) {p : Nat × Nat} (h1 : p ∈ a) : p ∉ b := by
  intro h2
  have := List.all_eq_true.1 (List.all_eq_true.1 h p h1) p h2
  simp at this

theorem put_get_other {fr : Fr} {d : Option Nat} {v : AV} {l : List Nat} (h : dstOut d l = true) {t : Nat} (ht : t ∈ l) : (fr.put d v).get t = fr.get t := by
  cases d with
  | none => rfl
  | some d =>
    have := List.all_eq_true.1 h t ht
    simp only [Bool.not_eq_true'] at this
    show (match Nat.beq d t with | true => v | false => Fr.get fr t) = _
    rw [this]

theorem put_get (fr : Fr) (d : Option Nat) (v : AV) (t : Nat) : (fr.put d v).get t = if d = some t then v else fr.get t := by
  cases d with
  | none => rfl
  | some d =>
    show (match Nat.beq d t with | true => v | false => Fr.get fr t) = _
    split
    · rename_i e
      rw [if_pos (by rw [Nat.eq_of_beq_eq_true e])]
    · rename_i e
      rw [if_neg]
      intro h
      injection h with h
      subst h
      simp at e

theorem put_comm {fr : Fr} {a b : Option Nat} {u v : AV} (h : dstDiff a b = true) (t : Nat) : ((fr.put a u).put b v).get t = ((fr.put b v).put a u).get t := by
  simp only [put_get]
  by_cases h1 : a = some t
  · by_cases h2 : b = some t
    · subst h1; subst h2
      simp [dstDiff] at h
    · rw [if_neg h2, if_pos h1, if_pos h1]
  · rw [if_neg h1, if_neg h1]

theorem RStep.swap {P : Program} {a b : RRec} {s s1 s2 : S} (ha : RStep P a s s1) (hb : RStep P b s1 s2) (hi : indep a b = true)
    (ia : a.id ∈ a.wr → (hget s.2 a.id.1 a.id.2).isSome) (ib : b.id ∈ b.wr → (hget s.2 b.id.1 b.id.2).isSome) : ∃ t s2', RStep P b s t ∧ RStep P a t s2' ∧ Eqv s2' s2 := by
  simp only [indep, Bool.and_eq_true] at hi
  obtain ⟨i1, i2, i3, i4, i5⟩ := hi
  obtain ⟨_, _, _, _, _, a4, a5⟩ := RStep.ext (s2 := s) ha (fun _ _ => rfl) (fun _ _ => rfl) (fun h => ⟨ia h, ia h⟩)
  have hs1 : s1.1 = s.1.put a.x.dst a.v := ha.1
  have hs2 : s2.1 = s1.1.put b.x.dst b.v := hb.1
  have ib1 : b.id ∈ b.wr → (hget s1.2 b.id.1 b.id.2).isSome := fun h => by
    rw [a4 _ _ fun hm => disj_spec i4 hm (List.mem_append_right _ h)]
    exact ib h
  obtain ⟨t, b1, b2, b3, b4, b5, b6⟩ := hb.ext (s2 := s) (fun u hu => by rw [hs1, put_get_other i1 hu]) (fun p hp => (a4 _ _ fun hm => disj_spec i4 hm (List.mem_append_left _ hp)).symm) (fun h => ⟨ib1 h, ib h⟩)
  have ia1 : a.id ∈ a.wr → (hget t.2 a.id.1 a.id.2).isSome := fun h => by
    rw [b4 _ _ fun hm => disj_spec i4 h (List.mem_append_right _ hm)]
    exact ia h
  obtain ⟨s2', c1, c2, c3, c4, _, _⟩ := ha.ext (s2 := t) (fun u hu => by rw [b2, put_get_other i2 hu]) (fun p hp => b4 _ _ fun hm => disj_spec i5 hm hp) (fun h => ⟨ia h, ia1 h⟩)
  refine ⟨t, s2', b1, c1, fun u => ?_, fun x y => ?_⟩
  · rw [c2, b2, hs2, hs1]
    exact (put_comm i3 u).symm
  · by_cases h1 : (x, y) ∈ a.wr
    · rw [c3 x y h1, b5 x y fun hm => disj_spec i4 h1 (List.mem_append_right _ hm)]
    · rw [c4 x y h1]
      by_cases h2 : (x, y) ∈ b.wr
      · rw [b3 x y h2]
      · rw [b4 x y h2, b5 x y h2, a4 x y h1]

def Run (P : Program) : List RRec → S → S → Prop
  | [], s, t => Eqv s t
  | r :: l, s, t => ∃ s1, RStep P r s s1 ∧ Run P l s1 t

theorem Eqv.refl (s : S) : Eqv s s := ⟨fun _ => rfl, fun _ _ => rfl⟩
theorem Eqv.symm {s t : S} (h : Eqv s t) : Eqv t s := ⟨fun a => (h.1 a).symm, fun a b => (h.2 a b).symm⟩
theorem Eqv.trans {s t u : S} (h : Eqv s t) (h' : Eqv t u) : Eqv s u := ⟨fun a => (h.1 a).trans (h'.1 a), fun a b => (h.2 a b).trans (h'.2 a b)⟩

/-- All numbers that a run takes are there. -/
def Have (l : List RRec) (H : Heap) : Prop := ∀ r ∈ l, r.id ∈ r.wr → (hget H r.id.1 r.id.2).isSome

theorem RStep.have {P : Program} {r : RRec} {s t : S} (h : RStep P r s t) {l : List RRec} (hr : r.id ∈ r.wr → (hget s.2 r.id.1 r.id.2).isSome) (hl : Have l s.2) : Have l t.2 := by
  obtain ⟨_, _, _, _, _, a4, a5⟩ := h.ext (s2 := s) (fun _ _ => rfl) (fun _ _ => rfl) (fun h => ⟨hr h, hr h⟩)
  intro q hq hm
  by_cases hw : (q.id.1, q.id.2) ∈ r.wr
  · exact a5 _ _ hw
  · rw [a4 _ _ hw]
    exact hl q hq hm

theorem Run.ext {P : Program} : ∀ {l : List RRec} {s s2 t : S}, Run P l s t → Eqv s s2 → Have l s.2 → Run P l s2 t
  | [], s, s2, t, h, he, _ => he.symm.trans h
  | r :: l, s, s2, t, ⟨s1, h1, h2⟩, he, hh => by
    have hr := hh r (List.mem_cons_self ..)
    obtain ⟨s3, q1, q2, q3, q4, q5, q6⟩ := h1.ext (s2 := s2) (fun u _ => (he.1 u).symm) (fun p _ => (he.2 _ _).symm) (fun h => ⟨hr h, by rw [← he.2]; exact hr h⟩)
    refine ⟨s3, q1, Run.ext h2 ⟨fun u => ?_, fun a b => ?_⟩ (h1.have hr fun q hq => hh q (List.mem_cons_of_mem _ hq))⟩
    · rw [h1.1, q2, put_get, put_get, he.1]
    · by_cases hw : (a, b) ∈ r.wr
      · rw [q3 a b hw]
      · rw [q4 a b hw, q5 a b hw, he.2]

theorem Run.bubble {P : Program} {r : RRec} {B : List RRec} : ∀ {A : List RRec} {s t : S}, Run P (A ++ r :: B) s t → (∀ a ∈ A, indep a r = true) → Have (A ++ r :: B) s.2 → ∃ s1, RStep P r s s1 ∧ Run P (A ++ B) s1 t
  | [], s, t, h, _, _ => h
  | a :: A, s, t, ⟨s1, h1, h2⟩, hi, hh => by
    have ha := hh a (List.mem_cons_self ..)
    have hrr := hh r (by simp)
    have h1' : Have (A ++ r :: B) s1.2 := h1.have ha fun q hq => hh q (List.mem_cons_of_mem _ hq)
    obtain ⟨s2, q1, q2⟩ := Run.bubble h2 (fun x hx => hi x (List.mem_cons_of_mem _ hx)) h1'
    obtain ⟨u, s2', p1, p2, p3⟩ := h1.swap q1 (hi a (List.mem_cons_self ..)) ha hrr
    refine ⟨u, p1, s2', p2, Run.ext q2 p3.symm ?_⟩
    exact q1.have (h1' r (by simp)) fun q hq => h1' q ((List.mem_append.1 hq).elim (fun h => List.mem_append_left _ h) fun h => List.mem_append_right _ (List.mem_cons_of_mem _ h))

end Go.Av
