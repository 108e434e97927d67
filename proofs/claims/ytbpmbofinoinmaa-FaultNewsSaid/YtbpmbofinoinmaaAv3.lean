import Derived.Test.YtbpmbofinoinmaaAv2
namespace Go.Av

/-- No reference to a mutable block. -/
inductive Pure : AV → Prop
  | undef : Pure .undef
  | sc (v : Value) : Pure (.sc v)
  | agg (cells : List AV) (h : ∀ c ∈ cells, Pure c) : Pure (.agg cells)
  | tup (cells : List AV) (h : ∀ c ∈ cells, Pure c) : Pure (.tup cells)
  | list (sz : Nat) (rows : List (List AV)) (h : ∀ r ∈ rows, ∀ c ∈ r, Pure c) : Pure (.list sz rows)
  | cptr (cells : List AV) (h : ∀ c ∈ cells, Pure c) : Pure (.cptr cells)
  | tmap (es : List (Value × AV)) (h : ∀ x ∈ es, Pure x.2) : Pure (.tmap es)
  | clo (fn : Fn) (fs cs : List AV) (h1 : ∀ c ∈ fs, Pure c) (h2 : ∀ c ∈ cs, Pure c) : Pure (.clo fn fs cs)

theorem eq_of_get {α : Type} {l : List α} {j : Nat} {x y : α} (h : l[j]? = some x) (h' : l[j]? = some y) : x = y := by
  rw [h] at h'; injection h'

theorem Ren.pure {ρ : Nat → Nat → Option (Nat × Nat)} {a : AV} (h : Pure a) : Ren ρ a a := by
  induction h with
  | undef => exact .undef _
  | sc v => exact .sc v
  | agg cells _ ih => exact .agg _ _ rfl fun j x y a b => by cases eq_of_get a b; exact ih _ (List.mem_of_getElem? a)
  | tup cells _ ih => exact .tup _ _ rfl fun j x y a b => by cases eq_of_get a b; exact ih _ (List.mem_of_getElem? a)
  | list sz rows _ ih =>
    exact .list _ _ _ rfl (fun i r r' a b => by cases eq_of_get a b; rfl) fun i r r' j x y a b c d => by
      cases eq_of_get a b
      cases eq_of_get c d
      exact ih _ (List.mem_of_getElem? a) _ (List.mem_of_getElem? c)
  | cptr cells _ ih => exact .cptr _ _ rfl fun j x y a b => by cases eq_of_get a b; exact ih _ (List.mem_of_getElem? a)
  | tmap es _ ih => exact .tmap _ _ rfl (fun j x y a b => by cases eq_of_get a b; rfl) fun j x y a b => by cases eq_of_get a b; exact ih _ (List.mem_of_getElem? a)
  | clo fn fs cs _ _ ih1 ih2 =>
    exact .clo _ _ _ _ _ rfl rfl (fun j x y a b => by cases eq_of_get a b; exact ih1 _ (List.mem_of_getElem? a)) (fun j x y a b => by cases eq_of_get a b; exact ih2 _ (List.mem_of_getElem? a))

/-- Weakening: every value that a stands for, b stands for. -/
def Le (a b : AV) : Prop := ∀ M J v, Rep M J a v → Rep M J b v
theorem Le.refl (a : AV) : Le a a := fun _ _ _ h => h
theorem Le.undef (a : AV) : Le a .undef := fun _ _ v _ => .undef v
theorem Le.nil (sz : Nat) : Le (.sc (.slice none 0 0)) (.list sz []) := fun _ _ v h => by cases h; exact .nilList sz none 0

inductive RenB (ρ : Nat → Nat → Option (Nat × Nat)) : Blk → Blk → Prop
  | dead (x : Blk) : RenB ρ x .dead
  | cells (sz : Nat) (rows rows' : List (List AV)) (hl : rows.length = rows'.length) (hr : ∀ (i : Nat) (r r' : List AV), rows[i]? = some r → rows'[i]? = some r' → r.length = r'.length)
      (h : ∀ (i : Nat) (r r' : List AV) (j : Nat) x y, rows[i]? = some r → rows'[i]? = some r' → r[j]? = some x → r'[j]? = some y → Ren ρ x y) : RenB ρ (.cells sz rows) (.cells sz rows')
  | map (es es' : List (Value × AV)) (hl : es.length = es'.length) (hk : ∀ (j : Nat) x y, es[j]? = some x → es'[j]? = some y → x.1 = y.1)
      (h : ∀ (j : Nat) x y, es[j]? = some x → es'[j]? = some y → Ren ρ x.2 y.2) : RenB ρ (.map es) (.map es')

theorem RenB.pure {ρ : Nat → Nat → Option (Nat × Nat)} (sz : Nat) (rows : List (List AV)) (h : ∀ r ∈ rows, ∀ c ∈ r, Pure c) : RenB ρ (.cells sz rows) (.cells sz rows) :=
  .cells _ _ _ rfl (fun i r r' a b => by cases eq_of_get a b; rfl) fun i r r' j x y a b c d => by
    cases eq_of_get a b
    cases eq_of_get c d
    exact .pure (h _ (List.mem_of_getElem? a) _ (List.mem_of_getElem? c))

theorem RenB.pureMap {ρ : Nat → Nat → Option (Nat × Nat)} (es : List (Value × AV)) (h : ∀ x ∈ es, Pure x.2) : RenB ρ (.map es) (.map es) :=
  .map _ _ rfl (fun j x y a b => by cases eq_of_get a b; rfl) fun j x y a b => by cases eq_of_get a b; exact .pure (h _ (List.mem_of_getElem? a))

theorem BRep.ren {M J} {ρ : Nat → Nat → Option (Nat × Nat)} {l : Loc} {h : Array Obj} {x x' : Blk} (hb : BRep M J l h x) (hr : RenB ρ x x') : BRep M (J.via ρ) l h x' := by
  cases hr with
  | dead => trivial
  | cells sz rows rows' hl hlr hr =>
    obtain ⟨h1, h2, h3⟩ := hb
    have getr : ∀ {i : Nat} {r' : List AV}, rows'[i]? = some r' → ∃ r, rows[i]? = some r := by
      intro i r' hy
      have := (List.getElem?_eq_some_iff.1 hy).1
      exact ⟨rows[i], List.getElem?_eq_getElem (by omega)⟩
    refine ⟨h1, fun i r' hr' => ?_, ?_⟩
    · obtain ⟨r, h'⟩ := getr hr'
      rw [← hlr i r r' h' hr']
      exact h2 i r h'
    · cases e : l.blk with
      | none =>
        rw [e] at h3
        subst h3
        cases rows' with | nil => rfl | cons _ _ => simp at hl
      | some β =>
        rw [e] at h3
        obtain ⟨cs, t, a, b, c, o, d⟩ := h3
        refine ⟨cs, t, a, b, by rw [← hl]; exact c, by rw [← hl]; exact o, fun i r' j y v p q s => ?_⟩
        obtain ⟨r, h'⟩ := getr p
        have hlen := hlr i r r' h' p
        have hj := (List.getElem?_eq_some_iff.1 q).1
        have hx : r[j]? = some r[j] := List.getElem?_eq_getElem (by omega)
        exact (d i r j _ v h' hx s).ren (hr i r r' j _ y h' p hx q)
  | map es es' hl hk hr =>
    obtain ⟨β, ces, clock, h0, h1, h2, h3, h4⟩ := hb
    have gete : ∀ {j : Nat} {y : Value × AV}, es'[j]? = some y → ∃ x, es[j]? = some x := by
      intro j y hy
      have := (List.getElem?_eq_some_iff.1 hy).1
      exact ⟨es[j], List.getElem?_eq_getElem (by omega)⟩
    refine ⟨β, ces, clock, h0, h1, by omega, fun j x y a b => ?_, fun j x y a b => ?_⟩
    · obtain ⟨z, hz⟩ := gete a
      rw [← hk j z x hz a]
      exact h3 j z y hz b
    · obtain ⟨z, hz⟩ := gete a
      exact (h4 j z y hz b).ren (hr j z x hz a)

/-- A new numbering: ρ gives the old number of a new one. -/
structure Numb (ρ : Nat → Nat → Option (Nat × Nat)) (k : Nat) (H H' : Heap) : Prop where
  low : ∀ g i, g < k → (hget H g i).isSome → ρ g i = some (g, i)
  inj : ∀ g i g' i' p, ρ g i = some p → ρ g' i' = some p → g = g' ∧ i = i'
  blk : ∀ g i x, hget H' g i = some x → x.live = true → ∃ g0 i0 y, ρ g i = some (g0, i0) ∧ hget H g0 i0 = some y ∧ RenB ρ y x
  dom : ∀ g i p, ρ g i = some p → (hget H p.1 p.2).isSome → (hget H' g i).isSome

theorem RenB.live {ρ : Nat → Nat → Option (Nat × Nat)} {x y : Blk} (h : RenB ρ x y) (hl : y.live = true) : x.live = true := by
  cases h <;> first | exact hl | cases hl | rfl

theorem Numb.live {ρ k H H'} (hn : Numb ρ k H H') {J : Inj} {g i : Nat} {l : Loc} (h : liveAt H' g i) (hJ : J.via ρ g i = some l) : ∃ g0 i0, ρ g i = some (g0, i0) ∧ liveAt H g0 i0 ∧ J g0 i0 = some l := by
  obtain ⟨x, hx, hxl⟩ := h
  obtain ⟨g0, i0, y, h1, h2, h3⟩ := hn.blk g i x hx hxl
  exact ⟨g0, i0, h1, ⟨y, h2, h3.live hxl⟩, by rw [← hJ, Inj.via_some h1]⟩

theorem HRep.ren {M J H} {h : Array Obj} {ρ k H'} (hr : HRep M J H h) (hn : Numb ρ k H H') : HRep M (J.via ρ) H' h where
  blk g i x hx hl := by
    obtain ⟨g0, i0, y, h1, h2, h3⟩ := hn.blk g i x hx hl
    obtain ⟨l, h4, h5⟩ := hr.blk g0 i0 y h2 (h3.live hl)
    exact ⟨l, by rw [Inj.via_some h1, h4], h5.ren h3⟩
  inj g i g' i' l l' β a b c d e f := by
    obtain ⟨g0, i0, p1, p2, p3⟩ := hn.live a c
    obtain ⟨g1, i1, q1, q2, q3⟩ := hn.live b d
    obtain ⟨rfl, rfl⟩ := hr.inj g0 i0 g1 i1 l l' β p2 q2 p3 q3 e f
    exact hn.inj _ _ _ _ _ p1 q1
  out g i l β a b c := by
    obtain ⟨g0, i0, p1, p2, p3⟩ := hn.live a b
    exact hr.out g0 i0 l β p2 p3 c
  dom g i l a := by
    unfold Inj.via at a
    split at a
    · rename_i g' i' e
      have := hr.dom g' i' l a
      exact ⟨hn.dom g i _ e this.1, this.2⟩
    · cases a

theorem FRep.ren {N M J fr tmps} {ρ : Nat → Nat → Option (Nat × Nat)} {fr' : Fr} (h : FRep N M J fr tmps) (hr : ∀ x ∈ fr', Ren ρ (fr.get x.1) x.2) : FRep N M (J.via ρ) fr' tmps := by
  refine ⟨h.1, fun t => ?_⟩
  have key : Ren ρ (fr.get t) (Fr.get fr' t) := by
    clear h
    induction fr' with
    | nil => exact .undef _
    | cons p fr' ih =>
      obtain ⟨d, v⟩ := p
      show Ren ρ (fr.get t) (match Nat.beq d t with | true => v | false => Fr.get fr' t)
      split
      · rename_i e
        have : d = t := Nat.eq_of_beq_eq_true e
        subst this
        exact hr (d, v) (List.mem_cons_self ..)
      · exact ih fun x hx => hr x (List.mem_cons_of_mem _ hx)
  exact (h.2 t).ren key

theorem Step.ren {k M J H w M' J' H' w' ρ H''} (a : Step k M J H w M' J' H' w') (hn : Numb ρ k H' H'') : Step k M J H w M' (J'.via ρ) H'' w' where
  m := a.m
  j g i l hk h := by
    have h1 := a.j g i l hk h
    rw [Inj.via_some (hn.low g i hk (a.hrep.dom g i l h1).1)]
    exact h1
  hrep := a.hrep.ren hn
  mrep := a.mrep
  os := a.os
  tape := a.tape
  output := a.output
  size := a.size
  frame := a.frame
  fresh := a.fresh
  live g i l β h1 h2 h3 := by
    obtain ⟨g0, i0, p1, p2, p3⟩ := hn.live h1 h2
    exact a.live g0 i0 l β p2 p3 h3

theorem Step.refl (k : Nat) {M J H w} (h : HRep M J H w.heap) (m : MRep M w.heap) : Step k M J H w M J H w :=
  ⟨fun _ _ h => h, fun _ _ _ _ h => h, h, m, rfl, rfl, rfl, Nat.le_refl _, fun _ _ h _ => h, fun _ _ h => .inl h, fun g i l _ h h' h'' => .inl ⟨g, i, l, h, h', h''⟩⟩

theorem lt_of_heap' {h : Array Obj} {β : Nat} {o : Obj} (x : h[β]? = some o) : β < h.size := by
  rcases Nat.lt_or_ge β h.size with h' | h'
  · exact h'
  · simp [Array.getElem?_eq_none h'] at x

theorem Step.mono {k k' M J H w M' J' H' w'} (a : Step k M J H w M' J' H' w') (h : k' ≤ k) : Step k' M J H w M' J' H' w' :=
  { a with j := fun g i l hg hJ => a.j g i l (by omega) hJ }

theorem Step.trans {k M J H w M1 J1 H1 w1 M2 J2 H2 w2} (a : Step k M J H w M1 J1 H1 w1) (b : Step k M1 J1 H1 w1 M2 J2 H2 w2) : Step k M J H w M2 J2 H2 w2 where
  m β o h := b.m β o (a.m β o h)
  j g i l hk h := b.j g i l hk (a.j g i l hk h)
  hrep := b.hrep
  mrep := b.mrep
  os := b.os.trans a.os
  tape := b.tape.trans a.tape
  output := b.output.trans a.output
  size := Nat.le_trans a.size b.size
  frame β o h hn := by
    refine b.frame β o (a.frame β o h hn) fun g i l hl hj e => ?_
    rcases a.live g i l β hl hj e with ⟨g0, i0, l0, h1, h2, h3⟩ | h1
    · exact hn g0 i0 l0 h1 h2 h3
    · have := lt_of_heap' h; omega
  fresh β o h := by
    rcases b.fresh β o h with h1 | h1 | ⟨g, i, l, h1, h2, h3⟩
    · exact a.fresh β o h1
    · exact .inr (.inl (Nat.le_trans a.size h1))
    · rcases a.live g i l β h1 h2 h3 with ⟨g0, i0, l0, h4, h5, h6⟩ | h4
      · exact .inr (.inr ⟨g0, i0, l0, h4, h5, h6⟩)
      · exact .inr (.inl h4)
  live g i l β h1 h2 h3 := by
    rcases b.live g i l β h1 h2 h3 with ⟨g0, i0, l0, h4, h5, h6⟩ | h4
    · exact a.live g0 i0 l0 β h4 h5 h6
    · exact .inr (Nat.le_trans a.size h4)

/-- The heap with one block set (the next family may be made). -/
def hset : Heap → Nat → Nat → Blk → Heap
  | [], 0, 0, x => [[x]]
  | [], _, _, _ => []
  | f :: r, 0, i, x => f.set i x :: r
  | f :: r, g + 1, i, x => f :: hset r g i x

/-- A number that may be set. -/
def hok (H : Heap) (g i : Nat) : Prop := (hget H g i).isSome ∨ (g = H.length ∧ i = 0)

theorem get_hset (H : Heap) : ∀ (g i : Nat) (x : Blk) (g' i' : Nat), hok H g i → hget (hset H g i x) g' i' = if g' = g ∧ i' = i then some x else hget H g' i' := by
  induction H with
  | nil =>
    intro g i x g' i' h
    rcases h with h | ⟨rfl, rfl⟩
    · simp [hget] at h
    · cases g' with
      | zero => cases i' <;> simp [hset, hget]
      | succ g' => simp [hset, hget]
  | cons f r ih =>
    intro g i x g' i' h
    cases g with
    | zero =>
      have hi : i < f.length := by
        rcases h with h | ⟨h, _⟩
        · simp only [hget, List.getElem?_cons_zero] at h
          rw [Option.isSome_iff_exists] at h
          obtain ⟨y, hy⟩ := h
          exact (List.getElem?_eq_some_iff.1 hy).1
        · simp at h
      cases g' with
      | zero =>
        simp only [hset, hget, List.getElem?_cons_zero, List.getElem?_set, true_and]
        by_cases e : i' = i
        · subst e; simp [hi]
        · rw [if_neg e, if_neg (fun h => e h.symm)]
      | succ g' => simp [hset, hget]
    | succ g =>
      have h' : hok r g i := by
        rcases h with h | ⟨h, h2⟩
        · exact .inl h
        · exact .inr ⟨by simpa using h, h2⟩
      cases g' with
      | zero => simp [hset, hget]
      | succ g' =>
        have := ih g i x g' i' h'
        simp only [hget, hset, List.getElem?_cons_succ, Nat.add_right_cancel_iff] at this ⊢
        exact this

def Inj.set (J : Inj) (g i : Nat) (l : Loc) : Inj := fun g' i' => if g' = g ∧ i' = i then some l else J g' i'

theorem Inj.set_ext {J : Inj} {g i : Nat} (l : Loc) (h : J g i = none) (M : Mem) : Ext M J M (J.set g i l) :=
  ⟨fun _ _ h => h, fun g' i' l' h' => by
    unfold Inj.set
    split
    · rename_i e; obtain ⟨rfl, rfl⟩ := e; rw [h] at h'; cases h'
    · exact h'⟩

theorem MRep.lt {M : Mem} {h : Array Obj} (m : MRep M h) {β : Nat} (hb : h.size ≤ β) : M β = none := by
  cases e : M β with
  | none => rfl
  | some o => have := lt_of_heap' (m β o e); omega

/-- A new block (or a nil slice, which is a block without memory: then nothing is pushed). -/
theorem Step.alloc (k : Nat) {M J H w w'} (h : HRep M J H w.heap) (m : MRep M w.heap) (g i : Nat) (hn : hok H g i) (hJ : J g i = none) (o : Option Obj) (x : Blk) (l : Loc)
    (hl : l.blk = o.map fun _ => w.heap.size) (hx : BRep M J l w'.heap x) (hw : w'.heap = match o with | some o => w.heap.push o | none => w.heap)
    (hos : w'.os = w.os) (htape : w'.tape = w.tape) (hout : w'.output = w.output) :
    Step k M J H w M (J.set g i l) (hset H g i x) w' := by
  have hold : ∀ β : Nat, β < w.heap.size → w'.heap[β]? = w.heap[β]? := by
    intro β hβ
    rw [hw]
    cases o with
    | none => rfl
    | some o => simp only; rw [Array.getElem?_push, if_neg (by omega)]
  have hsize : w.heap.size ≤ w'.heap.size := by rw [hw]; cases o <;> simp
  have hnew : ∀ β, l.blk = some β → β = w.heap.size ∧ β < w'.heap.size := by
    intro β hβ
    rw [hl] at hβ
    cases o with
    | none => cases hβ
    | some o => simp at hβ; rw [hw]; simp; omega
  have hget := fun g' i' => get_hset H g i x g' i' hn
  have key : ∀ g' i' l', liveAt (hset H g i x) g' i' → (J.set g i l) g' i' = some l' → (g' = g ∧ i' = i ∧ l' = l) ∨ (¬ (g' = g ∧ i' = i) ∧ liveAt H g' i' ∧ J g' i' = some l') := by
    intro g' i' l' hc hj
    by_cases e : g' = g ∧ i' = i
    · obtain ⟨rfl, rfl⟩ := e
      simp [Inj.set] at hj
      exact .inl ⟨rfl, rfl, hj.symm⟩
    · obtain ⟨y, hy, hyl⟩ := hc
      rw [hget, if_neg e] at hy
      simp only [Inj.set, if_neg e] at hj
      exact .inr ⟨e, ⟨y, hy, hyl⟩, hj⟩
  refine ⟨fun _ _ h => h, fun g' i' l' _ h' => (Inj.set_ext l hJ M).j g' i' l' h', ⟨?_, ?_, ?_, ?_⟩, ?_, hos, htape, hout, hsize, ?_, fun β o' h => .inl h, ?_⟩
  · intro g' i' y hy hlive
    rw [hget] at hy
    by_cases e : g' = g ∧ i' = i
    · obtain ⟨rfl, rfl⟩ := e
      simp at hy
      subst hy
      exact ⟨l, by simp [Inj.set], hx.ext (Inj.set_ext l hJ M) (fun _ _ => rfl)⟩
    · rw [if_neg e] at hy
      obtain ⟨l', h1, h3⟩ := h.blk g' i' y hy hlive
      exact ⟨l', by simp only [Inj.set, if_neg e]; exact h1, h3.ext (Inj.set_ext l hJ M) fun β hβ => hold β ((h.dom g' i' l' h1).2 β hβ)⟩
  · intro g1 i1 g2 i2 l1 l2 β h1 h2 h3 h4 h5 h6
    rcases key g1 i1 l1 h1 h3 with ⟨e1, e2, e3⟩ | ⟨e1, e2, e3⟩ <;> rcases key g2 i2 l2 h2 h4 with ⟨f1, f2, f3⟩ | ⟨f1, f2, f3⟩
    · exact ⟨e1.trans f1.symm, e2.trans f2.symm⟩
    · subst e3
      have := (hnew β h5).1
      have := (h.dom g2 i2 l2 f3).2 β h6
      omega
    · subst f3
      have := (hnew β h6).1
      have := (h.dom g1 i1 l1 e3).2 β h5
      omega
    · exact h.inj g1 i1 g2 i2 l1 l2 β e2 f2 e3 f3 h5 h6
  · intro g1 i1 l1 β h1 h2 h3
    rcases key g1 i1 l1 h1 h2 with ⟨e1, e2, e3⟩ | ⟨e1, e2, e3⟩
    · subst e3
      have := (hnew β h3).1
      exact m.lt (by omega)
    · exact h.out g1 i1 l1 β e2 e3 h3
  · intro g1 i1 l1 h1
    rw [hget]
    by_cases e : g1 = g ∧ i1 = i
    · rw [if_pos e]
      simp only [Inj.set, if_pos e, Option.some.injEq] at h1
      subst h1
      exact ⟨rfl, fun β hβ => (hnew β hβ).2⟩
    · rw [if_neg e]
      simp only [Inj.set, if_neg e] at h1
      have := h.dom g1 i1 l1 h1
      exact ⟨this.1, fun β hβ => Nat.lt_of_lt_of_le (this.2 β hβ) hsize⟩
  · intro β o' hm
    have := m β o' hm
    rw [hold β (lt_of_heap' this)]
    exact this
  · intro β o' ho _
    rw [hold β (lt_of_heap' ho)]
    exact ho
  · intro g1 i1 l1 β h1 h2 h3
    rcases key g1 i1 l1 h1 h2 with ⟨e1, e2, e3⟩ | ⟨e1, e2, e3⟩
    · subst e3
      have := (hnew β h3).1
      exact .inr (by omega)
    · exact .inl ⟨g1, i1, l1, e2, e3, h3⟩

/-- A block is written. -/
theorem Step.write (k : Nat) {M J H w w'} (h : HRep M J H w.heap) (m : MRep M w.heap) (g i : Nat) (l : Loc) (β : Nat) (x0 : Blk) (hx0 : hget H g i = some x0) (hl0 : x0.live = true) (hJ : J g i = some l) (hβ : l.blk = some β)
    (o : Obj) (x : Blk) (hx : x.live = true → BRep M J l w'.heap x) (hw : w'.heap = w.heap.setIfInBounds β o) (hos : w'.os = w.os) (htape : w'.tape = w.tape) (hout : w'.output = w.output) :
    Step k M J H w M J (hset H g i x) w' := by
  have hget := fun g' i' => get_hset H g i x g' i' (.inl (by rw [hx0]; rfl))
  have hlive : ∀ g' i', liveAt (hset H g i x) g' i' → liveAt H g' i' := by
    rintro g' i' ⟨y, hy, hyl⟩
    rw [hget] at hy
    by_cases e : g' = g ∧ i' = i
    · obtain ⟨rfl, rfl⟩ := e; exact ⟨x0, hx0, hl0⟩
    · rw [if_neg e] at hy; exact ⟨y, hy, hyl⟩
  have hother : ∀ γ : Nat, γ ≠ β → w'.heap[γ]? = w.heap[γ]? := by
    intro γ hγ
    rw [hw, Array.getElem?_setIfInBounds, if_neg (fun e => hγ e.symm)]
  refine ⟨fun _ _ h => h, fun _ _ _ _ h => h, ⟨?_, ?_, ?_, ?_⟩, ?_, hos, htape, hout, by rw [hw]; simp, ?_, fun β o' h => .inl h, fun g1 i1 l1 γ h1 h2 h3 => .inl ⟨g1, i1, l1, hlive g1 i1 h1, h2, h3⟩⟩
  · intro g' i' y hy hyl
    rw [hget] at hy
    by_cases e : g' = g ∧ i' = i
    · obtain ⟨rfl, rfl⟩ := e
      simp at hy
      subst hy
      exact ⟨l, hJ, hx hyl⟩
    · rw [if_neg e] at hy
      obtain ⟨l', h1, h3⟩ := h.blk g' i' y hy hyl
      refine ⟨l', h1, h3.ext (.refl _ _) fun γ hγ => hother γ ?_⟩
      rintro rfl
      exact e (h.inj g' i' g i l' l γ ⟨y, hy, hyl⟩ ⟨x0, hx0, hl0⟩ h1 hJ hγ hβ)
  · intro g1 i1 g2 i2 l1 l2 γ h1 h2 h3 h4 h5
    exact h.inj g1 i1 g2 i2 l1 l2 γ (hlive _ _ h1) (hlive _ _ h2) h3 h4 h5
  · intro g1 i1 l1 γ h1 h2 h3
    exact h.out g1 i1 l1 γ (hlive _ _ h1) h2 h3
  · intro g1 i1 l1 h1
    have := h.dom g1 i1 l1 h1
    refine ⟨?_, fun γ hγ => by rw [hw]; simp; exact this.2 γ hγ⟩
    rw [hget]
    split
    · rfl
    · exact this.1
  · intro γ o' hm
    rw [hother]
    · exact m γ o' hm
    · rintro rfl
      rw [h.out g i l γ ⟨x0, hx0, hl0⟩ hJ hβ] at hm
      cases hm
  · intro γ o' ho hn'
    rw [hother]
    · exact ho
    · rintro rfl
      exact hn' g i l ⟨x0, hx0, hl0⟩ hJ hβ

/-- A block is forgotten. -/
theorem Step.kill (k : Nat) {M J H w} (h : HRep M J H w.heap) (m : MRep M w.heap) (g i : Nat) (hn : (hget H g i).isSome) : Step k M J H w M J (hset H g i .dead) w := by
  have hget := fun g' i' => get_hset H g i .dead g' i' (.inl hn)
  have hlive : ∀ g' i', liveAt (hset H g i .dead) g' i' → liveAt H g' i' := by
    rintro g' i' ⟨y, hy, hyl⟩
    rw [hget] at hy
    by_cases e : g' = g ∧ i' = i
    · rw [if_pos e] at hy; injection hy with hy; subst hy; cases hyl
    · rw [if_neg e] at hy; exact ⟨y, hy, hyl⟩
  refine ⟨fun _ _ h => h, fun _ _ _ _ h => h, ⟨?_, ?_, ?_, ?_⟩, m, rfl, rfl, rfl, Nat.le_refl _, fun _ _ h _ => h, fun β o' h => .inl h, fun g1 i1 l1 β h1 h2 h3 => .inl ⟨g1, i1, l1, hlive g1 i1 h1, h2, h3⟩⟩
  · intro g' i' y hy hyl
    rw [hget] at hy
    by_cases e : g' = g ∧ i' = i
    · rw [if_pos e] at hy; injection hy with hy; subst hy; cases hyl
    · rw [if_neg e] at hy; exact h.blk g' i' y hy hyl
  · intro g1 i1 g2 i2 l1 l2 γ h1 h2 h3 h4 h5
    exact h.inj g1 i1 g2 i2 l1 l2 γ (hlive _ _ h1) (hlive _ _ h2) h3 h4 h5
  · intro g1 i1 l1 γ h1 h2 h3
    exact h.out g1 i1 l1 γ (hlive _ _ h1) h2 h3
  · intro g1 i1 l1 h1
    have := h.dom g1 i1 l1 h1
    refine ⟨?_, this.2⟩
    rw [hget]
    split
    · rfl
    · exact this.1

/-- A block is frozen: from now on it never turns. -/
theorem Step.freeze (k : Nat) {M J H w} (h : HRep M J H w.heap) (m : MRep M w.heap) (g i : Nat) (l : Loc) (β : Nat) (x0 : Blk) (hx0 : hget H g i = some x0) (hl0 : x0.live = true) (hJ : J g i = some l) (hβ : l.blk = some β)
    (o : Obj) (ho : w.heap[β]? = some o) : Step k M J H w (fun γ => if γ = β then some o else M γ) J (hset H g i .dead) w ∧ Ext M J (fun γ => if γ = β then some o else M γ) J := by
  have hM : M β = none := h.out g i l β ⟨x0, hx0, hl0⟩ hJ hβ
  have hx : Ext M J (fun γ => if γ = β then some o else M γ) J := ⟨fun γ o' hm => by
    show (if γ = β then some o else M γ) = some o'
    by_cases e : γ = β
    · subst e; rw [hM] at hm; cases hm
    · rw [if_neg e]; exact hm, fun _ _ _ h => h⟩
  have s := Step.kill k h m g i (by rw [hx0]; rfl)
  have hget := fun g' i' => get_hset H g i .dead g' i' (.inl (by rw [hx0]; rfl))
  refine ⟨{ s with m := hx.m, hrep := ⟨fun g' i' y hy hyl => ?_, s.hrep.inj, ?_, s.hrep.dom⟩, mrep := ?_, fresh := ?_ }, hx⟩
  · obtain ⟨l', h1, h2⟩ := s.hrep.blk g' i' y hy hyl
    exact ⟨l', h1, h2.ext hx fun _ _ => rfl⟩
  · intro g1 i1 l1 γ h1 h2 h3
    show (if γ = β then some o else M γ) = none
    have hold := h1
    obtain ⟨y, hy, hyl⟩ := h1
    rw [hget] at hy
    by_cases e : g1 = g ∧ i1 = i
    · rw [if_pos e] at hy; injection hy with hy; subst hy; cases hyl
    · rw [if_neg e] at hy
      have hne : γ ≠ β := by
        rintro rfl
        exact e (h.inj g1 i1 g i l1 l γ ⟨y, hy, hyl⟩ ⟨x0, hx0, hl0⟩ h2 hJ h3 hβ)
      rw [if_neg hne]
      exact s.hrep.out g1 i1 l1 γ hold h2 h3
  · intro γ o' hm
    have hm : (if γ = β then some o else M γ) = some o' := hm
    by_cases e : γ = β
    · subst e; rw [if_pos rfl] at hm; injection hm with hm; subst hm; exact ho
    · rw [if_neg e] at hm; exact m γ o' hm
  · intro γ o' hm
    have hm : (if γ = β then some o else M γ) = some o' := hm
    by_cases e : γ = β
    · subst e; exact .inr (.inr ⟨g, i, l, ⟨x0, hx0, hl0⟩, hJ, hβ⟩)
    · rw [if_neg e] at hm; exact .inl hm

/-- The world has only drawn. -/
theorem Step.drew (k : Nat) {M J H w w'} (h : HRep M J H w.heap) (m : MRep M w.heap) (hw : w'.heap = w.heap) (hos : w'.os = w.os) (htape : w'.tape = w.tape) (hout : w'.output = w.output) : Step k M J H w M J H w' :=
  ⟨fun _ _ h => h, fun _ _ _ _ h => h, by rw [hw]; exact h, by rw [hw]; exact m, hos, htape, hout, by rw [hw]; exact Nat.le_refl _, fun _ _ h _ => by rw [hw]; exact h, fun _ _ h => .inl h, fun g i l _ h h' h'' => .inl ⟨g, i, l, h, h', h''⟩⟩

end Go.Av
