import Derived.Test.YtbpmbofinoinmaaAv21
namespace Go.Av

/-! A call whose contract speaks of fewer blocks, under other numbers. -/

/-- ρ: the caller's number of the callee's; ρ': back. -/
theorem CallOK.via {P : Program} {f : FuncId} {args args' : List AV} {H0 H : Heap} {R R' : AV → Heap → Prop} (ρ ρ' : Nat → Nat → Option (Nat × Nat)) (h : CallOK P f args' H0 R)
    (hl : args.length = args'.length) (hargs : ∀ (j : Nat) a b, args[j]? = some a → args'[j]? = some b → Ren ρ a b)
    (hρ : ∀ g i p, ρ g i = some p → ρ' p.1 p.2 = some (g, i)) (hρ' : ∀ g i q, ρ' g i = some q → ρ q.1 q.2 = some (g, i))
    (h0 : ∀ g i x, hget H0 g i = some x → x.live = true ∧ ∃ p y, ρ g i = some p ∧ hget H p.1 p.2 = some y ∧ RenB ρ y x)
    (hdom : ∀ g i p, ρ g i = some p → (hget H0 g i).isSome)
    (hR : ∀ res H', R res H' → (∀ g i, (hget H' g i).isSome → (hget H0 g i).isSome) ∧ ∃ res' H'', Ren ρ' res res' ∧
      (∀ g i x, hget H'' g i = some x → x.live = true → (∃ q y, ρ' g i = some q ∧ hget H' q.1 q.2 = some y ∧ RenB ρ' y x) ∨ (ρ' g i = none ∧ hget H g i = some x)) ∧
      (∀ g i, (hget H g i).isSome → (hget H'' g i).isSome) ∧ R' res' H'') : CallOK P f args H R' := by
  refine ⟨h.1, fun M J w cargs e1 e2 hH hM => ?_⟩
  have hlt : ∀ {H : Heap} {g i : Nat}, (hget H g i).isSome → g < H.length := by
    intro H g i hs
    unfold hget at hs
    split at hs
    · rename_i f e; exact (List.getElem?_eq_some_iff.1 e).1
    · cases hs
  have hJ1 : ∀ g i l, J.via ρ g i = some l → ∃ p, ρ g i = some p ∧ J p.1 p.2 = some l := by
    intro g i l hl
    unfold Inj.via at hl
    split at hl
    · rename_i g' i' e; exact ⟨(g', i'), e, hl⟩
    · cases hl
  have hlive0 : ∀ g i l, liveAt H0 g i → J.via ρ g i = some l → ∃ p, ρ g i = some p ∧ J p.1 p.2 = some l ∧ liveAt H p.1 p.2 := by
    rintro g i l ⟨x, hx, hxl⟩ hJ
    obtain ⟨_, p, y, p1, p2, p3⟩ := h0 g i x hx
    obtain ⟨p', q1, q2⟩ := hJ1 g i l hJ
    rw [p1] at q1
    injection q1 with q1
    subst q1
    exact ⟨p, p1, q2, y, p2, p3.live hxl⟩
  have hH0 : HRep M (J.via ρ) H0 w.heap := by
    refine ⟨fun g i x hx hxl => ?_, fun g i g' i' l l' β a b c d e f => ?_, fun g i l β a b c => ?_, fun g i l a => ?_⟩
    · obtain ⟨_, p, y, p1, p2, p3⟩ := h0 g i x hx
      obtain ⟨l, q1, q2⟩ := hH.blk p.1 p.2 y p2 (p3.live hxl)
      exact ⟨l, by rw [Inj.via_some (g' := p.1) (i' := p.2) p1]; exact q1, q2.ren p3⟩
    · obtain ⟨p, p1, p2, p3⟩ := hlive0 g i l a c
      obtain ⟨q, q1, q2, q3⟩ := hlive0 g' i' l' b d
      obtain ⟨r1, r2⟩ := hH.inj _ _ _ _ l l' β p3 q3 p2 q2 e f
      have hpq : p = q := Prod.ext r1 r2
      subst hpq
      have := (hρ g i p p1).symm.trans (hρ g' i' p q1)
      injection this with this
      injection this with t1 t2
      exact ⟨t1, t2⟩
    · obtain ⟨p, p1, p2, p3⟩ := hlive0 g i l a b
      exact hH.out _ _ l β p3 p2 c
    · obtain ⟨p, p1, p2⟩ := hJ1 g i l a
      exact ⟨hdom g i p p1, (hH.dom _ _ l p2).2⟩
  refine (h.2 M (J.via ρ) w cargs (by omega) (fun j c v hc hv => ?_) hH0 hM).mono ?_
  · obtain ⟨a, ha⟩ := get_of_len hl hc
    exact (e2 j a v ha hv).ren (hargs j a c ha hc)
  · rintro e w' ⟨v, M', J', res, H', rfl, s, hres, hr⟩
    obtain ⟨hd, res', H'', r1, r2, r3, r4⟩ := hR res H' hr
    -- all that the callee knows the caller knows
    have hJ' : ∀ g i l, J' g i = some l → ∃ p, ρ g i = some p ∧ J p.1 p.2 = some l := by
      intro g i l hl
      have hs := hd g i (s.hrep.dom g i l hl).1
      obtain ⟨x, hx⟩ := Option.isSome_iff_exists.1 hs
      obtain ⟨hxl, p, y, p1, p2, p3⟩ := h0 g i x hx
      obtain ⟨l1, q1, _⟩ := hH0.blk g i x hx hxl
      have := s.j g i l1 (hlt hs) q1
      rw [hl] at this
      injection this with this
      subst this
      obtain ⟨p', t1, t2⟩ := hJ1 g i l q1
      exact ⟨p', t1, t2⟩
    have hback : Ext M' (J'.via ρ') M' J := ⟨fun _ _ h => h, fun g i l hl => by
      unfold Inj.via at hl
      split at hl
      · rename_i g' i' e
        obtain ⟨p, p1, p2⟩ := hJ' g' i' l hl
        have := hρ' g i _ e
        rw [p1] at this
        injection this with this
        subst this
        exact p2
      · cases hl⟩
    have hfwd : Ext M J M' J := ⟨s.m, fun _ _ _ h => h⟩
    -- blocks that the callee does not see
    have hother : ∀ g i l β, ρ' g i = none → liveAt H g i → J g i = some l → l.blk = some β → ∀ g0 i0 l0, liveAt H0 g0 i0 → J.via ρ g0 i0 = some l0 → l0.blk ≠ some β := by
      intro g i l β hn hlv hJ hb g0 i0 l0 a b c
      obtain ⟨p, p1, p2, p3⟩ := hlive0 g0 i0 l0 a b
      obtain ⟨t1, t2⟩ := hH.inj _ _ _ _ l l0 β hlv p3 hJ p2 hb c
      have := hρ g0 i0 p p1
      rw [← t1, ← t2, hn] at this
      cases this
    have hlive' : ∀ g i l β, liveAt H'' g i → J g i = some l → l.blk = some β → (∃ q, ρ' g i = some q ∧ liveAt H' q.1 q.2 ∧ J' q.1 q.2 = some l) ∨ (ρ' g i = none ∧ liveAt H g i) := by
      rintro g i l β ⟨x, hx, hxl⟩ hJ hb
      rcases r2 g i x hx hxl with ⟨q, y, q1, q2, q3⟩ | ⟨q1, q2⟩
      · left
        refine ⟨q, q1, ⟨y, q2, q3.live hxl⟩, ?_⟩
        obtain ⟨l', t1, _⟩ := s.hrep.blk q.1 q.2 y q2 (q3.live hxl)
        obtain ⟨p, p1, p2⟩ := hJ' _ _ _ t1
        have := hρ' g i q q1
        rw [p1] at this
        injection this with this
        subst this
        rw [hJ] at p2
        injection p2 with p2
        subst p2
        exact t1
      · exact .inr ⟨q1, x, q2, hxl⟩
    refine ⟨v, M', J, res', H'', rfl, ⟨s.m, fun _ _ _ _ h => h, ⟨?_, ?_, ?_, ?_⟩, s.mrep, s.os, s.tape, s.output, s.size, ?_, ?_, ?_⟩, (hres.ren r1).ext hback, r4⟩
    · intro g i x hx hxl
      rcases r2 g i x hx hxl with ⟨q, y, q1, q2, q3⟩ | ⟨q1, q2⟩
      · obtain ⟨l, t1, t2⟩ := s.hrep.blk q.1 q.2 y q2 (q3.live hxl)
        refine ⟨l, hback.j g i l (by rw [Inj.via_some (g' := q.1) (i' := q.2) q1]; exact t1), (t2.ren q3).ext hback fun _ _ => rfl⟩
      · obtain ⟨l, t1, t2⟩ := hH.blk g i x q2 hxl
        refine ⟨l, t1, t2.ext hfwd fun β hβ => ?_⟩
        have hb := (hH.dom g i l t1).2 β hβ
        rw [Array.getElem?_eq_getElem hb]
        exact s.frame β _ (Array.getElem?_eq_getElem hb) (hother g i l β q1 ⟨x, q2, hxl⟩ t1 hβ)
    · intro g i g' i' l l' β a b c d e f
      rcases hlive' g i l β a c e with ⟨q, q1, q2, q3⟩ | ⟨q1, q2⟩ <;> rcases hlive' g' i' l' β b d f with ⟨p, p1, p2, p3⟩ | ⟨p1, p2⟩
      · obtain ⟨t1, t2⟩ := s.hrep.inj _ _ _ _ l l' β q2 p2 q3 p3 e f
        have hpq : q = p := Prod.ext t1 t2
        subst hpq
        have := (hρ' g i q q1).symm.trans (hρ' g' i' q p1)
        injection this with this
        injection this with t1 t2
        exact ⟨t1, t2⟩
      · exfalso
        rcases s.live _ _ l β q2 q3 e with ⟨g0, i0, l0, u1, u2, u3⟩ | u
        · exact hother g' i' l' β p1 p2 d f g0 i0 l0 u1 u2 u3
        · have := (hH.dom g' i' l' d).2 β f; omega
      · exfalso
        rcases s.live _ _ l' β p2 p3 f with ⟨g0, i0, l0, u1, u2, u3⟩ | u
        · exact hother g i l β q1 q2 c e g0 i0 l0 u1 u2 u3
        · have := (hH.dom g i l c).2 β e; omega
      · exact hH.inj g i g' i' l l' β q2 p2 c d e f
    · intro g i l β a b c
      rcases hlive' g i l β a b c with ⟨q, q1, q2, q3⟩ | ⟨q1, q2⟩
      · exact s.hrep.out _ _ l β q2 q3 c
      · cases e : M' β with
        | none => rfl
        | some o =>
          exfalso
          rcases s.fresh β o e with u | u | ⟨g0, i0, l0, u1, u2, u3⟩
          · rw [hH.out g i l β q2 b c] at u; cases u
          · have := (hH.dom g i l b).2 β c; omega
          · exact hother g i l β q1 q2 b c g0 i0 l0 u1 u2 u3
    · intro g i l a
      have := hH.dom g i l a
      exact ⟨r3 g i this.1, fun β hβ => Nat.lt_of_lt_of_le (this.2 β hβ) s.size⟩
    · intro β o ho hn
      refine s.frame β o ho fun g0 i0 l0 a b c => ?_
      obtain ⟨p, p1, p2, p3⟩ := hlive0 g0 i0 l0 a b
      exact hn _ _ l0 p3 p2 c
    · intro β o ho
      rcases s.fresh β o ho with u | u | ⟨g0, i0, l0, u1, u2, u3⟩
      · exact .inl u
      · exact .inr (.inl u)
      · obtain ⟨p, p1, p2, p3⟩ := hlive0 g0 i0 l0 u1 u2
        exact .inr (.inr ⟨_, _, l0, p3, p2, u3⟩)
    · intro g i l β a b c
      rcases hlive' g i l β a b c with ⟨q, q1, q2, q3⟩ | ⟨q1, q2⟩
      · rcases s.live _ _ l β q2 q3 c with ⟨g0, i0, l0, u1, u2, u3⟩ | u
        · obtain ⟨p, p1, p2, p3⟩ := hlive0 g0 i0 l0 u1 u2
          exact .inl ⟨_, _, l0, p3, p2, u3⟩
        · exact .inr u
      · exact .inl ⟨g, i, l, q2, b, c⟩

def PureB : Blk → Prop
  | .dead => False
  | .cells _ rows => ∀ r ∈ rows, ∀ c ∈ r, Pure c
  | .map es => ∀ x ∈ es, Pure x.2

theorem PureB.ren {ρ : Nat → Nat → Option (Nat × Nat)} {x : Blk} (h : PureB x) : RenB ρ x x := by
  cases x with
  | dead => exact h.elim
  | cells sz rows => exact .pure sz rows h
  | map es => exact .pureMap es h

theorem PureB.live {x : Blk} (h : PureB x) : x.live = true := by cases x <;> first | exact h.elim | rfl

def to1 (g i : Nat) (a b : Nat) : Option (Nat × Nat) := match Nat.beq a 0 && Nat.beq b 0 with
  | true => some (g, i)
  | false => none
def from1 (g i : Nat) (a b : Nat) : Option (Nat × Nat) := match Nat.beq a g && Nat.beq b i with
  | true => some (0, 0)
  | false => none

theorem to1_spec {g i a b : Nat} {p : Nat × Nat} (h : to1 g i a b = some p) : a = 0 ∧ b = 0 ∧ p = (g, i) := by
  unfold to1 at h
  split at h
  · rename_i e
    simp only [Bool.and_eq_true] at e
    injection h with h
    exact ⟨Nat.eq_of_beq_eq_true e.1, Nat.eq_of_beq_eq_true e.2, h.symm⟩
  · cases h

theorem from1_spec {g i a b : Nat} {p : Nat × Nat} (h : from1 g i a b = some p) : a = g ∧ b = i ∧ p = (0, 0) := by
  unfold from1 at h
  split at h
  · rename_i e
    simp only [Bool.and_eq_true] at e
    injection h with h
    exact ⟨Nat.eq_of_beq_eq_true e.1, Nat.eq_of_beq_eq_true e.2, h.symm⟩
  · cases h

theorem from1_self (g i : Nat) : from1 g i g i = some (0, 0) := by simp [from1]
theorem from1_none {g i a b : Nat} (h : from1 g i a b = none) : ¬ (a = g ∧ b = i) := by
  rintro ⟨rfl, rfl⟩
  rw [from1_self] at h
  cases h

theorem hget_one (x : Blk) {g i : Nat} {y : Blk} (h : hget [[x]] g i = some y) : g = 0 ∧ i = 0 ∧ y = x := by
  unfold hget at h
  cases g with
  | zero =>
    simp only [List.getElem?_cons_zero] at h
    cases i with
    | zero => simp at h; exact ⟨rfl, rfl, h.symm⟩
    | succ i => simp at h
  | succ g => simp at h

def RenArgs (ρ : Nat → Nat → Option (Nat × Nat)) : List AV → List AV → Prop
  | [], [] => True
  | a :: l, b :: m => Ren ρ a b ∧ RenArgs ρ l m
  | _, _ => False

theorem RenArgs.spec {ρ} : ∀ {l m : List AV}, RenArgs ρ l m → l.length = m.length ∧ ∀ (j : Nat) a b, l[j]? = some a → m[j]? = some b → Ren ρ a b
  | [], [], _ => ⟨rfl, fun j a b h => by simp at h⟩
  | [], _ :: _, h => h.elim
  | _ :: _, [], h => h.elim
  | x :: l, y :: m, ⟨h1, h2⟩ => by
    obtain ⟨h3, h4⟩ := RenArgs.spec h2
    refine ⟨by simp [h3], fun j a b ha hb => ?_⟩
    cases j with
    | zero => simp at ha hb; subst ha; subst hb; exact h1
    | succ j => exact h4 j a b (by simpa using ha) (by simpa using hb)

/-- .. of one block, whose cells are pure. -/
theorem CallOK.via1 {P : Program} {f : FuncId} {args args' : List AV} {H : Heap} {x : Blk} (g i : Nat) {R : AV → Blk → Prop} (h : CallOK P f args' [[x]] fun res H' => ∃ y, H' = [[y]] ∧ Pure res ∧ PureB y ∧ R res y) (hx : hget H g i = some x) (hp : PureB x)
    (ha : RenArgs (to1 g i) args args') : CallOK P f args H fun res H' => ∃ y, H' = hset H g i y ∧ R res y := by
  obtain ⟨hl, hargs⟩ := ha.spec
  refine CallOK.via (to1 g i) (from1 g i) h hl hargs (fun a b p e => ?_) (fun a b q e => ?_) (fun a b y e => ?_) (fun a b p e => ?_) fun res H' hr => ?_
  · obtain ⟨rfl, rfl, rfl⟩ := to1_spec e
    exact from1_self g i
  · obtain ⟨rfl, rfl, rfl⟩ := from1_spec e
    rfl
  · obtain ⟨rfl, rfl, rfl⟩ := hget_one x e
    exact ⟨hp.live, (g, i), y, rfl, hx, hp.ren⟩
  · obtain ⟨rfl, rfl, rfl⟩ := to1_spec e
    rfl
  · obtain ⟨y, rfl, hres, hy, hR⟩ := hr
    have hok' : hok H g i := .inl (by rw [hx]; rfl)
    refine ⟨fun a b e => ?_, res, hset H g i y, .pure hres, fun a b z hz hzl => ?_, fun a b e => ?_, y, rfl, hR⟩
    · obtain ⟨z, hz⟩ := Option.isSome_iff_exists.1 e
      obtain ⟨rfl, rfl, rfl⟩ := hget_one y hz
      rfl
    · rw [get_hset _ _ _ _ _ _ hok'] at hz
      split at hz
      · rename_i e
        obtain ⟨rfl, rfl⟩ := e
        injection hz with hz
        subst hz
        exact .inl ⟨(0, 0), y, from1_self a b, rfl, hy.ren⟩
      · rename_i e
        refine .inr ⟨?_, hz⟩
        cases e' : from1 g i a b with
        | none => rfl
        | some q =>
          obtain ⟨rfl, rfl, _⟩ := from1_spec e'
          exact absurd ⟨rfl, rfl⟩ e
    · rw [get_hset _ _ _ _ _ _ hok']
      split
      · rfl
      · exact e

/-- .. of the first families, all of whose blocks are pure. -/
def low (k : Nat) (g i : Nat) : Option (Nat × Nat) := match Nat.blt g k with
  | true => some (g, i)
  | false => none

theorem low_spec {k g i : Nat} {p : Nat × Nat} (h : low k g i = some p) : g < k ∧ p = (g, i) := by
  unfold low at h
  split at h
  · rename_i e
    injection h with h
    exact ⟨Nat.le_of_ble_eq_true e, h.symm⟩
  · cases h
theorem low_lt {k g i : Nat} (h : g < k) : low k g i = some (g, i) := by
  unfold low
  have : Nat.blt g k = true := by simpa [Nat.blt_eq] using h
  rw [this]
theorem low_none {k g i : Nat} (h : low k g i = none) : k ≤ g := by
  rcases Nat.lt_or_ge g k with h' | h'
  · rw [low_lt h'] at h; cases h
  · exact h'

end Go.Av
