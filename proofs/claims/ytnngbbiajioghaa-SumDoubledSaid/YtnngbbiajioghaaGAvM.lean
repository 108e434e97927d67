import Derived.Test.YtnngbbiajioghaaGAv21
namespace Go.Av

/-! A call whose contract speaks of fewer blocks, under other numbers. -/

/-- ρ: the caller's number of the callee's; ρ': back. -/
theorem CallOK.via {P : Program} {f : FuncId} {args args' : List AV} {H0 H : Heap} {R R' : AV → Heap → Prop} (ρ ρ' : Nat → Nat → Option (Nat × Nat)) (h : CallOK P f args' H0 R)
    (hl : args.length = args'.length) (hargs : ∀ (j : Nat) a b, args[j]? = some a → args'[j]? = some b → Ren ρ a b)
    (hρ : ∀ g i p, ρ g i = some p → ρ' p.1 p.2 = some (g, i)) (hρ' : ∀ g i q, ρ' g i = some q → ρ q.1 q.2 = some (g, i))
    (h0 : ∀ g i x, hget H0 g i = some x → x.live = true ∧ ∃ p y, ρ g i = some p ∧ hget H p.1 p.2 = some y ∧ RenB ρ y x)
    (hdom : ∀ g i p, ρ g i = some p → (hget H0 g i).isSome)
    (hR : ∀ res H', R res H' → (∀ g i, (hget H' g i).isSome → (hget H0 g i).isSome) ∧ ∃ res' H'', Ren ρ' res res' ∧
      (∀ g i x, hget H'' g i = some x → x.live = true → (∃ q y, ρ' g i = some q ∧ hget H' q.1 q.2 = some y ∧ RenB ρ' y x) ∨ (ρ' g i = none ∧ hget H g i = some x)) ∧
      (∀ g i, (hget H g i).isSome → (hget H'' g i).isSome) ∧ R' res' H'') : CallOK P f args H R' := by
  refine ⟨h.1, fun M J w cargs e1 e2 hH hM => ?_⟩
  have hlt : ∀ {H : Heap} {g i : Nat}, (hget H g i).isSome → g < H.length := by
    intro H g i hs
    unfold hget at hs
    split at hs
    · rename_i f e; exact (List.getElem?_eq_some_iff.1 e).1
    · cases hs
  have hJ1 : ∀ g i l, J.via ρ g i = some l → ∃ p, ρ g i = some p ∧ J p.1 p.2 = some l := by
    intro g i l hl
    unfold Inj.via at hl
    split at hl
    · rename_i g' i' e; exact ⟨(g', i'), e, hl⟩
    · cases hl
  have hlive0 : ∀ g i l, liveAt H0 g i → J.via ρ g i = some l → ∃ p, ρ g i = some p ∧ J p.1 p.2 = some l ∧ liveAt H p.1 p.2 := by
    rintro g i l ⟨x, hx, hxl⟩ hJ
    obtain ⟨_, p, y, p1, p2, p3⟩ := h0 g i x hx
    obtain ⟨p', q1, q2⟩ := hJ1 g i l hJ
    rw [p1] at q1
    injection q1 with q1
    subst q1
    exact ⟨p, p1, q2, y, p2, p3.live hxl⟩
  have hH0 : HRep M (J.via ρ) H0 w.heap := by
    refine ⟨fun g i x hx hxl => ?_, fun g i g' i' l l' β a b c d e f => ?_, fun g i l β a b c => ?_, fun g i l a => ?_⟩
    · obtain ⟨_, p, y, p1, p2, p3⟩ := h0 g i x hx
      obtain ⟨l, q1, q2⟩ := hH.blk p.1 p.2 y p2 (p3.live hxl)
      exact ⟨l, by rw [Inj.via_some (g' := p.1) (i' := p.2) p1]; exact q1, q2.ren p3⟩
    · obtain ⟨p, p1, p2, p3⟩ := hlive0 g i l a c
      obtain ⟨q, q1, q2, q3⟩ := hlive0 g' i' l' b d
      obtain ⟨r1, r2⟩ := hH.inj _ _ _ _ l l' β p3 q3 p2 q2 e f
      have hpq : p = q := Prod.ext r1 r2
      subst hpq
      have := (hρ g i p p1).symm.trans (hρ g' i' p q1)
      injection this with this
      injection this with t1 t2
      exact ⟨t1, t2⟩
    · obtain ⟨p, p1, p2, p3⟩ := hlive0 g i l a b
      exact hH.out _ _ l β p3 p2 c
    · obtain ⟨p, p1, p2⟩ := hJ1 g i l a
      exact ⟨hdom g i p p1, (hH.dom _ _ l p2).2⟩
  refine (h.2 M (J.via ρ) w cargs (by omega) (fun j c v hc hv => ?_) hH0 hM).mono ?_
  · obtain ⟨a, ha⟩ := get_of_len hl hc
    exact (e2 j a v ha hv).ren (hargs j a c ha hc)
  · rintro e w' ⟨v, M', J', res, H', rfl, s, hres, hr⟩
    obtain ⟨hd, res', H'', r1, r2, r3, r4⟩ := hR res H' hr
    -- all that the callee knows the caller knows
    have hJ' : ∀ g i l, J' g i = some l → ∃ p, ρ g i = some p ∧ J p.1 p.2 = some l := by
      intro g i l hl
      have hs := hd g i (s.hrep.dom g i l hl).1
      obtain ⟨x, hx⟩ := Option.isSome_iff_exists.1 hs
      obtain ⟨hxl, p, y, p1, p2, p3⟩ := h0 g i x hx
      obtain ⟨l1, q1, _⟩ := hH0.blk g i x hx hxl
      have := s.j g i l1 (hlt hs) q1
      rw [hl] at this
      injection this with this
      subst this
      obtain ⟨p', t1, t2⟩ := hJ1 g i l q1
      exact ⟨p', t1, t2⟩
    have hback : Ext M' (J'.via ρ') M' J := ⟨fun _ _ h => h, fun g i l hl => by
      unfold Inj.via at hl
      split at hl
      · rename_i g' i' e
        obtain ⟨p, p1, p2⟩ := hJ' g' i' l hl
        have := hρ' g i _ e
        rw [p1] at this
        injection this with this
        subst this
        exact p2
      · cases hl⟩
    have hfwd : Ext M J M' J := ⟨s.m, fun _ _ _ h => h⟩
    -- blocks that the callee does not see
    have hother : ∀ g i l β, ρ' g i = none → liveAt H g i → J g i = some l → l.blk = some β → ∀ g0 i0 l0, liveAt H0 g0 i0 → J.via ρ g0 i0 = some l0 → l0.blk ≠ some β := by
      intro g i l β hn hlv hJ hb g0 i0 l0 a b c
      obtain ⟨p, p1, p2, p3⟩ := hlive0 g0 i0 l0 a b
      obtain ⟨t1, t2⟩ := hH.inj _ _ _ _ l l0 β hlv p3 hJ p2 hb c
      have := hρ g0 i0 p p1
      rw [← t1, ← t2, hn] at this
      cases this
    have hlive' : ∀ g i l β, liveAt H'' g i → J g i = some l → l.blk = some β → (∃ q, ρ' g i = some q ∧ liveAt H' q.1 q.2 ∧ J' q.1 q.2 = some l) ∨ (ρ' g i = none ∧ liveAt H g i) := by
      rintro g i l β ⟨x, hx, hxl⟩ hJ hb
      rcases r2 g i x hx hxl with ⟨q, y, q1, q2, q3⟩ | ⟨q1, q2⟩
      · left
        refine ⟨q, q1, ⟨y, q2, q3.live hxl⟩, ?_⟩
        obtain ⟨l', t1, _⟩ := s.hrep.blk q.1 q.2 y q2 (q3.live hxl)
        obtain ⟨p, p1, p2⟩ := hJ' _ _ _ t1
        have := hρ' g i q q1
        rw [p1] at this
        injection this with this
        subst this
        rw [hJ] at p2
        injection p2 with p2
        subst p2
        exact t1
      · exact .inr ⟨q1, x, q2, hxl⟩
    refine ⟨v, M', J, res', H'', rfl, ⟨s.m, fun _ _ _ _ h => h, ⟨?_, ?_, ?_, ?_⟩, s.mrep, s.os, s.tape, s.output, s.size, ?_, ?_, ?_, s.bk⟩, (hres.ren r1).ext hback, r4⟩
    · intro g i x hx hxl
      rcases r2 g i x hx hxl with ⟨q, y, q1, q2, q3⟩ | ⟨q1, q2⟩
      · obtain ⟨l, t1, t2⟩ := s.hrep.blk q.1 q.2 y q2 (q3.live hxl)
        refine ⟨l, hback.j g i l (by rw [Inj.via_some (g' := q.1) (i' := q.2) q1]; exact t1), (t2.ren q3).ext hback fun _ _ => rfl⟩
      · obtain ⟨l, t1, t2⟩ := hH.blk g i x q2 hxl
        refine ⟨l, t1, t2.ext hfwd fun β hβ => ?_⟩
        have hb := (hH.dom g i l t1).2 β hβ
        rw [Array.getElem?_eq_getElem hb]
        exact s.frame β _ (Array.getElem?_eq_getElem hb) (hother g i l β q1 ⟨x, q2, hxl⟩ t1 hβ)
    · intro g i g' i' l l' β a b c d e f
      rcases hlive' g i l β a c e with ⟨q, q1, q2, q3⟩ | ⟨q1, q2⟩ <;> rcases hlive' g' i' l' β b d f with ⟨p, p1, p2, p3⟩ | ⟨p1, p2⟩
      · obtain ⟨t1, t2⟩ := s.hrep.inj _ _ _ _ l l' β q2 p2 q3 p3 e f
        have hpq : q = p := Prod.ext t1 t2
        subst hpq
        have := (hρ' g i q q1).symm.trans (hρ' g' i' q p1)
        injection this with this
        injection this with t1 t2
        exact ⟨t1, t2⟩
      · exfalso
        rcases s.live _ _ l β q2 q3 e with ⟨g0, i0, l0, u1, u2, u3⟩ | u
        · exact hother g' i' l' β p1 p2 d f g0 i0 l0 u1 u2 u3
        · have := (hH.dom g' i' l' d).2 β f; omega
      · exfalso
        rcases s.live _ _ l' β p2 p3 f with ⟨g0, i0, l0, u1, u2, u3⟩ | u
        · exact hother g i l β q1 q2 c e g0 i0 l0 u1 u2 u3
        · have := (hH.dom g i l c).2 β e; omega
      · exact hH.inj g i g' i' l l' β q2 p2 c d e f
    · intro g i l β a b c
      rcases hlive' g i l β a b c with ⟨q, q1, q2, q3⟩ | ⟨q1, q2⟩
      · exact s.hrep.out _ _ l β q2 q3 c
      · cases e : M' β with
        | none => rfl
        | some o =>
          exfalso
          rcases s.fresh β o e with u | u | ⟨g0, i0, l0, u1, u2, u3⟩
          · rw [hH.out g i l β q2 b c] at u; cases u
          · have := (hH.dom g i l b).2 β c; omega
          · exact hother g i l β q1 q2 b c g0 i0 l0 u1 u2 u3
    · intro g i l a
      have := hH.dom g i l a
      exact ⟨r3 g i this.1, fun β hβ => Nat.lt_of_lt_of_le (this.2 β hβ) s.size⟩
    · intro β o ho hn
      refine s.frame β o ho fun g0 i0 l0 a b c => ?_
      obtain ⟨p, p1, p2, p3⟩ := hlive0 g0 i0 l0 a b
      exact hn _ _ l0 p3 p2 c
    · intro β o ho
      rcases s.fresh β o ho with u | u | ⟨g0, i0, l0, u1, u2, u3⟩
      · exact .inl u
      · exact .inr (.inl u)
      · obtain ⟨p, p1, p2, p3⟩ := hlive0 g0 i0 l0 u1 u2
        exact .inr (.inr ⟨_, _, l0, p3, p2, u3⟩)
    · intro g i l β a b c
      rcases hlive' g i l β a b c with ⟨q, q1, q2, q3⟩ | ⟨q1, q2⟩
      · rcases s.live _ _ l β q2 q3 c with ⟨g0, i0, l0, u1, u2, u3⟩ | u
        · obtain ⟨p, p1, p2, p3⟩ := hlive0 g0 i0 l0 u1 u2
          exact .inl ⟨_, _, l0, p3, p2, u3⟩
        · exact .inr u
      · exact .inl ⟨g, i, l, q2, b, c⟩

def PureB : Blk → Prop
  | .dead => False
  | .cells _ rows => ∀ r ∈ rows, ∀ c ∈ r, Pure c
  | .map es => ∀ x ∈ es, Pure x.2
  | .lp .. => False
  | .umap .. => False

theorem PureB.ren {ρ : Nat → Nat → Option (Nat × Nat)} {x : Blk} (h : PureB x) : RenB ρ x x := by
  cases x with
  | dead => exact h.elim
  | lp => exact h.elim
  | umap => exact h.elim
  | cells sz rows => exact .pure sz rows h
  | map es => exact .pureMap es h

theorem PureB.live {x : Blk} (h : PureB x) : x.live = true := by cases x <;> first | exact h.elim | rfl

def to1 (g i : Nat) (a b : Nat) : Option (Nat × Nat) := match Nat.beq a 0 && Nat.beq b 0 with
  | true => some (g, i)
  | false => none
def from1 (g i : Nat) (a b : Nat) : Option (Nat × Nat) := match Nat.beq a g && Nat.beq b i with
  | true => some (0, 0)
  | false => none

theorem to1_spec {g i a b : Nat} {p : Nat × Nat} (h : to1 g i a b = some p) : a = 0 ∧ b = 0 ∧ p = (g, i) := by
  unfold to1 at h
  split at h
  · rename_i e
    simp only [Bool.and_eq_true] at e
    injection h with h
    exact ⟨Nat.eq_of_beq_eq_true e.1, Nat.eq_of_beq_eq_true e.2, h.symm⟩
  · cases h

theorem from1_spec {g i a b : Nat} {p : Nat × Nat} (h : from1 g i a b = some p) : a = g ∧ b = i ∧ p = (0, 0) := by
  unfold from1 at h
  split at h
  · rename_i e
    simp only [Bool.and_eq_true] at e
    injection h with h
    exact ⟨Nat.eq_of_beq_eq_true e.1, Nat.eq_of_beq_eq_true e.2, h.symm⟩
  · cases h

theorem from1_self (g i : Nat) : from1 g i g i = some (0, 0) := by simp [from1]
theorem from1_none {g i a b : Nat} (h : from1 g i a b = none) : ¬ (a = g ∧ b = i) := by
  rintro ⟨rfl, rfl⟩
  rw [from1_self] at h
  cases h

theorem hget_one (x : Blk) {g i : Nat} {y : Blk} (h : hget [[x]] g i = some y) : g = 0 ∧ i = 0 ∧ y = x := by
  unfold hget at h
  cases g with
  | zero =>
    simp only [List.getElem?_cons_zero] at h
    cases i with
    | zero => simp at h; exact ⟨rfl, rfl, h.symm⟩
    | succ i => simp at h
  | succ g => simp at h

def RenArgs (ρ : Nat → Nat → Option (Nat × Nat)) : List AV → List AV → Prop
  | [], [] => True
  | a :: l, b :: m => Ren ρ a b ∧ RenArgs ρ l m
  | _, _ => False

theorem RenArgs.spec {ρ} : ∀ {l m : List AV}, RenArgs ρ l m → l.length = m.length ∧ ∀ (j : Nat) a b, l[j]? = some a → m[j]? = some b → Ren ρ a b
  | [], [], _ => ⟨rfl, fun j a b h => by simp at h⟩
  | [], _ :: _, h => h.elim
  | _ :: _, [], h => h.elim
  | x :: l, y :: m, ⟨h1, h2⟩ => by
    obtain ⟨h3, h4⟩ := RenArgs.spec h2
    refine ⟨by simp [h3], fun j a b ha hb => ?_⟩
    cases j with
    | zero => simp at ha hb; subst ha; subst hb; exact h1
    | succ j => exact h4 j a b (by simpa using ha) (by simpa using hb)

/-- .. of one block, whose cells are pure. -/
theorem CallOK.via1 {P : Program} {f : FuncId} {args args' : List AV} {H : Heap} {x : Blk} (g i : Nat) {R : AV → Blk → Prop} (h : CallOK P f args' [[x]] fun res H' => ∃ y, H' = [[y]] ∧ Pure res ∧ PureB y ∧ R res y) (hx : hget H g i = some x) (hp : PureB x)
    (ha : RenArgs (to1 g i) args args') : CallOK P f args H fun res H' => ∃ y, H' = hset H g i y ∧ R res y := by
  obtain ⟨hl, hargs⟩ := ha.spec
  refine CallOK.via (to1 g i) (from1 g i) h hl hargs (fun a b p e => ?_) (fun a b q e => ?_) (fun a b y e => ?_) (fun a b p e => ?_) fun res H' hr => ?_
  · obtain ⟨rfl, rfl, rfl⟩ := to1_spec e
    exact from1_self g i
  · obtain ⟨rfl, rfl, rfl⟩ := from1_spec e
    rfl
  · obtain ⟨rfl, rfl, rfl⟩ := hget_one x e
    exact ⟨hp.live, (g, i), y, rfl, hx, hp.ren⟩
  · obtain ⟨rfl, rfl, rfl⟩ := to1_spec e
    rfl
  · obtain ⟨y, rfl, hres, hy, hR⟩ := hr
    have hok' : hok H g i := .inl (by rw [hx]; rfl)
    refine ⟨fun a b e => ?_, res, hset H g i y, .pure hres, fun a b z hz hzl => ?_, fun a b e => ?_, y, rfl, hR⟩
    · obtain ⟨z, hz⟩ := Option.isSome_iff_exists.1 e
      obtain ⟨rfl, rfl, rfl⟩ := hget_one y hz
      rfl
    · rw [get_hset _ _ _ _ _ _ hok'] at hz
      split at hz
      · rename_i e
        obtain ⟨rfl, rfl⟩ := e
        injection hz with hz
        subst hz
        exact .inl ⟨(0, 0), y, from1_self a b, rfl, hy.ren⟩
      · rename_i e
        refine .inr ⟨?_, hz⟩
        cases e' : from1 g i a b with
        | none => rfl
        | some q =>
          obtain ⟨rfl, rfl, _⟩ := from1_spec e'
          exact absurd ⟨rfl, rfl⟩ e
    · rw [get_hset _ _ _ _ _ _ hok']
      split
      · rfl
      · exact e

/-- .. of the first families, all of whose blocks are pure. -/
def low (k : Nat) (g i : Nat) : Option (Nat × Nat) := match Nat.blt g k with
  | true => some (g, i)
  | false => none

theorem low_spec {k g i : Nat} {p : Nat × Nat} (h : low k g i = some p) : g < k ∧ p = (g, i) := by
  unfold low at h
  split at h
  · rename_i e
    injection h with h
    exact ⟨Nat.le_of_ble_eq_true e, h.symm⟩
  · cases h
theorem low_lt {k g i : Nat} (h : g < k) : low k g i = some (g, i) := by
  unfold low
  have : Nat.blt g k = true := by simpa [Nat.blt_eq] using h
  rw [this]
theorem low_none {k g i : Nat} (h : low k g i = none) : k ≤ g := by
  rcases Nat.lt_or_ge g k with h' | h'
  · rw [low_lt h'] at h; cases h
  · exact h'

end Go.Av
namespace Go.Av

/-! A region whose order is open and whose last operation, behind all others, does whatever it does; calls from a heap whose first blocks are the callee's. -/

theorem wpOps_append {P : Program} {ops : Array Oper} {Q : Exit → Act → World → Prop} {l2 : List Nat} : ∀ (l : List Nat) (a : Act) (w : World), wpOps P ops (fun e a w => e = .normal ∧ wpOps P ops Q l2 a w) l a w → wpOps P ops Q (l ++ l2) a w
  | [], a, w, h => h.2
  | i :: l, a, w, h => by
    show wpOps P ops Q (i :: (l ++ l2)) a w
    simp only [wpOps] at h ⊢
    split at h
    · exact wpOps_append l a w h
    · rename_i o e
      split at h
      · rename_i hw
        rw [if_pos hw]
        rcases h with h | ⟨_, a', w', h, _⟩
        · left
          unfold Oper.wp at h ⊢
          generalize (execOp a.eval o).run P w = r at *
          cases r with
          | ok n w' =>
            cases n <;> simp only [Oper.upon] at h ⊢
            all_goals first
              | exact wpOps_append l _ _ h
              | exact Calls.mono h (fun e w'' he => by
                  cases e
                  · exact wpOps_append l _ _ he
                  · cases he.1
                  · obtain ⟨_, _, h, _⟩ := he; cases h)
              | exact Rows.mono h (fun _ _ he => wpOps_append l _ _ he)
          | halt x w' =>
            cases x <;> simp only [Oper.upon] at h ⊢ <;> cases h.1
        · cases h
      · rename_i hw
        rw [if_neg hw]
        exact wpOps_append l _ _ h

def splitLast {α : Type} : List α → Option (List α × α)
  | [] => none
  | [x] => some ([], x)
  | x :: y :: r => match splitLast (y :: r) with
    | some (l, z) => some (x :: l, z)
    | none => none

theorem splitLast_eq {α : Type} : ∀ {zs xs : List α} {y : α}, splitLast zs = some (xs, y) → zs = xs ++ [y]
  | [], xs, y, h => by cases h
  | [x], xs, y, h => by simp [splitLast] at h; obtain ⟨rfl, rfl⟩ := h; rfl
  | x :: z :: r, xs, y, h => by
    simp only [splitLast] at h
    split at h
    · rename_i l u e
      injection h with h
      injection h with h1 h2
      subst h1; subst h2
      rw [splitLast_eq e]
      rfl
    · cases h

def chkL (af : List (List Nat)) (R : List RRec) : Bool :=
  lowB 0 af && (chkAll af R 0 R && (Nat.beq af.length (R.length + 1) && (List.range R.length).all fun j => befB af af.length j R.length))

theorem AWP.drawLast {P : Program} {N k : Nat} {fr : Fr} {H : Heap} {Q : Exit → Fr → Heap → Prop} {zs xs : List IOper} {y : IOper} {af : List (List Nat)} {R : List RRec} {fr' : Fr} {H' : Heap} (hz : splitLast zs = some (xs, y)) (hp : P.follows .mixedOrders = true)
    (hrun : DRun P H.length 0 xs fr (H ++ [List.replicate zs.length .dead]) R fr' H') (hchk : chkL af R = true) (h : Reg P N k [y] fr' H' (Q .normal)) : AWP P N k (.draw zs af) Q fr H := by
  have hz := splitLast_eq hz
  intro c0 hc cx M J tmps w hcx hF hH hM
  cases c0 with
  | region id ops draw =>
    simp only [ccode] at hc
    split at hc
    · rename_i ys hys
      cases draw with
      | false => cases hc
      | true =>
        injection hc with hc
        injection hc with hc1 hc2
        subst hc1; subst hc2
        refine wpIn_region_draw fun t => lift_post hcx ?_
        rw [hp]
        have hsch : Region.schedule true ops t = Region.linearise .any ops t := by simp [Region.schedule]
        rw [hsch]
        obtain ⟨hlen, hgx⟩ := copers_len _ _ hys
        obtain ⟨hrx, hrid⟩ := hrun.recs
        have hsz : ops.size = R.length + 1 := by
          have := congrArg List.length hrx
          simp at this
          rw [this]
          have h2 : ys.length = ops.size := by rw [hlen]; simp
          rw [← h2, hz]
          simp
        have hyget : ∀ (j : Nat) (x : IOper), xs[j]? = some x → ys[j]? = some x := by
          intro j x hj
          rw [hz, List.getElem?_append_left (List.getElem?_eq_some_iff.1 hj).1]
          exact hj
        have hxlen : xs.length = R.length := by rw [← hrx]; simp
        let R' : Nat → RRec := fun j => R.getD j ⟨⟨none, none, .call 0 []⟩, (0, 0), .undef, [], []⟩
        have hR' : ∀ j, j < R.length → R[j]? = some (R' j) := by
          intro j hj
          simp [R', List.getD, hj]
        have haf : ∀ j l, (ops.toList.map cafter)[j]? = some l → afterOf ops j = l := by
          intro j l hj
          rw [List.getElem?_map, Array.getElem?_toList] at hj
          unfold afterOf
          cases ho : ops[j]? with
          | none => rw [ho] at hj; cases hj
          | some o => rw [ho] at hj; simpa using hj
        simp only [chkL, Bool.and_eq_true] at hchk
        obtain ⟨hc1, hc2, _, hc4⟩ := hchk
        have hs := linearise_schedI ops (fun a b => b < R.length ∧ indep (R' a) (R' b) = true) (fun j k hk => by
          have hl : (ops.toList.map cafter)[j]? = some (afterOf ops j) := by
            rw [List.getElem?_map, Array.getElem?_toList]
            unfold afterOf at hk ⊢
            cases ho : ops[j]? with
            | none => rw [ho] at hk; cases hk
            | some o => rfl
          have := lowB_sound _ 0 hc1 j _ hl k hk
          omega) (fun a b hab hb => by
          by_cases hbn : b < R.length
          · have h1 := chkAll_sound _ 0 hc2 b _ (hR' b hbn)
            rcases chkB_sound _ 0 h1 a _ (hR' a (by omega)) (by omega) with h2 | h2
            · left
              rw [Nat.zero_add, Nat.zero_add] at h2
              exact befB_sound haf _ _ _ h2
            · exact .inr ⟨hbn, h2⟩
          · have hbe : b = R.length := by omega
            subst hbe
            left
            exact befB_sound haf _ _ _ (List.all_eq_true.1 hc4 a (List.mem_range.2 hab))) t
        rw [hsz, List.range_succ] at hs
        obtain ⟨l', hl', hs'⟩ := hs.last (n := R.length) (fun a ha => by have := ha.1; omega) (List.range R.length) (by simp) rfl
        have hs := hs'.to (R := R') fun a b hab => hab.2
        rw [hl']
        refine wpOps_append l' _ _ ?_
        have hrem : ((List.range R.length).map fun j => (j, R' j)).map (·.2) = R := by
          apply List.ext_getElem?
          intro j
          rw [List.map_map, List.getElem?_map]
          by_cases hj : j < R.length
          · rw [hR' j hj, List.getElem?_range hj]
            rfl
          · have h1 : (List.range R.length)[j]? = none := List.getElem?_eq_none (by rw [List.length_range]; omega)
            have h2 : R[j]? = none := List.getElem?_eq_none (by omega)
            rw [h1, h2]
            rfl
        have hdead : ∀ g i x, hget (H ++ [List.replicate ys.length Blk.dead]) g i = some x → x.live = true → hget H g i = some x := by
          intro g i x hx hl
          rw [hget_append] at hx
          split at hx
          · rw [List.getElem?_replicate] at hx
            split at hx
            · injection hx with hx; subst hx; cases hl
            · cases hx
          · exact hx
        have hH0 : HRep M J (H ++ [List.replicate ys.length .dead]) w.heap := by
          refine ⟨fun g i x hx hl => hH.blk g i x (hdead g i x hx hl) hl, fun g i g' i' l l' β ⟨x, hx, hl⟩ ⟨y, hy, hl'⟩ => hH.inj g i g' i' l l' β ⟨x, hdead _ _ _ hx hl, hl⟩ ⟨y, hdead _ _ _ hy hl', hl'⟩,
            fun g i l β ⟨x, hx, hl⟩ => hH.out g i l β ⟨x, hdead _ _ _ hx hl, hl⟩, fun g i l hJ => ?_⟩
          have := hH.dom g i l hJ
          refine ⟨?_, this.2⟩
          rw [hget_append]
          split
          · rename_i e
            subst e
            have h2 := this.1
            simp [hget] at h2
          · exact this.1
        have hids : ∀ j, j < R.length → (R' j).id = (H.length, j) := fun j hj => by rw [hrid j _ (hR' j hj), Nat.zero_add]
        have hlive : ∀ g i, liveAt (H ++ [List.replicate ys.length Blk.dead]) g i → liveAt H g i := fun g i ⟨x, hx, hl⟩ => ⟨x, hdead g i x hx hl, hl⟩
        refine run_sched (k := k) (N := N) (t := (fr', H')) hs (fun p hp => ?_) ?_ (fr, H ++ [List.replicate ys.length .dead]) M J tmps { w with drawn := w.drawn + 1 } hF hH0 hM (by rw [hrem]; exact hrun.run) (fun p hp => ?_) _ fun a' w' hp => ⟨rfl, ?_⟩
        · obtain ⟨j, hj, rfl⟩ := List.mem_map.1 hp
          have hj := List.mem_range.1 hj
          have ho : ops[j]? = some ops[j] := Array.getElem?_eq_getElem (by omega)
          obtain ⟨x, hx1, hx2⟩ := hgx j ops[j] (by rw [Array.getElem?_toList]; exact ho)
          refine ⟨ops[j], ho, ?_⟩
          have : some (R' j).x = some x := by
            rw [← hx1]
            have h3 : xs[j]? = some (R' j).x := by rw [← hrx, List.getElem?_map, hR' j hj]; rfl
            rw [hyget j _ h3]
          injection this with this
          rw [this]
          exact hx2
        · rw [List.map_map]
          have he : (List.range R.length).map ((fun x : Nat × RRec => x.2.id) ∘ fun j => (j, R' j)) = (List.range R.length).map fun j => (H.length, j) :=
            List.map_congr_left fun j hj => hids j (List.mem_range.1 hj)
          rw [he]
          exact List.Pairwise.map _ (fun a b hab e => hab (by injection e)) List.nodup_range
        · obtain ⟨j, hj, rfl⟩ := List.mem_map.1 hp
          have hj := List.mem_range.1 hj
          rw [hids j hj]
          refine ⟨?_, ?_⟩
          · rw [hget_append, if_pos rfl, List.getElem?_replicate, if_pos (by rw [hlen]; simp; omega)]
            rfl
          · cases e : J H.length j with
            | none => rfl
            | some l =>
              have := (hH.dom _ _ l e).1
              simp [hget] at this
        · obtain ⟨M2, J2, fr2, H2, q1, q2, q3, q4, q5⟩ := hp
          subst q4; subst q5
          obtain ⟨a't, a'd⟩ := a'
          cases q3
          have q1' : Step k M J H w M2 J2 H2 w' :=
            ⟨q1.m, q1.j, q1.hrep, q1.mrep, q1.os, q1.tape, q1.output, q1.size, fun β o ho hn => q1.frame β o ho fun g i l hl hJ => hn g i l (hlive g i hl) hJ,
              fun β o ho => or2 (q1.fresh β o ho) (fun h => h) fun h => or2 h (fun h => h) fun ⟨g, i, l, a, b, c⟩ => ⟨g, i, l, hlive g i a, b, c⟩,
              fun g i l β a b c => or2 (q1.live g i l β a b c) (fun ⟨g0, i0, l0, a, b, c⟩ => ⟨g0, i0, l0, hlive g0 i0 a, b, c⟩) fun h => h, q1.bk⟩
          have ho : ops[R.length]? = some ops[R.length] := Array.getElem?_eq_getElem (by omega)
          obtain ⟨x, hx1, hx2⟩ := hgx R.length ops[R.length] (by rw [Array.getElem?_toList]; exact ho)
          have hxy : x = y := by
            rw [hz, ← hxlen, List.getElem?_append_right (Nat.le_refl _), Nat.sub_self] at hx1
            simpa using hx1.symm
          subst hxy
          refine h ops [R.length] ⟨⟨_, ho, hx2⟩, trivial⟩ M2 J2 a't w' q2 q1.hrep q1.mrep _ fun a'' w'' hp => ?_
          obtain ⟨M3, J3, fr3, H3, r1, r2, r3, r4⟩ := hp
          exact ⟨rfl, M3, J3, fr3, H3, q1'.trans r1, r2, r3, r4⟩
    · cases hc
  | _ => simp only [ccode] at hc; (try split at hc) <;> (try cases hc) <;> (try simp at hc)

theorem AWP.dkl {P : Program} {N k : Nat} {fr : Fr} {H : Heap} {Q : Exit → Fr → Heap → Prop} {zs xs : List IOper} {y : IOper} {af : List (List Nat)} (hz : splitLast zs = some (xs, y)) (hp : P.follows .mixedOrders = true)
    (h : DK P H.length 0 xs fr (H ++ [List.replicate zs.length .dead]) [] fun R fr' H' => chkL af R = true ∧ Reg P N k [y] fr' H' (Q .normal)) : AWP P N k (.draw zs af) Q fr H := by
  obtain ⟨R, fr', H', h1, h2, h3⟩ := h
  exact AWP.drawLast hz hp h1 h2 h3

/-! Two families of one block each, ahead of others. -/

def low2 (g i : Nat) : Option (Nat × Nat) := match Nat.blt g 2 && Nat.beq i 0 with
  | true => some (g, i)
  | false => none

theorem low2_spec {g i : Nat} {p : Nat × Nat} (h : low2 g i = some p) : g < 2 ∧ i = 0 ∧ p = (g, i) := by
  unfold low2 at h
  split at h
  · rename_i e
    simp only [Bool.and_eq_true] at e
    injection h with h
    exact ⟨Nat.le_of_ble_eq_true e.1, Nat.eq_of_beq_eq_true e.2, h.symm⟩
  · cases h

theorem CallOK.two {P : Program} {f : FuncId} {args : List AV} {a b : Blk} {X : Heap} {R : AV → Blk → Blk → Prop} (h : CallOK P f args [[a], [b]] fun res H' => ∃ a' b', H' = [[a'], [b']] ∧ Pure res ∧ PureB a' ∧ PureB b' ∧ R res a' b') (ha : PureB a) (hb : PureB b)
    (hargs : RenArgs low2 args args) : CallOK P f args ([a] :: [b] :: X) fun res H' => ∃ a' b', H' = [a'] :: [b'] :: X ∧ PureB a' ∧ PureB b' ∧ R res a' b' := by
  have hcase : ∀ (a b : Blk) (X : Heap) g i, g < 2 → i = 0 → hget ([a] :: [b] :: X) g i = some (match g with | 0 => a | _ => b) := by
    intro a b X g i hg hi
    subst hi
    match g, hg with
    | 0, _ => rfl
    | 1, _ => rfl
  have hinv : ∀ (a b : Blk) g i x, hget [[a], [b]] g i = some x → g < 2 ∧ i = 0 ∧ x = (match g with | 0 => a | _ => b) := by
    intro a b g i x h
    match g, i with
    | 0, 0 => exact ⟨by omega, rfl, by simpa [hget] using h.symm⟩
    | 1, 0 => exact ⟨by omega, rfl, by simpa [hget] using h.symm⟩
    | 0, i + 1 => simp [hget] at h
    | 1, i + 1 => simp [hget] at h
    | g + 2, i => simp [hget] at h
  have hl2 : ∀ g i, g < 2 → i = 0 → low2 g i = some (g, i) := by
    intro g i hg hi
    subst hi
    match g, hg with
    | 0, _ => rfl
    | 1, _ => rfl
  refine CallOK.via low2 low2 h rfl hargs.spec.2 (fun g i p e => ?_) (fun g i p e => ?_) (fun g i x e => ?_) (fun g i p e => ?_) fun res H' hr => ?_
  · obtain ⟨h1, h2, rfl⟩ := low2_spec e
    exact e
  · obtain ⟨h1, h2, rfl⟩ := low2_spec e
    exact e
  · obtain ⟨h1, h2, h3⟩ := hinv a b g i x e
    have hx : PureB x := by
      subst h3
      split
      · exact ha
      · exact hb
    exact ⟨hx.live, (g, i), x, hl2 g i h1 h2, by rw [hcase a b X g i h1 h2, h3], hx.ren⟩
  · obtain ⟨h1, h2, rfl⟩ := low2_spec e
    rw [hcase a b [] g i h1 h2]
    rfl
  · obtain ⟨a', b', rfl, h1, h2, h3, h4⟩ := hr
    refine ⟨fun g i e => ?_, res, [a'] :: [b'] :: X, .pure h1, fun g i x hx hxl => ?_, fun g i e => ?_, a', b', rfl, h2, h3, h4⟩
    · obtain ⟨x, hx⟩ := Option.isSome_iff_exists.1 e
      obtain ⟨p1, p2, _⟩ := hinv a' b' g i x hx
      rw [hcase a b [] g i p1 p2]
      rfl
    · by_cases hg : g < 2 ∧ i = 0
      · rw [hcase a' b' X g i hg.1 hg.2] at hx
        injection hx with hx
        left
        refine ⟨(g, i), x, hl2 g i hg.1 hg.2, by rw [hcase a' b' [] g i hg.1 hg.2, hx], PureB.ren ?_⟩
        subst hx
        split
        · exact h2
        · exact h3
      · right
        refine ⟨?_, ?_⟩
        · cases e : low2 g i with
          | none => rfl
          | some p => exact absurd ⟨(low2_spec e).1, (low2_spec e).2.1⟩ hg
        · match g, i, hg, hx with
          | 0, i + 1, _, hx => simp [hget] at hx
          | 1, i + 1, _, hx => simp [hget] at hx
          | g + 2, i, _, hx => exact hx
          | 0, 0, hg, _ => exact absurd ⟨by omega, rfl⟩ hg
          | 1, 0, hg, _ => exact absurd ⟨by omega, rfl⟩ hg
    · match g, i with
      | 0, 0 => rfl
      | 1, 0 => rfl
      | 0, i + 1 => simp [hget] at e
      | 1, i + 1 => simp [hget] at e
      | g + 2, i => exact e

end Go.Av
namespace Go.Av

/-! More of what a walk uses. -/

theorem Ghost.push (H : Heap) (sz : Nat) : Ghost H (H ++ [[.cells sz []]]) := by
  refine ⟨fun g i x' hx hl => ?_, fun g i h => ?_⟩
  · rw [hget_append] at hx
    split at hx
    · rename_i e
      subst e
      right
      refine ⟨by simp [hget], sz, ?_⟩
      cases i with
      | zero => simpa using hx.symm
      | succ i => simp at hx
    · exact .inl ⟨x', hx, .refl _⟩
  · rw [hget_append]
    split
    · rename_i e
      subst e
      simp [hget] at h
    · exact h

theorem GhT.push (H : Heap) (sz : Nat) : GhT H (H ++ [[.cells sz []]]) (.sc (.slice none 0 0)) (.hsl H.length 0 0 0) :=
  .mk H.length 0 sz (by simp [hget]) (by rw [hget_append, if_pos rfl]; rfl)

def CongAll (T : AV → AV → Prop) (fr : Fr) : Fr → Prop
  | [] => True
  | x :: r => Cong T (fr.get x.1) x.2 ∧ CongAll T fr r

theorem CongAll.mem {T fr} : ∀ {fr' : Fr}, CongAll T fr fr' → ∀ x ∈ fr', Cong T (fr.get x.1) x.2
  | [], _, x, h => by cases h
  | _ :: _, ⟨h1, h2⟩, x, h => by
    cases h with
    | head => exact h1
    | tail _ h => exact CongAll.mem h2 x h

/-- A nil slice becomes a block. -/
theorem Sub.nilBlk {k N : Nat} {fr fr' : Fr} {H : Heap} (sz : Nat) (h : CongAll (GhT H (H ++ [[.cells sz []]])) fr fr') : Sub k N fr H fr' (H ++ [[.cells sz []]]) := Sub.ghost (Ghost.push H sz) h.mem

def allS (_ _ : Nat) : Bool := true
def deadH (H : Heap) : Heap := H.map fun f => f.map fun _ => .dead

theorem hget_dead {H : Heap} {g i : Nat} : (hget (deadH H) g i).isSome = (hget H g i).isSome ∧ ∀ x, hget (deadH H) g i = some x → x = .dead := by
  unfold hget deadH
  rw [List.getElem?_map]
  cases H[g]? with
  | none => exact ⟨rfl, fun x h => by cases h⟩
  | some f =>
    simp only [Option.map_some, List.getElem?_map]
    cases f[i]? with
    | none => exact ⟨rfl, fun x h => by cases h⟩
    | some y => exact ⟨rfl, fun x h => by simpa using h.symm⟩

theorem Frozen.all (H : Heap) : Frozen H allS (deadH H) := by
  refine ⟨fun g i x' hx hl => ?_, fun g i h => by rw [hget_dead.1]; exact h⟩
  have := hget_dead.2 x' hx
  subst this
  cases hl

def FzA (H : Heap) : AV → AV → Prop := Cong (FzT H allS)

def FzAll (H : Heap) (fr : Fr) : Fr → Prop
  | [] => True
  | x :: r => (FzA H (fr.get x.1) x.2 ∧ Pure x.2) ∧ FzAll H fr r

theorem FzAll.mem {H fr} : ∀ {fr' : Fr}, FzAll H fr fr' → ∀ x ∈ fr', FzA H (fr.get x.1) x.2 ∧ Pure x.2
  | [], _, x, h => by cases h
  | _ :: _, ⟨h1, h2⟩, x, h => by
    cases h with
    | head => exact h1
    | tail _ h => exact FzAll.mem h2 x h

theorem pure_get {fr : Fr} (h : ∀ y ∈ fr, Pure y.2) (t : Nat) : Pure (fr.get t) := by
  induction fr with
  | nil => exact .undef
  | cons p l ih =>
    obtain ⟨d, v⟩ := p
    show Pure (match Nat.beq d t with | true => v | false => Fr.get l t)
    split
    · exact h (d, v) (List.mem_cons_self ..)
    · exact ih fun y hy => h y (List.mem_cons_of_mem _ hy)

/-- All blocks are frozen. -/
theorem Sub.frzAll {N : Nat} {fr fr' : Fr} {H : Heap} (h : FzAll H fr fr') : Sub 0 N fr H fr' [] := by
  intro M J tmps w hF hH hM
  obtain ⟨h1, h2, h3⟩ := Step.frz (k := 0) hH hM (Frozen.all H)
  have hF' := hF.cong h2 h3 fun x hx => (h.mem x hx).1
  refine ⟨_, _, h1.ren (ρ := rho []) (H'' := []) (Numb.list rfl rfl rfl trivial), hF'.1, fun t => (hF'.2 t).anyJ (pure_get (fun y hy => (h.mem y hy).2) t) _⟩

theorem SubV.frzAll {H : Heap} {a b : AV} (h : FzA H a b) (hp : Pure b) : SubV 0 H a [] b :=
  (SubV.frz allS (Frozen.all H) h).trans (SubV.ren (rho []) (Numb.list rfl rfl rfl trivial) (.pure hp))

/-- The end of a function whose result's blocks are its own. -/
theorem fin_frz {e : Exit} (he : e = .normal ∨ e = .ret) {rs : List IRes} {fr : Fr} {H : Heap} {res res' : AV} {R : AV → Heap → Prop} (hres : resOf fr H rs = some res) (hz : FzA H res res') (hp : Pure res') (hR : R res' []) :
    (e = .normal ∨ e = .ret) ∧ ∃ res res' H2, resOf fr H rs = some res ∧ SubV 0 H res H2 res' ∧ R res' H2 := ⟨he, res, res', [], hres, .frzAll hz hp, hR⟩

theorem FzA.hsl {H : Heap} {g i start len sz : Nat} {rows rows' : List (List AV)} (h : hget H g i = some (.cells sz rows)) (hl : start + len ≤ rows.length) (e : (rows.drop start).take len = rows') : FzA H (.hsl g i start len) (.list sz rows') := by
  subst e
  exact .base (.hsl g i start len sz rows rfl h hl)
theorem FzA.all {H : Heap} {g i len sz : Nat} {rows : List (List AV)} (h : hget H g i = some (.cells sz rows)) (hl : rows.length = len) : FzA H (.hsl g i 0 len) (.list sz rows) :=
  .hsl h (by omega) (by rw [List.drop_zero, List.take_of_length_le (by omega)])
theorem FzA.ptr {H : Heap} {g i row sz : Nat} {rows : List (List AV)} {r : List AV} (h : hget H g i = some (.cells sz rows)) (hr : rows[row]? = some r) : FzA H (.ptr g i row 0) (.cptr r) :=
  .base (.ptr g i row 0 sz rows r rfl h hr)
theorem FzA.mref {H : Heap} {g i : Nat} {es : List (Value × AV)} (h : hget H g i = some (.map es)) : FzA H (.mref g i) (.tmap es) := .base (.mref g i es rfl h)
theorem FzA.refl (H : Heap) (a : AV) : FzA H a a := Cong.refl a

def CongL (T : AV → AV → Prop) : List AV → List AV → Prop
  | [], [] => True
  | a :: l, b :: m => Cong T a b ∧ CongL T l m
  | _, _ => False

theorem CongL.spec {T} : ∀ {l m : List AV}, CongL T l m → l.length = m.length ∧ ∀ (j : Nat) a b, l[j]? = some a → m[j]? = some b → Cong T a b
  | [], [], _ => ⟨rfl, fun j a b h => by simp at h⟩
  | [], _ :: _, h => h.elim
  | _ :: _, [], h => h.elim
  | x :: l, y :: m, ⟨h1, h2⟩ => by
    obtain ⟨h3, h4⟩ := CongL.spec h2
    refine ⟨by simp [h3], fun j a b ha hb => ?_⟩
    cases j with
    | zero => simp at ha hb; subst ha; subst hb; exact h1
    | succ j => exact h4 j a b (by simpa using ha) (by simpa using hb)

theorem Cong.tupL {T} {l m : List AV} (h : CongL T l m) : Cong T (.tup l) (.tup m) := .tup l m h.spec.1 h.spec.2
theorem Cong.aggL {T} {l m : List AV} (h : CongL T l m) : Cong T (.agg l) (.agg m) := .agg l m h.spec.1 h.spec.2

theorem dstep_app {g i : Nat} {fr : Fr} {H : Heap} {sz bytes : Nat} {s x : Operand} {g' i' len : Nat} {rows1 rows2 : List (List AV)} (hs : ev fr s = .hsl g' i' 0 len) (hx : rowsX sz H (ev fr x) = some (sz, rows2)) (hh : hget H g' i' = some (.cells sz rows1))
    (hl : rows1.length = len) (hb : (len + rows2.length) * (bytes + 1) ≤ 70368744177664) (e3 : (Nat.beq g g' && Nat.beq i i') = false) :
    dstep g i (.append sz bytes s x) fr H = some (.hsl g i 0 (len + rows2.length), hset (hset H g' i' .dead) g i (.cells sz (rows1 ++ rows2))) := by
  have e2 : Nat.ble ((len + rows2.length) * (bytes + 1)) 70368744177664 = true := by simpa using hb
  simp only [dstep, hx, hs, hh]
  have e4 : Nat.beq sz sz = true := by simp
  have e5 : Nat.beq rows1.length len = true := by simp [hl]
  simp only [e4, e5, e2, e3, Bool.and_self]

/-- A walk's ways come together. -/
theorem Reg.join {P : Program} {N k : Nat} {xs : List IOper} {fr : Fr} {H : Heap} {c : ICode} {Q : Exit → Fr → Heap → Prop} (F' : Fr) (H' : Heap) (h1 : Reg P N k xs fr H fun fr2 H2 => Sub k N fr2 H2 F' H') (h2 : AWP P N k c Q F' H') :
    Reg P N k xs fr H (AWP P N k c Q) := h1.mono fun _ _ hs => AWP.sub hs h2

/-- .. behind a piece of code. -/
theorem AWP.join {P : Program} {N k : Nat} {a b : ICode} {fr : Fr} {H : Heap} {Q : Exit → Fr → Heap → Prop} (F' : Fr) (H' : Heap) (h1 : AWP P N k a (thenQ (fun fr2 H2 => Sub k N fr2 H2 F' H') Q) fr H) (h2 : AWP P N k b Q F' H') : AWP P N k (.seq a b) Q fr H :=
  AWP.seq (AWP.mono h1 fun e fr H h => by
    cases e <;> first | exact AWP.sub h h2 | exact h)

end Go.Av
namespace Go.Av

theorem dstep_idxArr {g i : Nat} {fr : Fr} {H : Heap} {n sz : Nat} {x ix : Operand} {k : IntKind} {m : Int} {q g' i' row o : Nat} (hx : ev fr x = .ptr g' i' row o) (hi : ev fr ix = .sc (.int k m)) (hm : m = (q : Int)) (hq : q < n) :
    dstep g i (.idxArr n sz x ix) fr H = some (.ptr g' i' row (o + q * sz), H) := by
  subst hm
  have e1 : Nat.blt q n = true := by simpa [Nat.blt_eq] using hq
  simp only [dstep, hi, hx]
  show (match Nat.blt q n with
    | true => some (AV.ptr g' i' row (o + q * sz), H)
    | false => none) = _
  rw [e1]

theorem dstep_idxArrC {g i : Nat} {fr : Fr} {H : Heap} {n sz : Nat} {x ix : Operand} {k : IntKind} {m : Int} {q : Nat} {cells : List AV} (hx : ev fr x = .cptr cells) (hi : ev fr ix = .sc (.int k m)) (hm : m = (q : Int)) (hq : q < n) :
    dstep g i (.idxArr n sz x ix) fr H = some (.cptr (cells.drop (q * sz)), H) := by
  subst hm
  have e1 : Nat.blt q n = true := by simpa [Nat.blt_eq] using hq
  simp only [dstep, hi, hx]
  show (match Nat.blt q n with
    | true => some (AV.cptr (cells.drop (q * sz)), H)
    | false => none) = _
  rw [e1]

theorem dstep_idxVal {g i : Nat} {fr : Fr} {H : Heap} {n : Nat} {x ix : Operand} {k : IntKind} {m : Int} {q : Nat} {cells : List AV} {c : AV} (hx : ev fr x = .agg cells) (hi : ev fr ix = .sc (.int k m)) (hm : m = (q : Int)) (hq : q < n) (hc : cells[q]? = some c) :
    dstep g i (.idxVal n 1 false x ix) fr H = some (c, H) := by
  subst hm
  have e1 : Nat.blt q n = true := by simpa [Nat.blt_eq] using hq
  have e2 : ldAV 1 false (cells.drop (q * 1)) = some c := by
    rw [Nat.mul_one]
    obtain ⟨hl, he⟩ := List.getElem?_eq_some_iff.1 hc
    rw [List.drop_eq_getElem_cons hl, he]
    rfl
  simp only [dstep, hi, hx]
  show (match Nat.blt q n with
    | true => match ldAV 1 false (cells.drop (q * 1)) with
      | some v => some (v, H)
      | none => none
    | false => none) = _
  rw [e1, e2]

/-- A cell is read. -/
theorem dstep_ld1 {g i : Nat} {fr : Fr} {H : Heap} {a : Operand} {g' i' row off s : Nat} {rows : List (List AV)} {r : List AV} {c : AV} (ha : ev fr a = .ptr g' i' row off) (hh : hget H g' i' = some (.cells s rows)) (hr : rows[row]? = some r) (hc : r[off]? = some c) :
    dstep g i (.load 1 false a) fr H = some (c, H) := by
  have e2 : ldAV 1 false (r.drop off) = some c := by
    obtain ⟨hl, he⟩ := List.getElem?_eq_some_iff.1 hc
    rw [List.drop_eq_getElem_cons hl, he]
    rfl
  simp only [dstep, ha, hh, hr, e2]

theorem dstep_ld1C {g i : Nat} {fr : Fr} {H : Heap} {a : Operand} {cells : List AV} {c : AV} {rest : List AV} (ha : ev fr a = .cptr cells) (hc : cells = c :: rest) :
    dstep g i (.load 1 false a) fr H = some (c, H) := by
  subst hc
  simp only [dstep, ha, ldAV]

/-- A variable of more cells is read. -/
theorem dstep_ldN {g i : Nat} {fr : Fr} {H : Heap} {a : Operand} {sz g' i' row off s : Nat} {rows : List (List AV)} {r cs : List AV} (ha : ev fr a = .ptr g' i' row off) (hh : hget H g' i' = some (.cells s rows)) (hr : rows[row]? = some r) (hl : off + sz ≤ r.length) (hc : (r.drop off).take sz = cs) :
    dstep g i (.load sz true a) fr H = some (.agg cs, H) := by
  have e2 : ldAV sz true (r.drop off) = some (.agg cs) := by
    have : Nat.ble sz (r.drop off).length = true := by simp; omega
    simp only [ldAV, this, hc]
  simp only [dstep, ha, hh, hr, e2]

theorem dstep_ldNC {g i : Nat} {fr : Fr} {H : Heap} {a : Operand} {sz : Nat} {cells cs : List AV} (ha : ev fr a = .cptr cells) (hl : sz ≤ cells.length) (hc : cells.take sz = cs) :
    dstep g i (.load sz true a) fr H = some (.agg cs, H) := by
  have e2 : ldAV sz true cells = some (.agg cs) := by
    have : Nat.ble sz cells.length = true := by simpa using hl
    simp only [ldAV, this, hc]
  simp only [dstep, ha, e2]

/-- Cells are written. -/
theorem dstep_stN {g i : Nat} {fr : Fr} {H : Heap} {a x : Operand} {sz g' i' row off s : Nat} {rows : List (List AV)} {r cs : List AV} (ha : ev fr a = .ptr g' i' row off) (hx : (ev fr x).cs = some cs) (hh : hget H g' i' = some (.cells s rows)) (hr : rows[row]? = some r)
    (hs : cs.length = sz) (hl : off + sz ≤ r.length) (h1 : cs.all AV.cell1 = true) :
    dstep g i (.store sz a x) fr H = some (.undef, hset H g' i' (.cells s (rows.set row (lsplice r off cs)))) := by
  have e1 : Nat.beq cs.length sz = true := by simp [hs]
  have e2 : Nat.ble (off + sz) r.length = true := by simpa using hl
  simp only [dstep, ha, hx, hh, hr, e1, e2, h1, Bool.and_self]

theorem dstep_eqArr {g i : Nat} {fr : Fr} {H : Heap} {neg : Bool} {n : Nat} {x y : Operand} {a b : List Bool} (hx : ev fr x = .agg (a.map fun b => .sc (.bool b))) (hy : ev fr y = .agg (b.map fun b => .sc (.bool b))) (ha : a.length = n) (hb : b.length = n) :
    dstep g i (.eqArr neg n x y) fr H = some (.sc (.bool (neg != (a == b))), H) := by
  have hbools : ∀ l : List Bool, bools (l.map fun b => AV.sc (.bool b)) = some l := by
    intro l
    induction l with
    | nil => rfl
    | cons c l ih => simp [bools, ih]
  have e1 : Nat.beq a.length n = true := by simp [ha]
  have e2 : Nat.beq b.length n = true := by simp [hb]
  simp only [dstep, hx, hy, hbools, e1, e2, Bool.and_self]
  cases neg <;> cases (a == b) <;> rfl

theorem lsplice_one {α : Type} (l : List α) : ∀ (k : Nat) (v : α), lsplice l k [v] = l.set k v := by
  induction l with
  | nil => intro k v; rfl
  | cons x l ih =>
    intro k v
    cases k with
    | zero => simp [lsplice, lsplice_nil]
    | succ k => simp [lsplice, ih]

theorem lsplice_all {α : Type} : ∀ (l vs : List α), vs.length = l.length → lsplice l 0 vs = vs
  | [], [], _ => rfl
  | [], _ :: _, h => by simp at h
  | _ :: _, [], h => by simp at h
  | x :: l, v :: vs, h => by
    show v :: lsplice l 0 vs = v :: vs
    rw [lsplice_all l vs (by simpa using h)]

theorem take_drop0 {α : Type} {l : List α} {n : Nat} (h : l.length = n) : List.take n (List.drop 0 l) = l := by
  rw [List.drop_zero, List.take_of_length_le (by omega)]

/-- A set of the numbers below n, as an array of truth values. -/
def bset (n : Nat) (s : Nat → Bool) : List AV := (List.range n).map fun i => .sc (.bool (s i))

theorem bset_len (n : Nat) (s : Nat → Bool) : (bset n s).length = n := by simp [bset]
theorem bset_get {n : Nat} {s : Nat → Bool} {q : Nat} (h : q < n) : (bset n s)[q]? = some (.sc (.bool (s q))) := by simp [bset, h]
theorem bset_set (n : Nat) (s : Nat → Bool) (q : Nat) (b : Bool) : (bset n s).set q (.sc (.bool b)) = bset n fun i => if i = q then b else s i := by
  apply List.ext_getElem?
  intro j
  rw [List.getElem?_set]
  by_cases hj : j < n
  · by_cases e : q = j
    · subst e
      simp [bset, hj]
    · rw [if_neg e, bset_get hj, bset_get hj, if_neg (fun h => e h.symm)]
  · have h1 : ∀ s, (bset n s)[j]? = none := fun s => List.getElem?_eq_none (by rw [bset_len]; omega)
    rw [h1, h1]
    split
    · rw [bset_len, if_neg (by omega)]
    · rfl
theorem bset_splice (n : Nat) (s : Nat → Bool) (q : Nat) (b : Bool) : lsplice (bset n s) q [.sc (.bool b)] = bset n fun i => if i = q then b else s i := by rw [lsplice_one, bset_set]
theorem pure_bset (n : Nat) (s : Nat → Bool) : ∀ c ∈ bset n s, Pure c := fun c hc => by
  obtain ⟨a, _, rfl⟩ := List.mem_map.1 hc
  exact .sc _
theorem bset_cell1 (n : Nat) (s : Nat → Bool) : (bset n s).all AV.cell1 = true := by
  rw [List.all_eq_true]
  intro c hc
  obtain ⟨a, _, rfl⟩ := List.mem_map.1 hc
  rfl
theorem bset_congr {n : Nat} {s t : Nat → Bool} (h : ∀ i, i < n → s i = t i) : bset n s = bset n t := List.map_congr_left fun i hi => by rw [h i (List.mem_range.1 hi)]
theorem bset_bools (n : Nat) (s : Nat → Bool) : bset n s = ((List.range n).map s).map fun b => .sc (.bool b) := by simp [bset]

/-- One block, one row, told otherwise. -/
theorem RenB.row {ρ : Nat → Nat → Option (Nat × Nat)} {sz : Nat} {r r' : List AV} (e : r = r') (h : ∀ c ∈ r', Pure c) : RenB ρ (.cells sz [r]) (.cells sz [r']) := by
  subst e
  exact .pure sz [r] (allPure_cons' h)
where
  allPure_cons' {r : List AV} (h : ∀ c ∈ r, Pure c) : ∀ x ∈ [r], ∀ c ∈ x, Pure c := fun x hx => by
    have : x = r := by simpa using hx
    subst this
    exact h

theorem RenB.rows {ρ : Nat → Nat → Option (Nat × Nat)} {sz : Nat} {rows rows' : List (List AV)} (e : rows = rows') (h : ∀ r ∈ rows', ∀ c ∈ r, Pure c) : RenB ρ (.cells sz rows) (.cells sz rows') := by
  subst e
  exact .pure sz rows h

end Go.Av
namespace Go.Av

/-! A region whose order is open, with one operation in it that all others stand before or behind. -/

theorem Bef.trans {af : Nat → List Nat} {a b c : Nat} (h1 : Bef af a b) (h2 : Bef af b c) : Bef af a c := by
  induction h2 with
  | base h => exact .step h h1
  | step h _ ih => exact .step h ih

/-- What everything stands before or behind parts a schedule. -/
theorem SchedI.mid {I : Nat → Nat → Prop} {n : Nat} {B : List Nat} {all l : List Nat} (h : SchedI I all l) : ∀ A : List Nat, all = A ++ n :: B → (∀ a ∈ A, ¬ I a n) → (∀ a ∈ A, ∀ b ∈ B, ¬ I a b) → (∀ b ∈ B, ¬ I n b) →
    ∃ l1 l2, l = l1 ++ n :: l2 ∧ SchedI I A l1 ∧ SchedI I B l2 := by
  induction h with
  | nil => intro A e; simp at e
  | cons A0 i B0 l h hs ih =>
    intro A e h1 h2 h3
    rcases List.append_eq_append_iff.1 e with ⟨A2, e1, e2⟩ | ⟨A2, e1, e2⟩
    · cases A2 with
      | nil =>
        simp only [List.append_nil] at e1
        subst e1
        simp only [List.nil_append, List.cons.injEq] at e2
        obtain ⟨rfl, rfl⟩ := e2
        cases A with
        | nil => exact ⟨[], l, rfl, .nil, hs⟩
        | cons a A => exact absurd (h a (List.mem_cons_self ..)) (h1 a (List.mem_cons_self ..))
      | cons x A2 =>
        simp only [List.cons_append, List.cons.injEq] at e2
        obtain ⟨rfl, rfl⟩ := e2
        subst e1
        obtain ⟨l1, l2, q1, q2, q3⟩ := ih (A0 ++ A2) (by simp) (fun a ha => h1 a ((List.mem_append.1 ha).elim (fun h => List.mem_append_left _ h) fun h => List.mem_append_right _ (List.mem_cons_of_mem _ h)))
          (fun a ha => h2 a ((List.mem_append.1 ha).elim (fun h => List.mem_append_left _ h) fun h => List.mem_append_right _ (List.mem_cons_of_mem _ h))) h3
        exact ⟨i :: l1, l2, by rw [q1]; rfl, .cons _ _ _ _ h q2, q3⟩
    · cases A2 with
      | nil =>
        simp only [List.append_nil] at e1
        subst e1
        simp only [List.nil_append, List.cons.injEq] at e2
        obtain ⟨rfl, rfl⟩ := e2
        cases A0 with
        | nil => exact ⟨[], l, rfl, .nil, hs⟩
        | cons a A0 => exact absurd (h a (List.mem_cons_self ..)) (h1 a (List.mem_cons_self ..))
      | cons x A2 =>
        simp only [List.cons_append, List.cons.injEq] at e2
        obtain ⟨rfl, rfl⟩ := e2
        subst e1
        exact absurd (h n (List.mem_append_right _ (List.mem_cons_self ..))) (h3 i (List.mem_append_right _ (List.mem_cons_self ..)))

theorem SchedI.weaken {I I' : Nat → Nat → Prop} {all l : List Nat} (h : SchedI I all l) : (∀ a b, a ∈ all → b ∈ all → I a b → I' a b) → SchedI I' all l := by
  induction h with
  | nil => exact fun _ => .nil
  | cons A i B l h hs ih =>
    intro hw
    refine .cons A i B l (fun a ha => hw a i (List.mem_append_left _ ha) (List.mem_append_right _ (List.mem_cons_self ..)) (h a ha)) (ih fun a b ha hb hi => hw a b ?_ ?_ hi)
    · exact (List.mem_append.1 ha).elim (fun h => List.mem_append_left _ h) fun h => List.mem_append_right _ (List.mem_cons_of_mem _ h)
    · exact (List.mem_append.1 hb).elim (fun h => List.mem_append_left _ h) fun h => List.mem_append_right _ (List.mem_cons_of_mem _ h)

theorem HRep.dead {M J} {H : Heap} {h : Array Obj} {n : Nat} (hH : HRep M J H h) : HRep M J (H ++ [List.replicate n .dead]) h ∧ (∀ g i, liveAt (H ++ [List.replicate n Blk.dead]) g i → liveAt H g i) ∧ ∀ j, J H.length j = none := by
  have hdead : ∀ g i x, hget (H ++ [List.replicate n Blk.dead]) g i = some x → x.live = true → hget H g i = some x := by
    intro g i x hx hl
    rw [hget_append] at hx
    split at hx
    · rw [List.getElem?_replicate] at hx
      split at hx
      · injection hx with hx; subst hx; cases hl
      · cases hx
    · exact hx
  refine ⟨⟨fun g i x hx hl => hH.blk g i x (hdead g i x hx hl) hl, fun g i g' i' l l' β ⟨x, hx, hl⟩ ⟨y, hy, hl'⟩ => hH.inj g i g' i' l l' β ⟨x, hdead _ _ _ hx hl, hl⟩ ⟨y, hdead _ _ _ hy hl', hl'⟩,
    fun g i l β ⟨x, hx, hl⟩ => hH.out g i l β ⟨x, hdead _ _ _ hx hl, hl⟩, fun g i l hJ => ?_⟩, fun g i ⟨x, hx, hl⟩ => ⟨x, hdead g i x hx hl, hl⟩, fun j => ?_⟩
  · have := hH.dom g i l hJ
    refine ⟨?_, this.2⟩
    rw [hget_append]
    split
    · rename_i e
      subst e
      have h2 := this.1
      simp [hget] at h2
    · exact this.1
  · cases e : J H.length j with
    | none => rfl
    | some l =>
      have := (hH.dom _ _ l e).1
      simp [hget] at this

/-- A stretch of a region's operations in whatever order. -/
theorem run_seg {P : Program} {N k : Nat} {ops : Array Oper} {s : Nat} {xs : List IOper} {fr : Fr} {H : Heap} {R : List RRec} {fr' : Fr} {H' : Heap} (hx : ∀ (j : Nat) x, xs[j]? = some x → ∃ o, ops[s + j]? = some o ∧ coper P N ops o = some x)
    (hrun : DRun P H.length 0 xs fr (H ++ [List.replicate xs.length .dead]) R fr' H') {I : Nat → Nat → Prop} (hI : ∀ a b, I a b → ∃ ra rb, R[a - s]? = some ra ∧ R[b - s]? = some rb ∧ indep ra rb = true)
    {l : List Nat} (hs : SchedI I (List.range' s xs.length) l) {M J tmps} {w : World} (hF : FRep N M J fr tmps) (hH : HRep M J H w.heap) (hM : MRep M w.heap)
    (Q : Exit → Act → World → Prop) (hQ : ∀ a' w', Post k N M J H w (fun fr H => fr = fr' ∧ H = H') a' w' → Q Exit.normal a' w') : wpOps P ops Q l ⟨tmps, []⟩ w := by
  obtain ⟨hrx, hrid⟩ := hrun.recs
  have hRlen : R.length = xs.length := by rw [← hrx]; simp
  let R' : Nat → RRec := fun j => R.getD (j - s) ⟨⟨none, none, .call 0 []⟩, (0, 0), .undef, [], []⟩
  have hR' : ∀ j, j < xs.length → R[j]? = some (R' (s + j)) := by
    intro j hj
    have : j < R.length := by omega
    simp [R', List.getD, this]
  have hs' := hs.to (R := R') fun a b hab => by
    obtain ⟨ra, rb, h1, h2, h3⟩ := hI a b hab
    simp only [R', List.getD, h1, h2, Option.getD_some]
    exact h3
  have hrem : ((List.range' s xs.length).map fun j => (j, R' j)).map (·.2) = R := by
    apply List.ext_getElem?
    intro j
    rw [List.map_map, List.getElem?_map]
    by_cases hj : j < xs.length
    · rw [hR' j hj, List.getElem?_range' hj]
      simp
    · have h1 : (List.range' s xs.length)[j]? = none := List.getElem?_eq_none (by rw [List.length_range']; omega)
      have h2 : R[j]? = none := List.getElem?_eq_none (by omega)
      rw [h1, h2]
      rfl
  obtain ⟨hH0, hlive, hJ0⟩ := hH.dead (n := xs.length)
  have hmem : ∀ p ∈ (List.range' s xs.length).map (fun j => (j, R' j)), ∃ j, j < xs.length ∧ p = (s + j, R' (s + j)) := by
    intro p hp
    obtain ⟨j, hj, rfl⟩ := List.mem_map.1 hp
    have := List.mem_range'_1.1 hj
    exact ⟨j - s, by omega, by rw [show s + (j - s) = j by omega]⟩
  have hids : ∀ j, j < xs.length → (R' (s + j)).id = (H.length, j) := fun j hj => by rw [hrid j _ (hR' j hj), Nat.zero_add]
  refine run_sched (k := k) (N := N) (t := (fr', H')) hs' (fun p hp => ?_) ?_ (fr, H ++ [List.replicate xs.length .dead]) M J tmps w hF hH0 hM (by rw [hrem]; exact hrun.run) (fun p hp => ?_) Q fun a' w' hp => hQ a' w' ?_
  · obtain ⟨j, hj, rfl⟩ := hmem p hp
    have h3 : xs[j]? = some (R' (s + j)).x := by rw [← hrx, List.getElem?_map, hR' j hj]; rfl
    exact hx j _ h3
  · rw [List.map_map]
    have he : (List.range' s xs.length).map ((fun x : Nat × RRec => x.2.id) ∘ fun j => (j, R' j)) = (List.range' s xs.length).map fun j => (H.length, j - s) :=
      List.map_congr_left fun j hj => by
        have := List.mem_range'_1.1 hj
        show (R' j).id = _
        rw [show j = s + (j - s) by omega, hids _ (by omega)]
        simp
    rw [he]
    exact List.Pairwise.map _ (R := fun a b => s ≤ a ∧ a < b) (fun a b hab e => by injection e with e1 e2; omega) (List.Pairwise.imp_of_mem (fun {a b} ha _ hab => ⟨(List.mem_range'_1.1 ha).1, hab⟩) List.pairwise_lt_range')
  · obtain ⟨j, hj, rfl⟩ := hmem p hp
    rw [hids j hj]
    refine ⟨?_, hJ0 j⟩
    rw [hget_append, if_pos rfl, List.getElem?_replicate, if_pos hj]
    rfl
  · obtain ⟨M2, J2, fr2, H2, q1, q2, q3, q4⟩ := hp
    exact ⟨M2, J2, fr2, H2, ⟨q1.m, q1.j, q1.hrep, q1.mrep, q1.os, q1.tape, q1.output, q1.size, fun β o ho hn => q1.frame β o ho fun g i l hl hJ => hn g i l (hlive g i hl) hJ,
      fun β o ho => or2 (q1.fresh β o ho) (fun h => h) fun h => or2 h (fun h => h) fun ⟨g, i, l, a, b, c⟩ => ⟨g, i, l, hlive g i a, b, c⟩,
      fun g i l β a b c => or2 (q1.live g i l β a b c) (fun ⟨g0, i0, l0, a, b, c⟩ => ⟨g0, i0, l0, hlive g0 i0 a, b, c⟩) fun h => h, q1.bk⟩, q2, q3, q4⟩

/-- The pairs of a stretch: an edge, or no clash. -/
def SegOK (af : List (List Nat)) (s : Nat) (R : List RRec) : Prop :=
  ∀ a b ra rb, a < b → R[a]? = some ra → R[b]? = some rb → befB af af.length (s + a) (s + b) = true ∨ indep ra rb = true

theorem AWP.drawMid {P : Program} {N k : Nat} {fr : Fr} {H : Heap} {Q : Exit → Fr → Heap → Prop} {zs xs ys : List IOper} {y : IOper} {af : List (List Nat)} {R1 : List RRec} {fr1 : Fr} {H1 : Heap} (hz : zs = xs ++ y :: ys) (hp : P.follows .mixedOrders = true)
    (hlow : lowB 0 af = true) (h1 : ∀ j, j < xs.length → befB af af.length j xs.length = true) (h2 : ∀ j, j < ys.length → befB af af.length xs.length (xs.length + 1 + j) = true)
    (hrun : DRun P H.length 0 xs fr (H ++ [List.replicate xs.length .dead]) R1 fr1 H1) (hc1 : SegOK af 0 R1)
    (h : Reg P N k [y] fr1 H1 fun fr2 H2 => ∃ R2 fr3 H3, DRun P H2.length 0 ys fr2 (H2 ++ [List.replicate ys.length .dead]) R2 fr3 H3 ∧ SegOK af (xs.length + 1) R2 ∧ Q .normal fr3 H3) : AWP P N k (.draw zs af) Q fr H := by
  intro c0 hc cx M J tmps w hcx hF hH hM
  cases c0 with
  | region id ops draw =>
    simp only [ccode] at hc
    split at hc
    · rename_i us hus
      cases draw with
      | false => cases hc
      | true =>
        injection hc with hc
        injection hc with hc1' hc2'
        subst hc1'; subst hc2'
        refine wpIn_region_draw fun t => lift_post hcx ?_
        rw [hp]
        have hsch : Region.schedule true ops t = Region.linearise .any ops t := by simp [Region.schedule]
        rw [hsch]
        obtain ⟨hlen, hgx⟩ := copers_len _ _ hus
        have hsz : ops.size = xs.length + (ys.length + 1) := by
          have e1 : us.length = ops.size := by rw [hlen]; simp
          rw [← e1, hz]
          simp
        have haf : ∀ j l, (ops.toList.map cafter)[j]? = some l → afterOf ops j = l := by
          intro j l hj
          rw [List.getElem?_map, Array.getElem?_toList] at hj
          unfold afterOf
          cases ho : ops[j]? with
          | none => rw [ho] at hj; cases hj
          | some o => rw [ho] at hj; simpa using hj
        have hafl : (ops.toList.map cafter).length = ops.size := by simp
        have hops : ∀ (j : Nat) x, us[j]? = some x → ∃ o, ops[j]? = some o ∧ coper P N ops o = some x := by
          intro j x hj
          have hlt := (List.getElem?_eq_some_iff.1 hj).1
          have ho : ops[j]? = some ops[j] := Array.getElem?_eq_getElem (by rw [hlen] at hlt; simpa using hlt)
          obtain ⟨x', e1, e2⟩ := hgx j ops[j] (by rw [Array.getElem?_toList]; exact ho)
          rw [hj] at e1
          injection e1 with e1
          subst e1
          exact ⟨_, ho, e2⟩
        let I : Nat → Nat → Prop := fun a b => (b < xs.length ∧ a < b ∧ ∃ ra rb, R1[a]? = some ra ∧ R1[b]? = some rb ∧ indep ra rb = true) ∨ (xs.length < a ∧ a < b ∧ b < ops.size ∧ ¬ Bef (afterOf ops) a b)
        have hs := linearise_schedI ops I (fun j kk hk => by
          have hl : (ops.toList.map cafter)[j]? = some (afterOf ops j) := by
            rw [List.getElem?_map, Array.getElem?_toList]
            unfold afterOf at hk ⊢
            cases ho : ops[j]? with
            | none => rw [ho] at hk; cases hk
            | some o => rfl
          have := lowB_sound _ 0 hlow j _ hl kk hk
          omega) (fun a b hab hb => by
          obtain ⟨hrx1, _⟩ := hrun.recs
          have hRlen1 : R1.length = xs.length := by rw [← hrx1]; simp
          rcases Nat.lt_trichotomy b xs.length with hbx | hbx | hbx
          · have ea : R1[a]? = some (R1[a]'(by omega)) := List.getElem?_eq_getElem (by omega)
            have eb : R1[b]? = some (R1[b]'(by omega)) := List.getElem?_eq_getElem (by omega)
            rcases hc1 a b _ _ hab ea eb with h3 | h3
            · rw [Nat.zero_add, Nat.zero_add] at h3
              exact .inl (befB_sound haf _ _ _ h3)
            · exact .inr (.inl ⟨hbx, hab, _, _, ea, eb, h3⟩)
          · subst hbx
            exact .inl (befB_sound haf _ _ _ (h1 a hab))
          · have hnb : Bef (afterOf ops) xs.length b := by
              have := h2 (b - (xs.length + 1)) (by omega)
              rw [show xs.length + 1 + (b - (xs.length + 1)) = b by omega] at this
              exact befB_sound haf _ _ _ this
            rcases Nat.lt_trichotomy a xs.length with hax | hax | hax
            · exact .inl ((befB_sound haf _ _ _ (h1 a hax)).trans hnb)
            · subst hax
              exact .inl hnb
            · by_cases hB : Bef (afterOf ops) a b
              · exact .inl hB
              · exact .inr (.inr ⟨hax, hab, hb, hB⟩)) t
        have hsplit : List.range ops.size = List.range' 0 xs.length ++ xs.length :: List.range' (xs.length + 1) ys.length := by
          rw [List.range_eq_range', hsz, ← List.range'_append_1, Nat.zero_add, List.range'_succ]
        obtain ⟨l1, l2, e1, e2, e3⟩ := hs.mid (List.range' 0 xs.length) hsplit
          (fun a ha hi => by
            have := List.mem_range'_1.1 ha
            rcases hi with hi | hi
            · exact absurd hi.1 (Nat.lt_irrefl _)
            · omega)
          (fun a ha b hb hi => by
            have := List.mem_range'_1.1 ha
            have := List.mem_range'_1.1 hb
            rcases hi with hi | hi
            · omega
            · omega)
          (fun b hb hi => by
            have := List.mem_range'_1.1 hb
            rcases hi with hi | hi
            · omega
            · exact absurd hi.1 (Nat.lt_irrefl _))
        rw [e1]
        refine wpOps_append l1 _ _ ?_
        have hget1 : ∀ (j : Nat) x, xs[j]? = some x → ∃ o, ops[0 + j]? = some o ∧ coper P N ops o = some x := by
          intro j x hj
          rw [Nat.zero_add]
          refine hops j x ?_
          rw [hz, List.getElem?_append_left (List.getElem?_eq_some_iff.1 hj).1]
          exact hj
        have e2' : SchedI (fun a b => ∃ ra rb, R1[a - 0]? = some ra ∧ R1[b - 0]? = some rb ∧ indep ra rb = true) (List.range' 0 xs.length) l1 := by
          refine e2.weaken fun a b ha hb hi => ?_
          have h3 := List.mem_range'_1.1 ha
          rcases hi with hi | hi
          · exact hi.2.2
          · omega
        refine run_seg (k := k) (w := { w with drawn := w.drawn + 1 }) hget1 hrun (fun a b h => h) e2' hF hH hM _ fun a' w' hpost => ⟨rfl, ?_⟩
        obtain ⟨M2, J2, fr2, H2, q1, q2, q3, rfl, rfl⟩ := hpost
        obtain ⟨t2, d2⟩ := a'
        cases q3
        have hy : us[xs.length]? = some y := by rw [hz, List.getElem?_append_right (Nat.le_refl _), Nat.sub_self]; rfl
        obtain ⟨oy, ho, hcy⟩ := hops _ _ hy
        have hreg := h ops [xs.length] ⟨⟨oy, ho, hcy⟩, trivial⟩ M2 J2 t2 w' q2 q1.hrep q1.mrep (fun e a w3 => e = .normal ∧ wpOps P ops (fun e a' w' => e = .normal ∧ Post k N M J H w (Q .normal) a' w') l2 a w3) fun a3 w3 hp3 => ⟨rfl, ?_⟩
        · exact wpOps_append [xs.length] _ _ hreg
        obtain ⟨M3, J3, fr3, H3, r1, r2, r3, R2, fr4, H4, hrun2, hc2, hQ⟩ := hp3
        obtain ⟨t3, d3⟩ := a3
        cases r3
        obtain ⟨hrx2, _⟩ := hrun2.recs
        have hRlen2 : R2.length = ys.length := by rw [← hrx2]; simp
        have hget2 : ∀ (j : Nat) x, ys[j]? = some x → ∃ o, ops[xs.length + 1 + j]? = some o ∧ coper P N ops o = some x := by
          intro j x hj
          refine hops _ x ?_
          rw [hz, List.getElem?_append_right (by omega), show xs.length + 1 + j - xs.length = j + 1 by omega]
          exact hj
        have e3' : SchedI (fun a b => ∃ ra rb, R2[a - (xs.length + 1)]? = some ra ∧ R2[b - (xs.length + 1)]? = some rb ∧ indep ra rb = true) (List.range' (xs.length + 1) ys.length) l2 := by
          refine e3.weaken fun a b ha hb hi => ?_
          have h3 := List.mem_range'_1.1 ha
          have h4 := List.mem_range'_1.1 hb
          rcases hi with hi | hi
          · omega
          · have ea : R2[a - (xs.length + 1)]? = some (R2[a - (xs.length + 1)]'(by omega)) := List.getElem?_eq_getElem (by omega)
            have eb : R2[b - (xs.length + 1)]? = some (R2[b - (xs.length + 1)]'(by omega)) := List.getElem?_eq_getElem (by omega)
            rcases hc2 (a - (xs.length + 1)) (b - (xs.length + 1)) _ _ (by omega) ea eb with h5 | h5
            · rw [show xs.length + 1 + (a - (xs.length + 1)) = a by omega, show xs.length + 1 + (b - (xs.length + 1)) = b by omega] at h5
              exact absurd (befB_sound haf _ _ _ h5) hi.2.2.2
            · exact ⟨_, _, ea, eb, h5⟩
        refine run_seg (k := k) hget2 hrun2 (fun a b h => h) e3' r2 r1.hrep r1.mrep _ fun a' w4 hpost => ?_
        obtain ⟨M5, J5, fr5, H5, s1, s2, s3, rfl, rfl⟩ := hpost
        have q := (q1.trans r1).trans s1
        exact ⟨rfl, M5, J5, _, _, ⟨q.m, q.j, q.hrep, q.mrep, q.os, q.tape, q.output, q.size, q.frame, q.fresh, q.live, q.bk⟩, s2, s3, hQ⟩
    · cases hc
  | _ => simp only [ccode] at hc; (try split at hc) <;> (try cases hc) <;> (try simp at hc)

end Go.Av
