import Derived.Test.YtbpmbofinoinmaaFaA8
import Derived.Test.YtbpmbofinoinmaaFaS2
import Derived.Test.YtbpmbofinoinmaaGAvB4
namespace Go.Proofs.Ytbpmbofinoinmaa
open Go.Av Go.Proofs

/-! What survivors agree on, plainly. -/

theorem wAll_any : ∀ (G : List (Nat × Msg)) (w : Nat → Bool) (k : Nat), wAll w G k = (w k || G.any fun x => x.2.w k)
  | [], w, k => by simp [wAll]
  | x :: G, w, k => by
    show wAll (orS w x.2.w) G k = _
    rw [wAll_any G, List.any_cons]
    unfold orS
    rw [Bool.or_assoc]

/-- .. of living processes. -/
structure BInv (n : Nat) (l : List C) (r : Int) (ps : List Pr) : Prop where
  one : ∀ i j, i < n → j < n → livesS l i r = true → livesS l j r = true → 0 < (prAt ps i).dec → 0 < (prAt ps j).dec → (prAt ps i).w = (prAt ps j).w
  dec : ∀ i, i < n → 0 < (prAt ps i).dec → 1 ≤ (prAt ps i).dec ∧ (prAt ps i).dec ≤ l.length + 1
  own : ∀ i, i < n → (prAt ps i).w i = true ∨ 1 ≤ r
  all : 1 ≤ r → ∀ i, i < n → livesS l i r = true → ∀ k, k < n → findC l k = none → (prAt ps i).w k = true
  gone : ∀ i, i < n → ∀ k, k < n → k ≠ i → livesS l k 0 = false → (prAt ps i).w k = false
  zero : r = 0 → ∀ i, i < n → (prAt ps i).dec = 0

theorem BInv.init (n : Nat) (l : List C) : BInv n l 0 (init0 n) := by
  refine ⟨fun i j hi hj _ _ hd _ => ?_, fun i hi hd => ?_, fun i hi => ?_, fun h => by omega, fun i hi k hk hne _ => ?_, fun _ i hi => ?_⟩
  · rw [prAt_init hi] at hd; exact absurd hd (by simp [pr0])
  · rw [prAt_init hi] at hd; exact absurd hd (by simp [pr0])
  · left; rw [prAt_init hi]; simp [pr0]
  · rw [prAt_init hi]; simp [pr0, hne]
  · rw [prAt_init hi]; rfl

theorem hears_of {n : Nat} {l : List C} {r : Int} {ps : List Pr} (_hr : 0 ≤ r) (h : AInv n l r ps) {q j : Nat} (hq : q < n) (hj : j < n) (hne : j ≠ q) (hlq : livesS l q (r + 1) = true) (hlj : livesS l j r = true) (hu : ¬ 0 < (prAt ps j).dec) :
    hearsA l (r + 1) ps q j = true := by
  have hd : (prAt ps q).done = false := by
    cases ed : (prAt ps q).done with
    | false => rfl
    | true => exact absurd (h.c q hq ed j hj hlj) hu
  have hq1 : livesS l q (r + 1 - 1) = true := by rw [show r + 1 - 1 = r by omega]; exact lives_mono hlq
  unfold hearsA
  rw [hd, hq1, lives_reach hlq]
  simp [hne]

theorem lives_down {l : List C} {i : Int} {r : Int} (h : livesS l i r = true) (hr : 0 ≤ r) : livesS l i 0 = true := by
  unfold livesS at h ⊢
  split
  · rfl
  · rename_i c e
    rw [e] at h
    simp at h ⊢
    omega

theorem hears_lives {l : List C} {r : Int} {ps : List Pr} {q j : Nat} (h : hearsA l (r + 1) ps q j = true) : livesS l q r = true := by
  unfold hearsA at h
  simp only [Bool.and_eq_true] at h
  have := h.2.1
  rw [show r + 1 - 1 = r by omega] at this
  exact this

theorem BInv.step {n : Nat} {l : List C} {r : Int} {ps : List Pr} (hn64 : n ≤ 64) (hr : 0 ≤ r) (h : AInv n l r ps) (b : BInv n l r ps) : BInv n l (r + 1) (stepA n l (r + 1) ps) := by
  have hlen := h.len
  have frozen : ∀ i, i < n → livesS l i (r + 1) = false → prAt (stepA n l (r + 1) ps) i = prAt ps i := by
    intro i hi hl
    rw [prAt_step hlen hi]
    unfold stepF
    rw [if_neg (by rw [hl]; decide)]
  -- the heard ones of an undecided process are just those that were alive, if it decides by itself
  have self : ∀ i, i < n → livesS l i (r + 1) = true → ¬ 0 < (prAt ps i).dec → eqB (fun k => decide (k = i) || (decide (k < n) && hearsA l (r + 1) ps k i)) (prAt ps i).h = true → ∀ k, k < n →
      (decide (k = i) || (decide (k < n) && hearsA l (r + 1) ps k i)) = livesS l k r := by
    intro i hi hl hu he k hk
    unfold eqB at he
    rw [beq_iff_eq] at he
    have hk64 := List.map_inj_left.1 he k (List.mem_range.2 (by omega))
    cases e : livesS l k r with
    | true => exact hk64.trans (h.a i hi (lives_mono hl) hu k hk e)
    | false =>
      have hne : ¬ k = i := fun e2 => by subst e2; rw [lives_mono hl] at e; cases e
      cases e2 : hearsA l (r + 1) ps k i with
      | false => simp [hne]
      | true => rw [hears_lives e2] at e; cases e
  have key : ∀ i, i < n → livesS l i (r + 1) = true → ∀ k, k < n → (prAt ps i).w k = true → ((∃ q, q < n ∧ livesS l q r = true ∧ (prAt ps q).w k = true ∧ prAt (stepA n l (r + 1) ps) i = { prAt ps i with w := (prAt ps q).w, dec := r + 1 }) ∨ (prAt (stepA n l (r + 1) ps) i).w k = true ∨ ∃ q, q < n ∧ livesS l q r = true ∧ (prAt (stepA n l (r + 1) ps) i).w = (prAt ps q).w) := by
    intro i hi hl k hk hw
    rcases step_cases hlen hi hl with ⟨_, h2⟩ | ⟨_, q, h1, h2, _, h3⟩ | ⟨_, _, h3⟩
    · right; left; rw [h2]; exact hw
    · right; right; exact ⟨q, h1, hears_lives h2, by rw [h3]⟩
    · right; left
      rw [h3]
      show wAll _ _ k = true
      rw [wAll_any, hw, Bool.true_or]
  refine ⟨fun i j hi hj hli hlj hdi hdj => ?_, fun i hi hd => ?_, fun i hi => .inr (by omega), fun _ i hi hl k hk hf => ?_, fun i hi k hk hne hg => ?_, fun h0 => by omega⟩
  · -- who adopts, and who does not
    have aC : ∀ i j, i < n → j < n → livesS l i (r + 1) = true → livesS l j (r + 1) = true → 0 < (prAt ps i).dec → ¬ 0 < (prAt ps j).dec → (∀ q, q < n → hearsA l (r + 1) ps q j = true → ¬ 0 < (prAt ps q).dec) → False := by
      intro i j hi hj hli hlj hdi hdj hno
      have hne : j ≠ i := fun e => hdj (by rw [e]; exact hdi)
      exact hno i hi (hears_of hr h hi hj hne hli (lives_mono hlj) hdj) hdi
    have bC : ∀ q j, q < n → j < n → livesS l q r = true → livesS l j (r + 1) = true → 0 < (prAt ps q).dec → ¬ 0 < (prAt ps j).dec → (∀ q, q < n → hearsA l (r + 1) ps q j = true → ¬ 0 < (prAt ps q).dec) →
        eqB (fun k => decide (k = j) || (decide (k < n) && hearsA l (r + 1) ps k j)) (prAt ps j).h = true → False := by
      intro q j hq hj hlq hlj hdq hdj hno he
      have hs := self j hj hlj hdj he q hq
      rw [hlq] at hs
      have hne : ¬ q = j := fun e => hdj (by rw [← e]; exact hdq)
      simp [hne, hq] at hs
      exact hno q hq hs hdq
    have cc : ∀ i, i < n → livesS l i (r + 1) = true → ¬ 0 < (prAt ps i).dec → eqB (fun k => decide (k = i) || (decide (k < n) && hearsA l (r + 1) ps k i)) (prAt ps i).h = true → ∀ k,
        (wAll (prAt ps i).w (hearA n l (r + 1) ps i) k = true ↔ ∃ q, q < n ∧ livesS l q r = true ∧ (prAt ps q).w k = true) := by
      intro i hi hl hu he k
      rw [wAll_any, Bool.or_eq_true, List.any_eq_true]
      constructor
      · rintro (h1 | ⟨x, hx, h1⟩)
        · exact ⟨i, hi, lives_mono hl, h1⟩
        · obtain ⟨q, h2, h3, rfl⟩ := (mem_hear hlen hi).1 hx
          exact ⟨q, h2, hears_lives h3, h1⟩
      · rintro ⟨q, h1, h2, h3⟩
        by_cases e : q = i
        · subst e; exact .inl h3
        · have hs := self i hi hl hu he q h1
          rw [h2] at hs
          simp [e, h1] at hs
          exact .inr ⟨(q, mOf (prAt ps q)), (mem_hear hlen hi).2 ⟨q, h1, hs, rfl⟩, h3⟩
    rcases step_cases hlen hi hli with ⟨i1, i2⟩ | ⟨i1, q, i2, i3, i4, i5⟩ | ⟨i1, i2, i3⟩
    · rcases step_cases hlen hj hlj with ⟨j1, j2⟩ | ⟨j1, q', j2, j3, j4, j5⟩ | ⟨j1, j2, j3⟩
      · rw [i2, j2]; exact b.one i j hi hj (lives_mono hli) (lives_mono hlj) i1 j1
      · rw [i2, j5]; exact b.one i q' hi j2 (lives_mono hli) (hears_lives j3) i1 j4
      · exact (aC i j hi hj hli hlj i1 j1 j2).elim
    · rcases step_cases hlen hj hlj with ⟨j1, j2⟩ | ⟨j1, q', j2, j3, j4, j5⟩ | ⟨j1, j2, j3⟩
      · rw [i5, j2]; exact b.one q j i2 hj (hears_lives i3) (lives_mono hlj) i4 j1
      · rw [i5, j5]; exact b.one q q' i2 j2 (hears_lives i3) (hears_lives j3) i4 j4
      · rw [j3] at hdj
        simp only at hdj
        split at hdj
        · rename_i e
          exact (bC q j i2 hj (hears_lives i3) hlj i4 j1 j2 e).elim
        · exact absurd hdj j1
    · rw [i3] at hdi
      simp only at hdi
      split at hdi
      · rename_i ei
        rcases step_cases hlen hj hlj with ⟨j1, j2⟩ | ⟨j1, q', j2, j3, j4, j5⟩ | ⟨j1, j2, j3⟩
        · exact (aC j i hj hi hlj hli j1 i1 i2).elim
        · exact (bC q' i j2 hi (hears_lives j3) hli j4 i1 i2 ei).elim
        · rw [j3] at hdj
          simp only at hdj
          split at hdj
          · rename_i ej
            rw [i3, j3]
            funext k
            rw [Bool.eq_iff_iff]
            exact (cc i hi hli i1 ei k).trans (cc j hj hlj j1 ej k).symm
          · exact absurd hdj j1
      · exact absurd hdi i1
  · cases hl : livesS l i (r + 1) with
    | false => rw [frozen i hi hl] at hd ⊢; exact b.dec i hi hd
    | true =>
      have hub : ¬ 0 < (prAt ps i).dec → r + 1 ≤ l.length + 1 := by
        intro hu
        have h1 := h.b i hi (lives_mono hl) hu
        have h2 := lost_le (h.g i hi (lives_mono hl) hu)
        omega
      rcases step_cases hlen hi hl with ⟨h1, h2⟩ | ⟨h1, q, _, _, _, h3⟩ | ⟨h1, _, h3⟩
      · rw [h2] at hd ⊢; exact b.dec i hi hd
      · have := hub h1
        rw [h3]
        show 1 ≤ r + 1 ∧ r + 1 ≤ _
        omega
      · have := hub h1
        rw [h3] at hd ⊢
        simp only at hd ⊢
        split at hd
        · rename_i e
          rw [if_pos e]
          omega
        · exact absurd hd h1
  · have hk0 : livesS l k (r + 1) = true := lives_none' hf _
    by_cases h1 : 1 ≤ r
    · have hb := b.all h1
      rcases key i hi hl k hk (hb i hi (lives_mono hl) k hk hf) with ⟨q, h2, h3, h4, h5⟩ | h2 | ⟨q, h2, h3, h4⟩
      · rw [h5]; exact h4
      · exact h2
      · rw [h4]; exact hb q h2 h3 k hk hf
    · have h0 : r = 0 := by omega
      have hz := b.zero h0
      have hu : ¬ 0 < (prAt ps i).dec := by rw [hz i hi]; omega
      rcases step_cases hlen hi hl with ⟨h2, _⟩ | ⟨_, q, h2, _, h3, _⟩ | ⟨_, _, h3⟩
      · exact absurd h2 hu
      · rw [hz q h2] at h3; omega
      · rw [h3]
        show wAll _ _ k = true
        rw [wAll_any]
        have hown : ∀ q, q < n → (prAt ps q).w q = true := fun q hq => (b.own q hq).resolve_right h1
        by_cases e : i = k
        · subst e; rw [hown i hi, Bool.true_or]
        · have hh := hears_of hr h hk hi e hk0 (lives_mono hl) hu
          have : ((hearA n l (r + 1) ps i).any fun x => x.2.w k) = true := by
            rw [List.any_eq_true]
            exact ⟨(k, mOf (prAt ps k)), (mem_hear hlen hi).2 ⟨k, hk, hh, rfl⟩, hown k hk⟩
          rw [this, Bool.or_true]
  · have hb := b.gone
    cases hl : livesS l i (r + 1) with
    | false => rw [frozen i hi hl]; exact hb i hi k hk hne hg
    | true =>
      have hnk : ∀ q, q < n → hearsA l (r + 1) ps q i = true → (prAt ps q).w k = false := by
        intro q hq hh
        refine hb q hq k hk (fun e => ?_) hg
        subst e
        have := hears_lives hh
        have := lives_down this hr
        rw [hg] at this
        cases this
      rcases step_cases hlen hi hl with ⟨_, h2⟩ | ⟨_, q, h1, h2, _, h3⟩ | ⟨_, _, h3⟩
      · rw [h2]; exact hb i hi k hk hne hg
      · rw [h3]; exact hnk q h1 h2
      · rw [h3]
        show wAll _ _ k = false
        rw [wAll_any, hb i hi k hk hne hg, Bool.false_or, List.any_eq_false]
        intro x hx
        obtain ⟨q, h1, h2, rfl⟩ := (mem_hear hlen hi).1 hx
        have := hnk q h1 h2
        show ¬ (prAt ps q).w k = true
        rw [this]
        decide
end Go.Proofs.Ytbpmbofinoinmaa
