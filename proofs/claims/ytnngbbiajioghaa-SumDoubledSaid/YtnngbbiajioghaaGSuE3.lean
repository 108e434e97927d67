import Derived.Test.YtnngbbiajioghaaGSuR6
import Derived.Test.YtnngbbiajioghaaGSuT11
namespace Go.Proofs.Ytnngbbiajioghaa
open Go.Av Go.Proofs
set_option exponentiation.threshold 9000
set_option maxRecDepth 20000

/-! The document's rounding is the program's. -/

theorem bt_succ (N i : Nat) : N / 2 ^ i = 2 * (N / 2 ^ (i + 1)) + bt N i := by
  unfold bt
  rw [Nat.pow_succ, ← Nat.div_div_eq_div_mul]
  exact (Nat.div_add_mod _ _).symm
theorem bt_le (N i : Nat) : bt N i ≤ 1 := by unfold bt; omega
theorem mod_bt (N i : Nat) : N % 2 ^ (i + 1) = N % 2 ^ i + 2 ^ i * bt N i := by
  rw [Nat.pow_succ, Nat.mod_mul]; rfl

/-- The 53 highest bits, rounded. -/
def rM (N k : Nat) : Nat :=
  if 0 < (if k = 0 then -1 else cmpN (N % 2 ^ k) (2 ^ (k - 1)) : Int) ∨ ((if k = 0 then -1 else cmpN (N % 2 ^ k) (2 ^ (k - 1)) : Int) = 0 ∧ N / 2 ^ k % 2 = 1) then N / 2 ^ k + 1 else N / 2 ^ k
theorem rM_zero (N : Nat) : rM N 0 = N / 2 ^ 0 := by
  unfold rM
  rw [if_pos rfl, if_neg (by omega)]
theorem rM_succ (N j : Nat) : rM N (j + 1) = if bt N j = 1 ∧ (N / 2 ^ (j + 1) % 2 = 1 ∨ 0 < N % 2 ^ j) then N / 2 ^ (j + 1) + 1 else N / 2 ^ (j + 1) := by
  have hcN : ∀ a b : Nat, (0 : Int) < cmpN a b ↔ b < a := fun a b => by
    unfold cmpN
    split
    · omega
    · split <;> omega
  have hcE : ∀ a b : Nat, cmpN a b = 0 ↔ a = b := fun a b => by
    unfold cmpN
    split
    · omega
    · split <;> omega
  have hmb := mod_bt N j
  have hb1 := bt_le N j
  have hlow := Nat.mod_lt N (Nat.pow_pos (n := j) (show 0 < 2 by decide))
  unfold rM
  simp only [if_neg (show ¬ j + 1 = 0 by omega), hcN, hcE, show j + 1 - 1 = j by omega, hmb]
  generalize N % 2 ^ j = r at *
  generalize 2 ^ j = p at *
  generalize N / 2 ^ (j + 1) = m
  rcases Nat.lt_or_ge (bt N j) 1 with h | h
  · rw [show bt N j = 0 by omega, if_neg (by omega), if_neg (by omega)]
  · rw [show bt N j = 1 by omega]
    by_cases h2 : m % 2 = 1 ∨ 0 < r
    · rw [if_pos (by omega), if_pos ⟨rfl, h2⟩]
    · rw [if_neg (by omega), if_neg (fun h => h2 h.2)]
theorem ite_le1 (p : Prop) [Decidable p] (a : Nat) : (if p then a + 1 else a) ≤ a + 1 := by split <;> omega
theorem rM_le (N k : Nat) : rM N k ≤ N / 2 ^ k + 1 := ite_le1 _ _

set_option maxHeartbeats 2000000 in
theorem rrounded_ok {N : Nat} (hN : nb N ≤ 1000) : PureRun Try.prog 66 [bV N] (.sc (.int .u64 (roundN N : Nat))) := by
  refine PureRun.mkI cF66 (Nat.le_of_ble_eq_true rfl) ?_
  have hbits := bits_ok hN
  have hbit := fun (i : Nat) (h : i ≤ 100000) => bit_ok (i := i) hN h
  have hlt := blen_lt N
  have hbl : blen N ≤ 8000 := by
    rw [blen_iff]
    have := (nb_le N 1000).1 hN
    rw [pow256] at this
    exact this
  have hhi := hi_lt N
  have hrn : roundN N = if 2045 < blen N - 53 then infN else min infN ((blen N - 53) * expN + rM N (blen N - 53)) := rfl
  rw [hrn]
  clear hrn
  have hbV : PRs (bR (nb N) N) := inferInstance
  unfold bV at *
  generalize hrows : bR (nb N) N = rows at *
  clear hrows
  generalize blen N = n at *
  refine AWP.seq ?_
  refine AWP.region ?_
  refine walkR ?_
  refine AWP.seq ?_
  refine AWP.joinT0 [(0, .list 1 rows), (3, .sc (.int .i64 ((n - 53 : Nat) : Int)))] [] ?_ ?_
  · by_cases h : 53 ≤ n
    · refine walkX ?_
      exact Sub.w [] []
    · refine walkX ?_
      exact Sub.w [] []
  generalize hk : n - 53 = k at *
  refine walkX ?_
  have hw1 : IntKind.i64.wrap ((n : Int) - 1) = (n : Int) - 1 := wrap_small (by omega) (by omega)
  rw [hw1]
  refine AWP.loop (fun i : Nat => [(0, .list 1 rows), (3, .sc (.int .i64 (k : Int))), (4, .sc (.int .u64 (N / 2 ^ i : Nat))), (5, .sc (.int .i64 ((i : Int) - 1)))]) (fun _ => []) (fun i => k ≤ i ∧ i ≤ n) (fun i => i) n ⟨by omega, Nat.le_refl _⟩ ?_ ?_
  · rw [Nat.div_eq_of_lt hlt]
    exact Sub.w [] []
  rintro i ⟨hi1, hi2⟩
  refine walkX ?_
  refine AWP.condN (k < i) rfl (by rw [Bool.eq_iff_iff]; simp; omega) (fun h => ?_) (fun h => ?_)
  · obtain ⟨j, rfl⟩ : ∃ j, i = j + 1 := ⟨i - 1, by omega⟩
    rw [show ((j + 1 : Nat) : Int) - 1 = (j : Int) by omega]
    have hb := hbit j (by omega)
    have hs := bt_succ N j
    have hbl2 := bt_le N j
    have hsm : N / 2 ^ j < 9007199254740992 := by
      refine Nat.lt_of_le_of_lt ?_ hhi
      exact Nat.div_le_div_left (Nat.pow_le_pow_right (by decide) (by omega)) (Nat.pow_pos (by decide))
    rw [hs] at hsm
    generalize N / 2 ^ (j + 1) = m at *
    refine walkX ?_
    refine ⟨j, ⟨by omega, by omega⟩, by omega, ?_⟩
    rw [hs]
    exact Sub.w [] []
  · have hik : i = k := by omega
    subst hik
    refine AWP.exit ?_
    refine AWP.seq ?_
    refine AWP.joinT0 [(3, .sc (.int .i64 (i : Int))), (4, .sc (.int .u64 ((rM N i : Nat) : Int)))] [] ?_ ?_
    · skip
      have hm64 : N / 2 ^ i < 18446744073709551616 := by omega
      refine walkX ?_
      refine Reg.gs rfl (fun g => ?_) (fun g => ?_)
      · rw [g]
        have g := of_decide_eq_true g
        obtain ⟨j, rfl⟩ : ∃ j, i = j + 1 := ⟨i - 1, by omega⟩
        have hb := hbit j (by omega)
        have hb1 := bt_le N j
        rw [rM_succ]
        generalize hm : N / 2 ^ (j + 1) = m at *
        refine walkX ?_
        refine AWP.condD rfl (fun g2 => ?_) (fun g2 => ?_)
        · refine walkX ?_
          refine AWP.loop (fun q : Nat => [(0, .list 1 rows), (3, .sc (.int .i64 ((j + 1 : Nat) : Int))), (4, .sc (.int .u64 (m : Int))), (6, .sc (.bool (decide (m % 2 = 1 ∨ 0 < N % 2 ^ q)))), (7, .sc (.int .i64 (q : Int)))]) (fun _ => []) (fun q => q ≤ j) (fun q => j - q) 0 (Nat.zero_le _) ?_ ?_
          · rw [Nat.pow_zero, Nat.mod_one]
            exact Sub.w [] []
          intro q hq
          refine walkX ?_
          refine AWP.condD rfl (fun h1 => ?_) (fun h1 => ?_)
          · have hbq := hbit q (by omega)
            have hmq := mod_bt N q
            have hbq1 := bt_le N q
            have hpq : 0 < 2 ^ q := Nat.pow_pos (by decide)
            have hiff : (m % 2 = 1 ∨ 0 < N % 2 ^ (q + 1)) ↔ ((m % 2 = 1 ∨ 0 < N % 2 ^ q) ∨ bt N q = 1) := by
              rw [hmq]
              rcases Nat.lt_or_ge (bt N q) 1 with h2 | h2
              · rw [show bt N q = 0 by omega, Nat.mul_zero, Nat.add_zero]
                omega
              · rw [show bt N q = 1 by omega, Nat.mul_one]
                omega
            refine walkX ?_
            refine Reg.gs rfl (fun g3 => ?_) (fun g3 => ?_)
            · rw [g3]
              have g3 := of_decide_eq_true g3
              refine walkX ?_
              refine ⟨q + 1, by omega, by omega, ?_⟩
              rw [decide_eq_true (hiff.2 (.inl g3))]
              exact Sub.w [] []
            · rw [g3]
              have g3 := of_decide_eq_false g3
              refine walkX ?_
              refine ⟨q + 1, by omega, by omega, ?_⟩
              have e : decide (m % 2 = 1 ∨ 0 < N % 2 ^ (q + 1)) = decide (bt N q = 1) := by
                rw [Bool.eq_iff_iff]
                simp only [decide_eq_true_eq]
                rw [hiff]
                exact ⟨fun h => h.elim (fun h => absurd h g3) id, .inr⟩
              rw [e]
              exact Sub.w [] []
          · have hqj : q = j := by omega
            subst hqj
            refine walkX ?_
            refine AWP.condD rfl (fun g3 => ?_) (fun g3 => ?_)
            · rw [if_pos ⟨g2, g3⟩]
              refine walkX ?_
              exact Sub.w [] []
            · rw [if_neg (fun h => g3 h.2)]
              refine walkX ?_
              exact Sub.w [] []
        · rw [if_neg (fun h => g2 h.1)]
          refine walkX ?_
          exact Sub.w [] []
      · rw [g]
        have g := of_decide_eq_false g
        have h0 : i = 0 := by omega
        have hr0 : rM N i = N / 2 ^ i := by rw [h0]; exact rM_zero N
        rw [hr0]
        refine walkX ?_
        exact Sub.w [] []
    · have hq : rM N i ≤ 9007199254740993 := by have := rM_le N i; omega
      generalize rM N i = q at *
      refine walkX ?_
      refine AWP.condD rfl (fun h => ?_) (fun h => ?_)
      · rw [if_pos (by omega)]
        refine walkX ?_
        exact EndP.w
      · rw [if_neg (by omega)]
        have hsh : i * 2 ^ 52 % 18446744073709551616 = i * expN := by unfold expN; omega
        refine walkX ?_
        rw [hsh]
        refine walkX ?_
        refine EndP.mk (.inr rfl) rfl ?_ (To.sc _)
        rw [show infN = 9218868437227405312 from rfl, Nat.add_comm]

end Go.Proofs.Ytnngbbiajioghaa
namespace Go.Proofs.Ytnngbbiajioghaa
open Go.Av Go.Proofs
set_option exponentiation.threshold 4000

/-! What the program's sum and the document's have to do with one another. -/

structure Rel (s : St) (r : Rs) : Prop where
  n : s.n = if r.minus then 2 ^ 2304 - r.N else r.N
  pos : r.minus = true → 0 < r.N
  lt : r.N < 2 ^ 2240
  nan : s.nan = r.nan
  plus : s.plus = r.plus
  below : s.minus = r.below
  zero : s.zero = r.zero
  none : r.zero ≠ 2 → r.N = 0
  two : r.zero ≤ 2

theorem big_facts : 4 * 2 ^ 2240 ≤ 2 ^ 2303 ∧ 2 ^ 2304 = 2 * 2 ^ 2303 := by
  constructor
  · rw [show (4 : Nat) = 2 ^ 2 from rfl, ← Nat.pow_add]
    exact Nat.pow_le_pow_right (by decide) (by decide)
  · rw [Nat.mul_comm, ← Nat.pow_succ]

theorem over_iff (N : Nat) : 280 < nb N ↔ 2 ^ 2240 ≤ N := by
  have := nb_le N 280
  rw [pow256] at this
  have e : 8 * 280 = 2240 := rfl
  rw [e] at this
  omega
theorem over_iff' (N : Nat) : 2240 < blen N ↔ 2 ^ 2240 ≤ N := by
  have := blen_iff N 2240
  omega

theorem rel_merge {a s : St} {ra rs : Rs} (ha : Rel a ra) (hs : Rel s rs) : (mergeR a s).1 = (mergedR ra rs).1 ∧ Rel (mergeR a s).2 (mergedR ra rs).2 := by
  obtain ⟨an, apos, alt, anan, aplus, abelow, azero, anone, atwo⟩ := ha
  obtain ⟨sn, spos, slt, snan, splus, sbelow, szero, snone, stwo⟩ := hs
  obtain ⟨f1, f2⟩ := big_facts
  have key : (a.n + s.n) % big = (if (addR ra.minus ra.N rs.minus rs.N).1 && decide (0 < (addR ra.minus ra.N rs.minus rs.N).2) then 2 ^ 2304 - (addR ra.minus ra.N rs.minus rs.N).2 else (addR ra.minus ra.N rs.minus rs.N).2) ∧ (addR ra.minus ra.N rs.minus rs.N).2 < 2 * 2 ^ 2240 ∧
      ((addR ra.minus ra.N rs.minus rs.N).2 ≠ 0 → ra.N ≠ 0 ∨ rs.N ≠ 0) := by
    rw [an, sn]
    unfold big addR
    generalize ra.N = X at *
    generalize rs.N = Y at *
    rw [f2]
    generalize 2 ^ 2303 = P at *
    generalize 2 ^ 2240 = Q at *
    cases hm : ra.minus <;> cases ho : rs.minus
    · simp only [Bool.false_eq_true, if_false, if_true, Bool.false_and]
      rw [Nat.mod_eq_of_lt (by omega)]
      exact ⟨rfl, by omega, by omega⟩
    · have hy := spos ho
      simp only [Bool.false_eq_true, if_false, if_true]
      by_cases h1 : X = Y
      · simp only [if_pos h1, Bool.false_and, Bool.false_eq_true, if_false]
        rw [show X + (2 * P - Y) = 2 * P by omega, Nat.mod_self]
        exact ⟨rfl, by omega, by omega⟩
      · simp only [if_neg h1]
        by_cases h2 : X < Y
        · simp only [if_pos h2, Bool.true_and]
          rw [Nat.mod_eq_of_lt (by omega), if_pos (by simp; omega)]
          exact ⟨by omega, by omega, by omega⟩
        · simp only [if_neg h2, Bool.false_and, Bool.false_eq_true, if_false]
          rw [show X + (2 * P - Y) = (X - Y) + 2 * P by omega, Nat.add_mod_right, Nat.mod_eq_of_lt (by omega)]
          exact ⟨rfl, by omega, by omega⟩
    · have hx := apos hm
      simp only [Bool.true_eq_false, if_false, if_true, Bool.false_eq_true]
      by_cases h1 : X = Y
      · simp only [if_pos h1, Bool.false_and, Bool.false_eq_true, if_false]
        rw [show 2 * P - X + Y = 2 * P by omega, Nat.mod_self]
        exact ⟨rfl, by omega, by omega⟩
      · simp only [if_neg h1]
        by_cases h2 : X < Y
        · simp only [if_pos h2, Bool.false_and, Bool.false_eq_true, if_false]
          rw [show 2 * P - X + Y = (Y - X) + 2 * P by omega, Nat.add_mod_right, Nat.mod_eq_of_lt (by omega)]
          exact ⟨rfl, by omega, by omega⟩
        · simp only [if_neg h2, Bool.true_and]
          rw [Nat.mod_eq_of_lt (by omega), if_pos (by simp; omega)]
          exact ⟨by omega, by omega, by omega⟩
    · have hx := apos hm
      have hy := spos ho
      simp only [if_true, Bool.true_and]
      rw [show 2 * P - X + (2 * P - Y) = (2 * P - (X + Y)) + 2 * P by omega, Nat.add_mod_right, Nat.mod_eq_of_lt (by omega), if_pos (by simp; omega)]
      exact ⟨rfl, by omega, by omega⟩
  have habs : absN ((a.n + s.n) % big) = (addR ra.minus ra.N rs.minus rs.N).2 := by
    rw [key.1]
    generalize addR ra.minus ra.N rs.minus rs.N = q at *
    obtain ⟨m, Z⟩ := q
    obtain ⟨_, hZ, _⟩ := key
    simp only at hZ ⊢
    unfold absN
    rw [f2]
    generalize 2 ^ 2303 = P at *
    generalize 2 ^ 2240 = Q at *
    by_cases h : (m && decide (0 < Z)) = true
    · rw [if_pos h]
      have : 0 < Z := by simp at h; exact h.2
      rw [if_pos (by omega)]
      omega
    · rw [if_neg h, if_neg (by omega)]
  unfold mergeR mergeS mergedR
  rw [habs]
  simp only [over_iff', over_iff]
  generalize addR ra.minus ra.N rs.minus rs.N = q at *
  obtain ⟨m, Z⟩ := q
  obtain ⟨k1, k2, k3⟩ := key
  simp only at k1 k2 k3 ⊢
  by_cases hov : 2 ^ 2240 ≤ Z
  · rw [if_pos hov, if_pos hov]
    exact ⟨rfl, an, apos, alt, anan, aplus, abelow, azero, anone, atwo⟩
  · rw [if_neg hov, if_neg hov]
    refine ⟨rfl, k1, fun h => ?_, (show Z < 2 ^ 2240 by omega), ?_, ?_, ?_, ?_, fun h => ?_, ?_⟩
    · simp at h; exact h.2
    · simp only [anan, snan]
    · simp only [aplus, splus]
    · simp only [abelow, sbelow]
    · simp only [azero, szero]
    · have h : max ra.zero rs.zero ≠ 2 := h
      show Z = 0
      have h1 := anone (by omega)
      have h2 := snone (by omega)
      by_cases hz : Z = 0
      · exact hz
      · exact absurd (k3 hz) (by omega)
    · show max ra.zero rs.zero ≤ 2
      omega

theorem oneN_pos {b : Nat} (h : ¬ b % 9223372036854775808 = 0) : 0 < oneN b := by
  unfold oneN
  split
  · omega
  · exact Nat.mul_pos (by omega) (Nat.pow_pos (by decide))

theorem rel_one {b : Nat} (hb : b < 18446744073709551616) : Rel (oneS b) (oneRs b) := by
  have hq : (0 : Nat) < 2 ^ 2240 := Nat.pow_pos (by decide)
  unfold oneS oneRs infN
  by_cases c1 : 9218868437227405312 < b % 9223372036854775808
  · rw [if_pos c1, if_pos c1]
    exact ⟨rfl, (fun h => by cases h), hq, rfl, rfl, rfl, rfl, fun _ => rfl, by decide⟩
  rw [if_neg c1, if_neg c1]
  by_cases c2 : b % 9223372036854775808 = 9218868437227405312
  · rw [if_pos c2]
    by_cases c3 : 9223372036854775808 ≤ b
    · rw [if_neg (by omega), if_pos (by omega)]
      exact ⟨rfl, (fun h => by cases h), hq, rfl, by simp [c3], by simp [c3], rfl, fun _ => rfl, by decide⟩
    · rw [if_pos (by omega)]
      exact ⟨rfl, (fun h => by cases h), hq, rfl, by simp [c3], by simp [c3], rfl, fun _ => rfl, by decide⟩
  have n2 : ¬ b = 9218868437227405312 := by omega
  have n3 : ¬ b = 18442240474082181120 := by omega
  rw [if_neg c2, if_neg n2, if_neg n3]
  by_cases c4 : b = 9223372036854775808
  · rw [if_pos c4, if_pos c4]
    exact ⟨rfl, (fun h => by cases h), hq, rfl, rfl, rfl, rfl, fun _ => rfl, by decide⟩
  rw [if_neg c4, if_neg c4]
  have hlt := oneN_lt (b := b) (by unfold infN; omega)
  refine ⟨?_, fun h => ?_, Nat.lt_of_lt_of_le hlt (Nat.pow_le_pow_right (by decide) (by decide)), rfl, rfl, rfl, rfl, fun h => absurd rfl h, Nat.le_refl 2⟩
  · by_cases c5 : 9223372036854775808 ≤ b
    · have hp := oneN_pos (b := b) (by omega)
      simp only [if_pos c5, decide_eq_true c5, decide_eq_true hp, Bool.and_self, if_true]
    · simp only [if_neg c5, decide_eq_false c5, Bool.false_and, Bool.false_eq_true, if_false]
  · simp at h; exact h.2

def r0 : Rs := ⟨false, 0, false, false, false, 0⟩
theorem rel_zero : Rel s0 r0 := ⟨rfl, (fun h => by cases h), Nat.pow_pos (by decide), rfl, rfl, rfl, rfl, fun _ => rfl, by decide⟩
set_option exponentiation.threshold 10000 in
theorem Rel.nb {s : St} {r : Rs} (h : Rel s r) : nb r.N ≤ 1000 := by
  refine (nb_le _ _).2 (Nat.lt_of_lt_of_le h.lt ?_)
  rw [pow256]
  exact Nat.pow_le_pow_right (by decide) (by decide)

/-- The sums' values are the same. (roundN 0 = 0) -/
theorem round_zero : roundN 0 = 0 := by decide
theorem rel_value {s : St} {r : Rs} (h : Rel s r) : s.value = if r.nan = true ∨ (r.plus = true ∧ r.below = true) then 9221120237041090560
  else if r.plus = true then 9218868437227405312
  else if r.below = true then 18442240474082181120
  else (if r.minus = true ∨ r.zero = 1 then 9223372036854775808 else 0) ||| roundN r.N := by
  obtain ⟨hn, pos, lt, nan, plus, below, zero, none, two⟩ := h
  obtain ⟨f1, f2⟩ := big_facts
  unfold St.value
  rw [nan, plus, below, zero]
  by_cases c1 : r.nan = true ∨ (r.plus = true ∧ r.below = true)
  · rw [if_pos c1, if_pos c1]; rfl
  rw [if_neg c1, if_neg c1]
  by_cases c2 : r.plus = true
  · rw [if_pos c2, if_pos c2]; rfl
  rw [if_neg c2, if_neg c2]
  by_cases c3 : r.below = true
  · rw [if_pos c3, if_pos c3]; rfl
  rw [if_neg c3, if_neg c3]
  by_cases c4 : r.zero = 1
  · have hN := none (by omega)
    rw [if_pos c4, if_pos (.inr c4), hN, round_zero]
    rfl
  · rw [if_neg c4]
    by_cases c5 : r.minus = true
    · have hp := pos c5
      rw [if_pos c5] at hn
      have h1 : 2 ^ 2303 ≤ s.n := by rw [hn, f2]; generalize 2 ^ 2303 = P at *; omega
      have h2 : 2 ^ 2304 - s.n = r.N := by rw [hn, f2]; generalize 2 ^ 2303 = P at *; omega
      rw [if_pos h1, h2, if_pos (.inl c5)]
      rfl
    · rw [if_neg c5] at hn
      have h1 : ¬ 2 ^ 2303 ≤ s.n := by rw [hn]; generalize 2 ^ 2303 = P at *; omega
      rw [if_neg h1, if_neg (fun h => h.elim c5 c4), hn, Nat.zero_or]

theorem cmpI_lt (x y : Int) : cmpI x y < 0 ↔ x < y := by
  unfold cmpI
  split
  · omega
  · split <;> omega
theorem compare_lt {a b : Nat} (ha : a < 18446744073709551616) (hb : b < 18446744073709551616) (na : ¬ infN < a % 9223372036854775808) (nb : ¬ infN < b % 9223372036854775808) : compareS a b < 0 ↔ (9223372036854775808 ≤ a ∧ (¬ 9223372036854775808 ≤ b ∨ b < a)) ∨ (¬ 9223372036854775808 ≤ a ∧ ¬ 9223372036854775808 ≤ b ∧ a < b) := by
  unfold compareS
  rw [cmpI_lt]
  unfold quiet
  rw [if_neg na, if_neg nb]
  unfold ordN
  split <;> split <;> omega

end Go.Proofs.Ytnngbbiajioghaa
namespace Go.Proofs.Ytnngbbiajioghaa
open Go.Av Go.Proofs
set_option exponentiation.threshold 4000
set_option maxRecDepth 20000

/-! The document's values and operations. -/

def rvalue (r : Rs) : Nat :=
  if r.nan = true ∨ (r.plus = true ∧ r.below = true) then 9221120237041090560
  else if r.plus = true then 9218868437227405312
  else if r.below = true then 18442240474082181120
  else (if r.minus = true ∨ r.zero = 1 then 9223372036854775808 else 0) ||| roundN r.N

set_option maxHeartbeats 2000000 in
theorem rvalue_ok (r : Rs) (hN : nb r.N ≤ 1000) : PureRun Try.prog 25 [.cptr r.row] (.sc (.int .u64 (rvalue r : Nat))) := by
  refine PureRun.mkI cF25 (Nat.le_of_ble_eq_true rfl) ?_
  have hr := rrounded_ok hN
  have hle := roundN_le r.N
  have hl2 : roundN r.N < 18446744073709551616 := by unfold infN at hle; omega
  obtain ⟨mi, N, na, pl, be, ze⟩ := r
  simp only at hr hl2 hN
  unfold bV at hr
  unfold rvalue
  simp only
  generalize roundN N = q at *
  refine AWP.seq ?_
  refine AWP.region ?_
  refine walkR ?_
  refine AWP.seq ?_
  refine AWP.region ?_
  refine walkR ?_
  refine AWP.seq ?_
  refine AWP.joinT0 [(0, .cptr (Rs.row ⟨mi, N, na, pl, be, ze⟩)), (3, .sc (.int .u64 ((if mi = true ∨ ze = 1 then 9223372036854775808 else 0 : Nat) : Int)))] [] ?_ ?_
  · cases mi with
    | true =>
      rw [if_pos (.inl rfl)]
      refine walkX ?_
      exact Sub.w [] []
    | false =>
      by_cases hz : ze = 1
      · rw [if_pos (.inr hz)]
        refine walkX ?_
        refine AWP.condD rfl (fun h => ?_) (fun h => absurd hz h)
        refine walkX ?_
        exact Sub.w [] []
      · rw [if_neg (by simp [hz])]
        refine walkX ?_
        refine AWP.condD rfl (fun h => absurd h hz) (fun h => ?_)
        refine walkX ?_
        exact Sub.w [] []
  have hs2 : (if mi = true ∨ ze = 1 then 9223372036854775808 else 0 : Nat) < 18446744073709551616 := by split <;> decide
  generalize (if mi = true ∨ ze = 1 then 9223372036854775808 else 0 : Nat) = s at *
  cases na
  · cases pl
    · cases be
      · rw [if_neg (by simp), if_neg (by simp), if_neg (by simp)]
        refine walkX ?_
        exact EndP.w
      · rw [if_neg (by simp), if_neg (by simp), if_pos rfl]
        refine walkX ?_
        exact EndP.w
    · cases be
      · rw [if_neg (by simp), if_pos rfl]
        refine walkX ?_
        exact EndP.w
      · rw [if_pos (.inr ⟨rfl, rfl⟩)]
        refine walkX ?_
        exact EndP.w
  · rw [if_pos (.inl rfl)]
    refine walkX ?_
    exact EndP.w

def compareR (a b : Nat) : Int :=
  if (infN < a % 9223372036854775808 ∧ infN < b % 9223372036854775808) ∨ a = b then 0
  else if infN < a % 9223372036854775808 then 1
  else if infN < b % 9223372036854775808 then -1
  else if 9223372036854775808 ≤ a ∧ ¬ 9223372036854775808 ≤ b then -1
  else if 9223372036854775808 ≤ b ∧ ¬ 9223372036854775808 ≤ a then 1
  else if (a < b) ↔ ¬ 9223372036854775808 ≤ a then -1
  else 1

set_option maxHeartbeats 2000000 in
theorem rcompare_ok {a b : Nat} (ha : a < 18446744073709551616) (hb : b < 18446744073709551616) : PureRun Try.prog 19 [.sc (.int .u64 (a : Int)), .sc (.int .u64 (b : Int))] (.sc (.int .i64 (compareR a b))) := by
  refine PureRun.mkI cF19 (Nat.le_of_ble_eq_true rfl) ?_
  have h1 := risnan_ok ha
  have h2 := risnan_ok hb
  rw [and_abs] at h1 h2
  have sa := and_sign ha
  have sb := and_sign hb
  unfold compareR
  by_cases c0 : (infN < a % 9223372036854775808 ∧ infN < b % 9223372036854775808) ∨ a = b
  · rw [if_pos c0]
    by_cases ca : infN < a % 9223372036854775808
    · rw [decide_eq_true ca] at h1
      by_cases cb : infN < b % 9223372036854775808
      · rw [decide_eq_true cb] at h2
        refine walkX ?_
        exact EndP.w
      · rw [decide_eq_false cb] at h2
        have hab : a = b := c0.resolve_left (fun h => cb h.2)
        refine walkX ?_
        refine AWP.condD rfl (fun _ => ?_) (fun h => absurd hab h)
        refine walkX ?_
        exact EndP.w
    · rw [decide_eq_false ca] at h1
      have hab : a = b := c0.resolve_left (fun h => ca h.1)
      refine walkX ?_
      refine AWP.condD rfl (fun _ => ?_) (fun h => absurd hab h)
      refine walkX ?_
      exact EndP.w
  rw [if_neg c0]
  have hab : ¬ a = b := fun h => c0 (.inr h)
  by_cases ca : infN < a % 9223372036854775808
  · rw [if_pos ca]
    have cb : ¬ infN < b % 9223372036854775808 := fun h => c0 (.inl ⟨ca, h⟩)
    rw [decide_eq_true ca] at h1
    rw [decide_eq_false cb] at h2
    refine walkX ?_
    refine AWP.condD rfl (fun h => absurd h hab) (fun _ => ?_)
    refine walkX ?_
    exact EndP.w
  rw [if_neg ca]
  rw [decide_eq_false ca] at h1
  by_cases cb : infN < b % 9223372036854775808
  · rw [if_pos cb]
    rw [decide_eq_true cb] at h2
    refine walkX ?_
    refine AWP.condD rfl (fun h => absurd h hab) (fun _ => ?_)
    refine walkX ?_
    exact EndP.w
  rw [if_neg cb]
  rw [decide_eq_false cb] at h2
  refine walkX ?_
  refine AWP.condD rfl (fun h => absurd h hab) (fun _ => ?_)
  refine walkX ?_
  rw [sa, sb]
  by_cases na : 9223372036854775808 ≤ a
  · rw [if_pos na]
    by_cases nb' : 9223372036854775808 ≤ b
    · rw [if_pos nb', if_neg (by omega), if_neg (by omega)]
      by_cases hlt : a < b
      · have e : decide (a < b) = true := decide_eq_true hlt
        rw [if_neg (by omega)]
        refine walkX ?_
        rw [e]
        refine walkX ?_
        exact EndP.w
      · have e : decide (a < b) = false := decide_eq_false hlt
        rw [if_pos (by omega)]
        refine walkX ?_
        rw [e]
        refine walkX ?_
        exact EndP.w
    · rw [if_neg nb', if_pos ⟨na, nb'⟩]
      refine walkX ?_
      exact EndP.w
  · rw [if_neg na]
    by_cases nb' : 9223372036854775808 ≤ b
    · rw [if_pos nb', if_neg (by omega), if_pos ⟨nb', na⟩]
      refine walkX ?_
      exact EndP.w
    · rw [if_neg nb', if_neg (by omega), if_neg (by omega)]
      by_cases hlt : a < b
      · have e : decide (a < b) = true := decide_eq_true hlt
        rw [if_pos (by omega)]
        refine walkX ?_
        rw [e]
        refine walkX ?_
        exact EndP.w
      · have e : decide (a < b) = false := decide_eq_false hlt
        rw [if_neg (by omega)]
        refine walkX ?_
        rw [e]
        refine walkX ?_
        exact EndP.w

end Go.Proofs.Ytnngbbiajioghaa
namespace Go.Proofs.Ytnngbbiajioghaa
open Go.Av Go.Proofs
set_option exponentiation.threshold 4000
set_option maxRecDepth 20000

/-! The document's Check, Valid, and the operations. -/

theorem opNil_iff {op kind : Int} (h1 : 1 ≤ op) (h2 : op ≤ 11) (h3 : 1 ≤ kind) (h4 : kind ≤ 3) : opNil op kind = !((decide (kind = 1) && decide (op ≤ 9)) || (decide (kind = 2) && (decide (op = 1) || decide (op = 3) || decide (op = 4))) || (decide (kind = 3) && decide (10 ≤ op))) := by
  have : ∀ a ∈ List.range 11, ∀ b ∈ List.range 3, opNil ((a : Int) + 1) ((b : Int) + 1) = !((decide ((b : Int) + 1 = 1) && decide ((a : Int) + 1 ≤ 9)) || (decide ((b : Int) + 1 = 2) && (decide ((a : Int) + 1 = 1) || decide ((a : Int) + 1 = 3) || decide ((a : Int) + 1 = 4))) || (decide ((b : Int) + 1 = 3) && decide (10 ≤ (a : Int) + 1))) := by decide
  have := this (op - 1).toNat (List.mem_range.2 (by omega)) (kind - 1).toNat (List.mem_range.2 (by omega))
  rw [show (((op - 1).toNat : Nat) : Int) + 1 = op by omega, show (((kind - 1).toNat : Nat) : Int) + 1 = kind by omega] at this
  exact this

set_option maxHeartbeats 2000000 in
theorem rcheck_ok (op kind : Int) : PureRun Try.prog 17 [.sc (.int .i64 op), .sc (.int .i64 kind)] (.sc (.int .i64 (checkE op kind))) := by
  refine PureRun.mkI cF17 (Nat.le_of_ble_eq_true rfl) ?_
  unfold checkE
  refine walkW ?_
  refine Reg.gs rfl (fun g1 => ?_) (fun g1 => ?_)
  · rw [g1, if_pos (.inl (of_decide_eq_true g1))]
    refine walkW ?_
    exact EndP.w
  rw [g1]
  have g1 := of_decide_eq_false g1
  refine walkW ?_
  refine Reg.gs rfl (fun g2 => ?_) (fun g2 => ?_)
  · rw [g2, if_pos (.inr (.inl (of_decide_eq_true g2)))]
    refine walkW ?_
    exact EndP.w
  rw [g2]
  have g2 := of_decide_eq_false g2
  refine walkW ?_
  refine Reg.gs rfl (fun g3 => ?_) (fun g3 => ?_)
  · rw [g3, if_pos (.inr (.inr (.inl (of_decide_eq_true g3))))]
    refine walkW ?_
    exact EndP.w
  rw [g3]
  have g3 := of_decide_eq_false g3
  refine walkW ?_
  refine AWP.condD rfl (fun g4 => ?_) (fun g4 => ?_)
  · rw [if_pos (.inr (.inr (.inr g4)))]
    refine walkW ?_
    exact EndP.w
  rw [if_neg (by omega)]
  rw [opNil_iff (by omega) (by omega) (by omega) (by omega)]
  have hk : kind = 1 ∨ kind = 2 ∨ kind = 3 := by omega
  rcases hk with rfl | rfl | rfl
  · refine walkW ?_
    by_cases h9 : op ≤ 9
    · rw [decide_eq_true h9]
      refine walkW ?_
      exact EndP.w
    · rw [decide_eq_false h9]
      refine walkW ?_
      exact EndP.w
  · refine walkW ?_
    by_cases h1 : op = 1
    · subst h1
      refine walkW ?_
      exact EndP.w
    · have e1 : (op == 1) = false := by simpa using h1
      rw [e1]
      refine walkW ?_
      by_cases h3 : op = 3
      · subst h3
        refine walkW ?_
        exact EndP.w
      · have e3 : (op == 3) = false := by simpa using h3
        rw [e3]
        refine walkW ?_
        by_cases h4 : op = 4
        · subst h4
          refine walkW ?_
          exact EndP.w
        · have e4 : (op == 4) = false := by simpa using h4
          rw [e4]
          rw [decide_eq_false h1, decide_eq_false h3, decide_eq_false h4]
          refine walkW ?_
          exact EndP.w
  · refine walkW ?_
    by_cases h10 : 10 ≤ op
    · have e : decide (op ≥ 10) = true := decide_eq_true h10
      rw [e]
      refine walkW ?_
      exact EndP.w
    · have e : decide (op ≥ 10) = false := decide_eq_false h10
      rw [e]
      refine walkW ?_
      exact EndP.w

theorem rvalid_ok (kind : Int) (v : Vl) : PureRun Try.prog 50 [.sc (.int .i64 kind), .agg (vrow v)] (.sc (.bool (validS kind [v]))) := by
  refine PureRun.mkI cF50 (Nat.le_of_ble_eq_true rfl) ?_
  unfold validS
  by_cases hk : kind = 3
  · subst hk
    refine walkW ?_
    exact EndP.w
  · have e : (kind == 3) = false := by simpa using hk
    rw [decide_eq_false hk]
    obtain ⟨b, p⟩ := v
    refine walkW ?_
    rw [e]
    refine walkW ?_
    have e2 : (p == 0) = (false || [(b, p)].all fun v => decide (v.2 = 0)) := by
      simp only [List.all_cons, List.all_nil, Bool.and_true, Bool.false_or]
      rw [Bool.eq_iff_iff]; simp
    rw [e2]
    exact EndP.w

theorem validS_two (kind : Int) (a b : Vl) : validS kind [a, b] = (validS kind [a] && validS kind [b]) := by
  unfold validS
  cases decide (kind = 3) <;> simp

theorem sg_lt_iff (a b : Nat) : cmpI (sg a) (sg b) < 0 ↔ sg a < sg b := cmpI_lt _ _

set_option maxHeartbeats 2000000 in
theorem rints_ok {op : Int} (h1 : 1 ≤ op) (h9 : op ≤ 9) {a b : Nat} (ha : a < 18446744073709551616) (hb : b < 18446744073709551616) :
    PureRun Try.prog 93 [.sc (.int .i64 op), .sc (.int .u64 (a : Int)), .sc (.int .u64 (b : Int))] (.sc (.int .u64 ((opR op 1 (a, 0) (b, 0)).1 : Nat))) := by
  refine PureRun.mkI cF93 (Nat.le_of_ble_eq_true rfl) ?_
  have ht : ∀ c : Bool, PureRun Try.prog 72 [.sc (.bool c)] (.sc (.int .u64 (c.toNat : Int))) := truth_ok
  obtain ⟨n, rfl⟩ : ∃ n : Nat, op = n := ⟨op.toNat, by omega⟩
  match n, h1, h9 with
  | 1, _, _ =>
    rw [show (opR ((1 : Nat) : Int) 1 (a, 0) (b, 0)).1 = (a + b) % 18446744073709551616 from rfl]
    refine walkW ?_
    rw [show (a : Int) + (b : Int) = ((a + b : Nat) : Int) by omega, wrapU]
    exact EndP.w
  | 2, _, _ =>
    rw [show (opR ((2 : Nat) : Int) 1 (a, 0) (b, 0)).1 = a * b % 18446744073709551616 from rfl]
    refine walkW ?_
    rw [show (a : Int) * (b : Int) = ((a * b : Nat) : Int) by rw [Int.natCast_mul], wrapU]
    exact EndP.w
  | 3, _, _ =>
    have e : (opR ((3 : Nat) : Int) 1 (a, 0) (b, 0)).1 = if sg b < sg a then b else a := by
      show (if cmpI (sg b) (sg a) < 0 then ((b, 0) : Vl) else (a, 0)).1 = _
      simp only [cmpI_lt]
      split <;> rfl
    rw [e]
    refine walkW ?_
    refine AWP.condN (sg b < sg a) rfl rfl (fun h => ?_) (fun h => ?_)
    · rw [if_pos h]
      refine walkW ?_
      exact EndP.w
    · rw [if_neg h]
      refine walkW ?_
      exact EndP.w
  | 4, _, _ =>
    have e : (opR ((4 : Nat) : Int) 1 (a, 0) (b, 0)).1 = if sg a < sg b then b else a := by
      show (if cmpI (sg a) (sg b) < 0 then ((b, 0) : Vl) else (a, 0)).1 = _
      simp only [cmpI_lt]
      split <;> rfl
    rw [e]
    refine walkW ?_
    refine AWP.condN (sg a < sg b) rfl rfl (fun h => ?_) (fun h => ?_)
    · rw [if_pos h]
      refine walkW ?_
      exact EndP.w
    · rw [if_neg h]
      refine walkW ?_
      exact EndP.w
  | 5, _, _ =>
    rw [show (opR ((5 : Nat) : Int) 1 (a, 0) (b, 0)).1 = a &&& b from rfl]
    refine walkX ?_
    exact EndP.w
  | 6, _, _ =>
    rw [show (opR ((6 : Nat) : Int) 1 (a, 0) (b, 0)).1 = a ||| b from rfl]
    refine walkX ?_
    exact EndP.w
  | 7, _, _ =>
    rw [show (opR ((7 : Nat) : Int) 1 (a, 0) (b, 0)).1 = a ^^^ b from rfl]
    refine walkX ?_
    exact EndP.w
  | 8, _, _ =>
    rw [show (opR ((8 : Nat) : Int) 1 (a, 0) (b, 0)).1 = (!decide (a = 0) && !decide (b = 0)).toNat from rfl]
    have hp := ht (!decide (a = 0) && !decide (b = 0))
    refine walkX ?_
    cases hq : (!decide (a = 0)) with
    | true =>
      rw [hq] at hp
      refine walkX ?_
      exact EndP.w
    | false =>
      rw [hq] at hp
      refine walkX ?_
      exact EndP.w
  | 9, _, _ =>
    rw [show (opR ((9 : Nat) : Int) 1 (a, 0) (b, 0)).1 = (!decide (a = 0) || !decide (b = 0)).toNat from rfl]
    have hp := ht (!decide (a = 0) || !decide (b = 0))
    refine walkX ?_
    cases hq : (!decide (a = 0)) with
    | true =>
      rw [hq] at hp
      refine walkX ?_
      exact EndP.w
    | false =>
      rw [hq] at hp
      refine walkX ?_
      exact EndP.w

end Go.Proofs.Ytnngbbiajioghaa
namespace Go.Proofs.Ytnngbbiajioghaa
open Go.Av Go.Proofs
set_option exponentiation.threshold 4000
set_option maxRecDepth 20000

/-! The document's operations for reals and pairs; its Do. -/

theorem z6 : zrow [(1, .bool false), (1, .slice none 0 0), (3, .bool false), (1, .int .i64 0)] = [.sc (.bool false), .sc (.slice none 0 0), .sc (.bool false), .sc (.bool false), .sc (.bool false), .sc (.int .i64 0)] := rfl

def rtwo (a b : Nat) : Nat := rvalue (mergedR (mergedR r0 (oneRs a)).2 (oneRs b)).2

theorem rlook_at {H : Heap} {g i : Nat} {a : Rs} (hx : hget H g i = some (.cells 6 [a.row])) (ha : nb a.N ≤ 1000) : CallOK Try.prog 25 [.ptr g i 0 0] H fun res H' => res = .sc (.int .u64 (rvalue a : Nat)) ∧ H' = H :=
  CallOK.view (args' := [.cptr a.row]) (rvalue_ok a ha) (.sc _) (ToL.cons (To.fzp (hget_gh hx) rfl rfl (To.cptrL (ToL.pure (pr a.row)))) ToL.nil) ⟨rfl, rfl⟩

theorem rel_add {s : St} {r : Rs} (h : Rel s r) {b : Nat} (hb : b < 18446744073709551616) : Rel (mergeR s (oneS b)).2 (mergedR r (oneRs b)).2 := (rel_merge h (rel_one hb)).2

theorem rvalue_rel {s : St} {r : Rs} (h : Rel s r) : s.value = rvalue r := rel_value h

set_option maxHeartbeats 1000000 in
theorem rreals_sum {a b : Nat} (ha : a < 18446744073709551616) (hb : b < 18446744073709551616) : PureRun Try.prog 94 [.sc (.int .i64 1), .sc (.int .u64 (a : Int)), .sc (.int .u64 (b : Int))] (.sc (.int .u64 (twoN a b : Nat))) := by
  refine PureRun.mkI cF94 (Nat.le_of_ble_eq_true rfl) ?_
  have q1 := rel_add rel_zero ha
  have q2 := rel_add q1 hb
  have n0 := rel_zero.nb
  have n1 := q1.nb
  have n2 := q2.nb
  have hv : twoN a b = rvalue (mergedR (mergedR r0 (oneRs a)).2 (oneRs b)).2 := rvalue_rel q2
  rw [hv]
  refine walkX ?_
  refine Reg.sub (fr' := [(2, .sc (.int .u64 (b : Int))), (7, .ptr 0 0 0 0), (13, .ptr 0 0 0 0), (14, .sc (.int .u64 (a : Int)))]) (H' := [[.cells 6 [r0.row]]]) ?_ ?_
  · exact Sub.wx [] [[(0,0)]]
  refine Reg.c (Nat.zero_le _) rfl ((radd_at (a := r0) rfl n0 ha).mono ?_)
  rintro res H' ⟨rfl, rfl⟩
  generalize (mergedR r0 (oneRs a)).2 = r1 at *
  refine walkX ?_
  refine Reg.c (Nat.zero_le _) rfl ((radd_at (a := r1) rfl n1 hb).mono ?_)
  rintro res H' ⟨rfl, rfl⟩
  generalize (mergedR r1 (oneRs b)).2 = r2 at *
  refine walkX ?_
  refine Reg.c (Nat.zero_le _) rfl ((rlook_at (a := r2) rfl n2).mono ?_)
  rintro res H' ⟨rfl, rfl⟩
  refine walkX ?_
  exact EndP.w

theorem opR_real3 (a b : Vl) : opR 3 2 a b = if infN < a.1 % 9223372036854775808 ∨ infN < b.1 % 9223372036854775808 then (nanN, 0) else if compareS b.1 a.1 < 0 then b else a := by unfold opR; simp
theorem opR_real4 (a b : Vl) : opR 4 2 a b = if infN < a.1 % 9223372036854775808 ∨ infN < b.1 % 9223372036854775808 then (nanN, 0) else if compareS a.1 b.1 < 0 then b else a := by unfold opR; simp

theorem compareR_lt {a b : Nat} (na : ¬ infN < a % 9223372036854775808) (nb : ¬ infN < b % 9223372036854775808) : compareR a b < 0 ↔ (9223372036854775808 ≤ a ∧ (¬ 9223372036854775808 ≤ b ∨ b < a)) ∨ (¬ 9223372036854775808 ≤ a ∧ ¬ 9223372036854775808 ≤ b ∧ a < b) := by
  unfold compareR
  rw [if_neg na, if_neg nb]
  by_cases h0 : (infN < a % 9223372036854775808 ∧ infN < b % 9223372036854775808) ∨ a = b
  · rw [if_pos h0]
    have : a = b := h0.resolve_left (fun h => na h.1)
    omega
  · rw [if_neg h0]
    have : ¬ a = b := fun h => h0 (.inr h)
    split
    · omega
    · split
      · omega
      · split <;> omega

set_option maxHeartbeats 1000000 in
theorem rreals_ok {op : Int} (ho : op = 3 ∨ op = 4) {a b : Nat} (ha : a < 18446744073709551616) (hb : b < 18446744073709551616) : PureRun Try.prog 94 [.sc (.int .i64 op), .sc (.int .u64 (a : Int)), .sc (.int .u64 (b : Int))] (.sc (.int .u64 ((opR op 2 (a, 0) (b, 0)).1 : Nat))) := by
  refine PureRun.mkI cF94 (Nat.le_of_ble_eq_true rfl) ?_
  have h1 := risnan_ok ha
  have h2 := risnan_ok hb
  rw [and_abs] at h1 h2
  have hc := rcompare_ok hb ha
  by_cases ca : infN < a % 9223372036854775808
  · rw [decide_eq_true ca] at h1
    have e : (opR op 2 (a, 0) (b, 0)).1 = 9221120237041090560 := by
      rcases ho with rfl | rfl
      · rw [opR_real3, if_pos (.inl ca)]; rfl
      · rw [opR_real4, if_pos (.inl ca)]; rfl
    rw [e]
    rcases ho with rfl | rfl
    all_goals
      refine walkX ?_
      exact EndP.w
  rw [decide_eq_false ca] at h1
  by_cases cb : infN < b % 9223372036854775808
  · rw [decide_eq_true cb] at h2
    have e : (opR op 2 (a, 0) (b, 0)).1 = 9221120237041090560 := by
      rcases ho with rfl | rfl
      · rw [opR_real3, if_pos (.inr cb)]; rfl
      · rw [opR_real4, if_pos (.inr cb)]; rfl
    rw [e]
    rcases ho with rfl | rfl
    all_goals
      refine walkX ?_
      exact EndP.w
  rw [decide_eq_false cb] at h2
  have hl1 := compareR_lt cb ca
  have hl2 := compare_lt hb ha cb ca
  have hl3 := compare_lt ha hb ca cb
  have e3 : (opR 3 2 (a, 0) (b, 0)).1 = if compareR b a < 0 then b else a := by
    rw [opR_real3, if_neg (fun h => h.elim ca cb)]
    simp only [hl1, hl2]
    split <;> rfl
  have e4 : (opR 4 2 (a, 0) (b, 0)).1 = if compareR b a < 0 then a else b := by
    rw [opR_real4, if_neg (fun h => h.elim ca cb)]
    simp only [hl1, hl3]
    split <;> split <;> first | rfl | (exfalso; omega) | (show b = a; omega) | (show a = b; omega)
  rcases ho with rfl | rfl
  · rw [e3]
    generalize compareR b a = c at *
    refine walkW ?_
    by_cases h : c < 0
    · have e : decide (c < 0) = true := decide_eq_true h
      rw [if_pos h, e]
      refine walkW ?_
      exact EndP.w
    · have e : decide (c < 0) = false := decide_eq_false h
      rw [if_neg h, e]
      refine walkW ?_
      exact EndP.w
  · rw [e4]
    generalize compareR b a = c at *
    refine walkW ?_
    by_cases h : c < 0
    · have e : decide (c < 0) = true := decide_eq_true h
      rw [if_pos h, e]
      refine walkW ?_
      exact EndP.w
    · have e : decide (c < 0) = false := decide_eq_false h
      rw [if_neg h, e]
      refine walkW ?_
      exact EndP.w

theorem locS_lt {s : Int} (hs : s = 1 ∨ s = -1) (a b : Nat) (p q : Int) : locS s a b p q < 0 ↔ (sg a = sg b ∧ p < q) ∨ (¬ sg a = sg b ∧ ((s = 1 ∧ sg a < sg b) ∨ (s = -1 ∧ sg b < sg a))) := by
  unfold locS cmpI
  generalize sg a = x
  generalize sg b = y
  rcases hs with rfl | rfl
  · by_cases h : x < y
    · rw [if_pos h]; simp; omega
    · rw [if_neg h]
      by_cases h2 : y < x
      · rw [if_pos h2]; simp; omega
      · rw [if_neg h2]
        simp only [Int.mul_zero, if_true]
        split
        · omega
        · split <;> omega
  · by_cases h : x < y
    · rw [if_pos h]; simp; omega
    · rw [if_neg h]
      by_cases h2 : y < x
      · rw [if_pos h2]; simp; omega
      · rw [if_neg h2]
        simp only [Int.mul_zero, if_true]
        split
        · omega
        · split <;> omega

set_option maxHeartbeats 1000000 in
theorem rpairs_ok {op : Int} (ho : op = 10 ∨ op = 11) (a b : Vl) : PureRun Try.prog 95 [.sc (.int .i64 op), .agg (vrow a), .agg (vrow b)] (.agg (vrow (opR op 3 a b))) := by
  refine PureRun.mkI cF95 (Nat.le_of_ble_eq_true rfl) ?_
  have e : opR op 3 a b = if (sg b.1 = sg a.1 ∧ b.2 < a.2) ∨ (¬ sg b.1 = sg a.1 ∧ ((op = 10 ∧ sg b.1 < sg a.1) ∨ (op = 11 ∧ sg a.1 < sg b.1))) then b else a := by
    rcases ho with rfl | rfl
    · show (if locS 1 b.1 a.1 b.2 a.2 < 0 then b else a) = _
      simp only [locS_lt (.inl rfl)]
      simp
    · show (if locS (-1) b.1 a.1 b.2 a.2 < 0 then b else a) = _
      simp only [locS_lt (.inr rfl)]
      simp
  rw [e]
  clear e
  obtain ⟨a, p⟩ := a
  obtain ⟨b, q⟩ := b
  simp only
  have hpv : PV (AV.agg (vrow (if (sg b = sg a ∧ q < p) ∨ (¬ sg b = sg a ∧ ((op = 10 ∧ sg b < sg a) ∨ (op = 11 ∧ sg a < sg b))) then ((b, q) : Vl) else (a, p)))) := inferInstance
  refine walkW ?_
  refine DK.nil ⟨by kernel_rfl, ?_⟩
  refine walkW ?_
  refine AWP.condN (sg a = sg b) rfl (by rw [Bool.eq_iff_iff]; simp only [beq_iff_eq, decide_eq_true_eq]; rfl) (fun h => ?_) (fun h => ?_)
  · refine walkW ?_
    refine AWP.condN (q < p) rfl rfl (fun h2 => ?_) (fun h2 => ?_)
    · rw [if_pos (.inl ⟨h.symm, h2⟩)]
      refine walkW ?_
      exact EndP.w
    · rw [if_neg (by omega)]
      refine walkW ?_
      exact EndP.w
  · have hw : ∀ z : Nat, IntKind.i64.wrap (z : Int) = sg z := fun _ => rfl
    refine walkW ?_
    rw [hw a, hw b]
    rcases ho with rfl | rfl
    · by_cases h2 : sg b < sg a
      · have e : decide (sg b < sg a) = true := decide_eq_true h2
        rw [if_pos (.inr ⟨fun q => h q.symm, .inl ⟨rfl, h2⟩⟩), e]
        refine walkW ?_
        exact EndP.w
      · have e : decide (sg b < sg a) = false := decide_eq_false h2
        rw [if_neg (by omega), e]
        refine walkW ?_
        exact EndP.w
    · by_cases h2 : sg b < sg a
      · have e : decide (sg b < sg a) = true := decide_eq_true h2
        rw [if_neg (by omega), e]
        refine walkW ?_
        exact EndP.w
      · have e : decide (sg b < sg a) = false := decide_eq_false h2
        rw [if_pos (.inr ⟨fun q => h q.symm, .inr ⟨rfl, by omega⟩⟩), e]
        refine walkW ?_
        exact EndP.w

theorem vrow_zero {v : Vl} (h : v.2 = 0) : v = (v.1, 0) := Prod.ext rfl h

theorem opR_place {op kind : Int} {a b : Vl} (hk : kind ≠ 3) (ha : a.2 = 0) (hb : b.2 = 0) (h : kind = 1 ∨ kind = 2) : (opR op kind a b).2 = 0 := by
  have h6 : ∀ (c : Prop) [Decidable c], (if c then b else a).2 = 0 := fun c _ => by split <;> assumption
  unfold opR
  rcases h with rfl | rfl
  · rw [if_pos rfl]
    split
    · rfl
    · split
      · rfl
      · split
        · exact h6 _
        · split
          · exact h6 _
          · split
            · rfl
            · split
              · rfl
              · split
                · rfl
                · split <;> rfl
  · rw [if_neg (by decide), if_pos rfl]
    split
    · rfl
    · split
      · rfl
      · split <;> exact h6 _

/-- The result of an operation for two valid values. -/
theorem rresult_ok {op kind : Int} (hc : checkE op kind = 0) (a b : Vl) (ha : a.1 < 18446744073709551616) (hb : b.1 < 18446744073709551616) (va : validS kind [a] = true) (vb : validS kind [b] = true) :
    PureRun Try.prog 51 [.sc (.int .i64 op), .sc (.int .i64 kind), .agg (vrow a), .agg (vrow b)] (.agg (vrow (opR op kind a b))) := by
  refine PureRun.mkI cF51 (Nat.le_of_ble_eq_true rfl) ?_
  have hr : ¬ (op < 1 ∨ 11 < op ∨ kind < 1 ∨ 3 < kind) := fun h => by unfold checkE at hc; rw [if_pos h] at hc; cases hc
  have hn := check_op hc
  rw [opNil_iff (by omega) (by omega) (by omega) (by omega)] at hn
  have hk : kind = 1 ∨ kind = 2 ∨ kind = 3 := by omega
  rcases hk with rfl | rfl | rfl
  · have pa : a.2 = 0 := by simpa [validS] using va
    have pb : b.2 = 0 := by simpa [validS] using vb
    have h9 : op ≤ 9 := by simpa using hn
    have hi := rints_ok (op := op) (by omega) h9 ha hb
    rw [← vrow_zero pa, ← vrow_zero pb] at hi
    have hz := opR_place (op := op) (kind := 1) (by decide) pa pb (.inl rfl)
    generalize opR op 1 a b = r at *
    obtain ⟨r, z⟩ := r
    simp only at hz hi
    subst hz
    refine walkW ?_
    exact EndP.w
  · have pa : a.2 = 0 := by simpa [validS] using va
    have pb : b.2 = 0 := by simpa [validS] using vb
    have h134 : op = 1 ∨ op = 3 ∨ op = 4 := by simp at hn; omega
    have hi : PureRun Try.prog 94 [.sc (.int .i64 op), .sc (.int .u64 (a.1 : Int)), .sc (.int .u64 (b.1 : Int))] (.sc (.int .u64 ((opR op 2 a b).1 : Nat))) := by
      rcases h134 with rfl | h
      · exact rreals_sum ha hb
      · have := rreals_ok h ha hb
        rw [← vrow_zero pa, ← vrow_zero pb] at this
        exact this
    have hz := opR_place (op := op) (kind := 2) (by decide) pa pb (.inr rfl)
    generalize opR op 2 a b = r at *
    obtain ⟨r, z⟩ := r
    simp only at hz hi
    subst hz
    refine walkW ?_
    exact EndP.w
  · have h10 : op = 10 ∨ op = 11 := by simp at hn; omega
    have hi := rpairs_ok h10 a b
    generalize opR op 3 a b = r at *
    refine walkW ?_
    exact EndP.w

theorem rdo_ok (op kind : Int) (a b : Vl) (ha : a.1 < 18446744073709551616) (hb : b.1 < 18446744073709551616) :
    PureRun Try.prog 15 [.sc (.int .i64 op), .sc (.int .i64 kind), .agg (vrow a), .agg (vrow b)] (.tup [.agg (vrow (doS op kind a b).1), .sc (.int .i64 (doS op kind a b).2)]) := by
  refine PureRun.mkI cF15 (Nat.le_of_ble_eq_true rfl) ?_
  have hc := rcheck_ok op kind
  have va := rvalid_ok kind a
  have vb := rvalid_ok kind b
  unfold doS
  rw [validS_two]
  refine walkW ?_
  refine AWP.cond rfl (fun h => ?_) (fun h => ?_)
  · have h : checkE op kind ≠ 0 := by simpa using h
    rw [if_pos h]
    refine walkW ?_
    exact EndP.w
  have h : checkE op kind = 0 := by simpa using h
  rw [if_neg (by omega)]
  cases qa : validS kind [a] with
  | false =>
    rw [if_pos (by rw [Bool.false_and])]
    rw [qa] at va
    refine walkW ?_
    exact EndP.w
  | true =>
    rw [qa] at va
    cases qb : validS kind [b] with
    | false =>
      rw [if_pos (by rfl)]
      rw [qb] at vb
      refine walkW ?_
      exact EndP.w
    | true =>
      rw [if_neg (by simp)]
      rw [qb] at vb
      have hr := rresult_ok h a b ha hb qa qb
      generalize opR op kind a b = r at *
      refine walkW ?_
      exact EndP.w

end Go.Proofs.Ytnngbbiajioghaa
namespace Go.Proofs.Ytnngbbiajioghaa
open Go.Av Go.Proofs
set_option exponentiation.threshold 4000
set_option maxRecDepth 20000
theorem walkSuE1 {G G' : Prop} (h : G') (t : Boxed G' → G := by intro hw9; (repeat (first | refine se1 ?_ | refine se2 ?_ | refine su1 ?_ | refine su2 ?_ | refine su3 ?_ | refine su4 ?_ | refine su5 ?_ | refine su6 ?_ | refine su7 ?_ | refine su8 ?_ | refine su9 ?_ | refine sd1 ?_ | refine sd2 ?_ | refine sd3 ?_ | refine sd4 ?_ | refine sd5 ?_ | refine sd6 ?_ | refine sd7 ?_ | refine sd8 ?_ | refine sd9 ?_ | (first | refine wr13 ?_ | refine wd13 ?_ | refine wr14 ?_ | refine wv1 ?_ | refine wv2 ?_ | refine wv3 ?_ | refine wv4 ?_ | refine wv5 ?_ | refine wv6 ?_ | refine wv7 ?_ | refine wv8 ?_ | refine wv9 ?_ | refine wv10 ?_ | refine wr1 ?_ | refine wr2 ?_ | refine wr3 ?_ | refine wr4 ?_ | refine Reg.nil ?_ | refine wd1 ?_ | refine wd2 ?_ | refine wd3 ?_ | refine wd4 ?_ | refine AWP.seq ?_ | refine AWP.region ?_ | refine AWP.dk mixed ?_ | refine AWP.condT rfl ?_ | refine AWP.condF rfl ?_ | refine AWP.skip ?_ | refine AWP.ret ?_ | refine AWP.exit ?_ | refine AWP.block ?_ | refine wr5 ?_ | refine wr6 ?_ | refine wr7 ?_ | refine wr8 ?_ | refine wr9 ?_ | refine wr10 ?_ | refine wd5 ?_ | refine wd6 ?_ | refine wd7 ?_ | refine wd8 ?_ | refine wd9 ?_ | refine wd10 ?_ | refine wr11 ?_ | refine wr12 ?_ | refine wd11 ?_ | refine wd12 ?_ ))); exact hw9.out) : G := t ⟨h⟩

/-! A sum's bytes. -/

theorem nb_add8 {a b : Nat} (h : a + b < 256) : NBin .add .u8 .u8 a b (.int .u8 ((a + b : Nat) : Int)) := .mk fun t => by
  show some (Value.int .u8 (IntKind.u8.wrap ((a : Int) + (b : Int)))) = _
  rw [show (a : Int) + (b : Int) = ((a + b : Nat) : Int) by omega, wrapB, Nat.mod_eq_of_lt h]
theorem nb_mul8 {a b : Nat} (h : a * b < 256) : NBin .mul .u8 .u8 a b (.int .u8 ((a * b : Nat) : Int)) := .mk fun t => by
  show some (Value.int .u8 (IntKind.u8.wrap ((a : Int) * (b : Int)))) = _
  rw [show (a : Int) * (b : Int) = ((a * b : Nat) : Int) by rw [Int.natCast_mul], wrapB, Nat.mod_eq_of_lt h]
section
variable {P : Program} {base j : Nat} {xs : List IOper} {fr : Fr} {H : Heap} {acc : List RRec} {KD : List RRec → Fr → Heap → Prop} {d : Nat} {gd : Option (Nat × Bool)}
theorem se1 {t : TypeId} {x y : Operand} {a b : Nat}
    (h : DK P base (j + 1) xs ((d, .sc (.int .u8 ((a + b : Nat) : Int))) :: fr) H (⟨⟨some d, gd, .op (.bin .add t x y)⟩, (base, j), .sc (.int .u8 ((a + b : Nat) : Int)), drd fr (.bin .add t x y), dwr base j fr (.bin .add t x y)⟩ :: acc) KD) (hg : gok fr gd = some true := by rfl) {na nb : Int} (hx : ev fr x = .sc (.int .u8 na) := by rfl)
    (hy : ev fr y = .sc (.int .u8 nb) := by rfl) (ha : na = (a : Int) := by first | with_reducible rfl | exact natlit _) (hb : nb = (b : Int) := by first | with_reducible rfl | exact natlit _) (hs : a + b < 256 := by first | with_reducible assumption | omega) :
    DK P base j (⟨some d, gd, .op (.bin .add t x y)⟩ :: xs) fr H acc KD := .o hg (dstep_nb (by rw [hx, ha]) (by rw [hy, hb]) (nb_add8 hs)) h
theorem se2 {t : TypeId} {x y : Operand} {a b : Nat}
    (h : DK P base (j + 1) xs ((d, .sc (.int .u8 ((a * b : Nat) : Int))) :: fr) H (⟨⟨some d, gd, .op (.bin .mul t x y)⟩, (base, j), .sc (.int .u8 ((a * b : Nat) : Int)), drd fr (.bin .mul t x y), dwr base j fr (.bin .mul t x y)⟩ :: acc) KD) (hg : gok fr gd = some true := by rfl) {na nb : Int} (hx : ev fr x = .sc (.int .u8 na) := by rfl)
    (hy : ev fr y = .sc (.int .u8 nb) := by rfl) (ha : na = (a : Int) := by first | with_reducible rfl | exact natlit _) (hb : nb = (b : Int) := by first | with_reducible rfl | exact natlit _) (hs : a * b < 256 := by first | with_reducible assumption | omega) :
    DK P base j (⟨some d, gd, .op (.bin .mul t x y)⟩ :: xs) fr H acc KD := .o hg (dstep_nb (by rw [hx, ha]) (by rw [hy, hb]) (nb_mul8 hs)) h
end

def flg (b : Bool) (w : Nat) : Nat := if b = true then w else 0
theorem flg_le (b : Bool) (w : Nat) : flg b w ≤ w := by unfold flg; split <;> omega
theorem flag_ok (b : Bool) (w : Nat) : PureRun Try.prog 61 [.sc (.bool b), .sc (.int .u8 (w : Int))] (.sc (.int .u8 (flg b w : Int))) := by
  refine PureRun.mkI cF61 (Nat.le_of_ble_eq_true rfl) ?_
  cases b
  · rw [show flg false w = 0 from rfl]
    refine walkX ?_
    exact EndP.w
  · rw [show flg true w = w from rfl]
    refine walkX ?_
    exact EndP.w

theorem wd_dg (N q : Nat) : wd N (q / 8) / 2 ^ (8 * (q % 8)) % 256 = dg N q := by
  unfold wd dg
  rw [pow256]
  obtain ⟨r, hr, hq⟩ : ∃ r, r < 8 ∧ q = 8 * (q / 8) + r := ⟨q % 8, Nat.mod_lt _ (by decide), by omega⟩
  rw [show q % 8 = r by omega]
  have e1 : (2 : Nat) ^ 64 = 2 ^ (8 * r + (64 - 8 * r)) := by congr 1; omega
  rw [e1, mod_div_pow, div_pow_pow, show 64 * (q / 8) + 8 * r = 8 * q by omega, show 64 - 8 * r = 8 + (56 - 8 * r) by omega, Nat.pow_add, show (256 : Nat) = 2 ^ 8 from rfl, Nat.mod_mul_right_mod]

instance (l : List (List AV)) (k : Nat) [PRs l] : PRs (l.take k) := ⟨fun r hr => prs l r (List.mem_of_mem_take hr)⟩
/-- The first byte. -/
def flags (s : St) : Nat := flg s.nan 1 + flg s.plus 2 + flg s.minus 4 + 8 * s.zero
def encR (s : St) : List (List AV) := [u8c (flags s)] :: [u8c (flg (decide (2 ^ 2303 ≤ s.n)) 1)] :: bR (nb (absN s.n)) (absN s.n)
def encV (s : St) : AV := .list 1 (encR s)
instance (s : St) : PRs (encR s) := ⟨fun r hr => by
  rcases List.mem_cons.1 hr with rfl | hr
  · exact pr _
  · rcases List.mem_cons.1 hr with rfl | hr
    · exact pr _
    · exact prs _ r hr⟩
instance (s : St) : PV (encV s) := ⟨.list _ _ (prs _)⟩

set_option maxHeartbeats 4000000 in
theorem encode_ok (s : St) (hs : s.n < 2 ^ 2304) (hz : s.zero ≤ 2) : CallOK Try.prog 23 [.ptr 0 0 0 0] [[.cells 41 [s.acc true]]] fun res H' => res = .tup [encV s, .sc (.int .i64 0)] ∧ H' = [[.cells 41 [s.acc true]]] := by
  refine CallOK.of cF23 ?_ (Nat.le_of_ble_eq_true rfl)
  have hb := below_ok hs
  have hsz := size_ok hs
  have hl := length_ok (absN_lt hs)
  have hbl := blen_le (absN_lt hs)
  have f1 := flag_ok s.nan 1
  have f2 := flag_ok s.plus 2
  have f3 := flag_ok s.minus 4
  have f4 := flag_ok (decide (2 ^ 2303 ≤ s.n)) 1
  have l1 := flg_le s.nan 1
  have l2 := flg_le s.plus 2
  have l3 := flg_le s.minus 4
  have hR : encV s = .list 1 ([u8c (flg s.nan 1 + flg s.plus 2 + flg s.minus 4 + 8 * s.zero)] :: [u8c (flg (decide (2 ^ 2303 ≤ s.n)) 1)] :: bR (nb (absN s.n)) (absN s.n)) := rfl
  rw [hR]
  clear hR
  have hnb : nb (absN s.n) = (blen (absN s.n) + 7) / 8 := rfl
  generalize decide (2 ^ 2303 ≤ s.n) = neg at *
  generalize absN s.n = N at *
  generalize flg s.nan 1 = g1 at *
  generalize flg s.plus 2 = g2 at *
  generalize flg s.minus 4 = g3 at *
  generalize flg neg 1 = g4 at *
  clear hs
  refine walkSuE1 ?_
  refine Reg.c (Nat.le_refl _) rfl ((look_at (a := s) (m := true) rfl (valid_ok true s)).mono ?_)
  rintro res H' ⟨rfl, rfl⟩
  refine walkSuE1 ?_
  refine DK.nil ⟨by kernel_rfl, ?_⟩
  refine walkSuE1 ?_
  rw [← hnb]
  have hn288 : nb N ≤ 288 := by omega
  have hlt := lt_nb N
  generalize nb N = n at *
  have h36 := ws_len 36 (wd N)
  refine walkSuE1 ?_
  refine AWP.loop (fun i : Nat => [(0, .ptr 0 0 0 0), (4, .hsl 1 0 0 (2 + (n - i))), (5, .ptr 2 0 0 0), (6, .sc (.int .i64 (i : Int)))])
    (fun i => [[.cells 41 [s.acc true]], [.cells 1 ([u8c (g1 + g2 + g3 + 8 * s.zero)] :: [u8c g4] :: (bR n N).take (n - i))], [.cells 36 [ws 36 (wd N)]]]) (fun i => i ≤ n) (fun i => i) n (Nat.le_refl _) ?_ ?_
  · rw [Nat.sub_self]
    exact Sub.w [] [[(0,0)],[(1,35)],[(2,0)]]
  intro i hi
  have e1 := bR_len n N
  have e2 : ([u8c (g1 + g2 + g3 + 8 * s.zero)] :: [u8c g4] :: (bR n N).take (n - i)).length = 2 + (n - i) := by
    simp only [List.length_cons, List.length_take, e1]
    omega
  refine walkSuE1 ?_
  refine AWP.condD rfl (fun h => ?_) (fun h => ?_)
  · obtain ⟨q, rfl⟩ : ∃ q, i = q + 1 := ⟨i - 1, by omega⟩
    have hq : q / 8 < 36 := by omega
    have hw := ws_get (f := wd N) hq
    have hwl := wd_lt' N (q / 8)
    have hd := wd_dg N q
    have hnext : (bR n N).take (n - q) = (bR n N).take (n - (q + 1)) ++ [[u8c (dg N q)]] := by
      have h1 : n - (q + 1) < (bR n N).length := by omega
      rw [show n - q = n - (q + 1) + 1 by omega, List.take_succ_eq_append_getElem h1]
      congr 2
      have := bR_get (n := n) (N := N) (i := n - (q + 1)) (by omega)
      rw [List.getElem?_eq_getElem h1] at this
      injection this with this
      rw [this, show n - 1 - (n - (q + 1)) = q by omega]
    rw [← hd] at hnext
    refine walkSuE1 ?_
    refine ⟨q, by omega, by omega, ?_⟩
    rw [hnext, show 2 + (n - q) = 2 + (n - (q + 1)) + 1 by omega]
    exact Sub.w [] [[(0,0)],[(4,0)],[(2,0)]]
  · have hi0 : i = 0 := by omega
    subst hi0
    rw [Nat.sub_zero, List.take_of_length_le (by omega)] at e2 ⊢
    refine walkSuE1 ?_
    (refine endH [[(0,0)]] (by first | exact .inr rfl | exact .inl rfl) rfl ⟨rfl, rfl⟩ ?_ ?_ rfl rfl rfl; all_goals (repeat' (first | exact ToAll.nil | exact famsTo.nil | exact famTo.nil | exact ToL.nil | exact ToR.nil | refine ToAll.cons ?_ ?_ | refine famsTo.cons ?_ ?_ | refine wt10 ?_ ?_ | exact To.undef _ | exact To.sc _ | exact To.hslL rfl rfl | exact To.ptrO rfl rfl rfl | exact To.mrefO rfl | exact To.nil rfl rfl rfl | exact wt1 | exact To.nilL | refine To.int ?_ | refine To.bool ?_ | refine To.hslL rfl ?_ | refine wt2 rfl ?_ ?_ ?_ | refine To.tupL ?_ | refine To.aggL ?_ | refine To.cptrL ?_ | refine wt3 ?_ | refine wt4 ?_ | refine To.cloL ?_ ?_ | exact wt5 | refine wt6 ?_ | refine ToB.one ?_ | exact wt7 | ((with_reducible apply ToL.consE); case e9 => rfl) | refine wt8 ?_ | refine ToL.cons ?_ ?_ | exact wt11 | refine wt9 ?_ ?_ | refine wt12 ?_ | (with_reducible rfl) | assumption)); all_goals (first | rfl | assumption | (simp; done) | (simp; omega) | (rw [wrap_small (by omega) (by omega)]; done) | (rw [wrap_small (by omega) (by omega)]; omega) | (refine congrArg Nat.cast ?_; assumption) | skip))

end Go.Proofs.Ytnngbbiajioghaa
namespace Go.Proofs.Ytnngbbiajioghaa
open Go.Av Go.Proofs
set_option exponentiation.threshold 4000
set_option maxRecDepth 20000

/-! Any bytes are those of a number. -/
def valB (l : List Nat) : Nat := l.foldl (fun a b => 256 * a + b) 0
def bytR (l : List Nat) : List (List AV) := l.map fun b => [u8c b]
theorem bytR_len (l : List Nat) : (bytR l).length = l.length := by simp [bytR]
instance (l : List Nat) : PRs (bytR l) := ⟨fun r hr => by
  obtain ⟨a, _, rfl⟩ := List.mem_map.1 hr
  exact pr [u8c a]⟩

theorem bR_snoc (n N b : Nat) (hb : b < 256) : bR (n + 1) (256 * N + b) = bR n N ++ [[u8c b]] := by
  apply List.ext_getElem?
  intro i
  rw [List.getElem?_append, bR_len]
  by_cases h : i < n
  · rw [if_pos h, bR_get h, bR_get (by omega)]
    congr 3
    unfold dg
    rw [show n + 1 - 1 - i = (n - 1 - i) + 1 by omega, Nat.pow_succ, Nat.mul_comm (256 ^ _) 256, ← Nat.div_div_eq_div_mul, show (256 * N + b) / 256 = N by omega]
  · rw [if_neg h]
    by_cases h2 : i = n
    · subst h2
      rw [bR_get (by omega), Nat.sub_self]
      simp only [List.getElem?_cons_zero]
      congr 3
      unfold dg
      rw [show i + 1 - 1 - i = 0 by omega, Nat.pow_zero, Nat.div_one]
      omega
    · rw [List.getElem?_eq_none (by rw [bR_len]; omega), List.getElem?_eq_none (by simp; omega)]

theorem valB_spec (l : List Nat) (h : ∀ b ∈ l, b < 256) : bytR l = bR l.length (valB l) ∧ valB l < 256 ^ l.length := by
  suffices ∀ (l : List Nat), (∀ b ∈ l, b < 256) → ∀ (n N : Nat), N < 256 ^ n → bR n N ++ bytR l = bR (n + l.length) (l.foldl (fun a b => 256 * a + b) N) ∧ l.foldl (fun a b => 256 * a + b) N < 256 ^ (n + l.length) by
    have := this l h 0 0 (by decide)
    rw [Nat.zero_add] at this
    exact this
  intro l
  induction l with
  | nil => exact fun _ n N hN => ⟨by simp [bytR], by simpa using hN⟩
  | cons b l ih =>
    intro h n N hN
    have hb := h b (List.mem_cons_self ..)
    have hN2 : 256 * N + b < 256 ^ (n + 1) := by rw [Nat.pow_succ]; omega
    have := ih (fun c hc => h c (List.mem_cons_of_mem _ hc)) (n + 1) (256 * N + b) hN2
    rw [bR_snoc n N b hb, List.append_assoc] at this
    rw [List.length_cons, show n + (l.length + 1) = n + 1 + l.length by omega]
    exact this

theorem mod_succ' (X i : Nat) : X % 256 ^ (i + 1) = X % 256 ^ i + 256 ^ i * dg X i := by
  rw [Nat.pow_succ, Nat.mod_mul]
  rfl
theorem dg_inj {m A B : Nat} (hA : A < 256 ^ m) (hB : B < 256 ^ m) (h : ∀ i, i < m → dg A i = dg B i) : A = B := by
  induction m generalizing A B with
  | zero => simp at hA hB; omega
  | succ m ih =>
    have h0 := h 0 (by omega)
    have h1 : A / 256 = B / 256 := ih (by rw [Nat.pow_succ] at hA; omega) (by rw [Nat.pow_succ] at hB; omega) fun i hi => by
      have := h (i + 1) (by omega)
      unfold dg at this ⊢
      rw [Nat.pow_succ, Nat.mul_comm (256 ^ i) 256, ← Nat.div_div_eq_div_mul, ← Nat.div_div_eq_div_mul] at this
      exact this
    unfold dg at h0
    rw [Nat.pow_zero, Nat.div_one, Nat.div_one] at h0
    omega

def byV (l : List Nat) : AV := .list 1 (bytR l)
instance (l : List Nat) : PV (byV l) := ⟨.list _ _ (prs _)⟩
theorem bytR_ix (l : List Nat) (k : Nat) (h : k < l.length) : rowIx (bytR l) (k : Int) = some [u8c l[k]] := rowIx_map (fun b => [u8c b]) l k h

theorem equal_ok (l m : List Nat) (hm : m.length ≤ 1000000) : PureRun Try.prog 59 [byV l, byV m] (.sc (.bool (decide (l = m)))) := by
  refine PureRun.mkI cF59 (Nat.le_of_ble_eq_true rfl) ?_
  have e1 := bytR_len l
  have e2 := bytR_len m
  unfold byV
  refine walkX ?_
  rw [e1, e2]
  refine AWP.condDn rfl (fun h => ?_) (fun h => ?_)
  · rw [decide_eq_false (fun e => h (by rw [e]))]
    refine walkX ?_
    exact EndP.w
  refine walkX ?_
  rw [e1]
  refine AWP.loop (fun i : Nat => [(0, .list 1 (bytR l)), (1, .list 1 (bytR m)), (12, .sc (.int .i64 (l.length : Int))), (13, .sc (.int .i64 (i : Int)))]) (fun _ => []) (fun i => i ≤ l.length ∧ l.take i = m.take i) (fun i => l.length - i) 0 ⟨Nat.zero_le _, rfl⟩ ?_ ?_
  · exact Sub.w [] []
  rintro i ⟨hi, hli⟩
  refine walkX ?_
  refine AWP.condD rfl (fun h1 => ?_) (fun h1 => ?_)
  · have r1 := bytR_ix l i h1
    have r2 := bytR_ix m i (by omega)
    have t1 : l.take (i + 1) = l.take i ++ [l[i]] := List.take_succ_eq_append_getElem h1
    have t2 : m.take (i + 1) = m.take i ++ [m[i]] := List.take_succ_eq_append_getElem (by omega)
    have hne : l[i] ≠ m[i] → l ≠ m := fun q e => q (by subst e; rfl)
    generalize l[i] = x at *
    generalize m[i] = y at *
    unfold u8c at r1 r2
    refine walkX ?_
    refine DK.nil ⟨by kernel_rfl, ?_⟩
    refine walkX ?_
    refine AWP.condDn rfl (fun h2 => ?_) (fun h2 => ?_)
    · rw [decide_eq_false (hne h2)]
      refine walkX ?_
      exact EndP.w
    · refine walkX ?_
      refine ⟨i + 1, ⟨by omega, by rw [t1, t2, hli, h2]⟩, by omega, ?_⟩
      exact Sub.w [] []
  · have e : l = m := by
      rw [List.take_of_length_le (by omega), List.take_of_length_le (by omega)] at hli
      exact hli
    rw [decide_eq_true e]
    refine walkX ?_
    exact EndP.w

theorem wd_dg' (V j : Nat) : wd (V % 256 ^ (j + 1)) (j / 8) = wd (V % 256 ^ j) (j / 8) ||| (dg V j * 2 ^ (8 * (j % 8)) % 18446744073709551616) := by
  have hd := dg_lt V j
  have hw := wd_lt' V (j / 8)
  have hdg := wd_dg V j
  have hr : 8 * (j % 8) ≤ 56 := by omega
  have h2r : 0 < 2 ^ (8 * (j % 8)) := Nat.pow_pos (by decide)
  have e1 : wd (V % 256 ^ j) (j / 8) = wd V (j / 8) % 2 ^ (8 * (j % 8)) := by
    rw [pow256, wd_mod, if_neg (by omega), if_pos (by omega), show 8 * j % 64 = 8 * (j % 8) by omega]
  have e2 : wd (V % 256 ^ (j + 1)) (j / 8) = wd V (j / 8) % 2 ^ (8 * (j % 8) + 8) := by
    rw [pow256, wd_mod]
    by_cases h7 : j % 8 = 7
    · rw [if_pos (by omega), h7]
      exact (Nat.mod_eq_of_lt hw).symm
    · rw [if_neg (by omega), if_pos (by omega), show 8 * (j + 1) % 64 = 8 * (j % 8) + 8 by omega]
  have e3 : dg V j * 2 ^ (8 * (j % 8)) % 18446744073709551616 = 2 ^ (8 * (j % 8)) * dg V j := by
    rw [Nat.mul_comm]
    refine Nat.mod_eq_of_lt ?_
    have h1 : 2 ^ (8 * (j % 8)) * dg V j < 2 ^ (8 * (j % 8)) * 256 := (Nat.mul_lt_mul_left h2r).2 hd
    have h2 : (2 : Nat) ^ (8 * (j % 8)) * 256 ≤ 18446744073709551616 := by
      rw [show (256 : Nat) = 2 ^ 8 from rfl, ← Nat.pow_add]
      exact Nat.pow_le_pow_right (n := 2) (j := 64) (by decide) (by omega)
    omega
  rw [e1, e2, e3, Nat.pow_add, Nat.mod_mul, show (2 : Nat) ^ 8 = 256 from rfl, hdg, Nat.or_comm, ← Nat.two_pow_add_eq_or_of_lt (Nat.mod_lt _ h2r), Nat.add_comm]

/-- The bytes of a sum, as numbers. -/
def digs (m V : Nat) : List Nat := (List.range m).map fun i => dg V (m - 1 - i)
theorem digs_R (m V : Nat) : bytR (digs m V) = bR m V := by
  unfold bytR digs bR row1
  rw [List.map_map]
  rfl
theorem encV_by (s : St) : encV s = byV (flags s :: flg (decide (2 ^ 2303 ≤ s.n)) 1 :: digs (nb (absN s.n)) (absN s.n)) := by
  unfold encV encR byV
  rw [← digs_R]
  rfl

end Go.Proofs.Ytnngbbiajioghaa
namespace Go.Proofs.Ytnngbbiajioghaa
open Go.Av Go.Proofs
set_option exponentiation.threshold 4000
set_option maxRecDepth 20000
theorem walkSuE3 {G G' : Prop} (h : G') (t : Boxed G' → G := by intro hw9; (repeat (first | refine se1 ?_ | refine se2 ?_ | refine se3 ?_ | refine se4 ?_ | refine su1 ?_ | refine su2 ?_ | refine su3 ?_ | refine su4 ?_ | refine su5 ?_ | refine su6 ?_ | refine su7 ?_ | refine su8 ?_ | refine su9 ?_ | refine sd1 ?_ | refine sd2 ?_ | refine sd3 ?_ | refine sd4 ?_ | refine sd5 ?_ | refine sd6 ?_ | refine sd7 ?_ | refine sd8 ?_ | refine sd9 ?_ | (first | refine wr13 ?_ | refine wd13 ?_ | refine wr14 ?_ | refine wv1 ?_ | refine wv2 ?_ | refine wv3 ?_ | refine wv4 ?_ | refine wv5 ?_ | refine wv6 ?_ | refine wv7 ?_ | refine wv8 ?_ | refine wv9 ?_ | refine wv10 ?_ | refine wr1 ?_ | refine wr2 ?_ | refine wr3 ?_ | refine wr4 ?_ | refine Reg.nil ?_ | refine wd1 ?_ | refine wd2 ?_ | refine wd3 ?_ | refine wd4 ?_ | refine AWP.seq ?_ | refine AWP.region ?_ | refine AWP.dk mixed ?_ | refine AWP.condT rfl ?_ | refine AWP.condF rfl ?_ | refine AWP.skip ?_ | refine AWP.ret ?_ | refine AWP.exit ?_ | refine AWP.block ?_ | refine wr5 ?_ | refine wr6 ?_ | refine wr7 ?_ | refine wr8 ?_ | refine wr9 ?_ | refine wr10 ?_ | refine wd5 ?_ | refine wd6 ?_ | refine wd7 ?_ | refine wd8 ?_ | refine wd9 ?_ | refine wd10 ?_ | refine wr11 ?_ | refine wr12 ?_ | refine wd11 ?_ | refine wd12 ?_ ))); exact hw9.out) : G := t ⟨h⟩

/-! A sum out of bytes. -/

theorem ofInt8 {n : Nat} (h : n < 256) : (BitVec.ofInt 8 (n : Int)).toNat = n := by
  rw [BitVec.toNat_ofInt]
  omega
theorem nb_and8 {a b : Nat} (ha : a < 256) (hb : b < 256) : NBin .and .u8 .u8 a b (.int .u8 ((a &&& b : Nat) : Int)) := .mk fun t => by
  show some (Value.int .u8 (IntKind.u8.wrap ((BitVec.ofInt 8 (a : Int) &&& BitVec.ofInt 8 (b : Int)).toNat : Int))) = _
  rw [BitVec.toNat_and, ofInt8 ha, ofInt8 hb, wrapB, Nat.mod_eq_of_lt (Nat.lt_of_le_of_lt Nat.and_le_left ha)]
theorem nb_shr8 {k' : IntKind} {a b : Nat} (ha : a < 256) : NBin .shr .u8 k' a b (.int .u8 ((a / 2 ^ b : Nat) : Int)) := .mk fun t => by
  show Sem.pure? (Op.shift .shr .u8 (a : Int) k' (b : Int)) = _
  unfold Op.shift
  rw [if_neg (by omega)]
  show some (Value.int .u8 ((a : Int).fdiv (2 ^ min ((b : Int).toNat) 8))) = _
  rw [Int.toNat_natCast, show (2 : Int) ^ min b 8 = ((2 ^ min b 8 : Nat) : Int) by rw [Int.natCast_pow]; rfl, Int.fdiv_eq_ediv_of_nonneg _ (Int.natCast_nonneg _), ← Int.natCast_ediv]
  congr 3
  rcases Nat.le_total b 8 with h | h
  · rw [Nat.min_eq_left h]
  · rw [Nat.min_eq_right h, Nat.div_eq_of_lt ha, Nat.div_eq_of_lt]
    exact Nat.lt_of_lt_of_le ha (Nat.pow_le_pow_right (n := 2) (j := b) (i := 8) (by decide) h)
section
variable {P : Program} {base j : Nat} {xs : List IOper} {fr : Fr} {H : Heap} {acc : List RRec} {KD : List RRec → Fr → Heap → Prop} {d : Nat} {gd : Option (Nat × Bool)}
theorem se3 {t : TypeId} {x y : Operand} {a b : Nat}
    (h : DK P base (j + 1) xs ((d, .sc (.int .u8 ((a &&& b : Nat) : Int))) :: fr) H (⟨⟨some d, gd, .op (.bin .and t x y)⟩, (base, j), .sc (.int .u8 ((a &&& b : Nat) : Int)), drd fr (.bin .and t x y), dwr base j fr (.bin .and t x y)⟩ :: acc) KD) (hg : gok fr gd = some true := by rfl) {na nb : Int} (hx : ev fr x = .sc (.int .u8 na) := by rfl)
    (hy : ev fr y = .sc (.int .u8 nb) := by rfl) (ha : na = (a : Int) := by first | with_reducible rfl | exact natlit _) (hb : nb = (b : Int) := by first | with_reducible rfl | exact natlit _) (h1 : a < 256 := by first | with_reducible assumption | omega) (h2 : b < 256 := by first | with_reducible assumption | omega) :
    DK P base j (⟨some d, gd, .op (.bin .and t x y)⟩ :: xs) fr H acc KD := .o hg (dstep_nb (by rw [hx, ha]) (by rw [hy, hb]) (nb_and8 h1 h2)) h
theorem se4 {t : TypeId} {x y : Operand} {a b : Nat} {kk : IntKind}
    (h : DK P base (j + 1) xs ((d, .sc (.int .u8 ((a / 2 ^ b : Nat) : Int))) :: fr) H (⟨⟨some d, gd, .op (.bin .shr t x y)⟩, (base, j), .sc (.int .u8 ((a / 2 ^ b : Nat) : Int)), drd fr (.bin .shr t x y), dwr base j fr (.bin .shr t x y)⟩ :: acc) KD) (hg : gok fr gd = some true := by rfl) {na nb : Int} (hx : ev fr x = .sc (.int .u8 na) := by rfl)
    (hy : ev fr y = .sc (.int kk nb) := by rfl) (ha : na = (a : Int) := by first | with_reducible rfl | exact natlit _) (hb : nb = (b : Int) := by first | with_reducible rfl | exact natlit _) (h1 : a < 256 := by first | with_reducible assumption | omega) :
    DK P base j (⟨some d, gd, .op (.bin .shr t x y)⟩ :: xs) fr H acc KD := .o hg (dstep_nb (by rw [hx, ha]) (by rw [hy, hb]) (nb_shr8 h1)) h
end

/-- The first byte's flags. -/
def decF (b0 : Nat) (n : Nat) : St := ⟨n, !decide (b0 &&& 1 = 0), !decide (b0 &&& 2 = 0), !decide (b0 &&& 4 = 0), b0 / 2 ^ 3⟩

theorem dec_short (l : List Nat) (hl : 282 < l.length ∨ l.length < 2) : CallOK Try.prog 21 [byV l] [] fun res H' => res = .tup [.sc (.pointer none), .sc (.int .i64 (if 282 < l.length then 8 else 7))] ∧ H' = [] := by
  refine CallOK.of cF21 ?_ (Nat.le_of_ble_eq_true rfl)
  have e1 := bytR_len l
  refine walkSuE3 ?_
  rw [e1]
  by_cases h : 282 < l.length
  · rw [if_pos h]
    refine AWP.condD rfl (fun _ => ?_) (fun h2 => absurd h h2)
    refine walkSuE3 ?_
    (refine endH [] (by first | exact .inr rfl | exact .inl rfl) rfl ⟨rfl, rfl⟩ ?_ ?_ rfl rfl rfl; all_goals (repeat' (first | exact ToAll.nil | exact famsTo.nil | exact famTo.nil | exact ToL.nil | exact ToR.nil | refine ToAll.cons ?_ ?_ | refine famsTo.cons ?_ ?_ | refine wt10 ?_ ?_ | exact To.undef _ | exact To.sc _ | exact To.hslL rfl rfl | exact To.ptrO rfl rfl rfl | exact To.mrefO rfl | exact To.nil rfl rfl rfl | exact wt1 | exact To.nilL | refine To.int ?_ | refine To.bool ?_ | refine To.hslL rfl ?_ | refine wt2 rfl ?_ ?_ ?_ | refine To.tupL ?_ | refine To.aggL ?_ | refine To.cptrL ?_ | refine wt3 ?_ | refine wt4 ?_ | refine To.cloL ?_ ?_ | exact wt5 | refine wt6 ?_ | refine ToB.one ?_ | exact wt7 | ((with_reducible apply ToL.consE); case e9 => rfl) | refine wt8 ?_ | refine ToL.cons ?_ ?_ | exact wt11 | refine wt9 ?_ ?_ | refine wt12 ?_ | (with_reducible rfl) | assumption)); all_goals (first | rfl | assumption | (simp; done) | (simp; omega) | (rw [wrap_small (by omega) (by omega)]; done) | (rw [wrap_small (by omega) (by omega)]; omega) | (refine congrArg Nat.cast ?_; assumption) | skip))
  · rw [if_neg h]
    refine AWP.condD rfl (fun h2 => absurd h2 h) (fun _ => ?_)
    refine walkSuE3 ?_
    rw [e1]
    refine AWP.condD rfl (fun _ => ?_) (fun h2 => absurd h2 (by omega))
    refine walkSuE3 ?_
    (refine endH [] (by first | exact .inr rfl | exact .inl rfl) rfl ⟨rfl, rfl⟩ ?_ ?_ rfl rfl rfl; all_goals (repeat' (first | exact ToAll.nil | exact famsTo.nil | exact famTo.nil | exact ToL.nil | exact ToR.nil | refine ToAll.cons ?_ ?_ | refine famsTo.cons ?_ ?_ | refine wt10 ?_ ?_ | exact To.undef _ | exact To.sc _ | exact To.hslL rfl rfl | exact To.ptrO rfl rfl rfl | exact To.mrefO rfl | exact To.nil rfl rfl rfl | exact wt1 | exact To.nilL | refine To.int ?_ | refine To.bool ?_ | refine To.hslL rfl ?_ | refine wt2 rfl ?_ ?_ ?_ | refine To.tupL ?_ | refine To.aggL ?_ | refine To.cptrL ?_ | refine wt3 ?_ | refine wt4 ?_ | refine To.cloL ?_ ?_ | exact wt5 | refine wt6 ?_ | refine ToB.one ?_ | exact wt7 | ((with_reducible apply ToL.consE); case e9 => rfl) | refine wt8 ?_ | refine ToL.cons ?_ ?_ | exact wt11 | refine wt9 ?_ ?_ | refine wt12 ?_ | (with_reducible rfl) | assumption)); all_goals (first | rfl | assumption | (simp; done) | (simp; omega) | (rw [wrap_small (by omega) (by omega)]; done) | (rw [wrap_small (by omega) (by omega)]; omega) | (refine congrArg Nat.cast ?_; assumption) | skip))

theorem acc_get {m : Bool} {s : St} {q : Nat} (h : q < 36) : (s.acc m)[1 + q]? = some (.sc (.int .u64 (wd s.n q : Nat))) := by
  rw [Nat.add_comm]
  show (s.row)[q]? = _
  unfold St.row
  rw [List.getElem?_append_left (by rw [ws_len]; exact h), ws_get h]
theorem acc_set {m : Bool} {s : St} {q v : Nat} (N : Nat) (h : q < 36) (hN : ∀ i, i < 36 → wd N i = if i = q then v else wd s.n i) : (s.acc m).set (1 + q) (.sc (.int .u64 (v : Int))) = St.acc m ⟨N, s.nan, s.plus, s.minus, s.zero⟩ := by
  rw [Nat.add_comm]
  show AV.sc (.bool m) :: (s.row).set q _ = _
  unfold St.row
  rw [List.set_append_left _ _ (by rw [ws_len]; exact h), ws_set]
  show _ = AV.sc (.bool m) :: (ws 36 (wd N) ++ _)
  rw [ws_congr (n := 36) (g := wd N) fun i hi => (hN i hi).symm]
  rfl
theorem wd_step {V j i : Nat} : wd (V % 256 ^ (j + 1)) i = if i = j / 8 then wd (V % 256 ^ j) (j / 8) ||| (dg V j * 2 ^ (8 * (j % 8)) % 18446744073709551616) else wd (V % 256 ^ j) i := by
  by_cases h : i = j / 8
  · rw [if_pos h, h, wd_dg']
  · rw [if_neg h, pow256, pow256, wd_mod, wd_mod]
    by_cases h2 : i < j / 8
    · rw [if_pos (by omega), if_pos (by omega)]
    · have e2 : ¬ i < 8 * j / 64 := by omega
      have e3 : ¬ i = 8 * j / 64 := by omega
      have e4 : ¬ i < 8 * (j + 1) / 64 := by omega
      rw [if_neg e2, if_neg e3, if_neg e4]
      by_cases h5 : i = 8 * (j + 1) / 64
      · rw [if_pos h5, show 8 * (j + 1) % 64 = 0 by omega, Nat.pow_zero, Nat.mod_one]
      · rw [if_neg h5]

def okD (b0 b1 m V : Nat) : Bool := decide (b0 / 8 ≤ 2) && (decide (b0 / 8 = 2) || (decide (V = 0) && decide (b0 % 8 = 0))) && (decide (b1 = 0) || (decide (b1 = 1) && decide (0 < V))) && decide (nb V = m)
def decN (b1 V : Nat) : Nat := if b1 = 1 then (2 ^ 2304 - V) % 2 ^ 2304 else V

end Go.Proofs.Ytnngbbiajioghaa
