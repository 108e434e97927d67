import Derived.Test.YtnngbbiajioghaaGSuF3
import Derived.Test.YtnngbbiajioghaaGSuC
import GoSem.Core.Float
namespace Go.Proofs.Ytnngbbiajioghaa
open Go.Av Go.Proofs
set_option exponentiation.threshold 4000
set_option maxRecDepth 20000

/-! One number; the order of numbers. -/
theorem round_exact {m k : Nat} (h1 : 4503599627370496 ≤ m) (h2 : m < 9007199254740992) (hk : k ≤ 2045) : roundN (m * 2 ^ k) = min infN (k * expN + m) := by
  have hm : m ≠ 0 := by omega
  have hl := log2_shl hm k
  have hl2 : m.log2 = 52 := (Nat.log2_eq_iff hm).2 ⟨h1, h2⟩
  have h0 : 0 < 2 ^ k := Nat.pow_pos (by decide)
  have hb : blen (m * 2 ^ k) - 53 = k := by
    unfold blen
    rw [if_neg (Nat.mul_ne_zero hm (by omega)), hl, hl2]
    omega
  unfold roundN
  rw [hb, if_neg (by omega)]
  dsimp only
  rw [Nat.mul_mod_left, Nat.mul_div_cancel _ h0]
  have e : (if k = 0 then (-1 : Int) else cmpN 0 (2 ^ (k - 1))) = -1 := by
    split
    · rfl
    · unfold cmpN
      rw [if_pos (Nat.pow_pos (by decide))]
  simp only [e]
  rw [if_neg (by omega)]
theorem round_small {m : Nat} (h : m < 4503599627370496) : roundN m = m := by
  have hb : blen m - 53 = 0 := by
    unfold blen
    split
    · rfl
    · rename_i h0
      have := (Nat.log2_lt (n := m) (k := 52) h0).2 h
      omega
  unfold roundN
  rw [hb, if_neg (by omega)]
  simp only [Nat.pow_zero, Nat.div_one, if_true]
  rw [if_neg (by omega)]
  unfold infN
  omega
theorem round_one {b : Nat} (h : b % 9223372036854775808 < infN) : roundN (oneN b) = b % 9223372036854775808 := by
  have h' := h
  unfold infN at h'
  unfold oneN
  by_cases e : b / 4503599627370496 % 2048 = 0
  · rw [if_pos e, Nat.pow_zero, Nat.mul_one, round_small (Nat.mod_lt _ (by decide))]
    omega
  · rw [if_neg e, round_exact (by omega) (by omega) (by omega)]
    unfold infN expN
    omega
theorem value_one {b : Nat} (hb : b < 18446744073709551616) (hn : ¬ infN < b % 9223372036854775808) : (oneS b).value = b := by
  by_cases hi : b % 9223372036854775808 = infN
  · rw [one_inf hi]
    unfold infN at hi
    by_cases s : 9223372036854775808 ≤ b
    · rw [value_minus rfl (by simp [s]) (by simp [s])]
      unfold signN infN
      omega
    · rw [value_plus rfl (by simp [s]) (by simp [s])]
      unfold infN
      omega
  · have hlt : b % 9223372036854775808 < infN := by omega
    have hr := round_one hlt
    have hl := oneN_lt (b := b) (by omega)
    have hT : (2 : Nat) ^ 2304 = 2 * 2 ^ 2303 := big_facts.2
    have hS : (2 : Nat) ^ 2098 < 2 ^ 2303 := Nat.pow_lt_pow_right (by decide) (by decide)
    have hp := oneN_pos (b := b)
    unfold oneS
    rw [if_neg hn, if_neg hi]
    by_cases h1 : b = 9223372036854775808
    · rw [if_pos h1, value_num rfl rfl rfl, h1]
      rfl
    · rw [if_neg h1, value_num rfl rfl rfl]
      show (if 2 = 1 then signN else _) = b
      rw [if_neg (by decide)]
      by_cases s : 9223372036854775808 ≤ b
      · have hp := hp (by omega)
        rw [if_pos s]
        show (if 2 ^ 2303 ≤ 2 ^ 2304 - oneN b then signN + roundN (2 ^ 2304 - (2 ^ 2304 - oneN b)) else roundN (2 ^ 2304 - oneN b)) = b
        generalize oneN b = W at *
        generalize (2 : Nat) ^ 2304 = B at *
        generalize (2 : Nat) ^ 2303 = T at *
        generalize (2 : Nat) ^ 2098 = S at *
        rw [if_pos (by omega), show B - (B - W) = W by omega, hr]
        unfold signN
        omega
      · rw [if_neg s]
        show (if 2 ^ 2303 ≤ oneN b then signN + roundN (2 ^ 2304 - oneN b) else roundN (oneN b)) = b
        generalize oneN b = W at *
        generalize (2 : Nat) ^ 2304 = B at *
        generalize (2 : Nat) ^ 2303 = T at *
        generalize (2 : Nat) ^ 2098 = S at *
        rw [if_neg (by omega), hr]
        omega

theorem oneN_mono {a b : Nat} (h : a % 9223372036854775808 ≤ b % 9223372036854775808) : oneN a ≤ oneN b := by
  unfold oneN
  have ha : a % 4503599627370496 < 4503599627370496 := Nat.mod_lt _ (by decide)
  by_cases e : b / 4503599627370496 % 2048 = 0
  · rw [if_pos e, if_pos (by omega), Nat.pow_zero, Nat.mul_one, Nat.mul_one]
    omega
  · rw [if_neg e]
    by_cases e1 : a / 4503599627370496 % 2048 = 0
    · rw [if_pos e1, Nat.pow_zero, Nat.mul_one]
      have := Nat.le_mul_of_pos_right (b % 4503599627370496 + 4503599627370496) (Nat.pow_pos (n := b / 4503599627370496 % 2048 - 1) (show 0 < 2 by decide))
      omega
    · rw [if_neg e1]
      by_cases e2 : a / 4503599627370496 % 2048 = b / 4503599627370496 % 2048
      · rw [e2]
        exact Nat.mul_le_mul_right _ (by omega)
      · have h3 : b / 4503599627370496 % 2048 - 1 = (a / 4503599627370496 % 2048 - 1) + 1 + (b / 4503599627370496 % 2048 - 1 - (a / 4503599627370496 % 2048 - 1) - 1) := by omega
        rw [h3, Nat.pow_add, Nat.pow_succ]
        generalize 2 ^ (a / 4503599627370496 % 2048 - 1) = P
        have h4 : 1 ≤ 2 ^ (b / 4503599627370496 % 2048 - 1 - (a / 4503599627370496 % 2048 - 1) - 1) := Nat.pow_pos (by decide)
        generalize 2 ^ (b / 4503599627370496 % 2048 - 1 - (a / 4503599627370496 % 2048 - 1) - 1) = Q at *
        calc (a % 4503599627370496 + 4503599627370496) * P ≤ (2 * 4503599627370496) * P := Nat.mul_le_mul_right _ (by omega)
          _ = 4503599627370496 * (P * 2) := by rw [Nat.mul_comm 2, Nat.mul_assoc, Nat.mul_comm 2]
          _ ≤ (b % 4503599627370496 + 4503599627370496) * (P * 2 * Q) := Nat.mul_le_mul (by omega) (Nat.le_mul_of_pos_right _ h4)

/-- A number, in units of the least one. -/
def valI (b : Nat) : Int := if 9223372036854775808 ≤ b then -((oneN b : Nat) : Int) else (oneN b : Nat)
theorem valI_lt {a b : Nat} (ha : a < 18446744073709551616) (hb : b < 18446744073709551616) (h : valI a < valI b) : ordN a < ordN b := by
  unfold valI at h
  have hm := oneN_mono (a := a) (b := b)
  have hm' := oneN_mono (a := b) (b := a)
  unfold ordN
  by_cases sa : 9223372036854775808 ≤ a <;> by_cases sb : 9223372036854775808 ≤ b <;> simp only [sa, sb, if_true, if_false] at h ⊢ <;> omega

theorem signed_le {s : Bool} {m q p : Nat} (hp : p ≤ q) : Ieee.signed s m (q - p) * 2 ^ p = (if s then -((m * 2 ^ q : Nat) : Int) else (m * 2 ^ q : Nat)) := by
  have e : m <<< (q - p) * 2 ^ p = m * 2 ^ q := by rw [Nat.shiftLeft_eq, Nat.mul_assoc, ← Nat.pow_add, Nat.sub_add_cancel hp]
  unfold Ieee.signed
  cases s
  · show ((m <<< (q - p) : Nat) : Int) * 2 ^ p = ((m * 2 ^ q : Nat) : Int)
    rw [← e]
    push_cast
    rfl
  · show -((m <<< (q - p) : Nat) : Int) * 2 ^ p = -((m * 2 ^ q : Nat) : Int)
    rw [← e]
    push_cast
    rw [Int.neg_mul]

theorem order_num {a b : Nat} (ha : a < 18446744073709551616) (hb : b < 18446744073709551616) (ia : a % 9223372036854775808 < infN) (ib : b % 9223372036854775808 < infN) :
    Ieee.double.order a b = some (compare (valI a) (valI b)) := by
  obtain ⟨m, q, e1, f1⟩ := read_num ha ia
  obtain ⟨n, r, e2, f2⟩ := read_num hb ib
  have eb : min ((q : Int) - 1074) ((r : Int) - 1074) = ((min q r : Nat) : Int) - 1074 := by omega
  have g1 : ((q : Int) - 1074 - (((min q r : Nat) : Int) - 1074)).toNat = q - min q r := by omega
  have g2 : ((r : Int) - 1074 - (((min q r : Nat) : Int) - 1074)).toNat = r - min q r := by omega
  have h1 := signed_le (s := decide (9223372036854775808 ≤ a)) (m := m) (q := q) (p := min q r) (by omega)
  have h2 := signed_le (s := decide (9223372036854775808 ≤ b)) (m := n) (q := r) (p := min q r) (by omega)
  rw [f1] at h1
  rw [f2] at h2
  simp only [decide_eq_true_eq] at h1 h2
  have hp : (0 : Int) < 2 ^ (min q r) := Int.pow_pos (by decide)
  unfold Ieee.Format.order
  rw [e1, e2]
  unfold Ieee.Datum.order
  simp only [eb, g1, g2]
  congr 1
  unfold valI
  rw [← h1, ← h2]
  generalize (2 : Int) ^ (min q r) = P at *
  generalize Ieee.signed _ m _ = X
  generalize Ieee.signed _ n _ = Y
  simp only [compare, compareOfLessAndEq, Int.mul_lt_mul_right hp, Int.mul_eq_mul_right_iff (Int.ne_of_gt hp)]

theorem compare_one {a b : Nat} (na : ¬ infN < a % 9223372036854775808) (nb : ¬ infN < b % 9223372036854775808) (h : ordN a < ordN b) : compareS a b = -1 ∧ compareS b a = 1 := by
  unfold compareS quiet cmpI
  rw [if_neg na, if_neg nb, if_pos (by omega), if_neg (by omega), if_pos (by omega)]
  exact ⟨rfl, rfl⟩
theorem compare_sym (a b : Nat) : compareS a b = -compareS b a := by
  unfold compareS cmpI
  generalize (ordN (quiet a) : Int) = x
  generalize (ordN (quiet b) : Int) = y
  by_cases h1 : x < y
  · rw [if_pos h1, if_neg (by omega), if_pos h1]
  · by_cases h2 : y < x
    · rw [if_neg h1, if_pos h2, if_pos h2]; rfl
    · rw [if_neg h1, if_neg h2, if_neg h2, if_neg h1]; rfl
theorem order_spec {a b : Nat} (ha : a < 18446744073709551616) (hb : b < 18446744073709551616) :
    (Ieee.double.order a b = some .lt → compareS a b = -1) ∧ (Ieee.double.order a b = some .gt → compareS a b = 1) := by
  by_cases na : infN < a % 9223372036854775808
  · obtain ⟨s, t, e⟩ := read_nan na
    unfold Ieee.Format.order
    rw [e]
    exact ⟨fun h => (by cases h), fun h => (by cases h)⟩
  by_cases nb : infN < b % 9223372036854775808
  · obtain ⟨s, t, e⟩ := read_nan nb
    unfold Ieee.Format.order
    rw [e, show Ieee.Datum.order (Ieee.double.read a) (.nan s t) = none by cases Ieee.double.read a <;> rfl]
    exact ⟨fun h => (by cases h), fun h => (by cases h)⟩
  have key : (ordN a < ordN b ∨ ¬ Ieee.double.order a b = some .lt) ∧ (ordN b < ordN a ∨ ¬ Ieee.double.order a b = some .gt) := by
    have hin : infN = 9218868437227405312 := rfl
    by_cases ia : a % 9223372036854775808 = infN
    · have ea := read_inf ha ia
      by_cases ib : b % 9223372036854775808 = infN
      · have eb := read_inf hb ib
        unfold Ieee.Format.order
        rw [ea, eb]
        unfold ordN
        by_cases sa : 9223372036854775808 ≤ a <;> by_cases sb : 9223372036854775808 ≤ b
        · rw [decide_eq_true sa, decide_eq_true sb]; exact ⟨.inr (by decide), .inr (by decide)⟩
        · rw [decide_eq_true sa, decide_eq_false sb, if_pos sa, if_neg sb]; exact ⟨.inl (by omega), .inr (by decide)⟩
        · rw [decide_eq_false sa, decide_eq_true sb, if_neg sa, if_pos sb]; exact ⟨.inr (by decide), .inl (by omega)⟩
        · rw [decide_eq_false sa, decide_eq_false sb]; exact ⟨.inr (by decide), .inr (by decide)⟩
      · obtain ⟨n, r, e2, f2⟩ := read_num hb (by omega)
        unfold Ieee.Format.order
        rw [ea, e2]
        unfold ordN
        by_cases sa : 9223372036854775808 ≤ a
        · rw [decide_eq_true sa, if_pos sa]
          refine ⟨.inl ?_, .inr (by simp [Ieee.Datum.order])⟩
          split <;> omega
        · rw [decide_eq_false sa, if_neg sa]
          refine ⟨.inr (by simp [Ieee.Datum.order]), .inl ?_⟩
          split <;> omega
    · by_cases ib : b % 9223372036854775808 = infN
      · have eb := read_inf hb ib
        obtain ⟨n, r, e2, f2⟩ := read_num ha (by omega)
        unfold Ieee.Format.order
        rw [eb, e2]
        unfold ordN
        by_cases sb : 9223372036854775808 ≤ b
        · rw [decide_eq_true sb, if_pos sb]
          refine ⟨.inr (by simp [Ieee.Datum.order]), .inl ?_⟩
          split <;> omega
        · rw [decide_eq_false sb, if_neg sb]
          refine ⟨.inl ?_, .inr (by simp [Ieee.Datum.order])⟩
          split <;> omega
      · rw [order_num ha hb (by omega) (by omega)]
        by_cases h1 : valI a < valI b
        · refine ⟨.inl (valI_lt ha hb h1), .inr ?_⟩
          simp [compare, compareOfLessAndEq, h1]
        · by_cases h2 : valI b < valI a
          · refine ⟨.inr ?_, .inl (valI_lt hb ha h2)⟩
            simp [compare, compareOfLessAndEq, h1]
            split <;> simp
          · have : valI a = valI b := by omega
            rw [this]
            simp [compare, compareOfLessAndEq]
  refine ⟨fun h => ?_, fun h => ?_⟩
  · exact (compare_one na nb (key.1.resolve_right (fun g => g h))).1
  · exact (compare_one nb na (key.2.resolve_right (fun g => g h))).2

end Go.Proofs.Ytnngbbiajioghaa
namespace Go.Proofs.Ytnngbbiajioghaa
open Go.Av Go.Proofs
set_option exponentiation.threshold 4000
set_option maxRecDepth 20000

/-! The law SumFloats: the walk. -/
theorem fl (a b : Nat) : Sem.pure? (do eqGuard .lss 55 (.tmp 74) (.tmp 75) (.float .f64 a) (.float .f64 b); binOp .lss 55 (.float .f64 a) (.float .f64 b)) = some (.bool (Ieee.double.order a b == some .lt)) := rfl
theorem order_self {c : Nat} (hc : c < 18446744073709551616) : (Ieee.double.order c c != some .eq) = decide (infN < c % 9223372036854775808) := by
  by_cases n : infN < c % 9223372036854775808
  · obtain ⟨s, t, e⟩ := read_nan n
    unfold Ieee.Format.order
    rw [e, decide_eq_true n]
    rfl
  · rw [decide_eq_false n]
    by_cases i : c % 9223372036854775808 = infN
    · unfold Ieee.Format.order
      rw [read_inf hc i]
      cases decide (9223372036854775808 ≤ c) <;> rfl
    · rw [order_num hc hc (by omega) (by omega)]
      simp [compare, compareOfLessAndEq]
theorem f33_ok {c : Nat} (hc : c < 18446744073709551616) : PureRun Try.prog 33 [.sc (.float .f64 c)] (.sc (.bool (decide (infN < c % 9223372036854775808)))) := by
  refine PureRun.mkI cF33 (Nat.le_of_ble_eq_true rfl) ?_
  rw [← order_self hc]
  refine walkX ?_
  trace_state
  exact EndP.w

end Go.Proofs.Ytnngbbiajioghaa
namespace Go.Proofs.Ytnngbbiajioghaa
open Go.Av Go.Proofs
set_option exponentiation.threshold 4000
set_option maxRecDepth 20000

/-! Whole numbers as floats. -/
theorem float_int (n : Int) : FloatKind.f64.nearest n = (if n < 0 then signN else 0) + roundN (n.natAbs * 2 ^ 1074) := by
  show Ieee.double.nearest (decide (n < 0)) n.natAbs 0 = _
  by_cases h : n = 0
  · subst h
    rw [show (0 : Int).natAbs * 2 ^ 1074 = 0 from Nat.zero_mul _, round_zero]
    exact word_eq false 0
  · have := nearest_eq (decide (n < 0)) (m := n.natAbs) (by omega) 1074
    rw [show ((1074 : Nat) : Int) - 1074 = 0 by omega] at this
    rw [this]
    simp only [decide_eq_true_eq]

/-- A small whole number is a float. -/
theorem small_int {m : Nat} (h0 : m ≠ 0) (h : m < 9007199254740992) : roundN (m * 2 ^ 1074) < infN ∧ oneN (roundN (m * 2 ^ 1074)) = m * 2 ^ 1074 := by
  have hL := (Nat.log2_lt (n := m) (k := 53) h0).2 h
  have a1 := Nat.log2_self_le h0
  have a2 := Nat.lt_log2_self (n := m)
  generalize m.log2 = L at *
  have e : m * 2 ^ 1074 = (m * 2 ^ (52 - L)) * 2 ^ (1022 + L) := by
    rw [Nat.mul_assoc, ← Nat.pow_add]
    congr 2
    omega
  have b1 : 4503599627370496 ≤ m * 2 ^ (52 - L) := by
    rw [show (4503599627370496 : Nat) = 2 ^ L * 2 ^ (52 - L) by rw [← Nat.pow_add, show L + (52 - L) = 52 by omega]]
    exact Nat.mul_le_mul_right _ a1
  have b2 : m * 2 ^ (52 - L) < 9007199254740992 := by
    rw [show (9007199254740992 : Nat) = 2 ^ (L + 1) * 2 ^ (52 - L) by rw [← Nat.pow_add, show L + 1 + (52 - L) = 53 by omega]]
    exact (Nat.mul_lt_mul_right (Nat.pow_pos (by decide))).2 a2
  rw [e]
  generalize m * 2 ^ (52 - L) = M at *
  rw [round_exact b1 b2 (by omega)]
  unfold infN expN
  rw [Nat.min_eq_right (by omega)]
  refine ⟨by omega, ?_⟩
  unfold oneN
  rw [if_neg (by omega)]
  congr 1
  · omega
  · congr 1
    omega

end Go.Proofs.Ytnngbbiajioghaa
namespace Go.Proofs.Ytnngbbiajioghaa
open Go.Av Go.Proofs
set_option exponentiation.threshold 4000
set_option maxRecDepth 20000

/-! Sums of whole numbers are exact. -/
theorem int_bits {n : Int} (h : n.natAbs < 9007199254740992) :
    FloatKind.f64.nearest n < 18446744073709551616 ∧ FloatKind.f64.nearest n % 9223372036854775808 < infN ∧ FloatKind.f64.nearest n ≠ 9223372036854775808 ∧ valI (FloatKind.f64.nearest n) = n * ((2 ^ 1074 : Nat) : Int) := by
  rw [float_int]
  by_cases h0 : n = 0
  · subst h0
    rw [show (0 : Int).natAbs * 2 ^ 1074 = 0 from Nat.zero_mul _, round_zero, Int.zero_mul]
    refine ⟨by decide, by decide, by decide, ?_⟩
    have : oneN 0 = 0 := by decide +kernel
    show valI 0 = 0
    unfold valI
    rw [if_neg (by decide), this]
    rfl
  · obtain ⟨h1, h2⟩ := small_int (m := n.natAbs) (by omega) h
    have hp : 0 < n.natAbs * 2 ^ 1074 := Nat.mul_pos (by omega) (Nat.pow_pos (by decide))
    have hr : roundN (n.natAbs * 2 ^ 1074) ≠ 0 := fun e => by
      rw [e, show oneN 0 = 0 by decide +kernel] at h2
      omega
    have hm : ∀ r, r < 9223372036854775808 → oneN (9223372036854775808 + r) = oneN r := fun r h => by
      unfold oneN
      rw [show (9223372036854775808 + r) / 4503599627370496 % 2048 = r / 4503599627370496 % 2048 by omega, show (9223372036854775808 + r) % 4503599627370496 = r % 4503599627370496 by omega]
    have hl := round_lt (n.natAbs * 2 ^ 1074)
    have hin : infN = 9218868437227405312 := rfl
    have hsg : signN = 9223372036854775808 := rfl
    have hm := hm _ hl
    have hc : ((n.natAbs * 2 ^ 1074 : Nat) : Int) = (n.natAbs : Int) * ((2 ^ 1074 : Nat) : Int) := Int.natCast_mul _ _
    generalize n.natAbs * 2 ^ 1074 = W at *
    generalize roundN W = R at *
    by_cases hn : n < 0
    · rw [if_pos hn, hsg]
      refine ⟨by omega, by omega, by omega, ?_⟩
      unfold valI
      rw [if_pos (by omega), hm, h2, hc, Int.ofNat_natAbs_of_nonpos (by omega), Int.neg_mul, Int.neg_neg]
    · rw [if_neg hn, Nat.zero_add]
      refine ⟨by omega, by omega, by omega, ?_⟩
      unfold valI
      rw [if_neg (by omega), h2, hc, Int.natAbs_of_nonneg (by omega)]

def isum (l : List Int) : Int := l.foldl (· + ·) 0

theorem comb_exact {s : St} {b : Nat} {t n : Int} {c : Int} (hb : b < 18446744073709551616) (hi : b % 9223372036854775808 < infN) (hz : b ≠ 9223372036854775808) (hv : valI b = n)
    (h1 : s.nan = false) (h2 : s.plus = false) (h3 : s.minus = false) (hc : (s.n : Int) = t + c * (big : Nat)) :
    (comb s (oneS b)).nan = false ∧ (comb s (oneS b)).plus = false ∧ (comb s (oneS b)).minus = false ∧ 2 ≤ (comb s (oneS b)).zero ∧ ∃ d : Int, ((comb s (oneS b)).n : Int) = (t + n) + d * (big : Nat) := by
  obtain ⟨b1, b2, b3, b4, d, b5⟩ := one_n hb hi
  rw [if_neg hz] at b4
  refine ⟨by simp [comb, h1, b1], by simp [comb, h2, b2], by simp [comb, h3, b3], by simp [comb, b4]; omega, ?_⟩
  have e : ((oneS b).n : Int) = n + d * (big : Nat) := by rw [b5, ← hv]; rfl
  have hm := Int.emod_add_mul_ediv (((s.n + (oneS b).n : Nat) : Int)) (big : Nat)
  refine ⟨c + d - (((s.n + (oneS b).n : Nat) : Int)) / (big : Nat), ?_⟩
  show (((s.n + (oneS b).n) % big : Nat) : Int) = _
  rw [Int.natCast_emod, Int.sub_mul, Int.add_mul]
  rw [Int.mul_comm ((big : Nat) : Int)] at hm
  rw [Int.natCast_add] at hm ⊢
  rw [hc, e] at hm ⊢
  omega

end Go.Proofs.Ytnngbbiajioghaa
namespace Go.Proofs.Ytnngbbiajioghaa
open Go.Av Go.Proofs
set_option exponentiation.threshold 4000
set_option maxRecDepth 20000

/-! The value of an exact sum. -/
theorem value_exact {s : St} {t c : Int} (h1 : s.nan = false) (h2 : s.plus = false) (h3 : s.minus = false) (hz : s.zero ≠ 1) (hs : s.n < big) (hc : (s.n : Int) = t * ((2 ^ 1074 : Nat) : Int) + c * (big : Nat)) (ht : t.natAbs < 9223372036854775808) :
    s.value = FloatKind.f64.nearest t := by
  rw [float_int, value_num h1 h2 h3, if_neg hz]
  have hT : (2 : Nat) ^ 2304 = 2 * 2 ^ 2303 := big_facts.2
  have hW : t.natAbs * 2 ^ 1074 < 2 ^ 2303 := by
    have h4 : t.natAbs * 2 ^ 1074 < 9223372036854775808 * 2 ^ 1074 := (Nat.mul_lt_mul_right (Nat.pow_pos (by decide))).2 ht
    have h5 : (9223372036854775808 : Nat) * 2 ^ 1074 = 2 ^ 1137 := by rw [show (9223372036854775808 : Nat) = 2 ^ 63 from rfl, ← Nat.pow_add]
    have h6 : (2 : Nat) ^ 1137 < 2 ^ 2303 := Nat.pow_lt_pow_right (by decide) (by decide)
    omega
  have hw : t * ((2 ^ 1074 : Nat) : Int) = if t < 0 then -((t.natAbs * 2 ^ 1074 : Nat) : Int) else ((t.natAbs * 2 ^ 1074 : Nat) : Int) := by
    split
    · rename_i h
      rw [Int.natCast_mul, Int.ofNat_natAbs_of_nonpos (by omega), Int.neg_mul, Int.neg_neg]
    · rename_i h
      rw [Int.natCast_mul, Int.natAbs_of_nonneg (by omega)]
  have hpos : t < 0 → 0 < t.natAbs * 2 ^ 1074 := fun h => Nat.mul_pos (by omega) (Nat.pow_pos (by decide))
  rw [hw] at hc
  have hbig : big = 2 ^ 2304 := rfl
  rw [hbig] at hs hc
  generalize (2 : Nat) ^ 2304 = B at *
  generalize (2 : Nat) ^ 2303 = T at *
  generalize t.natAbs * 2 ^ 1074 = W at *
  generalize s.n = N at *
  clear hw ht hbig
  have hmod : (N : Int) % (B : Int) = (N : Int) := Int.emod_eq_of_lt (by omega) (by omega)
  have hb2 : ∀ x : Int, 0 ≤ x → x < (B : Int) → (x + c * (B : Int)) % (B : Int) = x := fun x h1 h2 => by
    rw [Int.add_mul_emod_self_right]
    exact Int.emod_eq_of_lt h1 h2
  have hm : ∀ x : Int, (-x + c * (B : Int)) % (B : Int) = ((B : Int) - x + c * (B : Int)) % (B : Int) := fun x => by
    rw [show (B : Int) - x + c * (B : Int) = (-x + c * (B : Int)) + 1 * (B : Int) by omega]
    exact (Int.add_mul_emod_self_right (-x + c * (B : Int)) 1 (B : Int)).symm
  rw [hc] at hmod
  by_cases hv : t < 0
  · have hp := hpos hv
    rw [if_pos hv] at hmod hc ⊢
    rw [hm, hb2 _ (by omega) (by omega), ← hc] at hmod
    rw [if_pos (by omega), show B - N = W by omega]
  · rw [if_neg hv] at hmod hc ⊢
    rw [hb2 _ (by omega) (by omega), ← hc] at hmod
    rw [if_neg (by omega), show N = W by omega, Nat.zero_add]

end Go.Proofs.Ytnngbbiajioghaa
namespace Go.Proofs.Ytnngbbiajioghaa
open Go.Av Go.Proofs
set_option exponentiation.threshold 4000
set_option maxRecDepth 20000

/-! The sum of a list of whole numbers. -/
theorem fold_exact (l : List Int) (h : ∀ n ∈ l, n.natAbs < 9007199254740992) : ∀ (s : St) (t : Int), s.nan = false → s.plus = false → s.minus = false → s.zero ≠ 1 → (∃ c : Int, (s.n : Int) = t * ((2 ^ 1074 : Nat) : Int) + c * (big : Nat)) →
    ∀ r, r = (l.map FloatKind.f64.nearest).foldl (fun a b => comb a (oneS b)) s → r.nan = false ∧ r.plus = false ∧ r.minus = false ∧ r.zero ≠ 1 ∧ ∃ c : Int, (r.n : Int) = (l.foldl (· + ·) t) * ((2 ^ 1074 : Nat) : Int) + c * (big : Nat) := by
  induction l with
  | nil =>
    rintro s t h1 h2 h3 h4 h5 r rfl
    exact ⟨h1, h2, h3, h4, h5⟩
  | cons n l ih =>
    rintro s t h1 h2 h3 h4 ⟨c, h5⟩ r rfl
    obtain ⟨b1, b2, b3, b4⟩ := int_bits (h n (List.mem_cons_self ..))
    obtain ⟨c1, c2, c3, c4, d, c5⟩ := comb_exact b1 b2 b3 b4 h1 h2 h3 h5
    refine ih (fun m hm => h m (List.mem_cons_of_mem _ hm)) (comb s (oneS (FloatKind.f64.nearest n))) (t + n) c1 c2 c3 (by omega) ⟨d, ?_⟩ _ rfl
    rw [c5, Int.add_mul]

end Go.Proofs.Ytnngbbiajioghaa
namespace Go.Proofs.Ytnngbbiajioghaa
open Go.Av Go.Proofs
set_option exponentiation.threshold 4000
set_option maxRecDepth 20000

/-! A number and its opposite. -/
def oppN (b : Nat) : Nat := if 9223372036854775808 ≤ b then b - 9223372036854775808 else b + 9223372036854775808
theorem opp_comb {s : St} {b : Nat} (hb : b < 18446744073709551616) (hi : b % 9223372036854775808 < infN) (hs : s.n < big) :
    (comb (comb s (oneS b)) (oneS (oppN b))).n = s.n ∧ (comb (comb s (oneS b)) (oneS (oppN b))).nan = s.nan ∧ (comb (comb s (oneS b)) (oneS (oppN b))).plus = s.plus ∧ (comb (comb s (oneS b)) (oneS (oppN b))).minus = s.minus := by
  have ob : oppN b < 18446744073709551616 := by unfold oppN; split <;> omega
  have oi : oppN b % 9223372036854775808 = b % 9223372036854775808 := by unfold oppN; split <;> omega
  have on : oneN (oppN b) = oneN b := by
    unfold oneN
    rw [show oppN b / 4503599627370496 % 2048 = b / 4503599627370496 % 2048 by omega, show oppN b % 4503599627370496 = b % 4503599627370496 by omega]
  have os : (9223372036854775808 ≤ oppN b) ↔ ¬ 9223372036854775808 ≤ b := by unfold oppN; split <;> omega
  obtain ⟨a1, a2, a3, _, c, a5⟩ := one_n hb hi
  obtain ⟨b1, b2, b3, _, d, b5⟩ := one_n ob (by rw [oi]; exact hi)
  refine ⟨?_, by simp [comb, a1, b1], by simp [comb, a2, b2], by simp [comb, a3, b3]⟩
  rw [on] at b5
  have e : ((oneS b).n : Int) + (oneS (oppN b)).n = (c + d) * (big : Nat) := by
    rw [a5, b5, Int.add_mul]
    by_cases h : 9223372036854775808 ≤ b
    · rw [if_pos h, if_neg (fun g => os.1 g h)]; omega
    · rw [if_neg h, if_pos (os.2 h)]; omega
  have h2 : (((comb (comb s (oneS b)) (oneS (oppN b))).n : Nat) : Int) = (s.n : Int) := by
    show ((((s.n + (oneS b).n) % big + (oneS (oppN b)).n) % big : Nat) : Int) = _
    rw [Nat.mod_add_mod, Int.natCast_emod, Int.natCast_add, Int.natCast_add, Int.add_assoc, e, Int.add_mul_emod_self_right]
    exact Int.emod_eq_of_lt (by omega) (by omega)
  exact Int.ofNat.inj h2

end Go.Proofs.Ytnngbbiajioghaa
namespace Go.Proofs.Ytnngbbiajioghaa
open Go.Av Go.Proofs
set_option exponentiation.threshold 4000
set_option maxRecDepth 20000

/-! math.IsInf. -/
theorem order_max {c : Nat} (hc : c < 9223372036854775808) : (FloatKind.f64.format.order c 9218868437227405311 == some .gt) = decide (c = infN) := by
  show (Ieee.double.order c 9218868437227405311 == some .gt) = _
  have hm : 9218868437227405311 % 9223372036854775808 < infN := by decide
  have hin : infN = 9218868437227405312 := rfl
  by_cases n : infN < c % 9223372036854775808
  · obtain ⟨s, t, e⟩ := read_nan n
    unfold Ieee.Format.order
    rw [e, decide_eq_false (by omega)]
    rfl
  by_cases i : c % 9223372036854775808 = infN
  · obtain ⟨m, q, e, _⟩ := read_num (b := 9218868437227405311) (by decide) hm
    unfold Ieee.Format.order
    rw [read_inf (by omega) i, e, decide_eq_true (show c = infN by omega), decide_eq_false (show ¬ 9223372036854775808 ≤ c by omega)]
    rfl
  · rw [order_num (by omega) (by decide) (by omega) hm, decide_eq_false (show ¬ c = infN by omega)]
    have h1 := oneN_mono (a := c) (b := 9218868437227405311) (by omega)
    have h2 : valI c ≤ valI 9218868437227405311 := by
      unfold valI
      rw [if_neg (by omega), if_neg (by decide)]
      omega
    by_cases h3 : valI c < valI 9218868437227405311
    · simp [compare, compareOfLessAndEq, h3]
    · have h4 : valI c = valI 9218868437227405311 := by omega
      simp [compare, compareOfLessAndEq, h4]

end Go.Proofs.Ytnngbbiajioghaa
namespace Go.Proofs.Ytnngbbiajioghaa
open Go.Av Go.Proofs
set_option exponentiation.threshold 4000
set_option maxRecDepth 20000

theorem abs_ok {c : Nat} (hc : c < 18446744073709551616) : PureRun Try.prog 74 [.sc (.float .f64 c)] (.sc (.float .f64 (c % 9223372036854775808))) := by
  refine PureRun.mkI cF74 (Nat.le_of_ble_eq_true rfl) ?_
  refine walkX ?_
  rw [show c &&& 18446744073709551615 - 9223372036854775808 = c % 9223372036854775808 from and_abs c]
  exact EndP.w
theorem inf_ok {c : Nat} (hc : c < 18446744073709551616) : PureRun Try.prog 41 [.sc (.float .f64 c), .sc (.int .i64 0)] (.sc (.bool (decide (c % 9223372036854775808 = infN)))) := by
  refine PureRun.mkI cF41 (Nat.le_of_ble_eq_true rfl) ?_
  have h := abs_ok hc
  refine walkX ?_
  rw [order_max (Nat.mod_lt _ (by decide))]
  exact EndP.w

end Go.Proofs.Ytnngbbiajioghaa
namespace Go.Proofs.Ytnngbbiajioghaa
open Go.Av Go.Proofs
set_option exponentiation.threshold 4000
set_option maxRecDepth 20000

/-! Doubled floats: the plain law. -/
theorem cut_two (neg : Bool) {n d : Nat} (hn : n ≠ 0) : Ieee.Toward.even.cut neg (2 * n) (d + 1) = Ieee.Toward.even.cut neg n d := by
  have hl : (2 * n).log2 = n.log2 + 1 := by
    have := log2_shl hn 1
    rw [Nat.pow_one, Nat.mul_comm] at this
    exact this
  unfold Ieee.Toward.cut
  simp only [Nat.one_shiftLeft, hl]
  rw [show min (d + 1) (n.log2 + 1 + 2) = min d (n.log2 + 2) + 1 by omega, Nat.pow_succ']
  generalize 2 ^ min d (n.log2 + 2) = g
  rw [Nat.mul_div_mul_left _ _ (by decide), Nat.mul_mod_mul_left]
  rw [show (2 * g == 2 * (2 * (n % g))) = (g == 2 * (n % g)) by rw [Bool.eq_iff_iff]; simp; omega]
  rw [show decide (2 * g < 2 * (2 * (n % g))) = decide (g < 2 * (n % g)) by rw [Bool.eq_iff_iff]; simp]
theorem cut_zero (neg : Bool) (n : Nat) : Ieee.Toward.even.cut neg n 0 = n := by
  unfold Ieee.Toward.cut
  simp [Nat.mod_one]
theorem nearest_two (neg : Bool) {m : Nat} (hm : m ≠ 0) (p : Int) : Ieee.double.nearest neg (2 * m) (p - 1) = Ieee.double.nearest neg m p := by
  have hl : (2 * m).log2 = m.log2 + 1 := by
    have := log2_shl hm 1
    rw [Nat.pow_one, Nat.mul_comm] at this
    exact this
  unfold Ieee.Format.nearest
  rw [if_neg hm, if_neg (by omega)]
  simp only [hl]
  rw [show p - 1 + ((m.log2 + 1 : Nat) : Int) - (Ieee.double.fractionBits : Int) = p + (m.log2 : Int) - (Ieee.double.fractionBits : Int) by omega]
  generalize max (p + (m.log2 : Int) - (Ieee.double.fractionBits : Int)) Ieee.double.leastPlace = last
  congr 3
  by_cases h : last ≤ p - 1
  · rw [show (last - (p - 1)).toNat = 0 by omega, show (last - p).toNat = 0 by omega, cut_zero, cut_zero, show (p - last).toNat = (p - 1 - last).toNat + 1 by omega, Nat.shiftLeft_eq, Nat.shiftLeft_eq, Nat.pow_succ', ← Nat.mul_assoc, Nat.mul_comm m 2]
  · rw [show (p - 1 - last).toNat = 0 by omega, show (p - last).toNat = 0 by omega, Nat.shiftLeft_zero, Nat.shiftLeft_zero, show (last - (p - 1)).toNat = (last - p).toNat + 1 by omega, cut_two neg hm]
theorem nearest_scale (neg : Bool) {m : Nat} (hm : m ≠ 0) (p : Int) : ∀ j : Nat, Ieee.double.nearest neg (m * 2 ^ j) (p - j) = Ieee.double.nearest neg m p
  | 0 => by rw [Nat.pow_zero, Nat.mul_one]; simp
  | j + 1 => by
    rw [← nearest_scale neg hm p j, ← nearest_two neg (m := m * 2 ^ j) (Nat.mul_ne_zero hm (Nat.ne_of_gt (Nat.pow_pos (by decide)))) (p - j)]
    congr 1
    · rw [Nat.pow_succ', Nat.mul_left_comm]
    · omega

/-- A number of 53 digits is exact, or too great. -/
theorem exact_num {m q : Nat} (h0 : m ≠ 0) (h : m < 9007199254740992) :
    (roundN (m * 2 ^ q) < infN ∧ oneN (roundN (m * 2 ^ q)) = m * 2 ^ q) ∨ (roundN (m * 2 ^ q) = infN ∧ roundN (m * 2 ^ (q + 1)) = infN) := by
  have hL := (Nat.log2_lt (n := m) (k := 53) h0).2 h
  have a1 := Nat.log2_self_le h0
  have a2 := Nat.lt_log2_self (n := m)
  have hin : infN = 9218868437227405312 := rfl
  have hex : expN = 4503599627370496 := rfl
  by_cases hs : m * 2 ^ q < 4503599627370496
  · left
    rw [round_small hs]
    refine ⟨by omega, ?_⟩
    unfold oneN
    rw [if_pos (by omega), Nat.pow_zero]
    omega
  · have hq : 52 ≤ m.log2 + q := by
      refine Nat.le_of_not_lt fun g => hs ?_
      have : m * 2 ^ q < 2 ^ (m.log2 + 1) * 2 ^ q := (Nat.mul_lt_mul_right (Nat.pow_pos (by decide))).2 a2
      rw [← Nat.pow_add] at this
      have h2 : (2 : Nat) ^ (m.log2 + 1 + q) ≤ 2 ^ 52 := Nat.pow_le_pow_right (by decide) (by omega)
      have h3 : (2 : Nat) ^ 52 = 4503599627370496 := rfl
      omega
    generalize m.log2 = L at *
    have e : m * 2 ^ q = (m * 2 ^ (52 - L)) * 2 ^ (L + q - 52) := by
      rw [Nat.mul_assoc, ← Nat.pow_add]
      congr 2
      omega
    have e' : m * 2 ^ (q + 1) = (m * 2 ^ (52 - L)) * 2 ^ (L + q - 52 + 1) := by
      rw [Nat.mul_assoc, ← Nat.pow_add]
      congr 2
      omega
    have b1 : 4503599627370496 ≤ m * 2 ^ (52 - L) := by
      rw [show (4503599627370496 : Nat) = 2 ^ L * 2 ^ (52 - L) by rw [← Nat.pow_add, show L + (52 - L) = 52 by omega]]
      exact Nat.mul_le_mul_right _ a1
    have b2 : m * 2 ^ (52 - L) < 9007199254740992 := by
      rw [show (9007199254740992 : Nat) = 2 ^ (L + 1) * 2 ^ (52 - L) by rw [← Nat.pow_add, show L + 1 + (52 - L) = 53 by omega]]
      exact (Nat.mul_lt_mul_right (Nat.pow_pos (by decide))).2 a2
    rw [e, e']
    generalize m * 2 ^ (52 - L) = M at *
    generalize L + q - 52 = k at *
    clear e e' hs hq
    have big : ∀ k, 2045 < k → roundN (M * 2 ^ k) = infN := fun k hk => by
      have hm : M ≠ 0 := by omega
      have hb : blen (M * 2 ^ k) - 53 = k := by
        unfold blen
        rw [if_neg (Nat.mul_ne_zero hm (Nat.ne_of_gt (Nat.pow_pos (by decide)))), log2_shl hm, (Nat.log2_eq_iff (k := 52) hm).2 ⟨b1, b2⟩]
        omega
      unfold roundN
      rw [hb, if_pos hk]
    by_cases hk : k ≤ 2045
    · rw [round_exact b1 b2 hk]
      by_cases hi : k * expN + M < infN
      · left
        rw [Nat.min_eq_right (by omega)]
        refine ⟨hi, ?_⟩
        unfold oneN
        rw [hex] at hi ⊢
        rw [if_neg (by omega)]
        congr 1
        · omega
        · congr 1
          omega
      · right
        rw [Nat.min_eq_left (by omega)]
        refine ⟨rfl, ?_⟩
        by_cases hk1 : k + 1 ≤ 2045
        · rw [round_exact b1 b2 hk1, Nat.min_eq_left]
          rw [Nat.add_mul]
          omega
        · exact big _ (by omega)
    · exact .inr ⟨big _ (by omega), big _ (by omega)⟩

theorem read_two : Ieee.double.read 4611686018427387904 = .number false (2 ^ 52) (1 - 52) := by decide +kernel
/-- A float, doubled by the machine. -/
theorem mul_two {s : Bool} {m q : Nat} (h0 : m ≠ 0) (h : m < 9007199254740992) :
    Ieee.double.mul ((if s then signN else 0) + roundN (m * 2 ^ q)) 4611686018427387904 = some ((if s then signN else 0) + roundN (m * 2 ^ (q + 1))) := by
  have hl := round_lt (m * 2 ^ q)
  have hsg : signN = 9223372036854775808 := rfl
  have hin : infN = 9218868437227405312 := rfl
  have hb : (if s then signN else 0) + roundN (m * 2 ^ q) < 18446744073709551616 := by split <;> omega
  have hmod : ((if s then signN else 0) + roundN (m * 2 ^ q)) % 9223372036854775808 = roundN (m * 2 ^ q) := by split <;> omega
  have hs : decide (9223372036854775808 ≤ (if s then signN else 0) + roundN (m * 2 ^ q)) = s := by
    cases s
    · rw [decide_eq_false]
      rw [if_neg (by decide)]
      omega
    · rw [decide_eq_true]
      rw [if_pos rfl]
      omega
  unfold Ieee.Format.mul
  rw [read_two]
  rcases exact_num h0 h (q := q) with ⟨h1, h2⟩ | ⟨h1, h2⟩
  · obtain ⟨n, r, e1, e2⟩ := read_num hb (by rw [hmod]; exact h1)
    rw [e1, hs]
    have ho : oneN ((if s then signN else 0) + roundN (m * 2 ^ q)) = oneN (roundN (m * 2 ^ q)) := by
      generalize roundN (m * 2 ^ q) = R at *
      unfold oneN
      have g1 : ((if s then signN else 0) + R) / 4503599627370496 % 2048 = R / 4503599627370496 % 2048 := by split <;> omega
      have g2 : ((if s then signN else 0) + R) % 4503599627370496 = R % 4503599627370496 := by split <;> omega
      rw [g1, g2]
    rw [ho, h2] at e2
    have hn : n ≠ 0 := fun e => by
      rw [e, Nat.zero_mul] at e2
      exact Nat.mul_ne_zero h0 (Nat.ne_of_gt (Nat.pow_pos (by decide))) e2.symm
    show some (Ieee.double.write (.number (s ^^ false) (n * 2 ^ 52) ((r : Int) - 1074 + (1 - 52)))) = _
    congr 1
    rw [Bool.xor_false]
    show Ieee.double.nearest s (n * 2 ^ 52) _ = _
    rw [show (r : Int) - 1074 + (1 - 52) = ((r + 1 : Nat) : Int) - 1074 - ((52 : Nat) : Int) by omega, nearest_scale s hn, nearest_eq s hn, Nat.pow_succ, ← Nat.mul_assoc, e2, Nat.pow_succ, ← Nat.mul_assoc]
  · rw [read_inf hb (by rw [hmod]; exact h1), hs, h2]
    show some (Ieee.double.write (.infinity (s ^^ false))) = _
    rw [Bool.xor_false]
    congr 1
    show Ieee.double.word s Ieee.double.infRung = _
    unfold Ieee.Format.word
    rw [dSign, dInf]
    cases s <;> simp

end Go.Proofs.Ytnngbbiajioghaa
namespace Go.Proofs.Ytnngbbiajioghaa
open Go.Av Go.Proofs
set_option exponentiation.threshold 4000
set_option maxRecDepth 20000

/-! Doubled sums. -/
def dblS (s : Bool) (V : Nat) : St := ⟨if s then big - V else V, false, false, false, 2⟩
theorem dbl_one {b : Nat} (hi : b % 9223372036854775808 < infN) (h0 : ¬ b % 9223372036854775808 = 0) : oneS b = dblS (decide (9223372036854775808 ≤ b)) (oneN b) := by
  unfold oneS dblS
  rw [if_neg (by omega), if_neg (by omega), if_neg (by omega)]
  by_cases h : 9223372036854775808 ≤ b
  · rw [decide_eq_true h, if_pos h]; rfl
  · rw [decide_eq_false h, if_neg h]; rfl
theorem dbl_abs {s : Bool} {V : Nat} (h0 : 0 < V) (h : V < 2 * 2 ^ 2240) : absN (dblS s V).n = V := by
  obtain ⟨f1, f2⟩ := big_facts2
  unfold absN dblS
  rw [show (2 : Nat) ^ 2304 = big from rfl, f2]
  generalize (2 : Nat) ^ 2303 = T at *
  generalize (2 : Nat) ^ 2240 = U at *
  cases s
  · simp only [Bool.false_eq_true, if_false]
    rw [if_neg (by omega)]
  · simp only [if_true]
    rw [if_pos (by omega)]
    omega
theorem dbl_lt {s : Bool} {V : Nat} (h0 : 0 < V) (h : V < 2 ^ 2240) : (dblS s V).n < big := by
  obtain ⟨f1, f2⟩ := big_facts2
  unfold dblS
  rw [f2]
  generalize (2 : Nat) ^ 2303 = T at *
  generalize (2 : Nat) ^ 2240 = U at *
  cases s
  · simp only [Bool.false_eq_true, if_false]; omega
  · simp only [if_true]; omega
theorem dbl_add {s : Bool} {V : Nat} (h0 : 0 < V) (h : V < 2 ^ 2240) : ((dblS s V).n + (dblS s V).n) % big = (dblS s (2 * V)).n := by
  obtain ⟨f1, f2⟩ := big_facts2
  unfold dblS
  rw [f2]
  generalize (2 : Nat) ^ 2303 = T at *
  generalize (2 : Nat) ^ 2240 = U at *
  cases s
  · simp only [Bool.false_eq_true, if_false]
    rw [Nat.mod_eq_of_lt (by omega)]
    omega
  · simp only [if_true]
    rw [show 2 * T - V + (2 * T - V) = 2 * T + (2 * T - 2 * V) by omega, Nat.add_mod_left, Nat.mod_eq_of_lt (by omega)]
theorem dbl_merge {s : Bool} {V : Nat} (h0 : 0 < V) (h : V < 2 ^ 2240) :
    mergeR (dblS s V) (dblS s V) = if 2 ^ 2240 ≤ 2 * V then (14, dblS s V) else (0, dblS s (2 * V)) := by
  have e : absN (((dblS s V).n + (dblS s V).n) % big) = 2 * V := by rw [dbl_add h0 h, dbl_abs (by omega) (by omega)]
  have hb : 2240 < blen (2 * V) ↔ 2 ^ 2240 ≤ 2 * V := by
    unfold blen
    rw [if_neg (by omega), ← Nat.le_log2 (by omega)]
    omega
  unfold mergeR mergeS
  rw [e]
  by_cases g : 2 ^ 2240 ≤ 2 * V
  · rw [if_pos g, if_pos (hb.2 g)]
  · rw [if_neg g, if_neg (fun x => g (hb.1 x)), dbl_add h0 h]
    rfl
theorem dbl_value {s : Bool} {V : Nat} (h0 : 0 < V) (h : V < 2 ^ 2240) : (dblS s V).value = (if s then signN else 0) + roundN V := by
  rw [value_num (s := dblS s V) rfl rfl rfl, if_neg (show ¬ (dblS s V).zero = 1 from fun e => by cases e)]
  obtain ⟨f1, f2⟩ := big_facts2
  rw [show (2 : Nat) ^ 2304 = big from rfl]
  unfold dblS
  rw [f2]
  generalize (2 : Nat) ^ 2303 = T at *
  generalize (2 : Nat) ^ 2240 = U at *
  cases s
  · simp only [Bool.false_eq_true, if_false]
    rw [if_neg (by omega), Nat.zero_add]
  · simp only [if_true]
    rw [if_pos (by omega), show 2 * T - (2 * T - V) = V by omega]

/-- A finite float other than 0. -/
theorem num_form {b : Nat} (h0 : ¬ b % 9223372036854775808 = 0) : ∃ m q : Nat, oneN b = m * 2 ^ q ∧ m ≠ 0 ∧ m < 9007199254740992 := by
  unfold oneN
  split
  · exact ⟨_, 0, rfl, by omega, by omega⟩
  · exact ⟨_, _, rfl, by omega, by omega⟩
theorem dbl_float {b : Nat} (hb : b < 18446744073709551616) (hi : b % 9223372036854775808 < infN) : b = (if decide (9223372036854775808 ≤ b) then signN else 0) + roundN (oneN b) := by
  rw [round_one hi]
  unfold signN
  by_cases h : 9223372036854775808 ≤ b
  · rw [decide_eq_true h, if_pos rfl]; omega
  · rw [decide_eq_false h, if_neg (by decide)]; omega

end Go.Proofs.Ytnngbbiajioghaa
