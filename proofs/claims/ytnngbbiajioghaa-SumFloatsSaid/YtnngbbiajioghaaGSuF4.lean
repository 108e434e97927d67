import Derived.Test.YtnngbbiajioghaaGSuP3
import Derived.Test.YtnngbbiajioghaaGSuW2
import Derived.Test.YtnngbbiajioghaaGSuL6
import Ieee.Arith
namespace Go.Proofs.Ytnngbbiajioghaa
open Go.Av Go.Proofs
set_option exponentiation.threshold 4000
set_option maxRecDepth 20000

/-! The sum of some numbers. -/
theorem of_ok (l : List Nat) (hl : l.length ≤ 4000) (hb : ∀ b ∈ l, b < 18446744073709551616) : CallOK Try.prog 26 [.list 1 (u64R l)] [] fun res H' => res = .tup [.ptr 0 0 0 0, .sc (.bool true)] ∧ H' = [[.cells 41 [(sumL l).acc true]]] := by
  refine CallOK.of cF26 ?_ (Nat.le_of_ble_eq_true rfl)
  have e0 := u64R_len l
  refine walkS0 ?_
  refine Reg.c (Nat.zero_le _) rfl ((new_at _).mono ?_)
  rintro res H' ⟨rfl, rfl⟩
  refine walkS0 ?_
  rw [e0]
  refine AWP.loop (fun k : Nat => [(4, .ptr 0 0 0 0), (8, .list 1 (u64R l)), (9, .sc (.int .i64 (l.length : Int))), (10, .sc (.int .i64 (k : Int)))]) (fun k => [[.cells 41 [(sumL (l.take k)).acc true]]]) (fun k => k ≤ l.length) (fun k => l.length - k) 0 (Nat.zero_le _) ?_ ?_
  · exact Sub.w [] [[(0,0)]]
  intro k hk
  refine walkS0 ?_
  refine AWP.condD rfl (fun h => ?_) (fun h => ?_)
  · have hr := u64R_ix l k h
    have hv := hb l[k] (List.getElem_mem h)
    have ht : l.take (k + 1) = l.take k ++ [l[k]] := List.take_succ_eq_append_getElem h
    have hm := merge_sumL (l.take k) l[k] (fun c hc => hb c (List.mem_of_mem_take hc)) hv (by rw [List.length_take]; omega)
    rw [← ht] at hm
    generalize l[k] = b at *
    refine walkS0 ?_
    refine Reg.c (Nat.zero_le _) rfl ((add_at (a := sumL (l.take k)) (g := 0) (i := 0) (b := b) rfl hv).mono ?_)
    rintro res H' ⟨rfl, rfl⟩
    rw [hm]
    refine walkS0 ?_
    refine ⟨k + 1, by omega, by omega, ?_⟩
    exact Sub.w [] [[(0,0)]]
  · have hk : k = l.length := by omega
    subst hk
    rw [List.take_of_length_le (Nat.le_refl _)]
    refine walkS0 ?_
    (refine endH [[(0,0)]] (by first | exact .inr rfl | exact .inl rfl) rfl ⟨rfl, rfl⟩ ?_ ?_ rfl rfl rfl; all_goals (repeat' (first | exact ToAll.nil | exact famsTo.nil | exact famTo.nil | exact ToL.nil | exact ToR.nil | refine ToAll.cons ?_ ?_ | refine famsTo.cons ?_ ?_ | refine wt10 ?_ ?_ | exact To.undef _ | exact To.sc _ | exact To.hslL rfl rfl | exact To.ptrO rfl rfl rfl | exact To.mrefO rfl | exact To.nil rfl rfl rfl | exact wt1 | exact To.nilL | refine To.int ?_ | refine To.bool ?_ | refine To.hslL rfl ?_ | refine wt2 rfl ?_ ?_ ?_ | refine To.tupL ?_ | refine To.aggL ?_ | refine To.cptrL ?_ | refine wt3 ?_ | refine wt4 ?_ | refine To.cloL ?_ ?_ | exact wt5 | refine wt6 ?_ | refine ToB.one ?_ | exact wt7 | ((with_reducible apply ToL.consE); case e9 => rfl) | refine wt8 ?_ | refine ToL.cons ?_ ?_ | exact wt11 | refine wt9 ?_ ?_ | refine wt12 ?_ | (with_reducible rfl) | assumption)); all_goals (first | rfl | assumption | (simp; done) | (simp; omega) | (rw [wrap_small (by omega) (by omega)]; done) | (rw [wrap_small (by omega) (by omega)]; omega) | (refine congrArg Nat.cast ?_; assumption) | skip))

theorem of_at (H : Heap) (l : List Nat) (hl : l.length ≤ 4000) (hb : ∀ b ∈ l, b < 18446744073709551616) : CallOK Try.prog 26 [.list 1 (u64R l)] H fun res H' => res = .tup [.ptr H.length 0 0 0, .sc (.bool true)] ∧ H' = H ++ [[.cells 41 [(sumL l).acc true]]] := by
  refine (of_ok l hl hb).frame (fun a ha => by rw [List.mem_singleton.1 ha]; exact pv (.list 1 (u64R l))) H ?_
  rintro res H0 ⟨rfl, rfl⟩
  exact ⟨_, _, ren_ptr _ _, frame_acc _ _ _, fun _ _ h => h, rfl, rfl⟩

/-- Four parts. -/
def arr2 : List AV := [.ptr 1 0 0 0, .ptr 1 1 0 0, .ptr 1 2 0 0, .ptr 1 3 0 0]
def acc4 (p : Nat → St) : List Blk := [.cells 41 [(p 0).acc true], .cells 41 [(p 1).acc true], .cells 41 [(p 2).acc true], .cells 41 [(p 3).acc true]]
def ptH (a : St) (p : Nat → St) (G : Heap) : Heap := [.cells 41 [a.acc true]] :: acc4 p :: [.cells 4 [arr2]] :: G
theorem arr2_get {x : Nat} (h : x < 4) : arr2[x]? = some (.ptr 1 x 0 0) := by
  rcases (by omega : x = 0 ∨ x = 1 ∨ x = 2 ∨ x = 3) with rfl | rfl | rfl | rfl <;> rfl
theorem pt_hget {a : St} {p : Nat → St} {G : Heap} {x : Nat} (h : x < 4) : hget (ptH a p G) 1 x = some (.cells 41 [(p x).acc true]) := by
  rcases (by omega : x = 0 ∨ x = 1 ∨ x = 2 ∨ x = 3) with rfl | rfl | rfl | rfl <;> rfl
theorem pt_hset {a : St} {p : Nat → St} {G : Heap} {x : Nat} (v : St) (h : x < 4) : hset (ptH a p G) 1 x (.cells 41 [v.acc true]) = ptH a (fun i => if i = x then v else p i) G := by
  rcases (by omega : x = 0 ∨ x = 1 ∨ x = 2 ∨ x = 3) with rfl | rfl | rfl | rfl <;> rfl
theorem pt_self {p : Nat → St} {x : Nat} : (fun i => if i = x then p x else p i) = p := by
  funext i
  split
  · rename_i h; rw [h]
  · rfl
def iv : Nat → Int
  | 0 => -1
  | m + 1 => (m : Int)

/-- Into which part the number goes. -/
def pk (part : List Nat) (m : Nat) : Nat := if part.length = 0 then 0 else part.getD (m % part.length) 0 % 4
theorem pk_lt (part : List Nat) (m : Nat) : pk part m < 4 := by
  unfold pk
  split
  · decide
  · exact Nat.mod_lt _ (by decide)

end Go.Proofs.Ytnngbbiajioghaa
namespace Go.Proofs.Ytnngbbiajioghaa
open Go.Av Go.Proofs
set_option exponentiation.threshold 4000
set_option maxRecDepth 20000

/-! Sums of two numbers as by the machine: the plain law. -/
theorem dLeast : Ieee.double.leastPlace = -1074 := by decide
theorem dBinade : Ieee.double.binade = expN := by decide
theorem dInf : Ieee.double.infRung = infN := by decide
theorem dSign : Ieee.double.signWeight = signN := by decide

theorem log2_shl {m : Nat} (h : m ≠ 0) (q : Nat) : (m * 2 ^ q).log2 = m.log2 + q := by
  have h0 : 0 < 2 ^ q := Nat.pow_pos (by decide)
  have h1 : m * 2 ^ q ≠ 0 := Nat.mul_ne_zero h (by omega)
  have a1 := Nat.log2_self_le h
  have a2 := Nat.lt_log2_self (n := m)
  refine (Nat.log2_eq_iff h1).2 ⟨?_, ?_⟩
  · rw [Nat.pow_add]; exact Nat.mul_le_mul_right _ a1
  · rw [show m.log2 + q + 1 = m.log2 + 1 + q by omega, Nat.pow_add _ (m.log2 + 1) q]
    exact (Nat.mul_lt_mul_right h0).2 a2

/-- The word nearest to a number times a power of two is the document's rounding of that number. -/
theorem cut_eq (neg : Bool) {m q k : Nat} (hk : k = m.log2 + q - 52) :
    Ieee.Toward.even.cut neg (m <<< (q - k)) (k - q) =
      if 0 < (if k = 0 then -1 else cmpN (m * 2 ^ q % 2 ^ k) (2 ^ (k - 1))) ∨ ((if k = 0 then -1 else cmpN (m * 2 ^ q % 2 ^ k) (2 ^ (k - 1))) = (0 : Int) ∧ m * 2 ^ q / 2 ^ k % 2 = 1) then m * 2 ^ q / 2 ^ k + 1 else m * 2 ^ q / 2 ^ k := by
  by_cases h : k ≤ q
  · have e1 : m * 2 ^ q = m * 2 ^ (q - k) * 2 ^ k := by rw [Nat.mul_assoc, ← Nat.pow_add, Nat.sub_add_cancel h]
    have h0 : 0 < 2 ^ k := Nat.pow_pos (by decide)
    have e2 : m * 2 ^ q % 2 ^ k = 0 := by rw [e1, Nat.mul_mod_left]
    have e3 : m * 2 ^ q / 2 ^ k = m * 2 ^ (q - k) := by rw [e1, Nat.mul_div_cancel _ h0]
    have e4 : (if k = 0 then (-1 : Int) else cmpN 0 (2 ^ (k - 1))) = -1 := by
      split
      · rfl
      · unfold cmpN
        rw [if_pos (Nat.pow_pos (by decide))]
    rw [e2, e3, e4, if_neg (by omega), show k - q = 0 by omega]
    unfold Ieee.Toward.cut
    simp [Nat.mod_one, Nat.shiftLeft_eq]
  · have hq : q - k = 0 := by omega
    have hd : k - q ≤ m.log2 := by omega
    have h1 : 0 < 2 ^ q := Nat.pow_pos (by decide)
    have ek : 2 ^ k = 2 ^ (k - q) * 2 ^ q := by rw [← Nat.pow_add, Nat.sub_add_cancel (by omega)]
    have ek1 : 2 ^ (k - 1) = 2 ^ (k - q - 1) * 2 ^ q := by rw [← Nat.pow_add]; congr 1; omega
    have e2 : m * 2 ^ q % 2 ^ k = m % 2 ^ (k - q) * 2 ^ q := by rw [ek, Nat.mul_mod_mul_right]
    have e3 : m * 2 ^ q / 2 ^ k = m / 2 ^ (k - q) := by rw [ek, Nat.mul_div_mul_right _ _ h1]
    have e5 : 2 ^ (k - q) = 2 * 2 ^ (k - q - 1) := by rw [← Nat.pow_succ']; congr 1; omega
    have e4 : cmpN (m % 2 ^ (k - q) * 2 ^ q) (2 ^ (k - q - 1) * 2 ^ q) = cmpN (m % 2 ^ (k - q)) (2 ^ (k - q - 1)) := by
      unfold cmpN
      simp only [Nat.mul_lt_mul_right h1]
    rw [e2, e3, ek1, e4, if_neg (show ¬ k = 0 by omega), hq]
    unfold Ieee.Toward.cut
    simp only [Nat.shiftLeft_zero, Nat.one_shiftLeft]
    rw [Nat.min_eq_left (by omega)]
    unfold cmpN
    rw [e5]
    generalize 2 ^ (k - q - 1) = g
    generalize m / (2 * g) = lo
    generalize m % (2 * g) = r
    by_cases c1 : r < g
    · rw [if_pos c1]
      simp
      omega
    · by_cases c2 : g < r
      · rw [if_neg c1, if_pos c2]
        simp
        omega
      · have : r = g := by omega
        subst this
        rw [if_neg c1, if_neg c1]
        by_cases c3 : lo % 2 = 1
        · simp [c3]
        · simp [c3]

theorem nearest_eq (neg : Bool) {m : Nat} (hm : m ≠ 0) (q : Nat) : Ieee.double.nearest neg m ((q : Int) - 1074) = (if neg then signN else 0) + roundN (m * 2 ^ q) := by
  have hl := log2_shl hm q
  have h1 : m * 2 ^ q ≠ 0 := Nat.mul_ne_zero hm (Nat.ne_of_gt (Nat.pow_pos (by decide)))
  have hb : blen (m * 2 ^ q) - 53 = m.log2 + q - 52 := by unfold blen; rw [if_neg h1, hl]; omega
  unfold Ieee.Format.nearest
  rw [if_neg hm, dLeast, dBinade, dInf]
  have hf : (Ieee.double.fractionBits : Int) = 52 := rfl
  have e1 : max ((q : Int) - 1074 + m.log2 - Ieee.double.fractionBits) (-1074) = ((m.log2 + q - 52 : Nat) : Int) - 1074 := by rw [hf]; omega
  simp only [e1]
  have e2 : ((q : Int) - 1074 - (((m.log2 + q - 52 : Nat) : Int) - 1074)).toNat = q - (m.log2 + q - 52) := by omega
  have e3 : (((m.log2 + q - 52 : Nat) : Int) - 1074 - ((q : Int) - 1074)).toNat = (m.log2 + q - 52) - q := by omega
  have e4 : (((m.log2 + q - 52 : Nat) : Int) - 1074 - (-1074)).toNat = m.log2 + q - 52 := by omega
  rw [e2, e3, e4, cut_eq neg rfl]
  unfold roundN
  rw [hb]
  have hw : ∀ r, Ieee.double.word neg r = (if neg then signN else 0) + r := fun r => by
    unfold Ieee.Format.word
    rw [dSign]
    cases neg <;> simp
  rw [hw]
  congr 1
  by_cases hk : 2045 < m.log2 + q - 52
  · rw [if_pos hk]
    refine Nat.min_eq_right ?_
    have h2 : 4503599627370496 ≤ m * 2 ^ q / 2 ^ (m.log2 + q - 52) := by
      rw [Nat.le_div_iff_mul_le (Nat.pow_pos (by decide)), show (4503599627370496 : Nat) = 2 ^ 52 from rfl, ← Nat.pow_add, show 52 + (m.log2 + q - 52) = (m * 2 ^ q).log2 by rw [hl]; omega]
      exact Nat.log2_self_le h1
    have h3 : ∀ (p : Prop) [Decidable p] (x : Nat), x ≤ if p then x + 1 else x := fun p _ x => by split <;> omega
    refine Nat.le_trans ?_ (Nat.add_le_add_left (h3 _ _) _)
    unfold infN expN
    omega
  · rw [if_neg hk, Nat.min_comm]

end Go.Proofs.Ytnngbbiajioghaa
namespace Go.Proofs.Ytnngbbiajioghaa
open Go.Av Go.Proofs
set_option exponentiation.threshold 4000
set_option maxRecDepth 20000

/-! Sums of two numbers as by the machine: what a word stands for. -/
theorem read_nan {b : Nat} (h : infN < b % 9223372036854775808) : ∃ s t, Ieee.double.read b = .nan s t := by
  unfold infN at h
  unfold Ieee.Format.read
  simp only [dSign, dBinade, dInf]
  unfold signN expN infN
  rw [if_neg (by omega), if_neg (by omega), if_neg (by omega)]
  exact ⟨_, _, rfl⟩
theorem neg_eq {b : Nat} (hb : b < 18446744073709551616) : (b / 9223372036854775808 % 2 == 1) = decide (9223372036854775808 ≤ b) := by
  rw [Bool.eq_iff_iff]
  simp
  omega
theorem read_inf {b : Nat} (hb : b < 18446744073709551616) (h : b % 9223372036854775808 = infN) : Ieee.double.read b = .infinity (decide (9223372036854775808 ≤ b)) := by
  unfold infN at h
  unfold Ieee.Format.read
  simp only [dSign, dBinade, dInf]
  unfold signN expN infN
  rw [if_neg (by omega), if_neg (by omega), if_pos (by omega), neg_eq hb]
theorem read_num {b : Nat} (hb : b < 18446744073709551616) (h : b % 9223372036854775808 < infN) : ∃ m q : Nat, Ieee.double.read b = .number (decide (9223372036854775808 ≤ b)) m ((q : Int) - 1074) ∧ m * 2 ^ q = oneN b := by
  unfold infN at h
  unfold Ieee.Format.read
  simp only [dSign, dBinade, dInf, dLeast]
  unfold signN expN infN
  rw [neg_eq hb]
  have e1 : b / 4503599627370496 % 2048 = b % 9223372036854775808 / 4503599627370496 := by omega
  by_cases h1 : b % 9223372036854775808 < 4503599627370496
  · rw [if_pos h1]
    refine ⟨_, 0, rfl, ?_⟩
    unfold oneN
    rw [e1, if_pos (by omega)]
    congr 1
    omega
  · rw [if_neg h1, if_pos (by omega)]
    refine ⟨4503599627370496 + b % 9223372036854775808 % 4503599627370496, b % 9223372036854775808 / 4503599627370496 - 1, ?_, ?_⟩
    · congr 1
    · unfold oneN
      rw [e1, if_neg (by omega)]
      congr 1
      omega
theorem round_lt (N : Nat) : roundN N < 9223372036854775808 := Nat.lt_of_le_of_lt (roundN_le N) (by decide)
theorem sign_or (N : Nat) : signN ||| roundN N = signN + roundN N := by
  rw [Nat.or_comm]
  have := or_sign (round_lt N)
  unfold signN
  omega

/-- Two numbers, as whole numbers of the least unit. -/
theorem sum_num {s t : Bool} {m n q r : Nat} :
    ∃ v : Int, ∃ p : Nat, ∃ neg : Bool, Ieee.Datum.sum (.number s m ((q : Int) - 1074)) (.number t n ((r : Int) - 1074)) = some (.number neg v.natAbs ((p : Int) - 1074)) ∧ neg = (if v = 0 then s && t else decide (v < 0))
      ∧ v * 2 ^ p = (if s then -((m * 2 ^ q : Nat) : Int) else (m * 2 ^ q : Nat)) + (if t then -((n * 2 ^ r : Nat) : Int) else (n * 2 ^ r : Nat)) := by
  have eb : min ((q : Int) - 1074) ((r : Int) - 1074) = ((min q r : Nat) : Int) - 1074 := by omega
  have e1 : ((q : Int) - 1074 - (((min q r : Nat) : Int) - 1074)).toNat = q - min q r := by omega
  have e2 : ((r : Int) - 1074 - (((min q r : Nat) : Int) - 1074)).toNat = r - min q r := by omega
  refine ⟨Ieee.signed s m (q - min q r) + Ieee.signed t n (r - min q r), min q r, _, by unfold Ieee.Datum.sum; simp only [eb, e1, e2], rfl, ?_⟩
  have f : ∀ (s : Bool) (m q p : Nat), p ≤ q → Ieee.signed s m (q - p) * 2 ^ p = (if s then -((m * 2 ^ q : Nat) : Int) else (m * 2 ^ q : Nat)) := fun s m q p hp => by
    have e : m <<< (q - p) * 2 ^ p = m * 2 ^ q := by rw [Nat.shiftLeft_eq, Nat.mul_assoc, ← Nat.pow_add, Nat.sub_add_cancel hp]
    unfold Ieee.signed
    cases s
    · show ((m <<< (q - p) : Nat) : Int) * 2 ^ p = ((m * 2 ^ q : Nat) : Int)
      rw [← e]
      push_cast
      rfl
    · show -((m <<< (q - p) : Nat) : Int) * 2 ^ p = -((m * 2 ^ q : Nat) : Int)
      rw [← e]
      push_cast
      rw [Int.neg_mul]
  rw [Int.add_mul, f s m q _ (by omega), f t n r _ (by omega)]

end Go.Proofs.Ytnngbbiajioghaa
namespace Go.Proofs.Ytnngbbiajioghaa
open Go.Av Go.Proofs
set_option exponentiation.threshold 4000
set_option maxRecDepth 20000

/-! Sums of two numbers as by the machine: the law. -/
theorem one_n {b : Nat} (hb : b < 18446744073709551616) (h : b % 9223372036854775808 < infN) :
    (oneS b).nan = false ∧ (oneS b).plus = false ∧ (oneS b).minus = false ∧ ((oneS b).zero = if b = 9223372036854775808 then 1 else 2) ∧
      ∃ c : Int, ((oneS b).n : Int) = (if 9223372036854775808 ≤ b then -((oneN b : Nat) : Int) else (oneN b : Nat)) + c * (big : Nat) := by
  have hlt := oneN_lt (b := b) (by omega)
  have hbig : (2 : Nat) ^ 2098 < 2 ^ 2304 := Nat.pow_lt_pow_right (by decide) (by decide)
  unfold oneS
  rw [if_neg (by omega), if_neg (by omega)]
  by_cases h1 : b = 9223372036854775808
  · rw [if_pos h1, if_pos h1]
    refine ⟨rfl, rfl, rfl, rfl, 0, ?_⟩
    subst h1
    show ((0 : Nat) : Int) = _
    have : oneN 9223372036854775808 = 0 := by decide +kernel
    rw [this]
    simp
  · rw [if_neg h1, if_neg h1]
    refine ⟨rfl, rfl, rfl, rfl, ?_⟩
    by_cases h2 : 9223372036854775808 ≤ b
    · rw [if_pos h2]
      refine ⟨1, ?_⟩
      rw [if_pos h2]
      show ((2 ^ 2304 - oneN b : Nat) : Int) = _
      unfold big
      omega
    · rw [if_neg h2]
      refine ⟨0, ?_⟩
      rw [if_neg h2]
      show ((oneN b : Nat) : Int) = _
      simp

theorem word_eq (neg : Bool) (r : Nat) : Ieee.double.word neg r = (if neg then signN else 0) + r := by
  unfold Ieee.Format.word
  rw [dSign]
  cases neg <;> simp
theorem one_inf {b : Nat} (h : b % 9223372036854775808 = infN) : oneS b = ⟨0, false, decide (¬ 9223372036854775808 ≤ b), decide (9223372036854775808 ≤ b), 2⟩ := by
  unfold oneS
  rw [if_neg (by omega), if_pos h]
theorem one_nan {b : Nat} (h : infN < b % 9223372036854775808) : oneS b = ⟨0, true, false, false, 2⟩ := by
  unfold oneS
  rw [if_pos h]
theorem value_nan {s : St} (h : s.nan = true) : s.value = nanN := by
  unfold St.value
  rw [if_pos (.inl h)]
theorem value_both {s : St} (h : s.plus = true) (g : s.minus = true) : s.value = nanN := by
  unfold St.value
  rw [if_pos (.inr ⟨h, g⟩)]
theorem value_plus {s : St} (f : s.nan = false) (h : s.plus = true) (g : s.minus = false) : s.value = infN := by
  unfold St.value
  rw [f, h, g]
  rfl
theorem value_minus {s : St} (f : s.nan = false) (h : s.plus = false) (g : s.minus = true) : s.value = signN + infN := by
  unfold St.value
  rw [f, h, g]
  rfl
theorem value_num {s : St} (f : s.nan = false) (h : s.plus = false) (g : s.minus = false) : s.value = if s.zero = 1 then signN else if 2 ^ 2303 ≤ s.n then signN + roundN (2 ^ 2304 - s.n) else roundN s.n := by
  unfold St.value
  rw [f, h, g, sign_or]
  simp

theorem add_num {a b : Nat} (ha : a < 18446744073709551616) (hb : b < 18446744073709551616) (ia : a % 9223372036854775808 < infN) (ib : b % 9223372036854775808 < infN) :
    ∃ r, Ieee.double.add a b = some r ∧ (comb (oneS a) (oneS b)).value = r ∧ ¬ infN < r % 9223372036854775808 := by
  obtain ⟨m, q, e1, f1⟩ := read_num ha ia
  obtain ⟨n, r, e2, f2⟩ := read_num hb ib
  obtain ⟨v, p, neg, e3, e4, e5⟩ := sum_num (s := decide (9223372036854775808 ≤ a)) (t := decide (9223372036854775808 ≤ b)) (m := m) (n := n) (q := q) (r := r)
  obtain ⟨a1, a2, a3, a4, c, a5⟩ := one_n ha ia
  obtain ⟨b1, b2, b3, b4, d, b5⟩ := one_n hb ib
  have la := oneN_lt (b := a) (by omega)
  have lb := oneN_lt (b := b) (by omega)
  have za : 9223372036854775808 ≤ a → oneN a = 0 → a = 9223372036854775808 := fun h h0 => by
    have := oneN_pos (b := a)
    omega
  have zb : 9223372036854775808 ≤ b → oneN b = 0 → b = 9223372036854775808 := fun h h0 => by
    have := oneN_pos (b := b)
    omega
  have z0 : oneN 9223372036854775808 = 0 := by decide +kernel
  rw [f1, f2] at e5
  simp only [decide_eq_true_eq] at e5
  unfold Ieee.Format.add
  rw [e1, e2, e3]
  refine ⟨_, rfl, ?_⟩
  have hv := value_num (s := comb (oneS a) (oneS b)) (show ((oneS a).nan || (oneS b).nan) = false by rw [a1, b1]; rfl) (show ((oneS a).plus || (oneS b).plus) = false by rw [a2, b2]; rfl) (show ((oneS a).minus || (oneS b).minus) = false by rw [a3, b3]; rfl)
  have hz : (comb (oneS a) (oneS b)).zero = max (if a = 9223372036854775808 then 1 else 2) (if b = 9223372036854775808 then 1 else 2) := by
    show max (oneS a).zero (oneS b).zero = _
    rw [a4, b4]
  have hn : ((comb (oneS a) (oneS b)).n : Int) = (v * 2 ^ p) % (big : Nat) := by
    show ((((oneS a).n + (oneS b).n) % big : Nat) : Int) = _
    rw [Int.natCast_emod, Int.natCast_add, a5, b5, e5, show ∀ x y z : Int, (x + c * z) + (y + d * z) = (x + y) + (c + d) * z from fun x y z => by rw [Int.add_mul]; omega, Int.add_mul_emod_self_right]
  rw [hv, hz]
  generalize (comb (oneS a) (oneS b)).n = N at *
  show _ = Ieee.double.nearest neg v.natAbs ((p : Int) - 1074) ∧ ¬ infN < Ieee.double.nearest neg v.natAbs ((p : Int) - 1074) % _
  have hT : (2 : Nat) ^ 2304 = 2 * 2 ^ 2303 := big_facts.2
  have hS : (2 : Nat) ^ 2098 + 2 ^ 2098 < 2 ^ 2303 := by
    rw [← Nat.two_mul, ← Nat.pow_succ']
    exact Nat.pow_lt_pow_right (by decide) (by decide)
  have hbig : big = 2 ^ 2304 := rfl
  rw [hbig] at hn
  by_cases v0 : v = 0
  · subst v0
    rw [Int.zero_mul] at e5 hn
    rw [Int.zero_emod] at hn
    have hN : N = 0 := by omega
    subst hN
    rw [if_pos rfl] at e4
    rw [show Ieee.double.nearest neg (0 : Int).natAbs ((p : Int) - 1074) = (if neg then signN else 0) + 0 from word_eq neg 0, if_neg (show ¬ 2 ^ 2303 ≤ 0 from Nat.not_le.2 (Nat.pow_pos (by decide))), round_zero]
    by_cases sa : 9223372036854775808 ≤ a
    · by_cases sb : 9223372036854775808 ≤ b
      · rw [decide_eq_true sa, decide_eq_true sb] at e4
        rw [if_pos sa, if_pos sb] at e5
        have xa := za sa (by omega)
        have xb := zb sb (by omega)
        rw [e4, if_pos xa, if_pos xb]
        exact ⟨rfl, by decide⟩
      · rw [decide_eq_false sb, Bool.and_false] at e4
        rw [e4, if_neg (show ¬ b = 9223372036854775808 by omega), if_neg (by split <;> decide)]
        exact ⟨rfl, by decide⟩
    · rw [decide_eq_false sa, Bool.false_and] at e4
      rw [e4, if_neg (show ¬ a = 9223372036854775808 by omega), if_neg (by split <;> decide)]
      exact ⟨rfl, by decide⟩
  · rw [if_neg v0] at e4
    have hne : ¬ max (if a = 9223372036854775808 then 1 else 2) (if b = 9223372036854775808 then 1 else 2) = 1 := fun h => by
      by_cases xa : a = 9223372036854775808
      · by_cases xb : b = 9223372036854775808
        · subst xa xb
          rw [z0] at e5
          have h1 : v * 2 ^ p = 0 := by rw [e5]; simp
          rcases Int.mul_eq_zero.1 h1 with h2 | h2
          · exact v0 h2
          · exact absurd h2 (Int.ne_of_gt (Int.pow_pos (by decide)))
        · rw [if_neg xb] at h
          revert h
          split <;> decide
      · rw [if_neg xa] at h
        revert h
        split <;> decide
    rw [if_neg hne, nearest_eq neg (by omega) p]
    have hw : v * 2 ^ p = if v < 0 then -((v.natAbs * 2 ^ p : Nat) : Int) else ((v.natAbs * 2 ^ p : Nat) : Int) := by
      split
      · rename_i h
        rw [Int.natCast_mul, Int.ofNat_natAbs_of_nonpos (by omega), Int.neg_mul, Int.neg_neg]
        simp
      · rename_i h
        rw [Int.natCast_mul, Int.natAbs_of_nonneg (by omega)]
        simp
    have hpos : 0 < v.natAbs * 2 ^ p := Nat.mul_pos (by omega) (Nat.pow_pos (by decide))
    rw [hw] at e5 hn
    have hr := roundN_le (v.natAbs * 2 ^ p)
    generalize v.natAbs * 2 ^ p = W at *
    have hb2 : ∀ x : Int, 0 ≤ x → x < ((2 ^ 2304 : Nat) : Int) → x % ((2 ^ 2304 : Nat) : Int) = x := fun x h1 h2 => Int.emod_eq_of_lt h1 h2
    have hm : ∀ x : Int, (-x) % ((2 ^ 2304 : Nat) : Int) = (((2 ^ 2304 : Nat) : Int) - x) % ((2 ^ 2304 : Nat) : Int) := fun x => by
      rw [show ((2 ^ 2304 : Nat) : Int) - x = -x + 1 * ((2 ^ 2304 : Nat) : Int) by omega, Int.add_mul_emod_self_right]
    have hsg : signN = 9223372036854775808 := rfl
    have hin : infN = 9218868437227405312 := rfl
    generalize (2 : Nat) ^ 2304 = B at *
    generalize (2 : Nat) ^ 2303 = T at *
    generalize (2 : Nat) ^ 2098 = S at *
    have hWS : W < S + S := by
      split at e5 <;> split at e5 <;> split at e5 <;> omega
    by_cases hv : v < 0
    · rw [if_pos hv, hm, hb2 _ (by omega) (by omega)] at hn
      rw [e4, decide_eq_true hv, if_pos rfl, if_pos (by omega), show B - N = W by omega]
      omega
    · rw [if_neg hv, hb2 _ (by omega) (by omega)] at hn
      rw [e4, decide_eq_false hv, if_neg (show ¬ T ≤ N by omega), show N = W by omega]
      simp only [Bool.false_eq_true, if_false, Nat.zero_add, true_and]
      omega

theorem add_value {a b : Nat} (ha : a < 18446744073709551616) (hb : b < 18446744073709551616) :
    match Ieee.double.add a b with
    | none => (comb (oneS a) (oneS b)).value = nanN
    | some r => (comb (oneS a) (oneS b)).value = r ∧ ¬ infN < r % 9223372036854775808 := by
  by_cases na : infN < a % 9223372036854775808
  · obtain ⟨s, t, e⟩ := read_nan na
    unfold Ieee.Format.add
    rw [e]
    exact value_nan (show ((oneS a).nan || (oneS b).nan) = true by rw [one_nan na]; rfl)
  by_cases nb : infN < b % 9223372036854775808
  · obtain ⟨s, t, e⟩ := read_nan nb
    unfold Ieee.Format.add
    rw [e, show Ieee.Datum.sum (Ieee.double.read a) (.nan s t) = none by cases Ieee.double.read a <;> rfl]
    exact value_nan (show ((oneS a).nan || (oneS b).nan) = true by rw [one_nan nb]; simp)
  have hi : ∀ s, Ieee.double.write (.infinity s) = (if s then signN else 0) + infN := fun s => by
    show Ieee.double.word s Ieee.double.infRung = _
    rw [word_eq, dInf]
  have hp : ¬ infN < infN % 9223372036854775808 := by decide
  have hm : ¬ infN < (signN + infN) % 9223372036854775808 := by decide
  by_cases ia : a % 9223372036854775808 = infN
  · have ea := read_inf ha ia
    have oa := one_inf ia
    by_cases ib : b % 9223372036854775808 = infN
    · have eb := read_inf hb ib
      have ob := one_inf ib
      unfold Ieee.Format.add
      rw [ea, eb, oa, ob]
      by_cases sa : 9223372036854775808 ≤ a <;> by_cases sb : 9223372036854775808 ≤ b
      · rw [decide_eq_true sa, decide_eq_true sb]
        exact ⟨(value_minus rfl (by simp [comb, sa, sb]) rfl).trans (hi true).symm, by rw [hi]; exact hm⟩
      · rw [decide_eq_true sa, decide_eq_false sb]
        exact value_both (by simp [comb, sb]) rfl
      · rw [decide_eq_false sa, decide_eq_true sb]
        exact value_both (by simp [comb, sa]) rfl
      · rw [decide_eq_false sa, decide_eq_false sb]
        exact ⟨(value_plus rfl (by simp [comb, sa, sb]) rfl).trans (hi false).symm, by rw [hi]; exact hp⟩
    · obtain ⟨b1, b2, b3, b4, d, b5⟩ := one_n hb (by omega)
      obtain ⟨n, r, e2, f2⟩ := read_num hb (by omega)
      unfold Ieee.Format.add
      rw [ea, e2, oa]
      by_cases sa : 9223372036854775808 ≤ a
      · rw [decide_eq_true sa]
        exact ⟨(value_minus (by simp [comb, b1]) (by simp [comb, sa, b2]) rfl).trans (hi true).symm, by rw [hi]; exact hm⟩
      · rw [decide_eq_false sa]
        exact ⟨(value_plus (by simp [comb, b1]) (by simp [comb, sa]) (by simp [comb, b3])).trans (hi false).symm, by rw [hi]; exact hp⟩
  · by_cases ib : b % 9223372036854775808 = infN
    · have eb := read_inf hb ib
      have ob := one_inf ib
      obtain ⟨b1, b2, b3, b4, d, b5⟩ := one_n ha (by omega)
      obtain ⟨n, r, e2, f2⟩ := read_num ha (by omega)
      unfold Ieee.Format.add
      rw [eb, e2, ob]
      by_cases sb : 9223372036854775808 ≤ b
      · rw [decide_eq_true sb]
        exact ⟨(value_minus (by simp [comb, b1]) (by simp [comb, sb, b2]) (by simp [comb])).trans (hi true).symm, by rw [hi]; exact hm⟩
      · rw [decide_eq_false sb]
        exact ⟨(value_plus (by simp [comb, b1]) (by simp [comb, sb]) (by simp [comb, b3])).trans (hi false).symm, by rw [hi]; exact hp⟩
    · obtain ⟨r, e, h⟩ := add_num ha hb (by omega) (by omega)
      rw [e]
      exact h

end Go.Proofs.Ytnngbbiajioghaa
namespace Go.Proofs.Ytnngbbiajioghaa
open Go.Av Go.Proofs
set_option exponentiation.threshold 4000
set_option maxRecDepth 20000

/-! One number; the order of numbers. -/
theorem round_exact {m k : Nat} (h1 : 4503599627370496 ≤ m) (h2 : m < 9007199254740992) (hk : k ≤ 2045) : roundN (m * 2 ^ k) = min infN (k * expN + m) := by
  have hm : m ≠ 0 := by omega
  have hl := log2_shl hm k
  have hl2 : m.log2 = 52 := (Nat.log2_eq_iff hm).2 ⟨h1, h2⟩
  have h0 : 0 < 2 ^ k := Nat.pow_pos (by decide)
  have hb : blen (m * 2 ^ k) - 53 = k := by
    unfold blen
    rw [if_neg (Nat.mul_ne_zero hm (by omega)), hl, hl2]
    omega
  unfold roundN
  rw [hb, if_neg (by omega)]
  dsimp only
  rw [Nat.mul_mod_left, Nat.mul_div_cancel _ h0]
  have e : (if k = 0 then (-1 : Int) else cmpN 0 (2 ^ (k - 1))) = -1 := by
    split
    · rfl
    · unfold cmpN
      rw [if_pos (Nat.pow_pos (by decide))]
  simp only [e]
  rw [if_neg (by omega)]
theorem round_small {m : Nat} (h : m < 4503599627370496) : roundN m = m := by
  have hb : blen m - 53 = 0 := by
    unfold blen
    split
    · rfl
    · rename_i h0
      have := (Nat.log2_lt (n := m) (k := 52) h0).2 h
      omega
  unfold roundN
  rw [hb, if_neg (by omega)]
  simp only [Nat.pow_zero, Nat.div_one, if_true]
  rw [if_neg (by omega)]
  unfold infN
  omega
theorem round_one {b : Nat} (h : b % 9223372036854775808 < infN) : roundN (oneN b) = b % 9223372036854775808 := by
  have h' := h
  unfold infN at h'
  unfold oneN
  by_cases e : b / 4503599627370496 % 2048 = 0
  · rw [if_pos e, Nat.pow_zero, Nat.mul_one, round_small (Nat.mod_lt _ (by decide))]
    omega
  · rw [if_neg e, round_exact (by omega) (by omega) (by omega)]
    unfold infN expN
    omega
theorem value_one {b : Nat} (hb : b < 18446744073709551616) (hn : ¬ infN < b % 9223372036854775808) : (oneS b).value = b := by
  by_cases hi : b % 9223372036854775808 = infN
  · rw [one_inf hi]
    unfold infN at hi
    by_cases s : 9223372036854775808 ≤ b
    · rw [value_minus rfl (by simp [s]) (by simp [s])]
      unfold signN infN
      omega
    · rw [value_plus rfl (by simp [s]) (by simp [s])]
      unfold infN
      omega
  · have hlt : b % 9223372036854775808 < infN := by omega
    have hr := round_one hlt
    have hl := oneN_lt (b := b) (by omega)
    have hT : (2 : Nat) ^ 2304 = 2 * 2 ^ 2303 := big_facts.2
    have hS : (2 : Nat) ^ 2098 < 2 ^ 2303 := Nat.pow_lt_pow_right (by decide) (by decide)
    have hp := oneN_pos (b := b)
    unfold oneS
    rw [if_neg hn, if_neg hi]
    by_cases h1 : b = 9223372036854775808
    · rw [if_pos h1, value_num rfl rfl rfl, h1]
      rfl
    · rw [if_neg h1, value_num rfl rfl rfl]
      show (if 2 = 1 then signN else _) = b
      rw [if_neg (by decide)]
      by_cases s : 9223372036854775808 ≤ b
      · have hp := hp (by omega)
        rw [if_pos s]
        show (if 2 ^ 2303 ≤ 2 ^ 2304 - oneN b then signN + roundN (2 ^ 2304 - (2 ^ 2304 - oneN b)) else roundN (2 ^ 2304 - oneN b)) = b
        generalize oneN b = W at *
        generalize (2 : Nat) ^ 2304 = B at *
        generalize (2 : Nat) ^ 2303 = T at *
        generalize (2 : Nat) ^ 2098 = S at *
        rw [if_pos (by omega), show B - (B - W) = W by omega, hr]
        unfold signN
        omega
      · rw [if_neg s]
        show (if 2 ^ 2303 ≤ oneN b then signN + roundN (2 ^ 2304 - oneN b) else roundN (oneN b)) = b
        generalize oneN b = W at *
        generalize (2 : Nat) ^ 2304 = B at *
        generalize (2 : Nat) ^ 2303 = T at *
        generalize (2 : Nat) ^ 2098 = S at *
        rw [if_neg (by omega), hr]
        omega

theorem oneN_mono {a b : Nat} (h : a % 9223372036854775808 ≤ b % 9223372036854775808) : oneN a ≤ oneN b := by
  unfold oneN
  have ha : a % 4503599627370496 < 4503599627370496 := Nat.mod_lt _ (by decide)
  by_cases e : b / 4503599627370496 % 2048 = 0
  · rw [if_pos e, if_pos (by omega), Nat.pow_zero, Nat.mul_one, Nat.mul_one]
    omega
  · rw [if_neg e]
    by_cases e1 : a / 4503599627370496 % 2048 = 0
    · rw [if_pos e1, Nat.pow_zero, Nat.mul_one]
      have := Nat.le_mul_of_pos_right (b % 4503599627370496 + 4503599627370496) (Nat.pow_pos (n := b / 4503599627370496 % 2048 - 1) (show 0 < 2 by decide))
      omega
    · rw [if_neg e1]
      by_cases e2 : a / 4503599627370496 % 2048 = b / 4503599627370496 % 2048
      · rw [e2]
        exact Nat.mul_le_mul_right _ (by omega)
      · have h3 : b / 4503599627370496 % 2048 - 1 = (a / 4503599627370496 % 2048 - 1) + 1 + (b / 4503599627370496 % 2048 - 1 - (a / 4503599627370496 % 2048 - 1) - 1) := by omega
        rw [h3, Nat.pow_add, Nat.pow_succ]
        generalize 2 ^ (a / 4503599627370496 % 2048 - 1) = P
        have h4 : 1 ≤ 2 ^ (b / 4503599627370496 % 2048 - 1 - (a / 4503599627370496 % 2048 - 1) - 1) := Nat.pow_pos (by decide)
        generalize 2 ^ (b / 4503599627370496 % 2048 - 1 - (a / 4503599627370496 % 2048 - 1) - 1) = Q at *
        calc (a % 4503599627370496 + 4503599627370496) * P ≤ (2 * 4503599627370496) * P := Nat.mul_le_mul_right _ (by omega)
          _ = 4503599627370496 * (P * 2) := by rw [Nat.mul_comm 2, Nat.mul_assoc, Nat.mul_comm 2]
          _ ≤ (b % 4503599627370496 + 4503599627370496) * (P * 2 * Q) := Nat.mul_le_mul (by omega) (Nat.le_mul_of_pos_right _ h4)

/-- A number, in units of the least one. -/
def valI (b : Nat) : Int := if 9223372036854775808 ≤ b then -((oneN b : Nat) : Int) else (oneN b : Nat)
theorem valI_lt {a b : Nat} (ha : a < 18446744073709551616) (hb : b < 18446744073709551616) (h : valI a < valI b) : ordN a < ordN b := by
  unfold valI at h
  have hm := oneN_mono (a := a) (b := b)
  have hm' := oneN_mono (a := b) (b := a)
  unfold ordN
  by_cases sa : 9223372036854775808 ≤ a <;> by_cases sb : 9223372036854775808 ≤ b <;> simp only [sa, sb, if_true, if_false] at h ⊢ <;> omega

theorem signed_le {s : Bool} {m q p : Nat} (hp : p ≤ q) : Ieee.signed s m (q - p) * 2 ^ p = (if s then -((m * 2 ^ q : Nat) : Int) else (m * 2 ^ q : Nat)) := by
  have e : m <<< (q - p) * 2 ^ p = m * 2 ^ q := by rw [Nat.shiftLeft_eq, Nat.mul_assoc, ← Nat.pow_add, Nat.sub_add_cancel hp]
  unfold Ieee.signed
  cases s
  · show ((m <<< (q - p) : Nat) : Int) * 2 ^ p = ((m * 2 ^ q : Nat) : Int)
    rw [← e]
    push_cast
    rfl
  · show -((m <<< (q - p) : Nat) : Int) * 2 ^ p = -((m * 2 ^ q : Nat) : Int)
    rw [← e]
    push_cast
    rw [Int.neg_mul]

theorem order_num {a b : Nat} (ha : a < 18446744073709551616) (hb : b < 18446744073709551616) (ia : a % 9223372036854775808 < infN) (ib : b % 9223372036854775808 < infN) :
    Ieee.double.order a b = some (compare (valI a) (valI b)) := by
  obtain ⟨m, q, e1, f1⟩ := read_num ha ia
  obtain ⟨n, r, e2, f2⟩ := read_num hb ib
  have eb : min ((q : Int) - 1074) ((r : Int) - 1074) = ((min q r : Nat) : Int) - 1074 := by omega
  have g1 : ((q : Int) - 1074 - (((min q r : Nat) : Int) - 1074)).toNat = q - min q r := by omega
  have g2 : ((r : Int) - 1074 - (((min q r : Nat) : Int) - 1074)).toNat = r - min q r := by omega
  have h1 := signed_le (s := decide (9223372036854775808 ≤ a)) (m := m) (q := q) (p := min q r) (by omega)
  have h2 := signed_le (s := decide (9223372036854775808 ≤ b)) (m := n) (q := r) (p := min q r) (by omega)
  rw [f1] at h1
  rw [f2] at h2
  simp only [decide_eq_true_eq] at h1 h2
  have hp : (0 : Int) < 2 ^ (min q r) := Int.pow_pos (by decide)
  unfold Ieee.Format.order
  rw [e1, e2]
  unfold Ieee.Datum.order
  simp only [eb, g1, g2]
  congr 1
  unfold valI
  rw [← h1, ← h2]
  generalize (2 : Int) ^ (min q r) = P at *
  generalize Ieee.signed _ m _ = X
  generalize Ieee.signed _ n _ = Y
  simp only [compare, compareOfLessAndEq, Int.mul_lt_mul_right hp, Int.mul_eq_mul_right_iff (Int.ne_of_gt hp)]

theorem compare_one {a b : Nat} (na : ¬ infN < a % 9223372036854775808) (nb : ¬ infN < b % 9223372036854775808) (h : ordN a < ordN b) : compareS a b = -1 ∧ compareS b a = 1 := by
  unfold compareS quiet cmpI
  rw [if_neg na, if_neg nb, if_pos (by omega), if_neg (by omega), if_pos (by omega)]
  exact ⟨rfl, rfl⟩
theorem compare_sym (a b : Nat) : compareS a b = -compareS b a := by
  unfold compareS cmpI
  generalize (ordN (quiet a) : Int) = x
  generalize (ordN (quiet b) : Int) = y
  by_cases h1 : x < y
  · rw [if_pos h1, if_neg (by omega), if_pos h1]
  · by_cases h2 : y < x
    · rw [if_neg h1, if_pos h2, if_pos h2]; rfl
    · rw [if_neg h1, if_neg h2, if_neg h2, if_neg h1]; rfl
theorem order_spec {a b : Nat} (ha : a < 18446744073709551616) (hb : b < 18446744073709551616) :
    (Ieee.double.order a b = some .lt → compareS a b = -1) ∧ (Ieee.double.order a b = some .gt → compareS a b = 1) := by
  by_cases na : infN < a % 9223372036854775808
  · obtain ⟨s, t, e⟩ := read_nan na
    unfold Ieee.Format.order
    rw [e]
    exact ⟨fun h => (by cases h), fun h => (by cases h)⟩
  by_cases nb : infN < b % 9223372036854775808
  · obtain ⟨s, t, e⟩ := read_nan nb
    unfold Ieee.Format.order
    rw [e, show Ieee.Datum.order (Ieee.double.read a) (.nan s t) = none by cases Ieee.double.read a <;> rfl]
    exact ⟨fun h => (by cases h), fun h => (by cases h)⟩
  have key : (ordN a < ordN b ∨ ¬ Ieee.double.order a b = some .lt) ∧ (ordN b < ordN a ∨ ¬ Ieee.double.order a b = some .gt) := by
    have hin : infN = 9218868437227405312 := rfl
    by_cases ia : a % 9223372036854775808 = infN
    · have ea := read_inf ha ia
      by_cases ib : b % 9223372036854775808 = infN
      · have eb := read_inf hb ib
        unfold Ieee.Format.order
        rw [ea, eb]
        unfold ordN
        by_cases sa : 9223372036854775808 ≤ a <;> by_cases sb : 9223372036854775808 ≤ b
        · rw [decide_eq_true sa, decide_eq_true sb]; exact ⟨.inr (by decide), .inr (by decide)⟩
        · rw [decide_eq_true sa, decide_eq_false sb, if_pos sa, if_neg sb]; exact ⟨.inl (by omega), .inr (by decide)⟩
        · rw [decide_eq_false sa, decide_eq_true sb, if_neg sa, if_pos sb]; exact ⟨.inr (by decide), .inl (by omega)⟩
        · rw [decide_eq_false sa, decide_eq_false sb]; exact ⟨.inr (by decide), .inr (by decide)⟩
      · obtain ⟨n, r, e2, f2⟩ := read_num hb (by omega)
        unfold Ieee.Format.order
        rw [ea, e2]
        unfold ordN
        by_cases sa : 9223372036854775808 ≤ a
        · rw [decide_eq_true sa, if_pos sa]
          refine ⟨.inl ?_, .inr (by simp [Ieee.Datum.order])⟩
          split <;> omega
        · rw [decide_eq_false sa, if_neg sa]
          refine ⟨.inr (by simp [Ieee.Datum.order]), .inl ?_⟩
          split <;> omega
    · by_cases ib : b % 9223372036854775808 = infN
      · have eb := read_inf hb ib
        obtain ⟨n, r, e2, f2⟩ := read_num ha (by omega)
        unfold Ieee.Format.order
        rw [eb, e2]
        unfold ordN
        by_cases sb : 9223372036854775808 ≤ b
        · rw [decide_eq_true sb, if_pos sb]
          refine ⟨.inr (by simp [Ieee.Datum.order]), .inl ?_⟩
          split <;> omega
        · rw [decide_eq_false sb, if_neg sb]
          refine ⟨.inl ?_, .inr (by simp [Ieee.Datum.order])⟩
          split <;> omega
      · rw [order_num ha hb (by omega) (by omega)]
        by_cases h1 : valI a < valI b
        · refine ⟨.inl (valI_lt ha hb h1), .inr ?_⟩
          simp [compare, compareOfLessAndEq, h1]
        · by_cases h2 : valI b < valI a
          · refine ⟨.inr ?_, .inl (valI_lt hb ha h2)⟩
            simp [compare, compareOfLessAndEq, h1]
            split <;> simp
          · have : valI a = valI b := by omega
            rw [this]
            simp [compare, compareOfLessAndEq]
  refine ⟨fun h => ?_, fun h => ?_⟩
  · exact (compare_one na nb (key.1.resolve_right (fun g => g h))).1
  · exact (compare_one nb na (key.2.resolve_right (fun g => g h))).2

end Go.Proofs.Ytnngbbiajioghaa
