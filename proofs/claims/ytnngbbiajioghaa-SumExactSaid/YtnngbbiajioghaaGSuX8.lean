import Derived.Test.YtnngbbiajioghaaGSuX7
import Derived.Test.YtnngbbiajioghaaGSuW2
import Derived.Test.YtnngbbiajioghaaGSuL10
namespace Go.Proofs.Ytnngbbiajioghaa
open Go.Av Go.Proofs
set_option exponentiation.threshold 4000
set_option maxRecDepth 20000

/-! The law SumExact: the walk. -/
def i32R (l : List Int) : List (List AV) := l.map fun n => [.sc (.int .i32 n)]
instance (l : List Int) : PRs (i32R l) := ⟨fun r hr => by
  obtain ⟨a, _, rfl⟩ := List.mem_map.1 hr
  exact allPure_cons (.sc _) allPure_nil⟩
theorem i32R_ix (l : List Int) (k : Nat) (h : k < l.length) : rowIx (i32R l) (k : Int) = some [.sc (.int .i32 l[k])] := rowIx_map (fun n : Int => [.sc (.int .i32 n)]) l k h
theorem i32R_len (l : List Int) : (i32R l).length = l.length := by simp [i32R]

/-- The numbers, and their bits. -/
def shN (sh : Nat) (x : Int) : Int := x * ((2 ^ (sh % 9) : Nat) : Int)
def exN (sh : Nat) (l : List Int) : List Int := l.map (shN sh)
def exB (sh : Nat) (l : List Int) : List Nat := (exN sh l).map FloatKind.f64.nearest
theorem shN_le {sh : Nat} {x : Int} (h : -2147483648 ≤ x ∧ x < 2147483648) : -549755813888 ≤ shN sh x ∧ shN sh x ≤ 549755813888 := by
  unfold shN
  have h1 : 2 ^ (sh % 9) ≤ 2 ^ 8 := Nat.pow_le_pow_right (by decide) (by omega)
  have h2 : 0 < 2 ^ (sh % 9) := Nat.pow_pos (by decide)
  generalize 2 ^ (sh % 9) = p at *
  have h3 : (p : Int) ≤ 256 := by omega
  by_cases hx : 0 ≤ x
  · have a1 := Int.mul_le_mul (show x ≤ 2147483647 by omega) h3 (by omega) (by omega)
    have a2 := Int.mul_nonneg hx (show (0 : Int) ≤ (p : Int) by omega)
    omega
  · have a1 := Int.mul_le_mul (show -x ≤ 2147483648 by omega) h3 (by omega) (by omega)
    have a2 := Int.mul_nonneg (show 0 ≤ -x by omega) (show (0 : Int) ≤ (p : Int) by omega)
    rw [Int.neg_mul] at a1 a2
    omega
theorem shl_eq {sh : Nat} {a : Int} (h : -2147483648 ≤ a ∧ a < 2147483648) : IntKind.i64.wrap (IntKind.i64.wrap a * 2 ^ min ((sh % 9 : Nat) : Int).toNat IntKind.i64.bits) = shN sh a := by
  have hb := shN_le (sh := sh) h
  have e0 : IntKind.i64.bits = 64 := rfl
  rw [wrap_small (n := a) (by omega) (by omega), Int.toNat_natCast, e0, Nat.min_eq_left (by omega)]
  have e2 : a * 2 ^ (sh % 9) = shN sh a := by unfold shN; rw [Int.natCast_pow]; rfl
  rw [e2, wrap_small (by omega) (by omega)]
theorem isum_le (sh : Nat) (l : List Int) (hl : ∀ n ∈ l, -2147483648 ≤ n ∧ n < 2147483648) (t : Int) : t - 549755813888 * l.length ≤ (exN sh l).foldl (· + ·) t ∧ (exN sh l).foldl (· + ·) t ≤ t + 549755813888 * l.length := by
  induction l generalizing t with
  | nil => simp [exN]
  | cons x l ih =>
    have h1 := shN_le (sh := sh) (hl x (List.mem_cons_self ..))
    have h2 := ih (fun n hn => hl n (List.mem_cons_of_mem _ hn)) (t + shN sh x)
    show _ ≤ (exN sh l).foldl (· + ·) (t + shN sh x) ∧ (exN sh l).foldl (· + ·) (t + shN sh x) ≤ _
    rw [List.length_cons]
    omega
theorem ex_take (sh : Nat) (l : List Int) (k : Nat) (h : k < l.length) : exN sh (l.take (k + 1)) = exN sh (l.take k) ++ [shN sh l[k]] := by
  unfold exN
  rw [List.take_succ_eq_append_getElem h, List.map_append]
  rfl
theorem exB_take (sh : Nat) (l : List Int) (k : Nat) (h : k < l.length) : exB sh (l.take (k + 1)) = exB sh (l.take k) ++ [FloatKind.f64.nearest (shN sh l[k])] := by
  unfold exB
  rw [ex_take sh l k h, List.map_append]
  rfl
theorem exB_lt (sh : Nat) (l : List Int) (hl : ∀ n ∈ l, -2147483648 ≤ n ∧ n < 2147483648) : ∀ c ∈ exB sh l, c < 18446744073709551616 := by
  intro c hc
  unfold exB exN at hc
  rw [List.map_map] at hc
  obtain ⟨x, hx, rfl⟩ := List.mem_map.1 hc
  have h := shN_le (sh := sh) (hl x hx)
  exact (int_bits (n := shN sh x) (by omega)).1
theorem exB_len (sh : Nat) (l : List Int) : (exB sh l).length = l.length := by simp [exB, exN]

/-- The sum of all is exact. -/
theorem ex_value (sh : Nat) (l : List Int) (hl : ∀ n ∈ l, -2147483648 ≤ n ∧ n < 2147483648) (hn : l.length ≤ 100) : (sumL (exB sh l)).value = FloatKind.f64.nearest (isum (exN sh l)) := by
  have hb : ∀ n ∈ exN sh l, n.natAbs < 9007199254740992 := fun n hn => by
    obtain ⟨x, hx, rfl⟩ := List.mem_map.1 hn
    have h := shN_le (sh := sh) (hl x hx)
    omega
  obtain ⟨a1, a2, a3, a4, c, a5⟩ := fold_exact (exN sh l) hb s0 0 rfl rfl rfl (by decide) ⟨0, by rw [Int.zero_mul, Int.zero_mul]; rfl⟩ (sumL (exB sh l)) rfl
  have h := isum_le sh l hl 0
  have ht : ((exN sh l).foldl (· + ·) 0).natAbs < 9223372036854775808 := by omega
  exact value_exact a1 a2 a3 a4 (sumL_lt _) a5 ht

theorem xor_low {x : Nat} (h : x < 9223372036854775808) : x ^^^ 9223372036854775808 = x + 9223372036854775808 := by
  apply Nat.eq_of_testBit_eq
  intro j
  have e : (9223372036854775808 : Nat) = 2 ^ 63 := rfl
  rw [Nat.testBit_xor, e, Nat.testBit_two_pow, Nat.add_comm]
  rcases Nat.lt_trichotomy j 63 with hj | rfl | hj
  · rw [Nat.testBit_two_pow_add_gt hj, decide_eq_false (by omega), Bool.xor_false]
  · rw [Nat.testBit_two_pow_add_eq, decide_eq_true rfl, Bool.xor_true]
  · have h1 : (2 : Nat) ^ 64 ≤ 2 ^ j := Nat.pow_le_pow_right (by decide) (by omega)
    have h2 : (2 : Nat) ^ 64 = 2 ^ 63 + 2 ^ 63 := rfl
    have h3 : x < 2 ^ 63 := h
    rw [Nat.testBit_lt_two_pow (by omega), Nat.testBit_lt_two_pow (by omega), decide_eq_false (by omega)]
    rfl
theorem xor_opp {x : Nat} : x ^^^ 9223372036854775808 = oppN x ∨ 18446744073709551616 ≤ x := by
  unfold oppN
  by_cases h : 9223372036854775808 ≤ x
  · by_cases h2 : 18446744073709551616 ≤ x
    · exact .inr h2
    · left
      rw [if_pos h]
      obtain ⟨r, rfl⟩ : ∃ r, x = r + 9223372036854775808 := ⟨x - 9223372036854775808, by omega⟩
      rw [← xor_low (by omega), Nat.xor_assoc, Nat.xor_self, Nat.xor_zero, xor_low (by omega)]
      omega
  · left
    rw [if_neg h, xor_low (by omega)]

def pickX : List Nat → ICode → ICode
  | [], c => c
  | 0 :: l, .seq a _ => pickX l a
  | _ :: l, .seq _ b => pickX l b
  | 0 :: l, .cond _ a _ => pickX l a
  | _ :: l, .cond _ _ b => pickX l b
  | _ :: l, .block _ a => pickX l a
  | _ :: l, .loop a => pickX l a
  | _ :: _, c => c

set_option maxHeartbeats 4000000 in
theorem sumExact_ok (l : List Int) (sh bits : Nat) (hl : ∀ n ∈ l, -2147483648 ≤ n ∧ n < 2147483648) (hb : bits < 18446744073709551616) :
    PureRun Try.prog 10 [.list 1 (i32R l), .sc (.int .u8 (sh : Int)), .sc (.int .u64 (bits : Int))] (.sc (.bool true)) := by
  refine PureRun.mkI cF10 (Nat.le_of_ble_eq_true rfl) ?_
  have hw := works_ok
  have e0 := i32R_len l
  refine walkS0 ?_
  rw [e0]
  by_cases g : 100 < l.length
  · rw [decide_eq_true g]
    refine walkS0 ?_
    exact EndP.w
  rw [decide_eq_false g]
  refine walkS0 ?_
  refine Reg.c (Nat.zero_le _) rfl ((new_at _).mono ?_)
  rintro res H' ⟨rfl, rfl⟩
  refine walkS0 ?_
  rw [e0]
  refine AWP.loop (fun k : Nat => [(0, .list 1 (i32R l)), (1, .sc (.int .u8 (sh : Int))), (2, .sc (.int .u64 (bits : Int))), (7, .ptr 0 0 0 0), (8, .sc (.int .i64 (isum (exN sh (l.take k))))), (22, .list 1 (i32R l)), (23, .sc (.int .i64 (l.length : Int))), (24, .sc (.int .i64 (k : Int)))])
    (fun k => [[.cells 41 [(sumL (exB sh (l.take k))).acc true]]]) (fun k => k ≤ l.length) (fun k => l.length - k) 0 (Nat.zero_le _) ?_ ?_
  · exact Sub.w [] [[(0,0)]]
  intro k hk
  refine walkS0 ?_
  refine AWP.condD rfl (fun h => ?_) (fun h => ?_)
  · have hr := i32R_ix l k h
    have hv := hl l[k] (List.getElem_mem h)
    have ht := exB_take sh l k h
    have ht2 : isum (exN sh (l.take (k + 1))) = isum (exN sh (l.take k)) + shN sh l[k] := by
      rw [ex_take sh l k h]
      unfold isum
      rw [List.foldl_append]
      rfl
    have hsub : ∀ n ∈ l.take k, -2147483648 ≤ n ∧ n < 2147483648 := fun n hn => hl n (List.mem_of_mem_take hn)
    have hsum := isum_le sh (l.take k) hsub 0
    have hlen : (l.take k).length = k := by rw [List.length_take]; omega
    rw [hlen] at hsum
    have hsn := shN_le (sh := sh) hv
    have hbt := (int_bits (n := shN sh l[k]) (by omega)).1
    have hm := merge_sumL (exB sh (l.take k)) (FloatKind.f64.nearest (shN sh l[k])) (exB_lt sh _ hsub) hbt (by rw [exB_len, hlen]; omega)
    rw [← ht] at hm
    change 0 - 549755813888 * (k : Int) ≤ isum (exN sh (l.take k)) ∧ isum (exN sh (l.take k)) ≤ 0 + 549755813888 * (k : Int) at hsum
    generalize l[k] = x at *
    refine walkS0 ?_
    rw [shl_eq hv]
    generalize shN sh x = y at *
    rw [wrap_small (by omega) (by omega), ← ht2]
    refine Reg.c (Nat.zero_le _) rfl ((add_at (a := sumL (exB sh (l.take k))) (g := 0) (i := 0) (b := FloatKind.f64.nearest y) rfl hbt).mono ?_)
    rintro res H' ⟨rfl, rfl⟩
    rw [hm]
    refine walkS0 ?_
    refine ⟨k + 1, by omega, by omega, ?_⟩
    exact Sub.w [] [[(0,0)]]
  · have hk : k = l.length := by omega
    subst hk
    rw [List.take_of_length_le (Nat.le_refl _)]
    have hv := ex_value sh l hl (by omega)
    have hB := exB_lt sh l hl
    have hBl := exB_len sh l
    have hlt := sumL_lt (exB sh l)
    have hi := isum_le sh l hl 0
    change 0 - 549755813888 * (l.length : Int) ≤ isum (exN sh l) ∧ isum (exN sh l) ≤ 0 + 549755813888 * (l.length : Int) at hi
    have hN := (int_bits (n := isum (exN sh l)) (by omega)).1
    have f1 := f33_ok hb
    have f2 := inf_ok hb
    have hvo := value_ok (sumL (exB sh l)) hlt
    rw [hv] at hvo
    generalize isum (exN sh l) = tot at *
    generalize exB sh l = L at *
    clear hi hv hl
    refine walkS0 ?_
    refine Reg.c (Nat.zero_le _) rfl ((look_at (a := sumL L) (m := true) rfl hvo).mono ?_)
    rintro res H' ⟨rfl, rfl⟩
    refine walkS0 ?_
    rw [show decide (FloatKind.f64.nearest tot = FloatKind.f64.nearest tot) = true from decide_eq_true rfl]
    refine walkS0 ?_
    by_cases n1 : infN < bits % 9223372036854775808
    · rw [decide_eq_true n1]
      refine walkS0 ?_
      exact EndP.w
    rw [decide_eq_false n1]
    refine walkS0 ?_
    by_cases n2 : bits % 9223372036854775808 = infN
    · rw [decide_eq_true n2]
      refine walkS0 ?_
      exact EndP.w
    rw [decide_eq_false n2]
    refine walkS0 ?_
    have gd := good_sumL L hB (by omega)
    have ob : oppN bits < 18446744073709551616 := by unfold oppN; split <;> omega
    have hB1 : ∀ c ∈ L ++ [bits], c < 18446744073709551616 := fun c hc => by
      rcases List.mem_append.1 hc with hc | hc
      · exact hB c hc
      · rw [List.mem_singleton.1 hc]; exact hb
    have hB2 : ∀ c ∈ (L ++ [bits]) ++ [oppN bits], c < 18446744073709551616 := fun c hc => by
      rcases List.mem_append.1 hc with hc | hc
      · exact hB1 c hc
      · rw [List.mem_singleton.1 hc]; exact ob
    have m1 := merge_sumL L bits hB hb (by omega)
    have m2 := merge_sumL (L ++ [bits]) (oppN bits) hB1 ob (by simp; omega)
    have gd2 := good_sumL ((L ++ [bits]) ++ [oppN bits]) hB2 (by simp; omega)
    obtain ⟨q1, q2, q3, q4⟩ := opp_comb (s := sumL L) hb (by unfold infN at *; omega) hlt
    rw [← sumL_snoc, ← sumL_snoc] at q1 q2 q3 q4
    have hx := xor_opp.resolve_right (show ¬ 18446744073709551616 ≤ bits by omega)
    have en1 := encV_by (sumL L)
    have en2 := encV_by (sumL ((L ++ [bits]) ++ [oppN bits]))
    rw [q1] at en2
    generalize digs (nb (absN (sumL L).n)) (absN (sumL L).n) = D at *
    generalize flg (decide (2 ^ 2303 ≤ (sumL L).n)) 1 = b1 at *
    clear q1 q2 q3 q4 hvo
    refine Reg.c (Nat.zero_le _) rfl ((encode_at (s := sumL L) (g := 0) (i := 0) rfl gd.n gd.zero).mono ?_)
    rintro res H' ⟨rfl, rfl⟩
    rw [en1]
    clear gd en1
    refine walkS0 ?_
    refine Reg.c (Nat.zero_le _) rfl ((add_at (a := sumL L) (g := 0) (i := 0) (b := bits) rfl hb).mono ?_)
    rintro res H' ⟨rfl, rfl⟩
    rw [m1]
    generalize sumL (L ++ [bits]) = S1 at *
    clear m1
    refine walkS0 ?_
    rw [hx]
    refine Reg.c (Nat.zero_le _) rfl ((add_at (a := S1) (g := 0) (i := 0) (b := oppN bits) rfl ob).mono ?_)
    rintro res H' ⟨rfl, rfl⟩
    rw [m2]
    generalize sumL (L ++ [bits] ++ [oppN bits]) = S2 at *
    clear m2
    refine walkS0 ?_
    refine Reg.c (Nat.zero_le _) rfl ((encode_at (s := S2) (g := 0) (i := 0) rfl gd2.n gd2.zero).mono ?_)
    rintro res H' ⟨rfl, rfl⟩
    rw [en2]
    refine walkS0 ?_
    generalize flags S2 = a2 at *
    generalize flags (sumL L) = a1 at *
    have l1 : (bytR (a1 :: b1 :: D)).length = D.length + 2 := by simp [bytR]
    have l2 : (bytR (a2 :: b1 :: D)).length = D.length + 2 := by simp [bytR]
    have l3 : decide (D.length + 2 < 2) = false := decide_eq_false (by omega)
    clear en2 gd2
    unfold byV
    have e1 : ∀ a : Nat, ((bytR (a :: b1 :: D)).drop 1).take (D.length + 2 - 1) = bytR (b1 :: D) := fun a => by
      rw [show (bytR (a :: b1 :: D)).drop 1 = bytR (b1 :: D) from rfl]
      exact List.take_of_length_le (by rw [bytR_len]; simp)
    refine walkX ?_
    rw [l1, l2, l3, show decide (D.length + 2 = D.length + 2) = true from decide_eq_true rfl]
    refine walkX ?_
    refine DK.o rfl (dstep_sl1 (rows := bytR (a2 :: b1 :: D)) (l := 1) (h := D.length + 2) rfl (by rw [l2]; exact sb_from (q := 1) rfl (by omega))) ?_
    rw [e1]
    refine DK.o rfl (dstep_bs (l := b1 :: D) rfl) ?_
    refine walkX ?_
    refine DK.o rfl (dstep_sl1 (rows := bytR (a1 :: b1 :: D)) (l := 1) (h := D.length + 2) rfl (by rw [l1]; exact sb_from (q := 1) rfl (by omega))) ?_
    rw [e1]
    refine DK.o rfl (dstep_bs (l := b1 :: D) rfl) ?_
    refine DK.o rfl (dstep_sne (s := strB (b1 :: D)) rfl rfl) ?_
    refine walkX ?_
    refine DK.nil ⟨by kernel_rfl, ?_⟩
    refine walkX ?_
    exact EndP.w

end Go.Proofs.Ytnngbbiajioghaa
