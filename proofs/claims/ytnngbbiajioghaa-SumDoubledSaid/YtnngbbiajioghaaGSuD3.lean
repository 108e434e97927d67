import Derived.Test.YtnngbbiajioghaaGSuD2
import Derived.Test.YtnngbbiajioghaaGSuW2
import Derived.Test.YtnngbbiajioghaaGSuF3
import Derived.Test.YtnngbbiajioghaaGSuL13
namespace Go.Proofs.Ytnngbbiajioghaa
open Go.Av Go.Proofs
set_option exponentiation.threshold 4000
set_option maxRecDepth 20000

/-! The law SumDoubled: the walk. -/
def pickD : List Nat → ICode → ICode
  | [], c => c
  | 0 :: l, .seq a _ => pickD l a
  | _ :: l, .seq _ b => pickD l b
  | 0 :: l, .cond _ a _ => pickD l a
  | _ :: l, .cond _ _ b => pickD l b
  | _ :: l, .block _ a => pickD l a
  | _ :: l, .loop a => pickD l a
  | _ :: _, c => c
theorem order_zero {b : Nat} (hb : b < 18446744073709551616) (hi : b % 9223372036854775808 < infN) : (FloatKind.f64.format.order b 0 == some .eq) = decide (b % 9223372036854775808 = 0) := by
  show (Ieee.double.order b 0 == some .eq) = _
  rw [order_num hb (by decide) hi (by decide)]
  have h0 : valI 0 = 0 := by
    unfold valI
    rw [if_neg (by decide), show oneN 0 = 0 by decide +kernel]
    rfl
  rw [h0]
  have hv : valI b = 0 ↔ b % 9223372036854775808 = 0 := by
    have hp := oneN_pos (b := b)
    have hz : b % 9223372036854775808 = 0 → oneN b = 0 := fun h => by
      unfold oneN
      rw [if_pos (by omega), Nat.pow_zero]
      omega
    unfold valI
    constructor
    · intro h
      refine Classical.byContradiction fun g => ?_
      have := hp g
      split at h <;> omega
    · intro h
      rw [hz h]
      split <;> rfl
  rw [Bool.eq_iff_iff, decide_eq_true_eq, ← hv]
  simp [compare, compareOfLessAndEq]
  split
  · simp
    omega
  · split
    · simp [*]
    · rename_i h1 h2
      simp
      exact h2

theorem Reg.fmul {P : Program} {N k : Nat} {xs : List IOper} {fr : Fr} {H : Heap} {K : Fr → Heap → Prop} {d : Nat} {gd : Option (Nat × Bool)} {t : TypeId} {x y : Operand} {a b r : Nat} (hg : gok fr gd = some true)
    (hx : ev fr x = .sc (.float .f64 a)) (hy : ev fr y = .sc (.float .f64 b)) (e : Ieee.double.mul a b = some r)
    (h : Reg P N k xs ((d, .sc (.float .f64 r)) :: fr) H K) : Reg P N k (⟨some d, gd, .op (.bin .mul t x y)⟩ :: xs) fr H K := by
  refine Reg.o hg ?_ h
  have e1 : binOp .mul t (.float .f64 a) (.float .f64 b) = (Sem.pure (.float .f64 r) : Sem Value) := by
    show Op.floatArith .mul .f64 a b = _
    unfold Op.floatArith
    show (match Ieee.double.mul a b with | some r => (Sem.pure (.float .f64 r) : Sem Value) | none => Sem.choose (.nanBits .f64 a b) (fun n => .pure (.float .f64 n))) = _
    rw [e]
  simp only [dstep, hx, hy]
  rw [e1]
  rfl

theorem dbl_lt2 {s : Bool} {V : Nat} (h0 : 0 < V) (h : V < 2 ^ 2240) : (dblS s V).n < 2 ^ 2304 := dbl_lt h0 h

set_option maxHeartbeats 4000000 in
theorem dbl_loop (bits W : Nat) (s : Bool) (m q : Nat) (hW : W = m * 2 ^ q) (h0 : m ≠ 0) (hm : m < 9007199254740992) (hlt : W < 2 ^ 2098) :
    AWP Try.prog F13.n 0 (pickD [1, 1, 1, 1, 1] F13.code) (EndP F13.res (.sc (.bool true))) [(0, .sc (.int .u64 (bits : Int))), (3, .sc (.float .f64 ((if s then signN else 0) + roundN W))), (4, .ptr 0 0 0 0)] [[.cells 41 [(dblS s W).acc true]]] := by
  have hw := works_ok
  show AWP Try.prog F13.n 0 (.seq _ _) _ _ _
  have hpos : 0 < W := by rw [hW]; exact Nat.mul_pos (by omega) (Nat.pow_pos (by decide))
  refine walkS0 ?_
  refine AWP.loop (fun k : Nat => [(3, .sc (.float .f64 ((if s then signN else 0) + roundN (W * 2 ^ k)))), (4, .ptr 0 0 0 0), (27, .sc (.int .i64 (k : Int)))])
    (fun k => [[.cells 41 [(dblS s (W * 2 ^ k)).acc true]]]) (fun k => W * 2 ^ k < 2 ^ 2240) (fun k => 2240 - k) 0 (by rw [Nat.pow_zero, Nat.mul_one]; exact Nat.lt_trans hlt (Nat.pow_lt_pow_right (by decide) (by decide))) ?_ ?_
  · rw [Nat.pow_zero, Nat.mul_one]
    exact Sub.w [] [[(0,0)]]
  intro k hk
  have hk1 : k < 2240 := by
    have h1 : 1 * 2 ^ k ≤ W * 2 ^ k := Nat.mul_le_mul_right _ hpos
    rw [Nat.one_mul] at h1
    exact (Nat.pow_lt_pow_iff_right (a := 2) (by decide)).1 (Nat.lt_of_le_of_lt h1 hk)
  have hk2 : 100 < k ∨ ¬ 2 ^ 2240 ≤ 2 * (W * 2 ^ k) := by
    refine (Nat.lt_or_ge 100 k).imp_right fun h g => ?_
    have h1 : W * 2 ^ k < 2 ^ 2098 * 2 ^ k := (Nat.mul_lt_mul_right (Nat.pow_pos (by decide))).2 hlt
    rw [← Nat.pow_add] at h1
    have h2 : (2 : Nat) ^ (2098 + k) ≤ 2 ^ 2239 := Nat.pow_le_pow_right (by decide) (by omega)
    have h3 : (2 : Nat) ^ 2240 = 2 * 2 ^ 2239 := Nat.pow_succ' ..
    omega
  have hp : 0 < W * 2 ^ k := Nat.mul_pos hpos (Nat.pow_pos (by decide))
  have hmg := dbl_merge (s := s) hp hk
  have hs := dbl_lt2 (s := s) hp hk
  have hmul := mul_two (s := s) (q := q + k) h0 hm
  have e2 : 2 * (W * 2 ^ k) = W * 2 ^ (k + 1) := by rw [Nat.pow_succ', Nat.mul_left_comm]
  rw [show m * 2 ^ (q + k) = W * 2 ^ k by rw [hW, Nat.pow_add, Nat.mul_assoc], show m * 2 ^ (q + k + 1) = W * 2 ^ (k + 1) by rw [hW, Nat.add_assoc, Nat.pow_add, Nat.mul_assoc]] at hmul
  rw [e2] at hmg hk2
  have hv := fun h : W * 2 ^ (k + 1) < 2 ^ 2240 => dbl_value (s := s) (V := W * 2 ^ (k + 1)) (by rw [← e2]; omega) h
  have hs2 := fun h : W * 2 ^ (k + 1) < 2 ^ 2240 => value_ok _ (dbl_lt2 (s := s) (V := W * 2 ^ (k + 1)) (by rw [← e2]; omega) h)
  have hvl : (if s then signN else 0) + roundN (W * 2 ^ (k + 1)) < 18446744073709551616 := by
    have := round_lt (W * 2 ^ (k + 1))
    unfold signN
    split <;> omega
  clear hlt hW hpos e2 hp
  refine walkS0 ?_
  rw [decide_eq_true (show k < 2400 by omega)]
  refine walkS0 ?_
  refine Reg.c (Nat.zero_le _) rfl ((copy_at (g := 0) (i := 0) (s := dblS s (W * 2 ^ k)) rfl).mono ?_)
  rintro res H' ⟨rfl, rfl⟩
  refine walkS0 ?_
  refine Reg.c (Nat.zero_le _) rfl ((merge2_at (g := 0) (i := 0) (g' := 0) (i' := 0) (a := dblS s (W * 2 ^ k)) (s := dblS s (W * 2 ^ k)) rfl rfl).mono ?_)
  rintro res H' ⟨rfl, rfl⟩
  rw [hmg]
  by_cases c : 2 ^ 2240 ≤ W * 2 ^ (k + 1)
  · have hk100 : 100 < k := hk2.resolve_right (fun h => h c)
    rw [if_pos c]
    clear hmg hk2 hv hs2 hmul hk
    refine walkS0 ?_
    rw [decide_eq_true hk100]
    refine walkS0 ?_
    refine Reg.c (Nat.zero_le _) rfl ((same_at (g := 0) (i := 0) (g' := 1) (i' := 0) (s := dblS s (W * 2 ^ k)) (t := dblS s (W * 2 ^ k)) rfl rfl hs hs).mono ?_)
    rintro res H' ⟨rfl, rfl⟩
    rw [eqb_refl]
    refine walkS0 ?_
    exact EndP.w
  · rw [if_neg c]
    have hv := hv (by omega)
    have hs2 := hs2 (by omega)
    rw [hv] at hs2
    clear hmg hk2
    refine walkS0 ?_
    refine Reg.fmul rfl rfl rfl hmul ?_
    generalize hv2 : (if s then signN else 0) + roundN (W * 2 ^ (k + 1)) = v2 at *
    refine walkS0 ?_
    refine Reg.c (Nat.zero_le _) rfl ((look_at (a := dblS s (W * 2 ^ (k + 1))) (m := true) (g := 0) (i := 0) rfl hs2).mono ?_)
    rintro res H' ⟨rfl, rfl⟩
    refine walkS0 ?_
    rw [show decide (v2 = v2) = true from decide_eq_true rfl]
    refine walkS0 ?_
    refine ⟨k + 1, by omega, by omega, ?_⟩
    rw [hv2]
    exact Sub.w [] [[(0,0)]]

set_option maxHeartbeats 4000000 in
theorem sumDoubled_ok (bits : Nat) (hb : bits < 18446744073709551616) : PureRun Try.prog 13 [.sc (.int .u64 (bits : Int))] (.sc (.bool true)) := by
  refine PureRun.mkI cF13 (Nat.le_of_ble_eq_true rfl) ?_
  have hw := works_ok
  have f1 := f33_ok hb
  have f2 := inf_ok hb
  refine walkS0 ?_
  by_cases n1 : infN < bits % 9223372036854775808
  · rw [decide_eq_true n1]
    refine walkS0 ?_
    exact EndP.w
  rw [decide_eq_false n1]
  refine walkS0 ?_
  by_cases n2 : bits % 9223372036854775808 = infN
  · rw [decide_eq_true n2]
    refine walkS0 ?_
    exact EndP.w
  rw [decide_eq_false n2]
  have hi : bits % 9223372036854775808 < infN := by omega
  refine walkS0 ?_
  rw [show FloatKind.f64.format.order ((bits : Int)).toNat 0 = FloatKind.f64.format.order bits 0 from rfl, order_zero hb hi]
  by_cases n3 : bits % 9223372036854775808 = 0
  · rw [decide_eq_true n3]
    refine walkS0 ?_
    exact EndP.w
  rw [decide_eq_false n3]
  have h1 := dbl_one hi n3
  have hf := dbl_float hb hi
  obtain ⟨m, q, hW, hm0, hm⟩ := num_form n3
  have hlt := oneN_lt (b := bits) (by omega)
  have hmg := merge_sumL [] bits (fun c hc => by cases hc) hb (by decide)
  rw [List.nil_append, sumL_one hb, show sumL [] = s0 from rfl, h1] at hmg
  have hl := dbl_loop bits (oneN bits) (decide (9223372036854775808 ≤ bits)) m q hW hm0 hm hlt
  rw [← hf] at hl
  refine walkS0 ?_
  refine Reg.c (Nat.zero_le _) rfl ((new_at _).mono ?_)
  rintro res H' ⟨rfl, rfl⟩
  refine walkS0 ?_
  refine Reg.c (Nat.zero_le _) rfl ((add_at (a := s0) (g := 0) (i := 0) (b := bits) rfl hb).mono ?_)
  rintro res H' ⟨rfl, rfl⟩
  rw [h1, hmg]
  generalize dblS (decide (9223372036854775808 ≤ bits)) (oneN bits) = S at *
  refine Reg.o rfl rfl ?_
  refine Reg.nil ?_
  refine AWP.condF rfl ?_
  refine AWP.skip ?_
  show AWP Try.prog F13.n 0 (.seq _ _) _ _ _
  refine AWP.sub ?_ hl
  exact Sub.w [] [[(0,0)]]

end Go.Proofs.Ytnngbbiajioghaa
