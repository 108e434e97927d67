import Derived.Test.YtnngbbiajioghaaGSuF4
import Derived.Test.YtnngbbiajioghaaGAvW
import Derived.Test.YtnngbbiajioghaaGSuL7
import Derived.Test.YtnngbbiajioghaaGSuC
import Derived.Test.YtnngbbiajioghaaGSuW2
namespace Go.Proofs.Ytnngbbiajioghaa
open Go.Av Go.Proofs
set_option exponentiation.threshold 4000
set_option maxRecDepth 20000

/-! The law SumFloats: the walk. -/
theorem fl (a b : Nat) : Sem.pure? (do eqGuard .lss 55 (.tmp 74) (.tmp 75) (.float .f64 a) (.float .f64 b); binOp .lss 55 (.float .f64 a) (.float .f64 b)) = some (.bool (Ieee.double.order a b == some .lt)) := rfl
theorem order_self {c : Nat} (hc : c < 18446744073709551616) : (Ieee.double.order c c != some .eq) = decide (infN < c % 9223372036854775808) := by
  by_cases n : infN < c % 9223372036854775808
  · obtain ⟨s, t, e⟩ := read_nan n
    unfold Ieee.Format.order
    rw [e, decide_eq_true n]
    rfl
  · rw [decide_eq_false n]
    by_cases i : c % 9223372036854775808 = infN
    · unfold Ieee.Format.order
      rw [read_inf hc i]
      cases decide (9223372036854775808 ≤ c) <;> rfl
    · rw [order_num hc hc (by omega) (by omega)]
      simp [compare, compareOfLessAndEq]
theorem f33_ok {c : Nat} (hc : c < 18446744073709551616) : PureRun Try.prog 33 [.sc (.float .f64 c)] (.sc (.bool (decide (infN < c % 9223372036854775808)))) := by
  refine PureRun.mkI cF33 (Nat.le_of_ble_eq_true rfl) ?_
  rw [← order_self hc]
  refine walkX ?_
  trace_state
  exact EndP.w

end Go.Proofs.Ytnngbbiajioghaa
namespace Go.Proofs.Ytnngbbiajioghaa
open Go.Av Go.Proofs
set_option exponentiation.threshold 4000
set_option maxRecDepth 20000

/-! The law SumFloats: the walk. -/
def pickF : List Nat → ICode → ICode
  | [], c => c
  | 0 :: l, .seq a _ => pickF l a
  | _ :: l, .seq _ b => pickF l b
  | 0 :: l, .cond _ a _ => pickF l a
  | _ :: l, .cond _ _ b => pickF l b
  | _ :: l, .block _ a => pickF l a
  | _ :: l, .loop a => pickF l a
  | _ :: _, c => c
theorem value_lt' (s : St) : s.value < 18446744073709551616 := by
  unfold St.value
  have h1 := roundN_le (2 ^ 2304 - s.n)
  have h2 := roundN_le s.n
  have h3 : roundN (2 ^ 2304 - s.n) < 2 ^ 64 := by unfold infN at h1; omega
  have h4 := Nat.or_lt_two_pow (x := signN) (n := 64) (by decide) h3
  unfold infN at h2
  split
  · decide
  · split
    · decide
    · split
      · decide
      · split
        · decide
        · split
          · exact h4
          · omega

theorem opR_sum (a b : Nat) (ha : a < 18446744073709551616) (hb : b < 18446744073709551616) : opR 1 2 (a, 0) (b, 0) = ((comb (oneS a) (oneS b)).value, 0) := by
  rw [← twoN_eq ha hb]
  rfl

/-- The machine's sum, in a walk. -/
theorem Reg.fadd {P : Program} {N k : Nat} {xs : List IOper} {fr : Fr} {H : Heap} {K : Fr → Heap → Prop} {d : Nat} {gd : Option (Nat × Bool)} {t : TypeId} {x y : Operand} {a b : Nat} {V : Nat} (hg : gok fr gd = some true)
    (hx : ev fr x = .sc (.float .f64 a)) (hy : ev fr y = .sc (.float .f64 b)) (hV : V < 18446744073709551616)
    (hadd : match Ieee.double.add a b with | none => V = nanN | some r => V = r ∧ ¬ infN < r % 9223372036854775808)
    (h : ∀ c, c < 18446744073709551616 → (infN < c % 9223372036854775808 ∧ V = nanN) ∨ (c = V ∧ ¬ infN < V % 9223372036854775808) → Reg P N k xs ((d, .sc (.float .f64 c)) :: fr) H K) : Reg P N k (⟨some d, gd, .op (.bin .add t x y)⟩ :: xs) fr H K := by
  cases e : Ieee.double.add a b with
  | none =>
    rw [e] at hadd
    exact Reg.nan hg hx hy e fun c h1 h2 => h c h1 (.inl ⟨h2, hadd⟩)
  | some r =>
    rw [e] at hadd
    obtain ⟨rfl, h2⟩ := hadd
    refine Reg.o hg ?_ (h V hV (.inr ⟨rfl, h2⟩))
    have e1 : binOp .add t (.float .f64 a) (.float .f64 b) = (Sem.pure (.float .f64 V) : Sem Value) := by
      show Op.floatArith .add .f64 a b = _
      unfold Op.floatArith
      show (match Ieee.double.add a b with | some r => (Sem.pure (.float .f64 r) : Sem Value) | none => Sem.choose (.nanBits .f64 a b) (fun n => .pure (.float .f64 n))) = _
      rw [e]
    simp only [dstep, hx, hy]
    rw [e1]
    rfl

theorem compare_three (a b : Nat) : compareS a b = -1 ∨ compareS a b = 0 ∨ compareS a b = 1 := by
  unfold compareS cmpI
  split
  · exact .inl rfl
  · split
    · exact .inr (.inr rfl)
    · exact .inr (.inl rfl)

set_option maxHeartbeats 4000000 in
theorem fl_last (a b : Nat) (ha : a < 18446744073709551616) (hb : b < 18446744073709551616) :
    AWP Try.prog F7.n 0 (pickF [1, 1, 1, 1, 1, 1, 1] F7.code) (EndP F7.res (.sc (.bool true))) [(0, .sc (.int .u64 (a : Int))), (1, .sc (.int .u64 (b : Int))), (5, .sc (.float .f64 a)), (6, .sc (.float .f64 b))] [] := by
  have hw := works_ok
  have hc := compare_ok ha hb
  have hc2 := compare_ok hb ha
  have spec := order_spec ha hb
  have sym := compare_sym a b
  have three := compare_three b a
  cases ho : Ieee.double.order a b with
  | none =>
    rw [sym] at hc
    generalize compareS b a = z at *
    rcases three with rfl | rfl | rfl
    all_goals
      show AWP Try.prog F7.n 0 (.seq _ _) _ _ _
      refine walkX0 ?_
      rw [show FloatKind.f64.format.order a b = none from ho]
      refine walkX0 ?_
      rw [show FloatKind.f64.format.order a b = none from ho]
      refine walkX0 ?_
      exact EndP.w
  | some o =>
    cases o with
    | lt =>
      rw [spec.1 ho] at hc
      show AWP Try.prog F7.n 0 (.seq _ _) _ _ _
      refine walkX0 ?_
      rw [show FloatKind.f64.format.order a b = some .lt from ho]
      refine walkX0 ?_
      exact EndP.w
    | gt =>
      rw [spec.2 ho] at hc
      show AWP Try.prog F7.n 0 (.seq _ _) _ _ _
      refine walkX0 ?_
      rw [show FloatKind.f64.format.order a b = some .gt from ho]
      refine walkX0 ?_
      rw [show FloatKind.f64.format.order a b = some .gt from ho]
      refine walkX0 ?_
      exact EndP.w
    | eq =>
      rw [sym] at hc
      generalize compareS b a = z at *
      rcases three with rfl | rfl | rfl
      all_goals
        show AWP Try.prog F7.n 0 (.seq _ _) _ _ _
        refine walkX0 ?_
        rw [show FloatKind.f64.format.order a b = some .eq from ho]
        refine walkX0 ?_
        rw [show FloatKind.f64.format.order a b = some .eq from ho]
        refine walkX0 ?_
        exact EndP.w

set_option maxHeartbeats 4000000 in
theorem fl_rest (a b : Nat) (ha : a < 18446744073709551616) (hb : b < 18446744073709551616) :
    AWP Try.prog F7.n 0 (pickF [1, 1, 1, 1, 1] F7.code) (EndP F7.res (.sc (.bool true))) [(0, .sc (.int .u64 (a : Int))), (1, .sc (.int .u64 (b : Int))), (5, .sc (.float .f64 a)), (6, .sc (.float .f64 b))] [] := by
  have hlast := fl_last a b ha hb
  have f3 := f33_ok ha
  have hv := value_ok (oneS a) (sml_one ha).1
  have h1 := value_one ha
  show AWP Try.prog F7.n 0 (.seq _ _) _ _ _
  refine walkX0 ?_
  refine Reg.sub (fr' := [(0, .sc (.int .u64 (a : Int))), (1, .sc (.int .u64 (b : Int))), (5, .sc (.float .f64 a)), (6, .sc (.float .f64 b)), (53, .list 1 (u64R [a]))]) (H' := []) ?_ ?_
  · exact Sub.w [] []
  refine Reg.c (Nat.zero_le _) rfl ((of_ok [a] (by simp) (by simpa using ha)).mono ?_)
  rintro res H' ⟨rfl, rfl⟩
  rw [sumL_one ha]
  by_cases n : infN < a % 9223372036854775808
  · rw [decide_eq_true n] at f3
    refine walkR ?_
    refine AWP.seq ?_
    refine AWP.seq ?_
    refine AWP.region ?_
    refine walkR ?_
    refine AWP.condF rfl ?_
    refine AWP.skip ?_
    show AWP Try.prog F7.n 0 (.seq _ _) _ _ _
    refine AWP.sub ?_ hlast
    exact Sub.w [] []
  · rw [decide_eq_false n] at f3
    rw [h1 n] at hv
    refine walkX0 ?_
    refine Reg.c (Nat.zero_le _) rfl ((look_at (a := oneS a) (m := true) rfl hv).mono ?_)
    rintro res H' ⟨rfl, rfl⟩
    refine walkR ?_
    rw [show decide (a = a) = true from decide_eq_true rfl]
    refine AWP.condF rfl ?_
    refine AWP.skip ?_
    show AWP Try.prog F7.n 0 (.seq _ _) _ _ _
    refine AWP.sub ?_ hlast
    exact Sub.w [] []

set_option maxHeartbeats 4000000 in
theorem sumFloats_ok (a b : Nat) (ha : a < 18446744073709551616) (hb : b < 18446744073709551616) : PureRun Try.prog 7 [.sc (.int .u64 (a : Int)), .sc (.int .u64 (b : Int))] (.sc (.bool true)) := by
  refine PureRun.mkI cF7 (Nat.le_of_ble_eq_true rfl) ?_
  have hw := works_ok
  have hd := do_ok 1 2 (a, 0) (b, 0) ha hb
  rw [doS_good (op := 1) (kind := 2) (by decide) (fun _ => rfl) (fun _ => rfl), opR_sum a b ha hb] at hd
  have hadd := add_value ha hb
  have hVl := value_lt' (comb (oneS a) (oneS b))
  generalize (comb (oneS a) (oneS b)).value = V at *
  change PureRun Try.prog 14 [_, _, .agg (vR a 0), .agg (vR b 0)] (.tup [.agg (vR V 0), _]) at hd
  refine walkX0 ?_
  refine Reg.fadd (a := a) (b := b) rfl rfl rfl hVl hadd fun c hc hC => ?_
  have f1 := f33_ok hc
  have f2 := f33_ok hVl
  have f3 := f33_ok ha
  rcases hC with ⟨h1, h2⟩ | ⟨rfl, h2⟩
  · rw [decide_eq_true h1] at f1
    rw [h2, decide_eq_true (show infN < nanN % 9223372036854775808 by decide)] at f2
    subst h2
    refine walkX ?_
    refine DK.nil ⟨by kernel_rfl, ?_⟩
    refine AWP.condF rfl ?_
    refine AWP.skip ?_
    show AWP Try.prog F7.n 0 (.seq _ _) _ _ _
    refine AWP.sub ?_ (fl_rest a b ha hb)
    exact Sub.w [] []
  · rw [decide_eq_false h2] at f1
    clear f2
    refine walkX ?_
    rw [show decide (c = c) = true from decide_eq_true rfl]
    refine DK.nil ⟨by kernel_rfl, ?_⟩
    refine AWP.condF rfl ?_
    refine AWP.skip ?_
    show AWP Try.prog F7.n 0 (.seq _ _) _ _ _
    refine AWP.sub ?_ (fl_rest a b ha hb)
    exact Sub.w [] []

end Go.Proofs.Ytnngbbiajioghaa
