import Derived.Test.YtpkpfgpfkajkpaaGCoL9
import Derived.Test.YtpkpfgpfkajkpaaGCoD1
import Derived.Test.YtpkpfgpfkajkpaaGCoWorks
namespace Go.Proofs.Ytpkpfgpfkajkpaa
open Go.Av Go.Proofs
set_option maxRecDepth 20000
def BadS (x : AV) : Prop := x = .sc (.pointer none) ∨ x = .cptr [.sc (.map none)]
theorem BadS.pure {x : AV} (h : BadS x) : Pure x := by
  rcases h with rfl | rfl
  · exact .sc _
  · exact .cptr _ (allPure_cons (.sc _) allPure_nil)
set_option maxHeartbeats 4000000 in
theorem valid_bad {x : AV} (h : BadS x) : PureRun Try.prog 64 [x] (.sc (.bool false)) := by
  refine PureRun.of (allPure_cons h.pure allPure_nil) (.sc _) (CallOK.mono (R := fun res H' => res = .sc (.bool false) ∧ H' = []) ?_ fun _ _ h => h.1)
  refine CallOK.of cF64 ?_ (Nat.le_of_ble_eq_true rfl)
  rcases h with rfl | rfl
  · refine walkX ?_
    exact endW [] (⟨rfl, rfl⟩)
  · refine walkX ?_
    exact endW [] (⟨rfl, rfl⟩)
set_option maxHeartbeats 4000000 in
theorem group_bad {x : AV} (h : BadS x) (c : Int) : PureRun Try.prog 24 [x, .sc (.int .i64 c)] (.tup [.list 1 [], .sc (.int .i64 1)]) := by
  have hv := valid_bad h
  have hp := h.pure
  refine PureRun.of (allPure_cons hp (allPure_cons (.sc _) allPure_nil)) (.tup _ (allPure_cons (.list _ _ (fun _ h => by cases h)) (allPure_cons (.sc _) allPure_nil))) (CallOK.mono (R := fun res H' => res = .tup [.list 1 [], .sc (.int .i64 1)] ∧ H' = []) ?_ fun _ _ h => h.1)
  refine CallOK.of cF24 ?_ (Nat.le_of_ble_eq_true rfl)
  rcases h with rfl | rfl
  · refine walkX ?_
    exact endW [] (⟨rfl, rfl⟩)
  · refine walkX ?_
    exact endW [] (⟨rfl, rfl⟩)
set_option maxHeartbeats 4000000 in
theorem dup_bad {x : AV} (h : BadS x) (c : Int) : PureRun Try.prog 20 [x, .sc (.int .i64 c)] (.tup [.sc (.int .i64 0), .sc (.int .i64 1)]) := by
  have hv := group_bad h c
  have hp := h.pure
  refine PureRun.of (allPure_cons hp (allPure_cons (.sc _) allPure_nil)) (.tup _ (allPure_cons (.sc _) (allPure_cons (.sc _) allPure_nil))) (CallOK.mono (R := fun res H' => res = .tup [.sc (.int .i64 0), .sc (.int .i64 1)] ∧ H' = []) ?_ fun _ _ h => h.1)
  refine CallOK.of cF20 ?_ (Nat.le_of_ble_eq_true rfl)
  rcases h with rfl | rfl
  · refine walkX ?_
    exact endW [] (⟨rfl, rfl⟩)
  · refine walkX ?_
    exact endW [] (⟨rfl, rfl⟩)
set_option maxHeartbeats 4000000 in
theorem make_bad {x : AV} (h : BadS x) (c : Int) (l : List Int) : PureRun Try.prog 47 [x, .sc (.int .i64 c), .list 1 (intsR l)] (.tup [.sc (.int .i64 0), .sc (.int .i64 1)]) := by
  have hv := group_bad h c
  have hp := h.pure
  refine PureRun.of (allPure_cons hp (allPure_cons (.sc _) (allPure_cons (.list _ _ (prs _)) allPure_nil))) (.tup _ (allPure_cons (.sc _) (allPure_cons (.sc _) allPure_nil))) (CallOK.mono (R := fun res H' => res = .tup [.sc (.int .i64 0), .sc (.int .i64 1)] ∧ H' = []) ?_ fun _ _ h => h.1)
  refine CallOK.of cF47 ?_ (Nat.le_of_ble_eq_true rfl)
  rcases h with rfl | rfl
  · refine walkX ?_
    exact endW [] (⟨rfl, rfl⟩)
  · refine walkX ?_
    exact endW [] (⟨rfl, rfl⟩)
set_option maxHeartbeats 4000000 in
theorem split_bad {x : AV} (h : BadS x) (c : Int) (l : List Int) : PureRun Try.prog 22 [x, .sc (.int .i64 c), .list 1 (intsR l), .list 1 (intsR l)] (.tup [.list 1 [], .sc (.int .i64 1)]) := by
  have hv := group_bad h c
  have hp := h.pure
  refine PureRun.of (allPure_cons hp (allPure_cons (.sc _) (allPure_cons (.list _ _ (prs _)) (allPure_cons (.list _ _ (prs _)) allPure_nil)))) (.tup _ (allPure_cons (.list _ _ (fun _ h => by cases h)) (allPure_cons (.sc _) allPure_nil))) (CallOK.mono (R := fun res H' => res = .tup [.list 1 [], .sc (.int .i64 1)] ∧ H' = []) ?_ fun _ _ h => h.1)
  refine CallOK.of cF22 ?_ (Nat.le_of_ble_eq_true rfl)
  rcases h with rfl | rfl
  · refine walkX ?_
    exact endW [] (⟨rfl, rfl⟩)
  · refine walkX ?_
    exact endW [] (⟨rfl, rfl⟩)
set_option maxHeartbeats 4000000 in
theorem free_bad {x : AV} (h : BadS x) (c : Int) : PureRun Try.prog 48 [x, .sc (.int .i64 c)] (.sc (.int .i64 1)) := by
  have hv := group_bad h c
  have hp := h.pure
  refine PureRun.of (allPure_cons hp (allPure_cons (.sc _) allPure_nil)) (.sc _) (CallOK.mono (R := fun res H' => res = .sc (.int .i64 1) ∧ H' = []) ?_ fun _ _ h => h.1)
  refine CallOK.of cF48 ?_ (Nat.le_of_ble_eq_true rfl)
  rcases h with rfl | rfl
  · refine walkX ?_
    exact endW [] (⟨rfl, rfl⟩)
  · refine walkX ?_
    exact endW [] (⟨rfl, rfl⟩)
set_option maxHeartbeats 4000000 in
theorem contexts_bad {x : AV} (h : BadS x) : PureRun Try.prog 21 [x] (.list 1 []) := by
  have hv := valid_bad h
  have hp := h.pure
  refine PureRun.of (allPure_cons hp allPure_nil) (.list _ _ (fun _ h => by cases h)) (CallOK.mono (R := fun res H' => res = .list 1 [] ∧ H' = []) ?_ fun _ _ h => h.1)
  refine CallOK.of cF21 ?_ (Nat.le_of_ble_eq_true rfl)
  rcases h with rfl | rfl
  · refine walkX ?_
    exact endW [] (⟨rfl, rfl⟩)
  · refine walkX ?_
    exact endW [] (⟨rfl, rfl⟩)
set_option maxHeartbeats 4000000 in
theorem copy_bad {x : AV} (h : BadS x) : PureRun Try.prog 49 [x] (.sc (.pointer none)) := by
  have hv := valid_bad h
  have hp := h.pure
  refine PureRun.of (allPure_cons hp allPure_nil) (.sc _) (CallOK.mono (R := fun res H' => res = .sc (.pointer none) ∧ H' = []) ?_ fun _ _ h => h.1)
  refine CallOK.of cF49 ?_ (Nat.le_of_ble_eq_true rfl)
  rcases h with rfl | rfl
  · refine walkX ?_
    exact endW [] (⟨rfl, rfl⟩)
  · refine walkX ?_
    exact endW [] (⟨rfl, rfl⟩)
set_option maxHeartbeats 8000000 in
theorem commNil_ok (c : Int) (l : List Int) : CallOK Try.prog 9 [.sc (.int .i64 c), .list 1 (intsR l)] [] fun res _ => res = .sc (.bool true) := by
  refine CallOK.mono (R := fun res H' => res = .sc (.bool true) ∧ H' = []) ?_ fun _ _ h => h.1
  refine CallOK.of cF9 ?_ (Nat.le_of_ble_eq_true rfl)
  have hw := works_ok
  have g0 : BadS (.sc (.pointer none)) := .inl rfl
  have g1 : BadS (.cptr [.sc (.map none)]) := .inr rfl
  have a1 := group_bad g0 c
  have a2 := dup_bad g0 c
  have a3 := make_bad g0 c l
  have a4 := split_bad g0 c l
  have a5 := free_bad g0 c
  have a6 := contexts_bad g0
  have a7 := copy_bad g0
  have b1 := group_bad g1 c
  have b2 := dup_bad g1 c
  have b3 := make_bad g1 c l
  have b4 := split_bad g1 c l
  have b5 := free_bad g1 c
  have b6 := contexts_bad g1
  have b7 := copy_bad g1
  refine walkX ?_
  refine AWP.sub (fr' := [(0, .sc (.int .i64 c)), (1, .list 1 (intsR l)), (17, .hsl 0 0 0 2), (18, .sc (.int .i64 ((2 : Nat) : Int))), (19, .sc (.int .i64 ((0 : Nat) : Int)))]) (H' := [[.cells 1 [[.sc (.pointer none)], [.cptr [.sc (.map none)]]]]]) ?_ ?_
  · refine Sub.to [] [[(1,0)]] ?_ (famsTo.cons (famTo.cons rfl (ToB.rowsR (ToR.cons (ToL.cons (To.sc _) ToL.nil) (ToR.cons (ToL.cons (To.fzp (r := [.sc (.map none)]) (g := 0) (i := 0) (row := 0) rfl rfl rfl (To.pure (.cptr _ (allPure_cons (.sc _) allPure_nil)))) ToL.nil) ToR.nil))) famTo.nil) famsTo.nil) rfl rfl rfl
    (all_goals (repeat' (first | exact ToAll.nil | exact famsTo.nil | exact famTo.nil | exact ToL.nil | exact ToR.nil | refine ToAll.cons ?_ ?_ | refine famsTo.cons ?_ ?_ | refine wt10 ?_ ?_ | exact To.undef _ | exact To.sc _ | exact To.hslL rfl rfl | exact To.ptrO rfl rfl rfl | exact To.mrefO rfl | exact To.nil rfl rfl rfl | exact wt1 | exact To.nilL | refine To.int ?_ | refine To.bool ?_ | refine To.hslL rfl ?_ | refine wt2 rfl ?_ ?_ ?_ | refine To.tupL ?_ | refine To.aggL ?_ | refine To.cptrL ?_ | refine wt3 ?_ | refine wt4 ?_ | refine To.cloL ?_ ?_ | exact wt5 | refine wt6 ?_ | refine ToB.one ?_ | exact wt7 | ((with_reducible apply ToL.consE); case e9 => rfl) | refine wt8 ?_ | refine ToL.cons ?_ ?_ | exact wt11 | refine wt9 ?_ ?_ | refine wt12 ?_ | (with_reducible rfl) | assumption)); all_goals (first | rfl | assumption | (simp; done) | (simp; omega) | (rw [wrap_small (by omega) (by omega)]; done) | (rw [wrap_small (by omega) (by omega)]; omega) | (refine congrArg Nat.cast ?_; assumption) | skip))
  have hp : PRs [[AV.sc (Value.pointer none)], [.cptr [.sc (.map none)]]] := ⟨fun r hr => by
    simp only [List.mem_cons, List.not_mem_nil, or_false] at hr
    rcases hr with rfl | rfl
    · exact allPure_cons (.sc _) allPure_nil
    · exact allPure_cons (.cptr _ (allPure_cons (.sc _) allPure_nil)) allPure_nil⟩
  refine AWP.loop (fun k : Nat => [(0, .sc (.int .i64 c)), (1, .list 1 (intsR l)), (17, .list 1 [[.sc (.pointer none)], [.cptr [.sc (.map none)]]]), (18, .sc (.int .i64 ((2 : Nat) : Int))), (19, .sc (.int .i64 (k : Int)))])
    (fun k => []) (fun k => k ≤ 2) (fun k => 2 - k) 0 (Nat.zero_le _) ?_ ?_
  · exact Sub.w [] []
  rintro k hk
  match k, hk with
  | 0, _ =>
    have hr : rowIx [[AV.sc (Value.pointer none)], [.cptr [.sc (.map none)]]] ((0 : Nat) : Int) = some [.sc (.pointer none)] := rfl
    refine walkX ?_
    refine ⟨1, by omega, by omega, ?_⟩
    exact Sub.w [] []
  | 1, _ =>
    have hr : rowIx [[AV.sc (Value.pointer none)], [.cptr [.sc (.map none)]]] ((1 : Nat) : Int) = some [.cptr [.sc (.map none)]] := rfl
    refine walkX ?_
    refine ⟨2, by omega, by omega, ?_⟩
    exact Sub.w [] []
  | 2, _ =>
    refine walkX ?_
    exact endW [] (⟨rfl, rfl⟩)
end Go.Proofs.Ytpkpfgpfkajkpaa
