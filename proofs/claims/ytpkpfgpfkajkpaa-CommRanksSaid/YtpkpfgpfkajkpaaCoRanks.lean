/- The law CommRanksSaid answers true for every input; no further condition. -/
import Derived.Test.YtpkpfgpfkajkpaaGCoU3
import Derived.Test.YtpkpfgpfkajkpaaGCoU1
import Derived.Test.YtpkpfgpfkajkpaaGCoL8
import Derived.Test.YtpkpfgpfkajkpaaGCoWorks
import Derived.Test.YtpkpfgpfkajkpaaGCoLaw
namespace Go.Proofs.Ytpkpfgpfkajkpaa
open Go.Av Go.Proofs
set_option maxRecDepth 20000
theorem ansS_at2 {f : FuncId} {args : List AV} {p : Int × List Int} (h : CallOK Try.prog f args [] (ansS p)) (H : Heap) (ha : ToL (ToT (H ++ gh []) H.length (notIn [])) (rho []) args args) :
    CallOK Try.prog f args H fun res H' => res = .tup [.hsl H.length 0 0 p.2.length, .sc (.int .i64 p.1)] ∧ H' = H ++ [[.cells 1 (intsR p.2)]] :=
  CallOK.viewT (ints_sc _) h ha
theorem two_pure2 {H : Heap} (a b : List Int) : ToL (ToT (H ++ gh []) H.length (notIn [])) (rho []) [.list 1 (intsR a), .list 1 (intsR b)] [.list 1 (intsR a), .list 1 (intsR b)] :=
  ToL.cons (To.pure (.list _ _ (prs _))) (ToL.cons (To.pure (.list _ _ (prs _))) ToL.nil)
theorem three_pure {H : Heap} (a b c : List Int) : ToL (ToT (H ++ gh []) H.length (notIn [])) (rho []) [.list 1 (intsR a), .list 1 (intsR b), .list 1 (intsR c)] [.list 1 (intsR a), .list 1 (intsR b), .list 1 (intsR c)] :=
  ToL.cons (To.pure (.list _ _ (prs _))) (ToL.cons (To.pure (.list _ _ (prs _))) (ToL.cons (To.pure (.list _ _ (prs _))) ToL.nil))
theorem ansE_len {e : Int} {o : List Int} {n : Nat} (h : o.length ≤ n) : (ansE e o).2.length ≤ n := by
  unfold ansE
  split
  · exact h
  · exact Nat.zero_le _
theorem transA_len (a b rs : List Int) : (transA a b rs).2.length ≤ rs.length := by
  unfold transA
  split
  · split
    · exact Nat.zero_le _
    · rw [List.length_map]; exact Nat.le_refl _
  · exact Nat.zero_le _
theorem few3 {a b c : List Int} (h : fewE [a, b, c] = true) : a.length ≤ 100 ∧ b.length ≤ 100 ∧ c.length ≤ 100 := by
  simpa [fewE] using h
set_option maxHeartbeats 8000000 in
theorem commRanks_ok (a r b : List Int) : CallOK Try.prog 8 [.list 1 (intsR a), .list 1 (intsR r), .list 1 (intsR b)] [] fun res _ => res = .sc (.bool true) := by
  refine CallOK.mono (R := fun res H' => res = .sc (.bool true) ∧ H' = []) ?_ fun _ _ h => h.1
  refine CallOK.of cF8 ?_ (Nat.le_of_ble_eq_true rfl)
  have hw := works_ok
  have hf := few_ok [a, r, b] (by simp)
  refine walkX ?_
  show Reg Try.prog _ _ _ _ [[.cells 1 [[.list 1 (intsR a)], [.list 1 (intsR r)], [.list 1 (intsR b)]]]] _
  refine Reg.sub (fr' := [(0, .list 1 (intsR a)), (1, .list 1 (intsR r)), (2, .list 1 (intsR b)), (14, .hsl 0 0 0 3)]) (H' := [[.cells 1 [[.list 1 (intsR a)], [.list 1 (intsR r)], [.list 1 (intsR b)]]]]) ?_ ?_
  · exact Sub.w [] [[(0,0)]]
  refine Reg.pv (Nat.zero_le _) rfl hf (.sc _) (ToL.cons (wt2 (rows := [[.list 1 (intsR a)], [.list 1 (intsR r)], [.list 1 (intsR b)]]) rfl rfl rfl rfl) ToL.nil) ?_
  cases hfe : fewE [a, r, b] with
  | false =>
    refine walkX ?_
    (refine endH [] (by first | exact .inr rfl | exact .inl rfl) rfl ⟨rfl, rfl⟩ ?_ ?_ rfl rfl rfl; all_goals (repeat' (first | exact ToAll.nil | exact famsTo.nil | exact famTo.nil | exact ToL.nil | exact ToR.nil | refine ToAll.cons ?_ ?_ | refine famsTo.cons ?_ ?_ | refine wt10 ?_ ?_ | exact To.undef _ | exact To.sc _ | exact To.hslL rfl rfl | exact To.ptrO rfl rfl rfl | exact To.mrefO rfl | exact To.nil rfl rfl rfl | exact wt1 | exact To.nilL | refine To.int ?_ | refine To.bool ?_ | refine To.hslL rfl ?_ | refine wt2 rfl ?_ ?_ ?_ | refine To.tupL ?_ | refine To.aggL ?_ | refine To.cptrL ?_ | refine wt3 ?_ | refine wt4 ?_ | refine To.cloL ?_ ?_ | exact wt5 | refine wt6 ?_ | refine ToB.one ?_ | exact wt7 | ((with_reducible apply ToL.consE); case e9 => rfl) | refine wt8 ?_ | refine ToL.cons ?_ ?_ | exact wt11 | refine wt9 ?_ ?_ | refine wt12 ?_ | (with_reducible rfl) | assumption)); all_goals (first | rfl | assumption | (simp; done) | (simp; omega) | (rw [wrap_small (by omega) (by omega)]; done) | (rw [wrap_small (by omega) (by omega)]; omega) | (refine congrArg Nat.cast ?_; assumption) | skip))
  | true =>
  obtain ⟨la, lr, lb⟩ := few3 hfe
  have hu1 := incl_ok a r (by omega) (by omega)
  have hu2 := incl_doc a r (by omega) (by omega)
  have lu : (ansE (rkE a r) (selE a r)).2.length ≤ 100 := ansE_len (by rw [sel_len]; omega)
  have hi1 := excl_ok a r (by omega) (by omega)
  have hi2 := excl_doc a r (by omega) (by omega)
  have li : (exclA a r).2.length ≤ 100 := ansE_len (Nat.le_trans (List.length_filter_le _ _) la)
  have hd1 := trans_ok a b r (by omega) (by omega) (by omega)
  have hd2 := trans_doc a b r (by omega) (by omega) (by omega)
  have ld : (transA a b r).2.length ≤ 100 := Nat.le_trans (transA_len _ _ _) lr
  generalize ansE (rkE a r) (selE a r) = pu at *
  generalize exclA a r = pi at *
  generalize transA a b r = pd at *
  obtain ⟨eu, ou⟩ := pu
  obtain ⟨ei, oi⟩ := pi
  obtain ⟨ed, od⟩ := pd
  dsimp only at lu li ld
  have vu := is_ok ou eu (by omega)
  have vi := is_ok oi ei (by omega)
  have vd := is_ok od ed (by omega)
  have nu := intsR_len ou
  have ni := intsR_len oi
  have nd := intsR_len od
  refine walkX ?_
  refine Reg.sub (fr' := [(0, .list 1 (intsR a)), (1, .list 1 (intsR r)), (2, .list 1 (intsR b)), (19, .list 1 (intsR a)), (20, .list 1 (intsR r))]) (H' := []) ?_ ?_
  · exact Sub.w [] []
  refine Reg.c (Nat.zero_le _) rfl (hu1.mono ?_)
  rintro res H' ⟨rfl, rfl⟩
  refine walkX ?_
  refine Reg.c (Nat.zero_le _) rfl ((ansS_at2 hu2 _ (two_pure2 a r)).mono ?_)
  rintro res H' ⟨rfl, rfl⟩
  dsimp only
  refine walkX ?_
  (refine Reg.pv (by first | exact Nat.zero_le _ | exact Nat.le_refl _ | (simp; done) | (simp; omega)) rfl vu (by first | exact .sc _ | (exact .agg _ (fun c hc => by simp at hc; rcases hc with h | h <;> subst h <;> exact .sc _)) | assumption) ?vw9 ?_; case vw9 => (all_goals (repeat' (first | exact ToAll.nil | exact famsTo.nil | exact famTo.nil | exact ToL.nil | exact ToR.nil | refine ToAll.cons ?_ ?_ | refine famsTo.cons ?_ ?_ | refine wt10 ?_ ?_ | exact To.undef _ | exact To.sc _ | exact To.hslL rfl rfl | exact To.ptrO rfl rfl rfl | exact To.mrefO rfl | exact To.nil rfl rfl rfl | exact wt1 | exact To.nilL | refine To.int ?_ | refine To.bool ?_ | refine To.hslL rfl ?_ | refine wt2 rfl ?_ ?_ ?_ | refine To.tupL ?_ | refine To.aggL ?_ | refine To.cptrL ?_ | refine wt3 ?_ | refine wt4 ?_ | refine To.cloL ?_ ?_ | exact wt5 | refine wt6 ?_ | refine ToB.one ?_ | exact wt7 | ((with_reducible apply ToL.consE); case e9 => rfl) | refine wt8 ?_ | refine ToL.cons ?_ ?_ | exact wt11 | refine wt9 ?_ ?_ | refine wt12 ?_ | (with_reducible rfl) | assumption)); all_goals (first | rfl | assumption | (simp; done) | (simp; omega))))
  refine walkX ?_
  refine Reg.sub (fr' := [(0, .list 1 (intsR a)), (1, .list 1 (intsR r)), (2, .list 1 (intsR b)), (37, .list 1 (intsR a)), (38, .list 1 (intsR r))]) (H' := []) ?_ ?_
  · exact Sub.w [] []
  refine Reg.c (Nat.zero_le _) rfl (hi1.mono ?_)
  rintro res H' ⟨rfl, rfl⟩
  refine walkX ?_
  refine Reg.c (Nat.zero_le _) rfl ((ansS_at2 hi2 _ (two_pure2 a r)).mono ?_)
  rintro res H' ⟨rfl, rfl⟩
  dsimp only
  refine walkX ?_
  (refine Reg.pv (by first | exact Nat.zero_le _ | exact Nat.le_refl _ | (simp; done) | (simp; omega)) rfl vi (by first | exact .sc _ | (exact .agg _ (fun c hc => by simp at hc; rcases hc with h | h <;> subst h <;> exact .sc _)) | assumption) ?vw9 ?_; case vw9 => (all_goals (repeat' (first | exact ToAll.nil | exact famsTo.nil | exact famTo.nil | exact ToL.nil | exact ToR.nil | refine ToAll.cons ?_ ?_ | refine famsTo.cons ?_ ?_ | refine wt10 ?_ ?_ | exact To.undef _ | exact To.sc _ | exact To.hslL rfl rfl | exact To.ptrO rfl rfl rfl | exact To.mrefO rfl | exact To.nil rfl rfl rfl | exact wt1 | exact To.nilL | refine To.int ?_ | refine To.bool ?_ | refine To.hslL rfl ?_ | refine wt2 rfl ?_ ?_ ?_ | refine To.tupL ?_ | refine To.aggL ?_ | refine To.cptrL ?_ | refine wt3 ?_ | refine wt4 ?_ | refine To.cloL ?_ ?_ | exact wt5 | refine wt6 ?_ | refine ToB.one ?_ | exact wt7 | ((with_reducible apply ToL.consE); case e9 => rfl) | refine wt8 ?_ | refine ToL.cons ?_ ?_ | exact wt11 | refine wt9 ?_ ?_ | refine wt12 ?_ | (with_reducible rfl) | assumption)); all_goals (first | rfl | assumption | (simp; done) | (simp; omega))))
  refine walkX ?_
  refine Reg.sub (fr' := [(0, .list 1 (intsR a)), (1, .list 1 (intsR r)), (2, .list 1 (intsR b)), (55, .list 1 (intsR a)), (56, .list 1 (intsR r)), (57, .list 1 (intsR b))]) (H' := []) ?_ ?_
  · exact Sub.w [] []
  refine Reg.c (Nat.zero_le _) rfl (hd1.mono ?_)
  rintro res H' ⟨rfl, rfl⟩
  refine walkX ?_
  refine Reg.c (Nat.zero_le _) rfl ((ansS_at2 hd2 _ (three_pure a r b)).mono ?_)
  rintro res H' ⟨rfl, rfl⟩
  dsimp only
  refine walkX ?_
  (refine Reg.pv (by first | exact Nat.zero_le _ | exact Nat.le_refl _ | (simp; done) | (simp; omega)) rfl vd (by first | exact .sc _ | (exact .agg _ (fun c hc => by simp at hc; rcases hc with h | h <;> subst h <;> exact .sc _)) | assumption) ?vw9 ?_; case vw9 => (all_goals (repeat' (first | exact ToAll.nil | exact famsTo.nil | exact famTo.nil | exact ToL.nil | exact ToR.nil | refine ToAll.cons ?_ ?_ | refine famsTo.cons ?_ ?_ | refine wt10 ?_ ?_ | exact To.undef _ | exact To.sc _ | exact To.hslL rfl rfl | exact To.ptrO rfl rfl rfl | exact To.mrefO rfl | exact To.nil rfl rfl rfl | exact wt1 | exact To.nilL | refine To.int ?_ | refine To.bool ?_ | refine To.hslL rfl ?_ | refine wt2 rfl ?_ ?_ ?_ | refine To.tupL ?_ | refine To.aggL ?_ | refine To.cptrL ?_ | refine wt3 ?_ | refine wt4 ?_ | refine To.cloL ?_ ?_ | exact wt5 | refine wt6 ?_ | refine ToB.one ?_ | exact wt7 | ((with_reducible apply ToL.consE); case e9 => rfl) | refine wt8 ?_ | refine ToL.cons ?_ ?_ | exact wt11 | refine wt9 ?_ ?_ | refine wt12 ?_ | (with_reducible rfl) | assumption)); all_goals (first | rfl | assumption | (simp; done) | (simp; omega))))
  refine walkX ?_
  (refine endH [] (by first | exact .inr rfl | exact .inl rfl) rfl ⟨rfl, rfl⟩ ?_ ?_ rfl rfl rfl; all_goals (repeat' (first | exact ToAll.nil | exact famsTo.nil | exact famTo.nil | exact ToL.nil | exact ToR.nil | refine ToAll.cons ?_ ?_ | refine famsTo.cons ?_ ?_ | refine wt10 ?_ ?_ | exact To.undef _ | exact To.sc _ | exact To.hslL rfl rfl | exact To.ptrO rfl rfl rfl | exact To.mrefO rfl | exact To.nil rfl rfl rfl | exact wt1 | exact To.nilL | refine To.int ?_ | refine To.bool ?_ | refine To.hslL rfl ?_ | refine wt2 rfl ?_ ?_ ?_ | refine To.tupL ?_ | refine To.aggL ?_ | refine To.cptrL ?_ | refine wt3 ?_ | refine wt4 ?_ | refine To.cloL ?_ ?_ | exact wt5 | refine wt6 ?_ | refine ToB.one ?_ | exact wt7 | ((with_reducible apply ToL.consE); case e9 => rfl) | refine wt8 ?_ | refine ToL.cons ?_ ?_ | exact wt11 | refine wt9 ?_ ?_ | refine wt12 ?_ | (with_reducible rfl) | assumption)); all_goals (first | rfl | assumption | (simp; done) | (simp; omega) | (rw [wrap_small (by omega) (by omega)]; done) | (rw [wrap_small (by omega) (by omega)]; omega) | (refine congrArg Nat.cast ?_; assumption) | skip))
set_option maxRecDepth 100000 in
theorem commRanks_lifted (os : Os) (started : os.Started) (H : Type) (enc : TypeId × Value → H) :
    ReturnsInHanded {} Try.checked os 8 .any (Rows.commRanksSpec.pre6 enc Try.prog Try.f8 Rows.commRanksRow.domain false) (Rows.commRanksSpec.post enc Try.prog Try.f8 false true false false) := by
  refine returnsInHanded_of_change (C := Try.checked) Try_own started (by kernel_rfl) Try.func8
    (ChangeSpec.witness6 (enc := enc) (C := Try.checked) false ⟨#[], #[.slice none 0 0, .slice none 0 0, .slice none 0 0], []⟩ 8 (by kernel_rfl) (by kernel_rfl) (by kernel_rfl) (by kernel_rfl)) ?_
  intro W base args ds gs before hval hW _ _
  refine law_calls (P := Try.prog) (d := 8) (row := [.slice [.int .i64], .slice [.int .i64], .slice [.int .i64]]) (tb := 4) (by kernel_rfl) rfl Try_laid Try_maps Try_slices (by decide) rfl tb_bool (fun ds hds => ?_) (fun avs hl hf => ?_) hval hW
  · match ds, hds with
    | [_, _, _], _ => exact ⟨rfl, rfl, rfl⟩
  · obtain ⟨x, y, z, rfl, h1, h2, h3⟩ := avs3 hl hf
    clear hl
    obtain ⟨a, rfl, _, _⟩ := open_ints' h1
    obtain ⟨r, rfl, _, _⟩ := open_ints' h2
    obtain ⟨b, rfl, _, _⟩ := open_ints' h3
    exact commRanks_ok a r b
theorem commRanks_holds : Rows.CommRanksSaid :=
  OpenClaim.holds_of_wide 8 Try.f8 rfl rfl rfl rfl rfl rfl rfl ⟨rfl, rfl, rfl, rfl, rfl⟩ rfl rfl rfl rfl rfl (by kernel_rfl) Try.func8 (by kernel_rfl)
    (of_decide_eq_true (by kernel_rfl)) (by unfold Func.isWrapper; first | (rw [if_pos (by decide +kernel)]; kernel_rfl) | (rw [if_neg (by decide +kernel)]; exact ⟨rfl, rfl⟩))
    (fun os started H enc _ => commRanks_lifted os started H enc)
end Go.Proofs.Ytpkpfgpfkajkpaa
