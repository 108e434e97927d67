/- The law CommSetsSaid answers true for every input; no further condition. -/
import Derived.Test.YtpkpfgpfkajkpaaGCoU4
import Derived.Test.YtpkpfgpfkajkpaaGCoL11
import Derived.Test.YtpkpfgpfkajkpaaGCoT2
import Derived.Test.YtpkpfgpfkajkpaaGCoLaw
namespace Go.Proofs.Ytpkpfgpfkajkpaa
open Go.Av Go.Proofs
set_option maxRecDepth 20000
theorem opA_ok {a b o : List Int} (h : bothE a b = 0) : opA a b o = (0, o) := if_pos h
set_option maxHeartbeats 16000000 in
theorem commSets_ok (a b : List Int) : CallOK Try.prog 11 [.list 1 (intsR a), .list 1 (intsR b)] [] fun res _ => res = .sc (.bool true) := by
  refine CallOK.mono (R := fun res H' => res = .sc (.bool true) ∧ H' = []) ?_ fun _ _ h => h.1
  refine CallOK.of cF11 ?_ (Nat.le_of_ble_eq_true rfl)
  have hw := works_ok
  have hca := check_any a
  have hcb := check_any b
  by_cases ca : checkE a = 0
  case neg =>
    have na : (checkE a != 0) = true := by simpa using ca
    refine walkX ?_
    rw [na]
    refine walkX ?_
    (refine endH [] (by first | exact .inr rfl | exact .inl rfl) rfl ⟨rfl, rfl⟩ ?_ ?_ rfl rfl rfl; all_goals (repeat' (first | exact ToAll.nil | exact famsTo.nil | exact famTo.nil | exact ToL.nil | exact ToR.nil | refine ToAll.cons ?_ ?_ | refine famsTo.cons ?_ ?_ | refine wt10 ?_ ?_ | exact To.undef _ | exact To.sc _ | exact To.hslL rfl rfl | exact To.ptrO rfl rfl rfl | exact To.mrefO rfl | exact To.nil rfl rfl rfl | exact wt1 | exact To.nilL | refine To.int ?_ | refine To.bool ?_ | refine To.hslL rfl ?_ | refine wt2 rfl ?_ ?_ ?_ | refine To.tupL ?_ | refine To.aggL ?_ | refine To.cptrL ?_ | refine wt3 ?_ | refine wt4 ?_ | refine To.cloL ?_ ?_ | exact wt5 | refine wt6 ?_ | refine ToB.one ?_ | exact wt7 | ((with_reducible apply ToL.consE); case e9 => rfl) | refine wt8 ?_ | refine ToL.cons ?_ ?_ | exact wt11 | refine wt9 ?_ ?_ | refine wt12 ?_ | (with_reducible rfl) | assumption)); all_goals (first | rfl | assumption | (simp; done) | (simp; omega) | (rw [wrap_small (by omega) (by omega)]; done) | (rw [wrap_small (by omega) (by omega)]; omega) | (refine congrArg Nat.cast ?_; assumption) | skip))
  by_cases cb : checkE b = 0
  case neg =>
    have nb : (checkE b != 0) = true := by simpa using cb
    rw [ca] at hca
    refine walkX ?_
    rw [nb]
    refine walkX ?_
    (refine endH [] (by first | exact .inr rfl | exact .inl rfl) rfl ⟨rfl, rfl⟩ ?_ ?_ rfl rfl rfl; all_goals (repeat' (first | exact ToAll.nil | exact famsTo.nil | exact famTo.nil | exact ToL.nil | exact ToR.nil | refine ToAll.cons ?_ ?_ | refine famsTo.cons ?_ ?_ | refine wt10 ?_ ?_ | exact To.undef _ | exact To.sc _ | exact To.hslL rfl rfl | exact To.ptrO rfl rfl rfl | exact To.mrefO rfl | exact To.nil rfl rfl rfl | exact wt1 | exact To.nilL | refine To.int ?_ | refine To.bool ?_ | refine To.hslL rfl ?_ | refine wt2 rfl ?_ ?_ ?_ | refine To.tupL ?_ | refine To.aggL ?_ | refine To.cptrL ?_ | refine wt3 ?_ | refine wt4 ?_ | refine To.cloL ?_ ?_ | exact wt5 | refine wt6 ?_ | refine ToB.one ?_ | exact wt7 | ((with_reducible apply ToL.consE); case e9 => rfl) | refine wt8 ?_ | refine ToL.cons ?_ ?_ | exact wt11 | refine wt9 ?_ ?_ | refine wt12 ?_ | (with_reducible rfl) | assumption)); all_goals (first | rfl | assumption | (simp; done) | (simp; omega) | (rw [wrap_small (by omega) (by omega)]; done) | (rw [wrap_small (by omega) (by omega)]; omega) | (refine congrArg Nat.cast ?_; assumption) | skip))
  rw [ca] at hca
  rw [cb] at hcb
  obtain ⟨a1, a2, a3⟩ := check0_rng ca
  obtain ⟨b1, b2, b3⟩ := check0_rng cb
  have hab := both_of ca cb
  have hba := both_of cb ca
  have hI := inter_ok a b (by omega) (by omega)
  have hO := diff_ok a b (by omega) (by omega)
  have hU := union_ok a b (by omega) (by omega)
  have hB := union_ok b a (by omega) (by omega)
  rw [opA_ok hab] at hI hO hU
  rw [opA_ok hba] at hB
  have n1 := in_out_len a b
  have n2 := all_len a2 b2
  have n3 := all_len b2 a2
  have n4 : (a.filter (isIn' b)).length ≤ 64 := Nat.le_trans (List.length_filter_le _ _) a3
  have n5 : (a.filter (notIn' b)).length ≤ 64 := Nat.le_trans (List.length_filter_le _ _) a3
  have n6 : (b.filter (notIn' a)).length ≤ 64 := Nat.le_trans (List.length_filter_le _ _) b3
  have hU0 := union_check ca cb
  have hB0 := union_check cb ca
  have hM := diff_ok (a ++ b.filter (notIn' a)) b (by omega) (by omega)
  rw [opA_ok (both_of hU0 cb), more_out] at hM
  have hC := cmp_ok (a ++ b.filter (notIn' a)) (b ++ a.filter (notIn' b)) (by omega) (by omega)
  obtain ⟨c1, c2⟩ := union_cmp ca cb
  rw [c2] at hC
  have mI : ∀ x, x ∈ a → (x ∈ a.filter (isIn' b) ↔ x ∈ b) := fun x hx => by simp [List.mem_filter, isIn', hx]
  have mO : ∀ x, x ∈ a → (x ∈ a.filter (notIn' b) ↔ x ∉ b) := fun x hx => by simp [List.mem_filter, notIn', hx]
  have mU : ∀ x, x ∈ a ++ b.filter (notIn' a) ↔ x ∈ a ∨ x ∈ b := fun x => mem_union
  clear hU0 hB0 c2
  have hc3 : ((cmpE (a ++ b.filter (notIn' a)) (b ++ a.filter (notIn' b))).1 == 3) = false := beq_false_of_ne c1
  clear c1
  have hR := incl_ok a (upI a.length) (by omega) (by rw [upI_len]; omega)
  rw [up_rk ca, up_sel] at hR
  have hX := excl_ok a [] (by omega) (by simp)
  rw [excl_nil ca] at hX
  have hT := trans_ok a b (upI a.length) (by omega) (by omega) (by rw [upI_len]; omega)
  rw [trans_up ca cb] at hT
  have hF := trans_ok b a (toL a b) (by omega) (by omega) (by rw [toL_len]; omega)
  rw [trans_back ca cb] at hF
  have hcases : ∀ k (h : k < a.length) (h2 : k < (toL a b).length) (h3 : k < ((toL a b).map (toE b a)).length), (a[k] ∉ b ∧ (toL a b)[k] = -2) ∨
      (a[k] ∈ b ∧ ∃ q : Nat, ∃ hq : q < b.length, (toL a b)[k] = (q : Int) ∧ b[q] = a[k] ∧ ((toL a b).map (toE b a))[k] = (k : Int)) := fun k h _ _ => to_cases a2 h
  have tl := toL_len a b
  have fl : ((toL a b).map (toE b a)).length = a.length := by rw [List.length_map, tl]
  unfold ansS at hI hO hU hB hM hR hX hT hF
  generalize (toL a b).map (toE b a) = F at *
  generalize toL a b = T at *
  generalize (cmpE (a ++ b.filter (notIn' a)) (b ++ a.filter (notIn' b))).1 = c at *
  generalize a ++ b.filter (notIn' a) = U at *
  generalize b ++ a.filter (notIn' b) = B at *
  generalize a.filter (isIn' b) = I at *
  generalize a.filter (notIn' b) = O at *
  dsimp only at hI hO hU hB hM
  unfold ansE at hR
  dsimp only at hX hT hF
  have hR2 : CallOK Try.prog 41 [.list 1 (intsR a), .list 1 (intsR (upI a.length))] [] fun res H' => res = .tup [.hsl 0 0 0 a.length, .sc (.int .i64 0)] ∧ H' = [[.cells 1 (intsR a)]] := hR
  clear hR
  have eI := intsR_len I
  have eO := intsR_len O
  have eU := intsR_len U
  have eB := intsR_len B
  have ea := intsR_len a
  have eb := intsR_len b
  refine walkX ?_
  refine Reg.sub (fr' := [(0, .list 1 (intsR a)), (1, .list 1 (intsR b)), (36, .list 1 (intsR a)), (37, .list 1 (intsR b))]) (H' := []) ?_ ?_
  · exact Sub.w [] []
  refine Reg.c (Nat.zero_le _) rfl (hI.mono ?_)
  rintro res H' ⟨rfl, rfl⟩
  refine walkX ?_
  refine Reg.sub (fr' := [(0, .list 1 (intsR a)), (1, .list 1 (intsR b)), (5, .list 1 (intsR I)), (6, .sc (.int .i64 0)), (42, .list 1 (intsR a)), (43, .list 1 (intsR b))]) (H' := []) ?_ ?_
  · exact Sub.w [] []
  refine Reg.c (Nat.zero_le _) rfl (hO.mono ?_)
  rintro res H' ⟨rfl, rfl⟩
  refine walkX ?_
  refine Reg.sub (fr' := [(0, .list 1 (intsR a)), (1, .list 1 (intsR b)), (5, .list 1 (intsR I)), (6, .sc (.int .i64 0)), (7, .list 1 (intsR O)), (8, .sc (.int .i64 0)), (48, .list 1 (intsR a)), (49, .list 1 (intsR b))]) (H' := []) ?_ ?_
  · exact Sub.w [] []
  refine Reg.c (Nat.zero_le _) rfl (hU.mono ?_)
  rintro res H' ⟨rfl, rfl⟩
  refine walkX ?_
  refine Reg.sub (fr' := [(0, .list 1 (intsR a)), (1, .list 1 (intsR b)), (5, .list 1 (intsR I)), (6, .sc (.int .i64 0)), (7, .list 1 (intsR O)), (8, .sc (.int .i64 0)), (9, .list 1 (intsR U)), (10, .sc (.int .i64 0)), (54, .list 1 (intsR b)), (55, .list 1 (intsR a))]) (H' := []) ?_ ?_
  · exact Sub.w [] []
  refine Reg.c (Nat.zero_le _) rfl (hB.mono ?_)
  rintro res H' ⟨rfl, rfl⟩
  refine walkX ?_
  rw [show (intsR I).length + (intsR O).length = (intsR a).length by omega, decide_eq_true (rfl : (intsR a).length = (intsR a).length)]
  refine walkX ?_
  rw [show (intsR U).length = (intsR O).length + (intsR b).length by omega, decide_eq_true (rfl : (intsR O).length + (intsR b).length = (intsR O).length + (intsR b).length)]
  refine walkX ?_
  rw [ea]
  refine AWP.loop (fun k : Nat => [(0, .list 1 (intsR a)), (1, .list 1 (intsR b)), (5, .list 1 (intsR I)), (7, .list 1 (intsR O)), (9, .list 1 (intsR U)), (11, .list 1 (intsR B)), (93, .list 1 (intsR a)), (94, .sc (.int .i64 (a.length : Int))), (95, .sc (.int .i64 (k : Int)))])
    (fun k => []) (fun k => k ≤ a.length) (fun k => a.length - k) 0 (Nat.zero_le _) ?_ ?_
  · exact Sub.w [] []
  · rintro k hk
    refine walkX ?_
    refine AWP.condD rfl (fun h => ?_) (fun h => ?_)
    · have hr := intsR_ix a k h
      have hx := List.getElem_mem h
      have m1 := mI _ hx
      have m2 := mO _ hx
      have m3 := (mU a[k]).2 (.inl hx)
      have v1 := member_ok I a[k] (by omega)
      have v2 := member_ok O a[k] (by omega)
      have v3 := member_ok U a[k] (by omega)
      have v4 := member_ok b a[k] (by omega)
      generalize a[k] = x at *
      rw [decide_eq_true m3] at v3
      by_cases hxb : x ∈ b
      · rw [decide_eq_true (m1.2 hxb)] at v1
        rw [decide_eq_false (fun q => m2.1 q hxb)] at v2
        rw [decide_eq_true hxb] at v4
        refine walkX ?_
        refine ⟨k + 1, by omega, by omega, ?_⟩
        exact Sub.w [] []
      · rw [decide_eq_false (fun q => hxb (m1.1 q))] at v1
        rw [decide_eq_true (m2.2 hxb)] at v2
        rw [decide_eq_false hxb] at v4
        refine walkX ?_
        refine ⟨k + 1, by omega, by omega, ?_⟩
        exact Sub.w [] []
    refine walkX ?_
    rw [eb]
    refine AWP.loop (fun k : Nat => [(0, .list 1 (intsR a)), (1, .list 1 (intsR b)), (5, .list 1 (intsR I)), (7, .list 1 (intsR O)), (9, .list 1 (intsR U)), (11, .list 1 (intsR B)), (122, .list 1 (intsR b)), (123, .sc (.int .i64 (b.length : Int))), (124, .sc (.int .i64 (k : Int)))])
      (fun k => []) (fun k => k ≤ b.length) (fun k => b.length - k) 0 (Nat.zero_le _) ?_ ?_
    · exact Sub.w [] []
    rintro k2 hk2
    refine walkX ?_
    refine AWP.condD rfl (fun h => ?_) (fun h => ?_)
    · have hr := intsR_ix b k2 h
      have hx := List.getElem_mem h
      have m3 := (mU b[k2]).2 (.inr hx)
      have v3 := member_ok U b[k2] (by omega)
      generalize b[k2] = x at *
      rw [decide_eq_true m3] at v3
      refine walkX ?_
      refine ⟨k2 + 1, by omega, by omega, ?_⟩
      exact Sub.w [] []
    refine walkX ?_
    refine Reg.sub (fr' := [(0, .list 1 (intsR a)), (1, .list 1 (intsR b)), (7, .list 1 (intsR O)), (17, .sc (.int .i64 c)), (6, .sc (.int .i64 0)), (140, .list 1 (intsR U)), (141, .list 1 (intsR b))]) (H' := []) ?_ ?_
    · exact Sub.w [] []
    refine Reg.c (Nat.zero_le _) rfl (hM.mono ?_)
    rintro res H' ⟨rfl, rfl⟩
    have hq := equal51_ok O (by omega)
    refine walkX ?_
    rw [hc3]
    refine walkX ?_
    (refine Reg.pv (by first | exact Nat.zero_le _ | exact Nat.le_refl _ | (simp; done) | (simp; omega)) rfl hq (by first | exact .sc _ | (exact .agg _ (fun c hc => by simp at hc; rcases hc with h | h <;> subst h <;> exact .sc _)) | assumption) ?vw9 ?_; case vw9 => (all_goals (repeat' (first | exact ToAll.nil | exact famsTo.nil | exact famTo.nil | exact ToL.nil | exact ToR.nil | refine ToAll.cons ?_ ?_ | refine famsTo.cons ?_ ?_ | refine wt10 ?_ ?_ | exact To.undef _ | exact To.sc _ | exact To.hslL rfl rfl | exact To.ptrO rfl rfl rfl | exact To.mrefO rfl | exact To.nil rfl rfl rfl | exact wt1 | exact To.nilL | refine To.int ?_ | refine To.bool ?_ | refine To.hslL rfl ?_ | refine wt2 rfl ?_ ?_ ?_ | refine To.tupL ?_ | refine To.aggL ?_ | refine To.cptrL ?_ | refine wt3 ?_ | refine wt4 ?_ | refine To.cloL ?_ ?_ | exact wt5 | refine wt6 ?_ | refine ToB.one ?_ | exact wt7 | ((with_reducible apply ToL.consE); case e9 => rfl) | refine wt8 ?_ | refine ToL.cons ?_ ?_ | exact wt11 | refine wt9 ?_ ?_ | refine wt12 ?_ | (with_reducible rfl) | assumption)); all_goals (first | rfl | assumption | (simp; done) | (simp; omega))))
    refine walkX ?_
    rw [ea]
    refine AWP.loop (fun k : Nat => [(0, .list 1 (intsR a)), (1, .list 1 (intsR b)), (19, .hsl 0 0 0 k), (162, .list 1 (intsR a)), (163, .sc (.int .i64 (a.length : Int))), (164, .sc (.int .i64 (k : Int)))])
      (fun k => [[.cells 1 (intsR (upI k))]]) (fun k => k ≤ a.length) (fun k => a.length - k) 0 (Nat.zero_le _) ?_ ?_
    · (apply Sub.to [] [[(1,0)]]; all_goals (repeat' (first | exact ToAll.nil | exact famsTo.nil | exact famTo.nil | exact ToL.nil | exact ToR.nil | refine ToAll.cons ?_ ?_ | refine famsTo.cons ?_ ?_ | refine wt10 ?_ ?_ | exact To.undef _ | exact To.sc _ | exact To.hslL rfl rfl | exact To.ptrO rfl rfl rfl | exact To.mrefO rfl | exact To.nil rfl rfl rfl | exact wt1 | exact To.nilL | refine To.int ?_ | refine To.bool ?_ | refine To.hslL rfl ?_ | refine wt2 rfl ?_ ?_ ?_ | refine To.tupL ?_ | refine To.aggL ?_ | refine To.cptrL ?_ | refine wt3 ?_ | refine wt4 ?_ | refine To.cloL ?_ ?_ | exact wt5 | refine wt6 ?_ | refine ToB.one ?_ | exact wt7 | ((with_reducible apply ToL.consE); case e9 => rfl) | refine wt8 ?_ | refine ToL.cons ?_ ?_ | exact wt11 | refine wt9 ?_ ?_ | refine wt12 ?_ | (with_reducible rfl) | assumption)); all_goals (first | rfl | assumption | (simp; done) | (simp; omega) | (rw [wrap_small (by omega) (by omega)]; done) | (rw [wrap_small (by omega) (by omega)]; omega) | (refine congrArg Nat.cast ?_; assumption) | skip))
    · rintro k3 hk3
      refine walkX ?_
      refine AWP.condD rfl (fun h => ?_) (fun h => ?_)
      · have l1 : (intsR (upI k3)).length = k3 := by rw [intsR_len, upI_len]
        have e2 : intsR (upI (k3 + 1)) = intsR (upI k3) ++ [[.sc (.int .i64 (k3 : Int))]] := by rw [upI_succ]; simp [intsR]
        refine walkX ?_
        refine ⟨k3 + 1, by omega, by omega, ?_⟩
        rw [e2]
        (apply Sub.to [] [[(2,0)]]; all_goals (repeat' (first | exact ToAll.nil | exact famsTo.nil | exact famTo.nil | exact ToL.nil | exact ToR.nil | refine ToAll.cons ?_ ?_ | refine famsTo.cons ?_ ?_ | refine wt10 ?_ ?_ | exact To.undef _ | exact To.sc _ | exact To.hslL rfl rfl | exact To.ptrO rfl rfl rfl | exact To.mrefO rfl | exact To.nil rfl rfl rfl | exact wt1 | exact To.nilL | refine To.int ?_ | refine To.bool ?_ | refine To.hslL rfl ?_ | refine wt2 rfl ?_ ?_ ?_ | refine To.tupL ?_ | refine To.aggL ?_ | refine To.cptrL ?_ | refine wt3 ?_ | refine wt4 ?_ | refine To.cloL ?_ ?_ | exact wt5 | refine wt6 ?_ | refine ToB.one ?_ | exact wt7 | ((with_reducible apply ToL.consE); case e9 => rfl) | refine wt8 ?_ | refine ToL.cons ?_ ?_ | exact wt11 | refine wt9 ?_ ?_ | refine wt12 ?_ | (with_reducible rfl) | assumption)); all_goals (first | rfl | assumption | (simp; done) | (simp; omega) | (rw [wrap_small (by omega) (by omega)]; done) | (rw [wrap_small (by omega) (by omega)]; omega) | (refine congrArg Nat.cast ?_; assumption) | skip))
      have hk3e : k3 = a.length := by omega
      subst hk3e
      have lR : (intsR (upI a.length)).length = a.length := by rw [intsR_len, upI_len]
      refine walkX ?_
      refine Reg.sub (fr' := [(0, .list 1 (intsR a)), (1, .list 1 (intsR b)), (19, .list 1 (intsR (upI a.length))), (173, .list 1 (intsR a)), (174, .list 1 (intsR (upI a.length)))]) (H' := []) ?_ ?_
      · exact Sub.w [] []
      refine Reg.c (Nat.zero_le _) rfl (hR2.mono ?_)
      rintro res H' ⟨rfl, rfl⟩
      refine walkX ?_
      refine Reg.sub (fr' := [(0, .list 1 (intsR a)), (1, .list 1 (intsR b)), (19, .list 1 (intsR (upI a.length))), (6, .sc (.int .i64 0)), (21, .list 1 (intsR a)), (179, .list 1 (intsR a))]) (H' := []) ?_ ?_
      · exact Sub.w [] []
      have hX2 := CallOK.viewT (H := []) (args := [.list 1 (intsR a), .sc (.slice none 0 0)]) (ints_sc _) hX (ToL.cons (To.pure (.list _ _ (prs _))) (ToL.cons To.nilL ToL.nil))
      refine Reg.c (Nat.zero_le _) rfl (hX2.mono ?_)
      rintro res H' ⟨rfl, rfl⟩
      refine walkX ?_
      refine Reg.sub (fr' := [(0, .list 1 (intsR a)), (1, .list 1 (intsR b)), (19, .list 1 (intsR (upI a.length))), (6, .sc (.int .i64 0)), (21, .list 1 (intsR a)), (8, .sc (.int .i64 0)), (22, .list 1 (intsR a)), (184, .list 1 (intsR a)), (185, .list 1 (intsR (upI a.length))), (186, .list 1 (intsR b))]) (H' := []) ?_ ?_
      · exact Sub.w [] []
      refine Reg.c (Nat.zero_le _) rfl (hT.mono ?_)
      rintro res H' ⟨rfl, rfl⟩
      have eT := intsR_len T
      have eF := intsR_len F
      refine walkX ?_
      refine Reg.sub (fr' := [(0, .list 1 (intsR a)), (1, .list 1 (intsR b)), (6, .sc (.int .i64 0)), (21, .list 1 (intsR a)), (8, .sc (.int .i64 0)), (22, .list 1 (intsR a)), (10, .sc (.int .i64 0)), (23, .list 1 (intsR T)), (191, .list 1 (intsR b)), (192, .list 1 (intsR T)), (193, .list 1 (intsR a))]) (H' := []) ?_ ?_
      · exact Sub.w [] []
      refine Reg.c (Nat.zero_le _) rfl (hF.mono ?_)
      rintro res H' ⟨rfl, rfl⟩
      have eF2 : (intsR F).length = a.length := by rw [eF, fl]
      have hqa := equal51_ok a (by omega)
      refine walkX ?_
      rw [eT, tl, ea, decide_eq_true (rfl : a.length = a.length)]
      refine walkX ?_
      rw [fl, ea, decide_eq_true (rfl : a.length = a.length)]
      refine walkX ?_
      rw [ea]
      refine AWP.loop (fun k : Nat => [(0, .list 1 (intsR a)), (1, .list 1 (intsR b)), (23, .list 1 (intsR T)), (24, .list 1 (intsR F)), (238, .sc (.int .i64 (a.length : Int))), (239, .sc (.int .i64 (k : Int)))])
        (fun k => []) (fun k => k ≤ a.length) (fun k => a.length - k) 0 (Nat.zero_le _) ?_ ?_
      · exact Sub.w [] []
      rintro k hk
      refine walkX0 ?_
      refine AWP.condD rfl (fun h => ?_) (fun h => ?_)
      · have hx := intsR_ix a k h
        have ht := intsR_ix T k (by omega)
        have hf := intsR_ix F k (by omega)
        have hm := member_ok b a[k] (by omega)
        rcases hcases k h (by omega) (by omega) with ⟨h1, h2⟩ | ⟨h1, q, hq, h2, h3, h4⟩
        · rw [decide_eq_false h1] at hm
          rw [h2] at ht
          generalize a[k] = x at *
          refine walkX ?_
          refine DK.nil ⟨by kernel_rfl, ?_⟩
          refine walkX ?_
          refine ⟨k + 1, by omega, by omega, ?_⟩
          exact Sub.w [] []
        · have hb := intsR_ix b q hq
          rw [h3] at hb
          rw [decide_eq_true h1] at hm
          rw [h2] at ht
          rw [h4] at hf
          generalize a[k] = x at *
          refine walkX ?_
          rw [decide_eq_true (rfl : k = k)]
          refine walkX ?_
          rw [bne_self]
          refine DK.nil ⟨by kernel_rfl, ?_⟩
          refine walkX ?_
          refine ⟨k + 1, by omega, by omega, ?_⟩
          exact Sub.w [] []
      refine walkX ?_
      (refine endH [] (by first | exact .inr rfl | exact .inl rfl) rfl ⟨rfl, rfl⟩ ?_ ?_ rfl rfl rfl; all_goals (repeat' (first | exact ToAll.nil | exact famsTo.nil | exact famTo.nil | exact ToL.nil | exact ToR.nil | refine ToAll.cons ?_ ?_ | refine famsTo.cons ?_ ?_ | refine wt10 ?_ ?_ | exact To.undef _ | exact To.sc _ | exact To.hslL rfl rfl | exact To.ptrO rfl rfl rfl | exact To.mrefO rfl | exact To.nil rfl rfl rfl | exact wt1 | exact To.nilL | refine To.int ?_ | refine To.bool ?_ | refine To.hslL rfl ?_ | refine wt2 rfl ?_ ?_ ?_ | refine To.tupL ?_ | refine To.aggL ?_ | refine To.cptrL ?_ | refine wt3 ?_ | refine wt4 ?_ | refine To.cloL ?_ ?_ | exact wt5 | refine wt6 ?_ | refine ToB.one ?_ | exact wt7 | ((with_reducible apply ToL.consE); case e9 => rfl) | refine wt8 ?_ | refine ToL.cons ?_ ?_ | exact wt11 | refine wt9 ?_ ?_ | refine wt12 ?_ | (with_reducible rfl) | assumption)); all_goals (first | rfl | assumption | (simp; done) | (simp; omega) | (rw [wrap_small (by omega) (by omega)]; done) | (rw [wrap_small (by omega) (by omega)]; omega) | (refine congrArg Nat.cast ?_; assumption) | skip))
set_option maxRecDepth 100000 in
theorem commSets_lifted (os : Os) (started : os.Started) (H : Type) (enc : TypeId × Value → H) :
    ReturnsInHanded {} Try.checked os 11 .any (Rows.commSetsSpec.pre6 enc Try.prog Try.f11 Rows.commSetsRow.domain false) (Rows.commSetsSpec.post enc Try.prog Try.f11 false true false false) := by
  refine returnsInHanded_of_change (C := Try.checked) Try_own started (by kernel_rfl) Try.func11
    (ChangeSpec.witness6 (enc := enc) (C := Try.checked) false ⟨#[], #[.slice none 0 0, .slice none 0 0], []⟩ 8 (by kernel_rfl) (by kernel_rfl) (by kernel_rfl) (by kernel_rfl)) ?_
  intro W base args ds gs before hval hW _ _
  refine law_calls (P := Try.prog) (d := 8) (row := [.slice [.int .i64], .slice [.int .i64]]) (tb := 4) (by kernel_rfl) rfl Try_laid Try_maps Try_slices (by decide) rfl tb_bool (fun ds hds => ?_) (fun avs hl hf => ?_) hval hW
  · match ds, hds with
    | [_, _], _ => exact ⟨rfl, rfl, rfl⟩
  · obtain ⟨x, y, rfl, h1, h2⟩ := avs2 hl hf
    clear hl
    obtain ⟨a, rfl, _, _⟩ := open_ints' h1
    obtain ⟨b, rfl, _, _⟩ := open_ints' h2
    exact commSets_ok a b
theorem commSets_holds : Rows.CommSetsSaid :=
  OpenClaim.holds_of_wide 11 Try.f11 rfl rfl rfl rfl rfl rfl rfl ⟨rfl, rfl, rfl, rfl, rfl⟩ rfl rfl rfl rfl rfl (by kernel_rfl) Try.func11 (by kernel_rfl)
    (of_decide_eq_true (by kernel_rfl)) (by unfold Func.isWrapper; first | (rw [if_pos (by decide +kernel)]; kernel_rfl) | (rw [if_neg (by decide +kernel)]; exact ⟨rfl, rfl⟩))
    (fun os started H enc _ => commSets_lifted os started H enc)
end Go.Proofs.Ytpkpfgpfkajkpaa
