/- Agree returns what the document says, for every list of flags, of known failures and of crashes. -/
import Derived.Test.YtbpmbofinoinmaaFaB5
import Derived.Test.YtbpmbofinoinmaaFaChecks
namespace Go.Proofs.Ytbpmbofinoinmaa
open Go.Av Go.Proofs

theorem few_run (n m : Int) : PureRun Try.prog 15 [.sc (.int .i64 n), .sc (.int .i64 m)] (.sc (.bool (fewB n m))) := PureRun.ofI (few_ok n m)
theorem fewB_le {n m : Int} (h : fewB n m = true) (hm : m ≤ 70) : n ≤ 70 := by
  unfold fewB at h
  simp at h
  omega

theorem sameP_ok (q : Rp) (hq : q.failed.length ≤ 64) : PureRun Try.prog 18 [.agg (rpRow q), .agg (rpRow q)] (.sc (.bool true)) := by
  refine PureRun.mkI cF18 (by simp [F18]) ?_
  have hE : PureRun Try.prog 21 [intsV q.failed, intsV q.failed] (.sc (.bool true)) := by
    have := PureRun.ofI (v := .sc (.bool true)) ((equal_ok q.failed q.failed (by omega)).mono fun res _ h => by rw [h]; simp)
    exact this
  repeat (first | refine wr1 ?_ | refine wr2 ?_ | refine wr3 ?_ | refine wr4 ?_ | refine Reg.nil ?_ | refine wd1 ?_ | refine wd2 ?_ | refine wd3 ?_ | refine wd4 ?_ | refine AWP.seq ?_ | refine AWP.region ?_ | refine AWP.dk mixed ?_ | refine AWP.condT rfl ?_ | refine AWP.condF rfl ?_ | refine AWP.skip ?_ | refine AWP.ret ?_ | refine AWP.exit ?_ | refine AWP.block ?_ | refine wr5 ?_ | refine wr6 ?_ | refine wr7 ?_ | refine wr8 ?_ | refine wr9 ?_ | refine wr10 ?_ | refine wd5 ?_ | refine wd6 ?_ | refine wd7 ?_ | refine wd8 ?_ | refine wd10 ?_ )
  refine Reg.gs rfl (fun g => ?_) (fun g => by simp at g)
  repeat (first | refine wr1 ?_ | refine wr2 ?_ | refine wr3 ?_ | refine wr4 ?_ | refine Reg.nil ?_ | refine wd1 ?_ | refine wd2 ?_ | refine wd3 ?_ | refine wd4 ?_ | refine AWP.seq ?_ | refine AWP.region ?_ | refine AWP.dk mixed ?_ | refine AWP.condT rfl ?_ | refine AWP.condF rfl ?_ | refine AWP.skip ?_ | refine AWP.ret ?_ | refine AWP.exit ?_ | refine AWP.block ?_ | refine wr5 ?_ | refine wr6 ?_ | refine wr7 ?_ | refine wr8 ?_ | refine wr9 ?_ | refine wr10 ?_ | refine wd5 ?_ | refine wd6 ?_ | refine wd7 ?_ | refine wd8 ?_ | refine wd10 ?_ )
  refine Reg.gs rfl (fun g => ?_) (fun g => by simp at g)
  repeat (first | refine wr1 ?_ | refine wr2 ?_ | refine wr3 ?_ | refine wr4 ?_ | refine Reg.nil ?_ | refine wd1 ?_ | refine wd2 ?_ | refine wd3 ?_ | refine wd4 ?_ | refine AWP.seq ?_ | refine AWP.region ?_ | refine AWP.dk mixed ?_ | refine AWP.condT rfl ?_ | refine AWP.condF rfl ?_ | refine AWP.skip ?_ | refine AWP.ret ?_ | refine AWP.exit ?_ | refine AWP.block ?_ | refine wr5 ?_ | refine wr6 ?_ | refine wr7 ?_ | refine wr8 ?_ | refine wr9 ?_ | refine wr10 ?_ | refine wd5 ?_ | refine wd6 ?_ | refine wd7 ?_ | refine wd8 ?_ | refine wd10 ?_ )
  refine Reg.gs rfl (fun g => ?_) (fun g => by simp at g)
  repeat (first | refine wr1 ?_ | refine wr2 ?_ | refine wr3 ?_ | refine wr4 ?_ | refine Reg.nil ?_ | refine wd1 ?_ | refine wd2 ?_ | refine wd3 ?_ | refine wd4 ?_ | refine AWP.seq ?_ | refine AWP.region ?_ | refine AWP.dk mixed ?_ | refine AWP.condT rfl ?_ | refine AWP.condF rfl ?_ | refine AWP.skip ?_ | refine AWP.ret ?_ | refine AWP.exit ?_ | refine AWP.block ?_ | refine wr5 ?_ | refine wr6 ?_ | refine wr7 ?_ | refine wr8 ?_ | refine wr9 ?_ | refine wr10 ?_ | refine wd5 ?_ | refine wd6 ?_ | refine wd7 ?_ | refine wd8 ?_ | refine wd10 ?_ )
  (refine EndP.mk (.inr rfl) rfl rfl ?_; all_goals (repeat' (first | exact ToAll.nil | exact famsTo.nil | exact famTo.nil | exact ToL.nil | exact ToR.nil | refine ToAll.cons ?_ ?_ | refine famsTo.cons ?_ ?_ | refine wt10 ?_ ?_ | exact To.undef _ | exact To.sc _ | exact To.hslL rfl rfl | exact To.ptrO rfl rfl rfl | exact To.mrefO rfl | exact To.nil rfl rfl rfl | exact wt1 | exact To.nilL | refine To.int ?_ | refine To.bool ?_ | refine To.hslL rfl ?_ | refine wt2 rfl ?_ ?_ ?_ | refine To.tupL ?_ | refine To.aggL ?_ | refine To.cptrL ?_ | refine wt3 ?_ | refine wt4 ?_ | refine To.cloL ?_ ?_ | exact wt5 | refine wt6 ?_ | refine ToB.one ?_ | exact wt7 | ((with_reducible apply ToL.consE); case e9 => rfl) | refine wt8 ?_ | refine ToL.cons ?_ ?_ | exact wt11 | refine wt9 ?_ ?_ | refine wt12 ?_ | (with_reducible rfl) | assumption)); all_goals (first | rfl | assumption | (simp; done) | (simp; omega) | skip))

theorem agreeR_len (fl : List Int) (L : List (List Int)) (l : List C) : (agreeR fl L l).1.length ≤ fl.length ∧ ∀ q ∈ (agreeR fl L l).1, q.failed.length ≤ 64 := by
  unfold agreeR
  split
  · exact ⟨Nat.zero_le _, fun q h => by cases h⟩
  · split
    · exact ⟨Nat.zero_le _, fun q h => by cases h⟩
    · split
      · exact ⟨Nat.zero_le _, fun q h => by cases h⟩
      · refine ⟨by simp, fun q hq => ?_⟩
        obtain ⟨i, _, rfl⟩ := List.mem_map.1 hq
        unfold rpOf
        split
        · exact elems_len _ _
        · exact Nat.zero_le _

set_option maxRecDepth 10000 in
set_option maxHeartbeats 2000000 in
theorem faultAgreements_ok (fl : List Int) (L : List (List Int)) (l : List C) : PureRun Try.prog 4 [intsV fl, knownV L, crV l] (.sc (.bool true)) := by
  refine PureRun.mkI cF4 (by simp [F4]) ?_
  have hw := works_pure
  have e0 : (intsR fl).length = fl.length := intsR_len fl
  have eL : (L.map fun ks => [intsV ks]).length = L.length := by simp
  have ec : (l.map crow).length = l.length := by simp
  have hf1 := few_run fl.length 16
  have hf2 := few_run L.length 16
  repeat (first | refine wr1 ?_ | refine wr2 ?_ | refine wr3 ?_ | refine wr4 ?_ | refine Reg.nil ?_ | refine wd1 ?_ | refine wd2 ?_ | refine wd3 ?_ | refine wd4 ?_ | refine AWP.seq ?_ | refine AWP.region ?_ | refine AWP.dk mixed ?_ | refine AWP.condT rfl ?_ | refine AWP.condF rfl ?_ | refine AWP.skip ?_ | refine AWP.ret ?_ | refine AWP.exit ?_ | refine AWP.block ?_ | refine wr5 ?_ | refine wr6 ?_ | refine wr7 ?_ | refine wr8 ?_ | refine wr9 ?_ | refine wr10 ?_ | refine wd5 ?_ | refine wd6 ?_ | refine wd7 ?_ | refine wd8 ?_ | refine wd10 ?_ )
  rw [e0]
  repeat (first | refine wr1 ?_ | refine wr2 ?_ | refine wr3 ?_ | refine wr4 ?_ | refine Reg.nil ?_ | refine wd1 ?_ | refine wd2 ?_ | refine wd3 ?_ | refine wd4 ?_ | refine AWP.seq ?_ | refine AWP.region ?_ | refine AWP.dk mixed ?_ | refine AWP.condT rfl ?_ | refine AWP.condF rfl ?_ | refine AWP.skip ?_ | refine AWP.ret ?_ | refine AWP.exit ?_ | refine AWP.block ?_ | refine wr5 ?_ | refine wr6 ?_ | refine wr7 ?_ | refine wr8 ?_ | refine wr9 ?_ | refine wr10 ?_ | refine wd5 ?_ | refine wd6 ?_ | refine wd7 ?_ | refine wd8 ?_ | refine wd10 ?_ )
  refine Reg.gs rfl (fun g1 => ?_) (fun g1 => ?_)
  · repeat (first | refine wr1 ?_ | refine wr2 ?_ | refine wr3 ?_ | refine wr4 ?_ | refine Reg.nil ?_ | refine wd1 ?_ | refine wd2 ?_ | refine wd3 ?_ | refine wd4 ?_ | refine AWP.seq ?_ | refine AWP.region ?_ | refine AWP.dk mixed ?_ | refine AWP.condT rfl ?_ | refine AWP.condF rfl ?_ | refine AWP.skip ?_ | refine AWP.ret ?_ | refine AWP.exit ?_ | refine AWP.block ?_ | refine wr5 ?_ | refine wr6 ?_ | refine wr7 ?_ | refine wr8 ?_ | refine wr9 ?_ | refine wr10 ?_ | refine wd5 ?_ | refine wd6 ?_ | refine wd7 ?_ | refine wd8 ?_ | refine wd10 ?_ )
    (refine EndP.mk (.inr rfl) rfl rfl ?_; all_goals (repeat' (first | exact ToAll.nil | exact famsTo.nil | exact famTo.nil | exact ToL.nil | exact ToR.nil | refine ToAll.cons ?_ ?_ | refine famsTo.cons ?_ ?_ | refine wt10 ?_ ?_ | exact To.undef _ | exact To.sc _ | exact To.hslL rfl rfl | exact To.ptrO rfl rfl rfl | exact To.mrefO rfl | exact To.nil rfl rfl rfl | exact wt1 | exact To.nilL | refine To.int ?_ | refine To.bool ?_ | refine To.hslL rfl ?_ | refine wt2 rfl ?_ ?_ ?_ | refine To.tupL ?_ | refine To.aggL ?_ | refine To.cptrL ?_ | refine wt3 ?_ | refine wt4 ?_ | refine To.cloL ?_ ?_ | exact wt5 | refine wt6 ?_ | refine ToB.one ?_ | exact wt7 | ((with_reducible apply ToL.consE); case e9 => rfl) | refine wt8 ?_ | refine ToL.cons ?_ ?_ | exact wt11 | refine wt9 ?_ ?_ | refine wt12 ?_ | (with_reducible rfl) | assumption)); all_goals (first | rfl | assumption | (simp; done) | (simp; omega) | skip))
  · repeat (first | refine wr1 ?_ | refine wr2 ?_ | refine wr3 ?_ | refine wr4 ?_ | refine Reg.nil ?_ | refine wd1 ?_ | refine wd2 ?_ | refine wd3 ?_ | refine wd4 ?_ | refine AWP.seq ?_ | refine AWP.region ?_ | refine AWP.dk mixed ?_ | refine AWP.condT rfl ?_ | refine AWP.condF rfl ?_ | refine AWP.skip ?_ | refine AWP.ret ?_ | refine AWP.exit ?_ | refine AWP.block ?_ | refine wr5 ?_ | refine wr6 ?_ | refine wr7 ?_ | refine wr8 ?_ | refine wr9 ?_ | refine wr10 ?_ | refine wd5 ?_ | refine wd6 ?_ | refine wd7 ?_ | refine wd8 ?_ | refine wd10 ?_ )
    rw [eL]
    repeat (first | refine wr1 ?_ | refine wr2 ?_ | refine wr3 ?_ | refine wr4 ?_ | refine Reg.nil ?_ | refine wd1 ?_ | refine wd2 ?_ | refine wd3 ?_ | refine wd4 ?_ | refine AWP.seq ?_ | refine AWP.region ?_ | refine AWP.dk mixed ?_ | refine AWP.condT rfl ?_ | refine AWP.condF rfl ?_ | refine AWP.skip ?_ | refine AWP.ret ?_ | refine AWP.exit ?_ | refine AWP.block ?_ | refine wr5 ?_ | refine wr6 ?_ | refine wr7 ?_ | refine wr8 ?_ | refine wr9 ?_ | refine wr10 ?_ | refine wd5 ?_ | refine wd6 ?_ | refine wd7 ?_ | refine wd8 ?_ | refine wd10 ?_ )
    refine Reg.gs rfl (fun g2 => ?_) (fun g2 => ?_)
    · repeat (first | refine wr1 ?_ | refine wr2 ?_ | refine wr3 ?_ | refine wr4 ?_ | refine Reg.nil ?_ | refine wd1 ?_ | refine wd2 ?_ | refine wd3 ?_ | refine wd4 ?_ | refine AWP.seq ?_ | refine AWP.region ?_ | refine AWP.dk mixed ?_ | refine AWP.condT rfl ?_ | refine AWP.condF rfl ?_ | refine AWP.skip ?_ | refine AWP.ret ?_ | refine AWP.exit ?_ | refine AWP.block ?_ | refine wr5 ?_ | refine wr6 ?_ | refine wr7 ?_ | refine wr8 ?_ | refine wr9 ?_ | refine wr10 ?_ | refine wd5 ?_ | refine wd6 ?_ | refine wd7 ?_ | refine wd8 ?_ | refine wd10 ?_ )
      (refine EndP.mk (.inr rfl) rfl rfl ?_; all_goals (repeat' (first | exact ToAll.nil | exact famsTo.nil | exact famTo.nil | exact ToL.nil | exact ToR.nil | refine ToAll.cons ?_ ?_ | refine famsTo.cons ?_ ?_ | refine wt10 ?_ ?_ | exact To.undef _ | exact To.sc _ | exact To.hslL rfl rfl | exact To.ptrO rfl rfl rfl | exact To.mrefO rfl | exact To.nil rfl rfl rfl | exact wt1 | exact To.nilL | refine To.int ?_ | refine To.bool ?_ | refine To.hslL rfl ?_ | refine wt2 rfl ?_ ?_ ?_ | refine To.tupL ?_ | refine To.aggL ?_ | refine To.cptrL ?_ | refine wt3 ?_ | refine wt4 ?_ | refine To.cloL ?_ ?_ | exact wt5 | refine wt6 ?_ | refine ToB.one ?_ | exact wt7 | ((with_reducible apply ToL.consE); case e9 => rfl) | refine wt8 ?_ | refine ToL.cons ?_ ?_ | exact wt11 | refine wt9 ?_ ?_ | refine wt12 ?_ | (with_reducible rfl) | assumption)); all_goals (first | rfl | assumption | (simp; done) | (simp; omega) | skip))
    · repeat (first | refine wr1 ?_ | refine wr2 ?_ | refine wr3 ?_ | refine wr4 ?_ | refine Reg.nil ?_ | refine wd1 ?_ | refine wd2 ?_ | refine wd3 ?_ | refine wd4 ?_ | refine AWP.seq ?_ | refine AWP.region ?_ | refine AWP.dk mixed ?_ | refine AWP.condT rfl ?_ | refine AWP.condF rfl ?_ | refine AWP.skip ?_ | refine AWP.ret ?_ | refine AWP.exit ?_ | refine AWP.block ?_ | refine wr5 ?_ | refine wr6 ?_ | refine wr7 ?_ | refine wr8 ?_ | refine wr9 ?_ | refine wr10 ?_ | refine wd5 ?_ | refine wd6 ?_ | refine wd7 ?_ | refine wd8 ?_ | refine wd10 ?_ )
      rw [ec]
      refine AWP.condN (80 < l.length) rfl (by simp; omega) (fun h => ?_) (fun h => ?_)
      · repeat (first | refine wr1 ?_ | refine wr2 ?_ | refine wr3 ?_ | refine wr4 ?_ | refine Reg.nil ?_ | refine wd1 ?_ | refine wd2 ?_ | refine wd3 ?_ | refine wd4 ?_ | refine AWP.seq ?_ | refine AWP.region ?_ | refine AWP.dk mixed ?_ | refine AWP.condT rfl ?_ | refine AWP.condF rfl ?_ | refine AWP.skip ?_ | refine AWP.ret ?_ | refine AWP.exit ?_ | refine AWP.block ?_ | refine wr5 ?_ | refine wr6 ?_ | refine wr7 ?_ | refine wr8 ?_ | refine wr9 ?_ | refine wr10 ?_ | refine wd5 ?_ | refine wd6 ?_ | refine wd7 ?_ | refine wd8 ?_ | refine wd10 ?_ )
        (refine EndP.mk (.inr rfl) rfl rfl ?_; all_goals (repeat' (first | exact ToAll.nil | exact famsTo.nil | exact famTo.nil | exact ToL.nil | exact ToR.nil | refine ToAll.cons ?_ ?_ | refine famsTo.cons ?_ ?_ | refine wt10 ?_ ?_ | exact To.undef _ | exact To.sc _ | exact To.hslL rfl rfl | exact To.ptrO rfl rfl rfl | exact To.mrefO rfl | exact To.nil rfl rfl rfl | exact wt1 | exact To.nilL | refine To.int ?_ | refine To.bool ?_ | refine To.hslL rfl ?_ | refine wt2 rfl ?_ ?_ ?_ | refine To.tupL ?_ | refine To.aggL ?_ | refine To.cptrL ?_ | refine wt3 ?_ | refine wt4 ?_ | refine To.cloL ?_ ?_ | exact wt5 | refine wt6 ?_ | refine ToB.one ?_ | exact wt7 | ((with_reducible apply ToL.consE); case e9 => rfl) | refine wt8 ?_ | refine ToL.cons ?_ ?_ | exact wt11 | refine wt9 ?_ ?_ | refine wt12 ?_ | (with_reducible rfl) | assumption)); all_goals (first | rfl | assumption | (simp; done) | (simp; omega) | skip))
      have hfl : fl.length ≤ 70 := by have := fewB_le (n := fl.length) (m := 16) (by simpa using g1) (by omega); omega
      have hLl : L.length ≤ 70 := by have := fewB_le (n := L.length) (m := 16) (by simpa using g2) (by omega); omega
      repeat (first | refine wr1 ?_ | refine wr2 ?_ | refine wr3 ?_ | refine wr4 ?_ | refine Reg.nil ?_ | refine wd1 ?_ | refine wd2 ?_ | refine wd3 ?_ | refine wd4 ?_ | refine AWP.seq ?_ | refine AWP.region ?_ | refine AWP.dk mixed ?_ | refine AWP.condT rfl ?_ | refine AWP.condF rfl ?_ | refine AWP.skip ?_ | refine AWP.ret ?_ | refine AWP.exit ?_ | refine AWP.block ?_ | refine wr5 ?_ | refine wr6 ?_ | refine wr7 ?_ | refine wr8 ?_ | refine wr9 ?_ | refine wr10 ?_ | refine wd5 ?_ | refine wd6 ?_ | refine wd7 ?_ | refine wd8 ?_ | refine wd10 ?_ )
      refine AWP.loop (fun a : Nat => [(0, intsV fl), (1, knownV L), (2, crV l), (7, .sc (.int .i64 a))]) (fun _ => []) (fun a => a ≤ L.length ∧ ∀ ks ∈ L.take a, ks.length ≤ 20) (fun a => L.length - a) 0 ⟨Nat.zero_le _, fun ks h => by simp at h⟩ ?_ ?_
      · (apply Sub.to [] []; all_goals (repeat' (first | exact ToAll.nil | exact famsTo.nil | exact famTo.nil | exact ToL.nil | exact ToR.nil | refine ToAll.cons ?_ ?_ | refine famsTo.cons ?_ ?_ | refine wt10 ?_ ?_ | exact To.undef _ | exact To.sc _ | exact To.hslL rfl rfl | exact To.ptrO rfl rfl rfl | exact To.mrefO rfl | exact To.nil rfl rfl rfl | exact wt1 | exact To.nilL | refine To.int ?_ | refine To.bool ?_ | refine To.hslL rfl ?_ | refine wt2 rfl ?_ ?_ ?_ | refine To.tupL ?_ | refine To.aggL ?_ | refine To.cptrL ?_ | refine wt3 ?_ | refine wt4 ?_ | refine To.cloL ?_ ?_ | exact wt5 | refine wt6 ?_ | refine ToB.one ?_ | exact wt7 | ((with_reducible apply ToL.consE); case e9 => rfl) | refine wt8 ?_ | refine ToL.cons ?_ ?_ | exact wt11 | refine wt9 ?_ ?_ | refine wt12 ?_ | (with_reducible rfl) | assumption)); all_goals (first | rfl | assumption | (simp; done) | (simp; omega) | skip))
      rintro a ⟨ha, hks⟩
      have ha1 := wrap_succ (k := a) (by omega)
      repeat (first | refine wr1 ?_ | refine wr2 ?_ | refine wr3 ?_ | refine wr4 ?_ | refine Reg.nil ?_ | refine wd1 ?_ | refine wd2 ?_ | refine wd3 ?_ | refine wd4 ?_ | refine AWP.seq ?_ | refine AWP.region ?_ | refine AWP.dk mixed ?_ | refine AWP.condT rfl ?_ | refine AWP.condF rfl ?_ | refine AWP.skip ?_ | refine AWP.ret ?_ | refine AWP.exit ?_ | refine AWP.block ?_ | refine wr5 ?_ | refine wr6 ?_ | refine wr7 ?_ | refine wr8 ?_ | refine wr9 ?_ | refine wr10 ?_ | refine wd5 ?_ | refine wd6 ?_ | refine wd7 ?_ | refine wd8 ?_ | refine wd10 ?_ )
      refine AWP.condN (a < L.length) rfl (by simp [eL]) (fun h => ?_) (fun h => ?_)
      · have hra : rowIx (L.map fun ks => [intsV ks]) (a : Int) = some [intsV L[a]] := rowIx_map _ L a h
        have hlk := intsR_len L[a]
        have hts : L.take (a + 1) = L.take a ++ [L[a]] := List.take_succ_eq_append_getElem h
        generalize L[a] = ks at hra hlk hts
        repeat (first | refine wr1 ?_ | refine wr2 ?_ | refine wr3 ?_ | refine wr4 ?_ | refine Reg.nil ?_ | refine wd1 ?_ | refine wd2 ?_ | refine wd3 ?_ | refine wd4 ?_ | refine AWP.seq ?_ | refine AWP.region ?_ | refine AWP.dk mixed ?_ | refine AWP.condT rfl ?_ | refine AWP.condF rfl ?_ | refine AWP.skip ?_ | refine AWP.ret ?_ | refine AWP.exit ?_ | refine AWP.block ?_ | refine wr5 ?_ | refine wr6 ?_ | refine wr7 ?_ | refine wr8 ?_ | refine wr9 ?_ | refine wr10 ?_ | refine wd5 ?_ | refine wd6 ?_ | refine wd7 ?_ | refine wd8 ?_ | refine wd10 ?_ )
        refine AWP.condN (20 < ks.length) rfl (by simp [hlk]; omega) (fun h2 => ?_) (fun h2 => ?_)
        · repeat (first | refine wr1 ?_ | refine wr2 ?_ | refine wr3 ?_ | refine wr4 ?_ | refine Reg.nil ?_ | refine wd1 ?_ | refine wd2 ?_ | refine wd3 ?_ | refine wd4 ?_ | refine AWP.seq ?_ | refine AWP.region ?_ | refine AWP.dk mixed ?_ | refine AWP.condT rfl ?_ | refine AWP.condF rfl ?_ | refine AWP.skip ?_ | refine AWP.ret ?_ | refine AWP.exit ?_ | refine AWP.block ?_ | refine wr5 ?_ | refine wr6 ?_ | refine wr7 ?_ | refine wr8 ?_ | refine wr9 ?_ | refine wr10 ?_ | refine wd5 ?_ | refine wd6 ?_ | refine wd7 ?_ | refine wd8 ?_ | refine wd10 ?_ )
          (refine EndP.mk (.inr rfl) rfl rfl ?_; all_goals (repeat' (first | exact ToAll.nil | exact famsTo.nil | exact famTo.nil | exact ToL.nil | exact ToR.nil | refine ToAll.cons ?_ ?_ | refine famsTo.cons ?_ ?_ | refine wt10 ?_ ?_ | exact To.undef _ | exact To.sc _ | exact To.hslL rfl rfl | exact To.ptrO rfl rfl rfl | exact To.mrefO rfl | exact To.nil rfl rfl rfl | exact wt1 | exact To.nilL | refine To.int ?_ | refine To.bool ?_ | refine To.hslL rfl ?_ | refine wt2 rfl ?_ ?_ ?_ | refine To.tupL ?_ | refine To.aggL ?_ | refine To.cptrL ?_ | refine wt3 ?_ | refine wt4 ?_ | refine To.cloL ?_ ?_ | exact wt5 | refine wt6 ?_ | refine ToB.one ?_ | exact wt7 | ((with_reducible apply ToL.consE); case e9 => rfl) | refine wt8 ?_ | refine ToL.cons ?_ ?_ | exact wt11 | refine wt9 ?_ ?_ | refine wt12 ?_ | (with_reducible rfl) | assumption)); all_goals (first | rfl | assumption | (simp; done) | (simp; omega) | skip))
        · repeat (first | refine wr1 ?_ | refine wr2 ?_ | refine wr3 ?_ | refine wr4 ?_ | refine Reg.nil ?_ | refine wd1 ?_ | refine wd2 ?_ | refine wd3 ?_ | refine wd4 ?_ | refine AWP.seq ?_ | refine AWP.region ?_ | refine AWP.dk mixed ?_ | refine AWP.condT rfl ?_ | refine AWP.condF rfl ?_ | refine AWP.skip ?_ | refine AWP.ret ?_ | refine AWP.exit ?_ | refine AWP.block ?_ | refine wr5 ?_ | refine wr6 ?_ | refine wr7 ?_ | refine wr8 ?_ | refine wr9 ?_ | refine wr10 ?_ | refine wd5 ?_ | refine wd6 ?_ | refine wd7 ?_ | refine wd8 ?_ | refine wd10 ?_ )
          refine ⟨a + 1, ⟨by omega, fun q hq => ?_⟩, by omega, ?_⟩
          · rw [hts] at hq
            rcases List.mem_append.1 hq with hq | hq
            · exact hks q hq
            · rw [List.mem_singleton.1 hq]; omega
          · (apply Sub.to [] []; all_goals (repeat' (first | exact ToAll.nil | exact famsTo.nil | exact famTo.nil | exact ToL.nil | exact ToR.nil | refine ToAll.cons ?_ ?_ | refine famsTo.cons ?_ ?_ | refine wt10 ?_ ?_ | exact To.undef _ | exact To.sc _ | exact To.hslL rfl rfl | exact To.ptrO rfl rfl rfl | exact To.mrefO rfl | exact To.nil rfl rfl rfl | exact wt1 | exact To.nilL | refine To.int ?_ | refine To.bool ?_ | refine To.hslL rfl ?_ | refine wt2 rfl ?_ ?_ ?_ | refine To.tupL ?_ | refine To.aggL ?_ | refine To.cptrL ?_ | refine wt3 ?_ | refine wt4 ?_ | refine To.cloL ?_ ?_ | exact wt5 | refine wt6 ?_ | refine ToB.one ?_ | exact wt7 | ((with_reducible apply ToL.consE); case e9 => rfl) | refine wt8 ?_ | refine ToL.cons ?_ ?_ | exact wt11 | refine wt9 ?_ ?_ | refine wt12 ?_ | (with_reducible rfl) | assumption)); all_goals (first | rfl | assumption | (simp; done) | (simp; omega) | skip))
      · have hal : a = L.length := by omega
        rw [hal, List.take_of_length_le (Nat.le_refl _)] at hks
        have hks2 : ∀ ks ∈ L, ks.length ≤ 1000000 := fun ks hk => by have := hks ks hk; omega
        have hA : PureRun Try.prog 16 [intsV fl, knownV L, crV l] (agreeV (agreeR fl L l)) := PureRun.ofI (agree_ok fl L l (by omega) (by omega) hks2 (by omega))
        have hB := refagree_ok fl L l (by omega) (by omega) hks2 (by omega)
        have hC : PureRun Try.prog 14 [crV l] (crV l) := PureRun.ofI (crashes_ok l (by omega))
        obtain ⟨hpl, hpf⟩ := agreeR_len fl L l
        generalize agreeR fl L l = p at hA hB hpl hpf
        have ep : (p.1.map rpRow).length = p.1.length := by simp
        repeat (first | refine wr1 ?_ | refine wr2 ?_ | refine wr3 ?_ | refine wr4 ?_ | refine Reg.nil ?_ | refine wd1 ?_ | refine wd2 ?_ | refine wd3 ?_ | refine wd4 ?_ | refine AWP.seq ?_ | refine AWP.region ?_ | refine AWP.dk mixed ?_ | refine AWP.condT rfl ?_ | refine AWP.condF rfl ?_ | refine AWP.skip ?_ | refine AWP.ret ?_ | refine AWP.exit ?_ | refine AWP.block ?_ | refine wr5 ?_ | refine wr6 ?_ | refine wr7 ?_ | refine wr8 ?_ | refine wr9 ?_ | refine wr10 ?_ | refine wd5 ?_ | refine wd6 ?_ | refine wd7 ?_ | refine wd8 ?_ | refine wd10 ?_ )
        refine Reg.gs rfl (fun h => by simp at h) (fun _ => ?_)
        repeat (first | refine wr1 ?_ | refine wr2 ?_ | refine wr3 ?_ | refine wr4 ?_ | refine Reg.nil ?_ | refine wd1 ?_ | refine wd2 ?_ | refine wd3 ?_ | refine wd4 ?_ | refine AWP.seq ?_ | refine AWP.region ?_ | refine AWP.dk mixed ?_ | refine AWP.condT rfl ?_ | refine AWP.condF rfl ?_ | refine AWP.skip ?_ | refine AWP.ret ?_ | refine AWP.exit ?_ | refine AWP.block ?_ | refine wr5 ?_ | refine wr6 ?_ | refine wr7 ?_ | refine wr8 ?_ | refine wr9 ?_ | refine wr10 ?_ | refine wd5 ?_ | refine wd6 ?_ | refine wd7 ?_ | refine wd8 ?_ | refine wd10 ?_ )
        refine Reg.gs rfl (fun h => by simp at h) (fun _ => ?_)
        repeat (first | refine wr1 ?_ | refine wr2 ?_ | refine wr3 ?_ | refine wr4 ?_ | refine Reg.nil ?_ | refine wd1 ?_ | refine wd2 ?_ | refine wd3 ?_ | refine wd4 ?_ | refine AWP.seq ?_ | refine AWP.region ?_ | refine AWP.dk mixed ?_ | refine AWP.condT rfl ?_ | refine AWP.condF rfl ?_ | refine AWP.skip ?_ | refine AWP.ret ?_ | refine AWP.exit ?_ | refine AWP.block ?_ | refine wr5 ?_ | refine wr6 ?_ | refine wr7 ?_ | refine wr8 ?_ | refine wr9 ?_ | refine wr10 ?_ | refine wd5 ?_ | refine wd6 ?_ | refine wd7 ?_ | refine wd8 ?_ | refine wd10 ?_ )
        refine AWP.cond rfl (fun h => by simp at h) (fun _ => ?_)
        repeat (first | refine wr1 ?_ | refine wr2 ?_ | refine wr3 ?_ | refine wr4 ?_ | refine Reg.nil ?_ | refine wd1 ?_ | refine wd2 ?_ | refine wd3 ?_ | refine wd4 ?_ | refine AWP.seq ?_ | refine AWP.region ?_ | refine AWP.dk mixed ?_ | refine AWP.condT rfl ?_ | refine AWP.condF rfl ?_ | refine AWP.skip ?_ | refine AWP.ret ?_ | refine AWP.exit ?_ | refine AWP.block ?_ | refine wr5 ?_ | refine wr6 ?_ | refine wr7 ?_ | refine wr8 ?_ | refine wr9 ?_ | refine wr10 ?_ | refine wd5 ?_ | refine wd6 ?_ | refine wd7 ?_ | refine wd8 ?_ | refine wd10 ?_ )
        refine AWP.loop (fun k : Nat => [(8, rpsV p.1), (11, rpsV p.1), (14, .sc (.int .i64 k))]) (fun _ => []) (fun k => k ≤ p.1.length) (fun k => p.1.length - k) 0 (Nat.zero_le _) ?_ ?_
        · (apply Sub.to [] []; all_goals (repeat' (first | exact ToAll.nil | exact famsTo.nil | exact famTo.nil | exact ToL.nil | exact ToR.nil | refine ToAll.cons ?_ ?_ | refine famsTo.cons ?_ ?_ | refine wt10 ?_ ?_ | exact To.undef _ | exact To.sc _ | exact To.hslL rfl rfl | exact To.ptrO rfl rfl rfl | exact To.mrefO rfl | exact To.nil rfl rfl rfl | exact wt1 | exact To.nilL | refine To.int ?_ | refine To.bool ?_ | refine To.hslL rfl ?_ | refine wt2 rfl ?_ ?_ ?_ | refine To.tupL ?_ | refine To.aggL ?_ | refine To.cptrL ?_ | refine wt3 ?_ | refine wt4 ?_ | refine To.cloL ?_ ?_ | exact wt5 | refine wt6 ?_ | refine ToB.one ?_ | exact wt7 | ((with_reducible apply ToL.consE); case e9 => rfl) | refine wt8 ?_ | refine ToL.cons ?_ ?_ | exact wt11 | refine wt9 ?_ ?_ | refine wt12 ?_ | (with_reducible rfl) | assumption)); all_goals (first | rfl | assumption | (simp; done) | (simp; omega) | skip))
        intro k hk
        have hk1 := wrap_succ (k := k) (by omega)
        repeat (first | refine wr1 ?_ | refine wr2 ?_ | refine wr3 ?_ | refine wr4 ?_ | refine Reg.nil ?_ | refine wd1 ?_ | refine wd2 ?_ | refine wd3 ?_ | refine wd4 ?_ | refine AWP.seq ?_ | refine AWP.region ?_ | refine AWP.dk mixed ?_ | refine AWP.condT rfl ?_ | refine AWP.condF rfl ?_ | refine AWP.skip ?_ | refine AWP.ret ?_ | refine AWP.exit ?_ | refine AWP.block ?_ | refine wr5 ?_ | refine wr6 ?_ | refine wr7 ?_ | refine wr8 ?_ | refine wr9 ?_ | refine wr10 ?_ | refine wd5 ?_ | refine wd6 ?_ | refine wd7 ?_ | refine wd8 ?_ | refine wd10 ?_ )
        refine AWP.condN (k < p.1.length) rfl (by simp) (fun h => ?_) (fun h => ?_)
        · have hrk : rowIx (p.1.map rpRow) (k : Int) = some (rpRow p.1[k]) := rowIx_map _ p.1 k h
          have hs := sameP_ok p.1[k] (hpf _ (List.getElem_mem h))
          repeat (first | refine wr1 ?_ | refine wr2 ?_ | refine wr3 ?_ | refine wr4 ?_ | refine Reg.nil ?_ | refine wd1 ?_ | refine wd2 ?_ | refine wd3 ?_ | refine wd4 ?_ | refine AWP.seq ?_ | refine AWP.region ?_ | refine AWP.dk mixed ?_ | refine AWP.condT rfl ?_ | refine AWP.condF rfl ?_ | refine AWP.skip ?_ | refine AWP.ret ?_ | refine AWP.exit ?_ | refine AWP.block ?_ | refine wr5 ?_ | refine wr6 ?_ | refine wr7 ?_ | refine wr8 ?_ | refine wr9 ?_ | refine wr10 ?_ | refine wd5 ?_ | refine wd6 ?_ | refine wd7 ?_ | refine wd8 ?_ | refine wd10 ?_ )
          refine DK.nil ⟨by kernel_rfl, ?_⟩
          repeat (first | refine wr1 ?_ | refine wr2 ?_ | refine wr3 ?_ | refine wr4 ?_ | refine Reg.nil ?_ | refine wd1 ?_ | refine wd2 ?_ | refine wd3 ?_ | refine wd4 ?_ | refine AWP.seq ?_ | refine AWP.region ?_ | refine AWP.dk mixed ?_ | refine AWP.condT rfl ?_ | refine AWP.condF rfl ?_ | refine AWP.skip ?_ | refine AWP.ret ?_ | refine AWP.exit ?_ | refine AWP.block ?_ | refine wr5 ?_ | refine wr6 ?_ | refine wr7 ?_ | refine wr8 ?_ | refine wr9 ?_ | refine wr10 ?_ | refine wd5 ?_ | refine wd6 ?_ | refine wd7 ?_ | refine wd8 ?_ | refine wd10 ?_ )
          refine ⟨k + 1, by omega, by omega, ?_⟩
          (apply Sub.to [] []; all_goals (repeat' (first | exact ToAll.nil | exact famsTo.nil | exact famTo.nil | exact ToL.nil | exact ToR.nil | refine ToAll.cons ?_ ?_ | refine famsTo.cons ?_ ?_ | refine wt10 ?_ ?_ | exact To.undef _ | exact To.sc _ | exact To.hslL rfl rfl | exact To.ptrO rfl rfl rfl | exact To.mrefO rfl | exact To.nil rfl rfl rfl | exact wt1 | exact To.nilL | refine To.int ?_ | refine To.bool ?_ | refine To.hslL rfl ?_ | refine wt2 rfl ?_ ?_ ?_ | refine To.tupL ?_ | refine To.aggL ?_ | refine To.cptrL ?_ | refine wt3 ?_ | refine wt4 ?_ | refine To.cloL ?_ ?_ | exact wt5 | refine wt6 ?_ | refine ToB.one ?_ | exact wt7 | ((with_reducible apply ToL.consE); case e9 => rfl) | refine wt8 ?_ | refine ToL.cons ?_ ?_ | exact wt11 | refine wt9 ?_ ?_ | refine wt12 ?_ | (with_reducible rfl) | assumption)); all_goals (first | rfl | assumption | (simp; done) | (simp; omega) | skip))
        · repeat (first | refine wr1 ?_ | refine wr2 ?_ | refine wr3 ?_ | refine wr4 ?_ | refine Reg.nil ?_ | refine wd1 ?_ | refine wd2 ?_ | refine wd3 ?_ | refine wd4 ?_ | refine AWP.seq ?_ | refine AWP.region ?_ | refine AWP.dk mixed ?_ | refine AWP.condT rfl ?_ | refine AWP.condF rfl ?_ | refine AWP.skip ?_ | refine AWP.ret ?_ | refine AWP.exit ?_ | refine AWP.block ?_ | refine wr5 ?_ | refine wr6 ?_ | refine wr7 ?_ | refine wr8 ?_ | refine wr9 ?_ | refine wr10 ?_ | refine wd5 ?_ | refine wd6 ?_ | refine wd7 ?_ | refine wd8 ?_ | refine wd10 ?_ )
          (refine EndP.mk (.inr rfl) rfl rfl ?_; all_goals (repeat' (first | exact ToAll.nil | exact famsTo.nil | exact famTo.nil | exact ToL.nil | exact ToR.nil | refine ToAll.cons ?_ ?_ | refine famsTo.cons ?_ ?_ | refine wt10 ?_ ?_ | exact To.undef _ | exact To.sc _ | exact To.hslL rfl rfl | exact To.ptrO rfl rfl rfl | exact To.mrefO rfl | exact To.nil rfl rfl rfl | exact wt1 | exact To.nilL | refine To.int ?_ | refine To.bool ?_ | refine To.hslL rfl ?_ | refine wt2 rfl ?_ ?_ ?_ | refine To.tupL ?_ | refine To.aggL ?_ | refine To.cptrL ?_ | refine wt3 ?_ | refine wt4 ?_ | refine To.cloL ?_ ?_ | exact wt5 | refine wt6 ?_ | refine ToB.one ?_ | exact wt7 | ((with_reducible apply ToL.consE); case e9 => rfl) | refine wt8 ?_ | refine ToL.cons ?_ ?_ | exact wt11 | refine wt9 ?_ ?_ | refine wt12 ?_ | (with_reducible rfl) | assumption)); all_goals (first | rfl | assumption | (simp; done) | (simp; omega) | skip))

theorem open_list {a : AV} (h : Fit (.slice [.int .i64]) a) : ∃ l : List Int, a = intsV l := by
  obtain ⟨l, e, _⟩ := open_ints' h
  exact ⟨l, e⟩

theorem open_known {a : AV} (h : Fit (.slice [.slice [.int .i64]]) a) : ∃ L : List (List Int), a = knownV L := by
  obtain ⟨l, e, _⟩ := open_rows h (fun ks => [intsV ks]) (fun _ => True) fun r hl hf => by
    match r, hl with
    | [x], _ =>
      obtain ⟨ks, rfl⟩ := open_list (hf 0 _ x rfl rfl)
      exact ⟨ks, rfl, trivial⟩
  exact ⟨l, e⟩

set_option maxRecDepth 100000 in
theorem faultAgreements_lifted (os : Os) (started : os.Started) (H : Type) (enc : TypeId × Value → H) :
    ReturnsInHanded {} Try.checked os 4 .any (Rows.faultAgreementsSpec.pre6 enc Try.prog Try.f4 Rows.faultAgreementsRow.domain false) (Rows.faultAgreementsSpec.post enc Try.prog Try.f4 false true false false) := by
  refine returnsInHanded_of_change (C := Try.checked) Try_own started (by kernel_rfl) Try.func4
    (ChangeSpec.witness6 (enc := enc) (C := Try.checked) false ⟨#[], #[.slice none 0 0, .slice none 0 0, .slice none 0 0], []⟩ 8 (by kernel_rfl) (by kernel_rfl) (by kernel_rfl) (by kernel_rfl)) ?_
  intro W base args ds gs before hval hW _ _
  refine law_calls (P := Try.prog) (d := 8) (row := [.slice [.int .i64], .slice [.slice [.int .i64]], .slice [.int .i64, .int .i64, .int .i64]]) (tb := 4) (by kernel_rfl) rfl Try_laid Try_maps Try_slices (by decide) rfl tb_bool (fun ds hds => ?_) (fun avs hl hf => ?_) hval hW
  · match ds, hds with
    | [_, _, _], _ => exact ⟨rfl, rfl, rfl⟩
  · obtain ⟨a, b, c, rfl, ha, hb, hc⟩ := avs3 hl hf
    obtain ⟨fl, rfl⟩ := open_list ha
    obtain ⟨L, rfl⟩ := open_known hb
    obtain ⟨l, rfl, _⟩ := open_cr hc
    exact CallOK.ofPure (faultAgreements_ok fl L l) [] rfl

theorem faultAgreements_holds : Rows.FaultAgreementsSaid :=
  OpenClaim.holds_of_wide 4 Try.f4 rfl rfl rfl rfl rfl rfl rfl ⟨rfl, rfl, rfl, rfl, rfl⟩ rfl rfl rfl rfl rfl (by kernel_rfl) Try.func4 (by kernel_rfl)
    (of_decide_eq_true (by kernel_rfl)) (by unfold Func.isWrapper; first | (rw [if_pos (by decide +kernel)]; kernel_rfl) | (rw [if_neg (by decide +kernel)]; exact ⟨rfl, rfl⟩))
    (fun os started H enc _ => faultAgreements_lifted os started H enc)

end Go.Proofs.Ytbpmbofinoinmaa
