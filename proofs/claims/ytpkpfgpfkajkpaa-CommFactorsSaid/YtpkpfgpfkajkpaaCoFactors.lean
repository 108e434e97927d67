/- The law CommFactorsSaid answers true for every input; no further condition. -/
import Derived.Test.YtpkpfgpfkajkpaaGCoF2
import Derived.Test.YtpkpfgpfkajkpaaGCoL4
import Derived.Test.YtpkpfgpfkajkpaaGCoLaw
namespace Go.Proofs.Ytpkpfgpfkajkpaa
open Go.Av Go.Proofs
set_option maxRecDepth 20000

/-! The law CommFactors. -/
def facA (n dims : Int) : Int × List Int := if n < 1 ∨ 64 < n ∨ dims < 1 ∨ 4 < dims then (3, []) else (0, (facE dims.toNat n.toNat n.toNat).getD [])
theorem facA_out {n dims : Int} (h : n < 1 ∨ 64 < n ∨ dims < 1 ∨ 4 < dims) : facA n dims = (3, []) := if_pos h
theorem facA_in {n k : Nat} (h1 : 1 ≤ n) (h2 : n ≤ 64) (h3 : 1 ≤ k) (h4 : k ≤ 4) : facA n k = (0, (facE k n n).getD []) := by
  unfold facA
  rw [if_neg (by omega)]
  rfl
theorem facA_len (n dims : Int) : (facA n dims).2.length ≤ 64 := by
  unfold facA
  split
  · exact Nat.zero_le _
  · dsimp only
    cases h : facE dims.toNat n.toNat n.toNat with
    | none => exact Nat.zero_le _
    | some l =>
      have := facE_len _ _ _ _ h
      simp only [Option.getD_some]
      omega
theorem fcell_sc (l : List Int) : ∀ r ∈ intsR l, ∀ c ∈ r, ∃ v, c = .sc v := fun r hr c hc => by
  obtain ⟨n, _, rfl⟩ := List.mem_map.1 hr
  exact ⟨_, List.mem_singleton.1 hc⟩

set_option maxHeartbeats 4000000 in
theorem factor_ok (n dims : Int) : CallOK Try.prog 17 [.sc (.int .i64 n), .sc (.int .i64 dims)] [] fun res H' => res = .tup [.hsl 0 0 0 (facA n dims).2.length, .sc (.int .i64 (facA n dims).1)] ∧ H' = [[.cells 1 (intsR (facA n dims).2)]] := by
  refine CallOK.of cF17 ?_ (Nat.le_of_ble_eq_true rfl)
  by_cases h1 : n < 1
  · rw [facA_out (.inl h1)]
    refine walkX ?_
    rw [decide_eq_true h1]
    refine walkX ?_
    (refine ⟨.inr rfl, _, .tup [.hsl 0 0 0 0, .sc (.int .i64 (3))], [[.cells 1 []]], rfl, SubV.to [1] [[((0),0)]] ?_ ?_ rfl rfl rfl, rfl, rfl⟩; all_goals (all_goals (repeat' (first | exact ToAll.nil | exact famsTo.nil | exact famTo.nil | exact ToL.nil | exact ToR.nil | refine ToAll.cons ?_ ?_ | refine famsTo.cons ?_ ?_ | refine wt10 ?_ ?_ | exact To.undef _ | exact To.sc _ | exact To.hslL rfl rfl | exact To.ptrO rfl rfl rfl | exact To.mrefO rfl | exact To.nil rfl rfl rfl | exact wt1 | exact To.nilL | refine To.int ?_ | refine To.bool ?_ | refine To.hslL rfl ?_ | refine wt2 rfl ?_ ?_ ?_ | refine To.tupL ?_ | refine To.aggL ?_ | refine To.cptrL ?_ | refine wt3 ?_ | refine wt4 ?_ | refine To.cloL ?_ ?_ | exact wt5 | refine wt6 ?_ | refine ToB.one ?_ | exact wt7 | ((with_reducible apply ToL.consE); case e9 => rfl) | refine wt8 ?_ | refine ToL.cons ?_ ?_ | exact wt11 | refine wt9 ?_ ?_ | refine wt12 ?_ | (with_reducible rfl) | assumption)); all_goals (first | rfl | assumption | (simp; done) | (simp; omega) | (rw [wrap_small (by omega) (by omega)]; done) | (rw [wrap_small (by omega) (by omega)]; omega) | (refine congrArg Nat.cast ?_; assumption) | skip)))
  by_cases h2 : 64 < n
  · rw [facA_out (.inr (.inl h2))]
    refine walkX ?_
    rw [decide_eq_false h1]
    refine walkX ?_
    rw [decide_eq_true h2]
    refine walkX ?_
    (refine ⟨.inr rfl, _, .tup [.hsl 0 0 0 0, .sc (.int .i64 (3))], [[.cells 1 []]], rfl, SubV.to [1] [[((0),0)]] ?_ ?_ rfl rfl rfl, rfl, rfl⟩; all_goals (all_goals (repeat' (first | exact ToAll.nil | exact famsTo.nil | exact famTo.nil | exact ToL.nil | exact ToR.nil | refine ToAll.cons ?_ ?_ | refine famsTo.cons ?_ ?_ | refine wt10 ?_ ?_ | exact To.undef _ | exact To.sc _ | exact To.hslL rfl rfl | exact To.ptrO rfl rfl rfl | exact To.mrefO rfl | exact To.nil rfl rfl rfl | exact wt1 | exact To.nilL | refine To.int ?_ | refine To.bool ?_ | refine To.hslL rfl ?_ | refine wt2 rfl ?_ ?_ ?_ | refine To.tupL ?_ | refine To.aggL ?_ | refine To.cptrL ?_ | refine wt3 ?_ | refine wt4 ?_ | refine To.cloL ?_ ?_ | exact wt5 | refine wt6 ?_ | refine ToB.one ?_ | exact wt7 | ((with_reducible apply ToL.consE); case e9 => rfl) | refine wt8 ?_ | refine ToL.cons ?_ ?_ | exact wt11 | refine wt9 ?_ ?_ | refine wt12 ?_ | (with_reducible rfl) | assumption)); all_goals (first | rfl | assumption | (simp; done) | (simp; omega) | (rw [wrap_small (by omega) (by omega)]; done) | (rw [wrap_small (by omega) (by omega)]; omega) | (refine congrArg Nat.cast ?_; assumption) | skip)))
  by_cases h3 : dims < 1
  · rw [facA_out (.inr (.inr (.inl h3)))]
    refine walkX ?_
    rw [decide_eq_false h1]
    refine walkX ?_
    rw [decide_eq_false h2]
    refine walkX ?_
    rw [decide_eq_true h3]
    refine walkX ?_
    (refine ⟨.inr rfl, _, .tup [.hsl 0 0 0 0, .sc (.int .i64 (3))], [[.cells 1 []]], rfl, SubV.to [1] [[((0),0)]] ?_ ?_ rfl rfl rfl, rfl, rfl⟩; all_goals (all_goals (repeat' (first | exact ToAll.nil | exact famsTo.nil | exact famTo.nil | exact ToL.nil | exact ToR.nil | refine ToAll.cons ?_ ?_ | refine famsTo.cons ?_ ?_ | refine wt10 ?_ ?_ | exact To.undef _ | exact To.sc _ | exact To.hslL rfl rfl | exact To.ptrO rfl rfl rfl | exact To.mrefO rfl | exact To.nil rfl rfl rfl | exact wt1 | exact To.nilL | refine To.int ?_ | refine To.bool ?_ | refine To.hslL rfl ?_ | refine wt2 rfl ?_ ?_ ?_ | refine To.tupL ?_ | refine To.aggL ?_ | refine To.cptrL ?_ | refine wt3 ?_ | refine wt4 ?_ | refine To.cloL ?_ ?_ | exact wt5 | refine wt6 ?_ | refine ToB.one ?_ | exact wt7 | ((with_reducible apply ToL.consE); case e9 => rfl) | refine wt8 ?_ | refine ToL.cons ?_ ?_ | exact wt11 | refine wt9 ?_ ?_ | refine wt12 ?_ | (with_reducible rfl) | assumption)); all_goals (first | rfl | assumption | (simp; done) | (simp; omega) | (rw [wrap_small (by omega) (by omega)]; done) | (rw [wrap_small (by omega) (by omega)]; omega) | (refine congrArg Nat.cast ?_; assumption) | skip)))
  by_cases h4 : 4 < dims
  · rw [facA_out (.inr (.inr (.inr h4)))]
    refine walkX ?_
    rw [decide_eq_false h1]
    refine walkX ?_
    rw [decide_eq_false h2]
    refine walkX ?_
    rw [decide_eq_false h3]
    refine walkX ?_
    rw [decide_eq_true h4]
    refine walkX ?_
    (refine ⟨.inr rfl, _, .tup [.hsl 0 0 0 0, .sc (.int .i64 (3))], [[.cells 1 []]], rfl, SubV.to [1] [[((0),0)]] ?_ ?_ rfl rfl rfl, rfl, rfl⟩; all_goals (all_goals (repeat' (first | exact ToAll.nil | exact famsTo.nil | exact famTo.nil | exact ToL.nil | exact ToR.nil | refine ToAll.cons ?_ ?_ | refine famsTo.cons ?_ ?_ | refine wt10 ?_ ?_ | exact To.undef _ | exact To.sc _ | exact To.hslL rfl rfl | exact To.ptrO rfl rfl rfl | exact To.mrefO rfl | exact To.nil rfl rfl rfl | exact wt1 | exact To.nilL | refine To.int ?_ | refine To.bool ?_ | refine To.hslL rfl ?_ | refine wt2 rfl ?_ ?_ ?_ | refine To.tupL ?_ | refine To.aggL ?_ | refine To.cptrL ?_ | refine wt3 ?_ | refine wt4 ?_ | refine To.cloL ?_ ?_ | exact wt5 | refine wt6 ?_ | refine ToB.one ?_ | exact wt7 | ((with_reducible apply ToL.consE); case e9 => rfl) | refine wt8 ?_ | refine ToL.cons ?_ ?_ | exact wt11 | refine wt9 ?_ ?_ | refine wt12 ?_ | (with_reducible rfl) | assumption)); all_goals (first | rfl | assumption | (simp; done) | (simp; omega) | (rw [wrap_small (by omega) (by omega)]; done) | (rw [wrap_small (by omega) (by omega)]; omega) | (refine congrArg Nat.cast ?_; assumption) | skip)))
  refine walkX ?_
  rw [decide_eq_false h1]
  refine walkX ?_
  rw [decide_eq_false h2]
  refine walkX ?_
  rw [decide_eq_false h3]
  refine walkX ?_
  rw [decide_eq_false h4]
  refine walkX ?_
  obtain ⟨m, rfl⟩ : ∃ m : Nat, n = m := ⟨n.toNat, by omega⟩
  obtain ⟨k, rfl⟩ : ∃ k : Nat, dims = ((k + 1 : Nat) : Int) := ⟨(dims - 1).toNat, by omega⟩
  rw [facA_in (by omega) (by omega) (by omega) (by omega)]
  refine Reg.cv (Nat.zero_le _) rfl rfl ((fac_ok k (by omega) m m (by omega) (by omega) (by omega)).mono ?_)
  rintro res H' ⟨rfl, rfl⟩
  cases hf : facE (k + 1) m m with
  | none =>
    unfold facV facH selfB
    dsimp only
    refine walkX ?_
    (refine ⟨.inr rfl, _, .tup [.hsl 0 0 0 0, .sc (.int .i64 (0))], [[.cells 1 []]], rfl, SubV.to [1] [[((1),0)]] ?_ ?_ rfl rfl rfl, rfl, rfl⟩; all_goals (all_goals (repeat' (first | exact ToAll.nil | exact famsTo.nil | exact famTo.nil | exact ToL.nil | exact ToR.nil | refine ToAll.cons ?_ ?_ | refine famsTo.cons ?_ ?_ | refine wt10 ?_ ?_ | exact To.undef _ | exact To.sc _ | exact To.hslL rfl rfl | exact To.ptrO rfl rfl rfl | exact To.mrefO rfl | exact To.nil rfl rfl rfl | exact wt1 | exact To.nilL | refine To.int ?_ | refine To.bool ?_ | refine To.hslL rfl ?_ | refine wt2 rfl ?_ ?_ ?_ | refine To.tupL ?_ | refine To.aggL ?_ | refine To.cptrL ?_ | refine wt3 ?_ | refine wt4 ?_ | refine To.cloL ?_ ?_ | exact wt5 | refine wt6 ?_ | refine ToB.one ?_ | exact wt7 | ((with_reducible apply ToL.consE); case e9 => rfl) | refine wt8 ?_ | refine ToL.cons ?_ ?_ | exact wt11 | refine wt9 ?_ ?_ | refine wt12 ?_ | (with_reducible rfl) | assumption)); all_goals (first | rfl | assumption | (simp; done) | (simp; omega) | (rw [wrap_small (by omega) (by omega)]; done) | (rw [wrap_small (by omega) (by omega)]; omega) | (refine congrArg Nat.cast ?_; assumption) | skip)))
  | some l =>
    have e1 := intsR_len l
    unfold facV facH selfB
    dsimp only
    refine walkX ?_
    (refine endH [[(1,0)]] (by first | exact .inr rfl | exact .inl rfl) rfl ⟨rfl, rfl⟩ ?_ ?_ rfl rfl rfl; all_goals (repeat' (first | exact ToAll.nil | exact famsTo.nil | exact famTo.nil | exact ToL.nil | exact ToR.nil | refine ToAll.cons ?_ ?_ | refine famsTo.cons ?_ ?_ | refine wt10 ?_ ?_ | exact To.undef _ | exact To.sc _ | exact To.hslL rfl rfl | exact To.ptrO rfl rfl rfl | exact To.mrefO rfl | exact To.nil rfl rfl rfl | exact wt1 | exact To.nilL | refine To.int ?_ | refine To.bool ?_ | refine To.hslL rfl ?_ | refine wt2 rfl ?_ ?_ ?_ | refine To.tupL ?_ | refine To.aggL ?_ | refine To.cptrL ?_ | refine wt3 ?_ | refine wt4 ?_ | refine To.cloL ?_ ?_ | exact wt5 | refine wt6 ?_ | refine ToB.one ?_ | exact wt7 | ((with_reducible apply ToL.consE); case e9 => rfl) | refine wt8 ?_ | refine ToL.cons ?_ ?_ | exact wt11 | refine wt9 ?_ ?_ | refine wt12 ?_ | (with_reducible rfl) | assumption)); all_goals (first | rfl | assumption | (simp; done) | (simp; omega) | (rw [wrap_small (by omega) (by omega)]; done) | (rw [wrap_small (by omega) (by omega)]; omega) | (refine congrArg Nat.cast ?_; assumption) | skip))

set_option maxHeartbeats 4000000 in
theorem factor_doc (n dims : Int) : CallOK Try.prog 18 [.sc (.int .i64 n), .sc (.int .i64 dims)] [] fun res H' => res = .tup [.hsl 0 0 0 (facA n dims).2.length, .sc (.int .i64 (facA n dims).1)] ∧ H' = [[.cells 1 (intsR (facA n dims).2)]] := by
  refine CallOK.of cF18 ?_ (Nat.le_of_ble_eq_true rfl)
  by_cases h1 : n < 1
  · rw [facA_out (.inl h1)]
    refine walkX ?_
    rw [decide_eq_true h1]
    refine walkX ?_
    (refine ⟨.inr rfl, _, .tup [.hsl 0 0 0 0, .sc (.int .i64 (3))], [[.cells 1 []]], rfl, SubV.to [1] [[((0),0)]] ?_ ?_ rfl rfl rfl, rfl, rfl⟩; all_goals (all_goals (repeat' (first | exact ToAll.nil | exact famsTo.nil | exact famTo.nil | exact ToL.nil | exact ToR.nil | refine ToAll.cons ?_ ?_ | refine famsTo.cons ?_ ?_ | refine wt10 ?_ ?_ | exact To.undef _ | exact To.sc _ | exact To.hslL rfl rfl | exact To.ptrO rfl rfl rfl | exact To.mrefO rfl | exact To.nil rfl rfl rfl | exact wt1 | exact To.nilL | refine To.int ?_ | refine To.bool ?_ | refine To.hslL rfl ?_ | refine wt2 rfl ?_ ?_ ?_ | refine To.tupL ?_ | refine To.aggL ?_ | refine To.cptrL ?_ | refine wt3 ?_ | refine wt4 ?_ | refine To.cloL ?_ ?_ | exact wt5 | refine wt6 ?_ | refine ToB.one ?_ | exact wt7 | ((with_reducible apply ToL.consE); case e9 => rfl) | refine wt8 ?_ | refine ToL.cons ?_ ?_ | exact wt11 | refine wt9 ?_ ?_ | refine wt12 ?_ | (with_reducible rfl) | assumption)); all_goals (first | rfl | assumption | (simp; done) | (simp; omega) | (rw [wrap_small (by omega) (by omega)]; done) | (rw [wrap_small (by omega) (by omega)]; omega) | (refine congrArg Nat.cast ?_; assumption) | skip)))
  by_cases h2 : 64 < n
  · rw [facA_out (.inr (.inl h2))]
    refine walkX ?_
    rw [decide_eq_false h1]
    refine walkX ?_
    rw [decide_eq_true h2]
    refine walkX ?_
    (refine ⟨.inr rfl, _, .tup [.hsl 0 0 0 0, .sc (.int .i64 (3))], [[.cells 1 []]], rfl, SubV.to [1] [[((0),0)]] ?_ ?_ rfl rfl rfl, rfl, rfl⟩; all_goals (all_goals (repeat' (first | exact ToAll.nil | exact famsTo.nil | exact famTo.nil | exact ToL.nil | exact ToR.nil | refine ToAll.cons ?_ ?_ | refine famsTo.cons ?_ ?_ | refine wt10 ?_ ?_ | exact To.undef _ | exact To.sc _ | exact To.hslL rfl rfl | exact To.ptrO rfl rfl rfl | exact To.mrefO rfl | exact To.nil rfl rfl rfl | exact wt1 | exact To.nilL | refine To.int ?_ | refine To.bool ?_ | refine To.hslL rfl ?_ | refine wt2 rfl ?_ ?_ ?_ | refine To.tupL ?_ | refine To.aggL ?_ | refine To.cptrL ?_ | refine wt3 ?_ | refine wt4 ?_ | refine To.cloL ?_ ?_ | exact wt5 | refine wt6 ?_ | refine ToB.one ?_ | exact wt7 | ((with_reducible apply ToL.consE); case e9 => rfl) | refine wt8 ?_ | refine ToL.cons ?_ ?_ | exact wt11 | refine wt9 ?_ ?_ | refine wt12 ?_ | (with_reducible rfl) | assumption)); all_goals (first | rfl | assumption | (simp; done) | (simp; omega) | (rw [wrap_small (by omega) (by omega)]; done) | (rw [wrap_small (by omega) (by omega)]; omega) | (refine congrArg Nat.cast ?_; assumption) | skip)))
  by_cases h3 : dims < 1
  · rw [facA_out (.inr (.inr (.inl h3)))]
    refine walkX ?_
    rw [decide_eq_false h1]
    refine walkX ?_
    rw [decide_eq_false h2]
    refine walkX ?_
    rw [decide_eq_true h3]
    refine walkX ?_
    (refine ⟨.inr rfl, _, .tup [.hsl 0 0 0 0, .sc (.int .i64 (3))], [[.cells 1 []]], rfl, SubV.to [1] [[((0),0)]] ?_ ?_ rfl rfl rfl, rfl, rfl⟩; all_goals (all_goals (repeat' (first | exact ToAll.nil | exact famsTo.nil | exact famTo.nil | exact ToL.nil | exact ToR.nil | refine ToAll.cons ?_ ?_ | refine famsTo.cons ?_ ?_ | refine wt10 ?_ ?_ | exact To.undef _ | exact To.sc _ | exact To.hslL rfl rfl | exact To.ptrO rfl rfl rfl | exact To.mrefO rfl | exact To.nil rfl rfl rfl | exact wt1 | exact To.nilL | refine To.int ?_ | refine To.bool ?_ | refine To.hslL rfl ?_ | refine wt2 rfl ?_ ?_ ?_ | refine To.tupL ?_ | refine To.aggL ?_ | refine To.cptrL ?_ | refine wt3 ?_ | refine wt4 ?_ | refine To.cloL ?_ ?_ | exact wt5 | refine wt6 ?_ | refine ToB.one ?_ | exact wt7 | ((with_reducible apply ToL.consE); case e9 => rfl) | refine wt8 ?_ | refine ToL.cons ?_ ?_ | exact wt11 | refine wt9 ?_ ?_ | refine wt12 ?_ | (with_reducible rfl) | assumption)); all_goals (first | rfl | assumption | (simp; done) | (simp; omega) | (rw [wrap_small (by omega) (by omega)]; done) | (rw [wrap_small (by omega) (by omega)]; omega) | (refine congrArg Nat.cast ?_; assumption) | skip)))
  by_cases h4 : 4 < dims
  · rw [facA_out (.inr (.inr (.inr h4)))]
    refine walkX ?_
    rw [decide_eq_false h1]
    refine walkX ?_
    rw [decide_eq_false h2]
    refine walkX ?_
    rw [decide_eq_false h3]
    refine walkX ?_
    rw [decide_eq_true h4]
    refine walkX ?_
    (refine ⟨.inr rfl, _, .tup [.hsl 0 0 0 0, .sc (.int .i64 (3))], [[.cells 1 []]], rfl, SubV.to [1] [[((0),0)]] ?_ ?_ rfl rfl rfl, rfl, rfl⟩; all_goals (all_goals (repeat' (first | exact ToAll.nil | exact famsTo.nil | exact famTo.nil | exact ToL.nil | exact ToR.nil | refine ToAll.cons ?_ ?_ | refine famsTo.cons ?_ ?_ | refine wt10 ?_ ?_ | exact To.undef _ | exact To.sc _ | exact To.hslL rfl rfl | exact To.ptrO rfl rfl rfl | exact To.mrefO rfl | exact To.nil rfl rfl rfl | exact wt1 | exact To.nilL | refine To.int ?_ | refine To.bool ?_ | refine To.hslL rfl ?_ | refine wt2 rfl ?_ ?_ ?_ | refine To.tupL ?_ | refine To.aggL ?_ | refine To.cptrL ?_ | refine wt3 ?_ | refine wt4 ?_ | refine To.cloL ?_ ?_ | exact wt5 | refine wt6 ?_ | refine ToB.one ?_ | exact wt7 | ((with_reducible apply ToL.consE); case e9 => rfl) | refine wt8 ?_ | refine ToL.cons ?_ ?_ | exact wt11 | refine wt9 ?_ ?_ | refine wt12 ?_ | (with_reducible rfl) | assumption)); all_goals (first | rfl | assumption | (simp; done) | (simp; omega) | (rw [wrap_small (by omega) (by omega)]; done) | (rw [wrap_small (by omega) (by omega)]; omega) | (refine congrArg Nat.cast ?_; assumption) | skip)))
  refine walkX ?_
  rw [decide_eq_false h1]
  refine walkX ?_
  rw [decide_eq_false h2]
  refine walkX ?_
  rw [decide_eq_false h3]
  refine walkX ?_
  rw [decide_eq_false h4]
  refine walkX ?_
  obtain ⟨m, rfl⟩ : ∃ m : Nat, n = m := ⟨n.toNat, by omega⟩
  obtain ⟨k, rfl⟩ : ∃ k : Nat, dims = (k : Int) := ⟨dims.toNat, by omega⟩
  rw [facA_in (by omega) (by omega) (by omega) (by omega)]
  refine Reg.c (Nat.zero_le _) rfl ((factored_ok k (by omega) m m (by omega) (by omega) (by omega)).mono ?_)
  rintro res H' ⟨rfl, rfl⟩
  cases hf : facE k m m with
  | none =>
    unfold docV docH
    dsimp only
    refine walkX ?_
    (refine endH [[(0,0)]] (by first | exact .inr rfl | exact .inl rfl) rfl ⟨rfl, rfl⟩ ?_ ?_ rfl rfl rfl; all_goals (repeat' (first | exact ToAll.nil | exact famsTo.nil | exact famTo.nil | exact ToL.nil | exact ToR.nil | refine ToAll.cons ?_ ?_ | refine famsTo.cons ?_ ?_ | refine wt10 ?_ ?_ | exact To.undef _ | exact To.sc _ | exact To.hslL rfl rfl | exact To.ptrO rfl rfl rfl | exact To.mrefO rfl | exact To.nil rfl rfl rfl | exact wt1 | exact To.nilL | refine To.int ?_ | refine To.bool ?_ | refine To.hslL rfl ?_ | refine wt2 rfl ?_ ?_ ?_ | refine To.tupL ?_ | refine To.aggL ?_ | refine To.cptrL ?_ | refine wt3 ?_ | refine wt4 ?_ | refine To.cloL ?_ ?_ | exact wt5 | refine wt6 ?_ | refine ToB.one ?_ | exact wt7 | ((with_reducible apply ToL.consE); case e9 => rfl) | refine wt8 ?_ | refine ToL.cons ?_ ?_ | exact wt11 | refine wt9 ?_ ?_ | refine wt12 ?_ | (with_reducible rfl) | assumption)); all_goals (first | rfl | assumption | (simp; done) | (simp; omega) | (rw [wrap_small (by omega) (by omega)]; done) | (rw [wrap_small (by omega) (by omega)]; omega) | (refine congrArg Nat.cast ?_; assumption) | skip))
  | some l =>
    have e1 := intsR_len l
    unfold docV docH
    dsimp only
    refine walkX ?_
    (refine endH [[(0,0)]] (by first | exact .inr rfl | exact .inl rfl) rfl ⟨rfl, rfl⟩ ?_ ?_ rfl rfl rfl; all_goals (repeat' (first | exact ToAll.nil | exact famsTo.nil | exact famTo.nil | exact ToL.nil | exact ToR.nil | refine ToAll.cons ?_ ?_ | refine famsTo.cons ?_ ?_ | refine wt10 ?_ ?_ | exact To.undef _ | exact To.sc _ | exact To.hslL rfl rfl | exact To.ptrO rfl rfl rfl | exact To.mrefO rfl | exact To.nil rfl rfl rfl | exact wt1 | exact To.nilL | refine To.int ?_ | refine To.bool ?_ | refine To.hslL rfl ?_ | refine wt2 rfl ?_ ?_ ?_ | refine To.tupL ?_ | refine To.aggL ?_ | refine To.cptrL ?_ | refine wt3 ?_ | refine wt4 ?_ | refine To.cloL ?_ ?_ | exact wt5 | refine wt6 ?_ | refine ToB.one ?_ | exact wt7 | ((with_reducible apply ToL.consE); case e9 => rfl) | refine wt8 ?_ | refine ToL.cons ?_ ?_ | exact wt11 | refine wt9 ?_ ?_ | refine wt12 ?_ | (with_reducible rfl) | assumption)); all_goals (first | rfl | assumption | (simp; done) | (simp; omega) | (rw [wrap_small (by omega) (by omega)]; done) | (rw [wrap_small (by omega) (by omega)]; omega) | (refine congrArg Nat.cast ?_; assumption) | skip))

set_option maxHeartbeats 4000000 in
theorem commFactors_ok (n dims : Int) : CallOK Try.prog 4 [.sc (.int .i64 n), .sc (.int .i64 dims)] [] fun res _ => res = .sc (.bool true) := by
  refine CallOK.mono (R := fun res H' => res = .sc (.bool true) ∧ H' = []) ?_ fun _ _ h => h.1
  refine CallOK.of cF4 ?_ (Nat.le_of_ble_eq_true rfl)
  have hw := works_ok
  refine walkX ?_
  refine Reg.c (Nat.zero_le _) rfl ((factor_ok n dims).mono ?_)
  rintro res H' ⟨rfl, rfl⟩
  refine walkX ?_
  have h2 := CallOK.viewT (H := [[.cells 1 (intsR (facA n dims).2)]]) (args := [.sc (.int .i64 n), .sc (.int .i64 dims)]) (fcell_sc _) (factor_doc n dims) (ToL.cons (To.sc _) (ToL.cons (To.sc _) ToL.nil))
  refine Reg.c (Nat.zero_le _) rfl (h2.mono ?_)
  rintro res H' ⟨rfl, rfl⟩
  have hlen := facA_len n dims
  have hv := is_ok (facA n dims).2 (facA n dims).1 (by omega)
  have e1 := intsR_len (facA n dims).2
  generalize facA n dims = p at *
  obtain ⟨e, l⟩ := p
  dsimp only at *
  refine walkX ?_
  (refine Reg.pv (by first | exact Nat.zero_le _ | exact Nat.le_refl _ | (simp; done) | (simp; omega)) rfl hv (by first | exact .sc _ | (exact .agg _ (fun c hc => by simp at hc; rcases hc with h | h <;> subst h <;> exact .sc _)) | assumption) ?vw9 ?_; case vw9 => (all_goals (repeat' (first | exact ToAll.nil | exact famsTo.nil | exact famTo.nil | exact ToL.nil | exact ToR.nil | refine ToAll.cons ?_ ?_ | refine famsTo.cons ?_ ?_ | refine wt10 ?_ ?_ | exact To.undef _ | exact To.sc _ | exact To.hslL rfl rfl | exact To.ptrO rfl rfl rfl | exact To.mrefO rfl | exact To.nil rfl rfl rfl | exact wt1 | exact To.nilL | refine To.int ?_ | refine To.bool ?_ | refine To.hslL rfl ?_ | refine wt2 rfl ?_ ?_ ?_ | refine To.tupL ?_ | refine To.aggL ?_ | refine To.cptrL ?_ | refine wt3 ?_ | refine wt4 ?_ | refine To.cloL ?_ ?_ | exact wt5 | refine wt6 ?_ | refine ToB.one ?_ | exact wt7 | ((with_reducible apply ToL.consE); case e9 => rfl) | refine wt8 ?_ | refine ToL.cons ?_ ?_ | exact wt11 | refine wt9 ?_ ?_ | refine wt12 ?_ | (with_reducible rfl) | assumption)); all_goals (first | rfl | assumption | (simp; done) | (simp; omega))))
  refine walkX ?_
  (refine endH [] (by first | exact .inr rfl | exact .inl rfl) rfl ⟨rfl, rfl⟩ ?_ ?_ rfl rfl rfl; all_goals (repeat' (first | exact ToAll.nil | exact famsTo.nil | exact famTo.nil | exact ToL.nil | exact ToR.nil | refine ToAll.cons ?_ ?_ | refine famsTo.cons ?_ ?_ | refine wt10 ?_ ?_ | exact To.undef _ | exact To.sc _ | exact To.hslL rfl rfl | exact To.ptrO rfl rfl rfl | exact To.mrefO rfl | exact To.nil rfl rfl rfl | exact wt1 | exact To.nilL | refine To.int ?_ | refine To.bool ?_ | refine To.hslL rfl ?_ | refine wt2 rfl ?_ ?_ ?_ | refine To.tupL ?_ | refine To.aggL ?_ | refine To.cptrL ?_ | refine wt3 ?_ | refine wt4 ?_ | refine To.cloL ?_ ?_ | exact wt5 | refine wt6 ?_ | refine ToB.one ?_ | exact wt7 | ((with_reducible apply ToL.consE); case e9 => rfl) | refine wt8 ?_ | refine ToL.cons ?_ ?_ | exact wt11 | refine wt9 ?_ ?_ | refine wt12 ?_ | (with_reducible rfl) | assumption)); all_goals (first | rfl | assumption | (simp; done) | (simp; omega) | (rw [wrap_small (by omega) (by omega)]; done) | (rw [wrap_small (by omega) (by omega)]; omega) | (refine congrArg Nat.cast ?_; assumption) | skip))

set_option maxRecDepth 100000 in
theorem commFactors_lifted (os : Os) (started : os.Started) (H : Type) (enc : TypeId × Value → H) :
    ReturnsInHanded {} Try.checked os 4 .any (Rows.commFactorsSpec.pre6 enc Try.prog Try.f4 Rows.commFactorsRow.domain false) (Rows.commFactorsSpec.post enc Try.prog Try.f4 false true false false) := by
  refine returnsInHanded_of_change (C := Try.checked) Try_own started (by kernel_rfl) Try.func4
    (ChangeSpec.witness6 (enc := enc) (C := Try.checked) false ⟨#[], #[.int .i64 0, .int .i64 0], []⟩ 8 (by kernel_rfl) (by kernel_rfl) (by kernel_rfl) (by kernel_rfl)) ?_
  intro W base args ds gs before hval hW _ _
  refine law_calls (P := Try.prog) (d := 8) (row := [.int .i64, .int .i64]) (tb := 4) (by kernel_rfl) rfl Try_laid Try_maps Try_slices (by decide) rfl tb_bool (fun ds hds => ?_) (fun avs hl hf => ?_) hval hW
  · match ds, hds with
    | [_, _], _ => exact ⟨rfl, rfl, rfl⟩
  · obtain ⟨a, b, rfl, h1, h2⟩ := avs2 hl hf
    clear hl
    obtain ⟨n, rfl, _⟩ := open_i64 h1
    obtain ⟨m, rfl, _⟩ := open_i64 h2
    exact commFactors_ok n m

theorem commFactors_holds : Rows.CommFactorsSaid :=
  OpenClaim.holds_of_wide 4 Try.f4 rfl rfl rfl rfl rfl rfl rfl ⟨rfl, rfl, rfl, rfl, rfl⟩ rfl rfl rfl rfl rfl (by kernel_rfl) Try.func4 (by kernel_rfl)
    (of_decide_eq_true (by kernel_rfl)) (by unfold Func.isWrapper; first | (rw [if_pos (by decide +kernel)]; kernel_rfl) | (rw [if_neg (by decide +kernel)]; exact ⟨rfl, rfl⟩))
    (fun os started H enc _ => commFactors_lifted os started H enc)

end Go.Proofs.Ytpkpfgpfkajkpaa
