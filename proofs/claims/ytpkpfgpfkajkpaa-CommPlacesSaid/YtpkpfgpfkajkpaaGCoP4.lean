import Derived.Test.YtpkpfgpfkajkpaaGCoV2
import Derived.Test.YtpkpfgpfkajkpaaGCoL4
import Derived.Test.YtpkpfgpfkajkpaaGCoLaw
import Derived.Test.YtpkpfgpfkajkpaaGCoP3
import Derived.Test.YtpkpfgpfkajkpaaGCoL6
namespace Go.Proofs.Ytpkpfgpfkajkpaa
open Go.Av Go.Proofs
set_option maxRecDepth 20000
def facA (n dims : Int) : Int × List Int := if n < 1 ∨ 64 < n ∨ dims < 1 ∨ 4 < dims then (3, []) else (0, (facE dims.toNat n.toNat n.toNat).getD [])
theorem facA_out {n dims : Int} (h : n < 1 ∨ 64 < n ∨ dims < 1 ∨ 4 < dims) : facA n dims = (3, []) := if_pos h
theorem facA_in {n k : Nat} (h1 : 1 ≤ n) (h2 : n ≤ 64) (h3 : 1 ≤ k) (h4 : k ≤ 4) : facA n k = (0, (facE k n n).getD []) := by
  unfold facA
  rw [if_neg (by omega)]
  rfl
set_option maxHeartbeats 4000000 in
theorem factor_ok (n dims : Int) : CallOK Try.prog 17 [.sc (.int .i64 n), .sc (.int .i64 dims)] [] fun res H' => res = .tup [.hsl 0 0 0 (facA n dims).2.length, .sc (.int .i64 (facA n dims).1)] ∧ H' = [[.cells 1 (intsR (facA n dims).2)]] := by
  refine CallOK.of cF17 ?_ (Nat.le_of_ble_eq_true rfl)
  by_cases h1 : n < 1
  · rw [facA_out (.inl h1)]
    refine walkX ?_
    rw [decide_eq_true h1]
    refine walkX ?_
    (refine ⟨.inr rfl, _, .tup [.hsl 0 0 0 0, .sc (.int .i64 (3))], [[.cells 1 []]], rfl, SubV.to [1] [[((0),0)]] ?_ ?_ rfl rfl rfl, rfl, rfl⟩; all_goals (all_goals (repeat' (first | exact ToAll.nil | exact famsTo.nil | exact famTo.nil | exact ToL.nil | exact ToR.nil | refine ToAll.cons ?_ ?_ | refine famsTo.cons ?_ ?_ | refine wt10 ?_ ?_ | exact To.undef _ | exact To.sc _ | exact To.hslL rfl rfl | exact To.ptrO rfl rfl rfl | exact To.mrefO rfl | exact To.nil rfl rfl rfl | exact wt1 | exact To.nilL | refine To.int ?_ | refine To.bool ?_ | refine To.hslL rfl ?_ | refine wt2 rfl ?_ ?_ ?_ | refine To.tupL ?_ | refine To.aggL ?_ | refine To.cptrL ?_ | refine wt3 ?_ | refine wt4 ?_ | refine To.cloL ?_ ?_ | exact wt5 | refine wt6 ?_ | refine ToB.one ?_ | exact wt7 | ((with_reducible apply ToL.consE); case e9 => rfl) | refine wt8 ?_ | refine ToL.cons ?_ ?_ | exact wt11 | refine wt9 ?_ ?_ | refine wt12 ?_ | (with_reducible rfl) | assumption)); all_goals (first | rfl | assumption | (simp; done) | (simp; omega) | (rw [wrap_small (by omega) (by omega)]; done) | (rw [wrap_small (by omega) (by omega)]; omega) | (refine congrArg Nat.cast ?_; assumption) | skip)))
  by_cases h2 : 64 < n
  · rw [facA_out (.inr (.inl h2))]
    refine walkX ?_
    rw [decide_eq_false h1]
    refine walkX ?_
    rw [decide_eq_true h2]
    refine walkX ?_
    (refine ⟨.inr rfl, _, .tup [.hsl 0 0 0 0, .sc (.int .i64 (3))], [[.cells 1 []]], rfl, SubV.to [1] [[((0),0)]] ?_ ?_ rfl rfl rfl, rfl, rfl⟩; all_goals (all_goals (repeat' (first | exact ToAll.nil | exact famsTo.nil | exact famTo.nil | exact ToL.nil | exact ToR.nil | refine ToAll.cons ?_ ?_ | refine famsTo.cons ?_ ?_ | refine wt10 ?_ ?_ | exact To.undef _ | exact To.sc _ | exact To.hslL rfl rfl | exact To.ptrO rfl rfl rfl | exact To.mrefO rfl | exact To.nil rfl rfl rfl | exact wt1 | exact To.nilL | refine To.int ?_ | refine To.bool ?_ | refine To.hslL rfl ?_ | refine wt2 rfl ?_ ?_ ?_ | refine To.tupL ?_ | refine To.aggL ?_ | refine To.cptrL ?_ | refine wt3 ?_ | refine wt4 ?_ | refine To.cloL ?_ ?_ | exact wt5 | refine wt6 ?_ | refine ToB.one ?_ | exact wt7 | ((with_reducible apply ToL.consE); case e9 => rfl) | refine wt8 ?_ | refine ToL.cons ?_ ?_ | exact wt11 | refine wt9 ?_ ?_ | refine wt12 ?_ | (with_reducible rfl) | assumption)); all_goals (first | rfl | assumption | (simp; done) | (simp; omega) | (rw [wrap_small (by omega) (by omega)]; done) | (rw [wrap_small (by omega) (by omega)]; omega) | (refine congrArg Nat.cast ?_; assumption) | skip)))
  by_cases h3 : dims < 1
  · rw [facA_out (.inr (.inr (.inl h3)))]
    refine walkX ?_
    rw [decide_eq_false h1]
    refine walkX ?_
    rw [decide_eq_false h2]
    refine walkX ?_
    rw [decide_eq_true h3]
    refine walkX ?_
    (refine ⟨.inr rfl, _, .tup [.hsl 0 0 0 0, .sc (.int .i64 (3))], [[.cells 1 []]], rfl, SubV.to [1] [[((0),0)]] ?_ ?_ rfl rfl rfl, rfl, rfl⟩; all_goals (all_goals (repeat' (first | exact ToAll.nil | exact famsTo.nil | exact famTo.nil | exact ToL.nil | exact ToR.nil | refine ToAll.cons ?_ ?_ | refine famsTo.cons ?_ ?_ | refine wt10 ?_ ?_ | exact To.undef _ | exact To.sc _ | exact To.hslL rfl rfl | exact To.ptrO rfl rfl rfl | exact To.mrefO rfl | exact To.nil rfl rfl rfl | exact wt1 | exact To.nilL | refine To.int ?_ | refine To.bool ?_ | refine To.hslL rfl ?_ | refine wt2 rfl ?_ ?_ ?_ | refine To.tupL ?_ | refine To.aggL ?_ | refine To.cptrL ?_ | refine wt3 ?_ | refine wt4 ?_ | refine To.cloL ?_ ?_ | exact wt5 | refine wt6 ?_ | refine ToB.one ?_ | exact wt7 | ((with_reducible apply ToL.consE); case e9 => rfl) | refine wt8 ?_ | refine ToL.cons ?_ ?_ | exact wt11 | refine wt9 ?_ ?_ | refine wt12 ?_ | (with_reducible rfl) | assumption)); all_goals (first | rfl | assumption | (simp; done) | (simp; omega) | (rw [wrap_small (by omega) (by omega)]; done) | (rw [wrap_small (by omega) (by omega)]; omega) | (refine congrArg Nat.cast ?_; assumption) | skip)))
  by_cases h4 : 4 < dims
  · rw [facA_out (.inr (.inr (.inr h4)))]
    refine walkX ?_
    rw [decide_eq_false h1]
    refine walkX ?_
    rw [decide_eq_false h2]
    refine walkX ?_
    rw [decide_eq_false h3]
    refine walkX ?_
    rw [decide_eq_true h4]
    refine walkX ?_
    (refine ⟨.inr rfl, _, .tup [.hsl 0 0 0 0, .sc (.int .i64 (3))], [[.cells 1 []]], rfl, SubV.to [1] [[((0),0)]] ?_ ?_ rfl rfl rfl, rfl, rfl⟩; all_goals (all_goals (repeat' (first | exact ToAll.nil | exact famsTo.nil | exact famTo.nil | exact ToL.nil | exact ToR.nil | refine ToAll.cons ?_ ?_ | refine famsTo.cons ?_ ?_ | refine wt10 ?_ ?_ | exact To.undef _ | exact To.sc _ | exact To.hslL rfl rfl | exact To.ptrO rfl rfl rfl | exact To.mrefO rfl | exact To.nil rfl rfl rfl | exact wt1 | exact To.nilL | refine To.int ?_ | refine To.bool ?_ | refine To.hslL rfl ?_ | refine wt2 rfl ?_ ?_ ?_ | refine To.tupL ?_ | refine To.aggL ?_ | refine To.cptrL ?_ | refine wt3 ?_ | refine wt4 ?_ | refine To.cloL ?_ ?_ | exact wt5 | refine wt6 ?_ | refine ToB.one ?_ | exact wt7 | ((with_reducible apply ToL.consE); case e9 => rfl) | refine wt8 ?_ | refine ToL.cons ?_ ?_ | exact wt11 | refine wt9 ?_ ?_ | refine wt12 ?_ | (with_reducible rfl) | assumption)); all_goals (first | rfl | assumption | (simp; done) | (simp; omega) | (rw [wrap_small (by omega) (by omega)]; done) | (rw [wrap_small (by omega) (by omega)]; omega) | (refine congrArg Nat.cast ?_; assumption) | skip)))
  refine walkX ?_
  rw [decide_eq_false h1]
  refine walkX ?_
  rw [decide_eq_false h2]
  refine walkX ?_
  rw [decide_eq_false h3]
  refine walkX ?_
  rw [decide_eq_false h4]
  refine walkX ?_
  obtain ⟨m, rfl⟩ : ∃ m : Nat, n = m := ⟨n.toNat, by omega⟩
  obtain ⟨k, rfl⟩ : ∃ k : Nat, dims = ((k + 1 : Nat) : Int) := ⟨(dims - 1).toNat, by omega⟩
  rw [facA_in (by omega) (by omega) (by omega) (by omega)]
  refine Reg.cv (Nat.zero_le _) rfl rfl ((fac_ok k (by omega) m m (by omega) (by omega) (by omega)).mono ?_)
  rintro res H' ⟨rfl, rfl⟩
  cases hf : facE (k + 1) m m with
  | none =>
    unfold facV facH selfB
    dsimp only
    refine walkX ?_
    (refine ⟨.inr rfl, _, .tup [.hsl 0 0 0 0, .sc (.int .i64 (0))], [[.cells 1 []]], rfl, SubV.to [1] [[((1),0)]] ?_ ?_ rfl rfl rfl, rfl, rfl⟩; all_goals (all_goals (repeat' (first | exact ToAll.nil | exact famsTo.nil | exact famTo.nil | exact ToL.nil | exact ToR.nil | refine ToAll.cons ?_ ?_ | refine famsTo.cons ?_ ?_ | refine wt10 ?_ ?_ | exact To.undef _ | exact To.sc _ | exact To.hslL rfl rfl | exact To.ptrO rfl rfl rfl | exact To.mrefO rfl | exact To.nil rfl rfl rfl | exact wt1 | exact To.nilL | refine To.int ?_ | refine To.bool ?_ | refine To.hslL rfl ?_ | refine wt2 rfl ?_ ?_ ?_ | refine To.tupL ?_ | refine To.aggL ?_ | refine To.cptrL ?_ | refine wt3 ?_ | refine wt4 ?_ | refine To.cloL ?_ ?_ | exact wt5 | refine wt6 ?_ | refine ToB.one ?_ | exact wt7 | ((with_reducible apply ToL.consE); case e9 => rfl) | refine wt8 ?_ | refine ToL.cons ?_ ?_ | exact wt11 | refine wt9 ?_ ?_ | refine wt12 ?_ | (with_reducible rfl) | assumption)); all_goals (first | rfl | assumption | (simp; done) | (simp; omega) | (rw [wrap_small (by omega) (by omega)]; done) | (rw [wrap_small (by omega) (by omega)]; omega) | (refine congrArg Nat.cast ?_; assumption) | skip)))
  | some l =>
    have e1 := intsR_len l
    unfold facV facH selfB
    dsimp only
    refine walkX ?_
    exact endW [[(1,0)]] (⟨rfl, rfl⟩)
end Go.Proofs.Ytpkpfgpfkajkpaa
namespace Go.Proofs.Ytpkpfgpfkajkpaa
open Go.Av Go.Proofs
set_option maxRecDepth 20000
theorem fac_call (n d : Nat) (hn : n < 64) (hd : d < 4) : ∃ t : List Nat, t.length = d + 1 ∧ prodN t = n + 1 ∧ (∀ a ∈ t, 1 ≤ a) ∧ descN (n + 1) t ∧
    CallOK Try.prog 17 [.sc (.int .i64 ((1 + n : Nat) : Int)), .sc (.int .i64 ((1 + d : Nat) : Int))] [] fun res H' => res = .tup [.hsl 0 0 0 t.length, .sc (.int .i64 0)] ∧ H' = [[.cells 1 (natsR t)]] := by
  obtain ⟨t, h1, h2, h3, h4, h5⟩ := fac_grid d (n + 1) (by omega)
  have h := factor_ok ((1 + n : Nat) : Int) ((1 + d : Nat) : Int)
  rw [facA_in (by omega) (by omega) (by omega) (by omega), Nat.add_comm 1 n, Nat.add_comm 1 d, h1] at h
  dsimp only at h
  rw [natI_len, ← natsR_I] at h
  exact ⟨t, h2, h3, h4, h5, by rw [Nat.add_comm 1 n, Nat.add_comm 1 d]; exact h⟩
theorem nb_bshr {k' : IntKind} {a b : Nat} (ha : a < 256) : NBin .shr .u8 k' a b (.int .u8 ((a / 2 ^ b : Nat) : Int)) := .mk fun t => by
  show Sem.pure? (Op.shift .shr .u8 (a : Int) k' (b : Int)) = _
  unfold Op.shift
  rw [if_neg (by omega)]
  show some (Value.int .u8 ((a : Int).fdiv (2 ^ min ((b : Int).toNat) 8))) = _
  rw [Int.toNat_natCast, show (2 : Int) ^ min b 8 = ((2 ^ min b 8 : Nat) : Int) by rw [Int.natCast_pow]; rfl, Int.fdiv_eq_ediv_of_nonneg _ (Int.natCast_nonneg _), ← Int.natCast_ediv]
  congr 3
  rcases Nat.le_total b 8 with h | h
  · rw [Nat.min_eq_left h]
  · rw [Nat.min_eq_right h, Nat.div_eq_of_lt ha, Nat.div_eq_of_lt]
    exact Nat.lt_of_lt_of_le (show a < 2 ^ 8 by omega) (Nat.pow_le_pow_right (n := 2) (by decide) h)
theorem nb_bbit {a : Nat} (ha : a < 256) : NBin .and .u8 .u8 a 1 (.int .u8 ((a % 2 : Nat) : Int)) := .mk fun t => by
  show some (Value.int .u8 (IntKind.u8.wrap ((BitVec.ofInt 8 (a : Int) &&& BitVec.ofInt 8 ((1 : Nat) : Int)).toNat : Int))) = _
  have e1 : (BitVec.ofInt 8 (a : Int)).toNat = a := by rw [BitVec.toNat_ofInt]; omega
  have e2 : (BitVec.ofInt 8 ((1 : Nat) : Int)).toNat = 1 := by decide
  rw [BitVec.toNat_and, e1, e2, Nat.and_one_is_mod, wrapB, Nat.mod_eq_of_lt (by omega)]
def ringB (v k : Nat) : List Bool := (List.range k).map fun i => decide (v / 2 ^ i % 2 = 1)
theorem ringB_len (v k : Nat) : (ringB v k).length = k := by simp [ringB]
theorem ringB_succ (v k : Nat) : ringB v (k + 1) = ringB v k ++ [decide (v / 2 ^ k % 2 = 1)] := by simp [ringB, List.range_succ]
theorem prod_take {t : List Nat} {k : Nat} (h : k < t.length) : prodN (t.take (k + 1)) = prodN (t.take k) * t[k] := by
  rw [List.take_succ_eq_append_getElem h]
  have key : ∀ (l : List Nat) (a : Nat), prodN (l ++ [a]) = prodN l * a := by
    intro l
    induction l with
    | nil => intro a; show a * 1 = 1 * a; omega
    | cons b l ih => intro a; show b * prodN (l ++ [a]) = b * prodN l * a; rw [ih, Nat.mul_assoc]
  exact key _ _
theorem prod_take_le {t : List Nat} (ht : ∀ a ∈ t, 1 ≤ a) : ∀ k, prodN (t.take k) ≤ prodN t := by
  have key : ∀ (l m : List Nat), (∀ a ∈ m, 1 ≤ a) → prodN l ≤ prodN (l ++ m) := by
    intro l
    induction l with
    | nil => intro m hm; exact prod_pos hm
    | cons b l ih => intro m hm; exact Nat.mul_le_mul_left _ (ih m hm)
  intro k
  have := key (t.take k) (t.drop k) fun a ha => ht a (List.mem_of_mem_drop ha)
  rwa [List.take_append_drop] at this
set_option maxHeartbeats 16000000 in
theorem commPlaces_ok (n d v : Nat) (b : Int) (hn : n ≤ 255) (hd : d ≤ 255) (hv : v ≤ 255) (hb : -9223372036854775808 ≤ b ∧ b ≤ 9223372036854775807) :
    CallOK Try.prog 6 [.sc (.int .u8 (n : Int)), .sc (.int .u8 (d : Int)), .sc (.int .u8 (v : Int)), .sc (.int .i64 b)] [] fun res _ => res = .sc (.bool true) := by
  refine CallOK.mono (R := fun res H' => res = .sc (.bool true) ∧ H' = []) ?_ fun _ _ h => h.1
  refine CallOK.of cF6 ?_ (Nat.le_of_ble_eq_true rfl)
  have hw := works_ok
  obtain ⟨t, t1, t2, t3, t4, hF⟩ := fac_call (n % 64) (d % 4) (by omega) (by omega)
  have hD : 1 + d % 4 = t.length := by omega
  have hS : 1 + n % 64 = prodN t := by omega
  have hn64 : prodN t ≤ 64 := by omega
  have e0 := natsR_len t
  refine walkX ?_
  refine Reg.c (Nat.zero_le _) rfl (hF.mono ?_)
  rintro res H' ⟨rfl, rfl⟩
  refine walkX ?_
  rw [hD, hS, decide_eq_true (rfl : t.length = t.length)]
  refine walkX ?_
  refine AWP.loop (fun k : Nat => [(2, .sc (.int .u8 (v : Int))), (3, .sc (.int .i64 b)), (9, .sc (.int .i64 (prodN t : Int))), (10, .sc (.int .i64 (t.length : Int))), (11, .list 1 (natsR t)), (13, .sc (.int .i64 (prodN (t.take k) : Int))), (14, .ptr 0 0 0 0), (52, .list 1 (natsR t)), (53, .sc (.int .i64 (t.length : Int))), (54, .sc (.int .i64 (k : Int)))])
    (fun k => [[.cells 2 [[.list 1 (natsR t), .hsl 1 0 0 k]]], [.cells 1 (boolsR (ringB v k))]]) (fun k => k ≤ t.length) (fun k => t.length - k) 0 (Nat.zero_le _) ?_ ?_
  · exact Sub.wx [1] [[(1,0)],[(2,0)]]
  · rintro k hk
    refine walkX0 ?_
    refine AWP.condD rfl (fun h => ?_) (fun h => ?_)
    · have hr := natsR_ix t k h
      have hp := prod_take h
      have hple := prod_take_le t3 (k + 1)
      have hple0 := prod_take_le t3 k
      have ha := t3 _ (List.getElem_mem h)
      have hdesc : 0 < k → ∃ y : Nat, rowIx (natsR t) ((k - 1 : Nat) : Int) = some [.sc (.int .i64 (y : Int))] ∧ t[k] ≤ y := fun e => by
        obtain ⟨q, rfl⟩ : ∃ q, k = q + 1 := ⟨k - 1, by omega⟩
        exact ⟨t[q], natsR_ix t q (by omega), desc_at t4 h⟩
      have hrs := ringB_succ v k
      have l1 : (boolsR (ringB v k)).length = k := by rw [boolsR_len, ringB_len]
      have e6 : ∀ (o : List Bool) (x : Bool), boolsR (o ++ [x]) = boolsR o ++ [[.sc (.bool x)]] := fun o x => by simp [boolsR]
      generalize ringB v k = o at *
      generalize t[k] = a at *
      rw [hp] at hple
      refine walkX0 ?_
      refine AWP.dk mixed ?_
      (first | refine wr13 ?_ | refine wd13 ?_ | refine wr14 ?_ | refine wv1 ?_ | refine wv2 ?_ | refine wv3 ?_ | refine wv4 ?_ | refine wv5 ?_ | refine wv6 ?_ | refine wv7 ?_ | refine wv8 ?_ | refine wv9 ?_ | refine wv10 ?_ | refine wr1 ?_ | refine wr2 ?_ | refine wr3 ?_ | refine wr4 ?_ | refine Reg.nil ?_ | refine wd1 ?_ | refine wd2 ?_ | refine wd3 ?_ | refine wd4 ?_ | refine wr5 ?_ | refine wr6 ?_ | refine wr7 ?_ | refine wr8 ?_ | refine wr9 ?_ | refine wr10 ?_ | refine wd5 ?_ | refine wd6 ?_ | refine wd7 ?_ | refine wd8 ?_ | refine wd9 ?_ | refine wd10 ?_ | refine wr11 ?_ | refine wr12 ?_ | refine wd11 ?_ | refine wd12 ?_ )
      (first | refine wr13 ?_ | refine wd13 ?_ | refine wr14 ?_ | refine wv1 ?_ | refine wv2 ?_ | refine wv3 ?_ | refine wv4 ?_ | refine wv5 ?_ | refine wv6 ?_ | refine wv7 ?_ | refine wv8 ?_ | refine wv9 ?_ | refine wv10 ?_ | refine wr1 ?_ | refine wr2 ?_ | refine wr3 ?_ | refine wr4 ?_ | refine Reg.nil ?_ | refine wd1 ?_ | refine wd2 ?_ | refine wd3 ?_ | refine wd4 ?_ | refine wr5 ?_ | refine wr6 ?_ | refine wr7 ?_ | refine wr8 ?_ | refine wr9 ?_ | refine wr10 ?_ | refine wd5 ?_ | refine wd6 ?_ | refine wd7 ?_ | refine wd8 ?_ | refine wd9 ?_ | refine wd10 ?_ | refine wr11 ?_ | refine wr12 ?_ | refine wd11 ?_ | refine wd12 ?_ )
      (first | refine wr13 ?_ | refine wd13 ?_ | refine wr14 ?_ | refine wv1 ?_ | refine wv2 ?_ | refine wv3 ?_ | refine wv4 ?_ | refine wv5 ?_ | refine wv6 ?_ | refine wv7 ?_ | refine wv8 ?_ | refine wv9 ?_ | refine wv10 ?_ | refine wr1 ?_ | refine wr2 ?_ | refine wr3 ?_ | refine wr4 ?_ | refine Reg.nil ?_ | refine wd1 ?_ | refine wd2 ?_ | refine wd3 ?_ | refine wd4 ?_ | refine wr5 ?_ | refine wr6 ?_ | refine wr7 ?_ | refine wr8 ?_ | refine wr9 ?_ | refine wr10 ?_ | refine wd5 ?_ | refine wd6 ?_ | refine wd7 ?_ | refine wd8 ?_ | refine wd9 ?_ | refine wd10 ?_ | refine wr11 ?_ | refine wr12 ?_ | refine wd11 ?_ | refine wd12 ?_ )
      (first | refine wr13 ?_ | refine wd13 ?_ | refine wr14 ?_ | refine wv1 ?_ | refine wv2 ?_ | refine wv3 ?_ | refine wv4 ?_ | refine wv5 ?_ | refine wv6 ?_ | refine wv7 ?_ | refine wv8 ?_ | refine wv9 ?_ | refine wv10 ?_ | refine wr1 ?_ | refine wr2 ?_ | refine wr3 ?_ | refine wr4 ?_ | refine Reg.nil ?_ | refine wd1 ?_ | refine wd2 ?_ | refine wd3 ?_ | refine wd4 ?_ | refine wr5 ?_ | refine wr6 ?_ | refine wr7 ?_ | refine wr8 ?_ | refine wr9 ?_ | refine wr10 ?_ | refine wd5 ?_ | refine wd6 ?_ | refine wd7 ?_ | refine wd8 ?_ | refine wd9 ?_ | refine wd10 ?_ | refine wr11 ?_ | refine wr12 ?_ | refine wd11 ?_ | refine wd12 ?_ )
      have hv2 : v / 2 ^ k < 256 := Nat.lt_of_le_of_lt (Nat.div_le_self _ _) (by omega)
      refine DK.o rfl (dstep_nb rfl rfl (nb_bshr (by omega))) ?_
      refine DK.o rfl (dstep_nb rfl rfl (nb_bbit hv2)) ?_
      refine walkX ?_
      refine DK.nil ⟨by kernel_rfl, ?_⟩
      refine walkX0 ?_
      rw [decide_eq_false (show ¬ a < 1 by omega)]
      refine walkX0 ?_
      by_cases hk0 : 0 < k
      · obtain ⟨y, hy, hay⟩ := hdesc hk0
        rw [decide_eq_true hk0]
        refine walkX ?_
        rw [decide_eq_false (show ¬ y < a by omega)]
        refine walkX ?_
        refine ⟨k + 1, by omega, by omega, ?_⟩
        rw [hrs, hp, e6]
        exact Sub.wx [] [[(0,0)],[(2,8)]]
      · rw [decide_eq_false hk0]
        refine walkX ?_
        refine ⟨k + 1, by omega, by omega, ?_⟩
        rw [hrs, hp, e6]
        exact Sub.wx [] [[(0,0)],[(2,8)]]
    have hk : k = t.length := by omega
    subst hk
    rw [List.take_length]
    have hgl := ringB_len v t.length
    have hgr : GoodG t (ringB v t.length) := ⟨t3, hn64, hgl, by omega, by omega⟩
    have l1 : (boolsR (ringB v t.length)).length = t.length := by rw [boolsR_len, hgl]
    generalize ringB v t.length = W at *
    refine walkX ?_
    rw [decide_eq_true (rfl : prodN t = prodN t)]
    refine walkX ?_
    have hpos := prod_pos t3
    have hpr : ∃ m, prodN t = m := ⟨_, rfl⟩
    have hco := fun r hr => (hgr.coordsA (r := r) hr)
    have hra := fun r hr => (hgr.rankA (r := r) hr)
    have hne := fun r hr => (hgr.nearA (r := r) hr)
    have hsh := fun r d hr hd => (hgr.shift_ok (r := r) (d := d) (b := 1) hr hd (by omega))
    have hle := fun r d hr hd => (leads_ok hgr (r := r) (d := d) (b := b) hr hd hb)
    unfold gridV at hle
    rw [← natsR_I] at hsh hle
    refine AWP.loop (fun k : Nat => [(3, .sc (.int .i64 b)), (10, .sc (.int .i64 (t.length : Int))), (14, .ptr 0 0 0 0), (91, .sc (.int .i64 (prodN t : Int))), (92, .sc (.int .i64 (k : Int)))])
      (fun k => [[.cells 2 [[.list 1 (natsR t), .list 1 (boolsR W)]]]]) (fun k => k ≤ prodN t) (fun k => prodN t - k) 0 (Nat.zero_le _) ?_ ?_
    · exact Sub.wx [] [[(0,0)]]
    · rintro r hr
      refine walkX0 ?_
      refine AWP.condD rfl (fun hlt => ?_) (fun h => ?_)
      · have c1 := coordsX_ok (natI t) W r
        have c2 := rankX_ok (natI t) W (natI (coordN t r))
        have c3 := nearX_ok (natI t) W r
        rw [hco r hlt] at c1
        rw [hra r hlt] at c2
        rw [hne r hlt] at c3
        unfold gridV at c1 c2 c3
        rw [← natsR_I] at c1 c2 c3
        have l2 := nearN_len t W r t.length
        have l3 := intsR_len (nearN t W r t.length)
        rw [l2] at l3
        have hn1 := fun i (hi : i < t.length) => near_at (t := t) (w := W) (r := r) hi
        generalize nearN t W r t.length = N at *
        refine walkX0 ?_
        rw [decide_eq_true (rfl : r = r)]
        refine walkX0 ?_
        rw [l3, decide_eq_true (rfl : 2 * t.length = 2 * t.length)]
        refine walkX0 ?_
        refine AWP.loop (fun k : Nat => [(3, .sc (.int .i64 b)), (10, .sc (.int .i64 (t.length : Int))), (14, .ptr 0 0 0 0), (17, .sc (.int .i64 (r : Int))), (22, .list 1 (intsR N)), (91, .sc (.int .i64 (prodN t : Int))), (92, .sc (.int .i64 (r : Int))), (135, .sc (.int .i64 (t.length : Int))), (136, .sc (.int .i64 (k : Int)))])
          (fun k => [[.cells 2 [[.list 1 (natsR t), .list 1 (boolsR W)]]]]) (fun k => k ≤ t.length) (fun k => t.length - k) 0 (Nat.zero_le _) ?_ ?_
        · exact Sub.wx [] [[(0,0)]]
        · rintro k hk
          refine walkX0 ?_
          refine AWP.condD rfl (fun hkl => ?_) (fun h => ?_)
          · have s1 := hsh r k hlt hkl
            have s2 := hle r k hlt hkl
            obtain ⟨n1, n2⟩ := hn1 k hkl
            have r1 : rowIx (intsR N) ((2 * k : Nat) : Int) = some [.sc (.int .i64 (shiftE t W r k 1).1)] := by rw [rowIx_nat]; simp [intsR, n1]
            have r2 : rowIx (intsR N) ((2 * k + 1 : Nat) : Int) = some [.sc (.int .i64 (shiftE t W r k 1).2)] := by rw [rowIx_nat]; simp [intsR, n2]
            generalize shiftE t W r k 1 = z at *
            refine walkX ?_
            rw [bne_self]
            refine walkX ?_
            rw [bne_self]
            refine walkX ?_
            refine ⟨k + 1, by omega, by omega, ?_⟩
            exact Sub.wx [] [[(0,0)]]
          have hk : k = t.length := by omega
          refine walkX ?_
          refine ⟨r + 1, by omega, by omega, ?_⟩
          exact Sub.wx [] [[(0,0)]]
      refine walkX ?_
      exact endW [] (⟨rfl, rfl⟩)
end Go.Proofs.Ytpkpfgpfkajkpaa
