import Derived.Test.YtnngbbiajioghaaGSuC
import Derived.Test.YtnngbbiajioghaaGAvX
namespace Go.Proofs.Ytnngbbiajioghaa
open Go.Av Go.Proofs

theorem backward_ok (rows : List (List AV)) (hp : ∀ r ∈ rows, ∀ c ∈ r, Pure c) : PureRun Try.prog 57 [.list 1 rows] (.clo (.func 97) [] [.cptr [.list 1 rows]]) := by
  have hpl : Pure (.list 1 rows) := .list _ _ hp
  refine PureRun.of (fun a h => by simp at h; subst h; exact hpl) (.clo _ _ _ (fun c h => by cases h) fun c h => by simp at h; subst h; exact .cptr _ fun c h => by simp at h; subst h; exact hpl) ?_
  refine CallOK.of cF57 ?_ (by simp [F57])
  refine walkW ?_
  refine ⟨.inr rfl, _, _, [], rfl, SubV.to [] [] ?_ trivial rfl rfl rfl, rfl⟩
  refine To.cloL trivial (ToL.cons (To.fzp rfl rfl rfl (To.cptrL (ToL.cons (To.pure hpl) trivial))) trivial)

/-- Ranging over a slice from its last element on. -/
theorem back_ok (rows : List (List AV)) (hn : rows.length ≤ 1000000) (g i : Nat) (Inv : Nat → Heap → Prop) (Stop : Heap → Prop) (H0 : Heap) (h0 : Inv 0 H0)
    (hlen : ∀ j H, Inv j H → H0.length ≤ H.length)
    (hround : ∀ j H c, j < rows.length → Inv j H → rows[rows.length - 1 - j]? = some [c] → YieldOK Try.prog g i [.sc (.int .i64 (rows.length - 1 - j : Nat)), c] H fun b H' => (b = true ∧ Inv (j + 1) H') ∨ (b = false ∧ Stop H')) (hr1 : ∀ r ∈ rows, r.length = 1) :
    CallOK Try.prog 97 [.yld g i, .cptr [.list 1 rows]] H0 fun _ H' => Inv rows.length H' ∨ Stop H' := by
  refine CallOK.of cF97 ?_ (by simp [F97])
  refine walkW ?_
  refine AWP.loop (σ := Nat × Heap) (fun s => [(0, .yld g i), (1, .cptr [.list 1 rows]), (3, .sc (.int .i64 ((rows.length : Int) - 1 - s.1)))]) (fun s => s.2) (fun s => s.1 ≤ rows.length ∧ Inv s.1 s.2) (fun s => rows.length - s.1) (0, H0)
    ⟨Nat.zero_le _, h0⟩ (Sub.le ?_) ?_
  · intro x hx
    simp only [List.mem_cons, List.not_mem_nil, or_false] at hx
    rcases hx with rfl | rfl | rfl
    · exact Le.refl _
    · exact Le.refl _
    · show Le (.sc (.int .i64 (IntKind.i64.wrap ((rows.length : Int) - 1)))) _
      rw [wrap_small (by omega) (by omega)]
      simp only [Int.ofNat_zero, Int.sub_zero]
      exact Le.refl _
  rintro ⟨j, H⟩ ⟨hj, hI⟩
  simp only at hj hI
  refine walkW ?_
  refine AWP.cond rfl (fun h => ?_) (fun h => ?_)
  · have hlt : j < rows.length := by simp at h; omega
    have hcast : (rows.length : Int) - 1 - (j : Int) = ((rows.length - 1 - j : Nat) : Int) := by omega
    obtain ⟨c, hc⟩ : ∃ c, rows[rows.length - 1 - j]? = some [c] := by
      have hlt2 : rows.length - 1 - j < rows.length := by omega
      have h1 := hr1 _ (List.getElem_mem hlt2)
      obtain ⟨c, hc⟩ := List.length_eq_one_iff.1 h1
      exact ⟨c, by rw [List.getElem?_eq_getElem hlt2, hc]⟩
    have hix : rowIx rows ((rows.length : Int) - 1 - (j : Int)) = some [c] := by rw [hcast, rowIx_nat]; exact hc
    refine AWP.skip ?_
    refine AWP.seq ?_
    refine AWP.block ?_
    refine AWP.seq ?_
    refine AWP.rY rfl ?_
    refine walkW ?_
    refine ⟨rfl, hlen j H hI, g, i, rfl, ?_⟩
    have hy := hround j H c hlt hI hc
    rw [← hcast] at hy
    refine hy.mono fun b H' hb => ?_
    rcases hb with ⟨rfl, hI'⟩ | ⟨rfl, hS⟩
    · refine walkW ?_
      refine ⟨(j + 1, H'), ⟨by simp only; omega, hI'⟩, by simp only; omega, Sub.le ?_⟩
      intro x hx
      simp only [List.mem_cons, List.not_mem_nil, or_false] at hx
      rcases hx with rfl | rfl | rfl
      · exact Le.refl _
      · exact Le.refl _
      · show Le (.sc (.int .i64 (IntKind.i64.wrap ((rows.length : Int) - 1 - j - 1)))) _
        rw [wrap_small (by omega) (by omega), show (rows.length : Int) - 1 - j - 1 = (rows.length : Int) - 1 - ((j + 1 : Nat) : Int) by omega]
        exact Le.refl _
    · refine walkW ?_
      exact ⟨.inr rfl, _, _, _, rfl, .refl _ _ _, .inr hS⟩
  · have hjn : j = rows.length := by simp at h; omega
    subst hjn
    refine walkW ?_
    exact ⟨.inl rfl, _, _, _, rfl, .refl _ _ _, .inl hI⟩

end Go.Proofs.Ytnngbbiajioghaa
namespace Go.Proofs.Ytnngbbiajioghaa
open Go.Av Go.Proofs
theorem mixed : Try.prog.follows .mixedOrders = true := by kernel_rfl

/-- The word i of a number. -/
def wd (N : Nat) (i : Nat) : Nat := N / 2 ^ (64 * i) % 2 ^ 64
/-- The carry into word i. -/
def car (X Y i : Nat) : Nat := (X % 2 ^ (64 * i) + Y % 2 ^ (64 * i)) / 2 ^ (64 * i)

theorem car_le (X Y i : Nat) : car X Y i ≤ 1 := by
  have h0 : 0 < 2 ^ (64 * i) := Nat.pow_pos (by decide)
  have h1 := Nat.mod_lt X h0
  have h2 := Nat.mod_lt Y h0
  have : car X Y i < 2 := by
    unfold car
    rw [Nat.div_lt_iff_lt_mul h0]
    omega
  omega

theorem split_mod (X i : Nat) : X % 2 ^ (64 * (i + 1)) = X % 2 ^ (64 * i) + 2 ^ (64 * i) * wd X i := by
  rw [show 64 * (i + 1) = 64 * i + 64 by omega, Nat.pow_add, Nat.mod_mul]
  rfl

theorem car_succ (X Y i : Nat) : car X Y (i + 1) = (wd X i + wd Y i + car X Y i) / 2 ^ 64 := by
  have h0 : 0 < 2 ^ (64 * i) := Nat.pow_pos (by decide)
  unfold car
  rw [split_mod, split_mod, show 2 ^ (64 * (i + 1)) = 2 ^ (64 * i) * 2 ^ 64 by rw [show 64 * (i + 1) = 64 * i + 64 by omega, Nat.pow_add], ← Nat.div_div_eq_div_mul,
    show X % 2 ^ (64 * i) + 2 ^ (64 * i) * wd X i + (Y % 2 ^ (64 * i) + 2 ^ (64 * i) * wd Y i) = X % 2 ^ (64 * i) + Y % 2 ^ (64 * i) + 2 ^ (64 * i) * (wd X i + wd Y i) by rw [Nat.mul_add]; omega,
    Nat.add_mul_div_left _ _ h0, Nat.add_comm]

theorem wd_add (X Y i : Nat) : wd (X + Y) i = (wd X i + wd Y i + car X Y i) % 2 ^ 64 := by
  have h0 : 0 < 2 ^ (64 * i) := Nat.pow_pos (by decide)
  have h1 : (X + Y) / 2 ^ (64 * i) = car X Y i + (X / 2 ^ (64 * i) + Y / 2 ^ (64 * i)) := by
    have e1 := Nat.div_add_mod X (2 ^ (64 * i))
    have e2 := Nat.div_add_mod Y (2 ^ (64 * i))
    unfold car
    rw [← Nat.add_mul_div_left _ _ h0]
    congr 1
    rw [Nat.mul_add]
    omega
  unfold wd
  rw [h1]
  omega

/-- The end of a function whose result is a number in a block. -/
theorem fin_num {rs : List IRes} {fr : Fr} {H : Heap} {r : AV} (f : Nat → Nat) (hr : resOf fr H rs = some (.agg (List.take 36 (List.drop 0 (ws 36 f))))) (e : r = .agg (ws 36 f) := by rfl) :
    (Exit.ret = Exit.normal ∨ Exit.ret = Exit.ret) ∧ ∃ res res' H2, resOf fr H rs = some res ∧ SubV 0 H res H2 res' ∧ res' = r := by
  subst e
  refine fin_pure (.inr rfl) (res := .agg (ws 36 f)) ?_ (.agg _ (pure_ws _ _)) rfl
  rw [hr, List.drop_zero, List.take_of_length_le (by rw [ws_len]; exact Nat.le_refl _)]

theorem add_ok (X Y : Nat) : CallOK Try.prog 98 [.agg (ws 36 (wd X)), .agg (ws 36 (wd Y))] [] fun res _ => res = .agg (ws 36 (wd (X + Y))) := by
  refine CallOK.of cF98 ?_ (by simp [F98])
  refine walkW ?_
  refine AWP.loop (fun k : Nat => [(2, .ptr 0 0 0 0), (3, .ptr 1 0 0 0), (4, .ptr 2 0 0 0), (5, .sc (.int .u64 (car X Y k : Int))), (7, .sc (.int .i64 (k : Int)))])
    (fun k => [[.cells 36 [ws 36 fun i => if i < k then wd (X + Y) i else wd X i]], [.cells 36 [ws 36 (wd Y)]], [.cells 36 [ws 36 fun _ => 0]]]) (fun k => k ≤ 36) (fun k => 36 - k) 0 (Nat.zero_le _) ?_ ?_
  · (apply Sub.to [] [[(0,0)],[(1,0)],[(2,0)]]; all_goals (repeat' (first | exact ToAll.nil | exact famsTo.nil | exact famTo.nil | exact ToL.nil | exact ToR.nil | refine ToAll.cons ?_ ?_ | refine famsTo.cons ?_ ?_ | refine wt10 ?_ ?_ | exact To.undef _ | exact To.sc _ | exact To.hslL rfl rfl | exact To.ptrO rfl rfl rfl | exact To.mrefO rfl | exact To.nil rfl rfl rfl | exact wt1 | exact To.nilL | refine To.int ?_ | refine To.bool ?_ | refine To.hslL rfl ?_ | refine wt2 rfl ?_ ?_ ?_ | refine To.tupL ?_ | refine To.aggL ?_ | refine To.cptrL ?_ | refine wt3 ?_ | refine wt4 ?_ | refine To.cloL ?_ ?_ | exact wt5 | refine wt6 ?_ | refine ToB.one ?_ | exact wt7 | ((with_reducible apply ToL.consE); case e9 => rfl) | refine wt8 ?_ | refine ToL.cons ?_ ?_ | exact wt11 | refine wt9 ?_ ?_ | refine wt12 ?_ | (with_reducible rfl) | assumption)); all_goals (first | rfl | assumption | (simp; done) | (simp; omega) | (rw [wrap_small (by omega) (by omega)]; done) | (rw [wrap_small (by omega) (by omega)]; omega) | (refine congrArg Nat.cast ?_; assumption) | skip))
    simp [car, Nat.mod_one]
  intro k hk
  refine walkW ?_
  refine AWP.cond rfl (fun h => ?_) (fun h => ?_)
  · have hlt : k < 36 := by have := of_decide_eq_true h; omega
    have hc := car_le X Y k
    have e1 : (ws 36 fun i => if i < k then wd (X + Y) i else wd X i)[k]? = some (.sc (.int .u64 (wd X k : Int))) := by rw [ws_get hlt, if_neg (Nat.lt_irrefl k)]
    have e2 := ws_get (f := wd Y) hlt
    have e3 := ws_len 36 fun i => if i < k then wd (X + Y) i else wd X i
    refine walkW ?_
    refine DK.nil ⟨by kernel_rfl, ?_⟩
    refine walkW ?_
    refine ⟨k + 1, by omega, by omega, ?_⟩
    (apply Sub.to [] [[(0,0)],[(1,0)],[(2,0)]]; all_goals (repeat' (first | exact ToAll.nil | exact famsTo.nil | exact famTo.nil | exact ToL.nil | exact ToR.nil | refine ToAll.cons ?_ ?_ | refine famsTo.cons ?_ ?_ | refine wt10 ?_ ?_ | exact To.undef _ | exact To.sc _ | exact To.hslL rfl rfl | exact To.ptrO rfl rfl rfl | exact To.mrefO rfl | exact To.nil rfl rfl rfl | exact wt1 | exact To.nilL | refine To.int ?_ | refine To.bool ?_ | refine To.hslL rfl ?_ | refine wt2 rfl ?_ ?_ ?_ | refine To.tupL ?_ | refine To.aggL ?_ | refine To.cptrL ?_ | refine wt3 ?_ | refine wt4 ?_ | refine To.cloL ?_ ?_ | exact wt5 | refine wt6 ?_ | refine ToB.one ?_ | exact wt7 | ((with_reducible apply ToL.consE); case e9 => rfl) | refine wt8 ?_ | refine ToL.cons ?_ ?_ | exact wt11 | refine wt9 ?_ ?_ | refine wt12 ?_ | (with_reducible rfl) | assumption)); all_goals (first | rfl | assumption | (simp; done) | (simp; omega) | (rw [wrap_small (by omega) (by omega)]; done) | (rw [wrap_small (by omega) (by omega)]; omega) | (refine congrArg Nat.cast ?_; assumption) | skip))
    · rw [car_succ]
    · rw [ws_set]
      show [ws 36 _] = _
      congr 1
      refine ws_congr fun i hi => ?_
      by_cases e : i = k
      · subst e
        rw [if_pos rfl, if_pos (Nat.lt_succ_self i), wd_add]
      · rw [if_neg e]
        by_cases e2 : i < k
        · rw [if_pos e2, if_pos (by omega)]
        · rw [if_neg e2, if_neg (by omega)]
  · have hkn : k = 36 := by have := of_decide_eq_false h; omega
    subst hkn
    refine walkW ?_
    have e1 : (ws 36 fun i => if i < 36 then wd (X + Y) i else wd X i) = ws 36 (wd (X + Y)) := ws_congr fun i hi => if_pos hi
    rw [e1]
    exact fin_num (wd (X + Y)) rfl

end Go.Proofs.Ytnngbbiajioghaa
namespace Go.Proofs.Ytnngbbiajioghaa
open Go.Av Go.Proofs

theorem add_pure (X Y : Nat) : PureRun Try.prog 98 [.agg (ws 36 (wd X)), .agg (ws 36 (wd Y))] (.agg (ws 36 (wd (X + Y)))) :=
  PureRun.of (fun a h => by simp at h; rcases h with rfl | rfl <;> exact .agg _ (pure_ws _ _)) (.agg _ (pure_ws _ _)) (add_ok X Y)

theorem wd_lt (N i : Nat) : wd N i < 2 ^ 64 := Nat.mod_lt _ (by decide)

theorem compl_div {A B N : Nat} (hB : 0 < B) (h : N < A * B) : (A * B - 1 - N) / B = A - 1 - N / B := by
  have hq : N / B < A := by rw [Nat.div_lt_iff_lt_mul hB]; exact h
  have e := Nat.div_add_mod N B
  have hr := Nat.mod_lt N hB
  obtain ⟨c, hc⟩ : ∃ c, A = N / B + 1 + c := ⟨A - (N / B + 1), by omega⟩
  have h1 : A * B = B * (N / B) + B + B * c := by
    rw [show A * B = B * (N / B + 1 + c) by rw [← hc, Nat.mul_comm], Nat.mul_add, Nat.mul_add, Nat.mul_one]
  have h2 : A * B - 1 - N = (B - 1 - N % B) + B * c := by omega
  rw [h2, Nat.add_mul_div_left _ _ hB, Nat.div_eq_of_lt (by omega)]
  omega

theorem wd_compl {N : Nat} (hN : N < 2 ^ 2304) {i : Nat} (hi : i < 36) : wd (2 ^ 2304 - 1 - N) i = 2 ^ 64 - 1 - wd N i := by
  have h0 : 0 < 2 ^ (64 * i) := Nat.pow_pos (by decide)
  have hp : 2 ^ 2304 = 2 ^ (64 * (35 - i)) * 2 ^ 64 * 2 ^ (64 * i) := by
    rw [← Nat.pow_add, ← Nat.pow_add]; congr 1; omega
  have hq : N / 2 ^ (64 * i) < 2 ^ (64 * (35 - i)) * 2 ^ 64 := by
    rw [Nat.div_lt_iff_lt_mul h0, ← hp]; exact hN
  unfold wd
  rw [hp, compl_div h0 (by rw [← hp]; exact hN)]
  generalize N / 2 ^ (64 * i) = q at hq
  generalize 2 ^ (64 * (35 - i)) = M at hq
  have := Nat.div_add_mod q (2 ^ 64)
  have hr := Nat.mod_lt q (show 0 < 2 ^ 64 by decide)
  have hm : q / 2 ^ 64 < M := by rw [Nat.div_lt_iff_lt_mul (by decide)]; exact hq
  obtain ⟨c, hc⟩ : ∃ c, M = q / 2 ^ 64 + 1 + c := ⟨M - (q / 2 ^ 64 + 1), by omega⟩
  have h3 : M * 2 ^ 64 - 1 - q = (2 ^ 64 - 1 - q % 2 ^ 64) + 2 ^ 64 * c := by omega
  rw [h3, Nat.add_mul_mod_self_left, Nat.mod_eq_of_lt (by omega)]

theorem unot {n : Nat} (h : n < 2 ^ 64) : IntKind.u64.wrap ((BitVec.ofInt IntKind.u64.bits (if IntKind.u64.signed = true then -1 else IntKind.u64.max) ^^^ BitVec.ofInt IntKind.u64.bits (n : Int)).toNat : Int) = ((2 ^ 64 - 1 - n : Nat) : Int) := by
  have e1 : BitVec.ofInt IntKind.u64.bits (if IntKind.u64.signed = true then -1 else IntKind.u64.max) = (BitVec.allOnes 64 : BitVec 64) := by show BitVec.ofInt 64 18446744073709551615 = BitVec.allOnes 64; decide
  have e2 : (BitVec.ofInt 64 (n : Int)).toNat = n := by
    rw [BitVec.toNat_ofInt]
    omega
  have e3 : (BitVec.allOnes 64 ^^^ BitVec.ofInt 64 (n : Int)).toNat = 2 ^ 64 - 1 - n := by
    rw [BitVec.allOnes_xor, BitVec.toNat_not, e2]
  rw [e1]
  show IntKind.u64.wrap ((BitVec.allOnes 64 ^^^ BitVec.ofInt 64 (n : Int)).toNat : Int) = _
  rw [e3]
  have hb : IntKind.u64.bits = 64 := rfl
  have hs : IntKind.u64.signed = false := rfl
  simp only [IntKind.wrap, hb, hs]
  simp
  omega

theorem neg_ok (N : Nat) (hN : N < 2 ^ 2304) : CallOK Try.prog 58 [.agg (ws 36 (wd N))] [] fun res _ => res = .agg (ws 36 (wd (2 ^ 2304 - N))) := by
  refine CallOK.of cF58 ?_ (by simp [F58])
  refine walkW ?_
  refine AWP.loop (fun k : Nat => [(1, .ptr 0 0 0 0), (2, .ptr 1 0 0 0), (4, .sc (.int .i64 (k : Int)))])
    (fun k => [[.cells 36 [ws 36 fun i => if i < k then wd (2 ^ 2304 - 1 - N) i else wd N i]], [.cells 36 [ws 36 fun _ => 0]]]) (fun k => k ≤ 36) (fun k => 36 - k) 0 (Nat.zero_le _) ?_ ?_
  · exact Sub.w [] [[(0,0)],[(1,0)]]
  intro k hk
  refine walkW ?_
  refine AWP.cond rfl (fun h => ?_) (fun h => ?_)
  · have hlt : k < 36 := by have := of_decide_eq_true h; omega
    have e1 : (ws 36 fun i => if i < k then wd (2 ^ 2304 - 1 - N) i else wd N i)[k]? = some (.sc (.int .u64 (wd N k : Int))) := by rw [ws_get hlt, if_neg (Nat.lt_irrefl k)]
    have e3 := ws_len 36 fun i => if i < k then wd (2 ^ 2304 - 1 - N) i else wd N i
    refine walkW ?_
    refine ⟨k + 1, by omega, by omega, ?_⟩
    (apply Sub.to [] [[(0,0)],[(1,0)]]; all_goals (repeat' (first | exact ToAll.nil | exact famsTo.nil | exact famTo.nil | exact ToL.nil | exact ToR.nil | refine ToAll.cons ?_ ?_ | refine famsTo.cons ?_ ?_ | refine wt10 ?_ ?_ | exact To.undef _ | exact To.sc _ | exact To.hslL rfl rfl | exact To.ptrO rfl rfl rfl | exact To.mrefO rfl | exact To.nil rfl rfl rfl | exact wt1 | exact To.nilL | refine To.int ?_ | refine To.bool ?_ | refine To.hslL rfl ?_ | refine wt2 rfl ?_ ?_ ?_ | refine To.tupL ?_ | refine To.aggL ?_ | refine To.cptrL ?_ | refine wt3 ?_ | refine wt4 ?_ | refine To.cloL ?_ ?_ | exact wt5 | refine wt6 ?_ | refine ToB.one ?_ | exact wt7 | ((with_reducible apply ToL.consE); case e9 => rfl) | refine wt8 ?_ | refine ToL.cons ?_ ?_ | exact wt11 | refine wt9 ?_ ?_ | refine wt12 ?_ | (with_reducible rfl) | assumption)); all_goals (first | rfl | assumption | (simp; done) | (simp; omega) | (rw [wrap_small (by omega) (by omega)]; done) | (rw [wrap_small (by omega) (by omega)]; omega) | (refine congrArg Nat.cast ?_; assumption) | skip))
    · rw [unot (wd_lt N k), ws_set]
      show [ws 36 _] = _
      congr 1
      refine ws_congr fun i hi => ?_
      by_cases e : i = k
      · subst e
        rw [if_pos rfl, if_pos (Nat.lt_succ_self i), wd_compl hN hlt]
      · rw [if_neg e]
        by_cases e2 : i < k
        · rw [if_pos e2, if_pos (by omega)]
        · rw [if_neg e2, if_neg (by omega)]
  · have hkn : k = 36 := by have := of_decide_eq_false h; omega
    subst hkn
    have e1 : (ws 36 fun i => if i < 36 then wd (2 ^ 2304 - 1 - N) i else wd N i) = ws 36 (wd (2 ^ 2304 - 1 - N)) := ws_congr fun i hi => if_pos hi
    have e2 : lsplice (zrow [(36, Value.int IntKind.u64 0)]) 0 [AV.sc (Value.int IntKind.u64 1)] = ws 36 (wd 1) := by kernel_rfl
    refine walkW ?_
    rw [e1, e2]
    have e3 : 2 ^ 2304 - 1 - N + 1 = 2 ^ 2304 - N := by omega
    have ha := add_pure (2 ^ 2304 - 1 - N) 1
    rw [e3] at ha
    refine walkW ?_
    exact fin_num (wd (2 ^ 2304 - N)) rfl

end Go.Proofs.Ytnngbbiajioghaa
namespace Go.Proofs.Ytnngbbiajioghaa
open Go.Av Go.Proofs
set_option exponentiation.threshold 3000

theorem fdiv_nat (a b : Nat) : (a : Int).fdiv (b : Int) = ((a / b : Nat) : Int) := by
  rw [Int.fdiv_eq_ediv_of_nonneg _ (Int.natCast_nonneg _)]
  rfl

theorem top_bit {N : Nat} (hN : N < 2 ^ 2304) : ((wd N 35 : Int).fdiv (2 ^ min (Int.toNat 63) IntKind.u64.bits) == 1) = decide (2 ^ 2303 ≤ N) := by
  have e0 : (2 ^ min (Int.toNat 63) IntKind.u64.bits : Int) = ((2 ^ 63 : Nat) : Int) := rfl
  have hw : wd N 35 = N / 2 ^ 2240 := by
    unfold wd
    refine Nat.mod_eq_of_lt ?_
    rw [Nat.div_lt_iff_lt_mul (Nat.pow_pos (by decide)), ← Nat.pow_add]
    exact hN
  have h1 : wd N 35 / 2 ^ 63 = N / 2 ^ 2303 := by rw [hw, Nat.div_div_eq_div_mul, ← Nat.pow_add]
  rw [e0, fdiv_nat, h1]
  have hlt : N / 2 ^ 2303 < 2 := by
    rw [Nat.div_lt_iff_lt_mul (Nat.pow_pos (by decide)), show (2 : Nat) * 2 ^ 2303 = 2 ^ 2304 by rw [Nat.mul_comm, ← Nat.pow_succ]]
    exact hN
  have hge : 1 ≤ N / 2 ^ 2303 ↔ 2 ^ 2303 ≤ N := by
    rw [Nat.le_div_iff_mul_le (Nat.pow_pos (by decide)), Nat.one_mul]
  generalize N / 2 ^ 2303 = q at hlt hge
  by_cases h : 2 ^ 2303 ≤ N
  · have : q = 1 := by have := hge.2 h; omega
    subst this
    simp only [decide_eq_true h]
    rfl
  · have : q = 0 := by
      have : ¬ 1 ≤ q := fun hh => h (hge.1 hh)
      omega
    subst this
    simp only [decide_eq_false h]
    rfl

theorem below_ok {N : Nat} (hN : N < 2 ^ 2304) : PureRun Try.prog 62 [.agg (ws 36 (wd N))] (.sc (.bool (decide (2 ^ 2303 ≤ N)))) := by
  refine PureRun.of (fun a h => by simp at h; subst h; exact .agg _ (pure_ws _ _)) (.sc _) ?_
  refine CallOK.of cF62 ?_ (by simp [F62])
  have e1 := ws_get (f := wd N) (show 35 < 36 by decide)
  refine walkW ?_
  refine fin_pure (.inr rfl) (res := .sc (.bool (decide (2 ^ 2303 ≤ N)))) ?_ (.sc _) rfl
  rw [← top_bit hN]
  rfl

theorem neg_pure (N : Nat) (hN : N < 2 ^ 2304) : PureRun Try.prog 58 [.agg (ws 36 (wd N))] (.agg (ws 36 (wd (2 ^ 2304 - N)))) :=
  PureRun.of (fun a h => by simp at h; subst h; exact .agg _ (pure_ws _ _)) (.agg _ (pure_ws _ _)) (neg_ok N hN)

/-- The absolute value. -/
def absN (N : Nat) : Nat := if 2 ^ 2303 ≤ N then 2 ^ 2304 - N else N

set_option maxRecDepth 20000 in
theorem size_ok {N : Nat} (hN : N < 2 ^ 2304) : PureRun Try.prog 63 [.agg (ws 36 (wd N))] (.agg (ws 36 (wd (absN N)))) := by
  refine PureRun.of (fun a h => by simp at h; subst h; exact .agg _ (pure_ws _ _)) (.agg _ (pure_ws _ _)) ?_
  refine CallOK.of cF63 ?_ (by simp [F63])
  have h1 := below_ok hN
  generalize hq : decide (2 ^ 2303 ≤ N) = q at h1
  refine walkW ?_
  refine AWP.cond rfl (fun h => ?_) (fun h => ?_)
  · have h := of_decide_eq_true (hq.trans h)
    have h2 := neg_pure N hN
    generalize hf : wd (2 ^ 2304 - N) = f at h2
    refine walkW ?_
    exact fin_num f rfl (by rw [absN, if_pos h, hf])
  · have h := of_decide_eq_false (hq.trans h)
    refine walkW ?_
    exact fin_num (wd N) rfl (by rw [absN, if_neg h])

end Go.Proofs.Ytnngbbiajioghaa
namespace Go.Proofs.Ytnngbbiajioghaa
open Go.Av Go.Proofs

/-- How many bits a number has. -/
def blen (n : Nat) : Nat := if n = 0 then 0 else n.log2 + 1

theorem blen_shift (n k : Nat) (h : 2 ^ k ≤ n) : blen n = blen (n / 2 ^ k) + k := by
  have h0 : 0 < 2 ^ k := Nat.pow_pos (by decide)
  have h1 : 1 ≤ n / 2 ^ k := (Nat.le_div_iff_mul_le h0).2 (by omega)
  unfold blen
  rw [if_neg (by omega), if_neg (by omega)]
  have e : n.log2 = (n / 2 ^ k).log2 + k := by
    refine (Nat.log2_eq_iff (by omega)).2 ⟨?_, ?_⟩
    · have := Nat.log2_self_le (n := n / 2 ^ k) (by omega)
      rw [Nat.pow_add]
      exact (Nat.le_div_iff_mul_le h0).1 this
    · have := Nat.lt_log2_self (n := n / 2 ^ k)
      rw [show (n / 2 ^ k).log2 + k + 1 = (n / 2 ^ k).log2 + 1 + k by omega, Nat.pow_add]
      exact (Nat.div_lt_iff_lt_mul h0).1 this
  omega

end Go.Proofs.Ytnngbbiajioghaa
namespace Go.Proofs.Ytnngbbiajioghaa
open Go.Av Go.Proofs

def lenTab : ByteArray := match F99.code with
  | .seq _ (.seq _ (.seq _ (.seq _ (.seq (.region [_, _, _, ⟨_, _, .op (.xop _ [.const (.string s), _])⟩, _, _, _]) _)))) => s
  | _ => .empty

theorem lenTab_get {i : Nat} (h : i < 256) : lenTab[i]? = some (UInt8.ofNat (blen i)) := by
  have e : ((List.range 256).all fun i => decide (lenTab[i]? = some (UInt8.ofNat (blen i)))) = true := by kernel_rfl
  rw [List.all_eq_true] at e
  exact of_decide_eq_true (e i (List.mem_range.2 h))

theorem blen_le {n k : Nat} (h : n < 2 ^ k) : blen n ≤ k := by
  unfold blen
  split
  · omega
  · have := (Nat.log2_lt (by omega)).2 h
    omega

set_option maxRecDepth 100000 in
theorem dstep_len {g i : Nat} {fr : Fr} {H : Heap} {y : Operand} {kd : IntKind} {a : Nat} (hy : ev fr y = .sc (.int kd (a : Int))) (h : a < 256) :
    dstep g i (.xop .idxStr [.const (.string lenTab), y]) fr H = some (.sc (.int .u8 (blen a : Int)), H) := by
  simp only [dstep, avals, List.map_cons, List.map_nil, hy]
  have e : xstep H .idxStr [ev fr (.const (.string lenTab)), .sc (.int kd (a : Int))] = match lenTab[a]? with
    | some b => some (.sc (.int .u8 b.toNat))
    | none => none := rfl
  rw [e, lenTab_get h]
  have := blen_le (n := a) (k := 8) (by omega)
  show some (AV.sc (.int .u8 ((blen a % 256 : Nat) : Int)), H) = _
  rw [Nat.mod_eq_of_lt (by omega)]

set_option maxRecDepth 100000 in
theorem len64_ok (n : Nat) (h : n < 18446744073709551616) : PureRun Try.prog 99 [.sc (.int .u64 (n : Int))] (.sc (.int .i64 (blen n : Int))) := by
  refine PureRun.mkI cF99 (Nat.le_of_ble_eq_true rfl) ?_
  refine walkX ?_
  refine AWP.joinT2 (fun (s t : Nat) => [(0, .sc (.int .u64 (s : Int))), (2, .sc (.int .i64 (t : Int)))]) (fun _ _ => []) (fun s t => s < 4294967296 ∧ t ≤ 32 ∧ blen n = blen s + t) ?_ ?_
  · refine AWP.condD rfl (fun c => ?_) (fun c => ?_)
    · have hb := blen_shift n 32 c
      refine walkX ?_
      refine ⟨n / 2 ^ 32, 32, ⟨by omega, by omega, hb⟩, ?_⟩
      exact Sub.w [] []
    · refine walkX ?_
      refine ⟨n, 0, ⟨by omega, by omega, rfl⟩, ?_⟩
      exact Sub.w [] []
  rintro m c1 ⟨h1, h2, h3⟩
  refine walkX ?_
  refine AWP.joinT2 (fun (s t : Nat) => [(0, .sc (.int .u64 (s : Int))), (2, .sc (.int .i64 (t : Int)))]) (fun _ _ => []) (fun s t => s < 65536 ∧ t ≤ 48 ∧ blen n = blen s + t) ?_ ?_
  · refine AWP.condD rfl (fun c => ?_) (fun c => ?_)
    · have hb := blen_shift m 16 c
      refine walkX ?_
      refine ⟨m / 2 ^ 16, c1 + 16, ⟨by omega, by omega, by omega⟩, ?_⟩
      exact Sub.w [] []
    · refine walkX ?_
      refine ⟨m, c1, ⟨by omega, by omega, h3⟩, ?_⟩
      exact Sub.w [] []
  rintro m2 c2 ⟨h1, h2, h3⟩
  refine walkX ?_
  refine AWP.joinT2 (fun (s t : Nat) => [(0, .sc (.int .u64 (s : Int))), (2, .sc (.int .i64 (t : Int)))]) (fun _ _ => []) (fun s t => s < 256 ∧ t ≤ 56 ∧ blen n = blen s + t) ?_ ?_
  · refine AWP.condD rfl (fun c => ?_) (fun c => ?_)
    · have hb := blen_shift m2 8 c
      refine walkX ?_
      refine ⟨m2 / 2 ^ 8, c2 + 8, ⟨by omega, by omega, by omega⟩, ?_⟩
      exact Sub.w [] []
    · refine walkX ?_
      refine ⟨m2, c2, ⟨by omega, by omega, h3⟩, ?_⟩
      exact Sub.w [] []
  rintro m3 c3 ⟨h1, h2, h3⟩
  refine walkX ?_
  refine Reg.o rfl (dstep_len rfl h1) ?_
  have := blen_le (n := m3) (k := 8) (by omega)
  refine walkX ?_
  exact EndP.w

end Go.Proofs.Ytnngbbiajioghaa
namespace Go.Proofs.Ytnngbbiajioghaa
open Go.Av Go.Proofs
set_option exponentiation.threshold 3000

theorem pow_split (i : Nat) : 2 ^ (64 * (i + 1)) = 2 ^ (64 * i) * 2 ^ 64 := by rw [show 64 * (i + 1) = 64 * i + 64 by omega, Nat.pow_add]
theorem wd_top {N i : Nat} (h : N < 2 ^ (64 * (i + 1))) : wd N i = N / 2 ^ (64 * i) := by
  unfold wd
  refine Nat.mod_eq_of_lt ?_
  rw [Nat.div_lt_iff_lt_mul (Nat.pow_pos (by decide)), Nat.mul_comm, ← pow_split]
  exact h
theorem wd_lt' (N i : Nat) : wd N i < 18446744073709551616 := wd_lt N i
theorem blen_top {N i : Nat} (h : N < 2 ^ (64 * (i + 1))) (h0 : wd N i ≠ 0) : blen N = 64 * i + blen (wd N i) := by
  rw [wd_top h] at h0 ⊢
  have := blen_shift N (64 * i) (by
    rcases Nat.lt_or_ge N (2 ^ (64 * i)) with h1 | h1
    · exact absurd (Nat.div_eq_of_lt h1) h0
    · exact h1)
  omega

set_option maxHeartbeats 1000000 in
theorem length_ok {N : Nat} (hN : N < 2 ^ 2304) : PureRun Try.prog 64 [.agg (ws 36 (wd N))] (.sc (.int .i64 (blen N : Int))) := by
  refine PureRun.mkI cF64 (Nat.le_of_ble_eq_true rfl) ?_
  refine walkX ?_
  refine AWP.loop (fun k : Nat => [(1, .ptr 0 0 0 0), (3, .sc (.int .i64 ((k : Int) - 1)))]) (fun _ => [[.cells 36 [ws 36 (wd N)]]]) (fun k => k ≤ 36 ∧ N < 2 ^ (64 * k)) (fun k => k) 36 ⟨Nat.le_refl _, hN⟩ ?_ ?_
  · exact Sub.w [] [[(0,0)]]
  rintro k ⟨hk, hNk⟩
  cases k with
  | zero =>
    have hN0 : N = 0 := by simp at hNk; exact hNk
    refine walkX ?_
    subst hN0
    refine walkX ?_
    exact EndP.w
  | succ j =>
    rw [show ((j + 1 : Nat) : Int) - 1 = (j : Int) by omega]
    have e2 := ws_get (f := wd N) (show j < 36 by omega)
    have hl := wd_lt' N j
    refine walkX ?_
    refine AWP.condDn rfl (fun h => ?_) (fun h => ?_)
    · have h99 := len64_ok (wd N j) hl
      have hb := blen_top hNk h
      have := blen_le (n := wd N j) (k := 64) hl
      refine walkX ?_
      exact EndP.w
    · have hNj : N < 2 ^ (64 * j) := by
        rcases Nat.lt_or_ge N (2 ^ (64 * j)) with h1 | h1
        · exact h1
        · rw [wd_top hNk] at h
          have := (Nat.le_div_iff_mul_le (Nat.pow_pos (by decide))).2 (show 1 * 2 ^ (64 * j) ≤ N by omega)
          omega
      refine walkX ?_
      refine ⟨j, ⟨by omega, hNj⟩, by omega, ?_⟩
      exact Sub.w [] [[(0,0)]]

end Go.Proofs.Ytnngbbiajioghaa
namespace Go.Proofs.Ytnngbbiajioghaa
open Go.Av Go.Proofs
set_option exponentiation.threshold 3000

/-! shifted -/

theorem wd_shift (a q i : Nat) : wd (a * 2 ^ (64 * q)) i = if i < q then 0 else wd a (i - q) := by
  unfold wd
  split
  · rename_i h
    obtain ⟨c, rfl⟩ : ∃ c, q = i + 1 + c := ⟨q - (i + 1), by omega⟩
    rw [show 64 * (i + 1 + c) = 64 * c + 64 + 64 * i by omega, Nat.pow_add, Nat.pow_add, ← Nat.mul_assoc, Nat.mul_div_cancel _ (Nat.pow_pos (by decide)), ← Nat.mul_assoc, Nat.mul_mod_left]
  · rename_i h
    obtain ⟨c, rfl⟩ : ∃ c, i = q + c := ⟨i - q, by omega⟩
    rw [Nat.add_sub_cancel_left, show 64 * (q + c) = 64 * q + 64 * c by omega, Nat.pow_add, Nat.mul_comm a, Nat.mul_div_mul_left _ _ (Nat.pow_pos (by decide))]

theorem wd_two (m r i : Nat) (hm : m < 18446744073709551616) (hr : r < 64) : wd (m * 2 ^ r) i = if i = 0 then m * 2 ^ r % 18446744073709551616 else if i = 1 then m / 2 ^ (64 - r) else 0 := by
  have h0 : 0 < 2 ^ r := Nat.pow_pos (by decide)
  have hlt : m * 2 ^ r < 2 ^ 128 := by
    have h1 : m * 2 ^ r < 2 ^ 64 * 2 ^ r := (Nat.mul_lt_mul_right h0).2 hm
    have h2 : (2 : Nat) ^ 64 * 2 ^ r ≤ 2 ^ 64 * 2 ^ 64 := Nat.mul_le_mul_left _ (Nat.pow_le_pow_right (by decide) (by omega))
    exact Nat.lt_of_lt_of_le h1 h2
  unfold wd
  by_cases e0 : i = 0
  · subst e0
    rw [if_pos rfl, Nat.mul_zero, Nat.pow_zero, Nat.div_one]
  rw [if_neg e0]
  by_cases e1 : i = 1
  · subst e1
    rw [if_pos rfl]
    have e : m * 2 ^ r / 2 ^ (64 * 1) = m / 2 ^ (64 - r) := by
      rw [show 64 * 1 = r + (64 - r) by omega, Nat.pow_add, ← Nat.div_div_eq_div_mul, Nat.mul_div_cancel _ h0]
    rw [e]
    exact Nat.mod_eq_of_lt (Nat.lt_of_le_of_lt (Nat.div_le_self _ _) hm)
  · rw [if_neg e1, Nat.div_eq_of_lt (Nat.lt_of_lt_of_le hlt (Nat.pow_le_pow_right (by decide) (by omega)))]

theorem wd_mshift (m k i : Nat) (hm : m < 18446744073709551616) : wd (m * 2 ^ k) i = if i = k / 64 then m * 2 ^ (k % 64) % 18446744073709551616 else if i = k / 64 + 1 then m / 2 ^ (64 - k % 64) else 0 := by
  have e : m * 2 ^ k = m * 2 ^ (k % 64) * 2 ^ (64 * (k / 64)) := by
    rw [Nat.mul_assoc, ← Nat.pow_add]; congr 2; omega
  rw [e, wd_shift, wd_two m _ _ hm (Nat.mod_lt _ (by decide))]
  by_cases h1 : i < k / 64
  · rw [if_pos h1, if_neg (by omega), if_neg (by omega)]
  · rw [if_neg h1]
    by_cases h2 : i = k / 64
    · rw [if_pos (by omega), if_pos h2]
    · rw [if_neg (by omega), if_neg h2]
      by_cases h3 : i = k / 64 + 1
      · rw [if_pos (by omega), if_pos h3]
      · rw [if_neg (by omega), if_neg h3]


theorem shifted_ok {m k : Nat} (hm : m < 18446744073709551616) (hk : k < 2240) : PureRun Try.prog 103 [.sc (.int .u64 (m : Int)), .sc (.int .i64 (k : Int))] (.agg (ws 36 (wd (m * 2 ^ k)))) := by
  refine PureRun.mkI cF103 (Nat.le_of_ble_eq_true rfl) ?_
  have ez : zrow [(36, Value.int IntKind.u64 0)] = ws 36 fun _ => 0 := by kernel_rfl
  have hq : k / 64 < 36 := by omega
  have hq' : k / 64 + 1 < 36 := by omega
  have e0 := ws_len 36 fun _ => 0
  refine walkX ?_
  rw [ez]
  refine walkX ?_
  rw [ws_set]
  refine AWP.joinT0 [(4, .ptr 0 0 0 0), (5, .ptr 1 0 0 0)] [[.cells 36 [ws 36 fun _ => 0]], [.cells 36 [ws 36 (wd (m * 2 ^ k))]]] ?_ ?_
  · refine AWP.condD rfl (fun h => ?_) (fun h => ?_)
    · have e1 := ws_len 36 fun j => if j = k / 64 then m * 2 ^ (k % 64) % 18446744073709551616 else 0
      refine walkX ?_
      (apply Sub.to [] [[(0,0)],[(1,0)]]; all_goals (repeat' (first | exact ToAll.nil | exact famsTo.nil | exact famTo.nil | exact ToL.nil | exact ToR.nil | refine ToAll.cons ?_ ?_ | refine famsTo.cons ?_ ?_ | refine wt10 ?_ ?_ | exact To.undef _ | exact To.sc _ | exact To.hslL rfl rfl | exact To.ptrO rfl rfl rfl | exact To.mrefO rfl | exact To.nil rfl rfl rfl | exact wt1 | exact To.nilL | refine To.int ?_ | refine To.bool ?_ | refine To.hslL rfl ?_ | refine wt2 rfl ?_ ?_ ?_ | refine To.tupL ?_ | refine To.aggL ?_ | refine To.cptrL ?_ | refine wt3 ?_ | refine wt4 ?_ | refine To.cloL ?_ ?_ | exact wt5 | refine wt6 ?_ | refine ToB.one ?_ | exact wt7 | ((with_reducible apply ToL.consE); case e9 => rfl) | refine wt8 ?_ | refine ToL.cons ?_ ?_ | exact wt11 | refine wt9 ?_ ?_ | refine wt12 ?_ | (with_reducible rfl) | assumption)); all_goals (first | rfl | assumption | (simp; done) | (simp; omega) | (rw [wrap_small (by omega) (by omega)]; done) | (rw [wrap_small (by omega) (by omega)]; omega) | (refine congrArg Nat.cast ?_; assumption) | skip))
      rw [ws_set]
      show [ws 36 _] = _
      congr 1
      refine ws_congr fun i hi => ?_
      rw [wd_mshift _ _ _ hm]
      by_cases h2 : i = k / 64 + 1
      · rw [if_pos h2, if_neg (by omega), if_pos h2]
      · rw [if_neg h2, if_neg h2]
    · refine walkX ?_
      (apply Sub.to [] [[(0,0)],[(1,0)]]; all_goals (repeat' (first | exact ToAll.nil | exact famsTo.nil | exact famTo.nil | exact ToL.nil | exact ToR.nil | refine ToAll.cons ?_ ?_ | refine famsTo.cons ?_ ?_ | refine wt10 ?_ ?_ | exact To.undef _ | exact To.sc _ | exact To.hslL rfl rfl | exact To.ptrO rfl rfl rfl | exact To.mrefO rfl | exact To.nil rfl rfl rfl | exact wt1 | exact To.nilL | refine To.int ?_ | refine To.bool ?_ | refine To.hslL rfl ?_ | refine wt2 rfl ?_ ?_ ?_ | refine To.tupL ?_ | refine To.aggL ?_ | refine To.cptrL ?_ | refine wt3 ?_ | refine wt4 ?_ | refine To.cloL ?_ ?_ | exact wt5 | refine wt6 ?_ | refine ToB.one ?_ | exact wt7 | ((with_reducible apply ToL.consE); case e9 => rfl) | refine wt8 ?_ | refine ToL.cons ?_ ?_ | exact wt11 | refine wt9 ?_ ?_ | refine wt12 ?_ | (with_reducible rfl) | assumption)); all_goals (first | rfl | assumption | (simp; done) | (simp; omega) | (rw [wrap_small (by omega) (by omega)]; done) | (rw [wrap_small (by omega) (by omega)]; omega) | (refine congrArg Nat.cast ?_; assumption) | skip))
      show [ws 36 _] = _
      congr 1
      refine ws_congr fun i hi => ?_
      rw [wd_mshift _ _ _ hm]
      by_cases h2 : i = k / 64
      · rw [if_pos h2, if_pos h2]
      · rw [if_neg h2, if_neg h2]
        split
        · rw [show k % 64 = 0 by omega, Nat.div_eq_of_lt hm]
        · rfl
  · refine walkX ?_
    exact EndP.w

end Go.Proofs.Ytnngbbiajioghaa
namespace Go.Proofs.Ytnngbbiajioghaa
open Go.Av Go.Proofs
set_option exponentiation.threshold 3000

/-! high -/

theorem div_pow_pow (N a b : Nat) : N / 2 ^ a / 2 ^ b = N / 2 ^ (a + b) := by rw [Nat.div_div_eq_div_mul, ← Nat.pow_add]

theorem mod_div_pow (N a b : Nat) : N % 2 ^ (a + b) / 2 ^ a = N / 2 ^ a % 2 ^ b := by
  rw [Nat.pow_add, Nat.mod_mul_right_div_self]

theorem wd_mod (N k i : Nat) : wd (N % 2 ^ k) i = if i < k / 64 then wd N i else if i = k / 64 then wd N i % 2 ^ (k % 64) else 0 := by
  unfold wd
  by_cases h1 : i < k / 64
  · rw [if_pos h1]
    obtain ⟨c, rfl⟩ : ∃ c, k = 64 * i + (64 + c) := ⟨k - 64 * i - 64, by omega⟩
    rw [mod_div_pow, Nat.pow_add 2 64 c, Nat.mod_mul_right_mod]
  · rw [if_neg h1]
    by_cases h2 : i = k / 64
    · rw [if_pos h2]
      obtain ⟨r, hr, rfl⟩ : ∃ r, r < 64 ∧ k = 64 * i + r := ⟨k % 64, Nat.mod_lt _ (by decide), by omega⟩
      rw [mod_div_pow, show (64 * i + r) % 64 = r by omega]
      have hp : (2 : Nat) ^ 64 = 2 ^ r * 2 ^ (64 - r) := by rw [← Nat.pow_add]; congr 1; omega
      rw [hp, Nat.mod_mul_right_mod, Nat.mod_eq_of_lt]
      have h1 := Nat.mod_lt (N / 2 ^ (64 * i)) (Nat.pow_pos (n := r) (show 0 < 2 by decide))
      have h2 : 2 ^ r ≤ 2 ^ r * 2 ^ (64 - r) := Nat.le_mul_of_pos_right _ (Nat.pow_pos (by decide))
      omega
    · rw [if_neg h2, Nat.div_eq_of_lt]
      have h1 := Nat.mod_lt N (Nat.pow_pos (n := k) (show 0 < 2 by decide))
      exact Nat.lt_of_lt_of_le h1 (Nat.pow_le_pow_right (by decide) (by omega))

theorem and_low (x r : Nat) (hr : r < 64) : x &&& (1 * 2 ^ r % 18446744073709551616 - 1) = x % 2 ^ r := by
  have h : 2 ^ r < 18446744073709551616 := Nat.pow_lt_pow_right (a := 2) (n := 64) (by decide) hr
  rw [Nat.one_mul, Nat.mod_eq_of_lt h, Nat.and_two_pow_sub_one_eq_mod]

/-- The bits above k, where they fit into a word. -/
theorem high_word {N k : Nat} (h : N / 2 ^ k < 18446744073709551616) : wd N (k / 64) / 2 ^ (k % 64) ||| wd N (k / 64 + 1) * 2 ^ (64 - k % 64) % 18446744073709551616 = N / 2 ^ k ∨ k % 64 = 0 := by
  by_cases hr : k % 64 = 0
  · exact .inr hr
  refine .inl ?_
  have hr2 : k % 64 < 64 := Nat.mod_lt _ (by decide)
  have hk : k = 64 * (k / 64) + k % 64 := by omega
  generalize hq : k / 64 = q at *
  generalize hr0 : k % 64 = r at *
  subst hk
  rw [← div_pow_pow] at h ⊢
  unfold wd
  have e1 : N / 2 ^ (64 * (q + 1)) = N / 2 ^ (64 * q) / 2 ^ 64 := by rw [div_pow_pow]; rfl
  rw [e1]
  generalize N / 2 ^ (64 * q) = M at h
  have hp : (2 : Nat) ^ 64 = 2 ^ r * 2 ^ (64 - r) := by rw [← Nat.pow_add]; congr 1; omega
  have hA : M % 2 ^ 64 / 2 ^ r = M / 2 ^ r % 2 ^ (64 - r) := by
    rw [show (2 : Nat) ^ 64 = 2 ^ (r + (64 - r)) by congr 1; omega, mod_div_pow]
  have hB : M / 2 ^ 64 % 2 ^ 64 * 2 ^ (64 - r) % 18446744073709551616 = 2 ^ (64 - r) * (M / 2 ^ 64 % 2 ^ 64 % 2 ^ r) := by
    rw [show (18446744073709551616 : Nat) = 2 ^ (64 - r) * 2 ^ r by rw [Nat.mul_comm, ← hp], Nat.mul_comm _ (2 ^ (64 - r)), Nat.mul_mod_mul_left]
  have hC : M / 2 ^ 64 = M / 2 ^ r / 2 ^ (64 - r) := by rw [div_pow_pow]; congr 2; omega
  have hD : M / 2 ^ r / 2 ^ (64 - r) < 2 ^ r := by
    rw [Nat.div_lt_iff_lt_mul (Nat.pow_pos (by decide)), ← hp]
    exact h
  have hE : M / 2 ^ r / 2 ^ (64 - r) < 2 ^ 64 := Nat.lt_of_lt_of_le hD (Nat.pow_le_pow_right (by decide) (by omega))
  rw [hA, hB, hC, Nat.mod_eq_of_lt hE, Nat.mod_eq_of_lt hD, Nat.or_comm, ← Nat.two_pow_add_eq_or_of_lt (Nat.mod_lt _ (Nat.pow_pos (by decide))), Nat.div_add_mod]

theorem high_word0 {N k : Nat} (h : N / 2 ^ k < 18446744073709551616) (hk : k % 64 = 0) : wd N (k / 64) / 2 ^ (k % 64) = N / 2 ^ k := by
  unfold wd
  rw [hk, Nat.pow_zero, Nat.div_one, show 64 * (k / 64) = k by omega]
  exact Nat.mod_eq_of_lt h

theorem high_wordT {N k : Nat} (hN : N < 2 ^ 2304) (hk : 36 ≤ k / 64 + 1) : wd N (k / 64) / 2 ^ (k % 64) = N / 2 ^ k := by
  unfold wd
  have h1 : N / 2 ^ (64 * (k / 64)) < 2 ^ 64 := by
    rw [Nat.div_lt_iff_lt_mul (Nat.pow_pos (by decide)), ← Nat.pow_add]
    exact Nat.lt_of_lt_of_le hN (Nat.pow_le_pow_right (by decide) (by omega))
  rw [Nat.mod_eq_of_lt h1, div_pow_pow]
  congr 2
  omega

/-- How two numbers compare. -/
def cmpN (a b : Nat) : Int := if a < b then -1 else if b < a then 1 else 0

theorem div_split (A i : Nat) : A / 2 ^ (64 * i) = 18446744073709551616 * (A / 2 ^ (64 * (i + 1))) + wd A i := by
  unfold wd
  have : A / 2 ^ (64 * (i + 1)) = A / 2 ^ (64 * i) / 2 ^ 64 := by rw [div_pow_pow]; rfl
  rw [this]
  exact (Nat.div_add_mod _ _).symm

theorem lt_of_div {A B c : Nat} (h : A / c < B / c) : A < B := by
  rcases Nat.lt_or_ge A B with h1 | h1
  · exact h1
  · have := Nat.div_le_div_right (c := c) h1
    omega

set_option maxHeartbeats 2000000 in
set_option maxRecDepth 4000 in
theorem high_ok {N k : Nat} (hN : N < 2 ^ 2304) (hk : k ≤ 2240) (hs : N / 2 ^ k < 18446744073709551616) :
    PureRun Try.prog 100 [.agg (ws 36 (wd N)), .sc (.int .i64 (k : Int))] (.tup [.sc (.int .u64 (N / 2 ^ k : Nat)), .sc (.int .i64 (if k = 0 then -1 else cmpN (N % 2 ^ k) (2 ^ (k - 1))))]) := by
  refine PureRun.mkI cF100 (Nat.le_of_ble_eq_true rfl) ?_
  refine walkX ?_
  refine AWP.condD rfl (fun h => ?_) (fun h0 => ?_)
  · subst h
    have e1 := ws_get (f := wd N) (show 0 < 36 by decide)
    refine walkX ?_
    have e2 : wd N 0 = N / 2 ^ 0 := by
      unfold wd
      rw [Nat.mul_zero]
      exact Nat.mod_eq_of_lt hs
    rw [e2]
    rw [if_pos rfl]
    exact EndP.w
  refine AWP.skip ?_
  have hq : k / 64 < 36 := by omega
  have hw := wd_lt' N (k / 64)
  have e1 := ws_get (f := wd N) hq
  refine AWP.seq ?_
  refine AWP.region ?_
  refine walkR ?_
  refine AWP.seq ?_
  refine AWP.joinT0 [(1, .sc (.int .i64 (k : Int))), (2, .ptr 0 0 0 0), (6, .sc (.int .u64 (N / 2 ^ k : Nat)))] [[.cells 36 [ws 36 (wd N)]]] ?_ ?_
  · refine walkX ?_
    refine Reg.gs rfl (fun h => ?_) (fun h => ?_)
    · rw [h]
      have h := of_decide_eq_true h
      refine walkX ?_
      refine AWP.condD rfl (fun h2 => ?_) (fun h2 => ?_)
      · have e2 := ws_get (f := wd N) h2
        have hd : wd N (k / 64) / 2 ^ (k % 64) < 18446744073709551616 := Nat.lt_of_le_of_lt (Nat.div_le_self _ _) hw
        have hd2 : wd N (k / 64 + 1) * 2 ^ (64 - k % 64) % 18446744073709551616 < 18446744073709551616 := Nat.mod_lt _ (by decide)
        refine walkX ?_
        have e5 := (high_word hs).resolve_right (by omega)
        exact Sub.w [] [[(0,0)]]
      · refine walkX ?_
        have e5 := high_wordT hN (show 36 ≤ k / 64 + 1 by omega)
        exact Sub.w [] [[(0,0)]]
    · rw [h]
      have h := of_decide_eq_false h
      refine walkX ?_
      have e5 := high_word0 hs (show k % 64 = 0 by omega)
      exact Sub.w [] [[(0,0)]]
  have e0 := ws_len 36 (wd N)
  refine walkX ?_
  refine AWP.loop (fun i : Nat => [(1, .sc (.int .i64 (k : Int))), (6, .sc (.int .u64 (N / 2 ^ k : Nat))), (7, .ptr 0 0 0 0), (43, .sc (.int .i64 (i : Int)))]) (fun i => [[.cells 36 [ws 36 fun j => if j < i then wd (N % 2 ^ k) j else wd N j]]]) (fun i => i ≤ 36) (fun i => 36 - i) 0 (Nat.zero_le _) ?_ ?_
  · exact Sub.w [] [[(1,0)]]
  · intro i hi
    have hl := ws_len 36 fun j => if j < i then wd (N % 2 ^ k) j else wd N j
    refine walkX ?_
    refine AWP.condD rfl (fun h => ?_) (fun h => ?_)
    · have hg : (ws 36 fun j => if j < i then wd (N % 2 ^ k) j else wd N j)[i]? = some (.sc (.int .u64 (wd N i : Int))) := by rw [ws_get h, if_neg (Nat.lt_irrefl i)]
      have hwi := wd_lt' N i
      have hfin : ∀ v : Nat, v = wd (N % 2 ^ k) i → [ws 36 fun j => if j = i then v else if j < i then wd (N % 2 ^ k) j else wd N j] = [ws 36 fun j => if j < i + 1 then wd (N % 2 ^ k) j else wd N j] := by
        intro v hv
        congr 1
        refine ws_congr fun j hj => ?_
        by_cases e : j = i
        · rw [if_pos e, if_pos (by omega), hv, e]
        · rw [if_neg e]
          by_cases e2 : j < i
          · rw [if_pos e2, if_pos (by omega)]
          · rw [if_neg e2, if_neg (by omega)]
      refine walkX ?_
      · refine AWP.condD rfl (fun h2 => ?_) (fun h2 => ?_)
        · have hp1 : 1 ≤ 1 * 2 ^ (k % 64) % 18446744073709551616 := by
            rw [Nat.one_mul, Nat.mod_eq_of_lt (Nat.pow_lt_pow_right (a := 2) (n := 64) (by decide) (Nat.mod_lt _ (by decide)))]
            exact Nat.pow_pos (by decide)
          have hp2 : 1 * 2 ^ (k % 64) % 18446744073709551616 < 18446744073709551616 := Nat.mod_lt _ (by decide)
          have hp3 : 1 * 2 ^ (k % 64) % 18446744073709551616 - 1 < 18446744073709551616 := by omega
          refine walkX ?_
          refine DK.nil ⟨by kernel_rfl, ?_⟩
          refine walkX ?_
          refine ⟨i + 1, by omega, by omega, ?_⟩
          (apply Sub.to [] [[(0,0)]]; all_goals (repeat' (first | exact ToAll.nil | exact famsTo.nil | exact famTo.nil | exact ToL.nil | exact ToR.nil | refine ToAll.cons ?_ ?_ | refine famsTo.cons ?_ ?_ | refine wt10 ?_ ?_ | exact To.undef _ | exact To.sc _ | exact To.hslL rfl rfl | exact To.ptrO rfl rfl rfl | exact To.mrefO rfl | exact To.nil rfl rfl rfl | exact wt1 | exact To.nilL | refine To.int ?_ | refine To.bool ?_ | refine To.hslL rfl ?_ | refine wt2 rfl ?_ ?_ ?_ | refine To.tupL ?_ | refine To.aggL ?_ | refine To.cptrL ?_ | refine wt3 ?_ | refine wt4 ?_ | refine To.cloL ?_ ?_ | exact wt5 | refine wt6 ?_ | refine ToB.one ?_ | exact wt7 | ((with_reducible apply ToL.consE); case e9 => rfl) | refine wt8 ?_ | refine ToL.cons ?_ ?_ | exact wt11 | refine wt9 ?_ ?_ | refine wt12 ?_ | (with_reducible rfl) | assumption)); all_goals (first | rfl | assumption | (simp; done) | (simp; omega) | (rw [wrap_small (by omega) (by omega)]; done) | (rw [wrap_small (by omega) (by omega)]; omega) | (refine congrArg Nat.cast ?_; assumption) | skip))
          rw [ws_set]
          exact hfin _ (by rw [and_low _ _ (Nat.mod_lt _ (by decide)), wd_mod, if_neg (by omega), if_pos h2])
        · refine walkX ?_
          refine AWP.condD rfl (fun h3 => ?_) (fun h3 => ?_)
          · refine walkX ?_
            refine ⟨i + 1, by omega, by omega, ?_⟩
            (apply Sub.to [] [[(0,0)]]; all_goals (repeat' (first | exact ToAll.nil | exact famsTo.nil | exact famTo.nil | exact ToL.nil | exact ToR.nil | refine ToAll.cons ?_ ?_ | refine famsTo.cons ?_ ?_ | refine wt10 ?_ ?_ | exact To.undef _ | exact To.sc _ | exact To.hslL rfl rfl | exact To.ptrO rfl rfl rfl | exact To.mrefO rfl | exact To.nil rfl rfl rfl | exact wt1 | exact To.nilL | refine To.int ?_ | refine To.bool ?_ | refine To.hslL rfl ?_ | refine wt2 rfl ?_ ?_ ?_ | refine To.tupL ?_ | refine To.aggL ?_ | refine To.cptrL ?_ | refine wt3 ?_ | refine wt4 ?_ | refine To.cloL ?_ ?_ | exact wt5 | refine wt6 ?_ | refine ToB.one ?_ | exact wt7 | ((with_reducible apply ToL.consE); case e9 => rfl) | refine wt8 ?_ | refine ToL.cons ?_ ?_ | exact wt11 | refine wt9 ?_ ?_ | refine wt12 ?_ | (with_reducible rfl) | assumption)); all_goals (first | rfl | assumption | (simp; done) | (simp; omega) | (rw [wrap_small (by omega) (by omega)]; done) | (rw [wrap_small (by omega) (by omega)]; omega) | (refine congrArg Nat.cast ?_; assumption) | skip))
            rw [show (AV.sc (Value.int IntKind.u64 0)) = .sc (.int .u64 ((0 : Nat) : Int)) from rfl, ws_set]
            exact hfin _ (by rw [wd_mod, if_neg (by omega), if_neg h2])
          · refine walkX ?_
            refine ⟨i + 1, by omega, by omega, ?_⟩
            (apply Sub.to [] [[(0,0)]]; all_goals (repeat' (first | exact ToAll.nil | exact famsTo.nil | exact famTo.nil | exact ToL.nil | exact ToR.nil | refine ToAll.cons ?_ ?_ | refine famsTo.cons ?_ ?_ | refine wt10 ?_ ?_ | exact To.undef _ | exact To.sc _ | exact To.hslL rfl rfl | exact To.ptrO rfl rfl rfl | exact To.mrefO rfl | exact To.nil rfl rfl rfl | exact wt1 | exact To.nilL | refine To.int ?_ | refine To.bool ?_ | refine To.hslL rfl ?_ | refine wt2 rfl ?_ ?_ ?_ | refine To.tupL ?_ | refine To.aggL ?_ | refine To.cptrL ?_ | refine wt3 ?_ | refine wt4 ?_ | refine To.cloL ?_ ?_ | exact wt5 | refine wt6 ?_ | refine ToB.one ?_ | exact wt7 | ((with_reducible apply ToL.consE); case e9 => rfl) | refine wt8 ?_ | refine ToL.cons ?_ ?_ | exact wt11 | refine wt9 ?_ ?_ | refine wt12 ?_ | (with_reducible rfl) | assumption)); all_goals (first | rfl | assumption | (simp; done) | (simp; omega) | (rw [wrap_small (by omega) (by omega)]; done) | (rw [wrap_small (by omega) (by omega)]; omega) | (refine congrArg Nat.cast ?_; assumption) | skip))
            rw [← hfin _ rfl]
            congr 1
            refine ws_congr fun j hj => ?_
            by_cases e : j = i
            · rw [if_pos e, if_neg (by omega), e, wd_mod, if_pos (by omega)]
            · rw [if_neg e]
    · have hi36 : i = 36 := by omega
      subst hi36
      have hh := shifted_ok (m := 1) (k := k - 1) (by decide) (by omega)
      have he : (ws 36 fun j => if j < 36 then wd (N % 2 ^ k) j else wd N j) = ws 36 (wd (N % 2 ^ k)) := ws_congr fun j hj => if_pos hj
      rw [he]
      rw [Nat.one_mul] at hh
      have hA : N % 2 ^ k < 2 ^ 2304 := Nat.lt_of_le_of_lt (Nat.mod_le _ _) hN
      have hB : 2 ^ (k - 1) < 2 ^ 2304 := Nat.pow_lt_pow_right (by decide) (by omega)
      rw [if_neg h0]
      generalize N % 2 ^ k = A at hA
      generalize 2 ^ (k - 1) = B at hB hh
      refine walkX ?_
      have e7 : zrow [(36, Value.int IntKind.u64 0)] = ws 36 fun _ => 0 := by kernel_rfl
      have e8 := ws_len 36 (wd B)
      refine AWP.loop (fun i : Nat => [(6, .sc (.int .u64 (N / 2 ^ k : Nat))), (7, .ptr 0 0 0 0), (9, .ptr 1 0 0 0), (10, .sc (.int .i64 ((i : Int) - 1)))]) (fun i => [[.cells 36 [ws 36 (wd A)]], [.cells 36 [ws 36 (wd B)]]]) (fun i => i ≤ 36 ∧ A / 2 ^ (64 * i) = B / 2 ^ (64 * i)) (fun i => i) 36 ⟨Nat.le_refl _, ?_⟩ ?_ ?_
      · rw [Nat.div_eq_of_lt hA, Nat.div_eq_of_lt hB]
      · exact Sub.w [] [[(0,0)],[(1,0)]]
      · rintro i ⟨hi, hAB⟩
        cases i with
        | zero =>
          have hABe : A = B := by simp at hAB; exact hAB
          refine walkX ?_
          rw [show cmpN A B = 0 by unfold cmpN; rw [if_neg (by omega), if_neg (by omega)]]
          exact EndP.w
        | succ j =>
          rw [show ((j + 1 : Nat) : Int) - 1 = (j : Int) by omega]
          have ea := ws_get (f := wd A) (show j < 36 by omega)
          have eb := ws_get (f := wd B) (show j < 36 by omega)
          have sa := div_split A j
          have sb := div_split B j
          refine walkX ?_
          refine DK.nil ⟨by kernel_rfl, ?_⟩
          refine walkX ?_
          refine AWP.condD rfl (fun h2 => ?_) (fun h2 => ?_)
          · have hlt : A < B := lt_of_div (c := 2 ^ (64 * j)) (by omega)
            rw [show cmpN A B = -1 by unfold cmpN; rw [if_pos hlt]]
            refine walkX ?_
            exact EndP.w
          · refine walkX ?_
            refine DK.nil ⟨by kernel_rfl, ?_⟩
            refine walkX ?_
            refine AWP.condD rfl (fun h3 => ?_) (fun h3 => ?_)
            · have hlt : B < A := lt_of_div (c := 2 ^ (64 * j)) (by omega)
              rw [show cmpN A B = 1 by unfold cmpN; rw [if_neg (by omega), if_pos hlt]]
              refine walkX ?_
              exact EndP.w
            · refine walkX ?_
              refine ⟨j, ⟨by omega, by omega⟩, by omega, ?_⟩
              exact Sub.w [] [[(0,0)],[(1,0)]]

end Go.Proofs.Ytnngbbiajioghaa
namespace Go.Proofs.Ytnngbbiajioghaa
open Go.Av Go.Proofs
set_option exponentiation.threshold 3000

def infN : Nat := 9218868437227405312
def nanN : Nat := 9221120237041090560
def signN : Nat := 9223372036854775808
def expN : Nat := 4503599627370496

/-- The bits of the real number nearest to a number times 2^-1074. -/
def roundN (N : Nat) : Nat :=
  if 2045 < blen N - 53 then infN
  else
    let k := blen N - 53
    let c := if k = 0 then -1 else cmpN (N % 2 ^ k) (2 ^ (k - 1))
    min infN (k * expN + if 0 < c ∨ (c = 0 ∧ N / 2 ^ k % 2 = 1) then N / 2 ^ k + 1 else N / 2 ^ k)

theorem blen_lt (N : Nat) : N < 2 ^ blen N := by
  unfold blen
  split
  · rename_i h; subst h; decide
  · exact Nat.lt_log2_self

theorem hi_lt (N : Nat) : N / 2 ^ (blen N - 53) < 9007199254740992 := by
  rw [Nat.div_lt_iff_lt_mul (Nat.pow_pos (by decide)), show 9007199254740992 = 2 ^ 53 from rfl, ← Nat.pow_add]
  exact Nat.lt_of_lt_of_le (blen_lt N) (Nat.pow_le_pow_right (by decide) (by omega))

theorem isnan_ok {b : Nat} (hb : b < 18446744073709551616) : PureRun Try.prog 52 [.sc (.int .u64 (b : Int))] (.sc (.bool (decide (infN < b &&& 9223372036854775807)))) := by
  refine PureRun.mkI cF52 (Nat.le_of_ble_eq_true rfl) ?_
  refine walkX ?_
  exact EndP.w

theorem rounded_ok {N : Nat} (hN : N < 2 ^ 2304) : PureRun Try.prog 65 [.agg (ws 36 (wd N))] (.sc (.int .u64 (roundN N : Nat))) := by
  refine PureRun.mkI cF65 (Nat.le_of_ble_eq_true rfl) ?_
  have hlen := length_ok hN
  have hbl := blen_le hN
  have hhi := hi_lt N
  have hhigh := fun h => high_ok (N := N) (k := blen N - 53) hN h (by omega)
  unfold roundN
  generalize blen N = n at *
  have e0 := ws_len 36 (wd N)
  refine AWP.seq ?_
  refine AWP.region ?_
  refine walkR ?_
  refine AWP.seq ?_
  refine AWP.joinT0 [(1, .ptr 0 0 0 0), (3, .sc (.int .i64 ((n - 53 : Nat) : Int)))] [[.cells 36 [ws 36 (wd N)]]] ?_ ?_
  · by_cases h : 53 ≤ n
    · refine walkX ?_
      exact Sub.w [] [[(0,0)]]
    · refine walkX ?_
      exact Sub.w [] [[(0,0)]]
  refine walkX ?_
  refine AWP.condD rfl (fun h => ?_) (fun h => ?_)
  · rw [if_pos h]
    refine walkX ?_
    exact EndP.w
  rw [if_neg h]
  refine AWP.skip ?_
  have hh := hhigh (by omega)
  clear hhigh hN hlen e0
  have hk : n - 53 ≤ 2045 := by omega
  generalize n - 53 = k at *
  show AWP _ _ _ _ (EndP _ (.sc (.int .u64 ((min infN (k * expN + if 0 < (if k = 0 then -1 else cmpN (N % 2 ^ k) (2 ^ (k - 1)) : Int) ∨ ((if k = 0 then -1 else cmpN (N % 2 ^ k) (2 ^ (k - 1)) : Int) = 0 ∧ N / 2 ^ k % 2 = 1) then N / 2 ^ k + 1 else N / 2 ^ k) : Nat) : Int)))) _ _
  generalize (if k = 0 then -1 else cmpN (N % 2 ^ k) (2 ^ (k - 1)) : Int) = c at *
  generalize N / 2 ^ k = m at *
  refine AWP.seq ?_
  refine AWP.region ?_
  refine walkR ?_
  refine AWP.seq ?_
  refine AWP.joinT (fun q : Nat => [(3, .sc (.int .i64 (k : Int))), (4, .sc (.int .u64 (q : Int)))]) (fun _ => []) (fun q => q = if 0 < c ∨ (c = 0 ∧ m % 2 = 1) then m + 1 else m) ?_ ?_
  · refine walkX ?_
    refine Reg.gs rfl (fun h1 => ?_) (fun h1 => ?_)
    · rw [h1]
      have h1 : 0 < c := by simpa using h1
      refine walkX ?_
      refine ⟨_, (if_pos (.inl h1)).symm, ?_⟩
      exact Sub.w [] []
    · rw [h1]
      have h1 : ¬ 0 < c := by simpa using h1
      refine walkX ?_
      refine Reg.gs rfl (fun h2 => ?_) (fun h2 => ?_)
      · rw [h2]
        have h2 : c = 0 := by simpa using h2
        refine walkX ?_
        refine AWP.condD rfl (fun h3 => ?_) (fun h3 => ?_)
        · refine walkX ?_
          refine ⟨_, (if_pos (.inr ⟨h2, h3⟩)).symm, ?_⟩
          exact Sub.w [] []
        · refine walkX ?_
          refine ⟨_, (if_neg (fun h => h.elim h1 fun h => h3 h.2)).symm, ?_⟩
          exact Sub.w [] []
      · rw [h2]
        have h2 : ¬ c = 0 := by simpa using h2
        refine walkX ?_
        refine ⟨_, (if_neg (fun h => h.elim h1 fun h => h2 h.1)).symm, ?_⟩
        exact Sub.w [] []
  · intro q hq
    rw [← hq]
    have hq2 : q ≤ 9007199254740993 := by rw [hq]; split <;> omega
    refine walkX ?_
    refine EndP.mk (.inr rfl) rfl ?_ (To.sc _)
    refine congrArg (fun z => AV.sc (Value.int .u64 z)) ?_
    unfold infN expN
    clear hq hhi
    omega

end Go.Proofs.Ytnngbbiajioghaa
namespace Go.Proofs.Ytnngbbiajioghaa
open Go.Av Go.Proofs
set_option exponentiation.threshold 3000

/-! What a sum knows, in memory. -/

structure St where
  n : Nat
  nan : Bool
  plus : Bool
  minus : Bool
  zero : Nat

def St.tl (s : St) : List AV := [.sc (.bool s.nan), .sc (.bool s.plus), .sc (.bool s.minus), .sc (.int .i64 (s.zero : Int))]
def St.row (s : St) : List AV := ws 36 (wd s.n) ++ s.tl
def St.acc (m : Bool) (s : St) : List AV := .sc (.bool m) :: s.row
def s0 : St := ⟨0, false, false, false, 0⟩

theorem St.row_len (s : St) : s.row.length = 40 := by simp [St.row, St.tl, ws_len]
theorem St.acc_len (m : Bool) (s : St) : (s.acc m).length = 41 := by simp [St.acc, St.row_len]
theorem St.row_pure (s : St) : ∀ c ∈ s.row, Pure c := allPure_append (pure_ws _ _) (allPure_cons (.sc _) (allPure_cons (.sc _) (allPure_cons (.sc _) (allPure_cons (.sc _) allPure_nil))))
theorem St.acc_pure (m : Bool) (s : St) : ∀ c ∈ s.acc m, Pure c := allPure_cons (.sc _) s.row_pure
instance (s : St) : PR s.row := ⟨s.row_pure⟩
instance (m : Bool) (s : St) : PR (s.acc m) := ⟨s.acc_pure m⟩
theorem St.row_cell1 (s : St) : s.row.all AV.cell1 = true := by
  unfold St.row
  rw [List.all_append, ws_cell1]
  rfl
theorem St.acc_cell1 (m : Bool) (s : St) : (s.acc m).all AV.cell1 = true := by
  unfold St.acc
  rw [List.all_cons, s.row_cell1]
  rfl

/-- A part of a row. -/
structure Part (l : List AV) (o n : Nat) (m : List AV) : Prop where
  eq : ∃ t, l.drop o = m ++ t
  len : m.length = n
theorem part_n (s : St) : Part s.row 0 36 (ws 36 (wd s.n)) := ⟨⟨s.tl, rfl⟩, ws_len _ _⟩
theorem part_s (s : St) : Part s.row 0 40 s.row := ⟨⟨[], by rw [List.append_nil]; rfl⟩, s.row_len⟩
theorem part_an (m : Bool) (s : St) : Part (s.acc m) 1 36 (ws 36 (wd s.n)) := ⟨⟨s.tl, rfl⟩, ws_len _ _⟩
theorem part_as (m : Bool) (s : St) : Part (s.acc m) 1 40 s.row := ⟨⟨[], by rw [List.append_nil]; rfl⟩, s.row_len⟩
theorem part_a (m : Bool) (s : St) : Part (s.acc m) 0 41 (s.acc m) := ⟨⟨[], by rw [List.append_nil]; rfl⟩, s.acc_len m⟩
theorem part_ds (m : Bool) (s : St) : Part ((s.acc m).drop 1) 0 40 s.row := ⟨⟨[], by rw [List.append_nil]; rfl⟩, s.row_len⟩
theorem part_dn (m : Bool) (s : St) : Part (((s.acc m).drop 1).drop 0) 0 36 (ws 36 (wd s.n)) := ⟨⟨s.tl, rfl⟩, ws_len _ _⟩

/-- Cells laid into a row. -/
structure Spl (l : List AV) (o : Nat) (cs l' : List AV) : Prop where
  eq : lsplice l o cs = l'
  len : o + cs.length ≤ l.length
  one : cs.all AV.cell1 = true
theorem lsplice_head (c : List AV) : ∀ b d : List AV, b.length = d.length → lsplice (b ++ c) 0 d = d ++ c
  | [], [], _ => by simp [lsplice_nil]
  | x :: b, y :: d, h => by
    show y :: lsplice (b ++ c) 0 d = _
    rw [lsplice_head c b d (by simpa using h)]
    rfl
theorem lsplice_mid (b c d : List AV) (h : b.length = d.length) : ∀ a : List AV, lsplice (a ++ (b ++ c)) a.length d = a ++ (d ++ c)
  | [] => lsplice_head c b d h
  | x :: a => by
    show x :: lsplice (a ++ (b ++ c)) a.length d = _
    rw [lsplice_mid b c d h a]
    rfl
theorem spl_mid {a b c d : List AV} {o : Nat} (ho : a.length = o) (h : b.length = d.length) (h1 : d.all AV.cell1 = true) : Spl (a ++ (b ++ c)) o d (a ++ (d ++ c)) := by
  subst ho
  exact ⟨lsplice_mid b c d h a, by simp; omega, h1⟩
theorem spl_n (s : St) (N : Nat) : Spl s.row 0 (ws 36 (wd N)) (St.mk N s.nan s.plus s.minus s.zero).row := spl_mid (a := []) (b := ws 36 (wd s.n)) (c := s.tl) rfl (by rw [ws_len, ws_len]) (ws_cell1 _ _)
theorem spl_nan (s : St) (b : Bool) : Spl s.row 36 [.sc (.bool b)] (St.mk s.n b s.plus s.minus s.zero).row :=
  spl_mid (a := ws 36 (wd s.n)) (b := [.sc (.bool s.nan)]) (c := [.sc (.bool s.plus), .sc (.bool s.minus), .sc (.int .i64 (s.zero : Int))]) (ws_len _ _) rfl rfl
theorem spl_plus (s : St) (b : Bool) : Spl s.row 37 [.sc (.bool b)] (St.mk s.n s.nan b s.minus s.zero).row := by
  have := spl_mid (a := ws 36 (wd s.n) ++ [.sc (.bool s.nan)]) (b := [.sc (.bool s.plus)]) (c := [.sc (.bool s.minus), .sc (.int .i64 (s.zero : Int))]) (d := [.sc (.bool b)]) (o := 37) (by simp [ws_len]) rfl rfl
  simpa [St.row, St.tl] using this
theorem spl_minus (s : St) (b : Bool) : Spl s.row 38 [.sc (.bool b)] (St.mk s.n s.nan s.plus b s.zero).row := by
  have := spl_mid (a := ws 36 (wd s.n) ++ [.sc (.bool s.nan), .sc (.bool s.plus)]) (b := [.sc (.bool s.minus)]) (c := [.sc (.int .i64 (s.zero : Int))]) (d := [.sc (.bool b)]) (o := 38) (by simp [ws_len]) rfl rfl
  simpa [St.row, St.tl] using this
theorem spl_zero (s : St) (z : Nat) : Spl s.row 39 [.sc (.int .i64 (z : Int))] (St.mk s.n s.nan s.plus s.minus z).row := by
  have := spl_mid (a := ws 36 (wd s.n) ++ [.sc (.bool s.nan), .sc (.bool s.plus), .sc (.bool s.minus)]) (b := [.sc (.int .i64 (s.zero : Int))]) (c := []) (d := [.sc (.int .i64 (z : Int))]) (o := 39) (by simp [ws_len]) rfl rfl
  simpa [St.row, St.tl] using this
theorem spl_all {l m : List AV} (h : m.length = l.length) (h1 : m.all AV.cell1 = true) : Spl l 0 m m := ⟨lsplice_all _ _ h, by omega, h1⟩
theorem spl_s (s s' : St) : Spl s.row 0 s'.row s'.row := spl_all (by rw [St.row_len, St.row_len]) s'.row_cell1
theorem spl_a (m m' : Bool) (s s' : St) : Spl (s.acc m) 0 (s'.acc m') (s'.acc m') := spl_all (by rw [St.acc_len, St.acc_len]) (s'.acc_cell1 m')
theorem spl_cons {x : AV} {l cs l' : List AV} {o : Nat} (h : Spl l o cs l') : Spl (x :: l) (o + 1) cs (x :: l') := by
  refine ⟨?_, by simp; have := h.len; omega, h.one⟩
  rw [← h.eq]
  cases cs with
  | nil => rw [lsplice_nil, lsplice_nil]
  | cons y cs => rfl
theorem spl_as (m : Bool) (s s' : St) : Spl (s.acc m) 1 s'.row (s'.acc m) := spl_cons (spl_s s s')
theorem spl_an (m : Bool) (s : St) (N : Nat) : Spl (s.acc m) 1 (ws 36 (wd N)) (St.acc m (St.mk N s.nan s.plus s.minus s.zero)) := spl_cons (spl_n s N)
theorem spl_anan (m : Bool) (s : St) (b : Bool) : Spl (s.acc m) 37 [.sc (.bool b)] ((St.mk s.n b s.plus s.minus s.zero).acc m) := spl_cons (spl_nan s b)
theorem spl_aplus (m : Bool) (s : St) (b : Bool) : Spl (s.acc m) 38 [.sc (.bool b)] ((St.mk s.n s.nan b s.minus s.zero).acc m) := spl_cons (spl_plus s b)
theorem spl_aminus (m : Bool) (s : St) (b : Bool) : Spl (s.acc m) 39 [.sc (.bool b)] ((St.mk s.n s.nan s.plus b s.zero).acc m) := spl_cons (spl_minus s b)
theorem spl_azero (m : Bool) (s : St) (z : Nat) : Spl (s.acc m) 40 [.sc (.int .i64 (z : Int))] ((St.mk s.n s.nan s.plus s.minus z).acc m) := spl_cons (spl_zero s z)

theorem spl_zw (f : Nat → Nat) : Spl (zrow [(36, .int .u64 0)]) 0 (ws 36 f) (ws 36 f) := spl_all (by rw [ws_len]; rfl) (ws_cell1 _ _)
theorem dstep_ldP {g i : Nat} {fr : Fr} {H : Heap} {sz : Nat} {a : Operand} {g' i' row off s : Nat} {rows : List (List AV)} {r m : List AV} (ha : ev fr a = .ptr g' i' row off) (hh : hget H g' i' = some (.cells s rows)) (hr : rows[row]? = some r) (hp : Part r off sz m) :
    dstep g i (.load sz true a) fr H = some (.agg m, H) := by
  obtain ⟨⟨t, h1⟩, rfl⟩ := hp
  have e : Nat.ble m.length (m ++ t).length = true := Nat.ble_eq_true_of_le (by simp)
  simp only [dstep, ha, hh, hr, h1, ldAV, e, List.take_left]
theorem dstep_ldC {g i : Nat} {fr : Fr} {H : Heap} {sz : Nat} {a : Operand} {r m : List AV} (ha : ev fr a = .cptr r) (hp : Part r 0 sz m) : dstep g i (.load sz true a) fr H = some (.agg m, H) := by
  obtain ⟨⟨t, h1⟩, rfl⟩ := hp
  have e : Nat.ble m.length (m ++ t).length = true := Nat.ble_eq_true_of_le (by simp)
  rw [List.drop_zero] at h1
  simp only [dstep, ha, h1, ldAV, e, List.take_left]
theorem dstep_stP {g i : Nat} {fr : Fr} {H : Heap} {sz : Nat} {a x : Operand} {g' i' row off s : Nat} {rows : List (List AV)} {r cs r' : List AV} (ha : ev fr a = .ptr g' i' row off) (hx : (ev fr x).cs = some cs) (hh : hget H g' i' = some (.cells s rows)) (hr : rows[row]? = some r)
    (hl : cs.length = sz) (hp : Spl r off cs r') : dstep g i (.store sz a x) fr H = some (.undef, hset H g' i' (.cells s (rows.set row r'))) := by
  obtain ⟨rfl, h2, h3⟩ := hp
  subst hl
  have e1 : Nat.beq cs.length cs.length = true := by simp
  have e2 : Nat.ble (off + cs.length) r.length = true := Nat.ble_eq_true_of_le h2
  simp only [dstep, ha, hx, hh, hr, e1, e2, h3, Bool.and_self]

theorem z40 : zrow [(36, .int .u64 0), (3, .bool false), (1, .int .i64 0)] = s0.row := by kernel_rfl
theorem z41 : zrow [(1, .bool false), (36, .int .u64 0), (3, .bool false), (1, .int .i64 0)] = s0.acc false := by kernel_rfl
theorem dstep_al40 {g i : Nat} {fr : Fr} {H : Heap} : dstep g i (.alloc [(36, .int .u64 0), (3, .bool false), (1, .int .i64 0)]) fr H = some (.ptr g i 0 0, hset H g i (.cells 40 [s0.row])) := by
  simp only [dstep, z40, s0.row_len]
theorem dstep_al41 {g i : Nat} {fr : Fr} {H : Heap} : dstep g i (.alloc [(1, .bool false), (36, .int .u64 0), (3, .bool false), (1, .int .i64 0)]) fr H = some (.ptr g i 0 0, hset H g i (.cells 41 [s0.acc false])) := by
  simp only [dstep, z41, s0.acc_len]
theorem lay_step {r c r' : List AV} {off sz : Nat} {v : AV} {q : List (Nat × Nat × AV)} (hv : v.cs = some c) (hl : c.length = sz) (hs : Spl r off c r') : lay r ((off, sz, v) :: q) = lay r' q := by
  obtain ⟨rfl, h2, _⟩ := hs
  subst hl
  have e1 : Nat.beq c.length c.length = true := by simp
  have e2 : Nat.ble (off + c.length) r.length = true := Nat.ble_eq_true_of_le h2
  simp only [lay, hv, e1, e2, Bool.and_self]
theorem dstep_bz {g i : Nat} {fr : Fr} {H : Heap} {x : Operand} {z : Nat} (hx : ev fr x = .sc (.int .i64 (z : Int))) : dstep g i (.build [(36, .int .u64 0), (3, .bool false), (1, .int .i64 0)] [(39, 1, x)]) fr H = some (.agg (St.row (St.mk 0 false false false z)), H) := by
  simp only [dstep, List.map_cons, List.map_nil, hx, z40]
  rw [lay_step (sz := 1) (r := s0.row) rfl rfl (spl_zero s0 z)]
  rfl
theorem dstep_b1 {g i : Nat} {fr : Fr} {H : Heap} {x : Operand} {b : Bool} (hx : ev fr x = .sc (.bool b)) : dstep g i (.build [(1, .bool false), (36, .int .u64 0), (3, .bool false), (1, .int .i64 0)] [(0, 1, x)]) fr H = some (.agg (s0.acc b), H) := by
  simp only [dstep, List.map_cons, List.map_nil, hx, z41]
  rw [lay_step (sz := 1) (r := s0.acc false) (c := [.sc (.bool b)]) (r' := s0.acc b) rfl rfl ⟨by simp [St.acc, lsplice, lsplice_nil], by simp [St.acc_len], rfl⟩]
  rfl
theorem dstep_b5 {g i : Nat} {fr : Fr} {H : Heap} {x1 x2 x3 x4 x5 : Operand} {N z : Nat} {a b c : Bool} (h1 : ev fr x1 = .agg (ws 36 (wd N))) (h2 : ev fr x2 = .sc (.bool a)) (h3 : ev fr x3 = .sc (.bool b)) (h4 : ev fr x4 = .sc (.bool c)) (h5 : ev fr x5 = .sc (.int .i64 (z : Int))) :
    dstep g i (.build [(36, .int .u64 0), (3, .bool false), (1, .int .i64 0)] [(0, 36, x1), (36, 1, x2), (37, 1, x3), (38, 1, x4), (39, 1, x5)]) fr H = some (.agg (St.row ⟨N, a, b, c, z⟩), H) := by
  simp only [dstep, List.map_cons, List.map_nil, h1, h2, h3, h4, h5, z40]
  rw [lay_step (r := s0.row) rfl (ws_len _ _) (spl_n s0 N), lay_step (sz := 1) rfl rfl (spl_nan _ a), lay_step (sz := 1) rfl rfl (spl_plus _ b), lay_step (sz := 1) rfl rfl (spl_minus _ c), lay_step (sz := 1) rfl rfl (spl_zero _ z)]
  rfl
theorem dstep_bx {g i : Nat} {fr : Fr} {H : Heap} {x : Operand} {cs : List AV} (hx : ev fr x = .agg cs) (h1 : cs.all AV.cell1 = true) {n : Nat} (hn : cs.length = n) : dstep g i (.box x) fr H = some (.ptr g i 0 0, hset H g i (.cells n [cs])) := by
  subst hn
  simp only [dstep, hx, AV.cs, h1]

section
variable {P : Program} {N k : Nat} {xs : List IOper} {fr : Fr} {H : Heap} {K : Fr → Heap → Prop} {d : Nat} {gd : Option (Nat × Bool)}
theorem su1 {sz : Nat} {a : Operand} {g' i' row off s : Nat} {rows : List (List AV)} {r m : List AV} (h : Reg P N k xs ((d, (.agg m)) :: fr) H K) (hg : gok fr gd = some true := by rfl) (ha : ev fr a = .ptr g' i' row off := by rfl) (hh : hget H g' i' = some (.cells s rows) := by rfl) (hr : rows[row]? = some r := by first | rfl | assumption) (hp : Part r off sz m := by first | exact part_s _ | exact part_n _ | exact part_as _ _ | exact part_an _ _ | exact part_a _ _) : Reg P N k (⟨some d, gd, .op (.load sz true a)⟩ :: xs) fr H K := .o hg (dstep_ldP ha hh hr hp) h
theorem su2 {sz : Nat} {a : Operand} {r m : List AV} (h : Reg P N k xs ((d, (.agg m)) :: fr) H K) (hg : gok fr gd = some true := by rfl) (ha : ev fr a = .cptr r := by rfl) (hp : Part r 0 sz m := by first | exact part_ds _ _ | exact part_dn _ _ | exact part_a _ _ | exact part_s _) : Reg P N k (⟨some d, gd, .op (.load sz true a)⟩ :: xs) fr H K := .o hg (dstep_ldC ha hp) h
theorem su3 {sz : Nat} {a x : Operand} {g' i' row off s : Nat} {rows : List (List AV)} {r cs r' : List AV} (h : Reg P N k xs fr (hset H g' i' (.cells s (rows.set row r'))) K) (hg : gok fr gd = some true := by rfl) (ha : ev fr a = .ptr g' i' row off := by rfl) (hx : (ev fr x).cs = some cs := by rfl) (hh : hget H g' i' = some (.cells s rows) := by rfl) (hr : rows[row]? = some r := by first | rfl | assumption) (hl : cs.length = sz := by first | rfl | exact ws_len _ _ | exact St.row_len _ | exact St.acc_len _ _) (hp : Spl r off cs r' := by first | exact spl_s _ _ | exact spl_as _ _ _ | exact spl_a _ _ _ _ | exact spl_zw _ | exact spl_n _ _ | exact spl_nan _ _ | exact spl_plus _ _ | exact spl_minus _ _ | exact spl_zero _ _ | exact spl_an _ _ _ | exact spl_anan _ _ _ | exact spl_aplus _ _ _ | exact spl_aminus _ _ _ | exact spl_azero _ _ _) : Reg P N k (⟨none, gd, .op (.store sz a x)⟩ :: xs) fr H K := .on hg (dstep_stP ha hx hh hr hl hp) h
theorem su4  (h : Reg P N k xs ((d, (.ptr H.length 0 0 0)) :: fr) (hset H H.length 0 (.cells 40 [s0.row])) K) (hg : gok fr gd = some true := by rfl)  : Reg P N k (⟨some d, gd, .op (.alloc [(36, .int .u64 0), (3, .bool false), (1, .int .i64 0)])⟩ :: xs) fr H K := .o hg (dstep_al40) h
theorem su5  (h : Reg P N k xs ((d, (.ptr H.length 0 0 0)) :: fr) (hset H H.length 0 (.cells 41 [s0.acc false])) K) (hg : gok fr gd = some true := by rfl)  : Reg P N k (⟨some d, gd, .op (.alloc [(1, .bool false), (36, .int .u64 0), (3, .bool false), (1, .int .i64 0)])⟩ :: xs) fr H K := .o hg (dstep_al41) h
theorem su6 {x : Operand} {z : Nat} {nz : Int} (h : Reg P N k xs ((d, (.agg (St.row (St.mk 0 false false false z)))) :: fr) H K) (hg : gok fr gd = some true := by rfl) (hx : ev fr x = .sc (.int .i64 nz) := by rfl) (hz : nz = (z : Int) := by first | with_reducible rfl | exact natlit _) : Reg P N k (⟨some d, gd, .op (.build [(36, .int .u64 0), (3, .bool false), (1, .int .i64 0)] [(39, 1, x)])⟩ :: xs) fr H K := .o hg (dstep_bz (by rw [hx, hz])) h
theorem su7 {x : Operand} {b : Bool} (h : Reg P N k xs ((d, (.agg (s0.acc b))) :: fr) H K) (hg : gok fr gd = some true := by rfl) (hx : ev fr x = .sc (.bool b) := by rfl) : Reg P N k (⟨some d, gd, .op (.build [(1, .bool false), (36, .int .u64 0), (3, .bool false), (1, .int .i64 0)] [(0, 1, x)])⟩ :: xs) fr H K := .o hg (dstep_b1 hx) h
theorem su8 {x1 x2 x3 x4 x5 : Operand} {n z : Nat} {a b c : Bool} (h : Reg P N k xs ((d, (.agg (St.row ⟨n, a, b, c, z⟩))) :: fr) H K) (hg : gok fr gd = some true := by rfl) (h1 : ev fr x1 = .agg (ws 36 (wd n)) := by rfl) (h2 : ev fr x2 = .sc (.bool a) := by rfl) (h3 : ev fr x3 = .sc (.bool b) := by rfl) (h4 : ev fr x4 = .sc (.bool c) := by rfl) (h5 : ev fr x5 = .sc (.int .i64 (z : Int)) := by rfl) : Reg P N k (⟨some d, gd, .op (.build [(36, .int .u64 0), (3, .bool false), (1, .int .i64 0)] [(0, 36, x1), (36, 1, x2), (37, 1, x3), (38, 1, x4), (39, 1, x5)])⟩ :: xs) fr H K := .o hg (dstep_b5 h1 h2 h3 h4 h5) h
theorem su9 {x : Operand} {cs : List AV} {n : Nat} (h : Reg P N k xs ((d, (.ptr H.length 0 0 0)) :: fr) (hset H H.length 0 (.cells n [cs])) K) (hg : gok fr gd = some true := by rfl) (hx : ev fr x = .agg cs := by rfl) (h1 : cs.all AV.cell1 = true := by first | exact St.row_cell1 _ | exact St.acc_cell1 _ _ | exact ws_cell1 _ _) (hn : cs.length = n := by first | exact St.row_len _ | exact St.acc_len _ _ | exact ws_len _ _) : Reg P N k (⟨some d, gd, .op (.box x)⟩ :: xs) fr H K := .o hg (dstep_bx hx h1 hn) h
variable {base j : Nat} {acc : List RRec} {KD : List RRec → Fr → Heap → Prop}
theorem sd1 {sz : Nat} {a : Operand} {g' i' row off s : Nat} {rows : List (List AV)} {r m : List AV} (h : DK P base (j + 1) xs ((d, (.agg m)) :: fr) H (⟨⟨some d, gd, .op (.load sz true a)⟩, (base, j), (.agg m), drd fr (.load sz true a), dwr base j fr (.load sz true a)⟩ :: acc) KD) (hg : gok fr gd = some true := by rfl) (ha : ev fr a = .ptr g' i' row off := by rfl) (hh : hget H g' i' = some (.cells s rows) := by rfl) (hr : rows[row]? = some r := by first | rfl | assumption) (hp : Part r off sz m := by first | exact part_s _ | exact part_n _ | exact part_as _ _ | exact part_an _ _ | exact part_a _ _) : DK P base j (⟨some d, gd, .op (.load sz true a)⟩ :: xs) fr H acc KD := .o hg (dstep_ldP ha hh hr hp) h
theorem sd2 {sz : Nat} {a : Operand} {r m : List AV} (h : DK P base (j + 1) xs ((d, (.agg m)) :: fr) H (⟨⟨some d, gd, .op (.load sz true a)⟩, (base, j), (.agg m), drd fr (.load sz true a), dwr base j fr (.load sz true a)⟩ :: acc) KD) (hg : gok fr gd = some true := by rfl) (ha : ev fr a = .cptr r := by rfl) (hp : Part r 0 sz m := by first | exact part_ds _ _ | exact part_dn _ _ | exact part_a _ _ | exact part_s _) : DK P base j (⟨some d, gd, .op (.load sz true a)⟩ :: xs) fr H acc KD := .o hg (dstep_ldC ha hp) h
theorem sd3 {sz : Nat} {a x : Operand} {g' i' row off s : Nat} {rows : List (List AV)} {r cs r' : List AV} (h : DK P base (j + 1) xs fr (hset H g' i' (.cells s (rows.set row r'))) (⟨⟨none, gd, .op (.store sz a x)⟩, (base, j), .undef, drd fr (.store sz a x), dwr base j fr (.store sz a x)⟩ :: acc) KD) (hg : gok fr gd = some true := by rfl) (ha : ev fr a = .ptr g' i' row off := by rfl) (hx : (ev fr x).cs = some cs := by rfl) (hh : hget H g' i' = some (.cells s rows) := by rfl) (hr : rows[row]? = some r := by first | rfl | assumption) (hl : cs.length = sz := by first | rfl | exact ws_len _ _ | exact St.row_len _ | exact St.acc_len _ _) (hp : Spl r off cs r' := by first | exact spl_s _ _ | exact spl_as _ _ _ | exact spl_a _ _ _ _ | exact spl_zw _ | exact spl_n _ _ | exact spl_nan _ _ | exact spl_plus _ _ | exact spl_minus _ _ | exact spl_zero _ _ | exact spl_an _ _ _ | exact spl_anan _ _ _ | exact spl_aplus _ _ _ | exact spl_aminus _ _ _ | exact spl_azero _ _ _) : DK P base j (⟨none, gd, .op (.store sz a x)⟩ :: xs) fr H acc KD := .on hg (dstep_stP ha hx hh hr hl hp) h
theorem sd4  (h : DK P base (j + 1) xs ((d, (.ptr base j 0 0)) :: fr) (hset H base j (.cells 40 [s0.row])) (⟨⟨some d, gd, .op (.alloc [(36, .int .u64 0), (3, .bool false), (1, .int .i64 0)])⟩, (base, j), (.ptr base j 0 0), drd fr (.alloc [(36, .int .u64 0), (3, .bool false), (1, .int .i64 0)]), dwr base j fr (.alloc [(36, .int .u64 0), (3, .bool false), (1, .int .i64 0)])⟩ :: acc) KD) (hg : gok fr gd = some true := by rfl)  : DK P base j (⟨some d, gd, .op (.alloc [(36, .int .u64 0), (3, .bool false), (1, .int .i64 0)])⟩ :: xs) fr H acc KD := .o hg (dstep_al40) h
theorem sd5  (h : DK P base (j + 1) xs ((d, (.ptr base j 0 0)) :: fr) (hset H base j (.cells 41 [s0.acc false])) (⟨⟨some d, gd, .op (.alloc [(1, .bool false), (36, .int .u64 0), (3, .bool false), (1, .int .i64 0)])⟩, (base, j), (.ptr base j 0 0), drd fr (.alloc [(1, .bool false), (36, .int .u64 0), (3, .bool false), (1, .int .i64 0)]), dwr base j fr (.alloc [(1, .bool false), (36, .int .u64 0), (3, .bool false), (1, .int .i64 0)])⟩ :: acc) KD) (hg : gok fr gd = some true := by rfl)  : DK P base j (⟨some d, gd, .op (.alloc [(1, .bool false), (36, .int .u64 0), (3, .bool false), (1, .int .i64 0)])⟩ :: xs) fr H acc KD := .o hg (dstep_al41) h
theorem sd6 {x : Operand} {z : Nat} {nz : Int} (h : DK P base (j + 1) xs ((d, (.agg (St.row (St.mk 0 false false false z)))) :: fr) H (⟨⟨some d, gd, .op (.build [(36, .int .u64 0), (3, .bool false), (1, .int .i64 0)] [(39, 1, x)])⟩, (base, j), (.agg (St.row (St.mk 0 false false false z))), drd fr (.build [(36, .int .u64 0), (3, .bool false), (1, .int .i64 0)] [(39, 1, x)]), dwr base j fr (.build [(36, .int .u64 0), (3, .bool false), (1, .int .i64 0)] [(39, 1, x)])⟩ :: acc) KD) (hg : gok fr gd = some true := by rfl) (hx : ev fr x = .sc (.int .i64 nz) := by rfl) (hz : nz = (z : Int) := by first | with_reducible rfl | exact natlit _) : DK P base j (⟨some d, gd, .op (.build [(36, .int .u64 0), (3, .bool false), (1, .int .i64 0)] [(39, 1, x)])⟩ :: xs) fr H acc KD := .o hg (dstep_bz (by rw [hx, hz])) h
theorem sd7 {x : Operand} {b : Bool} (h : DK P base (j + 1) xs ((d, (.agg (s0.acc b))) :: fr) H (⟨⟨some d, gd, .op (.build [(1, .bool false), (36, .int .u64 0), (3, .bool false), (1, .int .i64 0)] [(0, 1, x)])⟩, (base, j), (.agg (s0.acc b)), drd fr (.build [(1, .bool false), (36, .int .u64 0), (3, .bool false), (1, .int .i64 0)] [(0, 1, x)]), dwr base j fr (.build [(1, .bool false), (36, .int .u64 0), (3, .bool false), (1, .int .i64 0)] [(0, 1, x)])⟩ :: acc) KD) (hg : gok fr gd = some true := by rfl) (hx : ev fr x = .sc (.bool b) := by rfl) : DK P base j (⟨some d, gd, .op (.build [(1, .bool false), (36, .int .u64 0), (3, .bool false), (1, .int .i64 0)] [(0, 1, x)])⟩ :: xs) fr H acc KD := .o hg (dstep_b1 hx) h
theorem sd8 {x1 x2 x3 x4 x5 : Operand} {n z : Nat} {a b c : Bool} (h : DK P base (j + 1) xs ((d, (.agg (St.row ⟨n, a, b, c, z⟩))) :: fr) H (⟨⟨some d, gd, .op (.build [(36, .int .u64 0), (3, .bool false), (1, .int .i64 0)] [(0, 36, x1), (36, 1, x2), (37, 1, x3), (38, 1, x4), (39, 1, x5)])⟩, (base, j), (.agg (St.row ⟨n, a, b, c, z⟩)), drd fr (.build [(36, .int .u64 0), (3, .bool false), (1, .int .i64 0)] [(0, 36, x1), (36, 1, x2), (37, 1, x3), (38, 1, x4), (39, 1, x5)]), dwr base j fr (.build [(36, .int .u64 0), (3, .bool false), (1, .int .i64 0)] [(0, 36, x1), (36, 1, x2), (37, 1, x3), (38, 1, x4), (39, 1, x5)])⟩ :: acc) KD) (hg : gok fr gd = some true := by rfl) (h1 : ev fr x1 = .agg (ws 36 (wd n)) := by rfl) (h2 : ev fr x2 = .sc (.bool a) := by rfl) (h3 : ev fr x3 = .sc (.bool b) := by rfl) (h4 : ev fr x4 = .sc (.bool c) := by rfl) (h5 : ev fr x5 = .sc (.int .i64 (z : Int)) := by rfl) : DK P base j (⟨some d, gd, .op (.build [(36, .int .u64 0), (3, .bool false), (1, .int .i64 0)] [(0, 36, x1), (36, 1, x2), (37, 1, x3), (38, 1, x4), (39, 1, x5)])⟩ :: xs) fr H acc KD := .o hg (dstep_b5 h1 h2 h3 h4 h5) h
theorem sd9 {x : Operand} {cs : List AV} {n : Nat} (h : DK P base (j + 1) xs ((d, (.ptr base j 0 0)) :: fr) (hset H base j (.cells n [cs])) (⟨⟨some d, gd, .op (.box x)⟩, (base, j), (.ptr base j 0 0), drd fr (.box x), dwr base j fr (.box x)⟩ :: acc) KD) (hg : gok fr gd = some true := by rfl) (hx : ev fr x = .agg cs := by rfl) (h1 : cs.all AV.cell1 = true := by first | exact St.row_cell1 _ | exact St.acc_cell1 _ _ | exact ws_cell1 _ _) (hn : cs.length = n := by first | exact St.row_len _ | exact St.acc_len _ _ | exact ws_len _ _) : DK P base j (⟨some d, gd, .op (.box x)⟩ :: xs) fr H acc KD := .o hg (dstep_bx hx h1 hn) h
end

end Go.Proofs.Ytnngbbiajioghaa
