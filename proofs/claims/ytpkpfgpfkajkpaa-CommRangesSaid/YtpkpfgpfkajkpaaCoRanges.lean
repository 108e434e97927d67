/- The law CommRangesSaid answers true for every input; no further condition. -/
import Derived.Test.YtpkpfgpfkajkpaaGCoWorks
import Derived.Test.YtpkpfgpfkajkpaaGCoL3
import Derived.Test.YtpkpfgpfkajkpaaGCoLaw
namespace Go.Proofs.Ytpkpfgpfkajkpaa
open Go.Av Go.Proofs
set_option maxRecDepth 20000

/-! The law CommRanges. -/
def rangA (n : Int) (ts : List (Int × Int × Int)) : Int × List Int := if n < 0 ∨ 64 < n then (3, []) else rangE n.toNat ts []

theorem rangA_in {n : Nat} (h : n ≤ 64) (ts : List (Int × Int × Int)) : rangA n ts = rangE n ts [] := by
  unfold rangA
  rw [if_neg (by omega)]
  rfl
theorem ranges_any (n : Int) (ts : List (Int × Int × Int)) (hl : ts.length ≤ 1000000) (hb : ∀ t ∈ ts, I64 t.1 ∧ I64 t.2.1 ∧ I64 t.2.2) :
    CallOK Try.prog 14 [.sc (.int .i64 n), .list 3 (triR ts)] [] fun res H' => res = .tup [.hsl 0 0 0 (rangA n ts).2.length, .sc (.int .i64 (rangA n ts).1)] ∧ H' = [[.cells 1 (intsR (rangA n ts).2)]] := by
  by_cases h1 : n < 0
  · have e : rangA n ts = (3, []) := by unfold rangA; rw [if_pos (.inl h1)]
    rw [e]
    refine CallOK.of cF14 ?_ (Nat.le_of_ble_eq_true rfl)
    refine walkX ?_
    rw [decide_eq_true h1]
    refine walkX ?_
    (refine ⟨.inr rfl, _, .tup [.hsl 0 0 0 0, .sc (.int .i64 (3))], [[.cells 1 []]], rfl, SubV.to [1] [[((0),0)]] ?_ ?_ rfl rfl rfl, rfl, rfl⟩; all_goals (all_goals (repeat' (first | exact ToAll.nil | exact famsTo.nil | exact famTo.nil | exact ToL.nil | exact ToR.nil | refine ToAll.cons ?_ ?_ | refine famsTo.cons ?_ ?_ | refine wt10 ?_ ?_ | exact To.undef _ | exact To.sc _ | exact To.hslL rfl rfl | exact To.ptrO rfl rfl rfl | exact To.mrefO rfl | exact To.nil rfl rfl rfl | exact wt1 | exact To.nilL | refine To.int ?_ | refine To.bool ?_ | refine To.hslL rfl ?_ | refine wt2 rfl ?_ ?_ ?_ | refine To.tupL ?_ | refine To.aggL ?_ | refine To.cptrL ?_ | refine wt3 ?_ | refine wt4 ?_ | refine To.cloL ?_ ?_ | exact wt5 | refine wt6 ?_ | refine ToB.one ?_ | exact wt7 | ((with_reducible apply ToL.consE); case e9 => rfl) | refine wt8 ?_ | refine ToL.cons ?_ ?_ | exact wt11 | refine wt9 ?_ ?_ | refine wt12 ?_ | (with_reducible rfl) | assumption)); all_goals (first | rfl | assumption | (simp; done) | (simp; omega) | (rw [wrap_small (by omega) (by omega)]; done) | (rw [wrap_small (by omega) (by omega)]; omega) | (refine congrArg Nat.cast ?_; assumption) | skip)))
  by_cases h2 : 64 < n
  · have e : rangA n ts = (3, []) := by unfold rangA; rw [if_pos (.inr h2)]
    rw [e]
    refine CallOK.of cF14 ?_ (Nat.le_of_ble_eq_true rfl)
    refine walkX ?_
    rw [decide_eq_false h1]
    refine walkX ?_
    rw [decide_eq_true h2]
    refine walkX ?_
    (refine ⟨.inr rfl, _, .tup [.hsl 0 0 0 0, .sc (.int .i64 (3))], [[.cells 1 []]], rfl, SubV.to [1] [[((0),0)]] ?_ ?_ rfl rfl rfl, rfl, rfl⟩; all_goals (all_goals (repeat' (first | exact ToAll.nil | exact famsTo.nil | exact famTo.nil | exact ToL.nil | exact ToR.nil | refine ToAll.cons ?_ ?_ | refine famsTo.cons ?_ ?_ | refine wt10 ?_ ?_ | exact To.undef _ | exact To.sc _ | exact To.hslL rfl rfl | exact To.ptrO rfl rfl rfl | exact To.mrefO rfl | exact To.nil rfl rfl rfl | exact wt1 | exact To.nilL | refine To.int ?_ | refine To.bool ?_ | refine To.hslL rfl ?_ | refine wt2 rfl ?_ ?_ ?_ | refine To.tupL ?_ | refine To.aggL ?_ | refine To.cptrL ?_ | refine wt3 ?_ | refine wt4 ?_ | refine To.cloL ?_ ?_ | exact wt5 | refine wt6 ?_ | refine ToB.one ?_ | exact wt7 | ((with_reducible apply ToL.consE); case e9 => rfl) | refine wt8 ?_ | refine ToL.cons ?_ ?_ | exact wt11 | refine wt9 ?_ ?_ | refine wt12 ?_ | (with_reducible rfl) | assumption)); all_goals (first | rfl | assumption | (simp; done) | (simp; omega) | (rw [wrap_small (by omega) (by omega)]; done) | (rw [wrap_small (by omega) (by omega)]; omega) | (refine congrArg Nat.cast ?_; assumption) | skip)))
  obtain ⟨m, rfl⟩ : ∃ m : Nat, n = m := ⟨n.toNat, by omega⟩
  rw [rangA_in (by omega)]
  exact ranges_ok m (by omega) ts hl hb
theorem ranges_any_doc (n : Int) (ts : List (Int × Int × Int)) (hl : ts.length ≤ 1000000) (hb : ∀ t ∈ ts, I64 t.1 ∧ I64 t.2.1 ∧ I64 t.2.2) :
    CallOK Try.prog 15 [.sc (.int .i64 n), .list 3 (triR ts)] [] fun res H' => res = .tup [.hsl 0 0 0 (rangA n ts).2.length, .sc (.int .i64 (rangA n ts).1)] ∧ H' = [[.cells 1 (intsR (rangA n ts).2)]] := by
  by_cases h1 : n < 0
  · have e : rangA n ts = (3, []) := by unfold rangA; rw [if_pos (.inl h1)]
    rw [e]
    refine CallOK.of cF15 ?_ (Nat.le_of_ble_eq_true rfl)
    refine walkX ?_
    rw [decide_eq_true h1]
    refine walkX ?_
    (refine ⟨.inr rfl, _, .tup [.hsl 0 0 0 0, .sc (.int .i64 (3))], [[.cells 1 []]], rfl, SubV.to [1] [[((0),0)]] ?_ ?_ rfl rfl rfl, rfl, rfl⟩; all_goals (all_goals (repeat' (first | exact ToAll.nil | exact famsTo.nil | exact famTo.nil | exact ToL.nil | exact ToR.nil | refine ToAll.cons ?_ ?_ | refine famsTo.cons ?_ ?_ | refine wt10 ?_ ?_ | exact To.undef _ | exact To.sc _ | exact To.hslL rfl rfl | exact To.ptrO rfl rfl rfl | exact To.mrefO rfl | exact To.nil rfl rfl rfl | exact wt1 | exact To.nilL | refine To.int ?_ | refine To.bool ?_ | refine To.hslL rfl ?_ | refine wt2 rfl ?_ ?_ ?_ | refine To.tupL ?_ | refine To.aggL ?_ | refine To.cptrL ?_ | refine wt3 ?_ | refine wt4 ?_ | refine To.cloL ?_ ?_ | exact wt5 | refine wt6 ?_ | refine ToB.one ?_ | exact wt7 | ((with_reducible apply ToL.consE); case e9 => rfl) | refine wt8 ?_ | refine ToL.cons ?_ ?_ | exact wt11 | refine wt9 ?_ ?_ | refine wt12 ?_ | (with_reducible rfl) | assumption)); all_goals (first | rfl | assumption | (simp; done) | (simp; omega) | (rw [wrap_small (by omega) (by omega)]; done) | (rw [wrap_small (by omega) (by omega)]; omega) | (refine congrArg Nat.cast ?_; assumption) | skip)))
  by_cases h2 : 64 < n
  · have e : rangA n ts = (3, []) := by unfold rangA; rw [if_pos (.inr h2)]
    rw [e]
    refine CallOK.of cF15 ?_ (Nat.le_of_ble_eq_true rfl)
    refine walkX ?_
    rw [decide_eq_false h1]
    refine walkX ?_
    rw [decide_eq_true h2]
    refine walkX ?_
    (refine ⟨.inr rfl, _, .tup [.hsl 0 0 0 0, .sc (.int .i64 (3))], [[.cells 1 []]], rfl, SubV.to [1] [[((0),0)]] ?_ ?_ rfl rfl rfl, rfl, rfl⟩; all_goals (all_goals (repeat' (first | exact ToAll.nil | exact famsTo.nil | exact famTo.nil | exact ToL.nil | exact ToR.nil | refine ToAll.cons ?_ ?_ | refine famsTo.cons ?_ ?_ | refine wt10 ?_ ?_ | exact To.undef _ | exact To.sc _ | exact To.hslL rfl rfl | exact To.ptrO rfl rfl rfl | exact To.mrefO rfl | exact To.nil rfl rfl rfl | exact wt1 | exact To.nilL | refine To.int ?_ | refine To.bool ?_ | refine To.hslL rfl ?_ | refine wt2 rfl ?_ ?_ ?_ | refine To.tupL ?_ | refine To.aggL ?_ | refine To.cptrL ?_ | refine wt3 ?_ | refine wt4 ?_ | refine To.cloL ?_ ?_ | exact wt5 | refine wt6 ?_ | refine ToB.one ?_ | exact wt7 | ((with_reducible apply ToL.consE); case e9 => rfl) | refine wt8 ?_ | refine ToL.cons ?_ ?_ | exact wt11 | refine wt9 ?_ ?_ | refine wt12 ?_ | (with_reducible rfl) | assumption)); all_goals (first | rfl | assumption | (simp; done) | (simp; omega) | (rw [wrap_small (by omega) (by omega)]; done) | (rw [wrap_small (by omega) (by omega)]; omega) | (refine congrArg Nat.cast ?_; assumption) | skip)))
  obtain ⟨m, rfl⟩ : ∃ m : Nat, n = m := ⟨n.toNat, by omega⟩
  rw [rangA_in (by omega)]
  exact ranges_doc m (by omega) ts hl hb
theorem runE_len {n : Nat} {b c : Int} : ∀ (f : Nat) (r : Int) (o : List Int), Good n o → (runE n b c f r o).2.length ≤ n ∧ ((runE n b c f r o).1 = 0 → Good n (runE n b c f r o).2)
  | 0, r, o, h => ⟨h.len, fun _ => h⟩
  | f + 1, r, o, h => by
    unfold runE
    split
    · rename_i e
      split
      · exact ⟨(h.app e).len, fun _ => h.app e⟩
      · exact runE_len f _ _ (h.app e)
    · rename_i e
      exact ⟨Nat.zero_le _, fun q => absurd q e⟩
theorem rangE_len {n : Nat} : ∀ (ts : List (Int × Int × Int)) (o : List Int), Good n o → (rangE n ts o).2.length ≤ n
  | [], o, h => h.len
  | (a, b, c) :: ts, o, h => by
    have := runE_len (b := b) (c := c) (n + 1 - o.length) a o h
    unfold rangE
    split
    · exact Nat.zero_le _
    · split
      · exact rangE_len ts o h
      · split
        · rename_i e
          exact rangE_len ts _ (this.2 e)
        · exact Nat.zero_le _
theorem rangA_len (n : Int) (ts : List (Int × Int × Int)) : (rangA n ts).2.length ≤ 64 := by
  unfold rangA
  split
  · exact Nat.zero_le _
  · have := rangE_len (n := n.toNat) ts [] rfl
    omega
theorem intsR_sc (l : List Int) : ∀ r ∈ intsR l, ∀ c ∈ r, ∃ v, c = .sc v := fun r hr c hc => by
  obtain ⟨n, _, rfl⟩ := List.mem_map.1 hr
  exact ⟨_, List.mem_singleton.1 hc⟩

set_option maxHeartbeats 4000000 in
theorem commRanges_ok (n : Int) (ts : List (Int × Int × Int)) (hb : ∀ t ∈ ts, I64 t.1 ∧ I64 t.2.1 ∧ I64 t.2.2) : CallOK Try.prog 3 [.sc (.int .i64 n), .list 3 (triR ts)] [] fun res _ => res = .sc (.bool true) := by
  refine CallOK.mono (R := fun res H' => res = .sc (.bool true) ∧ H' = []) ?_ fun _ _ h => h.1
  refine CallOK.of cF3 ?_ (Nat.le_of_ble_eq_true rfl)
  have e0 := triR_len ts
  have hw := works_ok
  refine walkX ?_
  rw [e0]
  by_cases h : 30 < ts.length
  · rw [decide_eq_true h]
    refine walkX ?_
    (refine endH [] (by first | exact .inr rfl | exact .inl rfl) rfl ⟨rfl, rfl⟩ ?_ ?_ rfl rfl rfl; all_goals (repeat' (first | exact ToAll.nil | exact famsTo.nil | exact famTo.nil | exact ToL.nil | exact ToR.nil | refine ToAll.cons ?_ ?_ | refine famsTo.cons ?_ ?_ | refine wt10 ?_ ?_ | exact To.undef _ | exact To.sc _ | exact To.hslL rfl rfl | exact To.ptrO rfl rfl rfl | exact To.mrefO rfl | exact To.nil rfl rfl rfl | exact wt1 | exact To.nilL | refine To.int ?_ | refine To.bool ?_ | refine To.hslL rfl ?_ | refine wt2 rfl ?_ ?_ ?_ | refine To.tupL ?_ | refine To.aggL ?_ | refine To.cptrL ?_ | refine wt3 ?_ | refine wt4 ?_ | refine To.cloL ?_ ?_ | exact wt5 | refine wt6 ?_ | refine ToB.one ?_ | exact wt7 | ((with_reducible apply ToL.consE); case e9 => rfl) | refine wt8 ?_ | refine ToL.cons ?_ ?_ | exact wt11 | refine wt9 ?_ ?_ | refine wt12 ?_ | (with_reducible rfl) | assumption)); all_goals (first | rfl | assumption | (simp; done) | (simp; omega) | (rw [wrap_small (by omega) (by omega)]; done) | (rw [wrap_small (by omega) (by omega)]; omega) | (refine congrArg Nat.cast ?_; assumption) | skip))
  rw [decide_eq_false h]
  refine walkX ?_
  refine Reg.c (Nat.zero_le _) rfl ((ranges_any n ts (by omega) hb).mono ?_)
  rintro res H' ⟨rfl, rfl⟩
  refine walkX ?_
  have h2 := CallOK.viewT (H := [[.cells 1 (intsR (rangA n ts).2)]]) (args := [.sc (.int .i64 n), .list 3 (triR ts)]) (intsR_sc _) (ranges_any_doc n ts (by omega) hb) (ToL.cons (To.sc _) (ToL.cons (To.pure (.list _ _ (prs _))) ToL.nil))
  refine Reg.c (Nat.zero_le _) rfl (h2.mono ?_)
  rintro res H' ⟨rfl, rfl⟩
  have hlen := rangA_len n ts
  have hv := is_ok (rangA n ts).2 (rangA n ts).1 (by omega)
  have e1 := intsR_len (rangA n ts).2
  generalize rangA n ts = p at *
  obtain ⟨e, l⟩ := p
  dsimp only at *
  refine walkX ?_
  (refine Reg.pv (by first | exact Nat.zero_le _ | exact Nat.le_refl _ | (simp; done) | (simp; omega)) rfl hv (by first | exact .sc _ | (exact .agg _ (fun c hc => by simp at hc; rcases hc with h | h <;> subst h <;> exact .sc _)) | assumption) ?vw9 ?_; case vw9 => (all_goals (repeat' (first | exact ToAll.nil | exact famsTo.nil | exact famTo.nil | exact ToL.nil | exact ToR.nil | refine ToAll.cons ?_ ?_ | refine famsTo.cons ?_ ?_ | refine wt10 ?_ ?_ | exact To.undef _ | exact To.sc _ | exact To.hslL rfl rfl | exact To.ptrO rfl rfl rfl | exact To.mrefO rfl | exact To.nil rfl rfl rfl | exact wt1 | exact To.nilL | refine To.int ?_ | refine To.bool ?_ | refine To.hslL rfl ?_ | refine wt2 rfl ?_ ?_ ?_ | refine To.tupL ?_ | refine To.aggL ?_ | refine To.cptrL ?_ | refine wt3 ?_ | refine wt4 ?_ | refine To.cloL ?_ ?_ | exact wt5 | refine wt6 ?_ | refine ToB.one ?_ | exact wt7 | ((with_reducible apply ToL.consE); case e9 => rfl) | refine wt8 ?_ | refine ToL.cons ?_ ?_ | exact wt11 | refine wt9 ?_ ?_ | refine wt12 ?_ | (with_reducible rfl) | assumption)); all_goals (first | rfl | assumption | (simp; done) | (simp; omega))))
  refine walkX ?_
  (refine endH [] (by first | exact .inr rfl | exact .inl rfl) rfl ⟨rfl, rfl⟩ ?_ ?_ rfl rfl rfl; all_goals (repeat' (first | exact ToAll.nil | exact famsTo.nil | exact famTo.nil | exact ToL.nil | exact ToR.nil | refine ToAll.cons ?_ ?_ | refine famsTo.cons ?_ ?_ | refine wt10 ?_ ?_ | exact To.undef _ | exact To.sc _ | exact To.hslL rfl rfl | exact To.ptrO rfl rfl rfl | exact To.mrefO rfl | exact To.nil rfl rfl rfl | exact wt1 | exact To.nilL | refine To.int ?_ | refine To.bool ?_ | refine To.hslL rfl ?_ | refine wt2 rfl ?_ ?_ ?_ | refine To.tupL ?_ | refine To.aggL ?_ | refine To.cptrL ?_ | refine wt3 ?_ | refine wt4 ?_ | refine To.cloL ?_ ?_ | exact wt5 | refine wt6 ?_ | refine ToB.one ?_ | exact wt7 | ((with_reducible apply ToL.consE); case e9 => rfl) | refine wt8 ?_ | refine ToL.cons ?_ ?_ | exact wt11 | refine wt9 ?_ ?_ | refine wt12 ?_ | (with_reducible rfl) | assumption)); all_goals (first | rfl | assumption | (simp; done) | (simp; omega) | (rw [wrap_small (by omega) (by omega)]; done) | (rw [wrap_small (by omega) (by omega)]; omega) | (refine congrArg Nat.cast ?_; assumption) | skip))

set_option maxRecDepth 100000 in
theorem commRanges_lifted (os : Os) (started : os.Started) (H : Type) (enc : TypeId × Value → H) :
    ReturnsInHanded {} Try.checked os 3 .any (Rows.commRangesSpec.pre6 enc Try.prog Try.f3 Rows.commRangesRow.domain false) (Rows.commRangesSpec.post enc Try.prog Try.f3 false true false false) := by
  refine returnsInHanded_of_change (C := Try.checked) Try_own started (by kernel_rfl) Try.func3
    (ChangeSpec.witness6 (enc := enc) (C := Try.checked) false ⟨#[], #[.int .i64 0, .slice none 0 0], []⟩ 8 (by kernel_rfl) (by kernel_rfl) (by kernel_rfl) (by kernel_rfl)) ?_
  intro W base args ds gs before hval hW _ _
  refine law_calls (P := Try.prog) (d := 8) (row := [.int .i64, .slice [.int .i64, .int .i64, .int .i64]]) (tb := 4) (by kernel_rfl) rfl Try_laid Try_maps Try_slices (by decide) rfl tb_bool (fun ds hds => ?_) (fun avs hl hf => ?_) hval hW
  · match ds, hds with
    | [_, _], _ => exact ⟨rfl, rfl, rfl⟩
  · obtain ⟨a, b, rfl, h1, h2⟩ := avs2 hl hf
    clear hl
    obtain ⟨n, rfl, _⟩ := open_i64 h1
    obtain ⟨ts, rfl, _, hb⟩ := open_rows h2 (fun t : Int × Int × Int => [.sc (.int .i64 t.1), .sc (.int .i64 t.2.1), .sc (.int .i64 t.2.2)]) (fun t => I64 t.1 ∧ I64 t.2.1 ∧ I64 t.2.2) fun r hl hf => by
      match r, hl with
      | [x, y, z], _ =>
        obtain ⟨a, rfl, ha⟩ := open_i64 (hf 0 _ x rfl rfl)
        obtain ⟨b, rfl, hb⟩ := open_i64 (hf 1 _ y rfl rfl)
        obtain ⟨c, rfl, hc⟩ := open_i64 (hf 2 _ z rfl rfl)
        exact ⟨(a, b, c), rfl, ha, hb, hc⟩
    exact commRanges_ok n ts hb

theorem commRanges_holds : Rows.CommRangesSaid :=
  OpenClaim.holds_of_wide 3 Try.f3 rfl rfl rfl rfl rfl rfl rfl ⟨rfl, rfl, rfl, rfl, rfl⟩ rfl rfl rfl rfl rfl (by kernel_rfl) Try.func3 (by kernel_rfl)
    (of_decide_eq_true (by kernel_rfl)) (by unfold Func.isWrapper; first | (rw [if_pos (by decide +kernel)]; kernel_rfl) | (rw [if_neg (by decide +kernel)]; exact ⟨rfl, rfl⟩))
    (fun os started H enc _ => commRanges_lifted os started H enc)

end Go.Proofs.Ytpkpfgpfkajkpaa
