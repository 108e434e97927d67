import Derived.Test.YtbpmbofinoinmaaFaT4
import Derived.Test.YtbpmbofinoinmaaFaWorks
import Derived.Test.YtbpmbofinoinmaaFaLaw
namespace Go.Proofs.Ytbpmbofinoinmaa
open Go.Av Go.Proofs

theorem open_c {r : List AV} (hl : r.length = 3) (hf : ∀ (j : Nat) s c, [Sh.int .i64, .int .i64, .int .i64][j]? = some s → r[j]? = some c → Fit s c) : ∃ x : C, r = crow x ∧ True := by
  match r, hl with
  | [x, y, z], _ =>
    obtain ⟨a, rfl, _⟩ := open_i64 (hf 0 _ x rfl rfl)
    obtain ⟨b, rfl, _⟩ := open_i64 (hf 1 _ y rfl rfl)
    obtain ⟨c, rfl, _⟩ := open_i64 (hf 2 _ z rfl rfl)
    exact ⟨⟨a, b, c⟩, rfl, trivial⟩

theorem open_cr {a : AV} (h : Fit (.slice [.int .i64, .int .i64, .int .i64]) a) : ∃ l : List C, a = crV l ∧ l.length ≤ maxLen := by
  obtain ⟨l, e, hl, _⟩ := open_rows h crow (fun _ => True) fun r hl hf => open_c hl hf
  exact ⟨l, e, hl⟩

theorem two_pure (n : Int) (l : List C) : ∀ a ∈ [AV.sc (.int .i64 n), crV l], Pure a := allPure_cons (.sc _) (allPure_cons (pure_cr l) allPure_nil)

set_option maxHeartbeats 1000000 in
theorem faultChecks_ok (n : Int) (l : List C) : CallOK Try.prog 3 [.sc (.int .i64 n), crV l] [] (fun res _ => res = .sc (.bool true)) := by
  refine CallOK.of cF3 ?_ (by simp [F3])
  repeat (first | refine Reg.o rfl rfl ?_ | refine Reg.on rfl rfl ?_ | refine Reg.s rfl ?_ | refine Reg.sn rfl ?_ | refine Reg.nil ?_ | refine DK.o rfl rfl ?_ | refine DK.on rfl rfl ?_ | refine DK.s rfl ?_ | refine DK.sn rfl ?_ | refine AWP.seq ?_ | refine AWP.region ?_ | refine AWP.dk mixed ?_ | refine AWP.condT rfl ?_ | refine AWP.condF rfl ?_ | refine AWP.skip ?_ | refine AWP.ret ?_ | refine AWP.exit ?_ | refine AWP.block ?_ )
  refine AWP.cond rfl (fun h => ?_) (fun h => ?_)
  · repeat (first | refine Reg.o rfl rfl ?_ | refine Reg.on rfl rfl ?_ | refine Reg.s rfl ?_ | refine Reg.sn rfl ?_ | refine Reg.nil ?_ | refine DK.o rfl rfl ?_ | refine DK.on rfl rfl ?_ | refine DK.s rfl ?_ | refine DK.sn rfl ?_ | refine AWP.seq ?_ | refine AWP.region ?_ | refine AWP.dk mixed ?_ | refine AWP.condT rfl ?_ | refine AWP.condF rfl ?_ | refine AWP.skip ?_ | refine AWP.ret ?_ | refine AWP.exit ?_ | refine AWP.block ?_ )
    refine Reg.c (Nat.le_refl _) rfl (CallOK.ofPure works_pure _ ?_)
    repeat (first | refine Reg.o rfl rfl ?_ | refine Reg.on rfl rfl ?_ | refine Reg.s rfl ?_ | refine Reg.sn rfl ?_ | refine Reg.nil ?_ | refine DK.o rfl rfl ?_ | refine DK.on rfl rfl ?_ | refine DK.s rfl ?_ | refine DK.sn rfl ?_ | refine AWP.seq ?_ | refine AWP.region ?_ | refine AWP.dk mixed ?_ | refine AWP.condT rfl ?_ | refine AWP.condF rfl ?_ | refine AWP.skip ?_ | refine AWP.ret ?_ | refine AWP.exit ?_ | refine AWP.block ?_ )
    exact fin_pure (.inr rfl) rfl (.sc _) rfl
  · have hl : l.length ≤ 80 := by simp at h; omega
    repeat (first | refine Reg.o rfl rfl ?_ | refine Reg.on rfl rfl ?_ | refine Reg.s rfl ?_ | refine Reg.sn rfl ?_ | refine Reg.nil ?_ | refine DK.o rfl rfl ?_ | refine DK.on rfl rfl ?_ | refine DK.s rfl ?_ | refine DK.sn rfl ?_ | refine AWP.seq ?_ | refine AWP.region ?_ | refine AWP.dk mixed ?_ | refine AWP.condT rfl ?_ | refine AWP.condF rfl ?_ | refine AWP.skip ?_ | refine AWP.ret ?_ | refine AWP.exit ?_ | refine AWP.block ?_ )
    refine Reg.c (Nat.le_refl _) rfl (CallOK.ofPure (PureRun.of (two_pure n l) (.sc _) (check_ok n l (by omega))) _ ?_)
    repeat (first | refine Reg.o rfl rfl ?_ | refine Reg.on rfl rfl ?_ | refine Reg.s rfl ?_ | refine Reg.sn rfl ?_ | refine Reg.nil ?_ | refine DK.o rfl rfl ?_ | refine DK.on rfl rfl ?_ | refine DK.s rfl ?_ | refine DK.sn rfl ?_ | refine AWP.seq ?_ | refine AWP.region ?_ | refine AWP.dk mixed ?_ | refine AWP.condT rfl ?_ | refine AWP.condF rfl ?_ | refine AWP.skip ?_ | refine AWP.ret ?_ | refine AWP.exit ?_ | refine AWP.block ?_ )
    refine Reg.c (Nat.le_refl _) rfl (CallOK.ofPure (PureRun.of (allPure_cons (pure_cr l) allPure_nil) (pure_cr l) (crashes_ok l (by omega))) _ ?_)
    repeat (first | refine Reg.o rfl rfl ?_ | refine Reg.on rfl rfl ?_ | refine Reg.s rfl ?_ | refine Reg.sn rfl ?_ | refine Reg.nil ?_ | refine DK.o rfl rfl ?_ | refine DK.on rfl rfl ?_ | refine DK.s rfl ?_ | refine DK.sn rfl ?_ | refine AWP.seq ?_ | refine AWP.region ?_ | refine AWP.dk mixed ?_ | refine AWP.condT rfl ?_ | refine AWP.condF rfl ?_ | refine AWP.skip ?_ | refine AWP.ret ?_ | refine AWP.exit ?_ | refine AWP.block ?_ )
    refine Reg.c (Nat.le_refl _) rfl (CallOK.ofPure (PureRun.of (two_pure n l) (.sc _) (refcheck_ok n l (by omega))) _ ?_)
    repeat (first | refine Reg.o rfl rfl ?_ | refine Reg.on rfl rfl ?_ | refine Reg.s rfl ?_ | refine Reg.sn rfl ?_ | refine Reg.nil ?_ | refine DK.o rfl rfl ?_ | refine DK.on rfl rfl ?_ | refine DK.s rfl ?_ | refine DK.sn rfl ?_ | refine AWP.seq ?_ | refine AWP.region ?_ | refine AWP.dk mixed ?_ | refine AWP.condT rfl ?_ | refine AWP.condF rfl ?_ | refine AWP.skip ?_ | refine AWP.ret ?_ | refine AWP.exit ?_ | refine AWP.block ?_ )
    refine Reg.gs rfl (fun _ => ?_) (fun h => by simp at h)
    refine Reg.c (Nat.le_refl _) rfl (CallOK.ofPure works_pure _ ?_)
    repeat (first | refine Reg.o rfl rfl ?_ | refine Reg.on rfl rfl ?_ | refine Reg.s rfl ?_ | refine Reg.sn rfl ?_ | refine Reg.nil ?_ | refine DK.o rfl rfl ?_ | refine DK.on rfl rfl ?_ | refine DK.s rfl ?_ | refine DK.sn rfl ?_ | refine AWP.seq ?_ | refine AWP.region ?_ | refine AWP.dk mixed ?_ | refine AWP.condT rfl ?_ | refine AWP.condF rfl ?_ | refine AWP.skip ?_ | refine AWP.ret ?_ | refine AWP.exit ?_ | refine AWP.block ?_ )
    exact fin_pure (.inr rfl) rfl (.sc _) rfl

set_option maxRecDepth 100000 in
theorem faultChecks_lifted (os : Os) (started : os.Started) (H : Type) (enc : TypeId × Value → H) :
    ReturnsInHanded {} Try.checked os 3 .any (Rows.faultChecksSpec.pre6 enc Try.prog Try.f3 Rows.faultChecksRow.domain false) (Rows.faultChecksSpec.post enc Try.prog Try.f3 false true false false) := by
  refine returnsInHanded_of_change (C := Try.checked) Try_own started (by kernel_rfl) Try.func3
    (ChangeSpec.witness6 (enc := enc) (C := Try.checked) false ⟨#[], #[.int .i64 0, .slice none 0 0], []⟩ 8 (by kernel_rfl) (by kernel_rfl) (by kernel_rfl) (by kernel_rfl)) ?_
  intro W base args ds gs before hval hW _ _
  refine law_calls (P := Try.prog) (d := 8) (row := [.int .i64, .slice [.int .i64, .int .i64, .int .i64]]) (tb := 4) (by kernel_rfl) rfl Try_laid Try_maps Try_slices (by decide) rfl tb_bool (fun ds hds => ?_) (fun avs hl hf => ?_) hval hW
  · match ds, hds with
    | [_, _], _ => exact ⟨rfl, rfl, rfl⟩
  · obtain ⟨a, b, rfl, ha, hb⟩ := avs2 hl hf
    obtain ⟨n, rfl, _⟩ := open_i64 ha
    obtain ⟨l, rfl, _⟩ := open_cr hb
    exact faultChecks_ok n l

theorem faultChecks_holds : Rows.FaultChecksSaid :=
  OpenClaim.holds_of_wide 3 Try.f3 rfl rfl rfl rfl rfl rfl rfl ⟨rfl, rfl, rfl, rfl, rfl⟩ rfl rfl rfl rfl rfl (by kernel_rfl) Try.func3 (by kernel_rfl)
    (of_decide_eq_true (by kernel_rfl)) (by unfold Func.isWrapper; first | (rw [if_pos (by decide +kernel)]; kernel_rfl) | (rw [if_neg (by decide +kernel)]; exact ⟨rfl, rfl⟩))
    (fun os started H enc _ => faultChecks_lifted os started H enc)

end Go.Proofs.Ytbpmbofinoinmaa
