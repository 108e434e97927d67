/- The law SumDoubledSaid answers true for every input; no further condition. -/
import Derived.Test.YtnngbbiajioghaaGSuD3
import Derived.Test.YtnngbbiajioghaaGSuLw
namespace Go.Proofs.Ytnngbbiajioghaa
open Go.Av Go.Proofs
set_option maxRecDepth 20000

/-! The law SumDoubled. -/
set_option maxRecDepth 100000 in
theorem sumDoubled_lifted (os : Os) (started : os.Started) (H : Type) (enc : TypeId × Value → H) :
    ReturnsInHanded {} Try.checked os 13 .any (Rows.sumDoubledSpec.pre6 enc Try.prog Try.f13 Rows.sumDoubledRow.domain false) (Rows.sumDoubledSpec.post enc Try.prog Try.f13 false true false false) := by
  refine returnsInHanded_of_change (C := Try.checked) Try_own started (by kernel_rfl) Try.func13
    (ChangeSpec.witness6 (enc := enc) (C := Try.checked) false ⟨#[], #[.int .u64 0], []⟩ 8 (by kernel_rfl) (by kernel_rfl) (by kernel_rfl) (by kernel_rfl)) ?_
  intro W base args ds gs before hval hW _ _
  refine law_calls (P := Try.prog) (d := 8) (row := [.int .u64]) (tb := 4) (by kernel_rfl) rfl Try_laid Try_maps Try_slices (by decide) rfl tb_bool (fun ds hds => ?_) (fun avs hl hf => ?_) hval hW
  · match ds, hds with
    | [_], _ => exact ⟨rfl, rfl, rfl⟩
  · obtain ⟨a, rfl, h1⟩ := avs1 hl hf
    obtain ⟨bits, rfl, hb⟩ := open_u64 h1
    exact CallOK.ofPure (sumDoubled_ok bits hb) [] rfl

theorem sumDoubled_holds : Rows.SumDoubledSaid :=
  OpenClaim.holds_of_wide 13 Try.f13 rfl rfl rfl rfl rfl rfl rfl ⟨rfl, rfl, rfl, rfl, rfl⟩ rfl rfl rfl rfl rfl (by kernel_rfl) Try.func13 (by kernel_rfl)
    (of_decide_eq_true (by kernel_rfl)) (by unfold Func.isWrapper; first | (rw [if_pos (by decide +kernel)]; kernel_rfl) | (rw [if_neg (by decide +kernel)]; exact ⟨rfl, rfl⟩))
    (fun os started H enc _ => sumDoubled_lifted os started H enc)

end Go.Proofs.Ytnngbbiajioghaa
