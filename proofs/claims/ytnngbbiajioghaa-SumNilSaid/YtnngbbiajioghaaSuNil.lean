/- The law SumNilSaid answers true for every input; no further condition. -/
import Derived.Test.YtnngbbiajioghaaGSuB2
import Derived.Test.YtnngbbiajioghaaGSuLw
namespace Go.Proofs.Ytnngbbiajioghaa
open Go.Av Go.Proofs
set_option maxRecDepth 20000

/-! The law SumNil. -/
set_option maxRecDepth 100000 in
theorem sumNil_lifted (os : Os) (started : os.Started) (H : Type) (enc : TypeId × Value → H) :
    ReturnsInHanded {} Try.checked os 9 .any (Rows.sumNilSpec.pre6 enc Try.prog Try.f9 Rows.sumNilRow.domain false) (Rows.sumNilSpec.post enc Try.prog Try.f9 false true false false) := by
  refine returnsInHanded_of_change (C := Try.checked) Try_own started (by kernel_rfl) Try.func9
    (ChangeSpec.witness6 (enc := enc) (C := Try.checked) false ⟨#[], #[.int .u64 0], []⟩ 8 (by kernel_rfl) (by kernel_rfl) (by kernel_rfl) (by kernel_rfl)) ?_
  intro W base args ds gs before hval hW _ _
  refine law_calls (P := Try.prog) (d := 8) (row := [.int .u64]) (tb := 4) (by kernel_rfl) rfl Try_laid Try_maps Try_slices (by decide) rfl tb_bool (fun ds hds => ?_) (fun avs hl hf => ?_) hval hW
  · match ds, hds with
    | [_], _ => exact ⟨rfl, rfl, rfl⟩
  · obtain ⟨a, rfl, ha⟩ := avs1 hl hf
    obtain ⟨b, rfl, _⟩ := open_u64 ha
    exact CallOK.ofPure (sumNil_ok b) [] rfl

theorem sumNil_holds : Rows.SumNilSaid :=
  OpenClaim.holds_of_wide 9 Try.f9 rfl rfl rfl rfl rfl rfl rfl ⟨rfl, rfl, rfl, rfl, rfl⟩ rfl rfl rfl rfl rfl (by kernel_rfl) Try.func9 (by kernel_rfl)
    (of_decide_eq_true (by kernel_rfl)) (by unfold Func.isWrapper; first | (rw [if_pos (by decide +kernel)]; kernel_rfl) | (rw [if_neg (by decide +kernel)]; exact ⟨rfl, rfl⟩))
    (fun os started H enc _ => sumNil_lifted os started H enc)

end Go.Proofs.Ytnngbbiajioghaa
