/- The law CommNilSaid answers true for every input; no further condition. -/
import Derived.Test.YtpkpfgpfkajkpaaGCoN1
import Derived.Test.YtpkpfgpfkajkpaaGCoLaw
namespace Go.Proofs.Ytpkpfgpfkajkpaa
open Go.Av Go.Proofs
set_option maxRecDepth 20000
set_option maxRecDepth 100000 in
theorem commNil_lifted (os : Os) (started : os.Started) (H : Type) (enc : TypeId × Value → H) :
    ReturnsInHanded {} Try.checked os 9 .any (Rows.commNilSpec.pre6 enc Try.prog Try.f9 Rows.commNilRow.domain false) (Rows.commNilSpec.post enc Try.prog Try.f9 false true false false) := by
  refine returnsInHanded_of_change (C := Try.checked) Try_own started (by kernel_rfl) Try.func9
    (ChangeSpec.witness6 (enc := enc) (C := Try.checked) false ⟨#[], #[.int .i64 0, .slice none 0 0], []⟩ 8 (by kernel_rfl) (by kernel_rfl) (by kernel_rfl) (by kernel_rfl)) ?_
  intro W base args ds gs before hval hW _ _
  refine law_calls (P := Try.prog) (d := 8) (row := [.int .i64, .slice [.int .i64]]) (tb := 4) (by kernel_rfl) rfl Try_laid Try_maps Try_slices (by decide) rfl tb_bool (fun ds hds => ?_) (fun avs hl hf => ?_) hval hW
  · match ds, hds with
    | [_, _], _ => exact ⟨rfl, rfl, rfl⟩
  · obtain ⟨x0, x1, rfl, h0, h1⟩ : ∃ x0 x1, avs = [x0, x1] ∧ Fit (.int .i64) x0 ∧ Fit (.slice [.int .i64]) x1 := by
      match avs, hl with
      | [a0, a1], _ => exact ⟨a0, a1, rfl, hf 0 _ _ rfl rfl, hf 1 _ _ rfl rfl⟩
    clear hl
    obtain ⟨v0, rfl, _⟩ := open_i64 h0
    obtain ⟨v1, rfl, _, _⟩ := open_ints' h1
    exact commNil_ok v0 v1
theorem commNil_holds : Rows.CommNilSaid :=
  OpenClaim.holds_of_wide 9 Try.f9 rfl rfl rfl rfl rfl rfl rfl ⟨rfl, rfl, rfl, rfl, rfl⟩ rfl rfl rfl rfl rfl (by kernel_rfl) Try.func9 (by kernel_rfl)
    (of_decide_eq_true (by kernel_rfl)) (by unfold Func.isWrapper; first | (rw [if_pos (by decide +kernel)]; kernel_rfl) | (rw [if_neg (by decide +kernel)]; exact ⟨rfl, rfl⟩))
    (fun os started H enc _ => commNil_lifted os started H enc)
end Go.Proofs.Ytpkpfgpfkajkpaa
