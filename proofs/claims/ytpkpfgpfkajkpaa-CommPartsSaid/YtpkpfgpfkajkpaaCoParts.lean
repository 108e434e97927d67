/- The law CommPartsSaid answers true for every input; no further condition. -/
import Derived.Test.YtpkpfgpfkajkpaaGCoP6
import Derived.Test.YtpkpfgpfkajkpaaGCoLaw
namespace Go.Proofs.Ytpkpfgpfkajkpaa
open Go.Av Go.Proofs
set_option maxRecDepth 20000
set_option maxRecDepth 100000 in
theorem commParts_lifted (os : Os) (started : os.Started) (H : Type) (enc : TypeId × Value → H) :
    ReturnsInHanded {} Try.checked os 10 .any (Rows.commPartsSpec.pre6 enc Try.prog Try.f10 Rows.commPartsRow.domain false) (Rows.commPartsSpec.post enc Try.prog Try.f10 false true false false) := by
  refine returnsInHanded_of_change (C := Try.checked) Try_own started (by kernel_rfl) Try.func10
    (ChangeSpec.witness6 (enc := enc) (C := Try.checked) false ⟨#[], #[.int .u8 0, .int .u8 0, .int .u8 0, .int .u8 0], []⟩ 8 (by kernel_rfl) (by kernel_rfl) (by kernel_rfl) (by kernel_rfl)) ?_
  intro W base args ds gs before hval hW _ _
  refine law_calls (P := Try.prog) (d := 8) (row := [.int .u8, .int .u8, .int .u8, .int .u8]) (tb := 4) (by kernel_rfl) rfl Try_laid Try_maps Try_slices (by decide) rfl tb_bool (fun ds hds => ?_) (fun avs hl hf => ?_) hval hW
  · match ds, hds with
    | [_, _, _, _], _ => exact ⟨rfl, rfl, rfl⟩
  · obtain ⟨x0, x1, x2, x3, rfl, h0, h1, h2, h3⟩ : ∃ x0 x1 x2 x3, avs = [x0, x1, x2, x3] ∧ Fit (.int .u8) x0 ∧ Fit (.int .u8) x1 ∧ Fit (.int .u8) x2 ∧ Fit (.int .u8) x3 := by
      match avs, hl with
      | [a0, a1, a2, a3], _ => exact ⟨a0, a1, a2, a3, rfl, hf 0 _ _ rfl rfl, hf 1 _ _ rfl rfl, hf 2 _ _ rfl rfl, hf 3 _ _ rfl rfl⟩
    clear hl
    obtain ⟨v0, rfl, p0⟩ := open_u8 h0
    obtain ⟨v1, rfl, p1⟩ := open_u8 h1
    obtain ⟨v2, rfl, p2⟩ := open_u8 h2
    obtain ⟨v3, rfl, p3⟩ := open_u8 h3
    exact commParts_ok v0 v1 v2 v3 p0 p1 p2 p3
theorem commParts_holds : Rows.CommPartsSaid :=
  OpenClaim.holds_of_wide 10 Try.f10 rfl rfl rfl rfl rfl rfl rfl ⟨rfl, rfl, rfl, rfl, rfl⟩ rfl rfl rfl rfl rfl (by kernel_rfl) Try.func10 (by kernel_rfl)
    (of_decide_eq_true (by kernel_rfl)) (by unfold Func.isWrapper; first | (rw [if_pos (by decide +kernel)]; kernel_rfl) | (rw [if_neg (by decide +kernel)]; exact ⟨rfl, rfl⟩))
    (fun os started H enc _ => commParts_lifted os started H enc)
end Go.Proofs.Ytpkpfgpfkajkpaa
