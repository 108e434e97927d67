/- The law SumLawsSaid answers true for every input; no further condition. -/
import Derived.Test.YtnngbbiajioghaaGSuB3
import Derived.Test.YtnngbbiajioghaaGSuLw
namespace Go.Proofs.Ytnngbbiajioghaa
open Go.Av Go.Proofs
set_option maxRecDepth 20000

/-! The law SumLaws. -/
set_option maxRecDepth 100000 in
theorem sumLaws_lifted (os : Os) (started : os.Started) (H : Type) (enc : TypeId × Value → H) :
    ReturnsInHanded {} Try.checked os 5 .any (Rows.sumLawsSpec.pre6 enc Try.prog Try.f5 Rows.sumLawsRow.domain false) (Rows.sumLawsSpec.post enc Try.prog Try.f5 false true false false) := by
  refine returnsInHanded_of_change (C := Try.checked) Try_own started (by kernel_rfl) Try.func5
    (ChangeSpec.witness6 (enc := enc) (C := Try.checked) false ⟨#[], #[.int .i64 0, .int .i64 0, .agg #[.int .u64 0, .int .i64 0], .agg #[.int .u64 0, .int .i64 0], .agg #[.int .u64 0, .int .i64 0]], []⟩ 8 (by kernel_rfl) (by kernel_rfl) (by kernel_rfl) (by kernel_rfl)) ?_
  intro W base args ds gs before hval hW _ _
  refine law_calls2 (P := Try.prog) (d := 8) (row := [.one (.int .i64), .one (.int .i64), .agg [.int .u64, .int .i64], .agg [.int .u64, .int .i64], .agg [.int .u64, .int .i64]]) (tb := 4) (by kernel_rfl) rfl Try_laid Try_maps Try_slices (by decide) rfl tb_bool (fun ds hds => ?_) (fun avs hl hf => ?_) hval hW
  · match ds, hds with
    | [_, _, _, _, _], _ => exact ⟨rfl, rfl, rfl⟩
  · obtain ⟨o, k, a, b, c, rfl, ho, hk, ha, hb, hc⟩ := avs5' hl hf
    obtain ⟨op, rfl, _⟩ := open_i64 (open_one ho)
    obtain ⟨kind, rfl, _⟩ := open_i64 (open_one hk)
    obtain ⟨x, p, rfl, hx⟩ := open_vl ha
    obtain ⟨y, q, rfl, hy⟩ := open_vl hb
    obtain ⟨z, r, rfl, hz⟩ := open_vl hc
    exact CallOK.ofPure (sumLaws_ok op kind x y z p q r hx hy hz) [] rfl

theorem sumLaws_holds : Rows.SumLawsSaid :=
  OpenClaim.holds_of_wide 5 Try.f5 rfl rfl rfl rfl rfl rfl rfl ⟨rfl, rfl, rfl, rfl, rfl⟩ rfl rfl rfl rfl rfl (by kernel_rfl) Try.func5 (by kernel_rfl)
    (of_decide_eq_true (by kernel_rfl)) (by unfold Func.isWrapper; first | (rw [if_pos (by decide +kernel)]; kernel_rfl) | (rw [if_neg (by decide +kernel)]; exact ⟨rfl, rfl⟩))
    (fun os started H enc _ => sumLaws_lifted os started H enc)

end Go.Proofs.Ytnngbbiajioghaa
