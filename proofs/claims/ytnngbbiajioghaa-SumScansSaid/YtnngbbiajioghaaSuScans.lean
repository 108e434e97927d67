/- The law SumScansSaid answers true for every input; no further condition. -/
import Derived.Test.YtnngbbiajioghaaGSuB21
import Derived.Test.YtnngbbiajioghaaGSuLw
namespace Go.Proofs.Ytnngbbiajioghaa
open Go.Av Go.Proofs
set_option maxRecDepth 20000

/-! The law SumScans. -/
theorem open_vls' {a : AV} (h : Fit (.slice [.int .u64, .int .i64]) a) : ∃ l : List Vl, a = vsV l ∧ ∀ v ∈ l, v.1 < 18446744073709551616 := by
  obtain ⟨l, e, _, hl⟩ := open_rows h vrow (fun v => v.1 < 18446744073709551616) fun r hl hf => by
    match r, hl with
    | [x, y], _ =>
      obtain ⟨n, rfl, h1⟩ := open_u64 (hf 0 _ x rfl rfl)
      obtain ⟨p, rfl, _⟩ := open_i64 (hf 1 _ y rfl rfl)
      exact ⟨(n, p), rfl, h1⟩
  exact ⟨l, e, hl⟩
set_option maxRecDepth 100000 in
theorem sumScans_lifted (os : Os) (started : os.Started) (H : Type) (enc : TypeId × Value → H) :
    ReturnsInHanded {} Try.checked os 12 .any (Rows.sumScansSpec.pre6 enc Try.prog Try.f12 Rows.sumScansRow.domain false) (Rows.sumScansSpec.post enc Try.prog Try.f12 false true false false) := by
  refine returnsInHanded_of_change (C := Try.checked) Try_own started (by kernel_rfl) Try.func12
    (ChangeSpec.witness6 (enc := enc) (C := Try.checked) false ⟨#[], #[.int .i64 0, .int .i64 0, .slice none 0 0], []⟩ 8 (by kernel_rfl) (by kernel_rfl) (by kernel_rfl) (by kernel_rfl)) ?_
  intro W base args ds gs before hval hW _ _
  refine law_calls (P := Try.prog) (d := 8) (row := [.int .i64, .int .i64, .slice [.int .u64, .int .i64]]) (tb := 4) (by kernel_rfl) rfl Try_laid Try_maps Try_slices (by decide) rfl tb_bool (fun ds hds => ?_) (fun avs hl hf => ?_) hval hW
  · match ds, hds with
    | [_, _, _], _ => exact ⟨rfl, rfl, rfl⟩
  · obtain ⟨a, b, c, rfl, ha, hb, hc⟩ := avs3 hl hf
    obtain ⟨op, rfl, _⟩ := open_i64 ha
    obtain ⟨kind, rfl, _⟩ := open_i64 hb
    obtain ⟨l, rfl, hr⟩ := open_vls' hc
    exact CallOK.ofPure (sumScans_ok op kind l hr) [] rfl

theorem sumScans_holds : Rows.SumScansSaid :=
  OpenClaim.holds_of_wide 12 Try.f12 rfl rfl rfl rfl rfl rfl rfl ⟨rfl, rfl, rfl, rfl, rfl⟩ rfl rfl rfl rfl rfl (by kernel_rfl) Try.func12 (by kernel_rfl)
    (of_decide_eq_true (by kernel_rfl)) (by unfold Func.isWrapper; first | (rw [if_pos (by decide +kernel)]; kernel_rfl) | (rw [if_neg (by decide +kernel)]; exact ⟨rfl, rfl⟩))
    (fun os started H enc _ => sumScans_lifted os started H enc)

end Go.Proofs.Ytnngbbiajioghaa
