/- The law SumBytesSaid answers true for every input; no further condition. -/
import Derived.Test.YtnngbbiajioghaaGSuB8
import Derived.Test.YtnngbbiajioghaaGSuLw
namespace Go.Proofs.Ytnngbbiajioghaa
open Go.Av Go.Proofs
set_option maxRecDepth 20000

/-! The law SumBytes. -/
theorem open_bytes {a : AV} (h : Fit (.slice [.int .u8]) a) : ∃ l : List Nat, a = byV l ∧ ∀ x ∈ l, x < 256 := by
  obtain ⟨l, e, _, hl⟩ := open_rows h (fun b : Nat => [u8c b]) (fun b => b < 256) fun r hl hf => by
    match r, hl with
    | [x], _ =>
      obtain ⟨n, rfl, h1⟩ := open_u8 (hf 0 _ x rfl rfl)
      exact ⟨n, rfl, by omega⟩
  exact ⟨l, e, hl⟩

set_option maxRecDepth 100000 in
theorem sumBytes_lifted (os : Os) (started : os.Started) (H : Type) (enc : TypeId × Value → H) :
    ReturnsInHanded {} Try.checked os 4 .any (Rows.sumBytesSpec.pre6 enc Try.prog Try.f4 Rows.sumBytesRow.domain false) (Rows.sumBytesSpec.post enc Try.prog Try.f4 false true false false) := by
  refine returnsInHanded_of_change (C := Try.checked) Try_own started (by kernel_rfl) Try.func4
    (ChangeSpec.witness6 (enc := enc) (C := Try.checked) false ⟨#[], #[.slice none 0 0], []⟩ 8 (by kernel_rfl) (by kernel_rfl) (by kernel_rfl) (by kernel_rfl)) ?_
  intro W base args ds gs before hval hW _ _
  refine law_calls (P := Try.prog) (d := 8) (row := [.slice [.int .u8]]) (tb := 4) (by kernel_rfl) rfl Try_laid Try_maps Try_slices (by decide) rfl tb_bool (fun ds hds => ?_) (fun avs hl hf => ?_) hval hW
  · match ds, hds with
    | [_], _ => exact ⟨rfl, rfl, rfl⟩
  · obtain ⟨a, rfl, ha⟩ := avs1 hl hf
    obtain ⟨l, rfl, hl2⟩ := open_bytes ha
    exact CallOK.ofPure (sumBytes_ok l hl2) [] rfl

theorem sumBytes_holds : Rows.SumBytesSaid :=
  OpenClaim.holds_of_wide 4 Try.f4 rfl rfl rfl rfl rfl rfl rfl ⟨rfl, rfl, rfl, rfl, rfl⟩ rfl rfl rfl rfl rfl (by kernel_rfl) Try.func4 (by kernel_rfl)
    (of_decide_eq_true (by kernel_rfl)) (by unfold Func.isWrapper; first | (rw [if_pos (by decide +kernel)]; kernel_rfl) | (rw [if_neg (by decide +kernel)]; exact ⟨rfl, rfl⟩))
    (fun os started H enc _ => sumBytes_lifted os started H enc)

end Go.Proofs.Ytnngbbiajioghaa
