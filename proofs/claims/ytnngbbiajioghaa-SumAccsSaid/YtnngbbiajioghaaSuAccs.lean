/- The law SumAccsSaid answers true for every input; no further condition. -/
import Derived.Test.YtnngbbiajioghaaGSuB6
import Derived.Test.YtnngbbiajioghaaGSuLw
namespace Go.Proofs.Ytnngbbiajioghaa
open Go.Av Go.Proofs
set_option maxRecDepth 20000

/-! The law SumAccs. -/
theorem open_acs {a : AV} (h : Fit (.slice [.int .u8, .int .u8, .int .u8, .int .u64]) a) : ∃ l : List Ac, a = .list 4 (acR l) ∧ ∀ x ∈ l, AcOK x := by
  obtain ⟨l, e, _, hl⟩ := open_rows h acRow AcOK fun r hl hf => by
    match r, hl with
    | [x, y, z, w], _ =>
      obtain ⟨n1, rfl, h1⟩ := open_u8 (hf 0 _ x rfl rfl)
      obtain ⟨n2, rfl, h2⟩ := open_u8 (hf 1 _ y rfl rfl)
      obtain ⟨n3, rfl, h3⟩ := open_u8 (hf 2 _ z rfl rfl)
      obtain ⟨n4, rfl, h4⟩ := open_u64 (hf 3 _ w rfl rfl)
      exact ⟨⟨n1, n2, n3, n4⟩, rfl, ⟨by show n1 < 256; omega, by show n2 < 256; omega, by show n3 < 256; omega, h4⟩⟩
  exact ⟨l, e, hl⟩

set_option maxRecDepth 100000 in
theorem sumAccs_lifted (os : Os) (started : os.Started) (H : Type) (enc : TypeId × Value → H) :
    ReturnsInHanded {} Try.checked os 8 .any (Rows.sumAccsSpec.pre6 enc Try.prog Try.f8 Rows.sumAccsRow.domain false) (Rows.sumAccsSpec.post enc Try.prog Try.f8 false true false false) := by
  refine returnsInHanded_of_change (C := Try.checked) Try_own started (by kernel_rfl) Try.func8
    (ChangeSpec.witness6 (enc := enc) (C := Try.checked) false ⟨#[], #[.slice none 0 0], []⟩ 8 (by kernel_rfl) (by kernel_rfl) (by kernel_rfl) (by kernel_rfl)) ?_
  intro W base args ds gs before hval hW _ _
  refine law_calls (P := Try.prog) (d := 8) (row := [.slice [.int .u8, .int .u8, .int .u8, .int .u64]]) (tb := 4) (by kernel_rfl) rfl Try_laid Try_maps Try_slices (by decide) rfl tb_bool (fun ds hds => ?_) (fun avs hl hf => ?_) hval hW
  · match ds, hds with
    | [_], _ => exact ⟨rfl, rfl, rfl⟩
  · obtain ⟨a, rfl, ha⟩ := avs1 hl hf
    obtain ⟨l, rfl, hl2⟩ := open_acs ha
    exact CallOK.ofPure (sumAccs_ok l hl2) [] rfl

theorem sumAccs_holds : Rows.SumAccsSaid :=
  OpenClaim.holds_of_wide 8 Try.f8 rfl rfl rfl rfl rfl rfl rfl ⟨rfl, rfl, rfl, rfl, rfl⟩ rfl rfl rfl rfl rfl (by kernel_rfl) Try.func8 (by kernel_rfl)
    (of_decide_eq_true (by kernel_rfl)) (by unfold Func.isWrapper; first | (rw [if_pos (by decide +kernel)]; kernel_rfl) | (rw [if_neg (by decide +kernel)]; exact ⟨rfl, rfl⟩))
    (fun os started H enc _ => sumAccs_lifted os started H enc)

end Go.Proofs.Ytnngbbiajioghaa
