/- The law CommGridsSaid answers true for every input; no further condition. -/
import Derived.Test.YtpkpfgpfkajkpaaGCoV10
import Derived.Test.YtpkpfgpfkajkpaaGCoLaw
namespace Go.Proofs.Ytpkpfgpfkajkpaa
open Go.Av Go.Proofs
set_option maxRecDepth 20000
set_option maxRecDepth 100000 in
theorem commGrids_lifted (os : Os) (started : os.Started) (H : Type) (enc : TypeId × Value → H) :
    ReturnsInHanded {} Try.checked os 12 .any (Rows.commGridsSpec.pre6 enc Try.prog Try.f12 Rows.commGridsRow.domain false) (Rows.commGridsSpec.post enc Try.prog Try.f12 false true false false) := by
  refine returnsInHanded_of_change (C := Try.checked) Try_own started (by kernel_rfl) Try.func12
    (ChangeSpec.witness6 (enc := enc) (C := Try.checked) false ⟨#[], #[.slice none 0 0, .slice none 0 0, .slice none 0 0, .int .i64 0, .int .i64 0, .int .i64 0, .slice none 0 0], []⟩ 8 (by kernel_rfl) (by kernel_rfl) (by kernel_rfl) (by kernel_rfl)) ?_
  intro W base args ds gs before hval hW _ _
  refine law_calls (P := Try.prog) (d := 8) (row := [.slice [.int .i64], .slice [.bool], .slice [.int .i64], .int .i64, .int .i64, .int .i64, .slice [.bool]]) (tb := 4) (by kernel_rfl) rfl Try_laid Try_maps Try_slices (by decide) rfl tb_bool (fun ds hds => ?_) (fun avs hl hf => ?_) hval hW
  · match ds, hds with
    | [_, _, _, _, _, _, _], _ => exact ⟨rfl, rfl, rfl⟩
  · obtain ⟨x0, x1, x2, x3, x4, x5, x6, rfl, h0, h1, h2, h3, h4, h5, h6⟩ : ∃ x0 x1 x2 x3 x4 x5 x6, avs = [x0, x1, x2, x3, x4, x5, x6] ∧ Fit (.slice [.int .i64]) x0 ∧ Fit (.slice [.bool]) x1 ∧ Fit (.slice [.int .i64]) x2 ∧ Fit (.int .i64) x3 ∧ Fit (.int .i64) x4 ∧ Fit (.int .i64) x5 ∧ Fit (.slice [.bool]) x6 := by
      match avs, hl with
      | [a0, a1, a2, a3, a4, a5, a6], _ => exact ⟨a0, a1, a2, a3, a4, a5, a6, rfl, hf 0 _ _ rfl rfl, hf 1 _ _ rfl rfl, hf 2 _ _ rfl rfl, hf 3 _ _ rfl rfl, hf 4 _ _ rfl rfl, hf 5 _ _ rfl rfl, hf 6 _ _ rfl rfl⟩
    clear hl
    obtain ⟨v0, rfl, _, _⟩ := open_ints' h0
    obtain ⟨v1, rfl, _, _⟩ := open_rows h1 (fun b : Bool => [.sc (.bool b)]) (fun _ => True) fun r hl hf => by
      match r, hl with
      | [x], _ =>
        obtain ⟨n, rfl⟩ := open_bool' (hf 0 _ x rfl rfl)
        exact ⟨n, rfl, trivial⟩
    obtain ⟨v2, rfl, _, _⟩ := open_ints' h2
    obtain ⟨v3, rfl, _⟩ := open_i64 h3
    obtain ⟨v4, rfl, _⟩ := open_i64 h4
    obtain ⟨v5, rfl, p5⟩ := open_i64 h5
    obtain ⟨v6, rfl, _, _⟩ := open_rows h6 (fun b : Bool => [.sc (.bool b)]) (fun _ => True) fun r hl hf => by
      match r, hl with
      | [x], _ =>
        obtain ⟨n, rfl⟩ := open_bool' (hf 0 _ x rfl rfl)
        exact ⟨n, rfl, trivial⟩
    exact commGrids_ok v0 v1 v2 v3 v4 v5 v6 p5
theorem commGrids_holds : Rows.CommGridsSaid :=
  OpenClaim.holds_of_wide 12 Try.f12 rfl rfl rfl rfl rfl rfl rfl ⟨rfl, rfl, rfl, rfl, rfl⟩ rfl rfl rfl rfl rfl (by kernel_rfl) Try.func12 (by kernel_rfl)
    (of_decide_eq_true (by kernel_rfl)) (by unfold Func.isWrapper; first | (rw [if_pos (by decide +kernel)]; kernel_rfl) | (rw [if_neg (by decide +kernel)]; exact ⟨rfl, rfl⟩))
    (fun os started H enc _ => commGrids_lifted os started H enc)
end Go.Proofs.Ytpkpfgpfkajkpaa
