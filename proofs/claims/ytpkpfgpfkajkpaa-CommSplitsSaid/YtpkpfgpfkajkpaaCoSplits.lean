/- The law CommSplitsSaid answers true for every input; no further condition. -/
import Derived.Test.YtpkpfgpfkajkpaaGCoQ21
import Derived.Test.YtpkpfgpfkajkpaaGCoLaw
namespace Go.Proofs.Ytpkpfgpfkajkpaa
open Go.Av Go.Proofs
set_option maxRecDepth 20000
set_option maxRecDepth 100000 in
theorem commSplits_lifted (os : Os) (started : os.Started) (H : Type) (enc : TypeId × Value → H) :
  ReturnsInHanded {} Try.checked os 5 .any (Rows.commSplitsSpec.pre6 enc Try.prog Try.f5 Rows.commSplitsRow.domain false) (Rows.commSplitsSpec.post enc Try.prog Try.f5 false true false false) := by
 refine returnsInHanded_of_change (C := Try.checked) Try_own started (by kernel_rfl) Try.func5
  (ChangeSpec.witness6 (enc := enc) (C := Try.checked) false ⟨#[], #[.int .u8 0, .int .u8 0, .slice none 0 0, .slice none 0 0], []⟩ 8 (by kernel_rfl) (by kernel_rfl) (by kernel_rfl) (by kernel_rfl)) ?_
 intro W base args ds gs before hval hW _ _
 refine law_calls (P := Try.prog) (d := 8) (row := [.int .u8, .int .u8, .slice [.int .u8], .slice [.int .u8]]) (tb := 4) (by kernel_rfl) rfl Try_laid Try_maps Try_slices (by decide) rfl tb_bool (fun ds hds => ?_) (fun avs hl hf => ?_) hval hW
 ·match ds, hds with
  | [_, _, _, _], _ => exact ⟨rfl, rfl, rfl⟩
 ·obtain ⟨x0, x1, x2, x3, rfl, h0, h1, h2, h3⟩ : ∃ x0 x1 x2 x3, avs = [x0, x1, x2, x3] ∧ Fit (.int .u8) x0 ∧ Fit (.int .u8) x1 ∧ Fit (.slice [.int .u8]) x2 ∧ Fit (.slice [.int .u8]) x3 := by
   match avs, hl with
   | [a0, a1, a2, a3], _ => exact ⟨a0, a1, a2, a3, rfl, hf 0 _ _ rfl rfl, hf 1 _ _ rfl rfl, hf 2 _ _ rfl rfl, hf 3 _ _ rfl rfl⟩
  clear hl
  obtain ⟨v0, rfl, p0⟩ := open_u8 h0
  obtain ⟨v1, rfl, p1⟩ := open_u8 h1
  obtain ⟨v2, rfl, _, p2⟩ := open_rows h2 (fun b : Nat => [.sc (.int .u8 (b : Int))]) (fun b => b ≤ 255) fun r hl hf => by
   match r, hl with
   | [x], _ =>
    obtain ⟨n, rfl, hn⟩ := open_u8 (hf 0 _ x rfl rfl)
    exact ⟨n, rfl, hn⟩
  obtain ⟨v3, rfl, _, p3⟩ := open_rows h3 (fun b : Nat => [.sc (.int .u8 (b : Int))]) (fun b => b ≤ 255) fun r hl hf => by
   match r, hl with
   | [x], _ =>
    obtain ⟨n, rfl, hn⟩ := open_u8 (hf 0 _ x rfl rfl)
    exact ⟨n, rfl, hn⟩
  exact commSplits_ok v0 v1 v2 v3 p0 p1 p2 p3
theorem commSplits_holds : Rows.CommSplitsSaid :=
 OpenClaim.holds_of_wide 5 Try.f5 rfl rfl rfl rfl rfl rfl rfl ⟨rfl, rfl, rfl, rfl, rfl⟩ rfl rfl rfl rfl rfl (by kernel_rfl) Try.func5 (by kernel_rfl)
  (of_decide_eq_true (by kernel_rfl)) (by unfold Func.isWrapper; first | (rw [if_pos (by decide +kernel)]; kernel_rfl) | (rw [if_neg (by decide +kernel)]; exact ⟨rfl, rfl⟩))
  (fun os started H enc _ => commSplits_lifted os started H enc)
end Go.Proofs.Ytpkpfgpfkajkpaa
