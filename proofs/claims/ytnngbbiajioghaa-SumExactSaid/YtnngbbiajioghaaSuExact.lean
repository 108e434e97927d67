/- The law SumExactSaid answers true for every input; no further condition. -/
import Derived.Test.YtnngbbiajioghaaGSuX8
import Derived.Test.YtnngbbiajioghaaGSuLw
namespace Go.Proofs.Ytnngbbiajioghaa
open Go.Av Go.Proofs
set_option maxRecDepth 20000

/-! The law SumExact. -/
theorem open_i32 {a : AV} (h : Fit (.int .i32) a) : ∃ n : Int, a = .sc (.int .i32 n) ∧ -2147483648 ≤ n ∧ n < 2147483648 := by
  cases h with
  | int k n h =>
    have e1 : IntKind.i32.min = -2147483648 := rfl
    have e2 : IntKind.i32.max = 2147483647 := rfl
    simp only [Lit.wf, Bool.and_eq_true, decide_eq_true_eq, e1, e2] at h
    exact ⟨n, rfl, by omega⟩
theorem open_i32s {a : AV} (h : Fit (.slice [.int .i32]) a) : ∃ l : List Int, a = .list 1 (i32R l) ∧ ∀ n ∈ l, -2147483648 ≤ n ∧ n < 2147483648 := by
  obtain ⟨l, e, _, hl⟩ := open_rows h (fun b : Int => [.sc (.int .i32 b)]) (fun n => -2147483648 ≤ n ∧ n < 2147483648) fun r hl hf => by
    match r, hl with
    | [x], _ =>
      obtain ⟨n, rfl, h1⟩ := open_i32 (hf 0 _ x rfl rfl)
      exact ⟨n, rfl, h1⟩
  exact ⟨l, e, hl⟩

set_option maxRecDepth 100000 in
theorem sumExact_lifted (os : Os) (started : os.Started) (H : Type) (enc : TypeId × Value → H) :
    ReturnsInHanded {} Try.checked os 10 .any (Rows.sumExactSpec.pre6 enc Try.prog Try.f10 Rows.sumExactRow.domain false) (Rows.sumExactSpec.post enc Try.prog Try.f10 false true false false) := by
  refine returnsInHanded_of_change (C := Try.checked) Try_own started (by kernel_rfl) Try.func10
    (ChangeSpec.witness6 (enc := enc) (C := Try.checked) false ⟨#[], #[.slice none 0 0, .int .u8 0, .int .u64 0], []⟩ 8 (by kernel_rfl) (by kernel_rfl) (by kernel_rfl) (by kernel_rfl)) ?_
  intro W base args ds gs before hval hW _ _
  refine law_calls (P := Try.prog) (d := 8) (row := [.slice [.int .i32], .int .u8, .int .u64]) (tb := 4) (by kernel_rfl) rfl Try_laid Try_maps Try_slices (by decide) rfl tb_bool (fun ds hds => ?_) (fun avs hl hf => ?_) hval hW
  · match ds, hds with
    | [_, _, _], _ => exact ⟨rfl, rfl, rfl⟩
  · obtain ⟨a, b, c, rfl, h1, h2, h3⟩ := avs3 hl hf
    clear hl
    obtain ⟨l, rfl, hl⟩ := open_i32s h1
    obtain ⟨sh, rfl, _⟩ := open_u8 h2
    obtain ⟨bits, rfl, hb⟩ := open_u64 h3
    exact CallOK.ofPure (sumExact_ok l sh bits hl hb) [] rfl

theorem sumExact_holds : Rows.SumExactSaid :=
  OpenClaim.holds_of_wide 10 Try.f10 rfl rfl rfl rfl rfl rfl rfl ⟨rfl, rfl, rfl, rfl, rfl⟩ rfl rfl rfl rfl rfl (by kernel_rfl) Try.func10 (by kernel_rfl)
    (of_decide_eq_true (by kernel_rfl)) (by unfold Func.isWrapper; first | (rw [if_pos (by decide +kernel)]; kernel_rfl) | (rw [if_neg (by decide +kernel)]; exact ⟨rfl, rfl⟩))
    (fun os started H enc _ => sumExact_lifted os started H enc)

end Go.Proofs.Ytnngbbiajioghaa
