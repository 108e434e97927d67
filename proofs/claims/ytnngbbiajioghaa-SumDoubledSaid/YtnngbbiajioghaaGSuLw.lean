import Derived.Test.YtnngbbiajioghaaGSuLaw
import Derived.Test.YtnngbbiajioghaaGAvX
import Derived.Test.YtnngbbiajioghaaGSuW2
namespace Go.Proofs.Ytnngbbiajioghaa
open Go.Av Go.Proofs
set_option maxRecDepth 20000

/-! The laws' arguments, opened. -/
theorem open_u64 {a : AV} (h : Fit (.int .u64) a) : ∃ n : Nat, a = .sc (.int .u64 (n : Int)) ∧ n < 18446744073709551616 := by
  cases h with
  | int k n h =>
    have e1 : IntKind.u64.min = 0 := rfl
    have e2 : IntKind.u64.max = 18446744073709551615 := rfl
    simp only [Lit.wf, Bool.and_eq_true, decide_eq_true_eq, e1, e2] at h
    obtain ⟨m, rfl⟩ := Int.eq_ofNat_of_zero_le h.1
    exact ⟨m, rfl, by omega⟩
theorem open_vl {a : AV} (h : AFit (.agg [.int .u64, .int .i64]) a) : ∃ (b : Nat) (p : Int), a = .agg (vR b p) ∧ b < 18446744073709551616 := by
  cases h with
  | agg hl hf =>
    rename_i cs
    match cs, hl with
    | [x, y], _ =>
      obtain ⟨b, rfl, hb⟩ := open_u64 (hf 0 _ x rfl rfl)
      obtain ⟨p, rfl, _⟩ := open_i64 (hf 1 _ y rfl rfl)
      exact ⟨b, p, rfl, hb⟩
theorem open_one {s : Sh} {a : AV} (h : AFit (.one s) a) : Fit s a := by
  cases h with
  | one h => exact h
theorem avs4' {s t u v : ASh} {avs : List AV} (hl : avs.length = [s, t, u, v].length) (h : ∀ (j : Nat) x c, [s, t, u, v][j]? = some x → avs[j]? = some c → AFit x c) : ∃ a b c d, avs = [a, b, c, d] ∧ AFit s a ∧ AFit t b ∧ AFit u c ∧ AFit v d := by
  match avs, hl with
  | [a, b, c, d], _ => exact ⟨a, b, c, d, rfl, h 0 s a rfl rfl, h 1 t b rfl rfl, h 2 u c rfl rfl, h 3 v d rfl rfl⟩
theorem avs5' {s t u v w : ASh} {avs : List AV} (hl : avs.length = [s, t, u, v, w].length) (h : ∀ (j : Nat) x c, [s, t, u, v, w][j]? = some x → avs[j]? = some c → AFit x c) : ∃ a b c d e, avs = [a, b, c, d, e] ∧ AFit s a ∧ AFit t b ∧ AFit u c ∧ AFit v d ∧ AFit w e := by
  match avs, hl with
  | [a, b, c, d, e], _ => exact ⟨a, b, c, d, e, rfl, h 0 s a rfl rfl, h 1 t b rfl rfl, h 2 u c rfl rfl, h 3 v d rfl rfl, h 4 w e rfl rfl⟩


end Go.Proofs.Ytnngbbiajioghaa
