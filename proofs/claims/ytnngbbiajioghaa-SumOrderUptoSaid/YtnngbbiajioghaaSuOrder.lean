/- The law SumOrderUptoSaid answers true for every input; no further condition. -/
import Derived.Test.YtnngbbiajioghaaGSuB17
import Derived.Test.YtnngbbiajioghaaGSuLw
import Derived.Test.YtnngbbiajioghaaGAvV
namespace Go.Proofs.Ytnngbbiajioghaa
open Go.Av Go.Proofs
set_option maxRecDepth 20000

/-! The law SumOrder, of the second form. -/
theorem bulk_pos {H : Type} (d : DataW H) : 1 ≤ Rows.uptoBulk d := by
  cases d with
  | lit l => cases l <;> simp [Rows.uptoBulk]
  | _ => simp [Rows.uptoBulk]
theorem bulk_all {H : Type} : ∀ (l : List (DataW H)), l.length ≤ Rows.uptoBulkAll l ∧ ∀ d ∈ l, Rows.uptoBulk d ≤ Rows.uptoBulkAll l
  | [] => ⟨Nat.zero_le _, fun d h => by cases h⟩
  | d :: r => by
    obtain ⟨h1, h2⟩ := bulk_all r
    have h3 := bulk_pos d
    have e : Rows.uptoBulkAll (d :: r) = Rows.uptoBulk d + Rows.uptoBulkAll r := by simp [Rows.uptoBulkAll]
    rw [e]
    refine ⟨by simp only [List.length_cons]; omega, fun x hx => ?_⟩
    rcases List.mem_cons.1 hx with rfl | hx
    · omega
    · have := h2 x hx; omega
theorem bulk_sl {H : Type} (d : DataW H) : slLen d ≤ Rows.uptoBulk d := by
  cases d with
  | slice elems spare =>
    have := (bulk_all elems).1
    simp only [slLen, Rows.uptoBulk]
    omega
  | _ => exact Nat.zero_le _
theorem upto_len {H : Type} {ds : List (DataW H)} (h : Rows.uptoSmall H ds = true) : ∀ d ∈ ds, slLen d ≤ 1048576 := by
  intro d hd
  unfold Rows.uptoSmall at h
  have h := of_decide_eq_true h
  have := (bulk_all ds).2 d hd
  have := bulk_sl d
  omega


theorem open_u64s {a : AV} (h : Fit (.slice [.int .u64]) a) : ∃ l : List Nat, a = .list 1 (u64R l) ∧ ∀ x ∈ l, x < 18446744073709551616 := by
  obtain ⟨l, e, _, hl⟩ := open_rows h (fun b : Nat => [.sc (.int .u64 (b : Int))]) (fun b => b < 18446744073709551616) fun r hl hf => by
    match r, hl with
    | [x], _ =>
      obtain ⟨n, rfl, h1⟩ := open_u64 (hf 0 _ x rfl rfl)
      exact ⟨n, rfl, h1⟩
  exact ⟨l, e, hl⟩
theorem open_u8s {a : AV} (h : Fit (.slice [.int .u8]) a) : ∃ l : List Nat, a = byV l ∧ ∀ x ∈ l, x < 256 := by
  obtain ⟨l, e, _, hl⟩ := open_rows h (fun b : Nat => [u8c b]) (fun b => b < 256) fun r hl hf => by
    match r, hl with
    | [x], _ =>
      obtain ⟨n, rfl, h1⟩ := open_u8 (hf 0 _ x rfl rfl)
      exact ⟨n, rfl, by omega⟩
  exact ⟨l, e, hl⟩

set_option maxRecDepth 100000 in
theorem sumOrder_lifted (os : Os) (started : os.Started) (H : Type) (enc : TypeId × Value → H) (F0 : Stop.Interp) :
    ReturnsInHanded {} Try.checked os 6 .any ((Rows.OpenSpec.upto Rows.sumOrderSpec).pre6 enc Try.prog Try.f6 Rows.sumOrderUptoRow.domain false) (((Rows.OpenSpec.upto Rows.sumOrderSpec).at F0).post enc Try.prog Try.f6 false true false false) := by
  refine returnsInHanded_of_cond (C := Try.checked) (s := Rows.OpenSpec.upto Rows.sumOrderSpec) (k := Rows.uptoSmall) rfl Try_own started (by kernel_rfl) Try.func6
    (OpenSpec.witness (enc := enc) (C := Try.checked) (s := Rows.OpenSpec.upto Rows.sumOrderSpec) (k := Rows.uptoSmall) rfl false ⟨#[], #[.slice none 0 0, .slice none 0 0, .slice none 0 0], []⟩ 8 (by kernel_rfl) (by kernel_rfl) (by kernel_rfl)
      (x := ([.nil, .nil, .nil], [], [])) (by kernel_rfl) (by kernel_rfl) (by kernel_rfl)) ?_
  intro W base args ds gs before hval hW _ hk _
  refine law_calls_small (P := Try.prog) (d := 8) (s := Rows.sumOrderSpec) (row := [.slice [.int .u64], .slice [.int .u8], .slice [.int .u8]]) (tb := 4) (B := 1048576) (by kernel_rfl) rfl Try_laid Try_maps Try_slices (by decide) rfl tb_bool (fun ds hds => ?_) (fun avs hl hf hB => ?_) hval hW (upto_len hk)
  · match ds, hds with
    | [_, _, _], _ => exact ⟨rfl, rfl, rfl⟩
  · obtain ⟨a, b, c, rfl, ha, hb, hc⟩ := avs3 hl hf
    obtain ⟨l, rfl, hl2⟩ := open_u64s ha
    obtain ⟨part, rfl, hp⟩ := open_u8s hb
    obtain ⟨order, rfl, ho⟩ := open_u8s hc
    have h2 := hB 2 _ _ rfl
    rw [bytR_len] at h2
    exact CallOK.ofPure (sumOrder_ok l part order hp ho (by omega) hl2) [] rfl

theorem sumOrder_holds : Rows.SumOrderUptoSaid :=
  OpenClaim.holds_of_cond 6 Try.f6 rfl rfl rfl rfl rfl rfl rfl ⟨rfl, rfl, rfl, rfl, rfl⟩ rfl rfl rfl rfl rfl (by kernel_rfl) Try.func6 (by kernel_rfl)
    (of_decide_eq_true (by kernel_rfl)) (by unfold Func.isWrapper; first | (rw [if_pos (by decide +kernel)]; kernel_rfl) | (rw [if_neg (by decide +kernel)]; exact ⟨rfl, rfl⟩))
    (fun os started H enc _ F0 => sumOrder_lifted os started H enc F0)

end Go.Proofs.Ytnngbbiajioghaa
