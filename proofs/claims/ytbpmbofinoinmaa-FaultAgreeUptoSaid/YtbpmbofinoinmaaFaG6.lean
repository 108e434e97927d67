/- All survivors agree on the same flag and the same list, for every input whose bulk is at most 1048576. -/
import Derived.Test.YtbpmbofinoinmaaFaG5
import Derived.Test.YtbpmbofinoinmaaGAvB4
namespace Go.Proofs.Ytbpmbofinoinmaa
open Go.Av Go.Proofs

theorem bulk_pos {H : Type} (d : DataW H) : 1 ≤ Rows.uptoBulk d := by
  cases d with
  | lit l => cases l <;> simp [Rows.uptoBulk]
  | _ => simp [Rows.uptoBulk]
theorem bulk_all {H : Type} : ∀ (l : List (DataW H)), l.length ≤ Rows.uptoBulkAll l ∧ ∀ d ∈ l, Rows.uptoBulk d ≤ Rows.uptoBulkAll l
  | [] => ⟨Nat.zero_le _, fun d h => by cases h⟩
  | d :: r => by
    obtain ⟨h1, h2⟩ := bulk_all r
    have h3 := bulk_pos d
    have e : Rows.uptoBulkAll (d :: r) = Rows.uptoBulk d + Rows.uptoBulkAll r := by simp [Rows.uptoBulkAll]
    rw [e]
    refine ⟨by simp only [List.length_cons]; omega, fun x hx => ?_⟩
    rcases List.mem_cons.1 hx with rfl | hx
    · omega
    · have := h2 x hx; omega
theorem bulk_sl {H : Type} (d : DataW H) : slLen d ≤ Rows.uptoBulk d := by
  cases d with
  | slice elems spare =>
    have := (bulk_all elems).1
    simp only [slLen, Rows.uptoBulk]
    omega
  | _ => exact Nat.zero_le _
theorem upto_len {H : Type} {ds : List (DataW H)} (h : Rows.uptoSmall H ds = true) : ∀ d ∈ ds, slLen d ≤ 1048576 := by
  intro d hd
  unfold Rows.uptoSmall at h
  have h := of_decide_eq_true h
  have := (bulk_all ds).2 d hd
  have := bulk_sl d
  omega

theorem open_u32s {a : AV} (h : Fit (.slice [.int .u32]) a) : ∃ l : List Nat, a = u32V l := by
  obtain ⟨l, e, _⟩ := open_rows h (fun n : Nat => [.sc (.int .u32 (n : Int))]) (fun _ => True) fun r hl hf => by
    match r, hl with
    | [x], _ =>
      obtain ⟨n, rfl, _⟩ := open_u32 (hf 0 _ x rfl rfl)
      exact ⟨n, rfl, trivial⟩
  exact ⟨l, e⟩

theorem open_ints_l {a : AV} (h : Fit (.slice [.int .i64]) a) : ∃ l : List Int, a = intsV l := by
  obtain ⟨l, e, _⟩ := open_ints' h
  exact ⟨l, e⟩

theorem faultAgree_ok (fl : List Int) (kn : List Nat) (l : List C) (hfl : fl.length ≤ 1048576) (hl : l.length ≤ 1048576) : PureRun Try.prog 6 [intsV fl, u32V kn, crV l] (.sc (.bool true)) := by
  by_cases h : fl.length < 1 ∨ 20 < fl.length ∨ checkS fl.length l ≠ 0
  · exact faultAgree_bad fl kn l (by omega) (by omega) h
  · have hc : checkS fl.length l = 0 := by
      by_cases e : checkS fl.length l = 0
      · exact e
      · exact absurd (.inr (.inr e)) h
    exact faultAgree_good fl kn l (by omega) (by omega) hc

set_option maxRecDepth 100000 in
theorem faultAgree_lifted (os : Os) (started : os.Started) (H : Type) (enc : TypeId × Value → H) (F0 : Stop.Interp) :
    ReturnsInHanded {} Try.checked os 6 .any ((Rows.OpenSpec.upto Rows.faultAgreeSpec).pre6 enc Try.prog Try.f6 Rows.faultAgreeUptoRow.domain false) (((Rows.OpenSpec.upto Rows.faultAgreeSpec).at F0).post enc Try.prog Try.f6 false true false false) := by
  refine returnsInHanded_of_cond (C := Try.checked) (s := Rows.OpenSpec.upto Rows.faultAgreeSpec) (k := Rows.uptoSmall) rfl Try_own started (by kernel_rfl) Try.func6
    (OpenSpec.witness (enc := enc) (C := Try.checked) (s := Rows.OpenSpec.upto Rows.faultAgreeSpec) (k := Rows.uptoSmall) rfl false ⟨#[], #[.slice none 0 0, .slice none 0 0, .slice none 0 0], []⟩ 8 (by kernel_rfl) (by kernel_rfl) (by kernel_rfl)
      (x := ([.nil, .nil, .nil], [], [])) (by kernel_rfl) (by kernel_rfl) (by kernel_rfl)) ?_
  intro W base args ds gs before hval hW _ hk _
  refine law_calls_small (P := Try.prog) (d := 8) (s := Rows.faultAgreeSpec) (row := [.slice [.int .i64], .slice [.int .u32], .slice [.int .i64, .int .i64, .int .i64]]) (tb := 4) (B := 1048576) (by kernel_rfl) rfl Try_laid Try_maps Try_slices (by decide) rfl tb_bool (fun ds hds => ?_) (fun avs hl hf hB => ?_) hval hW (upto_len hk)
  · match ds, hds with
    | [_, _, _], _ => exact ⟨rfl, rfl, rfl⟩
  · obtain ⟨a, b, c, rfl, ha, hb, hc⟩ := avs3 hl hf
    obtain ⟨fl, rfl⟩ := open_ints_l ha
    obtain ⟨kn, rfl⟩ := open_u32s hb
    obtain ⟨l, rfl, _⟩ := open_cr hc
    have h1 := hB 0 _ _ rfl
    have h2 := hB 2 _ _ rfl
    rw [intsLen] at h1
    rw [List.length_map] at h2
    exact CallOK.ofPure (faultAgree_ok fl kn l h1 h2) [] rfl

theorem faultAgree_holds : Rows.FaultAgreeUptoSaid :=
  OpenClaim.holds_of_cond 6 Try.f6 rfl rfl rfl rfl rfl rfl rfl ⟨rfl, rfl, rfl, rfl, rfl⟩ rfl rfl rfl rfl rfl (by kernel_rfl) Try.func6 (by kernel_rfl)
    (of_decide_eq_true (by kernel_rfl)) (by unfold Func.isWrapper; first | (rw [if_pos (by decide +kernel)]; kernel_rfl) | (rw [if_neg (by decide +kernel)]; exact ⟨rfl, rfl⟩))
    (fun os started H enc _ F0 => faultAgree_lifted os started H enc F0)

end Go.Proofs.Ytbpmbofinoinmaa
