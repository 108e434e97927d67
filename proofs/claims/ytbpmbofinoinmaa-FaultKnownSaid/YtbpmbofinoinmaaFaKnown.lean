/- The examples of the chapter: FaultKnown returns true. It has no input and no condition. -/
import Derived.Test.YtbpmbofinoinmaaFaWorks
import Derived.Test.YtbpmbofinoinmaaFaC2
import Derived.Test.YtbpmbofinoinmaaFaLaw
namespace Go.Proofs.Ytbpmbofinoinmaa
open Go.Av Go.Proofs
set_option maxRecDepth 1000000
set_option maxHeartbeats 0

def tabN : List (Nat × IFun) := [(10, F10), (12, F12), (16, F16), (19, F19), (21, F21), (24, F24), (25, F25), (26, F26), (29, F29), (30, F30), (31, F31), (32, F32), (33, F33), (34, F34), (35, F35), (36, F36), (37, F37), (38, F38), (40, F40), (41, F41), (42, F42), (43, F43), (44, F44), (45, F45), (46, F46), (51, F51), (52, F52), (53, F53), (56, F56), (57, F57), (58, F58), (59, F59), (60, F60), (61, F61), (62, F62), (63, F63), (64, F64), (65, F65), (69, F69), (74, F74), (75, F75), (76, F76), (77, F77), (78, F78), (79, F79), (80, F80), (84, F84), (85, F85), (86, F86), (87, F87), (88, F88), (89, F89), (90, F90), (94, F94), (95, F95)]
theorem tabN_ok : TabOK Try.prog tabN :=
  ⟨cF10, cF12, cF16, cF19, cF21, cF24, cF25, cF26, cF29, cF30, cF31, cF32, cF33, cF34, cF35, cF36, cF37, cF38, cF40, cF41, cF42, cF43, cF44, cF45, cF46, cF51, cF52, cF53, cF56, cF57, cF58, cF59, cF60, cF61, cF62, cF63, cF64, cF65, cF69, cF74, cF75, cF76, cF77, cF78, cF79, cF80, cF84, cF85, cF86, cF87, cF88, cF89, cF90, cF94, cF95, trivial⟩

/-- The examples of works are known. -/
noncomputable def sumW : Caller := fun f args H =>
  Bool.rec (motive := fun _ => Option (AV × Heap)) (sumF f args H) (match args with
    | [] => some (.sc (.bool true), H)
    | _ => none) (Nat.beq f 11)

theorem sumW_ok : CallerOK Try.prog sumW := by
  intro f args H v H' h
  unfold sumW at h
  cases e : Nat.beq f 11 with
  | false => rw [e] at h; exact sumF_ok f args H v H' h
  | true =>
    rw [e] at h
    have := Nat.eq_of_beq_eq_true e
    subst this
    simp only at h
    split at h
    · injection h with h
      injection h with h1 h2
      subst h1; subst h2
      exact CallOK.ofPure works_pure _ ⟨rfl, rfl⟩
    · cases h

theorem known_run : runK sumW (tabL tabN) 1000 20 10 [] [] = some (.sc (.bool true), []) := by kernel_rfl

theorem faultKnown_ok : CallOK Try.prog 10 [] [] fun res _ => res = .sc (.bool true) :=
  (runK_sound mixed0 sumW_ok (tabL_ok tabN_ok) 20 10 [] [] _ _ known_run).mono fun _ _ h => h.1

set_option maxRecDepth 100000 in
theorem faultKnown_lifted (os : Os) (started : os.Started) (H : Type) (enc : TypeId × Value → H) :
    ReturnsInHanded {} Try.checked os 10 .any (Rows.faultKnownSpec.pre6 enc Try.prog Try.f10 Rows.faultKnownRow.domain false) (Rows.faultKnownSpec.post enc Try.prog Try.f10 false true false false) := by
  refine returnsInHanded_of_change (C := Try.checked) Try_own started (by kernel_rfl) Try.func10
    (ChangeSpec.witness6 (enc := enc) (C := Try.checked) false ⟨#[], #[], []⟩ 8 (by kernel_rfl) (by kernel_rfl) (by kernel_rfl) (by kernel_rfl)) ?_
  intro W base args ds gs before hval hW _ _
  refine law_calls (P := Try.prog) (d := 8) (row := []) (tb := 4) (by kernel_rfl) rfl Try_laid Try_maps Try_slices (by decide) rfl tb_bool (fun ds hds => ?_) (fun avs hl hf => ?_) hval hW
  · match ds, hds with
    | [], _ => exact ⟨rfl, rfl, rfl⟩
  · match avs, hl with
    | [], _ => exact faultKnown_ok

theorem faultKnown_holds : Rows.FaultKnownSaid :=
  OpenClaim.holds_of_wide 10 Try.f10 rfl rfl rfl rfl rfl rfl rfl ⟨rfl, rfl, rfl, rfl, rfl⟩ rfl rfl rfl rfl rfl (by kernel_rfl) Try.func10 (by kernel_rfl)
    (of_decide_eq_true (by kernel_rfl)) (by unfold Func.isWrapper; first | (rw [if_pos (by decide +kernel)]; kernel_rfl) | (rw [if_neg (by decide +kernel)]; exact ⟨rfl, rfl⟩))
    (fun os started H enc _ => faultKnown_lifted os started H enc)

end Go.Proofs.Ytbpmbofinoinmaa
