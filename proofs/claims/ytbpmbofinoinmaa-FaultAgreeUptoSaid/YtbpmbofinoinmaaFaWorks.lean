import Derived.Test.YtbpmbofinoinmaaFaSum
namespace Go.Proofs.Ytbpmbofinoinmaa
open Go.Av Go.Proofs
set_option maxRecDepth 1000000
set_option maxHeartbeats 0

/-- The functions that the examples reach. -/
def tabW : List (Nat × IFun) := [(11, F11), (12, F12), (16, F16), (19, F19), (21, F21), (34, F34), (38, F38), (40, F40), (41, F41), (42, F42), (43, F43), (44, F44), (45, F45), (46, F46), (51, F51), (52, F52), (53, F53), (69, F69)]
theorem tabW_ok : TabOK Try.prog tabW :=
  ⟨cF11, cF12, cF16, cF19, cF21, cF34, cF38, cF40, cF41, cF42, cF43, cF44, cF45, cF46, cF51, cF52, cF53, cF69, trivial⟩
theorem works_run : runK sumF (tabL tabW) 1000 20 11 [] [] = some (.sc (.bool true), []) := by kernel_rfl
theorem mixed0 : Try.prog.follows .mixedOrders = true := by kernel_rfl

/-- The examples of the chapter that every statement contains. -/
theorem works_ok : CallOK Try.prog 11 [] [] fun res _ => res = .sc (.bool true) :=
  (runK_sound mixed0 sumF_ok (tabL_ok tabW_ok) 20 11 [] [] _ _ works_run).mono fun _ _ h => h.1
theorem works_pure : PureRun Try.prog 11 [] (.sc (.bool true)) := PureRun.of (fun _ h => by cases h) (.sc _) works_ok

end Go.Proofs.Ytbpmbofinoinmaa
