import Derived.Test.YtbpmbofinoinmaaGAvN
import Derived.Test.YtbpmbofinoinmaaRows
namespace Go.Proofs.Ytbpmbofinoinmaa
open Go.Av Go.Proofs
theorem tb_bool : Try.prog.underlying 4 = some .bool := by kernel_rfl
theorem Try_laid : laidOutB Try.prog = true := by kernel_rfl
theorem Try_maps : mapsRowed Try.prog = true := by kernel_rfl
theorem Try_slices : ∀ t e, t < Try.prog.types.size → Try.prog.underlying t = some (.slice e) → 0 < Try.prog.cellsOf e := slices_full_of Try.prog (by kernel_rfl)
theorem Try_own : ownKnob Try.prog.godebug = none := by kernel_rfl
end Go.Proofs.Ytbpmbofinoinmaa
