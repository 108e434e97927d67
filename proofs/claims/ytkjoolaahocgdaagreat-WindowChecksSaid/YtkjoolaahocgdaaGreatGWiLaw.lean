import Derived.Test.YtkjoolaahocgdaaGreatGAvP
import Derived.Test.YtkjoolaahocgdaaGreatRows
namespace Go.Proofs.YtkjoolaahocgdaaGreat
open Go.Av Go.Proofs
theorem tb_bool:Tryz.prog.underlying 4=some .bool:=by kernel_rfl
theorem Try_laid:laidOutB Tryz.prog=true:=by kernel_rfl
theorem Try_maps:mapsRowed Tryz.prog=true:=by kernel_rfl
theorem Try_slices:∀ t e,t < Tryz.prog.types.size→Tryz.prog.underlying t=some (.slice e)→0 < Tryz.prog.cellsOf e:=slices_full_of Tryz.prog (by kernel_rfl)
theorem Try_own:ownKnob Tryz.prog.godebug=none:=by kernel_rfl
end Go.Proofs.YtkjoolaahocgdaaGreat
