import Derived.Test.YtkjoolaahocgdaaGreatGAvP
import Derived.Test.YtkjoolaahocgdaaGreatRows
namespace Go.Proofs.YtkjoolaahocgdaaGreat
open Go.Av Go.Proofs
theorem OO:Tryz.prog.underlying 4=some .bool:=by kernel_rfl
theorem LR:laidOutB Tryz.prog=true:=by kernel_rfl
theorem NB:mapsRowed Tryz.prog=true:=by kernel_rfl
theorem GH:∀ t e,t < Tryz.prog.types.size→Tryz.prog.underlying t=some (.slice e)→0 < Tryz.prog.cellsOf e:=slices_full_of Tryz.prog (by kernel_rfl)
theorem PJ:ownKnob Tryz.prog.godebug=none:=by kernel_rfl
end Go.Proofs.YtkjoolaahocgdaaGreat
