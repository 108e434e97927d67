import Derived.Test.YtkjoolaahocgdaaGreatGAvO
import Derived.Test.YtkjoolaahocgdaaGreatRows
namespace Go.Proofs.YtkjoolaahocgdaaGreat
open Go.Av Go.Proofs
theorem LX:Tryz.prog.underlying 4=some .bool:=by kernel_rfl
theorem JC:laidOutB Tryz.prog=true:=by kernel_rfl
theorem JY:mapsRowed Tryz.prog=true:=by kernel_rfl
theorem D5:∀ t e,t < Tryz.prog.types.size→Tryz.prog.underlying t=some (.slice e)→0 < Tryz.prog.cellsOf e:=slices_full_of Tryz.prog (by kernel_rfl)
theorem LA:ownKnob Tryz.prog.godebug=none:=by kernel_rfl
end Go.Proofs.YtkjoolaahocgdaaGreat
