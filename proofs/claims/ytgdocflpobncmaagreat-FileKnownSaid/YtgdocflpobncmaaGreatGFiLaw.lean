import Derived.Test.YtgdocflpobncmaaGreatGAvQ
import Derived.Test.YtgdocflpobncmaaGreatRows
namespace Go.Proofs.YtgdocflpobncmaaGreat
open Go.Av Go.Proofs
theorem z8:Tryz.prog.underlying 4=some .bool:=by kernel_rfl
theorem zD:laidOutB Tryz.prog=true:=by kernel_rfl
theorem yD:mapsRowed Tryz.prog=true:=by kernel_rfl
theorem r6:∀ t e,t < Tryz.prog.types.size→Tryz.prog.underlying t=some (.slice e)→0 < Tryz.prog.cellsOf e:=slices_full_of Tryz.prog (by kernel_rfl)
theorem AE:ownKnob Tryz.prog.godebug=none:=by kernel_rfl
end Go.Proofs.YtgdocflpobncmaaGreat
