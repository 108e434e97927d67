import Derived.Test.YtgdocflpobncmaaGreatGAvP
import Derived.Test.YtgdocflpobncmaaGreatRows
namespace Go.Proofs.YtgdocflpobncmaaGreat
open Go.Av Go.Proofs
theorem KF:Tryz.prog.underlying 4=some .bool:=by kernel_rfl
theorem HD:laidOutB Tryz.prog=true:=by kernel_rfl
theorem HI:mapsRowed Tryz.prog=true:=by kernel_rfl
theorem AL:∀ t e,t < Tryz.prog.types.size→Tryz.prog.underlying t=some (.slice e)→0 < Tryz.prog.cellsOf e:=slices_full_of Tryz.prog (by kernel_rfl)
theorem KR:ownKnob Tryz.prog.godebug=none:=by kernel_rfl
end Go.Proofs.YtgdocflpobncmaaGreat
