import Derived.Test.YtgdocflpobncmaaGreatGFiK1
import Derived.Test.YtgdocflpobncmaaGreatProg
import Derived.KernelRfl
namespace Go.Proofs.YtgdocflpobncmaaGreat
open Go.Av Go.Proofs
set_option maxRecDepth 100000
abbrev mv6 (d s:Nat):IOper:=⟨some d,none,.op (.move (.tmp s))⟩
def F6:IFun:=⟨42,(sr [oq 4 (.move (.const (.bool false)))] (sr [mv6 12 0,oc 13 31 [(.tmp 12)],mv6 11 13,cN 14 11 0,cN 15 11 1,mv6 5 14,mv6 6 15] (.seq (sr [mv6 16 6,oq 17 (.un .not (.tmp 16))] (cd 17 (sr [oc 18 13 [],mv6 4 18] .ret) .skip)) (sr [mv6 20 0,mv6 21 1,oc 22 32 [(.tmp 20),(.tmp 21)],mv6 19 22,cN 23 19 0,cN 24 19 1,mv6 7 23,mv6 8 24] (sr [mv6 26 5,mv6 27 1,oc 28 33 [(.tmp 26),(.tmp 27)],mv6 25 28,cN 29 25 0,cN 30 25 1,mv6 9 29,mv6 10 30] (sr [mv6 31 8,mv6 32 10,aN .eql 33 33 31 32,mv6 34 33,fU 34 35 7 true,fU 34 36 9 true,⟨some 37,some (34,true),(.call 34 [(.tmp 35),(.tmp 36)])⟩,oq 38 (.pick (.tmp 34) (.tmp 37) (.const (.bool false))),mv6 39 38,⟨some 40,some (39,true),(.call 13 [])⟩,oq 41 (.pick (.tmp 39) (.tmp 40) (.const (.bool false))),mv6 4 41] .ret)))))),[(.tmp 4)]⟩
theorem cF6:bG Tryz.prog 6=some F6:=by kernel_rfl
end Go.Proofs.YtgdocflpobncmaaGreat
