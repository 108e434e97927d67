import Derived.Test.YtkjoolaahocgdaaGreatGWiLaw
import Derived.Test.YtkjoolaahocgdaaGreatGAvB5
import Derived.Test.YtkjoolaahocgdaaGreatGWiT3
import Derived.Test.YtkjoolaahocgdaaGreatGWiT7
namespace Go.Proofs.YtkjoolaahocgdaaGreat
open Go.Av Go.Proofs
set_option maxRecDepth 20000
theorem L1 {a:AV} (h:Fit (.int .u64) a):∃ n:Nat,a=.sc (.int .u64 (n:Int))∧n < 18446744073709551616:=by
 cases h with
 | int k n h=>
  have e1:IntKind.u64.min=0:=rfl
  have e2:IntKind.u64.max=18446744073709551615:=rfl
  simp only[Lit.wf,Bool.and_eq_true,decide_eq_true_eq,e1,e2] at h
  obtain⟨m,rfl⟩:=Int.eq_ofNat_of_zero_le h.1
  exact⟨m,rfl,by omega⟩
theorem C8 {s:Sh} {a:AV} (h:FE (.one s) a):Fit s a:=by
 cases h with
 | one h=>exact h
end Go.Proofs.YtkjoolaahocgdaaGreat
