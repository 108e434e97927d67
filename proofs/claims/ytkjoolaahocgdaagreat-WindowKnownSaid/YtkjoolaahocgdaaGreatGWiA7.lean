import Derived.Test.YtkjoolaahocgdaaGreatGWiK4
import Derived.Test.YtkjoolaahocgdaaGreatGWiL
namespace Go.Proofs.YtkjoolaahocgdaaGreat
open Go.Av Go.Proofs
set_option maxRecDepth 20000
set_option linter.unusedVariables false
set_option maxHeartbeats 8000000 in
theorem GA (l:List Int) (hl:l.length≤1000000):aD Tryz.prog 21 [.list 1 (bE l),.list 1 (bE l)] (.sc (.bool true)):=by
 refine aD.mkI cF21 (nlB rfl) ?_
 have e0:=cD l
 refine aA ?_
 rw[e0]
 rw[show(!decide (l.length=l.length))=false by simp]
 refine aA ?_
 refine AWP.loop (fun k:Nat=>[(0,.list 1 (bE l)),(1,.list 1 (bE l)),(5,.sc (.int .i64 (k:Int)))]) (fun _=>[]) (fun k=>k≤l.length) (fun k=>l.length - k) 0 (Nat.zero_le _) ?_ ?_
 ·exact Sub.w [] []
 rintro k hk
 refine aA ?_
 rw[e0]
 refine aA ?_
 refine AWP.condD rfl (fun h=>?_) (fun h=>?_)
 ·have hx:=mL l k h
  generalize l[k]=x at *
  refine aA ?_
  refine DK.nil ⟨by kernel_rfl,?_⟩
  refine aA ?_
  rw[show(x != x)=false by simp]
  refine aA ?_
  refine⟨k+1,by omega,by omega,?_⟩
  exact Sub.w [] []
 ·refine aA ?_
  exact aW.w
end Go.Proofs.YtkjoolaahocgdaaGreat
