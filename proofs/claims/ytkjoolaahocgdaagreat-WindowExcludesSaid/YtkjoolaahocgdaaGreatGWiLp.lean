import Derived.Test.YtkjoolaahocgdaaGreatGWiT3
import Derived.Test.YtkjoolaahocgdaaGreatGAvSo
namespace Go.Proofs.YtkjoolaahocgdaaGreat
open Go.Av Go.Proofs
set_option maxRecDepth 20000
def actZ (x:Act):List AV:=[.sc (.int .i64 x.k),.sc (.int .i64 x.r),.sc (.int .i64 x.a),.sc (.int .i64 x.o),.sc (.int .i64 x.v),.sc (.int .i64 x.w),.sc (.slice none 0 0)]
instance (x:Act):PR (actZ x):=by unfold actZ; infer_instance
instance (l:List Act):PRs (l.map actZ):=inferInstance
theorem ToR.actZ {H:Heap} {n:Nat} {S:Nat→Nat→Bool} {ρ:Nat→Nat→Option (Nat×Nat)}:∀ {l:List Act},(∀ x∈l,x.g=[])→ToR (ToT H n S) ρ (l.map YtkjoolaahocgdaaGreat.actZ) (dD l)
 | [],_=>ToR.nil
 | x::l,h=>by
  have hx:=h x (by simp)
  obtain⟨k,r,a,o,v,w,g⟩:=x
  dsimp only at hx
  subst hx
  exact ToR.cons (ToL.cons (.sc _) (ToL.cons (.sc _) (ToL.cons (.sc _) (ToL.cons (.sc _) (ToL.cons (.sc _) (ToL.cons (.sc _) (ToL.cons To.nilL ToL.nil))))))) (ToR.actZ fun y hy=>h y (by simp[hy]))
theorem To.fzZ {H:Heap} {n:Nat} {S:Nat→Nat→Bool} {ρ:Nat→Nat→Option (Nat×Nat)} {g i len:Nat} {l:List Act} (h:hget H g i=some (.cells 7 (l.map YtkjoolaahocgdaaGreat.actZ))) (hS:S g i=true) (hl:l.length=len) (hg:∀ x∈l,x.g=[]):To (ToT H n S) ρ (.hsl g i 0 len) (.list 7 (dD l)):=
 To.fzT h hS (by rw[List.length_map]; exact hl) (To.listR (ToR.actZ hg))
end Go.Proofs.YtkjoolaahocgdaaGreat
