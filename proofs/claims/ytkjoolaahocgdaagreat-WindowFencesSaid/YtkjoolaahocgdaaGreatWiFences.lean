/- The law WindowFences answers true for every input; no further condition. -/
import Derived.Test.YtkjoolaahocgdaaGreatGWiA8
import Derived.Test.YtkjoolaahocgdaaGreatGWiF4
import Derived.Test.YtkjoolaahocgdaaGreatGWiL7
import Derived.Test.YtkjoolaahocgdaaGreatGWiLo
import Derived.Test.YtkjoolaahocgdaaGreatGWiLp
namespace Go.Proofs.YtkjoolaahocgdaaGreat
open Go.Av Go.Proofs
set_option maxRecDepth 20000
set_option linter.unusedVariables false
def FH (vals:List Int) (b k:Nat):List (List Act):=(List.range k).map fun r=>BB vals.length b (vals.getD r 0) r
theorem N2 (vals:List Int) (b k:Nat):bV (FH vals b (k+1))=bV (FH vals b k)++[[.list 7 (dE (BB vals.length b (vals.getD k 0) k))]]:=by
 unfold FH bV
 rw[List.range_succ,List.map_append,List.map_append]
 rfl
theorem QM (vals:List Int) (b k:Nat):(bV (FH vals b k)).length=k:=by rw[eS]; simp[FH]
theorem QZ (n b:Nat) (v:Int) (r:Nat):∀ x∈BB n b v r,x.g=[]:=fun x hx=>by
 simp only[BB,List.mem_cons,List.not_mem_nil,or_false] at hx
 rcases hx with rfl | rfl | rfl | rfl | rfl | rfl<;>rfl
theorem LG (vals:List Int) (b:Nat):POK (dF vals b):=fun l hl x hx=>by
 obtain⟨r,_,rfl⟩:=List.mem_map.1 hl
 rw[QZ _ _ _ _ x hx]
 exact Nat.zero_le _
set_option maxHeartbeats 16000000 in
theorem xH (vals:List Int) (hv:vals.length≤9223372036854775807) (b:Nat) (hb:b≤255) {s:Nat} (hs:s < 18446744073709551616):aD Tryz.prog 7 [.list 1 (aU vals),.sc (.int .u8 (b:Int)),.sc (.int .u64 (s:Int))] (.sc (.bool true)):=by
 refine aD.mkI cF7 (nlB rfl) ?_
 have hw:=works_ok
 have e0:=cC vals
 by_cases h1:vals.length < 1
 ·refine aA ?_
  rw[e0,dTr h1]
  refine aA ?_
  exact aN.w
 by_cases h8:8 < vals.length
 ·refine aA ?_
  rw[e0,dFa h1]
  refine aA ?_
  rw[show decide (vals.length > 8)=true from dTr (by omega)]
  refine aA ?_
  exact aN.w
 have h0:=S7 (vals:=vals) (b:=b) (by omega) (by omega)
 have hra:=nI (dF vals b) (LG vals b)
 have hrun:=s7 (dF vals b) (LG vals b) hs
 unfold l8 at hra
 unfold BJ at hrun
 rw[if_pos h0] at hra hrun
 have hC:=mX h0
 generalize (cL (dF vals b)).2=ls at *
 have hrn:g9 (dF vals b) ls (eE ls.length (dF vals b) ls)=[]:=by
  unfold g9
  rw[NZ hC]
  unfold pG
  simp
 rw[hrn] at hra
 have hF:=TD hC hs
 have hn:=hC.len
 rw[eL] at hn
 have hE:=EA hC hs
 generalize eQ (dF vals b) ls (st0 (dF vals b) ls.length s)=S at *
 unfold AQ at hrun
 rw[hF.st] at hrun
 have hvl:(eK (dF vals b) S ls.length).length=ls.length:=cJ _ _
 have hvr:∀ k,k < ls.length→cQ (eK (dF vals b) S ls.length) (k:Int)=some [.list 1 (aU [vals.getD ((k+ls.length - b % ls.length) % ls.length) 0,vals.getD ((k+1+ls.length - b % ls.length) % ls.length) 0])]:=fun k hk=>by
  rw[← hF.v k hk]
  exact oL (f:=fun r=>AV.list 1 (aU (g7 (dF vals b) S r))) hk
 have hmr:∀ k,k < ls.length→cQ (iM ls.length S) (k:Int)=some [.list 1 (aU [vals.getD ((k+ls.length - b % ls.length) % ls.length) 0])]:=fun k hk=>by
  rw[← hF.m k hk]
  exact oL (f:=fun r=>AV.list 1 (aU (aT S r))) hk
 have i1:PRs (eK (dF vals b) S ls.length):=inferInstance
 have i2:PRs (iM ls.length S):=inferInstance
 generalize eK (dF vals b) S ls.length=V at *
 generalize iM ls.length S=M at *
 rw[hn] at hvl hvr hmr
 have hpv:dH (dF vals b)=.agg [.sc (.int .i64 1),.list 1 (bV (FH vals b vals.length))]:=rfl
 rw[hpv] at hra hrun
 clear hF hE hC h0
 refine aA ?_
 rw[e0,dFa h1]
 refine aA ?_
 rw[show decide (vals.length > 8)=false from dFa (by omega)]
 refine aA ?_
 refine AWP.loop (fun k:Nat=>[(0,.list 1 (aU vals)),(1,.sc (.int .u8 (b:Int))),(2,.sc (.int .u64 (s:Int))),(7,.sc (.int .i64 (vals.length:Int))),(8,.ptr 0 0 0 0),(9,.sc (.int .i64 (k:Int)))]) (fun k=>[[.cells 2 [[.sc (.int .i64 1),.hsl 1 0 0 k]]],[.cells 1 (bV (FH vals b k))]]) (fun k=>k≤vals.length) (fun k=>vals.length - k) 0 (Nat.zero_le _) ?_ ?_
 ·show Sub _ _ _ _ _ [[.cells 2 [[.sc (.int .i64 1),.hsl 1 0 0 0]]],[.cells 1 []]]
  exact Sub.w [1] [[(0,0)],[(1,0)]]
 ·rintro k hk
  have hkl:=QM vals b k
  have hks:=N2 vals b k
  refine aA ?_
  refine AWP.condD rfl (fun h=>?_) (fun h=>?_)
  ·have hx:=iI vals k h
   rw[show vals[k]=vals.getD k 0 by rw[List.getD_eq_getElem?_getD,gEg h]; rfl] at hx
   refine aA ?_
   refine DK.nil ⟨by kernel_rfl,?_⟩
   refine aA ?_
   refine⟨k+1,by omega,by omega,?_⟩
   rw[hks]
   refine Sub.to [] [[(0,0)],[(2,24)]] ?_ ⟨⟨⟨_,rfl,ToB.one (ToL.cons (.sc _) (ToL.cons (To.hslL rfl rfl) ToL.nil))⟩,trivial⟩,⟨⟨_,rfl,ToB.rowsR (ToR.snoc rfl (prs _) (ToL.cons (To.fzZ rfl rfl rfl (QZ vals.length b (vals.getD k 0) k)) ToL.nil))⟩,trivial⟩,trivial⟩ rfl rfl rfl
   (all_goals exact eC)
   done
  ·have hk2:k=vals.length:=by omega
   subst hk2
   refine AWP.exit ?_
   refine AWP.sub (fr':=[(0,.list 1 (aU vals)),(1,.sc (.int .u8 (b:Int))),(2,.sc (.int .u64 (s:Int))),(7,.sc (.int .i64 (vals.length:Int))),(8,.cptr [.sc (.int .i64 1),.list 1 (bV (FH vals b vals.length))])]) (H':=[]) ?_ ?_
   ·exact Sub.w [] []
   have hm0:=hmr 0 (by omega)
   have hv0:=hvr 0 (by omega)
   refine aA ?_
   rw[hvl,show(!decide (vals.length=vals.length))=false by simp]
   refine aA ?_
   refine AWP.loop (fun k:Nat=>[(0,.list 1 (aU vals)),(1,.sc (.int .u8 (b:Int))),(7,.sc (.int .i64 (vals.length:Int))),(12,.cptr [.list 1 V,.list 1 M,.list 1 (bB [])]),(14,.sc (.int .i64 (k:Int)))]) (fun _=>[]) (fun k=>k≤vals.length) (fun k=>vals.length - k) 0 (Nat.zero_le _) ?_ ?_
   ·exact Sub.w [] []
   rintro k hk
   refine aA ?_
   refine AWP.condD rfl (fun h=>?_) (fun h=>?_)
   ·have hmod:=Nat.mod_lt b (show 0 < vals.length by omega)
    have hvk:=hvr k h
    have hmk:=hmr k h
    have f1:=Nat.mod_lt (k+vals.length - b % vals.length) (show 0 < vals.length by omega)
    have f2:=Nat.mod_lt (k+1+vals.length - b % vals.length) (show 0 < vals.length by omega)
    have hx1:=iI vals _ f1
    have hx2:=iI vals _ f2
    rw[show vals[(k+vals.length - b % vals.length) % vals.length]=vals.getD ((k+vals.length - b % vals.length) % vals.length) 0 by rw[List.getD_eq_getElem?_getD,gEg f1]; rfl] at hx1
    rw[show vals[(k+1+vals.length - b % vals.length) % vals.length]=vals.getD ((k+1+vals.length - b % vals.length) % vals.length) 0 by rw[List.getD_eq_getElem?_getD,gEg f2]; rfl] at hx2
    refine aA ?_
    refine DK.nil ⟨by kernel_rfl,?_⟩
    generalize (k+vals.length - b % vals.length) % vals.length=w1 at *
    generalize (k+1+vals.length - b % vals.length) % vals.length=w2 at *
    have y1:cQ (aU [vals.getD w1 0,vals.getD w2 0]) 0=some [.sc (.int .i64 (vals.getD w1 0))]:=rfl
    have y2:cQ (aU [vals.getD w1 0,vals.getD w2 0]) 1=some [.sc (.int .i64 (vals.getD w2 0))]:=rfl
    have y3:cQ (aU [vals.getD w1 0]) 0=some [.sc (.int .i64 (vals.getD w1 0))]:=rfl
    generalize vals.getD w1 0=v1 at *
    generalize vals.getD w2 0=v2 at *
    refine aA ?_
    rw[show(v1 != v1)=false by simp]
    refine aA ?_
    rw[show(v2 != v2)=false by simp]
    refine aA ?_
    rw[show(v1 != v1)=false by simp]
    refine aA ?_
    refine DK.nil ⟨by kernel_rfl,?_⟩
    refine aA ?_
    refine⟨k+1,by omega,by omega,?_⟩
    exact Sub.w [] []
   ·refine aA ?_
    exact aN.w
set_option maxRecDepth 100000 in
theorem sB (os:Os) (started:os.Started) (H:Type) (enc:TypeId×Value→H):
  ReturnsInHanded {} Tryz.checked os 7 .any (Rows.windowFencesSpec.pre6 enc Tryz.prog Tryz.f7 Rows.windowFencesRow.domain false) (Rows.windowFencesSpec.post enc Tryz.prog Tryz.f7 false true false false):=by
 refine returnsInHanded_of_change (C:=Tryz.checked) xT started (by kernel_rfl) Tryz.func7
  (ChangeSpec.witness6 (enc:=enc) (C:=Tryz.checked) false ⟨#[],#[.slice none 0 0,.int .u8 0,.int .u64 0],[]⟩ 8 (by kernel_rfl) (by kernel_rfl) (by kernel_rfl) (by kernel_rfl)) ?_
 intro W base args ds gs before hval hW _ _
 refine oI (P:=Tryz.prog) (d:=40) (row:=[.one (.slice [.int .i64]),.one (.int .u8),.one (.int .u64)]) (tb:=4) (by kernel_rfl) rfl uG tT o4 (by decide) rfl yA (fun ds hds=>?_) (fun avs hl hf=>?_) hval hW
 ·match ds,hds with
  | [_,_,_],_=>exact⟨rfl,rfl,rfl⟩
 ·match avs,hl with
  | [a,b,c],_=>
   obtain⟨v,rfl,hv,_⟩:=AR (jM (hf 0 _ a rfl rfl))
   obtain⟨x,rfl,hx⟩:=K2 (jM (hf 1 _ b rfl rfl))
   obtain⟨y,rfl,hy⟩:=pW (jM (hf 2 _ c rfl rfl))
   exact aO.ofPure (xH v hv x hx hy) [] rfl
theorem windowFences_holds:Rows.WindowFencesSaid:=
 OpenClaim.holds_of_wide 7 Tryz.f7 rfl rfl rfl rfl rfl rfl rfl ⟨rfl,rfl,rfl,rfl,rfl⟩ rfl rfl rfl rfl rfl (by kernel_rfl) Tryz.func7 (by kernel_rfl)
  (of_decide_eq_true (by kernel_rfl)) (by unfold Func.isWrapper; first | (rw[if_pos (by decide +kernel)]; kernel_rfl) | (rw[if_neg (by decide +kernel)]; exact⟨rfl,rfl⟩))
  (fun os started H enc _=>sB os started H enc)
end Go.Proofs.YtkjoolaahocgdaaGreat
