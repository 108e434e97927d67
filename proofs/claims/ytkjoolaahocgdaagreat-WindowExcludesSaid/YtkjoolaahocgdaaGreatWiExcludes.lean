/- The law WindowExcludes answers true for every input; no further condition. -/
import Derived.Test.YtkjoolaahocgdaaGreatGWiA8
import Derived.Test.YtkjoolaahocgdaaGreatGWiX5
import Derived.Test.YtkjoolaahocgdaaGreatGWiL6
import Derived.Test.YtkjoolaahocgdaaGreatGWiLo
namespace Go.Proofs.YtkjoolaahocgdaaGreat
open Go.Av Go.Proofs
set_option maxRecDepth 20000
set_option linter.unusedVariables false
def qD (f:Nat→Int) (c:Nat):List Int:=(List.range c).flatMap fun i=>[f i,f i]
theorem zM (f:Nat→Int) (c:Nat):(qD f c).length=2 * c:=by
 unfold qD
 rw[List.length_flatMap]
 simp only[List.length_cons,List.length_nil]
 rw[List.map_const',List.sum_replicate_nat,List.length_range]
 omega
theorem M0 (f:Nat→Int) {c k:Nat} (h:k < 2 * c):dT (aY (qD f c)) (k:Int)=some [.sc (.int .i64 (f (k / 2)))]:=by
 have hl:=zM f c
 rw[l8 _ k (by omega)]
 have e:(qD f c)[k]?=some (f (k / 2)):=by
  unfold qD
  rw[PT (fun _=>rfl),if_pos h]
  have:k % 2=0∨k % 2=1:=by omega
  rcases this with q | q<;>rw[q]<;>rfl
 rw[gEg (by omega)] at e
 injection e with e
 rw[e]
set_option maxHeartbeats 16000000 in
theorem rN (l:List Nat) (hl9:l.length≤9223372036854775807) (h8:∀ n∈l,n < 256) {s:Nat} (hs:s < 18446744073709551616):aD Tryz.prog 6 [.list 1 (u8R l),.sc (.int .u64 (s:Int))] (.sc (.bool true)):=by
 refine aD.mkI cF6 (nlB rfl) ?_
 have hw:=works_ok
 have e0:=G0 l
 by_cases h1:l.length < 1
 ·refine aA ?_
  rw[e0,dTr h1]
  refine aA ?_
  exact aS.w
 by_cases h9:8 < l.length
 ·refine aA ?_
  rw[e0,dFa h1]
  refine aA ?_
  rw[e0,show decide (l.length > 8)=true from dTr (by omega)]
  refine aA ?_
  exact aS.w
 have h0:=QS (ws:=l) (by omega) (by omega)
 have hb:=z8 l (by omega) h8
 have hr:=MV (exG l) RB hs
 rw[show(⟨2,(List.range l.length).map fun r=>exA r (l.getD r 0)⟩:Pg)=exG l from rfl] at hb
 unfold IZ at hr
 rw[if_pos h0] at hr
 have hC:=AC h0
 generalize (dO (exG l)).2=ls at *
 have hn:=hC.len
 rw[kJ] at hn
 obtain⟨f,hF⟩:=Q6 hC hs
 generalize lM (exG l) ls (st0 (exG l) ls.length s)=S at *
 unfold CB at hr
 rw[hF.st] at hr
 obtain⟨z,hz⟩:=hF.m
 have hm:dT (sJ ls.length S) 0=some [.list 1 (aY [z,z])]:=by
  rw[← hz]
  exact HT (k:=0) (n:=ls.length) (f:=fun r=>AV.list 1 (aY (aT S r))) (by omega)
 have hml:(sJ ls.length S).length=ls.length:=cS _ _
 have hvl:(lN (exG l) S ls.length).length=ls.length:=cS _ _
 have hvr:∀ k,k < ls.length→dT (lN (exG l) S ls.length) (k:Int)=some [.list 1 (aY (if i6 (l.getD k 0)=2 then qD (f k) (exC (l.getD k 0)) else[]))]:=fun k hk=>by
  unfold qD
  rw[← hF.v k hk]
  exact HT (f:=fun r=>AV.list 1 (aY (mB (exG l) S r))) hk
 have i1:PRs (lN (exG l) S ls.length):=inferInstance
 have i2:PRs (sJ ls.length S):=inferInstance
 have hix:=ME l
 have hgx:∀ k (h:k < l.length),l[k]=l.getD k 0:=fun k h=>by rw[List.getD_eq_getElem?_getD,gEg h]; rfl
 clear hF hz hC h0
 generalize lN (exG l) S ls.length=V at *
 generalize sJ ls.length S=M at *
 rw[hn] at hml hvl hvr
 have p4:eZ (exG l)=.agg [.sc (.int .i64 2),.list 1 (cE (exG l).acts)]:=rfl
 rw[p4] at hb hr
 have j4:PRs (cE (exG l).acts):=inferInstance
 generalize cE (exG l).acts=P4 at *
 have hu:PRs (u8R l):=inferInstance
 generalize u8R l=U at *
 have y1:dT (aY [z,z]) 0=some [.sc (.int .i64 z)]:=rfl
 have y2:dT (aY [z,z]) 1=some [.sc (.int .i64 z)]:=rfl
 have y3:(aY [z,z]).length=2:=rfl
 generalize aY [z,z]=Z at *
 refine aA ?_
 rw[e0,dFa h1]
 refine aA ?_
 rw[e0,show decide (l.length > 8)=false from dFa (by omega)]
 refine aA ?_
 rw[hml,e0,show(!decide (l.length=l.length))=false by simp]
 refine aA ?_
 rw[y3]
 refine aA ?_
 refine DK.nil ⟨by kernel_rfl,?_⟩
 rw[show(z != z)=false by simp]
 refine aA ?_
 refine AWP.loop (fun r:Nat=>[(0,.list 1 U),(5,.cptr [.list 1 V,.list 1 M,.list 1 (bB [])]),(7,.sc (.int .i64 (r:Int)))]) (fun _=>[]) (fun r=>r≤l.length) (fun r=>l.length - r) 0 (Nat.zero_le _) ?_ ?_
 ·exact Sub.w [] []
 rintro r hr2
 refine aA ?_
 rw[hvl]
 refine aA ?_
 refine AWP.condD rfl (fun h=>?_) (fun h=>?_)
 ·have hx:=hix r h
  have hx8:=h8 _ (List.getElem_mem h)
  rw[hgx r h] at hx hx8
  have hvk:=hvr r h
  generalize l.getD r 0=w at *
  have hq8:@OfNat.ofNat Nat (w / 4 % ((2 ^ IntKind.u8.bits:Int)).natAbs) (instOfNatNat _)=w / 4:=by
   show w / 4 % 256=w / 4
   omega
  have hcw:exC w=1+w / 4 % 3:=rfl
  have hkw:i6 w=if w % 4≤1 then 2 else 1:=rfl
  refine aA ?_
  by_cases c1:w % 4 > 1
  ·rw[dTr c1]
   rw[if_neg (by rw[hkw,if_neg (by omega)]; decide)] at hvk
   have e3:(aY []).length=0:=rfl
   generalize aY []=Q at *
   refine aA ?_
   rw[e3]
   rw[show(!decide (0=0))=false by simp]
   refine aA ?_
   refine AWP.loop (σ:=Unit) (fun _=>[(0,.list 1 U),(5,.cptr [.list 1 V,.list 1 M,.list 1 (bB [])]),(7,.sc (.int .i64 (r:Int))),(9,.sc (.int .i64 0))]) (fun _=>[]) (fun _=>True) (fun _=>0) () trivial ?_ ?_
   ·exact Sub.w [] []
   rintro _ _
   refine aA ?_
   rw[e3]
   refine aA ?_
   refine⟨r+1,by omega,by omega,?_⟩
   exact Sub.w [] []
  ·rw[dFa c1]
   rw[if_pos (by rw[hkw,if_pos (by omega)])] at hvk
   rw[hq8]
   have e3:(aY (qD (f r) (exC w))).length=2 * exC w:=by rw[cC,zM]
   have hp:=fun k (hk:k < 2 * exC w)=>M0 (f r) hk
   have hQ:PRs (aY (qD (f r) (exC w))):=inferInstance
   generalize aY (qD (f r) (exC w))=Q at *
   rw[← hcw]
   refine aA ?_
   rw[e3]
   rw[show(!decide (2 * exC w=2 * exC w))=false by simp]
   refine aA ?_
   refine AWP.loop (fun j:Nat=>[(0,.list 1 U),(5,.cptr [.list 1 V,.list 1 M,.list 1 (bB [])]),(7,.sc (.int .i64 (r:Int))),(9,.sc (.int .i64 ((2 * j:Nat):Int)))]) (fun _=>[]) (fun j=>j≤exC w) (fun j=>exC w - j) 0 (Nat.zero_le _) ?_ ?_
   ·exact Sub.w [] []
   rintro j hj
   refine aA ?_
   rw[e3]
   refine aA ?_
   refine AWP.condD rfl (fun h3=>?_) (fun h3=>?_)
   ·have p1:=hp (2 * j) (by omega)
    have p2:=hp (2 * j+1) (by omega)
    rw[show 2 * j / 2=j by omega] at p1
    rw[show(2 * j+1) / 2=j by omega] at p2
    generalize f r j=v at *
    refine aA ?_
    refine DK.nil ⟨by kernel_rfl,?_⟩
    refine aA ?_
    rw[show(v != v)=false by simp]
    refine aA ?_
    refine⟨j+1,by omega,by omega,?_⟩
    exact Sub.w [] []
   ·refine aA ?_
    refine⟨r+1,by omega,by omega,?_⟩
    exact Sub.w [] []
 ·refine aA ?_
  exact aS.w
theorem NE {a:AV} (h:Fit (.slice [.int .u8]) a):∃ l:List Nat,a=.list 1 (u8R l)∧l.length≤maxLen∧∀ n∈l,n < 256:=
 JV h (fun n:Nat=>[AV.sc (.int .u8 (n:Int))]) (fun n=>n < 256) fun r hl hf=>by
  match r,hl with
  | [a],_=>
   obtain⟨n,rfl,hn⟩:=NQ (hf 0 _ a rfl rfl)
   exact⟨n,rfl,by omega⟩
set_option maxRecDepth 100000 in
theorem nU (os:Os) (started:os.Started) (H:Type) (enc:TypeId×Value→H):
  ReturnsInHanded {} Tryz.checked os 6 .any (Rows.windowExcludesSpec.pre6 enc Tryz.prog Tryz.f6 Rows.windowExcludesRow.domain false) (Rows.windowExcludesSpec.post enc Tryz.prog Tryz.f6 false true false false):=by
 refine returnsInHanded_of_change (C:=Tryz.checked) PJ started (by kernel_rfl) Tryz.func6
  (ChangeSpec.witness6 (enc:=enc) (C:=Tryz.checked) false ⟨#[],#[.slice none 0 0,.int .u64 0],[]⟩ 8 (by kernel_rfl) (by kernel_rfl) (by kernel_rfl) (by kernel_rfl)) ?_
 intro W base args ds gs before hval hW _ _
 refine ER (P:=Tryz.prog) (d:=40) (row:=[.one (.slice [.int .u8]),.one (.int .u64)]) (tb:=4) (by kernel_rfl) rfl LR NB GH (by decide) rfl OO (fun ds hds=>?_) (fun avs hl hf=>?_) hval hW
 ·match ds,hds with
  | [_,_],_=>exact⟨rfl,rfl,rfl⟩
 ·match avs,hl with
  | [a,c],_=>
   obtain⟨v,rfl,hv,h8⟩:=NE (C8 (hf 0 _ a rfl rfl))
   obtain⟨y,rfl,hy⟩:=L1 (C8 (hf 1 _ c rfl rfl))
   exact aN.ofPure (rN v hv h8 hy) [] rfl
theorem windowExcludes_holds:Rows.WindowExcludesSaid:=
 OpenClaim.holds_of_wide 6 Tryz.f6 rfl rfl rfl rfl rfl rfl rfl ⟨rfl,rfl,rfl,rfl,rfl⟩ rfl rfl rfl rfl rfl (by kernel_rfl) Tryz.func6 (by kernel_rfl)
  (of_decide_eq_true (by kernel_rfl)) (by unfold Func.isWrapper; first | (rw[if_pos (by decide +kernel)]; kernel_rfl) | (rw[if_neg (by decide +kernel)]; exact⟨rfl,rfl⟩))
  (fun os started H enc _=>nU os started H enc)
end Go.Proofs.YtkjoolaahocgdaaGreat
