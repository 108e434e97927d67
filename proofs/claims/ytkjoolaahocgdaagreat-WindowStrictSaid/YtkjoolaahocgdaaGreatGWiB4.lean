import Derived.Test.YtkjoolaahocgdaaGreatGWiB1
import Derived.Test.YtkjoolaahocgdaaGreatGWiA8
import Derived.Test.YtkjoolaahocgdaaGreatGWiU6
import Derived.Test.YtkjoolaahocgdaaGreatGWiL12
namespace Go.Proofs.YtkjoolaahocgdaaGreat
open Go.Av Go.Proofs
set_option maxRecDepth 20000
structure ER (p:Pg) (ls:List Ln) (s:St) (A:Nat→Nat→Nat) (t:Nat):Prop where
 le:∀ r i,i≤dAt s r→A r i≤t
 lt:∀ r i j,i < j→j≤dAt s r→A r i < A r j
 fst:∀ r i,r < ls.length→i≤dAt s r→∀ y∈dQ p ls r i,y.2≤dAt s y.1∧A y.1 y.2 < A r i
theorem ER.act {p:Pg} {ls:List Ln} {s:St} (hC:bL p ls) (hS:bF p ls s) {A:Nat→Nat→Nat} {t:Nat} (h:ER p ls s A t) {r:Nat} (hr:r < ls.length) (hc:kI p ls s r=true):∃ A' t',ER p ls (kN p ls s r) A' t':=by
 have hd:dAt s r < aW p r:=qJ (hS.d r hr) hc
 have B:=x8 hC hS hr hd
 have hpr:=CP hC hd hc
 generalize kN p ls s r=s' at *
 have hdr:dAt s' r=dAt s r+1:=by rw[B.d,if_pos rfl]
 have hdo:∀ j,j≠r→dAt s' j=dAt s j:=fun j e=>by rw[B.d,if_neg e]
 have hge:∀ j,dAt s j≤dAt s' j:=fun j=>by
  by_cases e:j=r
  ·rw[e,hdr]; omega
  ·rw[hdo j e]; exact Nat.le_refl _
 have old:∀ b j,j≤dAt s b→(if b=r∧j=dAt s r+1 then t+1 else A b j)=A b j:=fun b j hj=>if_neg fun e=>by
  have:=e.1
  subst this
  omega
 refine⟨fun b j=>if b=r∧j=dAt s r+1 then t+1 else A b j,t+1,fun b i hi=>?_,fun b i j hij hj=>?_,fun b i hb hi y hy=>?_⟩
 ·skip
  by_cases e:b=r∧i=dAt s r+1
  ·rw[if_pos e]; exact Nat.le_refl _
  ·rw[if_neg e]
   refine Nat.le_succ_of_le (h.le b i ?_)
   by_cases e2:b=r
   ·subst e2; omega
   ·rw[← hdo b e2]; exact hi
 ·skip
  by_cases e:b=r∧j=dAt s r+1
  ·rw[if_pos e,old b i (by rw[e.1]; omega)]
   exact Nat.lt_succ_of_le (h.le b i (by rw[e.1]; omega))
  ·have hj2:j≤dAt s b:=by
    by_cases e2:b=r
    ·subst e2; omega
    ·rw[← hdo b e2]; exact hj
   rw[if_neg e,old b i (by omega)]
   exact h.lt b i j hij hj2
 ·skip
  by_cases e:b=r∧i=dAt s r+1
  ·obtain⟨e1,e2⟩:=e
   subst e1 e2
   unfold dQ at hy
   rw[if_pos ⟨by omega,by omega⟩] at hy
   have hyd:y.2≤dAt s y.1:=by
    rcases hpr y hy with q | ⟨q,_⟩<;>omega
   rw[old y.1 y.2 hyd,if_pos ⟨rfl,rfl⟩]
   exact⟨Nat.le_trans hyd (hge _),Nat.lt_succ_of_le (h.le _ _ hyd)⟩
  ·have hi2:i≤dAt s b:=by
    by_cases e2:b=r
    ·subst e2; omega
    ·rw[← hdo b e2]; exact hi
   obtain⟨q1,q2⟩:=h.fst b i hb hi2 y hy
   rw[if_neg e,old y.1 y.2 q1]
   exact⟨Nat.le_trans q1 (hge _),q2⟩
theorem ER.cd {p:Pg} {ls:List Ln} {s:St} (hC:bL p ls) (hS:bF p ls s) (h:∃ A t,ER p ls s A t) {c:Cd} (hc:c∈cO p ls s) {sd:Nat} (hsd:sd < 18446744073709551616):∃ A t,ER p ls (doP p ls { s with seed:=sd } c) A t:=by
 obtain⟨A,t,h⟩:=h
 have h':ER p ls { s with seed:=sd } A t:=⟨h.le,h.lt,h.fst⟩
 rcases s6 hc with⟨r,h1,rfl,h2⟩ | ⟨r,k,i,h1,h2,rfl,h3⟩
 ·exact h'.act hC (hS.sd' hsd) h1 h2
 ·have B:=x5 hC (hS.sd' hsd) h1 h2
  refine⟨A,t,fun b i hi=>h.le b i ?_,fun b i j hij hj=>h.lt b i j hij ?_,fun b i hb hi y hy=>?_⟩
  ·have:=B.d b; exact Nat.le_trans hi (Nat.le_of_eq this)
  ·have:=B.d b; exact Nat.le_trans hj (Nat.le_of_eq this)
  ·have e:=B.d b
   have e2:=B.d y.1
   obtain⟨q1,q2⟩:=h.fst b i hb (Nat.le_trans hi (Nat.le_of_eq e)) y hy
   exact⟨Nat.le_trans q1 (Nat.le_of_eq e2.symm),q2⟩
structure mR (p:Pg) (ls:List Ln) (A:Nat→Nat→Nat):Prop where
 lt:∀ r i j,r < ls.length→i < j→j≤aW p r→A r i < A r j
 fst:∀ r i,r < ls.length→i≤aW p r→∀ y∈dQ p ls r i,A y.1 y.2 < A r i
theorem times {p:Pg} {ls:List Ln} (hC:bL p ls) {a:Nat} (ha:a < 18446744073709551616) (hs:dA p (eQ p ls (st0 p ls.length a)) ls.length=[]):∃ A,mR p ls A:=by
 obtain⟨_,⟨A,t,h⟩,hS,_⟩:=uO hC (I:=fun s _=>∃ A t,ER p ls s A t) (fun s tr c sd hS h hc hsd=>ER.cd hC hS h hc hsd) (bF.st0 (p:=p) (ls:=ls) ha)
  ⟨fun _ _=>0,0,fun _ _ _=>Nat.le_refl _,fun r i j hij hj=>by rw[tY] at hj; omega,fun r i hr hi y hy=>by
   rw[tY] at hi
   unfold dQ at hy
   rw[if_neg (by omega)] at hy
   cases hy⟩
 generalize eQ p ls (st0 p ls.length a)=s at *
 have hd:∀ r,r < ls.length→aW p r≤dAt s r:=fun r hr=>by
  have h1:r∉dA p s ls.length:=by rw[hs]; exact List.not_mem_nil
  unfold dA at h1
  rw[List.mem_filter] at h1
  have h2:¬ lV p s r=true:=fun q=>h1 ⟨List.mem_range.2 hr,q⟩
  unfold lV at h2
  rw[decide_eq_true_eq] at h2
  unfold dAt
  omega
 exact⟨A,fun r i j hr hij hj=>h.lt r i j hij (Nat.le_trans hj (hd r hr)),fun r i hr hi y hy=>(h.fst r i hr (Nat.le_trans hi (hd r hr)) y hy).2⟩
def vH (p:Pg) (ls:List Ln) (x y:Pl):Prop:=x.2 < (bJ (eE ls.length p ls) y.1 y.2).getD x.1 0
section
variable {p:Pg} {ls:List Ln} {A:Nat→Nat→Nat}
theorem mR.le (h:mR p ls A) {r i j:Nat} (hr:r < ls.length) (hij:i≤j) (hj:j≤aW p r):A r i≤A r j:=by
 rcases Nat.lt_or_eq_of_le hij with q | q
 ·exact Nat.le_of_lt (h.lt r i j hr q hj)
 ·rw[q]; exact Nat.le_refl _
theorem mR.ord (hC:bL p ls) (h:mR p ls A) {r i c:Nat} (hr:r < ls.length) (hi:i≤aW p r):(bJ (eE ls.length p ls) r i).getD c 0=0∨A c ((bJ (eE ls.length p ls) r i).getD c 0 - 1) < A r i:=by
 have hT:Clo p ls fun r i c k=>k=0∨A c (k - 1) < A r i:=by
  refine⟨fun _ _ _=>.inl rfl,fun r i hr hi=>?_,fun r i y hr hi hy=>.inr (h.fst r i hr hi y hy),fun r i b m c k _ _ _ h0 _ h1 h2=>?_⟩
  ·by_cases e:i=0
   ·exact .inl e
   ·exact .inr (h.lt r (i - 1) i hr (by omega) hi)
  ·rcases h2 with h2 | h2
   ·exact .inl h2
   ·rcases h1 with h1 | h1
    ·omega
    ·exact .inr (Nat.lt_trans h2 h1)
 exact hT.ord hC.fok (by have:=hC.n64; have:=hC.len; omega) hr hi c
theorem mR.own (hC:bL p ls) (h:mR p ls A) {r i:Nat} (hr:r < ls.length) (hi:i≤aW p r):(bJ (eE ls.length p ls) r i).getD r 0=i:=by
 have h1:=h.ord hC (c:=r) hr hi
 have hX:=n9 hC
 have h2:=hX.own r i hr hi
 have h3:=hX.ok.bd r i r hr hi
 generalize (bJ (eE ls.length p ls) r i).getD r 0=k at *
 by_cases e:k=i
 ·exact e
 ·rcases h1 with h1 | h1
  ·omega
  ·have:=h.le hr (show i≤k - 1 by omega) (by omega)
   omega
theorem mR.mono (hC:bL p ls) (h:mR p ls A) {r c:Nat} (hr:r < ls.length):∀(i d:Nat),i+d≤aW p r→(bJ (eE ls.length p ls) r i).getD c 0≤(bJ (eE ls.length p ls) r (i+d)).getD c 0
 | _,0,_=>Nat.le_refl _
 | i,d+1,hi=>by
  have ih:=h.mono hC (c:=c) hr i d (by omega)
  have hX:=n9 hC
  have ho:=h.own hC hr (i:=i+d+1) (by omega)
  have:=hX.join r (i+d+1) r c hr (by omega) hr (by rw[ho]; omega)
  rw[ho,show i+d+1 - 1=i+d by omega] at this
  exact Nat.le_trans ih this
theorem mR.bef (hC:bL p ls) (h:mR p ls A) {x y:Pl} (hx:x.1 < ls.length) (hy:y.1 < ls.length) (hyl:y.2 < aW p y.1) (hb:vH p ls x y):A x.1 x.2 < A y.1 y.2:=by
 unfold vH at hb
 have h1:=h.ord hC (c:=x.1) hy (Nat.le_of_lt hyl)
 have h3:=(n9 hC).ok.bd y.1 y.2 x.1 hy (Nat.le_of_lt hyl)
 generalize (bJ (eE ls.length p ls) y.1 y.2).getD x.1 0=k at *
 rcases h1 with h1 | h1
 ·omega
 ·exact Nat.lt_of_le_of_lt (h.le hx (by omega) (by omega)) h1
theorem mR.trans (hC:bL p ls) (h:mR p ls A) {x y z:Pl} (hy:y.1 < ls.length) (hz:z.1 < ls.length) (hzl:z.2 < aW p z.1) (h1:vH p ls x y) (h2:vH p ls y z):vH p ls x z:=by
 unfold vH at *
 have hX:=n9 hC
 have h3:=hX.join z.1 z.2 y.1 x.1 hz (Nat.le_of_lt hzl) hy (by omega)
 have h4:=hX.ok.bd z.1 z.2 y.1 hz (Nat.le_of_lt hzl)
 generalize (bJ (eE ls.length p ls) z.1 z.2).getD y.1 0=m at *
 have h5:=h.mono hC (c:=x.1) hy y.2 (m - 1 - y.2) (by omega)
 rw[show y.2+(m - 1 - y.2)=m - 1 by omega] at h5
 omega
theorem mR.same (hC:bL p ls) (h:mR p ls A) {x y:Pl} (hy:y.1 < ls.length) (hyl:y.2 < aW p y.1) (e:x.1=y.1):vH p ls x y↔x.2 < y.2:=by
 unfold vH
 rw[e,h.own hC hy (Nat.le_of_lt hyl)]
end
set_option linter.unusedVariables false
def inP (p:Pg) (z:Int×Int):Bool:=decide (0≤z.1) && decide (z.1 < p.acts.length) && decide (0≤z.2) && decide (z.2 < aW p z.1.toNat)
def MO (p:Pg) (x y:Int×Int):AV:=if (cL p).1.2=0 then(if (inP p x && inP p y)=true then .tup [.sc (.bool (decide (x.2.toNat < (bJ (eE (cL p).2.length p (cL p).2) y.1.toNat y.2.toNat).getD x.1.toNat 0))),.sc (.int .i64 0)] else .tup [.sc (.bool false),.sc (.int .i64 3)]) else .tup [.sc (.bool false),.sc (.int .i64 (cL p).1.2)]
instance (p:Pg) (x y:Int×Int):PV (MO p x y):=by
 unfold MO
 split
 ·split<;>infer_instance
 ·infer_instance
def zR (z:Int×Int):List AV:=[.sc (.int .i64 z.1),.sc (.int .i64 z.2)]
instance (z:Int×Int):PR (zR z):=by unfold zR; infer_instance
def xyR (x y:Int×Int):List (List AV):=[zR x,zR y]
instance (x y:Int×Int):PRs (xyR x y):=by unfold xyR; infer_instance
def xyA (x y:Int×Int) (k:Nat):Int×Int:=if k=0 then x else y
theorem VD (x y:Int×Int) {k:Nat} (h:k < 2):cQ (xyR x y) (k:Int)=some (zR (xyA x y k)):=by
 match k,h with
 | 0,_=>rfl
 | 1,_=>rfl
set_option maxHeartbeats 16000000 in
theorem rN (p:Pg) (hp:POK p) (x y:Int×Int):aD Tryz.prog 31 [dH p,plA x,plA y] (MO p x y):=by
 refine aD.mkI cF31 (nlB rfl) ?_
 have hc:=rP p hp
 have e0:=eS p.acts
 unfold HG at hc
 unfold MO
 unfold plA dH at *
 by_cases h:(cL p).1.2=0
 ·rw[if_pos h] at hc ⊢
  have hC:=mX h
  rw[h] at hc
  generalize (cL p).2=ls at *
  have ho:=HB p ls hC hp
  have hOO:OOK p ls.length (eE ls.length p ls):=EF p ls hC
  generalize eE ls.length p ls=o at *
  have hck:PV (ckV p ls):=inferInstance
  refine aA ?_
  refine AWP.loop (fun k:Nat=>[(3,.cptr [.sc (.int .i64 p.cells),.list 1 (bV p.acts)]),(4,.cptr (zR x)),(5,.cptr (zR y)),(8,ckV p ls),(24,.list 2 (xyR x y)),(25,.sc (.int .i64 ((2:Nat):Int))),(26,.sc (.int .i64 (k:Int)))]) (fun _=>[]) (fun k=>k≤2∧(∀ j,j < k→inP p (xyA x y j)=true)) (fun k=>2 - k) 0 ⟨Nat.zero_le _,fun j hj=>absurd hj (Nat.not_lt_zero j)⟩ ?_ ?_
  ·unfold zR xyR
   exact Sub.w [] []
  rintro k ⟨hk,hI⟩
  refine aA ?_
  refine AWP.condD rfl (fun h2=>?_) (fun h2=>?_)
  ·have hx:=VD x y h2
   have hnb:inP p (xyA x y k)=false→(inP p x && inP p y)=false:=fun e=>by
    unfold xyA at e
    split at e
    ·rw[e]; rfl
    ·rw[e,Bool.and_false]
   have hyb:inP p (xyA x y k)=true→∀ j,j < k+1→inP p (xyA x y j)=true:=fun e j hj=>by
    by_cases ej:j=k
    ·rw[ej]; exact e
    ·exact hI j (by omega)
   obtain⟨z,hz⟩:∃ z,z=xyA x y k:=⟨_,rfl⟩
   rw[← hz] at hx hnb hyb
   clear hz
   obtain⟨z1,z2⟩:=z
   have hx:cQ (xyR x y) (k:Int)=some [.sc (.int .i64 z1),.sc (.int .i64 z2)]:=hx
   have hin:inP p (z1,z2)=(decide (0≤z1) && decide (z1 < p.acts.length) && decide (0≤z2) && decide (z2 < aW p z1.toNat)):=rfl
   refine aA ?_
   by_cases c1:z1 < 0
   ·rw[dTr c1]
    rw[hnb (by rw[hin,dFa (show¬ 0≤z1 by omega)]; simp),if_neg (by decide)]
    refine aA ?_
    refine DK.nil ⟨by kernel_rfl,?_⟩
    refine aA ?_
    exact aN.w
   rw[dFa c1]
   refine aA ?_
   rw[e0]
   refine aA ?_
   by_cases c2:z1≥(p.acts.length:Int)
   ·rw[dTr c2]
    rw[hnb (by rw[hin,dFa (show¬ z1 < p.acts.length by omega)]; simp),if_neg (by decide)]
    refine aA ?_
    refine DK.nil ⟨by kernel_rfl,?_⟩
    refine aA ?_
    exact aN.w
   rw[dFa c2]
   refine aA ?_
   by_cases c3:z2 < 0
   ·rw[dTr c3]
    rw[hnb (by rw[hin,dFa (show¬ 0≤z2 by omega)]; simp),if_neg (by decide)]
    refine aA ?_
    refine DK.nil ⟨by kernel_rfl,?_⟩
    refine aA ?_
    exact aN.w
   rw[dFa c3]
   obtain⟨r,rfl⟩:∃ r:Nat,z1=r:=⟨z1.toNat,by omega⟩
   have hrl:r < p.acts.length:=by omega
   have hpx:=uD p.acts r hrl
   have hlA:=c8 (gEg hrl)
   rw[show((r:Int)).toNat=r from rfl,hlA] at hin
   generalize p.acts[r]=l at *
   have e1:=fF l
   refine aA ?_
   rw[e1]
   refine aA ?_
   by_cases c4:z2≥(l.length:Int)
   ·rw[dTr c4]
    rw[hnb (by rw[hin,dFa (show¬ z2 < l.length by omega)]; simp),if_neg (by decide)]
    refine aA ?_
    refine DK.nil ⟨by kernel_rfl,?_⟩
    refine aA ?_
    exact aN.w
   rw[dFa c4]
   refine aA ?_
   refine DK.nil ⟨by kernel_rfl,?_⟩
   refine aA ?_
   refine⟨k+1,⟨by omega,hyb (by rw[hin,dTr (show 0≤(r:Int) by omega),dTr (show(r:Int) < p.acts.length by omega),dTr (show 0≤z2 by omega),dTr (show z2 < l.length by omega)]; rfl)⟩,by omega,?_⟩
   unfold zR
   exact Sub.w [] []
  ·have hx0:inP p x=true:=hI 0 (by omega)
   have hy0:inP p y=true:=hI 1 (by omega)
   rw[hx0,hy0,if_pos (by rfl)]
   unfold inP at hx0 hy0
   simp only[Bool.and_eq_true,decide_eq_true_eq] at hx0 hy0
   obtain⟨⟨⟨a1,a2⟩,a3⟩,a4⟩:=hx0
   obtain⟨⟨⟨b1,b2⟩,b3⟩,b4⟩:=hy0
   clear hI
   obtain⟨x1,x2⟩:=x
   obtain⟨y1,y2⟩:=y
   dsimp only at a1 a2 a3 a4 b1 b2 b3 b4 ⊢
   obtain⟨a,rfl⟩:∃ r:Nat,x1=r:=⟨x1.toNat,by omega⟩
   obtain⟨i,rfl⟩:∃ r:Nat,x2=r:=⟨x2.toNat,by omega⟩
   obtain⟨b,rfl⟩:∃ r:Nat,y1=r:=⟨y1.toNat,by omega⟩
   obtain⟨j,rfl⟩:∃ r:Nat,y2=r:=⟨y2.toNat,by omega⟩
   simp only[Int.toNat_natCast] at *
   have hn:=hC.len
   have hn64:=hC.n64
   have hr2:cQ (row1 ls.length fun b=>AV.list 64 ((cR o b).map knR)) (b:Int)=some [.list 64 ((cR o b).map knR)]:=by
    rw[iU,eP (by omega)]
   have hr3:cQ ((cR o b).map knR) (j:Int)=some (knR (bJ o b j)):=by
    have:=hOO.rows b (by omega)
    rw[iU,List.getElem?_map,gEg (by omega)]
    unfold bJ
    rw[List.getD_eq_getElem?_getD,gEg (by omega)]
    rfl
   have hrl:(bJ o b j).length=64:=hOO.row b j (by omega) (by omega)
   have hr4:=uF (k:=bJ o b j) (b:=a) (by omega)
   have hdr:(knR (bJ o b j)).drop (a * 1)=.sc (.int .i64 ((bJ o b j).getD a 0:Int))::(knR (bJ o b j)).drop (a * 1+1):=by
    have h5:=(jJ (bJ o b j)).trans hrl
    rw[Nat.mul_one,List.drop_eq_getElem_cons (by omega)]
    congr 1
    have:=(gEs.1 hr4).2
    exact this
   have h64:a < 64:=by omega
   have hov:PV (xP ls.length o):=inferInstance
   unfold zR
   unfold xP at *
   refine aA ?_
   refine DK.o rfl (iH rfl rfl rfl h64) ?_
   refine DK.o rfl (fK rfl hdr) ?_
   refine aA ?_
   refine DK.nil ⟨by kernel_rfl,?_⟩
   refine aA ?_
   exact aN.w
 ·rw[if_neg h] at hc ⊢
  generalize (cL p).1.2=e at *
  refine aA ?_
  rw[show(e != 0)=true by simpa using h]
  refine aA ?_
  exact aN.w
set_option linter.unusedVariables false
def kFi (z:Pl4):Nat:=z.1.1.val * 128+z.1.2.val
def kSe (z:Pl4):Nat:=z.2.1.val * 128+z.2.2.val
theorem x4 {y x:Pl} (h1:y.1 < 64) (h2:y.2 < 128) (h3:x.1 < 64) (h4:x.2 < 128):kFi (mk4 y x)=kPl y∧kSe (mk4 y x)=kPl x:=by
 unfold kFi kSe kPl mk4
 simp only[Fin.ofNat,Nat.mod_eq_of_lt h1,Nat.mod_eq_of_lt h2,Nat.mod_eq_of_lt h3,Nat.mod_eq_of_lt h4]
 exact⟨trivial,trivial⟩
structure ROK (L:List Pl) (s:RS):Prop where
 v:∀ y∈s.1,y.1 < 64∧y.2 < 128
 lt:∀ y∈s.1,∀ x∈L,kPl y < kPl x
 pw:s.1.Pairwise fun a b=>kPl a < kPl b
 nd:s.2.Nodup
 z:∀ z∈s.2,kFi z < kSe z∧∀ x∈L,kSe z < kPl x
theorem BX {p:Pg} {ls:List Ln} {o:Ord}:∀(L:List Pl) (s:RS),(∀ x∈L,x.1 < 64∧x.2 < 128)→L.Pairwise (fun a b=>kPl a < kPl b)→ROK L s→(L.foldl (fun s x=>g8 p ls o x.1 s x.2) s).2.Nodup∧∀ z∈(L.foldl (fun s x=>g8 p ls o x.1 s x.2) s).2,kFi z < kSe z
 | [],s,_,_,h=>⟨h.nd,fun z hz=>(h.z z hz).1⟩
 | a::L,s,hv,hL,h=>by
  obtain⟨l1,l2⟩:=List.pairwise_cons.1 hL
  have hva:=hv a (by simp)
  rw[List.foldl_cons]
  refine BX L _ (fun x hx=>hv x (by simp[hx])) l2 ?_
  unfold g8
  cases iP ls (a.1,a.2) with
  | none=>exact⟨h.v,fun y hy x hx=>h.lt y hy x (by simp[hx]),h.pw,h.nd,fun z hz=>⟨(h.z z hz).1,fun x hx=>(h.z z hz).2 x (by simp[hx])⟩⟩
  | some c=>
   dsimp only
   have hf:∀ y∈s.1.filter fun y=>gB p ls o y (a.1,a.2),y∈s.1:=fun y hy=>(List.mem_filter.1 hy).1
   refine⟨fun y hy=>?_,fun y hy x hx=>?_,?_,?_,fun z hz=>?_⟩
   ·rcases List.mem_append.1 hy with hy | hy
    ·exact h.v y hy
    ·rw[List.mem_singleton.1 hy]; exact hva
   ·rcases List.mem_append.1 hy with hy | hy
    ·exact h.lt y hy x (by simp[hx])
    ·rw[List.mem_singleton.1 hy]; exact l1 x hx
   ·exact List.pairwise_append.2 ⟨h.pw,List.pairwise_singleton _ _,fun y hy x hx=>by rw[List.mem_singleton.1 hx]; exact h.lt y hy a (by simp)⟩
   ·refine List.nodup_append.2 ⟨h.nd,?_,fun z hz w hw e=>?_⟩
    ·refine List.Pairwise.map _ (R:=fun x y=>x∈s.1∧y∈s.1∧kPl x < kPl y) (fun x y hxy e=>?_) (List.Pairwise.filter _ (List.Pairwise.imp_of_mem (fun hx hy hxy=>⟨hx,hy,hxy⟩) h.pw))
     have q1:=x4 (h.v x hxy.1).1 (h.v x hxy.1).2 hva.1 hva.2
     have q2:=x4 (h.v y hxy.2.1).1 (h.v y hxy.2.1).2 hva.1 hva.2
     have:kFi (mk4 x (a.1,a.2))=kFi (mk4 y (a.1,a.2)):=by rw[e]
     have h3:kPl x=kPl y:=q1.1.symm.trans (this.trans q2.1)
     omega
    ·obtain⟨y,hy,rfl⟩:=List.mem_map.1 hw
     have q1:=x4 (h.v y (hf y hy)).1 (h.v y (hf y hy)).2 hva.1 hva.2
     have:=(h.z z hz).2 a (by simp)
     rw[e,show kSe (mk4 y (a.1,a.2))=kPl a from q1.2] at this
     exact Nat.lt_irrefl _ this
   ·rcases List.mem_append.1 hz with hz | hz
    ·exact⟨(h.z z hz).1,fun x hx=>(h.z z hz).2 x (by simp[hx])⟩
    ·obtain⟨y,hy,rfl⟩:=List.mem_map.1 hz
     have q1:=x4 (h.v y (hf y hy)).1 (h.v y (hf y hy)).2 hva.1 hva.2
     rw[show kFi (mk4 y (a.1,a.2))=kPl y from q1.1,show kSe (mk4 y (a.1,a.2))=kPl a from q1.2]
     exact⟨h.lt y (hf y hy) a (by simp),fun x hx=>l1 x hx⟩
theorem I5 {p:Pg} {ls:List Ln} (hC:bL p ls) (o:Ord):(∀ z∈g9 p ls o,kFi z < kSe z)∧(g9 p ls o).Pairwise fun x y=>zI x < zI y:=by
 have hn64:=hC.n64
 have h:=BX (p:=p) (ls:=ls) (o:=o) (oZ p) ([],[]) (fun x hx=>by
  obtain⟨q1,q2⟩:=mD.1 hx
  have:=hC.sok x.1
  exact⟨by omega,by omega⟩) (vL hC.sok _) ⟨fun _ h=>(by cases h),fun _ h=>(by cases h),List.Pairwise.nil,List.nodup_nil,fun _ h=>(by cases h)⟩
 rw[← qA] at h
 unfold g9 pG
 have hp:=List.mergeSort_perm (iO p ls o).2 fun x y=>!(ltOf xJ) y x
 refine⟨fun z hz=>h.2 z (hp.mem_iff.1 hz),?_⟩
 have h1:((iO p ls o).2.mergeSort fun x y=>!(ltOf xJ) y x).Pairwise fun x y=>(!(ltOf xJ) y x)=true:=by
  refine List.pairwise_mergeSort (fun x y z h1 h2=>?_) (fun x y=>?_) _
  ·simp only[tE,Bool.not_eq_true',decide_eq_false_iff_not] at *
   omega
  ·simp only[tE,Bool.or_eq_true,Bool.not_eq_true',decide_eq_false_iff_not]
   omega
 have h2:=hp.nodup_iff.2 h.1
 refine List.Pairwise.imp_of_mem (fun {x y} hx hy hxy=>?_) (List.Pairwise.and h1 h2)
 obtain⟨q1,q2⟩:=hxy
 rw[tE] at q1
 simp only[Bool.not_eq_true',decide_eq_false_iff_not] at q1
 by_cases e:zI x=zI y
 ·exact absurd (L0 e) q2
 ·omega
set_option maxHeartbeats 4000000 in
theorem DM (a b c d:Nat):aD Tryz.prog 33 [.agg [.sc (.int .i64 (a:Int)),.sc (.int .i64 (b:Int))],.agg [.sc (.int .i64 (c:Int)),.sc (.int .i64 (d:Int))]] (.sc (.bool (decide (a < c) || (decide (a=c) && decide (b < d))))):=by
 refine aD.mkI cF33 (nlB rfl) ?_
 refine aA ?_
 by_cases h1:a < c
 ·rw[dTr h1]
  refine aA ?_
  exact aN.w
 rw[dFa h1]
 refine aA ?_
 by_cases h2:a=c
 ·rw[dTr h2]
  refine aA ?_
  exact aN.w
 ·rw[dFa h2]
  refine aA ?_
  exact aN.w
end Go.Proofs.YtkjoolaahocgdaaGreat
