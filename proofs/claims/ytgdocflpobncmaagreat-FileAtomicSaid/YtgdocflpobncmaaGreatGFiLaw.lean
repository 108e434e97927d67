import Derived.Test.YtgdocflpobncmaaGreatGFtM2
import Derived.Test.YtgdocflpobncmaaGreatGFtB6
import Derived.Test.YtgdocflpobncmaaGreatGFtL8
import Derived.Test.YtgdocflpobncmaaGreatGFtA4
import Derived.Test.YtgdocflpobncmaaGreatGFtM3
import Derived.Test.YtgdocflpobncmaaGreatGAvL
import Derived.Test.YtgdocflpobncmaaGreatGAvQ
import Derived.Test.YtgdocflpobncmaaGreatRows
namespace Go.Proofs.YtgdocflpobncmaaGreat
open Go.Av Go.Proofs
set_option maxRecDepth 20000
def mkB (b:List Bool) (l:List Nat):List Bool:=l.foldl (fun b x=>b.set x true) b
theorem xQ (b:List Bool) (l:List Nat) (x:Nat):mkB b (l++[x])=(mkB b l).set x true:=by simp[mkB]
theorem nE:∀(l:List Nat) (b:List Bool),(mkB b l).length=b.length
 | [],_=>rfl
 | x::l,b=>by
  show(mkB (b.set x true) l).length=_
  rw[nE l,List.length_set]
abbrev gB (b:List Bool) (y:Nat):Bool:=b.getD y false
theorem v6:∀(l:List Nat) (b:List Bool) (y:Nat),y < b.length→(gB (mkB b l) y=true↔gB b y=true∨y∈l)
 | [],b,y,_=>by simp[mkB]
 | x::l,b,y,h=>by
  show gB (mkB (b.set x true) l) y=true↔_
  rw[v6 l _ y (by rw[List.length_set]; exact h)]
  have:gB (b.set x true) y=true↔gB b y=true∨y=x:=by
   unfold gB
   rw[List.getD_eq_getElem?_getD,List.getElem?_set,List.getD_eq_getElem?_getD]
   by_cases e:x=y
   ·subst e; simp[h]
   ·simp[e,Ne.symm e]
  rw[this,List.mem_cons]
  exact or_assoc
def blR (b:List Bool):List (List AV):=b.map fun x=>[bv x]
theorem lF (b:List Bool):(blR b).length=b.length:=by simp[blR]
theorem wH (b:List Bool) (k:Nat) (h:k < b.length):bY (blR b) (k:Int)=some [bv (gB b k)]:=by
 have:=dX (fun x:Bool=>[bv x]) b k h
 rw[show gB b k=b[k] by simp[gB,h]]
 exact this
instance (l:List Bool):PRs (blR l):=by unfold blR; infer_instance
theorem LM (n:Nat):List.replicate n [bv false]=blR (List.replicate n false):=by simp[blR]
theorem IX (n y:Nat):gB (List.replicate n false) y=false:=by
 unfold gB
 rw[List.getD_eq_getElem?_getD,List.getElem?_replicate]
 split<;>rfl
def acG (acs:List Ac) (i:Nat):List Nat:=match acs[i]? with
 | some a=>(List.range a.2.2.length).map fun j=>a.2.1+j
 | none=>[]
theorem zS (acs:List Ac):∀ n,n≤acs.length→(List.range n).flatMap (acG acs)=acX (acs.take n)
 | 0,_=>by simp[acX]
 | n+1,h=>by
  rw[List.range_succ,List.flatMap_append,zS acs n (by omega),List.take_add_one,gEg (by omega)]
  unfold acX
  rw[List.flatMap_append]
  simp only[List.flatMap_cons,List.flatMap_nil,List.append_nil,Option.toList_some]
  congr 1
  unfold acG
  rw[gEg (by omega)]
theorem qQ (acs:List Ac):(List.range acs.length).flatMap (acG acs)=acX acs:=by
 rw[zS acs _ (Nat.le_refl _),List.take_length]
theorem C0 (w lo:Nat) (bm:List (Nat×Nat)):∀(xs:List Nat) (out:List Ac),(xs.foldl (fJ w lo bm) out).length≤out.length+xs.length
 | [],_=>Nat.le_refl _
 | x::xs,out=>by
  have h1:=C0 w lo bm xs (fJ w lo bm out x)
  have h2:=EF w lo bm out x
  show(xs.foldl (fJ w lo bm) (fJ w lo bm out x)).length≤_
  simp only[List.length_cons]
  omega
theorem j4 {r:Rq} (h:(dD [r]).2=0):(cB r).2=0:=(wJ h).2.1 r (by simp)
theorem qU {r:Rq} (hr:r.ok) (h:(dD [r]).2=0):(lT (bmF [r]) 1).length≤300000∧(∀ y,y∈acX (lT (bmF [r]) 1)↔y∈jF (cB r).1)∧(acX (lT (bmF [r]) 1)).length≤300000:=by
 have g:=xE (l:=[r]) (fun q hq=>by rw[List.mem_singleton.1 hq]; exact hr) h
 obtain⟨h1,h2⟩:=AF g
 have hs:(f7 (bmF [r])).length=(bmF [r]).length:=by unfold f7; rw[List.length_mergeSort,List.length_map]
 obtain⟨_,k2,k3,_,_⟩:=g8 hr (j4 h)
 have hx:acX (lT (bmF [r]) 1)=f7 (bmF [r]):=LG _ _ _ _
 refine⟨?_,fun y=>?_,by rw[hx]; omega⟩
 ·have:=C0 (((f7 (bmF [r])).getLastD 0 - (f7 (bmF [r])).headD 0+1) / 1) ((f7 (bmF [r])).headD 0) (bmF [r]) (f7 (bmF [r])) []
  simp only[List.length_nil] at this
  exact Nat.le_trans this (by omega)
 ·rw[hx]
  unfold f7
  rw[List.mem_mergeSort]
  unfold bmF
  rw[mI]
  have e:o6 (psN [r]) (dsN [r]) [r].length=(jF (cB r).1).zip r.data:=by
   unfold o6 psN dsN
   simp
  rw[e,List.map_fst_zip (by omega)]
  simp
theorem ME {q0 q1 f:List Nat} {atomic:Bool} (h:OZ [q0,q1] [List.replicate q0.length 1,List.replicate q1.length 2] atomic f):
  (∀ x,(x∉q0→x∉q1→gN f x=0)∧(x∈q0→x∉q1→gN f x=1)∧(x∉q0→x∈q1→gN f x=2)∧(x∈q0→x∈q1→gN f x=1∨gN f x=2)) ∧
  (atomic=true→∀ x y,x∈q0→x∈q1→y∈q0→y∈q1→gN f x=1→gN f y=2→False):=by
 refine⟨fun x=>?_,fun ha x y x0 x1 y0 y1 hx hy=>?_⟩
 ·rcases h.A x with⟨g1,g2⟩ | ⟨i,k,g1,g2⟩
  ·have n0:x∉q0:=fun hm=>by
    obtain⟨k,hk,e⟩:=List.mem_iff_getElem.1 hm
    exact g2 0 k (by show q0[k]?=_; rw[gEg hk,e])
   have n1:x∉q1:=fun hm=>by
    obtain⟨k,hk,e⟩:=List.mem_iff_getElem.1 hm
    exact g2 1 k (by show q1[k]?=_; rw[gEg hk,e])
   exact⟨fun _ _=>g1,fun h=>absurd h n0,fun _ h=>absurd h n1,fun h=>absurd h n0⟩
  ·match i,g1,g2 with
   | 0,g1,g2=>
    replace g1:q0[k]?=some x:=g1
    replace g2:(List.replicate q0.length 1)[k]?=some (gN f x):=g2
    have m0:=List.mem_of_getElem? g1
    rw[List.getElem?_replicate,if_pos (gEs.1 g1).1] at g2
    injection g2 with g2
    exact⟨fun h=>absurd m0 h,fun _ _=>g2.symm,fun h=>absurd m0 h,fun _ _=>.inl g2.symm⟩
   | 1,g1,g2=>
    replace g1:q1[k]?=some x:=g1
    replace g2:(List.replicate q1.length 2)[k]?=some (gN f x):=g2
    have m1:=List.mem_of_getElem? g1
    rw[List.getElem?_replicate,if_pos (gEs.1 g1).1] at g2
    injection g2 with g2
    exact⟨fun _ h=>absurd m1 h,fun _ h=>absurd m1 h,fun _ _=>g2.symm,fun _ _=>.inr g2.symm⟩
   | i+2,g1,_=>
    rw[show gL [q0,q1] (i+2)=[] from rfl] at g1
    simp at g1
 ·rcases h.B ha with g | ⟨j,hj,g⟩
  ·have:=g 0
   replace this:q0=[]:=this
   rw[this] at x0
   cases x0
  ·match j,hj,g with
   | 0,_,g=>
    obtain⟨k,hk,e⟩:=List.mem_iff_getElem.1 y0
    have:=g k y 1 (by show q0[k]?=_; rw[gEg hk,e]) (by show(List.replicate q0.length 1)[k]?=_; rw[List.getElem?_replicate,if_pos hk])
    omega
   | 1,_,g=>
    obtain⟨k,hk,e⟩:=List.mem_iff_getElem.1 x1
    have:=g k x 2 (by show q1[k]?=_; rw[gEg hk,e]) (by show(List.replicate q1.length 2)[k]?=_; rw[List.getElem?_replicate,if_pos hk])
    omega
   | j+2,hj,_=>
    replace hj:j+2 < 2:=hj
    omega
set_option maxHeartbeats 8000000 in
theorem O4 {rows:List (List AV)} [PRs rows] {l:List Rq} {atomic:Bool} {seed:Nat} {q0 q1:List Nat} {B0 B1:List Bool} (cc:aF Tryz.prog 36 [.list 19 rows,bv atomic,.sc (.int .u64 (seed:Nat))] [] (PX l atomic)) (hA:(dD l).2=0) (hps:psN l=[q0,q1]) (hds:dsN l=[List.replicate q0.length 1,List.replicate q1.length 2])
  (l0:B0.length=65536) (l1:B1.length=65536) (m0:∀ k,k < 65536→(gB B0 k=true↔k∈q0)) (m1:∀ k,k < 65536→(gB B1 k=true↔k∈q1)):
  AWP Tryz.prog F8.n 0 (hG [1,1,1,1,1,1] F8.code) (aJ F8.res (bv true)) [(9,.list 19 rows),(2,bv atomic),(3,.sc (.int .u64 (seed:Nat))),(12,.cptr [.list 1 (blR B0),.list 1 (blR B1)])] []:=by
 have hw:=works_ok
 show AWP _ _ _ (.seq _ _) _ _ _
 refine AWP.seq ?_
 refine AWP.region ?_
 refine Reg.o rfl rfl ?_
 refine Reg.o rfl rfl ?_
 refine Reg.o rfl rfl ?_
 refine Reg.c (Nat.le_refl _) rfl (cc.mono ?_)
 rintro res H' ⟨rfl,hr⟩
 rcases hr with⟨h,_⟩ | ⟨_,f,hf,rfl⟩
 ·exact absurd hA h
 rw[hps,hds] at hf
 obtain⟨w1,w2⟩:=ME hf
 have hfl:=hf.fl
 have hbf:=dB f
 refine aA ?_
 rw[hbf,hfl]
 refine aA ?_
 have hl0:=lF B0
 have hl1:=lF B1
 refine AWP.loop (fun s:Nat×Bool×Bool=>[(2,bv atomic),(12,.cptr [.list 1 (blR B0),.list 1 (blR B1)]),(20,.list 1 (bys f)),(22,.ptr 0 0 0 0),(23,iv s.1)]) (fun s=>[[.cells 3 [[bv false,bv s.2.1,bv s.2.2]]]]) (fun s=>s.1≤65536∧(s.2.1=true→∃ x,x∈q0∧x∈q1∧gN f x=1)∧(s.2.2=true→∃ x,x∈q0∧x∈q1∧gN f x=2)) (fun s=>65536 - s.1) (0,false,false) ⟨Nat.zero_le _,fun h=>(by cases h),fun h=>(by cases h)⟩ ?_ ?_
 ·show Sub _ _ _ _ [(2,bv atomic),(12,.cptr [.list 1 (blR B0),.list 1 (blR B1)]),(20,.list 1 (bys f)),(22,.ptr 0 0 0 0),(23,iv 0)] [[.cells 3 [[bv false,bv false,bv false]]]]
  exact Sub.wl [] [[(0,0)]]
 rintro⟨k,n1,n2⟩ ⟨hk,hn1,hn2⟩
 replace hk:k≤65536:=hk
 replace hn1:n1=true→∃ x,x∈q0∧x∈q1∧gN f x=1:=hn1
 replace hn2:n2=true→∃ x,x∈q0∧x∈q1∧gN f x=2:=hn2
 show AWP _ _ _ _ _ [(2,bv atomic),(12,.cptr [.list 1 (blR B0),.list 1 (blR B1)]),(20,.list 1 (bys f)),(22,.ptr 0 0 0 0),(23,iv k)] [[.cells 3 [[bv false,bv n1,bv n2]]]]
 refine aA ?_
 rw[hbf,hfl]
 refine AWP.condN (k < 65536) rfl rfl (fun h=>?_) (fun h=>?_)
 ·have r0:=wH B0 k (by omega)
  have r1:=wH B1 k (by omega)
  have r2:=mH f k (by omega)
  rw[show f[k]'(by omega)=gN f k by simp[gN,hfl,h]] at r2
  obtain⟨v1,v2,v3,v4⟩:=w1 k
  have z0:=m0 k h
  have z1:=m1 k h
  cases g0:gB B0 k with
  | false=>
   have x0:k∉q0:=fun q=>by rw[z0.2 q] at g0; cases g0
   cases g1:gB B1 k with
   | false=>
    have x1:k∉q1:=fun q=>by rw[z1.2 q] at g1; cases g1
    rw[g0] at r0
    rw[g1] at r1
    rw[v1 x0 x1] at r2
    refine aA ?_
    refine DK.nil ⟨by kernel_rfl,?_⟩
    (refine aA ?_; refine⟨(k+1,n1,n2),⟨by omega,hn1,hn2⟩,by show 65536 - (k+1) < 65536 - k; omega,?_⟩; show Sub _ _ _ _ [(2,bv atomic),(12,.cptr [.list 1 (blR B0),.list 1 (blR B1)]),(20,.list 1 (bys f)),(22,.ptr 0 0 0 0),(23,iv ((k+1:Nat):Int))] [[.cells 3 [[bv false,bv n1,bv n2]]]]; exact Sub.wl [] [[(0,0)]])
   | true=>
    have x1:=z1.1 g1
    rw[g0] at r0
    rw[g1] at r1
    rw[v3 x0 x1] at r2
    refine aA ?_
    refine DK.nil ⟨by kernel_rfl,?_⟩
    (refine aA ?_; refine⟨(k+1,n1,n2),⟨by omega,hn1,hn2⟩,by show 65536 - (k+1) < 65536 - k; omega,?_⟩; show Sub _ _ _ _ [(2,bv atomic),(12,.cptr [.list 1 (blR B0),.list 1 (blR B1)]),(20,.list 1 (bys f)),(22,.ptr 0 0 0 0),(23,iv ((k+1:Nat):Int))] [[.cells 3 [[bv false,bv n1,bv n2]]]]; exact Sub.wl [] [[(0,0)]])
  | true=>
   have x0:=z0.1 g0
   cases g1:gB B1 k with
   | false=>
    have x1:k∉q1:=fun q=>by rw[z1.2 q] at g1; cases g1
    rw[g0] at r0
    rw[g1] at r1
    rw[v2 x0 x1] at r2
    refine aA ?_
    refine DK.nil ⟨by kernel_rfl,?_⟩
    (refine aA ?_; refine⟨(k+1,n1,n2),⟨by omega,hn1,hn2⟩,by show 65536 - (k+1) < 65536 - k; omega,?_⟩; show Sub _ _ _ _ [(2,bv atomic),(12,.cptr [.list 1 (blR B0),.list 1 (blR B1)]),(20,.list 1 (bys f)),(22,.ptr 0 0 0 0),(23,iv ((k+1:Nat):Int))] [[.cells 3 [[bv false,bv n1,bv n2]]]]; exact Sub.wl [] [[(0,0)]])
   | true=>
    have x1:=z1.1 g1
    rw[g0] at r0
    rw[g1] at r1
    rcases v4 x0 x1 with e | e
    ·rw[e] at r2
     refine aA ?_
     refine DK.nil ⟨by kernel_rfl,?_⟩
     (refine aA ?_; refine⟨(k+1,true,n2),⟨by omega,fun _=>⟨k,x0,x1,e⟩,hn2⟩,by show 65536 - (k+1) < 65536 - k; omega,?_⟩; show Sub _ _ _ _ [(2,bv atomic),(12,.cptr [.list 1 (blR B0),.list 1 (blR B1)]),(20,.list 1 (bys f)),(22,.ptr 0 0 0 0),(23,iv ((k+1:Nat):Int))] [[.cells 3 [[bv false,bv true,bv n2]]]]; exact Sub.wl [] [[(0,0)]])
    ·rw[e] at r2
     refine aA ?_
     refine DK.nil ⟨by kernel_rfl,?_⟩
     (refine aA ?_; refine⟨(k+1,n1,true),⟨by omega,hn1,fun _=>⟨k,x0,x1,e⟩⟩,by show 65536 - (k+1) < 65536 - k; omega,?_⟩; show Sub _ _ _ _ [(2,bv atomic),(12,.cptr [.list 1 (blR B0),.list 1 (blR B1)]),(20,.list 1 (bys f)),(22,.ptr 0 0 0 0),(23,iv ((k+1:Nat):Int))] [[.cells 3 [[bv false,bv n1,bv true]]]]; exact Sub.wl [] [[(0,0)]])
 ·cases atomic with
  | false=>
   refine aA ?_
   exact aJ.w
  | true=>
   cases n1 with
   | false=>
    refine aA ?_
    exact aJ.w
   | true=>
    cases n2 with
    | false=>
     refine aA ?_
     exact aJ.w
    | true=>
     obtain⟨x,a0,a1,a2⟩:=hn1 rfl
     obtain⟨y,b0,b1,b2⟩:=hn2 rfl
     exact(w2 rfl x y a0 a1 b0 b1 a2 b2).elim
theorem aF.viewU {P:Program} {f:FuncId} {args args':List AV} {a:AV} {v:Value} {H:Heap} (hp:aB P f args' (.tup [a,.sc v])) (ha:ToL (ToT (H++gh []) H.length (bW [])) (rho []) args args') {R:AV→Heap→Prop} (hR:R (.tup [.undef,.sc v]) H):aF P f args H R:=by
 refine⟨hp.1,fun M J w cargs hl hr hH hM=>?_⟩
 obtain⟨h1,h2⟩:=ha.spec
 obtain⟨M1,J1,s1,t1⟩:=nG (k:=0) (szs:=[]) (ids:=[]) (H':=[]) hH hM rfl rfl rfl trivial
 refine(hp.2 M1 J1 w cargs (by omega) (fun j c x a b=>?_) s1.mrep).mono ?_
 ·obtain⟨c0,hc0⟩:=aP h1 a
  exact t1 _ _ _ (h2 j c0 c hc0 a) (hr j c0 x hc0 b)
 ·rintro e w' ⟨cv,M',rfl,q1,q2,q3,q4,q5,q6,q7,q8,q9⟩
  refine⟨cv,M,J,.tup [.undef,.sc v],H,rfl,aB.step _ hH (fun _ _ h=>h) (fun β o h=>q7 β o (hM β o h)) q3 q4 q5 q6 q7 (fun _ _ h=>.inl h),?_,hR⟩
  cases q9 J with
  | tup _ cvs hc h=>
   refine .tup _ _ hc fun j c x a b=>?_
   match j,a with
   | 0,a=>injection a with a; subst a; exact .undef _
   | 1,a=>
    injection a with a
    subst a
    have:=h 1 (.sc v) x rfl b
    rw[this.sc_inv]
    exact .sc _
theorem z6 {n v k:Nat} (h:k < n):(List.replicate k v++List.replicate (n - k) 0).set k v=List.replicate (k+1) v++List.replicate (n - (k+1)) 0:=by
 rw[show n - k=(n - (k+1))+1 by omega,List.replicate_succ,List.set_append_right _ _ (by simp),List.length_replicate,Nat.sub_self,List.set_cons_zero,List.replicate_succ' (n:=k)]
 simp
def Rq.w (r:Rq) (v:Nat):Rq:={ r with data:=List.replicate r.data.length v }
theorem xW {r:Rq}:((dD [r]).2≠0→(qH [r] 1).2=(dD [r]).2)∧((dD [r]).2=0→qH [r] 1=(lT (bmF [r]) 1,0)):=by
 unfold qH
 refine⟨fun h=>by rw[if_pos h],fun h=>by rw[if_neg (fun q=>q h),if_neg (by omega)]; rfl⟩
set_option maxHeartbeats 8000000 in
theorem FO {x y:Rq} {atomic:Bool} {seed:Nat} (kx:x.kn) (ky:y.kn) (ox:x.off < 9223372036854775808) (oy:y.off < 9223372036854775808) (hsd:seed < 18446744073709551616):aB Tryz.prog 8 [.agg (rqR x),.agg (rqR y),bv atomic,.sc (.int .u64 seed)] (bv true):=by
 have hw:=works_ok
 have hrq:=MG (l:=[x,y]) (fun r hr=>by
  simp only[List.mem_cons,List.not_mem_nil,or_false] at hr
  rcases hr with rfl | rfl
  ·exact kx
  ·exact ky) (by simp)
 have hbx:=dB x.data
 have hby:=dB y.data
 have hok:(tG [x,y]).2=true→(∀ n v,n≤5000→(x.w v).ok∧(y.w v).ok)∧x.data.length≤5000∧y.data.length≤5000:=fun h=>by
  unfold tG at h
  split at h
  ·rename_i q
   simp only[List.all_cons,List.all_nil,Bool.and_true,Bool.and_eq_true,yP,Bool.not_eq_true',Bool.and_eq_false_imp,Bool.or_eq_false_iff,decide_eq_true_eq,decide_eq_false_iff_not] at q
   obtain⟨⟨⟨a1,a2⟩,a3⟩,⟨b1,b2⟩,b3⟩:=q
   have n1:x.data.length≤5000:=by
    by_cases z:300 < x.data.length
    ·have:=a3 z; omega
    ·omega
   have n2:y.data.length≤5000:=by
    by_cases z:300 < y.data.length
    ·have:=b3 z; omega
    ·omega
   exact⟨fun n v _=>⟨⟨a1,a2,ox,by show(List.replicate x.data.length v).length≤_; rw[List.length_replicate]; omega⟩,⟨b1,b2,oy,by show(List.replicate y.data.length v).length≤_; rw[List.length_replicate]; omega⟩⟩,n1,n2⟩
  ·cases h
 obtain⟨a1,k1,c1,b1,s1,z1,l1,p1,f1,k1',c1',b1',s1',z1',l1',p1',f1',Xe⟩:=pH kx
 obtain⟨a2,k2,c2,b2,s2,z2,l2,p2,f2,k2',c2',b2',s2',z2',l2',p2',f2',Ye⟩:=pH ky
 have hxe:rqR x=[iv a1,iv k1,iv c1,iv b1,iv s1,.list 1 (inR z1),.list 1 (inR l1),.list 1 (inR p1),.list 8 (aD f1),iv k1',iv c1',iv b1',iv s1',.list 1 (inR z1'),.list 1 (inR l1'),.list 1 (inR p1'),.list 8 (aD f1'),iv x.off,.list 1 (bys x.data)]:=Xe x.data
 have hye:rqR y=[iv a2,iv k2,iv c2,iv b2,iv s2,.list 1 (inR z2),.list 1 (inR l2),.list 1 (inR p2),.list 8 (aD f2),iv k2',iv c2',iv b2',iv s2',.list 1 (inR z2'),.list 1 (inR l2'),.list 1 (inR p2'),.list 8 (aD f2'),iv y.off,.list 1 (bys y.data)]:=Ye y.data
 have hx1:rqR (x.w 1)=[iv a1,iv k1,iv c1,iv b1,iv s1,.list 1 (inR z1),.list 1 (inR l1),.list 1 (inR p1),.list 8 (aD f1),iv k1',iv c1',iv b1',iv s1',.list 1 (inR z1'),.list 1 (inR l1'),.list 1 (inR p1'),.list 8 (aD f1'),iv x.off,.list 1 (bys (List.replicate x.data.length 1))]:=Xe _
 have hy1:rqR (y.w 2)=[iv a2,iv k2,iv c2,iv b2,iv s2,.list 1 (inR z2),.list 1 (inR l2),.list 1 (inR p2),.list 8 (aD f2),iv k2',iv c2',iv b2',iv s2',.list 1 (inR z2'),.list 1 (inR l2'),.list 1 (inR p2'),.list 8 (aD f2'),iv y.off,.list 1 (bys (List.replicate y.data.length 2))]:=Ye _
 replace hrq:aB Tryz.prog 31 [.list 19 [rqR x,rqR y]] (.tup [.list 19 (rqs (tG [x,y]).1),bv (tG [x,y]).2]):=hrq
 rw[hxe,hye] at hrq ⊢
 refine aB.mkI cF8 (nlB rfl) ?_
 refine aA ?_
 refine Reg.sub (fr':=[(30,.hsl 0 0 0 2),(9,.hsl 0 0 0 2),(2,bv atomic),(3,.sc (.int .u64 (seed:Nat)))]) (H':=[[.cells 19 [[iv a1,iv k1,iv c1,iv b1,iv s1,.list 1 (inR z1),.list 1 (inR l1),.list 1 (inR p1),.list 8 (aD f1),iv k1',iv c1',iv b1',iv s1',.list 1 (inR z1'),.list 1 (inR l1'),.list 1 (inR p1'),.list 8 (aD f1'),iv x.off,.list 1 (bys x.data)],[iv a2,iv k2,iv c2,iv b2,iv s2,.list 1 (inR z2),.list 1 (inR l2),.list 1 (inR p2),.list 8 (aD f2),iv k2',iv c2',iv b2',iv s2',.list 1 (inR z2'),.list 1 (inR l2'),.list 1 (inR p2'),.list 8 (aD f2'),iv y.off,.list 1 (bys y.data)]]]]) ?_ ?_
 ·exact Sub.wl [] [[(2,0)]]
 refine Reg.c (Nat.zero_le _) rfl (aF.viewU hrq ?va ?_)
 case va=>exact ToL.cons (wt2 rfl rfl rfl rfl) ToL.nil
 cases hq:(tG [x,y]).2 with
 | false=>
  refine aA ?_
  exact aJ.w
 | true=>
 obtain⟨hok,nx,ny⟩:=hok hq
 clear hrq hq
 have x1:=(hok 0 1 (by omega)).1
 have y2:=(hok 0 2 (by omega)).2
 have kx1:(x.w 1).kn:=kx
 have ky2:(y.w 2).kn:=ky
 have hC0:=IL (x:=x.w 1) (y:=y) (s:=0) kx1 ky (.inl ⟨rfl,rfl⟩) x1
 have hC1:=IL (x:=x.w 1) (y:=y.w 2) (s:=1) kx1 ky2 (.inr ⟨rfl,rfl⟩) y2
 have cc:=@MC [x.w 1,y.w 2] atomic seed (fun r hr=>by
  simp only[List.mem_cons,List.not_mem_nil,or_false] at hr
  rcases hr with rfl | rfl
  ·exact x1
  ·exact y2) (by simp) hsd
 unfold LB at hC0 hC1
 unfold rqs at cc
 rw[List.map_cons,List.map_cons,List.map_nil] at cc
 rw[hx1] at hC0 hC1 cc
 rw[hye] at hC0
 rw[hy1] at hC1 cc
 refine aA ?_
 obtain⟨fz,hfz⟩:∃ fz,fz=List.replicate 65536 false:=⟨_,rfl⟩
 have hbb:=LM 65536
 rw[← hfz] at hbb
 obtain⟨B0,hB0⟩:∃ B0,B0=mkB (fz) (acX (lT (bmF [x.w 1]) 1)):=⟨_,rfl⟩
 obtain⟨B1,hB1⟩:∃ B1,B1=mkB (fz) (acX (lT (bmF [y.w 2]) 1)):=⟨_,rfl⟩
 obtain⟨HP,h0,h1,h2⟩:∃ HP:Nat→Heap,HP 0=[[.cells 19 [[iv a1,iv k1,iv c1,iv b1,iv s1,.list 1 (inR z1),.list 1 (inR l1),.list 1 (inR p1),.list 8 (aD f1),iv k1',iv c1',iv b1',iv s1',.list 1 (inR z1'),.list 1 (inR l1'),.list 1 (inR p1'),.list 8 (aD f1'),iv x.off,.list 1 (bys x.data)],[iv a2,iv k2,iv c2,iv b2,iv s2,.list 1 (inR z2),.list 1 (inR l2),.list 1 (inR p2),.list 8 (aD f2),iv k2',iv c2',iv b2',iv s2',.list 1 (inR z2'),.list 1 (inR l2'),.list 1 (inR p2'),.list 8 (aD f2'),iv y.off,.list 1 (bys y.data)]]],[.cells 2 [[.hsl 2 0 0 0,.hsl 3 0 0 0]]],[.cells 1 []],[.cells 1 []]]∧HP 1=[[.cells 19 [[iv a1,iv k1,iv c1,iv b1,iv s1,.list 1 (inR z1),.list 1 (inR l1),.list 1 (inR p1),.list 8 (aD f1),iv k1',iv c1',iv b1',iv s1',.list 1 (inR z1'),.list 1 (inR l1'),.list 1 (inR p1'),.list 8 (aD f1'),iv x.off,.list 1 (bys (List.replicate x.data.length 1))],[iv a2,iv k2,iv c2,iv b2,iv s2,.list 1 (inR z2),.list 1 (inR l2),.list 1 (inR p2),.list 8 (aD f2),iv k2',iv c2',iv b2',iv s2',.list 1 (inR z2'),.list 1 (inR l2'),.list 1 (inR p2'),.list 8 (aD f2'),iv y.off,.list 1 (bys y.data)]]],[.cells 2 [[.hsl 2 0 0 65536,.hsl 3 0 0 0]]],[.cells 1 (blR B0)],[.cells 1 []]]∧HP 2=[[.cells 19 [[iv a1,iv k1,iv c1,iv b1,iv s1,.list 1 (inR z1),.list 1 (inR l1),.list 1 (inR p1),.list 8 (aD f1),iv k1',iv c1',iv b1',iv s1',.list 1 (inR z1'),.list 1 (inR l1'),.list 1 (inR p1'),.list 8 (aD f1'),iv x.off,.list 1 (bys (List.replicate x.data.length 1))],[iv a2,iv k2,iv c2,iv b2,iv s2,.list 1 (inR z2),.list 1 (inR l2),.list 1 (inR p2),.list 8 (aD f2),iv k2',iv c2',iv b2',iv s2',.list 1 (inR z2'),.list 1 (inR l2'),.list 1 (inR p2'),.list 8 (aD f2'),iv y.off,.list 1 (bys (List.replicate y.data.length 2))]]],[.cells 2 [[.hsl 2 0 0 65536,.hsl 3 0 0 65536]]],[.cells 1 (blR B0)],[.cells 1 (blR B1)]]:=⟨fun i=>match i with | 0=>[[.cells 19 [[iv a1,iv k1,iv c1,iv b1,iv s1,.list 1 (inR z1),.list 1 (inR l1),.list 1 (inR p1),.list 8 (aD f1),iv k1',iv c1',iv b1',iv s1',.list 1 (inR z1'),.list 1 (inR l1'),.list 1 (inR p1'),.list 8 (aD f1'),iv x.off,.list 1 (bys x.data)],[iv a2,iv k2,iv c2,iv b2,iv s2,.list 1 (inR z2),.list 1 (inR l2),.list 1 (inR p2),.list 8 (aD f2),iv k2',iv c2',iv b2',iv s2',.list 1 (inR z2'),.list 1 (inR l2'),.list 1 (inR p2'),.list 8 (aD f2'),iv y.off,.list 1 (bys y.data)]]],[.cells 2 [[.hsl 2 0 0 0,.hsl 3 0 0 0]]],[.cells 1 []],[.cells 1 []]] | 1=>[[.cells 19 [[iv a1,iv k1,iv c1,iv b1,iv s1,.list 1 (inR z1),.list 1 (inR l1),.list 1 (inR p1),.list 8 (aD f1),iv k1',iv c1',iv b1',iv s1',.list 1 (inR z1'),.list 1 (inR l1'),.list 1 (inR p1'),.list 8 (aD f1'),iv x.off,.list 1 (bys (List.replicate x.data.length 1))],[iv a2,iv k2,iv c2,iv b2,iv s2,.list 1 (inR z2),.list 1 (inR l2),.list 1 (inR p2),.list 8 (aD f2),iv k2',iv c2',iv b2',iv s2',.list 1 (inR z2'),.list 1 (inR l2'),.list 1 (inR p2'),.list 8 (aD f2'),iv y.off,.list 1 (bys y.data)]]],[.cells 2 [[.hsl 2 0 0 65536,.hsl 3 0 0 0]]],[.cells 1 (blR B0)],[.cells 1 []]] | _=>[[.cells 19 [[iv a1,iv k1,iv c1,iv b1,iv s1,.list 1 (inR z1),.list 1 (inR l1),.list 1 (inR p1),.list 8 (aD f1),iv k1',iv c1',iv b1',iv s1',.list 1 (inR z1'),.list 1 (inR l1'),.list 1 (inR p1'),.list 8 (aD f1'),iv x.off,.list 1 (bys (List.replicate x.data.length 1))],[iv a2,iv k2,iv c2,iv b2,iv s2,.list 1 (inR z2),.list 1 (inR l2),.list 1 (inR p2),.list 8 (aD f2),iv k2',iv c2',iv b2',iv s2',.list 1 (inR z2'),.list 1 (inR l2'),.list 1 (inR p2'),.list 8 (aD f2'),iv y.off,.list 1 (bys (List.replicate y.data.length 2))]]],[.cells 2 [[.hsl 2 0 0 65536,.hsl 3 0 0 65536]]],[.cells 1 (blR B0)],[.cells 1 (blR B1)]],rfl,rfl,rfl⟩
 refine AWP.loop (fun i:Nat=>[(9,.hsl 0 0 0 2),(2,bv atomic),(3,.sc (.int .u64 (seed:Nat))),(12,.ptr 1 0 0 0),(13,iv i)]) HP (fun i=>i≤2∧(1≤i→(dD [x.w 1]).2=0)∧(2≤i→(dD [y.w 2]).2=0)) (fun i=>2 - i) 0 ⟨Nat.zero_le _,fun h=>absurd h (by omega),fun h=>absurd h (by omega)⟩ ?_ ?_
 ·rw[h0]
  exact Sub.wl [1,1] [[(0,0)],[(1,0)],[(2,0)],[(3,0)]]
 rintro i ⟨hi,hg1,hg2⟩
 match i,hi,hg1,hg2 with
 | 0,_,_,_=>
  rw[h0]
  refine aA ?_
  rw[hbx]
  refine Reg.o rfl (rL rfl (by omega) (by omega)) ?_
  refine aA ?_
  have hf0:List.replicate x.data.length [uv 0]=bys (List.replicate 0 1++List.replicate (x.data.length - 0) 0):=by simp[bys]
  refine AWP.loop (fun k:Nat=>[(9,.hsl 0 0 0 2),(2,bv atomic),(3,.sc (.int .u64 (seed:Nat))),(12,.ptr 1 0 0 0),(13,iv 0),(14,.hsl 4 0 0 x.data.length),(15,iv k)]) (fun k=>[[.cells 19 [[iv a1,iv k1,iv c1,iv b1,iv s1,.list 1 (inR z1),.list 1 (inR l1),.list 1 (inR p1),.list 8 (aD f1),iv k1',iv c1',iv b1',iv s1',.list 1 (inR z1'),.list 1 (inR l1'),.list 1 (inR p1'),.list 8 (aD f1'),iv x.off,.list 1 (bys x.data)],[iv a2,iv k2,iv c2,iv b2,iv s2,.list 1 (inR z2),.list 1 (inR l2),.list 1 (inR p2),.list 8 (aD f2),iv k2',iv c2',iv b2',iv s2',.list 1 (inR z2'),.list 1 (inR l2'),.list 1 (inR p2'),.list 8 (aD f2'),iv y.off,.list 1 (bys y.data)]]],[.cells 2 [[.hsl 2 0 0 0,.hsl 3 0 0 0]]],[.cells 1 []],[.cells 1 []],[.cells 1 (bys (List.replicate k 1++List.replicate (x.data.length - k) 0))]]) (fun k=>k≤x.data.length) (fun k=>x.data.length - k) 0 (Nat.zero_le _) ?_ ?_
  ·exact Sub.wl [] [[(0,0)],[(1,0)],[(2,0)],[(3,0)],[(4,0)]]
  rintro k hk
  refine aA ?_
  refine AWP.condN (k < x.data.length) rfl rfl (fun h=>?_) (fun h=>?_)
  ·have hfs:=z6 (v:=1) h
   have hfl:(List.replicate k 1++List.replicate (x.data.length - k) 0).length=x.data.length:=by simp; omega
   generalize List.replicate k 1++List.replicate (x.data.length - k) 0=fl at *
   have hbf:=dB fl
   obtain⟨v0,hr⟩:∃ v0,bY (bys fl) (k:Int)=some [uv v0]:=⟨_,mH fl k (by omega)⟩
   have hst:(bys fl).set k [uv 1]=bys (List.replicate (k+1) 1++List.replicate (x.data.length - (k+1)) 0):=by rw[← hfs]; simp[bys,List.map_set]
   refine aA ?_
   refine⟨k+1,by omega,by omega,?_⟩
   exact Sub.wl [] [[(0,0)],[(1,0)],[(2,0)],[(3,0)],[(4,0)]]
  ·obtain rfl:x.data.length=k:=by omega
   rw[Nat.sub_self,show(List.replicate x.data.length 1++List.replicate 0 0:List Nat)=List.replicate x.data.length 1 from List.append_nil _]
   have hbf:=dB (List.replicate x.data.length 1)
   rw[List.length_replicate] at hbf
   refine aA ?_
   refine Reg.sub (fr':=[(73,.hsl 0 0 0 1),(9,.hsl 0 0 0 2),(2,bv atomic),(3,.sc (.int .u64 (seed:Nat))),(12,.ptr 1 0 0 0),(13,iv 0)]) (H':=[[.cells 19 [[iv a1,iv k1,iv c1,iv b1,iv s1,.list 1 (inR z1),.list 1 (inR l1),.list 1 (inR p1),.list 8 (aD f1),iv k1',iv c1',iv b1',iv s1',.list 1 (inR z1'),.list 1 (inR l1'),.list 1 (inR p1'),.list 8 (aD f1'),iv x.off,.list 1 (bys (List.replicate x.data.length 1))],[iv a2,iv k2,iv c2,iv b2,iv s2,.list 1 (inR z2),.list 1 (inR l2),.list 1 (inR p2),.list 8 (aD f2),iv k2',iv c2',iv b2',iv s2',.list 1 (inR z2'),.list 1 (inR l2'),.list 1 (inR p2'),.list 8 (aD f2'),iv y.off,.list 1 (bys y.data)]]],[.cells 2 [[.hsl 2 0 0 65536,.hsl 3 0 0 0]]],[.cells 1 (blR (fz))],[.cells 1 []]]) ?_ ?_
   ·exact Sub.wr [] [[(0,0)],[(1,0)],[(5,0)],[(3,0)]]
   have hv:=aF.via1 (args:=[.hsl 0 0 0 1,iv 1]) (args':=[.hsl 0 0 0 1,iv 1]) (H:=[[.cells 19 [[iv a1,iv k1,iv c1,iv b1,iv s1,.list 1 (inR z1),.list 1 (inR l1),.list 1 (inR p1),.list 8 (aD f1),iv k1',iv c1',iv b1',iv s1',.list 1 (inR z1'),.list 1 (inR l1'),.list 1 (inR p1'),.list 8 (aD f1'),iv x.off,.list 1 (bys (List.replicate x.data.length 1))],[iv a2,iv k2,iv c2,iv b2,iv s2,.list 1 (inR z2),.list 1 (inR l2),.list 1 (inR p2),.list 8 (aD f2),iv k2',iv c2',iv b2',iv s2',.list 1 (inR z2'),.list 1 (inR l2'),.list 1 (inR p2'),.list 8 (aD f2'),iv y.off,.list 1 (bys y.data)]]],[.cells 2 [[.hsl 2 0 0 65536,.hsl 3 0 0 0]]],[.cells 1 (blR (fz))],[.cells 1 []]]) (R:=fun res yy=>res=.tup [.list 3 (acR (qH [x.w 1] 1).1),iv (qH [x.w 1] 1).2]∧yy=.cells 19 [[iv a1,iv k1,iv c1,iv b1,iv s1,.list 1 (inR z1),.list 1 (inR l1),.list 1 (inR p1),.list 8 (aD f1),iv k1',iv c1',iv b1',iv s1',.list 1 (inR z1'),.list 1 (inR l1'),.list 1 (inR p1'),.list 8 (aD f1'),iv x.off,.list 1 (bys (List.replicate x.data.length 1))],[iv a2,iv k2,iv c2,iv b2,iv s2,.list 1 (inR z2),.list 1 (inR l2),.list 1 (inR p2),.list 8 (aD f2),iv k2',iv c2',iv b2',iv s2',.list 1 (inR z2'),.list 1 (inR l2'),.list 1 (inR p2'),.list 8 (aD f2'),iv y.off,.list 1 (bys y.data)]]) 0 0 (hC0.mono (by rintro res H' ⟨rfl,rfl⟩; exact⟨_,rfl,pv _,prs _,rfl,rfl⟩)) rfl (prs _) ⟨.hsl _ _ _ _ _ _ rfl,.sc _,trivial⟩
   refine Reg.c (Nat.zero_le _) rfl (hv.mono ?_)
   rintro res H' ⟨_,rfl,rfl,rfl⟩
   clear hv
   obtain⟨hp1,hp2⟩:=@xW (x.w 1)
   refine aA ?_
   refine AWP.condN ((qH [x.w 1] 1).2≠0) rfl (dE _) (fun h=>?_) (fun h=>?_)
   ·refine aA ?_
    exact aJ.w
   have z0:(dD [x.w 1]).2=0:=Decidable.byContradiction fun q=>h (by rw[hp1 q]; exact q)
   rw[hp2 z0]
   obtain⟨o1,o2,o3⟩:=qU x1 z0
   obtain⟨_,_,_,o4,_⟩:=g8 x1 (j4 z0)
   replace o2:∀ q9,q9∈acX (lT (bmF [x.w 1]) 1)→q9 < 65536:=fun q9 hy=>o4 q9 ((o2 q9).1 hy)
   generalize lT (bmF [x.w 1]) 1=acs at *
   have hal:(acR acs).length=acs.length:=by simp[acR]
   have hfl:fz.length=65536:=by rw[hfz,List.length_replicate]
   have hml:=fun l=>nE l fz
   refine aA ?_
   refine AWP.loop (fun k:Nat=>[(9,.hsl 0 0 0 2),(2,bv atomic),(3,.sc (.int .u64 (seed:Nat))),(12,.ptr 1 0 0 0),(13,iv 0),(16,.list 3 (acR acs)),(18,iv k)]) (fun k=>[[.cells 19 [[iv a1,iv k1,iv c1,iv b1,iv s1,.list 1 (inR z1),.list 1 (inR l1),.list 1 (inR p1),.list 8 (aD f1),iv k1',iv c1',iv b1',iv s1',.list 1 (inR z1'),.list 1 (inR l1'),.list 1 (inR p1'),.list 8 (aD f1'),iv x.off,.list 1 (bys (List.replicate x.data.length 1))],[iv a2,iv k2,iv c2,iv b2,iv s2,.list 1 (inR z2),.list 1 (inR l2),.list 1 (inR p2),.list 8 (aD f2),iv k2',iv c2',iv b2',iv s2',.list 1 (inR z2'),.list 1 (inR l2'),.list 1 (inR p2'),.list 8 (aD f2'),iv y.off,.list 1 (bys y.data)]]],[.cells 2 [[.hsl 2 0 0 65536,.hsl 3 0 0 0]]],[.cells 1 (blR (mkB fz (cD (acG acs) k 0)))],[.cells 1 []]]) (fun k=>k≤acs.length) (fun k=>acs.length - k) 0 (Nat.zero_le _) ?_ ?_
   ·rw[iA,show mkB fz []=fz from rfl]
    exact Sub.wl [] [[(0,0)],[(1,0)],[(2,0)],[(3,0)]]
   rintro k hk
   refine aA ?_
   rw[hal]
   refine AWP.condN (k < acs.length) rfl rfl (fun h3=>?_) (fun h3=>?_)
   ·obtain⟨ac,hac⟩:∃ ac,acs[k]?=some ac:=⟨_,gEg h3⟩
    have hrk:bY (acR acs) (k:Int)=some (acF ac):=by
     rw[lD]
     unfold acR
     rw[List.getElem?_map,hac]
     rfl
    have hag:acG acs k=(List.range ac.2.2.length).map fun j=>ac.2.1+j:=by
     unfold acG
     rw[hac]
    have hb2:∀ j,j < ac.2.2.length→ac.2.1+j < 65536:=fun j hj=>o2 _ (by
     rw[← qQ,List.mem_flatMap]
     exact⟨k,List.mem_range.2 h3,by rw[hag]; exact List.mem_map.2 ⟨j,List.mem_range.2 hj,rfl⟩⟩)
    obtain⟨pp,at',d⟩:=ac
    replace hrk:bY (acR acs) (k:Int)=some [iv pp,iv at',.list 1 (bys d)]:=hrk
    simp only at hag hb2
    have hgl:(acG acs k).length=d.length:=by rw[hag]; simp
    have hgj:∀ j,j < d.length→(acG acs k)[j]?=some (at'+j):=fun j hj=>by rw[hag]; simp[hj]
    have hbd:=dB d
    clear hac hag
    refine aA ?_
    refine AWP.loop (fun j:Nat=>[(9,.hsl 0 0 0 2),(2,bv atomic),(3,.sc (.int .u64 (seed:Nat))),(12,.ptr 1 0 0 0),(13,iv 0),(16,.list 3 (acR acs)),(18,iv k),(19,iv j)]) (fun j=>[[.cells 19 [[iv a1,iv k1,iv c1,iv b1,iv s1,.list 1 (inR z1),.list 1 (inR l1),.list 1 (inR p1),.list 8 (aD f1),iv k1',iv c1',iv b1',iv s1',.list 1 (inR z1'),.list 1 (inR l1'),.list 1 (inR p1'),.list 8 (aD f1'),iv x.off,.list 1 (bys (List.replicate x.data.length 1))],[iv a2,iv k2,iv c2,iv b2,iv s2,.list 1 (inR z2),.list 1 (inR l2),.list 1 (inR p2),.list 8 (aD f2),iv k2',iv c2',iv b2',iv s2',.list 1 (inR z2'),.list 1 (inR l2'),.list 1 (inR p2'),.list 8 (aD f2'),iv y.off,.list 1 (bys y.data)]]],[.cells 2 [[.hsl 2 0 0 65536,.hsl 3 0 0 0]]],[.cells 1 (blR (mkB fz (cD (acG acs) k j)))],[.cells 1 []]]) (fun j=>j≤d.length) (fun j=>d.length - j) 0 (Nat.zero_le _) ?_ ?_
    ·exact Sub.wl [] [[(0,0)],[(1,0)],[(2,0)],[(3,0)]]
    rintro j hj
    refine aA ?_
    rw[hbd]
    by_cases h4:j < d.length
    ·rw[dTr h4]
     have hx:=hb2 j h4
     have hml1:=hml (cD (acG acs) k j)
     have hsn:mkB fz (cD (acG acs) k (j+1))=(mkB fz (cD (acG acs) k j)).set (at'+j) true:=by rw[eF (hgj j h4),xQ]
     generalize mkB fz (cD (acG acs) k j)=b at *
     have hbl:=lF b
     have hrb:=wH b (at'+j) (by omega)
     have hst:(blR b).set (at'+j) [bv true]=blR (b.set (at'+j) true):=by simp[blR,List.map_set]
     refine aA ?_
     rw[dTr hx]
     refine aA ?_
     refine DK.nil ⟨by kernel_rfl,?_⟩
     refine aA ?_
     refine⟨j+1,by omega,by omega,?_⟩
     rw[hsn]
     exact Sub.wl [] [[(0,0)],[(1,0)],[(2,0)],[(3,0)]]
    ·rw[dFa h4]
     obtain rfl:d.length=j:=by omega
     rw[gD hgl]
     refine aA ?_
     refine⟨k+1,by omega,by omega,?_⟩
     exact Sub.wl [] [[(0,0)],[(1,0)],[(2,0)],[(3,0)]]
   ·obtain rfl:acs.length=k:=by omega
    rw[← iU,qQ,← hB0]
    refine aA ?_
    refine⟨1,⟨by omega,fun _=>z0,fun h=>absurd h (by omega)⟩,by omega,?_⟩
    rw[h1]
    exact Sub.wl [] [[(0,0)],[(1,0)],[(2,0)],[(3,0)]]
 | 1,_,hg1,_=>
  rw[h1]
  refine aA ?_
  rw[hby]
  refine Reg.o rfl (rL rfl (by omega) (by omega)) ?_
  refine aA ?_
  have hf0:List.replicate y.data.length [uv 0]=bys (List.replicate 0 2++List.replicate (y.data.length - 0) 0):=by simp[bys]
  refine AWP.loop (fun k:Nat=>[(9,.hsl 0 0 0 2),(2,bv atomic),(3,.sc (.int .u64 (seed:Nat))),(12,.ptr 1 0 0 0),(13,iv 1),(14,.hsl 4 0 0 y.data.length),(15,iv k)]) (fun k=>[[.cells 19 [[iv a1,iv k1,iv c1,iv b1,iv s1,.list 1 (inR z1),.list 1 (inR l1),.list 1 (inR p1),.list 8 (aD f1),iv k1',iv c1',iv b1',iv s1',.list 1 (inR z1'),.list 1 (inR l1'),.list 1 (inR p1'),.list 8 (aD f1'),iv x.off,.list 1 (bys (List.replicate x.data.length 1))],[iv a2,iv k2,iv c2,iv b2,iv s2,.list 1 (inR z2),.list 1 (inR l2),.list 1 (inR p2),.list 8 (aD f2),iv k2',iv c2',iv b2',iv s2',.list 1 (inR z2'),.list 1 (inR l2'),.list 1 (inR p2'),.list 8 (aD f2'),iv y.off,.list 1 (bys y.data)]]],[.cells 2 [[.hsl 2 0 0 65536,.hsl 3 0 0 0]]],[.cells 1 (blR B0)],[.cells 1 []],[.cells 1 (bys (List.replicate k 2++List.replicate (y.data.length - k) 0))]]) (fun k=>k≤y.data.length) (fun k=>y.data.length - k) 0 (Nat.zero_le _) ?_ ?_
  ·exact Sub.wl [] [[(0,0)],[(1,0)],[(2,0)],[(3,0)],[(4,0)]]
  rintro k hk
  refine aA ?_
  refine AWP.condN (k < y.data.length) rfl rfl (fun h=>?_) (fun h=>?_)
  ·have hfs:=z6 (v:=2) h
   have hfl:(List.replicate k 2++List.replicate (y.data.length - k) 0).length=y.data.length:=by simp; omega
   generalize List.replicate k 2++List.replicate (y.data.length - k) 0=fl at *
   have hbf:=dB fl
   obtain⟨v0,hr⟩:∃ v0,bY (bys fl) (k:Int)=some [uv v0]:=⟨_,mH fl k (by omega)⟩
   have hst:(bys fl).set k [uv 2]=bys (List.replicate (k+1) 2++List.replicate (y.data.length - (k+1)) 0):=by rw[← hfs]; simp[bys,List.map_set]
   refine aA ?_
   refine⟨k+1,by omega,by omega,?_⟩
   exact Sub.wl [] [[(0,0)],[(1,0)],[(2,0)],[(3,0)],[(4,0)]]
  ·obtain rfl:y.data.length=k:=by omega
   rw[Nat.sub_self,show(List.replicate y.data.length 2++List.replicate 0 0:List Nat)=List.replicate y.data.length 2 from List.append_nil _]
   have hbf:=dB (List.replicate y.data.length 2)
   rw[List.length_replicate] at hbf
   refine aA ?_
   refine Reg.sub (fr':=[(73,.hsl 0 0 1 1),(9,.hsl 0 0 0 2),(2,bv atomic),(3,.sc (.int .u64 (seed:Nat))),(12,.ptr 1 0 0 0),(13,iv 1)]) (H':=[[.cells 19 [[iv a1,iv k1,iv c1,iv b1,iv s1,.list 1 (inR z1),.list 1 (inR l1),.list 1 (inR p1),.list 8 (aD f1),iv k1',iv c1',iv b1',iv s1',.list 1 (inR z1'),.list 1 (inR l1'),.list 1 (inR p1'),.list 8 (aD f1'),iv x.off,.list 1 (bys (List.replicate x.data.length 1))],[iv a2,iv k2,iv c2,iv b2,iv s2,.list 1 (inR z2),.list 1 (inR l2),.list 1 (inR p2),.list 8 (aD f2),iv k2',iv c2',iv b2',iv s2',.list 1 (inR z2'),.list 1 (inR l2'),.list 1 (inR p2'),.list 8 (aD f2'),iv y.off,.list 1 (bys (List.replicate y.data.length 2))]]],[.cells 2 [[.hsl 2 0 0 65536,.hsl 3 0 0 65536]]],[.cells 1 (blR B0)],[.cells 1 (blR (fz))]]) ?_ ?_
   ·exact Sub.wr [] [[(0,0)],[(1,0)],[(2,0)],[(5,0)]]
   have hv:=aF.via1 (args:=[.hsl 0 0 1 1,iv 1]) (args':=[.hsl 0 0 1 1,iv 1]) (H:=[[.cells 19 [[iv a1,iv k1,iv c1,iv b1,iv s1,.list 1 (inR z1),.list 1 (inR l1),.list 1 (inR p1),.list 8 (aD f1),iv k1',iv c1',iv b1',iv s1',.list 1 (inR z1'),.list 1 (inR l1'),.list 1 (inR p1'),.list 8 (aD f1'),iv x.off,.list 1 (bys (List.replicate x.data.length 1))],[iv a2,iv k2,iv c2,iv b2,iv s2,.list 1 (inR z2),.list 1 (inR l2),.list 1 (inR p2),.list 8 (aD f2),iv k2',iv c2',iv b2',iv s2',.list 1 (inR z2'),.list 1 (inR l2'),.list 1 (inR p2'),.list 8 (aD f2'),iv y.off,.list 1 (bys (List.replicate y.data.length 2))]]],[.cells 2 [[.hsl 2 0 0 65536,.hsl 3 0 0 65536]]],[.cells 1 (blR B0)],[.cells 1 (blR (fz))]]) (R:=fun res yy=>res=.tup [.list 3 (acR (qH [y.w 2] 1).1),iv (qH [y.w 2] 1).2]∧yy=.cells 19 [[iv a1,iv k1,iv c1,iv b1,iv s1,.list 1 (inR z1),.list 1 (inR l1),.list 1 (inR p1),.list 8 (aD f1),iv k1',iv c1',iv b1',iv s1',.list 1 (inR z1'),.list 1 (inR l1'),.list 1 (inR p1'),.list 8 (aD f1'),iv x.off,.list 1 (bys (List.replicate x.data.length 1))],[iv a2,iv k2,iv c2,iv b2,iv s2,.list 1 (inR z2),.list 1 (inR l2),.list 1 (inR p2),.list 8 (aD f2),iv k2',iv c2',iv b2',iv s2',.list 1 (inR z2'),.list 1 (inR l2'),.list 1 (inR p2'),.list 8 (aD f2'),iv y.off,.list 1 (bys (List.replicate y.data.length 2))]]) 0 0 (hC1.mono (by rintro res H' ⟨rfl,rfl⟩; exact⟨_,rfl,pv _,prs _,rfl,rfl⟩)) rfl (prs _) ⟨.hsl _ _ _ _ _ _ rfl,.sc _,trivial⟩
   refine Reg.c (Nat.zero_le _) rfl (hv.mono ?_)
   rintro res H' ⟨_,rfl,rfl,rfl⟩
   clear hv
   obtain⟨hp1,hp2⟩:=@xW (y.w 2)
   refine aA ?_
   refine AWP.condN ((qH [y.w 2] 1).2≠0) rfl (dE _) (fun h=>?_) (fun h=>?_)
   ·refine aA ?_
    exact aJ.w
   have z0:(dD [y.w 2]).2=0:=Decidable.byContradiction fun q=>h (by rw[hp1 q]; exact q)
   rw[hp2 z0]
   obtain⟨o1,o2,o3⟩:=qU y2 z0
   obtain⟨_,_,_,o4,_⟩:=g8 y2 (j4 z0)
   replace o2:∀ q9,q9∈acX (lT (bmF [y.w 2]) 1)→q9 < 65536:=fun q9 hy=>o4 q9 ((o2 q9).1 hy)
   generalize lT (bmF [y.w 2]) 1=acs at *
   have hal:(acR acs).length=acs.length:=by simp[acR]
   have hfl:fz.length=65536:=by rw[hfz,List.length_replicate]
   have hml:=fun l=>nE l fz
   refine aA ?_
   refine AWP.loop (fun k:Nat=>[(9,.hsl 0 0 0 2),(2,bv atomic),(3,.sc (.int .u64 (seed:Nat))),(12,.ptr 1 0 0 0),(13,iv 1),(16,.list 3 (acR acs)),(18,iv k)]) (fun k=>[[.cells 19 [[iv a1,iv k1,iv c1,iv b1,iv s1,.list 1 (inR z1),.list 1 (inR l1),.list 1 (inR p1),.list 8 (aD f1),iv k1',iv c1',iv b1',iv s1',.list 1 (inR z1'),.list 1 (inR l1'),.list 1 (inR p1'),.list 8 (aD f1'),iv x.off,.list 1 (bys (List.replicate x.data.length 1))],[iv a2,iv k2,iv c2,iv b2,iv s2,.list 1 (inR z2),.list 1 (inR l2),.list 1 (inR p2),.list 8 (aD f2),iv k2',iv c2',iv b2',iv s2',.list 1 (inR z2'),.list 1 (inR l2'),.list 1 (inR p2'),.list 8 (aD f2'),iv y.off,.list 1 (bys (List.replicate y.data.length 2))]]],[.cells 2 [[.hsl 2 0 0 65536,.hsl 3 0 0 65536]]],[.cells 1 (blR B0)],[.cells 1 (blR (mkB fz (cD (acG acs) k 0)))]]) (fun k=>k≤acs.length) (fun k=>acs.length - k) 0 (Nat.zero_le _) ?_ ?_
   ·rw[iA,show mkB fz []=fz from rfl]
    exact Sub.wl [] [[(0,0)],[(1,0)],[(2,0)],[(3,0)]]
   rintro k hk
   refine aA ?_
   rw[hal]
   refine AWP.condN (k < acs.length) rfl rfl (fun h3=>?_) (fun h3=>?_)
   ·obtain⟨ac,hac⟩:∃ ac,acs[k]?=some ac:=⟨_,gEg h3⟩
    have hrk:bY (acR acs) (k:Int)=some (acF ac):=by
     rw[lD]
     unfold acR
     rw[List.getElem?_map,hac]
     rfl
    have hag:acG acs k=(List.range ac.2.2.length).map fun j=>ac.2.1+j:=by
     unfold acG
     rw[hac]
    have hb2:∀ j,j < ac.2.2.length→ac.2.1+j < 65536:=fun j hj=>o2 _ (by
     rw[← qQ,List.mem_flatMap]
     exact⟨k,List.mem_range.2 h3,by rw[hag]; exact List.mem_map.2 ⟨j,List.mem_range.2 hj,rfl⟩⟩)
    obtain⟨pp,at',d⟩:=ac
    replace hrk:bY (acR acs) (k:Int)=some [iv pp,iv at',.list 1 (bys d)]:=hrk
    simp only at hag hb2
    have hgl:(acG acs k).length=d.length:=by rw[hag]; simp
    have hgj:∀ j,j < d.length→(acG acs k)[j]?=some (at'+j):=fun j hj=>by rw[hag]; simp[hj]
    have hbd:=dB d
    clear hac hag
    refine aA ?_
    refine AWP.loop (fun j:Nat=>[(9,.hsl 0 0 0 2),(2,bv atomic),(3,.sc (.int .u64 (seed:Nat))),(12,.ptr 1 0 0 0),(13,iv 1),(16,.list 3 (acR acs)),(18,iv k),(19,iv j)]) (fun j=>[[.cells 19 [[iv a1,iv k1,iv c1,iv b1,iv s1,.list 1 (inR z1),.list 1 (inR l1),.list 1 (inR p1),.list 8 (aD f1),iv k1',iv c1',iv b1',iv s1',.list 1 (inR z1'),.list 1 (inR l1'),.list 1 (inR p1'),.list 8 (aD f1'),iv x.off,.list 1 (bys (List.replicate x.data.length 1))],[iv a2,iv k2,iv c2,iv b2,iv s2,.list 1 (inR z2),.list 1 (inR l2),.list 1 (inR p2),.list 8 (aD f2),iv k2',iv c2',iv b2',iv s2',.list 1 (inR z2'),.list 1 (inR l2'),.list 1 (inR p2'),.list 8 (aD f2'),iv y.off,.list 1 (bys (List.replicate y.data.length 2))]]],[.cells 2 [[.hsl 2 0 0 65536,.hsl 3 0 0 65536]]],[.cells 1 (blR B0)],[.cells 1 (blR (mkB fz (cD (acG acs) k j)))]]) (fun j=>j≤d.length) (fun j=>d.length - j) 0 (Nat.zero_le _) ?_ ?_
    ·exact Sub.wl [] [[(0,0)],[(1,0)],[(2,0)],[(3,0)]]
    rintro j hj
    refine aA ?_
    rw[hbd]
    by_cases h4:j < d.length
    ·rw[dTr h4]
     have hx:=hb2 j h4
     have hml1:=hml (cD (acG acs) k j)
     have hsn:mkB fz (cD (acG acs) k (j+1))=(mkB fz (cD (acG acs) k j)).set (at'+j) true:=by rw[eF (hgj j h4),xQ]
     generalize mkB fz (cD (acG acs) k j)=b at *
     have hbl:=lF b
     have hrb:=wH b (at'+j) (by omega)
     have hst:(blR b).set (at'+j) [bv true]=blR (b.set (at'+j) true):=by simp[blR,List.map_set]
     refine aA ?_
     rw[dTr hx]
     refine aA ?_
     refine DK.nil ⟨by kernel_rfl,?_⟩
     refine aA ?_
     refine⟨j+1,by omega,by omega,?_⟩
     rw[hsn]
     exact Sub.wl [] [[(0,0)],[(1,0)],[(2,0)],[(3,0)]]
    ·rw[dFa h4]
     obtain rfl:d.length=j:=by omega
     rw[gD hgl]
     refine aA ?_
     refine⟨k+1,by omega,by omega,?_⟩
     exact Sub.wl [] [[(0,0)],[(1,0)],[(2,0)],[(3,0)]]
   ·obtain rfl:acs.length=k:=by omega
    rw[← iU,qQ,← hB1]
    refine aA ?_
    refine⟨2,⟨by omega,fun _=>hg1 (Nat.le_refl _),fun _=>z0⟩,by omega,?_⟩
    rw[h2]
    exact Sub.wl [] [[(0,0)],[(1,0)],[(2,0)],[(3,0)]]
 | 2,_,hg1,hg2=>
  rw[h2]
  have z0:=hg1 (by omega)
  have zz1:=hg2 (Nat.le_refl _)
  obtain⟨_,u2,_⟩:=qU x1 z0
  obtain⟨_,w2,_⟩:=qU y2 zz1
  obtain⟨_,u3,_⟩:=g8 x1 (j4 z0)
  obtain⟨_,w3,_⟩:=g8 y2 (j4 zz1)
  have hfl:fz.length=65536:=by rw[hfz,List.length_replicate]
  have l0:B0.length=65536:=by rw[hB0,nE,hfl]
  have ll1:B1.length=65536:=by rw[hB1,nE,hfl]
  have hl0:(blR B0).length=65536:=by rw[lF,l0]
  have hl1:(blR B1).length=65536:=by rw[lF,ll1]
  refine AWP.seq ?_
  refine AWP.seq ?_
  refine AWP.region ?_
  refine sJ ?_
  refine AWP.condF rfl ?_
  refine AWP.exit ?_
  refine AWP.sub ?_ (O4 (rows:=[[iv a1,iv k1,iv c1,iv b1,iv s1,.list 1 (inR z1),.list 1 (inR l1),.list 1 (inR p1),.list 8 (aD f1),iv k1',iv c1',iv b1',iv s1',.list 1 (inR z1'),.list 1 (inR l1'),.list 1 (inR p1'),.list 8 (aD f1'),iv x.off,.list 1 (bys (List.replicate x.data.length 1))],[iv a2,iv k2,iv c2,iv b2,iv s2,.list 1 (inR z2),.list 1 (inR l2),.list 1 (inR p2),.list 8 (aD f2),iv k2',iv c2',iv b2',iv s2',.list 1 (inR z2'),.list 1 (inR l2'),.list 1 (inR p2'),.list 8 (aD f2'),iv y.off,.list 1 (bys (List.replicate y.data.length 2))]]) (l:=[x.w 1,y.w 2]) (q0:=jF (cB (x.w 1)).1) (q1:=jF (cB (y.w 2)).1) (B0:=B0) (B1:=B1) cc ?_ rfl ?_ l0 ll1 (fun k hk=>?_) (fun k hk=>?_))
  ·exact Sub.wl [] []
  ·rw[tH (by simp) (fun j hj=>?_)]
   match j,hj with
   | 0,_=>exact j4 z0
   | 1,_=>exact j4 zz1
   | j+2,hj=>exact absurd hj (by simp)
  ·rw[u3,w3]
   show[List.replicate x.data.length 1,List.replicate y.data.length 2]=[List.replicate (List.replicate x.data.length 1).length 1,List.replicate (List.replicate y.data.length 2).length 2]
   rw[List.length_replicate,List.length_replicate]
  ·rw[hB0,v6 _ _ _ (by omega),u2 k,hfz,IX]
   simp
  ·rw[hB1,v6 _ _ _ (by omega),w2 k,hfz,IX]
   simp
 | i+3,hi,_,_=>omega
def TyS:Nat→List Sh
 | 0=>[.int .i64,.int .i64,.int .i64,.int .i64,.slice [.int .i64],.slice [.int .i64],.slice [.int .i64],.any]
 | m+1=>[.int .i64,.int .i64,.int .i64,.int .i64,.slice [.int .i64],.slice [.int .i64],.slice [.int .i64],.slice (TyS m)]
theorem wL:∀(m:Nat) (r:List AV),r.length=(TyS m).length→(∀(j:Nat) s c,(TyS m)[j]?=some s→r[j]?=some c→Fit s c)→∃ t,r=tyR t∧kQ m t
 | 0,r,hl,hf=>by
  match r,hl with
  | [x0,x1,x2,x3,x4,x5,x6,x7],_=>
   obtain⟨k,rfl,_⟩:=dP (hf 0 _ x0 rfl rfl)
   obtain⟨c,rfl,_⟩:=dP (hf 1 _ x1 rfl rfl)
   obtain⟨b,rfl,_⟩:=dP (hf 2 _ x2 rfl rfl)
   obtain⟨s,rfl,_⟩:=dP (hf 3 _ x3 rfl rfl)
   obtain⟨sz,rfl,_⟩:=fP (hf 4 _ x4 rfl rfl)
   obtain⟨bl,rfl,_⟩:=fP (hf 5 _ x5 rfl rfl)
   obtain⟨pl,rfl,_⟩:=fP (hf 6 _ x6 rfl rfl)
   have h7:=hf 7 _ x7 rfl rfl
   cases h7
   exact⟨.raw k c b s sz bl pl,by rw[tyR]; rfl,trivial⟩
 | m+1,r,hl,hf=>by
  match r,hl with
  | [x0,x1,x2,x3,x4,x5,x6,x7],_=>
   obtain⟨k,rfl,_⟩:=dP (hf 0 _ x0 rfl rfl)
   obtain⟨c,rfl,_⟩:=dP (hf 1 _ x1 rfl rfl)
   obtain⟨b,rfl,_⟩:=dP (hf 2 _ x2 rfl rfl)
   obtain⟨s,rfl,_⟩:=dP (hf 3 _ x3 rfl rfl)
   obtain⟨sz,rfl,_⟩:=fP (hf 4 _ x4 rfl rfl)
   obtain⟨bl,rfl,_⟩:=fP (hf 5 _ x5 rfl rfl)
   obtain⟨pl,rfl,_⟩:=fP (hf 6 _ x6 rfl rfl)
   obtain⟨of,rfl,_,ho⟩:=oP (hf 7 _ x7 rfl rfl) tyR (kQ m) fun r hl hf=>wL m r hl hf
   refine⟨.mk k c b s sz bl pl of,?_,ho⟩
   rw[tyR,oF]
   cases m<;>rfl
theorem tF:∀(n:Nat) (t:Ty),kQ (n+1) t→kQ n t
 | 0,_,_=>trivial
 | _+1,.raw ..,h=>h.elim
 | n+1,.mk ..,h=>fun u hu=>tF n u (h u hu)
theorem K7:Tryz.prog.underlying 4=some .bool:=by kernel_rfl
theorem JE:laidOutB Tryz.prog=true:=by kernel_rfl
theorem IM:mapsRowed Tryz.prog=true:=by kernel_rfl
theorem BO:∀ t e,t < Tryz.prog.types.size→Tryz.prog.underlying t=some (.slice e)→0 < Tryz.prog.cellsOf e:=slices_full_of Tryz.prog (by kernel_rfl)
theorem J9:ownKnob Tryz.prog.godebug=none:=by kernel_rfl
end Go.Proofs.YtgdocflpobncmaaGreat
