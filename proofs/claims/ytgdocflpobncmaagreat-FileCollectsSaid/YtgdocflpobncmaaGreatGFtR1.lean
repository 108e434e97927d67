import Derived.Test.YtgdocflpobncmaaGreatGFtQ6
import Derived.Test.YtgdocflpobncmaaGreatGFtE5
import Derived.Test.YtgdocflpobncmaaGreatGFtV1
import Derived.Test.YtgdocflpobncmaaGreatGFtB7
set_option maxHeartbeats 4000000
namespace Go.Proofs.YtgdocflpobncmaaGreat
open Go.Av Go.Proofs
set_option maxRecDepth 20000
abbrev gN (l:List Nat) (i:Nat):Nat:=l.getD i 0
abbrev gL (l:List (List Nat)) (i:Nat):List Nat:=l.getD i []
structure CInv (ps ds:List (List Nat)) (done f:List Nat):Prop where
 dl:done.length=ps.length
 fl:f.length=65536
 le:∀ i,gN done i≤(gL ps i).length
 A:∀ x,(gN f x=0∧∀ i k,k < gN done i→(gL ps i)[k]?≠some x)∨∃ i k,k < gN done i∧(gL ps i)[k]?=some x∧(gL ds i)[k]?=some (gN f x)
def Fin1 (ps ds:List (List Nat)) (done f:List Nat) (i:Nat):Prop:=∀ k,k < gN done i→∀ x v,(gL ps i)[k]?=some x→(gL ds i)[k]?=some v→gN f x=v
structure AInv (ps ds:List (List Nat)) (done f:List Nat):Prop where
 a:∀ i,gN done i=0∨gN done i=(gL ps i).length
 b:(∀ i,gN done i=0)∨∃ j,j < ps.length∧gN done j=(gL ps j).length∧Fin1 ps ds done f j
structure ConQ (ps ds:List (List Nat)) (atomic:Bool) (f:List Nat):Prop where
 fl:f.length=65536
 A:∀ x,(gN f x=0∧∀ i k:Nat,(gL ps i)[k]?≠some x)∨∃ i k:Nat,(gL ps i)[k]?=some x∧(gL ds i)[k]?=some (gN f x)
 B:atomic=true→(∀ i,gL ps i=[])∨∃ j,j < ps.length∧∀ k x v:Nat,(gL ps j)[k]?=some x→(gL ds j)[k]?=some v→gN f x=v
theorem OQ (n:Nat):List.replicate n [uv 0]=bys (List.replicate n 0):=by simp[bys]
def zO (r:Rq):Bool:=aX 3 r.e && aX 3 r.o && !(decide (300 < r.data.length) && (decide (r.data.length≤4096) || decide (5000 < r.data.length)))
def A5 (l:List Rq):List Rq×Bool:=if l.all zO=true then(l,true) else([],false)
def Rq.kn (r:Rq):Prop:=nG 3 r.e∧nG 3 r.o
theorem P1 {l:List Rq} (hk:∀ r∈l,r.kn) (hn:l.length≤12):aB Tryz.prog 31 [.list 19 (rqs l)] (.tup [.list 19 (rqs (A5 l).1),bv (A5 l).2]):=by
 refine aB.mkI TN (nlB rfl) ?_;have hll:=lZ l;refine aA ?_;rw[hll,dFa (show¬ 12 < l.length by omega)];refine aA ?_;refine AWP.loop (fun i:Nat=>[(0,.list 19 (rqs l)),(4,.hsl 0 0 0 i),(5,iv i)]) (fun i=>[[.cells 19 (rqs (l.take i))]]) (fun i=>i≤l.length∧∀ j (h:j < l.length),j < i→zO l[j]=true) (fun i=>l.length - i) 0 ⟨nZl _,fun j _ h=>absurd h (Nat.not_lt_zero j)⟩ ?_ ?_
 ·exact Sub.wl [19] [[(0,0)]]
 rintro i ⟨hi,hg⟩;refine aA ?_;rw[hll];refine AWP.condN (i < l.length) rfl rfl (fun h=>?_) (fun h=>?_)
 ·have hr:=rL l i h
  have hki:=hk l[i] (gMe _);have hv:=G9 (a:=l[i].at') hki.1 hki.2
  have hbad:zO l[i]=false→A5 l=([],false):=fun hb=>by
   unfold A5;rw[if_neg];intro q;have:=List.all_eq_true.1 q l[i] (gMe _);rw[hb] at this
   cases this
  have hgi:zO l[i]=true→∀ j (h:j < l.length),j < i+1→zO l[j]=true:=fun h0 j hj hlt=>by
   rcases Nat.lt_or_ge j i with q | q
   ·exact hg j hj q
   ·obtain rfl:j=i:=by omega
    exact h0
  have htk:rqs (l.take (i+1))=rqs (l.take i)++[rqR l[i]]:=by
   unfold rqs;rw[List.take_add_one,gEg h,List.map_append];rfl
  have htl:(rqs (l.take i)).length=i:=by rw[lZ,List.length_take]; omega
  have hfb:zO l[i]=(aX 3 l[i].e && aX 3 l[i].o && !(decide (300 < l[i].data.length) && (decide (l[i].data.length≤4096) || decide (5000 < l[i].data.length)))):=rfl;generalize hq:l[i]=q at *;clear hq;obtain⟨a,t1,t2,off,data⟩:=q;obtain⟨he,ho⟩:=hki;obtain⟨k1,c1,b1,s1,z1,l1,p1,f1,rfl⟩:=iP he;obtain⟨k2,c2,b2,s2,z2,l2,p2,f2,rfl⟩:=iP ho;simp only at hfb hv;generalize aX 3 (Ty.mk k1 c1 b1 s1 z1 l1 p1 f1)=g1 at *;generalize aX 3 (Ty.mk k2 c2 b2 s2 z2 l2 p2 f2)=g2 at *
  have e0:vwR a (Ty.mk k1 c1 b1 s1 z1 l1 p1 f1) (Ty.mk k2 c2 b2 s2 z2 l2 p2 f2)=[iv a,iv k1,iv c1,iv b1,iv s1,.list 1 (inR z1),.list 1 (inR l1),.list 1 (inR p1),.list 8 (aM f1),iv k2,iv c2,iv b2,iv s2,.list 1 (inR z2),.list 1 (inR l2),.list 1 (inR p2),.list 8 (aM f2)]:=by unfold vwR; rw[tyR,tyR]; rfl
  have e1:rqR ⟨a,Ty.mk k1 c1 b1 s1 z1 l1 p1 f1,Ty.mk k2 c2 b2 s2 z2 l2 p2 f2,off,data⟩=[iv a,iv k1,iv c1,iv b1,iv s1,.list 1 (inR z1),.list 1 (inR l1),.list 1 (inR p1),.list 8 (aM f1),iv k2,iv c2,iv b2,iv s2,.list 1 (inR z2),.list 1 (inR l2),.list 1 (inR p2),.list 8 (aM f2),iv off,.list 1 (bys data)]:=by unfold rqR; rw[e0]; rfl
  rw[e1] at hr htk;rw[e0] at hv;generalize (g1 && g2)=is at *;generalize zO ⟨a,Ty.mk k1 c1 b1 s1 z1 l1 p1 f1,Ty.mk k2 c2 b2 s2 z2 l2 p2 f2,off,data⟩=fb at *;have hbl:=iX data;clear e0 e1 he ho;refine aA ?_;rw[hbl]
  cases is with
  | false=>
   (rw[hbad (by rw[hfb]; rfl),show rqs (([],false):List Rq×Bool).1=[] from rfl]; refine aA ?_; exact aG.w)
  | true=>
  rw[Bool.true_and] at hfb;refine aA ?_
  by_cases n1:300 < data.length
  ·rw[dTr n1,Bool.true_and] at *
   refine aA ?_
   by_cases n2:data.length≤4096
   ·rw[dTr n2,Bool.true_or] at *
    (rw[hbad (by rw[hfb]; rfl),show rqs (([],false):List Rq×Bool).1=[] from rfl]; refine aA ?_; exact aG.w)
   ·rw[dFa n2,Bool.false_or] at *
    refine aA ?_
    by_cases n3:5000 < data.length
    ·rw[dTr n3] at *
     (rw[hbad (by rw[hfb]; rfl),show rqs (([],false):List Rq×Bool).1=[] from rfl]; refine aA ?_; exact aG.w)
    ·rw[dFa n3] at *
     (refine aA ?_; rw[hll,dFa (show¬ 12 < l.length by omega)]; refine aA ?_; refine DK.nil ⟨by kernel_rfl,?_⟩; refine aA ?_; refine⟨i+1,⟨by omega,hgi (by rw[hfb]; rfl)⟩,by omega,?_⟩; rw[htk]; exact Sub.wl [] [[(2,14)]])
  ·rw[dFa n1,Bool.false_and] at *
   (refine aA ?_; rw[hll,dFa (show¬ 12 < l.length by omega)]; refine aA ?_; refine DK.nil ⟨by kernel_rfl,?_⟩; refine aA ?_; refine⟨i+1,⟨by omega,hgi (by rw[hfb]; rfl)⟩,by omega,?_⟩; rw[htk]; exact Sub.wl [] [[(2,14)]])
 ·obtain rfl:l.length=i:=by omega
  have:A5 l=(l,true):=by
   unfold A5;rw[if_pos];rw[List.all_eq_true];intro r hr;obtain⟨j,hj,rfl⟩:=List.mem_iff_getElem.1 hr;exact hg j hj hj
  rw[this,List.take_length];refine aA ?_;exact aG.w
def mkB (b:List Bool) (l:List Nat):List Bool:=l.foldl (fun b x=>b.set x true) b
theorem MX (b:List Bool) (l:List Nat) (x:Nat):mkB b (l++[x])=(mkB b l).set x true:=by simp[mkB]
theorem uL:∀(l:List Nat) (b:List Bool),(mkB b l).length=b.length
 | [],_=>rfl
 | x::l,b=>by
  show(mkB (b.set x true) l).length=_;rw[uL l,List.length_set]
abbrev gB (b:List Bool) (y:Nat):Bool:=b.getD y false
theorem HR:∀(l:List Nat) (b:List Bool) (y:Nat),y < b.length→(gB (mkB b l) y=true↔gB b y=true∨y∈l)
 | [],b,y,_=>by simp[mkB]
 | x::l,b,y,h=>by
  show gB (mkB (b.set x true) l) y=true↔_;rw[HR l _ y (by rw[List.length_set]; exact h)]
  have:gB (b.set x true) y=true↔gB b y=true∨y=x:=by
   unfold gB;rw[List.getD_eq_getElem?_getD,List.getElem?_set,List.getD_eq_getElem?_getD]
   by_cases e:x=y
   ·subst e; simp[h]
   ·simp[e,Ne.symm e]
  rw[this,List.mem_cons];exact or_assoc
def blR (b:List Bool):List (List AV):=b.map fun x=>[bv x]
theorem HG (b:List Bool):(blR b).length=b.length:=by simp[blR]
theorem K9 (b:List Bool) (k:Nat) (h:k < b.length):dO (blR b) (k:Int)=some [bv (gB b k)]:=by
 have:=eD (fun x:Bool=>[bv x]) b k h;rw[show gB b k=b[k] by simp[gB,h]];exact this
instance (l:List Bool):PRs (blR l):=by unfold blR; infer_instance
theorem P0 (n:Nat):List.replicate n [bv false]=blR (List.replicate n false):=by simp[blR]
theorem TU (n y:Nat):gB (List.replicate n false) y=false:=by
 unfold gB;rw[List.getD_eq_getElem?_getD,List.getElem?_replicate]
 split<;>rfl
theorem FV (w lo:Nat) (bm:List (Nat×Nat)):∀(xs:List Nat) (out:List Ac),(xs.foldl (lH w lo bm) out).length≤out.length+xs.length
 | [],_=>Nat.le_refl _
 | x::xs,out=>by
  have h1:=FV w lo bm xs (lH w lo bm out x);have h2:=I8 w lo bm out x;show(xs.foldl (lH w lo bm) (lH w lo bm out x)).length≤_;simp only[List.length_cons];omega
end Go.Proofs.YtgdocflpobncmaaGreat
