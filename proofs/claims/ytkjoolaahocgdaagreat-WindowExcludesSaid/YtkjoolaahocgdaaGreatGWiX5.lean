import Derived.Test.YtkjoolaahocgdaaGreatGWiF2
import Derived.Test.YtkjoolaahocgdaaGreatGWiK1
import Derived.Test.YtkjoolaahocgdaaGreatGWiL
import Derived.Test.YtkjoolaahocgdaaGreatGWiLp
namespace Go.Proofs.YtkjoolaahocgdaaGreat
open Go.Av Go.Proofs
set_option maxRecDepth 20000
def aSh:Act:=⟨14,0,0,0,0,0,[]⟩
def aUn:Act:=⟨16,0,0,0,0,0,[]⟩
def aC (kd:Int):Act:=⟨kd,0,1,1,1,0,[]⟩
def lkN (lk:Bool):Nat:=if lk=true then 1 else 0
def BW (kd:Int) (lk:Bool) (t:Nat):List Act:=[aF]++(if lk=true then[aSh] else[])++List.replicate t (aC kd)++(if lk=true then[aUn] else[])++[aF]
def okAt (l:List Act) (i:Nat):Bool:=match l[i]? with
 | some x=>decide (1≤x.k) && decide (x.k≤16) && (!cD x.k || (hN l (dZ l i) i x).2) && (cD x.k || alP x.k.toNat (dZ l i) x)
 | none=>true
def okL (l:List Act):Bool:=decide (l.length≤100) && (List.range l.length).all (okAt l) && decide ((dZ l l.length).o.length=0) && decide ((dZ l l.length).p.length=0) && decide ((dZ l l.length).l < 0)
def OF (kd:Int) (lk:Bool) (t:Nat):Bool:=okL (BW kd lk t) && decide (gL 8 (BW kd lk t) (BW kd lk t).length=[0,1+lkN lk+t+lkN lk]) && decide ((BW kd lk t).length=2+lkN lk+t+lkN lk) &&
 (List.range (2+lkN lk+t+lkN lk)).all (fun i=>decide (i=0) || decide (i=1+lkN lk+t+lkN lk) || (decide (kAt (BW kd lk t) i≠8) && decide (kAt (BW kd lk t) i≠10) && decide (kAt (BW kd lk t) i≠12)))
theorem HW:∀ t,t < 8→∀ lk:Bool,OF 3 lk t=true∧OF 4 lk t=true:=by decide +kernel
structure IF (kd:Int) (ts:List Nat):Prop where
 k:kd=3∨kd=4
 n1:0 < ts.length
 n8:ts.length≤8
 t:∀ t∈ts,t < 8
section
variable {kd:Int} {lk:Bool} {ts:List Nat}
theorem IF.b (h:IF kd ts) {t:Nat} (ht:t < 8):OF kd lk t=true:=by
 rcases h.k with rfl | rfl
 ·exact(HW t ht lk).1
 ·exact(HW t ht lk).2
structure CntA (kd:Int) (lk:Bool) (l:List Act) (t:Nat):Prop where
 fe:gL 8 l l.length=[0,1+lkN lk+t+lkN lk]
 len:l.length=2+lkN lk+t+lkN lk
 mid:∀ i,i < l.length→i≠0→i≠1+lkN lk+t+lkN lk→kAt l i≠8∧kAt l i≠10∧kAt l i≠12
theorem IF.a (h:IF kd ts) {t:Nat} (ht:t < 8):CntA kd lk (BW kd lk t) t:=by
 have hb:=h.b (lk:=lk) ht
 unfold OF at hb
 simp only[Bool.and_eq_true,decide_eq_true_eq] at hb
 obtain⟨⟨⟨_,h1⟩,h2⟩,h3⟩:=hb
 refine⟨h1,h2,fun i hi h4 h5=>?_⟩
 have:=List.all_eq_true.1 h3 i (List.mem_range.2 (by omega))
 simp only[Bool.or_eq_true,Bool.and_eq_true,decide_eq_true_eq] at this
 rcases this with(q | q) | q
 ·exact absurd q h4
 ·exact absurd q h5
 ·exact⟨q.1.1,q.1.2,q.2⟩
end
section
variable {kd:Int} {lk:Bool} {ts:List Nat} {ls:List Ln} {a:Nat}
end
set_option linter.unusedVariables false
theorem J8 (m:List (List Act)) (l:List Act):cE (m++[l])=cE m++[[.list 7 (dD l)]]:=by simp[cE]
def u8R (l:List Nat):List (List AV):=l.map fun n:Nat=>[.sc (.int .u8 (n:Int))]
theorem G0 (l:List Nat):(u8R l).length=l.length:=by simp[u8R]
instance (l:List Nat):PRs (u8R l):=inferInstanceAs (PRs (l.map fun n:Nat=>[AV.sc (.int .u8 (n:Int))]))
theorem ME (l:List Nat) (k:Nat) (h:k < l.length):dT (u8R l) (k:Int)=some [.sc (.int .u8 (l[k]:Nat))]:=gW (fun n:Nat=>[.sc (.int .u8 (n:Int))]) l k h
def tsOf (l:List Nat):List Nat:=l.map (· % 8)
def P2 (kd:Int) (lk:Bool) (l:List Nat) (k:Nat):List (List AV):=cE ((tsOf (l.take k)).map (BW kd lk))
instance (kd:Int) (lk:Bool) (l:List Nat) (k:Nat):PRs (P2 kd lk l k):=by unfold P2; infer_instance
def gN:Blk:=.cells 2 [[.sc (.int .i64 0),.sc (.slice none 0 0)]]
def l3 (w:Nat):Int:=if w % 4=0 then 14 else 13
def i6 (w:Nat):Int:=if w % 4≤1 then 2 else 1
def exC (w:Nat):Nat:=1+w / 4 % 3
def exE (r w i:Nat):List Act:=[⟨l3 w,0,0,0,0,0,[]⟩,⟨i6 w,0,0,0,((100 * r+i+1:Nat):Int),0,[]⟩,⟨i6 w,0,1,0,((100 * r+i+1:Nat):Int),0,[]⟩,aUn]
def exA (r w:Nat):List Act:=(List.range (exC w)).flatMap (exE r w)
def exG (ws:List Nat):Pg:=⟨2,(List.range ws.length).map fun r=>exA r (ws.getD r 0)⟩
def exOK (w:Nat):Bool:=okL (exA 0 w) && decide ((exA 0 w).length=4 * exC w) &&
 (List.range (4 * exC w)).all fun j=>decide (kAt (exA 0 w) j=if j % 4=0 then l3 w else if j % 4=3 then 16 else i6 w) && (decide (j % 4=0) || decide (j % 4=3) || decide ((hN (exA 0 w) (dZ (exA 0 w) j) j (((exA 0 w)[j]?).getD act0)).1=4 * (j / 4)+3))
theorem QC:∀ w,w < 12→exOK w=true:=by decide +kernel
theorem KL (r w i:Nat) (j:Nat):(exE r w i)[j]?=if j=0 then some ⟨l3 w,0,0,0,0,0,[]⟩ else if j=1 then some ⟨i6 w,0,0,0,((100 * r+i+1:Nat):Int),0,[]⟩ else if j=2 then some ⟨i6 w,0,1,0,((100 * r+i+1:Nat):Int),0,[]⟩ else if j=3 then some aUn else none:=by
 match j with
 | 0=>rfl
 | 1=>rfl
 | 2=>rfl
 | 3=>rfl
 | j+4=>rw[if_neg (by omega),if_neg (by omega),if_neg (by omega),if_neg (by omega)]; rfl
theorem P9 {f:Nat→List Act} (h:∀ i,(f i).length=4):∀(n j:Nat),((List.range n).flatMap f)[j]?=if j < 4 * n then(f (j / 4))[j % 4]? else none
 | 0,j=>by simp
 | n+1,j=>by
  have hl:((List.range n).flatMap f).length=4 * n:=by
   rw[List.length_flatMap]
   simp only[h]
   rw[List.map_const',List.sum_replicate_nat,List.length_range]
   omega
  rw[List.range_succ,List.flatMap_append,List.getElem?_append,hl]
  by_cases e:j < 4 * n
  ·rw[if_pos e,P9 h n j,if_pos e,if_pos (by omega)]
  ·rw[if_neg e,List.flatMap_cons,List.flatMap_nil,List.append_nil]
   by_cases e2:j < 4 * (n+1)
   ·rw[if_pos e2,show j / 4=n by omega,show j % 4=j - 4 * n by omega]
   ·rw[if_neg e2,List.getElem?_eq_none (by rw[h]; omega)]
theorem Q1 (r w j:Nat):(exA r w)[j]?=if j < 4 * exC w then(exE r w (j / 4))[j % 4]? else none:=P9 (fun _=>rfl) _ _
theorem zZ (r w:Nat):(exA r w).length=4 * exC w:=by
 unfold exA
 rw[List.length_flatMap]
 simp only[show ∀ i,(exE r w i).length=4 from fun _=>rfl]
 rw[List.map_const',List.sum_replicate_nat,List.length_range]
 omega
theorem BT (w:Nat):l3 (w % 12)=l3 w∧i6 (w % 12)=i6 w∧exC (w % 12)=exC w:=by
 unfold l3 i6 exC
 refine⟨?_,?_,?_⟩
 ·rw[show w % 12 % 4=w % 4 by omega]
 ·rw[show w % 12 % 4=w % 4 by omega]
 ·rw[show w % 12 / 4 % 3=w / 4 % 3 by omega]
theorem L9 (w:Nat):1≤exC w∧exC w≤3:=by unfold exC; omega
theorem mZ (w:Nat):i6 w=1∨i6 w=2:=by unfold i6; split<;>simp
theorem pG (w:Nat):l3 w=13∨l3 w=14:=by unfold l3; split<;>simp
def noV (x:Act):Act:={ x with v:=0 }
theorem OQ (k:Nat) (e:Ep) (x:Act):afP k e (noV x)=afP k e x:=by
 unfold afP noV
 split<;>rfl
theorem xH (l:List Act):∀ i,dZ (l.map noV) i=dZ l i
 | 0=>rfl
 | i+1=>by
  rw[dZ,dZ,List.getElem?_map,xH l i]
  cases l[i]? with
  | none=>rfl
  | some x=>
   show(if 6≤(noV x).k then afP (noV x).k.toNat (dZ l i) (noV x) else dZ l i)=_
   rw[OQ]
   rfl
theorem DP (t:Int→Bool):∀ l:List Act,gJ (fun x:Act=>t x.k) (l.map noV)=gJ (fun x:Act=>t x.k) l
 | []=>rfl
 | x::l=>by
  rw[List.map_cons]
  unfold gJ
  rw[DP t l]
  rfl
theorem B2 (t:Int→Bool) (l:List Act) (i:Nat):ofP t (l.map noV) i=ofP t l i:=by
 unfold ofP
 rw[← List.map_drop,DP,List.length_map]
theorem yW (l:List Act) (e:Ep) (i:Nat) (x:Act):hN (l.map noV) e i (noV x)=hN l e i x:=by
 unfold hN
 rw[B2,B2,B2,List.getElem?_map]
 cases l[ofP stN l i]?<;>rfl
theorem NV (r w:Nat):(exA r w).map noV=(exA 0 (w % 12)).map noV:=by
 unfold exA
 rw[(BT w).2.2,List.map_flatMap,List.map_flatMap]
 congr 1
 funext i
 unfold exE
 rw[(BT w).1,(BT w).2.1]
 rfl
structure ExA (p:Pg) (r w:Nat):Prop where
 ok:∀ i x,(exA r w)[i]?=some x→lQ p r x=0→kA p r (exA r w) i x
 eo:(dZ (exA r w) (exA r w).length).o.length=0
 ep:(dZ (exA r w) (exA r w).length).p.length=0
 el:(dZ (exA r w) (exA r w).length).l < 0
 done:∀ j,j < 4 * exC w→j % 4=1∨j % 4=2→∀ x,(exA r w)[j]?=some x→(hN (exA r w) (dZ (exA r w) j) j x).1=4 * (j / 4)+3
theorem L4 (p:Pg) (r w:Nat):ExA p r w:=by
 have hb:=QC (w % 12) (Nat.mod_lt _ (by decide))
 unfold exOK okL at hb
 simp only[Bool.and_eq_true,decide_eq_true_eq] at hb
 obtain⟨⟨⟨⟨⟨⟨_,h2⟩,h3⟩,h4⟩,h5⟩,h6⟩,h7⟩:=hb
 have hm:=NV r w
 have hl:(exA r w).length=(exA 0 (w % 12)).length:=by
  have:=congrArg List.length hm
  rw[List.length_map,List.length_map] at this
  exact this
 have he:∀ i,dZ (exA r w) i=dZ (exA 0 (w % 12)) i:=fun i=>by rw[← xH (exA r w),hm,xH]
 have hx:∀(i:Nat) (x:Act),(exA r w)[i]?=some x→∃ y,(exA 0 (w % 12))[i]?=some y∧noV y=noV x:=fun i x h=>by
  have this:((exA r w).map noV)[i]?=((exA 0 (w % 12)).map noV)[i]?:=by rw[hm]
  rw[List.getElem?_map,List.getElem?_map] at this
  rw[h] at this
  cases h':(exA 0 (w % 12))[i]? with
  | none=>rw[h'] at this; cases this
  | some y=>
   rw[h'] at this
   simp only[Option.map_some] at this
   injection this with this
   exact⟨y,rfl,this.symm⟩
 have hc:∀(e:Ep) (i:Nat) (x y:Act),noV y=noV x→hN (exA r w) e i x=hN (exA 0 (w % 12)) e i y:=fun e i x y h=>by
  rw[← yW (exA r w),← yW (exA 0 (w % 12)),hm,h]
 refine⟨fun i x h hf=>?_,?_,?_,?_,fun j hj h12 x h=>?_⟩
 ·obtain⟨y,hy,hv⟩:=hx i x h
  have:=List.all_eq_true.1 h2 i (List.mem_range.2 (gEs.1 hy).1)
  unfold okAt at this
  rw[hy] at this
  simp only[Bool.and_eq_true,Bool.or_eq_true,decide_eq_true_eq,Bool.not_eq_true'] at this
  obtain⟨⟨⟨q1,q2⟩,q3⟩,q4⟩:=this
  have hk:(noV y).k=(noV x).k:=by rw[hv]
  have hk:y.k=x.k:=hk
  rw[hk] at q1 q2 q3 q4
  refine⟨q1,q2,hf,fun e=>?_,fun e=>?_⟩
  ·rw[hc _ i x y hv,he]
   exact q3.resolve_left (by rw[e]; decide)
  ·have:=q4.resolve_left (by rw[e]; decide)
   have h9:alP x.k.toNat (dZ (exA 0 (w % 12)) i) y=alP x.k.toNat (dZ (exA 0 (w % 12)) i) x:=by
    have hr:(noV y).r=(noV x).r:=by rw[hv]
    have hr:y.r=x.r:=hr
    unfold alP
    rw[hr]
   rw[he,← h9]; exact this
 ·rw[he,hl]; exact h3
 ·rw[he,hl]; exact h4
 ·rw[he,hl]; exact h5
 ·obtain⟨y,hy,hv⟩:=hx j x h
  have:=List.all_eq_true.1 h7 j (List.mem_range.2 (by rw[(BT w).2.2]; exact hj))
  simp only[Bool.and_eq_true,Bool.or_eq_true,decide_eq_true_eq] at this
  rw[hc _ j x y hv,he]
  have:=this.2
  rw[hy] at this
  simp only[Option.getD_some] at this
  rcases this with(q | q) | q
  ·omega
  ·omega
  ·exact q
section
variable {ws:List Nat} {ls:List Ln}
theorem kJ:(exG ws).acts.length=ws.length:=by simp[exG]
theorem vH {r:Nat} (hr:r < ws.length):(exG ws).acts[r]?=some (exA r (ws.getD r 0)):=by simp[exG,hr]
theorem AQ {r w i:Nat} {x:Act} (h:x∈exE r w i):x.r=0∧0≤x.a∧x.a < 2∧x.o=0∧k9 x.k=false∧mE x.k=false∧x.g=[]:=by
 have h1:=pG w
 have h2:=mZ w
 unfold exE at h
 simp only[List.mem_cons,List.not_mem_nil,or_false] at h
 rcases h with rfl | rfl | rfl | rfl
 ·rcases h1 with e | e<;>rw[e]<;>exact⟨rfl,by decide,by decide,rfl,rfl,rfl,rfl⟩
 ·rcases h2 with e | e<;>rw[e]<;>exact⟨rfl,(by decide:(0:Int)≤0),(by decide:(0:Int) < 2),rfl,rfl,rfl,rfl⟩
 ·rcases h2 with e | e<;>rw[e]<;>exact⟨rfl,(by decide:(0:Int)≤1),(by decide:(1:Int) < 2),rfl,rfl,rfl,rfl⟩
 ·exact⟨rfl,by decide,by decide,rfl,rfl,rfl,rfl⟩
theorem KI (h0:0 < ws.length) {r w i q:Nat} {x:Act} (h:x∈exE r w i):lQ (exG ws) q x=0:=by
 obtain⟨h1,h2,h3,_,h4,h5,_⟩:=AQ h
 unfold lQ iI
 rw[kJ,h4,h5,if_neg (by rw[h1]; omega),if_neg (by show¬ (_∧(x.a < 0∨(2:Int)≤x.a)); omega)]
 rfl
theorem HQ {r w:Nat} {x:Act} (h:x∈exA r w):∃ i,x∈exE r w i:=by
 obtain⟨i,_,h⟩:=List.mem_flatMap.1 h
 exact⟨i,h⟩
theorem RB:POK (exG ws):=fun l hl x hx=>by
 obtain⟨r,_,rfl⟩:=List.mem_map.1 hl
 obtain⟨i,h⟩:=HQ hx
 rw[(AQ h).2.2.2.2.2.2]
 exact Nat.zero_le _
theorem QS (h1:0 < ws.length) (h8:ws.length≤8):(dO (exG ws)).1.2=0:=by
 refine KM (by decide:(1:Int)≤2) (by decide:(2:Int)≤64) (by rw[kJ]; exact h1) (by rw[kJ]; omega) fun r l hr=>?_
 have hrl:r < ws.length:=by have:=(gEs.1 hr).1; rw[kJ] at this; exact this
 rw[vH hrl] at hr
 cases hr
 have ha:=L4 (exG ws) r (ws.getD r 0)
 have hc:=L9 (ws.getD r 0)
 refine KC (by rw[zZ]; omega) (fun i x hx=>ha.ok i x hx ?_) ha.eo ha.ep ha.el
 obtain⟨j,hj⟩:=HQ (List.mem_of_getElem? hx)
 exact KI h1 hj
theorem pH {r:Nat} (hr:r < ws.length):bH (exG ws) r=4 * exC (ws.getD r 0):=by rw[c9 (vH hr),zZ]
theorem ES {r:Nat} (hr:r < ws.length) {j:Nat} (hj:j < 4 * exC (ws.getD r 0)):∃ x,(exA r (ws.getD r 0))[j]?=some x∧bF (exG ws) (r,j)=x∧(exE r (ws.getD r 0) (j / 4))[j % 4]?=some x:=by
 have h:=Q1 r (ws.getD r 0) j
 rw[if_pos hj] at h
 have hl:j % 4 < (exE r (ws.getD r 0) (j / 4)).length:=Nat.mod_lt _ (by decide)
 refine⟨_,h.trans (gEg hl),?_,gEg hl⟩
 exact eY (vH hr) (h.trans (gEg hl))
theorem kD {r:Nat} (hr:r < ws.length) {j:Nat} (hj:j < 4 * exC (ws.getD r 0)):(bF (exG ws) (r,j)).k=if j % 4=0 then l3 (ws.getD r 0) else if j % 4=3 then 16 else i6 (ws.getD r 0):=by
 obtain⟨x,h1,h2,h3⟩:=ES hr hj
 rw[h2]
 rw[KL] at h3
 have:j % 4=0∨j % 4=1∨j % 4=2∨j % 4=3:=by omega
 rcases this with e | e | e | e<;>rw[e] at h3 ⊢<;>cases h3<;>rfl
theorem O5 {r:Nat} (hr:r < ws.length) {j:Nat} (hj:j < 4 * exC (ws.getD r 0)):(bF (exG ws) (r,j)).r=0:=by
 obtain⟨x,h1,h2,h3⟩:=ES hr hj
 rw[h2]
 exact(AQ (List.mem_of_getElem? h3)).1
theorem HY (hC:cF (exG ws) ls) {r:Nat} (hr:r < ws.length) {j:Nat} (hj:j < 4 * exC (ws.getD r 0)) (h12:j % 4=1∨j % 4=2):fN ls (r,j)=(0,j % 4 - 1)∧gC ls (r,j)=4 * (j / 4)+3∧(bF (exG ws) (r,j)).v=((100 * r+j / 4+1:Nat):Int):=by
 obtain⟨x,h1,h2,h3⟩:=ES hr hj
 have hk:=kD hr hj
 have hd:=(L4 (exG ws) r (ws.getD r 0)).done j hj h12 x h1
 obtain⟨L,hL,hO⟩:=hC.get (vH hr)
 rw[h2] at hk ⊢
 rw[if_neg (by omega),if_neg (by omega)] at hk
 have hrem:cD x.k=true:=by rw[hk]; rcases mZ (ws.getD r 0) with e | e<;>rw[e]<;>rfl
 have a1:=sD hL hO h1 hrem
 have hx:x.r=0∧x.a=((j % 4 - 1:Nat):Int)∧x.v=((100 * r+j / 4+1:Nat):Int):=by
  rw[KL] at h3
  rcases h12 with e | e<;>rw[e] at h3 ⊢<;>cases h3<;>exact⟨rfl,rfl,rfl⟩
 unfold fN
 rw[pL,a1.1,hd]
 refine⟨?_,rfl,hx.2.2⟩
 show(((x.r.toNat:Nat):Int).toNat,((x.a.toNat:Nat):Int).toNat)=_
 rw[hx.1,hx.2.1]
 rfl
theorem LX (hC:cF (exG ws) ls) {s0 s:St} {tr:List Pl} (E:N9 (exG ws) ls s0 s tr) {r:Nat} (hr:r < ls.length):dAt s r=bH (exG ws) r:=by
 have hn:=hC.len
 rw[kJ] at hn
 have hd:=E.inv.ok.d r hr
 by_cases e:dAt s r=bH (exG ws) r
 ·exact e
 ·exfalso
  have hl:=pH (ws:=ws) (r:=r) (by omega)
  have hk:=kD (ws:=ws) (r:=r) (by omega) (j:=dAt s r) (by unfold dAt at *; omega)
  have h1:=pG (ws.getD r 0)
  have h2:=mZ (ws.getD r 0)
  have hne:(bF (exG ws) (r,dAt s r)).k≠10∧(bF (exG ws) (r,dAt s r)).k≠12∧(bF (exG ws) (r,dAt s r)).k≠8:=by
   rw[hk]
   split
   ·omega
   ·split
    ·omega
    ·omega
  exact E.go hC hr (by unfold dAt at *; omega) hne.1 hne.2.1 fun h8=>absurd h8 hne.2.2
end
theorem wE {r:Nat} {v:Int}:∀ {l:List (Nat×Int)},(r,v)∈iS r v l∧∀ e∈l,e.1≠r→e∈iS r v l
 | []=>⟨by simp[iS],fun _ h=>by cases h⟩
 | (j,w)::l=>by
  rw[iS]
  split
  ·rename_i e
   subst e
   exact⟨by simp,fun e he hne=>by
    rcases List.mem_cons.1 he with rfl | he
    ·exact absurd rfl hne
    ·simp[he]⟩
  ·obtain⟨h1,h2⟩:=wE (r:=r) (v:=v) (l:=l)
   exact⟨by simp[h1],fun e he hne=>by
    rcases List.mem_cons.1 he with rfl | he
    ·simp
    ·simp[h2 e he hne]⟩
theorem xW {r:Nat}:∀ {l:List (Nat×Int)},∀ e∈l,e.1≠r→e∈jI r l
 | [],e,h,_=>by cases h
 | (j,w)::l,e,he,hne=>by
  rw[jI]
  split
  ·rename_i q
   rcases List.mem_cons.1 he with rfl | he
   ·exact absurd q.symm hne
   ·exact he
  ·rcases List.mem_cons.1 he with rfl | he
   ·simp
   ·simp[xW e he hne]
theorem E0 {w:Nat} (h:i6 w=1):l3 w=13:=by
 unfold i6 at h
 unfold l3
 split at h
 ·cases h
 ·rw[if_neg (by omega)]
structure xM (ws:List Nat) (n:Nat) (s:St) (tr:List Pl):Prop where
 h:∀ r,r < n→dAt s r % 4≠0→(r,l3 (ws.getD r 0))∈bL s 0
 x:∀ r q,r < n→q < n→r≠q→dAt s r % 4≠0→dAt s q % 4≠0→l3 (ws.getD r 0)=14∧l3 (ws.getD q 0)=14
 e:(∀ r,r < n→i6 (ws.getD r 0)=1→dAt s r % 4=0)→(eC s).m 0 0=(eC s).m 0 1
 w:∀ r,r < n→i6 (ws.getD r 0)=1→dAt s r % 4≠0→∃ u,∀ j,j < 2→(eC s).m 0 j=if (r,4 * (dAt s r / 4)+1+j)∈tr then((100 * r+dAt s r / 4+1:Nat):Int) else u
 g:∀ r,r < n→i6 (ws.getD r 0)=2→∀ i j,j < 2→(r,4 * i+1+j)∈tr→dAt s r≤4 * i+3→(eC s).g r (4 * i+1+j)=some ((eC s).m 0 0)
 p:∀ r,r < n→i6 (ws.getD r 0)=2→∀ i,(r,4 * i+1)∈tr→(r,4 * i+2)∈tr→(eC s).g r (4 * i+1)=(eC s).g r (4 * i+2)
section
variable {ws:List Nat} {ls:List Ln}
theorem xM.act (hC:cF (exG ws) ls) {s0 s:St} {tr:List Pl} (hI:lY (exG ws) ls s0 s tr) (h:xM ws ls.length s tr) {r:Nat} (hr:r < ls.length) (hc:kF (exG ws) ls s r=true):xM ws ls.length (jS (exG ws) ls s r) (tr++evs (exG ws) s (.act r)):=by
 have hn:=hC.len
 rw[kJ] at hn
 have hrw:r < ws.length:=by omega
 have hd:dAt s r < bH (exG ws) r:=s5 (hI.ok.d r hr) hc
 have A:=BA hC hI.ok hr hd
 have hl:=pH (ws:=ws) hrw
 have hdl:dAt s r < 4 * exC (ws.getD r 0):=by omega
 have hk:=kD hrw hdl
 have hrk:=O5 hrw hdl
 have hk1:=mZ (ws.getD r 0)
 have hk2:=pG (ws.getD r 0)
 have hloc:qB (bF (exG ws) (r,dAt s r)).k=false:=by
  unfold qB
  apply dFa
  rw[hk]
  split
  ·omega
  ·split<;>omega
 have hev:evs (exG ws) s (.act r)=[]:=by rw[nI,hloc]; rfl
 have hA:=A.a
 rw[hev] at hA
 have hA:eC (jS (exG ws) ls s r)=eC s:=hA
 rw[hev,List.append_nil]
 have hlock:=fun hk13:(bF (exG ws) (r,dAt s r)).k=13∨(bF (exG ws) (r,dAt s r)).k=14=>by
  have:=(vW hc).1
  unfold yJ at this
  rw[if_pos hk13] at this
  unfold D9 at this
  rw[hrk] at this
  exact List.any_eq_false.1 (show _=false by simpa only[Bool.not_eq_true'] using this)
 have hend:=AZ hc
 have hhe:=A.h 0
 rw[hrk] at hhe
 have htm:=hI.mem
 have hAd:=A.d
 generalize jS (exG ws) ls s r=s' at *
 have hdr:dAt s' r=dAt s r+1:=by rw[hAd,if_pos rfl]
 have hdo:∀ j,j≠r→dAt s' j=dAt s j:=fun j e=>by rw[hAd,if_neg e]
 have htr:∀ i,(r,i)∈tr→i < dAt s r:=fun i hi=>((htm (r,i)).1 hi).2.1
 by_cases c0:dAt s r % 4=0
 ·rw[if_pos c0] at hk
  have hlk:=hlock (by rw[hk]; exact hk2)
  have hin:∀ q,q < ls.length→dAt s q % 4≠0→l3 (ws.getD q 0)=14∧l3 (ws.getD r 0)=14:=fun q hq hi=>by
   have h1:=hlk _ (h.h q hq hi)
   rw[hk] at h1
   unfold nP at h1
   simp only[Bool.or_eq_true,decide_eq_true_eq,not_or] at h1
   have:=pG (ws.getD q 0)
   omega
  rw[if_pos ⟨by rw[hk]; exact hk2,rfl⟩,hk] at hhe
  refine⟨fun q hq hi=>?_,fun q b hq hb hne hi hi2=>?_,fun ho=>?_,fun q hq hw hi=>?_,fun q hq hk i j hj hm hle=>?_,fun q hq hk i hm1 hm2=>?_⟩
  ·rw[hhe]
   by_cases e:q=r
   ·subst e; exact wE.1
   ·rw[hdo q e] at hi
    exact wE.2 _ (h.h q hq hi) e
  ·by_cases e:q=r
   ·subst e
    rw[hdo b (fun e=>hne e.symm)] at hi2
    exact⟨(hin b hb hi2).2,(hin b hb hi2).1⟩
   ·rw[hdo q e] at hi
    by_cases e2:b=r
    ·subst e2
     exact hin q hq hi
    ·rw[hdo b e2] at hi2
     exact h.x q b hq hb hne hi hi2
  ·rw[hA]
   refine h.e fun q hq hw=>?_
   by_cases e:q=r
   ·subst e; exact c0
   ·rw[← hdo q e]; exact ho q hq hw
  ·rw[hA]
   by_cases e:q=r
   ·subst e
    have h13:=E0 hw
    have hm:=h.e fun b hb _=>by
     by_cases hi:dAt s b % 4=0
     ·exact hi
     ·have:=(hin b hb hi).2; omega
    refine⟨(eC s).m 0 0,fun j hj=>?_⟩
    rw[if_neg (fun hm=>by have:=htr _ hm; rw[hdr] at this; omega)]
    match j,hj with
    | 0,_=>rfl
    | 1,_=>exact hm.symm
   ·rw[hdo q e] at hi ⊢
    exact h.w q hq hw hi
  ·rw[hA]
   by_cases e:q=r
   ·subst e
    have:=htr _ hm
    omega
   ·exact h.g q hq hk i j hj hm (by rw[← hdo q e]; exact hle)
  ·rw[hA]
   exact h.p q hq hk i hm1 hm2
 rw[if_neg c0] at hk
 by_cases c3:dAt s r % 4=3
 ·rw[if_pos c3] at hk
  have hcl:=(hend (by rw[hk]; rfl)).1
  rw[if_neg (by rw[hk]; omega),if_pos ⟨hk,rfl⟩] at hhe
  have hdone:∀ j,j < 2→(r,4 * (dAt s r / 4)+1+j)∈tr:=fun j hj=>by
   have hjl:4 * (dAt s r / 4)+1+j < 4 * exC (ws.getD r 0):=by omega
   refine(htm _).2 ⟨hr,by dsimp only; omega,?_,fun hq=>?_⟩
   ·rw[kD hrw hjl,if_neg (by omega),if_neg (by omega)]
    rcases hk1 with e | e<;>rw[e]<;>rfl
   ·refine hcl _ hq ?_
    rw[(HY hC hrw hjl (by omega)).2.1]
    omega
  refine⟨fun q hq hi=>?_,fun q b hq hb hne hi hi2=>?_,fun ho=>?_,fun q hq hw hi=>?_,fun q hq hk i j hj hm hle=>?_,fun q hq hk i hm1 hm2=>?_⟩
  ·have e:q≠r:=fun e=>by subst e; omega
   rw[hdo q e] at hi
   rw[hhe]
   exact xW _ (h.h q hq hi) e
  ·have e:q≠r:=fun e=>by subst e; omega
   have e2:b≠r:=fun e=>by subst e; omega
   rw[hdo q e] at hi
   rw[hdo b e2] at hi2
   exact h.x q b hq hb hne hi hi2
  ·rw[hA]
   by_cases hw:i6 (ws.getD r 0)=1
   ·obtain⟨u,hu⟩:=h.w r hr hw c0
    rw[hu 0 (by decide),hu 1 (by decide),if_pos (hdone 0 (by decide)),if_pos (hdone 1 (by decide))]
   ·refine h.e fun q hq hw2=>?_
    have e:q≠r:=fun e=>by subst e; exact hw hw2
    rw[← hdo q e]; exact ho q hq hw2
  ·have e:q≠r:=fun e=>by subst e; omega
   rw[hA]
   rw[hdo q e] at hi ⊢
   exact h.w q hq hw hi
  ·rw[hA]
   by_cases e:q=r
   ·subst e
    have:=htr _ hm
    omega
   ·exact h.g q hq hk i j hj hm (by rw[← hdo q e]; exact hle)
  ·rw[hA]
   exact h.p q hq hk i hm1 hm2
 ·rw[if_neg c3] at hk
  rw[if_neg (by rw[hk]; omega),if_neg (by rw[hk]; omega)] at hhe
  have hin:∀ q,(dAt s' q % 4=0↔dAt s q % 4=0)∧dAt s' q / 4=dAt s q / 4∧dAt s q≤dAt s' q:=fun q=>by
   by_cases e:q=r
   ·subst e; omega
   ·rw[hdo q e]; exact⟨Iff.rfl,rfl,Nat.le_refl _⟩
  refine⟨fun q hq hi=>?_,fun q b hq hb hne hi hi2=>?_,fun ho=>?_,fun q hq hw hi=>?_,fun q hq hk i j hj hm hle=>?_,fun q hq hk i hm1 hm2=>?_⟩
  ·rw[hhe]
   exact h.h q hq fun e=>hi ((hin q).1.2 e)
  ·exact h.x q b hq hb hne (fun e=>hi ((hin q).1.2 e)) fun e=>hi2 ((hin b).1.2 e)
  ·rw[hA]
   exact h.e fun q hq hw=>(hin q).1.1 (ho q hq hw)
  ·rw[hA,(hin q).2.1]
   exact h.w q hq hw fun e=>hi ((hin q).1.2 e)
  ·rw[hA]
   exact h.g q hq hk i j hj hm (Nat.le_trans (hin q).2.2 hle)
  ·rw[hA]
   exact h.p q hq hk i hm1 hm2
theorem xM.take (hC:cF (exG ws) ls) {s0 s:St} {tr:List Pl} (hI:lY (exG ws) ls s0 s tr) (h:xM ws ls.length s tr) {r k i:Nat} (hr:r < ls.length) (hk:(qAt s r)[k]?=some i):xM ws ls.length (mR (exG ws) ls s r k i) (tr++[(r,i)]):=by
 have hn:=hC.len
 rw[kJ] at hn
 have hrw:r < ws.length:=by omega
 have B:=z7 hC hI.ok hr hk
 have hiq:=List.mem_of_getElem? hk
 obtain⟨hid,hrem⟩:=hI.ok.qi r hr i hiq
 have hid:i < dAt s r:=hid
 have hdl:=hI.ok.d r hr
 have hl:=pH (ws:=ws) hrw
 have hil:i < 4 * exC (ws.getD r 0):=by unfold dAt at *; omega
 have hkd:=kD hrw hil
 have hk1:=mZ (ws.getD r 0)
 have hk2:=pG (ws.getD r 0)
 have hrem:1≤(bF (exG ws) (r,i)).k∧(bF (exG ws) (r,i)).k≤5:=of_decide_eq_true hrem
 have h12:i % 4=1∨i % 4=2:=by
  rw[hkd] at hrem
  by_cases e0:i % 4=0
  ·rw[if_pos e0] at hrem; omega
  ·rw[if_neg e0] at hrem
   by_cases e3:i % 4=3
   ·rw[if_pos e3] at hrem; omega
   ·omega
 rw[if_neg (by omega),if_neg (by omega)] at hkd
 obtain⟨hcell,hdone,hval⟩:=HY hC hrw hil h12
 have hpe:=hI.pend r hr i hiq
 rw[hdone] at hpe
 have hins:dAt s r % 4≠0:=by omega
 have hep:dAt s r / 4=i / 4:=by omega
 have hnt:(r,i)∉tr:=fun q=>((hI.mem _).1 q).2.2.2 hiq
 have htm:=hI.mem
 have hBa:=B.a
 have hBd:=B.d
 have hBh:=B.h 0
 have hm:∀ j,(eC (mR (exG ws) ls s r k i)).m 0 j=if j=i % 4 - 1 then eL (bF (exG ws) (r,i)) ((eC s).m 0 (i % 4 - 1)) else(eC s).m 0 j:=fun j=>by
  rw[hBa]
  show(if (0,j)=fN ls (r,i) then _ else _)=_
  rw[hcell]
  by_cases e:j=i % 4 - 1
  ·rw[if_pos (by rw[e]),if_pos e]
  ·rw[if_neg (fun q=>e (congrArg Prod.snd q)),if_neg e]
 have hg:∀ b j,(eC (mR (exG ws) ls s r k i)).g b j=if gP (bF (exG ws) (r,i)).k=true∧(b,j)=(r,i) then some ((eC s).m 0 (i % 4 - 1)) else(eC s).g b j:=fun b j=>by
  rw[hBa]
  show(if gP (bF (exG ws) (r,i)).k=true∧(b,j)=(r,i) then some _ else _)=_
  rw[hcell]
 generalize mR (exG ws) ls s r k i=s' at *
 rcases hk1 with hw | hw
 ·have h13:=E0 hw
  have hex:∀ q,q < ls.length→q≠r→dAt s q % 4=0:=fun q hq hne=>by
   by_cases e:dAt s q % 4=0
   ·exact e
   ·have:=(h.x q r hq hr hne e hins).2
    omega
  have hgs:∀ b j,(eC s').g b j=(eC s).g b j:=fun b j=>by
   rw[hg,if_neg (fun q=>by rw[hkd,hw] at q; cases q.1)]
  refine⟨fun q hq hi=>?_,fun q b hq hb hne hi hi2=>?_,fun ho=>?_,fun q hq hw2 hi=>?_,fun q hq hk i' j hj hmem hle=>?_,fun q hq hk i' hm1 hm2=>?_⟩
  ·rw[hBd] at hi
   rw[hBh]; exact h.h q hq hi
  ·rw[hBd] at hi hi2
   exact h.x q b hq hb hne hi hi2
  ·have:=ho r hr hw
   rw[hBd] at this
   omega
  ·rw[hBd] at hi ⊢
   by_cases e:q=r
   ·subst e
    obtain⟨u,hu⟩:=h.w q hq hw hins
    refine⟨u,fun j hj=>?_⟩
    rw[hm]
    by_cases ej:j=i % 4 - 1
    ·rw[if_pos ej,if_pos (by rw[List.mem_append]; right; rw[show 4 * (dAt s q / 4)+1+j=i by omega]; simp)]
     unfold eL
     rw[if_pos (.inl (by rw[hkd,hw])),hval,hep]
    ·rw[if_neg ej,hu j hj]
     have:((q,4 * (dAt s q / 4)+1+j)∈tr++[(q,i)])↔(q,4 * (dAt s q / 4)+1+j)∈tr:=by
      rw[List.mem_append,List.mem_singleton]
      exact⟨fun q1=>q1.elim id fun q2=>by have:=congrArg Prod.snd q2; dsimp only at this; omega,.inl⟩
     simp only[this]
   ·exact absurd (hex q hq e) hi
  ·rw[hBd] at hle
   have e:q≠r:=fun e=>by subst e; omega
   rcases List.mem_append.1 hmem with hmem | hmem
   ·have:=((htm _).1 hmem).2.1
    dsimp only at this
    have:=hex q hq e
    omega
   ·exact absurd (congrArg Prod.fst (List.mem_singleton.1 hmem)) e
  ·have e:q≠r:=fun e=>by subst e; omega
   have old:∀ j,(q,j)∈tr++[(r,i)]→(q,j)∈tr:=fun j hj=>(List.mem_append.1 hj).elim id fun q2=>absurd (congrArg Prod.fst (List.mem_singleton.1 q2)) e
   rw[hgs,hgs]
   exact h.p q hq hk i' (old _ hm1) (old _ hm2)
 ·have hno:∀ q,q < ls.length→i6 (ws.getD q 0)=1→dAt s q % 4=0:=fun q hq hw2=>by
   by_cases e:dAt s q % 4=0
   ·exact e
   ·have hne:q≠r:=fun e2=>by subst e2; omega
    have:=(h.x q r hq hr hne e hins).1
    have:=E0 hw2
    omega
  have hmm:=h.e hno
  have hms:∀ j,(eC s').m 0 j=(eC s).m 0 j:=fun j=>by
   rw[hm]
   split
   ·rename_i e
    rw[IQ (by rw[hkd,hw]; rfl),e]
   ·rfl
  have hmi:(eC s).m 0 (i % 4 - 1)=(eC s).m 0 0:=by
   rcases h12 with e | e<;>rw[e]
   exact hmm.symm
  have hgr:(eC s').g r i=some ((eC s).m 0 0):=by
   rw[hg,if_pos ⟨by rw[hkd,hw]; rfl,rfl⟩,hmi]
  have hgo:∀ b j,(b,j)≠(r,i)→(eC s').g b j=(eC s).g b j:=fun b j hne=>by
   rw[hg,if_neg (fun q=>hne q.2)]
  refine⟨fun q hq hi=>?_,fun q b hq hb hne hi hi2=>?_,fun ho=>?_,fun q hq hw2 hi=>?_,fun q hq hk i' j hj hmem hle=>?_,fun q hq hk i' hm1 hm2=>?_⟩
  ·rw[hBd] at hi
   rw[hBh]; exact h.h q hq hi
  ·rw[hBd] at hi hi2
   exact h.x q b hq hb hne hi hi2
  ·rw[hms,hms]; exact hmm
  ·rw[hBd] at hi
   exact absurd (hno q hq hw2) hi
  ·rw[hBd] at hle
   rw[hms]
   by_cases e:(q,4 * i'+1+j)=(r,i)
   ·have e1:=congrArg Prod.fst e
    have e2:=congrArg Prod.snd e
    dsimp only at e1 e2
    rw[e1,e2]; exact hgr
   ·rw[hgo _ _ e]
    refine h.g q hq hk i' j hj ((List.mem_append.1 hmem).elim id fun q2=>absurd (List.mem_singleton.1 q2) e) hle
  ·have key:∀ j,j < 2→(r,4 * (i / 4)+1+j)∈tr++[(r,i)]→(eC s').g r (4 * (i / 4)+1+j)=some ((eC s).m 0 0):=fun j hj hmem=>by
    by_cases e:(r,4 * (i / 4)+1+j)=(r,i)
    ·have e2:=congrArg Prod.snd e
     dsimp only at e2
     rw[e2]; exact hgr
    ·rw[hgo _ _ e]
     exact h.g r hr hw (i / 4) j hj ((List.mem_append.1 hmem).elim id fun q2=>absurd (List.mem_singleton.1 q2) e) (by omega)
   by_cases e:q=r∧i'=i / 4
   ·obtain⟨e1,e2⟩:=e
    rw[e1,e2] at hm1 hm2 ⊢
    exact(key 0 (by decide) hm1).trans (key 1 (by decide) hm2).symm
   ·have hne:∀ j,j < 2→(q,4 * i'+1+j)≠(r,i):=fun j hj e2=>by
     have e3:=congrArg Prod.fst e2
     have e4:=congrArg Prod.snd e2
     dsimp only at e3 e4
     exact e ⟨e3,by omega⟩
    have old:∀ j,j < 2→(q,4 * i'+1+j)∈tr++[(r,i)]→(q,4 * i'+1+j)∈tr:=fun j hj hmem=>(List.mem_append.1 hmem).elim id fun q2=>absurd (List.mem_singleton.1 q2) (hne j hj)
    have e1:=hgo _ _ (hne 0 (by decide))
    have e2:=hgo _ _ (hne 1 (by decide))
    refine e1.trans (Eq.trans ?_ e2.symm)
    exact h.p q hq hk i' (old 0 (by decide) hm1) (old 1 (by decide) hm2)
end
theorem PT {f:Nat→List Int} (h:∀ i,(f i).length=2):∀(n j:Nat),((List.range n).flatMap f)[j]?=if j < 2 * n then(f (j / 2))[j % 2]? else none
 | 0,j=>by simp
 | n+1,j=>by
  have hl:((List.range n).flatMap f).length=2 * n:=by
   rw[List.length_flatMap]
   simp only[h]
   rw[List.map_const',List.sum_replicate_nat,List.length_range]
   omega
  rw[List.range_succ,List.flatMap_append,List.getElem?_append,hl]
  by_cases e:j < 2 * n
  ·rw[if_pos e,PT h n j,if_pos e,if_pos (by omega)]
  ·rw[if_neg e,List.flatMap_cons,List.flatMap_nil,List.append_nil]
   by_cases e2:j < 2 * (n+1)
   ·rw[if_pos e2,show j / 2=n by omega,show j % 2=j - 2 * n by omega]
   ·rw[if_neg e2,List.getElem?_eq_none (by rw[h]; omega)]
theorem HL {g:Nat→Option Int} {f:Nat→Int}:∀ c,(∀ i,i < c→g (4 * i)=none∧g (4 * i+1)=some (f i)∧g (4 * i+2)=some (f i)∧g (4 * i+3)=none)→(List.range (4 * c)).filterMap g=(List.range c).flatMap fun i=>[f i,f i]
 | 0,_=>rfl
 | c+1,h=>by
  rw[show 4 * (c+1)=4 * c+4 by omega,List.range_add,List.filterMap_append,HL c fun i hi=>h i (by omega),show((List.range 4).map fun x=>4 * c+x)=[4 * c+0,4 * c+1,4 * c+2,4 * c+3] from rfl,List.range_succ,List.flatMap_append]
  congr 1
  obtain⟨h1,h2,h3,h4⟩:=h c (by omega)
  simp only[List.filterMap_cons,List.filterMap_nil,Nat.add_zero,h1,h2,h3,h4,List.flatMap_cons,List.flatMap_nil,List.append_nil]
theorem G8 {p:Pg} {ls:List Ln} {x:Pl} (hr:gP (bF p x).k=true):∀(l:List Pl) (s:Ab),x∈l→∃ v,(l.foldl (BI p ls) s).g x.1 x.2=some v
 | [],_,h=>by cases h
 | a::l,s,h=>by
  rw[List.foldl_cons]
  by_cases hm:x∈l
  ·exact G8 hr l _ hm
  ·have e:a=x:=(List.mem_cons.1 h).elim Eq.symm fun q=>absurd q hm
   rw[BK l _ hm,e]
   exact⟨s.m (fN ls x).1 (fN ls x).2,if_pos ⟨hr,rfl⟩⟩
section
variable {ws:List Nat} {ls:List Ln} {a:Nat}
theorem xM.cd (hC:cF (exG ws) ls) {s0 s:St} {tr:List Pl} (hI:lY (exG ws) ls s0 s tr) (h:xM ws ls.length s tr) {c:Cd} (hc:c∈cY (exG ws) ls s) {sd:Nat} (hsd:sd < 18446744073709551616):xM ws ls.length (doP (exG ws) ls { s with seed:=sd } c) (tr++evs (exG ws) s c):=by
 have hI':lY (exG ws) ls s0 { s with seed:=sd } tr:=⟨hI.ok.sd' hsd,hI.Q,hI.asc,hI.pend,hI.mem,hI.nd,hI.upd,hI.ord,hI.ab⟩
 have h':xM ws ls.length { s with seed:=sd } tr:=⟨h.h,h.x,h.e,h.w,h.g,h.p⟩
 rcases qG hc with⟨r,h1,rfl,h2⟩ | ⟨r,k,i,h1,h2,rfl,h3⟩
 ·exact h'.act hC hI' h1 h2
 ·exact h'.take hC hI' h1 h2
structure ExR (ws:List Nat) (n:Nat) (s:St) (f:Nat→Nat→Int):Prop where
 st:eP (exG ws) s n=[]
 m:∃ z,aT s 0=[z,z]
 v:∀ r,r < n→mB (exG ws) s r=if i6 (ws.getD r 0)=2 then(List.range (exC (ws.getD r 0))).flatMap fun i=>[f r i,f r i] else[]
theorem Q6 (hC:cF (exG ws) ls) (ha:a < 18446744073709551616):∃ f,ExR ws ls.length (lM (exG ws) ls (st0 (exG ws) ls.length a)) f:=by
 obtain⟨tr,⟨h1,h2,hX⟩,h3,h4⟩:=N5 hC (I:=fun s tr=>lY (exG ws) ls (st0 (exG ws) ls.length a) s tr∧tE (exG ws) ls.length s∧xM ws ls.length s tr) (fun s tr c sd hS h hc hsd=>⟨h.1.cd hC hc hsd,h.2.1.cd hC hS hc hsd,h.2.2.cd hC h.1 hc hsd⟩) (bJ.st0 ha) ⟨lY.zero ha,tE.zero _ _ a,by
  have hn0:0 < ls.length:=by rw[hC.len]; exact hC.n1
  refine⟨fun r _ hi=>?_,fun r q _ _ _ hi=>?_,fun _=>?_,fun r _ _ hi=>?_,fun r _ _ i j _ hm=>(by cases hm),fun r _ _ i hm=>(by cases hm)⟩
  ·rw[rV] at hi; exact absurd rfl hi
  ·rw[rV] at hi; exact absurd rfl hi
  ·show(aT _ 0).getD 0 0=(aT _ 0).getD 1 0
   rw[s6 hn0]; rfl
  ·rw[rV] at hi; exact absurd rfl hi⟩
 have E:N9 (exG ws) ls (st0 (exG ws) ls.length a) (lM (exG ws) ls (st0 (exG ws) ls.length a)) tr:=⟨h1,fun r hr=>(tB h4 hr).2,fun r hr=>(tB h4 hr).1,fun b=>OL hC h3 h2 h4 b⟩
 have hd:=fun r hr=>LX hC E (r:=r) hr
 have hq:=E.q
 have hab:=h1.ab
 have htm:=h1.mem
 have hok:=h1.ok
 generalize lM (exG ws) ls (st0 (exG ws) ls.length a)=s at *
 have hn:=hC.len
 have hn0:0 < ls.length:=by rw[hC.len]; exact hC.n1
 rw[kJ] at hn
 have hmem:∀ r j,r < ls.length→((r,j)∈tr↔j < 4 * exC (ws.getD r 0)∧(j % 4=1∨j % 4=2)):=fun r j hr=>by
  have hrw:r < ws.length:=by omega
  have hl:=pH (ws:=ws) hrw
  have hk1:=mZ (ws.getD r 0)
  have hk2:=pG (ws.getD r 0)
  rw[htm]
  constructor
  ·rintro⟨_,q2,q3,_⟩
   dsimp only at q2
   rw[hd r hr,hl] at q2
   refine⟨q2,?_⟩
   rw[kD hrw q2] at q3
   have q3:=of_decide_eq_true q3
   by_cases e0:j % 4=0
   ·rw[if_pos e0] at q3; omega
   ·rw[if_neg e0] at q3
    by_cases e3:j % 4=3
    ·rw[if_pos e3] at q3; omega
    ·omega
  ·rintro⟨q1,q2⟩
   refine⟨hr,by dsimp only; rw[hd r hr,hl]; exact q1,?_,by rw[hq r hr]; exact List.not_mem_nil⟩
   rw[kD hrw q1,if_neg (by omega),if_neg (by omega)]
   rcases hk1 with e | e<;>rw[e]<;>rfl
 have hno:∀ r j,¬ (j % 4=1∨j % 4=2)→r < ls.length→bT j (aH s r).g=none:=fun r j hj hr=>by
  have hg:bT j (aH s r).g=(tr.foldl (BI (exG ws) ls) (eC (st0 (exG ws) ls.length a))).g (r,j).1 (r,j).2:=congrArg (fun z:Ab=>z.g r j) hab
  rw[hg,BK tr _ fun hx=>hj ((hmem r j hr).1 hx).2]
  exact PU _ _ _ _ _
 refine⟨fun r i=>((eC s).g r (4 * i+1)).getD 0,?_,?_,fun r hr=>?_⟩
 ·unfold eP
  rw[List.filter_eq_nil_iff]
  intro r hr
  have hr:=List.mem_range.1 hr
  have:=hd r hr
  unfold qZ
  unfold dAt at this
  rw[this]
  simp
 ·have hm:=hX.e fun r hr _=>by rw[hd r hr,pH (by omega)]; omega
  have hl:(aT s 0).length=2:=by rw[hok.m 0 hn0]; rfl
  have hm:(aT s 0).getD 0 0=(aT s 0).getD 1 0:=hm
  generalize aT s 0=m at *
  match m,hl with
  | [x,y],_=>
   have hm:x=y:=hm
   exact⟨x,by rw[hm]⟩
 ·have hrw:r < ws.length:=by omega
  unfold mB iW
  rw[pH hrw]
  rcases mZ (ws.getD r 0) with hw | hw
  ·rw[if_neg (by omega),List.filterMap_eq_nil_iff]
   intro j hj
   have hj:=List.mem_range.1 hj
   by_cases e:j % 4=1∨j % 4=2
   ·have hg:bT j (aH s r).g=(tr.foldl (BI (exG ws) ls) (eC (st0 (exG ws) ls.length a))).g (r,j).1 (r,j).2:=congrArg (fun z:Ab=>z.g r j) hab
    rw[hg,DF (by rw[kD hrw hj,if_neg (by omega),if_neg (by omega),hw]; rfl)]
    exact PU _ _ _ _ _
   ·exact hno r j e hr
  ·rw[if_pos hw]
   refine HL _ fun i hi=>?_
   have m1:(r,4 * i+1)∈tr:=(hmem r _ hr).2 ⟨by omega,by omega⟩
   have m2:(r,4 * i+2)∈tr:=(hmem r _ hr).2 ⟨by omega,by omega⟩
   have hs:∃ v,(eC s).g r (4 * i+1)=some v:=by
    rw[hab]
    exact G8 (x:=(r,4 * i+1)) (by rw[kD hrw (show 4 * i+1 < _ by omega),if_neg (by omega),if_neg (by omega),hw]; rfl) tr _ m1
   obtain⟨v,hv⟩:=hs
   have hp:=hX.p r hr hw i m1 m2
   have e1:bT (4 * i+1) (aH s r).g=some v:=hv
   have e2:bT (4 * i+2) (aH s r).g=some v:=(hp.symm.trans hv:(eC s).g r (4 * i+2)=some v)
   rw[hv]
   exact⟨hno r _ (by omega) hr,e1,e2,hno r _ (by omega) hr⟩
end
set_option linter.unusedVariables false
def AL (r w i:Nat):List Act:=(List.range i).flatMap (exE r w)
def exQ (r w i a:Nat):List Act:=AL r w i++(exE r w i).take (1+a)
theorem HH (r w i:Nat):((AL r w i).map actZ).length=4 * i:=by
 unfold AL
 rw[List.length_map,List.length_flatMap]
 simp only[show ∀ i,(exE r w i).length=4 from fun _=>rfl]
 rw[List.map_const',List.sum_replicate_nat,List.length_range]
 omega
theorem BX (r w i:Nat) {a:Nat} (h:a≤3):((exQ r w i a).map actZ).length=4 * i+1+a:=by
 unfold exQ
 rw[List.map_append,List.length_append,HH,List.length_map,List.length_take]
 show 4 * i+min (1+a) 4=_
 omega
theorem MH (r w i:Nat):(exQ r w i 0).map actZ=(AL r w i).map actZ++[actZ ⟨l3 w,0,0,0,0,0,[]⟩]:=by
 unfold exQ
 rw[List.map_append]
 rfl
theorem wR (r w i a:Nat) (h:a < 2):(exQ r w i (a+1)).map actZ=(exQ r w i a).map actZ++[actZ ⟨i6 w,0,(a:Int),0,((100 * r+i+1:Nat):Int),0,[]⟩]:=by
 unfold exQ
 rw[List.map_append,List.map_append,List.append_assoc]
 congr 1
 match a,h with
 | 0,_=>rfl
 | 1,_=>rfl
theorem KS (r w i:Nat):(AL r w (i+1)).map actZ=(exQ r w i 2).map actZ++[actZ aUn]:=by
 unfold AL exQ AL
 rw[List.range_succ,List.flatMap_append,List.map_append,List.map_append,List.append_assoc,List.flatMap_cons,List.flatMap_nil,List.append_nil]
 rfl
def vL (l:List Nat) (k:Nat):List (List AV):=cE ((List.range k).map fun r=>exA r (l.getD r 0))
theorem LD (l:List Nat) (k:Nat):(vL l k).length=k:=by
 unfold vL
 rw[gV]
 simp
theorem JB (l:List Nat) (k:Nat):vL l (k+1)=vL l k++[[.list 7 (dD (exA k (l.getD k 0)))]]:=by
 unfold vL
 rw[List.range_succ,List.map_append,List.map_cons,List.map_nil,J8]
instance (l:List Nat) (k:Nat):PRs (vL l k):=by unfold vL; infer_instance
theorem exA_g (r w:Nat):∀ x∈exA r w,x.g=[]:=fun x hx=>by
 obtain⟨i,_,h⟩:=List.mem_flatMap.1 hx
 unfold exE at h
 simp only[List.mem_cons,List.not_mem_nil,or_false] at h
 rcases h with rfl | rfl | rfl | rfl<;>rfl
set_option maxHeartbeats 16000000 in
theorem z8 (l:List Nat) (hl:l.length≤1000) (h8:∀ n∈l,n < 256):aD Tryz.prog 23 [.list 1 (u8R l)] (eZ ⟨2,(List.range l.length).map fun r=>exA r (l.getD r 0)⟩):=by
 refine aD.mkI cF23 (nlB rfl) ?_
 have e0:=G0 l
 rw[show eZ ⟨2,(List.range l.length).map fun r=>exA r (l.getD r 0)⟩=.agg [.sc (.int .i64 2),.list 1 (vL l l.length)] from rfl]
 have hu:PRs (u8R l):=inferInstance
 have hix:=ME l
 generalize u8R l=U at *
 refine aA ?_
 refine AWP.loop (fun k:Nat=>[(0,.list 1 U),(2,.ptr 0 0 0 0),(3,.ptr 1 0 0 0),(4,.sc (.int .i64 (k:Int)))]) (fun k=>[[gN],[.cells 2 [[.sc (.int .i64 2),.hsl 2 0 0 k]]],[.cells 1 (vL l k)]]) (fun k=>k≤l.length) (fun k=>l.length - k) 0 (Nat.zero_le _) ?_ ?_
 ·unfold gN
  show Sub _ _ _ _ _ [_,[.cells 2 [[.sc (.int .i64 2),.hsl 2 0 0 0]]],[.cells 1 []]]
  exact Sub.w [1] [[(0,0)],[(1,0)],[(2,0)]]
 rintro k hk
 unfold gN
 have hkl:=LD l k
 refine aA ?_
 rw[e0]
 refine aA ?_
 refine AWP.condD rfl (fun h=>?_) (fun h=>?_)
 ·have hx:=hix k h
  have hx8:=h8 _ (List.getElem_mem h)
  have hsn:=JB l k
  have hgx:l[k]=l.getD k 0:=by rw[List.getD_eq_getElem?_getD,gEg h]; rfl
  rw[hgx] at hx hx8
  generalize l.getD k 0=w at *
  have hP:PRs (vL l k):=inferInstance
  generalize vL l k=P at *
  have hg:=exA_g k w
  have hcl:=L9 w
  refine aA ?_
  refine AWP.loop (fun i:Nat=>[(0,.list 1 U),(2,.ptr 0 0 0 0),(3,.ptr 1 0 0 0),(4,.sc (.int .i64 (k:Int))),(5,.hsl 3 0 0 (4 * i)),(6,.sc (.int .i64 (i:Int)))]) (fun i=>[[gN],[.cells 2 [[.sc (.int .i64 2),.hsl 2 0 0 k]]],[.cells 1 P],[.cells 7 ((AL k w i).map actZ)]]) (fun i=>i≤exC w) (fun i=>exC w - i) 0 (Nat.zero_le _) ?_ ?_
  ·unfold gN
   show Sub _ _ _ _ _ [_,_,_,[.cells 7 []]]
   exact Sub.w [7] [[(0,0)],[(1,0)],[(2,0)],[(3,0)]]
  rintro i hi
  unfold gN
  have hil:=HH k w i
  have hc0:exC w=1+w / 4 % 3:=rfl
  have hq8:@OfNat.ofNat Nat (w / 4 % ((2 ^ IntKind.u8.bits:Int)).natAbs) (instOfNatNat _)=w / 4:=by
   show w / 4 % 256=w / 4
   omega
  refine aA ?_
  rw[hq8]
  refine AWP.condD rfl (fun h2=>?_) (fun h2=>?_)
  ·have h2:i < exC w:=by omega
   have hq0:=MH k w i
   have hps:=KS k w i
   by_cases c0:w % 4=0
   ·have e1:l3 w=14:=if_pos c0
    have e2:i6 w=2:=if_pos (by omega)
    refine aA ?_
    rw[dTr c0]
    refine aA ?_
    (rw[e1] at hq0; refine AWP.loop (fun a:Nat=>[(0,.list 1 U),(2,.ptr 0 0 0 0),(3,.ptr 1 0 0 0),(4,.sc (.int .i64 (k:Int))),(5,.hsl 3 0 0 (4 * i+1+a)),(6,.sc (.int .i64 (i:Int))),(8,.sc (.int .i64 2)),(9,.sc (.int .i64 (a:Int)))]) (fun a=>[[gN],[.cells 2 [[.sc (.int .i64 2),.hsl 2 0 0 k]]],[.cells 1 P],[.cells 7 ((exQ k w i a).map actZ)]]) (fun a=>a≤2) (fun a=>2 - a) 0 (Nat.zero_le _) ?_ ?_; (focus (rw[hq0]; ((try unfold gN); refine Sub.to [] [[(0,0)],[(1,0)],[(2,0)],[(5,0)]] ?_ ⟨⟨⟨_,rfl,ToB.one (ToL.cons (.sc _) (ToL.cons (.sc _) ToL.nil))⟩,trivial⟩,⟨⟨_,rfl,ToB.one (ToL.cons (.sc _) (ToL.cons (To.hslL rfl rfl) ToL.nil))⟩,trivial⟩,⟨⟨_,rfl,ToB.rows rfl (prs _)⟩,trivial⟩,⟨⟨_,rfl,ToB.rows rfl (prs _)⟩,trivial⟩,trivial⟩ rfl rfl rfl; (all_goals exact dY)))); (focus ((rintro a ha; unfold gN; have hal:=BX k w i (show a≤3 by omega); have has:=fun h=>wR k w i a h; refine aA ?_; refine AWP.condD rfl (fun h3=>?_) (fun h3=>?_); (focus (have has:=has h3; rw[e2] at has; refine aA ?_; refine⟨a+1,(by omega),(by omega),?_⟩; rw[has]; ((try unfold gN); refine Sub.to [] [[(0,0)],[(1,0)],[(2,0)],[(5,0)]] ?_ ⟨⟨⟨_,rfl,ToB.one (ToL.cons (.sc _) (ToL.cons (.sc _) ToL.nil))⟩,trivial⟩,⟨⟨_,rfl,ToB.one (ToL.cons (.sc _) (ToL.cons (To.hslL rfl rfl) ToL.nil))⟩,trivial⟩,⟨⟨_,rfl,ToB.rows rfl (prs _)⟩,trivial⟩,⟨⟨_,rfl,ToB.rows rfl (prs _)⟩,trivial⟩,trivial⟩ rfl rfl rfl; (all_goals exact dY)))); (focus (have ha2:a=2:=(by omega); subst ha2; refine aA ?_; refine⟨i+1,(by omega),(by omega),?_⟩; rw[hps]; ((try unfold gN); refine Sub.to [] [[(0,0)],[(1,0)],[(2,0)],[(5,0)]] ?_ ⟨⟨⟨_,rfl,ToB.one (ToL.cons (.sc _) (ToL.cons (.sc _) ToL.nil))⟩,trivial⟩,⟨⟨_,rfl,ToB.one (ToL.cons (.sc _) (ToL.cons (To.hslL rfl rfl) ToL.nil))⟩,trivial⟩,⟨⟨_,rfl,ToB.rows rfl (prs _)⟩,trivial⟩,⟨⟨_,rfl,ToB.rows rfl (prs _)⟩,trivial⟩,trivial⟩ rfl rfl rfl; (all_goals exact dY))))))))
   by_cases c1:w % 4=1
   ·have e1:l3 w=13:=if_neg (by omega)
    have e2:i6 w=2:=if_pos (by omega)
    refine aA ?_
    rw[dFa c0]
    refine aA ?_
    rw[dTr c1]
    refine aA ?_
    (rw[e1] at hq0; refine AWP.loop (fun a:Nat=>[(0,.list 1 U),(2,.ptr 0 0 0 0),(3,.ptr 1 0 0 0),(4,.sc (.int .i64 (k:Int))),(5,.hsl 3 0 0 (4 * i+1+a)),(6,.sc (.int .i64 (i:Int))),(8,.sc (.int .i64 2)),(9,.sc (.int .i64 (a:Int)))]) (fun a=>[[gN],[.cells 2 [[.sc (.int .i64 2),.hsl 2 0 0 k]]],[.cells 1 P],[.cells 7 ((exQ k w i a).map actZ)]]) (fun a=>a≤2) (fun a=>2 - a) 0 (Nat.zero_le _) ?_ ?_; (focus (rw[hq0]; ((try unfold gN); refine Sub.to [] [[(0,0)],[(1,0)],[(2,0)],[(5,0)]] ?_ ⟨⟨⟨_,rfl,ToB.one (ToL.cons (.sc _) (ToL.cons (.sc _) ToL.nil))⟩,trivial⟩,⟨⟨_,rfl,ToB.one (ToL.cons (.sc _) (ToL.cons (To.hslL rfl rfl) ToL.nil))⟩,trivial⟩,⟨⟨_,rfl,ToB.rows rfl (prs _)⟩,trivial⟩,⟨⟨_,rfl,ToB.rows rfl (prs _)⟩,trivial⟩,trivial⟩ rfl rfl rfl; (all_goals exact dY)))); (focus ((rintro a ha; unfold gN; have hal:=BX k w i (show a≤3 by omega); have has:=fun h=>wR k w i a h; refine aA ?_; refine AWP.condD rfl (fun h3=>?_) (fun h3=>?_); (focus (have has:=has h3; rw[e2] at has; refine aA ?_; refine⟨a+1,(by omega),(by omega),?_⟩; rw[has]; ((try unfold gN); refine Sub.to [] [[(0,0)],[(1,0)],[(2,0)],[(5,0)]] ?_ ⟨⟨⟨_,rfl,ToB.one (ToL.cons (.sc _) (ToL.cons (.sc _) ToL.nil))⟩,trivial⟩,⟨⟨_,rfl,ToB.one (ToL.cons (.sc _) (ToL.cons (To.hslL rfl rfl) ToL.nil))⟩,trivial⟩,⟨⟨_,rfl,ToB.rows rfl (prs _)⟩,trivial⟩,⟨⟨_,rfl,ToB.rows rfl (prs _)⟩,trivial⟩,trivial⟩ rfl rfl rfl; (all_goals exact dY)))); (focus (have ha2:a=2:=(by omega); subst ha2; refine aA ?_; refine⟨i+1,(by omega),(by omega),?_⟩; rw[hps]; ((try unfold gN); refine Sub.to [] [[(0,0)],[(1,0)],[(2,0)],[(5,0)]] ?_ ⟨⟨⟨_,rfl,ToB.one (ToL.cons (.sc _) (ToL.cons (.sc _) ToL.nil))⟩,trivial⟩,⟨⟨_,rfl,ToB.one (ToL.cons (.sc _) (ToL.cons (To.hslL rfl rfl) ToL.nil))⟩,trivial⟩,⟨⟨_,rfl,ToB.rows rfl (prs _)⟩,trivial⟩,⟨⟨_,rfl,ToB.rows rfl (prs _)⟩,trivial⟩,trivial⟩ rfl rfl rfl; (all_goals exact dY))))))))
   ·have e1:l3 w=13:=if_neg (by omega)
    have e2:i6 w=1:=if_neg (by omega)
    refine aA ?_
    rw[dFa c0]
    refine aA ?_
    rw[dFa c1]
    refine aA ?_
    (rw[e1] at hq0; refine AWP.loop (fun a:Nat=>[(0,.list 1 U),(2,.ptr 0 0 0 0),(3,.ptr 1 0 0 0),(4,.sc (.int .i64 (k:Int))),(5,.hsl 3 0 0 (4 * i+1+a)),(6,.sc (.int .i64 (i:Int))),(8,.sc (.int .i64 1)),(9,.sc (.int .i64 (a:Int)))]) (fun a=>[[gN],[.cells 2 [[.sc (.int .i64 2),.hsl 2 0 0 k]]],[.cells 1 P],[.cells 7 ((exQ k w i a).map actZ)]]) (fun a=>a≤2) (fun a=>2 - a) 0 (Nat.zero_le _) ?_ ?_; (focus (rw[hq0]; ((try unfold gN); refine Sub.to [] [[(0,0)],[(1,0)],[(2,0)],[(5,0)]] ?_ ⟨⟨⟨_,rfl,ToB.one (ToL.cons (.sc _) (ToL.cons (.sc _) ToL.nil))⟩,trivial⟩,⟨⟨_,rfl,ToB.one (ToL.cons (.sc _) (ToL.cons (To.hslL rfl rfl) ToL.nil))⟩,trivial⟩,⟨⟨_,rfl,ToB.rows rfl (prs _)⟩,trivial⟩,⟨⟨_,rfl,ToB.rows rfl (prs _)⟩,trivial⟩,trivial⟩ rfl rfl rfl; (all_goals exact dY)))); (focus ((rintro a ha; unfold gN; have hal:=BX k w i (show a≤3 by omega); have has:=fun h=>wR k w i a h; refine aA ?_; refine AWP.condD rfl (fun h3=>?_) (fun h3=>?_); (focus (have has:=has h3; rw[e2] at has; refine aA ?_; refine⟨a+1,(by omega),(by omega),?_⟩; rw[has]; ((try unfold gN); refine Sub.to [] [[(0,0)],[(1,0)],[(2,0)],[(5,0)]] ?_ ⟨⟨⟨_,rfl,ToB.one (ToL.cons (.sc _) (ToL.cons (.sc _) ToL.nil))⟩,trivial⟩,⟨⟨_,rfl,ToB.one (ToL.cons (.sc _) (ToL.cons (To.hslL rfl rfl) ToL.nil))⟩,trivial⟩,⟨⟨_,rfl,ToB.rows rfl (prs _)⟩,trivial⟩,⟨⟨_,rfl,ToB.rows rfl (prs _)⟩,trivial⟩,trivial⟩ rfl rfl rfl; (all_goals exact dY)))); (focus (have ha2:a=2:=(by omega); subst ha2; refine aA ?_; refine⟨i+1,(by omega),(by omega),?_⟩; rw[hps]; ((try unfold gN); refine Sub.to [] [[(0,0)],[(1,0)],[(2,0)],[(5,0)]] ?_ ⟨⟨⟨_,rfl,ToB.one (ToL.cons (.sc _) (ToL.cons (.sc _) ToL.nil))⟩,trivial⟩,⟨⟨_,rfl,ToB.one (ToL.cons (.sc _) (ToL.cons (To.hslL rfl rfl) ToL.nil))⟩,trivial⟩,⟨⟨_,rfl,ToB.rows rfl (prs _)⟩,trivial⟩,⟨⟨_,rfl,ToB.rows rfl (prs _)⟩,trivial⟩,trivial⟩ rfl rfl rfl; (all_goals exact dY))))))))
  ·have hi2:i=exC w:=by omega
   subst hi2
   have hea:(exA k w).map actZ=(AL k w (exC w)).map actZ:=rfl
   have hel:(exA k w).length=4 * exC w:=zZ k w
   refine aA ?_
   refine⟨k+1,by omega,by omega,?_⟩
   rw[hsn]
   refine Sub.to [] [[(0,0)],[(1,0)],[(5,0)]] ?_ ⟨⟨⟨_,rfl,ToB.one (ToL.cons (.sc _) (ToL.cons (.sc _) ToL.nil))⟩,trivial⟩,⟨⟨_,rfl,ToB.one (ToL.cons (.sc _) (ToL.cons (To.hslL rfl rfl) ToL.nil))⟩,trivial⟩,⟨⟨_,rfl,ToB.rowsR (ToR.snoc rfl (prs _) (ToL.cons (To.fzZ (l:=exA k w) rfl rfl hel hg) ToL.nil))⟩,trivial⟩,trivial⟩ rfl rfl rfl
   (all_goals exact dY)
 ·have hk2:k=l.length:=by omega
  subst hk2
  refine aA ?_
  exact aS.w
end Go.Proofs.YtkjoolaahocgdaaGreat
