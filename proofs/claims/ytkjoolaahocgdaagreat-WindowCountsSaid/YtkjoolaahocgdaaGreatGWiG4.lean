import Derived.Test.YtkjoolaahocgdaaGreatGWiF4
import Derived.Test.YtkjoolaahocgdaaGreatGWiL
import Derived.Test.YtkjoolaahocgdaaGreatGWiLp
namespace Go.Proofs.YtkjoolaahocgdaaGreat
open Go.Av Go.Proofs
theorem IP (m:List (List Act)) (l:List Act):bV (m++[l])=bV m++[[.list 7 (dE l)]]:=by simp[bV]
set_option maxRecDepth 20000
def aSh:Act:=⟨14,0,0,0,0,0,[]⟩
def aUn:Act:=⟨16,0,0,0,0,0,[]⟩
def aC (kd:Int):Act:=⟨kd,0,1,1,1,0,[]⟩
def lkN (lk:Bool):Nat:=if lk=true then 1 else 0
def e8 (kd:Int) (lk:Bool) (t:Nat):List Act:=[aF]++(if lk=true then[aSh] else[])++List.replicate t (aC kd)++(if lk=true then[aUn] else[])++[aF]
def cN (kd:Int) (lk:Bool) (ts:List Nat):Pg:=⟨2,ts.map (e8 kd lk)⟩
def okAt (l:List Act) (i:Nat):Bool:=match l[i]? with
 | some x=>decide (1≤x.k) && decide (x.k≤16) && (!cI x.k || (nY l (gQ l i) i x).2) && (cI x.k || alP x.k.toNat (gQ l i) x)
 | none=>true
def okL (l:List Act):Bool:=decide (l.length≤100) && (List.range l.length).all (okAt l) && decide ((gQ l l.length).o.length=0) && decide ((gQ l l.length).p.length=0) && decide ((gQ l l.length).l < 0)
theorem O9 {p:Pg} {r:Nat} {l:List Act} (h:okL l=true) (hf:∀ x∈l,jD p r x=0):(fN p r l).1.2=0:=by
 unfold okL at h
 simp only[Bool.and_eq_true,decide_eq_true_eq] at h
 obtain⟨⟨⟨⟨h1,h2⟩,h3⟩,h4⟩,h5⟩:=h
 refine BY h1 (fun i x hx=>?_) h3 h4 h5
 have:=List.all_eq_true.1 h2 i (List.mem_range.2 (gEs.1 hx).1)
 unfold okAt at this
 rw[hx] at this
 simp only[Bool.and_eq_true,Bool.or_eq_true,decide_eq_true_eq,Bool.not_eq_true'] at this
 obtain⟨⟨⟨q1,q2⟩,q3⟩,q4⟩:=this
 exact⟨q1,q2,hf x (List.mem_of_getElem? hx),fun e=>q3.resolve_left (by rw[e]; decide),fun e=>q4.resolve_left (by rw[e]; decide)⟩
def O3 (kd:Int) (lk:Bool) (t:Nat):Bool:=okL (e8 kd lk t) && decide (gR 8 (e8 kd lk t) (e8 kd lk t).length=[0,1+lkN lk+t+lkN lk]) && decide ((e8 kd lk t).length=2+lkN lk+t+lkN lk) &&
 (List.range (2+lkN lk+t+lkN lk)).all (fun i=>decide (i=0) || decide (i=1+lkN lk+t+lkN lk) || (decide (kAt (e8 kd lk t) i≠8) && decide (kAt (e8 kd lk t) i≠10) && decide (kAt (e8 kd lk t) i≠12)))
theorem LU:∀ t,t < 8→∀ lk:Bool,O3 3 lk t=true∧O3 4 lk t=true:=by decide +kernel
theorem FO {kd:Int} {lk:Bool} {t:Nat}:∀ x∈e8 kd lk t,x=aF∨x=aSh∨x=aUn∨x=aC kd:=fun x hx=>by
 unfold e8 at hx
 simp only[List.mem_append,List.mem_singleton,List.mem_replicate] at hx
 rcases hx with(((h | h) | h) | h) | h
 ·exact .inl h
 ·split at h
  ·exact .inr (.inl (List.mem_singleton.1 h))
  ·cases h
 ·exact .inr (.inr (.inr h.2))
 ·split at h
  ·exact .inr (.inr (.inl (List.mem_singleton.1 h)))
  ·cases h
 ·exact .inl h
structure kQ (kd:Int) (ts:List Nat):Prop where
 k:kd=3∨kd=4
 n1:0 < ts.length
 n8:ts.length≤8
 t:∀ t∈ts,t < 8
section
variable {kd:Int} {lk:Bool} {ts:List Nat}
theorem kQ.b (h:kQ kd ts) {t:Nat} (ht:t < 8):O3 kd lk t=true:=by
 rcases h.k with rfl | rfl
 ·exact(LU t ht lk).1
 ·exact(LU t ht lk).2
theorem iA:(cN kd lk ts).acts.length=ts.length:=by simp[cN]
theorem qS {r:Nat} (hr:r < ts.length):(cN kd lk ts).acts[r]?=some (e8 kd lk ts[r]):=by simp[cN,hr]
theorem IV (h:kQ kd ts) {r:Nat} {t:Nat}:∀ x∈e8 kd lk t,jD (cN kd lk ts) r x=0:=fun x hx=>by
 have hn:=h.n1
 have key:∀ x:Act,x.r=0→0≤x.a→x.a < 2→k8 x.k=false→(mN x.k=true→kU x.o 1=0)→jD (cN kd lk ts) r x=0:=fun x h1 h2 h3 h4 h5=>by
  unfold jD iL
  rw[iA,h4,if_neg (by rw[h1]; omega),if_neg (by show¬ (_∧(x.a < 0∨(2:Int)≤x.a)); omega)]
  by_cases c:mN x.k=true
  ·rw[if_pos c]; exact h5 c
  ·rw[if_neg c]; rfl
 rcases FO x hx with rfl | rfl | rfl | rfl
 ·exact key _ rfl (by decide) (by decide) rfl (fun h=>by cases h)
 ·exact key _ rfl (by decide) (by decide) rfl (fun h=>by cases h)
 ·exact key _ rfl (by decide) (by decide) rfl (fun h=>by cases h)
 ·refine key _ rfl (by decide:(0:Int)≤1) (by decide:(1:Int) < 2) ?_ fun _=>by kernel_rfl
  rcases h.k with rfl | rfl<;>rfl
theorem KN (h:kQ kd ts):(cL (cN kd lk ts)).1.2=0:=by
 have hn8:=h.n8
 refine FG (by decide:(1:Int)≤2) (by decide:(2:Int)≤64) (by rw[iA]; exact h.n1) (by rw[iA]; omega) fun r l hr=>?_
 have hrl:r < ts.length:=by have:=(gEs.1 hr).1; rw[iA] at this; exact this
 rw[qS hrl] at hr
 cases hr
 have hb:=h.b (lk:=lk) (h.t _ (List.getElem_mem hrl))
 unfold O3 at hb
 simp only[Bool.and_eq_true] at hb
 exact O9 hb.1.1.1 (IV h)
structure CntA (kd:Int) (lk:Bool) (l:List Act) (t:Nat):Prop where
 fe:gR 8 l l.length=[0,1+lkN lk+t+lkN lk]
 len:l.length=2+lkN lk+t+lkN lk
 mid:∀ i,i < l.length→i≠0→i≠1+lkN lk+t+lkN lk→kAt l i≠8∧kAt l i≠10∧kAt l i≠12
theorem kQ.a (h:kQ kd ts) {t:Nat} (ht:t < 8):CntA kd lk (e8 kd lk t) t:=by
 have hb:=h.b (lk:=lk) ht
 unfold O3 at hb
 simp only[Bool.and_eq_true,decide_eq_true_eq] at hb
 obtain⟨⟨⟨_,h1⟩,h2⟩,h3⟩:=hb
 refine⟨h1,h2,fun i hi h4 h5=>?_⟩
 have:=List.all_eq_true.1 h3 i (List.mem_range.2 (by omega))
 simp only[Bool.or_eq_true,Bool.and_eq_true,decide_eq_true_eq] at this
 rcases this with(q | q) | q
 ·exact absurd q h4
 ·exact absurd q h5
 ·exact⟨q.1.1,q.1.2,q.2⟩
theorem qF (h:kQ kd ts) {r:Nat} (hr:r < ts.length):aW (cN kd lk ts) r=2+lkN lk+ts[r]+lkN lk:=by
 rw[c8 (qS hr)]
 exact(h.a (h.t _ (List.getElem_mem hr))).len
theorem DB (h:kQ kd ts) {r:Nat} (hr:r < ts.length):BG (cN kd lk ts) r=[0,1+lkN lk+ts[r]+lkN lk]:=by
 unfold BG lAt
 rw[qS hr]
 exact(h.a (h.t _ (List.getElem_mem hr))).fe
theorem rT {r:Nat} (hr:r < ts.length) (i:Nat):bA (cN kd lk ts) (r,i)=((e8 kd lk ts[r])[i]?).getD act0:=by
 unfold bA
 rw[qS hr]
 rfl
theorem TJ (i:Nat) {t:Nat} (h:1+lkN lk≤i) (h2:i < 1+lkN lk+t):(e8 kd lk t)[i]?=some (aC kd):=by
 unfold e8
 cases lk with
 | false=>
  simp only[lkN,Bool.false_eq_true,if_false] at h h2
  simp only[Bool.false_eq_true,if_false,List.append_nil,List.append_assoc]
  rw[List.getElem?_append_right (by simpa using h),List.getElem?_append_left (by simp; omega),List.getElem?_replicate]
  rw[if_pos (by simp; omega)]
 | true=>
  simp only[lkN,if_true] at h h2
  simp only[if_true,List.append_assoc]
  rw[List.getElem?_append_right (by simp; omega),List.getElem?_append_right (by simp; omega),List.getElem?_append_left (by simp; omega),List.getElem?_replicate]
  rw[if_pos (by simp; omega)]
theorem G1 (h:kQ kd ts) {t:Nat} (ht:t < 8) (i:Nat) (hk:fD (((e8 kd lk t)[i]?).getD act0).k=true):1+lkN lk≤i∧i < 1+lkN lk+t:=by
 have key:∀ t,t < 8→∀ lk:Bool,∀ i,i < 12→(fD (((e8 3 lk t)[i]?).getD act0).k=true→1+lkN lk≤i∧i < 1+lkN lk+t)∧(fD (((e8 4 lk t)[i]?).getD act0).k=true→1+lkN lk≤i∧i < 1+lkN lk+t):=by decide +kernel
 have hl:(e8 kd lk t).length≤11:=by
  rw[(h.a ht).len]
  unfold lkN
  split<;>omega
 have hi:i < 12:=by
  rcases Nat.lt_or_ge i 12 with q | q
  ·exact q
  ·rw[List.getElem?_eq_none (by omega)] at hk
   cases hk
 rcases h.k with rfl | rfl
 ·exact(key t ht lk i hi).1 hk
 ·exact(key t ht lk i hi).2 hk
end
theorem NY {n:Nat} (h:n < 1000):toS (opI 1 (toU (n:Int)) (toU 1))=((n+1:Nat):Int):=by
 have e1:toU (n:Int)=n:=by unfold toU; omega
 have e2:toU 1=1:=by unfold toU; omega
 rw[e1,e2]
 unfold opI
 rw[if_pos rfl]
 unfold toS
 rw[if_pos (by omega)]
 omega
section
variable {kd:Int} {lk:Bool} {ts:List Nat} {ls:List Ln} {a:Nat}
theorem AH (h:kQ kd ts) (hC:bL (cN kd lk ts) ls) {r i:Nat} (hr:r < ts.length) (h1:1+lkN lk≤i) (h2:i < 1+lkN lk+ts[r]):cE ls (r,i)=(0,1)∧bA (cN kd lk ts) (r,i)=aC kd:=by
 obtain⟨L,hL,hO⟩:=hC.get (qS (kd:=kd) (lk:=lk) hr)
 have hx:=TJ (kd:=kd) (lk:=lk) i h1 h2
 have hk:cI (aC kd).k=true:=by rcases h.k with rfl | rfl<;>rfl
 have a1:=oY hL hO (i:=i) hx hk
 refine⟨?_,by rw[rT hr,hx]; rfl⟩
 unfold cE
 rw[a1.1]
 rfl
theorem I7 (h:kQ kd ts) (hC:bL (cN kd lk ts) ls) {s0 s:St} {tr:List Pl} (E:JY (cN kd lk ts) ls s0 s tr):∀ r,r < ls.length→1≤dAt s r:=fun r hr=>by
 have hn:=hC.len
 rw[iA] at hn
 have hl:=qF (lk:=lk) h (r:=r) (by omega)
 rcases Nat.eq_zero_or_pos (dAt s r) with e | e
 ·exfalso
  have hk:bA (cN kd lk ts) (r,0)=aF:=by rw[rT (by omega)]; rfl
  refine E.go hC hr (by omega) (by rw[e,hk]; decide) (by rw[e,hk]; decide) fun _=>?_
  rw[e]
  have hp:=AA hC (r:=r) (i:=0) (by omega) (by rw[hk]; rfl) (fun _=>0) fun b hb=>by
   rw[DB h (by omega),DB h (by omega)]
   rfl
  exact⟨hp.1,fun y hy=>by rw[((hp.2 y).1 hy).2.2]; exact Nat.zero_le _⟩
 ·exact e
theorem tI (h:kQ kd ts) (hC:bL (cN kd lk ts) ls) {s0 s:St} {tr:List Pl} (E:JY (cN kd lk ts) ls s0 s tr) {r:Nat} (hr:r < ls.length) (hr2:r < ts.length):∀ m,m≤1+lkN lk+ts[r]+lkN lk→m≤dAt s r
 | 0,_=>Nat.zero_le _
 | m+1,hm=>by
  have ih:=tI h hC E hr hr2 m (by omega)
  have h1:=I7 h hC E r hr
  have hl:=qF (lk:=lk) h hr2
  by_cases e:dAt s r=m
  ·exfalso
   have ha:=h.a (lk:=lk) (h.t _ (List.getElem_mem hr2))
   have hml:m < (e8 kd lk ts[r]).length:=by rw[ha.len]; omega
   have hmid:=ha.mid m hml (by omega) (by omega)
   have hk:kAt (e8 kd lk ts[r]) m=(bA (cN kd lk ts) (r,m)).k:=by
    rw[rT hr2,gEg hml,lH (gEg hml)]
    rfl
   rw[hk] at hmid
   refine E.go hC hr (by omega) (by rw[e]; exact hmid.2.1) (by rw[e]; exact hmid.2.2) fun h8=>?_
   rw[e] at h8
   exact absurd h8 hmid.1
  ·omega
theorem PF {a b:Nat} (h:a≠b):sI b [a,b]=1:=by
 unfold sI
 have:pO (b:Int) ([a,b].map fun j:Nat=>(j:Int))=1:=by
  show(if (a:Int)=(b:Int) then 0 else if (if (b:Int)=(b:Int) then(0:Int) else _) < 0 then -1 else(if (b:Int)=(b:Int) then(0:Int) else _)+1)=1
  rw[if_neg (by omega),if_pos rfl,if_neg (by omega)]
  rfl
 rw[this]
 rfl
theorem PZ (h:kQ kd ts) (hC:bL (cN kd lk ts) ls) {s0 s:St} {tr:List Pl} (E:JY (cN kd lk ts) ls s0 s tr) {r:Nat} (hr:r < ls.length):dAt s r=aW (cN kd lk ts) r:=by
 have hn:=hC.len
 rw[iA] at hn
 have hr2:r < ts.length:=by omega
 have hl:=qF (lk:=lk) h hr2
 have h2:=tI h hC E hr hr2 _ (Nat.le_refl _)
 have hd:=E.inv.ok.d r hr
 by_cases e:dAt s r=1+lkN lk+ts[r]+lkN lk
 ·exfalso
  have ha:=h.a (lk:=lk) (h.t _ (List.getElem_mem hr2))
  have hml:1+lkN lk+ts[r]+lkN lk < (e8 kd lk ts[r]).length:=by rw[ha.len]; omega
  have hk:(bA (cN kd lk ts) (r,dAt s r)).k=8:=by
   rw[e,rT hr2,gEg hml]
   have h8:1+lkN lk+ts[r]+lkN lk∈gR 8 (e8 kd lk ts[r]) (e8 kd lk ts[r]).length:=by rw[ha.fe]; simp
   have:=(eN.1 h8).2
   rw[lH (gEg hml)] at this
   exact this
  refine E.go hC hr (by omega) (by rw[hk]; decide) (by rw[hk]; decide) fun _=>?_
  have hp:=AA hC (r:=r) (i:=dAt s r) (by omega) hk (fun b=>1+lkN lk+ts.getD b 0+lkN lk) fun b hb=>by
   rw[DB h (show b < ts.length by omega),DB h hr2,e,PF (by omega),List.getD_eq_getElem?_getD,gEg (show b < ts.length by omega)]
   rfl
  refine⟨hp.1,fun y hy=>?_⟩
  obtain⟨q1,_,q3⟩:=(hp.2 y).1 hy
  have hyt:y.1 < ts.length:=by omega
  have:=tI h hC E q1 hyt _ (Nat.le_refl _)
  rw[q3,List.getD_eq_getElem?_getD,gEg hyt]
  exact this
 ·unfold dAt at *
  omega
def P0 (lk:Bool) (ts:List Nat):List Pl:=(List.range ts.length).flatMap fun r=>(List.range (ts.getD r 0)).map fun j=>(r,1+lkN lk+j)
theorem vC {lk:Bool} {ts:List Nat} {x:Pl}:x∈P0 lk ts↔x.1 < ts.length∧1+lkN lk≤x.2∧x.2 < 1+lkN lk+ts.getD x.1 0:=by
 unfold P0
 rw[List.mem_flatMap]
 constructor
 ·rintro⟨r,hr,h⟩
  obtain⟨j,hj,rfl⟩:=List.mem_map.1 h
  have:=List.mem_range.1 hr
  have:=List.mem_range.1 hj
  dsimp only
  omega
 ·rintro⟨h1,h2,h3⟩
  exact⟨x.1,List.mem_range.2 h1,List.mem_map.2 ⟨x.2 - (1+lkN lk),List.mem_range.2 (by omega),by rw[show 1+lkN lk+(x.2 - (1+lkN lk))=x.2 by omega]⟩⟩
theorem KZ (lk:Bool) (f:Nat→Nat):∀ n,((List.range n).flatMap fun r=>(List.range (f r)).map fun j=>(r,1+lkN lk+j)).Nodup
 | 0=>List.nodup_nil
 | n+1=>by
  rw[List.range_succ,List.flatMap_append]
  refine List.nodup_append.2 ⟨KZ lk f n,?_,fun x hx y hy e=>?_⟩
  ·rw[List.flatMap_cons,List.flatMap_nil,List.append_nil]
   refine List.Pairwise.map _ (fun i j hij e=>?_) List.pairwise_lt_range
   have:=congrArg Prod.snd e
   dsimp only at this
   omega
  ·obtain⟨r,hr,hx⟩:=List.mem_flatMap.1 hx
   obtain⟨i,hi,rfl⟩:=List.mem_map.1 hx
   rw[List.flatMap_cons,List.flatMap_nil,List.append_nil] at hy
   obtain⟨j,hj,rfl⟩:=List.mem_map.1 hy
   have:=List.mem_range.1 hr
   have:=congrArg Prod.fst e
   dsimp only at this
   omega
theorem CO:∀(ts:List Nat) (n:Nat),n≤ts.length→((List.range n).map fun r=>ts.getD r 0).sum=(ts.take n).sum
 | ts,0,_=>by simp
 | ts,n+1,h=>by
  rw[List.range_succ,List.map_append,List.sum_append,CO ts n (by omega),List.take_succ_eq_append_getElem (show n < ts.length by omega),List.sum_append]
  simp only[List.map_cons,List.map_nil,List.sum_cons,List.sum_nil]
  rw[List.getD_eq_getElem?_getD,gEg (show n < ts.length by omega)]
  rfl
theorem PO (lk:Bool) (ts:List Nat):(P0 lk ts).length=ts.sum:=by
 unfold P0
 rw[List.length_flatMap]
 simp only[List.length_map,List.length_range]
 rw[CO ts _ (Nat.le_refl _),List.take_length]
theorem zU (hk:kd=3∨kd=4):∀(l:List Pl) (s:Ab) (c:Nat),(∀ x∈l,cE ls x=(0,1)∧bA (cN kd lk ts) x=aC kd)→s.m 0 1=(c:Int)→c+l.length≤1000→(l.foldl (kG (cN kd lk ts) ls) s).m 0 1=((c+l.length:Nat):Int)
 | [],_,_,_,h,_=>h
 | x::l,s,c,hx,h,hc=>by
  rw[List.length_cons] at hc
  rw[List.foldl_cons,zU hk l _ (c+1) (fun y hy=>hx y (by simp[hy])) ?_ (by omega),List.length_cons,show c+1+l.length=c+(l.length+1) by omega]
  obtain⟨h1,h2⟩:=hx x (by simp)
  show(if (0,1)=cE ls x then eF (bA (cN kd lk ts) x) (s.m (cE ls x).1 (cE ls x).2) else _)=_
  rw[h1,h2,if_pos rfl]
  unfold eF aC
  dsimp only
  rw[if_neg (by omega),if_pos (by omega),h]
  exact NY (by omega)
end
structure CntE (kd:Int) (lk:Bool) (ts:List Nat) (n:Nat) (S:St):Prop where
 st:dA (cN kd lk ts) S n=[]
 m:∃ z:Int,aT S 0=[z,((ts.sum:Nat):Int)]
structure CntV (kd:Int) (lk:Bool) (ts:List Nat) (n:Nat) (S:St) (vs:Nat→List Nat):Prop where
 v:∀ r,r < n→g7 (cN kd lk ts) S r=(vs r).map fun j:Nat=>(j:Int)
 len:∀ r,r < n→(vs r).length=ts.getD r 0
 pw:∀ r,r < n→(vs r).Pairwise (· < ·)
 lt:∀ r,r < n→∀ v∈vs r,v < ts.sum
 dj:∀ r q,r < n→q < n→r≠q→∀ v∈vs r,v∉vs q
theorem L9 {l:List Pl} {x:Pl} (h:x∈l):l=l.take (l.idxOf x)++x::l.drop (l.idxOf x+1)∧l.idxOf x < l.length:=by
 have hl:=List.idxOf_lt_length_of_mem h
 refine⟨?_,hl⟩
 have e:=List.drop_eq_getElem_cons hl
 rw[List.getElem_idxOf hl] at e
 rw[← e,List.take_append_drop]
theorem UW {f:Nat→Option Int} {g:Nat→Int} {off t rest:Nat} (h1:∀ i,i < off→f i=none) (h2:∀ j,j < t→f (off+j)=some (g j)) (h3:∀ j,j < rest→f (off+t+j)=none):(List.range (off+t+rest)).filterMap f=(List.range t).map g:=by
 rw[List.range_add,List.filterMap_append,List.range_add,List.filterMap_append]
 have e1:(List.range off).filterMap f=[]:=by
  rw[List.filterMap_eq_nil_iff]
  exact fun i hi=>h1 i (List.mem_range.1 hi)
 have e3:((List.range rest).map fun x=>off+t+x).filterMap f=[]:=by
  rw[List.filterMap_eq_nil_iff]
  intro i hi
  obtain⟨j,hj,rfl⟩:=List.mem_map.1 hi
  exact h3 j (List.mem_range.1 hj)
 rw[e1,e3,List.nil_append,List.append_nil,List.filterMap_map,← List.filterMap_eq_map]
 refine zA fun j hj=>?_
 exact h2 j (List.mem_range.1 hj)
section
variable {kd:Int} {lk:Bool} {ts:List Nat} {ls:List Ln} {a:Nat}
theorem GS (h:kQ kd ts):ts.sum≤56:=by
 have h1:=wE (l:=ts) (m:=7) fun x hx=>by have:=h.t x hx; omega
 have:=h.n8
 omega
theorem LX (h:kQ kd ts) (hC:bL (cN kd lk ts) ls) (ha:a < 18446744073709551616):
  CntE kd lk ts ls.length (eQ (cN kd lk ts) ls (st0 (cN kd lk ts) ls.length a))∧(kd=4→∃ vs,CntV kd lk ts ls.length (eQ (cN kd lk ts) ls (st0 (cN kd lk ts) ls.length a)) vs):=by
 obtain⟨tr,E⟩:=E2 hC ha
 have hd:=fun r hr=>PZ h hC E (r:=r) hr
 have hI:=E.inv
 have hq:=E.q
 have hab:=hI.ab
 generalize eQ (cN kd lk ts) ls (st0 (cN kd lk ts) ls.length a)=s at *
 have hn:=hC.len
 rw[iA] at hn
 have hn0:=h.n1
 have h56:=GS h
 have hmem:∀ x:Pl,x∈tr↔x∈P0 lk ts:=fun x=>by
  rw[hI.mem,vC]
  constructor
  ·rintro⟨h1,h2,h3,_⟩
   have hr:x.1 < ts.length:=by omega
   have h3:fD (bA (cN kd lk ts) (x.1,x.2)).k=true:=h3
   rw[rT hr] at h3
   have:=G1 h (h.t _ (List.getElem_mem hr)) x.2 h3
   rw[List.getD_eq_getElem?_getD,gEg hr]
   exact⟨hr,this.1,this.2⟩
  ·rintro⟨h1,h2,h3⟩
   rw[List.getD_eq_getElem?_getD,gEg h1] at h3
   have h3:x.2 < 1+lkN lk+ts[x.1]:=h3
   have hl:=qF (lk:=lk) h h1
   refine⟨by omega,by rw[hd x.1 (by omega)]; omega,?_,by rw[hq x.1 (by omega)]; exact List.not_mem_nil⟩
   rw[show bA (cN kd lk ts) x=aC kd from(AH h hC h1 h2 h3).2]
   rcases h.k with rfl | rfl<;>rfl
 have hlen:tr.length=ts.sum:=by
  rw[← PO lk ts]
  exact((List.perm_ext_iff_of_nodup hI.nd (KZ lk _ _)).2 hmem).length_eq
 have hcell:∀ x∈tr,cE ls x=(0,1)∧bA (cN kd lk ts) x=aC kd:=fun x hx=>by
  obtain⟨h1,h2,h3⟩:=vC.1 ((hmem x).1 hx)
  rw[List.getD_eq_getElem?_getD,gEg h1] at h3
  exact AH h hC h1 h2 h3
 have hm0:(k7 (st0 (cN kd lk ts) ls.length a)).m 0 1=((0:Nat):Int):=by
  show(aT _ 0).getD 1 0=_
  rw[v6 (by omega)]
  rfl
 refine⟨⟨?_,?_⟩,fun hk4=>?_⟩
 ·unfold dA
  rw[List.filter_eq_nil_iff]
  intro r hr
  have hr:=List.mem_range.1 hr
  have:=hd r hr
  unfold lV
  unfold dAt at this
  rw[this]
  simp
 ·have hl:(aT s 0).length=2:=by rw[hI.ok.m 0 (by omega)]; rfl
  have:=zU (ls:=ls) h.k tr _ 0 hcell hm0 (by omega)
  rw[← hab,hlen,Nat.zero_add] at this
  have this:(aT s 0).getD 1 0=_:=this
  generalize aT s 0=m at *
  match m,hl with
  | [x,y],_=>exact⟨x,by rw[← this]; rfl⟩
 ·subst hk4
  have hgot:∀ x∈tr,bZ x.2 (aH s x.1).g=some ((tr.idxOf x:Nat):Int):=fun x hx=>by
   obtain⟨e,hlt⟩:=L9 hx
   have hg:bZ x.2 (aH s x.1).g=(tr.foldl (kG (cN 4 lk ts) ls) (k7 (st0 (cN 4 lk ts) ls.length a))).g x.1 x.2:=congrArg (fun z:Ab=>z.g x.1 x.2) hab
   have hnd:=hI.nd
   rw[e] at hnd
   have hx2:=(List.nodup_cons.1 (List.nodup_append.1 hnd).2.1).1
   rw[hg]
   have:=RB (p:=cN 4 lk ts) (ls:=ls) (l1:=tr.take (tr.idxOf x)) (s:=k7 (st0 (cN 4 lk ts) ls.length a)) hx2 (by rw[(hcell x hx).2]; rfl)
   rw[← e] at this
   rw[this,(hcell x hx).1]
   congr 1
   have h2:=zU (kd:=4) (lk:=lk) (ts:=ts) (ls:=ls) (.inr rfl) (tr.take (tr.idxOf x)) _ 0 (fun y hy=>hcell y (List.mem_of_mem_take hy)) hm0 (by rw[List.length_take]; omega)
   rw[List.length_take,Nat.min_eq_left (Nat.le_of_lt hlt),Nat.zero_add] at h2
   exact h2
  have hinj:∀ x∈tr,∀ y∈tr,tr.idxOf x=tr.idxOf y→x=y:=fun x hx y hy e=>by
   have q1:=List.getElem_idxOf (List.idxOf_lt_length_of_mem hx)
   have q2:=List.getElem_idxOf (List.idxOf_lt_length_of_mem hy)
   rw[← q1,← q2]
   simp only[e]
  have hin:∀ r j,r < ls.length→j < ts.getD r 0→(r,1+lkN lk+j)∈tr:=fun r j hr hj=>(hmem _).2 (vC.2 ⟨by omega,by dsimp only; omega,by dsimp only; omega⟩)
  have hasc:∀ r i j,(r,i)∈tr→(r,j)∈tr→i < j→tr.idxOf (r,i) < tr.idxOf (r,j):=fun r i j h1 h2 hij=>by
   rcases Nat.lt_trichotomy (tr.idxOf (r,i)) (tr.idxOf (r,j)) with q | q | q
   ·exact q
   ·have:=congrArg Prod.snd (hinj _ h1 _ h2 q)
    dsimp only at this
    omega
   ·exfalso
    have h3:=List.pairwise_iff_getElem.1 hI.ord _ _ (List.idxOf_lt_length_of_mem h2) (List.idxOf_lt_length_of_mem h1) q
    rw[List.getElem_idxOf,List.getElem_idxOf] at h3
    refine h3 ⟨(hcell _ h1).1.trans (hcell _ h2).1.symm,?_⟩
    unfold wD SD
    rw[(hcell _ h1).2,(hcell _ h2).2]
    simp only[decide_true,Bool.true_and,dTr hij]
    rfl
  refine⟨fun r=>(List.range (ts.getD r 0)).map fun j=>tr.idxOf (r,1+lkN lk+j),fun r hr=>?_,fun r hr=>by simp,fun r hr=>?_,fun r hr v hv=>?_,fun r q hr hq hrq v hv hv2=>?_⟩
  ·have hr2:r < ts.length:=by omega
   have hno:∀ i,¬ (1+lkN lk≤i∧i < 1+lkN lk+ts.getD r 0)→bZ i (aH s r).g=none:=fun i hi=>by
    have hg:bZ i (aH s r).g=(tr.foldl (kG (cN 4 lk ts) ls) (k7 (st0 (cN 4 lk ts) ls.length a))).g (r,i).1 (r,i).2:=congrArg (fun z:Ab=>z.g r i) hab
    rw[hg,xU tr _ fun hx=>hi (by have:=vC.1 ((hmem _).1 hx); exact this.2)]
    exact QO _ _ _ _ _
   unfold g7 i8
   have e:aW (cN 4 lk ts) r=1+lkN lk+ts.getD r 0+(1+lkN lk):=by
    rw[qF h hr2,List.getD_eq_getElem?_getD,gEg hr2]
    simp only[Option.getD_some]
    omega
   rw[e,List.map_map]
   exact UW (fun i hi=>hno i (by omega)) (fun j hj=>hgot (r,1+lkN lk+j) (hin r j hr hj)) fun j _=>hno _ (by omega)
  ·refine List.Pairwise.map _ (R:=fun i j=>i < j∧j < ts.getD r 0) (fun i j hij=>hasc r _ _ (hin r i hr (by omega)) (hin r j hr hij.2) (by omega)) ?_
   exact List.Pairwise.imp_of_mem (fun hx hy hxy=>⟨hxy,List.mem_range.1 hy⟩) List.pairwise_lt_range
  ·obtain⟨j,hj,rfl⟩:=List.mem_map.1 hv
   have:=List.idxOf_lt_length_of_mem (hin r j hr (List.mem_range.1 hj))
   omega
  ·obtain⟨j,hj,rfl⟩:=List.mem_map.1 hv
   obtain⟨i,hi,e⟩:=List.mem_map.1 hv2
   have:=hinj _ (hin q i hq (List.mem_range.1 hi)) _ (hin r j hr (List.mem_range.1 hj)) e
   exact hrq (congrArg Prod.fst this).symm
theorem NU (h:kQ 3 ts) (hC:bL (cN 3 lk ts) ls):(iO (cN 3 lk ts) ls (eE ls.length (cN 3 lk ts) ls)).2=[]:=by
 have hn:=hC.len
 rw[iA] at hn
 refine B3 (fun x y hx hy hxl hyl hxy=>?_) hC.sok
 obtain⟨r,i⟩:=x
 obtain⟨q,j⟩:=y
 rw[iA] at hx hy
 dsimp only at hx hy hxl hyl
 have key:∀ r i,r < ts.length→i < aW (cN 3 lk ts) r→(iP ls (r,i)).isSome→bA (cN 3 lk ts) (r,i)=aC 3:=fun r i hr hi ha=>by
  have hk:=yE hC hi ha
  rw[rT hr] at hk
  have:=G1 h (h.t _ (List.getElem_mem hr)) i hk
  exact(AH h hC hr this.1 this.2).2
 unfold gB
 cases hc:iP ls (r,i) with
 | none=>rfl
 | some c=>
 cases hd:iP ls (q,j) with
 | none=>rfl
 | some d=>
 dsimp only
 rw[key r i hx hxl (by rw[hc]; rfl),key q j hy hyl (by rw[hd]; rfl)]
 have e:tJ (aC 3) (aC 3)=false:=rfl
 rw[e]
 simp
end
set_option linter.unusedVariables false
def u8R (l:List Nat):List (List AV):=l.map fun n:Nat=>[.sc (.int .u8 (n:Int))]
theorem KW (l:List Nat):(u8R l).length=l.length:=by simp[u8R]
instance (l:List Nat):PRs (u8R l):=inferInstanceAs (PRs (l.map fun n:Nat=>[AV.sc (.int .u8 (n:Int))]))
theorem QV (l:List Nat) (k:Nat) (h:k < l.length):cQ (u8R l) (k:Int)=some [.sc (.int .u8 (l[k]:Nat))]:=fS (fun n:Nat=>[.sc (.int .u8 (n:Int))]) l k h
def eD (l:List Nat):List Nat:=l.map (· % 8)
def vP (kd:Int) (lk:Bool) (j:Nat):List Act:=[aF]++(if lk=true then[aSh] else[])++List.replicate j (aC kd)
theorem BV (kd:Int) (lk:Bool) (j:Nat):(vP kd lk (j+1)).map actZ=(vP kd lk j).map actZ++[actZ (aC kd)]:=by
 unfold vP
 rw[List.replicate_succ',← List.append_assoc,List.map_append]
 rfl
theorem GL (kd:Int) (lk:Bool) (j:Nat):((vP kd lk j).map actZ).length=1+lkN lk+j:=by
 unfold vP lkN
 cases lk<;>simp<;>omega
theorem VL (kd:Int) (t:Nat):(e8 kd false t).map actZ=(vP kd false t).map actZ++[actZ aF]:=by
 unfold e8 vP
 simp
theorem U3 (kd:Int) (t:Nat):(e8 kd true t).map actZ=((vP kd true t).map actZ++[actZ aUn])++[actZ aF]:=by
 unfold e8 vP
 simp
theorem MT (kd:Int) (t:Nat):(e8 kd false t).length=1+t+1:=by unfold e8; simp; omega
theorem NP (kd:Int) (t:Nat):(e8 kd true t).length=2+t+1+1:=by unfold e8; simp; omega
def pJ (kd:Int) (lk:Bool) (l:List Nat) (k:Nat):List (List AV):=bV ((eD (l.take k)).map (e8 kd lk))
theorem OB (kd:Int) (lk:Bool) (l:List Nat) {k:Nat} (h:k≤l.length):(pJ kd lk l k).length=k:=by
 unfold pJ eD
 rw[eS]
 simp
 omega
theorem JX (kd:Int) (lk:Bool) (l:List Nat) {k:Nat} (h:k < l.length):pJ kd lk l (k+1)=pJ kd lk l k++[[.list 7 (dE (e8 kd lk (l[k] % 8)))]]:=by
 unfold pJ eD
 rw[List.take_succ_eq_append_getElem h,List.map_append,List.map_append,List.map_cons,List.map_nil,List.map_cons,List.map_nil,IP]
instance (kd:Int) (lk:Bool) (l:List Nat) (k:Nat):PRs (pJ kd lk l k):=by unfold pJ; infer_instance
def m5:Blk:=.cells 2 [[.sc (.int .i64 0),.sc (.slice none 0 0)]]
theorem QW (kd:Int) (lk:Bool) (t:Nat):∀ x∈e8 kd lk t,x.g=[]:=fun x hx=>by
 rcases FO x hx with rfl | rfl | rfl | rfl<;>rfl
set_option maxHeartbeats 16000000 in
theorem xC (l:List Nat) (hl:l.length≤1000) (h8:∀ n∈l,n < 256) (kd:Int) (lk:Bool):aD Tryz.prog 22 [.list 1 (u8R l),.sc (.int .i64 kd),.sc (.bool lk)] (dH (cN kd lk (eD l))):=by
 refine aD.mkI cF22 (nlB rfl) ?_
 have e0:=KW l
 rw[show dH (cN kd lk (eD l))=.agg [.sc (.int .i64 2),.list 1 (pJ kd lk l l.length)] by unfold pJ dH cN; rw[List.take_length]]
 have hu:PRs (u8R l):=inferInstance
 have hix:=QV l
 generalize u8R l=U at *
 refine aA ?_
 refine AWP.loop (fun k:Nat=>[(0,.list 1 U),(1,.sc (.int .i64 kd)),(2,.sc (.bool lk)),(6,.ptr 0 0 0 0),(7,.ptr 1 0 0 0),(8,.sc (.int .i64 (k:Int)))]) (fun k=>[[m5],[.cells 2 [[.sc (.int .i64 2),.hsl 2 0 0 k]]],[.cells 1 (pJ kd lk l k)]]) (fun k=>k≤l.length) (fun k=>l.length - k) 0 (Nat.zero_le _) ?_ ?_
 ·unfold m5
  show Sub _ _ _ _ _ [_,[.cells 2 [[.sc (.int .i64 2),.hsl 2 0 0 0]]],[.cells 1 []]]
  exact Sub.w [1] [[(0,0)],[(1,0)],[(2,0)]]
 rintro k hk
 unfold m5
 have hkl:=OB kd lk l hk
 refine aA ?_
 rw[e0]
 refine aA ?_
 refine AWP.condD rfl (fun h=>?_) (fun h=>?_)
 ·have hx:=hix k h
  have hx8:=h8 _ (List.getElem_mem h)
  have hsn:=JX kd lk l h
  generalize l[k]=n at *
  have hP:PRs (pJ kd lk l k):=inferInstance
  generalize pJ kd lk l k=P at *
  have hg:=QW kd lk (n % 8)
  refine AWP.skip ?_
  refine AWP.seq ?_
  refine AWP.block ?_
  cases lk with
  | false=>
   refine aA ?_
   (refine AWP.loop (fun j:Nat=>[(0,.list 1 U),(1,.sc (.int .i64 kd)),(2,.sc (.bool false)),(6,.ptr 0 0 0 0),(7,.ptr 1 0 0 0),(8,.sc (.int .i64 (k:Int))),(9,.hsl 3 0 0 (1+j)),(10,.sc (.int .i64 (j:Int)))]) (fun j=>[[m5],[.cells 2 [[.sc (.int .i64 2),.hsl 2 0 0 k]]],[.cells 1 P],[.cells 7 ((vP kd false j).map actZ)]]) (fun j=>j≤n % 8) (fun j=>n % 8 - j) 0 (Nat.zero_le _) ?_ ?_; (focus (((try unfold m5); refine Sub.to [] [[(0,0)],[(1,0)],[(2,0)],[(3,0)]] ?_ ⟨⟨⟨_,rfl,ToB.one (ToL.cons (.sc _) (ToL.cons (.sc _) ToL.nil))⟩,trivial⟩,⟨⟨_,rfl,ToB.one (ToL.cons (.sc _) (ToL.cons (To.hslL rfl rfl) ToL.nil))⟩,trivial⟩,⟨⟨_,rfl,ToB.rows rfl (prs _)⟩,trivial⟩,⟨⟨_,rfl,ToB.rows rfl (prs _)⟩,trivial⟩,trivial⟩ rfl rfl rfl; (all_goals exact eC)))); (focus ((rintro j hj; unfold m5; have hjl:=GL kd false j; have hjs:=BV kd false j; rw[show 1+lkN false+j=1+j from rfl] at hjl; refine aA ?_; refine AWP.condD rfl (fun h2=>?_) (fun h2=>?_); (focus ((refine aA ?_; refine⟨j+1,by omega,by omega,?_⟩; rw[hjs]; ((try unfold m5); refine Sub.to [] [[(0,0)],[(1,0)],[(2,0)],[(5,0)]] ?_ ⟨⟨⟨_,rfl,ToB.one (ToL.cons (.sc _) (ToL.cons (.sc _) ToL.nil))⟩,trivial⟩,⟨⟨_,rfl,ToB.one (ToL.cons (.sc _) (ToL.cons (To.hslL rfl rfl) ToL.nil))⟩,trivial⟩,⟨⟨_,rfl,ToB.rows rfl (prs _)⟩,trivial⟩,⟨⟨_,rfl,ToB.rows rfl (prs _)⟩,trivial⟩,trivial⟩ rfl rfl rfl; (all_goals exact eC))))); (focus ((have hj2:j=n % 8:=(by omega); subst hj2; refine aA ?_; refine DK.nil ⟨by kernel_rfl,?_⟩; refine aA ?_; (refine⟨k+1,by omega,by omega,?_⟩; rw[hsn]; refine Sub.to [] [[(0,0)],[(1,0)],[(4,7)]] ?_ ⟨⟨⟨_,rfl,ToB.one (ToL.cons (.sc _) (ToL.cons (.sc _) ToL.nil))⟩,trivial⟩,⟨⟨_,rfl,ToB.one (ToL.cons (.sc _) (ToL.cons (To.hslL rfl rfl) ToL.nil))⟩,trivial⟩,⟨⟨_,rfl,ToB.rowsR (ToR.snoc rfl (prs _) (ToL.cons (To.fzZ (by rw[VL]; rfl) rfl (MT kd (n % 8)) hg) ToL.nil))⟩,trivial⟩,trivial⟩ rfl rfl rfl; (all_goals exact eC)))))))))
  | true=>
   refine aA ?_
   (refine AWP.loop (fun j:Nat=>[(0,.list 1 U),(1,.sc (.int .i64 kd)),(2,.sc (.bool true)),(6,.ptr 0 0 0 0),(7,.ptr 1 0 0 0),(8,.sc (.int .i64 (k:Int))),(9,.hsl 3 0 0 (2+j)),(10,.sc (.int .i64 (j:Int)))]) (fun j=>[[m5],[.cells 2 [[.sc (.int .i64 2),.hsl 2 0 0 k]]],[.cells 1 P],[.cells 7 ((vP kd true j).map actZ)]]) (fun j=>j≤n % 8) (fun j=>n % 8 - j) 0 (Nat.zero_le _) ?_ ?_; (focus (((try unfold m5); refine Sub.to [] [[(0,0)],[(1,0)],[(2,0)],[(5,0)]] ?_ ⟨⟨⟨_,rfl,ToB.one (ToL.cons (.sc _) (ToL.cons (.sc _) ToL.nil))⟩,trivial⟩,⟨⟨_,rfl,ToB.one (ToL.cons (.sc _) (ToL.cons (To.hslL rfl rfl) ToL.nil))⟩,trivial⟩,⟨⟨_,rfl,ToB.rows rfl (prs _)⟩,trivial⟩,⟨⟨_,rfl,ToB.rows rfl (prs _)⟩,trivial⟩,trivial⟩ rfl rfl rfl; (all_goals exact eC)))); (focus ((rintro j hj; unfold m5; have hjl:=GL kd true j; have hjs:=BV kd true j; rw[show 1+lkN true+j=2+j from rfl] at hjl; refine aA ?_; refine AWP.condD rfl (fun h2=>?_) (fun h2=>?_); (focus ((refine aA ?_; refine⟨j+1,by omega,by omega,?_⟩; rw[hjs]; ((try unfold m5); refine Sub.to [] [[(0,0)],[(1,0)],[(2,0)],[(5,0)]] ?_ ⟨⟨⟨_,rfl,ToB.one (ToL.cons (.sc _) (ToL.cons (.sc _) ToL.nil))⟩,trivial⟩,⟨⟨_,rfl,ToB.one (ToL.cons (.sc _) (ToL.cons (To.hslL rfl rfl) ToL.nil))⟩,trivial⟩,⟨⟨_,rfl,ToB.rows rfl (prs _)⟩,trivial⟩,⟨⟨_,rfl,ToB.rows rfl (prs _)⟩,trivial⟩,trivial⟩ rfl rfl rfl; (all_goals exact eC))))); (focus ((have hj2:j=n % 8:=(by omega); subst hj2; refine AWP.exit ?_; show AWP _ _ _ (.seq _ _) _ _ _; refine AWP.seq ?_; refine AWP.joinT0 [(0,.list 1 U),(1,.sc (.int .i64 kd)),(2,.sc (.bool true)),(6,.ptr 0 0 0 0),(7,.ptr 1 0 0 0),(8,.sc (.int .i64 (k:Int))),(9,.hsl 3 0 0 (2+n % 8+1))] [[m5],[.cells 2 [[.sc (.int .i64 2),.hsl 2 0 0 k]]],[.cells 1 P],[.cells 7 ((vP kd true (n % 8)).map actZ++[actZ aUn])]] ?_ ?_; (focus (refine aA ?_; ((try unfold m5); refine Sub.to [] [[(0,0)],[(1,0)],[(2,0)],[(5,0)]] ?_ ⟨⟨⟨_,rfl,ToB.one (ToL.cons (.sc _) (ToL.cons (.sc _) ToL.nil))⟩,trivial⟩,⟨⟨_,rfl,ToB.one (ToL.cons (.sc _) (ToL.cons (To.hslL rfl rfl) ToL.nil))⟩,trivial⟩,⟨⟨_,rfl,ToB.rows rfl (prs _)⟩,trivial⟩,⟨⟨_,rfl,ToB.rows rfl (prs _)⟩,trivial⟩,trivial⟩ rfl rfl rfl; (all_goals exact eC)))); (focus (have hul:((vP kd true (n % 8)).map actZ++[actZ aUn]).length=2+n % 8+1:=(by rw[List.length_append,hjl]; rfl); unfold m5; refine aA ?_; refine DK.nil ⟨by kernel_rfl,?_⟩; refine aA ?_; (refine⟨k+1,by omega,by omega,?_⟩; rw[hsn]; refine Sub.to [] [[(0,0)],[(1,0)],[(4,7)]] ?_ ⟨⟨⟨_,rfl,ToB.one (ToL.cons (.sc _) (ToL.cons (.sc _) ToL.nil))⟩,trivial⟩,⟨⟨_,rfl,ToB.one (ToL.cons (.sc _) (ToL.cons (To.hslL rfl rfl) ToL.nil))⟩,trivial⟩,⟨⟨_,rfl,ToB.rowsR (ToR.snoc rfl (prs _) (ToL.cons (To.fzZ (by rw[U3]; rfl) rfl (NP kd (n % 8)) hg) ToL.nil))⟩,trivial⟩,trivial⟩ rfl rfl rfl; (all_goals exact eC)))))))))))
 ·have hk2:k=l.length:=by omega
  subst hk2
  refine aA ?_
  exact aN.w
end Go.Proofs.YtkjoolaahocgdaaGreat
