import Derived.Test.YtkjoolaahocgdaaGreatGWiK1
import Derived.Test.YtkjoolaahocgdaaGreatGWiK3
import Derived.Test.YtkjoolaahocgdaaGreatGWiL
namespace Go.Proofs.YtkjoolaahocgdaaGreat
open Go.Av Go.Proofs
set_option maxRecDepth 20000
structure Clo (p:Pg) (ls:List Ln) (T:Nat→Nat→Nat→Nat→Prop):Prop where
 z:∀ r i c,T r i c 0
 own:∀ r i,r < ls.length→i≤bH p r→T r i r i
 fst:∀ r i y,r < ls.length→i≤bH p r→y∈eS p ls r i→T r i y.1 (y.2+1)
 join:∀ r i b m c k,r < ls.length→i≤bH p r→b < ls.length→0 < m→m≤bH p b→T r i b m→T b (m - 1) c k→T r i c k
def TK (T:Nat→Nat→Prop) (k:List Nat):Prop:=∀ c,T c (k.getD c 0)
def TO (p:Pg) (n:Nat) (T:Nat→Nat→Nat→Nat→Prop) (o:Ord):Prop:=∀ r i,r < n→i≤bH p r→TK (T r i) (dN o r i)
theorem TK.max {T:Nat→Nat→Prop} {a b:List Nat} (hl:a.length=b.length) (h1:TK T a) (h2:TK T b):TK T (gH a b):=fun c=>by
 rw[zS hl]
 rcases Nat.le_total (a.getD c 0) (b.getD c 0) with h | h
 ·rw[Nat.max_eq_right h]; exact h2 c
 ·rw[Nat.max_eq_left h]; exact h1 c
theorem TK.fst {T:Nat→Nat→Prop} {k:List Nat} (h:TK T k) {x:Pl} (hx:x.1 < k.length) (h1:T x.1 (x.2+1)):TK T (s7 k x):=fun c=>by
 unfold s7
 rw[sT hx]
 by_cases e:x.1=c
 ·rw[if_pos e,← e]
  rcases Nat.le_total (k.getD x.1 0) (x.2+1) with h2 | h2
  ·rw[Nat.max_eq_right h2]; exact h1
  ·rw[Nat.max_eq_left h2]; exact h x.1
 ·rw[if_neg e]; exact h c
section
variable {p:Pg} {ls:List Ln} {T:Nat→Nat→Nat→Nat→Prop}
theorem Clo.newK (hT:Clo p ls T) (hF:FOK p ls) {o:Ord} (ho:OOK p ls.length o) (h:TO p ls.length T o) {r i:Nat} (hr:r < ls.length) (hi:i≤bH p r):TK (T r i) (newK ls.length p ls o r i):=by
 have hB:KOK p (kB p ls o r i)∧TK (T r i) (kB p ls o r i):=d8 (I:=fun k=>KOK p k∧TK (T r i) k) ⟨ho.k hr hi,h r i hr hi⟩ fun k x hx hk=>by
  have:=hF.m r i x hx
  exact⟨hk.1.fst this.1 this.2,hk.2.fst (by rw[hk.1.1]; exact this.1) (hT.fst r i x hr hi hx)⟩
 have hC:KOK p (kC ls.length p ls o r i)∧TK (T r i) (kC ls.length p ls o r i):=d8 (I:=fun k=>KOK p k∧TK (T r i) k) hB fun k b hb hk=>by
  have hb:=List.mem_range.1 hb
  refine⟨hk.1.join ho hb,?_⟩
  unfold oN
  split
  ·rename_i h0
   have hl:=hk.1.2 b
   refine TK.max (hk.1.1.trans (ho.k hb (by omega)).1.symm) hk.2 fun c=>?_
   exact hT.join r i b _ c _ hr hi hb h0 hl (hk.2 b) (h b _ hb (by omega) c)
  ·exact hk.2
 exact TK.max ((ho.k hr hi).1.trans hC.1.1.symm) (h r i hr hi) hC.2
theorem Clo.step (hT:Clo p ls T) (hF:FOK p ls) {s:Bool×Ord} (h:OOK p ls.length s.2∧TO p ls.length T s.2) {r i:Nat} (hr:r < ls.length) (hi:i≤bH p r):OOK p ls.length (jN ls.length p ls r s i).2∧TO p ls.length T (jN ls.length p ls r s i).2:=by
 have h1:r < s.2.length:=by rw[h.1.len]; exact hr
 have h2:i < (cO s.2 r).length:=by rw[h.1.rows r hr]; omega
 refine⟨h.1.step hF hr hi,fun b j hb hj=>?_⟩
 show TK (T b j) (dN (rT s.2 r i (YtkjoolaahocgdaaGreat.newK ls.length p ls s.2 r i)) b j)
 rw[v6 h1 h2]
 split
 ·rename_i e
  rw[e.1,e.2]
  exact hT.newK hF h.1 h.2 hr hi
 ·exact h.2 b j hb hj
theorem Clo.pass (hT:Clo p ls T) (hF:FOK p ls) {o:Ord} (h:OOK p ls.length o∧TO p ls.length T o):OOK p ls.length (j9 ls.length p ls o).2∧TO p ls.length T (j9 ls.length p ls o).2:=
 d8 (I:=fun s:Bool×Ord=>OOK p ls.length s.2∧TO p ls.length T s.2) h fun _ _ hr h=>d8 (I:=fun s:Bool×Ord=>OOK p ls.length s.2∧TO p ls.length T s.2) h fun _ _ hi h=>hT.step hF h (List.mem_range.1 hr) (by have:=List.mem_range.1 hi; omega)
theorem Clo.go (hT:Clo p ls T) (hF:FOK p ls):∀(f:Nat) (o:Ord),OOK p ls.length o∧TO p ls.length T o→TO p ls.length T (uI ls.length p ls f o)
 | 0,_,h=>h.2
 | f+1,o,h=>by
  have hp:=hT.pass hF h
  unfold uI
  split
  ·exact hT.go hF f _ hp
  ·exact hp.2
theorem LW {p:Pg} {n b i:Nat} (hb:b < n) (hi:i≤bH p b):dN (AD p n) b i=z64.set b i:=by
 unfold dN
 rw[pI hb]
 unfold tU
 rw[List.getD_eq_getElem?_getD,kM (by omega),if_pos hi]
 rfl
theorem Clo.ord (hT:Clo p ls T) (hF:FOK p ls) (hn:ls.length≤64) {r i:Nat} (hr:r < ls.length) (hi:i≤bH p r) (c:Nat):T r i c ((dN (nX ls.length p ls) r i).getD c 0):=by
 refine hT.go hF _ _ ⟨AA p hn,fun b j hb hj c=>?_⟩ r i hr hi c
 rw[LW hb hj,sT (by rw[H9]; omega)]
 split
 ·rename_i e
  rw[← e]
  exact hT.own b j hb hj
 ·rw[G6]; exact hT.z b j c
end
structure Ab where
 m:Nat→Nat→Int
 g:Nat→Nat→Option Int
def fN (ls:List Ln) (x:Pl):Nat×Nat:=((acN ls x).r.toNat,(acN ls x).a.toNat)
def BI (p:Pg) (ls:List Ln) (a:Ab) (x:Pl):Ab:=
 ⟨fun b j=>if (b,j)=fN ls x then eL (bF p x) (a.m (fN ls x).1 (fN ls x).2) else a.m b j,
  fun r i=>if gP (bF p x).k=true∧(r,i)=x then some (a.m (fN ls x).1 (fN ls x).2) else a.g r i⟩
def eC (s:St):Ab:=⟨fun b j=>(aT s b).getD j 0,fun r i=>bT i (aH s r).g⟩
theorem Ab.ext' {a b:Ab} (h1:∀ r i,a.m r i=b.m r i) (h2:∀ r i,a.g r i=b.g r i):a=b:=by
 obtain⟨m,g⟩:=a
 obtain⟨m',g'⟩:=b
 have e1:m=m':=funext fun r=>funext fun i=>h1 r i
 have e2:g=g':=funext fun r=>funext fun i=>h2 r i
 rw[e1,e2]
theorem w8 {i j:Nat} {v:Int}:∀ {l:List (Nat×Int)},bT j (iS i v l)=if j=i then some v else bT j l
 | []=>by simp only[iS,bT]
 | (k,w)::l=>by
  rw[iS]
  by_cases h:i=k
  ·rw[if_pos h]
   simp only[bT]
   by_cases h2:j=k
   ·rw[if_pos h2,if_pos (by omega)]
   ·rw[if_neg h2,if_neg (by omega),if_neg h2]
  ·rw[if_neg h]
   simp only[bT]
   by_cases h2:j=k
   ·rw[if_pos h2,if_neg (by omega),if_pos h2]
   ·rw[if_neg h2,if_neg h2]
    exact w8
theorem IS {k:List Int} {a c:Nat} {v:Int} (h:a < k.length):(k.set a v).getD c 0=if c=a then v else k.getD c 0:=by
 rw[List.getD_eq_getElem?_getD,List.getElem?_set,List.getD_eq_getElem?_getD]
 by_cases e:a=c
 ·rw[if_pos e,if_pos e.symm,if_pos h]; rfl
 ·rw[if_neg e,if_neg (fun q=>e q.symm)]
theorem C5 {p:Pg} {ls:List Ln} {s:St} {x:Pl} (h1:x.1 < s.ps.length) (h2:(fN ls x).1 < s.mem.length) (h3:(fN ls x).2 < (aT s (fN ls x).1).length):eC (iB p ls s x)=BI p ls (eC s) x:=by
 have hp:=fun y=>dJ (s:=s) (x:=y) h1
 unfold fN at h2 h3
 dsimp only at h2 h3
 refine Ab.ext' (fun b j=>?_) fun r i=>?_
 ·show(aT (iB p ls s x) b).getD j 0=if (b,j)=((acN ls x).r.toNat,(acN ls x).a.toNat) then _ else(aT s b).getD j 0
  unfold iB
  dsimp only
  have hm:∀ s1:St,s1.mem=s.mem→(aT (setM s1 (acN ls x).r.toNat ((aT s (acN ls x).r.toNat).set (acN ls x).a.toNat (eL (bF p x) ((aT s (acN ls x).r.toNat).getD (acN ls x).a.toNat 0)))) b).getD j 0 =
    if (b,j)=((acN ls x).r.toNat,(acN ls x).a.toNat) then eL (bF p x) ((aT s (acN ls x).r.toNat).getD (acN ls x).a.toNat 0) else(aT s b).getD j 0:=fun s1 e=>by
   rw[nE (by rw[e]; exact h2)]
   by_cases hb:b=(acN ls x).r.toNat
   ·rw[if_pos hb,IS h3]
    by_cases hj:j=(acN ls x).a.toNat
    ·rw[if_pos hj,if_pos (by rw[hb,hj])]
    ·rw[if_neg hj,if_neg (fun q=>hj (congrArg Prod.snd q)),hb]
   ·rw[if_neg hb,if_neg (fun q=>hb (congrArg Prod.fst q))]
    unfold aT
    rw[e]
  split
  ·exact hm _ rfl
  ·exact hm _ rfl
 ·show bT i (aH (iB p ls s x) r).g=if _ then _ else bT i (aH s r).g
  unfold iB
  dsimp only
  by_cases hk:gP (bF p x).k=true
  ·rw[if_pos hk]
   show bT i (aH (setP s x.1 _) r).g=_
   rw[hp]
   by_cases hr:r=x.1
   ·rw[if_pos hr]
    show bT i (iS x.2 _ (aH s x.1).g)=_
    rw[w8]
    by_cases hi:i=x.2
    ·rw[if_pos hi,if_pos ⟨hk,by rw[hr,hi]⟩]; rfl
    ·rw[if_neg hi,if_neg (fun q=>hi (congrArg Prod.snd q.2)),hr]
   ·rw[if_neg hr,if_neg (fun q=>hr (congrArg Prod.fst q.2))]
  ·rw[if_neg hk,if_neg (fun q=>hk q.1)]
   rfl
theorem b0 (c:Bool):decide (c.toNat=0)=!c:=by cases c<;>rfl
theorem IQ {x:Act} (h:exP x.k=true) (v:Int):eL x v=v:=by
 have h:x.k=2∨x.k=6:=of_decide_eq_true h
 unfold eL
 rw[if_neg (by omega),if_neg (by omega),if_neg (by omega)]
theorem cF.at {p:Pg} {ls:List Ln} (hC:cF p ls) {r i:Nat} (hi:i < bH p r):∃ l L x,p.acts[r]?=some l∧ls[r]?=some L∧x4 p r l L∧l[i]?=some x∧bF p (r,i)=x∧bH p r=l.length∧r < ls.length:=by
 have hr:=D4 hi
 have hra:=gEg hr
 obtain⟨L,hL,hO⟩:=hC.get hra
 have hlen:=c9 hra
 have hx:=gEg (show i < p.acts[r].length by omega)
 exact⟨_,L,_,hra,hL,hO,hx,eY hra hx,hlen,by rw[hC.len]; exact hr⟩
theorem y7 {α:Type} (t:α→Bool):∀ l:List α,(gJ t l < 0∧∀ x∈l,t x=false)∨∃ x,0≤gJ t l∧l[(gJ t l).toNat]?=some x∧t x=true∧∀ j,j < (gJ t l).toNat→∀ y,l[j]?=some y→t y=false
 | []=>.inl ⟨(by decide:(-1:Int) < 0),fun _ h=>by cases h⟩
 | x::l=>by
  by_cases hx:t x=true
  ·have:=pR t (x::l) 0 (by simp) hx fun j _ hj=>by omega
   rw[this]
   exact .inr ⟨x,by simp,by simp,hx,fun j hj=>by simp at hj⟩
  have hx:t x=false:=by simpa using hx
  rcases y7 t l with⟨h1,h2⟩ | ⟨y,h1,h2,h3,h4⟩
  ·left
   have hall:∀ y∈x::l,t y=false:=fun y hy=>by
    rcases List.mem_cons.1 hy with rfl | hy
    ·exact hx
    ·exact h2 y hy
   have:=oI t (x::l) fun j hj=>hall _ (List.getElem_mem hj)
   exact⟨by omega,hall⟩
  ·right
   obtain⟨n,hn⟩:∃ n:Nat,gJ t l=n:=⟨(gJ t l).toNat,by omega⟩
   rw[hn] at h2 h4
   have hnl:=(gEs.1 h2).1
   have hnl:n < l.length:=hnl
   have e:(x::l)[n+1]?=some y:=h2
   have hbef:∀ j,j < n+1→∀ z,(x::l)[j]?=some z→t z=false:=fun j hj z hz=>by
    cases j with
    | zero=>simp at hz; rw[← hz]; exact hx
    | succ j=>exact h4 j (by show j < n; omega) z (by simpa using hz)
   have:=pR t (x::l) (n+1) (by simp; omega) (by have:=(gEs.1 e).2; rw[this]; exact h3) fun j hj hjn=>hbef j hjn _ (gEg hj)
   rw[this]
   exact⟨y,by omega,e,h3,fun j hj=>hbef j (by omega)⟩
theorem LM (t:Int→Bool) (l:List Act) {i:Nat} (hi:i < l.length):i < ofP t l i∧(∀ j,i < j→j < ofP t l i→t (kAt l j)=false∨l.length≤j)∧(ofP t l i=l.length∨∃ x,l[ofP t l i]?=some x∧t x.k=true):=by
 unfold ofP
 rcases y7 (fun x:Act=>t x.k) (l.drop (i+1)) with⟨h1,h2⟩ | ⟨x,h1,h2,h3,h4⟩
 ·rw[if_pos h1]
  refine⟨hi,fun j hj hjl=>.inl ?_,.inl rfl⟩
  have hjg:=gEg hjl
  rw[mX hjg]
  refine h2 _ (List.mem_of_getElem? (i:=j - (i+1)) ?_)
  rw[List.getElem?_drop,show i+1+(j - (i+1))=j by omega]
  exact hjg
 ·rw[if_neg (by omega)]
  rw[List.getElem?_drop] at h2
  refine⟨by omega,fun j hj hjl=>?_,.inr ⟨x,h2,h3⟩⟩
  by_cases hl:j < l.length
  ·left
   have hjg:=gEg hl
   rw[mX hjg]
   refine h4 (j - (i+1)) (by omega) _ ?_
   rw[List.getElem?_drop,show i+1+(j - (i+1))=j by omega]
   exact hjg
  ·exact .inr (by omega)
def OB (k:Int):Bool:=decide (k=8∨k=11∨k=15∨k=16)
theorem B7 {p:Pg} {ls:List Ln} (hC:cF p ls) {r i:Nat} (hi:i < bH p r) (hk:cD (bF p (r,i)).k=true):i < gC ls (r,i)∧(gC ls (r,i) < bH p r→OB (bF p (r,gC ls (r,i))).k=true):=by
 obtain⟨l,L,x,hr,hL,hO,hx,hap,hlen,_⟩:=hC.at hi
 rw[hap] at hk
 have hil:=(gEs.1 hx).1
 obtain⟨a1,_,_⟩:=sD hL hO hx hk
 have hrem:=(hO.act i x hx).rem hk
 rw[pL,a1,hlen]
 show i < (hN l (dZ l i) i x).1∧_
 have key:∀ t:Int→Bool,(∀ x,l[ofP t l i]?=some x→t x.k=true→OB x.k=true)→i < ofP t l i∧(ofP t l i < l.length→OB (bF p (r,ofP t l i)).k=true):=fun t ht=>by
  obtain⟨q1,_,q3⟩:=LM t l hil
  refine⟨q1,fun h=>?_⟩
  rcases q3 with q3 | ⟨x,q3,q4⟩
  ·omega
  ·rw[eY hr q3]
   exact ht x q3 q4
 unfold hN at hrem ⊢
 split
 ·exact key stC fun y _ hy=>dTr (by have:=of_decide_eq_true hy; omega)
 rename_i c1
 rw[if_neg c1] at hrem
 split
 ·exact key stF fun y _ hy=>dTr (by have:=of_decide_eq_true hy; omega)
 ·rename_i c2
  rw[if_neg c2] at hrem
  refine key stN fun y hy _=>dTr ?_
  have hrem:=(Bool.and_eq_true_iff.1 hrem).2
  rw[hy] at hrem
  exact .inl (of_decide_eq_true hrem)
theorem MJ {p:Pg} {ls:List Ln} (hC:cF p ls) {r i:Nat} (hi:i < bH p r) (hk:(bF p (r,i)).k=6∨(bF p (r,i)).k=7):gC ls (r,i)=i:=by
 obtain⟨l,L,x,hr,hL,hO,hx,hap,hlen,_⟩:=hC.at hi
 rw[hap] at hk
 rw[pL,(vG hL hO hx hk).1]
theorem vI {p:Pg} {ls:List Ln} (hC:cF p ls) {r i:Nat} (hi:i < bH p r) (hk:iL (bF p (r,i)).k=true):(acN ls (r,i)).r=((fN ls (r,i)).1:Int)∧(acN ls (r,i)).a=((fN ls (r,i)).2:Int)∧(fN ls (r,i)).1 < ls.length∧(fN ls (r,i)).2 < p.cells.toNat∧(oG ls (r,i)).isSome:=by
 obtain⟨l,L,x,hr,hL,hO,hx,hap,hlen,hrl⟩:=hC.at hi
 rw[hap] at hk
 have hil:=(gEs.1 hx).1
 have hn:=hC.len
 have hk:1≤x.k∧x.k≤7:=of_decide_eq_true hk
 have hs:(oG ls (r,i)).isSome:=by
  rw[BE hL hO hil]
  unfold rW
  rw[hx]
  simp only
  split
  ·rfl
  ·rename_i h
   rw[if_pos (by have:¬ (1≤x.k∧x.k≤5):=fun q=>h (dTr q); omega)]
   rfl
 unfold fN
 by_cases h:cD x.k=true
 ·obtain⟨a1,a2,a3⟩:=sD hL hO hx h
  rw[a1]
  exact⟨rfl,rfl,by show x.r.toNat < ls.length; omega,a3,hs⟩
 ·have:¬ (1≤x.k∧x.k≤5):=fun q=>h (dTr q)
  obtain⟨a1,a2⟩:=vG hL hO hx (by omega)
  rw[a1]
  exact⟨rfl,rfl,hrl,a2,hs⟩
def epP (p:Pg) (r i:Nat):Ep:=dZ ((p.acts[r]?).getD []) i
theorem DH {p:Pg} {r i:Nat} (hi:i < bH p r):epP p r (i+1)=if 6≤(bF p (r,i)).k then afP (bF p (r,i)).k.toNat (epP p r i) (bF p (r,i)) else epP p r i:=by
 unfold bH at hi
 unfold epP bF
 dsimp only
 generalize (p.acts[r]?).getD []=l at *
 rw[dZ,gEg hi]
 rfl
theorem cF.act {p:Pg} {ls:List Ln} (hC:cF p ls) {r i:Nat} (hi:i < bH p r):1≤(bF p (r,i)).k∧(bF p (r,i)).k≤16∧(cD (bF p (r,i)).k=false→alP (bF p (r,i)).k.toNat (epP p r i) (bF p (r,i))=true)∧(dP (bF p (r,i)).k=true→0≤(bF p (r,i)).r∧(bF p (r,i)).r < ls.length):=by
 obtain⟨l,L,x,hr,hL,hO,hx,hap,hlen,_⟩:=hC.at hi
 have ha:=hO.act i x hx
 rw[hap]
 refine⟨ha.k1,ha.k16,fun h=>?_,fun h=>by rw[hC.len]; exact ha.rank h⟩
 unfold epP
 rw[hr]
 exact ha.al h
theorem cF.ends {p:Pg} {ls:List Ln} (hC:cF p ls) {r:Nat} (hr:r < ls.length):(epP p r (bH p r)).l < 0:=by
 have hra:=gEg (show r < p.acts.length by rw[← hC.len]; exact hr)
 obtain⟨L,hL,hO⟩:=hC.get hra
 rw[c9 hra]
 unfold epP
 rw[hra]
 exact hO.el
theorem PY (k:Nat) (e:Ep) (x:Act):(afP k e x).l=if k=13∨k=14 then x.r else if k=16 then -1 else e.l:=by
 unfold afP
 split<;>first | rfl | (rename_i h1 h2 h3 h4 h5 h6 h7 h8; rw[if_neg (fun e=>e.elim (fun e=>h6 e) (fun e=>h7 e)),if_neg (fun e=>h8 e)])
theorem wH {p:Pg} {ls:List Ln} (hC:cF p ls) {r:Nat}:∀ i,i≤bH p r→0≤(epP p r i).l→(epP p r i).o.length=0
 | 0,_,h=>by
  have:(0:Int)≤-1:=h
  omega
 | i+1,hi,h=>by
  have ih:=wH hC (r:=r) i (by omega)
  obtain⟨k1,k16,hal,_⟩:=hC.act (show i < bH p r by omega)
  rw[DH (by omega)] at h ⊢
  generalize bF p (r,i)=x at *
  by_cases h6:6≤x.k
  ·rw[if_pos h6] at h ⊢
   have hal:=hal (by unfold cD; apply dFa; omega)
   rw[PY] at h
   rw[afP_o]
   generalize epP p r i=e at *
   obtain⟨n,hn⟩:∃ n:Nat,x.k=n:=⟨x.k.toNat,by omega⟩
   rw[show x.k.toNat=n by omega] at hal h ⊢
   by_cases c1:n=10
   ·subst c1
    have:=(Bool.and_eq_true_iff.1 hal).2
    have:=of_decide_eq_true this
    rw[if_neg (by omega),if_neg (by omega)] at h
    omega
   rw[if_neg c1]
   by_cases c2:n=11
   ·rw[if_pos c2]; rfl
   rw[if_neg c2]
   by_cases c3:n=13∨n=14
   ·rcases c3 with rfl | rfl<;>exact of_decide_eq_true (Bool.and_eq_true_iff.1 hal).1
   rw[if_neg c3] at h
   by_cases c4:n=16
   ·rw[if_pos c4] at h; omega
   rw[if_neg c4] at h
   exact ih h
  ·rw[if_neg h6] at h ⊢
   exact ih h
theorem EO {p:Pg} {ls:List Ln} (hC:cF p ls) {r i:Nat} (hi:i < bH p r) (hk:(bF p (r,i)).k=8):∀ y∈(d6 p ls r i).1,(bF p y).k=8:=fun y hy=>by
 obtain⟨l,L,x,hr,hL,hO,hx,hap,hlen,_⟩:=hC.at hi
 rw[hap] at hk
 unfold d6 at hy
 rw[hr,hL] at hy
 simp only[hx] at hy
 rw[if_pos hk] at hy
 obtain⟨b,hb,hf⟩:=List.mem_filterMap.1 hy
 unfold v7 at hf
 split at hf
 ·rename_i M hM
  split at hf
  ·obtain⟨j,hj,rfl⟩:=Option.map_eq_some_iff.1 hf
   have hbl:=(gEs.1 hM).1
   have hba:=gEg (show b < p.acts.length by rw[← hC.len]; exact hbl)
   have hOb:=hC.ln b _ M hba hM
   rw[hOb.pre.fe] at hj
   obtain⟨q1,q2⟩:=eI.1 (List.mem_of_getElem? hj)
   have hjx:=gEg q1
   rw[mX hjx] at q2
   rw[eY hba hjx]
   exact q2
  ·cases hf
 ·cases hf
theorem pO {p:Pg} {ls:List Ln} (hC:cF p ls) {r i:Nat} (hi:i < bH p r) (h1:(bF p (r,i)).k≠8) (h2:(bF p (r,i)).k≠10) (h3:(bF p (r,i)).k≠12):d6 p ls r i=([],0):=by
 obtain⟨l,L,x,hr,hL,hO,hx,hap,hlen,_⟩:=hC.at hi
 rw[hap] at h1 h2 h3
 unfold d6
 rw[hr,hL]
 simp only[hx]
 rw[if_neg h1,if_neg h2,if_neg h3]
def qB (k:Int):Bool:=decide (k=6∨k=7)
def evs (p:Pg) (s:St):Cd→List Pl
 | .act r=>if qB (bF p (r,dAt s r)).k=true then[(r,dAt s r)] else[]
 | .take r _ i=>[(r,i)]
theorem nI (p:Pg) (s:St) (r:Nat):evs p s (.act r)=if qB (bF p (r,dAt s r)).k=true then[(r,dAt s r)] else[]:=rfl
def qAt (s:St) (r:Nat):List Nat:=(aH s r).q
theorem o5 {s:St} {r:Nat} {x:Pr} (hr:r < s.ps.length) (hg:x.g=(aH s r).g):eC (setP s r x)=eC s:=by
 refine Ab.ext' (fun _ _=>rfl) fun b i=>?_
 show bT i (aH (setP s r x) b).g=bT i (aH s b).g
 rw[dJ hr]
 split
 ·rename_i e; rw[hg,e]
 ·rfl
theorem B5 {p:Pg} {ls:List Ln} {s:St} {x:Pl} (b:Nat):bL (iB p ls s x) b=bL s b:=by
 unfold iB
 dsimp only
 split<;>rfl
structure K5 (p:Pg) (ls:List Ln) (s:St) (r:Nat) (s':St):Prop where
 d:∀ j,dAt s' j=if j=r then dAt s r+1 else dAt s j
 q:∀ j,qAt s' j=if j=r∧cD (bF p (r,dAt s r)).k=true then qAt s r++[dAt s r] else qAt s j
 a:eC s'=(evs p s (.act r)).foldl (BI p ls) (eC s)
 h:∀ b,bL s' b=if ((bF p (r,dAt s r)).k=13∨(bF p (r,dAt s r)).k=14)∧b=(bF p (r,dAt s r)).r.toNat then iS r (bF p (r,dAt s r)).k (bL s b) else if (bF p (r,dAt s r)).k=16∧b=(bF p (r,dAt s r)).r.toNat then jI r (bL s b) else bL s b
theorem BA {p:Pg} {ls:List Ln} {s:St} (hC:cF p ls) (hS:bJ p ls s) {r:Nat} (hr:r < ls.length) (hd:dAt s r < bH p r):K5 p ls s r (jS p ls s r):=by
 have hrs:r < s.ps.length:=by rw[hS.pl]; exact hr
 obtain⟨k1,k16,hal,hrk⟩:=hC.act hd
 have hcell:=fun hk=>vI hC (r:=r) (i:=dAt s r) hd hk
 obtain⟨x,hx⟩:∃ x,bF p (r,dAt s r)=x:=⟨_,rfl⟩
 have hP:=fun q=>dJ (s:=s) (r:=r) (x:=⟨(aH s r).d+1,q,(aH s r).g⟩) hrs
 rw[tL (p:=p) (ls:=ls) (s:=s) (r:=r) (x:=x) hx]
 rw[hx] at k1 k16 hal hrk hcell
 have key:∀(q:List Nat),qB x.k=false→¬ (x.k=13∨x.k=14)→¬ x.k=16→(q=if cD x.k=true then qAt s r++[dAt s r] else qAt s r)→K5 p ls s r (setP s r ⟨(aH s r).d+1,q,(aH s r).g⟩):=fun q hl h1 h2 hq=>by
  refine⟨fun j=>?_,fun j=>?_,?_,fun b=>?_⟩
  ·show(aH (setP s r _) j).d=_
   rw[hP]
   split<;>rfl
  ·show(aH (setP s r _) j).q=_
   rw[hP]
   by_cases e:j=r
   ·subst e
    rw[if_pos rfl]
    dsimp only
    rw[hq,hx]
    by_cases c:cD x.k=true
    ·rw[if_pos c,if_pos ⟨rfl,c⟩]
    ·rw[if_neg c,if_neg (fun q=>c q.2)]
   ·rw[if_neg e,if_neg (fun q=>e q.1)]; rfl
  ·rw[o5 (x:=⟨(aH s r).d+1,q,(aH s r).g⟩) hrs rfl]
   rw[nI,hx,hl]; rfl
  ·rw[hx,if_neg (fun q=>h1 q.1),if_neg (fun q=>h2 q.1)]; rfl
 by_cases c1:cD x.k=true
 ·have:1≤x.k∧x.k≤5:=of_decide_eq_true c1
  rw[if_pos c1]
  exact key _ (dFa (by omega)) (by omega) (by omega) (by rw[if_pos c1]; rfl)
 rw[if_neg c1]
 by_cases c2:x.k=6∨x.k=7
 ·rw[if_pos c2]
  have hl:qB x.k=true:=dTr c2
  obtain⟨_,_,b1,b2,_⟩:=hcell (by unfold iL; apply dTr; omega)
  have hE:=fun j=>rM (p:=p) (ls:=ls) (s:=setP s r ⟨(aH s r).d+1,(aH s r).q,(aH s r).g⟩) (x:=(r,(aH s r).d)) (by unfold setP; simp; exact hrs) j
  refine⟨fun j=>?_,fun j=>?_,?_,fun b=>?_⟩
  ·refine(hE j).2.trans ?_
   rw[hP]
   split<;>rfl
  ·refine(hE j).1.trans ?_
   rw[hx,if_neg (show¬ (j=r∧cD x.k=true) from fun q=>c1 q.2),hP]
   split
   ·rename_i e; rw[e]; rfl
   ·rfl
  ·refine(C5 (s:=setP s r ⟨(aH s r).d+1,(aH s r).q,(aH s r).g⟩) (x:=(r,dAt s r)) (by unfold setP; simp; exact hrs) (by show _ < s.mem.length; rw[hS.ml]; exact b1) (by show _ < (aT s _).length; rw[hS.m _ b1]; exact b2)).trans ?_
   rw[o5 (x:=⟨(aH s r).d+1,(aH s r).q,(aH s r).g⟩) hrs rfl]
   rw[nI,hx,if_pos hl]; rfl
  ·rw[hx,if_neg (by omega),if_neg (by omega)]
   exact B5 b
 rw[if_neg c2]
 have hl:qB x.k=false:=dFa c2
 have hb:∀ f:List (Nat×Int),dP x.k=true→x.r.toNat < (setP s r ⟨(aH s r).d+1,(aH s r).q,(aH s r).g⟩).held.length:=fun _ h=>by
  have:=hrk h
  show _ < s.held.length
  rw[hS.hl]
  omega
 have keyL:∀(f:List (Nat×Int)) (hh:∀ b,(if b=x.r.toNat then f else bL s b)=if (x.k=13∨x.k=14)∧b=x.r.toNat then iS r x.k (bL s b) else if x.k=16∧b=x.r.toNat then jI r (bL s b) else bL s b),dP x.k=true→K5 p ls s r (setL (setP s r ⟨(aH s r).d+1,(aH s r).q,(aH s r).g⟩) x.r.toNat f):=fun f hh hk=>by
  refine⟨fun j=>?_,fun j=>?_,?_,fun b=>?_⟩
  ·show(aH (setP s r _) j).d=_
   rw[hP]
   split<;>rfl
  ·show(aH (setP s r _) j).q=_
   rw[hx,if_neg (show¬ (j=r∧cD x.k=true) from fun q=>c1 q.2),hP]
   split
   ·rename_i e; rw[e]; rfl
   ·rfl
  ·refine Eq.trans (b:=eC (setP s r ⟨(aH s r).d+1,(aH s r).q,(aH s r).g⟩)) rfl ?_
   rw[o5 (x:=⟨(aH s r).d+1,(aH s r).q,(aH s r).g⟩) hrs rfl]
   rw[nI,hx,hl]; rfl
  ·rw[hx,← hh b,uF (hb f hk)]
   split<;>rfl
 by_cases c3:x.k=13∨x.k=14
 ·rw[if_pos c3]
  refine keyL _ (fun b=>?_) (by unfold dP; apply dTr; omega)
  by_cases e:b=x.r.toNat
  ·rw[if_pos e,if_pos ⟨c3,e⟩,e]
  ·rw[if_neg e,if_neg (fun q=>e q.2),if_neg (fun q=>e q.2)]
 rw[if_neg c3]
 by_cases c4:x.k=16
 ·rw[if_pos c4]
  refine keyL _ (fun b=>?_) (by unfold dP; apply dTr; omega)
  by_cases e:b=x.r.toNat
  ·rw[if_pos e,if_neg (fun q=>c3 q.1),if_pos ⟨c4,e⟩,e]
  ·rw[if_neg e,if_neg (fun q=>e q.2),if_neg (fun q=>e q.2)]
 rw[if_neg c4]
 exact key _ hl c3 c4 (by rw[if_neg c1]; rfl)
structure StepT (p:Pg) (ls:List Ln) (s:St) (r k i:Nat) (s':St):Prop where
 d:∀ j,dAt s' j=dAt s j
 q:∀ j,qAt s' j=if j=r then(qAt s r).eraseIdx k else qAt s j
 a:eC s'=BI p ls (eC s) (r,i)
 h:∀ b,bL s' b=bL s b
theorem z7 {p:Pg} {ls:List Ln} {s:St} (hC:cF p ls) (hS:bJ p ls s) {r k i:Nat} (hr:r < ls.length) (hk:(qAt s r)[k]?=some i):StepT p ls s r k i (mR p ls s r k i):=by
 have hrs:r < s.ps.length:=by rw[hS.pl]; exact hr
 have hP:=dJ (s:=s) (r:=r) (x:=⟨(aH s r).d,(aH s r).q.eraseIdx k,(aH s r).g⟩) hrs
 obtain⟨hi,hrem⟩:=hS.qi r hr i (List.mem_of_getElem? hk)
 have hil:i < bH p r:=Nat.lt_of_lt_of_le hi (hS.d r hr)
 have h5:1≤(bF p (r,i)).k∧(bF p (r,i)).k≤5:=of_decide_eq_true hrem
 obtain⟨_,_,b1,b2,_⟩:=vI hC (r:=r) (i:=i) hil (by unfold iL; apply dTr; omega)
 have hE:=fun j=>rM (p:=p) (ls:=ls) (s:=setP s r ⟨(aH s r).d,(aH s r).q.eraseIdx k,(aH s r).g⟩) (x:=(r,i)) (by unfold setP; simp; exact hrs) j
 refine⟨fun j=>?_,fun j=>?_,?_,fun b=>B5 b⟩
 ·refine(hE j).2.trans ?_
  rw[hP]
  split
  ·rename_i e; rw[e]; rfl
  ·rfl
 ·refine(hE j).1.trans ?_
  rw[hP]
  split<;>rfl
 ·refine(C5 (s:=setP s r ⟨(aH s r).d,(aH s r).q.eraseIdx k,(aH s r).g⟩) (x:=(r,i)) (by unfold setP; simp; exact hrs) (by show _ < s.mem.length; rw[hS.ml]; exact b1) (by show _ < (aT s _).length; rw[hS.m _ b1]; exact b2)).trans ?_
  rw[o5 (x:=⟨(aH s r).d,(aH s r).q.eraseIdx k,(aH s r).g⟩) hrs rfl]
theorem DL {p:Pg} {ls:List Ln} {s:St} {r:Nat} {out:List Cd} {j i:Nat} (hj:(qAt s r)[j]?=some i) (hu:(fL p ls r i).1=true):∀ {k:Nat},j < k→(fL p ls r i).2∈(tkN p ls s r out k).1
 | 0,h=>by omega
 | k+1,h=>by
  rw[lE]
  by_cases e:j=k
  ·subst e
   have hg:(aH s r).q.getD j 0=i:=by rw[List.getD_eq_getElem?_getD]; exact(congrArg (fun z=>Option.getD z 0) hj)
   unfold fK
   rw[hg,if_pos hu]
   split
   ·assumption
   ·simp
  ·have ih:=DL (out:=out) hj hu (k:=k) (by omega)
   unfold fK
   split
   ·split
    ·exact ih
    ·exact List.mem_append_left _ ih
   ·exact ih
theorem CR {p:Pg} {ls:List Ln} {s:St} {r:Nat} {out:List Cd} {c:Cd}:∀ {k:Nat},k≤(qAt s r).length→c∈(tkN p ls s r out k).2→c∈out∨∃ j i,(qAt s r)[j]?=some i∧c=.take r j i∧∀ j' i',j' < j→(qAt s r)[j']?=some i'→(fL p ls r i').1=true→(fL p ls r i).1=true→(fL p ls r i').2≠(fL p ls r i).2
 | 0,_,h=>.inl h
 | k+1,hk,h=>by
  have ih:=fun h'=>CR (p:=p) (ls:=ls) (s:=s) (r:=r) (out:=out) (c:=c) (k:=k) (by omega) h'
  rw[lE] at h
  have hg:(qAt s r)[k]?=some ((aH s r).q.getD k 0):=by rw[List.getD_eq_getElem?_getD]; show(aH s r).q[k]?=_; rw[gEg (show k < (aH s r).q.length from by unfold qAt at hk; omega)]; rfl
  unfold fK at h
  split at h
  ·split at h
   ·exact ih h
   ·rename_i hu hs
    rcases List.mem_append.1 h with h | h
    ·exact ih h
    ·refine .inr ⟨k,_,hg,List.mem_singleton.1 h,fun j' i' hj' hi' hu' _ e=>hs ?_⟩
     rw[← e]
     exact DL hi' hu' hj'
  ·rename_i hu
   rcases List.mem_append.1 h with h | h
   ·exact ih h
   ·exact .inr ⟨k,_,hg,List.mem_singleton.1 h,fun _ _ _ _ _ h2=>absurd h2 hu⟩
theorem yR {p:Pg} {ls:List Ln} {s:St} {out:List Cd} {c:Cd}:∀ {r:Nat},c∈lK p ls s out r→c∈out∨∃ b j i,b < r∧(qAt s b)[j]?=some i∧c=.take b j i∧∀ j' i',j' < j→(qAt s b)[j']?=some i'→(fL p ls b i').1=true→(fL p ls b i).1=true→(fL p ls b i').2≠(fL p ls b i).2
 | 0,h=>.inl h
 | r+1,h=>by
  rw[kR] at h
  rcases CR (Nat.le_refl _) h with h | ⟨j,i,h1,h2⟩
  ·rcases yR h with h | ⟨b,j,i,h1,h2⟩
   ·exact .inl h
   ·exact .inr ⟨b,j,i,by omega,h2⟩
  ·exact .inr ⟨r,j,i,by omega,h1,h2⟩
theorem qG {p:Pg} {ls:List Ln} {s:St} {c:Cd} (h:c∈cY p ls s):(∃ r,r < ls.length∧c=.act r∧kF p ls s r=true)∨∃ r k i,r < ls.length∧(qAt s r)[k]?=some i∧c=.take r k i∧∀ j' i',j' < k→(qAt s r)[j']?=some i'→(fL p ls r i').1=true→(fL p ls r i).1=true→(fL p ls r i').2≠(fL p ls r i).2:=by
 rcases yR (out:=eW p ls s ls.length) h with h | ⟨b,j,i,h1,h2,h3,h4⟩
 ·exact .inl (pF h)
 ·exact .inr ⟨b,j,i,h1,h2,h3,h4⟩
theorem AW {p:Pg} {ls:List Ln} {s:St} {r:Nat} {out:List Cd} {c:Cd}:∀ {k:Nat},c∈out→c∈(tkN p ls s r out k).2
 | 0,h=>h
 | k+1,h=>by
  have ih:=AW (p:=p) (ls:=ls) (s:=s) (r:=r) (k:=k) h
  rw[lE]
  unfold fK
  split
  ·split
   ·exact ih
   ·exact List.mem_append_left _ ih
  ·exact List.mem_append_left _ ih
theorem K8 {p:Pg} {ls:List Ln} {s:St} {r:Nat} {out:List Cd}:∀ {k:Nat},0 < k→(tkN p ls s r out k).2≠[]
 | 0,h=>by omega
 | k+1,_=>by
  rw[lE]
  by_cases h0:k=0
  ·subst h0
   unfold fK
   show _≠_
   split
   ·split
    ·rename_i h; exact absurd h (by show _∉([]:List (Int×Int)); simp)
    ·simp
   ·simp
  ·have ih:=K8 (p:=p) (ls:=ls) (s:=s) (r:=r) (out:=out) (k:=k) (by omega)
   unfold fK
   split
   ·split
    ·exact ih
    ·simp
   ·simp
theorem EJ {p:Pg} {ls:List Ln} {s:St} {out:List Cd} {c:Cd}:∀ {r:Nat},c∈out→c∈lK p ls s out r
 | 0,h=>h
 | r+1,h=>by
  rw[kR]
  exact AW (EJ h)
theorem G1 {p:Pg} {ls:List Ln} {s:St} {out:List Cd} {b:Nat} (hq:0 < (qAt s b).length):∀ {r:Nat},b < r→lK p ls s out r≠[]
 | 0,h=>by omega
 | r+1,h=>by
  rw[kR]
  by_cases e:b=r
  ·subst e
   exact K8 hq
  ·intro e0
   have:=G1 (p:=p) (ls:=ls) (out:=out) hq (r:=r) (by omega)
   obtain⟨c,hc⟩:=List.exists_mem_of_ne_nil _ this
   have:=AW (p:=p) (ls:=ls) (s:=s) (r:=r) (k:=(aH s r).q.length) hc
   rw[e0] at this
   cases this
theorem zR {p:Pg} {ls:List Ln} {s:St} {b:Nat} (hc:kF p ls s b=true):∀ {r:Nat},b < r→.act b∈eW p ls s r
 | 0,h=>by omega
 | r+1,h=>by
  rw[nD]
  by_cases e:b=r
  ·subst e
   rw[if_pos hc]; simp
  ·have:=zR hc (r:=r) (by omega)
   split
   ·exact List.mem_append_left _ this
   ·exact this
theorem tB {p:Pg} {ls:List Ln} {s:St} (h:cY p ls s=[]) {r:Nat} (hr:r < ls.length):kF p ls s r=false∧qAt s r=[]:=by
 have h:lK p ls s (eW p ls s ls.length) ls.length=[]:=h
 refine⟨?_,?_⟩
 ·by_cases c:kF p ls s r=true
  ·have:=EJ (p:=p) (ls:=ls) (s:=s) (r:=ls.length) (zR c hr)
   rw[h] at this
   cases this
  ·simpa using c
 ·by_cases c:0 < (qAt s r).length
  ·exact absurd h (G1 c hr)
  ·exact List.length_eq_zero_iff.1 (by omega)
def FP (p:Pg) (ls:List Ln) (s:St) (b n:Nat):Prop:=n≤dAt s b∨(n=dAt s b+1∧(bF p (b,dAt s b)).k=8∧∀ i∈qAt s b,gC ls (b,i)≠dAt s b)
def RE (s s':St):Prop:=∀ j,(dAt s' j=dAt s j∧∀ i∈qAt s' j,i∈qAt s j)∨dAt s' j=dAt s j+1
theorem FP.mono {p:Pg} {ls:List Ln} {s s':St} {b n:Nat} (hm:RE s s') (h:FP p ls s b n):FP p ls s' b n:=by
 rcases hm b with⟨e1,e2⟩ | e1
 ·rcases h with h | ⟨h1,h2,h3⟩
  ·exact .inl (by omega)
  ·exact .inr ⟨by omega,by rw[e1]; exact h2,fun i hi=>by rw[e1]; exact h3 i (e2 i hi)⟩
 ·rcases h with h | ⟨h1,h2,h3⟩
  ·exact .inl (by omega)
  ·exact .inl (by omega)
theorem o9 {ls:List Ln} {s:St} {r j:Nat}:jX ls s (r,j)=true↔∀ i∈qAt s r,gC ls (r,i)≠j:=by
 unfold jX qAt
 simp only[Bool.not_eq_true',List.any_eq_false,decide_eq_true_eq]
theorem vW {p:Pg} {ls:List Ln} {s:St} {r:Nat} (h:kF p ls s r=true):yJ ls s r (bF p (r,dAt s r)) (d6 p ls r (dAt s r)).1=true∧(d6 p ls r (dAt s r)).2≤(d6 p ls r (dAt s r)).1.length:=by
 unfold kF at h
 split at h
 ·cases h
 split at h
 ·cases h
 ·exact⟨h,by omega⟩
theorem AZ {p:Pg} {ls:List Ln} {s:St} {r:Nat} (h:kF p ls s r=true) (hk:OB (bF p (r,dAt s r)).k=true):(∀ i∈qAt s r,gC ls (r,i)≠dAt s r)∧∀ y∈(d6 p ls r (dAt s r)).1,y.2≤dAt s y.1∧(y.2=dAt s y.1→∀ i∈qAt s y.1,gC ls (y.1,i)≠y.2):=by
 have hk:=of_decide_eq_true hk
 have h:=(vW h).1
 unfold yJ at h
 rw[if_neg (by omega),if_neg (by omega),if_pos hk] at h
 obtain⟨h1,h2⟩:=Bool.and_eq_true_iff.1 h
 refine⟨o9.1 h1,fun y hy=>?_⟩
 have h2:=List.any_eq_false.1 (by simpa using h2) y hy
 unfold sS at h2
 simp only[Bool.or_eq_true,decide_eq_true_eq,Bool.and_eq_true,Bool.not_eq_true',not_or,not_and] at h2
 refine⟨by omega,fun e=>?_⟩
 have:=h2.2 e.symm
 exact o9.1 (by simpa using this)
theorem KN {p:Pg} {ls:List Ln} {s:St} {r:Nat} (h:kF p ls s r=true) (hk:(bF p (r,dAt s r)).k=10∨(bF p (r,dAt s r)).k=12):∀ y∈(d6 p ls r (dAt s r)).1,y.2 < dAt s y.1:=fun y hy=>by
 have h:=(vW h).1
 unfold yJ at h
 rw[if_neg (by omega),if_pos hk] at h
 have:=List.any_eq_false.1 (show _=false by simpa only[Bool.not_eq_true'] using h) y hy
 simp only[decide_eq_true_eq] at this
 omega
theorem I2 {p:Pg} {ls:List Ln} {s:St} (hC:cF p ls) {r:Nat} (hd:dAt s r < bH p r) (h:kF p ls s r=true):∀ y∈(d6 p ls r (dAt s r)).1,FP p ls s y.1 (y.2+1):=fun y hy=>by
 by_cases h8:(bF p (r,dAt s r)).k=8
 ·obtain⟨h1,h2⟩:=(AZ h (dTr (.inl h8))).2 y hy
  by_cases e:y.2=dAt s y.1
  ·have hf:=EO hC hd h8 y hy
   refine .inr ⟨by omega,by rw[← e]; exact hf,fun i hi=>by rw[← e]; exact h2 e i hi⟩
  ·exact .inl (by omega)
 by_cases h10:(bF p (r,dAt s r)).k=10∨(bF p (r,dAt s r)).k=12
 ·exact .inl (KN h h10 y hy)
 ·rw[pO hC hd h8 (fun e=>h10 (.inl e)) (fun e=>h10 (.inr e))] at hy
  cases hy
def Bef (p:Pg) (ls:List Ln) (x y:Pl):Prop:=fN ls x=fN ls y∧yN ls (nX ls.length p ls) (bF p x) (bF p y) x y=true
structure lY (p:Pg) (ls:List Ln) (s0 s:St) (tr:List Pl):Prop where
 ok:bJ p ls s
 Q:∀ r i,r < ls.length→i≤dAt s r→∀ y∈eS p ls r i,FP p ls s y.1 (y.2+1)
 asc:∀ r,r < ls.length→(qAt s r).Pairwise (· < ·)
 pend:∀ r,r < ls.length→∀ i∈qAt s r,dAt s r≤gC ls (r,i)
 mem:∀ x,x∈tr↔x.1 < ls.length∧x.2 < dAt s x.1∧iL (bF p x).k=true∧x.2∉qAt s x.1
 nd:tr.Nodup
 upd:∀ x∈tr,∀ i∈qAt s x.1,eR (bF p x).k=true→eR (bF p (x.1,i)).k=true→fN ls x=fN ls (x.1,i)→x.2 < i
 ord:tr.Pairwise fun x y=>¬ Bef p ls y x
 ab:eC s=tr.foldl (BI p ls) (eC s0)
theorem lY.real {p:Pg} {ls:List Ln} {s0 s:St} {tr:List Pl} (hC:cF p ls) (h:lY p ls s0 s tr) {r i:Nat} (hr:r < ls.length) (hi:i≤dAt s r) (c:Nat):FP p ls s c ((dN (nX ls.length p ls) r i).getD c 0):=by
 have hT:Clo p ls fun r i c n=>i≤dAt s r→FP p ls s c n:=by
  refine⟨fun _ _ _ _=>.inl (Nat.zero_le _),fun r i _ _ h=>.inl h,fun r i y hr _ hy hd=>h.Q r i hr hd y hy,fun r i b m c k _ _ _ h0 _ h1 h2 hd=>h2 ?_⟩
  rcases h1 hd with h1 | ⟨h1,_⟩<;>omega
 exact hT.ord hC.fok (by have:=hC.n64; have:=hC.len; omega) hr (Nat.le_trans hi (h.ok.d r hr)) c hi
theorem uB {k:Int} (h:qB k=true):eR k=false:=by
 have:=of_decide_eq_true h
 unfold eR
 apply dFa
 omega
theorem xI {p:Pg} {ls:List Ln} {x y:Pl} (h:Bef p ls x y):(x.1=y.1∧x.2 < y.2∧eR (bF p x).k=true∧eR (bF p y).k=true)∨gC ls x < (dN (nX ls.length p ls) y.1 y.2).getD x.1 0:=by
 have h:=h.2
 unfold yN Q3 at h
 simp only[Bool.or_eq_true,Bool.and_eq_true,decide_eq_true_eq] at h
 rcases h with h | h
 ·exact .inl ⟨h.1.1.1,h.1.1.2,h.1.2,h.2⟩
 ·exact .inr h
theorem lY.act {p:Pg} {ls:List Ln} {s0 s:St} {tr:List Pl} (hC:cF p ls) (h:lY p ls s0 s tr) {r:Nat} (hr:r < ls.length) (hc:kF p ls s r=true):lY p ls s0 (jS p ls s r) (tr++evs p s (.act r)):=by
 have hd:dAt s r < bH p r:=s5 (h.ok.d r hr) hc
 have A:=BA hC h.ok hr hd
 have hok:=h.ok.step hC hr hd
 have hqi:=fun i hi=>h.ok.qi r hr i hi
 generalize hs':jS p ls s r=s' at *
 have hmono:RE s s':=fun j=>by
  rw[A.d,A.q]
  by_cases e:j=r
  ·rw[if_pos e,e]; exact .inr rfl
  ·rw[if_neg e,if_neg (fun q=>e q.1)]; exact .inl ⟨rfl,fun _ hi=>hi⟩
 have hdr:dAt s' r=dAt s r+1:=by rw[A.d,if_pos rfl]
 have hqm:∀ i,i∈qAt s' r↔i∈qAt s r∨(i=dAt s r∧cD (bF p (r,dAt s r)).k=true):=fun i=>by
  rw[A.q]
  by_cases c:cD (bF p (r,dAt s r)).k=true
  ·rw[if_pos ⟨rfl,c⟩,List.mem_append,List.mem_singleton]
   exact⟨fun q=>q.imp id fun q=>⟨q,c⟩,fun q=>q.imp id fun q=>q.1⟩
  ·rw[if_neg (fun q=>c q.2)]
   exact⟨.inl,fun q=>q.elim id fun q=>absurd q.2 c⟩
 have hqo:∀ j,j≠r→qAt s' j=qAt s j:=fun j e=>by rw[A.q,if_neg (fun q=>e q.1)]
 have hdo:∀ j,j≠r→dAt s' j=dAt s j:=fun j e=>by rw[A.d,if_neg e]
 have hql:∀ i∈qAt s r,i < dAt s r:=fun i hi=>(hqi i hi).1
 have hev:∀ x,x∈evs p s (.act r)↔x=(r,dAt s r)∧qB (bF p (r,dAt s r)).k=true:=fun x=>by
  rw[nI]
  by_cases c:qB (bF p (r,dAt s r)).k=true
  ·rw[if_pos c,List.mem_singleton]; exact⟨fun q=>⟨q,c⟩,fun q=>q.1⟩
  ·rw[if_neg c]; exact⟨fun q=>(by cases q),fun q=>absurd q.2 c⟩
 refine⟨hok,fun b i hb hi y hy=>?_,fun b hb=>?_,fun b hb i hi=>?_,fun x=>?_,?_,fun x hx i hi u1 u2 hcl=>?_,?_,?_⟩
 ·by_cases e:b=r
  ·subst e
   by_cases e2:i=dAt s b+1
   ·subst e2
    unfold eS at hy
    rw[if_pos ⟨by omega,by omega⟩] at hy
    exact(I2 hC hd hc y hy).mono hmono
   ·exact(h.Q b i hb (by omega) y hy).mono hmono
  ·exact(h.Q b i hb (by rw[← hdo b e]; exact hi) y hy).mono hmono
 ·by_cases e:b=r
  ·subst e
   rw[A.q]
   by_cases c:cD (bF p (b,dAt s b)).k=true
   ·rw[if_pos ⟨rfl,c⟩]
    exact List.pairwise_append.2 ⟨h.asc b hb,List.pairwise_singleton _ _,fun i hi j hj=>by rw[List.mem_singleton.1 hj]; exact hql i hi⟩
   ·rw[if_neg (fun q=>c q.2)]; exact h.asc b hb
  ·rw[hqo b e]; exact h.asc b hb
 ·by_cases e:b=r
  ·subst e
   rw[hdr]
   rcases(hqm i).1 hi with h1 | ⟨h1,h2⟩
   ·have h3:=h.pend b hb i h1
    by_cases e2:gC ls (b,i)=dAt s b
    ·obtain⟨_,h4⟩:=B7 hC (r:=b) (i:=i) (by have:=hql i h1; omega) (hqi i h1).2
     have h4:=h4 (by omega)
     rw[e2] at h4
     exact absurd e2 ((AZ hc h4).1 i h1)
    ·omega
   ·rw[h1]
    exact(B7 hC hd h2).1
  ·rw[hdo b e]
   rw[hqo b e] at hi
   exact h.pend b hb i hi
 ·rw[List.mem_append,h.mem,hev]
  obtain⟨b,i⟩:=x
  dsimp only
  by_cases e:b=r
  ·subst e
   rw[hdr,hqm]
   by_cases e2:i=dAt s b
   ·subst e2
    constructor
    ·rintro(q | q)
     ·omega
     ·have q:=q.2
      have q2:=of_decide_eq_true q
      refine⟨hr,by omega,dTr (by omega),?_⟩
      rintro(q3 | q3)
      ·have:=hql _ q3; omega
      ·have:=of_decide_eq_true q3.2; omega
    ·rintro⟨_,_,q3,q4⟩
     refine .inr ⟨rfl,?_⟩
     have q3:=of_decide_eq_true q3
     refine dTr ?_
     by_cases q5:cD (bF p (b,dAt s b)).k=true
     ·exact absurd (.inr ⟨rfl,q5⟩) q4
     ·have:¬ (1≤(bF p (b,dAt s b)).k∧(bF p (b,dAt s b)).k≤5):=fun q=>q5 (dTr q)
      omega
   ·constructor
    ·rintro(q | q)
     ·exact⟨q.1,by omega,q.2.2.1,fun q3=>q3.elim q.2.2.2 fun q3=>e2 q3.1⟩
     ·exact absurd (congrArg Prod.snd q.1) e2
    ·rintro⟨q1,q2,q3,q4⟩
     exact .inl ⟨q1,by omega,q3,fun q=>q4 (.inl q)⟩
  ·rw[hdo b e,hqo b e]
   exact⟨fun q=>q.elim id fun q=>absurd (congrArg Prod.fst q.1) e,.inl⟩
 ·refine List.nodup_append.2 ⟨h.nd,?_,fun x hx y hy=>?_⟩
  ·rw[nI]; split<;>simp
  ·have:=(hev y).1 hy
   rintro rfl
   have h2:=((h.mem x).1 hx).2.1
   rw[this.1] at h2
   exact Nat.lt_irrefl _ h2
 ·rcases List.mem_append.1 hx with hx | hx
  ·have hxm:=(h.mem x).1 hx
   by_cases e:x.1=r
   ·rw[e] at hi
    rcases(hqm i).1 hi with h1 | ⟨h1,h2⟩
    ·exact h.upd x hx i (by rw[e]; exact h1) u1 u2 hcl
    ·rw[h1,← e]; exact hxm.2.1
   ·rw[hqo _ e] at hi
    exact h.upd x hx i hi u1 u2 hcl
  ·have:=(hev x).1 hx
   rw[this.1,uB this.2] at u1
   cases u1
 ·refine List.pairwise_append.2 ⟨h.ord,?_,fun x hx y hy hB=>?_⟩
  ·rw[nI]; split<;>simp
  ·obtain⟨rfl,hl⟩:=(hev y).1 hy
   have hxm:=(h.mem x).1 hx
   rcases xI hB with q | q
   ·rw[uB hl] at q
    cases q.2.2.1
   ·rw[MJ hC hd (of_decide_eq_true hl)] at q
    rcases h.real hC hxm.1 (Nat.le_of_lt hxm.2.1) r with q2 | ⟨q2,q3,_⟩
    ·exact absurd q2 (by show¬ _≤_; dsimp only at q; omega)
    ·have:=of_decide_eq_true hl
     omega
 ·rw[List.foldl_append,← h.ab]; exact A.a
theorem IG {q:List Nat} (hq:q.Pairwise (· < ·)) {k i:Nat} (hk:q[k]?=some i) (j:Nat):j∈q.eraseIdx k↔j∈q∧j≠i:=by
 induction q generalizing k with
 | nil=>simp at hk
 | cons a q ih=>
  obtain⟨h1,h2⟩:=List.pairwise_cons.1 hq
  cases k with
  | zero=>
   simp at hk
   subst hk
   rw[List.eraseIdx_zero,List.tail_cons,List.mem_cons]
   exact⟨fun hj=>⟨.inr hj,by have:=h1 j hj; omega⟩,fun hj=>hj.1.resolve_left hj.2⟩
  | succ k=>
   have hk:q[k]?=some i:=by simpa using hk
   have hai:=h1 i (List.mem_of_getElem? hk)
   rw[List.eraseIdx_cons_succ,List.mem_cons,List.mem_cons,ih h2 hk]
   exact⟨fun hj=>hj.elim (fun e=>⟨.inl e,by omega⟩) fun e=>⟨.inr e.1,e.2⟩,fun hj=>hj.1.elim .inl fun e=>.inr ⟨e,hj.2⟩⟩
theorem QX {q:List Nat} (hq:q.Pairwise (· < ·)) {k j i i':Nat} (hk:q[k]?=some i) (hj:q[j]?=some i') (h:i' < i):j < k:=by
 obtain⟨k1,k2⟩:=gEs.1 hk
 obtain⟨j1,j2⟩:=gEs.1 hj
 rcases Nat.lt_trichotomy j k with e | e | e
 ·exact e
 ·subst e; omega
 ·have:=List.pairwise_iff_getElem.1 hq k j k1 j1 e
  omega
theorem lY.take {p:Pg} {ls:List Ln} {s0 s:St} {tr:List Pl} (hC:cF p ls) (h:lY p ls s0 s tr) {r k i:Nat} (hr:r < ls.length) (hk:(qAt s r)[k]?=some i)
  (hf:∀ j' i',j' < k→(qAt s r)[j']?=some i'→(fL p ls r i').1=true→(fL p ls r i).1=true→(fL p ls r i').2≠(fL p ls r i).2):lY p ls s0 (mR p ls s r k i) (tr++[(r,i)]):=by
 have A:=z7 hC h.ok hr hk
 have hok:=h.ok.take hC hr hk
 have hiq:=List.mem_of_getElem? hk
 obtain⟨hid,hrem⟩:=h.ok.qi r hr i hiq
 have hil:i < bH p r:=Nat.lt_of_lt_of_le hid (h.ok.d r hr)
 have h5:1≤(bF p (r,i)).k∧(bF p (r,i)).k≤5:=of_decide_eq_true hrem
 generalize hs':mR p ls s r k i=s' at *
 have hasc:=h.asc r hr
 have hqm:∀ b,b < ls.length→∀ j,j∈qAt s' b↔j∈qAt s b∧(b,j)≠(r,i):=fun b hb j=>by
  rw[A.q]
  by_cases e:b=r
  ·rw[if_pos e,IG hasc hk,e]
   exact and_congr Iff.rfl (not_congr ⟨fun q=>by rw[q],fun q=>congrArg Prod.snd q⟩)
  ·rw[if_neg e]
   exact⟨fun q=>⟨q,fun q2=>e (congrArg Prod.fst q2)⟩,fun q=>q.1⟩
 have hqs:∀ b,∀ j∈qAt s' b,j∈qAt s b:=fun b j hj=>by
  rw[A.q] at hj
  split at hj
  ·rename_i e; rw[e]; exact List.mem_of_mem_eraseIdx hj
  ·exact hj
 have hmono:RE s s':=fun j=>.inl ⟨A.d j,hqs j⟩
 have hnt:(r,i)∉tr:=fun q=>((h.mem _).1 q).2.2.2 hiq
 refine⟨hok,fun b j hb hj y hy=>(h.Q b j hb (by rw[← A.d]; exact hj) y hy).mono hmono,fun b hb=>?_,fun b hb j hj=>by rw[A.d]; exact h.pend b hb j (hqs b j hj),fun x=>?_,?_,fun x hx j hj u1 u2 hcl=>?_,?_,?_⟩
 ·rw[A.q]
  split
  ·exact List.Pairwise.sublist (List.eraseIdx_sublist _ _) hasc
  ·exact h.asc b hb
 ·rw[List.mem_append,h.mem,List.mem_singleton,A.d]
  obtain⟨b,j⟩:=x
  dsimp only
  constructor
  ·rintro(q | q)
   ·exact⟨q.1,q.2.1,q.2.2.1,fun q2=>q.2.2.2 (hqs b j q2)⟩
   ·injection q with q1 q2
    subst q1 q2
    exact⟨hr,hid,dTr (by omega),fun q2=>((hqm _ hr _).1 q2).2 rfl⟩
  ·rintro⟨q1,q2,q3,q4⟩
   by_cases e:(b,j)=(r,i)
   ·exact .inr e
   ·exact .inl ⟨q1,q2,q3,fun q=>q4 ((hqm b q1 j).2 ⟨q,e⟩)⟩
 ·exact List.nodup_append.2 ⟨h.nd,by simp,fun x hx y hy=>by rw[List.mem_singleton.1 hy]; rintro rfl; exact hnt hx⟩
 ·rcases List.mem_append.1 hx with hx | hx
  ·exact h.upd x hx j (hqs _ _ hj) u1 u2 hcl
  ·have e:=List.mem_singleton.1 hx
   subst e
   dsimp only at *
   obtain⟨hjq,hne⟩:=(hqm r hr j).1 hj
   rcases Nat.lt_trichotomy i j with q | q | q
   ·exact q
   ·exact absurd (by rw[q]) hne
   ·obtain⟨m,hml,hmj⟩:=List.getElem_of_mem hjq
    have hm:(qAt s r)[m]?=some j:=by rw[gEg hml,hmj]
    have hjd:=h.ok.qi r hr j hjq
    have hjl:j < bH p r:=Nat.lt_of_lt_of_le hjd.1 (h.ok.d r hr)
    have hj5:1≤(bF p (r,j)).k∧(bF p (r,j)).k≤5:=of_decide_eq_true hjd.2
    obtain⟨a1,a2,_⟩:=vI hC hil (by unfold iL; apply dTr; omega)
    obtain⟨b1,b2,_⟩:=vI hC hjl (by unfold iL; apply dTr; omega)
    refine absurd ?_ (hf m j (QX hasc hk hm q) hm u2 u1)
    show((acN ls (r,j)).r,(acN ls (r,j)).a)=((acN ls (r,i)).r,(acN ls (r,i)).a)
    rw[a1,a2,b1,b2,hcl]
 ·refine List.pairwise_append.2 ⟨h.ord,List.pairwise_singleton _ _,fun x hx y hy hB=>?_⟩
  rw[List.mem_singleton.1 hy] at hB
  have hxm:=(h.mem x).1 hx
  rcases xI hB with⟨q1,q2,q3,q4⟩ | q
  ·dsimp only at q1 q2
   have:=h.upd x hx i (by rw[← q1]; exact hiq) q4 (by rw[← q1]; exact q3) (by rw[← q1]; exact hB.1.symm)
   omega
  ·have hp:=h.pend r hr i hiq
   rcases h.real hC hxm.1 (Nat.le_of_lt hxm.2.1) r with q2 | ⟨q2,_,q4⟩
   ·dsimp only at q; omega
   ·have:=q4 i hiq
    dsimp only at q
    omega
 ·rw[List.foldl_append,← h.ab]; exact A.a
theorem lY.cd {p:Pg} {ls:List Ln} {s0 s:St} {tr:List Pl} (hC:cF p ls) (h:lY p ls s0 s tr) {c:Cd} (hc:c∈cY p ls s) {sd:Nat} (hsd:sd < 18446744073709551616):lY p ls s0 (doP p ls { s with seed:=sd } c) (tr++evs p s c):=by
 have h':lY p ls s0 { s with seed:=sd } tr:=⟨h.ok.sd' hsd,h.Q,h.asc,h.pend,h.mem,h.nd,h.upd,h.ord,h.ab⟩
 rcases qG hc with⟨r,h1,rfl,h2⟩ | ⟨r,k,i,h1,h2,rfl,h3⟩
 ·exact h'.act hC h1 h2
 ·exact h'.take hC h1 h2 h3
theorem GW {p:Pg} {ls:List Ln} (hC:cF p ls) {I:St→List Pl→Prop} (hI:∀ s tr c sd,bJ p ls s→I s tr→c∈cY p ls s→sd < 18446744073709551616→I (doP p ls { s with seed:=sd } c) (tr++evs p s c)):
  ∀(f:Nat) (s:St) (tr:List Pl),bJ p ls s→I s tr→jJ p ls.length s < f→∃ tr',I (uW p ls f s) tr'∧bJ p ls (uW p ls f s)∧cY p ls (uW p ls f s)=[]
 | 0,_,_,_,_,h=>by omega
 | f+1,s,tr,hS,h,hf=>by
  rw[uW]
  cases he:stepS p ls s with
  | none=>
   refine⟨tr,h,hS,?_⟩
   unfold stepS at he
   split at he
   ·assumption
   ·cases he
  | some s'=>
   obtain⟨h1,h2⟩:=hS.stepS hC he
   have:∃ c,c∈cY p ls s∧s'=doP p ls { s with seed:=iK s.seed } c:=by
    unfold stepS at he
    split at he
    ·cases he
    ·rename_i c l hcl
     injection he with he
     refine⟨_,?_,he.symm⟩
     obtain⟨k,hk⟩:∃ x,x=oQ (iK s.seed) (l.length+1):=⟨_,rfl⟩
     have hkl:k < l.length+1:=by rw[hk]; exact Nat.mod_lt _ (by omega)
     rw[← hk,hcl,List.getD_eq_getElem?_getD,gEg (by simpa using hkl)]
     exact List.getElem_mem _
   obtain⟨c,hc,rfl⟩:=this
   exact GW hC hI f _ _ h1 (hI s tr c _ hS h hc (vP _)) (by omega)
theorem N5 {p:Pg} {ls:List Ln} (hC:cF p ls) {I:St→List Pl→Prop} (hI:∀ s tr c sd,bJ p ls s→I s tr→c∈cY p ls s→sd < 18446744073709551616→I (doP p ls { s with seed:=sd } c) (tr++evs p s c))
  {s:St} (hS:bJ p ls s) (h:I s []):∃ tr,I (lM p ls s) tr∧bJ p ls (lM p ls s)∧cY p ls (lM p ls s)=[]:=GW hC hI _ s [] hS h (Nat.lt_succ_self _)
theorem rV (p:Pg) (n seed r:Nat):dAt (st0 p n seed) r=0:=by unfold dAt; rw[kY]; rfl
theorem HG (p:Pg) (n seed r:Nat):qAt (st0 p n seed) r=[]:=by unfold qAt; rw[kY]; rfl
theorem lY.zero {p:Pg} {ls:List Ln} {seed:Nat} (hs:seed < 18446744073709551616):lY p ls (st0 p ls.length seed) (st0 p ls.length seed) []:=by
 refine⟨bJ.st0 hs,fun r i hr hi y hy=>?_,fun r _=>by rw[HG]; exact List.Pairwise.nil,fun r _ i hi=>(by rw[HG] at hi; cases hi),fun x=>⟨fun h=>(by cases h),fun h=>?_⟩,List.nodup_nil,fun x hx=>(by cases hx),List.Pairwise.nil,rfl⟩
 ·rw[rV] at hi
  unfold eS at hy
  rw[if_neg (by omega)] at hy
  cases hy
 ·have:=h.2.1
  rw[rV] at this
  omega
structure tE (p:Pg) (n:Nat) (s:St):Prop where
 k:∀ b,((bL s b).map Prod.fst).Nodup
 m:∀ b e,e∈bL s b→e.1 < n∧(epP p e.1 (dAt s e.1)).l=(b:Int)
theorem vQ {r:Nat} {v:Int}:∀ {l:List (Nat×Int)},(∀ e∈l,e.1≠r)→iS r v l=l++[(r,v)]
 | [],_=>rfl
 | (j,w)::l,h=>by
  rw[iS,if_neg (fun e=>h (j,w) (by simp) e.symm),vQ fun e he=>h e (by simp[he])]
  rfl
theorem zB {r:Nat}:∀ {l:List (Nat×Int)},(l.map Prod.fst).Nodup→∀ e∈jI r l,e∈l∧e.1≠r
 | [],_,e,he=>by cases he
 | (j,w)::l,h,e,he=>by
  rw[List.map_cons] at h
  obtain⟨h1,h2⟩:=List.nodup_cons.1 h
  rw[jI] at he
  split at he
  ·rename_i e1
   exact⟨List.mem_cons_of_mem _ he,fun e2=>h1 (by rw[← e1,← e2]; exact List.mem_map.2 ⟨e,he,rfl⟩)⟩
  ·rename_i e1
   rcases List.mem_cons.1 he with rfl | he
   ·exact⟨List.mem_cons_self,fun e2=>e1 e2.symm⟩
   ·obtain⟨q1,q2⟩:=zB h2 e he
    exact⟨List.mem_cons_of_mem _ q1,q2⟩
theorem zO (r:Nat):∀ l:List (Nat×Int),List.Sublist (jI r l) l
 | []=>List.Sublist.slnil
 | (j,w)::l=>by
  rw[jI]
  split
  ·exact List.sublist_cons_self _ _
  ·exact(zO r l).cons_cons _
theorem tE.act {p:Pg} {ls:List Ln} {s:St} (hC:cF p ls) (hS:bJ p ls s) (h:tE p ls.length s) {r:Nat} (hr:r < ls.length) (hc:kF p ls s r=true):tE p ls.length (jS p ls s r):=by
 have hd:dAt s r < bH p r:=s5 (hS.d r hr) hc
 have A:=BA hC hS hr hd
 obtain⟨k1,k16,hal,hrk⟩:=hC.act hd
 have he:=DH hd
 have hm:=h.m
 generalize jS p ls s r=s' at *
 have hdr:dAt s' r=dAt s r+1:=by rw[A.d,if_pos rfl]
 have hold:∀ j,j≠r→(epP p j (dAt s' j)).l=(epP p j (dAt s j)).l:=fun j hj=>by rw[A.d,if_neg hj]
 have hh:=A.h
 generalize bF p (r,dAt s r)=x at *
 have hlr:(epP p r (dAt s' r)).l=if x.k=13∨x.k=14 then x.r else if x.k=16 then -1 else(epP p r (dAt s r)).l:=by
  rw[hdr,he]
  by_cases h6:6≤x.k
  ·rw[if_pos h6,PY]
   simp only[show(x.k.toNat=13∨x.k.toNat=14)=(x.k=13∨x.k=14) from propext (by omega),show(x.k.toNat=16)=(x.k=16) from propext (by omega)]
  ·rw[if_neg h6,if_neg (by omega),if_neg (by omega)]
 by_cases c1:x.k=13∨x.k=14
 ·have hal:=hal (by unfold cD; apply dFa; omega)
  have hl0:(epP p r (dAt s r)).l < 0:=by
   rcases c1 with e | e<;>(rw[e] at hal; exact of_decide_eq_true (Bool.and_eq_true_iff.1 hal).2)
  have hne:∀ b,∀ e∈bL s b,e.1≠r:=fun b e he q=>by
   have:=(hm b e he).2
   rw[q] at this
   omega
  have hxr:=hrk (by unfold dP; apply dTr; omega)
  refine⟨fun b=>?_,fun b e he=>?_⟩
  ·rw[hh]
   split
   ·rw[vQ (hne b),List.map_append]
    exact List.nodup_append.2 ⟨h.k b,by simp,fun y hy z hz=>by
     obtain⟨e,he,rfl⟩:=List.mem_map.1 hy
     rw[List.map_cons,List.map_nil,List.mem_singleton] at hz
     rw[hz]; exact hne b e he⟩
   ·rw[if_neg (by omega)]; exact h.k b
  ·have hcase:e∈bL s b∨(e=(r,x.k)∧b=x.r.toNat):=by
    rw[hh] at he
    split at he
    ·rename_i q
     rw[vQ (hne b)] at he
     rcases List.mem_append.1 he with he | he
     ·exact .inl he
     ·exact .inr ⟨List.mem_singleton.1 he,q.2⟩
    ·rw[if_neg (by omega)] at he; exact .inl he
   rcases hcase with q | ⟨rfl,q⟩
   ·rw[hold _ (hne b e q)]; exact hm b e q
   ·refine⟨hr,?_⟩
    show(epP p r (dAt s' r)).l=_
    rw[hlr,if_pos c1,q]
    omega
 rw[if_neg c1] at hlr
 by_cases c2:x.k=16
 ·have hal:=hal (by unfold cD; apply dFa; omega)
  have hl0:(epP p r (dAt s r)).l=x.r:=by
   rw[c2] at hal
   exact of_decide_eq_true hal
  have hcase:∀ b,∀ e∈bL s' b,e∈bL s b∧e.1≠r:=fun b e he=>by
   rw[hh,if_neg (fun q=>c1 q.1)] at he
   split at he
   ·exact zB (h.k b) e he
   ·rename_i q
    refine⟨he,fun e1=>q ⟨c2,?_⟩⟩
    have:=(hm b e he).2
    rw[e1,hl0] at this
    omega
  refine⟨fun b=>?_,fun b e he=>?_⟩
  ·rw[hh,if_neg (fun q=>c1 q.1)]
   split
   ·exact List.Pairwise.sublist ((zO r _).map _) (h.k b)
   ·exact h.k b
  ·obtain⟨q1,q2⟩:=hcase b e he
   rw[hold _ q2]; exact hm b e q1
 ·rw[if_neg c2] at hlr
  have hsame:∀ b,bL s' b=bL s b:=fun b=>by rw[hh,if_neg (fun q=>c1 q.1),if_neg (fun q=>c2 q.1)]
  refine⟨fun b=>by rw[hsame]; exact h.k b,fun b e he=>?_⟩
  rw[hsame] at he
  refine⟨(hm b e he).1,?_⟩
  by_cases e1:e.1=r
  ·rw[e1,hlr,← e1]; exact(hm b e he).2
  ·rw[hold _ e1]; exact(hm b e he).2
theorem tE.cd {p:Pg} {ls:List Ln} {s:St} (hC:cF p ls) (hS:bJ p ls s) (h:tE p ls.length s) {c:Cd} (hc:c∈cY p ls s) {sd:Nat} (hsd:sd < 18446744073709551616):tE p ls.length (doP p ls { s with seed:=sd } c):=by
 have h':tE p ls.length { s with seed:=sd }:=⟨h.k,h.m⟩
 rcases qG hc with⟨r,h1,rfl,h2⟩ | ⟨r,k,i,h1,h2,rfl,h3⟩
 ·exact h'.act hC (hS.sd' hsd) h1 h2
 ·have A:=z7 hC (hS.sd' hsd) h1 h2
  show tE p ls.length (mR p ls { s with seed:=sd } r k i)
  refine⟨fun b=>by rw[A.h]; exact h.k b,fun b e he=>?_⟩
  rw[A.h] at he
  rw[A.d]
  exact h.m b e he
theorem tE.zero (p:Pg) (n seed:Nat):tE p n (st0 p n seed):=⟨fun b=>by rw[qX]; exact List.nodup_nil,fun b e he=>by rw[qX] at he; cases he⟩
theorem OL {p:Pg} {ls:List Ln} {s:St} (hC:cF p ls) (hS:bJ p ls s) (h:tE p ls.length s) (hn:cY p ls s=[]) (b:Nat):bL s b=[]:=by
 cases hb:bL s b with
 | nil=>rfl
 | cons e l=>
  exfalso
  obtain⟨h1,h2⟩:=h.m b e (by rw[hb]; simp)
  generalize e.1=r at *
  obtain⟨hc,hq⟩:=tB hn h1
  have hdl:=hS.d r h1
  have hne:dAt s r≠bH p r:=fun q=>by
   have:=hC.ends h1
   rw[← q] at this
   omega
  have hd:dAt s r < bH p r:=by unfold dAt at hne ⊢; omega
  obtain⟨k1,k16,hal,hrk⟩:=hC.act hd
  have ho:=wH hC (r:=r) _ (Nat.le_of_lt hd) (by omega)
  have hpn:=pO hC hd
  unfold kF at hc
  rw[if_neg hne] at hc
  have hcl:jX ls s (r,dAt s r)=true:=o9.2 fun i hi=>by rw[hq] at hi; cases hi
  generalize bF p (r,dAt s r)=x at *
  generalize epP p r (dAt s r)=ep at *
  have hk:x.k≠8∧x.k≠10∧x.k≠12∧x.k≠13∧x.k≠14∧x.k≠11:=by
   refine⟨?_,?_,?_,?_,?_,?_⟩<;>(intro q; have hal:=hal (by unfold cD; apply dFa; omega); rw[q] at hal; have hal:=hal; simp only[alP,Int.toNat,Bool.and_eq_true,decide_eq_true_eq] at hal; omega)
  rw[hpn hk.1 hk.2.1 hk.2.2.1] at hc
  dsimp only[List.length_nil] at hc
  rw[if_neg (by omega)] at hc
  unfold yJ at hc
  rw[if_neg (by omega),if_neg (by omega)] at hc
  split at hc
  ·rw[hcl] at hc
   cases hc
  ·cases hc
set_option linter.unusedVariables false
theorem HT {n k:Nat} {f:Nat→AV} (h:k < n):dT (row1 n f) (k:Int)=some [f k]:=by
 rw[kP,eQ h]
end Go.Proofs.YtkjoolaahocgdaaGreat
