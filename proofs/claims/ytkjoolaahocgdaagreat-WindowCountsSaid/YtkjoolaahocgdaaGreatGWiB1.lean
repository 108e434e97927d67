import Derived.Test.YtkjoolaahocgdaaGreatGWiA6
import Derived.Test.YtkjoolaahocgdaaGreatGWiU6
namespace Go.Proofs.YtkjoolaahocgdaaGreat
open Go.Av Go.Proofs
set_option maxRecDepth 20000
theorem vE {σ β:Type} {f:σ→β→σ} {flag:σ→Bool} {G:σ→β→Prop}:∀(l:List β) (s:σ),(∀ s b,b∈l→flag (f s b)=false→f s b=s∧G s b)→flag (l.foldl f s)=false→l.foldl f s=s∧∀ b∈l,G s b
 | [],_,_,_=>⟨rfl,fun _ h=>by cases h⟩
 | b::l,s,h,hf=>by
  rw[List.foldl_cons] at hf ⊢
  obtain⟨h1,h2⟩:=vE l (f s b) (fun s c hc=>h s c (by simp[hc])) hf
  rw[h1] at hf
  obtain⟨h3,h4⟩:=h s b (by simp) hf
  rw[h1]
  rw[h3] at h2
  refine⟨h3,fun c hc=>?_⟩
  rcases List.mem_cons.1 hc with e | hc
  ·rw[e]; exact h4
  ·exact h2 c hc
def UH (n:Nat) (p:Pg) (ls:List Ln) (o:Ord):Prop:=∀ r i,r < n→i≤aW p r→newK n p ls o r i=bJ o r i
theorem FE {α:Type} (l:List α) (i:Nat) (d:α):l.set i (l.getD i d)=l:=by
 apply List.ext_getElem?
 intro j
 rw[List.getElem?_set]
 split
 ·rename_i h
  subst h
  split
  ·rename_i h
   rw[List.getD_eq_getElem?_getD,gEg h]
   rfl
  ·rw[List.getElem?_eq_none (by omega)]
 ·rfl
theorem MN (o:Ord) (r i:Nat):qB o r i (bJ o r i)=o:=by
 unfold qB bJ
 rw[FE]
 exact FE o r []
theorem HX {n:Nat} {p:Pg} {ls:List Ln} {s:Bool×Ord} {r i:Nat} (h:(iF n p ls r s i).1=false):iF n p ls r s i=s∧newK n p ls s.2 r i=bJ s.2 r i:=by
 obtain⟨f,o⟩:=s
 unfold iF at h ⊢
 dsimp only at h ⊢
 obtain⟨h1,h2⟩:=Bool.or_eq_false_iff.1 h
 have h3:newK n p ls o r i=bJ o r i:=by simpa using h2
 rw[h3,MN,h1]
 exact⟨by simp,rfl⟩
theorem MP {n:Nat} {p:Pg} {ls:List Ln} {o:Ord} (h:(iT n p ls o).1=false):(iT n p ls o).2=o∧UH n p ls o:=by
 have hrow:∀(s:Bool×Ord) r,(gS n p ls s r).1=false→gS n p ls s r=s∧∀ i,i≤aW p r→newK n p ls s.2 r i=bJ s.2 r i:=fun s r hf=>by
  obtain⟨h1,h2⟩:=vE (f:=iF n p ls r) (flag:=Prod.fst) (G:=fun s i=>newK n p ls s.2 r i=bJ s.2 r i) (List.range (aW p r+1)) s (fun s i _ hs=>HX hs) hf
  exact⟨h1,fun i hi=>h2 i (List.mem_range.2 (by omega))⟩
 obtain⟨h1,h2⟩:=vE (f:=gS n p ls) (flag:=Prod.fst) (G:=fun s r=>∀ i,i≤aW p r→newK n p ls s.2 r i=bJ s.2 r i) (List.range n) (false,o) (fun s r _ hs=>hrow s r hs) h
 exact⟨congrArg Prod.snd h1,fun r i hr hi=>h2 r (List.mem_range.2 hr) i hi⟩
theorem CW {n:Nat} {p:Pg} {ls:List Ln} (hF:FOK p ls) (hS:SOK p):∀(f:Nat) (o:Ord),OOK p n o→n * 646400 < nK o+f→UH n p ls (pH n p ls f o)
 | 0,o,h,hf=>by
  have:=KV hS h
  omega
 | f+1,o,h,hf=>by
  have hp:=wM.pass (ls:=ls) hF h
  unfold pH
  split
  ·rename_i h1
   have:=hp.gt h1
   exact CW hF hS f _ hp.ok (by omega)
  ·rename_i h1
   obtain⟨h2,h3⟩:=MP (by simpa using h1)
   rw[h2]; exact h3
def LEk (a b:List Nat):Prop:=∀ c,a.getD c 0≤b.getD c 0
theorem LEk.refl (a:List Nat):LEk a a:=fun _=>Nat.le_refl _
theorem LEk.trans {a b c:List Nat} (h1:LEk a b) (h2:LEk b c):LEk a c:=fun i=>Nat.le_trans (h1 i) (h2 i)
theorem LEk.max1 {a b:List Nat} (h:a.length=b.length):LEk a (gF a b):=fun c=>by rw[qZ h]; exact Nat.le_max_left _ _
theorem LEk.max2 {a b:List Nat} (h:a.length=b.length):LEk b (gF a b):=fun c=>by rw[qZ h]; exact Nat.le_max_right _ _
theorem EH {β:Type} {f:List Nat→β→List Nat} {I:List Nat→Prop}:∀(l:List β) (k:List Nat),I k→(∀ k b,b∈l→I k→I (f k b)∧LEk k (f k b))→I (l.foldl f k)∧LEk k (l.foldl f k)∧∀ b∈l,∃ k',I k'∧LEk k k'∧LEk k' (l.foldl f k)∧LEk (f k' b) (l.foldl f k)
 | [],k,h,_=>⟨h,.refl k,fun _ h=>by cases h⟩
 | b::l,k,h,hf=>by
  rw[List.foldl_cons]
  obtain⟨q1,q2⟩:=hf k b (by simp) h
  obtain⟨h1,h2,h3⟩:=EH l (f k b) q1 fun k c hc=>hf k c (by simp[hc])
  refine⟨h1,q2.trans h2,fun c hc=>?_⟩
  rcases List.mem_cons.1 hc with e | hc
  ·rw[e]; exact⟨k,h,.refl k,q2.trans h2,h2⟩
  ·obtain⟨k',a1,a2,a3,a4⟩:=h3 c hc
   exact⟨k',a1,q2.trans a2,a3,a4⟩
theorem K3 {k:List Nat} {x:Pl} (hx:x.1 < k.length):LEk k (qD k x)∧x.2+1≤(qD k x).getD x.1 0:=by
 unfold qD
 refine⟨fun c=>?_,?_⟩
 ·rw[mA hx]
  split
  ·rename_i e; rw[← e]; exact Nat.le_max_left _ _
  ·exact Nat.le_refl _
 ·rw[mA hx,if_pos rfl]; exact Nat.le_max_right _ _
theorem FR {p:Pg} {n:Nat} {o:Ord} (ho:OOK p n o) {k:List Nat} (hk:KOK p k) {b:Nat} (hb:b < n):LEk k (mL o k b)∧(0 < k.getD b 0→LEk (bJ o b (k.getD b 0 - 1)) (mL o k b)):=by
 have hl:k.length=(bJ o b (k.getD b 0 - 1)).length:=hk.1.trans (ho.k hb (by have:=hk.2 b; omega)).1.symm
 unfold mL
 by_cases h:0 < k.getD b 0
 ·rw[if_pos h]; exact⟨.max1 hl,fun _=>.max2 hl⟩
 ·rw[if_neg h]; exact⟨.refl k,fun h2=>absurd h2 h⟩
structure Fixed (p:Pg) (ls:List Ln) (o:Ord):Prop where
 ok:OOK p ls.length o
 own:∀ r i,r < ls.length→i≤aW p r→i≤(bJ o r i).getD r 0
 fst:∀ r i y,r < ls.length→i≤aW p r→y∈dQ p ls r i→y.2+1≤(bJ o r i).getD y.1 0
 join:∀ r i b c,r < ls.length→i≤aW p r→b < ls.length→0 < (bJ o r i).getD b 0→(bJ o b ((bJ o r i).getD b 0 - 1)).getD c 0≤(bJ o r i).getD c 0
theorem OY {n:Nat} {p:Pg} {ls:List Ln} (hF:FOK p ls):∀(f:Nat) (o:Ord),OOK p n o→(∀ r i,r < n→i≤aW p r→i≤(bJ o r i).getD r 0)→∀ r i,r < n→i≤aW p r→i≤(bJ (pH n p ls f o) r i).getD r 0
 | 0,_,_,h=>h
 | f+1,o,ho,h=>by
  have hp:OOK p n (iT n p ls o).2∧∀ r i,r < n→i≤aW p r→i≤(bJ (iT n p ls o).2 r i).getD r 0:=
   dZ (I:=fun s:Bool×Ord=>OOK p n s.2∧∀ r i,r < n→i≤aW p r→i≤(bJ s.2 r i).getD r 0) ⟨ho,h⟩ fun _ r hr h=>dZ (I:=fun s:Bool×Ord=>OOK p n s.2∧∀ r i,r < n→i≤aW p r→i≤(bJ s.2 r i).getD r 0) h fun s i hi h=>by
    have hr:=List.mem_range.1 hr
    have hi:i≤aW p r:=by have:=List.mem_range.1 hi; omega
    refine⟨h.1.step hF hr hi,fun b j hb hj=>?_⟩
    show j≤(bJ (qB s.2 r i (newK n p ls s.2 r i)) b j).getD b 0
    rw[uK (by rw[h.1.len]; exact hr) (by rw[h.1.rows r hr]; omega)]
    split
    ·rename_i e
     rw[e.1,e.2]
     have hl:(bJ s.2 r i).length=(kC n p ls s.2 r i).length:=(h.1.row r i hr hi).trans (KOK.kC hF h.1 hr hi).1.symm
     exact Nat.le_trans (h.2 r i hr hi) (LEk.max1 hl r)
    ·exact h.2 b j hb hj
  unfold pH
  split
  ·exact OY hF f _ hp.1 hp.2
  ·exact hp.2
theorem n9 {p:Pg} {ls:List Ln} (hC:bL p ls):Fixed p ls (eE ls.length p ls):=by
 have hF:FOK p ls:=hC.fok
 have hn:ls.length≤64:=by have:=hC.n64; have:=hC.len; omega
 have hS:=x7 p hn
 have hfix:UH ls.length p ls (eE ls.length p ls):=CW hF hC.sok _ _ hS (by omega)
 have hok:OOK p ls.length (eE ls.length p ls):=EF p ls hC
 have hown:∀ r i,r < ls.length→i≤aW p r→i≤(bJ (eE ls.length p ls) r i).getD r 0:=OY hF _ _ hS fun r i hr hi=>by
  rw[GF hr hi,mA (by rw[DH]; omega),if_pos rfl]
  exact Nat.le_refl _
 generalize eE ls.length p ls=o at *
 have key:∀ r i,r < ls.length→i≤aW p r→(∀ y∈dQ p ls r i,y.2+1≤(bJ o r i).getD y.1 0)∧∀ b c,b < ls.length→0 < (bJ o r i).getD b 0→(bJ o b ((bJ o r i).getD b 0 - 1)).getD c 0≤(bJ o r i).getD c 0:=fun r i hr hi=>by
  obtain⟨b1,b2,b3⟩:=EH (f:=qD) (I:=KOK p) (dQ p ls r i) (bJ o r i) (hok.k hr hi) fun k x hx hk=>⟨hk.fst (hF.m r i x hx).1 (hF.m r i x hx).2,(K3 (by rw[hk.1]; exact(hF.m r i x hx).1)).1⟩
  obtain⟨c1,c2,c3⟩:=EH (f:=mL o) (I:=KOK p) (List.range ls.length) (kB p ls o r i) b1 fun k b hb hk=>⟨hk.join hok (List.mem_range.1 hb),(FR hok hk (List.mem_range.1 hb)).1⟩
  have hl:(bJ o r i).length=(kC ls.length p ls o r i).length:=(hok.row r i hr hi).trans c1.1.symm
  have hle:LEk (kC ls.length p ls o r i) (bJ o r i):=by
   have:=LEk.max2 hl
   rw[show gF (bJ o r i) (kC ls.length p ls o r i)=bJ o r i from hfix r i hr hi] at this
   exact this
  refine⟨fun y hy=>?_,fun b c hb h0=>?_⟩
  ·obtain⟨k',a1,a2,a3,a4⟩:=b3 y hy
   exact Nat.le_trans (K3 (by rw[a1.1]; exact(hF.m r i y hy).1)).2 ((a4.trans (c2.trans hle)) y.1)
  ·obtain⟨k',a1,a2,a3,a4⟩:=c3 b (List.mem_range.2 hb)
   have e:k'.getD b 0=(bJ o r i).getD b 0:=Nat.le_antisymm ((a3.trans hle) b) ((b2.trans a2) b)
   have:=(FR hok a1 hb).2 (by omega)
   rw[e] at this
   exact(this.trans (a4.trans hle)) c
 exact⟨hok,hown,fun r i y hr hi hy=>(key r i hr hi).1 y hy,fun r i b c hr hi hb h0=>(key r i hr hi).2 b c hb h0⟩
end Go.Proofs.YtkjoolaahocgdaaGreat
