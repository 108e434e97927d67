import Derived.Test.YtkjoolaahocgdaaGreatGWiA8
import Derived.Test.YtkjoolaahocgdaaGreatGWiU6
namespace Go.Proofs.YtkjoolaahocgdaaGreat
open Go.Av Go.Proofs
set_option maxRecDepth 20000
section
variable {p:Pg} {ls:List Ln}
theorem BK {x:Pl}:∀(l:List Pl) (s:Ab),x∉l→(l.foldl (BI p ls) s).g x.1 x.2=s.g x.1 x.2
 | [],_,_=>rfl
 | a::l,s,h=>by
  rw[List.foldl_cons,BK l _ fun hx=>h (by simp[hx])]
  show(if gP (bF p a).k=true∧(x.1,x.2)=a then _ else _)=_
  rw[if_neg fun e=>h (by rw[← e.2]; simp)]
structure N9 (p:Pg) (ls:List Ln) (s0 s:St) (tr:List Pl):Prop where
 inv:lY p ls s0 s tr
 q:∀ r,r < ls.length→qAt s r=[]
 no:∀ r,r < ls.length→kF p ls s r=false
 held:∀ b,bL s b=[]
theorem N9.go {s0 s:St} {tr:List Pl} (hC:cF p ls) (h:N9 p ls s0 s tr) {r:Nat} (hr:r < ls.length) (hd:dAt s r < bH p r) (h10:(bF p (r,dAt s r)).k≠10) (h12:(bF p (r,dAt s r)).k≠12)
  (h8:(bF p (r,dAt s r)).k=8→(d6 p ls r (dAt s r)).2≤(d6 p ls r (dAt s r)).1.length∧∀ y∈(d6 p ls r (dAt s r)).1,y.2≤dAt s y.1):False:=by
 have hc:=h.no r hr
 have hcl:∀ b,b < ls.length→∀ j,jX ls s (b,j)=true:=fun b hb j=>o9.2 fun i hi=>by rw[h.q b hb] at hi; cases hi
 have hpl:=HI hC.fok hC.len hd
 unfold kF at hc
 rw[if_neg (by omega)] at hc
 have hp:(d6 p ls r (dAt s r)).2≤(d6 p ls r (dAt s r)).1.length:=by
  by_cases e:(bF p (r,dAt s r)).k=8
  ·exact(h8 e).1
  ·rw[pO hC hd e h10 h12]; exact Nat.zero_le _
 rw[if_neg (by omega)] at hc
 unfold yJ at hc
 generalize hx:bF p (r,dAt s r)=x at *
 by_cases c1:x.k=13∨x.k=14
 ·rw[if_pos c1] at hc
  unfold D9 at hc
  rw[h.held] at hc
  cases hc
 rw[if_neg c1,if_neg (by omega)] at hc
 by_cases c3:x.k=8∨x.k=11∨x.k=15∨x.k=16
 ·rw[if_pos c3,hcl r hr] at hc
  have:((d6 p ls r (dAt s r)).1.any fun y=>sS ls s y)=false:=List.any_eq_false.2 fun y hy=>by
   have hyl:=(hpl y hy).1
   have h2:y.2≤dAt s y.1:=by
    by_cases e:x.k=8
    ·exact(h8 e).2 y hy
    ·have:=pO hC hd (by rw[hx]; exact e) (by rw[hx]; exact h10) (by rw[hx]; exact h12)
     rw[this] at hy
     cases hy
   unfold sS
   rw[show jX ls s y=true from hcl y.1 hyl y.2]
   simp only[Bool.not_true,Bool.and_false,Bool.or_false,decide_eq_true_eq]
   omega
  rw[this] at hc
  cases hc
 ·rw[if_neg c3] at hc
  cases hc
end
theorem DF {p:Pg} {ls:List Ln} {x:Pl} (hr:gP (bF p x).k=false):∀(l:List Pl) (s:Ab),(l.foldl (BI p ls) s).g x.1 x.2=s.g x.1 x.2
 | [],_=>rfl
 | a::l,s=>by
  rw[List.foldl_cons,DF hr l]
  show(if gP (bF p a).k=true∧(x.1,x.2)=a then _ else _)=_
  rw[if_neg fun e=>by
   have e2:x=a:=e.2
   rw[← e2,hr] at e
   cases e.1]
theorem PU (p:Pg) (n a r i:Nat):(eC (st0 p n a)).g r i=none:=by
 show bT i (aH (st0 p n a) r).g=none
 rw[kY]; rfl
theorem GF {p:Pg} {r i:Nat} {l:List Act} {x:Act} {L:Ln} (he:L.e=dZ l i) (h:kA p r l i x):(hU p r l i x L).1=0:=by
 unfold hU
 rw[if_neg (fun q=>q ⟨h.k1,h.k16⟩),if_neg (fun q=>q h.f)]
 by_cases c:cD x.k=true
 ·rw[if_pos c,he,if_pos (h.rem c)]
 ·have c2:cD x.k=false:=by simpa using c
  rw[if_neg c,he,if_neg (by rw[h.al c2]; decide)]
theorem KC {p:Pg} {r:Nat} {l:List Act} (hl:l.length≤100) (ha:∀ i x,l[i]?=some x→kA p r l i x) (eo:(dZ l l.length).o.length=0) (ep:(dZ l l.length).p.length=0) (el:(dZ l l.length).l < 0):(fJ p r l).1.2=0:=by
 have key:∀(n i:Nat) (L:Ln),i+n=l.length→wJ r l i L→(lD p r l i (l.drop i) L).1.2=0:=by
  intro n
  induction n with
  | zero=>
   intro i L hi hL
   have:i=l.length:=by omega
   subst this
   rw[List.drop_length,lD,if_neg (by rw[hL.e]; omega)]
  | succ n ih=>
   intro i L hi hL
   have hil:i < l.length:=by omega
   have h0:=GF (p:=p) hL.e (ha i _ (gEg hil))
   obtain⟨_,h2⟩:=zK (gEg hil) hL h0
   rw[qP hil,if_neg (fun q=>q h0)]
   exact ih (i+1) _ (by omega) h2
 unfold fJ
 rw[if_neg (by omega)]
 exact key l.length 0 ln0 (by omega) (.zero r l)
theorem KM {p:Pg} (h1:1≤p.cells) (h2:p.cells≤64) (n1:0 < p.acts.length) (n64:p.acts.length≤64) (h:∀ r l,p.acts[r]?=some l→(fJ p r l).1.2=0):(dO p).1.2=0:=by
 have key:∀(n k:Nat) (ls:List Ln),k+n=p.acts.length→(s8 p k (p.acts.drop k) ls).1.2=0:=by
  intro n
  induction n with
  | zero=>
   intro k ls hk
   have:k=p.acts.length:=by omega
   subst this
   rw[List.drop_length,s8]
  | succ n ih=>
   intro k ls hk
   have hkl:k < p.acts.length:=by omega
   rw[tJ hkl,if_neg (fun q=>q (h k _ (gEg hkl)))]
   exact ih (k+1) _ (by omega)
 unfold dO
 rw[if_neg (by omega),if_neg (by omega)]
 exact key p.acts.length 0 [] (by omega)
section
variable {p:Pg} {ls:List Ln}
end
end Go.Proofs.YtkjoolaahocgdaaGreat
