import Derived.Test.YtkjoolaahocgdaaGreatGWiB1
import Derived.Test.YtkjoolaahocgdaaGreatGWiA8
import Derived.Test.YtkjoolaahocgdaaGreatGWiK1
namespace Go.Proofs.YtkjoolaahocgdaaGreat
open Go.Av Go.Proofs
set_option maxRecDepth 20000
theorem B3 {p:Pg} {ls:List Ln} {o:Ord} (h:∀ x y,x.1 < p.acts.length→y.1 < p.acts.length→x.2 < aW p x.1→y.2 < aW p y.1→kPl x < kPl y→gB p ls o x y=false) (hS:SOK p):(iO p ls o).2=[]:=by
 rw[qA]
 have key:∀(L:List Pl) (s:RS),s.2=[]→(∀ y∈s.1,∀ x∈L,gB p ls o y x=false)→L.Pairwise (fun x y=>gB p ls o x y=false)→(L.foldl (fun s x=>g8 p ls o x.1 s x.2) s).2=[]:=by
  intro L
  induction L with
  | nil=>exact fun s h _ _=>h
  | cons a L ih=>
   intro s h1 h2 h3
   obtain⟨q1,q2⟩:=List.pairwise_cons.1 h3
   rw[List.foldl_cons]
   refine ih _ ?_ (fun y hy x hx=>?_) q2
   ·unfold g8
    split
    ·exact h1
    ·show s.2++_=[]
     rw[h1,List.nil_append,List.filter_eq_nil_iff.2 fun y hy=>by rw[show gB p ls o y (a.1,a.2)=false from h2 y hy a (by simp)]; simp]
     rfl
   ·unfold g8 at hy
    split at hy
    ·exact h2 y hy x (by simp[hx])
    ·rcases List.mem_append.1 hy with hy | hy
     ·exact h2 y hy x (by simp[hx])
     ·rw[List.mem_singleton.1 hy]; exact q1 x hx
 refine key _ _ rfl (fun y hy=>by cases hy) ?_
 have:=vL hS p.acts.length
 refine List.Pairwise.imp_of_mem (fun {x y} hx hy hxy=>?_) this
 obtain⟨x1,x2⟩:=mD.1 (show x∈oZ p from hx)
 obtain⟨y1,y2⟩:=mD.1 (show y∈oZ p from hy)
 exact h x y x1 y1 x2 y2 hxy
section
variable {p:Pg} {ls:List Ln}
theorem K4 {c:Nat×Nat}:∀(l:List Pl) (s:Ab),(∀ x∈l,cE ls x=c→exP (bA p x).k=true)→(l.foldl (kG p ls) s).m c.1 c.2=s.m c.1 c.2
 | [],_,_=>rfl
 | a::l,s,h=>by
  rw[List.foldl_cons,K4 l _ fun x hx=>h x (by simp[hx])]
  show(if (c.1,c.2)=cE ls a then _ else _)=_
  split
  ·rename_i e
   have e:cE ls a=c:=e.symm
   rw[nQ (h a (by simp) e),e]
  ·rfl
theorem yP {c:Nat×Nat} {z:Pl} {v:Int} (hz:cE ls z=c) (hk:(bA p z).k=1) (hv:(bA p z).v=v):∀(l:List Pl) (s:Ab),z∈l→l.Nodup→(∀ x∈l,x≠z→cE ls x=c→exP (bA p x).k=true)→(l.foldl (kG p ls) s).m c.1 c.2=v
 | [],_,h,_,_=>by cases h
 | a::l,s,h,hn,ho=>by
  obtain⟨n1,n2⟩:=List.nodup_cons.1 hn
  rw[List.foldl_cons]
  by_cases e:a=z
  ·rw[K4 l _ fun x hx hc=>ho x (by simp[hx]) (fun e2=>n1 (by rw[e,← e2]; exact hx)) hc]
   show(if (c.1,c.2)=cE ls a then eF (bA p a) _ else _)=_
   rw[e,hz,if_pos rfl]
   unfold eF
   rw[if_pos (.inl hk),hv]
  ·rcases List.mem_cons.1 h with h | h
   ·exact absurd h.symm e
   ·exact yP hz hk hv l _ h n2 fun x hx=>ho x (by simp[hx])
theorem xU {x:Pl}:∀(l:List Pl) (s:Ab),x∉l→(l.foldl (kG p ls) s).g x.1 x.2=s.g x.1 x.2
 | [],_,_=>rfl
 | a::l,s,h=>by
  rw[List.foldl_cons,xU l _ fun hx=>h (by simp[hx])]
  show(if fC (bA p a).k=true∧(x.1,x.2)=a then _ else _)=_
  rw[if_neg fun e=>h (by rw[← e.2]; simp)]
theorem RB {x:Pl} {l1 l2:List Pl} {s:Ab} (hx:x∉l2) (hr:fC (bA p x).k=true):((l1++x::l2).foldl (kG p ls) s).g x.1 x.2=some ((l1.foldl (kG p ls) s).m (cE ls x).1 (cE ls x).2):=by
 rw[List.foldl_append,List.foldl_cons,xU l2 _ hx]
 show(if fC (bA p x).k=true∧(x.1,x.2)=x then _ else _)=_
 rw[if_pos ⟨hr,rfl⟩]
structure JY (p:Pg) (ls:List Ln) (s0 s:St) (tr:List Pl):Prop where
 inv:mU p ls s0 s tr
 q:∀ r,r < ls.length→qAt s r=[]
 no:∀ r,r < ls.length→kI p ls s r=false
 held:∀ b,bO s b=[]
theorem E2 (hC:bL p ls) {a:Nat} (ha:a < 18446744073709551616):∃ tr,JY p ls (st0 p ls.length a) (eQ p ls (st0 p ls.length a)) tr:=by
 obtain⟨tr,⟨h1,h2⟩,h3,h4⟩:=uO hC (I:=fun s tr=>mU p ls (st0 p ls.length a) s tr∧pL p ls.length s) (fun s tr c sd hS h hc hsd=>⟨h.1.cd hC hc hsd,h.2.cd hC hS hc hsd⟩) (bF.st0 ha) ⟨mU.zero ha,pL.zero p _ a⟩
 exact⟨tr,h1,fun r hr=>(j3 h4 hr).2,fun r hr=>(j3 h4 hr).1,fun b=>LV hC h3 h2 h4 b⟩
theorem JY.go {s0 s:St} {tr:List Pl} (hC:bL p ls) (h:JY p ls s0 s tr) {r:Nat} (hr:r < ls.length) (hd:dAt s r < aW p r) (h10:(bA p (r,dAt s r)).k≠10) (h12:(bA p (r,dAt s r)).k≠12)
  (h8:(bA p (r,dAt s r)).k=8→(dI p ls r (dAt s r)).2≤(dI p ls r (dAt s r)).1.length∧∀ y∈(dI p ls r (dAt s r)).1,y.2≤dAt s y.1):False:=by
 have hc:=h.no r hr
 have hcl:∀ b,b < ls.length→∀ j,jS ls s (b,j)=true:=fun b hb j=>nN.2 fun i hi=>by rw[h.q b hb] at hi; cases hi
 have hpl:=EE hC.fok hC.len hd
 unfold kI at hc
 rw[if_neg (by omega)] at hc
 have hp:(dI p ls r (dAt s r)).2≤(dI p ls r (dAt s r)).1.length:=by
  by_cases e:(bA p (r,dAt s r)).k=8
  ·exact(h8 e).1
  ·rw[nJ hC hd e h10 h12]; exact Nat.zero_le _
 rw[if_neg (by omega)] at hc
 unfold A1 at hc
 generalize hx:bA p (r,dAt s r)=x at *
 by_cases c1:x.k=13∨x.k=14
 ·rw[if_pos c1] at hc
  unfold FN at hc
  rw[h.held] at hc
  cases hc
 rw[if_neg c1,if_neg (by omega)] at hc
 by_cases c3:x.k=8∨x.k=11∨x.k=15∨x.k=16
 ·rw[if_pos c3,hcl r hr] at hc
  have:((dI p ls r (dAt s r)).1.any fun y=>pS ls s y)=false:=List.any_eq_false.2 fun y hy=>by
   have hyl:=(hpl y hy).1
   have h2:y.2≤dAt s y.1:=by
    by_cases e:x.k=8
    ·exact(h8 e).2 y hy
    ·have:=nJ hC hd (by rw[hx]; exact e) (by rw[hx]; exact h10) (by rw[hx]; exact h12)
     rw[this] at hy
     cases hy
   unfold pS
   rw[show jS ls s y=true from hcl y.1 hyl y.2]
   simp only[Bool.not_true,Bool.and_false,Bool.or_false,decide_eq_true_eq]
   omega
  rw[this] at hc
  cases hc
 ·rw[if_neg c3] at hc
  cases hc
end
theorem KA {p:Pg} {r i:Nat} {l:List Act} {x:Act} {L:Ln} (he:L.e=gQ l i) (h:lF p r l i x):(iX p r l i x L).1=0:=by
 unfold iX
 rw[if_neg (fun q=>q ⟨h.k1,h.k16⟩),if_neg (fun q=>q h.f)]
 by_cases c:cI x.k=true
 ·rw[if_pos c,he,if_pos (h.rem c)]
 ·have c2:cI x.k=false:=by simpa using c
  rw[if_neg c,he,if_neg (by rw[h.al c2]; decide)]
theorem BY {p:Pg} {r:Nat} {l:List Act} (hl:l.length≤100) (ha:∀ i x,l[i]?=some x→lF p r l i x) (eo:(gQ l l.length).o.length=0) (ep:(gQ l l.length).p.length=0) (el:(gQ l l.length).l < 0):(fN p r l).1.2=0:=by
 have key:∀(n i:Nat) (L:Ln),i+n=l.length→z8 r l i L→(mP p r l i (l.drop i) L).1.2=0:=by
  intro n
  induction n with
  | zero=>
   intro i L hi hL
   have:i=l.length:=by omega
   subst this
   rw[List.drop_length,mP,if_neg (by rw[hL.e]; omega)]
  | succ n ih=>
   intro i L hi hL
   have hil:i < l.length:=by omega
   have h0:=KA (p:=p) hL.e (ha i _ (gEg hil))
   obtain⟨_,h2⟩:=CQ (gEg hil) hL h0
   rw[tD hil,if_neg (fun q=>q h0)]
   exact ih (i+1) _ (by omega) h2
 unfold fN
 rw[if_neg (by omega)]
 exact key l.length 0 ln0 (by omega) (.zero r l)
theorem FG {p:Pg} (h1:1≤p.cells) (h2:p.cells≤64) (n1:0 < p.acts.length) (n64:p.acts.length≤64) (h:∀ r l,p.acts[r]?=some l→(fN p r l).1.2=0):(cL p).1.2=0:=by
 have key:∀(n k:Nat) (ls:List Ln),k+n=p.acts.length→(wN p k (p.acts.drop k) ls).1.2=0:=by
  intro n
  induction n with
  | zero=>
   intro k ls hk
   have:k=p.acts.length:=by omega
   subst this
   rw[List.drop_length,wN]
  | succ n ih=>
   intro k ls hk
   have hkl:k < p.acts.length:=by omega
   rw[vM hkl,if_neg (fun q=>q (h k _ (gEg hkl)))]
   exact ih (k+1) _ (by omega)
 unfold cL
 rw[if_neg (by omega),if_neg (by omega)]
 exact key p.acts.length 0 [] (by omega)
theorem zA {α β:Type} {f g:α→Option β}:∀ {l:List α},(∀ x∈l,f x=g x)→l.filterMap f=l.filterMap g
 | [],_=>rfl
 | a::l,h=>by
  rw[List.filterMap_cons,List.filterMap_cons,h a (by simp),zA fun x hx=>h x (by simp[hx])]
def lAt (p:Pg) (r:Nat):List Act:=(p.acts[r]?).getD []
def BG (p:Pg) (r:Nat):List Nat:=gR 8 (lAt p r) (lAt p r).length
def OX (p:Pg) (r k b:Nat):Option Pl:=if b≠r then((BG p b)[k]?).map fun j=>(b,j) else none
section
variable {p:Pg} {ls:List Ln}
theorem RW (hC:bL p ls) {r i:Nat} (hi:i < aW p r) (hk:(bA p (r,i)).k=8):dI p ls r i=((List.range ls.length).filterMap (OX p r (sI i (BG p r))),ls.length - 1):=by
 obtain⟨l,L,x,hr,hL,hO,hx,hap,hlen,hrl⟩:=hC.at hi
 rw[hap] at hk
 have hfe:∀ b M,ls[b]?=some M→M.fe=BG p b:=fun b M hM=>by
  have hbl:=(gEs.1 hM).1
  have hba:=gEg (show b < p.acts.length by rw[← hC.len]; exact hbl)
  have hOb:=hC.ln b _ M hba hM
  rw[hOb.pre.fe]
  unfold BG lAt
  rw[hba]
  rfl
 unfold dI
 rw[hr,hL]
 simp only[hx]
 rw[if_pos hk]
 unfold TE
 rw[hfe r L hL]
 congr 1
 refine zA fun b hb=>?_
 have hbl:=List.mem_range.1 hb
 have hM:=gEg hbl
 unfold xI OX
 rw[hM]
 simp only
 rw[hfe b _ hM]
theorem E5:∀ n r:Nat,((List.range n).countP fun b=>decide (b≠r))=if r < n then n - 1 else n
 | 0,_=>rfl
 | n+1,r=>by
  rw[List.range_succ,List.countP_append,E5 n r]
  by_cases h:n=r
  ·subst h
   rw[if_neg (by omega),if_pos (by omega)]
   simp
  ·have e:List.countP (fun b=>decide (b≠r)) [n]=1:=by simp[h]
   rw[e]
   by_cases h2:r < n
   ·rw[if_pos h2,if_pos (by omega)]; omega
   ·rw[if_neg h2,if_neg (by omega)]
theorem AA (hC:bL p ls) {r i:Nat} (hi:i < aW p r) (hk:(bA p (r,i)).k=8) (F:Nat→Nat) (hF:∀ b,b < ls.length→(BG p b)[sI i (BG p r)]?=some (F b)):
  (dI p ls r i).2≤(dI p ls r i).1.length∧∀ y,y∈(dI p ls r i).1↔y.1 < ls.length∧y.1≠r∧y.2=F y.1:=by
 obtain⟨l,L,x,hr,hL,hO,hx,hap,hlen,hrl⟩:=hC.at hi
 rw[RW hC hi hk]
 refine⟨?_,fun y=>?_⟩
 ·show ls.length - 1≤_
  rw[List.length_filterMap_eq_countP,List.countP_congr (q:=fun b=>decide (b≠r)) fun b hb=>?_,E5,if_pos hrl]
  ·exact Nat.le_refl _
  ·unfold OX
   rw[hF b (List.mem_range.1 hb)]
   split
   ·rename_i e; simp[e]
   ·rename_i e; simp at e; simp[e]
 ·show y∈(List.range ls.length).filterMap _↔_
  rw[List.mem_filterMap]
  constructor
  ·rintro⟨b,hb,h⟩
   have hb:=List.mem_range.1 hb
   unfold OX at h
   rw[hF b hb] at h
   split at h
   ·rename_i e
    simp only[Option.map_some] at h
    injection h with h
    subst h
    exact⟨hb,e,rfl⟩
   ·cases h
  ·rintro⟨h1,h2,h3⟩
   refine⟨y.1,List.mem_range.2 h1,?_⟩
   unfold OX
   rw[if_pos h2,hF y.1 h1]
   simp only[Option.map_some]
   rw[← h3]
end
theorem GE {p:Pg} {ls:List Ln} {x:Pl} (hr:fC (bA p x).k=false):∀(l:List Pl) (s:Ab),(l.foldl (kG p ls) s).g x.1 x.2=s.g x.1 x.2
 | [],_=>rfl
 | a::l,s=>by
  rw[List.foldl_cons,GE hr l]
  show(if fC (bA p a).k=true∧(x.1,x.2)=a then _ else _)=_
  rw[if_neg fun e=>by
   have e2:x=a:=e.2
   rw[← e2,hr] at e
   cases e.1]
theorem QO (p:Pg) (n a r i:Nat):(k7 (st0 p n a)).g r i=none:=by
 show bZ i (aH (st0 p n a) r).g=none
 rw[mO]; rfl
end Go.Proofs.YtkjoolaahocgdaaGreat
