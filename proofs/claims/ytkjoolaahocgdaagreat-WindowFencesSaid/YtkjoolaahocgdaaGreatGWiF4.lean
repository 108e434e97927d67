import Derived.Test.YtkjoolaahocgdaaGreatGWiB1
import Derived.Test.YtkjoolaahocgdaaGreatGWiA8
import Derived.Test.YtkjoolaahocgdaaGreatGWiK1
namespace Go.Proofs.YtkjoolaahocgdaaGreat
open Go.Av Go.Proofs
set_option maxRecDepth 20000
theorem B3 {p:Pg} {ls:List Ln} {o:Ord} (h:∀ x y,x.1 < p.acts.length→y.1 < p.acts.length→x.2 < aW p x.1→y.2 < aW p y.1→kPl x < kPl y→gB p ls o x y=false) (hS:SOK p):(iO p ls o).2=[]:=by
 rw[qA]
 have key:∀(L:List Pl) (s:RS),s.2=[]→(∀ y∈s.1,∀ x∈L,gB p ls o y x=false)→L.Pairwise (fun x y=>gB p ls o x y=false)→(L.foldl (fun s x=>g8 p ls o x.1 s x.2) s).2=[]:=by
  intro L
  induction L with
  | nil=>exact fun s h _ _=>h
  | cons a L ih=>
   intro s h1 h2 h3
   obtain⟨q1,q2⟩:=List.pairwise_cons.1 h3
   rw[List.foldl_cons]
   refine ih _ ?_ (fun y hy x hx=>?_) q2
   ·unfold g8
    split
    ·exact h1
    ·show s.2++_=[]
     rw[h1,List.nil_append,List.filter_eq_nil_iff.2 fun y hy=>by rw[show gB p ls o y (a.1,a.2)=false from h2 y hy a (by simp)]; simp]
     rfl
   ·unfold g8 at hy
    split at hy
    ·exact h2 y hy x (by simp[hx])
    ·rcases List.mem_append.1 hy with hy | hy
     ·exact h2 y hy x (by simp[hx])
     ·rw[List.mem_singleton.1 hy]; exact q1 x hx
 refine key _ _ rfl (fun y hy=>by cases hy) ?_
 have:=vL hS p.acts.length
 refine List.Pairwise.imp_of_mem (fun {x y} hx hy hxy=>?_) this
 obtain⟨x1,x2⟩:=mD.1 (show x∈oZ p from hx)
 obtain⟨y1,y2⟩:=mD.1 (show y∈oZ p from hy)
 exact h x y x1 y1 x2 y2 hxy
section
variable {p:Pg} {ls:List Ln}
theorem K4 {c:Nat×Nat}:∀(l:List Pl) (s:Ab),(∀ x∈l,cE ls x=c→exP (bA p x).k=true)→(l.foldl (kG p ls) s).m c.1 c.2=s.m c.1 c.2
 | [],_,_=>rfl
 | a::l,s,h=>by
  rw[List.foldl_cons,K4 l _ fun x hx=>h x (by simp[hx])]
  show(if (c.1,c.2)=cE ls a then _ else _)=_
  split
  ·rename_i e
   have e:cE ls a=c:=e.symm
   rw[nQ (h a (by simp) e),e]
  ·rfl
theorem yP {c:Nat×Nat} {z:Pl} {v:Int} (hz:cE ls z=c) (hk:(bA p z).k=1) (hv:(bA p z).v=v):∀(l:List Pl) (s:Ab),z∈l→l.Nodup→(∀ x∈l,x≠z→cE ls x=c→exP (bA p x).k=true)→(l.foldl (kG p ls) s).m c.1 c.2=v
 | [],_,h,_,_=>by cases h
 | a::l,s,h,hn,ho=>by
  obtain⟨n1,n2⟩:=List.nodup_cons.1 hn
  rw[List.foldl_cons]
  by_cases e:a=z
  ·rw[K4 l _ fun x hx hc=>ho x (by simp[hx]) (fun e2=>n1 (by rw[e,← e2]; exact hx)) hc]
   show(if (c.1,c.2)=cE ls a then eF (bA p a) _ else _)=_
   rw[e,hz,if_pos rfl]
   unfold eF
   rw[if_pos (.inl hk),hv]
  ·rcases List.mem_cons.1 h with h | h
   ·exact absurd h.symm e
   ·exact yP hz hk hv l _ h n2 fun x hx=>ho x (by simp[hx])
theorem xU {x:Pl}:∀(l:List Pl) (s:Ab),x∉l→(l.foldl (kG p ls) s).g x.1 x.2=s.g x.1 x.2
 | [],_,_=>rfl
 | a::l,s,h=>by
  rw[List.foldl_cons,xU l _ fun hx=>h (by simp[hx])]
  show(if fC (bA p a).k=true∧(x.1,x.2)=a then _ else _)=_
  rw[if_neg fun e=>h (by rw[← e.2]; simp)]
theorem RB {x:Pl} {l1 l2:List Pl} {s:Ab} (hx:x∉l2) (hr:fC (bA p x).k=true):((l1++x::l2).foldl (kG p ls) s).g x.1 x.2=some ((l1.foldl (kG p ls) s).m (cE ls x).1 (cE ls x).2):=by
 rw[List.foldl_append,List.foldl_cons,xU l2 _ hx]
 show(if fC (bA p x).k=true∧(x.1,x.2)=x then _ else _)=_
 rw[if_pos ⟨hr,rfl⟩]
structure JY (p:Pg) (ls:List Ln) (s0 s:St) (tr:List Pl):Prop where
 inv:mU p ls s0 s tr
 q:∀ r,r < ls.length→qAt s r=[]
 no:∀ r,r < ls.length→kI p ls s r=false
 held:∀ b,bO s b=[]
theorem E2 (hC:bL p ls) {a:Nat} (ha:a < 18446744073709551616):∃ tr,JY p ls (st0 p ls.length a) (eQ p ls (st0 p ls.length a)) tr:=by
 obtain⟨tr,⟨h1,h2⟩,h3,h4⟩:=uO hC (I:=fun s tr=>mU p ls (st0 p ls.length a) s tr∧pL p ls.length s) (fun s tr c sd hS h hc hsd=>⟨h.1.cd hC hc hsd,h.2.cd hC hS hc hsd⟩) (bF.st0 ha) ⟨mU.zero ha,pL.zero p _ a⟩
 exact⟨tr,h1,fun r hr=>(j3 h4 hr).2,fun r hr=>(j3 h4 hr).1,fun b=>LV hC h3 h2 h4 b⟩
theorem JY.go {s0 s:St} {tr:List Pl} (hC:bL p ls) (h:JY p ls s0 s tr) {r:Nat} (hr:r < ls.length) (hd:dAt s r < aW p r) (h10:(bA p (r,dAt s r)).k≠10) (h12:(bA p (r,dAt s r)).k≠12)
  (h8:(bA p (r,dAt s r)).k=8→(dI p ls r (dAt s r)).2≤(dI p ls r (dAt s r)).1.length∧∀ y∈(dI p ls r (dAt s r)).1,y.2≤dAt s y.1):False:=by
 have hc:=h.no r hr
 have hcl:∀ b,b < ls.length→∀ j,jS ls s (b,j)=true:=fun b hb j=>nN.2 fun i hi=>by rw[h.q b hb] at hi; cases hi
 have hpl:=EE hC.fok hC.len hd
 unfold kI at hc
 rw[if_neg (by omega)] at hc
 have hp:(dI p ls r (dAt s r)).2≤(dI p ls r (dAt s r)).1.length:=by
  by_cases e:(bA p (r,dAt s r)).k=8
  ·exact(h8 e).1
  ·rw[nJ hC hd e h10 h12]; exact Nat.zero_le _
 rw[if_neg (by omega)] at hc
 unfold A1 at hc
 generalize hx:bA p (r,dAt s r)=x at *
 by_cases c1:x.k=13∨x.k=14
 ·rw[if_pos c1] at hc
  unfold FN at hc
  rw[h.held] at hc
  cases hc
 rw[if_neg c1,if_neg (by omega)] at hc
 by_cases c3:x.k=8∨x.k=11∨x.k=15∨x.k=16
 ·rw[if_pos c3,hcl r hr] at hc
  have:((dI p ls r (dAt s r)).1.any fun y=>pS ls s y)=false:=List.any_eq_false.2 fun y hy=>by
   have hyl:=(hpl y hy).1
   have h2:y.2≤dAt s y.1:=by
    by_cases e:x.k=8
    ·exact(h8 e).2 y hy
    ·have:=nJ hC hd (by rw[hx]; exact e) (by rw[hx]; exact h10) (by rw[hx]; exact h12)
     rw[this] at hy
     cases hy
   unfold pS
   rw[show jS ls s y=true from hcl y.1 hyl y.2]
   simp only[Bool.not_true,Bool.and_false,Bool.or_false,decide_eq_true_eq]
   omega
  rw[this] at hc
  cases hc
 ·rw[if_neg c3] at hc
  cases hc
end
theorem KA {p:Pg} {r i:Nat} {l:List Act} {x:Act} {L:Ln} (he:L.e=gQ l i) (h:lF p r l i x):(iX p r l i x L).1=0:=by
 unfold iX
 rw[if_neg (fun q=>q ⟨h.k1,h.k16⟩),if_neg (fun q=>q h.f)]
 by_cases c:cI x.k=true
 ·rw[if_pos c,he,if_pos (h.rem c)]
 ·have c2:cI x.k=false:=by simpa using c
  rw[if_neg c,he,if_neg (by rw[h.al c2]; decide)]
theorem BY {p:Pg} {r:Nat} {l:List Act} (hl:l.length≤100) (ha:∀ i x,l[i]?=some x→lF p r l i x) (eo:(gQ l l.length).o.length=0) (ep:(gQ l l.length).p.length=0) (el:(gQ l l.length).l < 0):(fN p r l).1.2=0:=by
 have key:∀(n i:Nat) (L:Ln),i+n=l.length→z8 r l i L→(mP p r l i (l.drop i) L).1.2=0:=by
  intro n
  induction n with
  | zero=>
   intro i L hi hL
   have:i=l.length:=by omega
   subst this
   rw[List.drop_length,mP,if_neg (by rw[hL.e]; omega)]
  | succ n ih=>
   intro i L hi hL
   have hil:i < l.length:=by omega
   have h0:=KA (p:=p) hL.e (ha i _ (gEg hil))
   obtain⟨_,h2⟩:=CQ (gEg hil) hL h0
   rw[tD hil,if_neg (fun q=>q h0)]
   exact ih (i+1) _ (by omega) h2
 unfold fN
 rw[if_neg (by omega)]
 exact key l.length 0 ln0 (by omega) (.zero r l)
theorem FG {p:Pg} (h1:1≤p.cells) (h2:p.cells≤64) (n1:0 < p.acts.length) (n64:p.acts.length≤64) (h:∀ r l,p.acts[r]?=some l→(fN p r l).1.2=0):(cL p).1.2=0:=by
 have key:∀(n k:Nat) (ls:List Ln),k+n=p.acts.length→(wN p k (p.acts.drop k) ls).1.2=0:=by
  intro n
  induction n with
  | zero=>
   intro k ls hk
   have:k=p.acts.length:=by omega
   subst this
   rw[List.drop_length,wN]
  | succ n ih=>
   intro k ls hk
   have hkl:k < p.acts.length:=by omega
   rw[vM hkl,if_neg (fun q=>q (h k _ (gEg hkl)))]
   exact ih (k+1) _ (by omega)
 unfold cL
 rw[if_neg (by omega),if_neg (by omega)]
 exact key p.acts.length 0 [] (by omega)
theorem zA {α β:Type} {f g:α→Option β}:∀ {l:List α},(∀ x∈l,f x=g x)→l.filterMap f=l.filterMap g
 | [],_=>rfl
 | a::l,h=>by
  rw[List.filterMap_cons,List.filterMap_cons,h a (by simp),zA fun x hx=>h x (by simp[hx])]
def lAt (p:Pg) (r:Nat):List Act:=(p.acts[r]?).getD []
def BG (p:Pg) (r:Nat):List Nat:=gR 8 (lAt p r) (lAt p r).length
def OX (p:Pg) (r k b:Nat):Option Pl:=if b≠r then((BG p b)[k]?).map fun j=>(b,j) else none
section
variable {p:Pg} {ls:List Ln}
theorem RW (hC:bL p ls) {r i:Nat} (hi:i < aW p r) (hk:(bA p (r,i)).k=8):dI p ls r i=((List.range ls.length).filterMap (OX p r (sI i (BG p r))),ls.length - 1):=by
 obtain⟨l,L,x,hr,hL,hO,hx,hap,hlen,hrl⟩:=hC.at hi
 rw[hap] at hk
 have hfe:∀ b M,ls[b]?=some M→M.fe=BG p b:=fun b M hM=>by
  have hbl:=(gEs.1 hM).1
  have hba:=gEg (show b < p.acts.length by rw[← hC.len]; exact hbl)
  have hOb:=hC.ln b _ M hba hM
  rw[hOb.pre.fe]
  unfold BG lAt
  rw[hba]
  rfl
 unfold dI
 rw[hr,hL]
 simp only[hx]
 rw[if_pos hk]
 unfold TE
 rw[hfe r L hL]
 congr 1
 refine zA fun b hb=>?_
 have hbl:=List.mem_range.1 hb
 have hM:=gEg hbl
 unfold xI OX
 rw[hM]
 simp only
 rw[hfe b _ hM]
theorem E5:∀ n r:Nat,((List.range n).countP fun b=>decide (b≠r))=if r < n then n - 1 else n
 | 0,_=>rfl
 | n+1,r=>by
  rw[List.range_succ,List.countP_append,E5 n r]
  by_cases h:n=r
  ·subst h
   rw[if_neg (by omega),if_pos (by omega)]
   simp
  ·have e:List.countP (fun b=>decide (b≠r)) [n]=1:=by simp[h]
   rw[e]
   by_cases h2:r < n
   ·rw[if_pos h2,if_pos (by omega)]; omega
   ·rw[if_neg h2,if_neg (by omega)]
theorem AA (hC:bL p ls) {r i:Nat} (hi:i < aW p r) (hk:(bA p (r,i)).k=8) (F:Nat→Nat) (hF:∀ b,b < ls.length→(BG p b)[sI i (BG p r)]?=some (F b)):
  (dI p ls r i).2≤(dI p ls r i).1.length∧∀ y,y∈(dI p ls r i).1↔y.1 < ls.length∧y.1≠r∧y.2=F y.1:=by
 obtain⟨l,L,x,hr,hL,hO,hx,hap,hlen,hrl⟩:=hC.at hi
 rw[RW hC hi hk]
 refine⟨?_,fun y=>?_⟩
 ·show ls.length - 1≤_
  rw[List.length_filterMap_eq_countP,List.countP_congr (q:=fun b=>decide (b≠r)) fun b hb=>?_,E5,if_pos hrl]
  ·exact Nat.le_refl _
  ·unfold OX
   rw[hF b (List.mem_range.1 hb)]
   split
   ·rename_i e; simp[e]
   ·rename_i e; simp at e; simp[e]
 ·show y∈(List.range ls.length).filterMap _↔_
  rw[List.mem_filterMap]
  constructor
  ·rintro⟨b,hb,h⟩
   have hb:=List.mem_range.1 hb
   unfold OX at h
   rw[hF b hb] at h
   split at h
   ·rename_i e
    simp only[Option.map_some] at h
    injection h with h
    subst h
    exact⟨hb,e,rfl⟩
   ·cases h
  ·rintro⟨h1,h2,h3⟩
   refine⟨y.1,List.mem_range.2 h1,?_⟩
   unfold OX
   rw[if_pos h2,hF y.1 h1]
   simp only[Option.map_some]
   rw[← h3]
end
def BB (n b:Nat) (v:Int) (r:Nat):List Act:=[aF,⟨1,((r+b) % n:Nat),0,0,v,0,[]⟩,aF,aL,⟨2,((r+1) % n:Nat),0,0,0,0,[]⟩,aF]
def dF (vals:List Int) (b:Nat):Pg:=⟨1,(List.range vals.length).map fun r=>BB vals.length b (vals.getD r 0) r⟩
section
variable {vals:List Int} {b:Nat}
theorem eL:(dF vals b).acts.length=vals.length:=by simp[dF]
theorem qK {r:Nat} (h:r < vals.length):(dF vals b).acts[r]?=some (BB vals.length b (vals.getD r 0) r):=by simp[dF,h]
theorem fX {r:Nat} (h:r < vals.length):aW (dF vals b) r=6:=by rw[c8 (qK h)]; rfl
theorem S1 {p:Pg} {n r c:Nat} {v:Int} (hp:p.cells=1) (hn:p.acts.length=n) (h0:0 < n):∀ i x,(BB n c v r)[i]?=some x→lF p r (BB n c v r) i x:=by
 have m1:=Nat.mod_lt (r+c) h0
 have m2:=Nat.mod_lt (r+1) h0
 have hf:∀ x:Act,0≤x.r→x.r < n→x.a=0→mN x.k=false→k8 x.k=false→jD p r x=0:=fun x h1 h2 h3 h4 h5=>by
  unfold jD iL
  rw[h4,h5,if_neg (by omega),if_neg (by rw[h3,hp]; omega)]
  rfl
 intro i x hx
 match i,hx with
 | 0,hx=>cases hx; exact⟨(by decide:(1:Int)≤8),(by decide:(8:Int)≤16),hf _ (by decide:(0:Int)≤0) (by show(0:Int) < n; omega) rfl rfl rfl,fun e=>(by cases e),fun _=>rfl⟩
 | 1,hx=>cases hx; exact⟨(by decide:(1:Int)≤1),(by decide:(1:Int)≤16),hf _ (by show(0:Int)≤((r+c) % n:Nat); omega) (by show(((r+c) % n:Nat):Int) < n; omega) rfl rfl rfl,fun _=>rfl,fun e=>(by cases e)⟩
 | 2,hx=>cases hx; exact⟨(by decide:(1:Int)≤8),(by decide:(8:Int)≤16),hf _ (by decide:(0:Int)≤0) (by show(0:Int) < n; omega) rfl rfl rfl,fun e=>(by cases e),fun _=>rfl⟩
 | 3,hx=>cases hx; exact⟨(by decide:(1:Int)≤6),(by decide:(6:Int)≤16),hf _ (by decide:(0:Int)≤0) (by show(0:Int) < n; omega) rfl rfl rfl,fun e=>(by cases e),fun _=>rfl⟩
 | 4,hx=>cases hx; exact⟨(by decide:(1:Int)≤2),(by decide:(2:Int)≤16),hf _ (by show(0:Int)≤((r+1) % n:Nat); omega) (by show(((r+1) % n:Nat):Int) < n; omega) rfl rfl rfl,fun _=>rfl,fun e=>(by cases e)⟩
 | 5,hx=>cases hx; exact⟨(by decide:(1:Int)≤8),(by decide:(8:Int)≤16),hf _ (by decide:(0:Int)≤0) (by show(0:Int) < n; omega) rfl rfl rfl,fun e=>(by cases e),fun _=>rfl⟩
 | i+6,hx=>simp[BB] at hx
theorem S7 (h1:0 < vals.length) (h8:vals.length≤8):(cL (dF vals b)).1.2=0:=by
 refine FG (by decide:(1:Int)≤1) (by decide:(1:Int)≤64) (by rw[eL]; exact h1) (by rw[eL]; omega) fun r l hr=>?_
 have hrl:r < vals.length:=by have:=(gEs.1 hr).1; rw[eL] at this; exact this
 rw[qK hrl] at hr
 cases hr
 exact BY (by decide:6≤100) (S1 rfl eL h1) rfl rfl (by decide:(-1:Int) < 0)
end
theorem RF {vals:List Int} {b r:Nat} (h:r < vals.length):BG (dF vals b) r=[0,2,5]:=by
 unfold BG lAt
 rw[qK h]
 rfl
theorem eB {vals:List Int} {b r:Nat} (h:r < vals.length) (i:Nat):bA (dF vals b) (r,i)=((BB vals.length b (vals.getD r 0) r)[i]?).getD act0:=by
 unfold bA
 rw[qK h]
 rfl
section
variable {vals:List Int} {b:Nat} {ls:List Ln}
theorem z7 (hC:bL (dF vals b) ls) {r i:Nat} (hr:r < vals.length) (hi:i=0∨i=2∨i=5):(dI (dF vals b) ls r i).2≤(dI (dF vals b) ls r i).1.length∧∀ y,y∈(dI (dF vals b) ls r i).1↔y.1 < ls.length∧y.1≠r∧y.2=i:=by
 have hn:=hC.len
 rw[eL] at hn
 refine AA hC (by rw[fX hr]; omega) ?_ (fun _=>i) fun b' hb=>?_
 ·rw[eB hr]
  rcases hi with rfl | rfl | rfl<;>rfl
 ·rw[RF (by omega),RF hr]
  rcases hi with rfl | rfl | rfl<;>rfl
theorem M8 (hC:bL (dF vals b) ls) {r i:Nat} (hr:r < ls.length) (hi:i≤6) {y:Pl} (hy:y∈dQ (dF vals b) ls r i):y.1 < ls.length∧y.2+1=i:=by
 have hn:=hC.len
 rw[eL] at hn
 have hl:=fX (b:=b) (vals:=vals) (r:=r) (by omega)
 unfold dQ at hy
 split at hy
 ·rename_i h
  by_cases c:i - 1=0∨i - 1=2∨i - 1=5
  ·obtain⟨q1,q2,q3⟩:=((z7 hC (by omega) c).2 y).1 hy
   exact⟨q1,by omega⟩
  ·rw[nJ hC (by omega)] at hy
   ·cases hy
   all_goals
    rw[eB (by omega)]
    have:i - 1=1∨i - 1=3∨i - 1=4:=by omega
    rcases this with e | e | e<;>rw[e]<;>(intro h; cases h)
 ·cases hy
theorem VI (hC:bL (dF vals b) ls) {r i:Nat} (hr:r < ls.length) (hi:i≤6) (c:Nat):(bJ (eE ls.length (dF vals b) ls) r i).getD c 0≤i:=by
 have hn:=hC.len
 rw[eL] at hn
 have hT:Clo (dF vals b) ls fun _ i _ k=>k≤i:=by
  refine⟨fun _ i _=>Nat.zero_le i,fun _ i _ _=>Nat.le_refl i,fun r i y hr hi hy=>?_,fun r i b m c k _ _ _ h0 _ h1 h2=>by omega⟩
  rw[fX (by omega)] at hi
  have:=(M8 hC hr hi hy).2
  omega
 exact hT.ord hC.fok (by have:=hC.n64; have:=hC.len; omega) hr (by rw[fX (by omega)]; exact hi) c
theorem SW (hC:bL (dF vals b) ls) {r q j:Nat} (hr:r < ls.length) (hq:q < ls.length) (hj:j=3∨j=4):3≤(bJ (eE ls.length (dF vals b) ls) q j).getD r 0:=by
 have hn:=hC.len
 rw[eL] at hn
 have hX:=n9 hC
 have hl:=fX (b:=b) (vals:=vals) (r:=q) (by omega)
 have h3:3≤(bJ (eE ls.length (dF vals b) ls) q 3).getD r 0:=by
  by_cases e:r=q
  ·rw[e]; exact hX.own q 3 hq (by omega)
  ·refine hX.fst q 3 (r,2) hq (by omega) ?_
   unfold dQ
   rw[if_pos (by omega)]
   exact((z7 hC (by omega) (.inr (.inl rfl))).2 (r,2)).2 ⟨hr,e,rfl⟩
 rcases hj with rfl | rfl
 ·exact h3
 ·have h4:=hX.own q 4 hq (by omega)
  have h5:=VI hC hq (show 4≤6 by omega) q
  have:=hX.join q 4 q r hq (by omega) hq (by omega)
  rw[show(bJ (eE ls.length (dF vals b) ls) q 4).getD q 0 - 1=3 by omega] at this
  omega
theorem kO (hC:bL (dF vals b) ls) {r:Nat} (hr:r < vals.length):cE ls (r,1)=((r+b) % vals.length,0)∧gY ls (r,1)=2∧cE ls (r,3)=(r,0)∧cE ls (r,4)=((r+1) % vals.length,0):=by
 have hn:=hC.len
 rw[eL] at hn
 have hl:=fX (b:=b) (vals:=vals) hr
 obtain⟨L,hL,hO⟩:=hC.get (qK (b:=b) hr)
 unfold cE
 rw[rX]
 have a1:=oY hL hO (i:=1) rfl rfl
 have a3:=uE hL hO (i:=3) rfl (.inl rfl)
 have a4:=oY hL hO (i:=4) rfl rfl
 rw[a1.1,a3.1,a4.1]
 exact⟨rfl,rfl,rfl,rfl⟩
theorem EI {r i:Nat} (hr:r < vals.length) (hk:fD (bA (dF vals b) (r,i)).k=true):i=1∨i=3∨i=4:=by
 rw[eB hr] at hk
 match i,hk with
 | 0,hk=>cases hk
 | 1,_=>omega
 | 2,hk=>cases hk
 | 3,_=>omega
 | 4,_=>omega
 | 5,hk=>cases hk
 | i+6,hk=>cases hk
theorem KP {n r q b:Nat} (hr:r < n) (hq:q < n) (h:(r+b) % n=(q+b) % n):r=q:=by
 have h1:=Nat.mod_add_div (r+b) n
 have h2:=Nat.mod_add_div (q+b) n
 rw[h] at h1
 generalize (r+b) / n=x at *
 generalize (q+b) / n=y at *
 rcases Nat.lt_trichotomy x y with e | e | e
 ·have:n * (x+1)≤n * y:=Nat.mul_le_mul_left n e
  rw[Nat.mul_add] at this
  omega
 ·subst e; omega
 ·have:n * (y+1)≤n * x:=Nat.mul_le_mul_left n e
  rw[Nat.mul_add] at this
  omega
theorem EC (hC:bL (dF vals b) ls) {r q j:Nat} (hr:r < ls.length) (hq:q < ls.length) (hj:j=3∨j=4):wD ls (eE ls.length (dF vals b) ls) (bA (dF vals b) (r,1)) (bA (dF vals b) (q,j)) (r,1) (q,j)=true:=by
 have hn:=hC.len
 rw[eL] at hn
 unfold wD
 rw[(kO hC (by omega)).2.1]
 have:=SW hC hr hq hj
 rw[show decide (2 < (bJ (eE ls.length (dF vals b) ls) q j).getD r 0)=true from dTr (by omega),Bool.or_true]
theorem NZ (hC:bL (dF vals b) ls):(iO (dF vals b) ls (eE ls.length (dF vals b) ls)).2=[]:=by
 have hn:=hC.len
 rw[eL] at hn
 refine B3 (fun x y hx hy hxl hyl hxy=>?_) hC.sok
 obtain⟨r,i⟩:=x
 obtain⟨q,j⟩:=y
 rw[eL] at hx hy
 dsimp only at hx hy hxl hyl
 unfold gB
 cases hc:iP ls (r,i) with
 | none=>rfl
 | some c=>
 cases hd:iP ls (q,j) with
 | none=>rfl
 | some d=>
 dsimp only
 have ki:=EI (b:=b) hx (yE hC hxl (by rw[hc]; rfl))
 have kj:=EI (b:=b) hy (yE hC hyl (by rw[hd]; rfl))
 have ci:=kO hC hx
 have cj:=kO hC hy
 by_cases e:decide (c.r=d.r) && decide (c.a=d.a)=true
 ·have e:c.r=d.r∧c.a=d.a:=by simpa using e
  have hcell:cE ls (r,i)=cE ls (q,j):=by
   unfold cE acN
   rw[hc,hd]
   simp only[Option.getD_some,e.1,e.2]
  rcases ki with rfl | ki
  ·rcases kj with rfl | kj
   ·rw[ci.1,cj.1] at hcell
    have:=KP hx hy (congrArg Prod.fst hcell)
    subst this
    exact absurd hxy (Nat.lt_irrefl _)
   ·rw[EC hC (by omega) (by omega) kj]
    simp
  ·rcases kj with rfl | kj
   ·rw[EC hC (r:=q) (q:=r) (by omega) (by omega) ki]
    simp
   ·have e1:tJ (bA (dF vals b) (r,i)) (bA (dF vals b) (q,j))=false:=by
     rw[eB hx,eB hy]
     rcases ki with rfl | rfl<;>rcases kj with rfl | rfl<;>rfl
    rw[e1]
    simp
 ·have e:(decide (c.r=d.r) && decide (c.a=d.a))=false:=by simpa using e
  rw[e]
  simp
end
theorem GE {p:Pg} {ls:List Ln} {x:Pl} (hr:fC (bA p x).k=false):∀(l:List Pl) (s:Ab),(l.foldl (kG p ls) s).g x.1 x.2=s.g x.1 x.2
 | [],_=>rfl
 | a::l,s=>by
  rw[List.foldl_cons,GE hr l]
  show(if fC (bA p a).k=true∧(x.1,x.2)=a then _ else _)=_
  rw[if_neg fun e=>by
   have e2:x=a:=e.2
   rw[← e2,hr] at e
   cases e.1]
theorem TF (x n b:Nat) (hn:0 < n):((x+n - b % n) % n+b) % n=x % n:=by
 have h1:=Nat.mod_lt b hn
 have h2:=Nat.mod_add_div b n
 rw[Nat.mod_add_mod]
 have e:x+n - b % n+b=x+n * (b / n+1):=by rw[Nat.mul_add]; omega
 rw[e,Nat.add_mul_mod_self_left]
theorem QO (p:Pg) (n a r i:Nat):(k7 (st0 p n a)).g r i=none:=by
 show bZ i (aH (st0 p n a) r).g=none
 rw[mO]; rfl
section
variable {vals:List Int} {b a:Nat} {ls:List Ln}
theorem BS (hC:bL (dF vals b) ls) {s0 s:St} {tr:List Pl} (E:JY (dF vals b) ls s0 s tr):∀ m,m≤6→∀ r,r < ls.length→m≤dAt s r
 | 0,_,_,_=>Nat.zero_le _
 | m+1,hm,r,hr=>by
  have ih:=BS hC E m (by omega)
  have hn:=hC.len
  rw[eL] at hn
  have hl:=fX (b:=b) (vals:=vals) (r:=r) (by omega)
  by_cases e:dAt s r=m
  ·exfalso
   have hk:∀ k:Int,k=10∨k=12→(bA (dF vals b) (r,dAt s r)).k≠k:=fun k hk=>by
    rw[eB (by omega),e]
    have:m=0∨m=1∨m=2∨m=3∨m=4∨m=5:=by omega
    rcases this with e | e | e | e | e | e<;>rw[e]<;>rcases hk with rfl | rfl<;>(intro h; cases h)
   refine E.go hC hr (by omega) (hk 10 (.inl rfl)) (hk 12 (.inr rfl)) fun h8=>?_
   have h6:m=0∨m=2∨m=5:=by
    rw[eB (by omega),e] at h8
    have:m=0∨m=1∨m=2∨m=3∨m=4∨m=5:=by omega
    rcases this with e | e | e | e | e | e<;>rw[e] at h8<;>first | omega | cases h8
   have hp:=z7 hC (r:=r) (by omega) h6
   rw[e]
   exact⟨hp.1,fun y hy=>by
    obtain⟨q1,_,q3⟩:=(hp.2 y).1 hy
    have:=ih y.1 q1
    omega⟩
  ·have:=ih r hr
   omega
structure FenR (vals:List Int) (b n:Nat) (s:St):Prop where
 st:dA (dF vals b) s n=[]
 v:∀ r,r < n→g7 (dF vals b) s r=[vals.getD ((r+n - b % n) % n) 0,vals.getD ((r+1+n - b % n) % n) 0]
 m:∀ r,r < n→aT s r=[vals.getD ((r+n - b % n) % n) 0]
theorem TD (hC:bL (dF vals b) ls) (ha:a < 18446744073709551616):FenR vals b ls.length (eQ (dF vals b) ls (st0 (dF vals b) ls.length a)):=by
 obtain⟨tr,E⟩:=E2 hC ha
 have hst:=BS hC E 6 (Nat.le_refl _)
 have hI:=E.inv
 have hq:=E.q
 have hab:=hI.ab
 generalize eQ (dF vals b) ls (st0 (dF vals b) ls.length a)=s at *
 have hn:=hC.len
 rw[eL] at hn
 have hn0:0 < ls.length:=by rw[hC.len]; exact hC.n1
 have hd:∀ r,r < ls.length→dAt s r=6:=fun r hr=>by
  have h1:=hst r hr
  have h2:=hI.ok.d r hr
  rw[fX (by omega)] at h2
  unfold dAt at *
  omega
 have hmem:∀ r i,(r,i)∈tr↔r < ls.length∧(i=1∨i=3∨i=4):=fun r i=>by
  rw[hI.mem]
  constructor
  ·rintro⟨h1,h2,h3,_⟩
   exact⟨h1,EI (by omega) h3⟩
  ·rintro⟨h1,h2⟩
   refine⟨h1,by show i < dAt s r; rw[hd r h1]; omega,?_,by rw[hq r h1]; exact List.not_mem_nil⟩
   rw[eB (by omega)]
   rcases h2 with rfl | rfl | rfl<;>rfl
 have hwr:∀ x,x < ls.length→(((x+ls.length - b % ls.length) % ls.length,1):Pl)∈tr∧cE ls ((x+ls.length - b % ls.length) % ls.length,1)=(x,0):=fun x hx=>by
  have hw:(x+ls.length - b % ls.length) % ls.length < ls.length:=Nat.mod_lt _ hn0
  refine⟨(hmem _ _).2 ⟨hw,.inl rfl⟩,?_⟩
  rw[(kO hC (by omega)).1,← hn,TF _ _ _ hn0,Nat.mod_eq_of_lt hx]
 have hoth:∀ x,x < ls.length→∀ y∈tr,y≠((x+ls.length - b % ls.length) % ls.length,1)→cE ls y=(x,0)→exP (bA (dF vals b) y).k=true:=fun x hx y hy hne hc=>by
  obtain⟨r,i⟩:=y
  obtain⟨h1,h2⟩:=(hmem r i).1 hy
  rw[eB (by omega)]
  rcases h2 with rfl | rfl | rfl
  ·exfalso
   have e1:=(hwr x hx).2
   rw[(kO hC (by have:=Nat.mod_lt (x+ls.length - b % ls.length) hn0; omega)).1] at e1
   rw[(kO hC (by omega)).1] at hc
   have:=KP (n:=vals.length) (by omega) (by have:=Nat.mod_lt (x+ls.length - b % ls.length) hn0; omega) ((congrArg Prod.fst hc).trans (congrArg Prod.fst e1).symm)
   exact hne (by rw[this])
  ·rfl
  ·rfl
 have hput:∀ w,w < ls.length→(bA (dF vals b) (w,1)).k=1∧(bA (dF vals b) (w,1)).v=vals.getD w 0:=fun w hw=>by
  rw[eB (by omega)]
  exact⟨rfl,rfl⟩
 have hread:∀ q j x,q < ls.length→j=3∨j=4→x < ls.length→cE ls (q,j)=(x,0)→bZ j (aH s q).g=some (vals.getD ((x+ls.length - b % ls.length) % ls.length) 0):=fun q j x hq hj hx hc=>by
  have hw:(x+ls.length - b % ls.length) % ls.length < ls.length:=Nat.mod_lt _ hn0
  obtain⟨z1,z2⟩:=hwr x hx
  have ho:=hoth x hx
  generalize (x+ls.length - b % ls.length) % ls.length=w at *
  have hin:(q,j)∈tr:=(hmem q j).2 ⟨hq,by omega⟩
  obtain⟨l1,l2,rfl⟩:=List.append_of_mem hin
  have hnd:=List.nodup_append.1 hI.nd
  have hnd2:=List.nodup_cons.1 hnd.2.1
  have hz:(w,1)∈l1:=by
   rcases List.mem_append.1 z1 with h | h
   ·exact h
   ·exfalso
    rcases List.mem_cons.1 h with h | h
    ·have:=congrArg Prod.snd h
     dsimp only at this
     omega
    ·have h3:=(List.pairwise_cons.1 (List.pairwise_append.1 hI.ord).2.1).1 _ h
     exact h3 ⟨z2.trans hc.symm,EC hC hw hq hj⟩
  have hg:=congrArg (fun z:Ab=>z.g q j) hab
  refine hg.trans ?_
  show((l1++(q,j)::l2).foldl (kG (dF vals b) ls) _).g (q,j).1 (q,j).2=_
  rw[RB hnd2.1 (by rw[eB (by omega)]; rcases hj with rfl | rfl<;>rfl),hc]
  congr 1
  exact yP (c:=(x,0)) z2 (hput w hw).1 (hput w hw).2 l1 _ hz hnd.1 fun y hy hne hcy=>ho y (by simp[hy]) hne hcy
 refine⟨?_,fun r hr=>?_,fun r hr=>?_⟩
 ·unfold dA
  rw[List.filter_eq_nil_iff]
  intro r hr
  have hr:=List.mem_range.1 hr
  have:=hd r hr
  unfold lV
  unfold dAt at this
  rw[fX (by omega),this]
  decide
 ·have hno:∀ i,¬ (i=1∨i=3∨i=4)→bZ i (aH s r).g=none:=fun i hi=>by
   have hg:=congrArg (fun z:Ab=>z.g r i) hab
   refine hg.trans ?_
   show(tr.foldl (kG (dF vals b) ls) _).g (r,i).1 (r,i).2=_
   rw[xU tr _ fun h=>hi ((hmem r i).1 h).2]
   exact QO _ _ _ _ _
  have h1:bZ 1 (aH s r).g=none:=by
   have hg:=congrArg (fun z:Ab=>z.g r 1) hab
   refine hg.trans ?_
   show(tr.foldl (kG (dF vals b) ls) _).g (r,1).1 (r,1).2=_
   rw[GE (by rw[eB (by omega)]; rfl)]
   exact QO _ _ _ _ _
  have h3:=hread r 3 r hr (.inl rfl) hr (kO hC (by omega)).2.2.1
  have h4:=hread r 4 ((r+1) % ls.length) hr (.inr rfl) (Nat.mod_lt _ hn0) (by rw[(kO hC (by omega)).2.2.2,hn])
  have e:((r+1) % ls.length+ls.length - b % ls.length) % ls.length=(r+1+ls.length - b % ls.length) % ls.length:=by
   have hb:=Nat.mod_lt b hn0
   have h2:=Nat.mod_add_div (r+1) ls.length
   have e1:r+1+ls.length - b % ls.length=(r+1) % ls.length+ls.length - b % ls.length+ls.length * ((r+1) / ls.length):=by omega
   rw[e1,Nat.add_mul_mod_self_left]
  rw[e] at h4
  unfold g7 i8
  rw[fX (by omega),show List.range 6=[0,1,2,3,4,5] from rfl]
  simp only[List.filterMap_cons,List.filterMap_nil,hno 0 (by omega),hno 2 (by omega),hno 5 (by omega),h1,h3,h4]
 ·have hl:(aT s r).length=1:=by rw[hI.ok.m r hr]; rfl
  obtain⟨z1,z2⟩:=hwr r hr
  have hw:(r+ls.length - b % ls.length) % ls.length < ls.length:=Nat.mod_lt _ hn0
  have:=yP (p:=dF vals b) (c:=(r,0)) z2 (hput _ hw).1 (hput _ hw).2 tr (k7 (st0 (dF vals b) ls.length a)) z1 hI.nd fun y hy hne hcy=>hoth r hr y hy hne hcy
  rw[← hab] at this
  have this:(aT s r).getD 0 0=_:=this
  rw[← this]
  generalize aT s r=m at *
  match m,hl with
  | [x],_=>rfl
end
end Go.Proofs.YtkjoolaahocgdaaGreat
