import Derived.Test.YtgdocflpobncmaaGreatGAvU
import Derived.Test.YtgdocflpobncmaaGreatGAvQ
import Derived.Test.YtgdocflpobncmaaGreatGAvL
import Derived.Test.YtgdocflpobncmaaGreatGAvZ
namespace Go.Av
structure wQ (T:AV→AV→Prop) (ρ:Nat→Nat→Option (Nat×Nat)) (k:Nat) (H H':Heap):Prop where
 low:∀ g i,g < k→(hget H g i).isSome→ρ g i=some (g,i)
 inj:∀ g i g' i' p,aT H' g i→aT H' g' i'→ρ g i=some p→ρ g' i'=some p→g=g'∧i=i'
 blk:∀ g i x,hget H' g i=some x→x.live=true→∃ g0 i0 y,ρ g i=some (g0,i0)∧hget H g0 i0=some y∧ToB T ρ y x
 dom:∀ g i p,ρ g i=some p→(hget H p.1 p.2).isSome→(hget H' g i).isSome
theorem wQ.live {T:AV→AV→Prop} {ρ:Nat→Nat→Option (Nat×Nat)} {k H H'} (hn:wQ T ρ k H H') {J:Inj} {g i:Nat} {l:Loc} (h:aT H' g i) (hJ:J.via ρ g i=some l):∃ g0 i0,ρ g i=some (g0,i0)∧aT H g0 i0∧J g0 i0=some l:=by
 obtain⟨x,hx,hxl⟩:=h;obtain⟨g0,i0,y,h1,h2,h3⟩:=hn.blk g i x hx hxl;exact⟨g0,i0,h1,⟨y,h2,h3.live hxl⟩,by rw[← hJ,Inj.via_some h1]⟩
theorem aZ.toM {T:AV→AV→Prop} {ρ:Nat→Nat→Option (Nat×Nat)} {k M J H w M' J' H' w' H''} (hT:∀ a b v,T a b→Rep M' J' a v→Rep M' J' b v) (a:aZ k M J H w M' J' H' w') (hn:wQ T ρ k H' H''):aZ k M J H w M' (J'.via ρ) H'' w' where
 m:=a.m
 j g i l hk h:=by
  have h1:=a.j g i l hk h;rw[Inj.via_some (hn.low g i hk (a.hrep.dom g i l h1).1)];exact h1
 hrep:=by
  refine⟨fun g i x hx hl=>?_,fun g i g' i' l l' β a1 b c d e f=>?_,fun g i l β a1 b c=>?_,fun g i l a1=>?_⟩
  ·obtain⟨g0,i0,y,h1,h2,h3⟩:=hn.blk g i x hx hl
   obtain⟨l,h4,h5⟩:=a.hrep.blk g0 i0 y h2 (h3.live hl);exact⟨l,by rw[Inj.via_some h1,h4],ToB.rep hT h5 h3⟩
  ·obtain⟨g0,i0,p1,p2,p3⟩:=hn.live a1 c
   obtain⟨g1,i1,q1,q2,q3⟩:=hn.live b d;obtain⟨rfl,rfl⟩:=a.hrep.inj g0 i0 g1 i1 l l' β p2 q2 p3 q3 e f;exact hn.inj _ _ _ _ _ a1 b p1 q1
  ·obtain⟨g0,i0,p1,p2,p3⟩:=hn.live a1 b
   exact a.hrep.out g0 i0 l β p2 p3 c
  ·unfold Inj.via at a1
   split at a1
   ·rename_i g' i' e
    have:=a.hrep.dom g' i' l a1;exact⟨hn.dom g i _ e this.1,this.2⟩
   ·cases a1
 mrep:=a.mrep
 os:=a.os
 tape:=a.tape
 output:=a.output
 size:=a.size
 frame:=a.frame
 fresh:=a.fresh
 live g i l β h1 h2 h3:=by
  obtain⟨g0,i0,p1,p2,p3⟩:=hn.live h1 h2;exact a.live g0 i0 l β p2 p3 h3
 bk:=a.bk
def kK (ds:List Nat):Nat→List FK→List FK
 | _,[]=>[]
 | j,f::r=>(match ds.any fun d=>Nat.beq d j with | true=>.c [] | false=>f)::kK ds (j+1) r
def nX (H:Heap):List Nat→Prop
 | []=>True
 | d::ds=>H[d]?=some [.dead]∧nX H ds
theorem tA (ds:List Nat):∀(ks:List FK) (j g:Nat),(ds.any fun d=>Nat.beq d (j+g))=false→(kK ds j ks)[g]?=ks[g]?
 | [],_,_,_=>rfl
 | f::r,j,0,h=>by
  show some (match ds.any fun d=>Nat.beq d j with | true=>FK.c [] | false=>f)=some f;rw[show(ds.any fun d=>Nat.beq d j)=false from h]
 | f::r,j,g+1,h=>by
  show(kK ds (j+1) r)[g]?=r[g]?;exact tA ds r (j+1) g (by rw[show j+1+g=j+(g+1) by omega]; exact h)
theorem qA {H:Heap}:∀ {ds:List Nat} {g i:Nat},nX H ds→aT H g i→(ds.any fun d=>Nat.beq d g)=false
 | [],_,_,_,_=>rfl
 | d::ds,g,i,⟨h1,h2⟩,hl=>by
  rw[List.any_cons,qA h2 hl,Bool.or_false];apply Bool.eq_false_iff.2;intro e;obtain rfl:=nEb e;obtain⟨x,hx,hxl⟩:=hl;unfold hget at hx;rw[h1] at hx
  cases i with
  | zero=>
   injection hx with hx
   subst hx
   cases hxl
  | succ i=>cases hx
theorem O2 {ids:List (List (Nat×Nat))} (hnd:ids.flatten.Nodup) {g i g' i':Nat} {p:Nat×Nat} (hp:rho ids g i=some p) (hp':rho ids g' i'=some p):g=g'∧i=i':=by
 unfold rho at hp hp';split at hp
 ·rename_i f e
  split at hp'
  ·rename_i f' e'
   unfold List.Nodup at hnd;rw[List.pairwise_flatten] at hnd
   by_cases hgg:g=g'
   ·subst hgg
    rw[e] at e'
    injection e' with e'
    subst e';refine⟨rfl,?_⟩;have hn:=hnd.1 f (mOg e);have hi:=(gEs.1 hp).1;exact(List.getElem?_inj hi hn).1 (hp.trans hp'.symm)
   ·exfalso
    have hpw:=hnd.2;rw[List.pairwise_iff_getElem] at hpw;have hg1:=(gEs.1 e).1;have hg2:=(gEs.1 e').1;have v1:=(gEs.1 e).2;have v2:=(gEs.1 e').2
    rcases Nat.lt_or_gt_of_ne hgg with hlt | hgt
    ·have:=hpw g g' hg1 hg2 hlt
     rw[v1,v2] at this;exact this p (mOg hp) p (mOg hp') rfl
    ·have:=hpw g' g hg2 hg1 hgt
     rw[v1,v2] at this;exact this p (mOg hp') p (mOg hp) rfl
  ·cases hp'
 ·cases hp
theorem wQ.listK {T:AV→AV→Prop} {k:Nat} {H H2 H':Heap} {ks:List FK} (ds:List Nat) (h1:FH 0 k ks H) (h3:okK (kK ds 0 ks)=true) (h4:aI (ToB T (rho (idK ks))) H (idK ks) H') (hd:nX H' ds)
  (hk:∀ g i,(hget H2 g i).isSome=(hget H g i).isSome) (hs:∀ p∈(idK ks).flatten,hget H2 p.1 p.2=hget H p.1 p.2):wQ T (rho (idK ks)) k H2 H':=by
 obtain⟨hl,hf⟩:=l9 h4;have hnd:=xJ h3
 have hrho:∀ g i,aT H' g i→rho (idK ks) g i=rho (idK (kK ds 0 ks)) g i:=fun g i hlv=>by
  have:=tA ds ks 0 g (by rw[Nat.zero_add]; exact qA hd hlv);unfold rho idK;rw[List.getElem?_map,List.getElem?_map,this]
 refine⟨fun g i hg hi=>?_,fun g i g' i' p l1 l2 hp hp'=>?_,fun g i x hx _=>?_,fun g i p hp _=>?_⟩
 ·rw[hk] at hi
  have:=rR k 0 h1 g i hg hi;rw[Nat.zero_add] at this;exact this
 ·rw[hrho _ _ l1] at hp
  rw[hrho _ _ l2] at hp';exact O2 hnd hp hp'
 ·generalize hids:idK ks=ids at *
  unfold hget at hx;split at hx
  ·rename_i f e
   have hg:=(gEs.1 e).1;have e':ids[g]?=some ids[g]:=gEg (by omega);obtain⟨q1,q2⟩:=iN (hf g _ _ e' e);have hi:=(gEs.1 hx).1;have e2:ids[g][i]?=some ids[g][i]:=gEg (by omega);obtain⟨y,r1,r2⟩:=q2 i _ x e2 hx
   have hr:rho ids g i=some ids[g][i]:=by simp only[rho,e']; exact e2
   exact⟨ids[g][i].1,ids[g][i].2,y,hr,(hs _ (AB hr)).trans r1,r2⟩
  ·cases hx
 ·generalize hids:idK ks=ids at *
  unfold rho at hp;split at hp
  ·rename_i f e
   have hg:=(gEs.1 e).1;have e':H'[g]?=some H'[g]:=gEg (by omega);obtain⟨q1,_⟩:=iN (hf g _ _ e e');have hi:=(gEs.1 hp).1;simp only[hget,e',gEg (show i < H'[g].length by omega)];rfl
  ·cases hp
section
variable {k N:Nat} {fr fr':Fr} {H H':Heap} {ks:List FK} {szs:List Nat}
theorem DE {M J} {w:World} (ds:List Nat) (hH:aU M J H w.heap) (hM:bE M w.heap) (h1:FH 0 k ks (H++gh szs)) (h3:okK (kK ds 0 ks)=true) (hd:nX H' ds)
  (h4:aI (ToB (ToT (H++gh szs) H.length (qE ks)) (rho (idK ks))) (H++gh szs) (idK ks) H'):
  ∃ M' J',aZ k M J H w M' J' H' w∧∀ a b v,To (ToT (H++gh szs) H.length (qE ks)) (rho (idK ks)) a b→Rep M J a v→Rep M' J' b v:=by
 obtain⟨s1,x1,t1⟩:=aZ.ghost (k:=k) hH hM (tE.gh H szs);obtain⟨s2,x2,t2⟩:=aZ.frz (k:=k) s1.hrep s1.mrep (lY.killS (qE ks) (H++gh szs))
 have hT:∀ a b v,ToT (H++gh szs) H.length (qE ks) a b→Rep (M.freeze (J.ghost H (H++gh szs)) (H++gh szs) (qE ks) w.heap) (J.ghost H (H++gh szs)) a v →
   Rep (M.freeze (J.ghost H (H++gh szs)) (H++gh szs) (qE ks) w.heap) (J.ghost H (H++gh szs)) b v:=by
  intro a b v h hv
  cases h with
  | fz h=>
   refine t2 a b v h ?_
   cases h with
   | hsl g i start len sz rows hS h hl=>
    cases hv with
    | hsl _ _ _ _ cap β l hJ hb hc hlc=>exact .hsl _ _ _ _ cap β l hJ hb hc hlc
    | hslNil _ _ a0 l hJ hb=>exact .hslNil _ _ a0 l hJ hb
   | ptr g i row off sz rows r hS h hr=>
    cases hv with
    | ptr _ _ _ _ β l hJ hb=>exact .ptr _ _ _ _ β l hJ hb
   | mref g i es hS h=>
    cases hv with
    | mref _ _ β l hJ hb=>exact .mref _ _ β l hJ hb
  | gh g sz hg h'=>
   cases hv
   refine .hslNil g 0 _ ⟨none,sz,0⟩ ?_ rfl
   have:hget H g 0=none:=by
    cases e:hget H g 0 with
    | none=>rfl
    | some y=>
     have:=g8 (by rw[e]; rfl:(hget H g 0).isSome);have:=nlB hg;omega
   unfold Inj.ghost;rw[this,h']
  | nil sz=>cases hv; exact .nilList sz none 0
 have hn:wQ (ToT (H++gh szs) H.length (qE ks)) (rho (idK ks)) k (killS (qE ks) (H++gh szs)) H':=by
  refine wQ.listK ds h1 h3 h4 hd (fun g i=>by rw[iQ,Option.isSome_map]) fun p hp=>?_
  rw[iQ,QI hp]
  cases hget (H++gh szs) p.1 p.2<;>rfl
 refine⟨_,_,aZ.toM hT (s1.trans s2) hn,fun a b v h hv=>To.rep hT h ?_⟩;exact(hv.ext x1).ext x2
theorem Sub.toM (szs:List Nat) (ks:List FK) (ds:List Nat) (h5:aV (ToT (H++gh szs) H.length (qE ks)) (rho (idK ks)) fr fr')
  (h4:aI (ToB (ToT (H++gh szs) H.length (qE ks)) (rho (idK ks))) (H++gh szs) (idK ks) H') (hd:nX H' ds) (h1:FH 0 k ks (H++gh szs)) (h3:okK (kK ds 0 ks)=true:=by rfl):Sub k N fr H fr' H':=by
 intro M J tmps w hF hH hM;obtain⟨M',J',q1,q2⟩:=DE (szs:=szs) ds hH hM h1 h3 hd h4;exact⟨M',J',q1,hF.1,fun t=>q2 _ _ _ (h5.get t) (hF.2 t)⟩
theorem f8.toM {a b:AV} (szs:List Nat) (ks:List FK) (ds:List Nat) (h5:To (ToT (H++gh szs) H.length (qE ks)) (rho (idK ks)) a b)
  (h4:aI (ToB (ToT (H++gh szs) H.length (qE ks)) (rho (idK ks))) (H++gh szs) (idK ks) H') (hd:nX H' ds) (h1:FH 0 k ks (H++gh szs)) (h3:okK (kK ds 0 ks)=true:=by rfl):f8 k H a H' b:=by
 intro M J v w hv hH hM;obtain⟨M',J',q1,q2⟩:=DE (szs:=szs) ds hH hM h1 h3 hd h4;exact⟨M',J',q1,q2 _ _ _ h5 hv⟩
end
end Go.Av
namespace Go.Av
def sg (ρ':Nat→Nat→Option (Nat×Nat)) (m n a b:Nat):Option (Nat×Nat):=match Nat.blt a m with
 | true=>ρ' a b
 | false=>some (a - m+n,b)
theorem oT {ρ':Nat→Nat→Option (Nat×Nat)} {m n a b:Nat} (h:a < m):sg ρ' m n a b=ρ' a b:=by
 have e:Nat.blt a m=true:=by simpa[Nat.blt_eq] using h
 simp only[sg,e]
theorem sT {ρ':Nat→Nat→Option (Nat×Nat)} {m n a b:Nat} (h:m≤a):sg ρ' m n a b=some (a - m+n,b):=by
 have e:Nat.blt a m=false:=by
  apply Bool.eq_false_iff.2;intro q
  have:a < m:=by simpa[Nat.blt_eq] using q
  omega
 simp only[sg,e]
theorem aH.grow {P:Program} {f:FuncId} {args args':List AV} {H0 H:Heap} {R R':AV→Heap→Prop} (ρ ρ':Nat→Nat→Option (Nat×Nat)) (h:aH P f args' H0 R)
  (hl:args.length=args'.length) (hargs:∀(j:Nat) a b,args[j]?=some a→args'[j]?=some b→Ren ρ a b)
  (hρ:∀ g i p,ρ g i=some p→ρ' p.1 p.2=some (g,i)) (hρ':∀ g i q,ρ' g i=some q→ρ q.1 q.2=some (g,i))
  (h0:∀ g i x,hget H0 g i=some x→x.live=true∧∃ p y,ρ g i=some p∧hget H p.1 p.2=some y∧fC ρ y x)
  (hdom:∀ g i p,ρ g i=some p→(hget H0 g i).isSome)
  (hR:∀ res H',R res H'→(∀ g i,g < H0.length→(hget H' g i).isSome→(hget H0 g i).isSome)∧∃ res' H'',Ren (sg ρ' H.length H0.length) res res' ∧
   (∀ g i x,hget H'' g i=some x→x.live=true→(∃ q y,sg ρ' H.length H0.length g i=some q∧hget H' q.1 q.2=some y∧fC (sg ρ' H.length H0.length) y x)∨(sg ρ' H.length H0.length g i=none∧hget H g i=some x)) ∧
   (∀ g i,(hget H g i).isSome→(hget H'' g i).isSome)∧(∀ g i,H0.length≤g→(hget H' g i).isSome→(hget H'' (g - H0.length+H.length) i).isSome)∧R' res' H''):aH P f args H R':=by
 refine⟨h.1,fun M J w cargs e1 e2 hH hM=>?_⟩
 have hlt:∀ {H:Heap} {g i:Nat},(hget H g i).isSome→g < H.length:=fun hs=>iB hs
 have hJ1:∀ g i l,J.via ρ g i=some l→∃ p,ρ g i=some p∧J p.1 p.2=some l:=by
  intro g i l hl;unfold Inj.via at hl;split at hl
  ·rename_i g' i' e; exact⟨(g',i'),e,hl⟩
  ·cases hl
 have hlive0:∀ g i l,aT H0 g i→J.via ρ g i=some l→∃ p,ρ g i=some p∧J p.1 p.2=some l∧aT H p.1 p.2:=by
  rintro g i l ⟨x,hx,hxl⟩ hJ;obtain⟨_,p,y,p1,p2,p3⟩:=h0 g i x hx;obtain⟨p',q1,q2⟩:=hJ1 g i l hJ;rw[p1] at q1
  injection q1 with q1
  subst q1;exact⟨p,p1,q2,y,p2,p3.live hxl⟩
 have hH0:aU M (J.via ρ) H0 w.heap:=by
  refine⟨fun g i x hx hxl=>?_,fun g i g' i' l l' β a b c d e f=>?_,fun g i l β a b c=>?_,fun g i l a=>?_⟩
  ·obtain⟨_,p,y,p1,p2,p3⟩:=h0 g i x hx
   obtain⟨l,q1,q2⟩:=hH.blk p.1 p.2 y p2 (p3.live hxl);exact⟨l,by rw[Inj.via_some (g':=p.1) (i':=p.2) p1]; exact q1,q2.ren p3⟩
  ·obtain⟨p,p1,p2,p3⟩:=hlive0 g i l a c
   obtain⟨q,q1,q2,q3⟩:=hlive0 g' i' l' b d;obtain⟨r1,r2⟩:=hH.inj _ _ _ _ l l' β p3 q3 p2 q2 e f;have hpq:p=q:=Prod.ext r1 r2;subst hpq;have:=(hρ g i p p1).symm.trans (hρ g' i' p q1)
   injection this with this
   injection this with t1 t2
   exact⟨t1,t2⟩
  ·obtain⟨p,p1,p2,p3⟩:=hlive0 g i l a b
   exact hH.out _ _ l β p3 p2 c
  ·obtain⟨p,p1,p2⟩:=hJ1 g i l a
   exact⟨hdom g i p p1,(hH.dom _ _ l p2).2⟩
 refine(h.2 M (J.via ρ) w cargs (by omega) (fun j c v hc hv=>?_) hH0 hM).mono ?_
 ·obtain⟨a,ha⟩:=aY hl hc
  exact(e2 j a v ha hv).ren (hargs j a c ha hc)
 rintro e w' ⟨v,M',J',res,H',rfl,s,hres,hr⟩;obtain⟨hd,res',H'',r1,r2,r3,r3b,r4⟩:=hR res H' hr
 -- the caller's old numbers are of the callee's old blocks
 have hq:∀ g i q,ρ' g i=some q→q.1 < H0.length∧g < H.length:=fun g i q e=>by
  have h1:=hρ' g i q e;have h2:=hdom _ _ _ h1;obtain⟨x,hx⟩:=Option.isSome_iff_exists.1 h2;obtain⟨_,p,y,p1,p2,_⟩:=h0 _ _ x hx;rw[h1] at p1
  injection p1 with p1
  subst p1;exact⟨hlt h2,hlt (by rw[p2]; rfl)⟩
 have hJ':∀ g i l,g < H0.length→J' g i=some l→∃ p,ρ g i=some p∧J p.1 p.2=some l:=by
  intro g i l hg hl;have hs:=hd g i hg (s.hrep.dom g i l hl).1;obtain⟨x,hx⟩:=Option.isSome_iff_exists.1 hs;obtain⟨hxl,p,y,p1,p2,p3⟩:=h0 g i x hx;obtain⟨l1,q1,_⟩:=hH0.blk g i x hx hxl;have:=s.j g i l1 hg q1;rw[hl] at this
  injection this with this
  subst this;obtain⟨p',t1,t2⟩:=hJ1 g i l q1;exact⟨p',t1,t2⟩
 let J2:Inj:=fun a b=>if a < H.length then J a b else J' (a - H.length+H0.length) b
 have k1:∀ {a b:Nat} {l:Loc},a < H.length→J2 a b=some l→J a b=some l:=fun {a b l} h e=>by
  have:(if a < H.length then J a b else J' (a - H.length+H0.length) b)=some l:=e
  rwa[if_pos h] at this
 have k2:∀ {a b:Nat} {l:Loc},¬ a < H.length→J2 a b=some l→J' (a - H.length+H0.length) b=some l:=fun {a b l} h e=>by
  have:(if a < H.length then J a b else J' (a - H.length+H0.length) b)=some l:=e
  rwa[if_neg h] at this
 have k3:∀ {a b:Nat} {l:Loc},J a b=some l→J2 a b=some l:=fun {a b l} e=>by
  show(if a < H.length then J a b else J' (a - H.length+H0.length) b)=some l;rw[if_pos (hlt (hH.dom a b l e).1)];exact e
 have hback:Ext M' (J'.via (sg ρ' H.length H0.length)) M' J2:=⟨fun _ _ h=>h,fun g i l hl=>by
  by_cases hg:g < H.length
  ·unfold Inj.via at hl
   rw[oT hg] at hl;split at hl
   ·rename_i g' i' e
    obtain⟨p,p1,p2⟩:=hJ' g' i' l (hq _ _ _ e).1 hl;have:=hρ' g i _ e;rw[p1] at this
    injection this with this
    subst this;exact k3 p2
   ·cases hl
  ·unfold Inj.via at hl
   rw[sT (by omega)] at hl;show(if g < H.length then J g i else J' (g - H.length+H0.length) i)=some l;rw[if_neg hg]
   exact hl⟩
 have hfwd:Ext M J M' J2:=⟨s.m,fun _ _ _ h=>k3 h⟩
 have hother:∀ g i l β,ρ' g i=none→aT H g i→J g i=some l→l.blk=some β→∀ g0 i0 l0,aT H0 g0 i0→J.via ρ g0 i0=some l0→l0.blk≠some β:=by
  intro g i l β hn hlv hJ hb g0 i0 l0 a b c;obtain⟨p,p1,p2,p3⟩:=hlive0 g0 i0 l0 a b;obtain⟨t1,t2⟩:=hH.inj _ _ _ _ l l0 β hlv p3 hJ p2 hb c;have:=hρ g0 i0 p p1;rw[← t1,← t2,hn] at this
  cases this
 have hlive':∀ g i l β,aT H'' g i→J2 g i=some l→l.blk=some β→(∃ q,sg ρ' H.length H0.length g i=some q∧aT H' q.1 q.2∧J' q.1 q.2=some l)∨(g < H.length∧ρ' g i=none∧aT H g i∧J g i=some l):=by
  rintro g i l β ⟨x,hx,hxl⟩ hJ hb
  rcases r2 g i x hx hxl with⟨q,y,q1,q2,q3⟩ | ⟨q1,q2⟩
  ·left
   refine⟨q,q1,⟨y,q2,q3.live hxl⟩,?_⟩
   by_cases hg:g < H.length
   ·rw[oT hg] at q1
    obtain⟨l',t1,_⟩:=s.hrep.blk q.1 q.2 y q2 (q3.live hxl);obtain⟨p,p1,p2⟩:=hJ' _ _ _ (hq _ _ _ q1).1 t1;have:=hρ' g i q q1;rw[p1] at this
    injection this with this
    subst this;rw[k1 hg hJ] at p2
    injection p2 with p2
    subst p2;exact t1
   ·rw[sT (by omega)] at q1
    injection q1 with q1
    subst q1;exact k2 hg hJ
  ·by_cases hg:g < H.length
   ·rw[oT hg] at q1
    exact .inr ⟨hg,q1,⟨x,q2,hxl⟩,k1 hg hJ⟩
   ·rw[sT (by omega)] at q1
    cases q1
 refine⟨v,M',J2,res',H'',rfl,⟨s.m,fun _ _ _ _ h=>k3 h,⟨?_,?_,?_,?_⟩,s.mrep,s.os,s.tape,s.output,s.size,?_,?_,?_,s.bk⟩,(hres.ren r1).ext hback,r4⟩
 ·intro g i x hx hxl
  rcases r2 g i x hx hxl with⟨q,y,q1,q2,q3⟩ | ⟨q1,q2⟩
  ·obtain⟨l,t1,t2⟩:=s.hrep.blk q.1 q.2 y q2 (q3.live hxl)
   refine⟨l,hback.j g i l (by rw[Inj.via_some (g':=q.1) (i':=q.2) q1]; exact t1),(t2.ren q3).ext hback fun _ _=>rfl⟩
  ·have hg:g < H.length:=by
    refine dBc fun hg=>?_
    rw[sT (by omega)] at q1
    cases q1
   rw[oT hg] at q1;obtain⟨l,t1,t2⟩:=hH.blk g i x q2 hxl;refine⟨l,k3 t1,t2.ext hfwd fun β hβ=>?_⟩;have hb:=(hH.dom g i l t1).2 β hβ;rw[Array.getElem?_eq_getElem hb];exact s.frame β _ (Array.getElem?_eq_getElem hb) (hother g i l β q1 ⟨x,q2,hxl⟩ t1 hβ)
 ·intro g i g' i' l l' β a b c d e f
  rcases hlive' g i l β a c e with⟨q,q1,q2,q3⟩ | ⟨q0,q1,q2,q3⟩<;>rcases hlive' g' i' l' β b d f with⟨p,p1,p2,p3⟩ | ⟨p0,p1,p2,p3⟩
  ·obtain⟨t1,t2⟩:=s.hrep.inj _ _ _ _ l l' β q2 p2 q3 p3 e f
   have hpq:q=p:=Prod.ext t1 t2;subst hpq
   by_cases hg:g < H.length<;>by_cases hg':g' < H.length
   ·rw[oT hg] at q1
    rw[oT hg'] at p1;have:=(hρ' g i q q1).symm.trans (hρ' g' i' q p1)
    injection this with this
    injection this with t1 t2
    exact⟨t1,t2⟩
   ·rw[oT hg] at q1
    rw[sT (by omega)] at p1;have:=(hq _ _ _ q1).1
    injection p1 with p1
    rw[← p1] at this;simp only at this;omega
   ·rw[sT (by omega)] at q1
    rw[oT hg'] at p1;have:=(hq _ _ _ p1).1
    injection q1 with q1
    rw[← q1] at this;simp only at this;omega
   ·rw[sT (by omega)] at q1 p1
    rw[← q1] at p1
    injection p1 with p1
    injection p1 with t1 t2
    exact⟨by omega,t2.symm⟩
  ·exfalso
   rcases s.live _ _ l β q2 q3 e with⟨g0,i0,l0,u1,u2,u3⟩ | u
   ·exact hother g' i' l' β p1 p2 p3 f g0 i0 l0 u1 u2 u3
   ·have:=(hH.dom g' i' l' p3).2 β f; omega
  ·exfalso
   rcases s.live _ _ l' β p2 p3 f with⟨g0,i0,l0,u1,u2,u3⟩ | u
   ·exact hother g i l β q1 q2 q3 e g0 i0 l0 u1 u2 u3
   ·have:=(hH.dom g i l q3).2 β e; omega
  ·exact hH.inj g i g' i' l l' β q2 p2 q3 p3 e f
 ·intro g i l β a b c
  rcases hlive' g i l β a b c with⟨q,q1,q2,q3⟩ | ⟨q0,q1,q2,q3⟩
  ·exact s.hrep.out _ _ l β q2 q3 c
  ·cases e:M' β with
   | none=>rfl
   | some o=>
    exfalso
    rcases s.fresh β o e with u | u | ⟨g0,i0,l0,u1,u2,u3⟩
    ·rw[hH.out g i l β q2 q3 c] at u; cases u
    ·have:=(hH.dom g i l q3).2 β c; omega
    ·exact hother g i l β q1 q2 q3 c g0 i0 l0 u1 u2 u3
 ·intro g i l a
  by_cases hg:g < H.length
  ·have:=hH.dom g i l (k1 hg a)
   exact⟨r3 g i this.1,fun β hβ=>Nat.lt_of_lt_of_le (this.2 β hβ) s.size⟩
  ·have:=s.hrep.dom _ _ l (k2 hg a)
   have h1:=r3b _ i (by omega) this.1;rw[show g - H.length+H0.length - H0.length+H.length=g by omega] at h1;exact⟨h1,this.2⟩
 ·intro β o ho hn
  refine s.frame β o ho fun g0 i0 l0 a b c=>?_
  obtain⟨p,p1,p2,p3⟩:=hlive0 g0 i0 l0 a b;exact hn _ _ l0 p3 p2 c
 ·intro β o ho
  rcases s.fresh β o ho with u | u | ⟨g0,i0,l0,u1,u2,u3⟩
  ·exact .inl u
  ·exact .inr (.inl u)
  ·obtain⟨p,p1,p2,p3⟩:=hlive0 g0 i0 l0 u1 u2
   exact .inr (.inr ⟨_,_,l0,p3,p2,u3⟩)
 ·intro g i l β a b c
  rcases hlive' g i l β a b c with⟨q,q1,q2,q3⟩ | ⟨q0,q1,q2,q3⟩
  ·rcases s.live _ _ l β q2 q3 c with⟨g0,i0,l0,u1,u2,u3⟩ | u
   ·obtain⟨p,p1,p2,p3⟩:=hlive0 g0 i0 l0 u1 u2
    exact .inl ⟨_,_,l0,p3,p2,u3⟩
   ·exact .inr u
  ·exact .inl ⟨g,i,l,q2,q3,c⟩
theorem aH.ins {P:Program} {f:FuncId} {args:List AV} {H0:Heap} (G:Heap) {R R':AV→Heap→Prop} (h:aH P f args H0 R) (hc:UC H0 H0) (ha:∀ a∈args,Ren (idH H0) a a)
  (hR:∀ res H',R res H'→∃ res' H1 X H1' X',H'=H1++X∧H1.length=H0.length∧H1'.length=H0.length∧(∀ g i,(hget H1 g i).isSome→(hget H0 g i).isSome)∧Ren (sg (idH H0) (H0++G).length H0.length) res res' ∧
   (∀ g i x,hget H1' g i=some x→x.live=true→∃ y,hget H1 g i=some y∧(hget H0 g i).isSome∧fC (sg (idH H0) (H0++G).length H0.length) y x)∧(∀ g i,(hget H0 g i).isSome→(hget H1' g i).isSome) ∧
   (∀ g i x,hget X' g i=some x→x.live=true→∃ y,hget X g i=some y∧fC (sg (idH H0) (H0++G).length H0.length) y x)∧(∀ g i,(hget X g i).isSome→(hget X' g i).isSome)∧R' res' (H1'++G++X')):aH P f args (H0++G) R':=by
 refine aH.grow (idH H0) (idH H0) h rfl (fun j a b e1 e2=>?_) (fun a b p e=>?_) (fun a b q e=>?_) (fun a b y e=>?_) (fun a b p e=>?_) fun res H' hr=>?_
 ·rw[e1] at e2
  injection e2 with e2
  subst e2;exact ha a (mOg e1)
 ·obtain⟨h1,rfl⟩:=wV e
  exact rP h1
 ·obtain⟨h1,rfl⟩:=wV e
  exact rP h1
 ·have hs:(hget H0 a b).isSome=true:=by rw[e]; rfl
  obtain⟨h1,h2⟩:=hc.blk a b y e;exact⟨h1,(a,b),y,rP hs,by rw[cJ (iB hs)]; exact e,h2⟩
 ·exact(wV e).1
 ·obtain⟨res',H1,X,H1',X',rfl,l1,l1',d1,q1,q2,q3,q4,q5,q6⟩:=hR res H' hr
  have hm:(H0++G).length=H0.length+G.length:=lAp
  have hm1:(H1'++G).length=H0.length+G.length:=by rw[lAp,l1']
  refine⟨fun g i hg hs=>?_,res',H1'++G++X',q1,fun g i x hx hl=>?_,fun g i hs=>?_,fun g i hg hs=>?_,q6⟩
  ·rw[cJ (by omega)] at hs
   exact d1 g i hs
  ·by_cases g1:g < H0.length
   ·rw[List.append_assoc,cJ (by omega)] at hx
    obtain⟨y,y1,y2,y3⟩:=q2 g i x hx hl;refine .inl ⟨(g,i),y,?_,by rw[cJ (by omega)]; exact y1,y3⟩;rw[oT (by omega)];exact rP y2
   ·by_cases g2:g < (H0++G).length
    ·refine .inr ⟨?_,?_⟩
     ·rw[oT g2]
      exact NA fun hs=>g1 (iB hs)
     ·rw[cJ (by rw[lAp]; omega),cK (by omega)] at hx
      rw[cK (by omega),← l1'];exact hx
    ·rw[cK (by rw[lAp]; omega)] at hx
     obtain⟨y,y1,y2⟩:=q4 _ i x hx hl;refine .inl ⟨_,y,sT (by omega),?_,y2⟩;simp only;rw[cK (by omega)];rw[← y1];congr 1;omega
  ·by_cases g1:g < H0.length
   ·rw[cJ g1] at hs
    rw[List.append_assoc,cJ (by omega)];exact q3 g i hs
   ·rw[cK (by omega)] at hs
    rw[cJ (by rw[lAp]; have:=iB hs; omega),cK (by omega),l1'];exact hs
  ·rw[cK (by omega)] at hs
   rw[cK (by rw[lAp]; omega)];have:=q5 _ i hs;rw[← this];congr 2;omega
end Go.Av
namespace Go.Av
section
variable {g i:Nat} {fr:Fr} {H:Heap}
theorem kJ {z:AV} {k:IntKind} {x ix:Operand} {n:Int} {es:List (Value×AV)} {ok:Bool} {r:Option AV} (hx:ev fr x=.tmap es) (hi:ev fr ix=.sc (.int k n)) (hm:eJ k n es=some r):
  aD g i (.lookup z k x ix ok) fr H=mR z ok H (some r):=by
 simp only[aD,hi,hx,mZ,hm,decide_true]
theorem nM {z:AV} {k:IntKind} {x ix:Operand} {g' i':Nat} {n:Int} {es:List (Value×AV)} {ok:Bool} {r:Option AV} (hx:ev fr x=.mref g' i') (hi:ev fr ix=.sc (.int k n)) (hh:hget H g' i'=some (.map es)) (hm:eJ k n es=some r):
  aD g i (.lookup z k x ix ok) fr H=mR z ok H (some r):=by
 simp only[aD,hi,hx,mZ,hh,hm,decide_true]
theorem FE {k:IntKind} {m ix x:Operand} {g' i':Nat} {n:Int} {es:List (Value×AV)} {v:AV} (hx:ev fr m=.mref g' i') (hi:ev fr ix=.sc (.int k n)) (hv:ev fr x=v) (hh:hget H g' i'=some (.map es)) (hm:eJ k n es=some none):
  aD g i (.mapUpdate k m ix x) fr H=some (.undef,aQ H g' i' (.map (es++[(.int k n,v)]))):=by
 rw[← hv];exact zD hx hi hh hm
theorem DN {k:IntKind} {m ix x:Operand} {g' i':Nat} {n:Int} {es:List (Value×AV)} {o v:AV} (hm:ev fr m=.mref g' i') (hi:ev fr ix=.sc (.int k n)) (hv:ev fr x=v) (hh:hget H g' i'=some (.map es)) (hf:eJ k n es=some (some o)):
  aD g i (.mapUpdate k m ix x) fr H=some (.undef,aQ H g' i' (.map (tW n v es))):=by
 subst hv;simp only[aD,hm,hi,decide_true,hh,hf]
theorem DT {x:Operand} {cs:List AV} {n:Nat} (hx:(ev fr x).cs=some cs) (h1:cs.all AV.cell1=true) (hn:cs.length=n):aD g i (.box x) fr H=some (.ptr g i 0 0,aQ H g i (.cells n [cs])):=by
 subst hn;simp only[aD,hx,h1]
end
theorem Sub.put {k N:Nat} {fr:Fr} {H:Heap} {t:Nat} {v:AV} (h:Le (fr.get t) v):Sub k N fr H ((t,v)::fr) H:=by
 intro M J tmps w hF hH hM;refine⟨M,J,.refl k hH hM,hF.1,fun u=>?_⟩
 have key:Le (fr.get u) (Fr.get ((t,v)::fr) u):=by
  show Le (fr.get u) (match Nat.beq t u with | true=>v | false=>Fr.get fr u);split
  ·rename_i e
   have:t=u:=nEb e;subst this;exact h
  ·exact Le.refl _
 exact key M J _ (hF.2 u)
theorem Reg.fn {P:Program} {N k:Nat} {xs:List IOper} {fr:Fr} {H:Heap} {K:Fr→Heap→Prop} {f:FuncId} (t:Nat) (h1:fr.get t=.sc (.func (.func f) #[] #[])) (h:Reg P N k xs ((t,.clo (.func f) [] [])::fr) H K):Reg P N k xs fr H K:=
 Reg.sub (Sub.put (by rw[h1]; exact Le.func f)) h
def gZ:List Nat→cA→cA
 | [],c=>c
 | 0::l,.seq a _=>gZ l a
 | _::l,.seq _ b=>gZ l b
 | 0::l,.cond _ a _=>gZ l a
 | _::l,.cond _ _ b=>gZ l b
 | _::l,.block _ a=>gZ l a
 | _::l,.loop a=>gZ l a
 | _,c=>c
end Go.Av
namespace Go.Av
theorem AWP.dky {P:Program} {N k:Nat} {fr:Fr} {H:Heap} {Q:Exit→Fr→Heap→Prop} {zs:List IOper} {af:List (List Nat)} (n:Nat) {d:Option Nat} {gd:Option (Nat×Bool)} {f:Cal} {args:List Operand} (fr1:Fr) (H1:Heap) (hp:P.follows .mixedOrders=true)
  (hz:zs=zs.take n++⟨d,gd,.callV f args⟩::zs.drop (n+1)) (hl:(zs.take n).length=n)
  (hlow:rV 0 af=true) (h1:((List.range n).all fun j=>j5 af af.length j n)=true) (h2:((List.range (zs.drop (n+1)).length).all fun j=>j5 af af.length n (n+1+j))=true)
  (h:DK P H.length 0 (zs.take n) fr (H++[List.replicate (zs.take n).length .dead]) [] fun R1 fr0 H0=>tF af 0 R1 0 R1=true∧Sub k N fr0 H0 fr1 H1)
  (hy:gok fr1 gd=some true∧k≤H1.length∧∃ g i,evC P fr1 f=.yld g i∧eP P g i (avals fr1 args) H1 fun b H2=>
   DK P H2.length 0 (zs.drop (n+1)) (fr1.put d (.sc (.bool b))) (H2++[List.replicate (zs.drop (n+1)).length .dead]) [] fun R2 fr3 H3=>tF af (n+1) R2 0 R2=true∧Q .normal fr3 H3):AWP P N k (.draw zs af) Q fr H:=by
 obtain⟨R1,fr0,H0,hr,hs,hsub⟩:=h;rw[List.reverse_nil,List.nil_append] at hs;obtain⟨k1,k2,g,i,k3,k4⟩:=hy;refine AWP.drawYld (R1:=R1) (fr0:=fr0) (H0:=H0) (fr1:=fr1) (H1:=H1) hz hp hlow (fun j hj=>?_) (fun j hj=>?_) hr (.of hs) hsub ⟨k1,k2,g,i,k3,k4.mono fun b H2 hk=>?_⟩
 ·rw[hl] at hj ⊢
  exact List.all_eq_true.1 h1 j (List.mem_range.2 hj)
 ·rw[hl]
  exact List.all_eq_true.1 h2 j (List.mem_range.2 hj)
 ·obtain⟨R2,fr3,H3,hr2,hs2,hq⟩:=hk
  rw[List.reverse_nil,List.nil_append] at hs2;exact⟨R2,fr3,H3,hr2,by rw[hl]; exact .of hs2,hq⟩
end Go.Av
