import Derived.Test.YtgdocflpobncmaaGreatGAvMv
import Derived.Test.YtgdocflpobncmaaGreatGAvQ
import Derived.Test.YtgdocflpobncmaaGreatGAvL
import Derived.Test.YtgdocflpobncmaaGreatGAvZ
namespace Go.Av
def sg (ρ':Nat→Nat→Option (Nat×Nat)) (m n a b:Nat):Option (Nat×Nat):=match Nat.blt a m with
 | true=>ρ' a b
 | false=>some (a - m+n,b)
theorem mZ {ρ':Nat→Nat→Option (Nat×Nat)} {m n a b:Nat} (h:a < m):sg ρ' m n a b=ρ' a b:=by
 have e:Nat.blt a m=true:=by simpa[Nat.blt_eq] using h
 simp only[sg,e]
theorem qJ {ρ':Nat→Nat→Option (Nat×Nat)} {m n a b:Nat} (h:m≤a):sg ρ' m n a b=some (a - m+n,b):=by
 have e:Nat.blt a m=false:=by
  apply Bool.eq_false_iff.2
  intro q
  have:a < m:=by simpa[Nat.blt_eq] using q
  omega
 simp only[sg,e]
theorem aG.grow {P:Program} {f:FuncId} {args args':List AV} {H0 H:Heap} {R R':AV→Heap→Prop} (ρ ρ':Nat→Nat→Option (Nat×Nat)) (h:aG P f args' H0 R)
  (hl:args.length=args'.length) (hargs:∀(j:Nat) a b,args[j]?=some a→args'[j]?=some b→Ren ρ a b)
  (hρ:∀ g i p,ρ g i=some p→ρ' p.1 p.2=some (g,i)) (hρ':∀ g i q,ρ' g i=some q→ρ q.1 q.2=some (g,i))
  (h0:∀ g i x,hget H0 g i=some x→x.live=true∧∃ p y,ρ g i=some p∧hget H p.1 p.2=some y∧eE ρ y x)
  (hdom:∀ g i p,ρ g i=some p→(hget H0 g i).isSome)
  (hR:∀ res H',R res H'→(∀ g i,g < H0.length→(hget H' g i).isSome→(hget H0 g i).isSome)∧∃ res' H'',Ren (sg ρ' H.length H0.length) res res' ∧
   (∀ g i x,hget H'' g i=some x→x.live=true→(∃ q y,sg ρ' H.length H0.length g i=some q∧hget H' q.1 q.2=some y∧eE (sg ρ' H.length H0.length) y x)∨(sg ρ' H.length H0.length g i=none∧hget H g i=some x)) ∧
   (∀ g i,(hget H g i).isSome→(hget H'' g i).isSome)∧(∀ g i,H0.length≤g→(hget H' g i).isSome→(hget H'' (g - H0.length+H.length) i).isSome)∧R' res' H''):aG P f args H R':=by
 refine⟨h.1,fun M J w cargs e1 e2 hH hM=>?_⟩
 have hlt:∀ {H:Heap} {g i:Nat},(hget H g i).isSome→g < H.length:=fun hs=>gC hs
 have hJ1:∀ g i l,J.via ρ g i=some l→∃ p,ρ g i=some p∧J p.1 p.2=some l:=by
  intro g i l hl
  unfold Inj.via at hl
  split at hl
  ·rename_i g' i' e; exact⟨(g',i'),e,hl⟩
  ·cases hl
 have hlive0:∀ g i l,aQ H0 g i→J.via ρ g i=some l→∃ p,ρ g i=some p∧J p.1 p.2=some l∧aQ H p.1 p.2:=by
  rintro g i l ⟨x,hx,hxl⟩ hJ
  obtain⟨_,p,y,p1,p2,p3⟩:=h0 g i x hx
  obtain⟨p',q1,q2⟩:=hJ1 g i l hJ
  rw[p1] at q1
  injection q1 with q1
  subst q1
  exact⟨p,p1,q2,y,p2,p3.live hxl⟩
 have hH0:aU M (J.via ρ) H0 w.heap:=by
  refine⟨fun g i x hx hxl=>?_,fun g i g' i' l l' β a b c d e f=>?_,fun g i l β a b c=>?_,fun g i l a=>?_⟩
  ·obtain⟨_,p,y,p1,p2,p3⟩:=h0 g i x hx
   obtain⟨l,q1,q2⟩:=hH.blk p.1 p.2 y p2 (p3.live hxl)
   exact⟨l,by rw[Inj.via_some (g':=p.1) (i':=p.2) p1]; exact q1,q2.ren p3⟩
  ·obtain⟨p,p1,p2,p3⟩:=hlive0 g i l a c
   obtain⟨q,q1,q2,q3⟩:=hlive0 g' i' l' b d
   obtain⟨r1,r2⟩:=hH.inj _ _ _ _ l l' β p3 q3 p2 q2 e f
   have hpq:p=q:=Prod.ext r1 r2
   subst hpq
   have:=(hρ g i p p1).symm.trans (hρ g' i' p q1)
   injection this with this
   injection this with t1 t2
   exact⟨t1,t2⟩
  ·obtain⟨p,p1,p2,p3⟩:=hlive0 g i l a b
   exact hH.out _ _ l β p3 p2 c
  ·obtain⟨p,p1,p2⟩:=hJ1 g i l a
   exact⟨hdom g i p p1,(hH.dom _ _ l p2).2⟩
 refine(h.2 M (J.via ρ) w cargs (by omega) (fun j c v hc hv=>?_) hH0 hM).mono ?_
 ·obtain⟨a,ha⟩:=aW hl hc
  exact(e2 j a v ha hv).ren (hargs j a c ha hc)
 rintro e w' ⟨v,M',J',res,H',rfl,s,hres,hr⟩
 obtain⟨hd,res',H'',r1,r2,r3,r3b,r4⟩:=hR res H' hr
 -- the caller's old numbers are of the callee's old blocks
 have hq:∀ g i q,ρ' g i=some q→q.1 < H0.length∧g < H.length:=fun g i q e=>by
  have h1:=hρ' g i q e
  have h2:=hdom _ _ _ h1
  obtain⟨x,hx⟩:=Option.isSome_iff_exists.1 h2
  obtain⟨_,p,y,p1,p2,_⟩:=h0 _ _ x hx
  rw[h1] at p1
  injection p1 with p1
  subst p1
  exact⟨hlt h2,hlt (by rw[p2]; rfl)⟩
 have hJ':∀ g i l,g < H0.length→J' g i=some l→∃ p,ρ g i=some p∧J p.1 p.2=some l:=by
  intro g i l hg hl
  have hs:=hd g i hg (s.hrep.dom g i l hl).1
  obtain⟨x,hx⟩:=Option.isSome_iff_exists.1 hs
  obtain⟨hxl,p,y,p1,p2,p3⟩:=h0 g i x hx
  obtain⟨l1,q1,_⟩:=hH0.blk g i x hx hxl
  have:=s.j g i l1 hg q1
  rw[hl] at this
  injection this with this
  subst this
  obtain⟨p',t1,t2⟩:=hJ1 g i l q1
  exact⟨p',t1,t2⟩
 let J2:Inj:=fun a b=>if a < H.length then J a b else J' (a - H.length+H0.length) b
 have k1:∀ {a b:Nat} {l:Loc},a < H.length→J2 a b=some l→J a b=some l:=fun {a b l} h e=>by
  have:(if a < H.length then J a b else J' (a - H.length+H0.length) b)=some l:=e
  rwa[if_pos h] at this
 have k2:∀ {a b:Nat} {l:Loc},¬ a < H.length→J2 a b=some l→J' (a - H.length+H0.length) b=some l:=fun {a b l} h e=>by
  have:(if a < H.length then J a b else J' (a - H.length+H0.length) b)=some l:=e
  rwa[if_neg h] at this
 have k3:∀ {a b:Nat} {l:Loc},J a b=some l→J2 a b=some l:=fun {a b l} e=>by
  show(if a < H.length then J a b else J' (a - H.length+H0.length) b)=some l
  rw[if_pos (hlt (hH.dom a b l e).1)]
  exact e
 have hback:Ext M' (J'.via (sg ρ' H.length H0.length)) M' J2:=⟨fun _ _ h=>h,fun g i l hl=>by
  by_cases hg:g < H.length
  ·unfold Inj.via at hl
   rw[mZ hg] at hl
   split at hl
   ·rename_i g' i' e
    obtain⟨p,p1,p2⟩:=hJ' g' i' l (hq _ _ _ e).1 hl
    have:=hρ' g i _ e
    rw[p1] at this
    injection this with this
    subst this
    exact k3 p2
   ·cases hl
  ·unfold Inj.via at hl
   rw[qJ (by omega)] at hl
   show(if g < H.length then J g i else J' (g - H.length+H0.length) i)=some l
   rw[if_neg hg]
   exact hl⟩
 have hfwd:Ext M J M' J2:=⟨s.m,fun _ _ _ h=>k3 h⟩
 have hother:∀ g i l β,ρ' g i=none→aQ H g i→J g i=some l→l.blk=some β→∀ g0 i0 l0,aQ H0 g0 i0→J.via ρ g0 i0=some l0→l0.blk≠some β:=by
  intro g i l β hn hlv hJ hb g0 i0 l0 a b c
  obtain⟨p,p1,p2,p3⟩:=hlive0 g0 i0 l0 a b
  obtain⟨t1,t2⟩:=hH.inj _ _ _ _ l l0 β hlv p3 hJ p2 hb c
  have:=hρ g0 i0 p p1
  rw[← t1,← t2,hn] at this
  cases this
 have hlive':∀ g i l β,aQ H'' g i→J2 g i=some l→l.blk=some β→(∃ q,sg ρ' H.length H0.length g i=some q∧aQ H' q.1 q.2∧J' q.1 q.2=some l)∨(g < H.length∧ρ' g i=none∧aQ H g i∧J g i=some l):=by
  rintro g i l β ⟨x,hx,hxl⟩ hJ hb
  rcases r2 g i x hx hxl with⟨q,y,q1,q2,q3⟩ | ⟨q1,q2⟩
  ·left
   refine⟨q,q1,⟨y,q2,q3.live hxl⟩,?_⟩
   by_cases hg:g < H.length
   ·rw[mZ hg] at q1
    obtain⟨l',t1,_⟩:=s.hrep.blk q.1 q.2 y q2 (q3.live hxl)
    obtain⟨p,p1,p2⟩:=hJ' _ _ _ (hq _ _ _ q1).1 t1
    have:=hρ' g i q q1
    rw[p1] at this
    injection this with this
    subst this
    rw[k1 hg hJ] at p2
    injection p2 with p2
    subst p2
    exact t1
   ·rw[qJ (by omega)] at q1
    injection q1 with q1
    subst q1
    exact k2 hg hJ
  ·by_cases hg:g < H.length
   ·rw[mZ hg] at q1
    exact .inr ⟨hg,q1,⟨x,q2,hxl⟩,k1 hg hJ⟩
   ·rw[qJ (by omega)] at q1
    cases q1
 refine⟨v,M',J2,res',H'',rfl,⟨s.m,fun _ _ _ _ h=>k3 h,⟨?_,?_,?_,?_⟩,s.mrep,s.os,s.tape,s.output,s.size,?_,?_,?_,s.bk⟩,(hres.ren r1).ext hback,r4⟩
 ·intro g i x hx hxl
  rcases r2 g i x hx hxl with⟨q,y,q1,q2,q3⟩ | ⟨q1,q2⟩
  ·obtain⟨l,t1,t2⟩:=s.hrep.blk q.1 q.2 y q2 (q3.live hxl)
   refine⟨l,hback.j g i l (by rw[Inj.via_some (g':=q.1) (i':=q.2) q1]; exact t1),(t2.ren q3).ext hback fun _ _=>rfl⟩
  ·have hg:g < H.length:=by
    refine Decidable.byContradiction fun hg=>?_
    rw[qJ (by omega)] at q1
    cases q1
   rw[mZ hg] at q1
   obtain⟨l,t1,t2⟩:=hH.blk g i x q2 hxl
   refine⟨l,k3 t1,t2.ext hfwd fun β hβ=>?_⟩
   have hb:=(hH.dom g i l t1).2 β hβ
   rw[Array.getElem?_eq_getElem hb]
   exact s.frame β _ (Array.getElem?_eq_getElem hb) (hother g i l β q1 ⟨x,q2,hxl⟩ t1 hβ)
 ·intro g i g' i' l l' β a b c d e f
  rcases hlive' g i l β a c e with⟨q,q1,q2,q3⟩ | ⟨q0,q1,q2,q3⟩<;>rcases hlive' g' i' l' β b d f with⟨p,p1,p2,p3⟩ | ⟨p0,p1,p2,p3⟩
  ·obtain⟨t1,t2⟩:=s.hrep.inj _ _ _ _ l l' β q2 p2 q3 p3 e f
   have hpq:q=p:=Prod.ext t1 t2
   subst hpq
   by_cases hg:g < H.length<;>by_cases hg':g' < H.length
   ·rw[mZ hg] at q1
    rw[mZ hg'] at p1
    have:=(hρ' g i q q1).symm.trans (hρ' g' i' q p1)
    injection this with this
    injection this with t1 t2
    exact⟨t1,t2⟩
   ·rw[mZ hg] at q1
    rw[qJ (by omega)] at p1
    have:=(hq _ _ _ q1).1
    injection p1 with p1
    rw[← p1] at this
    simp only at this
    omega
   ·rw[qJ (by omega)] at q1
    rw[mZ hg'] at p1
    have:=(hq _ _ _ p1).1
    injection q1 with q1
    rw[← q1] at this
    simp only at this
    omega
   ·rw[qJ (by omega)] at q1 p1
    rw[← q1] at p1
    injection p1 with p1
    injection p1 with t1 t2
    exact⟨by omega,t2.symm⟩
  ·exfalso
   rcases s.live _ _ l β q2 q3 e with⟨g0,i0,l0,u1,u2,u3⟩ | u
   ·exact hother g' i' l' β p1 p2 p3 f g0 i0 l0 u1 u2 u3
   ·have:=(hH.dom g' i' l' p3).2 β f; omega
  ·exfalso
   rcases s.live _ _ l' β p2 p3 f with⟨g0,i0,l0,u1,u2,u3⟩ | u
   ·exact hother g i l β q1 q2 q3 e g0 i0 l0 u1 u2 u3
   ·have:=(hH.dom g i l q3).2 β e; omega
  ·exact hH.inj g i g' i' l l' β q2 p2 q3 p3 e f
 ·intro g i l β a b c
  rcases hlive' g i l β a b c with⟨q,q1,q2,q3⟩ | ⟨q0,q1,q2,q3⟩
  ·exact s.hrep.out _ _ l β q2 q3 c
  ·cases e:M' β with
   | none=>rfl
   | some o=>
    exfalso
    rcases s.fresh β o e with u | u | ⟨g0,i0,l0,u1,u2,u3⟩
    ·rw[hH.out g i l β q2 q3 c] at u; cases u
    ·have:=(hH.dom g i l q3).2 β c; omega
    ·exact hother g i l β q1 q2 q3 c g0 i0 l0 u1 u2 u3
 ·intro g i l a
  by_cases hg:g < H.length
  ·have:=hH.dom g i l (k1 hg a)
   exact⟨r3 g i this.1,fun β hβ=>Nat.lt_of_lt_of_le (this.2 β hβ) s.size⟩
  ·have:=s.hrep.dom _ _ l (k2 hg a)
   have h1:=r3b _ i (by omega) this.1
   rw[show g - H.length+H0.length - H0.length+H.length=g by omega] at h1
   exact⟨h1,this.2⟩
 ·intro β o ho hn
  refine s.frame β o ho fun g0 i0 l0 a b c=>?_
  obtain⟨p,p1,p2,p3⟩:=hlive0 g0 i0 l0 a b
  exact hn _ _ l0 p3 p2 c
 ·intro β o ho
  rcases s.fresh β o ho with u | u | ⟨g0,i0,l0,u1,u2,u3⟩
  ·exact .inl u
  ·exact .inr (.inl u)
  ·obtain⟨p,p1,p2,p3⟩:=hlive0 g0 i0 l0 u1 u2
   exact .inr (.inr ⟨_,_,l0,p3,p2,u3⟩)
 ·intro g i l β a b c
  rcases hlive' g i l β a b c with⟨q,q1,q2,q3⟩ | ⟨q0,q1,q2,q3⟩
  ·rcases s.live _ _ l β q2 q3 c with⟨g0,i0,l0,u1,u2,u3⟩ | u
   ·obtain⟨p,p1,p2,p3⟩:=hlive0 g0 i0 l0 u1 u2
    exact .inl ⟨_,_,l0,p3,p2,u3⟩
   ·exact .inr u
  ·exact .inl ⟨g,i,l,q2,q3,c⟩
theorem aG.ins {P:Program} {f:FuncId} {args:List AV} {H0:Heap} (G:Heap) {R R':AV→Heap→Prop} (h:aG P f args H0 R) (hc:O8 H0 H0) (ha:∀ a∈args,Ren (idH H0) a a)
  (hR:∀ res H',R res H'→∃ res' H1 X H1' X',H'=H1++X∧H1.length=H0.length∧H1'.length=H0.length∧(∀ g i,(hget H1 g i).isSome→(hget H0 g i).isSome)∧Ren (sg (idH H0) (H0++G).length H0.length) res res' ∧
   (∀ g i x,hget H1' g i=some x→x.live=true→∃ y,hget H1 g i=some y∧(hget H0 g i).isSome∧eE (sg (idH H0) (H0++G).length H0.length) y x)∧(∀ g i,(hget H0 g i).isSome→(hget H1' g i).isSome) ∧
   (∀ g i x,hget X' g i=some x→x.live=true→∃ y,hget X g i=some y∧eE (sg (idH H0) (H0++G).length H0.length) y x)∧(∀ g i,(hget X g i).isSome→(hget X' g i).isSome)∧R' res' (H1'++G++X')):aG P f args (H0++G) R':=by
 refine aG.grow (idH H0) (idH H0) h rfl (fun j a b e1 e2=>?_) (fun a b p e=>?_) (fun a b q e=>?_) (fun a b y e=>?_) (fun a b p e=>?_) fun res H' hr=>?_
 ·rw[e1] at e2
  injection e2 with e2
  subst e2
  exact ha a (List.mem_of_getElem? e1)
 ·obtain⟨h1,rfl⟩:=sF e
  exact pK h1
 ·obtain⟨h1,rfl⟩:=sF e
  exact pK h1
 ·have hs:(hget H0 a b).isSome=true:=by rw[e]; rfl
  obtain⟨h1,h2⟩:=hc.blk a b y e
  exact⟨h1,(a,b),y,pK hs,by rw[cF (gC hs)]; exact e,h2⟩
 ·exact(sF e).1
 ·obtain⟨res',H1,X,H1',X',rfl,l1,l1',d1,q1,q2,q3,q4,q5,q6⟩:=hR res H' hr
  have hm:(H0++G).length=H0.length+G.length:=List.length_append
  have hm1:(H1'++G).length=H0.length+G.length:=by rw[List.length_append,l1']
  refine⟨fun g i hg hs=>?_,res',H1'++G++X',q1,fun g i x hx hl=>?_,fun g i hs=>?_,fun g i hg hs=>?_,q6⟩
  ·rw[cF (by omega)] at hs
   exact d1 g i hs
  ·by_cases g1:g < H0.length
   ·rw[List.append_assoc,cF (by omega)] at hx
    obtain⟨y,y1,y2,y3⟩:=q2 g i x hx hl
    refine .inl ⟨(g,i),y,?_,by rw[cF (by omega)]; exact y1,y3⟩
    rw[mZ (by omega)]
    exact pK y2
   ·by_cases g2:g < (H0++G).length
    ·refine .inr ⟨?_,?_⟩
     ·rw[mZ g2]
      exact JT fun hs=>g1 (gC hs)
     ·rw[cF (by rw[List.length_append]; omega),cE (by omega)] at hx
      rw[cE (by omega),← l1']
      exact hx
    ·rw[cE (by rw[List.length_append]; omega)] at hx
     obtain⟨y,y1,y2⟩:=q4 _ i x hx hl
     refine .inl ⟨_,y,qJ (by omega),?_,y2⟩
     simp only
     rw[cE (by omega)]
     rw[← y1]
     congr 1
     omega
  ·by_cases g1:g < H0.length
   ·rw[cF g1] at hs
    rw[List.append_assoc,cF (by omega)]
    exact q3 g i hs
   ·rw[cE (by omega)] at hs
    rw[cF (by rw[List.length_append]; have:=gC hs; omega),cE (by omega),l1']
    exact hs
  ·rw[cE (by omega)] at hs
   rw[cE (by rw[List.length_append]; omega)]
   have:=q5 _ i hs
   rw[← this]
   congr 2
   omega
end Go.Av
namespace Go.Av
section
variable {g i:Nat} {fr:Fr} {H:Heap}
theorem yS {z:AV} {k:IntKind} {x ix:Operand} {g' i':Nat} {n:Int} {es:List (Value×AV)} {ok:Bool} {r:Option AV} (hx:ev fr x=.mref g' i') (hi:ev fr ix=.sc (.int k n)) (hh:hget H g' i'=some (.map es)) (hm:hO k n es=some r):
  aE g i (.lookup z k x ix ok) fr H=mM z ok H (some r):=by
 simp only[aE,hi,hx,mV,hh,hm,decide_true]
theorem BZ {x:Operand} {cs:List AV} {n:Nat} (hx:(ev fr x).cs=some cs) (h1:cs.all AV.cell1=true) (hn:cs.length=n):aE g i (.box x) fr H=some (.ptr g i 0 0,aP H g i (.cells n [cs])):=by
 subst hn
 simp only[aE,hx,h1]
end
theorem Sub.put {k N:Nat} {fr:Fr} {H:Heap} {t:Nat} {v:AV} (h:Le (fr.get t) v):Sub k N fr H ((t,v)::fr) H:=by
 intro M J tmps w hF hH hM
 refine⟨M,J,.refl k hH hM,hF.1,fun u=>?_⟩
 have key:Le (fr.get u) (Fr.get ((t,v)::fr) u):=by
  show Le (fr.get u) (match Nat.beq t u with | true=>v | false=>Fr.get fr u)
  split
  ·rename_i e
   have:t=u:=Nat.eq_of_beq_eq_true e
   subst this
   exact h
  ·exact Le.refl _
 exact key M J _ (hF.2 u)
theorem Reg.fn {P:Program} {N k:Nat} {xs:List IOper} {fr:Fr} {H:Heap} {K:Fr→Heap→Prop} {f:FuncId} (t:Nat) (h1:fr.get t=.sc (.func (.func f) #[] #[])) (h:Reg P N k xs ((t,.clo (.func f) [] [])::fr) H K):Reg P N k xs fr H K:=
 Reg.sub (Sub.put (by rw[h1]; exact Le.func f)) h
def iC:List Nat→cA→cA
 | [],c=>c
 | 0::l,.seq a _=>iC l a
 | _::l,.seq _ b=>iC l b
 | 0::l,.cond _ a _=>iC l a
 | _::l,.cond _ _ b=>iC l b
 | _::l,.block _ a=>iC l a
 | _::l,.loop a=>iC l a
 | _,c=>c
end Go.Av
namespace Go.Av
theorem AWP.dky {P:Program} {N k:Nat} {fr:Fr} {H:Heap} {Q:Exit→Fr→Heap→Prop} {zs:List IOper} {af:List (List Nat)} (n:Nat) {d:Option Nat} {gd:Option (Nat×Bool)} {f:Cal} {args:List Operand} (fr1:Fr) (H1:Heap) (hp:P.follows .mixedOrders=true)
  (hz:zs=zs.take n++⟨d,gd,.callV f args⟩::zs.drop (n+1)) (hl:(zs.take n).length=n)
  (hlow:pY 0 af=true) (h1:((List.range n).all fun j=>iX af af.length j n)=true) (h2:((List.range (zs.drop (n+1)).length).all fun j=>iX af af.length n (n+1+j))=true)
  (h:DK P H.length 0 (zs.take n) fr (H++[List.replicate (zs.take n).length .dead]) [] fun R1 fr0 H0=>qT af 0 R1 0 R1=true∧Sub k N fr0 H0 fr1 H1)
  (hy:gok fr1 gd=some true∧k≤H1.length∧∃ g i,evC P fr1 f=.yld g i∧dW P g i (avals fr1 args) H1 fun b H2=>
   DK P H2.length 0 (zs.drop (n+1)) (fr1.put d (.sc (.bool b))) (H2++[List.replicate (zs.drop (n+1)).length .dead]) [] fun R2 fr3 H3=>qT af (n+1) R2 0 R2=true∧Q .normal fr3 H3):AWP P N k (.draw zs af) Q fr H:=by
 obtain⟨R1,fr0,H0,hr,hs,hsub⟩:=h
 rw[List.reverse_nil,List.nil_append] at hs
 obtain⟨k1,k2,g,i,k3,k4⟩:=hy
 refine AWP.drawYld (R1:=R1) (fr0:=fr0) (H0:=H0) (fr1:=fr1) (H1:=H1) hz hp hlow (fun j hj=>?_) (fun j hj=>?_) hr (.of hs) hsub ⟨k1,k2,g,i,k3,k4.mono fun b H2 hk=>?_⟩
 ·rw[hl] at hj ⊢
  exact List.all_eq_true.1 h1 j (List.mem_range.2 hj)
 ·rw[hl]
  exact List.all_eq_true.1 h2 j (List.mem_range.2 hj)
 ·obtain⟨R2,fr3,H3,hr2,hs2,hq⟩:=hk
  rw[List.reverse_nil,List.nil_append] at hs2
  exact⟨R2,fr3,H3,hr2,by rw[hl]; exact .of hs2,hq⟩
end Go.Av
namespace Go.Av
noncomputable def dfL (f:AV→Option AV) (l:List AV):Option (List AV):=List.rec (motive:=fun _=>Option (List AV)) (some []) (fun a _ ih=>match f a with
 | some b=>match ih with
  | some r=>some (b::r)
  | none=>none
 | none=>none) l
noncomputable def dfR (f:AV→Option AV) (l:List (List AV)):Option (List (List AV)):=List.rec (motive:=fun _=>Option (List (List AV))) (some []) (fun a _ ih=>match dfL f a with
 | some b=>match ih with
  | some r=>some (b::r)
  | none=>none
 | none=>none) l
noncomputable def dfA (H:Heap) (f:AV→Option AV) (a:AV):Option AV:=
 match a with
 | .undef=>some .undef
 | .sc v=>some (.sc v)
 | .one=>some .one
 | .agg cs=>match dfL f cs with
  | some r=>some (.agg r)
  | none=>none
 | .tup cs=>match dfL f cs with
  | some r=>some (.tup r)
  | none=>none
 | .cptr cs=>match dfL f cs with
  | some r=>some (.cptr r)
  | none=>none
 | .list sz rows=>match dfR f rows with
  | some r=>some (.list sz r)
  | none=>none
 | .clo fn fs cs=>match dfL f fs with
  | some r=>match dfL f cs with
   | some q=>some (.clo fn r q)
   | none=>none
  | none=>none
 | .hsl g i s l=>match lP H g i with
  | some (.cells sz rows)=>match Nat.ble (s+l) rows.length with
   | true=>match dfR f ((rows.drop s).take l) with
    | some r=>some (.list sz r)
    | none=>none
   | false=>none
  | _=>none
 | .ptr g i row 0=>match lP H g i with
  | some (.cells _ rows)=>match lM rows row with
   | some r=>match dfL f r with
    | some q=>some (.cptr q)
    | none=>none
   | none=>none
  | _=>none
 | _=>none
noncomputable def dfz (H:Heap) (n:Nat):AV→Option AV:=
 Nat.rec (motive:=fun _=>AV→Option AV) (fun _=>none) (fun _ ih a=>dfA H ih a) n
section
variable {H:Heap} {n:Nat}
abbrev DF (H:Heap) (n:Nat) (a b:AV):Prop:=To (ToT H n (cX [])) (rho []) a b∧bG b
theorem f9 {f:AV→Option AV} (hf:∀ a b,f a=some b→DF H n a b):∀(l m:List AV),dfL f l=some m→ToL (ToT H n (cX [])) (rho []) l m∧∀ c∈m,bG c
 | [],m,h=>by injection h with h; subst h; exact⟨ToL.nil,fun c hc=>by cases hc⟩
 | a::l,m,h=>by
  replace h:(match f a with | some b=>(match dfL f l with | some r=>some (b::r) | none=>none) | none=>none)=some m:=h
  split at h
  ·rename_i b e1
   split at h
   ·rename_i r e2
    injection h with h
    subst h
    obtain⟨h1,h2⟩:=hf a b e1
    obtain⟨h3,h4⟩:=f9 hf l r e2
    exact⟨ToL.cons h1 h3,fun c hc=>by
     rcases List.mem_cons.1 hc with rfl | hc
     ·exact h2
     ·exact h4 c hc⟩
   ·cases h
  ·cases h
theorem sK {f:AV→Option AV} (hf:∀ a b,f a=some b→DF H n a b):∀(l m:List (List AV)),dfR f l=some m→ToR (ToT H n (cX [])) (rho []) l m∧∀ r∈m,∀ c∈r,bG c
 | [],m,h=>by injection h with h; subst h; exact⟨ToR.nil,fun c hc=>by cases hc⟩
 | a::l,m,h=>by
  replace h:(match dfL f a with | some b=>(match dfR f l with | some r=>some (b::r) | none=>none) | none=>none)=some m:=h
  split at h
  ·rename_i b e1
   split at h
   ·rename_i r e2
    injection h with h
    subst h
    obtain⟨h1,h2⟩:=f9 hf a b e1
    obtain⟨h3,h4⟩:=sK hf l r e2
    exact⟨ToR.cons h1 h3,fun c hc=>by
     rcases List.mem_cons.1 hc with rfl | hc
     ·exact h2
     ·exact h4 c hc⟩
   ·cases h
  ·cases h
theorem sS:∀(d:Nat) (a b:AV),dfz H d a=some b→DF H n a b
 | 0,a,b,h=>by cases h
 | d+1,a,b,h=>by
  have ih:=sS d
  replace h:dfA H (dfz H d) a=some b:=h
  unfold dfA at h
  split at h
  ·injection h with h; subst h; exact⟨.undef _,.undef⟩
  ·injection h with h; subst h; exact⟨.sc _,.sc _⟩
  ·injection h with h; subst h; exact⟨.one,.one⟩
  ·split at h
   ·rename_i r e
    injection h with h; subst h
    obtain⟨h1,h2⟩:=f9 ih _ _ e
    exact⟨To.aggL h1,.agg _ h2⟩
   ·cases h
  ·split at h
   ·rename_i r e
    injection h with h; subst h
    obtain⟨h1,h2⟩:=f9 ih _ _ e
    exact⟨To.tupL h1,.tup _ h2⟩
   ·cases h
  ·split at h
   ·rename_i r e
    injection h with h; subst h
    obtain⟨h1,h2⟩:=f9 ih _ _ e
    exact⟨To.cptrL h1,.cptr _ h2⟩
   ·cases h
  ·split at h
   ·rename_i r e
    injection h with h; subst h
    obtain⟨h1,h2⟩:=sK ih _ _ e
    exact⟨To.listR h1,.list _ _ h2⟩
   ·cases h
  ·split at h
   ·rename_i r e
    split at h
    ·rename_i q e2
     injection h with h; subst h
     obtain⟨h1,h2⟩:=f9 ih _ _ e
     obtain⟨h3,h4⟩:=f9 ih _ _ e2
     exact⟨To.cloL h1 h3,.clo _ _ _ h2 h4⟩
    ·cases h
   ·cases h
  ·rename_i g i s l
   rw[fG] at h
   split at h
   ·rename_i sz rows e
    split at h
    ·rename_i hb
     split at h
     ·rename_i r e2
      injection h with h; subst h
      obtain⟨h1,h2⟩:=sK ih _ _ e2
      exact⟨.base (.fz (.hsl g i s l sz rows rfl e (nlB hb))) (To.listR h1),.list _ _ h2⟩
     ·cases h
    ·cases h
   ·cases h
  ·rename_i g i row
   rw[fG] at h
   split at h
   ·rename_i sz rows e
    rw[fH] at h
    split at h
    ·rename_i r e1
     split at h
     ·rename_i q e2
      injection h with h; subst h
      obtain⟨h1,h2⟩:=f9 ih _ _ e2
      exact⟨To.fzp e rfl e1 (To.cptrL h1),.cptr _ h2⟩
     ·cases h
    ·cases h
   ·cases h
  ·cases h
theorem OT (d:Nat) (H:Heap) (a b:AV) (h:dfz H d a=some b):fD 0 H a [] b∧bG b:=by
 obtain⟨h1,h2⟩:=sS (n:=H.length) d a b h
 refine⟨?_,h2⟩
 have e:H++gh []=H:=List.append_nil H
 refine fD.to (k:=0) [] [] (by rw[e]; exact h1) ?_ rfl rfl rfl
 exact aK.nil
end
noncomputable def FT.toFr (T:FT):(Nat→Nat)→Fr→Fr:=
 FT.rec (motive:=fun _=>(Nat→Nat)→Fr→Fr) (fun _ r=>r)
  (fun v _ _ ihl ihr pos r=>match v with
   | .undef=>ihl (fun n=>pos (Nat.succ (Nat.mul 2 n))) (ihr (fun n=>pos (Nat.succ (Nat.succ (Nat.mul 2 n)))) r)
   | v=>(pos 0,v)::ihl (fun n=>pos (Nat.succ (Nat.mul 2 n))) (ihr (fun n=>pos (Nat.succ (Nat.succ (Nat.mul 2 n)))) r)) T
theorem FT.toFr_mem:∀(T:FT) (pos:Nat→Nat) (r:Fr) (x:Nat×AV),x∈T.toFr pos r→x∈r∨∃ n,x.1=pos n∧T.get n=x.2:=by
 intro T
 induction T with
 | leaf=>intro pos r x h; exact .inl h
 | node v l rr ihl ihr=>
  intro pos r x h
  have key:x∈FT.toFr l (fun n=>pos (Nat.succ (Nat.mul 2 n))) (FT.toFr rr (fun n=>pos (Nat.succ (Nat.succ (Nat.mul 2 n)))) r)→x∈r∨∃ n,x.1=pos n∧(FT.node v l rr).get n=x.2:=by
   intro h
   rcases ihl _ _ _ h with h | ⟨n,h1,h2⟩
   ·rcases ihr _ _ _ h with h | ⟨n,h1,h2⟩
    ·exact .inl h
    ·refine .inr ⟨Nat.succ (Nat.succ (Nat.mul 2 n)),h1,?_⟩
     show(match Nat.beq (Nat.mod (Nat.succ (Nat.mul 2 n)) 2) 0 with | true=>l.get (Nat.div (Nat.succ (Nat.mul 2 n)) 2) | false=>rr.get (Nat.div (Nat.succ (Nat.mul 2 n)) 2))=x.2
     have e1:Nat.mod (Nat.succ (Nat.mul 2 n)) 2=1:=by show(2 * n+1) % 2=1; omega
     have e2:Nat.div (Nat.succ (Nat.mul 2 n)) 2=n:=by show(2 * n+1) / 2=n; omega
     rw[e1,e2]
     exact h2
   ·refine .inr ⟨Nat.succ (Nat.mul 2 n),h1,?_⟩
    show(match Nat.beq (Nat.mod (Nat.mul 2 n) 2) 0 with | true=>l.get (Nat.div (Nat.mul 2 n) 2) | false=>rr.get (Nat.div (Nat.mul 2 n) 2))=x.2
    have e1:Nat.mod (Nat.mul 2 n) 2=0:=by show(2 * n) % 2=0; omega
    have e2:Nat.div (Nat.mul 2 n) 2=n:=by show(2 * n) / 2=n; omega
    rw[e1,e2]
    exact h2
  have key2:x∈((pos 0,v)::FT.toFr l (fun n=>pos (Nat.succ (Nat.mul 2 n))) (FT.toFr rr (fun n=>pos (Nat.succ (Nat.succ (Nat.mul 2 n)))) r))→x∈r∨∃ n,x.1=pos n∧(FT.node v l rr).get n=x.2:=by
   intro h
   rcases List.mem_cons.1 h with rfl | h
   ·exact .inr ⟨0,rfl,rfl⟩
   ·exact key h
  cases v<;>first | exact key h | exact key2 h
theorem FT.toFr_sub:∀(T:FT) (pos:Nat→Nat) (r:Fr) (x:Nat×AV),x∈r→x∈T.toFr pos r:=by
 intro T
 induction T with
 | leaf=>intro pos r x h; exact h
 | node v l rr ihl ihr=>
  intro pos r x h
  have key:=ihl (fun n=>pos (Nat.succ (Nat.mul 2 n))) _ x (ihr (fun n=>pos (Nat.succ (Nat.succ (Nat.mul 2 n)))) r x h)
  cases v<;>first | exact key | exact List.mem_cons_of_mem _ key
theorem FT.mem_toFr:∀(T:FT) (pos:Nat→Nat) (r:Fr) (n:Nat),T.get n≠.undef→(pos n,T.get n)∈T.toFr pos r:=by
 intro T
 induction T with
 | leaf=>intro pos r n h; exact absurd (by cases n<;>rfl) h
 | node v l rr ihl ihr=>
  intro pos r n h
  have cons:∀ {x:Nat×AV},x∈FT.toFr l (fun n=>pos (Nat.succ (Nat.mul 2 n))) (FT.toFr rr (fun n=>pos (Nat.succ (Nat.succ (Nat.mul 2 n)))) r)→x∈FT.toFr (.node v l rr) pos r:=by
   intro x hx
   cases v<;>first | exact hx | exact List.mem_cons_of_mem _ hx
  cases n with
  | zero=>
   replace h:v≠.undef:=h
   show(pos 0,v)∈_
   cases v<;>first | exact absurd rfl h | exact List.mem_cons_self ..
  | succ m=>
   have hg:(FT.node v l rr).get (m+1)=match Nat.beq (Nat.mod m 2) 0 with | true=>l.get (Nat.div m 2) | false=>rr.get (Nat.div m 2):=rfl
   rw[hg] at h ⊢
   cases hb:Nat.beq (Nat.mod m 2) 0 with
   | true=>
    rw[hb] at h
    have e:=Nat.eq_of_beq_eq_true hb
    have:=ihl (fun n=>pos (Nat.succ (Nat.mul 2 n))) (FT.toFr rr (fun n=>pos (Nat.succ (Nat.succ (Nat.mul 2 n)))) r) (Nat.div m 2) h
    have e2:Nat.succ (Nat.mul 2 (Nat.div m 2))=m+1:=by
     show 2 * (m / 2)+1=m+1
     have:m % 2=0:=e
     omega
    simp only[e2] at this
    exact cons this
   | false=>
    rw[hb] at h
    have:=ihr (fun n=>pos (Nat.succ (Nat.succ (Nat.mul 2 n)))) r (Nat.div m 2) h
    have e2:Nat.succ (Nat.succ (Nat.mul 2 (Nat.div m 2)))=m+1:=by
     show 2 * (m / 2)+2=m+1
     have:¬ m % 2=0:=fun e=>by
      have:Nat.beq (Nat.mod m 2) 0=true:=by
       show Nat.beq (m % 2) 0=true
       rw[e]; rfl
      rw[this] at hb; cases hb
     omega
    simp only[e2] at this
    exact cons (FT.toFr_sub l _ _ _ this)
noncomputable def FT.fr (T:FT):Fr:=T.toFr (fun n=>n) []
theorem FT.fr_le {T:FT} {fr:Fr} (h:AgT fr T):∀ x∈T.fr,Le (fr.get x.1) x.2:=by
 intro x hx
 rcases FT.toFr_mem T _ _ x hx with h0 | ⟨n,h1,h2⟩
 ·simp at h0
 ·rw[h1,h n,h2]
  exact fun _ _ _ h=>h
theorem FT.fr_ag (T:FT):AgT T.fr T:=by
 have get_mem:∀(l:Fr) (t:Nat),Fr.get l t=.undef∨(t,Fr.get l t)∈l:=by
  intro l t
  induction l with
  | nil=>exact .inl rfl
  | cons p l ih=>
   obtain⟨d,v⟩:=p
   show(match Nat.beq d t with | true=>v | false=>Fr.get l t)=.undef∨(t,(match Nat.beq d t with | true=>v | false=>Fr.get l t))∈_
   cases hb:Nat.beq d t with
   | true=>
    have:=Nat.eq_of_beq_eq_true hb
    subst this
    exact .inr (List.mem_cons_self ..)
   | false=>
    rcases ih with h | h
    ·exact .inl h
    ·exact .inr (List.mem_cons_of_mem _ h)
 have mem_get:∀(l:Fr) (t:Nat) (v:AV),(t,v)∈l→(t,Fr.get l t)∈l:=by
  intro l t v h
  induction l with
  | nil=>cases h
  | cons p l ih=>
   obtain⟨d,u⟩:=p
   show(t,(match Nat.beq d t with | true=>u | false=>Fr.get l t))∈_
   cases hb:Nat.beq d t with
   | true=>
    have:=Nat.eq_of_beq_eq_true hb
    subst this
    exact List.mem_cons_self ..
   | false=>
    rcases List.mem_cons.1 h with h | h
    ·injection h with h1 h2
     subst h1
     simp at hb
    ·exact List.mem_cons_of_mem _ (ih h)
 have val:∀(t:Nat) (v:AV),(t,v)∈T.fr→T.get t=v:=by
  intro t v h
  rcases FT.toFr_mem T _ _ _ h with h0 | ⟨n,h1,h2⟩
  ·simp at h0
  ·simp only at h1 h2
   rw[h1,h2]
 intro t
 by_cases hu:T.get t=.undef
 ·rcases get_mem T.fr t with h | h
  ·rw[h,hu]
  ·exact(val _ _ h).symm
 ·have:=FT.mem_toFr T (fun n=>n) [] t hu
  exact(val _ _ (mem_get _ _ _ this)).symm
noncomputable def H7 (l:Fr):FT→Option FT:=
 List.rec (motive:=fun _=>FT→Option FT) (fun T=>some T) (fun p _ ih T=>match ih T with
  | some T'=>T'.putK p.1 p.2
  | none=>none) l
theorem AG:∀(l:Fr) (T T':FT) (fr:Fr),H7 l T=some T'→AgT fr T→AgT (l++fr) T'
 | [],T,T',fr,h,ha=>by injection h with h; subst h; exact ha
 | p::l,T,T',fr,h,ha=>by
  replace h:(match H7 l T with | some T'=>T'.putK p.1 p.2 | none=>none)=some T':=h
  split at h
  ·rename_i T1 e
   exact(AG l T T1 fr e ha).putK h
  ·cases h
theorem rD:∀(l:List (Nat×AV)) (fr:Fr),putL fr l=l.reverse++fr
 | [],fr=>rfl
 | p::l,fr=>by
  show putL (p::fr) l=_
  rw[rD l,List.reverse_cons,List.append_assoc]
  rfl
noncomputable def HO (call:cI) (k:Nat) (ys:List IOper) (d:Option Nat) (gd:Option (Nat×Bool)) (f:Cal) (args:List Operand) (other:XR):RR→XR
 | .out T H=>match gd with
  | none=>match lQ T f with
   | .yld g i=>match call.yl g i (mapK T args) H with
    | some (b,H')=>Bool.rec (motive:=fun _=>XR) .stuck (kK d (.sc (.bool b)) T H' (iY call k ys)).x (Nat.ble k (dF H))
    | none=>.stuck
   | _=>other
  | some _=>other
 | .stuck=>other
noncomputable def OG (call:cI) (k:Nat) (zs:List IOper) (T:FT) (H:Heap):XR:=
 match nF zs with
 | some (xs,⟨d,gd,.callV f args⟩,ys)=>HO call k ys d gd f args (iY call k zs T H).x (iY call k xs T H)
 | _=>(iY call k zs T H).x
noncomputable def DW (call:cI) (af:List (List Nat)) (s:Nat) (ys:List IOper) (d:Option Nat) (T:FT) (r:Option (Bool×Heap)):XR:=
 match r with
 | some (b,H)=>match d with
  | none=>iR af s ys (jD call (dF H) ys 0 T (H++[List.replicate ys.length .dead]))
  | some t=>match T.putK t (.sc (.bool b)) with
   | some T'=>iR af s ys (jD call (dF H) ys 0 T' (H++[List.replicate ys.length .dead]))
   | none=>.stuck
 | none=>.stuck
noncomputable def DQ (call:cI) (k:Nat) (af:List (List Nat)) (xs ys:List IOper) (d:Option Nat) (gd:Option (Nat×Bool)) (f:Cal) (args:List Operand) (other:XR):DR→XR
 | .out R T H=>match gd with
  | none=>match lQ T f with
   | .yld g i=>match (IZ af (dF xs) (dF ys) && uC af 0 xs R) && Nat.ble k (dF H) with
    | true=>DW call af (Nat.succ (dF xs)) ys d T (call.yl g i (mapK T args) H)
    | false=>.stuck
   | _=>other
  | some _=>other
 | .stuck=>other
noncomputable def F6 (call:cI) (k:Nat) (zs:List IOper) (af:List (List Nat)) (T:FT) (H:Heap):XR:=
 match nF zs with
 | some (xs,⟨d,gd,.callV f args⟩,ys)=>DQ call k af xs ys d gd f args (CR call k zs af T H) (jD call (dF H) xs 0 T (H++[List.replicate xs.length .dead]))
 | _=>CR call k zs af T H
noncomputable def D4 (T:FT) (h:Nat) (r:Option (AV×Heap)):XR:=
 match r with
 | some (_,H')=>match lP H' h 0 with
  | some (.lp _ _ st pe)=>match st with
   | .busy=>.stuck
   | _=>match mQ H' h 0 .dead with
    | some H2=>match pe with
     | none=>.out .normal T H2
     | some .ret=>.out .ret T H2
     | some (.exit id)=>.out (.exit id) T H2
     | _=>.stuck
    | none=>.stuck
  | _=>.stuck
 | none=>.stuck
noncomputable def BH (call:cI) (N k:Nat) (f:Operand) (ps:List Nat) (qs:Array Tmp) (ra rb:Code) (T:FT) (H:Heap):XR:=
 match T.evK f with
 | .clo (.func g) fs cs=>match Nat.ble k (dF H) && List.all ps (Nat.blt · N) with
  | true=>match mQ H (dF H) 0 (.lp ⟨N,qs,ra,rb⟩ T.fr .ready none) with
   | some H1=>D4 T (dF H) (call.run g (fs++[.yld (dF H) 0]++cs) H1)
   | none=>.stuck
  | false=>.stuck
 | _=>.stuck
noncomputable def jA (call:cI) (N k fuel:Nat) (c:cA):FT→Heap→XR:=
 cA.rec (motive:=fun _=>FT→Heap→XR)
  (fun T H=>.out .normal T H)
  (fun xs T H=>OG call k xs T H)
  (fun xs af T H=>F6 call k xs af T H)
  (fun _ _ a b T H=>JM b (a T H))
  (fun c _ _ a b T H=>JF (a T H) (b T H) (T.evK c))
  (fun id _ a T H=>GI id (a T H))
  (fun _ a T H=>C1 a fuel T H)
  (fun f ps _ _ qs ra rb _ _ T H=>BH call N k f ps qs ra rb T H)
  (fun id T H=>.out (.exit id) T H)
  (fun T H=>.out .ret T H)
  (fun _ _=>.stuck) c
def YOK (P:Program) (call:cI):Prop:=∀ g i args H b H',call.yl g i args H=some (b,H')→dW P g i args H fun b' H2=>b'=b∧H2=H'
section
variable {P:Program} {N k fuel:Nat} {call:cI}
theorem BP (hcall:c8 P call) (hy:YOK P call) {zs:List IOper} {T:FT} {H:Heap} {e:Exit} {T':FT} {H':Heap} (h:OG call k zs T H=.out e T' H') {fr:Fr} (ha:AgT fr T) {Q:Exit→Fr→Heap→Prop} (hQ:∀ fr',AgT fr' T'→Q e fr' H'):
  AWP P N k (.region zs) Q fr H:=by
 have other:∀ {e:Exit} {T':FT} {H':Heap},(iY call k zs T H).x=.out e T' H'→(∀ fr',AgT fr' T'→Q e fr' H')→AWP P N k (.region zs) Q fr H:=by
  intro e T' H' h hQ
  obtain⟨rfl,hr⟩:=RR.x_out h
  exact AWP.region (kQ hcall hQ zs T H fr hr ha)
 unfold OG at h
 split at h
 ·rename_i xs d gd f args ys hs
  unfold HO at h
  split at h
  ·rename_i T1 H1 hr
   split at h
   ·split at h
    ·rename_i g i hc
     split at h
     ·rename_i b H2 hyl
      cases hk:Nat.ble k (dF H1) with
      | false=>rw[hk] at h; cases h
      | true=>
       rw[hk] at h
       replace h:(kK d (.sc (.bool b)) T1 H2 (iY call k ys)).x=.out e T' H':=h
       obtain⟨rfl,h9⟩:=RR.x_out h
       clear h
       refine AWP.rG hs (kQ hcall (fun fr1 ha1=>?_) xs T H fr hr ha)
       refine⟨rfl,by rw[← cH]; exact nlB hk,g,i,?_,?_⟩
       ·cases f with
        | tmp t=>
         simp only[lQ,FT.getK_eq] at hc
         show rP P (fr1.get t)=_
         rw[ha1 t]
         split at hc
         ·cases hc
         ·rw[hc]
          rfl
        | meth r name tbl=>
         simp only[lQ] at hc
         split at hc
         ·split at hc<;>cases hc
         ·cases hc
       ·rw[ha1.mapK]
        refine(hy g i _ H1 b H2 hyl).mono ?_
        rintro b' H3 ⟨rfl,rfl⟩
        obtain⟨T2,h1,h2⟩:=dK h9 ha1
        exact kQ hcall hQ ys T2 _ _ h2 h1
     ·cases h
    ·exact other h hQ
   ·exact other h hQ
  ·exact other h hQ
 ·exact other h hQ
theorem GG {f:Cal} {T:FT} {fr:Fr} (ha:AgT fr T) {g i:Nat} (hc:lQ T f=.yld g i):evC P fr f=.yld g i:=by
 cases f with
 | tmp t=>
  simp only[lQ,FT.getK_eq] at hc
  show rP P (fr.get t)=_
  rw[ha t]
  split at hc
  ·cases hc
  ·rw[hc]
   rfl
 | meth r name tbl=>
  simp only[lQ] at hc
  split at hc
  ·split at hc<;>cases hc
  ·cases hc
theorem xH {af:List (List Nat)} {s:Nat} {ys:List IOper} {r:DR} {e:Exit} {T':FT} {H':Heap} (h:iR af s ys r=.out e T' H'):∃ R,r=.out R T' H'∧e=.normal∧uC af s ys R=true:=by
 unfold iR at h
 split at h
 ·rename_i R T H
  cases hc:uC af s ys R with
  | false=>rw[hc] at h; cases h
  | true=>
   rw[hc] at h
   injection h with h1 h2 h3
   subst h1; subst h2; subst h3
   exact⟨R,rfl,rfl,hc⟩
 ·cases h
theorem yE (hp:P.follows .mixedOrders=true) (hcall:c8 P call) (hy:YOK P call) {zs:List IOper} {af:List (List Nat)} {T:FT} {H:Heap} {e:Exit} {T':FT} {H':Heap} (h:F6 call k zs af T H=.out e T' H') {fr:Fr} (ha:AgT fr T)
  {Q:Exit→Fr→Heap→Prop} (hQ:∀ fr',AgT fr' T'→Q e fr' H'):AWP P N k (.draw zs af) Q fr H:=by
 unfold F6 at h
 split at h
 ·rename_i xs d gd f args ys hs
  unfold DQ at h
  split at h
  ·rename_i R T1 H1 hr
   split at h
   ·split at h
    ·rename_i g i hc
     split at h
     ·rename_i hb
      simp only[Bool.and_eq_true] at hb
      obtain⟨⟨c0,c1⟩,hk⟩:=hb
      rw[cH] at hr hk
      simp only[IZ,cH,Bool.and_eq_true,List.all_eq_true,List.mem_range] at c0
      obtain⟨fr1,k1,k2,k3⟩:=gY hcall xs 0 T _ fr R T1 H1 hr ha
      have c2:=iJ c1 k1.recs.1 k3
      refine AWP.drawYld (mJ hs) hp c0.1 c0.2.1 c0.2.2 k1 c2 (Sub.refl _ _ _ _) ⟨rfl,nlB hk,g,i,GG k2 hc,?_⟩
      rw[k2.mapK]
      cases hyl:call.yl g i (mapK T1 args) H1 with
      | none=>rw[hyl] at h; cases h
      | some p=>
       obtain⟨b,H2⟩:=p
       rw[hyl] at h
       refine(hy g i _ H1 b H2 hyl).mono ?_
       rintro b' H3 ⟨rfl,rfl⟩
       have fin:∀ {T2:FT},AgT (fr1.put d (.sc (.bool b'))) T2→iR af (Nat.succ (dF xs)) ys (jD call (dF H3) ys 0 T2 (H3++[List.replicate ys.length .dead]))=.out e T' H' →
         ∃ R2 fr3 H4,eW P H3.length 0 ys (fr1.put d (.sc (.bool b'))) (H3++[List.replicate ys.length .dead]) R2 fr3 H4∧mO af (xs.length+1) R2∧Q .normal fr3 H4:=by
        intro T2 ha2 h
        obtain⟨R2,h1,rfl,h3⟩:=xH h
        rw[cH] at h1
        obtain⟨fr3,j1,j2,j3⟩:=gY hcall ys 0 T2 _ _ R2 T' H' h1 ha2
        have c3:=iJ h3 j1.recs.1 j3
        rw[cH] at c3
        exact⟨R2,fr3,_,j1,c3,hQ fr3 j2⟩
       simp only[DW] at h
       split at h
       ·exact fin k2 h
       ·split at h
        ·rename_i T2 e2
         exact fin (k2.putK e2) h
        ·cases h
     ·cases h
    ·exact jC hp hcall h ha hQ
   ·exact jC hp hcall h ha hQ
  ·exact jC hp hcall h ha hQ
 ·exact jC hp hcall h ha hQ
theorem FH {Q:Exit→Fr→Heap→Prop} {T T':FT} {fr:Fr} {e:Exit} {H':Heap} (ha:AgT fr T) (hQ:∀ fr',AgT fr' T'→Q e fr' H') (o:Option Heap) (Hd:Heap) (ho:∀ H4,o=some H4→Hd=H4) (pe:Option Code)
  (h:(match o with
   | some H2=>match pe with
    | none=>XR.out .normal T H2
    | some .ret=>.out .ret T H2
    | some (.exit id)=>.out (.exit id) T H2
    | _=>.stuck
   | none=>.stuck)=.out e T' H'):match (generalizing:=false) pe with
  | none=>Q .normal fr Hd
  | some .ret=>Q .ret fr Hd
  | some (.exit id)=>Q (.exit id) fr Hd
  | _=>False:=by
 cases o with
 | none=>cases h
 | some H4=>
  rw[ho H4 rfl]
  simp only at h
  split at h
  ·injection h with h1 h2 h3
   subst h1; subst h2; subst h3
   exact hQ _ ha
  ·injection h with h1 h2 h3
   subst h1; subst h2; subst h3
   exact hQ _ ha
  ·injection h with h1 h2 h3
   subst h1; subst h2; subst h3
   exact hQ _ ha
  ·cases h
theorem xG (hcall:c8 P call) {f:Operand} {ps:List Nat} {asg body:cA} {qs:Array Tmp} {ra rb:Code} {T:FT} {H:Heap} {e:Exit} {T':FT} {H':Heap} (h:BH call N k f ps qs ra rb T H=.out e T' H') {fr:Fr} (ha:AgT fr T)
  {Q:Exit→Fr→Heap→Prop} (hQ:∀ fr',AgT fr' T'→Q e fr' H'):AWP P N k (.rangeF f ps asg body qs ra rb) Q fr H:=by
 unfold BH at h
 split at h
 ·rename_i g fs cs hf
  split at h
  ·rename_i hb
   simp only[Bool.and_eq_true] at hb
   split at h
   ·rename_i H1 hs
    have hk:k≤H.length:=by rw[← cH]; exact nlB hb.1
    have hH1:=iQ _ _ _ _ _ hs
    rw[cH] at hH1 h
    subst hH1
    refine AWP.sub (Sub.le (FT.fr_le ha)) ?_
    have ha2:=T.fr_ag
    have hf2:ev T.fr f=.clo (.func g) fs cs:=by rw[ha2.evK]; exact hf
    refine AWP.rangeC hf2 hk hb.2 fun _=>?_
    unfold D4 at h
    split at h
    ·rename_i v H2 hr
     refine(hcall.run g _ _ v H2 hr).mono ?_
     rintro res H3 ⟨rfl,rfl⟩
     split at h
     ·rename_i L caps st pe hg
      rw[fG] at hg
      refine⟨L,caps,st,pe,hg,?_⟩
      cases st with
      | busy=>cases h
      | _=>exact⟨(by intro e; cases e),FH ha2 hQ _ _ (fun H4 h4=>iQ _ _ _ _ _ h4) pe h⟩
     ·cases h
    ·cases h
   ·cases h
  ·cases h
 ·cases h
theorem lJ (hp:P.follows .mixedOrders=true) (hcall:c8 P call) (hy:YOK P call):∀(c:cA) (T:FT) (H:Heap) (e:Exit) (T':FT) (H':Heap),jA call N k fuel c T H=.out e T' H'→∀ fr,AgT fr T →
  ∀(Q:Exit→Fr→Heap→Prop),(∀ fr',AgT fr' T'→Q e fr' H')→AWP P N k c Q fr H:=by
 intro c
 induction c with
 | skip=>
  intro T H e T' H' h fr ha Q hQ
  injection h with h1 h2 h3
  subst h1; subst h2; subst h3
  exact AWP.skip (hQ fr ha)
 | region xs=>
  intro T H e T' H' h fr ha Q hQ
  exact BP hcall hy h ha hQ
 | draw xs af=>
  intro T H e T' H' h fr ha Q hQ
  exact yE hp hcall hy h ha hQ
 | seq a b iha ihb=>
  intro T H e T' H' h fr ha Q hQ
  rcases zB (b:=jA call N k fuel b) (r:=jA call N k fuel a T H) h with⟨T1,H1,h1,h2⟩ | ⟨h1,h2⟩
  ·exact AWP.seq (iha T H _ T1 H1 h1 fr ha _ fun fr1 ha1=>ihb T1 H1 e T' H' h2 fr1 ha1 Q hQ)
  ·refine AWP.seq (iha T H _ T' H' h2 fr ha _ fun fr1 ha1=>?_)
   cases e with
   | normal=>exact absurd rfl h1
   | _=>exact hQ fr1 ha1
 | cond c a b iha ihb=>
  intro T H e T' H' h fr ha Q hQ
  replace h:JF (jA call N k fuel a T H) (jA call N k fuel b T H) (T.evK c)=.out e T' H':=h
  unfold JF at h
  split at h
  ·rename_i e1
   rw[← ha.evK] at e1
   exact AWP.condT e1 (iha T H e T' H' h fr ha Q hQ)
  ·rename_i e1
   rw[← ha.evK] at e1
   exact AWP.condF e1 (ihb T H e T' H' h fr ha Q hQ)
  ·cases h
 | block id a iha=>
  intro T H e T' H' h fr ha Q hQ
  replace h:GI id (jA call N k fuel a T H)=.out e T' H':=h
  cases hr:jA call N k fuel a T H with
  | stuck=>rw[hr] at h; cases h
  | out e1 T1 H1=>
   rw[hr] at h
   refine AWP.block (iha T H e1 T1 H1 hr fr ha _ fun fr1 ha1=>?_)
   cases e1 with
   | exit id'=>
    replace h:Bool.rec (motive:=fun _=>XR) (.out (.exit id') T1 H1) (.out .normal T1 H1) (Nat.beq id' id)=.out e T' H':=h
    show(match Nat.beq id' id with | true=>Q .normal | false=>Q (.exit id')) fr1 H1
    cases hb:Nat.beq id' id with
    | true=>
     rw[hb] at h
     injection h with h1 h2 h3
     subst h1; subst h2; subst h3
     exact hQ fr1 ha1
    | false=>
     rw[hb] at h
     injection h with h1 h2 h3
     subst h1; subst h2; subst h3
     exact hQ fr1 ha1
   | _=>
    injection h with h1 h2 h3
    subst h1; subst h2; subst h3
    exact hQ fr1 ha1
 | loop a iha=>
  intro T H e T' H' h fr ha Q hQ
  replace h:C1 (jA call N k fuel a) fuel T H=.out e T' H':=h
  refine AWP.loop (σ:=Nat×FT×Heap×Fr) (fun s=>s.2.2.2) (fun s=>s.2.2.1) (fun s=>AgT s.2.2.2 s.2.1∧C1 (jA call N k fuel a) s.1 s.2.1 s.2.2.1=.out e T' H') (fun s=>s.1) (fuel,T,H,fr) ⟨ha,h⟩ (Sub.refl _ _ _ _) ?_
  rintro⟨n,T1,H1,fr1⟩ ⟨ha1,h1⟩
  simp only at ha1 h1 ⊢
  cases n with
  | zero=>cases h1
  | succ n=>
   replace h1:JM (C1 (jA call N k fuel a) n) (jA call N k fuel a T1 H1)=.out e T' H':=h1
   rcases zB h1 with⟨T2,H2,h2,h3⟩ | ⟨h2,h3⟩
   ·refine iha T1 H1 _ T2 H2 h2 fr1 ha1 _ fun fr2 ha2=>?_
    exact⟨(n,T2,H2,fr2),⟨ha2,h3⟩,Nat.lt_succ_self n,Sub.refl _ _ _ _⟩
   ·refine iha T1 H1 _ T' H' h3 fr1 ha1 _ fun fr2 ha2=>?_
    cases e with
    | normal=>exact absurd rfl h2
    | _=>exact hQ fr2 ha2
 | exit id=>
  intro T H e T' H' h fr ha Q hQ
  injection h with h1 h2 h3
  subst h1; subst h2; subst h3
  exact AWP.exit (hQ fr ha)
 | ret=>
  intro T H e T' H' h fr ha Q hQ
  injection h with h1 h2 h3
  subst h1; subst h2; subst h3
  exact AWP.ret (hQ fr ha)
 | rangeF f ps a b qs ra rb iha ihb=>
  intro T H e T' H' h fr ha Q hQ
  exact xG hcall h ha hQ
 | bad=>
  intro T H e T' H' h
  cases h
end
noncomputable def uH (a b:Bool):Bool:=Bool.rec (motive:=fun _=>Bool) false b a
theorem pA (a b:Bool):uH a b=(a && b):=by cases a<;>rfl
noncomputable def JK (k:Nat) (a:AV):Bool:=
 match a with
 | .sc _=>true
 | a=>kA k a
noncomputable def DT (k:Nat) (l:List AV):Bool:=List.rec (motive:=fun _=>Bool) true (fun a _ ih=>uH (JK k a) ih) l
noncomputable def JQ (k:Nat) (l:List (List AV)):Bool:=List.rec (motive:=fun _=>Bool) true (fun a _ ih=>uH (DT k a) ih) l
noncomputable def HQ (k:Nat) (b:Blk):Bool:=
 match b with
 | .dead=>true
 | .cells _ rows=>JQ k rows
 | b=>t7 k b
noncomputable def CQ (k:Nat) (l:List Blk):Bool:=List.rec (motive:=fun _=>Bool) true (fun a _ ih=>uH (HQ k a) ih) l
noncomputable def IA (k:Nat) (H:Heap):Nat→Bool:=List.rec (motive:=fun _=>Nat→Bool) (fun _=>true) (fun f _ ih n=>match n with
 | 0=>true
 | Nat.succ m=>uH (CQ k f) (ih m)) H
theorem IS (k:Nat) (a:AV):JK k a=kA k a:=by cases a<;>rfl
theorem GO (k:Nat) (l:List AV):DT k l=jW k l:=by
 induction l with
 | nil=>rfl
 | cons a l ih=>
  show uH (JK k a) (DT k l)=(kA k a && jW k l)
  rw[pA,ih,IS]
theorem GF (k:Nat) (l:List (List AV)):JQ k l=xY k l:=by
 induction l with
 | nil=>rfl
 | cons a l ih=>
  show uH (DT k a) (JQ k l)=(jW k a && xY k l)
  rw[pA,ih,GO]
theorem IL (k:Nat) (b:Blk):HQ k b=t7 k b:=by
 cases b with
 | cells sz rows=>exact GF k rows
 | _=>rfl
theorem JE (k:Nat) (l:List Blk):CQ k l=A4 k l:=by
 induction l with
 | nil=>rfl
 | cons a l ih=>
  show uH (HQ k a) (CQ k l)=(t7 k a && A4 k l)
  rw[pA,ih,IL]
theorem HD (k:Nat) (H:Heap):∀ n,IA k H n=B5 k n H:=by
 induction H with
 | nil=>intro n; cases n<;>rfl
 | cons f H ih=>
  intro n
  cases n with
  | zero=>rfl
  | succ n=>
   show uH (CQ k f) (IA k H n)=(A4 k f && B5 k n H)
   rw[pA,ih,JE]
noncomputable def LD (k:Nat) (res:AV) (H:Heap):AV×Heap:=
 Bool.rec (motive:=fun _=>AV×Heap) (Bool.rec (motive:=fun _=>AV×Heap) (res,H) (res,H.take k) (uH (kA k res) (IA k H k))) (res,H) (Nat.ble (dF H) (Nat.add k 150))
theorem IW (k:Nat) (res:AV) (H:Heap):fD k H res (LD k res H).2 (LD k res H).1:=by
 unfold LD
 rw[pA,HD]
 cases Nat.ble (dF H) (Nat.add k 150) with
 | true=>exact .refl k H res
 | false=>
  cases e:kA k res && B5 k k H with
  | false=>exact .refl k H res
  | true=>
   simp only[Bool.and_eq_true] at e
   exact .cut e.1 e.2
noncomputable def GX (k:Nat) (H:Heap) (r:Option AV):Option (AV×Heap):=
 match r with
 | some v=>some (LD k v H)
 | none=>none
noncomputable def finM (k:Nat) (rs:List j5) (x:XR):Option (AV×Heap):=
 match x with
 | .out e T H=>match e with
  | .normal=>Bool.rec (motive:=fun _=>Option (AV×Heap)) none (GX k H (r9 (mC T H rs))) (nA T rs)
  | .ret=>Bool.rec (motive:=fun _=>Option (AV×Heap)) none (GX k H (r9 (mC T H rs))) (nA T rs)
  | _=>none
 | .stuck=>none
noncomputable def sQ (call:cI) (fuel:Nat) (args:List AV) (H:Heap) (F:IFun):Option (AV×Heap):=
 match F with
 | ⟨n,code,res⟩=>match Nat.ble (dF args) n with
  | true=>match JN args 0 (FT.full 9) with
   | some T=>finM (dF H) res (jA call n (dF H) fuel code T H)
   | none=>none
  | false=>none
noncomputable def CG (call:cI) (r:Option (AV×Heap)) (H:Heap):Option (AV×Heap):=
 match r with
 | some (v,H0)=>match call.frz H0 v with
  | some b=>some (b,H)
  | none=>none
 | none=>none
def B7:AV→Bool
 | .sc _=>true
 | _=>false
def G7:AV→Bool
 | .sc _=>true
 | .tup vs=>vs.all B7
 | .agg vs=>vs.all B7
 | _=>false
theorem qY {a:AV} (h:B7 a=true):kX a:=by
 cases a<;>first | exact .sc _ | cases h
theorem yQ {a:AV} (h:G7 a=true):kX a:=by
 cases a with
 | tup vs=>exact .tup _ fun c hc=>qY (List.all_eq_true.1 h c hc)
 | agg vs=>exact .agg _ fun c hc=>qY (List.all_eq_true.1 h c hc)
 | sc v=>exact .sc v
 | _=>cases h
noncomputable def M6 (call:cI) (fuel:Nat) (F:IFun) (args:List AV) (H:Heap):Option (AV×Heap):=
 match dfL (dfz H 12) args with
 | some args'=>match CG call (sQ call fuel args' [] F) H with
  | some (b,_)=>match G7 b with
   | true=>some (b,H)
   | false=>none
  | none=>none
 | none=>none
noncomputable def orM (a b:Option (AV×Heap)):Option (AV×Heap):=
 match a with
 | some r=>some r
 | none=>b
noncomputable def I2 (tab:FuncId→Option IFun) (pz:List Nat) (call:cI) (fuel:Nat) (f:FuncId) (args:List AV) (H:Heap) (s:Option (AV×Heap)):Option (AV×Heap):=
 match s with
 | some r=>some r
 | none=>match tab f with
  | some F=>match pz.any (Nat.beq f) with
   | true=>match jW 0 args with
    | true=>CG call (sQ call fuel args [] F) H
    | false=>orM (M6 call fuel F args H) (sQ call fuel args H F)
   | false=>sQ call fuel args H F
  | none=>none
noncomputable def zipK (ps:List Nat):List AV→Fr→Option Fr:=
 List.rec (motive:=fun _=>List AV→Fr→Option Fr) (fun as r=>match as with
  | []=>some r
  | _=>none) (fun p _ ih as r=>match as with
  | a::as=>ih as ((p,a)::r)
  | []=>none) ps
noncomputable def yO (g i:Nat) (r:XR):Option (Bool×Heap):=
 match r with
 | .out e _ H=>match lP H g i with
  | some (.lp L c .busy none)=>match e with
   | .normal=>match mQ H g i (.lp L c .ready none) with
    | some H'=>some (true,H')
    | none=>none
   | .ret=>match mQ H g i (.lp L c .done (some .ret)) with
    | some H'=>some (false,H')
    | none=>none
   | .exit id=>match mQ H g i (.lp L c .done (some (.exit id))) with
    | some H'=>some (false,H')
    | none=>none
   | _=>none
  | _=>none
 | .stuck=>none
noncomputable def vM (call:cI) (fuel n k g i:Nat) (body:cA) (r:XR):Option (Bool×Heap):=
 match r with
 | .out .normal T H=>match lP H g i with
  | some (.lp L c .ready none)=>match mQ H g i (.lp L c .busy none) with
   | some H1=>yO g i (jA call n k fuel body T H1)
   | none=>none
  | _=>none
 | _=>none
noncomputable def AN (P:Program) (call:cI) (fuel:Nat) (g i:Nat) (args:List AV) (H:Heap):Option (Bool×Heap):=
 match lP H g i with
 | some (.lp ⟨n,ps,ra,rb⟩ caps .ready none)=>match bY P n ra,bY P n rb with
  | some asg,some body=>match List.all ps.toList (Nat.blt · n) with
   | true=>match zipK ps.toList args [] with
    | some l=>match H7 (l++caps) (FT.full 9) with
     | some T=>vM call fuel n (dF H) g i body (jA call n (dF H) fuel asg T H)
     | none=>none
    | none=>none
   | false=>none
  | _,_=>none
 | _=>none
noncomputable def FX (P:Program) (sum:Caller) (tab:FuncId→Option IFun) (pz:List Nat) (fuel:Nat) (d:Nat):cI:=
 Nat.rec (motive:=fun _=>cI) ⟨fun _ _ _=>none,fun _ _=>none,fun _ _ _ _=>none,fun _ _=>none⟩
  (fun _ ih=>⟨fun f args H=>I2 tab pz ih fuel f (fnA args) H (sum f (fnA args) H),oI P,AN P ih fuel,fun H=>dfz H 12⟩) d
section
variable {P:Program} {k fuel:Nat} {call:cI}
theorem lC (hp:P.follows .mixedOrders=true) (hcall:c8 P call) (hy:YOK P call) {f:FuncId} {F:IFun} (hf:aJ P f=some F) {args:List AV} {H:Heap} {v:AV} {H':Heap} (h:sQ call fuel args H F=some (v,H')):
  aG P f args H fun r H2=>r=v∧H2=H':=by
 obtain⟨n,code,res⟩:=F
 simp only[sQ] at h
 split at h
 ·rename_i hn
  split at h
  ·rename_i T hT
   rw[cH] at hn h
   have ha:AgT (fN 0 args) T:=by
    intro t
    rw[CA args 0 _ T hT [] (fun t=>(FT.get_full 9 t).symm) (fun t _=>rfl) t]
    cases Fr.get (fN 0 args) t<;>rfl
   refine aG.of hf ?_ (nlB hn)
   unfold finM at h
   split at h
   ·rename_i e T1 H1 hx
    have key:Bool.rec (motive:=fun _=>Option (AV×Heap)) none (GX H.length H1 (r9 (mC T1 H1 res))) (nA T1 res)=some (v,H')→(e=.normal∨e=.ret) →
      AWP P n H.length code (fun e fr' Hx=>(e=.normal∨e=.ret)∧∃ r r' H2,kV fr' Hx res=some r∧fD H.length Hx r H2 r'∧r'=v∧H2=H') (fN 0 args) H:=by
     intro h he
     cases hpt:nA T1 res with
     | false=>rw[hpt] at h; cases h
     | true=>
      rw[hpt] at h
      replace h:GX H.length H1 (r9 (mC T1 H1 res))=some (v,H'):=h
      unfold GX at h
      split at h
      ·rename_i u hu
       injection h with h
       have hs:=IW H.length u H1
       rw[h] at hs
       refine lJ hp hcall hy code T H e T1 H1 hx _ ha _ fun fr' ha'=>⟨he,u,v,H',?_,hs,rfl,rfl⟩
       unfold r9 at hu
       unfold kV
       split at hu
       ·rename_i x hx'
        rw[sI ha' res _ hpt hx']
        exact hu
       ·rename_i xs hne hx'
        rw[sI ha' res _ hpt hx']
        injection hu with hu
        subst hu
        split
        ·rename_i e1
         injection e1 with e1
         exact absurd e1 (hne _)
        ·rename_i e1
         injection e1 with e1
         rw[e1]
        ·rename_i e1
         cases e1
       ·cases hu
      ·cases h
    split at h
    ·exact key h (.inl rfl)
    ·exact key h (.inr rfl)
    ·cases h
   ·cases h
  ·cases h
 ·cases h
theorem DD:∀(ps:List Nat) (as:List AV) (r l:Fr),zipK ps as r=some l→as.length=ps.length∧l=(ps.zip as).reverse++r
 | [],as,r,l,h=>by
  cases as with
  | nil=>injection h with h; subst h; exact⟨rfl,rfl⟩
  | cons a as=>cases h
 | p::ps,as,r,l,h=>by
  cases as with
  | nil=>cases h
  | cons a as=>
   obtain⟨h1,h2⟩:=DD ps as ((p,a)::r) l h
   refine⟨by simp[h1],?_⟩
   rw[h2]
   simp
theorem w5 (hp:P.follows .mixedOrders=true) (hcall:c8 P call) (hy:YOK P call) {g i:Nat} {args:List AV} {H:Heap} {b:Bool} {H':Heap} (h:AN P call fuel g i args H=some (b,H')):
  dW P g i args H fun b' H2=>b'=b∧H2=H':=by
 unfold AN at h
 split at h
 ·rename_i n ps ra rb caps hg
  rw[fG] at hg
  split at h
  ·rename_i asg body e1 e2
   split at h
   ·rename_i hall
    split at h
    ·rename_i l hz
     split at h
     ·rename_i T hT
      obtain⟨z1,z2⟩:=DD _ _ _ _ hz
      have hpl:putL caps (ps.toList.zip args)=l++caps:=by rw[rD,z2,List.append_nil]
      have hT0:AgT (l++caps) T:=by
       have:=AG (l++caps) (FT.full 9) T [] hT (fun t=>(FT.get_full 9 t).symm)
       rwa[List.append_nil] at this
      refine⟨⟨n,ps,ra,rb⟩,caps,n,ps.toList,asg,body,⟨rfl,rfl,hall,e1,e2⟩,hg,z1,?_⟩
      rw[hpl]
      unfold vM at h
      split at h
      ·rename_i T1 H1 hx
       rw[cH] at hx h
       split at h
       ·rename_i L1 c1 hg1
        rw[fG] at hg1
        split at h
        ·rename_i H2 hs
         have hs2:=iQ _ _ _ _ _ hs
         refine lJ hp hcall hy asg T H _ T1 H1 hx _ hT0 _ fun fr1 ha1=>⟨rfl,L1,c1,hg1,?_⟩
         rw[hs2]
         unfold yO at h
         split at h
         ·rename_i e T3 H3 hx3
          refine lJ hp hcall hy body T1 H2 e T3 H3 hx3 _ ha1 _ fun fr3 _=>?_
          split at h
          ·rename_i L2 c2 hg3
           rw[fG] at hg3
           refine⟨L2,c2,hg3,?_⟩
           split at h
           ·split at h
            ·rename_i H4 h4
             injection h with h
             injection h with h5 h6
             exact⟨h5,by rw[iQ _ _ _ _ _ h4]; exact h6⟩
            ·cases h
           ·split at h
            ·rename_i H4 h4
             injection h with h
             injection h with h5 h6
             exact⟨h5,by rw[iQ _ _ _ _ _ h4]; exact h6⟩
            ·cases h
           ·split at h
            ·rename_i H4 h4
             injection h with h
             injection h with h5 h6
             exact⟨h5,by rw[iQ _ _ _ _ _ h4]; exact h6⟩
            ·cases h
           ·cases h
          ·cases h
         ·cases h
        ·cases h
       ·cases h
      ·cases h
     ·cases h
    ·cases h
   ·cases h
  ·cases h
 ·cases h
theorem BY (hp:P.follows .mixedOrders=true) {sum:Caller} (hsum:JP P sum) {tab:FuncId→Option IFun} {pz:List Nat} (htab:∀ f F,tab f=some F→aJ P f=some F):∀(d:Nat),c8 P (FX P sum tab pz fuel d)∧YOK P (FX P sum tab pz fuel d):=by
 intro d
 induction d with
 | zero=>exact⟨⟨fun f args H v H' h=>(by cases h),fun t n f h=>(by cases h),fun H a b h=>(by cases h)⟩,fun g i args H b H' h=>(by cases h)⟩
 | succ d ih=>
  refine⟨⟨fun f args H v H' h=>?_,fun t n f h=>h,fun H a b h=>OT 12 H a b h⟩,fun g i args H b H' h=>w5 hp ih.1 ih.2 h⟩
  replace h:I2 tab pz (FX P sum tab pz fuel d) fuel f (fnA args) H (sum f (fnA args) H)=some (v,H'):=h
  refine aG.fnA ?_
  unfold I2 at h
  split at h
  ·rename_i r e
   rw[h] at e
   exact hsum f (fnA args) H v H' e
  ·split at h
   ·rename_i F e
    split at h
    ·have pure:∀ {args':List AV} {b:AV} {H1 H2:Heap},jW 0 args'=true∨(∀ a∈args',bG a)→CG (FX P sum tab pz fuel d) (sQ (FX P sum tab pz fuel d) fuel args' [] F) H1=some (b,H2)→aB P f args' b∧H2=H1:=by
      intro args' b H1 H2 hpu h
      unfold CG at h
      split at h
      ·rename_i v0 H0 e0
       split at h
       ·rename_i b' eb
        injection h with h
        injection h with h1 h2
        subst h1; subst h2
        obtain⟨q1,q2⟩:=ih.1.frz _ _ _ eb
        refine⟨aB.of (fun a ha=>?_) q2 ((lC hp ih.1 ih.2 (htab f F e) e0).sub (by
         rintro res H' ⟨rfl,rfl⟩
         exact⟨b',[],q1,rfl⟩)),rfl⟩
        rcases hpu with hpu | hpu
        ·exact eC _ hpu a ha
        ·exact hpu a ha
       ·cases h
      ·cases h
     split at h
     ·rename_i hb
      obtain⟨h1,rfl⟩:=pure (.inl hb) h
      exact aG.ofPure h1 _ ⟨rfl,rfl⟩
     ·unfold orM at h
      split at h
      ·rename_i r ev
       rw[h] at ev
       unfold M6 at ev
       split at ev
       ·rename_i args' ea
        split at ev
        ·rename_i b H2 eb
         split at ev
         ·rename_i hpl
          injection ev with ev
          injection ev with e1 e2
          subst e1; subst e2
          obtain⟨h1,h2⟩:=f9 (n:=H.length) (fun a b hab=>sS 12 a b hab) _ _ ea
          obtain⟨h3,_⟩:=pure (.inr h2) eb
          have e:H++gh []=H:=List.append_nil H
          exact aG.view h3 (yQ hpl) (by rw[e]; exact h1) ⟨rfl,rfl⟩
         ·cases ev
        ·cases ev
       ·cases ev
      ·exact lC hp ih.1 ih.2 (htab f F e) h
    ·exact lC hp ih.1 ih.2 (htab f F e) h
   ·cases h
end
end Go.Av
