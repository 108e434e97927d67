import Derived.Test.YtgdocflpobncmaaGreatGAv21
namespace Go.Av
theorem aE.via {P:Program} {f:FuncId} {args args':List AV} {H0 H:Heap} {R R':AV→Heap→Prop} (ρ ρ':Nat→Nat→Option (Nat×Nat)) (h:aE P f args' H0 R)
  (hl:args.length=args'.length) (hargs:∀(j:Nat) a b,args[j]?=some a→args'[j]?=some b→Ren ρ a b)
  (hρ:∀ g i p,ρ g i=some p→ρ' p.1 p.2=some (g,i)) (hρ':∀ g i q,ρ' g i=some q→ρ q.1 q.2=some (g,i))
  (h0:∀ g i x,hget H0 g i=some x→x.live=true∧∃ p y,ρ g i=some p∧hget H p.1 p.2=some y∧eY ρ y x)
  (hdom:∀ g i p,ρ g i=some p→(hget H0 g i).isSome)
  (hR:∀ res H',R res H'→(∀ g i,(hget H' g i).isSome→(hget H0 g i).isSome)∧∃ res' H'',Ren ρ' res res' ∧
   (∀ g i x,hget H'' g i=some x→x.live=true→(∃ q y,ρ' g i=some q∧hget H' q.1 q.2=some y∧eY ρ' y x)∨(ρ' g i=none∧hget H g i=some x)) ∧
   (∀ g i,(hget H g i).isSome→(hget H'' g i).isSome)∧R' res' H''):aE P f args H R':=by
 refine⟨h.1,fun M J w cargs e1 e2 hH hM=>?_⟩
 have hlt:∀ {H:Heap} {g i:Nat},(hget H g i).isSome→g < H.length:=by
  intro H g i hs;unfold hget at hs;split at hs
  ·rename_i f e; exact(gEs.1 e).1
  ·cases hs
 have hJ1:∀ g i l,J.via ρ g i=some l→∃ p,ρ g i=some p∧J p.1 p.2=some l:=by
  intro g i l hl;unfold Inj.via at hl;split at hl
  ·rename_i g' i' e; exact⟨(g',i'),e,hl⟩
  ·cases hl
 have hlive0:∀ g i l,aQ H0 g i→J.via ρ g i=some l→∃ p,ρ g i=some p∧J p.1 p.2=some l∧aQ H p.1 p.2:=by
  rintro g i l ⟨x,hx,hxl⟩ hJ;obtain⟨_,p,y,p1,p2,p3⟩:=h0 g i x hx;obtain⟨p',q1,q2⟩:=hJ1 g i l hJ;rw[p1] at q1
  injection q1 with q1
  subst q1;exact⟨p,p1,q2,y,p2,p3.live hxl⟩
 have hH0:aN M (J.via ρ) H0 w.heap:=by
  refine⟨fun g i x hx hxl=>?_,fun g i g' i' l l' β a b c d e f=>?_,fun g i l β a b c=>?_,fun g i l a=>?_⟩
  ·obtain⟨_,p,y,p1,p2,p3⟩:=h0 g i x hx
   obtain⟨l,q1,q2⟩:=hH.blk p.1 p.2 y p2 (p3.live hxl);exact⟨l,by rw[Inj.via_some (g':=p.1) (i':=p.2) p1]; exact q1,q2.ren p3⟩
  ·obtain⟨p,p1,p2,p3⟩:=hlive0 g i l a c
   obtain⟨q,q1,q2,q3⟩:=hlive0 g' i' l' b d;obtain⟨r1,r2⟩:=hH.inj _ _ _ _ l l' β p3 q3 p2 q2 e f;have hpq:p=q:=Prod.ext r1 r2;subst hpq;have:=(hρ g i p p1).symm.trans (hρ g' i' p q1)
   injection this with this
   injection this with t1 t2
   exact⟨t1,t2⟩
  ·obtain⟨p,p1,p2,p3⟩:=hlive0 g i l a b
   exact hH.out _ _ l β p3 p2 c
  ·obtain⟨p,p1,p2⟩:=hJ1 g i l a
   exact⟨hdom g i p p1,(hH.dom _ _ l p2).2⟩
 refine(h.2 M (J.via ρ) w cargs (by omega) (fun j c v hc hv=>?_) hH0 hM).mono ?_
 ·obtain⟨a,ha⟩:=aT hl hc
  exact(e2 j a v ha hv).ren (hargs j a c ha hc)
 ·rintro e w' ⟨v,M',J',res,H',rfl,s,hres,hr⟩
  obtain⟨hd,res',H'',r1,r2,r3,r4⟩:=hR res H' hr
  -- all that the callee knows the caller knows
  have hJ':∀ g i l,J' g i=some l→∃ p,ρ g i=some p∧J p.1 p.2=some l:=by
   intro g i l hl;have hs:=hd g i (s.hrep.dom g i l hl).1;obtain⟨x,hx⟩:=Option.isSome_iff_exists.1 hs;obtain⟨hxl,p,y,p1,p2,p3⟩:=h0 g i x hx;obtain⟨l1,q1,_⟩:=hH0.blk g i x hx hxl;have:=s.j g i l1 (hlt hs) q1;rw[hl] at this
   injection this with this
   subst this;obtain⟨p',t1,t2⟩:=hJ1 g i l q1;exact⟨p',t1,t2⟩
  have hback:Ext M' (J'.via ρ') M' J:=⟨fun _ _ h=>h,fun g i l hl=>by
   unfold Inj.via at hl;split at hl
   ·rename_i g' i' e
    obtain⟨p,p1,p2⟩:=hJ' g' i' l hl;have:=hρ' g i _ e;rw[p1] at this
    injection this with this
    subst this;exact p2
   ·cases hl⟩
  have hfwd:Ext M J M' J:=⟨s.m,fun _ _ _ h=>h⟩
  -- blocks that the callee does not see
  have hother:∀ g i l β,ρ' g i=none→aQ H g i→J g i=some l→l.blk=some β→∀ g0 i0 l0,aQ H0 g0 i0→J.via ρ g0 i0=some l0→l0.blk≠some β:=by
   intro g i l β hn hlv hJ hb g0 i0 l0 a b c;obtain⟨p,p1,p2,p3⟩:=hlive0 g0 i0 l0 a b;obtain⟨t1,t2⟩:=hH.inj _ _ _ _ l l0 β hlv p3 hJ p2 hb c;have:=hρ g0 i0 p p1;rw[← t1,← t2,hn] at this
   cases this
  have hlive':∀ g i l β,aQ H'' g i→J g i=some l→l.blk=some β→(∃ q,ρ' g i=some q∧aQ H' q.1 q.2∧J' q.1 q.2=some l)∨(ρ' g i=none∧aQ H g i):=by
   rintro g i l β ⟨x,hx,hxl⟩ hJ hb
   rcases r2 g i x hx hxl with⟨q,y,q1,q2,q3⟩ | ⟨q1,q2⟩
   ·left
    refine⟨q,q1,⟨y,q2,q3.live hxl⟩,?_⟩;obtain⟨l',t1,_⟩:=s.hrep.blk q.1 q.2 y q2 (q3.live hxl);obtain⟨p,p1,p2⟩:=hJ' _ _ _ t1;have:=hρ' g i q q1;rw[p1] at this
    injection this with this
    subst this;rw[hJ] at p2
    injection p2 with p2
    subst p2;exact t1
   ·exact .inr ⟨q1,x,q2,hxl⟩
  refine⟨v,M',J,res',H'',rfl,⟨s.m,fun _ _ _ _ h=>h,⟨?_,?_,?_,?_⟩,s.mrep,s.os,s.tape,s.output,s.size,?_,?_,?_,s.bk⟩,(hres.ren r1).ext hback,r4⟩
  ·intro g i x hx hxl
   rcases r2 g i x hx hxl with⟨q,y,q1,q2,q3⟩ | ⟨q1,q2⟩
   ·obtain⟨l,t1,t2⟩:=s.hrep.blk q.1 q.2 y q2 (q3.live hxl)
    refine⟨l,hback.j g i l (by rw[Inj.via_some (g':=q.1) (i':=q.2) q1]; exact t1),(t2.ren q3).ext hback fun _ _=>rfl⟩
   ·obtain⟨l,t1,t2⟩:=hH.blk g i x q2 hxl
    refine⟨l,t1,t2.ext hfwd fun β hβ=>?_⟩;have hb:=(hH.dom g i l t1).2 β hβ;rw[Array.getElem?_eq_getElem hb];exact s.frame β _ (Array.getElem?_eq_getElem hb) (hother g i l β q1 ⟨x,q2,hxl⟩ t1 hβ)
  ·intro g i g' i' l l' β a b c d e f
   rcases hlive' g i l β a c e with⟨q,q1,q2,q3⟩ | ⟨q1,q2⟩<;>rcases hlive' g' i' l' β b d f with⟨p,p1,p2,p3⟩ | ⟨p1,p2⟩
   ·obtain⟨t1,t2⟩:=s.hrep.inj _ _ _ _ l l' β q2 p2 q3 p3 e f
    have hpq:q=p:=Prod.ext t1 t2;subst hpq;have:=(hρ' g i q q1).symm.trans (hρ' g' i' q p1)
    injection this with this
    injection this with t1 t2
    exact⟨t1,t2⟩
   ·exfalso
    rcases s.live _ _ l β q2 q3 e with⟨g0,i0,l0,u1,u2,u3⟩ | u
    ·exact hother g' i' l' β p1 p2 d f g0 i0 l0 u1 u2 u3
    ·have:=(hH.dom g' i' l' d).2 β f; omega
   ·exfalso
    rcases s.live _ _ l' β p2 p3 f with⟨g0,i0,l0,u1,u2,u3⟩ | u
    ·exact hother g i l β q1 q2 c e g0 i0 l0 u1 u2 u3
    ·have:=(hH.dom g i l c).2 β e; omega
   ·exact hH.inj g i g' i' l l' β q2 p2 c d e f
  ·intro g i l β a b c
   rcases hlive' g i l β a b c with⟨q,q1,q2,q3⟩ | ⟨q1,q2⟩
   ·exact s.hrep.out _ _ l β q2 q3 c
   ·cases e:M' β with
    | none=>rfl
    | some o=>
     exfalso
     rcases s.fresh β o e with u | u | ⟨g0,i0,l0,u1,u2,u3⟩
     ·rw[hH.out g i l β q2 b c] at u; cases u
     ·have:=(hH.dom g i l b).2 β c; omega
     ·exact hother g i l β q1 q2 b c g0 i0 l0 u1 u2 u3
  ·intro g i l a
   have:=hH.dom g i l a;exact⟨r3 g i this.1,fun β hβ=>Nat.lt_of_lt_of_le (this.2 β hβ) s.size⟩
  ·intro β o ho hn
   refine s.frame β o ho fun g0 i0 l0 a b c=>?_
   obtain⟨p,p1,p2,p3⟩:=hlive0 g0 i0 l0 a b;exact hn _ _ l0 p3 p2 c
  ·intro β o ho
   rcases s.fresh β o ho with u | u | ⟨g0,i0,l0,u1,u2,u3⟩
   ·exact .inl u
   ·exact .inr (.inl u)
   ·obtain⟨p,p1,p2,p3⟩:=hlive0 g0 i0 l0 u1 u2
    exact .inr (.inr ⟨_,_,l0,p3,p2,u3⟩)
  ·intro g i l β a b c
   rcases hlive' g i l β a b c with⟨q,q1,q2,q3⟩ | ⟨q1,q2⟩
   ·rcases s.live _ _ l β q2 q3 c with⟨g0,i0,l0,u1,u2,u3⟩ | u
    ·obtain⟨p,p1,p2,p3⟩:=hlive0 g0 i0 l0 u1 u2
     exact .inl ⟨_,_,l0,p3,p2,u3⟩
    ·exact .inr u
   ·exact .inl ⟨g,i,l,q2,b,c⟩
def tM:Blk→Prop
 | .dead=>False
 | .cells _ rows=>∀ r∈rows,∀ c∈r,aZ c
 | .map es=>∀ x∈es,aZ x.2
 | .lp ..=>False
 | .umap ..=>False
 | .it ..=>False
theorem tM.ren {ρ:Nat→Nat→Option (Nat×Nat)} {x:Blk} (h:tM x):eY ρ x x:=by
 cases x with
 | dead=>exact h.elim
 | lp=>exact h.elim
 | umap=>exact h.elim
 | it=>exact h.elim
 | cells sz rows=>exact .pure sz rows h
 | map es=>exact .pureMap es h
theorem tM.live {x:Blk} (h:tM x):x.live=true:=by cases x<;>first | exact h.elim | rfl
def to1 (g i:Nat) (a b:Nat):Option (Nat×Nat):=match Nat.beq a 0 && Nat.beq b 0 with
 | true=>some (g,i)
 | false=>none
def vI (g i:Nat) (a b:Nat):Option (Nat×Nat):=match Nat.beq a g && Nat.beq b i with
 | true=>some (0,0)
 | false=>none
theorem yR {g i a b:Nat} {p:Nat×Nat} (h:to1 g i a b=some p):a=0∧b=0∧p=(g,i):=by
 unfold to1 at h;split at h
 ·rename_i e
  simp only[bAe] at e
  injection h with h
  exact⟨nEb e.1,nEb e.2,h.symm⟩
 ·cases h
theorem tI {g i a b:Nat} {p:Nat×Nat} (h:vI g i a b=some p):a=g∧b=i∧p=(0,0):=by
 unfold vI at h;split at h
 ·rename_i e
  simp only[bAe] at e
  injection h with h
  exact⟨nEb e.1,nEb e.2,h.symm⟩
 ·cases h
theorem sJ (g i:Nat):vI g i g i=some (0,0):=by simp[vI]
theorem zH (x:Blk) {g i:Nat} {y:Blk} (h:hget [[x]] g i=some y):g=0∧i=0∧y=x:=by
 unfold hget at h
 cases g with
 | zero=>
  simp only[List.getElem?_cons_zero] at h
  cases i with
  | zero=>simp at h; exact⟨rfl,rfl,h.symm⟩
  | succ i=>simp at h
 | succ g=>simp at h
def mB (ρ:Nat→Nat→Option (Nat×Nat)):List AV→List AV→Prop
 | [],[]=>True
 | a::l,b::m=>Ren ρ a b∧mB ρ l m
 | _,_=>False
theorem mB.spec {ρ}:∀ {l m:List AV},mB ρ l m→l.length=m.length∧∀(j:Nat) a b,l[j]?=some a→m[j]?=some b→Ren ρ a b
 | [],[],_=>⟨rfl,fun j a b h=>by simp at h⟩
 | [],_::_,h=>h.elim
 | _::_,[],h=>h.elim
 | x::l,y::m,⟨h1,h2⟩=>by
  obtain⟨h3,h4⟩:=mB.spec h2;refine⟨by simp[h3],fun j a b ha hb=>?_⟩
  cases j with
  | zero=>simp at ha hb; subst ha; subst hb; exact h1
  | succ j=>exact h4 j a b (by simpa using ha) (by simpa using hb)
theorem aE.via1 {P:Program} {f:FuncId} {args args':List AV} {H:Heap} {x:Blk} (g i:Nat) {R:AV→Blk→Prop} (h:aE P f args' [[x]] fun res H'=>∃ y,H'=[[y]]∧aZ res∧tM y∧R res y) (hx:hget H g i=some x) (hp:tM x)
  (ha:mB (to1 g i) args args'):aE P f args H fun res H'=>∃ y,H'=aK H g i y∧R res y:=by
 obtain⟨hl,hargs⟩:=ha.spec
 refine aE.via (to1 g i) (vI g i) h hl hargs (fun a b p e=>?_) (fun a b q e=>?_) (fun a b y e=>?_) (fun a b p e=>?_) fun res H' hr=>?_
 ·obtain⟨rfl,rfl,rfl⟩:=yR e
  exact sJ g i
 ·obtain⟨rfl,rfl,rfl⟩:=tI e
  rfl
 ·obtain⟨rfl,rfl,rfl⟩:=zH x e
  exact⟨hp.live,(g,i),y,rfl,hx,hp.ren⟩
 ·obtain⟨rfl,rfl,rfl⟩:=yR e
  rfl
 ·obtain⟨y,rfl,hres,hy,hR⟩:=hr
  have hok':hok H g i:=.inl (by rw[hx]; rfl);refine⟨fun a b e=>?_,res,aK H g i y,.pure hres,fun a b z hz hzl=>?_,fun a b e=>?_,y,rfl,hR⟩
  ·obtain⟨z,hz⟩:=Option.isSome_iff_exists.1 e
   obtain⟨rfl,rfl,rfl⟩:=zH y hz;rfl
  ·rw[aL _ _ _ _ _ _ hok'] at hz
   split at hz
   ·rename_i e
    obtain⟨rfl,rfl⟩:=e
    injection hz with hz
    subst hz;exact .inl ⟨(0,0),y,sJ a b,rfl,hy.ren⟩
   ·rename_i e
    refine .inr ⟨?_,hz⟩
    cases e':vI g i a b with
    | none=>rfl
    | some q=>
     obtain⟨rfl,rfl,_⟩:=tI e';exact absurd ⟨rfl,rfl⟩ e
  ·rw[aL _ _ _ _ _ _ hok']
   split
   ·rfl
   ·exact e
def low (k:Nat) (g i:Nat):Option (Nat×Nat):=match Nat.blt g k with
 | true=>some (g,i)
 | false=>none
theorem r8 {k g i:Nat} {p:Nat×Nat} (h:low k g i=some p):g < k∧p=(g,i):=by
 unfold low at h;split at h
 ·rename_i e
  injection h with h
  exact⟨nlB e,h.symm⟩
 ·cases h
theorem nM {k g i:Nat} (h:g < k):low k g i=some (g,i):=by
 unfold low
 have:Nat.blt g k=true:=by simpa[Nat.blt_eq] using h
 rw[this]
end Go.Av
namespace Go.Av
theorem dO {P:Program} {ops:Array Oper} {Q:Exit→Act→World→Prop} {l2:List Nat}:∀(l:List Nat) (a:Act) (w:World),wpOps P ops (fun e a w=>e=.normal∧wpOps P ops Q l2 a w) l a w→wpOps P ops Q (l++l2) a w
 | [],a,w,h=>h.2
 | i::l,a,w,h=>by
  show wpOps P ops Q (i::(l++l2)) a w;simp only[wpOps] at h ⊢;split at h
  ·exact dO l a w h
  ·rename_i o e
   split at h
   ·rename_i hw
    rw[if_pos hw]
    rcases h with h | ⟨_,a',w',h,_⟩
    ·left
     unfold Oper.wp at h ⊢;generalize (execOp a.eval o).run P w=r at *
     cases r with
     | ok n w'=>
      cases n<;>simp only[Oper.upon] at h ⊢
      all_goals first
       | exact dO l _ _ h
       | exact Calls.mono h (fun e w'' he=>by
         cases e
         ·exact dO l _ _ he
         ·cases he.1
         ·obtain⟨_,_,h,_⟩:=he; cases h)
       | exact Rows.mono h (fun _ _ he=>dO l _ _ he)
     | halt x w'=>
      cases x<;>simp only[Oper.upon] at h ⊢<;>cases h.1
    ·cases h
   ·rename_i hw
    rw[if_neg hw];exact dO l _ _ h
end Go.Av
namespace Go.Av
theorem rI.push (H:Heap) (sz:Nat):rI H (H++[[.cells sz []]]):=by
 refine⟨fun g i x' hx hl=>?_,fun g i h=>?_⟩
 ·rw[dC] at hx
  split at hx
  ·rename_i e
   subst e;right;refine⟨by simp[hget],sz,?_⟩
   cases i with
   | zero=>simpa using hx.symm
   | succ i=>simp at hx
  ·exact .inl ⟨x',hx,.refl _⟩
 ·rw[dC]
  split
  ·rename_i e
   subst e;simp[hget] at h
  ·exact h
theorem GhT.push (H:Heap) (sz:Nat):GhT H (H++[[.cells sz []]]) (.sc (.slice none 0 0)) (.hsl H.length 0 0 0):=
 .mk H.length 0 sz (by simp[hget]) (by rw[dC,if_pos rfl]; rfl)
def rW (T:AV→AV→Prop) (fr:Fr):Fr→Prop
 | []=>True
 | x::r=>dR T (fr.get x.1) x.2∧rW T fr r
theorem rW.mem {T fr}:∀ {fr':Fr},rW T fr fr'→∀ x∈fr',dR T (fr.get x.1) x.2
 | [],_,x,h=>by cases h
 | _::_,⟨h1,h2⟩,x,h=>by
  cases h with
  | head=>exact h1
  | tail _ h=>exact rW.mem h2 x h
def allS (_ _:Nat):Bool:=true
def EN (H:Heap):Heap:=H.map fun f=>f.map fun _=>.dead
theorem vJ {H:Heap} {g i:Nat}:(hget (EN H) g i).isSome=(hget H g i).isSome∧∀ x,hget (EN H) g i=some x→x=.dead:=by
 unfold hget EN;rw[List.getElem?_map]
 cases H[g]? with
 | none=>exact⟨rfl,fun x h=>by cases h⟩
 | some f=>
  simp only[Option.map_some,List.getElem?_map]
  cases f[i]? with
  | none=>exact⟨rfl,fun x h=>by cases h⟩
  | some y=>exact⟨rfl,fun x h=>by simpa using h.symm⟩
theorem kL.all (H:Heap):kL H allS (EN H):=by
 refine⟨fun g i x' hx hl=>?_,fun g i h=>by rw[vJ.1]; exact h⟩;have:=vJ.2 x' hx;subst this
 cases hl
def FzA (H:Heap):AV→AV→Prop:=dR (FzT H allS)
def DM (H:Heap) (fr:Fr):Fr→Prop
 | []=>True
 | x::r=>(FzA H (fr.get x.1) x.2∧aZ x.2)∧DM H fr r
theorem DM.mem {H fr}:∀ {fr':Fr},DM H fr fr'→∀ x∈fr',FzA H (fr.get x.1) x.2∧aZ x.2
 | [],_,x,h=>by cases h
 | _::_,⟨h1,h2⟩,x,h=>by
  cases h with
  | head=>exact h1
  | tail _ h=>exact DM.mem h2 x h
theorem FzA.hsl {H:Heap} {g i start len sz:Nat} {rows rows':List (List AV)} (h:hget H g i=some (.cells sz rows)) (hl:start+len≤rows.length) (e:(rows.drop start).take len=rows'):FzA H (.hsl g i start len) (.list sz rows'):=by
 subst e;exact .base (.hsl g i start len sz rows rfl h hl)
theorem FzA.all {H:Heap} {g i len sz:Nat} {rows:List (List AV)} (h:hget H g i=some (.cells sz rows)) (hl:rows.length=len):FzA H (.hsl g i 0 len) (.list sz rows):=
 .hsl h (by omega) (by rw[List.drop_zero,List.take_of_length_le (by omega)])
theorem FzA.ptr {H:Heap} {g i row sz:Nat} {rows:List (List AV)} {r:List AV} (h:hget H g i=some (.cells sz rows)) (hr:rows[row]?=some r):FzA H (.ptr g i row 0) (.cptr r):=
 .base (.ptr g i row 0 sz rows r rfl h hr)
theorem FzA.mref {H:Heap} {g i:Nat} {es:List (Value×AV)} (h:hget H g i=some (.map es)):FzA H (.mref g i) (.tmap es):=.base (.mref g i es rfl h)
theorem FzA.refl (H:Heap) (a:AV):FzA H a a:=dR.refl a
def vT (T:AV→AV→Prop):List AV→List AV→Prop
 | [],[]=>True
 | a::l,b::m=>dR T a b∧vT T l m
 | _,_=>False
theorem vT.spec {T}:∀ {l m:List AV},vT T l m→l.length=m.length∧∀(j:Nat) a b,l[j]?=some a→m[j]?=some b→dR T a b
 | [],[],_=>⟨rfl,fun j a b h=>by simp at h⟩
 | [],_::_,h=>h.elim
 | _::_,[],h=>h.elim
 | x::l,y::m,⟨h1,h2⟩=>by
  obtain⟨h3,h4⟩:=vT.spec h2;refine⟨by simp[h3],fun j a b ha hb=>?_⟩
  cases j with
  | zero=>simp at ha hb; subst ha; subst hb; exact h1
  | succ j=>exact h4 j a b (by simpa using ha) (by simpa using hb)
theorem dR.tupL {T} {l m:List AV} (h:vT T l m):dR T (.tup l) (.tup m):=.tup l m h.spec.1 h.spec.2
theorem dR.aggL {T} {l m:List AV} (h:vT T l m):dR T (.agg l) (.agg m):=.agg l m h.spec.1 h.spec.2
theorem vR {g i:Nat} {fr:Fr} {H:Heap} {sz bytes:Nat} {s x:Operand} {g' i' len:Nat} {rows1 rows2:List (List AV)} (hs:ev fr s=.hsl g' i' 0 len) (hx:d9 sz H (ev fr x)=some (sz,rows2)) (hh:hget H g' i'=some (.cells sz rows1))
  (hl:rows1.length=len) (hb:(len+rows2.length) * (bytes+1)≤70368744177664) (e3:(Nat.beq g g' && Nat.beq i i')=false):
  aD g i (.append sz bytes s x) fr H=some (.hsl g i 0 (len+rows2.length),aK (aK H g' i' .dead) g i (.cells sz (rows1++rows2))):=by
 have e2:Nat.ble ((len+rows2.length) * (bytes+1)) 70368744177664=true:=by simpa using hb
 simp only[aD,hx,hs,hh]
 have e4:Nat.beq sz sz=true:=by simp
 have e5:Nat.beq rows1.length len=true:=by simp[hl]
 simp only[e4,e5,e2,e3,Bool.and_self]
end Go.Av
namespace Go.Av
theorem qD {g i:Nat} {fr:Fr} {H:Heap} {a:Operand} {g' i' row off s:Nat} {rows:List (List AV)} {r:List AV} {c:AV} (ha:ev fr a=.ptr g' i' row off) (hh:hget H g' i'=some (.cells s rows)) (hr:rows[row]?=some r) (hc:r[off]?=some c):
  aD g i (.load 1 false a) fr H=some (c,H):=by
 have e2:iW 1 false (r.drop off)=some c:=by
  obtain⟨hl,he⟩:=gEs.1 hc;rw[List.drop_eq_getElem_cons hl,he];rfl
 simp only[aD,ha,hh,hr,e2]
theorem E7 {g i:Nat} {fr:Fr} {H:Heap} {a x:Operand} {sz g' i' row off s:Nat} {rows:List (List AV)} {r cs:List AV} (ha:ev fr a=.ptr g' i' row off) (hx:(ev fr x).cs=some cs) (hh:hget H g' i'=some (.cells s rows)) (hr:rows[row]?=some r)
  (hs:cs.length=sz) (hl:off+sz≤r.length) (h1:cs.all AV.cell1=true):
  aD g i (.store sz a x) fr H=some (.undef,aK H g' i' (.cells s (rows.set row (bO r off cs)))):=by
 have e1:Nat.beq cs.length sz=true:=by simp[hs]
 have e2:Nat.ble (off+sz) r.length=true:=by simpa using hl
 simp only[aD,ha,hx,hh,hr,e1,e2,h1,Bool.and_self]
theorem z7 {α:Type} (l:List α):∀(k:Nat) (v:α),bO l k [v]=l.set k v:=by
 induction l with
 | nil=>intro k v; rfl
 | cons x l ih=>
  intro k v
  cases k with
  | zero=>simp[bO,qN]
  | succ k=>simp[bO,ih]
theorem qW {α:Type}:∀(l vs:List α),vs.length=l.length→bO l 0 vs=vs
 | [],[],_=>rfl
 | [],_::_,h=>by simp at h
 | _::_,[],h=>by simp at h
 | x::l,v::vs,h=>by
  show v::bO l 0 vs=v::vs;rw[qW l vs (by simpa using h)]
def bset (n:Nat) (s:Nat→Bool):List AV:=(List.range n).map fun i=>.sc (.bool (s i))
theorem F9 (n:Nat) (s:Nat→Bool):∀ c∈bset n s,aZ c:=fun c hc=>by
 obtain⟨a,_,rfl⟩:=List.mem_map.1 hc;exact .sc _
theorem eY.row {ρ:Nat→Nat→Option (Nat×Nat)} {sz:Nat} {r r':List AV} (e:r=r') (h:∀ c∈r',aZ c):eY ρ (.cells sz [r]) (.cells sz [r']):=by
 subst e;exact .pure sz [r] (allPure_cons' h)
where
 allPure_cons' {r:List AV} (h:∀ c∈r,aZ c):∀ x∈[r],∀ c∈x,aZ c:=fun x hx=>by
  have:x=r:=by simpa using hx
  subst this;exact h
theorem eY.rows {ρ:Nat→Nat→Option (Nat×Nat)} {sz:Nat} {rows rows':List (List AV)} (e:rows=rows') (h:∀ r∈rows',∀ c∈r,aZ c):eY ρ (.cells sz rows) (.cells sz rows'):=by
 subst e;exact .pure sz rows h
end Go.Av
namespace Go.Av
inductive FT where
 | leaf
 | node (v:AV) (l r:FT)
def FT.get:FT→Nat→AV
 | .leaf,_=>.undef
 | .node v l r,n=>match n with
  | 0=>v
  | m+1=>match Nat.beq (Nat.mod m 2) 0 with
   | true=>l.get (Nat.div m 2)
   | false=>r.get (Nat.div m 2)
def FT.put:FT→Nat→AV→Option FT
 | .leaf,_,_=>none
 | .node v l r,n,x=>match n with
  | 0=>some (.node x l r)
  | m+1=>match Nat.beq (Nat.mod m 2) 0 with
   | true=>match l.put (Nat.div m 2) x with
    | some l'=>some (.node v l' r)
    | none=>none
   | false=>match r.put (Nat.div m 2) x with
    | some r'=>some (.node v l r')
    | none=>none
def FT.full:Nat→FT
 | 0=>.leaf
 | d+1=>.node .undef (FT.full d) (FT.full d)
theorem FT.get_put:∀(T T':FT) (d:Nat) (v:AV),T.put d v=some T'→∀ t,T'.get t=match Nat.beq d t with | true=>v | false=>T.get t:=by
 intro T
 induction T with
 | leaf=>intro T' d v h; cases h
 | node u l r ihl ihr=>
  intro T' d v h t
  cases d with
  | zero=>
   simp only[FT.put,oIn] at h;subst h
   cases t with
   | zero=>rfl
   | succ t=>rfl
  | succ m=>
   simp only[FT.put] at h;split at h
   ·rename_i e
    split at h
    ·rename_i l' hl
     injection h with h
     subst h
     cases t with
     | zero=>rfl
     | succ t=>
      have:=ihl l' _ _ hl;simp only[FT.get];split
      ·rename_i e'
       rw[this];have e1:m % 2=0:=nEb e;have e2:t % 2=0:=nEb e'
       have:Nat.beq (Nat.div m 2) (Nat.div t 2)=Nat.beq (m+1) (t+1):=by
        rw[Bool.eq_iff_iff];simp only[Nat.beq_eq];show m / 2=t / 2↔m+1=t+1;omega
       rw[this]
      ·rename_i e'
       have e1:m % 2=0:=nEb e
       have e2:¬ t % 2=0:=fun h=>by
        have:Nat.beq (Nat.mod t 2) 0=true:=by
         show Nat.beq (t % 2) 0=true;rw[h]; rfl
        rw[this] at e'; cases e'
       have:Nat.beq (m+1) (t+1)=false:=by
        rw[Bool.eq_false_iff];simp only[ne_eq,Nat.beq_eq];omega
       rw[this]
    ·cases h
   ·rename_i e
    split at h
    ·rename_i l' hl
     injection h with h
     subst h
     cases t with
     | zero=>rfl
     | succ t=>
      have:=ihr l' _ _ hl
      have e1:¬ m % 2=0:=fun h=>by
       have:Nat.beq (Nat.mod m 2) 0=true:=by
        show Nat.beq (m % 2) 0=true;rw[h]; rfl
       rw[this] at e; cases e
      simp only[FT.get];split
      ·rename_i e'
       have e2:t % 2=0:=nEb e'
       have:Nat.beq (m+1) (t+1)=false:=by
        rw[Bool.eq_false_iff];simp only[ne_eq,Nat.beq_eq];omega
       rw[this]
      ·rename_i e'
       rw[this]
       have e2:¬ t % 2=0:=fun h=>by
        have:Nat.beq (Nat.mod t 2) 0=true:=by
         show Nat.beq (t % 2) 0=true;rw[h]; rfl
        rw[this] at e'; cases e'
       have:Nat.beq (Nat.div m 2) (Nat.div t 2)=Nat.beq (m+1) (t+1):=by
        rw[Bool.eq_iff_iff];simp only[Nat.beq_eq];show m / 2=t / 2↔m+1=t+1;omega
       rw[this]
    ·cases h
def FT.putO (T:FT) (d:Option Nat) (v:AV):Option FT:=
 match d with
 | some d=>T.put d v
 | none=>some T
def AgT (fr:Fr) (T:FT):Prop:=∀ t,fr.get t=T.get t
theorem AgT.put {fr:Fr} {T T':FT} {d:Option Nat} {v:AV} (h:AgT fr T) (hp:T.putO d v=some T'):AgT (fr.put d v) T':=by
 cases d with
 | none=>injection hp with hp; subst hp; exact h
 | some d=>
  intro t;rw[FT.get_put _ _ _ _ hp t];show(match Nat.beq d t with | true=>v | false=>Fr.get fr t)=_;rw[h t]
def FT.ev (T:FT):Operand→AV
 | .tmp t=>T.get t
 | .const v=>.sc v
 | .global g=>.sc (.pointer (some ⟨g,0,none⟩))
 | .func f=>.sc (.func (.func f) #[] #[])
theorem AgT.ev {fr:Fr} {T:FT} (h:AgT fr T):Av.ev fr=T.ev:=by
 funext x
 cases x with
 | tmp t=>exact h t
 | _=>rfl
theorem AgT.avals {fr:Fr} {T:FT} (h:AgT fr T) (l:List Operand):Av.avals fr l=l.map T.ev:=by unfold Av.avals; rw[h.ev]
def K6 (e:Operand→AV) (d:Nat):Option Operand→Option Nat
 | none=>some d
 | some x=>match e x with
  | .sc (.int _ (.ofNat q))=>some q
  | _=>none
def lW (e:Operand→AV) (d:Nat) (lo hi mx:Option Operand):Option (Nat×Nat):=
 match K6 e 0 lo,K6 e d hi,K6 e d mx with
 | some l,some h,some m=>match Nat.ble l h && (Nat.ble h m && Nat.ble m d) && (mx.isNone || hi.isSome) with
  | true=>some (l,h)
  | false=>none
 | _,_,_=>none
def r6 (e:Operand→AV) (g i:Nat) (o:IOp) (H:Heap):Option (AV×Heap):=
 match o with
 | .move x=>fz (e x) H
 | .pick c a b=>match e c with
  | .sc (.bool true)=>fz (e a) H
  | .sc (.bool false)=>fz (e b) H
  | _=>none
 | .alloc z=>some (.ptr g i 0 0,aK H g i (.cells (d5 z).length [d5 z]))
 | .box x=>match (e x).cs with
  | some cs=>match cs.all AV.cell1 with
   | true=>some (.ptr g i 0 0,aK H g i (.cells cs.length [cs]))
   | false=>none
  | none=>none
 | .build z parts=>match lay (d5 z) (parts.map fun p=>(p.1,p.2.1,e p.2.2)) with
  | some cs=>some (.agg cs,H)
  | none=>none
 | .buildSlice sz z n parts=>match l8 sz (List.replicate n (d5 z)) (parts.map fun p=>(p.1,e p.2)) with
  | some rows=>some (.hsl g i 0 n,aK H g i (.cells sz rows))
  | none=>none
 | .load sz agg a=>match e a with
  | .cptr cells=>match iW sz agg cells with
   | some v=>some (v,H)
   | none=>none
  | .ptr g' i' row off=>match hget H g' i' with
   | some (.cells s rows)=>match rows[row]? with
    | some r=>match iW sz agg (r.drop off) with
     | some v=>some (v,H)
     | none=>match Nat.beq s 1 && Nat.beq off 0 with
      | true=>match iW sz agg ((rows.drop row).take sz).flatten with
       | some v=>some (v,H)
       | none=>none
      | false=>none
    | none=>none
   | _=>none
  | _=>none
 | .store sz a x=>match e a with
  | .ptr g' i' row off=>match (e x).cs with
   | some cs=>match hget H g' i' with
    | some (.cells s rows)=>match rows[row]? with
     | some r=>match Nat.beq cs.length sz && (Nat.ble (off+sz) r.length && cs.all AV.cell1) with
      | true=>some (.undef,aK H g' i' (.cells s (rows.set row (bO r off cs))))
      | false=>none
     | none=>none
    | _=>none
   | none=>none
  | _=>none
 | .nilCheck x=>match e x with
  | .ptr g' i' row off=>some (.ptr g' i' row off,H)
  | .cptr cells=>some (.cptr cells,H)
  | .ifc t a=>some (.ifc t a,H)
  | _=>none
 | .bin op t x y=>match e x,e y with
  | .sc a,.sc b=>match Sem.pure? (do eqGuard op t x y a b; binOp op t a b) with
   | some v=>some (.sc v,H)
   | none=>none
  | _,_=>none
 | .eqBool neg x y=>match e x,e y with
  | .sc (.bool a),.sc (.bool b)=>match neg with
   | true=>some (.sc (.bool (!(a == b))),H)
   | false=>some (.sc (.bool (a == b)),H)
  | _,_=>none
 | .eqNil neg x=>match e x with
  | .ptr _ _ _ _=>some (.sc (.bool neg),H)
  | .cptr _=>some (.sc (.bool neg),H)
  | .sc (.pointer none)=>some (.sc (.bool (!neg)),H)
  | _=>none
 | .eqNilM neg x=>match e x with
  | .mref _ _=>some (.sc (.bool neg),H)
  | .tmap _=>some (.sc (.bool neg),H)
  | .sc (.map none)=>some (.sc (.bool (!neg)),H)
  | _=>none
 | .eqNilS neg x=>match e x with
  | .list _ (_::_)=>some (.sc (.bool neg),H)
  | .hsl g' i' _ len=>match len with
   | _+1=>some (.sc (.bool neg),H)
   | 0=>match hget H g' i' with
    | some (.cells _ (_::_))=>some (.sc (.bool neg),H)
    | _=>none
  | .asl _ _ _ _ _=>some (.sc (.bool neg),H)
  | .sc (.slice none 0 0)=>some (.sc (.bool (!neg)),H)
  | _=>none
 | .eqArr neg n x y=>match e x,e y with
  | .agg xs,.agg ys=>match bools xs,bools ys with
   | some a,some b=>match Nat.beq a.length n && Nat.beq b.length n with
    | true=>match neg with
     | true=>some (.sc (.bool (!(a == b))),H)
     | false=>some (.sc (.bool (a == b)),H)
    | false=>none
   | _,_=>none
  | _,_=>none
 | .un op x=>match e x with
  | .sc a=>match Sem.pure? (Op.unary op a) with
   | some v=>some (.sc v,H)
   | none=>none
  | _=>none
 | .conv k x=>match e x with
  | .sc (.int _ n)=>some (.sc (.int k (k.wrap n)),H)
  | _=>none
 | .makeFunc fn first captured=>match fzl (first.map e),fzl (captured.map e) with
  | some a,some b=>some (.clo fn a b,H)
  | _,_=>none
 | .makeMap=>some (.mref g i,aK H g i (.map []))
 | .makeSlice sz bytes z l=>match e l with
  | .sc (.int .i64 (.ofNat n))=>match Nat.ble (bytes * n) 70368744177664 && Nat.ble n 1073741824 with
   | true=>some (.hsl g i 0 n,aK H g i (.cells sz (List.replicate n (d5 z))))
   | false=>none
  | _=>none
 | .slice sz x lo hi mx=>match e x with
  | .list s rows=>match Nat.beq s sz with
   | true=>match lW e rows.length lo hi mx with
    | some (l,h)=>some (.list sz ((rows.drop l).take (h - l)),H)
    | none=>none
   | false=>none
  | .hsl g' i' start len=>match hget H g' i' with
   | some (.cells s rows)=>match Nat.beq s sz with
    | true=>match lW e len lo hi mx with
     | some (l,h)=>match mx with
      | some _=>some (.undef,H)
      | none=>match Nat.beq l 0 with
       | true=>some (.hsl g' i' start h,H)
       | false=>match Nat.beq l h with
        | true=>some (.list sz [],H)
        | false=>some (.hsl g' i' (start+l) (h - l),H)
     | none=>match lW e (rows.length - start) lo hi mx with
      | some (l,h)=>match hi,mx with
       | some _,none=>match Nat.blt 0 sz && Nat.blt l h with
        | true=>some (.hsl g' i' (start+l) (h - l),H)
        | false=>none
       | _,_=>none
      | none=>none
    | false=>none
   | _=>none
  | .sc (.slice none 0 0)=>match lW e 0 lo hi mx with
   | some _=>some (.sc (.slice none 0 0),H)
   | none=>none
  | _=>none
 | .fieldAddr off x=>match e x with
  | .cptr cells=>some (.cptr (cells.drop off),H)
  | .ptr g' i' row o=>some (.ptr g' i' row (o+off),H)
  | _=>none
 | .field off sz agg x=>match (e x) with
  | .agg cells=>match iW sz agg (cells.drop off) with
   | some v=>some (v,H)
   | none=>none
  | _=>none
 | .idxSl sz x ix=>match e ix with
  | .sc (.int _ n)=>match e x with
   | .list s rows=>match Nat.beq s sz,cW rows n with
    | true,some r=>some (.cptr r,H)
    | _,_=>none
   | .hsl g' i' start len=>match n with
    | .ofNat q=>match hget H g' i' with
     | some (.cells s rows)=>match Nat.beq s sz && (Nat.blt q len && Nat.ble (start+len) rows.length) with
      | true=>some (.ptr g' i' (start+q) 0,H)
      | false=>none
     | _=>none
    | .negSucc _=>none
   | .asl g' i' row off len=>match n with
    | .ofNat q=>match Nat.beq sz 1 && Nat.blt q len with
     | true=>some (.ptr g' i' row (off+q),H)
     | false=>none
    | .negSucc _=>none
   | _=>none
  | _=>none
 | .idxArr n sz x ix=>match e ix with
  | .sc (.int _ (.ofNat q))=>match Nat.blt q n with
   | true=>match e x with
    | .cptr cells=>some (.cptr (cells.drop (q * sz)),H)
    | .ptr g' i' row o=>some (.ptr g' i' row (o+q * sz),H)
    | _=>none
   | false=>none
  | _=>none
 | .idxVal n sz agg x ix=>match e ix with
  | .sc (.int _ (.ofNat q))=>match Nat.blt q n with
   | true=>match e x with
    | .agg cells=>match iW sz agg (cells.drop (q * sz)) with
     | some v=>some (v,H)
     | none=>none
    | _=>none
   | false=>none
  | _=>none
 | .lookup z k x ix ok=>match e ix with
  | .sc (.int k' n)=>match decide (k=k') with
   | true=>lM z ok H (l7 H k n (e x))
   | false=>none
  | _=>none
 | .mapUpdate k m ix x=>match e m,e ix with
  | .mref g' i',.sc (.int k' n)=>match decide (k=k') with
   | true=>match hget H g' i' with
    | some (.map es)=>match dM k n es with
     | some none=>some (.undef,aK H g' i' (.map (es++[(.int k n,e x)])))
     | some (some _)=>some (.undef,aK H g' i' (.map (rL n (e x) es)))
     | none=>none
    | _=>none
   | false=>none
  | _,_=>none
 | .extract x ix=>match e x with
  | .tup vs=>match vs[ix]? with
   | some v=>some (v,H)
   | none=>none
  | _=>none
 | .len x=>match e x with
  | .list _ rows=>some (.sc (.int .i64 rows.length),H)
  | .hsl _ _ _ len=>some (.sc (.int .i64 len),H)
  | .asl _ _ _ _ len=>some (.sc (.int .i64 len),H)
  | .sc (.slice none 0 0)=>some (.sc (.int .i64 (0:Nat)),H)
  | _=>none
 | .lenM x=>match e x with
  | .tmap es=>some (.sc (.int .i64 es.length),H)
  | .mref g' i'=>match hget H g' i' with
   | some (.map es)=>some (.sc (.int .i64 es.length),H)
   | _=>none
  | .sc (.map none)=>some (.sc (.int .i64 (0:Nat)),H)
  | _=>none
 | .append sz bytes s x=>match d9 sz H (e x) with
  | some (s2,rows2)=>match Nat.beq s2 sz with
   | true=>match e s with
    | .hsl g' i' 0 len=>match hget H g' i' with
     | some (.cells s1 rows1)=>match Nat.beq s1 sz && (Nat.beq rows1.length len && Nat.ble ((len+rows2.length) * (bytes+1)) 70368744177664) with
      | true=>match Nat.beq g g' && Nat.beq i i' with
       | true=>none
       | false=>some (.hsl g i 0 (len+rows2.length),aK (aK H g' i' .dead) g i (.cells sz (rows1++rows2)))
      | false=>match Nat.beq s1 sz && (Nat.blt 0 sz && (Nat.blt len rows1.length && Nat.ble (len+rows2.length) rows1.length)) with
       | true=>match Nat.beq g g' && Nat.beq i i' with
        | true=>none
        | false=>some (.hsl g i 0 (len+rows2.length),aK (aK H g' i' .dead) g i (.cells sz (rows1.take len++(rows2++rows1.drop (len+rows2.length)))))
       | false=>none
     | _=>none
    | .sc (.slice none 0 0)=>match Nat.ble (rows2.length * (bytes+1)) 70368744177664 with
     | true=>some (.hsl g i 0 rows2.length,aK H g i (.cells sz rows2))
     | false=>none
    | _=>none
   | false=>none
  | none=>none
 | .max args=>match scs (args.map e) with
  | some vs=>match Sem.pure? (Builtin.max_ #[] 0 vs.toArray) with
   | some v=>some (.sc v,H)
   | none=>none
  | none=>none
 | .min args=>match scs (args.map e) with
  | some vs=>match Sem.pure? (Builtin.min_ #[] 0 vs.toArray) with
   | some v=>some (.sc v,H)
   | none=>none
  | none=>none
 | .xop q xs=>match mS H q (xs.map e) with
  | some v=>some (v,H)
  | none=>none
 | .insF ks m ix x=>match e m,jO (e ix) with
  | .mref g' i',some k=>match cF ks k k with
   | some _=>match hget H g' i' with
    | some (.map [])=>match rK k with
     | some c=>some (.undef,aK H g' i' (.umap c.length [(c,e x)]))
     | none=>none
    | some (.umap n es)=>match rK k with
     | some c=>match Nat.beq c.length n,dN c es with
      | true,none=>some (.undef,aK H g' i' (.umap n (eU c (e x) es)))
      | _,_=>none
     | none=>none
    | _=>none
   | none=>none
  | _,_=>none
 | .mop q xs=>dG g i H q (xs.map e)
theorem BL (fr:Fr) (d:Nat) (lo hi mx:Option Operand):eF fr d lo hi mx=lW (ev fr) d lo hi mx:=by
 cases lo<;>cases hi<;>cases mx<;>rfl
theorem vC (g i:Nat) (o:IOp) (fr:Fr) (H:Heap):aD g i o fr H=r6 (ev fr) g i o H:=by
 cases o<;>first | rfl | (simp only[aD,r6,BL]; rfl)
def NF (e:Operand→AV):IOp→List (Nat×Nat)
 | .load _ _ a=>bB (e a)
 | .store _ a _=>bB (e a)
 | .idxSl _ x _=>bB (e x)
 | .slice _ x _ _ _=>bB (e x)
 | .lenM x=>bB (e x)
 | .eqNilS _ x=>bB (e x)
 | .lookup _ _ x _ _=>bB (e x)
 | .mapUpdate _ m _ _=>bB (e m)
 | .append _ _ s x=>bB (e s)++bB (e x)
 | .xop _ xs=>(xs.map e).flatMap bB
 | .insF _ m _ _=>bB (e m)
 | .mop _ xs=>(xs.map e).flatMap bB
 | _=>[]
def P3 (e:Operand→AV) (g i:Nat):IOp→List (Nat×Nat)
 | .alloc _=>[(g,i)]
 | .box _=>[(g,i)]
 | .buildSlice _ _ _ _=>[(g,i)]
 | .makeMap=>[(g,i)]
 | .makeSlice _ _ _ _=>[(g,i)]
 | .store _ a _=>bB (e a)
 | .mapUpdate _ m _ _=>bB (e m)
 | .insF _ m _ _=>bB (e m)
 | .append _ _ s _=>(g,i)::bB (e s)
 | .mop o xs=>mwr g i o (xs.map e)
 | _=>[]
theorem EL (fr:Fr) (o:IOp):drd fr o=NF (ev fr) o:=by cases o<;>rfl
theorem LM (fr:Fr) (g i:Nat) (o:IOp):dwr g i fr o=P3 (ev fr) g i o:=by cases o<;>rfl
abbrev Caller:=FuncId→List AV→Heap→Option (AV×Heap)
mutual
def kB (k:Nat):AV→Bool
 | .undef=>true
 | .sc _=>true
 | .agg c=>jT k c
 | .tup c=>jT k c
 | .list _ r=>w7 k r
 | .cptr c=>jT k c
 | .tmap e=>A8 k e
 | .ptr g _ _ _=>Nat.blt g k
 | .hsl g _ _ _=>Nat.blt g k
 | .mref g _=>Nat.blt g k
 | .clo _ a b=>jT k a && jT k b
 | .yld g _=>Nat.blt g k
 | .asl g _ _ _ _=>Nat.blt g k
 | .ifc _ a=>kB k a
 | .one=>true
def jT (k:Nat):List AV→Bool
 | []=>true
 | a::l=>kB k a && jT k l
def w7 (k:Nat):List (List AV)→Bool
 | []=>true
 | a::l=>jT k a && w7 k l
def A8 (k:Nat):List (Value×AV)→Bool
 | []=>true
 | (_,a)::l=>kB k a && A8 k l
end
def tJ (k:Nat):Blk→Bool
 | .dead=>true
 | .cells _ rows=>w7 k rows
 | .map es=>A8 k es
 | .lp ..=>false
 | .umap ..=>false
 | .it ..=>false
def C1 (k:Nat):List Blk→Bool
 | []=>true
 | x::l=>tJ k x && C1 k l
def B4 (k:Nat):Nat→Heap→Bool
 | 0,_=>true
 | _+1,[]=>true
 | n+1,f::r=>C1 k f && B4 k n r
inductive RR where
 | stuck
 | out (T:FT) (H:Heap)
inductive DR where
 | stuck
 | out (R:List bD) (T:FT) (H:Heap)
def DR.cons (r:bD):DR→DR
 | .stuck=>.stuck
 | .out R T H=>.out (r::R) T H
inductive XR where
 | stuck
 | out (e:Exit) (T:FT) (H:Heap)
def XR.block (id:Nat):XR→XR
 | .out (.exit id') T H=>match Nat.beq id' id with
  | true=>.out .normal T H
  | false=>.out (.exit id') T H
 | r=>r
def RR.x:RR→XR
 | .stuck=>.stuck
 | .out T H=>.out .normal T H
def MG:List (Nat×IFun)→FuncId→Option IFun
 | [],_=>none
 | (n,F)::l,f=>match Nat.beq n f with
  | true=>some F
  | false=>MG l f
end Go.Av
namespace Go.Av
section
variable {α:Type}
noncomputable def lH (l:List α):Nat→Option α:=
 List.rec (motive:=fun _=>Nat→Option α) (fun _=>none) (fun a _ ih n=>Nat.rec (motive:=fun _=>Option α) (some a) (fun m _=>ih m) n) l
theorem eT (l:List α):∀ n,lH l n=l[n]?:=by
 induction l with
 | nil=>intro n; rfl
 | cons a l ih=>
  intro n
  cases n with
  | zero=>rfl
  | succ n=>exact ih n
noncomputable def D9 (l:List α):Nat→List α:=
 List.rec (motive:=fun _=>Nat→List α) (fun _=>[]) (fun a t ih n=>Nat.rec (motive:=fun _=>List α) (a::t) (fun m _=>ih m) n) l
theorem sR (l:List α):∀ n,D9 l n=l.drop n:=by
 induction l with
 | nil=>intro n; cases n<;>rfl
 | cons a l ih=>
  intro n
  cases n with
  | zero=>rfl
  | succ n=>exact ih n
def qP (a:α):Option (List α)→Option (List α)
 | some l=>some (a::l)
 | none=>none
noncomputable def D8 (n:Nat):List α→Option (List α):=
 Nat.rec (motive:=fun _=>List α→Option (List α)) (fun _=>some []) (fun _ ih l=>List.rec (motive:=fun _=>Option (List α)) none (fun a t _=>qP a (ih t)) l) n
theorem H8:∀(n:Nat) (l q:List α),D8 n l=some q→n≤l.length∧l.take n=q:=by
 intro n
 induction n with
 | zero=>intro l q h; injection h with h; subst h; exact⟨nZl _,rfl⟩
 | succ n ih=>
  intro l q h
  cases l with
  | nil=>cases h
  | cons a t=>
   replace h:qP a (D8 n t)=some q:=h
   cases e:D8 n t with
   | none=>rw[e] at h; cases h
   | some q'=>
    rw[e] at h
    injection h with h
    subst h;obtain⟨h1,h2⟩:=ih t q' e;exact⟨by simp; omega,by simp[h2]⟩
noncomputable def K0 (l:List α):Nat→α→Option (List α):=
 List.rec (motive:=fun _=>Nat→α→Option (List α)) (fun _ _=>none) (fun a t ih n x=>Nat.rec (motive:=fun _=>Option (List α)) (some (x::t)) (fun m _=>qP a (ih m x)) n) l
theorem DY (l:List α):∀ n x q,K0 l n x=some q→n < l.length∧l.set n x=q:=by
 induction l with
 | nil=>intro n x q h; cases h
 | cons a t ih=>
  intro n x q h
  cases n with
  | zero=>injection h with h; subst h; exact⟨by simp,rfl⟩
  | succ n=>
   replace h:qP a (K0 t n x)=some q:=h
   cases e:K0 t n x with
   | none=>rw[e] at h; cases h
   | some q'=>
    rw[e] at h
    injection h with h
    subst h;obtain⟨h1,h2⟩:=ih n x q' e;exact⟨by simp; omega,by simp[h2]⟩
noncomputable def yH (vs:List α):List α→Option (List α):=
 List.rec (motive:=fun _=>List α→Option (List α)) (fun l=>some l) (fun v _ ih l=>List.rec (motive:=fun _=>Option (List α)) none (fun _ t _=>qP v (ih t)) l) vs
theorem AA (vs:List α):∀ l q,yH vs l=some q→vs.length≤l.length∧bO l 0 vs=q:=by
 induction vs with
 | nil=>intro l q h; injection h with h; subst h; exact⟨nZl _,qN l 0⟩
 | cons v vs ih=>
  intro l q h
  cases l with
  | nil=>cases h
  | cons a t=>
   replace h:qP v (yH vs t)=some q:=h
   cases e:yH vs t with
   | none=>rw[e] at h; cases h
   | some q'=>
    rw[e] at h
    injection h with h
    subst h;obtain⟨h1,h2⟩:=ih t q' e;exact⟨by simp; omega,by simp[bO,h2]⟩
noncomputable def rX (l:List α) (vs:List α):Nat→Option (List α):=
 List.rec (motive:=fun _=>Nat→Option (List α)) (fun n=>Nat.rec (motive:=fun _=>Option (List α)) (yH vs []) (fun _ _=>none) n) (fun a t ih n=>Nat.rec (motive:=fun _=>Option (List α)) (yH vs (a::t)) (fun m _=>qP a (ih m)) n) l
theorem B6 (l vs:List α):∀ n q,rX l vs n=some q→n+vs.length≤l.length∧bO l n vs=q:=by
 induction l with
 | nil=>
  intro n q h
  cases n with
  | zero=>
   have:=AA vs [] q h;exact⟨by have:=this.1; simp at this; simp[this],this.2⟩
  | succ n=>cases h
 | cons a t ih=>
  intro n q h
  cases n with
  | zero=>have:=AA vs (a::t) q h; exact⟨by omega,this.2⟩
  | succ n=>
   replace h:qP a (rX t vs n)=some q:=h
   cases e:rX t vs n with
   | none=>rw[e] at h; cases h
   | some q'=>
    rw[e] at h
    injection h with h
    subst h;obtain⟨h1,h2⟩:=ih n q' e;exact⟨by simp; omega,by cases vs<;>simp[bO,h2]⟩
end
noncomputable def lG (H:Heap) (g i:Nat):Option Blk:=
 match lH H g with
 | some f=>lH f i
 | none=>none
theorem eV (H:Heap) (g i:Nat):lG H g i=hget H g i:=by
 unfold lG hget;rw[eT]
 cases H[g]? with
 | none=>rfl
 | some f=>exact eT f i
noncomputable def cV {α:Type} (l:List α):Nat:=List.rec (motive:=fun _=>Nat) 0 (fun _ _ ih=>Nat.succ ih) l
theorem bS {α:Type} (l:List α):cV l=l.length:=by
 induction l with
 | nil=>rfl
 | cons a l ih=>show Nat.succ (cV l)=_; rw[ih]; rfl
noncomputable def QY (f:List Blk) (r:Heap) (i:Nat) (x:Blk):Option Heap:=
 match K0 f i x with
 | some f'=>some (f'::r)
 | none=>none
noncomputable def OP (f:List Blk):Option Heap→Option Heap
 | some r=>some (f::r)
 | none=>none
noncomputable def mO (H:Heap):Nat→Nat→Blk→Option Heap:=
 List.rec (motive:=fun _=>Nat→Nat→Blk→Option Heap) (fun g i x=>Nat.rec (motive:=fun _=>Option Heap) (Nat.rec (motive:=fun _=>Option Heap) (some [[x]]) (fun _ _=>none) i) (fun _ _=>none) g)
  (fun f r ih g i x=>Nat.rec (motive:=fun _=>Option Heap) (QY f r i x) (fun m _=>OP f (ih m i x)) g) H
theorem iN (H:Heap):∀ g i x H',mO H g i x=some H'→aK H g i x=H':=by
 induction H with
 | nil=>
  intro g i x H' h
  cases g with
  | zero=>cases i with
   | zero=>injection h
   | succ i=>cases h
  | succ g=>cases h
 | cons f r ih=>
  intro g i x H' h
  cases g with
  | zero=>
   replace h:QY f r i x=some H':=h;unfold QY at h;split at h
   ·rename_i f' e
    injection h with h
    subst h;have:=(DY f i x f' e).2;simp[aK,this]
   ·cases h
  | succ g=>
   replace h:OP f (mO r g i x)=some H':=h
   cases e:mO r g i x with
   | none=>rw[e] at h; cases h
   | some r'=>
    rw[e] at h
    injection h with h
    subst h;simp[aK,ih g i x r' e]
inductive SR where
 | no
 | yes (v:AV) (H:Heap)
def SR.of:Option (AV×Heap)→SR
 | some (v,H)=>.yes v H
 | none=>.no
noncomputable def ID (v:AV) (H:Heap) (g i:Nat) (x:Blk):SR:=
 match mO H g i x with
 | some H'=>.yes v H'
 | none=>.no
def kFz (a:AV) (H:Heap):SR:=
 match a with
 | .undef=>.yes .undef H
 | .sc v=>.yes (.sc v) H
 | .agg c=>.yes (.agg c) H
 | .tup c=>.yes (.tup c) H
 | .list s r=>.yes (.list s r) H
 | .cptr c=>.yes (.cptr c) H
 | .tmap e=>.yes (.tmap e) H
 | .ptr g i r o=>.yes (.ptr g i r o) H
 | .hsl g i s l=>.yes (.hsl g i s l) H
 | .mref g i=>.yes (.mref g i) H
 | .clo f a b=>.yes (.clo f a b) H
 | .yld g i=>.yes (.yld g i) H
 | .asl g i r o n=>.yes (.asl g i r o n) H
 | .ifc t a=>.yes (.ifc t a) H
 | .one=>.yes .one H
def OJ (c a b:AV) (H:Heap):SR:=
 match c with
 | .sc (.bool true)=>kFz a H
 | .sc (.bool false)=>kFz b H
 | _=>.no
def wC (n:Int):Int:=
 match n with
 | .ofNat m=>match Nat.blt m 9223372036854775808 with
  | true=>.ofNat m
  | false=>IntKind.i64.wrap (.ofNat m)
 | .negSucc m=>match Nat.blt m 9223372036854775808 with
  | true=>.negSucc m
  | false=>IntKind.i64.wrap (.negSucc m)
theorem KZ (n:Int):wC n=IntKind.i64.wrap n:=by
 cases n with
 | ofNat m=>
  simp only[wC];split
  ·rename_i h
   have:m+1≤9223372036854775808:=nlB h;rw[wrap_small (by show _≤(m:Int); omega) (by show(m:Int)≤_; omega)]
  ·rfl
 | negSucc m=>
  simp only[wC];split
  ·rename_i h
   have:m+1≤9223372036854775808:=nlB h;rw[wrap_small (by omega) (by omega)]
  ·rfl
def ltK (a b:Int):Bool:=
 match a with
 | .ofNat m=>match b with
  | .ofNat n=>Nat.blt m n
  | .negSucc _=>false
 | .negSucc m=>match b with
  | .ofNat _=>true
  | .negSucc n=>Nat.blt n m
theorem IY (a b:Int):ltK a b=decide (a < b):=by
 cases a<;>cases b<;>simp only[ltK]<;>rw[Bool.eq_iff_iff]<;>simp[Nat.blt_eq]<;>omega
def eqK (a b:Int):Bool:=
 match a with
 | .ofNat m=>match b with
  | .ofNat n=>Nat.beq m n
  | .negSucc _=>false
 | .negSucc m=>match b with
  | .ofNat _=>false
  | .negSucc n=>Nat.beq m n
theorem QK (a b:Int):eqK a b=(a == b):=by
 cases a<;>cases b<;>simp only[eqK]<;>rw[Bool.eq_iff_iff]<;>simp[Nat.beq_eq]
 all_goals (try omega)
def MC (n:Int) (H:Heap):SR:=
 match n with
 | .ofNat m=>.yes (.sc (.int .i64 (.ofNat m))) H
 | .negSucc m=>.yes (.sc (.int .i64 (.negSucc m))) H
theorem NI (n:Int) (H:Heap):MC n H=.yes (.sc (.int .i64 n)) H:=by cases n<;>rfl
def tU (b:Bool) (H:Heap):SR:=
 match b with
 | true=>.yes (.sc (.bool true)) H
 | false=>.yes (.sc (.bool false)) H
theorem G4 (b:Bool) (H:Heap):tU b H=.yes (.sc (.bool b)) H:=by cases b<;>rfl
def C3 (op:BinOp):Int→Int→Heap→SR:=
 match op with
 | .add=>fun a b H=>MC (wC (a+b)) H
 | .sub=>fun a b H=>MC (wC (a - b)) H
 | .mul=>fun a b H=>MC (wC (a * b)) H
 | .eql=>fun a b H=>tU (eqK a b) H
 | .neq=>fun a b H=>tU (!(eqK a b)) H
 | .lss=>fun a b H=>tU (ltK a b) H
 | .leq=>fun a b H=>tU (!(ltK b a)) H
 | .gtr=>fun a b H=>tU (ltK b a) H
 | .geq=>fun a b H=>tU (!(ltK a b)) H
 | _=>fun _ _ _=>.no
def oF (op:BinOp) (t:TypeId) (x y:Operand) (a b:Value) (H:Heap):SR:=
 match Sem.pure? (do eqGuard op t x y a b; binOp op t a b) with
 | some v=>.yes (.sc v) H
 | none=>.no
def SR.or:SR→SR→SR
 | .no=>fun s=>s
 | .yes v H=>fun _=>.yes v H
def HG (op:BinOp) (t:TypeId) (x y:Operand) (a b:Value) (H:Heap):SR:=
 match a with
 | .int .i64 m=>match b with
  | .int .i64 n=>(C3 op m n H).or (oF op t x y (.int .i64 m) (.int .i64 n) H)
  | b=>oF op t x y (.int .i64 m) b H
 | a=>oF op t x y a b H
def kBin (op:BinOp) (t:TypeId) (x y:Operand) (a b:AV) (H:Heap):SR:=
 match a with
 | .sc u=>match b with
  | .sc v=>HG op t x y u v H
  | _=>.no
 | _=>.no
noncomputable def kLd (sz:Nat) (agg:Bool) (r:List AV) (off:Nat) (H:Heap):SR:=
 match agg with
 | false=>match lH r off with
  | some c=>.yes c H
  | none=>.no
 | true=>match D8 sz (D9 r off) with
  | some cs=>.yes (.agg cs) H
  | none=>.no
noncomputable def zL (sz:Nat) (agg:Bool) (a:AV) (H:Heap):SR:=
 match a with
 | .cptr cells=>kLd sz agg cells 0 H
 | .ptr g i row off=>match lG H g i with
  | some (.cells _ rows)=>match lH rows row with
   | some r=>kLd sz agg r off H
   | none=>.no
  | _=>.no
 | _=>.no
noncomputable def zB (g i row s:Nat) (rows:List (List AV)) (H:Heap):Option (List AV)→SR
 | some r'=>match K0 rows row r' with
  | some rows'=>ID .undef H g i (.cells s rows')
  | none=>.no
 | none=>.no
noncomputable def HC (sz:Nat) (a x:AV) (H:Heap):SR:=
 match a with
 | .ptr g i row off=>match x.cs with
  | some cs=>match lG H g i with
   | some (.cells s rows)=>match lH rows row with
    | some r=>match Nat.beq (cV cs) sz with
     | true=>match cs.all AV.cell1 with
      | true=>zB g i row s rows H (rX r cs off)
      | false=>.no
     | false=>.no
    | none=>.no
   | _=>.no
  | none=>.no
 | _=>.no
noncomputable def KU (sz:Nat) (x ix:AV) (H:Heap):SR:=
 match ix with
 | .sc (.int _ (.ofNat q))=>match x with
  | .list s rows=>match Nat.beq s sz with
   | true=>match lH rows q with
    | some r=>.yes (.cptr r) H
    | none=>.no
   | false=>.no
  | .hsl g i start len=>match lG H g i with
   | some (.cells s rows)=>match Nat.beq s sz with
    | true=>match Nat.blt q len with
     | true=>match Nat.ble (Nat.add start len) (cV rows) with
      | true=>.yes (.ptr g i (Nat.add start q) 0) H
      | false=>.no
     | false=>.no
    | false=>.no
   | _=>.no
  | .asl g i row off len=>match Nat.beq sz 1 with
   | true=>match Nat.blt q len with
    | true=>.yes (.ptr g i row (Nat.add off q)) H
    | false=>.no
   | false=>.no
  | _=>.no
 | _=>.no
noncomputable def EY (n sz:Nat) (x ix:AV) (H:Heap):SR:=
 match ix with
 | .sc (.int _ (.ofNat q))=>match Nat.blt q n with
  | true=>match x with
   | .cptr cells=>.yes (.cptr (D9 cells (Nat.mul q sz))) H
   | .ptr g i row o=>.yes (.ptr g i row (Nat.add o (Nat.mul q sz))) H
   | _=>.no
  | false=>.no
 | _=>.no
noncomputable def EE (n sz:Nat) (agg:Bool) (x ix:AV) (H:Heap):SR:=
 match ix with
 | .sc (.int _ (.ofNat q))=>match Nat.blt q n with
  | true=>match x with
   | .agg cells=>kLd sz agg cells (Nat.mul q sz) H
   | _=>.no
  | false=>.no
 | _=>.no
noncomputable def sT (off:Nat) (x:AV) (H:Heap):SR:=
 match x with
 | .cptr cells=>.yes (.cptr (D9 cells off)) H
 | .ptr g i row o=>.yes (.ptr g i row (Nat.add o off)) H
 | _=>.no
noncomputable def HO (off sz:Nat) (agg:Bool) (x:AV) (H:Heap):SR:=
 match x with
 | .agg cells=>kLd sz agg cells off H
 | _=>.no
noncomputable def kLen (x:AV) (H:Heap):SR:=
 match x with
 | .list _ rows=>.yes (.sc (.int .i64 (.ofNat (cV rows)))) H
 | .hsl _ _ _ len=>.yes (.sc (.int .i64 (.ofNat len))) H
 | .asl _ _ _ _ len=>.yes (.sc (.int .i64 (.ofNat len))) H
 | .sc (.slice none 0 0)=>.yes (.sc (.int .i64 (.ofNat 0))) H
 | _=>.no
noncomputable def yY (x:AV) (i:Nat) (H:Heap):SR:=
 match x with
 | .tup vs=>match lH vs i with
  | some v=>kFz v H
  | none=>.no
 | _=>.no
noncomputable def JY (z:List (Nat×Value)) (g i:Nat) (H:Heap):SR:=
 ID (.ptr g i 0 0) H g i (.cells (cV (d5 z)) [d5 z])
noncomputable def kBox (a:AV) (g i:Nat) (H:Heap):SR:=
 match a.cs with
 | some cs=>match cs.all AV.cell1 with
  | true=>ID (.ptr g i 0 0) H g i (.cells (cV cs) [cs])
  | false=>.no
 | none=>.no
def kNot (a:AV) (H:Heap):SR:=
 match a with
 | .sc (.bool true)=>.yes (.sc (.bool false)) H
 | .sc (.bool false)=>.yes (.sc (.bool true)) H
 | _=>.no
def kUn (op:UnOp) (a:AV) (H:Heap):SR:=
 match op with
 | .not=>kNot a H
 | op=>match a with
  | .sc v=>match Sem.pure? (Op.unary op v) with
   | some u=>.yes (.sc u) H
   | none=>.no
  | _=>.no
noncomputable def eR (o:IOp):(Operand→AV)→Nat→Nat→Heap→SR:=
 match o with
 | .move x=>fun e _ _ H=>kFz (e x) H
 | .pick c a b=>fun e _ _ H=>OJ (e c) (e a) (e b) H
 | .alloc z=>fun _ g i H=>JY z g i H
 | .box x=>fun e g i H=>kBox (e x) g i H
 | .load sz agg a=>fun e g i H=>(zL sz agg (e a) H).or (SR.of (r6 e g i (.load sz agg a) H))
 | .store sz a x=>fun e _ _ H=>HC sz (e a) (e x) H
 | .bin op t x y=>fun e _ _ H=>kBin op t x y (e x) (e y) H
 | .un op x=>fun e _ _ H=>kUn op (e x) H
 | .idxSl sz x ix=>fun e _ _ H=>KU sz (e x) (e ix) H
 | .idxArr n sz x ix=>fun e _ _ H=>EY n sz (e x) (e ix) H
 | .idxVal n sz agg x ix=>fun e _ _ H=>EE n sz agg (e x) (e ix) H
 | .fieldAddr off x=>fun e _ _ H=>sT off (e x) H
 | .field off sz agg x=>fun e _ _ H=>HO off sz agg (e x) H
 | .len x=>fun e _ _ H=>kLen (e x) H
 | .extract x i=>fun e _ _ H=>yY (e x) i H
 | o=>fun e g i H=>SR.of (r6 e g i o H)
theorem SR.of_yes {r:Option (AV×Heap)} {v:AV} {H:Heap} (h:SR.of r=.yes v H):r=some (v,H):=by
 cases r with
 | none=>cases h
 | some p=>obtain⟨a,b⟩:=p; injection h with h1 h2; subst h1; subst h2; rfl
theorem sC {a v:AV} {H H':Heap} (h:kFz a H=.yes v H'):a=v∧H=H':=by
 cases a<;>injection h with h1 h2<;>exact⟨h1,h2⟩
theorem xB {v u:AV} {H H':Heap} {g i:Nat} {x:Blk} (h:ID v H g i x=.yes u H'):v=u∧aK H g i x=H':=by
 unfold ID at h;split at h
 ·rename_i H1 e
  injection h with h1 h2
  subst h1; subst h2;exact⟨rfl,iN _ _ _ _ _ e⟩
 ·cases h
theorem tB {sz:Nat} {agg:Bool} {r:List AV} {off:Nat} {H H':Heap} {v:AV} (h:kLd sz agg r off H=.yes v H'):iW sz agg (r.drop off)=some v∧H=H':=by
 unfold kLd at h;split at h
 ·split at h
  ·rename_i c e
   injection h with h1 h2
   subst h1;rw[eT] at e;obtain⟨hl,he⟩:=gEs.1 e;refine⟨?_,h2⟩;rw[List.drop_eq_getElem_cons hl,he];rfl
  ·cases h
 ·split at h
  ·rename_i cs e
   injection h with h1 h2
   subst h1;rw[sR] at e;obtain⟨e1,e2⟩:=H8 _ _ _ e
   have:Nat.ble sz (r.drop off).length=true:=by simpa using e1
   refine⟨?_,h2⟩;simp only[iW,this,e2]
  ·cases h
theorem F6 {op:BinOp} {t:TypeId} {x y:Operand} {a b:Int} {H H':Heap} {v:AV} (h:C3 op a b H=.yes v H'):
  ∃ u,Sem.pure? (do eqGuard op t x y (.int .i64 a) (.int .i64 b); binOp op t (.int .i64 a) (.int .i64 b))=some u∧v=.sc u∧H=H':=by
 cases op<;>simp only[C3,NI,G4,KZ,QK,IY] at h
 all_goals first
  | (cases h; done)
  | (injection h with h1 h2
     subst h1
     first
      | exact⟨_,rfl,rfl,h2⟩
      | (refine⟨.bool _,?_,rfl,h2⟩
         simp only[eqGuard,binOp,Op.intCmp]
         first
          | rfl
          | (show some _=some _; congr 2; rw[Bool.eq_iff_iff]; simp)))
theorem nD {op:BinOp} {t:TypeId} {x y:Operand} {a b:Value} {H H':Heap} {v:AV} (h:oF op t x y a b H=.yes v H'):
  ∃ u,Sem.pure? (do eqGuard op t x y a b; binOp op t a b)=some u∧v=.sc u∧H=H':=by
 unfold oF at h;split at h
 ·rename_i u e
  injection h with h1 h2
  exact⟨u,e,h1.symm,h2⟩
 ·cases h
theorem SR.or_eq {a b:SR} {v:AV} {H:Heap} (h:a.or b=.yes v H):a=.yes v H∨b=.yes v H:=by
 cases a with
 | no=>exact .inr h
 | yes u H'=>exact .inl h
theorem H7 {op:BinOp} {t:TypeId} {x y:Operand} {a b:Value} {H H':Heap} {v:AV} (h:HG op t x y a b H=.yes v H'):
  ∃ u,Sem.pure? (do eqGuard op t x y a b; binOp op t a b)=some u∧v=.sc u∧H=H':=by
 unfold HG at h;split at h
 ·split at h
  ·rcases SR.or_eq h with h | h
   ·exact F6 h
   ·exact nD h
  ·exact nD h
 ·exact nD h
theorem kJ {o:IOp} {fr:Fr} {g i:Nat} {H H':Heap} {v:AV} (h:eR o (ev fr) g i H=.yes v H'):aD g i o fr H=some (v,H'):=by
 cases o with
 | move x=>
  obtain⟨h1,h2⟩:=sC h;subst h1; subst h2;simp only[aD,gT]
 | pick c a b=>
  simp only[eR,OJ] at h;simp only[aD];split at h
  ·rename_i e
   obtain⟨h1,h2⟩:=sC h;subst h1; subst h2;rw[e];simp only[gT]
  ·rename_i e
   obtain⟨h1,h2⟩:=sC h;subst h1; subst h2;rw[e];simp only[gT]
  ·cases h
 | alloc z=>
  simp only[eR,JY] at h;obtain⟨h1,h2⟩:=xB h;subst h1; subst h2;simp only[aD,bS]
 | box x=>
  simp only[eR,kBox] at h;simp only[aD];split at h
  ·rename_i cs e
   split at h
   ·rename_i e2
    obtain⟨h1,h2⟩:=xB h;subst h1; subst h2;simp only[e,e2,bS]
   ·cases h
  ·cases h
 | load sz agg a=>
  rcases SR.or_eq (show(zL sz agg (ev fr a) H).or (SR.of (r6 (ev fr) g i (.load sz agg a) H))=.yes v H' from h) with h | h
  rotate_left
  ·rw[vC]
   exact SR.of_yes h
  simp only[zL] at h;simp only[aD];split at h
  ·rename_i cells e
   obtain⟨h1,h2⟩:=tB h;subst h2;rw[List.drop_zero] at h1;simp only[e,h1]
  ·rename_i g' i' row off e
   rw[eV] at h;split at h
   ·rename_i s rows e2
    rw[eT] at h;split at h
    ·rename_i r e3
     obtain⟨h1,h2⟩:=tB h;subst h2;simp only[e,e2,e3,h1]
    ·cases h
   ·cases h
  ·cases h
 | store sz a x=>
  simp only[eR,HC] at h;simp only[aD];split at h
  ·rename_i g' i' row off e
   split at h
   ·rename_i cs e1
    rw[eV] at h;split at h
    ·rename_i s rows e2
     rw[eT] at h;split at h
     ·rename_i r e3
      rw[bS] at h;split at h
      ·rename_i e4
       split at h
       ·rename_i e5
        unfold zB at h;split at h
        ·rename_i r' e6
         split at h
         ·rename_i rows' e7
          obtain⟨h1,h2⟩:=xB h;subst h1; subst h2;obtain⟨q1,q2⟩:=B6 _ _ _ _ e6;obtain⟨q3,q4⟩:=DY _ _ _ _ e7;have e8:cs.length=sz:=nEb e4
          have e9:Nat.ble (off+sz) r.length=true:=by rw[← e8]; simpa using q1
          simp only[e,e1,e2,e3,e4,e5,e9,Bool.and_self,q2,q4]
         ·cases h
        ·cases h
       ·cases h
      ·cases h
     ·cases h
    ·cases h
   ·cases h
  ·cases h
 | bin op t x y=>
  simp only[eR,kBin] at h;simp only[aD];split at h
  ·rename_i u e1
   split at h
   ·rename_i v' e2
    obtain⟨r,h1,h2,h3⟩:=H7 h;subst h2; subst h3;simp only[e1,e2,h1]
   ·cases h
  ·cases h
 | un op x=>
  simp only[eR,kUn] at h;simp only[aD];split at h
  ·unfold kNot at h
   split at h
   ·rename_i e
    injection h with h1 h2
    subst h1; subst h2;simp only[e];rfl
   ·rename_i e
    injection h with h1 h2
    subst h1; subst h2;simp only[e];rfl
   ·cases h
  ·split at h
   ·rename_i e
    split at h
    ·rename_i u e2
     injection h with h1 h2
     subst h1; subst h2;simp only[e,e2]
    ·cases h
   ·cases h
 | idxSl sz x ix=>
  simp only[eR,KU] at h;simp only[aD];split at h
  ·rename_i k q e
   split at h
   ·rename_i s rows e1
    split at h
    ·rename_i e2
     rw[eT] at h;split at h
     ·rename_i r e3
      injection h with h1 h2
      subst h1; subst h2;have:cW rows (Int.ofNat q)=some r:=e3;simp only[e,e1,e2,this]
     ·cases h
    ·cases h
   ·rename_i g' i' start len e1
    rw[eV] at h;split at h
    ·rename_i s rows e2
     split at h
     ·rename_i e3
      split at h
      ·rename_i e4
       rw[bS] at h;split at h
       ·rename_i e5
        injection h with h1 h2
        subst h1; subst h2;have e5':Nat.ble (start+len) rows.length=true:=e5;simp only[e,e1,e2,e3,e4,e5',Bool.and_self];rfl
       ·cases h
      ·cases h
     ·cases h
    ·cases h
   ·rename_i g' i' row off len e1
    split at h
    ·rename_i e3
     split at h
     ·rename_i e4
      injection h with h1 h2
      subst h1; subst h2;simp only[e,e1,e3,e4,Bool.and_self];rfl
     ·cases h
    ·cases h
   ·cases h
  ·cases h
 | idxArr n sz x ix=>
  simp only[eR,EY] at h;simp only[aD];split at h
  ·rename_i k q e
   split at h
   ·rename_i e1
    split at h
    ·rename_i cells e2
     injection h with h1 h2
     subst h1; subst h2;rw[sR];simp only[e,e1,e2];rfl
    ·rename_i e2
     injection h with h1 h2
     subst h1; subst h2;simp only[e,e1,e2];rfl
    ·cases h
   ·cases h
  ·cases h
 | idxVal n sz agg x ix=>
  simp only[eR,EE] at h;simp only[aD];split at h
  ·rename_i k q e
   split at h
   ·rename_i e1
    split at h
    ·rename_i cells e2
     obtain⟨h1,h2⟩:=tB h;subst h2;have h1':iW sz agg (List.drop (q * sz) cells)=some v:=h1;simp only[e,e1,e2,h1']
    ·cases h
   ·cases h
  ·cases h
 | fieldAddr off x=>
  simp only[eR,sT] at h;simp only[aD];split at h
  ·rename_i cells e
   injection h with h1 h2
   subst h1; subst h2;rw[sR];simp only[e]
  ·rename_i e
   injection h with h1 h2
   subst h1; subst h2;simp only[e];rfl
  ·cases h
 | field off sz agg x=>
  simp only[eR,HO] at h;simp only[aD];split at h
  ·rename_i cells e
   obtain⟨h1,h2⟩:=tB h;subst h2;simp only[e,h1]
  ·cases h
 | len x=>
  simp only[eR,kLen] at h;simp only[aD];split at h
  ·rename_i e
   injection h with h1 h2
   subst h1; subst h2;rw[bS];simp only[e];rfl
  ·rename_i e
   injection h with h1 h2
   subst h1; subst h2;simp only[e];rfl
  ·rename_i e
   injection h with h1 h2
   subst h1; subst h2;simp only[e];rfl
  ·rename_i e
   injection h with h1 h2
   subst h1; subst h2;simp only[e];rfl
  ·cases h
 | extract x ix=>
  simp only[eR,yY] at h;simp only[aD];split at h
  ·rename_i vs e
   rw[eT] at h;split at h
   ·rename_i u e1
    obtain⟨h1,h2⟩:=sC h;subst h1; subst h2;simp only[e,e1]
   ·cases h
  ·cases h
 | _=>
  rw[vC];exact SR.of_yes h
end Go.Av
