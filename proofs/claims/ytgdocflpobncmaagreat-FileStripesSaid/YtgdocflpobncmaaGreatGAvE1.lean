import Derived.Test.YtgdocflpobncmaaGreatGAv21
namespace Go.Av
theorem aD.via {P:Program} {f:FuncId} {args args':List AV} {H0 H:Heap} {R R':AV→Heap→Prop} (ρ ρ':Nat→Nat→Option (Nat×Nat)) (h:aD P f args' H0 R)
  (hl:args.length=args'.length) (hargs:∀(j:Nat) a b,args[j]?=some a→args'[j]?=some b→Ren ρ a b)
  (hρ:∀ g i p,ρ g i=some p→ρ' p.1 p.2=some (g,i)) (hρ':∀ g i q,ρ' g i=some q→ρ q.1 q.2=some (g,i))
  (h0:∀ g i x,hget H0 g i=some x→x.live=true∧∃ p y,ρ g i=some p∧hget H p.1 p.2=some y∧bJ ρ y x)
  (hdom:∀ g i p,ρ g i=some p→(hget H0 g i).isSome)
  (hR:∀ res H',R res H'→(∀ g i,(hget H' g i).isSome→(hget H0 g i).isSome)∧∃ res' H'',Ren ρ' res res' ∧
   (∀ g i x,hget H'' g i=some x→x.live=true→(∃ q y,ρ' g i=some q∧hget H' q.1 q.2=some y∧bJ ρ' y x)∨(ρ' g i=none∧hget H g i=some x)) ∧
   (∀ g i,(hget H g i).isSome→(hget H'' g i).isSome)∧R' res' H''):aD P f args H R':=by
 refine⟨h.1,fun M J w cargs e1 e2 hH hM=>?_⟩
 have hlt:∀ {H:Heap} {g i:Nat},(hget H g i).isSome→g < H.length:=by
  intro H g i hs
  unfold hget at hs
  split at hs
  ·rename_i f e; exact(gEs.1 e).1
  ·cases hs
 have hJ1:∀ g i l,J.via ρ g i=some l→∃ p,ρ g i=some p∧J p.1 p.2=some l:=by
  intro g i l hl
  unfold Inj.via at hl
  split at hl
  ·rename_i g' i' e; exact⟨(g',i'),e,hl⟩
  ·cases hl
 have hlive0:∀ g i l,aL H0 g i→J.via ρ g i=some l→∃ p,ρ g i=some p∧J p.1 p.2=some l∧aL H p.1 p.2:=by
  rintro g i l ⟨x,hx,hxl⟩ hJ
  obtain⟨_,p,y,p1,p2,p3⟩:=h0 g i x hx
  obtain⟨p',q1,q2⟩:=hJ1 g i l hJ
  rw[p1] at q1
  injection q1 with q1
  subst q1
  exact⟨p,p1,q2,y,p2,p3.live hxl⟩
 have hH0:aP M (J.via ρ) H0 w.heap:=by
  refine⟨fun g i x hx hxl=>?_,fun g i g' i' l l' β a b c d e f=>?_,fun g i l β a b c=>?_,fun g i l a=>?_⟩
  ·obtain⟨_,p,y,p1,p2,p3⟩:=h0 g i x hx
   obtain⟨l,q1,q2⟩:=hH.blk p.1 p.2 y p2 (p3.live hxl)
   exact⟨l,by rw[Inj.via_some (g':=p.1) (i':=p.2) p1]; exact q1,q2.ren p3⟩
  ·obtain⟨p,p1,p2,p3⟩:=hlive0 g i l a c
   obtain⟨q,q1,q2,q3⟩:=hlive0 g' i' l' b d
   obtain⟨r1,r2⟩:=hH.inj _ _ _ _ l l' β p3 q3 p2 q2 e f
   have hpq:p=q:=Prod.ext r1 r2
   subst hpq
   have:=(hρ g i p p1).symm.trans (hρ g' i' p q1)
   injection this with this
   injection this with t1 t2
   exact⟨t1,t2⟩
  ·obtain⟨p,p1,p2,p3⟩:=hlive0 g i l a b
   exact hH.out _ _ l β p3 p2 c
  ·obtain⟨p,p1,p2⟩:=hJ1 g i l a
   exact⟨hdom g i p p1,(hH.dom _ _ l p2).2⟩
 refine(h.2 M (J.via ρ) w cargs (by omega) (fun j c v hc hv=>?_) hH0 hM).mono ?_
 ·obtain⟨a,ha⟩:=aS hl hc
  exact(e2 j a v ha hv).ren (hargs j a c ha hc)
 ·rintro e w' ⟨v,M',J',res,H',rfl,s,hres,hr⟩
  obtain⟨hd,res',H'',r1,r2,r3,r4⟩:=hR res H' hr
  -- all that the callee knows the caller knows
  have hJ':∀ g i l,J' g i=some l→∃ p,ρ g i=some p∧J p.1 p.2=some l:=by
   intro g i l hl
   have hs:=hd g i (s.hrep.dom g i l hl).1
   obtain⟨x,hx⟩:=Option.isSome_iff_exists.1 hs
   obtain⟨hxl,p,y,p1,p2,p3⟩:=h0 g i x hx
   obtain⟨l1,q1,_⟩:=hH0.blk g i x hx hxl
   have:=s.j g i l1 (hlt hs) q1
   rw[hl] at this
   injection this with this
   subst this
   obtain⟨p',t1,t2⟩:=hJ1 g i l q1
   exact⟨p',t1,t2⟩
  have hback:Ext M' (J'.via ρ') M' J:=⟨fun _ _ h=>h,fun g i l hl=>by
   unfold Inj.via at hl
   split at hl
   ·rename_i g' i' e
    obtain⟨p,p1,p2⟩:=hJ' g' i' l hl
    have:=hρ' g i _ e
    rw[p1] at this
    injection this with this
    subst this
    exact p2
   ·cases hl⟩
  have hfwd:Ext M J M' J:=⟨s.m,fun _ _ _ h=>h⟩
  -- blocks that the callee does not see
  have hother:∀ g i l β,ρ' g i=none→aL H g i→J g i=some l→l.blk=some β→∀ g0 i0 l0,aL H0 g0 i0→J.via ρ g0 i0=some l0→l0.blk≠some β:=by
   intro g i l β hn hlv hJ hb g0 i0 l0 a b c
   obtain⟨p,p1,p2,p3⟩:=hlive0 g0 i0 l0 a b
   obtain⟨t1,t2⟩:=hH.inj _ _ _ _ l l0 β hlv p3 hJ p2 hb c
   have:=hρ g0 i0 p p1
   rw[← t1,← t2,hn] at this
   cases this
  have hlive':∀ g i l β,aL H'' g i→J g i=some l→l.blk=some β→(∃ q,ρ' g i=some q∧aL H' q.1 q.2∧J' q.1 q.2=some l)∨(ρ' g i=none∧aL H g i):=by
   rintro g i l β ⟨x,hx,hxl⟩ hJ hb
   rcases r2 g i x hx hxl with⟨q,y,q1,q2,q3⟩ | ⟨q1,q2⟩
   ·left
    refine⟨q,q1,⟨y,q2,q3.live hxl⟩,?_⟩
    obtain⟨l',t1,_⟩:=s.hrep.blk q.1 q.2 y q2 (q3.live hxl)
    obtain⟨p,p1,p2⟩:=hJ' _ _ _ t1
    have:=hρ' g i q q1
    rw[p1] at this
    injection this with this
    subst this
    rw[hJ] at p2
    injection p2 with p2
    subst p2
    exact t1
   ·exact .inr ⟨q1,x,q2,hxl⟩
  refine⟨v,M',J,res',H'',rfl,⟨s.m,fun _ _ _ _ h=>h,⟨?_,?_,?_,?_⟩,s.mrep,s.os,s.tape,s.output,s.size,?_,?_,?_,s.bk⟩,(hres.ren r1).ext hback,r4⟩
  ·intro g i x hx hxl
   rcases r2 g i x hx hxl with⟨q,y,q1,q2,q3⟩ | ⟨q1,q2⟩
   ·obtain⟨l,t1,t2⟩:=s.hrep.blk q.1 q.2 y q2 (q3.live hxl)
    refine⟨l,hback.j g i l (by rw[Inj.via_some (g':=q.1) (i':=q.2) q1]; exact t1),(t2.ren q3).ext hback fun _ _=>rfl⟩
   ·obtain⟨l,t1,t2⟩:=hH.blk g i x q2 hxl
    refine⟨l,t1,t2.ext hfwd fun β hβ=>?_⟩
    have hb:=(hH.dom g i l t1).2 β hβ
    rw[Array.getElem?_eq_getElem hb]
    exact s.frame β _ (Array.getElem?_eq_getElem hb) (hother g i l β q1 ⟨x,q2,hxl⟩ t1 hβ)
  ·intro g i g' i' l l' β a b c d e f
   rcases hlive' g i l β a c e with⟨q,q1,q2,q3⟩ | ⟨q1,q2⟩<;>rcases hlive' g' i' l' β b d f with⟨p,p1,p2,p3⟩ | ⟨p1,p2⟩
   ·obtain⟨t1,t2⟩:=s.hrep.inj _ _ _ _ l l' β q2 p2 q3 p3 e f
    have hpq:q=p:=Prod.ext t1 t2
    subst hpq
    have:=(hρ' g i q q1).symm.trans (hρ' g' i' q p1)
    injection this with this
    injection this with t1 t2
    exact⟨t1,t2⟩
   ·exfalso
    rcases s.live _ _ l β q2 q3 e with⟨g0,i0,l0,u1,u2,u3⟩ | u
    ·exact hother g' i' l' β p1 p2 d f g0 i0 l0 u1 u2 u3
    ·have:=(hH.dom g' i' l' d).2 β f; omega
   ·exfalso
    rcases s.live _ _ l' β p2 p3 f with⟨g0,i0,l0,u1,u2,u3⟩ | u
    ·exact hother g i l β q1 q2 c e g0 i0 l0 u1 u2 u3
    ·have:=(hH.dom g i l c).2 β e; omega
   ·exact hH.inj g i g' i' l l' β q2 p2 c d e f
  ·intro g i l β a b c
   rcases hlive' g i l β a b c with⟨q,q1,q2,q3⟩ | ⟨q1,q2⟩
   ·exact s.hrep.out _ _ l β q2 q3 c
   ·cases e:M' β with
    | none=>rfl
    | some o=>
     exfalso
     rcases s.fresh β o e with u | u | ⟨g0,i0,l0,u1,u2,u3⟩
     ·rw[hH.out g i l β q2 b c] at u; cases u
     ·have:=(hH.dom g i l b).2 β c; omega
     ·exact hother g i l β q1 q2 b c g0 i0 l0 u1 u2 u3
  ·intro g i l a
   have:=hH.dom g i l a
   exact⟨r3 g i this.1,fun β hβ=>Nat.lt_of_lt_of_le (this.2 β hβ) s.size⟩
  ·intro β o ho hn
   refine s.frame β o ho fun g0 i0 l0 a b c=>?_
   obtain⟨p,p1,p2,p3⟩:=hlive0 g0 i0 l0 a b
   exact hn _ _ l0 p3 p2 c
  ·intro β o ho
   rcases s.fresh β o ho with u | u | ⟨g0,i0,l0,u1,u2,u3⟩
   ·exact .inl u
   ·exact .inr (.inl u)
   ·obtain⟨p,p1,p2,p3⟩:=hlive0 g0 i0 l0 u1 u2
    exact .inr (.inr ⟨_,_,l0,p3,p2,u3⟩)
  ·intro g i l β a b c
   rcases hlive' g i l β a b c with⟨q,q1,q2,q3⟩ | ⟨q1,q2⟩
   ·rcases s.live _ _ l β q2 q3 c with⟨g0,i0,l0,u1,u2,u3⟩ | u
    ·obtain⟨p,p1,p2,p3⟩:=hlive0 g0 i0 l0 u1 u2
     exact .inl ⟨_,_,l0,p3,p2,u3⟩
    ·exact .inr u
   ·exact .inl ⟨g,i,l,q2,b,c⟩
def fI:Blk→Prop
 | .dead=>False
 | .cells _ rows=>∀ r∈rows,∀ c∈r,aX c
 | .map es=>∀ x∈es,aX x.2
 | .lp ..=>False
 | .umap ..=>False
 | .it ..=>False
theorem fI.ren {ρ:Nat→Nat→Option (Nat×Nat)} {x:Blk} (h:fI x):bJ ρ x x:=by
 cases x with
 | dead=>exact h.elim
 | lp=>exact h.elim
 | umap=>exact h.elim
 | it=>exact h.elim
 | cells sz rows=>exact .pure sz rows h
 | map es=>exact .pureMap es h
theorem fI.live {x:Blk} (h:fI x):x.live=true:=by cases x<;>first | exact h.elim | rfl
def to1 (g i:Nat) (a b:Nat):Option (Nat×Nat):=match Nat.beq a 0 && Nat.beq b 0 with
 | true=>some (g,i)
 | false=>none
def vG (g i:Nat) (a b:Nat):Option (Nat×Nat):=match Nat.beq a g && Nat.beq b i with
 | true=>some (0,0)
 | false=>none
theorem yQ {g i a b:Nat} {p:Nat×Nat} (h:to1 g i a b=some p):a=0∧b=0∧p=(g,i):=by
 unfold to1 at h
 split at h
 ·rename_i e
  simp only[Bool.and_eq_true] at e
  injection h with h
  exact⟨Nat.eq_of_beq_eq_true e.1,Nat.eq_of_beq_eq_true e.2,h.symm⟩
 ·cases h
theorem r9 {g i a b:Nat} {p:Nat×Nat} (h:vG g i a b=some p):a=g∧b=i∧p=(0,0):=by
 unfold vG at h
 split at h
 ·rename_i e
  simp only[Bool.and_eq_true] at e
  injection h with h
  exact⟨Nat.eq_of_beq_eq_true e.1,Nat.eq_of_beq_eq_true e.2,h.symm⟩
 ·cases h
theorem qZ (g i:Nat):vG g i g i=some (0,0):=by simp[vG]
theorem yO (x:Blk) {g i:Nat} {y:Blk} (h:hget [[x]] g i=some y):g=0∧i=0∧y=x:=by
 unfold hget at h
 cases g with
 | zero=>
  simp only[List.getElem?_cons_zero] at h
  cases i with
  | zero=>simp at h; exact⟨rfl,rfl,h.symm⟩
  | succ i=>simp at h
 | succ g=>simp at h
def cB (ρ:Nat→Nat→Option (Nat×Nat)):List AV→List AV→Prop
 | [],[]=>True
 | a::l,b::m=>Ren ρ a b∧cB ρ l m
 | _,_=>False
theorem cB.spec {ρ}:∀ {l m:List AV},cB ρ l m→l.length=m.length∧∀(j:Nat) a b,l[j]?=some a→m[j]?=some b→Ren ρ a b
 | [],[],_=>⟨rfl,fun j a b h=>by simp at h⟩
 | [],_::_,h=>h.elim
 | _::_,[],h=>h.elim
 | x::l,y::m,⟨h1,h2⟩=>by
  obtain⟨h3,h4⟩:=cB.spec h2
  refine⟨by simp[h3],fun j a b ha hb=>?_⟩
  cases j with
  | zero=>simp at ha hb; subst ha; subst hb; exact h1
  | succ j=>exact h4 j a b (by simpa using ha) (by simpa using hb)
theorem aD.via1 {P:Program} {f:FuncId} {args args':List AV} {H:Heap} {x:Blk} (g i:Nat) {R:AV→Blk→Prop} (h:aD P f args' [[x]] fun res H'=>∃ y,H'=[[y]]∧aX res∧fI y∧R res y) (hx:hget H g i=some x) (hp:fI x)
  (ha:cB (to1 g i) args args'):aD P f args H fun res H'=>∃ y,H'=aJ H g i y∧R res y:=by
 obtain⟨hl,hargs⟩:=ha.spec
 refine aD.via (to1 g i) (vG g i) h hl hargs (fun a b p e=>?_) (fun a b q e=>?_) (fun a b y e=>?_) (fun a b p e=>?_) fun res H' hr=>?_
 ·obtain⟨rfl,rfl,rfl⟩:=yQ e
  exact qZ g i
 ·obtain⟨rfl,rfl,rfl⟩:=r9 e
  rfl
 ·obtain⟨rfl,rfl,rfl⟩:=yO x e
  exact⟨hp.live,(g,i),y,rfl,hx,hp.ren⟩
 ·obtain⟨rfl,rfl,rfl⟩:=yQ e
  rfl
 ·obtain⟨y,rfl,hres,hy,hR⟩:=hr
  have hok':hok H g i:=.inl (by rw[hx]; rfl)
  refine⟨fun a b e=>?_,res,aJ H g i y,.pure hres,fun a b z hz hzl=>?_,fun a b e=>?_,y,rfl,hR⟩
  ·obtain⟨z,hz⟩:=Option.isSome_iff_exists.1 e
   obtain⟨rfl,rfl,rfl⟩:=yO y hz
   rfl
  ·rw[aK _ _ _ _ _ _ hok'] at hz
   split at hz
   ·rename_i e
    obtain⟨rfl,rfl⟩:=e
    injection hz with hz
    subst hz
    exact .inl ⟨(0,0),y,qZ a b,rfl,hy.ren⟩
   ·rename_i e
    refine .inr ⟨?_,hz⟩
    cases e':vG g i a b with
    | none=>rfl
    | some q=>
     obtain⟨rfl,rfl,_⟩:=r9 e'
     exact absurd ⟨rfl,rfl⟩ e
  ·rw[aK _ _ _ _ _ _ hok']
   split
   ·rfl
   ·exact e
def low (k:Nat) (g i:Nat):Option (Nat×Nat):=match Nat.blt g k with
 | true=>some (g,i)
 | false=>none
theorem qR {k g i:Nat} {p:Nat×Nat} (h:low k g i=some p):g < k∧p=(g,i):=by
 unfold low at h
 split at h
 ·rename_i e
  injection h with h
  exact⟨nlB e,h.symm⟩
 ·cases h
theorem l5 {k g i:Nat} (h:g < k):low k g i=some (g,i):=by
 unfold low
 have:Nat.blt g k=true:=by simpa[Nat.blt_eq] using h
 rw[this]
end Go.Av
namespace Go.Av
theorem cW {P:Program} {ops:Array Oper} {Q:Exit→Act→World→Prop} {l2:List Nat}:∀(l:List Nat) (a:Act) (w:World),wpOps P ops (fun e a w=>e=.normal∧wpOps P ops Q l2 a w) l a w→wpOps P ops Q (l++l2) a w
 | [],a,w,h=>h.2
 | i::l,a,w,h=>by
  show wpOps P ops Q (i::(l++l2)) a w
  simp only[wpOps] at h ⊢
  split at h
  ·exact cW l a w h
  ·rename_i o e
   split at h
   ·rename_i hw
    rw[if_pos hw]
    rcases h with h | ⟨_,a',w',h,_⟩
    ·left
     unfold Oper.wp at h ⊢
     generalize (execOp a.eval o).run P w=r at *
     cases r with
     | ok n w'=>
      cases n<;>simp only[Oper.upon] at h ⊢
      all_goals first
       | exact cW l _ _ h
       | exact Calls.mono h (fun e w'' he=>by
         cases e
         ·exact cW l _ _ he
         ·cases he.1
         ·obtain⟨_,_,h,_⟩:=he; cases h)
       | exact Rows.mono h (fun _ _ he=>cW l _ _ he)
     | halt x w'=>
      cases x<;>simp only[Oper.upon] at h ⊢<;>cases h.1
    ·cases h
   ·rename_i hw
    rw[if_neg hw]
    exact cW l _ _ h
def gL {α:Type}:List α→Option (List α×α)
 | []=>none
 | [x]=>some ([],x)
 | x::y::r=>match gL (y::r) with
  | some (l,z)=>some (x::l,z)
  | none=>none
theorem n6 {α:Type}:∀ {zs xs:List α} {y:α},gL zs=some (xs,y)→zs=xs++[y]
 | [],xs,y,h=>by cases h
 | [x],xs,y,h=>by simp[gL] at h; obtain⟨rfl,rfl⟩:=h; rfl
 | x::z::r,xs,y,h=>by
  simp only[gL] at h
  split at h
  ·rename_i l u e
   injection h with h
   injection h with h1 h2
   subst h1; subst h2
   rw[n6 e]
   rfl
  ·cases h
def L0 (af:List (List Nat)) (R:List a6):Bool:=
 oX 0 af && (kC af R 0 R && (Nat.beq af.length (R.length+1) && (List.range R.length).all fun j=>iH af af.length j R.length))
theorem AWP.drawLast {P:Program} {N k:Nat} {fr:Fr} {H:Heap} {Q:Exit→Fr→Heap→Prop} {zs xs:List IOper} {y:IOper} {af:List (List Nat)} {R:List a6} {fr':Fr} {H':Heap} (hz:gL zs=some (xs,y)) (hp:P.follows .mixedOrders=true)
  (hrun:d6 P H.length 0 xs fr (H++[List.replicate zs.length .dead]) R fr' H') (hchk:L0 af R=true) (h:Reg P N k [y] fr' H' (Q .normal)):AWP P N k (.draw zs af) Q fr H:=by
 have hz:=n6 hz
 intro c0 hc cx M J tmps w hcx hF hH hM
 cases c0 with
 | region id ops draw=>
  simp only[bI] at hc
  split at hc
  ·rename_i ys hys
   cases draw with
   | false=>cases hc
   | true=>
    injection hc with hc
    injection hc with hc1 hc2
    subst hc1; subst hc2
    refine wpIn_region_draw fun t=>eR hcx ?_
    rw[hp]
    have hsch:Region.schedule true ops t=Region.linearise .any ops t:=by simp[Region.schedule]
    rw[hsch]
    obtain⟨hlen,hgx⟩:=eL _ _ hys
    obtain⟨hrx,hrid⟩:=hrun.recs
    have hsz:ops.size=R.length+1:=by
     have:=congrArg List.length hrx
     simp at this
     rw[this]
     have h2:ys.length=ops.size:=by rw[hlen]; simp
     rw[← h2,hz]
     simp
    have hyget:∀(j:Nat) (x:IOper),xs[j]?=some x→ys[j]?=some x:=by
     intro j x hj
     rw[hz,List.getElem?_append_left (gEs.1 hj).1]
     exact hj
    have hxlen:xs.length=R.length:=by rw[← hrx]; simp
    let R':Nat→a6:=fun j=>R.getD j ⟨⟨none,none,.call 0 []⟩,(0,0),.undef,[],[]⟩
    have hR':∀ j,j < R.length→R[j]?=some (R' j):=by
     intro j hj
     simp[R',List.getD,hj]
    have haf:∀ j l,(ops.toList.map cS)[j]?=some l→a8 ops j=l:=by
     intro j l hj
     rw[List.getElem?_map,Array.getElem?_toList] at hj
     unfold a8
     cases ho:ops[j]? with
     | none=>rw[ho] at hj; cases hj
     | some o=>rw[ho] at hj; simpa using hj
    simp only[L0,Bool.and_eq_true] at hchk
    obtain⟨hc1,hc2,_,hc4⟩:=hchk
    have hs:=dB ops (fun a b=>b < R.length∧dH (R' a) (R' b)=true) (fun j k hk=>by
     have hl:(ops.toList.map cS)[j]?=some (a8 ops j):=by
      rw[List.getElem?_map,Array.getElem?_toList]
      unfold a8 at hk ⊢
      cases ho:ops[j]? with
      | none=>rw[ho] at hk; cases hk
      | some o=>rfl
     have:=eN _ 0 hc1 j _ hl k hk
     omega) (fun a b hab hb=>by
     by_cases hbn:b < R.length
     ·have h1:=gK _ 0 hc2 b _ (hR' b hbn)
      rcases jO _ 0 h1 a _ (hR' a (by omega)) (by omega) with h2 | h2
      ·left
       rw[Nat.zero_add,Nat.zero_add] at h2
       exact bT haf _ _ _ h2
      ·exact .inr ⟨hbn,h2⟩
     ·have hbe:b=R.length:=by omega
      subst hbe
      left
      exact bT haf _ _ _ (List.all_eq_true.1 hc4 a (List.mem_range.2 hab))) t
    rw[hsz,List.range_succ] at hs
    obtain⟨l',hl',hs'⟩:=hs.last (n:=R.length) (fun a ha=>by have:=ha.1; omega) (List.range R.length) (by simp) rfl
    have hs:=hs'.to (R:=R') fun a b hab=>hab.2
    rw[hl']
    refine cW l' _ _ ?_
    have hrem:((List.range R.length).map fun j=>(j,R' j)).map (·.2)=R:=by
     apply List.ext_getElem?
     intro j
     rw[List.map_map,List.getElem?_map]
     by_cases hj:j < R.length
     ·rw[hR' j hj,List.getElem?_range hj]
      rfl
     ·have h1:(List.range R.length)[j]?=none:=List.getElem?_eq_none (by rw[List.length_range]; omega)
      have h2:R[j]?=none:=List.getElem?_eq_none (by omega)
      rw[h1,h2]
      rfl
    have hdead:∀ g i x,hget (H++[List.replicate ys.length Blk.dead]) g i=some x→x.live=true→hget H g i=some x:=by
     intro g i x hx hl
     rw[b8] at hx
     split at hx
     ·rw[List.getElem?_replicate] at hx
      split at hx
      ·injection hx with hx; subst hx; cases hl
      ·cases hx
     ·exact hx
    have hH0:aP M J (H++[List.replicate ys.length .dead]) w.heap:=by
     refine⟨fun g i x hx hl=>hH.blk g i x (hdead g i x hx hl) hl,fun g i g' i' l l' β ⟨x,hx,hl⟩ ⟨y,hy,hl'⟩=>hH.inj g i g' i' l l' β ⟨x,hdead _ _ _ hx hl,hl⟩ ⟨y,hdead _ _ _ hy hl',hl'⟩,
      fun g i l β ⟨x,hx,hl⟩=>hH.out g i l β ⟨x,hdead _ _ _ hx hl,hl⟩,fun g i l hJ=>?_⟩
     have:=hH.dom g i l hJ
     refine⟨?_,this.2⟩
     rw[b8]
     split
     ·rename_i e
      subst e
      have h2:=this.1
      simp[hget] at h2
     ·exact this.1
    have hids:∀ j,j < R.length→(R' j).id=(H.length,j):=fun j hj=>by rw[hrid j _ (hR' j hj),Nat.zero_add]
    have hlive:∀ g i,aL (H++[List.replicate ys.length Blk.dead]) g i→aL H g i:=fun g i ⟨x,hx,hl⟩=>⟨x,hdead g i x hx hl,hl⟩
    refine oB (k:=k) (N:=N) (t:=(fr',H')) hs (fun p hp=>?_) ?_ (fr,H++[List.replicate ys.length .dead]) M J tmps { w with drawn:=w.drawn+1 } hF hH0 hM (by rw[hrem]; exact hrun.run) (fun p hp=>?_) _ fun a' w' hp=>⟨rfl,?_⟩
    ·obtain⟨j,hj,rfl⟩:=List.mem_map.1 hp
     have hj:=List.mem_range.1 hj
     have ho:ops[j]?=some ops[j]:=Array.getElem?_eq_getElem (by omega)
     obtain⟨x,hx1,hx2⟩:=hgx j ops[j] (by rw[Array.getElem?_toList]; exact ho)
     refine⟨ops[j],ho,?_⟩
     have:some (R' j).x=some x:=by
      rw[← hx1]
      have h3:xs[j]?=some (R' j).x:=by rw[← hrx,List.getElem?_map,hR' j hj]; rfl
      rw[hyget j _ h3]
     injection this with this
     rw[this]
     exact hx2
    ·rw[List.map_map]
     have he:(List.range R.length).map ((fun x:Nat×a6=>x.2.id) ∘ fun j=>(j,R' j))=(List.range R.length).map fun j=>(H.length,j):=
      List.map_congr_left fun j hj=>hids j (List.mem_range.1 hj)
     rw[he]
     exact List.Pairwise.map _ (fun a b hab e=>hab (by injection e)) List.nodup_range
    ·obtain⟨j,hj,rfl⟩:=List.mem_map.1 hp
     have hj:=List.mem_range.1 hj
     rw[hids j hj]
     refine⟨?_,?_⟩
     ·rw[b8,if_pos rfl,List.getElem?_replicate,if_pos (by rw[hlen]; simp; omega)]
      rfl
     ·cases e:J H.length j with
      | none=>rfl
      | some l=>
       have:=(hH.dom _ _ l e).1
       simp[hget] at this
    ·obtain⟨M2,J2,fr2,H2,q1,q2,q3,q4,q5⟩:=hp
     subst q4; subst q5
     obtain⟨a't,a'd⟩:=a'
     cases q3
     have q1':aQ k M J H w M2 J2 H2 w':=
      ⟨q1.m,q1.j,q1.hrep,q1.mrep,q1.os,(by first | exact q1.tape | exact⟨q1.tape.1,Nat.le_trans (Nat.le_succ _) q1.tape.2⟩),q1.output,q1.size,fun β o ho hn=>q1.frame β o ho fun g i l hl hJ=>hn g i l (hlive g i hl) hJ,
       fun β o ho=>or2 (q1.fresh β o ho) (fun h=>h) fun h=>or2 h (fun h=>h) fun⟨g,i,l,a,b,c⟩=>⟨g,i,l,hlive g i a,b,c⟩,
       fun g i l β a b c=>or2 (q1.live g i l β a b c) (fun⟨g0,i0,l0,a,b,c⟩=>⟨g0,i0,l0,hlive g0 i0 a,b,c⟩) fun h=>h,q1.bk⟩
     have ho:ops[R.length]?=some ops[R.length]:=Array.getElem?_eq_getElem (by omega)
     obtain⟨x,hx1,hx2⟩:=hgx R.length ops[R.length] (by rw[Array.getElem?_toList]; exact ho)
     have hxy:x=y:=by
      rw[hz,← hxlen,List.getElem?_append_right (Nat.le_refl _),Nat.sub_self] at hx1
      simpa using hx1.symm
     subst hxy
     refine h ops [R.length] ⟨⟨_,ho,hx2⟩,trivial⟩ M2 J2 a't w' q2 q1.hrep q1.mrep _ fun a'' w'' hp=>?_
     obtain⟨M3,J3,fr3,H3,r1,r2,r3,r4⟩:=hp
     exact⟨rfl,M3,J3,fr3,H3,q1'.trans r1,r2,r3,r4⟩
  ·cases hc
 | _=>simp only[bI] at hc; (try split at hc)<;>(try cases hc)<;>(try simp at hc)
theorem AWP.dkl {P:Program} {N k:Nat} {fr:Fr} {H:Heap} {Q:Exit→Fr→Heap→Prop} {zs xs:List IOper} {y:IOper} {af:List (List Nat)} (hz:gL zs=some (xs,y)) (hp:P.follows .mixedOrders=true)
  (h:DK P H.length 0 xs fr (H++[List.replicate zs.length .dead]) [] fun R fr' H'=>L0 af R=true∧Reg P N k [y] fr' H' (Q .normal)):AWP P N k (.draw zs af) Q fr H:=by
 obtain⟨R,fr',H',h1,h2,h3⟩:=h
 exact AWP.drawLast hz hp h1 h2 h3
def zV (g i:Nat):Option (Nat×Nat):=match Nat.blt g 2 && Nat.beq i 0 with
 | true=>some (g,i)
 | false=>none
theorem iW {g i:Nat} {p:Nat×Nat} (h:zV g i=some p):g < 2∧i=0∧p=(g,i):=by
 unfold zV at h
 split at h
 ·rename_i e
  simp only[Bool.and_eq_true] at e
  injection h with h
  exact⟨nlB e.1,Nat.eq_of_beq_eq_true e.2,h.symm⟩
 ·cases h
theorem aD.two {P:Program} {f:FuncId} {args:List AV} {a b:Blk} {X:Heap} {R:AV→Blk→Blk→Prop} (h:aD P f args [[a],[b]] fun res H'=>∃ a' b',H'=[[a'],[b']]∧aX res∧fI a'∧fI b'∧R res a' b') (ha:fI a) (hb:fI b)
  (hargs:cB zV args args):aD P f args ([a]::[b]::X) fun res H'=>∃ a' b',H'=[a']::[b']::X∧fI a'∧fI b'∧R res a' b':=by
 have hcase:∀(a b:Blk) (X:Heap) g i,g < 2→i=0→hget ([a]::[b]::X) g i=some (match g with | 0=>a | _=>b):=by
  intro a b X g i hg hi
  subst hi
  match g,hg with
  | 0,_=>rfl
  | 1,_=>rfl
 have hinv:∀(a b:Blk) g i x,hget [[a],[b]] g i=some x→g < 2∧i=0∧x=(match g with | 0=>a | _=>b):=by
  intro a b g i x h
  match g,i with
  | 0,0=>exact⟨by omega,rfl,by simpa[hget] using h.symm⟩
  | 1,0=>exact⟨by omega,rfl,by simpa[hget] using h.symm⟩
  | 0,i+1=>simp[hget] at h
  | 1,i+1=>simp[hget] at h
  | g+2,i=>simp[hget] at h
 have hl2:∀ g i,g < 2→i=0→zV g i=some (g,i):=by
  intro g i hg hi
  subst hi
  match g,hg with
  | 0,_=>rfl
  | 1,_=>rfl
 refine aD.via zV zV h rfl hargs.spec.2 (fun g i p e=>?_) (fun g i p e=>?_) (fun g i x e=>?_) (fun g i p e=>?_) fun res H' hr=>?_
 ·obtain⟨h1,h2,rfl⟩:=iW e
  exact e
 ·obtain⟨h1,h2,rfl⟩:=iW e
  exact e
 ·obtain⟨h1,h2,h3⟩:=hinv a b g i x e
  have hx:fI x:=by
   subst h3
   split
   ·exact ha
   ·exact hb
  exact⟨hx.live,(g,i),x,hl2 g i h1 h2,by rw[hcase a b X g i h1 h2,h3],hx.ren⟩
 ·obtain⟨h1,h2,rfl⟩:=iW e
  rw[hcase a b [] g i h1 h2]
  rfl
 ·obtain⟨a',b',rfl,h1,h2,h3,h4⟩:=hr
  refine⟨fun g i e=>?_,res,[a']::[b']::X,.pure h1,fun g i x hx hxl=>?_,fun g i e=>?_,a',b',rfl,h2,h3,h4⟩
  ·obtain⟨x,hx⟩:=Option.isSome_iff_exists.1 e
   obtain⟨p1,p2,_⟩:=hinv a' b' g i x hx
   rw[hcase a b [] g i p1 p2]
   rfl
  ·by_cases hg:g < 2∧i=0
   ·rw[hcase a' b' X g i hg.1 hg.2] at hx
    injection hx with hx
    left
    refine⟨(g,i),x,hl2 g i hg.1 hg.2,by rw[hcase a' b' [] g i hg.1 hg.2,hx],fI.ren ?_⟩
    subst hx
    split
    ·exact h2
    ·exact h3
   ·right
    refine⟨?_,?_⟩
    ·cases e:zV g i with
     | none=>rfl
     | some p=>exact absurd ⟨(iW e).1,(iW e).2.1⟩ hg
    ·match g,i,hg,hx with
     | 0,i+1,_,hx=>simp[hget] at hx
     | 1,i+1,_,hx=>simp[hget] at hx
     | g+2,i,_,hx=>exact hx
     | 0,0,hg,_=>exact absurd ⟨by omega,rfl⟩ hg
     | 1,0,hg,_=>exact absurd ⟨by omega,rfl⟩ hg
  ·match g,i with
   | 0,0=>rfl
   | 1,0=>rfl
   | 0,i+1=>simp[hget] at e
   | 1,i+1=>simp[hget] at e
   | g+2,i=>exact e
end Go.Av
namespace Go.Av
theorem m8.push (H:Heap) (sz:Nat):m8 H (H++[[.cells sz []]]):=by
 refine⟨fun g i x' hx hl=>?_,fun g i h=>?_⟩
 ·rw[b8] at hx
  split at hx
  ·rename_i e
   subst e
   right
   refine⟨by simp[hget],sz,?_⟩
   cases i with
   | zero=>simpa using hx.symm
   | succ i=>simp at hx
  ·exact .inl ⟨x',hx,.refl _⟩
 ·rw[b8]
  split
  ·rename_i e
   subst e
   simp[hget] at h
  ·exact h
theorem GhT.push (H:Heap) (sz:Nat):GhT H (H++[[.cells sz []]]) (.sc (.slice none 0 0)) (.hsl H.length 0 0 0):=
 .mk H.length 0 sz (by simp[hget]) (by rw[b8,if_pos rfl]; rfl)
def qE (T:AV→AV→Prop) (fr:Fr):Fr→Prop
 | []=>True
 | x::r=>dN T (fr.get x.1) x.2∧qE T fr r
theorem qE.mem {T fr}:∀ {fr':Fr},qE T fr fr'→∀ x∈fr',dN T (fr.get x.1) x.2
 | [],_,x,h=>by cases h
 | _::_,⟨h1,h2⟩,x,h=>by
  cases h with
  | head=>exact h1
  | tail _ h=>exact qE.mem h2 x h
def allS (_ _:Nat):Bool:=true
def BM (H:Heap):Heap:=H.map fun f=>f.map fun _=>.dead
theorem uP {H:Heap} {g i:Nat}:(hget (BM H) g i).isSome=(hget H g i).isSome∧∀ x,hget (BM H) g i=some x→x=.dead:=by
 unfold hget BM
 rw[List.getElem?_map]
 cases H[g]? with
 | none=>exact⟨rfl,fun x h=>by cases h⟩
 | some f=>
  simp only[Option.map_some,List.getElem?_map]
  cases f[i]? with
  | none=>exact⟨rfl,fun x h=>by cases h⟩
  | some y=>exact⟨rfl,fun x h=>by simpa using h.symm⟩
theorem iF.all (H:Heap):iF H allS (BM H):=by
 refine⟨fun g i x' hx hl=>?_,fun g i h=>by rw[uP.1]; exact h⟩
 have:=uP.2 x' hx
 subst this
 cases hl
def FzA (H:Heap):AV→AV→Prop:=dN (FzT H allS)
def CG (H:Heap) (fr:Fr):Fr→Prop
 | []=>True
 | x::r=>(FzA H (fr.get x.1) x.2∧aX x.2)∧CG H fr r
theorem CG.mem {H fr}:∀ {fr':Fr},CG H fr fr'→∀ x∈fr',FzA H (fr.get x.1) x.2∧aX x.2
 | [],_,x,h=>by cases h
 | _::_,⟨h1,h2⟩,x,h=>by
  cases h with
  | head=>exact h1
  | tail _ h=>exact CG.mem h2 x h
theorem FzA.hsl {H:Heap} {g i start len sz:Nat} {rows rows':List (List AV)} (h:hget H g i=some (.cells sz rows)) (hl:start+len≤rows.length) (e:(rows.drop start).take len=rows'):FzA H (.hsl g i start len) (.list sz rows'):=by
 subst e
 exact .base (.hsl g i start len sz rows rfl h hl)
theorem FzA.all {H:Heap} {g i len sz:Nat} {rows:List (List AV)} (h:hget H g i=some (.cells sz rows)) (hl:rows.length=len):FzA H (.hsl g i 0 len) (.list sz rows):=
 .hsl h (by omega) (by rw[List.drop_zero,List.take_of_length_le (by omega)])
theorem FzA.ptr {H:Heap} {g i row sz:Nat} {rows:List (List AV)} {r:List AV} (h:hget H g i=some (.cells sz rows)) (hr:rows[row]?=some r):FzA H (.ptr g i row 0) (.cptr r):=
 .base (.ptr g i row 0 sz rows r rfl h hr)
theorem FzA.mref {H:Heap} {g i:Nat} {es:List (Value×AV)} (h:hget H g i=some (.map es)):FzA H (.mref g i) (.tmap es):=.base (.mref g i es rfl h)
theorem FzA.refl (H:Heap) (a:AV):FzA H a a:=dN.refl a
def vK (T:AV→AV→Prop):List AV→List AV→Prop
 | [],[]=>True
 | a::l,b::m=>dN T a b∧vK T l m
 | _,_=>False
theorem vK.spec {T}:∀ {l m:List AV},vK T l m→l.length=m.length∧∀(j:Nat) a b,l[j]?=some a→m[j]?=some b→dN T a b
 | [],[],_=>⟨rfl,fun j a b h=>by simp at h⟩
 | [],_::_,h=>h.elim
 | _::_,[],h=>h.elim
 | x::l,y::m,⟨h1,h2⟩=>by
  obtain⟨h3,h4⟩:=vK.spec h2
  refine⟨by simp[h3],fun j a b ha hb=>?_⟩
  cases j with
  | zero=>simp at ha hb; subst ha; subst hb; exact h1
  | succ j=>exact h4 j a b (by simpa using ha) (by simpa using hb)
theorem dN.tupL {T} {l m:List AV} (h:vK T l m):dN T (.tup l) (.tup m):=.tup l m h.spec.1 h.spec.2
theorem dN.aggL {T} {l m:List AV} (h:vK T l m):dN T (.agg l) (.agg m):=.agg l m h.spec.1 h.spec.2
theorem vO {g i:Nat} {fr:Fr} {H:Heap} {sz bytes:Nat} {s x:Operand} {g' i' len:Nat} {rows1 rows2:List (List AV)} (hs:ev fr s=.hsl g' i' 0 len) (hx:dW sz H (ev fr x)=some (sz,rows2)) (hh:hget H g' i'=some (.cells sz rows1))
  (hl:rows1.length=len) (hb:(len+rows2.length) * (bytes+1)≤70368744177664) (e3:(Nat.beq g g' && Nat.beq i i')=false):
  aC g i (.append sz bytes s x) fr H=some (.hsl g i 0 (len+rows2.length),aJ (aJ H g' i' .dead) g i (.cells sz (rows1++rows2))):=by
 have e2:Nat.ble ((len+rows2.length) * (bytes+1)) 70368744177664=true:=by simpa using hb
 simp only[aC,hx,hs,hh]
 have e4:Nat.beq sz sz=true:=by simp
 have e5:Nat.beq rows1.length len=true:=by simp[hl]
 simp only[e4,e5,e2,e3,Bool.and_self]
end Go.Av
namespace Go.Av
theorem nK {g i:Nat} {fr:Fr} {H:Heap} {n sz:Nat} {x ix:Operand} {k:IntKind} {m:Int} {q g' i' row o:Nat} (hx:ev fr x=.ptr g' i' row o) (hi:ev fr ix=.sc (.int k m)) (hm:m=(q:Int)) (hq:q < n):
  aC g i (.idxArr n sz x ix) fr H=some (.ptr g' i' row (o+q * sz),H):=by
 subst hm
 have e1:Nat.blt q n=true:=by simpa[Nat.blt_eq] using hq
 simp only[aC,hi,hx]
 show(match Nat.blt q n with
  | true=>some (AV.ptr g' i' row (o+q * sz),H)
  | false=>none)=_
 rw[e1]
theorem tU {g i:Nat} {fr:Fr} {H:Heap} {n sz:Nat} {x ix:Operand} {k:IntKind} {m:Int} {q:Nat} {cells:List AV} (hx:ev fr x=.cptr cells) (hi:ev fr ix=.sc (.int k m)) (hm:m=(q:Int)) (hq:q < n):
  aC g i (.idxArr n sz x ix) fr H=some (.cptr (cells.drop (q * sz)),H):=by
 subst hm
 have e1:Nat.blt q n=true:=by simpa[Nat.blt_eq] using hq
 simp only[aC,hi,hx]
 show(match Nat.blt q n with
  | true=>some (AV.cptr (cells.drop (q * sz)),H)
  | false=>none)=_
 rw[e1]
theorem v6 {g i:Nat} {fr:Fr} {H:Heap} {n:Nat} {x ix:Operand} {k:IntKind} {m:Int} {q:Nat} {cells:List AV} {c:AV} (hx:ev fr x=.agg cells) (hi:ev fr ix=.sc (.int k m)) (hm:m=(q:Int)) (hq:q < n) (hc:cells[q]?=some c):
  aC g i (.idxVal n 1 false x ix) fr H=some (c,H):=by
 subst hm
 have e1:Nat.blt q n=true:=by simpa[Nat.blt_eq] using hq
 have e2:fW 1 false (cells.drop (q * 1))=some c:=by
  rw[Nat.mul_one]
  obtain⟨hl,he⟩:=gEs.1 hc
  rw[List.drop_eq_getElem_cons hl,he]
  rfl
 simp only[aC,hi,hx]
 show(match Nat.blt q n with
  | true=>match fW 1 false (cells.drop (q * 1)) with
   | some v=>some (v,H)
   | none=>none
  | false=>none)=_
 rw[e1,e2]
theorem bF {g i:Nat} {fr:Fr} {H:Heap} {a:Operand} {g' i' row off s:Nat} {rows:List (List AV)} {r:List AV} {c:AV} (ha:ev fr a=.ptr g' i' row off) (hh:hget H g' i'=some (.cells s rows)) (hr:rows[row]?=some r) (hc:r[off]?=some c):
  aC g i (.load 1 false a) fr H=some (c,H):=by
 have e2:fW 1 false (r.drop off)=some c:=by
  obtain⟨hl,he⟩:=gEs.1 hc
  rw[List.drop_eq_getElem_cons hl,he]
  rfl
 simp only[aC,ha,hh,hr,e2]
theorem zP {g i:Nat} {fr:Fr} {H:Heap} {a:Operand} {cells:List AV} {c:AV} {rest:List AV} (ha:ev fr a=.cptr cells) (hc:cells=c::rest):
  aC g i (.load 1 false a) fr H=some (c,H):=by
 subst hc
 simp only[aC,ha,fW]
theorem EO {g i:Nat} {fr:Fr} {H:Heap} {a x:Operand} {sz g' i' row off s:Nat} {rows:List (List AV)} {r cs:List AV} (ha:ev fr a=.ptr g' i' row off) (hx:(ev fr x).cs=some cs) (hh:hget H g' i'=some (.cells s rows)) (hr:rows[row]?=some r)
  (hs:cs.length=sz) (hl:off+sz≤r.length) (h1:cs.all AV.cell1=true):
  aC g i (.store sz a x) fr H=some (.undef,aJ H g' i' (.cells s (rows.set row (bB r off cs)))):=by
 have e1:Nat.beq cs.length sz=true:=by simp[hs]
 have e2:Nat.ble (off+sz) r.length=true:=by simpa using hl
 simp only[aC,ha,hx,hh,hr,e1,e2,h1,Bool.and_self]
theorem zA {α:Type} (l:List α):∀(k:Nat) (v:α),bB l k [v]=l.set k v:=by
 induction l with
 | nil=>intro k v; rfl
 | cons x l ih=>
  intro k v
  cases k with
  | zero=>simp[bB,pQ]
  | succ k=>simp[bB,ih]
theorem pE {α:Type}:∀(l vs:List α),vs.length=l.length→bB l 0 vs=vs
 | [],[],_=>rfl
 | [],_::_,h=>by simp at h
 | _::_,[],h=>by simp at h
 | x::l,v::vs,h=>by
  show v::bB l 0 vs=v::vs
  rw[pE l vs (by simpa using h)]
def mC (n:Nat) (s:Nat→Bool):List AV:=(List.range n).map fun i=>.sc (.bool (s i))
theorem fX (n:Nat) (s:Nat→Bool):(mC n s).length=n:=by simp[mC]
theorem gX {n:Nat} {s:Nat→Bool} {q:Nat} (h:q < n):(mC n s)[q]?=some (.sc (.bool (s q))):=by simp[mC,h]
theorem yP (n:Nat) (s:Nat→Bool) (q:Nat) (b:Bool):(mC n s).set q (.sc (.bool b))=mC n fun i=>if i=q then b else s i:=by
 apply List.ext_getElem?
 intro j
 rw[List.getElem?_set]
 by_cases hj:j < n
 ·by_cases e:q=j
  ·subst e
   simp[mC,hj]
  ·rw[if_neg e,gX hj,gX hj,if_neg (fun h=>e h.symm)]
 ·have h1:∀ s,(mC n s)[j]?=none:=fun s=>List.getElem?_eq_none (by rw[fX]; omega)
  rw[h1,h1]
  split
  ·rw[fX,if_neg (by omega)]
  ·rfl
theorem DM (n:Nat) (s:Nat→Bool):∀ c∈mC n s,aX c:=fun c hc=>by
 obtain⟨a,_,rfl⟩:=List.mem_map.1 hc
 exact .sc _
theorem bJ.row {ρ:Nat→Nat→Option (Nat×Nat)} {sz:Nat} {r r':List AV} (e:r=r') (h:∀ c∈r',aX c):bJ ρ (.cells sz [r]) (.cells sz [r']):=by
 subst e
 exact .pure sz [r] (allPure_cons' h)
where
 allPure_cons' {r:List AV} (h:∀ c∈r,aX c):∀ x∈[r],∀ c∈x,aX c:=fun x hx=>by
  have:x=r:=by simpa using hx
  subst this
  exact h
theorem bJ.rows {ρ:Nat→Nat→Option (Nat×Nat)} {sz:Nat} {rows rows':List (List AV)} (e:rows=rows') (h:∀ r∈rows',∀ c∈r,aX c):bJ ρ (.cells sz rows) (.cells sz rows'):=by
 subst e
 exact .pure sz rows h
end Go.Av
namespace Go.Av
inductive FT where
 | leaf
 | node (v:AV) (l r:FT)
def FT.get:FT→Nat→AV
 | .leaf,_=>.undef
 | .node v l r,n=>match n with
  | 0=>v
  | m+1=>match Nat.beq (Nat.mod m 2) 0 with
   | true=>l.get (Nat.div m 2)
   | false=>r.get (Nat.div m 2)
def FT.put:FT→Nat→AV→Option FT
 | .leaf,_,_=>none
 | .node v l r,n,x=>match n with
  | 0=>some (.node x l r)
  | m+1=>match Nat.beq (Nat.mod m 2) 0 with
   | true=>match l.put (Nat.div m 2) x with
    | some l'=>some (.node v l' r)
    | none=>none
   | false=>match r.put (Nat.div m 2) x with
    | some r'=>some (.node v l r')
    | none=>none
def FT.full:Nat→FT
 | 0=>.leaf
 | d+1=>.node .undef (FT.full d) (FT.full d)
theorem FT.get_put:∀(T T':FT) (d:Nat) (v:AV),T.put d v=some T'→∀ t,T'.get t=match Nat.beq d t with | true=>v | false=>T.get t:=by
 intro T
 induction T with
 | leaf=>intro T' d v h; cases h
 | node u l r ihl ihr=>
  intro T' d v h t
  cases d with
  | zero=>
   simp only[FT.put,oIn] at h
   subst h
   cases t with
   | zero=>rfl
   | succ t=>rfl
  | succ m=>
   simp only[FT.put] at h
   split at h
   ·rename_i e
    split at h
    ·rename_i l' hl
     injection h with h
     subst h
     cases t with
     | zero=>rfl
     | succ t=>
      have:=ihl l' _ _ hl
      simp only[FT.get]
      split
      ·rename_i e'
       rw[this]
       have e1:m % 2=0:=Nat.eq_of_beq_eq_true e
       have e2:t % 2=0:=Nat.eq_of_beq_eq_true e'
       have:Nat.beq (Nat.div m 2) (Nat.div t 2)=Nat.beq (m+1) (t+1):=by
        rw[Bool.eq_iff_iff]
        simp only[Nat.beq_eq]
        show m / 2=t / 2↔m+1=t+1
        omega
       rw[this]
      ·rename_i e'
       have e1:m % 2=0:=Nat.eq_of_beq_eq_true e
       have e2:¬ t % 2=0:=fun h=>by
        have:Nat.beq (Nat.mod t 2) 0=true:=by
         show Nat.beq (t % 2) 0=true
         rw[h]; rfl
        rw[this] at e'; cases e'
       have:Nat.beq (m+1) (t+1)=false:=by
        rw[Bool.eq_false_iff]
        simp only[ne_eq,Nat.beq_eq]
        omega
       rw[this]
    ·cases h
   ·rename_i e
    split at h
    ·rename_i l' hl
     injection h with h
     subst h
     cases t with
     | zero=>rfl
     | succ t=>
      have:=ihr l' _ _ hl
      have e1:¬ m % 2=0:=fun h=>by
       have:Nat.beq (Nat.mod m 2) 0=true:=by
        show Nat.beq (m % 2) 0=true
        rw[h]; rfl
       rw[this] at e; cases e
      simp only[FT.get]
      split
      ·rename_i e'
       have e2:t % 2=0:=Nat.eq_of_beq_eq_true e'
       have:Nat.beq (m+1) (t+1)=false:=by
        rw[Bool.eq_false_iff]
        simp only[ne_eq,Nat.beq_eq]
        omega
       rw[this]
      ·rename_i e'
       rw[this]
       have e2:¬ t % 2=0:=fun h=>by
        have:Nat.beq (Nat.mod t 2) 0=true:=by
         show Nat.beq (t % 2) 0=true
         rw[h]; rfl
        rw[this] at e'; cases e'
       have:Nat.beq (Nat.div m 2) (Nat.div t 2)=Nat.beq (m+1) (t+1):=by
        rw[Bool.eq_iff_iff]
        simp only[Nat.beq_eq]
        show m / 2=t / 2↔m+1=t+1
        omega
       rw[this]
    ·cases h
def FT.putO (T:FT) (d:Option Nat) (v:AV):Option FT:=
 match d with
 | some d=>T.put d v
 | none=>some T
def AgT (fr:Fr) (T:FT):Prop:=∀ t,fr.get t=T.get t
theorem AgT.put {fr:Fr} {T T':FT} {d:Option Nat} {v:AV} (h:AgT fr T) (hp:T.putO d v=some T'):AgT (fr.put d v) T':=by
 cases d with
 | none=>injection hp with hp; subst hp; exact h
 | some d=>
  intro t
  rw[FT.get_put _ _ _ _ hp t]
  show(match Nat.beq d t with | true=>v | false=>Fr.get fr t)=_
  rw[h t]
def FT.ev (T:FT):Operand→AV
 | .tmp t=>T.get t
 | .const v=>.sc v
 | .global g=>.sc (.pointer (some ⟨g,0,none⟩))
 | .func f=>.sc (.func (.func f) #[] #[])
theorem AgT.ev {fr:Fr} {T:FT} (h:AgT fr T):Av.ev fr=T.ev:=by
 funext x
 cases x with
 | tmp t=>exact h t
 | _=>rfl
theorem AgT.avals {fr:Fr} {T:FT} (h:AgT fr T) (l:List Operand):Av.avals fr l=l.map T.ev:=by unfold Av.avals; rw[h.ev]
def F0 (e:Operand→AV) (d:Nat):Option Operand→Option Nat
 | none=>some d
 | some x=>match e x with
  | .sc (.int _ (.ofNat q))=>some q
  | _=>none
def kD (e:Operand→AV) (d:Nat) (lo hi mx:Option Operand):Option (Nat×Nat):=
 match F0 e 0 lo,F0 e d hi,F0 e d mx with
 | some l,some h,some m=>match Nat.ble l h && (Nat.ble h m && Nat.ble m d) && (mx.isNone || hi.isSome) with
  | true=>some (l,h)
  | false=>none
 | _,_,_=>none
def s6 (e:Operand→AV) (g i:Nat) (o:IOp) (H:Heap):Option (AV×Heap):=
 match o with
 | .move x=>fz (e x) H
 | .pick c a b=>match e c with
  | .sc (.bool true)=>fz (e a) H
  | .sc (.bool false)=>fz (e b) H
  | _=>none
 | .alloc z=>some (.ptr g i 0 0,aJ H g i (.cells (dQ z).length [dQ z]))
 | .box x=>match (e x).cs with
  | some cs=>match cs.all AV.cell1 with
   | true=>some (.ptr g i 0 0,aJ H g i (.cells cs.length [cs]))
   | false=>none
  | none=>none
 | .build z parts=>match lay (dQ z) (parts.map fun p=>(p.1,p.2.1,e p.2.2)) with
  | some cs=>some (.agg cs,H)
  | none=>none
 | .buildSlice sz z n parts=>match kZ sz (List.replicate n (dQ z)) (parts.map fun p=>(p.1,e p.2)) with
  | some rows=>some (.hsl g i 0 n,aJ H g i (.cells sz rows))
  | none=>none
 | .load sz agg a=>match e a with
  | .cptr cells=>match fW sz agg cells with
   | some v=>some (v,H)
   | none=>none
  | .ptr g' i' row off=>match hget H g' i' with
   | some (.cells s rows)=>match rows[row]? with
    | some r=>match fW sz agg (r.drop off) with
     | some v=>some (v,H)
     | none=>match Nat.beq s 1 && Nat.beq off 0 with
      | true=>match fW sz agg ((rows.drop row).take sz).flatten with
       | some v=>some (v,H)
       | none=>none
      | false=>none
    | none=>none
   | _=>none
  | _=>none
 | .store sz a x=>match e a with
  | .ptr g' i' row off=>match (e x).cs with
   | some cs=>match hget H g' i' with
    | some (.cells s rows)=>match rows[row]? with
     | some r=>match Nat.beq cs.length sz && (Nat.ble (off+sz) r.length && cs.all AV.cell1) with
      | true=>some (.undef,aJ H g' i' (.cells s (rows.set row (bB r off cs))))
      | false=>none
     | none=>none
    | _=>none
   | none=>none
  | _=>none
 | .nilCheck x=>match e x with
  | .ptr g' i' row off=>some (.ptr g' i' row off,H)
  | .cptr cells=>some (.cptr cells,H)
  | .ifc t a=>some (.ifc t a,H)
  | _=>none
 | .bin op t x y=>match e x,e y with
  | .sc a,.sc b=>match Sem.pure? (do eqGuard op t x y a b; binOp op t a b) with
   | some v=>some (.sc v,H)
   | none=>none
  | _,_=>none
 | .eqBool neg x y=>match e x,e y with
  | .sc (.bool a),.sc (.bool b)=>match neg with
   | true=>some (.sc (.bool (!(a == b))),H)
   | false=>some (.sc (.bool (a == b)),H)
  | _,_=>none
 | .eqNil neg x=>match e x with
  | .ptr _ _ _ _=>some (.sc (.bool neg),H)
  | .cptr _=>some (.sc (.bool neg),H)
  | .sc (.pointer none)=>some (.sc (.bool (!neg)),H)
  | _=>none
 | .eqNilM neg x=>match e x with
  | .mref _ _=>some (.sc (.bool neg),H)
  | .tmap _=>some (.sc (.bool neg),H)
  | .sc (.map none)=>some (.sc (.bool (!neg)),H)
  | _=>none
 | .eqNilS neg x=>match e x with
  | .list _ (_::_)=>some (.sc (.bool neg),H)
  | .hsl g' i' _ len=>match len with
   | _+1=>some (.sc (.bool neg),H)
   | 0=>match hget H g' i' with
    | some (.cells _ (_::_))=>some (.sc (.bool neg),H)
    | _=>none
  | .asl _ _ _ _ _=>some (.sc (.bool neg),H)
  | .sc (.slice none 0 0)=>some (.sc (.bool (!neg)),H)
  | _=>none
 | .eqArr neg n x y=>match e x,e y with
  | .agg xs,.agg ys=>match bools xs,bools ys with
   | some a,some b=>match Nat.beq a.length n && Nat.beq b.length n with
    | true=>match neg with
     | true=>some (.sc (.bool (!(a == b))),H)
     | false=>some (.sc (.bool (a == b)),H)
    | false=>none
   | _,_=>none
  | _,_=>none
 | .un op x=>match e x with
  | .sc a=>match Sem.pure? (Op.unary op a) with
   | some v=>some (.sc v,H)
   | none=>none
  | _=>none
 | .conv k x=>match e x with
  | .sc (.int _ n)=>some (.sc (.int k (k.wrap n)),H)
  | _=>none
 | .makeFunc fn first captured=>match fzl (first.map e),fzl (captured.map e) with
  | some a,some b=>some (.clo fn a b,H)
  | _,_=>none
 | .makeMap=>some (.mref g i,aJ H g i (.map []))
 | .makeSlice sz bytes z l=>match e l with
  | .sc (.int .i64 (.ofNat n))=>match Nat.ble (bytes * n) 70368744177664 && Nat.ble n 1073741824 with
   | true=>some (.hsl g i 0 n,aJ H g i (.cells sz (List.replicate n (dQ z))))
   | false=>none
  | _=>none
 | .slice sz x lo hi mx=>match e x with
  | .list s rows=>match Nat.beq s sz with
   | true=>match kD e rows.length lo hi mx with
    | some (l,h)=>some (.list sz ((rows.drop l).take (h - l)),H)
    | none=>none
   | false=>none
  | .hsl g' i' start len=>match hget H g' i' with
   | some (.cells s rows)=>match Nat.beq s sz with
    | true=>match kD e len lo hi mx with
     | some (l,h)=>match mx with
      | some _=>some (.undef,H)
      | none=>match Nat.beq l 0 with
       | true=>some (.hsl g' i' start h,H)
       | false=>match Nat.beq l h with
        | true=>some (.list sz [],H)
        | false=>some (.hsl g' i' (start+l) (h - l),H)
     | none=>match kD e (rows.length - start) lo hi mx with
      | some (l,h)=>match hi,mx with
       | some _,none=>match Nat.blt 0 sz && Nat.blt l h with
        | true=>some (.hsl g' i' (start+l) (h - l),H)
        | false=>none
       | _,_=>none
      | none=>none
    | false=>none
   | _=>none
  | .sc (.slice none 0 0)=>match kD e 0 lo hi mx with
   | some _=>some (.sc (.slice none 0 0),H)
   | none=>none
  | _=>none
 | .fieldAddr off x=>match e x with
  | .cptr cells=>some (.cptr (cells.drop off),H)
  | .ptr g' i' row o=>some (.ptr g' i' row (o+off),H)
  | _=>none
 | .field off sz agg x=>match (e x) with
  | .agg cells=>match fW sz agg (cells.drop off) with
   | some v=>some (v,H)
   | none=>none
  | _=>none
 | .idxSl sz x ix=>match e ix with
  | .sc (.int _ n)=>match e x with
   | .list s rows=>match Nat.beq s sz,iD rows n with
    | true,some r=>some (.cptr r,H)
    | _,_=>none
   | .hsl g' i' start len=>match n with
    | .ofNat q=>match hget H g' i' with
     | some (.cells s rows)=>match Nat.beq s sz && (Nat.blt q len && Nat.ble (start+len) rows.length) with
      | true=>some (.ptr g' i' (start+q) 0,H)
      | false=>none
     | _=>none
    | .negSucc _=>none
   | .asl g' i' row off len=>match n with
    | .ofNat q=>match Nat.beq sz 1 && Nat.blt q len with
     | true=>some (.ptr g' i' row (off+q),H)
     | false=>none
    | .negSucc _=>none
   | _=>none
  | _=>none
 | .idxArr n sz x ix=>match e ix with
  | .sc (.int _ (.ofNat q))=>match Nat.blt q n with
   | true=>match e x with
    | .cptr cells=>some (.cptr (cells.drop (q * sz)),H)
    | .ptr g' i' row o=>some (.ptr g' i' row (o+q * sz),H)
    | _=>none
   | false=>none
  | _=>none
 | .idxVal n sz agg x ix=>match e ix with
  | .sc (.int _ (.ofNat q))=>match Nat.blt q n with
   | true=>match e x with
    | .agg cells=>match fW sz agg (cells.drop (q * sz)) with
     | some v=>some (v,H)
     | none=>none
    | _=>none
   | false=>none
  | _=>none
 | .lookup z k x ix ok=>match e ix with
  | .sc (.int k' n)=>match decide (k=k') with
   | true=>mG z ok H (nZ H k n (e x))
   | false=>none
  | _=>none
 | .mapUpdate k m ix x=>match e m,e ix with
  | .mref g' i',.sc (.int k' n)=>match decide (k=k') with
   | true=>match hget H g' i' with
    | some (.map es)=>match fU k n es with
     | some none=>some (.undef,aJ H g' i' (.map (es++[(.int k n,e x)])))
     | some (some _)=>some (.undef,aJ H g' i' (.map (tV n (e x) es)))
     | none=>none
    | _=>none
   | false=>none
  | _,_=>none
 | .extract x ix=>match e x with
  | .tup vs=>match vs[ix]? with
   | some v=>some (v,H)
   | none=>none
  | _=>none
 | .len x=>match e x with
  | .list _ rows=>some (.sc (.int .i64 rows.length),H)
  | .hsl _ _ _ len=>some (.sc (.int .i64 len),H)
  | .asl _ _ _ _ len=>some (.sc (.int .i64 len),H)
  | .sc (.slice none 0 0)=>some (.sc (.int .i64 (0:Nat)),H)
  | _=>none
 | .lenM x=>match e x with
  | .tmap es=>some (.sc (.int .i64 es.length),H)
  | .mref g' i'=>match hget H g' i' with
   | some (.map es)=>some (.sc (.int .i64 es.length),H)
   | _=>none
  | .sc (.map none)=>some (.sc (.int .i64 (0:Nat)),H)
  | _=>none
 | .append sz bytes s x=>match dW sz H (e x) with
  | some (s2,rows2)=>match Nat.beq s2 sz with
   | true=>match e s with
    | .hsl g' i' 0 len=>match hget H g' i' with
     | some (.cells s1 rows1)=>match Nat.beq s1 sz && (Nat.beq rows1.length len && Nat.ble ((len+rows2.length) * (bytes+1)) 70368744177664) with
      | true=>match Nat.beq g g' && Nat.beq i i' with
       | true=>none
       | false=>some (.hsl g i 0 (len+rows2.length),aJ (aJ H g' i' .dead) g i (.cells sz (rows1++rows2)))
      | false=>match Nat.beq s1 sz && (Nat.blt 0 sz && (Nat.blt len rows1.length && Nat.ble (len+rows2.length) rows1.length)) with
       | true=>match Nat.beq g g' && Nat.beq i i' with
        | true=>none
        | false=>some (.hsl g i 0 (len+rows2.length),aJ (aJ H g' i' .dead) g i (.cells sz (rows1.take len++(rows2++rows1.drop (len+rows2.length)))))
       | false=>none
     | _=>none
    | .sc (.slice none 0 0)=>match Nat.ble (rows2.length * (bytes+1)) 70368744177664 with
     | true=>some (.hsl g i 0 rows2.length,aJ H g i (.cells sz rows2))
     | false=>none
    | _=>none
   | false=>none
  | none=>none
 | .max args=>match scs (args.map e) with
  | some vs=>match Sem.pure? (Builtin.max_ #[] 0 vs.toArray) with
   | some v=>some (.sc v,H)
   | none=>none
  | none=>none
 | .min args=>match scs (args.map e) with
  | some vs=>match Sem.pure? (Builtin.min_ #[] 0 vs.toArray) with
   | some v=>some (.sc v,H)
   | none=>none
  | none=>none
 | .xop q xs=>match lR H q (xs.map e) with
  | some v=>some (v,H)
  | none=>none
 | .insF ks m ix x=>match e m,iM (e ix) with
  | .mref g' i',some k=>match cC ks k k with
   | some _=>match hget H g' i' with
    | some (.map [])=>match qB k with
     | some c=>some (.undef,aJ H g' i' (.umap c.length [(c,e x)]))
     | none=>none
    | some (.umap n es)=>match qB k with
     | some c=>match Nat.beq c.length n,dG c es with
      | true,none=>some (.undef,aJ H g' i' (.umap n (eI c (e x) es)))
      | _,_=>none
     | none=>none
    | _=>none
   | none=>none
  | _,_=>none
 | .mop q xs=>cN g i H q (xs.map e)
theorem AG (fr:Fr) (d:Nat) (lo hi mx:Option Operand):dA fr d lo hi mx=kD (ev fr) d lo hi mx:=by
 cases lo<;>cases hi<;>cases mx<;>rfl
theorem vS (g i:Nat) (o:IOp) (fr:Fr) (H:Heap):aC g i o fr H=s6 (ev fr) g i o H:=by
 cases o<;>first | rfl | (simp only[aC,s6,AG]; rfl)
def KT (e:Operand→AV):IOp→List (Nat×Nat)
 | .load _ _ a=>a9 (e a)
 | .store _ a _=>a9 (e a)
 | .idxSl _ x _=>a9 (e x)
 | .slice _ x _ _ _=>a9 (e x)
 | .lenM x=>a9 (e x)
 | .eqNilS _ x=>a9 (e x)
 | .lookup _ _ x _ _=>a9 (e x)
 | .mapUpdate _ m _ _=>a9 (e m)
 | .append _ _ s x=>a9 (e s)++a9 (e x)
 | .xop _ xs=>(xs.map e).flatMap a9
 | .insF _ m _ _=>a9 (e m)
 | .mop _ xs=>(xs.map e).flatMap a9
 | _=>[]
def L5 (e:Operand→AV) (g i:Nat):IOp→List (Nat×Nat)
 | .alloc _=>[(g,i)]
 | .box _=>[(g,i)]
 | .buildSlice _ _ _ _=>[(g,i)]
 | .makeMap=>[(g,i)]
 | .makeSlice _ _ _ _=>[(g,i)]
 | .store _ a _=>a9 (e a)
 | .mapUpdate _ m _ _=>a9 (e m)
 | .insF _ m _ _=>a9 (e m)
 | .append _ _ s _=>(g,i)::a9 (e s)
 | .mop o xs=>mwr g i o (xs.map e)
 | _=>[]
theorem CH (fr:Fr) (o:IOp):drd fr o=KT (ev fr) o:=by cases o<;>rfl
theorem I5 (fr:Fr) (g i:Nat) (o:IOp):dwr g i fr o=L5 (ev fr) g i o:=by cases o<;>rfl
abbrev Caller:=FuncId→List AV→Heap→Option (AV×Heap)
mutual
def i6 (k:Nat):AV→Bool
 | .undef=>true
 | .sc _=>true
 | .agg c=>i7 k c
 | .tup c=>i7 k c
 | .list _ r=>wN k r
 | .cptr c=>i7 k c
 | .tmap e=>A7 k e
 | .ptr g _ _ _=>Nat.blt g k
 | .hsl g _ _ _=>Nat.blt g k
 | .mref g _=>Nat.blt g k
 | .clo _ a b=>i7 k a && i7 k b
 | .yld g _=>Nat.blt g k
 | .asl g _ _ _ _=>Nat.blt g k
 | .ifc _ a=>i6 k a
 | .one=>true
def i7 (k:Nat):List AV→Bool
 | []=>true
 | a::l=>i6 k a && i7 k l
def wN (k:Nat):List (List AV)→Bool
 | []=>true
 | a::l=>i7 k a && wN k l
def A7 (k:Nat):List (Value×AV)→Bool
 | []=>true
 | (_,a)::l=>i6 k a && A7 k l
end
def rV (k:Nat):Blk→Bool
 | .dead=>true
 | .cells _ rows=>wN k rows
 | .map es=>A7 k es
 | .lp ..=>false
 | .umap ..=>false
 | .it ..=>false
def AZ (k:Nat):List Blk→Bool
 | []=>true
 | x::l=>rV k x && AZ k l
def z4 (k:Nat):Nat→Heap→Bool
 | 0,_=>true
 | _+1,[]=>true
 | n+1,f::r=>AZ k f && z4 k n r
inductive RR where
 | stuck
 | out (T:FT) (H:Heap)
inductive DR where
 | stuck
 | out (R:List a6) (T:FT) (H:Heap)
def DR.cons (r:a6):DR→DR
 | .stuck=>.stuck
 | .out R T H=>.out (r::R) T H
inductive XR where
 | stuck
 | out (e:Exit) (T:FT) (H:Heap)
def XR.block (id:Nat):XR→XR
 | .out (.exit id') T H=>match Nat.beq id' id with
  | true=>.out .normal T H
  | false=>.out (.exit id') T H
 | r=>r
def RR.x:RR→XR
 | .stuck=>.stuck
 | .out T H=>.out .normal T H
def KI:List (Nat×IFun)→FuncId→Option IFun
 | [],_=>none
 | (n,F)::l,f=>match Nat.beq n f with
  | true=>some F
  | false=>KI l f
end Go.Av
