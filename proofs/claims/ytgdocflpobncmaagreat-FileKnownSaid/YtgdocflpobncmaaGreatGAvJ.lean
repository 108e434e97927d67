import Derived.Test.YtgdocflpobncmaaGreatGAvV
namespace Go.Av
def beh (n a b:Nat):Option (Nat×Nat):=match Nat.blt a n with
 | true=>none
 | false=>some (a - n,b)
theorem wM {n a b:Nat} (h:a < n):beh n a b=none:=by
 have e:Nat.blt a n=true:=by simpa[Nat.blt_eq] using h
 simp only[beh,e]
theorem jZ {n a b:Nat} (h:n≤a):beh n a b=some (a - n,b):=by
 have e:Nat.blt a n=false:=by
  apply Bool.eq_false_iff.2
  intro q
  have:a < n:=by simpa[Nat.blt_eq] using q
  omega
 simp only[beh,e]
theorem dG {H X:Heap} {a b:Nat} (h:a < H.length):hget (H++X) a b=hget H a b:=by
 unfold hget
 rw[List.getElem?_append_left h]
theorem dE {H X:Heap} {a b:Nat} (h:H.length≤a):hget (H++X) a b=hget X (a - H.length) b:=by
 unfold hget
 rw[List.getElem?_append_right h]
theorem aF.frame {P:Program} {f:FuncId} {args:List AV} {R R':AV→Heap→Prop} (h:aF P f args [] R) (ha:∀ a∈args,aQ a) (H:Heap)
  (hR:∀ res H0,R res H0→∃ res' H0',Ren (beh H.length) res res'∧(∀ g i x',hget H0' g i=some x'→x'.live=true→∃ x,hget H0 g i=some x∧cS (beh H.length) x x')∧(∀ g i,(hget H0 g i).isSome→(hget H0' g i).isSome)∧R' res' (H++H0')):aF P f args H R':=by
 refine⟨h.1,fun M J w cargs hl hr hH hM=>?_⟩
 have hH0:aI M (fun _ _=>none) [] w.heap:=
  ⟨fun g i x hx=>(by simp[hget] at hx),fun g i g' i' l l' β _ _ hJ=>(by cases hJ),fun g i l β _ hJ=>(by cases hJ),fun g i l hJ=>(by cases hJ)⟩
 refine(h.2 M (fun _ _=>none) w cargs hl (fun j c x hc hx=>(hr j c x hc hx).anyJ (ha c (List.mem_of_getElem? hc)) _) hH0 hM).mono ?_
 rintro e w' ⟨cv,M',J',res,H0,rfl,hs,hrep,hr0⟩
 obtain⟨res',H0',r1,r2,r3,r4⟩:=hR res H0 hr0
 have hno:∀ g i,¬ aN [] g i:=by
  rintro g i ⟨x,hx,_⟩
  simp[hget] at hx
 have hsame:∀(β:Nat) o,w.heap[β]?=some o→w'.heap[β]?=some o:=fun β o ho=>hs.frame β o ho fun g i l hl _=>absurd hl (hno g i)
 let J2:Inj:=fun a b=>if a < H.length then J a b else J' (a - H.length) b
 have hJlt:∀ g i l,J g i=some l→g < H.length:=fun g i l hJ=>dU ((hH.dom g i l hJ).1)
 have x1:Ext M J M' J2:=⟨hs.m,fun g i l hJ=>by
  show(if g < H.length then J g i else J' (g - H.length) i)=some l
  rw[if_pos (hJlt g i l hJ)]; exact hJ⟩
 have x2:Ext M' (J'.via (beh H.length)) M' J2:=⟨fun _ _ h=>h,fun a b l hJ=>by
  show(if a < H.length then J a b else J' (a - H.length) b)=some l
  by_cases hlt:a < H.length
  ·unfold Inj.via at hJ
   rw[wM hlt] at hJ
   cases hJ
  ·rw[if_neg hlt]
   unfold Inj.via at hJ
   rw[jZ (by omega)] at hJ
   exact hJ⟩
 have hl1:∀ a b,a < H.length→aN (H++H0') a b→aN H a b:=by
  rintro a b hlt ⟨x,hx,hxl⟩
  rw[dG hlt] at hx
  exact⟨x,hx,hxl⟩
 have hl2:∀ a b,H.length≤a→aN (H++H0') a b→aN H0 (a - H.length) b:=by
  rintro a b hge ⟨x,hx,hxl⟩
  rw[dE hge] at hx
  obtain⟨y,hy,hb⟩:=r2 _ _ x hx hxl
  exact⟨y,hy,hb.live hxl⟩
 have j1:∀ {a b:Nat} {l:Loc},a < H.length→J2 a b=some l→J a b=some l:=fun {a b l} hlt hJ=>by
  have:(if a < H.length then J a b else J' (a - H.length) b)=some l:=hJ
  rwa[if_pos hlt] at this
 have j2:∀ {a b:Nat} {l:Loc},H.length≤a→J2 a b=some l→J' (a - H.length) b=some l:=fun {a b l} hge hJ=>by
  have:(if a < H.length then J a b else J' (a - H.length) b)=some l:=hJ
  rwa[if_neg (by omega)] at this
 have hnew:∀ g i l β,aN H0 g i→J' g i=some l→l.blk=some β→w.heap.size≤β:=fun g i l β a b c=>by
  rcases hs.live g i l β a b c with⟨g0,i0,l0,q,_⟩ | q
  ·exact absurd q (hno g0 i0)
  ·exact q
 have hfresh:∀ β o,M' β=some o→M β=some o∨w.heap.size≤β:=fun β o ho=>by
  rcases hs.fresh β o ho with q | q | ⟨g,i,l,q,_⟩
  ·exact .inl q
  ·exact .inr q
  ·exact absurd q (hno g i)
 refine⟨cv,M',J2,res',H++H0',rfl,⟨hs.m,fun g i l hg hJ=>x1.j g i l hJ,⟨?_,?_,?_,?_⟩,hs.mrep,hs.os,hs.tape,hs.output,hs.size,fun β o ho _=>hsame β o ho,?_,?_,hs.bk⟩,(hrep.ren r1).ext x2,r4⟩
 ·intro a b x hx hxl
  by_cases hlt:a < H.length
  ·rw[dG hlt] at hx
   obtain⟨l,p,q⟩:=hH.blk a b x hx hxl
   refine⟨l,x1.j a b l p,q.ext x1 fun β hβ=>?_⟩
   have hb:=(hH.dom a b l p).2 β hβ
   rw[Array.getElem?_eq_getElem hb]
   exact hsame β _ (Array.getElem?_eq_getElem hb)
  ·rw[dE (by omega)] at hx
   obtain⟨y,hy,hb⟩:=r2 _ _ x hx hxl
   obtain⟨l,p,q⟩:=hs.hrep.blk _ _ y hy (hb.live hxl)
   refine⟨l,x2.j a b l ?_,(q.ren hb).ext x2 fun β _=>rfl⟩
   unfold Inj.via
   rw[jZ (by omega)]
   exact p
 ·intro a b a' b' l l' β la lb ja jb ba bb
  by_cases h1:a < H.length
  ·by_cases h2:a' < H.length
   ·exact hH.inj a b a' b' l l' β (hl1 a b h1 la) (hl1 a' b' h2 lb) (j1 h1 ja) (j1 h2 jb) ba bb
   ·have q1:=(hH.dom a b l (j1 h1 ja)).2 β ba
    have q2:=hnew _ _ l' β (hl2 a' b' (by omega) lb) (j2 (by omega) jb) bb
    omega
  ·by_cases h2:a' < H.length
   ·have q1:=(hH.dom a' b' l' (j1 h2 jb)).2 β bb
    have q2:=hnew _ _ l β (hl2 a b (by omega) la) (j2 (by omega) ja) ba
    omega
   ·have:=hs.hrep.inj _ _ _ _ l l' β (hl2 a b (by omega) la) (hl2 a' b' (by omega) lb) (j2 (by omega) ja) (j2 (by omega) jb) ba bb
    exact⟨by omega,this.2⟩
 ·intro a b l β la ja ba
  by_cases h1:a < H.length
  ·cases e:M' β with
   | none=>rfl
   | some o=>
    rcases hfresh β o e with q | q
    ·rw[hH.out a b l β (hl1 a b h1 la) (j1 h1 ja) ba] at q; cases q
    ·have:=(hH.dom a b l (j1 h1 ja)).2 β ba; omega
  ·exact hs.hrep.out _ _ l β (hl2 a b (by omega) la) (j2 (by omega) ja) ba
 ·intro a b l ja
  by_cases h1:a < H.length
  ·have:=hH.dom a b l (j1 h1 ja)
   exact⟨by rw[dG h1]; exact this.1,fun β hβ=>Nat.lt_of_lt_of_le (this.2 β hβ) hs.size⟩
  ·have:=hs.hrep.dom _ _ l (j2 (by omega) ja)
   exact⟨by rw[dE (by omega)]; exact r3 _ _ this.1,this.2⟩
 ·intro β o ho
  rcases hfresh β o ho with q | q
  ·exact .inl q
  ·exact .inr (.inl q)
 ·intro a b l β la ja ba
  by_cases h1:a < H.length
  ·exact .inl ⟨a,b,l,hl1 a b h1 la,j1 h1 ja,ba⟩
  ·exact .inr (hnew _ _ l β (hl2 a b (by omega) la) (j2 (by omega) ja) ba)
end Go.Av
namespace Go.Av
theorem qS {g i g' i':Nat} {fr:Fr} {o:IOp} {H H':Heap} {v:AV} (hd:dwr g i fr o=[]) (h:aA g i o fr H=some (v,H')):H'=H∧aA g' i' o fr H=some (v,H):=by
 have fin:∀ {x:Option (AV×Heap)},aA g i o fr H=x→aA g' i' o fr H=x→H'=H→H'=H∧aA g' i' o fr H=some (v,H):=fun {x} h1 h2 h3=>⟨h3,by rw[h2,← h1,h,h3]⟩
 cases o with
 | alloc | box | buildSlice | makeMap | makeSlice | append=>simp[dwr] at hd
 | store sz a x=>
  simp only[dwr] at hd
  simp only[aA] at h
  split at h
  ·rename_i e
   rw[e] at hd
   simp[aS] at hd
  ·cases h
 | mapUpdate k m ix x=>
  simp only[dwr] at hd
  simp only[aA] at h
  split at h
  ·rename_i e _
   rw[e] at hd
   simp[aS] at hd
  ·cases h
 | mop e xs=>
  simp only[dwr] at hd
  simp only[aA] at h
  have hm:∀ r,bW g i H e (avals fr xs)=some r→bW g' i' H e (avals fr xs)=some r∧r.2=H:=by
   intro r hr
   generalize avals fr xs=as at *
   unfold bW at hr ⊢
   cases e with
   | range=>simp[mwr] at hd
   | slice0=>simp[mwr] at hd
   | sliceA=>
    refine⟨hr,?_⟩
    simp only at hr
    (repeat' split at hr)<;>(try (cases hr; done))<;>(injection hr with hr; rw[← hr])
   | next=>
    refine⟨hr,?_⟩
    simp only at hr
    (repeat' split at hr)<;>(try (cases hr; done))<;>(injection hr with hr; rw[← hr])
   | entry=>
    refine⟨hr,?_⟩
    simp only at hr
    (repeat' split at hr)<;>(try (cases hr; done))<;>(injection hr with hr; rw[← hr])
   | cap=>
    refine⟨hr,?_⟩
    simp only at hr
    (repeat' split at hr)<;>(try (cases hr; done))<;>(injection hr with hr; rw[← hr])
   | stop=>cases hr
   | appN=>simp[mwr] at hd
   | strB=>simp[mwr] at hd
   | iface t=>
    refine⟨hr,?_⟩
    simp only[dV] at hr
    (repeat' split at hr)<;>(try (cases hr; done))<;>(injection hr with hr; rw[← hr])
   | s2a n=>
    refine⟨hr,?_⟩
    simp only at hr
    (repeat' split at hr)<;>(try (cases hr; done))<;>(injection hr with hr; rw[← hr])
   | sliceP n lo hi=>
    refine⟨hr,?_⟩
    obtain⟨u,H1⟩:=r
    simp only at hr
    (repeat' split at hr)<;>(try (cases hr; done))<;>exact(oJ (H2:=H) hr).2
   | nilM T=>
    refine⟨hr,?_⟩
    simp only at hr
    (repeat' split at hr)<;>(try (cases hr; done))<;>(injection hr with hr; rw[← hr])
   | markS=>
    simp only at hr
    split at hr
    ·simp[mwr,aS] at hd
    ·cases hr
   | clearM=>
    simp only at hr
    split at hr
    ·simp[mwr,aS] at hd
    ·cases hr
   | del k=>
    simp only at hr
    split at hr
    ·simp[mwr,aS] at hd
    ·cases hr
   | clear z=>
    simp only at hr
    split at hr
    ·exact⟨hr,by injection hr with hr; rw[← hr]⟩
    ·simp[mwr,aS] at hd
    ·cases hr
   | copy sz=>
    simp only at hr
    split at hr
    ·simp[mwr,aS] at hd
    ·cases hr
  obtain⟨h1,h2⟩:=hm _ h
  simp only at h2
  subst h2
  exact⟨rfl,by simp only[aA]; exact h1⟩
 | insF ks m ix x=>
  simp only[dwr] at hd
  simp only[aA] at h
  split at h
  ·rename_i e _
   rw[e] at hd
   simp[aS] at hd
  ·cases h
 | lookup z k x ix ok=>
  refine fin rfl rfl ?_
  simp only[aA] at h
  split at h
  ·split at h
   ·generalize iU H _ _ _=r at h
    cases r with
    | none=>cases h
    | some r=>cases r<;>cases ok<;>simp only[iI,oIn,pIn] at h<;>exact h.2.symm
   ·cases h
  ·cases h
 | move x=>exact fin rfl rfl (by simp only[aA,dV,oIn,pIn] at h; exact h.2.symm)
 | makeFunc fn a b=>exact fin rfl rfl (by simp only[aA,pG,oIn,pIn] at h; exact h.2.symm)
 | _=>
  refine fin rfl rfl ?_
  simp only[aA] at h
  try simp only[dV] at h
  (repeat' split at h)<;>(try (cases h; done))<;>(simp only[oIn,pIn] at h; exact h.2.symm)
def dI:List (Nat×Nat)→Heap→Heap→Prop
 | [],_,_=>True
 | q::r,H,H'=>hget H' q.1 q.2=hget H q.1 q.2∧dI r H H'
theorem dI.mem {H H':Heap}:∀ {pr:List (Nat×Nat)},dI pr H H'→∀ q∈pr,hget H' q.1 q.2=hget H q.1 q.2
 | _::_,h,q,hq=>by
  rcases List.mem_cons.1 hq with rfl | hq
  ·exact h.1
  ·exact h.2.mem q hq
theorem dI.refl (H:Heap):∀ pr:List (Nat×Nat),dI pr H H
 | []=>trivial
 | _::r=>⟨rfl,dI.refl H r⟩
inductive RT (P:Program) (k:Nat):List (IOper×List (Nat×Nat))→Fr→Heap→(Fr→Heap→Prop)→Prop
 | nil {fr:Fr} {H:Heap} {K:Fr→Heap→Prop} (h:K fr H):RT P k [] fr H K
 | op {x:IOper} {pr:List (Nat×Nat)} {xs:List (IOper×List (Nat×Nat))} {fr:Fr} {H:Heap} {K:Fr→Heap→Prop} {o:IOp} {v:AV} {H':Heap} (hg:gok fr x.guard=some true) (hx:x.act=.op o) (hs:aA H.length 0 o fr H=some (v,H'))
   (hp:dI pr H H') (h:RT P k xs (fr.put x.dst v) H' K):RT P k ((x,pr)::xs) fr H K
 | skip {x:IOper} {pr:List (Nat×Nat)} {xs:List (IOper×List (Nat×Nat))} {fr:Fr} {H:Heap} {K:Fr→Heap→Prop} (hg:gok fr x.guard=some false) (h:RT P k xs (fr.put x.dst (.sc Go.undef)) H K):RT P k ((x,pr)::xs) fr H K
 | call {x:IOper} {pr:List (Nat×Nat)} {xs:List (IOper×List (Nat×Nat))} {fr:Fr} {H:Heap} {K:Fr→Heap→Prop} {f:FuncId} {args:List Operand} {R:AV→Heap→Prop} (hk:k≤H.length) (hg:gok fr x.guard=some true) (hx:x.act=.call f args)
   (hc:aF P f (avals fr args) H R) (hp:∀ res H',R res H'→dI pr H H') (h:∀ res H',R res H'→RT P k xs (fr.put x.dst res) H' K):RT P k ((x,pr)::xs) fr H K
 | callV {x:IOper} {pr:List (Nat×Nat)} {xs:List (IOper×List (Nat×Nat))} {fr:Fr} {H:Heap} {K:Fr→Heap→Prop} {f:Cal} {g:FuncId} {fs cs:List AV} {args:List Operand} {R:AV→Heap→Prop} (hk:k≤H.length) (hg:gok fr x.guard=some true)
   (hx:x.act=.callV f args) (hf:evC P fr f=.clo (.func g) fs cs) (hc:aF P g (fs++avals fr args++cs) H R) (hp:∀ res H',R res H'→dI pr H H') (h:∀ res H',R res H'→RT P k xs (fr.put x.dst res) H' K):RT P k ((x,pr)::xs) fr H K
section
variable {P:Program} {N k:Nat} {xs:List (IOper×List (Nat×Nat))} {fr:Fr} {H:Heap} {K:Fr→Heap→Prop}
theorem RT.reg (h:RT P k xs fr H K):Reg P N k (xs.map (·.1)) fr H K:=by
 induction h with
 | nil h=>exact Reg.nil h
 | op hg hx hs _ _ ih=>exact Reg.op hg hx hs ih
 | skip hg _ ih=>exact Reg.skip hg ih
 | call hk hg hx hc _ _ ih=>exact Reg.call hk hg hx (hc.mono fun res H' hr=>ih res H' hr)
 | callV hk hg hx hf hc _ _ ih=>exact Reg.callV hk hg hx hf (hc.mono fun res H' hr=>ih res H' hr)
theorem RT.mono {K':Fr→Heap→Prop} (h:RT P k xs fr H K) (hk:∀ fr H,K fr H→K' fr H):RT P k xs fr H K':=by
 induction h with
 | nil h=>exact .nil (hk _ _ h)
 | op hg hx hs hp _ ih=>exact .op hg hx hs hp (ih hk)
 | skip hg _ ih=>exact .skip hg (ih hk)
 | call hk' hg hx hc hp _ ih=>exact .call hk' hg hx hc hp fun res H' hr=>ih res H' hr hk
 | callV hk' hg hx hf hc hp _ ih=>exact .callV hk' hg hx hf hc hp fun res H' hr=>ih res H' hr hk
theorem RT.cons {x:IOper} {pr:List (Nat×Nat)} (h:RT P k [(x,pr)] fr H fun fr' H'=>RT P k xs fr' H' K):RT P k ((x,pr)::xs) fr H K:=by
 have inv:∀ {fr:Fr} {H:Heap},RT P k [] fr H (fun fr' H'=>RT P k xs fr' H' K)→RT P k xs fr H K:=fun h=>by
  cases h with
  | nil h=>exact h
 cases h with
 | op hg hx hs hp h=>exact .op hg hx hs hp (inv h)
 | skip hg h=>exact .skip hg (inv h)
 | call hk' hg hx hc hp h=>exact .call hk' hg hx hc hp fun res H' hr=>inv (h res H' hr)
 | callV hk' hg hx hf hc hp h=>exact .callV hk' hg hx hf hc hp fun res H' hr=>inv (h res H' hr)
def Kc (K:Fr→Heap→Prop) (fr:Fr) (H:Heap):Prop:=∃ fr0:Fr,(∀ t,fr0.get t=fr.get t)∧K fr0 H
theorem Kc.of {K:Fr→Heap→Prop} {fr:Fr} {H:Heap} (h:K fr H):Kc K fr H:=⟨fr,fun _=>rfl,h⟩
theorem Kc.kc {K:Fr→Heap→Prop} {fr:Fr} {H:Heap} (h:Kc (Kc K) fr H):Kc K fr H:=by
 obtain⟨a,h1,b,h2,h3⟩:=h
 exact⟨b,fun t=>(h2 t).trans (h1 t),h3⟩
theorem jT {fr fr2:Fr} (h:∀ t,fr.get t=fr2.get t) (d:Option Nat) (v:AV):∀ t,(fr.put d v).get t=(fr2.put d v).get t:=fun t=>by rw[dT,dT,h]
theorem RT.feq (h:RT P k xs fr H K):∀ {fr2:Fr},(∀ t,fr.get t=fr2.get t)→RT P k xs fr2 H (Kc K):=by
 induction h with
 | nil h=>exact fun he=>.nil ⟨_,he,h⟩
 | @op x pr xs fr H K o v H' hg hx hs hp _ ih=>
  intro fr2 he
  obtain⟨ha,hgk⟩:=eI (x:=x) (fr:=fr) (fr2:=fr2) fun t _=>(he t).symm
  refine .op (o:=o) (by rw[hgk,hg]) hx ?_ hp (ih (jT he _ _))
  rw[eW fun y hy=>ha y (by rw[hx]; exact hy)]
  exact hs
 | @skip x pr xs fr H K hg _ ih=>
  intro fr2 he
  obtain⟨ha,hgk⟩:=eI (x:=x) (fr:=fr) (fr2:=fr2) fun t _=>(he t).symm
  exact .skip (by rw[hgk,hg]) (ih (jT he _ _))
 | @call x pr xs fr H K f args R hk hg hx hc hp _ ih=>
  intro fr2 he
  obtain⟨ha,hgk⟩:=eI (x:=x) (fr:=fr) (fr2:=fr2) fun t _=>(he t).symm
  have hav:avals fr2 args=avals fr args:=List.map_congr_left fun y hy=>ha y (by rw[hx]; exact hy)
  exact .call (f:=f) (args:=args) hk (by rw[hgk,hg]) hx (by rw[hav]; exact hc) hp fun res H' hr=>ih res H' hr (jT he _ _)
 | @callV x pr xs fr H K f g fs cs args R hk hg hx hf hc hp _ ih=>
  intro fr2 he
  obtain⟨ha,hgk⟩:=eI (x:=x) (fr:=fr) (fr2:=fr2) fun t _=>(he t).symm
  have hav:avals fr2 args=avals fr args:=List.map_congr_left fun y hy=>ha y (by rw[hx]; exact List.mem_cons_of_mem _ hy)
  exact .callV (f:=f) (args:=args) hk (by rw[hgk,hg]) hx (by unfold evC; rw[ha f.opd (by rw[hx]; exact List.mem_cons_self ..)]; exact hf) (by rw[hav]; exact hc) hp fun res H' hr=>ih res H' hr (jT he _ _)
def sS:IOp→Bool
 | .alloc _=>false
 | .box _=>false
 | .buildSlice _ _ _ _=>false
 | .makeMap=>false
 | .makeSlice _ _ _ _=>false
 | .store _ _ _=>false
 | .mapUpdate _ _ _ _=>false
 | .insF _ _ _ _=>false
 | .append _ _ _ _=>false
 | .mop e _=>sY e
 | _=>true
theorem nY {o:IOp} (h:sS o=true) (g i:Nat) (fr:Fr):dwr g i fr o=[]:=by cases o<;>first | rfl | exact oA h _ _ _ | cases h
def s9 (x y:IOper):Bool:=gJ x.dst y.tmps && (gJ y.dst x.tmps && f8 x.dst y.dst)
theorem mR {d:Option Nat} {l:List Nat} (h:gJ d l=true) (fr:Fr) (v:AV):∀ t∈l,(fr.put d v).get t=fr.get t:=fun t ht=>by
 rw[dT]
 cases d with
 | none=>simp
 | some d=>
  have:=List.all_eq_true.1 h t ht
  rw[if_neg]
  intro e
  injection e with e
  subst e
  simp at this
theorem y1 {o:IOp} {fr fr2:Fr} (ho:∀ x∈o.opds,ev fr2 x=ev fr x):drd fr2 o=drd fr o:=by
 cases o with
 | xop e xs=>simp only[drd,show avals fr2 xs=avals fr xs from List.map_congr_left ho]
 | mop e xs=>simp only[drd,show avals fr2 xs=avals fr xs from List.map_congr_left ho]
 | _=>simp only[drd]<;>simp only[IOp.opds,List.mem_cons,List.not_mem_nil,or_false,forall_eq_or_imp,forall_eq] at ho<;>simp[ho]
def rJ (x:IOper) (fr:Fr) (H:Heap) (v:AV) (B:List (Nat×Nat)):Prop:=
 (gok fr x.guard=some true∧∃ o,x.act=.op o∧sS o=true∧aA H.length 0 o fr H=some (v,H)∧∀ q∈drd fr o,q∈B)∨(gok fr x.guard=some false∧v=.sc Go.undef)
theorem rJ.at {x:IOper} {fr fr2:Fr} {H H2:Heap} {v:AV} {B:List (Nat×Nat)} (h:rJ x fr H v B) (hf:∀ t∈x.tmps,fr2.get t=fr.get t) (hB:∀ q∈B,hget H2 q.1 q.2=hget H q.1 q.2):rJ x fr2 H2 v B:=by
 obtain⟨ha,hgk⟩:=eI (x:=x) (fr:=fr) (fr2:=fr2) hf
 rcases h with⟨h1,o,h2,h3,h4,h5⟩ | ⟨h1,h2⟩
 ·have ho:∀ y∈o.opds,ev fr2 y=ev fr y:=fun y hy=>ha y (by rw[h2]; exact hy)
  refine .inl ⟨by rw[hgk,h1],o,h2,h3,?_,by rw[y1 ho]; exact h5⟩
  have hw:=nY h3
  obtain⟨H2',q1,_⟩:=m5 (H2:=H2) h4 (fun hm=>by rw[hw] at hm; cases hm) (fun hm=>by rw[hw] at hm; cases hm) fun p hp=>hB p (h5 p hp)
  rw[eW ho]
  have:=(qS (g':=H2.length) (i':=0) (hw _ _ _) q1).2
  exact this
 ·exact .inr ⟨by rw[hgk,h1],h2⟩
theorem rJ.rt {x:IOper} {px:List (Nat×Nat)} {v:AV} {B:List (Nat×Nat)} (h:rJ x fr H v B) (hr:RT P k xs (fr.put x.dst v) H K):RT P k ((x,px)::xs) fr H K:=by
 rcases h with⟨h1,o,h2,h3,h4,h5⟩ | ⟨h1,rfl⟩
 ·exact .op h1 h2 h4 (dI.refl _ _) hr
 ·exact .skip h1 hr
theorem vN {fr:Fr} {d e:Option Nat} (h:f8 d e=true) (v u:AV):∀ t,((fr.put d v).put e u).get t=((fr.put e u).put d v).get t:=fun t=>by
 rw[dT,dT,dT,dT]
 by_cases h1:e=some t<;>by_cases h2:d=some t
 ·subst h1; subst h2; simp[f8] at h
 ·rw[if_pos h1,if_neg h2,if_pos h1]
 ·rw[if_neg h1,if_pos h2,if_pos h2]
 ·rw[if_neg h1,if_neg h2,if_neg h2,if_neg h1]
theorem RT.insert {x:IOper} {px B:List (Nat×Nat)} {v:AV} {l2:List (IOper×List (Nat×Nat))}:∀(l1:List (IOper×List (Nat×Nat))) {fr:Fr} {H:Heap} {K:Fr→Heap→Prop},RT P k (l1++l2) (fr.put x.dst v) H K→rJ x fr H v B →
  (∀ a∈l1,s9 x a.1=true∧∀ q∈B,q∈a.2)→RT P k (l1++(x,px)::l2) fr H (Kc K)
 | [],fr,H,K,h,ht,_=>ht.rt (h.mono fun _ _=>Kc.of)
 | (y,py)::l1,fr,H,K,h,ht,hl=>by
  obtain⟨hap,hB⟩:=hl _ (List.mem_cons_self ..)
  simp only[s9,Bool.and_eq_true] at hap
  obtain⟨e1,e2,e3⟩:=hap
  have hl':=fun a ha=>hl a (List.mem_cons_of_mem _ ha)
  obtain⟨ha,hgk⟩:=eI (x:=y) (fr:=fr) (fr2:=fr.put x.dst v) (mR e1 fr v)
  have next:∀(u:AV) (H':Heap),dI py H H'→RT P k (l1++l2) ((fr.put x.dst v).put y.dst u) H' K→RT P k (l1++(x,px)::l2) (fr.put y.dst u) H' (Kc K):=fun u H' hp h=>by
   have h1:=h.feq (vN e3 v u)
   have h2:=RT.insert (px:=px) (B:=B) l1 h1 (ht.at (mR e2 fr u) fun q hq=>hp.mem q (hB q hq)) hl'
   exact h2.mono fun _ _=>Kc.kc
  cases h with
  | op hg hx hs hp h=>
   refine .op (by rw[← hgk,hg]) hx ?_ hp (next _ _ hp h)
   rw[← eW fun y hy=>ha y (by rw[hx]; exact hy)]
   exact hs
  | skip hg h=>exact .skip (by rw[← hgk,hg]) (next _ _ (dI.refl _ _) h)
  | @call _ _ _ _ _ _ f args R hk hg hx hc hp h=>
   have hav:avals (fr.put x.dst v) args=avals fr args:=List.map_congr_left fun y hy=>ha y (by rw[hx]; exact hy)
   exact .call hk (by rw[← hgk,hg]) hx (by rw[← hav]; exact hc) hp fun res H' hr=>next _ _ (hp res H' hr) (h res H' hr)
  | @callV _ _ _ _ _ _ f g fs cs args R hk hg hx hf hc hp h=>
   have hav:avals (fr.put x.dst v) args=avals fr args:=List.map_congr_left fun y hy=>ha y (by rw[hx]; exact List.mem_cons_of_mem _ hy)
   exact .callV hk (by rw[← hgk,hg]) hx (by unfold evC; rw[← ha f.opd (by rw[hx]; exact List.mem_cons_self ..)]; exact hf) (by rw[← hav]; exact hc) hp fun res H' hr=>next _ _ (hp res H' hr) (h res H' hr)
end
theorem bG.pull {I:Nat→Nat→Prop} {rem l:List Nat} (h:bG I rem l):∀(A:List Nat) (i:Nat) (B:List Nat),rem=A++i::B→∃ l1 l2,l=l1++i::l2∧bG I (A++B) (l1++l2)∧∀ j∈l1,j∈A∨(j∈B∧I i j):=by
 induction h with
 | nil=>intro A i B e; simp at e
 | cons A0 i0 B0 l hA hs ih=>
  intro A i B e
  rcases List.append_eq_append_iff.1 e with⟨A2,e1,e2⟩ | ⟨A2,e1,e2⟩
  ·cases A2 with
   | nil=>
    simp only[List.append_nil] at e1
    subst e1
    simp only[List.nil_append,List.cons.injEq] at e2
    obtain⟨rfl,rfl⟩:=e2
    exact⟨[],l,rfl,hs,fun j hj=>by cases hj⟩
   | cons x A2=>
    simp only[List.cons_append,List.cons.injEq] at e2
    obtain⟨rfl,rfl⟩:=e2
    subst e1
    obtain⟨l1,l2,q1,q2,q3⟩:=ih (A0++A2) i B (by simp)
    refine⟨i0::l1,l2,by rw[q1]; rfl,?_,fun j hj=>?_⟩
    ·have:=bG.cons A0 i0 (A2++B) _ hA (by rw[← List.append_assoc]; exact q2)
     simpa using this
    ·rcases List.mem_cons.1 hj with rfl | hj
     ·exact .inl (by simp)
     ·rcases q3 j hj with h | h
      ·exact .inl (by simp at h ⊢; rcases h with h | h<;>simp[h])
      ·exact .inr h
  ·cases A2 with
   | nil=>
    simp only[List.append_nil] at e1
    subst e1
    simp only[List.nil_append,List.cons.injEq] at e2
    obtain⟨rfl,rfl⟩:=e2
    exact⟨[],l,rfl,hs,fun j hj=>by cases hj⟩
   | cons x A2=>
    simp only[List.cons_append,List.cons.injEq] at e2
    obtain⟨rfl,rfl⟩:=e2
    subst e1
    obtain⟨l1,l2,q1,q2,q3⟩:=ih A i (A2++B0) (by simp)
    refine⟨i0::l1,l2,by rw[q1]; rfl,?_,fun j hj=>?_⟩
    ·have:=bG.cons (A++A2) i0 B0 _ (fun a ha=>hA a (by simp at ha ⊢; rcases ha with h | h<;>simp[h])) (by rw[List.append_assoc]; exact q2)
     simpa using this
    ·rcases List.mem_cons.1 hj with rfl | hj
     ·exact .inr ⟨by simp,hA i (by simp)⟩
     ·rcases q3 j hj with h | ⟨h,h'⟩
      ·exact .inl h
      ·exact .inr ⟨by simp at h ⊢; rcases h with h | h<;>simp[h],h'⟩
def kR (acc:List Nat):List Nat→Nat
 | []=>0
 | k::l=>(2 ^ k ||| acc.getD k 0) ||| kR acc l
def cgo:List Nat→List (List Nat)→List Nat
 | acc,[]=>acc
 | acc,l::r=>cgo (acc++[kR acc l]) r
def clo (af:List (List Nat)):List Nat:=cgo [] af
def bef (cl:List Nat) (i j:Nat):Bool:=(cl.getD j 0).testBit i
theorem mX {F:Nat→List Nat} {acc:List Nat} (ha:∀ j a,(acc.getD j 0).testBit a=true→Bef F a j):∀ {l:List Nat} {b:Nat},(∀ k∈l,k∈F b)→∀ {a:Nat},(kR acc l).testBit a=true→Bef F a b
 | [],_,_,a,h=>by simp[kR] at h
 | k::l,b,hl,a,h=>by
  have hk:=hl k (List.mem_cons_self ..)
  simp only[kR,Nat.testBit_or,Bool.or_eq_true,Nat.testBit_two_pow,decide_eq_true_eq] at h
  rcases h with(rfl | h) | h
  ·exact .base hk
  ·exact .step hk (ha k a h)
  ·exact mX ha (fun q hq=>hl q (List.mem_cons_of_mem _ hq)) h
theorem rM {F:Nat→List Nat}:∀(r:List (List Nat)) (acc:List Nat),(∀(j:Nat) l,r[j]?=some l→F (acc.length+j)=l)→(∀ j a,(acc.getD j 0).testBit a=true→Bef F a j)→∀ j a,((cgo acc r).getD j 0).testBit a=true→Bef F a j
 | [],_,_,ha=>ha
 | l::r,acc,hF,ha=>by
  refine rM r (acc++[kR acc l]) (fun j q hq=>?_) fun j a h=>?_
  ·rw[List.length_append,List.length_singleton,Nat.add_assoc,Nat.add_comm 1 j]
   exact hF (j+1) q (by simpa using hq)
  ·by_cases h1:j < acc.length
   ·refine ha j a ?_
    simpa[List.getD,List.getElem?_append,h1] using h
   ·by_cases h2:j=acc.length
    ·subst h2
     have h3:(kR acc l).testBit a=true:=by simpa[List.getD,List.getElem?_append] using h
     refine mX ha (fun k hk=>?_) h3
     have:=hF 0 l rfl
     rw[Nat.add_zero] at this
     rw[this]
     exact hk
    ·have h3:(acc++[kR acc l])[j]?=none:=List.getElem?_eq_none (by simp; omega)
     simp[List.getD,h3] at h
theorem wX {F:Nat→List Nat} {af:List (List Nat)} (hF:∀(j:Nat) l,af[j]?=some l→F j=l) {i j:Nat} (h:bef (clo af) i j=true):Bef F i j:=
 rM af [] (fun j l hl=>by rw[List.length_nil,Nat.zero_add]; exact hF j l hl) (fun j a h=>by simp at h) j i h
def dA (cl:List Nat):List (Nat×List (Nat×Nat))→Nat→List (Nat×Nat)
 | [],_=>[]
 | (i,B)::p,j=>match bef cl i j with
  | true=>dA cl p j
  | false=>B++dA cl p j
def oR (i:Nat):List Nat→Option (List Nat×List Nat)
 | []=>none
 | a::r=>match Nat.beq a i with
  | true=>some ([],r)
  | false=>match oR i r with
   | some (A,B)=>some (a::A,B)
   | none=>none
theorem k8 {i:Nat}:∀ {rem A B:List Nat},oR i rem=some (A,B)→rem=A++i::B
 | [],A,B,h=>by cases h
 | a::r,A,B,h=>by
  simp only[oR] at h
  split at h
  ·rename_i e
   have:=Nat.eq_of_beq_eq_true e
   subst this
   injection h with h
   injection h with h1 h2
   subst h1; subst h2
   rfl
  ·split at h
   ·rename_i e
    injection h with h
    injection h with h1 h2
    subst h1; subst h2
    rw[k8 e]
    rfl
   ·cases h
def sL (x:IOper):Bool:=
 match x.act with
 | .op o=>sS o
 | _=>false
def kC (zs:List IOper) (x:IOper) (j:Nat):Bool:=
 match zs[j]? with
 | some y=>s9 x y
 | none=>false
def okP (cl:List Nat) (zs:List IOper):List (Bool×Nat)→List Nat→Bool
 | [],rem=>rem.isEmpty
 | (true,i)::pl,rem=>match oR i rem,zs[i]? with
  | some (A,B),some x=>sL x && (A.all (fun j=>!bef cl i j && kC zs x j) && (B.all (fun j=>bef cl i j || kC zs x j) && okP cl zs pl (A++B)))
  | _,_=>false
 | (false,i)::pl,rem=>match rem with
  | a::B=>Nat.beq a i && (B.all (fun j=>bef cl i j) && okP cl zs pl B)
  | []=>false
def rdX (fr:Fr) (x:IOper):List (Nat×Nat):=
 match x.act with
 | .op o=>drd fr o
 | _=>[]
inductive kT:List (IOper×List (Nat×Nat))→List (IOper×List (Nat×Nat))→Prop
 | nil:kT [] []
 | cons {a b:IOper×List (Nat×Nat)} {l m:List (IOper×List (Nat×Nat))} (h:a.1=b.1∧∀ q∈a.2,q∈b.2) (h':kT l m):kT (a::l) (b::m)
def DM (i:Nat):List (Nat×Nat)→List (Nat×List (Nat×Nat))→List (Nat×List (Nat×Nat))
 | [],pend=>pend
 | q::B,pend=>(i,q::B)::pend
def LP (P:Program) (k:Nat) (cl:List Nat) (zs:List IOper):List (Bool×Nat)→List (Nat×List (Nat×Nat))→Fr→Heap→(Fr→Heap→Prop)→Prop
 | [],_,fr,H,K=>K fr H
 | (true,i)::pl,pend,fr,H,K=>∃ x B,zs[i]?=some x∧(∀ q∈rdX fr x,q∈B)∧RT P k [(x,[])] fr H fun fr' H'=>LP P k cl zs pl (DM i B pend) fr' H' K
 | (false,i)::pl,pend,fr,H,K=>∃ x,zs[i]?=some x∧RT P k [(x,dA cl pend i)] fr H fun fr' H'=>LP P k cl zs pl pend fr' H' K
def mD (cl:List Nat) (zs:List IOper) (pend:List (Nat×List (Nat×Nat))) (j:Nat):IOper×List (Nat×Nat):=(zs.getD j ⟨none,none,.call 0 []⟩,dA cl pend j)
theorem iW {cl zs pend j x} (h:zs[j]?=some x):mD cl zs pend j=(x,dA cl pend j):=by simp[mD,List.getD,h]
theorem LP.sound {P:Program} {k:Nat} {cl:List Nat} {zs:List IOper}:∀(pl:List (Bool×Nat)) (rem l:List Nat) (pend:List (Nat×List (Nat×Nat))) {fr:Fr} {H:Heap} {K:Fr→Heap→Prop},okP cl zs pl rem=true→bG (fun a b=>¬ bef cl a b=true) rem l →
  LP P k cl zs pl pend fr H K→RT P k (l.map (mD cl zs pend)) fr H (Kc K)
 | [],rem,l,pend,fr,H,K,hok,hs,h=>by
  have e:rem=[]:=by cases rem with | nil=>rfl | cons=>cases hok
  rw[hs.nil_inv e]
  exact .nil (.of h)
 | (false,i)::pl,rem,l,pend,fr,H,K,hok,hs,h=>by
  cases rem with
  | nil=>cases hok
  | cons a B=>
   simp only[okP,Bool.and_eq_true] at hok
   obtain⟨e,hB,hok⟩:=hok
   have:=Nat.eq_of_beq_eq_true e
   subst this
   obtain⟨l1,l2,q1,q2,q3⟩:=hs.pull [] a B rfl
   have e1:l1=[]:=by
    cases l1 with
    | nil=>rfl
    | cons j l1=>
     rcases q3 j (List.mem_cons_self ..) with h | ⟨h,h'⟩
     ·cases h
     ·exact absurd (List.all_eq_true.1 hB j h) h'
   subst e1
   subst q1
   obtain⟨x,hx,h⟩:=h
   rw[List.nil_append,List.map_cons,iW hx]
   exact RT.cons (h.mono fun fr' H' h=>LP.sound pl B l2 pend hok q2 h)
 | (true,i)::pl,rem,l,pend,fr,H,K,hok,hs,h=>by
  simp only[okP] at hok
  split at hok
  ·rename_i A B x e1 e2
   simp only[Bool.and_eq_true] at hok
   obtain⟨hq,hA,hB,hok⟩:=hok
   have e:=k8 e1
   obtain⟨l1,l2,q1,q2,q3⟩:=hs.pull A i B e
   obtain⟨x',C,hx,hC,h⟩:=h
   rw[e2] at hx
   injection hx with hx
   subst hx
   subst q1
   rw[List.map_append,List.map_cons,iW e2]
   have hap:∀ j∈l1,¬ bef cl i j=true∧kC zs x j=true:=fun j hj=>by
    rcases q3 j hj with h | ⟨h,h'⟩
    ·have:=List.all_eq_true.1 hA j h
     simp only[Bool.and_eq_true,Bool.not_eq_true'] at this
     exact⟨by rw[this.1]; simp,this.2⟩
    ·have:=List.all_eq_true.1 hB j h
     simp only[Bool.or_eq_true] at this
     exact⟨h',this.resolve_left h'⟩
   have key:∀(pend':List (Nat×List (Nat×Nat))),(∀ j,∀ q∈dA cl pend j,q∈dA cl pend' j)→(∀ j,¬ bef cl i j=true→∀ q∈C,q∈dA cl pend' j)→∀(v:AV),rJ x fr H v C→LP P k cl zs pl pend' (fr.put x.dst v) H K →
     RT P k (l1.map (mD cl zs pend)++(x,dA cl pend i)::l2.map (mD cl zs pend)) fr H (Kc K):=by
    intro pend' h1 h2 v ht h
    have hrt:=LP.sound pl (A++B) (l1++l2) pend' hok q2 h
    rw[List.map_append] at hrt
    have hins:=RT.insert (px:=dA cl pend i) (B:=C) (l1.map (mD cl zs pend')) hrt ht fun a ha=>by
     obtain⟨j,hj,rfl⟩:=List.mem_map.1 ha
     obtain⟨p1,p2⟩:=hap j hj
     unfold kC at p2
     split at p2
     ·rename_i y hy
      rw[iW hy]
      exact⟨p2,h2 j p1⟩
     ·cases p2
    have hdrop:∀(L L':List (IOper×List (Nat×Nat))),kT L' L→∀ {fr:Fr} {H:Heap} {K:Fr→Heap→Prop},RT P k L fr H K→RT P k L' fr H K:=by
     intro L L' hf
     induction hf with
     | nil=>exact fun h=>h
     | @cons a b L' L hab _ ih=>
      obtain⟨a1,a2⟩:=a
      obtain⟨b1,b2⟩:=b
      obtain⟨rfl,hsub⟩:=hab
      have kk:∀ {H H':Heap},dI b2 H H'→dI a2 H H':=fun {H H'} h=>by
       have hm:=h.mem
       clear h
       induction a2 with
       | nil=>trivial
       | cons q r ihr=>exact⟨hm q (hsub q (List.mem_cons_self ..)),ihr fun p hp=>hsub p (List.mem_cons_of_mem _ hp)⟩
      intro fr H K h
      cases h with
      | op hg hx hs hp h=>exact .op hg hx hs (kk hp) (ih h)
      | skip hg h=>exact .skip hg (ih h)
      | call hk hg hx hc hp h=>exact .call hk hg hx hc (fun res H' hr=>kk (hp res H' hr)) fun res H' hr=>ih (h res H' hr)
      | callV hk hg hx hf hc hp h=>exact .callV hk hg hx hf hc (fun res H' hr=>kk (hp res H' hr)) fun res H' hr=>ih (h res H' hr)
    have fm:∀ L:List Nat,kT (L.map (mD cl zs pend)) (L.map (mD cl zs pend')):=fun L=>by
     induction L with
     | nil=>exact .nil
     | cons j L ih=>exact .cons ⟨rfl,h1 j⟩ ih
    have fa:∀ {a b c d:List (IOper×List (Nat×Nat))},kT a b→kT c d→kT (a++c) (b++d):=fun {a b c d} h1 h2=>by
     induction h1 with
     | nil=>exact h2
     | cons h _ ih=>exact .cons h ih
    exact(hdrop _ _ (fa (fm l1) (.cons ⟨rfl,fun q hq=>hq⟩ (fm l2))) hins).mono fun _ _=>Kc.kc
   have fin:∀ {fr':Fr} {H':Heap} {K':Fr→Heap→Prop},RT P k [] fr' H' K'→K' fr' H':=fun h=>by
    cases h with
    | nil h=>exact h
   have mk:∀(v:AV),rJ x fr H v C→LP P k cl zs pl (DM i C pend) (fr.put x.dst v) H K→RT P k (l1.map (mD cl zs pend)++(x,dA cl pend i)::l2.map (mD cl zs pend)) fr H (Kc K):=by
    intro v ht h
    cases C with
    | nil=>exact key pend (fun _ _ h=>h) (fun _ _ q hq=>by cases hq) v ht h
    | cons c C=>
     refine key ((i,c::C)::pend) (fun j q hq=>?_) (fun j hj q hq=>?_) v ht h
     ·simp only[dA]
      split
      ·exact hq
      ·exact List.mem_append_right _ hq
     ·simp only[dA]
      split
      ·rename_i hb; exact absurd hb hj
      ·exact List.mem_append_left _ hq
   unfold sL at hq
   cases h with
   | @op _ _ _ _ _ _ o v H' hg hxa hst hp h=>
    rw[hxa] at hq
    obtain⟨rfl,hst'⟩:=qS (g':=H.length) (i':=0) (nY hq _ _ _) hst
    refine mk v (.inl ⟨hg,o,hxa,hq,hst',fun q hq'=>hC q ?_⟩) (fin h)
    unfold rdX
    rw[hxa]
    exact hq'
   | skip hg h=>exact mk _ (.inr ⟨hg,rfl⟩) (fin h)
   | call hk hg hxa=>rw[hxa] at hq; cases hq
   | callV hk hg hxa=>rw[hxa] at hq; cases hq
  ·cases hok
theorem AWP.lin {P:Program} {N k:Nat} {fr:Fr} {H:Heap} {Q:Exit→Fr→Heap→Prop} {zs:List IOper} {af:List (List Nat)} (pl:List (Bool×Nat)) (hp:P.follows .mixedOrders=true)
  (hlow:m7 0 af=true) (hok:okP (clo af) zs pl (List.range zs.length)=true) (h:LP P k (clo af) zs pl [] fr H (Q .normal)):AWP P N k (.draw zs af) Q fr H:=by
 intro c0 hc cx M J tmps w hcx hF hH hM
 cases c0 with
 | region id ops draw=>
  simp only[aY] at hc
  split at hc
  ·rename_i us hus
   cases draw with
   | false=>cases hc
   | true=>
    injection hc with hc
    injection hc with hc1' hc2'
    subst hc1'; subst hc2'
    refine wpIn_region_draw fun t=>eB hcx ?_
    rw[hp]
    have hsch:Region.schedule true ops t=Region.linearise .any ops t:=by simp[Region.schedule]
    rw[hsch]
    obtain⟨hlen,hgx⟩:=eM _ _ hus
    have hsz:us.length=ops.size:=by rw[hlen]; simp
    have haf:∀ j l,(ops.toList.map cI)[j]?=some l→aV ops j=l:=by
     intro j l hj
     rw[List.getElem?_map,Array.getElem?_toList] at hj
     unfold aV
     cases ho:ops[j]? with
     | none=>rw[ho] at hj; cases hj
     | some o=>rw[ho] at hj; simpa using hj
    have hs:=cQ ops (fun a b=>¬ bef (clo (ops.toList.map cI)) a b=true) (fun j kk hk=>by
     have hl:(ops.toList.map cI)[j]?=some (aV ops j):=by
      rw[List.getElem?_map,Array.getElem?_toList]
      unfold aV at hk ⊢
      cases ho:ops[j]? with
      | none=>rw[ho] at hk; cases hk
      | some o=>rfl
     have:=eL _ 0 hlow j _ hl kk hk
     omega) (fun a b hab hb=>by
     by_cases h:bef (clo (ops.toList.map cI)) a b=true
     ·exact .inl (wX haf h)
     ·exact .inr h) t
    rw[hsz] at hok
    have hrt:=LP.sound pl _ _ [] hok hs h
    have hmem:∀(all l:List Nat),bG (fun a b=>¬ bef (clo (ops.toList.map cI)) a b=true) all l→∀ j∈l,j∈all:=by
     intro all l hs
     induction hs with
     | nil=>exact fun j hj=>hj
     | cons A i B l _ _ ih=>
      intro j hj
      rcases List.mem_cons.1 hj with rfl | hj
      ·simp
      ·have:=ih j hj
       simp at this ⊢
       rcases this with h | h<;>simp[h]
    have hmat:∀ l:List Nat,(∀ j∈l,j < ops.size)→dJ P N ops l ((l.map (mD (clo (ops.toList.map cI)) us [])).map (·.1)):=by
     intro l
     induction l with
     | nil=>exact fun _=>trivial
     | cons j l ih=>
      intro hl
      have hj:=hl j (List.mem_cons_self ..)
      have ho:ops[j]?=some ops[j]:=Array.getElem?_eq_getElem hj
      obtain⟨x,e1,e2⟩:=hgx j ops[j] (by rw[Array.getElem?_toList]; exact ho)
      refine⟨⟨ops[j],ho,?_⟩,ih fun q hq=>hl q (List.mem_cons_of_mem _ hq)⟩
      rw[iW e1]
      exact e2
    refine hrt.reg (N:=N) ops _ (hmat _ fun j hj=>List.mem_range.1 (hmem _ _ hs j hj)) M J tmps { w with drawn:=w.drawn+1 } hF hH hM _ fun a' w' hpost=>⟨rfl,?_⟩
    obtain⟨M2,J2,fr2,H2,q1,q2,q3,fr3,q4,q5⟩:=hpost
    exact⟨M2,J2,fr3,H2,⟨q1.m,q1.j,q1.hrep,q1.mrep,q1.os,(by first | exact q1.tape | exact⟨q1.tape.1,Nat.le_trans (Nat.le_succ _) q1.tape.2⟩),q1.output,q1.size,q1.frame,q1.fresh,q1.live,q1.bk⟩,⟨q2.1,fun t=>by rw[q4]; exact q2.2 t⟩,q3,q5⟩
  ·cases hc
 | _=>simp only[aY] at hc; (try split at hc)<;>(try cases hc)<;>(try simp at hc)
end Go.Av
namespace Go.Av
section
variable {P:Program} {k:Nat} {xs:List (IOper×List (Nat×Nat))} {pr:List (Nat×Nat)} {fr:Fr} {H:Heap} {K:Fr→Heap→Prop} {d:Nat} {gd:Option (Nat×Bool)}
theorem RT.o {o:IOp} {v:AV} {H':Heap} (hg:gok fr gd=some true) (hs:aA H.length 0 o fr H=some (v,H')) (hp:dI pr H H') (h:RT P k xs ((d,v)::fr) H' K):RT P k ((⟨some d,gd,.op o⟩,pr)::xs) fr H K:=.op (x:=⟨some d,gd,.op o⟩) hg rfl hs hp h
theorem RT.on {o:IOp} {v:AV} {H':Heap} (hg:gok fr gd=some true) (hs:aA H.length 0 o fr H=some (v,H')) (hp:dI pr H H') (h:RT P k xs fr H' K):RT P k ((⟨none,gd,.op o⟩,pr)::xs) fr H K:=.op (x:=⟨none,gd,.op o⟩) hg rfl hs hp h
theorem RT.s {a:IAct} (hg:gok fr gd=some false) (h:RT P k xs ((d,.sc Go.undef)::fr) H K):RT P k ((⟨some d,gd,a⟩,pr)::xs) fr H K:=.skip (x:=⟨some d,gd,a⟩) hg h
theorem RT.p {f:FuncId} {args:List Operand} {v:AV} (hk:k≤H.length) (hg:gok fr gd=some true) (hp:aB P f (avals fr args) v) (h:RT P k xs ((d,v)::fr) H K):RT P k ((⟨some d,gd,.call f args⟩,pr)::xs) fr H K:=
 .call (x:=⟨some d,gd,.call f args⟩) (R:=fun res H'=>res=v∧H'=H) hk hg rfl (aF.ofPure hp H ⟨rfl,rfl⟩) (fun _ _ h=>by rw[h.2]; exact dI.refl _ _) fun _ _ hr=>by rw[hr.1,hr.2]; exact h
theorem RT.cv {f:Cal} {g:FuncId} {fs cs:List AV} {args:List Operand} {R:AV→Heap→Prop} (hk:k≤H.length) (hg:gok fr gd=some true) (hf:evC P fr f=.clo (.func g) fs cs) (hc:aF P g (fs++avals fr args++cs) H R)
  (h:∀ res H',R res H'→dI pr H H'∧RT P k xs ((d,res)::fr) H' K):RT P k ((⟨some d,gd,.callV f args⟩,pr)::xs) fr H K:=
 .callV (x:=⟨some d,gd,.callV f args⟩) hk hg rfl hf hc (fun res H' hr=>(h res H' hr).1) fun res H' hr=>(h res H' hr).2
theorem LP.z {cl:List Nat} {zs:List IOper} {pend:List (Nat×List (Nat×Nat))} (h:K fr H):LP P k cl zs [] pend fr H K:=h
theorem LP.t0 {cl:List Nat} {zs:List IOper} {pl:List (Bool×Nat)} {i:Nat} {x:IOper} {pend:List (Nat×List (Nat×Nat))} (h:RT P k [(x,[])] fr H fun fr' H'=>LP P k cl zs pl pend fr' H' K) (hx:zs[i]?=some x:=by rfl) (hB:rdX fr x=[]:=by rfl):LP P k cl zs ((true,i)::pl) pend fr H K:=
 ⟨x,[],hx,fun q hq=>by rw[hB] at hq; exact hq,h⟩
theorem LP.t1 {cl:List Nat} {zs:List IOper} {pl:List (Bool×Nat)} {i g b:Nat} {x:IOper} {pend:List (Nat×List (Nat×Nat))} (h:RT P k [(x,[])] fr H fun fr' H'=>LP P k cl zs pl ((i,[(g,b)])::pend) fr' H' K) (hx:zs[i]?=some x:=by rfl) (hB:rdX fr x=[(g,b)]:=by rfl):LP P k cl zs ((true,i)::pl) pend fr H K:=
 ⟨x,[(g,b)],hx,fun q hq=>by rw[hB] at hq; exact hq,h⟩
theorem LP.t2 {cl:List Nat} {zs:List IOper} {pl:List (Bool×Nat)} {i g b g' b':Nat} {x:IOper} {pend:List (Nat×List (Nat×Nat))} (h:RT P k [(x,[])] fr H fun fr' H'=>LP P k cl zs pl ((i,[(g,b),(g',b')])::pend) fr' H' K) (hx:zs[i]?=some x:=by rfl) (hB:rdX fr x=[(g,b),(g',b')]:=by rfl):LP P k cl zs ((true,i)::pl) pend fr H K:=
 ⟨x,[(g,b),(g',b')],hx,fun q hq=>by rw[hB] at hq; exact hq,h⟩
theorem LP.c {cl:List Nat} {zs:List IOper} {pl:List (Bool×Nat)} {i:Nat} {x:IOper} {pend:List (Nat×List (Nat×Nat))} (h:RT P k [(x,dA cl pend i)] fr H fun fr' H'=>LP P k cl zs pl pend fr' H' K) (hx:zs[i]?=some x:=by rfl):LP P k cl zs ((false,i)::pl) pend fr H K:=⟨x,hx,h⟩
end
end Go.Av
namespace Go.Av
structure C0 (p:Prop):Prop where
 out:p
theorem bA {G G':Prop} (h:G') (t:C0 G'→G:=by intro hw9; (repeat (first | refine wr13 ?_ | refine wd13 ?_ | refine wr14 ?_ | refine wv1 ?_ | refine wv2 ?_ | refine wv3 ?_ | refine wv4 ?_ | refine wv5 ?_ | refine wv6 ?_ | refine wv7 ?_ | refine wv8 ?_ | refine wv9 ?_ | refine wv10 ?_ | refine wr1 ?_ | refine wr2 ?_ | refine wr3 ?_ | refine wr4 ?_ | refine Reg.nil ?_ | refine wd1 ?_ | refine wd2 ?_ | refine wd3 ?_ | refine wd4 ?_ | refine AWP.seq ?_ | refine AWP.region ?_ | refine AWP.dk qR ?_ | refine AWP.condT rfl ?_ | refine AWP.condF rfl ?_ | refine AWP.skip ?_ | refine AWP.ret ?_ | refine AWP.exit ?_ | refine AWP.block ?_ | refine wr5 ?_ | refine wr6 ?_ | refine wr7 ?_ | refine wr8 ?_ | refine wr9 ?_ | refine wr10 ?_ | refine wd5 ?_ | refine wd6 ?_ | refine wd7 ?_ | refine wd8 ?_ | refine wd9 ?_ | refine wd10 ?_ | refine wr11 ?_ | refine wr12 ?_ | refine wd11 ?_ | refine wd12 ?_ )); exact hw9.out):G:=t ⟨h⟩
theorem C1 {G G':Prop} (h:G') (t:C0 G'→G:=by intro hw9; (repeat (first | refine wr13 ?_ | refine wd13 ?_ | refine wr14 ?_ | refine wv1 ?_ | refine wv2 ?_ | refine wv3 ?_ | refine wv4 ?_ | refine wv5 ?_ | refine wv6 ?_ | refine wv7 ?_ | refine wv8 ?_ | refine wv9 ?_ | refine wv10 ?_ | refine wr1 ?_ | refine wr2 ?_ | refine wr3 ?_ | refine wr4 ?_ | refine Reg.nil ?_ | refine wd1 ?_ | refine wd2 ?_ | refine wd3 ?_ | refine wd4 ?_ | refine wr5 ?_ | refine wr6 ?_ | refine wr7 ?_ | refine wr8 ?_ | refine wr9 ?_ | refine wr10 ?_ | refine wd5 ?_ | refine wd6 ?_ | refine wd7 ?_ | refine wd8 ?_ | refine wd9 ?_ | refine wd10 ?_ | refine wr11 ?_ | refine wr12 ?_ | refine wd11 ?_ | refine wd12 ?_ )); exact hw9.out):G:=t ⟨h⟩
theorem tocW {p:Prop} (h:p:=by(all_goals (repeat' (first | exact aW.nil | exact aM.nil | exact bQ.nil | exact ToL.nil | exact ToR.nil | refine aW.cons ?_ ?_ | refine aM.cons ?_ ?_ | refine fY ?_ ?_ | exact To.undef _ | exact To.sc _ | exact To.hslL rfl rfl | exact To.asl _ _ _ _ _ _ rfl | exact To.ptrO rfl rfl rfl | exact To.mrefO rfl | exact To.nil rfl rfl rfl | exact wt1 | exact To.nilL | refine To.int ?_ | refine To.bool ?_ | refine To.hslL rfl ?_ | refine wt2 rfl ?_ ?_ ?_ | refine To.tupL ?_ | refine To.aggL ?_ | refine To.cptrL ?_ | refine To.fzp rfl rfl rfl ?_ | refine To.fzm rfl rfl ?_ | refine To.cloL ?_ ?_ | refine wt3 ?_ | refine wt4 ?_ | exact wt5 | refine wt6 ?_ | refine ToB.one ?_ | exact wt7 | ((with_reducible apply ToL.consE); case e9=>rfl) | refine wt8 ?_ | refine ToL.cons ?_ ?_ | exact wt11 | refine wt9 ?_ ?_ | refine wt12 ?_ | (with_reducible rfl) | assumption)); all_goals (first | rfl | assumption | (simp; done) | (simp; omega) | (rw[aD (by omega) (by omega)]; done) | (rw[aD (by omega) (by omega)]; omega) | (refine congrArg Nat.cast ?_; assumption)))):p:=h
theorem Sub.w {k N:Nat} {fr fr':Fr} {H H':Heap} (szs:List Nat) (ids:List (List (Nat×Nat))) (h4:aM (ToB (ToT (H++gh szs) H.length (bP ids)) (rho ids)) (H++gh szs) ids H':=by(repeat' (first | exact aW.nil | exact aM.nil | exact bQ.nil | exact ToL.nil | exact ToR.nil | refine aW.cons ?_ ?_ | refine aM.cons ?_ ?_ | refine fY ?_ ?_ | exact To.undef _ | exact To.sc _ | exact To.hslL rfl rfl | exact To.ptrO rfl rfl rfl | exact To.mrefO rfl | exact To.nil rfl rfl rfl | exact wt1 | exact To.nilL | refine To.int ?_ | refine To.bool ?_ | refine To.hslL rfl ?_ | refine wt2 rfl ?_ ?_ ?_ | refine To.tupL ?_ | refine To.aggL ?_ | refine To.cptrL ?_ | refine To.fzp rfl rfl rfl ?_ | refine To.fzm rfl rfl ?_ | refine To.cloL ?_ ?_ | refine wt3 ?_ | refine wt4 ?_ | exact wt5 | refine wt6 ?_ | refine ToB.one ?_ | exact wt7 | ((with_reducible apply ToL.consE); case e9=>rfl) | refine wt8 ?_ | refine ToL.cons ?_ ?_ | exact wt11 | refine wt9 ?_ ?_ | refine wt12 ?_ | (with_reducible rfl) | assumption)); all_goals (first | rfl | assumption | (simp; done) | (simp; omega) | (rw[aD (by omega) (by omega)]; done) | (rw[aD (by omega) (by omega)]; omega) | (refine congrArg Nat.cast ?_; assumption)))
  (h5:aW (ToT (H++gh szs) H.length (bP ids)) (rho ids) fr fr':=by(repeat' (first | exact aW.nil | exact aM.nil | exact bQ.nil | exact ToL.nil | exact ToR.nil | refine aW.cons ?_ ?_ | refine aM.cons ?_ ?_ | refine fY ?_ ?_ | exact To.undef _ | exact To.sc _ | exact To.hslL rfl rfl | exact To.ptrO rfl rfl rfl | exact To.mrefO rfl | exact To.nil rfl rfl rfl | exact wt1 | exact To.nilL | refine To.int ?_ | refine To.bool ?_ | refine To.hslL rfl ?_ | refine wt2 rfl ?_ ?_ ?_ | refine To.tupL ?_ | refine To.aggL ?_ | refine To.cptrL ?_ | refine To.fzp rfl rfl rfl ?_ | refine To.fzm rfl rfl ?_ | refine To.cloL ?_ ?_ | refine wt3 ?_ | refine wt4 ?_ | exact wt5 | refine wt6 ?_ | refine ToB.one ?_ | exact wt7 | ((with_reducible apply ToL.consE); case e9=>rfl) | refine wt8 ?_ | refine ToL.cons ?_ ?_ | exact wt11 | refine wt9 ?_ ?_ | refine wt12 ?_ | (with_reducible rfl) | assumption)); all_goals (first | rfl | assumption | (simp; done) | (simp; omega) | (rw[aD (by omega) (by omega)]; done) | (rw[aD (by omega) (by omega)]; omega) | (refine congrArg Nat.cast ?_; assumption))) (h1:fH 0 k ids=true:=by rfl) (h2:iN k ids (H++gh szs)=true:=by rfl) (h3:kB ids.flatten=true:=by rfl):Sub k N fr H fr' H':=.to szs ids h5 h4 h1 h2 h3
theorem Sub.wr {k N:Nat} {fr fr':Fr} {H H':Heap} (szs:List Nat) (ids:List (List (Nat×Nat))) (h4:aM (ToB (ToT (H++gh szs) H.length (bP ids)) (rho ids)) (H++gh szs) ids H':=by(repeat' (first | exact aW.nil | exact aM.nil | exact bQ.nil | exact ToL.nil | exact ToR.nil | refine aW.cons ?_ ?_ | refine aM.cons ?_ ?_ | refine fY ?_ ?_ | exact To.undef _ | exact To.sc _ | exact To.hslL rfl rfl | exact To.ptrO rfl rfl rfl | exact To.mrefO rfl | exact To.nil rfl rfl rfl | exact wt1 | exact To.nilL | refine To.int ?_ | refine To.bool ?_ | refine To.hslL rfl ?_ | refine wt2 rfl ?_ ?_ ?_ | refine To.tupL ?_ | refine To.aggL ?_ | refine To.cptrL ?_ | refine To.fzp rfl rfl rfl ?_ | refine To.fzm rfl rfl ?_ | refine To.cloL ?_ ?_ | refine wt3 ?_ | refine wt4 ?_ | refine ToB.one ?_ | exact wt5 | refine ToB.rowsR (ToR.cons ?_ ?_) | refine ToR.cons ?_ ?_ | refine wt6 ?_ | ((with_reducible apply ToL.consE); case e9=>rfl) | refine ToL.cons ?_ ?_ | exact wt7 | refine wt8 ?_ | exact wt11 | refine wt9 ?_ ?_ | refine wt12 ?_ | (with_reducible rfl) | assumption)); all_goals (first | rfl | assumption | (simp; done) | (simp; omega) | (rw[aD (by omega) (by omega)]; done) | (rw[aD (by omega) (by omega)]; omega) | (refine congrArg Nat.cast ?_; assumption)))
  (h5:aW (ToT (H++gh szs) H.length (bP ids)) (rho ids) fr fr':=by(repeat' (first | exact aW.nil | exact aM.nil | exact bQ.nil | exact ToL.nil | exact ToR.nil | refine aW.cons ?_ ?_ | refine aM.cons ?_ ?_ | refine fY ?_ ?_ | exact To.undef _ | exact To.sc _ | exact To.hslL rfl rfl | exact To.ptrO rfl rfl rfl | exact To.mrefO rfl | exact To.nil rfl rfl rfl | exact wt1 | exact To.nilL | refine To.int ?_ | refine To.bool ?_ | refine To.hslL rfl ?_ | refine wt2 rfl ?_ ?_ ?_ | refine To.tupL ?_ | refine To.aggL ?_ | refine To.cptrL ?_ | refine To.fzp rfl rfl rfl ?_ | refine To.fzm rfl rfl ?_ | refine To.cloL ?_ ?_ | refine wt3 ?_ | refine wt4 ?_ | refine ToB.one ?_ | exact wt5 | refine ToB.rowsR (ToR.cons ?_ ?_) | refine ToR.cons ?_ ?_ | refine wt6 ?_ | ((with_reducible apply ToL.consE); case e9=>rfl) | refine ToL.cons ?_ ?_ | exact wt7 | refine wt8 ?_ | exact wt11 | refine wt9 ?_ ?_ | refine wt12 ?_ | (with_reducible rfl) | assumption)); all_goals (first | rfl | assumption | (simp; done) | (simp; omega) | (rw[aD (by omega) (by omega)]; done) | (rw[aD (by omega) (by omega)]; omega) | (refine congrArg Nat.cast ?_; assumption))) (h1:fH 0 k ids=true:=by rfl) (h2:iN k ids (H++gh szs)=true:=by rfl) (h3:kB ids.flatten=true:=by rfl):Sub k N fr H fr' H':=.to szs ids h5 h4 h1 h2 h3
theorem eN.w {rs:List f4} {X:AV} {e:Exit} {fr:Fr} {H:Heap} {res:AV} (he:e=.normal∨e=.ret:=by first | exact .inr rfl | exact .inl rfl) (h:gU fr H rs=some res:=by rfl)
  (t:To (ToT (H++gh []) H.length (bP [])) (rho []) res X:=by(repeat' (first | exact aW.nil | exact aM.nil | exact bQ.nil | exact ToL.nil | exact ToR.nil | refine aW.cons ?_ ?_ | refine aM.cons ?_ ?_ | refine fY ?_ ?_ | exact To.undef _ | exact To.sc _ | exact To.hslL rfl rfl | exact To.ptrO rfl rfl rfl | exact To.mrefO rfl | exact To.nil rfl rfl rfl | exact wt1 | exact To.nilL | refine To.int ?_ | refine To.bool ?_ | refine To.hslL rfl ?_ | refine wt2 rfl ?_ ?_ ?_ | refine To.tupL ?_ | refine To.aggL ?_ | refine To.cptrL ?_ | refine To.fzp rfl rfl rfl ?_ | refine To.fzm rfl rfl ?_ | refine To.cloL ?_ ?_ | refine wt3 ?_ | refine wt4 ?_ | exact wt5 | refine wt6 ?_ | refine ToB.one ?_ | exact wt7 | ((with_reducible apply ToL.consE); case e9=>rfl) | refine wt8 ?_ | refine ToL.cons ?_ ?_ | exact wt11 | refine wt9 ?_ ?_ | refine wt12 ?_ | (with_reducible rfl) | assumption)); all_goals (first | rfl | assumption | (simp; done) | (simp; omega) | (rw[aD (by omega) (by omega)]; done) | (rw[aD (by omega) (by omega)]; omega) | (refine congrArg Nat.cast ?_; assumption))):eN rs X e fr H:=.mk he h rfl t
theorem endW {k:Nat} {rs:List f4} {fr:Fr} {H:Heap} {e:Exit} {R:AV→Heap→Prop} {res res':AV} {H2:Heap} (ids:List (List (Nat×Nat))) (hR:R res' H2) (he:e=.normal∨e=.ret:=by first | exact .inr rfl | exact .inl rfl) (hres:gU fr H rs=some res:=by rfl)
  (h5:To (ToT (H++gh []) H.length (bP ids)) (rho ids) res res':=by(repeat' (first | exact aW.nil | exact aM.nil | exact bQ.nil | exact ToL.nil | exact ToR.nil | refine aW.cons ?_ ?_ | refine aM.cons ?_ ?_ | refine fY ?_ ?_ | exact To.undef _ | exact To.sc _ | exact To.hslL rfl rfl | exact To.ptrO rfl rfl rfl | exact To.mrefO rfl | exact To.nil rfl rfl rfl | exact wt1 | exact To.nilL | refine To.int ?_ | refine To.bool ?_ | refine To.hslL rfl ?_ | refine wt2 rfl ?_ ?_ ?_ | refine To.tupL ?_ | refine To.aggL ?_ | refine To.cptrL ?_ | refine To.fzp rfl rfl rfl ?_ | refine To.fzm rfl rfl ?_ | refine To.cloL ?_ ?_ | refine wt3 ?_ | refine wt4 ?_ | exact wt5 | refine wt6 ?_ | refine ToB.one ?_ | exact wt7 | ((with_reducible apply ToL.consE); case e9=>rfl) | refine wt8 ?_ | refine ToL.cons ?_ ?_ | exact wt11 | refine wt9 ?_ ?_ | refine wt12 ?_ | (with_reducible rfl) | assumption)); all_goals (first | rfl | assumption | (simp; done) | (simp; omega) | (rw[aD (by omega) (by omega)]; done) | (rw[aD (by omega) (by omega)]; omega) | (refine congrArg Nat.cast ?_; assumption))) (h4:aM (ToB (ToT (H++gh []) H.length (bP ids)) (rho ids)) (H++gh []) ids H2:=by(repeat' (first | exact aW.nil | exact aM.nil | exact bQ.nil | exact ToL.nil | exact ToR.nil | refine aW.cons ?_ ?_ | refine aM.cons ?_ ?_ | refine fY ?_ ?_ | exact To.undef _ | exact To.sc _ | exact To.hslL rfl rfl | exact To.ptrO rfl rfl rfl | exact To.mrefO rfl | exact To.nil rfl rfl rfl | exact wt1 | exact To.nilL | refine To.int ?_ | refine To.bool ?_ | refine To.hslL rfl ?_ | refine wt2 rfl ?_ ?_ ?_ | refine To.tupL ?_ | refine To.aggL ?_ | refine To.cptrL ?_ | refine To.fzp rfl rfl rfl ?_ | refine To.fzm rfl rfl ?_ | refine To.cloL ?_ ?_ | refine wt3 ?_ | refine wt4 ?_ | exact wt5 | refine wt6 ?_ | refine ToB.one ?_ | exact wt7 | ((with_reducible apply ToL.consE); case e9=>rfl) | refine wt8 ?_ | refine ToL.cons ?_ ?_ | exact wt11 | refine wt9 ?_ ?_ | refine wt12 ?_ | (with_reducible rfl) | assumption)); all_goals (first | rfl | assumption | (simp; done) | (simp; omega) | (rw[aD (by omega) (by omega)]; done) | (rw[aD (by omega) (by omega)]; omega) | (refine congrArg Nat.cast ?_; assumption))) (h1:fH 0 k ids=true:=by rfl) (h2:iN k ids (H++gh [])=true:=by rfl) (h3:kB ids.flatten=true:=by rfl):
  (e=.normal∨e=.ret)∧∃ res res' H2,gU fr H rs=some res∧c8 k H res H2 res'∧R res' H2:=sM ids he hres hR h5 h4 h1 h2 h3
end Go.Av
namespace Go.Av
set_option maxRecDepth 20000
theorem vZ {P:Program} {op:Op} {x:Operand} (h:yW P op=some (.mop .next [x])):op=.next x false:=by
 unfold yW at h
 split at h
 ·revert h; split<;>simp
 ·simp only[oIn,IOp.mop.injEq,List.cons.injEq,and_true,true_and] at h
  subst h
  rfl
 all_goals (revert h; (repeat' split)<;>simp; done)
set_option maxHeartbeats 1000000 in
theorem yG {P:Program} {op:Op} {e:MOp} {xs:List Operand} (h:w9 P op=some (.mop e xs)):False:=by
 unfold w9 at h
 split at h
 all_goals (revert h; (repeat' split)<;>simp; done)
set_option maxHeartbeats 1000000 in
theorem z5 {P:Program} {op:Op} {e:MOp} {xs:List Operand} (h:cop P op=some (.mop e xs)):False:=by
 unfold cop at h
 split at h
 all_goals (revert h; (repeat' split)<;>simp; done)
theorem vE {P:Program} {op:Op} {x:Operand} (h:lP P op=some (.op (.mop .next [x]))):op=.next x false:=by
 unfold lP at h
 split at h
 ·rename_i io hx
  simp only[oIn,IAct.op.injEq] at h
  subst h
  exact vZ hx
 split at h
 ·rename_i io hx
  simp only[oIn,IAct.op.injEq] at h
  subst h
  exact(yG hx).elim
 ·unfold rR at h
  split at h
  ·cases h
  ·cases h
  ·cases h
  ·simp only[Option.map_eq_some_iff,IAct.op.injEq] at h
   obtain⟨a,ha,rfl⟩:=h
   exact(z5 ha).elim
theorem Reg.next {P:Program} {N k:Nat} {xs:List IOper} {fr:Fr} {H:Heap} {K:Fr→Heap→Prop} {d:Nat} {gd:Option (Nat×Bool)} {x:Operand} {g i:Nat} {cur:Option (Value×AV)} {es:List (Value×AV)} (hg:gok fr gd=some true)
  (hx:ev fr x=.ptr g i 0 0) (hh:hget H g i=some (.it cur es))
  (h0:es=[]→Reg P N k xs ((d,.tup [.sc (.bool false)])::fr) H K)
  (h1:∀ l1 y l2,es=l1++y::l2→Reg P N k xs ((d,.tup [.sc (.bool true),.sc y.1,y.2])::fr) (aH H g i (.it (some y) (l1++l2))) K):
  Reg P N k (⟨some d,gd,.op (.mop .next [x])⟩::xs) fr H K:=by
 intro ops l hm M J tmps w hF hH hM Q hQ
 cases l with
 | nil=>exact hm.elim
 | cons i0 l=>
  obtain⟨⟨o0,ho,hc⟩,hm'⟩:=hm
  obtain⟨c1,c2,c3⟩:=cM hc
  have hw:=cE hF c2 hg
  have hop:=vE c3
  have rx:=aC (ds:=[]) hF x
  rw[hx] at rx
  simp only[wpOps,ho,hw,if_true]
  left
  generalize hcv:Act.eval ⟨tmps,[]⟩ x=cv at rx
  cases rx with
  | ptr _ _ _ _ β lc hJ hb=>
   rw[Nat.zero_mul] at hcv
   obtain⟨ob,e1,e2⟩:=hH.its hh hJ hb
   rcases uS (P:=P) hM e1 e2 o0.type with⟨e3,hrun⟩ | ⟨l1,l2,y,e,w1,ob',e3,hw1,hrun,e4,e5,e6,e7⟩
   ·have hrun2:(execOp (Act.eval ⟨tmps,[]⟩) o0).run P w=.ok (.value (.tuple #[.bool false])) w:=by simp[execOp,hop,hcv,hrun]
    simp only[Oper.wp,hrun2,Oper.upon]
    rw[cB]
    exact h0 e3 ops l hm' M J _ w (hF.put c1 (.tup _ _ rfl fun j c v a b=>by
     cases j with
     | zero=>simp at a b; subst a; subst b; exact .sc _
     | succ j=>simp at a)) hH hM Q hQ
   ·have hrun2:(execOp (Act.eval ⟨tmps,[]⟩) o0).run P w=.ok (.value (.tuple #[.bool true,e.key,e.val])) (ChangeMaps.setBlock w1 β ob'):=by simp[execOp,hop,hcv,hrun]
    have s1:aL k M J H w M J H w1:=by
     rcases hw1 with rfl | rfl
     ·exact .refl k hH hM
     ·exact aL.drew k hH hM rfl rfl rfl rfl
    have hw1h:w1.heap[β]?=some ob:=by rcases hw1 with rfl | rfl<;>exact e1
    have s2:aL k M J H w1 M J (aH H g i (.it (some y) (l1++l2))) (ChangeMaps.setBlock w1 β ob'):=by
     refine aL.write k s1.hrep s1.mrep g i lc β _ hh rfl hJ hb ob' _ (fun _=>⟨β,ob',hb,?_,e7⟩) rfl rfl rfl rfl
     show(w1.heap.setIfInBounds β ob')[β]?=some ob'
     simp[aX hw1h]
    simp only[Oper.wp,hrun2,Oper.upon]
    rw[cB]
    have st:=s1.trans s2
    refine h1 l1 y l2 e3 ops l hm' M J _ _ (hF.put c1 (.tup _ _ rfl fun j c v a b=>?_)) st.hrep st.mrep Q fun a' w'' hp=>hQ a' w'' ?_
    ·match j with
     | 0=>simp at a b; subst a; subst b; exact .sc _
     | 1=>simp at a b; subst a; subst b; rw[← e4]; exact .sc _
     | 2=>simp at a b; subst a; subst b; exact e5
     | j+3=>simp at a
    ·obtain⟨M2,J2,fr2,H2,q1,q2,q3,q4⟩:=hp
     exact⟨M2,J2,fr2,H2,st.trans q1,q2,q3,q4⟩
end Go.Av
namespace Go.Av
inductive lA:AV→Prop
 | undef:lA .undef
 | sc (v:Value):lA (.sc v)
 | agg (cs:List AV) (h:∀ c∈cs,lA c):lA (.agg cs)
 | tup (cs:List AV) (h:∀ c∈cs,lA c):lA (.tup cs)
 | ptr (g i r o:Nat):lA (.ptr g i r o)
 | hsl (g i s l:Nat):lA (.hsl g i s l)
 | mref (g i:Nat):lA (.mref g i)
theorem Rep.anyM {M J} {a:AV} {v:Value} (h:Rep M J a v) (hb:lA a) (M':Mem):Rep M' J a v:=by
 induction hb generalizing v with
 | undef=>cases h; exact .undef _
 | sc v=>cases h; exact .sc _
 | agg cs _ ih=>
  cases h with
  | agg _ cvs hl hr=>exact .agg _ cvs hl fun j c v a b=>ih c (List.mem_of_getElem? a) (hr j c v a b)
 | tup cs _ ih=>
  cases h with
  | tup _ cvs hl hr=>exact .tup _ cvs hl fun j c v a b=>ih c (List.mem_of_getElem? a) (hr j c v a b)
 | ptr g i r o=>cases h with | ptr _ _ _ _ β l hJ hb=>exact .ptr _ _ _ _ β l hJ hb
 | hsl g i s l=>
  cases h with
  | hsl _ _ _ _ cap β l hJ hb hc hlc=>exact .hsl _ _ _ _ cap β l hJ hb hc hlc
  | hslNil _ _ a l hJ hb=>exact .hslNil _ _ a l hJ hb
 | mref g i=>cases h with | mref _ _ β l hJ hb=>exact .mref _ _ β l hJ hb
def C5:Blk→Prop
 | .dead=>True
 | .cells _ rows=>∀ r∈rows,∀ c∈r,lA c
 | _=>False
theorem dC.anyM {M J} {l:Loc} {h:Array Obj} {x:Blk} (hb:dC M J l h x) (hx:C5 x) (M':Mem):dC M' J l h x:=by
 cases x with
 | dead=>trivial
 | cells sz rows=>
  obtain⟨h1,h2,h3⟩:=hb
  refine⟨h1,h2,?_⟩
  cases e:l.blk with
  | none=>rw[e] at h3; exact h3
  | some β=>
   rw[e] at h3
   obtain⟨cs,t,a,b,c,o,d⟩:=h3
   exact⟨cs,t,a,b,c,o,fun i r j c v x y z=>(d i r j c v x y z).anyM (hx r (List.mem_of_getElem? x) c (List.mem_of_getElem? y)) M'⟩
 | _=>exact hx.elim
theorem aF.viewF {P:Program} {f:FuncId} {args args':List AV} {R R':AV→Heap→Prop} {H:Heap} (h:aF P f args' [] R) (ha:ToL (ToT (H++gh []) H.length (bP [])) (rho []) args args')
  (hR:∀ res H0,R res H0→lA res∧(∀ g i x,hget H0 g i=some x→C5 x)∧∃ res' H0',Ren (beh H.length) res res'∧(∀ g i x',hget H0' g i=some x'→x'.live=true→∃ x,hget H0 g i=some x∧cS (beh H.length) x x')∧(∀ g i,(hget H0 g i).isSome→(hget H0' g i).isSome)∧R' res' (H++H0')):aF P f args H R':=by
 refine⟨h.1,fun M J w cargs hl hr hH hM=>?_⟩
 obtain⟨h1,h2⟩:=ha.spec
 obtain⟨M1,J1,s1,t1⟩:=lN (k:=0) (szs:=[]) (ids:=[]) (H':=[]) hH hM rfl rfl rfl trivial
 refine(h.2 M1 J1 w cargs (by omega) (fun j c x a b=>?_) s1.hrep s1.mrep).mono ?_
 ·obtain⟨c0,hc0⟩:=aJ h1 a
  exact t1 _ _ _ (h2 j c0 c hc0 a) (hr j c0 x hc0 b)
 rintro e w' ⟨cv,M',J',res,H0,rfl,hs,hrep,hr0⟩
 obtain⟨b1,b2,res',H0',r1,r2,r3,r4⟩:=hR res H0 hr0
 have hno:∀ g i,¬ aN [] g i:=by
  rintro g i ⟨x,hx,_⟩
  simp[hget] at hx
 have hsame:∀(β:Nat) o,w.heap[β]?=some o→w'.heap[β]?=some o:=fun β o ho=>hs.frame β o ho fun g i l hl _=>absurd hl (hno g i)
 let J2:Inj:=fun a b=>if a < H.length then J a b else J' (a - H.length) b
 have hJlt:∀ g i l,J g i=some l→g < H.length:=fun g i l hJ=>dU ((hH.dom g i l hJ).1)
 have x1:Ext M J M J2:=⟨fun _ _ h=>h,fun g i l hJ=>by
  show(if g < H.length then J g i else J' (g - H.length) i)=some l
  rw[if_pos (hJlt g i l hJ)]; exact hJ⟩
 have x2:Ext M (J'.via (beh H.length)) M J2:=⟨fun _ _ h=>h,fun a b l hJ=>by
  show(if a < H.length then J a b else J' (a - H.length) b)=some l
  by_cases hlt:a < H.length
  ·unfold Inj.via at hJ
   rw[wM hlt] at hJ
   cases hJ
  ·rw[if_neg hlt]
   unfold Inj.via at hJ
   rw[jZ (by omega)] at hJ
   exact hJ⟩
 have hl1:∀ a b,a < H.length→aN (H++H0') a b→aN H a b:=by
  rintro a b hlt ⟨x,hx,hxl⟩
  rw[dG hlt] at hx
  exact⟨x,hx,hxl⟩
 have hl2:∀ a b,H.length≤a→aN (H++H0') a b→aN H0 (a - H.length) b:=by
  rintro a b hge ⟨x,hx,hxl⟩
  rw[dE hge] at hx
  obtain⟨y,hy,hb⟩:=r2 _ _ x hx hxl
  exact⟨y,hy,hb.live hxl⟩
 have j1:∀ {a b:Nat} {l:Loc},a < H.length→J2 a b=some l→J a b=some l:=fun {a b l} hlt hJ=>by
  have:(if a < H.length then J a b else J' (a - H.length) b)=some l:=hJ
  rwa[if_pos hlt] at this
 have j2:∀ {a b:Nat} {l:Loc},H.length≤a→J2 a b=some l→J' (a - H.length) b=some l:=fun {a b l} hge hJ=>by
  have:(if a < H.length then J a b else J' (a - H.length) b)=some l:=hJ
  rwa[if_neg (by omega)] at this
 have hnew:∀ g i l β,aN H0 g i→J' g i=some l→l.blk=some β→w.heap.size≤β:=fun g i l β a b c=>by
  rcases hs.live g i l β a b c with⟨g0,i0,l0,q,_⟩ | q
  ·exact absurd q (hno g0 i0)
  ·exact q
 refine⟨cv,M,J2,res',H++H0',rfl,⟨fun _ _ h=>h,fun g i l hg hJ=>x1.j g i l hJ,⟨?_,?_,?_,?_⟩,fun β o ho=>hsame β o (hM β o ho),hs.os,hs.tape,hs.output,hs.size,fun β o ho _=>hsame β o ho,fun β o ho=>.inl ho,?_,hs.bk⟩,((hrep.anyM b1 M).ren r1).ext x2,r4⟩
 ·intro a b x hx hxl
  by_cases hlt:a < H.length
  ·rw[dG hlt] at hx
   obtain⟨l,p,q⟩:=hH.blk a b x hx hxl
   refine⟨l,x1.j a b l p,q.ext x1 fun β hβ=>?_⟩
   have hb:=(hH.dom a b l p).2 β hβ
   rw[Array.getElem?_eq_getElem hb]
   exact hsame β _ (Array.getElem?_eq_getElem hb)
  ·rw[dE (by omega)] at hx
   obtain⟨y,hy,hb⟩:=r2 _ _ x hx hxl
   obtain⟨l,p,q⟩:=hs.hrep.blk _ _ y hy (hb.live hxl)
   refine⟨l,x2.j a b l ?_,((q.anyM (b2 _ _ y hy) M).ren hb).ext x2 fun β _=>rfl⟩
   unfold Inj.via
   rw[jZ (by omega)]
   exact p
 ·intro a b a' b' l l' β la lb ja jb ba bb
  by_cases h1:a < H.length
  ·by_cases h2:a' < H.length
   ·exact hH.inj a b a' b' l l' β (hl1 a b h1 la) (hl1 a' b' h2 lb) (j1 h1 ja) (j1 h2 jb) ba bb
   ·have q1:=(hH.dom a b l (j1 h1 ja)).2 β ba
    have q2:=hnew _ _ l' β (hl2 a' b' (by omega) lb) (j2 (by omega) jb) bb
    omega
  ·by_cases h2:a' < H.length
   ·have q1:=(hH.dom a' b' l' (j1 h2 jb)).2 β bb
    have q2:=hnew _ _ l β (hl2 a b (by omega) la) (j2 (by omega) ja) ba
    omega
   ·have:=hs.hrep.inj _ _ _ _ l l' β (hl2 a b (by omega) la) (hl2 a' b' (by omega) lb) (j2 (by omega) ja) (j2 (by omega) jb) ba bb
    exact⟨by omega,this.2⟩
 ·intro a b l β la ja ba
  by_cases h1:a < H.length
  ·exact hH.out a b l β (hl1 a b h1 la) (j1 h1 ja) ba
  ·exact hM.lt (hnew _ _ l β (hl2 a b (by omega) la) (j2 (by omega) ja) ba)
 ·intro a b l ja
  by_cases h1:a < H.length
  ·have:=hH.dom a b l (j1 h1 ja)
   exact⟨by rw[dG h1]; exact this.1,fun β hβ=>Nat.lt_of_lt_of_le (this.2 β hβ) hs.size⟩
  ·have:=hs.hrep.dom _ _ l (j2 (by omega) ja)
   exact⟨by rw[dE (by omega)]; exact r3 _ _ this.1,this.2⟩
 ·intro a b l β la ja ba
  by_cases h1:a < H.length
  ·exact .inl ⟨a,b,l,hl1 a b h1 la,j1 h1 ja,ba⟩
  ·exact .inr (hnew _ _ l β (hl2 a b (by omega) la) (j2 (by omega) ja) ba)
theorem aF.viewL {P:Program} {f:FuncId} {args args':List AV} {n sz:Nat} {rows:List (List AV)} {H:Heap} (hb:∀ r∈rows,∀ c∈r,∃ v,c=.sc v) (h:aF P f args' [] fun res H'=>res=.hsl 0 0 0 n∧H'=[[.cells sz rows]]) (ha:ToL (ToT (H++gh []) H.length (bP [])) (rho []) args args'):
  aF P f args H fun res H'=>res=.hsl H.length 0 0 n∧H'=H++[[.cells sz rows]]:=by
 refine h.viewF ha ?_
 rintro res H0 ⟨rfl,rfl⟩
 refine⟨.hsl ..,fun g i x hx=>?_,.hsl H.length 0 0 n,[[.cells sz rows]],.hsl _ _ _ _ _ _ (by rw[jZ (Nat.le_refl _),Nat.sub_self]),fun g i x' hx hl=>⟨x',hx,?_⟩,fun _ _ h=>h,rfl,rfl⟩
 ·match g,i with
  | 0,0=>
   injection hx with hx
   subst hx
   intro r hr c hc
   obtain⟨v,rfl⟩:=hb r hr c hc
   exact .sc v
  | 0,i+1=>simp[hget] at hx
  | g+1,i=>simp[hget] at hx
 ·match g,i with
  | 0,0=>
   injection hx with hx
   subst hx
   exact .pure _ _ fun r hr c hc=>by
    obtain⟨v,rfl⟩:=hb r hr c hc
    exact .sc v
  | 0,i+1=>simp[hget] at hx
  | g+1,i=>simp[hget] at hx
end Go.Av
