import Derived.Test.YtgdocflpobncmaaGreatGAvF
namespace Go.Av
theorem sZ {g i g' i':Nat} {fr:Fr} {o:IOp} {H H':Heap} {v:AV} (hd:dwr g i fr o=[]) (h:aC g i o fr H=some (v,H')):H'=H∧aC g' i' o fr H=some (v,H):=by
 have fin:∀ {x:Option (AV×Heap)},aC g i o fr H=x→aC g' i' o fr H=x→H'=H→H'=H∧aC g' i' o fr H=some (v,H):=fun {x} h1 h2 h3=>⟨h3,by rw[h2,← h1,h,h3]⟩
 cases o with
 | alloc | box | buildSlice | makeMap | makeSlice | append=>simp[dwr] at hd
 | store sz a x=>
  simp only[dwr] at hd
  simp only[aC] at h
  split at h
  ·rename_i e
   rw[e] at hd
   simp[a9] at hd
  ·cases h
 | mapUpdate k m ix x=>
  simp only[dwr] at hd
  simp only[aC] at h
  split at h
  ·rename_i e _
   rw[e] at hd
   simp[a9] at hd
  ·cases h
 | mop e xs=>
  simp only[dwr] at hd
  simp only[aC] at h
  have hm:∀ r,cN g i H e (avals fr xs)=some r→cN g' i' H e (avals fr xs)=some r∧r.2=H:=by
   intro r hr
   generalize avals fr xs=as at *
   unfold cN at hr ⊢
   cases e with
   | range=>simp[mwr] at hd
   | slice0=>simp[mwr] at hd
   | sliceA=>
    refine⟨hr,?_⟩
    simp only at hr
    (repeat' split at hr)<;>(try (cases hr; done))<;>(injection hr with hr; rw[← hr])
   | next=>
    refine⟨hr,?_⟩
    simp only at hr
    (repeat' split at hr)<;>(try (cases hr; done))<;>(injection hr with hr; rw[← hr])
   | entry=>
    refine⟨hr,?_⟩
    simp only at hr
    (repeat' split at hr)<;>(try (cases hr; done))<;>(injection hr with hr; rw[← hr])
   | cap=>
    refine⟨hr,?_⟩
    simp only at hr
    (repeat' split at hr)<;>(try (cases hr; done))<;>(injection hr with hr; rw[← hr])
   | stop=>cases hr
   | appN=>simp[mwr] at hd
   | strB=>simp[mwr] at hd
   | iface t=>
    refine⟨hr,?_⟩
    simp only[eV] at hr
    (repeat' split at hr)<;>(try (cases hr; done))<;>(injection hr with hr; rw[← hr])
   | s2a n=>
    refine⟨hr,?_⟩
    simp only at hr
    (repeat' split at hr)<;>(try (cases hr; done))<;>(injection hr with hr; rw[← hr])
   | sliceP n lo hi=>
    refine⟨hr,?_⟩
    obtain⟨u,H1⟩:=r
    simp only at hr
    (repeat' split at hr)<;>(try (cases hr; done))<;>exact(vI (H2:=H) hr).2
   | nilM T=>
    refine⟨hr,?_⟩
    simp only at hr
    (repeat' split at hr)<;>(try (cases hr; done))<;>(injection hr with hr; rw[← hr])
   | markS=>
    simp only at hr
    split at hr
    ·simp[mwr,a9] at hd
    ·cases hr
   | clearM=>
    simp only at hr
    split at hr
    ·simp[mwr,a9] at hd
    ·cases hr
   | del k=>
    simp only at hr
    split at hr
    ·simp[mwr,a9] at hd
    ·cases hr
   | clear z=>
    simp only at hr
    split at hr
    ·exact⟨hr,by injection hr with hr; rw[← hr]⟩
    ·simp[mwr,a9] at hd
    ·cases hr
   | copy sz=>
    simp only at hr
    split at hr
    ·simp[mwr,a9] at hd
    ·cases hr
  obtain⟨h1,h2⟩:=hm _ h
  simp only at h2
  subst h2
  exact⟨rfl,by simp only[aC]; exact h1⟩
 | insF ks m ix x=>
  simp only[dwr] at hd
  simp only[aC] at h
  split at h
  ·rename_i e _
   rw[e] at hd
   simp[a9] at hd
  ·cases h
 | lookup z k x ix ok=>
  refine fin rfl rfl ?_
  simp only[aC] at h
  split at h
  ·split at h
   ·generalize nZ H _ _ _=r at h
    cases r with
    | none=>cases h
    | some r=>cases r<;>cases ok<;>simp only[mG,oIn,pIn] at h<;>exact h.2.symm
   ·cases h
  ·cases h
 | move x=>exact fin rfl rfl (by simp only[aC,eV,oIn,pIn] at h; exact h.2.symm)
 | makeFunc fn a b=>exact fin rfl rfl (by simp only[aC,wP,oIn,pIn] at h; exact h.2.symm)
 | _=>
  refine fin rfl rfl ?_
  simp only[aC] at h
  try simp only[eV] at h
  (repeat' split at h)<;>(try (cases h; done))<;>(simp only[oIn,pIn] at h; exact h.2.symm)
def dE:List (Nat×Nat)→Heap→Heap→Prop
 | [],_,_=>True
 | q::r,H,H'=>hget H' q.1 q.2=hget H q.1 q.2∧dE r H H'
theorem dE.mem {H H':Heap}:∀ {pr:List (Nat×Nat)},dE pr H H'→∀ q∈pr,hget H' q.1 q.2=hget H q.1 q.2
 | _::_,h,q,hq=>by
  rcases List.mem_cons.1 hq with rfl | hq
  ·exact h.1
  ·exact h.2.mem q hq
theorem dE.refl (H:Heap):∀ pr:List (Nat×Nat),dE pr H H
 | []=>trivial
 | _::r=>⟨rfl,dE.refl H r⟩
inductive RT (P:Program) (k:Nat):List (IOper×List (Nat×Nat))→Fr→Heap→(Fr→Heap→Prop)→Prop
 | nil {fr:Fr} {H:Heap} {K:Fr→Heap→Prop} (h:K fr H):RT P k [] fr H K
 | op {x:IOper} {pr:List (Nat×Nat)} {xs:List (IOper×List (Nat×Nat))} {fr:Fr} {H:Heap} {K:Fr→Heap→Prop} {o:IOp} {v:AV} {H':Heap} (hg:gok fr x.guard=some true) (hx:x.act=.op o) (hs:aC H.length 0 o fr H=some (v,H'))
   (hp:dE pr H H') (h:RT P k xs (fr.put x.dst v) H' K):RT P k ((x,pr)::xs) fr H K
 | skip {x:IOper} {pr:List (Nat×Nat)} {xs:List (IOper×List (Nat×Nat))} {fr:Fr} {H:Heap} {K:Fr→Heap→Prop} (hg:gok fr x.guard=some false) (h:RT P k xs (fr.put x.dst (.sc Go.undef)) H K):RT P k ((x,pr)::xs) fr H K
 | call {x:IOper} {pr:List (Nat×Nat)} {xs:List (IOper×List (Nat×Nat))} {fr:Fr} {H:Heap} {K:Fr→Heap→Prop} {f:FuncId} {args:List Operand} {R:AV→Heap→Prop} (hk:k≤H.length) (hg:gok fr x.guard=some true) (hx:x.act=.call f args)
   (hc:aD P f (avals fr args) H R) (hp:∀ res H',R res H'→dE pr H H') (h:∀ res H',R res H'→RT P k xs (fr.put x.dst res) H' K):RT P k ((x,pr)::xs) fr H K
 | callV {x:IOper} {pr:List (Nat×Nat)} {xs:List (IOper×List (Nat×Nat))} {fr:Fr} {H:Heap} {K:Fr→Heap→Prop} {f:Cal} {g:FuncId} {fs cs:List AV} {args:List Operand} {R:AV→Heap→Prop} (hk:k≤H.length) (hg:gok fr x.guard=some true)
   (hx:x.act=.callV f args) (hf:evC P fr f=.clo (.func g) fs cs) (hc:aD P g (fs++avals fr args++cs) H R) (hp:∀ res H',R res H'→dE pr H H') (h:∀ res H',R res H'→RT P k xs (fr.put x.dst res) H' K):RT P k ((x,pr)::xs) fr H K
section
variable {P:Program} {N k:Nat} {xs:List (IOper×List (Nat×Nat))} {fr:Fr} {H:Heap} {K:Fr→Heap→Prop}
theorem RT.reg (h:RT P k xs fr H K):Reg P N k (xs.map (·.1)) fr H K:=by
 induction h with
 | nil h=>exact Reg.nil h
 | op hg hx hs _ _ ih=>exact Reg.op hg hx hs ih
 | skip hg _ ih=>exact Reg.skip hg ih
 | call hk hg hx hc _ _ ih=>exact Reg.call hk hg hx (hc.mono fun res H' hr=>ih res H' hr)
 | callV hk hg hx hf hc _ _ ih=>exact Reg.callV hk hg hx hf (hc.mono fun res H' hr=>ih res H' hr)
theorem RT.mono {K':Fr→Heap→Prop} (h:RT P k xs fr H K) (hk:∀ fr H,K fr H→K' fr H):RT P k xs fr H K':=by
 induction h with
 | nil h=>exact .nil (hk _ _ h)
 | op hg hx hs hp _ ih=>exact .op hg hx hs hp (ih hk)
 | skip hg _ ih=>exact .skip hg (ih hk)
 | call hk' hg hx hc hp _ ih=>exact .call hk' hg hx hc hp fun res H' hr=>ih res H' hr hk
 | callV hk' hg hx hf hc hp _ ih=>exact .callV hk' hg hx hf hc hp fun res H' hr=>ih res H' hr hk
theorem RT.cons {x:IOper} {pr:List (Nat×Nat)} (h:RT P k [(x,pr)] fr H fun fr' H'=>RT P k xs fr' H' K):RT P k ((x,pr)::xs) fr H K:=by
 have inv:∀ {fr:Fr} {H:Heap},RT P k [] fr H (fun fr' H'=>RT P k xs fr' H' K)→RT P k xs fr H K:=fun h=>by
  cases h with
  | nil h=>exact h
 cases h with
 | op hg hx hs hp h=>exact .op hg hx hs hp (inv h)
 | skip hg h=>exact .skip hg (inv h)
 | call hk' hg hx hc hp h=>exact .call hk' hg hx hc hp fun res H' hr=>inv (h res H' hr)
 | callV hk' hg hx hf hc hp h=>exact .callV hk' hg hx hf hc hp fun res H' hr=>inv (h res H' hr)
def Kc (K:Fr→Heap→Prop) (fr:Fr) (H:Heap):Prop:=∃ fr0:Fr,(∀ t,fr0.get t=fr.get t)∧K fr0 H
theorem Kc.of {K:Fr→Heap→Prop} {fr:Fr} {H:Heap} (h:K fr H):Kc K fr H:=⟨fr,fun _=>rfl,h⟩
theorem Kc.kc {K:Fr→Heap→Prop} {fr:Fr} {H:Heap} (h:Kc (Kc K) fr H):Kc K fr H:=by
 obtain⟨a,h1,b,h2,h3⟩:=h
 exact⟨b,fun t=>(h2 t).trans (h1 t),h3⟩
theorem n5 {fr fr2:Fr} (h:∀ t,fr.get t=fr2.get t) (d:Option Nat) (v:AV):∀ t,(fr.put d v).get t=(fr2.put d v).get t:=fun t=>by rw[eJ,eJ,h]
theorem RT.feq (h:RT P k xs fr H K):∀ {fr2:Fr},(∀ t,fr.get t=fr2.get t)→RT P k xs fr2 H (Kc K):=by
 induction h with
 | nil h=>exact fun he=>.nil ⟨_,he,h⟩
 | @op x pr xs fr H K o v H' hg hx hs hp _ ih=>
  intro fr2 he
  obtain⟨ha,hgk⟩:=f4 (x:=x) (fr:=fr) (fr2:=fr2) fun t _=>(he t).symm
  refine .op (o:=o) (by rw[hgk,hg]) hx ?_ hp (ih (n5 he _ _))
  rw[gA fun y hy=>ha y (by rw[hx]; exact hy)]
  exact hs
 | @skip x pr xs fr H K hg _ ih=>
  intro fr2 he
  obtain⟨ha,hgk⟩:=f4 (x:=x) (fr:=fr) (fr2:=fr2) fun t _=>(he t).symm
  exact .skip (by rw[hgk,hg]) (ih (n5 he _ _))
 | @call x pr xs fr H K f args R hk hg hx hc hp _ ih=>
  intro fr2 he
  obtain⟨ha,hgk⟩:=f4 (x:=x) (fr:=fr) (fr2:=fr2) fun t _=>(he t).symm
  have hav:avals fr2 args=avals fr args:=List.map_congr_left fun y hy=>ha y (by rw[hx]; exact hy)
  exact .call (f:=f) (args:=args) hk (by rw[hgk,hg]) hx (by rw[hav]; exact hc) hp fun res H' hr=>ih res H' hr (n5 he _ _)
 | @callV x pr xs fr H K f g fs cs args R hk hg hx hf hc hp _ ih=>
  intro fr2 he
  obtain⟨ha,hgk⟩:=f4 (x:=x) (fr:=fr) (fr2:=fr2) fun t _=>(he t).symm
  have hav:avals fr2 args=avals fr args:=List.map_congr_left fun y hy=>ha y (by rw[hx]; exact List.mem_cons_of_mem _ hy)
  exact .callV (f:=f) (args:=args) hk (by rw[hgk,hg]) hx (by unfold evC; rw[ha f.opd (by rw[hx]; exact List.mem_cons_self ..)]; exact hf) (by rw[hav]; exact hc) hp fun res H' hr=>ih res H' hr (n5 he _ _)
def BA:IOp→Bool
 | .alloc _=>false
 | .box _=>false
 | .buildSlice _ _ _ _=>false
 | .makeMap=>false
 | .makeSlice _ _ _ _=>false
 | .store _ _ _=>false
 | .mapUpdate _ _ _ _=>false
 | .insF _ _ _ _=>false
 | .append _ _ _ _=>false
 | .mop e _=>zN e
 | _=>true
theorem oI {o:IOp} (h:BA o=true) (g i:Nat) (fr:Fr):dwr g i fr o=[]:=by cases o<;>first | rfl | exact uN h _ _ _ | cases h
def A5 (x y:IOper):Bool:=iK x.dst y.tmps && (iK y.dst x.tmps && iC x.dst y.dst)
theorem sP {d:Option Nat} {l:List Nat} (h:iK d l=true) (fr:Fr) (v:AV):∀ t∈l,(fr.put d v).get t=fr.get t:=fun t ht=>by
 rw[eJ]
 cases d with
 | none=>simp
 | some d=>
  have:=List.all_eq_true.1 h t ht
  rw[if_neg]
  intro e
  injection e with e
  subst e
  simp at this
theorem GK {o:IOp} {fr fr2:Fr} (ho:∀ x∈o.opds,ev fr2 x=ev fr x):drd fr2 o=drd fr o:=by
 cases o with
 | xop e xs=>simp only[drd,show avals fr2 xs=avals fr xs from List.map_congr_left ho]
 | mop e xs=>simp only[drd,show avals fr2 xs=avals fr xs from List.map_congr_left ho]
 | _=>simp only[drd]<;>simp only[IOp.opds,List.mem_cons,List.not_mem_nil,or_false,forall_eq_or_imp,forall_eq] at ho<;>simp[ho]
def t5 (x:IOper) (fr:Fr) (H:Heap) (v:AV) (B:List (Nat×Nat)):Prop:=
 (gok fr x.guard=some true∧∃ o,x.act=.op o∧BA o=true∧aC H.length 0 o fr H=some (v,H)∧∀ q∈drd fr o,q∈B)∨(gok fr x.guard=some false∧v=.sc Go.undef)
theorem t5.at {x:IOper} {fr fr2:Fr} {H H2:Heap} {v:AV} {B:List (Nat×Nat)} (h:t5 x fr H v B) (hf:∀ t∈x.tmps,fr2.get t=fr.get t) (hB:∀ q∈B,hget H2 q.1 q.2=hget H q.1 q.2):t5 x fr2 H2 v B:=by
 obtain⟨ha,hgk⟩:=f4 (x:=x) (fr:=fr) (fr2:=fr2) hf
 rcases h with⟨h1,o,h2,h3,h4,h5⟩ | ⟨h1,h2⟩
 ·have ho:∀ y∈o.opds,ev fr2 y=ev fr y:=fun y hy=>ha y (by rw[h2]; exact hy)
  refine .inl ⟨by rw[hgk,h1],o,h2,h3,?_,by rw[GK ho]; exact h5⟩
  have hw:=oI h3
  obtain⟨H2',q1,_⟩:=s5 (H2:=H2) h4 (fun hm=>by rw[hw] at hm; cases hm) (fun hm=>by rw[hw] at hm; cases hm) fun p hp=>hB p (h5 p hp)
  rw[gA ho]
  have:=(sZ (g':=H2.length) (i':=0) (hw _ _ _) q1).2
  exact this
 ·exact .inr ⟨by rw[hgk,h1],h2⟩
theorem t5.rt {x:IOper} {px:List (Nat×Nat)} {v:AV} {B:List (Nat×Nat)} (h:t5 x fr H v B) (hr:RT P k xs (fr.put x.dst v) H K):RT P k ((x,px)::xs) fr H K:=by
 rcases h with⟨h1,o,h2,h3,h4,h5⟩ | ⟨h1,rfl⟩
 ·exact .op h1 h2 h4 (dE.refl _ _) hr
 ·exact .skip h1 hr
theorem EE {fr:Fr} {d e:Option Nat} (h:iC d e=true) (v u:AV):∀ t,((fr.put d v).put e u).get t=((fr.put e u).put d v).get t:=fun t=>by
 rw[eJ,eJ,eJ,eJ]
 by_cases h1:e=some t<;>by_cases h2:d=some t
 ·subst h1; subst h2; simp[iC] at h
 ·rw[if_pos h1,if_neg h2,if_pos h1]
 ·rw[if_neg h1,if_pos h2,if_pos h2]
 ·rw[if_neg h1,if_neg h2,if_neg h2,if_neg h1]
theorem RT.insert {x:IOper} {px B:List (Nat×Nat)} {v:AV} {l2:List (IOper×List (Nat×Nat))}:∀(l1:List (IOper×List (Nat×Nat))) {fr:Fr} {H:Heap} {K:Fr→Heap→Prop},RT P k (l1++l2) (fr.put x.dst v) H K→t5 x fr H v B →
  (∀ a∈l1,A5 x a.1=true∧∀ q∈B,q∈a.2)→RT P k (l1++(x,px)::l2) fr H (Kc K)
 | [],fr,H,K,h,ht,_=>ht.rt (h.mono fun _ _=>Kc.of)
 | (y,py)::l1,fr,H,K,h,ht,hl=>by
  obtain⟨hap,hB⟩:=hl _ (List.mem_cons_self ..)
  simp only[A5,Bool.and_eq_true] at hap
  obtain⟨e1,e2,e3⟩:=hap
  have hl':=fun a ha=>hl a (List.mem_cons_of_mem _ ha)
  obtain⟨ha,hgk⟩:=f4 (x:=y) (fr:=fr) (fr2:=fr.put x.dst v) (sP e1 fr v)
  have next:∀(u:AV) (H':Heap),dE py H H'→RT P k (l1++l2) ((fr.put x.dst v).put y.dst u) H' K→RT P k (l1++(x,px)::l2) (fr.put y.dst u) H' (Kc K):=fun u H' hp h=>by
   have h1:=h.feq (EE e3 v u)
   have h2:=RT.insert (px:=px) (B:=B) l1 h1 (ht.at (sP e2 fr u) fun q hq=>hp.mem q (hB q hq)) hl'
   exact h2.mono fun _ _=>Kc.kc
  cases h with
  | op hg hx hs hp h=>
   refine .op (by rw[← hgk,hg]) hx ?_ hp (next _ _ hp h)
   rw[← gA fun y hy=>ha y (by rw[hx]; exact hy)]
   exact hs
  | skip hg h=>exact .skip (by rw[← hgk,hg]) (next _ _ (dE.refl _ _) h)
  | @call _ _ _ _ _ _ f args R hk hg hx hc hp h=>
   have hav:avals (fr.put x.dst v) args=avals fr args:=List.map_congr_left fun y hy=>ha y (by rw[hx]; exact hy)
   exact .call hk (by rw[← hgk,hg]) hx (by rw[← hav]; exact hc) hp fun res H' hr=>next _ _ (hp res H' hr) (h res H' hr)
  | @callV _ _ _ _ _ _ f g fs cs args R hk hg hx hf hc hp h=>
   have hav:avals (fr.put x.dst v) args=avals fr args:=List.map_congr_left fun y hy=>ha y (by rw[hx]; exact List.mem_cons_of_mem _ hy)
   exact .callV hk (by rw[← hgk,hg]) hx (by unfold evC; rw[← ha f.opd (by rw[hx]; exact List.mem_cons_self ..)]; exact hf) (by rw[← hav]; exact hc) hp fun res H' hr=>next _ _ (hp res H' hr) (h res H' hr)
end
theorem bP.pull {I:Nat→Nat→Prop} {rem l:List Nat} (h:bP I rem l):∀(A:List Nat) (i:Nat) (B:List Nat),rem=A++i::B→∃ l1 l2,l=l1++i::l2∧bP I (A++B) (l1++l2)∧∀ j∈l1,j∈A∨(j∈B∧I i j):=by
 induction h with
 | nil=>intro A i B e; simp at e
 | cons A0 i0 B0 l hA hs ih=>
  intro A i B e
  rcases List.append_eq_append_iff.1 e with⟨A2,e1,e2⟩ | ⟨A2,e1,e2⟩
  ·cases A2 with
   | nil=>
    simp only[List.append_nil] at e1
    subst e1
    simp only[List.nil_append,List.cons.injEq] at e2
    obtain⟨rfl,rfl⟩:=e2
    exact⟨[],l,rfl,hs,fun j hj=>by cases hj⟩
   | cons x A2=>
    simp only[List.cons_append,List.cons.injEq] at e2
    obtain⟨rfl,rfl⟩:=e2
    subst e1
    obtain⟨l1,l2,q1,q2,q3⟩:=ih (A0++A2) i B (by simp)
    refine⟨i0::l1,l2,by rw[q1]; rfl,?_,fun j hj=>?_⟩
    ·have:=bP.cons A0 i0 (A2++B) _ hA (by rw[← List.append_assoc]; exact q2)
     simpa using this
    ·rcases List.mem_cons.1 hj with rfl | hj
     ·exact .inl (by simp)
     ·rcases q3 j hj with h | h
      ·exact .inl (by simp at h ⊢; rcases h with h | h<;>simp[h])
      ·exact .inr h
  ·cases A2 with
   | nil=>
    simp only[List.append_nil] at e1
    subst e1
    simp only[List.nil_append,List.cons.injEq] at e2
    obtain⟨rfl,rfl⟩:=e2
    exact⟨[],l,rfl,hs,fun j hj=>by cases hj⟩
   | cons x A2=>
    simp only[List.cons_append,List.cons.injEq] at e2
    obtain⟨rfl,rfl⟩:=e2
    subst e1
    obtain⟨l1,l2,q1,q2,q3⟩:=ih A i (A2++B0) (by simp)
    refine⟨i0::l1,l2,by rw[q1]; rfl,?_,fun j hj=>?_⟩
    ·have:=bP.cons (A++A2) i0 B0 _ (fun a ha=>hA a (by simp at ha ⊢; rcases ha with h | h<;>simp[h])) (by rw[List.append_assoc]; exact q2)
     simpa using this
    ·rcases List.mem_cons.1 hj with rfl | hj
     ·exact .inr ⟨by simp,hA i (by simp)⟩
     ·rcases q3 j hj with h | ⟨h,h'⟩
      ·exact .inl h
      ·exact .inr ⟨by simp at h ⊢; rcases h with h | h<;>simp[h],h'⟩
def pT (acc:List Nat):List Nat→Nat
 | []=>0
 | k::l=>(2 ^ k ||| acc.getD k 0) ||| pT acc l
def cgo:List Nat→List (List Nat)→List Nat
 | acc,[]=>acc
 | acc,l::r=>cgo (acc++[pT acc l]) r
def clo (af:List (List Nat)):List Nat:=cgo [] af
def bef (cl:List Nat) (i j:Nat):Bool:=(cl.getD j 0).testBit i
theorem sK {F:Nat→List Nat} {acc:List Nat} (ha:∀ j a,(acc.getD j 0).testBit a=true→Bef F a j):∀ {l:List Nat} {b:Nat},(∀ k∈l,k∈F b)→∀ {a:Nat},(pT acc l).testBit a=true→Bef F a b
 | [],_,_,a,h=>by simp[pT] at h
 | k::l,b,hl,a,h=>by
  have hk:=hl k (List.mem_cons_self ..)
  simp only[pT,Nat.testBit_or,Bool.or_eq_true,Nat.testBit_two_pow,decide_eq_true_eq] at h
  rcases h with(rfl | h) | h
  ·exact .base hk
  ·exact .step hk (ha k a h)
  ·exact sK ha (fun q hq=>hl q (List.mem_cons_of_mem _ hq)) h
theorem yJ {F:Nat→List Nat}:∀(r:List (List Nat)) (acc:List Nat),(∀(j:Nat) l,r[j]?=some l→F (acc.length+j)=l)→(∀ j a,(acc.getD j 0).testBit a=true→Bef F a j)→∀ j a,((cgo acc r).getD j 0).testBit a=true→Bef F a j
 | [],_,_,ha=>ha
 | l::r,acc,hF,ha=>by
  refine yJ r (acc++[pT acc l]) (fun j q hq=>?_) fun j a h=>?_
  ·rw[List.length_append,List.length_singleton,Nat.add_assoc,Nat.add_comm 1 j]
   exact hF (j+1) q (by simpa using hq)
  ·by_cases h1:j < acc.length
   ·refine ha j a ?_
    simpa[List.getD,List.getElem?_append,h1] using h
   ·by_cases h2:j=acc.length
    ·subst h2
     have h3:(pT acc l).testBit a=true:=by simpa[List.getD,List.getElem?_append] using h
     refine sK ha (fun k hk=>?_) h3
     have:=hF 0 l rfl
     rw[Nat.add_zero] at this
     rw[this]
     exact hk
    ·have h3:(acc++[pT acc l])[j]?=none:=List.getElem?_eq_none (by simp; omega)
     simp[List.getD,h3] at h
theorem H9 {F:Nat→List Nat} {af:List (List Nat)} (hF:∀(j:Nat) l,af[j]?=some l→F j=l) {i j:Nat} (h:bef (clo af) i j=true):Bef F i j:=
 yJ af [] (fun j l hl=>by rw[List.length_nil,Nat.zero_add]; exact hF j l hl) (fun j a h=>by simp at h) j i h
def bY (cl:List Nat):List (Nat×List (Nat×Nat))→Nat→List (Nat×Nat)
 | [],_=>[]
 | (i,B)::p,j=>match bef cl i j with
  | true=>bY cl p j
  | false=>B++bY cl p j
def mD (i:Nat):List Nat→Option (List Nat×List Nat)
 | []=>none
 | a::r=>match Nat.beq a i with
  | true=>some ([],r)
  | false=>match mD i r with
   | some (A,B)=>some (a::A,B)
   | none=>none
theorem fZ {i:Nat}:∀ {rem A B:List Nat},mD i rem=some (A,B)→rem=A++i::B
 | [],A,B,h=>by cases h
 | a::r,A,B,h=>by
  simp only[mD] at h
  split at h
  ·rename_i e
   have:=Nat.eq_of_beq_eq_true e
   subst this
   injection h with h
   injection h with h1 h2
   subst h1; subst h2
   rfl
  ·split at h
   ·rename_i e
    injection h with h
    injection h with h1 h2
    subst h1; subst h2
    rw[fZ e]
    rfl
   ·cases h
def tD (x:IOper):Bool:=
 match x.act with
 | .op o=>BA o
 | _=>false
def iN (zs:List IOper) (x:IOper) (j:Nat):Bool:=
 match zs[j]? with
 | some y=>A5 x y
 | none=>false
def okP (cl:List Nat) (zs:List IOper):List (Bool×Nat)→List Nat→Bool
 | [],rem=>rem.isEmpty
 | (true,i)::pl,rem=>match mD i rem,zs[i]? with
  | some (A,B),some x=>tD x && (A.all (fun j=>!bef cl i j && iN zs x j) && (B.all (fun j=>bef cl i j || iN zs x j) && okP cl zs pl (A++B)))
  | _,_=>false
 | (false,i)::pl,rem=>match rem with
  | a::B=>Nat.beq a i && (B.all (fun j=>bef cl i j) && okP cl zs pl B)
  | []=>false
def rdX (fr:Fr) (x:IOper):List (Nat×Nat):=
 match x.act with
 | .op o=>drd fr o
 | _=>[]
inductive iT:List (IOper×List (Nat×Nat))→List (IOper×List (Nat×Nat))→Prop
 | nil:iT [] []
 | cons {a b:IOper×List (Nat×Nat)} {l m:List (IOper×List (Nat×Nat))} (h:a.1=b.1∧∀ q∈a.2,q∈b.2) (h':iT l m):iT (a::l) (b::m)
def FL (i:Nat):List (Nat×Nat)→List (Nat×List (Nat×Nat))→List (Nat×List (Nat×Nat))
 | [],pend=>pend
 | q::B,pend=>(i,q::B)::pend
def LP (P:Program) (k:Nat) (cl:List Nat) (zs:List IOper):List (Bool×Nat)→List (Nat×List (Nat×Nat))→Fr→Heap→(Fr→Heap→Prop)→Prop
 | [],_,fr,H,K=>K fr H
 | (true,i)::pl,pend,fr,H,K=>∃ x B,zs[i]?=some x∧(∀ q∈rdX fr x,q∈B)∧RT P k [(x,[])] fr H fun fr' H'=>LP P k cl zs pl (FL i B pend) fr' H' K
 | (false,i)::pl,pend,fr,H,K=>∃ x,zs[i]?=some x∧RT P k [(x,bY cl pend i)] fr H fun fr' H'=>LP P k cl zs pl pend fr' H' K
def jH (cl:List Nat) (zs:List IOper) (pend:List (Nat×List (Nat×Nat))) (j:Nat):IOper×List (Nat×Nat):=(zs.getD j ⟨none,none,.call 0 []⟩,bY cl pend j)
theorem eY {cl zs pend j x} (h:zs[j]?=some x):jH cl zs pend j=(x,bY cl pend j):=by simp[jH,List.getD,h]
theorem LP.sound {P:Program} {k:Nat} {cl:List Nat} {zs:List IOper}:∀(pl:List (Bool×Nat)) (rem l:List Nat) (pend:List (Nat×List (Nat×Nat))) {fr:Fr} {H:Heap} {K:Fr→Heap→Prop},okP cl zs pl rem=true→bP (fun a b=>¬ bef cl a b=true) rem l →
  LP P k cl zs pl pend fr H K→RT P k (l.map (jH cl zs pend)) fr H (Kc K)
 | [],rem,l,pend,fr,H,K,hok,hs,h=>by
  have e:rem=[]:=by cases rem with | nil=>rfl | cons=>cases hok
  rw[hs.nil_inv e]
  exact .nil (.of h)
 | (false,i)::pl,rem,l,pend,fr,H,K,hok,hs,h=>by
  cases rem with
  | nil=>cases hok
  | cons a B=>
   simp only[okP,Bool.and_eq_true] at hok
   obtain⟨e,hB,hok⟩:=hok
   have:=Nat.eq_of_beq_eq_true e
   subst this
   obtain⟨l1,l2,q1,q2,q3⟩:=hs.pull [] a B rfl
   have e1:l1=[]:=by
    cases l1 with
    | nil=>rfl
    | cons j l1=>
     rcases q3 j (List.mem_cons_self ..) with h | ⟨h,h'⟩
     ·cases h
     ·exact absurd (List.all_eq_true.1 hB j h) h'
   subst e1
   subst q1
   obtain⟨x,hx,h⟩:=h
   rw[List.nil_append,List.map_cons,eY hx]
   exact RT.cons (h.mono fun fr' H' h=>LP.sound pl B l2 pend hok q2 h)
 | (true,i)::pl,rem,l,pend,fr,H,K,hok,hs,h=>by
  simp only[okP] at hok
  split at hok
  ·rename_i A B x e1 e2
   simp only[Bool.and_eq_true] at hok
   obtain⟨hq,hA,hB,hok⟩:=hok
   have e:=fZ e1
   obtain⟨l1,l2,q1,q2,q3⟩:=hs.pull A i B e
   obtain⟨x',C,hx,hC,h⟩:=h
   rw[e2] at hx
   injection hx with hx
   subst hx
   subst q1
   rw[List.map_append,List.map_cons,eY e2]
   have hap:∀ j∈l1,¬ bef cl i j=true∧iN zs x j=true:=fun j hj=>by
    rcases q3 j hj with h | ⟨h,h'⟩
    ·have:=List.all_eq_true.1 hA j h
     simp only[Bool.and_eq_true,Bool.not_eq_true'] at this
     exact⟨by rw[this.1]; simp,this.2⟩
    ·have:=List.all_eq_true.1 hB j h
     simp only[Bool.or_eq_true] at this
     exact⟨h',this.resolve_left h'⟩
   have key:∀(pend':List (Nat×List (Nat×Nat))),(∀ j,∀ q∈bY cl pend j,q∈bY cl pend' j)→(∀ j,¬ bef cl i j=true→∀ q∈C,q∈bY cl pend' j)→∀(v:AV),t5 x fr H v C→LP P k cl zs pl pend' (fr.put x.dst v) H K →
     RT P k (l1.map (jH cl zs pend)++(x,bY cl pend i)::l2.map (jH cl zs pend)) fr H (Kc K):=by
    intro pend' h1 h2 v ht h
    have hrt:=LP.sound pl (A++B) (l1++l2) pend' hok q2 h
    rw[List.map_append] at hrt
    have hins:=RT.insert (px:=bY cl pend i) (B:=C) (l1.map (jH cl zs pend')) hrt ht fun a ha=>by
     obtain⟨j,hj,rfl⟩:=List.mem_map.1 ha
     obtain⟨p1,p2⟩:=hap j hj
     unfold iN at p2
     split at p2
     ·rename_i y hy
      rw[eY hy]
      exact⟨p2,h2 j p1⟩
     ·cases p2
    have hdrop:∀(L L':List (IOper×List (Nat×Nat))),iT L' L→∀ {fr:Fr} {H:Heap} {K:Fr→Heap→Prop},RT P k L fr H K→RT P k L' fr H K:=by
     intro L L' hf
     induction hf with
     | nil=>exact fun h=>h
     | @cons a b L' L hab _ ih=>
      obtain⟨a1,a2⟩:=a
      obtain⟨b1,b2⟩:=b
      obtain⟨rfl,hsub⟩:=hab
      have kk:∀ {H H':Heap},dE b2 H H'→dE a2 H H':=fun {H H'} h=>by
       have hm:=h.mem
       clear h
       induction a2 with
       | nil=>trivial
       | cons q r ihr=>exact⟨hm q (hsub q (List.mem_cons_self ..)),ihr fun p hp=>hsub p (List.mem_cons_of_mem _ hp)⟩
      intro fr H K h
      cases h with
      | op hg hx hs hp h=>exact .op hg hx hs (kk hp) (ih h)
      | skip hg h=>exact .skip hg (ih h)
      | call hk hg hx hc hp h=>exact .call hk hg hx hc (fun res H' hr=>kk (hp res H' hr)) fun res H' hr=>ih (h res H' hr)
      | callV hk hg hx hf hc hp h=>exact .callV hk hg hx hf hc (fun res H' hr=>kk (hp res H' hr)) fun res H' hr=>ih (h res H' hr)
    have fm:∀ L:List Nat,iT (L.map (jH cl zs pend)) (L.map (jH cl zs pend')):=fun L=>by
     induction L with
     | nil=>exact .nil
     | cons j L ih=>exact .cons ⟨rfl,h1 j⟩ ih
    have fa:∀ {a b c d:List (IOper×List (Nat×Nat))},iT a b→iT c d→iT (a++c) (b++d):=fun {a b c d} h1 h2=>by
     induction h1 with
     | nil=>exact h2
     | cons h _ ih=>exact .cons h ih
    exact(hdrop _ _ (fa (fm l1) (.cons ⟨rfl,fun q hq=>hq⟩ (fm l2))) hins).mono fun _ _=>Kc.kc
   have fin:∀ {fr':Fr} {H':Heap} {K':Fr→Heap→Prop},RT P k [] fr' H' K'→K' fr' H':=fun h=>by
    cases h with
    | nil h=>exact h
   have mk:∀(v:AV),t5 x fr H v C→LP P k cl zs pl (FL i C pend) (fr.put x.dst v) H K→RT P k (l1.map (jH cl zs pend)++(x,bY cl pend i)::l2.map (jH cl zs pend)) fr H (Kc K):=by
    intro v ht h
    cases C with
    | nil=>exact key pend (fun _ _ h=>h) (fun _ _ q hq=>by cases hq) v ht h
    | cons c C=>
     refine key ((i,c::C)::pend) (fun j q hq=>?_) (fun j hj q hq=>?_) v ht h
     ·simp only[bY]
      split
      ·exact hq
      ·exact List.mem_append_right _ hq
     ·simp only[bY]
      split
      ·rename_i hb; exact absurd hb hj
      ·exact List.mem_append_left _ hq
   unfold tD at hq
   cases h with
   | @op _ _ _ _ _ _ o v H' hg hxa hst hp h=>
    rw[hxa] at hq
    obtain⟨rfl,hst'⟩:=sZ (g':=H.length) (i':=0) (oI hq _ _ _) hst
    refine mk v (.inl ⟨hg,o,hxa,hq,hst',fun q hq'=>hC q ?_⟩) (fin h)
    unfold rdX
    rw[hxa]
    exact hq'
   | skip hg h=>exact mk _ (.inr ⟨hg,rfl⟩) (fin h)
   | call hk hg hxa=>rw[hxa] at hq; cases hq
   | callV hk hg hxa=>rw[hxa] at hq; cases hq
  ·cases hok
theorem AWP.lin {P:Program} {N k:Nat} {fr:Fr} {H:Heap} {Q:Exit→Fr→Heap→Prop} {zs:List IOper} {af:List (List Nat)} (pl:List (Bool×Nat)) (hp:P.follows .mixedOrders=true)
  (hlow:oX 0 af=true) (hok:okP (clo af) zs pl (List.range zs.length)=true) (h:LP P k (clo af) zs pl [] fr H (Q .normal)):AWP P N k (.draw zs af) Q fr H:=by
 intro c0 hc cx M J tmps w hcx hF hH hM
 cases c0 with
 | region id ops draw=>
  simp only[bI] at hc
  split at hc
  ·rename_i us hus
   cases draw with
   | false=>cases hc
   | true=>
    injection hc with hc
    injection hc with hc1' hc2'
    subst hc1'; subst hc2'
    refine wpIn_region_draw fun t=>eR hcx ?_
    rw[hp]
    have hsch:Region.schedule true ops t=Region.linearise .any ops t:=by simp[Region.schedule]
    rw[hsch]
    obtain⟨hlen,hgx⟩:=eL _ _ hus
    have hsz:us.length=ops.size:=by rw[hlen]; simp
    have haf:∀ j l,(ops.toList.map cS)[j]?=some l→a8 ops j=l:=by
     intro j l hj
     rw[List.getElem?_map,Array.getElem?_toList] at hj
     unfold a8
     cases ho:ops[j]? with
     | none=>rw[ho] at hj; cases hj
     | some o=>rw[ho] at hj; simpa using hj
    have hs:=dB ops (fun a b=>¬ bef (clo (ops.toList.map cS)) a b=true) (fun j kk hk=>by
     have hl:(ops.toList.map cS)[j]?=some (a8 ops j):=by
      rw[List.getElem?_map,Array.getElem?_toList]
      unfold a8 at hk ⊢
      cases ho:ops[j]? with
      | none=>rw[ho] at hk; cases hk
      | some o=>rfl
     have:=eN _ 0 hlow j _ hl kk hk
     omega) (fun a b hab hb=>by
     by_cases h:bef (clo (ops.toList.map cS)) a b=true
     ·exact .inl (H9 haf h)
     ·exact .inr h) t
    rw[hsz] at hok
    have hrt:=LP.sound pl _ _ [] hok hs h
    have hmem:∀(all l:List Nat),bP (fun a b=>¬ bef (clo (ops.toList.map cS)) a b=true) all l→∀ j∈l,j∈all:=by
     intro all l hs
     induction hs with
     | nil=>exact fun j hj=>hj
     | cons A i B l _ _ ih=>
      intro j hj
      rcases List.mem_cons.1 hj with rfl | hj
      ·simp
      ·have:=ih j hj
       simp at this ⊢
       rcases this with h | h<;>simp[h]
    have hmat:∀ l:List Nat,(∀ j∈l,j < ops.size)→eW P N ops l ((l.map (jH (clo (ops.toList.map cS)) us [])).map (·.1)):=by
     intro l
     induction l with
     | nil=>exact fun _=>trivial
     | cons j l ih=>
      intro hl
      have hj:=hl j (List.mem_cons_self ..)
      have ho:ops[j]?=some ops[j]:=Array.getElem?_eq_getElem hj
      obtain⟨x,e1,e2⟩:=hgx j ops[j] (by rw[Array.getElem?_toList]; exact ho)
      refine⟨⟨ops[j],ho,?_⟩,ih fun q hq=>hl q (List.mem_cons_of_mem _ hq)⟩
      rw[eY e1]
      exact e2
    refine hrt.reg (N:=N) ops _ (hmat _ fun j hj=>List.mem_range.1 (hmem _ _ hs j hj)) M J tmps { w with drawn:=w.drawn+1 } hF hH hM _ fun a' w' hpost=>⟨rfl,?_⟩
    obtain⟨M2,J2,fr2,H2,q1,q2,q3,fr3,q4,q5⟩:=hpost
    exact⟨M2,J2,fr3,H2,⟨q1.m,q1.j,q1.hrep,q1.mrep,q1.os,(by first | exact q1.tape | exact⟨q1.tape.1,Nat.le_trans (Nat.le_succ _) q1.tape.2⟩),q1.output,q1.size,q1.frame,q1.fresh,q1.live,q1.bk⟩,⟨q2.1,fun t=>by rw[q4]; exact q2.2 t⟩,q3,q5⟩
  ·cases hc
 | _=>simp only[bI] at hc; (try split at hc)<;>(try cases hc)<;>(try simp at hc)
end Go.Av
namespace Go.Av
section
variable {P:Program} {k:Nat} {xs:List (IOper×List (Nat×Nat))} {pr:List (Nat×Nat)} {fr:Fr} {H:Heap} {K:Fr→Heap→Prop} {d:Nat} {gd:Option (Nat×Bool)}
theorem RT.o {o:IOp} {v:AV} {H':Heap} (hg:gok fr gd=some true) (hs:aC H.length 0 o fr H=some (v,H')) (hp:dE pr H H') (h:RT P k xs ((d,v)::fr) H' K):RT P k ((⟨some d,gd,.op o⟩,pr)::xs) fr H K:=.op (x:=⟨some d,gd,.op o⟩) hg rfl hs hp h
theorem RT.on {o:IOp} {v:AV} {H':Heap} (hg:gok fr gd=some true) (hs:aC H.length 0 o fr H=some (v,H')) (hp:dE pr H H') (h:RT P k xs fr H' K):RT P k ((⟨none,gd,.op o⟩,pr)::xs) fr H K:=.op (x:=⟨none,gd,.op o⟩) hg rfl hs hp h
theorem RT.s {a:IAct} (hg:gok fr gd=some false) (h:RT P k xs ((d,.sc Go.undef)::fr) H K):RT P k ((⟨some d,gd,a⟩,pr)::xs) fr H K:=.skip (x:=⟨some d,gd,a⟩) hg h
theorem RT.p {f:FuncId} {args:List Operand} {v:AV} (hk:k≤H.length) (hg:gok fr gd=some true) (hp:aF P f (avals fr args) v) (h:RT P k xs ((d,v)::fr) H K):RT P k ((⟨some d,gd,.call f args⟩,pr)::xs) fr H K:=
 .call (x:=⟨some d,gd,.call f args⟩) (R:=fun res H'=>res=v∧H'=H) hk hg rfl (aD.ofPure hp H ⟨rfl,rfl⟩) (fun _ _ h=>by rw[h.2]; exact dE.refl _ _) fun _ _ hr=>by rw[hr.1,hr.2]; exact h
theorem RT.cc {f:FuncId} {args:List Operand} {R:AV→Heap→Prop} (hk:k≤H.length) (hg:gok fr gd=some true) (hc:aD P f (avals fr args) H R) (h:∀ res H',R res H'→dE pr H H'∧RT P k xs ((d,res)::fr) H' K):RT P k ((⟨some d,gd,.call f args⟩,pr)::xs) fr H K:=
 .call (x:=⟨some d,gd,.call f args⟩) hk hg rfl hc (fun res H' hr=>(h res H' hr).1) fun res H' hr=>(h res H' hr).2
theorem RT.cv {f:Cal} {g:FuncId} {fs cs:List AV} {args:List Operand} {R:AV→Heap→Prop} (hk:k≤H.length) (hg:gok fr gd=some true) (hf:evC P fr f=.clo (.func g) fs cs) (hc:aD P g (fs++avals fr args++cs) H R)
  (h:∀ res H',R res H'→dE pr H H'∧RT P k xs ((d,res)::fr) H' K):RT P k ((⟨some d,gd,.callV f args⟩,pr)::xs) fr H K:=
 .callV (x:=⟨some d,gd,.callV f args⟩) hk hg rfl hf hc (fun res H' hr=>(h res H' hr).1) fun res H' hr=>(h res H' hr).2
theorem LP.z {cl:List Nat} {zs:List IOper} {pend:List (Nat×List (Nat×Nat))} (h:K fr H):LP P k cl zs [] pend fr H K:=h
theorem LP.t0 {cl:List Nat} {zs:List IOper} {pl:List (Bool×Nat)} {i:Nat} {x:IOper} {pend:List (Nat×List (Nat×Nat))} (h:RT P k [(x,[])] fr H fun fr' H'=>LP P k cl zs pl pend fr' H' K) (hx:zs[i]?=some x:=by rfl) (hB:rdX fr x=[]:=by rfl):LP P k cl zs ((true,i)::pl) pend fr H K:=
 ⟨x,[],hx,fun q hq=>by rw[hB] at hq; exact hq,h⟩
theorem LP.t1 {cl:List Nat} {zs:List IOper} {pl:List (Bool×Nat)} {i g b:Nat} {x:IOper} {pend:List (Nat×List (Nat×Nat))} (h:RT P k [(x,[])] fr H fun fr' H'=>LP P k cl zs pl ((i,[(g,b)])::pend) fr' H' K) (hx:zs[i]?=some x:=by rfl) (hB:rdX fr x=[(g,b)]:=by rfl):LP P k cl zs ((true,i)::pl) pend fr H K:=
 ⟨x,[(g,b)],hx,fun q hq=>by rw[hB] at hq; exact hq,h⟩
theorem LP.t2 {cl:List Nat} {zs:List IOper} {pl:List (Bool×Nat)} {i g b g' b':Nat} {x:IOper} {pend:List (Nat×List (Nat×Nat))} (h:RT P k [(x,[])] fr H fun fr' H'=>LP P k cl zs pl ((i,[(g,b),(g',b')])::pend) fr' H' K) (hx:zs[i]?=some x:=by rfl) (hB:rdX fr x=[(g,b),(g',b')]:=by rfl):LP P k cl zs ((true,i)::pl) pend fr H K:=
 ⟨x,[(g,b),(g',b')],hx,fun q hq=>by rw[hB] at hq; exact hq,h⟩
theorem LP.c {cl:List Nat} {zs:List IOper} {pl:List (Bool×Nat)} {i:Nat} {x:IOper} {pend:List (Nat×List (Nat×Nat))} (h:RT P k [(x,bY cl pend i)] fr H fun fr' H'=>LP P k cl zs pl pend fr' H' K) (hx:zs[i]?=some x:=by rfl):LP P k cl zs ((false,i)::pl) pend fr H K:=⟨x,hx,h⟩
theorem tr1 {o:IOp} {v:AV} {H':Heap} (h:RT P k xs ((d,v)::fr) H' K) (hg:gok fr gd=some true:=by rfl) (hs:aC H.length 0 o fr H=some (v,H'):=by rfl) (kp:dE pr H H':=by first | exact dE.refl _ _ | (repeat (first | exact trivial | refine And.intro rfl ?_))):RT P k ((⟨some d,gd,.op o⟩,pr)::xs) fr H K:=RT.o hg hs kp h
end
end Go.Av
namespace Go.Av
structure BL (p:Prop):Prop where
 out:p
theorem aB {G G':Prop} (h:G') (t:BL G'→G:=by intro hw9; (repeat (first | refine MI ?_ | refine ML ?_ | refine NK ?_ | refine wv1 ?_ | refine wv2 ?_ | refine wv3 ?_ | refine wv4 ?_ | refine wv5 ?_ | refine wv6 ?_ | refine wv7 ?_ | refine wv8 ?_ | refine wv9 ?_ | refine wv10 ?_ | refine wr1 ?_ | refine wr2 ?_ | refine wr3 ?_ | refine wr4 ?_ | refine Reg.nil ?_ | refine wd1 ?_ | refine wd2 ?_ | refine wd3 ?_ | refine wd4 ?_ | refine AWP.seq ?_ | refine AWP.region ?_ | refine AWP.dk jY ?_ | refine AWP.condT rfl ?_ | refine AWP.condF rfl ?_ | refine AWP.skip ?_ | refine AWP.ret ?_ | refine AWP.exit ?_ | refine AWP.block ?_ | refine wr5 ?_ | refine wr6 ?_ | refine wr7 ?_ | refine wr8 ?_ | refine wr9 ?_ | refine wr10 ?_ | refine wd5 ?_ | refine wd6 ?_ | refine wd7 ?_ | refine wd8 ?_ | refine wd9 ?_ | refine L4 ?_ | refine wr11 ?_ | refine wr12 ?_ | refine MF ?_ | refine wd12 ?_ )); exact hw9.out):G:=t ⟨h⟩
theorem dC {G G':Prop} (h:G') (t:BL G'→G:=by intro hw9; (repeat (first | refine MI ?_ | refine ML ?_ | refine NK ?_ | refine wv1 ?_ | refine wv2 ?_ | refine wv3 ?_ | refine wv4 ?_ | refine wv5 ?_ | refine wv6 ?_ | refine wv7 ?_ | refine wv8 ?_ | refine wv9 ?_ | refine wv10 ?_ | refine wr1 ?_ | refine wr2 ?_ | refine wr3 ?_ | refine wr4 ?_ | refine Reg.nil ?_ | refine wd1 ?_ | refine wd2 ?_ | refine wd3 ?_ | refine wd4 ?_ | refine wr5 ?_ | refine wr6 ?_ | refine wr7 ?_ | refine wr8 ?_ | refine wr9 ?_ | refine wr10 ?_ | refine wd5 ?_ | refine wd6 ?_ | refine wd7 ?_ | refine wd8 ?_ | refine wd9 ?_ | refine L4 ?_ | refine wr11 ?_ | refine wr12 ?_ | refine MF ?_ | refine wd12 ?_ )); exact hw9.out):G:=t ⟨h⟩
theorem I1 {G G':Prop} (h:G') (t:BL G'→G:=by intro hw9; (repeat (first | refine LP.t0 ?_ | refine LP.t1 ?_ | refine LP.t2 ?_ | refine LP.c ?_ | refine RT.nil ?_ | refine LP.z ?_ | refine tv1 ?_ | refine tv2 ?_ | refine tv5 ?_ | refine tv6 ?_ | refine tv9 ?_ | refine tv10 ?_ | refine tr1 ?_ | refine tr2 ?_ | refine tr3 ?_ | refine tr4 ?_ | refine tr5 ?_ | refine tr6 ?_ | refine tr7 ?_ | refine tr8 ?_ | refine tr9 ?_ | refine tr10 ?_ )); exact hw9.out):G:=t ⟨h⟩
theorem d5 {G G':Prop} (h:G') (t:BL G'→G:=by intro hw9; (repeat (first | refine MI ?_ | refine ML ?_ | refine NK ?_ | refine wv1 ?_ | refine wv2 ?_ | refine wv3 ?_ | refine wv4 ?_ | refine wv5 ?_ | refine wv6 ?_ | refine wv7 ?_ | refine wv8 ?_ | refine wv9 ?_ | refine wv10 ?_ | refine wr1 ?_ | refine wr2 ?_ | refine wr3 ?_ | refine wr4 ?_ | refine Reg.nil ?_ | refine wd1 ?_ | refine wd2 ?_ | refine wd3 ?_ | refine wd4 ?_ | refine AWP.seq ?_ | refine AWP.region ?_ | refine AWP.condT rfl ?_ | refine AWP.condF rfl ?_ | refine AWP.skip ?_ | refine AWP.ret ?_ | refine AWP.exit ?_ | refine AWP.block ?_ | refine wr5 ?_ | refine wr6 ?_ | refine wr7 ?_ | refine wr8 ?_ | refine wr9 ?_ | refine wr10 ?_ | refine wd5 ?_ | refine wd6 ?_ | refine wd7 ?_ | refine wd8 ?_ | refine wd9 ?_ | refine L4 ?_ | refine wr11 ?_ | refine wr12 ?_ | refine MF ?_ | refine wd12 ?_ )); exact hw9.out):G:=t ⟨h⟩
theorem bO {p:Prop} (h:p:=by(all_goals (repeat' (first | exact aO.nil | exact aI.nil | exact bD.nil | exact ToL.nil | exact ToR.nil | refine aO.cons ?_ ?_ | refine aI.cons ?_ ?_ | refine f8 ?_ ?_ | exact To.undef _ | exact To.sc _ | exact To.hslL rfl rfl | exact To.asl _ _ _ _ _ _ _ rfl | refine To.ifc _ _ _ ?_ | exact To.ptrO rfl rfl rfl | exact To.mrefO rfl | exact To.nil rfl rfl rfl | exact wt1 | exact To.nilL | refine To.int ?_ | refine To.bool ?_ | refine To.hslL rfl ?_ | refine wt2 rfl ?_ ?_ ?_ | refine To.tupL ?_ | refine To.aggL ?_ | refine To.cptrL ?_ | refine To.fzp rfl rfl rfl ?_ | refine To.fzm rfl rfl ?_ | refine To.cloL ?_ ?_ | refine wt3 ?_ | refine wt4 ?_ | exact wt5 | refine wt6 ?_ | refine ToB.one ?_ | exact wt7 | ((with_reducible apply ToL.consE); case e9=>rfl) | refine wt8 ?_ | refine ToL.cons ?_ ?_ | exact wt11 | refine wt9 ?_ ?_ | refine wt12 ?_ | (with_reducible rfl) | assumption)); all_goals (first | rfl | assumption | (simp; done) | (simp; omega) | (rw[wrap_small (by omega) (by omega)]; done) | (rw[wrap_small (by omega) (by omega)]; omega) | (refine congrArg Nat.cast ?_; assumption)))):p:=h
theorem Sub.w {k N:Nat} {fr fr':Fr} {H H':Heap} (szs:List Nat) (ids:List (List (Nat×Nat))) (h4:aI (ToB (ToT (H++gh szs) H.length (cH ids)) (rho ids)) (H++gh szs) ids H':=by(repeat' (first | exact aO.nil | exact aI.nil | exact bD.nil | exact ToL.nil | exact ToR.nil | refine aO.cons ?_ ?_ | refine aI.cons ?_ ?_ | refine f8 ?_ ?_ | exact To.undef _ | exact To.sc _ | exact To.hslL rfl rfl | exact To.ptrO rfl rfl rfl | exact To.mrefO rfl | exact To.nil rfl rfl rfl | exact wt1 | exact To.nilL | refine To.int ?_ | refine To.bool ?_ | refine To.hslL rfl ?_ | refine wt2 rfl ?_ ?_ ?_ | refine To.tupL ?_ | refine To.aggL ?_ | refine To.cptrL ?_ | refine To.fzp rfl rfl rfl ?_ | refine To.fzm rfl rfl ?_ | refine To.cloL ?_ ?_ | refine wt3 ?_ | refine wt4 ?_ | exact wt5 | refine wt6 ?_ | refine ToB.one ?_ | exact wt7 | ((with_reducible apply ToL.consE); case e9=>rfl) | refine wt8 ?_ | refine ToL.cons ?_ ?_ | exact wt11 | refine wt9 ?_ ?_ | refine wt12 ?_ | (with_reducible rfl) | assumption)); all_goals (first | rfl | assumption | (simp; done) | (simp; omega) | (rw[wrap_small (by omega) (by omega)]; done) | (rw[wrap_small (by omega) (by omega)]; omega) | (refine congrArg Nat.cast ?_; assumption)))
  (h5:aO (ToT (H++gh szs) H.length (cH ids)) (rho ids) fr fr':=by(repeat' (first | exact aO.nil | exact aI.nil | exact bD.nil | exact ToL.nil | exact ToR.nil | refine aO.cons ?_ ?_ | refine aI.cons ?_ ?_ | refine f8 ?_ ?_ | exact To.undef _ | exact To.sc _ | exact To.hslL rfl rfl | exact To.ptrO rfl rfl rfl | exact To.mrefO rfl | exact To.nil rfl rfl rfl | exact wt1 | exact To.nilL | refine To.int ?_ | refine To.bool ?_ | refine To.hslL rfl ?_ | refine wt2 rfl ?_ ?_ ?_ | refine To.tupL ?_ | refine To.aggL ?_ | refine To.cptrL ?_ | refine To.fzp rfl rfl rfl ?_ | refine To.fzm rfl rfl ?_ | refine To.cloL ?_ ?_ | refine wt3 ?_ | refine wt4 ?_ | exact wt5 | refine wt6 ?_ | refine ToB.one ?_ | exact wt7 | ((with_reducible apply ToL.consE); case e9=>rfl) | refine wt8 ?_ | refine ToL.cons ?_ ?_ | exact wt11 | refine wt9 ?_ ?_ | refine wt12 ?_ | (with_reducible rfl) | assumption)); all_goals (first | rfl | assumption | (simp; done) | (simp; omega) | (rw[wrap_small (by omega) (by omega)]; done) | (rw[wrap_small (by omega) (by omega)]; omega) | (refine congrArg Nat.cast ?_; assumption))) (h1:iX 0 k ids=true:=by rfl) (h2:mJ k ids (H++gh szs)=true:=by rfl) (h3:nH ids.flatten=true:=by rfl):Sub k N fr H fr' H':=.to szs ids h5 h4 h1 h2 h3
theorem Sub.wr {k N:Nat} {fr fr':Fr} {H H':Heap} (szs:List Nat) (ids:List (List (Nat×Nat))) (h4:aI (ToB (ToT (H++gh szs) H.length (cH ids)) (rho ids)) (H++gh szs) ids H':=by(repeat' (first | exact aO.nil | exact aI.nil | exact bD.nil | exact ToL.nil | exact ToR.nil | refine aO.cons ?_ ?_ | refine aI.cons ?_ ?_ | refine f8 ?_ ?_ | exact To.undef _ | exact To.sc _ | exact To.hslL rfl rfl | exact To.ptrO rfl rfl rfl | exact To.mrefO rfl | exact To.nil rfl rfl rfl | exact wt1 | exact To.nilL | refine To.int ?_ | refine To.bool ?_ | refine To.hslL rfl ?_ | refine wt2 rfl ?_ ?_ ?_ | refine To.tupL ?_ | refine To.aggL ?_ | refine To.cptrL ?_ | refine To.fzp rfl rfl rfl ?_ | refine To.fzm rfl rfl ?_ | refine To.cloL ?_ ?_ | refine wt3 ?_ | refine wt4 ?_ | refine ToB.one ?_ | exact wt5 | refine ToB.rowsR (ToR.cons ?_ ?_) | refine ToR.cons ?_ ?_ | refine wt6 ?_ | ((with_reducible apply ToL.consE); case e9=>rfl) | refine ToL.cons ?_ ?_ | exact wt7 | refine wt8 ?_ | exact wt11 | refine wt9 ?_ ?_ | refine wt12 ?_ | (with_reducible rfl) | assumption)); all_goals (first | rfl | assumption | (simp; done) | (simp; omega) | (rw[wrap_small (by omega) (by omega)]; done) | (rw[wrap_small (by omega) (by omega)]; omega) | (refine congrArg Nat.cast ?_; assumption)))
  (h5:aO (ToT (H++gh szs) H.length (cH ids)) (rho ids) fr fr':=by(repeat' (first | exact aO.nil | exact aI.nil | exact bD.nil | exact ToL.nil | exact ToR.nil | refine aO.cons ?_ ?_ | refine aI.cons ?_ ?_ | refine f8 ?_ ?_ | exact To.undef _ | exact To.sc _ | exact To.hslL rfl rfl | exact To.ptrO rfl rfl rfl | exact To.mrefO rfl | exact To.nil rfl rfl rfl | exact wt1 | exact To.nilL | refine To.int ?_ | refine To.bool ?_ | refine To.hslL rfl ?_ | refine wt2 rfl ?_ ?_ ?_ | refine To.tupL ?_ | refine To.aggL ?_ | refine To.cptrL ?_ | refine To.fzp rfl rfl rfl ?_ | refine To.fzm rfl rfl ?_ | refine To.cloL ?_ ?_ | refine wt3 ?_ | refine wt4 ?_ | refine ToB.one ?_ | exact wt5 | refine ToB.rowsR (ToR.cons ?_ ?_) | refine ToR.cons ?_ ?_ | refine wt6 ?_ | ((with_reducible apply ToL.consE); case e9=>rfl) | refine ToL.cons ?_ ?_ | exact wt7 | refine wt8 ?_ | exact wt11 | refine wt9 ?_ ?_ | refine wt12 ?_ | (with_reducible rfl) | assumption)); all_goals (first | rfl | assumption | (simp; done) | (simp; omega) | (rw[wrap_small (by omega) (by omega)]; done) | (rw[wrap_small (by omega) (by omega)]; omega) | (refine congrArg Nat.cast ?_; assumption))) (h1:iX 0 k ids=true:=by rfl) (h2:mJ k ids (H++gh szs)=true:=by rfl) (h3:nH ids.flatten=true:=by rfl):Sub k N fr H fr' H':=.to szs ids h5 h4 h1 h2 h3
theorem fM.w {rs:List gJ} {X:AV} {e:Exit} {fr:Fr} {H:Heap} {res:AV} (he:e=.normal∨e=.ret:=by first | exact .inr rfl | exact .inl rfl) (h:eF fr H rs=some res:=by rfl)
  (t:To (ToT (H++gh []) H.length (cH [])) (rho []) res X:=by(repeat' (first | exact aO.nil | exact aI.nil | exact bD.nil | exact ToL.nil | exact ToR.nil | refine aO.cons ?_ ?_ | refine aI.cons ?_ ?_ | refine f8 ?_ ?_ | exact To.undef _ | exact To.sc _ | exact To.hslL rfl rfl | exact To.ptrO rfl rfl rfl | exact To.mrefO rfl | exact To.nil rfl rfl rfl | exact wt1 | exact To.nilL | refine To.int ?_ | refine To.bool ?_ | refine To.hslL rfl ?_ | refine wt2 rfl ?_ ?_ ?_ | refine To.tupL ?_ | refine To.aggL ?_ | refine To.cptrL ?_ | refine To.fzp rfl rfl rfl ?_ | refine To.fzm rfl rfl ?_ | refine To.cloL ?_ ?_ | refine wt3 ?_ | refine wt4 ?_ | exact wt5 | refine wt6 ?_ | refine ToB.one ?_ | exact wt7 | ((with_reducible apply ToL.consE); case e9=>rfl) | refine wt8 ?_ | refine ToL.cons ?_ ?_ | exact wt11 | refine wt9 ?_ ?_ | refine wt12 ?_ | (with_reducible rfl) | assumption)); all_goals (first | rfl | assumption | (simp; done) | (simp; omega) | (rw[wrap_small (by omega) (by omega)]; done) | (rw[wrap_small (by omega) (by omega)]; omega) | (refine congrArg Nat.cast ?_; assumption))):fM rs X e fr H:=.mk he h rfl t
theorem endW {k:Nat} {rs:List gJ} {fr:Fr} {H:Heap} {e:Exit} {R:AV→Heap→Prop} {res res':AV} {H2:Heap} (ids:List (List (Nat×Nat))) (hR:R res' H2) (he:e=.normal∨e=.ret:=by first | exact .inr rfl | exact .inl rfl) (hres:eF fr H rs=some res:=by rfl)
  (h5:To (ToT (H++gh []) H.length (cH ids)) (rho ids) res res':=by(repeat' (first | exact aO.nil | exact aI.nil | exact bD.nil | exact ToL.nil | exact ToR.nil | refine aO.cons ?_ ?_ | refine aI.cons ?_ ?_ | refine f8 ?_ ?_ | exact To.undef _ | exact To.sc _ | exact To.hslL rfl rfl | exact To.ptrO rfl rfl rfl | exact To.mrefO rfl | exact To.nil rfl rfl rfl | exact wt1 | exact To.nilL | refine To.int ?_ | refine To.bool ?_ | refine To.hslL rfl ?_ | refine wt2 rfl ?_ ?_ ?_ | refine To.tupL ?_ | refine To.aggL ?_ | refine To.cptrL ?_ | refine To.fzp rfl rfl rfl ?_ | refine To.fzm rfl rfl ?_ | refine To.cloL ?_ ?_ | refine wt3 ?_ | refine wt4 ?_ | exact wt5 | refine wt6 ?_ | refine ToB.one ?_ | exact wt7 | ((with_reducible apply ToL.consE); case e9=>rfl) | refine wt8 ?_ | refine ToL.cons ?_ ?_ | exact wt11 | refine wt9 ?_ ?_ | refine wt12 ?_ | (with_reducible rfl) | assumption)); all_goals (first | rfl | assumption | (simp; done) | (simp; omega) | (rw[wrap_small (by omega) (by omega)]; done) | (rw[wrap_small (by omega) (by omega)]; omega) | (refine congrArg Nat.cast ?_; assumption))) (h4:aI (ToB (ToT (H++gh []) H.length (cH ids)) (rho ids)) (H++gh []) ids H2:=by(repeat' (first | exact aO.nil | exact aI.nil | exact bD.nil | exact ToL.nil | exact ToR.nil | refine aO.cons ?_ ?_ | refine aI.cons ?_ ?_ | refine f8 ?_ ?_ | exact To.undef _ | exact To.sc _ | exact To.hslL rfl rfl | exact To.ptrO rfl rfl rfl | exact To.mrefO rfl | exact To.nil rfl rfl rfl | exact wt1 | exact To.nilL | refine To.int ?_ | refine To.bool ?_ | refine To.hslL rfl ?_ | refine wt2 rfl ?_ ?_ ?_ | refine To.tupL ?_ | refine To.aggL ?_ | refine To.cptrL ?_ | refine To.fzp rfl rfl rfl ?_ | refine To.fzm rfl rfl ?_ | refine To.cloL ?_ ?_ | refine wt3 ?_ | refine wt4 ?_ | exact wt5 | refine wt6 ?_ | refine ToB.one ?_ | exact wt7 | ((with_reducible apply ToL.consE); case e9=>rfl) | refine wt8 ?_ | refine ToL.cons ?_ ?_ | exact wt11 | refine wt9 ?_ ?_ | refine wt12 ?_ | (with_reducible rfl) | assumption)); all_goals (first | rfl | assumption | (simp; done) | (simp; omega) | (rw[wrap_small (by omega) (by omega)]; done) | (rw[wrap_small (by omega) (by omega)]; omega) | (refine congrArg Nat.cast ?_; assumption))) (h1:iX 0 k ids=true:=by rfl) (h2:mJ k ids (H++gh [])=true:=by rfl) (h3:nH ids.flatten=true:=by rfl):
  (e=.normal∨e=.ret)∧∃ res res' H2,eF fr H rs=some res∧cQ k H res H2 res'∧R res' H2:=zM ids he hres hR h5 h4 h1 h2 h3
end Go.Av
namespace Go.Av
end Go.Av
namespace Go.Av
inductive Pl
 | nil
 | take (i:Nat) (p:Pl)
 | only (i:Nat) (p:Pl)
 | two (i:Nat) (p:Pl) (j:Nat) (q:Pl)
def frB (cl:List Nat) (i j:Nat):List Nat→List Nat→Bool
 | _,[]=>true
 | pre,x::r=>(Nat.beq x i || (Nat.beq x j || pre.any fun a=>bef cl a x)) && frB cl i j (pre++[x]) r
theorem yR {cl:List Nat} {i j:Nat}:∀ {A pre:List Nat} {x:Nat} {B:List Nat},frB cl i j pre (A++x::B)=true→x=i∨x=j∨∃ a∈pre++A,bef cl a x=true
 | [],pre,x,B,h=>by
  simp only[List.nil_append,frB,Bool.and_eq_true,Bool.or_eq_true,List.any_eq_true] at h
  rcases h.1 with h | h | ⟨a,ha,hb⟩
  ·exact .inl (Nat.eq_of_beq_eq_true h)
  ·exact .inr (.inl (Nat.eq_of_beq_eq_true h))
  ·exact .inr (.inr ⟨a,by simpa using ha,hb⟩)
 | y::A,pre,x,B,h=>by
  simp only[List.cons_append,frB,Bool.and_eq_true] at h
  rcases yR h.2 with h | h | ⟨a,ha,hb⟩
  ·exact .inl h
  ·exact .inr (.inl h)
  ·exact .inr (.inr ⟨a,by simpa using ha,hb⟩)
def noB (i:Nat) (l:List Nat):Bool:=l.all fun a=>!Nat.beq a i
theorem nJ {i:Nat} {l:List Nat} (h:noB i l=true):i∉l:=fun hm=>by
 have:=List.all_eq_true.1 h i hm
 simp at this
theorem vT {i:Nat} {A B A' B':List Nat} (e:A++i::B=A'++i::B') (h1:i∉A') (h2:i∉B'):A=A'∧B=B':=by
 rcases List.append_eq_append_iff.1 e with⟨C,e1,e2⟩ | ⟨C,e1,e2⟩
 ·cases C with
  | nil=>
   simp only[List.append_nil] at e1
   simp only[List.nil_append,List.cons.injEq] at e2
   exact⟨e1.symm,e2.2⟩
  | cons c C=>
   simp only[List.cons_append,List.cons.injEq] at e2
   obtain⟨rfl,_⟩:=e2
   exact absurd (by rw[e1]; simp) h1
 ·cases C with
  | nil=>
   simp only[List.append_nil] at e1
   simp only[List.nil_append,List.cons.injEq] at e2
   exact⟨e1,e2.2.symm⟩
  | cons c C=>
   simp only[List.cons_append,List.cons.injEq] at e2
   obtain⟨rfl,e3⟩:=e2
   exact absurd (by rw[e3]; simp) h2
def y3 (cl:List Nat) (zs:List IOper):Pl→List Nat→Bool
 | .nil,rem=>rem.isEmpty
 | .take i pl,rem=>match mD i rem,zs[i]? with
  | some (A,B),some x=>tD x && (A.all (fun j=>!bef cl i j && iN zs x j) && (B.all (fun j=>bef cl i j || iN zs x j) && y3 cl zs pl (A++B)))
  | _,_=>false
 | .only i pl,rem=>match rem with
  | a::B=>Nat.beq a i && (B.all (fun j=>bef cl i j) && y3 cl zs pl B)
  | []=>false
 | .two i p j q,rem=>frB cl i j [] rem && match mD i rem,mD j rem with
  | some (A,B),some (C,D)=>(noB i A && (noB i B && y3 cl zs p (A++B))) && (noB j C && (noB j D && y3 cl zs q (C++D)))
  | _,_=>false
def LP2 (P:Program) (k:Nat) (cl:List Nat) (zs:List IOper):Pl→List (Nat×List (Nat×Nat))→Fr→Heap→(Fr→Heap→Prop)→Prop
 | .nil,_,fr,H,K=>K fr H
 | .take i pl,pend,fr,H,K=>∃ x B,zs[i]?=some x∧(∀ q∈rdX fr x,q∈B)∧RT P k [(x,[])] fr H fun fr' H'=>LP2 P k cl zs pl (FL i B pend) fr' H' K
 | .only i pl,pend,fr,H,K=>∃ x,zs[i]?=some x∧RT P k [(x,bY cl pend i)] fr H fun fr' H'=>LP2 P k cl zs pl pend fr' H' K
 | .two i p j q,pend,fr,H,K=>(∃ x,zs[i]?=some x∧RT P k [(x,bY cl pend i)] fr H fun fr' H'=>LP2 P k cl zs p pend fr' H' K)∧∃ x,zs[j]?=some x∧RT P k [(x,bY cl pend j)] fr H fun fr' H'=>LP2 P k cl zs q pend fr' H' K
theorem LP2.sound {P:Program} {k:Nat} {cl:List Nat} {zs:List IOper}:∀(pl:Pl) (rem l:List Nat) (pend:List (Nat×List (Nat×Nat))) {fr:Fr} {H:Heap} {K:Fr→Heap→Prop},y3 cl zs pl rem=true→bP (fun a b=>¬ bef cl a b=true) rem l →
  LP2 P k cl zs pl pend fr H K→RT P k (l.map (jH cl zs pend)) fr H (Kc K)
 | .nil,rem,l,pend,fr,H,K,hok,hs,h=>by
  have e:rem=[]:=by cases rem with | nil=>rfl | cons=>cases hok
  rw[hs.nil_inv e]
  exact .nil (.of h)
 | .two i p j q,rem,l,pend,fr,H,K,hok,hs,h=>by
  simp only[y3,Bool.and_eq_true] at hok
  obtain⟨hf,hok⟩:=hok
  split at hok
  ·rename_i A B C D e1 e2
   simp only[Bool.and_eq_true] at hok
   obtain⟨⟨a1,a2,a3⟩,b1,b2,b3⟩:=hok
   have s1:=fZ e1
   have s2:=fZ e2
   obtain⟨⟨x,hx,hi⟩,y,hy,hj⟩:=h
   cases hs with
   | nil=>simp at s1
   | cons A0 z B0 l hA hs=>
    rcases yR hf with h | h | ⟨a,ha,hb⟩
    ·subst h
     obtain⟨rfl,rfl⟩:=vT s1 (nJ a1) (nJ a2)
     rw[List.map_cons,eY hx]
     exact RT.cons (hi.mono fun fr' H' h=>LP2.sound p _ l pend a3 hs h)
    ·subst h
     obtain⟨rfl,rfl⟩:=vT s2 (nJ b1) (nJ b2)
     rw[List.map_cons,eY hy]
     exact RT.cons (hj.mono fun fr' H' h=>LP2.sound q _ l pend b3 hs h)
    ·exact absurd hb (hA a (by simpa using ha))
  ·cases hok
 | .only i pl,rem,l,pend,fr,H,K,hok,hs,h=>by
  cases rem with
  | nil=>cases hok
  | cons a B=>
   simp only[y3,Bool.and_eq_true] at hok
   obtain⟨e,hB,hok⟩:=hok
   have:=Nat.eq_of_beq_eq_true e
   subst this
   obtain⟨l1,l2,q1,q2,q3⟩:=hs.pull [] a B rfl
   have e1:l1=[]:=by
    cases l1 with
    | nil=>rfl
    | cons j l1=>
     rcases q3 j (List.mem_cons_self ..) with h | ⟨h,h'⟩
     ·cases h
     ·exact absurd (List.all_eq_true.1 hB j h) h'
   subst e1
   subst q1
   obtain⟨x,hx,h⟩:=h
   rw[List.nil_append,List.map_cons,eY hx]
   exact RT.cons (h.mono fun fr' H' h=>LP2.sound pl B l2 pend hok q2 h)
 | .take i pl,rem,l,pend,fr,H,K,hok,hs,h=>by
  simp only[y3] at hok
  split at hok
  ·rename_i A B x e1 e2
   simp only[Bool.and_eq_true] at hok
   obtain⟨hq,hA,hB,hok⟩:=hok
   have e:=fZ e1
   obtain⟨l1,l2,q1,q2,q3⟩:=hs.pull A i B e
   obtain⟨x',C,hx,hC,h⟩:=h
   rw[e2] at hx
   injection hx with hx
   subst hx
   subst q1
   rw[List.map_append,List.map_cons,eY e2]
   have hap:∀ j∈l1,¬ bef cl i j=true∧iN zs x j=true:=fun j hj=>by
    rcases q3 j hj with h | ⟨h,h'⟩
    ·have:=List.all_eq_true.1 hA j h
     simp only[Bool.and_eq_true,Bool.not_eq_true'] at this
     exact⟨by rw[this.1]; simp,this.2⟩
    ·have:=List.all_eq_true.1 hB j h
     simp only[Bool.or_eq_true] at this
     exact⟨h',this.resolve_left h'⟩
   have key:∀(pend':List (Nat×List (Nat×Nat))),(∀ j,∀ q∈bY cl pend j,q∈bY cl pend' j)→(∀ j,¬ bef cl i j=true→∀ q∈C,q∈bY cl pend' j)→∀(v:AV),t5 x fr H v C→LP2 P k cl zs pl pend' (fr.put x.dst v) H K →
     RT P k (l1.map (jH cl zs pend)++(x,bY cl pend i)::l2.map (jH cl zs pend)) fr H (Kc K):=by
    intro pend' h1 h2 v ht h
    have hrt:=LP2.sound pl (A++B) (l1++l2) pend' hok q2 h
    rw[List.map_append] at hrt
    have hins:=RT.insert (px:=bY cl pend i) (B:=C) (l1.map (jH cl zs pend')) hrt ht fun a ha=>by
     obtain⟨j,hj,rfl⟩:=List.mem_map.1 ha
     obtain⟨p1,p2⟩:=hap j hj
     unfold iN at p2
     split at p2
     ·rename_i y hy
      rw[eY hy]
      exact⟨p2,h2 j p1⟩
     ·cases p2
    have hdrop:∀(L L':List (IOper×List (Nat×Nat))),iT L' L→∀ {fr:Fr} {H:Heap} {K:Fr→Heap→Prop},RT P k L fr H K→RT P k L' fr H K:=by
     intro L L' hf
     induction hf with
     | nil=>exact fun h=>h
     | @cons a b L' L hab _ ih=>
      obtain⟨a1,a2⟩:=a
      obtain⟨b1,b2⟩:=b
      obtain⟨rfl,hsub⟩:=hab
      have kk:∀ {H H':Heap},dE b2 H H'→dE a2 H H':=fun {H H'} h=>by
       have hm:=h.mem
       clear h
       induction a2 with
       | nil=>trivial
       | cons q r ihr=>exact⟨hm q (hsub q (List.mem_cons_self ..)),ihr fun p hp=>hsub p (List.mem_cons_of_mem _ hp)⟩
      intro fr H K h
      cases h with
      | op hg hx hs hp h=>exact .op hg hx hs (kk hp) (ih h)
      | skip hg h=>exact .skip hg (ih h)
      | call hk hg hx hc hp h=>exact .call hk hg hx hc (fun res H' hr=>kk (hp res H' hr)) fun res H' hr=>ih (h res H' hr)
      | callV hk hg hx hf hc hp h=>exact .callV hk hg hx hf hc (fun res H' hr=>kk (hp res H' hr)) fun res H' hr=>ih (h res H' hr)
    have fm:∀ L:List Nat,iT (L.map (jH cl zs pend)) (L.map (jH cl zs pend')):=fun L=>by
     induction L with
     | nil=>exact .nil
     | cons j L ih=>exact .cons ⟨rfl,h1 j⟩ ih
    have fa:∀ {a b c d:List (IOper×List (Nat×Nat))},iT a b→iT c d→iT (a++c) (b++d):=fun {a b c d} h1 h2=>by
     induction h1 with
     | nil=>exact h2
     | cons h _ ih=>exact .cons h ih
    exact(hdrop _ _ (fa (fm l1) (.cons ⟨rfl,fun q hq=>hq⟩ (fm l2))) hins).mono fun _ _=>Kc.kc
   have fin:∀ {fr':Fr} {H':Heap} {K':Fr→Heap→Prop},RT P k [] fr' H' K'→K' fr' H':=fun h=>by
    cases h with
    | nil h=>exact h
   have mk:∀(v:AV),t5 x fr H v C→LP2 P k cl zs pl (FL i C pend) (fr.put x.dst v) H K→RT P k (l1.map (jH cl zs pend)++(x,bY cl pend i)::l2.map (jH cl zs pend)) fr H (Kc K):=by
    intro v ht h
    cases C with
    | nil=>exact key pend (fun _ _ h=>h) (fun _ _ q hq=>by cases hq) v ht h
    | cons c C=>
     refine key ((i,c::C)::pend) (fun j q hq=>?_) (fun j hj q hq=>?_) v ht h
     ·simp only[bY]
      split
      ·exact hq
      ·exact List.mem_append_right _ hq
     ·simp only[bY]
      split
      ·rename_i hb; exact absurd hb hj
      ·exact List.mem_append_left _ hq
   unfold tD at hq
   cases h with
   | @op _ _ _ _ _ _ o v H' hg hxa hst hp h=>
    rw[hxa] at hq
    obtain⟨rfl,hst'⟩:=sZ (g':=H.length) (i':=0) (oI hq _ _ _) hst
    refine mk v (.inl ⟨hg,o,hxa,hq,hst',fun q hq'=>hC q ?_⟩) (fin h)
    unfold rdX
    rw[hxa]
    exact hq'
   | skip hg h=>exact mk _ (.inr ⟨hg,rfl⟩) (fin h)
   | call hk hg hxa=>rw[hxa] at hq; cases hq
   | callV hk hg hxa=>rw[hxa] at hq; cases hq
  ·cases hok
section
variable {P:Program} {k:Nat} {fr:Fr} {H:Heap} {K:Fr→Heap→Prop} {cl:List Nat} {zs:List IOper} {i j:Nat} {x y:IOper} {p q:Pl} {pend:List (Nat×List (Nat×Nat))}
theorem LP2.z (h:K fr H):LP2 P k cl zs .nil pend fr H K:=h
theorem LP2.t0 (h:RT P k [(x,[])] fr H fun fr' H'=>LP2 P k cl zs p pend fr' H' K) (hx:zs[i]?=some x:=by rfl) (hB:rdX fr x=[]:=by rfl):LP2 P k cl zs (.take i p) pend fr H K:=⟨x,[],hx,fun q hq=>by rw[hB] at hq; exact hq,h⟩
theorem LP2.t1 {g b:Nat} (h:RT P k [(x,[])] fr H fun fr' H'=>LP2 P k cl zs p ((i,[(g,b)])::pend) fr' H' K) (hx:zs[i]?=some x:=by rfl) (hB:rdX fr x=[(g,b)]:=by rfl):LP2 P k cl zs (.take i p) pend fr H K:=⟨x,[(g,b)],hx,fun q hq=>by rw[hB] at hq; exact hq,h⟩
theorem LP2.t2 {g b g' b':Nat} (h:RT P k [(x,[])] fr H fun fr' H'=>LP2 P k cl zs p ((i,[(g,b),(g',b')])::pend) fr' H' K) (hx:zs[i]?=some x:=by rfl) (hB:rdX fr x=[(g,b),(g',b')]:=by rfl):LP2 P k cl zs (.take i p) pend fr H K:=
 ⟨x,[(g,b),(g',b')],hx,fun q hq=>by rw[hB] at hq; exact hq,h⟩
theorem LP2.c (h:RT P k [(x,bY cl pend i)] fr H fun fr' H'=>LP2 P k cl zs p pend fr' H' K) (hx:zs[i]?=some x:=by rfl):LP2 P k cl zs (.only i p) pend fr H K:=⟨x,hx,h⟩
theorem LP2.w (h1:RT P k [(x,bY cl pend i)] fr H fun fr' H'=>LP2 P k cl zs p pend fr' H' K) (h2:RT P k [(y,bY cl pend j)] fr H fun fr' H'=>LP2 P k cl zs q pend fr' H' K) (hx:zs[i]?=some x:=by rfl) (hy:zs[j]?=some y:=by rfl):LP2 P k cl zs (.two i p j q) pend fr H K:=
 ⟨⟨x,hx,h1⟩,y,hy,h2⟩
end
end Go.Av
namespace Go.Av
set_option maxRecDepth 20000
theorem EU {P:Program} {op:Op} {x:Operand} (h:IZ P op=some (.mop .next [x])):op=.next x false:=by
 unfold IZ at h
 split at h
 ·revert h; split<;>simp
 ·simp only[oIn,IOp.mop.injEq,List.cons.injEq,and_true,true_and] at h
  subst h
  rfl
 all_goals (revert h; (repeat' split)<;>simp; done)
set_option maxHeartbeats 1000000 in
theorem H8 {P:Program} {op:Op} {e:MOp} {xs:List Operand} (h:FS P op=some (.mop e xs)):False:=by
 unfold FS at h
 split at h
 all_goals (revert h; (repeat' split)<;>simp; done)
set_option maxHeartbeats 1000000 in
theorem JJ {P:Program} {op:Op} {e:MOp} {xs:List Operand} (h:cop P op=some (.mop e xs)):False:=by
 unfold cop at h
 split at h
 all_goals (revert h; (repeat' split)<;>simp; done)
theorem DL {P:Program} {op:Op} {x:Operand} (h:sY P op=some (.op (.mop .next [x]))):op=.next x false:=by
 unfold sY at h
 split at h
 ·rename_i io hx
  simp only[oIn,IAct.op.injEq] at h
  subst h
  exact EU hx
 split at h
 ·rename_i io hx
  simp only[oIn,IAct.op.injEq] at h
  subst h
  exact(H8 hx).elim
 ·unfold xH at h
  split at h
  ·cases h
  ·cases h
  ·cases h
  ·simp only[Option.map_eq_some_iff,IAct.op.injEq] at h
   obtain⟨a,ha,rfl⟩:=h
   exact(JJ ha).elim
theorem Reg.next {P:Program} {N k:Nat} {xs:List IOper} {fr:Fr} {H:Heap} {K:Fr→Heap→Prop} {d:Nat} {gd:Option (Nat×Bool)} {x:Operand} {g i:Nat} {cur:Option (Value×AV)} {es:List (Value×AV)} (hg:gok fr gd=some true)
  (hx:ev fr x=.ptr g i 0 0) (hh:hget H g i=some (.it cur es))
  (h0:es=[]→Reg P N k xs ((d,.tup [.sc (.bool false)])::fr) H K)
  (h1:∀ l1 y l2,es=l1++y::l2→Reg P N k xs ((d,.tup [.sc (.bool true),.sc y.1,y.2])::fr) (aJ H g i (.it (some y) (l1++l2))) K):
  Reg P N k (⟨some d,gd,.op (.mop .next [x])⟩::xs) fr H K:=by
 intro ops l hm M J tmps w hF hH hM Q hQ
 cases l with
 | nil=>exact hm.elim
 | cons i0 l=>
  obtain⟨⟨o0,ho,hc⟩,hm'⟩:=hm
  obtain⟨c1,c2,c3⟩:=dJ hc
  have hw:=cJ hF c2 hg
  have hop:=DL c3
  have rx:=aH (ds:=[]) hF x
  rw[hx] at rx
  simp only[wpOps,ho,hw,if_true]
  left
  generalize hcv:Act.eval ⟨tmps,[]⟩ x=cv at rx
  cases rx with
  | ptr _ _ _ _ β lc hJ hb=>
   rw[Nat.zero_mul] at hcv
   obtain⟨ob,e1,e2⟩:=hH.its hh hJ hb
   rcases C1 (P:=P) hM e1 e2 o0.type with⟨e3,hrun⟩ | ⟨l1,l2,y,e,w1,ob',e3,hw1,hrun,e4,e5,e6,e7⟩
   ·have hrun2:(execOp (Act.eval ⟨tmps,[]⟩) o0).run P w=.ok (.value (.tuple #[.bool false])) w:=by simp[execOp,hop,hcv,hrun]
    simp only[Oper.wp,hrun2,Oper.upon]
    rw[cE]
    exact h0 e3 ops l hm' M J _ w (hF.put c1 (.tup _ _ rfl fun j c v a b=>by
     cases j with
     | zero=>simp at a b; subst a; subst b; exact .sc _
     | succ j=>simp at a)) hH hM Q hQ
   ·have hrun2:(execOp (Act.eval ⟨tmps,[]⟩) o0).run P w=.ok (.value (.tuple #[.bool true,e.key,e.val])) (ChangeMaps.setBlock w1 β ob'):=by simp[execOp,hop,hcv,hrun]
    have s1:aQ k M J H w M J H w1:=by
     rcases hw1 with rfl | rfl
     ·exact .refl k hH hM
     ·exact aQ.drew k hH hM rfl rfl rfl rfl
    have hw1h:w1.heap[β]?=some ob:=by rcases hw1 with rfl | rfl<;>exact e1
    have s2:aQ k M J H w1 M J (aJ H g i (.it (some y) (l1++l2))) (ChangeMaps.setBlock w1 β ob'):=by
     refine aQ.write k s1.hrep s1.mrep g i lc β _ hh rfl hJ hb ob' _ (fun _=>⟨β,ob',hb,?_,e7⟩) rfl rfl rfl rfl
     show(w1.heap.setIfInBounds β ob')[β]?=some ob'
     simp[bM hw1h]
    simp only[Oper.wp,hrun2,Oper.upon]
    rw[cE]
    have st:=s1.trans s2
    refine h1 l1 y l2 e3 ops l hm' M J _ _ (hF.put c1 (.tup _ _ rfl fun j c v a b=>?_)) st.hrep st.mrep Q fun a' w'' hp=>hQ a' w'' ?_
    ·match j with
     | 0=>simp at a b; subst a; subst b; exact .sc _
     | 1=>simp at a b; subst a; subst b; rw[← e4]; exact .sc _
     | 2=>simp at a b; subst a; subst b; exact e5
     | j+3=>simp at a
    ·obtain⟨M2,J2,fr2,H2,q1,q2,q3,q4⟩:=hp
     exact⟨M2,J2,fr2,H2,st.trans q1,q2,q3,q4⟩
end Go.Av
