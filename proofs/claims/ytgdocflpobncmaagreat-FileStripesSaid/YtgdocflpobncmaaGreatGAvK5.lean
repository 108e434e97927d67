import Derived.Test.YtgdocflpobncmaaGreatGAv21
import Derived.Test.YtgdocflpobncmaaGreatGAvVG
import Derived.Test.YtgdocflpobncmaaGreatGAvI
import Derived.Test.YtgdocflpobncmaaGreatGAvF
namespace Go.Av
def gR (P:Program) (H:Heap) (r:a6) (s t:Fr):Prop:=
 t=s.put r.x.dst r.v ∧
 ((gok s r.x.guard=some true∧∃ o,r.x.act=.op o∧aC H.length 0 o s H=some (r.v,H)) ∨
  (gok s r.x.guard=some true∧∃ f args,r.x.act=.call f args∧aD P f (avals s args) H fun res H'=>res=r.v∧H'=H) ∨
  (gok s r.x.guard=some false∧r.v=.sc Go.undef))
theorem gR.ext {P:Program} {H:Heap} {r:a6} {s s1 s2:Fr} (h:gR P H r s s1) (ht:∀ t∈r.x.tmps,s2.get t=s.get t):gR P H r s2 (s2.put r.x.dst r.v):=by
 obtain⟨ha,hg⟩:=f4 ht
 refine⟨rfl,?_⟩
 rcases h.2 with⟨h1,o,h2,h3⟩ | ⟨h1,f,args,h2,h3⟩ | ⟨h1,h2⟩
 ·refine .inl ⟨by rw[hg,h1],o,h2,?_⟩
  rw[gA (g:=H.length) (i:=0) (H:=H) (fr:=s) (fr2:=s2) fun x hx=>?_]
  ·exact h3
  ·exact ha x (by rw[h2]; exact hx)
 ·have hav:avals s2 args=avals s args:=List.map_congr_left fun x hx=>ha x (by rw[h2]; exact hx)
  exact .inr (.inl ⟨by rw[hg,h1],f,args,h2,by rw[hav]; exact h3⟩)
 ·exact .inr (.inr ⟨by rw[hg,h1],h2⟩)
def FC (s t:Fr):Prop:=∀ a,s.get a=t.get a
theorem xB {a b:a6} (ha:a.wr=[]) (h:dH a b=true):iK a.x.dst b.x.tmps=true∧iK b.x.dst a.x.tmps=true∧iC a.x.dst b.x.dst=true:=by
 simp only[dH,Bool.or_eq_true,Bool.and_eq_true] at h
 rcases h with⟨h1,h2,h3,_⟩ | h
 ·exact⟨h1,h2,h3⟩
 ·obtain⟨_,_,_,_,p,h1,_⟩:=nL h
  rw[ha] at h1
  cases h1
theorem gR.swap {P:Program} {H:Heap} {a b:a6} {s s1 s2:Fr} (ha:gR P H a s s1) (hb:gR P H b s1 s2) (hw:a.wr=[]) (hi:dH a b=true):∃ t s2',gR P H b s t∧gR P H a t s2'∧FC s2' s2:=by
 obtain⟨i1,i2,i3⟩:=xB hw hi
 have e1:=ha.1
 have e2:=hb.1
 refine⟨s.put b.x.dst b.v,(s.put b.x.dst b.v).put a.x.dst a.v,hb.ext fun u hu=>by rw[e1,fS i1 hu],ha.ext fun u hu=>by rw[fS i2 hu],fun u=>?_⟩
 rw[e2,e1]
 exact(y7 i3 u).symm
def hZ (P:Program) (H:Heap):List a6→Fr→Fr→Prop
 | [],s,t=>FC s t
 | r::l,s,t=>∃ s1,gR P H r s s1∧hZ P H l s1 t
theorem hZ.ext {P:Program} {H:Heap}:∀ {l:List a6} {s s2 t:Fr},hZ P H l s t→FC s s2→hZ P H l s2 t
 | [],_,_,_,h,he=>fun a=>(he a).symm.trans (h a)
 | r::l,s,s2,t,⟨s1,h1,h2⟩,he=>⟨_,h1.ext fun u _=>(he u).symm,hZ.ext h2 fun u=>by rw[h1.1,eJ,eJ,he]⟩
theorem hZ.bubble {P:Program} {H:Heap} {r:a6} {B:List a6}:∀ {A:List a6} {s t:Fr},hZ P H (A++r::B) s t→(∀ a∈A,dH a r=true∧a.wr=[])→∃ s1,gR P H r s s1∧hZ P H (A++B) s1 t
 | [],s,t,h,_=>h
 | a::A,s,t,⟨s1,h1,h2⟩,hi=>by
  obtain⟨s2,q1,q2⟩:=hZ.bubble h2 (fun x hx=>hi x (List.mem_cons_of_mem _ hx))
  obtain⟨u,s2',p1,p2,p3⟩:=h1.swap q1 (hi a (List.mem_cons_self ..)).2 (hi a (List.mem_cons_self ..)).1
  exact⟨u,p1,s2',p2,hZ.ext q2 fun v=>(p3 v).symm⟩
theorem zG {P:Program} {N k:Nat} {ops:Array Oper} {H:Heap} {t:Fr} {rem:List (Nat×a6)} {l:List Nat} (hk:k≤H.length) (hsch:tL rem l):
  (∀ p∈rem,∃ o,ops[p.1]?=some o∧gW P N ops o=some p.2.x)→(∀ p∈rem,p.2.wr=[])→∀(s:Fr) M J tmps w,aT N M J s tmps→aP M J H w.heap→aZ M w.heap→hZ P H (rem.map (·.2)) s t →
   ∀ Q,(∀ a' w',yD k N M J H w (fun fr H'=>fr=t∧H'=H) a' w'→Q Exit.normal a' w')→wpOps P ops Q l ⟨tmps,[]⟩ w:=by
 induction hsch with
 | nil=>
  intro _ _ s M J tmps w hF hH hM hrun Q hQ
  refine hQ _ _ ⟨M,J,t,H,aQ.refl k hH hM,⟨hF.1,fun u=>?_⟩,rfl,rfl,rfl⟩
  rw[← hrun u]
  exact hF.2 u
 | cons A i r B l hi hs ih=>
  intro hops hwr s M J tmps w hF hH hM hrun Q hQ
  have hmem:(i,r)∈A++(i,r)::B:=List.mem_append_right _ (List.mem_cons_self ..)
  have hsub:∀ p∈A++B,p∈A++(i,r)::B:=fun p hp=>(List.mem_append.1 hp).elim (fun h=>List.mem_append_left _ h) fun h=>List.mem_append_right _ (List.mem_cons_of_mem _ h)
  obtain⟨o0,ho,hc⟩:=hops _ hmem
  obtain⟨c1,c2,c3⟩:=dJ hc
  simp only[List.map_append,List.map_cons] at hrun
  obtain⟨s1,hstep,hrest⟩:=hZ.bubble hrun fun a ha=>by
   obtain⟨p,hp,rfl⟩:=List.mem_map.1 ha
   exact⟨hi p hp,hwr p (List.mem_append_left _ hp)⟩
  have hrest':hZ P H ((A++B).map (·.2)) s1 t:=by rw[List.map_append]; exact hrest
  have go:∀(M':Mem) (J':Inj) (tmps':Array Value) (w':World),aQ k M J H w M' J' H w'→aT N M' J' s1 tmps'→wpOps P ops Q l ⟨tmps',[]⟩ w':=by
   intro M' J' tmps' w' hst hF'
   refine ih (fun p hp=>hops p (hsub p hp)) (fun p hp=>hwr p (hsub p hp)) s1 M' J' tmps' w' hF' hst.hrep hst.mrep hrest' Q fun a' w'' hp=>hQ a' w'' ?_
   obtain⟨M2,J2,fr2,H2,q1,q2,q3,q4⟩:=hp
   exact⟨M2,J2,fr2,H2,hst.trans q1,q2,q3,q4⟩
  obtain⟨hf,hcase⟩:=hstep
  rcases hcase with⟨h1,o,h2,h3⟩ | ⟨h1,f,args,h5,h6⟩ | ⟨h1,h4⟩
  ·have hw:=cJ hF c2 h1
   rw[h2] at c3
   obtain⟨cv,w',J',hrun',hrep,hext,hst,_⟩:=oW (ds:=[]) c3 hF hH hM (.inr ⟨rfl,rfl⟩) hH.fresh h3
   simp only[wpOps,ho,hw,if_true]
   left
   have hnext:wpOps P ops Q l (Act.put ⟨tmps,[]⟩ o0.dst cv) w':=by
    rw[cE]
    refine go M J' _ w' (hst k) ?_
    rw[hf]
    exact(hF.ext hext).put c1 hrep
   rcases hrun' with hrun' | ⟨hrun',rfl⟩
   ·simp only[Oper.wp,hrun',Oper.upon]; exact hnext
   ·simp only[Oper.wp,hrun',Oper.upon]; exact hnext
  ·have hw:=cJ hF c2 h1
   simp only[wpOps,ho,hw,if_true]
   left
   rw[h5] at c3
   obtain⟨args',ts,hop,rfl⟩:=o3 c3
   obtain⟨e1,e2⟩:=dD (ds:=[]) hF args'.toList _ rfl args' rfl
   have hexec:(execOp (Act.eval ⟨tmps,[]⟩) o0).run P w=.ok (.enter f (args'.map (Act.eval ⟨tmps,[]⟩))) w:=by
    have he:Act.eval ⟨tmps,[]⟩ (.func f)=.func (.func f) #[] #[]:=rfl
    simp only[execOp,hop,resolve,he,Deferred.ofValue,Sem.run_bind,Sem.run_pure,Result.andThen_ok,invoke]
    rw[show #[]++args'.map (Act.eval ⟨tmps,[]⟩)++#[]=args'.map (Act.eval ⟨tmps,[]⟩) by simp]
    exact dM h6.1 _ _
   simp only[Oper.wp,hexec,Oper.upon]
   refine(h6.2 M J w _ e1 e2 hH hM).mono ?_
   rintro e w' ⟨v,M',J',res,H',rfl,hst,hrep,rfl,rfl⟩
   simp only
   have hext:Ext M J M' J':=⟨hst.m,fun g i l hJ=>hst.j g i l (by
    have:=(hH.dom g i l hJ).1
    unfold hget at this
    split at this
    ·rename_i f hf; exact(gEs.1 hf).1
    ·cases this) hJ⟩
   rw[cE]
   refine go M' J' _ w' (hst.mono hk) ?_
   rw[hf]
   exact(hF.ext hext).put c1 hrep
  ·have hw:=cJ hF c2 h1
   simp only[wpOps,ho,hw,Bool.false_eq_true,if_false]
   rw[cE]
   refine go M J _ w (aQ.refl k hH hM) ?_
   rw[hf,h4]
   exact hF.put c1 (.sc _)
def FD (P:Program) (H:Heap) (xs:List IOper) (fr:Fr) (acc:List a6) (K:List a6→Fr→Prop):Prop:=
 ∃ R fr',R.map (·.x)=xs∧(∀ r∈R,r.wr=[])∧hZ P H R fr fr'∧K (acc.reverse++R) fr'
section
variable {P:Program} {xs:List IOper} {fr:Fr} {H:Heap} {v:AV} {acc:List a6} {K:List a6→Fr→Prop} {d:Nat} {gd:Option (Nat×Bool)}
theorem FD.nil (h:K acc.reverse fr):FD P H [] fr acc K:=⟨[],fr,rfl,fun _ h=>by simp at h,fun _=>rfl,by rw[List.append_nil]; exact h⟩
theorem FD.step {x:IOper} (hs:gR P H ⟨x,(0,0),v,[],[]⟩ fr (fr.put x.dst v)) (h:FD P H xs (fr.put x.dst v) (⟨x,(0,0),v,[],[]⟩::acc) K):FD P H (x::xs) fr acc K:=by
 obtain⟨R,fr',h1,h2,h3,h4⟩:=h
 refine⟨⟨x,(0,0),v,[],[]⟩::R,fr',by simp[h1],fun r hr=>?_,⟨_,hs,h3⟩,by simpa using h4⟩
 rcases List.mem_cons.1 hr with rfl | hr
 ·rfl
 ·exact h2 r hr
theorem FD.o {o:IOp} (hg:gok fr gd=some true) (hs:aC H.length 0 o fr H=some (v,H)) (h:FD P H xs ((d,v)::fr) (⟨⟨some d,gd,.op o⟩,(0,0),v,[],[]⟩::acc) K):FD P H (⟨some d,gd,.op o⟩::xs) fr acc K:=
 FD.step (x:=⟨some d,gd,.op o⟩) ⟨rfl,.inl ⟨hg,o,rfl,hs⟩⟩ h
theorem FD.c {f:FuncId} {args:List Operand} (hg:gok fr gd=some true) (hc:aD P f (avals fr args) H fun res H'=>res=v∧H'=H) (h:FD P H xs ((d,v)::fr) (⟨⟨some d,gd,.call f args⟩,(0,0),v,[],[]⟩::acc) K):FD P H (⟨some d,gd,.call f args⟩::xs) fr acc K:=
 FD.step (x:=⟨some d,gd,.call f args⟩) ⟨rfl,.inr (.inl ⟨hg,f,args,rfl,hc⟩)⟩ h
theorem FD.s {a:IAct} (hg:gok fr gd=some false) (h:FD P H xs ((d,.sc Go.undef)::fr) (⟨⟨some d,gd,a⟩,(0,0),.sc Go.undef,[],[]⟩::acc) K):FD P H (⟨some d,gd,a⟩::xs) fr acc K:=
 FD.step (x:=⟨some d,gd,a⟩) ⟨rfl,.inr (.inr ⟨hg,rfl⟩)⟩ h
end
theorem AWP.fd {P:Program} {N k:Nat} {fr:Fr} {H:Heap} {Q:Exit→Fr→Heap→Prop} {xs:List IOper} {af:List (List Nat)} (hp:P.follows .mixedOrders=true) (hk:k≤H.length)
  (h:FD P H xs fr [] fun R fr'=>chk af R=true∧Q .normal fr' H):AWP P N k (.draw xs af) Q fr H:=by
 obtain⟨R,fr',hrx,hwr,hrun,hchk,h⟩:=h
 change chk af R=true at hchk
 intro c0 hc cx M J tmps w hcx hF hH hM
 cases c0 with
 | region id ops draw=>
  simp only[bI] at hc
  split at hc
  ·rename_i ys hys
   cases draw with
   | false=>cases hc
   | true=>
    injection hc with hc
    injection hc with hc1 hc2
    subst hc1; subst hc2
    refine wpIn_region_draw fun t=>eR hcx ?_
    rw[hp]
    have hsch:Region.schedule true ops t=Region.linearise .any ops t:=by simp[Region.schedule]
    rw[hsch]
    obtain⟨hlen,hgx⟩:=eL _ _ hys
    have hRlen:R.length=ops.size:=by
     have:=congrArg List.length hrx
     simp at this
     rw[this,hlen]
     simp
    let R':Nat→a6:=fun j=>R.getD j ⟨⟨none,none,.call 0 []⟩,(0,0),.undef,[],[]⟩
    have hR':∀ j,j < ops.size→R[j]?=some (R' j):=by
     intro j hj
     have:j < R.length:=by omega
     simp[R',List.getD,this]
    have haf:∀ j l,(ops.toList.map cS)[j]?=some l→a8 ops j=l:=by
     intro j l hj
     rw[List.getElem?_map,Array.getElem?_toList] at hj
     unfold a8
     cases ho:ops[j]? with
     | none=>rw[ho] at hj; cases hj
     | some o=>rw[ho] at hj; simpa using hj
    simp only[chk,Bool.and_eq_true] at hchk
    have hs:=j4 ops R' (fun j k hk=>by
     have hl:(ops.toList.map cS)[j]?=some (a8 ops j):=by
      rw[List.getElem?_map,Array.getElem?_toList]
      unfold a8 at hk ⊢
      cases ho:ops[j]? with
      | none=>rw[ho] at hk; cases hk
      | some o=>rfl
     have:=eN _ 0 hchk.1 j _ hl k hk
     omega) (fun a b hab hb=>by
     have h1:=gK _ 0 hchk.2 b _ (hR' b hb)
     rcases jO _ 0 h1 a _ (hR' a (by omega)) (by omega) with h2 | h2
     ·left
      rw[Nat.zero_add,Nat.zero_add] at h2
      exact bT haf _ _ _ h2
     ·exact .inr h2) t
    have hrem:((List.range ops.size).map fun j=>(j,R' j)).map (·.2)=R:=by
     apply List.ext_getElem?
     intro j
     rw[List.map_map,List.getElem?_map]
     by_cases hj:j < ops.size
     ·rw[hR' j hj,List.getElem?_range hj]
      rfl
     ·have h1:(List.range ops.size)[j]?=none:=List.getElem?_eq_none (by rw[List.length_range]; omega)
      have h2:R[j]?=none:=List.getElem?_eq_none (by omega)
      rw[h1,h2]
      rfl
    refine zG (k:=k) (N:=N) (t:=fr') hk hs (fun p hp=>?_) (fun p hp=>?_) fr M J tmps { w with drawn:=w.drawn+1 } hF hH hM (by rw[hrem]; exact hrun) _ fun a' w' hp=>?_
    ·obtain⟨j,hj,rfl⟩:=List.mem_map.1 hp
     have hj:=List.mem_range.1 hj
     have ho:ops[j]?=some ops[j]:=Array.getElem?_eq_getElem hj
     obtain⟨x,hx1,hx2⟩:=hgx j ops[j] (by rw[Array.getElem?_toList]; exact ho)
     refine⟨ops[j],ho,?_⟩
     have:some (R' j).x=some x:=by
      rw[← hx1,← hrx,List.getElem?_map,hR' j hj]
      rfl
     injection this with this
     rw[this]
     exact hx2
    ·obtain⟨j,hj,rfl⟩:=List.mem_map.1 hp
     have hj:=List.mem_range.1 hj
     exact hwr _ (List.mem_of_getElem? (hR' j hj))
    ·obtain⟨M2,J2,fr2,H2,q1,q2,q3,q4,q5⟩:=hp
     subst q4; subst q5
     refine⟨rfl,M2,J2,fr2,H2,?_,q2,q3,h⟩
     exact⟨q1.m,q1.j,q1.hrep,q1.mrep,q1.os,(by first | exact q1.tape | exact⟨q1.tape.1,Nat.le_trans (Nat.le_succ _) q1.tape.2⟩),q1.output,q1.size,q1.frame,q1.fresh,q1.live,q1.bk⟩
  ·cases hc
 | _=>simp only[bI] at hc; (try split at hc)<;>(try cases hc)<;>(try simp at hc)
end Go.Av
namespace Go.Av
noncomputable def dfL (f:AV→Option AV) (l:List AV):Option (List AV):=List.rec (motive:=fun _=>Option (List AV)) (some []) (fun a _ ih=>match f a with
 | some b=>match ih with
  | some r=>some (b::r)
  | none=>none
 | none=>none) l
noncomputable def dfR (f:AV→Option AV) (l:List (List AV)):Option (List (List AV)):=List.rec (motive:=fun _=>Option (List (List AV))) (some []) (fun a _ ih=>match dfL f a with
 | some b=>match ih with
  | some r=>some (b::r)
  | none=>none
 | none=>none) l
noncomputable def dfA (H:Heap) (f:AV→Option AV) (a:AV):Option AV:=
 match a with
 | .undef=>some .undef
 | .sc v=>some (.sc v)
 | .one=>some .one
 | .agg cs=>match dfL f cs with
  | some r=>some (.agg r)
  | none=>none
 | .tup cs=>match dfL f cs with
  | some r=>some (.tup r)
  | none=>none
 | .cptr cs=>match dfL f cs with
  | some r=>some (.cptr r)
  | none=>none
 | .list sz rows=>match dfR f rows with
  | some r=>some (.list sz r)
  | none=>none
 | .clo fn fs cs=>match dfL f fs with
  | some r=>match dfL f cs with
   | some q=>some (.clo fn r q)
   | none=>none
  | none=>none
 | .hsl g i s l=>match kP H g i with
  | some (.cells sz rows)=>match Nat.ble (s+l) rows.length with
   | true=>match dfR f ((rows.drop s).take l) with
    | some r=>some (.list sz r)
    | none=>none
   | false=>none
  | _=>none
 | .ptr g i row 0=>match kP H g i with
  | some (.cells _ rows)=>match kO rows row with
   | some r=>match dfL f r with
    | some q=>some (.cptr q)
    | none=>none
   | none=>none
  | _=>none
 | _=>none
noncomputable def dfz (H:Heap) (n:Nat):AV→Option AV:=
 Nat.rec (motive:=fun _=>AV→Option AV) (fun _=>none) (fun _ ih a=>dfA H ih a) n
section
variable {H:Heap} {n:Nat}
abbrev DF (H:Heap) (n:Nat) (a b:AV):Prop:=To (ToT H n (cH [])) (rho []) a b∧aX b
theorem fE {f:AV→Option AV} (hf:∀ a b,f a=some b→DF H n a b):∀(l m:List AV),dfL f l=some m→ToL (ToT H n (cH [])) (rho []) l m∧∀ c∈m,aX c
 | [],m,h=>by injection h with h; subst h; exact⟨ToL.nil,fun c hc=>by cases hc⟩
 | a::l,m,h=>by
  replace h:(match f a with | some b=>(match dfL f l with | some r=>some (b::r) | none=>none) | none=>none)=some m:=h
  split at h
  ·rename_i b e1
   split at h
   ·rename_i r e2
    injection h with h
    subst h
    obtain⟨h1,h2⟩:=hf a b e1
    obtain⟨h3,h4⟩:=fE hf l r e2
    exact⟨ToL.cons h1 h3,fun c hc=>by
     rcases List.mem_cons.1 hc with rfl | hc
     ·exact h2
     ·exact h4 c hc⟩
   ·cases h
  ·cases h
theorem qS {f:AV→Option AV} (hf:∀ a b,f a=some b→DF H n a b):∀(l m:List (List AV)),dfR f l=some m→ToR (ToT H n (cH [])) (rho []) l m∧∀ r∈m,∀ c∈r,aX c
 | [],m,h=>by injection h with h; subst h; exact⟨ToR.nil,fun c hc=>by cases hc⟩
 | a::l,m,h=>by
  replace h:(match dfL f a with | some b=>(match dfR f l with | some r=>some (b::r) | none=>none) | none=>none)=some m:=h
  split at h
  ·rename_i b e1
   split at h
   ·rename_i r e2
    injection h with h
    subst h
    obtain⟨h1,h2⟩:=fE hf a b e1
    obtain⟨h3,h4⟩:=qS hf l r e2
    exact⟨ToR.cons h1 h3,fun c hc=>by
     rcases List.mem_cons.1 hc with rfl | hc
     ·exact h2
     ·exact h4 c hc⟩
   ·cases h
  ·cases h
theorem sS:∀(d:Nat) (a b:AV),dfz H d a=some b→DF H n a b
 | 0,a,b,h=>by cases h
 | d+1,a,b,h=>by
  have ih:=sS d
  replace h:dfA H (dfz H d) a=some b:=h
  unfold dfA at h
  split at h
  ·injection h with h; subst h; exact⟨.undef _,.undef⟩
  ·injection h with h; subst h; exact⟨.sc _,.sc _⟩
  ·injection h with h; subst h; exact⟨.one,.one⟩
  ·split at h
   ·rename_i r e
    injection h with h; subst h
    obtain⟨h1,h2⟩:=fE ih _ _ e
    exact⟨To.aggL h1,.agg _ h2⟩
   ·cases h
  ·split at h
   ·rename_i r e
    injection h with h; subst h
    obtain⟨h1,h2⟩:=fE ih _ _ e
    exact⟨To.tupL h1,.tup _ h2⟩
   ·cases h
  ·split at h
   ·rename_i r e
    injection h with h; subst h
    obtain⟨h1,h2⟩:=fE ih _ _ e
    exact⟨To.cptrL h1,.cptr _ h2⟩
   ·cases h
  ·split at h
   ·rename_i r e
    injection h with h; subst h
    obtain⟨h1,h2⟩:=qS ih _ _ e
    exact⟨To.listR h1,.list _ _ h2⟩
   ·cases h
  ·split at h
   ·rename_i r e
    split at h
    ·rename_i q e2
     injection h with h; subst h
     obtain⟨h1,h2⟩:=fE ih _ _ e
     obtain⟨h3,h4⟩:=fE ih _ _ e2
     exact⟨To.cloL h1 h3,.clo _ _ _ h2 h4⟩
    ·cases h
   ·cases h
  ·rename_i g i s l
   rw[eH] at h
   split at h
   ·rename_i sz rows e
    split at h
    ·rename_i hb
     split at h
     ·rename_i r e2
      injection h with h; subst h
      obtain⟨h1,h2⟩:=qS ih _ _ e2
      exact⟨.base (.fz (.hsl g i s l sz rows rfl e (nlB hb))) (To.listR h1),.list _ _ h2⟩
     ·cases h
    ·cases h
   ·cases h
  ·rename_i g i row
   rw[eH] at h
   split at h
   ·rename_i sz rows e
    rw[eG] at h
    split at h
    ·rename_i r e1
     split at h
     ·rename_i q e2
      injection h with h; subst h
      obtain⟨h1,h2⟩:=fE ih _ _ e2
      exact⟨To.fzp e rfl e1 (To.cptrL h1),.cptr _ h2⟩
     ·cases h
    ·cases h
   ·cases h
  ·cases h
theorem MC (d:Nat) (H:Heap) (a b:AV) (h:dfz H d a=some b):cQ 0 H a [] b∧aX b:=by
 obtain⟨h1,h2⟩:=sS (n:=H.length) d a b h
 refine⟨?_,h2⟩
 have e:H++gh []=H:=List.append_nil H
 refine cQ.to (k:=0) [] [] (by rw[e]; exact h1) ?_ rfl rfl rfl
 exact aI.nil
end
noncomputable def FT.toFr (T:FT):(Nat→Nat)→Fr→Fr:=
 FT.rec (motive:=fun _=>(Nat→Nat)→Fr→Fr) (fun _ r=>r)
  (fun v _ _ ihl ihr pos r=>match v with
   | .undef=>ihl (fun n=>pos (Nat.succ (Nat.mul 2 n))) (ihr (fun n=>pos (Nat.succ (Nat.succ (Nat.mul 2 n)))) r)
   | v=>(pos 0,v)::ihl (fun n=>pos (Nat.succ (Nat.mul 2 n))) (ihr (fun n=>pos (Nat.succ (Nat.succ (Nat.mul 2 n)))) r)) T
theorem FT.toFr_mem:∀(T:FT) (pos:Nat→Nat) (r:Fr) (x:Nat×AV),x∈T.toFr pos r→x∈r∨∃ n,x.1=pos n∧T.get n=x.2:=by
 intro T
 induction T with
 | leaf=>intro pos r x h; exact .inl h
 | node v l rr ihl ihr=>
  intro pos r x h
  have key:x∈FT.toFr l (fun n=>pos (Nat.succ (Nat.mul 2 n))) (FT.toFr rr (fun n=>pos (Nat.succ (Nat.succ (Nat.mul 2 n)))) r)→x∈r∨∃ n,x.1=pos n∧(FT.node v l rr).get n=x.2:=by
   intro h
   rcases ihl _ _ _ h with h | ⟨n,h1,h2⟩
   ·rcases ihr _ _ _ h with h | ⟨n,h1,h2⟩
    ·exact .inl h
    ·refine .inr ⟨Nat.succ (Nat.succ (Nat.mul 2 n)),h1,?_⟩
     show(match Nat.beq (Nat.mod (Nat.succ (Nat.mul 2 n)) 2) 0 with | true=>l.get (Nat.div (Nat.succ (Nat.mul 2 n)) 2) | false=>rr.get (Nat.div (Nat.succ (Nat.mul 2 n)) 2))=x.2
     have e1:Nat.mod (Nat.succ (Nat.mul 2 n)) 2=1:=by show(2 * n+1) % 2=1; omega
     have e2:Nat.div (Nat.succ (Nat.mul 2 n)) 2=n:=by show(2 * n+1) / 2=n; omega
     rw[e1,e2]
     exact h2
   ·refine .inr ⟨Nat.succ (Nat.mul 2 n),h1,?_⟩
    show(match Nat.beq (Nat.mod (Nat.mul 2 n) 2) 0 with | true=>l.get (Nat.div (Nat.mul 2 n) 2) | false=>rr.get (Nat.div (Nat.mul 2 n) 2))=x.2
    have e1:Nat.mod (Nat.mul 2 n) 2=0:=by show(2 * n) % 2=0; omega
    have e2:Nat.div (Nat.mul 2 n) 2=n:=by show(2 * n) / 2=n; omega
    rw[e1,e2]
    exact h2
  have key2:x∈((pos 0,v)::FT.toFr l (fun n=>pos (Nat.succ (Nat.mul 2 n))) (FT.toFr rr (fun n=>pos (Nat.succ (Nat.succ (Nat.mul 2 n)))) r))→x∈r∨∃ n,x.1=pos n∧(FT.node v l rr).get n=x.2:=by
   intro h
   rcases List.mem_cons.1 h with rfl | h
   ·exact .inr ⟨0,rfl,rfl⟩
   ·exact key h
  cases v<;>first | exact key h | exact key2 h
theorem FT.toFr_sub:∀(T:FT) (pos:Nat→Nat) (r:Fr) (x:Nat×AV),x∈r→x∈T.toFr pos r:=by
 intro T
 induction T with
 | leaf=>intro pos r x h; exact h
 | node v l rr ihl ihr=>
  intro pos r x h
  have key:=ihl (fun n=>pos (Nat.succ (Nat.mul 2 n))) _ x (ihr (fun n=>pos (Nat.succ (Nat.succ (Nat.mul 2 n)))) r x h)
  cases v<;>first | exact key | exact List.mem_cons_of_mem _ key
theorem FT.mem_toFr:∀(T:FT) (pos:Nat→Nat) (r:Fr) (n:Nat),T.get n≠.undef→(pos n,T.get n)∈T.toFr pos r:=by
 intro T
 induction T with
 | leaf=>intro pos r n h; exact absurd (by cases n<;>rfl) h
 | node v l rr ihl ihr=>
  intro pos r n h
  have cons:∀ {x:Nat×AV},x∈FT.toFr l (fun n=>pos (Nat.succ (Nat.mul 2 n))) (FT.toFr rr (fun n=>pos (Nat.succ (Nat.succ (Nat.mul 2 n)))) r)→x∈FT.toFr (.node v l rr) pos r:=by
   intro x hx
   cases v<;>first | exact hx | exact List.mem_cons_of_mem _ hx
  cases n with
  | zero=>
   replace h:v≠.undef:=h
   show(pos 0,v)∈_
   cases v<;>first | exact absurd rfl h | exact List.mem_cons_self ..
  | succ m=>
   have hg:(FT.node v l rr).get (m+1)=match Nat.beq (Nat.mod m 2) 0 with | true=>l.get (Nat.div m 2) | false=>rr.get (Nat.div m 2):=rfl
   rw[hg] at h ⊢
   cases hb:Nat.beq (Nat.mod m 2) 0 with
   | true=>
    rw[hb] at h
    have e:=Nat.eq_of_beq_eq_true hb
    have:=ihl (fun n=>pos (Nat.succ (Nat.mul 2 n))) (FT.toFr rr (fun n=>pos (Nat.succ (Nat.succ (Nat.mul 2 n)))) r) (Nat.div m 2) h
    have e2:Nat.succ (Nat.mul 2 (Nat.div m 2))=m+1:=by
     show 2 * (m / 2)+1=m+1
     have:m % 2=0:=e
     omega
    simp only[e2] at this
    exact cons this
   | false=>
    rw[hb] at h
    have:=ihr (fun n=>pos (Nat.succ (Nat.succ (Nat.mul 2 n)))) r (Nat.div m 2) h
    have e2:Nat.succ (Nat.succ (Nat.mul 2 (Nat.div m 2)))=m+1:=by
     show 2 * (m / 2)+2=m+1
     have:¬ m % 2=0:=fun e=>by
      have:Nat.beq (Nat.mod m 2) 0=true:=by
       show Nat.beq (m % 2) 0=true
       rw[e]; rfl
      rw[this] at hb; cases hb
     omega
    simp only[e2] at this
    exact cons (FT.toFr_sub l _ _ _ this)
noncomputable def FT.fr (T:FT):Fr:=T.toFr (fun n=>n) []
theorem FT.fr_le {T:FT} {fr:Fr} (h:AgT fr T):∀ x∈T.fr,Le (fr.get x.1) x.2:=by
 intro x hx
 rcases FT.toFr_mem T _ _ x hx with h0 | ⟨n,h1,h2⟩
 ·simp at h0
 ·rw[h1,h n,h2]
  exact fun _ _ _ h=>h
theorem FT.fr_ag (T:FT):AgT T.fr T:=by
 have get_mem:∀(l:Fr) (t:Nat),Fr.get l t=.undef∨(t,Fr.get l t)∈l:=by
  intro l t
  induction l with
  | nil=>exact .inl rfl
  | cons p l ih=>
   obtain⟨d,v⟩:=p
   show(match Nat.beq d t with | true=>v | false=>Fr.get l t)=.undef∨(t,(match Nat.beq d t with | true=>v | false=>Fr.get l t))∈_
   cases hb:Nat.beq d t with
   | true=>
    have:=Nat.eq_of_beq_eq_true hb
    subst this
    exact .inr (List.mem_cons_self ..)
   | false=>
    rcases ih with h | h
    ·exact .inl h
    ·exact .inr (List.mem_cons_of_mem _ h)
 have mem_get:∀(l:Fr) (t:Nat) (v:AV),(t,v)∈l→(t,Fr.get l t)∈l:=by
  intro l t v h
  induction l with
  | nil=>cases h
  | cons p l ih=>
   obtain⟨d,u⟩:=p
   show(t,(match Nat.beq d t with | true=>u | false=>Fr.get l t))∈_
   cases hb:Nat.beq d t with
   | true=>
    have:=Nat.eq_of_beq_eq_true hb
    subst this
    exact List.mem_cons_self ..
   | false=>
    rcases List.mem_cons.1 h with h | h
    ·injection h with h1 h2
     subst h1
     simp at hb
    ·exact List.mem_cons_of_mem _ (ih h)
 have val:∀(t:Nat) (v:AV),(t,v)∈T.fr→T.get t=v:=by
  intro t v h
  rcases FT.toFr_mem T _ _ _ h with h0 | ⟨n,h1,h2⟩
  ·simp at h0
  ·simp only at h1 h2
   rw[h1,h2]
 intro t
 by_cases hu:T.get t=.undef
 ·rcases get_mem T.fr t with h | h
  ·rw[h,hu]
  ·exact(val _ _ h).symm
 ·have:=FT.mem_toFr T (fun n=>n) [] t hu
  exact(val _ _ (mem_get _ _ _ this)).symm
noncomputable def F8 (l:Fr):FT→Option FT:=
 List.rec (motive:=fun _=>FT→Option FT) (fun T=>some T) (fun p _ ih T=>match ih T with
  | some T'=>T'.putK p.1 p.2
  | none=>none) l
theorem xV:∀(l:Fr) (T T':FT) (fr:Fr),F8 l T=some T'→AgT fr T→AgT (l++fr) T'
 | [],T,T',fr,h,ha=>by injection h with h; subst h; exact ha
 | p::l,T,T',fr,h,ha=>by
  replace h:(match F8 l T with | some T'=>T'.putK p.1 p.2 | none=>none)=some T':=h
  split at h
  ·rename_i T1 e
   exact(xV l T T1 fr e ha).putK h
  ·cases h
theorem pL:∀(l:List (Nat×AV)) (fr:Fr),putL fr l=l.reverse++fr
 | [],fr=>rfl
 | p::l,fr=>by
  show putL (p::fr) l=_
  rw[pL l,List.reverse_cons,List.append_assoc]
  rfl
noncomputable def IG (call:bS) (k:Nat) (ys:List IOper) (d:Option Nat) (gd:Option (Nat×Bool)) (f:Cal) (args:List Operand) (other:XR):RR→XR
 | .out T H=>match gd with
  | none=>match kN T f with
   | .yld g i=>match call.yl g i (mapK T args) H with
    | some (b,H')=>Bool.rec (motive:=fun _=>XR) .stuck (jQ d (.sc (.bool b)) T H' (g6 call k ys)).x (Nat.ble k (cR H))
    | none=>.stuck
   | _=>other
  | some _=>other
 | .stuck=>other
noncomputable def M7 (call:bS) (k:Nat) (zs:List IOper) (T:FT) (H:Heap):XR:=
 match mA zs with
 | some (xs,⟨d,gd,.callV f args⟩,ys)=>IG call k ys d gd f args (g6 call k zs T H).x (g6 call k xs T H)
 | _=>(g6 call k zs T H).x
noncomputable def CU (call:bS) (af:List (List Nat)) (s:Nat) (ys:List IOper) (d:Option Nat) (T:FT) (r:Option (Bool×Heap)):XR:=
 match r with
 | some (b,H)=>match d with
  | none=>gO af s ys (iA call (cR H) ys 0 T (H++[List.replicate ys.length .dead]))
  | some t=>match T.putK t (.sc (.bool b)) with
   | some T'=>gO af s ys (iA call (cR H) ys 0 T' (H++[List.replicate ys.length .dead]))
   | none=>.stuck
 | none=>.stuck
noncomputable def CN (call:bS) (k:Nat) (af:List (List Nat)) (xs ys:List IOper) (d:Option Nat) (gd:Option (Nat×Bool)) (f:Cal) (args:List Operand) (other:XR):DR→XR
 | .out R T H=>match gd with
  | none=>match kN T f with
   | .yld g i=>match (GJ af (cR xs) (cR ys) && tP af 0 xs R) && Nat.ble k (cR H) with
    | true=>CU call af (Nat.succ (cR xs)) ys d T (call.yl g i (mapK T args) H)
    | false=>.stuck
   | _=>other
  | some _=>other
 | .stuck=>other
noncomputable def GG (call:bS) (k:Nat) (zs:List IOper) (af:List (List Nat)) (T:FT) (H:Heap):XR:=
 match mA zs with
 | some (xs,⟨d,gd,.callV f args⟩,ys)=>CN call k af xs ys d gd f args (BP call k zs af T H) (iA call (cR H) xs 0 T (H++[List.replicate xs.length .dead]))
 | _=>BP call k zs af T H
noncomputable def BU (T:FT) (h:Nat) (r:Option (AV×Heap)):XR:=
 match r with
 | some (_,H')=>match kP H' h 0 with
  | some (.lp _ _ st pe)=>match st with
   | .busy=>.stuck
   | _=>match lM H' h 0 .dead with
    | some H2=>match pe with
     | none=>.out .normal T H2
     | some .ret=>.out .ret T H2
     | some (.exit id)=>.out (.exit id) T H2
     | _=>.stuck
    | none=>.stuck
  | _=>.stuck
 | none=>.stuck
noncomputable def AN (call:bS) (N k:Nat) (f:Operand) (ps:List Nat) (qs:Array Tmp) (ra rb:Code) (T:FT) (H:Heap):XR:=
 match T.evK f with
 | .clo (.func g) fs cs=>match Nat.ble k (cR H) && List.all ps (Nat.blt · N) with
  | true=>match lM H (cR H) 0 (.lp ⟨N,qs,ra,rb⟩ T.fr .ready none) with
   | some H1=>BU T (cR H) (call.run g (fs++[.yld (cR H) 0]++cs) H1)
   | none=>.stuck
  | false=>.stuck
 | _=>.stuck
noncomputable def g9 (call:bS) (N k fuel:Nat) (c:cP):FT→Heap→XR:=
 cP.rec (motive:=fun _=>FT→Heap→XR)
  (fun T H=>.out .normal T H)
  (fun xs T H=>M7 call k xs T H)
  (fun xs af T H=>GG call k xs af T H)
  (fun _ _ a b T H=>FA b (a T H))
  (fun c _ _ a b T H=>FE (a T H) (b T H) (T.evK c))
  (fun id _ a T H=>IK id (a T H))
  (fun _ a T H=>B3 a fuel T H)
  (fun f ps _ _ qs ra rb _ _ T H=>AN call N k f ps qs ra rb T H)
  (fun id T H=>.out (.exit id) T H)
  (fun T H=>.out .ret T H)
  (fun _ _=>.stuck) c
def YOK (P:Program) (call:bS):Prop:=∀ g i args H b H',call.yl g i args H=some (b,H')→fO P g i args H fun b' H2=>b'=b∧H2=H'
section
variable {P:Program} {N k fuel:Nat} {call:bS}
theorem z6 (hcall:cG P call) (hy:YOK P call) {zs:List IOper} {T:FT} {H:Heap} {e:Exit} {T':FT} {H':Heap} (h:M7 call k zs T H=.out e T' H') {fr:Fr} (ha:AgT fr T) {Q:Exit→Fr→Heap→Prop} (hQ:∀ fr',AgT fr' T'→Q e fr' H'):
  AWP P N k (.region zs) Q fr H:=by
 have other:∀ {e:Exit} {T':FT} {H':Heap},(g6 call k zs T H).x=.out e T' H'→(∀ fr',AgT fr' T'→Q e fr' H')→AWP P N k (.region zs) Q fr H:=by
  intro e T' H' h hQ
  obtain⟨rfl,hr⟩:=RR.x_out h
  exact AWP.region (jM hcall hQ zs T H fr hr ha)
 unfold M7 at h
 split at h
 ·rename_i xs d gd f args ys hs
  unfold IG at h
  split at h
  ·rename_i T1 H1 hr
   split at h
   ·split at h
    ·rename_i g i hc
     split at h
     ·rename_i b H2 hyl
      cases hk:Nat.ble k (cR H1) with
      | false=>rw[hk] at h; cases h
      | true=>
       rw[hk] at h
       replace h:(jQ d (.sc (.bool b)) T1 H2 (g6 call k ys)).x=.out e T' H':=h
       obtain⟨rfl,h9⟩:=RR.x_out h
       clear h
       refine AWP.rG hs (jM hcall (fun fr1 ha1=>?_) xs T H fr hr ha)
       refine⟨rfl,by rw[← bQ]; exact nlB hk,g,i,?_,?_⟩
       ·cases f with
        | tmp t=>
         simp only[kN,FT.getK_eq] at hc
         show resM P (fr1.get t)=_
         rw[ha1 t]
         split at hc
         ·cases hc
         ·rw[hc]
          rfl
        | meth r name tbl=>
         simp only[kN] at hc
         split at hc
         ·split at hc<;>cases hc
         ·cases hc
       ·rw[ha1.mapK]
        refine(hy g i _ H1 b H2 hyl).mono ?_
        rintro b' H3 ⟨rfl,rfl⟩
        obtain⟨T2,h1,h2⟩:=cV h9 ha1
        exact jM hcall hQ ys T2 _ _ h2 h1
     ·cases h
    ·exact other h hQ
   ·exact other h hQ
  ·exact other h hQ
 ·exact other h hQ
theorem G5 {f:Cal} {T:FT} {fr:Fr} (ha:AgT fr T) {g i:Nat} (hc:kN T f=.yld g i):evC P fr f=.yld g i:=by
 cases f with
 | tmp t=>
  simp only[kN,FT.getK_eq] at hc
  show resM P (fr.get t)=_
  rw[ha t]
  split at hc
  ·cases hc
  ·rw[hc]
   rfl
 | meth r name tbl=>
  simp only[kN] at hc
  split at hc
  ·split at hc<;>cases hc
  ·cases hc
theorem wJ {af:List (List Nat)} {s:Nat} {ys:List IOper} {r:DR} {e:Exit} {T':FT} {H':Heap} (h:gO af s ys r=.out e T' H'):∃ R,r=.out R T' H'∧e=.normal∧tP af s ys R=true:=by
 unfold gO at h
 split at h
 ·rename_i R T H
  cases hc:tP af s ys R with
  | false=>rw[hc] at h; cases h
  | true=>
   rw[hc] at h
   injection h with h1 h2 h3
   subst h1; subst h2; subst h3
   exact⟨R,rfl,rfl,hc⟩
 ·cases h
theorem y5 (hp:P.follows .mixedOrders=true) (hcall:cG P call) (hy:YOK P call) {zs:List IOper} {af:List (List Nat)} {T:FT} {H:Heap} {e:Exit} {T':FT} {H':Heap} (h:GG call k zs af T H=.out e T' H') {fr:Fr} (ha:AgT fr T)
  {Q:Exit→Fr→Heap→Prop} (hQ:∀ fr',AgT fr' T'→Q e fr' H'):AWP P N k (.draw zs af) Q fr H:=by
 unfold GG at h
 split at h
 ·rename_i xs d gd f args ys hs
  unfold CN at h
  split at h
  ·rename_i R T1 H1 hr
   split at h
   ·split at h
    ·rename_i g i hc
     split at h
     ·rename_i hb
      simp only[Bool.and_eq_true] at hb
      obtain⟨⟨c0,c1⟩,hk⟩:=hb
      rw[bQ] at hr hk
      simp only[GJ,bQ,Bool.and_eq_true,List.all_eq_true,List.mem_range] at c0
      obtain⟨fr1,k1,k2,k3⟩:=fV hcall xs 0 T _ fr R T1 H1 hr ha
      have c2:=gV c1 k1.recs.1 k3
      refine AWP.drawYld (lB hs) hp c0.1 c0.2.1 c0.2.2 k1 c2 ⟨rfl,nlB hk,g,i,G5 k2 hc,?_⟩
      rw[k2.mapK]
      cases hyl:call.yl g i (mapK T1 args) H1 with
      | none=>rw[hyl] at h; cases h
      | some p=>
       obtain⟨b,H2⟩:=p
       rw[hyl] at h
       refine(hy g i _ H1 b H2 hyl).mono ?_
       rintro b' H3 ⟨rfl,rfl⟩
       have fin:∀ {T2:FT},AgT (fr1.put d (.sc (.bool b'))) T2→gO af (Nat.succ (cR xs)) ys (iA call (cR H3) ys 0 T2 (H3++[List.replicate ys.length .dead]))=.out e T' H' →
         ∃ R2 fr3 H4,d6 P H3.length 0 ys (fr1.put d (.sc (.bool b'))) (H3++[List.replicate ys.length .dead]) R2 fr3 H4∧lQ af (xs.length+1) R2∧Q .normal fr3 H4:=by
        intro T2 ha2 h
        obtain⟨R2,h1,rfl,h3⟩:=wJ h
        rw[bQ] at h1
        obtain⟨fr3,j1,j2,j3⟩:=fV hcall ys 0 T2 _ _ R2 T' H' h1 ha2
        have c3:=gV h3 j1.recs.1 j3
        rw[bQ] at c3
        exact⟨R2,fr3,_,j1,c3,hQ fr3 j2⟩
       simp only[CU] at h
       split at h
       ·exact fin k2 h
       ·split at h
        ·rename_i T2 e2
         exact fin (k2.putK e2) h
        ·cases h
     ·cases h
    ·exact iE hp hcall h ha hQ
   ·exact iE hp hcall h ha hQ
  ·exact iE hp hcall h ha hQ
 ·exact iE hp hcall h ha hQ
theorem D7 {Q:Exit→Fr→Heap→Prop} {T T':FT} {fr:Fr} {e:Exit} {H':Heap} (ha:AgT fr T) (hQ:∀ fr',AgT fr' T'→Q e fr' H') (o:Option Heap) (Hd:Heap) (ho:∀ H4,o=some H4→Hd=H4) (pe:Option Code)
  (h:(match o with
   | some H2=>match pe with
    | none=>XR.out .normal T H2
    | some .ret=>.out .ret T H2
    | some (.exit id)=>.out (.exit id) T H2
    | _=>.stuck
   | none=>.stuck)=.out e T' H'):match (generalizing:=false) pe with
  | none=>Q .normal fr Hd
  | some .ret=>Q .ret fr Hd
  | some (.exit id)=>Q (.exit id) fr Hd
  | _=>False:=by
 cases o with
 | none=>cases h
 | some H4=>
  rw[ho H4 rfl]
  simp only at h
  split at h
  ·injection h with h1 h2 h3
   subst h1; subst h2; subst h3
   exact hQ _ ha
  ·injection h with h1 h2 h3
   subst h1; subst h2; subst h3
   exact hQ _ ha
  ·injection h with h1 h2 h3
   subst h1; subst h2; subst h3
   exact hQ _ ha
  ·cases h
theorem xC (hcall:cG P call) {f:Operand} {ps:List Nat} {asg body:cP} {qs:Array Tmp} {ra rb:Code} {T:FT} {H:Heap} {e:Exit} {T':FT} {H':Heap} (h:AN call N k f ps qs ra rb T H=.out e T' H') {fr:Fr} (ha:AgT fr T)
  {Q:Exit→Fr→Heap→Prop} (hQ:∀ fr',AgT fr' T'→Q e fr' H'):AWP P N k (.rangeF f ps asg body qs ra rb) Q fr H:=by
 unfold AN at h
 split at h
 ·rename_i g fs cs hf
  split at h
  ·rename_i hb
   simp only[Bool.and_eq_true] at hb
   split at h
   ·rename_i H1 hs
    have hk:k≤H.length:=by rw[← bQ]; exact nlB hb.1
    have hH1:=gS _ _ _ _ _ hs
    rw[bQ] at hH1 h
    subst hH1
    refine AWP.sub (Sub.le (FT.fr_le ha)) ?_
    have ha2:=T.fr_ag
    have hf2:ev T.fr f=.clo (.func g) fs cs:=by rw[ha2.evK]; exact hf
    refine AWP.rangeC hf2 hk hb.2 fun _=>?_
    unfold BU at h
    split at h
    ·rename_i v H2 hr
     refine(hcall.run g _ _ v H2 hr).mono ?_
     rintro res H3 ⟨rfl,rfl⟩
     split at h
     ·rename_i L caps st pe hg
      rw[eH] at hg
      refine⟨L,caps,st,pe,hg,?_⟩
      cases st with
      | busy=>cases h
      | _=>exact⟨(by intro e; cases e),D7 ha2 hQ _ _ (fun H4 h4=>gS _ _ _ _ _ h4) pe h⟩
     ·cases h
    ·cases h
   ·cases h
  ·cases h
 ·cases h
theorem kR (hp:P.follows .mixedOrders=true) (hcall:cG P call) (hy:YOK P call):∀(c:cP) (T:FT) (H:Heap) (e:Exit) (T':FT) (H':Heap),g9 call N k fuel c T H=.out e T' H'→∀ fr,AgT fr T →
  ∀(Q:Exit→Fr→Heap→Prop),(∀ fr',AgT fr' T'→Q e fr' H')→AWP P N k c Q fr H:=by
 intro c
 induction c with
 | skip=>
  intro T H e T' H' h fr ha Q hQ
  injection h with h1 h2 h3
  subst h1; subst h2; subst h3
  exact AWP.skip (hQ fr ha)
 | region xs=>
  intro T H e T' H' h fr ha Q hQ
  exact z6 hcall hy h ha hQ
 | draw xs af=>
  intro T H e T' H' h fr ha Q hQ
  exact y5 hp hcall hy h ha hQ
 | seq a b iha ihb=>
  intro T H e T' H' h fr ha Q hQ
  rcases x6 (b:=g9 call N k fuel b) (r:=g9 call N k fuel a T H) h with⟨T1,H1,h1,h2⟩ | ⟨h1,h2⟩
  ·exact AWP.seq (iha T H _ T1 H1 h1 fr ha _ fun fr1 ha1=>ihb T1 H1 e T' H' h2 fr1 ha1 Q hQ)
  ·refine AWP.seq (iha T H _ T' H' h2 fr ha _ fun fr1 ha1=>?_)
   cases e with
   | normal=>exact absurd rfl h1
   | _=>exact hQ fr1 ha1
 | cond c a b iha ihb=>
  intro T H e T' H' h fr ha Q hQ
  replace h:FE (g9 call N k fuel a T H) (g9 call N k fuel b T H) (T.evK c)=.out e T' H':=h
  unfold FE at h
  split at h
  ·rename_i e1
   rw[← ha.evK] at e1
   exact AWP.condT e1 (iha T H e T' H' h fr ha Q hQ)
  ·rename_i e1
   rw[← ha.evK] at e1
   exact AWP.condF e1 (ihb T H e T' H' h fr ha Q hQ)
  ·cases h
 | block id a iha=>
  intro T H e T' H' h fr ha Q hQ
  replace h:IK id (g9 call N k fuel a T H)=.out e T' H':=h
  cases hr:g9 call N k fuel a T H with
  | stuck=>rw[hr] at h; cases h
  | out e1 T1 H1=>
   rw[hr] at h
   refine AWP.block (iha T H e1 T1 H1 hr fr ha _ fun fr1 ha1=>?_)
   cases e1 with
   | exit id'=>
    replace h:Bool.rec (motive:=fun _=>XR) (.out (.exit id') T1 H1) (.out .normal T1 H1) (Nat.beq id' id)=.out e T' H':=h
    show(match Nat.beq id' id with | true=>Q .normal | false=>Q (.exit id')) fr1 H1
    cases hb:Nat.beq id' id with
    | true=>
     rw[hb] at h
     injection h with h1 h2 h3
     subst h1; subst h2; subst h3
     exact hQ fr1 ha1
    | false=>
     rw[hb] at h
     injection h with h1 h2 h3
     subst h1; subst h2; subst h3
     exact hQ fr1 ha1
   | _=>
    injection h with h1 h2 h3
    subst h1; subst h2; subst h3
    exact hQ fr1 ha1
 | loop a iha=>
  intro T H e T' H' h fr ha Q hQ
  replace h:B3 (g9 call N k fuel a) fuel T H=.out e T' H':=h
  refine AWP.loop (σ:=Nat×FT×Heap×Fr) (fun s=>s.2.2.2) (fun s=>s.2.2.1) (fun s=>AgT s.2.2.2 s.2.1∧B3 (g9 call N k fuel a) s.1 s.2.1 s.2.2.1=.out e T' H') (fun s=>s.1) (fuel,T,H,fr) ⟨ha,h⟩ (Sub.refl _ _ _ _) ?_
  rintro⟨n,T1,H1,fr1⟩ ⟨ha1,h1⟩
  simp only at ha1 h1 ⊢
  cases n with
  | zero=>cases h1
  | succ n=>
   replace h1:FA (B3 (g9 call N k fuel a) n) (g9 call N k fuel a T1 H1)=.out e T' H':=h1
   rcases x6 h1 with⟨T2,H2,h2,h3⟩ | ⟨h2,h3⟩
   ·refine iha T1 H1 _ T2 H2 h2 fr1 ha1 _ fun fr2 ha2=>?_
    exact⟨(n,T2,H2,fr2),⟨ha2,h3⟩,Nat.lt_succ_self n,Sub.refl _ _ _ _⟩
   ·refine iha T1 H1 _ T' H' h3 fr1 ha1 _ fun fr2 ha2=>?_
    cases e with
    | normal=>exact absurd rfl h2
    | _=>exact hQ fr2 ha2
 | exit id=>
  intro T H e T' H' h fr ha Q hQ
  injection h with h1 h2 h3
  subst h1; subst h2; subst h3
  exact AWP.exit (hQ fr ha)
 | ret=>
  intro T H e T' H' h fr ha Q hQ
  injection h with h1 h2 h3
  subst h1; subst h2; subst h3
  exact AWP.ret (hQ fr ha)
 | rangeF f ps a b qs ra rb iha ihb=>
  intro T H e T' H' h fr ha Q hQ
  exact xC hcall h ha hQ
 | bad=>
  intro T H e T' H' h
  cases h
end
noncomputable def uB (a b:Bool):Bool:=Bool.rec (motive:=fun _=>Bool) false b a
theorem nI (a b:Bool):uB a b=(a && b):=by cases a<;>rfl
noncomputable def FU (k:Nat) (a:AV):Bool:=
 match a with
 | .sc _=>true
 | a=>i6 k a
noncomputable def DD (k:Nat) (l:List AV):Bool:=List.rec (motive:=fun _=>Bool) true (fun a _ ih=>uB (FU k a) ih) l
noncomputable def GD (k:Nat) (l:List (List AV)):Bool:=List.rec (motive:=fun _=>Bool) true (fun a _ ih=>uB (DD k a) ih) l
noncomputable def F9 (k:Nat) (b:Blk):Bool:=
 match b with
 | .dead=>true
 | .cells _ rows=>GD k rows
 | b=>rV k b
noncomputable def BO (k:Nat) (l:List Blk):Bool:=List.rec (motive:=fun _=>Bool) true (fun a _ ih=>uB (F9 k a) ih) l
noncomputable def HP (k:Nat) (H:Heap):Nat→Bool:=List.rec (motive:=fun _=>Nat→Bool) (fun _=>true) (fun f _ ih n=>match n with
 | 0=>true
 | Nat.succ m=>uB (BO k f) (ih m)) H
theorem G1 (k:Nat) (a:AV):FU k a=i6 k a:=by cases a<;>rfl
theorem IU (k:Nat) (l:List AV):DD k l=i7 k l:=by
 induction l with
 | nil=>rfl
 | cons a l ih=>
  show uB (FU k a) (DD k l)=(i6 k a && i7 k l)
  rw[nI,ih,G1]
theorem HM (k:Nat) (l:List (List AV)):GD k l=wN k l:=by
 induction l with
 | nil=>rfl
 | cons a l ih=>
  show uB (DD k a) (GD k l)=(i7 k a && wN k l)
  rw[nI,ih,IU]
theorem IF (k:Nat) (b:Blk):F9 k b=rV k b:=by
 cases b with
 | cells sz rows=>exact HM k rows
 | _=>rfl
theorem GM (k:Nat) (l:List Blk):BO k l=AZ k l:=by
 induction l with
 | nil=>rfl
 | cons a l ih=>
  show uB (F9 k a) (BO k l)=(rV k a && AZ k l)
  rw[nI,ih,IF]
theorem HR (k:Nat) (H:Heap):∀ n,HP k H n=z4 k n H:=by
 induction H with
 | nil=>intro n; cases n<;>rfl
 | cons f H ih=>
  intro n
  cases n with
  | zero=>rfl
  | succ n=>
   show uB (BO k f) (HP k H n)=(AZ k f && z4 k n H)
   rw[nI,ih,GM]
noncomputable def KA (k:Nat) (res:AV) (H:Heap):AV×Heap:=
 Bool.rec (motive:=fun _=>AV×Heap) (Bool.rec (motive:=fun _=>AV×Heap) (res,H) (res,H.take k) (uB (i6 k res) (HP k H k))) (res,H) (Nat.ble (cR H) (Nat.add k 150))
theorem IW (k:Nat) (res:AV) (H:Heap):cQ k H res (KA k res H).2 (KA k res H).1:=by
 unfold KA
 rw[nI,HR]
 cases Nat.ble (cR H) (Nat.add k 150) with
 | true=>exact .refl k H res
 | false=>
  cases e:i6 k res && z4 k k H with
  | false=>exact .refl k H res
  | true=>
   simp only[Bool.and_eq_true] at e
   exact .cut e.1 e.2
noncomputable def IN (k:Nat) (H:Heap) (r:Option AV):Option (AV×Heap):=
 match r with
 | some v=>some (KA k v H)
 | none=>none
noncomputable def finM (k:Nat) (rs:List gJ) (x:XR):Option (AV×Heap):=
 match x with
 | .out e T H=>match e with
  | .normal=>Bool.rec (motive:=fun _=>Option (AV×Heap)) none (IN k H (qU (lC T H rs))) (l9 T rs)
  | .ret=>Bool.rec (motive:=fun _=>Option (AV×Heap)) none (IN k H (qU (lC T H rs))) (l9 T rs)
  | _=>none
 | .stuck=>none
noncomputable def tF (call:bS) (fuel:Nat) (args:List AV) (H:Heap) (F:IFun):Option (AV×Heap):=
 match F with
 | ⟨n,code,res⟩=>match Nat.ble (cR args) n with
  | true=>match ID args 0 (FT.full 9) with
   | some T=>finM (cR H) res (g9 call n (cR H) fuel code T H)
   | none=>none
  | false=>none
noncomputable def BY (call:bS) (r:Option (AV×Heap)) (H:Heap):Option (AV×Heap):=
 match r with
 | some (v,H0)=>match call.frz H0 v with
  | some b=>some (b,H)
  | none=>none
 | none=>none
def zT:AV→Bool
 | .sc _=>true
 | _=>false
def GT:AV→Bool
 | .sc _=>true
 | .tup vs=>vs.all zT
 | .agg vs=>vs.all zT
 | _=>false
theorem pK {a:AV} (h:zT a=true):kM a:=by
 cases a<;>first | exact .sc _ | cases h
theorem x7 {a:AV} (h:GT a=true):kM a:=by
 cases a with
 | tup vs=>exact .tup _ fun c hc=>pK (List.all_eq_true.1 h c hc)
 | agg vs=>exact .agg _ fun c hc=>pK (List.all_eq_true.1 h c hc)
 | sc v=>exact .sc v
 | _=>cases h
noncomputable def K6 (call:bS) (fuel:Nat) (F:IFun) (args:List AV) (H:Heap):Option (AV×Heap):=
 match dfL (dfz H 12) args with
 | some args'=>match BY call (tF call fuel args' [] F) H with
  | some (b,_)=>match GT b with
   | true=>some (b,H)
   | false=>none
  | none=>none
 | none=>none
noncomputable def orM (a b:Option (AV×Heap)):Option (AV×Heap):=
 match a with
 | some r=>some r
 | none=>b
noncomputable def GB (tab:FuncId→Option IFun) (pz:List Nat) (call:bS) (fuel:Nat) (f:FuncId) (args:List AV) (H:Heap) (s:Option (AV×Heap)):Option (AV×Heap):=
 match s with
 | some r=>some r
 | none=>match tab f with
  | some F=>match pz.any (Nat.beq f) with
   | true=>match i7 0 args with
    | true=>BY call (tF call fuel args [] F) H
    | false=>orM (K6 call fuel F args H) (tF call fuel args H F)
   | false=>tF call fuel args H F
  | none=>none
noncomputable def zipK (ps:List Nat):List AV→Fr→Option Fr:=
 List.rec (motive:=fun _=>List AV→Fr→Option Fr) (fun as r=>match as with
  | []=>some r
  | _=>none) (fun p _ ih as r=>match as with
  | a::as=>ih as ((p,a)::r)
  | []=>none) ps
noncomputable def yN (g i:Nat) (r:XR):Option (Bool×Heap):=
 match r with
 | .out e _ H=>match kP H g i with
  | some (.lp L c .busy none)=>match e with
   | .normal=>match lM H g i (.lp L c .ready none) with
    | some H'=>some (true,H')
    | none=>none
   | .ret=>match lM H g i (.lp L c .done (some .ret)) with
    | some H'=>some (false,H')
    | none=>none
   | .exit id=>match lM H g i (.lp L c .done (some (.exit id))) with
    | some H'=>some (false,H')
    | none=>none
   | _=>none
  | _=>none
 | .stuck=>none
noncomputable def uT (call:bS) (fuel n k g i:Nat) (body:cP) (r:XR):Option (Bool×Heap):=
 match r with
 | .out .normal T H=>match kP H g i with
  | some (.lp L c .ready none)=>match lM H g i (.lp L c .busy none) with
   | some H1=>yN g i (g9 call n k fuel body T H1)
   | none=>none
  | _=>none
 | _=>none
noncomputable def AO (P:Program) (call:bS) (fuel:Nat) (g i:Nat) (args:List AV) (H:Heap):Option (Bool×Heap):=
 match kP H g i with
 | some (.lp ⟨n,ps,ra,rb⟩ caps .ready none)=>match bI P n ra,bI P n rb with
  | some asg,some body=>match List.all ps.toList (Nat.blt · n) with
   | true=>match zipK ps.toList args [] with
    | some l=>match F8 (l++caps) (FT.full 9) with
     | some T=>uT call fuel n (cR H) g i body (g9 call n (cR H) fuel asg T H)
     | none=>none
    | none=>none
   | false=>none
  | _,_=>none
 | _=>none
noncomputable def EJ (P:Program) (sum:Caller) (tab:FuncId→Option IFun) (pz:List Nat) (fuel:Nat) (d:Nat):bS:=
 Nat.rec (motive:=fun _=>bS) ⟨fun _ _ _=>none,fun _ _=>none,fun _ _ _ _=>none,fun _ _=>none⟩
  (fun _ ih=>⟨fun f args H=>GB tab pz ih fuel f (fnA args) H (sum f (fnA args) H),methF P,AO P ih fuel,fun H=>dfz H 12⟩) d
section
variable {P:Program} {k fuel:Nat} {call:bS}
theorem kT (hp:P.follows .mixedOrders=true) (hcall:cG P call) (hy:YOK P call) {f:FuncId} {F:IFun} (hf:aN P f=some F) {args:List AV} {H:Heap} {v:AV} {H':Heap} (h:tF call fuel args H F=some (v,H')):
  aD P f args H fun r H2=>r=v∧H2=H':=by
 obtain⟨n,code,res⟩:=F
 simp only[tF] at h
 split at h
 ·rename_i hn
  split at h
  ·rename_i T hT
   rw[bQ] at hn h
   have ha:AgT (eP 0 args) T:=by
    intro t
    rw[z3 args 0 _ T hT [] (fun t=>(FT.get_full 9 t).symm) (fun t _=>rfl) t]
    cases Fr.get (eP 0 args) t<;>rfl
   refine aD.of hf ?_ (nlB hn)
   unfold finM at h
   split at h
   ·rename_i e T1 H1 hx
    have key:Bool.rec (motive:=fun _=>Option (AV×Heap)) none (IN H.length H1 (qU (lC T1 H1 res))) (l9 T1 res)=some (v,H')→(e=.normal∨e=.ret) →
      AWP P n H.length code (fun e fr' Hx=>(e=.normal∨e=.ret)∧∃ r r' H2,eF fr' Hx res=some r∧cQ H.length Hx r H2 r'∧r'=v∧H2=H') (eP 0 args) H:=by
     intro h he
     cases hpt:l9 T1 res with
     | false=>rw[hpt] at h; cases h
     | true=>
      rw[hpt] at h
      replace h:IN H.length H1 (qU (lC T1 H1 res))=some (v,H'):=h
      unfold IN at h
      split at h
      ·rename_i u hu
       injection h with h
       have hs:=IW H.length u H1
       rw[h] at hs
       refine kR hp hcall hy code T H e T1 H1 hx _ ha _ fun fr' ha'=>⟨he,u,v,H',?_,hs,rfl,rfl⟩
       unfold qU at hu
       unfold eF
       split at hu
       ·rename_i x hx'
        rw[qT ha' res _ hpt hx']
        exact hu
       ·rename_i xs hne hx'
        rw[qT ha' res _ hpt hx']
        injection hu with hu
        subst hu
        split
        ·rename_i e1
         injection e1 with e1
         exact absurd e1 (hne _)
        ·rename_i e1
         injection e1 with e1
         rw[e1]
        ·rename_i e1
         cases e1
       ·cases hu
      ·cases h
    split at h
    ·exact key h (.inl rfl)
    ·exact key h (.inr rfl)
    ·cases h
   ·cases h
  ·cases h
 ·cases h
theorem BI:∀(ps:List Nat) (as:List AV) (r l:Fr),zipK ps as r=some l→as.length=ps.length∧l=(ps.zip as).reverse++r
 | [],as,r,l,h=>by
  cases as with
  | nil=>injection h with h; subst h; exact⟨rfl,rfl⟩
  | cons a as=>cases h
 | p::ps,as,r,l,h=>by
  cases as with
  | nil=>cases h
  | cons a as=>
   obtain⟨h1,h2⟩:=BI ps as ((p,a)::r) l h
   refine⟨by simp[h1],?_⟩
   rw[h2]
   simp
theorem xD (hp:P.follows .mixedOrders=true) (hcall:cG P call) (hy:YOK P call) {g i:Nat} {args:List AV} {H:Heap} {b:Bool} {H':Heap} (h:AO P call fuel g i args H=some (b,H')):
  fO P g i args H fun b' H2=>b'=b∧H2=H':=by
 unfold AO at h
 split at h
 ·rename_i n ps ra rb caps hg
  rw[eH] at hg
  split at h
  ·rename_i asg body e1 e2
   split at h
   ·rename_i hall
    split at h
    ·rename_i l hz
     split at h
     ·rename_i T hT
      obtain⟨z1,z2⟩:=BI _ _ _ _ hz
      have hpl:putL caps (ps.toList.zip args)=l++caps:=by rw[pL,z2,List.append_nil]
      have hT0:AgT (l++caps) T:=by
       have:=xV (l++caps) (FT.full 9) T [] hT (fun t=>(FT.get_full 9 t).symm)
       rwa[List.append_nil] at this
      refine⟨⟨n,ps,ra,rb⟩,caps,n,ps.toList,asg,body,⟨rfl,rfl,hall,e1,e2⟩,hg,z1,?_⟩
      rw[hpl]
      unfold uT at h
      split at h
      ·rename_i T1 H1 hx
       rw[bQ] at hx h
       split at h
       ·rename_i L1 c1 hg1
        rw[eH] at hg1
        split at h
        ·rename_i H2 hs
         have hs2:=gS _ _ _ _ _ hs
         refine kR hp hcall hy asg T H _ T1 H1 hx _ hT0 _ fun fr1 ha1=>⟨rfl,L1,c1,hg1,?_⟩
         rw[hs2]
         unfold yN at h
         split at h
         ·rename_i e T3 H3 hx3
          refine kR hp hcall hy body T1 H2 e T3 H3 hx3 _ ha1 _ fun fr3 _=>?_
          split at h
          ·rename_i L2 c2 hg3
           rw[eH] at hg3
           refine⟨L2,c2,hg3,?_⟩
           split at h
           ·split at h
            ·rename_i H4 h4
             injection h with h
             injection h with h5 h6
             exact⟨h5,by rw[gS _ _ _ _ _ h4]; exact h6⟩
            ·cases h
           ·split at h
            ·rename_i H4 h4
             injection h with h
             injection h with h5 h6
             exact⟨h5,by rw[gS _ _ _ _ _ h4]; exact h6⟩
            ·cases h
           ·split at h
            ·rename_i H4 h4
             injection h with h
             injection h with h5 h6
             exact⟨h5,by rw[gS _ _ _ _ _ h4]; exact h6⟩
            ·cases h
           ·cases h
          ·cases h
         ·cases h
        ·cases h
       ·cases h
      ·cases h
     ·cases h
    ·cases h
   ·cases h
  ·cases h
 ·cases h
theorem A3 (hp:P.follows .mixedOrders=true) {sum:Caller} (hsum:HW P sum) {tab:FuncId→Option IFun} {pz:List Nat} (htab:∀ f F,tab f=some F→aN P f=some F):∀(d:Nat),cG P (EJ P sum tab pz fuel d)∧YOK P (EJ P sum tab pz fuel d):=by
 intro d
 induction d with
 | zero=>exact⟨⟨fun f args H v H' h=>(by cases h),fun t n f h=>(by cases h),fun H a b h=>(by cases h)⟩,fun g i args H b H' h=>(by cases h)⟩
 | succ d ih=>
  refine⟨⟨fun f args H v H' h=>?_,fun t n f h=>h,fun H a b h=>MC 12 H a b h⟩,fun g i args H b H' h=>xD hp ih.1 ih.2 h⟩
  replace h:GB tab pz (EJ P sum tab pz fuel d) fuel f (fnA args) H (sum f (fnA args) H)=some (v,H'):=h
  refine aD.fnA ?_
  unfold GB at h
  split at h
  ·rename_i r e
   rw[h] at e
   exact hsum f (fnA args) H v H' e
  ·split at h
   ·rename_i F e
    split at h
    ·have pure:∀ {args':List AV} {b:AV} {H1 H2:Heap},i7 0 args'=true∨(∀ a∈args',aX a)→BY (EJ P sum tab pz fuel d) (tF (EJ P sum tab pz fuel d) fuel args' [] F) H1=some (b,H2)→aF P f args' b∧H2=H1:=by
      intro args' b H1 H2 hpu h
      unfold BY at h
      split at h
      ·rename_i v0 H0 e0
       split at h
       ·rename_i b' eb
        injection h with h
        injection h with h1 h2
        subst h1; subst h2
        obtain⟨q1,q2⟩:=ih.1.frz _ _ _ eb
        refine⟨aF.of (fun a ha=>?_) q2 ((kT hp ih.1 ih.2 (htab f F e) e0).sub (by
         rintro res H' ⟨rfl,rfl⟩
         exact⟨b',[],q1,rfl⟩)),rfl⟩
        rcases hpu with hpu | hpu
        ·exact dU _ hpu a ha
        ·exact hpu a ha
       ·cases h
      ·cases h
     split at h
     ·rename_i hb
      obtain⟨h1,rfl⟩:=pure (.inl hb) h
      exact aD.ofPure h1 _ ⟨rfl,rfl⟩
     ·unfold orM at h
      split at h
      ·rename_i r ev
       rw[h] at ev
       unfold K6 at ev
       split at ev
       ·rename_i args' ea
        split at ev
        ·rename_i b H2 eb
         split at ev
         ·rename_i hpl
          injection ev with ev
          injection ev with e1 e2
          subst e1; subst e2
          obtain⟨h1,h2⟩:=fE (n:=H.length) (fun a b hab=>sS 12 a b hab) _ _ ea
          obtain⟨h3,_⟩:=pure (.inr h2) eb
          have e:H++gh []=H:=List.append_nil H
          exact aD.view h3 (x7 hpl) (by rw[e]; exact h1) ⟨rfl,rfl⟩
         ·cases ev
        ·cases ev
       ·cases ev
      ·exact kT hp ih.1 ih.2 (htab f F e) h
    ·exact kT hp ih.1 ih.2 (htab f F e) h
   ·cases h
end
end Go.Av
