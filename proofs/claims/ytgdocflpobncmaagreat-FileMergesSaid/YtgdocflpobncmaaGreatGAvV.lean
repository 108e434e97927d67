import Derived.Test.YtgdocflpobncmaaGreatGAvR
import Derived.Test.YtgdocflpobncmaaGreatGAvK3
namespace Go.Av
structure LOK (P:Program) (N:Nat) (L:LC) (ps:List Nat) (asg body:bL):Prop where
 en:L.n=N
 eps:L.ps.toList=ps
 lt:List.all ps (Nat.blt · N)=true
 easg:bM P N L.asg=some asg
 ebody:bM P N L.body=some body
def putL (fr:Fr) (l:List (Nat×AV)):Fr:=l.foldl (fun fr p=>p::fr) fr
def QH (g i:Nat) (L:LC) (R:Bool→Heap→Prop) (e:Exit) (_:Fr) (H2:Heap):Prop:=
 ∃ c2,hget H2 g i=some (.lp L c2 .busy none) ∧
  match e with
  | .normal=>R true (aK H2 g i (.lp L c2 .ready none))
  | .ret=>R false (aK H2 g i (.lp L c2 .done (some .ret)))
  | .exit id=>R false (aK H2 g i (.lp L c2 .done (some (.exit id))))
  | _=>False
def fY (P:Program) (g i:Nat) (args:List AV) (H:Heap) (R:Bool→Heap→Prop):Prop:=
 ∃ L caps N ps asg body,LOK P N L ps asg body∧hget H g i=some (.lp L caps .ready none)∧args.length=ps.length ∧
  AWP P N H.length asg (fun e fr1 H1=>e=.normal∧∃ c1,hget H1 g i=some (.lp L c1 .ready none)∧AWP P N H.length body (QH g i L R) fr1 (aK H1 g i (.lp L c1 .busy none))) (putL caps (ps.zip args)) H
def QC (g i:Nat) (R:Bool→Heap→Prop) (e:Exit) (_:Fr) (H2:Heap):Prop:=
 ∃ L c2,hget H2 g i=some (.lp L c2 .busy none) ∧
  match e with
  | .normal=>R true (aK H2 g i (.lp L c2 .ready none))
  | .ret=>R false (aK H2 g i (.lp L c2 .done (some .ret)))
  | .exit id=>R false (aK H2 g i (.lp L c2 .done (some (.exit id))))
  | _=>False
def dQ (P:Program) (g i:Nat) (args:List AV) (H:Heap) (R:Bool→Heap→Prop):Prop:=
 ∃ L caps N ps asg body,LOK P N L ps asg body∧hget H g i=some (.lp L caps .ready none)∧args.length=ps.length ∧
  AWP P N H.length asg (fun e fr1 H1=>e=.normal∧∃ L1 c1,hget H1 g i=some (.lp L1 c1 .ready none)∧AWP P N H.length body (QC g i R) fr1 (aK H1 g i (.lp L1 c1 .busy none))) (putL caps (ps.zip args)) H
theorem dQ.mono {P:Program} {g i:Nat} {args:List AV} {H:Heap} {R R':Bool→Heap→Prop} (h:dQ P g i args H R) (hr:∀ b H',R b H'→R' b H'):dQ P g i args H R':=by
 obtain⟨L,caps,N,ps,asg,body,h1,h2,h3,h4⟩:=h;refine⟨L,caps,N,ps,asg,body,h1,h2,h3,h4.mono fun e fr1 H1 ⟨he,L1,c1,h5,h6⟩=>⟨he,L1,c1,h5,h6.mono fun e2 fr2 H2 ⟨L2,c2,h7,h8⟩=>⟨L2,c2,h7,?_⟩⟩⟩
 cases e2<;>first | exact hr _ _ h8 | exact h8
theorem fY.g {P:Program} {g i:Nat} {args:List AV} {H:Heap} {R:Bool→Heap→Prop} (h:fY P g i args H R):dQ P g i args H R:=by
 obtain⟨L,caps,N,ps,asg,body,h1,h2,h3,h4⟩:=h;refine⟨L,caps,N,ps,asg,body,h1,h2,h3,h4.mono fun e fr1 H1 ⟨he,c1,h5,h6⟩=>⟨he,L,c1,h5,h6.mono fun e2 fr2 H2 ⟨c2,h7,h8⟩=>⟨L,c2,h7,h8⟩⟩⟩
theorem fY.mono {P:Program} {g i:Nat} {args:List AV} {H:Heap} {R R':Bool→Heap→Prop} (h:fY P g i args H R) (hr:∀ b H',R b H'→R' b H'):fY P g i args H R':=by
 obtain⟨L,caps,N,ps,asg,body,h1,h2,h3,h4⟩:=h;refine⟨L,caps,N,ps,asg,body,h1,h2,h3,h4.mono fun e fr1 H1 ⟨he,c1,h5,h6⟩=>⟨he,c1,h5,h6.mono fun e2 fr2 H2 ⟨c2,h7,h8⟩=>⟨c2,h7,?_⟩⟩⟩
 cases e2<;>first | exact hr _ _ h8 | exact h8
section
variable {P:Program} {N k:Nat} {fr:Fr} {H:Heap} {Q:Exit→Fr→Heap→Prop}
theorem Rep.yld_inv {M J} {g i:Nat} {v:Value} (h:Rep M J (.yld g i) v):∃ β l,v=.func (.yield β) #[] #[]∧J g i=some l∧l.blk=some β:=by
 cases h with
 | yld _ _ β l hJ hb=>exact⟨β,l,rfl,hJ,hb⟩
theorem aN.lp {M J} {h:Array Obj} (hH:aN M J H h) {g i:Nat} {L:LC} {caps:Fr} {st:LoopState} {pe:Option Code} (hg:hget H g i=some (.lp L caps st pe)) {l:Loc} (hJ:J g i=some l) {β:Nat} (hb:l.blk=some β):
  ∃ r,h[β]?=some (.loop r)∧r.params=L.ps∧r.assign=L.asg∧r.body=L.body∧r.state=st∧r.pending=pe∧aU L.n M J caps r.tmps:=by
 obtain⟨l',h1,β',r,h2,h3,h4⟩:=hH.blk g i _ hg rfl;rw[hJ] at h1
 injection h1 with h1
 subst h1;rw[hb] at h2
 injection h2 with h2
 subst h2;exact⟨r,h3,h4⟩
theorem aS.loop {M J} {w:World} (k:Nat) (hH:aN M J H w.heap) (hM:a8 M w.heap) {g i:Nat} {L:LC} {caps:Fr} {st:LoopState} {pe:Option Code} (hg:hget H g i=some (.lp L caps st pe)) {l:Loc} (hJ:J g i=some l) {β:Nat} (hb:l.blk=some β)
  {r:Loop} (hr:w.heap[β]?=some (.loop r)) (st':LoopState) (pe':Option Code) (x:Blk) (hx:x=.dead∨x=.lp L caps st' pe'):
  aS k M J H w M J (aK H g i x) (w.putObj β (.loop { r with state:=st',pending:=pe' })):=by
 obtain⟨r',h1,h3,h4,h5,h6,h7,h8⟩:=hH.lp hg hJ hb;rw[hr] at h1
 injection h1 with h1
 injection h1 with h1
 subst h1;refine aS.write k hH hM g i l β _ hg rfl hJ hb _ x (fun hl=>?_) rfl rfl rfl rfl (.inr fun r0 h0=>?_)
 ·rcases hx with rfl | rfl
  ·cases hl
  ·exact⟨β,_,hb,World.putObj_heap_same (bN hr),h3,h4,h5,rfl,rfl,h8⟩
 ·rw[hr] at h0
  injection h0 with h0
  injection h0 with h0
  subst h0;exact⟨_,rfl,rfl⟩
theorem aU.putOne {M J tmps} (hF:aU N M J fr tmps) {d:Nat} (hd:d < N) {v:AV} {cv:Value} (hv:Rep M J v cv):aU N M J ((d,v)::fr) (tmps.setIfInBounds d cv):=by
 refine⟨by simp[hF.1],fun t=>?_⟩;show Rep M J (match Nat.beq d t with | true=>v | false=>Fr.get fr t) _;rw[Array.getD_eq_getD_getElem?,Array.getElem?_setIfInBounds];split
 ·rename_i e
  have:d=t:=nEb e;subst this;rw[if_pos rfl,if_pos (by rw[hF.1]; exact hd)];exact hv
 ·rename_i e
  have hne:d≠t:=fun h=>by subst h; simp at e
  rw[if_neg hne,← Array.getD_eq_getD_getElem?];exact hF.2 t
theorem aU.putL {M J}:∀(ps:List Nat) (as:List AV) (cas:List Value) {fr:Fr} {tmps:Array Value},aU N M J fr tmps→ps.all (Nat.blt · N)=true→as.length=cas.length →
  (∀(j:Nat) c v,as[j]?=some c→cas[j]?=some v→Rep M J c v)→aU N M J (putL fr (ps.zip as)) ((ps.zip cas).foldl (fun tmps (t,a)=>tmps.setIfInBounds t a) tmps)
 | [],_,_,_,_,hF,_,_,_=>hF
 | _::_,[],[],_,_,hF,_,_,_=>hF
 | _::_,[],_::_,_,_,_,_,hl,_=>by simp at hl
 | _::_,_::_,[],_,_,_,_,hl,_=>by simp at hl
 | p::ps,a::as,v::cas,fr,tmps,hF,hp,hl,hr=>by
  simp only[List.all_cons,bAe] at hp
  exact aU.putL ps as cas (hF.putOne (nlB hp.1) (hr 0 a v rfl rfl)) hp.2 (by simpa using hl) fun j c v a b=>hr (j+1) c v (by simpa using a) (by simpa using b)
theorem B5 (P:Program) {x:Cx} {M J} {tmps:Array Value} {w:World} (hx:x.ok M J H w) (hF:aU N M J fr tmps) (hH:aN M J H w.heap) (hM:a8 M w.heap) (fn:FuncId) (ps:Array Tmp) (asg body:Code):
  ∃ β Ds w1 l J1,(Instr.enterLoop fn tmps ps asg body x.ro).run P w=.ok (β,Ds.map E5) w1∧l.blk=some β∧J1 H.length 0=some l ∧
   aS k M J H w M J1 (aK H H.length 0 (.lp ⟨N,ps,asg,body⟩ fr .ready none)) w1∧Cx.ok ⟨x.ro,x.b,Ds++x.Ds⟩ M J1 (aK H H.length 0 (.lp ⟨N,ps,asg,body⟩ fr .ready none)) w1 ∧
   Ext M J M J1:=by
 have hfree:J H.length 0=none:=hH.fresh
 have hlay:∀(w0:World) (D:Nat),aN M J H w0.heap→a8 M w0.heap →
   aS k M J H w0 M (J.set H.length 0 ⟨some w0.heap.size,0,0⟩) (aK H H.length 0 (.lp ⟨N,ps,asg,body⟩ fr .ready none)) (w0.alloc (.loop { state:=.ready,pending:=none,fn,tmps,params:=ps,assign:=asg,body,defers:=D })):=by
  intro w0 D hH0 hM0;refine aS.alloc k hH0 hM0 H.length 0 (.inr ⟨rfl,rfl⟩) hfree (some _) _ ⟨some w0.heap.size,0,0⟩ rfl ?_ rfl rfl rfl rfl;exact⟨w0.heap.size,_,rfl,World.alloc_heap_new _ _,rfl,rfl,rfl,rfl,rfl,hF⟩
 have hext:∀ l,Ext M J M (J.set H.length 0 l):=fun l=>Inj.set_ext l hfree M
 have hself:∀ l,(J.set H.length 0 l) H.length 0=some l:=fun l=>by simp[Inj.set]
 cases hro:x.ro with
 | none=>
  have s0:aS k M J H w M J H (w.alloc (.deferred (some []))):=by
   refine aC.step k hH (fun _ _ h=>h) (fun β o h=>?_) rfl (.refl _) rfl ?_ (fun β o h=>?_) (fun _ _ h=>.inl h)
   ·have:=hM β o h
    show(w.heap.push _)[β]?=_;rw[Array.getElem?_push,if_neg (by have:=bN this; omega)];exact this
   ·rw[World.size_alloc]; omega
   ·show(w.heap.push _)[β]?=_
    rw[Array.getElem?_push,if_neg (by have:=bN h; omega)];exact h
  have s1:=hlay _ w.heap.size s0.hrep s0.mrep
  have hD:Cx.ok ⟨none,x.b,[w.heap.size]++x.Ds⟩ M J H (w.alloc (.deferred (some []))):=by
   have h0:=hx.step s0;refine⟨fun l hl=>(by cases hl),h0.base,?_,fun D hD=>?_⟩
   ·refine List.nodup_cons.2 ⟨fun hm=>?_,hx.nd⟩
    have:=bN (hx.dfr _ hm).2.1;omega
   ·rcases List.mem_cons.1 hD with rfl | hD
    ·refine⟨hx.base,World.alloc_heap_new _ _,hM.lt (Nat.le_refl _),fun g i l a b c=>?_⟩
     have:=(hH.dom g i l b).2 _ c;omega
    ·exact h0.dfr D hD
  refine⟨_,[w.heap.size],_,_,_,run_enterLoop_outer fn tmps ps asg body,?_,hself _,s0.trans s1,hD.step s1,hext _⟩;rw[World.size_alloc]
 | some l0=>
  obtain⟨r0,hr0⟩:=hx.rnd l0 hro;have s1:=hlay w r0.defers hH hM;refine⟨_,[],_,_,_,?_,rfl,hself _,s1,?_,hext _⟩
  ·unfold Instr.enterLoop
   simp only[Sem.run_bind,run_getLoop hr0,Result.andThen_ok,Sem.run_pure,run_newObj_alloc];rfl
  ·have:=hx.step s1
   rw[← hro];exact this
theorem AWP.rangeC {f:Operand} {ps:List Nat} {asg body:bL} {qs:Array Tmp} {ra rb:Code} {g:FuncId} {fs cs:List AV} (hf:ev fr f=.clo (.func g) fs cs) (hk:k≤H.length) (hps:ps.all (Nat.blt · N)=true)
  (h:LOK P N ⟨N,qs,ra,rb⟩ ps asg body→aE P g (fs++[.yld H.length 0]++cs) (aK H H.length 0 (.lp ⟨N,qs,ra,rb⟩ fr .ready none)) fun _ H'=>
   ∃ L caps st pe,hget H' H.length 0=some (.lp L caps st pe)∧st≠.busy ∧
    match pe with
    | none=>Q .normal fr (aK H' H.length 0 .dead)
    | some .ret=>Q .ret fr (aK H' H.length 0 .dead)
    | some (.exit id)=>Q (.exit id) fr (aK H' H.length 0 .dead)
    | _=>False):AWP P N k (.rangeF f ps asg body qs ra rb) Q fr H:=by
 intro c0 hc x M J tmps w hx hF hH hM
 cases c0 with
 | rangeFunc f' ps' a0 b0=>
  simp only[bM] at hc;split at hc
  ·rename_i a1 b1 ha hb
   injection hc with hc
   injection hc with hc1 hc2 hc3 hc4 hc5 hc6 hc7
   subst hc1; subst hc2; subst hc3; subst hc4; subst hc5; subst hc6; subst hc7
   refine wpIn_rangeFunc fun fn _=>?_
   obtain⟨β,Ds,w1,l,J1,e1,e2,e3,s1,x1,hext⟩:=B5 (k:=H.length) P hx hF hH hM fn ps' a0 b0;have hfv:=aH (ds:=x.ds) hF f';rw[hf] at hfv;generalize hfe:Act.eval ⟨tmps,x.ds⟩ f'=fv at hfv
   cases hfv with
   | clo _ _ _ cfs ccs r1 r2 r3 r4=>
    obtain⟨hcall,hok⟩:=h ⟨rfl,rfl,hps,ha,hb⟩
    have hlen:H.length < (aK H H.length 0 (.lp ⟨N,ps',a0,b0⟩ fr .ready none)).length:=by
     have:=aL H H.length 0 (.lp ⟨N,ps',a0,b0⟩ fr .ready none) H.length 0 (.inr ⟨rfl,rfl⟩);rw[if_pos ⟨rfl,rfl⟩] at this;exact fT (by rw[this]; rfl)
    generalize aK H H.length 0 (.lp ⟨N,ps',a0,b0⟩ fr .ready none)=H1 at hlen s1 x1 hok;have hC:=hok M J1 w1 (cfs++#[.func (.yield β) #[] #[]]++ccs) (by simp; omega);refine⟨β,Ds.map E5,w1,{ target:=.fn (.func g) ccs,args:=cfs++#[.func (.yield β) #[] #[]] },w1,g,cfs++#[.func (.yield β) #[] #[]]++ccs,w1,e1,?_,fun _ _=>trivial,?_,fun hd=>by simp[FW,Fence.wide] at hd,?_⟩
    ·simp only[resolve,hfe,Deferred.ofValue,Sem.run_pure]
     simp[Act.eval]
    ·simp only[invoke]
     exact eM hcall _ _
    ·have hC:=hC (fun j c v hc' hv'=>?_) s1.hrep s1.mrep
     ·refine m5.2 (hC.mono ?_)
      rintro e w3 ⟨v,M3,J3,res,H3,rfl,s3,_,L3,caps,st,pe,hg,hst,hQ⟩;have hJ3:J3 H.length 0=some l:=s3.j _ _ _ hlen e3;obtain⟨r,q1,q3,q4,q5,q6,q7,q8⟩:=s3.hrep.lp hg hJ3 e2;have sl:=aS.loop H.length s3.hrep s3.mrep hg hJ3 e2 q1 .exhausted r.pending .dead (.inl rfl)
      have hE:Ext M J M3 J3:=⟨fun β o ho=>s3.m β o (s1.m β o ho),fun g i l' hJ=>s3.j g i l' (by
       exact Nat.lt_trans (fT (hH.dom g i l' hJ).1) hlen) (hext.j g i l' hJ)⟩
      have st1:aS k M J H w M3 J3 (aK H3 H.length 0 .dead) (w3.putObj β (.loop { r with state:=.exhausted,pending:=r.pending })):=
       ((s1.mono hk).trans (s3.mono (by omega))).trans (sl.mono hk)
      have hx3:=(x1.step s3).step sl;refine⟨r.pending,_,run_endLoop q1 (by rw[q6]; exact hst),?_⟩;have hF3:=hF.ext hE;rw[q7];rw[q7] at hx3 st1
      cases pe with
      | none=>exact⟨M3,J3,fr,_,Ds++x.Ds,st1,hF3,by simp[Cx.ds],hx3,hQ⟩
      | some c=>
       cases c with
       | ret=>exact wpIn_ret ⟨M3,J3,fr,_,Ds++x.Ds,st1,hF3,by simp[Cx.ds],hx3,hQ⟩
       | exit id=>exact wpIn_exit ⟨M3,J3,fr,_,Ds++x.Ds,st1,hF3,by simp[Cx.ds],hx3,hQ⟩
       | _=>exact hQ.elim
     ·rw[List.getElem?_append] at hc'
      rw[Array.getElem?_append] at hv';simp only[lAp,Array.size_append,List.length_cons,List.length_nil,List.size_toArray] at hc' hv';rw[r1] at hc';split at hc'
      ·rename_i hj
       rw[if_pos hj] at hv';rw[List.getElem?_append] at hc';rw[Array.getElem?_append] at hv';rw[r1] at hc';split at hc'
       ·rename_i hj2
        rw[if_pos hj2] at hv';exact(r3 j c v hc' hv').ext hext
       ·rename_i hj2
        rw[if_neg hj2] at hv'
        have:j - cfs.size=0:=by omega
        rw[this] at hc' hv';simp at hc' hv';subst hc'; subst hv';exact .yld _ _ β l e3 e2
      ·rename_i hj
       rw[if_neg hj] at hv';exact(r4 _ c v hc' hv').ext hext
  ·cases hc
 | region id ops draw=>simp only[bM] at hc; split at hc<;>(try cases hc); split at hc<;>cases hc
 | _=>simp only[bM] at hc; (try split at hc)<;>(try cases hc)<;>(try simp at hc)
theorem AWP.rangeF {f:Operand} {ps:List Nat} {asg body:bL} {qs:Array Tmp} {ra rb:Code} {g:FuncId} {fs cs:List AV} (hf:ev fr f=.clo (.func g) fs cs) (hk:k≤H.length) (hps:ps.all (Nat.blt · N)=true)
  (h:∀ L:LC,LOK P N L ps asg body→aE P g (fs++[.yld H.length 0]++cs) (aK H H.length 0 (.lp L fr .ready none)) fun _ H'=>
   ∃ caps st pe,hget H' H.length 0=some (.lp L caps st pe)∧st≠.busy ∧
    match pe with
    | none=>Q .normal fr (aK H' H.length 0 .dead)
    | some .ret=>Q .ret fr (aK H' H.length 0 .dead)
    | some (.exit id)=>Q (.exit id) fr (aK H' H.length 0 .dead)
    | _=>False):AWP P N k (.rangeF f ps asg body qs ra rb) Q fr H:=AWP.rangeC hf hk hps fun hL=>(h _ hL).mono fun _ _ hq=>⟨_,hq⟩
theorem fP.split {ops:Array Oper}:∀ {l:List Nat} {xs:List IOper} {y:IOper} {ys:List IOper},fP P N ops l (xs++y::ys) →
  ∃ l1 i l2,l=l1++i::l2∧fP P N ops l1 xs∧(∃ o,ops[i]?=some o∧jG P N ops o=some y)∧fP P N ops l2 ys
 | [],[],_,_,h=>h.elim
 | [],_::_,_,_,h=>h.elim
 | i::l,[],y,ys,⟨h1,h2⟩=>⟨[],i,l,rfl,trivial,h1,h2⟩
 | i::l,x::xs,y,ys,⟨h1,h2⟩=>by
  obtain⟨l1,j,l2,rfl,h3,h4,h5⟩:=fP.split h2;exact⟨i::l1,j,l2,rfl,⟨h1,h3⟩,h4,h5⟩
theorem C2 {P:Program} {w:World} {l:Nat} {r:Loop} {args:Array Value} (h:w.heap[l]?=some (.loop r)) (hs:args.size=r.params.size):
  (Instr.yield l args).run P w=.ok (.round l r.fn ((r.params.toList.zip args.toList).foldl (fun tmps (t,a)=>tmps.setIfInBounds t a) r.tmps) r.assign r.body) w:=by
 rw[run_yield h hs,← Array.foldl_toList,Array.toList_zip]
theorem dQ.round {g i:Nat} {args:List AV} {R:Bool→Heap→Prop} (h:dQ P g i args H R) {M J} {w:World} (hH:aN M J H w.heap) (hM:a8 M w.heap) {l:Loc} {β:Nat} (hJ:J g i=some l) (hb:l.blk=some β)
  {cargs:Array Value} (hlen:args.length=cargs.size) (hargs:∀(j:Nat) c v,args[j]?=some c→cargs[j]?=some v→Rep M J c v) {ro:Option Nat}:
  ∃ f tmps asg body,(Instr.yield β cargs).run P w=.ok (.round β f tmps asg body) w ∧
   RoundIn (FW ro) 0 P β f tmps asg body w fun e w'=>∃ b M' J' H',e=.returned (.bool b)∧aS H.length M J H w M' J' H' w'∧R b H':=by
 obtain⟨L,caps,N,ps,asg,body,hL,hg,hal,hw⟩:=h;obtain⟨r,q1,q3,q4,q5,q6,q7,q8⟩:=hH.lp hg hJ hb
 have hsz:cargs.size=r.params.size:=by rw[q3,← hlen,hal,← hL.eps,Array.length_toList]
 refine⟨_,_,_,_,C2 q1 hsz,?_⟩;refine roundIn_of_wpIn trivial ?_;have hgl:g < H.length:=fT (by rw[hg]; rfl)
 have hF0:aU N M J (putL caps (ps.zip args)) ((r.params.toList.zip cargs.toList).foldl (fun tmps (t,a)=>tmps.setIfInBounds t a) r.tmps):=by
  rw[q3,hL.eps];rw[hL.en] at q8
  exact aU.putL ps args cargs.toList q8 hL.lt (by simpa using hlen) fun j c v a b=>hargs j c v a (by simpa using b)
 refine wpIn_mono (hw r.assign (by rw[q4]; exact hL.easg) ⟨some β,w.heap.size,[]⟩ M J _ w ⟨fun l' hl'=>by cases hl'; exact⟨r,q1⟩,Nat.le_refl _,.nil,fun D hD=>by simp at hD⟩ hF0 hH hM) fun e a1 w1 hp=>?_
 obtain⟨M1,J1,fr1,H1,Ds1,s1,f1,d1,x1,rfl,L1,c1,hg1,hbody⟩:=hp;have hJ1:=s1.j g i l hgl hJ;obtain⟨r1,p1,p3,p4,p5,p6,p7,p8⟩:=s1.hrep.lp hg1 hJ1 hb;have sl:=aS.loop (caps:=c1) H.length s1.hrep s1.mrep hg1 hJ1 hb p1 .busy none (.lp L1 c1 .busy none) (.inr rfl)
 have hbr:(Instr.beginRound β).run P w1=.ok () (w1.putObj β (.loop { r1 with state:=.busy,pending:=none })):=by
  have:=run_beginRound (P:=P) p1 p6;rw[this];congr
 obtain⟨t1,dd⟩:=a1
 cases d1
 refine⟨_,hbr,?_⟩
 refine wpIn_mono (hbody r.body (by rw[q5]; exact hL.ebody) ⟨some β,w.heap.size,Ds1⟩ M1 J1 t1 _ (x1.step sl) f1 sl.hrep sl.mrep) fun e a2 w2 hp=>?_
 obtain⟨M2,J2,fr2,H2,Ds2,s2,f2,d2,x2,L2,c2,hg2,hR⟩:=hp;have hJ2:=s2.j g i l hgl hJ1;obtain⟨r2,u1,u3,u4,u5,u6,u7,u8⟩:=s2.hrep.lp hg2 hJ2 hb;have s12:=(s1.trans sl).trans s2
 cases e with
 | normal=>
  have se:=aS.loop (caps:=c2) H.length s2.hrep s2.mrep hg2 hJ2 hb u1 .ready none (.lp L2 c2 .ready none) (.inr rfl);exact⟨_,_,run_endRound none u1,true,M2,J2,_,rfl,s12.trans se,hR⟩
 | ret=>
  have se:=aS.loop (caps:=c2) H.length s2.hrep s2.mrep hg2 hJ2 hb u1 .done (some .ret) (.lp L2 c2 .done (some .ret)) (.inr rfl);exact⟨_,_,run_endRound (some .ret) u1,false,M2,J2,_,rfl,s12.trans se,hR⟩
 | exit id=>
  have se:=aS.loop (caps:=c2) H.length s2.hrep s2.mrep hg2 hJ2 hb u1 .done (some (.exit id)) (.lp L2 c2 .done (some (.exit id))) (.inr rfl);exact⟨_,_,run_endRound (some (.exit id)) u1,false,M2,J2,_,rfl,s12.trans se,hR⟩
 | _=>exact hR.elim
theorem AWP.regionG {xs ys:List IOper} {d:Option Nat} {gd:Option (Nat×Bool)} {f:Cal} {args:List Operand} {zs:List IOper} (hz:zs=xs++⟨d,gd,.callV f args⟩::ys)
  (h:Reg P N k xs fr H fun fr1 H1=>gok fr1 gd=some true∧k≤H1.length∧∃ g i,evC P fr1 f=.yld g i∧dQ P g i (avals fr1 args) H1 fun b H2=>Reg P N k ys (fr1.put d (.sc (.bool b))) H2 (Q .normal)):
  AWP P N k (.region zs) Q fr H:=by
 subst hz;intro c0 hc x M J tmps w hx hF hH hM
 cases c0 with
 | region id ops draw=>
  simp only[bM] at hc;split at hc
  ·rename_i us hus
   cases draw with
   | true=>cases hc
   | false=>
    injection hc with hc
    injection hc with hc
    subst hc;refine wpIn_region ?_
    have hm:=iL ops.toList 0 _ hus fun j o hj=>by rw[Nat.zero_add,← Array.getElem?_toList]; exact hj
    rw[← List.range_eq_range'] at hm;obtain⟨l1,i0,l2,hl,m1,⟨o0,ho,hco⟩,m2⟩:=fP.split hm;rw[show ops.size=ops.toList.length by simp,hl]
    have hpre:=h ops l1 m1 M J tmps w hF hH hM (fun e a' w'=>e=.normal∧B9 k N M J H w (fun fr1 H1=>gok fr1 gd=some true∧k≤H1.length∧∃ g i,evC P fr1 f=.yld g i ∧
     dQ P g i (avals fr1 args) H1 fun b H2=>Reg P N k ys (fr1.put d (.sc (.bool b))) H2 (Q .normal)) a' w') fun a' w' hp=>⟨rfl,hp⟩
    refine(gB x.ro x.ds (fun t w'=>∃ M' J' fr1 H1,aS k M J H w M' J' H1 w'∧aU N M' J' fr1 t∧gok fr1 gd=some true∧k≤H1.length∧∃ g i,evC P fr1 f=.yld g i ∧
     dQ P g i (avals fr1 args) H1 fun b H2=>Reg P N k ys (fr1.put d (.sc (.bool b))) H2 (Q .normal)) (i0::l2) _ ?_ _ (fun e a w' ⟨he,M',J',fr',H',q1,q2,q3,q4⟩=>⟨he,q3,M',J',fr',H',q1,q2,q4⟩) l1 tmps [] w hpre).2
    rintro t1 w1 ⟨M1,J1,fr1,H1,s1,f1,hgd,hk1,g,i,hev,hy⟩;obtain⟨c1,c2,c3⟩:=d7 hco;have hw:=dW f1 c2 hgd;simp only[wpOpsIn,ho];have hwant:Region.wanted o0 (yielded ops t1)=true:=hw;simp only[hwant,if_true];refine⟨fun _ _=>trivial,?_⟩;obtain⟨args',ts,rfl,hx0⟩:=nH c3
    obtain⟨t,hop,rfl⟩:∃ t,o0.op=.call ⟨.value (.tmp t),args',ts⟩∧f=.tmp t:=by
     rcases hx0 with h0 | ⟨r0,nm,_,rfl⟩
     ·exact h0
     ·replace hev:Cal.res P (.meth r0 nm _) (ev fr1 r0)=.yld g i:=hev
      unfold Cal.res at hev;split at hev
      ·rename_i e; cases e
      ·split at hev<;>cases hev
      ·cases hev
    replace hev:ev fr1 (.tmp t)=.yld g i:=by
     replace hev:rM P (ev fr1 (.tmp t))=.yld g i:=hev;unfold rM at hev;split at hev
     ·split at hev<;>cases hev
     ·cases hev
     ·exact hev
    obtain⟨v1,v2⟩:=dV (ds:=x.ds) f1 args'.toList _ rfl args' rfl;have hfv:=aH (ds:=x.ds) f1 (.tmp t);rw[hev] at hfv;obtain⟨β,l,hv,hJ,hb⟩:=hfv.yld_inv;obtain⟨fR,tR,aR,bR,hrun,hround⟩:=hy.round (ro:=x.ro) s1.hrep s1.mrep hJ hb v1 v2;rw[fD (fun c hc=>by rw[hop] at hc; cases hc)]
    have hx1:(execOp (Act.eval ⟨t1,x.ds⟩) o0).run P w1=.ok (.round β fR tR aR bR) w1:=by
     simp only[execOp,hop,resolve,hv,Deferred.ofValue,Sem.run_bind,Sem.run_pure,Result.andThen_ok,invoke];rw[show #[]++args'.map (Act.eval ⟨t1,x.ds⟩)=args'.map (Act.eval ⟨t1,x.ds⟩) by simp];exact hrun
    rw[hx1];simp only[Oper.uponIn];refine⟨fun hd=>by simp[FW,Fence.wide] at hd,hround.mono ?_⟩;rintro e w2 ⟨b,M2,J2,H2,rfl,s2,hreg⟩;simp only
    have hext:Ext M1 J1 M2 J2:=⟨s2.m,fun g i l hJ=>s2.j g i l (fT (s1.hrep.dom g i l hJ).1) hJ⟩
    have s12:=s1.trans (s2.mono hk1);rw[show(Act.put ⟨t1,x.ds⟩ o0.dst (.bool b))=⟨(Act.put ⟨t1,[]⟩ o0.dst (.bool b)).tmps,x.ds⟩ by cases o0.dst<;>rfl];refine iC hx ?_
    exact hreg ops l2 m2 M2 J2 _ w2 ((f1.ext hext).put c1 (.sc _)) s2.hrep s2.mrep _ fun a' w' hp=>⟨rfl,by
     obtain⟨M3,J3,fr3,H3,r1,r2,r3,r4⟩:=hp
     exact⟨M3,J3,fr3,H3,s12.trans r1,r2,r3,r4⟩⟩
  ·cases hc
 | _=>simp only[bM] at hc; (try split at hc)<;>(try cases hc)<;>(try simp at hc)
theorem AWP.regionY {xs ys:List IOper} {d:Option Nat} {gd:Option (Nat×Bool)} {f:Cal} {args:List Operand} {zs:List IOper} (hz:zs=xs++⟨d,gd,.callV f args⟩::ys)
  (h:Reg P N k xs fr H fun fr1 H1=>gok fr1 gd=some true∧k≤H1.length∧∃ g i,evC P fr1 f=.yld g i∧fY P g i (avals fr1 args) H1 fun b H2=>Reg P N k ys (fr1.put d (.sc (.bool b))) H2 (Q .normal)):
  AWP P N k (.region zs) Q fr H:=
 AWP.regionG hz (h.mono fun _ _ ⟨h1,h2,g,i,h3,h4⟩=>⟨h1,h2,g,i,h3,h4.g⟩)
def mY:List IOper→Option (List IOper×IOper×List IOper)
 | []=>none
 | x::l=>match x.act with
  | .callV _ _=>some ([],x,l)
  | _=>match mY l with
   | some (a,y,b)=>some (x::a,y,b)
   | none=>none
theorem mA:∀ {l a b:List IOper} {y:IOper},mY l=some (a,y,b)→l=a++y::b
 | [],_,_,_,h=>by cases h
 | x::l,a,b,y,h=>by
  simp only[mY] at h;split at h
  ·injection h with h
   injection h with h1 h2
   injection h2 with h2 h3
   subst h1; subst h2; subst h3;rfl
  ·split at h
   ·rename_i a' y' b' e
    injection h with h
    injection h with h1 h2
    injection h2 with h2 h3
    subst h1; subst h2; subst h3;rw[mA e];rfl
   ·cases h
theorem AWP.rY {xs ys:List IOper} {d:Option Nat} {gd:Option (Nat×Bool)} {f:Cal} {args:List Operand} {zs:List IOper} (hz:mY zs=some (xs,⟨d,gd,.callV f args⟩,ys))
  (h:Reg P N k xs fr H fun fr1 H1=>gok fr1 gd=some true∧k≤H1.length∧∃ g i,evC P fr1 f=.yld g i∧fY P g i (avals fr1 args) H1 fun b H2=>Reg P N k ys (fr1.put d (.sc (.bool b))) H2 (Q .normal)):
  AWP P N k (.region zs) Q fr H:=AWP.regionY (mA hz) h
theorem AWP.rG {xs ys:List IOper} {d:Option Nat} {gd:Option (Nat×Bool)} {f:Cal} {args:List Operand} {zs:List IOper} (hz:mY zs=some (xs,⟨d,gd,.callV f args⟩,ys))
  (h:Reg P N k xs fr H fun fr1 H1=>gok fr1 gd=some true∧k≤H1.length∧∃ g i,evC P fr1 f=.yld g i∧dQ P g i (avals fr1 args) H1 fun b H2=>Reg P N k ys (fr1.put d (.sc (.bool b))) H2 (Q .normal)):
  AWP P N k (.region zs) Q fr H:=AWP.regionG (mA hz) h
theorem AWP.fin {c:bL} (h:AWP P N k c (fun e fr H=>∃ fr' H',Sub k N fr H fr' H'∧Q e fr' H') fr H):AWP P N k c Q fr H:=by
 intro c0 hc x M J tmps w hx hF hH hM
 refine wpIn_mono (h c0 hc x M J tmps w hx hF hH hM) fun e a1 w1 hp=>?_
 obtain⟨M2,J2,fr2,H2,Ds,r1,r2,r3,r0,fr3,H3,hs,hq⟩:=hp;obtain⟨M3,J3,s3,f3⟩:=hs M2 J2 a1.tmps w1 r2 r1.hrep r1.mrep;exact⟨M3,J3,fr3,H3,Ds,r1.trans s3,f3,r3,Cx.ok.step r0 s3,hq⟩
end
end Go.Av
namespace Go.Av
theorem aS.ofDrawn {k:Nat} {M J H} {w:World} {M' J' H' w'} (q:aS k M J H { w with drawn:=w.drawn+1 } M' J' H' w'):aS k M J H w M' J' H' w':=
 ⟨q.m,q.j,q.hrep,q.mrep,q.os,⟨q.tape.1,Nat.le_trans (Nat.le_succ _) q.tape.2⟩,q.output,q.size,q.frame,q.fresh,q.live,q.bk⟩
theorem AWP.drawYld {P:Program} {N k:Nat} {fr:Fr} {H:Heap} {Q:Exit→Fr→Heap→Prop} {zs xs ys:List IOper} {d:Option Nat} {gd:Option (Nat×Bool)} {f:Cal} {args:List Operand} {af:List (List Nat)} {R1:List bD} {fr0 fr1:Fr} {H0 H1:Heap} (hz:zs=xs++⟨d,gd,.callV f args⟩::ys) (hp:P.follows .mixedOrders=true)
  (hlow:qA 0 af=true) (h1:∀ j,j < xs.length→iX af af.length j xs.length=true) (h2:∀ j,j < ys.length→iX af af.length xs.length (xs.length+1+j)=true)
  (hrun:eH P H.length 0 xs fr (H++[List.replicate xs.length .dead]) R1 fr0 H0) (hc1:mX af 0 R1) (hsub:Sub k N fr0 H0 fr1 H1)
  (h:gok fr1 gd=some true∧k≤H1.length∧∃ g i,evC P fr1 f=.yld g i∧dQ P g i (avals fr1 args) H1 fun b H2=>∃ R2 fr3 H3,eH P H2.length 0 ys (fr1.put d (.sc (.bool b))) (H2++[List.replicate ys.length .dead]) R2 fr3 H3∧mX af (xs.length+1) R2∧Q .normal fr3 H3):
  AWP P N k (.draw zs af) Q fr H:=by
 obtain⟨hgd,hk1,g,i,hev,hy⟩:=h;intro c0 hc cx M J tmps w hcx hF hH hM
 cases c0 with
 | region id ops draw=>
  simp only[bM] at hc;split at hc
  ·rename_i us hus
   cases draw with
   | false=>cases hc
   | true=>
    injection hc with hc
    injection hc with hc1' hc2'
    subst hc1'; subst hc2'
    refine wpIn_region_draw fun t=>?_
    rw[hp]
    have hsch:Region.schedule true ops t=Region.linearise .any ops t:=by simp[Region.schedule]
    rw[hsch];obtain⟨hlen,hgx⟩:=iT _ _ hus
    have hsz:ops.size=xs.length+(ys.length+1):=by
     have e1:us.length=ops.size:=by rw[hlen]; simp
     rw[← e1,hz];simp
    have haf:∀ j l,(ops.toList.map dY)[j]?=some l→bJ ops j=l:=by
     intro j l hj;rw[List.getElem?_map,Array.getElem?_toList] at hj;unfold bJ
     cases ho:ops[j]? with
     | none=>rw[ho] at hj; cases hj
     | some o=>rw[ho] at hj; simpa using hj
    have hafl:(ops.toList.map dY).length=ops.size:=by simp
    have hops:∀(j:Nat) x,us[j]?=some x→∃ o,ops[j]?=some o∧jG P N ops o=some x:=by
     intro j x hj;have hlt:=(gEs.1 hj).1;have ho:ops[j]?=some ops[j]:=Array.getElem?_eq_getElem (by rw[hlen] at hlt; simpa using hlt);obtain⟨x',e1,e2⟩:=hgx j ops[j] (by rw[Array.getElem?_toList]; exact ho);rw[hj] at e1
     injection e1 with e1
     subst e1;exact⟨_,ho,e2⟩
    let I:Nat→Nat→Prop:=fun a b=>(b < xs.length∧a < b∧∃ ra rb,R1[a]?=some ra∧R1[b]?=some rb∧fA ra rb=true)∨(xs.length < a∧a < b∧b < ops.size∧¬ Bef (bJ ops) a b)
    have hs:=eK ops I (fun j kk hk=>by
     have hl:(ops.toList.map dY)[j]?=some (bJ ops j):=by
      rw[List.getElem?_map,Array.getElem?_toList];unfold bJ at hk ⊢
      cases ho:ops[j]? with
      | none=>rw[ho] at hk; cases hk
      | some o=>rfl
     have:=iM _ 0 hlow j _ hl kk hk
     omega) (fun a b hab hb=>by
     obtain⟨hrx1,_⟩:=hrun.recs
     have hRlen1:R1.length=xs.length:=by rw[← hrx1]; simp
     rcases Nat.lt_trichotomy b xs.length with hbx | hbx | hbx
     ·have ea:R1[a]?=some (R1[a]'(by omega)):=gEg (by omega)
      have eb:R1[b]?=some (R1[b]'(by omega)):=gEg (by omega)
      rcases hc1 a b _ _ hab ea eb with h3 | h3
      ·rw[Nat.zero_add,Nat.zero_add] at h3
       exact .inl (cL haf _ _ _ h3)
      ·exact .inr (.inl ⟨hbx,hab,_,_,ea,eb,h3⟩)
     ·subst hbx
      exact .inl (cL haf _ _ _ (h1 a hab))
     ·have hnb:Bef (bJ ops) xs.length b:=by
       have:=h2 (b - (xs.length+1)) (by omega);rw[show xs.length+1+(b - (xs.length+1))=b by omega] at this;exact cL haf _ _ _ this
      rcases Nat.lt_trichotomy a xs.length with hax | hax | hax
      ·exact .inl ((cL haf _ _ _ (h1 a hax)).trans hnb)
      ·subst hax
       exact .inl hnb
      ·by_cases hB:Bef (bJ ops) a b
       ·exact .inl hB
       ·exact .inr (.inr ⟨hax,hab,hb,hB⟩)) t
    have hsplit:List.range ops.size=List.range' 0 xs.length++xs.length::List.range' (xs.length+1) ys.length:=by
     rw[List.range_eq_range',hsz,← List.range'_append_1,Nat.zero_add,List.range'_succ]
    obtain⟨l1,l2,e1,e2,e3⟩:=hs.mid (List.range' 0 xs.length) hsplit
     (fun a ha hi=>by
      have:=List.mem_range'_1.1 ha
      rcases hi with hi | hi
      ·exact absurd hi.1 (Nat.lt_irrefl _)
      ·omega)
     (fun a ha b hb hi=>by
      have:=List.mem_range'_1.1 ha;have:=List.mem_range'_1.1 hb
      rcases hi with hi | hi
      ·omega
      ·omega)
     (fun b hb hi=>by
      have:=List.mem_range'_1.1 hb
      rcases hi with hi | hi
      ·omega
      ·exact absurd hi.1 (Nat.lt_irrefl _))
    rw[e1]
    have hget1:∀(j:Nat) x,xs[j]?=some x→∃ o,ops[0+j]?=some o∧jG P N ops o=some x:=by
     intro j x hj;rw[Nat.zero_add];refine hops j x ?_;rw[hz,List.getElem?_append_left (gEs.1 hj).1];exact hj
    have e2':bU (fun a b=>∃ ra rb,R1[a - 0]?=some ra∧R1[b - 0]?=some rb∧fA ra rb=true) (List.range' 0 xs.length) l1:=by
     refine e2.weaken fun a b ha hb hi=>?_
     have h3:=List.mem_range'_1.1 ha
     rcases hi with hi | hi
     ·exact hi.2.2
     ·omega
    have hyy:us[xs.length]?=some ⟨d,gd,.callV f args⟩:=by rw[hz,List.getElem?_append_right (Nat.le_refl _),Nat.sub_self]; rfl
    obtain⟨oy,hoy,hcy⟩:=hops _ _ hyy
    have hpre:wpOps P ops (fun e a' w'=>e=.normal∧a'.defers=[]∧∃ M' J',aS k M J H w M' J' H1 w'∧aU N M' J' fr1 a'.tmps) l1 ⟨tmps,[]⟩ { w with drawn:=w.drawn+1 }:=
     rU (k:=k) (w:={ w with drawn:=w.drawn+1 }) hget1 hrun (fun a b h=>h) e2' hF hH hM _ fun a' w' ⟨M2,J2,fr2,H2,q1,q2,q3,q4,q5⟩=>by
      subst q4; subst q5;obtain⟨M3,J3,s3,f3⟩:=hsub M2 J2 _ _ q2 q1.hrep q1.mrep;exact⟨rfl,q3,M3,J3,aS.ofDrawn (q1.trans s3),f3⟩
    refine(gB cx.ro cx.ds (fun t w'=>∃ M' J',aS k M J H w M' J' H1 w'∧aU N M' J' fr1 t) (xs.length::l2) _ ?_ _ (fun e a w' ⟨he,hd,M',J',q1,q2⟩=>⟨he,hd,M',J',q1,q2⟩) l1 tmps [] _ hpre).2;rintro t1 w1 ⟨M1,J1,s1,f1⟩;obtain⟨c1,c2,c3⟩:=d7 hcy;have hw:=dW f1 c2 hgd;simp only[wpOpsIn,hoy];have hwant:Region.wanted oy (yielded ops t1)=true:=hw;simp only[hwant,if_true];refine⟨fun _ _=>trivial,?_⟩;obtain⟨args',ts,rfl,hx0⟩:=nH c3
    obtain⟨t,hop,rfl⟩:∃ t,oy.op=.call ⟨.value (.tmp t),args',ts⟩∧f=.tmp t:=by
     rcases hx0 with h0 | ⟨r0,nm,_,rfl⟩
     ·exact h0
     ·replace hev:Cal.res P (.meth r0 nm _) (ev fr1 r0)=.yld g i:=hev
      unfold Cal.res at hev;split at hev
      ·rename_i e; cases e
      ·split at hev<;>cases hev
      ·cases hev
    replace hev:ev fr1 (.tmp t)=.yld g i:=by
     replace hev:rM P (ev fr1 (.tmp t))=.yld g i:=hev;unfold rM at hev;split at hev
     ·split at hev<;>cases hev
     ·cases hev
     ·exact hev
    obtain⟨v1,v2⟩:=dV (ds:=cx.ds) f1 args'.toList _ rfl args' rfl;have hfv:=aH (ds:=cx.ds) f1 (.tmp t);rw[hev] at hfv;obtain⟨β,l,hv,hJ,hb⟩:=hfv.yld_inv;obtain⟨fR,tR,aR,bR,hrun,hround⟩:=hy.round (ro:=cx.ro) s1.hrep s1.mrep hJ hb v1 v2;rw[fD (fun c hc=>by rw[hop] at hc; cases hc)]
    have hx1:(execOp (Act.eval ⟨t1,cx.ds⟩) oy).run P w1=.ok (.round β fR tR aR bR) w1:=by
     simp only[execOp,hop,resolve,hv,Deferred.ofValue,Sem.run_bind,Sem.run_pure,Result.andThen_ok,invoke];rw[show #[]++args'.map (Act.eval ⟨t1,cx.ds⟩)=args'.map (Act.eval ⟨t1,cx.ds⟩) by simp];exact hrun
    rw[hx1];simp only[Oper.uponIn];refine⟨fun hd=>by simp[FW,Fence.wide] at hd,hround.mono ?_⟩;rintro e w2 ⟨b,M2,J2,H2,rfl,s2,R2,fr3,H3,hrun2,hc2,hQ⟩;simp only
    have hext:Ext M1 J1 M2 J2:=⟨s2.m,fun g i l hJ=>s2.j g i l (fT (s1.hrep.dom g i l hJ).1) hJ⟩
    have s12:=s1.trans (s2.mono hk1);rw[show(Act.put ⟨t1,cx.ds⟩ oy.dst (.bool b))=⟨(Act.put ⟨t1,[]⟩ oy.dst (.bool b)).tmps,cx.ds⟩ by cases oy.dst<;>rfl];obtain⟨hrx2,_⟩:=hrun2.recs
    have hRlen2:R2.length=ys.length:=by rw[← hrx2]; simp
    have hget2:∀(j:Nat) x,ys[j]?=some x→∃ o,ops[xs.length+1+j]?=some o∧jG P N ops o=some x:=by
     intro j x hj;refine hops _ x ?_;rw[hz,List.getElem?_append_right (by omega),show xs.length+1+j - xs.length=j+1 by omega];exact hj
    have e3':bU (fun a b=>∃ ra rb,R2[a - (xs.length+1)]?=some ra∧R2[b - (xs.length+1)]?=some rb∧fA ra rb=true) (List.range' (xs.length+1) ys.length) l2:=by
     refine e3.weaken fun a b ha hb hi=>?_
     have h3:=List.mem_range'_1.1 ha;have h4:=List.mem_range'_1.1 hb
     rcases hi with hi | hi
     ·omega
     ·have ea:R2[a - (xs.length+1)]?=some (R2[a - (xs.length+1)]'(by omega)):=gEg (by omega)
      have eb:R2[b - (xs.length+1)]?=some (R2[b - (xs.length+1)]'(by omega)):=gEg (by omega)
      rcases hc2 (a - (xs.length+1)) (b - (xs.length+1)) _ _ (by omega) ea eb with h5 | h5
      ·rw[show xs.length+1+(a - (xs.length+1))=a by omega,show xs.length+1+(b - (xs.length+1))=b by omega] at h5
       exact absurd (cL haf _ _ _ h5) hi.2.2.2
      ·exact⟨_,_,ea,eb,h5⟩
    refine iC hcx ?_
    refine rU (k:=k) hget2 hrun2 (fun a b h=>h) e3' ((f1.ext hext).put c1 (.sc _)) s2.hrep s2.mrep _ fun a' w4 hpost=>?_
    obtain⟨M5,J5,fr5,H5,r1,r2,r3,rfl,rfl⟩:=hpost;exact⟨rfl,M5,J5,_,_,s12.trans r1,r2,r3,hQ⟩
  ·cases hc
 | _=>simp only[bM] at hc; (try split at hc)<;>(try cases hc)<;>(try simp at hc)
end Go.Av
namespace Go.Av
def ws (n:Nat) (f:Nat→Nat):List AV:=(List.range n).map fun i=>.sc (.int .u64 (f i:Int))
theorem MM (n:Nat) (f:Nat→Nat):∀ c∈ws n f,aZ c:=fun c h=>by
 obtain⟨i,_,rfl⟩:=List.mem_map.1 h;exact .sc _
instance (n:Nat) (f:Nat→Nat):PR (ws n f):=⟨MM n f⟩
section
variable {P:Program} {N k:Nat} {xs:List IOper} {fr:Fr} {H:Heap} {K:Fr→Heap→Prop} {d:Nat} {gd:Option (Nat×Bool)}
variable {base j:Nat} {acc:List bD} {KD:List bD→Fr→Heap→Prop}
theorem wB {g i:Nat} {fr:Fr} {H:Heap} {sz:Nat} {a:Operand} {g' i' row s:Nat} {rows:List (List AV)} {r:List AV} (ha:ev fr a=.ptr g' i' row 0) (hh:hget H g' i'=some (.cells s rows)) (hr:rows[row]?=some r) (hl:r.length=sz):
  aD g i (.load sz true a) fr H=some (.agg r,H):=by
 subst hl;simp only[aD,ha,hh,hr,List.drop_zero,iW,Nat.ble_eq_true_of_le (Nat.le_refl _),List.take_length]
theorem FZ {g i:Nat} {fr:Fr} {H:Heap} {sz:Nat} {a x:Operand} {g' i' row s:Nat} {rows:List (List AV)} {r cs:List AV} (ha:ev fr a=.ptr g' i' row 0) (hx:ev fr x=.agg cs) (hh:hget H g' i'=some (.cells s rows)) (hr:rows[row]?=some r)
  (hl:r.length=sz) (hc:cs.length=sz) (h1:cs.all AV.cell1=true):aD g i (.store sz a x) fr H=some (.undef,aK H g' i' (.cells s (rows.set row cs))):=by
 subst hl
 have e1:Nat.beq cs.length r.length=true:=by rw[hc]; simp
 have e2:Nat.ble (0+r.length) r.length=true:=Nat.ble_eq_true_of_le (by omega);simp only[aD,ha,hx,AV.cs,hh,hr,e1,e2,h1,Bool.and_self,qW _ _ hc]
theorem O5 {sz:Nat} {a:Operand} {g' i' row s:Nat} {rows:List (List AV)} {r:List AV} (h:Reg P N k xs ((d,.agg r)::fr) H K) (hg:gok fr gd=some true:=by rfl) (ha:ev fr a=.ptr g' i' row 0:=by rfl)
  (hh:hget H g' i'=some (.cells s rows):=by rfl) (hr:rows[row]?=some r:=by first | rfl | assumption) (hl:r.length=sz:=by first | assumption | exact ws_len _ _ | rfl):Reg P N k (⟨some d,gd,.op (.load sz true a)⟩::xs) fr H K:=.o hg (wB ha hh hr hl) h
theorem QL {sz:Nat} {a x:Operand} {g' i' row s:Nat} {rows:List (List AV)} {r cs:List AV} (h:Reg P N k xs fr (aK H g' i' (.cells s (rows.set row cs))) K) (hg:gok fr gd=some true:=by rfl) (ha:ev fr a=.ptr g' i' row 0:=by rfl) (hx:ev fr x=.agg cs:=by rfl)
  (hh:hget H g' i'=some (.cells s rows):=by rfl) (hr:rows[row]?=some r:=by first | rfl | assumption) (hl:r.length=sz:=by first | assumption | exact ws_len _ _ | rfl) (hc:cs.length=sz:=by first | assumption | exact ws_len _ _ | rfl)
  (h1:cs.all AV.cell1=true:=by first | assumption | exact ws_cell1 _ _ | rfl):Reg P N k (⟨none,gd,.op (.store sz a x)⟩::xs) fr H K:=.on hg (FZ ha hx hh hr hl hc h1) h
theorem PY {sz:Nat} {a:Operand} {g' i' row s:Nat} {rows:List (List AV)} {r:List AV} (h:DK P base (j+1) xs ((d,.agg r)::fr) H (⟨⟨some d,gd,.op (.load sz true a)⟩,(base,j),.agg r,drd fr (.load sz true a),dwr base j fr (.load sz true a)⟩::acc) KD) (hg:gok fr gd=some true:=by rfl)
  (ha:ev fr a=.ptr g' i' row 0:=by rfl) (hh:hget H g' i'=some (.cells s rows):=by rfl) (hr:rows[row]?=some r:=by first | rfl | assumption) (hl:r.length=sz:=by first | assumption | exact ws_len _ _ | rfl):
  DK P base j (⟨some d,gd,.op (.load sz true a)⟩::xs) fr H acc KD:=.o hg (wB ha hh hr hl) h
end
end Go.Av
namespace Go.Av
theorem kK (n:Nat):(OfNat.ofNat n:Int)=((OfNat.ofNat n:Nat):Int):=rfl
structure gA (op:BinOp) (k k':IntKind) (a b:Nat) (v:Value):Prop where
 out:∀ t,Sem.pure? (binOp op t (.int k (a:Int)) (.int k' (b:Int)))=some v
theorem uK {n:Nat} (h:n≤9223372036854775807):IntKind.i64.wrap (n:Int)=(n:Int):=wrap_small (by omega) (by omega)
theorem IZ (n:Nat):IntKind.u64.wrap (n:Int)=((n % 18446744073709551616:Nat):Int):=by
 have hb:IntKind.u64.bits=64:=rfl;have hs:IntKind.u64.signed=false:=rfl;simp only[IntKind.wrap,hb,hs];simp
theorem iG {n:Nat} (h:n < 18446744073709551616):IntKind.u64.wrap (n:Int)=(n:Int):=by rw[IZ,Nat.mod_eq_of_lt h]
theorem wrapB (n:Nat):IntKind.u8.wrap (n:Int)=((n % 256:Nat):Int):=by
 have hb:IntKind.u8.bits=8:=rfl;have hs:IntKind.u8.signed=false:=rfl;simp only[IntKind.wrap,hb,hs];simp
theorem K3 {a b:Nat} (h:a+b≤9223372036854775807):gA .add .i64 .i64 a b (.int .i64 ((a+b:Nat):Int)):=.mk fun t=>by
 show some (Value.int .i64 (IntKind.i64.wrap ((a:Int)+(b:Int))))=_;rw[show(a:Int)+(b:Int)=((a+b:Nat):Int) by omega,uK h]
theorem HJ {a b:Nat} (h:b≤a) (h2:a≤9223372036854775807):gA .sub .i64 .i64 a b (.int .i64 ((a - b:Nat):Int)):=.mk fun t=>by
 show some (Value.int .i64 (IntKind.i64.wrap ((a:Int) - (b:Int))))=_;rw[show(a:Int) - (b:Int)=((a - b:Nat):Int) by omega,uK (by omega)]
theorem JF {a b:Nat} (h:a * b≤9223372036854775807):gA .mul .i64 .i64 a b (.int .i64 ((a * b:Nat):Int)):=.mk fun t=>by
 show some (Value.int .i64 (IntKind.i64.wrap ((a:Int) * (b:Int))))=_;rw[show(a:Int) * (b:Int)=((a * b:Nat):Int) by rw[Int.natCast_mul],uK h]
theorem I0 {a b:Nat} (h:0 < b) (h2:a≤9223372036854775807):gA .quo .i64 .i64 a b (.int .i64 ((a / b:Nat):Int)):=.mk fun t=>by
 show Sem.pure? (Op.intDiv .quo .i64 (a:Int) (b:Int))=_;unfold Op.intDiv;rw[if_neg (by omega)];show some (Value.int .i64 (IntKind.i64.wrap ((a:Int).tdiv (b:Int))))=_;rw[show(a:Int).tdiv (b:Int)=((a / b:Nat):Int) from rfl,uK (Nat.le_trans (Nat.div_le_self _ _) h2)]
theorem D7 {a b:Nat} (h:0 < b) (h2:a < 18446744073709551616):gA .quo .u64 .u64 a b (.int .u64 ((a / b:Nat):Int)):=.mk fun t=>by
 show Sem.pure? (Op.intDiv .quo .u64 (a:Int) (b:Int))=_;unfold Op.intDiv;rw[if_neg (by omega)];show some (Value.int .u64 (IntKind.u64.wrap ((a:Int).tdiv (b:Int))))=_;rw[show(a:Int).tdiv (b:Int)=((a / b:Nat):Int) from rfl,iG (Nat.lt_of_le_of_lt (Nat.div_le_self _ _) h2)]
theorem JQ {k:IntKind} {a b:Nat} (h:0 < b):gA .rem k k a b (.int k ((a % b:Nat):Int)):=.mk fun t=>by
 have e:binOp .rem t (.int k (a:Int)) (.int k (b:Int))=Op.intDiv .rem k (a:Int) (b:Int):=by
  show(if k≠k then _ else _)=_;rw[if_neg (by simp)]
 rw[e];unfold Op.intDiv;rw[if_neg (by omega)];rfl
theorem yE {a b:Nat}:gA .add .u64 .u64 a b (.int .u64 (((a+b) % 18446744073709551616:Nat):Int)):=.mk fun t=>by
 show some (Value.int .u64 (IntKind.u64.wrap ((a:Int)+(b:Int))))=_;rw[show(a:Int)+(b:Int)=((a+b:Nat):Int) by omega,IZ]
theorem zX {a b:Nat} (h:a+b < 18446744073709551616):gA .add .u64 .u64 a b (.int .u64 ((a+b:Nat):Int)):=.mk fun t=>by
 rw[yE.out t,Nat.mod_eq_of_lt h]
theorem EA {a b:Nat} (h:b≤a) (h2:a < 18446744073709551616):gA .sub .u64 .u64 a b (.int .u64 ((a - b:Nat):Int)):=.mk fun t=>by
 show some (Value.int .u64 (IntKind.u64.wrap ((a:Int) - (b:Int))))=_;rw[show(a:Int) - (b:Int)=((a - b:Nat):Int) by omega,iG (by omega)]
theorem xZ {a b:Nat}:gA .mul .u64 .u64 a b (.int .u64 (((a * b) % 18446744073709551616:Nat):Int)):=.mk fun t=>by
 show some (Value.int .u64 (IntKind.u64.wrap ((a:Int) * (b:Int))))=_;rw[show(a:Int) * (b:Int)=((a * b:Nat):Int) by rw[Int.natCast_mul],IZ]
theorem zC {a b:Nat} (h:a * b < 18446744073709551616):gA .mul .u64 .u64 a b (.int .u64 ((a * b:Nat):Int)):=.mk fun t=>by
 rw[xZ.out t,Nat.mod_eq_of_lt h]
theorem fM {n:Nat} (h:n < 18446744073709551616):(BitVec.ofInt 64 (n:Int)).toNat=n:=by
 rw[BitVec.toNat_ofInt];omega
theorem D1 {a b:Nat} (ha:a < 18446744073709551616) (hb:b < 18446744073709551616):gA .and .u64 .u64 a b (.int .u64 ((a &&& b:Nat):Int)):=.mk fun t=>by
 show some (Value.int .u64 (IntKind.u64.wrap ((BitVec.ofInt 64 (a:Int) &&& BitVec.ofInt 64 (b:Int)).toNat:Int)))=_;rw[BitVec.toNat_and,fM ha,fM hb,iG (Nat.lt_of_le_of_lt Nat.and_le_left ha)]
theorem HF {a b:Nat} (ha:a < 18446744073709551616) (hb:b < 18446744073709551616):gA .or .u64 .u64 a b (.int .u64 ((a ||| b:Nat):Int)):=.mk fun t=>by
 show some (Value.int .u64 (IntKind.u64.wrap ((BitVec.ofInt 64 (a:Int) ||| BitVec.ofInt 64 (b:Int)).toNat:Int)))=_;rw[BitVec.toNat_or,fM ha,fM hb,iG (Nat.or_lt_two_pow (n:=64) ha hb)]
theorem C5 {a b:Nat} (ha:a < 18446744073709551616) (hb:b < 18446744073709551616):gA .xor .u64 .u64 a b (.int .u64 ((a ^^^ b:Nat):Int)):=.mk fun t=>by
 show some (Value.int .u64 (IntKind.u64.wrap ((BitVec.ofInt 64 (a:Int) ^^^ BitVec.ofInt 64 (b:Int)).toNat:Int)))=_;rw[BitVec.toNat_xor,fM ha,fM hb,iG (Nat.xor_lt_two_pow (n:=64) ha hb)]
theorem AK {a b:Nat} (ha:a < 18446744073709551616) (hb:b < 18446744073709551616):gA .andNot .u64 .u64 a b (.int .u64 ((a &&& (18446744073709551615 - b):Nat):Int)):=.mk fun t=>by
 show some (Value.int .u64 (IntKind.u64.wrap ((BitVec.ofInt 64 (a:Int) &&& ~~~ BitVec.ofInt 64 (b:Int)).toNat:Int)))=_;rw[BitVec.toNat_and,BitVec.toNat_not,fM ha,fM hb,iG (Nat.lt_of_le_of_lt Nat.and_le_left ha)]
theorem EB {k':IntKind} {a b:Nat} (ha:a < 18446744073709551616):gA .shr .u64 k' a b (.int .u64 ((a / 2 ^ b:Nat):Int)):=.mk fun t=>by
 show Sem.pure? (Op.shift .shr .u64 (a:Int) k' (b:Int))=_;unfold Op.shift;rw[if_neg (by omega)];show some (Value.int .u64 ((a:Int).fdiv (2 ^ min ((b:Int).toNat) 64)))=_;rw[Int.toNat_natCast,show(2:Int) ^ min b 64=((2 ^ min b 64:Nat):Int) by rw[Int.natCast_pow]; rfl,Int.fdiv_eq_ediv_of_nonneg _ (Int.natCast_nonneg _),← Int.natCast_ediv];congr 3
 rcases Nat.le_total b 64 with h | h
 ·rw[Nat.min_eq_left h]
 ·rw[Nat.min_eq_right h,Nat.div_eq_of_lt ha,Nat.div_eq_of_lt]
  exact Nat.lt_of_lt_of_le ha (Nat.pow_le_pow_right (n:=2) (by decide) h)
theorem ES {a b:Nat} (ha:a≤9223372036854775807):gA .shr .i64 .i64 a b (.int .i64 ((a / 2 ^ b:Nat):Int)):=.mk fun t=>by
 show Sem.pure? (Op.shift .shr .i64 (a:Int) .i64 (b:Int))=_;unfold Op.shift;rw[if_neg (by omega)];show some (Value.int .i64 ((a:Int).fdiv (2 ^ min ((b:Int).toNat) 64)))=_;rw[Int.toNat_natCast,show(2:Int) ^ min b 64=((2 ^ min b 64:Nat):Int) by rw[Int.natCast_pow]; rfl,Int.fdiv_eq_ediv_of_nonneg _ (Int.natCast_nonneg _),← Int.natCast_ediv];congr 3
 rcases Nat.le_total b 64 with h | h
 ·rw[Nat.min_eq_left h]
 ·rw[Nat.min_eq_right h,Nat.div_eq_of_lt (by omega),Nat.div_eq_of_lt]
  exact Nat.lt_of_lt_of_le (show a < 2 ^ 64 by omega) (Nat.pow_le_pow_right (n:=2) (by decide) h)
theorem pY {op:BinOp} {k:IntKind} {a b:Nat} {c:Bool} (ho:op≠.shl∧op≠.shr∧op≠.add∧op≠.sub∧op≠.mul∧op≠.quo∧op≠.rem∧op≠.and∧op≠.or∧op≠.xor∧op≠.andNot)
  (h:Sem.pure? (Op.intCmp op (a:Int) (b:Int))=some (.bool c)):gA op k k a b (.bool c):=.mk fun t=>by
 rw[← h]
 cases op<;>first | (exfalso; simp at ho; done) | (show Sem.pure? (if k≠k then _ else _)=_; rw[if_neg (by simp)])
theorem K1 {k:IntKind} {a b:Nat}:gA .lss k k a b (.bool (decide (a < b))):=pY (by simp) (by simp[Op.intCmp,Sem.pure?,pure])
theorem KS {k:IntKind} {a b:Nat}:gA .leq k k a b (.bool (decide (a≤b))):=pY (by simp) (by simp[Op.intCmp,Sem.pure?,pure])
theorem JH {k:IntKind} {a b:Nat}:gA .gtr k k a b (.bool (decide (b < a))):=pY (by simp) (by simp[Op.intCmp,Sem.pure?,pure])
theorem KH {k:IntKind} {a b:Nat}:gA .geq k k a b (.bool (decide (b≤a))):=pY (by simp) (by simp[Op.intCmp,Sem.pure?,pure])
theorem DS (a b:Nat):((a:Int) == (b:Int))=decide (a=b):=by rw[Bool.eq_iff_iff]; simp; omega
theorem J9 {k:IntKind} {a b:Nat}:gA .eql k k a b (.bool (decide (a=b))):=pY (by simp) (by show some (Value.bool ((a:Int) == (b:Int)))=_; rw[DS])
theorem IM {k:IntKind} {a b:Nat}:gA .neq k k a b (.bool (!decide (a=b))):=pY (by simp) (by show some (Value.bool (!((a:Int) == (b:Int))))=_; rw[DS])
theorem yQ {g i:Nat} {fr:Fr} {H:Heap} {op:BinOp} {t:TypeId} {x y:Operand} {kd kd':IntKind} {a b:Nat} {v:Value} (hx:ev fr x=.sc (.int kd (a:Int))) (hy:ev fr y=.sc (.int kd' (b:Int))) (hv:gA op kd kd' a b v):
  aD g i (.bin op t x y) fr H=some (.sc v,H):=by
 simp only[aD,hx,hy]
 have e:(do eqGuard op t x y (.int kd (a:Int)) (.int kd' (b:Int)); binOp op t (.int kd (a:Int)) (.int kd' (b:Int)):Sem Value)=binOp op t (.int kd (a:Int)) (.int kd' (b:Int)):=by cases op<;>rfl
 rw[e,hv.out t]
structure AS (k:IntKind) (a:Nat) (b:Nat):Prop where
 out:k.wrap (a:Int)=(b:Int)
theorem QT {a:Nat} (h:a≤9223372036854775807):AS .i64 a a:=.mk (uK h)
theorem ND {a:Nat} (h:a < 18446744073709551616):AS .u64 a a:=.mk (iG h)
theorem QQ {a:Nat} (h:a < 256):AS .u8 a a:=.mk (by rw[wrapB,Nat.mod_eq_of_lt h])
theorem IU {g i:Nat} {fr:Fr} {H:Heap} {k k':IntKind} {x:Operand} {a b:Nat} (hx:ev fr x=.sc (.int k' (a:Int))) (hv:AS k a b):aD g i (.conv k x) fr H=some (.sc (.int k (b:Int)),H):=by
 simp only[aD,hx];rw[hv.out]
theorem CG {g i:Nat} {fr:Fr} {H:Heap} {x y:Operand} {kd kd':IntKind} {a b:Nat} (hx:ev fr x=.sc (.int kd (a:Int))) (hy:ev fr y=.sc (.int kd' (b:Int))):aD g i (.max [x,y]) fr H=some (.sc (.int kd ((max a b:Nat):Int)),H):=by
 simp only[aD,avals,List.map_cons,List.map_nil,hx,hy,scs];show some (AV.sc (.int kd (if (b:Int) > (a:Int) then(b:Int) else(a:Int))),H)=_;congr 4
 split<;>omega
theorem CP {g i:Nat} {fr:Fr} {H:Heap} {x y:Operand} {kd kd':IntKind} {a b:Nat} (hx:ev fr x=.sc (.int kd (a:Int))) (hy:ev fr y=.sc (.int kd' (b:Int))):aD g i (.min [x,y]) fr H=some (.sc (.int kd ((min a b:Nat):Int)),H):=by
 simp only[aD,avals,List.map_cons,List.map_nil,hx,hy,scs];show some (AV.sc (.int kd (if (b:Int) < (a:Int) then(b:Int) else(a:Int))),H)=_;congr 4
 split<;>omega
section
variable {P:Program} {N k:Nat} {xs:List IOper} {fr:Fr} {H:Heap} {K:Fr→Heap→Prop} {d:Nat} {gd:Option (Nat×Bool)}
theorem wv1 {op:BinOp} {t:TypeId} {x y:Operand} {kd kd':IntKind} {a b:Nat} {v:Value} (h:Reg P N k xs ((d,.sc v)::fr) H K) (hg:gok fr gd=some true:=by rfl) {na nb:Int} (hx:ev fr x=.sc (.int kd na):=by rfl)
  (hy:ev fr y=.sc (.int kd' nb):=by rfl) (ha:na=(a:Int):=by first | with_reducible rfl | exact kK _) (hb:nb=(b:Int):=by first | with_reducible rfl | exact kK _)
  (hv:gA op kd kd' a b v:=by first | exact K1 | exact J9 | exact IM | exact KH | exact JH | exact KS | (refine K3 ?_<;>first | with_reducible assumption | omega) | (refine HJ ?_ ?_<;>first | with_reducible assumption | omega) | (refine JF ?_<;>first | with_reducible assumption | omega) | (refine I0 ?_ ?_<;>first | with_reducible assumption | omega) | (refine D7 ?_ ?_<;>first | with_reducible assumption | omega) | (refine JQ ?_<;>first | with_reducible assumption | omega) | (refine zX ?_<;>first | with_reducible assumption | omega) | exact yE | (refine EA ?_ ?_<;>first | with_reducible assumption | omega) | (refine zC ?_<;>first | with_reducible assumption | omega) | exact xZ | (refine D1 ?_ ?_<;>first | with_reducible assumption | omega) | (refine HF ?_ ?_<;>first | with_reducible assumption | omega) | (refine C5 ?_ ?_<;>first | with_reducible assumption | omega) | (refine AK ?_ ?_<;>first | with_reducible assumption | omega) | exact nb_ushl | (refine EB ?_<;>first | with_reducible assumption | omega) | (refine ES ?_<;>first | with_reducible assumption | omega)):Reg P N k (⟨some d,gd,.op (.bin op t x y)⟩::xs) fr H K:=.o hg (yQ (by rw[hx,ha]) (by rw[hy,hb]) hv) h
theorem wv2 {c:IntKind} {x:Operand} {kd:IntKind} {a b:Nat} (h:Reg P N k xs ((d,.sc (.int c (b:Int)))::fr) H K) (hg:gok fr gd=some true:=by rfl) {na:Int} (hx:ev fr x=.sc (.int kd na):=by rfl) (ha:na=(a:Int):=by first | with_reducible rfl | exact kK _)
  (hv:AS c a b:=by first | (refine QT ?_<;>first | with_reducible assumption | omega) | (refine ND ?_<;>first | with_reducible assumption | omega) | exact nc_u64 | (refine QQ ?_<;>first | with_reducible assumption | omega) | exact nc_u8):Reg P N k (⟨some d,gd,.op (.conv c x)⟩::xs) fr H K:=.o hg (IU (by rw[hx,ha]) hv) h
theorem wv5 {x y:Operand} {kd kd':IntKind} {a b:Nat} (h:Reg P N k xs ((d,(.sc (.int kd ((max a b:Nat):Int))))::fr) H K) (hg:gok fr gd=some true:=by rfl) {na nb:Int} (hx:ev fr x=.sc (.int kd na):=by rfl) (hy:ev fr y=.sc (.int kd' nb):=by rfl) (ha:na=(a:Int):=by first | with_reducible rfl | exact kK _) (hb:nb=(b:Int):=by first | with_reducible rfl | exact kK _):Reg P N k (⟨some d,gd,.op (.max [x,y])⟩::xs) fr H K:=.o hg (CG (by rw[hx,ha]) (by rw[hy,hb])) h
theorem wv6 {x y:Operand} {kd kd':IntKind} {a b:Nat} (h:Reg P N k xs ((d,(.sc (.int kd ((min a b:Nat):Int))))::fr) H K) (hg:gok fr gd=some true:=by rfl) {na nb:Int} (hx:ev fr x=.sc (.int kd na):=by rfl) (hy:ev fr y=.sc (.int kd' nb):=by rfl) (ha:na=(a:Int):=by first | with_reducible rfl | exact kK _) (hb:nb=(b:Int):=by first | with_reducible rfl | exact kK _):Reg P N k (⟨some d,gd,.op (.min [x,y])⟩::xs) fr H K:=.o hg (CP (by rw[hx,ha]) (by rw[hy,hb])) h
theorem wv9 {f:FuncId} {args:List Operand} {v:AV} (h:Reg P N k xs ((d,v)::fr) H K) (hk:k≤H.length:=by first | exact nZl _ | exact nlB rfl) (hg:gok fr gd=some true:=by rfl) (hp:aC P f (avals fr args) v:=by assumption):
  Reg P N k (⟨some d,gd,.call f args⟩::xs) fr H K:=.p hk hg hp h
theorem QX {f:Cal} {g:FuncId} {fs cs:List AV} {args:List Operand} {v:AV} (h:Reg P N k xs ((d,v)::fr) H K) (hk:k≤H.length:=by first | exact nZl _ | exact nlB rfl) (hg:gok fr gd=some true:=by rfl) (hf:evC P fr f=.clo (.func g) fs cs:=by rfl)
  (hp:aC P g (fs++avals fr args++cs) v:=by assumption):Reg P N k (⟨some d,gd,.callV f args⟩::xs) fr H K:=.callV hk hg rfl hf (.ofPure hp H h)
variable {base j:Nat} {acc:List bD} {KD:List bD→Fr→Heap→Prop}
theorem wv3 {op:BinOp} {t:TypeId} {x y:Operand} {kd kd':IntKind} {a b:Nat} {v:Value}
  (h:DK P base (j+1) xs ((d,.sc v)::fr) H (⟨⟨some d,gd,.op (.bin op t x y)⟩,(base,j),.sc v,drd fr (.bin op t x y),dwr base j fr (.bin op t x y)⟩::acc) KD) (hg:gok fr gd=some true:=by rfl) {na nb:Int} (hx:ev fr x=.sc (.int kd na):=by rfl)
  (hy:ev fr y=.sc (.int kd' nb):=by rfl) (ha:na=(a:Int):=by first | with_reducible rfl | exact kK _) (hb:nb=(b:Int):=by first | with_reducible rfl | exact kK _)
  (hv:gA op kd kd' a b v:=by first | exact K1 | exact J9 | exact IM | exact KH | exact JH | exact KS | (refine K3 ?_<;>first | with_reducible assumption | omega) | (refine HJ ?_ ?_<;>first | with_reducible assumption | omega) | (refine JF ?_<;>first | with_reducible assumption | omega) | (refine I0 ?_ ?_<;>first | with_reducible assumption | omega) | (refine D7 ?_ ?_<;>first | with_reducible assumption | omega) | (refine JQ ?_<;>first | with_reducible assumption | omega) | (refine zX ?_<;>first | with_reducible assumption | omega) | exact yE | (refine EA ?_ ?_<;>first | with_reducible assumption | omega) | (refine zC ?_<;>first | with_reducible assumption | omega) | exact xZ | (refine D1 ?_ ?_<;>first | with_reducible assumption | omega) | (refine HF ?_ ?_<;>first | with_reducible assumption | omega) | (refine C5 ?_ ?_<;>first | with_reducible assumption | omega) | (refine AK ?_ ?_<;>first | with_reducible assumption | omega) | exact nb_ushl | (refine EB ?_<;>first | with_reducible assumption | omega) | (refine ES ?_<;>first | with_reducible assumption | omega)):DK P base j (⟨some d,gd,.op (.bin op t x y)⟩::xs) fr H acc KD:=.o hg (yQ (by rw[hx,ha]) (by rw[hy,hb]) hv) h
end
theorem AWP.condD {P:Program} {N k:Nat} {fr:Fr} {H:Heap} {Q:Exit→Fr→Heap→Prop} {c:Operand} {x y:bL} {p:Prop} [Decidable p] (hb:ev fr c=.sc (.bool (decide p))) (h1:p→AWP P N k x Q fr H) (h2:¬ p→AWP P N k y Q fr H):
  AWP P N k (.cond c x y) Q fr H:=AWP.cond hb (fun h=>h1 (of_decide_eq_true h)) (fun h=>h2 (of_decide_eq_false h))
theorem AWP.loop2 {P:Program} {N k:Nat} {fr:Fr} {H:Heap} {Q:Exit→Fr→Heap→Prop} {α β:Type} (F:α→β→Fr) (G:α→β→Heap) (I:α→β→Prop) (μ:α→β→Nat) {p:bL} (s0:α) (t0:β) (h0:I s0 t0) (hs:Sub k N fr H (F s0 t0) (G s0 t0))
  (round:∀ s t,I s t→AWP P N k p (AG (fun fr' H'=>∃ s' t',I s' t'∧μ s' t' < μ s t∧Sub k N fr' H' (F s' t') (G s' t')) Q) (F s t) (G s t)):AWP P N k (.loop p) Q fr H:=
 AWP.loop (σ:=α×β) (fun s=>F s.1 s.2) (fun s=>G s.1 s.2) (fun s=>I s.1 s.2) (fun s=>μ s.1 s.2) (s0,t0) h0 hs fun s hi=>AWP.mono (round s.1 s.2 hi) fun e fr H h=>by
  cases e<;>first | exact h | (obtain⟨s',t',h⟩:=h; exact⟨(s',t'),h⟩)
theorem AWP.loop3 {P:Program} {N k:Nat} {fr:Fr} {H:Heap} {Q:Exit→Fr→Heap→Prop} {α β γ:Type} (F:α→β→γ→Fr) (G:α→β→γ→Heap) (I:α→β→γ→Prop) (μ:α→β→γ→Nat) {p:bL} (s0:α) (t0:β) (u0:γ) (h0:I s0 t0 u0)
  (hs:Sub k N fr H (F s0 t0 u0) (G s0 t0 u0))
  (round:∀ s t u,I s t u→AWP P N k p (AG (fun fr' H'=>∃ s' t' u',I s' t' u'∧μ s' t' u' < μ s t u∧Sub k N fr' H' (F s' t' u') (G s' t' u')) Q) (F s t u) (G s t u)):AWP P N k (.loop p) Q fr H:=
 AWP.loop (σ:=α×β×γ) (fun s=>F s.1 s.2.1 s.2.2) (fun s=>G s.1 s.2.1 s.2.2) (fun s=>I s.1 s.2.1 s.2.2) (fun s=>μ s.1 s.2.1 s.2.2) (s0,t0,u0) h0 hs fun s hi=>AWP.mono (round s.1 s.2.1 s.2.2 hi) fun e fr H h=>by
  cases e<;>first | exact h | (obtain⟨s',t',u',h⟩:=h; exact⟨(s',t',u'),h⟩)
theorem AWP.joinB0 {P:Program} {N k:Nat} {a b:bL} {fr:Fr} {H:Heap} {Q Q':Exit→Fr→Heap→Prop} (F':Fr) (H':Heap) (h1:AWP P N k a (AG (fun fr2 H2=>Sub k N fr2 H2 F' H') Q) fr H)
  (h2:AWP P N k b Q' F' H') (hq:∀ fr H,AWP P N k b Q' fr H→Q .normal fr H:=by intro _ _ h; exact h):AWP P N k a Q fr H:=
 AWP.mono h1 fun e fr H h=>by
  cases e<;>first | exact h | exact hq _ _ (AWP.sub h h2)
theorem iY {k:Nat} {rs:List kH} {fr:Fr} {H:Heap} {e:Exit} {R:AV→Heap→Prop} {res res':AV} {H2:Heap} (ids:List (List (Nat×Nat))) (he:e=.normal∨e=.ret) (hres:l5 fr H rs=some res) (hR:R res' H2)
  (h5:To (ToT (H++gh []) H.length (cJ ids)) (rho ids) res res') (h4:aI (ToB (ToT (H++gh []) H.length (cJ ids)) (rho ids)) (H++gh []) ids H2) (h1:jK 0 k ids=true) (h2:mN k ids (H++gh [])=true) (h3:nE ids.flatten=true):
  (e=.normal∨e=.ret)∧∃ res res' H2,l5 fr H rs=some res∧eO k H res H2 res'∧R res' H2:=⟨he,res,res',H2,hres,eO.to [] ids h5 h4 h1 h2 h3,hR⟩
def yX (af:List (List Nat)) (s b:Nat) (rb:bD):Nat→List bD→Bool
 | _,[]=>true
 | a,ra::l=>(Nat.ble b a || (iX af af.length (s+a) (s+b) || fA ra rb)) && yX af s b rb (a+1) l
def qK (af:List (List Nat)) (s:Nat) (R:List bD):Nat→List bD→Bool
 | _,[]=>true
 | b,rb::l=>yX af s b rb 0 R && qK af s R (b+1) l
theorem sW {af s b rb}:∀ {l:List bD} {a0:Nat},yX af s b rb a0 l=true→∀(j:Nat) ra,l[j]?=some ra→a0+j < b→iX af af.length (s+(a0+j)) (s+b)=true∨fA ra rb=true
 | [],_,_,j,_,h,_=>by simp at h
 | r::l,a0,h,j,ra,hj,hb=>by
  simp only[yX,bAe,Bool.or_eq_true] at h
  cases j with
  | zero=>
   simp only[List.getElem?_cons_zero,oIn] at hj;subst hj
   rcases h.1 with h1 | h1
   ·have:=nlB h1; omega
   ·exact h1
  | succ j=>
   have:=sW h.2 j ra (by simpa using hj) (by omega);rw[show a0+(j+1)=a0+1+j by omega];exact this
theorem sP {af s R}:∀ {l:List bD} {b0:Nat},qK af s R b0 l=true→∀(j:Nat) rb,l[j]?=some rb→yX af s (b0+j) rb 0 R=true
 | [],_,_,j,_,h=>by simp at h
 | r::l,b0,h,j,rb,hj=>by
  simp only[qK,bAe] at h
  cases j with
  | zero=>
   simp only[List.getElem?_cons_zero,oIn] at hj;subst hj;exact h.1
  | succ j=>
   have:=sP h.2 j rb (by simpa using hj);rw[show b0+(j+1)=b0+1+j by omega];exact this
theorem mX.of {af s R} (h:qK af s R 0 R=true):mX af s R:=fun a b ra rb hab ha hb=>by
 have:=sP h b rb hb;rw[Nat.zero_add] at this;have:=sW this a ra ha (by omega)
 rwa[Nat.zero_add] at this
theorem AWP.dkm {P:Program} {N k:Nat} {fr:Fr} {H:Heap} {Q:Exit→Fr→Heap→Prop} {zs:List IOper} {af:List (List Nat)} (n:Nat) (y:IOper) (hp:P.follows .mixedOrders=true) (hz:zs=zs.take n++y::zs.drop (n+1)) (hl:(zs.take n).length=n)
  (hlow:qA 0 af=true) (h1:((List.range n).all fun j=>iX af af.length j n)=true) (h2:((List.range (zs.drop (n+1)).length).all fun j=>iX af af.length n (n+1+j))=true)
  (h:DK P H.length 0 (zs.take n) fr (H++[List.replicate (zs.take n).length .dead]) [] fun R1 fr1 H1=>qK af 0 R1 0 R1=true∧Reg P N k [y] fr1 H1 fun fr2 H2=>
   DK P H2.length 0 (zs.drop (n+1)) fr2 (H2++[List.replicate (zs.drop (n+1)).length .dead]) [] fun R2 fr3 H3=>qK af (n+1) R2 0 R2=true∧Q .normal fr3 H3):AWP P N k (.draw zs af) Q fr H:=by
 obtain⟨R1,fr1,H1,hr,hs,hreg⟩:=h;rw[List.reverse_nil,List.nil_append] at hs;refine AWP.drawMid (R1:=R1) (fr1:=fr1) (H1:=H1) hz hp hlow (fun j hj=>?_) (fun j hj=>?_) hr (.of hs) (hreg.mono fun fr2 H2 hk=>?_)
 ·rw[hl] at hj ⊢
  exact List.all_eq_true.1 h1 j (List.mem_range.2 hj)
 ·rw[hl]
  exact List.all_eq_true.1 h2 j (List.mem_range.2 hj)
 ·obtain⟨R2,fr3,H3,hr2,hs2,hq⟩:=hk
  rw[List.reverse_nil,List.nil_append] at hs2;exact⟨R2,fr3,H3,hr2,by rw[hl]; exact .of hs2,hq⟩
theorem aC.args {P:Program} {f:FuncId} {args args':List AV} {v:AV} (h:aC P f args' v) (hl:args.length=args'.length) (hle:∀(j:Nat) a b,args[j]?=some a→args'[j]?=some b→Le a b):aC P f args v:=by
 refine⟨h.1,fun M J w cargs h1 h2 h3=>h.2 M J w cargs (by omega) (fun j c v hc hv=>?_) h3⟩;have hj:=(gEs.1 hc).1;have e:args[j]?=some args[j]:=gEg (by omega);exact hle j _ c e hc M J v (h2 j _ v e hv)
theorem Le.func (f:FuncId):Le (.sc (.func (.func f) #[] #[])) (.clo (.func f) [] []):=fun M J v h=>by
 cases h
 exact .clo _ _ _ _ _ rfl rfl (fun j c v h _=>by simp at h) (fun j c v h _=>by simp at h)
end Go.Av
