import Derived.Test.YtkjoolaahocgdaaGreatGAv11
import Derived.RangeFuncRecord
namespace Go.Av
def CV (k N:Nat) (M:Mem) (J:Inj) (H:Heap) (w:World) (K:Fr→Heap→Prop) (a':Act) (w':World):Prop:=
 ∃ M' J' fr' H',bL k M J H w M' J' H' w'∧bM N M' J' fr' a'.tmps∧a'.defers=[]∧K fr' H'
def Callable (P : Program) (f : FuncId) : Prop := ∃ fn, P.funcs[f]? = some fn ∧ (fn.name == "runtime.NumGoroutine") = false ∧ fn.body.isSome = true
def aQ (P:Program) (f:FuncId) (args:List AV) (H:Heap) (R:AV→Heap→Prop):Prop:=
 Callable P f∧∀ M J w (cargs:Array Value),args.length=cargs.size→(∀(j:Nat) c v,args[j]?=some c→cargs[j]?=some v→Rep M J c v)→bJ M J H w.heap→bT M w.heap →
  Calls P f cargs w fun e w'=>∃ v M' J' res H',e=.returned v∧bL H.length M J H w M' J' H' w'∧Rep M' J' res v∧R res H'
theorem aQ.mono {P f args H R R'} (h:aQ P f args H R) (hr:∀ res H',R res H'→R' res H'):aQ P f args H R':=
 ⟨h.1,fun M J w cargs a b c d=>(h.2 M J w cargs a b c d).mono fun _ _ ⟨v,M',J',res,H',h1,h2,h3,h4⟩=>⟨v,M',J',res,H',h1,h2,h3,hr _ _ h4⟩⟩
def gL (P:Program) (N:Nat) (ops:Array Oper):List Nat→List IOper→Prop
 | [],[]=>True
 | i::l,x::xs=>(∃ o,ops[i]?=some o∧oD P N ops o=some x)∧gL P N ops l xs
 | _,_=>False
def Reg (P:Program) (N k:Nat) (xs:List IOper) (fr:Fr) (H:Heap) (K:Fr→Heap→Prop):Prop:=
 ∀ ops l,gL P N ops l xs→∀ M J tmps w,bM N M J fr tmps→bJ M J H w.heap→bT M w.heap →
  ∀ Q,(∀ a' w',CV k N M J H w K a' w'→Q Exit.normal a' w')→wpOps P ops Q l ⟨tmps,[]⟩ w
section
variable {P:Program} {N k:Nat} {xs:List IOper} {x:IOper} {fr:Fr} {H:Heap} {K:Fr→Heap→Prop}
theorem Reg.nil (h:K fr H):Reg P N k [] fr H K:=by
 intro ops l hm M J tmps w hF hH hM Q hQ
 cases l with
 | nil=>exact hQ _ _ ⟨M,J,fr,H,.refl k hH hM,hF,rfl,h⟩
 | cons i l=>exact hm.elim
theorem gP {ops:Array Oper} {o:Oper} (h:oD P N ops o=some x):IX N o.dst=some x.dst∧yR ops o.guard=some x.guard∧xF P o.op=some x.act:=by
 unfold oD at h
 split at h
 ·rename_i d gd a h1 h2 h3
  injection h with h
  subst h
  exact⟨h1,h2,h3⟩
 ·cases h
theorem bM.put {M J tmps} (hF:bM N M J fr tmps) {d d':Option Nat} (hd:IX N d=some d') {v:AV} {cv:Value} (hv:Rep M J v cv):bM N M J (fr.put d' v) (Act.put ⟨tmps,[]⟩ d cv).tmps:=by
 cases d with
 | none=>
  injection hd with hd
  subst hd
  exact hF
 | some d=>
  simp only[IX] at hd
  split at hd
  ·rename_i hb
   injection hd with hd
   subst hd
   have hlt:d < N:=nlB hb
   refine⟨by simp[Act.put,hF.1],fun t=>?_⟩
   show Rep M J (match Nat.beq d t with | true=>v | false=>Fr.get fr t) _
   split
   ·rename_i e
    have:d=t:=Nat.eq_of_beq_eq_true e
    subst this
    show Rep M J v ((tmps.setIfInBounds d cv).getD d Go.undef)
    rw[Array.getD_eq_getD_getElem?,Array.getElem?_setIfInBounds,if_pos rfl,if_pos (by rw[hF.1]; exact hlt)]
    exact hv
   ·rename_i e
    have hne:d≠t:=fun h=>by subst h; simp at e
    have:=hF.2 t
    show Rep M J (Fr.get fr t) ((tmps.setIfInBounds d cv).getD t Go.undef)
    rw[Array.getD_eq_getD_getElem?,Array.getElem?_setIfInBounds,if_neg hne,← Array.getD_eq_getD_getElem?]
    exact this
  ·cases hd
theorem eV (tmps:Array Value) (d:Option Nat) (cv:Value):(Act.put ⟨tmps,[]⟩ d cv)=⟨(Act.put ⟨tmps,[]⟩ d cv).tmps,[]⟩:=by cases d<;>rfl
theorem bJ.fresh {M J} {h:Array Obj} (hH:bJ M J H h):J H.length 0=none:=by
 cases e:J H.length 0 with
 | none=>rfl
 | some l=>
  have:=(hH.dom _ _ l e).1
  simp[hget] at this
theorem bM.ext {M J M' J' tmps} (hx:Ext M J M' J') (hF:bM N M J fr tmps):bM N M' J' fr tmps:=⟨hF.1,fun t=>(hF.2 t).ext hx⟩
theorem Reg.op {o:IOp} {v:AV} {H':Heap} (hg:gok fr x.guard=some true) (hx:x.act=.op o) (hs:aH H.length 0 o fr H=some (v,H')) (h:Reg P N k xs (fr.put x.dst v) H' K):Reg P N k (x::xs) fr H K:=by
 intro ops l hm M J tmps w hF hH hM Q hQ
 cases l with
 | nil=>exact hm.elim
 | cons i l=>
  obtain⟨⟨o0,ho,hc⟩,hm'⟩:=hm
  obtain⟨c1,c2,c3⟩:=gP hc
  have hw:=fX hF c2 hg
  rw[hx] at c3
  obtain⟨cv,w',J',hrun,hrep,hext,hstep,_⟩:=yL (ds:=[]) c3 hF hH hM (.inr ⟨rfl,rfl⟩) hH.fresh hs
  simp only[wpOps,ho,hw,if_true]
  left
  have hnext:wpOps P ops Q l (Act.put ⟨tmps,[]⟩ o0.dst cv) w':=by
   rw[eV]
   refine h ops l hm' M J' _ w' ((hF.ext hext).put c1 hrep) (hstep k).hrep (hstep k).mrep Q fun a' w'' hp=>hQ a' w'' ?_
   obtain⟨M2,J2,fr2,H2,q1,q2,q3,q4⟩:=hp
   exact⟨M2,J2,fr2,H2,(hstep k).trans q1,q2,q3,q4⟩
  rcases hrun with hrun | ⟨hrun,rfl⟩
  ·simp only[Oper.wp,hrun,Oper.upon]
   exact hnext
  ·simp only[Oper.wp,hrun,Oper.upon]
   exact hnext
theorem Reg.o {d:Nat} {gd:Option (Nat×Bool)} {o:IOp} {v:AV} {H':Heap} (hg:gok fr gd=some true) (hs:aH H.length 0 o fr H=some (v,H')) (h:Reg P N k xs ((d,v)::fr) H' K):Reg P N k (⟨some d,gd,.op o⟩::xs) fr H K:=
 Reg.op (x:=⟨some d,gd,.op o⟩) hg rfl hs h
theorem Reg.on {gd:Option (Nat×Bool)} {o:IOp} {v:AV} {H':Heap} (hg:gok fr gd=some true) (hs:aH H.length 0 o fr H=some (v,H')) (h:Reg P N k xs fr H' K):Reg P N k (⟨none,gd,.op o⟩::xs) fr H K:=
 Reg.op (x:=⟨none,gd,.op o⟩) hg rfl hs h
theorem Reg.skip (hg:gok fr x.guard=some false) (h:Reg P N k xs (fr.put x.dst (.sc Go.undef)) H K):Reg P N k (x::xs) fr H K:=by
 intro ops l hm M J tmps w hF hH hM Q hQ
 cases l with
 | nil=>exact hm.elim
 | cons i l=>
  obtain⟨⟨o0,ho,hc⟩,hm'⟩:=hm
  obtain⟨c1,c2,c3⟩:=gP hc
  have hw:=fX hF c2 hg
  simp only[wpOps,ho,hw,Bool.false_eq_true,if_false]
  rw[eV]
  exact h ops l hm' M J _ w (hF.put c1 (.sc _)) hH hM Q hQ
theorem Reg.s {d:Nat} {gd:Option (Nat×Bool)} {a:IAct} (hg:gok fr gd=some false) (h:Reg P N k xs ((d,.sc Go.undef)::fr) H K):Reg P N k (⟨some d,gd,a⟩::xs) fr H K:=
 Reg.skip (x:=⟨some d,gd,a⟩) hg h
theorem fY {f:FuncId} (hf:Callable P f) (args:Array Value) (w:World):(callFunc f args).run P w=.ok (.enter f args) w:=by
 obtain⟨fn,h1,h2,h3⟩:=hf
 have h4:fn.body.isNone=false:=by cases e:fn.body<;>simp_all
 simp only[callFunc,Sem.run_bind,run_program,Result.andThen_ok,h1,h2,h4,Bool.false_eq_true,if_false,Sem.run_pure]
theorem yH {f:FuncId} {cargs:Array Value} {args:List AV} {ops:Array Oper} {l:List Nat} {M J tmps} {w:World} {o0:Oper} (hF:bM N M J fr tmps) (hH:bJ M J H w.heap) (hM:bT M w.heap)
  (hk:k≤H.length) (c1:IX N o0.dst=some x.dst) (hlen:args.length=cargs.size) (hargs:∀(j:Nat) c v,args[j]?=some c→cargs[j]?=some v→Rep M J c v)
  (h:aQ P f args H fun res H'=>Reg P N k xs (fr.put x.dst res) H' K) (hm':gL P N ops l xs) {Q:Exit→Act→World→Prop} (hQ:∀ a' w',CV k N M J H w K a' w'→Q Exit.normal a' w')
  (hrun:(execOp (Act.eval ⟨tmps,[]⟩) o0).run P w=.ok (.enter f cargs) w):o0.wp P ⟨tmps,[]⟩ w (wpOps P ops Q l) Q:=by
 simp only[Oper.wp,hrun,Oper.upon]
 refine(h.2 M J w cargs hlen hargs hH hM).mono ?_
 rintro e w' ⟨v,M',J',res,H',rfl,hst,hrep,hreg⟩
 simp only
 have hext:Ext M J M' J':=⟨hst.m,fun g i l hJ=>hst.j g i l (by
  have:=(hH.dom g i l hJ).1
  unfold hget at this
  split at this
  ·rename_i f hf; exact(gEs.1 hf).1
  ·cases this) hJ⟩
 rw[eV]
 refine hreg ops l hm' M' J' _ w' ((hF.ext hext).put c1 hrep) hst.hrep hst.mrep Q fun a' w'' hp=>hQ a' w'' ?_
 obtain⟨M2,J2,fr2,H2,q1,q2,q3,q4⟩:=hp
 exact⟨M2,J2,fr2,H2,(hst.mono hk).trans q1,q2,q3,q4⟩
theorem Reg.call {f:FuncId} {args:List Operand} (hk:k≤H.length) (hg:gok fr x.guard=some true) (hx:x.act=.call f args) (h:aQ P f (aX fr args) H fun res H'=>Reg P N k xs (fr.put x.dst res) H' K):
  Reg P N k (x::xs) fr H K:=by
 intro ops l hm M J tmps w hF hH hM Q hQ
 cases l with
 | nil=>exact hm.elim
 | cons i l=>
  obtain⟨⟨o0,ho,hc⟩,hm'⟩:=hm
  obtain⟨c1,c2,c3⟩:=gP hc
  have hw:=fX hF c2 hg
  simp only[wpOps,ho,hw,if_true]
  left
  rw[hx] at c3
  obtain⟨args',ts,hop,rfl⟩:=yI c3
  obtain⟨h1,h2⟩:=fE (ds:=[]) hF args'.toList _ rfl args' rfl
  refine yH hF hH hM hk c1 h1 h2 h hm' hQ ?_
  have he:Act.eval ⟨tmps,[]⟩ (.func f)=.func (.func f) #[] #[]:=rfl
  simp only[execOp,hop,resolve,he,Deferred.ofValue,Sem.run_bind,Sem.run_pure,Result.andThen_ok,invoke]
  rw[show #[]++args'.map (Act.eval ⟨tmps,[]⟩)++#[]=args'.map (Act.eval ⟨tmps,[]⟩) by simp]
  exact fY h.1 _ _
theorem Reg.c {d:Nat} {gd:Option (Nat×Bool)} {f:FuncId} {args:List Operand} (hk:k≤H.length) (hg:gok fr gd=some true) (h:aQ P f (aX fr args) H fun res H'=>Reg P N k xs ((d,res)::fr) H' K):
  Reg P N k (⟨some d,gd,.call f args⟩::xs) fr H K:=Reg.call (x:=⟨some d,gd,.call f args⟩) hk hg rfl h
theorem Reg.callV {f:Operand} {g:FuncId} {fs cs:List AV} {args:List Operand} (hk:k≤H.length) (hg:gok fr x.guard=some true) (hx:x.act=.callV f args) (hf:ev fr f=.clo (.func g) fs cs)
  (h:aQ P g (fs++aX fr args++cs) H fun res H'=>Reg P N k xs (fr.put x.dst res) H' K):Reg P N k (x::xs) fr H K:=by
 intro ops l hm M J tmps w hF hH hM Q hQ
 cases l with
 | nil=>exact hm.elim
 | cons i l=>
  obtain⟨⟨o0,ho,hc⟩,hm'⟩:=hm
  obtain⟨c1,c2,c3⟩:=gP hc
  have hw:=fX hF c2 hg
  simp only[wpOps,ho,hw,if_true]
  left
  rw[hx] at c3
  obtain⟨t,args',ts,hop,rfl,rfl⟩:=pP c3
  obtain⟨h1,h2⟩:=fE (ds:=[]) hF args'.toList _ rfl args' rfl
  have hfv:=bA (ds:=[]) hF (.tmp t)
  rw[hf] at hfv
  generalize hfe:Act.eval ⟨tmps,[]⟩ (.tmp t)=fv at hfv
  cases hfv with
  | clo _ _ _ cfs ccs r1 r2 r3 r4=>
   refine yH (cargs:=cfs++args'.map (Act.eval ⟨tmps,[]⟩)++ccs) hF hH hM hk c1 (by simp only[List.length_append,Array.size_append]; omega) (fun j c v hc' hv'=>?_) h hm' hQ ?_
   ·rw[List.getElem?_append] at hc'
    rw[Array.getElem?_append] at hv'
    simp only[List.length_append,Array.size_append] at hc' hv'
    rw[h1,r1] at hc'
    split at hc'
    ·rename_i hj
     rw[if_pos hj] at hv'
     rw[List.getElem?_append] at hc'
     rw[Array.getElem?_append] at hv'
     rw[r1] at hc'
     split at hc'
     ·rename_i hj2
      rw[if_pos hj2] at hv'
      exact r3 j c v hc' hv'
     ·rename_i hj2
      rw[if_neg hj2] at hv'
      exact h2 _ c v hc' hv'
    ·rename_i hj
     rw[if_neg hj] at hv'
     exact r4 _ c v hc' hv'
   ·simp only[execOp,hop,resolve,hfe,Deferred.ofValue,Sem.run_bind,Sem.run_pure,Result.andThen_ok,invoke]
    exact fY h.1 _ _
def Sub (k N:Nat) (fr:Fr) (H:Heap) (fr':Fr) (H':Heap):Prop:=
 ∀ M J tmps (w:World),bM N M J fr tmps→bJ M J H w.heap→bT M w.heap→∃ M' J',bL k M J H w M' J' H' w∧bM N M' J' fr' tmps
theorem Sub.refl (k N:Nat) (fr:Fr) (H:Heap):Sub k N fr H fr H:=fun _ _ _ _ hF hH hM=>⟨_,_,.refl k hH hM,hF⟩
theorem Sub.trans {k N:Nat} {fr fr' fr'':Fr} {H H' H'':Heap} (a:Sub k N fr H fr' H') (b:Sub k N fr' H' fr'' H''):Sub k N fr H fr'' H'':=by
 intro M J tmps w hF hH hM
 obtain⟨M1,J1,s1,f1⟩:=a M J tmps w hF hH hM
 obtain⟨M2,J2,s2,f2⟩:=b M1 J1 tmps w f1 s1.hrep s1.mrep
 exact⟨M2,J2,s1.trans s2,f2⟩
theorem Reg.sub {fr':Fr} {H':Heap} (hs:Sub k N fr H fr' H') (h:Reg P N k xs fr' H' K):Reg P N k xs fr H K:=by
 intro ops l hm M J tmps w hF hH hM Q hQ
 obtain⟨M1,J1,s1,f1⟩:=hs M J tmps w hF hH hM
 refine h ops l hm M1 J1 tmps w f1 s1.hrep s1.mrep Q fun a' w' hp=>hQ a' w' ?_
 obtain⟨M2,J2,fr2,H2,q1,q2,q3,q4⟩:=hp
 exact⟨M2,J2,fr2,H2,s1.trans q1,q2,q3,q4⟩
theorem Reg.mono {K':Fr→Heap→Prop} (h:Reg P N k xs fr H K) (hk:∀ fr H,K fr H→K' fr H):Reg P N k xs fr H K':=by
 intro ops l hm M J tmps w hF hH hM Q hQ
 exact h ops l hm M J tmps w hF hH hM Q fun a' w' ⟨M2,J2,fr2,H2,q1,q2,q3,q4⟩=>hQ a' w' ⟨M2,J2,fr2,H2,q1,q2,q3,hk _ _ q4⟩
theorem Sub.le {fr':Fr} (h:∀ x∈fr',Le (fr.get x.1) x.2):Sub k N fr H fr' H:=by
 intro M J tmps w hF hH hM
 refine⟨M,J,.refl k hH hM,hF.1,fun t=>?_⟩
 have key:Le (fr.get t) (Fr.get fr' t):=by
  clear hF
  induction fr' with
  | nil=>exact .undef _
  | cons p fr' ih=>
   obtain⟨d,v⟩:=p
   show Le (fr.get t) (match Nat.beq d t with | true=>v | false=>Fr.get fr' t)
   split
   ·rename_i e
    have:d=t:=Nat.eq_of_beq_eq_true e
    subst this
    exact h (d,v) (List.mem_cons_self ..)
   ·exact ih fun x hx=>h x (List.mem_cons_of_mem _ hx)
 exact key M J _ (hF.2 t)
theorem Sub.ren {fr':Fr} {H':Heap} (ρ:Nat→Nat→Option (Nat×Nat)) (hn:xD ρ k H H') (h:∀ x∈fr',Ren ρ (fr.get x.1) x.2):Sub k N fr H fr' H':=by
 intro M J tmps w hF hH hM
 exact⟨M,J.via ρ,(bL.refl k hH hM).ren hn,hF.ren h⟩
end
end Go.Av
namespace Go.Av
def FW (ro:Option Nat):Fence:={ Fence.wide with round:=ro }
theorem CW {P:Program} {ro:Option Nat} {m m':Machine}:StepsIn (Machine.fenced P (FW ro)) P m m'↔Steps P m m':=stepsIn_wide
theorem qB {ro:Option Nat} {n:Nat} {P:Program} {f:FuncId} {args:Array Value} {w:World} {R:Ending→World→Prop}:CallsIn (FW ro) n P f args w R↔Calls P f args w R:=callsIn_wide (n:=n)
def HD (D:Nat):Deferred:={ target:=.collected D,args:=#[] }
structure Cx where
 ro:Option Nat
 b:Nat
 Ds:List Nat
def Cx.ds (x:Cx):List Deferred:=x.Ds.map HD
structure Cx.ok (x:Cx) (M:Mem) (J:Inj) (H:Heap) (w:World):Prop where
 rnd:∀ l,x.ro=some l→∃ r,w.heap[l]?=some (.loop r)
 base:x.b≤w.heap.size
 nd:x.Ds.Nodup
 dfr:∀ D∈x.Ds,x.b≤D∧w.heap[D]?=some (.deferred (some []))∧M D=none∧∀ g i l,bK H g i→J g i=some l→l.blk≠some D
theorem Cx.ok.step {x:Cx} {k M J H w M' J' H' w'} (h:x.ok M J H w) (s:bL k M J H w M' J' H' w'):x.ok M' J' H' w' where
 rnd l hl:=by
  obtain⟨r,hr⟩:=h.rnd l hl
  obtain⟨r',h',_⟩:=s.bk l r hr
  exact⟨r',h'⟩
 base:=Nat.le_trans h.base s.size
 nd:=h.nd
 dfr D hD:=by
  obtain⟨h1,h2,h3,h4⟩:=h.dfr D hD
  refine⟨h1,s.frame D _ h2 h4,?_,fun g i l a b c=>?_⟩
  ·cases e:M' D with
   | none=>rfl
   | some o=>
    rcases s.fresh D o e with h5 | h5 | ⟨g,i,l,a,b,c⟩
    ·rw[h3] at h5; cases h5
    ·have:=cO h2; omega
    ·exact absurd c (h4 g i l a b)
  ·rcases s.live g i l D a b c with⟨g0,i0,l0,h5,h6,h7⟩ | h5
   ·exact h4 g0 i0 l0 h5 h6 h7
   ·have:=cO h2; omega
def CE (x:Cx) (k N:Nat) (M:Mem) (J:Inj) (H:Heap) (w:World) (K:Fr→Heap→Prop) (a':Act) (w':World):Prop:=
 ∃ M' J' fr' H' Ds,bL k M J H w M' J' H' w'∧bM N M' J' fr' a'.tmps∧a'.defers=Ds.map HD∧Cx.ok ⟨x.ro,x.b,Ds⟩ M' J' H' w'∧K fr' H'
section
variable {P:Program} {ops:Array Oper}
theorem kT {ro:Option Nat} {ρ:Operand→Value} {o:Oper} (h:∀ c,o.op≠.defer c):Oper.semAt ro ρ o=execOp ρ o:=by
 unfold Oper.semAt
 split
 ·rename_i e
  exact absurd e (h _)
 ·rfl
theorem kR (ro:Option Nat) (ds:List Deferred) (R:Array Value→World→Prop) (l2:List Nat) (Q:Exit→Act→World→Prop) (hR:∀ t w,R t w→wpOpsIn (FW ro) 0 P ops Q l2 ⟨t,ds⟩ w)
  (Q0:Exit→Act→World→Prop) (hQ0:∀ e a w,Q0 e a w→e=.normal∧a.defers=[]∧R a.tmps w):
  ∀(l:List Nat) (tmps:Array Value) (dl:List Deferred) (w:World),wpOps P ops Q0 l ⟨tmps,dl⟩ w →
   dl=[]∧wpOpsIn (FW ro) 0 P ops Q (l++l2) ⟨tmps,ds⟩ w
 | [],tmps,dl,w,h=>⟨(hQ0 _ _ _ h).2.1,hR _ _ (hQ0 _ _ _ h).2.2⟩
 | i::l,tmps,dl,w,h=>by
  simp only[wpOps] at h
  simp only[List.cons_append,wpOpsIn]
  cases ho:ops[i]? with
  | none=>
   simp only[ho] at h ⊢
   exact kR ro ds R l2 Q hR Q0 hQ0 l tmps dl w h
  | some o=>
   simp only[ho] at h ⊢
   by_cases hw:Region.wanted o (yielded ops tmps)=true
   ·simp only[hw,if_true] at h ⊢
    have h:=h.resolve_right fun⟨_,a0,w0,h⟩=>absurd (hQ0 _ _ _ h).1 (by simp)
    have ih:=kR ro ds R l2 Q hR Q0 hQ0 l
    have hput:∀ d v,(Act.put ⟨tmps,dl⟩ d v)=⟨(Act.put ⟨tmps,ds⟩ d v).tmps,dl⟩∧(Act.put ⟨tmps,ds⟩ d v)=⟨(Act.put ⟨tmps,ds⟩ d v).tmps,ds⟩:=by
     intro d v; cases d<;>exact⟨rfl,rfl⟩
    have hlets:¬ LetsOut Q0:=fun⟨a0,w0,h⟩=>absurd (hQ0 _ _ _ h).1 (by simp)
    have hev:Act.eval ⟨tmps,dl⟩=Act.eval ⟨tmps,ds⟩:=rfl
    simp only[Oper.wp,hev] at h
    have hnd:∀ c,o.op≠.defer c:=by
     intro c hc
     have hx:execOp (Act.eval ⟨tmps,ds⟩) o=(do let d ← resolve (Act.eval ⟨tmps,ds⟩) c o.type; pure (.defer d)):=by simp only[execOp,hc]
     rw[hx] at h
     simp only[Sem.run_bind] at h
     cases hr:(resolve (Act.eval ⟨tmps,ds⟩) c o.type).run P w with
     | ok d w1=>
      rw[hr] at h
      simp only[Result.andThen_ok,Sem.run_pure,Oper.upon] at h
      rw[show({ ({ tmps:=tmps,defers:=dl }:Act) with defers:=d::dl }:Act).put o.dst undef=⟨(Act.put ⟨tmps,ds⟩ o.dst undef).tmps,d::dl⟩ by cases o.dst<;>rfl] at h
      exact absurd (ih _ _ _ h).1 (by simp)
     | halt s w1=>
      rw[hr] at h
      cases s<;>first | (exact h.elim) | exact absurd (hQ0 _ _ _ h).1 (by simp)
    simp only[Oper.wpIn,kT hnd]
    have hdl:dl=[]∧o.uponIn (FW ro) 0 P ⟨tmps,ds⟩ (wpOpsIn (FW ro) 0 P ops Q (l++l2)) Q ((execOp (Act.eval ⟨tmps,ds⟩) o).run P w):=by
     cases hr:(execOp (Act.eval ⟨tmps,ds⟩) o).run P w with
     | halt s w1=>rw[hr] at h; cases s<;>first | (exact h.elim) | exact absurd (hQ0 _ _ _ h).1 (by simp)
     | ok nx w1=>
      rw[hr] at h
      cases nx with
      | value v=>
       simp only[Oper.upon,(hput _ _).1] at h
       simp only[Oper.uponIn]
       rw[(hput _ _).2]
       exact ih _ _ _ h
      | skip=>
       simp only[Oper.upon,(hput _ _).1] at h
       simp only[Oper.uponIn]
       rw[(hput _ _).2]
       exact ih _ _ _ h
      | defer d=>
       simp only[Oper.upon] at h
       rw[show({ ({ tmps:=tmps,defers:=dl }:Act) with defers:=d::dl }:Act).put o.dst undef=⟨(Act.put ⟨tmps,ds⟩ o.dst undef).tmps,d::dl⟩ by cases o.dst<;>rfl] at h
       exact absurd (ih _ _ _ h).1 (by simp)
      | enter f args=>
       simp only[Oper.upon] at h
       simp only[Oper.uponIn]
       refine⟨?_,fun hd=>by simp[FW,Fence.wide] at hd,qB.2 (h.mono ?_)⟩
       ·obtain⟨e,w',fr,hR',_⟩:=h []
        cases e with
        | returned v=>simp only[(hput _ _).1] at hR'; exact(ih _ _ _ hR').1
        | panicked ch=>exact absurd (hQ0 _ _ _ hR').1 (by simp)
        | outgrown=>exact absurd hR' hlets
       ·intro e w' hR'
        cases e with
        | returned v=>simp only[(hput _ _).1] at hR'; simp only; rw[(hput _ _).2]; exact(ih _ _ _ hR').2
        | panicked ch=>exact absurd (hQ0 _ _ _ hR').1 (by simp)
        | outgrown=>exact absurd hR' hlets
      | row row args=>
       simp only[Oper.upon] at h
       simp only[Oper.uponIn]
       refine⟨?_,fun hd=>by simp[FW,Fence.wide] at hd,fun c cs _=>?_⟩
       ·obtain⟨v,w',hR',_⟩:=h default []
        rw[(hput _ _).1] at hR'
        exact(ih _ _ _ hR').1
       ·obtain⟨v,w',hR',hs⟩:=h c cs
        rw[(hput _ _).1] at hR'
        exact⟨v,w',by show wpOpsIn (FW ro) 0 P ops Q (l++l2) _ w'; rw[(hput _ _).2]; exact(ih _ _ _ hR').2,CW.2 hs⟩
      | _=>exact h.elim
    exact⟨hdl.1,fun _ _=>trivial,hdl.2⟩
   ·simp only[hw,if_false,Bool.false_eq_true] at h ⊢
    have hput:(Act.put ⟨tmps,dl⟩ o.dst undef)=⟨(Act.put ⟨tmps,ds⟩ o.dst undef).tmps,dl⟩∧(Act.put ⟨tmps,ds⟩ o.dst undef)=⟨(Act.put ⟨tmps,ds⟩ o.dst undef).tmps,ds⟩:=by
     cases o.dst<;>exact⟨rfl,rfl⟩
    rw[hput.1] at h
    rw[hput.2]
    have:=kR ro ds R l2 Q hR Q0 hQ0 l _ _ _ h
    exact⟨this.1,fun _ _=>trivial,this.2⟩
theorem iS {x:Cx} {k N:Nat} {M:Mem} {J:Inj} {H:Heap} {w:World} {Q:Exit→Fr→Heap→Prop} (hx:x.ok M J H w) {tmps:Array Value} {w1:World} {l:List Nat}
  (h:wpOps P ops (fun e a' w'=>e=.normal∧CV k N M J H w (Q .normal) a' w') l ⟨tmps,[]⟩ w1):
  wpOpsIn (FW x.ro) 0 P ops (fun e a' w'=>CE x k N M J H w (Q e) a' w') l ⟨tmps,x.ds⟩ w1:=by
 have:=(kR (P:=P) (ops:=ops) x.ro x.ds (fun t w'=>∃ M' J' fr' H',bL k M J H w M' J' H' w'∧bM N M' J' fr' t∧Q .normal fr' H') [] (fun e a' w'=>CE x k N M J H w (Q e) a' w')
  (fun t w' ⟨M',J',fr',H',a,b,c⟩=>⟨M',J',fr',H',x.Ds,a,b,rfl,hx.step a,c⟩) _
  (fun e a' w' ⟨he,M',J',fr',H',q1,q2,q3,q4⟩=>⟨he,q3,M',J',fr',H',q1,q2,q4⟩) l tmps [] w1 h).2
 rwa[List.append_nil] at this
end
end Go.Av
namespace Go.Av
inductive dB where
 | skip
 | region (xs:List IOper)
 | draw (xs:List IOper) (after:List (List Nat))
 | seq (a b:dB)
 | cond (c:Operand) (thn els:dB)
 | block (id:Nat) (body:dB)
 | loop (body:dB)
 | rangeF (f:Operand) (ps:List Nat) (asg body:dB)
 | exit (id:Nat)
 | ret
 | bad
def nU (P:Program) (N:Nat) (ops:Array Oper):List Oper→Option (List IOper)
 | []=>some []
 | o::r=>match oD P N ops o,nU P N ops r with
  | some x,some xs=>some (x::xs)
  | _,_=>none
def d8 (o:Oper):List Nat:=(o.after.toList.filter (Region.binds .any)).map (·.on)
def cN (P:Program) (N:Nat):Code→Option dB
 | .skip=>some .skip
 | .region _ ops draw=>match nU P N ops ops.toList with
  | some xs=>match draw with
   | false=>some (.region xs)
   | true=>some (.draw xs (ops.toList.map d8))
  | none=>some .bad
 | .seq a b=>match cN P N a,cN P N b with
  | some x,some y=>some (.seq x y)
  | _,_=>none
 | .cond c a b=>match cN P N a,cN P N b with
  | some x,some y=>some (.cond c x y)
  | _,_=>none
 | .block id b=>(cN P N b).map (.block id)
 | .loop b=>(cN P N b).map .loop
 | .rangeFunc f ps a b=>match cN P N a,cN P N b with
  | some x,some y=>some (.rangeF f ps.toList x y)
  | _,_=>none
 | .exit id=>some (.exit id)
 | .ret=>some .ret
 | _=>some .bad
def AWP (P:Program) (N k:Nat) (c:dB) (Q:Exit→Fr→Heap→Prop) (fr:Fr) (H:Heap):Prop:=
 ∀ c0,cN P N c0=some c→∀(x:Cx) M J tmps w,x.ok M J H w→bM N M J fr tmps→bJ M J H w.heap→bT M w.heap→c0.wpIn (FW x.ro) 0 P (fun e a' w'=>CE x k N M J H w (Q e) a' w') ⟨tmps,x.ds⟩ w
section
variable {P:Program} {N k:Nat} {fr:Fr} {H:Heap} {Q:Exit→Fr→Heap→Prop}
theorem kV {ops:Array Oper}:∀(l:List Oper) (n:Nat) (xs:List IOper),nU P N ops l=some xs→(∀(j:Nat) o,l[j]?=some o→ops[n+j]?=some o)→gL P N ops (List.range' n l.length) xs
 | [],n,xs,h,_=>by
  simp[nU] at h
  subst h
  trivial
 | o::l,n,xs,h,hg=>by
  simp only[nU] at h
  split at h
  ·rename_i x ys h1 h2
   injection h with h
   subst h
   rw[List.length_cons,List.range'_succ]
   exact⟨⟨o,hg 0 o rfl,h1⟩,kV l (n+1) ys h2 fun j o' hj=>by rw[Nat.add_assoc,Nat.add_comm 1 j]; exact hg (j+1) o' hj⟩
  ·cases h
theorem AWP.region {xs:List IOper} (h:Reg P N k xs fr H (Q .normal)):AWP P N k (.region xs) Q fr H:=by
 intro c0 hc x M J tmps w hx hF hH hM
 cases c0 with
 | region id ops draw=>
  simp only[cN] at hc
  split at hc
  ·rename_i ys hys
   cases draw with
   | true=>cases hc
   | false=>
    injection hc with hc
    injection hc with hc
    subst hc
    refine wpIn_region (iS hx ?_)
    have hm:=kV ops.toList 0 ys hys fun j o hj=>by rw[Nat.zero_add,← Array.getElem?_toList]; exact hj
    rw[← List.range_eq_range'] at hm
    exact h ops _ (by simpa using hm) M J tmps w hF hH hM _ fun a' w' hp=>⟨rfl,hp⟩
  ·cases hc
 | _=>simp only[cN] at hc; (try split at hc)<;>(try cases hc)<;>(try simp at hc)
theorem AWP.skip (h:Q .normal fr H):AWP P N k .skip Q fr H:=by
 intro c0 hc x M J tmps w hx hF hH hM
 cases c0 with
 | skip=>exact wpIn_skip ⟨M,J,fr,H,x.Ds,.refl k hH hM,hF,rfl,hx,h⟩
 | region id ops draw=>simp only[cN] at hc; split at hc<;>(try cases hc); split at hc<;>cases hc
 | _=>simp only[cN] at hc; (try split at hc)<;>(try cases hc)<;>(try simp at hc)
theorem AWP.ret (h:Q .ret fr H):AWP P N k .ret Q fr H:=by
 intro c0 hc x M J tmps w hx hF hH hM
 cases c0 with
 | ret=>exact wpIn_ret ⟨M,J,fr,H,x.Ds,.refl k hH hM,hF,rfl,hx,h⟩
 | region id ops draw=>simp only[cN] at hc; split at hc<;>(try cases hc); split at hc<;>cases hc
 | _=>simp only[cN] at hc; (try split at hc)<;>(try cases hc)<;>(try simp at hc)
theorem AWP.exit {id:Nat} (h:Q (.exit id) fr H):AWP P N k (.exit id) Q fr H:=by
 intro c0 hc x M J tmps w hx hF hH hM
 cases c0 with
 | exit id'=>
  injection hc with hc
  injection hc with hc
  subst hc
  exact wpIn_exit ⟨M,J,fr,H,x.Ds,.refl k hH hM,hF,rfl,hx,h⟩
 | region id ops draw=>simp only[cN] at hc; split at hc<;>(try cases hc); split at hc<;>cases hc
 | _=>simp only[cN] at hc; (try split at hc)<;>(try cases hc)<;>(try simp at hc)
def gG (R:Fr→Heap→Prop) (Q:Exit→Fr→Heap→Prop):Exit→Fr→Heap→Prop
 | .normal=>R
 | e=>Q e
theorem AWP.seq {a b:dB} (h:AWP P N k a (gG (AWP P N k b Q) Q) fr H):AWP P N k (.seq a b) Q fr H:=by
 intro c0 hc x M J tmps w hx hF hH hM
 cases c0 with
 | seq p y=>
  simp only[cN] at hc
  split at hc
  ·rename_i p' y' hp0 hy
   injection hc with hc
   injection hc with hc1 hc2
   subst hc1; subst hc2
   refine wpIn_seq (wpIn_mono (h p hp0 x M J tmps w hx hF hH hM) fun e a1 w1 hp=>?_)
   obtain⟨M1,J1,fr1,H1,Ds1,q1,q2,q3,q0,q4⟩:=hp
   cases e with
   | normal=>
    obtain⟨t1,d1⟩:=a1
    cases q3
    refine wpIn_mono (q4 y hy ⟨x.ro,x.b,Ds1⟩ M1 J1 t1 w1 q0 q2 q1.hrep q1.mrep) fun e a2 w2 hp=>?_
    obtain⟨M2,J2,fr2,H2,Ds2,r1,r2,r3,r0,r4⟩:=hp
    exact⟨M2,J2,fr2,H2,Ds2,q1.trans r1,r2,r3,r0,r4⟩
   | _=>exact⟨M1,J1,fr1,H1,Ds1,q1,q2,q3,q0,q4⟩
  ·cases hc
 | region id ops draw=>simp only[cN] at hc; split at hc<;>(try cases hc); split at hc<;>cases hc
 | _=>simp only[cN] at hc; (try split at hc)<;>(try cases hc)<;>(try simp at hc)
theorem AWP.cond {c:Operand} {p y:dB} {b:Bool} (hb:ev fr c=.sc (.bool b)) (h1:b=true→AWP P N k p Q fr H) (h2:b=false→AWP P N k y Q fr H):AWP P N k (.cond c p y) Q fr H:=by
 intro c0 hc x M J tmps w hx hF hH hM
 cases c0 with
 | cond c' p0 y0=>
  simp only[cN] at hc
  split at hc
  ·rename_i p' y' hp hy
   injection hc with hc
   injection hc with hc0 hc1 hc2
   subst hc0; subst hc1; subst hc2
   have hv:=bA (ds:=x.ds) hF c'
   rw[hb] at hv
   exact wpIn_cond_split hv.sc_inv (fun e=>h1 e p0 hp x M J tmps w hx hF hH hM) (fun e=>h2 e y0 hy x M J tmps w hx hF hH hM)
  ·cases hc
 | region id ops draw=>simp only[cN] at hc; split at hc<;>(try cases hc); split at hc<;>cases hc
 | _=>simp only[cN] at hc; (try split at hc)<;>(try cases hc)<;>(try simp at hc)
def D9 (id:Nat) (Q:Exit→Fr→Heap→Prop):Exit→Fr→Heap→Prop
 | .exit id'=>match Nat.beq id' id with
  | true=>Q .normal
  | false=>Q (.exit id')
 | e=>Q e
theorem AWP.block {id:Nat} {p:dB} (h:AWP P N k p (D9 id Q) fr H):AWP P N k (.block id p) Q fr H:=by
 intro c0 hc x M J tmps w hx hF hH hM
 cases c0 with
 | block id' p0=>
  simp only[cN,Option.map_eq_some_iff,dB.block.injEq] at hc
  obtain⟨p',hp0,rfl,rfl⟩:=hc
  refine wpIn_block (wpIn_mono (h p0 hp0 x M J tmps w hx hF hH hM) fun e a1 w1 hp=>?_)
  cases e with
  | exit id1=>
   simp only[Exit.inBlock]
   simp only[D9] at hp
   by_cases e:id1=id'
   ·subst e
    rw[if_pos rfl]
    simpa using hp
   ·rw[if_neg e]
    have:Nat.beq id1 id'=false:=by
     cases hb:Nat.beq id1 id' with
     | true=>exact absurd (Nat.eq_of_beq_eq_true hb) e
     | false=>rfl
    rw[this] at hp
    exact hp
  | _=>exact hp
 | region id ops draw=>simp only[cN] at hc; split at hc<;>(try cases hc); split at hc<;>cases hc
 | _=>simp only[cN] at hc; (try split at hc)<;>(try cases hc)<;>(try simp at hc)
theorem AWP.sub {c:dB} {fr':Fr} {H':Heap} (hs:Sub k N fr H fr' H') (h:AWP P N k c Q fr' H'):AWP P N k c Q fr H:=by
 intro c0 hc x M J tmps w hx hF hH hM
 obtain⟨M1,J1,s1,f1⟩:=hs M J tmps w hF hH hM
 refine wpIn_mono (h c0 hc x M1 J1 tmps w (hx.step s1) f1 s1.hrep s1.mrep) fun e a1 w1 hp=>?_
 obtain⟨M2,J2,fr2,H2,Ds,r1,r2,r3,r0,r4⟩:=hp
 exact⟨M2,J2,fr2,H2,Ds,s1.trans r1,r2,r3,r0,r4⟩
theorem AWP.mono {c:dB} {Q':Exit→Fr→Heap→Prop} (h:AWP P N k c Q fr H) (hq:∀ e fr H,Q e fr H→Q' e fr H):AWP P N k c Q' fr H:=by
 intro c0 hc x M J tmps w hx hF hH hM
 exact wpIn_mono (h c0 hc x M J tmps w hx hF hH hM) fun e a1 w1 ⟨M2,J2,fr2,H2,Ds,r1,r2,r3,r0,r4⟩=>⟨M2,J2,fr2,H2,Ds,r1,r2,r3,r0,hq _ _ _ r4⟩
theorem AWP.loop {σ:Type} (F:σ→Fr) (G:σ→Heap) (I:σ→Prop) (μ:σ→Nat) {p:dB} (s0:σ) (h0:I s0) (hs:Sub k N fr H (F s0) (G s0))
  (round:∀ s,I s→AWP P N k p (gG (fun fr' H'=>∃ s',I s'∧μ s' < μ s∧Sub k N fr' H' (F s') (G s')) Q) (F s) (G s)):AWP P N k (.loop p) Q fr H:=by
 intro c0 hc x M J tmps w hx hF hH hM
 cases c0 with
 | loop p0=>
  simp only[cN,Option.map_eq_some_iff,dB.loop.injEq] at hc
  obtain⟨p',hp0,rfl⟩:=hc
  let Inv:Nat→Act→World→Prop:=fun n a w'=>∃ s,I s∧μ s=n∧∃ M1 J1 Ds,a.defers=Ds.map HD∧Cx.ok ⟨x.ro,x.b,Ds⟩ M1 J1 (G s) w'∧bL k M J H w M1 J1 (G s) w'∧bM N M1 J1 (F s) a.tmps
  refine wpIn_mono (Q:=fun e a' w'=>CE x k N M J H w (Q e) a' w') ?_ fun e a w h=>h
  have key:∀ n a w',Inv n a w'→(Code.loop p0).wpIn (FW x.ro) 0 P (fun e a' w'=>CE x k N M J H w (Q e) a' w') a w':=by
   intro n a w' hinv
   classical
   refine wpIn_loop (fun a w'=>∃ n,Inv n a w') (fun a w'=>if h:∃ n,Inv n a w' then Classical.choose (show ∃ n,Inv n a w'∧∀ m,Inv m a w'→n≤m from by
    have:=h
    obtain⟨n,hn⟩:=this
    induction n using Nat.strongRecOn with
    | _ n ih=>
     by_cases hx:∃ m,m < n∧Inv m a w'
     ·obtain⟨m,hm,hi⟩:=hx
      exact ih m hm hi
     ·exact⟨n,hn,fun m hm=>Nat.le_of_not_lt fun hlt=>hx ⟨m,hlt,hm⟩⟩) else 0) ⟨n,hinv⟩ ?_
   intro a w' hI
   have hmin:=Classical.choose_spec (show ∃ n,Inv n a w'∧∀ m,Inv m a w'→n≤m from by
    have:=hI
    obtain⟨n,hn⟩:=this
    induction n using Nat.strongRecOn with
    | _ n ih=>
     by_cases hx:∃ m,m < n∧Inv m a w'
     ·obtain⟨m,hm,hi⟩:=hx
      exact ih m hm hi
     ·exact⟨n,hn,fun m hm=>Nat.le_of_not_lt fun hlt=>hx ⟨m,hlt,hm⟩⟩)
   simp only[dif_pos hI]
   generalize Classical.choose _=n0 at hmin
   obtain⟨⟨s,hs1,hs2,M1,J1,Ds1,hs3,hs0,hs4,hs5⟩,_⟩:=hmin
   obtain⟨t1,d1⟩:=a
   cases hs3
   refine wpIn_mono (round s hs1 p0 hp0 ⟨x.ro,x.b,Ds1⟩ M1 J1 t1 w' hs0 hs5 hs4.hrep hs4.mrep) fun e a2 w2 hp=>?_
   obtain⟨M2,J2,fr2,H2,Ds2,r1,r2,r3,r0,r4⟩:=hp
   cases e with
   | normal=>
    obtain⟨s',h1,h2,h3⟩:=r4
    obtain⟨M3,J3,q1,q2⟩:=h3 M2 J2 a2.tmps w2 r2 r1.hrep r1.mrep
    have hinv':Inv (μ s') a2 w2:=⟨s',h1,rfl,M3,J3,Ds2,r3,Cx.ok.step r0 q1,(hs4.trans r1).trans q1,q2⟩
    refine⟨⟨_,hinv'⟩,?_⟩
    have hex:∃ n,Inv n a2 w2:=⟨_,hinv'⟩
    simp only[dif_pos hex]
    have hmin2:=Classical.choose_spec (show ∃ n,Inv n a2 w2∧∀ m,Inv m a2 w2→n≤m from by
     have:=hex
     obtain⟨n,hn⟩:=this
     induction n using Nat.strongRecOn with
     | _ n ih=>
      by_cases hx:∃ m,m < n∧Inv m a2 w2
      ·obtain⟨m,hm,hi⟩:=hx
       exact ih m hm hi
      ·exact⟨n,hn,fun m hm=>Nat.le_of_not_lt fun hlt=>hx ⟨m,hlt,hm⟩⟩)
    have:=hmin2.2 _ hinv'
    omega
   | _=>exact⟨M2,J2,fr2,H2,Ds2,hs4.trans r1,r2,r3,r0,r4⟩
  obtain⟨M1,J1,q1,q2⟩:=hs M J tmps w hF hH hM
  exact key (μ s0) ⟨tmps,x.ds⟩ w ⟨s0,h0,rfl,M1,J1,x.Ds,rfl,hx.step q1,q1,q2⟩
 | region id ops draw=>simp only[cN] at hc; split at hc<;>(try cases hc); split at hc<;>cases hc
 | _=>simp only[cN] at hc; (try split at hc)<;>(try cases hc)<;>(try simp at hc)
end
end Go.Av
namespace Go.Av
inductive nI where
 | tmp (t:Nat)
 | cell (a:Nat) (sz:Nat) (agg:Bool)
def zC (P:Program):ResultVar→Option nI
 | .tmp t=>some (.tmp t)
 | .cell a t=>(pG P t).map fun p=>.cell a p.1 p.2
def n5 (P:Program):List ResultVar→Option (List nI)
 | []=>some []
 | r::l=>match zC P r,n5 P l with
  | some x,some xs=>some (x::xs)
  | _,_=>none
structure IFun where
 n:Nat
 code:dB
 res:List nI
def bU (P:Program) (f:FuncId):Option IFun:=
 match P.funcs[f]? with
 | some fn=>match fn.body,n5 P fn.results.toList with
  | some b,some rs=>match cN P fn.ntmps b with
   | some c => match fn.name == "runtime.NumGoroutine" with
    | true=>none
    | false=>some ⟨fn.ntmps,c,rs⟩
   | none=>none
  | _,_=>none
 | none=>none
def wB (fr:Fr) (H:Heap):nI→Option AV
 | .tmp t=>match fz (fr.get t) [] with
  | some (v,_)=>some v
  | none=>none
 | .cell a sz agg=>match fr.get a with
  | .ptr g i row off=>match hget H g i with
   | some (.cells _ rows)=>match rows[row]? with
    | some r=>nS sz agg (r.drop off)
    | none=>none
   | _=>none
  | _=>none
def pQ (fr:Fr) (H:Heap):List nI→Option (List AV)
 | []=>some []
 | r::l=>match wB fr H r,pQ fr H l with
  | some x,some xs=>some (x::xs)
  | _,_=>none
def hN (fr:Fr) (H:Heap) (rs:List nI):Option AV:=
 match pQ fr H rs with
 | some [x]=>some x
 | some xs=>some (.tup xs)
 | none=>none
def jT:Nat→List AV→Fr
 | _,[]=>[]
 | i,a::r=>(i,a)::jT (i+1) r
def gY (k:Nat) (H:Heap) (res:AV) (H':Heap) (res':AV):Prop:=
 ∀ M J v (w:World),Rep M J res v→bJ M J H w.heap→bT M w.heap→∃ M' J',bL k M J H w M' J' H' w∧Rep M' J' res' v
theorem gY.refl (k:Nat) (H:Heap) (res:AV):gY k H res H res:=fun _ _ _ _ hv hH hM=>⟨_,_,.refl k hH hM,hv⟩
theorem gY.trans {k:Nat} {H H' H'':Heap} {a b c:AV} (h1:gY k H a H' b) (h2:gY k H' b H'' c):gY k H a H'' c:=by
 intro M J v w hv hH hM
 obtain⟨M1,J1,s1,r1⟩:=h1 M J v w hv hH hM
 obtain⟨M2,J2,s2,r2⟩:=h2 M1 J1 v w r1 s1.hrep s1.mrep
 exact⟨M2,J2,s1.trans s2,r2⟩
theorem gY.ren {k:Nat} {H H':Heap} {a b:AV} (ρ:Nat→Nat→Option (Nat×Nat)) (hn:xD ρ k H H') (h:Ren ρ a b):gY k H a H' b:=
 fun M J _ _ hv hH hM=>⟨M,J.via ρ,(bL.refl k hH hM).ren hn,hv.ren h⟩
theorem gY.le {k:Nat} {H:Heap} {a b:AV} (h:Le a b):gY k H a H b:=fun M J v _ hv hH hM=>⟨M,J,.refl k hH hM,h M J v hv⟩
section
variable {P:Program} {N k:Nat} {fr:Fr} {H:Heap}
theorem wN:∀(args:List AV) (i t:Nat),Fr.get (jT i args) t=if i≤t∧t < i+args.length then(args[t - i]?).getD .undef else .undef
 | [],i,t=>by simp only[jT,Fr.get,List.length_nil]; rw[if_neg (by omega)]
 | a::r,i,t=>by
  simp only[jT,Fr.get]
  split
  ·rename_i e
   have:i=t:=Nat.eq_of_beq_eq_true e
   subst this
   rw[if_pos ⟨Nat.le_refl _,by simp⟩]
   simp
  ·rename_i e
   have hne:i≠t:=fun h=>by subst h; simp at e
   rw[wN r (i+1) t]
   simp only[List.length_cons]
   by_cases h:i+1≤t∧t < i+1+r.length
   ·rw[if_pos h,if_pos (by omega),show t - i=(t - (i+1))+1 by omega]
    rfl
   ·rw[if_neg h,if_neg (by omega)]
def wM (tmps:Array Value):ResultVar→Sem Value
 | .tmp t=>pure (tmps.getD t Go.undef)
 | .cell a t=>do loadVar t (← asAddr (tmps.getD a Go.undef))
theorem uZ (fn:Func) (tmps:Array Value):results fn tmps=(do
  let vs ← fn.results.mapM (wM tmps)
  pure (if h:vs.size=1 then vs[0] else .tuple vs)):=rfl
theorem DM {M J} {w:World} {tmps:Array Value} (hF:bM N M J fr tmps) (hH:bJ M J H w.heap) {r:ResultVar} {x:nI} (hx:zC P r=some x) {v:AV} (h:wB fr H x=some v):
  ∃ cv,(wM tmps r).run P w=.ok cv w∧Rep M J v cv:=by
 cases r with
 | tmp t=>
  injection hx with hx
  subst hx
  simp only[wB,nF,oIn] at h
  subst h
  exact⟨_,rfl,hF.2 t⟩
 | cell a t=>
  simp only[zC,Option.map_eq_some_iff] at hx
  obtain⟨⟨sz,agg⟩,hv,rfl⟩:=hx
  have ha:=hF.2 a
  simp only[wB] at h
  split at h
  ·rename_i g i row off e
   rw[e] at ha
   split at h
   ·rename_i s rows hg
    split at h
    ·rename_i r hrow
     generalize hcv:tmps.getD a Go.undef=cv at ha
     cases ha with
     | ptr _ _ _ _ β l hJ hb=>
      obtain⟨l',h1,h2,h3,h4⟩:=hH.cells hg
      rw[hJ] at h1
      injection h1 with h1
      subst h1
      obtain⟨cs,t',h5,h6,h7,_,h8⟩:=h4 β hb
      have hrl:=(gEs.1 hrow).1
      have:=dS (sz:=s) hrl
      have hlen:=h3 row r hrow
      obtain⟨x,hx,hrx⟩:=nM (P:=P) (off:=row * l.sz+off) (cells:=r.drop off) hv h5 h (by
       rw[List.length_drop,h2]
       rcases Nat.lt_or_ge off r.length with hlt | hge
       ·right; omega
       ·left; exact List.drop_eq_nil_of_le hge) (fun j c y hc hy=>by
       rw[List.getElem?_drop] at hc
       exact h8 row r (off+j) c y hrow hc (by rw[← h2,← Nat.add_assoc]; exact hy))
      exact⟨x,by simp only[wM,hcv,asAddr,Sem.run_bind,Sem.run_pure,Result.andThen_ok,hx],hrx⟩
    ·cases h
   ·cases h
  ·cases h
theorem wP {M J} {w:World} {tmps:Array Value} (hF:bM N M J fr tmps) (hH:bJ M J H w.heap):∀(rs:List ResultVar) (xs:List nI),n5 P rs=some xs→∀ vs,pQ fr H xs=some vs →
  ∃ cvs:List Value,(rs.mapM (wM tmps)).run P w=.ok cvs w∧vs.length=cvs.length ∧
   ∀(j:Nat) c v,vs[j]?=some c→cvs[j]?=some v→Rep M J c v
 | [],xs,hx,vs,h=>by
  simp[n5] at hx
  subst hx
  simp[pQ] at h
  subst h
  exact⟨[],by simp,rfl,fun j c v hc=>by simp at hc⟩
 | r::rs,xs,hx,vs,h=>by
  simp only[n5] at hx
  split at hx
  ·rename_i x xs' h1 h2
   injection hx with hx
   subst hx
   simp only[pQ] at h
   split at h
   ·rename_i a as h3 h4
    injection h with h
    subst h
    obtain⟨cv,hr,hrep⟩:=DM (P:=P) hF hH h1 h3
    obtain⟨cvs,hrs,hlen,hreps⟩:=wP hF hH rs xs' h2 as h4
    refine⟨cv::cvs,?_,by simp[hlen],fun j c v hc hv=>?_⟩
    ·rw[List.mapM_cons]
     simp only[Sem.run_bind]
     rw[hr]
     simp only[Result.andThen_ok]
     rw[hrs]
     rfl
    ·cases j with
     | zero=>simp at hc hv; subst hc; subst hv; exact hrep
     | succ j=>exact hreps j c v (by simpa using hc) (by simpa using hv)
   ·cases h
  ·cases hx
theorem bL.shut {k M J H w M' J' H' w'} (s:bL k M J H w M' J' H' w') {D:Nat} (hD:w.heap.size≤D) (hM:M' D=none) (hn:∀ g i l,bK H' g i→J' g i=some l→l.blk≠some D) (o:Obj):
  bL k M J H w M' J' H' (w'.putObj D o):=by
 have hother:∀ β:Nat,β≠D→(w'.putObj D o).heap[β]?=w'.heap[β]?:=fun β hβ=>World.putObj_heap_other hβ
 refine⟨s.m,s.j,⟨fun g i x hx hl=>?_,s.hrep.inj,s.hrep.out,fun g i l hJ=>?_⟩,fun β o' hm=>?_,s.os,s.tape,s.output,by rw[World.putObj_size]; exact s.size,fun β o' ho hn'=>?_,s.fresh,s.live,fun β r hr=>?_⟩
 ·obtain⟨l,h1,h2⟩:=s.hrep.blk g i x hx hl
  refine⟨l,h1,h2.ext (.refl _ _) fun β hβ=>hother β ?_⟩
  rintro rfl
  exact hn g i l ⟨x,hx,hl⟩ h1 hβ
 ·have:=s.hrep.dom g i l hJ
  exact⟨this.1,fun β hβ=>by rw[World.putObj_size]; exact this.2 β hβ⟩
 ·rw[hother β]
  ·exact s.mrep β o' hm
  ·rintro rfl
   rw[hM] at hm; cases hm
 ·have:=cO ho
  rw[hother β (by omega)]
  exact s.frame β o' ho hn'
 ·have:=cO hr
  rw[hother β (by omega)]
  exact s.bk β r hr
theorem qT {k M J H w M' J' H'} {fn:Func} {tmps:Array Value} {R:Ending→World→Prop} {ro:Option Nat} {n:Nat} (hfin:∀ w',bL k M J H w M' J' H' w'→∃ v,(results fn tmps).run P w'=.ok v w'∧R (.returned v) w'):
  ∀(Ds:List Nat) (w':World),bL k M J H w M' J' H' w'→Cx.ok ⟨none,w.heap.size,Ds⟩ M' J' H' w'→LeavesInM (FW ro) n P fn tmps R (Ds.map HD) .returning w'
 | [],w',s,_=>hfin w' s
 | D::Ds,w',s,hx=>by
  obtain⟨h1,h2,h3,h4⟩:=hx.dfr D (List.mem_cons_self ..)
  have s':=s.shut h1 h3 h4 (.deferred none)
  refine⟨by simp,.inl ⟨D,_,rfl,run_takeDeferred h2,qT hfin Ds _ s' ⟨fun l hl=>(by cases hl),s'.size,(List.nodup_cons.1 hx.nd).2,fun E hE=>?_⟩⟩⟩
  obtain⟨e1,e2,e3,e4⟩:=hx.dfr E (List.mem_cons_of_mem _ hE)
  refine⟨e1,?_,e3,e4⟩
  have hne:E≠D:=by rintro rfl; exact(List.nodup_cons.1 hx.nd).1 hE
  exact(World.putObj_heap_other hne).trans e2
theorem aQ.of {f:FuncId} {F:IFun} (hf:bU P f=some F) {args:List AV} {R:AV→Heap→Prop}
  (h:AWP P F.n H.length F.code (fun e fr' H'=>(e=.normal∨e=.ret)∧∃ res res' H2,hN fr' H' F.res=some res∧gY H.length H' res H2 res'∧R res' H2) (jT 0 args) H) (hn:args.length≤F.n):
  aQ P f args H R:=by
 unfold bU at hf
 split at hf
 ·rename_i fn hfn
  split at hf
  ·rename_i b rs hb hrs
   split at hf
   ·rename_i c hc
    split at hf
    ·cases hf
    ·rename_i hname
     injection hf with hf
     subst hf
     refine⟨⟨fn,hfn,hname,by rw[hb]; rfl⟩,fun M J w cargs hlen hargs hH hM=>?_⟩
     refine qB.1 (callsIn_of_wp_marks (F:=FW none) (n:=0) hfn hb trivial ?_)
     have hF:bM fn.ntmps M J (jT 0 args) (cargs++Array.replicate (fn.ntmps - cargs.size) Go.undef):=by
      refine⟨by simp only[Array.size_append,Array.size_replicate]; simp only at hn; omega,fun t=>?_⟩
      rw[wN,Nat.zero_add]
      by_cases ht:t < args.length
      ·rw[if_pos ⟨Nat.zero_le _,ht⟩,Nat.sub_zero,gEg ht,Option.getD_some]
       rw[Array.getD_eq_getD_getElem?,Array.getElem?_append_left (by omega),Array.getElem?_eq_getElem (by omega),Option.getD_some]
       exact hargs t _ _ (gEg ht) (Array.getElem?_eq_getElem (by omega))
      ·rw[if_neg (by omega)]
       exact .undef _
     refine wpIn_mono (h b hc ⟨none,w.heap.size,[]⟩ M J _ w ⟨fun l hl=>(by cases hl),Nat.le_refl _,.nil,fun D hD=>by simp at hD⟩ hF hH hM) fun e a' w0 hp=>?_
     obtain⟨M1,J1,fr1,H1,Ds,q0,q2,q3,qx,hexit,res,res',H2,hres,hsub,hR⟩:=hp
     have hfin:∀ w',bL H.length M J H w M1 J1 H1 w'→∃ v,(results fn a'.tmps).run P w'=.ok v w'∧∃ v0 M' J' res H',Ending.returned v=.returned v0∧bL H.length M J H w M' J' H' w'∧Rep M' J' res v0∧R res H':=by
      intro w' q1
      have hmany:∀ vs,pQ fr1 H1 rs=some vs→∃ cvs:List Value,(fn.results.mapM (wM a'.tmps)).run P w'=.ok cvs.toArray w' ∧
        vs.length=cvs.length∧∀(j:Nat) c v,vs[j]?=some c→cvs[j]?=some v→Rep M1 J1 c v:=by
       intro vs hvs
       obtain⟨cvs,h1,h2,h3⟩:=wP (P:=P) q2 q1.hrep fn.results.toList rs hrs vs hvs
       refine⟨cvs,?_,h2,h3⟩
       rw[Array.mapM_eq_mapM_toList]
       simp only[Sem.run_map]
       rw[h1]
       rfl
      unfold hN at hres
      split at hres
      ·rename_i x hvs
       injection hres with hres
       subst hres
       obtain⟨cvs,h1,h2,h3⟩:=hmany _ hvs
       cases cvs with
       | nil=>simp at h2
       | cons cv r=>
        have:r=[]:=by simpa using h2.symm
        subst this
        obtain⟨M2,J2,s2,r2⟩:=hsub M1 J1 cv w' (h3 0 x cv rfl rfl) q1.hrep q1.mrep
        refine⟨cv,?_,cv,M2,J2,res',H2,rfl,q1.trans s2,r2,hR⟩
        rw[uZ]
        simp only[Sem.run_bind,h1,Result.andThen_ok]
        rfl
      ·rename_i vs hne hvs
       injection hres with hres
       subst hres
       obtain⟨cvs,h1,h2,h3⟩:=hmany _ hvs
       have hne1:cvs.length≠1:=by
        intro e
        rw[e] at h2
        obtain⟨x,hx⟩:=List.length_eq_one_iff.1 h2
        exact hne x hx
       obtain⟨M2,J2,s2,r2⟩:=hsub M1 J1 (.tuple cvs.toArray) w' (.tup vs cvs.toArray (by simpa using h2) (fun j c v a b=>h3 j c v a (by simpa using b))) q1.hrep q1.mrep
       refine⟨.tuple cvs.toArray,?_,_,M2,J2,res',H2,rfl,q1.trans s2,r2,hR⟩
       rw[uZ]
       simp only[Sem.run_bind,h1]
       have:¬ (cvs.toArray.size=1):=by simpa using hne1
       simp only[Result.andThen_ok,dif_neg this,Sem.run_pure]
      ·cases hres
     have hl:=qT (P:=P) (ro:=none) (n:=0) (R:=fun e w'=>∃ v M' J' res H',e=.returned v∧bL H.length M J H w M' J' H' w'∧Rep M' J' res v∧R res H') hfin Ds w0 q0 qx
     rw[← q3] at hl
     rcases hexit with rfl | rfl
     ·exact hl
     ·exact hl
   ·cases hf
  ·cases hf
 ·cases hf
end
end Go.Av
