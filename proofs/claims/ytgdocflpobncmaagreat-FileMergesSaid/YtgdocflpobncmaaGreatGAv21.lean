import Derived.Test.YtgdocflpobncmaaGreatGAv16
namespace Go.Av
inductive vQ:List (Nat×bD)→List Nat→Prop
 | nil:vQ [] []
 | cons (A:List (Nat×bD)) (i:Nat) (r:bD) (B:List (Nat×bD)) (l:List Nat) (h:∀ a∈A,fA a.2 r=true) (hs:vQ (A++B) l):vQ (A++(i,r)::B) (i::l)
theorem aN.eqv {M J H H'} {h:Array Obj} (hH:aN M J H h) (he:∀ a b,hget H a b=hget H' a b):aN M J H' h:=
 ⟨fun g i x hx=>hH.blk g i x (by rw[he]; exact hx),fun g i g' i' l l' β ⟨x,hx,hl⟩ ⟨y,hy,hl'⟩=>hH.inj g i g' i' l l' β ⟨x,by rw[he]; exact hx,hl⟩ ⟨y,by rw[he]; exact hy,hl'⟩,
  fun g i l β ⟨x,hx,hl⟩=>hH.out g i l β ⟨x,by rw[he]; exact hx,hl⟩,fun g i l hJ=>by rw[← he]; exact hH.dom g i l hJ⟩
theorem aS.eqv {k M J H w M' J' H' H'' w'} (h:aS k M J H w M' J' H' w') (he:∀ a b,hget H' a b=hget H'' a b):aS k M J H w M' J' H'' w':=
 { h with hrep:=h.hrep.eqv he,live:=fun g i l β ⟨x,hx,hl⟩=>h.live g i l β ⟨x,by rw[he]; exact hx,hl⟩ }
theorem vK {P:Program} {N k:Nat} {ops:Array Oper} {t:S} {rem:List (Nat×bD)} {l:List Nat} (hsch:vQ rem l):
  (∀ p∈rem,∃ o,ops[p.1]?=some o∧jG P N ops o=some p.2.x)→(rem.map (·.2.id)).Nodup→∀(s:S) M J tmps w,aU N M J s.1 tmps→aN M J s.2 w.heap→a8 M w.heap→Run P (rem.map (·.2)) s t →
   (∀ p∈rem,(hget s.2 p.2.id.1 p.2.id.2).isSome∧J p.2.id.1 p.2.id.2=none) →
   ∀ Q,(∀ a' w',B9 k N M J s.2 w (fun fr H=>fr=t.1∧H=t.2) a' w'→Q Exit.normal a' w')→wpOps P ops Q l ⟨tmps,[]⟩ w:=by
 induction hsch with
 | nil=>
  intro _ _ s M J tmps w hF hH hM hrun _ Q hQ;refine hQ _ _ ⟨M,J,t.1,t.2,(aS.refl k hH hM).eqv hrun.2,⟨hF.1,fun u=>?_⟩,rfl,rfl,rfl⟩;rw[← hrun.1];exact hF.2 u
 | cons A i r B l hi hs ih=>
  intro hops hnd s M J tmps w hF hH hM hrun hids Q hQ;have hmem:(i,r)∈A++(i,r)::B:=List.mem_append_right _ (List.mem_cons_self ..)
  have hsub:∀ p∈A++B,p∈A++(i,r)::B:=fun p hp=>(List.mem_append.1 hp).elim (fun h=>List.mem_append_left _ h) fun h=>List.mem_append_right _ (mCm _ h)
  obtain⟨o0,ho,hc⟩:=hops _ hmem;obtain⟨c1,c2,c3⟩:=d7 hc;simp only[List.map_append,List.map_cons] at hrun
  have hhave:GH (A.map (·.2)++r::B.map (·.2)) s.2:=by
   intro q hq _
   have:∃ p∈A++(i,r)::B,p.2=q:=by
    rcases List.mem_append.1 hq with h | h
    ·obtain⟨p,hp,rfl⟩:=List.mem_map.1 h
     exact⟨p,List.mem_append_left _ hp,rfl⟩
    ·cases h with
     | head=>exact⟨(i,r),hmem,rfl⟩
     | tail _ h=>
      obtain⟨p,hp,rfl⟩:=List.mem_map.1 h;exact⟨p,List.mem_append_right _ (mCm _ hp),rfl⟩
   obtain⟨p,hp,rfl⟩:=this;exact(hids p hp).1
  obtain⟨s1,hstep,hrest⟩:=Run.bubble hrun (fun a ha=>by
   obtain⟨p,hp,rfl⟩:=List.mem_map.1 ha
   exact hi p hp) hhave
  have hid:=hids _ hmem
  have hne:∀ p∈A++B,p.2.id≠r.id:=by
   intro p hp e;simp only[List.map_append,List.map_cons] at hnd;rw[List.nodup_append] at hnd
   rcases List.mem_append.1 hp with h | h
   ·exact hnd.2.2 p.2.id (List.mem_map.2 ⟨p,h,rfl⟩) r.id (List.mem_cons_self ..) e
   ·have:=(List.nodup_cons.1 hnd.2.1).1
    exact this (List.mem_map.2 ⟨p,h,e⟩)
  have hnd':((A++B).map (·.2.id)).Nodup:=by
   simp only[List.map_append,List.map_cons] at hnd ⊢;rw[List.nodup_append] at hnd ⊢;exact⟨hnd.1,(List.nodup_cons.1 hnd.2.1).2,fun a ha b hb=>hnd.2.2 a ha b (mCm _ hb)⟩
  have hkeep:∀ p∈A++B,(hget s1.2 p.2.id.1 p.2.id.2).isSome:=by
   intro p hp;obtain⟨_,_,_,_,_,a4,a5⟩:=hstep.ext (s2:=s) (fun _ _=>rfl) (fun _ _=>rfl) (fun _=>⟨hid.1,hid.1⟩)
   by_cases hw:(p.2.id.1,p.2.id.2)∈r.wr
   ·exact a5 _ _ hw
   ·rw[a4 _ _ hw]
    exact(hids p (hsub p hp)).1
  have hrest':Run P ((A++B).map (·.2)) s1 t:=by rw[List.map_append]; exact hrest
  have go:∀(M':Mem) (J':Inj) (tmps':Array Value) (w':World),aS k M J s.2 w M' J' s1.2 w'→aU N M' J' s1.1 tmps'→(∀ g i,¬ (g=r.id.1∧i=r.id.2)→J' g i=J g i)→wpOps P ops Q l ⟨tmps',[]⟩ w':=by
   intro M' J' tmps' w' hst hF' hJ'
   refine ih (fun p hp=>hops p (hsub p hp)) hnd' s1 M' J' tmps' w' hF' hst.hrep hst.mrep hrest' (fun p hp=>⟨hkeep p hp,?_⟩) Q fun a' w'' hp=>hQ a' w'' ?_
   ·rw[hJ' _ _ fun⟨e1,e2⟩=>hne p hp (Prod.ext e1 e2)]
    exact(hids p (hsub p hp)).2
   ·obtain⟨M2,J2,fr2,H2,q1,q2,q3,q4⟩:=hp
    exact⟨M2,J2,fr2,H2,hst.trans q1,q2,q3,q4⟩
  obtain⟨hf,hcase⟩:=hstep
  rcases hcase with⟨h1,o,h2,h3,h4,h5⟩ | ⟨h1,h2,h3,h4,hcall⟩ | ⟨h1,h2,h3,h4,h5⟩
  ·have hw:=dW hF c2 h1
   rw[h2] at c3;obtain⟨cv,w',J',hrun',hrep,hext,hst,hJ'⟩:=vO (ds:=[]) c3 hF hH hM (.inl hid.1) hid.2 h3;simp only[wpOps,ho,hw,if_true];left
   have hnext:wpOps P ops Q l (Act.put ⟨tmps,[]⟩ o0.dst cv) w':=by
    rw[dP];refine go M J' _ w' (hst k) ?_ hJ';rw[hf];exact(hF.ext hext).put c1 hrep
   rcases hrun' with hrun' | ⟨hrun',rfl⟩
   ·simp only[Oper.wp,hrun',Oper.upon]; exact hnext
   ·simp only[Oper.wp,hrun',Oper.upon]; exact hnext
  ·have hw:=dW hF c2 h1
   simp only[wpOps,ho,hw,if_true];left
   rcases hcall with⟨f,args,h5,h6⟩ | ⟨f,args,g,fs,cs,h5,hfv,h6⟩
   ·rw[h5] at c3
    obtain⟨args',ts,hop,rfl⟩:=vB c3;obtain⟨e1,e2⟩:=dV (ds:=[]) hF args'.toList _ rfl args' rfl
    have hexec:(execOp (Act.eval ⟨tmps,[]⟩) o0).run P w=.ok (.enter f (args'.map (Act.eval ⟨tmps,[]⟩))) w:=by
     have he:Act.eval ⟨tmps,[]⟩ (.func f)=.func (.func f) #[] #[]:=rfl;simp only[execOp,hop,resolve,he,Deferred.ofValue,Sem.run_bind,Sem.run_pure,Result.andThen_ok,invoke];rw[show #[]++args'.map (Act.eval ⟨tmps,[]⟩)++#[]=args'.map (Act.eval ⟨tmps,[]⟩) by simp];exact eM h6.1 _ _
    simp only[Oper.wp,hexec,Oper.upon];refine(h6.2 M J w _ e1 e2 hM).mono ?_;rintro e w' ⟨cv,M',rfl,p1,p2,p3,p4,p5,p6,p7,p8,p9⟩;simp only;rw[dP]
    refine go M' J _ w' ((aC.step k hH p1 p2 p3 p4 p5 p6 p7 p8).eqv fun a b=>(h4 a b).symm) ?_ fun _ _ _=>rfl
    rw[hf];exact(hF.ext ⟨p1,fun _ _ _ h=>h⟩).put c1 (p9 J)
   ·rw[h5] at c3
    obtain⟨cargs,e1,e2,hexec⟩:=rB (ds:=[]) (w:=w) hF c3 hfv h6.1;simp only[Oper.wp,hexec,Oper.upon];refine(h6.2 M J w _ e1 e2 hM).mono ?_;rintro e w' ⟨cv,M',rfl,p1,p2,p3,p4,p5,p6,p7,p8,p9⟩;simp only;rw[dP]
    refine go M' J _ w' ((aC.step k hH p1 p2 p3 p4 p5 p6 p7 p8).eqv fun a b=>(h4 a b).symm) ?_ fun _ _ _=>rfl
    rw[hf];exact(hF.ext ⟨p1,fun _ _ _ h=>h⟩).put c1 (p9 J)
  ·have hw:=dW hF c2 h1
   simp only[wpOps,ho,hw,Bool.false_eq_true,if_false];rw[dP]
   refine go M J _ w ((aS.refl k hH hM).eqv fun a b=>(h5 a b).symm) ?_ fun _ _ _=>rfl
   rw[hf,h4];exact hF.put c1 (.sc _)
inductive Bef (af:Nat→List Nat):Nat→Nat→Prop
 | base {a b:Nat} (h:a∈af b):Bef af a b
 | step {a m b:Nat} (h:m∈af b) (h':Bef af a m):Bef af a b
theorem Bef.closed {af:Nat→List Nat} {D:Nat→Prop} (hD:∀ j,D j→∀ k∈af j,D k) {a b:Nat} (h:Bef af a b) (hb:∀ k∈af b,D k):D a:=by
 induction h with
 | base h=>exact hb _ h
 | step h _ ih=>exact ih (hD _ (hb _ h))
def bJ (ops:Array Oper) (j:Nat):List Nat:=match ops[j]? with | some o=>dY o | none=>[]
inductive bU (I:Nat→Nat→Prop):List Nat→List Nat→Prop
 | nil:bU I [] []
 | cons (A:List Nat) (i:Nat) (B:List Nat) (l:List Nat) (h:∀ a∈A,I a i) (hs:bU I (A++B) l):bU I (A++i::B) (i::l)
theorem bU.to {I:Nat→Nat→Prop} {R:Nat→bD} (hI:∀ a b,I a b→fA (R a) (R b)=true) {rem l:List Nat} (h:bU I rem l):vQ (rem.map fun j=>(j,R j)) l:=by
 induction h with
 | nil=>exact .nil
 | cons A i B l h _ ih=>
  simp only[List.map_append,List.map_cons] at ih ⊢;refine .cons _ _ _ _ _ (fun a ha=>?_) ih;obtain⟨a',ha',rfl⟩:=List.mem_map.1 ha;exact hI _ _ (h a' ha')
theorem bU.nil_inv {I:Nat→Nat→Prop} {rem l:List Nat} (h:bU I rem l) (e:rem=[]):l=[]:=by
 cases h with
 | nil=>rfl
 | cons=>simp at e
theorem bU.last {I:Nat→Nat→Prop} {n:Nat} (hn:∀ a,¬ I a n) {all l:List Nat} (h:bU I all l):∀ rem:List Nat,n∉rem→all=rem++[n]→∃ l',l=l'++[n]∧bU I rem l':=by
 induction h with
 | nil=>intro rem _ e; simp at e
 | cons A i B l h hs ih=>
  intro rem hnr e
  rcases List.eq_nil_or_concat B with rfl | ⟨B',b,rfl⟩
  ·have h1:A=rem∧i=n:=by
    have:=List.append_inj' e rfl;exact⟨this.1,by simpa using this.2⟩
   obtain⟨rfl,rfl⟩:=h1
   cases A with
   | nil=>
    have:=hs.nil_inv rfl;subst this;exact⟨[],rfl,.nil⟩
   | cons a A=>exact absurd (h a (List.mem_cons_self ..)) (hn a)
  ·have h1:A++i::B'=rem∧b=n:=by
    rw[show A++i::(B'.concat b)=(A++i::B')++[b] by simp] at e;have:=List.append_inj' e rfl;exact⟨this.1,by simpa using this.2⟩
   obtain⟨rfl,rfl⟩:=h1;obtain⟨l',h2,h3⟩:=ih (A++B') (by simp at hnr ⊢; exact⟨hnr.1,hnr.2.2⟩) (by simp);exact⟨i::l',by rw[h2]; rfl,.cons _ _ _ _ h h3⟩
theorem eK (ops:Array Oper) (I:Nat→Nat→Prop) (hlt:∀ j,∀ k∈bJ ops j,k < j) (hind:∀ a b,a < b→b < ops.size→Bef (bJ ops) a b∨I a b) (t:Nat):
  bU I (List.range ops.size) (Region.linearise .any ops t):=by
 have key:∀(fuel t:Nat) (listed:Array Bool) (acc:List Nat),listed.size=ops.size→(∀ j,listed.getD j false=true→∀ k∈bJ ops j,listed.getD k false=true) →
   ((List.range ops.size).filter fun j=>!listed.getD j true).length≤fuel →
   ∃ l,Region.linearise.go .any ops fuel t listed acc=acc.reverse++l∧bU I ((List.range ops.size).filter fun j=>!listed.getD j true) l:=by
  intro fuel
  induction fuel with
  | zero=>
   intro t listed acc _ _ hf;have:((List.range ops.size).filter fun j=>!listed.getD j true)=[]:=List.eq_nil_of_length_eq_zero (by omega);rw[this];exact⟨[],by simp[Region.linearise.go],.nil⟩
  | succ fuel ih=>
   intro t listed acc hsz hcl hf;unfold Region.linearise.go;simp only;generalize hrs:((List.range ops.size).filter fun i=>!listed.getD i true && ((ops[i]?).map (fun o=>o.after.all fun e=>!Region.binds .any e || listed.getD e.on false)).getD false)=rs
   have hrdy:∀ i,i∈rs↔i < ops.size∧listed.getD i true=false∧∀ k∈bJ ops i,listed.getD k false=true:=by
    intro i;rw[← hrs,List.mem_filter,List.mem_range];constructor
    ·rintro⟨h1,h2⟩
     simp only[bAe,Bool.not_eq_true'] at h2;refine⟨h1,h2.1,fun k hk=>?_⟩;have ho:ops[i]?=some ops[i]:=Array.getElem?_eq_getElem h1;have h3:=h2.2;rw[ho] at h3;simp only[Option.map_some,Option.getD_some,Array.all_eq_true] at h3;simp only[bJ,ho,dY,List.mem_map,List.mem_filter] at hk;obtain⟨e,⟨he,hbind⟩,rfl⟩:=hk;obtain⟨q,hq,rfl⟩:=List.mem_iff_getElem.1 he;simp at hq;have:=h3 q hq;simp only[Array.getElem_toList] at hbind ⊢;rw[hbind] at this
     simpa using this
    ·rintro⟨h1,h2,h3⟩
     refine⟨h1,?_⟩;have ho:ops[i]?=some ops[i]:=Array.getElem?_eq_getElem h1;simp only[h2,Bool.not_false,Bool.true_and,ho,Option.map_some,Option.getD_some,Array.all_eq_true];intro q hq
     cases hb:Region.binds .any ops[i].after[q] with
     | false=>simp
     | true=>
      simp only[Bool.not_true,Bool.false_or];refine h3 _ ?_;simp only[bJ,ho,dY,List.mem_map,List.mem_filter];exact⟨ops[i].after[q],⟨by simp,hb⟩,rfl⟩
   have hgetD:∀ j,j < ops.size→listed.getD j true=listed.getD j false:=by
    intro j hj
    have:j < listed.size:=by omega
    simp[Array.getD,this]
   by_cases hemp:((List.range ops.size).filter fun j=>!listed.getD j true)=[]
   ·have:rs=[]:=by
     cases hr:rs with
     | nil=>rfl
     | cons i r=>
      have hi:=(hrdy i).1 (by rw[hr]; exact List.mem_cons_self ..);have:i∈((List.range ops.size).filter fun j=>!listed.getD j true):=List.mem_filter.2 ⟨List.mem_range.2 hi.1,by simp[hi.2.1]⟩;rw[hemp] at this
      cases this
    rw[this,hemp];exact⟨[],by simp,.nil⟩
   ·-- the first that is not listed is ready
    have hne:rs≠[]:=by
     intro hnil
     have hall:∀ j,j < ops.size→listed.getD j false=true:=by
      intro j
      induction j using Nat.strongRecOn with
      | _ j ihj=>
       intro hj
       cases hl:listed.getD j false with
       | true=>rfl
       | false=>
        have:j∈rs:=(hrdy j).2 ⟨hj,by rw[hgetD j hj]; exact hl,fun k hk=>ihj k (hlt j k hk) (by have:=hlt j k hk; omega)⟩;rw[hnil] at this
        cases this
     apply hemp;rw[List.filter_eq_nil_iff];intro j hj;have hj:=List.mem_range.1 hj;simp[hgetD j hj,hall j hj]
    have hpos:0 < rs.length:=List.length_pos_iff.2 hne;have hmod:t % rs.length < rs.length:=Nat.mod_lt _ hpos;rw[gEg hmod];generalize hi:rs[t % rs.length]=i;have himem:i∈rs:=hi▸gMe hmod;obtain⟨r1,r2,r3⟩:=(hrdy i).1 himem;have hifil:i∈((List.range ops.size).filter fun j=>!listed.getD j true):=List.mem_filter.2 ⟨List.mem_range.2 r1,by simp[r2]⟩;obtain⟨A,B,hAB⟩:=List.append_of_mem hifil;have hpw:List.Pairwise (· < ·) ((List.range ops.size).filter fun j=>!listed.getD j true):=List.Pairwise.filter _ List.pairwise_lt_range;rw[hAB] at hpw
    have hA:∀ a∈A,a < i:=fun a ha=>(List.pairwise_append.1 hpw).2.2 a ha i (List.mem_cons_self ..)
    have hB:∀ b∈B,i < b:=fun b hb=>(List.pairwise_cons.1 (List.pairwise_append.1 hpw).2.1).1 b hb
    have hget':∀ j,(listed.setIfInBounds i true).getD j true=(listed.getD j true || decide (j=i)):=by
     intro j;rw[Array.getD_eq_getD_getElem?,Array.getElem?_setIfInBounds,Array.getD_eq_getD_getElem?]
     by_cases e:i=j
     ·subst e
      rw[if_pos rfl,if_pos (by omega)];simp
     ·rw[if_neg e]
      have:decide (j=i)=false:=by simp; exact fun h=>e h.symm
      rw[this,Bool.or_false]
    have hget'':∀ j,(listed.setIfInBounds i true).getD j false=true↔(listed.getD j false=true∨j=i):=by
     intro j;rw[Array.getD_eq_getD_getElem?,Array.getElem?_setIfInBounds,Array.getD_eq_getD_getElem?]
     by_cases e:i=j
     ·subst e
      rw[if_pos rfl,if_pos (by omega)];simp
     ·rw[if_neg e]
      constructor
      ·exact fun h=>.inl h
      ·rintro(h | h)
       ·exact h
       ·exact absurd h.symm e
    have hfil':((List.range ops.size).filter fun j=>!(listed.setIfInBounds i true).getD j true)=A++B:=by
     have h1:((List.range ops.size).filter fun j=>!(listed.setIfInBounds i true).getD j true)=((List.range ops.size).filter fun j=>!listed.getD j true).filter fun j=>!decide (j=i):=by
      rw[List.filter_filter];congr 1
      funext j
      rw[hget']
      cases listed.getD j true<;>cases decide (j=i)<;>rfl
     rw[h1,hAB,List.filter_append,List.filter_cons]
     have h2:A.filter (fun j=>!decide (j=i))=A:=List.filter_eq_self.2 fun a ha=>by have:=hA a ha; simp; omega
     have h3:B.filter (fun j=>!decide (j=i))=B:=List.filter_eq_self.2 fun b hb=>by have:=hB b hb; simp; omega
     rw[h2,h3];simp
    obtain⟨l,hl1,hl2⟩:=ih (t / rs.length) (listed.setIfInBounds i true) (i::acc) (by simp[hsz]) (by
     intro j hj k hk;rw[hget''] at hj ⊢;left
     rcases hj with hj | rfl
     ·exact hcl j hj k hk
     ·exact r3 k hk) (by
     rw[hfil'];rw[hAB] at hf;simp at hf ⊢
     omega)
    refine⟨i::l,by
     show Region.linearise.go .any ops fuel (t / rs.length) (listed.setIfInBounds i true) (i::acc)=_
     rw[hl1]; simp,?_⟩
    rw[hfil'] at hl2;rw[hAB];refine .cons _ _ _ _ (fun a' ha'=>?_) hl2
    rcases hind a' i (hA a' ha') r1 with hb | hb
    ·exfalso
     have hlist:=hb.closed (D:=fun j=>listed.getD j false=true) hcl r3
     have hun:a'∈((List.range ops.size).filter fun j=>!listed.getD j true):=by rw[hAB]; exact List.mem_append_left _ ha'
     have:=(List.mem_filter.1 hun)
     rw[hgetD a' (List.mem_range.1 this.1),hlist] at this;simp at this
    ·exact hb
 obtain⟨l,h1,h2⟩:=key ops.size t (Array.replicate ops.size false) [] (by simp) (by
  intro j hj;rw[Array.getD_eq_getD_getElem?,Array.getElem?_replicate] at hj
  split at hj<;>simp at hj) (Nat.le_trans (List.length_filter_le _ _) (by simp))
 have hnil:((List.range ops.size).filter fun j=>!(Array.replicate ops.size false).getD j true)=List.range ops.size:=by
  rw[List.filter_eq_self];intro j hj;have hj:=List.mem_range.1 hj;simp[Array.getD,hj]
 rw[hnil] at h2;unfold Region.linearise;rw[h1]
 simpa using h2
theorem rP (ops:Array Oper) (R:Nat→bD) (hlt:∀ j,∀ k∈bJ ops j,k < j) (hind:∀ a b,a < b→b < ops.size→Bef (bJ ops) a b∨fA (R a) (R b)=true) (t:Nat):
  vQ ((List.range ops.size).map fun j=>(j,R j)) (Region.linearise .any ops t):=
 (eK ops (fun a b=>fA (R a) (R b)=true) hlt hind t).to fun _ _ h=>h
end Go.Av
namespace Go.Av
def iX (af:List (List Nat)):Nat→Nat→Nat→Bool
 | 0,_,_=>false
 | f+1,a,b=>match af[b]? with
  | some l=>l.any (Nat.beq a) || l.any fun m=>iX af f a m
  | none=>false
theorem cL {af:List (List Nat)} {F:Nat→List Nat} (hF:∀ j l,af[j]?=some l→F j=l):∀(f a b:Nat),iX af f a b=true→Bef F a b
 | 0,_,_,h=>by simp[iX] at h
 | f+1,a,b,h=>by
  simp only[iX] at h;split at h
  ·rename_i l hl
   have hb:=hF b l hl;simp only[Bool.or_eq_true,List.any_eq_true] at h
   rcases h with⟨k,hk,he⟩ | ⟨m,hm,he⟩
   ·have:a=k:=nEb he
    subst this;exact .base (by rw[hb]; exact hk)
   ·exact .step (by rw[hb]; exact hm) (cL hF f a m he)
  ·cases h
def AN (af:List (List Nat)) (R:List bD) (b:Nat) (rb:bD):Nat→List bD→Bool
 | _,[]=>true
 | a,ra::l=>(Nat.ble b a || (iX af af.length a b || fA ra rb)) && AN af R b rb (a+1) l
def nO (af:List (List Nat)) (R:List bD):Nat→List bD→Bool
 | _,[]=>true
 | b,rb::l=>AN af R b rb 0 R && nO af R (b+1) l
def qA:Nat→List (List Nat)→Bool
 | _,[]=>true
 | j,l::r=>l.all (fun k=>Nat.blt k j) && qA (j+1) r
def chk (af:List (List Nat)) (R:List bD):Bool:=qA 0 af && nO af R 0 R
theorem sA {af R b rb}:∀(l:List bD) (a0:Nat),AN af R b rb a0 l=true→∀(j:Nat) ra,l[j]?=some ra→a0+j < b→iX af af.length (a0+j) b=true∨fA ra rb=true
 | [],_,_,j,ra,h,_=>by simp at h
 | r::l,a0,h,j,ra,hj,hlt=>by
  simp only[AN,bAe,Bool.or_eq_true] at h
  cases j with
  | zero=>
   simp at hj;subst hj
   rcases h.1 with h1 | h1
   ·have:=nlB h1; omega
   ·exact h1
  | succ j=>
   have:=sA l (a0+1) h.2 j ra (by simpa using hj) (by omega)
   rwa[show a0+1+j=a0+(j+1) by omega] at this
theorem nU {af R}:∀(l:List bD) (b0:Nat),nO af R b0 l=true→∀(j:Nat) rb,l[j]?=some rb→AN af R (b0+j) rb 0 R=true
 | [],_,_,j,rb,h=>by simp at h
 | r::l,b0,h,j,rb,hj=>by
  simp only[nO,bAe] at h
  cases j with
  | zero=>simp at hj; subst hj; exact h.1
  | succ j=>
   have:=nU l (b0+1) h.2 j rb (by simpa using hj)
   rwa[show b0+1+j=b0+(j+1) by omega] at this
theorem iM:∀(l:List (List Nat)) (j0:Nat),qA j0 l=true→∀(j:Nat) as,l[j]?=some as→∀ k∈as,k < j0+j
 | [],_,_,j,as,h=>by simp at h
 | r::l,j0,h,j,as,hj=>by
  simp only[qA,bAe,List.all_eq_true] at h
  cases j with
  | zero=>
   simp at hj;subst hj;intro k hk;have:k < j0:=nlB (h.1 k hk);omega
  | succ j=>
   have:=iM l (j0+1) h.2 j as (by simpa using hj)
   rwa[show j0+1+j=j0+(j+1) by omega] at this
inductive eH (P:Program) (base:Nat):Nat→List IOper→Fr→Heap→List bD→Fr→Heap→Prop
 | nil (j:Nat) (fr:Fr) (H:Heap):eH P base j [] fr H [] fr H
 | op {j:Nat} {x:IOper} {xs:List IOper} {fr:Fr} {H:Heap} {o:IOp} {v:AV} {H1:Heap} {R:List bD} {fr':Fr} {H':Heap} (hg:gok fr x.guard=some true) (hx:x.act=.op o)
   (hs:aD base j o fr H=some (v,H1)) (h:eH P base (j+1) xs (fr.put x.dst v) H1 R fr' H'):eH P base j (x::xs) fr H (⟨x,(base,j),v,drd fr o,dwr base j fr o⟩::R) fr' H'
 | call {j:Nat} {x:IOper} {xs:List IOper} {fr:Fr} {H:Heap} {f:FuncId} {args:List Operand} {v:AV} {R:List bD} {fr':Fr} {H':Heap} (hg:gok fr x.guard=some true) (hx:x.act=.call f args)
   (hc:aC P f (avals fr args) v) (h:eH P base (j+1) xs (fr.put x.dst v) H R fr' H'):eH P base j (x::xs) fr H (⟨x,(base,j),v,[],[]⟩::R) fr' H'
 | callV {j:Nat} {x:IOper} {xs:List IOper} {fr:Fr} {H:Heap} {f:Cal} {args:List Operand} {g:FuncId} {fs cs:List AV} {v:AV} {R:List bD} {fr':Fr} {H':Heap} (hg:gok fr x.guard=some true) (hx:x.act=.callV f args) (hf:evC P fr f=.clo (.func g) fs cs)
   (hc:aC P g (fs++avals fr args++cs) v) (h:eH P base (j+1) xs (fr.put x.dst v) H R fr' H'):eH P base j (x::xs) fr H (⟨x,(base,j),v,[],[]⟩::R) fr' H'
 | skip {j:Nat} {x:IOper} {xs:List IOper} {fr:Fr} {H:Heap} {R:List bD} {fr':Fr} {H':Heap} (hg:gok fr x.guard=some false)
   (h:eH P base (j+1) xs (fr.put x.dst (.sc Go.undef)) H R fr' H'):eH P base j (x::xs) fr H (⟨x,(base,j),.sc Go.undef,[],[]⟩::R) fr' H'
theorem eH.run {P base j xs fr H R fr' H'} (h:eH P base j xs fr H R fr' H'):Run P R (fr,H) (fr',H'):=by
 induction h with
 | nil=>exact Eqv.refl _
 | op hg hx hs _ ih=>exact⟨_,⟨rfl,.inl ⟨hg,_,hx,hs,rfl,rfl⟩⟩,ih⟩
 | @call j x xs fr H f args v R fr' H' hg hx hc _ ih=>exact⟨(fr.put x.dst v,H),⟨rfl,.inr (.inl ⟨hg,rfl,rfl,fun _ _=>rfl,.inl ⟨_,_,hx,hc⟩⟩)⟩,ih⟩
 | @callV j x xs fr H f args g fs cs v R fr' H' hg hx hf hc _ ih=>exact⟨(fr.put x.dst v,H),⟨rfl,.inr (.inl ⟨hg,rfl,rfl,fun _ _=>rfl,.inr ⟨_,_,_,_,_,hx,hf,hc⟩⟩)⟩,ih⟩
 | @skip j x xs fr H R fr' H' hg _ ih=>exact⟨(fr.put x.dst (.sc Go.undef),H),⟨rfl,.inr (.inr ⟨hg,rfl,rfl,rfl,fun _ _=>rfl⟩)⟩,ih⟩
theorem eH.recs {P base j xs fr H R fr' H'} (h:eH P base j xs fr H R fr' H'):R.map (·.x)=xs∧∀(i:Nat) r,R[i]?=some r→r.id=(base,j+i):=by
 induction h with
 | nil=>exact⟨rfl,fun i r h=>by simp at h⟩
 | op _ _ _ _ ih=>
  refine⟨by simp[ih.1],fun i r h=>?_⟩
  cases i with
  | zero=>simp at h; subst h; rfl
  | succ i=>rw[ih.2 i r (by simpa using h)]; congr 1; omega
 | call _ _ _ _ ih=>
  refine⟨by simp[ih.1],fun i r h=>?_⟩
  cases i with
  | zero=>simp at h; subst h; rfl
  | succ i=>rw[ih.2 i r (by simpa using h)]; congr 1; omega
 | callV _ _ _ _ _ ih=>
  refine⟨by simp[ih.1],fun i r h=>?_⟩
  cases i with
  | zero=>simp at h; subst h; rfl
  | succ i=>rw[ih.2 i r (by simpa using h)]; congr 1; omega
 | skip _ _ ih=>
  refine⟨by simp[ih.1],fun i r h=>?_⟩
  cases i with
  | zero=>simp at h; subst h; rfl
  | succ i=>rw[ih.2 i r (by simpa using h)]; congr 1; omega
theorem dC (H:Heap) (f:List Blk) (g i:Nat):hget (H++[f]) g i=if g=H.length then f[i]? else hget H g i:=by
 unfold hget;rw[List.getElem?_append]
 by_cases h:g < H.length
 ·rw[if_pos h,if_neg (by omega)]
 ·rw[if_neg h]
  by_cases e:g=H.length
  ·subst e; simp
  ·rw[if_neg e,List.getElem?_eq_none (by simp; omega),List.getElem?_eq_none (by omega)]
theorem iT {P:Program} {N:Nat} {ops:Array Oper}:∀(l:List Oper) (xs:List IOper),lN P N ops l=some xs→xs.length=l.length∧∀(j:Nat) o,l[j]?=some o→∃ x,xs[j]?=some x∧jG P N ops o=some x
 | [],xs,h=>by
  simp[lN] at h;subst h;exact⟨rfl,fun j o h=>by simp at h⟩
 | o::l,xs,h=>by
  simp only[lN] at h;split at h
  ·rename_i x ys h1 h2
   injection h with h
   subst h;obtain⟨h3,h4⟩:=iT l ys h2;refine⟨by simp[h3],fun j o' hj=>?_⟩
   cases j with
   | zero=>simp at hj; subst hj; exact⟨x,rfl,h1⟩
   | succ j=>exact h4 j o' (by simpa using hj)
  ·cases h
theorem AWP.draw {P:Program} {N k:Nat} {fr:Fr} {H:Heap} {Q:Exit→Fr→Heap→Prop} {xs:List IOper} {af:List (List Nat)} {R:List bD} {fr':Fr} {H':Heap} (hp:P.follows .mixedOrders=true)
  (hrun:eH P H.length 0 xs fr (H++[List.replicate xs.length .dead]) R fr' H') (hchk:chk af R=true) (h:Q .normal fr' H'):AWP P N k (.draw xs af) Q fr H:=by
 intro c0 hc cx M J tmps w hcx hF hH hM
 cases c0 with
 | region id ops draw=>
  simp only[bM] at hc;split at hc
  ·rename_i ys hys
   cases draw with
   | false=>cases hc
   | true=>
    injection hc with hc
    injection hc with hc1 hc2
    subst hc1; subst hc2
    refine wpIn_region_draw fun t=>iC hcx ?_
    rw[hp]
    have hsch:Region.schedule true ops t=Region.linearise .any ops t:=by simp[Region.schedule]
    rw[hsch];obtain⟨hlen,hgx⟩:=iT _ _ hys;obtain⟨hrx,hrid⟩:=hrun.recs
    have hRlen:R.length=ops.size:=by
     have:=congrArg List.length hrx;simp at this;rw[this,hlen];simp
    let R':Nat→bD:=fun j=>R.getD j ⟨⟨none,none,.call 0 []⟩,(0,0),.undef,[],[]⟩
    have hR':∀ j,j < ops.size→R[j]?=some (R' j):=by
     intro j hj
     have:j < R.length:=by omega
     simp[R',List.getD,this]
    have haf:∀ j l,(ops.toList.map dY)[j]?=some l→bJ ops j=l:=by
     intro j l hj;rw[List.getElem?_map,Array.getElem?_toList] at hj;unfold bJ
     cases ho:ops[j]? with
     | none=>rw[ho] at hj; cases hj
     | some o=>rw[ho] at hj; simpa using hj
    simp only[chk,bAe] at hchk
    have hs:=rP ops R' (fun j k hk=>by
     have hl:(ops.toList.map dY)[j]?=some (bJ ops j):=by
      rw[List.getElem?_map,Array.getElem?_toList];unfold bJ at hk ⊢
      cases ho:ops[j]? with
      | none=>rw[ho] at hk; cases hk
      | some o=>rfl
     have:=iM _ 0 hchk.1 j _ hl k hk
     omega) (fun a b hab hb=>by
     have h1:=nU _ 0 hchk.2 b _ (hR' b hb)
     rcases sA _ 0 h1 a _ (hR' a (by omega)) (by omega) with h2 | h2
     ·left
      rw[Nat.zero_add,Nat.zero_add] at h2;exact cL haf _ _ _ h2
     ·exact .inr h2) t
    have hrem:((List.range ops.size).map fun j=>(j,R' j)).map (·.2)=R:=by
     apply List.ext_getElem?;intro j;rw[List.map_map,List.getElem?_map]
     by_cases hj:j < ops.size
     ·rw[hR' j hj,List.getElem?_range hj]
      rfl
     ·have h1:(List.range ops.size)[j]?=none:=List.getElem?_eq_none (by rw[List.length_range]; omega)
      have h2:R[j]?=none:=List.getElem?_eq_none (by omega);rw[h1,h2];rfl
    have hdead:∀ g i x,hget (H++[List.replicate ys.length Blk.dead]) g i=some x→x.live=true→hget H g i=some x:=by
     intro g i x hx hl;rw[dC] at hx;split at hx
     ·rw[List.getElem?_replicate] at hx
      split at hx
      ·injection hx with hx; subst hx; cases hl
      ·cases hx
     ·exact hx
    have hH0:aN M J (H++[List.replicate ys.length .dead]) w.heap:=by
     refine⟨fun g i x hx hl=>hH.blk g i x (hdead g i x hx hl) hl,fun g i g' i' l l' β ⟨x,hx,hl⟩ ⟨y,hy,hl'⟩=>hH.inj g i g' i' l l' β ⟨x,hdead _ _ _ hx hl,hl⟩ ⟨y,hdead _ _ _ hy hl',hl'⟩,
      fun g i l β ⟨x,hx,hl⟩=>hH.out g i l β ⟨x,hdead _ _ _ hx hl,hl⟩,fun g i l hJ=>?_⟩
     have:=hH.dom g i l hJ;refine⟨?_,this.2⟩;rw[dC];split
     ·rename_i e
      subst e;have h2:=this.1;simp[hget] at h2
     ·exact this.1
    have hids:∀ j,j < ops.size→(R' j).id=(H.length,j):=fun j hj=>by rw[hrid j _ (hR' j hj),Nat.zero_add]
    refine vK (k:=k) (N:=N) (t:=(fr',H')) hs (fun p hp=>?_) ?_ (fr,H++[List.replicate ys.length .dead]) M J tmps { w with drawn:=w.drawn+1 } hF hH0 hM (by rw[hrem]; exact hrun.run) (fun p hp=>?_) _ fun a' w' hp=>?_
    ·obtain⟨j,hj,rfl⟩:=List.mem_map.1 hp
     have hj:=List.mem_range.1 hj;have ho:ops[j]?=some ops[j]:=Array.getElem?_eq_getElem hj;obtain⟨x,hx1,hx2⟩:=hgx j ops[j] (by rw[Array.getElem?_toList]; exact ho);refine⟨ops[j],ho,?_⟩
     have:some (R' j).x=some x:=by
      rw[← hx1,← hrx,List.getElem?_map,hR' j hj];rfl
     injection this with this
     rw[this];exact hx2
    ·rw[List.map_map]
     have he:(List.range ops.size).map ((fun x:Nat×bD=>x.2.id) ∘ fun j=>(j,R' j))=(List.range ops.size).map fun j=>(H.length,j):=
      List.map_congr_left fun j hj=>hids j (List.mem_range.1 hj)
     rw[he];exact List.Pairwise.map _ (fun a b hab e=>hab (by injection e)) List.nodup_range
    ·obtain⟨j,hj,rfl⟩:=List.mem_map.1 hp
     have hj:=List.mem_range.1 hj;rw[hids j hj];refine⟨?_,?_⟩
     ·rw[dC,if_pos rfl,List.getElem?_replicate,if_pos (by rw[hlen]; simpa using hj)]
      rfl
     ·cases e:J H.length j with
      | none=>rfl
      | some l=>
       have:=(hH.dom _ _ l e).1;simp[hget] at this
    ·obtain⟨M2,J2,fr2,H2,q1,q2,q3,q4,q5⟩:=hp
     subst q4; subst q5;refine⟨rfl,M2,J2,fr2,H2,?_,q2,q3,h⟩
     have hlive:∀ g i,aQ (H++[List.replicate ys.length Blk.dead]) g i→aQ H g i:=fun g i ⟨x,hx,hl⟩=>⟨x,hdead g i x hx hl,hl⟩
     exact⟨q1.m,q1.j,q1.hrep,q1.mrep,q1.os,(by first | exact q1.tape | exact⟨q1.tape.1,Nat.le_trans (Nat.le_succ _) q1.tape.2⟩),q1.output,q1.size,fun β o ho hn=>q1.frame β o ho fun g i l hl hJ=>hn g i l (hlive g i hl) hJ,
      fun β o ho=>or2 (q1.fresh β o ho) (fun h=>h) fun h=>or2 h (fun h=>h) fun⟨g,i,l,a,b,c⟩=>⟨g,i,l,hlive g i a,b,c⟩,
      fun g i l β a b c=>or2 (q1.live g i l β a b c) (fun⟨g0,i0,l0,a,b,c⟩=>⟨g0,i0,l0,hlive g0 i0 a,b,c⟩) fun h=>h,q1.bk⟩
  ·cases hc
 | _=>simp only[bM] at hc; (try split at hc)<;>(try cases hc)<;>(try simp at hc)
end Go.Av
namespace Go.Av
theorem wrap_small {n:Int} (h1:-9223372036854775808≤n) (h2:n≤9223372036854775807):IntKind.i64.wrap n=n:=by
 rw[IntKind.wrap_i64]; omega
theorem Ren.int {ρ:Nat→Nat→Option (Nat×Nat)} {k:IntKind} {a b:Int} (h:a=b):Ren ρ (.sc (.int k a)) (.sc (.int k b)):=by subst h; exact .sc _
theorem Ren.bool {ρ:Nat→Nat→Option (Nat×Nat)} {a b:Bool} (h:a=b):Ren ρ (.sc (.bool a)) (.sc (.bool b)):=by subst h; exact .sc _
def rho (ids:List (List (Nat×Nat))) (g i:Nat):Option (Nat×Nat):=
 match ids[g]? with
 | some f=>f[i]?
 | none=>none
def DX (ρ:Nat→Nat→Option (Nat×Nat)) (H:Heap):List (Nat×Nat)→List Blk→Prop
 | [],[]=>True
 | p::ps,x::xs=>(∃ y,hget H p.1 p.2=some y∧eY ρ y x)∧DX ρ H ps xs
 | _,_=>False
def wX (ρ:Nat→Nat→Option (Nat×Nat)) (H:Heap):List (List (Nat×Nat))→Heap→Prop
 | [],[]=>True
 | p::ps,x::xs=>DX ρ H p x∧wX ρ H ps xs
 | _,_=>False
theorem pL {ρ H}:∀ {ps:List (Nat×Nat)} {xs:List Blk},DX ρ H ps xs→ps.length=xs.length∧∀(i:Nat) p x,ps[i]?=some p→xs[i]?=some x→∃ y,hget H p.1 p.2=some y∧eY ρ y x
 | [],[],_=>⟨rfl,fun i p x h=>by simp at h⟩
 | [],_::_,h=>h.elim
 | _::_,[],h=>h.elim
 | p::ps,x::xs,⟨h1,h2⟩=>by
  obtain⟨h3,h4⟩:=pL h2;refine⟨by simp[h3],fun i q y hq hy=>?_⟩
  cases i with
  | zero=>simp at hq hy; subst hq; subst hy; exact h1
  | succ i=>exact h4 i q y (by simpa using hq) (by simpa using hy)
theorem sX {ρ H}:∀ {ps:List (List (Nat×Nat))} {xs:Heap},wX ρ H ps xs→ps.length=xs.length∧∀(i:Nat) p x,ps[i]?=some p→xs[i]?=some x→DX ρ H p x
 | [],[],_=>⟨rfl,fun i p x h=>by simp at h⟩
 | [],_::_,h=>h.elim
 | _::_,[],h=>h.elim
 | p::ps,x::xs,⟨h1,h2⟩=>by
  obtain⟨h3,h4⟩:=sX h2;refine⟨by simp[h3],fun i q y hq hy=>?_⟩
  cases i with
  | zero=>simp at hq hy; subst hq; subst hy; exact h1
  | succ i=>exact h4 i q y (by simpa using hq) (by simpa using hy)
def FL (p:Nat×Nat) (l:List (Nat×Nat)):Bool:=l.any fun q=>Nat.beq p.1 q.1 && Nat.beq p.2 q.2
def nE:List (Nat×Nat)→Bool
 | []=>true
 | p::l=>!FL p l && nE l
theorem mH:∀ {l:List (Nat×Nat)},nE l=true→l.Nodup
 | [],_=>List.nodup_nil
 | p::l,h=>by
  simp only[nE,bAe,Bool.not_eq_true'] at h;refine List.nodup_cons.2 ⟨fun hm=>?_,mH h.2⟩;have:FL p l=true:=List.any_eq_true.2 ⟨p,hm,by simp⟩;rw[this] at h
  cases h.1
def jK:Nat→Nat→List (List (Nat×Nat))→Bool
 | _,0,_=>true
 | _,_+1,[]=>false
 | g,k+1,f::r=>(f.zipIdx.all fun x=>Nat.beq x.1.1 g && Nat.beq x.1.2 x.2) && jK (g+1) k r
def mN:Nat→List (List (Nat×Nat))→Heap→Bool
 | 0,_,_=>true
 | k+1,f::r,h::H=>Nat.ble h.length f.length && mN k r H
 | _+1,_,_=>false
theorem nI:∀(k g0:Nat) (ids:List (List (Nat×Nat))),jK g0 k ids=true→∀ g f,g < k→ids[g]?=some f→∀(i:Nat) p,f[i]?=some p→p=(g0+g,i)
 | 0,_,_,_,g,_,hg,_=>by omega
 | k+1,g0,[],h,g,f,hg,hf=>by simp at hf
 | k+1,g0,f0::r,h,g,f,hg,hf=>by
  simp only[jK,bAe] at h
  cases g with
  | zero=>
   simp at hf;subst hf;intro i p hp
   have:=List.all_eq_true.1 h.1 (p,i) (by
    rw[List.mem_zipIdx_iff_getElem?]
    exact hp)
   simp only[bAe] at this;exact Prod.ext (by simpa using nEb this.1) (nEb this.2)
  | succ g=>
   intro i p hp;have:=nI k (g0+1) r h.2 g f (by omega) (by simpa using hf) i p hp;rw[this];exact Prod.ext (by simp; omega) rfl
theorem pN:∀(k:Nat) (ids:List (List (Nat×Nat))) (H:Heap),mN k ids H=true→∀ g,g < k→∀ i,(hget H g i).isSome→∃ f,ids[g]?=some f∧i < f.length
 | 0,_,_,_,g,hg=>by omega
 | k+1,[],H,h,g,hg=>by simp[mN] at h
 | k+1,f::r,[],h,g,hg=>by simp[mN] at h
 | k+1,f::r,h0::H,h,g,hg=>by
  simp only[mN,bAe] at h;intro i hi
  cases g with
  | zero=>
   refine⟨f,rfl,?_⟩;simp only[hget,List.getElem?_cons_zero] at hi
   have:i < h0.length:=by
    rw[Option.isSome_iff_exists] at hi;obtain⟨y,hy⟩:=hi;exact(gEs.1 hy).1
   have:=nlB h.1;omega
  | succ g=>
   obtain⟨f',h1,h2⟩:=pN k r H h.2 g (by omega) i (by simpa[hget] using hi);exact⟨f',by simpa using h1,h2⟩
theorem uT.list {k:Nat} {H H':Heap} {ids:List (List (Nat×Nat))} (h1:jK 0 k ids=true) (h2:mN k ids H=true) (h3:nE ids.flatten=true) (h4:wX (rho ids) H ids H'):uT (rho ids) k H H':=by
 obtain⟨hl,hf⟩:=sX h4;have hnd:=mH h3;refine⟨fun g i hg hi=>?_,fun g i g' i' p hp hp'=>?_,fun g i x hx _=>?_,fun g i p hp _=>?_⟩
 ·obtain⟨f,e1,e2⟩:=pN k ids H h2 g hg i hi
  have:=nI k 0 ids h1 g f hg e1 i f[i] (gEg e2);simp only[rho,e1,gEg e2,this,Nat.zero_add]
 ·unfold rho at hp hp'
  split at hp
  ·rename_i f e
   split at hp'
   ·rename_i f' e'
    unfold List.Nodup at hnd;rw[List.pairwise_flatten] at hnd
    by_cases hgg:g=g'
    ·subst hgg
     rw[e] at e'
     injection e' with e'
     subst e';refine⟨rfl,?_⟩;have hn:=hnd.1 f (mOg e);have hi:=(gEs.1 hp).1;exact(List.getElem?_inj hi hn).1 (hp.trans hp'.symm)
    ·exfalso
     have hpw:=hnd.2;rw[List.pairwise_iff_getElem] at hpw;have hg1:=(gEs.1 e).1;have hg2:=(gEs.1 e').1;have v1:=(gEs.1 e).2;have v2:=(gEs.1 e').2
     rcases Nat.lt_or_gt_of_ne hgg with hlt | hgt
     ·have:=hpw g g' hg1 hg2 hlt
      rw[v1,v2] at this;exact this p (mOg hp) p (mOg hp') rfl
     ·have:=hpw g' g hg2 hg1 hgt
      rw[v1,v2] at this;exact this p (mOg hp') p (mOg hp) rfl
   ·cases hp'
  ·cases hp
 ·unfold hget at hx
  split at hx
  ·rename_i f e
   have hg:=(gEs.1 e).1;have e':ids[g]?=some ids[g]:=gEg (by omega);obtain⟨q1,q2⟩:=pL (hf g _ _ e' e);have hi:=(gEs.1 hx).1;have e2:ids[g][i]?=some ids[g][i]:=gEg (by omega);obtain⟨y,r1,r2⟩:=q2 i _ x e2 hx;exact⟨_,_,y,by simp only[rho,e']; exact e2,r1,r2⟩
  ·cases hx
 ·unfold rho at hp
  split at hp
  ·rename_i f e
   have hg:=(gEs.1 e).1;have e':H'[g]?=some H'[g]:=gEg (by omega);obtain⟨q1,_⟩:=pL (hf g _ _ e e');have hi:=(gEs.1 hp).1;simp only[hget,e',gEg (show i < H'[g].length by omega)];rfl
  ·cases hp
def pC (ρ:Nat→Nat→Option (Nat×Nat)) (fr:Fr):Fr→Prop
 | []=>True
 | x::r=>Ren ρ (fr.get x.1) x.2∧pC ρ fr r
theorem pC.mem {ρ fr}:∀ {fr':Fr},pC ρ fr fr'→∀ x∈fr',Ren ρ (fr.get x.1) x.2
 | [],_,x,h=>by cases h
 | _::_,⟨h1,h2⟩,x,h=>by
  cases h with
  | head=>exact h1
  | tail _ h=>exact pC.mem h2 x h
def AM (fr:Fr):Fr→Prop
 | []=>True
 | x::r=>Le (fr.get x.1) x.2∧AM fr r
theorem AM.mem {fr}:∀ {fr':Fr},AM fr fr'→∀ x∈fr',Le (fr.get x.1) x.2
 | [],_,x,h=>by cases h
 | _::_,⟨h1,h2⟩,x,h=>by
  cases h with
  | head=>exact h1
  | tail _ h=>exact AM.mem h2 x h
theorem Sub.re {k N:Nat} {fr fr':Fr} {H H':Heap} (ids:List (List (Nat×Nat))) (h1:jK 0 k ids=true) (h2:mN k ids H=true) (h3:nE ids.flatten=true) (h4:wX (rho ids) H ids H')
  (h5:pC (rho ids) fr fr'):Sub k N fr H fr' H':=Sub.ren _ (uT.list h1 h2 h3 h4) h5.mem
theorem Sub.none {N:Nat} {fr fr':Fr} {H:Heap} (h5:pC (rho []) fr fr'):Sub 0 N fr H fr' []:=Sub.re [] rfl rfl rfl trivial h5
theorem Sub.keep {k N:Nat} {fr fr':Fr} {H:Heap} (h:AM fr fr'):Sub k N fr H fr' H:=Sub.le h.mem
theorem eO.pure {H:Heap} {res:AV} (h:aZ res):eO 0 H res [] res:=eO.ren (rho []) (uT.list rfl rfl rfl trivial) (.pure h)
section
variable {P:Program} {N k:Nat} {fr:Fr} {H:Heap} {Q:Exit→Fr→Heap→Prop}
theorem AWP.condT {c:Operand} {x y:bL} (hb:ev fr c=.sc (.bool true)) (h:AWP P N k x Q fr H):AWP P N k (.cond c x y) Q fr H:=AWP.cond hb (fun _=>h) (fun e=>by cases e)
theorem AWP.condF {c:Operand} {x y:bL} (hb:ev fr c=.sc (.bool false)) (h:AWP P N k y Q fr H):AWP P N k (.cond c x y) Q fr H:=AWP.cond hb (fun e=>by cases e) (fun _=>h)
end
theorem aZ.cells {l:List AV} (h:∀ c∈l,aZ c):aZ (.agg l):=.agg l h
theorem dD:∀ c∈([]:List AV),aZ c:=fun c h=>by cases h
theorem bA {a:AV} {l:List AV} (h:aZ a) (h':∀ c∈l,aZ c):∀ c∈a::l,aZ c:=fun c hc=>by
 cases hc with
 | head=>exact h
 | tail _ hc=>exact h' c hc
theorem tF {l l':List AV} (h:∀ c∈l,aZ c) (h':∀ c∈l',aZ c):∀ c∈l++l',aZ c:=fun c hc=>(List.mem_append.1 hc).elim (h c) (h' c)
end Go.Av
namespace Go.Av
def DK (P:Program) (base j:Nat) (xs:List IOper) (fr:Fr) (H:Heap) (acc:List bD) (K:List bD→Fr→Heap→Prop):Prop:=
 ∃ R fr' H',eH P base j xs fr H R fr' H'∧K (acc.reverse++R) fr' H'
section
variable {P:Program} {base j:Nat} {xs:List IOper} {fr:Fr} {H:Heap} {v:AV} {H1:Heap} {acc:List bD} {K:List bD→Fr→Heap→Prop} {d:Nat} {gd:Option (Nat×Bool)}
theorem DK.nil (h:K acc.reverse fr H):DK P base j [] fr H acc K:=⟨[],fr,H,.nil _ _ _,by rw[List.append_nil]; exact h⟩
theorem DK.o {o:IOp} (hg:gok fr gd=some true) (hs:aD base j o fr H=some (v,H1)) (h:DK P base (j+1) xs ((d,v)::fr) H1 (⟨⟨some d,gd,.op o⟩,(base,j),v,drd fr o,dwr base j fr o⟩::acc) K):
  DK P base j (⟨some d,gd,.op o⟩::xs) fr H acc K:=by
 obtain⟨R,fr',H',h1,h2⟩:=h;exact⟨_,fr',H',eH.op (x:=⟨some d,gd,.op o⟩) hg rfl hs h1,by simpa using h2⟩
theorem DK.on {o:IOp} (hg:gok fr gd=some true) (hs:aD base j o fr H=some (v,H1)) (h:DK P base (j+1) xs fr H1 (⟨⟨none,gd,.op o⟩,(base,j),v,drd fr o,dwr base j fr o⟩::acc) K):
  DK P base j (⟨none,gd,.op o⟩::xs) fr H acc K:=by
 obtain⟨R,fr',H',h1,h2⟩:=h;exact⟨_,fr',H',eH.op (x:=⟨none,gd,.op o⟩) hg rfl hs h1,by simpa using h2⟩
theorem DK.c {f:FuncId} {args:List Operand} (hg:gok fr gd=some true) (hc:aC P f (avals fr args) v) (h:DK P base (j+1) xs ((d,v)::fr) H (⟨⟨some d,gd,.call f args⟩,(base,j),v,[],[]⟩::acc) K):
  DK P base j (⟨some d,gd,.call f args⟩::xs) fr H acc K:=by
 obtain⟨R,fr',H',h1,h2⟩:=h;exact⟨_,fr',H',eH.call (x:=⟨some d,gd,.call f args⟩) hg rfl hc h1,by simpa using h2⟩
theorem DK.cv {f:Cal} {args:List Operand} {g:FuncId} {fs cs:List AV} (hg:gok fr gd=some true) (hf:evC P fr f=.clo (.func g) fs cs) (hc:aC P g (fs++avals fr args++cs) v) (h:DK P base (j+1) xs ((d,v)::fr) H (⟨⟨some d,gd,.callV f args⟩,(base,j),v,[],[]⟩::acc) K):
  DK P base j (⟨some d,gd,.callV f args⟩::xs) fr H acc K:=by
 obtain⟨R,fr',H',h1,h2⟩:=h;exact⟨_,fr',H',eH.callV (x:=⟨some d,gd,.callV f args⟩) hg rfl hf hc h1,by simpa using h2⟩
theorem DK.s {a:IAct} (hg:gok fr gd=some false) (h:DK P base (j+1) xs ((d,.sc Go.undef)::fr) H (⟨⟨some d,gd,a⟩,(base,j),.sc Go.undef,[],[]⟩::acc) K):
  DK P base j (⟨some d,gd,a⟩::xs) fr H acc K:=by
 obtain⟨R,fr',H',h1,h2⟩:=h;exact⟨_,fr',H',eH.skip (x:=⟨some d,gd,a⟩) hg h1,by simpa using h2⟩
end
theorem AWP.dk {P:Program} {N k:Nat} {fr:Fr} {H:Heap} {Q:Exit→Fr→Heap→Prop} {xs:List IOper} {af:List (List Nat)} (hp:P.follows .mixedOrders=true)
  (h:DK P H.length 0 xs fr (H++[List.replicate xs.length .dead]) [] fun R fr' H'=>chk af R=true∧Q .normal fr' H'):AWP P N k (.draw xs af) Q fr H:=by
 obtain⟨R,fr',H',h1,h2,h3⟩:=h;exact AWP.draw hp h1 h2 h3
theorem eJ {α:Type} (f:α→List AV) (l:List α) (k:Nat) (h:k < l.length):cW (l.map f) (k:Int)=some (f l[k]):=by
 rw[pW,List.getElem?_map,gEg h]; rfl
theorem rH {g i:Nat} {fr:Fr} {H:Heap} {sz:Nat} {x ix:Operand} {k:IntKind} {n:Int} {rows:List (List AV)} {r:List AV} (hx:ev fr x=.list sz rows) (hi:ev fr ix=.sc (.int k n)) (hr:cW rows n=some r):
  aD g i (.idxSl sz x ix) fr H=some (.cptr r,H):=by simp[aD,hx,hi,hr]
theorem CL {g i:Nat} {fr:Fr} {H:Heap} {sz:Nat} {x ix:Operand} {k:IntKind} {q:Nat} {g' i' start len:Nat} {rows:List (List AV)} (hx:ev fr x=.hsl g' i' start len) (hi:ev fr ix=.sc (.int k (q:Int)))
  (hh:hget H g' i'=some (.cells sz rows)) (h1:q < len) (h2:start+len≤rows.length):
  aD g i (.idxSl sz x ix) fr H=some (.ptr g' i' (start+q) 0,H):=by
 have e1:Nat.blt q len=true:=by simpa[Nat.blt_eq] using h1
 have e2:Nat.ble (start+len) rows.length=true:=by simpa using h2
 simp only[aD,hi,hx]
 show(match hget H g' i' with
  | some (.cells s rows)=>match Nat.beq s sz && (Nat.blt q len && Nat.ble (start+len) rows.length) with
   | true=>some (AV.ptr g' i' (start+q) 0,H)
   | false=>none
  | _=>none)=_
 rw[hh];simp[e1,e2]
theorem Sub.leGet {k N:Nat} {fr fr':Fr} {H:Heap} (h:∀ t,Le (fr.get t) (fr'.get t)):Sub k N fr H fr' H:=
 fun M J _ _ hF hH hM=>⟨M,J,.refl k hH hM,hF.1,fun t=>h t M J _ (hF.2 t)⟩
theorem HR {fr:Fr} {t:Nat} {v:AV} (h:fr.get t=v) (u:Nat):Fr.get ((t,v)::fr) u=fr.get u:=by
 show(match Nat.beq t u with | true=>v | false=>Fr.get fr u)=_;split
 ·rename_i e
  have:=nEb e;subst this;exact h.symm
 ·rfl
theorem Reg.gs {P:Program} {N k:Nat} {xs:List IOper} {fr:Fr} {H:Heap} {K:Fr→Heap→Prop} {d:Option Nat} {t:Nat} {w:Bool} {a:IAct} {c:Bool} (hg:fr.get t=.sc (.bool c))
  (h1:c=true→Reg P N k (⟨d,some (t,w),a⟩::xs) ((t,.sc (.bool true))::fr) H K) (h2:c=false→Reg P N k (⟨d,some (t,w),a⟩::xs) ((t,.sc (.bool false))::fr) H K):
  Reg P N k (⟨d,some (t,w),a⟩::xs) fr H K:=by
 cases c with
 | true=>exact Reg.sub (Sub.leGet fun u=>by rw[HR hg u]; exact Le.refl _) (h1 rfl)
 | false=>exact Reg.sub (Sub.leGet fun u=>by rw[HR hg u]; exact Le.refl _) (h2 rfl)
theorem aE.args {P:Program} {f:FuncId} {args args':List AV} {H:Heap} {R:AV→Heap→Prop} (h:aE P f args' H R) (hl:args.length=args'.length) (hle:∀(j:Nat) a b,args[j]?=some a→args'[j]?=some b→Le a b):
  aE P f args H R:=by
 refine⟨h.1,fun M J w cargs h1 h2 h3 h4=>h.2 M J w cargs (by omega) (fun j c v hc hv=>?_) h3 h4⟩;have hj:=(gEs.1 hc).1;have e:args[j]?=some args[j]:=gEg (by omega);exact hle j _ c e hc M J v (h2 j _ v e hv)
end Go.Av
namespace Go.Av
inductive dR (T:AV→AV→Prop):AV→AV→Prop
 | base {a b:AV} (h:T a b):dR T a b
 | undef (a:AV):dR T a .undef
 | refl (a:AV):dR T a a
 | agg (xs ys:List AV) (hl:xs.length=ys.length) (h:∀(j:Nat) x y,xs[j]?=some x→ys[j]?=some y→dR T x y):dR T (.agg xs) (.agg ys)
 | tup (xs ys:List AV) (hl:xs.length=ys.length) (h:∀(j:Nat) x y,xs[j]?=some x→ys[j]?=some y→dR T x y):dR T (.tup xs) (.tup ys)
 | cptr (xs ys:List AV) (hl:xs.length=ys.length) (h:∀(j:Nat) x y,xs[j]?=some x→ys[j]?=some y→dR T x y):dR T (.cptr xs) (.cptr ys)
 | list (sz:Nat) (rows rows':List (List AV)) (hl:rows.length=rows'.length) (hr:∀(i:Nat) (r r':List AV),rows[i]?=some r→rows'[i]?=some r'→r.length=r'.length)
   (h:∀(i:Nat) (r r':List AV) (j:Nat) x y,rows[i]?=some r→rows'[i]?=some r'→r[j]?=some x→r'[j]?=some y→dR T x y):dR T (.list sz rows) (.list sz rows')
 | clo (fn:Fn) (fs cs fs' cs':List AV) (h1:fs.length=fs'.length) (h2:cs.length=cs'.length)
   (h3:∀(j:Nat) x y,fs[j]?=some x→fs'[j]?=some y→dR T x y) (h4:∀(j:Nat) x y,cs[j]?=some x→cs'[j]?=some y→dR T x y):
   dR T (.clo fn fs cs) (.clo fn fs' cs')
 | ifc (t:TypeId) (a b:AV) (h:dR T a b):dR T (.ifc t a) (.ifc t b)
theorem aT {α:Type} {xs ys:List α} (hl:xs.length=ys.length) {j:Nat} {y:α} (h:ys[j]?=some y):∃ x,xs[j]?=some x:=by
 have:=(gEs.1 h).1;exact⟨xs[j],gEg (by omega)⟩
theorem dR.rep {T:AV→AV→Prop} {M J M' J'} (hx:Ext M J M' J') (hT:∀ a b v,T a b→Rep M J a v→Rep M' J' b v) {a b:AV} (h:dR T a b):∀ {v:Value},Rep M J a v→Rep M' J' b v:=by
 induction h with
 | base h=>exact fun hv=>hT _ _ _ h hv
 | undef a=>exact fun _=>.undef _
 | refl a=>exact fun hv=>hv.ext hx
 | agg xs ys hl _ ih=>
  intro v hv
  cases hv with
  | agg _ cvs hl' hr=>
   exact .agg ys cvs (by omega) fun j c v a b=>by
    obtain⟨x,hx⟩:=aT hl a;exact ih j x c hx a (hr j x v hx b)
 | tup xs ys hl _ ih=>
  intro v hv
  cases hv with
  | tup _ cvs hl' hr=>
   exact .tup ys cvs (by omega) fun j c v a b=>by
    obtain⟨x,hx⟩:=aT hl a;exact ih j x c hx a (hr j x v hx b)
 | cptr xs ys hl _ ih=>
  intro v hv
  cases hv with
  | cptr _ β off cs e fr hM hle hr=>
   refine .cptr ys β off cs e fr (hx.m _ _ hM) ?_ fun j c v a b=>?_
   ·rcases hle with rfl | hle
    ·left
     cases ys with | nil=>rfl | cons _ _=>simp at hl
    ·right; omega
   ·obtain⟨x,hx⟩:=aT hl a
    exact ih j x c hx a (hr j x v hx b)
 | list sz rows rows' hl hlr _ ih=>
  intro v hv
  cases hv with
  | nilList _ a cap=>
   have:rows'=[]:=by cases rows' with | nil=>rfl | cons _ _=>simp at hl
   subst this;exact .nilList sz a cap
  | list _ _ β off cap n cs e fr hn hM hsz hle ho hr=>
   refine .list sz rows' β off cap n cs e fr (by omega) (hx.m _ _ hM) (fun i r' h=>?_) (by rw[← hl]; exact hle) (by rw[← hl]; exact ho) fun i r' j c v a b d=>?_
   ·obtain⟨r,h'⟩:=aT hl h
    rw[← hlr i r r' h' h];exact hsz i r h'
   ·obtain⟨r,h'⟩:=aT hl a
    obtain⟨x,hx⟩:=aT (hlr i r r' h' a) b;exact ih i r r' j x c h' a hx b (hr i r j x v h' hx d)
 | ifc t a b _ ih=>
  intro v hv
  cases hv with
  | ifc _ _ v h=>exact .ifc t b v (ih h)
 | clo fn fs cs fs' cs' h1 h2 _ _ ih1 ih2=>
  intro v hv
  cases hv with
  | clo _ _ _ cfs ccs hf hc g1 g2=>
   refine .clo fn fs' cs' cfs ccs (by omega) (by omega) (fun j c v a b=>?_) (fun j c v a b=>?_)
   ·obtain⟨x,hx⟩:=aT h1 a
    exact ih1 j x c hx a (g1 j x v hx b)
   ·obtain⟨x,hx⟩:=aT h2 a
    exact ih2 j x c hx a (g2 j x v hx b)
theorem aU.cong {T:AV→AV→Prop} {N M J M' J' fr fr' tmps} (hx:Ext M J M' J') (hT:∀ a b v,T a b→Rep M J a v→Rep M' J' b v) (h:aU N M J fr tmps) (hr:∀ x∈fr',dR T (fr.get x.1) x.2):aU N M' J' fr' tmps:=by
 refine⟨h.1,fun t=>?_⟩
 have key:dR T (fr.get t) (Fr.get fr' t):=by
  clear h
  induction fr' with
  | nil=>exact .undef _
  | cons p fr' ih=>
   obtain⟨d,v⟩:=p;show dR T (fr.get t) (match Nat.beq d t with | true=>v | false=>Fr.get fr' t);split
   ·rename_i e
    have:d=t:=nEb e;subst this;exact hr (d,v) (List.mem_cons_self ..)
   ·exact ih fun x hx=>hr x (mCm _ hx)
 exact key.rep hx hT (h.2 t)
inductive lD (T:AV→AV→Prop):Blk→Blk→Prop
 | refl (x:Blk):lD T x x
 | cells (sz:Nat) (rows rows':List (List AV)) (hl:rows.length=rows'.length) (hr:∀(i:Nat) (r r':List AV),rows[i]?=some r→rows'[i]?=some r'→r.length=r'.length)
   (h:∀(i:Nat) (r r':List AV) (j:Nat) x y,rows[i]?=some r→rows'[i]?=some r'→r[j]?=some x→r'[j]?=some y→dR T x y):lD T (.cells sz rows) (.cells sz rows')
 | lp (L:LC) (caps caps':Fr) (st:LoopState) (pe:Option Code) (h:∀ x∈caps',dR T (caps.get x.1) x.2):lD T (.lp L caps st pe) (.lp L caps' st pe)
theorem lD.live {T x y} (h:lD T x y) (hl:y.live=true):x.live=true:=by
 cases h with
 | refl=>exact hl
 | cells=>rfl
 | lp=>rfl
theorem lD.rep {T:AV→AV→Prop} {M J M' J'} (hx:Ext M J M' J') (hT:∀ a b v,T a b→Rep M J a v→Rep M' J' b v) {x y:Blk} (h:lD T x y) {l:Loc} {hp:Array Obj} (hb:eQ M J l hp x):eQ M' J' l hp y:=by
 cases h with
 | refl=>exact hb.ext hx fun _ _=>rfl
 | lp L caps caps' st pe hr=>
  obtain⟨β,r,h0,h1,h3,h4,h5,h6,h7,h8⟩:=hb;exact⟨β,r,h0,h1,h3,h4,h5,h6,h7,h8.cong hx hT hr⟩
 | cells sz rows rows' hl hlr hr=>
  obtain⟨h1,h2,h3⟩:=hb;refine⟨h1,fun i r' hr'=>?_,?_⟩
  ·obtain⟨r,h'⟩:=aT hl hr'
   rw[← hlr i r r' h' hr'];exact h2 i r h'
  ·cases e:l.blk with
   | none=>
    rw[e] at h3;subst h3
    cases rows' with | nil=>rfl | cons _ _=>simp at hl
   | some β=>
    rw[e] at h3;obtain⟨cs,t,a,b,c,o,d⟩:=h3;refine⟨cs,t,a,b,by rw[← hl]; exact c,by rw[← hl]; exact o,fun i r' j y v p q s=>?_⟩;obtain⟨r,h'⟩:=aT hl p;obtain⟨x,hx'⟩:=aT (hlr i r r' h' p) q;exact dR.rep hx hT (hr i r r' j x y h' p hx' q) (d i r j x v h' hx' s)
inductive GhT (H H':Heap):AV→AV→Prop
 | mk (g i sz:Nat) (h:hget H g i=none) (h':hget H' g i=some (.cells sz [])):GhT H H' (.sc (.slice none 0 0)) (.hsl g i 0 0)
structure rI (H H':Heap):Prop where
 blk:∀ g i x',hget H' g i=some x'→x'.live=true→(∃ x,hget H g i=some x∧lD (GhT H H') x x')∨(hget H g i=none∧∃ sz,x'=.cells sz [])
 dom:∀ g i,(hget H g i).isSome→(hget H' g i).isSome
def Inj.ghost (J:Inj) (H H':Heap):Inj:=fun g i=>
 match hget H g i,hget H' g i with
 | none,some (.cells sz [])=>some ⟨none,sz,0⟩
 | _,_=>J g i
theorem aS.ghost {k M J H H'} {w:World} (hH:aN M J H w.heap) (hM:a8 M w.heap) (hg:rI H H'):aS k M J H w M (J.ghost H H') H' w∧Ext M J M (J.ghost H H') ∧
  ∀ a b v,GhT H H' a b→Rep M J a v→Rep M (J.ghost H H') b v:=by
 have hold:∀ g i,(hget H g i).isSome→J.ghost H H' g i=J g i:=by
  intro g i h;obtain⟨x,hx⟩:=Option.isSome_iff_exists.1 h;unfold Inj.ghost;rw[hx]
 have hnew:∀ g i sz,hget H g i=none→hget H' g i=some (.cells sz [])→J.ghost H H' g i=some ⟨none,sz,0⟩:=by
  intro g i sz h h';unfold Inj.ghost;rw[h,h']
 have hx:Ext M J M (J.ghost H H'):=⟨fun _ _ h=>h,fun g i l h=>by rw[hold g i (hH.dom g i l h).1]; exact h⟩
 have hT:∀ a b v,GhT H H' a b→Rep M J a v→Rep M (J.ghost H H') b v:=by
  intro a b v h hv
  cases h with
  | mk g i sz h h'=>
   cases hv
   exact .hslNil g i _ _ (hnew g i sz h h') rfl
 have key:∀ g i l,J.ghost H H' g i=some l→(J g i=some l∧(hget H g i).isSome)∨(l.blk=none∧∃ sz,hget H' g i=some (.cells sz [])):=by
  intro g i l h;unfold Inj.ghost at h;split at h
  ·rename_i sz e1 e2
   injection h with h
   subst h;exact .inr ⟨rfl,sz,e2⟩
  ·exact .inl ⟨h,(hH.dom g i l h).1⟩
 have klive:∀ g i l β,aQ H' g i→J.ghost H H' g i=some l→l.blk=some β→aQ H g i∧J g i=some l:=by
  rintro g i l β ⟨x',h1,h2⟩ h3 h4
  rcases key g i l h3 with⟨h5,h6⟩ | ⟨h5,_⟩
  ·rcases hg.blk g i x' h1 h2 with⟨x,h7,h8⟩ | ⟨h7,_⟩
   ·exact⟨⟨x,h7,h8.live h2⟩,h5⟩
   ·rw[h7] at h6; cases h6
  ·rw[h5] at h4; cases h4
 refine⟨⟨fun _ _ h=>h,fun g i l _ h=>hx.j g i l h,⟨?_,?_,?_,?_⟩,hM,rfl,.refl _,rfl,Nat.le_refl _,fun _ _ h _=>h,fun _ _ h=>.inl h,?_,fun _ r h=>⟨r,h,rfl⟩⟩,hx,hT⟩
 ·intro g i x' h1 h2
  rcases hg.blk g i x' h1 h2 with⟨x,h3,h4⟩ | ⟨h3,sz,rfl⟩
  ·obtain⟨l,h5,h6⟩:=hH.blk g i x h3 (h4.live h2)
   exact⟨l,hx.j g i l h5,h4.rep hx hT h6⟩
  ·exact⟨_,hnew g i sz h3 h1,rfl,fun i r h=>by simp at h,rfl⟩
 ·intro g i g' i' l l' β a b c d e f
  obtain⟨a1,a2⟩:=klive g i l β a c e;obtain⟨b1,b2⟩:=klive g' i' l' β b d f;exact hH.inj g i g' i' l l' β a1 b1 a2 b2 e f
 ·intro g i l β a b c
  obtain⟨a1,a2⟩:=klive g i l β a b c;exact hH.out g i l β a1 a2 c
 ·intro g i l h
  rcases key g i l h with⟨h1,h2⟩ | ⟨h1,sz,h2⟩
  ·exact⟨hg.dom g i h2,(hH.dom g i l h1).2⟩
  ·exact⟨by rw[h2]; rfl,fun β hβ=>by rw[h1] at hβ; cases hβ⟩
 ·intro g i l β a b c
  obtain⟨a1,a2⟩:=klive g i l β a b c;exact .inl ⟨g,i,l,a1,a2,c⟩
theorem Sub.ghost {k N:Nat} {fr fr':Fr} {H H':Heap} (hg:rI H H') (h:∀ x∈fr',dR (GhT H H') (fr.get x.1) x.2):Sub k N fr H fr' H':=by
 intro M J tmps w hF hH hM;obtain⟨h1,h2,h3⟩:=aS.ghost (k:=k) hH hM hg;exact⟨M,_,h1,hF.cong h2 h3 h⟩
inductive FzT (H:Heap) (S:Nat→Nat→Bool):AV→AV→Prop
 | hsl (g i start len sz:Nat) (rows:List (List AV)) (hS:S g i=true) (h:hget H g i=some (.cells sz rows)) (hl:start+len≤rows.length):FzT H S (.hsl g i start len) (.list sz ((rows.drop start).take len))
 | ptr (g i row off sz:Nat) (rows:List (List AV)) (r:List AV) (hS:S g i=true) (h:hget H g i=some (.cells sz rows)) (hr:rows[row]?=some r):FzT H S (.ptr g i row off) (.cptr (r.drop off))
 | mref (g i:Nat) (es:List (Value×AV)) (hS:S g i=true) (h:hget H g i=some (.map es)):FzT H S (.mref g i) (.tmap es)
structure kL (H:Heap) (S:Nat→Nat→Bool) (H':Heap):Prop where
 blk:∀ g i x',hget H' g i=some x'→x'.live=true→S g i=false∧∃ x,hget H g i=some x∧lD (FzT H S) x x'
 dom:∀ g i,(hget H g i).isSome→(hget H' g i).isSome
open Classical in
noncomputable def Mem.freeze (M:Mem) (J:Inj) (H:Heap) (S:Nat→Nat→Bool) (h:Array Obj):Mem:=fun β=>
 if ∃ g i l,S g i=true∧aQ H g i∧J g i=some l∧l.blk=some β then h[β]? else M β
theorem aS.frz {k M J H S H'} {w:World} (hH:aN M J H w.heap) (hM:a8 M w.heap) (hf:kL H S H'):aS k M J H w (M.freeze J H S w.heap) J H' w∧Ext M J (M.freeze J H S w.heap) J ∧
  ∀ a b v,FzT H S a b→Rep M J a v→Rep (M.freeze J H S w.heap) J b v:=by
 have hin:∀ g i l β,S g i=true→aQ H g i→J g i=some l→l.blk=some β→M.freeze J H S w.heap β=w.heap[β]?:=by
  intro g i l β a b c d;unfold Mem.freeze;rw[if_pos ⟨g,i,l,a,b,c,d⟩]
 have hx:Ext M J (M.freeze J H S w.heap) J:=by
  refine⟨fun β o h=>?_,fun _ _ _ h=>h⟩;unfold Mem.freeze;split
  ·rename_i e
   obtain⟨g,i,l,a,b,c,d⟩:=e;rw[hH.out g i l β b c d] at h
   cases h
  ·exact h
 have hT:∀ a b v,FzT H S a b→Rep M J a v→Rep (M.freeze J H S w.heap) J b v:=by
  intro a b v h hv
  cases h with
  | hsl g i start len sz rows hS h hl=>
   have hlive:aQ H g i:=⟨_,h,rfl⟩
   obtain⟨l',h1,h2,h3,h4⟩:=hH.blk g i _ h rfl
   cases hv with
   | hsl _ _ _ _ cap β l hJ hb hc hlc=>
    rw[hJ] at h1
    injection h1 with h1
    subst h1;rw[hb] at h4;obtain⟨cs,e,⟨ff,k1,hff⟩,k2,k3,k4,k5⟩:=h4
    have hm:M.freeze J H S w.heap β=some (.cells cs e ff):=by rw[hin g i l β hS hlive hJ hb]; exact k1
    have hlen:((rows.drop start).take len).length=len:=by simp; omega
    have hrow:∀(q:Nat) r,((rows.drop start).take len)[q]?=some r→q < len∧rows[start+q]?=some r:=by
     intro q r hq;have hql:=(gEs.1 hq).1;rw[List.getElem?_take,List.getElem?_drop] at hq;rw[hlen] at hql;rw[if_pos hql] at hq;exact⟨hql,hq⟩
    have hmul:∀ q,q≤len→start * sz+q * sz≤rows.length * sz:=by
     intro q hq;rw[← Nat.add_mul];exact Nat.mul_le_mul_right _ (by omega)
    rw[h2];refine .list sz _ β (start * sz) cap len cs e ff ⟨hlen.symm,hlc⟩ hm (fun q r hq=>h3 _ r (hrow q r hq).2) ?_ (fun j v hj hv=>?_) (fun q r j c v hq hc hv=>?_)
    ·rw[hlen]
     have:=hmul len (Nat.le_refl _);omega
    ·refine k4 _ v ?_ hv
     rw[hlen] at hj;have:=hmul len (Nat.le_refl _);omega
    ·obtain⟨q1,q2⟩:=hrow q r hq
     refine(k5 _ r j c v q2 hc ?_).ext hx;rw[Nat.add_mul];exact hv
   | hslNil _ _ a0 l hJ hb=>
    have hnil:rows=[]:=by
     rw[hJ] at h1
     injection h1 with h1
     subst h1;rw[hb] at h4;exact h4
    subst hnil;simp only[List.drop_nil,List.take_nil];exact .nilList sz _ 0
  | ptr g i row off sz rows r hS h hr=>
   have hlive:aQ H g i:=⟨_,h,rfl⟩
   obtain⟨l',h1,h2,h3,h4⟩:=hH.blk g i _ h rfl
   cases hv with
   | ptr _ _ _ _ β l hJ hb=>
    rw[hJ] at h1
    injection h1 with h1
    subst h1;rw[hb] at h4;obtain⟨cs,e,⟨ff,k1,hff⟩,k2,k3,k4,k5⟩:=h4
    have hm:M.freeze J H S w.heap β=some (.cells cs e ff):=by rw[hin g i l β hS hlive hJ hb]; exact k1
    have hrl:=(gEs.1 hr).1;have hlen:=h3 row r hr
    have hmul:row * sz+sz≤rows.length * sz:=by
     rw[show row * sz+sz=(row+1) * sz by rw[Nat.add_mul,Nat.one_mul]];exact Nat.mul_le_mul_right _ (by omega)
    rw[h2];refine .cptr _ β (row * sz+off) cs e ff hm ?_ (fun j c v hc hv=>?_)
    ·rcases Nat.lt_or_ge off r.length with hlt | hge
     ·right
      rw[List.length_drop];omega
     ·left; exact List.drop_eq_nil_of_le hge
    ·rw[List.getElem?_drop] at hc
     refine(k5 row r (off+j) c v hr hc ?_).ext hx;rw[← Nat.add_assoc];exact hv
  | mref g i es hS h=>
   have hlive:aQ H g i:=⟨_,h,rfl⟩
   obtain⟨l',h1,β',ces,clock,h2,h3,h4,h5,h6,h7⟩:=hH.blk g i _ h rfl
   cases hv with
   | mref _ _ β l hJ hb=>
    rw[hJ] at h1
    injection h1 with h1
    subst h1;rw[hb] at h2
    injection h2 with h2
    subst h2
    exact .tmap es β clock ces (by rw[hin g i l β hS hlive hJ hb]; exact h3) h7 h4 h5 fun j x y a b=>(h6 j x y a b).ext hx
 have klive:∀ g i,aQ H' g i→S g i=false∧aQ H g i:=by
  rintro g i ⟨x',h1,h2⟩;obtain⟨h3,x,h4,h5⟩:=hf.blk g i x' h1 h2;exact⟨h3,x,h4,h5.live h2⟩
 refine⟨⟨hx.m,fun _ _ _ _ h=>h,⟨?_,?_,?_,?_⟩,?_,rfl,.refl _,rfl,Nat.le_refl _,fun _ _ h _=>h,?_,?_,fun _ r h=>⟨r,h,rfl⟩⟩,hx,hT⟩
 ·intro g i x' h1 h2
  obtain⟨_,x,h4,h5⟩:=hf.blk g i x' h1 h2;obtain⟨l,h6,h7⟩:=hH.blk g i x h4 (h5.live h2);exact⟨l,h6,h5.rep hx hT h7⟩
 ·intro g i g' i' l l' β a b c d e f
  exact hH.inj g i g' i' l l' β (klive g i a).2 (klive g' i' b).2 c d e f
 ·intro g i l β a b c
  obtain⟨a1,a2⟩:=klive g i a;unfold Mem.freeze;rw[if_neg]
  ·exact hH.out g i l β a2 b c
  ·rintro⟨g',i',l',p,q,r,s⟩
   obtain⟨rfl,rfl⟩:=hH.inj g i g' i' l l' β a2 q b r c s;rw[a1] at p
   cases p
 ·intro g i l h
  have:=hH.dom g i l h;exact⟨hf.dom g i this.1,this.2⟩
 ·intro β o h
  unfold Mem.freeze at h;split at h
  ·exact h
  ·exact hM β o h
 ·intro β o h
  unfold Mem.freeze at h;split at h
  ·rename_i e
   obtain⟨g,i,l,a,b,c,d⟩:=e;exact .inr (.inr ⟨g,i,l,b,c,d⟩)
  ·exact .inl h
 ·intro g i l β a b c
  exact .inl ⟨g,i,l,(klive g i a).2,b,c⟩
theorem Sub.frz {k N:Nat} {fr fr':Fr} {H H':Heap} (S:Nat→Nat→Bool) (hf:kL H S H') (h:∀ x∈fr',dR (FzT H S) (fr.get x.1) x.2):Sub k N fr H fr' H':=by
 intro M J tmps w hF hH hM;obtain⟨h1,h2,h3⟩:=aS.frz (k:=k) hH hM hf;exact⟨_,J,h1,hF.cong h2 h3 h⟩
theorem eO.frz {k:Nat} {H H':Heap} {a b:AV} (S:Nat→Nat→Bool) (hf:kL H S H') (h:dR (FzT H S) a b):eO k H a H' b:=by
 intro M J v w hv hH hM;obtain⟨h1,h2,h3⟩:=aS.frz (k:=k) hH hM hf;exact⟨_,J,h1,h.rep h2 h3 hv⟩
end Go.Av
