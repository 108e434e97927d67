import Derived.Test.YtkjoolaahocgdaaGreatGAvL2
namespace Go.Av
inductive Pq
 | nil
 | take (i:Nat) (p:Pq)
 | pure (i:Nat) (p:Pq)
 | only (i:Nat) (p:Pq)
 | alt (i:Nat) (p:Pq) (q:Pq)
 | no
def frC (cl:List Nat) (fs:List Nat):List Nat→List Nat→Bool
 | _,[]=>true
 | pre,x::r=>(fs.any (Nat.beq x) || pre.any fun a=>bef cl a x) && frC cl fs (pre++[x]) r
theorem BR {cl fs:List Nat}:∀ {A pre:List Nat} {x:Nat} {B:List Nat},frC cl fs pre (A++x::B)=true→x∈fs∨∃ a∈pre++A,bef cl a x=true
 | [],pre,x,B,h=>by
  simp only[List.nil_append,frC,Bool.and_eq_true,Bool.or_eq_true,List.any_eq_true] at h
  rcases h.1 with⟨a,ha,hb⟩ | ⟨a,ha,hb⟩
  ·exact .inl (by rw[Nat.eq_of_beq_eq_true hb]; exact ha)
  ·exact .inr ⟨a,by simpa using ha,hb⟩
 | y::A,pre,x,B,h=>by
  simp only[List.cons_append,frC,Bool.and_eq_true] at h
  rcases BR h.2 with h | ⟨a,ha,hb⟩
  ·exact .inl h
  ·exact .inr ⟨a,by simpa using ha,hb⟩
def tQ (cl:List Nat) (zs:List IOper):Pq→List Nat→List Nat→Bool
 | .nil,_,rem=>rem.isEmpty
 | .take i pl,_,rem=>match lI i rem,zs[i]? with
  | some (A,B),some x=>rV x && (A.all (fun j=>!bef cl i j && gB zs x j) && (B.all (fun j=>bef cl i j || gB zs x j) && tQ cl zs pl [] (A++B)))
  | _,_=>false
 | .pure i pl,_,rem=>match lI i rem,zs[i]? with
  | some (A,B),some x=>A.all (fun j=>!bef cl i j && gB zs x j) && (B.all (fun j=>bef cl i j || gB zs x j) && tQ cl zs pl [] (A++B))
  | _,_=>false
 | .only i pl,_,rem=>match rem with
  | a::B=>Nat.beq a i && (B.all (fun j=>bef cl i j) && tQ cl zs pl [] B)
  | []=>false
 | .alt i p q,fs,rem=>match lI i rem with
  | some (A,B)=>noB i A && (noB i B && (tQ cl zs p [] (A++B) && tQ cl zs q (i::fs) rem))
  | none=>false
 | .no,fs,rem=>frC cl fs [] rem && !rem.isEmpty
def LP3 (P:Program) (cl:List Nat) (zs:List IOper):Pq→List (Nat×List (Nat×Nat))→Fr→Heap→(Fr→Heap→Prop)→Prop
 | .nil,_,fr,H,K=>K fr H
 | .take i pl,pend,fr,H,K=>∃ x B,zs[i]?=some x∧(∀ q∈rdX fr x,q∈B)∧RT P 0 [(x,[])] fr H fun fr' H'=>LP3 P cl zs pl (HC i B pend) fr' H' K
 | .pure i pl,pend,fr,H,K=>∃ x f args v,zs[i]?=some x∧x.act=.call f args∧gok fr x.guard=some true∧aD P f (aX fr args) v∧LP3 P cl zs pl pend (fr.put x.dst v) H K
 | .only i pl,pend,fr,H,K=>∃ x,zs[i]?=some x∧RT P 0 [(x,cE cl pend i)] fr H fun fr' H'=>LP3 P cl zs pl pend fr' H' K
 | .alt i p q,pend,fr,H,K=>(∃ x,zs[i]?=some x∧RT P 0 [(x,cE cl pend i)] fr H fun fr' H'=>LP3 P cl zs p pend fr' H' K)∧LP3 P cl zs q pend fr H K
 | .no,_,_,_,_=>True
theorem RT.insP {P:Program} {x:IOper} {px:List (Nat×Nat)} {v:AV} {l2:List (IOper×List (Nat×Nat))} {f:FuncId} {args:List Operand} (hxa:x.act=.call f args):∀(l1:List (IOper×List (Nat×Nat))) {fr:Fr} {H:Heap} {K:Fr→Heap→Prop},
  RT P 0 (l1++l2) (fr.put x.dst v) H K→gok fr x.guard=some true→aD P f (aX fr args) v→(∀ a∈l1,uJ x a.1=true)→RT P 0 (l1++(x,px)::l2) fr H (Kc K)
 | [],fr,H,K,h,hg,hp,_=>
  .call (R:=fun res H'=>res=v∧H'=H) (Nat.zero_le _) hg hxa (aQ.ofPure hp H ⟨rfl,rfl⟩) (fun _ _ h=>by rw[h.2]; exact bD.refl _ _) fun _ _ hr=>by rw[hr.1,hr.2]; exact h.mono fun _ _=>Kc.of
 | (y,py)::l1,fr,H,K,h,hgx,hpx,hl=>by
  have hap:=hl _ (List.mem_cons_self ..)
  simp only[uJ,Bool.and_eq_true] at hap
  obtain⟨e1,e2,e3⟩:=hap
  have hl':=fun a ha=>hl a (List.mem_cons_of_mem _ ha)
  obtain⟨ha,hgk⟩:=g9 (x:=y) (fr:=fr) (fr2:=fr.put x.dst v) (mV e1 fr v)
  have next:∀(u:AV) (H':Heap),RT P 0 (l1++l2) ((fr.put x.dst v).put y.dst u) H' K→RT P 0 (l1++(x,px)::l2) (fr.put y.dst u) H' (Kc K):=fun u H' h=>by
   obtain⟨hb,hgb⟩:=g9 (x:=x) (fr:=fr) (fr2:=fr.put y.dst u) (mV e2 fr u)
   have h1:=h.feq (x4 e3 v u)
   have hav:aX (fr.put y.dst u) args=aX fr args:=List.map_congr_left fun z hz=>hb z (by rw[hxa]; exact hz)
   have h2:=RT.insP (px:=px) hxa l1 h1 (by rw[hgb,hgx]) (by rw[hav]; exact hpx) hl'
   exact h2.mono fun _ _=>Kc.kc
  cases h with
  | op hg hx hs hp h=>
   refine .op (by rw[← hgk,hg]) hx ?_ hp (next _ _ h)
   rw[← jK fun y hy=>ha y (by rw[hx]; exact hy)]
   exact hs
  | skip hg h=>exact .skip (by rw[← hgk,hg]) (next _ _ h)
  | @call _ _ _ _ _ _ f args R hk hg hx hc hp h=>
   have hav:aX (fr.put x.dst v) args=aX fr args:=List.map_congr_left fun y hy=>ha y (by rw[hx]; exact hy)
   exact .call hk (by rw[← hgk,hg]) hx (by rw[← hav]; exact hc) hp fun res H' hr=>next _ _ (h res H' hr)
  | @callV _ _ _ _ _ _ f g fs cs args R hk hg hx hf hc hp h=>
   have hav:aX (fr.put x.dst v) args=aX fr args:=List.map_congr_left fun y hy=>ha y (by rw[hx]; exact List.mem_cons_of_mem _ hy)
   exact .callV hk (by rw[← hgk,hg]) hx (by rw[← ha f (by rw[hx]; exact List.mem_cons_self ..)]; exact hf) (by rw[← hav]; exact hc) hp fun res H' hr=>next _ _ (h res H' hr)
theorem LP3.sound {P:Program} {cl:List Nat} {zs:List IOper}:∀(pl:Pq) (fs rem l:List Nat) (pend:List (Nat×List (Nat×Nat))) {fr:Fr} {H:Heap} {K:Fr→Heap→Prop},tQ cl zs pl fs rem=true→cX (fun a b=>¬ bef cl a b=true) rem l →
  (∀ i l',l=i::l'→i∉fs)→LP3 P cl zs pl pend fr H K→RT P 0 (l.map (iH cl zs pend)) fr H (Kc K)
 | .nil,fs,rem,l,pend,fr,H,K,hok,hs,_,h=>by
  have e:rem=[]:=by cases rem with | nil=>rfl | cons=>cases hok
  rw[hs.nil_inv e]
  exact .nil (.of h)
 | .no,fs,rem,l,pend,fr,H,K,hok,hs,hl,h=>by
  simp only[tQ,Bool.and_eq_true] at hok
  obtain⟨hf,he⟩:=hok
  cases hs with
  | nil=>cases he
  | cons A0 z B0 l hA hs=>
   rcases BR hf with h | ⟨a,ha,hb⟩
   ·exact absurd h (hl z l rfl)
   ·exact absurd hb (hA a (by simpa using ha))
 | .alt i p q,fs,rem,l,pend,fr,H,K,hok,hs,hl,h=>by
  simp only[tQ] at hok
  split at hok
  ·rename_i A B e1
   simp only[Bool.and_eq_true] at hok
   obtain⟨a1,a2,a3,a4⟩:=hok
   have s1:=eS e1
   obtain⟨⟨x,hx,hi⟩,h2⟩:=h
   by_cases hz:∃ l',l=i::l'
   ·obtain⟨l',rfl⟩:=hz
    generalize hl0:i::l'=l0 at hs
    cases hs with
    | nil=>cases hl0
    | cons A0 z B0 l hA hs=>
     injection hl0 with e2 e3
     subst e2; subst e3
     obtain⟨rfl,rfl⟩:=sL s1 (lT a1) (lT a2)
     rw[List.map_cons,dU hx]
     exact RT.cons (hi.mono fun fr' H' h=>LP3.sound p [] _ l' pend a3 hs (fun _ _ _ h=>by cases h) h)
   ·refine LP3.sound q (i::fs) rem l pend a4 hs (fun j l' e hm=>?_) h2
    rcases List.mem_cons.1 hm with rfl | hm
    ·exact hz ⟨l',e⟩
    ·exact hl j l' e hm
  ·cases hok
 | .only i pl,fs,rem,l,pend,fr,H,K,hok,hs,_,h=>by
  cases rem with
  | nil=>cases hok
  | cons a B=>
   simp only[tQ,Bool.and_eq_true] at hok
   obtain⟨e,hB,hok⟩:=hok
   have:=Nat.eq_of_beq_eq_true e
   subst this
   obtain⟨l1,l2,q1,q2,q3⟩:=hs.pull [] a B rfl
   have e1:l1=[]:=by
    cases l1 with
    | nil=>rfl
    | cons j l1=>
     rcases q3 j (List.mem_cons_self ..) with h | ⟨h,h'⟩
     ·cases h
     ·exact absurd (List.all_eq_true.1 hB j h) h'
   subst e1
   subst q1
   obtain⟨x,hx,h⟩:=h
   rw[List.nil_append,List.map_cons,dU hx]
   exact RT.cons (h.mono fun fr' H' h=>LP3.sound pl [] B l2 pend hok q2 (fun _ _ _ h=>by cases h) h)
 | .pure i pl,fs,rem,l,pend,fr,H,K,hok,hs,_,h=>by
  simp only[tQ] at hok
  split at hok
  ·rename_i A B x e1 e2
   simp only[Bool.and_eq_true] at hok
   obtain⟨hA,hB,hok⟩:=hok
   have e:=eS e1
   obtain⟨l1,l2,q1,q2,q3⟩:=hs.pull A i B e
   obtain⟨x',f,args,v,hx,hxa,hg,hp,h⟩:=h
   rw[e2] at hx
   injection hx with hx
   subst hx
   subst q1
   have hrt:=LP3.sound pl [] (A++B) (l1++l2) pend hok q2 (fun _ _ _ h=>by cases h) h
   rw[List.map_append] at hrt
   rw[List.map_append,List.map_cons,dU e2]
   refine(RT.insP (px:=cE cl pend i) hxa _ hrt hg hp fun a ha=>?_).mono fun _ _=>Kc.kc
   obtain⟨j,hj,rfl⟩:=List.mem_map.1 ha
   have p2:gB zs x j=true:=by
    rcases q3 j hj with h | ⟨h,h'⟩
    ·have:=List.all_eq_true.1 hA j h
     simp only[Bool.and_eq_true] at this
     exact this.2
    ·have:=List.all_eq_true.1 hB j h
     simp only[Bool.or_eq_true] at this
     exact this.resolve_left h'
   unfold gB at p2
   split at p2
   ·rename_i y hy
    rw[dU hy]
    exact p2
   ·cases p2
  ·cases hok
 | .take i pl,fs,rem,l,pend,fr,H,K,hok,hs,_,h=>by
  simp only[tQ] at hok
  split at hok
  ·rename_i A B x e1 e2
   simp only[Bool.and_eq_true] at hok
   obtain⟨hq,hA,hB,hok⟩:=hok
   have e:=eS e1
   obtain⟨l1,l2,q1,q2,q3⟩:=hs.pull A i B e
   obtain⟨x',C,hx,hC,h⟩:=h
   rw[e2] at hx
   injection hx with hx
   subst hx
   subst q1
   rw[List.map_append,List.map_cons,dU e2]
   have hap:∀ j∈l1,¬ bef cl i j=true∧gB zs x j=true:=fun j hj=>by
    rcases q3 j hj with h | ⟨h,h'⟩
    ·have:=List.all_eq_true.1 hA j h
     simp only[Bool.and_eq_true,Bool.not_eq_true'] at this
     exact⟨by rw[this.1]; simp,this.2⟩
    ·have:=List.all_eq_true.1 hB j h
     simp only[Bool.or_eq_true] at this
     exact⟨h',this.resolve_left h'⟩
   have key:∀(pend':List (Nat×List (Nat×Nat))),(∀ j,∀ q∈cE cl pend j,q∈cE cl pend' j)→(∀ j,¬ bef cl i j=true→∀ q∈C,q∈cE cl pend' j)→∀(v:AV),tV x fr H v C→LP3 P cl zs pl pend' (fr.put x.dst v) H K →
     RT P 0 (l1.map (iH cl zs pend)++(x,cE cl pend i)::l2.map (iH cl zs pend)) fr H (Kc K):=by
    intro pend' h1 h2 v ht h
    have hrt:=LP3.sound pl [] (A++B) (l1++l2) pend' hok q2 (fun _ _ _ h=>by cases h) h
    rw[List.map_append] at hrt
    have hins:=RT.insert (px:=cE cl pend i) (B:=C) (l1.map (iH cl zs pend')) hrt ht fun a ha=>by
     obtain⟨j,hj,rfl⟩:=List.mem_map.1 ha
     obtain⟨p1,p2⟩:=hap j hj
     unfold gB at p2
     split at p2
     ·rename_i y hy
      rw[dU hy]
      exact⟨p2,h2 j p1⟩
     ·cases p2
    have hdrop:∀(L L':List (IOper×List (Nat×Nat))),iI L' L→∀ {fr:Fr} {H:Heap} {K:Fr→Heap→Prop},RT P 0 L fr H K→RT P 0 L' fr H K:=by
     intro L L' hf
     induction hf with
     | nil=>exact fun h=>h
     | @cons a b L' L hab _ ih=>
      obtain⟨a1,a2⟩:=a
      obtain⟨b1,b2⟩:=b
      obtain⟨rfl,hsub⟩:=hab
      have kk:∀ {H H':Heap},bD b2 H H'→bD a2 H H':=fun {H H'} h=>by
       have hm:=h.mem
       clear h
       induction a2 with
       | nil=>trivial
       | cons q r ihr=>exact⟨hm q (hsub q (List.mem_cons_self ..)),ihr fun p hp=>hsub p (List.mem_cons_of_mem _ hp)⟩
      intro fr H K h
      cases h with
      | op hg hx hs hp h=>exact .op hg hx hs (kk hp) (ih h)
      | skip hg h=>exact .skip hg (ih h)
      | call hk hg hx hc hp h=>exact .call hk hg hx hc (fun res H' hr=>kk (hp res H' hr)) fun res H' hr=>ih (h res H' hr)
      | callV hk hg hx hf hc hp h=>exact .callV hk hg hx hf hc (fun res H' hr=>kk (hp res H' hr)) fun res H' hr=>ih (h res H' hr)
    have fm:∀ L:List Nat,iI (L.map (iH cl zs pend)) (L.map (iH cl zs pend')):=fun L=>by
     induction L with
     | nil=>exact .nil
     | cons j L ih=>exact .cons ⟨rfl,h1 j⟩ ih
    have fa:∀ {a b c d:List (IOper×List (Nat×Nat))},iI a b→iI c d→iI (a++c) (b++d):=fun {a b c d} h1 h2=>by
     induction h1 with
     | nil=>exact h2
     | cons h _ ih=>exact .cons h ih
    exact(hdrop _ _ (fa (fm l1) (.cons ⟨rfl,fun q hq=>hq⟩ (fm l2))) hins).mono fun _ _=>Kc.kc
   have fin:∀ {fr':Fr} {H':Heap} {K':Fr→Heap→Prop},RT P 0 [] fr' H' K'→K' fr' H':=fun h=>by
    cases h with
    | nil h=>exact h
   have mk:∀(v:AV),tV x fr H v C→LP3 P cl zs pl (HC i C pend) (fr.put x.dst v) H K→RT P 0 (l1.map (iH cl zs pend)++(x,cE cl pend i)::l2.map (iH cl zs pend)) fr H (Kc K):=by
    intro v ht h
    cases C with
    | nil=>exact key pend (fun _ _ h=>h) (fun _ _ q hq=>by cases hq) v ht h
    | cons c C=>
     refine key ((i,c::C)::pend) (fun j q hq=>?_) (fun j hj q hq=>?_) v ht h
     ·simp only[cE]
      split
      ·exact hq
      ·exact List.mem_append_right _ hq
     ·simp only[cE]
      split
      ·rename_i hb; exact absurd hb hj
      ·exact List.mem_append_left _ hq
   unfold rV at hq
   cases h with
   | @op _ _ _ _ _ _ o v H' hg hxa hst hp h=>
    rw[hxa] at hq
    obtain⟨rfl,hst'⟩:=rT (g':=H.length) (i':=0) (oJ hq _ _ _) hst
    refine mk v (.inl ⟨hg,o,hxa,hq,hst',fun q hq'=>hC q ?_⟩) (fin h)
    unfold rdX
    rw[hxa]
    exact hq'
   | skip hg h=>exact mk _ (.inr ⟨hg,rfl⟩) (fin h)
   | call hk hg hxa=>rw[hxa] at hq; cases hq
   | callV hk hg hxa=>rw[hxa] at hq; cases hq
  ·cases hok
theorem AWP.lin3 {P:Program} {N:Nat} {fr:Fr} {H:Heap} {Q:Exit→Fr→Heap→Prop} {zs:List IOper} {af:List (List Nat)} (pl:Pq) (hp:P.follows .mixedOrders=true)
  (hlow:yP 0 af=true) (hok:tQ (clo af) zs pl [] (List.range zs.length)=true) (h:LP3 P (clo af) zs pl [] fr H (Q .normal)):AWP P N 0 (.draw zs af) Q fr H:=by
 intro c0 hc cx M J tmps w hcx hF hH hM
 cases c0 with
 | region id ops draw=>
  simp only[cN] at hc
  split at hc
  ·rename_i us hus
   cases draw with
   | false=>cases hc
   | true=>
    injection hc with hc
    injection hc with hc1' hc2'
    subst hc1'; subst hc2'
    refine wpIn_region_draw fun t=>iS hcx ?_
    rw[hp]
    have hsch:Region.schedule true ops t=Region.linearise .any ops t:=by simp[Region.schedule]
    rw[hsch]
    obtain⟨hlen,hgx⟩:=iV _ _ hus
    have hsz:us.length=ops.size:=by rw[hlen]; simp
    have haf:∀ j l,(ops.toList.map d8)[j]?=some l→cF ops j=l:=by
     intro j l hj
     rw[List.getElem?_map,Array.getElem?_toList] at hj
     unfold cF
     cases ho:ops[j]? with
     | none=>rw[ho] at hj; cases hj
     | some o=>rw[ho] at hj; simpa using hj
    have hs:=eM ops (fun a b=>¬ bef (clo (ops.toList.map d8)) a b=true) (fun j kk hk=>by
     have hl:(ops.toList.map d8)[j]?=some (cF ops j):=by
      rw[List.getElem?_map,Array.getElem?_toList]
      unfold cF at hk ⊢
      cases ho:ops[j]? with
      | none=>rw[ho] at hk; cases hk
      | some o=>rfl
     have:=iR _ 0 hlow j _ hl kk hk
     omega) (fun a b hab hb=>by
     by_cases h:bef (clo (ops.toList.map d8)) a b=true
     ·exact .inl (A4 haf h)
     ·exact .inr h) t
    rw[hsz] at hok
    have hrt:=LP3.sound pl [] _ _ [] hok hs (fun _ _ _ h=>by cases h) h
    have hmem:∀(all l:List Nat),cX (fun a b=>¬ bef (clo (ops.toList.map d8)) a b=true) all l→∀ j∈l,j∈all:=by
     intro all l hs
     induction hs with
     | nil=>exact fun j hj=>hj
     | cons A i B l _ _ ih=>
      intro j hj
      rcases List.mem_cons.1 hj with rfl | hj
      ·simp
      ·have:=ih j hj
       simp at this ⊢
       rcases this with h | h<;>simp[h]
    have hmat:∀ l:List Nat,(∀ j∈l,j < ops.size)→gL P N ops l ((l.map (iH (clo (ops.toList.map d8)) us [])).map (·.1)):=by
     intro l
     induction l with
     | nil=>exact fun _=>trivial
     | cons j l ih=>
      intro hl
      have hj:=hl j (List.mem_cons_self ..)
      have ho:ops[j]?=some ops[j]:=Array.getElem?_eq_getElem hj
      obtain⟨x,e1,e2⟩:=hgx j ops[j] (by rw[Array.getElem?_toList]; exact ho)
      refine⟨⟨ops[j],ho,?_⟩,ih fun q hq=>hl q (List.mem_cons_of_mem _ hq)⟩
      rw[dU e1]
      exact e2
    refine hrt.reg (N:=N) ops _ (hmat _ fun j hj=>List.mem_range.1 (hmem _ _ hs j hj)) M J tmps { w with drawn:=w.drawn+1 } hF hH hM _ fun a' w' hpost=>⟨rfl,?_⟩
    obtain⟨M2,J2,fr2,H2,q1,q2,q3,fr3,q4,q5⟩:=hpost
    exact⟨M2,J2,fr3,H2,⟨q1.m,q1.j,q1.hrep,q1.mrep,q1.os,(by first | exact q1.tape | exact⟨q1.tape.1,Nat.le_trans (Nat.le_succ _) q1.tape.2⟩),q1.output,q1.size,q1.frame,q1.fresh,q1.live,q1.bk⟩,⟨q2.1,fun t=>by rw[q4]; exact q2.2 t⟩,q3,q5⟩
  ·cases hc
 | _=>simp only[cN] at hc; (try split at hc)<;>(try cases hc)<;>(try simp at hc)
section
variable {P:Program} {fr:Fr} {H:Heap} {K:Fr→Heap→Prop} {cl:List Nat} {zs:List IOper} {i:Nat} {x:IOper} {p q:Pq} {pend:List (Nat×List (Nat×Nat))}
theorem LP3.z (h:K fr H):LP3 P cl zs .nil pend fr H K:=h
theorem LP3.t0 (h:RT P 0 [(x,[])] fr H fun fr' H'=>LP3 P cl zs p pend fr' H' K) (hx:zs[i]?=some x:=by rfl) (hB:rdX fr x=[]:=by rfl):LP3 P cl zs (.take i p) pend fr H K:=⟨x,[],hx,fun q hq=>by rw[hB] at hq; exact hq,h⟩
theorem LP3.t1 {g b:Nat} (h:RT P 0 [(x,[])] fr H fun fr' H'=>LP3 P cl zs p ((i,[(g,b)])::pend) fr' H' K) (hx:zs[i]?=some x:=by rfl) (hB:rdX fr x=[(g,b)]:=by rfl):LP3 P cl zs (.take i p) pend fr H K:=⟨x,[(g,b)],hx,fun q hq=>by rw[hB] at hq; exact hq,h⟩
theorem LP3.c (h:RT P 0 [(x,cE cl pend i)] fr H fun fr' H'=>LP3 P cl zs p pend fr' H' K) (hx:zs[i]?=some x:=by rfl):LP3 P cl zs (.only i p) pend fr H K:=⟨x,hx,h⟩
theorem LP3.pu {d:Option Nat} {f:FuncId} {args:List Operand} {v:AV} (h:LP3 P cl zs p pend (fr.put d v) H K) (hx:zs[i]?=some ⟨d,none,.call f args⟩:=by rfl) (hp:aD P f (aX fr args) v:=by assumption):LP3 P cl zs (.pure i p) pend fr H K:=⟨_,f,args,v,hx,rfl,rfl,hp,h⟩
theorem LP3.a (h1:RT P 0 [(x,cE cl pend i)] fr H fun fr' H'=>LP3 P cl zs p pend fr' H' K) (h2:LP3 P cl zs q pend fr H K) (hx:zs[i]?=some x:=by rfl):LP3 P cl zs (.alt i p q) pend fr H K:=⟨⟨x,hx,h1⟩,h2⟩
theorem LP3.n:LP3 P cl zs .no pend fr H K:=trivial
end
theorem aN {G G':Prop} (h:G') (t:xK G'→G:=by intro hw9; (repeat (first | refine LP3.t0 ?_ | refine LP3.t1 ?_ | refine LP3.pu ?_ | refine LP3.c ?_ | refine RT.nil ?_ | refine LP3.z ?_ | refine tv1 ?_ | refine tv2 ?_ | refine tv5 ?_ | refine tv6 ?_ | refine tv9 ?_ | refine tv10 ?_ | refine tr1 ?_ | refine tr2 ?_ | refine tr3 ?_ | refine tr4 ?_ | refine tr5 ?_ | refine tr6 ?_ | refine tr7 ?_ | refine tr8 ?_ | refine tr9 ?_ | refine tr10 ?_)); exact hw9.out):G:=t ⟨h⟩
end Go.Av
