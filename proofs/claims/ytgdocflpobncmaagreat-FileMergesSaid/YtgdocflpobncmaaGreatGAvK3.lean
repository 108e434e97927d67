import Derived.Test.YtgdocflpobncmaaGreatGAvK
namespace Go.Av
theorem Bef.trans {af:Nat→List Nat} {a b c:Nat} (h1:Bef af a b) (h2:Bef af b c):Bef af a c:=by
 induction h2 with
 | base h=>exact .step h h1
 | step h _ ih=>exact .step h ih
theorem bU.mid {I:Nat→Nat→Prop} {n:Nat} {B:List Nat} {all l:List Nat} (h:bU I all l):∀ A:List Nat,all=A++n::B→(∀ a∈A,¬ I a n)→(∀ a∈A,∀ b∈B,¬ I a b)→(∀ b∈B,¬ I n b) →
  ∃ l1 l2,l=l1++n::l2∧bU I A l1∧bU I B l2:=by
 induction h with
 | nil=>intro A e; simp at e
 | cons A0 i B0 l h hs ih=>
  intro A e h1 h2 h3
  rcases List.append_eq_append_iff.1 e with⟨A2,e1,e2⟩ | ⟨A2,e1,e2⟩
  ·cases A2 with
   | nil=>
    simp only[List.append_nil] at e1;subst e1;simp only[List.nil_append,List.cons.injEq] at e2;obtain⟨rfl,rfl⟩:=e2
    cases A with
    | nil=>exact⟨[],l,rfl,.nil,hs⟩
    | cons a A=>exact absurd (h a (List.mem_cons_self ..)) (h1 a (List.mem_cons_self ..))
   | cons x A2=>
    simp only[List.cons_append,List.cons.injEq] at e2;obtain⟨rfl,rfl⟩:=e2;subst e1
    obtain⟨l1,l2,q1,q2,q3⟩:=ih (A0++A2) (by simp) (fun a ha=>h1 a ((List.mem_append.1 ha).elim (fun h=>List.mem_append_left _ h) fun h=>List.mem_append_right _ (mCm _ h)))
     (fun a ha=>h2 a ((List.mem_append.1 ha).elim (fun h=>List.mem_append_left _ h) fun h=>List.mem_append_right _ (mCm _ h))) h3
    exact⟨i::l1,l2,by rw[q1]; rfl,.cons _ _ _ _ h q2,q3⟩
  ·cases A2 with
   | nil=>
    simp only[List.append_nil] at e1;subst e1;simp only[List.nil_append,List.cons.injEq] at e2;obtain⟨rfl,rfl⟩:=e2
    cases A0 with
    | nil=>exact⟨[],l,rfl,.nil,hs⟩
    | cons a A0=>exact absurd (h a (List.mem_cons_self ..)) (h1 a (List.mem_cons_self ..))
   | cons x A2=>
    simp only[List.cons_append,List.cons.injEq] at e2;obtain⟨rfl,rfl⟩:=e2;subst e1;exact absurd (h n (List.mem_append_right _ (List.mem_cons_self ..))) (h3 i (List.mem_append_right _ (List.mem_cons_self ..)))
theorem bU.weaken {I I':Nat→Nat→Prop} {all l:List Nat} (h:bU I all l):(∀ a b,a∈all→b∈all→I a b→I' a b)→bU I' all l:=by
 induction h with
 | nil=>exact fun _=>.nil
 | cons A i B l h hs ih=>
  intro hw;refine .cons A i B l (fun a ha=>hw a i (List.mem_append_left _ ha) (List.mem_append_right _ (List.mem_cons_self ..)) (h a ha)) (ih fun a b ha hb hi=>hw a b ?_ ?_ hi)
  ·exact(List.mem_append.1 ha).elim (fun h=>List.mem_append_left _ h) fun h=>List.mem_append_right _ (mCm _ h)
  ·exact(List.mem_append.1 hb).elim (fun h=>List.mem_append_left _ h) fun h=>List.mem_append_right _ (mCm _ h)
theorem aN.dead {M J} {H:Heap} {h:Array Obj} {n:Nat} (hH:aN M J H h):aN M J (H++[List.replicate n .dead]) h∧(∀ g i,aQ (H++[List.replicate n Blk.dead]) g i→aQ H g i)∧∀ j,J H.length j=none:=by
 have hdead:∀ g i x,hget (H++[List.replicate n Blk.dead]) g i=some x→x.live=true→hget H g i=some x:=by
  intro g i x hx hl;rw[dC] at hx;split at hx
  ·rw[List.getElem?_replicate] at hx
   split at hx
   ·injection hx with hx; subst hx; cases hl
   ·cases hx
  ·exact hx
 refine⟨⟨fun g i x hx hl=>hH.blk g i x (hdead g i x hx hl) hl,fun g i g' i' l l' β ⟨x,hx,hl⟩ ⟨y,hy,hl'⟩=>hH.inj g i g' i' l l' β ⟨x,hdead _ _ _ hx hl,hl⟩ ⟨y,hdead _ _ _ hy hl',hl'⟩,
  fun g i l β ⟨x,hx,hl⟩=>hH.out g i l β ⟨x,hdead _ _ _ hx hl,hl⟩,fun g i l hJ=>?_⟩,fun g i ⟨x,hx,hl⟩=>⟨x,hdead g i x hx hl,hl⟩,fun j=>?_⟩
 ·have:=hH.dom g i l hJ
  refine⟨?_,this.2⟩;rw[dC];split
  ·rename_i e
   subst e;have h2:=this.1;simp[hget] at h2
  ·exact this.1
 ·cases e:J H.length j with
  | none=>rfl
  | some l=>
   have:=(hH.dom _ _ l e).1;simp[hget] at this
theorem rU {P:Program} {N k:Nat} {ops:Array Oper} {s:Nat} {xs:List IOper} {fr:Fr} {H:Heap} {R:List bD} {fr':Fr} {H':Heap} (hx:∀(j:Nat) x,xs[j]?=some x→∃ o,ops[s+j]?=some o∧jG P N ops o=some x)
  (hrun:eH P H.length 0 xs fr (H++[List.replicate xs.length .dead]) R fr' H') {I:Nat→Nat→Prop} (hI:∀ a b,I a b→∃ ra rb,R[a - s]?=some ra∧R[b - s]?=some rb∧fA ra rb=true)
  {l:List Nat} (hs:bU I (List.range' s xs.length) l) {M J tmps} {w:World} (hF:aU N M J fr tmps) (hH:aN M J H w.heap) (hM:a8 M w.heap)
  (Q:Exit→Act→World→Prop) (hQ:∀ a' w',B9 k N M J H w (fun fr H=>fr=fr'∧H=H') a' w'→Q Exit.normal a' w'):wpOps P ops Q l ⟨tmps,[]⟩ w:=by
 obtain⟨hrx,hrid⟩:=hrun.recs
 have hRlen:R.length=xs.length:=by rw[← hrx]; simp
 let R':Nat→bD:=fun j=>R.getD (j - s) ⟨⟨none,none,.call 0 []⟩,(0,0),.undef,[],[]⟩
 have hR':∀ j,j < xs.length→R[j]?=some (R' (s+j)):=by
  intro j hj
  have:j < R.length:=by omega
  simp[R',List.getD,this]
 have hs':=hs.to (R:=R') fun a b hab=>by
  obtain⟨ra,rb,h1,h2,h3⟩:=hI a b hab;simp only[R',List.getD,h1,h2,Option.getD_some];exact h3
 have hrem:((List.range' s xs.length).map fun j=>(j,R' j)).map (·.2)=R:=by
  apply List.ext_getElem?;intro j;rw[List.map_map,List.getElem?_map]
  by_cases hj:j < xs.length
  ·rw[hR' j hj,List.getElem?_range' hj]
   simp
  ·have h1:(List.range' s xs.length)[j]?=none:=List.getElem?_eq_none (by rw[List.length_range']; omega)
   have h2:R[j]?=none:=List.getElem?_eq_none (by omega);rw[h1,h2];rfl
 obtain⟨hH0,hlive,hJ0⟩:=hH.dead (n:=xs.length)
 have hmem:∀ p∈(List.range' s xs.length).map (fun j=>(j,R' j)),∃ j,j < xs.length∧p=(s+j,R' (s+j)):=by
  intro p hp;obtain⟨j,hj,rfl⟩:=List.mem_map.1 hp;have:=List.mem_range'_1.1 hj;exact⟨j - s,by omega,by rw[show s+(j - s)=j by omega]⟩
 have hids:∀ j,j < xs.length→(R' (s+j)).id=(H.length,j):=fun j hj=>by rw[hrid j _ (hR' j hj),Nat.zero_add]
 refine vK (k:=k) (N:=N) (t:=(fr',H')) hs' (fun p hp=>?_) ?_ (fr,H++[List.replicate xs.length .dead]) M J tmps w hF hH0 hM (by rw[hrem]; exact hrun.run) (fun p hp=>?_) Q fun a' w' hp=>hQ a' w' ?_
 ·obtain⟨j,hj,rfl⟩:=hmem p hp
  have h3:xs[j]?=some (R' (s+j)).x:=by rw[← hrx,List.getElem?_map,hR' j hj]; rfl
  exact hx j _ h3
 ·rw[List.map_map]
  have he:(List.range' s xs.length).map ((fun x:Nat×bD=>x.2.id) ∘ fun j=>(j,R' j))=(List.range' s xs.length).map fun j=>(H.length,j - s):=
   List.map_congr_left fun j hj=>by
    have:=List.mem_range'_1.1 hj;show(R' j).id=_;rw[show j=s+(j - s) by omega,hids _ (by omega)];simp
  rw[he];exact List.Pairwise.map _ (R:=fun a b=>s≤a∧a < b) (fun a b hab e=>by injection e with e1 e2; omega) (List.Pairwise.imp_of_mem (fun {a b} ha _ hab=>⟨(List.mem_range'_1.1 ha).1,hab⟩) List.pairwise_lt_range')
 ·obtain⟨j,hj,rfl⟩:=hmem p hp
  rw[hids j hj];refine⟨?_,hJ0 j⟩;rw[dC,if_pos rfl,List.getElem?_replicate,if_pos hj];rfl
 ·obtain⟨M2,J2,fr2,H2,q1,q2,q3,q4⟩:=hp
  exact⟨M2,J2,fr2,H2,⟨q1.m,q1.j,q1.hrep,q1.mrep,q1.os,(by first | exact q1.tape | exact⟨q1.tape.1,Nat.le_trans (Nat.le_succ _) q1.tape.2⟩),q1.output,q1.size,fun β o ho hn=>q1.frame β o ho fun g i l hl hJ=>hn g i l (hlive g i hl) hJ,
   fun β o ho=>or2 (q1.fresh β o ho) (fun h=>h) fun h=>or2 h (fun h=>h) fun⟨g,i,l,a,b,c⟩=>⟨g,i,l,hlive g i a,b,c⟩,
   fun g i l β a b c=>or2 (q1.live g i l β a b c) (fun⟨g0,i0,l0,a,b,c⟩=>⟨g0,i0,l0,hlive g0 i0 a,b,c⟩) fun h=>h,q1.bk⟩,q2,q3,q4⟩
def mX (af:List (List Nat)) (s:Nat) (R:List bD):Prop:=
 ∀ a b ra rb,a < b→R[a]?=some ra→R[b]?=some rb→iX af af.length (s+a) (s+b)=true∨fA ra rb=true
theorem AWP.drawMid {P:Program} {N k:Nat} {fr:Fr} {H:Heap} {Q:Exit→Fr→Heap→Prop} {zs xs ys:List IOper} {y:IOper} {af:List (List Nat)} {R1:List bD} {fr1:Fr} {H1:Heap} (hz:zs=xs++y::ys) (hp:P.follows .mixedOrders=true)
  (hlow:qA 0 af=true) (h1:∀ j,j < xs.length→iX af af.length j xs.length=true) (h2:∀ j,j < ys.length→iX af af.length xs.length (xs.length+1+j)=true)
  (hrun:eH P H.length 0 xs fr (H++[List.replicate xs.length .dead]) R1 fr1 H1) (hc1:mX af 0 R1)
  (h:Reg P N k [y] fr1 H1 fun fr2 H2=>∃ R2 fr3 H3,eH P H2.length 0 ys fr2 (H2++[List.replicate ys.length .dead]) R2 fr3 H3∧mX af (xs.length+1) R2∧Q .normal fr3 H3):AWP P N k (.draw zs af) Q fr H:=by
 intro c0 hc cx M J tmps w hcx hF hH hM
 cases c0 with
 | region id ops draw=>
  simp only[bM] at hc;split at hc
  ·rename_i us hus
   cases draw with
   | false=>cases hc
   | true=>
    injection hc with hc
    injection hc with hc1' hc2'
    subst hc1'; subst hc2'
    refine wpIn_region_draw fun t=>iC hcx ?_
    rw[hp]
    have hsch:Region.schedule true ops t=Region.linearise .any ops t:=by simp[Region.schedule]
    rw[hsch];obtain⟨hlen,hgx⟩:=iT _ _ hus
    have hsz:ops.size=xs.length+(ys.length+1):=by
     have e1:us.length=ops.size:=by rw[hlen]; simp
     rw[← e1,hz];simp
    have haf:∀ j l,(ops.toList.map dY)[j]?=some l→bJ ops j=l:=by
     intro j l hj;rw[List.getElem?_map,Array.getElem?_toList] at hj;unfold bJ
     cases ho:ops[j]? with
     | none=>rw[ho] at hj; cases hj
     | some o=>rw[ho] at hj; simpa using hj
    have hafl:(ops.toList.map dY).length=ops.size:=by simp
    have hops:∀(j:Nat) x,us[j]?=some x→∃ o,ops[j]?=some o∧jG P N ops o=some x:=by
     intro j x hj;have hlt:=(gEs.1 hj).1;have ho:ops[j]?=some ops[j]:=Array.getElem?_eq_getElem (by rw[hlen] at hlt; simpa using hlt);obtain⟨x',e1,e2⟩:=hgx j ops[j] (by rw[Array.getElem?_toList]; exact ho);rw[hj] at e1
     injection e1 with e1
     subst e1;exact⟨_,ho,e2⟩
    let I:Nat→Nat→Prop:=fun a b=>(b < xs.length∧a < b∧∃ ra rb,R1[a]?=some ra∧R1[b]?=some rb∧fA ra rb=true)∨(xs.length < a∧a < b∧b < ops.size∧¬ Bef (bJ ops) a b)
    have hs:=eK ops I (fun j kk hk=>by
     have hl:(ops.toList.map dY)[j]?=some (bJ ops j):=by
      rw[List.getElem?_map,Array.getElem?_toList];unfold bJ at hk ⊢
      cases ho:ops[j]? with
      | none=>rw[ho] at hk; cases hk
      | some o=>rfl
     have:=iM _ 0 hlow j _ hl kk hk
     omega) (fun a b hab hb=>by
     obtain⟨hrx1,_⟩:=hrun.recs
     have hRlen1:R1.length=xs.length:=by rw[← hrx1]; simp
     rcases Nat.lt_trichotomy b xs.length with hbx | hbx | hbx
     ·have ea:R1[a]?=some (R1[a]'(by omega)):=gEg (by omega)
      have eb:R1[b]?=some (R1[b]'(by omega)):=gEg (by omega)
      rcases hc1 a b _ _ hab ea eb with h3 | h3
      ·rw[Nat.zero_add,Nat.zero_add] at h3
       exact .inl (cL haf _ _ _ h3)
      ·exact .inr (.inl ⟨hbx,hab,_,_,ea,eb,h3⟩)
     ·subst hbx
      exact .inl (cL haf _ _ _ (h1 a hab))
     ·have hnb:Bef (bJ ops) xs.length b:=by
       have:=h2 (b - (xs.length+1)) (by omega);rw[show xs.length+1+(b - (xs.length+1))=b by omega] at this;exact cL haf _ _ _ this
      rcases Nat.lt_trichotomy a xs.length with hax | hax | hax
      ·exact .inl ((cL haf _ _ _ (h1 a hax)).trans hnb)
      ·subst hax
       exact .inl hnb
      ·by_cases hB:Bef (bJ ops) a b
       ·exact .inl hB
       ·exact .inr (.inr ⟨hax,hab,hb,hB⟩)) t
    have hsplit:List.range ops.size=List.range' 0 xs.length++xs.length::List.range' (xs.length+1) ys.length:=by
     rw[List.range_eq_range',hsz,← List.range'_append_1,Nat.zero_add,List.range'_succ]
    obtain⟨l1,l2,e1,e2,e3⟩:=hs.mid (List.range' 0 xs.length) hsplit
     (fun a ha hi=>by
      have:=List.mem_range'_1.1 ha
      rcases hi with hi | hi
      ·exact absurd hi.1 (Nat.lt_irrefl _)
      ·omega)
     (fun a ha b hb hi=>by
      have:=List.mem_range'_1.1 ha;have:=List.mem_range'_1.1 hb
      rcases hi with hi | hi
      ·omega
      ·omega)
     (fun b hb hi=>by
      have:=List.mem_range'_1.1 hb
      rcases hi with hi | hi
      ·omega
      ·exact absurd hi.1 (Nat.lt_irrefl _))
    rw[e1];refine dO l1 _ _ ?_
    have hget1:∀(j:Nat) x,xs[j]?=some x→∃ o,ops[0+j]?=some o∧jG P N ops o=some x:=by
     intro j x hj;rw[Nat.zero_add];refine hops j x ?_;rw[hz,List.getElem?_append_left (gEs.1 hj).1];exact hj
    have e2':bU (fun a b=>∃ ra rb,R1[a - 0]?=some ra∧R1[b - 0]?=some rb∧fA ra rb=true) (List.range' 0 xs.length) l1:=by
     refine e2.weaken fun a b ha hb hi=>?_
     have h3:=List.mem_range'_1.1 ha
     rcases hi with hi | hi
     ·exact hi.2.2
     ·omega
    refine rU (k:=k) (w:={ w with drawn:=w.drawn+1 }) hget1 hrun (fun a b h=>h) e2' hF hH hM _ fun a' w' hpost=>⟨rfl,?_⟩
    obtain⟨M2,J2,fr2,H2,q1,q2,q3,rfl,rfl⟩:=hpost;obtain⟨t2,d2⟩:=a'
    cases q3
    have hy:us[xs.length]?=some y:=by rw[hz,List.getElem?_append_right (Nat.le_refl _),Nat.sub_self]; rfl
    obtain⟨oy,ho,hcy⟩:=hops _ _ hy
    have hreg:=h ops [xs.length] ⟨⟨oy,ho,hcy⟩,trivial⟩ M2 J2 t2 w' q2 q1.hrep q1.mrep (fun e a w3=>e=.normal∧wpOps P ops (fun e a' w'=>e=.normal∧B9 k N M J H w (Q .normal) a' w') l2 a w3) fun a3 w3 hp3=>⟨rfl,?_⟩
    ·exact dO [xs.length] _ _ hreg
    obtain⟨M3,J3,fr3,H3,r1,r2,r3,R2,fr4,H4,hrun2,hc2,hQ⟩:=hp3;obtain⟨t3,d3⟩:=a3
    cases r3
    obtain⟨hrx2,_⟩:=hrun2.recs
    have hRlen2:R2.length=ys.length:=by rw[← hrx2]; simp
    have hget2:∀(j:Nat) x,ys[j]?=some x→∃ o,ops[xs.length+1+j]?=some o∧jG P N ops o=some x:=by
     intro j x hj;refine hops _ x ?_;rw[hz,List.getElem?_append_right (by omega),show xs.length+1+j - xs.length=j+1 by omega];exact hj
    have e3':bU (fun a b=>∃ ra rb,R2[a - (xs.length+1)]?=some ra∧R2[b - (xs.length+1)]?=some rb∧fA ra rb=true) (List.range' (xs.length+1) ys.length) l2:=by
     refine e3.weaken fun a b ha hb hi=>?_
     have h3:=List.mem_range'_1.1 ha;have h4:=List.mem_range'_1.1 hb
     rcases hi with hi | hi
     ·omega
     ·have ea:R2[a - (xs.length+1)]?=some (R2[a - (xs.length+1)]'(by omega)):=gEg (by omega)
      have eb:R2[b - (xs.length+1)]?=some (R2[b - (xs.length+1)]'(by omega)):=gEg (by omega)
      rcases hc2 (a - (xs.length+1)) (b - (xs.length+1)) _ _ (by omega) ea eb with h5 | h5
      ·rw[show xs.length+1+(a - (xs.length+1))=a by omega,show xs.length+1+(b - (xs.length+1))=b by omega] at h5
       exact absurd (cL haf _ _ _ h5) hi.2.2.2
      ·exact⟨_,_,ea,eb,h5⟩
    refine rU (k:=k) hget2 hrun2 (fun a b h=>h) e3' r2 r1.hrep r1.mrep _ fun a' w4 hpost=>?_
    obtain⟨M5,J5,fr5,H5,s1,s2,s3,rfl,rfl⟩:=hpost;have q:=(q1.trans r1).trans s1;exact⟨rfl,M5,J5,_,_,⟨q.m,q.j,q.hrep,q.mrep,q.os,(by first | exact q.tape | exact⟨q.tape.1,Nat.le_trans (Nat.le_succ _) q.tape.2⟩),q.output,q.size,q.frame,q.fresh,q.live,q.bk⟩,s2,s3,hQ⟩
  ·cases hc
 | _=>simp only[bM] at hc; (try split at hc)<;>(try cases hc)<;>(try simp at hc)
end Go.Av
namespace Go.Av
noncomputable def FT.getK (T:FT):Nat→AV:=
 FT.rec (motive:=fun _=>Nat→AV) (fun _=>.undef)
  (fun v _ _ gl gr n=>Nat.rec (motive:=fun _=>AV) v (fun m _=>Bool.rec (motive:=fun _=>AV) (gr (Nat.div m 2)) (gl (Nat.div m 2)) (Nat.beq (Nat.mod m 2) 0)) n) T
theorem FT.getK_eq (T:FT):∀ n,T.getK n=T.get n:=by
 induction T with
 | leaf=>intro n; cases n<;>rfl
 | node v l r ihl ihr=>
  intro n
  cases n with
  | zero=>rfl
  | succ m=>
   show Bool.rec (motive:=fun _=>AV) (r.getK (Nat.div m 2)) (l.getK (Nat.div m 2)) (Nat.beq (Nat.mod m 2) 0)=match Nat.beq (Nat.mod m 2) 0 with | true=>l.get (Nat.div m 2) | false=>r.get (Nat.div m 2)
   cases Nat.beq (Nat.mod m 2) 0 with
   | true=>exact ihl _
   | false=>exact ihr _
def FT.lO (v:AV) (r:FT):Option FT→Option FT
 | some l=>some (.node v l r)
 | none=>none
def FT.rO (v:AV) (l:FT):Option FT→Option FT
 | some r=>some (.node v l r)
 | none=>none
noncomputable def FT.putK (T:FT):Nat→AV→Option FT:=
 FT.rec (motive:=fun _=>Nat→AV→Option FT) (fun _ _=>none)
  (fun v l r pl pr n x=>Nat.rec (motive:=fun _=>Option FT) (some (.node x l r)) (fun m _=>Bool.rec (motive:=fun _=>Option FT) (FT.rO v l (pr (Nat.div m 2) x)) (FT.lO v r (pl (Nat.div m 2) x)) (Nat.beq (Nat.mod m 2) 0)) n) T
theorem FT.putK_eq (T:FT):∀ n x,T.putK n x=T.put n x:=by
 induction T with
 | leaf=>intro n x; rfl
 | node v l r ihl ihr=>
  intro n x
  cases n with
  | zero=>rfl
  | succ m=>
   show Bool.rec (motive:=fun _=>Option FT) (FT.rO v l (r.putK (Nat.div m 2) x)) (FT.lO v r (l.putK (Nat.div m 2) x)) (Nat.beq (Nat.mod m 2) 0)=_;simp only[FT.put]
   cases Nat.beq (Nat.mod m 2) 0 with
   | true=>
    show FT.lO v r (l.putK (Nat.div m 2) x)=_;rw[ihl];simp only
    cases l.put (Nat.div m 2) x<;>rfl
   | false=>
    show FT.rO v l (r.putK (Nat.div m 2) x)=_;rw[ihr];simp only
    cases r.put (Nat.div m 2) x<;>rfl
noncomputable def FT.evK (T:FT) (x:Operand):AV:=
 match x with
 | .tmp t=>T.getK t
 | .const v=>.sc v
 | .global g=>.sc (.pointer (some ⟨g,0,none⟩))
 | .func f=>.sc (.func (.func f) #[] #[])
theorem AgT.evK {fr:Fr} {T:FT} (h:AgT fr T):Av.ev fr=T.evK:=by
 funext x
 cases x with
 | tmp t=>exact(h t).trans (T.getK_eq t).symm
 | _=>rfl
noncomputable def mapK (T:FT) (l:List Operand):List AV:=List.rec (motive:=fun _=>List AV) [] (fun x _ ih=>T.evK x::ih) l
theorem AgT.mapK {fr:Fr} {T:FT} (h:AgT fr T) (l:List Operand):Av.avals fr l=Av.mapK T l:=by
 unfold Av.avals
 induction l with
 | nil=>rfl
 | cons x l ih=>
  show Av.ev fr x::List.map (Av.ev fr) l=T.evK x::Av.mapK T l;rw[ih,h.evK]
def PA:IOp→Bool
 | .alloc _=>true
 | .box _=>true
 | .buildSlice _ _ _ _=>true
 | .makeMap=>true
 | .makeSlice _ _ _ _=>true
 | .store _ _ _=>true
 | .mapUpdate _ _ _ _=>true
 | .insF _ _ _ _=>true
 | .append _ _ _ _=>true
 | .mop e _=>!CZ e
 | _=>false
def r7:IAct→Bool
 | .op o=>PA o
 | _=>false
theorem KA {o:IOp} (h:PA o=false) (e:Operand→AV) (g i:Nat):P3 e g i o=[]:=by
 cases o<;>first | rfl | exact vP (by simpa[PA] using h) _ _ _ | cases h
def HH (a b:IOper):Bool:=lX a.dst b.tmps && (lX b.dst a.tmps && kO a.dst b.dst)
def t7 (af:List (List Nat)) (n s b:Nat) (y:IOper):Nat→List IOper→Option (List (Nat×Nat))
 | _,[]=>some []
 | a,x::l=>match t7 af n s b y (a+1) l with
  | some ps=>match Nat.ble b a || iX af n (s+a) (s+b) with
   | true=>some ps
   | false=>match HH x y with
    | true=>match r7 x.act || r7 y.act with
     | true=>some ((a,b)::ps)
     | false=>some ps
    | false=>none
  | none=>none
def o4 (af:List (List Nat)) (n s:Nat) (xs:List IOper):Nat→List IOper→Option (List (Nat×Nat))
 | _,[]=>some []
 | b,y::l=>match t7 af n s b y 0 xs,o4 af n s xs (b+1) l with
  | some ps,some qs=>some (ps++qs)
  | _,_=>none
def dynP (af:List (List Nat)) (s:Nat) (xs:List IOper):Option (List (Nat×Nat)):=o4 af af.length s xs 0 xs
noncomputable def O1 (ra rb:bD):Bool:=CJ ra.wr (rb.rd++rb.wr) && CJ rb.wr ra.rd
noncomputable def IJ (R:List bD) (p:Nat×Nat):Bool:=
 match lH R p.1 with
 | some ra=>match lH R p.2 with
  | some rb=>O1 ra rb
  | none=>false
 | none=>false
noncomputable def QG (f:Nat×Nat→Bool) (l:List (Nat×Nat)):Bool:=List.rec (motive:=fun _=>Bool) true (fun p _ ih=>Bool.rec (motive:=fun _=>Bool) false ih (f p)) l
theorem M4 (f:Nat×Nat→Bool) (l:List (Nat×Nat)) (h:QG f l=true):∀ p∈l,f p=true:=by
 induction l with
 | nil=>intro p hp; cases hp
 | cons q l ih=>
  replace h:Bool.rec (motive:=fun _=>Bool) false (QG f l) (f q)=true:=h
  cases e:f q with
  | false=>rw[e] at h; cases h
  | true=>
   rw[e] at h;intro p hp
   cases hp with
   | head=>exact e
   | tail _ hp=>exact ih h p hp
noncomputable def chkO (R:List bD):Option (List (Nat×Nat))→Bool
 | some ps=>QG (IJ R) ps
 | none=>false
noncomputable def tK (af:List (List Nat)) (s:Nat) (xs:List IOper) (R:List bD):Bool:=chkO R (dynP af s xs)
theorem qO {af:List (List Nat)} {n s b:Nat} {y:IOper}:∀(l:List IOper) (a0:Nat) ps,t7 af n s b y a0 l=some ps→∀(j:Nat) x,l[j]?=some x →
  b≤a0+j∨iX af n (s+(a0+j)) (s+b)=true∨(HH x y=true∧((r7 x.act || r7 y.act)=false∨(a0+j,b)∈ps))
 | [],_,ps,_,j,x,hx=>by simp at hx
 | z::l,a0,ps,h,j,x,hx=>by
  simp only[t7] at h;split at h
  ·rename_i qs hq
   have ih:=qO l (a0+1) qs hq
   have hsub:∀ p∈qs,p∈ps:=by
    split at h
    ·injection h with h; subst h; exact fun p hp=>hp
    ·split at h
     ·split at h
      ·injection h with h; subst h; exact fun p hp=>mCm _ hp
      ·injection h with h; subst h; exact fun p hp=>hp
     ·cases h
   cases j with
   | zero=>
    simp at hx;subst hx;rw[Nat.add_zero];split at h
    ·rename_i e
     simp only[Bool.or_eq_true] at e
     rcases e with e | e
     ·exact .inl (nlB e)
     ·exact .inr (.inl e)
    ·split at h
     ·rename_i e
      refine .inr (.inr ⟨e,?_⟩);split at h
      ·injection h with h; subst h; exact .inr (List.mem_cons_self ..)
      ·rename_i e2; exact .inl e2
     ·cases h
   | succ j=>
    have:=ih j x (by simpa using hx);rw[show a0+1+j=a0+(j+1) by omega] at this
    rcases this with h1 | h1 | ⟨h1,h2 | h2⟩
    ·exact .inl h1
    ·exact .inr (.inl h1)
    ·exact .inr (.inr ⟨h1,.inl h2⟩)
    ·exact .inr (.inr ⟨h1,.inr (hsub _ h2)⟩)
  ·cases h
theorem mU {af:List (List Nat)} {n s:Nat} {xs:List IOper}:∀(l:List IOper) (b0:Nat) ps,o4 af n s xs b0 l=some ps→∀(j:Nat) y,l[j]?=some y →
  ∃ qs,t7 af n s (b0+j) y 0 xs=some qs∧∀ p∈qs,p∈ps
 | [],_,ps,_,j,x,hx=>by simp at hx
 | z::l,b0,ps,h,j,y,hy=>by
  simp only[o4] at h;split at h
  ·rename_i p1 p2 h1 h2
   injection h with h
   subst h
   cases j with
   | zero=>
    simp at hy;subst hy;exact⟨p1,h1,fun p hp=>List.mem_append_left _ hp⟩
   | succ j=>
    obtain⟨qs,h3,h4⟩:=mU l (b0+1) p2 h2 j y (by simpa using hy);rw[show b0+1+j=b0+(j+1) by omega] at h3;exact⟨qs,h3,fun p hp=>List.mem_append_right _ (h4 p hp)⟩
  ·cases h
theorem DB {af:List (List Nat)} {R:List bD} {b:Nat} {rb:bD}:∀(l:List bD) (a0:Nat),(∀(j:Nat) ra,l[j]?=some ra→b≤a0+j∨iX af af.length (a0+j) b=true∨fA ra rb=true)→AN af R b rb a0 l=true
 | [],_,_=>rfl
 | r::l,a0,h=>by
  simp only[AN,bAe,Bool.or_eq_true];refine⟨?_,DB l (a0+1) fun j ra hj=>?_⟩
  ·rcases h 0 r rfl with h1 | h1 | h1
   ·exact .inl (by simpa using h1)
   ·exact .inr (.inl h1)
   ·exact .inr (.inr h1)
  ·have:=h (j+1) ra (by simpa using hj)
   rwa[show a0+(j+1)=a0+1+j by omega] at this
theorem vM {af:List (List Nat)} {R:List bD}:∀(l:List bD) (b0:Nat),(∀(j:Nat) rb,l[j]?=some rb→AN af R (b0+j) rb 0 R=true)→nO af R b0 l=true
 | [],_,_=>rfl
 | r::l,b0,h=>by
  simp only[nO,bAe];refine⟨h 0 r rfl,vM l (b0+1) fun j rb hj=>?_⟩;have:=h (j+1) rb (by simpa using hj)
  rwa[show b0+(j+1)=b0+1+j by omega] at this
theorem iJ {af:List (List Nat)} {s:Nat} {xs:List IOper} {R:List bD} (h:tK af s xs R=true) (hx:R.map (·.x)=xs) (hw:∀ r∈R,r7 r.x.act=false→r.wr=[]):mX af s R:=by
 unfold tK chkO at h;split at h
 ·rename_i ps hps
  intro a b ra rb hab ha hb
  have hyb:xs[b]?=some rb.x:=by rw[← hx,List.getElem?_map,hb]; rfl
  have hya:xs[a]?=some ra.x:=by rw[← hx,List.getElem?_map,ha]; rfl
  obtain⟨qs,h1,h2⟩:=mU xs 0 ps hps b _ hyb;rw[Nat.zero_add] at h1;have h3:=qO xs 0 qs h1 a _ hya;rw[Nat.zero_add] at h3
  rcases h3 with h3 | h3 | ⟨h3,h4⟩
  ·omega
  ·exact .inl h3
  ·refine .inr ?_
   simp only[HH,bAe] at h3
   have hd:CJ ra.wr (rb.rd++rb.wr)=true∧CJ rb.wr ra.rd=true:=by
    rcases h4 with h4 | h4
    ·simp only[Bool.or_eq_false_iff] at h4
     rw[hw ra (mOg ha) h4.1,hw rb (mOg hb) h4.2];exact⟨rfl,rfl⟩
    ·have:=M4 _ _ h _ (h2 _ h4)
     unfold IJ at this;simp only[eT,ha,hb,O1,bAe] at this;exact this
   simp only[fA,h3.1,h3.2.1,h3.2.2,hd.1,hd.2,Bool.and_self,Bool.true_or]
 ·cases h
theorem mX.all {af:List (List Nat)} {R:List bD} (h:mX af 0 R):nO af R 0 R=true:=by
 refine vM R 0 fun b rb hb=>?_
 rw[Nat.zero_add]
 refine DB R 0 fun a ra ha=>?_
 rw[Nat.zero_add]
 rcases Nat.lt_or_ge a b with hab | hab
 ·have:=h a b ra rb hab ha hb
  rw[Nat.zero_add,Nat.zero_add] at this;exact .inr this
 ·exact .inl hab
def Q1:IAct→Bool
 | .op _=>false
 | _=>true
def j6:List IOper→Option (List IOper×IOper×List IOper)
 | []=>none
 | x::l=>match Q1 x.act with
  | true=>some ([],x,l)
  | false=>match j6 l with
   | some (a,y,b)=>some (x::a,y,b)
   | none=>none
theorem o8:∀ {zs xs ys:List IOper} {y:IOper},j6 zs=some (xs,y,ys)→zs=xs++y::ys
 | [],_,_,_,h=>by cases h
 | x::l,xs,ys,y,h=>by
  simp only[j6] at h;split at h
  ·injection h with h
   injection h with h1 h2
   injection h2 with h2 h3
   subst h1; subst h2; subst h3;rfl
  ·split at h
   ·rename_i a y' b e
    injection h with h
    injection h with h1 h2
    injection h2 with h2 h3
    subst h1; subst h2; subst h3;rw[o8 e];rfl
   ·cases h
def G7 (af:List (List Nat)) (q n:Nat):Bool:=qA 0 af && ((List.range q).all (fun j=>iX af af.length j q) && (List.range n).all fun j=>iX af af.length q (q+1+j))
noncomputable def kQ (d:Option Nat) (v:AV) (T:FT) (H:Heap) (ih:FT→Heap→RR):RR:=
 match d with
 | none=>ih T H
 | some d=>match T.putK d v with
  | some T'=>ih T' H
  | none=>.stuck
noncomputable def CM (d:Option Nat) (T:FT) (ih:FT→Heap→RR):SR→RR
 | .yes v H=>kQ d v T H ih
 | .no=>.stuck
noncomputable def eB (d:Option Nat) (T:FT) (ih:FT→Heap→RR):Option (AV×Heap)→RR
 | some (v,H)=>kQ d v T H ih
 | none=>.stuck
structure bT where
 run:FuncId→List AV→Heap→Option (AV×Heap)
 mth:TypeId→String→Option FuncId
 yl:Nat→Nat→List AV→Heap→Option (Bool×Heap)
 frz:Heap→AV→Option AV
noncomputable def lE (T:FT) (f:Cal):AV:=
 match f with
 | .tmp t=>match T.getK t with
  | .sc (.func (.func f) ⟨[]⟩ ⟨[]⟩)=>.clo (.func f) [] []
  | a=>a
 | .meth r _ tbl=>match T.evK r with
  | .ifc t a=>match AH t tbl with
   | some f=>.clo (.func f) [a] []
   | none=>.undef
  | _=>.undef
noncomputable def wT (call:bT) (d:Option Nat) (args:List AV) (T:FT) (H:Heap) (ih:FT→Heap→RR) (name:String) (fs:List AV):RR:=
 match fs with
 | [.ifc t a]=>match call.mth t name with
  | some g=>eB d T ih (call.run g ([a]++args++[]) H)
  | none=>.stuck
 | _=>.stuck
noncomputable def oJ (call:bT) (d:Option Nat) (args:List AV) (T:FT) (H:Heap) (ih:FT→Heap→RR) (f:AV):RR:=
 match f with
 | .clo (.func g) fs cs=>eB d T ih (call.run g (fs++args++cs) H)
 | .clo (.method name) fs _=>wT call d args T H ih name fs
 | _=>.stuck
noncomputable def jR (call:bT) (k:Nat) (d:Option Nat) (ih:FT→Heap→RR) (a:IAct):FT→Heap→RR:=
 match a with
 | .op o=>fun T H=>CM d T ih (eR o T.evK (cV H) 0 H)
 | .call f args=>fun T H=>Bool.rec (motive:=fun _=>RR) .stuck (eB d T ih (call.run f (mapK T args) H)) (Nat.ble k (cV H))
 | .callV f args=>fun T H=>Bool.rec (motive:=fun _=>RR) .stuck (oJ call d (mapK T args) T H ih (lE T f)) (Nat.ble k (cV H))
noncomputable def JK (b:Bool) (yes no bad:RR) (v:AV):RR:=
 match v with
 | .sc (.bool true)=>Bool.rec (motive:=fun _=>RR) no yes b
 | .sc (.bool false)=>Bool.rec (motive:=fun _=>RR) yes no b
 | .sc (.tuple _)=>no
 | _=>bad
noncomputable def IS (call:bT) (k:Nat) (d:Option Nat) (a:IAct) (ih:FT→Heap→RR) (gd:Option (Nat×Bool)):FT→Heap→RR:=
 match gd with
 | none=>jR call k d ih a
 | some (t,b)=>fun T H=>JK b (jR call k d ih a T H) (kQ d (.sc Go.undef) T H ih) .stuck (T.getK t)
noncomputable def NB (call:bT) (k:Nat) (ih:FT→Heap→RR) (x:IOper):FT→Heap→RR:=
 match x with
 | ⟨d,gd,a⟩=>IS call k d a ih gd
noncomputable def iV (call:bT) (k:Nat) (xs:List IOper):FT→Heap→RR:=
 List.rec (motive:=fun _=>FT→Heap→RR) (fun T H=>.out T H) (fun x _ ih=>NB call k ih x) xs
def HS (P:Program) (call:Caller):Prop:=∀ f args H v H',call f args H=some (v,H')→aE P f args H fun r H2=>r=v∧H2=H'
theorem AgT.putK {fr:Fr} {T T':FT} {d:Nat} {v:AV} (h:AgT fr T) (hp:T.putK d v=some T'):AgT (fr.put (some d) v) T':=by
 rw[FT.putK_eq] at hp;exact AgT.put (d:=some d) h hp
theorem dE {d:Option Nat} {v:AV} {T:FT} {H:Heap} {ih:FT→Heap→RR} {T':FT} {H':Heap} (h:kQ d v T H ih=.out T' H') {fr:Fr} (ha:AgT fr T):∃ T1,AgT (fr.put d v) T1∧ih T1 H=.out T' H':=by
 cases d with
 | none=>exact⟨T,ha,h⟩
 | some d=>
  simp only[kQ] at h;split at h
  ·rename_i T1 e
   exact⟨T1,ha.putK e,h⟩
  ·cases h
theorem DP {fr:Fr} {T:FT} (h:AgT fr T) {t:Nat} {b:Bool} {yes no:RR} {T':FT} {H':Heap} (hs:JK b yes no .stuck (T.getK t)=.out T' H'):
  (gok fr (some (t,b))=some true∧yes=.out T' H')∨(gok fr (some (t,b))=some false∧no=.out T' H'):=by
 have e:T.getK t=fr.get t:=(T.getK_eq t).trans (h t).symm;rw[e] at hs;unfold JK at hs;simp only[gok];split at hs
 ·rename_i e1
  rw[e1]
  cases b with
  | true=>exact .inl ⟨rfl,hs⟩
  | false=>exact .inr ⟨rfl,hs⟩
 ·rename_i e1
  rw[e1]
  cases b with
  | true=>exact .inr ⟨rfl,hs⟩
  | false=>exact .inl ⟨rfl,hs⟩
 ·rename_i e1
  rw[e1];exact .inr ⟨rfl,hs⟩
 ·cases hs
structure cN (P:Program) (call:bT):Prop where
 run:HS P call.run
 mth:∀ t name f,call.mth t name=some f→n9 P t name=some f
 frz:∀ H a b,call.frz H a=some b→eO 0 H a [] b∧aZ b
theorem xC {P:Program} {fr:Fr} {T:FT} (h:AgT fr T) {f:Cal} {fn:FuncId} {fs cs:List AV} (hc:lE T f=.clo (.func fn) fs cs):evC P fr f=.clo (.func fn) fs cs:=by
 cases f with
 | tmp t=>
  simp only[lE,FT.getK_eq] at hc;show rM P (fr.get t)=_;rw[h t];split at hc
  ·rename_i e
   rw[e];exact hc
  ·rw[hc]
   rfl
 | meth r name tbl=>
  simp only[lE] at hc;show Cal.res P (.meth r name tbl) (ev fr r)=_;rw[h.evK];split at hc
  ·rename_i t a e
   rw[e];exact hc
  ·cases hc
theorem vG {P:Program} {fr:Fr} {T:FT} (h:AgT fr T) {f:Cal} {name:String} {t:TypeId} {a:AV} {cs:List AV} (hc:lE T f=.clo (.method name) [.ifc t a] cs) {g:FuncId} (hm:n9 P t name=some g):evC P fr f=.clo (.func g) [a] []:=by
 cases f with
 | tmp u=>
  simp only[lE,FT.getK_eq] at hc;show rM P (fr.get u)=_;rw[h u];split at hc
  ·injection hc with hc
   cases hc
  ·rw[hc]
   simp only[rM,hm]
 | meth r nm tbl=>
  simp only[lE] at hc;split at hc
  ·split at hc
   ·injection hc with hc
    cases hc
   ·cases hc
  ·cases hc
section
variable {P:Program} {N k:Nat} {call:bT}
theorem oZ (hcall:cN P call) {xs:List IOper} {d:Option Nat} {gd:Option (Nat×Bool)} {a:IAct} {ih:FT→Heap→RR} {K:Fr→Heap→Prop} {T':FT} {H':Heap}
  (hih:∀ T H fr,ih T H=.out T' H'→AgT fr T→Reg P N k xs fr H K) {T:FT} {H:Heap} {fr:Fr} (hg:gok fr gd=some true) (ha:AgT fr T) (h:jR call k d ih a T H=.out T' H'):Reg P N k (⟨d,gd,a⟩::xs) fr H K:=by
 cases a with
 | op o=>
  simp only[jR] at h;unfold CM at h;split at h
  ·rename_i v H1 e
   rw[← ha.evK,bS] at e;obtain⟨T1,h1,h2⟩:=dE h ha;exact Reg.op (x:=⟨d,gd,.op o⟩) hg rfl (kJ e) (hih T1 H1 _ h2 h1)
  ·cases h
 | call f args=>
  simp only[jR] at h
  cases hb:Nat.ble k (cV H) with
  | false=>rw[hb] at h; cases h
  | true=>
   rw[hb] at h
   have hk:k≤H.length:=by rw[← bS]; exact nlB hb
   replace h:eB d T ih (call.run f (mapK T args) H)=.out T' H':=h;unfold eB at h;split at h
   ·rename_i v H1 e
    obtain⟨T1,h1,h2⟩:=dE h ha;refine Reg.call (x:=⟨d,gd,.call f args⟩) hk hg rfl ?_;rw[ha.mapK];refine(hcall.run f _ H v H1 e).mono ?_;rintro res H2 ⟨rfl,rfl⟩;exact hih T1 _ _ h2 h1
   ·cases h
 | callV f args=>
  simp only[jR] at h
  cases hb:Nat.ble k (cV H) with
  | false=>rw[hb] at h; cases h
  | true=>
   rw[hb] at h
   have hk:k≤H.length:=by rw[← bS]; exact nlB hb
   replace h:oJ call d (mapK T args) T H ih (lE T f)=.out T' H':=h
   have fin:∀ {g:FuncId} {fs cs:List AV},eB d T ih (call.run g (fs++mapK T args++cs) H)=.out T' H'→evC P fr f=.clo (.func g) fs cs→Reg P N k (⟨d,gd,.callV f args⟩::xs) fr H K:=by
    intro g fs cs h ef;unfold eB at h;split at h
    ·rename_i v H1 e
     obtain⟨T1,h1,h2⟩:=dE h ha;refine Reg.callV (x:=⟨d,gd,.callV f args⟩) (f:=f) (g:=g) (fs:=fs) (cs:=cs) hk hg rfl ef ?_;rw[ha.mapK];refine(hcall.run g _ H v H1 e).mono ?_;rintro res H2 ⟨rfl,rfl⟩;exact hih T1 _ _ h2 h1
    ·cases h
   unfold oJ at h;split at h
   ·rename_i g fs cs ef
    exact fin h (xC ha ef)
   ·rename_i name fs cs ef
    unfold wT at h;split at h
    ·rename_i t a
     split at h
     ·rename_i g hm
      exact fin (fs:=[a]) (cs:=[]) h (vG ha ef (hcall.mth _ _ _ hm))
     ·cases h
    ·cases h
   ·cases h
theorem kU (hcall:cN P call) {K:Fr→Heap→Prop} {T':FT} {H':Heap} (hK:∀ fr',AgT fr' T'→K fr' H'):∀(xs:List IOper) (T:FT) (H:Heap) (fr:Fr),iV call k xs T H=.out T' H'→AgT fr T→Reg P N k xs fr H K:=by
 intro xs
 induction xs with
 | nil=>
  intro T H fr h ha
  injection h with h1 h2
  subst h1; subst h2;exact Reg.nil (hK fr ha)
 | cons x xs ih=>
  intro T H fr h ha;obtain⟨d,gd,a⟩:=x;replace h:IS call k d a (iV call k xs) gd T H=.out T' H':=h
  cases gd with
  | none=>exact oZ hcall (ih:=iV call k xs) ih rfl ha h
  | some p=>
   obtain⟨t,b⟩:=p
   rcases DP ha h with⟨h1,h2⟩ | ⟨h1,h2⟩
   ·exact oZ hcall (ih:=iV call k xs) ih h1 ha h2
   ·obtain⟨T1,h3,h4⟩:=dE h2 ha
    exact Reg.skip (x:=⟨d,some (t,b),a⟩) h1 (ih T1 H _ h4 h3)
end
end Go.Av
namespace Go.Av
mutual
theorem nZ {k:Nat}:∀(a:AV),kB k a=true→Ren (low k) a a
 | .undef,_=>.undef _
 | .sc v,_=>.sc v
 | .agg c,h=>.agg _ _ rfl fun j x y a b=>by cases aV a b; exact iS c h x (mOg a)
 | .tup c,h=>.tup _ _ rfl fun j x y a b=>by cases aV a b; exact iS c h x (mOg a)
 | .list sz r,h=>.list _ _ _ rfl (fun i r r' a b=>by cases aV a b; rfl) fun i q q' j x y a b c d=>by
   cases aV a b
   cases aV c d
   exact uG r h q (mOg a) x (mOg c)
 | .cptr c,h=>.cptr _ _ rfl fun j x y a b=>by cases aV a b; exact iS c h x (mOg a)
 | .tmap e,h=>.tmap _ _ rfl (fun j x y a b=>by cases aV a b; rfl) fun j x y a b=>by cases aV a b; exact tX e h x (mOg a)
 | .ptr g i r o,h=>.ptr g i g i r o (nM (nlB h))
 | .hsl g i s l,h=>.hsl g i g i s l (nM (nlB h))
 | .mref g i,h=>.mref g i g i (nM (nlB h))
 | .yld g i,h=>.yld g i g i (nM (nlB h))
 | .asl g i r o n,h=>.asl g i g i r o n (nM (nlB h))
 | .ifc t a,h=>.ifc _ _ _ (nZ a h)
 | .one,_=>.one
 | .clo f a b,h=>by
   simp only[kB,bAe] at h
   exact .clo _ _ _ _ _ rfl rfl (fun j x y p q=>by cases aV p q; exact iS a h.1 x (mOg p)) fun j x y p q=>by cases aV p q; exact iS b h.2 x (mOg p)
theorem iS {k:Nat}:∀(l:List AV),jT k l=true→∀ a∈l,Ren (low k) a a
 | [],_,a,ha=>by cases ha
 | x::l,h,a,ha=>by
  simp only[jT,bAe] at h
  rcases List.mem_cons.1 ha with e | e
  ·rw[e]; exact nZ x h.1
  ·exact iS l h.2 a e
theorem uG {k:Nat}:∀(l:List (List AV)),w7 k l=true→∀ r∈l,∀ a∈r,Ren (low k) a a
 | [],_,a,ha=>by cases ha
 | x::l,h,r,hr=>by
  simp only[w7,bAe] at h
  rcases List.mem_cons.1 hr with e | e
  ·rw[e]; exact iS x h.1
  ·exact uG l h.2 r e
theorem tX {k:Nat}:∀(l:List (Value×AV)),A8 k l=true→∀ x∈l,Ren (low k) x.2 x.2
 | [],_,a,ha=>by cases ha
 | (u,v)::l,h,x,hx=>by
  simp only[A8,bAe] at h
  rcases List.mem_cons.1 hx with e | e
  ·rw[e]; exact nZ v h.1
  ·exact tX l h.2 x e
end
mutual
theorem pE:∀(a:AV),kB 0 a=true→aZ a
 | .undef,_=>.undef
 | .sc v,_=>.sc v
 | .agg c,h=>.agg _ (dT c h)
 | .tup c,h=>.tup _ (dT c h)
 | .list sz r,h=>.list _ _ (vX r h)
 | .cptr c,h=>.cptr _ (dT c h)
 | .tmap e,h=>.tmap _ (wI e h)
 | .ptr g i r o,h=>by simp[kB,Nat.blt] at h
 | .hsl g i s l,h=>by simp[kB,Nat.blt] at h
 | .mref g i,h=>by simp[kB,Nat.blt] at h
 | .yld g i,h=>by simp[kB,Nat.blt] at h
 | .asl g i r o n,h=>by simp[kB,Nat.blt] at h
 | .ifc t a,h=>.ifc _ _ (pE a h)
 | .one,_=>.one
 | .clo f a b,h=>by
   simp only[kB,bAe] at h;exact .clo _ _ _ (dT a h.1) (dT b h.2)
theorem dT:∀(l:List AV),jT 0 l=true→∀ a∈l,aZ a
 | [],_,a,ha=>by cases ha
 | x::l,h,a,ha=>by
  simp only[jT,bAe] at h
  rcases List.mem_cons.1 ha with e | e
  ·rw[e]; exact pE x h.1
  ·exact dT l h.2 a e
theorem vX:∀(l:List (List AV)),w7 0 l=true→∀ r∈l,∀ a∈r,aZ a
 | [],_,a,ha=>by cases ha
 | x::l,h,r,hr=>by
  simp only[w7,bAe] at h
  rcases List.mem_cons.1 hr with e | e
  ·rw[e]; exact dT x h.1
  ·exact vX l h.2 r e
theorem wI:∀(l:List (Value×AV)),A8 0 l=true→∀ x∈l,aZ x.2
 | [],_,a,ha=>by cases ha
 | (u,v)::l,h,x,hx=>by
  simp only[A8,bAe] at h
  rcases List.mem_cons.1 hx with e | e
  ·rw[e]; exact pE v h.1
  ·exact wI l h.2 x e
end
theorem z6 {k:Nat}:∀(f:List Blk),C1 k f=true→∀(i:Nat) x,f[i]?=some x→tJ k x=true
 | [],_,i,x,h=>by simp at h
 | y::f,h,i,x,hx=>by
  simp only[C1,bAe] at h
  cases i with
  | zero=>simp at hx; subst hx; exact h.1
  | succ i=>exact z6 f h.2 i x (by simpa using hx)
theorem zF {k:Nat}:∀(n:Nat) (H:Heap),B4 k n H=true→∀ g i x,g < n→hget H g i=some x→tJ k x=true
 | 0,_,_,g,_,_,hg,_=>by omega
 | n+1,[],_,g,i,x,_,hx=>by simp[hget] at hx
 | n+1,f::r,h,g,i,x,hg,hx=>by
  simp only[B4,bAe] at h
  cases g with
  | zero=>exact z6 f h.1 i x (by simpa[hget] using hx)
  | succ g=>exact zF n r h.2 g i x (by omega) (by simpa[hget] using hx)
theorem GT {H:Heap} {k g i:Nat} {x:Blk} (h:hget (H.take k) g i=some x):g < k∧hget H g i=some x:=by
 unfold hget at h ⊢;rw[List.getElem?_take] at h;split at h
 ·rename_i f e
  split at e
  ·rename_i hg
   exact⟨hg,by rw[e]; exact h⟩
  ·cases e
 ·cases h
theorem JR {k:Nat} {x:Blk} (h:tJ k x=true):eY (low k) x x:=by
 cases x with
 | lp=>cases h
 | umap=>cases h
 | it=>cases h
 | dead=>exact .dead _
 | cells sz rows=>
  exact .cells _ _ _ rfl (fun i r r' a b=>by cases aV a b; rfl) fun i q q' j x y a b c d=>by
   cases aV a b
   cases aV c d
   exact uG rows h q (mOg a) x (mOg c)
 | map es=>exact .map _ _ rfl (fun j x y a b=>by cases aV a b; rfl) fun j x y a b=>by cases aV a b; exact tX es h x (mOg a)
theorem eO.cut {k:Nat} {res:AV} {H:Heap} (h1:kB k res=true) (h2:B4 k k H=true):eO k H res (H.take k) res:=by
 refine eO.ren (low k) ⟨fun g i hg hi=>nM hg,fun g i g' i' p hp hp'=>?_,fun g i x hx hl=>?_,fun g i p hp hi=>?_⟩ (nZ res h1)
 ·obtain⟨_,rfl⟩:=r8 hp
  obtain⟨_,e⟩:=r8 hp'
  injection e with e1 e2
  exact⟨e1,e2⟩
 ·obtain⟨hg,hx'⟩:=GT hx
  exact⟨g,i,x,nM hg,hx',JR (zF k H h2 g i x hg hx')⟩
 ·obtain⟨hg,rfl⟩:=r8 hp
  obtain⟨x,hx⟩:=Option.isSome_iff_exists.1 hi;simp only at hx
  have:hget (H.take k) g i=some x:=by
   unfold hget at hx ⊢;rw[List.getElem?_take,if_pos hg];exact hx
  rw[this]; rfl
noncomputable def FD (x:IOper) (d:Option Nat) (id:Nat×Nat) (v:AV) (rd wr:List (Nat×Nat)) (T:FT) (H:Heap) (ih:FT→Heap→DR):DR:=
 match d with
 | none=>(ih T H).cons ⟨x,id,v,rd,wr⟩
 | some t=>match T.putK t v with
  | some T'=>(ih T' H).cons ⟨x,id,v,rd,wr⟩
  | none=>.stuck
noncomputable def dOp (x:IOper) (d:Option Nat) (id:Nat×Nat) (rd wr:List (Nat×Nat)) (T:FT) (ih:FT→Heap→DR):SR→DR
 | .yes v H=>FD x d id v rd wr T H ih
 | .no=>.stuck
noncomputable def dFz (x:IOper) (d:Option Nat) (id:Nat×Nat) (T:FT) (H:Heap) (ih:FT→Heap→DR):Option AV→DR
 | some v=>FD x d id v [] [] T H ih
 | none=>.stuck
noncomputable def uZ (frz:Heap→AV→Option AV) (x:IOper) (d:Option Nat) (id:Nat×Nat) (T:FT) (H:Heap) (ih:FT→Heap→DR):Option (AV×Heap)→DR
 | some (v,H0)=>dFz x d id T H ih (frz H0 v)
 | none=>.stuck
theorem aE.sub {P:Program} {f:FuncId} {args:List AV} {H:Heap} {R R':AV→Heap→Prop} (h:aE P f args H R) (hs:∀ res H',R res H'→∃ res' H2,eO H.length H' res H2 res'∧R' res' H2):aE P f args H R':=by
 refine⟨h.1,fun M J w cargs a b c d=>(h.2 M J w cargs a b c d).mono ?_⟩;rintro e w' ⟨v,M',J',res,H',rfl,hst,hrep,hr⟩;obtain⟨res',H2,h1,h2⟩:=hs res H' hr;obtain⟨M2,J2,h3,h4⟩:=h1 M' J' v w' hrep hst.hrep hst.mrep;exact⟨v,M2,J2,res',H2,rfl,hst.trans h3,h4,h2⟩
def er0 (a:AV):AV:=match kB 0 a with
 | true=>a
 | false=>match a.cell1 with
  | true=>.one
  | false=>.undef
noncomputable def QO (l:List AV):List AV:=List.rec (motive:=fun _=>List AV) [] (fun a _ ih=>er0 a::ih) l
noncomputable def er1 (a:AV):AV:=match kB 0 a with
 | true=>a
 | false=>match a with
  | .agg cs=>.agg (QO cs)
  | _=>.undef
noncomputable def erA (l:List AV):List AV:=List.rec (motive:=fun _=>List AV) [] (fun a _ ih=>er1 a::ih) l
theorem LH (l:List AV):QO l=l.map er0:=by
 induction l with
 | nil=>rfl
 | cons a l ih=>
  show er0 a::QO l=_;rw[ih];rfl
theorem PB (l:List AV):erA l=l.map er1:=by
 induction l with
 | nil=>rfl
 | cons a l ih=>
  show er1 a::erA l=_;rw[ih];rfl
theorem PD (a:AV):Le a (er0 a):=by
 unfold er0;split
 ·exact .refl a
 ·split
  ·rename_i h
   exact fun M J v hv=>.one v (hv.cell1 h)
  ·exact .undef a
theorem P5 (a:AV):Le a (er1 a):=by
 unfold er1;split
 ·exact .refl a
 ·split
  ·rename_i cs _
   intro M J v h
   cases h with
   | agg _ cvs hl hr=>
    rw[LH]
    refine .agg _ cvs (by rw[List.length_map]; exact hl) fun j c x hc hx=>?_
    rw[List.getElem?_map,Option.map_eq_some_iff] at hc;obtain⟨c0,h0,rfl⟩:=hc;exact PD c0 M J x (hr j c0 x h0 hx)
  ·exact .undef _
theorem aC.er {P:Program} {f:FuncId} {args:List AV} {v:AV} (h:aC P f (erA args) v):aC P f args v:=by
 rw[PB] at h;refine⟨h.1,fun M J w cargs h1 h2 h3=>h.2 M J w cargs (by rw[List.length_map]; exact h1) (fun j c v hc hv=>?_) h3⟩;rw[List.getElem?_map,Option.map_eq_some_iff] at hc;obtain⟨c0,h0,rfl⟩:=hc;exact P5 c0 M J v (h2 j c0 v h0 hv)
noncomputable def C0 (call:bT) (base j:Nat) (d:Option Nat) (gd:Option (Nat×Bool)) (ih:FT→Heap→DR) (a:IAct):FT→Heap→DR:=
 match a with
 | .op o=>fun T H=>dOp ⟨d,gd,.op o⟩ d (base,j) (NF T.evK o) (P3 T.evK base j o) T ih (eR o T.evK base j H)
 | .call f args=>fun T H=>Bool.rec (motive:=fun _=>DR) .stuck (uZ call.frz ⟨d,gd,.call f args⟩ d (base,j) T H ih (call.run f (erA (mapK T args)) [])) (jT 0 (erA (mapK T args)))
 | .callV f args=>fun T H=>match lE T f with
  | .clo (.func g) fs cs=>Bool.rec (motive:=fun _=>DR) .stuck (uZ call.frz ⟨d,gd,.callV f args⟩ d (base,j) T H ih (call.run g (erA (fs++mapK T args++cs)) [])) (jT 0 (erA (fs++mapK T args++cs)))
  | _=>.stuck
noncomputable def dSel (b:Bool) (yes no:DR) (v:AV):DR:=
 match v with
 | .sc (.bool true)=>Bool.rec (motive:=fun _=>DR) no yes b
 | .sc (.bool false)=>Bool.rec (motive:=fun _=>DR) yes no b
 | .sc (.tuple _)=>no
 | _=>.stuck
noncomputable def dGd (call:bT) (base j:Nat) (d:Option Nat) (a:IAct) (ih:FT→Heap→DR) (gd:Option (Nat×Bool)):FT→Heap→DR:=
 match gd with
 | none=>C0 call base j d none ih a
 | some (t,b)=>fun T H=>dSel b (C0 call base j d (some (t,b)) ih a T H) (FD ⟨d,some (t,b),a⟩ d (base,j) (.sc Go.undef) [] [] T H ih) (T.getK t)
noncomputable def dStep (call:bT) (base j:Nat) (ih:FT→Heap→DR) (x:IOper):FT→Heap→DR:=
 match x with
 | ⟨d,gd,a⟩=>dGd call base j d a ih gd
noncomputable def jJ (call:bT) (base:Nat) (xs:List IOper):Nat→FT→Heap→DR:=
 List.rec (motive:=fun _=>Nat→FT→Heap→DR) (fun _ T H=>.out [] T H) (fun x _ ih j=>dStep call base j (ih (Nat.succ j)) x) xs
theorem DR.cons_out {r:bD} {s:DR} {R:List bD} {T:FT} {H:Heap} (h:s.cons r=.out R T H):∃ R',s=.out R' T H∧R=r::R':=by
 cases s with
 | stuck=>cases h
 | out R' T' H'=>injection h with h1 h2 h3; subst h2; subst h3; exact⟨R',rfl,h1.symm⟩
theorem oR {x:IOper} {d:Option Nat} {id:Nat×Nat} {v:AV} {rd wr:List (Nat×Nat)} {T:FT} {H:Heap} {ih:FT→Heap→DR} {R:List bD} {T':FT} {H':Heap} (h:FD x d id v rd wr T H ih=.out R T' H') {fr:Fr} (ha:AgT fr T):
  ∃ T1 R',AgT (fr.put d v) T1∧ih T1 H=.out R' T' H'∧R=⟨x,id,v,rd,wr⟩::R':=by
 cases d with
 | none=>
  obtain⟨R',h1,h2⟩:=DR.cons_out h;exact⟨T,R',ha,h1,h2⟩
 | some d=>
  simp only[FD] at h;split at h
  ·rename_i T1 e
   obtain⟨R',h1,h2⟩:=DR.cons_out h;exact⟨T1,R',ha.putK e,h1,h2⟩
  ·cases h
def m7 (R:List bD):Prop:=∀ r∈R,r7 r.x.act=false→r.wr=[]
theorem m7.cons {r:bD} {R:List bD} (h1:r7 r.x.act=false→r.wr=[]) (h2:m7 R):m7 (r::R):=by
 intro q hq
 rcases List.mem_cons.1 hq with e | e
 ·subst e; exact h1
 ·exact h2 q e
section
variable {P:Program} {call:bT} {base:Nat}
theorem tZ (hcall:cN P call) {xs:List IOper} {j:Nat} {d:Option Nat} {gd:Option (Nat×Bool)} {a:IAct} {ih:FT→Heap→DR} {T':FT} {H':Heap}
  (hih:∀ T H fr R,ih T H=.out R T' H'→AgT fr T→∃ fr',eH P base (j+1) xs fr H R fr' H'∧AgT fr' T'∧m7 R) {T:FT} {H:Heap} {fr:Fr} {R:List bD} (hg:gok fr gd=some true) (ha:AgT fr T)
  (h:C0 call base j d gd ih a T H=.out R T' H'):∃ fr',eH P base j (⟨d,gd,a⟩::xs) fr H R fr' H'∧AgT fr' T'∧m7 R:=by
 cases a with
 | op o=>
  simp only[C0] at h;unfold dOp at h;split at h
  ·rename_i v H1 e
   rw[← ha.evK] at e;obtain⟨T1,R',h1,h2,h3⟩:=oR h ha;obtain⟨fr',h4,h5,h6⟩:=hih T1 H1 _ R' h2 h1;subst h3;refine⟨fr',?_,h5,h6.cons fun hw=>KA hw _ _ _⟩;have:=eH.op (x:=⟨d,gd,.op o⟩) hg rfl (kJ e) h4;rw[EL,LM,ha.evK] at this;exact this
  ·cases h
 | call f args=>
  simp only[C0] at h
  cases hl:jT 0 (erA (mapK T args)) with
  | false=>rw[hl] at h; cases h
  | true=>
   rw[hl] at h;replace h:uZ call.frz ⟨d,gd,.call f args⟩ d (base,j) T H ih (call.run f (erA (mapK T args)) [])=.out R T' H':=h;unfold uZ at h;split at h
   ·rename_i v0 H1 e
    unfold dFz at h;split at h
    ·rename_i v ef
     ·obtain⟨T1,R',h1,h2,h3⟩:=oR h ha
      obtain⟨fr',h4,h5,h6⟩:=hih T1 H _ R' h2 h1;subst h3;refine⟨fr',?_,h5,h6.cons fun _=>rfl⟩
      refine eH.call (x:=⟨d,gd,.call f args⟩) hg rfl (by rw[ha.mapK]; exact aC.er (aC.of (fun a haa=>dT _ hl a haa) (hcall.frz _ _ _ ef).2 (by
       refine(hcall.run f _ [] v0 H1 e).sub ?_;rintro res H' ⟨rfl,rfl⟩
       exact⟨v,[],(hcall.frz _ _ _ ef).1,rfl⟩))) h4
    ·cases h
   ·cases h
 | callV f args=>
  simp only[C0] at h;split at h
  ·rename_i g fs cs ec
   cases hl:jT 0 (erA (fs++mapK T args++cs)) with
   | false=>rw[hl] at h; cases h
   | true=>
    rw[hl] at h;replace h:uZ call.frz ⟨d,gd,.callV f args⟩ d (base,j) T H ih (call.run g (erA (fs++mapK T args++cs)) [])=.out R T' H':=h;unfold uZ at h;split at h
    ·rename_i v0 H1 e
     unfold dFz at h;split at h
     ·rename_i v ef
      ·obtain⟨T1,R',h1,h2,h3⟩:=oR h ha
       obtain⟨fr',h4,h5,h6⟩:=hih T1 H _ R' h2 h1;subst h3;refine⟨fr',?_,h5,h6.cons fun _=>rfl⟩
       refine eH.callV (x:=⟨d,gd,.callV f args⟩) hg rfl (xC ha ec) (by rw[ha.mapK]; exact aC.er (aC.of (fun a haa=>dT _ hl a haa) (hcall.frz _ _ _ ef).2 (by
        refine(hcall.run g _ [] v0 H1 e).sub ?_;rintro res H' ⟨rfl,rfl⟩
        exact⟨v,[],(hcall.frz _ _ _ ef).1,rfl⟩))) h4
     ·cases h
    ·cases h
  ·cases h
theorem gX (hcall:cN P call):∀(xs:List IOper) (j:Nat) (T:FT) (H:Heap) (fr:Fr) (R:List bD) (T':FT) (H':Heap),jJ call base xs j T H=.out R T' H'→AgT fr T →
  ∃ fr',eH P base j xs fr H R fr' H'∧AgT fr' T'∧m7 R:=by
 intro xs
 induction xs with
 | nil=>
  intro j T H fr R T' H' h ha
  injection h with h1 h2 h3
  subst h1; subst h2; subst h3;exact⟨fr,.nil _ _ _,ha,fun r hr=>by cases hr⟩
 | cons x xs ih=>
  intro j T H fr R T' H' h ha;obtain⟨d,gd,a⟩:=x;replace h:dGd call base j d a (jJ call base xs (Nat.succ j)) gd T H=.out R T' H':=h
  have hih:∀ T H fr R,jJ call base xs (Nat.succ j) T H=.out R T' H'→AgT fr T→∃ fr',eH P base (j+1) xs fr H R fr' H'∧AgT fr' T'∧m7 R:=
   fun T H fr R h ha=>ih (j+1) T H fr R T' H' h ha
  cases gd with
  | none=>exact tZ hcall (ih:=jJ call base xs (Nat.succ j)) hih rfl ha h
  | some p=>
   obtain⟨t,b⟩:=p
   have hsel:(gok fr (some (t,b))=some true∧C0 call base j d (some (t,b)) (jJ call base xs (Nat.succ j)) a T H=.out R T' H') ∨
     (gok fr (some (t,b))=some false∧FD ⟨d,some (t,b),a⟩ d (base,j) (.sc Go.undef) [] [] T H (jJ call base xs (Nat.succ j))=.out R T' H'):=by
    have e:T.getK t=fr.get t:=(T.getK_eq t).trans (ha t).symm;simp only[dGd] at h;rw[e] at h;unfold dSel at h;simp only[gok];split at h
    ·rename_i e1
     rw[e1]
     cases b with
     | true=>exact .inl ⟨rfl,h⟩
     | false=>exact .inr ⟨rfl,h⟩
    ·rename_i e1
     rw[e1]
     cases b with
     | true=>exact .inr ⟨rfl,h⟩
     | false=>exact .inl ⟨rfl,h⟩
    ·rename_i e1
     rw[e1];exact .inr ⟨rfl,h⟩
    ·cases h
   rcases hsel with⟨h1,h2⟩ | ⟨h1,h2⟩
   ·exact tZ hcall (ih:=jJ call base xs (Nat.succ j)) hih h1 ha h2
   ·obtain⟨T1,R',h3,h4,h5⟩:=oR h2 ha
    obtain⟨fr',h6,h7,h8⟩:=hih T1 H _ R' h4 h3;subst h5;exact⟨fr',eH.skip (x:=⟨d,some (t,b),a⟩) h1 h6,h7,h8.cons fun _=>rfl⟩
end
noncomputable def iQ (af:List (List Nat)) (s:Nat) (ys:List IOper):DR→XR
 | .out R T H=>Bool.rec (motive:=fun _=>XR) .stuck (.out .normal T H) (tK af s ys R)
 | .stuck=>.stuck
noncomputable def uJ (call:bT) (af:List (List Nat)) (s:Nat) (ys:List IOper):RR→XR
 | .out T H=>iQ af s ys (jJ call (cV H) ys 0 T (H++[List.replicate ys.length .dead]))
 | .stuck=>.stuck
noncomputable def drawMid (call:bT) (k:Nat) (af:List (List Nat)) (xs:List IOper) (y:IOper) (ys:List IOper):DR→XR
 | .out R T H=>Bool.rec (motive:=fun _=>XR) .stuck (uJ call af (Nat.succ (cV xs)) ys (iV call k [y] T H)) (G7 af (cV xs) (cV ys) && tK af 0 xs R)
 | .stuck=>.stuck
noncomputable def DA (af:List (List Nat)) (xs:List IOper) (other:XR):DR→XR
 | .out R T H=>Bool.rec (motive:=fun _=>XR) other (.out .normal T H) (qA 0 af && tK af 0 xs R)
 | .stuck=>other
noncomputable def qB (call:bT) (k:Nat) (af:List (List Nat)) (T:FT) (H:Heap):Option (List IOper×IOper×List IOper)→XR
 | some (xs,y,ys)=>drawMid call k af xs y ys (jJ call (cV H) xs 0 T (H++[List.replicate xs.length .dead]))
 | none=>.stuck
noncomputable def KB (call:bT) (k:Nat) (xs:List IOper) (af:List (List Nat)) (T:FT) (H:Heap):XR:=
 DA af xs (qB call k af T H (j6 xs)) (jJ call (cV H) xs 0 T (H++[List.replicate xs.length .dead]))
noncomputable def JT (b:FT→Heap→XR):XR→XR
 | .out e T H=>match e with
  | .normal=>b T H
  | e=>.out e T H
 | .stuck=>.stuck
noncomputable def JM (a b:XR) (v:AV):XR:=
 match v with
 | .sc (.bool true)=>a
 | .sc (.bool false)=>b
 | _=>.stuck
noncomputable def JI (id:Nat):XR→XR
 | .out e T H=>match e with
  | .exit id'=>Bool.rec (motive:=fun _=>XR) (.out (.exit id') T H) (.out .normal T H) (Nat.beq id' id)
  | e=>.out e T H
 | .stuck=>.stuck
noncomputable def EH (f:FT→Heap→XR) (n:Nat):FT→Heap→XR:=Nat.rec (motive:=fun _=>FT→Heap→XR) (fun _ _=>.stuck) (fun _ ih T H=>JT ih (f T H)) n
theorem RR.x_out {r:RR} {e:Exit} {T:FT} {H:Heap} (h:r.x=.out e T H):e=.normal∧r=.out T H:=by
 cases r with
 | stuck=>cases h
 | out T' H'=>injection h with h1 h2 h3; subst h1; subst h2; subst h3; exact⟨rfl,rfl⟩
theorem AC {b:FT→Heap→XR} {r:XR} {e:Exit} {T:FT} {H:Heap} (h:JT b r=.out e T H):(∃ T1 H1,r=.out .normal T1 H1∧b T1 H1=.out e T H)∨(e≠.normal∧r=.out e T H):=by
 unfold JT at h;split at h
 ·split at h
  ·exact .inl ⟨_,_,rfl,h⟩
  ·rename_i hne
   injection h with h1 h2 h3
   subst h1; subst h2; subst h3;exact .inr ⟨hne,rfl⟩
 ·cases h
section
variable {P:Program} {N k fuel:Nat} {call:bT}
theorem zM (hp:P.follows .mixedOrders=true) (hcall:cN P call) {zs:List IOper} {af:List (List Nat)} {T:FT} {H:Heap} {e:Exit} {T':FT} {H':Heap} (h:KB call k zs af T H=.out e T' H') {fr:Fr} (ha:AgT fr T)
  {Q:Exit→Fr→Heap→Prop} (hQ:∀ fr',AgT fr' T'→Q e fr' H'):AWP P N k (.draw zs af) Q fr H:=by
 unfold KB at h;rw[bS] at h
 have other:∀ e T' H',qB call k af T H (j6 zs)=.out e T' H'→(∀ fr',AgT fr' T'→Q e fr' H')→AWP P N k (.draw zs af) Q fr H:=by
  intro e T' H' h hQ;unfold qB at h;split at h
  ·rename_i xs y ys hs
   unfold drawMid at h;split at h
   ·rename_i R T1 H1 hd
    rw[bS] at hd;obtain⟨fr1,h1,h2,h3⟩:=gX hcall xs 0 T _ fr R T1 H1 hd ha
    cases hc:G7 af (cV xs) (cV ys) && tK af 0 xs R with
    | false=>rw[hc] at h; cases h
    | true=>
     rw[hc] at h;simp only[bAe] at hc;replace h:uJ call af (Nat.succ (cV xs)) ys (iV call k [y] T1 H1)=.out e T' H':=h;obtain⟨c0,c1⟩:=hc;simp only[G7,bS,bAe,List.all_eq_true,List.mem_range] at c0;have c2:=iJ c1 h1.recs.1 h3;refine AWP.drawMid (o8 hs) hp c0.1 c0.2.1 c0.2.2 h1 c2 ?_;unfold uJ at h;split at h
     ·rename_i T2 H2 hr
      refine kU hcall (fun fr2 ha2=>?_) [y] T1 H1 fr1 hr h2;unfold iQ at h;split at h
      ·rename_i R2 T3 H3 hd2
       rw[bS] at hd2;obtain⟨fr3,k1,k2,k3⟩:=gX hcall ys 0 T2 _ fr2 R2 T3 H3 hd2 ha2
       cases hc2:tK af (Nat.succ (cV xs)) ys R2 with
       | false=>rw[hc2] at h; cases h
       | true=>
        rw[hc2] at h
        injection h with h4 h5 h6
        subst h4; subst h5; subst h6;have c3:=iJ hc2 k1.recs.1 k3;rw[bS] at c3;exact⟨R2,fr3,_,k1,c3,hQ fr3 k2⟩
      ·cases h
     ·cases h
   ·cases h
  ·cases h
 unfold DA at h;split at h
 ·rename_i R T1 H1 hd
  cases hc:qA 0 af && tK af 0 zs R with
  | false=>
   rw[hc] at h;exact other _ _ _ h hQ
  | true=>
   rw[hc] at h;simp only[bAe] at hc
   injection h with h1 h2 h3
   subst h1; subst h2; subst h3;obtain⟨fr1,h1,h2,h3⟩:=gX hcall zs 0 T _ fr R _ _ hd ha;have c2:=iJ hc.2 h1.recs.1 h3;exact AWP.draw hp h1 (by simp only[chk,hc.1,c2.all,Bool.and_self]) (hQ fr1 h2)
 ·exact other _ _ _ h hQ
end
noncomputable def nS (T:FT) (H:Heap) (r:kH):Option AV:=
 match r with
 | .tmp t=>match kFz (T.getK t) [] with
  | .yes v _=>some v
  | .no=>none
 | .cell a sz agg=>match zL sz agg (T.getK a) H with
  | .yes v _=>some v
  | .no=>none
noncomputable def tT (x:Option AV) (l:Option (List AV)):Option (List AV):=
 match x with
 | some v=>match l with
  | some q=>some (v::q)
  | none=>none
 | none=>none
noncomputable def mG (T:FT) (H:Heap) (rs:List kH):Option (List AV):=List.rec (motive:=fun _=>Option (List AV)) (some []) (fun r _ ih=>tT (nS T H r) ih) rs
noncomputable def tG (l:Option (List AV)):Option AV:=
 match l with
 | some [x]=>some x
 | some xs=>some (.tup xs)
 | none=>none
theorem BQ {fr:Fr} {T:FT} (ha:AgT fr T) {H:Heap} {r:kH} {v:AV} (h:nS T H r=some v):(∃ sz agg a,r=.cell a sz agg∧∀ cells,fr.get a≠.cptr cells)∨(∃ t,r=.tmp t)→nF fr H r=some v:=by
 intro hr
 cases r with
 | tmp t=>
  simp only[nS] at h;split at h
  ·rename_i u H1 e
   injection h with h
   subst h;obtain⟨h1,_⟩:=sC e;subst h1;simp only[nF,gT,FT.getK_eq,ha t]
  ·cases h
 | cell a sz agg=>
  rcases hr with⟨_,_,_,e,hr⟩ | ⟨_,e⟩
  ·injection e with e1 e2 e3
   subst e1; subst e2; subst e3;simp only[nS] at h;split at h
   ·rename_i u H1 e
    injection h with h
    subst h;rw[FT.getK_eq,← ha a] at e;simp only[zL] at e;simp only[nF];split at e
    ·rename_i cells e1
     exact absurd e1 (hr cells)
    ·rename_i g' i' row off e1
     rw[eV] at e;split at e
     ·rename_i s rows e2
      rw[eT] at e;split at e
      ·rename_i q e3
       obtain⟨h1,h2⟩:=tB e;simp only[e1,e2,e3,h1]
      ·cases e
     ·cases e
    ·cases e
   ·cases h
  ·cases e
noncomputable def IC (v:AV):Bool:=
 match v with
 | .ptr _ _ _ _=>true
 | _=>false
noncomputable def m9 (T:FT) (rs:List kH):Bool:=List.rec (motive:=fun _=>Bool) true (fun r _ ih=>match r with
 | .tmp _=>ih
 | .cell a _ _=>Bool.rec (motive:=fun _=>Bool) false ih (IC (T.getK a))) rs
theorem tV {fr:Fr} {T:FT} (ha:AgT fr T) {H:Heap}:∀(rs:List kH) (vs:List AV),m9 T rs=true→mG T H rs=some vs→lF fr H rs=some vs:=by
 intro rs
 induction rs with
 | nil=>intro vs _ h; exact h
 | cons r rs ih=>
  intro vs hp h;replace h:tT (nS T H r) (mG T H rs)=some vs:=h;unfold tT at h;split at h
  ·rename_i v e1
   split at h
   ·rename_i q e2
    injection h with h
    subst h
    have hp':m9 T rs=true∧((∃ sz agg a,r=.cell a sz agg∧∀ cells,fr.get a≠.cptr cells)∨(∃ t,r=.tmp t)):=by
     cases r with
     | tmp t=>exact⟨hp,.inr ⟨t,rfl⟩⟩
     | cell a sz agg=>
      replace hp:Bool.rec (motive:=fun _=>Bool) false (m9 T rs) (IC (T.getK a))=true:=hp
      cases e:IC (T.getK a) with
      | false=>rw[e] at hp; cases hp
      | true=>
       rw[e] at hp;refine⟨hp,.inl ⟨sz,agg,a,rfl,fun cells hc=>?_⟩⟩;rw[FT.getK_eq,← ha a,hc] at e
       cases e
    simp only[lF,BQ ha e1 hp'.2,ih q hp'.1 e2]
   ·cases h
  ·cases h
noncomputable def GW (l:List AV):Nat→FT→Option FT:=
 List.rec (motive:=fun _=>Nat→FT→Option FT) (fun _ T=>some T) (fun a _ ih i T=>match T.putK i a with
  | some T'=>ih (Nat.succ i) T'
  | none=>none) l
theorem FT.get_full (d:Nat):∀ t,(FT.full d).get t=.undef:=by
 induction d with
 | zero=>intro t; cases t<;>rfl
 | succ d ih=>
  intro t
  cases t with
  | zero=>rfl
  | succ t=>
   show(match Nat.beq (Nat.mod t 2) 0 with | true=>(FT.full d).get (Nat.div t 2) | false=>(FT.full d).get (Nat.div t 2))=_
   split<;>exact ih _
theorem BD:∀(l:List AV) (i:Nat) (T T':FT),GW l i T=some T'→∀ fr,AgT fr T→(∀ t,i≤t→fr.get t=.undef)→∀ t,T'.get t=match Fr.get (fE i l) t with | .undef=>fr.get t | v=>v:=by
 intro l
 induction l with
 | nil=>
  intro i T T' h fr ha _ t
  injection h with h
  subst h;exact(ha t).symm
 | cons a l ih=>
  intro i T T' h fr ha hu t;replace h:(match T.putK i a with | some T'=>GW l (Nat.succ i) T' | none=>none)=some T':=h;split at h
  ·rename_i T1 e
   have ha1:=ha.putK e
   have hu1:∀ t,Nat.succ i≤t→(Fr.put fr (some i) a).get t=.undef:=by
    intro t ht;show(match Nat.beq i t with | true=>a | false=>Fr.get fr t)=.undef
    have:Nat.beq i t=false:=by
     rw[Bool.eq_false_iff];intro he;have:=nEb he;omega
    rw[this];exact hu t (by omega)
   rw[ih (i+1) T1 T' h _ ha1 hu1 t]
   show(match Fr.get (fE (i+1) l) t with | .undef=>(match Nat.beq i t with | true=>a | false=>Fr.get fr t) | v=>v)=match (match Nat.beq i t with | true=>a | false=>Fr.get (fE (i+1) l) t) with | .undef=>fr.get t | v=>v
   cases hb:Nat.beq i t with
   | true=>
    have:=nEb hb;subst this
    have:Fr.get (fE (i+1) l) i=.undef:=by
     rw[nG,if_neg (by omega)]
    rw[this];simp only
    cases a<;>first | rfl | exact(hu i (Nat.le_refl _)).symm
   | false=>rfl
  ·cases h
def IR (P:Program):List (Nat×IFun)→Prop
 | []=>True
 | (n,F)::l=>bG P n=some F∧IR P l
theorem EF {P:Program}:∀ {l:List (Nat×IFun)},IR P l→∀ f F,MG l f=some F→bG P f=some F
 | [],_,f,F,h=>by cases h
 | (n,G)::l,⟨h1,h2⟩,f,F,h=>by
  simp only[MG] at h;split at h
  ·rename_i e
   have:=nEb e;subst this
   injection h with h
   subst h;exact h1
  ·exact EF h2 f F h
end Go.Av
