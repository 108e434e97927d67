import Derived.Test.YtkjoolaahocgdaaGreatGAv17
namespace Go.Av
def qM (af:List (List Nat)):Nat→Nat→Nat→Bool
 | 0,_,_=>false
 | f+1,a,b=>match af[b]? with
  | some l=>l.any (Nat.beq a) || l.any fun m=>qM af f a m
  | none=>false
theorem eT {af:List (List Nat)} {F:Nat→List Nat} (hF:∀ j l,af[j]?=some l→F j=l):∀(f a b:Nat),qM af f a b=true→Bef F a b
 | 0,_,_,h=>by simp[qM] at h
 | f+1,a,b,h=>by
  simp only[qM] at h
  split at h
  ·rename_i l hl
   have hb:=hF b l hl
   simp only[Bool.or_eq_true,List.any_eq_true] at h
   rcases h with⟨k,hk,he⟩ | ⟨m,hm,he⟩
   ·have:a=k:=Nat.eq_of_beq_eq_true he
    subst this
    exact .base (by rw[hb]; exact hk)
   ·exact .step (by rw[hb]; exact hm) (eT hF f a m he)
  ·cases h
def JE (af:List (List Nat)) (R:List cV) (b:Nat) (rb:cV):Nat→List cV→Bool
 | _,[]=>true
 | a,ra::l=>(Nat.ble b a || (qM af af.length a b || jG ra rb)) && JE af R b rb (a+1) l
def v7 (af:List (List Nat)) (R:List cV):Nat→List cV→Bool
 | _,[]=>true
 | b,rb::l=>JE af R b rb 0 R && v7 af R (b+1) l
def yP:Nat→List (List Nat)→Bool
 | _,[]=>true
 | j,l::r=>l.all (fun k=>Nat.blt k j) && yP (j+1) r
def chk (af:List (List Nat)) (R:List cV):Bool:=yP 0 af && v7 af R 0 R
theorem qH {af R b rb}:∀(l:List cV) (a0:Nat),JE af R b rb a0 l=true→∀(j:Nat) ra,l[j]?=some ra→a0+j < b→qM af af.length (a0+j) b=true∨jG ra rb=true
 | [],_,_,j,ra,h,_=>by simp at h
 | r::l,a0,h,j,ra,hj,hlt=>by
  simp only[JE,Bool.and_eq_true,Bool.or_eq_true] at h
  cases j with
  | zero=>
   simp at hj
   subst hj
   rcases h.1 with h1 | h1
   ·have:=nlB h1; omega
   ·exact h1
  | succ j=>
   have:=qH l (a0+1) h.2 j ra (by simpa using hj) (by omega)
   rwa[show a0+1+j=a0+(j+1) by omega] at this
theorem mP {af R}:∀(l:List cV) (b0:Nat),v7 af R b0 l=true→∀(j:Nat) rb,l[j]?=some rb→JE af R (b0+j) rb 0 R=true
 | [],_,_,j,rb,h=>by simp at h
 | r::l,b0,h,j,rb,hj=>by
  simp only[v7,Bool.and_eq_true] at h
  cases j with
  | zero=>simp at hj; subst hj; exact h.1
  | succ j=>
   have:=mP l (b0+1) h.2 j rb (by simpa using hj)
   rwa[show b0+1+j=b0+(j+1) by omega] at this
theorem iR:∀(l:List (List Nat)) (j0:Nat),yP j0 l=true→∀(j:Nat) as,l[j]?=some as→∀ k∈as,k < j0+j
 | [],_,_,j,as,h=>by simp at h
 | r::l,j0,h,j,as,hj=>by
  simp only[yP,Bool.and_eq_true,List.all_eq_true] at h
  cases j with
  | zero=>
   simp at hj
   subst hj
   intro k hk
   have:k < j0:=nlB (h.1 k hk)
   omega
  | succ j=>
   have:=iR l (j0+1) h.2 j as (by simpa using hj)
   rwa[show j0+1+j=j0+(j+1) by omega] at this
inductive j9 (P:Program) (base:Nat):Nat→List IOper→Fr→Heap→List cV→Fr→Heap→Prop
 | nil (j:Nat) (fr:Fr) (H:Heap):j9 P base j [] fr H [] fr H
 | op {j:Nat} {x:IOper} {xs:List IOper} {fr:Fr} {H:Heap} {o:IOp} {v:AV} {H1:Heap} {R:List cV} {fr':Fr} {H':Heap} (hg:gok fr x.guard=some true) (hx:x.act=.op o)
   (hs:aH base j o fr H=some (v,H1)) (h:j9 P base (j+1) xs (fr.put x.dst v) H1 R fr' H'):j9 P base j (x::xs) fr H (⟨x,(base,j),v,drd fr o,dwr base j fr o⟩::R) fr' H'
 | call {j:Nat} {x:IOper} {xs:List IOper} {fr:Fr} {H:Heap} {f:FuncId} {args:List Operand} {v:AV} {R:List cV} {fr':Fr} {H':Heap} (hg:gok fr x.guard=some true) (hx:x.act=.call f args)
   (hc:aD P f (aX fr args) v) (h:j9 P base (j+1) xs (fr.put x.dst v) H R fr' H'):j9 P base j (x::xs) fr H (⟨x,(base,j),v,[],[]⟩::R) fr' H'
 | callV {j:Nat} {x:IOper} {xs:List IOper} {fr:Fr} {H:Heap} {f:Operand} {args:List Operand} {g:FuncId} {fs cs:List AV} {v:AV} {R:List cV} {fr':Fr} {H':Heap} (hg:gok fr x.guard=some true) (hx:x.act=.callV f args) (hf:ev fr f=.clo (.func g) fs cs)
   (hc:aD P g (fs++aX fr args++cs) v) (h:j9 P base (j+1) xs (fr.put x.dst v) H R fr' H'):j9 P base j (x::xs) fr H (⟨x,(base,j),v,[],[]⟩::R) fr' H'
 | skip {j:Nat} {x:IOper} {xs:List IOper} {fr:Fr} {H:Heap} {R:List cV} {fr':Fr} {H':Heap} (hg:gok fr x.guard=some false)
   (h:j9 P base (j+1) xs (fr.put x.dst (.sc Go.undef)) H R fr' H'):j9 P base j (x::xs) fr H (⟨x,(base,j),.sc Go.undef,[],[]⟩::R) fr' H'
theorem j9.run {P base j xs fr H R fr' H'} (h:j9 P base j xs fr H R fr' H'):Run P R (fr,H) (fr',H'):=by
 induction h with
 | nil=>exact Eqv.refl _
 | op hg hx hs _ ih=>exact⟨_,⟨rfl,.inl ⟨hg,_,hx,hs,rfl,rfl⟩⟩,ih⟩
 | @call j x xs fr H f args v R fr' H' hg hx hc _ ih=>exact⟨(fr.put x.dst v,H),⟨rfl,.inr (.inl ⟨hg,rfl,rfl,fun _ _=>rfl,.inl ⟨_,_,hx,hc⟩⟩)⟩,ih⟩
 | @callV j x xs fr H f args g fs cs v R fr' H' hg hx hf hc _ ih=>exact⟨(fr.put x.dst v,H),⟨rfl,.inr (.inl ⟨hg,rfl,rfl,fun _ _=>rfl,.inr ⟨_,_,_,_,_,hx,hf,hc⟩⟩)⟩,ih⟩
 | @skip j x xs fr H R fr' H' hg _ ih=>exact⟨(fr.put x.dst (.sc Go.undef),H),⟨rfl,.inr (.inr ⟨hg,rfl,rfl,rfl,fun _ _=>rfl⟩)⟩,ih⟩
theorem j9.recs {P base j xs fr H R fr' H'} (h:j9 P base j xs fr H R fr' H'):R.map (·.x)=xs∧∀(i:Nat) r,R[i]?=some r→r.id=(base,j+i):=by
 induction h with
 | nil=>exact⟨rfl,fun i r h=>by simp at h⟩
 | op _ _ _ _ ih=>
  refine⟨by simp[ih.1],fun i r h=>?_⟩
  cases i with
  | zero=>simp at h; subst h; rfl
  | succ i=>rw[ih.2 i r (by simpa using h)]; congr 1; omega
 | call _ _ _ _ ih=>
  refine⟨by simp[ih.1],fun i r h=>?_⟩
  cases i with
  | zero=>simp at h; subst h; rfl
  | succ i=>rw[ih.2 i r (by simpa using h)]; congr 1; omega
 | callV _ _ _ _ _ ih=>
  refine⟨by simp[ih.1],fun i r h=>?_⟩
  cases i with
  | zero=>simp at h; subst h; rfl
  | succ i=>rw[ih.2 i r (by simpa using h)]; congr 1; omega
 | skip _ _ ih=>
  refine⟨by simp[ih.1],fun i r h=>?_⟩
  cases i with
  | zero=>simp at h; subst h; rfl
  | succ i=>rw[ih.2 i r (by simpa using h)]; congr 1; omega
theorem dI (H:Heap) (f:List Blk) (g i:Nat):hget (H++[f]) g i=if g=H.length then f[i]? else hget H g i:=by
 unfold hget
 rw[List.getElem?_append]
 by_cases h:g < H.length
 ·rw[if_pos h,if_neg (by omega)]
 ·rw[if_neg h]
  by_cases e:g=H.length
  ·subst e; simp
  ·rw[if_neg e,List.getElem?_eq_none (by simp; omega),List.getElem?_eq_none (by omega)]
theorem iV {P:Program} {N:Nat} {ops:Array Oper}:∀(l:List Oper) (xs:List IOper),nU P N ops l=some xs→xs.length=l.length∧∀(j:Nat) o,l[j]?=some o→∃ x,xs[j]?=some x∧oD P N ops o=some x
 | [],xs,h=>by
  simp[nU] at h
  subst h
  exact⟨rfl,fun j o h=>by simp at h⟩
 | o::l,xs,h=>by
  simp only[nU] at h
  split at h
  ·rename_i x ys h1 h2
   injection h with h
   subst h
   obtain⟨h3,h4⟩:=iV l ys h2
   refine⟨by simp[h3],fun j o' hj=>?_⟩
   cases j with
   | zero=>simp at hj; subst hj; exact⟨x,rfl,h1⟩
   | succ j=>exact h4 j o' (by simpa using hj)
  ·cases h
theorem AWP.draw {P:Program} {N k:Nat} {fr:Fr} {H:Heap} {Q:Exit→Fr→Heap→Prop} {xs:List IOper} {af:List (List Nat)} {R:List cV} {fr':Fr} {H':Heap} (hp:P.follows .mixedOrders=true)
  (hrun:j9 P H.length 0 xs fr (H++[List.replicate xs.length .dead]) R fr' H') (hchk:chk af R=true) (h:Q .normal fr' H'):AWP P N k (.draw xs af) Q fr H:=by
 intro c0 hc cx M J tmps w hcx hF hH hM
 cases c0 with
 | region id ops draw=>
  simp only[cN] at hc
  split at hc
  ·rename_i ys hys
   cases draw with
   | false=>cases hc
   | true=>
    injection hc with hc
    injection hc with hc1 hc2
    subst hc1; subst hc2
    refine wpIn_region_draw fun t=>iS hcx ?_
    rw[hp]
    have hsch:Region.schedule true ops t=Region.linearise .any ops t:=by simp[Region.schedule]
    rw[hsch]
    obtain⟨hlen,hgx⟩:=iV _ _ hys
    obtain⟨hrx,hrid⟩:=hrun.recs
    have hRlen:R.length=ops.size:=by
     have:=congrArg List.length hrx
     simp at this
     rw[this,hlen]
     simp
    let R':Nat→cV:=fun j=>R.getD j ⟨⟨none,none,.call 0 []⟩,(0,0),.undef,[],[]⟩
    have hR':∀ j,j < ops.size→R[j]?=some (R' j):=by
     intro j hj
     have:j < R.length:=by omega
     simp[R',List.getD,this]
    have haf:∀ j l,(ops.toList.map d8)[j]?=some l→cF ops j=l:=by
     intro j l hj
     rw[List.getElem?_map,Array.getElem?_toList] at hj
     unfold cF
     cases ho:ops[j]? with
     | none=>rw[ho] at hj; cases hj
     | some o=>rw[ho] at hj; simpa using hj
    simp only[chk,Bool.and_eq_true] at hchk
    have hs:=tY ops R' (fun j k hk=>by
     have hl:(ops.toList.map d8)[j]?=some (cF ops j):=by
      rw[List.getElem?_map,Array.getElem?_toList]
      unfold cF at hk ⊢
      cases ho:ops[j]? with
      | none=>rw[ho] at hk; cases hk
      | some o=>rfl
     have:=iR _ 0 hchk.1 j _ hl k hk
     omega) (fun a b hab hb=>by
     have h1:=mP _ 0 hchk.2 b _ (hR' b hb)
     rcases qH _ 0 h1 a _ (hR' a (by omega)) (by omega) with h2 | h2
     ·left
      rw[Nat.zero_add,Nat.zero_add] at h2
      exact eT haf _ _ _ h2
     ·exact .inr h2) t
    have hrem:((List.range ops.size).map fun j=>(j,R' j)).map (·.2)=R:=by
     apply List.ext_getElem?
     intro j
     rw[List.map_map,List.getElem?_map]
     by_cases hj:j < ops.size
     ·rw[hR' j hj,List.getElem?_range hj]
      rfl
     ·have h1:(List.range ops.size)[j]?=none:=List.getElem?_eq_none (by rw[List.length_range]; omega)
      have h2:R[j]?=none:=List.getElem?_eq_none (by omega)
      rw[h1,h2]
      rfl
    have hdead:∀ g i x,hget (H++[List.replicate ys.length Blk.dead]) g i=some x→x.live=true→hget H g i=some x:=by
     intro g i x hx hl
     rw[dI] at hx
     split at hx
     ·rw[List.getElem?_replicate] at hx
      split at hx
      ·injection hx with hx; subst hx; cases hl
      ·cases hx
     ·exact hx
    have hH0:bJ M J (H++[List.replicate ys.length .dead]) w.heap:=by
     refine⟨fun g i x hx hl=>hH.blk g i x (hdead g i x hx hl) hl,fun g i g' i' l l' β ⟨x,hx,hl⟩ ⟨y,hy,hl'⟩=>hH.inj g i g' i' l l' β ⟨x,hdead _ _ _ hx hl,hl⟩ ⟨y,hdead _ _ _ hy hl',hl'⟩,
      fun g i l β ⟨x,hx,hl⟩=>hH.out g i l β ⟨x,hdead _ _ _ hx hl,hl⟩,fun g i l hJ=>?_⟩
     have:=hH.dom g i l hJ
     refine⟨?_,this.2⟩
     rw[dI]
     split
     ·rename_i e
      subst e
      have h2:=this.1
      simp[hget] at h2
     ·exact this.1
    have hids:∀ j,j < ops.size→(R' j).id=(H.length,j):=fun j hj=>by rw[hrid j _ (hR' j hj),Nat.zero_add]
    refine sV (k:=k) (N:=N) (t:=(fr',H')) hs (fun p hp=>?_) ?_ (fr,H++[List.replicate ys.length .dead]) M J tmps { w with drawn:=w.drawn+1 } hF hH0 hM (by rw[hrem]; exact hrun.run) (fun p hp=>?_) _ fun a' w' hp=>?_
    ·obtain⟨j,hj,rfl⟩:=List.mem_map.1 hp
     have hj:=List.mem_range.1 hj
     have ho:ops[j]?=some ops[j]:=Array.getElem?_eq_getElem hj
     obtain⟨x,hx1,hx2⟩:=hgx j ops[j] (by rw[Array.getElem?_toList]; exact ho)
     refine⟨ops[j],ho,?_⟩
     have:some (R' j).x=some x:=by
      rw[← hx1,← hrx,List.getElem?_map,hR' j hj]
      rfl
     injection this with this
     rw[this]
     exact hx2
    ·rw[List.map_map]
     have he:(List.range ops.size).map ((fun x:Nat×cV=>x.2.id) ∘ fun j=>(j,R' j))=(List.range ops.size).map fun j=>(H.length,j):=
      List.map_congr_left fun j hj=>hids j (List.mem_range.1 hj)
     rw[he]
     exact List.Pairwise.map _ (fun a b hab e=>hab (by injection e)) List.nodup_range
    ·obtain⟨j,hj,rfl⟩:=List.mem_map.1 hp
     have hj:=List.mem_range.1 hj
     rw[hids j hj]
     refine⟨?_,?_⟩
     ·rw[dI,if_pos rfl,List.getElem?_replicate,if_pos (by rw[hlen]; simpa using hj)]
      rfl
     ·cases e:J H.length j with
      | none=>rfl
      | some l=>
       have:=(hH.dom _ _ l e).1
       simp[hget] at this
    ·obtain⟨M2,J2,fr2,H2,q1,q2,q3,q4,q5⟩:=hp
     subst q4; subst q5
     refine⟨rfl,M2,J2,fr2,H2,?_,q2,q3,h⟩
     have hlive:∀ g i,bK (H++[List.replicate ys.length Blk.dead]) g i→bK H g i:=fun g i ⟨x,hx,hl⟩=>⟨x,hdead g i x hx hl,hl⟩
     exact⟨q1.m,q1.j,q1.hrep,q1.mrep,q1.os,(by first | exact q1.tape | exact⟨q1.tape.1,Nat.le_trans (Nat.le_succ _) q1.tape.2⟩),q1.output,q1.size,fun β o ho hn=>q1.frame β o ho fun g i l hl hJ=>hn g i l (hlive g i hl) hJ,
      fun β o ho=>or2 (q1.fresh β o ho) (fun h=>h) fun h=>or2 h (fun h=>h) fun⟨g,i,l,a,b,c⟩=>⟨g,i,l,hlive g i a,b,c⟩,
      fun g i l β a b c=>or2 (q1.live g i l β a b c) (fun⟨g0,i0,l0,a,b,c⟩=>⟨g0,i0,l0,hlive g0 i0 a,b,c⟩) fun h=>h,q1.bk⟩
  ·cases hc
 | _=>simp only[cN] at hc; (try split at hc)<;>(try cases hc)<;>(try simp at hc)
end Go.Av
namespace Go.Av
theorem wrap_small {n:Int} (h1:-9223372036854775808≤n) (h2:n≤9223372036854775807):IntKind.i64.wrap n=n:=by
 rw[IntKind.wrap_i64]; omega
theorem Ren.int {ρ:Nat→Nat→Option (Nat×Nat)} {k:IntKind} {a b:Int} (h:a=b):Ren ρ (.sc (.int k a)) (.sc (.int k b)):=by subst h; exact .sc _
theorem Ren.bool {ρ:Nat→Nat→Option (Nat×Nat)} {a b:Bool} (h:a=b):Ren ρ (.sc (.bool a)) (.sc (.bool b)):=by subst h; exact .sc _
def rho (ids:List (List (Nat×Nat))) (g i:Nat):Option (Nat×Nat):=
 match ids[g]? with
 | some f=>f[i]?
 | none=>none
def FF (ρ:Nat→Nat→Option (Nat×Nat)) (H:Heap):List (Nat×Nat)→List Blk→Prop
 | [],[]=>True
 | p::ps,x::xs=>(∃ y,hget H p.1 p.2=some y∧dC ρ y x)∧FF ρ H ps xs
 | _,_=>False
def zB (ρ:Nat→Nat→Option (Nat×Nat)) (H:Heap):List (List (Nat×Nat))→Heap→Prop
 | [],[]=>True
 | p::ps,x::xs=>FF ρ H p x∧zB ρ H ps xs
 | _,_=>False
theorem rX {ρ H}:∀ {ps:List (Nat×Nat)} {xs:List Blk},FF ρ H ps xs→ps.length=xs.length∧∀(i:Nat) p x,ps[i]?=some p→xs[i]?=some x→∃ y,hget H p.1 p.2=some y∧dC ρ y x
 | [],[],_=>⟨rfl,fun i p x h=>by simp at h⟩
 | [],_::_,h=>h.elim
 | _::_,[],h=>h.elim
 | p::ps,x::xs,⟨h1,h2⟩=>by
  obtain⟨h3,h4⟩:=rX h2
  refine⟨by simp[h3],fun i q y hq hy=>?_⟩
  cases i with
  | zero=>simp at hq hy; subst hq; subst hy; exact h1
  | succ i=>exact h4 i q y (by simpa using hq) (by simpa using hy)
theorem vF {ρ H}:∀ {ps:List (List (Nat×Nat))} {xs:Heap},zB ρ H ps xs→ps.length=xs.length∧∀(i:Nat) p x,ps[i]?=some p→xs[i]?=some x→FF ρ H p x
 | [],[],_=>⟨rfl,fun i p x h=>by simp at h⟩
 | [],_::_,h=>h.elim
 | _::_,[],h=>h.elim
 | p::ps,x::xs,⟨h1,h2⟩=>by
  obtain⟨h3,h4⟩:=vF h2
  refine⟨by simp[h3],fun i q y hq hy=>?_⟩
  cases i with
  | zero=>simp at hq hy; subst hq; subst hy; exact h1
  | succ i=>exact h4 i q y (by simpa using hq) (by simpa using hy)
def DO (p:Nat×Nat) (l:List (Nat×Nat)):Bool:=l.any fun q=>Nat.beq p.1 q.1 && Nat.beq p.2 q.2
def qS:List (Nat×Nat)→Bool
 | []=>true
 | p::l=>!DO p l && qS l
theorem oQ:∀ {l:List (Nat×Nat)},qS l=true→l.Nodup
 | [],_=>List.nodup_nil
 | p::l,h=>by
  simp only[qS,Bool.and_eq_true,Bool.not_eq_true'] at h
  refine List.nodup_cons.2 ⟨fun hm=>?_,oQ h.2⟩
  have:DO p l=true:=List.any_eq_true.2 ⟨p,hm,by simp⟩
  rw[this] at h
  cases h.1
def l5:Nat→Nat→List (List (Nat×Nat))→Bool
 | _,0,_=>true
 | _,_+1,[]=>false
 | g,k+1,f::r=>(f.zipIdx.all fun x=>Nat.beq x.1.1 g && Nat.beq x.1.2 x.2) && l5 (g+1) k r
def pS:Nat→List (List (Nat×Nat))→Heap→Bool
 | 0,_,_=>true
 | k+1,f::r,h::H=>Nat.ble h.length f.length && pS k r H
 | _+1,_,_=>false
theorem qE:∀(k g0:Nat) (ids:List (List (Nat×Nat))),l5 g0 k ids=true→∀ g f,g < k→ids[g]?=some f→∀(i:Nat) p,f[i]?=some p→p=(g0+g,i)
 | 0,_,_,_,g,_,hg,_=>by omega
 | k+1,g0,[],h,g,f,hg,hf=>by simp at hf
 | k+1,g0,f0::r,h,g,f,hg,hf=>by
  simp only[l5,Bool.and_eq_true] at h
  cases g with
  | zero=>
   simp at hf
   subst hf
   intro i p hp
   have:=List.all_eq_true.1 h.1 (p,i) (by
    rw[List.mem_zipIdx_iff_getElem?]
    exact hp)
   simp only[Bool.and_eq_true] at this
   exact Prod.ext (by simpa using Nat.eq_of_beq_eq_true this.1) (Nat.eq_of_beq_eq_true this.2)
  | succ g=>
   intro i p hp
   have:=qE k (g0+1) r h.2 g f (by omega) (by simpa using hf) i p hp
   rw[this]
   exact Prod.ext (by simp; omega) rfl
theorem sO:∀(k:Nat) (ids:List (List (Nat×Nat))) (H:Heap),pS k ids H=true→∀ g,g < k→∀ i,(hget H g i).isSome→∃ f,ids[g]?=some f∧i < f.length
 | 0,_,_,_,g,hg=>by omega
 | k+1,[],H,h,g,hg=>by simp[pS] at h
 | k+1,f::r,[],h,g,hg=>by simp[pS] at h
 | k+1,f::r,h0::H,h,g,hg=>by
  simp only[pS,Bool.and_eq_true] at h
  intro i hi
  cases g with
  | zero=>
   refine⟨f,rfl,?_⟩
   simp only[hget,List.getElem?_cons_zero] at hi
   have:i < h0.length:=by
    rw[Option.isSome_iff_exists] at hi
    obtain⟨y,hy⟩:=hi
    exact(gEs.1 hy).1
   have:=nlB h.1
   omega
  | succ g=>
   obtain⟨f',h1,h2⟩:=sO k r H h.2 g (by omega) i (by simpa[hget] using hi)
   exact⟨f',by simpa using h1,h2⟩
theorem xD.list {k:Nat} {H H':Heap} {ids:List (List (Nat×Nat))} (h1:l5 0 k ids=true) (h2:pS k ids H=true) (h3:qS ids.flatten=true) (h4:zB (rho ids) H ids H'):xD (rho ids) k H H':=by
 obtain⟨hl,hf⟩:=vF h4
 have hnd:=oQ h3
 refine⟨fun g i hg hi=>?_,fun g i g' i' p hp hp'=>?_,fun g i x hx _=>?_,fun g i p hp _=>?_⟩
 ·obtain⟨f,e1,e2⟩:=sO k ids H h2 g hg i hi
  have:=qE k 0 ids h1 g f hg e1 i f[i] (gEg e2)
  simp only[rho,e1,gEg e2,this,Nat.zero_add]
 ·unfold rho at hp hp'
  split at hp
  ·rename_i f e
   split at hp'
   ·rename_i f' e'
    unfold List.Nodup at hnd
    rw[List.pairwise_flatten] at hnd
    by_cases hgg:g=g'
    ·subst hgg
     rw[e] at e'
     injection e' with e'
     subst e'
     refine⟨rfl,?_⟩
     have hn:=hnd.1 f (List.mem_of_getElem? e)
     have hi:=(gEs.1 hp).1
     exact(List.getElem?_inj hi hn).1 (hp.trans hp'.symm)
    ·exfalso
     have hpw:=hnd.2
     rw[List.pairwise_iff_getElem] at hpw
     have hg1:=(gEs.1 e).1
     have hg2:=(gEs.1 e').1
     have v1:=(gEs.1 e).2
     have v2:=(gEs.1 e').2
     rcases Nat.lt_or_gt_of_ne hgg with hlt | hgt
     ·have:=hpw g g' hg1 hg2 hlt
      rw[v1,v2] at this
      exact this p (List.mem_of_getElem? hp) p (List.mem_of_getElem? hp') rfl
     ·have:=hpw g' g hg2 hg1 hgt
      rw[v1,v2] at this
      exact this p (List.mem_of_getElem? hp') p (List.mem_of_getElem? hp) rfl
   ·cases hp'
  ·cases hp
 ·unfold hget at hx
  split at hx
  ·rename_i f e
   have hg:=(gEs.1 e).1
   have e':ids[g]?=some ids[g]:=gEg (by omega)
   obtain⟨q1,q2⟩:=rX (hf g _ _ e' e)
   have hi:=(gEs.1 hx).1
   have e2:ids[g][i]?=some ids[g][i]:=gEg (by omega)
   obtain⟨y,r1,r2⟩:=q2 i _ x e2 hx
   exact⟨_,_,y,by simp only[rho,e']; exact e2,r1,r2⟩
  ·cases hx
 ·unfold rho at hp
  split at hp
  ·rename_i f e
   have hg:=(gEs.1 e).1
   have e':H'[g]?=some H'[g]:=gEg (by omega)
   obtain⟨q1,_⟩:=rX (hf g _ _ e e')
   have hi:=(gEs.1 hp).1
   simp only[hget,e',gEg (show i < H'[g].length by omega)]
   rfl
  ·cases hp
def sN (ρ:Nat→Nat→Option (Nat×Nat)) (fr:Fr):Fr→Prop
 | []=>True
 | x::r=>Ren ρ (fr.get x.1) x.2∧sN ρ fr r
theorem sN.mem {ρ fr}:∀ {fr':Fr},sN ρ fr fr'→∀ x∈fr',Ren ρ (fr.get x.1) x.2
 | [],_,x,h=>by cases h
 | _::_,⟨h1,h2⟩,x,h=>by
  cases h with
  | head=>exact h1
  | tail _ h=>exact sN.mem h2 x h
def AD (fr:Fr):Fr→Prop
 | []=>True
 | x::r=>Le (fr.get x.1) x.2∧AD fr r
theorem AD.mem {fr}:∀ {fr':Fr},AD fr fr'→∀ x∈fr',Le (fr.get x.1) x.2
 | [],_,x,h=>by cases h
 | _::_,⟨h1,h2⟩,x,h=>by
  cases h with
  | head=>exact h1
  | tail _ h=>exact AD.mem h2 x h
theorem Sub.re {k N:Nat} {fr fr':Fr} {H H':Heap} (ids:List (List (Nat×Nat))) (h1:l5 0 k ids=true) (h2:pS k ids H=true) (h3:qS ids.flatten=true) (h4:zB (rho ids) H ids H')
  (h5:sN (rho ids) fr fr'):Sub k N fr H fr' H':=Sub.ren _ (xD.list h1 h2 h3 h4) h5.mem
theorem Sub.none {N:Nat} {fr fr':Fr} {H:Heap} (h5:sN (rho []) fr fr'):Sub 0 N fr H fr' []:=Sub.re [] rfl rfl rfl trivial h5
theorem Sub.keep {k N:Nat} {fr fr':Fr} {H:Heap} (h:AD fr fr'):Sub k N fr H fr' H:=Sub.le h.mem
theorem gY.pure {H:Heap} {res:AV} (h:bQ res):gY 0 H res [] res:=gY.ren (rho []) (xD.list rfl rfl rfl trivial) (.pure h)
section
variable {P:Program} {N k:Nat} {fr:Fr} {H:Heap} {Q:Exit→Fr→Heap→Prop}
theorem AWP.condT {c:Operand} {x y:dB} (hb:ev fr c=.sc (.bool true)) (h:AWP P N k x Q fr H):AWP P N k (.cond c x y) Q fr H:=AWP.cond hb (fun _=>h) (fun e=>by cases e)
theorem AWP.condF {c:Operand} {x y:dB} (hb:ev fr c=.sc (.bool false)) (h:AWP P N k y Q fr H):AWP P N k (.cond c x y) Q fr H:=AWP.cond hb (fun e=>by cases e) (fun _=>h)
end
theorem bQ.cells {l:List AV} (h:∀ c∈l,bQ c):bQ (.agg l):=.agg l h
theorem dQ:∀ c∈([]:List AV),bQ c:=fun c h=>by cases h
theorem eI {a:AV} {l:List AV} (h:bQ a) (h':∀ c∈l,bQ c):∀ c∈a::l,bQ c:=fun c hc=>by
 cases hc with
 | head=>exact h
 | tail _ hc=>exact h' c hc
theorem vS {l l':List AV} (h:∀ c∈l,bQ c) (h':∀ c∈l',bQ c):∀ c∈l++l',bQ c:=fun c hc=>(List.mem_append.1 hc).elim (h c) (h' c)
end Go.Av
namespace Go.Av
def DK (P:Program) (base j:Nat) (xs:List IOper) (fr:Fr) (H:Heap) (acc:List cV) (K:List cV→Fr→Heap→Prop):Prop:=
 ∃ R fr' H',j9 P base j xs fr H R fr' H'∧K (acc.reverse++R) fr' H'
section
variable {P:Program} {base j:Nat} {xs:List IOper} {fr:Fr} {H:Heap} {v:AV} {H1:Heap} {acc:List cV} {K:List cV→Fr→Heap→Prop} {d:Nat} {gd:Option (Nat×Bool)}
theorem DK.nil (h:K acc.reverse fr H):DK P base j [] fr H acc K:=⟨[],fr,H,.nil _ _ _,by rw[List.append_nil]; exact h⟩
theorem DK.o {o:IOp} (hg:gok fr gd=some true) (hs:aH base j o fr H=some (v,H1)) (h:DK P base (j+1) xs ((d,v)::fr) H1 (⟨⟨some d,gd,.op o⟩,(base,j),v,drd fr o,dwr base j fr o⟩::acc) K):
  DK P base j (⟨some d,gd,.op o⟩::xs) fr H acc K:=by
 obtain⟨R,fr',H',h1,h2⟩:=h
 exact⟨_,fr',H',j9.op (x:=⟨some d,gd,.op o⟩) hg rfl hs h1,by simpa using h2⟩
theorem DK.on {o:IOp} (hg:gok fr gd=some true) (hs:aH base j o fr H=some (v,H1)) (h:DK P base (j+1) xs fr H1 (⟨⟨none,gd,.op o⟩,(base,j),v,drd fr o,dwr base j fr o⟩::acc) K):
  DK P base j (⟨none,gd,.op o⟩::xs) fr H acc K:=by
 obtain⟨R,fr',H',h1,h2⟩:=h
 exact⟨_,fr',H',j9.op (x:=⟨none,gd,.op o⟩) hg rfl hs h1,by simpa using h2⟩
theorem DK.c {f:FuncId} {args:List Operand} (hg:gok fr gd=some true) (hc:aD P f (aX fr args) v) (h:DK P base (j+1) xs ((d,v)::fr) H (⟨⟨some d,gd,.call f args⟩,(base,j),v,[],[]⟩::acc) K):
  DK P base j (⟨some d,gd,.call f args⟩::xs) fr H acc K:=by
 obtain⟨R,fr',H',h1,h2⟩:=h
 exact⟨_,fr',H',j9.call (x:=⟨some d,gd,.call f args⟩) hg rfl hc h1,by simpa using h2⟩
theorem DK.cv {f:Operand} {args:List Operand} {g:FuncId} {fs cs:List AV} (hg:gok fr gd=some true) (hf:ev fr f=.clo (.func g) fs cs) (hc:aD P g (fs++aX fr args++cs) v) (h:DK P base (j+1) xs ((d,v)::fr) H (⟨⟨some d,gd,.callV f args⟩,(base,j),v,[],[]⟩::acc) K):
  DK P base j (⟨some d,gd,.callV f args⟩::xs) fr H acc K:=by
 obtain⟨R,fr',H',h1,h2⟩:=h
 exact⟨_,fr',H',j9.callV (x:=⟨some d,gd,.callV f args⟩) hg rfl hf hc h1,by simpa using h2⟩
theorem DK.s {a:IAct} (hg:gok fr gd=some false) (h:DK P base (j+1) xs ((d,.sc Go.undef)::fr) H (⟨⟨some d,gd,a⟩,(base,j),.sc Go.undef,[],[]⟩::acc) K):
  DK P base j (⟨some d,gd,a⟩::xs) fr H acc K:=by
 obtain⟨R,fr',H',h1,h2⟩:=h
 exact⟨_,fr',H',j9.skip (x:=⟨some d,gd,a⟩) hg h1,by simpa using h2⟩
end
theorem AWP.dk {P:Program} {N k:Nat} {fr:Fr} {H:Heap} {Q:Exit→Fr→Heap→Prop} {xs:List IOper} {af:List (List Nat)} (hp:P.follows .mixedOrders=true)
  (h:DK P H.length 0 xs fr (H++[List.replicate xs.length .dead]) [] fun R fr' H'=>chk af R=true∧Q .normal fr' H'):AWP P N k (.draw xs af) Q fr H:=by
 obtain⟨R,fr',H',h1,h2,h3⟩:=h
 exact AWP.draw hp h1 h2 h3
theorem iO {α:Type} (f:α→List AV) (l:List α) (k:Nat) (h:k < l.length):eB (l.map f) (k:Int)=some (f l[k]):=by
 rw[mD,List.getElem?_map,gEg h]; rfl
theorem tI {g i:Nat} {fr:Fr} {H:Heap} {sz:Nat} {x ix:Operand} {k:IntKind} {n:Int} {rows:List (List AV)} {r:List AV} (hx:ev fr x=.list sz rows) (hi:ev fr ix=.sc (.int k n)) (hr:eB rows n=some r):
  aH g i (.idxSl sz x ix) fr H=some (.cptr r,H):=by simp[aH,hx,hi,hr]
theorem DI {g i:Nat} {fr:Fr} {H:Heap} {sz:Nat} {x ix:Operand} {k:IntKind} {q:Nat} {g' i' start len:Nat} {rows:List (List AV)} (hx:ev fr x=.hsl g' i' start len) (hi:ev fr ix=.sc (.int k (q:Int)))
  (hh:hget H g' i'=some (.cells sz rows)) (h1:q < len) (h2:start+len≤rows.length):
  aH g i (.idxSl sz x ix) fr H=some (.ptr g' i' (start+q) 0,H):=by
 have e1:Nat.blt q len=true:=by simpa[Nat.blt_eq] using h1
 have e2:Nat.ble (start+len) rows.length=true:=by simpa using h2
 simp only[aH,hi,hx]
 show(match hget H g' i' with
  | some (.cells s rows)=>match Nat.beq s sz && (Nat.blt q len && Nat.ble (start+len) rows.length) with
   | true=>some (AV.ptr g' i' (start+q) 0,H)
   | false=>none
  | _=>none)=_
 rw[hh]
 simp[e1,e2]
theorem Sub.leGet {k N:Nat} {fr fr':Fr} {H:Heap} (h:∀ t,Le (fr.get t) (fr'.get t)):Sub k N fr H fr' H:=
 fun M J _ _ hF hH hM=>⟨M,J,.refl k hH hM,hF.1,fun t=>h t M J _ (hF.2 t)⟩
theorem IB {fr:Fr} {t:Nat} {v:AV} (h:fr.get t=v) (u:Nat):Fr.get ((t,v)::fr) u=fr.get u:=by
 show(match Nat.beq t u with | true=>v | false=>Fr.get fr u)=_
 split
 ·rename_i e
  have:=Nat.eq_of_beq_eq_true e
  subst this
  exact h.symm
 ·rfl
theorem Reg.gs {P:Program} {N k:Nat} {xs:List IOper} {fr:Fr} {H:Heap} {K:Fr→Heap→Prop} {d:Option Nat} {t:Nat} {w:Bool} {a:IAct} {c:Bool} (hg:fr.get t=.sc (.bool c))
  (h1:c=true→Reg P N k (⟨d,some (t,w),a⟩::xs) ((t,.sc (.bool true))::fr) H K) (h2:c=false→Reg P N k (⟨d,some (t,w),a⟩::xs) ((t,.sc (.bool false))::fr) H K):
  Reg P N k (⟨d,some (t,w),a⟩::xs) fr H K:=by
 cases c with
 | true=>exact Reg.sub (Sub.leGet fun u=>by rw[IB hg u]; exact Le.refl _) (h1 rfl)
 | false=>exact Reg.sub (Sub.leGet fun u=>by rw[IB hg u]; exact Le.refl _) (h2 rfl)
theorem aQ.args {P:Program} {f:FuncId} {args args':List AV} {H:Heap} {R:AV→Heap→Prop} (h:aQ P f args' H R) (hl:args.length=args'.length) (hle:∀(j:Nat) a b,args[j]?=some a→args'[j]?=some b→Le a b):
  aQ P f args H R:=by
 refine⟨h.1,fun M J w cargs h1 h2 h3 h4=>h.2 M J w cargs (by omega) (fun j c v hc hv=>?_) h3 h4⟩
 have hj:=(gEs.1 hc).1
 have e:args[j]?=some args[j]:=gEg (by omega)
 exact hle j _ c e hc M J v (h2 j _ v e hv)
end Go.Av
namespace Go.Av
inductive fK (T:AV→AV→Prop):AV→AV→Prop
 | base {a b:AV} (h:T a b):fK T a b
 | undef (a:AV):fK T a .undef
 | refl (a:AV):fK T a a
 | agg (xs ys:List AV) (hl:xs.length=ys.length) (h:∀(j:Nat) x y,xs[j]?=some x→ys[j]?=some y→fK T x y):fK T (.agg xs) (.agg ys)
 | tup (xs ys:List AV) (hl:xs.length=ys.length) (h:∀(j:Nat) x y,xs[j]?=some x→ys[j]?=some y→fK T x y):fK T (.tup xs) (.tup ys)
 | cptr (xs ys:List AV) (hl:xs.length=ys.length) (h:∀(j:Nat) x y,xs[j]?=some x→ys[j]?=some y→fK T x y):fK T (.cptr xs) (.cptr ys)
 | list (sz:Nat) (rows rows':List (List AV)) (hl:rows.length=rows'.length) (hr:∀(i:Nat) (r r':List AV),rows[i]?=some r→rows'[i]?=some r'→r.length=r'.length)
   (h:∀(i:Nat) (r r':List AV) (j:Nat) x y,rows[i]?=some r→rows'[i]?=some r'→r[j]?=some x→r'[j]?=some y→fK T x y):fK T (.list sz rows) (.list sz rows')
 | clo (fn:Fn) (fs cs fs' cs':List AV) (h1:fs.length=fs'.length) (h2:cs.length=cs'.length)
   (h3:∀(j:Nat) x y,fs[j]?=some x→fs'[j]?=some y→fK T x y) (h4:∀(j:Nat) x y,cs[j]?=some x→cs'[j]?=some y→fK T x y):
   fK T (.clo fn fs cs) (.clo fn fs' cs')
theorem bG {α:Type} {xs ys:List α} (hl:xs.length=ys.length) {j:Nat} {y:α} (h:ys[j]?=some y):∃ x,xs[j]?=some x:=by
 have:=(gEs.1 h).1
 exact⟨xs[j],gEg (by omega)⟩
theorem fK.rep {T:AV→AV→Prop} {M J M' J'} (hx:Ext M J M' J') (hT:∀ a b v,T a b→Rep M J a v→Rep M' J' b v) {a b:AV} (h:fK T a b):∀ {v:Value},Rep M J a v→Rep M' J' b v:=by
 induction h with
 | base h=>exact fun hv=>hT _ _ _ h hv
 | undef a=>exact fun _=>.undef _
 | refl a=>exact fun hv=>hv.ext hx
 | agg xs ys hl _ ih=>
  intro v hv
  cases hv with
  | agg _ cvs hl' hr=>
   exact .agg ys cvs (by omega) fun j c v a b=>by
    obtain⟨x,hx⟩:=bG hl a
    exact ih j x c hx a (hr j x v hx b)
 | tup xs ys hl _ ih=>
  intro v hv
  cases hv with
  | tup _ cvs hl' hr=>
   exact .tup ys cvs (by omega) fun j c v a b=>by
    obtain⟨x,hx⟩:=bG hl a
    exact ih j x c hx a (hr j x v hx b)
 | cptr xs ys hl _ ih=>
  intro v hv
  cases hv with
  | cptr _ β off cs e fr hM hle hr=>
   refine .cptr ys β off cs e fr (hx.m _ _ hM) ?_ fun j c v a b=>?_
   ·rcases hle with rfl | hle
    ·left
     cases ys with | nil=>rfl | cons _ _=>simp at hl
    ·right; omega
   ·obtain⟨x,hx⟩:=bG hl a
    exact ih j x c hx a (hr j x v hx b)
 | list sz rows rows' hl hlr _ ih=>
  intro v hv
  cases hv with
  | nilList _ a cap=>
   have:rows'=[]:=by cases rows' with | nil=>rfl | cons _ _=>simp at hl
   subst this
   exact .nilList sz a cap
  | list _ _ β off cap n cs e fr hn hM hsz hle ho hr=>
   refine .list sz rows' β off cap n cs e fr (by omega) (hx.m _ _ hM) (fun i r' h=>?_) (by rw[← hl]; exact hle) (by rw[← hl]; exact ho) fun i r' j c v a b d=>?_
   ·obtain⟨r,h'⟩:=bG hl h
    rw[← hlr i r r' h' h]
    exact hsz i r h'
   ·obtain⟨r,h'⟩:=bG hl a
    obtain⟨x,hx⟩:=bG (hlr i r r' h' a) b
    exact ih i r r' j x c h' a hx b (hr i r j x v h' hx d)
 | clo fn fs cs fs' cs' h1 h2 _ _ ih1 ih2=>
  intro v hv
  cases hv with
  | clo _ _ _ cfs ccs hf hc g1 g2=>
   refine .clo fn fs' cs' cfs ccs (by omega) (by omega) (fun j c v a b=>?_) (fun j c v a b=>?_)
   ·obtain⟨x,hx⟩:=bG h1 a
    exact ih1 j x c hx a (g1 j x v hx b)
   ·obtain⟨x,hx⟩:=bG h2 a
    exact ih2 j x c hx a (g2 j x v hx b)
theorem bM.cong {T:AV→AV→Prop} {N M J M' J' fr fr' tmps} (hx:Ext M J M' J') (hT:∀ a b v,T a b→Rep M J a v→Rep M' J' b v) (h:bM N M J fr tmps) (hr:∀ x∈fr',fK T (fr.get x.1) x.2):bM N M' J' fr' tmps:=by
 refine⟨h.1,fun t=>?_⟩
 have key:fK T (fr.get t) (Fr.get fr' t):=by
  clear h
  induction fr' with
  | nil=>exact .undef _
  | cons p fr' ih=>
   obtain⟨d,v⟩:=p
   show fK T (fr.get t) (match Nat.beq d t with | true=>v | false=>Fr.get fr' t)
   split
   ·rename_i e
    have:d=t:=Nat.eq_of_beq_eq_true e
    subst this
    exact hr (d,v) (List.mem_cons_self ..)
   ·exact ih fun x hx=>hr x (List.mem_cons_of_mem _ hx)
 exact key.rep hx hT (h.2 t)
inductive n7 (T:AV→AV→Prop):Blk→Blk→Prop
 | refl (x:Blk):n7 T x x
 | cells (sz:Nat) (rows rows':List (List AV)) (hl:rows.length=rows'.length) (hr:∀(i:Nat) (r r':List AV),rows[i]?=some r→rows'[i]?=some r'→r.length=r'.length)
   (h:∀(i:Nat) (r r':List AV) (j:Nat) x y,rows[i]?=some r→rows'[i]?=some r'→r[j]?=some x→r'[j]?=some y→fK T x y):n7 T (.cells sz rows) (.cells sz rows')
 | lp (L:LC) (caps caps':Fr) (st:LoopState) (pe:Option Code) (h:∀ x∈caps',fK T (caps.get x.1) x.2):n7 T (.lp L caps st pe) (.lp L caps' st pe)
theorem n7.live {T x y} (h:n7 T x y) (hl:y.live=true):x.live=true:=by
 cases h with
 | refl=>exact hl
 | cells=>rfl
 | lp=>rfl
theorem n7.rep {T:AV→AV→Prop} {M J M' J'} (hx:Ext M J M' J') (hT:∀ a b v,T a b→Rep M J a v→Rep M' J' b v) {x y:Blk} (h:n7 T x y) {l:Loc} {hp:Array Obj} (hb:gZ M J l hp x):gZ M' J' l hp y:=by
 cases h with
 | refl=>exact hb.ext hx fun _ _=>rfl
 | lp L caps caps' st pe hr=>
  obtain⟨β,r,h0,h1,h2,h3,h4,h5,h6,h7,h8⟩:=hb
  exact⟨β,r,h0,h1,h2,h3,h4,h5,h6,h7,h8.cong hx hT hr⟩
 | cells sz rows rows' hl hlr hr=>
  obtain⟨h1,h2,h3⟩:=hb
  refine⟨h1,fun i r' hr'=>?_,?_⟩
  ·obtain⟨r,h'⟩:=bG hl hr'
   rw[← hlr i r r' h' hr']
   exact h2 i r h'
  ·cases e:l.blk with
   | none=>
    rw[e] at h3
    subst h3
    cases rows' with | nil=>rfl | cons _ _=>simp at hl
   | some β=>
    rw[e] at h3
    obtain⟨cs,t,a,b,c,o,d⟩:=h3
    refine⟨cs,t,a,b,by rw[← hl]; exact c,by rw[← hl]; exact o,fun i r' j y v p q s=>?_⟩
    obtain⟨r,h'⟩:=bG hl p
    obtain⟨x,hx'⟩:=bG (hlr i r r' h' p) q
    exact fK.rep hx hT (hr i r r' j x y h' p hx' q) (d i r j x v h' hx' s)
inductive GhT (H H':Heap):AV→AV→Prop
 | mk (g i sz:Nat) (h:hget H g i=none) (h':hget H' g i=some (.cells sz [])):GhT H H' (.sc (.slice none 0 0)) (.hsl g i 0 0)
structure tD (H H':Heap):Prop where
 blk:∀ g i x',hget H' g i=some x'→x'.live=true→(∃ x,hget H g i=some x∧n7 (GhT H H') x x')∨(hget H g i=none∧∃ sz,x'=.cells sz [])
 dom:∀ g i,(hget H g i).isSome→(hget H' g i).isSome
def Inj.ghost (J:Inj) (H H':Heap):Inj:=fun g i=>
 match hget H g i,hget H' g i with
 | none,some (.cells sz [])=>some ⟨none,sz,0⟩
 | _,_=>J g i
theorem bL.ghost {k M J H H'} {w:World} (hH:bJ M J H w.heap) (hM:bT M w.heap) (hg:tD H H'):bL k M J H w M (J.ghost H H') H' w∧Ext M J M (J.ghost H H') ∧
  ∀ a b v,GhT H H' a b→Rep M J a v→Rep M (J.ghost H H') b v:=by
 have hold:∀ g i,(hget H g i).isSome→J.ghost H H' g i=J g i:=by
  intro g i h
  obtain⟨x,hx⟩:=Option.isSome_iff_exists.1 h
  unfold Inj.ghost
  rw[hx]
 have hnew:∀ g i sz,hget H g i=none→hget H' g i=some (.cells sz [])→J.ghost H H' g i=some ⟨none,sz,0⟩:=by
  intro g i sz h h'
  unfold Inj.ghost
  rw[h,h']
 have hx:Ext M J M (J.ghost H H'):=⟨fun _ _ h=>h,fun g i l h=>by rw[hold g i (hH.dom g i l h).1]; exact h⟩
 have hT:∀ a b v,GhT H H' a b→Rep M J a v→Rep M (J.ghost H H') b v:=by
  intro a b v h hv
  cases h with
  | mk g i sz h h'=>
   cases hv
   exact .hslNil g i _ _ (hnew g i sz h h') rfl
 have key:∀ g i l,J.ghost H H' g i=some l→(J g i=some l∧(hget H g i).isSome)∨(l.blk=none∧∃ sz,hget H' g i=some (.cells sz [])):=by
  intro g i l h
  unfold Inj.ghost at h
  split at h
  ·rename_i sz e1 e2
   injection h with h
   subst h
   exact .inr ⟨rfl,sz,e2⟩
  ·exact .inl ⟨h,(hH.dom g i l h).1⟩
 have klive:∀ g i l β,bK H' g i→J.ghost H H' g i=some l→l.blk=some β→bK H g i∧J g i=some l:=by
  rintro g i l β ⟨x',h1,h2⟩ h3 h4
  rcases key g i l h3 with⟨h5,h6⟩ | ⟨h5,_⟩
  ·rcases hg.blk g i x' h1 h2 with⟨x,h7,h8⟩ | ⟨h7,_⟩
   ·exact⟨⟨x,h7,h8.live h2⟩,h5⟩
   ·rw[h7] at h6; cases h6
  ·rw[h5] at h4; cases h4
 refine⟨⟨fun _ _ h=>h,fun g i l _ h=>hx.j g i l h,⟨?_,?_,?_,?_⟩,hM,rfl,.refl _,rfl,Nat.le_refl _,fun _ _ h _=>h,fun _ _ h=>.inl h,?_,fun _ r h=>⟨r,h,rfl⟩⟩,hx,hT⟩
 ·intro g i x' h1 h2
  rcases hg.blk g i x' h1 h2 with⟨x,h3,h4⟩ | ⟨h3,sz,rfl⟩
  ·obtain⟨l,h5,h6⟩:=hH.blk g i x h3 (h4.live h2)
   exact⟨l,hx.j g i l h5,h4.rep hx hT h6⟩
  ·exact⟨_,hnew g i sz h3 h1,rfl,fun i r h=>by simp at h,rfl⟩
 ·intro g i g' i' l l' β a b c d e f
  obtain⟨a1,a2⟩:=klive g i l β a c e
  obtain⟨b1,b2⟩:=klive g' i' l' β b d f
  exact hH.inj g i g' i' l l' β a1 b1 a2 b2 e f
 ·intro g i l β a b c
  obtain⟨a1,a2⟩:=klive g i l β a b c
  exact hH.out g i l β a1 a2 c
 ·intro g i l h
  rcases key g i l h with⟨h1,h2⟩ | ⟨h1,sz,h2⟩
  ·exact⟨hg.dom g i h2,(hH.dom g i l h1).2⟩
  ·exact⟨by rw[h2]; rfl,fun β hβ=>by rw[h1] at hβ; cases hβ⟩
 ·intro g i l β a b c
  obtain⟨a1,a2⟩:=klive g i l β a b c
  exact .inl ⟨g,i,l,a1,a2,c⟩
theorem Sub.ghost {k N:Nat} {fr fr':Fr} {H H':Heap} (hg:tD H H') (h:∀ x∈fr',fK (GhT H H') (fr.get x.1) x.2):Sub k N fr H fr' H':=by
 intro M J tmps w hF hH hM
 obtain⟨h1,h2,h3⟩:=bL.ghost (k:=k) hH hM hg
 exact⟨M,_,h1,hF.cong h2 h3 h⟩
inductive FzT (H:Heap) (S:Nat→Nat→Bool):AV→AV→Prop
 | hsl (g i start len sz:Nat) (rows:List (List AV)) (hS:S g i=true) (h:hget H g i=some (.cells sz rows)) (hl:start+len≤rows.length):FzT H S (.hsl g i start len) (.list sz ((rows.drop start).take len))
 | ptr (g i row off sz:Nat) (rows:List (List AV)) (r:List AV) (hS:S g i=true) (h:hget H g i=some (.cells sz rows)) (hr:rows[row]?=some r):FzT H S (.ptr g i row off) (.cptr (r.drop off))
 | mref (g i:Nat) (es:List (Value×AV)) (hS:S g i=true) (h:hget H g i=some (.map es)):FzT H S (.mref g i) (.tmap es)
structure mO (H:Heap) (S:Nat→Nat→Bool) (H':Heap):Prop where
 blk:∀ g i x',hget H' g i=some x'→x'.live=true→S g i=false∧∃ x,hget H g i=some x∧n7 (FzT H S) x x'
 dom:∀ g i,(hget H g i).isSome→(hget H' g i).isSome
open Classical in
noncomputable def Mem.freeze (M:Mem) (J:Inj) (H:Heap) (S:Nat→Nat→Bool) (h:Array Obj):Mem:=fun β=>
 if ∃ g i l,S g i=true∧bK H g i∧J g i=some l∧l.blk=some β then h[β]? else M β
theorem bL.frz {k M J H S H'} {w:World} (hH:bJ M J H w.heap) (hM:bT M w.heap) (hf:mO H S H'):bL k M J H w (M.freeze J H S w.heap) J H' w∧Ext M J (M.freeze J H S w.heap) J ∧
  ∀ a b v,FzT H S a b→Rep M J a v→Rep (M.freeze J H S w.heap) J b v:=by
 have hin:∀ g i l β,S g i=true→bK H g i→J g i=some l→l.blk=some β→M.freeze J H S w.heap β=w.heap[β]?:=by
  intro g i l β a b c d
  unfold Mem.freeze
  rw[if_pos ⟨g,i,l,a,b,c,d⟩]
 have hx:Ext M J (M.freeze J H S w.heap) J:=by
  refine⟨fun β o h=>?_,fun _ _ _ h=>h⟩
  unfold Mem.freeze
  split
  ·rename_i e
   obtain⟨g,i,l,a,b,c,d⟩:=e
   rw[hH.out g i l β b c d] at h
   cases h
  ·exact h
 have hT:∀ a b v,FzT H S a b→Rep M J a v→Rep (M.freeze J H S w.heap) J b v:=by
  intro a b v h hv
  cases h with
  | hsl g i start len sz rows hS h hl=>
   have hlive:bK H g i:=⟨_,h,rfl⟩
   obtain⟨l',h1,h2,h3,h4⟩:=hH.blk g i _ h rfl
   cases hv with
   | hsl _ _ _ _ cap β l hJ hb hc hlc=>
    rw[hJ] at h1
    injection h1 with h1
    subst h1
    rw[hb] at h4
    obtain⟨cs,e,k1,k2,k3,k4,k5⟩:=h4
    have hm:M.freeze J H S w.heap β=some (.cells cs e (0,0)):=by rw[hin g i l β hS hlive hJ hb]; exact k1
    have hlen:((rows.drop start).take len).length=len:=by simp; omega
    have hrow:∀(q:Nat) r,((rows.drop start).take len)[q]?=some r→q < len∧rows[start+q]?=some r:=by
     intro q r hq
     have hql:=(gEs.1 hq).1
     rw[List.getElem?_take,List.getElem?_drop] at hq
     rw[hlen] at hql
     rw[if_pos hql] at hq
     exact⟨hql,hq⟩
    have hmul:∀ q,q≤len→start * sz+q * sz≤rows.length * sz:=by
     intro q hq
     rw[← Nat.add_mul]
     exact Nat.mul_le_mul_right _ (by omega)
    rw[h2]
    refine .list sz _ β (start * sz) cap len cs e (0,0) ⟨hlen.symm,hlc⟩ hm (fun q r hq=>h3 _ r (hrow q r hq).2) ?_ (fun j v hj hv=>?_) (fun q r j c v hq hc hv=>?_)
    ·rw[hlen]
     have:=hmul len (Nat.le_refl _)
     omega
    ·refine k4 _ v ?_ hv
     rw[hlen] at hj
     have:=hmul len (Nat.le_refl _)
     omega
    ·obtain⟨q1,q2⟩:=hrow q r hq
     refine(k5 _ r j c v q2 hc ?_).ext hx
     rw[Nat.add_mul]
     exact hv
   | hslNil _ _ a0 l hJ hb=>
    have hnil:rows=[]:=by
     rw[hJ] at h1
     injection h1 with h1
     subst h1
     rw[hb] at h4
     exact h4
    subst hnil
    simp only[List.drop_nil,List.take_nil]
    exact .nilList sz _ 0
  | ptr g i row off sz rows r hS h hr=>
   have hlive:bK H g i:=⟨_,h,rfl⟩
   obtain⟨l',h1,h2,h3,h4⟩:=hH.blk g i _ h rfl
   cases hv with
   | ptr _ _ _ _ β l hJ hb=>
    rw[hJ] at h1
    injection h1 with h1
    subst h1
    rw[hb] at h4
    obtain⟨cs,e,k1,k2,k3,k4,k5⟩:=h4
    have hm:M.freeze J H S w.heap β=some (.cells cs e (0,0)):=by rw[hin g i l β hS hlive hJ hb]; exact k1
    have hrl:=(gEs.1 hr).1
    have hlen:=h3 row r hr
    have hmul:row * sz+sz≤rows.length * sz:=by
     rw[show row * sz+sz=(row+1) * sz by rw[Nat.add_mul,Nat.one_mul]]
     exact Nat.mul_le_mul_right _ (by omega)
    rw[h2]
    refine .cptr _ β (row * sz+off) cs e (0,0) hm ?_ (fun j c v hc hv=>?_)
    ·rcases Nat.lt_or_ge off r.length with hlt | hge
     ·right
      rw[List.length_drop]
      omega
     ·left; exact List.drop_eq_nil_of_le hge
    ·rw[List.getElem?_drop] at hc
     refine(k5 row r (off+j) c v hr hc ?_).ext hx
     rw[← Nat.add_assoc]
     exact hv
  | mref g i es hS h=>
   have hlive:bK H g i:=⟨_,h,rfl⟩
   obtain⟨l',h1,β',ces,clock,h2,h3,h4,h5,h6,h7⟩:=hH.blk g i _ h rfl
   cases hv with
   | mref _ _ β l hJ hb=>
    rw[hJ] at h1
    injection h1 with h1
    subst h1
    rw[hb] at h2
    injection h2 with h2
    subst h2
    exact .tmap es β clock ces (by rw[hin g i l β hS hlive hJ hb]; exact h3) h7 h4 h5 fun j x y a b=>(h6 j x y a b).ext hx
 have klive:∀ g i,bK H' g i→S g i=false∧bK H g i:=by
  rintro g i ⟨x',h1,h2⟩
  obtain⟨h3,x,h4,h5⟩:=hf.blk g i x' h1 h2
  exact⟨h3,x,h4,h5.live h2⟩
 refine⟨⟨hx.m,fun _ _ _ _ h=>h,⟨?_,?_,?_,?_⟩,?_,rfl,.refl _,rfl,Nat.le_refl _,fun _ _ h _=>h,?_,?_,fun _ r h=>⟨r,h,rfl⟩⟩,hx,hT⟩
 ·intro g i x' h1 h2
  obtain⟨_,x,h4,h5⟩:=hf.blk g i x' h1 h2
  obtain⟨l,h6,h7⟩:=hH.blk g i x h4 (h5.live h2)
  exact⟨l,h6,h5.rep hx hT h7⟩
 ·intro g i g' i' l l' β a b c d e f
  exact hH.inj g i g' i' l l' β (klive g i a).2 (klive g' i' b).2 c d e f
 ·intro g i l β a b c
  obtain⟨a1,a2⟩:=klive g i a
  unfold Mem.freeze
  rw[if_neg]
  ·exact hH.out g i l β a2 b c
  ·rintro⟨g',i',l',p,q,r,s⟩
   obtain⟨rfl,rfl⟩:=hH.inj g i g' i' l l' β a2 q b r c s
   rw[a1] at p
   cases p
 ·intro g i l h
  have:=hH.dom g i l h
  exact⟨hf.dom g i this.1,this.2⟩
 ·intro β o h
  unfold Mem.freeze at h
  split at h
  ·exact h
  ·exact hM β o h
 ·intro β o h
  unfold Mem.freeze at h
  split at h
  ·rename_i e
   obtain⟨g,i,l,a,b,c,d⟩:=e
   exact .inr (.inr ⟨g,i,l,b,c,d⟩)
  ·exact .inl h
 ·intro g i l β a b c
  exact .inl ⟨g,i,l,(klive g i a).2,b,c⟩
theorem Sub.frz {k N:Nat} {fr fr':Fr} {H H':Heap} (S:Nat→Nat→Bool) (hf:mO H S H') (h:∀ x∈fr',fK (FzT H S) (fr.get x.1) x.2):Sub k N fr H fr' H':=by
 intro M J tmps w hF hH hM
 obtain⟨h1,h2,h3⟩:=bL.frz (k:=k) hH hM hf
 exact⟨_,J,h1,hF.cong h2 h3 h⟩
theorem gY.frz {k:Nat} {H H':Heap} {a b:AV} (S:Nat→Nat→Bool) (hf:mO H S H') (h:fK (FzT H S) a b):gY k H a H' b:=by
 intro M J v w hv hH hM
 obtain⟨h1,h2,h3⟩:=bL.frz (k:=k) hH hM hf
 exact⟨_,J,h1,h.rep h2 h3 hv⟩
end Go.Av
namespace Go.Av
theorem aQ.via {P:Program} {f:FuncId} {args args':List AV} {H0 H:Heap} {R R':AV→Heap→Prop} (ρ ρ':Nat→Nat→Option (Nat×Nat)) (h:aQ P f args' H0 R)
  (hl:args.length=args'.length) (hargs:∀(j:Nat) a b,args[j]?=some a→args'[j]?=some b→Ren ρ a b)
  (hρ:∀ g i p,ρ g i=some p→ρ' p.1 p.2=some (g,i)) (hρ':∀ g i q,ρ' g i=some q→ρ q.1 q.2=some (g,i))
  (h0:∀ g i x,hget H0 g i=some x→x.live=true∧∃ p y,ρ g i=some p∧hget H p.1 p.2=some y∧dC ρ y x)
  (hdom:∀ g i p,ρ g i=some p→(hget H0 g i).isSome)
  (hR:∀ res H',R res H'→(∀ g i,(hget H' g i).isSome→(hget H0 g i).isSome)∧∃ res' H'',Ren ρ' res res' ∧
   (∀ g i x,hget H'' g i=some x→x.live=true→(∃ q y,ρ' g i=some q∧hget H' q.1 q.2=some y∧dC ρ' y x)∨(ρ' g i=none∧hget H g i=some x)) ∧
   (∀ g i,(hget H g i).isSome→(hget H'' g i).isSome)∧R' res' H''):aQ P f args H R':=by
 refine⟨h.1,fun M J w cargs e1 e2 hH hM=>?_⟩
 have hlt:∀ {H:Heap} {g i:Nat},(hget H g i).isSome→g < H.length:=by
  intro H g i hs
  unfold hget at hs
  split at hs
  ·rename_i f e; exact(gEs.1 e).1
  ·cases hs
 have hJ1:∀ g i l,J.via ρ g i=some l→∃ p,ρ g i=some p∧J p.1 p.2=some l:=by
  intro g i l hl
  unfold Inj.via at hl
  split at hl
  ·rename_i g' i' e; exact⟨(g',i'),e,hl⟩
  ·cases hl
 have hlive0:∀ g i l,bK H0 g i→J.via ρ g i=some l→∃ p,ρ g i=some p∧J p.1 p.2=some l∧bK H p.1 p.2:=by
  rintro g i l ⟨x,hx,hxl⟩ hJ
  obtain⟨_,p,y,p1,p2,p3⟩:=h0 g i x hx
  obtain⟨p',q1,q2⟩:=hJ1 g i l hJ
  rw[p1] at q1
  injection q1 with q1
  subst q1
  exact⟨p,p1,q2,y,p2,p3.live hxl⟩
 have hH0:bJ M (J.via ρ) H0 w.heap:=by
  refine⟨fun g i x hx hxl=>?_,fun g i g' i' l l' β a b c d e f=>?_,fun g i l β a b c=>?_,fun g i l a=>?_⟩
  ·obtain⟨_,p,y,p1,p2,p3⟩:=h0 g i x hx
   obtain⟨l,q1,q2⟩:=hH.blk p.1 p.2 y p2 (p3.live hxl)
   exact⟨l,by rw[Inj.via_some (g':=p.1) (i':=p.2) p1]; exact q1,q2.ren p3⟩
  ·obtain⟨p,p1,p2,p3⟩:=hlive0 g i l a c
   obtain⟨q,q1,q2,q3⟩:=hlive0 g' i' l' b d
   obtain⟨r1,r2⟩:=hH.inj _ _ _ _ l l' β p3 q3 p2 q2 e f
   have hpq:p=q:=Prod.ext r1 r2
   subst hpq
   have:=(hρ g i p p1).symm.trans (hρ g' i' p q1)
   injection this with this
   injection this with t1 t2
   exact⟨t1,t2⟩
  ·obtain⟨p,p1,p2,p3⟩:=hlive0 g i l a b
   exact hH.out _ _ l β p3 p2 c
  ·obtain⟨p,p1,p2⟩:=hJ1 g i l a
   exact⟨hdom g i p p1,(hH.dom _ _ l p2).2⟩
 refine(h.2 M (J.via ρ) w cargs (by omega) (fun j c v hc hv=>?_) hH0 hM).mono ?_
 ·obtain⟨a,ha⟩:=bG hl hc
  exact(e2 j a v ha hv).ren (hargs j a c ha hc)
 ·rintro e w' ⟨v,M',J',res,H',rfl,s,hres,hr⟩
  obtain⟨hd,res',H'',r1,r2,r3,r4⟩:=hR res H' hr
  -- all that the callee knows the caller knows
  have hJ':∀ g i l,J' g i=some l→∃ p,ρ g i=some p∧J p.1 p.2=some l:=by
   intro g i l hl
   have hs:=hd g i (s.hrep.dom g i l hl).1
   obtain⟨x,hx⟩:=Option.isSome_iff_exists.1 hs
   obtain⟨hxl,p,y,p1,p2,p3⟩:=h0 g i x hx
   obtain⟨l1,q1,_⟩:=hH0.blk g i x hx hxl
   have:=s.j g i l1 (hlt hs) q1
   rw[hl] at this
   injection this with this
   subst this
   obtain⟨p',t1,t2⟩:=hJ1 g i l q1
   exact⟨p',t1,t2⟩
  have hback:Ext M' (J'.via ρ') M' J:=⟨fun _ _ h=>h,fun g i l hl=>by
   unfold Inj.via at hl
   split at hl
   ·rename_i g' i' e
    obtain⟨p,p1,p2⟩:=hJ' g' i' l hl
    have:=hρ' g i _ e
    rw[p1] at this
    injection this with this
    subst this
    exact p2
   ·cases hl⟩
  have hfwd:Ext M J M' J:=⟨s.m,fun _ _ _ h=>h⟩
  -- blocks that the callee does not see
  have hother:∀ g i l β,ρ' g i=none→bK H g i→J g i=some l→l.blk=some β→∀ g0 i0 l0,bK H0 g0 i0→J.via ρ g0 i0=some l0→l0.blk≠some β:=by
   intro g i l β hn hlv hJ hb g0 i0 l0 a b c
   obtain⟨p,p1,p2,p3⟩:=hlive0 g0 i0 l0 a b
   obtain⟨t1,t2⟩:=hH.inj _ _ _ _ l l0 β hlv p3 hJ p2 hb c
   have:=hρ g0 i0 p p1
   rw[← t1,← t2,hn] at this
   cases this
  have hlive':∀ g i l β,bK H'' g i→J g i=some l→l.blk=some β→(∃ q,ρ' g i=some q∧bK H' q.1 q.2∧J' q.1 q.2=some l)∨(ρ' g i=none∧bK H g i):=by
   rintro g i l β ⟨x,hx,hxl⟩ hJ hb
   rcases r2 g i x hx hxl with⟨q,y,q1,q2,q3⟩ | ⟨q1,q2⟩
   ·left
    refine⟨q,q1,⟨y,q2,q3.live hxl⟩,?_⟩
    obtain⟨l',t1,_⟩:=s.hrep.blk q.1 q.2 y q2 (q3.live hxl)
    obtain⟨p,p1,p2⟩:=hJ' _ _ _ t1
    have:=hρ' g i q q1
    rw[p1] at this
    injection this with this
    subst this
    rw[hJ] at p2
    injection p2 with p2
    subst p2
    exact t1
   ·exact .inr ⟨q1,x,q2,hxl⟩
  refine⟨v,M',J,res',H'',rfl,⟨s.m,fun _ _ _ _ h=>h,⟨?_,?_,?_,?_⟩,s.mrep,s.os,s.tape,s.output,s.size,?_,?_,?_,s.bk⟩,(hres.ren r1).ext hback,r4⟩
  ·intro g i x hx hxl
   rcases r2 g i x hx hxl with⟨q,y,q1,q2,q3⟩ | ⟨q1,q2⟩
   ·obtain⟨l,t1,t2⟩:=s.hrep.blk q.1 q.2 y q2 (q3.live hxl)
    refine⟨l,hback.j g i l (by rw[Inj.via_some (g':=q.1) (i':=q.2) q1]; exact t1),(t2.ren q3).ext hback fun _ _=>rfl⟩
   ·obtain⟨l,t1,t2⟩:=hH.blk g i x q2 hxl
    refine⟨l,t1,t2.ext hfwd fun β hβ=>?_⟩
    have hb:=(hH.dom g i l t1).2 β hβ
    rw[Array.getElem?_eq_getElem hb]
    exact s.frame β _ (Array.getElem?_eq_getElem hb) (hother g i l β q1 ⟨x,q2,hxl⟩ t1 hβ)
  ·intro g i g' i' l l' β a b c d e f
   rcases hlive' g i l β a c e with⟨q,q1,q2,q3⟩ | ⟨q1,q2⟩<;>rcases hlive' g' i' l' β b d f with⟨p,p1,p2,p3⟩ | ⟨p1,p2⟩
   ·obtain⟨t1,t2⟩:=s.hrep.inj _ _ _ _ l l' β q2 p2 q3 p3 e f
    have hpq:q=p:=Prod.ext t1 t2
    subst hpq
    have:=(hρ' g i q q1).symm.trans (hρ' g' i' q p1)
    injection this with this
    injection this with t1 t2
    exact⟨t1,t2⟩
   ·exfalso
    rcases s.live _ _ l β q2 q3 e with⟨g0,i0,l0,u1,u2,u3⟩ | u
    ·exact hother g' i' l' β p1 p2 d f g0 i0 l0 u1 u2 u3
    ·have:=(hH.dom g' i' l' d).2 β f; omega
   ·exfalso
    rcases s.live _ _ l' β p2 p3 f with⟨g0,i0,l0,u1,u2,u3⟩ | u
    ·exact hother g i l β q1 q2 c e g0 i0 l0 u1 u2 u3
    ·have:=(hH.dom g i l c).2 β e; omega
   ·exact hH.inj g i g' i' l l' β q2 p2 c d e f
  ·intro g i l β a b c
   rcases hlive' g i l β a b c with⟨q,q1,q2,q3⟩ | ⟨q1,q2⟩
   ·exact s.hrep.out _ _ l β q2 q3 c
   ·cases e:M' β with
    | none=>rfl
    | some o=>
     exfalso
     rcases s.fresh β o e with u | u | ⟨g0,i0,l0,u1,u2,u3⟩
     ·rw[hH.out g i l β q2 b c] at u; cases u
     ·have:=(hH.dom g i l b).2 β c; omega
     ·exact hother g i l β q1 q2 b c g0 i0 l0 u1 u2 u3
  ·intro g i l a
   have:=hH.dom g i l a
   exact⟨r3 g i this.1,fun β hβ=>Nat.lt_of_lt_of_le (this.2 β hβ) s.size⟩
  ·intro β o ho hn
   refine s.frame β o ho fun g0 i0 l0 a b c=>?_
   obtain⟨p,p1,p2,p3⟩:=hlive0 g0 i0 l0 a b
   exact hn _ _ l0 p3 p2 c
  ·intro β o ho
   rcases s.fresh β o ho with u | u | ⟨g0,i0,l0,u1,u2,u3⟩
   ·exact .inl u
   ·exact .inr (.inl u)
   ·obtain⟨p,p1,p2,p3⟩:=hlive0 g0 i0 l0 u1 u2
    exact .inr (.inr ⟨_,_,l0,p3,p2,u3⟩)
  ·intro g i l β a b c
   rcases hlive' g i l β a b c with⟨q,q1,q2,q3⟩ | ⟨q1,q2⟩
   ·rcases s.live _ _ l β q2 q3 c with⟨g0,i0,l0,u1,u2,u3⟩ | u
    ·obtain⟨p,p1,p2,p3⟩:=hlive0 g0 i0 l0 u1 u2
     exact .inl ⟨_,_,l0,p3,p2,u3⟩
    ·exact .inr u
   ·exact .inl ⟨g,i,l,q2,b,c⟩
def kU:Blk→Prop
 | .dead=>False
 | .cells _ rows=>∀ r∈rows,∀ c∈r,bQ c
 | .map es=>∀ x∈es,bQ x.2
 | .lp ..=>False
 | .umap ..=>False
 | .it ..=>False
theorem kU.ren {ρ:Nat→Nat→Option (Nat×Nat)} {x:Blk} (h:kU x):dC ρ x x:=by
 cases x with
 | dead=>exact h.elim
 | lp=>exact h.elim
 | umap=>exact h.elim
 | it=>exact h.elim
 | cells sz rows=>exact .pure sz rows h
 | map es=>exact .pureMap es h
theorem kU.live {x:Blk} (h:kU x):x.live=true:=by cases x<;>first | exact h.elim | rfl
def to1 (g i:Nat) (a b:Nat):Option (Nat×Nat):=match Nat.beq a 0 && Nat.beq b 0 with
 | true=>some (g,i)
 | false=>none
def yE (g i:Nat) (a b:Nat):Option (Nat×Nat):=match Nat.beq a g && Nat.beq b i with
 | true=>some (0,0)
 | false=>none
theorem BQ {g i a b:Nat} {p:Nat×Nat} (h:to1 g i a b=some p):a=0∧b=0∧p=(g,i):=by
 unfold to1 at h
 split at h
 ·rename_i e
  simp only[Bool.and_eq_true] at e
  injection h with h
  exact⟨Nat.eq_of_beq_eq_true e.1,Nat.eq_of_beq_eq_true e.2,h.symm⟩
 ·cases h
theorem vE {g i a b:Nat} {p:Nat×Nat} (h:yE g i a b=some p):a=g∧b=i∧p=(0,0):=by
 unfold yE at h
 split at h
 ·rename_i e
  simp only[Bool.and_eq_true] at e
  injection h with h
  exact⟨Nat.eq_of_beq_eq_true e.1,Nat.eq_of_beq_eq_true e.2,h.symm⟩
 ·cases h
theorem vG (g i:Nat):yE g i g i=some (0,0):=by simp[yE]
theorem CH (x:Blk) {g i:Nat} {y:Blk} (h:hget [[x]] g i=some y):g=0∧i=0∧y=x:=by
 unfold hget at h
 cases g with
 | zero=>
  simp only[List.getElem?_cons_zero] at h
  cases i with
  | zero=>simp at h; exact⟨rfl,rfl,h.symm⟩
  | succ i=>simp at h
 | succ g=>simp at h
def mN (ρ:Nat→Nat→Option (Nat×Nat)):List AV→List AV→Prop
 | [],[]=>True
 | a::l,b::m=>Ren ρ a b∧mN ρ l m
 | _,_=>False
theorem mN.spec {ρ}:∀ {l m:List AV},mN ρ l m→l.length=m.length∧∀(j:Nat) a b,l[j]?=some a→m[j]?=some b→Ren ρ a b
 | [],[],_=>⟨rfl,fun j a b h=>by simp at h⟩
 | [],_::_,h=>h.elim
 | _::_,[],h=>h.elim
 | x::l,y::m,⟨h1,h2⟩=>by
  obtain⟨h3,h4⟩:=mN.spec h2
  refine⟨by simp[h3],fun j a b ha hb=>?_⟩
  cases j with
  | zero=>simp at ha hb; subst ha; subst hb; exact h1
  | succ j=>exact h4 j a b (by simpa using ha) (by simpa using hb)
theorem aQ.via1 {P:Program} {f:FuncId} {args args':List AV} {H:Heap} {x:Blk} (g i:Nat) {R:AV→Blk→Prop} (h:aQ P f args' [[x]] fun res H'=>∃ y,H'=[[y]]∧bQ res∧kU y∧R res y) (hx:hget H g i=some x) (hp:kU x)
  (ha:mN (to1 g i) args args'):aQ P f args H fun res H'=>∃ y,H'=bH H g i y∧R res y:=by
 obtain⟨hl,hargs⟩:=ha.spec
 refine aQ.via (to1 g i) (yE g i) h hl hargs (fun a b p e=>?_) (fun a b q e=>?_) (fun a b y e=>?_) (fun a b p e=>?_) fun res H' hr=>?_
 ·obtain⟨rfl,rfl,rfl⟩:=BQ e
  exact vG g i
 ·obtain⟨rfl,rfl,rfl⟩:=vE e
  rfl
 ·obtain⟨rfl,rfl,rfl⟩:=CH x e
  exact⟨hp.live,(g,i),y,rfl,hx,hp.ren⟩
 ·obtain⟨rfl,rfl,rfl⟩:=BQ e
  rfl
 ·obtain⟨y,rfl,hres,hy,hR⟩:=hr
  have hok':hok H g i:=.inl (by rw[hx]; rfl)
  refine⟨fun a b e=>?_,res,bH H g i y,.pure hres,fun a b z hz hzl=>?_,fun a b e=>?_,y,rfl,hR⟩
  ·obtain⟨z,hz⟩:=Option.isSome_iff_exists.1 e
   obtain⟨rfl,rfl,rfl⟩:=CH y hz
   rfl
  ·rw[bB _ _ _ _ _ _ hok'] at hz
   split at hz
   ·rename_i e
    obtain⟨rfl,rfl⟩:=e
    injection hz with hz
    subst hz
    exact .inl ⟨(0,0),y,vG a b,rfl,hy.ren⟩
   ·rename_i e
    refine .inr ⟨?_,hz⟩
    cases e':yE g i a b with
    | none=>rfl
    | some q=>
     obtain⟨rfl,rfl,_⟩:=vE e'
     exact absurd ⟨rfl,rfl⟩ e
  ·rw[bB _ _ _ _ _ _ hok']
   split
   ·rfl
   ·exact e
def low (k:Nat) (g i:Nat):Option (Nat×Nat):=match Nat.blt g k with
 | true=>some (g,i)
 | false=>none
end Go.Av
