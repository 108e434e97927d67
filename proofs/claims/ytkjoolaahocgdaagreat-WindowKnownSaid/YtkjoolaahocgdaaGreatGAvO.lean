import Derived.Test.YtkjoolaahocgdaaGreatGAv22
import Derived.Below
import Derived.ChangeSame
import Derived.ProofKit
import Derived.OpenShut
import Derived.ReadAgain
import Derived.JoinedOf
import Derived.ChangeCalls
namespace Go.Av
theorem eH {P:Program} {ops:Array Oper} {Q:Exit→Act→World→Prop} {l2:List Nat}:∀(l:List Nat) (a:Act) (w:World),wpOps P ops (fun e a w=>e=.normal∧wpOps P ops Q l2 a w) l a w→wpOps P ops Q (l++l2) a w
 | [],a,w,h=>h.2
 | i::l,a,w,h=>by
  show wpOps P ops Q (i::(l++l2)) a w
  simp only[wpOps] at h ⊢
  split at h
  ·exact eH l a w h
  ·rename_i o e
   split at h
   ·rename_i hw
    rw[if_pos hw]
    rcases h with h | ⟨_,a',w',h,_⟩
    ·left
     unfold Oper.wp at h ⊢
     generalize (execOp a.eval o).run P w=r at *
     cases r with
     | ok n w'=>
      cases n<;>simp only[Oper.upon] at h ⊢
      all_goals first
       | exact eH l _ _ h
       | exact Calls.mono h (fun e w'' he=>by
         cases e
         ·exact eH l _ _ he
         ·cases he.1
         ·obtain⟨_,_,h,_⟩:=he; cases h)
       | exact Rows.mono h (fun _ _ he=>eH l _ _ he)
     | halt x w'=>
      cases x<;>simp only[Oper.upon] at h ⊢<;>cases h.1
    ·cases h
   ·rename_i hw
    rw[if_neg hw]
    exact eH l _ _ h
def kD {α:Type}:List α→Option (List α×α)
 | []=>none
 | [x]=>some ([],x)
 | x::y::r=>match kD (y::r) with
  | some (l,z)=>some (x::l,z)
  | none=>none
theorem qP {α:Type}:∀ {zs xs:List α} {y:α},kD zs=some (xs,y)→zs=xs++[y]
 | [],xs,y,h=>by cases h
 | [x],xs,y,h=>by simp[kD] at h; obtain⟨rfl,rfl⟩:=h; rfl
 | x::z::r,xs,y,h=>by
  simp only[kD] at h
  split at h
  ·rename_i l u e
   injection h with h
   injection h with h1 h2
   subst h1; subst h2
   rw[qP e]
   rfl
  ·cases h
def NX (af:List (List Nat)) (R:List cV):Bool:=
 yP 0 af && (v7 af R 0 R && (Nat.beq af.length (R.length+1) && (List.range R.length).all fun j=>qM af af.length j R.length))
theorem AWP.drawLast {P:Program} {N k:Nat} {fr:Fr} {H:Heap} {Q:Exit→Fr→Heap→Prop} {zs xs:List IOper} {y:IOper} {af:List (List Nat)} {R:List cV} {fr':Fr} {H':Heap} (hz:kD zs=some (xs,y)) (hp:P.follows .mixedOrders=true)
  (hrun:j9 P H.length 0 xs fr (H++[List.replicate zs.length .dead]) R fr' H') (hchk:NX af R=true) (h:Reg P N k [y] fr' H' (Q .normal)):AWP P N k (.draw zs af) Q fr H:=by
 have hz:=qP hz
 intro c0 hc cx M J tmps w hcx hF hH hM
 cases c0 with
 | region id ops draw=>
  simp only[cN] at hc
  split at hc
  ·rename_i ys hys
   cases draw with
   | false=>cases hc
   | true=>
    injection hc with hc
    injection hc with hc1 hc2
    subst hc1; subst hc2
    refine wpIn_region_draw fun t=>iS hcx ?_
    rw[hp]
    have hsch:Region.schedule true ops t=Region.linearise .any ops t:=by simp[Region.schedule]
    rw[hsch]
    obtain⟨hlen,hgx⟩:=iV _ _ hys
    obtain⟨hrx,hrid⟩:=hrun.recs
    have hsz:ops.size=R.length+1:=by
     have:=congrArg List.length hrx
     simp at this
     rw[this]
     have h2:ys.length=ops.size:=by rw[hlen]; simp
     rw[← h2,hz]
     simp
    have hyget:∀(j:Nat) (x:IOper),xs[j]?=some x→ys[j]?=some x:=by
     intro j x hj
     rw[hz,List.getElem?_append_left (gEs.1 hj).1]
     exact hj
    have hxlen:xs.length=R.length:=by rw[← hrx]; simp
    let R':Nat→cV:=fun j=>R.getD j ⟨⟨none,none,.call 0 []⟩,(0,0),.undef,[],[]⟩
    have hR':∀ j,j < R.length→R[j]?=some (R' j):=by
     intro j hj
     simp[R',List.getD,hj]
    have haf:∀ j l,(ops.toList.map d8)[j]?=some l→cF ops j=l:=by
     intro j l hj
     rw[List.getElem?_map,Array.getElem?_toList] at hj
     unfold cF
     cases ho:ops[j]? with
     | none=>rw[ho] at hj; cases hj
     | some o=>rw[ho] at hj; simpa using hj
    simp only[NX,Bool.and_eq_true] at hchk
    obtain⟨hc1,hc2,_,hc4⟩:=hchk
    have hs:=eM ops (fun a b=>b < R.length∧jG (R' a) (R' b)=true) (fun j k hk=>by
     have hl:(ops.toList.map d8)[j]?=some (cF ops j):=by
      rw[List.getElem?_map,Array.getElem?_toList]
      unfold cF at hk ⊢
      cases ho:ops[j]? with
      | none=>rw[ho] at hk; cases hk
      | some o=>rfl
     have:=iR _ 0 hc1 j _ hl k hk
     omega) (fun a b hab hb=>by
     by_cases hbn:b < R.length
     ·have h1:=mP _ 0 hc2 b _ (hR' b hbn)
      rcases qH _ 0 h1 a _ (hR' a (by omega)) (by omega) with h2 | h2
      ·left
       rw[Nat.zero_add,Nat.zero_add] at h2
       exact eT haf _ _ _ h2
      ·exact .inr ⟨hbn,h2⟩
     ·have hbe:b=R.length:=by omega
      subst hbe
      left
      exact eT haf _ _ _ (List.all_eq_true.1 hc4 a (List.mem_range.2 hab))) t
    rw[hsz,List.range_succ] at hs
    obtain⟨l',hl',hs'⟩:=hs.last (n:=R.length) (fun a ha=>by have:=ha.1; omega) (List.range R.length) (by simp) rfl
    have hs:=hs'.to (R:=R') fun a b hab=>hab.2
    rw[hl']
    refine eH l' _ _ ?_
    have hrem:((List.range R.length).map fun j=>(j,R' j)).map (·.2)=R:=by
     apply List.ext_getElem?
     intro j
     rw[List.map_map,List.getElem?_map]
     by_cases hj:j < R.length
     ·rw[hR' j hj,List.getElem?_range hj]
      rfl
     ·have h1:(List.range R.length)[j]?=none:=List.getElem?_eq_none (by rw[List.length_range]; omega)
      have h2:R[j]?=none:=List.getElem?_eq_none (by omega)
      rw[h1,h2]
      rfl
    have hdead:∀ g i x,hget (H++[List.replicate ys.length Blk.dead]) g i=some x→x.live=true→hget H g i=some x:=by
     intro g i x hx hl
     rw[dI] at hx
     split at hx
     ·rw[List.getElem?_replicate] at hx
      split at hx
      ·injection hx with hx; subst hx; cases hl
      ·cases hx
     ·exact hx
    have hH0:bJ M J (H++[List.replicate ys.length .dead]) w.heap:=by
     refine⟨fun g i x hx hl=>hH.blk g i x (hdead g i x hx hl) hl,fun g i g' i' l l' β ⟨x,hx,hl⟩ ⟨y,hy,hl'⟩=>hH.inj g i g' i' l l' β ⟨x,hdead _ _ _ hx hl,hl⟩ ⟨y,hdead _ _ _ hy hl',hl'⟩,
      fun g i l β ⟨x,hx,hl⟩=>hH.out g i l β ⟨x,hdead _ _ _ hx hl,hl⟩,fun g i l hJ=>?_⟩
     have:=hH.dom g i l hJ
     refine⟨?_,this.2⟩
     rw[dI]
     split
     ·rename_i e
      subst e
      have h2:=this.1
      simp[hget] at h2
     ·exact this.1
    have hids:∀ j,j < R.length→(R' j).id=(H.length,j):=fun j hj=>by rw[hrid j _ (hR' j hj),Nat.zero_add]
    have hlive:∀ g i,bK (H++[List.replicate ys.length Blk.dead]) g i→bK H g i:=fun g i ⟨x,hx,hl⟩=>⟨x,hdead g i x hx hl,hl⟩
    refine sV (k:=k) (N:=N) (t:=(fr',H')) hs (fun p hp=>?_) ?_ (fr,H++[List.replicate ys.length .dead]) M J tmps { w with drawn:=w.drawn+1 } hF hH0 hM (by rw[hrem]; exact hrun.run) (fun p hp=>?_) _ fun a' w' hp=>⟨rfl,?_⟩
    ·obtain⟨j,hj,rfl⟩:=List.mem_map.1 hp
     have hj:=List.mem_range.1 hj
     have ho:ops[j]?=some ops[j]:=Array.getElem?_eq_getElem (by omega)
     obtain⟨x,hx1,hx2⟩:=hgx j ops[j] (by rw[Array.getElem?_toList]; exact ho)
     refine⟨ops[j],ho,?_⟩
     have:some (R' j).x=some x:=by
      rw[← hx1]
      have h3:xs[j]?=some (R' j).x:=by rw[← hrx,List.getElem?_map,hR' j hj]; rfl
      rw[hyget j _ h3]
     injection this with this
     rw[this]
     exact hx2
    ·rw[List.map_map]
     have he:(List.range R.length).map ((fun x:Nat×cV=>x.2.id) ∘ fun j=>(j,R' j))=(List.range R.length).map fun j=>(H.length,j):=
      List.map_congr_left fun j hj=>hids j (List.mem_range.1 hj)
     rw[he]
     exact List.Pairwise.map _ (fun a b hab e=>hab (by injection e)) List.nodup_range
    ·obtain⟨j,hj,rfl⟩:=List.mem_map.1 hp
     have hj:=List.mem_range.1 hj
     rw[hids j hj]
     refine⟨?_,?_⟩
     ·rw[dI,if_pos rfl,List.getElem?_replicate,if_pos (by rw[hlen]; simp; omega)]
      rfl
     ·cases e:J H.length j with
      | none=>rfl
      | some l=>
       have:=(hH.dom _ _ l e).1
       simp[hget] at this
    ·obtain⟨M2,J2,fr2,H2,q1,q2,q3,q4,q5⟩:=hp
     subst q4; subst q5
     obtain⟨a't,a'd⟩:=a'
     cases q3
     have q1':bL k M J H w M2 J2 H2 w':=
      ⟨q1.m,q1.j,q1.hrep,q1.mrep,q1.os,(by first | exact q1.tape | exact⟨q1.tape.1,Nat.le_trans (Nat.le_succ _) q1.tape.2⟩),q1.output,q1.size,fun β o ho hn=>q1.frame β o ho fun g i l hl hJ=>hn g i l (hlive g i hl) hJ,
       fun β o ho=>or2 (q1.fresh β o ho) (fun h=>h) fun h=>or2 h (fun h=>h) fun⟨g,i,l,a,b,c⟩=>⟨g,i,l,hlive g i a,b,c⟩,
       fun g i l β a b c=>or2 (q1.live g i l β a b c) (fun⟨g0,i0,l0,a,b,c⟩=>⟨g0,i0,l0,hlive g0 i0 a,b,c⟩) fun h=>h,q1.bk⟩
     have ho:ops[R.length]?=some ops[R.length]:=Array.getElem?_eq_getElem (by omega)
     obtain⟨x,hx1,hx2⟩:=hgx R.length ops[R.length] (by rw[Array.getElem?_toList]; exact ho)
     have hxy:x=y:=by
      rw[hz,← hxlen,List.getElem?_append_right (Nat.le_refl _),Nat.sub_self] at hx1
      simpa using hx1.symm
     subst hxy
     refine h ops [R.length] ⟨⟨_,ho,hx2⟩,trivial⟩ M2 J2 a't w' q2 q1.hrep q1.mrep _ fun a'' w'' hp=>?_
     obtain⟨M3,J3,fr3,H3,r1,r2,r3,r4⟩:=hp
     exact⟨rfl,M3,J3,fr3,H3,q1'.trans r1,r2,r3,r4⟩
  ·cases hc
 | _=>simp only[cN] at hc; (try split at hc)<;>(try cases hc)<;>(try simp at hc)
theorem AWP.dkl {P:Program} {N k:Nat} {fr:Fr} {H:Heap} {Q:Exit→Fr→Heap→Prop} {zs xs:List IOper} {y:IOper} {af:List (List Nat)} (hz:kD zs=some (xs,y)) (hp:P.follows .mixedOrders=true)
  (h:DK P H.length 0 xs fr (H++[List.replicate zs.length .dead]) [] fun R fr' H'=>NX af R=true∧Reg P N k [y] fr' H' (Q .normal)):AWP P N k (.draw zs af) Q fr H:=by
 obtain⟨R,fr',H',h1,h2,h3⟩:=h
 exact AWP.drawLast hz hp h1 h2 h3
def D0 (g i:Nat):Option (Nat×Nat):=match Nat.blt g 2 && Nat.beq i 0 with
 | true=>some (g,i)
 | false=>none
theorem lP {g i:Nat} {p:Nat×Nat} (h:D0 g i=some p):g < 2∧i=0∧p=(g,i):=by
 unfold D0 at h
 split at h
 ·rename_i e
  simp only[Bool.and_eq_true] at e
  injection h with h
  exact⟨nlB e.1,Nat.eq_of_beq_eq_true e.2,h.symm⟩
 ·cases h
theorem aQ.two {P:Program} {f:FuncId} {args:List AV} {a b:Blk} {X:Heap} {R:AV→Blk→Blk→Prop} (h:aQ P f args [[a],[b]] fun res H'=>∃ a' b',H'=[[a'],[b']]∧bQ res∧kU a'∧kU b'∧R res a' b') (ha:kU a) (hb:kU b)
  (hargs:mN D0 args args):aQ P f args ([a]::[b]::X) fun res H'=>∃ a' b',H'=[a']::[b']::X∧kU a'∧kU b'∧R res a' b':=by
 have hcase:∀(a b:Blk) (X:Heap) g i,g < 2→i=0→hget ([a]::[b]::X) g i=some (match g with | 0=>a | _=>b):=by
  intro a b X g i hg hi
  subst hi
  match g,hg with
  | 0,_=>rfl
  | 1,_=>rfl
 have hinv:∀(a b:Blk) g i x,hget [[a],[b]] g i=some x→g < 2∧i=0∧x=(match g with | 0=>a | _=>b):=by
  intro a b g i x h
  match g,i with
  | 0,0=>exact⟨by omega,rfl,by simpa[hget] using h.symm⟩
  | 1,0=>exact⟨by omega,rfl,by simpa[hget] using h.symm⟩
  | 0,i+1=>simp[hget] at h
  | 1,i+1=>simp[hget] at h
  | g+2,i=>simp[hget] at h
 have hl2:∀ g i,g < 2→i=0→D0 g i=some (g,i):=by
  intro g i hg hi
  subst hi
  match g,hg with
  | 0,_=>rfl
  | 1,_=>rfl
 refine aQ.via D0 D0 h rfl hargs.spec.2 (fun g i p e=>?_) (fun g i p e=>?_) (fun g i x e=>?_) (fun g i p e=>?_) fun res H' hr=>?_
 ·obtain⟨h1,h2,rfl⟩:=lP e
  exact e
 ·obtain⟨h1,h2,rfl⟩:=lP e
  exact e
 ·obtain⟨h1,h2,h3⟩:=hinv a b g i x e
  have hx:kU x:=by
   subst h3
   split
   ·exact ha
   ·exact hb
  exact⟨hx.live,(g,i),x,hl2 g i h1 h2,by rw[hcase a b X g i h1 h2,h3],hx.ren⟩
 ·obtain⟨h1,h2,rfl⟩:=lP e
  rw[hcase a b [] g i h1 h2]
  rfl
 ·obtain⟨a',b',rfl,h1,h2,h3,h4⟩:=hr
  refine⟨fun g i e=>?_,res,[a']::[b']::X,.pure h1,fun g i x hx hxl=>?_,fun g i e=>?_,a',b',rfl,h2,h3,h4⟩
  ·obtain⟨x,hx⟩:=Option.isSome_iff_exists.1 e
   obtain⟨p1,p2,_⟩:=hinv a' b' g i x hx
   rw[hcase a b [] g i p1 p2]
   rfl
  ·by_cases hg:g < 2∧i=0
   ·rw[hcase a' b' X g i hg.1 hg.2] at hx
    injection hx with hx
    left
    refine⟨(g,i),x,hl2 g i hg.1 hg.2,by rw[hcase a' b' [] g i hg.1 hg.2,hx],kU.ren ?_⟩
    subst hx
    split
    ·exact h2
    ·exact h3
   ·right
    refine⟨?_,?_⟩
    ·cases e:D0 g i with
     | none=>rfl
     | some p=>exact absurd ⟨(lP e).1,(lP e).2.1⟩ hg
    ·match g,i,hg,hx with
     | 0,i+1,_,hx=>simp[hget] at hx
     | 1,i+1,_,hx=>simp[hget] at hx
     | g+2,i,_,hx=>exact hx
     | 0,0,hg,_=>exact absurd ⟨by omega,rfl⟩ hg
     | 1,0,hg,_=>exact absurd ⟨by omega,rfl⟩ hg
  ·match g,i with
   | 0,0=>rfl
   | 1,0=>rfl
   | 0,i+1=>simp[hget] at e
   | 1,i+1=>simp[hget] at e
   | g+2,i=>exact e
end Go.Av
namespace Go.Av
theorem tD.push (H:Heap) (sz:Nat):tD H (H++[[.cells sz []]]):=by
 refine⟨fun g i x' hx hl=>?_,fun g i h=>?_⟩
 ·rw[dI] at hx
  split at hx
  ·rename_i e
   subst e
   right
   refine⟨by simp[hget],sz,?_⟩
   cases i with
   | zero=>simpa using hx.symm
   | succ i=>simp at hx
  ·exact .inl ⟨x',hx,.refl _⟩
 ·rw[dI]
  split
  ·rename_i e
   subst e
   simp[hget] at h
  ·exact h
theorem GhT.push (H:Heap) (sz:Nat):GhT H (H++[[.cells sz []]]) (.sc (.slice none 0 0)) (.hsl H.length 0 0 0):=
 .mk H.length 0 sz (by simp[hget]) (by rw[dI,if_pos rfl]; rfl)
def uG (T:AV→AV→Prop) (fr:Fr):Fr→Prop
 | []=>True
 | x::r=>fK T (fr.get x.1) x.2∧uG T fr r
theorem uG.mem {T fr}:∀ {fr':Fr},uG T fr fr'→∀ x∈fr',fK T (fr.get x.1) x.2
 | [],_,x,h=>by cases h
 | _::_,⟨h1,h2⟩,x,h=>by
  cases h with
  | head=>exact h1
  | tail _ h=>exact uG.mem h2 x h
def allS (_ _:Nat):Bool:=true
def ES (H:Heap):Heap:=H.map fun f=>f.map fun _=>.dead
theorem xV {H:Heap} {g i:Nat}:(hget (ES H) g i).isSome=(hget H g i).isSome∧∀ x,hget (ES H) g i=some x→x=.dead:=by
 unfold hget ES
 rw[List.getElem?_map]
 cases H[g]? with
 | none=>exact⟨rfl,fun x h=>by cases h⟩
 | some f=>
  simp only[Option.map_some,List.getElem?_map]
  cases f[i]? with
  | none=>exact⟨rfl,fun x h=>by cases h⟩
  | some y=>exact⟨rfl,fun x h=>by simpa using h.symm⟩
theorem mO.all (H:Heap):mO H allS (ES H):=by
 refine⟨fun g i x' hx hl=>?_,fun g i h=>by rw[xV.1]; exact h⟩
 have:=xV.2 x' hx
 subst this
 cases hl
def FzA (H:Heap):AV→AV→Prop:=fK (FzT H allS)
def E7 (H:Heap) (fr:Fr):Fr→Prop
 | []=>True
 | x::r=>(FzA H (fr.get x.1) x.2∧bQ x.2)∧E7 H fr r
theorem E7.mem {H fr}:∀ {fr':Fr},E7 H fr fr'→∀ x∈fr',FzA H (fr.get x.1) x.2∧bQ x.2
 | [],_,x,h=>by cases h
 | _::_,⟨h1,h2⟩,x,h=>by
  cases h with
  | head=>exact h1
  | tail _ h=>exact E7.mem h2 x h
theorem FzA.hsl {H:Heap} {g i start len sz:Nat} {rows rows':List (List AV)} (h:hget H g i=some (.cells sz rows)) (hl:start+len≤rows.length) (e:(rows.drop start).take len=rows'):FzA H (.hsl g i start len) (.list sz rows'):=by
 subst e
 exact .base (.hsl g i start len sz rows rfl h hl)
theorem FzA.all {H:Heap} {g i len sz:Nat} {rows:List (List AV)} (h:hget H g i=some (.cells sz rows)) (hl:rows.length=len):FzA H (.hsl g i 0 len) (.list sz rows):=
 .hsl h (by omega) (by rw[List.drop_zero,List.take_of_length_le (by omega)])
theorem FzA.ptr {H:Heap} {g i row sz:Nat} {rows:List (List AV)} {r:List AV} (h:hget H g i=some (.cells sz rows)) (hr:rows[row]?=some r):FzA H (.ptr g i row 0) (.cptr r):=
 .base (.ptr g i row 0 sz rows r rfl h hr)
theorem FzA.mref {H:Heap} {g i:Nat} {es:List (Value×AV)} (h:hget H g i=some (.map es)):FzA H (.mref g i) (.tmap es):=.base (.mref g i es rfl h)
theorem FzA.refl (H:Heap) (a:AV):FzA H a a:=fK.refl a
def x8 (T:AV→AV→Prop):List AV→List AV→Prop
 | [],[]=>True
 | a::l,b::m=>fK T a b∧x8 T l m
 | _,_=>False
theorem x8.spec {T}:∀ {l m:List AV},x8 T l m→l.length=m.length∧∀(j:Nat) a b,l[j]?=some a→m[j]?=some b→fK T a b
 | [],[],_=>⟨rfl,fun j a b h=>by simp at h⟩
 | [],_::_,h=>h.elim
 | _::_,[],h=>h.elim
 | x::l,y::m,⟨h1,h2⟩=>by
  obtain⟨h3,h4⟩:=x8.spec h2
  refine⟨by simp[h3],fun j a b ha hb=>?_⟩
  cases j with
  | zero=>simp at ha hb; subst ha; subst hb; exact h1
  | succ j=>exact h4 j a b (by simpa using ha) (by simpa using hb)
theorem fK.tupL {T} {l m:List AV} (h:x8 T l m):fK T (.tup l) (.tup m):=.tup l m h.spec.1 h.spec.2
theorem fK.aggL {T} {l m:List AV} (h:x8 T l m):fK T (.agg l) (.agg m):=.agg l m h.spec.1 h.spec.2
theorem sD {g i:Nat} {fr:Fr} {H:Heap} {sz bytes:Nat} {s x:Operand} {g' i' len:Nat} {rows1 rows2:List (List AV)} (hs:ev fr s=.hsl g' i' 0 len) (hx:f4 sz H (ev fr x)=some (sz,rows2)) (hh:hget H g' i'=some (.cells sz rows1))
  (hl:rows1.length=len) (hb:(len+rows2.length) * (bytes+1)≤70368744177664) (e3:(Nat.beq g g' && Nat.beq i i')=false):
  aH g i (.append sz bytes s x) fr H=some (.hsl g i 0 (len+rows2.length),bH (bH H g' i' .dead) g i (.cells sz (rows1++rows2))):=by
 have e2:Nat.ble ((len+rows2.length) * (bytes+1)) 70368744177664=true:=by simpa using hb
 simp only[aH,hx,hs,hh]
 have e4:Nat.beq sz sz=true:=by simp
 have e5:Nat.beq rows1.length len=true:=by simp[hl]
 simp only[e4,e5,e2,e3,Bool.and_self]
theorem Reg.join {P:Program} {N k:Nat} {xs:List IOper} {fr:Fr} {H:Heap} {c:dB} {Q:Exit→Fr→Heap→Prop} (F':Fr) (H':Heap) (h1:Reg P N k xs fr H fun fr2 H2=>Sub k N fr2 H2 F' H') (h2:AWP P N k c Q F' H'):
  Reg P N k xs fr H (AWP P N k c Q):=h1.mono fun _ _ hs=>AWP.sub hs h2
theorem AWP.join {P:Program} {N k:Nat} {a b:dB} {fr:Fr} {H:Heap} {Q:Exit→Fr→Heap→Prop} (F':Fr) (H':Heap) (h1:AWP P N k a (gG (fun fr2 H2=>Sub k N fr2 H2 F' H') Q) fr H) (h2:AWP P N k b Q F' H'):AWP P N k (.seq a b) Q fr H:=
 AWP.seq (AWP.mono h1 fun e fr H h=>by
  cases e<;>first | exact AWP.sub h h2 | exact h)
end Go.Av
namespace Go.Av
theorem zM {g i:Nat} {fr:Fr} {H:Heap} {n sz:Nat} {x ix:Operand} {k:IntKind} {m:Int} {q g' i' row o:Nat} (hx:ev fr x=.ptr g' i' row o) (hi:ev fr ix=.sc (.int k m)) (hm:m=(q:Int)) (hq:q < n):
  aH g i (.idxArr n sz x ix) fr H=some (.ptr g' i' row (o+q * sz),H):=by
 subst hm
 have e1:Nat.blt q n=true:=by simpa[Nat.blt_eq] using hq
 simp only[aH,hi,hx]
 show(match Nat.blt q n with
  | true=>some (AV.ptr g' i' row (o+q * sz),H)
  | false=>none)=_
 rw[e1]
theorem jA {g i:Nat} {fr:Fr} {H:Heap} {n sz:Nat} {x ix:Operand} {k:IntKind} {m:Int} {q:Nat} {cells:List AV} (hx:ev fr x=.cptr cells) (hi:ev fr ix=.sc (.int k m)) (hm:m=(q:Int)) (hq:q < n):
  aH g i (.idxArr n sz x ix) fr H=some (.cptr (cells.drop (q * sz)),H):=by
 subst hm
 have e1:Nat.blt q n=true:=by simpa[Nat.blt_eq] using hq
 simp only[aH,hi,hx]
 show(match Nat.blt q n with
  | true=>some (AV.cptr (cells.drop (q * sz)),H)
  | false=>none)=_
 rw[e1]
theorem zN {g i:Nat} {fr:Fr} {H:Heap} {n:Nat} {x ix:Operand} {k:IntKind} {m:Int} {q:Nat} {cells:List AV} {c:AV} (hx:ev fr x=.agg cells) (hi:ev fr ix=.sc (.int k m)) (hm:m=(q:Int)) (hq:q < n) (hc:cells[q]?=some c):
  aH g i (.idxVal n 1 false x ix) fr H=some (c,H):=by
 subst hm
 have e1:Nat.blt q n=true:=by simpa[Nat.blt_eq] using hq
 have e2:nS 1 false (cells.drop (q * 1))=some c:=by
  rw[Nat.mul_one]
  obtain⟨hl,he⟩:=gEs.1 hc
  rw[List.drop_eq_getElem_cons hl,he]
  rfl
 simp only[aH,hi,hx]
 show(match Nat.blt q n with
  | true=>match nS 1 false (cells.drop (q * 1)) with
   | some v=>some (v,H)
   | none=>none
  | false=>none)=_
 rw[e1,e2]
theorem eE {g i:Nat} {fr:Fr} {H:Heap} {a:Operand} {g' i' row off s:Nat} {rows:List (List AV)} {r:List AV} {c:AV} (ha:ev fr a=.ptr g' i' row off) (hh:hget H g' i'=some (.cells s rows)) (hr:rows[row]?=some r) (hc:r[off]?=some c):
  aH g i (.load 1 false a) fr H=some (c,H):=by
 have e2:nS 1 false (r.drop off)=some c:=by
  obtain⟨hl,he⟩:=gEs.1 hc
  rw[List.drop_eq_getElem_cons hl,he]
  rfl
 simp only[aH,ha,hh,hr,e2]
theorem fL {g i:Nat} {fr:Fr} {H:Heap} {a:Operand} {cells:List AV} {c:AV} {rest:List AV} (ha:ev fr a=.cptr cells) (hc:cells=c::rest):
  aH g i (.load 1 false a) fr H=some (c,H):=by
 subst hc
 simp only[aH,ha,nS]
theorem C2 {g i:Nat} {fr:Fr} {H:Heap} {a:Operand} {sz:Nat} {cells cs:List AV} (ha:ev fr a=.cptr cells) (hl:sz≤cells.length) (hc:cells.take sz=cs):
  aH g i (.load sz true a) fr H=some (.agg cs,H):=by
 have e2:nS sz true cells=some (.agg cs):=by
  have:Nat.ble sz cells.length=true:=by simpa using hl
  simp only[nS,this,hc]
 simp only[aH,ha,e2]
theorem eR {g i:Nat} {fr:Fr} {H:Heap} {a x:Operand} {sz g' i' row off s:Nat} {rows:List (List AV)} {r cs:List AV} (ha:ev fr a=.ptr g' i' row off) (hx:(ev fr x).cs=some cs) (hh:hget H g' i'=some (.cells s rows)) (hr:rows[row]?=some r)
  (hs:cs.length=sz) (hl:off+sz≤r.length) (h1:cs.all AV.cell1=true):
  aH g i (.store sz a x) fr H=some (.undef,bH H g' i' (.cells s (rows.set row (dJ r off cs)))):=by
 have e1:Nat.beq cs.length sz=true:=by simp[hs]
 have e2:Nat.ble (off+sz) r.length=true:=by simpa using hl
 simp only[aH,ha,hx,hh,hr,e1,e2,h1,Bool.and_self]
theorem AI {α:Type} (l:List α):∀(k:Nat) (v:α),dJ l k [v]=l.set k v:=by
 induction l with
 | nil=>intro k v; rfl
 | cons x l ih=>
  intro k v
  cases k with
  | zero=>simp[dJ,A1]
  | succ k=>simp[dJ,ih]
theorem tG {α:Type}:∀(l vs:List α),vs.length=l.length→dJ l 0 vs=vs
 | [],[],_=>rfl
 | [],_::_,h=>by simp at h
 | _::_,[],h=>by simp at h
 | x::l,v::vs,h=>by
  show v::dJ l 0 vs=v::vs
  rw[tG l vs (by simpa using h)]
def bset (n:Nat) (s:Nat→Bool):List AV:=(List.range n).map fun i=>.sc (.bool (s i))
theorem HX (n:Nat) (s:Nat→Bool):∀ c∈bset n s,bQ c:=fun c hc=>by
 obtain⟨a,_,rfl⟩:=List.mem_map.1 hc
 exact .sc _
theorem dC.row {ρ:Nat→Nat→Option (Nat×Nat)} {sz:Nat} {r r':List AV} (e:r=r') (h:∀ c∈r',bQ c):dC ρ (.cells sz [r]) (.cells sz [r']):=by
 subst e
 exact .pure sz [r] (allPure_cons' h)
where
 allPure_cons' {r:List AV} (h:∀ c∈r,bQ c):∀ x∈[r],∀ c∈x,bQ c:=fun x hx=>by
  have:x=r:=by simpa using hx
  subst this
  exact h
theorem dC.rows {ρ:Nat→Nat→Option (Nat×Nat)} {sz:Nat} {rows rows':List (List AV)} (e:rows=rows') (h:∀ r∈rows',∀ c∈r,bQ c):dC ρ (.cells sz rows) (.cells sz rows'):=by
 subst e
 exact .pure sz rows h
end Go.Av
namespace Go.Av
theorem Bef.trans {af:Nat→List Nat} {a b c:Nat} (h1:Bef af a b) (h2:Bef af b c):Bef af a c:=by
 induction h2 with
 | base h=>exact .step h h1
 | step h _ ih=>exact .step h ih
theorem cX.mid {I:Nat→Nat→Prop} {n:Nat} {B:List Nat} {all l:List Nat} (h:cX I all l):∀ A:List Nat,all=A++n::B→(∀ a∈A,¬ I a n)→(∀ a∈A,∀ b∈B,¬ I a b)→(∀ b∈B,¬ I n b) →
  ∃ l1 l2,l=l1++n::l2∧cX I A l1∧cX I B l2:=by
 induction h with
 | nil=>intro A e; simp at e
 | cons A0 i B0 l h hs ih=>
  intro A e h1 h2 h3
  rcases List.append_eq_append_iff.1 e with⟨A2,e1,e2⟩ | ⟨A2,e1,e2⟩
  ·cases A2 with
   | nil=>
    simp only[List.append_nil] at e1
    subst e1
    simp only[List.nil_append,List.cons.injEq] at e2
    obtain⟨rfl,rfl⟩:=e2
    cases A with
    | nil=>exact⟨[],l,rfl,.nil,hs⟩
    | cons a A=>exact absurd (h a (List.mem_cons_self ..)) (h1 a (List.mem_cons_self ..))
   | cons x A2=>
    simp only[List.cons_append,List.cons.injEq] at e2
    obtain⟨rfl,rfl⟩:=e2
    subst e1
    obtain⟨l1,l2,q1,q2,q3⟩:=ih (A0++A2) (by simp) (fun a ha=>h1 a ((List.mem_append.1 ha).elim (fun h=>List.mem_append_left _ h) fun h=>List.mem_append_right _ (List.mem_cons_of_mem _ h)))
     (fun a ha=>h2 a ((List.mem_append.1 ha).elim (fun h=>List.mem_append_left _ h) fun h=>List.mem_append_right _ (List.mem_cons_of_mem _ h))) h3
    exact⟨i::l1,l2,by rw[q1]; rfl,.cons _ _ _ _ h q2,q3⟩
  ·cases A2 with
   | nil=>
    simp only[List.append_nil] at e1
    subst e1
    simp only[List.nil_append,List.cons.injEq] at e2
    obtain⟨rfl,rfl⟩:=e2
    cases A0 with
    | nil=>exact⟨[],l,rfl,.nil,hs⟩
    | cons a A0=>exact absurd (h a (List.mem_cons_self ..)) (h1 a (List.mem_cons_self ..))
   | cons x A2=>
    simp only[List.cons_append,List.cons.injEq] at e2
    obtain⟨rfl,rfl⟩:=e2
    subst e1
    exact absurd (h n (List.mem_append_right _ (List.mem_cons_self ..))) (h3 i (List.mem_append_right _ (List.mem_cons_self ..)))
theorem cX.weaken {I I':Nat→Nat→Prop} {all l:List Nat} (h:cX I all l):(∀ a b,a∈all→b∈all→I a b→I' a b)→cX I' all l:=by
 induction h with
 | nil=>exact fun _=>.nil
 | cons A i B l h hs ih=>
  intro hw
  refine .cons A i B l (fun a ha=>hw a i (List.mem_append_left _ ha) (List.mem_append_right _ (List.mem_cons_self ..)) (h a ha)) (ih fun a b ha hb hi=>hw a b ?_ ?_ hi)
  ·exact(List.mem_append.1 ha).elim (fun h=>List.mem_append_left _ h) fun h=>List.mem_append_right _ (List.mem_cons_of_mem _ h)
  ·exact(List.mem_append.1 hb).elim (fun h=>List.mem_append_left _ h) fun h=>List.mem_append_right _ (List.mem_cons_of_mem _ h)
theorem bJ.dead {M J} {H:Heap} {h:Array Obj} {n:Nat} (hH:bJ M J H h):bJ M J (H++[List.replicate n .dead]) h∧(∀ g i,bK (H++[List.replicate n Blk.dead]) g i→bK H g i)∧∀ j,J H.length j=none:=by
 have hdead:∀ g i x,hget (H++[List.replicate n Blk.dead]) g i=some x→x.live=true→hget H g i=some x:=by
  intro g i x hx hl
  rw[dI] at hx
  split at hx
  ·rw[List.getElem?_replicate] at hx
   split at hx
   ·injection hx with hx; subst hx; cases hl
   ·cases hx
  ·exact hx
 refine⟨⟨fun g i x hx hl=>hH.blk g i x (hdead g i x hx hl) hl,fun g i g' i' l l' β ⟨x,hx,hl⟩ ⟨y,hy,hl'⟩=>hH.inj g i g' i' l l' β ⟨x,hdead _ _ _ hx hl,hl⟩ ⟨y,hdead _ _ _ hy hl',hl'⟩,
  fun g i l β ⟨x,hx,hl⟩=>hH.out g i l β ⟨x,hdead _ _ _ hx hl,hl⟩,fun g i l hJ=>?_⟩,fun g i ⟨x,hx,hl⟩=>⟨x,hdead g i x hx hl,hl⟩,fun j=>?_⟩
 ·have:=hH.dom g i l hJ
  refine⟨?_,this.2⟩
  rw[dI]
  split
  ·rename_i e
   subst e
   have h2:=this.1
   simp[hget] at h2
  ·exact this.1
 ·cases e:J H.length j with
  | none=>rfl
  | some l=>
   have:=(hH.dom _ _ l e).1
   simp[hget] at this
theorem E4 {P:Program} {N k:Nat} {ops:Array Oper} {s:Nat} {xs:List IOper} {fr:Fr} {H:Heap} {R:List cV} {fr':Fr} {H':Heap} (hx:∀(j:Nat) x,xs[j]?=some x→∃ o,ops[s+j]?=some o∧oD P N ops o=some x)
  (hrun:j9 P H.length 0 xs fr (H++[List.replicate xs.length .dead]) R fr' H') {I:Nat→Nat→Prop} (hI:∀ a b,I a b→∃ ra rb,R[a - s]?=some ra∧R[b - s]?=some rb∧jG ra rb=true)
  {l:List Nat} (hs:cX I (List.range' s xs.length) l) {M J tmps} {w:World} (hF:bM N M J fr tmps) (hH:bJ M J H w.heap) (hM:bT M w.heap)
  (Q:Exit→Act→World→Prop) (hQ:∀ a' w',CV k N M J H w (fun fr H=>fr=fr'∧H=H') a' w'→Q Exit.normal a' w'):wpOps P ops Q l ⟨tmps,[]⟩ w:=by
 obtain⟨hrx,hrid⟩:=hrun.recs
 have hRlen:R.length=xs.length:=by rw[← hrx]; simp
 let R':Nat→cV:=fun j=>R.getD (j - s) ⟨⟨none,none,.call 0 []⟩,(0,0),.undef,[],[]⟩
 have hR':∀ j,j < xs.length→R[j]?=some (R' (s+j)):=by
  intro j hj
  have:j < R.length:=by omega
  simp[R',List.getD,this]
 have hs':=hs.to (R:=R') fun a b hab=>by
  obtain⟨ra,rb,h1,h2,h3⟩:=hI a b hab
  simp only[R',List.getD,h1,h2,Option.getD_some]
  exact h3
 have hrem:((List.range' s xs.length).map fun j=>(j,R' j)).map (·.2)=R:=by
  apply List.ext_getElem?
  intro j
  rw[List.map_map,List.getElem?_map]
  by_cases hj:j < xs.length
  ·rw[hR' j hj,List.getElem?_range' hj]
   simp
  ·have h1:(List.range' s xs.length)[j]?=none:=List.getElem?_eq_none (by rw[List.length_range']; omega)
   have h2:R[j]?=none:=List.getElem?_eq_none (by omega)
   rw[h1,h2]
   rfl
 obtain⟨hH0,hlive,hJ0⟩:=hH.dead (n:=xs.length)
 have hmem:∀ p∈(List.range' s xs.length).map (fun j=>(j,R' j)),∃ j,j < xs.length∧p=(s+j,R' (s+j)):=by
  intro p hp
  obtain⟨j,hj,rfl⟩:=List.mem_map.1 hp
  have:=List.mem_range'_1.1 hj
  exact⟨j - s,by omega,by rw[show s+(j - s)=j by omega]⟩
 have hids:∀ j,j < xs.length→(R' (s+j)).id=(H.length,j):=fun j hj=>by rw[hrid j _ (hR' j hj),Nat.zero_add]
 refine sV (k:=k) (N:=N) (t:=(fr',H')) hs' (fun p hp=>?_) ?_ (fr,H++[List.replicate xs.length .dead]) M J tmps w hF hH0 hM (by rw[hrem]; exact hrun.run) (fun p hp=>?_) Q fun a' w' hp=>hQ a' w' ?_
 ·obtain⟨j,hj,rfl⟩:=hmem p hp
  have h3:xs[j]?=some (R' (s+j)).x:=by rw[← hrx,List.getElem?_map,hR' j hj]; rfl
  exact hx j _ h3
 ·rw[List.map_map]
  have he:(List.range' s xs.length).map ((fun x:Nat×cV=>x.2.id) ∘ fun j=>(j,R' j))=(List.range' s xs.length).map fun j=>(H.length,j - s):=
   List.map_congr_left fun j hj=>by
    have:=List.mem_range'_1.1 hj
    show(R' j).id=_
    rw[show j=s+(j - s) by omega,hids _ (by omega)]
    simp
  rw[he]
  exact List.Pairwise.map _ (R:=fun a b=>s≤a∧a < b) (fun a b hab e=>by injection e with e1 e2; omega) (List.Pairwise.imp_of_mem (fun {a b} ha _ hab=>⟨(List.mem_range'_1.1 ha).1,hab⟩) List.pairwise_lt_range')
 ·obtain⟨j,hj,rfl⟩:=hmem p hp
  rw[hids j hj]
  refine⟨?_,hJ0 j⟩
  rw[dI,if_pos rfl,List.getElem?_replicate,if_pos hj]
  rfl
 ·obtain⟨M2,J2,fr2,H2,q1,q2,q3,q4⟩:=hp
  exact⟨M2,J2,fr2,H2,⟨q1.m,q1.j,q1.hrep,q1.mrep,q1.os,(by first | exact q1.tape | exact⟨q1.tape.1,Nat.le_trans (Nat.le_succ _) q1.tape.2⟩),q1.output,q1.size,fun β o ho hn=>q1.frame β o ho fun g i l hl hJ=>hn g i l (hlive g i hl) hJ,
   fun β o ho=>or2 (q1.fresh β o ho) (fun h=>h) fun h=>or2 h (fun h=>h) fun⟨g,i,l,a,b,c⟩=>⟨g,i,l,hlive g i a,b,c⟩,
   fun g i l β a b c=>or2 (q1.live g i l β a b c) (fun⟨g0,i0,l0,a,b,c⟩=>⟨g0,i0,l0,hlive g0 i0 a,b,c⟩) fun h=>h,q1.bk⟩,q2,q3,q4⟩
def FC (af:List (List Nat)) (s:Nat) (R:List cV):Prop:=
 ∀ a b ra rb,a < b→R[a]?=some ra→R[b]?=some rb→qM af af.length (s+a) (s+b)=true∨jG ra rb=true
theorem AWP.drawMid {P:Program} {N k:Nat} {fr:Fr} {H:Heap} {Q:Exit→Fr→Heap→Prop} {zs xs ys:List IOper} {y:IOper} {af:List (List Nat)} {R1:List cV} {fr1:Fr} {H1:Heap} (hz:zs=xs++y::ys) (hp:P.follows .mixedOrders=true)
  (hlow:yP 0 af=true) (h1:∀ j,j < xs.length→qM af af.length j xs.length=true) (h2:∀ j,j < ys.length→qM af af.length xs.length (xs.length+1+j)=true)
  (hrun:j9 P H.length 0 xs fr (H++[List.replicate xs.length .dead]) R1 fr1 H1) (hc1:FC af 0 R1)
  (h:Reg P N k [y] fr1 H1 fun fr2 H2=>∃ R2 fr3 H3,j9 P H2.length 0 ys fr2 (H2++[List.replicate ys.length .dead]) R2 fr3 H3∧FC af (xs.length+1) R2∧Q .normal fr3 H3):AWP P N k (.draw zs af) Q fr H:=by
 intro c0 hc cx M J tmps w hcx hF hH hM
 cases c0 with
 | region id ops draw=>
  simp only[cN] at hc
  split at hc
  ·rename_i us hus
   cases draw with
   | false=>cases hc
   | true=>
    injection hc with hc
    injection hc with hc1' hc2'
    subst hc1'; subst hc2'
    refine wpIn_region_draw fun t=>iS hcx ?_
    rw[hp]
    have hsch:Region.schedule true ops t=Region.linearise .any ops t:=by simp[Region.schedule]
    rw[hsch]
    obtain⟨hlen,hgx⟩:=iV _ _ hus
    have hsz:ops.size=xs.length+(ys.length+1):=by
     have e1:us.length=ops.size:=by rw[hlen]; simp
     rw[← e1,hz]
     simp
    have haf:∀ j l,(ops.toList.map d8)[j]?=some l→cF ops j=l:=by
     intro j l hj
     rw[List.getElem?_map,Array.getElem?_toList] at hj
     unfold cF
     cases ho:ops[j]? with
     | none=>rw[ho] at hj; cases hj
     | some o=>rw[ho] at hj; simpa using hj
    have hafl:(ops.toList.map d8).length=ops.size:=by simp
    have hops:∀(j:Nat) x,us[j]?=some x→∃ o,ops[j]?=some o∧oD P N ops o=some x:=by
     intro j x hj
     have hlt:=(gEs.1 hj).1
     have ho:ops[j]?=some ops[j]:=Array.getElem?_eq_getElem (by rw[hlen] at hlt; simpa using hlt)
     obtain⟨x',e1,e2⟩:=hgx j ops[j] (by rw[Array.getElem?_toList]; exact ho)
     rw[hj] at e1
     injection e1 with e1
     subst e1
     exact⟨_,ho,e2⟩
    let I:Nat→Nat→Prop:=fun a b=>(b < xs.length∧a < b∧∃ ra rb,R1[a]?=some ra∧R1[b]?=some rb∧jG ra rb=true)∨(xs.length < a∧a < b∧b < ops.size∧¬ Bef (cF ops) a b)
    have hs:=eM ops I (fun j kk hk=>by
     have hl:(ops.toList.map d8)[j]?=some (cF ops j):=by
      rw[List.getElem?_map,Array.getElem?_toList]
      unfold cF at hk ⊢
      cases ho:ops[j]? with
      | none=>rw[ho] at hk; cases hk
      | some o=>rfl
     have:=iR _ 0 hlow j _ hl kk hk
     omega) (fun a b hab hb=>by
     obtain⟨hrx1,_⟩:=hrun.recs
     have hRlen1:R1.length=xs.length:=by rw[← hrx1]; simp
     rcases Nat.lt_trichotomy b xs.length with hbx | hbx | hbx
     ·have ea:R1[a]?=some (R1[a]'(by omega)):=gEg (by omega)
      have eb:R1[b]?=some (R1[b]'(by omega)):=gEg (by omega)
      rcases hc1 a b _ _ hab ea eb with h3 | h3
      ·rw[Nat.zero_add,Nat.zero_add] at h3
       exact .inl (eT haf _ _ _ h3)
      ·exact .inr (.inl ⟨hbx,hab,_,_,ea,eb,h3⟩)
     ·subst hbx
      exact .inl (eT haf _ _ _ (h1 a hab))
     ·have hnb:Bef (cF ops) xs.length b:=by
       have:=h2 (b - (xs.length+1)) (by omega)
       rw[show xs.length+1+(b - (xs.length+1))=b by omega] at this
       exact eT haf _ _ _ this
      rcases Nat.lt_trichotomy a xs.length with hax | hax | hax
      ·exact .inl ((eT haf _ _ _ (h1 a hax)).trans hnb)
      ·subst hax
       exact .inl hnb
      ·by_cases hB:Bef (cF ops) a b
       ·exact .inl hB
       ·exact .inr (.inr ⟨hax,hab,hb,hB⟩)) t
    have hsplit:List.range ops.size=List.range' 0 xs.length++xs.length::List.range' (xs.length+1) ys.length:=by
     rw[List.range_eq_range',hsz,← List.range'_append_1,Nat.zero_add,List.range'_succ]
    obtain⟨l1,l2,e1,e2,e3⟩:=hs.mid (List.range' 0 xs.length) hsplit
     (fun a ha hi=>by
      have:=List.mem_range'_1.1 ha
      rcases hi with hi | hi
      ·exact absurd hi.1 (Nat.lt_irrefl _)
      ·omega)
     (fun a ha b hb hi=>by
      have:=List.mem_range'_1.1 ha
      have:=List.mem_range'_1.1 hb
      rcases hi with hi | hi
      ·omega
      ·omega)
     (fun b hb hi=>by
      have:=List.mem_range'_1.1 hb
      rcases hi with hi | hi
      ·omega
      ·exact absurd hi.1 (Nat.lt_irrefl _))
    rw[e1]
    refine eH l1 _ _ ?_
    have hget1:∀(j:Nat) x,xs[j]?=some x→∃ o,ops[0+j]?=some o∧oD P N ops o=some x:=by
     intro j x hj
     rw[Nat.zero_add]
     refine hops j x ?_
     rw[hz,List.getElem?_append_left (gEs.1 hj).1]
     exact hj
    have e2':cX (fun a b=>∃ ra rb,R1[a - 0]?=some ra∧R1[b - 0]?=some rb∧jG ra rb=true) (List.range' 0 xs.length) l1:=by
     refine e2.weaken fun a b ha hb hi=>?_
     have h3:=List.mem_range'_1.1 ha
     rcases hi with hi | hi
     ·exact hi.2.2
     ·omega
    refine E4 (k:=k) (w:={ w with drawn:=w.drawn+1 }) hget1 hrun (fun a b h=>h) e2' hF hH hM _ fun a' w' hpost=>⟨rfl,?_⟩
    obtain⟨M2,J2,fr2,H2,q1,q2,q3,rfl,rfl⟩:=hpost
    obtain⟨t2,d2⟩:=a'
    cases q3
    have hy:us[xs.length]?=some y:=by rw[hz,List.getElem?_append_right (Nat.le_refl _),Nat.sub_self]; rfl
    obtain⟨oy,ho,hcy⟩:=hops _ _ hy
    have hreg:=h ops [xs.length] ⟨⟨oy,ho,hcy⟩,trivial⟩ M2 J2 t2 w' q2 q1.hrep q1.mrep (fun e a w3=>e=.normal∧wpOps P ops (fun e a' w'=>e=.normal∧CV k N M J H w (Q .normal) a' w') l2 a w3) fun a3 w3 hp3=>⟨rfl,?_⟩
    ·exact eH [xs.length] _ _ hreg
    obtain⟨M3,J3,fr3,H3,r1,r2,r3,R2,fr4,H4,hrun2,hc2,hQ⟩:=hp3
    obtain⟨t3,d3⟩:=a3
    cases r3
    obtain⟨hrx2,_⟩:=hrun2.recs
    have hRlen2:R2.length=ys.length:=by rw[← hrx2]; simp
    have BM:∀(j:Nat) x,ys[j]?=some x→∃ o,ops[xs.length+1+j]?=some o∧oD P N ops o=some x:=by
     intro j x hj
     refine hops _ x ?_
     rw[hz,List.getElem?_append_right (by omega),show xs.length+1+j - xs.length=j+1 by omega]
     exact hj
    have e3':cX (fun a b=>∃ ra rb,R2[a - (xs.length+1)]?=some ra∧R2[b - (xs.length+1)]?=some rb∧jG ra rb=true) (List.range' (xs.length+1) ys.length) l2:=by
     refine e3.weaken fun a b ha hb hi=>?_
     have h3:=List.mem_range'_1.1 ha
     have h4:=List.mem_range'_1.1 hb
     rcases hi with hi | hi
     ·omega
     ·have ea:R2[a - (xs.length+1)]?=some (R2[a - (xs.length+1)]'(by omega)):=gEg (by omega)
      have eb:R2[b - (xs.length+1)]?=some (R2[b - (xs.length+1)]'(by omega)):=gEg (by omega)
      rcases hc2 (a - (xs.length+1)) (b - (xs.length+1)) _ _ (by omega) ea eb with h5 | h5
      ·rw[show xs.length+1+(a - (xs.length+1))=a by omega,show xs.length+1+(b - (xs.length+1))=b by omega] at h5
       exact absurd (eT haf _ _ _ h5) hi.2.2.2
      ·exact⟨_,_,ea,eb,h5⟩
    refine E4 (k:=k) BM hrun2 (fun a b h=>h) e3' r2 r1.hrep r1.mrep _ fun a' w4 hpost=>?_
    obtain⟨M5,J5,fr5,H5,s1,s2,s3,rfl,rfl⟩:=hpost
    have q:=(q1.trans r1).trans s1
    exact⟨rfl,M5,J5,_,_,⟨q.m,q.j,q.hrep,q.mrep,q.os,(by first | exact q.tape | exact⟨q.tape.1,Nat.le_trans (Nat.le_succ _) q.tape.2⟩),q.output,q.size,q.frame,q.fresh,q.live,q.bk⟩,s2,s3,hQ⟩
  ·cases hc
 | _=>simp only[cN] at hc; (try split at hc)<;>(try cases hc)<;>(try simp at hc)
end Go.Av
namespace Go.Av
open Go.RowKit Go.WideShapes Go.ChangeShapes Go.ChangeAt
inductive Sh where
 | int (k:IntKind)
 | bool
 | str
 | float (k:FloatKind)
 | slice (row:List Sh)
inductive Fit:Sh→AV→Prop
 | int (k:IntKind) (n:Int) (h:(Lit.int k n).wf=true):Fit (.int k) (.sc (.int k n))
 | bool (b:Bool):Fit .bool (.sc (.bool b))
 | str (s:ByteArray) (h:s.size≤maxLen):Fit .str (.sc (.string s))
 | float (k:FloatKind) (b:Nat) (h:(Lit.float k b).wf=true):Fit (.float k) (.sc (.float k b))
 | slice (row:List Sh) (rows:List (List AV)) (hl:rows.length≤maxLen) (hr:∀ r∈rows,r.length=row.length) (h:∀ r∈rows,∀(j:Nat) s c,row[j]?=some s→r[j]?=some c→Fit s c):Fit (.slice row) (.list row.length rows)
theorem Fit.pure {s:Sh} {a:AV} (h:Fit s a):bQ a:=by
 induction h with
 | int=>exact .sc _
 | bool=>exact .sc _
 | str=>exact .sc _
 | float=>exact .sc _
 | slice row rows hl hr _ ih=>
  refine .list _ _ fun r hrm c hc=>?_
  obtain⟨j,hj⟩:=List.getElem?_of_mem hc
  have hlt:=(gEs.1 hj).1
  have:j < row.length:=by rw[← hr r hrm]; exact hlt
  exact ih r hrm j row[j] c (gEg this) hj
def JK (r:List Sh):Nat→List Sh
 | 0=>[]
 | n+1=>r++JK r n
mutual
def shp (P:Program):Nat→TypeId→Option (List Sh)
 | 0,_=>none
 | d+1,t=>match P.underlying t with
  | some .bool=>some [.bool]
  | some (.int k)=>some [.int k]
  | some .string=>some [.str]
  | some (.float k)=>some [.float k]
  | some (.slice e)=>match shp P d e with
   | some (s::r)=>match Nat.beq (P.cellsOf e) (s::r).length with
    | true=>some [.slice (s::r)]
    | false=>none
   | _=>none
  | some (.struct fs)=>match HH P d 0 fs.toList with
   | some r=>match Nat.beq (P.cellsOf t) r.length with
    | true=>some r
    | false=>none
   | none=>none
  | some (.array n e)=>match shp P d e with
   | some r=>match Nat.beq (P.cellsOf e) r.length && Nat.beq (P.cellsOf t) (n * r.length) with
    | true=>some (JK r n)
    | false=>none
   | none=>none
  | _=>none
def HH (P:Program):Nat→Nat→List Field→Option (List Sh)
 | 0,_,_=>none
 | _+1,_,[]=>some []
 | d+1,off,f::fs=>match shp P d f.type,HH P d (off+P.cellsOf f.type) fs with
  | some r,some q=>match Nat.beq f.offset off && Nat.beq (P.cellsOf f.type) r.length with
   | true=>some (r++q)
   | false=>none
  | _,_=>none
end
def wH (w:World):Mem:=fun β=>w.heap[β]?
def noJ:Inj:=fun _ _=>none
theorem G7 (w:World):bT (wH w) w.heap:=fun _ _ h=>h
theorem ME (M:Mem) (h:Array Obj):bJ M noJ [] h:=
 ⟨fun g i x hx=>(by simp[hget] at hx),fun g i g' i' l l' β _ _ hJ=>(by cases hJ),fun g i l β _ hJ=>(by cases hJ),fun g i l hJ=>(by cases hJ)⟩
theorem tK {α:Type} (p:Nat→α→Prop):∀(n:Nat),(∀ i,i < n→∃ a,p i a)→∃ l:List α,l.length=n∧∀(i:Nat) a,l[i]?=some a→p i a
 | 0,_=>⟨[],rfl,fun i a h=>by simp at h⟩
 | n+1,h=>by
  obtain⟨l,h1,h2⟩:=tK p n fun i hi=>h i (by omega)
  obtain⟨a,ha⟩:=h n (by omega)
  refine⟨l++[a],by simp[h1],fun i b hb=>?_⟩
  rw[List.getElem?_append] at hb
  split at hb
  ·exact h2 i b hb
  ·have:i=n:=by
    have:=(gEs.1 hb).1
    simp at this
    omega
   subst this
   rw[h1,Nat.sub_self] at hb
   simp at hb
   subst hb
   exact ha
section
variable {H:Type} {enc:TypeId×Value→H} {P:Program} {w:World}
def eY (w:World) (row:List Sh) (cs:List Value):Prop:=
 cs.length=row.length∧∃ avs:List AV,avs.length=row.length∧(∀(j:Nat) s c,row[j]?=some s→avs[j]?=some c→Fit s c)∧∀(j:Nat) c v,avs[j]?=some c→cs[j]?=some v→Rep (wH w) noJ c v∧v.oneCell'=true
theorem eY.one {s:Sh} {v:Value} {a:AV} (hf:Fit s a) (hr:Rep (wH w) noJ a v) (h1:v.oneCell'=true):eY w [s] [v]:=by
 refine⟨rfl,[a],rfl,fun j s' c h h'=>?_,fun j c u h h'=>?_⟩
 ·cases j with
  | zero=>simp at h h'; subst h; subst h'; exact hf
  | succ j=>simp at h
 ·cases j with
  | zero=>simp at h h'; subst h; subst h'; exact⟨hr,h1⟩
  | succ j=>simp at h
theorem eY.append {r q:List Sh} {a b:List Value} (h1:eY w r a) (h2:eY w q b):eY w (r++q) (a++b):=by
 obtain⟨l1,x,e1,f1,g1⟩:=h1
 obtain⟨l2,y,e2,f2,g2⟩:=h2
 refine⟨by simp[l1,l2],x++y,by simp[e1,e2],fun j s c h h'=>?_,fun j c v h h'=>?_⟩
 ·rw[List.getElem?_append] at h h'
  rw[e1] at h'
  split at h
  ·rename_i hj; rw[if_pos hj] at h'; exact f1 j s c h h'
  ·rename_i hj; rw[if_neg hj] at h'; exact f2 _ s c h h'
 ·rw[List.getElem?_append] at h h'
  rw[e1,← l1] at h
  split at h
  ·rename_i hj; rw[if_pos hj] at h'; exact g1 j c v h h'
  ·rename_i hj; rw[if_neg hj] at h'; exact g2 _ c v h h'
theorem wW {a:Addr} {v:Value} (h:w.cell? a=some v):∃ cs e fr,w.heap[a.block]?=some (.cells cs e fr)∧a.spot=none∧cs[a.off]?=some v:=by
 unfold World.cell? at h
 split at h
 ·rename_i c e fr hb
  split at h
  ·cases h
  ·rename_i hs
   exact⟨c,e,fr,hb,by simpa using hs,h⟩
 ·cases h
theorem JR {base:Nat} {spare:Nat→Bool} {held:Bool} {fuel:Nat} {t:TypeId} {cs:List Value} {x:DataW H×List MemPlace} {n:Nat} {e:TypeId} (ht:P.underlying t=some (.array n e)) (h:DataW.trod enc P w base spare held fuel t cs=some x):
  ∃(m:Nat),cs.length=P.cellsOf t∧∀(i:Nat),i < n→∃ y,DataW.trod enc P w base spare held m e ((cs.drop (i * P.cellsOf e)).take (P.cellsOf e))=some y:=by
 obtain⟨xs,m,_,_,hl,hlen,hel⟩:=DataW.trod_array ht h
 refine⟨m,hl,fun i hi=>?_⟩
 rw[hel i hi,gEg (by omega)]
 exact⟨_,rfl⟩
theorem eY.rep {r:List Sh}:∀(n off:Nat) (cs:List Value),cs.length=off+n * r.length→(∀ i,i < n→eY w r ((cs.drop (off+i * r.length)).take r.length))→eY w (JK r n) (cs.drop off)
 | 0,off,cs,hl,_=>⟨by simp at hl ⊢; simp[JK]; omega,[],rfl,fun j s c h=>by simp[JK] at h,fun j c v h=>by simp at h⟩
 | n+1,off,cs,hl,h=>by
  have h0:=h 0 (by omega)
  rw[Nat.zero_mul,Nat.add_zero] at h0
  have h1:=eY.rep (r:=r) n (off+r.length) cs (by rw[hl,Nat.succ_mul]; omega) fun i hi=>by
   have:=h (i+1) (by omega)
   rwa[Nat.succ_mul,Nat.add_comm (i * r.length) r.length,← Nat.add_assoc] at this
  have:=h0.append h1
  rw[← List.drop_drop,List.take_append_drop] at this
  exact this
mutual
theorem uB:∀(d fuel:Nat) (t:TypeId) (cs:List Value) (x:DataW H×List MemPlace) (row:List Sh),DataW.trod enc P w 0 (fun _=>true) true fuel t cs=some x→shp P d t=some row→eY w row cs
 | 0,_,_,_,_,_,_,hs=>by simp[shp] at hs
 | d+1,fuel,t,cs,x,row,h,hs=>by
  simp only[shp] at hs
  split at hs
  ·rename_i ht
   injection hs with hs; subst hs
   obtain⟨b,rfl,_⟩:=DataW.trod_bool ht h
   exact .one (.bool b) (.sc _) rfl
  ·rename_i k ht
   injection hs with hs; subst hs
   obtain⟨n,rfl,_,hw⟩:=DataW.trod_int ht h
   exact .one (.int k n hw) (.sc _) rfl
  ·rename_i ht
   injection hs with hs; subst hs
   obtain⟨s,rfl,_,hw⟩:=DataW.trod_string ht h
   exact .one (.str s hw) (.sc _) rfl
  ·rename_i k ht
   injection hs with hs; subst hs
   cases fuel with
   | zero=>simp[DataW.trod] at h
   | succ n=>
    unfold DataW.trod at h
    rw[ht] at h
    split at h<;>simp_all
    exact .one (.float _ _ h.1.2) (.sc _) rfl
  ·rename_i e ht
   split at hs
   ·rename_i s r he
    split at hs
    ·rename_i hce
     have hsz:P.cellsOf e=(s::r).length:=Nat.eq_of_beq_eq_true hce
     injection hs with hs; subst hs
     rcases DataW.trod_slice ht h with⟨rfl,_⟩ | ⟨a,len,cap,elems,rest,n,_,rfl,_,_,hlc,hcm,hel,hread,_,_⟩
     ·exact .one (.slice (s::r) [] (by simp) (fun q hq=>by cases hq) (fun q hq=>by cases hq)) (.nilList _ _ _) rfl
     ·have each:∀ i,i < len→∃ avs:List AV,avs.length=(s::r).length∧(∀(j:Nat) s' c,(s::r)[j]?=some s'→avs[j]?=some c→Fit s' c) ∧
        ∀(j:Nat) c,avs[j]?=some c→∃ v,w.cell? ((a.add (i * (s::r).length)).add j)=some v∧Rep (wH w) noJ c v∧v.oneCell'=true:=by
       intro i hi
       have h1:=hread i hi
       rw[gEg (by omega),Option.bind_eq_some_iff] at h1
       obtain⟨cells,hc,hy⟩:=h1
       obtain⟨_,hcl,hcell⟩:=World.cells?_some hc
       obtain⟨hl,avs,e1,e2,e3⟩:=uB d n e cells _ _ hy he
       refine⟨avs,e1,e2,fun j c hj=>?_⟩
       have hjl:=(gEs.1 hj).1
       have hv:cells[j]?=some (cells[j]'(by omega)):=gEg (by omega)
       refine⟨cells[j]'(by omega),?_,e3 j c _ hj hv⟩
       rw[← hsz,hcell j (by omega),hv]
      obtain⟨rows,hrl,hrows⟩:=tK _ len each
      have hfit:Fit (.slice (s::r)) (.list (s::r).length rows):=by
       refine .slice _ _ (by rw[hrl]; omega) (fun q hq=>?_) (fun q hq=>?_)
       ·obtain⟨i,hi⟩:=List.getElem?_of_mem hq
        exact(hrows i q hi).1
       ·obtain⟨i,hi⟩:=List.getElem?_of_mem hq
        exact(hrows i q hi).2.1
      by_cases hlen:len=0
      ·subst hlen
       have:rows=[]:=by simpa using hrl
       subst this
       exact .one hfit (.nilList _ _ _) rfl
      ·have getR:∀ i,i < len→∃ q,rows[i]?=some q:=fun i hi=>⟨rows[i],gEg (by omega)⟩
       have cellAt:∀ i j,i < len→j < (s::r).length→∃ c v,(∃ q,rows[i]?=some q∧q[j]?=some c)∧w.cell? ((a.add (i * (s::r).length)).add j)=some v∧Rep (wH w) noJ c v∧v.oneCell'=true:=by
        intro i j hi hj
        obtain⟨q,hq⟩:=getR i hi
        obtain⟨h1,_,h3⟩:=hrows i q hq
        have hqj:q[j]?=some (q[j]'(by omega)):=gEg (by omega)
        obtain⟨v,hv1,hv2⟩:=h3 j _ hqj
        exact⟨_,v,⟨q,hq,hqj⟩,hv1,hv2⟩
       obtain⟨c0,v0,_,hv0,_,_⟩:=cellAt 0 0 (by omega) (by simp)
       have ha0:(a.add (0 * (s::r).length)).add 0=a:=by simp[Addr.add]
       rw[ha0] at hv0
       obtain⟨csb,eb,frb,hb,hsp,_⟩:=wW hv0
       have ha:a=⟨a.block,a.off,none⟩:=by cases a; simp_all
       have hadd:∀ k j,(a.add k).add j=⟨a.block,a.off+(k+j),none⟩:=by
        intro k j
        rw[ha,eG,eG,Nat.add_assoc]
       have hcell:∀ i j,i < len→j < (s::r).length→∃ c v,(∃ q,rows[i]?=some q∧q[j]?=some c)∧csb[a.off+(i * (s::r).length+j)]?=some v∧Rep (wH w) noJ c v∧v.oneCell'=true:=by
        intro i j hi hj
        obtain⟨c,v,h1,h2,h3⟩:=cellAt i j hi hj
        rw[hadd] at h2
        refine⟨c,v,h1,?_,h3⟩
        rw[mT hb] at h2
        exact h2
       have hsz0:0 < (s::r).length:=by simp
       rw[ha]
       refine .one hfit (.list (s::r).length rows a.block a.off cap len csb eb frb ⟨hrl.symm,hlc⟩ hb (fun i q hq=>(hrows i q hq).1) ?_ (fun j v hj hv=>?_) (fun i q j c v hq hc hv=>?_)) rfl
       ·obtain⟨_,v,_,hv,_⟩:=hcell (len - 1) ((s::r).length - 1) (by omega) (by omega)
        have:=(Array.getElem?_eq_some_iff.1 hv).1
        have e1:(len - 1) * (s::r).length+(s::r).length=len * (s::r).length:=by
         rw[← Nat.succ_mul]; congr 1; omega
        rw[hrl]
        omega
       ·rw[hrl] at hj
        have hi:j / (s::r).length < len:=(Nat.div_lt_iff_lt_mul hsz0).2 hj
        have hm:j % (s::r).length < (s::r).length:=Nat.mod_lt _ hsz0
        obtain⟨c,v',_,h2,_,h4⟩:=hcell _ _ hi hm
        have e1:j / (s::r).length * (s::r).length+j % (s::r).length=j:=by rw[Nat.mul_comm]; exact Nat.div_add_mod _ _
        rw[e1,hv] at h2
        injection h2 with h2
        subst h2
        exact h4
       ·have hi:=(gEs.1 hq).1
        have hj:=(gEs.1 hc).1
        rw[(hrows i q hq).1] at hj
        obtain⟨c',v',⟨q',h1,h1'⟩,h2,h3,_⟩:=hcell i j (by omega) hj
        rw[hq] at h1
        injection h1 with h1
        subst h1
        rw[hc] at h1'
        injection h1' with h1'
        subst h1'
        rw[← Nat.add_assoc,hv] at h2
        injection h2 with h2
        subst h2
        exact h3
    ·cases hs
   ·cases hs
  ·rename_i fs ht
   split at hs
   ·rename_i q hq
    split at hs
    ·rename_i hce
     have hsz:P.cellsOf t=q.length:=Nat.eq_of_beq_eq_true hce
     injection hs with hs; subst hs
     obtain⟨xs,n,_,_,hl,hlen,hf⟩:=DataW.trod_struct ht h
     have:=CA d n fs.toList 0 cs q hq (by omega) (fun i f hi=>by
      have h1:=hf i f (by simpa using hi)
      have hi':=(Array.getElem?_eq_some_iff.1 (show fs[i]?=some f by simpa using hi)).1
      have:xs[i]?=some (xs[i]'(by omega)):=gEg (by omega)
      exact⟨_,h1.trans this⟩)
     rwa[List.drop_zero] at this
    ·cases hs
   ·cases hs
  ·rename_i n e ht
   split at hs
   ·rename_i r hr
    split at hs
    ·rename_i hce
     simp only[Bool.and_eq_true] at hce
     have hsz:P.cellsOf e=r.length:=Nat.eq_of_beq_eq_true hce.1
     have hst:P.cellsOf t=n * r.length:=Nat.eq_of_beq_eq_true hce.2
     injection hs with hs; subst hs
     obtain⟨m,hl,hel⟩:=JR ht h
     have:=eY.rep (w:=w) (r:=r) n 0 cs (by rw[hl,hst,Nat.zero_add]) fun i hi=>by
      obtain⟨y,hy⟩:=hel i hi
      rw[Nat.zero_add,← hsz]
      exact uB d m e _ y r hy hr
     rwa[List.drop_zero] at this
    ·cases hs
   ·cases hs
  ·cases hs
theorem CA:∀(d n:Nat) (fs:List Field) (off:Nat) (cs:List Value) (q:List Sh),HH P d off fs=some q→cs.length=off+q.length →
  (∀(i:Nat) f,fs[i]?=some f→∃ y,DataW.trod enc P w 0 (fun _=>true) true n f.type ((cs.drop f.offset).take (P.cellsOf f.type))=some y)→eY w q (cs.drop off)
 | 0,_,_,_,_,_,hs,_,_=>by simp[HH] at hs
 | d+1,n,[],off,cs,q,hs,hl,_=>by
  simp only[HH,oIn] at hs
  subst hs
  refine⟨by simp at hl ⊢; omega,[],rfl,fun j s c h=>by simp at h,fun j c v h=>by simp at h⟩
 | d+1,n,f::fs,off,cs,q,hs,hl,hf=>by
  simp only[HH] at hs
  split at hs
  ·rename_i r q' h1 h2
   split at hs
   ·rename_i hb
    simp only[Bool.and_eq_true] at hb
    have e1:f.offset=off:=Nat.eq_of_beq_eq_true hb.1
    have e2:P.cellsOf f.type=r.length:=Nat.eq_of_beq_eq_true hb.2
    injection hs with hs; subst hs
    obtain⟨y,hy⟩:=hf 0 f rfl
    rw[e1] at hy
    have k1:=uB d n f.type _ y r hy h1
    have k2:=CA d n fs (off+P.cellsOf f.type) cs q' h2 (by rw[e2]; simp at hl; omega) (fun i g hi=>hf (i+1) g (by simpa using hi))
    have:=k1.append k2
    have e3:(cs.drop off).take (P.cellsOf f.type)++cs.drop (off+P.cellsOf f.type)=cs.drop off:=by
     rw[← List.drop_drop,List.take_append_drop]
    rwa[e3] at this
   ·cases hs
  ·cases hs
end
def m5 (P:Program) (d:Nat):List TypeId→Option (List Sh)
 | []=>some []
 | t::ts=>match shp P d t,m5 P d ts with
  | some [s],some r=>match P.underlying t with
   | some (.struct _)=>none
   | some (.array _ _)=>none
   | _=>some (s::r)
  | _,_=>none
theorem uM {d:Nat}:∀(ts:List TypeId) (row:List Sh) (vs:List Value) (ds:List (DataW H)) (ps:List MemPlace),DataW.TrodAll enc P w 0 (fun _=>true) true ts vs ds ps→m5 P d ts=some row →
  (∀ v∈vs,v.cells.toList=[v])→eY w row vs
 | [],row,[],_,_,_,hs,_=>by
  simp only[m5,oIn] at hs
  subst hs
  exact⟨rfl,[],rfl,fun j s c h=>by simp at h,fun j c v h=>by simp at h⟩
 | t::ts,row,v::vs,d0::ds,ps,h,hs,hc=>by
  obtain⟨p,q,⟨fuel,h1⟩,h2,_⟩:=h
  simp only[m5] at hs
  split at hs
  ·rename_i s r e1 e2
   split at hs
   ·cases hs
   ·cases hs
   ·injection hs with hs; subst hs
    have k1:=uB d fuel t _ _ _ h1 e1
    rw[hc v (List.mem_cons_self ..)] at k1
    have k2:=uM ts r vs ds q h2 e2 fun u hu=>hc u (List.mem_cons_of_mem _ hu)
    exact eY.append k1 k2
  ·cases hs
theorem Below.same {W W':World} (h:∀(β:Nat) o,W.heap[β]?=some o→W'.heap[β]?=some o) (ho:W'.os=W.os) (ht:W'.tape=W.tape) (hu:W'.output=W.output) (hz:W.heap.size≤W'.heap.size):Below W.heap.size W W':=
 ⟨ho,ht,hu,hz,fun k hk=>by rw[Array.getElem?_eq_getElem hk]; exact h k _ (Array.getElem?_eq_getElem hk)⟩
end
end Go.Av
namespace Go.Av
open Go.RowKit Go.WideShapes Go.ChangeShapes Go.ChangeAt
section
variable {H:Type} {enc:TypeId×Value→H} {P:Program}
theorem K4 {w:World} {base:Nat} {t:TypeId} {v:Value} {d:Nat} {s:Sh} (hs:shp P d t=some [s]) (hn:∀ fs,P.underlying t≠some (.struct fs)) (hn2:∀ n e,P.underlying t≠some (.array n e)) (h:Value.okWide P w .any base t v):v.cells.toList=[v]:=by
 cases v with
 | agg cs=>
  exfalso
  cases d with
  | zero=>simp[shp] at hs
  | succ d=>
   simp only[shp] at hs
   split at hs
   ·rename_i ht; simp[Value.okWide,ht,Cell.okWide,Cell.ok] at h
   ·rename_i k ht; simp[Value.okWide,ht,Cell.okWide,Cell.ok] at h
   ·rename_i ht; simp[Value.okWide,ht,Cell.okWide,Cell.ok] at h
   ·rename_i k ht; simp[Value.okWide,ht,Cell.okWide,Cell.ok] at h
   ·rename_i e ht; simp[Value.okWide,ht,Cell.okWide,Cell.ok] at h
   ·rename_i fs ht; exact hn fs ht
   ·rename_i n e ht; exact hn2 n e ht
   ·cases hs
 | _=>rfl
theorem B7 {w:World} {base d:Nat}:∀(ts:List TypeId) (row:List Sh) (vs:List Value),m5 P d ts=some row→(∀(j:Nat) t v,ts[j]?=some t→vs[j]?=some v→Value.okWide P w .any base t v)→vs.length≤ts.length→∀ v∈vs,v.cells.toList=[v]
 | [],_,[],_,_,_,v,hv=>by cases hv
 | [],_,_::_,_,_,hl,_,_=>by simp at hl
 | t::ts,row,[],_,_,_,v,hv=>by cases hv
 | t::ts,row,u::vs,hs,h,hl,v,hv=>by
  simp only[m5] at hs
  split at hs
  ·rename_i s r e1 e2
   split at hs
   ·cases hs
   ·cases hs
   ·rename_i hne hne2
    rcases List.mem_cons.1 hv with e | e
    ·subst e
     exact K4 e1 (fun fs hf=>hne fs hf) (fun n e hf=>hne2 n e hf) (h 0 t v rfl rfl)
    ·exact B7 ts r vs e2 (fun j t v a b=>h (j+1) t v (by simpa using a) (by simpa using b)) (by simpa using hl) v e
  ·cases hs
theorem pA {w w':World}:∀ {ts:List TypeId} {vs:List Value} {ds:List (DataW H)} {ps:List MemPlace},DataW.TrodAll enc P w 0 (fun _=>true) true ts vs ds ps→(∀ p∈ps,w.sameAt w' p)→DataW.TrodAll enc P w' 0 (fun _=>true) true ts vs ds ps
 | [],[],[],_,h,_=>h
 | t::ts,v::vs,d::ds,ps,⟨p,q,⟨fuel,h1⟩,h2,e⟩,hs=>by
  subst e
  exact⟨p,q,⟨fuel,DataW.trod_carry fuel t _ _ h1 fun x hx=>hs x (List.mem_append_left _ hx)⟩,pA h2 fun x hx=>hs x (List.mem_append_right _ hx),rfl⟩
theorem w7 {f:Func} {s:ChangeSpec} {W W':World} {args:Array Value} {ds gs:List (DataW H)} {before:List MemPlace} {tb:TypeId}
  (hW:DataW.Whole enc P f.params.toList s.vars false W args.toList ds gs before) (hvars:s.vars=[])
  (hl:laidOutB P=true) (hm:mapsRowed P=true) (hz:∀ t e,t < P.types.size→P.underlying t=some (.slice e)→0 < P.cellsOf e) (hts:∀ t∈f.params.toList,t < P.types.size)
  (hr:f.resultTypes=#[tb]) (htb:P.underlying tb=some .bool) (hres:(s.fn H (ds++gs)).results=[.lit (.bool true)]) (hargs:(s.fn H (ds++gs)).args=ds) (hv:(s.fn H (ds++gs)).vars=[]) (hb:Below W.heap.size W W'):
  s.post enc P f false true false false W args (.bool true) W':=by
 have hlt:∀ p∈before,p.block < W.heap.size:=fun p hp=>hW.lt p hp
 have hold:∀ p∈before,(fun b=>decide (b < W.heap.size)) p.block=true:=fun p hp=>by simpa using hlt p hp
 obtain⟨p,q,h1,h2,e,hzf,hn⟩:=hW
 have hq:gs=[]∧q=[]:=by
  rw[hvars] at h2
  cases gs with
  | nil=>exact⟨rfl,h2⟩
  | cons=>exact h2.elim
 obtain⟨rfl,rfl⟩:=hq
 rw[List.append_nil] at e
 subst e
 have hsame:∀ p∈before,W.sameAt W' p:=fun p hp=>by
  cases p with
  | cell b off=>exact hb.cell (p:=⟨b,off,none⟩) (hlt _ hp)
  | map b=>exact hb.block b (hlt _ hp)
 have hc:=pA h1 hsame
 have hcs:∀ sp:Nat→Bool,(∀ p∈before,sp p.block=true)→DataW.TrodAll enc P W' 0 sp true f.params.toList args.toList (s.fn H (ds++[])).args before:=fun sp hsp=>by
  rw[hargs]
  exact DataW.TrodAll.respare (kids_rows hl hm) hz hts hc hsp
 have hvs:∀ sp:Nat→Bool,DataW.TrodVars enc P W' sp s.vars (s.fn H (ds++[])).vars []:=fun sp=>by
  rw[hvars,hv]
  rfl
 have hrs:∀(b:Nat) (sp:Nat→Bool) (hd:Bool),DataW.TrodAll enc P W' b sp hd f.resultTypes.toList ((Value.bool true).resultList f.resultTypes.size) (s.fn H (ds++[])).results []:=fun b sp hd=>by
  rw[hres,hr]
  exact trodAll_mk1 (shut_bool htb true)
 refine⟨ds,[],before,[],before,[],⟨before,[],h1,h2,by simp,hzf,hn⟩,hrs _ _ _,hcs _ hold,hvs _,World.keptBut_mono (fun p hp=>⟨hp,.inr (.inl hp)⟩) (hb.frame (·∈before)),fun _=>?_⟩
 refine⟨ok_one hr rfl (okWide_bool_mk htb true),_,_,([]++before)++[],⟨[]++before,[],trodAll_append (hcs _ (fun _ _=>rfl)) (hrs _ _ _),hvs _,rfl,?_,?_⟩,?_⟩
 ·intro b off hp
  have hin:MemPlace.cell b off∈before:=by simpa using hp
  rw[hb.frozen (hlt _ hin)]
  exact hzf b off hin
 ·intro ha
  cases ha
 ·intro p hp _
  simpa using hp
theorem GZ {f:FuncId} {fn:Func} {s:ChangeSpec} {row:List Sh} {d:Nat} {tb:TypeId} (hs:m5 P d fn.params.toList=some row) (hvars:s.vars=[])
  (hl:laidOutB P=true) (hm:mapsRowed P=true) (hz:∀ t e,t < P.types.size→P.underlying t=some (.slice e)→0 < P.cellsOf e) (hts:∀ t∈fn.params.toList,t < P.types.size)
  (hr:fn.resultTypes=#[tb]) (htb:P.underlying tb=some .bool)
  (hspec:∀ ds:List (DataW H),ds.length=fn.params.size→(s.fn H ds).results=[.lit (.bool true)]∧(s.fn H ds).args=ds∧(s.fn H ds).vars=[])
  (hc:∀ avs:List AV,avs.length=row.length→(∀(j:Nat) t c,row[j]?=some t→avs[j]?=some c→Fit t c)→aQ P f avs [] fun res _=>res=.sc (.bool true))
  {W:World} {base:Nat} {args:Array Value} {ds gs:List (DataW H)} {before:List MemPlace}
  (hval:∀(j:Nat) t v,fn.params[j]?=some t→args[j]?=some v→Value.okWide P W .any base t v) (hW:DataW.Whole enc P fn.params.toList s.vars false W args.toList ds gs before):
  Calls P f args W fun e W'=>∃ v,e=.returned v∧s.post enc P fn false true false false W args v W':=by
 have hW0:=hW
 obtain⟨p,q,h1,h2,e,hzf,hn⟩:=hW
 obtain⟨l1,l2⟩:=trodAll_length h1
 have hgs:gs=[]:=by
  rw[hvars] at h2
  cases gs with
  | nil=>rfl
  | cons=>exact h2.elim
 subst hgs
 have hone:=B7 fn.params.toList row args.toList hs (fun j t v a b=>hval j t v (by simpa using a) (by simpa using b)) (by omega)
 obtain⟨hlen,avs,e1,e2,e3⟩:=uM fn.params.toList row args.toList ds p h1 hs hone
 refine((hc avs e1 e2).2 (wH W) noJ W args (by simp at hlen; omega) (fun j c v a b=>(e3 j c v a (by simpa using b)).1) (ME _ _) (G7 W)).mono ?_
 rintro e W' ⟨v,M',J',res,H',rfl,hst,hrep,rfl⟩
 cases hrep
 obtain⟨r1,r2,r3⟩:=hspec ds (by simp at l1 l2 ⊢; omega)
 refine⟨.bool true,rfl,w7 hW0 hvars hl hm hz hts hr htb (by rw[List.append_nil]; exact r1) (by rw[List.append_nil]; exact r2) (by rw[List.append_nil]; exact r3) ?_⟩
 exact Below.same (fun β o h=>hst.mrep β o (hst.m β o h)) hst.os hst.tape.1 hst.output hst.size
end
end Go.Av
namespace Go.Av
end Go.Av
namespace Go.Av
end Go.Av
namespace Go.Av
theorem Ren.weaken {ρ ρ':Nat→Nat→Option (Nat×Nat)} {a b:AV} (h:Ren ρ a b) (hw:∀ g i p,ρ g i=some p→ρ' g i=some p):Ren ρ' a b:=by
 induction h with
 | undef a=>exact .undef a
 | sc v=>exact .sc v
 | agg xs ys hl _ ih=>exact .agg xs ys hl ih
 | tup xs ys hl _ ih=>exact .tup xs ys hl ih
 | list sz rows rows' hl hr _ ih=>exact .list sz rows rows' hl hr ih
 | cptr xs ys hl _ ih=>exact .cptr xs ys hl ih
 | tmap es es' hl hk _ ih=>exact .tmap es es' hl hk ih
 | ptr g i g' i' row off h=>exact .ptr g i g' i' row off (hw _ _ _ h)
 | hsl g i g' i' start len h=>exact .hsl g i g' i' start len (hw _ _ _ h)
 | mref g i g' i' h=>exact .mref g i g' i' (hw _ _ _ h)
 | clo fn fs cs fs' cs' h1 h2 _ _ ih1 ih2=>exact .clo fn fs cs fs' cs' h1 h2 ih1 ih2
 | yld g i g' i' h=>exact .yld g i g' i' (hw _ _ _ h)
 | asl g i g' i' off len h=>exact .asl g i g' i' off len (hw _ _ _ h)
theorem dC.weaken {ρ ρ':Nat→Nat→Option (Nat×Nat)} {x y:Blk} (h:dC ρ x y) (hw:∀ g i p,ρ g i=some p→ρ' g i=some p):dC ρ' x y:=by
 cases h with
 | dead=>exact .dead _
 | cells sz rows rows' hl hr h=>exact .cells sz rows rows' hl hr fun i r r' j x y a b c d=>(h i r r' j x y a b c d).weaken hw
 | map es es' hl hk h=>exact .map es es' hl hk fun j x y a b=>(h j x y a b).weaken hw
 | lp L caps caps' st pe h=>exact .lp L caps caps' st pe fun x hx=>(h x hx).weaken hw
 | it cur es h hc=>exact .it cur es h hc
theorem DK.gs {P:Program} {base j:Nat} {xs:List IOper} {fr:Fr} {H:Heap} {acc:List cV} {K:List cV→Fr→Heap→Prop} {c:Bool} (h1:c=true→DK P base j xs fr H acc K) (h2:c=false→DK P base j xs fr H acc K):DK P base j xs fr H acc K:=by
 cases c with
 | true=>exact h1 rfl
 | false=>exact h2 rfl
theorem uX {g i:Nat} {fr:Fr} {H:Heap} {sz bytes:Nat} {z:List (Nat×Value)} {x:Operand} {n:Nat} (hx:ev fr x=.sc (.int .i64 (n:Int))) (h1:bytes * n≤70368744177664) (h2:n≤1073741824):
  aH g i (.makeSlice sz bytes z x) fr H=some (.hsl g i 0 n,bH H g i (.cells sz (List.replicate n (fF z)))):=by
 have e1:Nat.ble (bytes * n) 70368744177664=true:=by simpa using h1
 have e2:Nat.ble n 1073741824=true:=by simpa using h2
 simp only[aH,hx]
 show(match Nat.ble (bytes * n) 70368744177664 && Nat.ble n 1073741824 with
  | true=>some (AV.hsl g i 0 n,bH H g i (.cells sz (List.replicate n (fF z))))
  | false=>none)=_
 rw[e1,e2]
 rfl
theorem Reg.cv {P:Program} {N k:Nat} {xs:List IOper} {fr:Fr} {H:Heap} {K:Fr→Heap→Prop} {d:Nat} {gd:Option (Nat×Bool)} {f:Operand} {args:List Operand} {g:FuncId} {fs cs:List AV} (hk:k≤H.length) (hg:gok fr gd=some true) (hf:ev fr f=.clo (.func g) fs cs)
  (h:aQ P g (fs++aX fr args++cs) H fun res H'=>Reg P N k xs ((d,res)::fr) H' K):Reg P N k (⟨some d,gd,.callV f args⟩::xs) fr H K:=
 Reg.callV (x:=⟨some d,gd,.callV f args⟩) hk hg rfl hf h
def fam (n:Nat) (f:Nat→Blk):List Blk:=(List.range n).map f
theorem aO {n k:Nat} {f:Nat→Blk} (h:k < n):(fam n f)[k]?=some (f k):=by simp[fam,h]
theorem aM (n:Nat) (f:Nat→Blk):(fam n f).length=n:=by simp[fam]
theorem iC {n k:Nat} {f:Nat→Blk} {x:Blk} (h:(fam n f)[k]?=some x):k < n∧x=f k:=by
 have hk:=(gEs.1 h).1
 rw[aM] at hk
 rw[aO hk] at h
 exact⟨hk,by injection h with h; exact h.symm⟩
def row1 (n:Nat) (f:Nat→AV):List (List AV):=(List.range n).map fun k=>[f k]
theorem eZ {n k:Nat} {f:Nat→AV} (h:k < n):(row1 n f)[k]?=some [f k]:=by simp[row1,h]
theorem dA (n:Nat) (f:Nat→AV):(row1 n f).length=n:=by simp[row1]
theorem gQ {n k:Nat} {f:Nat→AV} {r:List AV} (h:(row1 n f)[k]?=some r):k < n∧r=[f k]:=by
 have hk:=(gEs.1 h).1
 rw[dA] at hk
 rw[eZ hk] at h
 exact⟨hk,by injection h with h; exact h.symm⟩
theorem KJ {n k:Nat} {f:Nat→AV} {v:AV}:(row1 n f).set k [v]=row1 n fun j=>if j=k then v else f j:=by
 apply List.ext_getElem?
 intro j
 rw[List.getElem?_set]
 by_cases hj:j < n
 ·by_cases e:k=j
  ·subst e; rw[if_pos rfl,if_pos (by rw[dA]; exact hj),eZ hj,if_pos rfl]
  ·rw[if_neg e,eZ hj,eZ hj,if_neg (fun h=>e h.symm)]
 ·rw[List.getElem?_eq_none (by rw[dA]; omega)]
  split
  ·rw[if_neg (by rw[dA]; omega),List.getElem?_eq_none (by rw[dA]; omega)]
  ·rw[List.getElem?_eq_none (by rw[dA]; omega)]
theorem IV (n:Nat) (v:AV):List.replicate n [v]=row1 n fun _=>v:=by simp[row1,List.map_const']
theorem dC.row1 {ρ:Nat→Nat→Option (Nat×Nat)} {n:Nat} {f f':Nat→AV} (h:∀ k,k < n→Ren ρ (f k) (f' k)):dC ρ (.cells 1 (row1 n f)) (.cells 1 (row1 n f')):=by
 refine .cells 1 _ _ (by rw[dA,dA]) (fun i r r' a b=>?_) fun i r r' j x y a b c d=>?_
 ·obtain⟨_,rfl⟩:=gQ a
  obtain⟨_,rfl⟩:=gQ b
  rfl
 ·obtain⟨h1,rfl⟩:=gQ a
  obtain⟨_,rfl⟩:=gQ b
  cases j with
  | zero=>simp at c d; subst c; subst d; exact h i h1
  | succ j=>simp at c
theorem n7.row1 {T:AV→AV→Prop} {n:Nat} {f f':Nat→AV} (h:∀ k,k < n→fK T (f k) (f' k)):n7 T (.cells 1 (row1 n f)) (.cells 1 (row1 n f')):=by
 refine .cells 1 _ _ (by rw[dA,dA]) (fun i r r' a b=>?_) fun i r r' j x y a b c d=>?_
 ·obtain⟨_,rfl⟩:=gQ a
  obtain⟨_,rfl⟩:=gQ b
  rfl
 ·obtain⟨h1,rfl⟩:=gQ a
  obtain⟨_,rfl⟩:=gQ b
  cases j with
  | zero=>simp at c d; subst c; subst d; exact h i h1
  | succ j=>simp at c
end Go.Av
