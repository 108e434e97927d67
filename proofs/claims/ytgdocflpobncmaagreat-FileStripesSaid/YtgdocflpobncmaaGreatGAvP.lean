import Derived.Test.YtgdocflpobncmaaGreatGAvK2
import Derived.Below
import Derived.ChangeSame
import Derived.ProofKit
import Derived.OpenShut
import Derived.ReadAgain
import Derived.JoinedOf
import Derived.ChangeCalls
import Derived.Test.YtgdocflpobncmaaGreatGAvE1
namespace Go.Av
mutual
theorem n7 {k:Nat}:∀(a:AV),i6 k a=true→Ren (low k) a a
 | .undef,_=>.undef _
 | .sc v,_=>.sc v
 | .agg c,h=>.agg _ _ rfl fun j x y a b=>by cases aW a b; exact gZ c h x (List.mem_of_getElem? a)
 | .tup c,h=>.tup _ _ rfl fun j x y a b=>by cases aW a b; exact gZ c h x (List.mem_of_getElem? a)
 | .list sz r,h=>.list _ _ _ rfl (fun i r r' a b=>by cases aW a b; rfl) fun i q q' j x y a b c d=>by
   cases aW a b
   cases aW c d
   exact tI r h q (List.mem_of_getElem? a) x (List.mem_of_getElem? c)
 | .cptr c,h=>.cptr _ _ rfl fun j x y a b=>by cases aW a b; exact gZ c h x (List.mem_of_getElem? a)
 | .tmap e,h=>.tmap _ _ rfl (fun j x y a b=>by cases aW a b; rfl) fun j x y a b=>by cases aW a b; exact s4 e h x (List.mem_of_getElem? a)
 | .ptr g i r o,h=>.ptr g i g i r o (l5 (nlB h))
 | .hsl g i s l,h=>.hsl g i g i s l (l5 (nlB h))
 | .mref g i,h=>.mref g i g i (l5 (nlB h))
 | .yld g i,h=>.yld g i g i (l5 (nlB h))
 | .asl g i r o n,h=>.asl g i g i r o n (l5 (nlB h))
 | .ifc t a,h=>.ifc _ _ _ (n7 a h)
 | .one,_=>.one
 | .clo f a b,h=>by
   simp only[i6,Bool.and_eq_true] at h
   exact .clo _ _ _ _ _ rfl rfl (fun j x y p q=>by cases aW p q; exact gZ a h.1 x (List.mem_of_getElem? p)) fun j x y p q=>by cases aW p q; exact gZ b h.2 x (List.mem_of_getElem? p)
theorem gZ {k:Nat}:∀(l:List AV),i7 k l=true→∀ a∈l,Ren (low k) a a
 | [],_,a,ha=>by cases ha
 | x::l,h,a,ha=>by
  simp only[i7,Bool.and_eq_true] at h
  rcases List.mem_cons.1 ha with e | e
  ·rw[e]; exact n7 x h.1
  ·exact gZ l h.2 a e
theorem tI {k:Nat}:∀(l:List (List AV)),wN k l=true→∀ r∈l,∀ a∈r,Ren (low k) a a
 | [],_,a,ha=>by cases ha
 | x::l,h,r,hr=>by
  simp only[wN,Bool.and_eq_true] at h
  rcases List.mem_cons.1 hr with e | e
  ·rw[e]; exact gZ x h.1
  ·exact tI l h.2 r e
theorem s4 {k:Nat}:∀(l:List (Value×AV)),A7 k l=true→∀ x∈l,Ren (low k) x.2 x.2
 | [],_,a,ha=>by cases ha
 | (u,v)::l,h,x,hx=>by
  simp only[A7,Bool.and_eq_true] at h
  rcases List.mem_cons.1 hx with e | e
  ·rw[e]; exact n7 v h.1
  ·exact s4 l h.2 x e
end
mutual
theorem oC:∀(a:AV),i6 0 a=true→aX a
 | .undef,_=>.undef
 | .sc v,_=>.sc v
 | .agg c,h=>.agg _ (dU c h)
 | .tup c,h=>.tup _ (dU c h)
 | .list sz r,h=>.list _ _ (vN r h)
 | .cptr c,h=>.cptr _ (dU c h)
 | .tmap e,h=>.tmap _ (uI e h)
 | .ptr g i r o,h=>by simp[i6,Nat.blt] at h
 | .hsl g i s l,h=>by simp[i6,Nat.blt] at h
 | .mref g i,h=>by simp[i6,Nat.blt] at h
 | .yld g i,h=>by simp[i6,Nat.blt] at h
 | .asl g i r o n,h=>by simp[i6,Nat.blt] at h
 | .ifc t a,h=>.ifc _ _ (oC a h)
 | .one,_=>.one
 | .clo f a b,h=>by
   simp only[i6,Bool.and_eq_true] at h
   exact .clo _ _ _ (dU a h.1) (dU b h.2)
theorem dU:∀(l:List AV),i7 0 l=true→∀ a∈l,aX a
 | [],_,a,ha=>by cases ha
 | x::l,h,a,ha=>by
  simp only[i7,Bool.and_eq_true] at h
  rcases List.mem_cons.1 ha with e | e
  ·rw[e]; exact oC x h.1
  ·exact dU l h.2 a e
theorem vN:∀(l:List (List AV)),wN 0 l=true→∀ r∈l,∀ a∈r,aX a
 | [],_,a,ha=>by cases ha
 | x::l,h,r,hr=>by
  simp only[wN,Bool.and_eq_true] at h
  rcases List.mem_cons.1 hr with e | e
  ·rw[e]; exact dU x h.1
  ·exact vN l h.2 r e
theorem uI:∀(l:List (Value×AV)),A7 0 l=true→∀ x∈l,aX x.2
 | [],_,a,ha=>by cases ha
 | (u,v)::l,h,x,hx=>by
  simp only[A7,Bool.and_eq_true] at h
  rcases List.mem_cons.1 hx with e | e
  ·rw[e]; exact oC v h.1
  ·exact uI l h.2 x e
end
theorem yH {k:Nat}:∀(f:List Blk),AZ k f=true→∀(i:Nat) x,f[i]?=some x→rV k x=true
 | [],_,i,x,h=>by simp at h
 | y::f,h,i,x,hx=>by
  simp only[AZ,Bool.and_eq_true] at h
  cases i with
  | zero=>simp at hx; subst hx; exact h.1
  | succ i=>exact yH f h.2 i x (by simpa using hx)
theorem xK {k:Nat}:∀(n:Nat) (H:Heap),z4 k n H=true→∀ g i x,g < n→hget H g i=some x→rV k x=true
 | 0,_,_,g,_,_,hg,_=>by omega
 | n+1,[],_,g,i,x,_,hx=>by simp[hget] at hx
 | n+1,f::r,h,g,i,x,hg,hx=>by
  simp only[z4,Bool.and_eq_true] at h
  cases g with
  | zero=>exact yH f h.1 i x (by simpa[hget] using hx)
  | succ g=>exact xK n r h.2 g i x (by omega) (by simpa[hget] using hx)
theorem ER {H:Heap} {k g i:Nat} {x:Blk} (h:hget (H.take k) g i=some x):g < k∧hget H g i=some x:=by
 unfold hget at h ⊢
 rw[List.getElem?_take] at h
 split at h
 ·rename_i f e
  split at e
  ·rename_i hg
   exact⟨hg,by rw[e]; exact h⟩
  ·cases e
 ·cases h
theorem IQ {k:Nat} {x:Blk} (h:rV k x=true):bJ (low k) x x:=by
 cases x with
 | lp=>cases h
 | umap=>cases h
 | it=>cases h
 | dead=>exact .dead _
 | cells sz rows=>
  exact .cells _ _ _ rfl (fun i r r' a b=>by cases aW a b; rfl) fun i q q' j x y a b c d=>by
   cases aW a b
   cases aW c d
   exact tI rows h q (List.mem_of_getElem? a) x (List.mem_of_getElem? c)
 | map es=>exact .map _ _ rfl (fun j x y a b=>by cases aW a b; rfl) fun j x y a b=>by cases aW a b; exact s4 es h x (List.mem_of_getElem? a)
theorem cQ.cut {k:Nat} {res:AV} {H:Heap} (h1:i6 k res=true) (h2:z4 k k H=true):cQ k H res (H.take k) res:=by
 refine cQ.ren (low k) ⟨fun g i hg hi=>l5 hg,fun g i g' i' p hp hp'=>?_,fun g i x hx hl=>?_,fun g i p hp hi=>?_⟩ (n7 res h1)
 ·obtain⟨_,rfl⟩:=qR hp
  obtain⟨_,e⟩:=qR hp'
  injection e with e1 e2
  exact⟨e1,e2⟩
 ·obtain⟨hg,hx'⟩:=ER hx
  exact⟨g,i,x,l5 hg,hx',IQ (xK k H h2 g i x hg hx')⟩
 ·obtain⟨hg,rfl⟩:=qR hp
  obtain⟨x,hx⟩:=Option.isSome_iff_exists.1 hi
  simp only at hx
  have:hget (H.take k) g i=some x:=by
   unfold hget at hx ⊢
   rw[List.getElem?_take,if_pos hg]
   exact hx
  rw[this]; rfl
noncomputable def D6 (x:IOper) (d:Option Nat) (id:Nat×Nat) (v:AV) (rd wr:List (Nat×Nat)) (T:FT) (H:Heap) (ih:FT→Heap→DR):DR:=
 match d with
 | none=>(ih T H).cons ⟨x,id,v,rd,wr⟩
 | some t=>match T.putK t v with
  | some T'=>(ih T' H).cons ⟨x,id,v,rd,wr⟩
  | none=>.stuck
noncomputable def dOp (x:IOper) (d:Option Nat) (id:Nat×Nat) (rd wr:List (Nat×Nat)) (T:FT) (ih:FT→Heap→DR):SR→DR
 | .yes v H=>D6 x d id v rd wr T H ih
 | .no=>.stuck
noncomputable def dFz (x:IOper) (d:Option Nat) (id:Nat×Nat) (T:FT) (H:Heap) (ih:FT→Heap→DR):Option AV→DR
 | some v=>D6 x d id v [] [] T H ih
 | none=>.stuck
noncomputable def vV (frz:Heap→AV→Option AV) (x:IOper) (d:Option Nat) (id:Nat×Nat) (T:FT) (H:Heap) (ih:FT→Heap→DR):Option (AV×Heap)→DR
 | some (v,H0)=>dFz x d id T H ih (frz H0 v)
 | none=>.stuck
theorem aD.sub {P:Program} {f:FuncId} {args:List AV} {H:Heap} {R R':AV→Heap→Prop} (h:aD P f args H R) (hs:∀ res H',R res H'→∃ res' H2,cQ H.length H' res H2 res'∧R' res' H2):aD P f args H R':=by
 refine⟨h.1,fun M J w cargs a b c d=>(h.2 M J w cargs a b c d).mono ?_⟩
 rintro e w' ⟨v,M',J',res,H',rfl,hst,hrep,hr⟩
 obtain⟨res',H2,h1,h2⟩:=hs res H' hr
 obtain⟨M2,J2,h3,h4⟩:=h1 M' J' v w' hrep hst.hrep hst.mrep
 exact⟨v,M2,J2,res',H2,rfl,hst.trans h3,h4,h2⟩
def er0 (a:AV):AV:=match i6 0 a with
 | true=>a
 | false=>match a.cell1 with
  | true=>.one
  | false=>.undef
noncomputable def MD (l:List AV):List AV:=List.rec (motive:=fun _=>List AV) [] (fun a _ ih=>er0 a::ih) l
noncomputable def er1 (a:AV):AV:=match i6 0 a with
 | true=>a
 | false=>match a with
  | .agg cs=>.agg (MD cs)
  | _=>.undef
noncomputable def erA (l:List AV):List AV:=List.rec (motive:=fun _=>List AV) [] (fun a _ ih=>er1 a::ih) l
theorem I6 (l:List AV):MD l=l.map er0:=by
 induction l with
 | nil=>rfl
 | cons a l ih=>
  show er0 a::MD l=_
  rw[ih]
  rfl
theorem MQ (l:List AV):erA l=l.map er1:=by
 induction l with
 | nil=>rfl
 | cons a l ih=>
  show er1 a::erA l=_
  rw[ih]
  rfl
theorem MX (a:AV):Le a (er0 a):=by
 unfold er0
 split
 ·exact .refl a
 ·split
  ·rename_i h
   exact fun M J v hv=>.one v (hv.cell1 h)
  ·exact .undef a
theorem LY (a:AV):Le a (er1 a):=by
 unfold er1
 split
 ·exact .refl a
 ·split
  ·rename_i cs _
   intro M J v h
   cases h with
   | agg _ cvs hl hr=>
    rw[I6]
    refine .agg _ cvs (by rw[List.length_map]; exact hl) fun j c x hc hx=>?_
    rw[List.getElem?_map,Option.map_eq_some_iff] at hc
    obtain⟨c0,h0,rfl⟩:=hc
    exact MX c0 M J x (hr j c0 x h0 hx)
  ·exact .undef _
theorem aF.er {P:Program} {f:FuncId} {args:List AV} {v:AV} (h:aF P f (erA args) v):aF P f args v:=by
 rw[MQ] at h
 refine⟨h.1,fun M J w cargs h1 h2 h3=>h.2 M J w cargs (by rw[List.length_map]; exact h1) (fun j c v hc hv=>?_) h3⟩
 rw[List.getElem?_map,Option.map_eq_some_iff] at hc
 obtain⟨c0,h0,rfl⟩:=hc
 exact LY c0 M J v (h2 j c0 v h0 hv)
noncomputable def AC (call:bS) (base j:Nat) (d:Option Nat) (gd:Option (Nat×Bool)) (ih:FT→Heap→DR) (a:IAct):FT→Heap→DR:=
 match a with
 | .op o=>fun T H=>dOp ⟨d,gd,.op o⟩ d (base,j) (KT T.evK o) (L5 T.evK base j o) T ih (eD o T.evK base j H)
 | .call f args=>fun T H=>Bool.rec (motive:=fun _=>DR) .stuck (vV call.frz ⟨d,gd,.call f args⟩ d (base,j) T H ih (call.run f (erA (mapK T args)) [])) (i7 0 (erA (mapK T args)))
 | .callV f args=>fun T H=>match kN T f with
  | .clo (.func g) fs cs=>Bool.rec (motive:=fun _=>DR) .stuck (vV call.frz ⟨d,gd,.callV f args⟩ d (base,j) T H ih (call.run g (erA (fs++mapK T args++cs)) [])) (i7 0 (erA (fs++mapK T args++cs)))
  | _=>.stuck
noncomputable def dSel (b:Bool) (yes no:DR) (v:AV):DR:=
 match v with
 | .sc (.bool true)=>Bool.rec (motive:=fun _=>DR) no yes b
 | .sc (.bool false)=>Bool.rec (motive:=fun _=>DR) yes no b
 | .sc (.tuple _)=>no
 | _=>.stuck
noncomputable def dGd (call:bS) (base j:Nat) (d:Option Nat) (a:IAct) (ih:FT→Heap→DR) (gd:Option (Nat×Bool)):FT→Heap→DR:=
 match gd with
 | none=>AC call base j d none ih a
 | some (t,b)=>fun T H=>dSel b (AC call base j d (some (t,b)) ih a T H) (D6 ⟨d,some (t,b),a⟩ d (base,j) (.sc Go.undef) [] [] T H ih) (T.getK t)
noncomputable def dStep (call:bS) (base j:Nat) (ih:FT→Heap→DR) (x:IOper):FT→Heap→DR:=
 match x with
 | ⟨d,gd,a⟩=>dGd call base j d a ih gd
noncomputable def iA (call:bS) (base:Nat) (xs:List IOper):Nat→FT→Heap→DR:=
 List.rec (motive:=fun _=>Nat→FT→Heap→DR) (fun _ T H=>.out [] T H) (fun x _ ih j=>dStep call base j (ih (Nat.succ j)) x) xs
theorem DR.cons_out {r:a6} {s:DR} {R:List a6} {T:FT} {H:Heap} (h:s.cons r=.out R T H):∃ R',s=.out R' T H∧R=r::R':=by
 cases s with
 | stuck=>cases h
 | out R' T' H'=>injection h with h1 h2 h3; subst h2; subst h3; exact⟨R',rfl,h1.symm⟩
theorem nS {x:IOper} {d:Option Nat} {id:Nat×Nat} {v:AV} {rd wr:List (Nat×Nat)} {T:FT} {H:Heap} {ih:FT→Heap→DR} {R:List a6} {T':FT} {H':Heap} (h:D6 x d id v rd wr T H ih=.out R T' H') {fr:Fr} (ha:AgT fr T):
  ∃ T1 R',AgT (fr.put d v) T1∧ih T1 H=.out R' T' H'∧R=⟨x,id,v,rd,wr⟩::R':=by
 cases d with
 | none=>
  obtain⟨R',h1,h2⟩:=DR.cons_out h
  exact⟨T,R',ha,h1,h2⟩
 | some d=>
  simp only[D6] at h
  split at h
  ·rename_i T1 e
   obtain⟨R',h1,h2⟩:=DR.cons_out h
   exact⟨T1,R',ha.putK e,h1,h2⟩
  ·cases h
def l7 (R:List a6):Prop:=∀ r∈R,rH r.x.act=false→r.wr=[]
theorem l7.cons {r:a6} {R:List a6} (h1:rH r.x.act=false→r.wr=[]) (h2:l7 R):l7 (r::R):=by
 intro q hq
 rcases List.mem_cons.1 hq with e | e
 ·subst e; exact h1
 ·exact h2 q e
section
variable {P:Program} {call:bS} {base:Nat}
theorem sQ (hcall:cG P call) {xs:List IOper} {j:Nat} {d:Option Nat} {gd:Option (Nat×Bool)} {a:IAct} {ih:FT→Heap→DR} {T':FT} {H':Heap}
  (hih:∀ T H fr R,ih T H=.out R T' H'→AgT fr T→∃ fr',d6 P base (j+1) xs fr H R fr' H'∧AgT fr' T'∧l7 R) {T:FT} {H:Heap} {fr:Fr} {R:List a6} (hg:gok fr gd=some true) (ha:AgT fr T)
  (h:AC call base j d gd ih a T H=.out R T' H'):∃ fr',d6 P base j (⟨d,gd,a⟩::xs) fr H R fr' H'∧AgT fr' T'∧l7 R:=by
 cases a with
 | op o=>
  simp only[AC] at h
  unfold dOp at h
  split at h
  ·rename_i v H1 e
   rw[← ha.evK] at e
   obtain⟨T1,R',h1,h2,h3⟩:=nS h ha
   obtain⟨fr',h4,h5,h6⟩:=hih T1 H1 _ R' h2 h1
   subst h3
   refine⟨fr',?_,h5,h6.cons fun hw=>F1 hw _ _ _⟩
   have:=d6.op (x:=⟨d,gd,.op o⟩) hg rfl (jJ e) h4
   rw[CH,I5,ha.evK] at this
   exact this
  ·cases h
 | call f args=>
  simp only[AC] at h
  cases hl:i7 0 (erA (mapK T args)) with
  | false=>rw[hl] at h; cases h
  | true=>
   rw[hl] at h
   replace h:vV call.frz ⟨d,gd,.call f args⟩ d (base,j) T H ih (call.run f (erA (mapK T args)) [])=.out R T' H':=h
   unfold vV at h
   split at h
   ·rename_i v0 H1 e
    unfold dFz at h
    split at h
    ·rename_i v ef
     ·obtain⟨T1,R',h1,h2,h3⟩:=nS h ha
      obtain⟨fr',h4,h5,h6⟩:=hih T1 H _ R' h2 h1
      subst h3
      refine⟨fr',?_,h5,h6.cons fun _=>rfl⟩
      refine d6.call (x:=⟨d,gd,.call f args⟩) hg rfl (by rw[ha.mapK]; exact aF.er (aF.of (fun a haa=>dU _ hl a haa) (hcall.frz _ _ _ ef).2 (by
       refine(hcall.run f _ [] v0 H1 e).sub ?_
       rintro res H' ⟨rfl,rfl⟩
       exact⟨v,[],(hcall.frz _ _ _ ef).1,rfl⟩))) h4
    ·cases h
   ·cases h
 | callV f args=>
  simp only[AC] at h
  split at h
  ·rename_i g fs cs ec
   cases hl:i7 0 (erA (fs++mapK T args++cs)) with
   | false=>rw[hl] at h; cases h
   | true=>
    rw[hl] at h
    replace h:vV call.frz ⟨d,gd,.callV f args⟩ d (base,j) T H ih (call.run g (erA (fs++mapK T args++cs)) [])=.out R T' H':=h
    unfold vV at h
    split at h
    ·rename_i v0 H1 e
     unfold dFz at h
     split at h
     ·rename_i v ef
      ·obtain⟨T1,R',h1,h2,h3⟩:=nS h ha
       obtain⟨fr',h4,h5,h6⟩:=hih T1 H _ R' h2 h1
       subst h3
       refine⟨fr',?_,h5,h6.cons fun _=>rfl⟩
       refine d6.callV (x:=⟨d,gd,.callV f args⟩) hg rfl (v7 ha ec) (by rw[ha.mapK]; exact aF.er (aF.of (fun a haa=>dU _ hl a haa) (hcall.frz _ _ _ ef).2 (by
        refine(hcall.run g _ [] v0 H1 e).sub ?_
        rintro res H' ⟨rfl,rfl⟩
        exact⟨v,[],(hcall.frz _ _ _ ef).1,rfl⟩))) h4
     ·cases h
    ·cases h
  ·cases h
theorem fV (hcall:cG P call):∀(xs:List IOper) (j:Nat) (T:FT) (H:Heap) (fr:Fr) (R:List a6) (T':FT) (H':Heap),iA call base xs j T H=.out R T' H'→AgT fr T →
  ∃ fr',d6 P base j xs fr H R fr' H'∧AgT fr' T'∧l7 R:=by
 intro xs
 induction xs with
 | nil=>
  intro j T H fr R T' H' h ha
  injection h with h1 h2 h3
  subst h1; subst h2; subst h3
  exact⟨fr,.nil _ _ _,ha,fun r hr=>by cases hr⟩
 | cons x xs ih=>
  intro j T H fr R T' H' h ha
  obtain⟨d,gd,a⟩:=x
  replace h:dGd call base j d a (iA call base xs (Nat.succ j)) gd T H=.out R T' H':=h
  have hih:∀ T H fr R,iA call base xs (Nat.succ j) T H=.out R T' H'→AgT fr T→∃ fr',d6 P base (j+1) xs fr H R fr' H'∧AgT fr' T'∧l7 R:=
   fun T H fr R h ha=>ih (j+1) T H fr R T' H' h ha
  cases gd with
  | none=>exact sQ hcall (ih:=iA call base xs (Nat.succ j)) hih rfl ha h
  | some p=>
   obtain⟨t,b⟩:=p
   have hsel:(gok fr (some (t,b))=some true∧AC call base j d (some (t,b)) (iA call base xs (Nat.succ j)) a T H=.out R T' H') ∨
     (gok fr (some (t,b))=some false∧D6 ⟨d,some (t,b),a⟩ d (base,j) (.sc Go.undef) [] [] T H (iA call base xs (Nat.succ j))=.out R T' H'):=by
    have e:T.getK t=fr.get t:=(T.getK_eq t).trans (ha t).symm
    simp only[dGd] at h
    rw[e] at h
    unfold dSel at h
    simp only[gok]
    split at h
    ·rename_i e1
     rw[e1]
     cases b with
     | true=>exact .inl ⟨rfl,h⟩
     | false=>exact .inr ⟨rfl,h⟩
    ·rename_i e1
     rw[e1]
     cases b with
     | true=>exact .inr ⟨rfl,h⟩
     | false=>exact .inl ⟨rfl,h⟩
    ·rename_i e1
     rw[e1]
     exact .inr ⟨rfl,h⟩
    ·cases h
   rcases hsel with⟨h1,h2⟩ | ⟨h1,h2⟩
   ·exact sQ hcall (ih:=iA call base xs (Nat.succ j)) hih h1 ha h2
   ·obtain⟨T1,R',h3,h4,h5⟩:=nS h2 ha
    obtain⟨fr',h6,h7,h8⟩:=hih T1 H _ R' h4 h3
    subst h5
    exact⟨fr',d6.skip (x:=⟨d,some (t,b),a⟩) h1 h6,h7,h8.cons fun _=>rfl⟩
end
noncomputable def gO (af:List (List Nat)) (s:Nat) (ys:List IOper):DR→XR
 | .out R T H=>Bool.rec (motive:=fun _=>XR) .stuck (.out .normal T H) (tP af s ys R)
 | .stuck=>.stuck
noncomputable def s8 (call:bS) (af:List (List Nat)) (s:Nat) (ys:List IOper):RR→XR
 | .out T H=>gO af s ys (iA call (cR H) ys 0 T (H++[List.replicate ys.length .dead]))
 | .stuck=>.stuck
noncomputable def drawMid (call:bS) (k:Nat) (af:List (List Nat)) (xs:List IOper) (y:IOper) (ys:List IOper):DR→XR
 | .out R T H=>Bool.rec (motive:=fun _=>XR) .stuck (s8 call af (Nat.succ (cR xs)) ys (g6 call k [y] T H)) (GJ af (cR xs) (cR ys) && tP af 0 xs R)
 | .stuck=>.stuck
noncomputable def C9 (af:List (List Nat)) (xs:List IOper) (other:XR):DR→XR
 | .out R T H=>Bool.rec (motive:=fun _=>XR) other (.out .normal T H) (oX 0 af && tP af 0 xs R)
 | .stuck=>other
noncomputable def oZ (call:bS) (k:Nat) (af:List (List Nat)) (T:FT) (H:Heap):Option (List IOper×IOper×List IOper)→XR
 | some (xs,y,ys)=>drawMid call k af xs y ys (iA call (cR H) xs 0 T (H++[List.replicate xs.length .dead]))
 | none=>.stuck
noncomputable def IC (call:bS) (k:Nat) (xs:List IOper) (af:List (List Nat)) (T:FT) (H:Heap):XR:=
 C9 af xs (oZ call k af T H (iR xs)) (iA call (cR H) xs 0 T (H++[List.replicate xs.length .dead]))
noncomputable def FA (b:FT→Heap→XR):XR→XR
 | .out e T H=>match e with
  | .normal=>b T H
  | e=>.out e T H
 | .stuck=>.stuck
noncomputable def FE (a b:XR) (v:AV):XR:=
 match v with
 | .sc (.bool true)=>a
 | .sc (.bool false)=>b
 | _=>.stuck
noncomputable def IK (id:Nat):XR→XR
 | .out e T H=>match e with
  | .exit id'=>Bool.rec (motive:=fun _=>XR) (.out (.exit id') T H) (.out .normal T H) (Nat.beq id' id)
  | e=>.out e T H
 | .stuck=>.stuck
noncomputable def B3 (f:FT→Heap→XR) (n:Nat):FT→Heap→XR:=Nat.rec (motive:=fun _=>FT→Heap→XR) (fun _ _=>.stuck) (fun _ ih T H=>FA ih (f T H)) n
theorem RR.x_out {r:RR} {e:Exit} {T:FT} {H:Heap} (h:r.x=.out e T H):e=.normal∧r=.out T H:=by
 cases r with
 | stuck=>cases h
 | out T' H'=>injection h with h1 h2 h3; subst h1; subst h2; subst h3; exact⟨rfl,rfl⟩
theorem x6 {b:FT→Heap→XR} {r:XR} {e:Exit} {T:FT} {H:Heap} (h:FA b r=.out e T H):(∃ T1 H1,r=.out .normal T1 H1∧b T1 H1=.out e T H)∨(e≠.normal∧r=.out e T H):=by
 unfold FA at h
 split at h
 ·split at h
  ·exact .inl ⟨_,_,rfl,h⟩
  ·rename_i hne
   injection h with h1 h2 h3
   subst h1; subst h2; subst h3
   exact .inr ⟨hne,rfl⟩
 ·cases h
section
variable {P:Program} {N k fuel:Nat} {call:bS}
theorem yU (hp:P.follows .mixedOrders=true) (hcall:cG P call) {zs:List IOper} {af:List (List Nat)} {T:FT} {H:Heap} {e:Exit} {T':FT} {H':Heap} (h:IC call k zs af T H=.out e T' H') {fr:Fr} (ha:AgT fr T)
  {Q:Exit→Fr→Heap→Prop} (hQ:∀ fr',AgT fr' T'→Q e fr' H'):AWP P N k (.draw zs af) Q fr H:=by
 unfold IC at h
 rw[bQ] at h
 have other:∀ e T' H',oZ call k af T H (iR zs)=.out e T' H'→(∀ fr',AgT fr' T'→Q e fr' H')→AWP P N k (.draw zs af) Q fr H:=by
  intro e T' H' h hQ
  unfold oZ at h
  split at h
  ·rename_i xs y ys hs
   unfold drawMid at h
   split at h
   ·rename_i R T1 H1 hd
    rw[bQ] at hd
    obtain⟨fr1,h1,h2,h3⟩:=fV hcall xs 0 T _ fr R T1 H1 hd ha
    cases hc:GJ af (cR xs) (cR ys) && tP af 0 xs R with
    | false=>rw[hc] at h; cases h
    | true=>
     rw[hc] at h
     simp only[Bool.and_eq_true] at hc
     replace h:s8 call af (Nat.succ (cR xs)) ys (g6 call k [y] T1 H1)=.out e T' H':=h
     obtain⟨c0,c1⟩:=hc
     simp only[GJ,bQ,Bool.and_eq_true,List.all_eq_true,List.mem_range] at c0
     have c2:=gV c1 h1.recs.1 h3
     refine AWP.drawMid (nP hs) hp c0.1 c0.2.1 c0.2.2 h1 c2 ?_
     unfold s8 at h
     split at h
     ·rename_i T2 H2 hr
      refine jM hcall (fun fr2 ha2=>?_) [y] T1 H1 fr1 hr h2
      unfold gO at h
      split at h
      ·rename_i R2 T3 H3 hd2
       rw[bQ] at hd2
       obtain⟨fr3,k1,k2,k3⟩:=fV hcall ys 0 T2 _ fr2 R2 T3 H3 hd2 ha2
       cases hc2:tP af (Nat.succ (cR xs)) ys R2 with
       | false=>rw[hc2] at h; cases h
       | true=>
        rw[hc2] at h
        injection h with h4 h5 h6
        subst h4; subst h5; subst h6
        have c3:=gV hc2 k1.recs.1 k3
        rw[bQ] at c3
        exact⟨R2,fr3,_,k1,c3,hQ fr3 k2⟩
      ·cases h
     ·cases h
   ·cases h
  ·cases h
 unfold C9 at h
 split at h
 ·rename_i R T1 H1 hd
  cases hc:oX 0 af && tP af 0 zs R with
  | false=>
   rw[hc] at h
   exact other _ _ _ h hQ
  | true=>
   rw[hc] at h
   simp only[Bool.and_eq_true] at hc
   injection h with h1 h2 h3
   subst h1; subst h2; subst h3
   obtain⟨fr1,h1,h2,h3⟩:=fV hcall zs 0 T _ fr R _ _ hd ha
   have c2:=gV hc.2 h1.recs.1 h3
   exact AWP.draw hp h1 (by simp only[chk,hc.1,c2.all,Bool.and_self]) (hQ fr1 h2)
 ·exact other _ _ _ h hQ
end
noncomputable def mY (T:FT) (H:Heap) (r:gJ):Option AV:=
 match r with
 | .tmp t=>match kFz (T.getK t) [] with
  | .yes v _=>some v
  | .no=>none
 | .cell a sz agg=>match x9 sz agg (T.getK a) H with
  | .yes v _=>some v
  | .no=>none
noncomputable def sM (x:Option AV) (l:Option (List AV)):Option (List AV):=
 match x with
 | some v=>match l with
  | some q=>some (v::q)
  | none=>none
 | none=>none
noncomputable def lC (T:FT) (H:Heap) (rs:List gJ):Option (List AV):=List.rec (motive:=fun _=>Option (List AV)) (some []) (fun r _ ih=>sM (mY T H r) ih) rs
noncomputable def qU (l:Option (List AV)):Option AV:=
 match l with
 | some [x]=>some x
 | some xs=>some (.tup xs)
 | none=>none
theorem AQ {fr:Fr} {T:FT} (ha:AgT fr T) {H:Heap} {r:gJ} {v:AV} (h:mY T H r=some v):(∃ sz agg a,r=.cell a sz agg∧∀ cells,fr.get a≠.cptr cells)∨(∃ t,r=.tmp t)→lW fr H r=some v:=by
 intro hr
 cases r with
 | tmp t=>
  simp only[mY] at h
  split at h
  ·rename_i u H1 e
   injection h with h
   subst h
   obtain⟨h1,_⟩:=tM e
   subst h1
   simp only[lW,eV,FT.getK_eq,ha t]
  ·cases h
 | cell a sz agg=>
  rcases hr with⟨_,_,_,e,hr⟩ | ⟨_,e⟩
  ·injection e with e1 e2 e3
   subst e1; subst e2; subst e3
   simp only[mY] at h
   split at h
   ·rename_i u H1 e
    injection h with h
    subst h
    rw[FT.getK_eq,← ha a] at e
    simp only[x9] at e
    simp only[lW]
    split at e
    ·rename_i cells e1
     exact absurd e1 (hr cells)
    ·rename_i g' i' row off e1
     rw[eH] at e
     split at e
     ·rename_i s rows e2
      rw[eG] at e
      split at e
      ·rename_i q e3
       obtain⟨h1,h2⟩:=tH e
       simp only[e1,e2,e3,h1]
      ·cases e
     ·cases e
    ·cases e
   ·cases h
  ·cases e
noncomputable def G9 (v:AV):Bool:=
 match v with
 | .ptr _ _ _ _=>true
 | _=>false
noncomputable def l9 (T:FT) (rs:List gJ):Bool:=List.rec (motive:=fun _=>Bool) true (fun r _ ih=>match r with
 | .tmp _=>ih
 | .cell a _ _=>Bool.rec (motive:=fun _=>Bool) false ih (G9 (T.getK a))) rs
theorem qT {fr:Fr} {T:FT} (ha:AgT fr T) {H:Heap}:∀(rs:List gJ) (vs:List AV),l9 T rs=true→lC T H rs=some vs→kE fr H rs=some vs:=by
 intro rs
 induction rs with
 | nil=>intro vs _ h; exact h
 | cons r rs ih=>
  intro vs hp h
  replace h:sM (mY T H r) (lC T H rs)=some vs:=h
  unfold sM at h
  split at h
  ·rename_i v e1
   split at h
   ·rename_i q e2
    injection h with h
    subst h
    have hp':l9 T rs=true∧((∃ sz agg a,r=.cell a sz agg∧∀ cells,fr.get a≠.cptr cells)∨(∃ t,r=.tmp t)):=by
     cases r with
     | tmp t=>exact⟨hp,.inr ⟨t,rfl⟩⟩
     | cell a sz agg=>
      replace hp:Bool.rec (motive:=fun _=>Bool) false (l9 T rs) (G9 (T.getK a))=true:=hp
      cases e:G9 (T.getK a) with
      | false=>rw[e] at hp; cases hp
      | true=>
       rw[e] at hp
       refine⟨hp,.inl ⟨sz,agg,a,rfl,fun cells hc=>?_⟩⟩
       rw[FT.getK_eq,← ha a,hc] at e
       cases e
    simp only[kE,AQ ha e1 hp'.2,ih q hp'.1 e2]
   ·cases h
  ·cases h
noncomputable def ID (l:List AV):Nat→FT→Option FT:=
 List.rec (motive:=fun _=>Nat→FT→Option FT) (fun _ T=>some T) (fun a _ ih i T=>match T.putK i a with
  | some T'=>ih (Nat.succ i) T'
  | none=>none) l
theorem FT.get_full (d:Nat):∀ t,(FT.full d).get t=.undef:=by
 induction d with
 | zero=>intro t; cases t<;>rfl
 | succ d ih=>
  intro t
  cases t with
  | zero=>rfl
  | succ t=>
   show(match Nat.beq (Nat.mod t 2) 0 with | true=>(FT.full d).get (Nat.div t 2) | false=>(FT.full d).get (Nat.div t 2))=_
   split<;>exact ih _
theorem z3:∀(l:List AV) (i:Nat) (T T':FT),ID l i T=some T'→∀ fr,AgT fr T→(∀ t,i≤t→fr.get t=.undef)→∀ t,T'.get t=match Fr.get (eP i l) t with | .undef=>fr.get t | v=>v:=by
 intro l
 induction l with
 | nil=>
  intro i T T' h fr ha _ t
  injection h with h
  subst h
  exact(ha t).symm
 | cons a l ih=>
  intro i T T' h fr ha hu t
  replace h:(match T.putK i a with | some T'=>ID l (Nat.succ i) T' | none=>none)=some T':=h
  split at h
  ·rename_i T1 e
   have ha1:=ha.putK e
   have hu1:∀ t,Nat.succ i≤t→(Fr.put fr (some i) a).get t=.undef:=by
    intro t ht
    show(match Nat.beq i t with | true=>a | false=>Fr.get fr t)=.undef
    have:Nat.beq i t=false:=by
     rw[Bool.eq_false_iff]
     intro he
     have:=Nat.eq_of_beq_eq_true he
     omega
    rw[this]
    exact hu t (by omega)
   rw[ih (i+1) T1 T' h _ ha1 hu1 t]
   show(match Fr.get (eP (i+1) l) t with | .undef=>(match Nat.beq i t with | true=>a | false=>Fr.get fr t) | v=>v)=match (match Nat.beq i t with | true=>a | false=>Fr.get (eP (i+1) l) t) with | .undef=>fr.get t | v=>v
   cases hb:Nat.beq i t with
   | true=>
    have:=Nat.eq_of_beq_eq_true hb
    subst this
    have:Fr.get (eP (i+1) l) i=.undef:=by
     rw[l4,if_neg (by omega)]
    rw[this]
    simp only
    cases a<;>first | rfl | exact(hu i (Nat.le_refl _)).symm
   | false=>rfl
  ·cases h
def HB (P:Program):List (Nat×IFun)→Prop
 | []=>True
 | (n,F)::l=>aN P n=some F∧HB P l
theorem BJ {P:Program}:∀ {l:List (Nat×IFun)},HB P l→∀ f F,KI l f=some F→aN P f=some F
 | [],_,f,F,h=>by cases h
 | (n,G)::l,⟨h1,h2⟩,f,F,h=>by
  simp only[KI] at h
  split at h
  ·rename_i e
   have:=Nat.eq_of_beq_eq_true e
   subst this
   injection h with h
   subst h
   exact h1
  ·exact BJ h2 f F h
end Go.Av
namespace Go.Av
open Go.RowKit Go.WideShapes Go.ChangeShapes Go.ChangeAt
inductive Sh where
 | int (k:IntKind)
 | bool
 | str
 | float (k:FloatKind)
 | slice (row:List Sh)
inductive Fit:Sh→AV→Prop
 | int (k:IntKind) (n:Int) (h:(Lit.int k n).wf=true):Fit (.int k) (.sc (.int k n))
 | bool (b:Bool):Fit .bool (.sc (.bool b))
 | str (s:ByteArray) (h:s.size≤maxLen):Fit .str (.sc (.string s))
 | float (k:FloatKind) (b:Nat) (h:(Lit.float k b).wf=true):Fit (.float k) (.sc (.float k b))
 | slice (row:List Sh) (rows:List (List AV)) (hl:rows.length≤maxLen) (hr:∀ r∈rows,r.length=row.length) (h:∀ r∈rows,∀(j:Nat) s c,row[j]?=some s→r[j]?=some c→Fit s c):Fit (.slice row) (.list row.length rows)
theorem Fit.pure {s:Sh} {a:AV} (h:Fit s a):aX a:=by
 induction h with
 | int=>exact .sc _
 | bool=>exact .sc _
 | str=>exact .sc _
 | float=>exact .sc _
 | slice row rows hl hr _ ih=>
  refine .list _ _ fun r hrm c hc=>?_
  obtain⟨j,hj⟩:=List.getElem?_of_mem hc
  have hlt:=(gEs.1 hj).1
  have:j < row.length:=by rw[← hr r hrm]; exact hlt
  exact ih r hrm j row[j] c (gEg this) hj
def IP (r:List Sh):Nat→List Sh
 | 0=>[]
 | n+1=>r++IP r n
mutual
def shp (P:Program):Nat→TypeId→Option (List Sh)
 | 0,_=>none
 | d+1,t=>match P.underlying t with
  | some .bool=>some [.bool]
  | some (.int k)=>some [.int k]
  | some .string=>some [.str]
  | some (.float k)=>some [.float k]
  | some (.slice e)=>match shp P d e with
   | some (s::r)=>match Nat.beq (P.cellsOf e) (s::r).length with
    | true=>some [.slice (s::r)]
    | false=>none
   | _=>none
  | some (.struct fs)=>match EA P d 0 fs.toList with
   | some r=>match Nat.beq (P.cellsOf t) r.length with
    | true=>some r
    | false=>none
   | none=>none
  | some (.array n e)=>match shp P d e with
   | some r=>match Nat.beq (P.cellsOf e) r.length && Nat.beq (P.cellsOf t) (n * r.length) with
    | true=>some (IP r n)
    | false=>none
   | none=>none
  | _=>none
def EA (P:Program):Nat→Nat→List Field→Option (List Sh)
 | 0,_,_=>none
 | _+1,_,[]=>some []
 | d+1,off,f::fs=>match shp P d f.type,EA P d (off+P.cellsOf f.type) fs with
  | some r,some q=>match Nat.beq f.offset off && Nat.beq (P.cellsOf f.type) r.length with
   | true=>some (r++q)
   | false=>none
  | _,_=>none
end
def sB (w:World):Mem:=fun β=>w.heap[β]?
def noJ:Inj:=fun _ _=>none
theorem DI (w:World):aZ (sB w) w.heap:=fun _ _ h=>h
theorem KL (M:Mem) (h:Array Obj):aP M noJ [] h:=
 ⟨fun g i x hx=>(by simp[hget] at hx),fun g i g' i' l l' β _ _ hJ=>(by cases hJ),fun g i l β _ hJ=>(by cases hJ),fun g i l hJ=>(by cases hJ)⟩
theorem pG {α:Type} (p:Nat→α→Prop):∀(n:Nat),(∀ i,i < n→∃ a,p i a)→∃ l:List α,l.length=n∧∀(i:Nat) a,l[i]?=some a→p i a
 | 0,_=>⟨[],rfl,fun i a h=>by simp at h⟩
 | n+1,h=>by
  obtain⟨l,h1,h2⟩:=pG p n fun i hi=>h i (by omega)
  obtain⟨a,ha⟩:=h n (by omega)
  refine⟨l++[a],by simp[h1],fun i b hb=>?_⟩
  rw[List.getElem?_append] at hb
  split at hb
  ·exact h2 i b hb
  ·have:i=n:=by
    have:=(gEs.1 hb).1
    simp at this
    omega
   subst this
   rw[h1,Nat.sub_self] at hb
   simp at hb
   subst hb
   exact ha
section
variable {H:Type} {enc:TypeId×Value→H} {P:Program} {w:World}
def dL (w:World) (row:List Sh) (cs:List Value):Prop:=
 cs.length=row.length∧∃ avs:List AV,avs.length=row.length∧(∀(j:Nat) s c,row[j]?=some s→avs[j]?=some c→Fit s c)∧∀(j:Nat) c v,avs[j]?=some c→cs[j]?=some v→Rep (sB w) noJ c v∧v.oneCell'=true
theorem dL.one {s:Sh} {v:Value} {a:AV} (hf:Fit s a) (hr:Rep (sB w) noJ a v) (h1:v.oneCell'=true):dL w [s] [v]:=by
 refine⟨rfl,[a],rfl,fun j s' c h h'=>?_,fun j c u h h'=>?_⟩
 ·cases j with
  | zero=>simp at h h'; subst h; subst h'; exact hf
  | succ j=>simp at h
 ·cases j with
  | zero=>simp at h h'; subst h; subst h'; exact⟨hr,h1⟩
  | succ j=>simp at h
theorem dL.append {r q:List Sh} {a b:List Value} (h1:dL w r a) (h2:dL w q b):dL w (r++q) (a++b):=by
 obtain⟨l1,x,e1,f1,g1⟩:=h1
 obtain⟨l2,y,e2,f2,g2⟩:=h2
 refine⟨by simp[l1,l2],x++y,by simp[e1,e2],fun j s c h h'=>?_,fun j c v h h'=>?_⟩
 ·rw[List.getElem?_append] at h h'
  rw[e1] at h'
  split at h
  ·rename_i hj; rw[if_pos hj] at h'; exact f1 j s c h h'
  ·rename_i hj; rw[if_neg hj] at h'; exact f2 _ s c h h'
 ·rw[List.getElem?_append] at h h'
  rw[e1,← l1] at h
  split at h
  ·rename_i hj; rw[if_pos hj] at h'; exact g1 j c v h h'
  ·rename_i hj; rw[if_neg hj] at h'; exact g2 _ c v h h'
theorem t9 {a:Addr} {v:Value} (h:w.cell? a=some v):∃ cs e fr,w.heap[a.block]?=some (.cells cs e fr)∧a.spot=none∧cs[a.off]?=some v:=by
 unfold World.cell? at h
 split at h
 ·rename_i c e fr hb
  split at h
  ·cases h
  ·rename_i hs
   exact⟨c,e,fr,hb,by simpa using hs,h⟩
 ·cases h
theorem G2 {base:Nat} {spare:Nat→Bool} {held:Bool} {fuel:Nat} {t:TypeId} {cs:List Value} {x:DataW H×List MemPlace} {n:Nat} {e:TypeId} (ht:P.underlying t=some (.array n e)) (h:DataW.trod enc P w base spare held fuel t cs=some x):
  ∃(m:Nat),cs.length=P.cellsOf t∧∀(i:Nat),i < n→∃ y,DataW.trod enc P w base spare held m e ((cs.drop (i * P.cellsOf e)).take (P.cellsOf e))=some y:=by
 obtain⟨xs,m,_,_,hl,hlen,hel⟩:=DataW.trod_array ht h
 refine⟨m,hl,fun i hi=>?_⟩
 rw[hel i hi,gEg (by omega)]
 exact⟨_,rfl⟩
theorem dL.rep {r:List Sh}:∀(n off:Nat) (cs:List Value),cs.length=off+n * r.length→(∀ i,i < n→dL w r ((cs.drop (off+i * r.length)).take r.length))→dL w (IP r n) (cs.drop off)
 | 0,off,cs,hl,_=>⟨by simp at hl ⊢; simp[IP]; omega,[],rfl,fun j s c h=>by simp[IP] at h,fun j c v h=>by simp at h⟩
 | n+1,off,cs,hl,h=>by
  have h0:=h 0 (by omega)
  rw[Nat.zero_mul,Nat.add_zero] at h0
  have h1:=dL.rep (r:=r) n (off+r.length) cs (by rw[hl,Nat.succ_mul]; omega) fun i hi=>by
   have:=h (i+1) (by omega)
   rwa[Nat.succ_mul,Nat.add_comm (i * r.length) r.length,← Nat.add_assoc] at this
  have:=h0.append h1
  rw[← List.drop_drop,List.take_append_drop] at this
  exact this
mutual
theorem qK:∀(d fuel:Nat) (t:TypeId) (cs:List Value) (x:DataW H×List MemPlace) (row:List Sh),DataW.trod enc P w 0 (fun _=>true) true fuel t cs=some x→shp P d t=some row→dL w row cs
 | 0,_,_,_,_,_,_,hs=>by simp[shp] at hs
 | d+1,fuel,t,cs,x,row,h,hs=>by
  simp only[shp] at hs
  split at hs
  ·rename_i ht
   injection hs with hs; subst hs
   obtain⟨b,rfl,_⟩:=DataW.trod_bool ht h
   exact .one (.bool b) (.sc _) rfl
  ·rename_i k ht
   injection hs with hs; subst hs
   obtain⟨n,rfl,_,hw⟩:=DataW.trod_int ht h
   exact .one (.int k n hw) (.sc _) rfl
  ·rename_i ht
   injection hs with hs; subst hs
   obtain⟨s,rfl,_,hw⟩:=DataW.trod_string ht h
   exact .one (.str s hw) (.sc _) rfl
  ·rename_i k ht
   injection hs with hs; subst hs
   cases fuel with
   | zero=>simp[DataW.trod] at h
   | succ n=>
    unfold DataW.trod at h
    rw[ht] at h
    split at h<;>simp_all
    exact .one (.float _ _ h.1.2) (.sc _) rfl
  ·rename_i e ht
   split at hs
   ·rename_i s r he
    split at hs
    ·rename_i hce
     have hsz:P.cellsOf e=(s::r).length:=Nat.eq_of_beq_eq_true hce
     injection hs with hs; subst hs
     rcases DataW.trod_slice ht h with⟨rfl,_⟩ | ⟨a,len,cap,elems,rest,n,_,rfl,_,_,hlc,hcm,hel,hread,_,_⟩
     ·exact .one (.slice (s::r) [] (by simp) (fun q hq=>by cases hq) (fun q hq=>by cases hq)) (.nilList _ _ _) rfl
     ·have each:∀ i,i < len→∃ avs:List AV,avs.length=(s::r).length∧(∀(j:Nat) s' c,(s::r)[j]?=some s'→avs[j]?=some c→Fit s' c) ∧
        ∀(j:Nat) c,avs[j]?=some c→∃ v,w.cell? ((a.add (i * (s::r).length)).add j)=some v∧Rep (sB w) noJ c v∧v.oneCell'=true:=by
       intro i hi
       have h1:=hread i hi
       rw[gEg (by omega),Option.bind_eq_some_iff] at h1
       obtain⟨cells,hc,hy⟩:=h1
       obtain⟨_,hcl,hcell⟩:=World.cells?_some hc
       obtain⟨hl,avs,e1,e2,e3⟩:=qK d n e cells _ _ hy he
       refine⟨avs,e1,e2,fun j c hj=>?_⟩
       have hjl:=(gEs.1 hj).1
       have hv:cells[j]?=some (cells[j]'(by omega)):=gEg (by omega)
       refine⟨cells[j]'(by omega),?_,e3 j c _ hj hv⟩
       rw[← hsz,hcell j (by omega),hv]
      obtain⟨rows,hrl,hrows⟩:=pG _ len each
      have hfit:Fit (.slice (s::r)) (.list (s::r).length rows):=by
       refine .slice _ _ (by rw[hrl]; omega) (fun q hq=>?_) (fun q hq=>?_)
       ·obtain⟨i,hi⟩:=List.getElem?_of_mem hq
        exact(hrows i q hi).1
       ·obtain⟨i,hi⟩:=List.getElem?_of_mem hq
        exact(hrows i q hi).2.1
      by_cases hlen:len=0
      ·subst hlen
       have:rows=[]:=by simpa using hrl
       subst this
       exact .one hfit (.nilList _ _ _) rfl
      ·have getR:∀ i,i < len→∃ q,rows[i]?=some q:=fun i hi=>⟨rows[i],gEg (by omega)⟩
       have cellAt:∀ i j,i < len→j < (s::r).length→∃ c v,(∃ q,rows[i]?=some q∧q[j]?=some c)∧w.cell? ((a.add (i * (s::r).length)).add j)=some v∧Rep (sB w) noJ c v∧v.oneCell'=true:=by
        intro i j hi hj
        obtain⟨q,hq⟩:=getR i hi
        obtain⟨h1,_,h3⟩:=hrows i q hq
        have hqj:q[j]?=some (q[j]'(by omega)):=gEg (by omega)
        obtain⟨v,hv1,hv2⟩:=h3 j _ hqj
        exact⟨_,v,⟨q,hq,hqj⟩,hv1,hv2⟩
       obtain⟨c0,v0,_,hv0,_,_⟩:=cellAt 0 0 (by omega) (by simp)
       have ha0:(a.add (0 * (s::r).length)).add 0=a:=by simp[Addr.add]
       rw[ha0] at hv0
       obtain⟨csb,eb,frb,hb,hsp,_⟩:=t9 hv0
       have ha:a=⟨a.block,a.off,none⟩:=by cases a; simp_all
       have hadd:∀ k j,(a.add k).add j=⟨a.block,a.off+(k+j),none⟩:=by
        intro k j
        rw[ha,b9,b9,Nat.add_assoc]
       have hcell:∀ i j,i < len→j < (s::r).length→∃ c v,(∃ q,rows[i]?=some q∧q[j]?=some c)∧csb[a.off+(i * (s::r).length+j)]?=some v∧Rep (sB w) noJ c v∧v.oneCell'=true:=by
        intro i j hi hj
        obtain⟨c,v,h1,h2,h3⟩:=cellAt i j hi hj
        rw[hadd] at h2
        refine⟨c,v,h1,?_,h3⟩
        rw[jU hb] at h2
        exact h2
       have hsz0:0 < (s::r).length:=by simp
       rw[ha]
       refine .one hfit (.list (s::r).length rows a.block a.off cap len csb eb frb ⟨hrl.symm,hlc⟩ hb (fun i q hq=>(hrows i q hq).1) ?_ (fun j v hj hv=>?_) (fun i q j c v hq hc hv=>?_)) rfl
       ·obtain⟨_,v,_,hv,_⟩:=hcell (len - 1) ((s::r).length - 1) (by omega) (by omega)
        have:=(Array.getElem?_eq_some_iff.1 hv).1
        have e1:(len - 1) * (s::r).length+(s::r).length=len * (s::r).length:=by
         rw[← Nat.succ_mul]; congr 1; omega
        rw[hrl]
        omega
       ·rw[hrl] at hj
        have hi:j / (s::r).length < len:=(Nat.div_lt_iff_lt_mul hsz0).2 hj
        have hm:j % (s::r).length < (s::r).length:=Nat.mod_lt _ hsz0
        obtain⟨c,v',_,h2,_,h4⟩:=hcell _ _ hi hm
        have e1:j / (s::r).length * (s::r).length+j % (s::r).length=j:=by rw[Nat.mul_comm]; exact Nat.div_add_mod _ _
        rw[e1,hv] at h2
        injection h2 with h2
        subst h2
        exact h4
       ·have hi:=(gEs.1 hq).1
        have hj:=(gEs.1 hc).1
        rw[(hrows i q hq).1] at hj
        obtain⟨c',v',⟨q',h1,h1'⟩,h2,h3,_⟩:=hcell i j (by omega) hj
        rw[hq] at h1
        injection h1 with h1
        subst h1
        rw[hc] at h1'
        injection h1' with h1'
        subst h1'
        rw[← Nat.add_assoc,hv] at h2
        injection h2 with h2
        subst h2
        exact h3
    ·cases hs
   ·cases hs
  ·rename_i fs ht
   split at hs
   ·rename_i q hq
    split at hs
    ·rename_i hce
     have hsz:P.cellsOf t=q.length:=Nat.eq_of_beq_eq_true hce
     injection hs with hs; subst hs
     obtain⟨xs,n,_,_,hl,hlen,hf⟩:=DataW.trod_struct ht h
     have:=xU d n fs.toList 0 cs q hq (by omega) (fun i f hi=>by
      have h1:=hf i f (by simpa using hi)
      have hi':=(Array.getElem?_eq_some_iff.1 (show fs[i]?=some f by simpa using hi)).1
      have:xs[i]?=some (xs[i]'(by omega)):=gEg (by omega)
      exact⟨_,h1.trans this⟩)
     rwa[List.drop_zero] at this
    ·cases hs
   ·cases hs
  ·rename_i n e ht
   split at hs
   ·rename_i r hr
    split at hs
    ·rename_i hce
     simp only[Bool.and_eq_true] at hce
     have hsz:P.cellsOf e=r.length:=Nat.eq_of_beq_eq_true hce.1
     have hst:P.cellsOf t=n * r.length:=Nat.eq_of_beq_eq_true hce.2
     injection hs with hs; subst hs
     obtain⟨m,hl,hel⟩:=G2 ht h
     have:=dL.rep (w:=w) (r:=r) n 0 cs (by rw[hl,hst,Nat.zero_add]) fun i hi=>by
      obtain⟨y,hy⟩:=hel i hi
      rw[Nat.zero_add,← hsz]
      exact qK d m e _ y r hy hr
     rwa[List.drop_zero] at this
    ·cases hs
   ·cases hs
  ·cases hs
theorem xU:∀(d n:Nat) (fs:List Field) (off:Nat) (cs:List Value) (q:List Sh),EA P d off fs=some q→cs.length=off+q.length →
  (∀(i:Nat) f,fs[i]?=some f→∃ y,DataW.trod enc P w 0 (fun _=>true) true n f.type ((cs.drop f.offset).take (P.cellsOf f.type))=some y)→dL w q (cs.drop off)
 | 0,_,_,_,_,_,hs,_,_=>by simp[EA] at hs
 | d+1,n,[],off,cs,q,hs,hl,_=>by
  simp only[EA,oIn] at hs
  subst hs
  refine⟨by simp at hl ⊢; omega,[],rfl,fun j s c h=>by simp at h,fun j c v h=>by simp at h⟩
 | d+1,n,f::fs,off,cs,q,hs,hl,hf=>by
  simp only[EA] at hs
  split at hs
  ·rename_i r q' h1 h2
   split at hs
   ·rename_i hb
    simp only[Bool.and_eq_true] at hb
    have e1:f.offset=off:=Nat.eq_of_beq_eq_true hb.1
    have e2:P.cellsOf f.type=r.length:=Nat.eq_of_beq_eq_true hb.2
    injection hs with hs; subst hs
    obtain⟨y,hy⟩:=hf 0 f rfl
    rw[e1] at hy
    have k1:=qK d n f.type _ y r hy h1
    have k2:=xU d n fs (off+P.cellsOf f.type) cs q' h2 (by rw[e2]; simp at hl; omega) (fun i g hi=>hf (i+1) g (by simpa using hi))
    have:=k1.append k2
    have e3:(cs.drop off).take (P.cellsOf f.type)++cs.drop (off+P.cellsOf f.type)=cs.drop off:=by
     rw[← List.drop_drop,List.take_append_drop]
    rwa[e3] at this
   ·cases hs
  ·cases hs
end
def jF (P:Program) (d:Nat):List TypeId→Option (List Sh)
 | []=>some []
 | t::ts=>match shp P d t,jF P d ts with
  | some [s],some r=>match P.underlying t with
   | some (.struct _)=>none
   | some (.array _ _)=>none
   | _=>some (s::r)
  | _,_=>none
theorem rM {d:Nat}:∀(ts:List TypeId) (row:List Sh) (vs:List Value) (ds:List (DataW H)) (ps:List MemPlace),DataW.TrodAll enc P w 0 (fun _=>true) true ts vs ds ps→jF P d ts=some row →
  (∀ v∈vs,v.cells.toList=[v])→dL w row vs
 | [],row,[],_,_,_,hs,_=>by
  simp only[jF,oIn] at hs
  subst hs
  exact⟨rfl,[],rfl,fun j s c h=>by simp at h,fun j c v h=>by simp at h⟩
 | t::ts,row,v::vs,d0::ds,ps,h,hs,hc=>by
  obtain⟨p,q,⟨fuel,h1⟩,h2,_⟩:=h
  simp only[jF] at hs
  split at hs
  ·rename_i s r e1 e2
   split at hs
   ·cases hs
   ·cases hs
   ·injection hs with hs; subst hs
    have k1:=qK d fuel t _ _ _ h1 e1
    rw[hc v (List.mem_cons_self ..)] at k1
    have k2:=rM ts r vs ds q h2 e2 fun u hu=>hc u (List.mem_cons_of_mem _ hu)
    exact dL.append k1 k2
  ·cases hs
theorem Below.same {W W':World} (h:∀(β:Nat) o,W.heap[β]?=some o→W'.heap[β]?=some o) (ho:W'.os=W.os) (ht:W'.tape=W.tape) (hu:W'.output=W.output) (hz:W.heap.size≤W'.heap.size):Below W.heap.size W W':=
 ⟨ho,ht,hu,hz,fun k hk=>by rw[Array.getElem?_eq_getElem hk]; exact h k _ (Array.getElem?_eq_getElem hk)⟩
end
end Go.Av
namespace Go.Av
open Go.RowKit Go.WideShapes Go.ChangeShapes Go.ChangeAt
section
variable {H:Type} {enc:TypeId×Value→H} {P:Program}
theorem I7 {w:World} {base:Nat} {t:TypeId} {v:Value} {d:Nat} {s:Sh} (hs:shp P d t=some [s]) (hn:∀ fs,P.underlying t≠some (.struct fs)) (hn2:∀ n e,P.underlying t≠some (.array n e)) (h:Value.okWide P w .any base t v):v.cells.toList=[v]:=by
 cases v with
 | agg cs=>
  exfalso
  cases d with
  | zero=>simp[shp] at hs
  | succ d=>
   simp only[shp] at hs
   split at hs
   ·rename_i ht; simp[Value.okWide,ht,Cell.okWide,Cell.ok] at h
   ·rename_i k ht; simp[Value.okWide,ht,Cell.okWide,Cell.ok] at h
   ·rename_i ht; simp[Value.okWide,ht,Cell.okWide,Cell.ok] at h
   ·rename_i k ht; simp[Value.okWide,ht,Cell.okWide,Cell.ok] at h
   ·rename_i e ht; simp[Value.okWide,ht,Cell.okWide,Cell.ok] at h
   ·rename_i fs ht; exact hn fs ht
   ·rename_i n e ht; exact hn2 n e ht
   ·cases hs
 | _=>rfl
theorem xT {w:World} {base d:Nat}:∀(ts:List TypeId) (row:List Sh) (vs:List Value),jF P d ts=some row→(∀(j:Nat) t v,ts[j]?=some t→vs[j]?=some v→Value.okWide P w .any base t v)→vs.length≤ts.length→∀ v∈vs,v.cells.toList=[v]
 | [],_,[],_,_,_,v,hv=>by cases hv
 | [],_,_::_,_,_,hl,_,_=>by simp at hl
 | t::ts,row,[],_,_,_,v,hv=>by cases hv
 | t::ts,row,u::vs,hs,h,hl,v,hv=>by
  simp only[jF] at hs
  split at hs
  ·rename_i s r e1 e2
   split at hs
   ·cases hs
   ·cases hs
   ·rename_i hne hne2
    rcases List.mem_cons.1 hv with e | e
    ·subst e
     exact I7 e1 (fun fs hf=>hne fs hf) (fun n e hf=>hne2 n e hf) (h 0 t v rfl rfl)
    ·exact xT ts r vs e2 (fun j t v a b=>h (j+1) t v (by simpa using a) (by simpa using b)) (by simpa using hl) v e
  ·cases hs
theorem lS {w w':World}:∀ {ts:List TypeId} {vs:List Value} {ds:List (DataW H)} {ps:List MemPlace},DataW.TrodAll enc P w 0 (fun _=>true) true ts vs ds ps→(∀ p∈ps,w.sameAt w' p)→DataW.TrodAll enc P w' 0 (fun _=>true) true ts vs ds ps
 | [],[],[],_,h,_=>h
 | t::ts,v::vs,d::ds,ps,⟨p,q,⟨fuel,h1⟩,h2,e⟩,hs=>by
  subst e
  exact⟨p,q,⟨fuel,DataW.trod_carry fuel t _ _ h1 fun x hx=>hs x (List.mem_append_left _ hx)⟩,lS h2 fun x hx=>hs x (List.mem_append_right _ hx),rfl⟩
theorem t7 {f:Func} {s:ChangeSpec} {W W':World} {args:Array Value} {ds gs:List (DataW H)} {before:List MemPlace} {tb:TypeId}
  (hW:DataW.Whole enc P f.params.toList s.vars false W args.toList ds gs before) (hvars:s.vars=[])
  (hl:laidOutB P=true) (hm:mapsRowed P=true) (hz:∀ t e,t < P.types.size→P.underlying t=some (.slice e)→0 < P.cellsOf e) (hts:∀ t∈f.params.toList,t < P.types.size)
  (hr:f.resultTypes=#[tb]) (htb:P.underlying tb=some .bool) (hres:(s.fn H (ds++gs)).results=[.lit (.bool true)]) (hargs:(s.fn H (ds++gs)).args=ds) (hv:(s.fn H (ds++gs)).vars=[]) (hb:Below W.heap.size W W'):
  s.post enc P f false true false false W args (.bool true) W':=by
 have hlt:∀ p∈before,p.block < W.heap.size:=fun p hp=>hW.lt p hp
 have hold:∀ p∈before,(fun b=>decide (b < W.heap.size)) p.block=true:=fun p hp=>by simpa using hlt p hp
 obtain⟨p,q,h1,h2,e,hzf,hn⟩:=hW
 have hq:gs=[]∧q=[]:=by
  rw[hvars] at h2
  cases gs with
  | nil=>exact⟨rfl,h2⟩
  | cons=>exact h2.elim
 obtain⟨rfl,rfl⟩:=hq
 rw[List.append_nil] at e
 subst e
 have hsame:∀ p∈before,W.sameAt W' p:=fun p hp=>by
  cases p with
  | cell b off=>exact hb.cell (p:=⟨b,off,none⟩) (hlt _ hp)
  | map b=>exact hb.block b (hlt _ hp)
 have hc:=lS h1 hsame
 have hcs:∀ sp:Nat→Bool,(∀ p∈before,sp p.block=true)→DataW.TrodAll enc P W' 0 sp true f.params.toList args.toList (s.fn H (ds++[])).args before:=fun sp hsp=>by
  rw[hargs]
  exact DataW.TrodAll.respare (kids_rows hl hm) hz hts hc hsp
 have hvs:∀ sp:Nat→Bool,DataW.TrodVars enc P W' sp s.vars (s.fn H (ds++[])).vars []:=fun sp=>by
  rw[hvars,hv]
  rfl
 have hrs:∀(b:Nat) (sp:Nat→Bool) (hd:Bool),DataW.TrodAll enc P W' b sp hd f.resultTypes.toList ((Value.bool true).resultList f.resultTypes.size) (s.fn H (ds++[])).results []:=fun b sp hd=>by
  rw[hres,hr]
  exact trodAll_mk1 (shut_bool htb true)
 refine⟨ds,[],before,[],before,[],⟨before,[],h1,h2,by simp,hzf,hn⟩,hrs _ _ _,hcs _ hold,hvs _,World.keptBut_mono (fun p hp=>⟨hp,.inr (.inl hp)⟩) (hb.frame (·∈before)),fun _=>?_⟩
 refine⟨ok_one hr rfl (okWide_bool_mk htb true),_,_,([]++before)++[],⟨[]++before,[],trodAll_append (hcs _ (fun _ _=>rfl)) (hrs _ _ _),hvs _,rfl,?_,?_⟩,?_⟩
 ·intro b off hp
  have hin:MemPlace.cell b off∈before:=by simpa using hp
  rw[hb.frozen (hlt _ hin)]
  exact hzf b off hin
 ·intro ha
  cases ha
 ·intro p hp _
  simpa using hp
theorem DV {f:FuncId} {fn:Func} {s:ChangeSpec} {row:List Sh} {d:Nat} {tb:TypeId} (hs:jF P d fn.params.toList=some row) (hvars:s.vars=[])
  (hl:laidOutB P=true) (hm:mapsRowed P=true) (hz:∀ t e,t < P.types.size→P.underlying t=some (.slice e)→0 < P.cellsOf e) (hts:∀ t∈fn.params.toList,t < P.types.size)
  (hr:fn.resultTypes=#[tb]) (htb:P.underlying tb=some .bool)
  (hspec:∀ ds:List (DataW H),ds.length=fn.params.size→(s.fn H ds).results=[.lit (.bool true)]∧(s.fn H ds).args=ds∧(s.fn H ds).vars=[])
  (hc:∀ avs:List AV,avs.length=row.length→(∀(j:Nat) t c,row[j]?=some t→avs[j]?=some c→Fit t c)→aD P f avs [] fun res _=>res=.sc (.bool true))
  {W:World} {base:Nat} {args:Array Value} {ds gs:List (DataW H)} {before:List MemPlace}
  (hval:∀(j:Nat) t v,fn.params[j]?=some t→args[j]?=some v→Value.okWide P W .any base t v) (hW:DataW.Whole enc P fn.params.toList s.vars false W args.toList ds gs before):
  Calls P f args W fun e W'=>∃ v,e=.returned v∧s.post enc P fn false true false false W args v W':=by
 have hW0:=hW
 obtain⟨p,q,h1,h2,e,hzf,hn⟩:=hW
 obtain⟨l1,l2⟩:=trodAll_length h1
 have hgs:gs=[]:=by
  rw[hvars] at h2
  cases gs with
  | nil=>rfl
  | cons=>exact h2.elim
 subst hgs
 have hone:=xT fn.params.toList row args.toList hs (fun j t v a b=>hval j t v (by simpa using a) (by simpa using b)) (by omega)
 obtain⟨hlen,avs,e1,e2,e3⟩:=rM fn.params.toList row args.toList ds p h1 hs hone
 refine((hc avs e1 e2).2 (sB W) noJ W args (by simp at hlen; omega) (fun j c v a b=>(e3 j c v a (by simpa using b)).1) (KL _ _) (DI W)).mono ?_
 rintro e W' ⟨v,M',J',res,H',rfl,hst,hrep,rfl⟩
 cases hrep
 obtain⟨r1,r2,r3⟩:=hspec ds (by simp at l1 l2 ⊢; omega)
 refine⟨.bool true,rfl,t7 hW0 hvars hl hm hz hts hr htb (by rw[List.append_nil]; exact r1) (by rw[List.append_nil]; exact r2) (by rw[List.append_nil]; exact r3) ?_⟩
 exact Below.same (fun β o h=>hst.mrep β o (hst.m β o h)) hst.os hst.tape.1 hst.output hst.size
end
end Go.Av
namespace Go.Av
theorem qD {a:AV} (h:Fit (.int .u8) a):∃ n:Nat,a=.sc (.int .u8 n)∧n≤255:=by
 cases h with
 | int k n h=>
  have e1:IntKind.u8.min=0:=rfl
  have e2:IntKind.u8.max=255:=rfl
  simp only[Lit.wf,Bool.and_eq_true,decide_eq_true_eq,e1,e2] at h
  obtain⟨m,rfl⟩:=Int.eq_ofNat_of_zero_le h.1
  exact⟨m,rfl,by omega⟩
theorem uX {α:Type} {row:List Sh} {a:AV} (h:Fit (.slice row) a) (f:α→List AV) (ok:α→Prop) (each:∀ r:List AV,r.length=row.length→(∀(j:Nat) s c,row[j]?=some s→r[j]?=some c→Fit s c)→∃ x,r=f x∧ok x):
  ∃ l:List α,a=.list row.length (l.map f)∧l.length≤maxLen∧∀ x∈l,ok x:=by
 cases h with
 | slice _ rows hl hr h=>
  have key:∀ rows:List (List AV),(∀ r∈rows,r.length=row.length)→(∀ r∈rows,∀(j:Nat) s c,row[j]?=some s→r[j]?=some c→Fit s c)→∃ l:List α,rows=l.map f∧∀ x∈l,ok x:=by
   intro rows
   induction rows with
   | nil=>exact fun _ _=>⟨[],rfl,fun x hx=>by cases hx⟩
   | cons r rows ih=>
    intro hr h
    obtain⟨x,hx,hok⟩:=each r (hr r (List.mem_cons_self ..)) (h r (List.mem_cons_self ..))
    obtain⟨l,hl,hoks⟩:=ih (fun q hq=>hr q (List.mem_cons_of_mem _ hq)) (fun q hq=>h q (List.mem_cons_of_mem _ hq))
    refine⟨x::l,by rw[hx,hl]; rfl,fun y hy=>?_⟩
    rcases List.mem_cons.1 hy with e | e
    ·subst e; exact hok
    ·exact hoks y e
  obtain⟨l,e,hok⟩:=key rows hr h
  subst e
  exact⟨l,rfl,by simpa using hl,hok⟩
end Go.Av
namespace Go.Av
end Go.Av
namespace Go.Av
theorem Ren.weaken {ρ ρ':Nat→Nat→Option (Nat×Nat)} {a b:AV} (h:Ren ρ a b) (hw:∀ g i p,ρ g i=some p→ρ' g i=some p):Ren ρ' a b:=by
 induction h with
 | undef a=>exact .undef a
 | sc v=>exact .sc v
 | agg xs ys hl _ ih=>exact .agg xs ys hl ih
 | tup xs ys hl _ ih=>exact .tup xs ys hl ih
 | list sz rows rows' hl hr _ ih=>exact .list sz rows rows' hl hr ih
 | cptr xs ys hl _ ih=>exact .cptr xs ys hl ih
 | tmap es es' hl hk _ ih=>exact .tmap es es' hl hk ih
 | ptr g i g' i' row off h=>exact .ptr g i g' i' row off (hw _ _ _ h)
 | hsl g i g' i' start len h=>exact .hsl g i g' i' start len (hw _ _ _ h)
 | mref g i g' i' h=>exact .mref g i g' i' (hw _ _ _ h)
 | clo fn fs cs fs' cs' h1 h2 _ _ ih1 ih2=>exact .clo fn fs cs fs' cs' h1 h2 ih1 ih2
 | yld g i g' i' h=>exact .yld g i g' i' (hw _ _ _ h)
 | asl g i g' i' row off len h=>exact .asl g i g' i' row off len (hw _ _ _ h)
 | ifc t a b _ ih=>exact .ifc t a b ih
 | one=>exact .one
theorem bJ.weaken {ρ ρ':Nat→Nat→Option (Nat×Nat)} {x y:Blk} (h:bJ ρ x y) (hw:∀ g i p,ρ g i=some p→ρ' g i=some p):bJ ρ' x y:=by
 cases h with
 | dead=>exact .dead _
 | cells sz rows rows' hl hr h=>exact .cells sz rows rows' hl hr fun i r r' j x y a b c d=>(h i r r' j x y a b c d).weaken hw
 | map es es' hl hk h=>exact .map es es' hl hk fun j x y a b=>(h j x y a b).weaken hw
 | lp L caps caps' st pe h=>exact .lp L caps caps' st pe fun x hx=>(h x hx).weaken hw
 | it cur es h hc=>exact .it cur es h hc
theorem DK.gs {P:Program} {base j:Nat} {xs:List IOper} {fr:Fr} {H:Heap} {acc:List a6} {K:List a6→Fr→Heap→Prop} {c:Bool} (h1:c=true→DK P base j xs fr H acc K) (h2:c=false→DK P base j xs fr H acc K):DK P base j xs fr H acc K:=by
 cases c with
 | true=>exact h1 rfl
 | false=>exact h2 rfl
theorem kA {g i:Nat} {fr:Fr} {H:Heap} {sz bytes:Nat} {z:List (Nat×Value)} {x:Operand} {n:Nat} (hx:ev fr x=.sc (.int .i64 (n:Int))) (h1:bytes * n≤70368744177664) (h2:n≤1073741824):
  aC g i (.makeSlice sz bytes z x) fr H=some (.hsl g i 0 n,aJ H g i (.cells sz (List.replicate n (dQ z)))):=by
 have e1:Nat.ble (bytes * n) 70368744177664=true:=by simpa using h1
 have e2:Nat.ble n 1073741824=true:=by simpa using h2
 simp only[aC,hx]
 show(match Nat.ble (bytes * n) 70368744177664 && Nat.ble n 1073741824 with
  | true=>some (AV.hsl g i 0 n,aJ H g i (.cells sz (List.replicate n (dQ z))))
  | false=>none)=_
 rw[e1,e2]
 rfl
theorem Reg.cv {P:Program} {N k:Nat} {xs:List IOper} {fr:Fr} {H:Heap} {K:Fr→Heap→Prop} {d:Nat} {gd:Option (Nat×Bool)} {f:Cal} {args:List Operand} {g:FuncId} {fs cs:List AV} (hk:k≤H.length) (hg:gok fr gd=some true) (hf:evC P fr f=.clo (.func g) fs cs)
  (h:aD P g (fs++avals fr args++cs) H fun res H'=>Reg P N k xs ((d,res)::fr) H' K):Reg P N k (⟨some d,gd,.callV f args⟩::xs) fr H K:=
 Reg.callV (x:=⟨some d,gd,.callV f args⟩) hk hg rfl hf h
def fam (n:Nat) (f:Nat→Blk):List Blk:=(List.range n).map f
theorem cD {n k:Nat} {f:Nat→Blk} (h:k < n):(fam n f)[k]?=some (f k):=by simp[fam,h]
theorem c9 (n:Nat) (f:Nat→Blk):(fam n f).length=n:=by simp[fam]
def row1 (n:Nat) (f:Nat→AV):List (List AV):=(List.range n).map fun k=>[f k]
theorem jA {n k:Nat} {f:Nat→AV} (h:k < n):(row1 n f)[k]?=some [f k]:=by simp[row1,h]
theorem dP (n:Nat) (f:Nat→AV):(row1 n f).length=n:=by simp[row1]
theorem eU {n k:Nat} {f:Nat→AV} {r:List AV} (h:(row1 n f)[k]?=some r):k < n∧r=[f k]:=by
 have hk:=(gEs.1 h).1
 rw[dP] at hk
 rw[jA hk] at h
 exact⟨hk,by injection h with h; exact h.symm⟩
theorem yM {n k:Nat} {f:Nat→AV} {v:AV}:(row1 n f).set k [v]=row1 n fun j=>if j=k then v else f j:=by
 apply List.ext_getElem?
 intro j
 rw[List.getElem?_set]
 by_cases hj:j < n
 ·by_cases e:k=j
  ·subst e; rw[if_pos rfl,if_pos (by rw[dP]; exact hj),jA hj,if_pos rfl]
  ·rw[if_neg e,jA hj,jA hj,if_neg (fun h=>e h.symm)]
 ·rw[List.getElem?_eq_none (by rw[dP]; omega)]
  split
  ·rw[if_neg (by rw[dP]; omega),List.getElem?_eq_none (by rw[dP]; omega)]
  ·rw[List.getElem?_eq_none (by rw[dP]; omega)]
theorem xX (n:Nat) (v:AV):List.replicate n [v]=row1 n fun _=>v:=by simp[row1,List.map_const']
theorem bJ.row1 {ρ:Nat→Nat→Option (Nat×Nat)} {n:Nat} {f f':Nat→AV} (h:∀ k,k < n→Ren ρ (f k) (f' k)):bJ ρ (.cells 1 (row1 n f)) (.cells 1 (row1 n f')):=by
 refine .cells 1 _ _ (by rw[dP,dP]) (fun i r r' a b=>?_) fun i r r' j x y a b c d=>?_
 ·obtain⟨_,rfl⟩:=eU a
  obtain⟨_,rfl⟩:=eU b
  rfl
 ·obtain⟨h1,rfl⟩:=eU a
  obtain⟨_,rfl⟩:=eU b
  cases j with
  | zero=>simp at c d; subst c; subst d; exact h i h1
  | succ j=>simp at c
theorem kB.row1 {T:AV→AV→Prop} {n:Nat} {f f':Nat→AV} (h:∀ k,k < n→dN T (f k) (f' k)):kB T (.cells 1 (row1 n f)) (.cells 1 (row1 n f')):=by
 refine .cells 1 _ _ (by rw[dP,dP]) (fun i r r' a b=>?_) fun i r r' j x y a b c d=>?_
 ·obtain⟨_,rfl⟩:=eU a
  obtain⟨_,rfl⟩:=eU b
  rfl
 ·obtain⟨h1,rfl⟩:=eU a
  obtain⟨_,rfl⟩:=eU b
  cases j with
  | zero=>simp at c d; subst c; subst d; exact h i h1
  | succ j=>simp at c
end Go.Av
namespace Go.Av
def s3 (g _:Nat):Bool:=Nat.ble 3 g
theorem bJ.one {ρ:Nat→Nat→Option (Nat×Nat)} {sz:Nat} {xs ys:List AV} (h:cB ρ xs ys):bJ ρ (.cells sz [xs]) (.cells sz [ys]):=by
 obtain⟨h1,h2⟩:=h.spec
 refine .cells sz _ _ rfl (fun i r r' a b=>?_) fun i r r' j x y a b c d=>?_
 ·have e1:r=xs:=List.mem_singleton.1 (List.mem_of_getElem? a)
  have e2:r'=ys:=List.mem_singleton.1 (List.mem_of_getElem? b)
  subst e1; subst e2
  exact h1
 ·have e1:r=xs:=List.mem_singleton.1 (List.mem_of_getElem? a)
  have e2:r'=ys:=List.mem_singleton.1 (List.mem_of_getElem? b)
  subst e1; subst e2
  exact h2 j x y c d
def boxB (n:Nat):Blk:=.cells 1 [[.hsl 1 0 0 n]]
end Go.Av
