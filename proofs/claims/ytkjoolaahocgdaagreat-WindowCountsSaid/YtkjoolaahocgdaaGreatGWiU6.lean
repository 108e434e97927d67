import Derived.Test.YtkjoolaahocgdaaGreatGWiR3a
import Derived.Test.YtkjoolaahocgdaaGreatGAvSo
namespace Go.Proofs.YtkjoolaahocgdaaGreat
open Go.Av Go.Proofs
set_option maxRecDepth 20000
theorem FL {n:Nat} {p:Pg} {ls:List Ln} (hF:FOK p ls):∀(f:Nat) (o:Ord),OOK p n o→OOK p n (pH n p ls f o)
 | 0,_,h=>h
 | f+1,o,h=>by
  have hp:=(wM.pass (ls:=ls) hF h).ok
  unfold pH
  split
  ·exact FL hF f _ hp
  ·exact hp
theorem EF (p:Pg) (ls:List Ln) (hC:bL p ls):OOK p ls.length (eE ls.length p ls):=FL hC.fok _ _ (x7 p (by have:=hC.n64; have:=hC.len; omega))
set_option maxHeartbeats 16000000 in
theorem nI (p:Pg) (hp:POK p):aD Tryz.prog 15 [dH p] (l8 p):=by
 refine aD.mkI cF15 (nlB rfl) ?_
 have hc:=rP p hp
 unfold HG at hc
 unfold l8
 unfold plA dH at *
 by_cases h:(cL p).1.2=0
 ·rw[if_pos h] at hc ⊢
  have hC:=mX h
  rw[h] at hc
  generalize (cL p).2=ls at *
  have ho:=HB p ls hC hp
  have hOO:OOK p ls.length (eE ls.length p ls):=EF p ls hC
  generalize eE ls.length p ls=o at *
  refine aA ?_
  have e1:=eS p.acts
  have hn:=hC.len
  have hn64:=hC.n64
  refine AWP.loop (σ:=Nat×RS) (fun s=>rcF p ls o s.1 s.2) (fun s=>rcH s.2) (fun s=>s.1≤p.acts.length∧s.2=(List.range s.1).foldl (L6 p ls o) ([],[])∧A7 s.2 (s.1 * 100)∧v7 p ls s.2.1) (fun s=>p.acts.length - s.1) (0,([],[])) ⟨Nat.zero_le _,rfl,⟨Nat.zero_le _,Nat.zero_le _⟩,fun x hx=>by cases hx⟩ ?_ ?_
  ·show Sub _ _ _ _ _ [[.cells 2 []],[.cells 4 []]]
   unfold rcF
   exact Sub.w [2,4] [[(4,0)],[(5,0)]]
  rintro⟨r,s⟩ ⟨hr,hs,hlr,hse⟩
  dsimp only at hr hs hlr hse ⊢
  unfold rcF
  refine aA ?_
  refine AWP.condD rfl (fun h=>?_) (fun h=>?_)
  ·have hra:=gEg (show r < p.acts.length by omega)
   have hrow:=iZ hra
   have hlen:=c8 hra
   obtain⟨L,hL,hO⟩:=hC.get hra
   have hl100:=hO.len
   have hst:=kM (f:=L6 p ls o) (a:=([],[])) (t:=r)
   rw[← hs] at hst
   unfold L6 at hst
   rw[hlen] at hst
   generalize p.acts[r]=l at *
   have e2:=fF l
   unfold rcH
   refine aA ?_
   rw[e2]
   refine AWP.loop (σ:=Nat×RS) (fun s=>(11,.sc (.int .i64 (r:Int)))::(12,.list 7 (dE l))::(41,.sc (.int .i64 (l.length:Int)))::(42,.sc (.int .i64 (s.1:Int)))::rcF p ls o r s.2) (fun s=>rcH s.2) (fun t=>t.1≤l.length∧t.2=(List.range t.1).foldl (g8 p ls o r) s∧A7 t.2 (r * 100+t.1)∧v7 p ls t.2.1) (fun s=>l.length - s.1) (0,s) ⟨Nat.zero_le _,rfl,hlr,hse⟩ ?_ ?_
   ·unfold rcF rcH
    exact Sub.w [] [[(0,0)],[(1,0)]]
   rintro⟨i,t⟩ ⟨hi,ht,hlt,hst0⟩
   dsimp only at hi ht hlt hst0 ⊢
   unfold rcF rcH
   refine aA ?_
   refine AWP.condD rfl (fun h3=>?_) (fun h3=>?_)
   ·have hst2:=kM (f:=g8 p ls o r) (a:=s) (t:=i)
    rw[← ht] at hst2
    have hx:=gEg h3
    have hlk:=lN i L.acc
    have hr1:=dS hL
    unfold lnR epR at hr1
    have hac:iP ls (r,i)=bZ i L.acc:=by unfold iP; simp only[hL]
    have hln:=hlt.step (p:=p) (ls:=ls) (o:=o) (r:=r) (i:=i)
    have hsn:=hst0.step (o:=o) (show r < p.acts.length by omega) (show i < aW p r by omega)
    have hbig:=hlt.big (by omega)
    cases hL2:bZ i L.acc with
    | none=>
     rw[hL2] at hlk
     have e5:g8 p ls o r t i=t:=by unfold g8; rw[hac,hL2]
     rw[e5] at hst2 hln hsn
     refine aA ?_
     refine Reg.o rfl (bW rfl rfl hlk) ?_
     refine aA ?_
     refine⟨(i+1,t),⟨by omega,hst2.symm,hln,hsn⟩,by omega,?_⟩
     exact Sub.w [] [[(0,0)],[(1,0)]]
    | some d=>
     rw[hL2] at hlk
     have e5:g8 p ls o r t i=(t.1++[(r,i)],t.2++(t.1.filter fun y=>gB p ls o y (r,i)).map fun y=>mk4 y (r,i)):=by unfold g8; rw[hac,hL2]
     rw[e5] at hst2 hln hsn
     refine aA ?_
     refine Reg.o rfl (bW rfl rfl hlk) ?_
     refine aA ?_
     have ep:=gH t.1
     rw[show(List.length t.1)=t.1.length from rfl]
     refine AWP.loop (fun k:Nat=>(14,.cptr (plR (r,i)))::(15,.cptr (acR d))::(63,.hsl 0 0 0 t.1.length)::(64,.sc (.int .i64 (t.1.length:Int)))::(65,.sc (.int .i64 (k:Int)))::(11,.sc (.int .i64 (r:Int)))::(12,.list 7 (dE l))::(41,.sc (.int .i64 (l.length:Int)))::(42,.sc (.int .i64 (i:Int)))::rcF p ls o r (t.1,pK p ls o t (r,i) k)) (fun k=>rcH (t.1,pK p ls o t (r,i) k)) (fun k=>k≤t.1.length) (fun k=>t.1.length - k) 0 (Nat.zero_le _) ?_ ?_
     ·have ho0:pK p ls o t (r,i) 0=t.2:=by unfold pK; simp
      rw[ho0]
      unfold rcF rcH plR acR
      exact Sub.w [] [[(0,0)],[(1,0)]]
     rintro k hk
     unfold rcF rcH
     refine aA ?_
     refine AWP.condD rfl (fun h4=>?_) (fun h4=>?_)
     ·refine AWP.skip ?_
      refine AWP.seq ?_
      refine AWP.sub (fr':=rcK p ls o r i l d t.1 k (pK p ls o t (r,i) k)) (H':=rcH (t.1,pK p ls o t (r,i) k)) ?_ ?_
      ·exact Sub.keep (by unfold rcK rcF; exact⟨Le.refl _,Le.refl _,Le.refl _,Le.refl _,Le.refl _,Le.refl _,Le.refl _,Le.refl _,Le.refl _,Le.refl _,Le.refl _,Le.refl _,Le.refl _,Le.refl _,Le.refl _,Le.refl _,Le.refl _,trivial⟩)
      refine AWP.joinT0 _ _ (UL p ls hC o hOO t k h4 hst0 hbig hra h3 hL hL2 _) ?_
      unfold rcK rcF rcH
      refine aA ?_
      refine⟨k+1,by omega,by omega,?_⟩
      exact Sub.w [] [[(0,0)],[(1,0)]]
     ·have hk2:k=t.1.length:=by omega
      subst hk2
      have hout:pK p ls o t (r,i) t.1.length=t.2++(t.1.filter fun y=>gB p ls o y (r,i)).map fun y=>mk4 y (r,i):=by unfold pK; rw[List.take_length]
      rw[hout]
      generalize t.2++(t.1.filter fun y=>gB p ls o y (r,i)).map (fun y=>mk4 y (r,i))=out at *
      unfold plR
      dsimp only
      refine aA ?_
      refine⟨(i+1,(t.1++[(r,i)],out)),⟨by omega,hst2.symm,hln,hsn⟩,by omega,?_⟩
      dsimp only
      rw[nR,List.length_append]
      unfold plR
      exact Sub.w [] [[(3,0)],[(1,0)]]
   ·have hi2:i=l.length:=by omega
    subst hi2
    refine aA ?_
    refine⟨(r+1,t),⟨by omega,by rw[ht]; exact hst.symm,hlt.mono (by rw[Nat.add_mul]; omega),hst0⟩,by omega,?_⟩
    exact Sub.w [] [[(0,0)],[(1,0)]]
  ·have hr2:r=p.acts.length:=by omega
   subst hr2
   have hb2:=hlr.big (by omega)
   have hrp:g9 p ls o=pG s.2:=by unfold g9 iO; rw[← hs]
   rw[hrp]
   refine AWP.exit ?_
   refine AWP.sub (fr':=[(10,.hsl 0 0 0 s.2.length)]) (H':=[[.cells 4 (s.2.map raR)]]) ?_ ?_
   ·unfold rcH
    exact Sub.w [] [[(1,0)]]
   refine AWP.seq ?_
   refine AWP.region ?_
   refine Reg.o rfl rfl ?_
   refine Reg.c (Nat.zero_le _) rfl ((aO.fn (SF s.2 (by omega))).mono ?_)
   rintro res H' ⟨rfl,rfl⟩
   have hsl:((pG s.2).map raR).length=s.2.length:=by rw[List.length_map]; exact List.length_mergeSort _
   refine aA ?_
   refine aN.mk (.inr rfl) rfl rfl ?_
   exact To.tupL (ToL.cons (To.fz rfl rfl hsl rfl (prs _)) (ToL.cons (.sc _) ToL.nil))
 ·rw[if_neg h] at hc ⊢
  generalize (cL p).1.2=k at *
  have e:(k != 0)=true:=by simp[h]
  refine aA ?_
  rw[e]
  refine aA ?_
  exact aN.w
structure Pr where
 d:Nat
 q:List Nat
 g:List (Nat×Int)
structure St where
 seed:Nat
 ps:List Pr
 mem:List (List Int)
 held:List (List (Nat×Int))
def pr0:Pr:=⟨0,[],[]⟩
def aH (s:St) (r:Nat):Pr:=(s.ps[r]?).getD pr0
def aT (s:St) (r:Nat):List Int:=(s.mem[r]?).getD []
def bO (s:St) (r:Nat):List (Nat×Int):=(s.held[r]?).getD []
def retE (l:List (Nat×Int)):List (Value×AV):=l.map fun x=>(.int .i64 (x.1:Int),.sc (.int .i64 x.2))
instance (l:List (Nat×Int)):PM (retE l):=⟨fun x hx=>by
 obtain⟨a,_,rfl⟩:=List.mem_map.1 hx
 exact .sc _⟩
theorem vZ (i:Nat) (l:List (Nat×Int)):eJ .i64 (i:Int) (retE l)=some ((bZ i l).map fun a=>.sc (.int .i64 a)):=m7 (fun a:Int=>.sc (.int .i64 a)) i l
def prV (x:Pr):List AV:=[.sc (.int .i64 (x.d:Int)),.list 1 (bB x.q),.tmap (retE x.g)]
instance (x:Pr):PR (prV x):=by unfold prV; infer_instance
def mB (n:Nat) (s:St):List (List AV):=(List.range n).map fun r=>prV (aH s r)
def iM (n:Nat) (s:St):List (List AV):=row1 n fun r=>.list 1 (aU (aT s r))
def OR (n:Nat) (s:St):List (List AV):=row1 n fun r=>.tmap (retE (bO s r))
instance (n:Nat) (s:St):PRs (mB n s):=⟨fun r hr=>by
 obtain⟨a,_,rfl⟩:=List.mem_map.1 hr
 exact pr (prV (aH s a))⟩
instance (n:Nat) (s:St):PRs (iM n s):=inferInstanceAs (PRs (row1 n fun r=>AV.list 1 (aU (aT s r))))
instance (n:Nat) (s:St):PRs (OR n s):=inferInstanceAs (PRs (row1 n fun r=>AV.tmap (retE (bO s r))))
theorem J8 (n:Nat) (s:St):(mB n s).length=n:=by simp[mB]
theorem nV {n r:Nat} {s:St} (h:r < n):cQ (mB n s) (r:Int)=some (prV (aH s r)):=by
 rw[iU]
 simp[mB,h]
theorem O1 {n r:Nat} {s:St} (h:r < n):cQ (OR n s) (r:Int)=some [.tmap (retE (bO s r))]:=by
 rw[iU]
 exact eP h
def cP (p:Pg) (ls:List Ln) (s:St):AV:=.cptr [ckV p ls,.sc (.int .u64 (s.seed:Int)),.list 3 (mB ls.length s),.list 1 (iM ls.length s),.list 1 (OR ls.length s)]
instance (p:Pg) (ls:List Ln) (s:St):PV (cP p ls s):=by unfold cP; infer_instance
def procsH (n:Nat) (s:St) (b:Nat→Nat×Nat):List (List AV):=(List.range n).map fun r=>[.sc (.int .i64 ((aH s r).d:Int)),.hsl (b r).1 (b r).2 0 (aH s r).q.length,.mref 5 r]
def memH (n:Nat) (s:St):List (List AV):=row1 n fun r=>.hsl 6 r 0 (aT s r).length
def heldH (n:Nat):List (List AV):=row1 n fun r=>.mref 7 r
def boxW (p:Pg) (ls:List Ln) (seed:Nat):List AV:=[ckV p ls,.sc (.int .u64 (seed:Int)),.hsl 1 0 0 ls.length,.hsl 2 0 0 ls.length,.hsl 3 0 0 ls.length]
def cH (n:Nat) (s:St):List Blk:=fam n fun r=>.cells 1 (bB (aH s r).q)
def jE (n:Nat) (s:St):List Blk:=fam n fun r=>.map (retE (aH s r).g)
def k9 (n:Nat) (s:St):List Blk:=fam n fun r=>.cells 1 (aU (aT s r))
def gP (n:Nat) (s:St):List Blk:=fam n fun r=>.map (retE (bO s r))
def b4 (r:Nat):Nat×Nat:=(4,r)
def aV (p:Pg) (ls:List Ln) (s:St) (b:Nat→Nat×Nat) (F4:List Blk):Heap:=
 [[.cells 5 [boxW p ls s.seed]],[.cells 3 (procsH ls.length s b)],[.cells 1 (memH ls.length s)],[.cells 1 (heldH ls.length)],F4,jE ls.length s,k9 ls.length s,gP ls.length s]
def worldH (p:Pg) (ls:List Ln) (s:St):Heap:=aV p ls s b4 (cH ls.length s)
theorem fM (n:Nat) (s:St) (b:Nat→Nat×Nat):(procsH n s b).length=n:=by simp[procsH]
theorem j8 {n r:Nat} {s:St} {b:Nat→Nat×Nat} (h:r < n):(procsH n s b)[r]?=some [.sc (.int .i64 ((aH s r).d:Int)),.hsl (b r).1 (b r).2 0 (aH s r).q.length,.mref 5 r]:=by simp[procsH,h]
theorem qN (n:Nat) (s:St):(memH n s).length=n:=cJ _ _
theorem oF (n:Nat):(heldH n).length=n:=cJ _ _
theorem GN {n r:Nat} {s:St} (h:r < n):(memH n s)[r]?=some [.hsl 6 r 0 (aT s r).length]:=eP h
theorem B9 {n r:Nat} (h:r < n):(heldH n)[r]?=some [.mref 7 r]:=eP h
theorem aS {H G:Heap} {g i:Nat} {x:Blk} (h:hget H g i=some x):hget (H++G) g i=some x:=by
 rw[cM (d7 (by rw[h]; rfl))]
 exact h
theorem To.world {n:Nat} {p:Pg} {ls:List Ln} {s:St} {H:Heap} {ρ:Nat→Nat→Option (Nat×Nat)} (h0:hget H 0 0=some (.cells 5 [boxW p ls s.seed])) (h1:hget H 1 0=some (.cells 3 (procsH ls.length s b4))) (h2:hget H 2 0=some (.cells 1 (memH ls.length s)))
  (h3:hget H 3 0=some (.cells 1 (heldH ls.length))) (h4:∀ r,r < ls.length→hget H 4 r=some (.cells 1 (bB (aH s r).q))) (h5:∀ r,r < ls.length→hget H 5 r=some (.map (retE (aH s r).g)))
  (h6:∀ r,r < ls.length→hget H 6 r=some (.cells 1 (aU (aT s r)))) (h7:∀ r,r < ls.length→hget H 7 r=some (.map (retE (bO s r)))):To (ToT H n (eO [])) ρ (.ptr 0 0 0 0) (cP p ls s):=by
 refine To.fzp h0 rfl rfl ?_
 unfold boxW
 refine To.cptrL (ToL.cons (.pure (pv _)) (ToL.cons (.sc _) (ToL.cons ?_ (ToL.cons ?_ (ToL.cons ?_ ToL.nil)))))
 ·refine To.fzT h1 rfl (fM _ _ _) (To.listR ?_)
  unfold procsH mB
  refine ToR.map fun r hr=>?_
  have hr:=List.mem_range.1 hr
  exact ToL.cons (.sc _) (ToL.cons (To.fz (h4 r hr) rfl (bY _) rfl (prs _)) (ToL.cons (To.fzm (h5 r hr) rfl (.pure (pv (.tmap (retE (aH s r).g))))) ToL.nil))
 ·refine To.fzT h2 rfl (qN _ _) (To.row1 fun r hr=>?_)
  exact To.fz (h6 r hr) rfl (cC _) rfl (prs _)
 ·refine To.fzT h3 rfl (oF _) (To.row1 fun r hr=>?_)
  exact To.fzm (h7 r hr) rfl (.pure (pv (.tmap (retE (bO s r)))))
theorem To.worldH {n:Nat} {p:Pg} {ls:List Ln} {s:St} {G:Heap} {ρ:Nat→Nat→Option (Nat×Nat)}:To (ToT (worldH p ls s++G) n (eO [])) ρ (.ptr 0 0 0 0) (cP p ls s):=
 To.world (aS rfl) (aS rfl) (aS rfl) (aS rfl) (fun _ hr=>aS (aK hr)) (fun _ hr=>aS (aK hr)) (fun _ hr=>aS (aK hr)) (fun _ hr=>aS (aK hr))
theorem zQ {α:Type} (t:α→Bool):∀ l:List α,decide (0≤jV t l)=l.any t
 | []=>rfl
 | y::l=>by
  have ih:=zQ t l
  have h:=(xS t l).1
  rw[List.any_cons,← ih]
  show decide (0≤if t y=true then 0 else if jV t l < 0 then -1 else jV t l+1)=_
  by_cases h1:t y=true
  ·rw[if_pos h1,h1]; rfl
  ·rw[if_neg h1,show t y=false by simpa using h1]
   by_cases h2:jV t l < 0
   ·rw[if_pos h2]; simp; omega
   ·rw[if_neg h2]; simp; omega
def OM (f:AV) (t:Nat→Bool) (l:List Nat):Prop:=∀ x∈l,nM f [.sc (.int .i64 (x:Int))] (.sc (.bool (t x)))
def QL (f:AV) (t:Pl→Bool) (l:List Pl):Prop:=∀ x∈l,nM f [.agg (plR x)] (.sc (.bool (t x)))
set_option maxHeartbeats 4000000 in
theorem SB (l:List Nat) {f:AV} [PV f] (t:Nat→Bool) (hf:OM f t l) (hl:l.length≤1000000):aD Tryz.prog 147 [.list 1 (bB l),f] (.sc (.int .i64 (jV t l))):=by
 refine aD.mkI cF147 (nlB rfl) ?_
 have e0:=bY l
 refine aA ?_
 refine AWP.loop (fun k:Nat=>[(0,.list 1 (bB l)),(1,f),(6,.list 1 (bB l)),(7,.sc (.int .i64 (l.length:Int))),(8,.sc (.int .i64 (k:Int)))])
  (fun k=>[]) (fun k=>k≤l.length∧∀(j:Nat) (hj:j < l.length),j < k→t l[j]=false) (fun k=>l.length - k) 0 ⟨Nat.zero_le _,fun j hj h=>by omega⟩ ?_ ?_
 ·exact Sub.w [] []
 rintro k ⟨hk,hb⟩
 refine aA ?_
 refine AWP.condD rfl (fun h=>?_) (fun h=>?_)
 ·have hr:=mK l k h
  obtain⟨g,cs,hfe,hp⟩:nM f [.sc (.int .i64 ((l[k]:Nat):Int))] (.sc (.bool (t l[k]))):=hf l[k] (List.getElem_mem h)
  have h1:=qY t l k h
  have h2:t l[k]=false→∀(j:Nat) (hj:j < l.length),j < k+1→t l[j]=false:=fun e j hj hjk=>by
   by_cases e:j=k
   ·subst e; assumption
   ·exact hb j hj (by omega)
  generalize l[k]=x at *
  generalize ht:t x=b at *
  subst hfe
  refine aA ?_
  cases b with
  | true=>
   rw[h1 rfl hb]
   refine aA ?_
   exact aN.w
  | false=>
   refine aA ?_
   refine⟨k+1,⟨by omega,h2 rfl⟩,by omega,?_⟩
   exact Sub.w [] []
 rw[pY t l fun j hj=>hb j hj (by omega)]
 refine aA ?_
 exact aN.w
set_option maxHeartbeats 4000000 in
theorem RN (l:List Pl) {f:AV} [PV f] (t:Pl→Bool) (hf:QL f t l) (hl:l.length≤1000000):aD Tryz.prog 137 [.list 2 (lL l),f] (.sc (.int .i64 (jV t l))):=by
 refine aD.mkI cF137 (nlB rfl) ?_
 have e0:=gH l
 refine aA ?_
 refine AWP.loop (fun k:Nat=>[(0,.list 2 (lL l)),(1,f),(6,.list 2 (lL l)),(7,.sc (.int .i64 (l.length:Int))),(8,.sc (.int .i64 (k:Int)))])
  (fun k=>[]) (fun k=>k≤l.length∧∀(j:Nat) (hj:j < l.length),j < k→t l[j]=false) (fun k=>l.length - k) 0 ⟨Nat.zero_le _,fun j hj h=>by omega⟩ ?_ ?_
 ·exact Sub.w [] []
 rintro k ⟨hk,hb⟩
 refine aA ?_
 refine AWP.condD rfl (fun h=>?_) (fun h=>?_)
 ·have hr:=D7 l k h
  obtain⟨g,cs,hfe,hp⟩:nM f [.agg (plR l[k])] (.sc (.bool (t l[k]))):=hf l[k] (List.getElem_mem h)
  have h1:=qY t l k h
  have h2:t l[k]=false→∀(j:Nat) (hj:j < l.length),j < k+1→t l[j]=false:=fun e j hj hjk=>by
   by_cases e:j=k
   ·subst e; assumption
   ·exact hb j hj (by omega)
  generalize l[k]=x at *
  generalize ht:t x=b at *
  unfold plR at hr hp
  subst hfe
  refine aA ?_
  cases b with
  | true=>
   rw[h1 rfl hb]
   refine aA ?_
   exact aN.w
  | false=>
   refine aA ?_
   refine⟨k+1,⟨by omega,h2 rfl⟩,by omega,?_⟩
   exact Sub.w [] []
 rw[pY t l fun j hj=>hb j hj (by omega)]
 refine aA ?_
 exact aN.w
theorem TG (l:List Nat) (g:Nat) (cs:List AV) [PR cs] (t:Nat→Bool) (hf:OM (.clo (.func g) [] cs) t l) (hl:l.length≤1000000):aD Tryz.prog 138 [.list 1 (bB l),.clo (.func g) [] cs] (.sc (.bool (l.any t))):=by
 refine aD.mkI cF138 (nlB rfl) ?_
 have h:=SB l t hf hl
 rw[← zQ]
 generalize jV t l=k at *
 refine aA ?_
 exact aN.w
theorem KL (l:List Pl) (g:Nat) (cs:List AV) [PR cs] (t:Pl→Bool) (hf:QL (.clo (.func g) [] cs) t l) (hl:l.length≤1000000):aD Tryz.prog 114 [.list 2 (lL l),.clo (.func g) [] cs] (.sc (.bool (l.any t))):=by
 refine aD.mkI cF114 (nlB rfl) ?_
 have h:=RN l t hf hl
 rw[← zQ]
 generalize jV t l=k at *
 refine aA ?_
 exact aN.w
def acN (ls:List Ln) (a:Pl):Ac:=(iP ls a).getD ⟨0,0,0⟩
theorem rX (ls:List Ln) (a:Pl):gY ls a=(acN ls a).d:=by
 unfold gY acN iP
 cases ls[a.1]? with
 | none=>rfl
 | some L=>simp only; cases bZ a.2 L.acc<;>rfl
theorem t6 {ls:List Ln} {r i:Nat} {L:Ln} (hL:ls[r]?=some L) {g k:Nat} {fr:Fr} {H:Heap} {x ix:Operand} (h1:ev fr x=.tmap (xO L.acc)) (h2:ev fr ix=.sc (.int .i64 (i:Int))):
  aG g k (.lookup (.agg [.sc (.int .i64 0),.sc (.int .i64 0),.sc (.int .i64 0)]) .i64 x ix false) fr H=some (.agg (acR (acN ls (r,i))),H):=by
 have hlk:=lN i L.acc
 unfold acN iP
 simp only[hL]
 cases hL2:bZ i L.acc with
 | none=>
  rw[hL2] at hlk
  exact bW h1 h2 hlk
 | some c=>
  rw[hL2] at hlk
  exact bW h1 h2 hlk
set_option maxHeartbeats 4000000 in
theorem SA (p:Pg) (ls:List Ln) (s:St) {r:Nat} (j i:Nat) (hr:r < ls.length):aD Tryz.prog 139 [.sc (.int .i64 (i:Int)),.cptr [cP p ls s],.cptr (plR (r,j))] (.sc (.bool (decide (gY ls (r,i)=j)))):=by
 refine aD.mkI cF139 (nlB rfl) ?_
 have hL:=gEg hr
 have hr1:=dS hL
 unfold lnR epR at hr1
 rw[rX]
 have hlk:=fun g k fr H x ix h1 h2=>t6 (g:=g) (k:=k) (fr:=fr) (H:=H) (x:=x) (ix:=ix) (i:=i) hL h1 h2
 generalize acN ls (r,i)=c at *
 generalize ls[r]=L at *
 unfold cP ckV plR acR at *
 dsimp only at *
 refine aA ?_
 refine DK.o rfl (hlk _ _ _ _ _ _ rfl rfl) ?_
 refine aA ?_
 refine DK.nil ⟨by kernel_rfl,?_⟩
 refine aA ?_
 exact aN.w
def jS (ls:List Ln) (s:St) (x:Pl):Bool:=!((aH s x.1).q.any fun i=>decide (gY ls (x.1,i)=x.2))
set_option maxHeartbeats 4000000 in
theorem G3 (p:Pg) (ls:List Ln) (s:St) {r j:Nat} (hr:r < ls.length) (hq:(aH s r).q.length≤1000000):aD Tryz.prog 117 [cP p ls s,.agg (plR (r,j))] (.sc (.bool (jS ls s (r,j)))):=by
 refine aD.mkI cF117 (nlB rfl) ?_
 have hpr:=nV (s:=s) hr
 have hany:=TG (aH s r).q 139 [.cptr [cP p ls s],.cptr (plR (r,j))] (fun i=>decide (gY ls (r,i)=j)) (fun i _=>⟨139,_,rfl,SA p ls s j i hr⟩) hq
 have hw:PV (cP p ls s):=inferInstance
 unfold jS
 dsimp only
 generalize (aH s r).q.any (fun i=>decide (gY ls (r,i)=j))=b at *
 unfold prV at hpr
 unfold plR at *
 refine AWP.seq ?_
 refine AWP.region ?_
 refine cF ?_
 refine AWP.sub (fr':=[(2,.cptr [cP p ls s]),(3,.cptr [.sc (.int .i64 (r:Int)),.sc (.int .i64 (j:Int))]),(4,.sc (.bool false))]) (H':=[]) ?_ ?_
 ·exact Sub.w [] []
 unfold cP at *
 refine aA ?_
 refine DK.nil ⟨by kernel_rfl,?_⟩
 refine aA ?_
 exact aN.w
theorem lF.fB {p:Pg} {r:Nat} {l:List Act} {i:Nat} {x:Act} (h:lF p r l i x):iL p.acts.length p.cells r (d5 x.k) (fD x.k) (mN x.k) (k8 x.k) x=0:=h.f
theorem lF.rank {p:Pg} {r:Nat} {l:List Act} {i:Nat} {x:Act} (h:lF p r l i x) (hk:d5 x.k=true):0≤x.r∧x.r < p.acts.length:=by
 have hf:=h.fB
 unfold iL at hf
 split at hf
 ·cases hf
 ·rename_i h1
  rw[hk] at h1
  simp at h1
  omega
theorem lF.cell {p:Pg} {r:Nat} {l:List Act} {i:Nat} {x:Act} (h:lF p r l i x) (hk:fD x.k=true):0≤x.a∧x.a < p.cells:=by
 have hf:=h.fB
 unfold iL at hf
 split at hf
 ·cases hf
 split at hf
 ·cases hf
 ·rename_i h1
  rw[hk] at h1
  simp at h1
  omega
theorem lF.op {p:Pg} {r:Nat} {l:List Act} {i:Nat} {x:Act} (h:lF p r l i x) (hk:mN x.k=true):kU x.o 1=0:=by
 have hf:=h.fB
 unfold iL at hf
 split at hf
 ·cases hf
 split at hf
 ·cases hf
 exact hf
structure bF (p:Pg) (ls:List Ln) (s:St):Prop where
 sd:s.seed < 18446744073709551616
 pl:s.ps.length=ls.length
 ml:s.mem.length=ls.length
 hl:s.held.length=ls.length
 d:∀ r,r < ls.length→(aH s r).d≤aW p r
 q:∀ r,r < ls.length→(aH s r).q.length≤(aH s r).d
 qi:∀ r,r < ls.length→∀ i∈(aH s r).q,i < (aH s r).d∧cI (bA p (r,i)).k=true
 m:∀ r,r < ls.length→(aT s r).length=p.cells.toNat
def dAt (s:St) (b:Nat):Nat:=(aH s b).d
def pS (ls:List Ln) (s:St) (y:Pl):Bool:=decide (dAt s y.1 < y.2) || (decide (dAt s y.1=y.2) && !jS ls s y)
def qQ (k:Int) (e:Nat×Int):Bool:=decide (e.2=13) || decide (k=13)
def FN (s:St) (x:Act):Bool:=!((bO s x.r.toNat).any (qQ x.k))
def A1 (ls:List Ln) (s:St) (r:Nat) (x:Act) (f:List Pl):Bool:=
 if x.k=13∨x.k=14 then FN s x
 else if x.k=10∨x.k=12 then !(f.any fun y=>decide (dAt s y.1≤y.2))
 else if x.k=8∨x.k=11∨x.k=15∨x.k=16 then jS ls s (r,dAt s r) && !(f.any fun y=>pS ls s y)
 else true
def kI (p:Pg) (ls:List Ln) (s:St) (r:Nat):Bool:=
 if dAt s r=aW p r then false
 else if (dI p ls r (dAt s r)).1.length < (dI p ls r (dAt s r)).2 then false
 else A1 ls s r (bA p (r,dAt s r)) (dI p ls r (dAt s r)).1
theorem gK {p:Pg} {r i:Nat} {l:List Act} {x:Act} (h1:p.acts[r]?=some l) (h2:l[i]?=some x):bA p (r,i)=x:=by unfold bA; simp only[h1,Option.getD_some,h2]
theorem HU {p:Pg} {b i:Nat} (h:i < aW p b):b < p.acts.length:=by
 unfold aW at h
 by_cases hb:b < p.acts.length
 ·exact hb
 ·rw[List.getElem?_eq_none (by omega)] at h
  simp at h
theorem EE {p:Pg} {ls:List Ln} (hF:FOK p ls) (hl:ls.length=p.acts.length) {r i:Nat} (hi:i < aW p r):∀ y∈(dI p ls r i).1,y.1 < ls.length∧y.2 < aW p y.1:=fun y hy=>by
 have:=hF.m r (i+1) y (by unfold dQ; rw[if_pos (by omega)]; exact hy)
 have h2:=HU this.2
 exact⟨by omega,this.2⟩
theorem Q8 {p:Pg} {ls:List Ln} (hF:FOK p ls) {r i:Nat} (hi:i < aW p r):(dI p ls r i).1.length≤1000000:=by
 have:=hF.l r (i+1)
 unfold dQ at this
 rw[if_pos (by omega)] at this
 exact this
set_option maxHeartbeats 4000000 in
theorem MF (p:Pg) (ls:List Ln) (s:St) {b j:Nat} (hb:b < ls.length):aD Tryz.prog 115 [.agg (plR (b,j)),.cptr [cP p ls s]] (.sc (.bool (decide (dAt s b≤j)))):=by
 refine aD.mkI cF115 (nlB rfl) ?_
 have hpr:=nV (s:=s) hb
 unfold cP plR prV at *
 unfold dAt
 generalize aH s b=x at *
 refine aA ?_
 refine DK.nil ⟨by kernel_rfl,?_⟩
 refine aA ?_
 exact aN.w
set_option maxHeartbeats 4000000 in
theorem ST (p:Pg) (ls:List Ln) (s:St) {b j:Nat} (hb:b < ls.length) (hq:(aH s b).q.length≤1000000):aD Tryz.prog 116 [.agg (plR (b,j)),.cptr [cP p ls s]] (.sc (.bool (pS ls s (b,j)))):=by
 refine aD.mkI cF116 (nlB rfl) ?_
 have hpr:=nV (s:=s) hb
 have hc:=G3 p ls s (j:=j) hb hq
 unfold pS dAt
 generalize jS ls s (b,j)=c at *
 unfold cP plR prV at *
 dsimp only at *
 generalize aH s b=x at *
 refine aA ?_
 refine DK.nil ⟨by kernel_rfl,?_⟩
 refine aA ?_
 by_cases h1:x.d < j
 ·rw[dTr h1]
  refine aA ?_
  exact aN.w
 ·rw[dFa h1]
  refine aA ?_
  by_cases h2:x.d=j
  ·rw[dTr h2]
   refine aA ?_
   exact aN.w
  ·rw[dFa h2]
   refine aA ?_
   exact aN.w
theorem allT {α:Type} {t:α→Bool} {l1 l2:List α} {y:α}:(l1++y::l2).any t=(t y || (l1++l2).any t):=by
 simp only[List.any_append,List.any_cons]
 cases l1.any t<;>cases t y<;>rfl
theorem AO {l:List (Nat×Int)} {l1 l2:List (Value×AV)} {y:Value×AV} (h:retE l=l1++y::l2):∃ m1 x m2,l=m1++x::m2∧l1=retE m1∧y=(.int .i64 (x.1:Int),.sc (.int .i64 x.2))∧l2=retE m2:=by
 obtain⟨m1,m2,rfl,e1,e2⟩:=List.map_eq_append_iff.1 h
 obtain⟨x,m3,rfl,e3,e4⟩:=List.map_eq_cons_iff.1 e2
 exact⟨m1,x,m3,rfl,e1.symm,e3.symm,e4.symm⟩
theorem GJ (l m:List (Nat×Int)):retE (l++m)=retE l++retE m:=by simp[retE]
theorem FJ {x:Nat×Int}:∀ y:Value×AV,some (Value.int .i64 (x.1:Int),AV.sc (.int .i64 x.2))=some y→bS y.2:=fun y hy=>by injection hy with hy; subst hy; exact .sc _
theorem LO (k:Int) (z:Nat):qQ k (z,13)=true:=by simp[qQ]
theorem R3 (z:Nat×Int):qQ 13 z=true:=by simp[qQ]
theorem S8 {z:Nat} {v:Int} (h:¬ v=13):qQ 14 (z,v)=false:=by simp[qQ,h]
def AY (p:Pg) (ls:List Ln) (s:St) (r d:Nat) (x:Act) (f:List Pl):Fr:=[(1,.sc (.int .i64 (r:Int))),(2,.cptr [cP p ls s]),(5,.cptr (plR (r,d))),(6,.cptr (bQ x)),(7,.list 2 (lL f))]
def MB:dN:=cY [1,1,1,1,1,1] F66.code
set_option maxHeartbeats 8000000 in
theorem IR {p:Pg} {ls:List Ln} {s:St} {r d:Nat} (x:Act) (f:List Pl) (hk:x.k=13∨x.k=14) {b:Nat} (hb:x.r=(b:Int)) (hbl:b < ls.length):AWP Tryz.prog F66.n 0 MB (aN F66.res (.sc (.bool (FN s x)))) (AY p ls s r d x f) []:=by
 show AWP _ _ _ (.seq _ _) _ _ _
 have hhe:=O1 (s:=s) hbl
 unfold FN
 rw[hb,show((b:Int)).toNat=b from rfl]
 generalize hH:bO s b=he at *
 obtain⟨k,xr,a,o,v,w,g⟩:=x
 dsimp only at hk hb
 subst hb
 unfold AY bQ cP plR
 dsimp only
 have hno:∀ x:Value×AV,(none:Option (Value×AV))=some x→bS x.2:=fun _ h=>by cases h
 rcases hk with rfl | rfl
 ·(refine aA ?_; refine DK.nil ⟨by kernel_rfl,?_⟩; refine aA ?_; (refine AWP.loop2 (fun(cur:Option (Value×AV)) (left:List (Nat×Int))=>[(1,.sc (.int .i64 (r:Int))),(2,.cptr [cP p ls s]),(6,.cptr [.sc (.int .i64 13),.sc (.int .i64 (b:Int)),.sc (.int .i64 a),.sc (.int .i64 o),.sc (.int .i64 v),.sc (.int .i64 w),.list 1 (aU g)]),(69,.ptr 0 0 0 0)]) (fun cur left=>[[.it cur (retE left)]]) (fun cur left=>(∀ x,cur=some x→bS x.2)∧he.any (qQ 13)=left.any (qQ 13)) (fun cur left=>left.length) none he ⟨hno,rfl⟩ ?_ ?_; (focus (unfold cP; (apply Sub.to [] [[(0,8)]]; all_goals (repeat' (first | exact aY.nil | exact aQ.nil | exact bD.nil | exact ToL.nil | exact ToR.nil | refine aY.cons ?_ ?_ | refine aQ.cons ?_ ?_ | refine gO ?_ ?_ | exact To.undef _ | exact To.sc _ | exact To.hslL rfl rfl | exact To.asl _ _ _ _ _ _ rfl | exact To.ptrO rfl rfl rfl | exact To.mrefO rfl | exact To.nil rfl rfl rfl | exact wt1 | exact To.nilL | refine To.int ?_ | refine To.bool ?_ | refine To.hslL rfl ?_ | refine wt2 rfl ?_ ?_ ?_ | refine To.tupL ?_ | refine To.aggL ?_ | refine To.cptrL ?_ | refine To.fzp rfl rfl rfl ?_ | refine To.fzm rfl rfl ?_ | refine To.cloL ?_ ?_ | refine wt3 ?_ | refine wt4 ?_ | exact wt5 | refine wt6 ?_ | refine ToB.one ?_ | exact wt7 | ((with_reducible apply ToL.consE); case e9=>rfl) | refine wt8 ?_ | refine ToL.cons ?_ ?_ | exact wt11 | refine wt9 ?_ ?_ | refine gI ?_ | (with_reducible rfl) | assumption)); all_goals (first | rfl | assumption | (simp; done) | (simp; omega) | (rw[wrap_small (by omega) (by omega)]; done) | (rw[wrap_small (by omega) (by omega)]; omega) | (refine congrArg Nat.cast ?_; assumption) | skip)); all_goals (first | exact ToB.dead _ | exact ToB.it _ _ ((inferInstance:PM (retE he)).out) (hno)))); (rintro cur left ⟨hc1,hc2⟩; refine AWP.seq ?_; refine AWP.region ?_; refine Reg.next rfl rfl rfl (fun h=>?_) (fun l1 y l2 h=>?_); (focus (have hl:left=[]:=List.map_eq_nil_iff.1 h; subst hl; rw[hc2]; refine aA ?_; exact aN.w)); (obtain⟨m1,z,m2,rfl,rfl,rfl,rfl⟩:=AO h; rw[← GJ]; rw[allT] at hc2; obtain⟨z1,z2⟩:=z; dsimp only at hc2 ⊢; by_cases hz:z2=13; (focus (subst hz; rw[LO,Bool.true_or] at hc2; rw[hc2]; refine cF ?_; refine aA ?_; exact aN.w))))))
  rw[R3,Bool.true_or] at hc2
  rw[hc2]
  refine cF ?_
  refine aA ?_
  rw[show(z2 == 13)=false by simpa using hz]
  refine aA ?_
  exact aN.w
 ·(refine aA ?_; refine DK.nil ⟨by kernel_rfl,?_⟩; refine aA ?_; (refine AWP.loop2 (fun(cur:Option (Value×AV)) (left:List (Nat×Int))=>[(1,.sc (.int .i64 (r:Int))),(2,.cptr [cP p ls s]),(6,.cptr [.sc (.int .i64 14),.sc (.int .i64 (b:Int)),.sc (.int .i64 a),.sc (.int .i64 o),.sc (.int .i64 v),.sc (.int .i64 w),.list 1 (aU g)]),(69,.ptr 0 0 0 0)]) (fun cur left=>[[.it cur (retE left)]]) (fun cur left=>(∀ x,cur=some x→bS x.2)∧he.any (qQ 14)=left.any (qQ 14)) (fun cur left=>left.length) none he ⟨hno,rfl⟩ ?_ ?_; (focus (unfold cP; (apply Sub.to [] [[(0,8)]]; all_goals (repeat' (first | exact aY.nil | exact aQ.nil | exact bD.nil | exact ToL.nil | exact ToR.nil | refine aY.cons ?_ ?_ | refine aQ.cons ?_ ?_ | refine gO ?_ ?_ | exact To.undef _ | exact To.sc _ | exact To.hslL rfl rfl | exact To.asl _ _ _ _ _ _ rfl | exact To.ptrO rfl rfl rfl | exact To.mrefO rfl | exact To.nil rfl rfl rfl | exact wt1 | exact To.nilL | refine To.int ?_ | refine To.bool ?_ | refine To.hslL rfl ?_ | refine wt2 rfl ?_ ?_ ?_ | refine To.tupL ?_ | refine To.aggL ?_ | refine To.cptrL ?_ | refine To.fzp rfl rfl rfl ?_ | refine To.fzm rfl rfl ?_ | refine To.cloL ?_ ?_ | refine wt3 ?_ | refine wt4 ?_ | exact wt5 | refine wt6 ?_ | refine ToB.one ?_ | exact wt7 | ((with_reducible apply ToL.consE); case e9=>rfl) | refine wt8 ?_ | refine ToL.cons ?_ ?_ | exact wt11 | refine wt9 ?_ ?_ | refine gI ?_ | (with_reducible rfl) | assumption)); all_goals (first | rfl | assumption | (simp; done) | (simp; omega) | (rw[wrap_small (by omega) (by omega)]; done) | (rw[wrap_small (by omega) (by omega)]; omega) | (refine congrArg Nat.cast ?_; assumption) | skip)); all_goals (first | exact ToB.dead _ | exact ToB.it _ _ ((inferInstance:PM (retE he)).out) (hno)))); (rintro cur left ⟨hc1,hc2⟩; refine AWP.seq ?_; refine AWP.region ?_; refine Reg.next rfl rfl rfl (fun h=>?_) (fun l1 y l2 h=>?_); (focus (have hl:left=[]:=List.map_eq_nil_iff.1 h; subst hl; rw[hc2]; refine aA ?_; exact aN.w)); (obtain⟨m1,z,m2,rfl,rfl,rfl,rfl⟩:=AO h; rw[← GJ]; rw[allT] at hc2; obtain⟨z1,z2⟩:=z; dsimp only at hc2 ⊢; by_cases hz:z2=13; (focus (subst hz; rw[LO,Bool.true_or] at hc2; rw[hc2]; refine cF ?_; refine aA ?_; exact aN.w))))))
  rw[S8 hz,Bool.false_or] at hc2
  refine cF ?_
  refine aA ?_
  rw[show(z2 == 13)=false by simpa using hz]
  refine aA ?_
  refine⟨some (.int .i64 (z1:Int),.sc (.int .i64 z2)),m1++m2,⟨FJ (x:=(z1,z2)),hc2⟩,by simp,?_⟩
  (apply Sub.to [] [[(0,0)]]; all_goals (repeat' (first | exact aY.nil | exact aQ.nil | exact bD.nil | exact ToL.nil | exact ToR.nil | refine aY.cons ?_ ?_ | refine aQ.cons ?_ ?_ | refine gO ?_ ?_ | exact To.undef _ | exact To.sc _ | exact To.hslL rfl rfl | exact To.asl _ _ _ _ _ _ rfl | exact To.ptrO rfl rfl rfl | exact To.mrefO rfl | exact To.nil rfl rfl rfl | exact wt1 | exact To.nilL | refine To.int ?_ | refine To.bool ?_ | refine To.hslL rfl ?_ | refine wt2 rfl ?_ ?_ ?_ | refine To.tupL ?_ | refine To.aggL ?_ | refine To.cptrL ?_ | refine To.fzp rfl rfl rfl ?_ | refine To.fzm rfl rfl ?_ | refine To.cloL ?_ ?_ | refine wt3 ?_ | refine wt4 ?_ | exact wt5 | refine wt6 ?_ | refine ToB.one ?_ | exact wt7 | ((with_reducible apply ToL.consE); case e9=>rfl) | refine wt8 ?_ | refine ToL.cons ?_ ?_ | exact wt11 | refine wt9 ?_ ?_ | refine gI ?_ | (with_reducible rfl) | assumption)); all_goals (first | rfl | assumption | (simp; done) | (simp; omega) | (rw[wrap_small (by omega) (by omega)]; done) | (rw[wrap_small (by omega) (by omega)]; omega) | (refine congrArg Nat.cast ?_; assumption) | skip))
  all_goals (first | exact ToB.dead _ | exact ToB.it _ _ ((inferInstance:PM (retE (m1++m2))).out) (FJ (x:=(z1,z2))))
set_option maxHeartbeats 8000000 in
theorem HW {p:Pg} {ls:List Ln} {s:St} {r d:Nat} (x:Act) (f:List Pl) (hk:x.k=10∨x.k=12) (hf:∀ y∈f,y.1 < ls.length) (hl:f.length≤1000000):AWP Tryz.prog F66.n 0 MB (aN F66.res (.sc (.bool (!(f.any fun y=>decide (dAt s y.1≤y.2)))))) (AY p ls s r d x f) []:=by
 show AWP _ _ _ (.seq _ _) _ _ _
 have hny:=KL f 115 [.cptr [cP p ls s]] (fun y=>decide (dAt s y.1≤y.2)) (fun y hy=>⟨115,_,rfl,MF p ls s (hf y hy)⟩) hl
 generalize f.any (fun y=>decide (dAt s y.1≤y.2))=b at *
 obtain⟨k,xr,a,o,v,w,g⟩:=x
 dsimp only at hk
 unfold AY bQ plR
 dsimp only
 have hw:PV (cP p ls s):=inferInstance
 unfold cP at *
 rcases hk with rfl | rfl
 ·refine aA ?_
  exact aN.w
 ·refine aA ?_
  exact aN.w
set_option maxHeartbeats 8000000 in
theorem EZ {p:Pg} {ls:List Ln} {s:St} {r d:Nat} (x:Act) (f:List Pl) (hk:x.k=8∨x.k=11∨x.k=15∨x.k=16) (hr:r < ls.length) (hq:∀ b,b < ls.length→(aH s b).q.length≤1000000) (hf:∀ y∈f,y.1 < ls.length) (hl:f.length≤1000000):
  AWP Tryz.prog F66.n 0 MB (aN F66.res (.sc (.bool (jS ls s (r,d) && !(f.any fun y=>pS ls s y))))) (AY p ls s r d x f) []:=by
 show AWP _ _ _ (.seq _ _) _ _ _
 have hny:=KL f 116 [.cptr [cP p ls s]] (fun y=>pS ls s y) (fun y hy=>⟨116,_,rfl,ST p ls s (hf y hy) (hq _ (hf y hy))⟩) hl
 have hcl:=G3 p ls s (j:=d) hr (hq r hr)
 generalize f.any (fun y=>pS ls s y)=b at *
 generalize jS ls s (r,d)=c at *
 obtain⟨k,xr,a,o,v,w,g⟩:=x
 dsimp only at hk
 unfold AY bQ
 unfold plR at *
 dsimp only at *
 have hw:PV (cP p ls s):=inferInstance
 unfold cP at *
 rcases hk with rfl | rfl | rfl | rfl<;>cases c
 ·refine aA ?_
  exact aN.w
 ·refine aA ?_
  exact aN.w
 ·refine aA ?_
  exact aN.w
 ·refine aA ?_
  exact aN.w
 ·refine aA ?_
  exact aN.w
 ·refine aA ?_
  exact aN.w
 ·refine aA ?_
  exact aN.w
 ·refine aA ?_
  exact aN.w
set_option maxHeartbeats 8000000 in
theorem HR {p:Pg} {ls:List Ln} {s:St} {r d:Nat} (x:Act) (f:List Pl) (hk:¬ (x.k=13∨x.k=14)∧¬ (x.k=10∨x.k=12)∧¬ (x.k=8∨x.k=11∨x.k=15∨x.k=16)):AWP Tryz.prog F66.n 0 MB (aN F66.res (.sc (.bool true))) (AY p ls s r d x f) []:=by
 show AWP _ _ _ (.seq _ _) _ _ _
 obtain⟨k,xr,a,o,v,w,g⟩:=x
 dsimp only at hk
 unfold AY bQ plR
 dsimp only
 have q:∀ n:Int,k≠n→(k == n)=false:=fun n h=>by simpa using h
 refine aA ?_
 rw[q 13 (by omega)]
 refine aA ?_
 rw[q 14 (by omega)]
 refine aA ?_
 rw[q 10 (by omega)]
 refine aA ?_
 rw[q 12 (by omega)]
 refine aA ?_
 rw[q 8 (by omega)]
 refine aA ?_
 rw[q 11 (by omega)]
 refine aA ?_
 rw[q 15 (by omega)]
 refine aA ?_
 rw[q 16 (by omega)]
 refine aA ?_
 exact aN.w
set_option maxHeartbeats 8000000 in
theorem UN {p:Pg} {ls:List Ln} {s:St} (hC:bL p ls) (hp:POK p) (hS:bF p ls s) {r:Nat} (hr:r < ls.length):aD Tryz.prog 66 [cP p ls s,.sc (.int .i64 (r:Int))] (.sc (.bool (kI p ls s r))):=by
 have hn:=hC.len
 have hra:=gEg (show r < p.acts.length by omega)
 have hlen:=c8 hra
 obtain⟨L,hL,hO⟩:=hC.get hra
 have hqs:∀ b,b < ls.length→(aH s b).q.length≤1000000:=fun b hb=>by
  have h1:=hS.d b hb
  have h2:=hS.q b hb
  have h3:=gEg (show b < p.acts.length by omega)
  obtain⟨L',hL',hO'⟩:=hC.get h3
  have:=hO'.len
  have:=c8 h3
  omega
 have hl100:=hO.len
 have hrow:=iZ hra
 have hpr:=nV (s:=s) hr
 have hdl:=hS.d r hr
 refine aD.mkI cF66 (nlB rfl) ?_
 unfold kI dAt
 unfold prV at hpr
 generalize hd:(aH s r).d=d at *
 by_cases h1:d=aW p r
 ·rw[if_pos h1]
  have e2:=fF p.acts[r]
  rw[hlen] at h1
  generalize p.acts[r]=l at *
  unfold cP ckV
  refine AWP.seq ?_
  refine AWP.region ?_
  refine cF ?_
  refine AWP.seq ?_
  refine AWP.region ?_
  refine cF ?_
  refine aA ?_
  refine DK.nil ⟨by kernel_rfl,?_⟩
  refine aA ?_
  rw[e2]
  refine aA ?_
  rw[dTr h1]
  refine aA ?_
  exact aN.w
 rw[if_neg h1]
 rw[hlen] at h1 hdl
 have hdlt:d < p.acts[r].length:=by omega
 have hx:=gEg hdlt
 have hact:=kX p ls hra hx
 have hpar:=w8 hC hp hra hx
 have hpm:=EE (ls:=ls) (r:=r) (i:=d) hC.fok hn (by omega)
 have hpl:=Q8 (ls:=ls) (r:=r) (i:=d) hC.fok (by omega)
 have hap:=gK hra hx
 have hok:=hO.act _ _ hx
 rw[hap]
 have e2:=fF p.acts[r]
 generalize p.acts[r]=l at *
 generalize l[d]=x at *
 generalize dI p ls r d=fn at *
 obtain⟨f,need⟩:=fn
 dsimp only at *
 have e3:=gH f
 have hsw:need≤f.length→AWP Tryz.prog F66.n 0 MB (aN F66.res (.sc (.bool (A1 ls s r x f)))) (AY p ls s r d x f) []:=fun _=>by
  unfold A1 dAt
  rw[hd]
  by_cases k1:x.k=13∨x.k=14
  ·rw[if_pos k1]
   have hrk:=hok.rank (by unfold d5; simp; omega)
   exact IR x f k1 (b:=x.r.toNat) (by omega) (by omega)
  rw[if_neg k1]
  by_cases k2:x.k=10∨x.k=12
  ·rw[if_pos k2]
   exact HW x f k2 (fun y hy=>(hpm y hy).1) hpl
  rw[if_neg k2]
  by_cases k3:x.k=8∨x.k=11∨x.k=15∨x.k=16
  ·rw[if_pos k3]
   exact EZ x f k3 hr hqs (fun y hy=>(hpm y hy).1) hpl
  rw[if_neg k3]
  exact HR x f ⟨k1,k2,k3⟩
 generalize A1 ls s r x f=res at *
 unfold cP ckV plN at *
 unfold AY MB cP ckV plR at hsw
 unfold bQ at *
 dsimp only at hsw
 refine AWP.seq ?_
 refine AWP.region ?_
 refine cF ?_
 refine AWP.seq ?_
 refine AWP.region ?_
 refine cF ?_
 refine aA ?_
 refine DK.nil ⟨by kernel_rfl,?_⟩
 refine aA ?_
 rw[e2]
 refine aA ?_
 rw[dFa (by omega)]
 refine aA ?_
 refine DK.nil ⟨by kernel_rfl,?_⟩
 refine aA ?_
 refine DK.nil ⟨by kernel_rfl,?_⟩
 refine aA ?_
 rw[e3]
 refine cF ?_
 by_cases h5:f.length < need
 ·rw[if_pos h5,dTr h5]
  refine aA ?_
  exact aN.w
 ·rw[if_neg h5,dFa h5]
  refine cF ?_
  refine AWP.condF rfl ?_
  refine AWP.skip ?_
  refine AWP.sub ?_ (hsw (by omega))
  exact Sub.w [] []
def lI (i:Nat) (v:Int):List (Nat×Int)→List (Nat×Int)
 | []=>[(i,v)]
 | (j,w)::r=>if i=j then(j,v)::r else(j,w)::lI i v r
def lZ (i:Nat):List (Nat×Int)→List (Nat×Int)
 | []=>[]
 | (j,w)::r=>if i=j then r else(j,w)::lZ i r
theorem F1 {i:Nat} {v:Int}:∀ {l:List (Nat×Int)},bZ i l=none→retE (lI i v l)=retE l++[(.int .i64 (i:Int),.sc (.int .i64 v))]
 | [],_=>rfl
 | (j,w)::r,h=>by
  rw[bZ] at h
  split at h
  ·cases h
  ·rename_i h1
   rw[lI,if_neg h1]
   show _::retE _=_
   rw[F1 h]
   rfl
theorem ES {i:Nat} {v w:Int}:∀ {l:List (Nat×Int)},bZ i l=some w→retE (lI i v l)=BC (i:Int) (.sc (.int .i64 v)) (retE l)
 | [],h=>by cases h
 | (j,u)::r,h=>by
  rw[bZ] at h
  rw[lI]
  show _=BC (i:Int) _ ((.int .i64 (j:Int),.sc (.int .i64 u))::retE r)
  rw[BC]
  split at h
  ·rename_i h1
   rw[if_pos h1,dTr (show(i:Int)=(j:Int) by omega)]
   rfl
  ·rename_i h1
   rw[if_neg h1,dFa (show¬ (i:Int)=(j:Int) by omega)]
   show _::retE _=_
   rw[ES h]
theorem CT {i:Nat}:∀ {l:List (Nat×Int)},retE (lZ i l)=pC (i:Int) (retE l)
 | []=>rfl
 | (j,u)::r=>by
  rw[lZ]
  show _=pC (i:Int) ((.int .i64 (j:Int),.sc (.int .i64 u))::retE r)
  rw[pC]
  by_cases h1:i=j
  ·rw[if_pos h1,dTr (show(i:Int)=(j:Int) by omega)]
  ·rw[if_neg h1,dFa (show¬ (i:Int)=(j:Int) by omega)]
   show _::retE _=_
   rw[CT]
theorem qX {g i g' i' r:Nat} {fr:Fr} {H:Heap} {m ix x:Operand} {v:Int} {l:List (Nat×Int)} (hx:ev fr m=.mref g' i') (hi:ev fr ix=.sc (.int .i64 (r:Int))) (hv:ev fr x=.sc (.int .i64 v)) (hh:hget H g' i'=some (.map (retE l))):
  aG g i (.mapUpdate .i64 m ix x) fr H=some (.undef,bG H g' i' (.map (retE (lI r v l)))):=by
 have hm:=vZ r l
 cases h:bZ r l with
 | none=>
  rw[h] at hm
  rw[F1 h]
  exact j5 hx hi hv hh hm
 | some w=>
  rw[h] at hm
  rw[ES h]
  exact IG hx hi hv hh hm
theorem I3 {g i g' i' r:Nat} {fr:Fr} {H:Heap} {m ix:Operand} {l:List (Nat×Int)} (hx:ev fr m=.mref g' i') (hi:ev fr ix=.sc (.int .i64 (r:Int))) (hh:hget H g' i'=some (.map (retE l))):
  aG g i (.mop (.del .i64) [m,ix]) fr H=some (.tup [],bG H g' i' (.map (retE (lZ r l)))):=by
 rw[CT]
 exact I2 hx hi hh (vZ r l)
def toU (v:Int):Nat:=(v % 18446744073709551616).toNat
def toS (n:Nat):Int:=if n % 18446744073709551616 < 9223372036854775808 then((n % 18446744073709551616:Nat):Int) else((n % 18446744073709551616:Nat):Int) - 18446744073709551616
def jU (x:Nat):Nat:=(6364136223846793005 * x+1442695040888963407) % 18446744073709551616
def pZ (x n:Nat):Nat:=x / 8589934592 % n
def eF (x:Act) (v:Int):Int:=
 if x.k=1∨x.k=7 then x.v
 else if x.k=3∨x.k=4 then toS (opI x.o (toU v) (toU x.v))
 else if x.k=5 then if v=x.w then x.v else v
 else v
def setP (s:St) (r:Nat) (x:Pr):St:={ s with ps:=s.ps.set r x }
def setM (s:St) (b:Nat) (m:List Int):St:={ s with mem:=s.mem.set b m }
def setL (s:St) (b:Nat) (h:List (Nat×Int)):St:={ s with held:=s.held.set b h }
def jB (p:Pg) (ls:List Ln) (s:St) (x:Pl):St:=
 let a:=bA p x
 let b:=(acN ls x).r.toNat
 let c:=(acN ls x).a.toNat
 let v:=(aT s b).getD c 0
 let s1:=if fC a.k=true then setP s x.1 { aH s x.1 with g:=lI x.2 v (aH s x.1).g } else s
 setM s1 b ((aT s b).set c (eF a v))
def kN (p:Pg) (ls:List Ln) (s:St) (r:Nat):St:=
 let x:=aH s r
 let a:=bA p (r,x.d)
 if cI a.k=true then setP s r { x with d:=x.d+1,q:=x.q++[x.d] }
 else
  let s1:=setP s r { x with d:=x.d+1 }
  if a.k=6∨a.k=7 then jB p ls s1 (r,x.d)
  else if a.k=13∨a.k=14 then setL s1 a.r.toNat (lI r a.k (bO s a.r.toNat))
  else if a.k=16 then setL s1 a.r.toNat (lZ r (bO s a.r.toNat))
  else s1
def sT (p:Pg) (ls:List Ln) (s:St) (r k i:Nat):St:=
 jB p ls (setP s r { aH s r with q:=(aH s r).q.eraseIdx k }) (r,i)
inductive Cd where
 | act (r:Nat)
 | take (r k i:Nat)
 deriving DecidableEq
def doP (p:Pg) (ls:List Ln) (s:St):Cd→St
 | .act r=>kN p ls s r
 | .take r k i=>sT p ls s r k i
abbrev CS:=List (Int×Int)×List Cd
def gC (p:Pg) (ls:List Ln) (r i:Nat):Bool×(Int×Int):=(fI (bA p (r,i)).k,((acN ls (r,i)).r,(acN ls (r,i)).a))
def gD (p:Pg) (ls:List Ln) (r:Nat) (q:List Nat) (s:CS) (k:Nat):CS:=
 if (gC p ls r (q.getD k 0)).1=true then
  if (gC p ls r (q.getD k 0)).2∈s.1 then s else(s.1++[(gC p ls r (q.getD k 0)).2],s.2++[.take r k (q.getD k 0)])
 else(s.1,s.2++[.take r k (q.getD k 0)])
def PS (p:Pg) (ls:List Ln) (s:St) (out:List Cd) (r:Nat):List Cd:=((List.range (aH s r).q.length).foldl (gD p ls r (aH s r).q) ([],out)).2
def TU (p:Pg) (ls:List Ln) (s:St) (out:List Cd) (r:Nat):List Cd:=if kI p ls s r=true then out++[.act r] else out
def cO (p:Pg) (ls:List Ln) (s:St):List Cd:=(List.range ls.length).foldl (PS p ls s) ((List.range ls.length).foldl (TU p ls s) [])
def stepS (p:Pg) (ls:List Ln) (s:St):Option St:=
 match cO p ls s with
 | []=>none
 | c::l=>some (doP p ls { s with seed:=jU s.seed } ((c::l).getD (pZ (jU s.seed) (l.length+1)) c))
def xK (p:Pg) (ls:List Ln):Nat→St→St
 | 0,s=>s
 | f+1,s=>match stepS p ls s with
  | none=>s
  | some s'=>xK p ls f s'
def wKg (n:Nat) (l4:FK) (es:List (List (Nat×Nat))):List FK:=
 .c [(0,0)]::.c [(1,0)]::.c [(2,0)]::.c [(3,0)]::l4::.w 5 n []::.w 6 n []::.w 7 n []::es.map FK.c
theorem idK_c (es:List (List (Nat×Nat))):idK (es.map FK.c)=es:=by
 unfold idK
 rw[List.map_map]
 exact List.map_id _
section
variable {T:AV→AV→Prop} {ρ:Nat→Nat→Option (Nat×Nat)}
theorem ToB.boxW {p:Pg} {ls:List Ln} {seed:Nat} (r1:ρ 1 0=some (1,0)) (r2:ρ 2 0=some (2,0)) (r3:ρ 3 0=some (3,0)):ToB T ρ (.cells 5 [boxW p ls seed]) (.cells 5 [boxW p ls seed]):=
 ToB.one (ToL.cons (.pure (pv (ckV p ls))) (ToL.cons (.sc _) (ToL.cons (To.hslL r1 rfl) (ToL.cons (To.hslL r2 rfl) (ToL.cons (To.hslL r3 rfl) ToL.nil)))))
theorem ToB.procsH {n:Nat} {s:St} {b b':Nat→Nat×Nat} (r4:∀ r,r < n→ρ (b' r).1 (b' r).2=some (b r)) (r5:∀ r,r < n→ρ 5 r=some (5,r)):ToB T ρ (.cells 3 (procsH n s b)) (.cells 3 (YtkjoolaahocgdaaGreat.procsH n s b')):=by
 refine ToB.rowsR (ToR.map fun r hr=>?_)
 have hr:=List.mem_range.1 hr
 exact ToL.cons (.sc _) (ToL.cons (To.hslL (r4 r hr) rfl) (ToL.cons (To.mrefO (r5 r hr)) ToL.nil))
theorem ToB.memH {n:Nat} {s:St} (r6:∀ r,r < n→ρ 6 r=some (6,r)):ToB T ρ (.cells 1 (memH n s)) (.cells 1 (YtkjoolaahocgdaaGreat.memH n s)):=ToB.row1 fun r hr=>To.hslL (r6 r hr) rfl
theorem ToB.heldH {n:Nat} (r7:∀ r,r < n→ρ 7 r=some (7,r)):ToB T ρ (.cells 1 (heldH n)) (.cells 1 (YtkjoolaahocgdaaGreat.heldH n)):=ToB.row1 fun r hr=>To.mrefO (r7 r hr)
theorem ToB.retE (l:List (Nat×Int)):ToB T ρ (.map (retE l)) (.map (YtkjoolaahocgdaaGreat.retE l)):=by
 refine .map _ _ rfl (fun j x y a b=>by rw[a] at b; injection b with b; rw[b]) fun j x y a b=>?_
 rw[a] at b
 injection b with b
 subst b
 obtain⟨z,_,rfl⟩:=List.mem_map.1 (List.mem_of_getElem? a)
 exact .sc _
theorem CZ {p:Pg} {ls:List Ln} {s:St} {b b':Nat→Nat×Nat} {F4:List Blk} {l4:FK} {es:List (List (Nat×Nat))} {H Y:Heap} (hρ:ρ=rho (idK (wKg ls.length l4 es)))
  (h0:hget H 0 0=some (.cells 5 [boxW p ls s.seed])) (h1:hget H 1 0=some (.cells 3 (procsH ls.length s b))) (h2:hget H 2 0=some (.cells 1 (memH ls.length s))) (h3:hget H 3 0=some (.cells 1 (heldH ls.length)))
  (h4:bD (ToB T ρ) H l4.l F4) (h5:∀ r,r < ls.length→hget H 5 r=some (.map (retE (aH s r).g)))
  (h6:∀ r,r < ls.length→hget H 6 r=some (.cells 1 (aU (aT s r)))) (h7:∀ r,r < ls.length→hget H 7 r=some (.map (retE (bO s r))))
  (r4:∀ r,r < ls.length→ρ (b' r).1 (b' r).2=some (b r)) (hY:aQ (ToB T ρ) H es Y):
  aQ (ToB T ρ) H (idK (wKg ls.length l4 es)) (aV p ls s b' F4++Y):=by
 subst hρ
 have q5:∀ r,r < ls.length→rho (idK (wKg ls.length l4 es)) 5 r=some (5,r):=fun r hr=>dJ rfl hr
 have q6:∀ r,r < ls.length→rho (idK (wKg ls.length l4 es)) 6 r=some (6,r):=fun r hr=>dJ rfl hr
 have q7:∀ r,r < ls.length→rho (idK (wKg ls.length l4 es)) 7 r=some (7,r):=fun r hr=>dJ rfl hr
 have e:idK (es.map FK.c)=es:=idK_c es
 refine⟨⟨⟨_,h0,ToB.boxW rfl rfl rfl⟩,trivial⟩,⟨⟨_,h1,ToB.procsH r4 q5⟩,trivial⟩,⟨⟨_,h2,ToB.memH q6⟩,trivial⟩,⟨⟨_,h3,ToB.heldH q7⟩,trivial⟩,h4,?_,?_,?_,?_⟩
 ·exact bD.ofFam fun i hi=>⟨_,h5 i hi,ToB.retE _⟩
 ·exact bD.ofFam fun i hi=>⟨_,h6 i hi,ToB.rows rfl (prs _)⟩
 ·exact bD.ofFam fun i hi=>⟨_,h7 i hi,ToB.retE _⟩
 ·show aQ _ _ (idK (es.map FK.c)) Y
  rw[e]
  exact hY
end
theorem Q3 {k n:Nat} {ps:List (Nat×Nat)} {es:List (List (Nat×Nat))} {x0 x1 x2 x3:Blk} {b4 b5 b6 b7:List Blk} {X:Heap} (h4:b4.length=n) (h5:b5.length=n) (h6:b6.length=n) (h7:b7.length=n) (hk:k≤8):
  wJ 0 k (wKg n (.w 4 n ps) es) ([x0]::[x1]::[x2]::[x3]::b4::b5::b6::b7::X):=by
 have key:wJ 0 8 (wKg n (.w 4 n ps) es) ([x0]::[x1]::[x2]::[x3]::b4::b5::b6::b7::X):=
  ⟨.c _ rfl rfl,.c _ rfl rfl,.c _ rfl rfl,.c _ rfl rfl,.w _ _ (Nat.le_of_eq h4),.w _ _ (Nat.le_of_eq h5),.w _ _ (Nat.le_of_eq h6),.w _ _ (Nat.le_of_eq h7),trivial⟩
 have mono:∀(a j:Nat) (b:Nat) (ks:List FK) (H:Heap),a≤b→wJ j b ks H→wJ j a ks H:=by
  intro a
  induction a with
  | zero=>intro j b ks H _ _; cases ks<;>cases H<;>exact trivial
  | succ a ih=>
   intro j b ks H hab h
   cases b with
   | zero=>omega
   | succ b=>
    cases ks with
    | nil=>exact h.elim
    | cons f r=>
     cases H with
     | nil=>exact h.elim
     | cons F H=>exact⟨h.1,ih (j+1) b r H (by omega) h.2⟩
 exact mono k 0 8 _ _ hk key
theorem yX {k:Nat} {rs:List pM} {fr:Fr} {e:Exit} {R:AV→Heap→Prop} {res:AV} (res':AV) (p:Pg) (ls:List Ln) (s:St) (b b':Nat→Nat×Nat) (F4:List Blk) (ps:List (Nat×Nat)) (es:List (List (Nat×Nat))) (Y:Heap) {b0 b1 b2 b3 b4 b5 b6 b7:List Blk} {X:Heap}
  (hR:R res' (aV p ls s b' F4++Y))
  (e0:b0=[.cells 5 [boxW p ls s.seed]]) (e1:b1=[.cells 3 (procsH ls.length s b)]) (e2:b2=[.cells 1 (memH ls.length s)]) (e3:b3=[.cells 1 (heldH ls.length)])
  (e5:b5=jE ls.length s) (e6:b6=k9 ls.length s) (e7:b7=gP ls.length s)
  (h4:bD (ToB (ToT ((b0::b1::b2::b3::b4::b5::b6::b7::X)++gh []) (b0::b1::b2::b3::b4::b5::b6::b7::X).length (f4 (wKg ls.length (.w 4 ls.length ps) es))) (rho (idK (wKg ls.length (.w 4 ls.length ps) es)))) ((b0::b1::b2::b3::b4::b5::b6::b7::X)++gh []) (FK.w 4 ls.length ps).l F4)
  (r4:∀ r,r < ls.length→rho (idK (wKg ls.length (.w 4 ls.length ps) es)) (b' r).1 (b' r).2=some (b r))
  (hY:aQ (ToB (ToT ((b0::b1::b2::b3::b4::b5::b6::b7::X)++gh []) (b0::b1::b2::b3::b4::b5::b6::b7::X).length (f4 (wKg ls.length (.w 4 ls.length ps) es))) (rho (idK (wKg ls.length (.w 4 ls.length ps) es)))) ((b0::b1::b2::b3::b4::b5::b6::b7::X)++gh []) es Y)
  (hlow:wJ 0 k (wKg ls.length (.w 4 ls.length ps) es) ((b0::b1::b2::b3::b4::b5::b6::b7::X)++gh [])) (he:e=.normal∨e=.ret:=by first | exact .inr rfl | exact .inl rfl) (hres:jF fr (b0::b1::b2::b3::b4::b5::b6::b7::X) rs=some res:=by rfl)
  (hr:To (ToT ((b0::b1::b2::b3::b4::b5::b6::b7::X)++gh []) (b0::b1::b2::b3::b4::b5::b6::b7::X).length (f4 (wKg ls.length (.w 4 ls.length ps) es))) (rho (idK (wKg ls.length (.w 4 ls.length ps) es))) res res':=by(all_goals exact eC))
  (hok:okK (wKg ls.length (.w 4 ls.length ps) es)=true:=by rfl):
  (e=.normal∨e=.ret)∧∃ res res' H2,jF fr (b0::b1::b2::b3::b4::b5::b6::b7::X) rs=some res∧i9 k (b0::b1::b2::b3::b4::b5::b6::b7::X) res H2 res'∧R res' H2:=by
 subst e0 e1 e2 e3 e5 e6 e7
 refine endKs (wKg ls.length (.w 4 ls.length ps) es) hR he hres hr (CZ rfl rfl rfl rfl rfl h4 (fun r hr=>aK hr) (fun r hr=>aK hr) (fun r hr=>aK hr) r4 hY) hlow hok
theorem Sub.wgL {k N:Nat} {fr fr':Fr} (p:Pg) (ls:List Ln) (s:St) (b b':Nat→Nat×Nat) (F4:List Blk) (szs:List Nat) (ps:List (Nat×Nat)) (es:List (List (Nat×Nat))) (Y:Heap) {b0 b1 b2 b3 b4 b5 b6 b7:List Blk} {X:Heap}
  (h5:aY (ToT ((b0::b1::b2::b3::b4::b5::b6::b7::X)++gh szs) (b0::b1::b2::b3::b4::b5::b6::b7::X).length (f4 (wKg ls.length (.w 4 ls.length ps) es))) (rho (idK (wKg ls.length (.w 4 ls.length ps) es))) fr fr')
  (e0:b0=[.cells 5 [boxW p ls s.seed]]) (e1:b1=[.cells 3 (procsH ls.length s b)]) (e2:b2=[.cells 1 (memH ls.length s)]) (e3:b3=[.cells 1 (heldH ls.length)])
  (e5:b5=jE ls.length s) (e6:b6=k9 ls.length s) (e7:b7=gP ls.length s)
  (h4:bD (ToB (ToT ((b0::b1::b2::b3::b4::b5::b6::b7::X)++gh szs) (b0::b1::b2::b3::b4::b5::b6::b7::X).length (f4 (wKg ls.length (.w 4 ls.length ps) es))) (rho (idK (wKg ls.length (.w 4 ls.length ps) es)))) ((b0::b1::b2::b3::b4::b5::b6::b7::X)++gh szs) (FK.w 4 ls.length ps).l F4)
  (r4:∀ r,r < ls.length→rho (idK (wKg ls.length (.w 4 ls.length ps) es)) (b' r).1 (b' r).2=some (b r))
  (hY:aQ (ToB (ToT ((b0::b1::b2::b3::b4::b5::b6::b7::X)++gh szs) (b0::b1::b2::b3::b4::b5::b6::b7::X).length (f4 (wKg ls.length (.w 4 ls.length ps) es))) (rho (idK (wKg ls.length (.w 4 ls.length ps) es)))) ((b0::b1::b2::b3::b4::b5::b6::b7::X)++gh szs) es Y)
  (hlow:wJ 0 k (wKg ls.length (.w 4 ls.length ps) es) ((b0::b1::b2::b3::b4::b5::b6::b7::X)++gh szs)) 
  (hok:okK (wKg ls.length (.w 4 ls.length ps) es)=true:=by rfl):
  Sub k N fr (b0::b1::b2::b3::b4::b5::b6::b7::X) fr' (aV p ls s b' F4++Y):=by
 subst e0 e1 e2 e3 e5 e6 e7
 have hg:∀ {g i:Nat} {H G:Heap} {x:Blk},hget H g i=some x→hget (H++G) g i=some x:=fun h=>aS h
 refine Sub.toK szs (wKg ls.length (.w 4 ls.length ps) es) h5 (CZ rfl rfl rfl rfl rfl h4 (fun r hr=>aK hr) (fun r hr=>aK hr) (fun r hr=>aK hr) r4 hY) hlow hok
theorem OS {k:Nat} {rs:List pM} {fr:Fr} {e:Exit} {R:AV→Heap→Prop} {res:AV} (res':AV) (p:Pg) (ls:List Ln) (s:St) (b b':Nat→Nat×Nat) (F4:List Blk) (ps:List (Nat×Nat)) (es:List (List (Nat×Nat))) (Y:Heap) {b0 b1 b2 b3 b4 b5 b6 b7:List Blk} {X:Heap}
  (hR:R res' (aV p ls s b' F4++Y))
  (e0:b0=[.cells 5 [boxW p ls s.seed]]) (e1:b1=[.cells 3 (procsH ls.length s b)]) (e2:b2=[.cells 1 (memH ls.length s)]) (e3:b3=[.cells 1 (heldH ls.length)]) (e4:b4.length=ls.length)
  (e5:b5=jE ls.length s) (e6:b6=k9 ls.length s) (e7:b7=gP ls.length s)
  (h4:bD (ToB (ToT ((b0::b1::b2::b3::b4::b5::b6::b7::X)++gh []) (b0::b1::b2::b3::b4::b5::b6::b7::X).length (f4 (wKg ls.length (.w 4 ls.length ps) es))) (rho (idK (wKg ls.length (.w 4 ls.length ps) es)))) ((b0::b1::b2::b3::b4::b5::b6::b7::X)++gh []) (FK.w 4 ls.length ps).l F4)
  (r4:∀ r,r < ls.length→rho (idK (wKg ls.length (.w 4 ls.length ps) es)) (b' r).1 (b' r).2=some (b r))
  (hY:aQ (ToB (ToT ((b0::b1::b2::b3::b4::b5::b6::b7::X)++gh []) (b0::b1::b2::b3::b4::b5::b6::b7::X).length (f4 (wKg ls.length (.w 4 ls.length ps) es))) (rho (idK (wKg ls.length (.w 4 ls.length ps) es)))) ((b0::b1::b2::b3::b4::b5::b6::b7::X)++gh []) es Y)
  (hk:k≤8:=by exact nlB rfl) (he:e=.normal∨e=.ret:=by first | exact .inr rfl | exact .inl rfl) (hres:jF fr (b0::b1::b2::b3::b4::b5::b6::b7::X) rs=some res:=by rfl)
  (hr:To (ToT ((b0::b1::b2::b3::b4::b5::b6::b7::X)++gh []) (b0::b1::b2::b3::b4::b5::b6::b7::X).length (f4 (wKg ls.length (.w 4 ls.length ps) es))) (rho (idK (wKg ls.length (.w 4 ls.length ps) es))) res res':=by(all_goals exact eC))
  (hok:okK (wKg ls.length (.w 4 ls.length ps) es)=true:=by rfl):
  (e=.normal∨e=.ret)∧∃ res res' H2,jF fr (b0::b1::b2::b3::b4::b5::b6::b7::X) rs=some res∧i9 k (b0::b1::b2::b3::b4::b5::b6::b7::X) res H2 res'∧R res' H2:=
 yX res' p ls s b b' F4 ps es Y hR e0 e1 e2 e3 e5 e6 e7 h4 r4 hY (by subst e0 e1 e2 e3; exact Q3 e4 (by rw[e5]; exact aJ _ _) (by rw[e6]; exact aJ _ _) (by rw[e7]; exact aJ _ _) hk) he hres hr hok
theorem Sub.wg {k N:Nat} {fr fr':Fr} (p:Pg) (ls:List Ln) (s:St) (b b':Nat→Nat×Nat) (F4:List Blk) (szs:List Nat) (ps:List (Nat×Nat)) (es:List (List (Nat×Nat))) (Y:Heap) {b0 b1 b2 b3 b4 b5 b6 b7:List Blk} {X:Heap}
  (h5:aY (ToT ((b0::b1::b2::b3::b4::b5::b6::b7::X)++gh szs) (b0::b1::b2::b3::b4::b5::b6::b7::X).length (f4 (wKg ls.length (.w 4 ls.length ps) es))) (rho (idK (wKg ls.length (.w 4 ls.length ps) es))) fr fr')
  (e0:b0=[.cells 5 [boxW p ls s.seed]]) (e1:b1=[.cells 3 (procsH ls.length s b)]) (e2:b2=[.cells 1 (memH ls.length s)]) (e3:b3=[.cells 1 (heldH ls.length)]) (e4:b4.length=ls.length)
  (e5:b5=jE ls.length s) (e6:b6=k9 ls.length s) (e7:b7=gP ls.length s)
  (h4:bD (ToB (ToT ((b0::b1::b2::b3::b4::b5::b6::b7::X)++gh szs) (b0::b1::b2::b3::b4::b5::b6::b7::X).length (f4 (wKg ls.length (.w 4 ls.length ps) es))) (rho (idK (wKg ls.length (.w 4 ls.length ps) es)))) ((b0::b1::b2::b3::b4::b5::b6::b7::X)++gh szs) (FK.w 4 ls.length ps).l F4)
  (r4:∀ r,r < ls.length→rho (idK (wKg ls.length (.w 4 ls.length ps) es)) (b' r).1 (b' r).2=some (b r))
  (hY:aQ (ToB (ToT ((b0::b1::b2::b3::b4::b5::b6::b7::X)++gh szs) (b0::b1::b2::b3::b4::b5::b6::b7::X).length (f4 (wKg ls.length (.w 4 ls.length ps) es))) (rho (idK (wKg ls.length (.w 4 ls.length ps) es)))) ((b0::b1::b2::b3::b4::b5::b6::b7::X)++gh szs) es Y)
  (hk:k≤8:=by exact nlB rfl) 
  (hok:okK (wKg ls.length (.w 4 ls.length ps) es)=true:=by rfl):
  Sub k N fr (b0::b1::b2::b3::b4::b5::b6::b7::X) fr' (aV p ls s b' F4++Y):=
 Sub.wgL p ls s b b' F4 szs ps es Y h5 e0 e1 e2 e3 e5 e6 e7 h4 r4 hY (by subst e0 e1 e2 e3; exact Q3 e4 (by rw[e5]; exact aJ _ _) (by rw[e6]; exact aJ _ _) (by rw[e7]; exact aJ _ _) hk) hok
theorem bP {T:AV→AV→Prop} {ρ:Nat→Nat→Option (Nat×Nat)} {n:Nat} {s:St} {H:Heap} (h:∀ r,r < n→hget H 4 r=some (.cells 1 (bB (aH s r).q))):bD (ToB T ρ) H (FK.w 4 n []).l (cH n s):=
 bD.ofFam fun i hi=>⟨_,h i hi,ToB.rows rfl (prs _)⟩
theorem dP {n:Nat} {ps:List (Nat×Nat)} {es:List (List (Nat×Nat))}:∀ r,r < n→rho (idK (wKg n (.w 4 n ps) es)) (b4 r).1 (b4 r).2=some (b4 r):=fun _ hr=>dJ rfl hr
theorem Ren.selfW {ρ:Nat→Nat→Option (Nat×Nat)} {xs:List AV} (h:∀ x∈xs,Ren ρ x x):∀(j:Nat) x y,xs[j]?=some x→xs[j]?=some y→Ren ρ x y:=fun j x y a b=>by
 rw[a] at b
 injection b with b
 subst b
 exact h x (List.mem_of_getElem? a)
theorem dO.selfW {ρ:Nat→Nat→Option (Nat×Nat)} {sz:Nat} {rows:List (List AV)} (h:∀ r∈rows,∀ c∈r,Ren ρ c c):dO ρ (.cells sz rows) (.cells sz rows):=
 .cells _ _ _ rfl (fun i r r' a b=>by rw[a] at b; injection b with b; subst b; rfl) fun i r r' j x y a b c d=>by
  rw[a] at b
  injection b with b
  subst b
  exact Ren.selfW (h r (List.mem_of_getElem? a)) j x y c d
theorem dO.mapW {ρ:Nat→Nat→Option (Nat×Nat)} (l:List (Nat×Int)):dO ρ (.map (retE l)) (.map (retE l)):=by
 refine .map _ _ rfl (fun j x y a b=>by rw[a] at b; injection b with b; rw[b]) fun j x y a b=>?_
 rw[a] at b
 injection b with b
 subst b
 obtain⟨z,_,rfl⟩:=List.mem_map.1 (List.mem_of_getElem? a)
 exact .sc _
theorem iN {n:Nat} {f f':Nat→Blk} (i:Nat):((fam n f)[i]?).isSome=((fam n f')[i]?).isSome:=by
 simp[fam]
theorem fU (p:Pg) (ls:List Ln) (s s':St):AU (worldH p ls s) (worldH p ls s'):=by
 have hd:∀ g i,(hget (worldH p ls s') g i).isSome=(hget (worldH p ls s) g i).isSome:=fun g i=>by
  match g,i with
  | 0,0=>rfl
  | 0,i+1=>rfl
  | 1,0=>rfl
  | 1,i+1=>rfl
  | 2,0=>rfl
  | 2,i+1=>rfl
  | 3,0=>rfl
  | 3,i+1=>rfl
  | 4,i=>exact iN i
  | 5,i=>exact iN i
  | 6,i=>exact iN i
  | 7,i=>exact iN i
  | g+8,i=>rfl
 have hi:∀(g i:Nat),(hget (worldH p ls s) g i).isSome=true→idH (worldH p ls s) g i=some (g,i):=fun g i h=>kV h
 have h4:∀ i,i < ls.length→idH (worldH p ls s) 4 i=some (4,i):=fun i h=>hi 4 i (by show((cH ls.length s)[i]?).isSome=true; unfold cH; rw[aK h]; rfl)
 have h5:∀ i,i < ls.length→idH (worldH p ls s) 5 i=some (5,i):=fun i h=>hi 5 i (by show((jE ls.length s)[i]?).isSome=true; unfold jE; rw[aK h]; rfl)
 have h6:∀ i,i < ls.length→idH (worldH p ls s) 6 i=some (6,i):=fun i h=>hi 6 i (by show((k9 ls.length s)[i]?).isSome=true; unfold k9; rw[aK h]; rfl)
 have h7:∀ i,i < ls.length→idH (worldH p ls s) 7 i=some (7,i):=fun i h=>hi 7 i (by show((gP ls.length s)[i]?).isSome=true; unfold gP; rw[aK h]; rfl)
 refine⟨rfl,hd,fun g i x hx=>?_⟩
 match g,i,hx with
 | 0,0,hx=>
  injection hx with hx
  subst hx
  refine⟨rfl,dO.selfW fun r hr c hc=>?_⟩
  rw[List.mem_singleton.1 hr] at hc
  unfold boxW at hc
  simp only[List.mem_cons,List.not_mem_nil,or_false] at hc
  rcases hc with rfl | rfl | rfl | rfl | rfl
  ·exact .pure (pv _)
  ·exact .sc _
  ·exact .hsl _ _ _ _ _ _ rfl
  ·exact .hsl _ _ _ _ _ _ rfl
  ·exact .hsl _ _ _ _ _ _ rfl
 | 1,0,hx=>
  injection hx with hx
  subst hx
  refine⟨rfl,dO.selfW fun r hr c hc=>?_⟩
  obtain⟨j,hj,rfl⟩:=List.mem_map.1 hr
  have hj:=List.mem_range.1 hj
  simp only[List.mem_cons,List.not_mem_nil,or_false] at hc
  rcases hc with rfl | rfl | rfl
  ·exact .sc _
  ·exact .hsl _ _ _ _ _ _ (h4 j hj)
  ·exact .mref _ _ _ _ (h5 j hj)
 | 2,0,hx=>
  injection hx with hx
  subst hx
  refine⟨rfl,dO.row1 fun j hj=>.hsl _ _ _ _ _ _ (h6 j hj)⟩
 | 3,0,hx=>
  injection hx with hx
  subst hx
  refine⟨rfl,dO.row1 fun j hj=>.mref _ _ _ _ (h7 j hj)⟩
 | 4,i,hx=>
  have hx:(cH ls.length s')[i]?=some x:=hx
  obtain⟨_,rfl⟩:=jR hx
  exact⟨rfl,dO.rows rfl (prs _)⟩
 | 5,i,hx=>
  have hx:(jE ls.length s')[i]?=some x:=hx
  obtain⟨_,rfl⟩:=jR hx
  exact⟨rfl,dO.mapW _⟩
 | 6,i,hx=>
  have hx:(k9 ls.length s')[i]?=some x:=hx
  obtain⟨_,rfl⟩:=jR hx
  exact⟨rfl,dO.rows rfl (prs _)⟩
 | 7,i,hx=>
  have hx:(gP ls.length s')[i]?=some x:=hx
  obtain⟨_,rfl⟩:=jR hx
  exact⟨rfl,dO.mapW _⟩
 | 0,i+1,hx=>cases hx
 | 1,i+1,hx=>cases hx
 | 2,i+1,hx=>cases hx
 | 3,i+1,hx=>cases hx
 | g+8,i,hx=>cases hx
theorem dT {s:St} {r:Nat} {x:Pr} (h:r < s.ps.length) (j:Nat):aH (setP s r x) j=if j=r then x else aH s j:=by
 unfold aH setP
 simp only[List.getElem?_set]
 by_cases e:r=j
 ·subst e
  rw[if_pos rfl,if_pos h,if_pos rfl]
  rfl
 ·rw[if_neg e,if_neg (fun q=>e q.symm)]
theorem o6 {s:St} {r:Nat} {x:List Int} (h:r < s.mem.length) (j:Nat):aT (setM s r x) j=if j=r then x else aT s j:=by
 unfold aT setM
 simp only[List.getElem?_set]
 by_cases e:r=j
 ·subst e
  rw[if_pos rfl,if_pos h,if_pos rfl]
  rfl
 ·rw[if_neg e,if_neg (fun q=>e q.symm)]
theorem wY {s:St} {r:Nat} {x:List (Nat×Int)} (h:r < s.held.length) (j:Nat):bO (setL s r x) j=if j=r then x else bO s j:=by
 unfold bO setL
 simp only[List.getElem?_set]
 by_cases e:r=j
 ·subst e
  rw[if_pos rfl,if_pos h,if_pos rfl]
  rfl
 ·rw[if_neg e,if_neg (fun q=>e q.symm)]
theorem MJ (s:St) (b:Nat) (m:List Int) (j:Nat):aH (setM s b m) j=aH s j:=rfl
theorem sX (s:St) (b:Nat) (m:Pr) (j:Nat):aT (setP s b m) j=aT s j:=rfl
theorem DU {n:Nat} {s s':St} {b:Nat→Nat×Nat} (h:∀ r,r < n→(aH s r).d=(aH s' r).d∧(aH s r).q.length=(aH s' r).q.length):procsH n s b=procsH n s' b:=List.map_congr_left fun r hr=>by
 obtain⟨h1,h2⟩:=h r (List.mem_range.1 hr)
 rw[h1,h2]
theorem H8 {n:Nat} {s s':St} (h:∀ r,r < n→(aT s r).length=(aT s' r).length):memH n s=memH n s':=l6 fun r hr=>by rw[h r hr]
theorem tO {n:Nat} {s s':St} (h:∀ r,r < n→(aH s r).g=(aH s' r).g):jE n s=jE n s':=fV fun r hr=>by rw[h r hr]
theorem wX {n:Nat} {s s':St} (h:∀ r,r < n→(aH s r).q=(aH s' r).q):cH n s=cH n s':=fV fun r hr=>by rw[h r hr]
theorem EX {n:Nat} {s:St} {r:Nat} {g':List (Nat×Int)} (h:r < s.ps.length):(jE n s).set r (.map (retE g'))=jE n (setP s r { aH s r with g:=g' }):=by
 unfold jE
 rw[uA]
 refine fV fun j _=>?_
 rw[dT h]
 split<;>rfl
theorem P1 {n:Nat} {s:St} {b:Nat} {m:List Int} (h:b < s.mem.length):(k9 n s).set b (.cells 1 (aU m))=k9 n (setM s b m):=by
 unfold k9
 rw[uA]
 refine fV fun j _=>?_
 rw[o6 h]
 split<;>rfl
theorem vO {n:Nat} {s:St} {b:Nat} {m:List (Nat×Int)} (h:b < s.held.length):(gP n s).set b (.map (retE m))=gP n (setL s b m):=by
 unfold gP
 rw[uA]
 refine fV fun j _=>?_
 rw[wY h]
 split<;>rfl
theorem tB {n:Nat} {s:St} {b:Nat→Nat×Nat} {r:Nat} {x:Pr} {c:Nat×Nat} (h:r < s.ps.length):(procsH n s b).set r [.sc (.int .i64 (x.d:Int)),.hsl c.1 c.2 0 x.q.length,.mref 5 r]=procsH n (setP s r x) (fun j=>if j=r then c else b j):=by
 unfold procsH
 apply List.ext_getElem?
 intro j
 rw[List.getElem?_set]
 by_cases hj:j < n
 ·rw[List.getElem?_map,List.getElem?_map,List.getElem?_range hj]
  simp only[Option.map_some,List.length_map,List.length_range]
  rw[dT h]
  by_cases e:r=j
  ·subst e
   simp[hj]
  ·rw[if_neg e,if_neg (fun q=>e q.symm),if_neg (fun q=>e q.symm)]
 ·rw[List.getElem?_map,List.getElem?_map,List.getElem?_eq_none (show(List.range n).length≤j by rw[List.length_range]; omega)]
  simp
  omega
theorem N5 (m:List Int) (a:Nat) (v:Int):(aU m).set a [.sc (.int .i64 v)]=aU (m.set a v):=by
 unfold aU
 rw[List.map_set]
theorem rB (l:List Int) (k:Nat) (h:k < l.length):(aU l)[k]?=some [.sc (.int .i64 l[k])]:=by simp[aU,h]
theorem CA {n:Nat} {s:St} {r:Nat}:(cH n s).set r .dead=fam n fun j=>if j=r then .dead else .cells 1 (bB (aH s j).q):=uA
def pendD (n:Nat) (s:St) (r:Nat):List Blk:=fam n fun j=>if j=r then .dead else .cells 1 (bB (aH s j).q)
def bX (r g:Nat) (j:Nat):Nat×Nat:=if j=r then(g,0) else(4,j)
theorem oO {T:AV→AV→Prop} {ρ:Nat→Nat→Option (Nat×Nat)} {n r:Nat} {s:St} {H:Heap} (h:∀ i,i < n→hget H 4 i=some (if i=r then .dead else .cells 1 (bB (aH s i).q))):bD (ToB T ρ) H (FK.w 4 n []).l (pendD n s r):=
 bD.ofFam fun i hi=>⟨_,h i hi,by
  split
  ·exact ToB.dead _
  ·exact ToB.rows rfl (prs _)⟩
theorem sS (v:Int):IntKind.u64.wrap v=((toU v:Nat):Int):=by
 unfold toU
 show v % 18446744073709551616=_
 omega
end Go.Proofs.YtkjoolaahocgdaaGreat
