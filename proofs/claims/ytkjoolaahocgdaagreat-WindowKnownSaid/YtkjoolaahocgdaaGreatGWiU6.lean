import Derived.Test.YtkjoolaahocgdaaGreatGWiR3a
import Derived.Test.YtkjoolaahocgdaaGreatGAvSo
namespace Go.Proofs.YtkjoolaahocgdaaGreat
open Go.Av Go.Proofs
set_option maxRecDepth 20000
theorem CO {n:Nat} {p:Pg} {ls:List Ln} (hF:FOK p ls):∀(f:Nat) (o:Ord),OOK p n o→OOK p n (x5 n p ls f o)
 | 0,_,h=>h
 | f+1,o,h=>by
  have hp:=(tW.pass (ls:=ls) hF h).ok
  unfold x5
  split
  ·exact CO hF f _ hp
  ·exact hp
theorem MM (p:Pg) (ls:List Ln) (hC:d9 p ls):OOK p ls.length (kZ ls.length p ls):=CO hC.fok _ _ (F1 p (by have:=hC.n64; have:=hC.len; omega))
set_option maxHeartbeats 16000000 in
theorem rK (p:Pg) (hp:POK p):aD Tryz.prog 15 [dH p] (nZ p):=by
 refine aD.mkI cF15 (nlB rfl) ?_
 have hc:=s4 p hp
 unfold EB at hc
 unfold nZ
 unfold plA dH at *
 by_cases h:(bP p).1.2=0
 ·rw[if_pos h] at hc ⊢
  have hC:=FZ h
  rw[h] at hc
  generalize (bP p).2=ls at *
  have ho:=JT p ls hC hp
  have hOO:OOK p ls.length (kZ ls.length p ls):=MM p ls hC
  generalize kZ ls.length p ls=o at *
  refine aA ?_
  have e1:=iN p.acts
  have hn:=hC.len
  have hn64:=hC.n64
  refine AWP.loop (σ:=Nat×RS) (fun s=>rcF p ls o s.1 s.2) (fun s=>rcH s.2) (fun s=>s.1≤p.acts.length∧s.2=(List.range s.1).foldl (E5 p ls o) ([],[])∧wX s.2 (s.1 * 100)∧sJ p ls s.2.1) (fun s=>p.acts.length - s.1) (0,([],[])) ⟨Nat.zero_le _,rfl,⟨Nat.zero_le _,Nat.zero_le _⟩,fun x hx=>by cases hx⟩ ?_ ?_
  ·show Sub _ _ _ _ _ [[.cells 2 []],[.cells 4 []]]
   unfold rcF
   exact Sub.w [2,4] [[(4,0)],[(5,0)]]
  rintro⟨r,s⟩ ⟨hr,hs,hlr,hse⟩
  dsimp only at hr hs hlr hse ⊢
  unfold rcF
  refine aA ?_
  refine AWP.condD rfl (fun h=>?_) (fun h=>?_)
  ·have hra:=gEg (show r < p.acts.length by omega)
   have hrow:=gX hra
   have hlen:=dP hra
   obtain⟨L,hL,hO⟩:=hC.get hra
   have hl100:=hO.len
   have hst:=jF (f:=E5 p ls o) (a:=([],[])) (t:=r)
   rw[← hs] at hst
   unfold E5 at hst
   rw[hlen] at hst
   generalize p.acts[r]=l at *
   have e2:=fW l
   unfold rcH
   refine aA ?_
   rw[e2]
   refine AWP.loop (σ:=Nat×RS) (fun s=>(11,.sc (.int .i64 (r:Int)))::(12,.list 7 (aU l))::(41,.sc (.int .i64 (l.length:Int)))::(42,.sc (.int .i64 (s.1:Int)))::rcF p ls o r s.2) (fun s=>rcH s.2) (fun t=>t.1≤l.length∧t.2=(List.range t.1).foldl (lX p ls o r) s∧wX t.2 (r * 100+t.1)∧sJ p ls t.2.1) (fun s=>l.length - s.1) (0,s) ⟨Nat.zero_le _,rfl,hlr,hse⟩ ?_ ?_
   ·unfold rcF rcH
    exact Sub.w [] [[(0,0)],[(1,0)]]
   rintro⟨i,t⟩ ⟨hi,ht,hlt,hst0⟩
   dsimp only at hi ht hlt hst0 ⊢
   unfold rcF rcH
   refine aA ?_
   refine AWP.condD rfl (fun h3=>?_) (fun h3=>?_)
   ·have hst2:=jF (f:=lX p ls o r) (a:=s) (t:=i)
    rw[← ht] at hst2
    have hx:=gEg h3
    have hlk:=kH i L.acc
    have hr1:=dD hL
    unfold lnR epR at hr1
    have hac:pW ls (r,i)=cS i L.acc:=by unfold pW; simp only[hL]
    have hln:=hlt.step (p:=p) (ls:=ls) (o:=o) (r:=r) (i:=i)
    have hsn:=hst0.step (o:=o) (show r < p.acts.length by omega) (show i < cI p r by omega)
    have hbig:=hlt.big (by omega)
    cases hL2:cS i L.acc with
    | none=>
     rw[hL2] at hlk
     have e5:lX p ls o r t i=t:=by unfold lX; rw[hac,hL2]
     rw[e5] at hst2 hln hsn
     refine aA ?_
     refine Reg.o rfl (bS rfl rfl hlk) ?_
     refine aA ?_
     refine⟨(i+1,t),⟨by omega,hst2.symm,hln,hsn⟩,by omega,?_⟩
     exact Sub.w [] [[(0,0)],[(1,0)]]
    | some d=>
     rw[hL2] at hlk
     have e5:lX p ls o r t i=(t.1++[(r,i)],t.2++(t.1.filter fun y=>nV p ls o y (r,i)).map fun y=>mk4 y (r,i)):=by unfold lX; rw[hac,hL2]
     rw[e5] at hst2 hln hsn
     refine aA ?_
     refine Reg.o rfl (bS rfl rfl hlk) ?_
     refine aA ?_
     have ep:=fQ t.1
     rw[show(List.length t.1)=t.1.length from rfl]
     refine AWP.loop (fun k:Nat=>(14,.cptr (plR (r,i)))::(15,.cptr (acR d))::(63,.hsl 0 0 0 t.1.length)::(64,.sc (.int .i64 (t.1.length:Int)))::(65,.sc (.int .i64 (k:Int)))::(11,.sc (.int .i64 (r:Int)))::(12,.list 7 (aU l))::(41,.sc (.int .i64 (l.length:Int)))::(42,.sc (.int .i64 (i:Int)))::rcF p ls o r (t.1,nK p ls o t (r,i) k)) (fun k=>rcH (t.1,nK p ls o t (r,i) k)) (fun k=>k≤t.1.length) (fun k=>t.1.length - k) 0 (Nat.zero_le _) ?_ ?_
     ·have ho0:nK p ls o t (r,i) 0=t.2:=by unfold nK; simp
      rw[ho0]
      unfold rcF rcH plR acR
      exact Sub.w [] [[(0,0)],[(1,0)]]
     rintro k hk
     unfold rcF rcH
     refine aA ?_
     refine AWP.condD rfl (fun h4=>?_) (fun h4=>?_)
     ·refine AWP.skip ?_
      refine AWP.seq ?_
      refine AWP.sub (fr':=rcK p ls o r i l d t.1 k (nK p ls o t (r,i) k)) (H':=rcH (t.1,nK p ls o t (r,i) k)) ?_ ?_
      ·exact Sub.keep (by unfold rcK rcF; exact⟨Le.refl _,Le.refl _,Le.refl _,Le.refl _,Le.refl _,Le.refl _,Le.refl _,Le.refl _,Le.refl _,Le.refl _,Le.refl _,Le.refl _,Le.refl _,Le.refl _,Le.refl _,Le.refl _,Le.refl _,trivial⟩)
      refine AWP.joinT0 _ _ (OK p ls hC o hOO t k h4 hst0 hbig hra h3 hL hL2 _) ?_
      unfold rcK rcF rcH
      refine aA ?_
      refine⟨k+1,by omega,by omega,?_⟩
      exact Sub.w [] [[(0,0)],[(1,0)]]
     ·have hk2:k=t.1.length:=by omega
      subst hk2
      have hout:nK p ls o t (r,i) t.1.length=t.2++(t.1.filter fun y=>nV p ls o y (r,i)).map fun y=>mk4 y (r,i):=by unfold nK; rw[List.take_length]
      rw[hout]
      generalize t.2++(t.1.filter fun y=>nV p ls o y (r,i)).map (fun y=>mk4 y (r,i))=out at *
      unfold plR
      dsimp only
      refine aA ?_
      refine⟨(i+1,(t.1++[(r,i)],out)),⟨by omega,hst2.symm,hln,hsn⟩,by omega,?_⟩
      dsimp only
      rw[mE,List.length_append]
      unfold plR
      exact Sub.w [] [[(3,0)],[(1,0)]]
   ·have hi2:i=l.length:=by omega
    subst hi2
    refine aA ?_
    refine⟨(r+1,t),⟨by omega,by rw[ht]; exact hst.symm,hlt.mono (by rw[Nat.add_mul]; omega),hst0⟩,by omega,?_⟩
    exact Sub.w [] [[(0,0)],[(1,0)]]
  ·have hr2:r=p.acts.length:=by omega
   subst hr2
   have hb2:=hlr.big (by omega)
   have hrp:qC p ls o=nB s.2:=by unfold qC g8; rw[← hs]
   rw[hrp]
   refine AWP.exit ?_
   refine AWP.sub (fr':=[(10,.hsl 0 0 0 s.2.length)]) (H':=[[.cells 4 (s.2.map raR)]]) ?_ ?_
   ·unfold rcH
    exact Sub.w [] [[(1,0)]]
   refine AWP.seq ?_
   refine AWP.region ?_
   refine Reg.o rfl rfl ?_
   refine Reg.c (Nat.zero_le _) rfl ((aQ.fn (KW s.2 (by omega))).mono ?_)
   rintro res H' ⟨rfl,rfl⟩
   have hsl:((nB s.2).map raR).length=s.2.length:=by rw[List.length_map]; exact List.length_mergeSort _
   refine aA ?_
   refine aW.mk (.inr rfl) rfl rfl ?_
   exact To.tupL (ToL.cons (To.fz rfl rfl hsl rfl (prs _)) (ToL.cons (.sc _) ToL.nil))
 ·rw[if_neg h] at hc ⊢
  generalize (bP p).1.2=k at *
  have e:(k != 0)=true:=by simp[h]
  refine aA ?_
  rw[e]
  refine aA ?_
  exact aW.w
structure Pr where
 d:Nat
 q:List Nat
 g:List (Nat×Int)
structure St where
 seed:Nat
 ps:List Pr
 mem:List (List Int)
 held:List (List (Nat×Int))
def pr0:Pr:=⟨0,[],[]⟩
def aI (s:St) (r:Nat):Pr:=(s.ps[r]?).getD pr0
def bC (s:St) (r:Nat):List Int:=(s.mem[r]?).getD []
def dG (s:St) (r:Nat):List (Nat×Int):=(s.held[r]?).getD []
def retE (l:List (Nat×Int)):List (Value×AV):=l.map fun x=>(.int .i64 (x.1:Int),.sc (.int .i64 x.2))
instance (l:List (Nat×Int)):PM (retE l):=⟨fun x hx=>by
 obtain⟨a,_,rfl⟩:=List.mem_map.1 hx
 exact .sc _⟩
theorem sR (i:Nat) (l:List (Nat×Int)):d5 .i64 (i:Int) (retE l)=some ((cS i l).map fun a=>.sc (.int .i64 a)):=k8 (fun a:Int=>.sc (.int .i64 a)) i l
def prV (x:Pr):List AV:=[.sc (.int .i64 (x.d:Int)),.list 1 (bF x.q),.tmap (retE x.g)]
instance (x:Pr):PR (prV x):=by unfold prV; infer_instance
def kI (n:Nat) (s:St):List (List AV):=(List.range n).map fun r=>prV (aI s r)
def wG (n:Nat) (s:St):List (List AV):=row1 n fun r=>.list 1 (bE (bC s r))
def KE (n:Nat) (s:St):List (List AV):=row1 n fun r=>.tmap (retE (dG s r))
instance (n:Nat) (s:St):PRs (kI n s):=⟨fun r hr=>by
 obtain⟨a,_,rfl⟩:=List.mem_map.1 hr
 exact pr (prV (aI s a))⟩
instance (n:Nat) (s:St):PRs (wG n s):=inferInstanceAs (PRs (row1 n fun r=>AV.list 1 (bE (bC s r))))
instance (n:Nat) (s:St):PRs (KE n s):=inferInstanceAs (PRs (row1 n fun r=>AV.tmap (retE (dG s r))))
theorem DH (n:Nat) (s:St):(kI n s).length=n:=by simp[kI]
theorem mK {n r:Nat} {s:St} (h:r < n):eB (kI n s) (r:Int)=some (prV (aI s r)):=by
 rw[mD]
 simp[kI,h]
theorem JN {n r:Nat} {s:St} (h:r < n):eB (KE n s) (r:Int)=some [.tmap (retE (dG s r))]:=by
 rw[mD]
 exact eZ h
def cJ (p:Pg) (ls:List Ln) (s:St):AV:=.cptr [ckV p ls,.sc (.int .u64 (s.seed:Int)),.list 3 (kI ls.length s),.list 1 (wG ls.length s),.list 1 (KE ls.length s)]
instance (p:Pg) (ls:List Ln) (s:St):PV (cJ p ls s):=by unfold cJ; infer_instance
def procsH (n:Nat) (s:St) (b:Nat→Nat×Nat):List (List AV):=(List.range n).map fun r=>[.sc (.int .i64 ((aI s r).d:Int)),.hsl (b r).1 (b r).2 0 (aI s r).q.length,.mref 5 r]
def memH (n:Nat) (s:St):List (List AV):=row1 n fun r=>.hsl 6 r 0 (bC s r).length
def heldH (n:Nat):List (List AV):=row1 n fun r=>.mref 7 r
def boxW (p:Pg) (ls:List Ln) (seed:Nat):List AV:=[ckV p ls,.sc (.int .u64 (seed:Int)),.hsl 1 0 0 ls.length,.hsl 2 0 0 ls.length,.hsl 3 0 0 ls.length]
def cC (n:Nat) (s:St):List Blk:=fam n fun r=>.cells 1 (bF (aI s r).q)
def iB (n:Nat) (s:St):List Blk:=fam n fun r=>.map (retE (aI s r).g)
def jV (n:Nat) (s:St):List Blk:=fam n fun r=>.cells 1 (bE (bC s r))
def fP (n:Nat) (s:St):List Blk:=fam n fun r=>.map (retE (dG s r))
def b4 (r:Nat):Nat×Nat:=(4,r)
def aZ (p:Pg) (ls:List Ln) (s:St) (b:Nat→Nat×Nat) (F4:List Blk):Heap:=
 [[.cells 5 [boxW p ls s.seed]],[.cells 3 (procsH ls.length s b)],[.cells 1 (memH ls.length s)],[.cells 1 (heldH ls.length)],F4,iB ls.length s,jV ls.length s,fP ls.length s]
def worldH (p:Pg) (ls:List Ln) (s:St):Heap:=aZ p ls s b4 (cC ls.length s)
theorem eU (n:Nat) (s:St) (b:Nat→Nat×Nat):(procsH n s b).length=n:=by simp[procsH]
theorem iY {n r:Nat} {s:St} {b:Nat→Nat×Nat} (h:r < n):(procsH n s b)[r]?=some [.sc (.int .i64 ((aI s r).d:Int)),.hsl (b r).1 (b r).2 0 (aI s r).q.length,.mref 5 r]:=by simp[procsH,h]
theorem oG (n:Nat) (s:St):(memH n s).length=n:=dA _ _
theorem lS (n:Nat):(heldH n).length=n:=dA _ _
theorem BG {n r:Nat} {s:St} (h:r < n):(memH n s)[r]?=some [.hsl 6 r 0 (bC s r).length]:=eZ h
theorem xP {n r:Nat} (h:r < n):(heldH n)[r]?=some [.mref 7 r]:=eZ h
theorem aV {H G:Heap} {g i:Nat} {x:Blk} (h:hget H g i=some x):hget (H++G) g i=some x:=by
 rw[cH (dO (by rw[h]; rfl))]
 exact h
theorem To.world {n:Nat} {p:Pg} {ls:List Ln} {s:St} {H:Heap} {ρ:Nat→Nat→Option (Nat×Nat)} (h0:hget H 0 0=some (.cells 5 [boxW p ls s.seed])) (h1:hget H 1 0=some (.cells 3 (procsH ls.length s b4))) (h2:hget H 2 0=some (.cells 1 (memH ls.length s)))
  (h3:hget H 3 0=some (.cells 1 (heldH ls.length))) (h4:∀ r,r < ls.length→hget H 4 r=some (.cells 1 (bF (aI s r).q))) (h5:∀ r,r < ls.length→hget H 5 r=some (.map (retE (aI s r).g)))
  (h6:∀ r,r < ls.length→hget H 6 r=some (.cells 1 (bE (bC s r)))) (h7:∀ r,r < ls.length→hget H 7 r=some (.map (retE (dG s r)))):To (ToT H n (eA [])) ρ (.ptr 0 0 0 0) (cJ p ls s):=by
 refine To.fzp h0 rfl rfl ?_
 unfold boxW
 refine To.cptrL (ToL.cons (.pure (pv _)) (ToL.cons (.sc _) (ToL.cons ?_ (ToL.cons ?_ (ToL.cons ?_ ToL.nil)))))
 ·refine To.fzT h1 rfl (eU _ _ _) (To.listR ?_)
  unfold procsH kI
  refine ToR.map fun r hr=>?_
  have hr:=List.mem_range.1 hr
  exact ToL.cons (.sc _) (ToL.cons (To.fz (h4 r hr) rfl (bZ _) rfl (prs _)) (ToL.cons (To.fzm (h5 r hr) rfl (.pure (pv (.tmap (retE (aI s r).g))))) ToL.nil))
 ·refine To.fzT h2 rfl (oG _ _) (To.row1 fun r hr=>?_)
  exact To.fz (h6 r hr) rfl (cD _) rfl (prs _)
 ·refine To.fzT h3 rfl (lS _) (To.row1 fun r hr=>?_)
  exact To.fzm (h7 r hr) rfl (.pure (pv (.tmap (retE (dG s r)))))
theorem To.worldH {n:Nat} {p:Pg} {ls:List Ln} {s:St} {G:Heap} {ρ:Nat→Nat→Option (Nat×Nat)}:To (ToT (worldH p ls s++G) n (eA [])) ρ (.ptr 0 0 0 0) (cJ p ls s):=
 To.world (aV rfl) (aV rfl) (aV rfl) (aV rfl) (fun _ hr=>aV (aO hr)) (fun _ hr=>aV (aO hr)) (fun _ hr=>aV (aO hr)) (fun _ hr=>aV (aO hr))
theorem wK {α:Type} (t:α→Bool):∀ l:List α,decide (0≤kS t l)=l.any t
 | []=>rfl
 | y::l=>by
  have ih:=wK t l
  have h:=(uC t l).1
  rw[List.any_cons,← ih]
  show decide (0≤if t y=true then 0 else if kS t l < 0 then -1 else kS t l+1)=_
  by_cases h1:t y=true
  ·rw[if_pos h1,h1]; rfl
  ·rw[if_neg h1,show t y=false by simpa using h1]
   by_cases h2:kS t l < 0
   ·rw[if_pos h2]; simp; omega
   ·rw[if_neg h2]; simp; omega
def IL (f:AV) (t:Nat→Bool) (l:List Nat):Prop:=∀ x∈l,l3 f [.sc (.int .i64 (x:Int))] (.sc (.bool (t x)))
def IN (f:AV) (t:Pl→Bool) (l:List Pl):Prop:=∀ x∈l,l3 f [.agg (plR x)] (.sc (.bool (t x)))
set_option maxHeartbeats 4000000 in
theorem L9 (l:List Nat) {f:AV} [PV f] (t:Nat→Bool) (hf:IL f t l) (hl:l.length≤1000000):aD Tryz.prog 147 [.list 1 (bF l),f] (.sc (.int .i64 (kS t l))):=by
 refine aD.mkI cF147 (nlB rfl) ?_
 have e0:=bZ l
 refine aA ?_
 refine AWP.loop (fun k:Nat=>[(0,.list 1 (bF l)),(1,f),(6,.list 1 (bF l)),(7,.sc (.int .i64 (l.length:Int))),(8,.sc (.int .i64 (k:Int)))])
  (fun k=>[]) (fun k=>k≤l.length∧∀(j:Nat) (hj:j < l.length),j < k→t l[j]=false) (fun k=>l.length - k) 0 ⟨Nat.zero_le _,fun j hj h=>by omega⟩ ?_ ?_
 ·exact Sub.w [] []
 rintro k ⟨hk,hb⟩
 refine aA ?_
 refine AWP.condD rfl (fun h=>?_) (fun h=>?_)
 ·have hr:=oA l k h
  obtain⟨g,cs,hfe,hp⟩:l3 f [.sc (.int .i64 ((l[k]:Nat):Int))] (.sc (.bool (t l[k]))):=hf l[k] (List.getElem_mem h)
  have h1:=uF t l k h
  have h2:t l[k]=false→∀(j:Nat) (hj:j < l.length),j < k+1→t l[j]=false:=fun e j hj hjk=>by
   by_cases e:j=k
   ·subst e; assumption
   ·exact hb j hj (by omega)
  generalize l[k]=x at *
  generalize ht:t x=b at *
  subst hfe
  refine aA ?_
  cases b with
  | true=>
   rw[h1 rfl hb]
   refine aA ?_
   exact aW.w
  | false=>
   refine aA ?_
   refine⟨k+1,⟨by omega,h2 rfl⟩,by omega,?_⟩
   exact Sub.w [] []
 rw[rD t l fun j hj=>hb j hj (by omega)]
 refine aA ?_
 exact aW.w
set_option maxHeartbeats 4000000 in
theorem LO (l:List Pl) {f:AV} [PV f] (t:Pl→Bool) (hf:IN f t l) (hl:l.length≤1000000):aD Tryz.prog 137 [.list 2 (j7 l),f] (.sc (.int .i64 (kS t l))):=by
 refine aD.mkI cF137 (nlB rfl) ?_
 have e0:=fQ l
 refine aA ?_
 refine AWP.loop (fun k:Nat=>[(0,.list 2 (j7 l)),(1,f),(6,.list 2 (j7 l)),(7,.sc (.int .i64 (l.length:Int))),(8,.sc (.int .i64 (k:Int)))])
  (fun k=>[]) (fun k=>k≤l.length∧∀(j:Nat) (hj:j < l.length),j < k→t l[j]=false) (fun k=>l.length - k) 0 ⟨Nat.zero_le _,fun j hj h=>by omega⟩ ?_ ?_
 ·exact Sub.w [] []
 rintro k ⟨hk,hb⟩
 refine aA ?_
 refine AWP.condD rfl (fun h=>?_) (fun h=>?_)
 ·have hr:=zD l k h
  obtain⟨g,cs,hfe,hp⟩:l3 f [.agg (plR l[k])] (.sc (.bool (t l[k]))):=hf l[k] (List.getElem_mem h)
  have h1:=uF t l k h
  have h2:t l[k]=false→∀(j:Nat) (hj:j < l.length),j < k+1→t l[j]=false:=fun e j hj hjk=>by
   by_cases e:j=k
   ·subst e; assumption
   ·exact hb j hj (by omega)
  generalize l[k]=x at *
  generalize ht:t x=b at *
  unfold plR at hr hp
  subst hfe
  refine aA ?_
  cases b with
  | true=>
   rw[h1 rfl hb]
   refine aA ?_
   exact aW.w
  | false=>
   refine aA ?_
   refine⟨k+1,⟨by omega,h2 rfl⟩,by omega,?_⟩
   exact Sub.w [] []
 rw[rD t l fun j hj=>hb j hj (by omega)]
 refine aA ?_
 exact aW.w
theorem LT (l:List Nat) (g:Nat) (cs:List AV) [PR cs] (t:Nat→Bool) (hf:IL (.clo (.func g) [] cs) t l) (hl:l.length≤1000000):aD Tryz.prog 138 [.list 1 (bF l),.clo (.func g) [] cs] (.sc (.bool (l.any t))):=by
 refine aD.mkI cF138 (nlB rfl) ?_
 have h:=L9 l t hf hl
 rw[← wK]
 generalize kS t l=k at *
 refine aA ?_
 exact aW.w
theorem EX (l:List Pl) (g:Nat) (cs:List AV) [PR cs] (t:Pl→Bool) (hf:IN (.clo (.func g) [] cs) t l) (hl:l.length≤1000000):aD Tryz.prog 114 [.list 2 (j7 l),.clo (.func g) [] cs] (.sc (.bool (l.any t))):=by
 refine aD.mkI cF114 (nlB rfl) ?_
 have h:=LO l t hf hl
 rw[← wK]
 generalize kS t l=k at *
 refine aA ?_
 exact aW.w
def acN (ls:List Ln) (a:Pl):Ac:=(pW ls a).getD ⟨0,0,0⟩
theorem HQ (ls:List Ln) (a:Pl):pC ls a=(acN ls a).d:=by
 unfold pC acN pW
 cases ls[a.1]? with
 | none=>rfl
 | some L=>simp only; cases cS a.2 L.acc<;>rfl
theorem rE {ls:List Ln} {r i:Nat} {L:Ln} (hL:ls[r]?=some L) {g k:Nat} {fr:Fr} {H:Heap} {x ix:Operand} (h1:ev fr x=.tmap (tX L.acc)) (h2:ev fr ix=.sc (.int .i64 (i:Int))):
  aH g k (.lookup (.agg [.sc (.int .i64 0),.sc (.int .i64 0),.sc (.int .i64 0)]) .i64 x ix false) fr H=some (.agg (acR (acN ls (r,i))),H):=by
 have hlk:=kH i L.acc
 unfold acN pW
 simp only[hL]
 cases hL2:cS i L.acc with
 | none=>
  rw[hL2] at hlk
  exact bS h1 h2 hlk
 | some c=>
  rw[hL2] at hlk
  exact bS h1 h2 hlk
set_option maxHeartbeats 4000000 in
theorem MJ (p:Pg) (ls:List Ln) (s:St) {r:Nat} (j i:Nat) (hr:r < ls.length):aD Tryz.prog 139 [.sc (.int .i64 (i:Int)),.cptr [cJ p ls s],.cptr (plR (r,j))] (.sc (.bool (decide (pC ls (r,i)=j)))):=by
 refine aD.mkI cF139 (nlB rfl) ?_
 have hL:=gEg hr
 have hr1:=dD hL
 unfold lnR epR at hr1
 rw[HQ]
 have hlk:=fun g k fr H x ix h1 h2=>rE (g:=g) (k:=k) (fr:=fr) (H:=H) (x:=x) (ix:=ix) (i:=i) hL h1 h2
 generalize acN ls (r,i)=c at *
 generalize ls[r]=L at *
 unfold cJ ckV plR acR at *
 dsimp only at *
 refine aA ?_
 refine DK.o rfl (hlk _ _ _ _ _ _ rfl rfl) ?_
 refine aA ?_
 refine DK.nil ⟨by kernel_rfl,?_⟩
 refine aA ?_
 exact aW.w
def pY (ls:List Ln) (s:St) (x:Pl):Bool:=!((aI s x.1).q.any fun i=>decide (pC ls (x.1,i)=x.2))
set_option maxHeartbeats 4000000 in
theorem AJ (p:Pg) (ls:List Ln) (s:St) {r j:Nat} (hr:r < ls.length) (hq:(aI s r).q.length≤1000000):aD Tryz.prog 117 [cJ p ls s,.agg (plR (r,j))] (.sc (.bool (pY ls s (r,j)))):=by
 refine aD.mkI cF117 (nlB rfl) ?_
 have hpr:=mK (s:=s) hr
 have hany:=LT (aI s r).q 139 [.cptr [cJ p ls s],.cptr (plR (r,j))] (fun i=>decide (pC ls (r,i)=j)) (fun i _=>⟨139,_,rfl,MJ p ls s j i hr⟩) hq
 have hw:PV (cJ p ls s):=inferInstance
 unfold pY
 dsimp only
 generalize (aI s r).q.any (fun i=>decide (pC ls (r,i)=j))=b at *
 unfold prV at hpr
 unfold plR at *
 refine AWP.seq ?_
 refine AWP.region ?_
 refine bI ?_
 refine AWP.sub (fr':=[(2,.cptr [cJ p ls s]),(3,.cptr [.sc (.int .i64 (r:Int)),.sc (.int .i64 (j:Int))]),(4,.sc (.bool false))]) (H':=[]) ?_ ?_
 ·exact Sub.w [] []
 unfold cJ at *
 refine aA ?_
 refine DK.nil ⟨by kernel_rfl,?_⟩
 refine aA ?_
 exact aW.w
theorem l6.fB {p:Pg} {r:Nat} {l:List Act} {i:Nat} {x:Act} (h:l6 p r l i x):i7 p.acts.length p.cells r (eW x.k) (lZ x.k) (nA x.k) (lE x.k) x=0:=h.f
theorem l6.rank {p:Pg} {r:Nat} {l:List Act} {i:Nat} {x:Act} (h:l6 p r l i x) (hk:eW x.k=true):0≤x.r∧x.r < p.acts.length:=by
 have hf:=h.fB
 unfold i7 at hf
 split at hf
 ·cases hf
 ·rename_i h1
  rw[hk] at h1
  simp at h1
  omega
theorem l6.cell {p:Pg} {r:Nat} {l:List Act} {i:Nat} {x:Act} (h:l6 p r l i x) (hk:lZ x.k=true):0≤x.a∧x.a < p.cells:=by
 have hf:=h.fB
 unfold i7 at hf
 split at hf
 ·cases hf
 split at hf
 ·cases hf
 ·rename_i h1
  rw[hk] at h1
  simp at h1
  omega
theorem l6.op {p:Pg} {r:Nat} {l:List Act} {i:Nat} {x:Act} (h:l6 p r l i x) (hk:nA x.k=true):kL x.o 1=0:=by
 have hf:=h.fB
 unfold i7 at hf
 split at hf
 ·cases hf
 split at hf
 ·cases hf
 exact hf
structure cA (p:Pg) (ls:List Ln) (s:St):Prop where
 sd:s.seed < 18446744073709551616
 pl:s.ps.length=ls.length
 ml:s.mem.length=ls.length
 hl:s.held.length=ls.length
 d:∀ r,r < ls.length→(aI s r).d≤cI p r
 q:∀ r,r < ls.length→(aI s r).q.length≤(aI s r).d
 qi:∀ r,r < ls.length→∀ i∈(aI s r).q,i < (aI s r).d∧dW (jS p (r,i)).k=true
 m:∀ r,r < ls.length→(bC s r).length=p.cells.toNat
def dAt (s:St) (b:Nat):Nat:=(aI s b).d
def yG (ls:List Ln) (s:St) (y:Pl):Bool:=decide (dAt s y.1 < y.2) || (decide (dAt s y.1=y.2) && !pY ls s y)
def n8 (k:Int) (e:Nat×Int):Bool:=decide (e.2=13) || decide (k=13)
def JI (s:St) (x:Act):Bool:=!((dG s x.r.toNat).any (n8 x.k))
def LW (ls:List Ln) (s:St) (r:Nat) (x:Act) (f:List Pl):Bool:=
 if x.k=13∨x.k=14 then JI s x
 else if x.k=10∨x.k=12 then !(f.any fun y=>decide (dAt s y.1≤y.2))
 else if x.k=8∨x.k=11∨x.k=15∨x.k=16 then pY ls s (r,dAt s r) && !(f.any fun y=>yG ls s y)
 else true
def zZ (p:Pg) (ls:List Ln) (s:St) (r:Nat):Bool:=
 if dAt s r=cI p r then false
 else if (jY p ls r (dAt s r)).1.length < (jY p ls r (dAt s r)).2 then false
 else LW ls s r (jS p (r,dAt s r)) (jY p ls r (dAt s r)).1
theorem jL {p:Pg} {r i:Nat} {l:List Act} {x:Act} (h1:p.acts[r]?=some l) (h2:l[i]?=some x):jS p (r,i)=x:=by unfold jS; simp only[h1,Option.getD_some,h2]
theorem IS {p:Pg} {b i:Nat} (h:i < cI p b):b < p.acts.length:=by
 unfold cI at h
 by_cases hb:b < p.acts.length
 ·exact hb
 ·rw[List.getElem?_eq_none (by omega)] at h
  simp at h
theorem MG {p:Pg} {ls:List Ln} (hF:FOK p ls) (hl:ls.length=p.acts.length) {r i:Nat} (hi:i < cI p r):∀ y∈(jY p ls r i).1,y.1 < ls.length∧y.2 < cI p y.1:=fun y hy=>by
 have:=hF.m r (i+1) y (by unfold gO; rw[if_pos (by omega)]; exact hy)
 have h2:=IS this.2
 exact⟨by omega,this.2⟩
theorem KM {p:Pg} {ls:List Ln} (hF:FOK p ls) {r i:Nat} (hi:i < cI p r):(jY p ls r i).1.length≤1000000:=by
 have:=hF.l r (i+1)
 unfold gO at this
 rw[if_pos (by omega)] at this
 exact this
set_option maxHeartbeats 4000000 in
theorem HY (p:Pg) (ls:List Ln) (s:St) {b j:Nat} (hb:b < ls.length):aD Tryz.prog 115 [.agg (plR (b,j)),.cptr [cJ p ls s]] (.sc (.bool (decide (dAt s b≤j)))):=by
 refine aD.mkI cF115 (nlB rfl) ?_
 have hpr:=mK (s:=s) hb
 unfold cJ plR prV at *
 unfold dAt
 generalize aI s b=x at *
 refine aA ?_
 refine DK.nil ⟨by kernel_rfl,?_⟩
 refine aA ?_
 exact aW.w
set_option maxHeartbeats 4000000 in
theorem KZ (p:Pg) (ls:List Ln) (s:St) {b j:Nat} (hb:b < ls.length) (hq:(aI s b).q.length≤1000000):aD Tryz.prog 116 [.agg (plR (b,j)),.cptr [cJ p ls s]] (.sc (.bool (yG ls s (b,j)))):=by
 refine aD.mkI cF116 (nlB rfl) ?_
 have hpr:=mK (s:=s) hb
 have hc:=AJ p ls s (j:=j) hb hq
 unfold yG dAt
 generalize pY ls s (b,j)=c at *
 unfold cJ plR prV at *
 dsimp only at *
 generalize aI s b=x at *
 refine aA ?_
 refine DK.nil ⟨by kernel_rfl,?_⟩
 refine aA ?_
 by_cases h1:x.d < j
 ·rw[dTr h1]
  refine aA ?_
  exact aW.w
 ·rw[dFa h1]
  refine aA ?_
  by_cases h2:x.d=j
  ·rw[dTr h2]
   refine aA ?_
   exact aW.w
  ·rw[dFa h2]
   refine aA ?_
   exact aW.w
theorem allT {α:Type} {t:α→Bool} {l1 l2:List α} {y:α}:(l1++y::l2).any t=(t y || (l1++l2).any t):=by
 simp only[List.any_append,List.any_cons]
 cases l1.any t<;>cases t y<;>rfl
theorem vU {l:List (Nat×Int)} {l1 l2:List (Value×AV)} {y:Value×AV} (h:retE l=l1++y::l2):∃ m1 x m2,l=m1++x::m2∧l1=retE m1∧y=(.int .i64 (x.1:Int),.sc (.int .i64 x.2))∧l2=retE m2:=by
 obtain⟨m1,m2,rfl,e1,e2⟩:=List.map_eq_append_iff.1 h
 obtain⟨x,m3,rfl,e3,e4⟩:=List.map_eq_cons_iff.1 e2
 exact⟨m1,x,m3,rfl,e1.symm,e3.symm,e4.symm⟩
theorem CI (l m:List (Nat×Int)):retE (l++m)=retE l++retE m:=by simp[retE]
theorem AN {x:Nat×Int}:∀ y:Value×AV,some (Value.int .i64 (x.1:Int),AV.sc (.int .i64 x.2))=some y→bQ y.2:=fun y hy=>by injection hy with hy; subst hy; exact .sc _
theorem FI (k:Int) (z:Nat):n8 k (z,13)=true:=by simp[n8]
theorem KR (z:Nat×Int):n8 13 z=true:=by simp[n8]
theorem LB {z:Nat} {v:Int} (h:¬ v=13):n8 14 (z,v)=false:=by simp[n8,h]
def wZ (p:Pg) (ls:List Ln) (s:St) (r d:Nat) (x:Act) (f:List Pl):Fr:=[(1,.sc (.int .i64 (r:Int))),(2,.cptr [cJ p ls s]),(5,.cptr (plR (r,d))),(6,.cptr (aJ x)),(7,.list 2 (j7 f))]
def F8:dB:=aG [1,1,1,1,1,1] F66.code
set_option maxHeartbeats 8000000 in
theorem EH {p:Pg} {ls:List Ln} {s:St} {r d:Nat} (x:Act) (f:List Pl) (hk:x.k=13∨x.k=14) {b:Nat} (hb:x.r=(b:Int)) (hbl:b < ls.length):AWP Tryz.prog F66.n 0 F8 (aW F66.res (.sc (.bool (JI s x)))) (wZ p ls s r d x f) []:=by
 show AWP _ _ _ (.seq _ _) _ _ _
 have hhe:=JN (s:=s) hbl
 unfold JI
 rw[hb,show((b:Int)).toNat=b from rfl]
 generalize hH:dG s b=he at *
 obtain⟨k,xr,a,o,v,w,g⟩:=x
 dsimp only at hk hb
 subst hb
 unfold wZ aJ cJ plR
 dsimp only
 have hno:∀ x:Value×AV,(none:Option (Value×AV))=some x→bQ x.2:=fun _ h=>by cases h
 rcases hk with rfl | rfl
 ·(refine aA ?_; refine DK.nil ⟨by kernel_rfl,?_⟩; refine aA ?_; (refine AWP.loop2 (fun(cur:Option (Value×AV)) (left:List (Nat×Int))=>[(1,.sc (.int .i64 (r:Int))),(2,.cptr [cJ p ls s]),(6,.cptr [.sc (.int .i64 13),.sc (.int .i64 (b:Int)),.sc (.int .i64 a),.sc (.int .i64 o),.sc (.int .i64 v),.sc (.int .i64 w),.list 1 (bE g)]),(69,.ptr 0 0 0 0)]) (fun cur left=>[[.it cur (retE left)]]) (fun cur left=>(∀ x,cur=some x→bQ x.2)∧he.any (n8 13)=left.any (n8 13)) (fun cur left=>left.length) none he ⟨hno,rfl⟩ ?_ ?_; (focus (unfold cJ; (apply Sub.to [] [[(0,8)]]; all_goals (repeat' (first | exact aB.nil | exact aS.nil | exact aY.nil | exact ToL.nil | exact ToR.nil | refine aB.cons ?_ ?_ | refine aS.cons ?_ ?_ | refine dZ ?_ ?_ | exact To.undef _ | exact To.sc _ | exact To.hslL rfl rfl | exact To.asl _ _ _ _ _ _ rfl | exact To.ptrO rfl rfl rfl | exact To.mrefO rfl | exact To.nil rfl rfl rfl | exact wt1 | exact To.nilL | refine To.int ?_ | refine To.bool ?_ | refine To.hslL rfl ?_ | refine wt2 rfl ?_ ?_ ?_ | refine To.tupL ?_ | refine To.aggL ?_ | refine To.cptrL ?_ | refine To.fzp rfl rfl rfl ?_ | refine To.fzm rfl rfl ?_ | refine To.cloL ?_ ?_ | refine wt3 ?_ | refine wt4 ?_ | exact wt5 | refine wt6 ?_ | refine ToB.one ?_ | exact wt7 | ((with_reducible apply ToL.consE); case e9=>rfl) | refine wt8 ?_ | refine ToL.cons ?_ ?_ | exact wt11 | refine wt9 ?_ ?_ | refine dX ?_ | (with_reducible rfl) | assumption)); all_goals (first | rfl | assumption | (simp; done) | (simp; omega) | (rw[wrap_small (by omega) (by omega)]; done) | (rw[wrap_small (by omega) (by omega)]; omega) | (refine congrArg Nat.cast ?_; assumption) | skip)); all_goals (first | exact ToB.dead _ | exact ToB.it _ _ ((inferInstance:PM (retE he)).out) (hno)))); (rintro cur left ⟨hc1,hc2⟩; refine AWP.seq ?_; refine AWP.region ?_; refine Reg.next rfl rfl rfl (fun h=>?_) (fun l1 y l2 h=>?_); (focus (have hl:left=[]:=List.map_eq_nil_iff.1 h; subst hl; rw[hc2]; refine aA ?_; exact aW.w)); (obtain⟨m1,z,m2,rfl,rfl,rfl,rfl⟩:=vU h; rw[← CI]; rw[allT] at hc2; obtain⟨z1,z2⟩:=z; dsimp only at hc2 ⊢; by_cases hz:z2=13; (focus (subst hz; rw[FI,Bool.true_or] at hc2; rw[hc2]; refine bI ?_; refine aA ?_; exact aW.w))))))
  rw[KR,Bool.true_or] at hc2
  rw[hc2]
  refine bI ?_
  refine aA ?_
  rw[show(z2 == 13)=false by simpa using hz]
  refine aA ?_
  exact aW.w
 ·(refine aA ?_; refine DK.nil ⟨by kernel_rfl,?_⟩; refine aA ?_; (refine AWP.loop2 (fun(cur:Option (Value×AV)) (left:List (Nat×Int))=>[(1,.sc (.int .i64 (r:Int))),(2,.cptr [cJ p ls s]),(6,.cptr [.sc (.int .i64 14),.sc (.int .i64 (b:Int)),.sc (.int .i64 a),.sc (.int .i64 o),.sc (.int .i64 v),.sc (.int .i64 w),.list 1 (bE g)]),(69,.ptr 0 0 0 0)]) (fun cur left=>[[.it cur (retE left)]]) (fun cur left=>(∀ x,cur=some x→bQ x.2)∧he.any (n8 14)=left.any (n8 14)) (fun cur left=>left.length) none he ⟨hno,rfl⟩ ?_ ?_; (focus (unfold cJ; (apply Sub.to [] [[(0,8)]]; all_goals (repeat' (first | exact aB.nil | exact aS.nil | exact aY.nil | exact ToL.nil | exact ToR.nil | refine aB.cons ?_ ?_ | refine aS.cons ?_ ?_ | refine dZ ?_ ?_ | exact To.undef _ | exact To.sc _ | exact To.hslL rfl rfl | exact To.asl _ _ _ _ _ _ rfl | exact To.ptrO rfl rfl rfl | exact To.mrefO rfl | exact To.nil rfl rfl rfl | exact wt1 | exact To.nilL | refine To.int ?_ | refine To.bool ?_ | refine To.hslL rfl ?_ | refine wt2 rfl ?_ ?_ ?_ | refine To.tupL ?_ | refine To.aggL ?_ | refine To.cptrL ?_ | refine To.fzp rfl rfl rfl ?_ | refine To.fzm rfl rfl ?_ | refine To.cloL ?_ ?_ | refine wt3 ?_ | refine wt4 ?_ | exact wt5 | refine wt6 ?_ | refine ToB.one ?_ | exact wt7 | ((with_reducible apply ToL.consE); case e9=>rfl) | refine wt8 ?_ | refine ToL.cons ?_ ?_ | exact wt11 | refine wt9 ?_ ?_ | refine dX ?_ | (with_reducible rfl) | assumption)); all_goals (first | rfl | assumption | (simp; done) | (simp; omega) | (rw[wrap_small (by omega) (by omega)]; done) | (rw[wrap_small (by omega) (by omega)]; omega) | (refine congrArg Nat.cast ?_; assumption) | skip)); all_goals (first | exact ToB.dead _ | exact ToB.it _ _ ((inferInstance:PM (retE he)).out) (hno)))); (rintro cur left ⟨hc1,hc2⟩; refine AWP.seq ?_; refine AWP.region ?_; refine Reg.next rfl rfl rfl (fun h=>?_) (fun l1 y l2 h=>?_); (focus (have hl:left=[]:=List.map_eq_nil_iff.1 h; subst hl; rw[hc2]; refine aA ?_; exact aW.w)); (obtain⟨m1,z,m2,rfl,rfl,rfl,rfl⟩:=vU h; rw[← CI]; rw[allT] at hc2; obtain⟨z1,z2⟩:=z; dsimp only at hc2 ⊢; by_cases hz:z2=13; (focus (subst hz; rw[FI,Bool.true_or] at hc2; rw[hc2]; refine bI ?_; refine aA ?_; exact aW.w))))))
  rw[LB hz,Bool.false_or] at hc2
  refine bI ?_
  refine aA ?_
  rw[show(z2 == 13)=false by simpa using hz]
  refine aA ?_
  refine⟨some (.int .i64 (z1:Int),.sc (.int .i64 z2)),m1++m2,⟨AN (x:=(z1,z2)),hc2⟩,by simp,?_⟩
  (apply Sub.to [] [[(0,0)]]; all_goals (repeat' (first | exact aB.nil | exact aS.nil | exact aY.nil | exact ToL.nil | exact ToR.nil | refine aB.cons ?_ ?_ | refine aS.cons ?_ ?_ | refine dZ ?_ ?_ | exact To.undef _ | exact To.sc _ | exact To.hslL rfl rfl | exact To.asl _ _ _ _ _ _ rfl | exact To.ptrO rfl rfl rfl | exact To.mrefO rfl | exact To.nil rfl rfl rfl | exact wt1 | exact To.nilL | refine To.int ?_ | refine To.bool ?_ | refine To.hslL rfl ?_ | refine wt2 rfl ?_ ?_ ?_ | refine To.tupL ?_ | refine To.aggL ?_ | refine To.cptrL ?_ | refine To.fzp rfl rfl rfl ?_ | refine To.fzm rfl rfl ?_ | refine To.cloL ?_ ?_ | refine wt3 ?_ | refine wt4 ?_ | exact wt5 | refine wt6 ?_ | refine ToB.one ?_ | exact wt7 | ((with_reducible apply ToL.consE); case e9=>rfl) | refine wt8 ?_ | refine ToL.cons ?_ ?_ | exact wt11 | refine wt9 ?_ ?_ | refine dX ?_ | (with_reducible rfl) | assumption)); all_goals (first | rfl | assumption | (simp; done) | (simp; omega) | (rw[wrap_small (by omega) (by omega)]; done) | (rw[wrap_small (by omega) (by omega)]; omega) | (refine congrArg Nat.cast ?_; assumption) | skip))
  all_goals (first | exact ToB.dead _ | exact ToB.it _ _ ((inferInstance:PM (retE (m1++m2))).out) (AN (x:=(z1,z2))))
set_option maxHeartbeats 8000000 in
theorem C7 {p:Pg} {ls:List Ln} {s:St} {r d:Nat} (x:Act) (f:List Pl) (hk:x.k=10∨x.k=12) (hf:∀ y∈f,y.1 < ls.length) (hl:f.length≤1000000):AWP Tryz.prog F66.n 0 F8 (aW F66.res (.sc (.bool (!(f.any fun y=>decide (dAt s y.1≤y.2)))))) (wZ p ls s r d x f) []:=by
 show AWP _ _ _ (.seq _ _) _ _ _
 have hny:=EX f 115 [.cptr [cJ p ls s]] (fun y=>decide (dAt s y.1≤y.2)) (fun y hy=>⟨115,_,rfl,HY p ls s (hf y hy)⟩) hl
 generalize f.any (fun y=>decide (dAt s y.1≤y.2))=b at *
 obtain⟨k,xr,a,o,v,w,g⟩:=x
 dsimp only at hk
 unfold wZ aJ plR
 dsimp only
 have hw:PV (cJ p ls s):=inferInstance
 unfold cJ at *
 rcases hk with rfl | rfl
 ·refine aA ?_
  exact aW.w
 ·refine aA ?_
  exact aW.w
set_option maxHeartbeats 8000000 in
theorem B6 {p:Pg} {ls:List Ln} {s:St} {r d:Nat} (x:Act) (f:List Pl) (hk:x.k=8∨x.k=11∨x.k=15∨x.k=16) (hr:r < ls.length) (hq:∀ b,b < ls.length→(aI s b).q.length≤1000000) (hf:∀ y∈f,y.1 < ls.length) (hl:f.length≤1000000):
  AWP Tryz.prog F66.n 0 F8 (aW F66.res (.sc (.bool (pY ls s (r,d) && !(f.any fun y=>yG ls s y))))) (wZ p ls s r d x f) []:=by
 show AWP _ _ _ (.seq _ _) _ _ _
 have hny:=EX f 116 [.cptr [cJ p ls s]] (fun y=>yG ls s y) (fun y hy=>⟨116,_,rfl,KZ p ls s (hf y hy) (hq _ (hf y hy))⟩) hl
 have hcl:=AJ p ls s (j:=d) hr (hq r hr)
 generalize f.any (fun y=>yG ls s y)=b at *
 generalize pY ls s (r,d)=c at *
 obtain⟨k,xr,a,o,v,w,g⟩:=x
 dsimp only at hk
 unfold wZ aJ
 unfold plR at *
 dsimp only at *
 have hw:PV (cJ p ls s):=inferInstance
 unfold cJ at *
 rcases hk with rfl | rfl | rfl | rfl<;>cases c
 ·refine aA ?_
  exact aW.w
 ·refine aA ?_
  exact aW.w
 ·refine aA ?_
  exact aW.w
 ·refine aA ?_
  exact aW.w
 ·refine aA ?_
  exact aW.w
 ·refine aA ?_
  exact aW.w
 ·refine aA ?_
  exact aW.w
 ·refine aA ?_
  exact aW.w
set_option maxHeartbeats 8000000 in
theorem BD {p:Pg} {ls:List Ln} {s:St} {r d:Nat} (x:Act) (f:List Pl) (hk:¬ (x.k=13∨x.k=14)∧¬ (x.k=10∨x.k=12)∧¬ (x.k=8∨x.k=11∨x.k=15∨x.k=16)):AWP Tryz.prog F66.n 0 F8 (aW F66.res (.sc (.bool true))) (wZ p ls s r d x f) []:=by
 show AWP _ _ _ (.seq _ _) _ _ _
 obtain⟨k,xr,a,o,v,w,g⟩:=x
 dsimp only at hk
 unfold wZ aJ plR
 dsimp only
 have q:∀ n:Int,k≠n→(k == n)=false:=fun n h=>by simpa using h
 refine aA ?_
 rw[q 13 (by omega)]
 refine aA ?_
 rw[q 14 (by omega)]
 refine aA ?_
 rw[q 10 (by omega)]
 refine aA ?_
 rw[q 12 (by omega)]
 refine aA ?_
 rw[q 8 (by omega)]
 refine aA ?_
 rw[q 11 (by omega)]
 refine aA ?_
 rw[q 15 (by omega)]
 refine aA ?_
 rw[q 16 (by omega)]
 refine aA ?_
 exact aW.w
set_option maxHeartbeats 8000000 in
theorem NG {p:Pg} {ls:List Ln} {s:St} (hC:d9 p ls) (hp:POK p) (hS:cA p ls s) {r:Nat} (hr:r < ls.length):aD Tryz.prog 66 [cJ p ls s,.sc (.int .i64 (r:Int))] (.sc (.bool (zZ p ls s r))):=by
 have hn:=hC.len
 have hra:=gEg (show r < p.acts.length by omega)
 have hlen:=dP hra
 obtain⟨L,hL,hO⟩:=hC.get hra
 have hqs:∀ b,b < ls.length→(aI s b).q.length≤1000000:=fun b hb=>by
  have h1:=hS.d b hb
  have h2:=hS.q b hb
  have h3:=gEg (show b < p.acts.length by omega)
  obtain⟨L',hL',hO'⟩:=hC.get h3
  have:=hO'.len
  have:=dP h3
  omega
 have hl100:=hO.len
 have hrow:=gX hra
 have hpr:=mK (s:=s) hr
 have hdl:=hS.d r hr
 refine aD.mkI cF66 (nlB rfl) ?_
 unfold zZ dAt
 unfold prV at hpr
 generalize hd:(aI s r).d=d at *
 by_cases h1:d=cI p r
 ·rw[if_pos h1]
  have e2:=fW p.acts[r]
  rw[hlen] at h1
  generalize p.acts[r]=l at *
  unfold cJ ckV
  refine AWP.seq ?_
  refine AWP.region ?_
  refine bI ?_
  refine AWP.seq ?_
  refine AWP.region ?_
  refine bI ?_
  refine aA ?_
  refine DK.nil ⟨by kernel_rfl,?_⟩
  refine aA ?_
  rw[e2]
  refine aA ?_
  rw[dTr h1]
  refine aA ?_
  exact aW.w
 rw[if_neg h1]
 rw[hlen] at h1 hdl
 have hdlt:d < p.acts[r].length:=by omega
 have hx:=gEg hdlt
 have hact:=jX p ls hra hx
 have hpar:=tL hC hp hra hx
 have hpm:=MG (ls:=ls) (r:=r) (i:=d) hC.fok hn (by omega)
 have hpl:=KM (ls:=ls) (r:=r) (i:=d) hC.fok (by omega)
 have hap:=jL hra hx
 have hok:=hO.act _ _ hx
 rw[hap]
 have e2:=fW p.acts[r]
 generalize p.acts[r]=l at *
 generalize l[d]=x at *
 generalize jY p ls r d=fn at *
 obtain⟨f,need⟩:=fn
 dsimp only at *
 have e3:=fQ f
 have hsw:need≤f.length→AWP Tryz.prog F66.n 0 F8 (aW F66.res (.sc (.bool (LW ls s r x f)))) (wZ p ls s r d x f) []:=fun _=>by
  unfold LW dAt
  rw[hd]
  by_cases k1:x.k=13∨x.k=14
  ·rw[if_pos k1]
   have hrk:=hok.rank (by unfold eW; simp; omega)
   exact EH x f k1 (b:=x.r.toNat) (by omega) (by omega)
  rw[if_neg k1]
  by_cases k2:x.k=10∨x.k=12
  ·rw[if_pos k2]
   exact C7 x f k2 (fun y hy=>(hpm y hy).1) hpl
  rw[if_neg k2]
  by_cases k3:x.k=8∨x.k=11∨x.k=15∨x.k=16
  ·rw[if_pos k3]
   exact B6 x f k3 hr hqs (fun y hy=>(hpm y hy).1) hpl
  rw[if_neg k3]
  exact BD x f ⟨k1,k2,k3⟩
 generalize LW ls s r x f=res at *
 unfold cJ ckV plN at *
 unfold wZ F8 cJ ckV plR at hsw
 unfold aJ at *
 dsimp only at hsw
 refine AWP.seq ?_
 refine AWP.region ?_
 refine bI ?_
 refine AWP.seq ?_
 refine AWP.region ?_
 refine bI ?_
 refine aA ?_
 refine DK.nil ⟨by kernel_rfl,?_⟩
 refine aA ?_
 rw[e2]
 refine aA ?_
 rw[dFa (by omega)]
 refine aA ?_
 refine DK.nil ⟨by kernel_rfl,?_⟩
 refine aA ?_
 refine DK.nil ⟨by kernel_rfl,?_⟩
 refine aA ?_
 rw[e3]
 refine bI ?_
 by_cases h5:f.length < need
 ·rw[if_pos h5,dTr h5]
  refine aA ?_
  exact aW.w
 ·rw[if_neg h5,dFa h5]
  refine bI ?_
  refine AWP.condF rfl ?_
  refine AWP.skip ?_
  refine AWP.sub ?_ (hsw (by omega))
  exact Sub.w [] []
def o4 (i:Nat) (v:Int):List (Nat×Int)→List (Nat×Int)
 | []=>[(i,v)]
 | (j,w)::r=>if i=j then(j,v)::r else(j,w)::o4 i v r
def qV (i:Nat):List (Nat×Int)→List (Nat×Int)
 | []=>[]
 | (j,w)::r=>if i=j then r else(j,w)::qV i r
theorem B5 {i:Nat} {v:Int}:∀ {l:List (Nat×Int)},cS i l=none→retE (o4 i v l)=retE l++[(.int .i64 (i:Int),.sc (.int .i64 v))]
 | [],_=>rfl
 | (j,w)::r,h=>by
  rw[cS] at h
  split at h
  ·cases h
  ·rename_i h1
   rw[o4,if_neg h1]
   show _::retE _=_
   rw[B5 h]
   rfl
theorem CJ {i:Nat} {v w:Int}:∀ {l:List (Nat×Int)},cS i l=some w→retE (o4 i v l)=xA (i:Int) (.sc (.int .i64 v)) (retE l)
 | [],h=>by cases h
 | (j,u)::r,h=>by
  rw[cS] at h
  rw[o4]
  show _=xA (i:Int) _ ((.int .i64 (j:Int),.sc (.int .i64 u))::retE r)
  rw[xA]
  split at h
  ·rename_i h1
   rw[if_pos h1,dTr (show(i:Int)=(j:Int) by omega)]
   rfl
  ·rename_i h1
   rw[if_neg h1,dFa (show¬ (i:Int)=(j:Int) by omega)]
   show _::retE _=_
   rw[CJ h]
theorem yD {i:Nat}:∀ {l:List (Nat×Int)},retE (qV i l)=nD (i:Int) (retE l)
 | []=>rfl
 | (j,u)::r=>by
  rw[qV]
  show _=nD (i:Int) ((.int .i64 (j:Int),.sc (.int .i64 u))::retE r)
  rw[nD]
  by_cases h1:i=j
  ·rw[if_pos h1,dTr (show(i:Int)=(j:Int) by omega)]
  ·rw[if_neg h1,dFa (show¬ (i:Int)=(j:Int) by omega)]
   show _::retE _=_
   rw[yD]
theorem oL {g i g' i' r:Nat} {fr:Fr} {H:Heap} {m ix x:Operand} {v:Int} {l:List (Nat×Int)} (hx:ev fr m=.mref g' i') (hi:ev fr ix=.sc (.int .i64 (r:Int))) (hv:ev fr x=.sc (.int .i64 v)) (hh:hget H g' i'=some (.map (retE l))):
  aH g i (.mapUpdate .i64 m ix x) fr H=some (.undef,bH H g' i' (.map (retE (o4 r v l)))):=by
 have hm:=sR r l
 cases h:cS r l with
 | none=>
  rw[h] at hm
  rw[B5 h]
  exact iZ hx hi hv hh hm
 | some w=>
  rw[h] at hm
  rw[CJ h]
  exact DP hx hi hv hh hm
theorem DZ {g i g' i' r:Nat} {fr:Fr} {H:Heap} {m ix:Operand} {l:List (Nat×Int)} (hx:ev fr m=.mref g' i') (hi:ev fr ix=.sc (.int .i64 (r:Int))) (hh:hget H g' i'=some (.map (retE l))):
  aH g i (.mop (.del .i64) [m,ix]) fr H=some (.tup [],bH H g' i' (.map (retE (qV r l)))):=by
 rw[yD]
 exact C9 hx hi hh (sR r l)
def toU (v:Int):Nat:=(v % 18446744073709551616).toNat
def toS (n:Nat):Int:=if n % 18446744073709551616 < 9223372036854775808 then((n % 18446744073709551616:Nat):Int) else((n % 18446744073709551616:Nat):Int) - 18446744073709551616
def jO (x:Nat):Nat:=(6364136223846793005 * x+1442695040888963407) % 18446744073709551616
def o6 (x n:Nat):Nat:=x / 8589934592 % n
def fS (x:Act) (v:Int):Int:=
 if x.k=1∨x.k=7 then x.v
 else if x.k=3∨x.k=4 then toS (opI x.o (toU v) (toU x.v))
 else if x.k=5 then if v=x.w then x.v else v
 else v
def setP (s:St) (r:Nat) (x:Pr):St:={ s with ps:=s.ps.set r x }
def setM (s:St) (b:Nat) (m:List Int):St:={ s with mem:=s.mem.set b m }
def setL (s:St) (b:Nat) (h:List (Nat×Int)):St:={ s with held:=s.held.set b h }
def kP (p:Pg) (ls:List Ln) (s:St) (x:Pl):St:=
 let a:=jS p x
 let b:=(acN ls x).r.toNat
 let c:=(acN ls x).a.toNat
 let v:=(bC s b).getD c 0
 let s1:=if lV a.k=true then setP s x.1 { aI s x.1 with g:=o4 x.2 v (aI s x.1).g } else s
 setM s1 b ((bC s b).set c (fS a v))
def qQ (p:Pg) (ls:List Ln) (s:St) (r:Nat):St:=
 let x:=aI s r
 let a:=jS p (r,x.d)
 if dW a.k=true then setP s r { x with d:=x.d+1,q:=x.q++[x.d] }
 else
  let s1:=setP s r { x with d:=x.d+1 }
  if a.k=6∨a.k=7 then kP p ls s1 (r,x.d)
  else if a.k=13∨a.k=14 then setL s1 a.r.toNat (o4 r a.k (dG s a.r.toNat))
  else if a.k=16 then setL s1 a.r.toNat (qV r (dG s a.r.toNat))
  else s1
def BV (p:Pg) (ls:List Ln) (s:St) (r k i:Nat):St:=
 kP p ls (setP s r { aI s r with q:=(aI s r).q.eraseIdx k }) (r,i)
inductive Cd where
 | act (r:Nat)
 | take (r k i:Nat)
 deriving DecidableEq
def doP (p:Pg) (ls:List Ln) (s:St):Cd→St
 | .act r=>qQ p ls s r
 | .take r k i=>BV p ls s r k i
abbrev CS:=List (Int×Int)×List Cd
def yC (p:Pg) (ls:List Ln) (r i:Nat):Bool×(Int×Int):=(gS (jS p (r,i)).k,((acN ls (r,i)).r,(acN ls (r,i)).a))
def iJ (p:Pg) (ls:List Ln) (r:Nat) (q:List Nat) (s:CS) (k:Nat):CS:=
 if (yC p ls r (q.getD k 0)).1=true then
  if (yC p ls r (q.getD k 0)).2∈s.1 then s else(s.1++[(yC p ls r (q.getD k 0)).2],s.2++[.take r k (q.getD k 0)])
 else(s.1,s.2++[.take r k (q.getD k 0)])
def KO (p:Pg) (ls:List Ln) (s:St) (out:List Cd) (r:Nat):List Cd:=((List.range (aI s r).q.length).foldl (iJ p ls r (aI s r).q) ([],out)).2
def NA (p:Pg) (ls:List Ln) (s:St) (out:List Cd) (r:Nat):List Cd:=if zZ p ls s r=true then out++[.act r] else out
def eK (p:Pg) (ls:List Ln) (s:St):List Cd:=(List.range ls.length).foldl (KO p ls s) ((List.range ls.length).foldl (NA p ls s) [])
def stepS (p:Pg) (ls:List Ln) (s:St):Option St:=
 match eK p ls s with
 | []=>none
 | c::l=>some (doP p ls { s with seed:=jO s.seed } ((c::l).getD (o6 (jO s.seed) (l.length+1)) c))
def AP (p:Pg) (ls:List Ln):Nat→St→St
 | 0,s=>s
 | f+1,s=>match stepS p ls s with
  | none=>s
  | some s'=>AP p ls f s'
def wKg (n:Nat) (l4:FK) (es:List (List (Nat×Nat))):List FK:=
 .c [(0,0)]::.c [(1,0)]::.c [(2,0)]::.c [(3,0)]::l4::.w 5 n []::.w 6 n []::.w 7 n []::es.map FK.c
theorem idK_c (es:List (List (Nat×Nat))):idK (es.map FK.c)=es:=by
 unfold idK
 rw[List.map_map]
 exact List.map_id _
section
variable {T:AV→AV→Prop} {ρ:Nat→Nat→Option (Nat×Nat)}
theorem ToB.boxW {p:Pg} {ls:List Ln} {seed:Nat} (r1:ρ 1 0=some (1,0)) (r2:ρ 2 0=some (2,0)) (r3:ρ 3 0=some (3,0)):ToB T ρ (.cells 5 [boxW p ls seed]) (.cells 5 [boxW p ls seed]):=
 ToB.one (ToL.cons (.pure (pv (ckV p ls))) (ToL.cons (.sc _) (ToL.cons (To.hslL r1 rfl) (ToL.cons (To.hslL r2 rfl) (ToL.cons (To.hslL r3 rfl) ToL.nil)))))
theorem ToB.procsH {n:Nat} {s:St} {b b':Nat→Nat×Nat} (r4:∀ r,r < n→ρ (b' r).1 (b' r).2=some (b r)) (r5:∀ r,r < n→ρ 5 r=some (5,r)):ToB T ρ (.cells 3 (procsH n s b)) (.cells 3 (YtkjoolaahocgdaaGreat.procsH n s b')):=by
 refine ToB.rowsR (ToR.map fun r hr=>?_)
 have hr:=List.mem_range.1 hr
 exact ToL.cons (.sc _) (ToL.cons (To.hslL (r4 r hr) rfl) (ToL.cons (To.mrefO (r5 r hr)) ToL.nil))
theorem ToB.memH {n:Nat} {s:St} (r6:∀ r,r < n→ρ 6 r=some (6,r)):ToB T ρ (.cells 1 (memH n s)) (.cells 1 (YtkjoolaahocgdaaGreat.memH n s)):=ToB.row1 fun r hr=>To.hslL (r6 r hr) rfl
theorem ToB.heldH {n:Nat} (r7:∀ r,r < n→ρ 7 r=some (7,r)):ToB T ρ (.cells 1 (heldH n)) (.cells 1 (YtkjoolaahocgdaaGreat.heldH n)):=ToB.row1 fun r hr=>To.mrefO (r7 r hr)
theorem ToB.retE (l:List (Nat×Int)):ToB T ρ (.map (retE l)) (.map (YtkjoolaahocgdaaGreat.retE l)):=by
 refine .map _ _ rfl (fun j x y a b=>by rw[a] at b; injection b with b; rw[b]) fun j x y a b=>?_
 rw[a] at b
 injection b with b
 subst b
 obtain⟨z,_,rfl⟩:=List.mem_map.1 (List.mem_of_getElem? a)
 exact .sc _
theorem zT {p:Pg} {ls:List Ln} {s:St} {b b':Nat→Nat×Nat} {F4:List Blk} {l4:FK} {es:List (List (Nat×Nat))} {H Y:Heap} (hρ:ρ=rho (idK (wKg ls.length l4 es)))
  (h0:hget H 0 0=some (.cells 5 [boxW p ls s.seed])) (h1:hget H 1 0=some (.cells 3 (procsH ls.length s b))) (h2:hget H 2 0=some (.cells 1 (memH ls.length s))) (h3:hget H 3 0=some (.cells 1 (heldH ls.length)))
  (h4:aY (ToB T ρ) H l4.l F4) (h5:∀ r,r < ls.length→hget H 5 r=some (.map (retE (aI s r).g)))
  (h6:∀ r,r < ls.length→hget H 6 r=some (.cells 1 (bE (bC s r)))) (h7:∀ r,r < ls.length→hget H 7 r=some (.map (retE (dG s r))))
  (r4:∀ r,r < ls.length→ρ (b' r).1 (b' r).2=some (b r)) (hY:aS (ToB T ρ) H es Y):
  aS (ToB T ρ) H (idK (wKg ls.length l4 es)) (aZ p ls s b' F4++Y):=by
 subst hρ
 have q5:∀ r,r < ls.length→rho (idK (wKg ls.length l4 es)) 5 r=some (5,r):=fun r hr=>c9 rfl hr
 have q6:∀ r,r < ls.length→rho (idK (wKg ls.length l4 es)) 6 r=some (6,r):=fun r hr=>c9 rfl hr
 have q7:∀ r,r < ls.length→rho (idK (wKg ls.length l4 es)) 7 r=some (7,r):=fun r hr=>c9 rfl hr
 have e:idK (es.map FK.c)=es:=idK_c es
 refine⟨⟨⟨_,h0,ToB.boxW rfl rfl rfl⟩,trivial⟩,⟨⟨_,h1,ToB.procsH r4 q5⟩,trivial⟩,⟨⟨_,h2,ToB.memH q6⟩,trivial⟩,⟨⟨_,h3,ToB.heldH q7⟩,trivial⟩,h4,?_,?_,?_,?_⟩
 ·exact aY.ofFam fun i hi=>⟨_,h5 i hi,ToB.retE _⟩
 ·exact aY.ofFam fun i hi=>⟨_,h6 i hi,ToB.rows rfl (prs _)⟩
 ·exact aY.ofFam fun i hi=>⟨_,h7 i hi,ToB.retE _⟩
 ·show aS _ _ (idK (es.map FK.c)) Y
  rw[e]
  exact hY
end
theorem IU {k n:Nat} {ps:List (Nat×Nat)} {es:List (List (Nat×Nat))} {x0 x1 x2 x3:Blk} {b4 b5 b6 b7:List Blk} {X:Heap} (h4:b4.length=n) (h5:b5.length=n) (h6:b6.length=n) (h7:b7.length=n) (hk:k≤8):
  sT 0 k (wKg n (.w 4 n ps) es) ([x0]::[x1]::[x2]::[x3]::b4::b5::b6::b7::X):=by
 have key:sT 0 8 (wKg n (.w 4 n ps) es) ([x0]::[x1]::[x2]::[x3]::b4::b5::b6::b7::X):=
  ⟨.c _ rfl rfl,.c _ rfl rfl,.c _ rfl rfl,.c _ rfl rfl,.w _ _ (Nat.le_of_eq h4),.w _ _ (Nat.le_of_eq h5),.w _ _ (Nat.le_of_eq h6),.w _ _ (Nat.le_of_eq h7),trivial⟩
 have mono:∀(a j:Nat) (b:Nat) (ks:List FK) (H:Heap),a≤b→sT j b ks H→sT j a ks H:=by
  intro a
  induction a with
  | zero=>intro j b ks H _ _; cases ks<;>cases H<;>exact trivial
  | succ a ih=>
   intro j b ks H hab h
   cases b with
   | zero=>omega
   | succ b=>
    cases ks with
    | nil=>exact h.elim
    | cons f r=>
     cases H with
     | nil=>exact h.elim
     | cons F H=>exact⟨h.1,ih (j+1) b r H (by omega) h.2⟩
 exact mono k 0 8 _ _ hk key
theorem wA {k:Nat} {rs:List nI} {fr:Fr} {e:Exit} {R:AV→Heap→Prop} {res:AV} (res':AV) (p:Pg) (ls:List Ln) (s:St) (b b':Nat→Nat×Nat) (F4:List Blk) (ps:List (Nat×Nat)) (es:List (List (Nat×Nat))) (Y:Heap) {b0 b1 b2 b3 b4 b5 b6 b7:List Blk} {X:Heap}
  (hR:R res' (aZ p ls s b' F4++Y))
  (e0:b0=[.cells 5 [boxW p ls s.seed]]) (e1:b1=[.cells 3 (procsH ls.length s b)]) (e2:b2=[.cells 1 (memH ls.length s)]) (e3:b3=[.cells 1 (heldH ls.length)])
  (e5:b5=iB ls.length s) (e6:b6=jV ls.length s) (e7:b7=fP ls.length s)
  (h4:aY (ToB (ToT ((b0::b1::b2::b3::b4::b5::b6::b7::X)++gh []) (b0::b1::b2::b3::b4::b5::b6::b7::X).length (fG (wKg ls.length (.w 4 ls.length ps) es))) (rho (idK (wKg ls.length (.w 4 ls.length ps) es)))) ((b0::b1::b2::b3::b4::b5::b6::b7::X)++gh []) (FK.w 4 ls.length ps).l F4)
  (r4:∀ r,r < ls.length→rho (idK (wKg ls.length (.w 4 ls.length ps) es)) (b' r).1 (b' r).2=some (b r))
  (hY:aS (ToB (ToT ((b0::b1::b2::b3::b4::b5::b6::b7::X)++gh []) (b0::b1::b2::b3::b4::b5::b6::b7::X).length (fG (wKg ls.length (.w 4 ls.length ps) es))) (rho (idK (wKg ls.length (.w 4 ls.length ps) es)))) ((b0::b1::b2::b3::b4::b5::b6::b7::X)++gh []) es Y)
  (hlow:sT 0 k (wKg ls.length (.w 4 ls.length ps) es) ((b0::b1::b2::b3::b4::b5::b6::b7::X)++gh [])) (he:e=.normal∨e=.ret:=by first | exact .inr rfl | exact .inl rfl) (hres:hN fr (b0::b1::b2::b3::b4::b5::b6::b7::X) rs=some res:=by rfl)
  (hr:To (ToT ((b0::b1::b2::b3::b4::b5::b6::b7::X)++gh []) (b0::b1::b2::b3::b4::b5::b6::b7::X).length (fG (wKg ls.length (.w 4 ls.length ps) es))) (rho (idK (wKg ls.length (.w 4 ls.length ps) es))) res res':=by(all_goals exact eP))
  (hok:okK (wKg ls.length (.w 4 ls.length ps) es)=true:=by rfl):
  (e=.normal∨e=.ret)∧∃ res res' H2,hN fr (b0::b1::b2::b3::b4::b5::b6::b7::X) rs=some res∧gY k (b0::b1::b2::b3::b4::b5::b6::b7::X) res H2 res'∧R res' H2:=by
 subst e0 e1 e2 e3 e5 e6 e7
 refine endKs (wKg ls.length (.w 4 ls.length ps) es) hR he hres hr (zT rfl rfl rfl rfl rfl h4 (fun r hr=>aO hr) (fun r hr=>aO hr) (fun r hr=>aO hr) r4 hY) hlow hok
theorem Sub.wgL {k N:Nat} {fr fr':Fr} (p:Pg) (ls:List Ln) (s:St) (b b':Nat→Nat×Nat) (F4:List Blk) (szs:List Nat) (ps:List (Nat×Nat)) (es:List (List (Nat×Nat))) (Y:Heap) {b0 b1 b2 b3 b4 b5 b6 b7:List Blk} {X:Heap}
  (h5:aB (ToT ((b0::b1::b2::b3::b4::b5::b6::b7::X)++gh szs) (b0::b1::b2::b3::b4::b5::b6::b7::X).length (fG (wKg ls.length (.w 4 ls.length ps) es))) (rho (idK (wKg ls.length (.w 4 ls.length ps) es))) fr fr')
  (e0:b0=[.cells 5 [boxW p ls s.seed]]) (e1:b1=[.cells 3 (procsH ls.length s b)]) (e2:b2=[.cells 1 (memH ls.length s)]) (e3:b3=[.cells 1 (heldH ls.length)])
  (e5:b5=iB ls.length s) (e6:b6=jV ls.length s) (e7:b7=fP ls.length s)
  (h4:aY (ToB (ToT ((b0::b1::b2::b3::b4::b5::b6::b7::X)++gh szs) (b0::b1::b2::b3::b4::b5::b6::b7::X).length (fG (wKg ls.length (.w 4 ls.length ps) es))) (rho (idK (wKg ls.length (.w 4 ls.length ps) es)))) ((b0::b1::b2::b3::b4::b5::b6::b7::X)++gh szs) (FK.w 4 ls.length ps).l F4)
  (r4:∀ r,r < ls.length→rho (idK (wKg ls.length (.w 4 ls.length ps) es)) (b' r).1 (b' r).2=some (b r))
  (hY:aS (ToB (ToT ((b0::b1::b2::b3::b4::b5::b6::b7::X)++gh szs) (b0::b1::b2::b3::b4::b5::b6::b7::X).length (fG (wKg ls.length (.w 4 ls.length ps) es))) (rho (idK (wKg ls.length (.w 4 ls.length ps) es)))) ((b0::b1::b2::b3::b4::b5::b6::b7::X)++gh szs) es Y)
  (hlow:sT 0 k (wKg ls.length (.w 4 ls.length ps) es) ((b0::b1::b2::b3::b4::b5::b6::b7::X)++gh szs)) 
  (hok:okK (wKg ls.length (.w 4 ls.length ps) es)=true:=by rfl):
  Sub k N fr (b0::b1::b2::b3::b4::b5::b6::b7::X) fr' (aZ p ls s b' F4++Y):=by
 subst e0 e1 e2 e3 e5 e6 e7
 have hg:∀ {g i:Nat} {H G:Heap} {x:Blk},hget H g i=some x→hget (H++G) g i=some x:=fun h=>aV h
 refine Sub.toK szs (wKg ls.length (.w 4 ls.length ps) es) h5 (zT rfl rfl rfl rfl rfl h4 (fun r hr=>aO hr) (fun r hr=>aO hr) (fun r hr=>aO hr) r4 hY) hlow hok
theorem JM {k:Nat} {rs:List nI} {fr:Fr} {e:Exit} {R:AV→Heap→Prop} {res:AV} (res':AV) (p:Pg) (ls:List Ln) (s:St) (b b':Nat→Nat×Nat) (F4:List Blk) (ps:List (Nat×Nat)) (es:List (List (Nat×Nat))) (Y:Heap) {b0 b1 b2 b3 b4 b5 b6 b7:List Blk} {X:Heap}
  (hR:R res' (aZ p ls s b' F4++Y))
  (e0:b0=[.cells 5 [boxW p ls s.seed]]) (e1:b1=[.cells 3 (procsH ls.length s b)]) (e2:b2=[.cells 1 (memH ls.length s)]) (e3:b3=[.cells 1 (heldH ls.length)]) (e4:b4.length=ls.length)
  (e5:b5=iB ls.length s) (e6:b6=jV ls.length s) (e7:b7=fP ls.length s)
  (h4:aY (ToB (ToT ((b0::b1::b2::b3::b4::b5::b6::b7::X)++gh []) (b0::b1::b2::b3::b4::b5::b6::b7::X).length (fG (wKg ls.length (.w 4 ls.length ps) es))) (rho (idK (wKg ls.length (.w 4 ls.length ps) es)))) ((b0::b1::b2::b3::b4::b5::b6::b7::X)++gh []) (FK.w 4 ls.length ps).l F4)
  (r4:∀ r,r < ls.length→rho (idK (wKg ls.length (.w 4 ls.length ps) es)) (b' r).1 (b' r).2=some (b r))
  (hY:aS (ToB (ToT ((b0::b1::b2::b3::b4::b5::b6::b7::X)++gh []) (b0::b1::b2::b3::b4::b5::b6::b7::X).length (fG (wKg ls.length (.w 4 ls.length ps) es))) (rho (idK (wKg ls.length (.w 4 ls.length ps) es)))) ((b0::b1::b2::b3::b4::b5::b6::b7::X)++gh []) es Y)
  (hk:k≤8:=by exact nlB rfl) (he:e=.normal∨e=.ret:=by first | exact .inr rfl | exact .inl rfl) (hres:hN fr (b0::b1::b2::b3::b4::b5::b6::b7::X) rs=some res:=by rfl)
  (hr:To (ToT ((b0::b1::b2::b3::b4::b5::b6::b7::X)++gh []) (b0::b1::b2::b3::b4::b5::b6::b7::X).length (fG (wKg ls.length (.w 4 ls.length ps) es))) (rho (idK (wKg ls.length (.w 4 ls.length ps) es))) res res':=by(all_goals exact eP))
  (hok:okK (wKg ls.length (.w 4 ls.length ps) es)=true:=by rfl):
  (e=.normal∨e=.ret)∧∃ res res' H2,hN fr (b0::b1::b2::b3::b4::b5::b6::b7::X) rs=some res∧gY k (b0::b1::b2::b3::b4::b5::b6::b7::X) res H2 res'∧R res' H2:=
 wA res' p ls s b b' F4 ps es Y hR e0 e1 e2 e3 e5 e6 e7 h4 r4 hY (by subst e0 e1 e2 e3; exact IU e4 (by rw[e5]; exact aM _ _) (by rw[e6]; exact aM _ _) (by rw[e7]; exact aM _ _) hk) he hres hr hok
theorem Sub.wg {k N:Nat} {fr fr':Fr} (p:Pg) (ls:List Ln) (s:St) (b b':Nat→Nat×Nat) (F4:List Blk) (szs:List Nat) (ps:List (Nat×Nat)) (es:List (List (Nat×Nat))) (Y:Heap) {b0 b1 b2 b3 b4 b5 b6 b7:List Blk} {X:Heap}
  (h5:aB (ToT ((b0::b1::b2::b3::b4::b5::b6::b7::X)++gh szs) (b0::b1::b2::b3::b4::b5::b6::b7::X).length (fG (wKg ls.length (.w 4 ls.length ps) es))) (rho (idK (wKg ls.length (.w 4 ls.length ps) es))) fr fr')
  (e0:b0=[.cells 5 [boxW p ls s.seed]]) (e1:b1=[.cells 3 (procsH ls.length s b)]) (e2:b2=[.cells 1 (memH ls.length s)]) (e3:b3=[.cells 1 (heldH ls.length)]) (e4:b4.length=ls.length)
  (e5:b5=iB ls.length s) (e6:b6=jV ls.length s) (e7:b7=fP ls.length s)
  (h4:aY (ToB (ToT ((b0::b1::b2::b3::b4::b5::b6::b7::X)++gh szs) (b0::b1::b2::b3::b4::b5::b6::b7::X).length (fG (wKg ls.length (.w 4 ls.length ps) es))) (rho (idK (wKg ls.length (.w 4 ls.length ps) es)))) ((b0::b1::b2::b3::b4::b5::b6::b7::X)++gh szs) (FK.w 4 ls.length ps).l F4)
  (r4:∀ r,r < ls.length→rho (idK (wKg ls.length (.w 4 ls.length ps) es)) (b' r).1 (b' r).2=some (b r))
  (hY:aS (ToB (ToT ((b0::b1::b2::b3::b4::b5::b6::b7::X)++gh szs) (b0::b1::b2::b3::b4::b5::b6::b7::X).length (fG (wKg ls.length (.w 4 ls.length ps) es))) (rho (idK (wKg ls.length (.w 4 ls.length ps) es)))) ((b0::b1::b2::b3::b4::b5::b6::b7::X)++gh szs) es Y)
  (hk:k≤8:=by exact nlB rfl) 
  (hok:okK (wKg ls.length (.w 4 ls.length ps) es)=true:=by rfl):
  Sub k N fr (b0::b1::b2::b3::b4::b5::b6::b7::X) fr' (aZ p ls s b' F4++Y):=
 Sub.wgL p ls s b b' F4 szs ps es Y h5 e0 e1 e2 e3 e5 e6 e7 h4 r4 hY (by subst e0 e1 e2 e3; exact IU e4 (by rw[e5]; exact aM _ _) (by rw[e6]; exact aM _ _) (by rw[e7]; exact aM _ _) hk) hok
theorem bO {T:AV→AV→Prop} {ρ:Nat→Nat→Option (Nat×Nat)} {n:Nat} {s:St} {H:Heap} (h:∀ r,r < n→hget H 4 r=some (.cells 1 (bF (aI s r).q))):aY (ToB T ρ) H (FK.w 4 n []).l (cC n s):=
 aY.ofFam fun i hi=>⟨_,h i hi,ToB.rows rfl (prs _)⟩
theorem dF {n:Nat} {ps:List (Nat×Nat)} {es:List (List (Nat×Nat))}:∀ r,r < n→rho (idK (wKg n (.w 4 n ps) es)) (b4 r).1 (b4 r).2=some (b4 r):=fun _ hr=>c9 rfl hr
theorem Ren.selfW {ρ:Nat→Nat→Option (Nat×Nat)} {xs:List AV} (h:∀ x∈xs,Ren ρ x x):∀(j:Nat) x y,xs[j]?=some x→xs[j]?=some y→Ren ρ x y:=fun j x y a b=>by
 rw[a] at b
 injection b with b
 subst b
 exact h x (List.mem_of_getElem? a)
theorem dC.selfW {ρ:Nat→Nat→Option (Nat×Nat)} {sz:Nat} {rows:List (List AV)} (h:∀ r∈rows,∀ c∈r,Ren ρ c c):dC ρ (.cells sz rows) (.cells sz rows):=
 .cells _ _ _ rfl (fun i r r' a b=>by rw[a] at b; injection b with b; subst b; rfl) fun i r r' j x y a b c d=>by
  rw[a] at b
  injection b with b
  subst b
  exact Ren.selfW (h r (List.mem_of_getElem? a)) j x y c d
theorem dC.mapW {ρ:Nat→Nat→Option (Nat×Nat)} (l:List (Nat×Int)):dC ρ (.map (retE l)) (.map (retE l)):=by
 refine .map _ _ rfl (fun j x y a b=>by rw[a] at b; injection b with b; rw[b]) fun j x y a b=>?_
 rw[a] at b
 injection b with b
 subst b
 obtain⟨z,_,rfl⟩:=List.mem_map.1 (List.mem_of_getElem? a)
 exact .sc _
theorem gN {n:Nat} {f f':Nat→Blk} (i:Nat):((fam n f)[i]?).isSome=((fam n f')[i]?).isSome:=by
 simp[fam]
theorem fC (p:Pg) (ls:List Ln) (s s':St):wQ (worldH p ls s) (worldH p ls s'):=by
 have hd:∀ g i,(hget (worldH p ls s') g i).isSome=(hget (worldH p ls s) g i).isSome:=fun g i=>by
  match g,i with
  | 0,0=>rfl
  | 0,i+1=>rfl
  | 1,0=>rfl
  | 1,i+1=>rfl
  | 2,0=>rfl
  | 2,i+1=>rfl
  | 3,0=>rfl
  | 3,i+1=>rfl
  | 4,i=>exact gN i
  | 5,i=>exact gN i
  | 6,i=>exact gN i
  | 7,i=>exact gN i
  | g+8,i=>rfl
 have hi:∀(g i:Nat),(hget (worldH p ls s) g i).isSome=true→idH (worldH p ls s) g i=some (g,i):=fun g i h=>jQ h
 have h4:∀ i,i < ls.length→idH (worldH p ls s) 4 i=some (4,i):=fun i h=>hi 4 i (by show((cC ls.length s)[i]?).isSome=true; unfold cC; rw[aO h]; rfl)
 have h5:∀ i,i < ls.length→idH (worldH p ls s) 5 i=some (5,i):=fun i h=>hi 5 i (by show((iB ls.length s)[i]?).isSome=true; unfold iB; rw[aO h]; rfl)
 have h6:∀ i,i < ls.length→idH (worldH p ls s) 6 i=some (6,i):=fun i h=>hi 6 i (by show((jV ls.length s)[i]?).isSome=true; unfold jV; rw[aO h]; rfl)
 have h7:∀ i,i < ls.length→idH (worldH p ls s) 7 i=some (7,i):=fun i h=>hi 7 i (by show((fP ls.length s)[i]?).isSome=true; unfold fP; rw[aO h]; rfl)
 refine⟨rfl,hd,fun g i x hx=>?_⟩
 match g,i,hx with
 | 0,0,hx=>
  injection hx with hx
  subst hx
  refine⟨rfl,dC.selfW fun r hr c hc=>?_⟩
  rw[List.mem_singleton.1 hr] at hc
  unfold boxW at hc
  simp only[List.mem_cons,List.not_mem_nil,or_false] at hc
  rcases hc with rfl | rfl | rfl | rfl | rfl
  ·exact .pure (pv _)
  ·exact .sc _
  ·exact .hsl _ _ _ _ _ _ rfl
  ·exact .hsl _ _ _ _ _ _ rfl
  ·exact .hsl _ _ _ _ _ _ rfl
 | 1,0,hx=>
  injection hx with hx
  subst hx
  refine⟨rfl,dC.selfW fun r hr c hc=>?_⟩
  obtain⟨j,hj,rfl⟩:=List.mem_map.1 hr
  have hj:=List.mem_range.1 hj
  simp only[List.mem_cons,List.not_mem_nil,or_false] at hc
  rcases hc with rfl | rfl | rfl
  ·exact .sc _
  ·exact .hsl _ _ _ _ _ _ (h4 j hj)
  ·exact .mref _ _ _ _ (h5 j hj)
 | 2,0,hx=>
  injection hx with hx
  subst hx
  refine⟨rfl,dC.row1 fun j hj=>.hsl _ _ _ _ _ _ (h6 j hj)⟩
 | 3,0,hx=>
  injection hx with hx
  subst hx
  refine⟨rfl,dC.row1 fun j hj=>.mref _ _ _ _ (h7 j hj)⟩
 | 4,i,hx=>
  have hx:(cC ls.length s')[i]?=some x:=hx
  obtain⟨_,rfl⟩:=iC hx
  exact⟨rfl,dC.rows rfl (prs _)⟩
 | 5,i,hx=>
  have hx:(iB ls.length s')[i]?=some x:=hx
  obtain⟨_,rfl⟩:=iC hx
  exact⟨rfl,dC.mapW _⟩
 | 6,i,hx=>
  have hx:(jV ls.length s')[i]?=some x:=hx
  obtain⟨_,rfl⟩:=iC hx
  exact⟨rfl,dC.rows rfl (prs _)⟩
 | 7,i,hx=>
  have hx:(fP ls.length s')[i]?=some x:=hx
  obtain⟨_,rfl⟩:=iC hx
  exact⟨rfl,dC.mapW _⟩
 | 0,i+1,hx=>cases hx
 | 1,i+1,hx=>cases hx
 | 2,i+1,hx=>cases hx
 | 3,i+1,hx=>cases hx
 | g+8,i,hx=>cases hx
theorem eD {s:St} {r:Nat} {x:Pr} (h:r < s.ps.length) (j:Nat):aI (setP s r x) j=if j=r then x else aI s j:=by
 unfold aI setP
 simp only[List.getElem?_set]
 by_cases e:r=j
 ·subst e
  rw[if_pos rfl,if_pos h,if_pos rfl]
  rfl
 ·rw[if_neg e,if_neg (fun q=>e q.symm)]
theorem qD {s:St} {r:Nat} {x:List Int} (h:r < s.mem.length) (j:Nat):bC (setM s r x) j=if j=r then x else bC s j:=by
 unfold bC setM
 simp only[List.getElem?_set]
 by_cases e:r=j
 ·subst e
  rw[if_pos rfl,if_pos h,if_pos rfl]
  rfl
 ·rw[if_neg e,if_neg (fun q=>e q.symm)]
theorem AF {s:St} {r:Nat} {x:List (Nat×Int)} (h:r < s.held.length) (j:Nat):dG (setL s r x) j=if j=r then x else dG s j:=by
 unfold dG setL
 simp only[List.getElem?_set]
 by_cases e:r=j
 ·subst e
  rw[if_pos rfl,if_pos h,if_pos rfl]
  rfl
 ·rw[if_neg e,if_neg (fun q=>e q.symm)]
theorem F3 (s:St) (b:Nat) (m:List Int) (j:Nat):aI (setM s b m) j=aI s j:=rfl
theorem pN (s:St) (b:Nat) (m:Pr) (j:Nat):bC (setP s b m) j=bC s j:=rfl
theorem yQ {n:Nat} {s s':St} {b:Nat→Nat×Nat} (h:∀ r,r < n→(aI s r).d=(aI s' r).d∧(aI s r).q.length=(aI s' r).q.length):procsH n s b=procsH n s' b:=List.map_congr_left fun r hr=>by
 obtain⟨h1,h2⟩:=h r (List.mem_range.1 hr)
 rw[h1,h2]
theorem DS {n:Nat} {s s':St} (h:∀ r,r < n→(bC s r).length=(bC s' r).length):memH n s=memH n s':=C5 fun r hr=>by rw[h r hr]
theorem qK {n:Nat} {s s':St} (h:∀ r,r < n→(aI s r).g=(aI s' r).g):iB n s=iB n s':=fD fun r hr=>by rw[h r hr]
theorem tA {n:Nat} {s s':St} (h:∀ r,r < n→(aI s r).q=(aI s' r).q):cC n s=cC n s':=fD fun r hr=>by rw[h r hr]
theorem AL {n:Nat} {s:St} {r:Nat} {g':List (Nat×Int)} (h:r < s.ps.length):(iB n s).set r (.map (retE g'))=iB n (setP s r { aI s r with g:=g' }):=by
 unfold iB
 rw[rS]
 refine fD fun j _=>?_
 rw[eD h]
 split<;>rfl
theorem IE {n:Nat} {s:St} {b:Nat} {m:List Int} (h:b < s.mem.length):(jV n s).set b (.cells 1 (bE m))=jV n (setM s b m):=by
 unfold jV
 rw[rS]
 refine fD fun j _=>?_
 rw[qD h]
 split<;>rfl
theorem sI {n:Nat} {s:St} {b:Nat} {m:List (Nat×Int)} (h:b < s.held.length):(fP n s).set b (.map (retE m))=fP n (setL s b m):=by
 unfold fP
 rw[rS]
 refine fD fun j _=>?_
 rw[AF h]
 split<;>rfl
theorem pZ {n:Nat} {s:St} {b:Nat→Nat×Nat} {r:Nat} {x:Pr} {c:Nat×Nat} (h:r < s.ps.length):(procsH n s b).set r [.sc (.int .i64 (x.d:Int)),.hsl c.1 c.2 0 x.q.length,.mref 5 r]=procsH n (setP s r x) (fun j=>if j=r then c else b j):=by
 unfold procsH
 apply List.ext_getElem?
 intro j
 rw[List.getElem?_set]
 by_cases hj:j < n
 ·rw[List.getElem?_map,List.getElem?_map,List.getElem?_range hj]
  simp only[Option.map_some,List.length_map,List.length_range]
  rw[eD h]
  by_cases e:r=j
  ·subst e
   simp[hj]
  ·rw[if_neg e,if_neg (fun q=>e q.symm),if_neg (fun q=>e q.symm)]
 ·rw[List.getElem?_map,List.getElem?_map,List.getElem?_eq_none (show(List.range n).length≤j by rw[List.length_range]; omega)]
  simp
  omega
theorem GU (m:List Int) (a:Nat) (v:Int):(bE m).set a [.sc (.int .i64 v)]=bE (m.set a v):=by
 unfold bE
 rw[List.map_set]
theorem oR (l:List Int) (k:Nat) (h:k < l.length):(bE l)[k]?=some [.sc (.int .i64 l[k])]:=by simp[bE,h]
theorem xM {n:Nat} {s:St} {r:Nat}:(cC n s).set r .dead=fam n fun j=>if j=r then .dead else .cells 1 (bF (aI s j).q):=rS
def pendD (n:Nat) (s:St) (r:Nat):List Blk:=fam n fun j=>if j=r then .dead else .cells 1 (bF (aI s j).q)
def bX (r g:Nat) (j:Nat):Nat×Nat:=if j=r then(g,0) else(4,j)
theorem m8 {T:AV→AV→Prop} {ρ:Nat→Nat→Option (Nat×Nat)} {n r:Nat} {s:St} {H:Heap} (h:∀ i,i < n→hget H 4 i=some (if i=r then .dead else .cells 1 (bF (aI s i).q))):aY (ToB T ρ) H (FK.w 4 n []).l (pendD n s r):=
 aY.ofFam fun i hi=>⟨_,h i hi,by
  split
  ·exact ToB.dead _
  ·exact ToB.rows rfl (prs _)⟩
theorem pD (v:Int):IntKind.u64.wrap v=((toU v:Nat):Int):=by
 unfold toU
 show v % 18446744073709551616=_
 omega
end Go.Proofs.YtkjoolaahocgdaaGreat
