import Derived.Test.YtkjoolaahocgdaaGreatGWiU13
import Derived.Test.YtkjoolaahocgdaaGreatGAvL2
import Derived.Test.YtkjoolaahocgdaaGreatGAvSo
import Derived.Test.YtkjoolaahocgdaaGreatGWiU6
import Derived.Test.YtkjoolaahocgdaaGreatGAvF
namespace Go.Proofs.YtkjoolaahocgdaaGreat
open Go.Av Go.Proofs
set_option maxRecDepth 20000
def fN (s:St) (r k:Nat):St:=setP s r ⟨(aI s r).d,(aI s r).q.eraseIdx k,(aI s r).g⟩
set_option maxHeartbeats 16000000 in
theorem LD {p:Pg} {ls:List Ln} {s:St} {r k i:Nat} (hC:d9 p ls) (hS:cA p ls s) (hrl:r < ls.length) (hk:(aI s r).q[k]?=some i):
  aQ Tryz.prog 69 [.cptr [.ptr 0 0 0 0],.cptr [.sc (.int .i64 (r:Int))],.cptr [.sc (.int .i64 (k:Int))],.cptr [.sc (.int .i64 (i:Int))]] (worldH p ls s) (lC p ls (BV p ls s r k i)):=by
 refine aQ.of cF69 ?_ (nlB rfl)
 have hkl:=(gEs.1 hk).1
 have hq:=hS.q100 hC hrl
 have hd:=NU p ls s hrl hkl (by omega)
 have hp1:=iY (s:=s) (b:=b4) hrl
 have hp1l:=eU ls.length s b4
 unfold b4 at hp1
 dsimp only at hp1
 have hrs:r < s.ps.length:=by have:=hS.pl; omega
 have hn:=hC.len
 obtain⟨l,hra⟩:∃ l,p.acts[r]?=some l:=⟨_,gEg (show r < p.acts.length by omega)⟩
 have hlen:=dP hra
 obtain⟨L,hL,hO⟩:=hC.get hra
 have hqi:=hS.qi r hrl i (List.mem_of_getElem? hk)
 have hdl:=hS.d r hrl
 obtain⟨x,hx⟩:∃ x,l[i]?=some x:=⟨_,gEg (show i < l.length by omega)⟩
 have hok:=hO.act _ _ hx
 have hap:=jL hra hx
 rw[hap] at hqi
 obtain⟨a1,a2,a3⟩:=FL hL hO hx hqi.2
 obtain⟨hk1,hk5⟩:1≤x.k∧x.k≤5:=of_decide_eq_true hqi.2
 have hk2:x.k≤7:=by omega
 have hs1:=eD (s:=s) (x:=⟨(aI s r).d,(aI s r).q.eraseIdx k,(aI s r).g⟩) hrs
 have hp2:(procsH ls.length s b4).set r [.sc (.int .i64 ((aI s r).d:Int)),.hsl 8 0 0 ((aI s r).q.length - 1),.mref 5 r]=procsH ls.length (fN s r k) (bX r 8):=by
  unfold fN bX
  rw[← pZ hrs,m4 hkl]
  rfl
 have hpd:pendD ls.length s r=pendD ls.length (fN s r k) r:=fD fun j _=>by
  by_cases e:j=r
  ·rw[if_pos e,if_pos e]
  ·rw[if_neg e,if_neg e]; unfold fN; rw[hs1,if_neg e]
 have hret:iB ls.length s=iB ls.length (fN s r k):=qK fun j _=>by
  unfold fN
  rw[hs1]
  split
  ·rename_i e; rw[e]
  ·rfl
 unfold worldH aZ boxW ckV at hd ⊢
 refine AWP.seq ?_
 refine AWP.lin [(true,0),(true,1),(true,2),(true,3),(true,4),(true,5),(true,6),(true,7),(true,8),(true,9),(true,10),(true,11),(true,12),(true,13),(true,14),(true,15),(true,17),(true,18),(false,16),(false,19)] mixed (by kernel_rfl) (by kernel_rfl) ?_
 refine pJ ?_
 refine RT.cc (Nat.le_refl _) rfl hd ?_
 rintro res H' ⟨rfl,rfl⟩
 refine⟨(by repeat (first | exact trivial | exact bD.refl _ _ | refine And.intro rfl ?_)),?_⟩
 refine pJ ?_
 refine AWP.sub (fr':=[(0,.cptr [.ptr 0 0 0 0]),(1,.cptr [.sc (.int .i64 (r:Int))]),(3,.cptr [.sc (.int .i64 (i:Int))])]) (H':=aZ p ls (fN s r k) (bX r 8) (pendD ls.length (fN s r k) r)++[[.cells 1 (bF ((aI s r).q.eraseIdx k))]]) ?_ ?_
 ·refine Sub.wg p ls (fN s r k) (bX r 8) (bX r 8) (pendD ls.length (fN s r k) r) [] [] [[(8,0)]] [[.cells 1 (bF ((aI s r).q.eraseIdx k))]] ?_ rfl (congrArg (fun z=>[Blk.cells 3 z]) hp2) rfl rfl (aM _ _) hret rfl rfl (by rw[hpd]; exact m8 fun j hj=>aO hj) (fun j hj=>?_) ⟨⟨⟨_,rfl,ToB.rows rfl (prs _)⟩,trivial⟩,trivial⟩
  ·(all_goals exact eP)
  ·unfold bX
   split
   ·rfl
   ·exact c9 rfl hj
 have he:=K6 p ls (fN s r k) hC hra hx a1 (by omega) (by unfold fN; rw[pN,hS.m _ (by omega)]; exact a3) (by unfold fN setP; simp[hS.pl]) hS.ml hk1 hk2 (fun h=>hok.op (by unfold nA; simp; exact h)) (bX r 8) (pendD ls.length (fN s r k) r) (y:=bF ((aI s r).q.eraseIdx k)) (prs _) (fun j _=>by unfold bX; split; exact .inr rfl; exact .inl rfl) (iK.pendD _ _ _)
 refine aA ?_
 refine Reg.c (nlB rfl) rfl (he.mono ?_)
 rintro res H' ⟨rfl,rfl⟩
 refine aA ?_
 refine⟨.inl rfl,_,_,_,rfl,.refl _ _ _,rfl,.inr ⟨r,hrl,?_⟩⟩
 show _=aZ p ls (kP p ls (fN s r k) (r,i)) (bX r 8) (pendD ls.length (kP p ls (fN s r k) (r,i)) r)++[[.cells 1 (bF (aI (kP p ls (fN s r k) (r,i)) r).q)]]
 have hqq:=pV p ls (fN s r k) (r,i) (by unfold fN setP; simp; exact hrs)
 have e1:pendD ls.length (kP p ls (fN s r k) (r,i)) r=pendD ls.length (fN s r k) r:=fD fun j _=>by rw[(hqq j).1]
 have e2:(aI (kP p ls (fN s r k) (r,i)) r).q=(aI s r).q.eraseIdx k:=by
  rw[(hqq r).1]
  unfold fN
  rw[hs1,if_pos rfl]
 rw[e1,e2]
theorem qI {p:Pg} {ls:List Ln} {s s':St} {b b':Nat→Nat×Nat} {F4 F4':List Blk} (h:F4.length=F4'.length) (g i:Nat):(hget (aZ p ls s b F4) g i).isSome=(hget (aZ p ls s' b' F4') g i).isSome:=by
 match g,i with
 | 0,0=>rfl
 | 0,i+1=>rfl
 | 1,0=>rfl
 | 1,i+1=>rfl
 | 2,0=>rfl
 | 2,i+1=>rfl
 | 3,0=>rfl
 | 3,i+1=>rfl
 | 4,i=>
  show(F4[i]?).isSome=(F4'[i]?).isSome
  by_cases hi:i < F4.length
  ·rw[gEg hi,gEg (show i < F4'.length by omega)]; rfl
  ·rw[List.getElem?_eq_none (by omega),List.getElem?_eq_none (by omega)]
 | 5,i=>exact gN i
 | 6,i=>exact gN i
 | 7,i=>exact gN i
 | g+8,i=>rfl
theorem wRen {ρ:Nat→Nat→Option (Nat×Nat)} {p:Pg} {ls:List Ln} {s:St} {b b':Nat→Nat×Nat} {F4:List Blk} (r1:ρ 1 0=some (1,0)) (r2:ρ 2 0=some (2,0)) (r3:ρ 3 0=some (3,0)) (r4:∀ r,r < ls.length→ρ (b' r).1 (b' r).2=some (b r))
  (r5:∀ r,r < ls.length→ρ 5 r=some (5,r)) (r6:∀ r,r < ls.length→ρ 6 r=some (6,r)) (r7:∀ r,r < ls.length→ρ 7 r=some (7,r)) (hF:∀(i:Nat) x,F4[i]?=some x→x.live=true→dC ρ x x):
  ∀ g i x,hget (aZ p ls s b' F4) g i=some x→x.live=true→∃ y,hget (aZ p ls s b F4) g i=some y∧dC ρ y x:=by
 intro g i x hx hl
 match g,i,hx with
 | 0,0,hx=>
  injection hx with hx
  subst hx
  refine⟨_,rfl,dC.selfW fun r hr c hc=>?_⟩
  rw[List.mem_singleton.1 hr] at hc
  unfold boxW at hc
  simp only[List.mem_cons,List.not_mem_nil,or_false] at hc
  rcases hc with rfl | rfl | rfl | rfl | rfl
  ·exact .pure (pv _)
  ·exact .sc _
  ·exact .hsl _ _ _ _ _ _ r1
  ·exact .hsl _ _ _ _ _ _ r2
  ·exact .hsl _ _ _ _ _ _ r3
 | 1,0,hx=>
  injection hx with hx
  subst hx
  refine⟨_,rfl,?_⟩
  refine .cells _ _ _ (by simp[procsH]) (fun j l l' a c=>?_) fun j l l' m x y a c d e=>?_
  ·obtain⟨q,hq,rfl⟩:=List.mem_map.1 (List.mem_of_getElem? a)
   obtain⟨q',hq',rfl⟩:=List.mem_map.1 (List.mem_of_getElem? c)
   rfl
  ·unfold procsH at a c
   have hj:j < ls.length:=by have:=(gEs.1 a).1; simpa using this
   rw[List.getElem?_map,List.getElem?_range hj] at a c
   injection a with a
   injection c with c
   subst a; subst c
   match m,d,e with
   | 0,d,e=>injection d with d; injection e with e; subst d; subst e; exact .sc _
   | 1,d,e=>injection d with d; injection e with e; subst d; subst e; exact .hsl _ _ _ _ _ _ (r4 j hj)
   | 2,d,e=>injection d with d; injection e with e; subst d; subst e; exact .mref _ _ _ _ (r5 j hj)
   | m+3,d,e=>cases d
 | 2,0,hx=>
  injection hx with hx
  subst hx
  exact⟨_,rfl,dC.row1 fun j hj=>.hsl _ _ _ _ _ _ (r6 j hj)⟩
 | 3,0,hx=>
  injection hx with hx
  subst hx
  exact⟨_,rfl,dC.row1 fun j hj=>.mref _ _ _ _ (r7 j hj)⟩
 | 4,i,hx=>exact⟨x,hx,hF i x hx hl⟩
 | 5,i,hx=>
  have hx':(iB ls.length s)[i]?=some x:=hx
  obtain⟨_,rfl⟩:=iC hx'
  exact⟨_,hx,dC.mapW _⟩
 | 6,i,hx=>
  have hx':(jV ls.length s)[i]?=some x:=hx
  obtain⟨_,rfl⟩:=iC hx'
  exact⟨_,hx,dC.rows rfl (prs _)⟩
 | 7,i,hx=>
  have hx':(fP ls.length s)[i]?=some x:=hx
  obtain⟨_,rfl⟩:=iC hx'
  exact⟨_,hx,dC.mapW _⟩
 | 0,i+1,hx=>cases hx
 | 1,i+1,hx=>cases hx
 | 2,i+1,hx=>cases hx
 | 3,i+1,hx=>cases hx
 | g+8,i,hx=>cases hx
def L8 (p:Pg) (ls:List Ln) (s:St) (G H:Heap):Prop:=H=worldH p ls s++G∨∃ r,r < ls.length∧H=aZ p ls s (bX r (8+G.length)) (pendD ls.length s r)++G++[[.cells 1 (bF (aI s r).q)]]
theorem ET {p:Pg} {ls:List Ln} {s s':St} {f:FuncId} {args:List AV} (G:Heap) (h:aQ Tryz.prog f args (worldH p ls s) (lC p ls s')) (ha:∀ a∈args,Ren (idH (worldH p ls s)) a a):
  aQ Tryz.prog f args (worldH p ls s++G) fun res H'=>res=.tup []∧L8 p ls s' G H':=by
 have hi:∀(g i:Nat),(hget (worldH p ls s) g i).isSome=true→Av.sg (idH (worldH p ls s)) (worldH p ls s++G).length (worldH p ls s).length g i=some (g,i):=fun g i hs=>by
  have hlt:g < 8:=dO hs
  rw[Av.sg_lt (by rw[List.length_append]; show g < 8+G.length; omega)]
  exact jQ hs
 have q4:∀ i,i < ls.length→Av.sg (idH (worldH p ls s)) (worldH p ls s++G).length (worldH p ls s).length 4 i=some (4,i):=fun i h=>hi 4 i (by show((cC ls.length s)[i]?).isSome=true; unfold cC; rw[aO h]; rfl)
 have q5:∀ i,i < ls.length→Av.sg (idH (worldH p ls s)) (worldH p ls s++G).length (worldH p ls s).length 5 i=some (5,i):=fun i h=>hi 5 i (by show((iB ls.length s)[i]?).isSome=true; unfold iB; rw[aO h]; rfl)
 have q6:∀ i,i < ls.length→Av.sg (idH (worldH p ls s)) (worldH p ls s++G).length (worldH p ls s).length 6 i=some (6,i):=fun i h=>hi 6 i (by show((jV ls.length s)[i]?).isSome=true; unfold jV; rw[aO h]; rfl)
 have q7:∀ i,i < ls.length→Av.sg (idH (worldH p ls s)) (worldH p ls s++G).length (worldH p ls s).length 7 i=some (7,i):=fun i h=>hi 7 i (by show((fP ls.length s)[i]?).isSome=true; unfold fP; rw[aO h]; rfl)
 refine aQ.ins G h (fC p ls s s) ha fun res H' hr=>?_
 obtain⟨rfl,hw⟩:=hr
 rcases hw with rfl | ⟨r,hr,rfl⟩
 ·refine⟨.tup [],worldH p ls s',[],worldH p ls s',[],by rw[List.append_nil],rfl,rfl,fun g i hs=>?_,.tup _ _ rfl (fun j x y a=>by simp at a),fun g i x hx hl=>?_,fun g i hs=>?_,fun g i x hx=>?_,fun g i hs=>hs,rfl,.inl (by rw[List.append_nil])⟩
  ·rw[(fC p ls s s').dom] at hs; exact hs
  ·obtain⟨y,h1,h2⟩:=wRen (ρ:=Av.sg (idH (worldH p ls s)) (worldH p ls s++G).length (worldH p ls s).length) (p:=p) (ls:=ls) (s:=s') (b:=b4) (b':=b4) (F4:=cC ls.length s') (hi 1 0 rfl) (hi 2 0 rfl) (hi 3 0 rfl) q4 q5 q6 q7 (fun i x hx _=>by obtain⟨_,rfl⟩:=iC hx; exact dC.rows rfl (prs _)) g i x hx hl
   refine⟨y,h1,?_,h2⟩
   have:=(fC p ls s s').dom g i
   rw[← this]
   show(hget (worldH p ls s') g i).isSome=true
   rw[show hget (worldH p ls s') g i=some x from hx]
   rfl
  ·have:=(fC p ls s s').dom g i
   rw[this]; exact hs
  ·cases g<;>cases hx
 ·refine⟨.tup [],aZ p ls s' (bX r 8) (pendD ls.length s' r),[[.cells 1 (bF (aI s' r).q)]],aZ p ls s' (bX r (8+G.length)) (pendD ls.length s' r),[[.cells 1 (bF (aI s' r).q)]],rfl,rfl,rfl,fun g i hs=>?_,.tup _ _ rfl (fun j x y a=>by simp at a),fun g i x hx hl=>?_,fun g i hs=>?_,fun g i x hx hl=>?_,fun g i hs=>hs,rfl,.inr ⟨r,hr,rfl⟩⟩
  ·rw[qI (s':=s) (b':=b4) (F4':=cC ls.length s) (by rw[show(pendD ls.length s' r).length=ls.length from aM _ _,show(cC ls.length s).length=ls.length from aM _ _])] at hs
   exact hs
  ·obtain⟨y,h1,h2⟩:=wRen (ρ:=Av.sg (idH (worldH p ls s)) (worldH p ls s++G).length (worldH p ls s).length) (p:=p) (ls:=ls) (s:=s') (b:=bX r 8) (b':=bX r (8+G.length)) (F4:=pendD ls.length s' r) (hi 1 0 rfl) (hi 2 0 rfl) (hi 3 0 rfl) (fun j hj=>by
    unfold bX
    by_cases e:j=r
    ·rw[if_pos e,if_pos e]
     have hm:(worldH p ls s++G).length=8+G.length:=by rw[List.length_append]; rfl
     rw[Av.sg_ge (by rw[hm]; exact Nat.le_refl _),hm]
     show some (8+G.length - (8+G.length)+8,0)=_
     rw[Nat.sub_self]
    ·rw[if_neg e,if_neg e]; exact q4 j hj) q5 q6 q7 (fun i x hx hl=>by
    obtain⟨_,rfl⟩:=iC hx
    split at hl
    ·cases hl
    ·rename_i e
     rw[if_neg e]
     exact dC.rows rfl (prs _)) g i x hx hl
   refine⟨y,h1,?_,h2⟩
   have:=qI (p:=p) (ls:=ls) (s:=s') (b:=bX r (8+G.length)) (F4:=pendD ls.length s' r) (s':=s) (b':=b4) (F4':=cC ls.length s) (by rw[show(pendD ls.length s' r).length=ls.length from aM _ _,show(cC ls.length s).length=ls.length from aM _ _]) g i
   show(hget (aZ p ls s b4 (cC ls.length s)) g i).isSome=true
   rw[← this,hx]
   rfl
  ·have:=qI (p:=p) (ls:=ls) (s:=s') (b:=bX r (8+G.length)) (F4:=pendD ls.length s' r) (s':=s) (b':=b4) (F4':=cC ls.length s) (by rw[show(pendD ls.length s' r).length=ls.length from aM _ _,show(cC ls.length s).length=ls.length from aM _ _]) g i
   rw[this]
   exact hs
  ·match g,i,hx with
   | 0,0,hx=>
    injection hx with hx
    subst hx
    exact⟨_,rfl,dC.rows rfl (prs _)⟩
   | 0,i+1,hx=>cases hx
   | g+1,i,hx=>cases hx
def cdV:Cd→AV
 | .act r=>.clo (.func 67) [] [.cptr [.ptr 0 0 0 0],.cptr [.sc (.int .i64 (r:Int))]]
 | .take r k i=>.clo (.func 69) [] [.cptr [.ptr 0 0 0 0],.cptr [.sc (.int .i64 (r:Int))],.cptr [.sc (.int .i64 (k:Int))],.cptr [.sc (.int .i64 (i:Int))]]
def eN (l:List Cd):List (List AV):=l.map fun c=>[cdV c]
theorem vA (l:List Cd):(eN l).length=l.length:=by simp[eN]
theorem oY (l:List Cd) (c:Cd):eN (l++[c])=eN l++[[cdV c]]:=by simp[eN]
section
variable {T:AV→AV→Prop} {ρ:Nat→Nat→Option (Nat×Nat)}
theorem To.cdV (h:ρ 0 0=some (0,0)) (c:Cd):To T ρ (cdV c) (YtkjoolaahocgdaaGreat.cdV c):=by
 have h0:To T ρ (.cptr [.ptr 0 0 0 0]) (.cptr [.ptr 0 0 0 0]):=To.cptrL (ToL.cons (To.ptrO h rfl rfl) ToL.nil)
 have h1:∀ n:Nat,To T ρ (.cptr [.sc (.int .i64 (n:Int))]) (.cptr [.sc (.int .i64 (n:Int))]):=fun n=>To.cptrL (ToL.cons (.sc _) ToL.nil)
 cases c with
 | act r=>exact To.cloL ToL.nil (ToL.cons h0 (ToL.cons (h1 r) ToL.nil))
 | take r k i=>exact To.cloL ToL.nil (ToL.cons h0 (ToL.cons (h1 r) (ToL.cons (h1 k) (ToL.cons (h1 i) ToL.nil))))
theorem ToR.cds (h:ρ 0 0=some (0,0)) (l:List Cd):ToR T ρ (eN l) (eN l):=ToR.map fun c _=>ToL.cons (To.cdV h c) ToL.nil
theorem ToB.cds (h:ρ 0 0=some (0,0)) (l:List Cd):ToB T ρ (.cells 1 (eN l)) (.cells 1 (eN l)):=ToB.rowsR (ToR.cds h l)
end
def nil3:Blk:=.cells 3 [[.sc (.slice none 0 0),.sc (.slice none 0 0),.sc (.slice none 0 0)]]
def c7 (p:Pg):Fr:=[(2,.cptr [.sc (.int .i64 p.cells),.list 1 (bY p.acts)]),(4,.ptr 8 0 0 0),(9,.ptr 0 0 0 0),(10,.ptr 9 0 0 0),(73,.clo (.func 65) [] [.cptr [.ptr 0 0 0 0]])]
theorem toLp {T:AV→AV→Prop} {ρ:Nat→Nat→Option (Nat×Nat)} {p:Pg} {L:LC} {st:LoopState} (r0:ρ 0 0=some (0,0)) (r8:ρ 8 0=some (8,0)) (r9:ρ 9 0=some (9,0)):ToB T ρ (.lp L (c7 p) st none) (.lp L (c7 p) st none):=by
 refine ToB.lp _ _ _ _ _ fun x hx=>?_
 unfold c7 at hx
 simp only[List.mem_cons,List.not_mem_nil,or_false] at hx
 rcases hx with rfl | rfl | rfl | rfl | rfl
 ·exact To.pure (pv (.cptr [.sc (.int .i64 p.cells),.list 1 (bY p.acts)]))
 ·exact To.ptrO r8 rfl rfl
 ·exact To.ptrO r0 rfl rfl
 ·exact To.ptrO r9 rfl rfl
 ·exact To.cloL ToL.nil (ToL.cons (To.cptrL (ToL.cons (To.ptrO r0 rfl rfl) ToL.nil)) ToL.nil)
def lB (j len:Nat):List Blk:=[.cells 1 [[.hsl j 0 0 len]]]
theorem iA {T:AV→AV→Prop} {ρ:Nat→Nat→Option (Nat×Nat)} {H:Heap} {p:Pg} {L:LC} {st:LoopState} {j j' len:Nat} {es:List (List (Nat×Nat))} {Y:Heap} (r0:ρ 0 0=some (0,0)) (r8:ρ 8 0=some (8,0)) (r9:ρ 9 0=some (9,0)) (rj:ρ j 0=some (j',0))
  (h8:hget H 8 0=some nil3) (h9:hget H 9 0=some (.cells 1 [[.hsl j' 0 0 len]])) (h10:hget H 10 0=some (.lp L (c7 p) st none)) (hY:aS (ToB T ρ) H es Y):
  aS (ToB T ρ) H ([(8,0)]::[(9,0)]::[(10,0)]::es) ([nil3]::lB j len::[.lp L (c7 p) st none]::Y):=
 ⟨⟨⟨_,h8,ToB.one (ToL.cons (.sc _) (ToL.cons (.sc _) (ToL.cons (.sc _) ToL.nil)))⟩,trivial⟩,⟨⟨_,h9,ToB.one (ToL.cons (To.hslL rj rfl) ToL.nil)⟩,trivial⟩,⟨⟨_,h10,toLp r0 r8 r9⟩,trivial⟩,hY⟩
def lkA:dB:=.region [⟨some 11,none,.op (.move (.tmp 74))⟩]
def lkB:dB:=.block 5 (.region [⟨some 75,none,.op (.load 1 false (.tmp 10))⟩,⟨some 76,none,.op (.move (.tmp 11))⟩,⟨some 77,none,.op (.buildSlice 1 [(1,.nilFunc)] 1 [(0,(.tmp 76))])⟩,⟨some 78,none,.op (.append 1 8 (.tmp 75) (.tmp 77))⟩,⟨none,none,.op (.store 1 (.tmp 10) (.tmp 78))⟩])
def kQ (p:Pg) (ls:List Ln) (s:St) (L:LC) (out:List Cd):Heap:=worldH p ls s++([nil3]::lB 11 out.length::[.lp L (c7 p) .ready none]::[[.cells 1 (eN out)]])
set_option maxHeartbeats 8000000 in
theorem JO (p:Pg) (ls:List Ln) (s:St) (L:LC) (hL:LOK Tryz.prog F18.n L [74] lkA lkB) (out:List Cd) (c:Cd) (hn:out.length≤1000000):
  hP Tryz.prog 10 0 [cdV c] (kQ p ls s L out) fun b H'=>b=true∧H'=worldH p ls s++([nil3]::lB 12 (out.length+1)::[.lp L (c7 p) .ready none]::[[.dead],[.cells 1 (eN (out++[c]))]]):=by
 have hcl:=vA out
 refine⟨L,_,_,_,_,_,hL,rfl,rfl,?_⟩
 cases c with
 | act r=>(unfold kQ worldH aZ lkA lkB c7 lB nil3; unfold cdV; refine aA ?_; refine⟨rfl,_,rfl,?_⟩; refine AWP.fin ?_; refine aA ?_; refine⟨[],worldH p ls s++([nil3]::lB 12 (out.length+1)::[.lp L (c7 p) .busy none]::[[.dead],[.cells 1 (eN (out++[.act r]))]]),?_,_,rfl,rfl,rfl⟩; rw[oY]; exact Sub.wgL p ls s b4 b4 (cC ls.length s) [] [] [[(8,0)],[(9,0)],[(10,0)],[(11,0)],[(13,0)]] ([nil3]::lB 12 (out.length+1)::[.lp L (c7 p) .busy none]::[[.dead],[.cells 1 (eN out++[[cdV (.act r)]])]]) trivial rfl rfl rfl rfl rfl rfl rfl (bO fun i hi=>aO hi) dF (iA rfl rfl rfl rfl rfl rfl rfl ⟨⟨⟨_,rfl,.dead _⟩,trivial⟩,⟨⟨_,rfl,ToB.rowsR (ToR.append (ToR.cds rfl out) (ToR.cons (ToL.cons (To.cdV rfl (.act r)) ToL.nil) ToR.nil))⟩,trivial⟩,trivial⟩) ⟨.c _ rfl rfl,.c _ rfl rfl,.c _ rfl rfl,.c _ rfl rfl,.w _ _ (Nat.le_of_eq (aM _ _)),.w _ _ (Nat.le_of_eq (aM _ _)),.w _ _ (Nat.le_of_eq (aM _ _)),.w _ _ (Nat.le_of_eq (aM _ _)),.c _ rfl rfl,.c _ rfl rfl,.c _ rfl rfl,.c _ rfl rfl,trivial⟩)
 | take r k i=>(unfold kQ worldH aZ lkA lkB c7 lB nil3; unfold cdV; refine aA ?_; refine⟨rfl,_,rfl,?_⟩; refine AWP.fin ?_; refine aA ?_; refine⟨[],worldH p ls s++([nil3]::lB 12 (out.length+1)::[.lp L (c7 p) .busy none]::[[.dead],[.cells 1 (eN (out++[.take r k i]))]]),?_,_,rfl,rfl,rfl⟩; rw[oY]; exact Sub.wgL p ls s b4 b4 (cC ls.length s) [] [] [[(8,0)],[(9,0)],[(10,0)],[(11,0)],[(13,0)]] ([nil3]::lB 12 (out.length+1)::[.lp L (c7 p) .busy none]::[[.dead],[.cells 1 (eN out++[[cdV (.take r k i)]])]]) trivial rfl rfl rfl rfl rfl rfl rfl (bO fun i hi=>aO hi) dF (iA rfl rfl rfl rfl rfl rfl rfl ⟨⟨⟨_,rfl,.dead _⟩,trivial⟩,⟨⟨_,rfl,ToB.rowsR (ToR.append (ToR.cds rfl out) (ToR.cons (ToL.cons (To.cdV rfl (.take r k i)) ToL.nil) ToR.nil))⟩,trivial⟩,trivial⟩) ⟨.c _ rfl rfl,.c _ rfl rfl,.c _ rfl rfl,.c _ rfl rfl,.w _ _ (Nat.le_of_eq (aM _ _)),.w _ _ (Nat.le_of_eq (aM _ _)),.w _ _ (Nat.le_of_eq (aM _ _)),.w _ _ (Nat.le_of_eq (aM _ _)),.c _ rfl rfl,.c _ rfl rfl,.c _ rfl rfl,.c _ rfl rfl,trivial⟩)
theorem nT {c d:List Int} {v:AV}:∀(es:List (List Int×AV)),d≠c→bV c (dT d v es)=bV c es
 | [],h=>by
  show(match decide (d=c) with | true=>some v | false=>bV c [])=_
  rw[dFa h]
 | (e,y)::es,h=>by
  unfold dT
  split
  ·show(match decide (d=c) with | true=>some v | false=>bV c ((e,y)::es))=_
   rw[dFa h]
  ·show(match decide (e=c) with | true=>some y | false=>bV c (dT d v es))=(match decide (e=c) with | true=>some y | false=>bV c es)
   rw[nT es h]
theorem nR {c:List Int} {v:AV}:∀(es:List (List Int×AV)),bV c es=none→bV c (dT c v es)=some v
 | [],_=>by
  show(match decide (c=c) with | true=>some v | false=>bV c [])=_
  rw[dTr rfl]
 | (e,y)::es,h=>by
  have h':(match decide (e=c) with | true=>some y | false=>bV c es)=none:=h
  unfold dT
  split
  ·show(match decide (c=c) with | true=>some v | false=>bV c ((e,y)::es))=_
   rw[dTr rfl]
  ·show(match decide (e=c) with | true=>some y | false=>bV c (dT c v es))=_
   split at h'
   ·cases h'
   ·exact nR es h'
theorem sU {c:List Int} {v:AV} {x:List Int×AV}:∀ {es:List (List Int×AV)},x∈dT c v es→x=(c,v)∨x∈es
 | [],h=>.inl (List.mem_singleton.1 h)
 | (d,y)::es,h=>by
  unfold dT at h
  split at h
  ·rcases List.mem_cons.1 h with h | h
   ·exact .inl h
   ·exact .inr h
  ·rcases List.mem_cons.1 h with h | h
   ·exact .inr (by rw[h]; exact List.mem_cons_self ..)
   ·rcases sU h with h | h
    ·exact .inl h
    ·exact .inr (List.mem_cons_of_mem _ h)
def UB (u:List (Int×Int)) (b:Blk):Prop:=(b=.map []∧u=[])∨∃ es,b=.umap 3 es∧(∀ x∈es,bQ x.2)∧∀ p q:Int,bV [p,q,0] es=if (p,q)∈u then some (.sc (.bool true)) else none
def GG (b:Blk) (p q:Int):Blk:=match b with
 | .map _=>.umap 3 (dT [p,q,0] (.sc (.bool true)) [])
 | .umap _ es=>.umap 3 (dT [p,q,0] (.sc (.bool true)) es)
 | b=>b
theorem UB.ins {u:List (Int×Int)} {b:Blk} (h:UB u b) {p q:Int} (hn:(p,q)∉u):UB (u++[(p,q)]) (GG b p q):=by
 right
 rcases h with⟨rfl,rfl⟩ | ⟨es,rfl,h1,h2⟩
 ·refine⟨_,rfl,fun x hx=>?_,fun r t=>?_⟩
  ·rcases sU hx with rfl | h
   ·exact .sc _
   ·cases h
  ·by_cases e:(r,t)=(p,q)
   ·injection e with e1 e2
    subst e1; subst e2
    rw[nR [] rfl,if_pos (by simp)]
   ·rw[nT [] (fun h=>e (by injection h with h1 h; injection h with h2 h; rw[h1,h2])),if_neg (by simpa using e)]
    rfl
 ·refine⟨_,rfl,fun x hx=>?_,fun r t=>?_⟩
  ·rcases sU hx with rfl | h
   ·exact .sc _
   ·exact h1 x h
  ·by_cases e:(r,t)=(p,q)
   ·injection e with e1 e2
    subst e1; subst e2
    rw[nR es (by rw[h2,if_neg hn]),if_pos (by simp)]
   ·rw[nT es (fun h=>e (by injection h with h1 h; injection h with h2 h; rw[h1,h2])),h2]
    by_cases m:(r,t)∈u
    ·rw[if_pos m,if_pos (List.mem_append_left _ m)]
    ·rw[if_neg m,if_neg (fun h=>by rcases List.mem_append.1 h with h | h; exact m h; exact e (List.mem_singleton.1 h))]
theorem UB.to {T:AV→AV→Prop} {ρ:Nat→Nat→Option (Nat×Nat)} {u:List (Int×Int)} {b:Blk} (h:UB u b):ToB T ρ b b:=by
 rcases h with⟨rfl,_⟩ | ⟨es,rfl,h1,_⟩
 ·exact .map _ _ rfl (fun j x y a b=>by simp at a) fun j x y a b=>by simp at a
 ·exact .umap 3 es h1
theorem yM {g i:Nat} {fr:Fr} {H:Heap} {x ix:Operand} {g' i':Nat} {p q:Int} {b:Blk} {u:List (Int×Int)} (hb:UB u b) (hx:ev fr x=.mref g' i') (hk:ev fr ix=.agg [.sc (.int .i64 p),.sc (.int .i64 q),.sc (.int .i64 0)]) (hh:hget H g' i'=some b):
  aH g i (.xop (.lookF [.i,.i,.i] (.sc (.bool false)) false) [x,ix]) fr H=some (.sc (.bool (decide ((p,q)∈u))),H):=by
 have e1:gA (.agg [.sc (.int .i64 p),.sc (.int .i64 q),.sc (.int .i64 0)])=some [.int .i64 p,.int .i64 q,.int .i64 0]:=rfl
 have e2:∃ r,cL [.i,.i,.i] [.int .i64 p,.int .i64 q,.int .i64 0] [.int .i64 p,.int .i64 q,.int .i64 0]=some r:=⟨_,rfl⟩
 obtain⟨r,e2⟩:=e2
 have e3:o5 [.int .i64 p,.int .i64 q,.int .i64 0]=some [p,q,0]:=rfl
 rcases hb with⟨rfl,rfl⟩ | ⟨es,rfl,h1,hf⟩
 ·simp only[aH,aX,List.map_cons,List.map_nil,kM,hk,e1,e2,hx,jU,hh,iE]
  simp
 ·have e4:Nat.beq [p,q,0].length 3=true:=rfl
  have hf':=hf p q
  by_cases m:(p,q)∈u
  ·rw[if_pos m] at hf'
   simp only[aH,aX,List.map_cons,List.map_nil,kM,hk,e1,e2,hx,jU,hh,e3,e4,hf',dTr m]
  ·rw[if_neg m] at hf'
   simp only[aH,aX,List.map_cons,List.map_nil,kM,hk,e1,e2,hx,jU,hh,e3,e4,hf',dFa m]
theorem AR {g i:Nat} {fr:Fr} {H:Heap} {m ix x:Operand} {g' i':Nat} {p q:Int} {b:Blk} {u:List (Int×Int)} (hb:UB u b) (hn:(p,q)∉u) (hx:ev fr m=.mref g' i') (hk:ev fr ix=.agg [.sc (.int .i64 p),.sc (.int .i64 q),.sc (.int .i64 0)]) (hv:ev fr x=.sc (.bool true)) (hh:hget H g' i'=some b):
  aH g i (.insF [.i,.i,.i] m ix x) fr H=some (.undef,bH H g' i' (GG b p q)):=by
 have e1:gA (.agg [.sc (.int .i64 p),.sc (.int .i64 q),.sc (.int .i64 0)])=some [.int .i64 p,.int .i64 q,.int .i64 0]:=rfl
 have e2:∃ r,cL [.i,.i,.i] [.int .i64 p,.int .i64 q,.int .i64 0] [.int .i64 p,.int .i64 q,.int .i64 0]=some r:=⟨_,rfl⟩
 obtain⟨r,e2⟩:=e2
 have e3:o5 [.int .i64 p,.int .i64 q,.int .i64 0]=some [p,q,0]:=rfl
 rcases hb with⟨rfl,rfl⟩ | ⟨es,rfl,h1,hf⟩
 ·simp only[aH,hk,e1,e2,hx,hh,e3,hv]
  rfl
 ·have e4:Nat.beq [p,q,0].length 3=true:=rfl
  have hf':=hf p q
  rw[if_neg hn] at hf'
  simp only[aH,hk,e1,e2,hx,hh,e3,e4,hf',hv]
  rfl
def iD (p:Pg) (ls:List Ln) (s:St) (L:LC) (out:List Cd) (b:Blk):Heap:=worldH p ls s++([nil3]::lB 11 out.length::[.lp L (c7 p) .ready none]::[[.cells 1 (eN out)],[b]])
set_option maxHeartbeats 8000000 in
theorem HT (p:Pg) (ls:List Ln) (s:St) (L:LC) (hL:LOK Tryz.prog F18.n L [74] lkA lkB) (out:List Cd) (c:Cd) (hn:out.length≤1000000) (b:Blk) (u:List (Int×Int)) (hb:UB u b):
  hP Tryz.prog 10 0 [cdV c] (iD p ls s L out b) fun e H'=>e=true∧H'=worldH p ls s++([nil3]::lB 13 (out.length+1)::[.lp L (c7 p) .ready none]::[[.dead],[b],[.cells 1 (eN (out++[c]))]]):=by
 have hcl:=vA out
 refine⟨L,_,_,_,_,_,hL,rfl,rfl,?_⟩
 cases c with
 | act r=>(unfold iD worldH aZ lkA lkB c7 lB nil3; unfold cdV; refine aA ?_; refine⟨rfl,_,rfl,?_⟩; refine AWP.fin ?_; refine aA ?_; refine⟨[],worldH p ls s++([nil3]::lB 13 (out.length+1)::[.lp L (c7 p) .busy none]::[[.dead],[b],[.cells 1 (eN (out++[.act r]))]]),?_,_,rfl,rfl,rfl⟩; rw[oY]; exact Sub.wgL p ls s b4 b4 (cC ls.length s) [] [] [[(8,0)],[(9,0)],[(10,0)],[(11,0)],[(12,0)],[(14,0)]] ([nil3]::lB 13 (out.length+1)::[.lp L (c7 p) .busy none]::[[.dead],[b],[.cells 1 (eN out++[[cdV (.act r)]])]]) trivial rfl rfl rfl rfl rfl rfl rfl (bO fun i hi=>aO hi) dF (iA rfl rfl rfl rfl rfl rfl rfl ⟨⟨⟨_,rfl,.dead _⟩,trivial⟩,⟨⟨_,rfl,hb.to⟩,trivial⟩,⟨⟨_,rfl,ToB.rowsR (ToR.append (ToR.cds rfl out) (ToR.cons (ToL.cons (To.cdV rfl (.act r)) ToL.nil) ToR.nil))⟩,trivial⟩,trivial⟩) ⟨.c _ rfl rfl,.c _ rfl rfl,.c _ rfl rfl,.c _ rfl rfl,.w _ _ (Nat.le_of_eq (aM _ _)),.w _ _ (Nat.le_of_eq (aM _ _)),.w _ _ (Nat.le_of_eq (aM _ _)),.w _ _ (Nat.le_of_eq (aM _ _)),.c _ rfl rfl,.c _ rfl rfl,.c _ rfl rfl,.c _ rfl rfl,.c _ rfl rfl,trivial⟩)
 | take r k i=>(unfold iD worldH aZ lkA lkB c7 lB nil3; unfold cdV; refine aA ?_; refine⟨rfl,_,rfl,?_⟩; refine AWP.fin ?_; refine aA ?_; refine⟨[],worldH p ls s++([nil3]::lB 13 (out.length+1)::[.lp L (c7 p) .busy none]::[[.dead],[b],[.cells 1 (eN (out++[.take r k i]))]]),?_,_,rfl,rfl,rfl⟩; rw[oY]; exact Sub.wgL p ls s b4 b4 (cC ls.length s) [] [] [[(8,0)],[(9,0)],[(10,0)],[(11,0)],[(12,0)],[(14,0)]] ([nil3]::lB 13 (out.length+1)::[.lp L (c7 p) .busy none]::[[.dead],[b],[.cells 1 (eN out++[[cdV (.take r k i)]])]]) trivial rfl rfl rfl rfl rfl rfl rfl (bO fun i hi=>aO hi) dF (iA rfl rfl rfl rfl rfl rfl rfl ⟨⟨⟨_,rfl,.dead _⟩,trivial⟩,⟨⟨_,rfl,hb.to⟩,trivial⟩,⟨⟨_,rfl,ToB.rowsR (ToR.append (ToR.cds rfl out) (ToR.cons (ToL.cons (To.cdV rfl (.take r k i)) ToL.nil) ToR.nil))⟩,trivial⟩,trivial⟩) ⟨.c _ rfl rfl,.c _ rfl rfl,.c _ rfl rfl,.c _ rfl rfl,.w _ _ (Nat.le_of_eq (aM _ _)),.w _ _ (Nat.le_of_eq (aM _ _)),.w _ _ (Nat.le_of_eq (aM _ _)),.w _ _ (Nat.le_of_eq (aM _ _)),.c _ rfl rfl,.c _ rfl rfl,.c _ rfl rfl,.c _ rfl rfl,.c _ rfl rfl,trivial⟩)
def f5 (p:Pg) (ls:List Ln) (s:St) (r:Nat):List Cd:=(List.range r).foldl (NA p ls s) []
theorem qA (p:Pg) (ls:List Ln) (s:St) (r:Nat):f5 p ls s (r+1)=if zZ p ls s r=true then f5 p ls s r++[.act r] else f5 p ls s r:=by
 unfold f5
 rw[List.range_succ,List.foldl_append]
 rfl
theorem oO (p:Pg) (ls:List Ln) (s:St):∀ r,(f5 p ls s r).length≤r
 | 0=>Nat.le_refl _
 | r+1=>by
  have:=oO p ls s r
  rw[qA]
  split
  ·rw[List.length_append]; simp; omega
  ·omega
theorem To.worldX {n:Nat} {p:Pg} {ls:List Ln} {s:St} {G G2:Heap} {ρ:Nat→Nat→Option (Nat×Nat)}:To (ToT ((YtkjoolaahocgdaaGreat.worldH p ls s++G)++G2) n (eA [])) ρ (.ptr 0 0 0 0) (cJ p ls s):=
 To.world (aV (aV rfl)) (aV (aV rfl)) (aV (aV rfl)) (aV (aV rfl)) (fun _ hr=>aV (aV (aO hr))) (fun _ hr=>aV (aV (aO hr))) (fun _ hr=>aV (aV (aO hr))) (fun _ hr=>aV (aV (aO hr)))
def cdF (n r:Nat):Fr:=[(0,.yld 10 0),(1,.cptr [.ptr 0 0 0 0]),(14,.sc (.int .i64 (n:Int))),(15,.sc (.int .i64 (r:Int)))]
def KL (p:Pg) (ls:List Ln) (s:St) (L:LC):Heap:=worldH p ls s++[[nil3],[.cells 1 [[.sc (.slice none 0 0)]]],[.lp L (c7 p) .ready none]]
set_option maxHeartbeats 16000000 in
theorem candA {p:Pg} {ls:List Ln} {s:St} (hC:d9 p ls) (hp:POK p) (hS:cA p ls s) (L:LC) (hL:LOK Tryz.prog F18.n L [74] lkA lkB) (Q:Exit→Fr→Heap→Prop)
  (h:AWP Tryz.prog F65.n 11 (aG [1] F65.code) Q (cdF ls.length ls.length) (kQ p ls s L (f5 p ls s ls.length))):AWP Tryz.prog F65.n 11 F65.code Q (jT 0 [.yld 10 0,.cptr [.ptr 0 0 0 0]]) (KL p ls s L):=by
 have hn64:=hC.n64
 have hn:=hC.len
 unfold KL worldH aZ boxW
 refine AWP.seq ?_
 refine AWP.seq ?_
 refine AWP.region ?_
 refine bI ?_
 refine AWP.block ?_
 refine AWP.loop (fun r:Nat=>cdF ls.length r) (fun r=>kQ p ls s L (f5 p ls s r)) (fun r=>r≤ls.length) (fun r=>ls.length - r) 0 (Nat.zero_le _) ?_ ?_
 ·unfold cdF kQ
  refine Sub.wgL p ls s b4 b4 (cC ls.length s) [1] [] [[(8,0)],[(9,0)],[(10,0)],[(11,0)]] ([nil3]::lB 11 0::[.lp L (c7 p) .ready none]::[[.cells 1 (eN [])]]) ?_ rfl rfl rfl rfl rfl rfl rfl (bO fun i hi=>aO hi) dF ?_ ⟨.c _ rfl rfl,.c _ rfl rfl,.c _ rfl rfl,.c _ rfl rfl,.w _ _ (Nat.le_of_eq (aM _ _)),.w _ _ (Nat.le_of_eq (aM _ _)),.w _ _ (Nat.le_of_eq (aM _ _)),.w _ _ (Nat.le_of_eq (aM _ _)),.c _ rfl rfl,.c _ rfl rfl,.c _ rfl rfl,trivial⟩
  ·(all_goals (repeat' (first | exact aB.nil | exact aS.nil | exact aY.nil | exact ToL.nil | exact ToR.nil | refine aB.cons ?_ ?_ | refine aS.cons ?_ ?_ | refine dZ ?_ ?_ | exact To.undef _ | exact To.sc _ | exact To.hslL rfl rfl | exact To.asl _ _ _ _ _ _ rfl | exact To.ptrO rfl rfl rfl | exact To.mrefO rfl | exact To.nil rfl rfl rfl | exact wt1 | exact To.nilL | refine To.int ?_ | refine To.bool ?_ | refine To.hslL rfl ?_ | refine wt2 rfl ?_ ?_ ?_ | refine To.tupL ?_ | refine To.aggL ?_ | refine To.cptrL ?_ | refine To.fzp rfl rfl rfl ?_ | refine To.fzm rfl rfl ?_ | refine To.cloL ?_ ?_ | refine wt3 ?_ | refine wt4 ?_ | exact wt5 | refine wt6 ?_ | refine ToB.one ?_ | exact wt7 | ((with_reducible apply ToL.consE); case e9=>rfl) | refine wt8 ?_ | refine ToL.cons ?_ ?_ | exact wt11 | refine wt9 ?_ ?_ | refine dX ?_ | (with_reducible rfl) | assumption)); all_goals (first | rfl | assumption | (simp; done) | (simp; omega) | (rw[wrap_small (by omega) (by omega)]; done) | (rw[wrap_small (by omega) (by omega)]; omega) | (refine congrArg Nat.cast ?_; assumption) | skip))
   exact .yld _ _ _ _ rfl
  ·exact⟨⟨⟨_,rfl,ToB.one (ToL.cons (.sc _) (ToL.cons (.sc _) (ToL.cons (.sc _) ToL.nil)))⟩,trivial⟩,⟨⟨_,rfl,ToB.one (ToL.cons (To.nil rfl rfl rfl) ToL.nil)⟩,trivial⟩,⟨⟨_,rfl,toLp rfl rfl rfl⟩,trivial⟩,⟨⟨_,rfl,ToB.cds rfl []⟩,trivial⟩,trivial⟩
 rintro r hr
 unfold cdF
 refine AWP.seq ?_
 refine AWP.region ?_
 refine bI ?_
 refine AWP.seq ?_
 refine AWP.condD rfl (fun hlt=>?_) (fun hge=>?_)
 ·have hcan:=NG hC hp hS hlt
  have hsucc:=qA p ls s r
  have hal:=oO p ls s r
  refine AWP.skip ?_
  refine AWP.seq ?_
  refine AWP.block ?_
  refine AWP.seq ?_
  refine AWP.region ?_
  unfold kQ worldH aZ boxW
  refine bI ?_
  refine AWP.sub (fr':=(3,.cptr [.sc (.int .i64 (r:Int))])::cdF ls.length r) (H':=kQ p ls s L (f5 p ls s r)) ?_ ?_
  ·(refine Sub.wgL p ls s b4 b4 (cC ls.length s) [] [] [[(8,0)],[(9,0)],[(10,0)],[(11,0)]] ([nil3]::lB 11 (f5 p ls s r).length::[.lp L (c7 p) .ready none]::[[.cells 1 (eN (f5 p ls s r))]]) ?_ rfl rfl rfl rfl rfl rfl rfl (bO fun i hi=>aO hi) dF (iA rfl rfl rfl rfl rfl rfl rfl ⟨⟨⟨_,rfl,ToB.cds rfl _⟩,trivial⟩,trivial⟩) ⟨.c _ rfl rfl,.c _ rfl rfl,.c _ rfl rfl,.c _ rfl rfl,.w _ _ (Nat.le_of_eq (aM _ _)),.w _ _ (Nat.le_of_eq (aM _ _)),.w _ _ (Nat.le_of_eq (aM _ _)),.w _ _ (Nat.le_of_eq (aM _ _)),.c _ rfl rfl,.c _ rfl rfl,.c _ rfl rfl,trivial⟩; (try unfold cdF); (all_goals (repeat' (first | exact aB.nil | exact aS.nil | exact aY.nil | exact ToL.nil | exact ToR.nil | refine aB.cons ?_ ?_ | refine aS.cons ?_ ?_ | refine dZ ?_ ?_ | exact To.undef _ | exact To.sc _ | exact To.hslL rfl rfl | exact To.asl _ _ _ _ _ _ rfl | exact To.ptrO rfl rfl rfl | exact To.mrefO rfl | exact To.nil rfl rfl rfl | exact wt1 | exact To.nilL | refine To.int ?_ | refine To.bool ?_ | refine To.hslL rfl ?_ | refine wt2 rfl ?_ ?_ ?_ | refine To.tupL ?_ | refine To.aggL ?_ | refine To.cptrL ?_ | refine To.fzp rfl rfl rfl ?_ | refine To.fzm rfl rfl ?_ | refine To.cloL ?_ ?_ | refine wt3 ?_ | refine wt4 ?_ | exact wt5 | refine wt6 ?_ | refine ToB.one ?_ | exact wt7 | ((with_reducible apply ToL.consE); case e9=>rfl) | refine wt8 ?_ | refine ToL.cons ?_ ?_ | exact wt11 | refine wt9 ?_ ?_ | refine dX ?_ | (with_reducible rfl) | assumption)); all_goals (first | rfl | assumption | (simp; done) | (simp; omega) | (rw[wrap_small (by omega) (by omega)]; done) | (rw[wrap_small (by omega) (by omega)]; omega) | (refine congrArg Nat.cast ?_; assumption) | skip)); exact .yld _ _ _ _ rfl)
  unfold cdF
  refine AWP.seq ?_
  cases hc:zZ p ls s r with
  | false=>
   rw[hc] at hcan hsucc
   rw[if_neg (by simp)] at hsucc
   refine AWP.region ?_
   refine bI ?_
   refine Reg.pv (nlB rfl) rfl hcan (.sc _) (ToL.cons To.worldX (ToL.cons (.sc _) ToL.nil)) ?_
   refine aA ?_
   refine⟨r+1,by omega,by omega,?_⟩
   rw[hsucc]
   (refine Sub.wgL p ls s b4 b4 (cC ls.length s) [] [] [[(8,0)],[(9,0)],[(10,0)],[(11,0)]] ([nil3]::lB 11 (f5 p ls s r).length::[.lp L (c7 p) .ready none]::[[.cells 1 (eN (f5 p ls s r))]]) ?_ rfl rfl rfl rfl rfl rfl rfl (bO fun i hi=>aO hi) dF (iA rfl rfl rfl rfl rfl rfl rfl ⟨⟨⟨_,rfl,ToB.cds rfl _⟩,trivial⟩,trivial⟩) ⟨.c _ rfl rfl,.c _ rfl rfl,.c _ rfl rfl,.c _ rfl rfl,.w _ _ (Nat.le_of_eq (aM _ _)),.w _ _ (Nat.le_of_eq (aM _ _)),.w _ _ (Nat.le_of_eq (aM _ _)),.w _ _ (Nat.le_of_eq (aM _ _)),.c _ rfl rfl,.c _ rfl rfl,.c _ rfl rfl,trivial⟩; (try unfold cdF); (all_goals (repeat' (first | exact aB.nil | exact aS.nil | exact aY.nil | exact ToL.nil | exact ToR.nil | refine aB.cons ?_ ?_ | refine aS.cons ?_ ?_ | refine dZ ?_ ?_ | exact To.undef _ | exact To.sc _ | exact To.hslL rfl rfl | exact To.asl _ _ _ _ _ _ rfl | exact To.ptrO rfl rfl rfl | exact To.mrefO rfl | exact To.nil rfl rfl rfl | exact wt1 | exact To.nilL | refine To.int ?_ | refine To.bool ?_ | refine To.hslL rfl ?_ | refine wt2 rfl ?_ ?_ ?_ | refine To.tupL ?_ | refine To.aggL ?_ | refine To.cptrL ?_ | refine To.fzp rfl rfl rfl ?_ | refine To.fzm rfl rfl ?_ | refine To.cloL ?_ ?_ | refine wt3 ?_ | refine wt4 ?_ | exact wt5 | refine wt6 ?_ | refine ToB.one ?_ | exact wt7 | ((with_reducible apply ToL.consE); case e9=>rfl) | refine wt8 ?_ | refine ToL.cons ?_ ?_ | exact wt11 | refine wt9 ?_ ?_ | refine dX ?_ | (with_reducible rfl) | assumption)); all_goals (first | rfl | assumption | (simp; done) | (simp; omega) | (rw[wrap_small (by omega) (by omega)]; done) | (rw[wrap_small (by omega) (by omega)]; omega) | (refine congrArg Nat.cast ?_; assumption) | skip)); exact .yld _ _ _ _ rfl)
  | true=>
   rw[hc] at hcan hsucc
   rw[if_pos rfl] at hsucc
   refine AWP.rY rfl ?_
   refine bI ?_
   refine Reg.pv (nlB rfl) rfl hcan (.sc _) (ToL.cons To.worldX (ToL.cons (.sc _) ToL.nil)) ?_
   refine bI ?_
   refine⟨rfl,nlB rfl,10,0,rfl,?_⟩
   refine(JO p ls s L hL (f5 p ls s r) (.act r) (by omega)).mono ?_
   rintro b H' ⟨rfl,rfl⟩
   refine aA ?_
   refine⟨r+1,by omega,by omega,?_⟩
   rw[hsucc]
   have hl1:(f5 p ls s r).length+1=(f5 p ls s r++[Cd.act r]).length:=by simp
   rw[hl1]
   (refine Sub.wgL p ls s b4 b4 (cC ls.length s) [] [] [[(8,0)],[(9,0)],[(10,0)],[(12,0)]] ([nil3]::lB 11 (f5 p ls s r++[Cd.act r]).length::[.lp L (c7 p) .ready none]::[[.cells 1 (eN (f5 p ls s r++[Cd.act r]))]]) ?_ rfl rfl rfl rfl rfl rfl rfl (bO fun i hi=>aO hi) dF (iA rfl rfl rfl rfl rfl rfl rfl ⟨⟨⟨_,rfl,ToB.cds rfl _⟩,trivial⟩,trivial⟩) ⟨.c _ rfl rfl,.c _ rfl rfl,.c _ rfl rfl,.c _ rfl rfl,.w _ _ (Nat.le_of_eq (aM _ _)),.w _ _ (Nat.le_of_eq (aM _ _)),.w _ _ (Nat.le_of_eq (aM _ _)),.w _ _ (Nat.le_of_eq (aM _ _)),.c _ rfl rfl,.c _ rfl rfl,.c _ rfl rfl,trivial⟩; (try unfold cdF); (all_goals (repeat' (first | exact aB.nil | exact aS.nil | exact aY.nil | exact ToL.nil | exact ToR.nil | refine aB.cons ?_ ?_ | refine aS.cons ?_ ?_ | refine dZ ?_ ?_ | exact To.undef _ | exact To.sc _ | exact To.hslL rfl rfl | exact To.asl _ _ _ _ _ _ rfl | exact To.ptrO rfl rfl rfl | exact To.mrefO rfl | exact To.nil rfl rfl rfl | exact wt1 | exact To.nilL | refine To.int ?_ | refine To.bool ?_ | refine To.hslL rfl ?_ | refine wt2 rfl ?_ ?_ ?_ | refine To.tupL ?_ | refine To.aggL ?_ | refine To.cptrL ?_ | refine To.fzp rfl rfl rfl ?_ | refine To.fzm rfl rfl ?_ | refine To.cloL ?_ ?_ | refine wt3 ?_ | refine wt4 ?_ | exact wt5 | refine wt6 ?_ | refine ToB.one ?_ | exact wt7 | ((with_reducible apply ToL.consE); case e9=>rfl) | refine wt8 ?_ | refine ToL.cons ?_ ?_ | exact wt11 | refine wt9 ?_ ?_ | refine dX ?_ | (with_reducible rfl) | assumption)); all_goals (first | rfl | assumption | (simp; done) | (simp; omega) | (rw[wrap_small (by omega) (by omega)]; done) | (rw[wrap_small (by omega) (by omega)]; omega) | (refine congrArg Nat.cast ?_; assumption) | skip)); exact .yld _ _ _ _ rfl)
 ·have e:r=ls.length:=by omega
  subst e
  refine AWP.exit ?_
  show AWP Tryz.prog F65.n 11 (aG [1] F65.code) Q _ _
  refine AWP.sub ?_ h
  unfold cdF
  exact Sub.keep ⟨Le.refl _,Le.refl _,Le.refl _,Le.refl _,trivial⟩
def ciF (r n m k:Nat):Fr:=[(0,.yld 10 0),(1,.cptr [.ptr 0 0 0 0]),(4,.cptr [.sc (.int .i64 (r:Int))]),(5,.mref 12 0),(32,.sc (.int .i64 (n:Int))),(33,.sc (.int .i64 (r:Int))),(44,.hsl 4 r 0 m),(45,.sc (.int .i64 (m:Int))),(46,.sc (.int .i64 (k:Int)))]
def ciC:dB:=aG [1,1,0,0,1,1,0,0,1,1,1,0,0,1,1,0] F65.code
set_option maxHeartbeats 16000000 in
theorem LM {p:Pg} {ls:List Ln} {s:St} (L:LC) (hL:LOK Tryz.prog F18.n L [74] lkA lkB) {r n m k i:Nat} (hrl:r < ls.length) (out:List Cd) (hn:out.length≤1000000) (b:Blk) (u:List (Int×Int)) (hb:UB u b) (Q:Exit→Fr→Heap→Prop):
  AWP Tryz.prog F65.n 11 (aG [0,1,1] ciC) (gG (fun fr H=>Sub 11 F65.n fr H (ciF r n m k) (iD p ls s L (out++[.take r k i]) b)) Q) ((6,.cptr [.sc (.int .i64 (k:Int))])::(7,.cptr [.sc (.int .i64 (i:Int))])::ciF r n m k) (iD p ls s L out b):=by
 show AWP _ _ _ (.seq _ _) _ _ _
 have hl1:out.length+1=(out++[Cd.take r k i]).length:=by simp
 unfold ciF
 refine AWP.seq ?_
 refine AWP.region ?_
 refine bI ?_
 refine AWP.seq ?_
 refine AWP.rY rfl ?_
 refine bI ?_
 refine⟨rfl,nlB rfl,10,0,rfl,?_⟩
 refine(HT p ls s L hL out (.take r k i) hn b u hb).mono ?_
 rintro e H' ⟨rfl,rfl⟩
 refine aA ?_
 rw[hl1]
 (refine Sub.wgL p ls s b4 b4 (cC ls.length s) [] [] [[(8,0)],[(9,0)],[(10,0)],[(13,0)],[(12,0)]] ([nil3]::lB 11 (out++[Cd.take r k i]).length::[.lp L (c7 p) .ready none]::[[.cells 1 (eN (out++[Cd.take r k i]))],[b]]) ?_ rfl rfl rfl rfl rfl rfl rfl (bO fun i hi=>aO hi) dF (iA rfl rfl rfl rfl rfl rfl rfl ⟨⟨⟨_,rfl,ToB.cds rfl _⟩,trivial⟩,⟨⟨_,rfl,(hb).to⟩,trivial⟩,trivial⟩) ⟨.c _ rfl rfl,.c _ rfl rfl,.c _ rfl rfl,.c _ rfl rfl,.w _ _ (Nat.le_of_eq (aM _ _)),.w _ _ (Nat.le_of_eq (aM _ _)),.w _ _ (Nat.le_of_eq (aM _ _)),.w _ _ (Nat.le_of_eq (aM _ _)),.c _ rfl rfl,.c _ rfl rfl,.c _ rfl rfl,trivial⟩; (try unfold ciF); (all_goals (repeat' (first | exact aB.nil | exact aS.nil | exact aY.nil | exact ToL.nil | exact ToR.nil | refine aB.cons ?_ ?_ | refine aS.cons ?_ ?_ | refine dZ ?_ ?_ | exact To.undef _ | exact To.sc _ | exact To.hslL rfl rfl | exact To.asl _ _ _ _ _ _ rfl | exact To.ptrO rfl rfl rfl | exact To.mrefO rfl | exact To.nil rfl rfl rfl | exact wt1 | exact To.nilL | refine To.int ?_ | refine To.bool ?_ | refine To.hslL rfl ?_ | refine wt2 rfl ?_ ?_ ?_ | refine To.tupL ?_ | refine To.aggL ?_ | refine To.cptrL ?_ | refine To.fzp rfl rfl rfl ?_ | refine To.fzm rfl rfl ?_ | refine To.cloL ?_ ?_ | refine wt3 ?_ | refine wt4 ?_ | exact wt5 | refine wt6 ?_ | refine ToB.one ?_ | exact wt7 | ((with_reducible apply ToL.consE); case e9=>rfl) | refine wt8 ?_ | refine ToL.cons ?_ ?_ | exact wt11 | refine wt9 ?_ ?_ | refine dX ?_ | (with_reducible rfl) | assumption)); all_goals (first | rfl | assumption | (simp; done) | (simp; omega) | (rw[wrap_small (by omega) (by omega)]; done) | (rw[wrap_small (by omega) (by omega)]; omega) | (refine congrArg Nat.cast ?_; assumption) | skip)); (exact .yld _ _ _ _ rfl); exact To.hslL (c9 rfl hrl) rfl)
theorem I6 {p:Pg} {ls:List Ln} {s:St} (L:LC) (hL:LOK Tryz.prog F18.n L [74] lkA lkB) {r n m k i:Nat} (hrl:r < ls.length) (out:List Cd) (hn:out.length≤1000000) (b:Blk) (u:List (Int×Int)) (hb:UB u b) (Q:Exit→Fr→Heap→Prop)
  (hQ:∀ fr H,Sub 11 F65.n fr H (ciF r n m k) (iD p ls s L (out++[.take r k i]) b)→Q .normal fr H):
  AWP Tryz.prog F65.n 11 (aG [0,1,1] ciC) Q ((6,.cptr [.sc (.int .i64 (k:Int))])::(7,.cptr [.sc (.int .i64 (i:Int))])::ciF r n m k) (iD p ls s L out b):=
 AWP.mono (LM L hL hrl out hn b u hb Q) fun e fr H h=>by cases e<;>first | exact h | exact hQ _ _ h
theorem GT {p:Pg} {ls:List Ln} {r:Nat} {q:List Nat} {u:List (Int×Int)} {out:List Cd} {k i:Nat} (hk:q[k]?=some i) (h:gS (jS p (r,i)).k=false):iJ p ls r q (u,out) k=(u,out++[.take r k i]):=by
 have e:q.getD k 0=i:=by rw[List.getD_eq_getElem?_getD,hk]; rfl
 unfold iJ yC
 rw[e]
 dsimp only
 rw[if_neg (by rw[h]; simp)]
theorem G5 {p:Pg} {ls:List Ln} {r:Nat} {q:List Nat} {u:List (Int×Int)} {out:List Cd} {k i:Nat} (hk:q[k]?=some i) (h:gS (jS p (r,i)).k=true) (hm:((acN ls (r,i)).r,(acN ls (r,i)).a)∈u):iJ p ls r q (u,out) k=(u,out):=by
 have e:q.getD k 0=i:=by rw[List.getD_eq_getElem?_getD,hk]; rfl
 unfold iJ yC
 rw[e]
 dsimp only
 rw[if_pos h,if_pos hm]
theorem HJ {p:Pg} {ls:List Ln} {r:Nat} {q:List Nat} {u:List (Int×Int)} {out:List Cd} {k i:Nat} (hk:q[k]?=some i) (h:gS (jS p (r,i)).k=true) (hm:((acN ls (r,i)).r,(acN ls (r,i)).a)∉u):iJ p ls r q (u,out) k=(u++[((acN ls (r,i)).r,(acN ls (r,i)).a)],out++[.take r k i]):=by
 have e:q.getD k 0=i:=by rw[List.getD_eq_getElem?_getD,hk]; rfl
 unfold iJ yC
 rw[e]
 dsimp only
 rw[if_pos h,if_neg hm]
set_option maxHeartbeats 16000000 in
theorem candT {p:Pg} {ls:List Ln} {s:St} (hC:d9 p ls) (hS:cA p ls s) (L:LC) (hL:LOK Tryz.prog F18.n L [74] lkA lkB) {r n k i:Nat} (hrl:r < ls.length) (hk:(aI s r).q[k]?=some i) (out:List Cd) (hn:out.length≤1000000) (b:Blk) (u:List (Int×Int)) (hb:UB u b) (Q:Exit→Fr→Heap→Prop):
  AWP Tryz.prog F65.n 11 ciC (gG (fun fr H=>∃ b',UB (iJ p ls r (aI s r).q (u,out) k).1 b'∧Sub 11 F65.n fr H (ciF r n (aI s r).q.length k) (iD p ls s L (iJ p ls r (aI s r).q (u,out) k).2 b')) Q) (ciF r n (aI s r).q.length k) (iD p ls s L out b):=by
 show AWP _ _ _ (.block _ _) _ _ _
 have hnl:=hC.len
 obtain⟨l,hra⟩:∃ l,p.acts[r]?=some l:=⟨_,gEg (show r < p.acts.length by omega)⟩
 have hlen:=dP hra
 obtain⟨LL,hLL,hO⟩:=hC.get hra
 have hkl:=(gEs.1 hk).1
 have hqi:=hS.qi r hrl i (List.mem_of_getElem? hk)
 have hdl:=hS.d r hrl
 obtain⟨x,hx⟩:∃ x,l[i]?=some x:=⟨_,gEg (show i < l.length by omega)⟩
 have hok:=hO.act _ _ hx
 have hap:=jL hra hx
 have hrow:=gX hra
 have hxr:=oN hx
 have f1:=gU hok.k1 hok.k16
 unfold jI at f1
 have u1:gS ((x.k.toNat:Nat):Int)=gS x.k:=by rw[show((x.k.toNat:Nat):Int)=x.k by have:=hok.k1; omega]
 rw[u1] at f1
 have hm4:hget (iD p ls s L out b) 4 r=some (.cells 1 (bF (aI s r).q)):=aO hrl
 have hql:=bZ (aI s r).q
 have hqg:=yJ (aI s r).q k hkl
 rw[(gEs.1 hk).2] at hqg
 have hy:=I6 (p:=p) (s:=s) L hL (n:=n) (m:=(aI s r).q.length) (k:=k) (i:=i) hrl
 unfold ciF
 unfold aJ at hxr
 refine AWP.block ?_
 refine AWP.seq ?_
 refine AWP.region ?_
 refine bI ?_
 refine Reg.o rfl (eJ rfl rfl hm4 hkl hql) ?_
 refine Reg.o rfl (eE rfl hm4 hqg rfl) ?_
 refine bI ?_
 refine AWP.sub (fr':=(6,.cptr [.sc (.int .i64 (k:Int))])::(7,.cptr [.sc (.int .i64 (i:Int))])::ciF r n (aI s r).q.length k) (H':=iD p ls s L out b) ?_ ?_
 ·(refine Sub.wgL p ls s b4 b4 (cC ls.length s) [] [] [[(8,0)],[(9,0)],[(10,0)],[(11,0)],[(12,0)]] ([nil3]::lB 11 (out).length::[.lp L (c7 p) .ready none]::[[.cells 1 (eN (out))],[b]]) ?_ rfl rfl rfl rfl rfl rfl rfl (bO fun i hi=>aO hi) dF (iA rfl rfl rfl rfl rfl rfl rfl ⟨⟨⟨_,rfl,ToB.cds rfl _⟩,trivial⟩,⟨⟨_,rfl,(hb).to⟩,trivial⟩,trivial⟩) ⟨.c _ rfl rfl,.c _ rfl rfl,.c _ rfl rfl,.c _ rfl rfl,.w _ _ (Nat.le_of_eq (aM _ _)),.w _ _ (Nat.le_of_eq (aM _ _)),.w _ _ (Nat.le_of_eq (aM _ _)),.w _ _ (Nat.le_of_eq (aM _ _)),.c _ rfl rfl,.c _ rfl rfl,.c _ rfl rfl,trivial⟩; (try unfold ciF); (all_goals (repeat' (first | exact aB.nil | exact aS.nil | exact aY.nil | exact ToL.nil | exact ToR.nil | refine aB.cons ?_ ?_ | refine aS.cons ?_ ?_ | refine dZ ?_ ?_ | exact To.undef _ | exact To.sc _ | exact To.hslL rfl rfl | exact To.asl _ _ _ _ _ _ rfl | exact To.ptrO rfl rfl rfl | exact To.mrefO rfl | exact To.nil rfl rfl rfl | exact wt1 | exact To.nilL | refine To.int ?_ | refine To.bool ?_ | refine To.hslL rfl ?_ | refine wt2 rfl ?_ ?_ ?_ | refine To.tupL ?_ | refine To.aggL ?_ | refine To.cptrL ?_ | refine To.fzp rfl rfl rfl ?_ | refine To.fzm rfl rfl ?_ | refine To.cloL ?_ ?_ | refine wt3 ?_ | refine wt4 ?_ | exact wt5 | refine wt6 ?_ | refine ToB.one ?_ | exact wt7 | ((with_reducible apply ToL.consE); case e9=>rfl) | refine wt8 ?_ | refine ToL.cons ?_ ?_ | exact wt11 | refine wt9 ?_ ?_ | refine dX ?_ | (with_reducible rfl) | assumption)); all_goals (first | rfl | assumption | (simp; done) | (simp; omega) | (rw[wrap_small (by omega) (by omega)]; done) | (rw[wrap_small (by omega) (by omega)]; omega) | (refine congrArg Nat.cast ?_; assumption) | skip)); (exact .yld _ _ _ _ rfl); exact To.hslL (c9 rfl hrl) rfl)
 unfold ciF iD worldH aZ boxW ckV
 refine AWP.seq ?_
 refine AWP.seq ?_
 refine AWP.dk mixed ?_
 refine aA ?_
 refine DK.o rfl (bS rfl rfl f1) ?_
 refine aA ?_
 refine DK.nil ⟨by kernel_rfl,?_⟩
 rw[← hap] at *
 have hlk:=fun g k fr H x ix h1 h2=>rE (g:=g) (k:=k) (fr:=fr) (H:=H) (x:=x) (ix:=ix) (i:=i) hLL h1 h2
 have hr1:=dD hLL
 unfold lnR epR at hr1
 cases hu:gS (jS p (r,i)).k with
 | false=>
  rw[GT hk hu]
  refine AWP.condF rfl ?_
  refine AWP.skip ?_
  refine AWP.sub (fr':=(6,.cptr [.sc (.int .i64 (k:Int))])::(7,.cptr [.sc (.int .i64 (i:Int))])::ciF r n (aI s r).q.length k) (H':=iD p ls s L out b) ?_ ?_
  ·(refine Sub.wgL p ls s b4 b4 (cC ls.length s) [] [] [[(8,0)],[(9,0)],[(10,0)],[(11,0)],[(12,0)]] ([nil3]::lB 11 (out).length::[.lp L (c7 p) .ready none]::[[.cells 1 (eN (out))],[b]]) ?_ rfl rfl rfl rfl rfl rfl rfl (bO fun i hi=>aO hi) dF (iA rfl rfl rfl rfl rfl rfl rfl ⟨⟨⟨_,rfl,ToB.cds rfl _⟩,trivial⟩,⟨⟨_,rfl,(hb).to⟩,trivial⟩,trivial⟩) ⟨.c _ rfl rfl,.c _ rfl rfl,.c _ rfl rfl,.c _ rfl rfl,.w _ _ (Nat.le_of_eq (aM _ _)),.w _ _ (Nat.le_of_eq (aM _ _)),.w _ _ (Nat.le_of_eq (aM _ _)),.w _ _ (Nat.le_of_eq (aM _ _)),.c _ rfl rfl,.c _ rfl rfl,.c _ rfl rfl,trivial⟩; (try unfold ciF); (all_goals (repeat' (first | exact aB.nil | exact aS.nil | exact aY.nil | exact ToL.nil | exact ToR.nil | refine aB.cons ?_ ?_ | refine aS.cons ?_ ?_ | refine dZ ?_ ?_ | exact To.undef _ | exact To.sc _ | exact To.hslL rfl rfl | exact To.asl _ _ _ _ _ _ rfl | exact To.ptrO rfl rfl rfl | exact To.mrefO rfl | exact To.nil rfl rfl rfl | exact wt1 | exact To.nilL | refine To.int ?_ | refine To.bool ?_ | refine To.hslL rfl ?_ | refine wt2 rfl ?_ ?_ ?_ | refine To.tupL ?_ | refine To.aggL ?_ | refine To.cptrL ?_ | refine To.fzp rfl rfl rfl ?_ | refine To.fzm rfl rfl ?_ | refine To.cloL ?_ ?_ | refine wt3 ?_ | refine wt4 ?_ | exact wt5 | refine wt6 ?_ | refine ToB.one ?_ | exact wt7 | ((with_reducible apply ToL.consE); case e9=>rfl) | refine wt8 ?_ | refine ToL.cons ?_ ?_ | exact wt11 | refine wt9 ?_ ?_ | refine dX ?_ | (with_reducible rfl) | assumption)); all_goals (first | rfl | assumption | (simp; done) | (simp; omega) | (rw[wrap_small (by omega) (by omega)]; done) | (rw[wrap_small (by omega) (by omega)]; omega) | (refine congrArg Nat.cast ?_; assumption) | skip)); (exact .yld _ _ _ _ rfl); exact To.hslL (c9 rfl hrl) rfl)
  exact hy out hn b u hb _ fun fr H h=>⟨b,hb,h⟩
 | true=>
  refine AWP.condT rfl ?_
  refine AWP.seq ?_
  refine AWP.dk mixed ?_
  refine aA ?_
  refine DK.o rfl (hlk _ _ _ _ _ _ rfl rfl) ?_
  refine aA ?_
  refine DK.nil ⟨by kernel_rfl,?_⟩
  refine AWP.seq ?_
  refine AWP.region ?_
  generalize hcc:acN ls (r,i)=c at *
  obtain⟨c1,c2,c3⟩:=c
  unfold acR
  dsimp only
  refine bI ?_
  refine AWP.sub (fr':=(6,.cptr [.sc (.int .i64 (k:Int))])::(7,.cptr [.sc (.int .i64 (i:Int))])::(8,.cptr [.sc (.int .i64 c1),.sc (.int .i64 c2),.sc (.int .i64 0)])::ciF r n (aI s r).q.length k) (H':=iD p ls s L out b) ?_ ?_
  ·(refine Sub.wgL p ls s b4 b4 (cC ls.length s) [] [] [[(8,0)],[(9,0)],[(10,0)],[(11,0)],[(12,0)]] ([nil3]::lB 11 (out).length::[.lp L (c7 p) .ready none]::[[.cells 1 (eN (out))],[b]]) ?_ rfl rfl rfl rfl rfl rfl rfl (bO fun i hi=>aO hi) dF (iA rfl rfl rfl rfl rfl rfl rfl ⟨⟨⟨_,rfl,ToB.cds rfl _⟩,trivial⟩,⟨⟨_,rfl,(hb).to⟩,trivial⟩,trivial⟩) ⟨.c _ rfl rfl,.c _ rfl rfl,.c _ rfl rfl,.c _ rfl rfl,.w _ _ (Nat.le_of_eq (aM _ _)),.w _ _ (Nat.le_of_eq (aM _ _)),.w _ _ (Nat.le_of_eq (aM _ _)),.w _ _ (Nat.le_of_eq (aM _ _)),.c _ rfl rfl,.c _ rfl rfl,.c _ rfl rfl,trivial⟩; (try unfold ciF); (all_goals (repeat' (first | exact aB.nil | exact aS.nil | exact aY.nil | exact ToL.nil | exact ToR.nil | refine aB.cons ?_ ?_ | refine aS.cons ?_ ?_ | refine dZ ?_ ?_ | exact To.undef _ | exact To.sc _ | exact To.hslL rfl rfl | exact To.asl _ _ _ _ _ _ rfl | exact To.ptrO rfl rfl rfl | exact To.mrefO rfl | exact To.nil rfl rfl rfl | exact wt1 | exact To.nilL | refine To.int ?_ | refine To.bool ?_ | refine To.hslL rfl ?_ | refine wt2 rfl ?_ ?_ ?_ | refine To.tupL ?_ | refine To.aggL ?_ | refine To.cptrL ?_ | refine To.fzp rfl rfl rfl ?_ | refine To.fzm rfl rfl ?_ | refine To.cloL ?_ ?_ | refine wt3 ?_ | refine wt4 ?_ | exact wt5 | refine wt6 ?_ | refine ToB.one ?_ | exact wt7 | ((with_reducible apply ToL.consE); case e9=>rfl) | refine wt8 ?_ | refine ToL.cons ?_ ?_ | exact wt11 | refine wt9 ?_ ?_ | refine dX ?_ | (with_reducible rfl) | assumption)); all_goals (first | rfl | assumption | (simp; done) | (simp; omega) | (rw[wrap_small (by omega) (by omega)]; done) | (rw[wrap_small (by omega) (by omega)]; omega) | (refine congrArg Nat.cast ?_; assumption) | skip)); (exact .yld _ _ _ _ rfl); exact To.hslL (c9 rfl hrl) rfl)
  unfold ciF
  refine AWP.seq ?_
  refine AWP.seq ?_
  refine AWP.region ?_
  refine bI ?_
  refine Reg.o rfl (yM hb rfl rfl rfl) ?_
  refine Reg.nil ?_
  by_cases hm:(c1,c2)∈u
  ·rw[G5 hk hu (by rw[hcc]; exact hm),dTr hm]
   refine AWP.condT rfl ?_
   refine AWP.exit ?_
   refine⟨b,hb,?_⟩
   (refine Sub.wgL p ls s b4 b4 (cC ls.length s) [] [] [[(8,0)],[(9,0)],[(10,0)],[(11,0)],[(12,0)]] ([nil3]::lB 11 (out).length::[.lp L (c7 p) .ready none]::[[.cells 1 (eN (out))],[b]]) ?_ rfl rfl rfl rfl rfl rfl rfl (bO fun i hi=>aO hi) dF (iA rfl rfl rfl rfl rfl rfl rfl ⟨⟨⟨_,rfl,ToB.cds rfl _⟩,trivial⟩,⟨⟨_,rfl,(hb).to⟩,trivial⟩,trivial⟩) ⟨.c _ rfl rfl,.c _ rfl rfl,.c _ rfl rfl,.c _ rfl rfl,.w _ _ (Nat.le_of_eq (aM _ _)),.w _ _ (Nat.le_of_eq (aM _ _)),.w _ _ (Nat.le_of_eq (aM _ _)),.w _ _ (Nat.le_of_eq (aM _ _)),.c _ rfl rfl,.c _ rfl rfl,.c _ rfl rfl,trivial⟩; (try unfold ciF); (all_goals (repeat' (first | exact aB.nil | exact aS.nil | exact aY.nil | exact ToL.nil | exact ToR.nil | refine aB.cons ?_ ?_ | refine aS.cons ?_ ?_ | refine dZ ?_ ?_ | exact To.undef _ | exact To.sc _ | exact To.hslL rfl rfl | exact To.asl _ _ _ _ _ _ rfl | exact To.ptrO rfl rfl rfl | exact To.mrefO rfl | exact To.nil rfl rfl rfl | exact wt1 | exact To.nilL | refine To.int ?_ | refine To.bool ?_ | refine To.hslL rfl ?_ | refine wt2 rfl ?_ ?_ ?_ | refine To.tupL ?_ | refine To.aggL ?_ | refine To.cptrL ?_ | refine To.fzp rfl rfl rfl ?_ | refine To.fzm rfl rfl ?_ | refine To.cloL ?_ ?_ | refine wt3 ?_ | refine wt4 ?_ | exact wt5 | refine wt6 ?_ | refine ToB.one ?_ | exact wt7 | ((with_reducible apply ToL.consE); case e9=>rfl) | refine wt8 ?_ | refine ToL.cons ?_ ?_ | exact wt11 | refine wt9 ?_ ?_ | refine dX ?_ | (with_reducible rfl) | assumption)); all_goals (first | rfl | assumption | (simp; done) | (simp; omega) | (rw[wrap_small (by omega) (by omega)]; done) | (rw[wrap_small (by omega) (by omega)]; omega) | (refine congrArg Nat.cast ?_; assumption) | skip)); (exact .yld _ _ _ _ rfl); exact To.hslL (c9 rfl hrl) rfl)
  ·rw[HJ hk hu (by rw[hcc]; exact hm),dFa hm,hcc]
   refine AWP.condF rfl ?_
   refine AWP.skip ?_
   refine AWP.region ?_
   refine bI ?_
   refine Reg.on rfl (AR hb hm rfl rfl rfl rfl) ?_
   refine Reg.nil ?_
   have hb2:=hb.ins hm
   refine AWP.sub (fr':=(6,.cptr [.sc (.int .i64 (k:Int))])::(7,.cptr [.sc (.int .i64 (i:Int))])::ciF r n (aI s r).q.length k) (H':=iD p ls s L out (GG b c1 c2)) ?_ ?_
   ·(refine Sub.wgL p ls s b4 b4 (cC ls.length s) [] [] [[(8,0)],[(9,0)],[(10,0)],[(11,0)],[(12,0)]] ([nil3]::lB 11 (out).length::[.lp L (c7 p) .ready none]::[[.cells 1 (eN (out))],[GG b c1 c2]]) ?_ rfl rfl rfl rfl rfl rfl rfl (bO fun i hi=>aO hi) dF (iA rfl rfl rfl rfl rfl rfl rfl ⟨⟨⟨_,rfl,ToB.cds rfl _⟩,trivial⟩,⟨⟨_,rfl,(hb2).to⟩,trivial⟩,trivial⟩) ⟨.c _ rfl rfl,.c _ rfl rfl,.c _ rfl rfl,.c _ rfl rfl,.w _ _ (Nat.le_of_eq (aM _ _)),.w _ _ (Nat.le_of_eq (aM _ _)),.w _ _ (Nat.le_of_eq (aM _ _)),.w _ _ (Nat.le_of_eq (aM _ _)),.c _ rfl rfl,.c _ rfl rfl,.c _ rfl rfl,trivial⟩; (try unfold ciF); (all_goals (repeat' (first | exact aB.nil | exact aS.nil | exact aY.nil | exact ToL.nil | exact ToR.nil | refine aB.cons ?_ ?_ | refine aS.cons ?_ ?_ | refine dZ ?_ ?_ | exact To.undef _ | exact To.sc _ | exact To.hslL rfl rfl | exact To.asl _ _ _ _ _ _ rfl | exact To.ptrO rfl rfl rfl | exact To.mrefO rfl | exact To.nil rfl rfl rfl | exact wt1 | exact To.nilL | refine To.int ?_ | refine To.bool ?_ | refine To.hslL rfl ?_ | refine wt2 rfl ?_ ?_ ?_ | refine To.tupL ?_ | refine To.aggL ?_ | refine To.cptrL ?_ | refine To.fzp rfl rfl rfl ?_ | refine To.fzm rfl rfl ?_ | refine To.cloL ?_ ?_ | refine wt3 ?_ | refine wt4 ?_ | exact wt5 | refine wt6 ?_ | refine ToB.one ?_ | exact wt7 | ((with_reducible apply ToL.consE); case e9=>rfl) | refine wt8 ?_ | refine ToL.cons ?_ ?_ | exact wt11 | refine wt9 ?_ ?_ | refine dX ?_ | (with_reducible rfl) | assumption)); all_goals (first | rfl | assumption | (simp; done) | (simp; omega) | (rw[wrap_small (by omega) (by omega)]; done) | (rw[wrap_small (by omega) (by omega)]; omega) | (refine congrArg Nat.cast ?_; assumption) | skip)); (exact .yld _ _ _ _ rfl); exact To.hslL (c9 rfl hrl) rfl)
   exact hy out hn (GG b c1 c2) _ hb2 _ fun fr H h=>⟨GG b c1 c2,hb2,h⟩
end Go.Proofs.YtkjoolaahocgdaaGreat
