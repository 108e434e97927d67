import Derived.Test.YtkjoolaahocgdaaGreatGWiU24
import Derived.Test.YtkjoolaahocgdaaGreatGWiU4
import Derived.Test.YtkjoolaahocgdaaGreatGWiL
import Derived.Test.YtkjoolaahocgdaaGreatGWiT6
import Derived.Test.YtkjoolaahocgdaaGreatGWiT1
namespace Go.Proofs.YtkjoolaahocgdaaGreat
open Go.Av Go.Proofs
set_option maxRecDepth 20000
def valsG (g:List (Nat×Int)) (m:Nat):List Int:=(List.range m).filterMap fun i=>lookN i g
theorem valsG_succ (g:List (Nat×Int)) (m:Nat):valsG g (m+1)=match lookN m g with | some v=>valsG g m++[v] | none=>valsG g m:=by
 unfold valsG
 rw[List.range_succ,List.filterMap_append]
 cases h:lookN m g with
 | none=>simp[h]
 | some v=>simp[h]
theorem valsG_len (g:List (Nat×Int)) (m:Nat):(valsG g m).length≤m:=by
 unfold valsG
 refine Nat.le_trans (List.length_filterMap_le _ _) ?_
 rw[List.length_range]
 exact Nat.le_refl _
def valsP (p:Pg) (s:St) (r:Nat):List Int:=valsG (prAt s r).g (lenA p r)
def stuckB (p:Pg) (s:St) (r:Nat):Bool:=decide ((prAt s r).d < lenA p r)
def stuckN (p:Pg) (s:St) (n:Nat):List Nat:=(List.range n).filter (stuckB p s)
theorem stuckN_succ (p:Pg) (s:St) (n:Nat):stuckN p s (n+1)=if stuckB p s n=true then stuckN p s n++[n] else stuckN p s n:=by
 unfold stuckN
 rw[List.range_succ,List.filter_append]
 by_cases h:stuckB p s n=true
 ·rw[if_pos h]; simp[h]
 ·rw[if_neg h]; simp[h]
theorem stuckN_len (p:Pg) (s:St) (n:Nat):(stuckN p s n).length≤n:=by
 unfold stuckN
 refine Nat.le_trans (List.length_filter_le _ _) ?_
 rw[List.length_range]
 exact Nat.le_refl _
def valsR (p:Pg) (s:St) (n:Nat):List (List AV):=row1 n fun r=>.list 1 (intsR (valsP p s r))
instance (p:Pg) (s:St) (n:Nat):PRs (valsR p s n):=inferInstanceAs (PRs (row1 n fun r=>AV.list 1 (intsR (valsP p s r))))
def resV (p:Pg) (s:St) (n:Nat):AV:=.tup [.agg [.list 1 (valsR p s n),.list 1 (memV n s),.list 1 (natsR (stuckN p s n))],.sc (.int .i64 0)]
def rF (p:Pg) (ls:List Ln) (s:St) (r:Nat):Fr:=[(2,.cptr [.sc (.int .i64 p.cells),.list 1 (progR p.acts)]),(4,.ptr 0 0 0 0),(12,.ptr 1 0 0 0),(98,.list 3 (procsV ls.length s)),(99,.sc (.int .i64 (ls.length:Int))),(100,.sc (.int .i64 (r:Int)))]
def rH (p:Pg) (ls:List Ln) (s:St) (r:Nat):Heap:=[[nil3],[.cells 3 [[.hsl 2 0 0 r,.list 1 (memV ls.length s),.hsl 3 0 0 (stuckN p s r).length]]],[.cells 1 (valsR p s r)],[.cells 1 (natsR (stuckN p s r))]]
theorem To.worldS {n:Nat} {S:Nat→Nat→Bool} (hS:∀ g i,g < 8→S g i=true) {p:Pg} {ls:List Ln} {s:St} {H:Heap} {ρ:Nat→Nat→Option (Nat×Nat)} (h0:hget H 0 0=some (.cells 5 [boxW p ls s.seed])) (h1:hget H 1 0=some (.cells 3 (procsH ls.length s b4))) (h2:hget H 2 0=some (.cells 1 (memH ls.length s)))
  (h3:hget H 3 0=some (.cells 1 (heldH ls.length))) (h4:∀ r,r < ls.length→hget H 4 r=some (.cells 1 (natsR (prAt s r).q))) (h5:∀ r,r < ls.length→hget H 5 r=some (.map (retE (prAt s r).g)))
  (h6:∀ r,r < ls.length→hget H 6 r=some (.cells 1 (intsR (memAt s r)))) (h7:∀ r,r < ls.length→hget H 7 r=some (.map (retE (heldAt s r)))):To (ToT H n S) ρ (.ptr 0 0 0 0) (worldV p ls s):=by
 refine To.fzp h0 (hS _ _ (by decide)) rfl ?_
 unfold boxW
 refine To.cptrL (ToL.cons (.pure (pv _)) (ToL.cons (.sc _) (ToL.cons ?_ (ToL.cons ?_ (ToL.cons ?_ ToL.nil)))))
 ·refine To.fzT h1 (hS _ _ (by decide)) (procsH_len _ _ _) (To.listR ?_)
  unfold procsH procsV
  refine ToR.map fun r hr=>?_
  have hr:=List.mem_range.1 hr
  exact ToL.cons (.sc _) (ToL.cons (To.fz (h4 r hr) (hS 4 r (by decide)) (natsR_len _) rfl (prs _)) (ToL.cons (To.fzm (h5 r hr) (hS _ _ (by decide)) (.pure (pv (.tmap (retE (prAt s r).g))))) ToL.nil))
 ·refine To.fzT h2 (hS _ _ (by decide)) (memH_len _ _) (To.row1 fun r hr=>?_)
  exact To.fz (h6 r hr) (hS _ _ (by decide)) (intsR_len _) rfl (prs _)
 ·refine To.fzT h3 (hS _ _ (by decide)) (heldH_len _) (To.row1 fun r hr=>?_)
  exact To.fzm (h7 r hr) (hS _ _ (by decide)) (.pure (pv (.tmap (retE (heldAt s r)))))
set_option maxHeartbeats 16000000 in
theorem resR {p:Pg} {ls:List Ln} {s:St} (hC:CkOK p ls) (_:RunOK p ls s):
  AWP Tryz.prog F18.n 0 (pickI [1,1,1,1,1,1] F18.code) (EndP F18.res (resV p s ls.length)) (mF p) (worldH p ls s++[[nil3]]):=by
 show AWP _ _ _ (.seq (.region _) _) _ _ _
 have hn:=hC.len
 have h64:=hC.n64
 have e1:=progR_len p.acts
 have e0:=procsV_len ls.length s
 refine AWP.sub (fr':=[(2,.cptr [.sc (.int .i64 p.cells),.list 1 (progR p.acts)]),(4,.ptr 0 0 0 0),(9,worldV p ls s)]) (H':=[[nil3]]) ?_ ?_
 ·unfold mF
  refine Sub.to [] [[(8,0)]] ?_ ⟨⟨⟨_,rfl,nil3_to⟩,trivial⟩,trivial⟩ rfl rfl rfl
  refine ToAll.cons (To.pure (pv (.cptr [.sc (.int .i64 p.cells),.list 1 (progR p.acts)]))) (ToAll.cons (To.ptrO rfl rfl rfl) (ToAll.cons ?_ ToAll.nil))
  exact To.worldS (fun g i hg=>by
   unfold notIn
   have e:Nat.beq g 8=false:=Bool.eq_false_iff.2 fun h=>by have:=Nat.eq_of_beq_eq_true h; omega
   simp[idIn,e]) rfl rfl rfl rfl (fun _ hr=>fam_get hr) (fun _ hr=>fam_get hr) (fun _ hr=>fam_get hr) fun _ hr=>fam_get hr
 have hw:PV (worldV p ls s):=inferInstance
 unfold worldV nil3
 refine walkX ?_
 rw[e0]
 refine AWP.loop (fun r:Nat=>rF p ls s r) (fun r=>rH p ls s r) (fun r=>r≤ls.length) (fun r=>ls.length - r) 0 (Nat.zero_le _) ?_ ?_
 ·unfold rF rH nil3
  show Sub _ _ _ _ _ [[.cells 3 [[.sc (.slice none 0 0),.sc (.slice none 0 0),.sc (.slice none 0 0)]]],[.cells 3 [[.hsl 2 0 0 0,.list 1 (memV ls.length s),.hsl 3 0 0 0]]],[.cells 1 []],[.cells 1 []]]
  exact Sub.w [1,1] [[(0,0)],[(1,0)],[(2,0)],[(3,0)]]
 rintro r hr
 unfold rF
 refine AWP.seq ?_
 refine AWP.region ?_
 refine walkR ?_
 refine AWP.seq ?_
 refine AWP.condD rfl (fun hrl=>?_) (fun hge=>?_)
 ·obtain⟨l,hra⟩:∃ l,p.acts[r]?=some l:=⟨_,gEg (show r < p.acts.length by omega)⟩
  have hlen:=lenA_get hra
  have hrow:=progR_get hra
  have e2:=actsR_len l
  have hpr:=procsV_ix (s:=s) hrl
  have hl100:l.length≤100:=by
   obtain⟨L,hL,hO⟩:=hC.get hra
   exact hO.len
  have hsl:=stuckN_len p s r
  have hss:=stuckN_succ p s r
  have hvl:valsP p s r=valsG (prAt s r).g l.length:=by unfold valsP; rw[hlen]
  have hv1:valsR p s (r+1)=valsR p s r++[[.list 1 (intsR (valsP p s r))]]:=row1_succ _ _
  have hvrl:(valsR p s r).length=r:=row1_len _ _
  have hsb:stuckB p s r=decide ((prAt s r).d < l.length):=by unfold stuckB; rw[hlen]
  unfold prV at hpr
  have hlk:=fun i=>mfind_ret i (prAt s r).g
  unfold rH nil3
  refine walkX ?_
  rw[e2]
  refine AWP.loop (fun k:Nat=>[(2,.cptr [.sc (.int .i64 p.cells),.list 1 (progR p.acts)]),(4,.ptr 0 0 0 0),(12,.ptr 1 0 0 0),(98,.list 3 (procsV ls.length s)),(99,.sc (.int .i64 (ls.length:Int))),(100,.sc (.int .i64 (r:Int))),(13,.sc (.int .i64 (r:Int))),(14,.cptr [.sc (.int .i64 ((prAt s r).d:Int)),.list 1 (natsR (prAt s r).q),.tmap (retE (prAt s r).g)]),(15,.hsl 4 0 0 (valsG (prAt s r).g k).length),(110,.sc (.int .i64 (l.length:Int))),(111,.sc (.int .i64 (k:Int)))])
   (fun k=>[[nil3],[.cells 3 [[.hsl 2 0 0 r,.list 1 (memV ls.length s),.hsl 3 0 0 (stuckN p s r).length]]],[.cells 1 (valsR p s r)],[.cells 1 (natsR (stuckN p s r))],[.cells 1 (intsR (valsG (prAt s r).g k))]]) (fun k=>k≤l.length) (fun k=>l.length - k) 0 (Nat.zero_le _) ?_ ?_
  ·unfold nil3
   show Sub _ _ _ _ _ [_,_,_,_,[.cells 1 []]]
   exact Sub.w [1] [[(0,0)],[(1,0)],[(2,0)],[(3,0)],[(5,0)]]
  ·intro k hk
   have hvs:=valsG_succ (prAt s r).g k
   have hgl:=valsG_len (prAt s r).g k
   have hil:=intsR_len (valsG (prAt s r).g k)
   unfold nil3
   refine AWP.seq ?_
   refine AWP.region ?_
   refine walkR ?_
   refine AWP.seq ?_
   refine AWP.condD rfl (fun hkl=>?_) (fun hge=>?_)
   ·have hlk:=hlk k
    cases hv:lookN k (prAt s r).g with
    | none=>
     rw[hv] at hlk hvs
     refine walkX ?_
     refine Reg.o rfl (dstep_lookC rfl rfl hlk) ?_
     refine walkX ?_
     refine⟨k+1,by omega,by omega,?_⟩
     rw[show valsG (prAt s r).g (k+1)=valsG (prAt s r).g k from hvs]
     exact Sub.w [] [[(0,0)],[(1,0)],[(2,0)],[(3,0)],[(4,0)]]
    | some v=>
     rw[hv] at hlk hvs
     refine walkX ?_
     refine Reg.o rfl (dstep_lookC rfl rfl hlk) ?_
     refine walkX ?_
     refine⟨k+1,by omega,by omega,?_⟩
     rw[show valsG (prAt s r).g (k+1)=valsG (prAt s r).g k++[v] from hvs,show intsR (valsG (prAt s r).g k++[v])=intsR (valsG (prAt s r).g k)++[[.sc (.int .i64 v)]] by simp[intsR],List.length_append]
     exact Sub.w [] [[(0,0)],[(1,0)],[(2,0)],[(3,0)],[(6,0)]]
   ·have e:k=l.length:=by omega
    subst e
    rw[← hvl] at hgl hil ⊢
    refine AWP.exit ?_
    refine AWP.sub (fr':=[(2,.cptr [.sc (.int .i64 p.cells),.list 1 (progR p.acts)]),(4,.ptr 0 0 0 0),(12,.ptr 1 0 0 0),(98,.list 3 (procsV ls.length s)),(99,.sc (.int .i64 (ls.length:Int))),(100,.sc (.int .i64 (r:Int))),(13,.sc (.int .i64 (r:Int))),(14,.cptr [.sc (.int .i64 ((prAt s r).d:Int)),.list 1 (natsR (prAt s r).q),.tmap (retE (prAt s r).g)]),(15,.list 1 (intsR (valsP p s r)))]) (H':=[[nil3],[.cells 3 [[.hsl 2 0 0 r,.list 1 (memV ls.length s),.hsl 3 0 0 (stuckN p s r).length]]],[.cells 1 (valsR p s r)],[.cells 1 (natsR (stuckN p s r))]]) ?_ ?_
    ·unfold nil3
     exact Sub.w [] [[(0,0)],[(1,0)],[(2,0)],[(3,0)]]
    have hnl:=natsR_len (stuckN p s r)
    have hs1:=natsR_snoc (stuckN p s r) r
    unfold nil3
    refine walkX ?_
    refine DK.nil ⟨by kernel_rfl,?_⟩
    refine walkX ?_
    rw[e2]
    refine walkX ?_
    rw[← hsb]
    cases hb:stuckB p s r with
    | false=>
     rw[hb,if_neg (by simp)] at hss
     refine walkX ?_
     refine⟨r+1,by omega,by omega,?_⟩
     rw[hss,hv1]
     exact Sub.w [] [[(0,0)],[(1,0)],[(5,0)],[(3,0)]]
    | true=>
     rw[hb,if_pos rfl] at hss
     refine walkX ?_
     refine⟨r+1,by omega,by omega,?_⟩
     rw[hss,hv1,hs1,List.length_append]
     exact Sub.w [] [[(0,0)],[(1,0)],[(5,0)],[(8,0)]]
 ·have e:r=ls.length:=by omega
  subst e
  have hvrl:(valsR p s ls.length).length=ls.length:=row1_len _ _
  have hnl:=natsR_len (stuckN p s ls.length)
  refine AWP.exit ?_
  unfold rH nil3
  refine walkX ?_
  refine EndP.mk (.inr rfl) rfl rfl ?_
  exact To.tupL (ToL.cons (To.aggL (ToL.cons (To.fz rfl rfl hvrl rfl (prs _)) (ToL.cons (.pure (pv (.list 1 (memV ls.length s)))) (ToL.cons (To.fz rfl rfl hnl rfl (prs _)) ToL.nil)))) (ToL.cons (.sc _) ToL.nil))
def runV (p:Pg) (seed:Nat):AV:=if (chkP p).1.2=0 then resV p (runP p (chkP p).2 (st0 p (chkP p).2.length seed)) (chkP p).2.length else .tup [.agg [.list 1 [],.list 1 [],.list 1 []],.sc (.int .i64 (chkP p).1.2)]
instance (p:Pg) (s:St) (n:Nat):PV (resV p s n):=by unfold resV; infer_instance
instance (p:Pg) (seed:Nat):PV (runV p seed):=by unfold runV; split<;>infer_instance
set_option maxHeartbeats 16000000 in
theorem mainR {p:Pg} {ls:List Ln} {s0:St} (hC:CkOK p ls) (hp:POK p) (hS0:RunOK p ls s0):
  AWP Tryz.prog F18.n 0 (pickI [1,1,1,1,1] F18.code) (EndP F18.res (resV p (runP p ls s0) ls.length)) (mF p) (worldH p ls s0++[[nil3]]):=by
 show AWP _ _ _ (.seq (.block _ (.loop _)) _) _ _ _
 refine AWP.seq ?_
 refine AWP.block ?_
 refine AWP.loop (σ:=St) (fun _=>mF p) (fun s=>worldH p ls s++[[nil3]]) (fun s=>RunOK p ls s∧runP p ls s=runP p ls s0) (fun s=>leftP p ls.length s) s0 ⟨hS0,rfl⟩ (Sub.keep ⟨Le.refl _,Le.refl _,Le.refl _,trivial⟩) ?_
 rintro s ⟨hS,hR⟩
 refine mround hC hp hS _ (fun he fr H hsub=>?_) (fun s' he fr H hsub=>?_)
 ·rw[← hR,runP_stop he]
  show AWP Tryz.prog F18.n 0 (pickI [1,1,1,1,1,1] F18.code) _ _ _
  exact AWP.sub hsub (resR hC hS)
 ·obtain⟨h1,h2⟩:=hS.stepS hC he
  exact⟨s',⟨h1,by rw[← hR]; exact(runP_step hC hS he).symm⟩,h2,hsub⟩
set_option maxHeartbeats 16000000 in
theorem beginR {p:Pg} {ls:List Ln} (hC:CkOK p ls) (hp:POK p) {seed:Nat} (hs:seed < 18446744073709551616):
  AWP Tryz.prog F18.n 0 (pickI [1,1,1,1] F18.code) (EndP F18.res (resV p (runP p ls (st0 p ls.length seed)) ls.length)) [(2,.cptr [.sc (.int .i64 p.cells),.list 1 (progR p.acts)]),(4,.ptr 0 0 0 0),(9,.ptr 1 0 0 0)]
   [[nil3],[.cells 5 [[ckV p ls,.sc (.int .u64 (seed:Int)),.sc (.slice none 0 0),.sc (.slice none 0 0),.sc (.slice none 0 0)]]]]:=by
 have hm:=mainR hC hp (RunOK.st0 (p:=p) (ls:=ls) hs)
 have h64:=hC.n64
 have hn:=hC.len
 have hc1:=hC.c1
 have hc64:=hC.c64
 obtain⟨c,hc⟩:∃ c:Nat,p.cells=c:=⟨p.cells.toNat,by omega⟩
 have e1:=progR_len p.acts
 obtain⟨s0,hs0⟩:∃ s,s=st0 p ls.length seed:=⟨_,rfl⟩
 have hsd:s0.seed=seed:=by rw[hs0]; rfl
 have hpr:∀ j,prAt s0 j=pr0:=fun j=>by rw[hs0]; exact prAt_st0 _ _ _ _
 have hme:∀ j,j < ls.length→memAt s0 j=List.replicate c 0:=fun j hj=>by rw[hs0,memAt_st0 hj,hc]; rfl
 have hhe:∀ j,heldAt s0 j=[]:=fun j=>by rw[hs0]; exact heldAt_st0 _ _ _ _
 rw[← hs0] at hm ⊢
 rw[← hsd]
 show AWP _ _ _ (.seq (.seq (.region _) (.block _ (.loop _))) _) _ _ _
 refine AWP.seq ?_
 refine AWP.seq ?_
 refine AWP.region ?_
 refine walkR ?_
 rw[e1,← hn]
 refine AWP.block ?_
 refine AWP.loop (fun r:Nat=>sF p ls.length r) (fun r=>sH p ls s0 r r r) (fun r=>r≤ls.length) (fun r=>ls.length - r) 0 (Nat.zero_le _) ?_ ?_
 ·unfold sF sH nil3
  show Sub _ _ _ _ _ [[.cells 5 [[ckV p ls,.sc (.int .u64 (s0.seed:Int)),.hsl 1 0 0 0,.hsl 2 0 0 0,.hsl 3 0 0 0]]],[.cells 3 []],[.cells 1 []],[.cells 1 []],[],[],[],[],[.cells 3 [[.sc (.slice none 0 0),.sc (.slice none 0 0),.sc (.slice none 0 0)]]]]
  have hw:PV (ckV p ls):=inferInstance
  generalize ckV p ls=ck at *
  have hwp:=hw.out
  (apply Sub.to [3,1,1] [[(1,0)],[(2,0)],[(3,0)],[(4,0)],[],[],[],[],[(0,0)]]; all_goals (repeat' (first | exact ToAll.nil | exact famsTo.nil | exact famTo.nil | exact ToL.nil | exact ToR.nil | refine ToAll.cons ?_ ?_ | refine famsTo.cons ?_ ?_ | refine wt10 ?_ ?_ | exact To.undef _ | exact To.sc _ | exact To.hslL rfl rfl | exact To.asl _ _ _ _ _ _ rfl | exact To.ptrO rfl rfl rfl | exact To.mrefO rfl | exact To.nil rfl rfl rfl | exact wt1 | exact To.nilL | refine To.int ?_ | refine To.bool ?_ | refine To.hslL rfl ?_ | refine wt2 rfl ?_ ?_ ?_ | refine To.tupL ?_ | refine To.aggL ?_ | refine To.cptrL ?_ | refine To.fzp rfl rfl rfl ?_ | refine To.fzm rfl rfl ?_ | refine To.cloL ?_ ?_ | refine wt3 ?_ | refine wt4 ?_ | exact wt5 | refine wt6 ?_ | refine ToB.one ?_ | exact wt7 | ((with_reducible apply ToL.consE); case e9=>rfl) | refine wt8 ?_ | refine ToL.cons ?_ ?_ | exact wt11 | refine wt9 ?_ ?_ | refine wt12 ?_ | (with_reducible rfl) | assumption)); all_goals (first | rfl | assumption | (simp; done) | (simp; omega) | (rw[wrap_small (by omega) (by omega)]; done) | (rw[wrap_small (by omega) (by omega)]; omega) | (refine congrArg Nat.cast ?_; assumption) | skip))
 ·intro r hr
  refine AWP.seq ?_
  refine AWP.region ?_
  unfold sF
  refine walkR ?_
  refine AWP.seq ?_
  refine AWP.condD rfl (fun hrl=>?_) (fun hge=>?_)
  ·refine AWP.skip ?_
   refine AWP.seq ?_
   refine AWP.block ?_
   refine AWP.sub (fr':=sF p ls.length r) (H':=sH p ls s0 r r r) (Sub.keep ⟨Le.refl _,Le.refl _,Le.refl _,Le.refl _,Le.refl _,trivial⟩) ?_
   refine startA r ls.length (by omega) (hpr r) _ (startB r ls.length c (by omega) hc (by omega) (hme r hrl) _ (startC r ls.length (by omega) (hhe r) _ fun fr H hsub=>?_))
   show AWP _ _ _ (.region _) _ fr H
   refine AWP.sub hsub ?_
   unfold sF
   refine walkX ?_
   exact⟨r+1,by omega,by omega,Sub.keep ⟨Le.refl _,Le.refl _,Le.refl _,Le.refl _,Le.refl _,trivial⟩⟩
  ·have e:r=ls.length:=by omega
   subst e
   refine AWP.exit ?_
   refine AWP.sub ?_ hm
   exact Sub.keep ⟨Le.refl _,Le.refl _,Le.refl _,trivial⟩
set_option maxHeartbeats 16000000 in
theorem run_ok (p:Pg) (hp:POK p) {seed:Nat} (hs:seed < 18446744073709551616):PureRun Tryz.prog 18 [progV p,.sc (.int .u64 (seed:Int))] (runV p seed):=by
 refine PureRun.mkI cF18 (nlB rfl) ?_
 have hc:=checkc_ok p hp
 unfold chkV at hc
 unfold runV
 unfold plA progV at *
 by_cases h:(chkP p).1.2=0
 ·rw[if_pos h] at hc ⊢
  have hC:=chkP_ok h
  rw[h] at hc
  have hb:=beginR hC hp hs
  generalize (chkP p).2=ls at *
  refine AWP.seq ?_
  refine AWP.region ?_
  refine walkR ?_
  refine AWP.seq ?_
  refine AWP.region ?_
  refine walkR ?_
  refine AWP.seq ?_
  refine AWP.seq ?_
  refine AWP.region ?_
  refine walkR ?_
  refine AWP.condF rfl ?_
  refine AWP.skip ?_
  refine AWP.seq ?_
  refine AWP.region ?_
  unfold ckV at *
  refine walkR ?_
  refine AWP.sub ?_ hb
  unfold nil3
  exact Sub.w [] [[(1,0)],[(3,0)]]
 ·rw[if_neg h] at hc ⊢
  generalize (chkP p).1.2=k at *
  have e:(k != 0)=true:=by simp[h]
  refine walkX ?_
  rw[e]
  refine walkX ?_
  exact EndP.w
def aF:Act:=⟨8,0,0,0,0,0,[]⟩
def aL:Act:=⟨6,0,0,0,0,0,[]⟩
def aP:Act:=⟨1,1,0,0,5,0,[]⟩
def goodP:Pg:=⟨1,[[aF,aP,aF],[aF,aF,aL]]⟩
def badP:Pg:=⟨1,[[aF,aP,aF],[aF,aL,aF]]⟩
theorem good_chk:(chkP goodP).1=((0,0),0):=by kernel_rfl
theorem bad_chk:(chkP badP).1=((0,0),0):=by kernel_rfl
theorem good_races:(racesA goodP (chkP goodP).2 (ordP (chkP goodP).2.length goodP (chkP goodP).2)).2=[]:=by kernel_rfl
theorem bad_races:(racesA badP (chkP badP).2 (ordP (chkP badP).2.length badP (chkP badP).2)).2=[mk4 (0,1) (1,1)]:=by kernel_rfl
theorem good_mem:(runP goodP (chkP goodP).2 (st0 goodP 2 5)).mem=[[0],[5]]:=by kernel_rfl
theorem good_stuck:stuckN goodP (runP goodP (chkP goodP).2 (st0 goodP 2 5)) 2=[]:=by kernel_rfl
theorem good_vals:valsP goodP (runP goodP (chkP goodP).2 (st0 goodP 2 5)) 1=[5]:=by kernel_rfl
theorem mkact_ok (k r o v:Int):PureRun Tryz.prog 27 [.sc (.int .i64 k),.sc (.int .i64 r),.sc (.int .i64 o),.sc (.int .i64 v)] (.agg (actR ⟨k,r,0,o,v,0,[]⟩)):=by
 refine PureRun.mkI cF27 (nlB rfl) ?_
 unfold actR
 refine walkX ?_
 exact EndP.w
theorem two_ok (a b:List Act):PureRun Tryz.prog 28 [.list 7 (actsR a),.list 7 (actsR b)] (progV ⟨1,[a,b]⟩):=by
 refine PureRun.mkI cF28 (nlB rfl) ?_
 rw[show progV ⟨1,[a,b]⟩=.agg [.sc (.int .i64 1),.list 1 [[.list 7 (actsR a)],[.list 7 (actsR b)]]] from rfl]
 refine walkX ?_
 exact EndP.w
theorem noRace_ok (p:Pg) (hp:POK p) (hc:(chkP p).1.2=0) (hr:(racesA p (chkP p).2 (ordP (chkP p).2.length p (chkP p).2)).2=[]):PureRun Tryz.prog 29 [progV p,.agg [.sc (.int .i64 0),.sc (.int .i64 0)],.agg [.sc (.int .i64 0),.sc (.int .i64 0)]] (.sc (.bool true)):=by
 refine PureRun.mkI cF29 (nlB rfl) ?_
 have h:=races_ok p hp
 unfold racesV racesP at h
 rw[if_pos hc,hr] at h
 unfold progV at *
 rw[show(sortP []).map raR=[] by unfold sortP; simp] at h
 refine walkX ?_
 exact EndP.w
theorem race1_ok (p:Pg) (hp:POK p) (hc:(chkP p).1.2=0) (hr:(racesA p (chkP p).2 (ordP (chkP p).2.length p (chkP p).2)).2=[mk4 (0,1) (1,1)]):PureRun Tryz.prog 29 [progV p,.agg [.sc (.int .i64 0),.sc (.int .i64 1)],.agg [.sc (.int .i64 1),.sc (.int .i64 1)]] (.sc (.bool true)):=by
 (refine PureRun.mkI cF29 (nlB rfl) ?_; have h:=races_ok p hp; unfold racesV racesP at h; rw[if_pos hc,hr] at h; unfold progV at *; rw[show(sortP [mk4 (0,1) (1,1)]).map raR=[[.sc (.int .i64 0),.sc (.int .i64 1),.sc (.int .i64 1),.sc (.int .i64 1)]] by unfold sortP; simp; rfl] at h; have hr0:rowIx [[AV.sc (.int .i64 0),.sc (.int .i64 1),.sc (.int .i64 1),.sc (.int .i64 1)]] 0=some [.sc (.int .i64 0),.sc (.int .i64 1),.sc (.int .i64 1),.sc (.int .i64 1)]:=rfl; refine walkX ?_; refine DK.nil ⟨by kernel_rfl,?_⟩; refine walkX ?_; exact EndP.w)
set_option maxHeartbeats 8000000 in
theorem ends_ok (p:Pg) (hp:POK p) (hc:(chkP p).1.2=0) (hn:(chkP p).2.length=2) (c0 c1:Int) (v:List Int) (hvl:v.length≤1000000) (s:St) (hs:runP p (chkP p).2 (st0 p 2 5)=s) (h1:stuckN p s 2=[]) (h2:memAt s 0=[c0]) (h3:memAt s 1=[c1]) (h4:valsP p s 1=v):
  PureRun Tryz.prog 30 [progV p,.sc (.int .i64 c0),.sc (.int .i64 c1),.list 1 (intsR v)] (.sc (.bool true)):=by
 refine PureRun.mkI cF30 (nlB rfl) ?_
 have h:=run_ok p hp (seed:=5) (by decide)
 unfold runV at h
 rw[if_pos hc,hn,hs] at h
 have e1:valsR p s 2=[[.list 1 (intsR (valsP p s 0))],[.list 1 (intsR v)]]:=by rw[← h4]; rfl
 have e2:memV 2 s=[[.list 1 [[.sc (.int .i64 c0)]]],[.list 1 [[.sc (.int .i64 c1)]]]]:=by
  have:memV 2 s=[[.list 1 (intsR (memAt s 0))],[.list 1 (intsR (memAt s 1))]]:=rfl
  rw[this,h2,h3]
  rfl
 unfold resV at h
 rw[e1,e2,h1] at h
 generalize valsP p s 0=v0 at *
 rw[show natsR []=[] from rfl] at h
 unfold progV at *
 have r0:rowIx [[AV.list 1 [[AV.sc (.int .i64 c0)]]],[AV.list 1 [[AV.sc (.int .i64 c1)]]]] 0=some [AV.list 1 [[AV.sc (.int .i64 c0)]]]:=rfl
 have r1:rowIx [[AV.list 1 [[AV.sc (.int .i64 c0)]]],[AV.list 1 [[AV.sc (.int .i64 c1)]]]] 1=some [AV.list 1 [[AV.sc (.int .i64 c1)]]]:=rfl
 have r2:rowIx [[AV.sc (.int .i64 c0)]] 0=some [.sc (.int .i64 c0)]:=rfl
 have r3:rowIx [[AV.sc (.int .i64 c1)]] 0=some [.sc (.int .i64 c1)]:=rfl
 have r4:rowIx [[AV.list 1 (intsR v0)],[AV.list 1 (intsR v)]] 1=some [AV.list 1 (intsR v)]:=rfl
 have il:=intsR_len v
 have n0:(c0 != c0)=false:=by simp
 have n1:(c1 != c1)=false:=by simp
 refine walkX ?_
 rw[n0]
 refine walkX ?_
 rw[n1]
 refine walkX ?_
 rw[il]
 rw[dTr (rfl:v.length=v.length)]
 refine walkX ?_
 refine AWP.loop (fun k:Nat=>[(3,.list 1 (intsR v)),(9,.cptr [.list 1 [[.list 1 (intsR v0)],[.list 1 (intsR v)]],.undef,.undef]),(11,.sc (.int .i64 (k:Int)))]) (fun _=>[]) (fun k=>k≤v.length) (fun k=>v.length - k) 0 (Nat.zero_le _) ?_ ?_
 ·exact Sub.w [] []
 intro k hk
 refine AWP.seq ?_
 refine AWP.seq ?_
 refine AWP.region ?_
 refine walkR ?_
 rw[il]
 refine walkR ?_
 refine AWP.condD rfl (fun hkl=>?_) (fun hge=>?_)
 ·have hx:=intsR_ix v k hkl
  have nx:(v[k] != v[k])=false:=by simp
  generalize v[k]=vk at *
  refine walkX ?_
  refine DK.nil ⟨by kernel_rfl,?_⟩
  refine walkX ?_
  rw[nx]
  refine walkX ?_
  exact⟨k+1,by omega,by omega,by exact Sub.w [] []⟩
 ·refine AWP.exit ?_
  refine walkX ?_
  exact EndP.w
theorem POK.of {p:Pg} (h:(p.acts.all fun l=>l.all fun x=>decide (x.g.length≤9223372036854775807))=true):POK p:=fun l hl x hx=>by
 rw[List.all_eq_true] at h
 have h1:=h l hl
 rw[List.all_eq_true] at h1
 exact of_decide_eq_true (h1 x hx)
theorem good_pok:POK goodP:=POK.of (by decide)
theorem bad_pok:POK badP:=POK.of (by decide)
theorem good_ends:PureRun Tryz.prog 30 [progV goodP,.sc (.int .i64 0),.sc (.int .i64 5),.list 1 (intsR [5])] (.sc (.bool true)):=by
 obtain⟨s,hs⟩:∃ s,s=runP goodP (chkP goodP).2 (st0 goodP 2 5):=⟨_,rfl⟩
 have h1:=good_mem
 have h2:=good_stuck
 have h3:=good_vals
 rw[← hs] at h1 h2 h3
 exact ends_ok goodP good_pok (by rw[good_chk]) (by kernel_rfl) 0 5 [5] (by simp) s hs.symm h2 (by unfold memAt; rw[h1]; rfl) (by unfold memAt; rw[h1]; rfl) h3
set_option maxHeartbeats 8000000 in
theorem works_ok:PureRun Tryz.prog 14 [] (.sc (.bool true)):=by
 refine PureRun.mkI cF14 (nlB rfl) ?_
 have h1:=mkact_ok 8 0 0 0
 have h2:=mkact_ok 6 0 0 0
 have h3:=mkact_ok 1 1 0 5
 have h4:=two_ok [aF,aP,aF] [aF,aF,aL]
 have h5:=two_ok [aF,aP,aF] [aF,aL,aF]
 have h6:=noRace_ok goodP good_pok (by rw[good_chk]) good_races
 have h7:=race1_ok badP bad_pok (by rw[bad_chk]) bad_races
 have h8:=good_ends
 rw[show(⟨1,[[aF,aP,aF],[aF,aF,aL]]⟩:Pg)=goodP from rfl] at h4
 rw[show(⟨1,[[aF,aP,aF],[aF,aL,aF]]⟩:Pg)=badP from rfl] at h5
 have e1:progV goodP=.agg [.sc (.int .i64 1),.list 1 (progR goodP.acts)]:=rfl
 have e2:progV badP=.agg [.sc (.int .i64 1),.list 1 (progR badP.acts)]:=rfl
 rw[e1] at h4 h6 h8
 rw[e2] at h5 h7
 have p1:=prs (progR goodP.acts)
 have p2:=prs (progR badP.acts)
 have i1:PRs (progR goodP.acts):=⟨p1⟩
 have i2:PRs (progR badP.acts):=⟨p2⟩
 generalize progR goodP.acts=g at *
 generalize progR badP.acts=b at *
 refine AWP.sub (fr':=[]) (H':=[]) ?_ ?_
 ·exact Sub.w [] []
 refine AWP.seq ?_
 refine AWP.region ?_
 refine walkR ?_
 refine AWP.seq ?_
 refine AWP.region ?_
 unfold actR at h1 h2 h3
 refine walkR ?_
 refine AWP.sub (fr':=[(1,.cptr (actR aF))]) (H':=[]) ?_ ?_
 ·unfold actR aF
  exact Sub.w [] []
 refine AWP.seq ?_
 refine AWP.region ?_
 refine walkR ?_
 refine AWP.sub (fr':=[(1,.cptr (actR aF)),(2,.cptr (actR aL))]) (H':=[]) ?_ ?_
 ·unfold actR aF aL
  exact Sub.w [] []
 refine AWP.seq ?_
 refine AWP.region ?_
 refine walkR ?_
 refine AWP.sub (fr':=[(1,.cptr (actR aF)),(2,.cptr (actR aL)),(3,.cptr (actR aP))]) (H':=[]) ?_ ?_
 ·unfold actR aF aL aP
  exact Sub.w [] []
 have q1:actR aF=[.sc (.int .i64 8),.sc (.int .i64 0),.sc (.int .i64 0),.sc (.int .i64 0),.sc (.int .i64 0),.sc (.int .i64 0),.list 1 (intsR [])]:=rfl
 have q2:actR aL=[.sc (.int .i64 6),.sc (.int .i64 0),.sc (.int .i64 0),.sc (.int .i64 0),.sc (.int .i64 0),.sc (.int .i64 0),.list 1 (intsR [])]:=rfl
 have q3:actR aP=[.sc (.int .i64 1),.sc (.int .i64 1),.sc (.int .i64 0),.sc (.int .i64 0),.sc (.int .i64 5),.sc (.int .i64 0),.list 1 (intsR [])]:=rfl
 refine AWP.seq ?_
 refine AWP.region ?_
 rw[q1,q2,q3]
 refine walkR ?_
 refine Reg.sub (fr':=[(1,.cptr (actR aF)),(2,.cptr (actR aL)),(3,.cptr (actR aP)),(12,.list 7 (actsR [aF,aP,aF])),(16,.list 7 (actsR [aF,aF,aL]))]) (H':=[]) ?_ ?_
 ·rw[q1,q2,q3]
  exact Sub.w [] []
 refine walkR ?_
 refine AWP.sub (fr':=[(1,.cptr (actR aF)),(2,.cptr (actR aL)),(3,.cptr (actR aP)),(4,.cptr [.sc (.int .i64 1),.list 1 g])]) (H':=[]) ?_ ?_
 ·rw[q1,q2,q3]
  exact Sub.w [] []
 refine AWP.seq ?_
 refine AWP.region ?_
 rw[q1,q2,q3]
 refine walkR ?_
 refine Reg.sub (fr':=[(4,.cptr [.sc (.int .i64 1),.list 1 g]),(21,.list 7 (actsR [aF,aP,aF])),(25,.list 7 (actsR [aF,aL,aF]))]) (H':=[]) ?_ ?_
 ·exact Sub.w [] []
 refine walkR ?_
 refine AWP.sub (fr':=[(4,.cptr [.sc (.int .i64 1),.list 1 g]),(5,.cptr [.sc (.int .i64 1),.list 1 b])]) (H':=[]) ?_ ?_
 ·exact Sub.w [] []
 refine walkX ?_
 refine Reg.sub (fr':=[(31,.sc (.bool true)),(32,.agg [.sc (.int .i64 1),.list 1 g]),(33,.list 1 (intsR [5])),(5,.cptr [.sc (.int .i64 1),.list 1 b])]) (H':=[]) ?_ ?_
 ·exact Sub.w [] []
 refine walkX ?_
 exact EndP.w
theorem has_ok (g:List Int) (r:Int) (hl:g.length≤9223372036854775807):PureRun Tryz.prog 79 [.list 1 (intsR g),.sc (.int .i64 r)] (.sc (.bool (decide (r∈g)))):=by
 refine PureRun.mkI cF79 (nlB rfl) ?_
 have e0:=intsR_len g
 refine walkX ?_
 refine AWP.loop (fun k:Nat=>[(0,.list 1 (intsR g)),(1,.sc (.int .i64 r)),(5,.sc (.int .i64 (k:Int)))]) (fun _=>[]) (fun k=>k≤g.length∧r∉g.take k) (fun k=>g.length - k) 0 ⟨Nat.zero_le _,by simp⟩ ?_ ?_
 ·exact Sub.w [] []
 rintro k ⟨hk,hn⟩
 refine walkX ?_
 rw[e0]
 refine walkX ?_
 refine AWP.condD rfl (fun h=>?_) (fun h=>?_)
 ·have hx:=intsR_ix g k h
  have hm:g[k]∈g:=List.getElem_mem h
  have ht:g.take (k+1)=g.take k++[g[k]]:=List.take_succ_eq_append_getElem h
  generalize g[k]=b at *
  refine walkX ?_
  by_cases e:b=r
  ·rw[show(b == r)=true by simpa using e,dTr (by rw[← e]; exact hm)]
   refine walkX ?_
   exact EndP.w
  ·rw[show(b == r)=false by simpa using e]
   refine walkX ?_
   refine⟨k+1,⟨by omega,?_⟩,by omega,?_⟩
   ·rw[ht,List.mem_append,List.mem_singleton]
    rintro(h1 | h1)
    ·exact hn h1
    ·exact e h1.symm
   ·exact Sub.w [] []
 ·rw[List.take_of_length_le (by omega)] at hn
  rw[dFa hn]
  refine walkX ?_
  exact EndP.w
theorem ofP_at {t:Int→Bool} {l:List Act} {i k:Nat} (hk:k < l.length) (hik:i < k) (ht:t l[k].k=true) (hb:∀(j:Nat) (hj:j < l.length),i < j→j < k→t l[j].k=false):ofP t l i=k:=by
 have h:=idxP_at (fun x:Act=>t x.k) (l.drop (i+1)) (k - (i+1)) (by rw[List.length_drop]; omega) (by
  simp only[List.getElem_drop]
  rw[show l[i+1+(k - (i+1))]=l[k] by congr 1; omega]
  exact ht) fun j hj hjk=>by
  rw[List.length_drop] at hj
  simp only[List.getElem_drop]
  exact hb (i+1+j) (by omega) (by omega) (by omega)
 unfold ofP
 rw[h,if_neg (by omega)]
 omega
theorem ofP_not {t:Int→Bool} {l:List Act} {i:Nat} (hb:∀(j:Nat) (hj:j < l.length),i < j→t l[j].k=false):ofP t l i=l.length:=by
 have h:=idxP_not (fun x:Act=>t x.k) (l.drop (i+1)) fun j hj=>by
  rw[List.length_drop] at hj
  simp only[List.getElem_drop]
  exact hb (i+1+j) (by omega) (by omega)
 unfold ofP
 rw[h,if_pos (by omega)]
def flwP (l:List Act) (i:Nat):Bool:=match l[ofP stN l i]? with
 | some y=>decide (y.k=8)
 | none=>false
set_option maxHeartbeats 4000000 in
theorem follows_ok (l:List Act) (i:Nat) (hi:i < l.length) (hl:l.length≤1000000):PureRun Tryz.prog 80 [.list 7 (actsR l),.sc (.int .i64 (i:Int))] (.sc (.bool (flwP l i))):=by
 refine PureRun.mkI cF80 (nlB rfl) ?_
 have e0:=actsR_len l
 refine walkX ?_
 refine AWP.loop (fun k:Nat=>[(0,.list 7 (actsR l)),(5,.sc (.int .i64 (k:Int)))]) (fun _=>[]) (fun k=>i < k∧k≤l.length∧∀(j:Nat) (hj:j < l.length),i < j→j < k→stN l[j].k=false) (fun k=>l.length - k) (i+1) ⟨by omega,by omega,fun j hj h1 h2=>by omega⟩ ?_ ?_
 ·exact Sub.w [] []
 rintro k ⟨hik,hk,hb⟩
 refine walkX ?_
 rw[e0]
 refine walkX ?_
 refine AWP.condD rfl (fun h=>?_) (fun h=>?_)
 ·have hx:=actsR_ix l k h
  have hat:stN l[k].k=true→ofP stN l i=k:=fun ht=>ofP_at h hik ht hb
  have hfl:ofP stN l i=k→flwP l i=decide (l[k].k=8):=fun e=>by unfold flwP; rw[e,gEg h]
  have hnext:stN l[k].k=false→∀(j:Nat) (hj:j < l.length),i < j→j < k+1→stN l[j].k=false:=fun e j hj h1 h2=>by
   by_cases e':j=k
   ·subst e'; exact e
   ·exact hb j hj h1 (by omega)
  obtain⟨x,hxe⟩:∃ x,x=l[k]:=⟨_,rfl⟩
  rw[← hxe] at hx hat hfl hnext
  unfold actR at hx
  have hs:stN x.k=decide (x.k=8∨x.k=10∨x.k=13∨x.k=14):=rfl
  refine walkX ?_
  by_cases k1:x.k=8
  ·rw[show(x.k == 8)=true by simpa using k1]
   rw[hfl (hat (by rw[hs]; simp[k1])),dTr k1]
   refine walkX ?_
   exact EndP.w
  rw[show(x.k == 8)=false by simpa using k1]
  refine walkX ?_
  by_cases k2:x.k=10
  ·rw[show(x.k == 10)=true by simpa using k2]
   rw[hfl (hat (by rw[hs]; simp[k2])),dFa k1]
   refine walkX ?_
   exact EndP.w
  rw[show(x.k == 10)=false by simpa using k2]
  refine walkX ?_
  by_cases k3:x.k=13
  ·rw[show(x.k == 13)=true by simpa using k3]
   rw[hfl (hat (by rw[hs]; simp[k3])),dFa k1]
   refine walkX ?_
   exact EndP.w
  rw[show(x.k == 13)=false by simpa using k3]
  refine walkX ?_
  by_cases k4:x.k=14
  ·rw[show(x.k == 14)=true by simpa using k4]
   rw[hfl (hat (by rw[hs]; simp[k4])),dFa k1]
   refine walkX ?_
   exact EndP.w
  rw[show(x.k == 14)=false by simpa using k4]
  refine walkX ?_
  refine⟨k+1,⟨by omega,by omega,hnext (by rw[hs]; simp[k1,k2,k3,k4])⟩,by omega,?_⟩
  exact Sub.w [] []
 ·have hno:flwP l i=false:=by
   unfold flwP
   rw[ofP_not fun j hj h1=>hb j hj h1 (by omega),List.getElem?_eq_none (Nat.le_refl _)]
  rw[hno]
  refine walkX ?_
  exact EndP.w
end Go.Proofs.YtkjoolaahocgdaaGreat
