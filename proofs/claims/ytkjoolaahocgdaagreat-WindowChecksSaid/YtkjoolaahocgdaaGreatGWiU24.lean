import Derived.Test.YtkjoolaahocgdaaGreatGWiU18
namespace Go.Proofs.YtkjoolaahocgdaaGreat
open Go.Av Go.Proofs
set_option maxRecDepth 20000
def ciF (r n m k:Nat):Fr:=[(0,.yld 10 0),(1,.cptr [.ptr 0 0 0 0]),(4,.cptr [.sc (.int .i64 (r:Int))]),(5,.mref 12 0),(32,.sc (.int .i64 (n:Int))),(33,.sc (.int .i64 (r:Int))),(44,.hsl 4 r 0 m),(45,.sc (.int .i64 (m:Int))),(46,.sc (.int .i64 (k:Int)))]
def ciC:ICode:=pickI [1,1,0,0,1,1,0,0,1,1,1,0,0,1,1,0] F65.code
set_option maxHeartbeats 16000000 in
theorem candYld {p:Pg} {ls:List Ln} {s:St} (L:LC) (hL:LOK Tryz.prog F18.n L [74] lkA lkB) {r n m k i:Nat} (hrl:r < ls.length) (out:List Cd) (hn:out.length≤1000000) (b:Blk) (u:List (Int×Int)) (hb:UB u b) (Q:Exit→Fr→Heap→Prop):
  AWP Tryz.prog F65.n 11 (pickI [0,1,1] ciC) (thenQ (fun fr H=>Sub 11 F65.n fr H (ciF r n m k) (candU p ls s L (out++[.take r k i]) b)) Q) ((6,.cptr [.sc (.int .i64 (k:Int))])::(7,.cptr [.sc (.int .i64 (i:Int))])::ciF r n m k) (candU p ls s L out b):=by
 show AWP _ _ _ (.seq _ _) _ _ _
 have hl1:out.length+1=(out++[Cd.take r k i]).length:=by simp
 unfold ciF
 refine AWP.seq ?_
 refine AWP.region ?_
 refine walkR ?_
 refine AWP.seq ?_
 refine AWP.rY rfl ?_
 refine walkR ?_
 refine⟨rfl,nlB rfl,10,0,rfl,?_⟩
 refine(yieldU_ok p ls s L hL out (.take r k i) hn b u hb).mono ?_
 rintro e H' ⟨rfl,rfl⟩
 refine walkX ?_
 rw[hl1]
 (refine Sub.wgL p ls s b4 b4 (pendF ls.length s) [] [] [[(8,0)],[(9,0)],[(10,0)],[(13,0)],[(12,0)]] ([nil3]::lB 11 (out++[Cd.take r k i]).length::[.lp L (capsR p) .ready none]::[[.cells 1 (cdsR (out++[Cd.take r k i]))],[b]]) ?_ rfl rfl rfl rfl rfl rfl rfl (pend_same fun i hi=>fam_get hi) rho_b4 (candY rfl rfl rfl rfl rfl rfl rfl ⟨⟨⟨_,rfl,ToB.cds rfl _⟩,trivial⟩,⟨⟨_,rfl,(hb).to⟩,trivial⟩,trivial⟩) ⟨.c _ rfl rfl,.c _ rfl rfl,.c _ rfl rfl,.c _ rfl rfl,.w _ _ (Nat.le_of_eq (fam_len _ _)),.w _ _ (Nat.le_of_eq (fam_len _ _)),.w _ _ (Nat.le_of_eq (fam_len _ _)),.w _ _ (Nat.le_of_eq (fam_len _ _)),.c _ rfl rfl,.c _ rfl rfl,.c _ rfl rfl,trivial⟩; (try unfold ciF); (all_goals (repeat' (first | exact ToAll.nil | exact famsTo.nil | exact famTo.nil | exact ToL.nil | exact ToR.nil | refine ToAll.cons ?_ ?_ | refine famsTo.cons ?_ ?_ | refine wt10 ?_ ?_ | exact To.undef _ | exact To.sc _ | exact To.hslL rfl rfl | exact To.asl _ _ _ _ _ _ rfl | exact To.ptrO rfl rfl rfl | exact To.mrefO rfl | exact To.nil rfl rfl rfl | exact wt1 | exact To.nilL | refine To.int ?_ | refine To.bool ?_ | refine To.hslL rfl ?_ | refine wt2 rfl ?_ ?_ ?_ | refine To.tupL ?_ | refine To.aggL ?_ | refine To.cptrL ?_ | refine To.fzp rfl rfl rfl ?_ | refine To.fzm rfl rfl ?_ | refine To.cloL ?_ ?_ | refine wt3 ?_ | refine wt4 ?_ | exact wt5 | refine wt6 ?_ | refine ToB.one ?_ | exact wt7 | ((with_reducible apply ToL.consE); case e9=>rfl) | refine wt8 ?_ | refine ToL.cons ?_ ?_ | exact wt11 | refine wt9 ?_ ?_ | refine wt12 ?_ | (with_reducible rfl) | assumption)); all_goals (first | rfl | assumption | (simp; done) | (simp; omega) | (rw[wrap_small (by omega) (by omega)]; done) | (rw[wrap_small (by omega) (by omega)]; omega) | (refine congrArg Nat.cast ?_; assumption) | skip)); (exact .yld _ _ _ _ rfl); exact To.hslL (rho_w rfl hrl) rfl)
theorem candYldQ {p:Pg} {ls:List Ln} {s:St} (L:LC) (hL:LOK Tryz.prog F18.n L [74] lkA lkB) {r n m k i:Nat} (hrl:r < ls.length) (out:List Cd) (hn:out.length≤1000000) (b:Blk) (u:List (Int×Int)) (hb:UB u b) (Q:Exit→Fr→Heap→Prop)
  (hQ:∀ fr H,Sub 11 F65.n fr H (ciF r n m k) (candU p ls s L (out++[.take r k i]) b)→Q .normal fr H):
  AWP Tryz.prog F65.n 11 (pickI [0,1,1] ciC) Q ((6,.cptr [.sc (.int .i64 (k:Int))])::(7,.cptr [.sc (.int .i64 (i:Int))])::ciF r n m k) (candU p ls s L out b):=
 AWP.mono (candYld L hL hrl out hn b u hb Q) fun e fr H h=>by cases e<;>first | exact h | exact hQ _ _ h
theorem stepT_not {p:Pg} {ls:List Ln} {r:Nat} {q:List Nat} {u:List (Int×Int)} {out:List Cd} {k i:Nat} (hk:q[k]?=some i) (h:isUpd (actP p (r,i)).k=false):stepT p ls r q (u,out) k=(u,out++[.take r k i]):=by
 have e:q.getD k 0=i:=by rw[List.getD_eq_getElem?_getD,hk]; rfl
 unfold stepT cellB
 rw[e]
 dsimp only
 rw[if_neg (by rw[h]; simp)]
theorem stepT_old {p:Pg} {ls:List Ln} {r:Nat} {q:List Nat} {u:List (Int×Int)} {out:List Cd} {k i:Nat} (hk:q[k]?=some i) (h:isUpd (actP p (r,i)).k=true) (hm:((acN ls (r,i)).r,(acN ls (r,i)).a)∈u):stepT p ls r q (u,out) k=(u,out):=by
 have e:q.getD k 0=i:=by rw[List.getD_eq_getElem?_getD,hk]; rfl
 unfold stepT cellB
 rw[e]
 dsimp only
 rw[if_pos h,if_pos hm]
theorem stepT_new {p:Pg} {ls:List Ln} {r:Nat} {q:List Nat} {u:List (Int×Int)} {out:List Cd} {k i:Nat} (hk:q[k]?=some i) (h:isUpd (actP p (r,i)).k=true) (hm:((acN ls (r,i)).r,(acN ls (r,i)).a)∉u):stepT p ls r q (u,out) k=(u++[((acN ls (r,i)).r,(acN ls (r,i)).a)],out++[.take r k i]):=by
 have e:q.getD k 0=i:=by rw[List.getD_eq_getElem?_getD,hk]; rfl
 unfold stepT cellB
 rw[e]
 dsimp only
 rw[if_pos h,if_neg hm]
set_option maxHeartbeats 16000000 in
theorem candT {p:Pg} {ls:List Ln} {s:St} (hC:CkOK p ls) (hS:RunOK p ls s) (L:LC) (hL:LOK Tryz.prog F18.n L [74] lkA lkB) {r n k i:Nat} (hrl:r < ls.length) (hk:(prAt s r).q[k]?=some i) (out:List Cd) (hn:out.length≤1000000) (b:Blk) (u:List (Int×Int)) (hb:UB u b) (Q:Exit→Fr→Heap→Prop):
  AWP Tryz.prog F65.n 11 ciC (thenQ (fun fr H=>∃ b',UB (stepT p ls r (prAt s r).q (u,out) k).1 b'∧Sub 11 F65.n fr H (ciF r n (prAt s r).q.length k) (candU p ls s L (stepT p ls r (prAt s r).q (u,out) k).2 b')) Q) (ciF r n (prAt s r).q.length k) (candU p ls s L out b):=by
 show AWP _ _ _ (.block _ _) _ _ _
 have hnl:=hC.len
 obtain⟨l,hra⟩:∃ l,p.acts[r]?=some l:=⟨_,gEg (show r < p.acts.length by omega)⟩
 have hlen:=lenA_get hra
 obtain⟨LL,hLL,hO⟩:=hC.get hra
 have hkl:=(gEs.1 hk).1
 have hqi:=hS.qi r hrl i (List.mem_of_getElem? hk)
 have hdl:=hS.d r hrl
 obtain⟨x,hx⟩:∃ x,l[i]?=some x:=⟨_,gEg (show i < l.length by omega)⟩
 have hok:=hO.act _ _ hx
 have hap:=actP_get hra hx
 have hrow:=progR_get hra
 have hxr:=actsR_get hx
 have f1:=formsE_in hok.k1 hok.k16
 unfold formR at f1
 have u1:isUpd ((x.k.toNat:Nat):Int)=isUpd x.k:=by rw[show((x.k.toNat:Nat):Int)=x.k by have:=hok.k1; omega]
 rw[u1] at f1
 have hm4:hget (candU p ls s L out b) 4 r=some (.cells 1 (natsR (prAt s r).q)):=fam_get hrl
 have hql:=natsR_len (prAt s r).q
 have hqg:=natsR_get (prAt s r).q k hkl
 rw[(gEs.1 hk).2] at hqg
 have hy:=candYldQ (p:=p) (s:=s) L hL (n:=n) (m:=(prAt s r).q.length) (k:=k) (i:=i) hrl
 unfold ciF
 unfold actR at hxr
 refine AWP.block ?_
 refine AWP.seq ?_
 refine AWP.region ?_
 refine walkR ?_
 refine Reg.o rfl (dstep_idx0 rfl rfl hm4 hkl hql) ?_
 refine Reg.o rfl (dstep_ld1 rfl hm4 hqg rfl) ?_
 refine walkR ?_
 refine AWP.sub (fr':=(6,.cptr [.sc (.int .i64 (k:Int))])::(7,.cptr [.sc (.int .i64 (i:Int))])::ciF r n (prAt s r).q.length k) (H':=candU p ls s L out b) ?_ ?_
 ·(refine Sub.wgL p ls s b4 b4 (pendF ls.length s) [] [] [[(8,0)],[(9,0)],[(10,0)],[(11,0)],[(12,0)]] ([nil3]::lB 11 (out).length::[.lp L (capsR p) .ready none]::[[.cells 1 (cdsR (out))],[b]]) ?_ rfl rfl rfl rfl rfl rfl rfl (pend_same fun i hi=>fam_get hi) rho_b4 (candY rfl rfl rfl rfl rfl rfl rfl ⟨⟨⟨_,rfl,ToB.cds rfl _⟩,trivial⟩,⟨⟨_,rfl,(hb).to⟩,trivial⟩,trivial⟩) ⟨.c _ rfl rfl,.c _ rfl rfl,.c _ rfl rfl,.c _ rfl rfl,.w _ _ (Nat.le_of_eq (fam_len _ _)),.w _ _ (Nat.le_of_eq (fam_len _ _)),.w _ _ (Nat.le_of_eq (fam_len _ _)),.w _ _ (Nat.le_of_eq (fam_len _ _)),.c _ rfl rfl,.c _ rfl rfl,.c _ rfl rfl,trivial⟩; (try unfold ciF); (all_goals (repeat' (first | exact ToAll.nil | exact famsTo.nil | exact famTo.nil | exact ToL.nil | exact ToR.nil | refine ToAll.cons ?_ ?_ | refine famsTo.cons ?_ ?_ | refine wt10 ?_ ?_ | exact To.undef _ | exact To.sc _ | exact To.hslL rfl rfl | exact To.asl _ _ _ _ _ _ rfl | exact To.ptrO rfl rfl rfl | exact To.mrefO rfl | exact To.nil rfl rfl rfl | exact wt1 | exact To.nilL | refine To.int ?_ | refine To.bool ?_ | refine To.hslL rfl ?_ | refine wt2 rfl ?_ ?_ ?_ | refine To.tupL ?_ | refine To.aggL ?_ | refine To.cptrL ?_ | refine To.fzp rfl rfl rfl ?_ | refine To.fzm rfl rfl ?_ | refine To.cloL ?_ ?_ | refine wt3 ?_ | refine wt4 ?_ | exact wt5 | refine wt6 ?_ | refine ToB.one ?_ | exact wt7 | ((with_reducible apply ToL.consE); case e9=>rfl) | refine wt8 ?_ | refine ToL.cons ?_ ?_ | exact wt11 | refine wt9 ?_ ?_ | refine wt12 ?_ | (with_reducible rfl) | assumption)); all_goals (first | rfl | assumption | (simp; done) | (simp; omega) | (rw[wrap_small (by omega) (by omega)]; done) | (rw[wrap_small (by omega) (by omega)]; omega) | (refine congrArg Nat.cast ?_; assumption) | skip)); (exact .yld _ _ _ _ rfl); exact To.hslL (rho_w rfl hrl) rfl)
 unfold ciF candU worldH worldG boxW ckV
 refine AWP.seq ?_
 refine AWP.seq ?_
 refine AWP.dk mixed ?_
 refine walkX ?_
 refine DK.o rfl (dstep_lookC rfl rfl f1) ?_
 refine walkX ?_
 refine DK.nil ⟨by kernel_rfl,?_⟩
 rw[← hap] at *
 have hlk:=fun g k fr H x ix h1 h2=>acc_look (g:=g) (k:=k) (fr:=fr) (H:=H) (x:=x) (ix:=ix) (i:=i) hLL h1 h2
 have hr1:=linesR_get hLL
 unfold lnR epR at hr1
 cases hu:isUpd (actP p (r,i)).k with
 | false=>
  rw[stepT_not hk hu]
  refine AWP.condF rfl ?_
  refine AWP.skip ?_
  refine AWP.sub (fr':=(6,.cptr [.sc (.int .i64 (k:Int))])::(7,.cptr [.sc (.int .i64 (i:Int))])::ciF r n (prAt s r).q.length k) (H':=candU p ls s L out b) ?_ ?_
  ·(refine Sub.wgL p ls s b4 b4 (pendF ls.length s) [] [] [[(8,0)],[(9,0)],[(10,0)],[(11,0)],[(12,0)]] ([nil3]::lB 11 (out).length::[.lp L (capsR p) .ready none]::[[.cells 1 (cdsR (out))],[b]]) ?_ rfl rfl rfl rfl rfl rfl rfl (pend_same fun i hi=>fam_get hi) rho_b4 (candY rfl rfl rfl rfl rfl rfl rfl ⟨⟨⟨_,rfl,ToB.cds rfl _⟩,trivial⟩,⟨⟨_,rfl,(hb).to⟩,trivial⟩,trivial⟩) ⟨.c _ rfl rfl,.c _ rfl rfl,.c _ rfl rfl,.c _ rfl rfl,.w _ _ (Nat.le_of_eq (fam_len _ _)),.w _ _ (Nat.le_of_eq (fam_len _ _)),.w _ _ (Nat.le_of_eq (fam_len _ _)),.w _ _ (Nat.le_of_eq (fam_len _ _)),.c _ rfl rfl,.c _ rfl rfl,.c _ rfl rfl,trivial⟩; (try unfold ciF); (all_goals (repeat' (first | exact ToAll.nil | exact famsTo.nil | exact famTo.nil | exact ToL.nil | exact ToR.nil | refine ToAll.cons ?_ ?_ | refine famsTo.cons ?_ ?_ | refine wt10 ?_ ?_ | exact To.undef _ | exact To.sc _ | exact To.hslL rfl rfl | exact To.asl _ _ _ _ _ _ rfl | exact To.ptrO rfl rfl rfl | exact To.mrefO rfl | exact To.nil rfl rfl rfl | exact wt1 | exact To.nilL | refine To.int ?_ | refine To.bool ?_ | refine To.hslL rfl ?_ | refine wt2 rfl ?_ ?_ ?_ | refine To.tupL ?_ | refine To.aggL ?_ | refine To.cptrL ?_ | refine To.fzp rfl rfl rfl ?_ | refine To.fzm rfl rfl ?_ | refine To.cloL ?_ ?_ | refine wt3 ?_ | refine wt4 ?_ | exact wt5 | refine wt6 ?_ | refine ToB.one ?_ | exact wt7 | ((with_reducible apply ToL.consE); case e9=>rfl) | refine wt8 ?_ | refine ToL.cons ?_ ?_ | exact wt11 | refine wt9 ?_ ?_ | refine wt12 ?_ | (with_reducible rfl) | assumption)); all_goals (first | rfl | assumption | (simp; done) | (simp; omega) | (rw[wrap_small (by omega) (by omega)]; done) | (rw[wrap_small (by omega) (by omega)]; omega) | (refine congrArg Nat.cast ?_; assumption) | skip)); (exact .yld _ _ _ _ rfl); exact To.hslL (rho_w rfl hrl) rfl)
  exact hy out hn b u hb _ fun fr H h=>⟨b,hb,h⟩
 | true=>
  refine AWP.condT rfl ?_
  refine AWP.seq ?_
  refine AWP.dk mixed ?_
  refine walkX ?_
  refine DK.o rfl (hlk _ _ _ _ _ _ rfl rfl) ?_
  refine walkX ?_
  refine DK.nil ⟨by kernel_rfl,?_⟩
  refine AWP.seq ?_
  refine AWP.region ?_
  generalize hcc:acN ls (r,i)=c at *
  obtain⟨c1,c2,c3⟩:=c
  unfold acR
  dsimp only
  refine walkR ?_
  refine AWP.sub (fr':=(6,.cptr [.sc (.int .i64 (k:Int))])::(7,.cptr [.sc (.int .i64 (i:Int))])::(8,.cptr [.sc (.int .i64 c1),.sc (.int .i64 c2),.sc (.int .i64 0)])::ciF r n (prAt s r).q.length k) (H':=candU p ls s L out b) ?_ ?_
  ·(refine Sub.wgL p ls s b4 b4 (pendF ls.length s) [] [] [[(8,0)],[(9,0)],[(10,0)],[(11,0)],[(12,0)]] ([nil3]::lB 11 (out).length::[.lp L (capsR p) .ready none]::[[.cells 1 (cdsR (out))],[b]]) ?_ rfl rfl rfl rfl rfl rfl rfl (pend_same fun i hi=>fam_get hi) rho_b4 (candY rfl rfl rfl rfl rfl rfl rfl ⟨⟨⟨_,rfl,ToB.cds rfl _⟩,trivial⟩,⟨⟨_,rfl,(hb).to⟩,trivial⟩,trivial⟩) ⟨.c _ rfl rfl,.c _ rfl rfl,.c _ rfl rfl,.c _ rfl rfl,.w _ _ (Nat.le_of_eq (fam_len _ _)),.w _ _ (Nat.le_of_eq (fam_len _ _)),.w _ _ (Nat.le_of_eq (fam_len _ _)),.w _ _ (Nat.le_of_eq (fam_len _ _)),.c _ rfl rfl,.c _ rfl rfl,.c _ rfl rfl,trivial⟩; (try unfold ciF); (all_goals (repeat' (first | exact ToAll.nil | exact famsTo.nil | exact famTo.nil | exact ToL.nil | exact ToR.nil | refine ToAll.cons ?_ ?_ | refine famsTo.cons ?_ ?_ | refine wt10 ?_ ?_ | exact To.undef _ | exact To.sc _ | exact To.hslL rfl rfl | exact To.asl _ _ _ _ _ _ rfl | exact To.ptrO rfl rfl rfl | exact To.mrefO rfl | exact To.nil rfl rfl rfl | exact wt1 | exact To.nilL | refine To.int ?_ | refine To.bool ?_ | refine To.hslL rfl ?_ | refine wt2 rfl ?_ ?_ ?_ | refine To.tupL ?_ | refine To.aggL ?_ | refine To.cptrL ?_ | refine To.fzp rfl rfl rfl ?_ | refine To.fzm rfl rfl ?_ | refine To.cloL ?_ ?_ | refine wt3 ?_ | refine wt4 ?_ | exact wt5 | refine wt6 ?_ | refine ToB.one ?_ | exact wt7 | ((with_reducible apply ToL.consE); case e9=>rfl) | refine wt8 ?_ | refine ToL.cons ?_ ?_ | exact wt11 | refine wt9 ?_ ?_ | refine wt12 ?_ | (with_reducible rfl) | assumption)); all_goals (first | rfl | assumption | (simp; done) | (simp; omega) | (rw[wrap_small (by omega) (by omega)]; done) | (rw[wrap_small (by omega) (by omega)]; omega) | (refine congrArg Nat.cast ?_; assumption) | skip)); (exact .yld _ _ _ _ rfl); exact To.hslL (rho_w rfl hrl) rfl)
  unfold ciF
  refine AWP.seq ?_
  refine AWP.seq ?_
  refine AWP.region ?_
  refine walkR ?_
  refine Reg.o rfl (dstep_lookUW hb rfl rfl rfl) ?_
  refine Reg.nil ?_
  by_cases hm:(c1,c2)∈u
  ·rw[stepT_old hk hu (by rw[hcc]; exact hm),dTr hm]
   refine AWP.condT rfl ?_
   refine AWP.exit ?_
   refine⟨b,hb,?_⟩
   (refine Sub.wgL p ls s b4 b4 (pendF ls.length s) [] [] [[(8,0)],[(9,0)],[(10,0)],[(11,0)],[(12,0)]] ([nil3]::lB 11 (out).length::[.lp L (capsR p) .ready none]::[[.cells 1 (cdsR (out))],[b]]) ?_ rfl rfl rfl rfl rfl rfl rfl (pend_same fun i hi=>fam_get hi) rho_b4 (candY rfl rfl rfl rfl rfl rfl rfl ⟨⟨⟨_,rfl,ToB.cds rfl _⟩,trivial⟩,⟨⟨_,rfl,(hb).to⟩,trivial⟩,trivial⟩) ⟨.c _ rfl rfl,.c _ rfl rfl,.c _ rfl rfl,.c _ rfl rfl,.w _ _ (Nat.le_of_eq (fam_len _ _)),.w _ _ (Nat.le_of_eq (fam_len _ _)),.w _ _ (Nat.le_of_eq (fam_len _ _)),.w _ _ (Nat.le_of_eq (fam_len _ _)),.c _ rfl rfl,.c _ rfl rfl,.c _ rfl rfl,trivial⟩; (try unfold ciF); (all_goals (repeat' (first | exact ToAll.nil | exact famsTo.nil | exact famTo.nil | exact ToL.nil | exact ToR.nil | refine ToAll.cons ?_ ?_ | refine famsTo.cons ?_ ?_ | refine wt10 ?_ ?_ | exact To.undef _ | exact To.sc _ | exact To.hslL rfl rfl | exact To.asl _ _ _ _ _ _ rfl | exact To.ptrO rfl rfl rfl | exact To.mrefO rfl | exact To.nil rfl rfl rfl | exact wt1 | exact To.nilL | refine To.int ?_ | refine To.bool ?_ | refine To.hslL rfl ?_ | refine wt2 rfl ?_ ?_ ?_ | refine To.tupL ?_ | refine To.aggL ?_ | refine To.cptrL ?_ | refine To.fzp rfl rfl rfl ?_ | refine To.fzm rfl rfl ?_ | refine To.cloL ?_ ?_ | refine wt3 ?_ | refine wt4 ?_ | exact wt5 | refine wt6 ?_ | refine ToB.one ?_ | exact wt7 | ((with_reducible apply ToL.consE); case e9=>rfl) | refine wt8 ?_ | refine ToL.cons ?_ ?_ | exact wt11 | refine wt9 ?_ ?_ | refine wt12 ?_ | (with_reducible rfl) | assumption)); all_goals (first | rfl | assumption | (simp; done) | (simp; omega) | (rw[wrap_small (by omega) (by omega)]; done) | (rw[wrap_small (by omega) (by omega)]; omega) | (refine congrArg Nat.cast ?_; assumption) | skip)); (exact .yld _ _ _ _ rfl); exact To.hslL (rho_w rfl hrl) rfl)
  ·rw[stepT_new hk hu (by rw[hcc]; exact hm),dFa hm,hcc]
   refine AWP.condF rfl ?_
   refine AWP.skip ?_
   refine AWP.region ?_
   refine walkR ?_
   refine Reg.on rfl (dstep_insUW hb hm rfl rfl rfl rfl) ?_
   refine Reg.nil ?_
   have hb2:=hb.ins hm
   refine AWP.sub (fr':=(6,.cptr [.sc (.int .i64 (k:Int))])::(7,.cptr [.sc (.int .i64 (i:Int))])::ciF r n (prAt s r).q.length k) (H':=candU p ls s L out (insU b c1 c2)) ?_ ?_
   ·(refine Sub.wgL p ls s b4 b4 (pendF ls.length s) [] [] [[(8,0)],[(9,0)],[(10,0)],[(11,0)],[(12,0)]] ([nil3]::lB 11 (out).length::[.lp L (capsR p) .ready none]::[[.cells 1 (cdsR (out))],[insU b c1 c2]]) ?_ rfl rfl rfl rfl rfl rfl rfl (pend_same fun i hi=>fam_get hi) rho_b4 (candY rfl rfl rfl rfl rfl rfl rfl ⟨⟨⟨_,rfl,ToB.cds rfl _⟩,trivial⟩,⟨⟨_,rfl,(hb2).to⟩,trivial⟩,trivial⟩) ⟨.c _ rfl rfl,.c _ rfl rfl,.c _ rfl rfl,.c _ rfl rfl,.w _ _ (Nat.le_of_eq (fam_len _ _)),.w _ _ (Nat.le_of_eq (fam_len _ _)),.w _ _ (Nat.le_of_eq (fam_len _ _)),.w _ _ (Nat.le_of_eq (fam_len _ _)),.c _ rfl rfl,.c _ rfl rfl,.c _ rfl rfl,trivial⟩; (try unfold ciF); (all_goals (repeat' (first | exact ToAll.nil | exact famsTo.nil | exact famTo.nil | exact ToL.nil | exact ToR.nil | refine ToAll.cons ?_ ?_ | refine famsTo.cons ?_ ?_ | refine wt10 ?_ ?_ | exact To.undef _ | exact To.sc _ | exact To.hslL rfl rfl | exact To.asl _ _ _ _ _ _ rfl | exact To.ptrO rfl rfl rfl | exact To.mrefO rfl | exact To.nil rfl rfl rfl | exact wt1 | exact To.nilL | refine To.int ?_ | refine To.bool ?_ | refine To.hslL rfl ?_ | refine wt2 rfl ?_ ?_ ?_ | refine To.tupL ?_ | refine To.aggL ?_ | refine To.cptrL ?_ | refine To.fzp rfl rfl rfl ?_ | refine To.fzm rfl rfl ?_ | refine To.cloL ?_ ?_ | refine wt3 ?_ | refine wt4 ?_ | exact wt5 | refine wt6 ?_ | refine ToB.one ?_ | exact wt7 | ((with_reducible apply ToL.consE); case e9=>rfl) | refine wt8 ?_ | refine ToL.cons ?_ ?_ | exact wt11 | refine wt9 ?_ ?_ | refine wt12 ?_ | (with_reducible rfl) | assumption)); all_goals (first | rfl | assumption | (simp; done) | (simp; omega) | (rw[wrap_small (by omega) (by omega)]; done) | (rw[wrap_small (by omega) (by omega)]; omega) | (refine congrArg Nat.cast ?_; assumption) | skip)); (exact .yld _ _ _ _ rfl); exact To.hslL (rho_w rfl hrl) rfl)
   exact hy out hn (insU b c1 c2) _ hb2 _ fun fr H h=>⟨insU b c1 c2,hb2,h⟩
def tkN (p:Pg) (ls:List Ln) (s:St) (r:Nat) (out:List Cd) (k:Nat):CS:=(List.range k).foldl (stepT p ls r (prAt s r).q) ([],out)
theorem tkN_succ (p:Pg) (ls:List Ln) (s:St) (r:Nat) (out:List Cd) (k:Nat):tkN p ls s r out (k+1)=stepT p ls r (prAt s r).q (tkN p ls s r out k) k:=by
 unfold tkN
 rw[List.range_succ,List.foldl_append]
 rfl
theorem tkN_len (p:Pg) (ls:List Ln) (s:St) (r:Nat) (out:List Cd):∀ k,(tkN p ls s r out k).2.length≤out.length+k
 | 0=>Nat.le_refl _
 | k+1=>by
  have:=tkN_len p ls s r out k
  rw[tkN_succ]
  unfold stepT
  split
  ·split
   ·omega
   ·simp only[List.length_append,List.length_cons,List.length_nil]; omega
  ·simp only[List.length_append,List.length_cons,List.length_nil]; omega
def tksN (p:Pg) (ls:List Ln) (s:St) (out:List Cd) (r:Nat):List Cd:=(List.range r).foldl (takesR p ls s) out
theorem tksN_succ (p:Pg) (ls:List Ln) (s:St) (out:List Cd) (r:Nat):tksN p ls s out (r+1)=(tkN p ls s r (tksN p ls s out r) (prAt s r).q.length).2:=by
 unfold tksN
 rw[List.range_succ,List.foldl_append]
 rfl
theorem tksN_len {p:Pg} {ls:List Ln} {s:St} (hC:CkOK p ls) (hS:RunOK p ls s) (out:List Cd):∀ r,r≤ls.length→(tksN p ls s out r).length≤out.length+100 * r
 | 0,_=>Nat.le_refl _
 | r+1,h=>by
  have h1:=tksN_len hC hS out r (by omega)
  have h2:=tkN_len p ls s r (tksN p ls s out r) (prAt s r).q.length
  have h3:=hS.q100 hC (show r < ls.length by omega)
  rw[tksN_succ]
  omega
def coF (n r:Nat):Fr:=[(0,.yld 10 0),(1,.cptr [.ptr 0 0 0 0]),(32,.sc (.int .i64 (n:Int))),(33,.sc (.int .i64 (r:Int)))]
set_option maxHeartbeats 16000000 in
theorem candB {p:Pg} {ls:List Ln} {s:St} (hC:CkOK p ls) (hS:RunOK p ls s) (L:LC) (hL:LOK Tryz.prog F18.n L [74] lkA lkB) (out0:List Cd) (h0:out0.length≤64):
  AWP Tryz.prog F65.n 11 (pickI [1] F65.code) (EndQ F65.n 11 F65.res fun _ H'=>H'=candH p ls s L (tksN p ls s out0 ls.length)) (cdF ls.length ls.length) (candH p ls s L out0):=by
 have hn64:=hC.n64
 have hn:=hC.len
 show AWP _ _ _ (.seq _ _) _ _ _
 unfold candH worldH worldG boxW cdF
 refine AWP.seq ?_
 refine AWP.region ?_
 refine walkR ?_
 refine AWP.block ?_
 refine AWP.loop (fun r:Nat=>coF ls.length r) (fun r=>candH p ls s L (tksN p ls s out0 r)) (fun r=>r≤ls.length) (fun r=>ls.length - r) 0 (Nat.zero_le _) ?_ ?_
 ·show Sub _ _ _ _ _ (candH p ls s L out0)
  (refine Sub.wgL p ls s b4 b4 (pendF ls.length s) [] [] [[(8,0)],[(9,0)],[(10,0)],[(11,0)]] ([nil3]::lB 11 (out0).length::[.lp L (capsR p) .ready none]::[[.cells 1 (cdsR (out0))]]) ?_ rfl rfl rfl rfl rfl rfl rfl (pend_same fun i hi=>fam_get hi) rho_b4 (candY rfl rfl rfl rfl rfl rfl rfl ⟨⟨⟨_,rfl,ToB.cds rfl _⟩,trivial⟩,trivial⟩) ⟨.c _ rfl rfl,.c _ rfl rfl,.c _ rfl rfl,.c _ rfl rfl,.w _ _ (Nat.le_of_eq (fam_len _ _)),.w _ _ (Nat.le_of_eq (fam_len _ _)),.w _ _ (Nat.le_of_eq (fam_len _ _)),.w _ _ (Nat.le_of_eq (fam_len _ _)),.c _ rfl rfl,.c _ rfl rfl,.c _ rfl rfl,trivial⟩; (try unfold coF); (all_goals (repeat' (first | exact ToAll.nil | exact famsTo.nil | exact famTo.nil | exact ToL.nil | exact ToR.nil | refine ToAll.cons ?_ ?_ | refine famsTo.cons ?_ ?_ | refine wt10 ?_ ?_ | exact To.undef _ | exact To.sc _ | exact To.hslL rfl rfl | exact To.asl _ _ _ _ _ _ rfl | exact To.ptrO rfl rfl rfl | exact To.mrefO rfl | exact To.nil rfl rfl rfl | exact wt1 | exact To.nilL | refine To.int ?_ | refine To.bool ?_ | refine To.hslL rfl ?_ | refine wt2 rfl ?_ ?_ ?_ | refine To.tupL ?_ | refine To.aggL ?_ | refine To.cptrL ?_ | refine To.fzp rfl rfl rfl ?_ | refine To.fzm rfl rfl ?_ | refine To.cloL ?_ ?_ | refine wt3 ?_ | refine wt4 ?_ | exact wt5 | refine wt6 ?_ | refine ToB.one ?_ | exact wt7 | ((with_reducible apply ToL.consE); case e9=>rfl) | refine wt8 ?_ | refine ToL.cons ?_ ?_ | exact wt11 | refine wt9 ?_ ?_ | refine wt12 ?_ | (with_reducible rfl) | assumption)); all_goals (first | rfl | assumption | (simp; done) | (simp; omega) | (rw[wrap_small (by omega) (by omega)]; done) | (rw[wrap_small (by omega) (by omega)]; omega) | (refine congrArg Nat.cast ?_; assumption) | skip)); exact .yld _ _ _ _ rfl)
 rintro r hr
 unfold coF
 refine AWP.seq ?_
 refine AWP.region ?_
 refine walkR ?_
 refine AWP.seq ?_
 refine AWP.condD rfl (fun hrl=>?_) (fun hge=>?_)
 ·have hp1:=procsH_get (s:=s) (b:=b4) hrl
  have hp1l:=procsH_len ls.length s b4
  have hq:=hS.q100 hC hrl
  have hol:=tksN_len hC hS out0 r hr
  have hsucc:=tksN_succ p ls s out0 r
  unfold b4 at hp1
  dsimp only at hp1
  refine AWP.skip ?_
  refine AWP.seq ?_
  refine AWP.block ?_
  refine AWP.seq ?_
  refine AWP.region ?_
  unfold candH worldH worldG boxW
  refine walkR ?_
  refine AWP.seq ?_
  refine AWP.region ?_
  refine walkR ?_
  refine AWP.seq ?_
  refine AWP.dk mixed ?_
  refine walkX ?_
  refine DK.nil ⟨by kernel_rfl,?_⟩
  have hb0:UB [] (.map []):=.inl ⟨rfl,rfl⟩
  refine AWP.block ?_
  refine AWP.loop (σ:=Nat×CS×Blk) (fun t=>ciF r ls.length (prAt s r).q.length t.1) (fun t=>candU p ls s L t.2.1.2 t.2.2) (fun t=>t.1≤(prAt s r).q.length∧t.2.1=tkN p ls s r (tksN p ls s out0 r) t.1∧UB t.2.1.1 t.2.2) (fun t=>(prAt s r).q.length - t.1) (0,([],tksN p ls s out0 r),.map []) ⟨Nat.zero_le _,rfl,hb0⟩ ?_ ?_
  ·dsimp only
   (refine Sub.wgL p ls s b4 b4 (pendF ls.length s) [] [] [[(8,0)],[(9,0)],[(10,0)],[(11,0)],[(13,0)]] ([nil3]::lB 11 (tksN p ls s out0 r).length::[.lp L (capsR p) .ready none]::[[.cells 1 (cdsR (tksN p ls s out0 r))],[.map []]]) ?_ rfl rfl rfl rfl rfl rfl rfl (pend_same fun i hi=>fam_get hi) rho_b4 (candY rfl rfl rfl rfl rfl rfl rfl ⟨⟨⟨_,rfl,ToB.cds rfl _⟩,trivial⟩,⟨⟨_,rfl,(hb0).to⟩,trivial⟩,trivial⟩) ⟨.c _ rfl rfl,.c _ rfl rfl,.c _ rfl rfl,.c _ rfl rfl,.w _ _ (Nat.le_of_eq (fam_len _ _)),.w _ _ (Nat.le_of_eq (fam_len _ _)),.w _ _ (Nat.le_of_eq (fam_len _ _)),.w _ _ (Nat.le_of_eq (fam_len _ _)),.c _ rfl rfl,.c _ rfl rfl,.c _ rfl rfl,trivial⟩; (try unfold ciF); (all_goals (repeat' (first | exact ToAll.nil | exact famsTo.nil | exact famTo.nil | exact ToL.nil | exact ToR.nil | refine ToAll.cons ?_ ?_ | refine famsTo.cons ?_ ?_ | refine wt10 ?_ ?_ | exact To.undef _ | exact To.sc _ | exact To.hslL rfl rfl | exact To.asl _ _ _ _ _ _ rfl | exact To.ptrO rfl rfl rfl | exact To.mrefO rfl | exact To.nil rfl rfl rfl | exact wt1 | exact To.nilL | refine To.int ?_ | refine To.bool ?_ | refine To.hslL rfl ?_ | refine wt2 rfl ?_ ?_ ?_ | refine To.tupL ?_ | refine To.aggL ?_ | refine To.cptrL ?_ | refine To.fzp rfl rfl rfl ?_ | refine To.fzm rfl rfl ?_ | refine To.cloL ?_ ?_ | refine wt3 ?_ | refine wt4 ?_ | exact wt5 | refine wt6 ?_ | refine ToB.one ?_ | exact wt7 | ((with_reducible apply ToL.consE); case e9=>rfl) | refine wt8 ?_ | refine ToL.cons ?_ ?_ | exact wt11 | refine wt9 ?_ ?_ | refine wt12 ?_ | (with_reducible rfl) | assumption)); all_goals (first | rfl | assumption | (simp; done) | (simp; omega) | (rw[wrap_small (by omega) (by omega)]; done) | (rw[wrap_small (by omega) (by omega)]; omega) | (refine congrArg Nat.cast ?_; assumption) | skip)); (exact .yld _ _ _ _ rfl); exact To.hslL (rho_w rfl hrl) rfl)
  rintro⟨k,⟨u,out⟩,b⟩ ⟨hk,hcs,hb⟩
  dsimp only at hk hcs hb ⊢
  have hsu:=tkN_succ p ls s r (tksN p ls s out0 r) k
  have htl:=tkN_len p ls s r (tksN p ls s out0 r) k
  rw[← hcs] at hsu htl
  unfold ciF
  refine AWP.seq ?_
  refine AWP.region ?_
  refine walkR ?_
  refine AWP.seq ?_
  refine AWP.condD rfl (fun hlt=>?_) (fun hge=>?_)
  ·refine AWP.skip ?_
   refine AWP.seq ?_
   have hkk:(prAt s r).q[k]?=some (prAt s r).q[k]:=gEg hlt
   refine AWP.sub (fr':=ciF r ls.length (prAt s r).q.length k) (H':=candU p ls s L out b) ?_ ?_
   ·(refine Sub.wgL p ls s b4 b4 (pendF ls.length s) [] [] [[(8,0)],[(9,0)],[(10,0)],[(11,0)],[(12,0)]] ([nil3]::lB 11 (out).length::[.lp L (capsR p) .ready none]::[[.cells 1 (cdsR (out))],[b]]) ?_ rfl rfl rfl rfl rfl rfl rfl (pend_same fun i hi=>fam_get hi) rho_b4 (candY rfl rfl rfl rfl rfl rfl rfl ⟨⟨⟨_,rfl,ToB.cds rfl _⟩,trivial⟩,⟨⟨_,rfl,(hb).to⟩,trivial⟩,trivial⟩) ⟨.c _ rfl rfl,.c _ rfl rfl,.c _ rfl rfl,.c _ rfl rfl,.w _ _ (Nat.le_of_eq (fam_len _ _)),.w _ _ (Nat.le_of_eq (fam_len _ _)),.w _ _ (Nat.le_of_eq (fam_len _ _)),.w _ _ (Nat.le_of_eq (fam_len _ _)),.c _ rfl rfl,.c _ rfl rfl,.c _ rfl rfl,trivial⟩; (try unfold ciF); (all_goals (repeat' (first | exact ToAll.nil | exact famsTo.nil | exact famTo.nil | exact ToL.nil | exact ToR.nil | refine ToAll.cons ?_ ?_ | refine famsTo.cons ?_ ?_ | refine wt10 ?_ ?_ | exact To.undef _ | exact To.sc _ | exact To.hslL rfl rfl | exact To.asl _ _ _ _ _ _ rfl | exact To.ptrO rfl rfl rfl | exact To.mrefO rfl | exact To.nil rfl rfl rfl | exact wt1 | exact To.nilL | refine To.int ?_ | refine To.bool ?_ | refine To.hslL rfl ?_ | refine wt2 rfl ?_ ?_ ?_ | refine To.tupL ?_ | refine To.aggL ?_ | refine To.cptrL ?_ | refine To.fzp rfl rfl rfl ?_ | refine To.fzm rfl rfl ?_ | refine To.cloL ?_ ?_ | refine wt3 ?_ | refine wt4 ?_ | exact wt5 | refine wt6 ?_ | refine ToB.one ?_ | exact wt7 | ((with_reducible apply ToL.consE); case e9=>rfl) | refine wt8 ?_ | refine ToL.cons ?_ ?_ | exact wt11 | refine wt9 ?_ ?_ | refine wt12 ?_ | (with_reducible rfl) | assumption)); all_goals (first | rfl | assumption | (simp; done) | (simp; omega) | (rw[wrap_small (by omega) (by omega)]; done) | (rw[wrap_small (by omega) (by omega)]; omega) | (refine congrArg Nat.cast ?_; assumption) | skip)); (exact .yld _ _ _ _ rfl); exact To.hslL (rho_w rfl hrl) rfl)
   refine AWP.joinT (fun b':Blk=>ciF r ls.length (prAt s r).q.length k) (fun b'=>candU p ls s L (stepT p ls r (prAt s r).q (u,out) k).2 b') (fun b'=>UB (stepT p ls r (prAt s r).q (u,out) k).1 b') (candT hC hS L hL hrl hkk out (by dsimp only at htl; omega) b u hb _) fun b' hb'=>?_
   unfold ciF
   refine walkX ?_
   refine⟨(k+1,stepT p ls r (prAt s r).q (u,out) k,b'),⟨by omega,hsu.symm,hb'⟩,by omega,?_⟩
   dsimp only
   (refine Sub.wgL p ls s b4 b4 (pendF ls.length s) [] [] [[(8,0)],[(9,0)],[(10,0)],[(11,0)],[(12,0)]] ([nil3]::lB 11 ((stepT p ls r (prAt s r).q (u,out) k).2).length::[.lp L (capsR p) .ready none]::[[.cells 1 (cdsR ((stepT p ls r (prAt s r).q (u,out) k).2))],[b']]) ?_ rfl rfl rfl rfl rfl rfl rfl (pend_same fun i hi=>fam_get hi) rho_b4 (candY rfl rfl rfl rfl rfl rfl rfl ⟨⟨⟨_,rfl,ToB.cds rfl _⟩,trivial⟩,⟨⟨_,rfl,(hb').to⟩,trivial⟩,trivial⟩) ⟨.c _ rfl rfl,.c _ rfl rfl,.c _ rfl rfl,.c _ rfl rfl,.w _ _ (Nat.le_of_eq (fam_len _ _)),.w _ _ (Nat.le_of_eq (fam_len _ _)),.w _ _ (Nat.le_of_eq (fam_len _ _)),.w _ _ (Nat.le_of_eq (fam_len _ _)),.c _ rfl rfl,.c _ rfl rfl,.c _ rfl rfl,trivial⟩; (try unfold ciF); (all_goals (repeat' (first | exact ToAll.nil | exact famsTo.nil | exact famTo.nil | exact ToL.nil | exact ToR.nil | refine ToAll.cons ?_ ?_ | refine famsTo.cons ?_ ?_ | refine wt10 ?_ ?_ | exact To.undef _ | exact To.sc _ | exact To.hslL rfl rfl | exact To.asl _ _ _ _ _ _ rfl | exact To.ptrO rfl rfl rfl | exact To.mrefO rfl | exact To.nil rfl rfl rfl | exact wt1 | exact To.nilL | refine To.int ?_ | refine To.bool ?_ | refine To.hslL rfl ?_ | refine wt2 rfl ?_ ?_ ?_ | refine To.tupL ?_ | refine To.aggL ?_ | refine To.cptrL ?_ | refine To.fzp rfl rfl rfl ?_ | refine To.fzm rfl rfl ?_ | refine To.cloL ?_ ?_ | refine wt3 ?_ | refine wt4 ?_ | exact wt5 | refine wt6 ?_ | refine ToB.one ?_ | exact wt7 | ((with_reducible apply ToL.consE); case e9=>rfl) | refine wt8 ?_ | refine ToL.cons ?_ ?_ | exact wt11 | refine wt9 ?_ ?_ | refine wt12 ?_ | (with_reducible rfl) | assumption)); all_goals (first | rfl | assumption | (simp; done) | (simp; omega) | (rw[wrap_small (by omega) (by omega)]; done) | (rw[wrap_small (by omega) (by omega)]; omega) | (refine congrArg Nat.cast ?_; assumption) | skip)); (exact .yld _ _ _ _ rfl); exact To.hslL (rho_w rfl hrl) rfl)
  ·have e:k=(prAt s r).q.length:=by omega
   subst e
   refine AWP.exit ?_
   have hout:tksN p ls s out0 (r+1)=out:=by rw[hsucc,← hcs]
   show AWP _ _ _ (.region _) _ _ _
   refine walkX ?_
   refine⟨r+1,by omega,by omega,?_⟩
   rw[hout]
   unfold candU
   (refine Sub.wgL p ls s b4 b4 (pendF ls.length s) [] [] [[(8,0)],[(9,0)],[(10,0)],[(11,0)]] ([nil3]::lB 11 (out).length::[.lp L (capsR p) .ready none]::[[.cells 1 (cdsR (out))]]) ?_ rfl rfl rfl rfl rfl rfl rfl (pend_same fun i hi=>fam_get hi) rho_b4 (candY rfl rfl rfl rfl rfl rfl rfl ⟨⟨⟨_,rfl,ToB.cds rfl _⟩,trivial⟩,trivial⟩) ⟨.c _ rfl rfl,.c _ rfl rfl,.c _ rfl rfl,.c _ rfl rfl,.w _ _ (Nat.le_of_eq (fam_len _ _)),.w _ _ (Nat.le_of_eq (fam_len _ _)),.w _ _ (Nat.le_of_eq (fam_len _ _)),.w _ _ (Nat.le_of_eq (fam_len _ _)),.c _ rfl rfl,.c _ rfl rfl,.c _ rfl rfl,trivial⟩; (try unfold coF); (all_goals (repeat' (first | exact ToAll.nil | exact famsTo.nil | exact famTo.nil | exact ToL.nil | exact ToR.nil | refine ToAll.cons ?_ ?_ | refine famsTo.cons ?_ ?_ | refine wt10 ?_ ?_ | exact To.undef _ | exact To.sc _ | exact To.hslL rfl rfl | exact To.asl _ _ _ _ _ _ rfl | exact To.ptrO rfl rfl rfl | exact To.mrefO rfl | exact To.nil rfl rfl rfl | exact wt1 | exact To.nilL | refine To.int ?_ | refine To.bool ?_ | refine To.hslL rfl ?_ | refine wt2 rfl ?_ ?_ ?_ | refine To.tupL ?_ | refine To.aggL ?_ | refine To.cptrL ?_ | refine To.fzp rfl rfl rfl ?_ | refine To.fzm rfl rfl ?_ | refine To.cloL ?_ ?_ | refine wt3 ?_ | refine wt4 ?_ | exact wt5 | refine wt6 ?_ | refine ToB.one ?_ | exact wt7 | ((with_reducible apply ToL.consE); case e9=>rfl) | refine wt8 ?_ | refine ToL.cons ?_ ?_ | exact wt11 | refine wt9 ?_ ?_ | refine wt12 ?_ | (with_reducible rfl) | assumption)); all_goals (first | rfl | assumption | (simp; done) | (simp; omega) | (rw[wrap_small (by omega) (by omega)]; done) | (rw[wrap_small (by omega) (by omega)]; omega) | (refine congrArg Nat.cast ?_; assumption) | skip)); exact .yld _ _ _ _ rfl)
 ·have e:r=ls.length:=by omega
  subst e
  refine AWP.exit ?_
  refine endWgL (.tup []) p ls s b4 b4 (pendF ls.length s) [] [[(8,0)],[(9,0)],[(10,0)],[(11,0)]] ([nil3]::lB 11 (tksN p ls s out0 ls.length).length::[.lp L (capsR p) .ready none]::[[.cells 1 (cdsR (tksN p ls s out0 ls.length))]]) rfl rfl rfl rfl rfl rfl rfl rfl (pend_same fun i hi=>fam_get hi) rho_b4 (candY rfl rfl rfl rfl rfl rfl rfl ⟨⟨⟨_,rfl,ToB.cds rfl _⟩,trivial⟩,trivial⟩) ⟨.c _ rfl rfl,.c _ rfl rfl,.c _ rfl rfl,.c _ rfl rfl,.w _ _ (Nat.le_of_eq (fam_len _ _)),.w _ _ (Nat.le_of_eq (fam_len _ _)),.w _ _ (Nat.le_of_eq (fam_len _ _)),.w _ _ (Nat.le_of_eq (fam_len _ _)),.c _ rfl rfl,.c _ rfl rfl,.c _ rfl rfl,trivial⟩ (hr:=To.tupL ToL.nil)
theorem cand_at {p:Pg} {ls:List Ln} {s:St} (hC:CkOK p ls) (hp:POK p) (hS:RunOK p ls s) (L:LC) (hL:LOK Tryz.prog F18.n L [74] lkA lkB):
  CallOK Tryz.prog 65 [.yld 10 0,.cptr [.ptr 0 0 0 0]] (cand0 p ls s L) fun _ H'=>H'=candH p ls s L (candsP p ls s):=by
 refine CallOK.of cF65 ?_ (nlB rfl)
 refine candA hC hp hS L hL _ ?_
 exact candB hC hS L hL (actsN p ls s ls.length) (by have:=actsN_len p ls s ls.length; have:=hC.n64; have:=hC.len; omega)
theorem actsN_mem {p:Pg} {ls:List Ln} {s:St} {c:Cd}:∀ {r:Nat},c∈actsN p ls s r→∃ j,j < r∧c=.act j∧canP p ls s j=true
 | 0,h=>by cases h
 | r+1,h=>by
  rw[actsN_succ] at h
  split at h
  ·rename_i hc
   rcases List.mem_append.1 h with h | h
   ·obtain⟨j,h1,h2⟩:=actsN_mem h
    exact⟨j,by omega,h2⟩
   ·exact⟨r,by omega,List.mem_singleton.1 h,hc⟩
  ·obtain⟨j,h1,h2⟩:=actsN_mem h
   exact⟨j,by omega,h2⟩
theorem tkN_mem {p:Pg} {ls:List Ln} {s:St} {r:Nat} {out:List Cd} {c:Cd}:∀ {k:Nat},k≤(prAt s r).q.length→c∈(tkN p ls s r out k).2→c∈out∨∃ j i,(prAt s r).q[j]?=some i∧c=.take r j i
 | 0,_,h=>.inl h
 | k+1,hk,h=>by
  have ih:=fun h'=>tkN_mem (p:=p) (ls:=ls) (s:=s) (r:=r) (out:=out) (c:=c) (k:=k) (by omega) h'
  rw[tkN_succ] at h
  have hg:(prAt s r).q[k]?=some ((prAt s r).q.getD k 0):=by rw[List.getD_eq_getElem?_getD,gEg (by omega)]; rfl
  unfold stepT at h
  split at h
  ·split at h
   ·exact ih h
   ·rcases List.mem_append.1 h with h | h
    ·exact ih h
    ·exact .inr ⟨k,_,hg,List.mem_singleton.1 h⟩
  ·rcases List.mem_append.1 h with h | h
   ·exact ih h
   ·exact .inr ⟨k,_,hg,List.mem_singleton.1 h⟩
theorem tksN_mem {p:Pg} {ls:List Ln} {s:St} {out:List Cd} {c:Cd}:∀ {r:Nat},c∈tksN p ls s out r→c∈out∨∃ b j i,b < r∧(prAt s b).q[j]?=some i∧c=.take b j i
 | 0,h=>.inl h
 | r+1,h=>by
  rw[tksN_succ] at h
  rcases tkN_mem (Nat.le_refl _) h with h | ⟨j,i,h1,h2⟩
  ·rcases tksN_mem h with h | ⟨b,j,i,h1,h2⟩
   ·exact .inl h
   ·exact .inr ⟨b,j,i,by omega,h2⟩
  ·exact .inr ⟨r,j,i,by omega,h1,h2⟩
theorem cands_mem {p:Pg} {ls:List Ln} {s:St} {c:Cd} (h:c∈candsP p ls s):(∃ r,r < ls.length∧c=.act r∧canP p ls s r=true)∨∃ r k i,r < ls.length∧(prAt s r).q[k]?=some i∧c=.take r k i:=by
 rcases tksN_mem (out:=actsN p ls s ls.length) h with h | ⟨b,j,i,h1,h2,h3⟩
 ·exact .inl (actsN_mem h)
 ·exact .inr ⟨b,j,i,h1,h2,h3⟩
theorem can_lt {p:Pg} {ls:List Ln} {s:St} {r:Nat} (hd:(prAt s r).d≤lenA p r) (h:canP p ls s r=true):(prAt s r).d < lenA p r:=by
 unfold canP dAt at h
 by_cases e:(prAt s r).d=lenA p r
 ·rw[if_pos e] at h; cases h
 ·omega
theorem nextS_lt (x:Nat):nextS x < 18446744073709551616:=by unfold nextS; omega
theorem RunOK.sd' {p:Pg} {ls:List Ln} {s:St} (h:RunOK p ls s) {sd:Nat} (hs:sd < 18446744073709551616):RunOK p ls { s with seed:=sd }:=⟨hs,h.pl,h.ml,h.hl,h.d,h.q,h.qi,h.m⟩
theorem RunOK.setL {p:Pg} {ls:List Ln} {s:St} (h:RunOK p ls s) (b:Nat) (l:List (Nat×Int)):RunOK p ls (YtkjoolaahocgdaaGreat.setL s b l):=⟨h.sd,h.pl,h.ml,by show(s.held.set b l).length=_; rw[List.length_set]; exact h.hl,h.d,h.q,h.qi,h.m⟩
theorem RunOK.setM {p:Pg} {ls:List Ln} {s:St} (h:RunOK p ls s) (b:Nat) (hb:b < ls.length) (l:List Int) (hl:l.length=(memAt s b).length):RunOK p ls (YtkjoolaahocgdaaGreat.setM s b l):=
 ⟨h.sd,h.pl,by show(s.mem.set b l).length=_; rw[List.length_set]; exact h.ml,h.hl,h.d,h.q,h.qi,fun j hj=>by
  rw[memAt_setM (by rw[h.ml]; exact hb)]
  split
  ·rename_i e; rw[hl,← e]; exact h.m j hj
  ·exact h.m j hj⟩
theorem RunOK.setP {p:Pg} {ls:List Ln} {s:St} (h:RunOK p ls s) (r:Nat) (hr:r < ls.length) (x:Pr) (h1:x.d≤lenA p r) (h2:x.q.length≤x.d) (h3:∀ i∈x.q,i < x.d∧isRem (actP p (r,i)).k=true):RunOK p ls (YtkjoolaahocgdaaGreat.setP s r x):=by
 have hs:=prAt_setP (s:=s) (r:=r) (x:=x) (by rw[h.pl]; exact hr)
 refine⟨h.sd,by show(s.ps.set r x).length=_; rw[List.length_set]; exact h.pl,h.ml,h.hl,fun j hj=>?_,fun j hj=>?_,fun j hj=>?_,h.m⟩
 ·rw[hs]; split
  ·rename_i e; rw[e]; exact h1
  ·exact h.d j hj
 ·rw[hs]; split
  ·exact h2
  ·exact h.q j hj
 ·rw[hs]; split
  ·rename_i e; rw[e]; exact h3
  ·exact h.qi j hj
theorem RunOK.eff {p:Pg} {ls:List Ln} {s:St} (h:RunOK p ls s) (x:Pl) (hr:x.1 < ls.length) (hb:(acN ls x).r.toNat < ls.length):RunOK p ls (effP p ls s x):=by
 unfold effP
 dsimp only
 have key:∀ s1:St,RunOK p ls s1→(∀ j,memAt s1 j=memAt s j)→RunOK p ls (YtkjoolaahocgdaaGreat.setM s1 (acN ls x).r.toNat ((memAt s (acN ls x).r.toNat).set (acN ls x).a.toNat (accV (actP p x) ((memAt s (acN ls x).r.toNat).getD (acN ls x).a.toNat 0)))):=fun s1 h1 hm=>by
  exact h1.setM _ hb _ (by rw[List.length_set,hm])
 split
 ·refine key _ (h.setP x.1 hr _ (h.d _ hr) (h.q _ hr) (h.qi _ hr)) fun j=>memAt_setP _ _ _ _
 ·exact key s h fun _=>rfl
theorem mem_erase {q:List Nat} {k i:Nat} (h:i∈q.eraseIdx k):i∈q:=List.mem_of_mem_eraseIdx h
theorem RunOK.take {p:Pg} {ls:List Ln} {s:St} (hC:CkOK p ls) (h:RunOK p ls s) {r k i:Nat} (hr:r < ls.length) (hk:(prAt s r).q[k]?=some i):RunOK p ls (takeP p ls s r k i):=by
 have hn:=hC.len
 obtain⟨l,hra⟩:∃ l,p.acts[r]?=some l:=⟨_,gEg (show r < p.acts.length by omega)⟩
 have hlen:=lenA_get hra
 obtain⟨L,hL,hO⟩:=hC.get hra
 have hqi:=h.qi r hr i (List.mem_of_getElem? hk)
 have hdl:=h.d r hr
 obtain⟨x,hx⟩:∃ x,l[i]?=some x:=⟨_,gEg (show i < l.length by omega)⟩
 have hap:=actP_get hra hx
 rw[hap] at hqi
 obtain⟨a1,a2,a3⟩:=acN_rem hL hO hx hqi.2
 refine RunOK.eff (s:=YtkjoolaahocgdaaGreat.setP s r ⟨(prAt s r).d,(prAt s r).q.eraseIdx k,(prAt s r).g⟩) (h.setP r hr _ (h.d r hr) ?_ fun j hj=>h.qi r hr j (mem_erase hj)) (r,i) hr (by rw[a1]; show x.r.toNat < _; omega)
 have:=h.q r hr
 have:=List.length_eraseIdx_le (prAt s r).q k
 show((prAt s r).q.eraseIdx k).length≤(prAt s r).d
 omega
theorem stepP_get {p:Pg} {ls:List Ln} {s:St} {r:Nat} {x:Act} (hap:actP p (r,(prAt s r).d)=x):stepP p ls s r=if isRem x.k=true then setP s r ⟨(prAt s r).d+1,(prAt s r).q++[(prAt s r).d],(prAt s r).g⟩
   else if x.k=6∨x.k=7 then effP p ls (setP s r ⟨(prAt s r).d+1,(prAt s r).q,(prAt s r).g⟩) (r,(prAt s r).d)
   else if x.k=13∨x.k=14 then setL (setP s r ⟨(prAt s r).d+1,(prAt s r).q,(prAt s r).g⟩) x.r.toNat (putN r x.k (heldAt s x.r.toNat))
   else if x.k=16 then setL (setP s r ⟨(prAt s r).d+1,(prAt s r).q,(prAt s r).g⟩) x.r.toNat (dropN r (heldAt s x.r.toNat))
   else setP s r ⟨(prAt s r).d+1,(prAt s r).q,(prAt s r).g⟩:=by
 unfold stepP
 dsimp only
 rw[hap]
theorem RunOK.step {p:Pg} {ls:List Ln} {s:St} (hC:CkOK p ls) (h:RunOK p ls s) {r:Nat} (hr:r < ls.length) (hd:(prAt s r).d < lenA p r):RunOK p ls (stepP p ls s r):=by
 have hn:=hC.len
 obtain⟨l,hra⟩:∃ l,p.acts[r]?=some l:=⟨_,gEg (show r < p.acts.length by omega)⟩
 have hlen:=lenA_get hra
 obtain⟨L,hL,hO⟩:=hC.get hra
 obtain⟨x,hx⟩:∃ x,l[(prAt s r).d]?=some x:=⟨_,gEg (show(prAt s r).d < l.length by omega)⟩
 have hap:=actP_get hra hx
 rw[stepP_get hap]
 have hq:=h.q r hr
 have hqi:=h.qi r hr
 have h1:RunOK p ls (YtkjoolaahocgdaaGreat.setP s r ⟨(prAt s r).d+1,(prAt s r).q,(prAt s r).g⟩):=h.setP r hr _ hd (by show(prAt s r).q.length≤(prAt s r).d+1; omega) fun i hi=>by
  have:=hqi i hi
  exact⟨by show i < (prAt s r).d+1; omega,this.2⟩
 by_cases k1:isRem x.k=true
 ·rw[if_pos k1]
  refine h.setP r hr _ hd (by rw[List.length_append]; show(prAt s r).q.length+1≤(prAt s r).d+1; omega) fun i hi=>?_
  rcases List.mem_append.1 hi with hi | hi
  ·have:=hqi i hi
   exact⟨by show i < (prAt s r).d+1; omega,this.2⟩
  ·rw[List.mem_singleton.1 hi,hap]
   exact⟨by show(prAt s r).d < (prAt s r).d+1; omega,k1⟩
 rw[if_neg k1]
 by_cases k2:x.k=6∨x.k=7
 ·rw[if_pos k2]
  obtain⟨a1,a2⟩:=acN_loc hL hO hx k2
  exact h1.eff (r,(prAt s r).d) hr (by rw[a1]; show((r:Int)).toNat < _; omega)
 rw[if_neg k2]
 by_cases k3:x.k=13∨x.k=14
 ·rw[if_pos k3]; exact h1.setL _ _
 rw[if_neg k3]
 by_cases k4:x.k=16
 ·rw[if_pos k4]; exact h1.setL _ _
 rw[if_neg k4]
 exact h1
theorem RunOK.cd {p:Pg} {ls:List Ln} {s:St} (hC:CkOK p ls) (h:RunOK p ls s) {c:Cd} (hc:c∈candsP p ls s):RunOK p ls (doP p ls s c):=by
 rcases cands_mem hc with⟨r,h1,rfl,h2⟩ | ⟨r,k,i,h1,h2,rfl⟩
 ·exact h.step hC h1 (can_lt (h.d r h1) h2)
 ·exact h.take hC h1 h2
def leftR (p:Pg) (s:St) (r:Nat):Nat:=2 * (lenA p r - (prAt s r).d)+(prAt s r).q.length
def leftP (p:Pg) (n:Nat) (s:St):Nat:=((List.range n).map (leftR p s)).sum
theorem sum_lt {n r:Nat} {f g:Nat→Nat} (hr:r < n) (h1:g r < f r) (h2:∀ j,j≠r→g j=f j):((List.range n).map g).sum < ((List.range n).map f).sum:=by
 induction n with
 | zero=>omega
 | succ n ih=>
  rw[List.range_succ,List.map_append,List.map_append,List.sum_append,List.sum_append]
  simp only[List.map_cons,List.map_nil,List.sum_cons,List.sum_nil]
  by_cases e:r=n
  ·subst e
   have:(List.range r).map g=(List.range r).map f:=List.map_congr_left fun j hj=>h2 j (by have:=List.mem_range.1 hj; omega)
   rw[this]
   omega
  ·have:=ih (by omega)
   rw[h2 n (fun e'=>e e'.symm)]
   omega
theorem prAt_eff {p:Pg} {ls:List Ln} {s:St} {x:Pl} (h:x.1 < s.ps.length) (j:Nat):(prAt (effP p ls s x) j).q=(prAt s j).q∧(prAt (effP p ls s x) j).d=(prAt s j).d:=prAt_eff_q p ls s x h j
theorem left_take {p:Pg} {ls:List Ln} {s:St} (h:RunOK p ls s) {r k i:Nat} (hr:r < ls.length) (hk:(prAt s r).q[k]?=some i):leftP p ls.length (takeP p ls s r k i) < leftP p ls.length s:=by
 have hrs:r < s.ps.length:=by rw[h.pl]; exact hr
 have hs:=prAt_setP (s:=s) (x:=⟨(prAt s r).d,(prAt s r).q.eraseIdx k,(prAt s r).g⟩) hrs
 have hkl:=(gEs.1 hk).1
 have he:=fun j=>prAt_eff (p:=p) (ls:=ls) (s:=setP s r ⟨(prAt s r).d,(prAt s r).q.eraseIdx k,(prAt s r).g⟩) (x:=(r,i)) (by unfold setP; simp; exact hrs) j
 have e:takeP p ls s r k i=effP p ls (setP s r ⟨(prAt s r).d,(prAt s r).q.eraseIdx k,(prAt s r).g⟩) (r,i):=rfl
 refine sum_lt hr ?_ fun j hj=>?_
 ·unfold leftR
  rw[e,(he r).1,(he r).2,hs,if_pos rfl]
  dsimp only
  rw[eraseIdx_len hkl]
  omega
 ·unfold leftR
  rw[e,(he j).1,(he j).2,hs,if_neg hj]
theorem left_step {p:Pg} {ls:List Ln} {s:St} (h:RunOK p ls s) {r:Nat} (hr:r < ls.length) (hd:(prAt s r).d < lenA p r):leftP p ls.length (stepP p ls s r) < leftP p ls.length s:=by
 have hrs:r < s.ps.length:=by rw[h.pl]; exact hr
 have key:∀ s':St,(∀ j,j≠r→(prAt s' j).d=(prAt s j).d∧(prAt s' j).q=(prAt s j).q)→(prAt s' r).d=(prAt s r).d+1→(prAt s' r).q.length≤(prAt s r).q.length+1→leftP p ls.length s' < leftP p ls.length s:=fun s' h1 h2 h3=>by
  refine sum_lt hr ?_ fun j hj=>?_
  ·unfold leftR
   rw[h2]
   omega
  ·unfold leftR
   rw[(h1 j hj).1,(h1 j hj).2]
 have hs:=fun q g=>prAt_setP (s:=s) (x:=⟨(prAt s r).d+1,q,g⟩) hrs
 have k0:∀ q g,q.length≤(prAt s r).q.length+1→leftP p ls.length (setP s r ⟨(prAt s r).d+1,q,g⟩) < leftP p ls.length s:=fun q g hq=>key _ (fun j hj=>by rw[hs,if_neg hj]; exact⟨rfl,rfl⟩) (by rw[hs,if_pos rfl]) (by rw[hs,if_pos rfl]; exact hq)
 rw[stepP_get rfl]
 split
 ·exact k0 _ _ (by simp)
 split
 ·have he:=fun j=>prAt_eff (p:=p) (ls:=ls) (s:=setP s r ⟨(prAt s r).d+1,(prAt s r).q,(prAt s r).g⟩) (x:=(r,(prAt s r).d)) (by unfold setP; simp; exact hrs) j
  refine key _ (fun j hj=>?_) ?_ ?_
  ·rw[(he j).1,(he j).2,hs,if_neg hj]; exact⟨rfl,rfl⟩
  ·rw[(he r).2,hs,if_pos rfl]
  ·rw[(he r).1,hs,if_pos rfl]; exact Nat.le_succ _
 split
 ·exact k0 _ _ (Nat.le_succ _)
 split
 ·exact k0 _ _ (Nat.le_succ _)
 ·exact k0 _ _ (Nat.le_succ _)
theorem left_cd {p:Pg} {ls:List Ln} {s:St} (h:RunOK p ls s) {c:Cd} (hc:c∈candsP p ls s):leftP p ls.length (doP p ls s c) < leftP p ls.length s:=by
 rcases cands_mem hc with⟨r,h1,rfl,h2⟩ | ⟨r,k,i,h1,h2,rfl⟩
 ·exact left_step h h1 (can_lt (h.d r h1) h2)
 ·exact left_take h h1 h2
theorem stepS_nil {p:Pg} {ls:List Ln} {s:St} (h:candsP p ls s=[]):stepS p ls s=none:=by
 unfold stepS
 split
 ·rfl
 ·rename_i c l e
  rw[h] at e
  cases e
theorem stepS_cons {p:Pg} {ls:List Ln} {s:St} {sd k:Nat} {c:Cd} (hsd:sd=nextS s.seed) (hk:k=pickS sd (candsP p ls s).length) (hc:(candsP p ls s)[k]?=some c):stepS p ls s=some (doP p ls { s with seed:=sd } c):=by
 unfold stepS
 rw[← hsd]
 split
 ·rename_i h
  rw[h] at hc; simp at hc
 ·rename_i a l h
  rw[h] at hc hk
  have e:(a::l).getD (pickS sd (l.length+1)) a=c:=by
   rw[show l.length+1=(a::l).length from rfl,← hk,List.getD_eq_getElem?_getD,hc]
   rfl
  rw[e]
theorem RunOK.stepS {p:Pg} {ls:List Ln} {s s':St} (hC:CkOK p ls) (h:RunOK p ls s) (he:stepS p ls s=some s'):RunOK p ls s'∧leftP p ls.length s' < leftP p ls.length s:=by
 obtain⟨sd,hsd⟩:∃ x,x=nextS s.seed:=⟨_,rfl⟩
 have hlt:sd < 18446744073709551616:=by rw[hsd]; exact nextS_lt _
 have h1:RunOK p ls { s with seed:=sd }:=h.sd' hlt
 unfold YtkjoolaahocgdaaGreat.stepS at he
 split at he
 ·cases he
 ·rename_i c l hcl
  rw[← hsd] at he
  obtain⟨k,hk⟩:∃ x,x=pickS sd (l.length+1):=⟨_,rfl⟩
  have hkl:k < l.length+1:=by rw[hk]; exact Nat.mod_lt _ (by omega)
  rw[← hk] at he
  injection he with he
  have hm:(c::l).getD k c∈candsP p ls { s with seed:=sd }:=by
   show _∈candsP p ls s
   rw[hcl,List.getD_eq_getElem?_getD,gEg (by simpa using hkl)]
   exact List.getElem_mem _
  generalize (c::l).getD k c=d at *
  subst he
  exact⟨h1.cd hC hm,left_cd h1 hm⟩
theorem runG_enough {p:Pg} {ls:List Ln} (hC:CkOK p ls):∀(f g:Nat) (s:St),RunOK p ls s→leftP p ls.length s < f→leftP p ls.length s < g→runG p ls f s=runG p ls g s
 | 0,_,_,_,h,_=>by omega
 | _,0,_,_,_,h=>by omega
 | f+1,g+1,s,hS,hf,hg=>by
  rw[runG,runG]
  cases he:stepS p ls s with
  | none=>rfl
  | some s'=>
   obtain⟨h1,h2⟩:=hS.stepS hC he
   exact runG_enough hC f g s' h1 (by omega) (by omega)
def runP (p:Pg) (ls:List Ln) (s:St):St:=runG p ls (leftP p ls.length s+1) s
theorem runP_step {p:Pg} {ls:List Ln} {s s':St} (hC:CkOK p ls) (hS:RunOK p ls s) (he:stepS p ls s=some s'):runP p ls s=runP p ls s':=by
 obtain⟨h1,h2⟩:=hS.stepS hC he
 unfold runP
 rw[runG,he]
 exact runG_enough hC _ _ s' h1 (by omega) (by omega)
theorem runP_stop {p:Pg} {ls:List Ln} {s:St} (he:stepS p ls s=none):runP p ls s=s:=by
 unfold runP
 rw[runG,he]
def l0:List Blk:=[.cells 1 [[.sc (.slice none 0 0)]]]
theorem nil3_to {T:AV→AV→Prop} {ρ:Nat→Nat→Option (Nat×Nat)}:ToB T ρ nil3 nil3:=ToB.one (ToL.cons (.sc _) (ToL.cons (.sc _) (ToL.cons (.sc _) ToL.nil)))
theorem l0_to {T:AV→AV→Prop} {ρ:Nat→Nat→Option (Nat×Nat)}:ToB T ρ (.cells 1 [[.sc (.slice none 0 0)]]) (.cells 1 [[.sc (.slice none 0 0)]]):=ToB.one (ToL.cons (.sc _) ToL.nil)
theorem f44_at (p:Pg) (ls:List Ln) (s:St):CallOK Tryz.prog 44 [.ptr 0 0 0 0] (worldH p ls s++[[nil3],l0]) fun res H'=>res=.clo (.func 65) [] [.cptr [.ptr 0 0 0 0]]∧H'=worldH p ls s++[[nil3],l0]:=by
 refine CallOK.of cF44 ?_ (nlB rfl)
 unfold worldH worldG l0
 refine walkX ?_
 refine endWgL (.clo (.func 65) [] [.cptr [.ptr 0 0 0 0]]) p ls s b4 b4 (pendF ls.length s) [] [[(8,0)],[(9,0)]] [[nil3],l0] ⟨rfl,rfl⟩ rfl rfl rfl rfl rfl rfl rfl (pend_same fun i hi=>fam_get hi) rho_b4 ⟨⟨⟨_,rfl,nil3_to⟩,trivial⟩,⟨⟨_,rfl,l0_to⟩,trivial⟩,trivial⟩ ⟨.c _ rfl rfl,.c _ rfl rfl,.c _ rfl rfl,.c _ rfl rfl,.w _ _ (Nat.le_of_eq (fam_len _ _)),.w _ _ (Nat.le_of_eq (fam_len _ _)),.w _ _ (Nat.le_of_eq (fam_len _ _)),.w _ _ (Nat.le_of_eq (fam_len _ _)),.c _ rfl rfl,.c _ rfl rfl,trivial⟩
def mF (p:Pg):Fr:=[(2,.cptr [.sc (.int .i64 p.cells),.list 1 (progR p.acts)]),(4,.ptr 8 0 0 0),(9,.ptr 0 0 0 0)]
theorem below_k (p:Pg) (ls:List Ln) (s:St) {n sd k:Nat} (hn:0 < n) (hn2:n≤1000000) (hsd:sd=nextS s.seed) (hk:k=pickS sd n) (G:Heap):
  CallOK Tryz.prog 45 [.ptr 0 0 0 0,.sc (.int .i64 (n:Int))] (worldH p ls s++G) fun res H'=>res=.sc (.int .i64 (k:Int))∧H'=worldH p ls { s with seed:=sd }++G:=by
 have h:=below_at p ls s hn hn2
 rw[← hsd,← hk] at h
 refine(CallOK.more G (worldH_closed p ls s s) (R:=fun res H'=>res=.sc (.int .i64 (k:Int))∧H'=worldH p ls { s with seed:=sd }) (h.mono fun res H' h=>?_) fun a hm=>?_).mono fun res H' h=>?_
 ·obtain⟨rfl,rfl⟩:=h
  exact⟨.sc _,worldH_closed _ _ _ _,rfl,rfl⟩
 ·rcases List.mem_cons.1 hm with rfl | hm
  ·exact .ptr _ _ _ _ _ _ rfl
  ·rw[List.mem_singleton.1 hm]; exact .sc _
 ·obtain⟨H1,rfl,rfl,rfl⟩:=h
  exact⟨rfl,rfl⟩
def mG (out:List Cd):Heap:=[[nil3],lB 10 out.length,[.cells 1 (cdsR out)]]
theorem wOrSub {p:Pg} {ls:List Ln} {s:St} {out:List Cd} {H':Heap} {N:Nat} {fr:Fr} (h:WOrG p ls s (mG out) H')
  (hfr:∀(T:AV→AV→Prop) (ρ:Nat→Nat→Option (Nat×Nat)),ρ 0 0=some (0,0)→ρ 8 0=some (8,0)→ToAll T ρ fr (mF p)):Sub 0 N fr H' (mF p) (worldH p ls s++[[nil3]]):=by
 rcases h with rfl | ⟨r,hr,rfl⟩
 ·exact Sub.wgL p ls s b4 b4 (pendF ls.length s) [] [] [[(8,0)]] [[nil3]] (hfr _ _ rfl rfl) rfl rfl rfl rfl rfl rfl rfl (pend_same fun i hi=>fam_get hi) rho_b4 ⟨⟨⟨_,rfl,nil3_to⟩,trivial⟩,trivial⟩ trivial
 ·refine Sub.toK [] (wKg ls.length (.r 4 ls.length r (11,0)) [[(8,0)]]) (hfr _ _ rfl rfl) (wg_fams (b:=bX r 11) (b':=b4) rfl rfl rfl rfl rfl ?_ (fun i hi=>fam_get hi) (fun i hi=>fam_get hi) (fun i hi=>fam_get hi) (fun j hj=>rho_r rfl hj) ⟨⟨⟨_,rfl,nil3_to⟩,trivial⟩,trivial⟩) trivial
  refine famTo.ofR (fun i hi hne=>⟨_,fam_get hi,?_⟩) fun _=>⟨_,rfl,ToB.rows rfl (prs _)⟩
  rw[if_neg hne]
  exact ToB.rows rfl (prs _)
theorem idH00 (p:Pg) (ls:List Ln) (s:St):Ren (idH (worldH p ls s)) (.cptr [.ptr 0 0 0 0]) (.cptr [.ptr 0 0 0 0]):=.cptr _ _ rfl (Ren.selfW fun x hx=>by
 rw[List.mem_singleton.1 hx]
 exact .ptr _ _ _ _ _ _ rfl)
theorem ren_sc1 {ρ:Nat→Nat→Option (Nat×Nat)} (n:Nat):Ren ρ (.cptr [.sc (.int .i64 (n:Int))]) (.cptr [.sc (.int .i64 (n:Int))]):=.pure (pv _)
theorem cd_act {p:Pg} {ls:List Ln} {s:St} (hC:CkOK p ls) (hS:RunOK p ls s) (G:Heap) {r:Nat} (h:Cd.act r∈candsP p ls s):CallOK Tryz.prog 67 [.cptr [.ptr 0 0 0 0],.cptr [.sc (.int .i64 (r:Int))]] (worldH p ls s++G) fun res H'=>res=.tup []∧WOrG p ls (doP p ls s (.act r)) G H':=by
 rcases cands_mem h with⟨r',h1,h2,h3⟩ | ⟨r',k',i',h1,h2,h3⟩
 ·injection h2 with h2
  subst h2
  refine cl_more G (act_cl hC hS h1 (can_lt (hS.d _ h1) h3)) fun a ha=>?_
  rcases List.mem_cons.1 ha with rfl | ha
  ·exact idH00 _ _ _
  ·rw[List.mem_singleton.1 ha]; exact ren_sc1 _
 ·cases h3
theorem cd_take {p:Pg} {ls:List Ln} {s:St} (hC:CkOK p ls) (hS:RunOK p ls s) (G:Heap) {r k i:Nat} (h:Cd.take r k i∈candsP p ls s):CallOK Tryz.prog 69 [.cptr [.ptr 0 0 0 0],.cptr [.sc (.int .i64 (r:Int))],.cptr [.sc (.int .i64 (k:Int))],.cptr [.sc (.int .i64 (i:Int))]] (worldH p ls s++G) fun res H'=>res=.tup []∧WOrG p ls (doP p ls s (.take r k i)) G H':=by
 rcases cands_mem h with⟨r',h1,h2,h3⟩ | ⟨r',k',i',h1,h2,h3⟩
 ·cases h2
 ·injection h3 with e1 e2 e3
  subst e1; subst e2; subst e3
  refine cl_more G (take_cl hC hS h1 h2) fun a ha=>?_
  simp only[List.mem_cons,List.not_mem_nil,or_false] at ha
  rcases ha with rfl | rfl | rfl | rfl
  ·exact idH00 _ _ _
  ·exact ren_sc1 _
  ·exact ren_sc1 _
  ·exact ren_sc1 _
set_option maxHeartbeats 16000000 in
theorem mround {p:Pg} {ls:List Ln} {s:St} (hC:CkOK p ls) (hp:POK p) (hS:RunOK p ls s) (Q:Exit→Fr→Heap→Prop)
  (hstop:stepS p ls s=none→∀ fr H,Sub 0 F18.n fr H (mF p) (worldH p ls s++[[nil3]])→Q (.exit 2) fr H)
  (hstep:∀ s',stepS p ls s=some s'→∀ fr H,Sub 0 F18.n fr H (mF p) (worldH p ls s'++[[nil3]])→Q .normal fr H):
  AWP Tryz.prog F18.n 0 (pickI [1,1,1,1,1,0,0,0] F18.code) Q (mF p) (worldH p ls s++[[nil3]]):=by
 show AWP _ _ _ (.block _ _) _ _ _
 have hcl:=tksN_len hC hS (actsN p ls s ls.length) ls.length (Nat.le_refl _)
 have hal:=actsN_len p ls s ls.length
 have hn64:=hC.n64
 have hn:=hC.len
 have hol:(candsP p ls s).length≤1000000:=by
  show(tksN p ls s (actsN p ls s ls.length) ls.length).length≤_
  omega
 unfold mF
 refine AWP.block ?_
 refine AWP.seq ?_
 refine AWP.region ?_
 refine walkR ?_
 refine AWP.seq ?_
 refine AWP.seq ?_
 refine AWP.region ?_
 refine walkR ?_
 refine Reg.c (Nat.zero_le _) rfl ((f44_at p ls s).mono ?_)
 rintro res H' ⟨rfl,rfl⟩
 refine Reg.nil ?_
 refine AWP.block ?_
 refine AWP.sub (fr':=capsR p) (H':=worldH p ls s++[[nil3],l0]) ?_ ?_
 ·unfold capsR
  refine Sub.wgL p ls s b4 b4 (pendF ls.length s) [] [] [[(8,0)],[(9,0)]] [[nil3],l0] ?_ rfl rfl rfl rfl rfl rfl rfl (pend_same fun i hi=>fam_get hi) rho_b4 ⟨⟨⟨_,rfl,nil3_to⟩,trivial⟩,⟨⟨_,rfl,l0_to⟩,trivial⟩,trivial⟩ trivial
  (all_goals exact tocW)
 refine AWP.rangeF (g:=65) (fs:=[]) (cs:=[.cptr [.ptr 0 0 0 0]]) rfl (Nat.zero_le _) rfl fun L hL=>?_
 refine(cand_at hC hp hS L hL).mono ?_
 rintro _ H' rfl
 refine⟨_,_,none,rfl,by decide,?_⟩
 show AWP Tryz.prog F18.n 0 (.seq (.seq _ _) _) _ _ _
 refine AWP.sub (fr':=(10,.ptr 9 0 0 0)::mF p) (H':=worldH p ls s++mG (candsP p ls s)) ?_ ?_
 ·unfold capsR mF mG
  refine Sub.wgL p ls s b4 b4 (pendF ls.length s) [] [] [[(8,0)],[(9,0)],[(11,0)]] [[nil3],lB 10 (candsP p ls s).length,[.cells 1 (cdsR (candsP p ls s))]] ?_ rfl rfl rfl rfl rfl rfl rfl (pend_same fun i hi=>fam_get hi) rho_b4 ⟨⟨⟨_,rfl,nil3_to⟩,trivial⟩,⟨⟨_,rfl,ToB.one (ToL.cons (To.hslL rfl rfl) ToL.nil)⟩,trivial⟩,⟨⟨_,rfl,ToB.cds rfl _⟩,trivial⟩,trivial⟩ trivial
  (all_goals exact tocW)
 have hcm:=fun c (h:c∈candsP p ls s)=>h
 have hcd:∀ sd,candsP p ls { s with seed:=sd }=candsP p ls s:=fun _=>rfl
 generalize hcs:candsP p ls s=cs at *
 have hrl:=cdsR_len cs
 unfold mF
 refine AWP.seq ?_
 refine AWP.seq ?_
 refine AWP.region ?_
 refine walkR ?_
 refine AWP.condD rfl (fun h0=>?_) (fun h0=>?_)
 ·refine AWP.exit ?_
  have hnil:cs=[]:=List.length_eq_zero_iff.1 h0
  refine hstop (stepS_nil (by rw[hcs]; exact hnil)) _ _ ?_
  refine Sub.wgL p ls s b4 b4 (pendF ls.length s) [] [] [[(8,0)]] [[nil3]] ?_ rfl rfl rfl rfl rfl rfl rfl (pend_same fun i hi=>fam_get hi) rho_b4 ⟨⟨⟨_,rfl,nil3_to⟩,trivial⟩,trivial⟩ trivial
  unfold mF
  (all_goals exact tocW)
 ·refine AWP.skip ?_
  have hpos:0 < cs.length:=by omega
  obtain⟨sd,hsd⟩:∃ x,x=nextS s.seed:=⟨_,rfl⟩
  obtain⟨k,hk⟩:∃ x,x=pickS sd cs.length:=⟨_,rfl⟩
  have hkl:k < cs.length:=by rw[hk]; exact Nat.mod_lt _ hpos
  have hsdl:sd < 18446744073709551616:=by rw[hsd]; exact nextS_lt _
  have hbel:=below_k p ls s hpos hol hsd hk (mG cs)
  have hS':RunOK p ls { s with seed:=sd }:=hS.sd' hsdl
  have hgc:=gEg hkl
  have hst:=stepS_cons (p:=p) (ls:=ls) (s:=s) (sd:=sd) (k:=k) (c:=cs[k]) hsd (by rw[hcs]; exact hk) (by rw[hcs]; exact hgc)
  have hmem:cs[k]∈candsP p ls { s with seed:=sd }:=by rw[hcd]; exact List.getElem_mem hkl
  have hrow:(cdsR cs)[k]?=some [cdV cs[k]]:=by unfold cdsR; rw[List.getElem?_map,hgc]; rfl
  generalize cs[k]=c at *
  cases c with
  | act r=>
   have hca:=cd_act hC hS' (mG cs) hmem
   (unfold cdV at hrow; refine AWP.lin [(true,0),(true,1),(true,2),(true,3),(false,4),(true,5),(true,6),(false,7)] mixed (by kernel_rfl) (by kernel_rfl) ?_; refine walkL ?_; refine RT.cc (Nat.zero_le _) rfl hbel ?_; rintro res H' ⟨rfl,rfl⟩; refine⟨(by repeat (first | exact trivial | exact Keeps.refl _ _ | refine And.intro rfl ?_)),?_⟩; refine walkL ?_; refine RT.cv (Nat.zero_le _) rfl rfl hca ?_; rintro res H' ⟨rfl,hw⟩; refine⟨trivial,?_⟩; refine walkL ?_; refine hstep _ hst _ _ (wOrSub hw fun T ρ r0 r8=>?_); unfold mF; (refine ToAll.cons ?_ (ToAll.cons ?_ (ToAll.cons ?_ ToAll.nil)); exact To.pure (pv (.cptr [.sc (.int .i64 p.cells),.list 1 (progR p.acts)])); exact To.ptrO r8 rfl rfl; exact To.ptrO r0 rfl rfl))
  | take r k2 i=>
   have hca:=cd_take hC hS' (mG cs) hmem
   (unfold cdV at hrow; refine AWP.lin [(true,0),(true,1),(true,2),(true,3),(false,4),(true,5),(true,6),(false,7)] mixed (by kernel_rfl) (by kernel_rfl) ?_; refine walkL ?_; refine RT.cc (Nat.zero_le _) rfl hbel ?_; rintro res H' ⟨rfl,rfl⟩; refine⟨(by repeat (first | exact trivial | exact Keeps.refl _ _ | refine And.intro rfl ?_)),?_⟩; refine walkL ?_; refine RT.cv (Nat.zero_le _) rfl rfl hca ?_; rintro res H' ⟨rfl,hw⟩; refine⟨trivial,?_⟩; refine walkL ?_; refine hstep _ hst _ _ (wOrSub hw fun T ρ r0 r8=>?_); unfold mF; (refine ToAll.cons ?_ (ToAll.cons ?_ (ToAll.cons ?_ ToAll.nil)); exact To.pure (pv (.cptr [.sc (.int .i64 p.cells),.list 1 (progR p.acts)])); exact To.ptrO r8 rfl rfl; exact To.ptrO r0 rfl rfl))
def st0 (p:Pg) (n seed:Nat):St:=⟨seed,List.replicate n pr0,List.replicate n (List.replicate p.cells.toNat 0),List.replicate n []⟩
theorem prAt_st0 (p:Pg) (n seed r:Nat):prAt (st0 p n seed) r=pr0:=by
 unfold prAt st0
 simp only[List.getElem?_replicate]
 split<;>rfl
theorem memAt_st0 {p:Pg} {n seed r:Nat} (h:r < n):memAt (st0 p n seed) r=List.replicate p.cells.toNat 0:=by
 unfold memAt st0
 simp only[List.getElem?_replicate]
 rw[if_pos h]
 rfl
theorem heldAt_st0 (p:Pg) (n seed r:Nat):heldAt (st0 p n seed) r=[]:=by
 unfold heldAt st0
 simp only[List.getElem?_replicate]
 split<;>rfl
theorem RunOK.st0 {p:Pg} {ls:List Ln} {seed:Nat} (hs:seed < 18446744073709551616):RunOK p ls (st0 p ls.length seed):=by
 refine⟨hs,List.length_replicate,List.length_replicate,List.length_replicate,fun r _=>?_,fun r _=>?_,fun r _ i hi=>?_,fun r hr=>?_⟩
 ·rw[prAt_st0]; exact Nat.zero_le _
 ·rw[prAt_st0]; exact Nat.zero_le _
 ·rw[prAt_st0] at hi; cases hi
 ·rw[memAt_st0 hr,List.length_replicate]
theorem procsH_succ (r:Nat) (s:St) (b:Nat→Nat×Nat):procsH (r+1) s b=procsH r s b++[[.sc (.int .i64 ((prAt s r).d:Int)),.hsl (b r).1 (b r).2 0 (prAt s r).q.length,.mref 5 r]]:=by
 unfold procsH
 rw[List.range_succ,List.map_append]
 rfl
theorem row1_succ (r:Nat) (f:Nat→AV):row1 (r+1) f=row1 r f++[[f r]]:=by
 unfold row1
 rw[List.range_succ,List.map_append]
 rfl
def sH (p:Pg) (ls:List Ln) (s:St) (a b c:Nat):Heap:=
 [[.cells 5 [[ckV p ls,.sc (.int .u64 (s.seed:Int)),.hsl 1 0 0 a,.hsl 2 0 0 b,.hsl 3 0 0 c]]],[.cells 3 (procsH a s b4)],[.cells 1 (memH b s)],[.cells 1 (heldH c)],pendF a s,retF a s,memF b s,heldF c s,[nil3]]
def sF (p:Pg) (n r:Nat):Fr:=[(2,.cptr [.sc (.int .i64 p.cells),.list 1 (progR p.acts)]),(4,.ptr 8 0 0 0),(9,.ptr 0 0 0 0),(35,.sc (.int .i64 (n:Int))),(36,.sc (.int .i64 (r:Int)))]
def sC:ICode:=pickI [1,1,1,1,0,1,0,0,1,1,0,0] F18.code
theorem sBox {T:AV→AV→Prop} {ρ:Nat→Nat→Option (Nat×Nat)} {p:Pg} {ls:List Ln} {seed:Nat} {a b c g1 i1 g2 i2 g3 i3:Nat} (r1:ρ 1 0=some (g1,i1)) (r2:ρ 2 0=some (g2,i2)) (r3:ρ 3 0=some (g3,i3)):
  ToB T ρ (.cells 5 [[ckV p ls,.sc (.int .u64 (seed:Int)),.hsl g1 i1 0 a,.hsl g2 i2 0 b,.hsl g3 i3 0 c]]) (.cells 5 [[ckV p ls,.sc (.int .u64 (seed:Int)),.hsl 1 0 0 a,.hsl 2 0 0 b,.hsl 3 0 0 c]]):=
 ToB.one (ToL.cons (.pure (pv (ckV p ls))) (ToL.cons (.sc _) (ToL.cons (To.hslL r1 rfl) (ToL.cons (To.hslL r2 rfl) (ToL.cons (To.hslL r3 rfl) ToL.nil)))))
set_option maxHeartbeats 16000000 in
theorem startA {p:Pg} {ls:List Ln} {s:St} (r n:Nat) (hn:r < 64) (hpr:prAt s r=pr0) (Q:Exit→Fr→Heap→Prop) (h:AWP Tryz.prog F18.n 0 (pickI [1] sC) Q (sF p n r) (sH p ls s (r+1) r r)):
  AWP Tryz.prog F18.n 0 sC Q (sF p n r) (sH p ls s r r r):=by
 show AWP _ _ _ (.seq (.region _) _) _ _ _
 have hl1:=procsH_len r s b4
 unfold sF sH
 refine AWP.seq ?_
 refine AWP.region ?_
 refine walkR ?_
 refine AWP.sub ?_ h
 unfold sF sH
 refine Sub.toK [1] [.c [(0,0)],.c [(11,0)],.c [(2,0)],.c [(3,0)],.w 4 r [(12,0)],.w 5 r [(9,0)],.w 6 r [],.w 7 r [],.c [(8,0)]] ?_ ⟨⟨⟨_,rfl,sBox rfl rfl rfl⟩,trivial⟩,⟨⟨_,rfl,?_⟩,trivial⟩,⟨⟨_,rfl,ToB.memH fun j hj=>rho_w rfl hj⟩,trivial⟩,⟨⟨_,rfl,ToB.heldH fun j hj=>rho_w rfl hj⟩,trivial⟩,?_,?_,?_,?_,⟨⟨_,rfl,nil3_to⟩,trivial⟩,trivial⟩ trivial
 ·(all_goals exact tocW)
 ·rw[procsH_succ,hpr]
  refine ToB.rowsR (ToR.append (ToR.map fun j hj=>?_) (ToR.cons (ToL.cons (.sc _) (ToL.cons (To.nil (rho_w2 (n:=r) (i:=0) rfl rfl) rfl rfl) (ToL.cons (To.mrefO (rho_w2 (n:=r) (i:=0) rfl rfl)) ToL.nil))) ToR.nil))
  have hj:=List.mem_range.1 hj
  exact ToL.cons (.sc _) (ToL.cons (To.hslL (rho_w rfl hj) rfl) (ToL.cons (To.mrefO (rho_w rfl hj)) ToL.nil))
 ·exact famTo.famS (fun j hj=>⟨_,fam_get hj,ToB.rows rfl (prs _)⟩) rfl (by rw[hpr]; exact ToB.rows rfl (prs _))
 ·exact famTo.famS (fun j hj=>⟨_,fam_get hj,ToB.retE _⟩) rfl (by rw[hpr]; exact ToB.retE [])
 ·exact famTo.ofFam fun j hj=>⟨_,fam_get hj,ToB.rows rfl (prs _)⟩
 ·exact famTo.ofFam fun j hj=>⟨_,fam_get hj,ToB.retE _⟩
set_option maxHeartbeats 16000000 in
theorem startB {p:Pg} {ls:List Ln} {s:St} (r n c:Nat) (hn:r < 64) (hc:p.cells=(c:Int)) (hc64:c≤64) (hme:memAt s r=List.replicate c 0) (Q:Exit→Fr→Heap→Prop) (h:AWP Tryz.prog F18.n 0 (pickI [1,1] sC) Q (sF p n r) (sH p ls s (r+1) (r+1) r)):
  AWP Tryz.prog F18.n 0 (pickI [1] sC) Q (sF p n r) (sH p ls s (r+1) r r):=by
 show AWP _ _ _ (.seq (.draw _ _) _) _ _ _
 have hl1:=memH_len r s
 unfold sF sH at h ⊢
 rw[hc] at h ⊢
 refine AWP.seq ?_
 refine AWP.dk mixed ?_
 refine walkX ?_
 refine DK.o rfl (dstep_mk (n:=c) rfl (by omega) (by omega)) ?_
 refine walkX ?_
 refine DK.nil ⟨by kernel_rfl,?_⟩
 refine AWP.sub ?_ h
 refine Sub.toK [] [.c [(0,0)],.c [(1,0)],.c [(9,9)],.c [(3,0)],.w 4 (r+1) [],.w 5 (r+1) [],.w 6 r [(9,7)],.w 7 r [],.c [(8,0)]] ?_ ⟨⟨⟨_,rfl,sBox rfl rfl rfl⟩,trivial⟩,⟨⟨_,rfl,ToB.procsH (fun j hj=>rho_w rfl hj) fun j hj=>rho_w rfl hj⟩,trivial⟩,⟨⟨_,rfl,?_⟩,trivial⟩,⟨⟨_,rfl,ToB.heldH fun j hj=>rho_w rfl hj⟩,trivial⟩,?_,?_,?_,?_,⟨⟨_,rfl,nil3_to⟩,trivial⟩,trivial⟩ trivial
 ·(all_goals exact tocW)
 ·unfold memH
  rw[row1_succ,hme,List.length_replicate]
  refine ToB.rowsR (ToR.append (ToR.map fun j hj=>?_) (ToR.cons (ToL.cons (To.hslL (rho_w2 (n:=r) (i:=0) rfl rfl) rfl) ToL.nil) ToR.nil))
  exact ToL.cons (To.hslL (rho_w rfl (List.mem_range.1 hj)) rfl) ToL.nil
 ·exact famTo.ofFam fun j hj=>⟨_,fam_get hj,ToB.rows rfl (prs _)⟩
 ·exact famTo.ofFam fun j hj=>⟨_,fam_get hj,ToB.retE _⟩
 ·refine famTo.famS (fun j hj=>⟨_,fam_get hj,ToB.rows rfl (prs _)⟩) rfl ?_
  rw[hme,show intsR (List.replicate c 0)=List.replicate c (zrow [(1,Value.int .i64 0)]) by unfold intsR; rw[List.map_replicate]; rfl]
  exact ToB.rows rfl (fun l hl x hx=>by rw[List.eq_of_mem_replicate hl] at hx; rw[List.mem_singleton.1 hx]; exact .sc _)
 ·exact famTo.ofFam fun j hj=>⟨_,fam_get hj,ToB.retE _⟩
set_option maxHeartbeats 16000000 in
theorem startC {p:Pg} {ls:List Ln} {s:St} (r n:Nat) (hn:r < 64) (hhe:heldAt s r=[]) (Q:Exit→Fr→Heap→Prop) (h:∀ fr H,Sub 0 F18.n fr H (sF p n r) (sH p ls s (r+1) (r+1) (r+1))→Q .normal fr H):
  AWP Tryz.prog F18.n 0 (pickI [1,1] sC) Q (sF p n r) (sH p ls s (r+1) (r+1) r):=by
 show AWP _ _ _ (.region _) _ _ _
 have hl1:=heldH_len r
 unfold sF sH at *
 refine AWP.region ?_
 refine walkR ?_
 refine h _ _ ?_
 refine Sub.toK [] [.c [(0,0)],.c [(1,0)],.c [(2,0)],.c [(11,0)],.w 4 (r+1) [],.w 5 (r+1) [],.w 6 (r+1) [],.w 7 r [(9,0)],.c [(8,0)]] ?_ ⟨⟨⟨_,rfl,sBox rfl rfl rfl⟩,trivial⟩,⟨⟨_,rfl,ToB.procsH (fun j hj=>rho_w rfl hj) fun j hj=>rho_w rfl hj⟩,trivial⟩,⟨⟨_,rfl,ToB.memH fun j hj=>rho_w rfl hj⟩,trivial⟩,⟨⟨_,rfl,?_⟩,trivial⟩,?_,?_,?_,?_,⟨⟨_,rfl,nil3_to⟩,trivial⟩,trivial⟩ trivial
 ·(all_goals exact tocW)
 ·unfold heldH
  rw[row1_succ]
  refine ToB.rowsR (ToR.append (ToR.map fun j hj=>?_) (ToR.cons (ToL.cons (To.mrefO (rho_w2 (n:=r) (i:=0) rfl rfl)) ToL.nil) ToR.nil))
  exact ToL.cons (To.mrefO (rho_w rfl (List.mem_range.1 hj))) ToL.nil
 ·exact famTo.ofFam fun j hj=>⟨_,fam_get hj,ToB.rows rfl (prs _)⟩
 ·exact famTo.ofFam fun j hj=>⟨_,fam_get hj,ToB.retE _⟩
 ·exact famTo.ofFam fun j hj=>⟨_,fam_get hj,ToB.rows rfl (prs _)⟩
 ·exact famTo.famS (fun j hj=>⟨_,fam_get hj,ToB.retE _⟩) rfl (by rw[hhe]; exact ToB.retE [])
end Go.Proofs.YtkjoolaahocgdaaGreat
