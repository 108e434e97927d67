import Derived.Test.YtkjoolaahocgdaaGreatGWiU19
import Derived.Test.YtkjoolaahocgdaaGreatGWiU6
namespace Go.Proofs.YtkjoolaahocgdaaGreat
open Go.Av Go.Proofs
set_option maxRecDepth 20000
def tkN (p:Pg) (ls:List Ln) (s:St) (r:Nat) (out:List Cd) (k:Nat):CS:=(List.range k).foldl (gD p ls r (aH s r).q) ([],out)
theorem mH (p:Pg) (ls:List Ln) (s:St) (r:Nat) (out:List Cd) (k:Nat):tkN p ls s r out (k+1)=gD p ls r (aH s r).q (tkN p ls s r out k) k:=by
 unfold tkN
 rw[List.range_succ,List.foldl_append]
 rfl
theorem C7 (p:Pg) (ls:List Ln) (s:St) (r:Nat) (out:List Cd):∀ k,(tkN p ls s r out k).2.length≤out.length+k
 | 0=>Nat.le_refl _
 | k+1=>by
  have:=C7 p ls s r out k
  rw[mH]
  unfold gD
  split
  ·split
   ·omega
   ·simp only[List.length_append,List.length_cons,List.length_nil]; omega
  ·simp only[List.length_append,List.length_cons,List.length_nil]; omega
def mT (p:Pg) (ls:List Ln) (s:St) (out:List Cd) (r:Nat):List Cd:=(List.range r).foldl (PS p ls s) out
theorem lS (p:Pg) (ls:List Ln) (s:St) (out:List Cd) (r:Nat):mT p ls s out (r+1)=(tkN p ls s r (mT p ls s out r) (aH s r).q.length).2:=by
 unfold mT
 rw[List.range_succ,List.foldl_append]
 rfl
theorem yN {p:Pg} {ls:List Ln} {s:St} (hC:bL p ls) (hS:bF p ls s) (out:List Cd):∀ r,r≤ls.length→(mT p ls s out r).length≤out.length+100 * r
 | 0,_=>Nat.le_refl _
 | r+1,h=>by
  have h1:=yN hC hS out r (by omega)
  have h2:=C7 p ls s r (mT p ls s out r) (aH s r).q.length
  have h3:=hS.q100 hC (show r < ls.length by omega)
  rw[lS]
  omega
def coF (n r:Nat):Fr:=[(0,.yld 10 0),(1,.cptr [.ptr 0 0 0 0]),(32,.sc (.int .i64 (n:Int))),(33,.sc (.int .i64 (r:Int)))]
set_option maxHeartbeats 16000000 in
theorem candB {p:Pg} {ls:List Ln} {s:St} (hC:bL p ls) (hS:bF p ls s) (L:LC) (hL:LOK Tryz.prog F18.n L [74] lkA lkB) (out0:List Cd) (h0:out0.length≤64):
  AWP Tryz.prog F65.n 11 (cY [1] F65.code) (yS F65.n 11 F65.res fun _ H'=>H'=mM p ls s L (mT p ls s out0 ls.length)) (cdF ls.length ls.length) (mM p ls s L out0):=by
 have hn64:=hC.n64
 have hn:=hC.len
 show AWP _ _ _ (.seq _ _) _ _ _
 unfold mM worldH aV boxW cdF
 refine AWP.seq ?_
 refine AWP.region ?_
 refine cF ?_
 refine AWP.block ?_
 refine AWP.loop (fun r:Nat=>coF ls.length r) (fun r=>mM p ls s L (mT p ls s out0 r)) (fun r=>r≤ls.length) (fun r=>ls.length - r) 0 (Nat.zero_le _) ?_ ?_
 ·show Sub _ _ _ _ _ (mM p ls s L out0)
  (refine Sub.wgL p ls s b4 b4 (cH ls.length s) [] [] [[(8,0)],[(9,0)],[(10,0)],[(11,0)]] ([nil3]::lB 11 (out0).length::[.lp L (dL p) .ready none]::[[.cells 1 (eZ (out0))]]) ?_ rfl rfl rfl rfl rfl rfl rfl (bP fun i hi=>aK hi) dP (jQ rfl rfl rfl rfl rfl rfl rfl ⟨⟨⟨_,rfl,ToB.cds rfl _⟩,trivial⟩,trivial⟩) ⟨.c _ rfl rfl,.c _ rfl rfl,.c _ rfl rfl,.c _ rfl rfl,.w _ _ (Nat.le_of_eq (aJ _ _)),.w _ _ (Nat.le_of_eq (aJ _ _)),.w _ _ (Nat.le_of_eq (aJ _ _)),.w _ _ (Nat.le_of_eq (aJ _ _)),.c _ rfl rfl,.c _ rfl rfl,.c _ rfl rfl,trivial⟩; (try unfold coF); (all_goals (repeat' (first | exact aY.nil | exact aQ.nil | exact bD.nil | exact ToL.nil | exact ToR.nil | refine aY.cons ?_ ?_ | refine aQ.cons ?_ ?_ | refine gO ?_ ?_ | exact To.undef _ | exact To.sc _ | exact To.hslL rfl rfl | exact To.asl _ _ _ _ _ _ rfl | exact To.ptrO rfl rfl rfl | exact To.mrefO rfl | exact To.nil rfl rfl rfl | exact wt1 | exact To.nilL | refine To.int ?_ | refine To.bool ?_ | refine To.hslL rfl ?_ | refine wt2 rfl ?_ ?_ ?_ | refine To.tupL ?_ | refine To.aggL ?_ | refine To.cptrL ?_ | refine To.fzp rfl rfl rfl ?_ | refine To.fzm rfl rfl ?_ | refine To.cloL ?_ ?_ | refine wt3 ?_ | refine wt4 ?_ | exact wt5 | refine wt6 ?_ | refine ToB.one ?_ | exact wt7 | ((with_reducible apply ToL.consE); case e9=>rfl) | refine wt8 ?_ | refine ToL.cons ?_ ?_ | exact wt11 | refine wt9 ?_ ?_ | refine gI ?_ | (with_reducible rfl) | assumption)); all_goals (first | rfl | assumption | (simp; done) | (simp; omega) | (rw[wrap_small (by omega) (by omega)]; done) | (rw[wrap_small (by omega) (by omega)]; omega) | (refine congrArg Nat.cast ?_; assumption) | skip)); exact .yld _ _ _ _ rfl)
 rintro r hr
 unfold coF
 refine AWP.seq ?_
 refine AWP.region ?_
 refine cF ?_
 refine AWP.seq ?_
 refine AWP.condD rfl (fun hrl=>?_) (fun hge=>?_)
 ·have hp1:=j8 (s:=s) (b:=b4) hrl
  have hp1l:=fM ls.length s b4
  have hq:=hS.q100 hC hrl
  have hol:=yN hC hS out0 r hr
  have hsucc:=lS p ls s out0 r
  unfold b4 at hp1
  dsimp only at hp1
  refine AWP.skip ?_
  refine AWP.seq ?_
  refine AWP.block ?_
  refine AWP.seq ?_
  refine AWP.region ?_
  unfold mM worldH aV boxW
  refine cF ?_
  refine AWP.seq ?_
  refine AWP.region ?_
  refine cF ?_
  refine AWP.seq ?_
  refine AWP.dk mixed ?_
  refine aA ?_
  refine DK.nil ⟨by kernel_rfl,?_⟩
  have hb0:UB [] (.map []):=.inl ⟨rfl,rfl⟩
  refine AWP.block ?_
  refine AWP.loop (σ:=Nat×CS×Blk) (fun t=>ciF r ls.length (aH s r).q.length t.1) (fun t=>jN p ls s L t.2.1.2 t.2.2) (fun t=>t.1≤(aH s r).q.length∧t.2.1=tkN p ls s r (mT p ls s out0 r) t.1∧UB t.2.1.1 t.2.2) (fun t=>(aH s r).q.length - t.1) (0,([],mT p ls s out0 r),.map []) ⟨Nat.zero_le _,rfl,hb0⟩ ?_ ?_
  ·dsimp only
   (refine Sub.wgL p ls s b4 b4 (cH ls.length s) [] [] [[(8,0)],[(9,0)],[(10,0)],[(11,0)],[(13,0)]] ([nil3]::lB 11 (mT p ls s out0 r).length::[.lp L (dL p) .ready none]::[[.cells 1 (eZ (mT p ls s out0 r))],[.map []]]) ?_ rfl rfl rfl rfl rfl rfl rfl (bP fun i hi=>aK hi) dP (jQ rfl rfl rfl rfl rfl rfl rfl ⟨⟨⟨_,rfl,ToB.cds rfl _⟩,trivial⟩,⟨⟨_,rfl,(hb0).to⟩,trivial⟩,trivial⟩) ⟨.c _ rfl rfl,.c _ rfl rfl,.c _ rfl rfl,.c _ rfl rfl,.w _ _ (Nat.le_of_eq (aJ _ _)),.w _ _ (Nat.le_of_eq (aJ _ _)),.w _ _ (Nat.le_of_eq (aJ _ _)),.w _ _ (Nat.le_of_eq (aJ _ _)),.c _ rfl rfl,.c _ rfl rfl,.c _ rfl rfl,trivial⟩; (try unfold ciF); (all_goals (repeat' (first | exact aY.nil | exact aQ.nil | exact bD.nil | exact ToL.nil | exact ToR.nil | refine aY.cons ?_ ?_ | refine aQ.cons ?_ ?_ | refine gO ?_ ?_ | exact To.undef _ | exact To.sc _ | exact To.hslL rfl rfl | exact To.asl _ _ _ _ _ _ rfl | exact To.ptrO rfl rfl rfl | exact To.mrefO rfl | exact To.nil rfl rfl rfl | exact wt1 | exact To.nilL | refine To.int ?_ | refine To.bool ?_ | refine To.hslL rfl ?_ | refine wt2 rfl ?_ ?_ ?_ | refine To.tupL ?_ | refine To.aggL ?_ | refine To.cptrL ?_ | refine To.fzp rfl rfl rfl ?_ | refine To.fzm rfl rfl ?_ | refine To.cloL ?_ ?_ | refine wt3 ?_ | refine wt4 ?_ | exact wt5 | refine wt6 ?_ | refine ToB.one ?_ | exact wt7 | ((with_reducible apply ToL.consE); case e9=>rfl) | refine wt8 ?_ | refine ToL.cons ?_ ?_ | exact wt11 | refine wt9 ?_ ?_ | refine gI ?_ | (with_reducible rfl) | assumption)); all_goals (first | rfl | assumption | (simp; done) | (simp; omega) | (rw[wrap_small (by omega) (by omega)]; done) | (rw[wrap_small (by omega) (by omega)]; omega) | (refine congrArg Nat.cast ?_; assumption) | skip)); (exact .yld _ _ _ _ rfl); exact To.hslL (dJ rfl hrl) rfl)
  rintro⟨k,⟨u,out⟩,b⟩ ⟨hk,hcs,hb⟩
  dsimp only at hk hcs hb ⊢
  have hsu:=mH p ls s r (mT p ls s out0 r) k
  have htl:=C7 p ls s r (mT p ls s out0 r) k
  rw[← hcs] at hsu htl
  unfold ciF
  refine AWP.seq ?_
  refine AWP.region ?_
  refine cF ?_
  refine AWP.seq ?_
  refine AWP.condD rfl (fun hlt=>?_) (fun hge=>?_)
  ·refine AWP.skip ?_
   refine AWP.seq ?_
   have hkk:(aH s r).q[k]?=some (aH s r).q[k]:=gEg hlt
   refine AWP.sub (fr':=ciF r ls.length (aH s r).q.length k) (H':=jN p ls s L out b) ?_ ?_
   ·(refine Sub.wgL p ls s b4 b4 (cH ls.length s) [] [] [[(8,0)],[(9,0)],[(10,0)],[(11,0)],[(12,0)]] ([nil3]::lB 11 (out).length::[.lp L (dL p) .ready none]::[[.cells 1 (eZ (out))],[b]]) ?_ rfl rfl rfl rfl rfl rfl rfl (bP fun i hi=>aK hi) dP (jQ rfl rfl rfl rfl rfl rfl rfl ⟨⟨⟨_,rfl,ToB.cds rfl _⟩,trivial⟩,⟨⟨_,rfl,(hb).to⟩,trivial⟩,trivial⟩) ⟨.c _ rfl rfl,.c _ rfl rfl,.c _ rfl rfl,.c _ rfl rfl,.w _ _ (Nat.le_of_eq (aJ _ _)),.w _ _ (Nat.le_of_eq (aJ _ _)),.w _ _ (Nat.le_of_eq (aJ _ _)),.w _ _ (Nat.le_of_eq (aJ _ _)),.c _ rfl rfl,.c _ rfl rfl,.c _ rfl rfl,trivial⟩; (try unfold ciF); (all_goals (repeat' (first | exact aY.nil | exact aQ.nil | exact bD.nil | exact ToL.nil | exact ToR.nil | refine aY.cons ?_ ?_ | refine aQ.cons ?_ ?_ | refine gO ?_ ?_ | exact To.undef _ | exact To.sc _ | exact To.hslL rfl rfl | exact To.asl _ _ _ _ _ _ rfl | exact To.ptrO rfl rfl rfl | exact To.mrefO rfl | exact To.nil rfl rfl rfl | exact wt1 | exact To.nilL | refine To.int ?_ | refine To.bool ?_ | refine To.hslL rfl ?_ | refine wt2 rfl ?_ ?_ ?_ | refine To.tupL ?_ | refine To.aggL ?_ | refine To.cptrL ?_ | refine To.fzp rfl rfl rfl ?_ | refine To.fzm rfl rfl ?_ | refine To.cloL ?_ ?_ | refine wt3 ?_ | refine wt4 ?_ | exact wt5 | refine wt6 ?_ | refine ToB.one ?_ | exact wt7 | ((with_reducible apply ToL.consE); case e9=>rfl) | refine wt8 ?_ | refine ToL.cons ?_ ?_ | exact wt11 | refine wt9 ?_ ?_ | refine gI ?_ | (with_reducible rfl) | assumption)); all_goals (first | rfl | assumption | (simp; done) | (simp; omega) | (rw[wrap_small (by omega) (by omega)]; done) | (rw[wrap_small (by omega) (by omega)]; omega) | (refine congrArg Nat.cast ?_; assumption) | skip)); (exact .yld _ _ _ _ rfl); exact To.hslL (dJ rfl hrl) rfl)
   refine AWP.joinT (fun b':Blk=>ciF r ls.length (aH s r).q.length k) (fun b'=>jN p ls s L (gD p ls r (aH s r).q (u,out) k).2 b') (fun b'=>UB (gD p ls r (aH s r).q (u,out) k).1 b') (candT hC hS L hL hrl hkk out (by dsimp only at htl; omega) b u hb _) fun b' hb'=>?_
   unfold ciF
   refine aA ?_
   refine⟨(k+1,gD p ls r (aH s r).q (u,out) k,b'),⟨by omega,hsu.symm,hb'⟩,by omega,?_⟩
   dsimp only
   (refine Sub.wgL p ls s b4 b4 (cH ls.length s) [] [] [[(8,0)],[(9,0)],[(10,0)],[(11,0)],[(12,0)]] ([nil3]::lB 11 ((gD p ls r (aH s r).q (u,out) k).2).length::[.lp L (dL p) .ready none]::[[.cells 1 (eZ ((gD p ls r (aH s r).q (u,out) k).2))],[b']]) ?_ rfl rfl rfl rfl rfl rfl rfl (bP fun i hi=>aK hi) dP (jQ rfl rfl rfl rfl rfl rfl rfl ⟨⟨⟨_,rfl,ToB.cds rfl _⟩,trivial⟩,⟨⟨_,rfl,(hb').to⟩,trivial⟩,trivial⟩) ⟨.c _ rfl rfl,.c _ rfl rfl,.c _ rfl rfl,.c _ rfl rfl,.w _ _ (Nat.le_of_eq (aJ _ _)),.w _ _ (Nat.le_of_eq (aJ _ _)),.w _ _ (Nat.le_of_eq (aJ _ _)),.w _ _ (Nat.le_of_eq (aJ _ _)),.c _ rfl rfl,.c _ rfl rfl,.c _ rfl rfl,trivial⟩; (try unfold ciF); (all_goals (repeat' (first | exact aY.nil | exact aQ.nil | exact bD.nil | exact ToL.nil | exact ToR.nil | refine aY.cons ?_ ?_ | refine aQ.cons ?_ ?_ | refine gO ?_ ?_ | exact To.undef _ | exact To.sc _ | exact To.hslL rfl rfl | exact To.asl _ _ _ _ _ _ rfl | exact To.ptrO rfl rfl rfl | exact To.mrefO rfl | exact To.nil rfl rfl rfl | exact wt1 | exact To.nilL | refine To.int ?_ | refine To.bool ?_ | refine To.hslL rfl ?_ | refine wt2 rfl ?_ ?_ ?_ | refine To.tupL ?_ | refine To.aggL ?_ | refine To.cptrL ?_ | refine To.fzp rfl rfl rfl ?_ | refine To.fzm rfl rfl ?_ | refine To.cloL ?_ ?_ | refine wt3 ?_ | refine wt4 ?_ | exact wt5 | refine wt6 ?_ | refine ToB.one ?_ | exact wt7 | ((with_reducible apply ToL.consE); case e9=>rfl) | refine wt8 ?_ | refine ToL.cons ?_ ?_ | exact wt11 | refine wt9 ?_ ?_ | refine gI ?_ | (with_reducible rfl) | assumption)); all_goals (first | rfl | assumption | (simp; done) | (simp; omega) | (rw[wrap_small (by omega) (by omega)]; done) | (rw[wrap_small (by omega) (by omega)]; omega) | (refine congrArg Nat.cast ?_; assumption) | skip)); (exact .yld _ _ _ _ rfl); exact To.hslL (dJ rfl hrl) rfl)
  ·have e:k=(aH s r).q.length:=by omega
   subst e
   refine AWP.exit ?_
   have hout:mT p ls s out0 (r+1)=out:=by rw[hsucc,← hcs]
   show AWP _ _ _ (.region _) _ _ _
   refine aA ?_
   refine⟨r+1,by omega,by omega,?_⟩
   rw[hout]
   unfold jN
   (refine Sub.wgL p ls s b4 b4 (cH ls.length s) [] [] [[(8,0)],[(9,0)],[(10,0)],[(11,0)]] ([nil3]::lB 11 (out).length::[.lp L (dL p) .ready none]::[[.cells 1 (eZ (out))]]) ?_ rfl rfl rfl rfl rfl rfl rfl (bP fun i hi=>aK hi) dP (jQ rfl rfl rfl rfl rfl rfl rfl ⟨⟨⟨_,rfl,ToB.cds rfl _⟩,trivial⟩,trivial⟩) ⟨.c _ rfl rfl,.c _ rfl rfl,.c _ rfl rfl,.c _ rfl rfl,.w _ _ (Nat.le_of_eq (aJ _ _)),.w _ _ (Nat.le_of_eq (aJ _ _)),.w _ _ (Nat.le_of_eq (aJ _ _)),.w _ _ (Nat.le_of_eq (aJ _ _)),.c _ rfl rfl,.c _ rfl rfl,.c _ rfl rfl,trivial⟩; (try unfold coF); (all_goals (repeat' (first | exact aY.nil | exact aQ.nil | exact bD.nil | exact ToL.nil | exact ToR.nil | refine aY.cons ?_ ?_ | refine aQ.cons ?_ ?_ | refine gO ?_ ?_ | exact To.undef _ | exact To.sc _ | exact To.hslL rfl rfl | exact To.asl _ _ _ _ _ _ rfl | exact To.ptrO rfl rfl rfl | exact To.mrefO rfl | exact To.nil rfl rfl rfl | exact wt1 | exact To.nilL | refine To.int ?_ | refine To.bool ?_ | refine To.hslL rfl ?_ | refine wt2 rfl ?_ ?_ ?_ | refine To.tupL ?_ | refine To.aggL ?_ | refine To.cptrL ?_ | refine To.fzp rfl rfl rfl ?_ | refine To.fzm rfl rfl ?_ | refine To.cloL ?_ ?_ | refine wt3 ?_ | refine wt4 ?_ | exact wt5 | refine wt6 ?_ | refine ToB.one ?_ | exact wt7 | ((with_reducible apply ToL.consE); case e9=>rfl) | refine wt8 ?_ | refine ToL.cons ?_ ?_ | exact wt11 | refine wt9 ?_ ?_ | refine gI ?_ | (with_reducible rfl) | assumption)); all_goals (first | rfl | assumption | (simp; done) | (simp; omega) | (rw[wrap_small (by omega) (by omega)]; done) | (rw[wrap_small (by omega) (by omega)]; omega) | (refine congrArg Nat.cast ?_; assumption) | skip)); exact .yld _ _ _ _ rfl)
 ·have e:r=ls.length:=by omega
  subst e
  refine AWP.exit ?_
  refine yX (.tup []) p ls s b4 b4 (cH ls.length s) [] [[(8,0)],[(9,0)],[(10,0)],[(11,0)]] ([nil3]::lB 11 (mT p ls s out0 ls.length).length::[.lp L (dL p) .ready none]::[[.cells 1 (eZ (mT p ls s out0 ls.length))]]) rfl rfl rfl rfl rfl rfl rfl rfl (bP fun i hi=>aK hi) dP (jQ rfl rfl rfl rfl rfl rfl rfl ⟨⟨⟨_,rfl,ToB.cds rfl _⟩,trivial⟩,trivial⟩) ⟨.c _ rfl rfl,.c _ rfl rfl,.c _ rfl rfl,.c _ rfl rfl,.w _ _ (Nat.le_of_eq (aJ _ _)),.w _ _ (Nat.le_of_eq (aJ _ _)),.w _ _ (Nat.le_of_eq (aJ _ _)),.w _ _ (Nat.le_of_eq (aJ _ _)),.c _ rfl rfl,.c _ rfl rfl,.c _ rfl rfl,trivial⟩ (hr:=To.tupL ToL.nil)
theorem SV {p:Pg} {ls:List Ln} {s:St} (hC:bL p ls) (hp:POK p) (hS:bF p ls s) (L:LC) (hL:LOK Tryz.prog F18.n L [74] lkA lkB):
  aO Tryz.prog 65 [.yld 10 0,.cptr [.ptr 0 0 0 0]] (PW p ls s L) fun _ H'=>H'=mM p ls s L (cO p ls s):=by
 refine aO.of cF65 ?_ (nlB rfl)
 refine candA hC hp hS L hL _ ?_
 exact candB hC hS L hL (fO p ls s ls.length) (by have:=rQ p ls s ls.length; have:=hC.n64; have:=hC.len; omega)
theorem rW {p:Pg} {ls:List Ln} {s:St} {c:Cd}:∀ {r:Nat},c∈fO p ls s r→∃ j,j < r∧c=.act j∧kI p ls s j=true
 | 0,h=>by cases h
 | r+1,h=>by
  rw[oX] at h
  split at h
  ·rename_i hc
   rcases List.mem_append.1 h with h | h
   ·obtain⟨j,h1,h2⟩:=rW h
    exact⟨j,by omega,h2⟩
   ·exact⟨r,by omega,List.mem_singleton.1 h,hc⟩
  ·obtain⟨j,h1,h2⟩:=rW h
   exact⟨j,by omega,h2⟩
theorem LT {p:Pg} {ls:List Ln} {s:St} {r:Nat} {out:List Cd} {c:Cd}:∀ {k:Nat},k≤(aH s r).q.length→c∈(tkN p ls s r out k).2→c∈out∨∃ j i,(aH s r).q[j]?=some i∧c=.take r j i
 | 0,_,h=>.inl h
 | k+1,hk,h=>by
  have ih:=fun h'=>LT (p:=p) (ls:=ls) (s:=s) (r:=r) (out:=out) (c:=c) (k:=k) (by omega) h'
  rw[mH] at h
  have hg:(aH s r).q[k]?=some ((aH s r).q.getD k 0):=by rw[List.getD_eq_getElem?_getD,gEg (by omega)]; rfl
  unfold gD at h
  split at h
  ·split at h
   ·exact ih h
   ·rcases List.mem_append.1 h with h | h
    ·exact ih h
    ·exact .inr ⟨k,_,hg,List.mem_singleton.1 h⟩
  ·rcases List.mem_append.1 h with h | h
   ·exact ih h
   ·exact .inr ⟨k,_,hg,List.mem_singleton.1 h⟩
theorem FT {p:Pg} {ls:List Ln} {s:St} {out:List Cd} {c:Cd}:∀ {r:Nat},c∈mT p ls s out r→c∈out∨∃ b j i,b < r∧(aH s b).q[j]?=some i∧c=.take b j i
 | 0,h=>.inl h
 | r+1,h=>by
  rw[lS] at h
  rcases LT (Nat.le_refl _) h with h | ⟨j,i,h1,h2⟩
  ·rcases FT h with h | ⟨b,j,i,h1,h2⟩
   ·exact .inl h
   ·exact .inr ⟨b,j,i,by omega,h2⟩
  ·exact .inr ⟨r,j,i,by omega,h1,h2⟩
theorem nU {p:Pg} {ls:List Ln} {s:St} {c:Cd} (h:c∈cO p ls s):(∃ r,r < ls.length∧c=.act r∧kI p ls s r=true)∨∃ r k i,r < ls.length∧(aH s r).q[k]?=some i∧c=.take r k i:=by
 rcases FT (out:=fO p ls s ls.length) h with h | ⟨b,j,i,h1,h2,h3⟩
 ·exact .inl (rW h)
 ·exact .inr ⟨b,j,i,h1,h2,h3⟩
theorem qJ {p:Pg} {ls:List Ln} {s:St} {r:Nat} (hd:(aH s r).d≤aW p r) (h:kI p ls s r=true):(aH s r).d < aW p r:=by
 unfold kI dAt at h
 by_cases e:(aH s r).d=aW p r
 ·rw[if_pos e] at h; cases h
 ·omega
theorem AN (x:Nat):jU x < 18446744073709551616:=by unfold jU; omega
theorem bF.sd' {p:Pg} {ls:List Ln} {s:St} (h:bF p ls s) {sd:Nat} (hs:sd < 18446744073709551616):bF p ls { s with seed:=sd }:=⟨hs,h.pl,h.ml,h.hl,h.d,h.q,h.qi,h.m⟩
theorem bF.setL {p:Pg} {ls:List Ln} {s:St} (h:bF p ls s) (b:Nat) (l:List (Nat×Int)):bF p ls (YtkjoolaahocgdaaGreat.setL s b l):=⟨h.sd,h.pl,h.ml,by show(s.held.set b l).length=_; rw[List.length_set]; exact h.hl,h.d,h.q,h.qi,h.m⟩
theorem bF.setM {p:Pg} {ls:List Ln} {s:St} (h:bF p ls s) (b:Nat) (hb:b < ls.length) (l:List Int) (hl:l.length=(aT s b).length):bF p ls (YtkjoolaahocgdaaGreat.setM s b l):=
 ⟨h.sd,h.pl,by show(s.mem.set b l).length=_; rw[List.length_set]; exact h.ml,h.hl,h.d,h.q,h.qi,fun j hj=>by
  rw[o6 (by rw[h.ml]; exact hb)]
  split
  ·rename_i e; rw[hl,← e]; exact h.m j hj
  ·exact h.m j hj⟩
theorem bF.setP {p:Pg} {ls:List Ln} {s:St} (h:bF p ls s) (r:Nat) (hr:r < ls.length) (x:Pr) (h1:x.d≤aW p r) (h2:x.q.length≤x.d) (h3:∀ i∈x.q,i < x.d∧cI (bA p (r,i)).k=true):bF p ls (YtkjoolaahocgdaaGreat.setP s r x):=by
 have hs:=dT (s:=s) (r:=r) (x:=x) (by rw[h.pl]; exact hr)
 refine⟨h.sd,by show(s.ps.set r x).length=_; rw[List.length_set]; exact h.pl,h.ml,h.hl,fun j hj=>?_,fun j hj=>?_,fun j hj=>?_,h.m⟩
 ·rw[hs]; split
  ·rename_i e; rw[e]; exact h1
  ·exact h.d j hj
 ·rw[hs]; split
  ·exact h2
  ·exact h.q j hj
 ·rw[hs]; split
  ·rename_i e; rw[e]; exact h3
  ·exact h.qi j hj
theorem bF.eff {p:Pg} {ls:List Ln} {s:St} (h:bF p ls s) (x:Pl) (hr:x.1 < ls.length) (hb:(acN ls x).r.toNat < ls.length):bF p ls (jB p ls s x):=by
 unfold jB
 dsimp only
 have key:∀ s1:St,bF p ls s1→(∀ j,aT s1 j=aT s j)→bF p ls (YtkjoolaahocgdaaGreat.setM s1 (acN ls x).r.toNat ((aT s (acN ls x).r.toNat).set (acN ls x).a.toNat (eF (bA p x) ((aT s (acN ls x).r.toNat).getD (acN ls x).a.toNat 0)))):=fun s1 h1 hm=>by
  exact h1.setM _ hb _ (by rw[List.length_set,hm])
 split
 ·refine key _ (h.setP x.1 hr _ (h.d _ hr) (h.q _ hr) (h.qi _ hr)) fun j=>sX _ _ _ _
 ·exact key s h fun _=>rfl
theorem MS {q:List Nat} {k i:Nat} (h:i∈q.eraseIdx k):i∈q:=List.mem_of_mem_eraseIdx h
theorem bF.take {p:Pg} {ls:List Ln} {s:St} (hC:bL p ls) (h:bF p ls s) {r k i:Nat} (hr:r < ls.length) (hk:(aH s r).q[k]?=some i):bF p ls (sT p ls s r k i):=by
 have hn:=hC.len
 obtain⟨l,hra⟩:∃ l,p.acts[r]?=some l:=⟨_,gEg (show r < p.acts.length by omega)⟩
 have hlen:=c8 hra
 obtain⟨L,hL,hO⟩:=hC.get hra
 have hqi:=h.qi r hr i (List.mem_of_getElem? hk)
 have hdl:=h.d r hr
 obtain⟨x,hx⟩:∃ x,l[i]?=some x:=⟨_,gEg (show i < l.length by omega)⟩
 have hap:=gK hra hx
 rw[hap] at hqi
 obtain⟨a1,a2,a3⟩:=oY hL hO hx hqi.2
 refine bF.eff (s:=YtkjoolaahocgdaaGreat.setP s r ⟨(aH s r).d,(aH s r).q.eraseIdx k,(aH s r).g⟩) (h.setP r hr _ (h.d r hr) ?_ fun j hj=>h.qi r hr j (MS hj)) (r,i) hr (by rw[a1]; show x.r.toNat < _; omega)
 have:=h.q r hr
 have:=List.length_eraseIdx_le (aH s r).q k
 show((aH s r).q.eraseIdx k).length≤(aH s r).d
 omega
theorem wP {p:Pg} {ls:List Ln} {s:St} {r:Nat} {x:Act} (hap:bA p (r,(aH s r).d)=x):kN p ls s r=if cI x.k=true then setP s r ⟨(aH s r).d+1,(aH s r).q++[(aH s r).d],(aH s r).g⟩
   else if x.k=6∨x.k=7 then jB p ls (setP s r ⟨(aH s r).d+1,(aH s r).q,(aH s r).g⟩) (r,(aH s r).d)
   else if x.k=13∨x.k=14 then setL (setP s r ⟨(aH s r).d+1,(aH s r).q,(aH s r).g⟩) x.r.toNat (lI r x.k (bO s x.r.toNat))
   else if x.k=16 then setL (setP s r ⟨(aH s r).d+1,(aH s r).q,(aH s r).g⟩) x.r.toNat (lZ r (bO s x.r.toNat))
   else setP s r ⟨(aH s r).d+1,(aH s r).q,(aH s r).g⟩:=by
 unfold kN
 dsimp only
 rw[hap]
theorem bF.step {p:Pg} {ls:List Ln} {s:St} (hC:bL p ls) (h:bF p ls s) {r:Nat} (hr:r < ls.length) (hd:(aH s r).d < aW p r):bF p ls (kN p ls s r):=by
 have hn:=hC.len
 obtain⟨l,hra⟩:∃ l,p.acts[r]?=some l:=⟨_,gEg (show r < p.acts.length by omega)⟩
 have hlen:=c8 hra
 obtain⟨L,hL,hO⟩:=hC.get hra
 obtain⟨x,hx⟩:∃ x,l[(aH s r).d]?=some x:=⟨_,gEg (show(aH s r).d < l.length by omega)⟩
 have hap:=gK hra hx
 rw[wP hap]
 have hq:=h.q r hr
 have hqi:=h.qi r hr
 have h1:bF p ls (YtkjoolaahocgdaaGreat.setP s r ⟨(aH s r).d+1,(aH s r).q,(aH s r).g⟩):=h.setP r hr _ hd (by show(aH s r).q.length≤(aH s r).d+1; omega) fun i hi=>by
  have:=hqi i hi
  exact⟨by show i < (aH s r).d+1; omega,this.2⟩
 by_cases k1:cI x.k=true
 ·rw[if_pos k1]
  refine h.setP r hr _ hd (by rw[List.length_append]; show(aH s r).q.length+1≤(aH s r).d+1; omega) fun i hi=>?_
  rcases List.mem_append.1 hi with hi | hi
  ·have:=hqi i hi
   exact⟨by show i < (aH s r).d+1; omega,this.2⟩
  ·rw[List.mem_singleton.1 hi,hap]
   exact⟨by show(aH s r).d < (aH s r).d+1; omega,k1⟩
 rw[if_neg k1]
 by_cases k2:x.k=6∨x.k=7
 ·rw[if_pos k2]
  obtain⟨a1,a2⟩:=uE hL hO hx k2
  exact h1.eff (r,(aH s r).d) hr (by rw[a1]; show((r:Int)).toNat < _; omega)
 rw[if_neg k2]
 by_cases k3:x.k=13∨x.k=14
 ·rw[if_pos k3]; exact h1.setL _ _
 rw[if_neg k3]
 by_cases k4:x.k=16
 ·rw[if_pos k4]; exact h1.setL _ _
 rw[if_neg k4]
 exact h1
theorem bF.cd {p:Pg} {ls:List Ln} {s:St} (hC:bL p ls) (h:bF p ls s) {c:Cd} (hc:c∈cO p ls s):bF p ls (doP p ls s c):=by
 rcases nU hc with⟨r,h1,rfl,h2⟩ | ⟨r,k,i,h1,h2,rfl⟩
 ·exact h.step hC h1 (qJ (h.d r h1) h2)
 ·exact h.take hC h1 h2
def E0 (p:Pg) (s:St) (r:Nat):Nat:=2 * (aW p r - (aH s r).d)+(aH s r).q.length
def kJ (p:Pg) (n:Nat) (s:St):Nat:=((List.range n).map (E0 p s)).sum
theorem Q1 {n r:Nat} {f g:Nat→Nat} (hr:r < n) (h1:g r < f r) (h2:∀ j,j≠r→g j=f j):((List.range n).map g).sum < ((List.range n).map f).sum:=by
 induction n with
 | zero=>omega
 | succ n ih=>
  rw[List.range_succ,List.map_append,List.map_append,List.sum_append,List.sum_append]
  simp only[List.map_cons,List.map_nil,List.sum_cons,List.sum_nil]
  by_cases e:r=n
  ·subst e
   have:(List.range r).map g=(List.range r).map f:=List.map_congr_left fun j hj=>h2 j (by have:=List.mem_range.1 hj; omega)
   rw[this]
   omega
  ·have:=ih (by omega)
   rw[h2 n (fun e'=>e e'.symm)]
   omega
theorem uB {p:Pg} {ls:List Ln} {s:St} {x:Pl} (h:x.1 < s.ps.length) (j:Nat):(aH (jB p ls s x) j).q=(aH s j).q∧(aH (jB p ls s x) j).d=(aH s j).d:=s8 p ls s x h j
theorem NW {p:Pg} {ls:List Ln} {s:St} (h:bF p ls s) {r k i:Nat} (hr:r < ls.length) (hk:(aH s r).q[k]?=some i):kJ p ls.length (sT p ls s r k i) < kJ p ls.length s:=by
 have hrs:r < s.ps.length:=by rw[h.pl]; exact hr
 have hs:=dT (s:=s) (x:=⟨(aH s r).d,(aH s r).q.eraseIdx k,(aH s r).g⟩) hrs
 have hkl:=(gEs.1 hk).1
 have he:=fun j=>uB (p:=p) (ls:=ls) (s:=setP s r ⟨(aH s r).d,(aH s r).q.eraseIdx k,(aH s r).g⟩) (x:=(r,i)) (by unfold setP; simp; exact hrs) j
 have e:sT p ls s r k i=jB p ls (setP s r ⟨(aH s r).d,(aH s r).q.eraseIdx k,(aH s r).g⟩) (r,i):=rfl
 refine Q1 hr ?_ fun j hj=>?_
 ·unfold E0
  rw[e,(he r).1,(he r).2,hs,if_pos rfl]
  dsimp only
  rw[oP hkl]
  omega
 ·unfold E0
  rw[e,(he j).1,(he j).2,hs,if_neg hj]
theorem M9 {p:Pg} {ls:List Ln} {s:St} (h:bF p ls s) {r:Nat} (hr:r < ls.length) (hd:(aH s r).d < aW p r):kJ p ls.length (kN p ls s r) < kJ p ls.length s:=by
 have hrs:r < s.ps.length:=by rw[h.pl]; exact hr
 have key:∀ s':St,(∀ j,j≠r→(aH s' j).d=(aH s j).d∧(aH s' j).q=(aH s j).q)→(aH s' r).d=(aH s r).d+1→(aH s' r).q.length≤(aH s r).q.length+1→kJ p ls.length s' < kJ p ls.length s:=fun s' h1 h2 h3=>by
  refine Q1 hr ?_ fun j hj=>?_
  ·unfold E0
   rw[h2]
   omega
  ·unfold E0
   rw[(h1 j hj).1,(h1 j hj).2]
 have hs:=fun q g=>dT (s:=s) (x:=⟨(aH s r).d+1,q,g⟩) hrs
 have k0:∀ q g,q.length≤(aH s r).q.length+1→kJ p ls.length (setP s r ⟨(aH s r).d+1,q,g⟩) < kJ p ls.length s:=fun q g hq=>key _ (fun j hj=>by rw[hs,if_neg hj]; exact⟨rfl,rfl⟩) (by rw[hs,if_pos rfl]) (by rw[hs,if_pos rfl]; exact hq)
 rw[wP rfl]
 split
 ·exact k0 _ _ (by simp)
 split
 ·have he:=fun j=>uB (p:=p) (ls:=ls) (s:=setP s r ⟨(aH s r).d+1,(aH s r).q,(aH s r).g⟩) (x:=(r,(aH s r).d)) (by unfold setP; simp; exact hrs) j
  refine key _ (fun j hj=>?_) ?_ ?_
  ·rw[(he j).1,(he j).2,hs,if_neg hj]; exact⟨rfl,rfl⟩
  ·rw[(he r).2,hs,if_pos rfl]
  ·rw[(he r).1,hs,if_pos rfl]; exact Nat.le_succ _
 split
 ·exact k0 _ _ (Nat.le_succ _)
 split
 ·exact k0 _ _ (Nat.le_succ _)
 ·exact k0 _ _ (Nat.le_succ _)
theorem SE {p:Pg} {ls:List Ln} {s:St} (h:bF p ls s) {c:Cd} (hc:c∈cO p ls s):kJ p ls.length (doP p ls s c) < kJ p ls.length s:=by
 rcases nU hc with⟨r,h1,rfl,h2⟩ | ⟨r,k,i,h1,h2,rfl⟩
 ·exact M9 h h1 (qJ (h.d r h1) h2)
 ·exact NW h h1 h2
theorem NS {p:Pg} {ls:List Ln} {s:St} (h:cO p ls s=[]):stepS p ls s=none:=by
 unfold stepS
 split
 ·rfl
 ·rename_i c l e
  rw[h] at e
  cases e
theorem I0 {p:Pg} {ls:List Ln} {s:St} {sd k:Nat} {c:Cd} (hsd:sd=jU s.seed) (hk:k=pZ sd (cO p ls s).length) (hc:(cO p ls s)[k]?=some c):stepS p ls s=some (doP p ls { s with seed:=sd } c):=by
 unfold stepS
 rw[← hsd]
 split
 ·rename_i h
  rw[h] at hc; simp at hc
 ·rename_i a l h
  rw[h] at hc hk
  have e:(a::l).getD (pZ sd (l.length+1)) a=c:=by
   rw[show l.length+1=(a::l).length from rfl,← hk,List.getD_eq_getElem?_getD,hc]
   rfl
  rw[e]
theorem bF.stepS {p:Pg} {ls:List Ln} {s s':St} (hC:bL p ls) (h:bF p ls s) (he:stepS p ls s=some s'):bF p ls s'∧kJ p ls.length s' < kJ p ls.length s:=by
 obtain⟨sd,hsd⟩:∃ x,x=jU s.seed:=⟨_,rfl⟩
 have hlt:sd < 18446744073709551616:=by rw[hsd]; exact AN _
 have h1:bF p ls { s with seed:=sd }:=h.sd' hlt
 unfold YtkjoolaahocgdaaGreat.stepS at he
 split at he
 ·cases he
 ·rename_i c l hcl
  rw[← hsd] at he
  obtain⟨k,hk⟩:∃ x,x=pZ sd (l.length+1):=⟨_,rfl⟩
  have hkl:k < l.length+1:=by rw[hk]; exact Nat.mod_lt _ (by omega)
  rw[← hk] at he
  injection he with he
  have hm:(c::l).getD k c∈cO p ls { s with seed:=sd }:=by
   show _∈cO p ls s
   rw[hcl,List.getD_eq_getElem?_getD,gEg (by simpa using hkl)]
   exact List.getElem_mem _
  generalize (c::l).getD k c=d at *
  subst he
  exact⟨h1.cd hC hm,SE h1 hm⟩
theorem wU {p:Pg} {ls:List Ln} (hC:bL p ls):∀(f g:Nat) (s:St),bF p ls s→kJ p ls.length s < f→kJ p ls.length s < g→xK p ls f s=xK p ls g s
 | 0,_,_,_,h,_=>by omega
 | _,0,_,_,_,h=>by omega
 | f+1,g+1,s,hS,hf,hg=>by
  rw[xK,xK]
  cases he:stepS p ls s with
  | none=>rfl
  | some s'=>
   obtain⟨h1,h2⟩:=hS.stepS hC he
   exact wU hC f g s' h1 (by omega) (by omega)
def eQ (p:Pg) (ls:List Ln) (s:St):St:=xK p ls (kJ p ls.length s+1) s
theorem NK {p:Pg} {ls:List Ln} {s s':St} (hC:bL p ls) (hS:bF p ls s) (he:stepS p ls s=some s'):eQ p ls s=eQ p ls s':=by
 obtain⟨h1,h2⟩:=hS.stepS hC he
 unfold eQ
 rw[xK,he]
 exact wU hC _ _ s' h1 (by omega) (by omega)
theorem NE {p:Pg} {ls:List Ln} {s:St} (he:stepS p ls s=none):eQ p ls s=s:=by
 unfold eQ
 rw[xK,he]
def l0:List Blk:=[.cells 1 [[.sc (.slice none 0 0)]]]
theorem kF {T:AV→AV→Prop} {ρ:Nat→Nat→Option (Nat×Nat)}:ToB T ρ nil3 nil3:=ToB.one (ToL.cons (.sc _) (ToL.cons (.sc _) (ToL.cons (.sc _) ToL.nil)))
theorem TX {T:AV→AV→Prop} {ρ:Nat→Nat→Option (Nat×Nat)}:ToB T ρ (.cells 1 [[.sc (.slice none 0 0)]]) (.cells 1 [[.sc (.slice none 0 0)]]):=ToB.one (ToL.cons (.sc _) ToL.nil)
theorem U6 (p:Pg) (ls:List Ln) (s:St):aO Tryz.prog 44 [.ptr 0 0 0 0] (worldH p ls s++[[nil3],l0]) fun res H'=>res=.clo (.func 65) [] [.cptr [.ptr 0 0 0 0]]∧H'=worldH p ls s++[[nil3],l0]:=by
 refine aO.of cF44 ?_ (nlB rfl)
 unfold worldH aV l0
 refine aA ?_
 refine yX (.clo (.func 65) [] [.cptr [.ptr 0 0 0 0]]) p ls s b4 b4 (cH ls.length s) [] [[(8,0)],[(9,0)]] [[nil3],l0] ⟨rfl,rfl⟩ rfl rfl rfl rfl rfl rfl rfl (bP fun i hi=>aK hi) dP ⟨⟨⟨_,rfl,kF⟩,trivial⟩,⟨⟨_,rfl,TX⟩,trivial⟩,trivial⟩ ⟨.c _ rfl rfl,.c _ rfl rfl,.c _ rfl rfl,.c _ rfl rfl,.w _ _ (Nat.le_of_eq (aJ _ _)),.w _ _ (Nat.le_of_eq (aJ _ _)),.w _ _ (Nat.le_of_eq (aJ _ _)),.w _ _ (Nat.le_of_eq (aJ _ _)),.c _ rfl rfl,.c _ rfl rfl,trivial⟩
def mF (p:Pg):Fr:=[(2,.cptr [.sc (.int .i64 p.cells),.list 1 (bV p.acts)]),(4,.ptr 8 0 0 0),(9,.ptr 0 0 0 0)]
theorem SO (p:Pg) (ls:List Ln) (s:St) {n sd k:Nat} (hn:0 < n) (hn2:n≤1000000) (hsd:sd=jU s.seed) (hk:k=pZ sd n) (G:Heap):
  aO Tryz.prog 45 [.ptr 0 0 0 0,.sc (.int .i64 (n:Int))] (worldH p ls s++G) fun res H'=>res=.sc (.int .i64 (k:Int))∧H'=worldH p ls { s with seed:=sd }++G:=by
 have h:=PJ p ls s hn hn2
 rw[← hsd,← hk] at h
 refine(aO.more G (fU p ls s s) (R:=fun res H'=>res=.sc (.int .i64 (k:Int))∧H'=worldH p ls { s with seed:=sd }) (h.mono fun res H' h=>?_) fun a hm=>?_).mono fun res H' h=>?_
 ·obtain⟨rfl,rfl⟩:=h
  exact⟨.sc _,fU _ _ _ _,rfl,rfl⟩
 ·rcases List.mem_cons.1 hm with rfl | hm
  ·exact .ptr _ _ _ _ _ _ rfl
  ·rw[List.mem_singleton.1 hm]; exact .sc _
 ·obtain⟨H1,rfl,rfl,rfl⟩:=h
  exact⟨rfl,rfl⟩
def mG (out:List Cd):Heap:=[[nil3],lB 10 out.length,[.cells 1 (eZ out)]]
theorem Q9 {p:Pg} {ls:List Ln} {s:St} {out:List Cd} {H':Heap} {N:Nat} {fr:Fr} (h:R6 p ls s (mG out) H')
  (hfr:∀(T:AV→AV→Prop) (ρ:Nat→Nat→Option (Nat×Nat)),ρ 0 0=some (0,0)→ρ 8 0=some (8,0)→aY T ρ fr (mF p)):Sub 0 N fr H' (mF p) (worldH p ls s++[[nil3]]):=by
 rcases h with rfl | ⟨r,hr,rfl⟩
 ·exact Sub.wgL p ls s b4 b4 (cH ls.length s) [] [] [[(8,0)]] [[nil3]] (hfr _ _ rfl rfl) rfl rfl rfl rfl rfl rfl rfl (bP fun i hi=>aK hi) dP ⟨⟨⟨_,rfl,kF⟩,trivial⟩,trivial⟩ trivial
 ·refine Sub.toK [] (wKg ls.length (.r 4 ls.length r (11,0)) [[(8,0)]]) (hfr _ _ rfl rfl) (CZ (b:=bX r 11) (b':=b4) rfl rfl rfl rfl rfl ?_ (fun i hi=>aK hi) (fun i hi=>aK hi) (fun i hi=>aK hi) (fun j hj=>rho_r rfl hj) ⟨⟨⟨_,rfl,kF⟩,trivial⟩,trivial⟩) trivial
  refine bD.ofR (fun i hi hne=>⟨_,aK hi,?_⟩) fun _=>⟨_,rfl,ToB.rows rfl (prs _)⟩
  rw[if_neg hne]
  exact ToB.rows rfl (prs _)
theorem T4 (p:Pg) (ls:List Ln) (s:St):Ren (idH (worldH p ls s)) (.cptr [.ptr 0 0 0 0]) (.cptr [.ptr 0 0 0 0]):=.cptr _ _ rfl (Ren.selfW fun x hx=>by
 rw[List.mem_singleton.1 hx]
 exact .ptr _ _ _ _ _ _ rfl)
theorem yD {ρ:Nat→Nat→Option (Nat×Nat)} (n:Nat):Ren ρ (.cptr [.sc (.int .i64 (n:Int))]) (.cptr [.sc (.int .i64 (n:Int))]):=.pure (pv _)
theorem UU {p:Pg} {ls:List Ln} {s:St} (hC:bL p ls) (hS:bF p ls s) (G:Heap) {r:Nat} (h:Cd.act r∈cO p ls s):aO Tryz.prog 67 [.cptr [.ptr 0 0 0 0],.cptr [.sc (.int .i64 (r:Int))]] (worldH p ls s++G) fun res H'=>res=.tup []∧R6 p ls (doP p ls s (.act r)) G H':=by
 rcases nU h with⟨r',h1,h2,h3⟩ | ⟨r',k',i',h1,h2,h3⟩
 ·injection h2 with h2
  subst h2
  refine LR G (VE hC hS h1 (qJ (hS.d _ h1) h3)) fun a ha=>?_
  rcases List.mem_cons.1 ha with rfl | ha
  ·exact T4 _ _ _
  ·rw[List.mem_singleton.1 ha]; exact yD _
 ·cases h3
theorem RX {p:Pg} {ls:List Ln} {s:St} (hC:bL p ls) (hS:bF p ls s) (G:Heap) {r k i:Nat} (h:Cd.take r k i∈cO p ls s):aO Tryz.prog 69 [.cptr [.ptr 0 0 0 0],.cptr [.sc (.int .i64 (r:Int))],.cptr [.sc (.int .i64 (k:Int))],.cptr [.sc (.int .i64 (i:Int))]] (worldH p ls s++G) fun res H'=>res=.tup []∧R6 p ls (doP p ls s (.take r k i)) G H':=by
 rcases nU h with⟨r',h1,h2,h3⟩ | ⟨r',k',i',h1,h2,h3⟩
 ·cases h2
 ·injection h3 with e1 e2 e3
  subst e1; subst e2; subst e3
  refine LR G (TA hC hS h1 h2) fun a ha=>?_
  simp only[List.mem_cons,List.not_mem_nil,or_false] at ha
  rcases ha with rfl | rfl | rfl | rfl
  ·exact T4 _ _ _
  ·exact yD _
  ·exact yD _
  ·exact yD _
set_option maxHeartbeats 16000000 in
theorem UC {p:Pg} {ls:List Ln} {s:St} (hC:bL p ls) (hp:POK p) (hS:bF p ls s) (Q:Exit→Fr→Heap→Prop)
  (hstop:stepS p ls s=none→∀ fr H,Sub 0 F18.n fr H (mF p) (worldH p ls s++[[nil3]])→Q (.exit 2) fr H)
  (hstep:∀ s',stepS p ls s=some s'→∀ fr H,Sub 0 F18.n fr H (mF p) (worldH p ls s'++[[nil3]])→Q .normal fr H):
  AWP Tryz.prog F18.n 0 (cY [1,1,1,1,1,0,0,0] F18.code) Q (mF p) (worldH p ls s++[[nil3]]):=by
 show AWP _ _ _ (.block _ _) _ _ _
 have hcl:=yN hC hS (fO p ls s ls.length) ls.length (Nat.le_refl _)
 have hal:=rQ p ls s ls.length
 have hn64:=hC.n64
 have hn:=hC.len
 have hol:(cO p ls s).length≤1000000:=by
  show(mT p ls s (fO p ls s ls.length) ls.length).length≤_
  omega
 unfold mF
 refine AWP.block ?_
 refine AWP.seq ?_
 refine AWP.region ?_
 refine cF ?_
 refine AWP.seq ?_
 refine AWP.seq ?_
 refine AWP.region ?_
 refine cF ?_
 refine Reg.c (Nat.zero_le _) rfl ((U6 p ls s).mono ?_)
 rintro res H' ⟨rfl,rfl⟩
 refine Reg.nil ?_
 refine AWP.block ?_
 refine AWP.sub (fr':=dL p) (H':=worldH p ls s++[[nil3],l0]) ?_ ?_
 ·unfold dL
  refine Sub.wgL p ls s b4 b4 (cH ls.length s) [] [] [[(8,0)],[(9,0)]] [[nil3],l0] ?_ rfl rfl rfl rfl rfl rfl rfl (bP fun i hi=>aK hi) dP ⟨⟨⟨_,rfl,kF⟩,trivial⟩,⟨⟨_,rfl,TX⟩,trivial⟩,trivial⟩ trivial
  (all_goals exact eC)
 refine AWP.rangeF (g:=65) (fs:=[]) (cs:=[.cptr [.ptr 0 0 0 0]]) rfl (Nat.zero_le _) rfl fun L hL=>?_
 refine(SV hC hp hS L hL).mono ?_
 rintro _ H' rfl
 refine⟨_,_,none,rfl,by decide,?_⟩
 show AWP Tryz.prog F18.n 0 (.seq (.seq _ _) _) _ _ _
 refine AWP.sub (fr':=(10,.ptr 9 0 0 0)::mF p) (H':=worldH p ls s++mG (cO p ls s)) ?_ ?_
 ·unfold dL mF mG
  refine Sub.wgL p ls s b4 b4 (cH ls.length s) [] [] [[(8,0)],[(9,0)],[(11,0)]] [[nil3],lB 10 (cO p ls s).length,[.cells 1 (eZ (cO p ls s))]] ?_ rfl rfl rfl rfl rfl rfl rfl (bP fun i hi=>aK hi) dP ⟨⟨⟨_,rfl,kF⟩,trivial⟩,⟨⟨_,rfl,ToB.one (ToL.cons (To.hslL rfl rfl) ToL.nil)⟩,trivial⟩,⟨⟨_,rfl,ToB.cds rfl _⟩,trivial⟩,trivial⟩ trivial
  (all_goals exact eC)
 have hcm:=fun c (h:c∈cO p ls s)=>h
 have hcd:∀ sd,cO p ls { s with seed:=sd }=cO p ls s:=fun _=>rfl
 generalize hcs:cO p ls s=cs at *
 have hrl:=zF cs
 unfold mF
 refine AWP.seq ?_
 refine AWP.seq ?_
 refine AWP.region ?_
 refine cF ?_
 refine AWP.condD rfl (fun h0=>?_) (fun h0=>?_)
 ·refine AWP.exit ?_
  have hnil:cs=[]:=List.length_eq_zero_iff.1 h0
  refine hstop (NS (by rw[hcs]; exact hnil)) _ _ ?_
  refine Sub.wgL p ls s b4 b4 (cH ls.length s) [] [] [[(8,0)]] [[nil3]] ?_ rfl rfl rfl rfl rfl rfl rfl (bP fun i hi=>aK hi) dP ⟨⟨⟨_,rfl,kF⟩,trivial⟩,trivial⟩ trivial
  unfold mF
  (all_goals exact eC)
 ·refine AWP.skip ?_
  have hpos:0 < cs.length:=by omega
  obtain⟨sd,hsd⟩:∃ x,x=jU s.seed:=⟨_,rfl⟩
  obtain⟨k,hk⟩:∃ x,x=pZ sd cs.length:=⟨_,rfl⟩
  have hkl:k < cs.length:=by rw[hk]; exact Nat.mod_lt _ hpos
  have hsdl:sd < 18446744073709551616:=by rw[hsd]; exact AN _
  have hbel:=SO p ls s hpos hol hsd hk (mG cs)
  have hS':bF p ls { s with seed:=sd }:=hS.sd' hsdl
  have hgc:=gEg hkl
  have hst:=I0 (p:=p) (ls:=ls) (s:=s) (sd:=sd) (k:=k) (c:=cs[k]) hsd (by rw[hcs]; exact hk) (by rw[hcs]; exact hgc)
  have hmem:cs[k]∈cO p ls { s with seed:=sd }:=by rw[hcd]; exact List.getElem_mem hkl
  have hrow:(eZ cs)[k]?=some [cdV cs[k]]:=by unfold eZ; rw[List.getElem?_map,hgc]; rfl
  generalize cs[k]=c at *
  cases c with
  | act r=>
   have hca:=UU hC hS' (mG cs) hmem
   (unfold cdV at hrow; refine AWP.lin [(true,0),(true,1),(true,2),(true,3),(false,4),(true,5),(true,6),(false,7)] mixed (by kernel_rfl) (by kernel_rfl) ?_; refine sQ ?_; refine RT.cc (Nat.zero_le _) rfl hbel ?_; rintro res H' ⟨rfl,rfl⟩; refine⟨(by repeat (first | exact trivial | exact eI.refl _ _ | refine And.intro rfl ?_)),?_⟩; refine sQ ?_; refine RT.cv (Nat.zero_le _) rfl rfl hca ?_; rintro res H' ⟨rfl,hw⟩; refine⟨trivial,?_⟩; refine sQ ?_; refine hstep _ hst _ _ (Q9 hw fun T ρ r0 r8=>?_); unfold mF; (refine aY.cons ?_ (aY.cons ?_ (aY.cons ?_ aY.nil)); exact To.pure (pv (.cptr [.sc (.int .i64 p.cells),.list 1 (bV p.acts)])); exact To.ptrO r8 rfl rfl; exact To.ptrO r0 rfl rfl))
  | take r k2 i=>
   have hca:=RX hC hS' (mG cs) hmem
   (unfold cdV at hrow; refine AWP.lin [(true,0),(true,1),(true,2),(true,3),(false,4),(true,5),(true,6),(false,7)] mixed (by kernel_rfl) (by kernel_rfl) ?_; refine sQ ?_; refine RT.cc (Nat.zero_le _) rfl hbel ?_; rintro res H' ⟨rfl,rfl⟩; refine⟨(by repeat (first | exact trivial | exact eI.refl _ _ | refine And.intro rfl ?_)),?_⟩; refine sQ ?_; refine RT.cv (Nat.zero_le _) rfl rfl hca ?_; rintro res H' ⟨rfl,hw⟩; refine⟨trivial,?_⟩; refine sQ ?_; refine hstep _ hst _ _ (Q9 hw fun T ρ r0 r8=>?_); unfold mF; (refine aY.cons ?_ (aY.cons ?_ (aY.cons ?_ aY.nil)); exact To.pure (pv (.cptr [.sc (.int .i64 p.cells),.list 1 (bV p.acts)])); exact To.ptrO r8 rfl rfl; exact To.ptrO r0 rfl rfl))
def st0 (p:Pg) (n seed:Nat):St:=⟨seed,List.replicate n pr0,List.replicate n (List.replicate p.cells.toNat 0),List.replicate n []⟩
theorem mO (p:Pg) (n seed r:Nat):aH (st0 p n seed) r=pr0:=by
 unfold aH st0
 simp only[List.getElem?_replicate]
 split<;>rfl
theorem v6 {p:Pg} {n seed r:Nat} (h:r < n):aT (st0 p n seed) r=List.replicate p.cells.toNat 0:=by
 unfold aT st0
 simp only[List.getElem?_replicate]
 rw[if_pos h]
 rfl
theorem tC (p:Pg) (n seed r:Nat):bO (st0 p n seed) r=[]:=by
 unfold bO st0
 simp only[List.getElem?_replicate]
 split<;>rfl
theorem bF.st0 {p:Pg} {ls:List Ln} {seed:Nat} (hs:seed < 18446744073709551616):bF p ls (st0 p ls.length seed):=by
 refine⟨hs,List.length_replicate,List.length_replicate,List.length_replicate,fun r _=>?_,fun r _=>?_,fun r _ i hi=>?_,fun r hr=>?_⟩
 ·rw[mO]; exact Nat.zero_le _
 ·rw[mO]; exact Nat.zero_le _
 ·rw[mO] at hi; cases hi
 ·rw[v6 hr,List.length_replicate]
theorem F2 (r:Nat) (s:St) (b:Nat→Nat×Nat):procsH (r+1) s b=procsH r s b++[[.sc (.int .i64 ((aH s r).d:Int)),.hsl (b r).1 (b r).2 0 (aH s r).q.length,.mref 5 r]]:=by
 unfold procsH
 rw[List.range_succ,List.map_append]
 rfl
theorem wO (r:Nat) (f:Nat→AV):row1 (r+1) f=row1 r f++[[f r]]:=by
 unfold row1
 rw[List.range_succ,List.map_append]
 rfl
def sH (p:Pg) (ls:List Ln) (s:St) (a b c:Nat):Heap:=
 [[.cells 5 [[ckV p ls,.sc (.int .u64 (s.seed:Int)),.hsl 1 0 0 a,.hsl 2 0 0 b,.hsl 3 0 0 c]]],[.cells 3 (procsH a s b4)],[.cells 1 (memH b s)],[.cells 1 (heldH c)],cH a s,jE a s,k9 b s,gP c s,[nil3]]
def sF (p:Pg) (n r:Nat):Fr:=[(2,.cptr [.sc (.int .i64 p.cells),.list 1 (bV p.acts)]),(4,.ptr 8 0 0 0),(9,.ptr 0 0 0 0),(35,.sc (.int .i64 (n:Int))),(36,.sc (.int .i64 (r:Int)))]
def sC:dN:=cY [1,1,1,1,0,1,0,0,1,1,0,0] F18.code
theorem VO {T:AV→AV→Prop} {ρ:Nat→Nat→Option (Nat×Nat)} {p:Pg} {ls:List Ln} {seed:Nat} {a b c g1 i1 g2 i2 g3 i3:Nat} (r1:ρ 1 0=some (g1,i1)) (r2:ρ 2 0=some (g2,i2)) (r3:ρ 3 0=some (g3,i3)):
  ToB T ρ (.cells 5 [[ckV p ls,.sc (.int .u64 (seed:Int)),.hsl g1 i1 0 a,.hsl g2 i2 0 b,.hsl g3 i3 0 c]]) (.cells 5 [[ckV p ls,.sc (.int .u64 (seed:Int)),.hsl 1 0 0 a,.hsl 2 0 0 b,.hsl 3 0 0 c]]):=
 ToB.one (ToL.cons (.pure (pv (ckV p ls))) (ToL.cons (.sc _) (ToL.cons (To.hslL r1 rfl) (ToL.cons (To.hslL r2 rfl) (ToL.cons (To.hslL r3 rfl) ToL.nil)))))
set_option maxHeartbeats 16000000 in
theorem U7 {p:Pg} {ls:List Ln} {s:St} (r n:Nat) (hn:r < 64) (hpr:aH s r=pr0) (Q:Exit→Fr→Heap→Prop) (h:AWP Tryz.prog F18.n 0 (cY [1] sC) Q (sF p n r) (sH p ls s (r+1) r r)):
  AWP Tryz.prog F18.n 0 sC Q (sF p n r) (sH p ls s r r r):=by
 show AWP _ _ _ (.seq (.region _) _) _ _ _
 have hl1:=fM r s b4
 unfold sF sH
 refine AWP.seq ?_
 refine AWP.region ?_
 refine cF ?_
 refine AWP.sub ?_ h
 unfold sF sH
 refine Sub.toK [1] [.c [(0,0)],.c [(11,0)],.c [(2,0)],.c [(3,0)],.w 4 r [(12,0)],.w 5 r [(9,0)],.w 6 r [],.w 7 r [],.c [(8,0)]] ?_ ⟨⟨⟨_,rfl,VO rfl rfl rfl⟩,trivial⟩,⟨⟨_,rfl,?_⟩,trivial⟩,⟨⟨_,rfl,ToB.memH fun j hj=>dJ rfl hj⟩,trivial⟩,⟨⟨_,rfl,ToB.heldH fun j hj=>dJ rfl hj⟩,trivial⟩,?_,?_,?_,?_,⟨⟨_,rfl,kF⟩,trivial⟩,trivial⟩ trivial
 ·(all_goals exact eC)
 ·rw[F2,hpr]
  refine ToB.rowsR (ToR.append (ToR.map fun j hj=>?_) (ToR.cons (ToL.cons (.sc _) (ToL.cons (To.nil (zJ (n:=r) (i:=0) rfl rfl) rfl rfl) (ToL.cons (To.mrefO (zJ (n:=r) (i:=0) rfl rfl)) ToL.nil))) ToR.nil))
  have hj:=List.mem_range.1 hj
  exact ToL.cons (.sc _) (ToL.cons (To.hslL (dJ rfl hj) rfl) (ToL.cons (To.mrefO (dJ rfl hj)) ToL.nil))
 ·exact bD.famS (fun j hj=>⟨_,aK hj,ToB.rows rfl (prs _)⟩) rfl (by rw[hpr]; exact ToB.rows rfl (prs _))
 ·exact bD.famS (fun j hj=>⟨_,aK hj,ToB.retE _⟩) rfl (by rw[hpr]; exact ToB.retE [])
 ·exact bD.ofFam fun j hj=>⟨_,aK hj,ToB.rows rfl (prs _)⟩
 ·exact bD.ofFam fun j hj=>⟨_,aK hj,ToB.retE _⟩
set_option maxHeartbeats 16000000 in
theorem UI {p:Pg} {ls:List Ln} {s:St} (r n c:Nat) (hn:r < 64) (hc:p.cells=(c:Int)) (hc64:c≤64) (hme:aT s r=List.replicate c 0) (Q:Exit→Fr→Heap→Prop) (h:AWP Tryz.prog F18.n 0 (cY [1,1] sC) Q (sF p n r) (sH p ls s (r+1) (r+1) r)):
  AWP Tryz.prog F18.n 0 (cY [1] sC) Q (sF p n r) (sH p ls s (r+1) r r):=by
 show AWP _ _ _ (.seq (.draw _ _) _) _ _ _
 have hl1:=qN r s
 unfold sF sH at h ⊢
 rw[hc] at h ⊢
 refine AWP.seq ?_
 refine AWP.dk mixed ?_
 refine aA ?_
 refine DK.o rfl (uR (n:=c) rfl (by omega) (by omega)) ?_
 refine aA ?_
 refine DK.nil ⟨by kernel_rfl,?_⟩
 refine AWP.sub ?_ h
 refine Sub.toK [] [.c [(0,0)],.c [(1,0)],.c [(9,9)],.c [(3,0)],.w 4 (r+1) [],.w 5 (r+1) [],.w 6 r [(9,7)],.w 7 r [],.c [(8,0)]] ?_ ⟨⟨⟨_,rfl,VO rfl rfl rfl⟩,trivial⟩,⟨⟨_,rfl,ToB.procsH (fun j hj=>dJ rfl hj) fun j hj=>dJ rfl hj⟩,trivial⟩,⟨⟨_,rfl,?_⟩,trivial⟩,⟨⟨_,rfl,ToB.heldH fun j hj=>dJ rfl hj⟩,trivial⟩,?_,?_,?_,?_,⟨⟨_,rfl,kF⟩,trivial⟩,trivial⟩ trivial
 ·(all_goals exact eC)
 ·unfold memH
  rw[wO,hme,List.length_replicate]
  refine ToB.rowsR (ToR.append (ToR.map fun j hj=>?_) (ToR.cons (ToL.cons (To.hslL (zJ (n:=r) (i:=0) rfl rfl) rfl) ToL.nil) ToR.nil))
  exact ToL.cons (To.hslL (dJ rfl (List.mem_range.1 hj)) rfl) ToL.nil
 ·exact bD.ofFam fun j hj=>⟨_,aK hj,ToB.rows rfl (prs _)⟩
 ·exact bD.ofFam fun j hj=>⟨_,aK hj,ToB.retE _⟩
 ·refine bD.famS (fun j hj=>⟨_,aK hj,ToB.rows rfl (prs _)⟩) rfl ?_
  rw[hme,show aU (List.replicate c 0)=List.replicate c (fY [(1,Value.int .i64 0)]) by unfold aU; rw[List.map_replicate]; rfl]
  exact ToB.rows rfl (fun l hl x hx=>by rw[List.eq_of_mem_replicate hl] at hx; rw[List.mem_singleton.1 hx]; exact .sc _)
 ·exact bD.ofFam fun j hj=>⟨_,aK hj,ToB.retE _⟩
set_option maxHeartbeats 16000000 in
theorem UZ {p:Pg} {ls:List Ln} {s:St} (r n:Nat) (hn:r < 64) (hhe:bO s r=[]) (Q:Exit→Fr→Heap→Prop) (h:∀ fr H,Sub 0 F18.n fr H (sF p n r) (sH p ls s (r+1) (r+1) (r+1))→Q .normal fr H):
  AWP Tryz.prog F18.n 0 (cY [1,1] sC) Q (sF p n r) (sH p ls s (r+1) (r+1) r):=by
 show AWP _ _ _ (.region _) _ _ _
 have hl1:=oF r
 unfold sF sH at *
 refine AWP.region ?_
 refine cF ?_
 refine h _ _ ?_
 refine Sub.toK [] [.c [(0,0)],.c [(1,0)],.c [(2,0)],.c [(11,0)],.w 4 (r+1) [],.w 5 (r+1) [],.w 6 (r+1) [],.w 7 r [(9,0)],.c [(8,0)]] ?_ ⟨⟨⟨_,rfl,VO rfl rfl rfl⟩,trivial⟩,⟨⟨_,rfl,ToB.procsH (fun j hj=>dJ rfl hj) fun j hj=>dJ rfl hj⟩,trivial⟩,⟨⟨_,rfl,ToB.memH fun j hj=>dJ rfl hj⟩,trivial⟩,⟨⟨_,rfl,?_⟩,trivial⟩,?_,?_,?_,?_,⟨⟨_,rfl,kF⟩,trivial⟩,trivial⟩ trivial
 ·(all_goals exact eC)
 ·unfold heldH
  rw[wO]
  refine ToB.rowsR (ToR.append (ToR.map fun j hj=>?_) (ToR.cons (ToL.cons (To.mrefO (zJ (n:=r) (i:=0) rfl rfl)) ToL.nil) ToR.nil))
  exact ToL.cons (To.mrefO (dJ rfl (List.mem_range.1 hj))) ToL.nil
 ·exact bD.ofFam fun j hj=>⟨_,aK hj,ToB.rows rfl (prs _)⟩
 ·exact bD.ofFam fun j hj=>⟨_,aK hj,ToB.retE _⟩
 ·exact bD.ofFam fun j hj=>⟨_,aK hj,ToB.rows rfl (prs _)⟩
 ·exact bD.famS (fun j hj=>⟨_,aK hj,ToB.retE _⟩) rfl (by rw[hhe]; exact ToB.retE [])
def i8 (g:List (Nat×Int)) (m:Nat):List Int:=(List.range m).filterMap fun i=>bZ i g
theorem JE (g:List (Nat×Int)) (m:Nat):i8 g (m+1)=match bZ m g with | some v=>i8 g m++[v] | none=>i8 g m:=by
 unfold i8
 rw[List.range_succ,List.filterMap_append]
 cases h:bZ m g with
 | none=>simp[h]
 | some v=>simp[h]
theorem BM (g:List (Nat×Int)) (m:Nat):(i8 g m).length≤m:=by
 unfold i8
 refine Nat.le_trans (List.length_filterMap_le _ _) ?_
 rw[List.length_range]
 exact Nat.le_refl _
def g7 (p:Pg) (s:St) (r:Nat):List Int:=i8 (aH s r).g (aW p r)
def lV (p:Pg) (s:St) (r:Nat):Bool:=decide ((aH s r).d < aW p r)
def dA (p:Pg) (s:St) (n:Nat):List Nat:=(List.range n).filter (lV p s)
theorem FY (p:Pg) (s:St) (n:Nat):dA p s (n+1)=if lV p s n=true then dA p s n++[n] else dA p s n:=by
 unfold dA
 rw[List.range_succ,List.filter_append]
 by_cases h:lV p s n=true
 ·rw[if_pos h]; simp[h]
 ·rw[if_neg h]; simp[h]
theorem tQ (p:Pg) (s:St) (n:Nat):(dA p s n).length≤n:=by
 unfold dA
 refine Nat.le_trans (List.length_filter_le _ _) ?_
 rw[List.length_range]
 exact Nat.le_refl _
def eK (p:Pg) (s:St) (n:Nat):List (List AV):=row1 n fun r=>.list 1 (aU (g7 p s r))
instance (p:Pg) (s:St) (n:Nat):PRs (eK p s n):=inferInstanceAs (PRs (row1 n fun r=>AV.list 1 (aU (g7 p s r))))
def AQ (p:Pg) (s:St) (n:Nat):AV:=.tup [.agg [.list 1 (eK p s n),.list 1 (iM n s),.list 1 (bB (dA p s n))],.sc (.int .i64 0)]
def rF (p:Pg) (ls:List Ln) (s:St) (r:Nat):Fr:=[(2,.cptr [.sc (.int .i64 p.cells),.list 1 (bV p.acts)]),(4,.ptr 0 0 0 0),(12,.ptr 1 0 0 0),(98,.list 3 (mB ls.length s)),(99,.sc (.int .i64 (ls.length:Int))),(100,.sc (.int .i64 (r:Int)))]
def rH (p:Pg) (ls:List Ln) (s:St) (r:Nat):Heap:=[[nil3],[.cells 3 [[.hsl 2 0 0 r,.list 1 (iM ls.length s),.hsl 3 0 0 (dA p s r).length]]],[.cells 1 (eK p s r)],[.cells 1 (bB (dA p s r))]]
theorem To.worldS {n:Nat} {S:Nat→Nat→Bool} (hS:∀ g i,g < 8→S g i=true) {p:Pg} {ls:List Ln} {s:St} {H:Heap} {ρ:Nat→Nat→Option (Nat×Nat)} (h0:hget H 0 0=some (.cells 5 [boxW p ls s.seed])) (h1:hget H 1 0=some (.cells 3 (procsH ls.length s b4))) (h2:hget H 2 0=some (.cells 1 (memH ls.length s)))
  (h3:hget H 3 0=some (.cells 1 (heldH ls.length))) (h4:∀ r,r < ls.length→hget H 4 r=some (.cells 1 (bB (aH s r).q))) (h5:∀ r,r < ls.length→hget H 5 r=some (.map (retE (aH s r).g)))
  (h6:∀ r,r < ls.length→hget H 6 r=some (.cells 1 (aU (aT s r)))) (h7:∀ r,r < ls.length→hget H 7 r=some (.map (retE (bO s r)))):To (ToT H n S) ρ (.ptr 0 0 0 0) (cP p ls s):=by
 refine To.fzp h0 (hS _ _ (by decide)) rfl ?_
 unfold boxW
 refine To.cptrL (ToL.cons (.pure (pv _)) (ToL.cons (.sc _) (ToL.cons ?_ (ToL.cons ?_ (ToL.cons ?_ ToL.nil)))))
 ·refine To.fzT h1 (hS _ _ (by decide)) (fM _ _ _) (To.listR ?_)
  unfold procsH mB
  refine ToR.map fun r hr=>?_
  have hr:=List.mem_range.1 hr
  exact ToL.cons (.sc _) (ToL.cons (To.fz (h4 r hr) (hS 4 r (by decide)) (bY _) rfl (prs _)) (ToL.cons (To.fzm (h5 r hr) (hS _ _ (by decide)) (.pure (pv (.tmap (retE (aH s r).g))))) ToL.nil))
 ·refine To.fzT h2 (hS _ _ (by decide)) (qN _ _) (To.row1 fun r hr=>?_)
  exact To.fz (h6 r hr) (hS _ _ (by decide)) (cC _) rfl (prs _)
 ·refine To.fzT h3 (hS _ _ (by decide)) (oF _) (To.row1 fun r hr=>?_)
  exact To.fzm (h7 r hr) (hS _ _ (by decide)) (.pure (pv (.tmap (retE (bO s r)))))
set_option maxHeartbeats 16000000 in
theorem resR {p:Pg} {ls:List Ln} {s:St} (hC:bL p ls) (_:bF p ls s):
  AWP Tryz.prog F18.n 0 (cY [1,1,1,1,1,1] F18.code) (aN F18.res (AQ p s ls.length)) (mF p) (worldH p ls s++[[nil3]]):=by
 show AWP _ _ _ (.seq (.region _) _) _ _ _
 have hn:=hC.len
 have h64:=hC.n64
 have e1:=eS p.acts
 have e0:=J8 ls.length s
 refine AWP.sub (fr':=[(2,.cptr [.sc (.int .i64 p.cells),.list 1 (bV p.acts)]),(4,.ptr 0 0 0 0),(9,cP p ls s)]) (H':=[[nil3]]) ?_ ?_
 ·unfold mF
  refine Sub.to [] [[(8,0)]] ?_ ⟨⟨⟨_,rfl,kF⟩,trivial⟩,trivial⟩ rfl rfl rfl
  refine aY.cons (To.pure (pv (.cptr [.sc (.int .i64 p.cells),.list 1 (bV p.acts)]))) (aY.cons (To.ptrO rfl rfl rfl) (aY.cons ?_ aY.nil))
  exact To.worldS (fun g i hg=>by
   unfold eO
   have e:Nat.beq g 8=false:=Bool.eq_false_iff.2 fun h=>by have:=Nat.eq_of_beq_eq_true h; omega
   simp[IS,e]) rfl rfl rfl rfl (fun _ hr=>aK hr) (fun _ hr=>aK hr) (fun _ hr=>aK hr) fun _ hr=>aK hr
 have hw:PV (cP p ls s):=inferInstance
 unfold cP nil3
 refine aA ?_
 rw[e0]
 refine AWP.loop (fun r:Nat=>rF p ls s r) (fun r=>rH p ls s r) (fun r=>r≤ls.length) (fun r=>ls.length - r) 0 (Nat.zero_le _) ?_ ?_
 ·unfold rF rH nil3
  show Sub _ _ _ _ _ [[.cells 3 [[.sc (.slice none 0 0),.sc (.slice none 0 0),.sc (.slice none 0 0)]]],[.cells 3 [[.hsl 2 0 0 0,.list 1 (iM ls.length s),.hsl 3 0 0 0]]],[.cells 1 []],[.cells 1 []]]
  exact Sub.w [1,1] [[(0,0)],[(1,0)],[(2,0)],[(3,0)]]
 rintro r hr
 unfold rF
 refine AWP.seq ?_
 refine AWP.region ?_
 refine cF ?_
 refine AWP.seq ?_
 refine AWP.condD rfl (fun hrl=>?_) (fun hge=>?_)
 ·obtain⟨l,hra⟩:∃ l,p.acts[r]?=some l:=⟨_,gEg (show r < p.acts.length by omega)⟩
  have hlen:=c8 hra
  have hrow:=iZ hra
  have e2:=fF l
  have hpr:=nV (s:=s) hrl
  have hl100:l.length≤100:=by
   obtain⟨L,hL,hO⟩:=hC.get hra
   exact hO.len
  have hsl:=tQ p s r
  have hss:=FY p s r
  have hvl:g7 p s r=i8 (aH s r).g l.length:=by unfold g7; rw[hlen]
  have hv1:eK p s (r+1)=eK p s r++[[.list 1 (aU (g7 p s r))]]:=wO _ _
  have hvrl:(eK p s r).length=r:=cJ _ _
  have hsb:lV p s r=decide ((aH s r).d < l.length):=by unfold lV; rw[hlen]
  unfold prV at hpr
  have hlk:=fun i=>vZ i (aH s r).g
  unfold rH nil3
  refine aA ?_
  rw[e2]
  refine AWP.loop (fun k:Nat=>[(2,.cptr [.sc (.int .i64 p.cells),.list 1 (bV p.acts)]),(4,.ptr 0 0 0 0),(12,.ptr 1 0 0 0),(98,.list 3 (mB ls.length s)),(99,.sc (.int .i64 (ls.length:Int))),(100,.sc (.int .i64 (r:Int))),(13,.sc (.int .i64 (r:Int))),(14,.cptr [.sc (.int .i64 ((aH s r).d:Int)),.list 1 (bB (aH s r).q),.tmap (retE (aH s r).g)]),(15,.hsl 4 0 0 (i8 (aH s r).g k).length),(110,.sc (.int .i64 (l.length:Int))),(111,.sc (.int .i64 (k:Int)))])
   (fun k=>[[nil3],[.cells 3 [[.hsl 2 0 0 r,.list 1 (iM ls.length s),.hsl 3 0 0 (dA p s r).length]]],[.cells 1 (eK p s r)],[.cells 1 (bB (dA p s r))],[.cells 1 (aU (i8 (aH s r).g k))]]) (fun k=>k≤l.length) (fun k=>l.length - k) 0 (Nat.zero_le _) ?_ ?_
  ·unfold nil3
   show Sub _ _ _ _ _ [_,_,_,_,[.cells 1 []]]
   exact Sub.w [1] [[(0,0)],[(1,0)],[(2,0)],[(3,0)],[(5,0)]]
  ·intro k hk
   have hvs:=JE (aH s r).g k
   have hgl:=BM (aH s r).g k
   have hil:=cC (i8 (aH s r).g k)
   unfold nil3
   refine AWP.seq ?_
   refine AWP.region ?_
   refine cF ?_
   refine AWP.seq ?_
   refine AWP.condD rfl (fun hkl=>?_) (fun hge=>?_)
   ·have hlk:=hlk k
    cases hv:bZ k (aH s r).g with
    | none=>
     rw[hv] at hlk hvs
     refine aA ?_
     refine Reg.o rfl (bW rfl rfl hlk) ?_
     refine aA ?_
     refine⟨k+1,by omega,by omega,?_⟩
     rw[show i8 (aH s r).g (k+1)=i8 (aH s r).g k from hvs]
     exact Sub.w [] [[(0,0)],[(1,0)],[(2,0)],[(3,0)],[(4,0)]]
    | some v=>
     rw[hv] at hlk hvs
     refine aA ?_
     refine Reg.o rfl (bW rfl rfl hlk) ?_
     refine aA ?_
     refine⟨k+1,by omega,by omega,?_⟩
     rw[show i8 (aH s r).g (k+1)=i8 (aH s r).g k++[v] from hvs,show aU (i8 (aH s r).g k++[v])=aU (i8 (aH s r).g k)++[[.sc (.int .i64 v)]] by simp[aU],List.length_append]
     exact Sub.w [] [[(0,0)],[(1,0)],[(2,0)],[(3,0)],[(6,0)]]
   ·have e:k=l.length:=by omega
    subst e
    rw[← hvl] at hgl hil ⊢
    refine AWP.exit ?_
    refine AWP.sub (fr':=[(2,.cptr [.sc (.int .i64 p.cells),.list 1 (bV p.acts)]),(4,.ptr 0 0 0 0),(12,.ptr 1 0 0 0),(98,.list 3 (mB ls.length s)),(99,.sc (.int .i64 (ls.length:Int))),(100,.sc (.int .i64 (r:Int))),(13,.sc (.int .i64 (r:Int))),(14,.cptr [.sc (.int .i64 ((aH s r).d:Int)),.list 1 (bB (aH s r).q),.tmap (retE (aH s r).g)]),(15,.list 1 (aU (g7 p s r)))]) (H':=[[nil3],[.cells 3 [[.hsl 2 0 0 r,.list 1 (iM ls.length s),.hsl 3 0 0 (dA p s r).length]]],[.cells 1 (eK p s r)],[.cells 1 (bB (dA p s r))]]) ?_ ?_
    ·unfold nil3
     exact Sub.w [] [[(0,0)],[(1,0)],[(2,0)],[(3,0)]]
    have hnl:=bY (dA p s r)
    have hs1:=j9 (dA p s r) r
    unfold nil3
    refine aA ?_
    refine DK.nil ⟨by kernel_rfl,?_⟩
    refine aA ?_
    rw[e2]
    refine aA ?_
    rw[← hsb]
    cases hb:lV p s r with
    | false=>
     rw[hb,if_neg (by simp)] at hss
     refine aA ?_
     refine⟨r+1,by omega,by omega,?_⟩
     rw[hss,hv1]
     exact Sub.w [] [[(0,0)],[(1,0)],[(5,0)],[(3,0)]]
    | true=>
     rw[hb,if_pos rfl] at hss
     refine aA ?_
     refine⟨r+1,by omega,by omega,?_⟩
     rw[hss,hv1,hs1,List.length_append]
     exact Sub.w [] [[(0,0)],[(1,0)],[(5,0)],[(8,0)]]
 ·have e:r=ls.length:=by omega
  subst e
  have hvrl:(eK p s ls.length).length=ls.length:=cJ _ _
  have hnl:=bY (dA p s ls.length)
  refine AWP.exit ?_
  unfold rH nil3
  refine aA ?_
  refine aN.mk (.inr rfl) rfl rfl ?_
  exact To.tupL (ToL.cons (To.aggL (ToL.cons (To.fz rfl rfl hvrl rfl (prs _)) (ToL.cons (.pure (pv (.list 1 (iM ls.length s)))) (ToL.cons (To.fz rfl rfl hnl rfl (prs _)) ToL.nil)))) (ToL.cons (.sc _) ToL.nil))
def BJ (p:Pg) (seed:Nat):AV:=if (cL p).1.2=0 then AQ p (eQ p (cL p).2 (st0 p (cL p).2.length seed)) (cL p).2.length else .tup [.agg [.list 1 [],.list 1 [],.list 1 []],.sc (.int .i64 (cL p).1.2)]
instance (p:Pg) (s:St) (n:Nat):PV (AQ p s n):=by unfold AQ; infer_instance
instance (p:Pg) (seed:Nat):PV (BJ p seed):=by unfold BJ; split<;>infer_instance
set_option maxHeartbeats 16000000 in
theorem mainR {p:Pg} {ls:List Ln} {s0:St} (hC:bL p ls) (hp:POK p) (hS0:bF p ls s0):
  AWP Tryz.prog F18.n 0 (cY [1,1,1,1,1] F18.code) (aN F18.res (AQ p (eQ p ls s0) ls.length)) (mF p) (worldH p ls s0++[[nil3]]):=by
 show AWP _ _ _ (.seq (.block _ (.loop _)) _) _ _ _
 refine AWP.seq ?_
 refine AWP.block ?_
 refine AWP.loop (σ:=St) (fun _=>mF p) (fun s=>worldH p ls s++[[nil3]]) (fun s=>bF p ls s∧eQ p ls s=eQ p ls s0) (fun s=>kJ p ls.length s) s0 ⟨hS0,rfl⟩ (Sub.keep ⟨Le.refl _,Le.refl _,Le.refl _,trivial⟩) ?_
 rintro s ⟨hS,hR⟩
 refine UC hC hp hS _ (fun he fr H hsub=>?_) (fun s' he fr H hsub=>?_)
 ·rw[← hR,NE he]
  show AWP Tryz.prog F18.n 0 (cY [1,1,1,1,1,1] F18.code) _ _ _
  exact AWP.sub hsub (resR hC hS)
 ·obtain⟨h1,h2⟩:=hS.stepS hC he
  exact⟨s',⟨h1,by rw[← hR]; exact(NK hC hS he).symm⟩,h2,hsub⟩
set_option maxHeartbeats 16000000 in
theorem U0 {p:Pg} {ls:List Ln} (hC:bL p ls) (hp:POK p) {seed:Nat} (hs:seed < 18446744073709551616):
  AWP Tryz.prog F18.n 0 (cY [1,1,1,1] F18.code) (aN F18.res (AQ p (eQ p ls (st0 p ls.length seed)) ls.length)) [(2,.cptr [.sc (.int .i64 p.cells),.list 1 (bV p.acts)]),(4,.ptr 0 0 0 0),(9,.ptr 1 0 0 0)]
   [[nil3],[.cells 5 [[ckV p ls,.sc (.int .u64 (seed:Int)),.sc (.slice none 0 0),.sc (.slice none 0 0),.sc (.slice none 0 0)]]]]:=by
 have hm:=mainR hC hp (bF.st0 (p:=p) (ls:=ls) hs)
 have h64:=hC.n64
 have hn:=hC.len
 have hc1:=hC.c1
 have hc64:=hC.c64
 obtain⟨c,hc⟩:∃ c:Nat,p.cells=c:=⟨p.cells.toNat,by omega⟩
 have e1:=eS p.acts
 obtain⟨s0,hs0⟩:∃ s,s=st0 p ls.length seed:=⟨_,rfl⟩
 have hsd:s0.seed=seed:=by rw[hs0]; rfl
 have hpr:∀ j,aH s0 j=pr0:=fun j=>by rw[hs0]; exact mO _ _ _ _
 have hme:∀ j,j < ls.length→aT s0 j=List.replicate c 0:=fun j hj=>by rw[hs0,v6 hj,hc]; rfl
 have hhe:∀ j,bO s0 j=[]:=fun j=>by rw[hs0]; exact tC _ _ _ _
 rw[← hs0] at hm ⊢
 rw[← hsd]
 show AWP _ _ _ (.seq (.seq (.region _) (.block _ (.loop _))) _) _ _ _
 refine AWP.seq ?_
 refine AWP.seq ?_
 refine AWP.region ?_
 refine cF ?_
 rw[e1,← hn]
 refine AWP.block ?_
 refine AWP.loop (fun r:Nat=>sF p ls.length r) (fun r=>sH p ls s0 r r r) (fun r=>r≤ls.length) (fun r=>ls.length - r) 0 (Nat.zero_le _) ?_ ?_
 ·unfold sF sH nil3
  show Sub _ _ _ _ _ [[.cells 5 [[ckV p ls,.sc (.int .u64 (s0.seed:Int)),.hsl 1 0 0 0,.hsl 2 0 0 0,.hsl 3 0 0 0]]],[.cells 3 []],[.cells 1 []],[.cells 1 []],[],[],[],[],[.cells 3 [[.sc (.slice none 0 0),.sc (.slice none 0 0),.sc (.slice none 0 0)]]]]
  have hw:PV (ckV p ls):=inferInstance
  generalize ckV p ls=ck at *
  have hwp:=hw.out
  (apply Sub.to [3,1,1] [[(1,0)],[(2,0)],[(3,0)],[(4,0)],[],[],[],[],[(0,0)]]; all_goals (repeat' (first | exact aY.nil | exact aQ.nil | exact bD.nil | exact ToL.nil | exact ToR.nil | refine aY.cons ?_ ?_ | refine aQ.cons ?_ ?_ | refine gO ?_ ?_ | exact To.undef _ | exact To.sc _ | exact To.hslL rfl rfl | exact To.asl _ _ _ _ _ _ rfl | exact To.ptrO rfl rfl rfl | exact To.mrefO rfl | exact To.nil rfl rfl rfl | exact wt1 | exact To.nilL | refine To.int ?_ | refine To.bool ?_ | refine To.hslL rfl ?_ | refine wt2 rfl ?_ ?_ ?_ | refine To.tupL ?_ | refine To.aggL ?_ | refine To.cptrL ?_ | refine To.fzp rfl rfl rfl ?_ | refine To.fzm rfl rfl ?_ | refine To.cloL ?_ ?_ | refine wt3 ?_ | refine wt4 ?_ | exact wt5 | refine wt6 ?_ | refine ToB.one ?_ | exact wt7 | ((with_reducible apply ToL.consE); case e9=>rfl) | refine wt8 ?_ | refine ToL.cons ?_ ?_ | exact wt11 | refine wt9 ?_ ?_ | refine gI ?_ | (with_reducible rfl) | assumption)); all_goals (first | rfl | assumption | (simp; done) | (simp; omega) | (rw[wrap_small (by omega) (by omega)]; done) | (rw[wrap_small (by omega) (by omega)]; omega) | (refine congrArg Nat.cast ?_; assumption) | skip))
 ·intro r hr
  refine AWP.seq ?_
  refine AWP.region ?_
  unfold sF
  refine cF ?_
  refine AWP.seq ?_
  refine AWP.condD rfl (fun hrl=>?_) (fun hge=>?_)
  ·refine AWP.skip ?_
   refine AWP.seq ?_
   refine AWP.block ?_
   refine AWP.sub (fr':=sF p ls.length r) (H':=sH p ls s0 r r r) (Sub.keep ⟨Le.refl _,Le.refl _,Le.refl _,Le.refl _,Le.refl _,trivial⟩) ?_
   refine U7 r ls.length (by omega) (hpr r) _ (UI r ls.length c (by omega) hc (by omega) (hme r hrl) _ (UZ r ls.length (by omega) (hhe r) _ fun fr H hsub=>?_))
   show AWP _ _ _ (.region _) _ fr H
   refine AWP.sub hsub ?_
   unfold sF
   refine aA ?_
   exact⟨r+1,by omega,by omega,Sub.keep ⟨Le.refl _,Le.refl _,Le.refl _,Le.refl _,Le.refl _,trivial⟩⟩
  ·have e:r=ls.length:=by omega
   subst e
   refine AWP.exit ?_
   refine AWP.sub ?_ hm
   exact Sub.keep ⟨Le.refl _,Le.refl _,Le.refl _,trivial⟩
set_option maxHeartbeats 16000000 in
theorem s7 (p:Pg) (hp:POK p) {seed:Nat} (hs:seed < 18446744073709551616):aD Tryz.prog 18 [dH p,.sc (.int .u64 (seed:Int))] (BJ p seed):=by
 refine aD.mkI cF18 (nlB rfl) ?_
 have hc:=rP p hp
 unfold HG at hc
 unfold BJ
 unfold plA dH at *
 by_cases h:(cL p).1.2=0
 ·rw[if_pos h] at hc ⊢
  have hC:=mX h
  rw[h] at hc
  have hb:=U0 hC hp hs
  generalize (cL p).2=ls at *
  refine AWP.seq ?_
  refine AWP.region ?_
  refine cF ?_
  refine AWP.seq ?_
  refine AWP.region ?_
  refine cF ?_
  refine AWP.seq ?_
  refine AWP.seq ?_
  refine AWP.region ?_
  refine cF ?_
  refine AWP.condF rfl ?_
  refine AWP.skip ?_
  refine AWP.seq ?_
  refine AWP.region ?_
  unfold ckV at *
  refine cF ?_
  refine AWP.sub ?_ hb
  unfold nil3
  exact Sub.w [] [[(1,0)],[(3,0)]]
 ·rw[if_neg h] at hc ⊢
  generalize (cL p).1.2=k at *
  have e:(k != 0)=true:=by simp[h]
  refine aA ?_
  rw[e]
  refine aA ?_
  exact aN.w
def aF:Act:=⟨8,0,0,0,0,0,[]⟩
def aL:Act:=⟨6,0,0,0,0,0,[]⟩
def aP:Act:=⟨1,1,0,0,5,0,[]⟩
def goodP:Pg:=⟨1,[[aF,aP,aF],[aF,aF,aL]]⟩
def badP:Pg:=⟨1,[[aF,aP,aF],[aF,aL,aF]]⟩
theorem GK:(cL goodP).1=((0,0),0):=by kernel_rfl
theorem TR:(cL badP).1=((0,0),0):=by kernel_rfl
theorem JN:(iO goodP (cL goodP).2 (eE (cL goodP).2.length goodP (cL goodP).2)).2=[]:=by kernel_rfl
theorem N4:(iO badP (cL badP).2 (eE (cL badP).2.length badP (cL badP).2)).2=[mk4 (0,1) (1,1)]:=by kernel_rfl
theorem RG:(eQ goodP (cL goodP).2 (st0 goodP 2 5)).mem=[[0],[5]]:=by kernel_rfl
theorem JD:dA goodP (eQ goodP (cL goodP).2 (st0 goodP 2 5)) 2=[]:=by kernel_rfl
theorem N9:g7 goodP (eQ goodP (cL goodP).2 (st0 goodP 2 5)) 1=[5]:=by kernel_rfl
end Go.Proofs.YtkjoolaahocgdaaGreat
