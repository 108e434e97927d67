import Derived.Test.YtkjoolaahocgdaaGreatGWiU19
import Derived.Test.YtkjoolaahocgdaaGreatGWiU6
namespace Go.Proofs.YtkjoolaahocgdaaGreat
open Go.Av Go.Proofs
set_option maxRecDepth 20000
def tkN (p:Pg) (ls:List Ln) (s:St) (r:Nat) (out:List Cd) (k:Nat):CS:=(List.range k).foldl (iJ p ls r (aI s r).q) ([],out)
theorem uV (p:Pg) (ls:List Ln) (s:St) (r:Nat) (out:List Cd) (k:Nat):tkN p ls s r out (k+1)=iJ p ls r (aI s r).q (tkN p ls s r out k) k:=by
 unfold tkN
 rw[List.range_succ,List.foldl_append]
 rfl
theorem zL (p:Pg) (ls:List Ln) (s:St) (r:Nat) (out:List Cd):∀ k,(tkN p ls s r out k).2.length≤out.length+k
 | 0=>Nat.le_refl _
 | k+1=>by
  have:=zL p ls s r out k
  rw[uV]
  unfold iJ
  split
  ·split
   ·omega
   ·simp only[List.length_append,List.length_cons,List.length_nil]; omega
  ·simp only[List.length_append,List.length_cons,List.length_nil]; omega
def nL (p:Pg) (ls:List Ln) (s:St) (out:List Cd) (r:Nat):List Cd:=(List.range r).foldl (KO p ls s) out
theorem sW (p:Pg) (ls:List Ln) (s:St) (out:List Cd) (r:Nat):nL p ls s out (r+1)=(tkN p ls s r (nL p ls s out r) (aI s r).q.length).2:=by
 unfold nL
 rw[List.range_succ,List.foldl_append]
 rfl
theorem uQ {p:Pg} {ls:List Ln} {s:St} (hC:d9 p ls) (hS:cA p ls s) (out:List Cd):∀ r,r≤ls.length→(nL p ls s out r).length≤out.length+100 * r
 | 0,_=>Nat.le_refl _
 | r+1,h=>by
  have h1:=uQ hC hS out r (by omega)
  have h2:=zL p ls s r (nL p ls s out r) (aI s r).q.length
  have h3:=hS.q100 hC (show r < ls.length by omega)
  rw[sW]
  omega
def coF (n r:Nat):Fr:=[(0,.yld 10 0),(1,.cptr [.ptr 0 0 0 0]),(32,.sc (.int .i64 (n:Int))),(33,.sc (.int .i64 (r:Int)))]
set_option maxHeartbeats 16000000 in
theorem candB {p:Pg} {ls:List Ln} {s:St} (hC:d9 p ls) (hS:cA p ls s) (L:LC) (hL:LOK Tryz.prog F18.n L [74] lkA lkB) (out0:List Cd) (h0:out0.length≤64):
  AWP Tryz.prog F65.n 11 (aG [1] F65.code) (vX F65.n 11 F65.res fun _ H'=>H'=kQ p ls s L (nL p ls s out0 ls.length)) (cdF ls.length ls.length) (kQ p ls s L out0):=by
 have hn64:=hC.n64
 have hn:=hC.len
 show AWP _ _ _ (.seq _ _) _ _ _
 unfold kQ worldH aZ boxW cdF
 refine AWP.seq ?_
 refine AWP.region ?_
 refine bI ?_
 refine AWP.block ?_
 refine AWP.loop (fun r:Nat=>coF ls.length r) (fun r=>kQ p ls s L (nL p ls s out0 r)) (fun r=>r≤ls.length) (fun r=>ls.length - r) 0 (Nat.zero_le _) ?_ ?_
 ·show Sub _ _ _ _ _ (kQ p ls s L out0)
  (refine Sub.wgL p ls s b4 b4 (cC ls.length s) [] [] [[(8,0)],[(9,0)],[(10,0)],[(11,0)]] ([nil3]::lB 11 (out0).length::[.lp L (c7 p) .ready none]::[[.cells 1 (eN (out0))]]) ?_ rfl rfl rfl rfl rfl rfl rfl (bO fun i hi=>aO hi) dF (iA rfl rfl rfl rfl rfl rfl rfl ⟨⟨⟨_,rfl,ToB.cds rfl _⟩,trivial⟩,trivial⟩) ⟨.c _ rfl rfl,.c _ rfl rfl,.c _ rfl rfl,.c _ rfl rfl,.w _ _ (Nat.le_of_eq (aM _ _)),.w _ _ (Nat.le_of_eq (aM _ _)),.w _ _ (Nat.le_of_eq (aM _ _)),.w _ _ (Nat.le_of_eq (aM _ _)),.c _ rfl rfl,.c _ rfl rfl,.c _ rfl rfl,trivial⟩; (try unfold coF); (all_goals (repeat' (first | exact aB.nil | exact aS.nil | exact aY.nil | exact ToL.nil | exact ToR.nil | refine aB.cons ?_ ?_ | refine aS.cons ?_ ?_ | refine dZ ?_ ?_ | exact To.undef _ | exact To.sc _ | exact To.hslL rfl rfl | exact To.asl _ _ _ _ _ _ rfl | exact To.ptrO rfl rfl rfl | exact To.mrefO rfl | exact To.nil rfl rfl rfl | exact wt1 | exact To.nilL | refine To.int ?_ | refine To.bool ?_ | refine To.hslL rfl ?_ | refine wt2 rfl ?_ ?_ ?_ | refine To.tupL ?_ | refine To.aggL ?_ | refine To.cptrL ?_ | refine To.fzp rfl rfl rfl ?_ | refine To.fzm rfl rfl ?_ | refine To.cloL ?_ ?_ | refine wt3 ?_ | refine wt4 ?_ | exact wt5 | refine wt6 ?_ | refine ToB.one ?_ | exact wt7 | ((with_reducible apply ToL.consE); case e9=>rfl) | refine wt8 ?_ | refine ToL.cons ?_ ?_ | exact wt11 | refine wt9 ?_ ?_ | refine dX ?_ | (with_reducible rfl) | assumption)); all_goals (first | rfl | assumption | (simp; done) | (simp; omega) | (rw[wrap_small (by omega) (by omega)]; done) | (rw[wrap_small (by omega) (by omega)]; omega) | (refine congrArg Nat.cast ?_; assumption) | skip)); exact .yld _ _ _ _ rfl)
 rintro r hr
 unfold coF
 refine AWP.seq ?_
 refine AWP.region ?_
 refine bI ?_
 refine AWP.seq ?_
 refine AWP.condD rfl (fun hrl=>?_) (fun hge=>?_)
 ·have hp1:=iY (s:=s) (b:=b4) hrl
  have hp1l:=eU ls.length s b4
  have hq:=hS.q100 hC hrl
  have hol:=uQ hC hS out0 r hr
  have hsucc:=sW p ls s out0 r
  unfold b4 at hp1
  dsimp only at hp1
  refine AWP.skip ?_
  refine AWP.seq ?_
  refine AWP.block ?_
  refine AWP.seq ?_
  refine AWP.region ?_
  unfold kQ worldH aZ boxW
  refine bI ?_
  refine AWP.seq ?_
  refine AWP.region ?_
  refine bI ?_
  refine AWP.seq ?_
  refine AWP.dk mixed ?_
  refine aA ?_
  refine DK.nil ⟨by kernel_rfl,?_⟩
  have hb0:UB [] (.map []):=.inl ⟨rfl,rfl⟩
  refine AWP.block ?_
  refine AWP.loop (σ:=Nat×CS×Blk) (fun t=>ciF r ls.length (aI s r).q.length t.1) (fun t=>iD p ls s L t.2.1.2 t.2.2) (fun t=>t.1≤(aI s r).q.length∧t.2.1=tkN p ls s r (nL p ls s out0 r) t.1∧UB t.2.1.1 t.2.2) (fun t=>(aI s r).q.length - t.1) (0,([],nL p ls s out0 r),.map []) ⟨Nat.zero_le _,rfl,hb0⟩ ?_ ?_
  ·dsimp only
   (refine Sub.wgL p ls s b4 b4 (cC ls.length s) [] [] [[(8,0)],[(9,0)],[(10,0)],[(11,0)],[(13,0)]] ([nil3]::lB 11 (nL p ls s out0 r).length::[.lp L (c7 p) .ready none]::[[.cells 1 (eN (nL p ls s out0 r))],[.map []]]) ?_ rfl rfl rfl rfl rfl rfl rfl (bO fun i hi=>aO hi) dF (iA rfl rfl rfl rfl rfl rfl rfl ⟨⟨⟨_,rfl,ToB.cds rfl _⟩,trivial⟩,⟨⟨_,rfl,(hb0).to⟩,trivial⟩,trivial⟩) ⟨.c _ rfl rfl,.c _ rfl rfl,.c _ rfl rfl,.c _ rfl rfl,.w _ _ (Nat.le_of_eq (aM _ _)),.w _ _ (Nat.le_of_eq (aM _ _)),.w _ _ (Nat.le_of_eq (aM _ _)),.w _ _ (Nat.le_of_eq (aM _ _)),.c _ rfl rfl,.c _ rfl rfl,.c _ rfl rfl,trivial⟩; (try unfold ciF); (all_goals (repeat' (first | exact aB.nil | exact aS.nil | exact aY.nil | exact ToL.nil | exact ToR.nil | refine aB.cons ?_ ?_ | refine aS.cons ?_ ?_ | refine dZ ?_ ?_ | exact To.undef _ | exact To.sc _ | exact To.hslL rfl rfl | exact To.asl _ _ _ _ _ _ rfl | exact To.ptrO rfl rfl rfl | exact To.mrefO rfl | exact To.nil rfl rfl rfl | exact wt1 | exact To.nilL | refine To.int ?_ | refine To.bool ?_ | refine To.hslL rfl ?_ | refine wt2 rfl ?_ ?_ ?_ | refine To.tupL ?_ | refine To.aggL ?_ | refine To.cptrL ?_ | refine To.fzp rfl rfl rfl ?_ | refine To.fzm rfl rfl ?_ | refine To.cloL ?_ ?_ | refine wt3 ?_ | refine wt4 ?_ | exact wt5 | refine wt6 ?_ | refine ToB.one ?_ | exact wt7 | ((with_reducible apply ToL.consE); case e9=>rfl) | refine wt8 ?_ | refine ToL.cons ?_ ?_ | exact wt11 | refine wt9 ?_ ?_ | refine dX ?_ | (with_reducible rfl) | assumption)); all_goals (first | rfl | assumption | (simp; done) | (simp; omega) | (rw[wrap_small (by omega) (by omega)]; done) | (rw[wrap_small (by omega) (by omega)]; omega) | (refine congrArg Nat.cast ?_; assumption) | skip)); (exact .yld _ _ _ _ rfl); exact To.hslL (c9 rfl hrl) rfl)
  rintro⟨k,⟨u,out⟩,b⟩ ⟨hk,hcs,hb⟩
  dsimp only at hk hcs hb ⊢
  have hsu:=uV p ls s r (nL p ls s out0 r) k
  have htl:=zL p ls s r (nL p ls s out0 r) k
  rw[← hcs] at hsu htl
  unfold ciF
  refine AWP.seq ?_
  refine AWP.region ?_
  refine bI ?_
  refine AWP.seq ?_
  refine AWP.condD rfl (fun hlt=>?_) (fun hge=>?_)
  ·refine AWP.skip ?_
   refine AWP.seq ?_
   have hkk:(aI s r).q[k]?=some (aI s r).q[k]:=gEg hlt
   refine AWP.sub (fr':=ciF r ls.length (aI s r).q.length k) (H':=iD p ls s L out b) ?_ ?_
   ·(refine Sub.wgL p ls s b4 b4 (cC ls.length s) [] [] [[(8,0)],[(9,0)],[(10,0)],[(11,0)],[(12,0)]] ([nil3]::lB 11 (out).length::[.lp L (c7 p) .ready none]::[[.cells 1 (eN (out))],[b]]) ?_ rfl rfl rfl rfl rfl rfl rfl (bO fun i hi=>aO hi) dF (iA rfl rfl rfl rfl rfl rfl rfl ⟨⟨⟨_,rfl,ToB.cds rfl _⟩,trivial⟩,⟨⟨_,rfl,(hb).to⟩,trivial⟩,trivial⟩) ⟨.c _ rfl rfl,.c _ rfl rfl,.c _ rfl rfl,.c _ rfl rfl,.w _ _ (Nat.le_of_eq (aM _ _)),.w _ _ (Nat.le_of_eq (aM _ _)),.w _ _ (Nat.le_of_eq (aM _ _)),.w _ _ (Nat.le_of_eq (aM _ _)),.c _ rfl rfl,.c _ rfl rfl,.c _ rfl rfl,trivial⟩; (try unfold ciF); (all_goals (repeat' (first | exact aB.nil | exact aS.nil | exact aY.nil | exact ToL.nil | exact ToR.nil | refine aB.cons ?_ ?_ | refine aS.cons ?_ ?_ | refine dZ ?_ ?_ | exact To.undef _ | exact To.sc _ | exact To.hslL rfl rfl | exact To.asl _ _ _ _ _ _ rfl | exact To.ptrO rfl rfl rfl | exact To.mrefO rfl | exact To.nil rfl rfl rfl | exact wt1 | exact To.nilL | refine To.int ?_ | refine To.bool ?_ | refine To.hslL rfl ?_ | refine wt2 rfl ?_ ?_ ?_ | refine To.tupL ?_ | refine To.aggL ?_ | refine To.cptrL ?_ | refine To.fzp rfl rfl rfl ?_ | refine To.fzm rfl rfl ?_ | refine To.cloL ?_ ?_ | refine wt3 ?_ | refine wt4 ?_ | exact wt5 | refine wt6 ?_ | refine ToB.one ?_ | exact wt7 | ((with_reducible apply ToL.consE); case e9=>rfl) | refine wt8 ?_ | refine ToL.cons ?_ ?_ | exact wt11 | refine wt9 ?_ ?_ | refine dX ?_ | (with_reducible rfl) | assumption)); all_goals (first | rfl | assumption | (simp; done) | (simp; omega) | (rw[wrap_small (by omega) (by omega)]; done) | (rw[wrap_small (by omega) (by omega)]; omega) | (refine congrArg Nat.cast ?_; assumption) | skip)); (exact .yld _ _ _ _ rfl); exact To.hslL (c9 rfl hrl) rfl)
   refine AWP.joinT (fun b':Blk=>ciF r ls.length (aI s r).q.length k) (fun b'=>iD p ls s L (iJ p ls r (aI s r).q (u,out) k).2 b') (fun b'=>UB (iJ p ls r (aI s r).q (u,out) k).1 b') (candT hC hS L hL hrl hkk out (by dsimp only at htl; omega) b u hb _) fun b' hb'=>?_
   unfold ciF
   refine aA ?_
   refine⟨(k+1,iJ p ls r (aI s r).q (u,out) k,b'),⟨by omega,hsu.symm,hb'⟩,by omega,?_⟩
   dsimp only
   (refine Sub.wgL p ls s b4 b4 (cC ls.length s) [] [] [[(8,0)],[(9,0)],[(10,0)],[(11,0)],[(12,0)]] ([nil3]::lB 11 ((iJ p ls r (aI s r).q (u,out) k).2).length::[.lp L (c7 p) .ready none]::[[.cells 1 (eN ((iJ p ls r (aI s r).q (u,out) k).2))],[b']]) ?_ rfl rfl rfl rfl rfl rfl rfl (bO fun i hi=>aO hi) dF (iA rfl rfl rfl rfl rfl rfl rfl ⟨⟨⟨_,rfl,ToB.cds rfl _⟩,trivial⟩,⟨⟨_,rfl,(hb').to⟩,trivial⟩,trivial⟩) ⟨.c _ rfl rfl,.c _ rfl rfl,.c _ rfl rfl,.c _ rfl rfl,.w _ _ (Nat.le_of_eq (aM _ _)),.w _ _ (Nat.le_of_eq (aM _ _)),.w _ _ (Nat.le_of_eq (aM _ _)),.w _ _ (Nat.le_of_eq (aM _ _)),.c _ rfl rfl,.c _ rfl rfl,.c _ rfl rfl,trivial⟩; (try unfold ciF); (all_goals (repeat' (first | exact aB.nil | exact aS.nil | exact aY.nil | exact ToL.nil | exact ToR.nil | refine aB.cons ?_ ?_ | refine aS.cons ?_ ?_ | refine dZ ?_ ?_ | exact To.undef _ | exact To.sc _ | exact To.hslL rfl rfl | exact To.asl _ _ _ _ _ _ rfl | exact To.ptrO rfl rfl rfl | exact To.mrefO rfl | exact To.nil rfl rfl rfl | exact wt1 | exact To.nilL | refine To.int ?_ | refine To.bool ?_ | refine To.hslL rfl ?_ | refine wt2 rfl ?_ ?_ ?_ | refine To.tupL ?_ | refine To.aggL ?_ | refine To.cptrL ?_ | refine To.fzp rfl rfl rfl ?_ | refine To.fzm rfl rfl ?_ | refine To.cloL ?_ ?_ | refine wt3 ?_ | refine wt4 ?_ | exact wt5 | refine wt6 ?_ | refine ToB.one ?_ | exact wt7 | ((with_reducible apply ToL.consE); case e9=>rfl) | refine wt8 ?_ | refine ToL.cons ?_ ?_ | exact wt11 | refine wt9 ?_ ?_ | refine dX ?_ | (with_reducible rfl) | assumption)); all_goals (first | rfl | assumption | (simp; done) | (simp; omega) | (rw[wrap_small (by omega) (by omega)]; done) | (rw[wrap_small (by omega) (by omega)]; omega) | (refine congrArg Nat.cast ?_; assumption) | skip)); (exact .yld _ _ _ _ rfl); exact To.hslL (c9 rfl hrl) rfl)
  ·have e:k=(aI s r).q.length:=by omega
   subst e
   refine AWP.exit ?_
   have hout:nL p ls s out0 (r+1)=out:=by rw[hsucc,← hcs]
   show AWP _ _ _ (.region _) _ _ _
   refine aA ?_
   refine⟨r+1,by omega,by omega,?_⟩
   rw[hout]
   unfold iD
   (refine Sub.wgL p ls s b4 b4 (cC ls.length s) [] [] [[(8,0)],[(9,0)],[(10,0)],[(11,0)]] ([nil3]::lB 11 (out).length::[.lp L (c7 p) .ready none]::[[.cells 1 (eN (out))]]) ?_ rfl rfl rfl rfl rfl rfl rfl (bO fun i hi=>aO hi) dF (iA rfl rfl rfl rfl rfl rfl rfl ⟨⟨⟨_,rfl,ToB.cds rfl _⟩,trivial⟩,trivial⟩) ⟨.c _ rfl rfl,.c _ rfl rfl,.c _ rfl rfl,.c _ rfl rfl,.w _ _ (Nat.le_of_eq (aM _ _)),.w _ _ (Nat.le_of_eq (aM _ _)),.w _ _ (Nat.le_of_eq (aM _ _)),.w _ _ (Nat.le_of_eq (aM _ _)),.c _ rfl rfl,.c _ rfl rfl,.c _ rfl rfl,trivial⟩; (try unfold coF); (all_goals (repeat' (first | exact aB.nil | exact aS.nil | exact aY.nil | exact ToL.nil | exact ToR.nil | refine aB.cons ?_ ?_ | refine aS.cons ?_ ?_ | refine dZ ?_ ?_ | exact To.undef _ | exact To.sc _ | exact To.hslL rfl rfl | exact To.asl _ _ _ _ _ _ rfl | exact To.ptrO rfl rfl rfl | exact To.mrefO rfl | exact To.nil rfl rfl rfl | exact wt1 | exact To.nilL | refine To.int ?_ | refine To.bool ?_ | refine To.hslL rfl ?_ | refine wt2 rfl ?_ ?_ ?_ | refine To.tupL ?_ | refine To.aggL ?_ | refine To.cptrL ?_ | refine To.fzp rfl rfl rfl ?_ | refine To.fzm rfl rfl ?_ | refine To.cloL ?_ ?_ | refine wt3 ?_ | refine wt4 ?_ | exact wt5 | refine wt6 ?_ | refine ToB.one ?_ | exact wt7 | ((with_reducible apply ToL.consE); case e9=>rfl) | refine wt8 ?_ | refine ToL.cons ?_ ?_ | exact wt11 | refine wt9 ?_ ?_ | refine dX ?_ | (with_reducible rfl) | assumption)); all_goals (first | rfl | assumption | (simp; done) | (simp; omega) | (rw[wrap_small (by omega) (by omega)]; done) | (rw[wrap_small (by omega) (by omega)]; omega) | (refine congrArg Nat.cast ?_; assumption) | skip)); exact .yld _ _ _ _ rfl)
 ·have e:r=ls.length:=by omega
  subst e
  refine AWP.exit ?_
  refine wA (.tup []) p ls s b4 b4 (cC ls.length s) [] [[(8,0)],[(9,0)],[(10,0)],[(11,0)]] ([nil3]::lB 11 (nL p ls s out0 ls.length).length::[.lp L (c7 p) .ready none]::[[.cells 1 (eN (nL p ls s out0 ls.length))]]) rfl rfl rfl rfl rfl rfl rfl rfl (bO fun i hi=>aO hi) dF (iA rfl rfl rfl rfl rfl rfl rfl ⟨⟨⟨_,rfl,ToB.cds rfl _⟩,trivial⟩,trivial⟩) ⟨.c _ rfl rfl,.c _ rfl rfl,.c _ rfl rfl,.c _ rfl rfl,.w _ _ (Nat.le_of_eq (aM _ _)),.w _ _ (Nat.le_of_eq (aM _ _)),.w _ _ (Nat.le_of_eq (aM _ _)),.w _ _ (Nat.le_of_eq (aM _ _)),.c _ rfl rfl,.c _ rfl rfl,.c _ rfl rfl,trivial⟩ (hr:=To.tupL ToL.nil)
theorem KU {p:Pg} {ls:List Ln} {s:St} (hC:d9 p ls) (hp:POK p) (hS:cA p ls s) (L:LC) (hL:LOK Tryz.prog F18.n L [74] lkA lkB):
  aQ Tryz.prog 65 [.yld 10 0,.cptr [.ptr 0 0 0 0]] (KL p ls s L) fun _ H'=>H'=kQ p ls s L (eK p ls s):=by
 refine aQ.of cF65 ?_ (nlB rfl)
 refine candA hC hp hS L hL _ ?_
 exact candB hC hS L hL (f5 p ls s ls.length) (by have:=oO p ls s ls.length; have:=hC.n64; have:=hC.len; omega)
theorem sS {p:Pg} {ls:List Ln} {s:St} {c:Cd}:∀ {r:Nat},c∈f5 p ls s r→∃ j,j < r∧c=.act j∧zZ p ls s j=true
 | 0,h=>by cases h
 | r+1,h=>by
  rw[qA] at h
  split at h
  ·rename_i hc
   rcases List.mem_append.1 h with h | h
   ·obtain⟨j,h1,h2⟩:=sS h
    exact⟨j,by omega,h2⟩
   ·exact⟨r,by omega,List.mem_singleton.1 h,hc⟩
  ·obtain⟨j,h1,h2⟩:=sS h
   exact⟨j,by omega,h2⟩
theorem FV {p:Pg} {ls:List Ln} {s:St} {r:Nat} {out:List Cd} {c:Cd}:∀ {k:Nat},k≤(aI s r).q.length→c∈(tkN p ls s r out k).2→c∈out∨∃ j i,(aI s r).q[j]?=some i∧c=.take r j i
 | 0,_,h=>.inl h
 | k+1,hk,h=>by
  have ih:=fun h'=>FV (p:=p) (ls:=ls) (s:=s) (r:=r) (out:=out) (c:=c) (k:=k) (by omega) h'
  rw[uV] at h
  have hg:(aI s r).q[k]?=some ((aI s r).q.getD k 0):=by rw[List.getD_eq_getElem?_getD,gEg (by omega)]; rfl
  unfold iJ at h
  split at h
  ·split at h
   ·exact ih h
   ·rcases List.mem_append.1 h with h | h
    ·exact ih h
    ·exact .inr ⟨k,_,hg,List.mem_singleton.1 h⟩
  ·rcases List.mem_append.1 h with h | h
   ·exact ih h
   ·exact .inr ⟨k,_,hg,List.mem_singleton.1 h⟩
theorem BK {p:Pg} {ls:List Ln} {s:St} {out:List Cd} {c:Cd}:∀ {r:Nat},c∈nL p ls s out r→c∈out∨∃ b j i,b < r∧(aI s b).q[j]?=some i∧c=.take b j i
 | 0,h=>.inl h
 | r+1,h=>by
  rw[sW] at h
  rcases FV (Nat.le_refl _) h with h | ⟨j,i,h1,h2⟩
  ·rcases BK h with h | ⟨b,j,i,h1,h2⟩
   ·exact .inl h
   ·exact .inr ⟨b,j,i,by omega,h2⟩
  ·exact .inr ⟨r,j,i,by omega,h1,h2⟩
theorem oV {p:Pg} {ls:List Ln} {s:St} {c:Cd} (h:c∈eK p ls s):(∃ r,r < ls.length∧c=.act r∧zZ p ls s r=true)∨∃ r k i,r < ls.length∧(aI s r).q[k]?=some i∧c=.take r k i:=by
 rcases BK (out:=f5 p ls s ls.length) h with h | ⟨b,j,i,h1,h2,h3⟩
 ·exact .inl (sS h)
 ·exact .inr ⟨b,j,i,h1,h2,h3⟩
theorem D7 {p:Pg} {ls:List Ln} {s:St} {r:Nat} (hd:(aI s r).d≤cI p r) (h:zZ p ls s r=true):(aI s r).d < cI p r:=by
 unfold zZ dAt at h
 by_cases e:(aI s r).d=cI p r
 ·rw[if_pos e] at h; cases h
 ·omega
theorem A7 (x:Nat):jO x < 18446744073709551616:=by unfold jO; omega
theorem cA.sd' {p:Pg} {ls:List Ln} {s:St} (h:cA p ls s) {sd:Nat} (hs:sd < 18446744073709551616):cA p ls { s with seed:=sd }:=⟨hs,h.pl,h.ml,h.hl,h.d,h.q,h.qi,h.m⟩
theorem cA.setL {p:Pg} {ls:List Ln} {s:St} (h:cA p ls s) (b:Nat) (l:List (Nat×Int)):cA p ls (YtkjoolaahocgdaaGreat.setL s b l):=⟨h.sd,h.pl,h.ml,by show(s.held.set b l).length=_; rw[List.length_set]; exact h.hl,h.d,h.q,h.qi,h.m⟩
theorem cA.setM {p:Pg} {ls:List Ln} {s:St} (h:cA p ls s) (b:Nat) (hb:b < ls.length) (l:List Int) (hl:l.length=(bC s b).length):cA p ls (YtkjoolaahocgdaaGreat.setM s b l):=
 ⟨h.sd,h.pl,by show(s.mem.set b l).length=_; rw[List.length_set]; exact h.ml,h.hl,h.d,h.q,h.qi,fun j hj=>by
  rw[qD (by rw[h.ml]; exact hb)]
  split
  ·rename_i e; rw[hl,← e]; exact h.m j hj
  ·exact h.m j hj⟩
theorem cA.setP {p:Pg} {ls:List Ln} {s:St} (h:cA p ls s) (r:Nat) (hr:r < ls.length) (x:Pr) (h1:x.d≤cI p r) (h2:x.q.length≤x.d) (h3:∀ i∈x.q,i < x.d∧dW (jS p (r,i)).k=true):cA p ls (YtkjoolaahocgdaaGreat.setP s r x):=by
 have hs:=eD (s:=s) (r:=r) (x:=x) (by rw[h.pl]; exact hr)
 refine⟨h.sd,by show(s.ps.set r x).length=_; rw[List.length_set]; exact h.pl,h.ml,h.hl,fun j hj=>?_,fun j hj=>?_,fun j hj=>?_,h.m⟩
 ·rw[hs]; split
  ·rename_i e; rw[e]; exact h1
  ·exact h.d j hj
 ·rw[hs]; split
  ·exact h2
  ·exact h.q j hj
 ·rw[hs]; split
  ·rename_i e; rw[e]; exact h3
  ·exact h.qi j hj
theorem cA.eff {p:Pg} {ls:List Ln} {s:St} (h:cA p ls s) (x:Pl) (hr:x.1 < ls.length) (hb:(acN ls x).r.toNat < ls.length):cA p ls (kP p ls s x):=by
 unfold kP
 dsimp only
 have key:∀ s1:St,cA p ls s1→(∀ j,bC s1 j=bC s j)→cA p ls (YtkjoolaahocgdaaGreat.setM s1 (acN ls x).r.toNat ((bC s (acN ls x).r.toNat).set (acN ls x).a.toNat (fS (jS p x) ((bC s (acN ls x).r.toNat).getD (acN ls x).a.toNat 0)))):=fun s1 h1 hm=>by
  exact h1.setM _ hb _ (by rw[List.length_set,hm])
 split
 ·refine key _ (h.setP x.1 hr _ (h.d _ hr) (h.q _ hr) (h.qi _ hr)) fun j=>pN _ _ _ _
 ·exact key s h fun _=>rfl
theorem GW {q:List Nat} {k i:Nat} (h:i∈q.eraseIdx k):i∈q:=List.mem_of_mem_eraseIdx h
theorem cA.take {p:Pg} {ls:List Ln} {s:St} (hC:d9 p ls) (h:cA p ls s) {r k i:Nat} (hr:r < ls.length) (hk:(aI s r).q[k]?=some i):cA p ls (BV p ls s r k i):=by
 have hn:=hC.len
 obtain⟨l,hra⟩:∃ l,p.acts[r]?=some l:=⟨_,gEg (show r < p.acts.length by omega)⟩
 have hlen:=dP hra
 obtain⟨L,hL,hO⟩:=hC.get hra
 have hqi:=h.qi r hr i (List.mem_of_getElem? hk)
 have hdl:=h.d r hr
 obtain⟨x,hx⟩:∃ x,l[i]?=some x:=⟨_,gEg (show i < l.length by omega)⟩
 have hap:=jL hra hx
 rw[hap] at hqi
 obtain⟨a1,a2,a3⟩:=FL hL hO hx hqi.2
 refine cA.eff (s:=YtkjoolaahocgdaaGreat.setP s r ⟨(aI s r).d,(aI s r).q.eraseIdx k,(aI s r).g⟩) (h.setP r hr _ (h.d r hr) ?_ fun j hj=>h.qi r hr j (GW hj)) (r,i) hr (by rw[a1]; show x.r.toNat < _; omega)
 have:=h.q r hr
 have:=List.length_eraseIdx_le (aI s r).q k
 show((aI s r).q.eraseIdx k).length≤(aI s r).d
 omega
theorem xZ {p:Pg} {ls:List Ln} {s:St} {r:Nat} {x:Act} (hap:jS p (r,(aI s r).d)=x):qQ p ls s r=if dW x.k=true then setP s r ⟨(aI s r).d+1,(aI s r).q++[(aI s r).d],(aI s r).g⟩
   else if x.k=6∨x.k=7 then kP p ls (setP s r ⟨(aI s r).d+1,(aI s r).q,(aI s r).g⟩) (r,(aI s r).d)
   else if x.k=13∨x.k=14 then setL (setP s r ⟨(aI s r).d+1,(aI s r).q,(aI s r).g⟩) x.r.toNat (o4 r x.k (dG s x.r.toNat))
   else if x.k=16 then setL (setP s r ⟨(aI s r).d+1,(aI s r).q,(aI s r).g⟩) x.r.toNat (qV r (dG s x.r.toNat))
   else setP s r ⟨(aI s r).d+1,(aI s r).q,(aI s r).g⟩:=by
 unfold qQ
 dsimp only
 rw[hap]
theorem cA.step {p:Pg} {ls:List Ln} {s:St} (hC:d9 p ls) (h:cA p ls s) {r:Nat} (hr:r < ls.length) (hd:(aI s r).d < cI p r):cA p ls (qQ p ls s r):=by
 have hn:=hC.len
 obtain⟨l,hra⟩:∃ l,p.acts[r]?=some l:=⟨_,gEg (show r < p.acts.length by omega)⟩
 have hlen:=dP hra
 obtain⟨L,hL,hO⟩:=hC.get hra
 obtain⟨x,hx⟩:∃ x,l[(aI s r).d]?=some x:=⟨_,gEg (show(aI s r).d < l.length by omega)⟩
 have hap:=jL hra hx
 rw[xZ hap]
 have hq:=h.q r hr
 have hqi:=h.qi r hr
 have h1:cA p ls (YtkjoolaahocgdaaGreat.setP s r ⟨(aI s r).d+1,(aI s r).q,(aI s r).g⟩):=h.setP r hr _ hd (by show(aI s r).q.length≤(aI s r).d+1; omega) fun i hi=>by
  have:=hqi i hi
  exact⟨by show i < (aI s r).d+1; omega,this.2⟩
 by_cases k1:dW x.k=true
 ·rw[if_pos k1]
  refine h.setP r hr _ hd (by rw[List.length_append]; show(aI s r).q.length+1≤(aI s r).d+1; omega) fun i hi=>?_
  rcases List.mem_append.1 hi with hi | hi
  ·have:=hqi i hi
   exact⟨by show i < (aI s r).d+1; omega,this.2⟩
  ·rw[List.mem_singleton.1 hi,hap]
   exact⟨by show(aI s r).d < (aI s r).d+1; omega,k1⟩
 rw[if_neg k1]
 by_cases k2:x.k=6∨x.k=7
 ·rw[if_pos k2]
  obtain⟨a1,a2⟩:=ER hL hO hx k2
  exact h1.eff (r,(aI s r).d) hr (by rw[a1]; show((r:Int)).toNat < _; omega)
 rw[if_neg k2]
 by_cases k3:x.k=13∨x.k=14
 ·rw[if_pos k3]; exact h1.setL _ _
 rw[if_neg k3]
 by_cases k4:x.k=16
 ·rw[if_pos k4]; exact h1.setL _ _
 rw[if_neg k4]
 exact h1
theorem cA.cd {p:Pg} {ls:List Ln} {s:St} (hC:d9 p ls) (h:cA p ls s) {c:Cd} (hc:c∈eK p ls s):cA p ls (doP p ls s c):=by
 rcases oV hc with⟨r,h1,rfl,h2⟩ | ⟨r,k,i,h1,h2,rfl⟩
 ·exact h.step hC h1 (D7 (h.d r h1) h2)
 ·exact h.take hC h1 h2
def BE (p:Pg) (s:St) (r:Nat):Nat:=2 * (cI p r - (aI s r).d)+(aI s r).q.length
def jZ (p:Pg) (n:Nat) (s:St):Nat:=((List.range n).map (BE p s)).sum
theorem JH {n r:Nat} {f g:Nat→Nat} (hr:r < n) (h1:g r < f r) (h2:∀ j,j≠r→g j=f j):((List.range n).map g).sum < ((List.range n).map f).sum:=by
 induction n with
 | zero=>omega
 | succ n ih=>
  rw[List.range_succ,List.map_append,List.map_append,List.sum_append,List.sum_append]
  simp only[List.map_cons,List.map_nil,List.sum_cons,List.sum_nil]
  by_cases e:r=n
  ·subst e
   have:(List.range r).map g=(List.range r).map f:=List.map_congr_left fun j hj=>h2 j (by have:=List.mem_range.1 hj; omega)
   rw[this]
   omega
  ·have:=ih (by omega)
   rw[h2 n (fun e'=>e e'.symm)]
   omega
theorem B3 {p:Pg} {ls:List Ln} {s:St} {x:Pl} (h:x.1 < s.ps.length) (j:Nat):(aI (kP p ls s x) j).q=(aI s j).q∧(aI (kP p ls s x) j).d=(aI s j).d:=pV p ls s x h j
theorem HZ {p:Pg} {ls:List Ln} {s:St} (h:cA p ls s) {r k i:Nat} (hr:r < ls.length) (hk:(aI s r).q[k]?=some i):jZ p ls.length (BV p ls s r k i) < jZ p ls.length s:=by
 have hrs:r < s.ps.length:=by rw[h.pl]; exact hr
 have hs:=eD (s:=s) (x:=⟨(aI s r).d,(aI s r).q.eraseIdx k,(aI s r).g⟩) hrs
 have hkl:=(gEs.1 hk).1
 have he:=fun j=>B3 (p:=p) (ls:=ls) (s:=setP s r ⟨(aI s r).d,(aI s r).q.eraseIdx k,(aI s r).g⟩) (x:=(r,i)) (by unfold setP; simp; exact hrs) j
 have e:BV p ls s r k i=kP p ls (setP s r ⟨(aI s r).d,(aI s r).q.eraseIdx k,(aI s r).g⟩) (r,i):=rfl
 refine JH hr ?_ fun j hj=>?_
 ·unfold BE
  rw[e,(he r).1,(he r).2,hs,if_pos rfl]
  dsimp only
  rw[m4 hkl]
  omega
 ·unfold BE
  rw[e,(he j).1,(he j).2,hs,if_neg hj]
theorem G9 {p:Pg} {ls:List Ln} {s:St} (h:cA p ls s) {r:Nat} (hr:r < ls.length) (hd:(aI s r).d < cI p r):jZ p ls.length (qQ p ls s r) < jZ p ls.length s:=by
 have hrs:r < s.ps.length:=by rw[h.pl]; exact hr
 have key:∀ s':St,(∀ j,j≠r→(aI s' j).d=(aI s j).d∧(aI s' j).q=(aI s j).q)→(aI s' r).d=(aI s r).d+1→(aI s' r).q.length≤(aI s r).q.length+1→jZ p ls.length s' < jZ p ls.length s:=fun s' h1 h2 h3=>by
  refine JH hr ?_ fun j hj=>?_
  ·unfold BE
   rw[h2]
   omega
  ·unfold BE
   rw[(h1 j hj).1,(h1 j hj).2]
 have hs:=fun q g=>eD (s:=s) (x:=⟨(aI s r).d+1,q,g⟩) hrs
 have k0:∀ q g,q.length≤(aI s r).q.length+1→jZ p ls.length (setP s r ⟨(aI s r).d+1,q,g⟩) < jZ p ls.length s:=fun q g hq=>key _ (fun j hj=>by rw[hs,if_neg hj]; exact⟨rfl,rfl⟩) (by rw[hs,if_pos rfl]) (by rw[hs,if_pos rfl]; exact hq)
 rw[xZ rfl]
 split
 ·exact k0 _ _ (by simp)
 split
 ·have he:=fun j=>B3 (p:=p) (ls:=ls) (s:=setP s r ⟨(aI s r).d+1,(aI s r).q,(aI s r).g⟩) (x:=(r,(aI s r).d)) (by unfold setP; simp; exact hrs) j
  refine key _ (fun j hj=>?_) ?_ ?_
  ·rw[(he j).1,(he j).2,hs,if_neg hj]; exact⟨rfl,rfl⟩
  ·rw[(he r).2,hs,if_pos rfl]
  ·rw[(he r).1,hs,if_pos rfl]; exact Nat.le_succ _
 split
 ·exact k0 _ _ (Nat.le_succ _)
 split
 ·exact k0 _ _ (Nat.le_succ _)
 ·exact k0 _ _ (Nat.le_succ _)
theorem MQ {p:Pg} {ls:List Ln} {s:St} (h:cA p ls s) {c:Cd} (hc:c∈eK p ls s):jZ p ls.length (doP p ls s c) < jZ p ls.length s:=by
 rcases oV hc with⟨r,h1,rfl,h2⟩ | ⟨r,k,i,h1,h2,rfl⟩
 ·exact G9 h h1 (D7 (h.d r h1) h2)
 ·exact HZ h h1 h2
theorem HF {p:Pg} {ls:List Ln} {s:St} (h:eK p ls s=[]):stepS p ls s=none:=by
 unfold stepS
 split
 ·rfl
 ·rename_i c l e
  rw[h] at e
  cases e
theorem EC {p:Pg} {ls:List Ln} {s:St} {sd k:Nat} {c:Cd} (hsd:sd=jO s.seed) (hk:k=o6 sd (eK p ls s).length) (hc:(eK p ls s)[k]?=some c):stepS p ls s=some (doP p ls { s with seed:=sd } c):=by
 unfold stepS
 rw[← hsd]
 split
 ·rename_i h
  rw[h] at hc; simp at hc
 ·rename_i a l h
  rw[h] at hc hk
  have e:(a::l).getD (o6 sd (l.length+1)) a=c:=by
   rw[show l.length+1=(a::l).length from rfl,← hk,List.getD_eq_getElem?_getD,hc]
   rfl
  rw[e]
theorem cA.stepS {p:Pg} {ls:List Ln} {s s':St} (hC:d9 p ls) (h:cA p ls s) (he:stepS p ls s=some s'):cA p ls s'∧jZ p ls.length s' < jZ p ls.length s:=by
 obtain⟨sd,hsd⟩:∃ x,x=jO s.seed:=⟨_,rfl⟩
 have hlt:sd < 18446744073709551616:=by rw[hsd]; exact A7 _
 have h1:cA p ls { s with seed:=sd }:=h.sd' hlt
 unfold YtkjoolaahocgdaaGreat.stepS at he
 split at he
 ·cases he
 ·rename_i c l hcl
  rw[← hsd] at he
  obtain⟨k,hk⟩:∃ x,x=o6 sd (l.length+1):=⟨_,rfl⟩
  have hkl:k < l.length+1:=by rw[hk]; exact Nat.mod_lt _ (by omega)
  rw[← hk] at he
  injection he with he
  have hm:(c::l).getD k c∈eK p ls { s with seed:=sd }:=by
   show _∈eK p ls s
   rw[hcl,List.getD_eq_getElem?_getD,gEg (by simpa using hkl)]
   exact List.getElem_mem _
  generalize (c::l).getD k c=d at *
  subst he
  exact⟨h1.cd hC hm,MQ h1 hm⟩
theorem tO {p:Pg} {ls:List Ln} (hC:d9 p ls):∀(f g:Nat) (s:St),cA p ls s→jZ p ls.length s < f→jZ p ls.length s < g→AP p ls f s=AP p ls g s
 | 0,_,_,_,h,_=>by omega
 | _,0,_,_,_,h=>by omega
 | f+1,g+1,s,hS,hf,hg=>by
  rw[AP,AP]
  cases he:stepS p ls s with
  | none=>rfl
  | some s'=>
   obtain⟨h1,h2⟩:=hS.stepS hC he
   exact tO hC f g s' h1 (by omega) (by omega)
def jD (p:Pg) (ls:List Ln) (s:St):St:=AP p ls (jZ p ls.length s+1) s
theorem HM {p:Pg} {ls:List Ln} {s s':St} (hC:d9 p ls) (hS:cA p ls s) (he:stepS p ls s=some s'):jD p ls s=jD p ls s':=by
 obtain⟨h1,h2⟩:=hS.stepS hC he
 unfold jD
 rw[AP,he]
 exact tO hC _ _ s' h1 (by omega) (by omega)
theorem HK {p:Pg} {ls:List Ln} {s:St} (he:stepS p ls s=none):jD p ls s=s:=by
 unfold jD
 rw[AP,he]
def l0:List Blk:=[.cells 1 [[.sc (.slice none 0 0)]]]
theorem i9 {T:AV→AV→Prop} {ρ:Nat→Nat→Option (Nat×Nat)}:ToB T ρ nil3 nil3:=ToB.one (ToL.cons (.sc _) (ToL.cons (.sc _) (ToL.cons (.sc _) ToL.nil)))
theorem MX {T:AV→AV→Prop} {ρ:Nat→Nat→Option (Nat×Nat)}:ToB T ρ (.cells 1 [[.sc (.slice none 0 0)]]) (.cells 1 [[.sc (.slice none 0 0)]]):=ToB.one (ToL.cons (.sc _) ToL.nil)
theorem OL (p:Pg) (ls:List Ln) (s:St):aQ Tryz.prog 44 [.ptr 0 0 0 0] (worldH p ls s++[[nil3],l0]) fun res H'=>res=.clo (.func 65) [] [.cptr [.ptr 0 0 0 0]]∧H'=worldH p ls s++[[nil3],l0]:=by
 refine aQ.of cF44 ?_ (nlB rfl)
 unfold worldH aZ l0
 refine aA ?_
 refine wA (.clo (.func 65) [] [.cptr [.ptr 0 0 0 0]]) p ls s b4 b4 (cC ls.length s) [] [[(8,0)],[(9,0)]] [[nil3],l0] ⟨rfl,rfl⟩ rfl rfl rfl rfl rfl rfl rfl (bO fun i hi=>aO hi) dF ⟨⟨⟨_,rfl,i9⟩,trivial⟩,⟨⟨_,rfl,MX⟩,trivial⟩,trivial⟩ ⟨.c _ rfl rfl,.c _ rfl rfl,.c _ rfl rfl,.c _ rfl rfl,.w _ _ (Nat.le_of_eq (aM _ _)),.w _ _ (Nat.le_of_eq (aM _ _)),.w _ _ (Nat.le_of_eq (aM _ _)),.w _ _ (Nat.le_of_eq (aM _ _)),.c _ rfl rfl,.c _ rfl rfl,trivial⟩
def mF (p:Pg):Fr:=[(2,.cptr [.sc (.int .i64 p.cells),.list 1 (bY p.acts)]),(4,.ptr 8 0 0 0),(9,.ptr 0 0 0 0)]
theorem K7 (p:Pg) (ls:List Ln) (s:St) {n sd k:Nat} (hn:0 < n) (hn2:n≤1000000) (hsd:sd=jO s.seed) (hk:k=o6 sd n) (G:Heap):
  aQ Tryz.prog 45 [.ptr 0 0 0 0,.sc (.int .i64 (n:Int))] (worldH p ls s++G) fun res H'=>res=.sc (.int .i64 (k:Int))∧H'=worldH p ls { s with seed:=sd }++G:=by
 have h:=I5 p ls s hn hn2
 rw[← hsd,← hk] at h
 refine(aQ.more G (fC p ls s s) (R:=fun res H'=>res=.sc (.int .i64 (k:Int))∧H'=worldH p ls { s with seed:=sd }) (h.mono fun res H' h=>?_) fun a hm=>?_).mono fun res H' h=>?_
 ·obtain⟨rfl,rfl⟩:=h
  exact⟨.sc _,fC _ _ _ _,rfl,rfl⟩
 ·rcases List.mem_cons.1 hm with rfl | hm
  ·exact .ptr _ _ _ _ _ _ rfl
  ·rw[List.mem_singleton.1 hm]; exact .sc _
 ·obtain⟨H1,rfl,rfl,rfl⟩:=h
  exact⟨rfl,rfl⟩
def mG (out:List Cd):Heap:=[[nil3],lB 10 out.length,[.cells 1 (eN out)]]
theorem JG {p:Pg} {ls:List Ln} {s:St} {out:List Cd} {H':Heap} {N:Nat} {fr:Fr} (h:L8 p ls s (mG out) H')
  (hfr:∀(T:AV→AV→Prop) (ρ:Nat→Nat→Option (Nat×Nat)),ρ 0 0=some (0,0)→ρ 8 0=some (8,0)→aB T ρ fr (mF p)):Sub 0 N fr H' (mF p) (worldH p ls s++[[nil3]]):=by
 rcases h with rfl | ⟨r,hr,rfl⟩
 ·exact Sub.wgL p ls s b4 b4 (cC ls.length s) [] [] [[(8,0)]] [[nil3]] (hfr _ _ rfl rfl) rfl rfl rfl rfl rfl rfl rfl (bO fun i hi=>aO hi) dF ⟨⟨⟨_,rfl,i9⟩,trivial⟩,trivial⟩ trivial
 ·refine Sub.toK [] (wKg ls.length (.r 4 ls.length r (11,0)) [[(8,0)]]) (hfr _ _ rfl rfl) (zT (b:=bX r 11) (b':=b4) rfl rfl rfl rfl rfl ?_ (fun i hi=>aO hi) (fun i hi=>aO hi) (fun i hi=>aO hi) (fun j hj=>rho_r rfl hj) ⟨⟨⟨_,rfl,i9⟩,trivial⟩,trivial⟩) trivial
  refine aY.ofR (fun i hi hne=>⟨_,aO hi,?_⟩) fun _=>⟨_,rfl,ToB.rows rfl (prs _)⟩
  rw[if_neg hne]
  exact ToB.rows rfl (prs _)
theorem M6 (p:Pg) (ls:List Ln) (s:St):Ren (idH (worldH p ls s)) (.cptr [.ptr 0 0 0 0]) (.cptr [.ptr 0 0 0 0]):=.cptr _ _ rfl (Ren.selfW fun x hx=>by
 rw[List.mem_singleton.1 hx]
 exact .ptr _ _ _ _ _ _ rfl)
theorem t6 {ρ:Nat→Nat→Option (Nat×Nat)} (n:Nat):Ren ρ (.cptr [.sc (.int .i64 (n:Int))]) (.cptr [.sc (.int .i64 (n:Int))]):=.pure (pv _)
theorem OC {p:Pg} {ls:List Ln} {s:St} (hC:d9 p ls) (hS:cA p ls s) (G:Heap) {r:Nat} (h:Cd.act r∈eK p ls s):aQ Tryz.prog 67 [.cptr [.ptr 0 0 0 0],.cptr [.sc (.int .i64 (r:Int))]] (worldH p ls s++G) fun res H'=>res=.tup []∧L8 p ls (doP p ls s (.act r)) G H':=by
 rcases oV h with⟨r',h1,h2,h3⟩ | ⟨r',k',i',h1,h2,h3⟩
 ·injection h2 with h2
  subst h2
  refine ET G (N7 hC hS h1 (D7 (hS.d _ h1) h3)) fun a ha=>?_
  rcases List.mem_cons.1 ha with rfl | ha
  ·exact M6 _ _ _
  ·rw[List.mem_singleton.1 ha]; exact t6 _
 ·cases h3
theorem MT {p:Pg} {ls:List Ln} {s:St} (hC:d9 p ls) (hS:cA p ls s) (G:Heap) {r k i:Nat} (h:Cd.take r k i∈eK p ls s):aQ Tryz.prog 69 [.cptr [.ptr 0 0 0 0],.cptr [.sc (.int .i64 (r:Int))],.cptr [.sc (.int .i64 (k:Int))],.cptr [.sc (.int .i64 (i:Int))]] (worldH p ls s++G) fun res H'=>res=.tup []∧L8 p ls (doP p ls s (.take r k i)) G H':=by
 rcases oV h with⟨r',h1,h2,h3⟩ | ⟨r',k',i',h1,h2,h3⟩
 ·cases h2
 ·injection h3 with e1 e2 e3
  subst e1; subst e2; subst e3
  refine ET G (LD hC hS h1 h2) fun a ha=>?_
  simp only[List.mem_cons,List.not_mem_nil,or_false] at ha
  rcases ha with rfl | rfl | rfl | rfl
  ·exact M6 _ _ _
  ·exact t6 _
  ·exact t6 _
  ·exact t6 _
set_option maxHeartbeats 16000000 in
theorem NO {p:Pg} {ls:List Ln} {s:St} (hC:d9 p ls) (hp:POK p) (hS:cA p ls s) (Q:Exit→Fr→Heap→Prop)
  (hstop:stepS p ls s=none→∀ fr H,Sub 0 F18.n fr H (mF p) (worldH p ls s++[[nil3]])→Q (.exit 2) fr H)
  (hstep:∀ s',stepS p ls s=some s'→∀ fr H,Sub 0 F18.n fr H (mF p) (worldH p ls s'++[[nil3]])→Q .normal fr H):
  AWP Tryz.prog F18.n 0 (aG [1,1,1,1,1,0,0,0] F18.code) Q (mF p) (worldH p ls s++[[nil3]]):=by
 show AWP _ _ _ (.block _ _) _ _ _
 have hcl:=uQ hC hS (f5 p ls s ls.length) ls.length (Nat.le_refl _)
 have hal:=oO p ls s ls.length
 have hn64:=hC.n64
 have hn:=hC.len
 have hol:(eK p ls s).length≤1000000:=by
  show(nL p ls s (f5 p ls s ls.length) ls.length).length≤_
  omega
 unfold mF
 refine AWP.block ?_
 refine AWP.seq ?_
 refine AWP.region ?_
 refine bI ?_
 refine AWP.seq ?_
 refine AWP.seq ?_
 refine AWP.region ?_
 refine bI ?_
 refine Reg.c (Nat.zero_le _) rfl ((OL p ls s).mono ?_)
 rintro res H' ⟨rfl,rfl⟩
 refine Reg.nil ?_
 refine AWP.block ?_
 refine AWP.sub (fr':=c7 p) (H':=worldH p ls s++[[nil3],l0]) ?_ ?_
 ·unfold c7
  refine Sub.wgL p ls s b4 b4 (cC ls.length s) [] [] [[(8,0)],[(9,0)]] [[nil3],l0] ?_ rfl rfl rfl rfl rfl rfl rfl (bO fun i hi=>aO hi) dF ⟨⟨⟨_,rfl,i9⟩,trivial⟩,⟨⟨_,rfl,MX⟩,trivial⟩,trivial⟩ trivial
  (all_goals exact eP)
 refine AWP.rangeF (g:=65) (fs:=[]) (cs:=[.cptr [.ptr 0 0 0 0]]) rfl (Nat.zero_le _) rfl fun L hL=>?_
 refine(KU hC hp hS L hL).mono ?_
 rintro _ H' rfl
 refine⟨_,_,none,rfl,by decide,?_⟩
 show AWP Tryz.prog F18.n 0 (.seq (.seq _ _) _) _ _ _
 refine AWP.sub (fr':=(10,.ptr 9 0 0 0)::mF p) (H':=worldH p ls s++mG (eK p ls s)) ?_ ?_
 ·unfold c7 mF mG
  refine Sub.wgL p ls s b4 b4 (cC ls.length s) [] [] [[(8,0)],[(9,0)],[(11,0)]] [[nil3],lB 10 (eK p ls s).length,[.cells 1 (eN (eK p ls s))]] ?_ rfl rfl rfl rfl rfl rfl rfl (bO fun i hi=>aO hi) dF ⟨⟨⟨_,rfl,i9⟩,trivial⟩,⟨⟨_,rfl,ToB.one (ToL.cons (To.hslL rfl rfl) ToL.nil)⟩,trivial⟩,⟨⟨_,rfl,ToB.cds rfl _⟩,trivial⟩,trivial⟩ trivial
  (all_goals exact eP)
 have hcm:=fun c (h:c∈eK p ls s)=>h
 have hcd:∀ sd,eK p ls { s with seed:=sd }=eK p ls s:=fun _=>rfl
 generalize hcs:eK p ls s=cs at *
 have hrl:=vA cs
 unfold mF
 refine AWP.seq ?_
 refine AWP.seq ?_
 refine AWP.region ?_
 refine bI ?_
 refine AWP.condD rfl (fun h0=>?_) (fun h0=>?_)
 ·refine AWP.exit ?_
  have hnil:cs=[]:=List.length_eq_zero_iff.1 h0
  refine hstop (HF (by rw[hcs]; exact hnil)) _ _ ?_
  refine Sub.wgL p ls s b4 b4 (cC ls.length s) [] [] [[(8,0)]] [[nil3]] ?_ rfl rfl rfl rfl rfl rfl rfl (bO fun i hi=>aO hi) dF ⟨⟨⟨_,rfl,i9⟩,trivial⟩,trivial⟩ trivial
  unfold mF
  (all_goals exact eP)
 ·refine AWP.skip ?_
  have hpos:0 < cs.length:=by omega
  obtain⟨sd,hsd⟩:∃ x,x=jO s.seed:=⟨_,rfl⟩
  obtain⟨k,hk⟩:∃ x,x=o6 sd cs.length:=⟨_,rfl⟩
  have hkl:k < cs.length:=by rw[hk]; exact Nat.mod_lt _ hpos
  have hsdl:sd < 18446744073709551616:=by rw[hsd]; exact A7 _
  have hbel:=K7 p ls s hpos hol hsd hk (mG cs)
  have hS':cA p ls { s with seed:=sd }:=hS.sd' hsdl
  have hgc:=gEg hkl
  have hst:=EC (p:=p) (ls:=ls) (s:=s) (sd:=sd) (k:=k) (c:=cs[k]) hsd (by rw[hcs]; exact hk) (by rw[hcs]; exact hgc)
  have hmem:cs[k]∈eK p ls { s with seed:=sd }:=by rw[hcd]; exact List.getElem_mem hkl
  have hrow:(eN cs)[k]?=some [cdV cs[k]]:=by unfold eN; rw[List.getElem?_map,hgc]; rfl
  generalize cs[k]=c at *
  cases c with
  | act r=>
   have hca:=OC hC hS' (mG cs) hmem
   (unfold cdV at hrow; refine AWP.lin [(true,0),(true,1),(true,2),(true,3),(false,4),(true,5),(true,6),(false,7)] mixed (by kernel_rfl) (by kernel_rfl) ?_; refine pJ ?_; refine RT.cc (Nat.zero_le _) rfl hbel ?_; rintro res H' ⟨rfl,rfl⟩; refine⟨(by repeat (first | exact trivial | exact bD.refl _ _ | refine And.intro rfl ?_)),?_⟩; refine pJ ?_; refine RT.cv (Nat.zero_le _) rfl rfl hca ?_; rintro res H' ⟨rfl,hw⟩; refine⟨trivial,?_⟩; refine pJ ?_; refine hstep _ hst _ _ (JG hw fun T ρ r0 r8=>?_); unfold mF; (refine aB.cons ?_ (aB.cons ?_ (aB.cons ?_ aB.nil)); exact To.pure (pv (.cptr [.sc (.int .i64 p.cells),.list 1 (bY p.acts)])); exact To.ptrO r8 rfl rfl; exact To.ptrO r0 rfl rfl))
  | take r k2 i=>
   have hca:=MT hC hS' (mG cs) hmem
   (unfold cdV at hrow; refine AWP.lin [(true,0),(true,1),(true,2),(true,3),(false,4),(true,5),(true,6),(false,7)] mixed (by kernel_rfl) (by kernel_rfl) ?_; refine pJ ?_; refine RT.cc (Nat.zero_le _) rfl hbel ?_; rintro res H' ⟨rfl,rfl⟩; refine⟨(by repeat (first | exact trivial | exact bD.refl _ _ | refine And.intro rfl ?_)),?_⟩; refine pJ ?_; refine RT.cv (Nat.zero_le _) rfl rfl hca ?_; rintro res H' ⟨rfl,hw⟩; refine⟨trivial,?_⟩; refine pJ ?_; refine hstep _ hst _ _ (JG hw fun T ρ r0 r8=>?_); unfold mF; (refine aB.cons ?_ (aB.cons ?_ (aB.cons ?_ aB.nil)); exact To.pure (pv (.cptr [.sc (.int .i64 p.cells),.list 1 (bY p.acts)])); exact To.ptrO r8 rfl rfl; exact To.ptrO r0 rfl rfl))
def st0 (p:Pg) (n seed:Nat):St:=⟨seed,List.replicate n pr0,List.replicate n (List.replicate p.cells.toNat 0),List.replicate n []⟩
theorem qZ (p:Pg) (n seed r:Nat):aI (st0 p n seed) r=pr0:=by
 unfold aI st0
 simp only[List.getElem?_replicate]
 split<;>rfl
theorem xU {p:Pg} {n seed r:Nat} (h:r < n):bC (st0 p n seed) r=List.replicate p.cells.toNat 0:=by
 unfold bC st0
 simp only[List.getElem?_replicate]
 rw[if_pos h]
 rfl
theorem C1 (p:Pg) (n seed r:Nat):dG (st0 p n seed) r=[]:=by
 unfold dG st0
 simp only[List.getElem?_replicate]
 split<;>rfl
theorem cA.st0 {p:Pg} {ls:List Ln} {seed:Nat} (hs:seed < 18446744073709551616):cA p ls (st0 p ls.length seed):=by
 refine⟨hs,List.length_replicate,List.length_replicate,List.length_replicate,fun r _=>?_,fun r _=>?_,fun r _ i hi=>?_,fun r hr=>?_⟩
 ·rw[qZ]; exact Nat.zero_le _
 ·rw[qZ]; exact Nat.zero_le _
 ·rw[qZ] at hi; cases hi
 ·rw[xU hr,List.length_replicate]
theorem CR (r:Nat) (s:St) (b:Nat→Nat×Nat):procsH (r+1) s b=procsH r s b++[[.sc (.int .i64 ((aI s r).d:Int)),.hsl (b r).1 (b r).2 0 (aI s r).q.length,.mref 5 r]]:=by
 unfold procsH
 rw[List.range_succ,List.map_append]
 rfl
theorem sK (r:Nat) (f:Nat→AV):row1 (r+1) f=row1 r f++[[f r]]:=by
 unfold row1
 rw[List.range_succ,List.map_append]
 rfl
def sH (p:Pg) (ls:List Ln) (s:St) (a b c:Nat):Heap:=
 [[.cells 5 [[ckV p ls,.sc (.int .u64 (s.seed:Int)),.hsl 1 0 0 a,.hsl 2 0 0 b,.hsl 3 0 0 c]]],[.cells 3 (procsH a s b4)],[.cells 1 (memH b s)],[.cells 1 (heldH c)],cC a s,iB a s,jV b s,fP c s,[nil3]]
def sF (p:Pg) (n r:Nat):Fr:=[(2,.cptr [.sc (.int .i64 p.cells),.list 1 (bY p.acts)]),(4,.ptr 8 0 0 0),(9,.ptr 0 0 0 0),(35,.sc (.int .i64 (n:Int))),(36,.sc (.int .i64 (r:Int)))]
def sC:dB:=aG [1,1,1,1,0,1,0,0,1,1,0,0] F18.code
theorem N6 {T:AV→AV→Prop} {ρ:Nat→Nat→Option (Nat×Nat)} {p:Pg} {ls:List Ln} {seed:Nat} {a b c g1 i1 g2 i2 g3 i3:Nat} (r1:ρ 1 0=some (g1,i1)) (r2:ρ 2 0=some (g2,i2)) (r3:ρ 3 0=some (g3,i3)):
  ToB T ρ (.cells 5 [[ckV p ls,.sc (.int .u64 (seed:Int)),.hsl g1 i1 0 a,.hsl g2 i2 0 b,.hsl g3 i3 0 c]]) (.cells 5 [[ckV p ls,.sc (.int .u64 (seed:Int)),.hsl 1 0 0 a,.hsl 2 0 0 b,.hsl 3 0 0 c]]):=
 ToB.one (ToL.cons (.pure (pv (ckV p ls))) (ToL.cons (.sc _) (ToL.cons (To.hslL r1 rfl) (ToL.cons (To.hslL r2 rfl) (ToL.cons (To.hslL r3 rfl) ToL.nil)))))
set_option maxHeartbeats 16000000 in
theorem N8 {p:Pg} {ls:List Ln} {s:St} (r n:Nat) (hn:r < 64) (hpr:aI s r=pr0) (Q:Exit→Fr→Heap→Prop) (h:AWP Tryz.prog F18.n 0 (aG [1] sC) Q (sF p n r) (sH p ls s (r+1) r r)):
  AWP Tryz.prog F18.n 0 sC Q (sF p n r) (sH p ls s r r r):=by
 show AWP _ _ _ (.seq (.region _) _) _ _ _
 have hl1:=eU r s b4
 unfold sF sH
 refine AWP.seq ?_
 refine AWP.region ?_
 refine bI ?_
 refine AWP.sub ?_ h
 unfold sF sH
 refine Sub.toK [1] [.c [(0,0)],.c [(11,0)],.c [(2,0)],.c [(3,0)],.w 4 r [(12,0)],.w 5 r [(9,0)],.w 6 r [],.w 7 r [],.c [(8,0)]] ?_ ⟨⟨⟨_,rfl,N6 rfl rfl rfl⟩,trivial⟩,⟨⟨_,rfl,?_⟩,trivial⟩,⟨⟨_,rfl,ToB.memH fun j hj=>c9 rfl hj⟩,trivial⟩,⟨⟨_,rfl,ToB.heldH fun j hj=>c9 rfl hj⟩,trivial⟩,?_,?_,?_,?_,⟨⟨_,rfl,i9⟩,trivial⟩,trivial⟩ trivial
 ·(all_goals exact eP)
 ·rw[CR,hpr]
  refine ToB.rowsR (ToR.append (ToR.map fun j hj=>?_) (ToR.cons (ToL.cons (.sc _) (ToL.cons (To.nil (wC (n:=r) (i:=0) rfl rfl) rfl rfl) (ToL.cons (To.mrefO (wC (n:=r) (i:=0) rfl rfl)) ToL.nil))) ToR.nil))
  have hj:=List.mem_range.1 hj
  exact ToL.cons (.sc _) (ToL.cons (To.hslL (c9 rfl hj) rfl) (ToL.cons (To.mrefO (c9 rfl hj)) ToL.nil))
 ·exact aY.famS (fun j hj=>⟨_,aO hj,ToB.rows rfl (prs _)⟩) rfl (by rw[hpr]; exact ToB.rows rfl (prs _))
 ·exact aY.famS (fun j hj=>⟨_,aO hj,ToB.retE _⟩) rfl (by rw[hpr]; exact ToB.retE [])
 ·exact aY.ofFam fun j hj=>⟨_,aO hj,ToB.rows rfl (prs _)⟩
 ·exact aY.ofFam fun j hj=>⟨_,aO hj,ToB.retE _⟩
set_option maxHeartbeats 16000000 in
theorem OG {p:Pg} {ls:List Ln} {s:St} (r n c:Nat) (hn:r < 64) (hc:p.cells=(c:Int)) (hc64:c≤64) (hme:bC s r=List.replicate c 0) (Q:Exit→Fr→Heap→Prop) (h:AWP Tryz.prog F18.n 0 (aG [1,1] sC) Q (sF p n r) (sH p ls s (r+1) (r+1) r)):
  AWP Tryz.prog F18.n 0 (aG [1] sC) Q (sF p n r) (sH p ls s (r+1) r r):=by
 show AWP _ _ _ (.seq (.draw _ _) _) _ _ _
 have hl1:=oG r s
 unfold sF sH at h ⊢
 rw[hc] at h ⊢
 refine AWP.seq ?_
 refine AWP.dk mixed ?_
 refine aA ?_
 refine DK.o rfl (uX (n:=c) rfl (by omega) (by omega)) ?_
 refine aA ?_
 refine DK.nil ⟨by kernel_rfl,?_⟩
 refine AWP.sub ?_ h
 refine Sub.toK [] [.c [(0,0)],.c [(1,0)],.c [(9,9)],.c [(3,0)],.w 4 (r+1) [],.w 5 (r+1) [],.w 6 r [(9,7)],.w 7 r [],.c [(8,0)]] ?_ ⟨⟨⟨_,rfl,N6 rfl rfl rfl⟩,trivial⟩,⟨⟨_,rfl,ToB.procsH (fun j hj=>c9 rfl hj) fun j hj=>c9 rfl hj⟩,trivial⟩,⟨⟨_,rfl,?_⟩,trivial⟩,⟨⟨_,rfl,ToB.heldH fun j hj=>c9 rfl hj⟩,trivial⟩,?_,?_,?_,?_,⟨⟨_,rfl,i9⟩,trivial⟩,trivial⟩ trivial
 ·(all_goals exact eP)
 ·unfold memH
  rw[sK,hme,List.length_replicate]
  refine ToB.rowsR (ToR.append (ToR.map fun j hj=>?_) (ToR.cons (ToL.cons (To.hslL (wC (n:=r) (i:=0) rfl rfl) rfl) ToL.nil) ToR.nil))
  exact ToL.cons (To.hslL (c9 rfl (List.mem_range.1 hj)) rfl) ToL.nil
 ·exact aY.ofFam fun j hj=>⟨_,aO hj,ToB.rows rfl (prs _)⟩
 ·exact aY.ofFam fun j hj=>⟨_,aO hj,ToB.retE _⟩
 ·refine aY.famS (fun j hj=>⟨_,aO hj,ToB.rows rfl (prs _)⟩) rfl ?_
  rw[hme,show bE (List.replicate c 0)=List.replicate c (fF [(1,Value.int .i64 0)]) by unfold bE; rw[List.map_replicate]; rfl]
  exact ToB.rows rfl (fun l hl x hx=>by rw[List.eq_of_mem_replicate hl] at hx; rw[List.mem_singleton.1 hx]; exact .sc _)
 ·exact aY.ofFam fun j hj=>⟨_,aO hj,ToB.retE _⟩
set_option maxHeartbeats 16000000 in
theorem OE {p:Pg} {ls:List Ln} {s:St} (r n:Nat) (hn:r < 64) (hhe:dG s r=[]) (Q:Exit→Fr→Heap→Prop) (h:∀ fr H,Sub 0 F18.n fr H (sF p n r) (sH p ls s (r+1) (r+1) (r+1))→Q .normal fr H):
  AWP Tryz.prog F18.n 0 (aG [1,1] sC) Q (sF p n r) (sH p ls s (r+1) (r+1) r):=by
 show AWP _ _ _ (.region _) _ _ _
 have hl1:=lS r
 unfold sF sH at *
 refine AWP.region ?_
 refine bI ?_
 refine h _ _ ?_
 refine Sub.toK [] [.c [(0,0)],.c [(1,0)],.c [(2,0)],.c [(11,0)],.w 4 (r+1) [],.w 5 (r+1) [],.w 6 (r+1) [],.w 7 r [(9,0)],.c [(8,0)]] ?_ ⟨⟨⟨_,rfl,N6 rfl rfl rfl⟩,trivial⟩,⟨⟨_,rfl,ToB.procsH (fun j hj=>c9 rfl hj) fun j hj=>c9 rfl hj⟩,trivial⟩,⟨⟨_,rfl,ToB.memH fun j hj=>c9 rfl hj⟩,trivial⟩,⟨⟨_,rfl,?_⟩,trivial⟩,?_,?_,?_,?_,⟨⟨_,rfl,i9⟩,trivial⟩,trivial⟩ trivial
 ·(all_goals exact eP)
 ·unfold heldH
  rw[sK]
  refine ToB.rowsR (ToR.append (ToR.map fun j hj=>?_) (ToR.cons (ToL.cons (To.mrefO (wC (n:=r) (i:=0) rfl rfl)) ToL.nil) ToR.nil))
  exact ToL.cons (To.mrefO (c9 rfl (List.mem_range.1 hj))) ToL.nil
 ·exact aY.ofFam fun j hj=>⟨_,aO hj,ToB.rows rfl (prs _)⟩
 ·exact aY.ofFam fun j hj=>⟨_,aO hj,ToB.retE _⟩
 ·exact aY.ofFam fun j hj=>⟨_,aO hj,ToB.rows rfl (prs _)⟩
 ·exact aY.famS (fun j hj=>⟨_,aO hj,ToB.retE _⟩) rfl (by rw[hhe]; exact ToB.retE [])
def jH (g:List (Nat×Int)) (m:Nat):List Int:=(List.range m).filterMap fun i=>cS i g
theorem EN (g:List (Nat×Int)) (m:Nat):jH g (m+1)=match cS m g with | some v=>jH g m++[v] | none=>jH g m:=by
 unfold jH
 rw[List.range_succ,List.filterMap_append]
 cases h:cS m g with
 | none=>simp[h]
 | some v=>simp[h]
theorem HI (g:List (Nat×Int)) (m:Nat):(jH g m).length≤m:=by
 unfold jH
 refine Nat.le_trans (List.length_filterMap_le _ _) ?_
 rw[List.length_range]
 exact Nat.le_refl _
def mH (p:Pg) (s:St) (r:Nat):List Int:=jH (aI s r).g (cI p r)
def sM (p:Pg) (s:St) (r:Nat):Bool:=decide ((aI s r).d < cI p r)
def eC (p:Pg) (s:St) (n:Nat):List Nat:=(List.range n).filter (sM p s)
theorem BL (p:Pg) (s:St) (n:Nat):eC p s (n+1)=if sM p s n=true then eC p s n++[n] else eC p s n:=by
 unfold eC
 rw[List.range_succ,List.filter_append]
 by_cases h:sM p s n=true
 ·rw[if_pos h]; simp[h]
 ·rw[if_neg h]; simp[h]
theorem DB (p:Pg) (s:St) (n:Nat):(eC p s n).length≤n:=by
 unfold eC
 refine Nat.le_trans (List.length_filter_le _ _) ?_
 rw[List.length_range]
 exact Nat.le_refl _
def nN (p:Pg) (s:St) (n:Nat):List (List AV):=row1 n fun r=>.list 1 (bE (mH p s r))
instance (p:Pg) (s:St) (n:Nat):PRs (nN p s n):=inferInstanceAs (PRs (row1 n fun r=>AV.list 1 (bE (mH p s r))))
def BO (p:Pg) (s:St) (n:Nat):AV:=.tup [.agg [.list 1 (nN p s n),.list 1 (wG n s),.list 1 (bF (eC p s n))],.sc (.int .i64 0)]
def rF (p:Pg) (ls:List Ln) (s:St) (r:Nat):Fr:=[(2,.cptr [.sc (.int .i64 p.cells),.list 1 (bY p.acts)]),(4,.ptr 0 0 0 0),(12,.ptr 1 0 0 0),(98,.list 3 (kI ls.length s)),(99,.sc (.int .i64 (ls.length:Int))),(100,.sc (.int .i64 (r:Int)))]
def rH (p:Pg) (ls:List Ln) (s:St) (r:Nat):Heap:=[[nil3],[.cells 3 [[.hsl 2 0 0 r,.list 1 (wG ls.length s),.hsl 3 0 0 (eC p s r).length]]],[.cells 1 (nN p s r)],[.cells 1 (bF (eC p s r))]]
theorem To.worldS {n:Nat} {S:Nat→Nat→Bool} (hS:∀ g i,g < 8→S g i=true) {p:Pg} {ls:List Ln} {s:St} {H:Heap} {ρ:Nat→Nat→Option (Nat×Nat)} (h0:hget H 0 0=some (.cells 5 [boxW p ls s.seed])) (h1:hget H 1 0=some (.cells 3 (procsH ls.length s b4))) (h2:hget H 2 0=some (.cells 1 (memH ls.length s)))
  (h3:hget H 3 0=some (.cells 1 (heldH ls.length))) (h4:∀ r,r < ls.length→hget H 4 r=some (.cells 1 (bF (aI s r).q))) (h5:∀ r,r < ls.length→hget H 5 r=some (.map (retE (aI s r).g)))
  (h6:∀ r,r < ls.length→hget H 6 r=some (.cells 1 (bE (bC s r)))) (h7:∀ r,r < ls.length→hget H 7 r=some (.map (retE (dG s r)))):To (ToT H n S) ρ (.ptr 0 0 0 0) (cJ p ls s):=by
 refine To.fzp h0 (hS _ _ (by decide)) rfl ?_
 unfold boxW
 refine To.cptrL (ToL.cons (.pure (pv _)) (ToL.cons (.sc _) (ToL.cons ?_ (ToL.cons ?_ (ToL.cons ?_ ToL.nil)))))
 ·refine To.fzT h1 (hS _ _ (by decide)) (eU _ _ _) (To.listR ?_)
  unfold procsH kI
  refine ToR.map fun r hr=>?_
  have hr:=List.mem_range.1 hr
  exact ToL.cons (.sc _) (ToL.cons (To.fz (h4 r hr) (hS 4 r (by decide)) (bZ _) rfl (prs _)) (ToL.cons (To.fzm (h5 r hr) (hS _ _ (by decide)) (.pure (pv (.tmap (retE (aI s r).g))))) ToL.nil))
 ·refine To.fzT h2 (hS _ _ (by decide)) (oG _ _) (To.row1 fun r hr=>?_)
  exact To.fz (h6 r hr) (hS _ _ (by decide)) (cD _) rfl (prs _)
 ·refine To.fzT h3 (hS _ _ (by decide)) (lS _) (To.row1 fun r hr=>?_)
  exact To.fzm (h7 r hr) (hS _ _ (by decide)) (.pure (pv (.tmap (retE (dG s r)))))
set_option maxHeartbeats 16000000 in
theorem resR {p:Pg} {ls:List Ln} {s:St} (hC:d9 p ls) (_:cA p ls s):
  AWP Tryz.prog F18.n 0 (aG [1,1,1,1,1,1] F18.code) (aW F18.res (BO p s ls.length)) (mF p) (worldH p ls s++[[nil3]]):=by
 show AWP _ _ _ (.seq (.region _) _) _ _ _
 have hn:=hC.len
 have h64:=hC.n64
 have e1:=iN p.acts
 have e0:=DH ls.length s
 refine AWP.sub (fr':=[(2,.cptr [.sc (.int .i64 p.cells),.list 1 (bY p.acts)]),(4,.ptr 0 0 0 0),(9,cJ p ls s)]) (H':=[[nil3]]) ?_ ?_
 ·unfold mF
  refine Sub.to [] [[(8,0)]] ?_ ⟨⟨⟨_,rfl,i9⟩,trivial⟩,trivial⟩ rfl rfl rfl
  refine aB.cons (To.pure (pv (.cptr [.sc (.int .i64 p.cells),.list 1 (bY p.acts)]))) (aB.cons (To.ptrO rfl rfl rfl) (aB.cons ?_ aB.nil))
  exact To.worldS (fun g i hg=>by
   unfold eA
   have e:Nat.beq g 8=false:=Bool.eq_false_iff.2 fun h=>by have:=Nat.eq_of_beq_eq_true h; omega
   simp[DO,e]) rfl rfl rfl rfl (fun _ hr=>aO hr) (fun _ hr=>aO hr) (fun _ hr=>aO hr) fun _ hr=>aO hr
 have hw:PV (cJ p ls s):=inferInstance
 unfold cJ nil3
 refine aA ?_
 rw[e0]
 refine AWP.loop (fun r:Nat=>rF p ls s r) (fun r=>rH p ls s r) (fun r=>r≤ls.length) (fun r=>ls.length - r) 0 (Nat.zero_le _) ?_ ?_
 ·unfold rF rH nil3
  show Sub _ _ _ _ _ [[.cells 3 [[.sc (.slice none 0 0),.sc (.slice none 0 0),.sc (.slice none 0 0)]]],[.cells 3 [[.hsl 2 0 0 0,.list 1 (wG ls.length s),.hsl 3 0 0 0]]],[.cells 1 []],[.cells 1 []]]
  exact Sub.w [1,1] [[(0,0)],[(1,0)],[(2,0)],[(3,0)]]
 rintro r hr
 unfold rF
 refine AWP.seq ?_
 refine AWP.region ?_
 refine bI ?_
 refine AWP.seq ?_
 refine AWP.condD rfl (fun hrl=>?_) (fun hge=>?_)
 ·obtain⟨l,hra⟩:∃ l,p.acts[r]?=some l:=⟨_,gEg (show r < p.acts.length by omega)⟩
  have hlen:=dP hra
  have hrow:=gX hra
  have e2:=fW l
  have hpr:=mK (s:=s) hrl
  have hl100:l.length≤100:=by
   obtain⟨L,hL,hO⟩:=hC.get hra
   exact hO.len
  have hsl:=DB p s r
  have hss:=BL p s r
  have hvl:mH p s r=jH (aI s r).g l.length:=by unfold mH; rw[hlen]
  have hv1:nN p s (r+1)=nN p s r++[[.list 1 (bE (mH p s r))]]:=sK _ _
  have hvrl:(nN p s r).length=r:=dA _ _
  have hsb:sM p s r=decide ((aI s r).d < l.length):=by unfold sM; rw[hlen]
  unfold prV at hpr
  have hlk:=fun i=>sR i (aI s r).g
  unfold rH nil3
  refine aA ?_
  rw[e2]
  refine AWP.loop (fun k:Nat=>[(2,.cptr [.sc (.int .i64 p.cells),.list 1 (bY p.acts)]),(4,.ptr 0 0 0 0),(12,.ptr 1 0 0 0),(98,.list 3 (kI ls.length s)),(99,.sc (.int .i64 (ls.length:Int))),(100,.sc (.int .i64 (r:Int))),(13,.sc (.int .i64 (r:Int))),(14,.cptr [.sc (.int .i64 ((aI s r).d:Int)),.list 1 (bF (aI s r).q),.tmap (retE (aI s r).g)]),(15,.hsl 4 0 0 (jH (aI s r).g k).length),(110,.sc (.int .i64 (l.length:Int))),(111,.sc (.int .i64 (k:Int)))])
   (fun k=>[[nil3],[.cells 3 [[.hsl 2 0 0 r,.list 1 (wG ls.length s),.hsl 3 0 0 (eC p s r).length]]],[.cells 1 (nN p s r)],[.cells 1 (bF (eC p s r))],[.cells 1 (bE (jH (aI s r).g k))]]) (fun k=>k≤l.length) (fun k=>l.length - k) 0 (Nat.zero_le _) ?_ ?_
  ·unfold nil3
   show Sub _ _ _ _ _ [_,_,_,_,[.cells 1 []]]
   exact Sub.w [1] [[(0,0)],[(1,0)],[(2,0)],[(3,0)],[(5,0)]]
  ·intro k hk
   have hvs:=EN (aI s r).g k
   have hgl:=HI (aI s r).g k
   have hil:=cD (jH (aI s r).g k)
   unfold nil3
   refine AWP.seq ?_
   refine AWP.region ?_
   refine bI ?_
   refine AWP.seq ?_
   refine AWP.condD rfl (fun hkl=>?_) (fun hge=>?_)
   ·have hlk:=hlk k
    cases hv:cS k (aI s r).g with
    | none=>
     rw[hv] at hlk hvs
     refine aA ?_
     refine Reg.o rfl (bS rfl rfl hlk) ?_
     refine aA ?_
     refine⟨k+1,by omega,by omega,?_⟩
     rw[show jH (aI s r).g (k+1)=jH (aI s r).g k from hvs]
     exact Sub.w [] [[(0,0)],[(1,0)],[(2,0)],[(3,0)],[(4,0)]]
    | some v=>
     rw[hv] at hlk hvs
     refine aA ?_
     refine Reg.o rfl (bS rfl rfl hlk) ?_
     refine aA ?_
     refine⟨k+1,by omega,by omega,?_⟩
     rw[show jH (aI s r).g (k+1)=jH (aI s r).g k++[v] from hvs,show bE (jH (aI s r).g k++[v])=bE (jH (aI s r).g k)++[[.sc (.int .i64 v)]] by simp[bE],List.length_append]
     exact Sub.w [] [[(0,0)],[(1,0)],[(2,0)],[(3,0)],[(6,0)]]
   ·have e:k=l.length:=by omega
    subst e
    rw[← hvl] at hgl hil ⊢
    refine AWP.exit ?_
    refine AWP.sub (fr':=[(2,.cptr [.sc (.int .i64 p.cells),.list 1 (bY p.acts)]),(4,.ptr 0 0 0 0),(12,.ptr 1 0 0 0),(98,.list 3 (kI ls.length s)),(99,.sc (.int .i64 (ls.length:Int))),(100,.sc (.int .i64 (r:Int))),(13,.sc (.int .i64 (r:Int))),(14,.cptr [.sc (.int .i64 ((aI s r).d:Int)),.list 1 (bF (aI s r).q),.tmap (retE (aI s r).g)]),(15,.list 1 (bE (mH p s r)))]) (H':=[[nil3],[.cells 3 [[.hsl 2 0 0 r,.list 1 (wG ls.length s),.hsl 3 0 0 (eC p s r).length]]],[.cells 1 (nN p s r)],[.cells 1 (bF (eC p s r))]]) ?_ ?_
    ·unfold nil3
     exact Sub.w [] [[(0,0)],[(1,0)],[(2,0)],[(3,0)]]
    have hnl:=bZ (eC p s r)
    have hs1:=iT (eC p s r) r
    unfold nil3
    refine aA ?_
    refine DK.nil ⟨by kernel_rfl,?_⟩
    refine aA ?_
    rw[e2]
    refine aA ?_
    rw[← hsb]
    cases hb:sM p s r with
    | false=>
     rw[hb,if_neg (by simp)] at hss
     refine aA ?_
     refine⟨r+1,by omega,by omega,?_⟩
     rw[hss,hv1]
     exact Sub.w [] [[(0,0)],[(1,0)],[(5,0)],[(3,0)]]
    | true=>
     rw[hb,if_pos rfl] at hss
     refine aA ?_
     refine⟨r+1,by omega,by omega,?_⟩
     rw[hss,hv1,hs1,List.length_append]
     exact Sub.w [] [[(0,0)],[(1,0)],[(5,0)],[(8,0)]]
 ·have e:r=ls.length:=by omega
  subst e
  have hvrl:(nN p s ls.length).length=ls.length:=dA _ _
  have hnl:=bZ (eC p s ls.length)
  refine AWP.exit ?_
  unfold rH nil3
  refine aA ?_
  refine aW.mk (.inr rfl) rfl rfl ?_
  exact To.tupL (ToL.cons (To.aggL (ToL.cons (To.fz rfl rfl hvrl rfl (prs _)) (ToL.cons (.pure (pv (.list 1 (wG ls.length s)))) (ToL.cons (To.fz rfl rfl hnl rfl (prs _)) ToL.nil)))) (ToL.cons (.sc _) ToL.nil))
def F6 (p:Pg) (seed:Nat):AV:=if (bP p).1.2=0 then BO p (jD p (bP p).2 (st0 p (bP p).2.length seed)) (bP p).2.length else .tup [.agg [.list 1 [],.list 1 [],.list 1 []],.sc (.int .i64 (bP p).1.2)]
instance (p:Pg) (s:St) (n:Nat):PV (BO p s n):=by unfold BO; infer_instance
instance (p:Pg) (seed:Nat):PV (F6 p seed):=by unfold F6; split<;>infer_instance
set_option maxHeartbeats 16000000 in
theorem mainR {p:Pg} {ls:List Ln} {s0:St} (hC:d9 p ls) (hp:POK p) (hS0:cA p ls s0):
  AWP Tryz.prog F18.n 0 (aG [1,1,1,1,1] F18.code) (aW F18.res (BO p (jD p ls s0) ls.length)) (mF p) (worldH p ls s0++[[nil3]]):=by
 show AWP _ _ _ (.seq (.block _ (.loop _)) _) _ _ _
 refine AWP.seq ?_
 refine AWP.block ?_
 refine AWP.loop (σ:=St) (fun _=>mF p) (fun s=>worldH p ls s++[[nil3]]) (fun s=>cA p ls s∧jD p ls s=jD p ls s0) (fun s=>jZ p ls.length s) s0 ⟨hS0,rfl⟩ (Sub.keep ⟨Le.refl _,Le.refl _,Le.refl _,trivial⟩) ?_
 rintro s ⟨hS,hR⟩
 refine NO hC hp hS _ (fun he fr H hsub=>?_) (fun s' he fr H hsub=>?_)
 ·rw[← hR,HK he]
  show AWP Tryz.prog F18.n 0 (aG [1,1,1,1,1,1] F18.code) _ _ _
  exact AWP.sub hsub (resR hC hS)
 ·obtain⟨h1,h2⟩:=hS.stepS hC he
  exact⟨s',⟨h1,by rw[← hR]; exact(HM hC hS he).symm⟩,h2,hsub⟩
set_option maxHeartbeats 16000000 in
theorem NF {p:Pg} {ls:List Ln} (hC:d9 p ls) (hp:POK p) {seed:Nat} (hs:seed < 18446744073709551616):
  AWP Tryz.prog F18.n 0 (aG [1,1,1,1] F18.code) (aW F18.res (BO p (jD p ls (st0 p ls.length seed)) ls.length)) [(2,.cptr [.sc (.int .i64 p.cells),.list 1 (bY p.acts)]),(4,.ptr 0 0 0 0),(9,.ptr 1 0 0 0)]
   [[nil3],[.cells 5 [[ckV p ls,.sc (.int .u64 (seed:Int)),.sc (.slice none 0 0),.sc (.slice none 0 0),.sc (.slice none 0 0)]]]]:=by
 have hm:=mainR hC hp (cA.st0 (p:=p) (ls:=ls) hs)
 have h64:=hC.n64
 have hn:=hC.len
 have hc1:=hC.c1
 have hc64:=hC.c64
 obtain⟨c,hc⟩:∃ c:Nat,p.cells=c:=⟨p.cells.toNat,by omega⟩
 have e1:=iN p.acts
 obtain⟨s0,hs0⟩:∃ s,s=st0 p ls.length seed:=⟨_,rfl⟩
 have hsd:s0.seed=seed:=by rw[hs0]; rfl
 have hpr:∀ j,aI s0 j=pr0:=fun j=>by rw[hs0]; exact qZ _ _ _ _
 have hme:∀ j,j < ls.length→bC s0 j=List.replicate c 0:=fun j hj=>by rw[hs0,xU hj,hc]; rfl
 have hhe:∀ j,dG s0 j=[]:=fun j=>by rw[hs0]; exact C1 _ _ _ _
 rw[← hs0] at hm ⊢
 rw[← hsd]
 show AWP _ _ _ (.seq (.seq (.region _) (.block _ (.loop _))) _) _ _ _
 refine AWP.seq ?_
 refine AWP.seq ?_
 refine AWP.region ?_
 refine bI ?_
 rw[e1,← hn]
 refine AWP.block ?_
 refine AWP.loop (fun r:Nat=>sF p ls.length r) (fun r=>sH p ls s0 r r r) (fun r=>r≤ls.length) (fun r=>ls.length - r) 0 (Nat.zero_le _) ?_ ?_
 ·unfold sF sH nil3
  show Sub _ _ _ _ _ [[.cells 5 [[ckV p ls,.sc (.int .u64 (s0.seed:Int)),.hsl 1 0 0 0,.hsl 2 0 0 0,.hsl 3 0 0 0]]],[.cells 3 []],[.cells 1 []],[.cells 1 []],[],[],[],[],[.cells 3 [[.sc (.slice none 0 0),.sc (.slice none 0 0),.sc (.slice none 0 0)]]]]
  have hw:PV (ckV p ls):=inferInstance
  generalize ckV p ls=ck at *
  have hwp:=hw.out
  (apply Sub.to [3,1,1] [[(1,0)],[(2,0)],[(3,0)],[(4,0)],[],[],[],[],[(0,0)]]; all_goals (repeat' (first | exact aB.nil | exact aS.nil | exact aY.nil | exact ToL.nil | exact ToR.nil | refine aB.cons ?_ ?_ | refine aS.cons ?_ ?_ | refine dZ ?_ ?_ | exact To.undef _ | exact To.sc _ | exact To.hslL rfl rfl | exact To.asl _ _ _ _ _ _ rfl | exact To.ptrO rfl rfl rfl | exact To.mrefO rfl | exact To.nil rfl rfl rfl | exact wt1 | exact To.nilL | refine To.int ?_ | refine To.bool ?_ | refine To.hslL rfl ?_ | refine wt2 rfl ?_ ?_ ?_ | refine To.tupL ?_ | refine To.aggL ?_ | refine To.cptrL ?_ | refine To.fzp rfl rfl rfl ?_ | refine To.fzm rfl rfl ?_ | refine To.cloL ?_ ?_ | refine wt3 ?_ | refine wt4 ?_ | exact wt5 | refine wt6 ?_ | refine ToB.one ?_ | exact wt7 | ((with_reducible apply ToL.consE); case e9=>rfl) | refine wt8 ?_ | refine ToL.cons ?_ ?_ | exact wt11 | refine wt9 ?_ ?_ | refine dX ?_ | (with_reducible rfl) | assumption)); all_goals (first | rfl | assumption | (simp; done) | (simp; omega) | (rw[wrap_small (by omega) (by omega)]; done) | (rw[wrap_small (by omega) (by omega)]; omega) | (refine congrArg Nat.cast ?_; assumption) | skip))
 ·intro r hr
  refine AWP.seq ?_
  refine AWP.region ?_
  unfold sF
  refine bI ?_
  refine AWP.seq ?_
  refine AWP.condD rfl (fun hrl=>?_) (fun hge=>?_)
  ·refine AWP.skip ?_
   refine AWP.seq ?_
   refine AWP.block ?_
   refine AWP.sub (fr':=sF p ls.length r) (H':=sH p ls s0 r r r) (Sub.keep ⟨Le.refl _,Le.refl _,Le.refl _,Le.refl _,Le.refl _,trivial⟩) ?_
   refine N8 r ls.length (by omega) (hpr r) _ (OG r ls.length c (by omega) hc (by omega) (hme r hrl) _ (OE r ls.length (by omega) (hhe r) _ fun fr H hsub=>?_))
   show AWP _ _ _ (.region _) _ fr H
   refine AWP.sub hsub ?_
   unfold sF
   refine aA ?_
   exact⟨r+1,by omega,by omega,Sub.keep ⟨Le.refl _,Le.refl _,Le.refl _,Le.refl _,Le.refl _,trivial⟩⟩
  ·have e:r=ls.length:=by omega
   subst e
   refine AWP.exit ?_
   refine AWP.sub ?_ hm
   exact Sub.keep ⟨Le.refl _,Le.refl _,Le.refl _,trivial⟩
set_option maxHeartbeats 16000000 in
theorem KQ (p:Pg) (hp:POK p) {seed:Nat} (hs:seed < 18446744073709551616):aD Tryz.prog 18 [dH p,.sc (.int .u64 (seed:Int))] (F6 p seed):=by
 refine aD.mkI cF18 (nlB rfl) ?_
 have hc:=s4 p hp
 unfold EB at hc
 unfold F6
 unfold plA dH at *
 by_cases h:(bP p).1.2=0
 ·rw[if_pos h] at hc ⊢
  have hC:=FZ h
  rw[h] at hc
  have hb:=NF hC hp hs
  generalize (bP p).2=ls at *
  refine AWP.seq ?_
  refine AWP.region ?_
  refine bI ?_
  refine AWP.seq ?_
  refine AWP.region ?_
  refine bI ?_
  refine AWP.seq ?_
  refine AWP.seq ?_
  refine AWP.region ?_
  refine bI ?_
  refine AWP.condF rfl ?_
  refine AWP.skip ?_
  refine AWP.seq ?_
  refine AWP.region ?_
  unfold ckV at *
  refine bI ?_
  refine AWP.sub ?_ hb
  unfold nil3
  exact Sub.w [] [[(1,0)],[(3,0)]]
 ·rw[if_neg h] at hc ⊢
  generalize (bP p).1.2=k at *
  have e:(k != 0)=true:=by simp[h]
  refine aA ?_
  rw[e]
  refine aA ?_
  exact aW.w
def aF:Act:=⟨8,0,0,0,0,0,[]⟩
def aL:Act:=⟨6,0,0,0,0,0,[]⟩
def aP:Act:=⟨1,1,0,0,5,0,[]⟩
def goodP:Pg:=⟨1,[[aF,aP,aF],[aF,aF,aL]]⟩
def badP:Pg:=⟨1,[[aF,aP,aF],[aF,aL,aF]]⟩
theorem AS:(bP goodP).1=((0,0),0):=by kernel_rfl
theorem MK:(bP badP).1=((0,0),0):=by kernel_rfl
theorem CX:(g8 goodP (bP goodP).2 (kZ (bP goodP).2.length goodP (bP goodP).2)).2=[]:=by kernel_rfl
theorem GH:(g8 badP (bP badP).2 (kZ (bP badP).2.length badP (bP badP).2)).2=[mk4 (0,1) (1,1)]:=by kernel_rfl
theorem JF:(jD goodP (bP goodP).2 (st0 goodP 2 5)).mem=[[0],[5]]:=by kernel_rfl
theorem C4:eC goodP (jD goodP (bP goodP).2 (st0 goodP 2 5)) 2=[]:=by kernel_rfl
theorem F7:mH goodP (jD goodP (bP goodP).2 (st0 goodP 2 5)) 1=[5]:=by kernel_rfl
end Go.Proofs.YtkjoolaahocgdaaGreat
