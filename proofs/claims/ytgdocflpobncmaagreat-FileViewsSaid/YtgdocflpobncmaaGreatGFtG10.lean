import Derived.Test.YtgdocflpobncmaaGreatGFtG3
import Derived.Test.YtgdocflpobncmaaGreatGFtD6
import Derived.Test.YtgdocflpobncmaaGreatGAvK5
namespace Go.Proofs.YtgdocflpobncmaaGreat
open Go.Av Go.Proofs
set_option maxRecDepth 20000
set_option maxHeartbeats 1000000 in
theorem C3 {s x:Shp} {by':Int} (hs:stB s) (hx:shB x) (h1:-1200000000000000000≤by') (h2:by'≤1200000000000000000):
  aG Tryz.prog 203 [.agg [.hsl 0 0 0 s.es.length,iv s.lo,iv s.hi],.agg [.list 2 (enR x.es),iv x.lo,iv x.hi],iv by'] [[.cells 2 (enR s.es)]] fun res H'=>
   res=.agg [.hsl 1 0 0 (cO s x by').es.length,iv (cO s x by').lo,iv (cO s x by').hi]∧H'=[[.dead],[.cells 2 (enR (cO s x by').es)]]:=by
 obtain⟨a1,⟨a2,a3⟩,⟨a4,a5⟩,a6⟩:=hs
 obtain⟨b1,b2,b3,b4,b5,b6,b7,b8,b9⟩:=hx
 unfold big at *
 unfold mP at *
 have hle:=bK s.es
 have hle2:=bK x.es
 refine aG.of cF203 ?_ (nlB rfl)
 refine aA ?_
 rw[Av.wrap_small (show -9223372036854775808≤x.lo+by' by omega) (by omega),Av.wrap_small (show -9223372036854775808≤x.hi+by' by omega) (by omega)]
 refine DK.nil ⟨by kernel_rfl,?_⟩
 refine aA ?_
 obtain⟨lo1,hl1⟩:∃ lo1,lo1=(cO s x by').lo:=⟨_,rfl⟩
 obtain⟨hi1,hh1⟩:∃ hi1,hi1=(cO s x by').hi:=⟨_,rfl⟩
 have eL:0 < s.es.length→lo1=min s.lo (x.lo+by'):=fun h=>by rw[hl1]; simp only[cO]; rw[if_neg (by omega)]
 have eH:0 < s.es.length→hi1=max s.hi (x.hi+by'):=fun h=>by rw[hh1]; simp only[cO]; rw[if_neg (by omega)]
 have eL0:¬ 0 < s.es.length→lo1=x.lo+by':=fun h=>by rw[hl1]; simp only[cO]; rw[if_pos (by omega)]; omega
 have eH0:¬ 0 < s.es.length→hi1=x.hi+by':=fun h=>by rw[hh1]; simp only[cO]; rw[if_pos (by omega)]; omega
 rw[← hl1,← hh1]
 refine AWP.joinB0 [(2,iv by'),(3,.ptr 1 0 0 0),(4,.cptr [.list 2 (enR x.es),iv x.lo,iv x.hi]),(6,.ptr 2 0 0 0),(7,iv lo1),(8,iv hi1)] [[.cells 2 (enR s.es)],[.cells 3 [[.hsl 0 0 0 s.es.length,iv s.lo,iv s.hi]]],[.cells 3 [r0S]]] ?_ ?_
 ·refine AWP.condN (0 < s.es.length) rfl rfl (fun h=>?_) (fun h=>?_)
  ·refine aA ?_
   refine DK.nil ⟨by kernel_rfl,?_⟩
   (apply Sub.to [] [[(0,0)],[(1,0)],[(3,0)]]; all_goals (repeat' (first | exact aT.nil | exact aK.nil | exact bN.nil | exact ToL.nil | exact ToR.nil | refine aT.cons ?_ ?_ | refine aK.cons ?_ ?_ | refine eJ ?_ ?_ | exact To.undef _ | exact To.sc _ | exact To.hslL rfl rfl | exact To.asl _ _ _ _ _ _ _ rfl | refine To.ifc _ _ _ ?_ | exact To.ptrO rfl rfl rfl | exact To.mrefO rfl | exact To.nil rfl rfl rfl | exact wt1 | exact To.nilL | refine To.int ?_ | refine To.bool ?_ | refine To.hslL rfl ?_ | refine wt2 rfl ?_ ?_ ?_ | refine To.tupL ?_ | refine To.aggL ?_ | refine To.cptrL ?_ | refine To.fzp rfl rfl rfl ?_ | refine To.fzm rfl rfl ?_ | refine To.cloL ?_ ?_ | refine wt3 ?_ | refine wt4 ?_ | exact wt5 | refine wt6 ?_ | refine ToB.one ?_ | exact wt7 | ((with_reducible apply ToL.consE); case e9=>rfl) | refine wt8 ?_ | refine ToL.cons ?_ ?_ | exact wt11 | refine wt9 ?_ ?_ | refine wt12 ?_ | exact .yld _ _ _ _ rfl | exact .dead _ | exact hlp _ _ _ _ rfl rfl rfl | exact hlp _ _ _ rfl rfl rfl | exact hlp _ _ _ rfl rfl | exact hlp _ _ _ rfl | (with_reducible rfl) | assumption)); all_goals (first | rfl | assumption | (simp; done) | (simp; omega) | (rw[wrap_small (by omega) (by omega)]; done) | (rw[wrap_small (by omega) (by omega)]; omega) | (refine congrArg Nat.cast ?_; assumption) | omega | (exact Av.wrap_small (by omega) (by omega)) | skip))
   all_goals first | (rw[eL h]; omega) | (rw[eH h]; omega)
  ·refine aA ?_
   (apply Sub.to [] [[(0,0)],[(1,0)],[(3,0)]]; all_goals (repeat' (first | exact aT.nil | exact aK.nil | exact bN.nil | exact ToL.nil | exact ToR.nil | refine aT.cons ?_ ?_ | refine aK.cons ?_ ?_ | refine eJ ?_ ?_ | exact To.undef _ | exact To.sc _ | exact To.hslL rfl rfl | exact To.asl _ _ _ _ _ _ _ rfl | refine To.ifc _ _ _ ?_ | exact To.ptrO rfl rfl rfl | exact To.mrefO rfl | exact To.nil rfl rfl rfl | exact wt1 | exact To.nilL | refine To.int ?_ | refine To.bool ?_ | refine To.hslL rfl ?_ | refine wt2 rfl ?_ ?_ ?_ | refine To.tupL ?_ | refine To.aggL ?_ | refine To.cptrL ?_ | refine To.fzp rfl rfl rfl ?_ | refine To.fzm rfl rfl ?_ | refine To.cloL ?_ ?_ | refine wt3 ?_ | refine wt4 ?_ | exact wt5 | refine wt6 ?_ | refine ToB.one ?_ | exact wt7 | ((with_reducible apply ToL.consE); case e9=>rfl) | refine wt8 ?_ | refine ToL.cons ?_ ?_ | exact wt11 | refine wt9 ?_ ?_ | refine wt12 ?_ | exact .yld _ _ _ _ rfl | exact .dead _ | exact hlp _ _ _ _ rfl rfl rfl | exact hlp _ _ _ rfl rfl rfl | exact hlp _ _ _ rfl rfl | exact hlp _ _ _ rfl | (with_reducible rfl) | assumption)); all_goals (first | rfl | assumption | (simp; done) | (simp; omega) | (rw[wrap_small (by omega) (by omega)]; done) | (rw[wrap_small (by omega) (by omega)]; omega) | (refine congrArg Nat.cast ?_; assumption) | omega | (exact Av.wrap_small (by omega) (by omega)) | skip))
   all_goals first | (rw[eL0 h]; done) | (rw[eH0 h]; done)
 refine aA ?_
 refine AWP.loop (fun j:Nat=>[(2,iv by'),(3,.ptr 1 0 0 0),(4,.cptr [.list 2 (enR x.es),iv x.lo,iv x.hi]),(6,.ptr 2 0 0 0),(7,iv lo1),(8,iv hi1),(9,iv j)]) (fun j=>[[.dead],[.cells 3 [[.hsl 3 0 0 (s.es.length+j),iv s.lo,iv s.hi]]],[.cells 3 [r0S]],[.cells 2 (enR (s.es++(x.es.take j).map (fun y=>(y.1,y.2+by'))))]]) (fun j=>j≤x.es.length) (fun j=>x.es.length - j) 0 (Nat.zero_le _) ?_ ?_
 ·rw[show s.es++(x.es.take 0).map (fun y=>(y.1,y.2+by'))=s.es by simp]
  refine Sub.toM [] [.c [(0,0)],.c [(1,0)],.c [(2,0)],.c [(0,0)]] [0] ?_ ?_ ⟨rfl,trivial⟩ ?_
  ·(all_goals exact iD)
  ·(all_goals exact iD)
   all_goals exact .dead _
  ·(repeat' (first | exact trivial | exact I6.c _ rfl rfl | refine⟨?_,?_⟩))
 rintro j hj
 refine aA ?_
 rw[hle2]
 refine AWP.condN (j < x.es.length) rfl rfl (fun h=>?_) (fun h=>?_)
 ·have hr2:=eD x.es j h
  have hy:=b9 x.es[j] (List.getElem_mem _)
  have hsn:s.es++(x.es.take (j+1)).map (fun y=>(y.1,y.2+by'))=(s.es++(x.es.take j).map (fun y=>(y.1,y.2+by')))++[(x.es[j].1,x.es[j].2+by')]:=by
   rw[cG h,List.map_append,List.append_assoc]
   rfl
  have hln:(s.es++(x.es.take j).map (fun y=>(y.1,y.2+by'))).length=s.es.length+j:=by
   rw[List.length_append,List.length_map,List.length_take]
   omega
  generalize s.es++(x.es.take j).map (fun y=>(y.1,y.2+by'))=es at *
  have hen:=bK es
  rw[hln] at hen
  generalize x.es[j].1=kd at *
  generalize x.es[j].2=a at *
  refine aA ?_
  rw[Av.wrap_small (show -9223372036854775808≤a+by' by omega) (by omega)]
  refine aA ?_
  refine DK.nil ⟨by kernel_rfl,?_⟩
  refine aA ?_
  refine⟨j+1,by omega,by omega,?_⟩
  rw[hsn]
  (apply Sub.to [] [[(0,0)],[(1,0)],[(2,0)],[(4,18)]]; all_goals (repeat' (first | exact aT.nil | exact aK.nil | exact bN.nil | exact ToL.nil | exact ToR.nil | refine aT.cons ?_ ?_ | refine aK.cons ?_ ?_ | refine eJ ?_ ?_ | exact To.undef _ | exact To.sc _ | exact To.hslL rfl rfl | exact To.asl _ _ _ _ _ _ _ rfl | refine To.ifc _ _ _ ?_ | exact To.ptrO rfl rfl rfl | exact To.mrefO rfl | exact To.nil rfl rfl rfl | exact wt1 | exact To.nilL | refine To.int ?_ | refine To.bool ?_ | refine To.hslL rfl ?_ | refine wt2 rfl ?_ ?_ ?_ | refine To.tupL ?_ | refine To.aggL ?_ | refine To.cptrL ?_ | refine To.fzp rfl rfl rfl ?_ | refine To.fzm rfl rfl ?_ | refine To.cloL ?_ ?_ | refine wt3 ?_ | refine wt4 ?_ | exact wt5 | refine wt6 ?_ | refine ToB.one ?_ | exact wt7 | ((with_reducible apply ToL.consE); case e9=>rfl) | refine wt8 ?_ | refine ToL.cons ?_ ?_ | exact wt11 | refine wt9 ?_ ?_ | refine wt12 ?_ | exact .yld _ _ _ _ rfl | exact .dead _ | exact hlp _ _ _ _ rfl rfl rfl | exact hlp _ _ _ rfl rfl rfl | exact hlp _ _ _ rfl rfl | exact hlp _ _ _ rfl | (with_reducible rfl) | assumption)); all_goals (first | rfl | assumption | (simp; done) | (simp; omega) | (rw[wrap_small (by omega) (by omega)]; done) | (rw[wrap_small (by omega) (by omega)]; omega) | (refine congrArg Nat.cast ?_; assumption) | omega | (exact Av.wrap_small (by omega) (by omega)) | skip))
  all_goals first | exact .dead _ | omega | exact(by simp[enR]:enR es++[[iv kd,iv (a+by')]]=enR (es++[(kd,a+by')]))
 ·obtain rfl:x.es.length=j:=by omega
  rw[List.take_length]
  have hsl:(cO s x by').es.length=s.es.length+x.es.length:=by simp[cO]
  refine aA ?_
  refine iW (res':=.agg [.hsl 1 0 0 (s.es.length+x.es.length),iv lo1,iv hi1]) (H2:=[[.dead],[.cells 2 (enR (s.es++x.es.map (fun y=>(y.1,y.2+by'))))]]) [[(0,0)],[(3,0)]] (.inr rfl) rfl ⟨by rw[hsl],rfl⟩ ?_ ?_ rfl rfl rfl
  (all_goals exact iD)
  all_goals first | exact .dead _
def mY (k c b st:Int) (sz bl pl:List Int) (n:Nat):Int:=if bD k=0∧¬ (6≤k∧k≤11) then 2 else cV k c b st sz bl pl n
theorem form9 {c b st:Int} {sz bl pl:List Int} {n:Nat}:cV 9 c b st sz bl pl n=if c≠0∨b≠0∨st≠0∨0 < sz.length∨n < 1∨4096 < n then 2 else if bl.length=n∧pl.length=n then 0 else 26:=by
 have e:ofG (decide (0 < bD 9)) 9 n=min (max 1 n) 4096:=rfl
 have f:∀ m,rI (fl1 9) (fl2 9) (fl3 9) (fl4 9) (fl5 9) c b st sz bl pl n m=((c != 0) || (((b != 0) || (st != 0)) || (decide (0 < sz.length) || !decide (n=m)))):=fun m=>by simp[rI,fl1,fl2,fl3,fl4,fl5]
 have g:∀ m,shG 9 sz bl pl m=if bl.length=m∧pl.length=m then 0 else 26:=fun m=>rfl
 unfold cV
 rw[e,f,g]
 obtain⟨m,hm⟩:∃ m,m=min (max 1 n) 4096:=⟨_,rfl⟩
 rw[← hm]
 by_cases h:n=m
 ·rw[dTr h,← h]
  by_cases q:c≠0∨b≠0∨st≠0∨0 < sz.length∨n < 1∨4096 < n
  ·rw[if_pos q,if_pos]
   have q2:c≠0∨b≠0∨st≠0∨0 < sz.length:=by omega
   rcases q2 with q | q | q | q<;>simp[q]
  ·rw[if_neg q,if_neg]
   have q1:c=0:=by omega
   have q2:b=0:=by omega
   have q3:st=0:=by omega
   have q4:¬ 0 < sz.length:=by omega
   simp only[q1,q2,q3,dFa q4]
   decide
 ·rw[if_pos (show c≠0∨b≠0∨st≠0∨0 < sz.length∨n < 1∨4096 < n by omega),if_pos]
  rw[dFa h]
  simp
theorem LB {rs:List j5} {e:Exit} {fr:Fr} {H:Heap} {x:Int} {y:Int} (he:e=.normal∨e=.ret) (h:kV fr H rs=some (iv x)) (hxy:x=y):aI rs (iv y) e fr H:=by
 subst hxy
 exact .mk he h rfl (.sc _)
set_option maxHeartbeats 4000000 in
theorem LL {k c b st:Int} {sz bl pl:List Int} {of:List Ty}:aB Tryz.prog 178 [.agg (tyR (.mk k c b st sz bl pl of))] (iv (mY k c b st sz bl pl of.length)):=by
 rw[tyR]
 refine aB.mkI cF178 (nlB rfl) ?_
 have hb:=eR k
 have l1:=bA sz
 have l2:=bA bl
 have l3:=bA pl
 have l4:(aM of).length=of.length:=by rw[lG,List.length_map]
 unfold mY
 by_cases hk:1≤k∧k≤11
 ·have hk2:k=1∨k=2∨k=3∨k=4∨k=5∨k=6∨k=7∨k=8∨k=9∨k=10∨k=11:=by omega
  clear hk
  rcases hk2 with rfl | rfl | rfl | rfl | rfl | rfl | rfl | rfl | rfl | rfl | rfl
  all_goals
   rw[if_neg (by decide)]
   ((repeat' (first | refine CC ?_ | refine AO ?_ | refine BS ?_ | refine wv1 ?_ | refine wv2 ?_ | refine wv3 ?_ | refine wv4 ?_ | refine wv5 ?_ | refine wv6 ?_ | refine wv7 ?_ | refine wv8 ?_ | refine wv9 ?_ | refine CD ?_ | refine wr1 ?_ | refine wr2 ?_ | refine wr3 ?_ | refine wr4 ?_ | refine Reg.nil ?_ | refine wd1 ?_ | refine wd2 ?_ | refine wd3 ?_ | refine wd4 ?_ | refine AWP.seq ?_ | refine AWP.region ?_ | refine AWP.dk kW ?_ | refine AWP.condT rfl ?_ | refine AWP.condF rfl ?_ | refine AWP.skip ?_ | refine AWP.ret ?_ | refine AWP.exit ?_ | refine AWP.block ?_ | refine wr5 ?_ | refine wr6 ?_ | refine wr7 ?_ | refine wr8 ?_ | refine wr9 ?_ | refine wr10 ?_ | refine wd5 ?_ | refine wd6 ?_ | refine wd7 ?_ | refine wd8 ?_ | refine wd9 ?_ | refine B4 ?_ | refine wr11 ?_ | refine wr12 ?_ | refine wd11 ?_ | refine wd12 ?_ | refine Reg.gs rfl (fun _=>?_) (fun _=>?_) | refine AWP.cond rfl (fun _=>?_) (fun _=>?_))); all_goals (try refine aA ?_); all_goals (repeat' (first | refine CC ?_ | refine AO ?_ | refine BS ?_ | refine wv1 ?_ | refine wv2 ?_ | refine wv3 ?_ | refine wv4 ?_ | refine wv5 ?_ | refine wv6 ?_ | refine wv7 ?_ | refine wv8 ?_ | refine wv9 ?_ | refine CD ?_ | refine wr1 ?_ | refine wr2 ?_ | refine wr3 ?_ | refine wr4 ?_ | refine Reg.nil ?_ | refine wd1 ?_ | refine wd2 ?_ | refine wd3 ?_ | refine wd4 ?_ | refine AWP.seq ?_ | refine AWP.region ?_ | refine AWP.dk kW ?_ | refine AWP.condT rfl ?_ | refine AWP.condF rfl ?_ | refine AWP.skip ?_ | refine AWP.ret ?_ | refine AWP.exit ?_ | refine AWP.block ?_ | refine wr5 ?_ | refine wr6 ?_ | refine wr7 ?_ | refine wr8 ?_ | refine wr9 ?_ | refine wr10 ?_ | refine wd5 ?_ | refine wd6 ?_ | refine wd7 ?_ | refine wd8 ?_ | refine wd9 ?_ | refine B4 ?_ | refine wr11 ?_ | refine wr12 ?_ | refine wd11 ?_ | refine wd12 ?_ | refine Reg.gs rfl (fun _=>?_) (fun _=>?_) | refine AWP.cond rfl (fun _=>?_) (fun _=>?_))); all_goals (try refine aA ?_); all_goals (repeat' (first | refine CC ?_ | refine AO ?_ | refine BS ?_ | refine wv1 ?_ | refine wv2 ?_ | refine wv3 ?_ | refine wv4 ?_ | refine wv5 ?_ | refine wv6 ?_ | refine wv7 ?_ | refine wv8 ?_ | refine wv9 ?_ | refine CD ?_ | refine wr1 ?_ | refine wr2 ?_ | refine wr3 ?_ | refine wr4 ?_ | refine Reg.nil ?_ | refine wd1 ?_ | refine wd2 ?_ | refine wd3 ?_ | refine wd4 ?_ | refine AWP.seq ?_ | refine AWP.region ?_ | refine AWP.dk kW ?_ | refine AWP.condT rfl ?_ | refine AWP.condF rfl ?_ | refine AWP.skip ?_ | refine AWP.ret ?_ | refine AWP.exit ?_ | refine AWP.block ?_ | refine wr5 ?_ | refine wr6 ?_ | refine wr7 ?_ | refine wr8 ?_ | refine wr9 ?_ | refine wr10 ?_ | refine wd5 ?_ | refine wd6 ?_ | refine wd7 ?_ | refine wd8 ?_ | refine wd9 ?_ | refine B4 ?_ | refine wr11 ?_ | refine wr12 ?_ | refine wd11 ?_ | refine wd12 ?_ | refine Reg.gs rfl (fun _=>?_) (fun _=>?_) | refine AWP.cond rfl (fun _=>?_) (fun _=>?_))); all_goals (try refine aA ?_); all_goals (repeat' (first | refine CC ?_ | refine AO ?_ | refine BS ?_ | refine wv1 ?_ | refine wv2 ?_ | refine wv3 ?_ | refine wv4 ?_ | refine wv5 ?_ | refine wv6 ?_ | refine wv7 ?_ | refine wv8 ?_ | refine wv9 ?_ | refine CD ?_ | refine wr1 ?_ | refine wr2 ?_ | refine wr3 ?_ | refine wr4 ?_ | refine Reg.nil ?_ | refine wd1 ?_ | refine wd2 ?_ | refine wd3 ?_ | refine wd4 ?_ | refine AWP.seq ?_ | refine AWP.region ?_ | refine AWP.dk kW ?_ | refine AWP.condT rfl ?_ | refine AWP.condF rfl ?_ | refine AWP.skip ?_ | refine AWP.ret ?_ | refine AWP.exit ?_ | refine AWP.block ?_ | refine wr5 ?_ | refine wr6 ?_ | refine wr7 ?_ | refine wr8 ?_ | refine wr9 ?_ | refine wr10 ?_ | refine wd5 ?_ | refine wd6 ?_ | refine wd7 ?_ | refine wd8 ?_ | refine wd9 ?_ | refine B4 ?_ | refine wr11 ?_ | refine wr12 ?_ | refine wd11 ?_ | refine wd12 ?_ | refine Reg.gs rfl (fun _=>?_) (fun _=>?_) | refine AWP.cond rfl (fun _=>?_) (fun _=>?_))); all_goals (try refine aA ?_); all_goals (try refine LB (.inr rfl) rfl ?_))
   all_goals clear hb
   all_goals (rw[l1,l2,l3,l4] at *; clear l1 l2 l3 l4)
   all_goals first | (rw[form9]; simp only[bne_iff_ne,decide_eq_true_eq,decide_eq_false_iff_not,Bool.not_eq_true',Bool.not_eq_false',bne_eq_false_iff_eq] at *; first | rw[if_pos (by omega)] | rw[if_neg (by omega),if_pos (by omega)] | rw[if_neg (by omega),if_neg (by omega)]) | (simp_all [cV,rI,fl1,fl2,fl3,fl4,fl5,ofG,bD,shG]; done) | (simp_all [cV,rI,fl1,fl2,fl3,fl4,fl5,ofG,bD,shG]; omega)
 ·rw[if_pos ⟨kI.2 (fun h=>hk ⟨h.1,by omega⟩),fun h=>hk ⟨by omega,h.2⟩⟩]
  rw[dFa (fun h=>hk ⟨h.1,by omega⟩)] at hb
  refine aA ?_
  by_cases h:k < 6
  ·rw[dTr h]
   refine aA ?_
   exact aI.w
  ·rw[dFa h]
   refine aA ?_
   refine AWP.condN (11 < k) rfl rfl (fun h2=>?_) (fun h2=>by omega)
   refine aA ?_
   exact aI.w
theorem kO (n:Int):aB Tryz.prog 158 [iv n] (bv (!aH n (-mP) mP)):=by
 refine aB.mkI cF158 (nlB rfl) ?_
 unfold aH mP
 by_cases h1:n < -1048576
 ·rw[dFa (show¬ -1048576≤n by omega)]
  refine aA ?_
  rw[dTr h1]
  refine aA ?_
  exact aI.w
 ·rw[dTr (show -1048576≤n by omega)]
  refine aA ?_
  rw[dFa h1]
  refine aA ?_
  by_cases h2:1048576 < n
  ·rw[dTr h2,dFa (show¬ n≤1048576 by omega)]
   exact aI.w
  ·rw[dFa h2,dTr (show n≤1048576 by omega)]
   exact aI.w
def LF (k c st:Int):Bool:=!aH st (-mP) mP || (decide (k=6∨k=7) && !aH c 1 4096)
def wR (k c b st:Int):Bool:=LF k c st || (decide (k=7) && !aH b 1 4096)
theorem vJ (l:List Int) (n lo hi:Int):cJ (l++[n]) lo hi=(cJ l lo hi && aH n lo hi):=by simp[cJ]
def I1 (sz bl pl:List Int) (i:Nat):Bool:=aH (sz.getD i 0) 1 4096 && aH (bl.getD i 0) 1 (sz.getD i 0) && aH (pl.getD i 0) 0 (sz.getD i 0 - bl.getD i 0)
def gK (sz bl pl:List Int) (n:Nat):Bool:=(List.range n).all (I1 sz bl pl)
theorem FJ (sz bl pl:List Int) (n:Nat):gK sz bl pl (n+1)=(gK sz bl pl n && I1 sz bl pl n):=by simp[gK,List.range_succ]
theorem cU {l:List Int} {i:Nat} (h:i < l.length):eI (inR l) (i:Int)=some [iv (l.getD i 0)]:=by
 rw[cS l i h]
 simp[h]
set_option maxHeartbeats 4000000 in
theorem num4 {k c b st:Int} {sz bl pl:List Int} {of:List Ty} {g s:Bool} (h10:k=10→pl.length=2) (h11:k=11→bl.length=sz.length∧pl.length=sz.length) (hsz:sz.length≤1000000):
  AWP Tryz.prog F179.n 0 (iC [1,1,1,1,1,1,1] F179.code) (aI F179.res (iv (if (g || (if k=8∨k=9 then !s else if k=10 then decide (pl.getD 1 0 < 0) else if k=11 then !gK sz bl pl sz.length else false))=true then 3 else 0))) [(1,.cptr [iv k,iv c,iv b,iv st,.list 1 (inR sz),.list 1 (inR bl),.list 1 (inR pl),.list 8 (aM of)]),(3,bv g),(4,bv s)] []:=by
 show AWP _ _ _ (.seq _ _) _ _ _
 have l1:=bA sz
 by_cases k8:k=8
 ·subst k8
  cases g<;>cases s<;>(refine aA ?_; exact aI.w)
 by_cases k9:k=9
 ·subst k9
  cases g<;>cases s<;>(refine aA ?_; exact aI.w)
 by_cases k10:k=10
 ·subst k10
  have hr:=cU (l:=pl) (i:=1) (by rw[h10 rfl]; decide)
  cases g with
  | true=>refine aA ?_; exact aI.w
  | false=>
   generalize pl.getD 1 0=y at *
   refine aA ?_
   by_cases hy:y < 0
   ·rw[dTr hy]
    refine aA ?_
    exact aI.w
   ·rw[dFa hy]
    refine aA ?_
    exact aI.w
 by_cases k11:k=11
 ·subst k11
  obtain⟨e1,e2⟩:=h11 rfl
  rw[if_neg (show¬ ((11:Int)=8∨(11:Int)=9) by decide),if_neg (show¬ (11:Int)=10 by decide),if_pos (rfl:(11:Int)=11)]
  refine aA ?_
  refine AWP.loop (fun i:Nat=>[(1,.cptr [iv 11,iv c,iv b,iv st,.list 1 (inR sz),.list 1 (inR bl),.list 1 (inR pl),.list 8 (aM of)]),(3,bv (g || !gK sz bl pl i)),(7,iv i)]) (fun _=>[]) (fun i=>i≤sz.length) (fun i=>sz.length - i) 0 (Nat.zero_le _) ?_ ?_
  ·rw[show(g || !gK sz bl pl 0)=g by simp[gK]]
   exact Sub.w [] []
  rintro i hi
  refine aA ?_
  rw[l1]
  refine AWP.condN (i < sz.length) rfl rfl (fun h=>?_) (fun h=>?_)
  ·have r1:=cU (l:=sz) h
   have r2:=cU (l:=bl) (i:=i) (by omega)
   have r3:=cU (l:=pl) (i:=i) (by omega)
   have hsn:=FJ sz bl pl i
   cases hg:(g || !gK sz bl pl i) with
   | true=>
    refine aA ?_
    refine DK.nil ⟨by kernel_rfl,?_⟩
    refine aA ?_
    refine⟨i+1,by omega,by omega,?_⟩
    rw[hsn,show(g || !(gK sz bl pl i && I1 sz bl pl i))=true by cases g<;>simp_all]
    exact Sub.w [] []
   | false=>
    obtain⟨rfl,hs⟩:g=false∧gK sz bl pl i=true:=by cases g<;>simp_all
    rw[hs,Bool.true_and] at hsn
    unfold I1 aH at hsn
    generalize sz.getD i 0=x at *
    generalize bl.getD i 0=y at *
    generalize pl.getD i 0=z at *
    refine aA ?_
    by_cases n1:x < 1
    ·rw[dTr n1]
     (have e:gK sz bl pl (i+1)=false:=(by rw[hsn,Bool.eq_false_iff]; intro q; simp only[Bool.and_eq_true,decide_eq_true_eq] at q; omega); refine aA ?_; refine DK.nil ⟨by kernel_rfl,?_⟩; refine aA ?_; refine⟨i+1,by omega,by omega,?_⟩; rw[e]; exact Sub.w [] [])
    rw[dFa n1]
    refine aA ?_
    by_cases n2:4096 < x
    ·rw[dTr n2]
     (have e:gK sz bl pl (i+1)=false:=(by rw[hsn,Bool.eq_false_iff]; intro q; simp only[Bool.and_eq_true,decide_eq_true_eq] at q; omega); refine aA ?_; refine DK.nil ⟨by kernel_rfl,?_⟩; refine aA ?_; refine⟨i+1,by omega,by omega,?_⟩; rw[e]; exact Sub.w [] [])
    rw[dFa n2]
    refine aA ?_
    by_cases n3:y < 1
    ·rw[dTr n3]
     (have e:gK sz bl pl (i+1)=false:=(by rw[hsn,Bool.eq_false_iff]; intro q; simp only[Bool.and_eq_true,decide_eq_true_eq] at q; omega); refine aA ?_; refine DK.nil ⟨by kernel_rfl,?_⟩; refine aA ?_; refine⟨i+1,by omega,by omega,?_⟩; rw[e]; exact Sub.w [] [])
    rw[dFa n3]
    refine aA ?_
    by_cases n4:x < y
    ·rw[dTr n4]
     (have e:gK sz bl pl (i+1)=false:=(by rw[hsn,Bool.eq_false_iff]; intro q; simp only[Bool.and_eq_true,decide_eq_true_eq] at q; omega); refine aA ?_; refine DK.nil ⟨by kernel_rfl,?_⟩; refine aA ?_; refine⟨i+1,by omega,by omega,?_⟩; rw[e]; exact Sub.w [] [])
    rw[dFa n4]
    refine aA ?_
    by_cases n5:z < 0
    ·rw[dTr n5]
     (have e:gK sz bl pl (i+1)=false:=(by rw[hsn,Bool.eq_false_iff]; intro q; simp only[Bool.and_eq_true,decide_eq_true_eq] at q; omega); refine aA ?_; refine DK.nil ⟨by kernel_rfl,?_⟩; refine aA ?_; refine⟨i+1,by omega,by omega,?_⟩; rw[e]; exact Sub.w [] [])
    rw[dFa n5]
    refine aA ?_
    rw[Av.wrap_small (show -9223372036854775808≤x - y by omega) (by omega)]
    refine aA ?_
    by_cases n6:x - y < z
    ·rw[dTr n6]
     (have e:gK sz bl pl (i+1)=false:=(by rw[hsn,Bool.eq_false_iff]; intro q; simp only[Bool.and_eq_true,decide_eq_true_eq] at q; omega); refine aA ?_; refine DK.nil ⟨by kernel_rfl,?_⟩; refine aA ?_; refine⟨i+1,by omega,by omega,?_⟩; rw[e]; exact Sub.w [] [])
    rw[dFa n6]
    have e:gK sz bl pl (i+1)=true:=by
     rw[hsn]
     simp only[Bool.and_eq_true,decide_eq_true_eq]
     omega
    refine aA ?_
    refine DK.nil ⟨by kernel_rfl,?_⟩
    refine aA ?_
    refine⟨i+1,by omega,by omega,?_⟩
    rw[e]
    exact Sub.w [] []
  ·obtain rfl:sz.length=i:=by omega
   generalize (g || !gK sz bl pl sz.length)=w
   cases w<;>(refine aA ?_; exact aI.w)
 rw[if_neg (show¬ (k=8∨k=9) by omega),if_neg k10,if_neg k11,Bool.or_false]
 cases g <;>
  (refine aA ?_
   refine AWP.condN (k=8) rfl rfl (fun h=>absurd h k8) (fun _=>?_)
   refine aA ?_
   refine AWP.condN (k=9) rfl rfl (fun h=>absurd h k9) (fun _=>?_)
   refine aA ?_
   refine AWP.condN (k=10) rfl rfl (fun h=>absurd h k10) (fun _=>?_)
   refine aA ?_
   refine AWP.condN (k=11) rfl rfl (fun h=>absurd h k11) (fun _=>?_)
   refine aA ?_
   exact aI.w)
set_option maxHeartbeats 4000000 in
theorem num2 {k c b st:Int} {sz bl pl:List Int} {of:List Ty} {g:Bool} (h10:k=10→pl.length=2) (h11:k=11→bl.length=sz.length∧pl.length=sz.length) (hsz:sz.length≤1000000) (hbl:bl.length≤1000000) (hpl:pl.length≤1000000):
  AWP Tryz.prog F179.n 0 (iC [1,1,1,1] F179.code) (aI F179.res (iv (if (((g || !cJ bl 0 4096) || !cJ pl (-mP) mP) || (if k=8∨k=9 then !(bl.any fun n=>n != 0) else if k=10 then decide (pl.getD 1 0 < 0) else if k=11 then !gK sz bl pl sz.length else false))=true then 3 else 0))) [(1,.cptr [iv k,iv c,iv b,iv st,.list 1 (inR sz),.list 1 (inR bl),.list 1 (inR pl),.list 8 (aM of)]),(3,bv g)] []:=by
 show AWP _ _ _ (.seq _ _) _ _ _
 have l2:=bA bl
 have l3:=bA pl
 refine aA ?_
 refine AWP.loop (fun i:Nat=>[(1,.cptr [iv k,iv c,iv b,iv st,.list 1 (inR sz),.list 1 (inR bl),.list 1 (inR pl),.list 8 (aM of)]),(3,bv (g || !cJ (bl.take i) 0 4096)),(4,bv ((bl.take i).any fun n=>n != 0)),(5,iv i)]) (fun _=>[]) (fun i=>i≤bl.length) (fun i=>bl.length - i) 0 (Nat.zero_le _) ?_ ?_
 ·rw[show(g || !cJ (bl.take 0) 0 4096)=g by simp[cJ],show((bl.take 0).any fun n=>n != 0)=false from rfl]
  exact Sub.w [] []
 ·rintro i hi
  refine aA ?_
  rw[l2]
  refine AWP.condN (i < bl.length) rfl rfl (fun h=>?_) (fun h=>?_)
  ·have r:=cU h
   have e1:cJ (bl.take (i+1)) 0 4096=(cJ (bl.take i) 0 4096 && aH (bl.getD i 0) 0 4096):=by
    rw[List.take_add_one,gEg h,show bl.getD i 0=bl[i] by simp[h]]
    exact vJ _ _ _ _
   have e2:((bl.take (i+1)).any fun n=>n != 0)=(((bl.take i).any fun n=>n != 0) || (bl.getD i 0 != 0)):=by
    rw[List.take_add_one,gEg h,show bl.getD i 0=bl[i] by simp[h],List.any_append]
    simp only[Option.toList_some,List.any_cons,List.any_nil,Bool.or_false]
   generalize (bl.take i).any (fun n=>n != 0)=s at *
   generalize cJ (bl.take i) 0 4096=a at *
   generalize bl.getD i 0=x at *
   unfold aH at e1
   obtain⟨w,hw⟩:∃ w,w=(g || !a):=⟨_,rfl⟩
   have e3:(g || !(a && (decide (0≤x) && decide (x≤4096))))=(w || (decide (x < 0) || decide (4096 < x))):=by
    rw[hw,show decide (0≤x)=!decide (x < 0) by(rw[← decide_not]; exact decide_eq_decide.2 (by omega)),show decide (x≤4096)=!decide (4096 < x) by(rw[← decide_not]; exact decide_eq_decide.2 (by omega))]
    cases g<;>cases a<;>simp
   rw[← hw]
   clear hw
   refine aA ?_
   cases w with
   | true=>
    refine aA ?_
    cases s with
    | true=>
     refine aA ?_
     (refine⟨i+1,by omega,by omega,?_⟩; rw[e1,e2,e3]; show Sub _ _ _ _ [(1,.cptr [iv k,iv c,iv b,iv st,.list 1 (inR sz),.list 1 (inR bl),.list 1 (inR pl),.list 8 (aM of)]),(3,bv true),(4,bv true),(5,iv ((i+1:Nat):Int))] []; exact Sub.w [] [])
    | false=>
     refine aA ?_
     (refine⟨i+1,by omega,by omega,?_⟩; rw[e1,e2,e3]; show Sub _ _ _ _ [(1,.cptr [iv k,iv c,iv b,iv st,.list 1 (inR sz),.list 1 (inR bl),.list 1 (inR pl),.list 8 (aM of)]),(3,bv true),(4,bv (x != 0)),(5,iv ((i+1:Nat):Int))] []; exact Sub.w [] [])
   | false=>
    refine aA ?_
    by_cases n1:x < 0
    ·rw[dTr n1] at e3 ⊢
     refine aA ?_
     cases s with
     | true=>
      refine aA ?_
      (refine⟨i+1,by omega,by omega,?_⟩; rw[e1,e2,e3]; show Sub _ _ _ _ [(1,.cptr [iv k,iv c,iv b,iv st,.list 1 (inR sz),.list 1 (inR bl),.list 1 (inR pl),.list 8 (aM of)]),(3,bv true),(4,bv true),(5,iv ((i+1:Nat):Int))] []; exact Sub.w [] [])
     | false=>
      refine aA ?_
      (refine⟨i+1,by omega,by omega,?_⟩; rw[e1,e2,e3]; show Sub _ _ _ _ [(1,.cptr [iv k,iv c,iv b,iv st,.list 1 (inR sz),.list 1 (inR bl),.list 1 (inR pl),.list 8 (aM of)]),(3,bv true),(4,bv (x != 0)),(5,iv ((i+1:Nat):Int))] []; exact Sub.w [] [])
    ·rw[dFa n1] at e3 ⊢
     refine aA ?_
     cases s with
     | true=>
      refine aA ?_
      (refine⟨i+1,by omega,by omega,?_⟩; rw[e1,e2,e3]; show Sub _ _ _ _ [(1,.cptr [iv k,iv c,iv b,iv st,.list 1 (inR sz),.list 1 (inR bl),.list 1 (inR pl),.list 8 (aM of)]),(3,bv (decide (4096 < x))),(4,bv true),(5,iv ((i+1:Nat):Int))] []; exact Sub.w [] [])
     | false=>
      refine aA ?_
      (refine⟨i+1,by omega,by omega,?_⟩; rw[e1,e2,e3]; show Sub _ _ _ _ [(1,.cptr [iv k,iv c,iv b,iv st,.list 1 (inR sz),.list 1 (inR bl),.list 1 (inR pl),.list 8 (aM of)]),(3,bv (decide (4096 < x))),(4,bv (x != 0)),(5,iv ((i+1:Nat):Int))] []; exact Sub.w [] [])
  ·obtain rfl:bl.length=i:=by omega
   rw[List.take_length]
   generalize (bl.any fun n=>n != 0)=s at *
   obtain⟨g2,hg2⟩:∃ g2,g2=(g || !cJ bl 0 4096):=⟨_,rfl⟩
   rw[← hg2]
   refine aA ?_
   refine AWP.loop (fun i:Nat=>[(1,.cptr [iv k,iv c,iv b,iv st,.list 1 (inR sz),.list 1 (inR bl),.list 1 (inR pl),.list 8 (aM of)]),(3,bv (g2 || !cJ (pl.take i) (-mP) mP)),(4,bv s),(6,iv i)]) (fun _=>[]) (fun i=>i≤pl.length) (fun i=>pl.length - i) 0 (Nat.zero_le _) ?_ ?_
   ·rw[show(g2 || !cJ (pl.take 0) (-mP) mP)=g2 by simp[cJ]]
    exact Sub.w [] []
   rintro i hi
   refine aA ?_
   rw[l3]
   refine AWP.condN (i < pl.length) rfl rfl (fun h=>?_) (fun h=>?_)
   ·have r:=cU h
    have e1:cJ (pl.take (i+1)) (-mP) mP=(cJ (pl.take i) (-mP) mP && aH (pl.getD i 0) (-mP) mP):=by
     rw[List.take_add_one,gEg h,show pl.getD i 0=pl[i] by simp[h]]
     exact vJ _ _ _ _
    have hf:=kO (pl.getD i 0)
    have e3:(g2 || !cJ (pl.take (i+1)) (-mP) mP)=((g2 || !cJ (pl.take i) (-mP) mP) || !aH (pl.getD i 0) (-mP) mP):=by
     rw[e1]
     cases g2<;>cases cJ (pl.take i) (-mP) mP<;>simp
    generalize (g2 || !cJ (pl.take i) (-mP) mP)=w at *
    generalize pl.getD i 0=x at *
    cases w with
    | true=>
     refine aA ?_
     refine⟨i+1,by omega,by omega,?_⟩
     rw[e3]
     show Sub _ _ _ _ [(1,.cptr [iv k,iv c,iv b,iv st,.list 1 (inR sz),.list 1 (inR bl),.list 1 (inR pl),.list 8 (aM of)]),(3,bv true),(4,bv s),(6,iv ((i+1:Nat):Int))] []
     exact Sub.w [] []
    | false=>
     refine aA ?_
     refine⟨i+1,by omega,by omega,?_⟩
     rw[e3]
     show Sub _ _ _ _ [(1,.cptr [iv k,iv c,iv b,iv st,.list 1 (inR sz),.list 1 (inR bl),.list 1 (inR pl),.list 8 (aM of)]),(3,bv (!aH x (-mP) mP)),(4,bv s),(6,iv ((i+1:Nat):Int))] []
     exact Sub.w [] []
   ·obtain rfl:pl.length=i:=by omega
    rw[List.take_length]
    refine AWP.exit ?_
    refine AWP.sub ?_ (num4 (k:=k) (c:=c) (b:=b) (st:=st) (of:=of) (s:=s) h10 h11 hsz)
    exact Sub.w [] []
def AW (k c b st:Int) (sz bl pl:List Int):Bool:=!(((wR k c b st || !cJ bl 0 4096) || !cJ pl (-mP) mP) || (if k=8∨k=9 then !(bl.any fun n=>n != 0) else if k=10 then decide (pl.getD 1 0 < 0) else if k=11 then !gK sz bl pl sz.length else false))
set_option maxHeartbeats 4000000 in
theorem t5 {k c b st:Int} {sz bl pl:List Int} {of:List Ty} (h10:k=10→pl.length=2) (h11:k=11→bl.length=sz.length∧pl.length=sz.length) (hsz:sz.length≤1000000) (hbl:bl.length≤1000000) (hpl:pl.length≤1000000):
  aB Tryz.prog 179 [.agg (tyR (.mk k c b st sz bl pl of))] (iv (if AW k c b st sz bl pl=true then 0 else 3)):=by
 rw[tyR]
 refine aB.mkI cF179 (nlB rfl) ?_
 have hf:=kO st
 have e0:(if AW k c b st sz bl pl=true then(0:Int) else 3)=if (((wR k c b st || !cJ bl 0 4096) || !cJ pl (-mP) mP) || (if k=8∨k=9 then !(bl.any fun n=>n != 0) else if k=10 then decide (pl.getD 1 0 < 0) else if k=11 then !gK sz bl pl sz.length else false))=true then 3 else 0:=by
  unfold AW
  generalize (((wR k c b st || !cJ bl 0 4096) || !cJ pl (-mP) mP) || (if k=8∨k=9 then !(bl.any fun n=>n != 0) else if k=10 then decide (pl.getD 1 0 < 0) else if k=11 then !gK sz bl pl sz.length else false))=w
  cases w<;>rfl
 rw[e0]
 have key:∀ g,g=wR k c b st→AWP Tryz.prog F179.n 0 (iC [1,1,1,1] F179.code) (aI F179.res (iv (if (((wR k c b st || !cJ bl 0 4096) || !cJ pl (-mP) mP) || (if k=8∨k=9 then !(bl.any fun n=>n != 0) else if k=10 then decide (pl.getD 1 0 < 0) else if k=11 then !gK sz bl pl sz.length else false))=true then 3 else 0))) [(1,.cptr [iv k,iv c,iv b,iv st,.list 1 (inR sz),.list 1 (inR bl),.list 1 (inR pl),.list 8 (aM of)]),(3,bv g)] []:=fun g hg=>by
  subst hg
  exact num2 h10 h11 hsz hbl hpl
 generalize (if (((wR k c b st || !cJ bl 0 4096) || !cJ pl (-mP) mP) || (if k=8∨k=9 then !(bl.any fun n=>n != 0) else if k=10 then decide (pl.getD 1 0 < 0) else if k=11 then !gK sz bl pl sz.length else false))=true then(3:Int) else 0)=V at *
 unfold wR LF at key
 have w1:∀ x:Int,(!aH x 1 4096)=(decide (x < 1) || decide (4096 < x)):=fun x=>by
  unfold aH
  rw[Bool.not_and,← decide_not,← decide_not,decide_eq_decide.2 (show¬ 1≤x↔x < 1 by omega),decide_eq_decide.2 (show¬ x≤4096↔4096 < x by omega)]
 rw[w1,w1] at key
 clear w1 e0
 generalize (!aH st (-mP) mP)=g at *
 refine AWP.seq ?_
 refine AWP.region ?_
 refine qR ?_
 refine AWP.seq ?_
 refine AWP.region ?_
 refine qR ?_
 refine AWP.joinE (σ:=Unit) (fun _=>[(1,.cptr [iv k,iv c,iv b,iv st,.list 1 (inR sz),.list 1 (inR bl),.list 1 (inR pl),.list 8 (aM of)]),(3,bv (g || (decide (k=6∨k=7) && (decide (c < 1) || decide (4096 < c)))))]) (fun _=>[]) (fun _=>True) ?_ ?_
 ·by_cases k6:k=6
  ·rw[show decide (k=6∨k=7)=true by simp[k6],Bool.true_and]
   subst k6
   (cases g with | true=>(refine aA ?_; (refine⟨(),trivial,?_⟩; exact Sub.w [] [])) | false=>(refine aA ?_; by_cases n1:c < 1; (rw[dTr n1]; refine aA ?_; (refine⟨(),trivial,?_⟩; exact Sub.w [] [])); rw[dFa n1]; refine aA ?_; (refine⟨(),trivial,?_⟩; exact Sub.w [] [])))
  by_cases k7:k=7
  ·rw[show decide (k=6∨k=7)=true by simp[k7],Bool.true_and]
   subst k7
   (cases g with | true=>(refine aA ?_; (refine⟨(),trivial,?_⟩; exact Sub.w [] [])) | false=>(refine aA ?_; by_cases n1:c < 1; (rw[dTr n1]; refine aA ?_; (refine⟨(),trivial,?_⟩; exact Sub.w [] [])); rw[dFa n1]; refine aA ?_; (refine⟨(),trivial,?_⟩; exact Sub.w [] [])))
  ·rw[show decide (k=6∨k=7)=false by simp[k6,k7],Bool.false_and,Bool.or_false]
   refine aA ?_
   rw[show(k == 6)=false by simpa using k6]
   refine aA ?_
   refine AWP.condN (k=7) rfl rfl (fun h=>absurd h k7) (fun _=>?_)
   refine aA ?_
   (refine⟨(),trivial,?_⟩; exact Sub.w [] [])
 rintro _ _
 generalize (g || (decide (k=6∨k=7) && (decide (c < 1) || decide (4096 < c))))=g at *
 refine AWP.joinE (σ:=Unit) (fun _=>[(1,.cptr [iv k,iv c,iv b,iv st,.list 1 (inR sz),.list 1 (inR bl),.list 1 (inR pl),.list 8 (aM of)]),(3,bv (g || (decide (k=7) && (decide (b < 1) || decide (4096 < b)))))]) (fun _=>[]) (fun _=>True) ?_ ?_
 ·by_cases k7:k=7
  ·rw[dTr k7,Bool.true_and]
   subst k7
   (cases g with | true=>(refine aA ?_; (refine⟨(),trivial,?_⟩; exact Sub.w [] [])) | false=>(refine aA ?_; by_cases n1:b < 1; (rw[dTr n1]; refine aA ?_; (refine⟨(),trivial,?_⟩; exact Sub.w [] [])); rw[dFa n1]; refine aA ?_; (refine⟨(),trivial,?_⟩; exact Sub.w [] [])))
  ·rw[dFa k7,Bool.false_and,Bool.or_false]
   refine aA ?_
   refine AWP.condN (k=7) rfl rfl (fun h=>absurd h k7) (fun _=>?_)
   refine aA ?_
   (refine⟨(),trivial,?_⟩; exact Sub.w [] [])
 rintro _ _
 exact key _ rfl
theorem oD {k c b st:Int} {sz bl pl:List Int} {n:Nat} (h:cV k c b st sz bl pl n=0):(fl1 k=true∨c=0)∧(fl2 k=true∨b=0∧st=0)∧(fl3 k=true∨bl=[])∧(fl4 k=true∨pl=[])∧(fl5 k=true∨sz=[]):=by
 unfold cV at h
 split at h
 ·cases h
 ·rename_i q
  simp only[rI,Bool.or_eq_true,Bool.and_eq_true,Bool.not_eq_true',bne_iff_ne,decide_eq_true_eq,not_or,not_and] at q
  obtain⟨q1,q2,q3,q4,q5,_⟩:=q
  refine⟨?_,?_,?_,?_,?_⟩
  ·cases e:fl1 k with
   | true=>exact .inl rfl
   | false=>exact .inr (Decidable.byContradiction (q1 e))
  ·cases e:fl2 k with
   | true=>exact .inl rfl
   | false=>exact .inr ⟨Decidable.byContradiction (q2 e).1,Decidable.byContradiction (q2 e).2⟩
  ·cases e:fl3 k with
   | true=>exact .inl rfl
   | false=>exact .inr (List.eq_nil_of_length_eq_zero (by have:=q3 e; omega))
  ·cases e:fl4 k with
   | true=>exact .inl rfl
   | false=>exact .inr (List.eq_nil_of_length_eq_zero (by have:=q4 e; omega))
  ·cases e:fl5 k with
   | true=>exact .inl rfl
   | false=>exact .inr (List.eq_nil_of_length_eq_zero (by have:=q5 e; omega))
theorem CX {l:List Int} (h:cJ l 0 4096=true):(l.any fun n=>n != 0)=l.any fun n=>decide (0 < n):=by
 unfold cJ aH at h
 rw[List.all_eq_true] at h
 rw[Bool.eq_iff_iff,List.any_eq_true,List.any_eq_true]
 constructor
 ·rintro⟨x,hx,q⟩
  have:=h x hx
  simp only[Bool.and_eq_true,decide_eq_true_eq] at this
  simp only[bne_iff_ne] at q
  exact⟨x,hx,by simp only[decide_eq_true_eq]; omega⟩
 ·rintro⟨x,hx,q⟩
  simp only[decide_eq_true_eq] at q
  exact⟨x,hx,by simp only[bne_iff_ne]; omega⟩
theorem GQ {sz bl pl:List Int} (hl:bl.length=sz.length) (h:gK sz bl pl sz.length=true):cJ bl 0 4096=true:=by
 unfold cJ
 rw[List.all_eq_true]
 intro x hx
 obtain⟨i,hi,rfl⟩:=List.mem_iff_getElem.1 hx
 unfold gK at h
 have:=List.all_eq_true.1 h i (List.mem_range.2 (by omega))
 simp only[I1,aH,Bool.and_eq_true,decide_eq_true_eq] at this ⊢
 have e:bl.getD i 0=bl[i]:=by simp[hi]
 rw[e] at this
 omega
theorem IF {k c b st:Int} {sz bl pl:List Int} {n:Nat} (hk:6≤k∧k≤11) (h:cV k c b st sz bl pl n=0):AW k c b st sz bl pl=oV k c b st sz bl pl:=by
 obtain⟨i1,i2,i3,i4,i5,i6⟩:=gV hk h
 obtain⟨b1,b2,b3,b4,b5⟩:=oD h
 unfold AW wR LF oV
 generalize aH st (-mP) mP=ws
 generalize hwp:cJ pl (-mP) mP=wp
 obtain rfl | rfl | rfl | rfl | rfl | rfl:k=6∨k=7∨k=8∨k=9∨k=10∨k=11:=by omega
 ·have e:bl=[]:=by rcases b3 with q | q; cases q; exact q
  subst e
  rw[show cJ [] 0 4096=true from rfl]
  generalize aH c 1 4096=wc
  cases ws<;>cases wp<;>cases wc<;>rfl
 ·have e:bl=[]:=by rcases b3 with q | q; cases q; exact q
  subst e
  rw[show cJ [] 0 4096=true from rfl]
  generalize aH c 1 4096=wc
  generalize aH b 1 4096=wb
  cases ws<;>cases wp<;>cases wc<;>cases wb<;>rfl
 ·rw[if_pos (show(8:Int)=8∨(8:Int)=9 by decide),if_neg (show¬ (8:Int)=6 by decide),if_neg (show¬ (8:Int)=7 by decide),if_pos (show(8:Int)=8∨(8:Int)=9 by decide)]
  unfold qQ
  cases wb:cJ bl 0 4096 with
  | false=>cases ws<;>cases wp<;>simp
  | true=>
   rw[CX wb]
   generalize (bl.any fun n=>decide (0 < n))=an
   cases ws<;>cases wp<;>cases an<;>rfl
 ·rw[if_pos (show(9:Int)=8∨(9:Int)=9 by decide),if_neg (show¬ (9:Int)=6 by decide),if_neg (show¬ (9:Int)=7 by decide),if_pos (show(9:Int)=8∨(9:Int)=9 by decide)]
  unfold qQ
  cases wb:cJ bl 0 4096 with
  | false=>cases ws<;>cases wp<;>simp
  | true=>
   rw[CX wb]
   generalize (bl.any fun n=>decide (0 < n))=an
   cases ws<;>cases wp<;>cases an<;>rfl
 ·have e:bl=[]:=by rcases b3 with q | q; cases q; exact q
  subst e
  rw[show cJ [] 0 4096=true from rfl]
  generalize pl.getD 1 0=y
  rw[if_neg (show¬ ((10:Int)=8∨(10:Int)=9) by decide),if_pos (rfl:(10:Int)=10),if_neg (show¬ (10:Int)=6 by decide),if_neg (show¬ (10:Int)=7 by decide),if_neg (show¬ ((10:Int)=8∨(10:Int)=9) by decide),if_pos (rfl:(10:Int)=10),show decide (0≤y)=!decide (y < 0) by(rw[← decide_not]; exact decide_eq_decide.2 (by omega))]
  generalize decide (y < 0)=d
  cases ws<;>cases wp<;>cases d<;>rfl
 ·rw[if_neg (show¬ ((11:Int)=8∨(11:Int)=9) by decide),if_neg (show¬ (11:Int)=10 by decide),if_pos (rfl:(11:Int)=11),if_neg (show¬ (11:Int)=6 by decide),if_neg (show¬ (11:Int)=7 by decide),if_neg (show¬ ((11:Int)=8∨(11:Int)=9) by decide),if_neg (show¬ (11:Int)=10 by decide),show uK sz bl pl=gK sz bl pl sz.length from rfl]
  cases ws2:gK sz bl pl sz.length with
  | false=>cases ws<;>cases wp<;>simp
  | true=>
   rw[GQ (i6 rfl).2.2.1 ws2]
   cases ws<;>cases wp<;>rfl
theorem FP {k c b st:Int} {sz bl pl:List Int} {n:Nat} (hk:1≤k∧k≤5) (h:cV k c b st sz bl pl n=0):AW k c b st sz bl pl=true:=by
 obtain⟨b1,b2,b3,b4,b5⟩:=oD h
 obtain rfl | rfl | rfl | rfl | rfl:k=1∨k=2∨k=3∨k=4∨k=5:=by omega
 all_goals
  obtain⟨e1,e2⟩:b=0∧st=0:=by rcases b2 with q | q; cases q; exact q
  obtain e3:bl=[]:=by rcases b3 with q | q; cases q; exact q
  obtain e4:pl=[]:=by rcases b4 with q | q; cases q; exact q
  subst e1 e2 e3 e4
  rfl
def eK (l:List Shp) (i:Nat):Nat:=(l.getD i shp0).es.length
def shL (l:List Shp):List (List AV):=l.map shR
theorem gT (l:List Shp):(shL l).length=l.length:=by simp[shL]
theorem jJ (l:List Shp) (i:Nat) (h:i < l.length):eI (shL l) (i:Int)=some (shR (l.getD i shp0)):=by
 have:=j8 shR l i h
 rw[show l.getD i shp0=l[i] by simp[h]]
 exact this
instance (l:List Shp):PRs (shL l):=by unfold shL; infer_instance
def kJ (bl:List Int) (l:List Shp):Nat→Int
 | 0=>0
 | n+1=>kJ bl l n+bl.getD n 0 * eK l (min n (l.length - 1))
def j6:List Int→Int→Int
 | [],n=>n
 | x::xs,n=>if n≤4096 then j6 xs (n * x) else n
def EJ (k c b:Int) (bl:List Int) (l:List Shp):Int:=
 if k=6 then c * eK l 0 else if k=7 then c * b * eK l 0 else if k=8∨k=9 then kJ bl l bl.length else if k=10 then eK l 0 else if k=11 then j6 bl (eK l 0) else 1
theorem xK {bl:List Int} {l:List Shp} (h1:∀ i,eK l i≤4096) (h2:∀ i,0≤bl.getD i 0∧bl.getD i 0≤4096):∀ n:Nat,0≤kJ bl l n∧kJ bl l n≤n * 16777216
 | 0=>⟨Int.le_refl _,Int.le_refl _⟩
 | n+1=>by
  obtain⟨q1,q2⟩:=xK h1 h2 n
  obtain⟨q3,q4⟩:=h2 n
  have q5:=h1 (min n (l.length - 1))
  have m1:0≤bl.getD n 0 * (eK l (min n (l.length - 1)):Int):=Int.mul_nonneg q3 (by omega)
  have m2:bl.getD n 0 * (eK l (min n (l.length - 1)):Int)≤4096 * 4096:=Int.mul_le_mul q4 (by omega) (by omega) (by omega)
  unfold kJ
  rw[Int.natCast_add]
  omega
set_option maxHeartbeats 4000000 in
theorem I7 {k c b st:Int} {sz bl pl:List Int} {of:List Ty} {l:List Shp} (h1:∀ i,eK l i≤4096) (hl:6≤k∧k≤11→l≠[]) (hc:0≤c∧c≤4096) (hb:0≤b∧b≤4096) (h2:∀ i,0≤bl.getD i 0∧bl.getD i 0≤4096) (hbl:bl.length≤4096) (hn:l.length≤1000000):
  aB Tryz.prog 180 [.agg (tyR (.mk k c b st sz bl pl of)),.list 3 (shL l)] (iv (EJ k c b bl l)):=by
 rw[tyR]
 refine aB.mkI cF180 (nlB rfl) ?_
 obtain⟨C,rfl⟩:∃ C:Nat,c=C:=⟨c.toNat,by omega⟩
 obtain⟨B,rfl⟩:∃ B:Nat,b=B:=⟨b.toNat,by omega⟩
 have hll:=gT l
 have hel:=bK (l.getD 0 shp0).es
 have h10:=h1 0
 unfold EJ
 by_cases hk:6≤k∧k≤11
 ·have hl0:=List.length_pos_iff.2 (hl hk)
  have r0:=jJ l 0 hl0
  unfold eK at h10 ⊢
  generalize l.getD 0 shp0=s0 at *
  unfold shR at r0
  have m1:C * s0.es.length≤4096 * 4096:=Nat.mul_le_mul (by omega) h10
  have m2:C * B≤4096 * 4096:=Nat.mul_le_mul (by omega) (by omega)
  have m3:C * B * s0.es.length≤4096 * 4096 * 4096:=Nat.mul_le_mul m2 h10
  obtain rfl | rfl | rfl | rfl | rfl | rfl:k=6∨k=7∨k=8∨k=9∨k=10∨k=11:=by omega
  ·refine aA ?_
   refine DK.nil ⟨by kernel_rfl,?_⟩
   refine aA ?_
   refine LB (.inr rfl) rfl ?_
   rw[hel,if_pos rfl,← Int.natCast_mul,Av.wrap_small (by omega) (by omega)]
  ·refine aA ?_
   refine DK.nil ⟨by kernel_rfl,?_⟩
   refine aA ?_
   refine LB (.inr rfl) rfl ?_
   rw[hel,if_neg (by decide),if_pos rfl,← Int.natCast_mul,← Int.natCast_mul,Av.wrap_small (by omega) (by omega),Int.natCast_mul]
  ·rw[if_neg (by decide),if_neg (by decide),if_pos (.inl rfl)]
   have l2:=bA bl
   refine aA ?_
   refine AWP.loop (fun i:Nat=>[(1,.list 3 (shL l)),(2,.cptr [iv 8,iv (C:Nat),iv (B:Nat),iv st,.list 1 (inR sz),.list 1 (inR bl),.list 1 (inR pl),.list 8 (aM of)]),(5,iv (kJ bl l i)),(6,iv i)]) (fun _=>[]) (fun i=>i≤bl.length) (fun i=>bl.length - i) 0 (Nat.zero_le _) ?_ ?_
   ·exact Sub.w [] []
   rintro i hi
   refine aA ?_
   rw[l2]
   refine AWP.condN (i < bl.length) rfl rfl (fun h=>?_) (fun h=>?_)
   ·have r2:=cU h
    have r3:=jJ l (min i (l.length - 1)) (by omega)
    have hes:kJ bl l (i+1)=kJ bl l i+bl.getD i 0 * (eK l (min i (l.length - 1)):Int):=rfl
    obtain⟨q1,q2⟩:=xK h1 h2 i
    obtain⟨q3,q4⟩:=h2 i
    have q5:=h1 (min i (l.length - 1))
    have u1:0≤bl.getD i 0 * (eK l (min i (l.length - 1)):Int):=Int.mul_nonneg q3 (by omega)
    have u2:bl.getD i 0 * (eK l (min i (l.length - 1)):Int)≤4096 * 4096:=Int.mul_le_mul q4 (by omega) (by omega) (by omega)
    unfold eK at hes q5 u1 u2
    have hel2:=bK (l.getD (min i (l.length - 1)) shp0).es
    generalize l.getD (min i (l.length - 1)) shp0=s1 at *
    unfold shR at r3
    generalize kJ bl l i=n at *
    generalize bl.getD i 0=x at *
    rw[← hll] at r3
    have hl1:0 < (shL l).length:=by omega
    refine aA ?_
    rw[hel2,Av.wrap_small (show -9223372036854775808≤x * (s1.es.length:Int) by omega) (by omega),Av.wrap_small (show -9223372036854775808≤n+x * (s1.es.length:Int) by omega) (by omega)]
    refine DK.nil ⟨by kernel_rfl,?_⟩
    refine aA ?_
    refine⟨i+1,by omega,by omega,?_⟩
    rw[hes]
    exact Sub.w [] []
   ·obtain rfl:bl.length=i:=by omega
    refine aA ?_
    exact aI.w
  ·rw[if_neg (by decide),if_neg (by decide),if_pos (.inr rfl)]
   have l2:=bA bl
   refine aA ?_
   refine AWP.loop (fun i:Nat=>[(1,.list 3 (shL l)),(2,.cptr [iv 9,iv (C:Nat),iv (B:Nat),iv st,.list 1 (inR sz),.list 1 (inR bl),.list 1 (inR pl),.list 8 (aM of)]),(5,iv (kJ bl l i)),(6,iv i)]) (fun _=>[]) (fun i=>i≤bl.length) (fun i=>bl.length - i) 0 (Nat.zero_le _) ?_ ?_
   ·exact Sub.w [] []
   rintro i hi
   refine aA ?_
   rw[l2]
   refine AWP.condN (i < bl.length) rfl rfl (fun h=>?_) (fun h=>?_)
   ·have r2:=cU h
    have r3:=jJ l (min i (l.length - 1)) (by omega)
    have hes:kJ bl l (i+1)=kJ bl l i+bl.getD i 0 * (eK l (min i (l.length - 1)):Int):=rfl
    obtain⟨q1,q2⟩:=xK h1 h2 i
    obtain⟨q3,q4⟩:=h2 i
    have q5:=h1 (min i (l.length - 1))
    have u1:0≤bl.getD i 0 * (eK l (min i (l.length - 1)):Int):=Int.mul_nonneg q3 (by omega)
    have u2:bl.getD i 0 * (eK l (min i (l.length - 1)):Int)≤4096 * 4096:=Int.mul_le_mul q4 (by omega) (by omega) (by omega)
    unfold eK at hes q5 u1 u2
    have hel2:=bK (l.getD (min i (l.length - 1)) shp0).es
    generalize l.getD (min i (l.length - 1)) shp0=s1 at *
    unfold shR at r3
    generalize kJ bl l i=n at *
    generalize bl.getD i 0=x at *
    rw[← hll] at r3
    have hl1:0 < (shL l).length:=by omega
    refine aA ?_
    rw[hel2,Av.wrap_small (show -9223372036854775808≤x * (s1.es.length:Int) by omega) (by omega),Av.wrap_small (show -9223372036854775808≤n+x * (s1.es.length:Int) by omega) (by omega)]
    refine DK.nil ⟨by kernel_rfl,?_⟩
    refine aA ?_
    refine⟨i+1,by omega,by omega,?_⟩
    rw[hes]
    exact Sub.w [] []
   ·obtain rfl:bl.length=i:=by omega
    refine aA ?_
    exact aI.w
  ·refine aA ?_
   refine LB (.inr rfl) rfl ?_
   rw[hel]
   rfl
  ·have l2:=bA bl
   rw[if_neg (by decide),if_neg (by decide),if_neg (by decide),if_neg (by decide),if_pos rfl]
   refine aA ?_
   rw[hel]
   generalize hV:j6 bl (s0.es.length:Nat)=V at *
   refine AWP.loop (fun s:Nat×Int=>[(2,.cptr [iv 11,iv (C:Nat),iv (B:Nat),iv st,.list 1 (inR sz),.list 1 (inR bl),.list 1 (inR pl),.list 8 (aM of)]),(5,iv s.2),(7,iv s.1)]) (fun _=>[]) (fun s=>s.1≤bl.length∧j6 (bl.drop s.1) s.2=V∧0≤s.2∧s.2≤16777216) (fun s=>bl.length - s.1) (0,(s0.es.length:Nat)) ⟨Nat.zero_le _,hV,by show(0:Int)≤(s0.es.length:Nat); omega,by show((s0.es.length:Nat):Int)≤_; omega⟩ ?_ ?_
   ·show Sub _ _ _ _ [(2,.cptr [iv 11,iv (C:Nat),iv (B:Nat),iv st,.list 1 (inR sz),.list 1 (inR bl),.list 1 (inR pl),.list 8 (aM of)]),(5,iv (s0.es.length:Nat)),(7,iv 0)] []
    exact Sub.w [] []
   rintro⟨i,n⟩ ⟨hi,hv,n1,n2⟩
   replace hi:i≤bl.length:=hi
   replace hv:j6 (bl.drop i) n=V:=hv
   replace n1:0≤n:=n1
   replace n2:n≤16777216:=n2
   show AWP _ _ _ _ _ [(2,.cptr [iv 11,iv (C:Nat),iv (B:Nat),iv st,.list 1 (inR sz),.list 1 (inR bl),.list 1 (inR pl),.list 8 (aM of)]),(5,iv n),(7,iv i)] []
   refine aA ?_
   rw[l2]
   by_cases h:i < bl.length
   ·have r2:=cU h
    obtain⟨q3,q4⟩:=h2 i
    have hd:j6 (bl.drop i) n=if n≤4096 then j6 (bl.drop (i+1)) (n * bl.getD i 0) else n:=by
     rw[List.drop_eq_getElem_cons h,show bl.getD i 0=bl[i] by simp[h]]
     rfl
    rw[hd] at hv
    generalize bl.getD i 0=x at *
    rw[dTr h]
    refine aA ?_
    by_cases h4:n≤4096
    ·rw[dTr h4]
     rw[if_pos h4] at hv
     have u1:0≤n * x:=Int.mul_nonneg n1 q3
     have u2:n * x≤4096 * 4096:=Int.mul_le_mul h4 q4 (by omega) (by omega)
     refine aA ?_
     rw[Av.wrap_small (show -9223372036854775808≤n * x by omega) (by omega)]
     refine⟨(i+1,n * x),⟨by show i+1≤_; omega,hv,u1,by show n * x≤_; omega⟩,by show _ - (i+1) < _ - i; omega,?_⟩
     show Sub _ _ _ _ [(2,.cptr [iv 11,iv (C:Nat),iv (B:Nat),iv st,.list 1 (inR sz),.list 1 (inR bl),.list 1 (inR pl),.list 8 (aM of)]),(5,iv (n * x)),(7,iv ((i+1:Nat):Int))] []
     exact Sub.w [] []
    ·rw[if_neg h4] at hv
     rw[dFa h4,← hv]
     refine aA ?_
     exact aI.w
   ·obtain rfl:bl.length=i:=by omega
    rw[List.drop_length] at hv
    replace hv:n=V:=hv
    rw[dFa h,← hv]
    refine aA ?_
    exact aI.w
 ·rw[if_neg (by omega),if_neg (by omega),if_neg (by omega),if_neg (by omega),if_neg (by omega)]
  refine aA ?_
  refine AWP.condN (k=6) rfl rfl (fun h=>by omega) (fun _=>?_)
  refine aA ?_
  refine AWP.condN (k=7) rfl rfl (fun h=>by omega) (fun _=>?_)
  refine aA ?_
  refine AWP.condN (k=8) rfl rfl (fun h=>by omega) (fun _=>?_)
  refine aA ?_
  refine AWP.condN (k=9) rfl rfl (fun h=>by omega) (fun _=>?_)
  refine aA ?_
  refine AWP.condN (k=10) rfl rfl (fun h=>by omega) (fun _=>?_)
  refine aA ?_
  refine AWP.condN (k=11) rfl rfl (fun h=>by omega) (fun _=>?_)
  refine aA ?_
  exact aI.w
theorem IN {s x:Shp} {by':Int} (B D:Blk) (hs:stB s) (hx:shB x) (h1:-1200000000000000000≤by') (h2:by'≤1200000000000000000):
  aG Tryz.prog 203 [.agg [.hsl 0 0 0 s.es.length,iv s.lo,iv s.hi],.agg [.list 2 (enR x.es),iv x.lo,iv x.hi],iv by'] [[.cells 2 (enR s.es)],[B],[D]] fun res H'=>
   res=.agg [.hsl 3 0 0 (cO s x by').es.length,iv (cO s x by').lo,iv (cO s x by').hi]∧H'=[[.dead],[B],[D],[.cells 2 (enR (cO s x by').es)]]:=by
 refine aG.ins [[B],[D]] (H0:=[[.cells 2 (enR s.es)]]) (C3 hs hx h1 h2) ⟨rfl,fun _ _=>rfl,fun g i y hy=>?_⟩ (fun a ha=>?_) ?_
 ·obtain⟨rfl,rfl,rfl⟩:=jR _ hy
  exact⟨rfl,.pure _ _ (prs _)⟩
 ·simp only[List.mem_cons,List.not_mem_nil,or_false] at ha
  rcases ha with rfl | rfl | rfl
  ·refine .agg _ _ rfl fun j c d e1 e2=>?_
   match j,e1,e2 with
   | 0,e1,e2=>injection e1 with e1; injection e2 with e2; subst e1 e2; exact .hsl _ _ _ _ _ _ (pK rfl)
   | 1,e1,e2=>injection e1 with e1; injection e2 with e2; subst e1 e2; exact .sc _
   | 2,e1,e2=>injection e1 with e1; injection e2 with e2; subst e1 e2; exact .sc _
   | j+3,e1,_=>simp at e1
  ·exact .pure (pv _)
  ·exact .sc _
 ·rintro res H' ⟨rfl,rfl⟩
  refine⟨.agg [.hsl 3 0 0 (cO s x by').es.length,iv (cO s x by').lo,iv (cO s x by').hi],[[.dead]],[[.cells 2 (enR (cO s x by').es)]],[[.dead]],[[.cells 2 (enR (cO s x by').es)]],rfl,rfl,rfl,fun g i h=>?_,?_,fun g i y hy hl=>?_,fun g i h=>?_,fun g i y hy hl=>?_,fun _ _ h=>h,rfl,rfl⟩
  ·match g,i,h with
   | 0,0,_=>rfl
   | 0,i+1,h=>simp[hget] at h
   | g+1,i,h=>simp[hget] at h
  ·refine .agg _ _ rfl fun j c d e1 e2=>?_
   match j,e1,e2 with
   | 0,e1,e2=>injection e1 with e1; injection e2 with e2; subst e1 e2; exact .hsl _ _ _ _ _ _ rfl
   | 1,e1,e2=>injection e1 with e1; injection e2 with e2; subst e1 e2; exact .sc _
   | 2,e1,e2=>injection e1 with e1; injection e2 with e2; subst e1 e2; exact .sc _
   | j+3,e1,_=>simp at e1
  ·obtain⟨rfl,rfl,rfl⟩:=jR _ hy
   cases hl
  ·match g,i,h with
   | 0,0,_=>rfl
   | 0,i+1,h=>simp[hget] at h
   | g+1,i,h=>simp[hget] at h
  ·obtain⟨rfl,rfl,rfl⟩:=jR _ hy
   exact⟨_,rfl,.pure _ _ (prs _)⟩
theorem xI {s x:Shp} {by':Int} (B D:Blk) (E:List Blk) (hs:stB s) (hx:shB x) (h1:-1200000000000000000≤by') (h2:by'≤1200000000000000000):
  aG Tryz.prog 203 [.agg [.hsl 0 0 0 s.es.length,iv s.lo,iv s.hi],.agg [.list 2 (enR x.es),iv x.lo,iv x.hi],iv by'] [[.cells 2 (enR s.es)],[B],[D],E] fun res H'=>
   res=.agg [.hsl 4 0 0 (cO s x by').es.length,iv (cO s x by').lo,iv (cO s x by').hi]∧H'=[[.dead],[B],[D],E,[.cells 2 (enR (cO s x by').es)]]:=by
 refine aG.ins [[B],[D],E] (H0:=[[.cells 2 (enR s.es)]]) (C3 hs hx h1 h2) ⟨rfl,fun _ _=>rfl,fun g i y hy=>?_⟩ (fun a ha=>?_) ?_
 ·obtain⟨rfl,rfl,rfl⟩:=jR _ hy
  exact⟨rfl,.pure _ _ (prs _)⟩
 ·simp only[List.mem_cons,List.not_mem_nil,or_false] at ha
  rcases ha with rfl | rfl | rfl
  ·refine .agg _ _ rfl fun j c d e1 e2=>?_
   match j,e1,e2 with
   | 0,e1,e2=>injection e1 with e1; injection e2 with e2; subst e1 e2; exact .hsl _ _ _ _ _ _ (pK rfl)
   | 1,e1,e2=>injection e1 with e1; injection e2 with e2; subst e1 e2; exact .sc _
   | 2,e1,e2=>injection e1 with e1; injection e2 with e2; subst e1 e2; exact .sc _
   | j+3,e1,_=>simp at e1
  ·exact .pure (pv _)
  ·exact .sc _
 ·rintro res H' ⟨rfl,rfl⟩
  refine⟨.agg [.hsl 4 0 0 (cO s x by').es.length,iv (cO s x by').lo,iv (cO s x by').hi],[[.dead]],[[.cells 2 (enR (cO s x by').es)]],[[.dead]],[[.cells 2 (enR (cO s x by').es)]],rfl,rfl,rfl,fun g i h=>?_,?_,fun g i y hy hl=>?_,fun g i h=>?_,fun g i y hy hl=>?_,fun _ _ h=>h,rfl,rfl⟩
  ·match g,i,h with
   | 0,0,_=>rfl
   | 0,i+1,h=>simp[hget] at h
   | g+1,i,h=>simp[hget] at h
  ·refine .agg _ _ rfl fun j c d e1 e2=>?_
   match j,e1,e2 with
   | 0,e1,e2=>injection e1 with e1; injection e2 with e2; subst e1 e2; exact .hsl _ _ _ _ _ _ rfl
   | 1,e1,e2=>injection e1 with e1; injection e2 with e2; subst e1 e2; exact .sc _
   | 2,e1,e2=>injection e1 with e1; injection e2 with e2; subst e1 e2; exact .sc _
   | j+3,e1,_=>simp at e1
  ·obtain⟨rfl,rfl,rfl⟩:=jR _ hy
   cases hl
  ·match g,i,h with
   | 0,0,_=>rfl
   | 0,i+1,h=>simp[hget] at h
   | g+1,i,h=>simp[hget] at h
  ·obtain⟨rfl,rfl,rfl⟩:=jR _ hy
   exact⟨_,rfl,.pure _ _ (prs _)⟩
def zS:List AV:=[.sc (.slice none 0 0),iv 0,iv 0]
def bH (s:Shp):Heap:=[[.cells 2 (enR s.es)],[.cells 3 [[.hsl 0 0 0 s.es.length,iv s.lo,iv s.hi]]],[.cells 3 [zS]]]
def cK (of:List Shp) (l:List (Int×Int)):Shp:=l.foldl (fun s m=>cO s (of.getD m.1.toNat shp0) m.2) shp0
theorem lH (of:List Shp) (l:List (Int×Int)) (m:Int×Int):cK of (l++[m])=cO (cK of l) (of.getD m.1.toNat shp0) m.2:=by simp[cK]
set_option maxHeartbeats 4000000 in
theorem PG {c b st:Int} {sz bl pl:List Int} {of:List Ty} {l:List Shp} (hl:l≠[]) (hx:shB (l.getD 0 shp0)) (hc:1≤c∧c≤4096) (hn:∀ i:Nat,(i:Int)≤c→stB (cK l ((List.range i).map fun i:Nat=>(0,(i:Int) * (l.getD 0 shp0).ext)))) (_hln:l.length≤1000000):
  aG Tryz.prog 181 [.agg (tyR (.mk 6 c b st sz bl pl of)),.list 3 (shL l)] [] fun res H'=>res=.agg (shR (cK l (bE c (l.getD 0 shp0).ext)))∧H'=[]:=by
 rw[tyR]
 refine aG.of sJ ?_ (nlB rfl)
 have hb:=eR 6
 have hl0:=List.length_pos_iff.2 hl
 have r0:=jJ l 0 hl0
 have hll:=gT l
 obtain⟨C,rfl⟩:∃ C:Nat,c=C:=⟨c.toNat,by omega⟩
 have hpu:=fun s B D by' hs h1 h2=>@IN s (l.getD 0 shp0) by' B D hs hx h1 h2
 have hxb:=hx
 obtain⟨b1,b2,b3,b4,b5,b6,b7,b8,b9⟩:=hxb
 have hexd:(l.getD 0 shp0).ext=(l.getD 0 shp0).hi - (l.getD 0 shp0).lo:=rfl
 have hsn:∀ i:Nat,cK l ((List.range (i+1)).map fun i:Nat=>(0,(i:Int) * (l.getD 0 shp0).ext))=cO (cK l ((List.range i).map fun i:Nat=>(0,(i:Int) * (l.getD 0 shp0).ext))) (l.getD 0 shp0) ((i:Int) * (l.getD 0 shp0).ext):=fun i=>by
  rw[List.range_succ,List.map_append]
  exact lH _ _ _
 have hend:bE (C:Nat) (l.getD 0 shp0).ext=(List.range C).map fun i:Nat=>(0,(i:Int) * (l.getD 0 shp0).ext):=by
  unfold bE
  rw[show(max 1 (C:Int)).toNat=C by omega]
 rw[hend]
 have h00:cK l ((List.range 0).map fun i:Nat=>(0,(i:Int) * (l.getD 0 shp0).ext))=shp0:=rfl
 generalize hF:(fun i:Nat=>cK l ((List.range i).map fun i:Nat=>(0,(i:Int) * (l.getD 0 shp0).ext)))=F at *
 have hFi:∀ i:Nat,cK l ((List.range i).map fun i:Nat=>(0,(i:Int) * (l.getD 0 shp0).ext))=F i:=fun i=>by rw[← hF]
 simp only[hFi] at *
 generalize l.getD 0 shp0=x at *
 unfold shR at r0
 unfold mP at *
 refine aA ?_
 rw[Av.wrap_small (show -9223372036854775808≤x.hi - x.lo by omega) (by omega),← hexd]
 refine AWP.loop (fun i:Nat=>[(2,.cptr [iv 6,iv (C:Nat),iv b,iv st,.list 1 (inR sz),.list 1 (inR bl),.list 1 (inR pl),.list 8 (aM of)]),(4,.ptr 2 0 0 0),(5,.ptr 1 0 0 0),(8,.cptr [.list 2 (enR x.es),iv x.lo,iv x.hi]),(9,iv x.ext),(10,iv i)]) (fun i=>bH (F i)) (fun i=>i≤C) (fun i=>C - i) 0 (Nat.zero_le _) ?_ ?_
 ·rw[h00]
  show Sub _ _ _ _ _ [[.cells 2 []],[.cells 3 [[.hsl 0 0 0 0,iv 0,iv 0]]],[.cells 3 [zS]]]
  unfold zS
  exact Sub.wl [2] [[(4,0)],[(2,0)],[(1,0)]]
 rintro i hi
 have hni:=hn i (by omega)
 have hsi:=hsn i
 unfold bH
 refine aA ?_
 refine AWP.condN (i < C) rfl rfl (fun h=>?_) (fun h=>?_)
 ·have m1:(i:Int) * x.ext≤4096 * 1048576:=by
   have:=gG (a:=(i:Int)) (b:=x.ext) (A:=4096) (B:=1048576) (by omega) (by omega) (by omega) (by omega)
   omega
  have m2:-(4096 * 1048576)≤(i:Int) * x.ext:=by
   have:=gG (a:=(i:Int)) (b:=x.ext) (A:=4096) (B:=1048576) (by omega) (by omega) (by omega) (by omega)
   omega
  have hp:=hpu (F i) (.cells 3 [[.hsl 0 0 0 (F i).es.length,iv (F i).lo,iv (F i).hi]]) (.cells 3 [zS]) ((i:Int) * x.ext) hni (by omega) (by omega)
  rw[← hsi] at hp
  generalize hs2:F (i+1)=s2 at *
  generalize F i=s1 at *
  refine aA ?_
  rw[Av.wrap_small (show -9223372036854775808≤(i:Int) * x.ext by omega) (by omega)]
  refine Reg.c (Nat.zero_le _) rfl (hp.mono ?_)
  rintro res H' ⟨rfl,rfl⟩
  refine aA ?_
  refine⟨i+1,by omega,by omega,?_⟩
  rw[hs2]
  exact Sub.wl [] [[(3,0)],[(1,0)],[(2,0)]]
 ·obtain rfl:C=i:=by omega
  have hel:=bK (F C).es
  unfold shR
  refine aA ?_
  exact zG [] ⟨rfl,rfl⟩
set_option maxHeartbeats 4000000 in
theorem OU {c b st:Int} {sz bl pl:List Int} {of:List Ty} {l:List Shp} {f:Nat→List (Int×Int)} (hl:l≠[]) (hx:shB (l.getD 0 shp0)) (hc:0≤c∧c≤4096) (hb:0≤b∧b≤4096) (hst:-1048576≤st∧st≤1048576) (hf:∀ i,f i=(List.range b.toNat).map fun j:Nat=>(0,((i:Int) * st+j) * (l.getD 0 shp0).ext)) (hn:∀ i j:Nat,(i:Int) < c→(j:Int)≤b→stB (cK l (bW f i j))) (_hln:l.length≤1000000):
  aG Tryz.prog 181 [.agg (tyR (.mk 7 c b st sz bl pl of)),.list 3 (shL l)] [] fun res H'=>res=.agg (shR (cK l (bW f c.toNat 0)))∧H'=[]:=by
 rw[tyR]
 refine aG.of sJ ?_ (nlB rfl)
 have hbk:=eR 7
 have hl0:=List.length_pos_iff.2 hl
 have r0:=jJ l 0 hl0
 have hll:=gT l
 obtain⟨C,rfl⟩:∃ C:Nat,c=C:=⟨c.toNat,by omega⟩
 obtain⟨B,rfl⟩:∃ B:Nat,b=B:=⟨b.toNat,by omega⟩
 rw[Int.toNat_natCast]
 rw[Int.toNat_natCast] at hf
 have hpu:=fun s D D' by' hs h1 h2=>@IN s (l.getD 0 shp0) by' D D' hs hx h1 h2
 obtain⟨b1,b2,b3,b4,b5,b6,b7,b8,b9⟩:=id hx
 have hexd:(l.getD 0 shp0).ext=(l.getD 0 shp0).hi - (l.getD 0 shp0).lo:=rfl
 have hfl:∀ i,(f i).length=B:=fun i=>by rw[hf]; simp
 have hsn:∀ i j:Nat,j < B→cK l (bW f i (j+1))=cO (cK l (bW f i j)) (l.getD 0 shp0) (((i:Int) * st+j) * (l.getD 0 shp0).ext):=fun i j hj=>by
  rw[d8 (m:=(0,((i:Int) * st+j) * (l.getD 0 shp0).ext)) (by rw[hf]; simp[hj]),lH]
  rfl
 have hnx:∀ i,cK l (bW f i B)=cK l (bW f (i+1) 0):=fun i=>by rw[fK (hfl i)]
 have h00:cK l (bW f 0 0)=shp0:=by rw[gD]; rfl
 generalize hF:(fun i j=>cK l (bW f i j))=F at *
 have hFi:∀ i j:Nat,cK l (bW f i j)=F i j:=fun i j=>by rw[← hF]
 simp only[hFi] at *
 clear hf hfl
 generalize l.getD 0 shp0=x at *
 unfold shR at r0
 unfold mP at *
 refine aA ?_
 rw[Av.wrap_small (show -9223372036854775808≤x.hi - x.lo by omega) (by omega),← hexd]
 refine AWP.loop (fun i:Nat=>[(2,.cptr [iv 7,iv (C:Nat),iv (B:Nat),iv st,.list 1 (inR sz),.list 1 (inR bl),.list 1 (inR pl),.list 8 (aM of)]),(4,.ptr 2 0 0 0),(5,.ptr 1 0 0 0),(8,.cptr [.list 2 (enR x.es),iv x.lo,iv x.hi]),(9,iv x.ext),(11,iv i)]) (fun i=>bH (F i 0)) (fun i=>i≤C) (fun i=>C - i) 0 (Nat.zero_le _) ?_ ?_
 ·rw[h00]
  show Sub _ _ _ _ _ [[.cells 2 []],[.cells 3 [[.hsl 0 0 0 0,iv 0,iv 0]]],[.cells 3 [zS]]]
  unfold zS
  exact Sub.wl [2] [[(4,0)],[(2,0)],[(1,0)]]
 rintro i hi
 unfold bH
 refine aA ?_
 refine AWP.condN (i < C) rfl rfl (fun h=>?_) (fun h=>?_)
 ·refine aA ?_
  refine AWP.loop (fun j:Nat=>[(2,.cptr [iv 7,iv (C:Nat),iv (B:Nat),iv st,.list 1 (inR sz),.list 1 (inR bl),.list 1 (inR pl),.list 8 (aM of)]),(4,.ptr 2 0 0 0),(5,.ptr 1 0 0 0),(8,.cptr [.list 2 (enR x.es),iv x.lo,iv x.hi]),(9,iv x.ext),(11,iv i),(12,iv j)]) (fun j=>bH (F i j)) (fun j=>j≤B) (fun j=>B - j) 0 (Nat.zero_le _) ?_ ?_
  ·unfold bH
   exact Sub.wl [] [[(0,0)],[(1,0)],[(2,0)]]
  rintro j hj
  unfold bH
  refine aA ?_
  refine AWP.condN (j < B) rfl rfl (fun h2=>?_) (fun h2=>?_)
  ·obtain⟨m1,m2⟩:=gG (a:=(i:Int)) (b:=st) (A:=4096) (B:=1048576) (by omega) (by omega) (by omega) (by omega)
   obtain⟨m3,m4⟩:=gG (a:=(i:Int) * st+j) (b:=x.ext) (A:=4300000000) (B:=1048576) (by omega) (by omega) (by omega) (by omega)
   have hp:=hpu (F i j) (.cells 3 [[.hsl 0 0 0 (F i j).es.length,iv (F i j).lo,iv (F i j).hi]]) (.cells 3 [zS]) (((i:Int) * st+j) * x.ext) (hn i j (by omega) (by omega)) (by omega) (by omega)
   rw[← hsn i j h2] at hp
   generalize hs2:F i (j+1)=s2 at *
   generalize F i j=s1 at *
   refine aA ?_
   rw[Av.wrap_small (show -9223372036854775808≤(i:Int) * st by omega) (by omega),Av.wrap_small (show -9223372036854775808≤(i:Int) * st+j by omega) (by omega),Av.wrap_small (show -9223372036854775808≤((i:Int) * st+j) * x.ext by omega) (by omega)]
   refine Reg.c (Nat.zero_le _) rfl (hp.mono ?_)
   rintro res H' ⟨rfl,rfl⟩
   refine aA ?_
   refine⟨j+1,by omega,by omega,?_⟩
   rw[hs2]
   exact Sub.wl [] [[(3,0)],[(1,0)],[(2,0)]]
  ·obtain rfl:B=j:=by omega
   rw[hnx]
   refine aA ?_
   refine⟨i+1,by omega,by omega,?_⟩
   exact Sub.wl [] [[(0,0)],[(1,0)],[(2,0)]]
 ·obtain rfl:C=i:=by omega
  have hel:=bK (F C 0).es
  unfold shR
  refine aA ?_
  exact zG [] ⟨rfl,rfl⟩
set_option maxHeartbeats 4000000 in
theorem O3 {c b st:Int} {sz bl pl:List Int} {of:List Ty} {l:List Shp} {f:Nat→List (Int×Int)} (hl:l≠[]) (hx:shB (l.getD 0 shp0)) (hbn:bl.length≤4096) (hpn:pl.length=bl.length) (hbl:∀ i,0≤bl.getD i 0∧bl.getD i 0≤4096) (hpl:∀ i,-1048576≤pl.getD i 0∧pl.getD i 0≤1048576) (hf:∀ i,f i=(List.range (bl.getD i 0).toNat).map fun j:Nat=>(0,(pl.getD i 0+j) * (l.getD 0 shp0).ext)) (hn:∀ i j:Nat,i < bl.length→(j:Int)≤bl.getD i 0→stB (cK l (bW f i j))) (_hln:l.length≤1000000):
  aG Tryz.prog 181 [.agg (tyR (.mk 8 c b st sz bl pl of)),.list 3 (shL l)] [] fun res H'=>res=.agg (shR (cK l (bW f bl.length 0)))∧H'=[]:=by
 rw[tyR]
 refine aG.of sJ ?_ (nlB rfl)
 have hbk:=eR 8
 have hl0:=List.length_pos_iff.2 hl
 have r0:=jJ l 0 hl0
 have hll:=gT l
 have l2:=bA bl
 have hpu:=fun s D D' by' hs h1 h2=>@xI s (l.getD 0 shp0) by' D D' (List.replicate 11 .dead) hs hx h1 h2
 obtain⟨b1,b2,b3,b4,b5,b6,b7,b8,b9⟩:=id hx
 have hexd:(l.getD 0 shp0).ext=(l.getD 0 shp0).hi - (l.getD 0 shp0).lo:=rfl
 have hfl:∀ i,(f i).length=(bl.getD i 0).toNat:=fun i=>by rw[hf]; simp
 have hsn:∀ i j:Nat,j < (bl.getD i 0).toNat→cK l (bW f i (j+1))=cO (cK l (bW f i j)) (l.getD 0 shp0) ((pl.getD i 0+j) * (l.getD 0 shp0).ext):=fun i j hj=>by
  rw[d8 (m:=(0,(pl.getD i 0+j) * (l.getD 0 shp0).ext)) (by rw[hf,List.getElem?_map,List.getElem?_range hj]; rfl),lH]
  rfl
 have hnx:∀ i,cK l (bW f i (bl.getD i 0).toNat)=cK l (bW f (i+1) 0):=fun i=>by rw[fK (hfl i)]
 have h00:cK l (bW f 0 0)=shp0:=by rw[gD]; rfl
 generalize hF:(fun i j=>cK l (bW f i j))=F at *
 have hFi:∀ i j:Nat,cK l (bW f i j)=F i j:=fun i j=>by rw[← hF]
 simp only[hFi] at *
 clear hf hfl
 generalize l.getD 0 shp0=x at *
 unfold shR at r0
 unfold mP at *
 refine aA ?_
 rw[Av.wrap_small (show -9223372036854775808≤x.hi - x.lo by omega) (by omega),← hexd]
 refine AWP.loop (fun i:Nat=>[(2,.cptr [iv 8,iv c,iv b,iv st,.list 1 (inR sz),.list 1 (inR bl),.list 1 (inR pl),.list 8 (aM of)]),(4,.ptr 2 0 0 0),(5,.ptr 1 0 0 0),(8,.cptr [.list 2 (enR x.es),iv x.lo,iv x.hi]),(9,iv x.ext),(13,iv i)]) (fun i=>bH (F i 0)) (fun i=>i≤bl.length) (fun i=>bl.length - i) 0 (Nat.zero_le _) ?_ ?_
 ·rw[h00]
  show Sub _ _ _ _ _ [[.cells 2 []],[.cells 3 [[.hsl 0 0 0 0,iv 0,iv 0]]],[.cells 3 [zS]]]
  unfold zS
  exact Sub.wl [2] [[(4,0)],[(2,0)],[(1,0)]]
 rintro i hi
 unfold bH
 refine aA ?_
 rw[l2]
 refine AWP.condN (i < bl.length) rfl rfl (fun h=>?_) (fun h=>?_)
 ·have r2:=cU h
  have r3:=cU (l:=pl) (i:=i) (by omega)
  obtain⟨Y,hY⟩:∃ Y:Nat,bl.getD i 0=Y:=⟨(bl.getD i 0).toNat,by have:=hbl i; omega⟩
  have hY2:=hbl i
  have hZ:=hpl i
  have hsi:=hsn i
  have hni:=hnx i
  rw[hY] at r2 hY2
  rw[hY,Int.toNat_natCast] at hsi hni
  generalize pl.getD i 0=z at *
  refine aA ?_
  refine AWP.loop (fun j:Nat=>[(2,.cptr [iv 8,iv c,iv b,iv st,.list 1 (inR sz),.list 1 (inR bl),.list 1 (inR pl),.list 8 (aM of)]),(4,.ptr 2 0 0 0),(5,.ptr 1 0 0 0),(8,.cptr [.list 2 (enR x.es),iv x.lo,iv x.hi]),(9,iv x.ext),(13,iv i),(14,iv j)]) (fun j=>bH (F i j)) (fun j=>j≤Y) (fun j=>Y - j) 0 (Nat.zero_le _) ?_ ?_
  ·unfold bH
   exact Sub.wl [] [[(0,0)],[(1,0)],[(2,0)]]
  rintro j hj
  unfold bH
  refine aA ?_
  refine AWP.condN (j < Y) rfl rfl (fun h2=>?_) (fun h2=>?_)
  ·obtain⟨m3,m4⟩:=gG (a:=z+j) (b:=x.ext) (A:=4300000000) (B:=1048576) (by omega) (by omega) (by omega) (by omega)
   have hp:=hpu (F i j) (.cells 3 [[.hsl 0 0 0 (F i j).es.length,iv (F i j).lo,iv (F i j).hi]]) (.cells 3 [zS]) ((z+j) * x.ext) (hn i j (by omega) (by omega)) (by omega) (by omega)
   rw[← hsi j h2] at hp
   generalize hs2:F i (j+1)=s2 at *
   generalize F i j=s1 at *
   refine c9 ?_
   refine AWP.dkm 11 _ kW rfl rfl (by kernel_rfl) (by kernel_rfl) (by kernel_rfl) ?_
   refine aA ?_
   rw[Av.wrap_small (show -9223372036854775808≤z+(j:Int) by omega) (by omega),Av.wrap_small (show -9223372036854775808≤(z+(j:Int)) * x.ext by omega) (by omega)]
   refine DK.nil ⟨by kernel_rfl,?_⟩
   refine Reg.c (Nat.zero_le _) rfl (hp.mono ?_)
   rintro res H' ⟨rfl,rfl⟩
   refine Reg.nil ?_
   refine aA ?_
   refine DK.nil ⟨by kernel_rfl,?_⟩
   refine aA ?_
   refine⟨j+1,by omega,by omega,?_⟩
   rw[hs2]
   exact Sub.wl [] [[(4,0)],[(1,0)],[(2,0)]]
  ·obtain rfl:Y=j:=by omega
   rw[hni]
   refine aA ?_
   refine⟨i+1,by omega,by omega,?_⟩
   exact Sub.wl [] [[(0,0)],[(1,0)],[(2,0)]]
 ·obtain rfl:bl.length=i:=by omega
  have hel:=bK (F bl.length 0).es
  unfold shR
  refine aA ?_
  exact zG [] ⟨rfl,rfl⟩
end Go.Proofs.YtgdocflpobncmaaGreat
