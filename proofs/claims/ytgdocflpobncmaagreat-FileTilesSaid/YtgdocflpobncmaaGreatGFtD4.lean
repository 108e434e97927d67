import Derived.Test.YtgdocflpobncmaaGreatGFtB7
import Derived.Test.YtgdocflpobncmaaGreatGFtB3
namespace Go.Proofs.YtgdocflpobncmaaGreat
open Go.Av Go.Proofs
set_option maxRecDepth 20000
variable {k c b st:Int} {sz bl pl:List Int} {ty:List Ty} {of:List Shp}
def Itr (mv it:Nat) (k c b st:Int) (sz bl pl:List Int) (ty:List Ty) (of:List Shp):Prop:=
 Mk mv it∧∀ L,LOK Tryz.prog F165.n L [28,29] (rfA fQ) (rfB fQ)→aH Tryz.prog it [.yld 3 0,.cptr [iv k,iv c,iv b,iv st,.list 1 (inR sz),.list 1 (inR bl),.list 1 (inR pl),.list 8 (aS ty)],.cptr [.list 3 (ofR of)]] (B6 (.lp L (bQ [iv k,iv c,iv b,iv st,.list 1 (inR sz),.list 1 (inR bl),.list 1 (inR pl),.list 8 (aS ty)] of (mkC [iv k,iv c,iv b,iv st,.list 1 (inR sz),.list 1 (inR bl),.list 1 (inR pl),.list 8 (aS ty)] of it)) .ready none)) fun _ H'=>mZ L [iv k,iv c,iv b,iv st,.list 1 (inR sz),.list 1 (inR bl),.list 1 (inR pl),.list 8 (aS ty)] of (mkC [iv k,iv c,iv b,iv st,.list 1 (inR sz),.list 1 (inR bl),.list 1 (inR pl),.list 8 (aS ty)] of it) (eV k c b st sz bl pl of) H'
noncomputable def FY:bK:=iH [1,1,1] F165.code
set_option maxHeartbeats 1000000 in
theorem CY {s:Shp} (hs:stB s) (hne:s.es≠[]) (h10:k=10→pl.length=2) (hp:∀ n∈pl,-mP≤n∧n≤mP) (h11:k=11→(∀ n∈sz,1≤n∧n≤4096)∧sz.length≤4∧∃ x,of[0]?=some x∧shB x):
  AWP Tryz.prog F165.n 0 FY (aJ F165.res (.tup [.agg (if okS (cR k sz pl of s)=true then shR (cR k sz pl of s) else shR shp0),iv (if okS (cR k sz pl of s)=true then 0 else 3)])) [(3,.cptr [iv k,iv c,iv b,iv st,.list 1 (inR sz),.list 1 (inR bl),.list 1 (inR pl),.list 8 (aS ty)]),(5,.cptr [.list 3 (ofR of)]),(6,.ptr 0 0 0 0),(7,.ptr 1 0 0 0),(8,.ptr 2 0 0 0)] (oK s.es s.lo s.hi):=by
 obtain⟨s1,⟨s2,s3⟩,⟨s4,s5⟩,s6⟩:=hs
 show AWP _ _ _ (.seq _ _) _ _ _
 refine aA ?_
 refine AWP.condN (k=10) rfl rfl (fun h=>?_) (fun h=>?_)
 ·have e1:=bZ pl 0 (by have:=h10 h; omega)
  have e2:=bZ pl 1 (by have:=h10 h; omega)
  have f1:=hp pl[0] (List.getElem_mem _)
  have f2:=hp pl[1] (List.getElem_mem _)
  have hbd:cR k sz pl of s=⟨s.es,pl[0],pl[0]+pl[1]⟩:=by
   unfold cR
   rw[if_pos h]
   simp[h10 h]
  rw[hbd]
  generalize pl[0]=p0 at *
  generalize pl[1]=p1 at *
  unfold mP at f1 f2
  refine aA ?_
  rw[Av.wrap_small (show -9223372036854775808≤p0+p1 by omega) (by omega)]
  refine DK.nil ⟨by kernel_rfl,?_⟩
  refine AWP.sub (fr':=[(6,.ptr 0 0 0 0),(7,.ptr 1 0 0 0),(8,.ptr 2 0 0 0)]) (H':=oK s.es p0 (p0+p1)) ?_ (uV hne s1 s6 ⟨by unfold big; omega,by unfold big; omega⟩ ⟨by unfold big; omega,by unfold big; omega⟩)
  (apply Sub.to [] [[(0,0)],[(1,0)],[(2,0)],[(3,0)],[(4,0)]]; all_goals (repeat' (first | exact aE.nil | exact aB.nil | exact aF.nil | exact ToL.nil | exact ToR.nil | refine aE.cons ?_ ?_ | refine aB.cons ?_ ?_ | refine aP ?_ ?_ | exact To.undef _ | exact To.sc _ | exact To.hslL rfl rfl | exact To.asl _ _ _ _ _ _ _ rfl | refine To.ifc _ _ _ ?_ | exact To.ptrO rfl rfl rfl | exact To.mrefO rfl | exact To.nil rfl rfl rfl | exact wt1 | exact To.nilL | refine To.int ?_ | refine To.bool ?_ | refine To.hslL rfl ?_ | refine wt2 rfl ?_ ?_ ?_ | refine To.tupL ?_ | refine To.aggL ?_ | refine To.cptrL ?_ | refine To.fzp rfl rfl rfl ?_ | refine To.fzm rfl rfl ?_ | refine To.cloL ?_ ?_ | refine wt3 ?_ | refine wt4 ?_ | exact wt5 | refine wt6 ?_ | refine ToB.one ?_ | exact wt7 | ((with_reducible apply ToL.consE); case e9=>rfl) | refine wt8 ?_ | refine ToL.cons ?_ ?_ | exact wt11 | refine wt9 ?_ ?_ | refine wt12 ?_ | (with_reducible rfl) | assumption)); all_goals (first | rfl | assumption | (simp; done) | (simp; omega) | (rw[wrap_small (by omega) (by omega)]; done) | (rw[wrap_small (by omega) (by omega)]; omega) | (refine congrArg Nat.cast ?_; assumption) | skip))
  all_goals first | exact .dead _ | omega
 refine aA ?_
 refine AWP.condN (k=11) rfl rfl (fun h2=>?_) (fun h2=>?_)
 ·obtain⟨g1,g2,x,g3,g4⟩:=h11 h2
  have hsl:=bD sz
  have har:∀ i,i≤sz.length→1≤(sz.take i).foldl (fun n s=>min (n * s) huge) 1∧(sz.take i).foldl (fun n s=>min (n * s) huge) 1≤huge:=fun i=>by
   induction i with
   | zero=>exact fun _=>⟨by simp,by simp[huge]⟩
   | succ i ih=>
    intro hi
    obtain⟨i1,i2⟩:=ih (by omega)
    have h5:=g1 sz[i] (List.getElem_mem _)
    rw[cM (by omega),List.foldl_append]
    simp only[List.foldl_cons,List.foldl_nil]
    generalize List.foldl (fun n s=>min (n * s) huge) 1 (sz.take i)=u at *
    have h6:u * 1≤u * sz[i]:=Int.mul_le_mul_of_nonneg_left h5.1 (by omega)
    unfold huge at *
    omega
  refine aA ?_
  refine AWP.loop (fun i:Nat=>[(3,.cptr [iv k,iv c,iv b,iv st,.list 1 (inR sz),.list 1 (inR bl),.list 1 (inR pl),.list 8 (aS ty)]),(5,.cptr [.list 3 (ofR of)]),(6,.ptr 0 0 0 0),(7,.ptr 1 0 0 0),(8,.ptr 2 0 0 0),(16,iv ((sz.take i).foldl (fun n s=>min (n * s) huge) 1)),(111,.list 1 (inR sz)),(112,iv sz.length),(113,iv i)]) (fun _=>oK s.es s.lo s.hi) (fun i=>i≤sz.length) (fun i=>sz.length - i) 0 (Nat.zero_le _) ?_ ?_
  ·rw[← hsl]
   (apply Sub.to [] [[(0,0)],[(1,0)],[(2,0)],[(3,0)],[(4,0)]]; all_goals (repeat' (first | exact aE.nil | exact aB.nil | exact aF.nil | exact ToL.nil | exact ToR.nil | refine aE.cons ?_ ?_ | refine aB.cons ?_ ?_ | refine aP ?_ ?_ | exact To.undef _ | exact To.sc _ | exact To.hslL rfl rfl | exact To.asl _ _ _ _ _ _ _ rfl | refine To.ifc _ _ _ ?_ | exact To.ptrO rfl rfl rfl | exact To.mrefO rfl | exact To.nil rfl rfl rfl | exact wt1 | exact To.nilL | refine To.int ?_ | refine To.bool ?_ | refine To.hslL rfl ?_ | refine wt2 rfl ?_ ?_ ?_ | refine To.tupL ?_ | refine To.aggL ?_ | refine To.cptrL ?_ | refine To.fzp rfl rfl rfl ?_ | refine To.fzm rfl rfl ?_ | refine To.cloL ?_ ?_ | refine wt3 ?_ | refine wt4 ?_ | exact wt5 | refine wt6 ?_ | refine ToB.one ?_ | exact wt7 | ((with_reducible apply ToL.consE); case e9=>rfl) | refine wt8 ?_ | refine ToL.cons ?_ ?_ | exact wt11 | refine wt9 ?_ ?_ | refine wt12 ?_ | (with_reducible rfl) | assumption)); all_goals (first | rfl | assumption | (simp; done) | (simp; omega) | (rw[wrap_small (by omega) (by omega)]; done) | (rw[wrap_small (by omega) (by omega)]; omega) | (refine congrArg Nat.cast ?_; assumption) | skip))
   all_goals first | exact .dead _ | omega
  rintro i hi
  refine aA ?_
  refine AWP.condN (i < sz.length) rfl rfl (fun h3=>?_) (fun h3=>?_)
  ·have r1:=bZ sz i h3
   have hz:=g1 sz[i] (List.getElem_mem _)
   have ha:=har i hi
   have e1:(sz.take (i+1)).foldl (fun n s=>min (n * s) huge) 1=min ((sz.take i).foldl (fun n s=>min (n * s) huge) 1 * sz[i]) huge:=by
    rw[cM h3,List.foldl_append]
    rfl
   generalize sz[i]=z at *
   generalize (sz.take i).foldl (fun n s=>min (n * s) huge) 1=u at *
   unfold huge at ha
   have hw:=qK (a:=u) (b:=z) (A:=1099511627776) (B:=4096) (by omega) (by omega) (by omega) (by omega)
   refine aA ?_
   rw[Av.wrap_small (show -9223372036854775808≤u * z by omega) (by omega)]
   refine aA ?_
   refine⟨i+1,by omega,by omega,?_⟩
   rw[e1]
   unfold huge
   (apply Sub.to [] [[(0,0)],[(1,0)],[(2,0)],[(3,0)],[(4,0)]]; all_goals (repeat' (first | exact aE.nil | exact aB.nil | exact aF.nil | exact ToL.nil | exact ToR.nil | refine aE.cons ?_ ?_ | refine aB.cons ?_ ?_ | refine aP ?_ ?_ | exact To.undef _ | exact To.sc _ | exact To.hslL rfl rfl | exact To.asl _ _ _ _ _ _ _ rfl | refine To.ifc _ _ _ ?_ | exact To.ptrO rfl rfl rfl | exact To.mrefO rfl | exact To.nil rfl rfl rfl | exact wt1 | exact To.nilL | refine To.int ?_ | refine To.bool ?_ | refine To.hslL rfl ?_ | refine wt2 rfl ?_ ?_ ?_ | refine To.tupL ?_ | refine To.aggL ?_ | refine To.cptrL ?_ | refine To.fzp rfl rfl rfl ?_ | refine To.fzm rfl rfl ?_ | refine To.cloL ?_ ?_ | refine wt3 ?_ | refine wt4 ?_ | exact wt5 | refine wt6 ?_ | refine ToB.one ?_ | exact wt7 | ((with_reducible apply ToL.consE); case e9=>rfl) | refine wt8 ?_ | refine ToL.cons ?_ ?_ | exact wt11 | refine wt9 ?_ ?_ | refine wt12 ?_ | (with_reducible rfl) | assumption)); all_goals (first | rfl | assumption | (simp; done) | (simp; omega) | (rw[wrap_small (by omega) (by omega)]; done) | (rw[wrap_small (by omega) (by omega)]; omega) | (refine congrArg Nat.cast ?_; assumption) | skip))
   all_goals first | exact .dead _ | omega
  ·obtain rfl:sz.length=i:=by omega
   rw[List.take_length]
   have ha:=har sz.length (Nat.le_refl _)
   rw[List.take_length] at ha
   have hr0:d6 (ofR of) ((0:Nat):Int)=some [.list 2 (enR x.es),iv x.lo,iv x.hi]:=by
    obtain⟨h,rfl⟩:=gEs.1 g3
    exact kP of 0 h
   have hbd:cR k sz pl of s=⟨s.es,x.lo,x.lo+GF sz * x.ext⟩:=by
    unfold cR
    rw[if_neg h,if_pos h2,show of.getD 0 shp0=x by rw[List.getD_eq_getElem?_getD,g3]; rfl]
   rw[hbd,show sz.foldl (fun n s=>min (n * s) huge) 1=GF sz from rfl] at *
   generalize GF sz=u at *
   obtain⟨b1,b2,b3,b4,b5,b6,_⟩:=g4
   unfold mP at b1 b2 b3 b4 b5 b6
   have he:aC Tryz.prog 73 [.agg [.list 2 (enR x.es),iv x.lo,iv x.hi]] (iv x.ext):=dO x (by omega) (by omega) (by omega) (by omega)
   unfold huge at ha
   have hw:=qK (a:=u) (b:=x.ext) (A:=1099511627776) (B:=1048576) (by omega) (by omega) b5 b6
   refine aA ?_
   rw[Av.wrap_small (show -9223372036854775808≤u * x.ext by omega) (by omega),Av.wrap_small (show -9223372036854775808≤x.lo+u * x.ext by omega) (by omega)]
   refine aA ?_
   refine DK.nil ⟨by kernel_rfl,?_⟩
   refine AWP.sub (fr':=[(6,.ptr 0 0 0 0),(7,.ptr 1 0 0 0),(8,.ptr 2 0 0 0)]) (H':=oK s.es x.lo (x.lo+u * x.ext)) ?_ (uV hne s1 s6 ⟨by unfold big; omega,by unfold big; omega⟩ ⟨by unfold big; omega,by unfold big; omega⟩)
   (apply Sub.to [] [[(0,0)],[(1,0)],[(2,0)],[(3,0)],[(4,0)]]; all_goals (repeat' (first | exact aE.nil | exact aB.nil | exact aF.nil | exact ToL.nil | exact ToR.nil | refine aE.cons ?_ ?_ | refine aB.cons ?_ ?_ | refine aP ?_ ?_ | exact To.undef _ | exact To.sc _ | exact To.hslL rfl rfl | exact To.asl _ _ _ _ _ _ _ rfl | refine To.ifc _ _ _ ?_ | exact To.ptrO rfl rfl rfl | exact To.mrefO rfl | exact To.nil rfl rfl rfl | exact wt1 | exact To.nilL | refine To.int ?_ | refine To.bool ?_ | refine To.hslL rfl ?_ | refine wt2 rfl ?_ ?_ ?_ | refine To.tupL ?_ | refine To.aggL ?_ | refine To.cptrL ?_ | refine To.fzp rfl rfl rfl ?_ | refine To.fzm rfl rfl ?_ | refine To.cloL ?_ ?_ | refine wt3 ?_ | refine wt4 ?_ | exact wt5 | refine wt6 ?_ | refine ToB.one ?_ | exact wt7 | ((with_reducible apply ToL.consE); case e9=>rfl) | refine wt8 ?_ | refine ToL.cons ?_ ?_ | exact wt11 | refine wt9 ?_ ?_ | refine wt12 ?_ | (with_reducible rfl) | assumption)); all_goals (first | rfl | assumption | (simp; done) | (simp; omega) | (rw[wrap_small (by omega) (by omega)]; done) | (rw[wrap_small (by omega) (by omega)]; omega) | (refine congrArg Nat.cast ?_; assumption) | skip))
   all_goals first | exact .dead _ | omega
 ·have hbd:cR k sz pl of s=s:=by unfold cR; rw[if_neg h,if_neg h2]
  rw[hbd]
  refine AWP.skip ?_
  refine AWP.sub (fr':=[(6,.ptr 0 0 0 0),(7,.ptr 1 0 0 0),(8,.ptr 2 0 0 0)]) (H':=oK s.es s.lo s.hi) ?_ (uV hne s1 s6 ⟨s2,s3⟩ ⟨s4,s5⟩)
  (apply Sub.to [] [[(0,0)],[(1,0)],[(2,0)],[(3,0)],[(4,0)]]; all_goals (repeat' (first | exact aE.nil | exact aB.nil | exact aF.nil | exact ToL.nil | exact ToR.nil | refine aE.cons ?_ ?_ | refine aB.cons ?_ ?_ | refine aP ?_ ?_ | exact To.undef _ | exact To.sc _ | exact To.hslL rfl rfl | exact To.asl _ _ _ _ _ _ _ rfl | refine To.ifc _ _ _ ?_ | exact To.ptrO rfl rfl rfl | exact To.mrefO rfl | exact To.nil rfl rfl rfl | exact wt1 | exact To.nilL | refine To.int ?_ | refine To.bool ?_ | refine To.hslL rfl ?_ | refine wt2 rfl ?_ ?_ ?_ | refine To.tupL ?_ | refine To.aggL ?_ | refine To.cptrL ?_ | refine To.fzp rfl rfl rfl ?_ | refine To.fzm rfl rfl ?_ | refine To.cloL ?_ ?_ | refine wt3 ?_ | refine wt4 ?_ | exact wt5 | refine wt6 ?_ | refine ToB.one ?_ | exact wt7 | ((with_reducible apply ToL.consE); case e9=>rfl) | refine wt8 ?_ | refine ToL.cons ?_ ?_ | exact wt11 | refine wt9 ?_ ?_ | refine wt12 ?_ | (with_reducible rfl) | assumption)); all_goals (first | rfl | assumption | (simp; done) | (simp; omega) | (rw[wrap_small (by omega) (by omega)]; done) | (rw[wrap_small (by omega) (by omega)]; omega) | (refine congrArg Nat.cast ?_; assumption) | skip))
  all_goals first | exact .dead _ | omega
set_option maxHeartbeats 1000000 in
theorem KI {mv it n5:Nat} {c1 c2 c3 c4 c5:Bool} (hit:Itr mv it k c b st sz bl pl ty of) (hne:∀ s,dX of (eV k c b st sz bl pl of) shp0=some s→s.es≠[]) (h10:k=10→pl.length=2) (hp:∀ n∈pl,-mP≤n∧n≤mP) (h11:k=11→(∀ n∈sz,1≤n∧n≤4096)∧sz.length≤4∧∃ x,of[0]?=some x∧shB x):
  aC Tryz.prog 165 [.agg [iv k,iv c,iv b,iv st,.list 1 (inR sz),.list 1 (inR bl),.list 1 (inR pl),.list 8 (aS ty)],.agg [bv c1,bv c2,bv c3,bv c4,bv c5,fnV n5,fnV mv],.list 3 (ofR of)] (.tup [.agg (shR (qS k c b st sz bl pl of).2),iv (qS k c b st sz bl pl of).1]):=by
 obtain⟨hmk,hit⟩:=hit
 have hm:=hmk k c b st sz bl pl ty of
 refine aC.mkI I9 (nlB rfl) ?_
 refine aA ?_
 refine AWP.sub (fr':=bQ [iv k,iv c,iv b,iv st,.list 1 (inR sz),.list 1 (inR bl),.list 1 (inR pl),.list 8 (aS ty)] of (mkC [iv k,iv c,iv b,iv st,.list 1 (inR sz),.list 1 (inR bl),.list 1 (inR pl),.list 8 (aS ty)] of it)) (H':=[[.cells 3 [r0S]],[.cells 1 [[iv 0]]],[.cells 3 [r0S]]]) ?_ ?_
 ·unfold bQ
  (apply Sub.to [] [[(3,0)],[(4,0)],[(5,0)]]; all_goals (repeat' (first | exact aE.nil | exact aB.nil | exact aF.nil | exact ToL.nil | exact ToR.nil | refine aE.cons ?_ ?_ | refine aB.cons ?_ ?_ | refine aP ?_ ?_ | exact To.undef _ | exact To.sc _ | exact To.hslL rfl rfl | exact To.asl _ _ _ _ _ _ _ rfl | refine To.ifc _ _ _ ?_ | exact To.ptrO rfl rfl rfl | exact To.mrefO rfl | exact To.nil rfl rfl rfl | exact wt1 | exact To.nilL | refine To.int ?_ | refine To.bool ?_ | refine To.hslL rfl ?_ | refine wt2 rfl ?_ ?_ ?_ | refine To.tupL ?_ | refine To.aggL ?_ | refine To.cptrL ?_ | refine To.fzp rfl rfl rfl ?_ | refine To.fzm rfl rfl ?_ | refine To.cloL ?_ ?_ | refine wt3 ?_ | refine wt4 ?_ | exact wt5 | refine wt6 ?_ | refine ToB.one ?_ | exact wt7 | ((with_reducible apply ToL.consE); case e9=>rfl) | refine wt8 ?_ | refine ToL.cons ?_ ?_ | exact wt11 | refine wt9 ?_ ?_ | refine wt12 ?_ | (with_reducible rfl) | assumption)); all_goals (first | rfl | assumption | (simp; done) | (simp; omega) | (rw[wrap_small (by omega) (by omega)]; done) | (rw[wrap_small (by omega) (by omega)]; omega) | (refine congrArg Nat.cast ?_; assumption) | skip))
 refine AWP.rangeF (g:=it) (fs:=[]) (cs:=[.cptr [iv k,iv c,iv b,iv st,.list 1 (inR sz),.list 1 (inR bl),.list 1 (inR pl),.list 8 (aS ty)],.cptr [.list 3 (ofR of)]]) rfl (Nat.zero_le _) rfl fun L hL=>?_
 refine(hit L hL).mono ?_
 rintro res H' (⟨s,hs,hsb,rfl⟩ | ⟨hno,rfl⟩)
 ·have e:=CY (c:=c) (b:=b) (st:=st) (bl:=bl) (ty:=ty) hsb (hne s hs) h10 hp h11
  refine⟨_,_,none,rfl,by decide,?_⟩
  have hpS:qS k c b st sz bl pl of=if okS (cR k sz pl of s)=true then(0,cR k sz pl of s) else(3,shp0):=by
   unfold qS
   rw[hs]
  rw[hpS]
  have:AWP Tryz.prog F165.n 0 FY (aJ F165.res (.tup [.agg (shR (if okS (cR k sz pl of s)=true then((0:Int),cR k sz pl of s) else(3,shp0)).2),iv (if okS (cR k sz pl of s)=true then(0,cR k sz pl of s) else(3,shp0)).1])) [(3,.cptr [iv k,iv c,iv b,iv st,.list 1 (inR sz),.list 1 (inR bl),.list 1 (inR pl),.list 8 (aS ty)]),(5,.cptr [.list 3 (ofR of)]),(6,.ptr 0 0 0 0),(7,.ptr 1 0 0 0),(8,.ptr 2 0 0 0)] (oK s.es s.lo s.hi):=by
   cases h:okS (cR k sz pl of s)<;>(rw[h] at e; exact e)
  refine AWP.sub (fr':=[(3,.cptr [iv k,iv c,iv b,iv st,.list 1 (inR sz),.list 1 (inR bl),.list 1 (inR pl),.list 8 (aS ty)]),(5,.cptr [.list 3 (ofR of)]),(6,.ptr 0 0 0 0),(7,.ptr 1 0 0 0),(8,.ptr 2 0 0 0)]) (H':=oK s.es s.lo s.hi) ?_ ?_
  ·unfold bQ mkC
   (apply Sub.to [] [[(0,0)],[(1,0)],[(2,0)],[(3,0)],[(4,0)]]; all_goals (repeat' (first | exact aE.nil | exact aB.nil | exact aF.nil | exact ToL.nil | exact ToR.nil | refine aE.cons ?_ ?_ | refine aB.cons ?_ ?_ | refine aP ?_ ?_ | exact To.undef _ | exact To.sc _ | exact To.hslL rfl rfl | exact To.asl _ _ _ _ _ _ _ rfl | refine To.ifc _ _ _ ?_ | exact To.ptrO rfl rfl rfl | exact To.mrefO rfl | exact To.nil rfl rfl rfl | exact wt1 | exact To.nilL | refine To.int ?_ | refine To.bool ?_ | refine To.hslL rfl ?_ | refine wt2 rfl ?_ ?_ ?_ | refine To.tupL ?_ | refine To.aggL ?_ | refine To.cptrL ?_ | refine To.fzp rfl rfl rfl ?_ | refine To.fzm rfl rfl ?_ | refine To.cloL ?_ ?_ | refine wt3 ?_ | refine wt4 ?_ | exact wt5 | refine wt6 ?_ | refine ToB.one ?_ | exact wt7 | ((with_reducible apply ToL.consE); case e9=>rfl) | refine wt8 ?_ | refine ToL.cons ?_ ?_ | exact wt11 | refine wt9 ?_ ?_ | refine wt12 ?_ | (with_reducible rfl) | assumption)); all_goals (first | rfl | assumption | (simp; done) | (simp; omega) | (rw[wrap_small (by omega) (by omega)]; done) | (rw[wrap_small (by omega) (by omega)]; omega) | (refine congrArg Nat.cast ?_; assumption) | skip))
   all_goals exact .dead _
  exact this
 ·have hpS:qS k c b st sz bl pl of=(9,shp0):=by
   unfold qS
   rw[hno]
  rw[hpS]
  refine⟨_,_,some .ret,rfl,by decide,?_⟩
  rw[show shR (9,shp0).2=[.list 2 [],iv 0,iv 0] from rfl]
  exact aJ.w
def CP (k:Int):Nat:=if k=6 then 183 else if k=7 then 185 else if k=10 then 190 else if k=11 then 191 else 187
def JZ (k:Int):Nat:=if k=6 then 184 else if k=7 then 186 else if k=8 then 188 else if k=9 then 189 else if k=10 then 184 else 192
theorem KY {k:Int} (h1:6≤k) (h2:k≤11):xY k=[bv (fl1 k),bv (fl2 k),bv (fl3 k),bv (fl4 k),bv (fl5 k),fnV (CP k),fnV (JZ k)]:=by
 obtain h | h | h | h | h | h:k=6∨k=7∨k=8∨k=9∨k=10∨k=11:=by omega
 all_goals (subst h; rfl)
theorem K8 {k:Int} (h:¬ (6≤k∧k≤11)):xY k=[bv (fl1 k),bv (fl2 k),bv (fl3 k),bv (fl4 k),bv (fl5 k),.sc .nilFunc,.sc .nilFunc]:=by
 unfold xY fl1 fl2 fl3 fl4 fl5
 rw[if_neg (by omega),if_neg (by omega),if_neg (by omega),if_neg (by omega),if_neg (by omega),if_neg (by omega),dFa (by omega),dFa (by omega),dFa (by omega),dFa (by omega),dFa (by omega)]
theorem AP {k:Int}:bB k=0↔¬ (1≤k∧k≤5):=by
 unfold bB
 split
 ·omega
 split
 ·omega
 split
 ·omega
 split
 ·omega
 split
 ·omega
 ·omega
section
variable {k c b st:Int} {sz bl pl:List Int} {n:Nat}
theorem wT (hk:6≤k∧k≤11) (h:eQ k c b st sz bl pl n=0):
  (k≠9→n=1)∧(k=6∨k=7∨c=0)∧(k=8→1≤bl.length∧bl.length≤4096∧pl.length=bl.length)∧(k=9→1≤n∧n≤4096∧bl.length=n∧pl.length=n)∧(k=10→pl.length=2)∧(k=11→1≤sz.length∧sz.length≤4∧bl.length=sz.length∧pl.length=sz.length):=by
 have hs:bB k=0:=AP.2 (by omega)
 unfold eQ at h
 rw[hs] at h
 split at h
 ·cases h
 ·rename_i hb
  replace hb:yU (fl1 k) (fl2 k) (fl3 k) (fl4 k) (fl5 k) c b st sz bl pl n (ofG (decide (0 < 0)) k n)=false:=by simpa using hb
  unfold yU at hb
  simp only[Bool.or_eq_false_iff,Bool.and_eq_false_iff,Bool.not_eq_false',bne_eq_false_iff_eq,decide_eq_true_eq] at hb
  obtain⟨h1,_,_,_,_,h6⟩:=hb
  have ho:ofG (decide (0 < 0)) k n=if k=9 then min (max 1 n) 4096 else 1:=by unfold ofG; rw[if_neg (by simp)]
  rw[ho] at h6 h
  unfold fl1 at h1
  simp only[decide_eq_true_eq] at h1
  unfold shG at h
  refine⟨fun hk9=>?_,by omega,fun h8=>?_,fun h9=>?_,fun h10=>?_,fun h11=>?_⟩
  ·rw[if_neg hk9] at h6; exact h6
  ·rw[if_pos h8] at h
   split at h
   ·assumption
   ·cases h
  ·rw[if_pos h9] at h6
   rw[if_neg (by omega),if_pos h9,if_pos h9] at h
   split at h
   ·rename_i h7
    omega
   ·cases h
  ·rw[if_neg (by omega),if_neg (by omega),if_pos h10] at h
   split at h
   ·assumption
   ·cases h
  ·rw[if_neg (by omega),if_neg (by omega),if_neg (by omega),if_pos h11] at h
   split at h
   ·assumption
   ·cases h
end
theorem vC {of:List Shp}:∀ {l:List (Int×Int)} {s t:Shp},dX of l s=some t→s.es.length≤t.es.length
 | [],s,t,h=>by injection h with h; subst h; exact Nat.le_refl _
 | m::l,s,t,h=>by
  simp only[dX] at h
  split at h
  ·cases h
  ·refine Nat.le_trans ?_ (vC h)
   simp[nL]
theorem mO {of:List Shp} {l:List (Int×Int)} {t:Shp} (hl:l≠[]) (hne:∀ m∈l,(of.getD m.1.toNat shp0).es≠[]) (h:dX of l shp0=some t):t.es≠[]:=by
 cases l with
 | nil=>exact absurd rfl hl
 | cons m l=>
  simp only[dX] at h
  split at h
  ·cases h
  ·have:=vC h
   have h2:=List.length_pos_iff.2 (hne m (by simp))
   refine List.length_pos_iff.1 ?_
   rw[show(nL shp0 (of.getD m.1.toNat shp0) m.2).es.length=(of.getD m.1.toNat shp0).es.length by simp[nL,shp0]] at this
   omega
theorem FP (es:List (Int×Int)):∀ y∈es,(bT es).1≤y.2∧y.2+bB y.1≤(bT es).2:=by
 have mono:∀(l:List (Int×Int)) (p:Int×Int),(l.foldl tiF p).1≤p.1∧p.2≤(l.foldl tiF p).2:=by
  intro l
  induction l with
  | nil=>exact fun p=>⟨Int.le_refl _,Int.le_refl _⟩
  | cons x l ih=>
   intro p
   have h1:=ih (tiF p x)
   rw[List.foldl_cons]
   have h2:(tiF p x).1≤p.1:=by unfold tiF; simp only; omega
   have h3:p.2≤(tiF p x).2:=by unfold tiF; simp only; omega
   omega
 have key:∀(l:List (Int×Int)) (p:Int×Int),∀ y∈l,(l.foldl tiF p).1≤y.2∧y.2+bB y.1≤(l.foldl tiF p).2:=by
  intro l
  induction l with
  | nil=>exact fun p y hy=>by cases hy
  | cons x l ih=>
   intro p y hy
   rcases List.mem_cons.1 hy with e | e
   ·subst e
    have h1:=mono l (tiF p y)
    rw[List.foldl_cons]
    have h2:(tiF p y).1≤y.2:=by unfold tiF; simp only; omega
    have h3:y.2+bB y.1≤(tiF p y).2:=by unfold tiF; simp only; omega
    omega
   ·exact ih _ y e
 exact key es _
theorem KU {s:Shp} (h:okS s=true) (hne:s.es≠[]) (hn:s.es.length≤4096):shB s:=by
 unfold okS aK at h
 simp only[Bool.and_eq_true,decide_eq_true_eq] at h
 obtain⟨⟨⟨⟨⟨h1,h2⟩,h3⟩,h4⟩,h5⟩,h6⟩:=h
 refine⟨h1.1,h1.2,h2.1,h2.2,h3.1,h3.2,hne,hn,fun y hy=>?_⟩
 have:=FP s.es y hy
 omega
variable {k c b st:Int} {sz bl pl:List Int} {ty:List Ty} {of:List Shp}
def HO (k c b:Int) (sz bl pl:List Int):Bool:=if k=6 then aK c 1 4096 else if k=7 then aK c 1 4096 && aK b 1 4096 else if k=8∨k=9 then sZ bl else if k=10 then decide (0≤pl.getD 1 0) else A5 sz bl pl
theorem LF {n:Nat} (hk:6≤k∧k≤11) (hf:eQ k c b st sz bl pl n=0):aC Tryz.prog (CP k) [.agg [iv k,iv c,iv b,iv st,.list 1 (inR sz),.list 1 (inR bl),.list 1 (inR pl),.list 8 (aS ty)]] (bv (HO k c b sz bl pl)):=by
 obtain⟨f1,f2,f3,f4,f5,f6⟩:=wT hk hf
 have e:=tyR (.mk k c b st sz bl pl ty)
 have hbl:k=8∨k=9→bl≠[]∧bl.length≤1000000:=fun h=>by
  have:1≤bl.length∧bl.length≤4096:=by rcases h with h | h; exact⟨(f3 h).1,(f3 h).2.1⟩; have:=f4 h; omega
  exact⟨List.length_pos_iff.1 (by omega),by omega⟩
 have e0:tyR (.mk k c b st sz bl pl ty)=[iv k,iv c,iv b,iv st,.list 1 (inR sz),.list 1 (inR bl),.list 1 (inR pl),.list 8 (aS ty)]:=by rw[tyR]
 have h6:=HV k c b st sz bl pl ty
 have h7:=GN k c b st sz bl pl ty
 rw[e0] at h6 h7
 unfold HO CP
 by_cases k6:k=6
 ·rw[if_pos k6,if_pos k6]; exact h6
 by_cases k7:k=7
 ·rw[if_neg k6,if_neg k6,if_pos k7,if_pos k7]; exact h7
 rw[if_neg k6,if_neg k6,if_neg k7,if_neg k7]
 by_cases k8:k=8∨k=9
 ·rw[if_neg (by omega),if_neg (by omega),if_pos k8,← e0]
  exact GD k c b st sz bl pl ty (hbl k8).1 (hbl k8).2
 rw[if_neg k8]
 by_cases k10:k=10
 ·rw[if_pos k10,if_pos k10,← e0]
  exact ED k c b st sz bl pl ty (f5 k10)
 ·rw[if_neg k10,if_pos (by omega),if_neg k10,← e0]
  have h:=f6 (by omega)
  exact F6 k c b st sz bl pl ty h.2.1 h.2.2.1 h.2.2.2
theorem nE {l:List Int} {lo hi:Int} (h:iU l lo hi=true):∀ n∈l,lo≤n∧n≤hi:=fun n hn=>by
 have:=List.all_eq_true.1 h n hn
 simpa[aK] using this
theorem CW (hk:6≤k∧k≤11) (hf:eQ k c b st sz bl pl of.length=0) (hn:vO k c b st sz bl pl=true) (hof:∀ x∈of,shB x):
  (∃ it,Itr (JZ k) it k c b st sz bl pl ty of)∧(∀ s,dX of (eV k c b st sz bl pl of) shp0=some s→s.es≠[])∧(k=10→pl.length=2)∧(∀ n∈pl,-mP≤n∧n≤mP)∧(k=11→(∀ n∈sz,1≤n∧n≤4096)∧sz.length≤4∧∃ x,of[0]?=some x∧shB x):=by
 obtain⟨f1,f2,f3,f4,f5,f6⟩:=wT hk hf
 unfold vO at hn
 simp only[Bool.and_eq_true] at hn
 obtain⟨⟨hst,hpl⟩,hnk⟩:=hn
 replace hpl:=nE hpl
 have hst':-mP≤st∧st≤mP:=by simpa[aK] using hst
 have h1:1≤of.length:=by by_cases h:k=9; exact(f4 h).1; exact Nat.le_of_eq (f1 h).symm
 obtain⟨x,hx⟩:∃ x,of[0]?=some x:=⟨of[0],gEg h1⟩
 have hxb:shB x:=hof x (List.mem_of_getElem? hx)
 have hx0:of.getD 0 shp0=x:=by rw[List.getD_eq_getElem?_getD,hx]; rfl
 have hPV:∀ it,PV (mkC [iv k,iv c,iv b,iv st,.list 1 (inR sz),.list 1 (inR bl),.list 1 (inR pl),.list 8 (aS ty)] of it):=fun it=>by unfold mkC; infer_instance
 have hsub:k=11→∀ i,i < sz.length→1≤sz.getD i 0∧sz.getD i 0≤4096∧1≤bl.getD i 0:=fun h i hi=>by
  rw[if_neg (by omega),if_neg (by omega),if_neg (by omega),if_neg (by omega)] at hnk
  have:=List.all_eq_true.1 hnk i (List.mem_range.2 hi)
  simp only[aK,Bool.and_eq_true,decide_eq_true_eq] at this
  omega
 have hcon:∀ {cc:Int},(∀ s,dX of (bJ cc x.ext) shp0=some s→s.es≠[]):=fun {cc} s hs=>by
  refine mO (List.ne_nil_of_length_pos ?_) (fun m hm=>?_) hs
  ·simp only[bJ,List.length_map,List.length_range]; omega
  ·obtain⟨i,_,rfl⟩:=List.mem_map.1 hm
   show(of.getD 0 shp0).es≠[]
   rw[hx0]; exact hxb.2.2.2.2.2.2.1
 refine⟨?_,?_,f5,hpl,fun h=>⟨fun n hn=>?_,(f6 h).2.1,x,hx,hxb⟩⟩
 ·obtain rfl | rfl | rfl | rfl | rfl | rfl:k=6∨k=7∨k=8∨k=9∨k=10∨k=11:=by omega
  ·refine⟨204,rZ,fun L hL=>?_⟩
   rw[show eV 6 c b st sz bl pl of=bJ c x.ext by show bJ c (of.getD 0 shp0).ext=_; rw[hx0]]
   have:aK c 1 4096=true:=hnk
   simp[aK] at this
   exact r6 (hPV 204) hL hx hxb (by omega)
  ·refine⟨205,CF,fun L hL=>?_⟩
   rw[show eV 7 c b st sz bl pl of=iB c b st x.ext by show iB c b st (of.getD 0 shp0).ext=_; rw[hx0]]
   have:(aK c 1 4096 && aK b 1 4096)=true:=hnk
   simp[aK] at this
   exact BC (hPV 205) hL hx hxb (by omega) (by omega) (by omega) (by omega) hst'.1 hst'.2
  ·refine⟨207,yZ,fun L hL=>?_⟩
   rw[show eV 8 c b st sz bl pl of=fX bl pl x.ext by show fX bl pl (of.getD 0 shp0).ext=_; rw[hx0]]
   have:(iU bl 0 4096 && bl.any fun n=>decide (0 < n))=true:=hnk
   simp only[Bool.and_eq_true] at this
   have h:=f3 rfl
   exact yG (hPV 207) hL hx hxb (nE this.1) hpl h.2.2 h.2.1
  ·refine⟨208,rL,fun L hL=>?_⟩
   have:(iU bl 0 4096 && bl.any fun n=>decide (0 < n))=true:=hnk
   simp only[Bool.and_eq_true] at this
   have h:=f4 rfl
   exact rR (hPV 208) hL hof (by omega) (nE this.1) hpl (by omega) (by omega)
  ·refine⟨204,rZ,fun L hL=>?_⟩
   rw[show eV 10 c b st sz bl pl of=bJ c x.ext by show bJ c (of.getD 0 shp0).ext=_; rw[hx0]]
   exact r6 (hPV 204) hL hx hxb (by omega)
  ·refine⟨209,wM,fun L hL=>?_⟩
   rw[show eV 11 c b st sz bl pl of=n8 sz bl pl x.ext by show n8 sz bl pl (of.getD 0 shp0).ext=_; rw[hx0]]
   have h:=f6 rfl
   exact vH (hPV 209) hL hx hxb h.2.1 rfl h.2.2.1 h.2.2.2 hnk
 ·have hne0:(of.getD 0 shp0).es≠[]:=by rw[hx0]; exact hxb.2.2.2.2.2.2.1
  intro s hs
  have hany:∀ {bl:List Int},sZ bl=true→∃ i,i < bl.length∧0 < bl.getD i 0:=fun {bl} h=>by
   unfold sZ at h
   simp only[Bool.and_eq_true] at h
   obtain⟨n,hn,h0⟩:=List.any_eq_true.1 h.2
   obtain⟨i,hi,rfl⟩:=List.getElem_of_mem hn
   exact⟨i,hi,by simpa[hi] using h0⟩
  obtain rfl | rfl | rfl | rfl | rfl | rfl:k=6∨k=7∨k=8∨k=9∨k=10∨k=11:=by omega
  ·rw[show eV 6 c b st sz bl pl of=bJ c x.ext by show bJ c (of.getD 0 shp0).ext=_; rw[hx0]] at hs
   exact hcon s hs
  ·have:(aK c 1 4096 && aK b 1 4096)=true:=hnk
   simp[aK] at this
   refine mO (List.ne_nil_of_mem (a:=(0,((0:Nat) * st+(0:Nat)) * (of.getD 0 shp0).ext)) ?_) (fun m hm=>?_) hs
   ·refine List.mem_flatMap.2 ⟨0,List.mem_range.2 (by omega),List.mem_map.2 ⟨0,List.mem_range.2 (by omega),rfl⟩⟩
   ·obtain⟨i,_,hm⟩:=List.mem_flatMap.1 hm
    obtain⟨j,_,rfl⟩:=List.mem_map.1 hm
    exact hne0
  ·obtain⟨i,hi,h0⟩:=hany hnk
   refine mO (List.ne_nil_of_mem (a:=(0,(pl.getD i 0+(0:Nat)) * (of.getD 0 shp0).ext)) ?_) (fun m hm=>?_) hs
   ·exact List.mem_flatMap.2 ⟨i,List.mem_range.2 hi,List.mem_map.2 ⟨0,List.mem_range.2 (by omega),rfl⟩⟩
   ·obtain⟨i,_,hm⟩:=List.mem_flatMap.1 hm
    obtain⟨j,_,rfl⟩:=List.mem_map.1 hm
    exact hne0
  ·obtain⟨i,hi,h0⟩:=hany hnk
   have h:=f4 rfl
   refine mO (List.ne_nil_of_mem (a:=((i:Int),pl.getD i 0+(0:Nat) * (of.getD i shp0).ext)) ?_) (fun m hm=>?_) hs
   ·exact List.mem_flatMap.2 ⟨i,List.mem_range.2 hi,List.mem_map.2 ⟨0,List.mem_range.2 (by omega),rfl⟩⟩
   ·obtain⟨i,hi,hm⟩:=List.mem_flatMap.1 hm
    obtain⟨j,_,rfl⟩:=List.mem_map.1 hm
    have hi':i < of.length:=by have:=List.mem_range.1 hi; omega
    show(of.getD i shp0).es≠[]
    rw[List.getD_eq_getElem?_getD,gEg hi']
    exact(hof of[i] (List.getElem_mem _)).2.2.2.2.2.2.1
  ·rw[show eV 10 c b st sz bl pl of=bJ c x.ext by show bJ c (of.getD 0 shp0).ext=_; rw[hx0]] at hs
   exact hcon s hs
  ·have h:=f6 rfl
   have hpos:∀ n,n≤sz.length→1≤prS bl n:=fun n=>by
    induction n with
    | zero=>exact fun _=>Nat.le_refl _
    | succ n ih=>
     intro hn
     have h1:=ih (by omega)
     have h2:=(hsub rfl n (by omega)).2.2
     rw[prS]
     exact Nat.mul_pos h1 (by omega)
   have hp:=hpos sz.length (Nat.le_refl _)
   have hxs:eV 11 c b st sz bl pl of=eT sz bl pl (of.getD 0 shp0).ext (prS bl sz.length) (List.replicate sz.length 0):=by
    show n8 sz bl pl _=_
    unfold n8
    rw[← h.2.2.1,← rH (Nat.le_refl _),List.take_length]
   rw[hxs] at hs
   have hall:∀(F:Nat) (a:List Nat),∀ m∈eT sz bl pl (of.getD 0 shp0).ext F a,m.1=0:=fun F=>by
    induction F with
    | zero=>exact fun a m hm=>by cases hm
    | succ F ih=>
     intro a m hm
     rw[eT] at hm
     rcases List.mem_cons.1 hm with e | e
     ·subst e; rfl
     ·split at e
      ·exact ih _ m e
      ·cases e
   refine mO ?_ (fun m hm=>?_) hs
   ·obtain⟨F,hF⟩:∃ F,prS bl sz.length=F+1:=⟨prS bl sz.length - 1,by omega⟩
    rw[hF,eT]
    exact List.cons_ne_nil _ _
   ·rw[hall _ _ m hm]
    exact hne0
 ·obtain⟨i,hi,rfl⟩:=List.getElem_of_mem hn
  have:=hsub h i hi
  simp only[List.getD_eq_getElem?_getD,gEg hi,Option.getD_some] at this
  omega
def FH (n:Nat) (t:Ty):Prop:=aC Tryz.prog 133 [.agg (tyR t)] (.tup [.agg (shR (aG n t).2),iv (aG n t).1])
theorem fS (e:Int):(e != 0)=decide (e≠0):=by by_cases h:e=0<;>simp[h]
theorem zZ {f:Ty→Int×Shp}:∀ {of:List Ty} {l:List Shp},lS f of=(0,l)→l.length=of.length∧∀ s∈l,∃ u∈of,f u=(0,s)
 | [],l,h=>by injection h with _ h; subst h; exact⟨rfl,fun s hs=>by cases hs⟩
 | u::of,l,h=>by
  rw[lS] at h
  rcases hu:f u with⟨e,s⟩
  rcases hr:lS f of with⟨e',l'⟩
  rw[hu,hr] at h
  simp only at h
  by_cases he:e=0
  ·subst he
   rw[if_neg (by simp)] at h
   by_cases he':e'=0
   ·subst he'
    rw[if_neg (by simp)] at h
    injection h with _ h
    subst h
    obtain⟨i1,i2⟩:=zZ hr
    refine⟨by simp[i1],fun q hq=>?_⟩
    rcases List.mem_cons.1 hq with rfl | hq
    ·exact⟨u,by simp,hu⟩
    ·obtain⟨v,hv,h5⟩:=i2 q hq
     exact⟨v,by simp[hv],h5⟩
   ·rw[if_pos he'] at h
    injection h with h _
    exact absurd h he'
  ·rw[if_pos he] at h
   injection h with h _
   exact absurd h he
theorem AN {of:List Shp}:∀ {l:List (Int×Int)} {s t:Shp},s.es.length≤4096→dX of l s=some t→t.es.length≤4096
 | [],s,t,hs,h=>by injection h with h; subst h; exact hs
 | m::l,s,t,hs,h=>by
  simp only[dX] at h
  split at h
  ·cases h
  ·exact AN (by simp[nL] at *; omega) h
theorem v7 {k:Int} {sz pl:List Int} {of:List Shp} {s:Shp}:(cR k sz pl of s).es=s.es:=by
 unfold cR
 split
 ·rfl
 split<;>rfl
theorem dH:∀(n:Nat) (t:Ty),bF n t=true→(aG n t).1=0→shB (aG n t).2
 | 0,t,h,_=>by
  obtain⟨m,_,_,_,_,_,_,_,_,e,_⟩:=bI h
  cases e
 | n+1,t,h,h0=>by
  obtain⟨m,k,c,b,st,sz,bl,pl,of,e,rfl,h1,h2,h3,h4,h5,h6,h7,h8⟩:=bI h
  obtain rfl:n=m:=by omega
  rw[aG] at h0 ⊢
  rcases hs:lS (aG n) of with⟨e',l⟩
  rw[hs] at h0
  simp only at h0 ⊢
  by_cases he:e'=0
  ·subst he
   rw[if_neg (by simp)] at h0 ⊢
   obtain⟨g1,g2⟩:=zZ hs
   have hof:∀ x∈l,shB x:=fun x hx=>by
    obtain⟨u,hu,h9⟩:=g2 x hx
    have:=dH n u (h8 u hu) (by rw[h9])
    rwa[h9] at this
   by_cases c1:bB k=0∧¬ (6≤k∧k≤11)
   ·rw[if_pos c1] at h0; cases h0
   rw[if_neg c1] at h0 ⊢
   by_cases c2:eQ k c b st sz bl pl of.length=0
   ·rw[c2] at h0 ⊢
    rw[if_neg (by simp)] at h0 ⊢
    by_cases c3:0 < bB k
    ·rw[if_pos c3]
     have h8:=fT k
     unfold shB mP Shp.ext
     simp only
     refine⟨by omega,by omega,by omega,by omega,by omega,by omega,by simp,by simp,fun y hy=>?_⟩
     rw[List.mem_singleton.1 hy]
     exact⟨by show _≤(0:Int); omega,by show(0:Int)≤_; omega⟩
    ·rw[if_neg c3] at h0 ⊢
     by_cases c4:vO k c b st sz bl pl=true
     ·rw[if_pos c4] at h0 ⊢
      have hk:6≤k∧k≤11:=Decidable.byContradiction fun q=>c1 ⟨by omega,q⟩
      obtain⟨_,hne,_⟩:=CW (ty:=of) hk (by rw[g1]; exact c2) c4 hof
      unfold qS at h0 ⊢
      split at h0
      ·cases h0
      ·rename_i s hs'
       split at h0
       ·rename_i hok
        split
        ·exact KU hok (by rw[v7]; exact hne s hs') (by rw[v7]; exact AN (by simp[shp0]) hs')
        ·rename_i q; exact absurd hok q
       ·cases h0
     ·rw[if_neg c4] at h0; cases h0
   ·rw[if_pos c2] at h0
    exact absurd h0 c2
  ·rw[if_pos he] at h0
   exact absurd h0 he
def okL (m:Nat) (of:List Ty) (l:List Shp) (i:Nat):Prop:=l.length=i∧∀ j,j < i→∀ u,of[j]?=some u→∃ s,l[j]?=some s∧aG m u=(0,s)∧shB s
theorem D8 {f:Ty→Int×Shp}:∀ {of:List Ty} {l:List Shp},l.length=of.length→(∀(j:Nat) (u:Ty),of[j]?=some u→∃ s,l[j]?=some s∧f u=(0,s))→lS f of=(0,l)
 | [],l,hl,_=>by
  cases l with
  | nil=>rfl
  | cons=>simp at hl
 | u::of,l,hl,h=>by
  cases l with
  | nil=>simp at hl
  | cons s l=>
   obtain⟨s',h1,h2⟩:=h 0 u rfl
   injection h1 with h1
   subst h1
   rw[lS,h2]
   simp only[ne_eq,not_true_eq_false,if_false]
   rw[D8 (by simpa using hl) fun j v hj=>h (j+1) v hj]
   rfl
theorem zH {f:Ty→Int×Shp}:∀ {of:List Ty} {i:Nat} {u:Ty} {e:Int} {s:Shp},of[i]?=some u→f u=(e,s)→e≠0→(∀(j:Nat) (v:Ty),j < i→of[j]?=some v→(f v).1=0)→lS f of=(e,[])
 | [],i,u,e,s,h,_,_,_=>by simp at h
 | v::of,0,u,e,s,h,hf,he,_=>by
  injection h with h
  subst h
  rw[lS,hf]
  simp only
  rw[if_pos he]
 | v::of,i+1,u,e,s,h,hf,he,hb=>by
  have h0:=hb 0 v (by omega) rfl
  rw[lS]
  rcases hfv:f v with⟨e0,s0⟩
  rw[hfv] at h0
  simp only at h0 ⊢
  rw[if_neg (by omega),zH (i:=i) (u:=u) (e:=e) (s:=s) (by simpa using h) hf he fun j w hj hw=>hb (j+1) w (by omega) (by simpa using hw)]
  simp only
  rw[if_pos he]
set_option maxHeartbeats 2000000 in
theorem tA:∀(n:Nat) (t:Ty),bF n t=true→FH n t
 | 0,t,h=>by
  obtain⟨m,_,_,_,_,_,_,_,_,e,_⟩:=bI h
  cases e
 | n+1,t,h=>by
  obtain⟨m,k,c,b,st,sz,bl,pl,of,e,rfl,h1,h2,h3,h4,h5,h6,h7,h8⟩:=bI h
  obtain rfl:n=m:=by omega
  have ih:∀ u∈of,FH n u:=fun u hu=>tA n u (h8 u hu)
  have e0:tyR (.mk k c b st sz bl pl of)=[iv k,iv c,iv b,iv st,.list 1 (inR sz),.list 1 (inR bl),.list 1 (inR pl),.list 8 (aS of)]:=by rw[tyR]
  have hol:=lL of
  unfold FH
  refine aC.mkI JP (nlB rfl) ?_
  rw[e0]
  refine aA ?_
  refine AWP.loop2 (fun(i:Nat) (l:List Shp)=>[(1,.cptr [iv k,iv c,iv b,iv st,.list 1 (inR sz),.list 1 (inR bl),.list 1 (inR pl),.list 8 (aS of)]),(2,.ptr 0 0 0 0),(4,.hsl 1 0 0 l.length),(14,.list 8 (aS of)),(15,iv of.length),(16,iv i)]) (fun _ l=>[[.cells 3 [r0S]],[.cells 3 (ofR l)]]) (fun i l=>i≤of.length∧okL n of l i) (fun i _=>of.length - i) 0 [] ⟨Nat.zero_le _,rfl,fun j hj=>by omega⟩ ?_ ?_
  ·rw[← hol]
   (apply Sub.to [3] [[(1,0)],[(2,0)]]; all_goals (repeat' (first | exact aE.nil | exact aB.nil | exact aF.nil | exact ToL.nil | exact ToR.nil | refine aE.cons ?_ ?_ | refine aB.cons ?_ ?_ | refine aP ?_ ?_ | exact To.undef _ | exact To.sc _ | exact To.hslL rfl rfl | exact To.asl _ _ _ _ _ _ _ rfl | refine To.ifc _ _ _ ?_ | exact To.ptrO rfl rfl rfl | exact To.mrefO rfl | exact To.nil rfl rfl rfl | exact wt1 | exact To.nilL | refine To.int ?_ | refine To.bool ?_ | refine To.hslL rfl ?_ | refine wt2 rfl ?_ ?_ ?_ | refine To.tupL ?_ | refine To.aggL ?_ | refine To.cptrL ?_ | refine To.fzp rfl rfl rfl ?_ | refine To.fzm rfl rfl ?_ | refine To.cloL ?_ ?_ | refine wt3 ?_ | refine wt4 ?_ | exact wt5 | refine wt6 ?_ | refine ToB.one ?_ | exact wt7 | ((with_reducible apply ToL.consE); case e9=>rfl) | refine wt8 ?_ | refine ToL.cons ?_ ?_ | exact wt11 | refine wt9 ?_ ?_ | refine wt12 ?_ | (with_reducible rfl) | assumption)); all_goals (first | rfl | assumption | (simp; done) | (simp; omega) | (rw[wrap_small (by omega) (by omega)]; done) | (rw[wrap_small (by omega) (by omega)]; omega) | (refine congrArg Nat.cast ?_; assumption) | skip))
  rintro i l ⟨hi,hl,hok⟩
  refine aA ?_
  refine AWP.condN (i < of.length) rfl rfl (fun h9=>?_) (fun h9=>?_)
  ·have hr:=uQ of i h9
   have hu:=ih of[i] (List.getElem_mem _)
   have hsm:=h8 of[i] (List.getElem_mem _)
   have hub:=dH n of[i] hsm
   unfold FH at hu
   have hgi:of[i]?=some of[i]:=gEg h9
   generalize of[i]=u at *
   obtain⟨_,k',c',b',st',sz',bl',pl',of',_,rfl,_⟩:=bI hsm
   rw[tyR] at hr hu
   rcases hes:aG n (.mk k' c' b' st' sz' bl' pl' of') with⟨e,s⟩
   rw[hes] at hu hub
   unfold shR at hu
   replace hu:aC Tryz.prog 133 [.agg [iv k',iv c',iv b',iv st',.list 1 (inR sz'),.list 1 (inR bl'),.list 1 (inR pl'),.list 8 (aS of')]] (.tup [.agg [.list 2 (enR s.es),iv s.lo,iv s.hi],iv e]):=hu
   refine aA ?_
   refine AWP.condN (e≠0) rfl (fS e) (fun he=>?_) (fun he=>?_)
   ·have hseq:lS (aG n) of=(e,[]):=zH hgi hes he fun j v hj hv=>by
     obtain⟨s',_,h5,_⟩:=hok j hj v hv
     rw[h5]
    have hres:aG (n+1) (.mk k c b st sz bl pl of)=(e,shp0):=by
     rw[aG,hseq]
     simp only
     rw[if_pos he]
    rw[hres,show shR (e,shp0).2=[.list 2 [],iv 0,iv 0] from rfl]
    refine aA ?_
    exact aJ.w
   ·replace he:e=0:=Decidable.byContradiction he
    subst he
    have hsb:=hub rfl
    have holl:=z6 l
    refine aA ?_
    refine⟨i+1,l++[s],⟨by omega,by simp[hl],fun j hj v hv=>?_⟩,by omega,?_⟩
    ·by_cases ej:j=i
     ·subst ej
      rw[hgi] at hv
      injection hv with hv
      subst hv
      exact⟨s,by rw[List.getElem?_append_right (by omega),hl,Nat.sub_self]; rfl,hes,hsb⟩
     ·obtain⟨s',h5,h6⟩:=hok j (by omega) v hv
      exact⟨s',by rw[List.getElem?_append_left (by omega)]; exact h5,h6⟩
    (apply Sub.to [] [[(0,0)],[(5,0)]]; all_goals (repeat' (first | exact aE.nil | exact aB.nil | exact aF.nil | exact ToL.nil | exact ToR.nil | refine aE.cons ?_ ?_ | refine aB.cons ?_ ?_ | refine aP ?_ ?_ | exact To.undef _ | exact To.sc _ | exact To.hslL rfl rfl | exact To.asl _ _ _ _ _ _ _ rfl | refine To.ifc _ _ _ ?_ | exact To.ptrO rfl rfl rfl | exact To.mrefO rfl | exact To.nil rfl rfl rfl | exact wt1 | exact To.nilL | refine To.int ?_ | refine To.bool ?_ | refine To.hslL rfl ?_ | refine wt2 rfl ?_ ?_ ?_ | refine To.tupL ?_ | refine To.aggL ?_ | refine To.cptrL ?_ | refine To.fzp rfl rfl rfl ?_ | refine To.fzm rfl rfl ?_ | refine To.cloL ?_ ?_ | refine wt3 ?_ | refine wt4 ?_ | exact wt5 | refine wt6 ?_ | refine ToB.one ?_ | exact wt7 | ((with_reducible apply ToL.consE); case e9=>rfl) | refine wt8 ?_ | refine ToL.cons ?_ ?_ | exact wt11 | refine wt9 ?_ ?_ | refine wt12 ?_ | (with_reducible rfl) | assumption)); all_goals (first | rfl | assumption | (simp; done) | (simp; omega) | (rw[wrap_small (by omega) (by omega)]; done) | (rw[wrap_small (by omega) (by omega)]; omega) | (refine congrArg Nat.cast ?_; assumption) | skip))
    all_goals first | exact .dead _ | exact(by simp[ofR]:ofR l++[[.list 2 (enR s.es),iv s.lo,iv s.hi]]=ofR (l++[s]))
  ·obtain rfl:of.length=i:=by omega
   have hseq:lS (aG n) of=(0,l):=D8 hl fun j u hj=>by
    obtain⟨s',h5,h6,_⟩:=hok j (gEs.1 hj).1 u hj
    exact⟨s',h5,h6⟩
   have hlb:∀ x∈l,shB x:=fun x hx=>by
    obtain⟨j,hj,rfl⟩:=List.getElem_of_mem hx
    obtain⟨s',h5,_,h6⟩:=hok j (by omega) of[j] (gEg (by omega))
    rw[gEg hj] at h5
    injection h5 with h5
    rw[h5]; exact h6
   refine AWP.exit ?_
   refine AWP.sub (fr':=[(1,.cptr [iv k,iv c,iv b,iv st,.list 1 (inR sz),.list 1 (inR bl),.list 1 (inR pl),.list 8 (aS of)]),(2,.ptr 0 0 0 0),(4,.list 3 (ofR l))]) (H':=[[.cells 3 [r0S]]]) ?_ ?_
   ·have holl:=z6 l
    (apply Sub.to [] [[(0,0)]]; all_goals (repeat' (first | exact aE.nil | exact aB.nil | exact aF.nil | exact ToL.nil | exact ToR.nil | refine aE.cons ?_ ?_ | refine aB.cons ?_ ?_ | refine aP ?_ ?_ | exact To.undef _ | exact To.sc _ | exact To.hslL rfl rfl | exact To.asl _ _ _ _ _ _ _ rfl | refine To.ifc _ _ _ ?_ | exact To.ptrO rfl rfl rfl | exact To.mrefO rfl | exact To.nil rfl rfl rfl | exact wt1 | exact To.nilL | refine To.int ?_ | refine To.bool ?_ | refine To.hslL rfl ?_ | refine wt2 rfl ?_ ?_ ?_ | refine To.tupL ?_ | refine To.aggL ?_ | refine To.cptrL ?_ | refine To.fzp rfl rfl rfl ?_ | refine To.fzm rfl rfl ?_ | refine To.cloL ?_ ?_ | refine wt3 ?_ | refine wt4 ?_ | exact wt5 | refine wt6 ?_ | refine ToB.one ?_ | exact wt7 | ((with_reducible apply ToL.consE); case e9=>rfl) | refine wt8 ?_ | refine ToL.cons ?_ ?_ | exact wt11 | refine wt9 ?_ ?_ | refine wt12 ?_ | (with_reducible rfl) | assumption)); all_goals (first | rfl | assumption | (simp; done) | (simp; omega) | (rw[wrap_small (by omega) (by omega)]; done) | (rw[wrap_small (by omega) (by omega)]; omega) | (refine congrArg Nat.cast ?_; assumption) | skip))
   have hsz:=mQ k
   have hcon:=K3 k
   have hP:aG (n+1) (.mk k c b st sz bl pl of)=if bB k=0∧¬ (6≤k∧k≤11) then(2,shp0) else if eQ k c b st sz bl pl of.length≠0 then(eQ k c b st sz bl pl of.length,shp0) else if 0 < bB k then(0,⟨[(k,0)],0,bB k⟩) else if vO k c b st sz bl pl=true then qS k c b st sz bl pl l else(3,shp0):=by
    rw[aG,hseq]
    simp only
    rw[if_neg (by simp)]
   by_cases hk:6≤k∧k≤11
   ·have hs0:bB k=0:=AP.2 (by omega)
    rw[KY hk.1 hk.2,dTr hk] at hcon
    rw[hs0] at hsz
    have hfo:=sD k c b st sz bl pl of (fl1 k) (fl2 k) (fl3 k) (fl4 k) (fl5 k) false (.func (.func (CP k)) #[] #[]) (.func (.func (JZ k)) #[] #[]) rfl rfl h1 h2 h3 h4
    rw[e0] at hfo
    have hfe:(if yU (fl1 k) (fl2 k) (fl3 k) (fl4 k) (fl5 k) c b st sz bl pl of.length (ofG false k of.length)=true then 2 else shG k sz bl pl (ofG false k of.length))=eQ k c b st sz bl pl of.length:=by
     unfold eQ
     rw[hs0]
     rfl
    rw[hfe] at hfo
    rw[if_neg (by omega)] at hP
    rw[hs0,if_neg (show¬ (0 < 0) by omega)] at hP
    refine aA ?_
    refine AWP.condN (eQ k c b st sz bl pl of.length≠0) rfl (fS _) (fun hf=>?_) (fun hf=>?_)
    ·rw[if_pos hf] at hP
     rw[hP,show ∀ e:Int,shR (e,shp0).2=[.list 2 [],iv 0,iv 0] from fun _=>rfl]
     refine aA ?_
     exact aJ.w
    ·replace hf:eQ k c b st sz bl pl of.length=0:=Decidable.byContradiction hf
     rw[if_neg (fun q=>q hf)] at hP
     have w1:=cL st (-1048576) 1048576
     have w2:=zJ pl (-1048576) 1048576 (by omega)
     have w3:=LF (k:=k) (c:=c) (b:=b) (st:=st) (sz:=sz) (bl:=bl) (pl:=pl) (ty:=of) hk hf
     have hnp:vO k c b st sz bl pl=(aK st (-1048576) 1048576 && iU pl (-1048576) 1048576 && HO k c b sz bl pl):=rfl
     cases g1:aK st (-1048576) 1048576 with
     | false=>
      rw[g1] at w1 hnp
      rw[hnp,if_neg (by simp)] at hP
      rw[hP,show ∀ e:Int,shR (e,shp0).2=[.list 2 [],iv 0,iv 0] from fun _=>rfl]
      refine aA ?_
      exact aJ.w
     | true=>
     rw[g1] at w1 hnp
     cases g2:iU pl (-1048576) 1048576 with
     | false=>
      rw[g2] at w2 hnp
      rw[hnp,if_neg (by simp)] at hP
      rw[hP,show ∀ e:Int,shR (e,shp0).2=[.list 2 [],iv 0,iv 0] from fun _=>rfl]
      refine aA ?_
      exact aJ.w
     | true=>
     rw[g2] at w2 hnp
     cases g3:HO k c b sz bl pl with
     | false=>
      rw[g3] at w3 hnp
      rw[hnp,if_neg (by simp)] at hP
      rw[hP,show ∀ e:Int,shR (e,shp0).2=[.list 2 [],iv 0,iv 0] from fun _=>rfl]
      refine aA ?_
      exact aJ.w
     | true=>
     rw[g3] at w3 hnp
     have hnt:vO k c b st sz bl pl=true:=hnp
     rw[hnt,if_pos rfl] at hP
     obtain⟨⟨it,hit⟩,hne,q1,q2,q3⟩:=CW (ty:=of) (of:=l) hk (by rw[hl]; exact hf) hnt hlb
     have hput:=KI (c1:=fl1 k) (c2:=fl2 k) (c3:=fl3 k) (c4:=fl4 k) (c5:=fl5 k) (n5:=CP k) hit hne q1 q2 q3
     rw[hP]
     generalize qS k c b st sz bl pl l=r at *
     obtain⟨e',s⟩:=r
     unfold shR at hput ⊢
     refine aA ?_
     exact aJ.w
   ·rw[K8 hk,dFa hk] at hcon
    by_cases hb:0 < bB k
    ·have hfo:=sD k c b st sz bl pl of (fl1 k) (fl2 k) (fl3 k) (fl4 k) (fl5 k) true .nilFunc .nilFunc rfl rfl h1 h2 h3 h4
     rw[e0] at hfo
     have hfe:(if yU (fl1 k) (fl2 k) (fl3 k) (fl4 k) (fl5 k) c b st sz bl pl of.length (ofG true k of.length)=true then 2 else shG k sz bl pl (ofG true k of.length))=eQ k c b st sz bl pl of.length:=by
      unfold eQ
      rw[dTr hb]
     rw[hfe] at hfo
     rw[if_neg (by omega)] at hP
     obtain⟨z,hz⟩:∃ z,bB k=z+1:=⟨bB k - 1,by omega⟩
     rw[if_pos hb] at hP
     rw[hz] at hsz hP
     refine aA ?_
     refine AWP.condN (eQ k c b st sz bl pl of.length≠0) rfl (fS _) (fun hf=>?_) (fun hf=>?_)
     ·rw[if_pos hf] at hP
      rw[hP,show ∀ e:Int,shR (e,shp0).2=[.list 2 [],iv 0,iv 0] from fun _=>rfl]
      refine aA ?_
      exact aJ.w
     ·replace hf:eQ k c b st sz bl pl of.length=0:=Decidable.byContradiction hf
      rw[if_neg (fun q=>q hf)] at hP
      rw[hP,show shR ((0:Int),(⟨[(k,0)],0,((z+1:Nat):Int)⟩:Shp)).2=[.list 2 [[iv k,iv 0]],iv 0,iv (z+1:Nat)] from rfl]
      refine aA ?_
      exact aJ.w
    ·rw[if_pos ⟨by omega,hk⟩] at hP
     rw[hP,show ∀ e:Int,shR (e,shp0).2=[.list 2 [],iv 0,iv 0] from fun _=>rfl]
     rw[show bB k=0 by omega] at hsz
     refine aA ?_
     exact aJ.w
theorem iK:∀(n:Nat) (t:Ty),(aG n t).1≠0→(aG n t).2=shp0
 | 0,_,_=>rfl
 | n+1,.raw ..,_=>rfl
 | n+1,.mk k c b st sz bl pl of,h=>by
  rw[aG] at h ⊢
  rcases hsq:lS (aG n) of with⟨e,l⟩
  rw[hsq] at h
  simp only at h ⊢
  by_cases h1:e≠0
  ·rw[if_pos h1]
  rw[if_neg h1] at h ⊢
  by_cases h2:bB k=0∧¬ (6≤k∧k≤11)
  ·rw[if_pos h2]
  rw[if_neg h2] at h ⊢
  by_cases h3:eQ k c b st sz bl pl of.length≠0
  ·rw[if_pos h3]
  rw[if_neg h3] at h ⊢
  by_cases h4:0 < bB k
  ·rw[if_pos h4] at h
   exact absurd rfl h
  rw[if_neg h4] at h ⊢
  by_cases h5:vO k c b st sz bl pl=true
  ·rw[if_pos h5] at h ⊢
   unfold qS at h ⊢
   cases hs:dX l (eV k c b st sz bl pl l) shp0 with
   | none=>rfl
   | some s=>
    rw[hs] at h
    simp only at h ⊢
    by_cases h6:okS (cR k sz pl l s)=true
    ·rw[if_pos h6] at h
     exact absurd rfl h
    ·rw[if_neg h6]
  ·rw[if_neg h5]
def bL (es:List (Int×Int)):Nat:=(es.map fun x=>bB x.1).sum
theorem gE (l:List (Int×Int)) (x:Int×Int):bL (l++[x])=bL l+bB x.1:=by simp[bL]
theorem fE:∀(l:List (Int×Int)),bL l≤8 * l.length
 | []=>by simp[bL]
 | x::l=>by
  have h1:=fE l
  have h2:=fT x.1
  unfold bL at h1 ⊢
  simp only[List.map_cons,List.sum_cons,List.length_cons]
  omega
theorem m7 {n:Nat} {t:Ty} (h:bF n t=true):(aG n t).2.es.length≤4096:=by
 by_cases h0:(aG n t).1=0
 ·exact(dH n t h h0).2.2.2.2.2.2.2.1
 ·rw[iK n t h0]
  simp[shp0]
variable {t:Ty}
theorem CR (h:bF 3 t=true):aC Tryz.prog 71 [.agg (tyR t)] (.tup [.agg (shR (aG 3 t).2),iv (aG 3 t).1]):=by
 refine aC.mkI cF71 (nlB rfl) ?_
 have hd:=z3 3 t 8 h (by omega) (by omega)
 have hs:=tA 3 t h
 unfold FH at hs
 generalize aG 3 t=r at *
 obtain⟨e,s⟩:=r
 obtain⟨_,_,_,_,_,_,_,_,_,_,rfl,_⟩:=bI h
 rw[tyR] at hd hs ⊢
 unfold shR at hs ⊢
 refine aA ?_
 exact aJ.w
theorem uG (h:bF 3 t=true):aC Tryz.prog 21 [.agg (tyR t)] (.tup [iv (bL (aG 3 t).2.es),iv (aG 3 t).1]):=by
 refine aC.mkI cF21 (nlB rfl) ?_
 have hs:=CR h
 have hl:=m7 h
 generalize aG 3 t=r at *
 obtain⟨e,s⟩:=r
 obtain⟨es,lo,hi⟩:=s
 obtain⟨_,_,_,_,_,_,_,_,_,_,rfl,_⟩:=bI h
 rw[tyR] at hs ⊢
 unfold shR at hs
 replace hs:aC Tryz.prog 71 _ (.tup [.agg [.list 2 (enR es),iv lo,iv hi],iv e]):=hs
 replace hl:es.length≤4096:=hl
 show AWP Tryz.prog F21.n 0 F21.code (aJ F21.res (.tup [iv (bL es),iv e])) _ _
 have hel:=cO es
 refine aA ?_
 refine AWP.loop (fun i:Nat=>[(5,iv e),(6,iv (bL (es.take i))),(15,.list 2 (enR es)),(16,iv es.length),(17,iv i)]) (fun _=>[]) (fun i=>i≤es.length) (fun i=>es.length - i) 0 (Nat.zero_le _) ?_ ?_
 ·rw[← hel]
  exact Sub.w [] []
 rintro i hi
 refine aA ?_
 refine AWP.condN (i < es.length) rfl rfl (fun h=>?_) (fun h=>?_)
 ·have hr:=fM es i h
  have w:=mQ es[i].1
  have e1:bL (es.take (i+1))=bL (es.take i)+bB es[i].1:=by rw[cM h,gE]
  have h2:=fE (es.take i)
  rw[List.length_take] at h2
  have h3:=fT es[i].1
  refine aA ?_
  refine⟨i+1,by omega,by omega,?_⟩
  rw[e1]
  (apply Sub.to [] []; all_goals (repeat' (first | exact aE.nil | exact aB.nil | exact aF.nil | exact ToL.nil | exact ToR.nil | refine aE.cons ?_ ?_ | refine aB.cons ?_ ?_ | refine aP ?_ ?_ | exact To.undef _ | exact To.sc _ | exact To.hslL rfl rfl | exact To.asl _ _ _ _ _ _ _ rfl | refine To.ifc _ _ _ ?_ | exact To.ptrO rfl rfl rfl | exact To.mrefO rfl | exact To.nil rfl rfl rfl | exact wt1 | exact To.nilL | refine To.int ?_ | refine To.bool ?_ | refine To.hslL rfl ?_ | refine wt2 rfl ?_ ?_ ?_ | refine To.tupL ?_ | refine To.aggL ?_ | refine To.cptrL ?_ | refine To.fzp rfl rfl rfl ?_ | refine To.fzm rfl rfl ?_ | refine To.cloL ?_ ?_ | refine wt3 ?_ | refine wt4 ?_ | exact wt5 | refine wt6 ?_ | refine ToB.one ?_ | exact wt7 | ((with_reducible apply ToL.consE); case e9=>rfl) | refine wt8 ?_ | refine ToL.cons ?_ ?_ | exact wt11 | refine wt9 ?_ ?_ | refine wt12 ?_ | (with_reducible rfl) | assumption)); all_goals (first | rfl | assumption | (simp; done) | (simp; omega) | (rw[wrap_small (by omega) (by omega)]; done) | (rw[wrap_small (by omega) (by omega)]; omega) | (refine congrArg Nat.cast ?_; assumption) | skip))
 ·obtain rfl:es.length=i:=by omega
  rw[List.take_length]
  refine aA ?_
  exact aJ.w
theorem DJ (es:List (Int×Int)) (hl:es.length≤4096):aC Tryz.prog 152 [.list 2 (enR es)] (iv (bL es)):=by
 refine aC.mkI JF (nlB rfl) ?_
 have hel:=cO es
 refine aA ?_
 refine AWP.loop (fun i:Nat=>[(3,iv (bL (es.take i))),(6,.list 2 (enR es)),(7,iv es.length),(8,iv i)]) (fun _=>[]) (fun i=>i≤es.length) (fun i=>es.length - i) 0 (Nat.zero_le _) ?_ ?_
 ·rw[← hel]
  exact Sub.w [] []
 rintro i hi
 refine aA ?_
 refine AWP.condN (i < es.length) rfl rfl (fun h=>?_) (fun h=>?_)
 ·have hr:=fM es i h
  have w:=mQ es[i].1
  have e1:bL (es.take (i+1))=bL (es.take i)+bB es[i].1:=by rw[cM h,gE]
  have h2:=fE (es.take i)
  rw[List.length_take] at h2
  have h3:=fT es[i].1
  refine aA ?_
  refine⟨i+1,by omega,by omega,?_⟩
  rw[e1]
  (apply Sub.to [] []; all_goals (repeat' (first | exact aE.nil | exact aB.nil | exact aF.nil | exact ToL.nil | exact ToR.nil | refine aE.cons ?_ ?_ | refine aB.cons ?_ ?_ | refine aP ?_ ?_ | exact To.undef _ | exact To.sc _ | exact To.hslL rfl rfl | exact To.asl _ _ _ _ _ _ _ rfl | refine To.ifc _ _ _ ?_ | exact To.ptrO rfl rfl rfl | exact To.mrefO rfl | exact To.nil rfl rfl rfl | exact wt1 | exact To.nilL | refine To.int ?_ | refine To.bool ?_ | refine To.hslL rfl ?_ | refine wt2 rfl ?_ ?_ ?_ | refine To.tupL ?_ | refine To.aggL ?_ | refine To.cptrL ?_ | refine To.fzp rfl rfl rfl ?_ | refine To.fzm rfl rfl ?_ | refine To.cloL ?_ ?_ | refine wt3 ?_ | refine wt4 ?_ | exact wt5 | refine wt6 ?_ | refine ToB.one ?_ | exact wt7 | ((with_reducible apply ToL.consE); case e9=>rfl) | refine wt8 ?_ | refine ToL.cons ?_ ?_ | exact wt11 | refine wt9 ?_ ?_ | refine wt12 ?_ | (with_reducible rfl) | assumption)); all_goals (first | rfl | assumption | (simp; done) | (simp; omega) | (rw[wrap_small (by omega) (by omega)]; done) | (rw[wrap_small (by omega) (by omega)]; omega) | (refine congrArg Nat.cast ?_; assumption) | skip))
 ·obtain rfl:es.length=i:=by omega
  rw[List.take_length]
  refine aA ?_
  exact aJ.w
theorem sI (h:bF 3 t=true):aC Tryz.prog 22 [.agg (tyR t)] (.tup [iv (aG 3 t).2.lo,iv (aG 3 t).2.ext,iv (aG 3 t).1]):=by
 refine aC.mkI cF22 (nlB rfl) ?_
 have hs:=CR h
 have hb:(-mP≤(aG 3 t).2.lo∧(aG 3 t).2.lo≤mP)∧-mP≤(aG 3 t).2.hi∧(aG 3 t).2.hi≤mP:=by
  by_cases h0:(aG 3 t).1=0
  ·obtain⟨b1,b2,b3,b4,_⟩:=dH 3 t h h0
   exact⟨⟨b1,b2⟩,b3,b4⟩
  ·rw[iK 3 t h0]
   decide
 generalize aG 3 t=r at *
 obtain⟨e,s⟩:=r
 unfold mP at hb
 have hx:=dO s (by have:=hb.1.1; simp only at this; omega) (by have:=hb.1.2; simp only at this; omega) (by have:=hb.2.1; simp only at this; omega) (by have:=hb.2.2; simp only at this; omega)
 obtain⟨es,lo,hi⟩:=s
 obtain⟨_,_,_,_,_,_,_,_,_,_,rfl,_⟩:=bI h
 rw[tyR] at hs ⊢
 unfold shR at hs hx
 replace hs:aC Tryz.prog 71 _ (.tup [.agg [.list 2 (enR es),iv lo,iv hi],iv e]):=hs
 replace hx:aC Tryz.prog 73 [.agg [.list 2 (enR es),iv lo,iv hi]] (iv (Shp.ext ⟨es,lo,hi⟩)):=hx
 refine aA ?_
 refine DK.nil ⟨by kernel_rfl,?_⟩
 refine aA ?_
 exact aJ.w
variable {t:Ty}
set_option maxHeartbeats 1000000 in
theorem w5 (h:bF 3 t=true):aC Tryz.prog 150 [.agg (tyR t),iv 1] (.tup [.list 2 (enR (aG 3 t).2.es),iv (aG 3 t).1]):=by
 refine aC.mkI JI (nlB rfl) ?_
 have hs:=CR h
 have hok:=dH 3 t h
 have her:=iK 3 t
 generalize aG 3 t=r at *
 obtain⟨e,s⟩:=r
 simp only at hok her
 obtain⟨es,lo,hi'⟩:=s
 obtain⟨_,_,_,_,_,_,_,_,_,_,rfl,_⟩:=bI h
 rw[tyR] at hs ⊢
 unfold shR at hs
 replace hs:aC Tryz.prog 71 _ (.tup [.agg [.list 2 (enR es),iv lo,iv hi'],iv e]):=hs
 have hel:=cO es
 refine aA ?_
 refine AWP.condN (e≠0) rfl (fS _) (fun he=>?_) (fun he=>?_)
 ·rw[show(e,(⟨es,lo,hi'⟩:Shp)).2.es=[] by have:=her he; injection this with h1]
  refine aA ?_
  exact aJ.w
 ·obtain⟨b1,b2,b3,b4,b5,b6,b7,b8,b9⟩:=hok (Decidable.byContradiction he)
  obtain rfl:e=0:=Decidable.byContradiction he
  replace b7:es≠[]:=b7
  unfold mP at b1 b2 b3 b4
  replace b1:-1048576≤lo:=b1
  replace b2:lo≤1048576:=b2
  replace b3:-1048576≤hi':=b3
  replace b4:hi'≤1048576:=b4
  replace b8:es.length≤4096:=b8
  replace b9:∀ y∈es,-mP≤y.2∧y.2≤mP:=b9
  have h0:0 < es.length:=List.length_pos_iff.2 b7
  refine aA ?_
  refine AWP.condN (4096 / es.length < 1) rfl (by rw[hel]) (fun h5=>?_) (fun _=>?_)
  ·have:1≤4096 / es.length:=(Nat.le_div_iff_mul_le h0).2 (by omega)
   omega
  refine aA ?_
  refine AWP.loop2 (fun(i:Nat) (_:Unit)=>[(1,iv 1),(6,.cptr [.list 2 (enR es),iv lo,iv hi']),(8,.hsl 0 0 0 (i * es.length)),(31,iv 1),(32,iv i)]) (fun i _=>[[.cells 2 (if i=0 then[] else enR es)]]) (fun i _=>i≤1) (fun i _=>1 - i) 0 () (Nat.zero_le _) ?_ ?_
  ·rw[Nat.zero_mul,if_pos rfl]
   (apply Sub.to [2] [[(2,0)]]; all_goals (repeat' (first | exact aE.nil | exact aB.nil | exact aF.nil | exact ToL.nil | exact ToR.nil | refine aE.cons ?_ ?_ | refine aB.cons ?_ ?_ | refine aP ?_ ?_ | exact To.undef _ | exact To.sc _ | exact To.hslL rfl rfl | exact To.asl _ _ _ _ _ _ _ rfl | refine To.ifc _ _ _ ?_ | exact To.ptrO rfl rfl rfl | exact To.mrefO rfl | exact To.nil rfl rfl rfl | exact wt1 | exact To.nilL | refine To.int ?_ | refine To.bool ?_ | refine To.hslL rfl ?_ | refine wt2 rfl ?_ ?_ ?_ | refine To.tupL ?_ | refine To.aggL ?_ | refine To.cptrL ?_ | refine To.fzp rfl rfl rfl ?_ | refine To.fzm rfl rfl ?_ | refine To.cloL ?_ ?_ | refine wt3 ?_ | refine wt4 ?_ | exact wt5 | refine wt6 ?_ | refine ToB.one ?_ | exact wt7 | ((with_reducible apply ToL.consE); case e9=>rfl) | refine wt8 ?_ | refine ToL.cons ?_ ?_ | exact wt11 | refine wt9 ?_ ?_ | refine wt12 ?_ | (with_reducible rfl) | assumption)); all_goals (first | rfl | assumption | (simp; done) | (simp; omega) | (rw[wrap_small (by omega) (by omega)]; done) | (rw[wrap_small (by omega) (by omega)]; omega) | (refine congrArg Nat.cast ?_; assumption) | skip))
  rintro i _ hi
  refine aA ?_
  refine AWP.condN (i < 1) rfl rfl (fun h5=>?_) (fun h5=>?_)
  ·obtain rfl:i=0:=by omega
   have hx:=dO ⟨es,lo,hi'⟩ (by show _≤lo; omega) (by show lo≤_; omega) (by show _≤hi'; omega) (by show hi'≤_; omega)
   unfold shR at hx
   replace hx:aC Tryz.prog 73 [.agg [.list 2 (enR es),iv lo,iv hi']] (iv (hi' - lo)):=hx
   refine aA ?_
   rw[if_pos rfl]
   refine AWP.loop (fun j:Nat=>[(1,iv 1),(6,.cptr [.list 2 (enR es),iv lo,iv hi']),(8,.hsl 0 0 0 j),(9,iv (0:Nat)),(31,iv 1),(32,iv (0:Nat)),(36,.list 2 (enR es)),(37,iv es.length),(38,iv j)]) (fun j=>[[.cells 2 (enR (es.take j))]]) (fun j=>j≤es.length) (fun j=>es.length - j) 0 (Nat.zero_le _) ?_ ?_
   ·rw[← hel]
    (apply Sub.to [] [[(0,0)]]; all_goals (repeat' (first | exact aE.nil | exact aB.nil | exact aF.nil | exact ToL.nil | exact ToR.nil | refine aE.cons ?_ ?_ | refine aB.cons ?_ ?_ | refine aP ?_ ?_ | exact To.undef _ | exact To.sc _ | exact To.hslL rfl rfl | exact To.asl _ _ _ _ _ _ _ rfl | refine To.ifc _ _ _ ?_ | exact To.ptrO rfl rfl rfl | exact To.mrefO rfl | exact To.nil rfl rfl rfl | exact wt1 | exact To.nilL | refine To.int ?_ | refine To.bool ?_ | refine To.hslL rfl ?_ | refine wt2 rfl ?_ ?_ ?_ | refine To.tupL ?_ | refine To.aggL ?_ | refine To.cptrL ?_ | refine To.fzp rfl rfl rfl ?_ | refine To.fzm rfl rfl ?_ | refine To.cloL ?_ ?_ | refine wt3 ?_ | refine wt4 ?_ | exact wt5 | refine wt6 ?_ | refine ToB.one ?_ | exact wt7 | ((with_reducible apply ToL.consE); case e9=>rfl) | refine wt8 ?_ | refine ToL.cons ?_ ?_ | exact wt11 | refine wt9 ?_ ?_ | refine wt12 ?_ | (with_reducible rfl) | assumption)); all_goals (first | rfl | assumption | (simp; done) | (simp; omega) | (rw[wrap_small (by omega) (by omega)]; done) | (rw[wrap_small (by omega) (by omega)]; omega) | (refine congrArg Nat.cast ?_; assumption) | skip))
   rintro j hj
   refine aA ?_
   refine AWP.condN (j < es.length) rfl rfl (fun h6=>?_) (fun h6=>?_)
   ·have hr:=fM es j h6
    have hy:=b9 es[j] (List.getElem_mem _)
    have e1:enR (es.take (j+1))=enR (es.take j)++[[iv es[j].1,iv es[j].2]]:=by
     unfold enR
     rw[cM h6,List.map_append]
     rfl
    have etl:(enR (es.take j)).length=j:=by rw[cO,List.length_take]; omega
    generalize es[j].1=kd at *
    generalize es[j].2=a at *
    unfold mP at hy
    have ew:IntKind.i64.wrap (a+IntKind.i64.wrap (((0:Nat):Int) * (hi' - lo)))=a:=by
     rw[show((0:Nat):Int) * (hi' - lo)=0 by simp,Av.wrap_small (show -9223372036854775808≤(0:Int) by omega) (by omega),Int.add_zero,Av.wrap_small (by omega) (by omega)]
    have w:=cL a (-1048576) 1048576
    rw[show aK a (-1048576) 1048576=true by simp[aK]; omega] at w
    refine aA ?_
    rw[ew]
    refine aA ?_
    refine DK.nil ⟨by kernel_rfl,?_⟩
    refine aA ?_
    refine⟨j+1,by omega,by omega,?_⟩
    rw[e1]
    (apply Sub.to [] [[(4,0)]]; all_goals (repeat' (first | exact aE.nil | exact aB.nil | exact aF.nil | exact ToL.nil | exact ToR.nil | refine aE.cons ?_ ?_ | refine aB.cons ?_ ?_ | refine aP ?_ ?_ | exact To.undef _ | exact To.sc _ | exact To.hslL rfl rfl | exact To.asl _ _ _ _ _ _ _ rfl | refine To.ifc _ _ _ ?_ | exact To.ptrO rfl rfl rfl | exact To.mrefO rfl | exact To.nil rfl rfl rfl | exact wt1 | exact To.nilL | refine To.int ?_ | refine To.bool ?_ | refine To.hslL rfl ?_ | refine wt2 rfl ?_ ?_ ?_ | refine To.tupL ?_ | refine To.aggL ?_ | refine To.cptrL ?_ | refine To.fzp rfl rfl rfl ?_ | refine To.fzm rfl rfl ?_ | refine To.cloL ?_ ?_ | refine wt3 ?_ | refine wt4 ?_ | exact wt5 | refine wt6 ?_ | refine ToB.one ?_ | exact wt7 | ((with_reducible apply ToL.consE); case e9=>rfl) | refine wt8 ?_ | refine ToL.cons ?_ ?_ | exact wt11 | refine wt9 ?_ ?_ | refine wt12 ?_ | (with_reducible rfl) | assumption)); all_goals (first | rfl | assumption | (simp; done) | (simp; omega) | (rw[wrap_small (by omega) (by omega)]; done) | (rw[wrap_small (by omega) (by omega)]; omega) | (refine congrArg Nat.cast ?_; assumption) | skip))
   ·obtain rfl:es.length=j:=by omega
    rw[List.take_length]
    refine aA ?_
    refine⟨1,(),by omega,by omega,?_⟩
    rw[if_neg (by omega),Nat.one_mul]
    (apply Sub.to [] [[(0,0)]]; all_goals (repeat' (first | exact aE.nil | exact aB.nil | exact aF.nil | exact ToL.nil | exact ToR.nil | refine aE.cons ?_ ?_ | refine aB.cons ?_ ?_ | refine aP ?_ ?_ | exact To.undef _ | exact To.sc _ | exact To.hslL rfl rfl | exact To.asl _ _ _ _ _ _ _ rfl | refine To.ifc _ _ _ ?_ | exact To.ptrO rfl rfl rfl | exact To.mrefO rfl | exact To.nil rfl rfl rfl | exact wt1 | exact To.nilL | refine To.int ?_ | refine To.bool ?_ | refine To.hslL rfl ?_ | refine wt2 rfl ?_ ?_ ?_ | refine To.tupL ?_ | refine To.aggL ?_ | refine To.cptrL ?_ | refine To.fzp rfl rfl rfl ?_ | refine To.fzm rfl rfl ?_ | refine To.cloL ?_ ?_ | refine wt3 ?_ | refine wt4 ?_ | exact wt5 | refine wt6 ?_ | refine ToB.one ?_ | exact wt7 | ((with_reducible apply ToL.consE); case e9=>rfl) | refine wt8 ?_ | refine ToL.cons ?_ ?_ | exact wt11 | refine wt9 ?_ ?_ | refine wt12 ?_ | (with_reducible rfl) | assumption)); all_goals (first | rfl | assumption | (simp; done) | (simp; omega) | (rw[wrap_small (by omega) (by omega)]; done) | (rw[wrap_small (by omega) (by omega)]; omega) | (refine congrArg Nat.cast ?_; assumption) | skip))
  ·obtain rfl:i=1:=by omega
   rw[if_neg (by omega),Nat.one_mul]
   refine aA ?_
   exact aJ.w
end Go.Proofs.YtgdocflpobncmaaGreat
