import Derived.Test.YtkjoolaahocgdaaGreatGWiK1
import Derived.Test.YtkjoolaahocgdaaGreatGWiL
namespace Go.Proofs.YtkjoolaahocgdaaGreat
open Go.Av Go.Proofs
set_option maxRecDepth 20000
theorem wZ (k r o v:Int):aD Tryz.prog 27 [.sc (.int .i64 k),.sc (.int .i64 r),.sc (.int .i64 o),.sc (.int .i64 v)] (.agg (bO ⟨k,r,0,o,v,0,[]⟩)):=by
 refine aD.mkI cF27 (nlB rfl) ?_
 unfold bO
 refine aA ?_
 exact aS.w
theorem K7 (a b:List Act):aD Tryz.prog 28 [.list 7 (dD a),.list 7 (dD b)] (eZ ⟨1,[a,b]⟩):=by
 refine aD.mkI cF28 (nlB rfl) ?_
 rw[show eZ ⟨1,[a,b]⟩=.agg [.sc (.int .i64 1),.list 1 [[.list 7 (dD a)],[.list 7 (dD b)]]] from rfl]
 refine aA ?_
 exact aS.w
theorem JW (p:Pg) (hp:POK p) (hc:(dO p).1.2=0) (hr:(tK p (dO p).2 (nX (dO p).2.length p (dO p).2)).2=[]):aD Tryz.prog 29 [eZ p,.agg [.sc (.int .i64 0),.sc (.int .i64 0)],.agg [.sc (.int .i64 0),.sc (.int .i64 0)]] (.sc (.bool true)):=by
 refine aD.mkI cF29 (nlB rfl) ?_
 have h:=DI p hp
 unfold tW xC at h
 rw[if_pos hc,hr] at h
 unfold eZ at *
 rw[show(t7 []).map raR=[] by unfold t7; simp] at h
 refine aA ?_
 exact aS.w
theorem LF (p:Pg) (hp:POK p) (hc:(dO p).1.2=0) (hr:(tK p (dO p).2 (nX (dO p).2.length p (dO p).2)).2=[mk4 (0,1) (1,1)]):aD Tryz.prog 29 [eZ p,.agg [.sc (.int .i64 0),.sc (.int .i64 1)],.agg [.sc (.int .i64 1),.sc (.int .i64 1)]] (.sc (.bool true)):=by
 (refine aD.mkI cF29 (nlB rfl) ?_; have h:=DI p hp; unfold tW xC at h; rw[if_pos hc,hr] at h; unfold eZ at *; rw[show(t7 [mk4 (0,1) (1,1)]).map raR=[[.sc (.int .i64 0),.sc (.int .i64 1),.sc (.int .i64 1),.sc (.int .i64 1)]] by unfold t7; simp; rfl] at h; have hr0:dT [[AV.sc (.int .i64 0),.sc (.int .i64 1),.sc (.int .i64 1),.sc (.int .i64 1)]] 0=some [.sc (.int .i64 0),.sc (.int .i64 1),.sc (.int .i64 1),.sc (.int .i64 1)]:=rfl; refine aA ?_; refine DK.nil ⟨by kernel_rfl,?_⟩; refine aA ?_; exact aS.w)
set_option maxHeartbeats 8000000 in
theorem NU (p:Pg) (hp:POK p) (hc:(dO p).1.2=0) (hn:(dO p).2.length=2) (c0 c1:Int) (v:List Int) (hvl:v.length≤1000000) (s:St) (hs:lM p (dO p).2 (st0 p 2 5)=s) (h1:eP p s 2=[]) (h2:aT s 0=[c0]) (h3:aT s 1=[c1]) (h4:mB p s 1=v):
  aD Tryz.prog 30 [eZ p,.sc (.int .i64 c0),.sc (.int .i64 c1),.list 1 (aY v)] (.sc (.bool true)):=by
 refine aD.mkI cF30 (nlB rfl) ?_
 have h:=MV p hp (seed:=5) (by decide)
 unfold IZ at h
 rw[if_pos hc,hn,hs] at h
 have e1:lN p s 2=[[.list 1 (aY (mB p s 0))],[.list 1 (aY v)]]:=by rw[← h4]; rfl
 have e2:sJ 2 s=[[.list 1 [[.sc (.int .i64 c0)]]],[.list 1 [[.sc (.int .i64 c1)]]]]:=by
  have:sJ 2 s=[[.list 1 (aY (aT s 0))],[.list 1 (aY (aT s 1))]]:=rfl
  rw[this,h2,h3]
  rfl
 unfold CB at h
 rw[e1,e2,h1] at h
 generalize mB p s 0=v0 at *
 rw[show bB []=[] from rfl] at h
 unfold eZ at *
 have r0:dT [[AV.list 1 [[AV.sc (.int .i64 c0)]]],[AV.list 1 [[AV.sc (.int .i64 c1)]]]] 0=some [AV.list 1 [[AV.sc (.int .i64 c0)]]]:=rfl
 have r1:dT [[AV.list 1 [[AV.sc (.int .i64 c0)]]],[AV.list 1 [[AV.sc (.int .i64 c1)]]]] 1=some [AV.list 1 [[AV.sc (.int .i64 c1)]]]:=rfl
 have r2:dT [[AV.sc (.int .i64 c0)]] 0=some [.sc (.int .i64 c0)]:=rfl
 have r3:dT [[AV.sc (.int .i64 c1)]] 0=some [.sc (.int .i64 c1)]:=rfl
 have r4:dT [[AV.list 1 (aY v0)],[AV.list 1 (aY v)]] 1=some [AV.list 1 (aY v)]:=rfl
 have il:=cC v
 have n0:(c0 != c0)=false:=by simp
 have n1:(c1 != c1)=false:=by simp
 refine aA ?_
 rw[n0]
 refine aA ?_
 rw[n1]
 refine aA ?_
 rw[il]
 rw[dTr (rfl:v.length=v.length)]
 refine aA ?_
 refine AWP.loop (fun k:Nat=>[(3,.list 1 (aY v)),(9,.cptr [.list 1 [[.list 1 (aY v0)],[.list 1 (aY v)]],.undef,.undef]),(11,.sc (.int .i64 (k:Int)))]) (fun _=>[]) (fun k=>k≤v.length) (fun k=>v.length - k) 0 (Nat.zero_le _) ?_ ?_
 ·exact Sub.w [] []
 intro k hk
 refine AWP.seq ?_
 refine AWP.seq ?_
 refine AWP.region ?_
 refine bZ ?_
 rw[il]
 refine bZ ?_
 refine AWP.condD rfl (fun hkl=>?_) (fun hge=>?_)
 ·have hx:=l8 v k hkl
  have nx:(v[k] != v[k])=false:=by simp
  generalize v[k]=vk at *
  refine aA ?_
  refine DK.nil ⟨by kernel_rfl,?_⟩
  refine aA ?_
  rw[nx]
  refine aA ?_
  exact⟨k+1,by omega,by omega,by exact Sub.w [] []⟩
 ·refine AWP.exit ?_
  refine aA ?_
  exact aS.w
theorem POK.of {p:Pg} (h:(p.acts.all fun l=>l.all fun x=>decide (x.g.length≤9223372036854775807))=true):POK p:=fun l hl x hx=>by
 rw[List.all_eq_true] at h
 have h1:=h l hl
 rw[List.all_eq_true] at h1
 exact of_decide_eq_true (h1 x hx)
theorem DZ:POK goodP:=POK.of (by decide)
theorem NJ:POK badP:=POK.of (by decide)
theorem IX:aD Tryz.prog 30 [eZ goodP,.sc (.int .i64 0),.sc (.int .i64 5),.list 1 (aY [5])] (.sc (.bool true)):=by
 obtain⟨s,hs⟩:∃ s,s=lM goodP (dO goodP).2 (st0 goodP 2 5):=⟨_,rfl⟩
 have h1:=KP
 have h2:=FZ
 have h3:=IU
 rw[← hs] at h1 h2 h3
 exact NU goodP DZ (by rw[CA]) (by kernel_rfl) 0 5 [5] (by simp) s hs.symm h2 (by unfold aT; rw[h1]; rfl) (by unfold aT; rw[h1]; rfl) h3
set_option maxHeartbeats 8000000 in
theorem works_ok:aD Tryz.prog 14 [] (.sc (.bool true)):=by
 refine aD.mkI cF14 (nlB rfl) ?_
 have h1:=wZ 8 0 0 0
 have h2:=wZ 6 0 0 0
 have h3:=wZ 1 1 0 5
 have h4:=K7 [aF,aP,aF] [aF,aF,aL]
 have h5:=K7 [aF,aP,aF] [aF,aL,aF]
 have h6:=JW goodP DZ (by rw[CA]) E8
 have h7:=LF badP NJ (by rw[PG]) IJ
 have h8:=IX
 rw[show(⟨1,[[aF,aP,aF],[aF,aF,aL]]⟩:Pg)=goodP from rfl] at h4
 rw[show(⟨1,[[aF,aP,aF],[aF,aL,aF]]⟩:Pg)=badP from rfl] at h5
 have e1:eZ goodP=.agg [.sc (.int .i64 1),.list 1 (cE goodP.acts)]:=rfl
 have e2:eZ badP=.agg [.sc (.int .i64 1),.list 1 (cE badP.acts)]:=rfl
 rw[e1] at h4 h6 h8
 rw[e2] at h5 h7
 have p1:=prs (cE goodP.acts)
 have p2:=prs (cE badP.acts)
 have i1:PRs (cE goodP.acts):=⟨p1⟩
 have i2:PRs (cE badP.acts):=⟨p2⟩
 generalize cE goodP.acts=g at *
 generalize cE badP.acts=b at *
 refine AWP.sub (fr':=[]) (H':=[]) ?_ ?_
 ·exact Sub.w [] []
 refine AWP.seq ?_
 refine AWP.region ?_
 refine bZ ?_
 refine AWP.seq ?_
 refine AWP.region ?_
 unfold bO at h1 h2 h3
 refine bZ ?_
 refine AWP.sub (fr':=[(1,.cptr (bO aF))]) (H':=[]) ?_ ?_
 ·unfold bO aF
  exact Sub.w [] []
 refine AWP.seq ?_
 refine AWP.region ?_
 refine bZ ?_
 refine AWP.sub (fr':=[(1,.cptr (bO aF)),(2,.cptr (bO aL))]) (H':=[]) ?_ ?_
 ·unfold bO aF aL
  exact Sub.w [] []
 refine AWP.seq ?_
 refine AWP.region ?_
 refine bZ ?_
 refine AWP.sub (fr':=[(1,.cptr (bO aF)),(2,.cptr (bO aL)),(3,.cptr (bO aP))]) (H':=[]) ?_ ?_
 ·unfold bO aF aL aP
  exact Sub.w [] []
 have q1:bO aF=[.sc (.int .i64 8),.sc (.int .i64 0),.sc (.int .i64 0),.sc (.int .i64 0),.sc (.int .i64 0),.sc (.int .i64 0),.list 1 (aY [])]:=rfl
 have q2:bO aL=[.sc (.int .i64 6),.sc (.int .i64 0),.sc (.int .i64 0),.sc (.int .i64 0),.sc (.int .i64 0),.sc (.int .i64 0),.list 1 (aY [])]:=rfl
 have q3:bO aP=[.sc (.int .i64 1),.sc (.int .i64 1),.sc (.int .i64 0),.sc (.int .i64 0),.sc (.int .i64 5),.sc (.int .i64 0),.list 1 (aY [])]:=rfl
 refine AWP.seq ?_
 refine AWP.region ?_
 rw[q1,q2,q3]
 refine bZ ?_
 refine Reg.sub (fr':=[(1,.cptr (bO aF)),(2,.cptr (bO aL)),(3,.cptr (bO aP)),(12,.list 7 (dD [aF,aP,aF])),(16,.list 7 (dD [aF,aF,aL]))]) (H':=[]) ?_ ?_
 ·rw[q1,q2,q3]
  exact Sub.w [] []
 refine bZ ?_
 refine AWP.sub (fr':=[(1,.cptr (bO aF)),(2,.cptr (bO aL)),(3,.cptr (bO aP)),(4,.cptr [.sc (.int .i64 1),.list 1 g])]) (H':=[]) ?_ ?_
 ·rw[q1,q2,q3]
  exact Sub.w [] []
 refine AWP.seq ?_
 refine AWP.region ?_
 rw[q1,q2,q3]
 refine bZ ?_
 refine Reg.sub (fr':=[(4,.cptr [.sc (.int .i64 1),.list 1 g]),(21,.list 7 (dD [aF,aP,aF])),(25,.list 7 (dD [aF,aL,aF]))]) (H':=[]) ?_ ?_
 ·exact Sub.w [] []
 refine bZ ?_
 refine AWP.sub (fr':=[(4,.cptr [.sc (.int .i64 1),.list 1 g]),(5,.cptr [.sc (.int .i64 1),.list 1 b])]) (H':=[]) ?_ ?_
 ·exact Sub.w [] []
 refine aA ?_
 refine Reg.sub (fr':=[(31,.sc (.bool true)),(32,.agg [.sc (.int .i64 1),.list 1 g]),(33,.list 1 (aY [5])),(5,.cptr [.sc (.int .i64 1),.list 1 b])]) (H':=[]) ?_ ?_
 ·exact Sub.w [] []
 refine aA ?_
 exact aS.w
end Go.Proofs.YtkjoolaahocgdaaGreat
