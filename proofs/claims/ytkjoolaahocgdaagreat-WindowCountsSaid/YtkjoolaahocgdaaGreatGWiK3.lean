import Derived.Test.YtkjoolaahocgdaaGreatGWiK1
import Derived.Test.YtkjoolaahocgdaaGreatGWiL
namespace Go.Proofs.YtkjoolaahocgdaaGreat
open Go.Av Go.Proofs
set_option maxRecDepth 20000
theorem yU (k r o v:Int):aD Tryz.prog 27 [.sc (.int .i64 k),.sc (.int .i64 r),.sc (.int .i64 o),.sc (.int .i64 v)] (.agg (bQ ⟨k,r,0,o,v,0,[]⟩)):=by
 refine aD.mkI cF27 (nlB rfl) ?_
 unfold bQ
 refine aA ?_
 exact aN.w
theorem OO (a b:List Act):aD Tryz.prog 28 [.list 7 (dE a),.list 7 (dE b)] (dH ⟨1,[a,b]⟩):=by
 refine aD.mkI cF28 (nlB rfl) ?_
 rw[show dH ⟨1,[a,b]⟩=.agg [.sc (.int .i64 1),.list 1 [[.list 7 (dE a)],[.list 7 (dE b)]]] from rfl]
 refine aA ?_
 exact aN.w
theorem OG (p:Pg) (hp:POK p) (hc:(cL p).1.2=0) (hr:(iO p (cL p).2 (eE (cL p).2.length p (cL p).2)).2=[]):aD Tryz.prog 29 [dH p,.agg [.sc (.int .i64 0),.sc (.int .i64 0)],.agg [.sc (.int .i64 0),.sc (.int .i64 0)]] (.sc (.bool true)):=by
 refine aD.mkI cF29 (nlB rfl) ?_
 have h:=nI p hp
 unfold l8 g9 at h
 rw[if_pos hc,hr] at h
 unfold dH at *
 rw[show(pG []).map raR=[] by unfold pG; simp] at h
 refine aA ?_
 exact aN.w
theorem OK (p:Pg) (hp:POK p) (hc:(cL p).1.2=0) (hr:(iO p (cL p).2 (eE (cL p).2.length p (cL p).2)).2=[mk4 (0,1) (1,1)]):aD Tryz.prog 29 [dH p,.agg [.sc (.int .i64 0),.sc (.int .i64 1)],.agg [.sc (.int .i64 1),.sc (.int .i64 1)]] (.sc (.bool true)):=by
 (refine aD.mkI cF29 (nlB rfl) ?_; have h:=nI p hp; unfold l8 g9 at h; rw[if_pos hc,hr] at h; unfold dH at *; rw[show(pG [mk4 (0,1) (1,1)]).map raR=[[.sc (.int .i64 0),.sc (.int .i64 1),.sc (.int .i64 1),.sc (.int .i64 1)]] by unfold pG; simp; rfl] at h; have hr0:cQ [[AV.sc (.int .i64 0),.sc (.int .i64 1),.sc (.int .i64 1),.sc (.int .i64 1)]] 0=some [.sc (.int .i64 0),.sc (.int .i64 1),.sc (.int .i64 1),.sc (.int .i64 1)]:=rfl; refine aA ?_; refine DK.nil ⟨by kernel_rfl,?_⟩; refine aA ?_; exact aN.w)
set_option maxHeartbeats 8000000 in
theorem TL (p:Pg) (hp:POK p) (hc:(cL p).1.2=0) (hn:(cL p).2.length=2) (c0 c1:Int) (v:List Int) (hvl:v.length≤1000000) (s:St) (hs:eQ p (cL p).2 (st0 p 2 5)=s) (h1:dA p s 2=[]) (h2:aT s 0=[c0]) (h3:aT s 1=[c1]) (h4:g7 p s 1=v):
  aD Tryz.prog 30 [dH p,.sc (.int .i64 c0),.sc (.int .i64 c1),.list 1 (aU v)] (.sc (.bool true)):=by
 refine aD.mkI cF30 (nlB rfl) ?_
 have h:=s7 p hp (seed:=5) (by decide)
 unfold BJ at h
 rw[if_pos hc,hn,hs] at h
 have e1:eK p s 2=[[.list 1 (aU (g7 p s 0))],[.list 1 (aU v)]]:=by rw[← h4]; rfl
 have e2:iM 2 s=[[.list 1 [[.sc (.int .i64 c0)]]],[.list 1 [[.sc (.int .i64 c1)]]]]:=by
  have:iM 2 s=[[.list 1 (aU (aT s 0))],[.list 1 (aU (aT s 1))]]:=rfl
  rw[this,h2,h3]
  rfl
 unfold AQ at h
 rw[e1,e2,h1] at h
 generalize g7 p s 0=v0 at *
 rw[show bB []=[] from rfl] at h
 unfold dH at *
 have r0:cQ [[AV.list 1 [[AV.sc (.int .i64 c0)]]],[AV.list 1 [[AV.sc (.int .i64 c1)]]]] 0=some [AV.list 1 [[AV.sc (.int .i64 c0)]]]:=rfl
 have r1:cQ [[AV.list 1 [[AV.sc (.int .i64 c0)]]],[AV.list 1 [[AV.sc (.int .i64 c1)]]]] 1=some [AV.list 1 [[AV.sc (.int .i64 c1)]]]:=rfl
 have r2:cQ [[AV.sc (.int .i64 c0)]] 0=some [.sc (.int .i64 c0)]:=rfl
 have r3:cQ [[AV.sc (.int .i64 c1)]] 0=some [.sc (.int .i64 c1)]:=rfl
 have r4:cQ [[AV.list 1 (aU v0)],[AV.list 1 (aU v)]] 1=some [AV.list 1 (aU v)]:=rfl
 have il:=cC v
 have n0:(c0 != c0)=false:=by simp
 have n1:(c1 != c1)=false:=by simp
 refine aA ?_
 rw[n0]
 refine aA ?_
 rw[n1]
 refine aA ?_
 rw[il]
 rw[dTr (rfl:v.length=v.length)]
 refine aA ?_
 refine AWP.loop (fun k:Nat=>[(3,.list 1 (aU v)),(9,.cptr [.list 1 [[.list 1 (aU v0)],[.list 1 (aU v)]],.undef,.undef]),(11,.sc (.int .i64 (k:Int)))]) (fun _=>[]) (fun k=>k≤v.length) (fun k=>v.length - k) 0 (Nat.zero_le _) ?_ ?_
 ·exact Sub.w [] []
 intro k hk
 refine AWP.seq ?_
 refine AWP.seq ?_
 refine AWP.region ?_
 refine cF ?_
 rw[il]
 refine cF ?_
 refine AWP.condD rfl (fun hkl=>?_) (fun hge=>?_)
 ·have hx:=iI v k hkl
  have nx:(v[k] != v[k])=false:=by simp
  generalize v[k]=vk at *
  refine aA ?_
  refine DK.nil ⟨by kernel_rfl,?_⟩
  refine aA ?_
  rw[nx]
  refine aA ?_
  exact⟨k+1,by omega,by omega,by exact Sub.w [] []⟩
 ·refine AWP.exit ?_
  refine aA ?_
  exact aN.w
theorem POK.of {p:Pg} (h:(p.acts.all fun l=>l.all fun x=>decide (x.g.length≤9223372036854775807))=true):POK p:=fun l hl x hx=>by
 rw[List.all_eq_true] at h
 have h1:=h l hl
 rw[List.all_eq_true] at h1
 exact of_decide_eq_true (h1 x hx)
theorem GT:POK goodP:=POK.of (by decide)
theorem SR:POK badP:=POK.of (by decide)
theorem NR:aD Tryz.prog 30 [dH goodP,.sc (.int .i64 0),.sc (.int .i64 5),.list 1 (aU [5])] (.sc (.bool true)):=by
 obtain⟨s,hs⟩:∃ s,s=eQ goodP (cL goodP).2 (st0 goodP 2 5):=⟨_,rfl⟩
 have h1:=RG
 have h2:=JD
 have h3:=N9
 rw[← hs] at h1 h2 h3
 exact TL goodP GT (by rw[GK]) (by kernel_rfl) 0 5 [5] (by simp) s hs.symm h2 (by unfold aT; rw[h1]; rfl) (by unfold aT; rw[h1]; rfl) h3
set_option maxHeartbeats 8000000 in
theorem works_ok:aD Tryz.prog 14 [] (.sc (.bool true)):=by
 refine aD.mkI cF14 (nlB rfl) ?_
 have h1:=yU 8 0 0 0
 have h2:=yU 6 0 0 0
 have h3:=yU 1 1 0 5
 have h4:=OO [aF,aP,aF] [aF,aF,aL]
 have h5:=OO [aF,aP,aF] [aF,aL,aF]
 have h6:=OG goodP GT (by rw[GK]) JN
 have h7:=OK badP SR (by rw[TR]) N4
 have h8:=NR
 rw[show(⟨1,[[aF,aP,aF],[aF,aF,aL]]⟩:Pg)=goodP from rfl] at h4
 rw[show(⟨1,[[aF,aP,aF],[aF,aL,aF]]⟩:Pg)=badP from rfl] at h5
 have e1:dH goodP=.agg [.sc (.int .i64 1),.list 1 (bV goodP.acts)]:=rfl
 have e2:dH badP=.agg [.sc (.int .i64 1),.list 1 (bV badP.acts)]:=rfl
 rw[e1] at h4 h6 h8
 rw[e2] at h5 h7
 have p1:=prs (bV goodP.acts)
 have p2:=prs (bV badP.acts)
 have i1:PRs (bV goodP.acts):=⟨p1⟩
 have i2:PRs (bV badP.acts):=⟨p2⟩
 generalize bV goodP.acts=g at *
 generalize bV badP.acts=b at *
 refine AWP.sub (fr':=[]) (H':=[]) ?_ ?_
 ·exact Sub.w [] []
 refine AWP.seq ?_
 refine AWP.region ?_
 refine cF ?_
 refine AWP.seq ?_
 refine AWP.region ?_
 unfold bQ at h1 h2 h3
 refine cF ?_
 refine AWP.sub (fr':=[(1,.cptr (bQ aF))]) (H':=[]) ?_ ?_
 ·unfold bQ aF
  exact Sub.w [] []
 refine AWP.seq ?_
 refine AWP.region ?_
 refine cF ?_
 refine AWP.sub (fr':=[(1,.cptr (bQ aF)),(2,.cptr (bQ aL))]) (H':=[]) ?_ ?_
 ·unfold bQ aF aL
  exact Sub.w [] []
 refine AWP.seq ?_
 refine AWP.region ?_
 refine cF ?_
 refine AWP.sub (fr':=[(1,.cptr (bQ aF)),(2,.cptr (bQ aL)),(3,.cptr (bQ aP))]) (H':=[]) ?_ ?_
 ·unfold bQ aF aL aP
  exact Sub.w [] []
 have q1:bQ aF=[.sc (.int .i64 8),.sc (.int .i64 0),.sc (.int .i64 0),.sc (.int .i64 0),.sc (.int .i64 0),.sc (.int .i64 0),.list 1 (aU [])]:=rfl
 have q2:bQ aL=[.sc (.int .i64 6),.sc (.int .i64 0),.sc (.int .i64 0),.sc (.int .i64 0),.sc (.int .i64 0),.sc (.int .i64 0),.list 1 (aU [])]:=rfl
 have q3:bQ aP=[.sc (.int .i64 1),.sc (.int .i64 1),.sc (.int .i64 0),.sc (.int .i64 0),.sc (.int .i64 5),.sc (.int .i64 0),.list 1 (aU [])]:=rfl
 refine AWP.seq ?_
 refine AWP.region ?_
 rw[q1,q2,q3]
 refine cF ?_
 refine Reg.sub (fr':=[(1,.cptr (bQ aF)),(2,.cptr (bQ aL)),(3,.cptr (bQ aP)),(12,.list 7 (dE [aF,aP,aF])),(16,.list 7 (dE [aF,aF,aL]))]) (H':=[]) ?_ ?_
 ·rw[q1,q2,q3]
  exact Sub.w [] []
 refine cF ?_
 refine AWP.sub (fr':=[(1,.cptr (bQ aF)),(2,.cptr (bQ aL)),(3,.cptr (bQ aP)),(4,.cptr [.sc (.int .i64 1),.list 1 g])]) (H':=[]) ?_ ?_
 ·rw[q1,q2,q3]
  exact Sub.w [] []
 refine AWP.seq ?_
 refine AWP.region ?_
 rw[q1,q2,q3]
 refine cF ?_
 refine Reg.sub (fr':=[(4,.cptr [.sc (.int .i64 1),.list 1 g]),(21,.list 7 (dE [aF,aP,aF])),(25,.list 7 (dE [aF,aL,aF]))]) (H':=[]) ?_ ?_
 ·exact Sub.w [] []
 refine cF ?_
 refine AWP.sub (fr':=[(4,.cptr [.sc (.int .i64 1),.list 1 g]),(5,.cptr [.sc (.int .i64 1),.list 1 b])]) (H':=[]) ?_ ?_
 ·exact Sub.w [] []
 refine aA ?_
 refine Reg.sub (fr':=[(31,.sc (.bool true)),(32,.agg [.sc (.int .i64 1),.list 1 g]),(33,.list 1 (aU [5])),(5,.cptr [.sc (.int .i64 1),.list 1 b])]) (H':=[]) ?_ ?_
 ·exact Sub.w [] []
 refine aA ?_
 exact aN.w
end Go.Proofs.YtkjoolaahocgdaaGreat
