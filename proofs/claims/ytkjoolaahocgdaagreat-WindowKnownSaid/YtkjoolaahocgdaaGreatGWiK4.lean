import Derived.Test.YtkjoolaahocgdaaGreatGWiK1
import Derived.Test.YtkjoolaahocgdaaGreatGWiL
namespace Go.Proofs.YtkjoolaahocgdaaGreat
open Go.Av Go.Proofs
set_option maxRecDepth 20000
theorem cP (k r o v:Int):aD Tryz.prog 27 [.sc (.int .i64 k),.sc (.int .i64 r),.sc (.int .i64 o),.sc (.int .i64 v)] (.agg (aJ ⟨k,r,0,o,v,0,[]⟩)):=by
 refine aD.mkI cF27 (nlB rfl) ?_
 unfold aJ
 refine aA ?_
 exact aW.w
theorem J0 (a b:List Act):aD Tryz.prog 28 [.list 7 (aU a),.list 7 (aU b)] (dH ⟨1,[a,b]⟩):=by
 refine aD.mkI tS (nlB rfl) ?_
 rw[show dH ⟨1,[a,b]⟩=.agg [.sc (.int .i64 1),.list 1 [[.list 7 (aU a)],[.list 7 (aU b)]]] from rfl]
 refine aA ?_
 exact aW.w
theorem oM (p:Pg) (hp:POK p) (hc:(bP p).1.2=0) (hr:(g8 p (bP p).2 (kZ (bP p).2.length p (bP p).2)).2=[]):aD Tryz.prog 29 [dH p,.agg [.sc (.int .i64 0),.sc (.int .i64 0)],.agg [.sc (.int .i64 0),.sc (.int .i64 0)]] (.sc (.bool true)):=by
 refine aD.mkI LQ (nlB rfl) ?_
 have h:=rK p hp
 unfold nZ qC at h
 rw[if_pos hc,hr] at h
 unfold dH at *
 rw[show(nB []).map raR=[] by unfold nB; simp] at h
 refine aA ?_
 exact aW.w
theorem CG (p:Pg) (hp:POK p) (hc:(bP p).1.2=0) (hr:(g8 p (bP p).2 (kZ (bP p).2.length p (bP p).2)).2=[mk4 (0,1) (1,1)]):aD Tryz.prog 29 [dH p,.agg [.sc (.int .i64 0),.sc (.int .i64 1)],.agg [.sc (.int .i64 1),.sc (.int .i64 1)]] (.sc (.bool true)):=by
 (refine aD.mkI LQ (nlB rfl) ?_; have h:=rK p hp; unfold nZ qC at h; rw[if_pos hc,hr] at h; unfold dH at *; rw[show(nB [mk4 (0,1) (1,1)]).map raR=[[.sc (.int .i64 0),.sc (.int .i64 1),.sc (.int .i64 1),.sc (.int .i64 1)]] by unfold nB; simp; rfl] at h; have hr0:eB [[AV.sc (.int .i64 0),.sc (.int .i64 1),.sc (.int .i64 1),.sc (.int .i64 1)]] 0=some [.sc (.int .i64 0),.sc (.int .i64 1),.sc (.int .i64 1),.sc (.int .i64 1)]:=rfl; refine aA ?_; refine DK.nil ⟨by kernel_rfl,?_⟩; refine aA ?_; exact aW.w)
theorem IY (p:Pg) (hp:POK p) (hc:(bP p).1.2=0) (hr:(g8 p (bP p).2 (kZ (bP p).2.length p (bP p).2)).2=[mk4 (0,1) (0,2)]):aD Tryz.prog 29 [dH p,.agg [.sc (.int .i64 0),.sc (.int .i64 1)],.agg [.sc (.int .i64 0),.sc (.int .i64 2)]] (.sc (.bool true)):=by
 (refine aD.mkI LQ (nlB rfl) ?_; have h:=rK p hp; unfold nZ qC at h; rw[if_pos hc,hr] at h; unfold dH at *; rw[show(nB [mk4 (0,1) (0,2)]).map raR=[[.sc (.int .i64 0),.sc (.int .i64 1),.sc (.int .i64 0),.sc (.int .i64 2)]] by unfold nB; simp; rfl] at h; have hr0:eB [[AV.sc (.int .i64 0),.sc (.int .i64 1),.sc (.int .i64 0),.sc (.int .i64 2)]] 0=some [.sc (.int .i64 0),.sc (.int .i64 1),.sc (.int .i64 0),.sc (.int .i64 2)]:=rfl; refine aA ?_; refine DK.nil ⟨by kernel_rfl,?_⟩; refine aA ?_; exact aW.w)
theorem IC (p:Pg) (hp:POK p) (hc:(bP p).1.2=0) (hr:(g8 p (bP p).2 (kZ (bP p).2.length p (bP p).2)).2=[mk4 (0,1) (1,0)]):aD Tryz.prog 29 [dH p,.agg [.sc (.int .i64 0),.sc (.int .i64 1)],.agg [.sc (.int .i64 1),.sc (.int .i64 0)]] (.sc (.bool true)):=by
 (refine aD.mkI LQ (nlB rfl) ?_; have h:=rK p hp; unfold nZ qC at h; rw[if_pos hc,hr] at h; unfold dH at *; rw[show(nB [mk4 (0,1) (1,0)]).map raR=[[.sc (.int .i64 0),.sc (.int .i64 1),.sc (.int .i64 1),.sc (.int .i64 0)]] by unfold nB; simp; rfl] at h; have hr0:eB [[AV.sc (.int .i64 0),.sc (.int .i64 1),.sc (.int .i64 1),.sc (.int .i64 0)]] 0=some [.sc (.int .i64 0),.sc (.int .i64 1),.sc (.int .i64 1),.sc (.int .i64 0)]:=rfl; refine aA ?_; refine DK.nil ⟨by kernel_rfl,?_⟩; refine aA ?_; exact aW.w)
set_option maxHeartbeats 8000000 in
theorem tZ (p:Pg) (hp:POK p) (hc:(bP p).1.2=0) (hn:(bP p).2.length=2) (c0 c1:Int) (v:List Int) (hvl:v.length≤1000000) (s:St) (hs:jD p (bP p).2 (st0 p 2 5)=s) (h1:eC p s 2=[]) (h2:bC s 0=[c0]) (h3:bC s 1=[c1]) (h4:mH p s 1=v):
  aD Tryz.prog 30 [dH p,.sc (.int .i64 c0),.sc (.int .i64 c1),.list 1 (bE v)] (.sc (.bool true)):=by
 refine aD.mkI cF30 (nlB rfl) ?_
 have h:=KQ p hp (seed:=5) (by decide)
 unfold F6 at h
 rw[if_pos hc,hn,hs] at h
 have e1:nN p s 2=[[.list 1 (bE (mH p s 0))],[.list 1 (bE v)]]:=by rw[← h4]; rfl
 have e2:wG 2 s=[[.list 1 [[.sc (.int .i64 c0)]]],[.list 1 [[.sc (.int .i64 c1)]]]]:=by
  have:wG 2 s=[[.list 1 (bE (bC s 0))],[.list 1 (bE (bC s 1))]]:=rfl
  rw[this,h2,h3]
  rfl
 unfold BO at h
 rw[e1,e2,h1] at h
 generalize mH p s 0=v0 at *
 rw[show bF []=[] from rfl] at h
 unfold dH at *
 have r0:eB [[AV.list 1 [[AV.sc (.int .i64 c0)]]],[AV.list 1 [[AV.sc (.int .i64 c1)]]]] 0=some [AV.list 1 [[AV.sc (.int .i64 c0)]]]:=rfl
 have r1:eB [[AV.list 1 [[AV.sc (.int .i64 c0)]]],[AV.list 1 [[AV.sc (.int .i64 c1)]]]] 1=some [AV.list 1 [[AV.sc (.int .i64 c1)]]]:=rfl
 have r2:eB [[AV.sc (.int .i64 c0)]] 0=some [.sc (.int .i64 c0)]:=rfl
 have r3:eB [[AV.sc (.int .i64 c1)]] 0=some [.sc (.int .i64 c1)]:=rfl
 have r4:eB [[AV.list 1 (bE v0)],[AV.list 1 (bE v)]] 1=some [AV.list 1 (bE v)]:=rfl
 have il:=cD v
 have n0:(c0 != c0)=false:=by simp
 have n1:(c1 != c1)=false:=by simp
 refine aA ?_
 rw[n0]
 refine aA ?_
 rw[n1]
 refine aA ?_
 rw[il]
 rw[dTr (rfl:v.length=v.length)]
 refine aA ?_
 refine AWP.loop (fun k:Nat=>[(3,.list 1 (bE v)),(9,.cptr [.list 1 [[.list 1 (bE v0)],[.list 1 (bE v)]],.undef,.undef]),(11,.sc (.int .i64 (k:Int)))]) (fun _=>[]) (fun k=>k≤v.length) (fun k=>v.length - k) 0 (Nat.zero_le _) ?_ ?_
 ·exact Sub.w [] []
 intro k hk
 refine AWP.seq ?_
 refine AWP.seq ?_
 refine AWP.region ?_
 refine bI ?_
 rw[il]
 refine bI ?_
 refine AWP.condD rfl (fun hkl=>?_) (fun hge=>?_)
 ·have hx:=mL v k hkl
  have nx:(v[k] != v[k])=false:=by simp
  generalize v[k]=vk at *
  refine aA ?_
  refine DK.nil ⟨by kernel_rfl,?_⟩
  refine aA ?_
  rw[nx]
  refine aA ?_
  exact⟨k+1,by omega,by omega,by exact Sub.w [] []⟩
 ·refine AWP.exit ?_
  refine aA ?_
  exact aW.w
theorem POK.of {p:Pg} (h:(p.acts.all fun l=>l.all fun x=>decide (x.g.length≤9223372036854775807))=true):POK p:=fun l hl x hx=>by
 rw[List.all_eq_true] at h
 have h1:=h l hl
 rw[List.all_eq_true] at h1
 exact of_decide_eq_true (h1 x hx)
theorem BX:POK goodP:=POK.of (by decide)
theorem MF:POK badP:=POK.of (by decide)
theorem HB:aD Tryz.prog 30 [dH goodP,.sc (.int .i64 0),.sc (.int .i64 5),.list 1 (bE [5])] (.sc (.bool true)):=by
 obtain⟨s,hs⟩:∃ s,s=jD goodP (bP goodP).2 (st0 goodP 2 5):=⟨_,rfl⟩
 have h1:=JF
 have h2:=C4
 have h3:=F7
 rw[← hs] at h1 h2 h3
 exact tZ goodP BX (by rw[AS]) (by kernel_rfl) 0 5 [5] (by simp) s hs.symm h2 (by unfold bC; rw[h1]; rfl) (by unfold bC; rw[h1]; rfl) h3
set_option maxHeartbeats 8000000 in
theorem works_ok:aD Tryz.prog 14 [] (.sc (.bool true)):=by
 refine aD.mkI cF14 (nlB rfl) ?_
 have h1:=cP 8 0 0 0
 have h2:=cP 6 0 0 0
 have h3:=cP 1 1 0 5
 have h4:=J0 [aF,aP,aF] [aF,aF,aL]
 have h5:=J0 [aF,aP,aF] [aF,aL,aF]
 have h6:=oM goodP BX (by rw[AS]) CX
 have h7:=CG badP MF (by rw[MK]) GH
 have h8:=HB
 rw[show(⟨1,[[aF,aP,aF],[aF,aF,aL]]⟩:Pg)=goodP from rfl] at h4
 rw[show(⟨1,[[aF,aP,aF],[aF,aL,aF]]⟩:Pg)=badP from rfl] at h5
 have e1:dH goodP=.agg [.sc (.int .i64 1),.list 1 (bY goodP.acts)]:=rfl
 have e2:dH badP=.agg [.sc (.int .i64 1),.list 1 (bY badP.acts)]:=rfl
 rw[e1] at h4 h6 h8
 rw[e2] at h5 h7
 have p1:=prs (bY goodP.acts)
 have p2:=prs (bY badP.acts)
 have i1:PRs (bY goodP.acts):=⟨p1⟩
 have i2:PRs (bY badP.acts):=⟨p2⟩
 generalize bY goodP.acts=g at *
 generalize bY badP.acts=b at *
 refine AWP.sub (fr':=[]) (H':=[]) ?_ ?_
 ·exact Sub.w [] []
 refine AWP.seq ?_
 refine AWP.region ?_
 refine bI ?_
 refine AWP.seq ?_
 refine AWP.region ?_
 unfold aJ at h1 h2 h3
 refine bI ?_
 refine AWP.sub (fr':=[(1,.cptr (aJ aF))]) (H':=[]) ?_ ?_
 ·unfold aJ aF
  exact Sub.w [] []
 refine AWP.seq ?_
 refine AWP.region ?_
 refine bI ?_
 refine AWP.sub (fr':=[(1,.cptr (aJ aF)),(2,.cptr (aJ aL))]) (H':=[]) ?_ ?_
 ·unfold aJ aF aL
  exact Sub.w [] []
 refine AWP.seq ?_
 refine AWP.region ?_
 refine bI ?_
 refine AWP.sub (fr':=[(1,.cptr (aJ aF)),(2,.cptr (aJ aL)),(3,.cptr (aJ aP))]) (H':=[]) ?_ ?_
 ·unfold aJ aF aL aP
  exact Sub.w [] []
 have q1:aJ aF=[.sc (.int .i64 8),.sc (.int .i64 0),.sc (.int .i64 0),.sc (.int .i64 0),.sc (.int .i64 0),.sc (.int .i64 0),.list 1 (bE [])]:=rfl
 have q2:aJ aL=[.sc (.int .i64 6),.sc (.int .i64 0),.sc (.int .i64 0),.sc (.int .i64 0),.sc (.int .i64 0),.sc (.int .i64 0),.list 1 (bE [])]:=rfl
 have q3:aJ aP=[.sc (.int .i64 1),.sc (.int .i64 1),.sc (.int .i64 0),.sc (.int .i64 0),.sc (.int .i64 5),.sc (.int .i64 0),.list 1 (bE [])]:=rfl
 refine AWP.seq ?_
 refine AWP.region ?_
 rw[q1,q2,q3]
 refine bI ?_
 refine Reg.sub (fr':=[(1,.cptr (aJ aF)),(2,.cptr (aJ aL)),(3,.cptr (aJ aP)),(12,.list 7 (aU [aF,aP,aF])),(16,.list 7 (aU [aF,aF,aL]))]) (H':=[]) ?_ ?_
 ·rw[q1,q2,q3]
  exact Sub.w [] []
 refine bI ?_
 refine AWP.sub (fr':=[(1,.cptr (aJ aF)),(2,.cptr (aJ aL)),(3,.cptr (aJ aP)),(4,.cptr [.sc (.int .i64 1),.list 1 g])]) (H':=[]) ?_ ?_
 ·rw[q1,q2,q3]
  exact Sub.w [] []
 refine AWP.seq ?_
 refine AWP.region ?_
 rw[q1,q2,q3]
 refine bI ?_
 refine Reg.sub (fr':=[(4,.cptr [.sc (.int .i64 1),.list 1 g]),(21,.list 7 (aU [aF,aP,aF])),(25,.list 7 (aU [aF,aL,aF]))]) (H':=[]) ?_ ?_
 ·exact Sub.w [] []
 refine bI ?_
 refine AWP.sub (fr':=[(4,.cptr [.sc (.int .i64 1),.list 1 g]),(5,.cptr [.sc (.int .i64 1),.list 1 b])]) (H':=[]) ?_ ?_
 ·exact Sub.w [] []
 refine aA ?_
 refine Reg.sub (fr':=[(31,.sc (.bool true)),(32,.agg [.sc (.int .i64 1),.list 1 g]),(33,.list 1 (bE [5])),(5,.cptr [.sc (.int .i64 1),.list 1 b])]) (H':=[]) ?_ ?_
 ·exact Sub.w [] []
 refine aA ?_
 exact aW.w
def mA (k r o v:Int):Act:=⟨k,r,0,o,v,0,[]⟩
def aSt:Act:=⟨10,0,0,0,0,0,[1]⟩
def aPo:Act:=⟨9,0,0,0,0,0,[0]⟩
def dL:Pg:=⟨1,[[aSt,mA 1 1 0 7,mA 11 0 0 0],[aPo,mA 12 0 0 0,aL]]⟩
def gF:Pg:=⟨1,[[aF,mA 3 1 1 2,aF],[aF,mA 3 1 1 3,aF]]⟩
def dK:Pg:=⟨1,[[aF,mA 4 1 1 2,aF],[aF,mA 4 1 1 3,aF]]⟩
def rB:Pg:=⟨1,[[aF,mA 1 1 0 1,mA 1 1 0 2,aF],[aF,aF]]⟩
def lG:Pg:=⟨1,[[aF,mA 3 1 1 1,mA 3 1 2 3,aF],[aF,aF]]⟩
def mQ:Pg:=⟨1,[[mA 13 1 0 0,mA 1 1 0 4,mA 16 1 0 0],[aL]]⟩
def c1P:Pg:=⟨1,[[aF],[]]⟩
def c2P:Pg:=⟨1,[[mA 1 1 0 1],[]]⟩
def c3P:Pg:=⟨1,[[aF,mA 1 1 0 1],[]]⟩
def c4P:Pg:=⟨1,[[aSt,aF],[]]⟩
def c5P:Pg:=⟨1,[[mA 13 1 0 0],[]]⟩
theorem kn1:(bP dL).1.2=0:=by kernel_rfl
theorem kn2:(g8 dL (bP dL).2 (kZ (bP dL).2.length dL (bP dL).2)).2=[]:=by kernel_rfl
theorem kn3:eC dL (jD dL (bP dL).2 (st0 dL 2 5)) 2=[]:=by kernel_rfl
theorem kn4:(jD dL (bP dL).2 (st0 dL 2 5)).mem=[[0],[7]]:=by kernel_rfl
theorem kn5:mH dL (jD dL (bP dL).2 (st0 dL 2 5)) 1=[7]:=by kernel_rfl
theorem kn6:(bP gF).1.2=0:=by kernel_rfl
theorem kn7:(g8 gF (bP gF).2 (kZ (bP gF).2.length gF (bP gF).2)).2=[]:=by kernel_rfl
theorem kn8:eC gF (jD gF (bP gF).2 (st0 gF 2 5)) 2=[]:=by kernel_rfl
theorem kn9:(jD gF (bP gF).2 (st0 gF 2 5)).mem=[[0],[5]]:=by kernel_rfl
theorem kn10:mH gF (jD gF (bP gF).2 (st0 gF 2 5)) 1=[]:=by kernel_rfl
theorem kn11:(bP dK).1.2=0:=by kernel_rfl
theorem kn12:(g8 dK (bP dK).2 (kZ (bP dK).2.length dK (bP dK).2)).2=[mk4 (0,1) (1,1)]:=by kernel_rfl
theorem kn13:(bP rB).1.2=0:=by kernel_rfl
theorem kn14:(g8 rB (bP rB).2 (kZ (bP rB).2.length rB (bP rB).2)).2=[mk4 (0,1) (0,2)]:=by kernel_rfl
theorem kn15:(bP lG).1.2=0:=by kernel_rfl
theorem kn16:(g8 lG (bP lG).2 (kZ (bP lG).2.length lG (bP lG).2)).2=[]:=by kernel_rfl
theorem kn17:eC lG (jD lG (bP lG).2 (st0 lG 2 5)) 2=[]:=by kernel_rfl
theorem kn18:(jD lG (bP lG).2 (st0 lG 2 5)).mem=[[0],[3]]:=by kernel_rfl
theorem kn19:mH lG (jD lG (bP lG).2 (st0 lG 2 5)) 1=[]:=by kernel_rfl
theorem kn20:(bP mQ).1.2=0:=by kernel_rfl
theorem kn21:(g8 mQ (bP mQ).2 (kZ (bP mQ).2.length mQ (bP mQ).2)).2=[mk4 (0,1) (1,0)]:=by kernel_rfl
theorem kn22:(bP c1P).1.2=0:=by kernel_rfl
theorem kn23:eC c1P (jD c1P (bP c1P).2 (st0 c1P 2 1)) 2=[0]:=by kernel_rfl
theorem kn24:(bP c2P).1=((0,0),6):=by kernel_rfl
theorem kn25:(bP c3P).1=((0,1),6):=by kernel_rfl
theorem kn26:(bP c4P).1=((0,1),6):=by kernel_rfl
theorem kn27:(bP c5P).1=((0,1),6):=by kernel_rfl
end Go.Proofs.YtkjoolaahocgdaaGreat
