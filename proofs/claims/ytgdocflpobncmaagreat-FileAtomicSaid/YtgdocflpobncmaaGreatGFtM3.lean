import Derived.Test.YtgdocflpobncmaaGreatGFtM2
namespace Go.Proofs.YtgdocflpobncmaaGreat
open Go.Av Go.Proofs
set_option maxRecDepth 20000
set_option maxHeartbeats 4000000 in
theorem IL {x y r:Rq} {s:Nat} (hx:x.kn) (hy:y.kn) (hs:(s=0∧r=x)∨(s=1∧r=y)) (hr:r.ok):aF Tryz.prog 32 [.hsl 0 0 s 1,iv 1] [[LB x y]] fun res H'=>res=.tup [.list 3 (acR (qH [r] 1).1),iv (qH [r] 1).2]∧H'=[[LB x y]]:=by
 have ha:=PJ hx hy hs hr
 have hl1:∀ q∈[r],q.ok:=fun q hq=>by rw[List.mem_singleton.1 hq]; exact hr
 obtain⟨q,hq⟩:∃ q,q=jF (cB r).1:=⟨_,rfl⟩
 have hgood:(dD [r]).2=0→plR (dD [r]).1=plN [q]∧q.length=r.data.length∧r.data.length≤4096∧(∀ x∈q,x < 65536)∧bmI [r] 1 0=bmF [r]∧bmI [r] 0 q.length=bmI [r] 1 0∧(∀ j,(bmI [r] 0 j).length≤270000)∧(∀ j x b,q[j]?=some x→r.data[j]?=some b→bmI [r] 0 (j+1)=dO (bmI [r] 0 j) x b)∧(bmF [r]).length≤300000∧∀ x∈(bmF [r]).map (·.1),x < 65536:=fun h=>by
  have g:=xE hl1 h
  have e1:(psN [r]).getD 0 []=q:=by rw[hq]; rfl
  have e2:(dsN [r]).getD 0 []=r.data:=rfl
  obtain⟨g1,g2⟩:=g.len 0 (by simp)
  rw[e1] at g1
  replace g1:q.length=r.data.length:=g1
  refine⟨by rw[C5 hl1 h,hq]; rfl,g1,g2,by rw[← e1]; exact g.bd 0,xM _ _,IU [r] 0 q.length (by rw[e1,e2,List.length_zip]; omega),fun j=>L9 g (by simp),fun j x b hx hb=>G4 [r] 0 j (by rw[e1]; exact hx) (by rw[e2]; exact hb),(AF g).1,(AF g).2⟩
 have hbad:(dD [r]).2≠0→(dD [r]).1=[]:=fun h=>by
  unfold dD at h ⊢
  by_cases c:64 < [r].length
  ·rw[if_pos c]
  ·rw[if_neg c] at h ⊢
   generalize [r].find? (fun r=>decide ((cB r).2≠0))=o at *
   cases o with
   | none=>exact absurd rfl h
   | some q=>rfl
 obtain⟨a1,k1,c1,b1,s1,z1,l1,p1,f1,k1',c1',b1',s1',z1',l1',p1',f1',Xe⟩:=pH hx
 obtain⟨a2,k2,c2,b2,s2,z2,l2,p2,f2,k2',c2',b2',s2',z2',l2',p2',f2',Ye⟩:=pH hy
 have hxe:rqR x=[iv a1,iv k1,iv c1,iv b1,iv s1,.list 1 (inR z1),.list 1 (inR l1),.list 1 (inR p1),.list 8 (aD f1),iv k1',iv c1',iv b1',iv s1',.list 1 (inR z1'),.list 1 (inR l1'),.list 1 (inR p1'),.list 8 (aD f1'),iv x.off,.list 1 (bys x.data)]:=Xe x.data
 have hye:rqR y=[iv a2,iv k2,iv c2,iv b2,iv s2,.list 1 (inR z2),.list 1 (inR l2),.list 1 (inR p2),.list 8 (aD f2),iv k2',iv c2',iv b2',iv s2',.list 1 (inR z2'),.list 1 (inR l2'),.list 1 (inR p2'),.list 8 (aD f2'),iv y.off,.list 1 (bys y.data)]:=Ye y.data
 unfold LB at ha ⊢
 rw[hxe,hye] at ha ⊢
 unfold qH
 generalize dD [r]=z at *
 obtain⟨pz,er⟩:=z
 simp only at ha hgood hbad ⊢
 rcases hs with⟨rfl,rfl⟩ | ⟨rfl,rfl⟩
 ·clear hye Ye Xe hxe
  refine aF.of cF32 ?_ (nlB rfl)
  refine AWP.seq ?_
  refine AWP.region ?_
  refine aA ?_
  refine Reg.c (Nat.le_refl _) rfl (ha.mono ?_)
  rintro res H' ⟨rfl,rfl⟩
  refine aA ?_
  refine AWP.condN (er≠0) rfl (dE _) (fun h0=>?_) (fun h0=>?_)
  ·rw[if_pos h0]
   rw[hbad h0]
   refine aA ?_
   exact qK [[(0,0)]] ⟨rfl,rfl⟩
  rw[if_neg h0,if_neg (by omega)]
  obtain rfl:er=0:=Decidable.byContradiction h0
  obtain⟨hpl,q1,q2,hbd,hF,hnx,hle,hsc,hb1,hb2⟩:=hgood rfl
  rw[hpl]
  refine aA ?_
  have hql:=eM q
  refine AWP.loop (fun i:Nat=>[(0,.hsl 0 0 0 1),(1,iv 1),(8,.mref 2 0),(40,.list 1 (plN [q])),(41,iv 1),(9,.hsl 1 0 0 (bmI [r] i 0).length),(42,iv i)]) (fun i=>[[.cells 19 [[iv a1,iv k1,iv c1,iv b1,iv s1,.list 1 (inR z1),.list 1 (inR l1),.list 1 (inR p1),.list 8 (aD f1),iv k1',iv c1',iv b1',iv s1',.list 1 (inR z1'),.list 1 (inR l1'),.list 1 (inR p1'),.list 8 (aD f1'),iv r.off,.list 1 (bys r.data)],[iv a2,iv k2,iv c2,iv b2,iv s2,.list 1 (inR z2),.list 1 (inR l2),.list 1 (inR p2),.list 8 (aD f2),iv k2',iv c2',iv b2',iv s2',.list 1 (inR z2'),.list 1 (inR l2'),.list 1 (inR p2'),.list 8 (aD f2'),iv y.off,.list 1 (bys y.data)]]],[.cells 1 (nxR ((bmI [r] i 0).map (·.1)))],[.map (bmE (bmI [r] i 0))]]) (fun i=>i≤1) (fun i=>1 - i) 0 (Nat.zero_le _) ?_ ?_
  ·show Sub _ _ _ _ [(0,.hsl 0 0 0 1),(1,iv 1),(8,.mref 2 0),(40,.list 1 (plN [q])),(41,iv 1),(9,.hsl 1 0 0 0),(42,iv 0)] [[.cells 19 [[iv a1,iv k1,iv c1,iv b1,iv s1,.list 1 (inR z1),.list 1 (inR l1),.list 1 (inR p1),.list 8 (aD f1),iv k1',iv c1',iv b1',iv s1',.list 1 (inR z1'),.list 1 (inR l1'),.list 1 (inR p1'),.list 8 (aD f1'),iv r.off,.list 1 (bys r.data)],[iv a2,iv k2,iv c2,iv b2,iv s2,.list 1 (inR z2),.list 1 (inR l2),.list 1 (inR p2),.list 8 (aD f2),iv k2',iv c2',iv b2',iv s2',.list 1 (inR z2'),.list 1 (inR l2'),.list 1 (inR p2'),.list 8 (aD f2'),iv y.off,.list 1 (bys y.data)]]],[.cells 1 []],[.map []]]
   exact Sub.wl [1] [[(0,0)],[(2,0)],[(1,0)]]
  rintro i hi
  match i,hi with
  | 0,_=>
   refine aA ?_
   rw[hql]
   refine AWP.loop (fun j:Nat=>[(0,.hsl 0 0 0 1),(1,iv 1),(8,.mref 2 0),(40,.list 1 (plN [q])),(41,iv 1),(9,.hsl 1 0 0 (bmI [r] 0 j).length),(42,iv 0),(10,iv 0),(47,.list 1 (nxR q)),(48,iv q.length),(49,iv j)]) (fun j=>[[.cells 19 [[iv a1,iv k1,iv c1,iv b1,iv s1,.list 1 (inR z1),.list 1 (inR l1),.list 1 (inR p1),.list 8 (aD f1),iv k1',iv c1',iv b1',iv s1',.list 1 (inR z1'),.list 1 (inR l1'),.list 1 (inR p1'),.list 8 (aD f1'),iv r.off,.list 1 (bys r.data)],[iv a2,iv k2,iv c2,iv b2,iv s2,.list 1 (inR z2),.list 1 (inR l2),.list 1 (inR p2),.list 8 (aD f2),iv k2',iv c2',iv b2',iv s2',.list 1 (inR z2'),.list 1 (inR l2'),.list 1 (inR p2'),.list 8 (aD f2'),iv y.off,.list 1 (bys y.data)]]],[.cells 1 (nxR ((bmI [r] 0 j).map (·.1)))],[.map (bmE (bmI [r] 0 j))]]) (fun j=>j≤q.length) (fun j=>q.length - j) 0 (Nat.zero_le _) ?_ ?_
   ·exact Sub.wl [] [[(0,0)],[(1,0)],[(2,0)]]
   rintro j hj
   refine aA ?_
   refine AWP.condN (j < q.length) rfl rfl (fun h2=>?_) (fun h2=>?_)
   ·have hr3:=g9 q j h2
    have hr4:=mH r.data j (by omega)
    have hs:=hsc j q[j] (r.data[j]'(by omega)) (gEg h2) (gEg _)
    have hle1:=hle j
    generalize q[j]=x' at *
    generalize r.data[j]'(by omega)=b at *
    have hmf:=nB x' (bmI [r] 0 j)
    have hnew:=AN x' b (bmI [r] 0 j)
    have hold:=B4 x' b (bmI [r] 0 j)
    generalize bmI [r] 0 j=bm at *
    have hkl:(nxR (bm.map (·.1))).length=bm.length:=by rw[eM,List.length_map]
    refine aA ?_
    cases hg:d7 bm x' with
    | none=>
     rw[hg] at hmf
     replace hmf:cS .i64 (x':Int) (bmE bm)=some none:=hmf
     refine Reg.o rfl (gF rfl rfl rfl hmf) ?_
     refine aA ?_
     refine Reg.on rfl (r8 rfl rfl rfl rfl hmf) ?_
     refine aA ?_
     refine⟨j+1,by omega,by omega,?_⟩
     rw[hs,hnew hg]
     have e1:nxR ((bm++[(x',b)]).map (·.1))=nxR (bm.map (·.1))++[[iv x']]:=by simp[nxR]
     have e2:bmE bm++[(.int .i64 (x':Int),uv b)]=bmE (bm++[(x',b)]):=by simp[bmE]
     rw[e1,List.length_append]
     exact Sub.wl [] [[(0,0)],[(4,0)],[(2,0)]]
    | some c=>
     rw[hg] at hmf
     replace hmf:cS .i64 (x':Int) (bmE bm)=some (some (uv c)):=hmf
     refine Reg.o rfl (gF rfl rfl rfl hmf) ?_
     refine aA ?_
     refine Reg.on rfl (rF rfl rfl rfl rfl hmf) ?_
     refine aA ?_
     refine⟨j+1,by omega,by omega,?_⟩
     obtain⟨e1,e2⟩:=hold c hg
     have e3:(dO bm x' b).length=bm.length:=by rw[← List.length_map (·.1),e2,List.length_map]
     rw[hs,e2,e3]
     exact Sub.wl [] [[(0,0)],[(1,0)],[(2,0)]]
   ·obtain rfl:q.length=j:=by omega
    rw[hnx]
    refine aA ?_
    refine⟨1,by omega,by omega,?_⟩
    exact Sub.wl [] [[(0,0)],[(1,0)],[(2,0)]]
  | 1,_=>
   rw[hF]
   generalize bmF [r]=bm at *
   refine aA ?_
   refine AWP.condN (bm.length=0) rfl rfl (fun h5=>?_) (fun h5=>?_)
   ·obtain rfl:=List.eq_nil_of_length_eq_zero h5
    rw[z7]
    refine aA ?_
    exact qK [[(0,0)]] ⟨rfl,rfl⟩
   ·refine AWP.skip ?_
    refine AWP.sub ?_ (CA (N:=1) (by omega) (by omega) bm hb1 hb2 (fun q=>h5 (by rw[q]; rfl)))
    exact Sub.wl [] [[(0,0)],[(1,0)]]
  | i+2,hi=>omega
 ·clear hye Ye Xe hxe
  refine aF.of cF32 ?_ (nlB rfl)
  refine AWP.seq ?_
  refine AWP.region ?_
  refine aA ?_
  refine Reg.c (Nat.le_refl _) rfl (ha.mono ?_)
  rintro res H' ⟨rfl,rfl⟩
  refine aA ?_
  refine AWP.condN (er≠0) rfl (dE _) (fun h0=>?_) (fun h0=>?_)
  ·rw[if_pos h0]
   rw[hbad h0]
   refine aA ?_
   exact qK [[(0,0)]] ⟨rfl,rfl⟩
  rw[if_neg h0,if_neg (by omega)]
  obtain rfl:er=0:=Decidable.byContradiction h0
  obtain⟨hpl,q1,q2,hbd,hF,hnx,hle,hsc,hb1,hb2⟩:=hgood rfl
  rw[hpl]
  refine aA ?_
  have hql:=eM q
  refine AWP.loop (fun i:Nat=>[(0,.hsl 0 0 1 1),(1,iv 1),(8,.mref 2 0),(40,.list 1 (plN [q])),(41,iv 1),(9,.hsl 1 0 0 (bmI [r] i 0).length),(42,iv i)]) (fun i=>[[.cells 19 [[iv a1,iv k1,iv c1,iv b1,iv s1,.list 1 (inR z1),.list 1 (inR l1),.list 1 (inR p1),.list 8 (aD f1),iv k1',iv c1',iv b1',iv s1',.list 1 (inR z1'),.list 1 (inR l1'),.list 1 (inR p1'),.list 8 (aD f1'),iv x.off,.list 1 (bys x.data)],[iv a2,iv k2,iv c2,iv b2,iv s2,.list 1 (inR z2),.list 1 (inR l2),.list 1 (inR p2),.list 8 (aD f2),iv k2',iv c2',iv b2',iv s2',.list 1 (inR z2'),.list 1 (inR l2'),.list 1 (inR p2'),.list 8 (aD f2'),iv r.off,.list 1 (bys r.data)]]],[.cells 1 (nxR ((bmI [r] i 0).map (·.1)))],[.map (bmE (bmI [r] i 0))]]) (fun i=>i≤1) (fun i=>1 - i) 0 (Nat.zero_le _) ?_ ?_
  ·show Sub _ _ _ _ [(0,.hsl 0 0 1 1),(1,iv 1),(8,.mref 2 0),(40,.list 1 (plN [q])),(41,iv 1),(9,.hsl 1 0 0 0),(42,iv 0)] [[.cells 19 [[iv a1,iv k1,iv c1,iv b1,iv s1,.list 1 (inR z1),.list 1 (inR l1),.list 1 (inR p1),.list 8 (aD f1),iv k1',iv c1',iv b1',iv s1',.list 1 (inR z1'),.list 1 (inR l1'),.list 1 (inR p1'),.list 8 (aD f1'),iv x.off,.list 1 (bys x.data)],[iv a2,iv k2,iv c2,iv b2,iv s2,.list 1 (inR z2),.list 1 (inR l2),.list 1 (inR p2),.list 8 (aD f2),iv k2',iv c2',iv b2',iv s2',.list 1 (inR z2'),.list 1 (inR l2'),.list 1 (inR p2'),.list 8 (aD f2'),iv r.off,.list 1 (bys r.data)]]],[.cells 1 []],[.map []]]
   exact Sub.wl [1] [[(0,0)],[(2,0)],[(1,0)]]
  rintro i hi
  match i,hi with
  | 0,_=>
   refine aA ?_
   rw[hql]
   refine AWP.loop (fun j:Nat=>[(0,.hsl 0 0 1 1),(1,iv 1),(8,.mref 2 0),(40,.list 1 (plN [q])),(41,iv 1),(9,.hsl 1 0 0 (bmI [r] 0 j).length),(42,iv 0),(10,iv 0),(47,.list 1 (nxR q)),(48,iv q.length),(49,iv j)]) (fun j=>[[.cells 19 [[iv a1,iv k1,iv c1,iv b1,iv s1,.list 1 (inR z1),.list 1 (inR l1),.list 1 (inR p1),.list 8 (aD f1),iv k1',iv c1',iv b1',iv s1',.list 1 (inR z1'),.list 1 (inR l1'),.list 1 (inR p1'),.list 8 (aD f1'),iv x.off,.list 1 (bys x.data)],[iv a2,iv k2,iv c2,iv b2,iv s2,.list 1 (inR z2),.list 1 (inR l2),.list 1 (inR p2),.list 8 (aD f2),iv k2',iv c2',iv b2',iv s2',.list 1 (inR z2'),.list 1 (inR l2'),.list 1 (inR p2'),.list 8 (aD f2'),iv r.off,.list 1 (bys r.data)]]],[.cells 1 (nxR ((bmI [r] 0 j).map (·.1)))],[.map (bmE (bmI [r] 0 j))]]) (fun j=>j≤q.length) (fun j=>q.length - j) 0 (Nat.zero_le _) ?_ ?_
   ·exact Sub.wl [] [[(0,0)],[(1,0)],[(2,0)]]
   rintro j hj
   refine aA ?_
   refine AWP.condN (j < q.length) rfl rfl (fun h2=>?_) (fun h2=>?_)
   ·have hr3:=g9 q j h2
    have hr4:=mH r.data j (by omega)
    have hs:=hsc j q[j] (r.data[j]'(by omega)) (gEg h2) (gEg _)
    have hle1:=hle j
    generalize q[j]=x' at *
    generalize r.data[j]'(by omega)=b at *
    have hmf:=nB x' (bmI [r] 0 j)
    have hnew:=AN x' b (bmI [r] 0 j)
    have hold:=B4 x' b (bmI [r] 0 j)
    generalize bmI [r] 0 j=bm at *
    have hkl:(nxR (bm.map (·.1))).length=bm.length:=by rw[eM,List.length_map]
    refine aA ?_
    cases hg:d7 bm x' with
    | none=>
     rw[hg] at hmf
     replace hmf:cS .i64 (x':Int) (bmE bm)=some none:=hmf
     refine Reg.o rfl (gF rfl rfl rfl hmf) ?_
     refine aA ?_
     refine Reg.on rfl (r8 rfl rfl rfl rfl hmf) ?_
     refine aA ?_
     refine⟨j+1,by omega,by omega,?_⟩
     rw[hs,hnew hg]
     have e1:nxR ((bm++[(x',b)]).map (·.1))=nxR (bm.map (·.1))++[[iv x']]:=by simp[nxR]
     have e2:bmE bm++[(.int .i64 (x':Int),uv b)]=bmE (bm++[(x',b)]):=by simp[bmE]
     rw[e1,List.length_append]
     exact Sub.wl [] [[(0,0)],[(4,0)],[(2,0)]]
    | some c=>
     rw[hg] at hmf
     replace hmf:cS .i64 (x':Int) (bmE bm)=some (some (uv c)):=hmf
     refine Reg.o rfl (gF rfl rfl rfl hmf) ?_
     refine aA ?_
     refine Reg.on rfl (rF rfl rfl rfl rfl hmf) ?_
     refine aA ?_
     refine⟨j+1,by omega,by omega,?_⟩
     obtain⟨e1,e2⟩:=hold c hg
     have e3:(dO bm x' b).length=bm.length:=by rw[← List.length_map (·.1),e2,List.length_map]
     rw[hs,e2,e3]
     exact Sub.wl [] [[(0,0)],[(1,0)],[(2,0)]]
   ·obtain rfl:q.length=j:=by omega
    rw[hnx]
    refine aA ?_
    refine⟨1,by omega,by omega,?_⟩
    exact Sub.wl [] [[(0,0)],[(1,0)],[(2,0)]]
  | 1,_=>
   rw[hF]
   generalize bmF [r]=bm at *
   refine aA ?_
   refine AWP.condN (bm.length=0) rfl rfl (fun h5=>?_) (fun h5=>?_)
   ·obtain rfl:=List.eq_nil_of_length_eq_zero h5
    rw[z7]
    refine aA ?_
    exact qK [[(0,0)]] ⟨rfl,rfl⟩
   ·refine AWP.skip ?_
    refine AWP.sub ?_ (CA (N:=1) (by omega) (by omega) bm hb1 hb2 (fun q=>h5 (by rw[q]; rfl)))
    exact Sub.wl [] [[(0,0)],[(1,0)]]
  | i+2,hi=>omega
end Go.Proofs.YtgdocflpobncmaaGreat
