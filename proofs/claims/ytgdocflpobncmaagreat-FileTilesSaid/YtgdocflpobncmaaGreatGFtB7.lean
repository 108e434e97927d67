import Derived.Test.YtgdocflpobncmaaGreatGFtB3
namespace Go.Proofs.YtgdocflpobncmaaGreat
open Go.Av Go.Proofs
set_option maxRecDepth 20000
variable {L:LC} {of:List Shp} {cl:AV} {k c b st:Int} {sz bl pl:List Int} {ty:List Ty}
set_option maxHeartbeats 1000000 in
theorem yG (hc:PV cl) (hL:LOK Tryz.prog F165.n L [28,29] (rfA fQ) (rfB fQ)) {x:Shp} (h0:of[0]?=some x) (hof:shB x) (hb:∀ n∈bl,0≤n∧n≤4096) (hp:∀ n∈pl,-mP≤n∧n≤mP) (hl:pl.length=bl.length) (hln:bl.length≤4096):
  aH Tryz.prog 207 [.yld 3 0,.cptr [iv k,iv c,iv b,iv st,.list 1 (inR sz),.list 1 (inR bl),.list 1 (inR pl),.list 8 (aS ty)],.cptr [.list 3 (ofR of)]] (B6 (.lp L (bQ [iv k,iv c,iv b,iv st,.list 1 (inR sz),.list 1 (inR bl),.list 1 (inR pl),.list 8 (aS ty)] of cl) .ready none)) fun _ H'=>mZ L [iv k,iv c,iv b,iv st,.list 1 (inR sz),.list 1 (inR bl),.list 1 (inR pl),.list 8 (aS ty)] of cl (fX bl pl x.ext) H':=by
 have ht:PR [iv k,iv c,iv b,iv st,.list 1 (inR sz),.list 1 (inR bl),.list 1 (inR pl),.list 8 (aS ty)]:=⟨pr _⟩
 have hlp:∀(T:AV→AV→Prop) (ρ:Nat→Nat→Option (Nat×Nat)) (st':LoopState) (pe:Option Code),ρ 0 0=some (0,0)→ρ 1 0=some (1,0)→ρ 2 0=some (2,0)→ToB T ρ (.lp L (bQ [iv k,iv c,iv b,iv st,.list 1 (inR sz),.list 1 (inR bl),.list 1 (inR pl),.list 8 (aS ty)] of cl) st' pe) (.lp L (bQ [iv k,iv c,iv b,iv st,.list 1 (inR sz),.list 1 (inR bl),.list 1 (inR pl),.list 8 (aS ty)] of cl) st' pe):=fun T ρ st' pe=>nN ht hc
 have hr0:d6 (ofR of) ((0:Nat):Int)=some [.list 2 (enR x.es),iv x.lo,iv x.hi]:=by
  obtain⟨h,rfl⟩:=gEs.1 h0
  exact kP of 0 h
 have hx:=hof
 obtain⟨b1,b2,b3,b4,b5,b6,_⟩:=hx
 unfold mP at b1 b2 b3 b4 b5 b6 hp
 have he:aC Tryz.prog 73 [.agg [.list 2 (enR x.es),iv x.lo,iv x.hi]] (iv x.ext):=dO x (by omega) (by omega) (by omega) (by omega)
 obtain⟨N,hN⟩:∃ N,N=bl.length:=⟨_,rfl⟩
 obtain⟨f,hf⟩:∃ f:Nat→List (Int×Int),f=fun i:Nat=>(List.range (bl.getD i 0).toNat).map fun j:Nat=>(0,(pl.getD i 0+j) * x.ext):=⟨_,rfl⟩
 have hxs:fX bl pl x.ext=(List.range N).flatMap f:=by unfold fX; rw[hf,hN]
 have hbl:=bD bl
 rw[hxs]
 refine aH.of IR ?_ (nlB rfl)
 refine aA ?_
 refine AWP.loop2 (fun(i:Nat) (_:Shp)=>[(0,.yld 3 0),(1,.cptr [iv k,iv c,iv b,iv st,.list 1 (inR sz),.list 1 (inR bl),.list 1 (inR pl),.list 8 (aS ty)]),(2,.cptr [.list 3 (ofR of)]),(8,.list 1 (inR bl)),(9,iv N),(10,iv i)]) (fun _ s=>jE s.es s.lo s.hi (.lp L (bQ [iv k,iv c,iv b,iv st,.list 1 (inR sz),.list 1 (inR bl),.list 1 (inR pl),.list 8 (aS ty)] of cl) .ready none) []) (fun i s=>i≤N∧stB s∧dX of (bX f i 0) shp0=some s) (fun i _=>N - i) 0 shp0 ⟨Nat.zero_le _,v4,by rw[gD]; rfl⟩ ?_ ?_
 ·rw[hN,← hbl]
  (apply Sub.to [2,1] [[(0,0)],[(1,0)],[(2,0)],[(3,0)],[(4,0)],[(5,0)]]; all_goals (repeat' (first | exact aE.nil | exact aB.nil | exact aF.nil | exact ToL.nil | exact ToR.nil | refine aE.cons ?_ ?_ | refine aB.cons ?_ ?_ | refine aP ?_ ?_ | exact To.undef _ | exact To.sc _ | exact To.hslL rfl rfl | exact To.asl _ _ _ _ _ _ _ rfl | refine To.ifc _ _ _ ?_ | exact To.ptrO rfl rfl rfl | exact To.mrefO rfl | exact To.nil rfl rfl rfl | exact wt1 | exact To.nilL | refine To.int ?_ | refine To.bool ?_ | refine To.hslL rfl ?_ | refine wt2 rfl ?_ ?_ ?_ | refine To.tupL ?_ | refine To.aggL ?_ | refine To.cptrL ?_ | refine To.fzp rfl rfl rfl ?_ | refine To.fzm rfl rfl ?_ | refine To.cloL ?_ ?_ | refine wt3 ?_ | refine wt4 ?_ | exact wt5 | refine wt6 ?_ | refine ToB.one ?_ | exact wt7 | ((with_reducible apply ToL.consE); case e9=>rfl) | refine wt8 ?_ | refine ToL.cons ?_ ?_ | exact wt11 | refine wt9 ?_ ?_ | refine wt12 ?_ | (with_reducible rfl) | assumption)); all_goals (first | rfl | assumption | (simp; done) | (simp; omega) | (rw[wrap_small (by omega) (by omega)]; done) | (rw[wrap_small (by omega) (by omega)]; omega) | (refine congrArg Nat.cast ?_; assumption) | skip))
  all_goals first | exact hlp _ _ _ _ rfl rfl rfl | exact .yld _ _ _ _ rfl | exact .dead _
 rintro i s0 ⟨hi,hs0,hm0⟩
 refine cK ?_
 refine AWP.condN (i < N) rfl rfl (fun h=>?_) (fun h=>?_)
 ·have r1:=bZ bl i (by omega)
  have r2:=bZ pl i (by omega)
  have q1:=hb bl[i] (List.getElem_mem _)
  have q2:=hp pl[i] (List.getElem_mem _)
  have hfi:f i=(List.range bl[i].toNat).map fun j:Nat=>(0,(pl[i]+j) * x.ext):=by
   rw[hf]
   simp only[List.getD_eq_getElem?_getD,gEg (show i < bl.length by omega),gEg (show i < pl.length by omega),Option.getD_some]
  generalize bl[i]=n at *
  generalize pl[i]=p at *
  obtain⟨M,rfl⟩:∃ M:Nat,n=M:=⟨n.toNat,by omega⟩
  rw[Int.toNat_natCast] at hfi
  have hfl:(f i).length=M:=by rw[hfi]; simp
  have hfg:∀ j,j < M→(f i)[j]?=some (0,(p+j) * x.ext):=fun j hj=>by rw[hfi]; simp[hj]
  refine cK ?_
  refine AWP.loop2 (fun(j:Nat) (_:Shp)=>[(0,.yld 3 0),(1,.cptr [iv k,iv c,iv b,iv st,.list 1 (inR sz),.list 1 (inR bl),.list 1 (inR pl),.list 8 (aS ty)]),(2,.cptr [.list 3 (ofR of)]),(4,iv i),(8,.list 1 (inR bl)),(9,iv N),(10,iv i),(15,iv M),(16,iv j)]) (fun _ s=>jE s.es s.lo s.hi (.lp L (bQ [iv k,iv c,iv b,iv st,.list 1 (inR sz),.list 1 (inR bl),.list 1 (inR pl),.list 8 (aS ty)] of cl) .ready none) []) (fun j s=>j≤M∧stB s∧dX of (bX f i j) shp0=some s) (fun j _=>M - j) 0 s0 ⟨Nat.zero_le _,hs0,hm0⟩ ?_ ?_
  ·(apply Sub.to [] [[(0,0)],[(1,0)],[(2,0)],[(3,0)],[(4,0)],[(5,0)]]; all_goals (repeat' (first | exact aE.nil | exact aB.nil | exact aF.nil | exact ToL.nil | exact ToR.nil | refine aE.cons ?_ ?_ | refine aB.cons ?_ ?_ | refine aP ?_ ?_ | exact To.undef _ | exact To.sc _ | exact To.hslL rfl rfl | exact To.asl _ _ _ _ _ _ _ rfl | refine To.ifc _ _ _ ?_ | exact To.ptrO rfl rfl rfl | exact To.mrefO rfl | exact To.nil rfl rfl rfl | exact wt1 | exact To.nilL | refine To.int ?_ | refine To.bool ?_ | refine To.hslL rfl ?_ | refine wt2 rfl ?_ ?_ ?_ | refine To.tupL ?_ | refine To.aggL ?_ | refine To.cptrL ?_ | refine To.fzp rfl rfl rfl ?_ | refine To.fzm rfl rfl ?_ | refine To.cloL ?_ ?_ | refine wt3 ?_ | refine wt4 ?_ | exact wt5 | refine wt6 ?_ | refine ToB.one ?_ | exact wt7 | ((with_reducible apply ToL.consE); case e9=>rfl) | refine wt8 ?_ | refine ToL.cons ?_ ?_ | exact wt11 | refine wt9 ?_ ?_ | refine wt12 ?_ | (with_reducible rfl) | assumption)); all_goals (first | rfl | assumption | (simp; done) | (simp; omega) | (rw[wrap_small (by omega) (by omega)]; done) | (rw[wrap_small (by omega) (by omega)]; omega) | (refine congrArg Nat.cast ?_; assumption) | skip))
   all_goals first | exact hlp _ _ _ _ rfl rfl rfl | exact .yld _ _ _ _ rfl | exact .dead _
  rintro j s ⟨hj,hs,hm⟩
  refine cK ?_
  refine AWP.condN (j < M) rfl rfl (fun h2=>?_) (fun h2=>?_)
  ·refine cK ?_
   have hw2:=qK (a:=p+j) (b:=x.ext) (A:=1052672) (B:=1048576) (by omega) (by omega) b5 b6
   refine AWP.dky 13 [(0,.yld 3 0),(1,.cptr [iv k,iv c,iv b,iv st,.list 1 (inR sz),.list 1 (inR bl),.list 1 (inR pl),.list 8 (aS ty)]),(2,.cptr [.list 3 (ofR of)]),(4,iv i),(8,.list 1 (inR bl)),(9,iv N),(10,iv i),(15,iv M),(16,iv j),(19,.yld 3 0),(31,iv ((p+j) * x.ext))] (jE s.es s.lo s.hi (.lp L (bQ [iv k,iv c,iv b,iv st,.list 1 (inR sz),.list 1 (inR bl),.list 1 (inR pl),.list 8 (aS ty)] of cl) .ready none) []) sL rfl rfl (by kernel_rfl) (by kernel_rfl) (by kernel_rfl) ?_ ?_
   ·refine aA ?_
    refine DK.nil ⟨by kernel_rfl,?_⟩
    (apply Sub.to [] [[(0,0)],[(1,0)],[(2,0)],[(3,0)],[(4,0)],[(5,0)]]; all_goals (repeat' (first | exact aE.nil | exact aB.nil | exact aF.nil | exact ToL.nil | exact ToR.nil | refine aE.cons ?_ ?_ | refine aB.cons ?_ ?_ | refine aP ?_ ?_ | exact To.undef _ | exact To.sc _ | exact To.hslL rfl rfl | exact To.asl _ _ _ _ _ _ _ rfl | refine To.ifc _ _ _ ?_ | exact To.ptrO rfl rfl rfl | exact To.mrefO rfl | exact To.nil rfl rfl rfl | exact wt1 | exact To.nilL | refine To.int ?_ | refine To.bool ?_ | refine To.hslL rfl ?_ | refine wt2 rfl ?_ ?_ ?_ | refine To.tupL ?_ | refine To.aggL ?_ | refine To.cptrL ?_ | refine To.fzp rfl rfl rfl ?_ | refine To.fzm rfl rfl ?_ | refine To.cloL ?_ ?_ | refine wt3 ?_ | refine wt4 ?_ | exact wt5 | refine wt6 ?_ | refine ToB.one ?_ | exact wt7 | ((with_reducible apply ToL.consE); case e9=>rfl) | refine wt8 ?_ | refine ToL.cons ?_ ?_ | exact wt11 | refine wt9 ?_ ?_ | refine wt12 ?_ | (with_reducible rfl) | assumption)); all_goals (first | rfl | assumption | (simp; done) | (simp; omega) | (rw[wrap_small (by omega) (by omega)]; done) | (rw[wrap_small (by omega) (by omega)]; omega) | (refine congrArg Nat.cast ?_; assumption) | skip))
    all_goals first | exact hlp _ _ _ _ rfl rfl rfl | exact .yld _ _ _ _ rfl | (rw[Av.wrap_small (show -9223372036854775808≤p+(j:Int) by omega) (by omega),Av.wrap_small (by omega) (by omega)])
   ·refine⟨rfl,nlB rfl,3,0,rfl,?_⟩
    refine(mS (xs:=(List.range N).flatMap f) (k:=0) ht hc hL [] h0 hof hs (by omega) (by omega) hm ?_).mono ?_
    ·obtain⟨r,hr⟩:=nP (f:=f) (j:=j+1) h
     exact⟨r,by rw[hr,dW (hfg j h2)]; rfl⟩
    rintro b' H' (⟨rfl,s',hm',hs',rfl⟩ | ⟨rfl,hno,b2',b3',rfl⟩)
    ·refine aA ?_
     refine DK.nil ⟨by kernel_rfl,?_⟩
     refine aA ?_
     refine⟨j+1,s',⟨by omega,hs',by rw[dW (hfg j h2)]; exact hm'⟩,by omega,?_⟩
     (apply Sub.to [] [[(0,0)],[(1,0)],[(2,0)],[(3,0)],[(6,0)],[(5,0)]]; all_goals (repeat' (first | exact aE.nil | exact aB.nil | exact aF.nil | exact ToL.nil | exact ToR.nil | refine aE.cons ?_ ?_ | refine aB.cons ?_ ?_ | refine aP ?_ ?_ | exact To.undef _ | exact To.sc _ | exact To.hslL rfl rfl | exact To.asl _ _ _ _ _ _ _ rfl | refine To.ifc _ _ _ ?_ | exact To.ptrO rfl rfl rfl | exact To.mrefO rfl | exact To.nil rfl rfl rfl | exact wt1 | exact To.nilL | refine To.int ?_ | refine To.bool ?_ | refine To.hslL rfl ?_ | refine wt2 rfl ?_ ?_ ?_ | refine To.tupL ?_ | refine To.aggL ?_ | refine To.cptrL ?_ | refine To.fzp rfl rfl rfl ?_ | refine To.fzm rfl rfl ?_ | refine To.cloL ?_ ?_ | refine wt3 ?_ | refine wt4 ?_ | exact wt5 | refine wt6 ?_ | refine ToB.one ?_ | exact wt7 | ((with_reducible apply ToL.consE); case e9=>rfl) | refine wt8 ?_ | refine ToL.cons ?_ ?_ | exact wt11 | refine wt9 ?_ ?_ | refine wt12 ?_ | (with_reducible rfl) | assumption)); all_goals (first | rfl | assumption | (simp; done) | (simp; omega) | (rw[wrap_small (by omega) (by omega)]; done) | (rw[wrap_small (by omega) (by omega)]; omega) | (refine congrArg Nat.cast ?_; assumption) | skip))
     all_goals first | exact hlp _ _ _ _ rfl rfl rfl | exact .yld _ _ _ _ rfl | exact .dead _
    ·refine aA ?_
     refine DK.nil ⟨by kernel_rfl,?_⟩
     refine aA ?_
     refine gI (res':=.tup []) (H2:=BG (.lp L (bQ [iv k,iv c,iv b,iv st,.list 1 (inR sz),.list 1 (inR bl),.list 1 (inR pl),.list 8 (aS ty)] of cl) .done (some .ret))) [[(0,0)],[(1,0)],[(2,0)],[(3,0)]] (.inr rfl) rfl (.inr ⟨hno,rfl⟩) ?_ ?_ rfl rfl rfl
     ((all_goals (repeat' (first | exact aE.nil | exact aB.nil | exact aF.nil | exact ToL.nil | exact ToR.nil | refine aE.cons ?_ ?_ | refine aB.cons ?_ ?_ | refine aP ?_ ?_ | exact To.undef _ | exact To.sc _ | exact To.hslL rfl rfl | exact To.asl _ _ _ _ _ _ _ rfl | refine To.ifc _ _ _ ?_ | exact To.ptrO rfl rfl rfl | exact To.mrefO rfl | exact To.nil rfl rfl rfl | exact wt1 | exact To.nilL | refine To.int ?_ | refine To.bool ?_ | refine To.hslL rfl ?_ | refine wt2 rfl ?_ ?_ ?_ | refine To.tupL ?_ | refine To.aggL ?_ | refine To.cptrL ?_ | refine To.fzp rfl rfl rfl ?_ | refine To.fzm rfl rfl ?_ | refine To.cloL ?_ ?_ | refine wt3 ?_ | refine wt4 ?_ | exact wt5 | refine wt6 ?_ | refine ToB.one ?_ | exact wt7 | ((with_reducible apply ToL.consE); case e9=>rfl) | refine wt8 ?_ | refine ToL.cons ?_ ?_ | exact wt11 | refine wt9 ?_ ?_ | refine wt12 ?_ | (with_reducible rfl) | assumption)); all_goals (first | rfl | assumption | (simp; done) | (simp; omega) | (rw[wrap_small (by omega) (by omega)]; done) | (rw[wrap_small (by omega) (by omega)]; omega) | (refine congrArg Nat.cast ?_; assumption) | skip)))
     all_goals first | exact hlp _ _ _ _ rfl rfl rfl | exact .yld _ _ _ _ rfl | exact .dead _
  ·obtain rfl:M=j:=by omega
   refine aA ?_
   refine⟨i+1,s,⟨by omega,hs,by rw[← fF hfl]; exact hm⟩,by omega,?_⟩
   (apply Sub.to [] [[(0,0)],[(1,0)],[(2,0)],[(3,0)],[(4,0)],[(5,0)]]; all_goals (repeat' (first | exact aE.nil | exact aB.nil | exact aF.nil | exact ToL.nil | exact ToR.nil | refine aE.cons ?_ ?_ | refine aB.cons ?_ ?_ | refine aP ?_ ?_ | exact To.undef _ | exact To.sc _ | exact To.hslL rfl rfl | exact To.asl _ _ _ _ _ _ _ rfl | refine To.ifc _ _ _ ?_ | exact To.ptrO rfl rfl rfl | exact To.mrefO rfl | exact To.nil rfl rfl rfl | exact wt1 | exact To.nilL | refine To.int ?_ | refine To.bool ?_ | refine To.hslL rfl ?_ | refine wt2 rfl ?_ ?_ ?_ | refine To.tupL ?_ | refine To.aggL ?_ | refine To.cptrL ?_ | refine To.fzp rfl rfl rfl ?_ | refine To.fzm rfl rfl ?_ | refine To.cloL ?_ ?_ | refine wt3 ?_ | refine wt4 ?_ | exact wt5 | refine wt6 ?_ | refine ToB.one ?_ | exact wt7 | ((with_reducible apply ToL.consE); case e9=>rfl) | refine wt8 ?_ | refine ToL.cons ?_ ?_ | exact wt11 | refine wt9 ?_ ?_ | refine wt12 ?_ | (with_reducible rfl) | assumption)); all_goals (first | rfl | assumption | (simp; done) | (simp; omega) | (rw[wrap_small (by omega) (by omega)]; done) | (rw[wrap_small (by omega) (by omega)]; omega) | (refine congrArg Nat.cast ?_; assumption) | skip))
   all_goals first | exact hlp _ _ _ _ rfl rfl rfl | exact .yld _ _ _ _ rfl | exact .dead _
 ·obtain rfl:N=i:=by omega
  rw[← gT] at hm0
  refine aA ?_
  refine gI (res':=.tup []) (H2:=putK s0.es s0.lo s0.hi (.lp L (bQ [iv k,iv c,iv b,iv st,.list 1 (inR sz),.list 1 (inR bl),.list 1 (inR pl),.list 8 (aS ty)] of cl) .ready none)) [[(0,0)],[(1,0)],[(2,0)],[(3,0)],[(4,0)]] (.inl rfl) rfl (.inl ⟨s0,hm0,hs0,rfl⟩) ?_ ?_ rfl rfl rfl
  ((all_goals (repeat' (first | exact aE.nil | exact aB.nil | exact aF.nil | exact ToL.nil | exact ToR.nil | refine aE.cons ?_ ?_ | refine aB.cons ?_ ?_ | refine aP ?_ ?_ | exact To.undef _ | exact To.sc _ | exact To.hslL rfl rfl | exact To.asl _ _ _ _ _ _ _ rfl | refine To.ifc _ _ _ ?_ | exact To.ptrO rfl rfl rfl | exact To.mrefO rfl | exact To.nil rfl rfl rfl | exact wt1 | exact To.nilL | refine To.int ?_ | refine To.bool ?_ | refine To.hslL rfl ?_ | refine wt2 rfl ?_ ?_ ?_ | refine To.tupL ?_ | refine To.aggL ?_ | refine To.cptrL ?_ | refine To.fzp rfl rfl rfl ?_ | refine To.fzm rfl rfl ?_ | refine To.cloL ?_ ?_ | refine wt3 ?_ | refine wt4 ?_ | exact wt5 | refine wt6 ?_ | refine ToB.one ?_ | exact wt7 | ((with_reducible apply ToL.consE); case e9=>rfl) | refine wt8 ?_ | refine ToL.cons ?_ ?_ | exact wt11 | refine wt9 ?_ ?_ | refine wt12 ?_ | (with_reducible rfl) | assumption)); all_goals (first | rfl | assumption | (simp; done) | (simp; omega) | (rw[wrap_small (by omega) (by omega)]; done) | (rw[wrap_small (by omega) (by omega)]; omega) | (refine congrArg Nat.cast ?_; assumption) | skip)))
  all_goals first | exact hlp _ _ _ _ rfl rfl rfl | exact .yld _ _ _ _ rfl | exact .dead _
variable {L:LC} {of:List Shp} {cl:AV} {k c b st:Int} {sz bl pl:List Int} {ty:List Ty}
set_option maxHeartbeats 1000000 in
theorem rR (hc:PV cl) (hL:LOK Tryz.prog F165.n L [28,29] (rfA fQ) (rfB fQ)) (hof:∀ x∈of,shB x) (hlo:of.length=bl.length) (hb:∀ n∈bl,0≤n∧n≤4096) (hp:∀ n∈pl,-mP≤n∧n≤mP) (hl:pl.length=bl.length) (hln:bl.length≤4096):
  aH Tryz.prog 208 [.yld 3 0,.cptr [iv k,iv c,iv b,iv st,.list 1 (inR sz),.list 1 (inR bl),.list 1 (inR pl),.list 8 (aS ty)],.cptr [.list 3 (ofR of)]] (B6 (.lp L (bQ [iv k,iv c,iv b,iv st,.list 1 (inR sz),.list 1 (inR bl),.list 1 (inR pl),.list 8 (aS ty)] of cl) .ready none)) fun _ H'=>mZ L [iv k,iv c,iv b,iv st,.list 1 (inR sz),.list 1 (inR bl),.list 1 (inR pl),.list 8 (aS ty)] of cl (lM bl pl of) H':=by
 have ht:PR [iv k,iv c,iv b,iv st,.list 1 (inR sz),.list 1 (inR bl),.list 1 (inR pl),.list 8 (aS ty)]:=⟨pr _⟩
 have hlp:∀(T:AV→AV→Prop) (ρ:Nat→Nat→Option (Nat×Nat)) (st':LoopState) (pe:Option Code),ρ 0 0=some (0,0)→ρ 1 0=some (1,0)→ρ 2 0=some (2,0)→ToB T ρ (.lp L (bQ [iv k,iv c,iv b,iv st,.list 1 (inR sz),.list 1 (inR bl),.list 1 (inR pl),.list 8 (aS ty)] of cl) st' pe) (.lp L (bQ [iv k,iv c,iv b,iv st,.list 1 (inR sz),.list 1 (inR bl),.list 1 (inR pl),.list 8 (aS ty)] of cl) st' pe):=fun T ρ st' pe=>nN ht hc
 unfold mP at hp
 obtain⟨N,hN⟩:∃ N,N=bl.length:=⟨_,rfl⟩
 obtain⟨f,hf⟩:∃ f:Nat→List (Int×Int),f=fun i:Nat=>(List.range (bl.getD i 0).toNat).map fun j:Nat=>((i:Int),pl.getD i 0+j * (of.getD i shp0).ext):=⟨_,rfl⟩
 have hxs:lM bl pl of=(List.range N).flatMap f:=by unfold lM; rw[hf,hN]
 have hbl:=bD bl
 rw[hxs]
 refine aH.of I8 ?_ (nlB rfl)
 refine aA ?_
 refine AWP.loop2 (fun(i:Nat) (_:Shp)=>[(0,.yld 3 0),(1,.cptr [iv k,iv c,iv b,iv st,.list 1 (inR sz),.list 1 (inR bl),.list 1 (inR pl),.list 8 (aS ty)]),(2,.cptr [.list 3 (ofR of)]),(8,.list 1 (inR bl)),(9,iv N),(10,iv i)]) (fun _ s=>jE s.es s.lo s.hi (.lp L (bQ [iv k,iv c,iv b,iv st,.list 1 (inR sz),.list 1 (inR bl),.list 1 (inR pl),.list 8 (aS ty)] of cl) .ready none) []) (fun i s=>i≤N∧stB s∧dX of (bX f i 0) shp0=some s) (fun i _=>N - i) 0 shp0 ⟨Nat.zero_le _,v4,by rw[gD]; rfl⟩ ?_ ?_
 ·rw[hN,← hbl]
  (apply Sub.to [2,1] [[(0,0)],[(1,0)],[(2,0)],[(3,0)],[(4,0)],[(5,0)]]; all_goals (repeat' (first | exact aE.nil | exact aB.nil | exact aF.nil | exact ToL.nil | exact ToR.nil | refine aE.cons ?_ ?_ | refine aB.cons ?_ ?_ | refine aP ?_ ?_ | exact To.undef _ | exact To.sc _ | exact To.hslL rfl rfl | exact To.asl _ _ _ _ _ _ _ rfl | refine To.ifc _ _ _ ?_ | exact To.ptrO rfl rfl rfl | exact To.mrefO rfl | exact To.nil rfl rfl rfl | exact wt1 | exact To.nilL | refine To.int ?_ | refine To.bool ?_ | refine To.hslL rfl ?_ | refine wt2 rfl ?_ ?_ ?_ | refine To.tupL ?_ | refine To.aggL ?_ | refine To.cptrL ?_ | refine To.fzp rfl rfl rfl ?_ | refine To.fzm rfl rfl ?_ | refine To.cloL ?_ ?_ | refine wt3 ?_ | refine wt4 ?_ | exact wt5 | refine wt6 ?_ | refine ToB.one ?_ | exact wt7 | ((with_reducible apply ToL.consE); case e9=>rfl) | refine wt8 ?_ | refine ToL.cons ?_ ?_ | exact wt11 | refine wt9 ?_ ?_ | refine wt12 ?_ | (with_reducible rfl) | assumption)); all_goals (first | rfl | assumption | (simp; done) | (simp; omega) | (rw[wrap_small (by omega) (by omega)]; done) | (rw[wrap_small (by omega) (by omega)]; omega) | (refine congrArg Nat.cast ?_; assumption) | skip))
  all_goals first | exact hlp _ _ _ _ rfl rfl rfl | exact .yld _ _ _ _ rfl | exact .dead _
 rintro i s0 ⟨hi,hs0,hm0⟩
 refine cK ?_
 refine AWP.condN (i < N) rfl rfl (fun h=>?_) (fun h=>?_)
 ·have r1:=bZ bl i (by omega)
  have r2:=bZ pl i (by omega)
  have q1:=hb bl[i] (List.getElem_mem _)
  have q2:=hp pl[i] (List.getElem_mem _)
  have hr0:=kP of i (by omega)
  have hx:=hof of[i] (List.getElem_mem _)
  have h0:of[i]?=some of[i]:=gEg (by omega)
  have hfi:f i=(List.range bl[i].toNat).map fun j:Nat=>((i:Int),pl[i]+j * of[i].ext):=by
   rw[hf]
   simp only[List.getD_eq_getElem?_getD,gEg (show i < bl.length by omega),gEg (show i < pl.length by omega),gEg (show i < of.length by omega),Option.getD_some]
  generalize of[i]=x at *
  have hsx:=hx
  obtain⟨b1,b2,b3,b4,b5,b6,_⟩:=hx
  unfold mP at b1 b2 b3 b4 b5 b6
  have he:aC Tryz.prog 73 [.agg [.list 2 (enR x.es),iv x.lo,iv x.hi]] (iv x.ext):=dO x (by omega) (by omega) (by omega) (by omega)
  generalize bl[i]=n at *
  generalize pl[i]=p at *
  obtain⟨M,rfl⟩:∃ M:Nat,n=M:=⟨n.toNat,by omega⟩
  rw[Int.toNat_natCast] at hfi
  have hfl:(f i).length=M:=by rw[hfi]; simp
  have hfg:∀ j,j < M→(f i)[j]?=some ((i:Int),p+j * x.ext):=fun j hj=>by rw[hfi]; simp[hj]
  refine cK ?_
  refine AWP.loop2 (fun(j:Nat) (_:Shp)=>[(0,.yld 3 0),(1,.cptr [iv k,iv c,iv b,iv st,.list 1 (inR sz),.list 1 (inR bl),.list 1 (inR pl),.list 8 (aS ty)]),(2,.cptr [.list 3 (ofR of)]),(4,iv i),(8,.list 1 (inR bl)),(9,iv N),(10,iv i),(15,iv M),(16,iv j)]) (fun _ s=>jE s.es s.lo s.hi (.lp L (bQ [iv k,iv c,iv b,iv st,.list 1 (inR sz),.list 1 (inR bl),.list 1 (inR pl),.list 8 (aS ty)] of cl) .ready none) []) (fun j s=>j≤M∧stB s∧dX of (bX f i j) shp0=some s) (fun j _=>M - j) 0 s0 ⟨Nat.zero_le _,hs0,hm0⟩ ?_ ?_
  ·(apply Sub.to [] [[(0,0)],[(1,0)],[(2,0)],[(3,0)],[(4,0)],[(5,0)]]; all_goals (repeat' (first | exact aE.nil | exact aB.nil | exact aF.nil | exact ToL.nil | exact ToR.nil | refine aE.cons ?_ ?_ | refine aB.cons ?_ ?_ | refine aP ?_ ?_ | exact To.undef _ | exact To.sc _ | exact To.hslL rfl rfl | exact To.asl _ _ _ _ _ _ _ rfl | refine To.ifc _ _ _ ?_ | exact To.ptrO rfl rfl rfl | exact To.mrefO rfl | exact To.nil rfl rfl rfl | exact wt1 | exact To.nilL | refine To.int ?_ | refine To.bool ?_ | refine To.hslL rfl ?_ | refine wt2 rfl ?_ ?_ ?_ | refine To.tupL ?_ | refine To.aggL ?_ | refine To.cptrL ?_ | refine To.fzp rfl rfl rfl ?_ | refine To.fzm rfl rfl ?_ | refine To.cloL ?_ ?_ | refine wt3 ?_ | refine wt4 ?_ | exact wt5 | refine wt6 ?_ | refine ToB.one ?_ | exact wt7 | ((with_reducible apply ToL.consE); case e9=>rfl) | refine wt8 ?_ | refine ToL.cons ?_ ?_ | exact wt11 | refine wt9 ?_ ?_ | refine wt12 ?_ | (with_reducible rfl) | assumption)); all_goals (first | rfl | assumption | (simp; done) | (simp; omega) | (rw[wrap_small (by omega) (by omega)]; done) | (rw[wrap_small (by omega) (by omega)]; omega) | (refine congrArg Nat.cast ?_; assumption) | skip))
   all_goals first | exact hlp _ _ _ _ rfl rfl rfl | exact .yld _ _ _ _ rfl | exact .dead _
  rintro j s ⟨hj,hs,hm⟩
  refine cK ?_
  refine AWP.condN (j < M) rfl rfl (fun h2=>?_) (fun h2=>?_)
  ·refine cK ?_
   have hw2:=qK (a:=(j:Int)) (b:=x.ext) (A:=4096) (B:=1048576) (by omega) (by omega) b5 b6
   refine AWP.dky 15 [(0,.yld 3 0),(1,.cptr [iv k,iv c,iv b,iv st,.list 1 (inR sz),.list 1 (inR bl),.list 1 (inR pl),.list 8 (aS ty)]),(2,.cptr [.list 3 (ofR of)]),(4,iv i),(8,.list 1 (inR bl)),(9,iv N),(10,iv i),(15,iv M),(16,iv j),(19,.yld 3 0),(20,iv i),(33,iv (p+j * x.ext))] (jE s.es s.lo s.hi (.lp L (bQ [iv k,iv c,iv b,iv st,.list 1 (inR sz),.list 1 (inR bl),.list 1 (inR pl),.list 8 (aS ty)] of cl) .ready none) []) sL rfl rfl (by kernel_rfl) (by kernel_rfl) (by kernel_rfl) ?_ ?_
   ·refine aA ?_
    refine DK.nil ⟨by kernel_rfl,?_⟩
    (apply Sub.to [] [[(0,0)],[(1,0)],[(2,0)],[(3,0)],[(4,0)],[(5,0)]]; all_goals (repeat' (first | exact aE.nil | exact aB.nil | exact aF.nil | exact ToL.nil | exact ToR.nil | refine aE.cons ?_ ?_ | refine aB.cons ?_ ?_ | refine aP ?_ ?_ | exact To.undef _ | exact To.sc _ | exact To.hslL rfl rfl | exact To.asl _ _ _ _ _ _ _ rfl | refine To.ifc _ _ _ ?_ | exact To.ptrO rfl rfl rfl | exact To.mrefO rfl | exact To.nil rfl rfl rfl | exact wt1 | exact To.nilL | refine To.int ?_ | refine To.bool ?_ | refine To.hslL rfl ?_ | refine wt2 rfl ?_ ?_ ?_ | refine To.tupL ?_ | refine To.aggL ?_ | refine To.cptrL ?_ | refine To.fzp rfl rfl rfl ?_ | refine To.fzm rfl rfl ?_ | refine To.cloL ?_ ?_ | refine wt3 ?_ | refine wt4 ?_ | exact wt5 | refine wt6 ?_ | refine ToB.one ?_ | exact wt7 | ((with_reducible apply ToL.consE); case e9=>rfl) | refine wt8 ?_ | refine ToL.cons ?_ ?_ | exact wt11 | refine wt9 ?_ ?_ | refine wt12 ?_ | (with_reducible rfl) | assumption)); all_goals (first | rfl | assumption | (simp; done) | (simp; omega) | (rw[wrap_small (by omega) (by omega)]; done) | (rw[wrap_small (by omega) (by omega)]; omega) | (refine congrArg Nat.cast ?_; assumption) | skip))
    all_goals first | exact hlp _ _ _ _ rfl rfl rfl | exact .yld _ _ _ _ rfl | (rw[Av.wrap_small (show -9223372036854775808≤(j:Int) * x.ext by omega) (by omega),Av.wrap_small (by omega) (by omega)])
   ·refine⟨rfl,nlB rfl,3,0,rfl,?_⟩
    refine(mS (xs:=(List.range N).flatMap f) (k:=i) ht hc hL [] h0 hsx hs (by omega) (by omega) hm ?_).mono ?_
    ·obtain⟨r,hr⟩:=nP (f:=f) (j:=j+1) h
     exact⟨r,by rw[hr,dW (hfg j h2)]⟩
    rintro b' H' (⟨rfl,s',hm',hs',rfl⟩ | ⟨rfl,hno,b2',b3',rfl⟩)
    ·refine aA ?_
     refine DK.nil ⟨by kernel_rfl,?_⟩
     refine aA ?_
     refine⟨j+1,s',⟨by omega,hs',by rw[dW (hfg j h2)]; exact hm'⟩,by omega,?_⟩
     (apply Sub.to [] [[(0,0)],[(1,0)],[(2,0)],[(3,0)],[(6,0)],[(5,0)]]; all_goals (repeat' (first | exact aE.nil | exact aB.nil | exact aF.nil | exact ToL.nil | exact ToR.nil | refine aE.cons ?_ ?_ | refine aB.cons ?_ ?_ | refine aP ?_ ?_ | exact To.undef _ | exact To.sc _ | exact To.hslL rfl rfl | exact To.asl _ _ _ _ _ _ _ rfl | refine To.ifc _ _ _ ?_ | exact To.ptrO rfl rfl rfl | exact To.mrefO rfl | exact To.nil rfl rfl rfl | exact wt1 | exact To.nilL | refine To.int ?_ | refine To.bool ?_ | refine To.hslL rfl ?_ | refine wt2 rfl ?_ ?_ ?_ | refine To.tupL ?_ | refine To.aggL ?_ | refine To.cptrL ?_ | refine To.fzp rfl rfl rfl ?_ | refine To.fzm rfl rfl ?_ | refine To.cloL ?_ ?_ | refine wt3 ?_ | refine wt4 ?_ | exact wt5 | refine wt6 ?_ | refine ToB.one ?_ | exact wt7 | ((with_reducible apply ToL.consE); case e9=>rfl) | refine wt8 ?_ | refine ToL.cons ?_ ?_ | exact wt11 | refine wt9 ?_ ?_ | refine wt12 ?_ | (with_reducible rfl) | assumption)); all_goals (first | rfl | assumption | (simp; done) | (simp; omega) | (rw[wrap_small (by omega) (by omega)]; done) | (rw[wrap_small (by omega) (by omega)]; omega) | (refine congrArg Nat.cast ?_; assumption) | skip))
     all_goals first | exact hlp _ _ _ _ rfl rfl rfl | exact .yld _ _ _ _ rfl | exact .dead _
    ·refine aA ?_
     refine DK.nil ⟨by kernel_rfl,?_⟩
     refine aA ?_
     refine gI (res':=.tup []) (H2:=BG (.lp L (bQ [iv k,iv c,iv b,iv st,.list 1 (inR sz),.list 1 (inR bl),.list 1 (inR pl),.list 8 (aS ty)] of cl) .done (some .ret))) [[(0,0)],[(1,0)],[(2,0)],[(3,0)]] (.inr rfl) rfl (.inr ⟨hno,rfl⟩) ?_ ?_ rfl rfl rfl
     ((all_goals (repeat' (first | exact aE.nil | exact aB.nil | exact aF.nil | exact ToL.nil | exact ToR.nil | refine aE.cons ?_ ?_ | refine aB.cons ?_ ?_ | refine aP ?_ ?_ | exact To.undef _ | exact To.sc _ | exact To.hslL rfl rfl | exact To.asl _ _ _ _ _ _ _ rfl | refine To.ifc _ _ _ ?_ | exact To.ptrO rfl rfl rfl | exact To.mrefO rfl | exact To.nil rfl rfl rfl | exact wt1 | exact To.nilL | refine To.int ?_ | refine To.bool ?_ | refine To.hslL rfl ?_ | refine wt2 rfl ?_ ?_ ?_ | refine To.tupL ?_ | refine To.aggL ?_ | refine To.cptrL ?_ | refine To.fzp rfl rfl rfl ?_ | refine To.fzm rfl rfl ?_ | refine To.cloL ?_ ?_ | refine wt3 ?_ | refine wt4 ?_ | exact wt5 | refine wt6 ?_ | refine ToB.one ?_ | exact wt7 | ((with_reducible apply ToL.consE); case e9=>rfl) | refine wt8 ?_ | refine ToL.cons ?_ ?_ | exact wt11 | refine wt9 ?_ ?_ | refine wt12 ?_ | (with_reducible rfl) | assumption)); all_goals (first | rfl | assumption | (simp; done) | (simp; omega) | (rw[wrap_small (by omega) (by omega)]; done) | (rw[wrap_small (by omega) (by omega)]; omega) | (refine congrArg Nat.cast ?_; assumption) | skip)))
     all_goals first | exact hlp _ _ _ _ rfl rfl rfl | exact .yld _ _ _ _ rfl | exact .dead _
  ·obtain rfl:M=j:=by omega
   refine aA ?_
   refine⟨i+1,s,⟨by omega,hs,by rw[← fF hfl]; exact hm⟩,by omega,?_⟩
   (apply Sub.to [] [[(0,0)],[(1,0)],[(2,0)],[(3,0)],[(4,0)],[(5,0)]]; all_goals (repeat' (first | exact aE.nil | exact aB.nil | exact aF.nil | exact ToL.nil | exact ToR.nil | refine aE.cons ?_ ?_ | refine aB.cons ?_ ?_ | refine aP ?_ ?_ | exact To.undef _ | exact To.sc _ | exact To.hslL rfl rfl | exact To.asl _ _ _ _ _ _ _ rfl | refine To.ifc _ _ _ ?_ | exact To.ptrO rfl rfl rfl | exact To.mrefO rfl | exact To.nil rfl rfl rfl | exact wt1 | exact To.nilL | refine To.int ?_ | refine To.bool ?_ | refine To.hslL rfl ?_ | refine wt2 rfl ?_ ?_ ?_ | refine To.tupL ?_ | refine To.aggL ?_ | refine To.cptrL ?_ | refine To.fzp rfl rfl rfl ?_ | refine To.fzm rfl rfl ?_ | refine To.cloL ?_ ?_ | refine wt3 ?_ | refine wt4 ?_ | exact wt5 | refine wt6 ?_ | refine ToB.one ?_ | exact wt7 | ((with_reducible apply ToL.consE); case e9=>rfl) | refine wt8 ?_ | refine ToL.cons ?_ ?_ | exact wt11 | refine wt9 ?_ ?_ | refine wt12 ?_ | (with_reducible rfl) | assumption)); all_goals (first | rfl | assumption | (simp; done) | (simp; omega) | (rw[wrap_small (by omega) (by omega)]; done) | (rw[wrap_small (by omega) (by omega)]; omega) | (refine congrArg Nat.cast ?_; assumption) | skip))
   all_goals first | exact hlp _ _ _ _ rfl rfl rfl | exact .yld _ _ _ _ rfl | exact .dead _
 ·obtain rfl:N=i:=by omega
  rw[← gT] at hm0
  refine aA ?_
  refine gI (res':=.tup []) (H2:=putK s0.es s0.lo s0.hi (.lp L (bQ [iv k,iv c,iv b,iv st,.list 1 (inR sz),.list 1 (inR bl),.list 1 (inR pl),.list 8 (aS ty)] of cl) .ready none)) [[(0,0)],[(1,0)],[(2,0)],[(3,0)],[(4,0)]] (.inl rfl) rfl (.inl ⟨s0,hm0,hs0,rfl⟩) ?_ ?_ rfl rfl rfl
  ((all_goals (repeat' (first | exact aE.nil | exact aB.nil | exact aF.nil | exact ToL.nil | exact ToR.nil | refine aE.cons ?_ ?_ | refine aB.cons ?_ ?_ | refine aP ?_ ?_ | exact To.undef _ | exact To.sc _ | exact To.hslL rfl rfl | exact To.asl _ _ _ _ _ _ _ rfl | refine To.ifc _ _ _ ?_ | exact To.ptrO rfl rfl rfl | exact To.mrefO rfl | exact To.nil rfl rfl rfl | exact wt1 | exact To.nilL | refine To.int ?_ | refine To.bool ?_ | refine To.hslL rfl ?_ | refine wt2 rfl ?_ ?_ ?_ | refine To.tupL ?_ | refine To.aggL ?_ | refine To.cptrL ?_ | refine To.fzp rfl rfl rfl ?_ | refine To.fzm rfl rfl ?_ | refine To.cloL ?_ ?_ | refine wt3 ?_ | refine wt4 ?_ | exact wt5 | refine wt6 ?_ | refine ToB.one ?_ | exact wt7 | ((with_reducible apply ToL.consE); case e9=>rfl) | refine wt8 ?_ | refine ToL.cons ?_ ?_ | exact wt11 | refine wt9 ?_ ?_ | refine wt12 ?_ | (with_reducible rfl) | assumption)); all_goals (first | rfl | assumption | (simp; done) | (simp; omega) | (rw[wrap_small (by omega) (by omega)]; done) | (rw[wrap_small (by omega) (by omega)]; omega) | (refine congrArg Nat.cast ?_; assumption) | skip)))
  all_goals first | exact hlp _ _ _ _ rfl rfl rfl | exact .yld _ _ _ _ rfl | exact .dead _
variable {L:LC} {of:List Shp} {cl:AV} {k c b st:Int} {sz bl pl:List Int} {ty:List Ty}
def atI (a:List Nat):List Int:=a.map fun n:Nat=>(n:Int)
theorem y9 (a:List Nat):(inR (atI a)).length=a.length:=by simp[inR,atI]
theorem AM {a:List Nat} {k:Nat} (h:k < a.length):(inR (atI a))[k]?=some [iv (a.getD k 0:Nat)]:=by simp[inR,atI,h]
theorem z8 {a:List Nat} {k:Nat} {v:Nat}:(inR (atI a)).set k [iv v]=inR (atI (a.set k v)):=by
 unfold inR atI
 rw[List.map_set,List.map_set]
theorem BM (n:Nat):List.replicate n (dF [(1,Value.int .i64 0)])=inR (atI (List.replicate n 0)):=by
 unfold inR atI
 rw[List.map_replicate,List.map_replicate]
 rfl
theorem CJ {g i:Nat} {fr:Fr} {H:Heap} {sz bytes n:Nat} {z:List (Nat×Value)} {l:Operand} (hx:ev fr l=.sc (.int .i64 (n:Nat))) (hb:bytes * n≤70368744177664) (hn:n≤1073741824):
  aD g i (.makeSlice sz bytes z l) fr H=some (.hsl g i 0 n,aN H g i (.cells sz (List.replicate n (dF z)))):=by
 have e:(Nat.ble (bytes * n) 70368744177664 && Nat.ble n 1073741824)=true:=by rw[Nat.ble_eq_true_of_le hb,Nat.ble_eq_true_of_le hn]; rfl
 simp only[aD,hx]
 show(match Nat.ble (bytes * n) 70368744177664 && Nat.ble n 1073741824 with
  | true=>_
  | false=>_)=_
 rw[e]
def iL (sz pl:List Int) (a:List Nat) (k:Nat):Int:=(List.range k).foldl (fun n k=>min (n * sz.getD k 0+pl.getD k 0+(a.getD k 0:Nat)) huge) 0
theorem tN {sz pl:List Int} {a:List Nat} {k:Nat}:iL sz pl a (k+1)=min (iL sz pl a k * sz.getD k 0+pl.getD k 0+(a.getD k 0:Nat)) huge:=by
 unfold iL
 rw[List.range_succ,List.foldl_append]
 rfl
set_option maxHeartbeats 1000000 in
theorem vH (hc:PV cl) (hL:LOK Tryz.prog F165.n L [28,29] (rfA fQ) (rfB fQ)) {x:Shp} (h0:of[0]?=some x) (hof:shB x) {n:Nat} (hn:n≤4) (hsz:sz.length=n) (hbl:bl.length=n) (hpl:pl.length=n) (hsub:A5 sz bl pl=true):
  aH Tryz.prog 209 [.yld 3 0,.cptr [iv k,iv c,iv b,iv st,.list 1 (inR sz),.list 1 (inR bl),.list 1 (inR pl),.list 8 (aS ty)],.cptr [.list 3 (ofR of)]] (B6 (.lp L (bQ [iv k,iv c,iv b,iv st,.list 1 (inR sz),.list 1 (inR bl),.list 1 (inR pl),.list 8 (aS ty)] of cl) .ready none)) fun _ H'=>mZ L [iv k,iv c,iv b,iv st,.list 1 (inR sz),.list 1 (inR bl),.list 1 (inR pl),.list 8 (aS ty)] of cl (n8 sz bl pl x.ext) H':=by
 have ht:PR [iv k,iv c,iv b,iv st,.list 1 (inR sz),.list 1 (inR bl),.list 1 (inR pl),.list 8 (aS ty)]:=⟨pr _⟩
 have hlp:∀(T:AV→AV→Prop) (ρ:Nat→Nat→Option (Nat×Nat)) (st':LoopState) (pe:Option Code),ρ 0 0=some (0,0)→ρ 1 0=some (1,0)→ρ 2 0=some (2,0)→ToB T ρ (.lp L (bQ [iv k,iv c,iv b,iv st,.list 1 (inR sz),.list 1 (inR bl),.list 1 (inR pl),.list 8 (aS ty)] of cl) st' pe) (.lp L (bQ [iv k,iv c,iv b,iv st,.list 1 (inR sz),.list 1 (inR bl),.list 1 (inR pl),.list 8 (aS ty)] of cl) st' pe):=fun T ρ st' pe=>nN ht hc
 have hr0:d6 (ofR of) ((0:Nat):Int)=some [.list 2 (enR x.es),iv x.lo,iv x.hi]:=by
  obtain⟨h,rfl⟩:=gEs.1 h0
  exact kP of 0 h
 have hx:=hof
 obtain⟨b1,b2,b3,b4,b5,b6,_⟩:=hx
 unfold mP at b1 b2 b3 b4 b5 b6
 have he:aC Tryz.prog 73 [.agg [.list 2 (enR x.es),iv x.lo,iv x.hi]] (iv x.ext):=dO x (by omega) (by omega) (by omega) (by omega)
 have hbs:∀ i,i < n→1≤sz.getD i 0∧sz.getD i 0≤4096∧1≤bl.getD i 0∧bl.getD i 0≤sz.getD i 0∧0≤pl.getD i 0∧pl.getD i 0≤4096:=fun i hi=>by
  have:=List.all_eq_true.1 hsub i (List.mem_range.2 (by omega))
  simp only[aK,Bool.and_eq_true,decide_eq_true_eq] at this
  omega
 have hsl:=bD sz
 have hlin:∀(a:List Nat) k,k≤n→0≤iL sz pl a k∧iL sz pl a k≤huge:=fun a k=>by
  induction k with
  | zero=>exact fun _=>⟨by simp[iL],by simp[iL,huge]⟩
  | succ k ih=>
   intro hk
   obtain⟨i1,i2⟩:=ih (by omega)
   obtain⟨g1,g2,_,_,g5,_⟩:=hbs k (by omega)
   have:=Int.mul_nonneg i1 (show 0≤sz.getD k 0 by omega)
   rw[tN]
   unfold huge at *
   omega
 have hlS:∀ a,FQ sz pl a=iL sz pl a n:=fun a=>by unfold FQ iL; rw[hsz]
 have hxs:n8 sz bl pl x.ext=eT sz bl pl x.ext (prS bl n) (List.replicate n 0):=by
  unfold n8
  rw[hsz,← hbl,← rH (Nat.le_refl _),List.take_length]
 rw[hxs]
 refine aH.of IQ ?_ (nlB rfl)
 refine aA ?_
 rw[hsl,hsz]
 refine Reg.o rfl (CJ rfl (by omega) (by omega)) ?_
 refine aA ?_
 refine AWP.loop2 (fun(_:List Nat) (_:Shp)=>[(0,.yld 3 0),(1,.cptr [iv k,iv c,iv b,iv st,.list 1 (inR sz),.list 1 (inR bl),.list 1 (inR pl),.list 8 (aS ty)]),(2,.cptr [.list 3 (ofR of)]),(4,.hsl 5 0 0 n)]) (fun a s=>jE s.es s.lo s.hi (.lp L (bQ [iv k,iv c,iv b,iv st,.list 1 (inR sz),.list 1 (inR bl),.list 1 (inR pl),.list 8 (aS ty)] of cl) .ready none) (atI a)) (fun a s=>a.length=n∧okD bl n a∧stB s∧∃ p,dX of p shp0=some s∧eT sz bl pl x.ext (prS bl n) (List.replicate n 0)=p++eT sz bl pl x.ext (prS bl n - rkS bl a n) a) (fun a _=>prS bl n - rkS bl a n) (List.replicate n 0) shp0 ⟨List.length_replicate,fun i hi=>?_,v4,[],rfl,by rw[z7]; rfl⟩ ?_ ?_
 ·have:=(hbs i hi).2.2.1
  rw[show(List.replicate n 0).getD i 0=0 by simp[List.getD_eq_getElem?_getD,hi]]
  omega
 ·rw[BM]
  (apply Sub.to [2] [[(0,0)],[(1,0)],[(2,0)],[(3,0)],[(5,0)],[(4,0)]]; all_goals (repeat' (first | exact aE.nil | exact aB.nil | exact aF.nil | exact ToL.nil | exact ToR.nil | refine aE.cons ?_ ?_ | refine aB.cons ?_ ?_ | refine aP ?_ ?_ | exact To.undef _ | exact To.sc _ | exact To.hslL rfl rfl | exact To.asl _ _ _ _ _ _ _ rfl | refine To.ifc _ _ _ ?_ | exact To.ptrO rfl rfl rfl | exact To.mrefO rfl | exact To.nil rfl rfl rfl | exact wt1 | exact To.nilL | refine To.int ?_ | refine To.bool ?_ | refine To.hslL rfl ?_ | refine wt2 rfl ?_ ?_ ?_ | refine To.tupL ?_ | refine To.aggL ?_ | refine To.cptrL ?_ | refine To.fzp rfl rfl rfl ?_ | refine To.fzm rfl rfl ?_ | refine To.cloL ?_ ?_ | refine wt3 ?_ | refine wt4 ?_ | exact wt5 | refine wt6 ?_ | refine ToB.one ?_ | exact wt7 | ((with_reducible apply ToL.consE); case e9=>rfl) | refine wt8 ?_ | refine ToL.cons ?_ ?_ | exact wt11 | refine wt9 ?_ ?_ | refine wt12 ?_ | (with_reducible rfl) | assumption)); all_goals (first | rfl | assumption | (simp; done) | (simp; omega) | (rw[wrap_small (by omega) (by omega)]; done) | (rw[wrap_small (by omega) (by omega)]; omega) | (refine congrArg Nat.cast ?_; assumption) | skip))
  all_goals first | exact hlp _ _ _ _ rfl rfl rfl | exact .yld _ _ _ _ rfl | exact .dead _
 rintro a s0 ⟨hla,hoa,hs0,p,hp,hall⟩
 have hrk:=DD hoa
 obtain⟨F,hF⟩:∃ F,prS bl n - rkS bl a n=F+1:=⟨prS bl n - rkS bl a n - 1,by omega⟩
 rw[hF] at hall ⊢
 refine aA ?_
 have hal:=y9 a
 refine AWP.loop (fun q:Nat=>[(0,.yld 3 0),(1,.cptr [iv k,iv c,iv b,iv st,.list 1 (inR sz),.list 1 (inR bl),.list 1 (inR pl),.list 8 (aS ty)]),(2,.cptr [.list 3 (ofR of)]),(4,.hsl 5 0 0 n),(5,iv (iL sz pl a q)),(14,.list 1 (inR sz)),(15,iv n),(16,iv q)]) (fun _=>jE s0.es s0.lo s0.hi (.lp L (bQ [iv k,iv c,iv b,iv st,.list 1 (inR sz),.list 1 (inR bl),.list 1 (inR pl),.list 8 (aS ty)] of cl) .ready none) (atI a)) (fun q=>q≤n) (fun q=>n - q) 0 (Nat.zero_le _) ?_ ?_
 ·rw[← hsz,← hsl]
  (apply Sub.to [] [[(0,0)],[(1,0)],[(2,0)],[(3,0)],[(4,0)],[(5,0)]]; all_goals (repeat' (first | exact aE.nil | exact aB.nil | exact aF.nil | exact ToL.nil | exact ToR.nil | refine aE.cons ?_ ?_ | refine aB.cons ?_ ?_ | refine aP ?_ ?_ | exact To.undef _ | exact To.sc _ | exact To.hslL rfl rfl | exact To.asl _ _ _ _ _ _ _ rfl | refine To.ifc _ _ _ ?_ | exact To.ptrO rfl rfl rfl | exact To.mrefO rfl | exact To.nil rfl rfl rfl | exact wt1 | exact To.nilL | refine To.int ?_ | refine To.bool ?_ | refine To.hslL rfl ?_ | refine wt2 rfl ?_ ?_ ?_ | refine To.tupL ?_ | refine To.aggL ?_ | refine To.cptrL ?_ | refine To.fzp rfl rfl rfl ?_ | refine To.fzm rfl rfl ?_ | refine To.cloL ?_ ?_ | refine wt3 ?_ | refine wt4 ?_ | exact wt5 | refine wt6 ?_ | refine ToB.one ?_ | exact wt7 | ((with_reducible apply ToL.consE); case e9=>rfl) | refine wt8 ?_ | refine ToL.cons ?_ ?_ | exact wt11 | refine wt9 ?_ ?_ | refine wt12 ?_ | (with_reducible rfl) | assumption)); all_goals (first | rfl | assumption | (simp; done) | (simp; omega) | (rw[wrap_small (by omega) (by omega)]; done) | (rw[wrap_small (by omega) (by omega)]; omega) | (refine congrArg Nat.cast ?_; assumption) | skip))
  all_goals first | exact hlp _ _ _ _ rfl rfl rfl | exact .yld _ _ _ _ rfl | exact .dead _
 ·rintro q hq
  refine aA ?_
  refine AWP.condN (q < n) rfl rfl (fun h=>?_) (fun h=>?_)
  ·have r1:=bZ sz q (by omega)
   have r3:=bZ pl q (by omega)
   have r2:=AM (a:=a) (k:=q) (by omega)
   have e1:sz.getD q 0=sz[q]:=by simp[show q < sz.length by omega]
   have e3:pl.getD q 0=pl[q]:=by simp[show q < pl.length by omega]
   rw[← e1] at r1
   rw[← e3] at r3
   have hl1:=hlin a q hq
   have hl2:iL sz pl a (q+1)=_:=tN
   obtain⟨g1,g2,g3,g4,g5,g6⟩:=hbs q h
   have g7:=hoa q h
   generalize iL sz pl a q=u at *
   generalize sz.getD q 0=z at *
   generalize pl.getD q 0=pq at *
   generalize a.getD q 0=aq at *
   unfold huge at hl1 hl2
   have hw:=qK (a:=u) (b:=z) (A:=1099511627776) (B:=4096) (by omega) (by omega) (by omega) (by omega)
   refine aA ?_
   rw[Av.wrap_small (show -9223372036854775808≤u * z by omega) (by omega),Av.wrap_small (show -9223372036854775808≤u * z+pq by omega) (by omega),Av.wrap_small (show -9223372036854775808≤u * z+pq+(aq:Nat) by omega) (by omega)]
   refine DK.nil ⟨by kernel_rfl,?_⟩
   refine aA ?_
   refine⟨q+1,by omega,by omega,?_⟩
   (apply Sub.to [] [[(0,0)],[(1,0)],[(2,0)],[(3,0)],[(4,0)],[(5,0)]]; all_goals (repeat' (first | exact aE.nil | exact aB.nil | exact aF.nil | exact ToL.nil | exact ToR.nil | refine aE.cons ?_ ?_ | refine aB.cons ?_ ?_ | refine aP ?_ ?_ | exact To.undef _ | exact To.sc _ | exact To.hslL rfl rfl | exact To.asl _ _ _ _ _ _ _ rfl | refine To.ifc _ _ _ ?_ | exact To.ptrO rfl rfl rfl | exact To.mrefO rfl | exact To.nil rfl rfl rfl | exact wt1 | exact To.nilL | refine To.int ?_ | refine To.bool ?_ | refine To.hslL rfl ?_ | refine wt2 rfl ?_ ?_ ?_ | refine To.tupL ?_ | refine To.aggL ?_ | refine To.cptrL ?_ | refine To.fzp rfl rfl rfl ?_ | refine To.fzm rfl rfl ?_ | refine To.cloL ?_ ?_ | refine wt3 ?_ | refine wt4 ?_ | exact wt5 | refine wt6 ?_ | refine ToB.one ?_ | exact wt7 | ((with_reducible apply ToL.consE); case e9=>rfl) | refine wt8 ?_ | refine ToL.cons ?_ ?_ | exact wt11 | refine wt9 ?_ ?_ | refine wt12 ?_ | (with_reducible rfl) | assumption)); all_goals (first | rfl | assumption | (simp; done) | (simp; omega) | (rw[wrap_small (by omega) (by omega)]; done) | (rw[wrap_small (by omega) (by omega)]; omega) | (refine congrArg Nat.cast ?_; assumption) | skip))
   all_goals first | exact hlp _ _ _ _ rfl rfl rfl | exact .yld _ _ _ _ rfl | (rw[hl2]; omega)
  ·obtain rfl:n=q:=by omega
   have hl1:=hlin a n (Nat.le_refl _)
   rw[← hlS] at hl1 ⊢
   have hxs:eT sz bl pl x.ext (F+1) a=(0,FQ sz pl a * x.ext)::match rF bl n a with
    | some b=>eT sz bl pl x.ext F b
    | none=>[]:=by
    rw[eT,hsz]
    cases rF bl n a<;>rfl
   generalize FQ sz pl a=u at *
   unfold huge at hl1
   have hw:=qK (a:=u) (b:=x.ext) (A:=1099511627776) (B:=1048576) (by omega) (by omega) b5 b6
   rw[hxs] at hall
   have hinc:=vN n a (Nat.le_refl _) hla hoa
   generalize hxa:eT sz bl pl x.ext (prS bl n) (List.replicate n 0)=xs at *
   refine AWP.exit ?_
   refine AWP.seq ?_
   refine AWP.seq ?_
   refine AWP.rG rfl ?_
   refine aA ?_
   rw[Av.wrap_small (show -9223372036854775808≤u * x.ext by omega) (by omega)]
   refine⟨rfl,nlB rfl,3,0,rfl,?_⟩
   refine(mS (xs:=xs) (k:=0) ht hc hL (atI a) h0 hof hs0 (by omega) (by omega) hp ⟨_,by rw[hall,List.append_assoc]; rfl⟩).mono ?_
   rintro b' H' (⟨rfl,s',hm',hs',rfl⟩ | ⟨rfl,hno,b2',b3',rfl⟩)
   ·refine aA ?_
    refine AWP.loop2 (fun(kk:Nat) (_:List Nat)=>[(0,.yld 3 0),(1,.cptr [iv k,iv c,iv b,iv st,.list 1 (inR sz),.list 1 (inR bl),.list 1 (inR pl),.list 8 (aS ty)]),(2,.cptr [.list 3 (ofR of)]),(4,.hsl 5 0 0 n),(8,iv ((kk:Int) - 1))]) (fun _ a2=>jE s'.es s'.lo s'.hi (.lp L (bQ [iv k,iv c,iv b,iv st,.list 1 (inR sz),.list 1 (inR bl),.list 1 (inR pl),.list 8 (aS ty)] of cl) .ready none) (atI a2)) (fun kk a2=>kk≤n∧a2.length=n∧okD bl kk a2∧rF bl kk a2=rF bl n a) (fun kk _=>kk) n a ⟨Nat.le_refl _,hla,hoa,rfl⟩ ?_ ?_
    ·(apply Sub.to [] [[(0,0)],[(1,0)],[(2,0)],[(3,0)],[(6,0)],[(5,0)]]; all_goals (repeat' (first | exact aE.nil | exact aB.nil | exact aF.nil | exact ToL.nil | exact ToR.nil | refine aE.cons ?_ ?_ | refine aB.cons ?_ ?_ | refine aP ?_ ?_ | exact To.undef _ | exact To.sc _ | exact To.hslL rfl rfl | exact To.asl _ _ _ _ _ _ _ rfl | refine To.ifc _ _ _ ?_ | exact To.ptrO rfl rfl rfl | exact To.mrefO rfl | exact To.nil rfl rfl rfl | exact wt1 | exact To.nilL | refine To.int ?_ | refine To.bool ?_ | refine To.hslL rfl ?_ | refine wt2 rfl ?_ ?_ ?_ | refine To.tupL ?_ | refine To.aggL ?_ | refine To.cptrL ?_ | refine To.fzp rfl rfl rfl ?_ | refine To.fzm rfl rfl ?_ | refine To.cloL ?_ ?_ | refine wt3 ?_ | refine wt4 ?_ | exact wt5 | refine wt6 ?_ | refine ToB.one ?_ | exact wt7 | ((with_reducible apply ToL.consE); case e9=>rfl) | refine wt8 ?_ | refine ToL.cons ?_ ?_ | exact wt11 | refine wt9 ?_ ?_ | refine wt12 ?_ | (with_reducible rfl) | assumption)); all_goals (first | rfl | assumption | (simp; done) | (simp; omega) | (rw[wrap_small (by omega) (by omega)]; done) | (rw[wrap_small (by omega) (by omega)]; omega) | (refine congrArg Nat.cast ?_; assumption) | skip))
     all_goals first | exact hlp _ _ _ _ rfl rfl rfl | exact .yld _ _ _ _ rfl | exact Av.wrap_small (by omega) (by omega)
    rintro kk a2 ⟨hk,hl2,ho2,hi2⟩
    refine aA ?_
    refine AWP.condN (0 < kk) rfl (by simp; omega) (fun h5=>?_) (fun h5=>?_)
    ·obtain⟨q,rfl⟩:∃ q,kk=q+1:=⟨kk - 1,by omega⟩
     rw[show((q+1:Nat):Int) - 1=(q:Int) by omega]
     have r1:=bZ bl q (by omega)
     have e1:bl.getD q 0=bl[q]:=by simp[show q < bl.length by omega]
     rw[← e1] at r1
     have r2:=AM (a:=a2) (k:=q) (by omega)
     have hg:=hbs q (by omega)
     have hoq:=ho2 q (by omega)
     rw[rF] at hi2
     have hal2:=y9 a2
     refine aA ?_
     refine DK.o rfl (mW rfl rfl (List.getElem?_set_self (by rw[hal2]; omega)) rfl) ?_
     refine aA ?_
     refine DK.nil ⟨by kernel_rfl,?_⟩
     refine aA ?_
     refine AWP.condN (((a2.getD q 0:Nat):Int)+1 < bl.getD q 0) rfl (by simp) (fun h6=>?_) (fun h6=>?_)
     ·rw[if_pos h6] at hi2
      rw[← hi2] at hinc hall
      obtain⟨i1,i2,i3,i4⟩:=hinc
      have hlt:=DD i3
      refine aA ?_
      refine⟨a2.set q (a2.getD q 0+1),s',⟨i1,i3,hs',p++[(0,u * x.ext)],hm',by rw[hall,List.append_assoc,show prS bl n - rkS bl (a2.set q (a2.getD q 0+1)) n=F by omega]; rfl⟩,by omega,?_⟩
      (apply Sub.to [] [[(0,0)],[(1,0)],[(2,0)],[(3,0)],[(4,0)],[(5,0)]]; all_goals (repeat' (first | exact aE.nil | exact aB.nil | exact aF.nil | exact ToL.nil | exact ToR.nil | refine aE.cons ?_ ?_ | refine aB.cons ?_ ?_ | refine aP ?_ ?_ | exact To.undef _ | exact To.sc _ | exact To.hslL rfl rfl | exact To.asl _ _ _ _ _ _ _ rfl | refine To.ifc _ _ _ ?_ | exact To.ptrO rfl rfl rfl | exact To.mrefO rfl | exact To.nil rfl rfl rfl | exact wt1 | exact To.nilL | refine To.int ?_ | refine To.bool ?_ | refine To.hslL rfl ?_ | refine wt2 rfl ?_ ?_ ?_ | refine To.tupL ?_ | refine To.aggL ?_ | refine To.cptrL ?_ | refine To.fzp rfl rfl rfl ?_ | refine To.fzm rfl rfl ?_ | refine To.cloL ?_ ?_ | refine wt3 ?_ | refine wt4 ?_ | exact wt5 | refine wt6 ?_ | refine ToB.one ?_ | exact wt7 | ((with_reducible apply ToL.consE); case e9=>rfl) | refine wt8 ?_ | refine ToL.cons ?_ ?_ | exact wt11 | refine wt9 ?_ ?_ | refine wt12 ?_ | (with_reducible rfl) | assumption)); all_goals (first | rfl | assumption | (simp; done) | (simp; omega) | (rw[wrap_small (by omega) (by omega)]; done) | (rw[wrap_small (by omega) (by omega)]; omega) | (refine congrArg Nat.cast ?_; assumption) | skip))
      all_goals first | exact hlp _ _ _ _ rfl rfl rfl | exact .yld _ _ _ _ rfl | exact z8
     ·rw[if_neg h6] at hi2
      refine aA ?_
      refine Reg.on rfl (nR rfl rfl rfl (List.getElem?_set_self (by rw[hal2]; omega)) (by simp) rfl) ?_
      refine aA ?_
      refine⟨q,a2.set q 0,⟨by omega,by rw[List.length_set]; exact hl2,fun i hi'=>by rw[eI (by omega),if_neg (by omega)]; exact ho2 i (by omega),hi2⟩,by omega,?_⟩
      (apply Sub.to [] [[(0,0)],[(1,0)],[(2,0)],[(3,0)],[(4,0)],[(5,0)]]; all_goals (repeat' (first | exact aE.nil | exact aB.nil | exact aF.nil | exact ToL.nil | exact ToR.nil | refine aE.cons ?_ ?_ | refine aB.cons ?_ ?_ | refine aP ?_ ?_ | exact To.undef _ | exact To.sc _ | exact To.hslL rfl rfl | exact To.asl _ _ _ _ _ _ _ rfl | refine To.ifc _ _ _ ?_ | exact To.ptrO rfl rfl rfl | exact To.mrefO rfl | exact To.nil rfl rfl rfl | exact wt1 | exact To.nilL | refine To.int ?_ | refine To.bool ?_ | refine To.hslL rfl ?_ | refine wt2 rfl ?_ ?_ ?_ | refine To.tupL ?_ | refine To.aggL ?_ | refine To.cptrL ?_ | refine To.fzp rfl rfl rfl ?_ | refine To.fzm rfl rfl ?_ | refine To.cloL ?_ ?_ | refine wt3 ?_ | refine wt4 ?_ | exact wt5 | refine wt6 ?_ | refine ToB.one ?_ | exact wt7 | ((with_reducible apply ToL.consE); case e9=>rfl) | refine wt8 ?_ | refine ToL.cons ?_ ?_ | exact wt11 | refine wt9 ?_ ?_ | refine wt12 ?_ | (with_reducible rfl) | assumption)); all_goals (first | rfl | assumption | (simp; done) | (simp; omega) | (rw[wrap_small (by omega) (by omega)]; done) | (rw[wrap_small (by omega) (by omega)]; omega) | (refine congrArg Nat.cast ?_; assumption) | skip))
      all_goals first | exact hlp _ _ _ _ rfl rfl rfl | exact .yld _ _ _ _ rfl | (rw[List.set_set]; exact z8)
    ·obtain rfl:kk=0:=by omega
     rw[show rF bl 0 a2=none from rfl] at hi2
     rw[← hi2] at hall
     refine aA ?_
     refine gI (res':=.tup []) (H2:=putK s'.es s'.lo s'.hi (.lp L (bQ [iv k,iv c,iv b,iv st,.list 1 (inR sz),.list 1 (inR bl),.list 1 (inR pl),.list 8 (aS ty)] of cl) .ready none)) [[(0,0)],[(1,0)],[(2,0)],[(3,0)],[(4,0)]] (.inr rfl) rfl (.inl ⟨s',by rw[hall]; exact hm',hs',rfl⟩) ?_ ?_ rfl rfl rfl
     ((all_goals (repeat' (first | exact aE.nil | exact aB.nil | exact aF.nil | exact ToL.nil | exact ToR.nil | refine aE.cons ?_ ?_ | refine aB.cons ?_ ?_ | refine aP ?_ ?_ | exact To.undef _ | exact To.sc _ | exact To.hslL rfl rfl | exact To.asl _ _ _ _ _ _ _ rfl | refine To.ifc _ _ _ ?_ | exact To.ptrO rfl rfl rfl | exact To.mrefO rfl | exact To.nil rfl rfl rfl | exact wt1 | exact To.nilL | refine To.int ?_ | refine To.bool ?_ | refine To.hslL rfl ?_ | refine wt2 rfl ?_ ?_ ?_ | refine To.tupL ?_ | refine To.aggL ?_ | refine To.cptrL ?_ | refine To.fzp rfl rfl rfl ?_ | refine To.fzm rfl rfl ?_ | refine To.cloL ?_ ?_ | refine wt3 ?_ | refine wt4 ?_ | exact wt5 | refine wt6 ?_ | refine ToB.one ?_ | exact wt7 | ((with_reducible apply ToL.consE); case e9=>rfl) | refine wt8 ?_ | refine ToL.cons ?_ ?_ | exact wt11 | refine wt9 ?_ ?_ | refine wt12 ?_ | (with_reducible rfl) | assumption)); all_goals (first | rfl | assumption | (simp; done) | (simp; omega) | (rw[wrap_small (by omega) (by omega)]; done) | (rw[wrap_small (by omega) (by omega)]; omega) | (refine congrArg Nat.cast ?_; assumption) | skip)))
     all_goals first | exact hlp _ _ _ _ rfl rfl rfl | exact .yld _ _ _ _ rfl | exact .dead _
   ·refine aA ?_
    refine gI (res':=.tup []) (H2:=BG (.lp L (bQ [iv k,iv c,iv b,iv st,.list 1 (inR sz),.list 1 (inR bl),.list 1 (inR pl),.list 8 (aS ty)] of cl) .done (some .ret))) [[(0,0)],[(1,0)],[(2,0)],[(3,0)]] (.inr rfl) rfl (.inr ⟨hno,rfl⟩) ?_ ?_ rfl rfl rfl
    ((all_goals (repeat' (first | exact aE.nil | exact aB.nil | exact aF.nil | exact ToL.nil | exact ToR.nil | refine aE.cons ?_ ?_ | refine aB.cons ?_ ?_ | refine aP ?_ ?_ | exact To.undef _ | exact To.sc _ | exact To.hslL rfl rfl | exact To.asl _ _ _ _ _ _ _ rfl | refine To.ifc _ _ _ ?_ | exact To.ptrO rfl rfl rfl | exact To.mrefO rfl | exact To.nil rfl rfl rfl | exact wt1 | exact To.nilL | refine To.int ?_ | refine To.bool ?_ | refine To.hslL rfl ?_ | refine wt2 rfl ?_ ?_ ?_ | refine To.tupL ?_ | refine To.aggL ?_ | refine To.cptrL ?_ | refine To.fzp rfl rfl rfl ?_ | refine To.fzm rfl rfl ?_ | refine To.cloL ?_ ?_ | refine wt3 ?_ | refine wt4 ?_ | exact wt5 | refine wt6 ?_ | refine ToB.one ?_ | exact wt7 | ((with_reducible apply ToL.consE); case e9=>rfl) | refine wt8 ?_ | refine ToL.cons ?_ ?_ | exact wt11 | refine wt9 ?_ ?_ | refine wt12 ?_ | (with_reducible rfl) | assumption)); all_goals (first | rfl | assumption | (simp; done) | (simp; omega) | (rw[wrap_small (by omega) (by omega)]; done) | (rw[wrap_small (by omega) (by omega)]; omega) | (refine congrArg Nat.cast ?_; assumption) | skip)))
    all_goals first | exact hlp _ _ _ _ rfl rfl rfl | exact .yld _ _ _ _ rfl | exact .dead _
variable {k c b st:Int} {sz bl pl:List Int} {ty:List Ty} {of:List Shp}
def mkC (tc:List AV) (of:List Shp) (it:Nat):AV:=.clo (.func it) [] [.cptr tc,.cptr [.list 3 (ofR of)]]
def Mk (mv it:Nat):Prop:=∀(k c b st:Int) (sz bl pl:List Int) (ty:List Ty) (of:List Shp),aC Tryz.prog mv [.agg [iv k,iv c,iv b,iv st,.list 1 (inR sz),.list 1 (inR bl),.list 1 (inR pl),.list 8 (aS ty)],.list 3 (ofR of)] (mkC [iv k,iv c,iv b,iv st,.list 1 (inR sz),.list 1 (inR bl),.list 1 (inR pl),.list 8 (aS ty)] of it)
theorem rZ:Mk 184 204:=fun k c b st sz bl pl ty of=>by
 refine aC.mkI (hX:=by unfold mkC; infer_instance) IE (nlB rfl) ?_
 unfold mkC
 refine aA ?_
 exact aJ.w
theorem CF:Mk 186 205:=fun k c b st sz bl pl ty of=>by
 refine aC.mkI (hX:=by unfold mkC; infer_instance) II (nlB rfl) ?_
 unfold mkC
 refine aA ?_
 exact aJ.w
theorem yZ:Mk 188 207:=fun k c b st sz bl pl ty of=>by
 refine aC.mkI (hX:=by unfold mkC; infer_instance) IS (nlB rfl) ?_
 unfold mkC
 refine aA ?_
 exact aJ.w
theorem rL:Mk 189 208:=fun k c b st sz bl pl ty of=>by
 refine aC.mkI (hX:=by unfold mkC; infer_instance) I2 (nlB rfl) ?_
 unfold mkC
 refine aA ?_
 exact aJ.w
theorem wM:Mk 192 209:=fun k c b st sz bl pl ty of=>by
 refine aC.mkI (hX:=by unfold mkC; infer_instance) IT (nlB rfl) ?_
 unfold mkC
 refine aA ?_
 exact aJ.w
theorem DW (es:List (Int×Int)) (hne:es≠[]) (hb:∀ y∈es,-big≤y.2∧y.2≤big):-big≤(bT es).1∧(bT es).1≤big∧-big≤(bT es).2∧(bT es).2≤big+8:=by
 have key:∀(l:List (Int×Int)) (p:Int×Int),(∀ y∈l,-big≤y.2∧y.2≤big)→(-big≤p.1∧p.1≤big∧-big≤p.2∧p.2≤big+8)→(-big≤(l.foldl tiF p).1∧(l.foldl tiF p).1≤big∧-big≤(l.foldl tiF p).2∧(l.foldl tiF p).2≤big+8):=by
  intro l
  induction l with
  | nil=>exact fun p _ h=>h
  | cons x l ih=>
   intro p hl hp
   have hx:=hl x (by simp)
   have hs:=fT x.1
   refine ih (tiF p x) (fun y hy=>hl y (by simp[hy])) ?_
   unfold tiF big at *
   simp only
   omega
 have h0:-big≤(es.headD (0,0)).2∧(es.headD (0,0)).2≤big:=by
  cases es with
  | nil=>exact absurd rfl hne
  | cons x r=>exact hb x (by simp)
 exact key es _ hb ⟨h0.1,h0.2,h0.1,by show(es.headD (0,0)).2≤big+8; omega⟩
def oK (es:List (Int×Int)) (lo hi:Int):Heap:=[[.cells 3 [r0S]],[.cells 1 [[iv 0]]],[.cells 3 [[.hsl 4 0 0 es.length,iv lo,iv hi]]],[.dead],[.cells 2 (enR es)]]
noncomputable def KT:bK:=iH [1,1,1,1] F165.code
set_option maxHeartbeats 1000000 in
theorem uV {es:List (Int×Int)} {lo hi:Int} (hne:es≠[]) (hn:es.length≤4096) (hb:∀ y∈es,-big≤y.2∧y.2≤big) (hlo:-big≤lo∧lo≤big) (hhi:-big≤hi∧hi≤big):
  AWP Tryz.prog F165.n 0 KT (aJ F165.res (.tup [.agg (if okS ⟨es,lo,hi⟩=true then shR ⟨es,lo,hi⟩ else shR shp0),iv (if okS ⟨es,lo,hi⟩=true then 0 else 3)])) [(6,.ptr 0 0 0 0),(7,.ptr 1 0 0 0),(8,.ptr 2 0 0 0)] (oK es lo hi):=by
 have ht:=DV es hne (by omega) hb
 have htb:=DW es hne hb
 have hpl:i9 (.tup [iv (bT es).1,iv (bT es).2]):=.tup _ fun c hc=>by
  simp only[List.mem_cons,List.not_mem_nil,or_false] at hc
  rcases hc with h | h<;>subst h<;>exact .sc _
 have hen:=cO es
 unfold big at *
 have hex:aC Tryz.prog 73 [.agg [.list 2 (enR es),iv lo,iv hi]] (iv (hi - lo)):=dO ⟨es,lo,hi⟩ (by show _≤lo; omega) (by show lo≤_; omega) (by show _≤hi; omega) (by show hi≤_; omega)
 have hok:okS ⟨es,lo,hi⟩=iU [lo,hi,hi - lo,(bT es).1,(bT es).2,(bT es).2 - (bT es).1] (-mP) mP:=by
  unfold okS iU
  simp only[List.all_cons,List.all_nil,Bool.and_true,Bool.and_assoc]
  rfl
 rw[hok]
 generalize hl6:([lo,hi,hi - lo,(bT es).1,(bT es).2,(bT es).2 - (bT es).1]:List Int)=l6
 have hl6n:l6.length=6:=by rw[← hl6]; rfl
 have hil:=bD l6
 show AWP _ _ _ (.seq _ _) _ _ _
 refine aA ?_
 (refine Reg.pv (by first | exact Nat.zero_le _ | exact Nat.le_refl _ | (simp; done) | (simp; omega)) rfl ht (by first | exact .sc _ | (exact .agg _ (fun c hc=>by simp at hc; rcases hc with h | h<;>subst h<;>exact .sc _)) | assumption) ?vw9 ?_; case vw9=>((all_goals (repeat' (first | exact aE.nil | exact aB.nil | exact aF.nil | exact ToL.nil | exact ToR.nil | refine aE.cons ?_ ?_ | refine aB.cons ?_ ?_ | refine aP ?_ ?_ | exact To.undef _ | exact To.sc _ | exact To.hslL rfl rfl | exact To.asl _ _ _ _ _ _ _ rfl | refine To.ifc _ _ _ ?_ | exact To.ptrO rfl rfl rfl | exact To.mrefO rfl | exact To.nil rfl rfl rfl | exact wt1 | exact To.nilL | refine To.int ?_ | refine To.bool ?_ | refine To.hslL rfl ?_ | refine wt2 rfl ?_ ?_ ?_ | refine To.tupL ?_ | refine To.aggL ?_ | refine To.cptrL ?_ | refine To.fzp rfl rfl rfl ?_ | refine To.fzm rfl rfl ?_ | refine To.cloL ?_ ?_ | refine wt3 ?_ | refine wt4 ?_ | exact wt5 | refine wt6 ?_ | refine ToB.one ?_ | exact wt7 | ((with_reducible apply ToL.consE); case e9=>rfl) | refine wt8 ?_ | refine ToL.cons ?_ ?_ | exact wt11 | refine wt9 ?_ ?_ | refine wt12 ?_ | (with_reducible rfl) | assumption)); all_goals (first | rfl | assumption | (simp; done) | (simp; omega)))))
 refine cK ?_
 refine AWP.sub (fr':=[(6,.ptr 0 0 0 0),(7,.ptr 1 0 0 0),(8,.cptr [.list 2 (enR es),iv lo,iv hi]),(19,iv (bT es).1),(20,iv (bT es).2)]) (H':=[[.cells 3 [r0S]],[.cells 1 [[iv 0]]]]) ?_ ?_
 ·(apply Sub.to [] [[(0,0)],[(1,0)]]; all_goals (repeat' (first | exact aE.nil | exact aB.nil | exact aF.nil | exact ToL.nil | exact ToR.nil | refine aE.cons ?_ ?_ | refine aB.cons ?_ ?_ | refine aP ?_ ?_ | exact To.undef _ | exact To.sc _ | exact To.hslL rfl rfl | exact To.asl _ _ _ _ _ _ _ rfl | refine To.ifc _ _ _ ?_ | exact To.ptrO rfl rfl rfl | exact To.mrefO rfl | exact To.nil rfl rfl rfl | exact wt1 | exact To.nilL | refine To.int ?_ | refine To.bool ?_ | refine To.hslL rfl ?_ | refine wt2 rfl ?_ ?_ ?_ | refine To.tupL ?_ | refine To.aggL ?_ | refine To.cptrL ?_ | refine To.fzp rfl rfl rfl ?_ | refine To.fzm rfl rfl ?_ | refine To.cloL ?_ ?_ | refine wt3 ?_ | refine wt4 ?_ | exact wt5 | refine wt6 ?_ | refine ToB.one ?_ | exact wt7 | ((with_reducible apply ToL.consE); case e9=>rfl) | refine wt8 ?_ | refine ToL.cons ?_ ?_ | exact wt11 | refine wt9 ?_ ?_ | refine wt12 ?_ | (with_reducible rfl) | assumption)); all_goals (first | rfl | assumption | (simp; done) | (simp; omega) | (rw[wrap_small (by omega) (by omega)]; done) | (rw[wrap_small (by omega) (by omega)]; omega) | (refine congrArg Nat.cast ?_; assumption) | skip))
 refine aA ?_
 rw[Av.wrap_small (show -9223372036854775808≤(bT es).2 - (bT es).1 by omega) (by omega)]
 refine aA ?_
 refine DK.nil ⟨by kernel_rfl,?_⟩
 refine aA ?_
 refine AWP.loop (fun i:Nat=>[(6,.ptr 0 0 0 0),(7,.ptr 1 0 0 0),(8,.cptr [.list 2 (enR es),iv lo,iv hi]),(156,.list 1 (inR l6)),(157,iv 6),(158,iv i)]) (fun _=>[[.cells 3 [r0S]],[.cells 1 [[iv 0]]]]) (fun i=>i≤6∧∀ j (h:j < l6.length),j < i→aK l6[j] (-mP) mP=true) (fun i=>6 - i) 0 ⟨Nat.zero_le _,fun j _ hj=>by omega⟩ ?_ ?_
 ·rw[← hl6]
  (apply Sub.to [] [[(0,0)],[(1,0)]]; all_goals (repeat' (first | exact aE.nil | exact aB.nil | exact aF.nil | exact ToL.nil | exact ToR.nil | refine aE.cons ?_ ?_ | refine aB.cons ?_ ?_ | refine aP ?_ ?_ | exact To.undef _ | exact To.sc _ | exact To.hslL rfl rfl | exact To.asl _ _ _ _ _ _ _ rfl | refine To.ifc _ _ _ ?_ | exact To.ptrO rfl rfl rfl | exact To.mrefO rfl | exact To.nil rfl rfl rfl | exact wt1 | exact To.nilL | refine To.int ?_ | refine To.bool ?_ | refine To.hslL rfl ?_ | refine wt2 rfl ?_ ?_ ?_ | refine To.tupL ?_ | refine To.aggL ?_ | refine To.cptrL ?_ | refine To.fzp rfl rfl rfl ?_ | refine To.fzm rfl rfl ?_ | refine To.cloL ?_ ?_ | refine wt3 ?_ | refine wt4 ?_ | exact wt5 | refine wt6 ?_ | refine ToB.one ?_ | exact wt7 | ((with_reducible apply ToL.consE); case e9=>rfl) | refine wt8 ?_ | refine ToL.cons ?_ ?_ | exact wt11 | refine wt9 ?_ ?_ | refine wt12 ?_ | (with_reducible rfl) | assumption)); all_goals (first | rfl | assumption | (simp; done) | (simp; omega) | (rw[wrap_small (by omega) (by omega)]; done) | (rw[wrap_small (by omega) (by omega)]; omega) | (refine congrArg Nat.cast ?_; assumption) | skip))
 rintro i ⟨hi6,hin⟩
 refine aA ?_
 refine AWP.condN (i < 6) rfl (by first | rfl | (simp; done) | (simp; omega)) (fun h=>?_) (fun h=>?_)
 ·have r1:=bZ l6 i (by omega)
  have w:=cL l6[i] (-1048576) 1048576
  cases hw:aK l6[i] (-1048576) 1048576 with
  | true=>
   rw[hw] at w
   refine aA ?_
   refine⟨i+1,⟨by omega,fun j hj hji=>?_⟩,by omega,?_⟩
   ·by_cases e:j=i
    ·subst e; exact hw
    ·exact hin j hj (by omega)
   (refine Sub.keep ?_; repeat' (first | exact trivial | exact Le.refl _ | refine⟨?_,?_⟩))
  | false=>
   rw[hw] at w
   have e1:iU l6 (-mP) mP=false:=List.all_eq_false.2 ⟨l6[i],List.getElem_mem _,by simp[show aK l6[i] (-mP) mP=false from hw]⟩
   rw[e1]
   refine aA ?_
   exact aJ.w
 ·have e1:iU l6 (-mP) mP=true:=List.all_eq_true.2 fun n hn=>by
   obtain⟨j,hj,rfl⟩:=List.getElem_of_mem hn
   exact hin j hj (by omega)
  rw[e1]
  refine aA ?_
  exact aJ.w
end Go.Proofs.YtgdocflpobncmaaGreat
