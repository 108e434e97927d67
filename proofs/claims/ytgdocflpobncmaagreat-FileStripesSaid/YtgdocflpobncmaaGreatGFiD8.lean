import Derived.Test.YtgdocflpobncmaaGreatGFiD3
import Derived.Test.YtgdocflpobncmaaGreatGFiB1
namespace Go.Proofs.YtgdocflpobncmaaGreat
open Go.Av Go.Proofs
set_option maxRecDepth 20000
variable {b:Bk} {s:Sto} {c:Nat}
def zL (l:List Nat) (x:Nat):List Nat:=if l.contains x=true then l else l++[x]
def mZ (size:Nat) (s:Sto) (x:Nat×Nat):Sto:={ s with bytes:=s.bytes.set x.1 x.2,ch:=zL s.ch (x.1 / size) }
def pH (size:Nat) (s:Sto) (l:List (Nat×Nat)):Sto:=l.foldl (mZ size) s
theorem FR (size:Nat) (s:Sto) (l:List (Nat×Nat)) (x:Nat×Nat):pH size s (l++[x])=mZ size (pH size s l) x:=by simp[pH]
theorem B4 (size:Nat):∀(l:List (Nat×Nat)) (s:Sto),(pH size s l).bytes.length=s.bytes.length
 | [],_=>rfl
 | x::l,s=>by
  show(pH size (mZ size s x) l).bytes.length=_
  rw[B4 size l]
  exact List.length_set
theorem vM (q:Nat):∀(l:List Nat),fU .i64 (q:Int) (chE l)=some (if l.contains q=true then some (.sc (.bool true)) else none)
 | []=>rfl
 | x::l=>by
  show(match decide (IntKind.i64=IntKind.i64) with
   | true=>match decide ((q:Int)=(x:Int)) with
    | true=>some (some (AV.sc (.bool true)))
    | false=>fU .i64 (q:Int) (chE l)
   | false=>none)=_
  rw[dTr (rfl:IntKind.i64=IntKind.i64)]
  by_cases h:(q:Int)=(x:Int)
  ·rw[dTr h]
   have:q=x:=by omega
   subst this
   simp
  ·rw[dFa h]
   have hne:q≠x:=by omega
   show fU .i64 (q:Int) (chE l)=_
   rw[vM q l]
   simp[hne]
theorem y9 (q:Int):∀(l:List Nat),tV q (.sc (.bool true)) (chE l)=chE l
 | []=>rfl
 | x::l=>by
  show(match decide (q=(x:Int)) with
   | true=>(Value.int .i64 (x:Int),AV.sc (.bool true))::chE l
   | false=>(Value.int .i64 (x:Int),AV.sc (.bool true))::tV q (.sc (.bool true)) (chE l))=_
  cases decide (q=(x:Int)) with
  | true=>rfl
  | false=>show _::tV q _ (chE l)=_; rw[y9 q l]; rfl
theorem KN {l:List Nat} {p v:Nat}:(byR l).set p [.sc (.int .u8 (v:Nat))]=byR (l.set p v):=by
 unfold byR
 rw[List.map_set]
theorem EV {g i:Nat} {fr:Fr} {H:Heap} {a x:Operand} {g' i' p v:Nat} {l:List Nat} (ha:ev fr a=.ptr g' i' p 0) (hx:ev fr x=.sc (.int .u8 (v:Nat))) (hh:hget H g' i'=some (.cells 1 (byR l))) (hp:p < l.length):
  aC g i (.store 1 a x) fr H=some (.undef,aJ H g' i' (.cells 1 (byR (l.set p v)))):=by
 have hr:(byR l)[p]?=some [.sc (.int .u8 (l[p]:Nat))]:=by unfold byR; rw[List.getElem?_map,gEg hp]; rfl
 rw[dS ha (by rw[hx]; rfl) hh hr (by simp) rfl]
 show some (AV.undef,aJ H g' i' (.cells 1 ((byR l).set p [.sc (.int .u8 (v:Nat))])))=_
 rw[KN]
theorem AR {g i:Nat} {fr:Fr} {H:Heap} {m ix x:Operand} {g' i' q:Nat} {l:List Nat} (hm:ev fr m=.mref g' i') (hi:ev fr ix=.sc (.int .i64 (q:Nat))) (hx:ev fr x=.sc (.bool true)) (hh:hget H g' i'=some (.map (chE l))):
  aC g i (.mapUpdate .i64 m ix x) fr H=some (.undef,aJ H g' i' (.map (chE (zL l q)))):=by
 simp only[aC,hm,hi,hh,decide_true,vM,hx]
 unfold zL
 cases hc:l.contains q with
 | true=>
  simp only[if_true]
  rw[y9]
 | false=>
  simp only[Bool.false_eq_true,if_false]
  rw[show chE (l++[q])=chE l++[(.int .i64 (q:Int),.sc (.bool true))] by simp[chE]]
def wrF (l:List (Int×Int)) (d:List Nat) (size:Nat):Fr:=[(3,.cptr [.ptr 7 0 0 0]),(5,.cptr [.list 1 (byR d)]),(11,.cptr [.sc (.int .i64 (size:Nat))]),(12,.ptr 8 0 0 0),(43,.clo (.func 138) [] [.cptr [.list 2 (eB l)]])]
def wrT (s:Sto) (l:List (Int×Int)) (d:List Nat) (size j:Nat):Sto:=pH size s (((plL l).zip d).take j)
def wrG (b:Bk) (s:Sto) (l:List (Int×Int)) (d:List Nat) (size:Nat) (L:LC) (j:Nat):Heap:=stH b (wrT s l d size j) [[.cells 1 [[.sc (.int .i64 (j:Nat))]]],[.lp L (wrF l d size) .ready none]]
theorem HY {T:AV→AV→Prop} {ρ:Nat→Nat→Option (Nat×Nat)} {l:List (Int×Int)} {d:List Nat} {size:Nat} {L:LC} {st:LoopState} (r7:ρ 7 0=some (7,0)) (r8:ρ 8 0=some (8,0)):ToB T ρ (.lp L (wrF l d size) st none) (.lp L (wrF l d size) st none):=by
 refine ToB.lp _ _ _ _ _ fun x hx=>?_
 simp only[wrF,List.mem_cons,List.not_mem_nil,or_false] at hx
 rcases hx with rfl | rfl | rfl | rfl | rfl
 ·exact To.cptrL (ToL.cons (To.ptrO r7 rfl rfl) ToL.nil)
 ·exact To.pure (pv (AV.cptr [.list 1 (byR d)]))
 ·exact To.pure (pv (AV.cptr [.sc (.int .i64 (size:Nat))]))
 ·exact To.ptrO r8 rfl rfl
 ·exact To.pure (pv (AV.clo (.func 138) [] [.cptr [.list 2 (eB l)]]))
set_option maxHeartbeats 4000000 in
theorem z8 (l:List (Int×Int)) (d:List Nat) (size:Nat) (hz:0 < size) (hl:∀ x∈l,okX s.bytes.length x) (hn:l.length≤1000000) (hp:(plL l).length=d.length) (hd:d.length≤1000000) (hr:s.bytes.length≤1000000) (L:LC)
  (hL:LOK Tryz.prog 64 L [44] (.region [⟨some 13,none,.op (.move (.tmp 44))⟩]) (.block 2 (.seq (.draw [⟨some 45,none,.op (.load 1 false (.tmp 3))⟩,⟨some 46,none,.op (.mop (.nilM nT) [(.tmp 45)])⟩,⟨some 47,none,.op (.fieldAddr 261 (.tmp 46))⟩,⟨some 48,none,.op (.load 1 false (.tmp 47))⟩,⟨some 49,none,.op (.move (.tmp 13))⟩,⟨some 50,none,.op (.load 1 false (.tmp 5))⟩,⟨some 51,none,.op (.load 1 false (.tmp 12))⟩,⟨some 52,none,.op (.idxSl 1 (.tmp 50) (.tmp 51))⟩,⟨some 53,none,.op (.load 1 false (.tmp 52))⟩,⟨some 54,none,.op (.idxSl 1 (.tmp 48) (.tmp 49))⟩,⟨none,none,.op (.store 1 (.tmp 54) (.tmp 53))⟩] [[],[0],[1],[2],[],[],[],[5,6],[7],[3,4,0,1,2,3,4,5,6,7,8],[9,8,0,1,2,3,4,5,6,7,8]]) (.seq (.draw [⟨some 55,none,.op (.load 1 false (.tmp 3))⟩,⟨some 56,none,.op (.mop (.nilM nT) [(.tmp 55)])⟩,⟨some 57,none,.op (.fieldAddr 262 (.tmp 56))⟩,⟨some 58,none,.op (.load 1 false (.tmp 57))⟩,⟨some 59,none,.op (.move (.tmp 13))⟩,⟨some 60,none,.op (.load 1 false (.tmp 11))⟩,⟨some 61,none,.op (.bin .quo 3 (.tmp 59) (.tmp 60))⟩,⟨none,none,.op (.mapUpdate .i64 (.tmp 58) (.tmp 61) (.const (.bool true)))⟩] [[],[0],[1],[2],[],[],[4,5],[3,6,0,1,2,3,4,5,6]]) (.region [⟨some 62,none,.op (.load 1 false (.tmp 12))⟩,⟨some 63,none,.op (.bin .add 3 (.tmp 62) (.const (.int .i64 1)))⟩,⟨none,none,.op (.store 1 (.tmp 12) (.tmp 63))⟩]))))):
  aD Tryz.prog 138 [.yld 9 0,.cptr [.list 2 (eB l)]] (wrG b s l d size L 0) fun _ H'=>H'=wrG b s l d size L (plL l).length:=by
 refine aD.of HA ?_ (nlB rfl)
 have hsl:=rA l
 refine aB ?_
 refine AWP.loop (fun i:Nat=>[(0,.yld 9 0),(6,.list 2 (eB l)),(7,.sc (.int .i64 (l.length:Nat))),(8,.sc (.int .i64 (i:Nat)))]) (fun i=>wrG b s l d size L (plL (l.take i)).length) (fun i=>i≤l.length) (fun i=>l.length - i) 0 (Nat.zero_le _) ?_ ?_
 ·rw[← hsl]
  (refine Sub.keep ?_; repeat' (first | exact trivial | exact Le.refl _ | refine⟨?_,?_⟩))
 rintro i hi
 refine aB ?_
 refine AWP.condN (i < l.length) rfl (by rfl) (fun h=>?_) (fun h=>?_)
 ·have hrow:=qG l i h
  have hx:=hl l[i] (List.getElem_mem _)
  have hsn:plL (l.take (i+1))=plL (l.take i)++plX l[i]:=by
   rw[List.take_add_one,gEg h]
   exact xR _ _
  have hall:plL l=plL (l.take i)++(plX l[i]++plL (l.drop (i+1))):=by
   conv=>lhs; rw[← List.take_append_drop (i+1) l]
   unfold plL at hsn ⊢
   rw[List.flatMap_append,hsn,List.append_assoc]
  have hat0:∀ q,q < l[i].2.toNat→(plL l)[(plL (l.take i)).length+q]?=some (l[i].1.toNat+q):=fun q hq=>by
   rw[hall,List.getElem?_append_right (by omega),Nat.add_sub_cancel_left,List.getElem?_append_left (by rw[nC]; exact hq)]
   simp[plX,hq]
  have hnx:(plL (l.take (i+1))).length=(plL (l.take i)).length+l[i].2.toNat:=by rw[hsn,List.length_append,nC]
  have hle:(plL (l.take i)).length+l[i].2.toNat≤d.length:=by
   rw[← hp,hall,List.length_append,List.length_append,nC]
   omega
  generalize l[i]=x at *
  obtain⟨at',len⟩:=x
  obtain⟨h1,h2,h3⟩:=hx
  replace h1:0≤len:=h1
  replace h2:len≤1000000:=h2
  replace h3:0 < len→0≤at'∧at'+len≤s.bytes.length:=h3
  obtain⟨m,rfl⟩:∃ m:Nat,len=(m:Int):=⟨len.toNat,by omega⟩
  obtain⟨j0,hj0⟩:∃ j0,j0=(plL (l.take i)).length:=⟨_,rfl⟩
  rw[← hj0] at hat0 hle hnx ⊢
  replace hle:j0+m≤d.length:=hle
  replace hat0:∀ q,q < m→(plL l)[j0+q]?=some (at'.toNat+q):=hat0
  replace hnx:(plL (l.take (i+1))).length=j0+m:=hnx
  unfold wrG
  refine d5 ?_
  refine AWP.loop (fun q:Nat=>[(0,.yld 9 0),(4,.cptr [.sc (.int .i64 at'),.sc (.int .i64 (m:Nat))]),(6,.list 2 (eB l)),(7,.sc (.int .i64 (l.length:Nat))),(8,.sc (.int .i64 (i:Nat))),(13,.sc (.int .i64 (m:Nat))),(14,.sc (.int .i64 (q:Nat)))]) (fun q=>wrG b s l d size L (j0+q)) (fun q=>q≤m) (fun q=>m - q) 0 (Nat.zero_le _) ?_ ?_
  ·refine Sub.bk [] [[(4,0)],[(5,0)],[(6,0)],[(7,0)],[(8,0)],[(9,0)]] [] ?_ ?_
   ·((all_goals (repeat' (first | exact aO.nil | exact aI.nil | exact bD.nil | exact ToL.nil | exact ToR.nil | refine aO.cons ?_ ?_ | refine aI.cons ?_ ?_ | refine f8 ?_ ?_ | exact To.undef _ | exact To.sc _ | exact To.hslL rfl rfl | exact To.asl _ _ _ _ _ _ _ rfl | refine To.ifc _ _ _ ?_ | exact To.ptrO rfl rfl rfl | exact To.mrefO rfl | exact To.nil rfl rfl rfl | exact wt1 | exact To.nilL | refine To.int ?_ | refine To.bool ?_ | refine To.hslL rfl ?_ | refine wt2 rfl ?_ ?_ ?_ | refine To.tupL ?_ | refine To.aggL ?_ | refine To.cptrL ?_ | refine To.fzp rfl rfl rfl ?_ | refine To.fzm rfl rfl ?_ | refine To.cloL ?_ ?_ | refine wt3 ?_ | refine wt4 ?_ | exact wt5 | refine wt6 ?_ | refine ToB.one ?_ | exact wt7 | ((with_reducible apply ToL.consE); case e9=>rfl) | refine wt8 ?_ | refine ToL.cons ?_ ?_ | exact wt11 | refine wt9 ?_ ?_ | refine wt12 ?_ | (with_reducible rfl) | assumption)); all_goals (first | rfl | assumption | (simp; done) | (simp; omega) | (rw[wrap_small (by omega) (by omega)]; done) | (rw[wrap_small (by omega) (by omega)]; omega) | (refine congrArg Nat.cast ?_; assumption) | skip)))
    all_goals exact .yld _ _ _ _ rfl
   ·exact⟨⟨⟨_,rfl,ToB.rows rfl (prs _)⟩,trivial⟩,⟨⟨_,rfl,ToB.rows rfl (prs _)⟩,trivial⟩,⟨⟨_,rfl,ToB.mapE rfl PM.out⟩,trivial⟩,⟨⟨_,rfl,ToB.one (ToL.stoR rfl rfl rfl)⟩,trivial⟩,⟨⟨_,rfl,ToB.one (ToL.cons (.sc _) ToL.nil)⟩,trivial⟩,⟨⟨_,rfl,HY rfl rfl⟩,trivial⟩,trivial⟩
  rintro q hq
  refine aB ?_
  refine AWP.condN (q < m) rfl (by rfl) (fun h4=>?_) (fun h4=>?_)
  ·obtain⟨h5,h6⟩:=h3 (by omega)
   have hat:at'+(q:Int)=((at'.toNat+q:Nat):Int):=by omega
   have hpl:at'.toNat+q < s.bytes.length:=by omega
   have hjd:j0+q < d.length:=by omega
   have hplq:=hat0 q h4
   obtain⟨p,hpp⟩:∃ p,p=at'.toNat+q:=⟨_,rfl⟩
   rw[← hpp] at hat hpl hplq
   obtain⟨j,hj⟩:∃ j,j=j0+q:=⟨_,rfl⟩
   rw[← hj] at hjd hplq ⊢
   have hst:wrT s l d size (j+1)=mZ size (wrT s l d size j) (p,d[j]):=by
    unfold wrT
    have hz:((plL l).zip d)[j]?=some (p,d[j]):=by
     rw[List.getElem?_zip_eq_some]
     exact⟨hplq,gEg hjd⟩
    rw[List.take_add_one,hz]
    exact FR _ _ _ _
   have hlen:(wrT s l d size j).bytes.length=s.bytes.length:=B4 _ _ _
   have hrd:iD (byR d) (j:Int)=some [.sc (.int .u8 (d[j]:Nat))]:=wT d j hjd
   generalize d[j]=v at *
   obtain⟨s1,hs1⟩:∃ s1,s1=wrT s l d size j:=⟨_,rfl⟩
   rw[← hs1] at hst hlen
   unfold wrG
   rw[← hs1]
   refine AWP.skip ?_
   refine AWP.seq ?_
   refine AWP.block ?_
   refine AWP.seq ?_
   refine AWP.region ?_
   refine dC ?_
   refine AWP.seq ?_
   refine AWP.rY rfl ?_
   refine aB ?_
   rw[show IntKind.i64.wrap (at'+(q:Int))=(p:Int) by rw[Av.wrap_small (by omega) (by omega),hat]]
   refine⟨rfl,nlB rfl,9,0,rfl,?_⟩
   refine⟨L,_,_,_,_,_,hL,rfl,rfl,?_⟩
   refine aB ?_
   refine⟨rfl,_,rfl,?_⟩
   refine AWP.fin ?_
   have hpl1:p < s1.bytes.length:=by rw[hlen]; exact hpl
   refine aB ?_
   refine DK.o rfl (bH rfl rfl (show hget (stH b s1 _) 5 0=some (.cells 1 (byR s1.bytes)) from rfl) hpl1 (by rw[hU])) ?_
   refine dC ?_
   refine DK.on rfl (EV rfl rfl (show hget (stH b s1 _) 5 0=some (.cells 1 (byR s1.bytes)) from rfl) hpl1) ?_
   refine DK.nil ⟨by kernel_rfl,?_⟩
   obtain⟨s2,hs2⟩:∃ s2,s2={ s1 with bytes:=s1.bytes.set p v }:=⟨_,rfl⟩
   have hs3:mZ size s1 (p,v)={ s2 with ch:=zL s2.ch (p / size) }:=by rw[hs2]; rfl
   refine d5 ?_
   refine AWP.sub (fr':=[(3,.cptr [.ptr 7 0 0 0]),(11,.cptr [.sc (.int .i64 (size:Nat))]),(12,.ptr 8 0 0 0),(13,.sc (.int .i64 (p:Nat)))]) (H':=stH b s2 [[.cells 1 [[.sc (.int .i64 (j:Nat))]]],[.lp L (wrF l d size) .busy none]]) ?_ ?_
   ·have e1:s2.bytes=s1.bytes.set p v:=by rw[hs2]
    have e2:s2.ch=s1.ch:=by rw[hs2]
    have e3:stoR s1 (5,0) (6,0)=stoR s2 (5,0) (6,0):=by rw[hs2]; unfold stoR; rw[List.length_set]
    refine Sub.bk [] [[(4,0)],[(5,0)],[(6,0)],[(7,0)],[(8,0)],[(9,0)]] [] ?_ ?_
    ·(all_goals exact bO)
    ·refine⟨⟨⟨_,rfl,ToB.rows rfl (prs _)⟩,trivial⟩,⟨⟨_,rfl,ToB.rows (by rw[e1]) (prs _)⟩,trivial⟩,⟨⟨_,rfl,ToB.mapE (by rw[e2]) PM.out⟩,trivial⟩,⟨⟨_,rfl,ToB.one ?_⟩,trivial⟩,⟨⟨_,rfl,ToB.one (ToL.cons (.sc _) ToL.nil)⟩,trivial⟩,⟨⟨_,rfl,HY rfl rfl⟩,trivial⟩,trivial⟩
     rw[e3]
     exact ToL.stoR rfl rfl rfl
   refine aB ?_
   refine DK.on rfl (AR rfl rfl rfl (show hget (stH b s2 _) 6 0=some (.map (chE s2.ch)) from rfl)) ?_
   refine DK.nil ⟨by kernel_rfl,?_⟩
   refine aB ?_
   refine⟨[],stH b (mZ size s1 (p,v)) [[.cells 1 [[.sc (.int .i64 (j+1:Nat))]]],[.lp L (wrF l d size) .busy none]],?_,_,rfl,?_⟩
   ·rw[hs3]
    refine Sub.bk [] [[(4,0)],[(5,0)],[(6,0)],[(7,0)],[(8,0)],[(9,0)]] [] ?_ ?_
    ·(all_goals exact bO)
    ·exact⟨⟨⟨_,rfl,ToB.rows rfl (prs _)⟩,trivial⟩,⟨⟨_,rfl,ToB.rows rfl (prs _)⟩,trivial⟩,⟨⟨_,rfl,ToB.mapE rfl PM.out⟩,trivial⟩,⟨⟨_,rfl,ToB.one (ToL.stoR rfl rfl rfl)⟩,trivial⟩,⟨⟨_,rfl,ToB.one (ToL.cons (.sc _) ToL.nil)⟩,trivial⟩,⟨⟨_,rfl,HY rfl rfl⟩,trivial⟩,trivial⟩
   show Reg Tryz.prog F138.n _ _ _ _ _
   refine aB ?_
   refine⟨q+1,by omega,by omega,?_⟩
   rw[show j0+(q+1)=j+1 by omega,hst]
   (refine Sub.keep ?_; repeat' (first | exact trivial | exact Le.refl _ | refine⟨?_,?_⟩))
  ·obtain rfl:q=m:=by omega
   refine aB ?_
   refine⟨i+1,by omega,by omega,?_⟩
   rw[hnx]
   (refine Sub.keep ?_; repeat' (first | exact trivial | exact Le.refl _ | refine⟨?_,?_⟩))
 ·obtain rfl:i=l.length:=by omega
  rw[List.take_length]
  refine aB ?_
  exact cZ rfl
def sA (b:Bk) (s:Sto) (l:List (Int×Int)) (d:List Nat):Int×Sto:=if dI b s=0 then(if (cU s.bytes.length l).2=0 then(if (cU s.bytes.length l).1=(d.length:Nat) then(0,pH (aV b) s ((plL l).zip d)) else(26,s)) else((cU s.bytes.length l).2,s)) else(dI b s,s)
theorem G7 (hb:BOK b c) (hn2:2≤b.n) (l:List (Int×Int)) (d:List Nat) (hn:l.length≤1000000) (hr:s.bytes.length≤1000000):aD Tryz.prog 26 [.ptr 7 0 0 0,.list 2 (eB l),.list 1 (byR d)] (stH b s []) fun res H'=>res=.sc (.int .i64 (sA b s l d).1)∧H'=stH b (sA b s l d).2 []:=by
 refine aD.of cF26 ?_ (nlB rfl)
 have he:=C2 l
 have hdl:=hU d
 unfold sA
 refine aB ?_
 refine Reg.sub (fr':=[(1,.list 2 (eB l)),(3,.cptr [.ptr 7 0 0 0]),(5,.cptr [.list 1 (byR d)]),(14,.ptr 7 0 0 0)]) (H':=stH b s []) ?_ ?_
 ·refine Sub.st ?_
  (all_goals exact bO)
 refine Reg.c (Nat.le_refl _) rfl ((rF hb).mono ?_)
 rintro res H' ⟨rfl,rfl⟩
 refine aB ?_
 refine AWP.condN (¬ dI b s=0) rfl (gQ _) (fun h0=>?_) (fun h0=>?_)
 ·rw[if_neg h0]
  refine aB ?_
  refine fH (Z:=[]) ⟨rfl,rfl⟩
 replace h0:dI b s=0:=Decidable.byContradiction h0
 rw[if_pos h0]
 refine aB ?_
 refine Reg.c (Nat.le_refl _) rfl ((xO l hn hr).mono ?_)
 rintro res H' ⟨rfl,rfl⟩
 refine aB ?_
 refine AWP.condN (¬ (cU s.bytes.length l).2=0) rfl (gQ _) (fun h1=>?_) (fun h1=>?_)
 ·rw[if_neg h1]
  refine aB ?_
  refine fH (Z:=[]) ⟨rfl,rfl⟩
 replace h1:(cU s.bytes.length l).2=0:=Decidable.byContradiction h1
 obtain⟨hx,hp,hc1⟩:=uU hr h1
 rw[if_pos h1,hc1]
 refine aB ?_
 rw[hdl]
 refine AWP.condN (¬ (plL l).length=d.length) rfl (by simp) (fun h2=>?_) (fun h2=>?_)
 ·rw[if_neg (by omega)]
  refine aB ?_
  refine fH (Z:=[]) ⟨rfl,rfl⟩
 replace h2:(plL l).length=d.length:=Decidable.byContradiction h2
 rw[if_pos (by omega)]
 refine aB ?_
 refine Reg.c (Nat.le_refl _) rfl ((lZ hb.n0 hb.n8 ⟨hb.k0,hb.k8⟩).mono ?_)
 rintro res H' ⟨rfl,rfl⟩
 have hsz:0 < aV b:=by unfold aV; omega
 refine aB ?_
 have hw0:wrT s l d (aV b) 0=s:=rfl
 have hwn:wrT s l d (aV b) (plL l).length=pH (aV b) s ((plL l).zip d):=by
  unfold wrT
  rw[List.take_of_length_le (by rw[List.length_zip,h2,Nat.min_self]; exact Nat.le_refl _)]
 refine AWP.sub (fr':=wrF l d (aV b)) (H':=stH b s [[.cells 1 [[.sc (.int .i64 (0:Nat))]]]]) ?_ ?_
 ·refine Sub.bk [] [[(4,0)],[(5,0)],[(6,0)],[(7,0)],[(9,0)]] [] ?_ ?_
  ·unfold wrF
   (all_goals exact bO)
  ·exact⟨⟨⟨_,rfl,ToB.rows rfl (prs _)⟩,trivial⟩,⟨⟨_,rfl,ToB.rows rfl (prs _)⟩,trivial⟩,⟨⟨_,rfl,ToB.mapE rfl PM.out⟩,trivial⟩,⟨⟨_,rfl,ToB.one (ToL.stoR rfl rfl rfl)⟩,trivial⟩,⟨⟨_,rfl,ToB.rows rfl (prs [[AV.sc (.int .i64 (0:Nat))]])⟩,trivial⟩,trivial⟩
 refine AWP.rangeF (g:=138) (fs:=[]) (cs:=[.cptr [.list 2 (eB l)]]) rfl (nlB rfl) rfl fun L hL=>?_
 refine(z8 l d (aV b) hsz hx hn h2 (by omega) hr L hL).mono ?_
 rintro res H' rfl
 unfold wrG
 rw[hwn]
 refine⟨_,_,none,rfl,by decide,?_⟩
 refine aB ?_
 refine fH (Z:=[[.cells 1 [[.sc (.int .i64 ((plL l).length:Nat))]]],[.dead]]) (res':=.sc (.int .i64 0)) ⟨rfl,rfl⟩
variable {b:Bk} {s:Sto} {c:Nat}
def JP (x y:Nat):Int:=IntKind.u8.wrap ((BitVec.ofInt IntKind.u8.bits (x:Int) ^^^ BitVec.ofInt IntKind.u8.bits (y:Int)).toNat:Nat)
def FM (x y:Nat):Nat:=(JP x y).toNat
theorem KG (x y:Nat):JP x y=(FM x y:Nat):=by
 obtain⟨m,hm⟩:=A9 ((BitVec.ofInt IntKind.u8.bits (x:Int) ^^^ BitVec.ofInt IntKind.u8.bits (y:Int)).toNat:Nat)
 unfold FM
 rw[show JP x y=(m:Int) from hm]
 rfl
def wS (f g:Nat→Nat):Nat→Nat:=fun j=>FM (f j) (g j)
def t8 (f g:Nat→Nat) (i:Nat):Nat→Nat:=fun j=>if j < i then FM (f j) (g j) else f j
theorem I3 {f g:Nat→Nat} (h:∀ j,j < 64→f j=g j):bR f=bR g:=by
 unfold bR
 exact List.map_congr_left fun j hj=>by rw[h j (List.mem_range.1 hj)]
theorem DX {g i:Nat} {fr:Fr} {H:Heap} {a:Operand} {cells:List AV} {q:Nat} {c:AV} (ha:ev fr a=.cptr (cells.drop q)) (hc:cells[q]?=some c):aC g i (.load 1 false a) fr H=some (c,H):=by
 obtain⟨hq,hv⟩:=gEs.1 hc
 exact zP (rest:=cells.drop (q+1)) ha (by rw[List.drop_eq_getElem_cons hq,hv])
theorem MY (f g:Nat→Nat):aF Tryz.prog 140 [.agg (bR f),.agg (bR g)] (.agg (bR (wS f g))):=by
 refine aF.mkI LS (nlB rfl) ?_
 have hlf:=bX f
 have hlg:=bX g
 have hcf:=fD f
 have hcg:=fD g
 refine aB ?_
 refine AWP.loop (fun i:Nat=>[(2,.ptr 0 0 0 0),(3,.cptr (bR g)),(4,.ptr 1 0 0 0),(7,.sc (.int .i64 (i:Nat)))]) (fun i=>[[.cells 64 [bR (t8 f g i)]],[.cells 64 [bR fun _=>0]]]) (fun i=>i≤64) (fun i=>64 - i) 0 (Nat.zero_le _) ?_ ?_
 ·rw[show t8 f g 0=f by funext j; unfold t8; rw[if_neg (by omega)]]
  (apply Sub.to [] [[(0,0)],[(2,0)]]; all_goals (repeat' (first | exact aO.nil | exact aI.nil | exact bD.nil | exact ToL.nil | exact ToR.nil | refine aO.cons ?_ ?_ | refine aI.cons ?_ ?_ | refine f8 ?_ ?_ | exact To.undef _ | exact To.sc _ | exact To.hslL rfl rfl | exact To.asl _ _ _ _ _ _ _ rfl | refine To.ifc _ _ _ ?_ | exact To.ptrO rfl rfl rfl | exact To.mrefO rfl | exact To.nil rfl rfl rfl | exact wt1 | exact To.nilL | refine To.int ?_ | refine To.bool ?_ | refine To.hslL rfl ?_ | refine wt2 rfl ?_ ?_ ?_ | refine To.tupL ?_ | refine To.aggL ?_ | refine To.cptrL ?_ | refine To.fzp rfl rfl rfl ?_ | refine To.fzm rfl rfl ?_ | refine To.cloL ?_ ?_ | refine wt3 ?_ | refine wt4 ?_ | exact wt5 | refine wt6 ?_ | refine ToB.one ?_ | exact wt7 | ((with_reducible apply ToL.consE); case e9=>rfl) | refine wt8 ?_ | refine ToL.cons ?_ ?_ | exact wt11 | refine wt9 ?_ ?_ | refine wt12 ?_ | (with_reducible rfl) | assumption)); all_goals (first | rfl | assumption | (simp; done) | (simp; omega) | (rw[wrap_small (by omega) (by omega)]; done) | (rw[wrap_small (by omega) (by omega)]; omega) | (refine congrArg Nat.cast ?_; assumption) | skip))
 rintro i hi
 have hl:=bX (t8 f g i)
 refine aB ?_
 refine AWP.condN (i < 64) rfl (by rfl) (fun h=>?_) (fun h=>?_)
 ·refine aB ?_
  refine DK.o rfl (bF rfl rfl rfl (mH h)) ?_
  refine aB ?_
  refine DK.o rfl (tU rfl rfl rfl h) ?_
  refine DK.o rfl (DX rfl (by rw[Nat.mul_one]; exact mH h)) ?_
  refine aB ?_
  refine DK.nil ⟨by kernel_rfl,?_⟩
  refine aB ?_
  refine⟨i+1,by omega,by omega,?_⟩
  have hstep:(fun j=>if j=i then FM (t8 f g i i) (g i) else t8 f g i j)=t8 f g (i+1):=by
   funext j
   unfold t8
   by_cases e:j=i
   ·subst e
    rw[if_pos rfl,if_neg (by omega),if_pos (by omega)]
   ·rw[if_neg e]
    by_cases h2:j < i
    ·rw[if_pos h2,if_pos (by omega)]
    ·rw[if_neg h2,if_neg (by omega)]
  (apply Sub.to [] [[(0,0)],[(1,0)]]; all_goals (repeat' (first | exact aO.nil | exact aI.nil | exact bD.nil | exact ToL.nil | exact ToR.nil | refine aO.cons ?_ ?_ | refine aI.cons ?_ ?_ | refine f8 ?_ ?_ | exact To.undef _ | exact To.sc _ | exact To.hslL rfl rfl | exact To.asl _ _ _ _ _ _ _ rfl | refine To.ifc _ _ _ ?_ | exact To.ptrO rfl rfl rfl | exact To.mrefO rfl | exact To.nil rfl rfl rfl | exact wt1 | exact To.nilL | refine To.int ?_ | refine To.bool ?_ | refine To.hslL rfl ?_ | refine wt2 rfl ?_ ?_ ?_ | refine To.tupL ?_ | refine To.aggL ?_ | refine To.cptrL ?_ | refine To.fzp rfl rfl rfl ?_ | refine To.fzm rfl rfl ?_ | refine To.cloL ?_ ?_ | refine wt3 ?_ | refine wt4 ?_ | exact wt5 | refine wt6 ?_ | refine ToB.one ?_ | exact wt7 | ((with_reducible apply ToL.consE); case e9=>rfl) | refine wt8 ?_ | refine ToL.cons ?_ ?_ | exact wt11 | refine wt9 ?_ ?_ | refine wt12 ?_ | (with_reducible rfl) | assumption)); all_goals (first | rfl | assumption | (simp; done) | (simp; omega) | (rw[wrap_small (by omega) (by omega)]; done) | (rw[wrap_small (by omega) (by omega)]; omega) | (refine congrArg Nat.cast ?_; assumption) | skip))
  show[(bR _).set i (.sc (.int .u8 (JP _ _)))]=_
  rw[KG,AJ,hstep]
 ·obtain rfl:i=64:=by omega
  rw[show bR (t8 f g 64)=bR (wS f g) from I3 fun j hj=>by unfold t8; rw[if_pos hj]; rfl]
  have hl2:=bX (wS f g)
  refine aB ?_
  refine fM.mk (.inr rfl) rfl rfl ?_
  exact To.pure (pv (AV.agg (bR (wS f g))))
theorem LB (n:Nat) (hn:n≤1000000) (x:Bool):aF Tryz.prog 116 [.sc (.int .i64 (n:Nat)),.sc (.bool x)] (.sc (.int .i64 ((if x=true then 3+2 * n else 2+2 * n:Nat):Int))):=by
 refine aF.mkI LA (nlB rfl) ?_
 cases x with
 | true=>
  refine aB ?_
  exact fM.w
 | false=>
  refine aB ?_
  exact fM.w
theorem BN {lg:Nat} {X:Heap} (h0:0 < b.n) {st k:Nat} (hs:st≤1000000) (hk:k≤1000000) (_hn:b.n≤8):aD Tryz.prog 102 [.ifc 49 (.ptr 0 0 0 0),.sc (.int .i64 (st:Nat)),.sc (.int .i64 (k:Nat))] (aE b lg X) fun res H'=>res=.sc (.int .i64 ((st+k) % b.n:Nat))∧H'=aE b lg X:=by
 refine aD.of LF ?_ (nlB rfl)
 refine aB ?_
 refine Reg.cv (by first | exact Nat.le_refl _ | exact nlB rfl) rfl rfl ((fL h0).mono ?_); rintro res H' ⟨rfl,rfl⟩; try (refine aB ?_)
 exact cZ ⟨rfl,rfl⟩
variable {b:Bk} {s:Sto} {c:Nat}
section
variable {g i:Nat} {fr:Fr} {H:Heap}
theorem sb2 {d l h:Nat} {lo hi:Operand} {k1 k2:IntKind} (h1:ev fr lo=.sc (.int k1 (l:Nat))) (h2:ev fr hi=.sc (.int k2 (h:Nat))) (hlh:l≤h) (hd:h≤d):dA fr d (some lo) (some hi) none=some (l,h):=by
 unfold dA m9
 simp only[h1,h2]
 have e1:Nat.ble l h=true:=Nat.ble_eq_true_of_le hlh
 have e2:Nat.ble h d=true:=Nat.ble_eq_true_of_le hd
 have e3:Nat.ble d d=true:=Nat.ble_eq_true_of_le (Nat.le_refl d)
 show(match Nat.ble l h && (Nat.ble h d && Nat.ble d d) && ((none:Option Operand).isNone || (some hi).isSome) with
  | true=>some (l,h)
  | false=>none)=_
 rw[e1,e2,e3]
 rfl
theorem sb1 {d l:Nat} {lo:Operand} {k1:IntKind} (h1:ev fr lo=.sc (.int k1 (l:Nat))) (hd:l≤d):dA fr d (some lo) none none=some (l,d):=by
 unfold dA m9
 simp only[h1]
 have e1:Nat.ble l d=true:=Nat.ble_eq_true_of_le hd
 have e3:Nat.ble d d=true:=Nat.ble_eq_true_of_le (Nat.le_refl d)
 show(match Nat.ble l d && (Nat.ble d d && Nat.ble d d) && ((none:Option Operand).isNone || (none:Option Operand).isSome) with
  | true=>some (l,d)
  | false=>none)=_
 rw[e1,e3]
 rfl
theorem vH {sz:Nat} {x:Operand} {lo hi:Option Operand} {g' i' st len l h:Nat} {rows:List (List AV)} (hx:ev fr x=.hsl g' i' st len) (hh:hget H g' i'=some (.cells sz rows)) (hb:dA fr len lo hi none=some (l,h)) (hlt:l < h):
  aC g i (.slice sz x lo hi none) fr H=some (.hsl g' i' (st+l) (h - l),H):=by
 have e0:Nat.beq sz sz=true:=by simp
 have e2:Nat.beq l h=false:=by
  apply Bool.eq_false_iff.2
  intro e
  have:=Nat.eq_of_beq_eq_true e
  omega
 simp only[aC,hx,hh,e0,hb]
 cases hl:Nat.beq l 0 with
 | true=>
  have:=Nat.eq_of_beq_eq_true hl
  subst this
  rfl
 | false=>
  simp only[e2]
theorem jN {n:Nat} {x ix:Operand} {k:IntKind} {q g' i' row:Nat} (hx:ev fr x=.ptr g' i' row 1) (hi:ev fr ix=.sc (.int k (q:Int))) (hq:q < n):aC g i (.idxArr n 1 x ix) fr H=some (.ptr g' i' row (1+q),H):=by
 rw[nK hx hi rfl hq,Nat.mul_one]
theorem A8 {n:Nat} {x:Operand} {g' i' st len:Nat} {rows:List (List AV)} (hx:ev fr x=.hsl g' i' st len) (hh:hget H g' i'=some (.cells 1 rows)) (h:n≤len) (h0:0 < n):aC g i (.mop (.s2a n) [x]) fr H=some (.ptr g' i' st 0,H):=by
 have e1:Nat.ble n len=true:=Nat.ble_eq_true_of_le h
 have e2:Nat.blt 0 n=true:=by simpa[Nat.blt_eq] using h0
 simp only[aC,avals,List.map_cons,List.map_nil,cN,hx,hh,e1,e2,Bool.and_self]
def mI (s:Sto) (p:Nat):Nat→Nat:=fun j=>iG s (p+j)
theorem EY {a:Operand} {g' i' p:Nat} (ha:ev fr a=.ptr g' i' p 0) (hh:hget H g' i'=some (.cells 1 (byR s.bytes))) (hp:p+64≤s.bytes.length):aC g i (.load 64 true a) fr H=some (.agg (bR (mI s p)),H):=by
 have hr:(byR s.bytes)[p]?=some [.sc (.int .u8 (iG s p:Nat))]:=z0 (by omega)
 have hf:(((byR s.bytes).drop p).take 64).flatten=bR (mI s p):=by
  apply List.ext_getElem?
  intro j
  have hm:((byR s.bytes).drop p).take 64=(List.range 64).map fun j=>[AV.sc (.int .u8 (iG s (p+j):Nat))]:=by
   apply List.ext_getElem?
   intro j
   rw[List.getElem?_take]
   by_cases h:j < 64
   ·rw[if_pos h,List.getElem?_drop,z0 (by omega),List.getElem?_map,List.getElem?_range h]
    rfl
   ·rw[if_neg h,List.getElem?_eq_none (by simp; omega)]
  rw[hm]
  have:∀(l:List Nat) (f:Nat→AV),(l.map fun j=>[f j]).flatten=l.map f:=by
   intro l f
   induction l with
   | nil=>rfl
   | cons x l ih=>simp only[List.map_cons,List.flatten_cons,ih]; rfl
  rw[this]
  rfl
 have hl:Nat.ble 64 (bR (mI s p)).length=true:=by rw[bX]; rfl
 show(match ev fr a with
  | .cptr cells=>_
  | .ptr g' i' row off=>_
  | _=>none)=_
 rw[ha]
 show(match hget H g' i' with
  | some (.cells s rows)=>_
  | _=>none)=_
 rw[hh]
 show(match (byR s.bytes)[p]? with
  | some r=>_
  | none=>none)=_
 rw[hr]
 show(match fW 64 true ((((byR s.bytes).drop p).take 64).flatten) with
  | some v=>some (v,H)
  | none=>none)=_
 rw[hf]
 unfold fW
 rw[hl]
 show some (AV.agg ((bR (mI s p)).take 64),H)=_
 rw[List.take_of_length_le (Nat.le_of_eq (bX _))]
end
def qA (s:Sto) (p n k:Nat) (sum:Nat→Nat):Nat→Nat:=if k+1 < n then mI s p else sum
def w7 (s:Sto) (p n k:Nat) (sum:Nat→Nat):Nat→Nat:=if k+1 < n then wS sum (mI s p) else sum
def j6 (s:Sto) (st a size:Nat):Nat→Nat→(Nat→Nat)→Bk→Int×Bk
 | 0,_,_,b=>(0,b)
 | r+1,k,sum,b=>
  if hN b (((st+k) % b.n:Nat):Int)=true then
   (if (cX b ((st+k) % b.n) a (qA s (st * size+k * 64) b.n k sum)).1=0 then
    j6 s st a size r (k+1) (w7 s (st * size+k * 64) b.n k sum) (cX b ((st+k) % b.n) a (qA s (st * size+k * 64) b.n k sum)).2
    else cX b ((st+k) % b.n) a (qA s (st * size+k * 64) b.n k sum))
  else j6 s st a size r (k+1) (w7 s (st * size+k * 64) b.n k sum) b
def atN (st:Nat) (x:Bool):Nat:=if x=true then 3+2 * st else 2+2 * st
def d8 (b:Bk) (s:Sto) (st:Nat) (x:Bool):Int×Bk:=j6 s st (atN st x) (aV b) b.n 0 (fun _=>0) b
def cY (sec:Nat→Bool) (st:Nat):Nat→Bool:=fun x=>if x=st then !sec st else sec x
theorem rQ {s:Sto} {st a size:Nat}:∀ {r k:Nat} {sum:Nat→Nat} {b:Bk} {c:Nat},BOK b c→a < b.k→BOK (j6 s st a size r k sum b).2 (c+2 * r)∧(j6 s st a size r k sum b).2.n=b.n∧(j6 s st a size r k sum b).2.k=b.k
 | 0,_,_,_,_,hb,_=>⟨hb,rfl,rfl⟩
 | r+1,k,sum,b,c,hb,ha=>by
  have hto:(st+k) % b.n < b.n:=Nat.mod_lt _ hb.n0
  unfold j6
  split
  ·have h1:=iU hb hto ha (qA s (st * size+k * 64) b.n k sum)
   have h2:=gB b ((st+k) % b.n) a (qA s (st * size+k * 64) b.n k sum)
   have h3:=kF b ((st+k) % b.n) a (qA s (st * size+k * 64) b.n k sum)
   split
   ·obtain⟨q1,q2,q3⟩:=rQ (s:=s) (st:=st) (a:=a) (size:=size) (r:=r) (k:=k+1) (sum:=w7 s (st * size+k * 64) b.n k sum) h1 (by omega)
    exact⟨q1.le (by omega),q2.trans h2,q3.trans h3⟩
   ·exact⟨h1.le (by omega),h2,h3⟩
  ·obtain⟨q1,q2,q3⟩:=rQ (s:=s) (st:=st) (a:=a) (size:=size) (r:=r) (k:=k+1) (sum:=w7 s (st * size+k * 64) b.n k sum) hb ha
   exact⟨q1.le (by omega),q2,q3⟩
theorem yP {n:Nat} {f:Nat→Bool} {q:Nat} {x:Bool}:(mC n f).set q (.sc (.bool x))=mC n fun y=>if y=q then x else f y:=by
 apply List.ext_getElem?
 intro j
 rw[List.getElem?_set]
 by_cases e:q=j
 ·subst e
  rw[if_pos rfl]
  by_cases h:q < n
  ·rw[fX,if_pos h,gX h,if_pos rfl]
  ·rw[fX,if_neg h,List.getElem?_eq_none (by rw[fX]; omega)]
 ·rw[if_neg e]
  by_cases h:j < n
  ·rw[gX h,gX h,if_neg (Ne.symm e)]
  ·rw[List.getElem?_eq_none (by rw[fX]; omega),List.getElem?_eq_none (by rw[fX]; omega)]
theorem E4 {n:Nat} {sec:Nat→Bool} {q:Nat} {x:Bool}:(rootR n sec).set (1+q) (.sc (.bool x))=rootR n fun y=>if y=q then x else sec y:=by
 unfold rootR
 rw[Nat.add_comm,List.set_cons_succ,yP]
theorem oQ {n:Nat} {sec:Nat→Bool} {q:Nat} (h:q < 256):(rootR n sec)[1+q]?=some (.sc (.bool (sec q))):=by
 unfold rootR
 rw[Nat.add_comm,List.getElem?_cons_succ,gX h]
def KS (s:Sto) (b:Bk) (n:Nat) (sec:Nat→Bool) (sum:Nat→Nat):Heap:=aM [.dead,.cells 1 (byR s.bytes),.map (chE s.ch),.cells 263 [stoR s (5,0) (6,0)],.cells 257 [rootR n sec],.cells 64 [bR sum],lateB b]
set_option maxHeartbeats 4000000 in
theorem JD (hb:BOK b c) (hc:c < 1000000) (hn3:3≤b.n) {st:Nat} (hst:st < aU b) (hbl:s.bytes.length=aU b * aV b) (n:Nat) (sec:Nat→Bool):
  aD Tryz.prog 93 [.ptr 7 0 0 0,.sc (.int .i64 (st:Nat)),.ptr 8 0 0 0] (stH b s [[.cells 257 [rootR n sec]]]) fun res H'=>res=.sc (.int .i64 (d8 b s st (!sec st)).1) ∧
   H'=aE (d8 b s st (!sec st)).2 9 (aM [.dead,.cells 1 (byR s.bytes),.map (chE s.ch),.cells 263 [stoR s (5,0) (6,0)],.cells 257 [rootR n (cY sec st)],lateB (d8 b s st (!sec st)).2]):=by
 refine aD.of cF93 ?_ (nlB rfl)
 have hn0:=hb.n0
 have hn8:=hb.n8
 have hk0:=hb.k0
 have hk8:=hb.k8
 have hs255:st < 256:=by unfold aU at hst; omega
 have hst2:3+2 * st < b.k:=by unfold aU at hst; omega
 have hsz:aV b≤448:=by unfold aV; omega
 refine d5 ?_
 refine Reg.c (Nat.le_refl _) rfl ((lZ hb.n0 hb.n8 ⟨hb.k0,hb.k8⟩).mono ?_)
 rintro res H' ⟨rfl,rfl⟩
 refine aB ?_
 refine DK.o rfl (jN rfl rfl hs255) ?_
 refine DK.o rfl (bF rfl (show hget (stH b s _) 8 0=some (.cells 257 [rootR n sec]) from rfl) rfl (oQ hs255)) ?_
 refine dC ?_
 refine DK.o rfl (jN rfl rfl hs255) ?_
 refine DK.on rfl ((dS rfl rfl (show hget (stH b s _) 8 0=some (.cells 257 [rootR n sec]) from rfl) rfl (by rw[cK]; omega) rfl).trans (congrArg (fun r=>some (AV.undef,aJ _ 8 0 (.cells 257 [r]))) E4)) ?_
 refine DK.nil ⟨by kernel_rfl,?_⟩
 refine aB ?_
 refine Reg.sub (fr':=[(0,.ptr 7 0 0 0),(1,.sc (.int .i64 (st:Nat))),(2,.ptr 8 0 0 0),(8,.sc (.int .i64 (aV b:Nat))),(9,.ptr 9 0 0 0),(38,.ifc 49 (.ptr 0 0 0 0))]) (H':=aE b 10 (KS s b n (cY sec st) fun _=>0)) ?_ ?_
 ·refine Sub.bk [] [[(4,0)],[(5,0)],[(6,0)],[(7,0)],[(8,0)],[(10,0)],[(4,0)]] [4] ?_ ?_
  ·(all_goals exact bO)
  ·exact⟨⟨⟨_,rfl,.dead _⟩,trivial⟩,⟨⟨_,rfl,ToB.rows rfl (prs _)⟩,trivial⟩,⟨⟨_,rfl,ToB.mapE rfl PM.out⟩,trivial⟩,⟨⟨_,rfl,ToB.one (ToL.stoR rfl rfl rfl)⟩,trivial⟩,⟨⟨_,rfl,ToB.one (ToL.pure (pr _))⟩,trivial⟩,⟨⟨_,rfl,ToB.rows rfl (prs [bR fun _=>0])⟩,trivial⟩,⟨⟨_,rfl,ToB.rows rfl (prs _)⟩,trivial⟩,trivial⟩
 refine Reg.cv (by first | exact Nat.le_refl _ | exact nlB rfl) rfl rfl ((fL hb.n0).mono ?_); rintro res H' ⟨rfl,rfl⟩; try (refine aB ?_)
 refine AWP.loop3 (fun(k:Nat) (sum:Nat→Nat) (b1:Bk)=>[(0,.ptr 7 0 0 0),(1,.sc (.int .i64 (st:Nat))),(2,.ptr 8 0 0 0),(8,.sc (.int .i64 (aV b:Nat))),(9,.ptr 9 0 0 0),(39,.sc (.int .i64 (b.n:Nat))),(40,.sc (.int .i64 (k:Nat)))]) (fun k sum b1=>aE b1 10 (KS s b1 n (cY sec st) sum))
  (fun k sum b1=>k≤b.n∧j6 s st (atN st (!sec st)) (aV b) (b.n - k) k sum b1=d8 b s st (!sec st)∧BOK b1 (c+2 * k)∧b1.n=b.n∧b1.k=b.k) (fun k sum b1=>b.n - k) 0 (fun _=>0) b ⟨Nat.zero_le _,rfl,hb,rfl,rfl⟩ ?_ ?_
 ·(refine Sub.keep ?_; repeat' (first | exact trivial | exact Le.refl _ | refine⟨?_,?_⟩))
 rintro k sum b1 ⟨hk,he,h1,hn,hkk⟩
 refine aB ?_
 refine AWP.condD rfl (fun h=>?_) (fun h=>?_)
 ·have hlb:=bX sum
  have hcb:=fD sum
  obtain⟨m,hm⟩:∃ m,b.n - k=m+1:=⟨b.n - k - 1,by omega⟩
  rw[hm] at he
  unfold j6 at he
  have hmul:st * aV b+aV b≤s.bytes.length:=by
   rw[hbl,← Nat.succ_mul]
   exact Nat.mul_le_mul_right _ hst
  have hbl2:s.bytes.length≤1000000:=by
   rw[hbl]
   have:aU b * aV b≤256 * 448:=Nat.mul_le_mul (by unfold aU; omega) hsz
   omega
  have hsm:st * aV b≤1000000:=by
   have:st * aV b≤256 * 448:=Nat.mul_le_mul (by omega) hsz
   omega
  have hsm2:(st+1) * aV b≤1000000:=by rw[Nat.succ_mul]; omega
  have hsm3:(st+1) * aV b=st * aV b+aV b:=Nat.succ_mul _ _
  have hpos:0 < aV b:=by unfold aV; omega
  have hszn:aV b=(b.n - 1) * 64:=rfl
  unfold KS
  refine aB ?_
  refine Reg.o rfl (vH rfl (show hget (aE b1 10 _) 5 0=some (.cells 1 (byR s.bytes)) from rfl) (sb2 rfl rfl (by omega) (by omega)) (by omega)) ?_
  rw[Nat.zero_add,show(st+1) * aV b - st * aV b=aV b by omega]
  refine aB ?_
  refine Reg.cv (by first | exact Nat.le_refl _ | exact nlB rfl) rfl rfl ((fL h1.n0).mono ?_); rintro res H' ⟨rfl,rfl⟩; try (refine aB ?_)
  rw[hn]
  by_cases hlast:k+1 < b.n
  ·have hcur:qA s (st * aV b+k * 64) b1.n k sum=mI s (st * aV b+k * 64):=by unfold qA; rw[if_pos (by omega)]
   have hnxt:w7 s (st * aV b+k * 64) b1.n k sum=wS sum (mI s (st * aV b+k * 64)):=by unfold w7; rw[if_pos (by omega)]
   rw[hcur,hnxt] at he
   have hxor:=MY sum (mI s (st * aV b+k * 64))
   have hl2:=bX (mI s (st * aV b+k * 64))
   have hc2:=fD (mI s (st * aV b+k * 64))
   have hl3:=bX (wS sum (mI s (st * aV b+k * 64)))
   have hc3:=fD (wS sum (mI s (st * aV b+k * 64)))
   rw[dTr (show k < b.n - 1 by omega)]
   refine aB ?_
   refine Reg.o rfl (vH rfl (show hget (aE b1 10 _) 5 0=some (.cells 1 (byR s.bytes)) from rfl) (sb1 rfl (by omega)) (by omega)) ?_
   refine Reg.o rfl (A8 rfl (show hget (aE b1 10 _) 5 0=some (.cells 1 (byR s.bytes)) from rfl) (by omega) (by omega)) ?_
   refine Reg.o rfl (EY rfl (show hget (aE b1 10 _) 5 0=some (.cells 1 (byR s.bytes)) from rfl) (by omega)) ?_
   refine aB ?_
   obtain⟨nxt,hnx⟩:∃ nxt,nxt=wS sum (mI s (st * aV b+k * 64)):=⟨_,rfl⟩
   rw[← hnx] at he ⊢
   obtain⟨cur,hcu⟩:∃ cur,cur=mI s (st * aV b+k * 64):=⟨_,rfl⟩
   rw[← hcu] at he ⊢
   refine Reg.sub (fr':=[(0,.ptr 7 0 0 0),(1,.sc (.int .i64 (st:Nat))),(2,.ptr 8 0 0 0),(8,.sc (.int .i64 (aV b:Nat))),(9,.ptr 9 0 0 0),(11,.ptr 11 0 0 0),(39,.sc (.int .i64 (b.n:Nat))),(40,.sc (.int .i64 (k:Nat))),(76,.ifc 49 (.ptr 0 0 0 0)),(77,.sc (.int .i64 (st:Nat))),(78,.sc (.int .i64 (k:Nat)))]) (H':=aE b1 10 (aM [.dead,.cells 1 (byR s.bytes),.map (chE s.ch),.cells 263 [stoR s (5,0) (6,0)],.cells 257 [rootR n (cY sec st)],.cells 64 [bR nxt],lateB b1,.cells 64 [bR cur]])) ?_ ?_
   ·refine Sub.bk [] [[(4,0)],[(5,0)],[(6,0)],[(7,0)],[(8,0)],[(9,0)],[(10,0)],[(11,0)]] [] ?_ ?_
    ·(all_goals exact bO)
    ·exact⟨⟨⟨_,rfl,.dead _⟩,trivial⟩,⟨⟨_,rfl,ToB.rows rfl (prs _)⟩,trivial⟩,⟨⟨_,rfl,ToB.mapE rfl PM.out⟩,trivial⟩,⟨⟨_,rfl,ToB.one (ToL.stoR rfl rfl rfl)⟩,trivial⟩,⟨⟨_,rfl,ToB.one (ToL.pure (pr _))⟩,trivial⟩,⟨⟨_,rfl,ToB.rows rfl (prs [bR nxt])⟩,trivial⟩,⟨⟨_,rfl,ToB.rows rfl (prs _)⟩,trivial⟩,⟨⟨_,rfl,ToB.rows rfl (prs [bR cur])⟩,trivial⟩,trivial⟩
   refine Reg.c (nlB rfl) rfl ((BN h1.n0 (st:=st) (k:=k) (by omega) (by omega) h1.n8).mono ?_)
   rintro res H' ⟨rfl,rfl⟩
   have hto:(st+k) % b1.n < b1.n:=Nat.mod_lt _ h1.n0
   obtain⟨to,hto2⟩:∃ to,to=(st+k) % b1.n:=⟨_,rfl⟩
   rw[← hto2] at hto he ⊢
   refine aB ?_
   refine Reg.cv (by first | exact Nat.le_refl _ | exact nlB rfl) rfl rfl ((qN h1.n0 (to:Int)).mono ?_); rintro res H' ⟨rfl,rfl⟩; try (refine aB ?_)
   cases hg:hN b1 (to:Int) with
   | false=>
    rw[hg,if_neg (by simp)] at he
    refine aB ?_
    refine⟨k+1,nxt,b1,⟨by omega,by rw[← he,show b.n - (k+1)=m by omega],h1.le (by omega),hn,hkk⟩,by omega,?_⟩
    refine Sub.bk [] [[(4,0)],[(5,0)],[(6,0)],[(7,0)],[(8,0)],[(9,0)],[(10,0)]] [] ?_ ?_
    ·(all_goals exact bO)
    ·exact⟨⟨⟨_,rfl,.dead _⟩,trivial⟩,⟨⟨_,rfl,ToB.rows rfl (prs _)⟩,trivial⟩,⟨⟨_,rfl,ToB.mapE rfl PM.out⟩,trivial⟩,⟨⟨_,rfl,ToB.one (ToL.stoR rfl rfl rfl)⟩,trivial⟩,⟨⟨_,rfl,ToB.one (ToL.pure (pr _))⟩,trivial⟩,⟨⟨_,rfl,ToB.rows rfl (prs [bR nxt])⟩,trivial⟩,⟨⟨_,rfl,ToB.rows rfl (prs _)⟩,trivial⟩,trivial⟩
   | true=>
    rw[hg,if_pos rfl] at he
    have hat:=LB st (by omega) (cY sec st st)
    have hfl:cY sec st st=!sec st:=by unfold cY; rw[if_pos rfl]
    rw[hfl] at hat
    have han:(if (!sec st)=true then 3+2 * st else 2+2 * st)=atN st (!sec st):=rfl
    rw[han] at hat
    have ha2:atN st (!sec st) < b1.k:=by unfold atN; split<;>omega
    obtain⟨a,ha⟩:∃ a,a=atN st (!sec st):=⟨_,rfl⟩
    rw[← ha] at hat ha2 he
    refine d5 ?_
    refine AWP.dkm 16 _ jY rfl rfl (by kernel_rfl) (by kernel_rfl) (by kernel_rfl) ?_
    refine aB ?_
    refine DK.o rfl (jN rfl rfl hs255) ?_
    refine DK.o rfl (bF rfl (show hget (aE b1 10 (aM _++_)) 8 0=some (.cells 257 [rootR n (cY sec st)]) from rfl) rfl (oQ hs255)) ?_
    rw[hfl]
    refine aB ?_
    refine DK.nil ⟨by kernel_rfl,?_⟩
    refine Reg.cv (nlB rfl) rfl rfl ((aD.bk1 (args:=[.ptr 0 0 0 0,.sc (.int .i64 (to:Nat)),.sc (.int .i64 (a:Nat)),.asl 11 0 0 0 64]) (dg:=11) (d:=.cells 64 [bR cur]) (sG h1 (by omega) hto ha2 (row:=0) (f:=cur) rfl) (gB _ _ _ _) (.sc _) (jG _) rfl rfl ⟨.ptr _ _ _ _ _ _ rfl,.sc _,.sc _,.asl _ _ _ _ _ _ _ rfl,trivial⟩).mono ?_)
    rintro res H' ⟨rfl,rfl⟩
    have hw1:=iU h1 hto ha2 cur
    have hw2:=gB b1 to a cur
    have hw3:=kF b1 to a cur
    generalize cX b1 to a cur=w at *
    obtain⟨e,b2⟩:=w
    refine aB ?_
    refine DK.nil ⟨by kernel_rfl,?_⟩
    refine aB ?_
    refine AWP.condN (¬ e=0) rfl (gQ e) (fun h0=>?_) (fun h0=>?_)
    ·rw[if_neg h0] at he
     rw[← he]
     refine aB ?_
     refine c7 9 (aM [.dead,.cells 1 (byR s.bytes),.map (chE s.ch),.cells 263 [stoR s (5,0) (6,0)],.cells 257 [rootR n (cY sec st)],lateB b2]) [[(4,0)],[(5,0)],[(6,0)],[(7,0)],[(8,0)],[(13,0)]] [] (res':=.sc (.int .i64 e)) ⟨rfl,rfl⟩ ?_
     ·exact⟨⟨⟨_,rfl,.dead _⟩,trivial⟩,⟨⟨_,rfl,ToB.rows rfl (prs _)⟩,trivial⟩,⟨⟨_,rfl,ToB.mapE rfl PM.out⟩,trivial⟩,⟨⟨_,rfl,ToB.one (ToL.stoR rfl rfl rfl)⟩,trivial⟩,⟨⟨_,rfl,ToB.one (ToL.pure (pr _))⟩,trivial⟩,⟨⟨_,rfl,ToB.rows rfl (prs _)⟩,trivial⟩,trivial⟩
    ·replace h0:e=0:=Decidable.byContradiction h0
     rw[if_pos h0] at he
     refine aB ?_
     refine⟨k+1,nxt,b2,⟨by omega,by rw[← he,show b.n - (k+1)=m by omega,ha],hw1.le (by omega),by rw[← hn,← hw2],by rw[← hkk,← hw3]⟩,by omega,?_⟩
     refine Sub.bk [] [[(4,0)],[(5,0)],[(6,0)],[(7,0)],[(8,0)],[(9,0)],[(13,0)]] [] ?_ ?_
     ·(all_goals exact bO)
     ·exact⟨⟨⟨_,rfl,.dead _⟩,trivial⟩,⟨⟨_,rfl,ToB.rows rfl (prs _)⟩,trivial⟩,⟨⟨_,rfl,ToB.mapE rfl PM.out⟩,trivial⟩,⟨⟨_,rfl,ToB.one (ToL.stoR rfl rfl rfl)⟩,trivial⟩,⟨⟨_,rfl,ToB.one (ToL.pure (pr _))⟩,trivial⟩,⟨⟨_,rfl,ToB.rows rfl (prs [bR nxt])⟩,trivial⟩,⟨⟨_,rfl,ToB.rows rfl (prs _)⟩,trivial⟩,trivial⟩
  ·have hcur:qA s (st * aV b+k * 64) b1.n k sum=sum:=by unfold qA; rw[if_neg (by omega)]
   have hnxt:w7 s (st * aV b+k * 64) b1.n k sum=sum:=by unfold w7; rw[if_neg (by omega)]
   rw[hcur,hnxt] at he
   rw[dFa (show¬ k < b.n - 1 by omega)]
   refine aB ?_
   refine Reg.sub (fr':=[(0,.ptr 7 0 0 0),(1,.sc (.int .i64 (st:Nat))),(2,.ptr 8 0 0 0),(8,.sc (.int .i64 (aV b:Nat))),(9,.ptr 9 0 0 0),(11,.ptr 11 0 0 0),(39,.sc (.int .i64 (b.n:Nat))),(40,.sc (.int .i64 (k:Nat))),(76,.ifc 49 (.ptr 0 0 0 0)),(77,.sc (.int .i64 (st:Nat))),(78,.sc (.int .i64 (k:Nat)))]) (H':=aE b1 10 (aM [.dead,.cells 1 (byR s.bytes),.map (chE s.ch),.cells 263 [stoR s (5,0) (6,0)],.cells 257 [rootR n (cY sec st)],.cells 64 [bR sum],lateB b1,.cells 64 [bR sum]])) ?_ ?_
   ·refine Sub.bk [] [[(4,0)],[(5,0)],[(6,0)],[(7,0)],[(8,0)],[(9,0)],[(10,0)],[(11,0)]] [] ?_ ?_
    ·(all_goals exact bO)
    ·exact⟨⟨⟨_,rfl,.dead _⟩,trivial⟩,⟨⟨_,rfl,ToB.rows rfl (prs _)⟩,trivial⟩,⟨⟨_,rfl,ToB.mapE rfl PM.out⟩,trivial⟩,⟨⟨_,rfl,ToB.one (ToL.stoR rfl rfl rfl)⟩,trivial⟩,⟨⟨_,rfl,ToB.one (ToL.pure (pr _))⟩,trivial⟩,⟨⟨_,rfl,ToB.rows rfl (prs [bR sum])⟩,trivial⟩,⟨⟨_,rfl,ToB.rows rfl (prs _)⟩,trivial⟩,⟨⟨_,rfl,ToB.rows rfl (prs [bR sum])⟩,trivial⟩,trivial⟩
   refine Reg.c (nlB rfl) rfl ((BN h1.n0 (st:=st) (k:=k) (by omega) (by omega) h1.n8).mono ?_)
   rintro res H' ⟨rfl,rfl⟩
   have hto:(st+k) % b1.n < b1.n:=Nat.mod_lt _ h1.n0
   obtain⟨to,hto2⟩:∃ to,to=(st+k) % b1.n:=⟨_,rfl⟩
   rw[← hto2] at hto he ⊢
   refine aB ?_
   refine Reg.cv (by first | exact Nat.le_refl _ | exact nlB rfl) rfl rfl ((qN h1.n0 (to:Int)).mono ?_); rintro res H' ⟨rfl,rfl⟩; try (refine aB ?_)
   cases hg:hN b1 (to:Int) with
   | false=>
    rw[hg,if_neg (by simp)] at he
    refine aB ?_
    refine⟨k+1,sum,b1,⟨by omega,by rw[← he,show b.n - (k+1)=m by omega],h1.le (by omega),hn,hkk⟩,by omega,?_⟩
    refine Sub.bk [] [[(4,0)],[(5,0)],[(6,0)],[(7,0)],[(8,0)],[(9,0)],[(10,0)]] [] ?_ ?_
    ·(all_goals exact bO)
    ·exact⟨⟨⟨_,rfl,.dead _⟩,trivial⟩,⟨⟨_,rfl,ToB.rows rfl (prs _)⟩,trivial⟩,⟨⟨_,rfl,ToB.mapE rfl PM.out⟩,trivial⟩,⟨⟨_,rfl,ToB.one (ToL.stoR rfl rfl rfl)⟩,trivial⟩,⟨⟨_,rfl,ToB.one (ToL.pure (pr _))⟩,trivial⟩,⟨⟨_,rfl,ToB.rows rfl (prs [bR sum])⟩,trivial⟩,⟨⟨_,rfl,ToB.rows rfl (prs _)⟩,trivial⟩,trivial⟩
   | true=>
    rw[hg,if_pos rfl] at he
    have hat:=LB st (by omega) (cY sec st st)
    have hfl:cY sec st st=!sec st:=by unfold cY; rw[if_pos rfl]
    rw[hfl] at hat
    have han:(if (!sec st)=true then 3+2 * st else 2+2 * st)=atN st (!sec st):=rfl
    rw[han] at hat
    have ha2:atN st (!sec st) < b1.k:=by unfold atN; split<;>omega
    obtain⟨a,ha⟩:∃ a,a=atN st (!sec st):=⟨_,rfl⟩
    rw[← ha] at hat ha2 he
    refine d5 ?_
    refine AWP.dkm 16 _ jY rfl rfl (by kernel_rfl) (by kernel_rfl) (by kernel_rfl) ?_
    refine aB ?_
    refine DK.o rfl (jN rfl rfl hs255) ?_
    refine DK.o rfl (bF rfl (show hget (aE b1 10 (aM _++_)) 8 0=some (.cells 257 [rootR n (cY sec st)]) from rfl) rfl (oQ hs255)) ?_
    rw[hfl]
    refine aB ?_
    refine DK.nil ⟨by kernel_rfl,?_⟩
    refine Reg.cv (nlB rfl) rfl rfl ((aD.bk1 (args:=[.ptr 0 0 0 0,.sc (.int .i64 (to:Nat)),.sc (.int .i64 (a:Nat)),.asl 11 0 0 0 64]) (dg:=11) (d:=.cells 64 [bR sum]) (sG h1 (by omega) hto ha2 (row:=0) (f:=sum) rfl) (gB _ _ _ _) (.sc _) (jG _) rfl rfl ⟨.ptr _ _ _ _ _ _ rfl,.sc _,.sc _,.asl _ _ _ _ _ _ _ rfl,trivial⟩).mono ?_)
    rintro res H' ⟨rfl,rfl⟩
    have hw1:=iU h1 hto ha2 sum
    have hw2:=gB b1 to a sum
    have hw3:=kF b1 to a sum
    generalize cX b1 to a sum=w at *
    obtain⟨e,b2⟩:=w
    refine aB ?_
    refine DK.nil ⟨by kernel_rfl,?_⟩
    refine aB ?_
    refine AWP.condN (¬ e=0) rfl (gQ e) (fun h0=>?_) (fun h0=>?_)
    ·rw[if_neg h0] at he
     rw[← he]
     refine aB ?_
     refine c7 9 (aM [.dead,.cells 1 (byR s.bytes),.map (chE s.ch),.cells 263 [stoR s (5,0) (6,0)],.cells 257 [rootR n (cY sec st)],lateB b2]) [[(4,0)],[(5,0)],[(6,0)],[(7,0)],[(8,0)],[(13,0)]] [] (res':=.sc (.int .i64 e)) ⟨rfl,rfl⟩ ?_
     ·exact⟨⟨⟨_,rfl,.dead _⟩,trivial⟩,⟨⟨_,rfl,ToB.rows rfl (prs _)⟩,trivial⟩,⟨⟨_,rfl,ToB.mapE rfl PM.out⟩,trivial⟩,⟨⟨_,rfl,ToB.one (ToL.stoR rfl rfl rfl)⟩,trivial⟩,⟨⟨_,rfl,ToB.one (ToL.pure (pr _))⟩,trivial⟩,⟨⟨_,rfl,ToB.rows rfl (prs _)⟩,trivial⟩,trivial⟩
    ·replace h0:e=0:=Decidable.byContradiction h0
     rw[if_pos h0] at he
     refine aB ?_
     refine⟨k+1,sum,b2,⟨by omega,by rw[← he,show b.n - (k+1)=m by omega,ha],hw1.le (by omega),by rw[← hn,← hw2],by rw[← hkk,← hw3]⟩,by omega,?_⟩
     refine Sub.bk [] [[(4,0)],[(5,0)],[(6,0)],[(7,0)],[(8,0)],[(9,0)],[(13,0)]] [] ?_ ?_
     ·(all_goals exact bO)
     ·exact⟨⟨⟨_,rfl,.dead _⟩,trivial⟩,⟨⟨_,rfl,ToB.rows rfl (prs _)⟩,trivial⟩,⟨⟨_,rfl,ToB.mapE rfl PM.out⟩,trivial⟩,⟨⟨_,rfl,ToB.one (ToL.stoR rfl rfl rfl)⟩,trivial⟩,⟨⟨_,rfl,ToB.one (ToL.pure (pr _))⟩,trivial⟩,⟨⟨_,rfl,ToB.rows rfl (prs [bR sum])⟩,trivial⟩,⟨⟨_,rfl,ToB.rows rfl (prs _)⟩,trivial⟩,trivial⟩
 ·obtain rfl:k=b.n:=by omega
  rw[Nat.sub_self] at he
  rw[← he]
  unfold KS
  refine aB ?_
  refine c7 9 (aM [.dead,.cells 1 (byR s.bytes),.map (chE s.ch),.cells 263 [stoR s (5,0) (6,0)],.cells 257 [rootR n (cY sec st)],lateB b1]) [[(4,0)],[(5,0)],[(6,0)],[(7,0)],[(8,0)],[(10,0)]] [] (res':=.sc (.int .i64 0)) ⟨rfl,rfl⟩ ?_
  ·exact⟨⟨⟨_,rfl,.dead _⟩,trivial⟩,⟨⟨_,rfl,ToB.rows rfl (prs _)⟩,trivial⟩,⟨⟨_,rfl,ToB.mapE rfl PM.out⟩,trivial⟩,⟨⟨_,rfl,ToB.one (ToL.stoR rfl rfl rfl)⟩,trivial⟩,⟨⟨_,rfl,ToB.one (ToL.pure (pr _))⟩,trivial⟩,⟨⟨_,rfl,ToB.rows rfl (prs _)⟩,trivial⟩,trivial⟩
variable {b:Bk} {s:Sto} {c:Nat}
theorem uD:∀(H:Heap) (x:Blk),aJ H H.length 0 x=H++[[x]]
 | [],_=>rfl
 | f::r,x=>by
  show f::aJ r r.length 0 x=f::(r++[[x]])
  rw[uD r x]
theorem JR {G:Heap}:aD Tryz.prog 92 [.mref 6 0] (stH b s G) fun res H'=>res=.clo (.func 139) [] [.ptr (stH b s G).length 0 0 0]∧H'=stH b s G++[[.cells 1 [[.mref 6 0]]]]:=by
 refine aD.of cF92 ?_ (nlB rfl)
 refine aB ?_
 refine⟨.inr rfl,_,_,_,rfl,cQ.refl _ _ _,rfl,?_⟩
 exact uD _ _
def skL (l:List Nat):List Nat:=(kG (l.map fun i:Nat=>(i:Int))).map Int.toNat
theorem o4 {l:List Int} {x:Int}:x∈kG l↔x∈l:=(List.mergeSort_perm l _).mem_iff
theorem CO {l:List Nat} {x:Nat}:x∈skL l↔x∈l:=by
 unfold skL
 rw[List.mem_map]
 constructor
 ·rintro⟨y,hy,rfl⟩
  obtain⟨z,hz,rfl⟩:=List.mem_map.1 (o4.1 hy)
  exact hz
 ·intro h
  exact⟨(x:Int),o4.2 (List.mem_map.2 ⟨x,h,rfl⟩),rfl⟩
theorem wF (l:List Nat):(skL l).length=l.length:=by
 unfold skL kG
 rw[List.length_map,(List.mergeSort_perm _ _).length_eq,List.length_map]
theorem IM (l:List Nat):kG (l.map fun i:Nat=>(i:Int))=(skL l).map fun i:Nat=>(i:Int):=by
 unfold skL
 rw[List.map_map]
 apply List.ext_getElem?
 intro j
 rw[List.getElem?_map]
 cases h:(kG (l.map fun i:Nat=>(i:Int)))[j]? with
 | none=>rfl
 | some x=>
  obtain⟨y,_,rfl⟩:=List.mem_map.1 (o4.1 (List.mem_of_getElem? h))
  rfl
def cT (s:Sto):List Nat→(Nat→Bool)→Bk→Int×Bk×(Nat→Bool)
 | [],sec,b=>(0,b,sec)
 | st::r,sec,b=>if (d8 b s st (!sec st)).1=0 then cT s r (cY sec st) (d8 b s st (!sec st)).2 else((d8 b s st (!sec st)).1,(d8 b s st (!sec st)).2,cY sec st)
theorem pJ (s:Sto) (st:Nat) (r:List Nat) (sec:Nat→Bool) (b:Bk):cT s (st::r) sec b=if (d8 b s st (!sec st)).1=0 then cT s r (cY sec st) (d8 b s st (!sec st)).2 else((d8 b s st (!sec st)).1,(d8 b s st (!sec st)).2,cY sec st):=rfl
theorem rC (hb:BOK b c) {st:Nat} (hst:st < aU b) (x:Bool):BOK (d8 b s st x).2 (c+16)∧(d8 b s st x).2.n=b.n∧(d8 b s st x).2.k=b.k:=by
 have h8:=hb.n8
 have ha:atN st x < b.k:=by unfold atN; unfold aU at hst; split<;>omega
 obtain⟨q1,q2,q3⟩:=rQ (s:=s) (st:=st) (a:=atN st x) (size:=aV b) (r:=b.n) (k:=0) (sum:=fun _=>0) hb ha
 exact⟨q1.le (by omega),q2,q3⟩
theorem uQ {s:Sto}:∀ {l:List Nat} {sec:Nat→Bool} {b:Bk} {c:Nat},BOK b c→(∀ x∈l,x < aU b)→BOK (cT s l sec b).2.1 (c+16 * l.length)∧(cT s l sec b).2.1.n=b.n∧(cT s l sec b).2.1.k=b.k
 | [],_,_,_,hb,_=>⟨hb,rfl,rfl⟩
 | st::r,sec,b,c,hb,hl=>by
  obtain⟨h1,h2,h3⟩:=rC (s:=s) hb (hl st (by simp)) (!sec st)
  unfold cT
  rw[List.length_cons]
  split
  ·obtain⟨q1,q2,q3⟩:=uQ (s:=s) (l:=r) (sec:=cY sec st) h1 (fun x hx=>by unfold aU; rw[h3]; exact hl x (by simp[hx]))
   exact⟨q1.le (by omega),q2.trans h2,q3.trans h3⟩
  ·exact⟨h1.le (by omega),h2,h3⟩
def nN (b:Bk) (s:Sto) (n:Nat) (sec:Nat→Bool):Heap:=aM [.dead,.cells 1 (byR s.bytes),.map (chE s.ch),.cells 263 [stoR s (5,0) (6,0)],.cells 257 [rootR n sec],lateB b]
theorem J0 (hb:BOK b c) (hc:c < 1000000) (hn3:3≤b.n) {st:Nat} (hst:st < aU b) (hbl:s.bytes.length=aU b * aV b) (n:Nat) (sec:Nat→Bool):
  aD Tryz.prog 93 [.ptr 7 0 0 0,.sc (.int .i64 (st:Nat)),.ptr 8 0 0 0] (aE b 9 (nN b s n sec)) fun res H'=>res=.sc (.int .i64 (d8 b s st (!sec st)).1) ∧
   H'=aE (d8 b s st (!sec st)).2 10 (aM [.dead,.cells 1 (byR s.bytes),.map (chE s.ch),.cells 263 [stoR s (5,0) (6,0)],.cells 257 [rootR n (cY sec st)],.dead,lateB (d8 b s st (!sec st)).2]):=by
 have h2:=(rC (s:=s) hb hst (!sec st)).2.1
 refine aD.bkG (E0:=[.cells 1 (byR s.bytes),.map (chE s.ch),.cells 263 [stoR s (5,0) (6,0)],.cells 257 [rootR n sec]]) [(5,0),(6,0),(7,0),(8,0)] (JD hb hc hn3 hst hbl n sec) rfl (by simp) (by decide) (by simp) rfl ⟨.ptr _ _ _ _ _ _ rfl,.sc _,.ptr _ _ _ _ _ _ rfl,trivial⟩ (fun j p x h1 h2=>?_) fun res H' hr=>?_
 ·match j with
  | 0=>injection h1 with h1; injection h2 with h2; subst h1 h2; exact⟨rfl,_,rfl,bJ.pure _ _ (prs _)⟩
  | 1=>injection h1 with h1; injection h2 with h2; subst h1 h2; exact⟨rfl,_,rfl,.pureMap _ PM.out⟩
  | 2=>injection h1 with h1; injection h2 with h2; subst h1 h2; exact⟨rfl,_,rfl,bJ.stoR rfl rfl rfl⟩
  | 3=>injection h1 with h1; injection h2 with h2; subst h1 h2; exact⟨rfl,_,rfl,bJ.pure _ _ (prs [rootR n sec])⟩
  | j+4=>simp at h1
 ·obtain⟨rfl,rfl⟩:=hr
  refine⟨(d8 b s st (!sec st)).2,[.cells 1 (byR s.bytes),.map (chE s.ch),.cells 263 [stoR s (5,0) (6,0)],.cells 257 [rootR n (cY sec st)]],[.cells 1 (byR s.bytes),.map (chE s.ch),.cells 263 [stoR s (5,0) (6,0)],.cells 257 [rootR n (cY sec st)]],[],[],_,h2,rfl,rfl,rfl,rfl,.sc _,fun j x y h1 h2=>?_,fun j x y h1 h2=>by simp at h1,rfl,rfl⟩
  match j with
  | 0=>injection h1 with h1; injection h2 with h2; subst h1 h2; exact bJ.pure _ _ (prs _)
  | 1=>injection h1 with h1; injection h2 with h2; subst h1 h2; exact .pureMap _ PM.out
  | 2=>injection h1 with h1; injection h2 with h2; subst h1 h2; exact bJ.stoR rfl rfl rfl
  | 3=>injection h1 with h1; injection h2 with h2; subst h1 h2; exact bJ.pure _ _ (prs [rootR n (cY sec st)])
  | j+4=>simp at h1
def bA (b:Bk) (s:Sto):Int×Bk×(Nat→Bool):=if (cT s (skL s.ch) s.sec b).1=0 then((bN (cT s (skL s.ch) s.sec b).2.1).1,(bN (cT s (skL s.ch) s.sec b).2.1).2,(cT s (skL s.ch) s.sec b).2.2) else cT s (skL s.ch) s.sec b
theorem zJ (hb:BOK b c) (hch:∀ x∈s.ch,x < aU b):BOK (bA b s).2.1 (c+16 * s.ch.length+1)∧(bA b s).2.1.n=b.n∧(bA b s).2.1.k=b.k:=by
 obtain⟨q1,q2,q3⟩:=uQ (s:=s) (l:=skL s.ch) (sec:=s.sec) hb (fun x hx=>hch x (CO.1 hx))
 rw[wF] at q1
 unfold bA
 split
 ·exact⟨k6 q1,(g5 _).trans q2,(mS _).trans q3⟩
 ·exact⟨q1.le (by omega),q2,q3⟩
set_option maxHeartbeats 4000000 in
theorem HZ (hb:BOK b c) (hc:c < 100000) (hn3:3≤b.n) (hch:∀ x∈s.ch,x < aU b) (hcl:s.ch.length≤12) (hbl:s.bytes.length=aU b * aV b) (n:Nat):
  aD Tryz.prog 90 [.cptr [.ptr 7 0 0 0],.ptr 8 0 0 0] (stH b s [[.cells 257 [rootR n s.sec]]]) fun res H'=>res=.sc (.int .i64 (bA b s).1)∧H'=aE (bA b s).2.1 9 (nN (bA b s).2.1 s n (bA b s).2.2):=by
 refine aD.of cF90 ?_ (nlB rfl)
 refine aB ?_
 refine Reg.c (Nat.le_refl _) rfl (JR.mono ?_)
 rintro res H' ⟨rfl,rfl⟩
 have hs:=u9 (H:=stH b s [[.cells 257 [rootR n s.sec]]]++[[.cells 1 [[.mref 6 0]]]]) (g:=9) (i:=0) (g':=6) (i':=0) (s.ch.map fun i:Nat=>((i:Int),AV.sc (.bool true))) rfl (by unfold g7; rw[List.map_map]; rfl) (by rw[List.length_map]; exact hcl)
 rw[List.length_map,List.map_map,show((fun p:Int×AV=>p.1) ∘ fun i:Nat=>((i:Int),AV.sc (.bool true)))=fun i:Nat=>(i:Int) from rfl,IM] at hs
 refine Reg.c (nlB rfl) rfl (hs.mono ?_)
 rintro res H' ⟨rfl,rfl⟩
 refine aB ?_
 obtain⟨kl,hkl⟩:∃ kl,kl=skL s.ch:=⟨_,rfl⟩
 have hkn:kl.length=s.ch.length:=by rw[hkl,wF]
 have hkm:∀ x∈kl,x < aU b:=fun x hx=>hch x (CO.1 (by rw[← hkl]; exact hx))
 have hil:(cA (kl.map fun i:Nat=>(i:Int))).length=kl.length:=by rw[oU,List.length_map]
 have hix:∀ j (h:j < kl.length),iD (cA (kl.map fun i:Nat=>(i:Int))) (j:Int)=some [.sc (.int .i64 (kl[j]:Nat))]:=fun j h=>by
  unfold cA
  rw[List.map_map]
  exact kY (fun i:Nat=>[AV.sc (.int .i64 (i:Int))]) kl j h
 have hF:bA b s=if (cT s kl s.sec b).1=0 then((bN (cT s kl s.sec b).2.1).1,(bN (cT s kl s.sec b).2.1).2,(cT s kl s.sec b).2.2) else cT s kl s.sec b:=by rw[hkl]; rfl
 rw[← hkl,← hkn]
 refine AWP.loop3 (fun(j:Nat) (sec:Nat→Bool) (b1:Bk)=>[(0,.cptr [.ptr 7 0 0 0]),(1,.ptr 8 0 0 0),(11,.list 1 (cA (kl.map fun i:Nat=>(i:Int)))),(12,.sc (.int .i64 (kl.length:Nat))),(13,.sc (.int .i64 (j:Nat)))]) (fun j sec b1=>aE b1 9 (nN b1 s n sec))
  (fun j sec b1=>j≤kl.length∧cT s (kl.drop j) sec b1=cT s kl s.sec b∧BOK b1 (c+16 * j)∧b1.n=b.n∧b1.k=b.k) (fun j sec b1=>kl.length - j) 0 s.sec b ⟨Nat.zero_le _,rfl,hb,rfl,rfl⟩ ?_ ?_
 ·refine Sub.bk [] [[(4,0)],[(5,0)],[(6,0)],[(7,0)],[(8,0)],[(4,0)]] [4] ?_ ?_
  ·(all_goals exact bO)
  ·exact⟨⟨⟨_,rfl,.dead _⟩,trivial⟩,⟨⟨_,rfl,ToB.rows rfl (prs _)⟩,trivial⟩,⟨⟨_,rfl,ToB.mapE rfl PM.out⟩,trivial⟩,⟨⟨_,rfl,ToB.one (ToL.stoR rfl rfl rfl)⟩,trivial⟩,⟨⟨_,rfl,ToB.one (ToL.pure (pr _))⟩,trivial⟩,⟨⟨_,rfl,ToB.rows rfl (prs _)⟩,trivial⟩,trivial⟩
 rintro j sec b1 ⟨hj,he,h1,hn,hk⟩
 refine aB ?_
 refine AWP.condN (j < kl.length) rfl (by rfl) (fun h=>?_) (fun h=>?_)
 ·have hrow:=hix j h
  have hst:=hkm kl[j] (List.getElem_mem _)
  rw[List.drop_eq_getElem_cons h] at he
  generalize kl[j]=st at *
  rw[pJ] at he
  have hst1:st < aU b1:=by unfold aU at hst ⊢; rw[hk]; exact hst
  have hbl1:s.bytes.length=aU b1 * aV b1:=by rw[hbl]; unfold aU aV; rw[hk,hn]
  obtain⟨q1,q2,q3⟩:=rC (s:=s) h1 hst1 (!sec st)
  refine aB ?_
  refine Reg.c (nlB rfl) rfl ((J0 h1 (by omega) (by omega) hst1 hbl1 n sec).mono ?_)
  rintro res H' ⟨rfl,rfl⟩
  generalize d8 b1 s st (!sec st)=w at *
  obtain⟨e,b2⟩:=w
  refine aB ?_
  refine AWP.condN (¬ e=0) rfl (gQ e) (fun h0=>?_) (fun h0=>?_)
  ·rw[if_neg h0] at he
   rw[hF,← he,if_neg h0]
   refine aB ?_
   refine c7 9 (nN b2 s n (cY sec st)) [[(4,0)],[(5,0)],[(6,0)],[(7,0)],[(8,0)],[(10,0)]] [] (res':=.sc (.int .i64 e)) ⟨rfl,rfl⟩ ?_
   ·exact⟨⟨⟨_,rfl,.dead _⟩,trivial⟩,⟨⟨_,rfl,ToB.rows rfl (prs _)⟩,trivial⟩,⟨⟨_,rfl,ToB.mapE rfl PM.out⟩,trivial⟩,⟨⟨_,rfl,ToB.one (ToL.stoR rfl rfl rfl)⟩,trivial⟩,⟨⟨_,rfl,ToB.one (ToL.pure (pr _))⟩,trivial⟩,⟨⟨_,rfl,ToB.rows rfl (prs _)⟩,trivial⟩,trivial⟩
  ·replace h0:e=0:=Decidable.byContradiction h0
   rw[if_pos h0] at he
   refine aB ?_
   refine⟨j+1,cY sec st,b2,⟨by omega,he,q1.le (by omega),q2.trans hn,q3.trans hk⟩,by omega,?_⟩
   refine Sub.bk [] [[(4,0)],[(5,0)],[(6,0)],[(7,0)],[(8,0)],[(10,0)]] [] ?_ ?_
   ·(all_goals exact bO)
   ·exact⟨⟨⟨_,rfl,.dead _⟩,trivial⟩,⟨⟨_,rfl,ToB.rows rfl (prs _)⟩,trivial⟩,⟨⟨_,rfl,ToB.mapE rfl PM.out⟩,trivial⟩,⟨⟨_,rfl,ToB.one (ToL.stoR rfl rfl rfl)⟩,trivial⟩,⟨⟨_,rfl,ToB.one (ToL.pure (pr _))⟩,trivial⟩,⟨⟨_,rfl,ToB.rows rfl (prs _)⟩,trivial⟩,trivial⟩
 ·obtain rfl:j=kl.length:=by omega
  rw[List.drop_length] at he
  rw[hF,← he,if_pos (show(cT s [] sec b1).1=0 from rfl)]
  refine aB ?_
  refine Reg.cv (nlB rfl) rfl rfl ((aD.bk0 (args:=[.ptr 0 0 0 0]) (mV h1 (by omega)) (g5 _) (.sc _) rfl ⟨.ptr _ _ _ _ _ _ rfl,trivial⟩).mono ?_)
  rintro res H' ⟨rfl,rfl⟩
  refine aB ?_
  refine c7 9 (nN (bN b1).2 s n sec) [[(4,0)],[(5,0)],[(6,0)],[(7,0)],[(8,0)],[(10,0)]] [] (res':=.sc (.int .i64 (bN b1).1)) ⟨rfl,rfl⟩ ?_
  ·exact⟨⟨⟨_,rfl,.dead _⟩,trivial⟩,⟨⟨_,rfl,ToB.rows rfl (prs _)⟩,trivial⟩,⟨⟨_,rfl,ToB.mapE rfl PM.out⟩,trivial⟩,⟨⟨_,rfl,ToB.one (ToL.stoR rfl rfl rfl)⟩,trivial⟩,⟨⟨_,rfl,ToB.one (ToL.pure (pr _))⟩,trivial⟩,⟨⟨_,rfl,ToB.rows rfl (prs _)⟩,trivial⟩,trivial⟩
variable {b:Bk} {s:Sto} {c:Nat}
theorem HT (hb:BOK b c) (hc:c < 1000000) (n:Nat) (sec:Nat→Bool):
  aD Tryz.prog 94 [.cptr [.ptr 7 0 0 0],.ptr 8 0 0 0] (aE b 9 (nN b s n sec)) fun res H'=>res=.sc (.int .i64 (bG b n sec).1) ∧
   H'=aE (bG b n sec).2 10 (aM [.dead,.cells 1 (byR s.bytes),.map (chE s.ch),.cells 263 [stoR s (5,0) (6,0)],.cells 257 [rootR n sec],.dead,lateB (bG b n sec).2]):=by
 refine aD.of cF94 ?_ (nlB rfl)
 have hrl:=cK n sec
 have hcm:=(jT hb n sec).2.1
 unfold nN
 refine d5 ?_
 refine AWP.dkm 5 _ jY rfl rfl (by kernel_rfl) (by kernel_rfl) (by kernel_rfl) ?_
 refine aB ?_
 refine DK.nil ⟨by kernel_rfl,?_⟩
 refine Reg.c (nlB rfl) rfl ((aD.bk0 (args:=[.ifc 49 (.ptr 0 0 0 0),.agg (rootR n sec)]) (uF hb (by omega) n sec) hcm (.sc _) rfl ⟨.ifc _ _ _ (.ptr _ _ _ _ _ _ rfl),.pure (pv _),trivial⟩).mono ?_)
 rintro res H' ⟨rfl,rfl⟩
 refine aB ?_
 refine DK.nil ⟨by kernel_rfl,?_⟩
 refine aB ?_
 refine c7 10 (aM [.dead,.cells 1 (byR s.bytes),.map (chE s.ch),.cells 263 [stoR s (5,0) (6,0)],.cells 257 [rootR n sec],.dead,lateB (bG b n sec).2]) [[(4,0)],[(5,0)],[(6,0)],[(7,0)],[(8,0)],[(9,0)],[(11,0)]] [] (res':=.sc (.int .i64 (bG b n sec).1)) ⟨rfl,rfl⟩ ?_
 ·exact⟨⟨⟨_,rfl,.dead _⟩,trivial⟩,⟨⟨_,rfl,ToB.rows rfl (prs _)⟩,trivial⟩,⟨⟨_,rfl,ToB.mapE rfl PM.out⟩,trivial⟩,⟨⟨_,rfl,ToB.one (ToL.stoR rfl rfl rfl)⟩,trivial⟩,⟨⟨_,rfl,ToB.one (ToL.pure (pr _))⟩,trivial⟩,⟨⟨_,rfl,.dead _⟩,trivial⟩,⟨⟨_,rfl,ToB.rows rfl (prs _)⟩,trivial⟩,trivial⟩
theorem KQ (s:Sto) (bp mp:Nat×Nat):((stoR s bp mp).drop 4).take 257=rootR s.num s.sec:=by
 show(rootR s.num s.sec++_).take 257=_
 rw[List.take_append_of_le_length (Nat.le_of_eq (cK _ _).symm),List.take_of_length_le (Nat.le_of_eq (cK _ _))]
theorem pW:∀ {l l' t:List AV},l.length=l'.length→bB (l++t) 0 l'=l'++t
 | [],[],[],_=>rfl
 | [],[],_::_,_=>rfl
 | x::l,y::l',t,h=>by
  show y::bB (l++t) 0 l'=y::(l'++t)
  rw[pW (by simpa using h)]
theorem HO (s:Sto) (n:Nat) (sec:Nat→Bool) (ch:List Nat) (bp mp:Nat×Nat):bB (stoR s bp mp) 4 (rootR n sec)=stoR { s with num:=n,sec:=sec,ch:=ch } bp mp:=by
 show _::_::_::_::bB (rootR s.num s.sec++_) 0 (rootR n sec)=_
 rw[pW (by rw[cK,cK])]
 rfl
def BG (b:Bk) (s:Sto):Heap:=aM [.dead,.cells 1 (byR s.bytes),.map (chE s.ch),.cells 263 [stoR s (5,0) (6,0)],lateB b]
def cO (b:Bk) (s:Sto):Int×Bk×Sto:=
 if dI b s=0 then(if s.ch.length=0 then(0,b,s) else
  if (bA b s).1=0 then(if (bG (bA b s).2.1 (s.num+1) (bA b s).2.2).1=0 then(0,(bG (bA b s).2.1 (s.num+1) (bA b s).2.2).2,{ s with num:=s.num+1,sec:=(bA b s).2.2,ch:=[] })
   else((bG (bA b s).2.1 (s.num+1) (bA b s).2.2).1,(bG (bA b s).2.1 (s.num+1) (bA b s).2.2).2,s))
  else((bA b s).1,(bA b s).2.1,s))
 else(dI b s,b,s)
def SynP (b:Bk) (s:Sto) (i:Nat) (H:Heap):Prop:=
 (i=0∧H=stH b s [[.cells 257 [rootR (s.num+1) s.sec]]])∨(i=1∧(bA b s).1=0∧H=aE (bA b s).2.1 9 (nN (bA b s).2.1 s (s.num+1) (bA b s).2.2)) ∨
 (i=2∧(bA b s).1=0∧(bG (bA b s).2.1 (s.num+1) (bA b s).2.2).1=0∧H=aE (bG (bA b s).2.1 (s.num+1) (bA b s).2.2).2 10 (aM [.dead,.cells 1 (byR s.bytes),.map (chE s.ch),.cells 263 [stoR s (5,0) (6,0)],.cells 257 [rootR (s.num+1) (bA b s).2.2],.dead,lateB (bG (bA b s).2.1 (s.num+1) (bA b s).2.2).2]))
def SynQ (b:Bk) (s:Sto) (e:Int) (H:Heap):Prop:=
 ((bA b s).1=e∧H=aE (bA b s).2.1 9 (nN (bA b s).2.1 s (s.num+1) (bA b s).2.2)) ∨
 ((bA b s).1=0∧(bG (bA b s).2.1 (s.num+1) (bA b s).2.2).1=e∧H=aE (bG (bA b s).2.1 (s.num+1) (bA b s).2.2).2 10 (aM [.dead,.cells 1 (byR s.bytes),.map (chE s.ch),.cells 263 [stoR s (5,0) (6,0)],.cells 257 [rootR (s.num+1) (bA b s).2.2],.dead,lateB (bG (bA b s).2.1 (s.num+1) (bA b s).2.2).2]))
def NM:List AV:=[.clo (.func 90) [] [.cptr [.ptr 7 0 0 0],.ptr 8 0 0 0],.clo (.func 94) [] [.cptr [.ptr 7 0 0 0],.ptr 8 0 0 0]]
theorem synS (hb:BOK b c) (hc:c < 100000) (hn3:3≤b.n) (hch:∀ x∈s.ch,x < aU b) (hcl:s.ch.length≤12) (hbl:s.bytes.length=aU b * aV b):
  aD Tryz.prog 77 [.list 1 (NM.map fun c=>[c])] (stH b s [[.cells 257 [rootR (s.num+1) s.sec]]]) fun res H'=>∃ e:Int,res=.sc (.int .i64 e)∧if e=0 then SynP b s 2 H' else SynQ b s e H':=by
 obtain⟨h3,_,_⟩:=zJ hb hch
 refine tO (SynP b s) (SynQ b s) (.inl ⟨rfl,rfl⟩) (nlB rfl) fun i hi H hP hH=>?_
 match i with
 | 0=>
  rcases hP with⟨_,rfl⟩ | ⟨h,_⟩ | ⟨h,_⟩
  ·refine⟨90,[],_,rfl,(HZ hb hc hn3 hch hcl hbl (s.num+1)).mono ?_⟩
   rintro res H' ⟨rfl,rfl⟩
   refine⟨nlB rfl,_,rfl,?_⟩
   show if (_:Int)=0 then _ else _
   split
   ·rename_i e
    exact .inr (.inl ⟨rfl,e,rfl⟩)
   ·exact .inl ⟨rfl,rfl⟩
  ·cases h
  ·cases h
 | 1=>
  rcases hP with⟨h,_⟩ | ⟨_,he,rfl⟩ | ⟨h,_⟩
  ·cases h
  ·refine⟨94,[],_,rfl,(HT h3 (by omega) (s.num+1) (bA b s).2.2).mono ?_⟩
   rintro res H' ⟨rfl,rfl⟩
   refine⟨nlB rfl,_,rfl,?_⟩
   show if (_:Int)=0 then _ else _
   split
   ·rename_i e
    exact .inr (.inr ⟨rfl,he,e,rfl⟩)
   ·exact .inr ⟨he,rfl,rfl⟩
  ·cases h
 | i+2=>exact absurd hi (by simp[NM])
set_option maxHeartbeats 4000000 in
theorem KX (hb:BOK b c) (hc:c < 100000) (hn3:3≤b.n) (hch:∀ x∈s.ch,x < aU b) (hcl:s.ch.length≤12) (hbl:s.bytes.length=aU b * aV b) (hnum:s.num≤1000000000):
  aD Tryz.prog 29 [.ptr 7 0 0 0] (stH b s []) fun res H'=>res=.sc (.int .i64 (cO b s).1)∧H'=aE (cO b s).2.1 8 (BG (cO b s).2.1 (cO b s).2.2):=by
 refine aD.of cF29 ?_ (nlB rfl)
 unfold cO
 refine aB ?_
 refine Reg.sub (fr':=[(1,.cptr [.ptr 7 0 0 0]),(6,.ptr 7 0 0 0)]) (H':=stH b s []) ?_ ?_
 ·refine Sub.st ?_
  (all_goals exact bO)
 refine Reg.c (Nat.le_refl _) rfl ((rF hb).mono ?_)
 rintro res H' ⟨rfl,rfl⟩
 refine aB ?_
 refine AWP.condN (¬ dI b s=0) rfl (gQ _) (fun h0=>?_) (fun h0=>?_)
 ·rw[if_neg h0]
  refine aB ?_
  refine c7 8 (BG b s) [[(4,0)],[(5,0)],[(6,0)],[(7,0)],[(4,0)]] [4] (res':=.sc (.int .i64 (dI b s))) ⟨rfl,rfl⟩ ?_
  ·exact⟨⟨⟨_,rfl,.dead _⟩,trivial⟩,⟨⟨_,rfl,ToB.rows rfl (prs _)⟩,trivial⟩,⟨⟨_,rfl,ToB.mapE rfl PM.out⟩,trivial⟩,⟨⟨_,rfl,ToB.one (ToL.stoR rfl rfl rfl)⟩,trivial⟩,⟨⟨_,rfl,ToB.rows rfl (prs _)⟩,trivial⟩,trivial⟩
 replace h0:dI b s=0:=Decidable.byContradiction h0
 rw[if_pos h0]
 have hcl2:(chE s.ch).length=s.ch.length:=by simp[chE]
 refine aB ?_
 refine AWP.condN (s.ch.length=0) rfl (by first | rfl | (rw[hcl2])) (fun h1=>?_) (fun h1=>?_)
 ·rw[if_pos h1]
  refine aB ?_
  refine c7 8 (BG b s) [[(4,0)],[(5,0)],[(6,0)],[(7,0)],[(4,0)]] [4] (res':=.sc (.int .i64 0)) ⟨rfl,rfl⟩ ?_
  ·exact⟨⟨⟨_,rfl,.dead _⟩,trivial⟩,⟨⟨_,rfl,ToB.rows rfl (prs _)⟩,trivial⟩,⟨⟨_,rfl,ToB.mapE rfl PM.out⟩,trivial⟩,⟨⟨_,rfl,ToB.one (ToL.stoR rfl rfl rfl)⟩,trivial⟩,⟨⟨_,rfl,ToB.rows rfl (prs _)⟩,trivial⟩,trivial⟩
 rw[if_neg h1]
 have hrl:=cK s.num s.sec
 have hrl2:=cK (s.num+1) s.sec
 have hrc:=fJ s.num s.sec
 refine aB ?_
 refine Reg.sub (fr':=[(1,.cptr [.ptr 7 0 0 0]),(4,.ptr 8 0 0 0),(27,.list 1 (NM.map fun c=>[c]))]) (H':=stH b s [[.cells 257 [rootR (s.num+1) s.sec]]]) ?_ ?_
 ·refine Sub.bk [] [[(4,0)],[(5,0)],[(6,0)],[(7,0)],[(8,0)]] [] ?_ ?_
  ·refine aO.cons (To.cptrL (ToL.cons (To.ptrO rfl rfl rfl) ToL.nil)) (aO.cons (To.ptrO rfl rfl rfl) (aO.cons (To.fzT rfl rfl rfl ?_) aO.nil))
   exact To.listR ⟨ToL.cons (To.cloL ToL.nil (ToL.cons (To.cptrL (ToL.cons (To.ptrO rfl rfl rfl) ToL.nil)) (ToL.cons (To.ptrO rfl rfl rfl) ToL.nil))) ToL.nil,
    ToL.cons (To.cloL ToL.nil (ToL.cons (To.cptrL (ToL.cons (To.ptrO rfl rfl rfl) ToL.nil)) (ToL.cons (To.ptrO rfl rfl rfl) ToL.nil))) ToL.nil,trivial⟩
  ·refine⟨⟨⟨_,rfl,ToB.rows rfl (prs _)⟩,trivial⟩,⟨⟨_,rfl,ToB.rows rfl (prs _)⟩,trivial⟩,⟨⟨_,rfl,ToB.mapE rfl PM.out⟩,trivial⟩,⟨⟨_,rfl,ToB.one (ToL.stoR rfl rfl rfl)⟩,trivial⟩,⟨⟨_,rfl,ToB.rows ?_ (prs [rootR (s.num+1) s.sec])⟩,trivial⟩,trivial⟩
   show[bB (((stoR s (5,0) (6,0)).drop 4).take 257) 0 [.sc (.int .u64 (s.num+1:Nat))]]=_
   rw[KQ]
   rfl
 refine Reg.c (nlB rfl) rfl ((synS hb hc hn3 hch hcl hbl).mono ?_)
 rintro res H' ⟨e,rfl,hR⟩
 have hrl3:=cK (s.num+1) (bA b s).2.2
 have hrc3:=fJ (s.num+1) (bA b s).2.2
 by_cases he:e=0
 ·rw[if_pos he] at hR
  rcases hR with⟨h,_⟩ | ⟨h,_⟩ | ⟨_,e1,e2,rfl⟩
  ·cases h
  ·cases h
  ·rw[if_pos e1,if_pos e2]
   subst he
   refine aB ?_
   refine c7 8 (BG _ { s with num:=s.num+1,sec:=(bA b s).2.2,ch:=[] }) [[(4,0)],[(5,0)],[(6,0)],[(7,0)],[(10,0)]] [] (res':=.sc (.int .i64 0)) ⟨rfl,rfl⟩ ?_
   ·refine⟨⟨⟨_,rfl,.dead _⟩,trivial⟩,⟨⟨_,rfl,ToB.rows rfl (prs _)⟩,trivial⟩,⟨⟨_,rfl,ToB.mapE rfl PM.out⟩,trivial⟩,⟨⟨_,rfl,ToB.one ?_⟩,trivial⟩,⟨⟨_,rfl,ToB.rows rfl (prs _)⟩,trivial⟩,trivial⟩
    show ToL _ _ (bB (stoR s (5,0) (6,0)) 4 (rootR (s.num+1) (bA b s).2.2)) _
    rw[HO s _ _ []]
    exact ToL.stoR rfl rfl rfl
 ·rw[if_neg he] at hR
  rcases hR with⟨e1,rfl⟩ | ⟨e1,e2,rfl⟩
  ·rw[if_neg (by rw[e1]; exact he),e1]
   refine aB ?_
   refine AWP.condN (e=0) rfl (by rfl) (fun h=>absurd h he) (fun _=>?_)
   refine aB ?_
   refine c7 8 (BG (bA b s).2.1 s) [[(4,0)],[(5,0)],[(6,0)],[(7,0)],[(9,0)]] [] (res':=.sc (.int .i64 e)) ⟨rfl,rfl⟩ ?_
   ·exact⟨⟨⟨_,rfl,.dead _⟩,trivial⟩,⟨⟨_,rfl,ToB.rows rfl (prs _)⟩,trivial⟩,⟨⟨_,rfl,ToB.mapE rfl PM.out⟩,trivial⟩,⟨⟨_,rfl,ToB.one (ToL.stoR rfl rfl rfl)⟩,trivial⟩,⟨⟨_,rfl,ToB.rows rfl (prs _)⟩,trivial⟩,trivial⟩
  ·rw[if_pos e1,if_neg (by rw[e2]; exact he),e2]
   refine aB ?_
   refine AWP.condN (e=0) rfl (by rfl) (fun h=>absurd h he) (fun _=>?_)
   refine aB ?_
   refine c7 8 (BG _ s) [[(4,0)],[(5,0)],[(6,0)],[(7,0)],[(10,0)]] [] (res':=.sc (.int .i64 e)) ⟨rfl,rfl⟩ ?_
   ·exact⟨⟨⟨_,rfl,.dead _⟩,trivial⟩,⟨⟨_,rfl,ToB.rows rfl (prs _)⟩,trivial⟩,⟨⟨_,rfl,ToB.mapE rfl PM.out⟩,trivial⟩,⟨⟨_,rfl,ToB.one (ToL.stoR rfl rfl rfl)⟩,trivial⟩,⟨⟨_,rfl,ToB.rows rfl (prs _)⟩,trivial⟩,trivial⟩
end Go.Proofs.YtgdocflpobncmaaGreat
