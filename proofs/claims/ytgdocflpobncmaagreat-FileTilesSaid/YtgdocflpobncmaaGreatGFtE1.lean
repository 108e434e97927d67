import Derived.Test.YtgdocflpobncmaaGreatGFtD4
namespace Go.Proofs.YtgdocflpobncmaaGreat
open Go.Av Go.Proofs
set_option maxRecDepth 20000
def eY (out:List (Int×Int)) (p:Int):List (Int×Int):=match out.getLast? with
 | some x=>if x.1+x.2=p then out.dropLast++[(x.1,x.2+1)] else out++[(p,1)]
 | none=>[(p,1)]
def bS (l:List Int):List (Int×Int):=l.foldl eY []
def cD (es:List (Int×Int)) (i:Nat):List Int:=(List.range (bB (es.getD i (0,0)).1)).map fun j:Nat=>(es.getD i (0,0)).2+j
def cI (es:List (Int×Int)):List Int:=(List.range es.length).flatMap (cD es)
theorem jY {o:List (Int×Int)} {x:Int×Int} {p:Int} (h:x.1+x.2=p):eY (o++[x]) p=o++[(x.1,x.2+1)]:=by
 unfold eY
 rw[List.getLast?_append,List.dropLast_append_of_ne_nil (by simp)]
 simp[h]
theorem j6 {o:List (Int×Int)} {x:Int×Int} {p:Int} (h:¬ x.1+x.2=p):eY (o++[x]) p=o++[x]++[(p,1)]:=by
 unfold eY
 rw[List.getLast?_append]
 simp[h]
theorem wQ {o:List (Int×Int)} {x y:Int×Int} {m:Nat} (hm:m=o.length):(enR (o++[x])).set m [iv y.1,iv y.2]=enR (o++[y]):=by
 subst hm
 unfold enR
 rw[List.map_append,List.map_append,List.set_append_right _ _ (by simp)]
 simp
def sgF (n:Nat) (c:AV):Fr:=[(4,.cptr [iv 0]),(5,.cptr [iv n]),(6,.ptr 0 0 0 0),(7,.ptr 1 0 0 0),(12,c)]
def sgI (out:List (Int×Int)) (x:Blk):Heap:=[[.cells 1 [[.sc (.slice none 0 0)]]],[.cells 1 [[.hsl 3 0 0 out.length]]],[x],[.cells 2 (enR out)]]
def sgJ (out:List (Int×Int)) (x:Blk):Heap:=[[.cells 1 [[.sc (.slice none 0 0)]]],[.cells 1 [[.hsl 4 0 0 out.length]]],[x],[.dead],[.cells 2 (enR out)]]
def sgB (out:List (Int×Int)):Prop:=out.length≤100000∧∀ x∈out,(-2000000≤x.1∧x.1≤2000000)∧0≤x.2∧x.2≤100000
noncomputable def zN:bK:=iH [1,1,0,1,0] F151.code
theorem IL {T:AV→AV→Prop} {ρ:Nat→Nat→Option (Nat×Nat)} {n:Nat} {c:AV} {L:LC} {st:LoopState} {pe:Option Code} (hc:PV c) (r0:ρ 0 0=some (0,0)) (r1:ρ 1 0=some (1,0)):ToB T ρ (.lp L (sgF n c) st pe) (.lp L (sgF n c) st pe):=by
 refine ToB.lp _ _ _ _ _ fun x hx=>?_
 simp only[sgF,List.mem_cons,List.not_mem_nil,or_false] at hx
 rcases hx with rfl | rfl | rfl | rfl | rfl
 ·exact To.pure (pv (AV.cptr [iv 0]))
 ·exact To.pure (pv (AV.cptr [iv n]))
 ·exact To.ptrO r0 rfl rfl
 ·exact To.ptrO r1 rfl rfl
 ·exact To.pure hc.out
set_option maxHeartbeats 2000000 in
theorem CS {L:LC} {c:AV} {N:Nat} (hc:PV c) (hL:LOK Tryz.prog F151.n L [13,14] (rfA zN) (rfB zN)) (out:List (Int×Int)) (i:Nat) (p:Int) (hi:i < N) (_hN:N≤100000) (ho:sgB out) (_hp:-2000000≤p∧p≤2000000):
  cW Tryz.prog 2 0 [iv i,iv p] (sgI out (.lp L (sgF N c) .ready none)) fun b H'=>b=true∧(H'=sgI (eY out p) (.lp L (sgF N c) .ready none)∨H'=sgJ (eY out p) (.lp L (sgF N c) .ready none)):=by
 refine eL.g ?_
 refine⟨L,_,_,_,_,_,hL,rfl,rfl,?_⟩
 show AWP _ _ _ (.seq (.region _) (.region _)) _ _ _
 have hlp:∀(T:AV→AV→Prop) (ρ:Nat→Nat→Option (Nat×Nat)) (st:LoopState),ρ 0 0=some (0,0)→ρ 1 0=some (1,0)→ToB T ρ (.lp L (sgF N c) st none) (.lp L (sgF N c) st none):=fun T ρ st=>IL hc
 obtain⟨caps,hcaps⟩:∃ caps,caps=sgF N c:=⟨_,rfl⟩
 rw[← hcaps] at hlp ⊢
 rw[show putL caps ([13,14].zip [iv i,iv p])=(14,iv p)::(13,iv i)::sgF N c by rw[hcaps]; rfl]
 unfold sgF
 obtain⟨h1,h2⟩:=ho
 have hol:=cO out
 refine aA ?_
 refine⟨rfl,caps,rfl,?_⟩
 show AWP _ _ _ (.block 1 _) _ _ _
 refine AWP.fin ?_
 refine aA ?_
 refine AWP.condN (N≤i) rfl rfl (fun h=>by omega) (fun _=>?_)
 rcases List.eq_nil_or_concat out with rfl | ⟨o,x,hox⟩
 ·refine aA ?_
  refine DK.nil ⟨by kernel_rfl,?_⟩
  refine aA ?_
  refine⟨[],sgJ (eY [] p) (.lp L caps .busy none),?_,caps,rfl,rfl,.inr rfl⟩
  (apply Sub.to [] [[(0,0)],[(1,0)],[(2,0)],[(3,0)],[(6,0)]]; all_goals (repeat' (first | exact aE.nil | exact aB.nil | exact aF.nil | exact ToL.nil | exact ToR.nil | refine aE.cons ?_ ?_ | refine aB.cons ?_ ?_ | refine aP ?_ ?_ | exact To.undef _ | exact To.sc _ | exact To.hslL rfl rfl | exact To.asl _ _ _ _ _ _ _ rfl | refine To.ifc _ _ _ ?_ | exact To.ptrO rfl rfl rfl | exact To.mrefO rfl | exact To.nil rfl rfl rfl | exact wt1 | exact To.nilL | refine To.int ?_ | refine To.bool ?_ | refine To.hslL rfl ?_ | refine wt2 rfl ?_ ?_ ?_ | refine To.tupL ?_ | refine To.aggL ?_ | refine To.cptrL ?_ | refine To.fzp rfl rfl rfl ?_ | refine To.fzm rfl rfl ?_ | refine To.cloL ?_ ?_ | refine wt3 ?_ | refine wt4 ?_ | exact wt5 | refine wt6 ?_ | refine ToB.one ?_ | exact wt7 | ((with_reducible apply ToL.consE); case e9=>rfl) | refine wt8 ?_ | refine ToL.cons ?_ ?_ | exact wt11 | refine wt9 ?_ ?_ | refine wt12 ?_ | (with_reducible rfl) | assumption)); all_goals (first | rfl | assumption | (simp; done) | (simp; omega) | (rw[wrap_small (by omega) (by omega)]; done) | (rw[wrap_small (by omega) (by omega)]; omega) | (refine congrArg Nat.cast ?_; assumption) | skip))
  all_goals first | exact hlp _ _ _ rfl rfl | exact .dead _
 ·rw[List.concat_eq_append] at hox
  subst hox
  have hob:=h2 x (by simp)
  obtain⟨a,l⟩:=x
  have hr:d6 (enR (o++[(a,l)])) ((o.length:Nat):Int)=some [iv a,iv l]:=by
   rw[fM (o++[(a,l)]) o.length (by simp)]
   simp
  have hln:(o++[(a,l)]).length=o.length+1:=by simp
  unfold sgI
  rw[hln] at hol ⊢
  replace hob:(-2000000≤a∧a≤2000000)∧0≤l∧l≤100000:=hob
  refine aA ?_
  rw[Av.wrap_small (show -9223372036854775808≤a+l by omega) (by omega)]
  refine DK.nil ⟨by kernel_rfl,?_⟩
  refine aA ?_
  refine AWP.condN (a+l=p) rfl rfl (fun h=>?_) (fun h=>?_)
  ·rw[jY (x:=(a,l)) h]
   refine aA ?_
   refine⟨[],sgI (o++[(a,l+1)]) (.lp L caps .busy none),?_,caps,rfl,rfl,.inl rfl⟩
   unfold sgI
   rw[show(o++[(a,l+1)]).length=o.length+1 by simp]
   have ew:IntKind.i64.wrap (l+1)=l+1:=Av.wrap_small (by omega) (by omega)
   rw[ew]
   (apply Sub.to [] [[(0,0)],[(1,0)],[(2,0)],[(3,0)]]; all_goals (repeat' (first | exact aE.nil | exact aB.nil | exact aF.nil | exact ToL.nil | exact ToR.nil | refine aE.cons ?_ ?_ | refine aB.cons ?_ ?_ | refine aP ?_ ?_ | exact To.undef _ | exact To.sc _ | exact To.hslL rfl rfl | exact To.asl _ _ _ _ _ _ _ rfl | refine To.ifc _ _ _ ?_ | exact To.ptrO rfl rfl rfl | exact To.mrefO rfl | exact To.nil rfl rfl rfl | exact wt1 | exact To.nilL | refine To.int ?_ | refine To.bool ?_ | refine To.hslL rfl ?_ | refine wt2 rfl ?_ ?_ ?_ | refine To.tupL ?_ | refine To.aggL ?_ | refine To.cptrL ?_ | refine To.fzp rfl rfl rfl ?_ | refine To.fzm rfl rfl ?_ | refine To.cloL ?_ ?_ | refine wt3 ?_ | refine wt4 ?_ | exact wt5 | refine wt6 ?_ | refine ToB.one ?_ | exact wt7 | ((with_reducible apply ToL.consE); case e9=>rfl) | refine wt8 ?_ | refine ToL.cons ?_ ?_ | exact wt11 | refine wt9 ?_ ?_ | refine wt12 ?_ | (with_reducible rfl) | assumption)); all_goals (first | rfl | assumption | (simp; done) | (simp; omega) | (rw[wrap_small (by omega) (by omega)]; done) | (rw[wrap_small (by omega) (by omega)]; omega) | (refine congrArg Nat.cast ?_; assumption) | skip))
   all_goals first | exact hlp _ _ _ rfl rfl | exact .dead _ | exact wQ (y:=(a,l+1)) rfl
  ·rw[j6 (x:=(a,l)) h]
   refine aA ?_
   refine⟨[],sgJ (o++[(a,l)]++[(p,1)]) (.lp L caps .busy none),?_,caps,rfl,rfl,.inr rfl⟩
   unfold sgJ
   rw[show(o++[(a,l)]++[(p,1)]:List (Int×Int)).length=o.length+1+1 by simp]
   (apply Sub.to [] [[(0,0)],[(1,0)],[(2,0)],[(3,0)],[(6,0)]]; all_goals (repeat' (first | exact aE.nil | exact aB.nil | exact aF.nil | exact ToL.nil | exact ToR.nil | refine aE.cons ?_ ?_ | refine aB.cons ?_ ?_ | refine aP ?_ ?_ | exact To.undef _ | exact To.sc _ | exact To.hslL rfl rfl | exact To.asl _ _ _ _ _ _ _ rfl | refine To.ifc _ _ _ ?_ | exact To.ptrO rfl rfl rfl | exact To.mrefO rfl | exact To.nil rfl rfl rfl | exact wt1 | exact To.nilL | refine To.int ?_ | refine To.bool ?_ | refine To.hslL rfl ?_ | refine wt2 rfl ?_ ?_ ?_ | refine To.tupL ?_ | refine To.aggL ?_ | refine To.cptrL ?_ | refine To.fzp rfl rfl rfl ?_ | refine To.fzm rfl rfl ?_ | refine To.cloL ?_ ?_ | refine wt3 ?_ | refine wt4 ?_ | exact wt5 | refine wt6 ?_ | refine ToB.one ?_ | exact wt7 | ((with_reducible apply ToL.consE); case e9=>rfl) | refine wt8 ?_ | refine ToL.cons ?_ ?_ | exact wt11 | refine wt9 ?_ ?_ | refine wt12 ?_ | (with_reducible rfl) | assumption)); all_goals (first | rfl | assumption | (simp; done) | (simp; omega) | (rw[wrap_small (by omega) (by omega)]; done) | (rw[wrap_small (by omega) (by omega)]; omega) | (refine congrArg Nat.cast ?_; assumption) | skip))
   all_goals first | exact hlp _ _ _ rfl rfl | exact .dead _ | exact(by simp[enR]:enR (o++[(a,l)])++[[iv p,iv 1]]=enR (o++[(a,l)]++[(p,1)]))
theorem iX (l:List Int) (p:Int):bS (l++[p])=eY (bS l) p:=by simp[bS]
theorem nO (P:Int→Prop):∀(n:Nat) (l:List Int),l.length=n→(∀ p∈l,P p)→(bS l).length≤n∧∀ x∈bS l,P x.1∧0 < x.2∧x.2≤n
 | 0,l,hl,_=>by
  obtain rfl:l=[]:=List.length_eq_zero_iff.1 hl
  exact⟨Nat.le_refl _,fun x hx=>by cases hx⟩
 | n+1,l,hl,h=>by
  rcases List.eq_nil_or_concat l with rfl | ⟨o,p,ho⟩
  ·cases hl
  rw[List.concat_eq_append] at ho
  subst ho
  have hol:o.length=n:=by simpa using hl
  obtain⟨i1,i2⟩:=nO P n o hol fun q hq=>h q (by simp[hq])
  have hp:=h p (by simp)
  rw[iX]
  rcases List.eq_nil_or_concat (bS o) with e | ⟨s,x,e⟩
  ·rw[e]
   refine⟨by simp[eY],fun x hx=>?_⟩
   rw[show eY [] p=[(p,1)] from rfl] at hx
   rw[List.mem_singleton.1 hx]
   exact⟨hp,by show(0:Int) < 1; omega,by show(1:Int)≤_; omega⟩
  ·rw[List.concat_eq_append] at e
   rw[e] at i1 i2 ⊢
   have hx:=i2 x (by simp)
   simp only[List.length_append,List.length_singleton] at i1
   by_cases hq:x.1+x.2=p
   ·rw[jY hq]
    refine⟨by simp; omega,fun y hy=>?_⟩
    rcases List.mem_append.1 hy with hy | hy
    ·have:=i2 y (by simp[hy])
     exact⟨this.1,this.2.1,by have:=this.2.2; omega⟩
    ·rw[List.mem_singleton.1 hy]
     exact⟨hx.1,by show 0 < x.2+1; omega,by show x.2+1≤_; omega⟩
   ·rw[j6 hq]
    refine⟨by simp; omega,fun y hy=>?_⟩
    rcases List.mem_append.1 hy with hy | hy
    ·have:=i2 y hy
     exact⟨this.1,this.2.1,by have:=this.2.2; omega⟩
    ·rw[List.mem_singleton.1 hy]
     exact⟨hp,by show(0:Int) < 1; omega,by show(1:Int)≤_; omega⟩
def sgE (x:Blk):Heap:=[[.cells 1 [[.sc (.slice none 0 0)]]],[.cells 1 [[.sc (.slice none 0 0)]]],[x]]
theorem uH (es:List (Int×Int)):∀ i,i≤es.length→(bX (cD es) i 0).length=bL (es.take i)
 | 0,_=>by simp[bX,bL]
 | i+1,h=>by
  have hi:i < es.length:=by omega
  have h1:=uH es i (by omega)
  rw[← fF (j:=(cD es i).length) rfl]
  unfold bX at h1 ⊢
  rw[List.take_length]
  rw[List.take_zero,List.append_nil] at h1
  rw[List.length_append,h1,cM hi,gE]
  simp[cD,hi]
set_option maxHeartbeats 1000000 in
theorem BZ {L:LC} {c:AV} {es:List (Int×Int)} (hc:PV c) (hL:LOK Tryz.prog F151.n L [13,14] (rfA zN) (rfB zN)) (hn:es.length≤4096) (hb:∀ y∈es,-mP≤y.2∧y.2≤mP):
  aH Tryz.prog 202 [.yld 2 0,.cptr [.list 2 (enR es)]] (sgE (.lp L (sgF (bL es) c) .ready none)) fun _ H'=>H'=sgI (bS (cI es)) (.lp L (sgF (bL es) c) .ready none):=by
 have hlp:∀(T:AV→AV→Prop) (ρ:Nat→Nat→Option (Nat×Nat)) (st:LoopState),ρ 0 0=some (0,0)→ρ 1 0=some (1,0)→ToB T ρ (.lp L (sgF (bL es) c) st none) (.lp L (sgF (bL es) c) st none):=fun T ρ st=>IL hc
 have hel:=cO es
 have hN:=fE es
 unfold mP at hb
 have hpb:∀ i j,i < es.length→∀ p∈bX (cD es) i j,-2000000≤p∧p≤2000000:=fun i j hi p hp=>by
  have key:∀ i,i < es.length→∀ p∈cD es i,-2000000≤p∧p≤2000000:=fun i hi p hp=>by
   obtain⟨j,hj,rfl⟩:=List.mem_map.1 hp
   have h1:=hb es[i] (List.getElem_mem _)
   have h2:=fT (es.getD i (0,0)).1
   have h3:=List.mem_range.1 hj
   have h4:es.getD i (0,0)=es[i]:=by simp[hi]
   rw[h4] at h2 h3 ⊢
   omega
  rcases List.mem_append.1 hp with hp | hp
  ·obtain⟨q,hq,hp⟩:=List.mem_flatMap.1 hp
   exact key q (by have:=List.mem_range.1 hq; omega) p hp
  ·exact key i hi p (List.mem_of_mem_take hp)
 refine aH.of JB ?_ (nlB rfl)
 refine aA ?_
 refine AWP.loop (fun i:Nat=>[(0,.yld 2 0),(1,.cptr [.list 2 (enR es)]),(3,iv (bX (cD es) i 0).length),(7,.list 2 (enR es)),(8,iv es.length),(9,iv i)]) (fun i=>sgI (bS (bX (cD es) i 0)) (.lp L (sgF (bL es) c) .ready none)) (fun i=>i≤es.length) (fun i=>es.length - i) 0 (Nat.zero_le _) ?_ ?_
 ·rw[← hel,gD]
  (apply Sub.to [2] [[(0,0)],[(1,0)],[(2,0)],[(3,0)]]; all_goals (repeat' (first | exact aE.nil | exact aB.nil | exact aF.nil | exact ToL.nil | exact ToR.nil | refine aE.cons ?_ ?_ | refine aB.cons ?_ ?_ | refine aP ?_ ?_ | exact To.undef _ | exact To.sc _ | exact To.hslL rfl rfl | exact To.asl _ _ _ _ _ _ _ rfl | refine To.ifc _ _ _ ?_ | exact To.ptrO rfl rfl rfl | exact To.mrefO rfl | exact To.nil rfl rfl rfl | exact wt1 | exact To.nilL | refine To.int ?_ | refine To.bool ?_ | refine To.hslL rfl ?_ | refine wt2 rfl ?_ ?_ ?_ | refine To.tupL ?_ | refine To.aggL ?_ | refine To.cptrL ?_ | refine To.fzp rfl rfl rfl ?_ | refine To.fzm rfl rfl ?_ | refine To.cloL ?_ ?_ | refine wt3 ?_ | refine wt4 ?_ | exact wt5 | refine wt6 ?_ | refine ToB.one ?_ | exact wt7 | ((with_reducible apply ToL.consE); case e9=>rfl) | refine wt8 ?_ | refine ToL.cons ?_ ?_ | exact wt11 | refine wt9 ?_ ?_ | refine wt12 ?_ | (with_reducible rfl) | assumption)); all_goals (first | rfl | assumption | (simp; done) | (simp; omega) | (rw[wrap_small (by omega) (by omega)]; done) | (rw[wrap_small (by omega) (by omega)]; omega) | (refine congrArg Nat.cast ?_; assumption) | skip))
  all_goals first | exact hlp _ _ _ rfl rfl | exact .yld _ _ _ _ rfl | exact .dead _
 rintro i hi
 refine cK ?_
 refine AWP.condN (i < es.length) rfl rfl (fun h=>?_) (fun h=>?_)
 ·have hr:=fM es i h
  have w:=mQ es[i].1
  have hle:=uH es (i+1) (by omega)
  rw[cM h,gE] at hle
  have hle2:bL (es.take i)+bB es[i].1≤bL es:=by
   have e1:∀ a b:List (Int×Int),bL (a++b)=bL a+bL b:=fun a b=>by simp[bL]
   have e2:=e1 (es.take (i+1)) (es.drop (i+1))
   rw[List.take_append_drop,cM h,gE] at e2
   omega
  have hl0:=uH es i hi
  have hfi:cD es i=(List.range (bB es[i].1)).map fun j:Nat=>es[i].2+j:=by simp[cD,h]
  have hx:=hb es[i] (List.getElem_mem _)
  have hs8:=fT es[i].1
  generalize es[i].1=kd at *
  generalize es[i].2=a at *
  generalize bB kd=M at *
  have hfl:(cD es i).length=M:=by rw[hfi]; simp
  have hfg:∀ j,j < M→(cD es i)[j]?=some (a+j):=fun j hj=>by rw[hfi]; simp[hj]
  have hpl:∀ j,j≤M→(bX (cD es) i j).length=bL (es.take i)+j:=fun j hj=>by
   unfold bX at hl0 ⊢
   rw[List.take_zero,List.append_nil] at hl0
   rw[List.length_append,hl0,List.length_take,hfl]
   omega
  refine cK ?_
  refine AWP.loop (fun j:Nat=>[(0,.yld 2 0),(1,.cptr [.list 2 (enR es)]),(3,iv (bX (cD es) i j).length),(5,.cptr [iv kd,iv a]),(7,.list 2 (enR es)),(8,iv es.length),(9,iv i),(15,iv M),(16,iv j)]) (fun j=>sgI (bS (bX (cD es) i j)) (.lp L (sgF (bL es) c) .ready none)) (fun j=>j≤M) (fun j=>M - j) 0 (Nat.zero_le _) ?_ ?_
  ·(apply Sub.to [] [[(0,0)],[(1,0)],[(2,0)],[(3,0)]]; all_goals (repeat' (first | exact aE.nil | exact aB.nil | exact aF.nil | exact ToL.nil | exact ToR.nil | refine aE.cons ?_ ?_ | refine aB.cons ?_ ?_ | refine aP ?_ ?_ | exact To.undef _ | exact To.sc _ | exact To.hslL rfl rfl | exact To.asl _ _ _ _ _ _ _ rfl | refine To.ifc _ _ _ ?_ | exact To.ptrO rfl rfl rfl | exact To.mrefO rfl | exact To.nil rfl rfl rfl | exact wt1 | exact To.nilL | refine To.int ?_ | refine To.bool ?_ | refine To.hslL rfl ?_ | refine wt2 rfl ?_ ?_ ?_ | refine To.tupL ?_ | refine To.aggL ?_ | refine To.cptrL ?_ | refine To.fzp rfl rfl rfl ?_ | refine To.fzm rfl rfl ?_ | refine To.cloL ?_ ?_ | refine wt3 ?_ | refine wt4 ?_ | exact wt5 | refine wt6 ?_ | refine ToB.one ?_ | exact wt7 | ((with_reducible apply ToL.consE); case e9=>rfl) | refine wt8 ?_ | refine ToL.cons ?_ ?_ | exact wt11 | refine wt9 ?_ ?_ | refine wt12 ?_ | (with_reducible rfl) | assumption)); all_goals (first | rfl | assumption | (simp; done) | (simp; omega) | (rw[wrap_small (by omega) (by omega)]; done) | (rw[wrap_small (by omega) (by omega)]; omega) | (refine congrArg Nat.cast ?_; assumption) | skip))
   all_goals first | exact hlp _ _ _ rfl rfl | exact .yld _ _ _ _ rfl | exact .dead _
  rintro j hj
  refine cK ?_
  refine AWP.condN (j < M) rfl rfl (fun h2=>?_) (fun h2=>?_)
  ·have hsg:sgB (bS (bX (cD es) i j)):=by
    obtain⟨g1,g2⟩:=nO (fun p=>-2000000≤p∧p≤2000000) _ (bX (cD es) i j) rfl (hpb i j h)
    have:=hpl j hj
    exact⟨by omega,fun x hx=>⟨(g2 x hx).1,by have:=(g2 x hx).2; omega⟩⟩
   have hlj:=hpl j hj
   have hsn:=iX (bX (cD es) i j) (a+j)
   rw[← dW (hfg j h2)] at hsn
   have hlj2:=hpl (j+1) h2
   generalize bX (cD es) i j=q at *
   generalize bS q=out at *
   refine AWP.skip ?_
   refine AWP.seq ?_
   refine AWP.block ?_
   refine AWP.seq ?_
   refine AWP.region ?_
   refine sF ?_
   refine AWP.seq ?_
   refine AWP.seq ?_
   refine AWP.rG rfl ?_
   refine aA ?_
   rw[Av.wrap_small (show -9223372036854775808≤a+(j:Int) by omega) (by omega)]
   refine⟨rfl,nlB rfl,2,0,rfl,?_⟩
   refine(CS hc hL out q.length (a+j) (by omega) (by omega) hsg (by omega)).mono ?_
   rintro b' H' ⟨rfl,hH⟩
   rw[← hsn] at hH
   rcases hH with rfl | rfl
   ·refine aA ?_
    refine⟨j+1,by omega,by omega,?_⟩
    (apply Sub.to [] [[(0,0)],[(1,0)],[(2,0)],[(3,0)]]; all_goals (repeat' (first | exact aE.nil | exact aB.nil | exact aF.nil | exact ToL.nil | exact ToR.nil | refine aE.cons ?_ ?_ | refine aB.cons ?_ ?_ | refine aP ?_ ?_ | exact To.undef _ | exact To.sc _ | exact To.hslL rfl rfl | exact To.asl _ _ _ _ _ _ _ rfl | refine To.ifc _ _ _ ?_ | exact To.ptrO rfl rfl rfl | exact To.mrefO rfl | exact To.nil rfl rfl rfl | exact wt1 | exact To.nilL | refine To.int ?_ | refine To.bool ?_ | refine To.hslL rfl ?_ | refine wt2 rfl ?_ ?_ ?_ | refine To.tupL ?_ | refine To.aggL ?_ | refine To.cptrL ?_ | refine To.fzp rfl rfl rfl ?_ | refine To.fzm rfl rfl ?_ | refine To.cloL ?_ ?_ | refine wt3 ?_ | refine wt4 ?_ | exact wt5 | refine wt6 ?_ | refine ToB.one ?_ | exact wt7 | ((with_reducible apply ToL.consE); case e9=>rfl) | refine wt8 ?_ | refine ToL.cons ?_ ?_ | exact wt11 | refine wt9 ?_ ?_ | refine wt12 ?_ | (with_reducible rfl) | assumption)); all_goals (first | rfl | assumption | (simp; done) | (simp; omega) | (rw[wrap_small (by omega) (by omega)]; done) | (rw[wrap_small (by omega) (by omega)]; omega) | (refine congrArg Nat.cast ?_; assumption) | skip))
    all_goals first | exact hlp _ _ _ rfl rfl | exact .yld _ _ _ _ rfl | exact .dead _ | omega
   ·refine aA ?_
    refine⟨j+1,by omega,by omega,?_⟩
    (apply Sub.to [] [[(0,0)],[(1,0)],[(2,0)],[(4,0)]]; all_goals (repeat' (first | exact aE.nil | exact aB.nil | exact aF.nil | exact ToL.nil | exact ToR.nil | refine aE.cons ?_ ?_ | refine aB.cons ?_ ?_ | refine aP ?_ ?_ | exact To.undef _ | exact To.sc _ | exact To.hslL rfl rfl | exact To.asl _ _ _ _ _ _ _ rfl | refine To.ifc _ _ _ ?_ | exact To.ptrO rfl rfl rfl | exact To.mrefO rfl | exact To.nil rfl rfl rfl | exact wt1 | exact To.nilL | refine To.int ?_ | refine To.bool ?_ | refine To.hslL rfl ?_ | refine wt2 rfl ?_ ?_ ?_ | refine To.tupL ?_ | refine To.aggL ?_ | refine To.cptrL ?_ | refine To.fzp rfl rfl rfl ?_ | refine To.fzm rfl rfl ?_ | refine To.cloL ?_ ?_ | refine wt3 ?_ | refine wt4 ?_ | exact wt5 | refine wt6 ?_ | refine ToB.one ?_ | exact wt7 | ((with_reducible apply ToL.consE); case e9=>rfl) | refine wt8 ?_ | refine ToL.cons ?_ ?_ | exact wt11 | refine wt9 ?_ ?_ | refine wt12 ?_ | (with_reducible rfl) | assumption)); all_goals (first | rfl | assumption | (simp; done) | (simp; omega) | (rw[wrap_small (by omega) (by omega)]; done) | (rw[wrap_small (by omega) (by omega)]; omega) | (refine congrArg Nat.cast ?_; assumption) | skip))
    all_goals first | exact hlp _ _ _ rfl rfl | exact .yld _ _ _ _ rfl | exact .dead _ | omega
  ·obtain rfl:M=j:=by omega
   rw[fF hfl]
   refine aA ?_
   refine⟨i+1,by omega,by omega,?_⟩
   (apply Sub.to [] [[(0,0)],[(1,0)],[(2,0)],[(3,0)]]; all_goals (repeat' (first | exact aE.nil | exact aB.nil | exact aF.nil | exact ToL.nil | exact ToR.nil | refine aE.cons ?_ ?_ | refine aB.cons ?_ ?_ | refine aP ?_ ?_ | exact To.undef _ | exact To.sc _ | exact To.hslL rfl rfl | exact To.asl _ _ _ _ _ _ _ rfl | refine To.ifc _ _ _ ?_ | exact To.ptrO rfl rfl rfl | exact To.mrefO rfl | exact To.nil rfl rfl rfl | exact wt1 | exact To.nilL | refine To.int ?_ | refine To.bool ?_ | refine To.hslL rfl ?_ | refine wt2 rfl ?_ ?_ ?_ | refine To.tupL ?_ | refine To.aggL ?_ | refine To.cptrL ?_ | refine To.fzp rfl rfl rfl ?_ | refine To.fzm rfl rfl ?_ | refine To.cloL ?_ ?_ | refine wt3 ?_ | refine wt4 ?_ | exact wt5 | refine wt6 ?_ | refine ToB.one ?_ | exact wt7 | ((with_reducible apply ToL.consE); case e9=>rfl) | refine wt8 ?_ | refine ToL.cons ?_ ?_ | exact wt11 | refine wt9 ?_ ?_ | refine wt12 ?_ | (with_reducible rfl) | assumption)); all_goals (first | rfl | assumption | (simp; done) | (simp; omega) | (rw[wrap_small (by omega) (by omega)]; done) | (rw[wrap_small (by omega) (by omega)]; omega) | (refine congrArg Nat.cast ?_; assumption) | skip))
   all_goals first | exact hlp _ _ _ rfl rfl | exact .yld _ _ _ _ rfl | exact .dead _
 ·obtain rfl:es.length=i:=by omega
  rw[← gT]
  refine aA ?_
  refine gI (res':=.tup []) [[(0,0)],[(1,0)],[(2,0)],[(3,0)]] (.inl rfl) rfl rfl ?_ ?_ rfl rfl rfl
  ((all_goals (repeat' (first | exact aE.nil | exact aB.nil | exact aF.nil | exact ToL.nil | exact ToR.nil | refine aE.cons ?_ ?_ | refine aB.cons ?_ ?_ | refine aP ?_ ?_ | exact To.undef _ | exact To.sc _ | exact To.hslL rfl rfl | exact To.asl _ _ _ _ _ _ _ rfl | refine To.ifc _ _ _ ?_ | exact To.ptrO rfl rfl rfl | exact To.mrefO rfl | exact To.nil rfl rfl rfl | exact wt1 | exact To.nilL | refine To.int ?_ | refine To.bool ?_ | refine To.hslL rfl ?_ | refine wt2 rfl ?_ ?_ ?_ | refine To.tupL ?_ | refine To.aggL ?_ | refine To.cptrL ?_ | refine To.fzp rfl rfl rfl ?_ | refine To.fzm rfl rfl ?_ | refine To.cloL ?_ ?_ | refine wt3 ?_ | refine wt4 ?_ | exact wt5 | refine wt6 ?_ | refine ToB.one ?_ | exact wt7 | ((with_reducible apply ToL.consE); case e9=>rfl) | refine wt8 ?_ | refine ToL.cons ?_ ?_ | exact wt11 | refine wt9 ?_ ?_ | refine wt12 ?_ | (with_reducible rfl) | assumption)); all_goals (first | rfl | assumption | (simp; done) | (simp; omega) | (rw[wrap_small (by omega) (by omega)]; done) | (rw[wrap_small (by omega) (by omega)]; omega) | (refine congrArg Nat.cast ?_; assumption) | skip)))
  all_goals first | exact hlp _ _ _ rfl rfl | exact .dead _
theorem A6 (es:List (Int×Int)):aC Tryz.prog 177 [.list 2 (enR es)] (.clo (.func 202) [] [.cptr [.list 2 (enR es)]]):=by
 refine aC.mkI IG (nlB rfl) ?_
 refine aA ?_
 exact aJ.w
theorem G4 (es:List (Int×Int)) (hn:es.length≤4096) (hb:∀ y∈es,-mP≤y.2∧y.2≤mP):aC Tryz.prog 151 [.list 2 (enR es),iv 0,iv (bL es)] (.list 2 (enR (bS (cI es)))):=by
 refine aC.mkI IF (nlB rfl) ?_
 have hp:=A6 es
 refine aA ?_
 refine AWP.sub (fr':=sgF (bL es) (.clo (.func 202) [] [.cptr [.list 2 (enR es)]])) (H':=[[.cells 1 [[.sc (.slice none 0 0)]]],[.cells 1 [[.sc (.slice none 0 0)]]]]) ?_ ?_
 ·unfold sgF
  (apply Sub.to [] [[(2,0)],[(3,0)]]; all_goals (repeat' (first | exact aE.nil | exact aB.nil | exact aF.nil | exact ToL.nil | exact ToR.nil | refine aE.cons ?_ ?_ | refine aB.cons ?_ ?_ | refine aP ?_ ?_ | exact To.undef _ | exact To.sc _ | exact To.hslL rfl rfl | exact To.asl _ _ _ _ _ _ _ rfl | refine To.ifc _ _ _ ?_ | exact To.ptrO rfl rfl rfl | exact To.mrefO rfl | exact To.nil rfl rfl rfl | exact wt1 | exact To.nilL | refine To.int ?_ | refine To.bool ?_ | refine To.hslL rfl ?_ | refine wt2 rfl ?_ ?_ ?_ | refine To.tupL ?_ | refine To.aggL ?_ | refine To.cptrL ?_ | refine To.fzp rfl rfl rfl ?_ | refine To.fzm rfl rfl ?_ | refine To.cloL ?_ ?_ | refine wt3 ?_ | refine wt4 ?_ | exact wt5 | refine wt6 ?_ | refine ToB.one ?_ | exact wt7 | ((with_reducible apply ToL.consE); case e9=>rfl) | refine wt8 ?_ | refine ToL.cons ?_ ?_ | exact wt11 | refine wt9 ?_ ?_ | refine wt12 ?_ | (with_reducible rfl) | assumption)); all_goals (first | rfl | assumption | (simp; done) | (simp; omega) | (rw[wrap_small (by omega) (by omega)]; done) | (rw[wrap_small (by omega) (by omega)]; omega) | (refine congrArg Nat.cast ?_; assumption) | skip))
 refine AWP.rangeF (g:=202) (fs:=[]) (cs:=[.cptr [.list 2 (enR es)]]) rfl (Nat.zero_le _) rfl fun L hL=>?_
 refine(BZ inferInstance hL hn hb).mono ?_
 rintro res H' rfl
 refine⟨_,_,none,rfl,by decide,?_⟩
 have hol:=cO (bS (cI es))
 unfold sgF
 refine aA ?_
 exact aJ.w
theorem w8 {t:Ty} (h:bF 3 t=true):aC Tryz.prog 124 [.agg (tyR t),iv 1] (.tup [.list 2 (enR (bS (cI (aG 3 t).2.es))),iv (aG 3 t).1]):=by
 refine aC.mkI JQ (nlB rfl) ?_
 have he:=w5 h
 have hl:=m7 h
 have hb:∀ y∈(aG 3 t).2.es,-mP≤y.2∧y.2≤mP:=by
  by_cases h0:(aG 3 t).1=0
  ·exact(dH 3 t h h0).2.2.2.2.2.2.2.2
  ·rw[iK 3 t h0]
   exact fun y hy=>by cases hy
 generalize (aG 3 t).1=e at *
 generalize (aG 3 t).2.es=es at *
 have h1:=DJ es hl
 have h2:=G4 es hl hb
 obtain⟨_,_,_,_,_,_,_,_,_,_,rfl,_⟩:=bI h
 rw[tyR] at he ⊢
 refine aA ?_
 exact aJ.w
def exF (l:List (Int×Int)) (i:Nat):List Int:=(List.range (l.getD i (0,0)).2.toNat).map fun j:Nat=>(l.getD i (0,0)).1+j
def exP (l:List (Int×Int)):List Int:=(List.range l.length).flatMap (exF l)
theorem oZ (l:List (Int×Int)):exP l=l.flatMap fun x:Int×Int=>(List.range x.2.toNat).map fun j:Nat=>(x.1+(j:Int):Int):=by
 have key:∀(l m:List (Int×Int)),(List.range l.length).flatMap (fun i=>exF (m++l) (m.length+i))=l.flatMap fun x:Int×Int=>(List.range x.2.toNat).map fun j:Nat=>(x.1+(j:Int):Int):=by
  intro l
  induction l with
  | nil=>exact fun m=>rfl
  | cons x l ih=>
   intro m
   rw[List.length_cons,List.range_succ_eq_map,List.flatMap_cons,List.flatMap_cons]
   congr 1
   ·unfold exF
    simp
   ·rw[List.flatMap_map]
    have:=ih (m++[x])
    rw[List.append_assoc,List.length_append,List.length_singleton] at this
    rw[← this]
    congr 1
    funext i
    rw[Nat.succ_eq_add_one,Nat.add_assoc,Nat.add_comm 1 i]
    rfl
 have:=key l []
 simpa[exP] using this
theorem tT:∀(n:Nat) (l:List Int),l.length=n→exP (bS l)=l
 | 0,l,hl=>by
  obtain rfl:l=[]:=List.length_eq_zero_iff.1 hl
  rfl
 | n+1,l,hl=>by
  rcases List.eq_nil_or_concat l with rfl | ⟨o,p,ho⟩
  ·cases hl
  rw[List.concat_eq_append] at ho
  subst ho
  have hol:o.length=n:=by simpa using hl
  have ih:=tT n o hol
  have hb:=(nO (fun _=>True) n o hol fun _ _=>trivial).2
  rw[iX]
  rcases List.eq_nil_or_concat (bS o) with e | ⟨s,x,e⟩
  ·rw[e] at ih ⊢
   rw[← ih]
   simp[oZ,eY]
  ·rw[List.concat_eq_append] at e
   rw[e] at ih hb ⊢
   have hx:=(hb x (by simp)).2.1
   rw[oZ,List.flatMap_append] at ih
   obtain⟨a,m⟩:=x
   replace hx:0 < m:=hx
   by_cases hq:a+m=p
   ·rw[jY (x:=(a,m)) hq,oZ,List.flatMap_append,← ih,List.append_assoc]
    congr 1
    simp only[List.flatMap_cons,List.flatMap_nil,List.append_nil]
    rw[show(m+1).toNat=m.toNat+1 by omega,List.range_succ,List.map_append]
    congr 1
    simp
    omega
   ·rw[j6 (x:=(a,m)) hq,oZ,List.flatMap_append,List.flatMap_append,ih]
    simp
def csF (c:AV):Fr:=[(2,.ptr 0 0 0 0),(6,c)]
def csE (x:Blk):Heap:=[[.cells 1 [[.sc (.slice none 0 0)]]],[x]]
def csI (out:List Int) (x:Blk):Heap:=[[.cells 1 [[.hsl 2 0 0 out.length]]],[x],[.cells 1 (inR out)]]
def csJ (out:List Int) (x:Blk):Heap:=[[.cells 1 [[.hsl 3 0 0 out.length]]],[x],[.dead],[.cells 1 (inR out)]]
noncomputable def AB:bK:=iH [1,0,1,0] F153.code
theorem IB {T:AV→AV→Prop} {ρ:Nat→Nat→Option (Nat×Nat)} {c:AV} {L:LC} {st:LoopState} {pe:Option Code} (hc:PV c) (r0:ρ 0 0=some (0,0)):ToB T ρ (.lp L (csF c) st pe) (.lp L (csF c) st pe):=by
 refine ToB.lp _ _ _ _ _ fun x hx=>?_
 simp only[csF,List.mem_cons,List.not_mem_nil,or_false] at hx
 rcases hx with rfl | rfl
 ·exact To.ptrO r0 rfl rfl
 ·exact To.pure hc.out
theorem GG {L:LC} {c:AV} (hc:PV c) (hL:LOK Tryz.prog F153.n L [7] (rfA AB) (rfB AB)) (out:List Int) (p:Int) (ho:out.length≤1000000):
  cW Tryz.prog 1 0 [iv p] (csI out (.lp L (csF c) .ready none)) fun b H'=>b=true∧H'=csJ (out++[p]) (.lp L (csF c) .ready none):=by
 refine eL.g ?_
 refine⟨L,_,_,_,_,_,hL,rfl,rfl,?_⟩
 show AWP _ _ _ (.region _) _ _ _
 have hlp:∀(T:AV→AV→Prop) (ρ:Nat→Nat→Option (Nat×Nat)) (st:LoopState),ρ 0 0=some (0,0)→ToB T ρ (.lp L (csF c) st none) (.lp L (csF c) st none):=fun T ρ st=>IB hc
 obtain⟨caps,hcaps⟩:∃ caps,caps=csF c:=⟨_,rfl⟩
 rw[← hcaps] at hlp ⊢
 rw[show putL caps ([7].zip [iv p])=(7,iv p)::csF c by rw[hcaps]; rfl]
 unfold csF
 have hol:=bD out
 refine aA ?_
 refine⟨rfl,caps,rfl,?_⟩
 show AWP _ _ _ (.block 1 _) _ _ _
 refine AWP.fin ?_
 refine aA ?_
 refine⟨[],csJ (out++[p]) (.lp L caps .busy none),?_,caps,rfl,rfl,rfl⟩
 unfold csJ
 rw[List.length_append]
 (apply Sub.to [] [[(0,0)],[(1,0)],[(2,0)],[(4,0)]]; all_goals (repeat' (first | exact aE.nil | exact aB.nil | exact aF.nil | exact ToL.nil | exact ToR.nil | refine aE.cons ?_ ?_ | refine aB.cons ?_ ?_ | refine aP ?_ ?_ | exact To.undef _ | exact To.sc _ | exact To.hslL rfl rfl | exact To.asl _ _ _ _ _ _ _ rfl | refine To.ifc _ _ _ ?_ | exact To.ptrO rfl rfl rfl | exact To.mrefO rfl | exact To.nil rfl rfl rfl | exact wt1 | exact To.nilL | refine To.int ?_ | refine To.bool ?_ | refine To.hslL rfl ?_ | refine wt2 rfl ?_ ?_ ?_ | refine To.tupL ?_ | refine To.aggL ?_ | refine To.cptrL ?_ | refine To.fzp rfl rfl rfl ?_ | refine To.fzm rfl rfl ?_ | refine To.cloL ?_ ?_ | refine wt3 ?_ | refine wt4 ?_ | exact wt5 | refine wt6 ?_ | refine ToB.one ?_ | exact wt7 | ((with_reducible apply ToL.consE); case e9=>rfl) | refine wt8 ?_ | refine ToL.cons ?_ ?_ | exact wt11 | refine wt9 ?_ ?_ | refine wt12 ?_ | (with_reducible rfl) | assumption)); all_goals (first | rfl | assumption | (simp; done) | (simp; omega) | (rw[wrap_small (by omega) (by omega)]; done) | (rw[wrap_small (by omega) (by omega)]; omega) | (refine congrArg Nat.cast ?_; assumption) | skip))
 all_goals first | exact hlp _ _ _ rfl | exact .dead _ | exact(by simp[inR]:inR out++[[iv p]]=inR (out++[p]))
set_option maxHeartbeats 1000000 in
theorem GZ {L:LC} {c:AV} {l:List (Int×Int)} (hc:PV c) (hL:LOK Tryz.prog F153.n L [7] (rfA AB) (rfB AB)) (hn:l.length≤100000) (hb:∀ x∈l,(-2000000≤x.1∧x.1≤2000000)∧0≤x.2∧x.2≤100000) (hx:(exP l).length≤100000):
  aH Tryz.prog 138 [.yld 1 0,.cptr [.list 2 (enR l)]] (csE (.lp L (csF c) .ready none)) fun _ H'=>H'=csI (exP l) (.lp L (csF c) .ready none):=by
 have hlp:∀(T:AV→AV→Prop) (ρ:Nat→Nat→Option (Nat×Nat)) (st:LoopState),ρ 0 0=some (0,0)→ToB T ρ (.lp L (csF c) st none) (.lp L (csF c) st none):=fun T ρ st=>IB hc
 have hel:=cO l
 refine aH.of IX ?_ (nlB rfl)
 refine aA ?_
 refine AWP.loop (fun i:Nat=>[(0,.yld 1 0),(1,.cptr [.list 2 (enR l)]),(6,.list 2 (enR l)),(7,iv l.length),(8,iv i)]) (fun i=>csI (bX (exF l) i 0) (.lp L (csF c) .ready none)) (fun i=>i≤l.length) (fun i=>l.length - i) 0 (Nat.zero_le _) ?_ ?_
 ·rw[← hel,gD]
  (apply Sub.to [1] [[(0,0)],[(1,0)],[(2,0)]]; all_goals (repeat' (first | exact aE.nil | exact aB.nil | exact aF.nil | exact ToL.nil | exact ToR.nil | refine aE.cons ?_ ?_ | refine aB.cons ?_ ?_ | refine aP ?_ ?_ | exact To.undef _ | exact To.sc _ | exact To.hslL rfl rfl | exact To.asl _ _ _ _ _ _ _ rfl | refine To.ifc _ _ _ ?_ | exact To.ptrO rfl rfl rfl | exact To.mrefO rfl | exact To.nil rfl rfl rfl | exact wt1 | exact To.nilL | refine To.int ?_ | refine To.bool ?_ | refine To.hslL rfl ?_ | refine wt2 rfl ?_ ?_ ?_ | refine To.tupL ?_ | refine To.aggL ?_ | refine To.cptrL ?_ | refine To.fzp rfl rfl rfl ?_ | refine To.fzm rfl rfl ?_ | refine To.cloL ?_ ?_ | refine wt3 ?_ | refine wt4 ?_ | exact wt5 | refine wt6 ?_ | refine ToB.one ?_ | exact wt7 | ((with_reducible apply ToL.consE); case e9=>rfl) | refine wt8 ?_ | refine ToL.cons ?_ ?_ | exact wt11 | refine wt9 ?_ ?_ | refine wt12 ?_ | (with_reducible rfl) | assumption)); all_goals (first | rfl | assumption | (simp; done) | (simp; omega) | (rw[wrap_small (by omega) (by omega)]; done) | (rw[wrap_small (by omega) (by omega)]; omega) | (refine congrArg Nat.cast ?_; assumption) | skip))
  all_goals first | exact hlp _ _ _ rfl | exact .yld _ _ _ _ rfl | exact .dead _
 rintro i hi
 refine cK ?_
 refine AWP.condN (i < l.length) rfl rfl (fun h=>?_) (fun h=>?_)
 ·have hr:=fM l i h
  have hle:∀ j,(bX (exF l) i j).length≤100000:=fun j=>by
   obtain⟨r,hr⟩:=nP (f:=exF l) (j:=j) h
   have:(exP l).length=(bX (exF l) i j).length+r.length:=by
    unfold exP
    rw[hr,List.length_append]
   omega
  have hfi:exF l i=(List.range l[i].2.toNat).map fun j:Nat=>l[i].1+j:=by simp[exF,h]
  have hxb:=hb l[i] (List.getElem_mem _)
  generalize l[i].1=a at *
  generalize l[i].2=m at *
  obtain⟨M,rfl⟩:∃ M:Nat,m=M:=⟨m.toNat,by omega⟩
  rw[Int.toNat_natCast] at hfi
  have hfl:(exF l i).length=M:=by rw[hfi]; simp
  have hfg:∀ j,j < M→(exF l i)[j]?=some (a+j):=fun j hj=>by rw[hfi]; simp[hj]
  refine cK ?_
  refine AWP.loop (fun j:Nat=>[(0,.yld 1 0),(1,.cptr [.list 2 (enR l)]),(4,.cptr [iv a,iv M]),(6,.list 2 (enR l)),(7,iv l.length),(8,iv i),(13,iv M),(14,iv j)]) (fun j=>csI (bX (exF l) i j) (.lp L (csF c) .ready none)) (fun j=>j≤M) (fun j=>M - j) 0 (Nat.zero_le _) ?_ ?_
  ·(apply Sub.to [] [[(0,0)],[(1,0)],[(2,0)]]; all_goals (repeat' (first | exact aE.nil | exact aB.nil | exact aF.nil | exact ToL.nil | exact ToR.nil | refine aE.cons ?_ ?_ | refine aB.cons ?_ ?_ | refine aP ?_ ?_ | exact To.undef _ | exact To.sc _ | exact To.hslL rfl rfl | exact To.asl _ _ _ _ _ _ _ rfl | refine To.ifc _ _ _ ?_ | exact To.ptrO rfl rfl rfl | exact To.mrefO rfl | exact To.nil rfl rfl rfl | exact wt1 | exact To.nilL | refine To.int ?_ | refine To.bool ?_ | refine To.hslL rfl ?_ | refine wt2 rfl ?_ ?_ ?_ | refine To.tupL ?_ | refine To.aggL ?_ | refine To.cptrL ?_ | refine To.fzp rfl rfl rfl ?_ | refine To.fzm rfl rfl ?_ | refine To.cloL ?_ ?_ | refine wt3 ?_ | refine wt4 ?_ | exact wt5 | refine wt6 ?_ | refine ToB.one ?_ | exact wt7 | ((with_reducible apply ToL.consE); case e9=>rfl) | refine wt8 ?_ | refine ToL.cons ?_ ?_ | exact wt11 | refine wt9 ?_ ?_ | refine wt12 ?_ | (with_reducible rfl) | assumption)); all_goals (first | rfl | assumption | (simp; done) | (simp; omega) | (rw[wrap_small (by omega) (by omega)]; done) | (rw[wrap_small (by omega) (by omega)]; omega) | (refine congrArg Nat.cast ?_; assumption) | skip))
   all_goals first | exact hlp _ _ _ rfl | exact .yld _ _ _ _ rfl | exact .dead _
  rintro j hj
  refine cK ?_
  refine AWP.condN (j < M) rfl rfl (fun h2=>?_) (fun h2=>?_)
  ·have hl1:=hle j
   have hsn:=dW (hfg j h2)
   refine AWP.skip ?_
   refine AWP.seq ?_
   refine AWP.block ?_
   refine AWP.seq ?_
   refine AWP.region ?_
   refine sF ?_
   refine AWP.seq ?_
   refine AWP.rG rfl ?_
   refine aA ?_
   rw[Av.wrap_small (show -9223372036854775808≤a+(j:Int) by omega) (by omega)]
   refine⟨rfl,nlB rfl,1,0,rfl,?_⟩
   refine(GG hc hL (bX (exF l) i j) (a+j) (by omega)).mono ?_
   rintro b' H' ⟨rfl,hH⟩
   rw[← hsn] at hH
   subst hH
   refine aA ?_
   refine⟨j+1,by omega,by omega,?_⟩
   (apply Sub.to [] [[(0,0)],[(1,0)],[(3,0)]]; all_goals (repeat' (first | exact aE.nil | exact aB.nil | exact aF.nil | exact ToL.nil | exact ToR.nil | refine aE.cons ?_ ?_ | refine aB.cons ?_ ?_ | refine aP ?_ ?_ | exact To.undef _ | exact To.sc _ | exact To.hslL rfl rfl | exact To.asl _ _ _ _ _ _ _ rfl | refine To.ifc _ _ _ ?_ | exact To.ptrO rfl rfl rfl | exact To.mrefO rfl | exact To.nil rfl rfl rfl | exact wt1 | exact To.nilL | refine To.int ?_ | refine To.bool ?_ | refine To.hslL rfl ?_ | refine wt2 rfl ?_ ?_ ?_ | refine To.tupL ?_ | refine To.aggL ?_ | refine To.cptrL ?_ | refine To.fzp rfl rfl rfl ?_ | refine To.fzm rfl rfl ?_ | refine To.cloL ?_ ?_ | refine wt3 ?_ | refine wt4 ?_ | exact wt5 | refine wt6 ?_ | refine ToB.one ?_ | exact wt7 | ((with_reducible apply ToL.consE); case e9=>rfl) | refine wt8 ?_ | refine ToL.cons ?_ ?_ | exact wt11 | refine wt9 ?_ ?_ | refine wt12 ?_ | (with_reducible rfl) | assumption)); all_goals (first | rfl | assumption | (simp; done) | (simp; omega) | (rw[wrap_small (by omega) (by omega)]; done) | (rw[wrap_small (by omega) (by omega)]; omega) | (refine congrArg Nat.cast ?_; assumption) | skip))
   all_goals first | exact hlp _ _ _ rfl | exact .yld _ _ _ _ rfl | exact .dead _
  ·obtain rfl:M=j:=by omega
   rw[fF hfl]
   refine aA ?_
   refine⟨i+1,by omega,by omega,?_⟩
   (apply Sub.to [] [[(0,0)],[(1,0)],[(2,0)]]; all_goals (repeat' (first | exact aE.nil | exact aB.nil | exact aF.nil | exact ToL.nil | exact ToR.nil | refine aE.cons ?_ ?_ | refine aB.cons ?_ ?_ | refine aP ?_ ?_ | exact To.undef _ | exact To.sc _ | exact To.hslL rfl rfl | exact To.asl _ _ _ _ _ _ _ rfl | refine To.ifc _ _ _ ?_ | exact To.ptrO rfl rfl rfl | exact To.mrefO rfl | exact To.nil rfl rfl rfl | exact wt1 | exact To.nilL | refine To.int ?_ | refine To.bool ?_ | refine To.hslL rfl ?_ | refine wt2 rfl ?_ ?_ ?_ | refine To.tupL ?_ | refine To.aggL ?_ | refine To.cptrL ?_ | refine To.fzp rfl rfl rfl ?_ | refine To.fzm rfl rfl ?_ | refine To.cloL ?_ ?_ | refine wt3 ?_ | refine wt4 ?_ | exact wt5 | refine wt6 ?_ | refine ToB.one ?_ | exact wt7 | ((with_reducible apply ToL.consE); case e9=>rfl) | refine wt8 ?_ | refine ToL.cons ?_ ?_ | exact wt11 | refine wt9 ?_ ?_ | refine wt12 ?_ | (with_reducible rfl) | assumption)); all_goals (first | rfl | assumption | (simp; done) | (simp; omega) | (rw[wrap_small (by omega) (by omega)]; done) | (rw[wrap_small (by omega) (by omega)]; omega) | (refine congrArg Nat.cast ?_; assumption) | skip))
   all_goals first | exact hlp _ _ _ rfl | exact .yld _ _ _ _ rfl | exact .dead _
 ·obtain rfl:l.length=i:=by omega
  rw[← gT]
  refine aA ?_
  refine gI (res':=.tup []) [[(0,0)],[(1,0)],[(2,0)]] (.inl rfl) rfl rfl ?_ ?_ rfl rfl rfl
  ((all_goals (repeat' (first | exact aE.nil | exact aB.nil | exact aF.nil | exact ToL.nil | exact ToR.nil | refine aE.cons ?_ ?_ | refine aB.cons ?_ ?_ | refine aP ?_ ?_ | exact To.undef _ | exact To.sc _ | exact To.hslL rfl rfl | exact To.asl _ _ _ _ _ _ _ rfl | refine To.ifc _ _ _ ?_ | exact To.ptrO rfl rfl rfl | exact To.mrefO rfl | exact To.nil rfl rfl rfl | exact wt1 | exact To.nilL | refine To.int ?_ | refine To.bool ?_ | refine To.hslL rfl ?_ | refine wt2 rfl ?_ ?_ ?_ | refine To.tupL ?_ | refine To.aggL ?_ | refine To.cptrL ?_ | refine To.fzp rfl rfl rfl ?_ | refine To.fzm rfl rfl ?_ | refine To.cloL ?_ ?_ | refine wt3 ?_ | refine wt4 ?_ | exact wt5 | refine wt6 ?_ | refine ToB.one ?_ | exact wt7 | ((with_reducible apply ToL.consE); case e9=>rfl) | refine wt8 ?_ | refine ToL.cons ?_ ?_ | exact wt11 | refine wt9 ?_ ?_ | refine wt12 ?_ | (with_reducible rfl) | assumption)); all_goals (first | rfl | assumption | (simp; done) | (simp; omega) | (rw[wrap_small (by omega) (by omega)]; done) | (rw[wrap_small (by omega) (by omega)]; omega) | (refine congrArg Nat.cast ?_; assumption) | skip)))
  all_goals first | exact hlp _ _ _ rfl | exact .dead _
theorem CQ (l:List (Int×Int)):aC Tryz.prog 88 [.list 2 (enR l)] (.clo (.func 138) [] [.cptr [.list 2 (enR l)]]):=by
 refine aC.mkI cF88 (nlB rfl) ?_
 refine aA ?_
 exact aJ.w
theorem BQ (l:List (Int×Int)) (hn:l.length≤100000) (hb:∀ x∈l,(-2000000≤x.1∧x.1≤2000000)∧0≤x.2∧x.2≤100000) (hx:(exP l).length≤100000):aC Tryz.prog 153 [.sc (.slice none 0 0),.clo (.func 138) [] [.cptr [.list 2 (enR l)]]] (.list 1 (inR (exP l))):=by
 refine aC.mkI E2 (nlB rfl) ?_
 refine aA ?_
 refine AWP.sub (fr':=csF (.clo (.func 138) [] [.cptr [.list 2 (enR l)]])) (H':=[[.cells 1 [[.sc (.slice none 0 0)]]]]) ?_ ?_
 ·unfold csF
  (apply Sub.to [] [[(0,0)]]; all_goals (repeat' (first | exact aE.nil | exact aB.nil | exact aF.nil | exact ToL.nil | exact ToR.nil | refine aE.cons ?_ ?_ | refine aB.cons ?_ ?_ | refine aP ?_ ?_ | exact To.undef _ | exact To.sc _ | exact To.hslL rfl rfl | exact To.asl _ _ _ _ _ _ _ rfl | refine To.ifc _ _ _ ?_ | exact To.ptrO rfl rfl rfl | exact To.mrefO rfl | exact To.nil rfl rfl rfl | exact wt1 | exact To.nilL | refine To.int ?_ | refine To.bool ?_ | refine To.hslL rfl ?_ | refine wt2 rfl ?_ ?_ ?_ | refine To.tupL ?_ | refine To.aggL ?_ | refine To.cptrL ?_ | refine To.fzp rfl rfl rfl ?_ | refine To.fzm rfl rfl ?_ | refine To.cloL ?_ ?_ | refine wt3 ?_ | refine wt4 ?_ | exact wt5 | refine wt6 ?_ | refine ToB.one ?_ | exact wt7 | ((with_reducible apply ToL.consE); case e9=>rfl) | refine wt8 ?_ | refine ToL.cons ?_ ?_ | exact wt11 | refine wt9 ?_ ?_ | refine wt12 ?_ | (with_reducible rfl) | assumption)); all_goals (first | rfl | assumption | (simp; done) | (simp; omega) | (rw[wrap_small (by omega) (by omega)]; done) | (rw[wrap_small (by omega) (by omega)]; omega) | (refine congrArg Nat.cast ?_; assumption) | skip))
 refine AWP.rangeF (g:=138) (fs:=[]) (cs:=[.cptr [.list 2 (enR l)]]) rfl (Nat.zero_le _) rfl fun L hL=>?_
 refine(GZ inferInstance hL hn hb hx).mono ?_
 rintro res H' rfl
 refine⟨_,_,none,rfl,by decide,?_⟩
 have hol:=bD (exP l)
 unfold csF
 refine aA ?_
 exact aJ.w
theorem GI (l:List (Int×Int)) (hn:l.length≤100000) (hb:∀ x∈l,(-2000000≤x.1∧x.1≤2000000)∧0≤x.2∧x.2≤100000) (hx:(exP l).length≤100000):aC Tryz.prog 125 [.clo (.func 138) [] [.cptr [.list 2 (enR l)]]] (.list 1 (inR (exP l))):=by
 refine aC.mkI FX (nlB rfl) ?_
 have h:=BQ l hn hb hx
 refine aA ?_
 exact aJ.w
structure Sn where
 at':Int
 elem:Int
 ext:Int
 pl:List Int
def sn0:Sn:=⟨0,0,0,[]⟩
def snR (s:Sn):List AV:=[iv s.at',iv s.elem,iv s.ext,.list 1 (inR s.pl)]
theorem IP (es:List (Int×Int)) (hb:∀ y∈es,-mP≤y.2∧y.2≤mP):∀ p∈cI es,-2000000≤p∧p≤2000000:=fun p hp=>by
 obtain⟨i,hi,hp⟩:=List.mem_flatMap.1 hp
 obtain⟨j,hj,rfl⟩:=List.mem_map.1 hp
 have hi:=List.mem_range.1 hi
 have h1:=hb es[i] (List.getElem_mem _)
 have h2:=fT (es.getD i (0,0)).1
 have h3:=List.mem_range.1 hj
 have h4:es.getD i (0,0)=es[i]:=by simp[hi]
 rw[h4] at h2 h3 ⊢
 unfold mP at h1
 omega
def vwR (a:Int) (e o:Ty):List AV:=iv a::(tyR e++tyR o)
def jA (pl:List Int) (i:Nat):Int:=if i=0 then -1 else pl.getD (i - 1) 0
def u9 (pl:List Int) (ext:Int):Bool:=(List.range pl.length).all fun i=>decide (jA pl i < pl.getD i 0) && decide (pl.getD i 0 < ext)
def EH (elem size:Nat):Bool:=decide (1≤elem) && (decide (1≤size) && decide (size % elem=0))
def bV (a:Int) (e o:Ty):Int×Sn:=
 if a < 0∨65536 < a then(3,sn0)
 else if (aG 3 e).1≠0 then((aG 3 e).1,sn0)
 else if (aG 3 o).1≠0 then((aG 3 o).1,sn0)
 else if u9 (cI (aG 3 o).2.es) (aG 3 o).2.ext=true then
  if EH (bL (aG 3 e).2.es) (bL (aG 3 o).2.es)=true then(0,⟨a,bL (aG 3 e).2.es,(aG 3 o).2.ext,cI (aG 3 o).2.es⟩) else(2,sn0)
 else(2,sn0)
theorem kS (es:List (Int×Int)):(cI es).length=bL es:=by
 have:=uH es es.length (Nat.le_refl _)
 rw[List.take_length,← gT] at this
 exact this
set_option maxHeartbeats 2000000 in
theorem wV {a:Int} {e o:Ty} (he:bF 3 e=true) (ho:bF 3 o=true):aC Tryz.prog 63 [.agg (vwR a e o)] (.tup [.agg (snR (bV a e o).2),iv (bV a e o).1]):=by
 refine aC.mkI (hX:=⟨.tup _ (by
  intro c hc
  simp only[List.mem_cons,List.not_mem_nil,or_false] at hc
  rcases hc with rfl | rfl
  ·unfold snR; exact pv _
  ·exact .sc _)⟩) (ha:=⟨by
  intro c hc
  rw[List.mem_singleton.1 hc]
  unfold vwR
  exact pv _⟩) cF63 (nlB rfl) ?_
 have e1:=uG he
 have o1:=uG ho
 have o2:=sI ho
 have o3:=w8 ho
 have hol:=m7 ho
 have hel:=m7 he
 have hsb:=dH 3 o ho
 unfold bV
 generalize aG 3 e=re at *
 generalize aG 3 o=ro at *
 obtain⟨ee,se⟩:=re
 obtain⟨eo,so⟩:=ro
 simp only at e1 o1 o2 o3 hol hel hsb ⊢
 obtain⟨_,k1,c1,b1,s1,z1,l1,p1,f1,_,rfl,_⟩:=bI he
 obtain⟨_,k2,c2,b2,s2,z2,l2,p2,f2,_,rfl,_⟩:=bI ho
 have hn1:=fE se.es
 have hn2:=fE so.es
 have hpl:=kS so.es
 generalize hne:bL se.es=ne at *
 generalize hno:bL so.es=no at *
 rw[tyR] at e1 o1 o2 o3
 unfold vwR
 rw[tyR,tyR]
 unfold snR
 refine aA ?_
 by_cases ha:a < 0
 ·rw[dTr ha,if_pos (.inl ha)]
  refine aA ?_
  exact aJ.w
 rw[dFa ha]
 refine aA ?_
 refine AWP.condN (65536 < a) rfl rfl (fun h=>?_) (fun h=>?_)
 ·rw[if_pos (.inr h)]
  refine aA ?_
  exact aJ.w
 rw[if_neg (by omega)]
 refine aA ?_
 refine AWP.condN (ee≠0) rfl (fS _) (fun h1=>?_) (fun h1=>?_)
 ·rw[if_pos h1]
  refine aA ?_
  exact aJ.w
 rw[if_neg h1]
 refine aA ?_
 refine AWP.condN (eo≠0) rfl (fS _) (fun h2=>?_) (fun h2=>?_)
 ·rw[if_pos h2]
  refine aA ?_
  exact aJ.w
 rw[if_neg h2]
 obtain rfl:eo=0:=Decidable.byContradiction h2
 have hB:=hsb rfl
 have hsg:=nO (fun p=>-2000000≤p∧p≤2000000) _ (cI so.es) rfl (fun p hp=>IP so.es hB.2.2.2.2.2.2.2.2 p hp)
 have hex:=tT _ (cI so.es) rfl
 have hcol:=GI (bS (cI so.es)) (by omega) (fun x hx=>⟨(hsg.2 x hx).1,by have:=(hsg.2 x hx).2; omega⟩) (by rw[hex]; omega)
 rw[hex] at hcol
 have hea:=CQ (bS (cI so.es))
 generalize bS (cI so.es)=sg at *
 generalize cI so.es=pl at *
 generalize so.ext=ext at *
 have hil:=bD pl
 refine aA ?_
 refine DK.nil ⟨by kernel_rfl,?_⟩
 refine aA ?_
 refine AWP.loop (fun i:Nat=>[(2,.ptr 0 0 0 0),(4,iv ne),(6,iv no),(8,iv ext),(11,.cptr [iv a,iv ne,iv ext,.list 1 (inR pl)]),(12,iv (jA pl i)),(70,.list 1 (inR pl)),(71,iv pl.length),(72,iv i)]) (fun _=>[[.cells 4 [[iv 0,iv 0,iv 0,.sc (.slice none 0 0)]]]]) (fun i=>i≤pl.length∧∀ j,j < i→(decide (jA pl j < pl.getD j 0) && decide (pl.getD j 0 < ext))=true) (fun i=>pl.length - i) 0 ⟨Nat.zero_le _,fun j hj=>by omega⟩ ?_ ?_
 ·rw[← hil]
  (apply Sub.to [] [[(1,0)]]; all_goals (repeat' (first | exact aE.nil | exact aB.nil | exact aF.nil | exact ToL.nil | exact ToR.nil | refine aE.cons ?_ ?_ | refine aB.cons ?_ ?_ | refine aP ?_ ?_ | exact To.undef _ | exact To.sc _ | exact To.hslL rfl rfl | exact To.asl _ _ _ _ _ _ _ rfl | refine To.ifc _ _ _ ?_ | exact To.ptrO rfl rfl rfl | exact To.mrefO rfl | exact To.nil rfl rfl rfl | exact wt1 | exact To.nilL | refine To.int ?_ | refine To.bool ?_ | refine To.hslL rfl ?_ | refine wt2 rfl ?_ ?_ ?_ | refine To.tupL ?_ | refine To.aggL ?_ | refine To.cptrL ?_ | refine To.fzp rfl rfl rfl ?_ | refine To.fzm rfl rfl ?_ | refine To.cloL ?_ ?_ | refine wt3 ?_ | refine wt4 ?_ | exact wt5 | refine wt6 ?_ | refine ToB.one ?_ | exact wt7 | ((with_reducible apply ToL.consE); case e9=>rfl) | refine wt8 ?_ | refine ToL.cons ?_ ?_ | exact wt11 | refine wt9 ?_ ?_ | refine wt12 ?_ | (with_reducible rfl) | assumption)); all_goals (first | rfl | assumption | (simp; done) | (simp; omega) | (rw[wrap_small (by omega) (by omega)]; done) | (rw[wrap_small (by omega) (by omega)]; omega) | (refine congrArg Nat.cast ?_; assumption) | skip))
 rintro i ⟨hi,hin⟩
 refine aA ?_
 refine AWP.condN (i < pl.length) rfl rfl (fun h5=>?_) (fun h5=>?_)
 ·have hr:=bZ pl i h5
  have hg:pl.getD i 0=pl[i]:=by simp[h5]
  have hls:jA pl (i+1)=pl[i]:=by unfold jA; rw[if_neg (by omega)]; exact hg
  have hno':(decide (jA pl i < pl.getD i 0) && decide (pl.getD i 0 < ext))=false→u9 pl ext=false:=fun hf=>List.all_eq_false.2 ⟨i,List.mem_range.2 h5,by rw[hf]; simp⟩
  rw[hg] at hno'
  have hin':jA pl i < pl[i]→pl[i] < ext→∀ j,j < i+1→(decide (jA pl j < pl.getD j 0) && decide (pl.getD j 0 < ext))=true:=fun q1 q2 j hj=>by
   by_cases ej:j=i
   ·subst ej; rw[hg,dTr q1,dTr q2]; rfl
   ·exact hin j (by omega)
  generalize pl[i]=p at *
  generalize jA pl i=la at *
  refine aA ?_
  by_cases q1:p≤la
  ·rw[dTr q1]
   refine aA ?_
   rw[hno' (by rw[dFa (by omega)]; rfl),if_neg (by simp),show sn0.at'=0 from rfl,show sn0.elem=0 from rfl,show sn0.ext=0 from rfl,show sn0.pl=[] from rfl]
   exact aJ.w
  ·rw[dFa q1]
   refine aA ?_
   refine AWP.condN (ext≤p) rfl rfl (fun q2=>?_) (fun q2=>?_)
   ·refine aA ?_
    rw[hno' (by rw[dFa (show¬ p < ext by omega),Bool.and_false]),if_neg (by simp),show sn0.at'=0 from rfl,show sn0.elem=0 from rfl,show sn0.ext=0 from rfl,show sn0.pl=[] from rfl]
    exact aJ.w
   ·refine aA ?_
    refine⟨i+1,⟨by omega,hin' (by omega) (by omega)⟩,by omega,?_⟩
    rw[hls]
    (apply Sub.to [] [[(0,0)]]; all_goals (repeat' (first | exact aE.nil | exact aB.nil | exact aF.nil | exact ToL.nil | exact ToR.nil | refine aE.cons ?_ ?_ | refine aB.cons ?_ ?_ | refine aP ?_ ?_ | exact To.undef _ | exact To.sc _ | exact To.hslL rfl rfl | exact To.asl _ _ _ _ _ _ _ rfl | refine To.ifc _ _ _ ?_ | exact To.ptrO rfl rfl rfl | exact To.mrefO rfl | exact To.nil rfl rfl rfl | exact wt1 | exact To.nilL | refine To.int ?_ | refine To.bool ?_ | refine To.hslL rfl ?_ | refine wt2 rfl ?_ ?_ ?_ | refine To.tupL ?_ | refine To.aggL ?_ | refine To.cptrL ?_ | refine To.fzp rfl rfl rfl ?_ | refine To.fzm rfl rfl ?_ | refine To.cloL ?_ ?_ | refine wt3 ?_ | refine wt4 ?_ | exact wt5 | refine wt6 ?_ | refine ToB.one ?_ | exact wt7 | ((with_reducible apply ToL.consE); case e9=>rfl) | refine wt8 ?_ | refine ToL.cons ?_ ?_ | exact wt11 | refine wt9 ?_ ?_ | refine wt12 ?_ | (with_reducible rfl) | assumption)); all_goals (first | rfl | assumption | (simp; done) | (simp; omega) | (rw[wrap_small (by omega) (by omega)]; done) | (rw[wrap_small (by omega) (by omega)]; omega) | (refine congrArg Nat.cast ?_; assumption) | skip))
 ·obtain rfl:pl.length=i:=by omega
  rw[show u9 pl ext=true from List.all_eq_true.2 fun j hj=>hin j (List.mem_range.1 hj),if_pos rfl]
  refine aA ?_
  unfold EH
  by_cases g1:ne < 1
  ·rw[dTr g1,dFa (show¬ 1≤ne by omega)]
   refine aA ?_
   rw[if_neg (by simp),show sn0.at'=0 from rfl,show sn0.elem=0 from rfl,show sn0.ext=0 from rfl,show sn0.pl=[] from rfl]
   exact aJ.w
  rw[dFa g1,dTr (show 1≤ne by omega)]
  refine aA ?_
  by_cases g2:no < 1
  ·rw[dTr g2,dFa (show¬ 1≤no by omega)]
   refine aA ?_
   rw[if_neg (by simp),show sn0.at'=0 from rfl,show sn0.elem=0 from rfl,show sn0.ext=0 from rfl,show sn0.pl=[] from rfl]
   exact aJ.w
  rw[dFa g2,dTr (show 1≤no by omega)]
  refine aA ?_
  refine AWP.condN (¬ no % ne=0) rfl (by first | rfl | (simp; done)) (fun g3=>?_) (fun g3=>?_)
  ·rw[dFa g3,if_neg (by simp),show sn0.at'=0 from rfl,show sn0.elem=0 from rfl,show sn0.ext=0 from rfl,show sn0.pl=[] from rfl]
   refine aA ?_
   exact aJ.w
  ·rw[dTr (Decidable.byContradiction g3),if_pos (by rfl)]
   refine aA ?_
   exact aJ.w
def dE (s:Sn) (k:Nat):Int:=s.at'+((k / s.pl.length:Nat):Int) * s.ext+s.pl.getD (k % s.pl.length) 0
def cV (s:Sn) (off n:Nat):List Int:=(List.range n).map fun i=>dE s (off * s.elem.toNat+i)
def snB (s:Sn):Prop:=(0≤s.at'∧s.at'≤65536)∧(1≤s.elem∧s.elem≤40000)∧(-mP≤s.ext∧s.ext≤mP)∧0 < s.pl.length∧s.pl.length≤40000∧∀ p∈s.pl,-2000000≤p∧p≤2000000
def vsF (s:Sn) (c:AV):Fr:=[(3,.cptr [iv s.at',iv s.elem,iv s.ext,.list 1 (inR s.pl)]),(6,.ptr 0 0 0 0),(7,.ptr 1 0 0 0),(8,.ptr 2 0 0 0),(19,c)]
def vsE (x:Blk):Heap:=[[.cells 1 [[.sc (.slice none 0 0)]]],[.cells 1 [[bv false]]],[.cells 1 [[.sc (.slice none 0 0)]]],[x]]
def vsI (out:List Int) (x:Blk):Heap:=[[.cells 1 [[.sc (.slice none 0 0)]]],[.cells 1 [[bv false]]],[.cells 1 [[.hsl 4 0 0 out.length]]],[x],[.cells 1 (inR out)]]
def vsJ (out:List Int) (x:Blk):Heap:=[[.cells 1 [[.sc (.slice none 0 0)]]],[.cells 1 [[bv false]]],[.cells 1 [[.hsl 5 0 0 out.length]]],[x],[.dead],[.cells 1 (inR out)]]
def vsD (x:Blk):Heap:=[[.cells 1 [[.sc (.slice none 0 0)]]],[.cells 1 [[bv false]]],[.dead],[x],[.dead]]
def vsN (x:Blk):Heap:=[[.cells 1 [[.sc (.slice none 0 0)]]],[.cells 1 [[bv false]]],[.dead],[x]]
noncomputable def HM:bK:=iH [1,1,1,0,1,0] F64.code
theorem ID {T:AV→AV→Prop} {ρ:Nat→Nat→Option (Nat×Nat)} {s:Sn} {c:AV} {L:LC} {st:LoopState} {pe:Option Code} (hc:PV c) (r0:ρ 0 0=some (0,0)) (r1:ρ 1 0=some (1,0)) (r2:ρ 2 0=some (2,0)):ToB T ρ (.lp L (vsF s c) st pe) (.lp L (vsF s c) st pe):=by
 refine ToB.lp _ _ _ _ _ fun x hx=>?_
 simp only[vsF,List.mem_cons,List.not_mem_nil,or_false] at hx
 rcases hx with rfl | rfl | rfl | rfl | rfl
 ·exact To.pure (pv (AV.cptr [iv s.at',iv s.elem,iv s.ext,.list 1 (inR s.pl)]))
 ·exact To.ptrO r0 rfl rfl
 ·exact To.ptrO r1 rfl rfl
 ·exact To.ptrO r2 rfl rfl
 ·exact To.pure hc.out
set_option maxHeartbeats 1000000 in
theorem HH {L:LC} {s:Sn} {c:AV} (hc:PV c) (hL:LOK Tryz.prog F64.n L [20] (rfA HM) (rfB HM)) (out:List Int) (p:Int) (ho:out.length≤1000000):
  cW Tryz.prog 3 0 [iv p] (vsI out (.lp L (vsF s c) .ready none)) fun b H'=>(b=true∧p < 65536∧H'=vsJ (out++[p]) (.lp L (vsF s c) .ready none))∨(b=false∧65536≤p∧H'=vsD (.lp L (vsF s c) .done (some .ret))):=by
 refine eL.g ?_
 refine⟨L,_,_,_,_,_,hL,rfl,rfl,?_⟩
 show AWP _ _ _ (.region _) _ _ _
 have hlp:∀(T:AV→AV→Prop) (ρ:Nat→Nat→Option (Nat×Nat)) (st:LoopState) (pe:Option Code),ρ 0 0=some (0,0)→ρ 1 0=some (1,0)→ρ 2 0=some (2,0)→ToB T ρ (.lp L (vsF s c) st pe) (.lp L (vsF s c) st pe):=fun T ρ st pe=>ID hc
 obtain⟨caps,hcaps⟩:∃ caps,caps=vsF s c:=⟨_,rfl⟩
 rw[← hcaps] at hlp ⊢
 rw[show putL caps ([20].zip [iv p])=(20,iv p)::vsF s c by rw[hcaps]; rfl]
 unfold vsF
 have hol:=bD out
 refine aA ?_
 refine⟨rfl,caps,rfl,?_⟩
 show AWP _ _ _ (.block 1 _) _ _ _
 refine AWP.fin ?_
 refine aA ?_
 refine AWP.condN (65536≤p) rfl rfl (fun h=>?_) (fun h=>?_)
 ·refine aA ?_
  refine⟨[],vsD (.lp L caps .busy none),?_,caps,rfl,.inr ⟨rfl,h,rfl⟩⟩
  (apply Sub.to [] [[(0,0)],[(1,0)],[(2,0)],[(3,0)],[(4,0)]]; all_goals (repeat' (first | exact aE.nil | exact aB.nil | exact aF.nil | exact ToL.nil | exact ToR.nil | refine aE.cons ?_ ?_ | refine aB.cons ?_ ?_ | refine aP ?_ ?_ | exact To.undef _ | exact To.sc _ | exact To.hslL rfl rfl | exact To.asl _ _ _ _ _ _ _ rfl | refine To.ifc _ _ _ ?_ | exact To.ptrO rfl rfl rfl | exact To.mrefO rfl | exact To.nil rfl rfl rfl | exact wt1 | exact To.nilL | refine To.int ?_ | refine To.bool ?_ | refine To.hslL rfl ?_ | refine wt2 rfl ?_ ?_ ?_ | refine To.tupL ?_ | refine To.aggL ?_ | refine To.cptrL ?_ | refine To.fzp rfl rfl rfl ?_ | refine To.fzm rfl rfl ?_ | refine To.cloL ?_ ?_ | refine wt3 ?_ | refine wt4 ?_ | exact wt5 | refine wt6 ?_ | refine ToB.one ?_ | exact wt7 | ((with_reducible apply ToL.consE); case e9=>rfl) | refine wt8 ?_ | refine ToL.cons ?_ ?_ | exact wt11 | refine wt9 ?_ ?_ | refine wt12 ?_ | (with_reducible rfl) | assumption)); all_goals (first | rfl | assumption | (simp; done) | (simp; omega) | (rw[wrap_small (by omega) (by omega)]; done) | (rw[wrap_small (by omega) (by omega)]; omega) | (refine congrArg Nat.cast ?_; assumption) | skip))
  all_goals first | exact hlp _ _ _ _ rfl rfl rfl | exact .yld _ _ _ _ rfl | exact .dead _
 ·refine aA ?_
  refine⟨[],vsJ (out++[p]) (.lp L caps .busy none),?_,caps,rfl,.inl ⟨rfl,by omega,rfl⟩⟩
  unfold vsJ
  rw[List.length_append]
  (apply Sub.to [] [[(0,0)],[(1,0)],[(2,0)],[(3,0)],[(4,0)],[(6,0)]]; all_goals (repeat' (first | exact aE.nil | exact aB.nil | exact aF.nil | exact ToL.nil | exact ToR.nil | refine aE.cons ?_ ?_ | refine aB.cons ?_ ?_ | refine aP ?_ ?_ | exact To.undef _ | exact To.sc _ | exact To.hslL rfl rfl | exact To.asl _ _ _ _ _ _ _ rfl | refine To.ifc _ _ _ ?_ | exact To.ptrO rfl rfl rfl | exact To.mrefO rfl | exact To.nil rfl rfl rfl | exact wt1 | exact To.nilL | refine To.int ?_ | refine To.bool ?_ | refine To.hslL rfl ?_ | refine wt2 rfl ?_ ?_ ?_ | refine To.tupL ?_ | refine To.aggL ?_ | refine To.cptrL ?_ | refine To.fzp rfl rfl rfl ?_ | refine To.fzm rfl rfl ?_ | refine To.cloL ?_ ?_ | refine wt3 ?_ | refine wt4 ?_ | exact wt5 | refine wt6 ?_ | refine ToB.one ?_ | exact wt7 | ((with_reducible apply ToL.consE); case e9=>rfl) | refine wt8 ?_ | refine ToL.cons ?_ ?_ | exact wt11 | refine wt9 ?_ ?_ | refine wt12 ?_ | (with_reducible rfl) | assumption)); all_goals (first | rfl | assumption | (simp; done) | (simp; omega) | (rw[wrap_small (by omega) (by omega)]; done) | (rw[wrap_small (by omega) (by omega)]; omega) | (refine congrArg Nat.cast ?_; assumption) | skip))
  all_goals first | exact hlp _ _ _ _ rfl rfl rfl | exact .dead _ | exact(by simp[inR]:inR out++[[iv p]]=inR (out++[p]))
set_option maxHeartbeats 1000000 in
theorem yM {L:LC} {s:Sn} {c:AV} {off n:Nat} (hc:PV c) (hL:LOK Tryz.prog F64.n L [20] (rfA HM) (rfB HM)) (hs:snB s) (hn:n≤5000) (ho:0 < n→off≤65536) (_hop:off < 9223372036854775808):
  aH Tryz.prog 154 [.yld 3 0,.cptr [iv n],.cptr [iv off],.cptr [iv s.at',iv s.elem,iv s.ext,.list 1 (inR s.pl)]] (vsE (.lp L (vsF s c) .ready none)) fun _ H'=>
   ((∀ p∈cV s off n,p < 65536)∧H'=vsI (cV s off n) (.lp L (vsF s c) .ready none))∨(¬ (∀ p∈cV s off n,p < 65536)∧H'=vsN (.lp L (vsF s c) .done (some .ret))):=by
 have hlp:∀(T:AV→AV→Prop) (ρ:Nat→Nat→Option (Nat×Nat)) (st:LoopState) (pe:Option Code),ρ 0 0=some (0,0)→ρ 1 0=some (1,0)→ρ 2 0=some (2,0)→ToB T ρ (.lp L (vsF s c) st pe) (.lp L (vsF s c) st pe):=fun T ρ st pe=>ID hc
 obtain⟨⟨s1,s2⟩,⟨s3,s4⟩,⟨s5,s6⟩,s7,s8,s9⟩:=hs
 unfold mP at s5 s6
 have hil:=bD s.pl
 obtain⟨E,hE⟩:∃ E:Nat,s.elem=E:=⟨s.elem.toNat,by omega⟩
 have hgi:∀ i,i < n→(cV s off n)[i]?=some (dE s (off * E+i)):=fun i hi=>by
  unfold cV
  rw[hE]
  simp[hi]
 have hvl:(cV s off n).length=n:=by simp[cV]
 generalize hvv:cV s off n=vv at *
 rw[hE]
 refine aH.of JU ?_ (nlB rfl)
 refine aA ?_
 refine AWP.loop (fun i:Nat=>[(0,.yld 3 0),(1,.cptr [iv n]),(2,.cptr [iv off]),(3,.cptr [iv s.at',iv E,iv s.ext,.list 1 (inR s.pl)]),(7,iv n),(8,iv i)]) (fun i=>vsI (vv.take i) (.lp L (vsF s c) .ready none)) (fun i=>i≤n∧∀ p∈vv.take i,p < 65536) (fun i=>n - i) 0 ⟨Nat.zero_le _,fun p hp=>by simp at hp⟩ ?_ ?_
 ·rw[show vv.take 0=[] from rfl]
  (apply Sub.to [1] [[(0,0)],[(1,0)],[(2,0)],[(3,0)],[(4,0)]]; all_goals (repeat' (first | exact aE.nil | exact aB.nil | exact aF.nil | exact ToL.nil | exact ToR.nil | refine aE.cons ?_ ?_ | refine aB.cons ?_ ?_ | refine aP ?_ ?_ | exact To.undef _ | exact To.sc _ | exact To.hslL rfl rfl | exact To.asl _ _ _ _ _ _ _ rfl | refine To.ifc _ _ _ ?_ | exact To.ptrO rfl rfl rfl | exact To.mrefO rfl | exact To.nil rfl rfl rfl | exact wt1 | exact To.nilL | refine To.int ?_ | refine To.bool ?_ | refine To.hslL rfl ?_ | refine wt2 rfl ?_ ?_ ?_ | refine To.tupL ?_ | refine To.aggL ?_ | refine To.cptrL ?_ | refine To.fzp rfl rfl rfl ?_ | refine To.fzm rfl rfl ?_ | refine To.cloL ?_ ?_ | refine wt3 ?_ | refine wt4 ?_ | exact wt5 | refine wt6 ?_ | refine ToB.one ?_ | exact wt7 | ((with_reducible apply ToL.consE); case e9=>rfl) | refine wt8 ?_ | refine ToL.cons ?_ ?_ | exact wt11 | refine wt9 ?_ ?_ | refine wt12 ?_ | (with_reducible rfl) | assumption)); all_goals (first | rfl | assumption | (simp; done) | (simp; omega) | (rw[wrap_small (by omega) (by omega)]; done) | (rw[wrap_small (by omega) (by omega)]; omega) | (refine congrArg Nat.cast ?_; assumption) | skip))
  all_goals first | exact hlp _ _ _ _ rfl rfl rfl | exact .yld _ _ _ _ rfl | exact .dead _
 rintro i ⟨hi,hin⟩
 refine cK ?_
 refine AWP.condN (i < n) rfl rfl (fun h=>?_) (fun h=>?_)
 ·have ho':=ho (by omega)
  have hg:=hgi i h
  have hoe:off * E≤65536 * 40000:=Nat.mul_le_mul ho' (by omega)
  have hp0:dE s (off * E+i)=s.at'+(((off * E+i) / s.pl.length:Nat):Int) * s.ext+s.pl.getD ((off * E+i) % s.pl.length) 0:=rfl
  have hkm:(off * E+i) % s.pl.length < s.pl.length:=Nat.mod_lt _ s7
  have hr:=bZ s.pl ((off * E+i) % s.pl.length) hkm
  have hpb:=s9 s.pl[(off * E+i) % s.pl.length] (List.getElem_mem _)
  have hgd:s.pl.getD ((off * E+i) % s.pl.length) 0=s.pl[(off * E+i) % s.pl.length]:=by simp[hkm]
  rw[hgd] at hp0
  generalize s.pl[(off * E+i) % s.pl.length]=pv' at *
  have hq:(off * E+i) / s.pl.length≤off * E+i:=Nat.div_le_self _ _
  obtain⟨Q,hQ⟩:∃ Q,Q=(off * E+i) / s.pl.length:=⟨_,rfl⟩
  rw[← hQ] at hq hp0
  have hmu:=qK (a:=(Q:Int)) (b:=s.ext) (A:=2621445000) (B:=1048576) (by omega) (by omega) s5 s6
  have htl:(vv.take i).length≤1000000:=by rw[List.length_take]; omega
  have htk:vv.take (i+1)=vv.take i++[dE s (off * E+i)]:=by rw[List.take_add_one,hg]; rfl
  refine cK ?_
  refine AWP.dky 22 [(0,.yld 3 0),(1,.cptr [iv n]),(2,.cptr [iv off]),(3,.cptr [iv s.at',iv E,iv s.ext,.list 1 (inR s.pl)]),(7,iv n),(8,iv i),(17,.yld 3 0),(38,iv (dE s (off * E+i)))] (vsI (vv.take i) (.lp L (vsF s c) .ready none)) sL rfl rfl (by kernel_rfl) (by kernel_rfl) (by kernel_rfl) ?_ ?_
  ·refine aA ?_
   rw[hil]
   refine aA ?_
   rw[← hQ,Av.wrap_small (show -9223372036854775808≤(Q:Int) * s.ext by omega) (by omega),Av.wrap_small (show -9223372036854775808≤s.at'+(Q:Int) * s.ext by omega) (by omega),Av.wrap_small (show -9223372036854775808≤s.at'+(Q:Int) * s.ext+pv' by omega) (by omega)]
   refine DK.nil ⟨by kernel_rfl,?_⟩
   rw[← hp0]
   (apply Sub.to [] [[(0,0)],[(1,0)],[(2,0)],[(3,0)],[(4,0)]]; all_goals (repeat' (first | exact aE.nil | exact aB.nil | exact aF.nil | exact ToL.nil | exact ToR.nil | refine aE.cons ?_ ?_ | refine aB.cons ?_ ?_ | refine aP ?_ ?_ | exact To.undef _ | exact To.sc _ | exact To.hslL rfl rfl | exact To.asl _ _ _ _ _ _ _ rfl | refine To.ifc _ _ _ ?_ | exact To.ptrO rfl rfl rfl | exact To.mrefO rfl | exact To.nil rfl rfl rfl | exact wt1 | exact To.nilL | refine To.int ?_ | refine To.bool ?_ | refine To.hslL rfl ?_ | refine wt2 rfl ?_ ?_ ?_ | refine To.tupL ?_ | refine To.aggL ?_ | refine To.cptrL ?_ | refine To.fzp rfl rfl rfl ?_ | refine To.fzm rfl rfl ?_ | refine To.cloL ?_ ?_ | refine wt3 ?_ | refine wt4 ?_ | exact wt5 | refine wt6 ?_ | refine ToB.one ?_ | exact wt7 | ((with_reducible apply ToL.consE); case e9=>rfl) | refine wt8 ?_ | refine ToL.cons ?_ ?_ | exact wt11 | refine wt9 ?_ ?_ | refine wt12 ?_ | (with_reducible rfl) | assumption)); all_goals (first | rfl | assumption | (simp; done) | (simp; omega) | (rw[wrap_small (by omega) (by omega)]; done) | (rw[wrap_small (by omega) (by omega)]; omega) | (refine congrArg Nat.cast ?_; assumption) | skip))
   all_goals first | exact hlp _ _ _ _ rfl rfl rfl | exact .yld _ _ _ _ rfl | exact .dead _
  ·refine⟨rfl,nlB rfl,3,0,rfl,?_⟩
   refine(HH hc hL (vv.take i) (dE s (off * E+i)) htl).mono ?_
   generalize dE s (off * E+i)=p at *
   rintro b' H' (⟨rfl,hlt,rfl⟩ | ⟨rfl,hge,rfl⟩)
   ·refine aA ?_
    refine DK.nil ⟨by kernel_rfl,?_⟩
    refine aA ?_
    refine⟨i+1,⟨by omega,fun q hq=>?_⟩,by omega,?_⟩
    ·rw[htk] at hq
     rcases List.mem_append.1 hq with hq | hq
     ·exact hin q hq
     ·rw[List.mem_singleton.1 hq]; exact hlt
    rw[htk]
    (apply Sub.to [] [[(0,0)],[(1,0)],[(2,0)],[(3,0)],[(5,0)]]; all_goals (repeat' (first | exact aE.nil | exact aB.nil | exact aF.nil | exact ToL.nil | exact ToR.nil | refine aE.cons ?_ ?_ | refine aB.cons ?_ ?_ | refine aP ?_ ?_ | exact To.undef _ | exact To.sc _ | exact To.hslL rfl rfl | exact To.asl _ _ _ _ _ _ _ rfl | refine To.ifc _ _ _ ?_ | exact To.ptrO rfl rfl rfl | exact To.mrefO rfl | exact To.nil rfl rfl rfl | exact wt1 | exact To.nilL | refine To.int ?_ | refine To.bool ?_ | refine To.hslL rfl ?_ | refine wt2 rfl ?_ ?_ ?_ | refine To.tupL ?_ | refine To.aggL ?_ | refine To.cptrL ?_ | refine To.fzp rfl rfl rfl ?_ | refine To.fzm rfl rfl ?_ | refine To.cloL ?_ ?_ | refine wt3 ?_ | refine wt4 ?_ | exact wt5 | refine wt6 ?_ | refine ToB.one ?_ | exact wt7 | ((with_reducible apply ToL.consE); case e9=>rfl) | refine wt8 ?_ | refine ToL.cons ?_ ?_ | exact wt11 | refine wt9 ?_ ?_ | refine wt12 ?_ | (with_reducible rfl) | assumption)); all_goals (first | rfl | assumption | (simp; done) | (simp; omega) | (rw[wrap_small (by omega) (by omega)]; done) | (rw[wrap_small (by omega) (by omega)]; omega) | (refine congrArg Nat.cast ?_; assumption) | skip))
    all_goals first | exact hlp _ _ _ _ rfl rfl rfl | exact .yld _ _ _ _ rfl | exact .dead _
   ·refine aA ?_
    refine DK.nil ⟨by kernel_rfl,?_⟩
    refine aA ?_
    refine gI (res':=.tup []) (H2:=vsN (.lp L (vsF s c) .done (some .ret))) [[(0,0)],[(1,0)],[(2,0)],[(3,0)]] (.inr rfl) rfl (.inr ⟨fun hall=>?_,rfl⟩) ?_ ?_ rfl rfl rfl
    ·have:=hall p (List.mem_of_getElem? hg)
     omega
    ((all_goals (repeat' (first | exact aE.nil | exact aB.nil | exact aF.nil | exact ToL.nil | exact ToR.nil | refine aE.cons ?_ ?_ | refine aB.cons ?_ ?_ | refine aP ?_ ?_ | exact To.undef _ | exact To.sc _ | exact To.hslL rfl rfl | exact To.asl _ _ _ _ _ _ _ rfl | refine To.ifc _ _ _ ?_ | exact To.ptrO rfl rfl rfl | exact To.mrefO rfl | exact To.nil rfl rfl rfl | exact wt1 | exact To.nilL | refine To.int ?_ | refine To.bool ?_ | refine To.hslL rfl ?_ | refine wt2 rfl ?_ ?_ ?_ | refine To.tupL ?_ | refine To.aggL ?_ | refine To.cptrL ?_ | refine To.fzp rfl rfl rfl ?_ | refine To.fzm rfl rfl ?_ | refine To.cloL ?_ ?_ | refine wt3 ?_ | refine wt4 ?_ | exact wt5 | refine wt6 ?_ | refine ToB.one ?_ | exact wt7 | ((with_reducible apply ToL.consE); case e9=>rfl) | refine wt8 ?_ | refine ToL.cons ?_ ?_ | exact wt11 | refine wt9 ?_ ?_ | refine wt12 ?_ | (with_reducible rfl) | assumption)); all_goals (first | rfl | assumption | (simp; done) | (simp; omega) | (rw[wrap_small (by omega) (by omega)]; done) | (rw[wrap_small (by omega) (by omega)]; omega) | (refine congrArg Nat.cast ?_; assumption) | skip)))
    all_goals first | exact hlp _ _ _ _ rfl rfl rfl | exact .yld _ _ _ _ rfl | exact .dead _
 ·obtain rfl:n=i:=by omega
  rw[List.take_of_length_le (by omega)] at hin ⊢
  refine aA ?_
  refine gI (res':=.tup []) [[(0,0)],[(1,0)],[(2,0)],[(3,0)],[(4,0)]] (.inl rfl) rfl (.inl ⟨hin,rfl⟩) ?_ ?_ rfl rfl rfl
  ((all_goals (repeat' (first | exact aE.nil | exact aB.nil | exact aF.nil | exact ToL.nil | exact ToR.nil | refine aE.cons ?_ ?_ | refine aB.cons ?_ ?_ | refine aP ?_ ?_ | exact To.undef _ | exact To.sc _ | exact To.hslL rfl rfl | exact To.asl _ _ _ _ _ _ _ rfl | refine To.ifc _ _ _ ?_ | exact To.ptrO rfl rfl rfl | exact To.mrefO rfl | exact To.nil rfl rfl rfl | exact wt1 | exact To.nilL | refine To.int ?_ | refine To.bool ?_ | refine To.hslL rfl ?_ | refine wt2 rfl ?_ ?_ ?_ | refine To.tupL ?_ | refine To.aggL ?_ | refine To.cptrL ?_ | refine To.fzp rfl rfl rfl ?_ | refine To.fzm rfl rfl ?_ | refine To.cloL ?_ ?_ | refine wt3 ?_ | refine wt4 ?_ | exact wt5 | refine wt6 ?_ | refine ToB.one ?_ | exact wt7 | ((with_reducible apply ToL.consE); case e9=>rfl) | refine wt8 ?_ | refine ToL.cons ?_ ?_ | exact wt11 | refine wt9 ?_ ?_ | refine wt12 ?_ | (with_reducible rfl) | assumption)); all_goals (first | rfl | assumption | (simp; done) | (simp; omega) | (rw[wrap_small (by omega) (by omega)]; done) | (rw[wrap_small (by omega) (by omega)]; omega) | (refine congrArg Nat.cast ?_; assumption) | skip)))
  all_goals first | exact hlp _ _ _ _ rfl rfl rfl | exact .yld _ _ _ _ rfl | exact .dead _
end Go.Proofs.YtgdocflpobncmaaGreat
