import Derived.Test.YtgdocflpobncmaaGreatGFiC
import Derived.Test.YtgdocflpobncmaaGreatGAvMv
import Derived.Test.YtgdocflpobncmaaGreatGAvK5
import Derived.KernelRfl
namespace Go.Proofs.YtgdocflpobncmaaGreat
open Go.Av Go.Proofs
set_option maxRecDepth 20000
theorem kW:Tryz.prog.follows .mixedOrders=true:=by kernel_rfl
def dA (l:List Int):List (List AV):=l.map fun n=>[.sc (.int .i64 n)]
theorem vH (l:List Int):(dA l).length=l.length:=by simp[dA]
instance (l:List Int):PRs (dA l):=⟨fun r hr=>by
 obtain⟨a,_,rfl⟩:=List.mem_map.1 hr
 exact bF (.sc _) dM⟩
def jN (l:List (Int×AV)):List (Value×AV):=l.map fun p=>(.int .i64 p.1,p.2)
theorem mH {l:List (Int×AV)} (h:∀ x∈l,bG x.2):∀ x∈jN l,bG x.2:=fun x hx=>by
 obtain⟨y,hy,rfl⟩:=List.mem_map.1 hx
 exact h y hy
set_option maxHeartbeats 4000000 in
theorem KJ (es:List (Int×AV)) (hp:∀ x∈es,bG x.2) (hn:es.length≤1000000) (c:AV) (hc:bG c) (L:LC) (hL:LOK Tryz.prog 13 L [7] (.region [⟨some 5,none,.op (.move (.tmp 7))⟩]) (.block 1 (.region [⟨some 8,none,.op (.load 1 false (.tmp 2))⟩,⟨some 9,none,.op (.move (.tmp 5))⟩,⟨some 10,none,.op (.buildSlice 1 [(1,(.int .i64 0))] 1 [(0,(.tmp 9))])⟩,⟨some 11,none,.op (.append 1 8 (.tmp 8) (.tmp 10))⟩,⟨none,none,.op (.store 1 (.tmp 2) (.tmp 11))⟩]))):
  aG Tryz.prog 139 [.yld 1 0,.cptr [.tmap (jN es)]] [[.cells 1 [[.sc (.slice none 0 0)]]],[.lp L [(2,.ptr 0 0 0 0),(6,c)] .ready none]] fun _ H'=>
   ∃ ks:List Int,ks.Perm (es.map (·.1))∧H'=[[.cells 1 [[.hsl 2 0 0 ks.length]]],[.lp L [(2,.ptr 0 0 0 0),(6,c)] .ready none],[.cells 1 (dA ks)]]:=by
 refine aG.of MR ?_ (nlB rfl)
 refine aA ?_
 refine AWP.loop3 (fun(ks:List Int) (cur:Option (Value×AV)) (left:List (Int×AV))=>[(0,.yld 1 0),(5,.ptr 2 0 0 0)])
  (fun ks cur left=>[[.cells 1 [[.hsl 3 0 0 ks.length]]],[.lp L [(2,.ptr 0 0 0 0),(6,c)] .ready none],[.it cur (jN left)],[.cells 1 (dA ks)]])
  (fun ks cur left=>(ks++left.map (·.1)).Perm (es.map (·.1))∧(∀ x∈left,bG x.2)∧(∀ x,cur=some x→bG x.2)) (fun ks cur left=>left.length) [] none es ⟨.refl _,hp,fun x h=>by cases h⟩ ?_ ?_
 ·(apply Sub.to [1] [[(0,0)],[(1,0)],[(2,0)],[(3,0)]]; all_goals (repeat' (first | exact aT.nil | exact aK.nil | exact bN.nil | exact ToL.nil | exact ToR.nil | refine aT.cons ?_ ?_ | refine aK.cons ?_ ?_ | refine eJ ?_ ?_ | exact To.undef _ | exact To.sc _ | exact To.hslL rfl rfl | exact To.asl _ _ _ _ _ _ _ rfl | refine To.ifc _ _ _ ?_ | exact To.ptrO rfl rfl rfl | exact To.mrefO rfl | exact To.nil rfl rfl rfl | exact wt1 | exact To.nilL | refine To.int ?_ | refine To.bool ?_ | refine To.hslL rfl ?_ | refine wt2 rfl ?_ ?_ ?_ | refine To.tupL ?_ | refine To.aggL ?_ | refine To.cptrL ?_ | refine To.fzp rfl rfl rfl ?_ | refine To.fzm rfl rfl ?_ | refine To.cloL ?_ ?_ | refine wt3 ?_ | refine wt4 ?_ | exact wt5 | refine wt6 ?_ | refine ToB.one ?_ | exact wt7 | ((with_reducible apply ToL.consE); case e9=>rfl) | refine wt8 ?_ | refine ToL.cons ?_ ?_ | exact wt11 | refine wt9 ?_ ?_ | refine wt12 ?_ | exact .yld _ _ _ _ rfl | exact .dead _ | exact hlp _ _ _ _ rfl rfl rfl | exact hlp _ _ _ rfl rfl rfl | exact hlp _ _ _ rfl rfl | exact hlp _ _ _ rfl | (with_reducible rfl) | assumption)); all_goals (first | rfl | assumption | (simp; done) | (simp; omega) | (rw[wrap_small (by omega) (by omega)]; done) | (rw[wrap_small (by omega) (by omega)]; omega) | (refine congrArg Nat.cast ?_; assumption) | omega | (exact Av.wrap_small (by omega) (by omega)) | skip))
  all_goals (first | exact .yld _ _ _ _ rfl | exact ToB.dead _ | exact ToB.it _ _ (mH hp) (fun x h=>by cases h) | (refine ToB.lp _ _ _ _ _ fun x hx=>?_; simp only[List.mem_cons,List.not_mem_nil,or_false] at hx; rcases hx with rfl | rfl; exact To.ptrO rfl rfl rfl; exact To.pure hc))
 rintro ks cur left ⟨hk1,hk2,hk3⟩
 refine AWP.seq ?_
 refine AWP.region ?_
 refine Reg.next rfl rfl rfl (fun h=>?_) (fun l1 y l2 h=>?_)
 ·have hl:left=[]:=List.map_eq_nil_iff.1 h
  subst hl
  rw[List.map_nil,List.append_nil] at hk1
  refine aA ?_
  refine iW (res':=.tup []) [[(0,0)],[(1,0)],[(3,0)]] (.inl rfl) rfl ⟨ks,hk1,rfl⟩ ?_ ?_ rfl rfl rfl
  ((all_goals (repeat' (first | exact aT.nil | exact aK.nil | exact bN.nil | exact ToL.nil | exact ToR.nil | refine aT.cons ?_ ?_ | refine aK.cons ?_ ?_ | refine eJ ?_ ?_ | exact To.undef _ | exact To.sc _ | exact To.hslL rfl rfl | exact To.asl _ _ _ _ _ _ _ rfl | refine To.ifc _ _ _ ?_ | exact To.ptrO rfl rfl rfl | exact To.mrefO rfl | exact To.nil rfl rfl rfl | exact wt1 | exact To.nilL | refine To.int ?_ | refine To.bool ?_ | refine To.hslL rfl ?_ | refine wt2 rfl ?_ ?_ ?_ | refine To.tupL ?_ | refine To.aggL ?_ | refine To.cptrL ?_ | refine To.fzp rfl rfl rfl ?_ | refine To.fzm rfl rfl ?_ | refine To.cloL ?_ ?_ | refine wt3 ?_ | refine wt4 ?_ | exact wt5 | refine wt6 ?_ | refine ToB.one ?_ | exact wt7 | ((with_reducible apply ToL.consE); case e9=>rfl) | refine wt8 ?_ | refine ToL.cons ?_ ?_ | exact wt11 | refine wt9 ?_ ?_ | refine wt12 ?_ | exact .yld _ _ _ _ rfl | exact .dead _ | exact hlp _ _ _ _ rfl rfl rfl | exact hlp _ _ _ rfl rfl rfl | exact hlp _ _ _ rfl rfl | exact hlp _ _ _ rfl | (with_reducible rfl) | assumption)); all_goals (first | rfl | assumption | (simp; done) | (simp; omega) | (rw[wrap_small (by omega) (by omega)]; done) | (rw[wrap_small (by omega) (by omega)]; omega) | (refine congrArg Nat.cast ?_; assumption) | omega | (exact Av.wrap_small (by omega) (by omega)) | skip)))
  all_goals (first | exact .yld _ _ _ _ rfl | exact ToB.dead _ | exact ToB.it _ _ (hk2) (hk3) | (refine ToB.lp _ _ _ _ _ fun x hx=>?_; simp only[List.mem_cons,List.not_mem_nil,or_false] at hx; rcases hx with rfl | rfl; exact To.ptrO rfl rfl rfl; exact To.pure hc))
 ·obtain⟨m1,m2,rfl,e1,e2⟩:=List.map_eq_append_iff.1 h
  obtain⟨x,m3,rfl,e3,e4⟩:=List.map_eq_cons_iff.1 e2
  subst e1; subst e3; subst e4
  have hx:bG x.2:=hk2 x (by simp)
  have hp2:∀ y∈m1++m3,bG y.2:=fun y hy=>hk2 y (by rcases List.mem_append.1 hy with h | h<;>simp[h])
  have g2:∀ y:Value×AV,some (Value.int .i64 x.1,x.2)=some y→bG y.2:=fun y hy=>by injection hy with hy; subst hy; exact hx
  have e0:=vH ks
  have hkl:ks.length≤1000000:=by
   have:=hk1.length_eq
   rw[List.length_append,List.length_map,List.length_map] at this
   omega
  refine qR ?_
  refine AWP.seq ?_
  refine AWP.condT rfl ?_
  refine AWP.skip ?_
  refine AWP.block ?_
  refine AWP.seq ?_
  refine AWP.region ?_
  refine qR ?_
  refine AWP.seq ?_
  refine AWP.rY rfl ?_
  refine aA ?_
  refine⟨rfl,nlB rfl,1,0,rfl,?_⟩
  refine⟨L,_,_,_,_,_,hL,rfl,rfl,?_⟩
  refine aA ?_
  refine⟨rfl,_,rfl,?_⟩
  refine AWP.fin ?_
  refine aA ?_
  refine⟨[],[[.cells 1 [[.hsl 4 0 0 (ks++[x.1]).length]]],[.lp L [(2,.ptr 0 0 0 0),(6,c)] .busy none],[.it (some (.int .i64 x.1,x.2)) (jN (m1++m3))],[.dead],[.cells 1 (dA (ks++[x.1]))]],?_,_,rfl,?_⟩
  ·have hr:dA (ks++[x.1])=dA ks++[[.sc (.int .i64 x.1)]]:=by simp[dA]
   have hl:(ks++[x.1]).length=ks.length+1:=by simp
   have hm:jN (m1++m3)=jN m1++jN m3:=List.map_append
   have g1:∀ y∈jN m1++jN m3,bG y.2:=by rw[← hm]; exact mH hp2
   rw[hr,hl,hm]
   (apply Sub.to [] [[(0,0)],[(1,0)],[(2,0)],[(3,0)],[(5,0)]]; all_goals (repeat' (first | exact aT.nil | exact aK.nil | exact bN.nil | exact ToL.nil | exact ToR.nil | refine aT.cons ?_ ?_ | refine aK.cons ?_ ?_ | refine eJ ?_ ?_ | exact To.undef _ | exact To.sc _ | exact To.hslL rfl rfl | exact To.asl _ _ _ _ _ _ _ rfl | refine To.ifc _ _ _ ?_ | exact To.ptrO rfl rfl rfl | exact To.mrefO rfl | exact To.nil rfl rfl rfl | exact wt1 | exact To.nilL | refine To.int ?_ | refine To.bool ?_ | refine To.hslL rfl ?_ | refine wt2 rfl ?_ ?_ ?_ | refine To.tupL ?_ | refine To.aggL ?_ | refine To.cptrL ?_ | refine To.fzp rfl rfl rfl ?_ | refine To.fzm rfl rfl ?_ | refine To.cloL ?_ ?_ | refine wt3 ?_ | refine wt4 ?_ | exact wt5 | refine wt6 ?_ | refine ToB.one ?_ | exact wt7 | ((with_reducible apply ToL.consE); case e9=>rfl) | refine wt8 ?_ | refine ToL.cons ?_ ?_ | exact wt11 | refine wt9 ?_ ?_ | refine wt12 ?_ | exact .yld _ _ _ _ rfl | exact .dead _ | exact hlp _ _ _ _ rfl rfl rfl | exact hlp _ _ _ rfl rfl rfl | exact hlp _ _ _ rfl rfl | exact hlp _ _ _ rfl | (with_reducible rfl) | assumption)); all_goals (first | rfl | assumption | (simp; done) | (simp; omega) | (rw[wrap_small (by omega) (by omega)]; done) | (rw[wrap_small (by omega) (by omega)]; omega) | (refine congrArg Nat.cast ?_; assumption) | omega | (exact Av.wrap_small (by omega) (by omega)) | skip))
   all_goals (first | exact .yld _ _ _ _ rfl | exact ToB.dead _ | exact ToB.it _ _ (g1) (g2) | (refine ToB.lp _ _ _ _ _ fun x hx=>?_; simp only[List.mem_cons,List.not_mem_nil,or_false] at hx; rcases hx with rfl | rfl; exact To.ptrO rfl rfl rfl; exact To.pure hc))
  show Reg Tryz.prog F139.n _ _ _ _ _
  refine aA ?_
  refine⟨ks++[x.1],some (.int .i64 x.1,x.2),m1++m3,⟨?_,hp2,g2⟩,by simp,?_⟩
  ·refine List.Perm.trans ?_ hk1
   rw[List.map_append,List.map_append,List.map_cons,List.append_assoc]
   refine List.Perm.append_left _ ?_
   show(x.1::(m1.map (·.1)++m3.map (·.1))).Perm _
   exact List.perm_middle.symm
  ·(apply Sub.to [] [[(0,0)],[(1,0)],[(2,0)],[(4,0)]]; all_goals (repeat' (first | exact aT.nil | exact aK.nil | exact bN.nil | exact ToL.nil | exact ToR.nil | refine aT.cons ?_ ?_ | refine aK.cons ?_ ?_ | refine eJ ?_ ?_ | exact To.undef _ | exact To.sc _ | exact To.hslL rfl rfl | exact To.asl _ _ _ _ _ _ _ rfl | refine To.ifc _ _ _ ?_ | exact To.ptrO rfl rfl rfl | exact To.mrefO rfl | exact To.nil rfl rfl rfl | exact wt1 | exact To.nilL | refine To.int ?_ | refine To.bool ?_ | refine To.hslL rfl ?_ | refine wt2 rfl ?_ ?_ ?_ | refine To.tupL ?_ | refine To.aggL ?_ | refine To.cptrL ?_ | refine To.fzp rfl rfl rfl ?_ | refine To.fzm rfl rfl ?_ | refine To.cloL ?_ ?_ | refine wt3 ?_ | refine wt4 ?_ | exact wt5 | refine wt6 ?_ | refine ToB.one ?_ | exact wt7 | ((with_reducible apply ToL.consE); case e9=>rfl) | refine wt8 ?_ | refine ToL.cons ?_ ?_ | exact wt11 | refine wt9 ?_ ?_ | refine wt12 ?_ | exact .yld _ _ _ _ rfl | exact .dead _ | exact hlp _ _ _ _ rfl rfl rfl | exact hlp _ _ _ rfl rfl rfl | exact hlp _ _ _ rfl rfl | exact hlp _ _ _ rfl | (with_reducible rfl) | assumption)); all_goals (first | rfl | assumption | (simp; done) | (simp; omega) | (rw[wrap_small (by omega) (by omega)]; done) | (rw[wrap_small (by omega) (by omega)]; omega) | (refine congrArg Nat.cast ?_; assumption) | omega | (exact Av.wrap_small (by omega) (by omega)) | skip))
   all_goals (first | exact .yld _ _ _ _ rfl | exact ToB.dead _ | exact ToB.it _ _ (mH hp2) (g2) | (refine ToB.lp _ _ _ _ _ fun x hx=>?_; simp only[List.mem_cons,List.not_mem_nil,or_false] at hx; rcases hx with rfl | rfl; exact To.ptrO rfl rfl rfl; exact To.pure hc))
theorem wO (es:List (Int×AV)) (hp:∀ x∈es,bG x.2) (hn:es.length≤1000000):
  aG Tryz.prog 153 [.sc (.slice none 0 0),.clo (.func 139) [] [.cptr [.tmap (jN es)]]] [] fun res H'=>∃ ks:List Int,ks.Perm (es.map (·.1))∧res=.hsl 0 0 0 ks.length∧H'=[[.cells 1 (dA ks)]]:=by
 refine aG.of IX ?_ (nlB rfl)
 refine aA ?_
 have hc:bG (.clo (.func 139) [] [.cptr [.tmap (jN es)]]):=.clo _ _ _ (fun _ h=>by cases h) (bF (.cptr _ (bF (.tmap _ (mH hp)) dM)) dM)
 generalize hcc:AV.clo (.func 139) [] [.cptr [.tmap (jN es)]]=c at *
 refine AWP.sub (fr':=[(2,.ptr 0 0 0 0),(6,c)]) (H':=[[.cells 1 [[.sc (.slice none 0 0)]]]]) ?_ ?_
 ·(apply Sub.to [] [[(0,0)]]; all_goals (repeat' (first | exact aT.nil | exact aK.nil | exact bN.nil | exact ToL.nil | exact ToR.nil | refine aT.cons ?_ ?_ | refine aK.cons ?_ ?_ | refine eJ ?_ ?_ | exact To.undef _ | exact To.sc _ | exact To.hslL rfl rfl | exact To.asl _ _ _ _ _ _ _ rfl | refine To.ifc _ _ _ ?_ | exact To.ptrO rfl rfl rfl | exact To.mrefO rfl | exact To.nil rfl rfl rfl | exact wt1 | exact To.nilL | refine To.int ?_ | refine To.bool ?_ | refine To.hslL rfl ?_ | refine wt2 rfl ?_ ?_ ?_ | refine To.tupL ?_ | refine To.aggL ?_ | refine To.cptrL ?_ | refine To.fzp rfl rfl rfl ?_ | refine To.fzm rfl rfl ?_ | refine To.cloL ?_ ?_ | refine wt3 ?_ | refine wt4 ?_ | exact wt5 | refine wt6 ?_ | refine ToB.one ?_ | exact wt7 | ((with_reducible apply ToL.consE); case e9=>rfl) | refine wt8 ?_ | refine ToL.cons ?_ ?_ | exact wt11 | refine wt9 ?_ ?_ | refine wt12 ?_ | exact .yld _ _ _ _ rfl | exact .dead _ | exact hlp _ _ _ _ rfl rfl rfl | exact hlp _ _ _ rfl rfl rfl | exact hlp _ _ _ rfl rfl | exact hlp _ _ _ rfl | (with_reducible rfl) | assumption)); all_goals (first | rfl | assumption | (simp; done) | (simp; omega) | (rw[wrap_small (by omega) (by omega)]; done) | (rw[wrap_small (by omega) (by omega)]; omega) | (refine congrArg Nat.cast ?_; assumption) | omega | (exact Av.wrap_small (by omega) (by omega)) | skip))
  all_goals exact To.pure hc
 refine AWP.rangeF (g:=139) (fs:=[]) (cs:=[.cptr [.tmap (jN es)]]) (by rw[← hcc]; rfl) (Nat.zero_le _) rfl fun L hL=>?_
 refine(KJ es hp hn c hc L hL).mono ?_
 rintro res H' ⟨ks,hk,rfl⟩
 refine⟨_,_,none,rfl,by decide,?_⟩
 refine aA ?_
 refine iW (res':=.hsl 0 0 0 ks.length) [[(2,0)]] (.inr rfl) rfl ⟨ks,hk,rfl,rfl⟩ ?_ ?_ rfl rfl rfl
 (all_goals exact iD)
theorem AA (x:Int):aB Tryz.prog 201 [.sc (.int .i64 x)] (.sc (.bool false)):=by
 refine aB.mkI M7 (nlB rfl) ?_
 refine aA ?_
 rw[show(x != x)=false by simp]
 exact aI.w
theorem LX (x y:Int):aB Tryz.prog 172 [.sc (.int .i64 x),.sc (.int .i64 y)] (.sc (.bool (decide (x < y)))):=by
 refine aB.mkI MO (nlB rfl) ?_
 have h1:=AA x
 have h2:=AA y
 refine aA ?_
 exact aI.w
def tG (l:List Int) (j:Nat):List Int:=(l.set (j+1) (l.getD j 0)).set j (l.getD (j+1) 0)
theorem A1 {l:List Int} {j:Nat} (h:j+1 < l.length):(tG l j).Perm l:=by
 unfold tG
 have e1:l.getD j 0=l[j]:=by simp[List.getD,gEg (show j < l.length by omega)]
 have e2:l.getD (j+1) 0=l[j+1]:=by simp[List.getD,gEg h]
 rw[e1,e2]
 exact List.set_set_perm h (by omega)
theorem wG {l:List Int} {j q:Nat} (h:j+1 < l.length):(tG l j).getD q 0=if q=j then l.getD (j+1) 0 else if q=j+1 then l.getD j 0 else l.getD q 0:=by
 unfold tG
 simp only[List.getD_eq_getElem?_getD,List.getElem?_set,List.length_set]
 by_cases e1:q=j
 ·subst e1
  rw[if_pos rfl,if_pos rfl,if_pos (by omega)]
  rfl
 ·rw[if_neg (fun e=>e1 e.symm),if_neg e1]
  by_cases e2:q=j+1
  ·subst e2
   rw[if_pos rfl,if_pos rfl,if_pos h]
   rfl
  ·rw[if_neg (fun e=>e2 e.symm),if_neg e2]
def wZ (l:List Int) (i j:Nat):Prop:=∀ p q,p < q→q≤i→q≠j→l.getD p 0≤l.getD q 0
theorem wZ.step {l:List Int} {i j:Nat} (h:wZ l i (j+1)) (hi:i < l.length) (hj:j+1≤i) (hlt:l.getD (j+1) 0 < l.getD j 0):wZ (tG l j) i j:=by
 intro p q hpq hq hne
 rw[wG (by omega),wG (by omega),if_neg hne]
 by_cases e2:q=j+1
 ·rw[if_pos e2]
  by_cases e3:p=j
  ·rw[if_pos e3]; omega
  ·rw[if_neg e3,if_neg (by omega)]
   exact h p j (by omega) (by omega) (by omega)
 ·rw[if_neg e2]
  by_cases e3:p=j
  ·rw[if_pos e3]
   exact h (j+1) q (by omega) hq e2
  ·rw[if_neg e3]
   by_cases e4:p=j+1
   ·rw[if_pos e4]
    exact h j q (by omega) hq e2
   ·rw[if_neg e4]
    exact h p q hpq hq e2
theorem wZ.done {l:List Int} {i j:Nat} (h:wZ l i j) (hj:j=0∨¬ l.getD j 0 < l.getD (j - 1) 0):∀ p q,p < q→q≤i→l.getD p 0≤l.getD q 0:=by
 intro p q hpq hq
 by_cases e:q=j
 ·subst e
  rcases hj with hj | hj
  ·omega
  ·by_cases e2:p=q - 1
   ·subst e2; omega
   ·have:=h p (q - 1) (by omega) (by omega) (by omega)
    omega
 ·exact h p q hpq hq e
theorem sE {l:List Int} {q:Nat} (h:q < l.length):(dA l)[q]?=some [.sc (.int .i64 (l.getD q 0))]:=by
 unfold dA
 rw[List.getElem?_map,gEg h]
 simp[List.getD,gEg h]
theorem pR (l:List Int) (q:Nat) (x:Int):(dA l).set q [.sc (.int .i64 x)]=dA (l.set q x):=by
 unfold dA
 rw[List.map_set]
set_option maxHeartbeats 4000000 in
theorem wK (l:List Int) (hl:l.length≤1000000):aG Tryz.prog 166 [.hsl 0 0 0 l.length,.sc (.int .i64 (0:Nat)),.sc (.int .i64 (l.length:Int))] [[.cells 1 (dA l)]] fun _ H'=>
  ∃ m:List Int,m.Perm l∧(∀ p q,p < q→q < m.length→m.getD p 0≤m.getD q 0)∧H'=[[.cells 1 (dA m)]]:=by
 refine aG.of MQ ?_ (nlB rfl)
 refine aA ?_
 refine AWP.loop2 (fun(m:List Int) (i:Nat)=>[(0,.hsl 0 0 0 l.length),(1,.sc (.int .i64 (0:Nat))),(2,.sc (.int .i64 (l.length:Int))),(6,.sc (.int .i64 (i:Int)))])
  (fun m i=>[[.cells 1 (dA m)]]) (fun m i=>m.Perm l∧1≤i∧(i≤l.length∨i=1)∧∀ p q,p < q→q < i→m.getD p 0≤m.getD q 0) (fun m i=>l.length - i) l 1 ⟨.refl _,Nat.le_refl _,.inr rfl,fun p q h1 h2=>by omega⟩ ?_ ?_
 ·exact Sub.w [] [[(0,0)]]
 rintro m i ⟨hm,hi1,hi2,hs⟩
 have hml:=hm.length_eq
 refine aA ?_
 refine AWP.condD rfl (fun hlt=>?_) (fun hge=>?_)
 ·refine aA ?_
  refine AWP.loop2 (fun(m:List Int) (j:Nat)=>[(0,.hsl 0 0 0 l.length),(1,.sc (.int .i64 (0:Nat))),(2,.sc (.int .i64 (l.length:Int))),(6,.sc (.int .i64 (i:Int))),(7,.sc (.int .i64 (j:Int)))])
   (fun m j=>[[.cells 1 (dA m)]]) (fun m j=>m.Perm l∧j≤i∧wZ m i j) (fun m j=>j) m i ⟨hm,Nat.le_refl _,fun p q h1 h2 h3=>hs p q h1 (by omega)⟩ ?_ ?_
  ·exact Sub.w [] [[(0,0)]]
  clear hm hs hml
  rintro m j ⟨hm,hj,hI⟩
  have hml:=hm.length_eq
  by_cases j0:j=0
  ·subst j0
   refine aA ?_
   refine DK.nil ⟨by kernel_rfl,?_⟩
   refine aA ?_
   refine⟨m,i+1,⟨hm,by omega,.inl (by omega),fun p q h1 h2=>wZ.done hI (.inl rfl) p q h1 (by omega)⟩,by omega,?_⟩
   exact Sub.w [] [[(0,0)]]
  obtain⟨q,rfl⟩:∃ q,j=q+1:=⟨j - 1,by omega⟩
  have x1:=sE (l:=m) (q:=q+1) (by omega)
  have x2:=sE (l:=m) (q:=q) (by omega)
  have e0:=vH m
  have hles:=LX (m.getD (q+1) 0) (m.getD q 0)
  have c1:decide (0 < q+1)=true:=dTr (by omega)
  refine aA ?_
  refine DK.nil ⟨by kernel_rfl,?_⟩
  refine AWP.condD rfl (fun hless=>?_) (fun hless=>?_)
  ·have x3:((dA m).set (q+1) [.sc (.int .i64 (m.getD q 0))])[q]?=some [.sc (.int .i64 (m.getD q 0))]:=by
    rw[pR,sE (by simp; omega)]
    simp[List.getD]
   have aP:((dA m).set (q+1) [.sc (.int .i64 (m.getD q 0))]).set q [.sc (.int .i64 (m.getD (q+1) 0))]=dA (tG m q):=by
    rw[pR,pR]
    rfl
   refine aA ?_
   refine DK.nil ⟨by kernel_rfl,?_⟩
   refine aA ?_
   refine⟨tG m q,q,⟨(A1 (by omega)).trans hm,by omega,wZ.step hI (by omega) hj hless⟩,by omega,?_⟩
   (apply Sub.to [] [[(0,0)]]; all_goals (repeat' (first | exact aT.nil | exact aK.nil | exact bN.nil | exact ToL.nil | exact ToR.nil | refine aT.cons ?_ ?_ | refine aK.cons ?_ ?_ | refine eJ ?_ ?_ | exact To.undef _ | exact To.sc _ | exact To.hslL rfl rfl | exact To.asl _ _ _ _ _ _ _ rfl | refine To.ifc _ _ _ ?_ | exact To.ptrO rfl rfl rfl | exact To.mrefO rfl | exact To.nil rfl rfl rfl | exact wt1 | exact To.nilL | refine To.int ?_ | refine To.bool ?_ | refine To.hslL rfl ?_ | refine wt2 rfl ?_ ?_ ?_ | refine To.tupL ?_ | refine To.aggL ?_ | refine To.cptrL ?_ | refine To.fzp rfl rfl rfl ?_ | refine To.fzm rfl rfl ?_ | refine To.cloL ?_ ?_ | refine wt3 ?_ | refine wt4 ?_ | exact wt5 | refine wt6 ?_ | refine ToB.one ?_ | exact wt7 | ((with_reducible apply ToL.consE); case e9=>rfl) | refine wt8 ?_ | refine ToL.cons ?_ ?_ | exact wt11 | refine wt9 ?_ ?_ | refine wt12 ?_ | exact .yld _ _ _ _ rfl | exact .dead _ | exact hlp _ _ _ _ rfl rfl rfl | exact hlp _ _ _ rfl rfl rfl | exact hlp _ _ _ rfl rfl | exact hlp _ _ _ rfl | (with_reducible rfl) | assumption)); all_goals (first | rfl | assumption | (simp; done) | (simp; omega) | (rw[wrap_small (by omega) (by omega)]; done) | (rw[wrap_small (by omega) (by omega)]; omega) | (refine congrArg Nat.cast ?_; assumption) | omega | (exact Av.wrap_small (by omega) (by omega)) | skip))
  ·refine aA ?_
   refine⟨m,i+1,⟨hm,by omega,.inl (by omega),fun p r h1 h2=>wZ.done hI (.inr hless) p r h1 (by omega)⟩,by omega,?_⟩
   exact Sub.w [] [[(0,0)]]
 ·refine aA ?_
  refine iW (res':=.tup []) [[(0,0)]] (.inl rfl) rfl ⟨m,hm,fun p q h1 h2=>hs p q h1 (by omega),rfl⟩ ?_ ?_ rfl rfl rfl
  (all_goals exact iD)
theorem K9:aB Tryz.prog 176 [.sc (.int .u64 0)] (.sc (.int .i64 0)):=by
 refine aB.mkI i7 (nlB rfl) ?_
 refine aA ?_
 exact aI.w
theorem K0:aB Tryz.prog 176 [.sc (.int .u64 1)] (.sc (.int .i64 1)):=by
 refine aB.mkI i7 (nlB rfl) ?_
 refine aA ?_
 exact aI.w
theorem LE:aB Tryz.prog 176 [.sc (.int .u64 2)] (.sc (.int .i64 2)):=by
 refine aB.mkI i7 (nlB rfl) ?_
 refine aA ?_
 exact aI.w
theorem KQ:aB Tryz.prog 176 [.sc (.int .u64 3)] (.sc (.int .i64 2)):=by
 refine aB.mkI i7 (nlB rfl) ?_
 refine aA ?_
 exact aI.w
theorem LQ:aB Tryz.prog 176 [.sc (.int .u64 4)] (.sc (.int .i64 3)):=by
 refine aB.mkI i7 (nlB rfl) ?_
 refine aA ?_
 exact aI.w
theorem K8:aB Tryz.prog 176 [.sc (.int .u64 5)] (.sc (.int .i64 3)):=by
 refine aB.mkI i7 (nlB rfl) ?_
 refine aA ?_
 exact aI.w
theorem KZ:aB Tryz.prog 176 [.sc (.int .u64 6)] (.sc (.int .i64 3)):=by
 refine aB.mkI i7 (nlB rfl) ?_
 refine aA ?_
 exact aI.w
theorem KG:aB Tryz.prog 176 [.sc (.int .u64 7)] (.sc (.int .i64 3)):=by
 refine aB.mkI i7 (nlB rfl) ?_
 refine aA ?_
 exact aI.w
theorem KA:aB Tryz.prog 176 [.sc (.int .u64 8)] (.sc (.int .i64 4)):=by
 refine aB.mkI i7 (nlB rfl) ?_
 refine aA ?_
 exact aI.w
theorem J7:aB Tryz.prog 176 [.sc (.int .u64 9)] (.sc (.int .i64 4)):=by
 refine aB.mkI i7 (nlB rfl) ?_
 refine aA ?_
 exact aI.w
theorem GV:aB Tryz.prog 176 [.sc (.int .u64 10)] (.sc (.int .i64 4)):=by
 refine aB.mkI i7 (nlB rfl) ?_
 refine aA ?_
 exact aI.w
theorem IK:aB Tryz.prog 176 [.sc (.int .u64 11)] (.sc (.int .i64 4)):=by
 refine aB.mkI i7 (nlB rfl) ?_
 refine aA ?_
 exact aI.w
theorem JB:aB Tryz.prog 176 [.sc (.int .u64 12)] (.sc (.int .i64 4)):=by
 refine aB.mkI i7 (nlB rfl) ?_
 refine aA ?_
 exact aI.w
theorem IJ (x:Nat) (h:x≤12):∃ n:Int,aB Tryz.prog 176 [.sc (.int .u64 (x:Int))] (.sc (.int .i64 n)):=by
 match x,h with
 | 0,_=>exact⟨_,K9⟩
 | 1,_=>exact⟨_,K0⟩
 | 2,_=>exact⟨_,LE⟩
 | 3,_=>exact⟨_,KQ⟩
 | 4,_=>exact⟨_,LQ⟩
 | 5,_=>exact⟨_,K8⟩
 | 6,_=>exact⟨_,KZ⟩
 | 7,_=>exact⟨_,KG⟩
 | 8,_=>exact⟨_,KA⟩
 | 9,_=>exact⟨_,J7⟩
 | 10,_=>exact⟨_,GV⟩
 | 11,_=>exact⟨_,IK⟩
 | 12,_=>exact⟨_,JB⟩
theorem O9 (x:Nat) (h:x≤12):∃ n:Int,aB Tryz.prog 143 [.sc (.int .u64 (x:Int))] (.sc (.int .i64 n)):=by
 obtain⟨n,hn⟩:=IJ x h
 refine⟨n,?_⟩
 refine aB.mkI M9 (nlB rfl) ?_
 refine aA ?_
 exact aI.w
theorem OO (l:List Int) (hl:l.length≤12) (n:Int):aG Tryz.prog 142 [.hsl 0 0 0 l.length,.sc (.int .i64 (0:Nat)),.sc (.int .i64 (l.length:Int)),.sc (.int .i64 n)] [[.cells 1 (dA l)]] fun _ H'=>
  ∃ m:List Int,m.Perm l∧(∀ p q,p < q→q < m.length→m.getD p 0≤m.getD q 0)∧H'=[[.cells 1 (dA m)]]:=by
 refine aG.of MG ?_ (nlB rfl)
 have hi:=wK l (by omega)
 refine aA ?_
 refine AWP.loop (fun(_:Unit)=>[(0,.hsl 0 0 0 l.length),(1,.sc (.int .i64 (0:Nat))),(2,.sc (.int .i64 (l.length:Int))),(3,.sc (.int .i64 n))]) (fun _=>[[.cells 1 (dA l)]]) (fun _=>True) (fun _=>0) () trivial ?_ ?_
 ·exact Sub.w [] [[(0,0)]]
 intro _ _
 refine aA ?_
 rw[dTr (show l.length - 0≤12 by omega)]
 refine aA ?_
 refine Reg.c (Nat.le_refl _) rfl (hi.mono ?_)
 rintro res H' ⟨m,h1,h2,rfl⟩
 refine aA ?_
 refine iW (res':=.tup []) [[(0,0)]] (.inr rfl) rfl ⟨m,h1,h2,rfl⟩ ?_ ?_ rfl rfl rfl
 (all_goals exact iD)
theorem KT (l:List Int) (hl:l.length≤12):aG Tryz.prog 96 [.hsl 0 0 0 l.length] [[.cells 1 (dA l)]] fun _ H'=>
  ∃ m:List Int,m.Perm l∧(∀ p q,p < q→q < m.length→m.getD p 0≤m.getD q 0)∧H'=[[.cells 1 (dA m)]]:=by
 refine aG.of cF96 ?_ (nlB rfl)
 obtain⟨n,hn⟩:=O9 l.length hl
 have hp:=OO l hl n
 refine aA ?_
 refine Reg.c (Nat.le_refl _) rfl (hp.mono ?_)
 rintro res H' ⟨m,h1,h2,rfl⟩
 refine aA ?_
 refine iW (res':=.tup []) [[(0,0)]] (.inl rfl) rfl ⟨m,h1,h2,rfl⟩ ?_ ?_ rfl rfl rfl
 (all_goals exact iD)
theorem B1 (es:List (Int×AV)) (hp:∀ x∈es,bG x.2) (hn:es.length≤1000000):
  aG Tryz.prog 125 [.clo (.func 139) [] [.cptr [.tmap (jN es)]]] [] fun res H'=>∃ ks:List Int,ks.Perm (es.map (·.1))∧res=.hsl 0 0 0 ks.length∧H'=[[.cells 1 (dA ks)]]:=by
 refine aG.of HZ ?_ (nlB rfl)
 refine aA ?_
 refine Reg.c (Nat.zero_le _) rfl ((wO es hp hn).mono ?_)
 rintro res H' ⟨ks,h1,rfl,rfl⟩
 refine aA ?_
 refine iW (res':=.hsl 0 0 0 ks.length) [[(0,0)]] (.inr rfl) rfl ⟨ks,h1,rfl,rfl⟩ ?_ ?_ rfl rfl rfl
 (all_goals exact iD)
def v9 (l:List Int):List Int:=l.mergeSort (fun a b=>decide (a≤b))
theorem v6 {l m:List Int} (h:m.Perm l) (hs:∀ p q,p < q→q < m.length→m.getD p 0≤m.getD q 0):m=v9 l:=by
 have tr:∀ a b c:Int,decide (a≤b)=true→decide (b≤c)=true→decide (a≤c)=true:=fun a b c h1 h2=>by simp only[decide_eq_true_eq] at *; omega
 have to:∀ a b:Int,(decide (a≤b) || decide (b≤a))=true:=fun a b=>by simp only[Bool.or_eq_true,decide_eq_true_eq]; omega
 have hp:m.Pairwise (fun a b=>decide (a≤b)=true):=List.pairwise_iff_getElem.2 fun p q h1 h2 h3=>by
  have:=hs p q h3 h2
  simp only[List.getD_eq_getElem?_getD,gEg h1,gEg h2,Option.getD_some] at this
  exact dTr this
 refine List.Perm.eq_of_pairwise (le:=fun a b=>decide (a≤b)=true) (fun a b _ _ h1 h2=>?_) hp (List.pairwise_mergeSort tr to l) (h.trans (List.mergeSort_perm l _).symm)
 simp only[decide_eq_true_eq] at h1 h2
 omega
theorem CF {l m:List Int} (h:l.Perm m):v9 l=v9 m:=by
 have h1:=List.mergeSort_perm l (fun a b=>decide (a≤b))
 have tr:∀ a b c:Int,decide (a≤b)=true→decide (b≤c)=true→decide (a≤c)=true:=fun a b c h1 h2=>by simp only[decide_eq_true_eq] at *; omega
 have to:∀ a b:Int,(decide (a≤b) || decide (b≤a))=true:=fun a b=>by simp only[Bool.or_eq_true,decide_eq_true_eq]; omega
 refine List.Perm.eq_of_pairwise (le:=fun a b=>decide (a≤b)=true) (fun a b _ _ h1 h2=>?_) (List.pairwise_mergeSort tr to l) (List.pairwise_mergeSort tr to m) ((h1.trans h).trans (List.mergeSort_perm m _).symm)
 simp only[decide_eq_true_eq] at h1 h2
 omega
def intsV (l:List Int):AV:=.list 1 (dA l)
instance (l:List Int):PV (intsV l):=⟨.list _ _ (prs _)⟩
theorem E0 (es:List (Int×AV)) (hp:∀ x∈es,bG x.2) (hn:es.length≤12):aG Tryz.prog 91 [.clo (.func 139) [] [.cptr [.tmap (jN es)]]] [] fun res H'=>res=.hsl 0 0 0 es.length∧H'=[[.cells 1 (dA (v9 (es.map (·.1))))]]:=by
 refine aG.of cF91 ?_ (nlB rfl)
 refine aA ?_
 refine Reg.c (Nat.zero_le _) rfl ((B1 es hp (by omega)).mono ?_)
 rintro res H' ⟨ks,h1,rfl,rfl⟩
 have hl:=h1.length_eq
 rw[List.length_map] at hl
 refine aA ?_
 refine Reg.c (Nat.zero_le _) rfl ((KT ks (by omega)).mono ?_)
 rintro res H' ⟨m,h2,h3,rfl⟩
 have hml:=h2.length_eq
 rw[v6 h2 h3,CF h1,hl]
 refine aA ?_
 exact zG [[(0,0)]] (⟨rfl,rfl⟩)
theorem FQ {H:Heap} {g i g' i':Nat} (es:List (Int×AV)) (h1:hget H g i=some (.cells 1 [[.mref g' i']])) (h2:hget H g' i'=some (.map (jN es))) (hn:es.length≤12):
  aG Tryz.prog 91 [.clo (.func 139) [] [.ptr g i 0 0]] H fun res H'=>res=.hsl H.length 0 0 es.length∧H'=H++[[.cells 1 (dA (v9 (es.map (·.1))))]]:=by
 have e1:(es.map fun p=>(p.1,AV.undef)).map (·.1)=es.map (·.1):=by rw[List.map_map]; rfl
 have e2:(es.map fun p=>(p.1,AV.undef)).length=es.length:=by simp
 have hs:=E0 (es.map fun p=>(p.1,AV.undef)) (fun x hx=>by obtain⟨y,_,rfl⟩:=List.mem_map.1 hx; exact .undef) (by rw[e2]; exact hn)
 rw[e1,e2] at hs
 have h1':hget (H++gh []) g i=some (.cells 1 [[.mref g' i']]):=by rw[show H++gh []=H from List.append_nil H]; exact h1
 have h2':hget (H++gh []) g' i'=some (.map (jN es)):=by rw[show H++gh []=H from List.append_nil H]; exact h2
 refine aG.viewL (fun r hr c hc=>?_) hs (ToL.cons (To.cloL trivial (ToL.cons (To.fzp h1' rfl rfl (To.cptrL (ToL.cons (To.fzm h2' rfl (.tmap _ _ ?_ (fun j x y a b=>?_) fun j x y a b=>?_)) ToL.nil))) ToL.nil)) ToL.nil)
 ·obtain⟨n,_,rfl⟩:=List.mem_map.1 hr
  exact⟨_,List.mem_singleton.1 hc⟩
 ·simp[jN]
 ·unfold jN at a b
  rw[List.getElem?_map] at a
  rw[List.map_map,List.getElem?_map] at b
  cases hq:es[j]? with
  | none=>rw[hq] at a; cases a
  | some p=>
   rw[hq] at a b
   simp only[Option.map_some,oIn] at a b
   subst a; subst b
   rfl
 ·unfold jN at b
  rw[List.map_map,List.getElem?_map] at b
  cases hq:es[j]? with
  | none=>rw[hq] at b; cases b
  | some p=>
   rw[hq] at b
   simp only[Option.map_some,oIn] at b
   subst b
   exact .undef _
def EX (x:Int):List Int→List Int
 | []=>[x]
 | y::l=>match ltK y x with
  | true=>y::EX x l
  | false=>x::y::l
def isK:List Int→List Int
 | []=>[]
 | x::l=>EX x (isK l)
theorem qD (x:Int):∀ l,(EX x l).Perm (x::l)
 | []=>.refl _
 | y::l=>by
  unfold EX
  split
  ·exact((qD x l).cons y).trans (.swap x y l)
  ·exact .refl _
theorem yU:∀ l,(isK l).Perm l
 | []=>.refl _
 | x::l=>(qD x _).trans ((yU l).cons x)
theorem CI (a b:Int):ltK a b=true↔a < b:=by rw[JW,decide_eq_true_eq]
theorem qP (x:Int):∀ l:List Int,l.Pairwise (·≤·)→(EX x l).Pairwise (·≤·)
 | [],_=>List.pairwise_singleton _ _
 | y::l,h=>by
  obtain⟨h1,h2⟩:=List.pairwise_cons.1 h
  unfold EX
  split
  ·rename_i e
   have e:=(CI y x).1 e
   refine List.pairwise_cons.2 ⟨fun z hz=>?_,qP x l h2⟩
   rcases List.mem_cons.1 ((qD x l).subset hz) with rfl | hz
   ·omega
   ·exact h1 z hz
  ·rename_i e
   have e:¬ y < x:=fun h=>by rw[(CI y x).2 h] at e; cases e
   refine List.pairwise_cons.2 ⟨fun z hz=>?_,h⟩
   rcases List.mem_cons.1 hz with rfl | hz
   ·omega
   ·have:=h1 z hz; omega
theorem uD:∀ l:List Int,(isK l).Pairwise (·≤·)
 | []=>.nil
 | x::l=>qP x _ (uD l)
theorem OS (l:List Int):isK l=v9 l:=by
 refine v6 (yU l) fun p q h1 h2=>?_
 have:=List.pairwise_iff_getElem.1 (uD l) p q (by omega) h2 h1
 simp only[List.getD_eq_getElem?_getD,gEg h2,gEg (show p < (isK l).length by omega),Option.getD_some]
 exact this
def C5:List (Value×AV)→Option (List (Int×AV))
 | []=>some []
 | (.int .i64 n,a)::r=>match C5 r with
  | some l=>some ((n,a)::l)
  | none=>none
 | _::_=>none
theorem yV:∀(es:List (Value×AV)) (l:List (Int×AV)),C5 es=some l→es=jN l
 | [],l,h=>by injection h with h; subst h; rfl
 | (k,a)::r,l,h=>by
  unfold C5 at h
  split at h
  ·rename_i e
   cases e
  ·rename_i n a' r' e
   injection e with e1 e2
   injection e1 with e3 e4
   subst e2; subst e3; subst e4
   split at h
   ·rename_i l' e
    injection h with h
    subst h
    rw[yV _ _ e]
    rfl
   ·cases h
  ·cases h
def II (args:List AV) (H:Heap):Option (AV×Heap):=
 match args with
 | [.clo (.func 139) [] [.ptr g i 0 0]]=>match hget H g i with
  | some (.cells 1 [[.mref g' i']])=>match hget H g' i' with
   | some (.map es)=>match C5 es with
    | some l=>match Nat.ble l.length 12 with
     | true=>some (.hsl H.length 0 0 l.length,H++[[.cells 1 (dA (isK (l.map (·.1))))]])
     | false=>none
    | none=>none
   | _=>none
  | _=>none
 | _=>none
theorem HR (args:List AV) (H:Heap) (v:AV) (H':Heap) (h:II args H=some (v,H')):aG Tryz.prog 91 args H fun r H2=>r=v∧H2=H':=by
 unfold II at h
 split at h
 ·split at h
  ·rename_i g i g' i' h1
   split at h
   ·rename_i es h2
    split at h
    ·rename_i l h3
     split at h
     ·rename_i h4
      simp only[oIn,pIn] at h
      obtain⟨rfl,rfl⟩:=h
      rw[yV _ _ h3] at h2
      rw[OS]
      exact FQ l h1 h2 (nlB h4)
     ·cases h
    ·cases h
   ·cases h
  ·cases h
 ·cases h
def sumW:Caller:=fun f args H=>
 match Nat.beq f 91 with
 | true=>II args H
 | false=>none
theorem LM:JP Tryz.prog sumW:=by
 intro f args H v H' h
 unfold sumW at h
 split at h
 ·rename_i e
  have:=Nat.eq_of_beq_eq_true e
  subst this
  exact HR args H v H' h
 ·cases h
set_option maxRecDepth 1000000
set_option maxHeartbeats 0
noncomputable def tabC:List (Nat×IFun):=[(13,F13),(14,F14),(18,F18),(21,F21),(22,F22),(23,F23),(24,F24),(25,F25),(26,F26),(27,F27),(29,F29),(41,F41),(49,F49),(50,F50),(51,F51),(55,F55),(56,F56),(60,F60),(62,F62),(63,F63),(64,F64),(71,F71),(72,F72),(73,F73),(74,F74),(75,F75),(76,F76),(77,F77),(78,F78),(79,F79),(80,F80),(81,F81),(82,F82),(83,F83),(84,F84),(85,F85),(86,F86),(87,F87),(88,F88),(89,F89),(90,F90),(91,F91),(92,F92),(93,F93),(94,F94),(96,F96),(99,F99),(102,F102),(116,F116),(117,F117),(119,F119),(120,F120),(124,F124),(125,F125),(126,F126),(132,F132),(133,F133),(134,F134),(135,F135),(136,F136),(137,F137),(138,F138),(139,F139),(140,F140),(142,F142),(143,F143),(146,F146),(148,F148),(149,F149),(150,F150),(151,F151),(152,F152),(153,F153),(154,F154),(159,F159),(160,F160),(161,F161),(162,F162),(163,F163),(164,F164),(165,F165),(166,F166),(172,F172),(176,F176),(177,F177),(182,F182),(183,F183),(184,F184),(185,F185),(186,F186),(187,F187),(188,F188),(189,F189),(190,F190),(191,F191),(192,F192),(193,F193),(194,F194),(195,F195),(201,F201),(202,F202),(204,F204),(205,F205),(206,F206),(207,F207),(208,F208),(209,F209),(210,F210),(211,F211),(227,F227)]
theorem LG:HU Tryz.prog tabC:=⟨cF13,cF14,cF18,cF21,cF22,cF23,cF24,cF25,cF26,cF27,cF29,cF41,cF49,cF50,cF51,cF55,cF56,cF60,cF62,cF63,cF64,cF71,cF72,cF73,cF74,cF75,cF76,cF77,cF78,cF79,cF80,cF81,cF82,cF83,cF84,cF85,cF86,cF87,cF88,cF89,cF90,cF91,cF92,cF93,cF94,cF96,cF99,cF102,cF116,cF117,cF119,cF120,NV,HZ,NF,NG,NX,cF134,cF135,cF136,cF137,MT,MR,cF140,MG,M9,cF146,cF148,cF149,NE,MP,M0,IX,MV,NH,NL,MK,NQ,MA,NP,NJ,MQ,MO,i7,MD,NN,MH,NY,NS,MF,MU,MM,NW,MW,NI,NA,ME,NR,M4,M7,MI,NC,NB,NT,MZ,MX,MB,ND,cF211,cF227,trivial⟩
noncomputable def pzC:List Nat:=[49,50,14,63,21,22,71,133,124,150,151,125,88,126]
noncomputable abbrev rn:cI:=FX Tryz.prog sumW (LT tabC) pzC 2000 24
set_option maxHeartbeats 0
noncomputable def yes (r:Option (AV×Heap)):Bool:=match r with
 | some (.sc (.bool true),_)=>true
 | _=>false
theorem GB {r:Option (AV×Heap)} (h:yes r=true):∃ H,r=some (.sc (.bool true),H):=by
 unfold yes at h
 split at h
 ·exact⟨_,rfl⟩
 ·cases h
theorem FR:yes (rn.run 13 [] [])=true:=by kernel_rfl
theorem AX:aG Tryz.prog 13 [] [] fun res _=>res=.sc (.bool true):=by
 obtain⟨H,h⟩:=GB FR
 exact((BY kW LM (C7 LG) 24).1.run 13 [] [] _ _ h).mono fun _ _ h=>h.1
theorem works_ok:aB Tryz.prog 13 [] (.sc (.bool true)):=aB.of (fun _ h=>by cases h) (.sc _) AX
set_option maxRecDepth 20000
inductive Ty where
 | mk (k c b s:Int) (sz bl pl:List Int) (of:List Ty)
 | raw (k c b s:Int) (sz bl pl:List Int)
abbrev iv (n:Int):AV:=.sc (.int .i64 n)
def inR (l:List Int):List (List AV):=l.map fun n=>[iv n]
mutual
def tyR:Ty→List AV
 | .mk k c b s sz bl pl of=>[iv k,iv c,iv b,iv s,.list 1 (inR sz),.list 1 (inR bl),.list 1 (inR pl),.list 8 (aM of)]
 | .raw k c b s sz bl pl=>[iv k,iv c,iv b,iv s,.list 1 (inR sz),.list 1 (inR bl),.list 1 (inR pl),.one]
def aM:List Ty→List (List AV)
 | []=>[]
 | t::ts=>tyR t::aM ts
end
theorem lG:∀ l:List Ty,aM l=l.map tyR
 | []=>rfl
 | t::l=>by rw[aM,lG l]; rfl
theorem bA (l:List Int):(inR l).length=l.length:=by simp[inR]
theorem jX (l:List Ty):(aM l).length=l.length:=by simp[lG]
instance (n:Int):PV (iv n):=⟨.sc _⟩
instance (l:List Int):PRs (inR l):=⟨fun r hr=>by
 obtain⟨n,_,rfl⟩:=List.mem_map.1 hr
 exact bF (.sc _) dM⟩
mutual
theorem yX:∀ t:Ty,∀ c∈tyR t,bG c
 | .mk k c b s sz bl pl of=>by
  have h:=pI of
  rw[tyR]
  exact bF (.sc _) (bF (.sc _) (bF (.sc _) (bF (.sc _) (bF (pv _) (bF (pv _) (bF (pv _) (bF (.list _ _ h) dM)))))))
 | .raw k c b s sz bl pl=>by rw[tyR]; exact pr _
theorem pI:∀ l:List Ty,∀ r∈aM l,∀ c∈r,bG c
 | []=>fun r h=>by cases h
 | t::l=>fun r hr=>by
  rw[aM] at hr
  rcases List.mem_cons.1 hr with e | e
  ·subst e; exact yX t
  ·exact pI l r e
end
instance (t:Ty):PR (tyR t):=⟨yX t⟩
instance (l:List Ty):PRs (aM l):=⟨pI l⟩
theorem cS (l:List Int) (k:Nat) (h:k < l.length):eI (inR l) (k:Int)=some [iv l[k]]:=j8 (fun n:Int=>[iv n]) l k h
theorem oQ (l:List Ty) (k:Nat) (h:k < l.length):eI (aM l) (k:Int)=some (tyR l[k]):=by rw[lG]; exact j8 tyR l k h
def lB:Nat→Ty→Prop
 | 0,_=>True
 | n+1,.mk _ _ _ _ _ _ _ of=>∀ u∈of,lB n u
 | _+1,.raw ..=>False
def a8:Nat→Ty→Bool
 | 0,_=>false
 | n+1,.mk _ c b _ sz bl pl of=>decide (of.length≤3) && decide (sz.length≤8) && decide (bl.length≤8) && decide (pl.length≤8) && decide (c≤16) && decide (b≤8) && bl.all (fun x=>decide (x≤16)) && of.all (a8 n)
 | _+1,.raw ..=>false
def bD (k:Int):Nat:=if k=1 then 1 else if k=2 then 2 else if k=3 then 4 else if k=4 then 8 else if k=5 then 8 else 0
structure Shp where
 es:List (Int×Int)
 lo:Int
 hi:Int
def Shp.ext (s:Shp):Int:=s.hi - s.lo
def shp0:Shp:=⟨[],0,0⟩
def enR (l:List (Int×Int)):List (List AV):=l.map fun x=>[iv x.1,iv x.2]
def shR (s:Shp):List AV:=[.list 2 (enR s.es),iv s.lo,iv s.hi]
theorem bK (l:List (Int×Int)):(enR l).length=l.length:=by simp[enR]
theorem eD (l:List (Int×Int)) (k:Nat) (h:k < l.length):eI (enR l) (k:Int)=some [iv l[k].1,iv l[k].2]:=j8 (fun x:Int×Int=>[iv x.1,iv x.2]) l k h
instance (l:List (Int×Int)):PRs (enR l):=⟨fun r hr=>by
 obtain⟨n,_,rfl⟩:=List.mem_map.1 hr
 exact bF (.sc _) (bF (.sc _) dM)⟩
instance (s:Shp):PR (shR s):=⟨bF (pv _) (bF (.sc _) (bF (.sc _) dM))⟩
def aH (n lo hi:Int):Bool:=decide (lo≤n) && decide (n≤hi)
def cJ (l:List Int) (lo hi:Int):Bool:=l.all fun n=>aH n lo hi
def mP:Int:=1048576
def bE (c e:Int):List (Int×Int):=(List.range (max 1 c).toNat).map fun i:Nat=>(0,(i:Int) * e)
def gA (c b st e:Int):List (Int×Int):=(List.range c.toNat).flatMap fun i:Nat=>(List.range b.toNat).map fun j:Nat=>(0,((i:Int) * st+j) * e)
def fW (bl pl:List Int) (e:Int):List (Int×Int):=(List.range bl.length).flatMap fun i:Nat=>(List.range (bl.getD i 0).toNat).map fun j:Nat=>(0,(pl.getD i 0+j) * e)
def jV (bl pl:List Int) (of:List Shp):List (Int×Int):=(List.range bl.length).flatMap fun i:Nat=>(List.range (bl.getD i 0).toNat).map fun j:Nat=>((i:Int),pl.getD i 0+j * (of.getD i shp0).ext)
def huge:Int:=1099511627776
def rH (sz pl:List Int) (at':List Nat):Int:=(List.range sz.length).foldl (fun n k=>min (n * sz.getD k 0+pl.getD k 0+(at'.getD k 0:Nat)) huge) 0
def iE (bl:List Int):Nat→List Nat→Option (List Nat)
 | 0,_=>none
 | k+1,a=>if ((a.getD k 0:Nat):Int)+1 < bl.getD k 0 then some (a.set k (a.getD k 0+1)) else iE bl k (a.set k 0)
def dI (sz bl pl:List Int) (e:Int):Nat→List Nat→List (Int×Int)
 | 0,_=>[]
 | f+1,a=>(0,rH sz pl a * e)::match iE bl sz.length a with
  | some b=>dI sz bl pl e f b
  | none=>[]
def fT (sz bl pl:List Int) (e:Int):List (Int×Int):=dI sz bl pl e ((bl.map Int.toNat).foldl (· * ·) 1) (List.replicate sz.length 0)
def dC (k c b st:Int) (sz bl pl:List Int) (of:List Shp):List (Int×Int):=
 let e:=(of.getD 0 shp0).ext
 if k=6 then bE c e else if k=7 then gA c b st e else if k=8 then fW bl pl e else if k=9 then jV bl pl of else if k=10 then bE c e else fT sz bl pl e
def cO (s x:Shp) (by':Int):Shp:=⟨s.es++x.es.map (fun y=>(y.1,y.2+by')),min (if s.es.length=0 then x.lo+by' else s.lo) (x.lo+by'),max (if s.es.length=0 then x.hi+by' else s.hi) (x.hi+by')⟩
def eU (of:List Shp):List (Int×Int)→Shp→Option Shp
 | [],s=>some s
 | m::r,s=>let x:=of.getD m.1.toNat shp0
  if 4096 < s.es.length+x.es.length then none else eU of r (cO s x m.2)
def bP (l:List (Int×Int)):Int×Int:=l.foldl (fun p x=>(min p.1 x.2,max p.2 (x.2+bD x.1))) ((l.headD (0,0)).2,(l.headD (0,0)).2)
def uR (sz:List Int):Int:=sz.foldl (fun n s=>min (n * s) huge) 1
def cN (k:Int) (sz pl:List Int) (of:List Shp) (s:Shp):Shp:=
 if k=10 then⟨s.es,pl.getD 0 0,pl.getD 0 0+pl.getD 1 0⟩ else if k=11 then⟨s.es,(of.getD 0 shp0).lo,(of.getD 0 shp0).lo+uR sz * (of.getD 0 shp0).ext⟩ else s
def okS (s:Shp):Bool:=aH s.lo (-mP) mP && aH s.hi (-mP) mP && aH s.ext (-mP) mP && aH (bP s.es).1 (-mP) mP && aH (bP s.es).2 (-mP) mP && aH ((bP s.es).2 - (bP s.es).1) (-mP) mP
def o9 (k c b st:Int) (sz bl pl:List Int) (of:List Shp):Int×Shp:=
 match eU of (dC k c b st sz bl pl of) shp0 with
 | none=>(9,shp0)
 | some s=>if okS (cN k sz pl of s)=true then(0,cN k sz pl of s) else(3,shp0)
def ofG (basic:Bool) (k:Int) (n:Nat):Nat:=if basic=true then 0 else if k=9 then min (max 1 n) 4096 else 1
def rI (c1 c2 c3 c4 c5:Bool) (c b st:Int) (sz bl pl:List Int) (n of:Nat):Bool:=
 (!c1 && (c != 0)) || ((!c2 && ((b != 0) || (st != 0))) || ((!c3 && decide (0 < bl.length)) || ((!c4 && decide (0 < pl.length)) || ((!c5 && decide (0 < sz.length)) || !decide (n=of)))))
def shG (k:Int) (sz bl pl:List Int) (of:Nat):Int:=
 if k=8 then(if 1≤bl.length∧bl.length≤4096∧pl.length=bl.length then 0 else 26)
 else if k=9 then(if bl.length=of∧pl.length=of then 0 else 26)
 else if k=10 then(if pl.length=2 then 0 else 26)
 else if k=11 then(if 1≤sz.length∧sz.length≤4∧bl.length=sz.length∧pl.length=sz.length then 0 else 26)
 else 0
def fl1 (k:Int):Bool:=decide (k=6∨k=7)
def fl2 (k:Int):Bool:=decide (k=7)
def fl3 (k:Int):Bool:=decide (k=8∨k=9∨k=11)
def fl4 (k:Int):Bool:=decide (k=8∨k=9∨k=10∨k=11)
def fl5 (k:Int):Bool:=decide (k=11)
def cV (k c b st:Int) (sz bl pl:List Int) (n:Nat):Int:=
 if rI (fl1 k) (fl2 k) (fl3 k) (fl4 k) (fl5 k) c b st sz bl pl n (ofG (decide (0 < bD k)) k n)=true then 2 else shG k sz bl pl (ofG (decide (0 < bD k)) k n)
def qQ (bl:List Int):Bool:=cJ bl 0 4096 && bl.any fun n=>decide (0 < n)
def uK (sz bl pl:List Int):Bool:=(List.range sz.length).all fun i=>aH (sz.getD i 0) 1 4096 && aH (bl.getD i 0) 1 (sz.getD i 0) && aH (pl.getD i 0) 0 (sz.getD i 0 - bl.getD i 0)
def oV (k c b st:Int) (sz bl pl:List Int):Bool:=
 aH st (-mP) mP && cJ pl (-mP) mP && (if k=6 then aH c 1 4096 else if k=7 then aH c 1 4096 && aH b 1 4096 else if k=8∨k=9 then qQ bl else if k=10 then decide (0≤pl.getD 1 0) else uK sz bl pl)
def lL (f:Ty→Int×Shp):List Ty→Int×List Shp
 | []=>(0,[])
 | u::r=>match f u with
  | (e,s)=>if e≠0 then(e,[]) else match lL f r with
   | (e',l)=>if e'≠0 then(e',[]) else(0,s::l)
def aF:Nat→Ty→Int×Shp
 | 0,_=>(0,shp0)
 | d+1,.mk k c b st sz bl pl of=>match lL (aF d) of with
  | (e,l)=>
   if e≠0 then(e,shp0)
   else if bD k=0∧¬ (6≤k∧k≤11) then(2,shp0)
   else if cV k c b st sz bl pl of.length≠0 then(cV k c b st sz bl pl of.length,shp0)
   else if 0 < bD k then(0,⟨[(k,0)],0,bD k⟩)
   else if oV k c b st sz bl pl=true then o9 k c b st sz bl pl l else(3,shp0)
 | _+1,.raw ..=>(0,shp0)
theorem cG {α:Type} {l:List α} {i:Nat} (h:i < l.length):l.take (i+1)=l.take i++[l[i]]:=by rw[List.take_add_one,gEg h]; rfl
theorem oU (k:Int):aB Tryz.prog 72 [iv k] (iv (bD k:Nat)):=by
 refine aB.mkI cF72 (nlB rfl) ?_
 unfold bD
 refine aA ?_
 refine AWP.condN (k=1) rfl rfl (fun h=>?_) (fun h=>?_)
 ·rw[if_pos h]
  refine aA ?_
  exact aI.w
 rw[if_neg h]
 refine aA ?_
 refine AWP.condN (k=2) rfl rfl (fun h=>?_) (fun h=>?_)
 ·rw[if_pos h]
  refine aA ?_
  exact aI.w
 rw[if_neg h]
 refine aA ?_
 refine AWP.condN (k=3) rfl rfl (fun h=>?_) (fun h=>?_)
 ·rw[if_pos h]
  refine aA ?_
  exact aI.w
 rw[if_neg h]
 refine aA ?_
 refine AWP.condN (k=4) rfl rfl (fun h=>?_) (fun h=>?_)
 ·subst h
  refine aA ?_
  exact aI.w
 rw[if_neg h]
 refine aA ?_
 refine AWP.condN (k=5) rfl rfl (fun h=>?_) (fun h=>?_)
 ·rw[if_pos h]
  refine aA ?_
  exact aI.w
 ·rw[if_neg h]
  refine aA ?_
  exact aI.w
theorem dJ (n lo hi:Int):aB Tryz.prog 163 [iv n,iv lo,iv hi] (.sc (.bool (aH n lo hi))):=by
 refine aB.mkI MA (nlB rfl) ?_
 unfold aH
 refine aA ?_
 by_cases h:lo≤n
 ·rw[dTr h]
  refine aA ?_
  exact aI.w
 ·rw[dFa h]
  refine aA ?_
  exact aI.w
theorem eZ (s:Shp) (h1:-4000000000000000000≤s.lo) (h2:s.lo≤4000000000000000000) (h3:-4000000000000000000≤s.hi) (h4:s.hi≤4000000000000000000):aB Tryz.prog 73 [.agg (shR s)] (iv s.ext):=by
 refine aB.mkI cF73 (nlB rfl) ?_
 unfold Shp.ext shR
 refine aA ?_
 rw[Av.wrap_small (by omega) (by omega)]
 refine aA ?_
 exact aI.w
def zW:List Int→Int
 | []=>0
 | x::l=>l.foldl max x
theorem OQ (l:List Int) (hl:l≠[]) (hn:l.length≤1000000000):aB Tryz.prog 206 [.list 1 (inR l)] (iv (zW l)):=by
 refine aB.mkI NT (nlB rfl) ?_
 obtain⟨x,r,rfl⟩:∃ x r,l=x::r:=by
  cases l with
  | nil=>exact absurd rfl hl
  | cons x r=>exact⟨x,r,rfl⟩
 obtain⟨l,hll⟩:∃ l,l=x::r:=⟨_,rfl⟩
 rw[← hll] at hn ⊢
 have hil:=bA l
 have hl0:0 < l.length:=by rw[hll]; simp
 have hr0:=cS l 0 hl0
 have e0:l[0]=zW (l.take 1):=by subst hll; rfl
 rw[e0] at hr0
 refine aA ?_
 rw[hil]
 refine AWP.condN (l.length < 1) rfl rfl (fun h=>absurd h (by omega)) (fun _=>?_)
 refine aA ?_
 refine AWP.loop (fun i:Nat=>[(0,.list 1 (inR l)),(3,iv (zW (l.take i))),(4,iv i)]) (fun _=>[]) (fun i=>1≤i∧i≤l.length) (fun i=>l.length - i) 1 ⟨Nat.le_refl _,hl0⟩ ?_ ?_
 ·(refine Sub.keep ?_; repeat' (first | exact trivial | exact Le.refl _ | refine⟨?_,?_⟩))
 rintro i ⟨h1,hi⟩
 refine aA ?_
 rw[hil]
 refine AWP.condN (i < l.length) rfl rfl (fun h=>?_) (fun h=>?_)
 ·have hr:=cS l i h
  have e1:(if l[i] > zW (l.take i) then l[i] else zW (l.take i))=zW (l.take (i+1)):=by
   rw[cG h]
   generalize l[i]=y
   obtain⟨j,rfl⟩:∃ j,i=j+1:=⟨i - 1,by omega⟩
   subst hll
   simp only[List.take_succ_cons,zW,List.cons_append,List.foldl_append,List.foldl_cons,List.foldl_nil]
   omega
  refine aA ?_
  refine⟨i+1,⟨by omega,by omega⟩,by omega,?_⟩
  rw[e1]
  (refine Sub.keep ?_; repeat' (first | exact trivial | exact Le.refl _ | refine⟨?_,?_⟩))
 ·obtain rfl:l.length=i:=by omega
  rw[List.take_length]
  refine aA ?_
  exact aI.w
theorem F5 (l:List Int) (hl:l≠[]):decide (zW l > 0)=l.any fun n=>decide (0 < n):=by
 obtain⟨x,r,rfl⟩:∃ x r,l=x::r:=by
  cases l with
  | nil=>exact absurd rfl hl
  | cons x r=>exact⟨x,r,rfl⟩
 have key:∀(r:List Int) (x:Int),decide (r.foldl max x > 0)=(decide (0 < x) || r.any fun n=>decide (0 < n)):=by
  intro r
  induction r with
  | nil=>intro x; simp
  | cons y r ih=>
   intro x
   rw[List.foldl_cons,ih,List.any_cons,← Bool.or_assoc]
   congr 1
   rw[← Bool.decide_or]
   congr 1
   rw[eq_iff_iff]
   omega
 exact key r x
theorem LY (n lo hi:Int):aB Tryz.prog 194 [iv n,.cptr [iv lo],.cptr [iv hi]] (.sc (.bool (!aH n lo hi))):=by
 refine aB.mkI NR (nlB rfl) ?_
 have hw:=dJ n lo hi
 refine aA ?_
 exact aI.w
theorem H9 (l:List Int) (lo hi:Int) (hn:l.length≤1000000000):aB Tryz.prog 210 [.list 1 (inR l),.clo (.func 194) [] [.cptr [iv lo],.cptr [iv hi]]] (iv (if cJ l lo hi=true then -1 else(l.findIdx (fun n=>!aH n lo hi):Nat))):=by
 refine aB.mkI ND (nlB rfl) ?_
 have hil:=bA l
 refine aA ?_
 refine AWP.loop (fun i:Nat=>[(0,.list 1 (inR l)),(1,.clo (.func 194) [] [.cptr [iv lo],.cptr [iv hi]]),(6,.list 1 (inR l)),(7,iv l.length),(8,iv i)]) (fun _=>[]) (fun i=>i≤l.length∧∀ j (h:j < l.length),j < i→aH l[j] lo hi=true) (fun i=>l.length - i) 0 ⟨Nat.zero_le _,fun j _ hj=>by omega⟩ ?_ ?_
 ·rw[← hil]
  (refine Sub.keep ?_; repeat' (first | exact trivial | exact Le.refl _ | refine⟨?_,?_⟩))
 rintro i ⟨hi',hin⟩
 refine aA ?_
 refine AWP.condN (i < l.length) rfl rfl (fun h=>?_) (fun h=>?_)
 ·have hr:=cS l i h
  have ha:=LY l[i] lo hi
  refine aA ?_
  cases hw:aH l[i] lo hi with
  | true=>
   refine aA ?_
   refine⟨i+1,⟨by omega,fun j hj hji=>?_⟩,by omega,?_⟩
   ·by_cases e:j=i
    ·subst e; exact hw
    ·exact hin j hj (by omega)
   (refine Sub.keep ?_; repeat' (first | exact trivial | exact Le.refl _ | refine⟨?_,?_⟩))
  | false=>
   have e1:cJ l lo hi=false:=by
    unfold cJ
    exact List.all_eq_false.2 ⟨l[i],List.getElem_mem _,by simp[hw]⟩
   have e2:l.findIdx (fun n=>!aH n lo hi)=i:=by
    rw[List.findIdx_eq h]
    exact⟨by simp[hw],fun j hj=>by simp[hin j (by omega) hj]⟩
   rw[e1,e2]
   refine aA ?_
   exact aI.w
 ·obtain rfl:l.length=i:=by omega
  have e1:cJ l lo hi=true:=List.all_eq_true.2 fun n hn=>by
   obtain⟨j,hj,rfl⟩:=List.getElem_of_mem hn
   exact hin j hj hj
  rw[if_pos e1]
  refine aA ?_
  exact aI.w
theorem OC (l:List Int) (lo hi:Int) (hn:l.length≤1000000000):aB Tryz.prog 193 [.list 1 (inR l),.clo (.func 194) [] [.cptr [iv lo],.cptr [iv hi]]] (.sc (.bool (!cJ l lo hi))):=by
 refine aB.mkI ME (nlB rfl) ?_
 have hi':=H9 l lo hi hn
 refine aA ?_
 cases cJ l lo hi with
 | true=>
  refine aA ?_
  exact aI.w
 | false=>
  simp only[Bool.false_eq_true,if_false]
  refine aA ?_
  exact aI.w
theorem DV (l:List Int) (lo hi:Int) (hn:l.length≤1000000000):aB Tryz.prog 164 [.list 1 (inR l),iv lo,iv hi] (.sc (.bool (cJ l lo hi))):=by
 refine aB.mkI NP (nlB rfl) ?_
 have hi':=OC l lo hi hn
 refine aA ?_
 (refine Reg.pv (by first | exact Nat.zero_le _ | exact Nat.le_refl _ | (simp; done) | (simp; omega)) rfl hi' (by first | exact .sc _ | (exact .agg _ (fun c hc=>by simp at hc; rcases hc with h | h<;>subst h<;>exact .sc _)) | assumption) ?vw9 ?_; case vw9=>(all_goals (repeat' (first | exact aT.nil | exact aK.nil | exact bN.nil | exact ToL.nil | exact ToR.nil | refine aT.cons ?_ ?_ | refine aK.cons ?_ ?_ | refine eJ ?_ ?_ | exact To.undef _ | exact To.sc _ | exact To.hslL rfl rfl | exact To.asl _ _ _ _ _ _ _ rfl | refine To.ifc _ _ _ ?_ | exact To.ptrO rfl rfl rfl | exact To.mrefO rfl | exact To.nil rfl rfl rfl | exact wt1 | exact To.nilL | refine To.int ?_ | refine To.bool ?_ | refine To.hslL rfl ?_ | refine wt2 rfl ?_ ?_ ?_ | refine To.tupL ?_ | refine To.aggL ?_ | refine To.cptrL ?_ | refine To.fzp rfl rfl rfl ?_ | refine To.fzm rfl rfl ?_ | refine To.cloL ?_ ?_ | refine wt3 ?_ | refine wt4 ?_ | exact wt5 | refine wt6 ?_ | refine ToB.one ?_ | exact wt7 | ((with_reducible apply ToL.consE); case e9=>rfl) | refine wt8 ?_ | refine ToL.cons ?_ ?_ | exact wt11 | refine wt9 ?_ ?_ | refine wt12 ?_ | exact .yld _ _ _ _ rfl | exact .dead _ | exact hlp _ _ _ _ rfl rfl rfl | exact hlp _ _ _ rfl rfl rfl | exact hlp _ _ _ rfl rfl | exact hlp _ _ _ rfl | (with_reducible rfl) | assumption)); all_goals (first | rfl | assumption | (simp; done) | (simp; omega))))
 refine aA ?_
 rw[Bool.not_not]
 refine aA ?_
 exact aI.w
theorem aS {n:Nat} {t:Ty} (h:a8 n t=true):∃ m k c b s sz bl pl of,n=m+1∧t=.mk k c b s sz bl pl of∧of.length≤3∧sz.length≤8∧bl.length≤8∧pl.length≤8∧c≤16∧b≤8∧(∀ x∈bl,x≤16)∧∀ u∈of,a8 m u=true:=by
 cases n with
 | zero=>cases t<;>simp[a8] at h
 | succ m=>
  cases t with
  | raw=>simp[a8] at h
  | mk k c b s sz bl pl of=>
   simp only[a8,Bool.and_eq_true,decide_eq_true_eq,List.all_eq_true] at h
   obtain⟨⟨⟨⟨⟨⟨⟨h1,h2⟩,h3⟩,h4⟩,h5⟩,h6⟩,h7⟩,h8⟩:=h
   exact⟨m,k,c,b,s,sz,bl,pl,of,rfl,rfl,h1,h2,h3,h4,h5,h6,fun x hx=>h7 x hx,h8⟩
theorem xX:∀ t:Ty,(tyR t).length=8
 | .mk ..=>by rw[tyR]; rfl
 | .raw ..=>by rw[tyR]; rfl
theorem pS {g i:Nat} {fr:Fr} {H:Heap} {sz:Nat} {a:Operand} {r:List AV} (ha:ev fr a=.cptr r) (hl:r.length=sz):aE g i (.load sz true a) fr H=some (.agg r,H):=by
 subst hl
 simp only[aE,ha,iZ,Nat.ble_eq_true_of_le (Nat.le_refl _),List.take_length]
theorem PH (l:List Ty) (lim:Int) (hn:l.length≤1000000000) (h:∀ u∈l,aB Tryz.prog 160 [.agg (tyR u),.cptr [iv lim]] (.sc (.bool false))):aB Tryz.prog 182 [.list 8 (aM l),.clo (.func 160) [] [.cptr [iv lim]]] (iv (-1)):=by
 refine aB.mkI NN (nlB rfl) ?_
 have hil:=jX l
 refine aA ?_
 refine AWP.loop (fun i:Nat=>[(0,.list 8 (aM l)),(1,.clo (.func 160) [] [.cptr [iv lim]]),(6,.list 8 (aM l)),(7,iv l.length),(8,iv i)]) (fun _=>[]) (fun i=>i≤l.length) (fun i=>l.length - i) 0 (Nat.zero_le _) ?_ ?_
 ·rw[← hil]
  (refine Sub.keep ?_; repeat' (first | exact trivial | exact Le.refl _ | refine⟨?_,?_⟩))
 rintro i hi'
 refine aA ?_
 refine AWP.condN (i < l.length) rfl rfl (fun h1=>?_) (fun h1=>?_)
 ·have hr:=oQ l i h1
  have ha:=h l[i] (List.getElem_mem _)
  refine aA ?_
  refine Reg.o rfl (pS rfl (xX _)) ?_
  refine aA ?_
  refine⟨i+1,by omega,by omega,?_⟩
  (refine Sub.keep ?_; repeat' (first | exact trivial | exact Le.refl _ | refine⟨?_,?_⟩))
 ·refine aA ?_
  exact aI.w
theorem KO (l:List Ty) (lim:Int) (hn:l.length≤1000000000) (h:∀ u∈l,aB Tryz.prog 160 [.agg (tyR u),.cptr [iv lim]] (.sc (.bool false))):aB Tryz.prog 159 [.list 8 (aM l),.clo (.func 160) [] [.cptr [iv lim]]] (.sc (.bool false)):=by
 refine aB.mkI NH (nlB rfl) ?_
 have hi':=PH l lim hn h
 refine aA ?_
 exact aI.w
theorem D2:∀(n:Nat) (t:Ty) (lim:Nat),a8 n t=true→n≤lim→lim≤100→aB Tryz.prog 132 [.agg (tyR t),iv lim] (.sc (.bool false))
 | 0,t,lim,h,_,_=>by
  obtain⟨m,_,_,_,_,_,_,_,_,e,_⟩:=aS h
  cases e
 | n+1,t,lim,h,hl,hm=>by
  obtain⟨m,k,c,b,s,sz,bl,pl,of,e,rfl,h1,_,_,_,_,_,_,h8⟩:=aS h
  obtain rfl:n=m:=by omega
  obtain⟨q,rfl⟩:∃ q,lim=q+1:=⟨lim - 1,by omega⟩
  have hd:∀ u∈of,aB Tryz.prog 160 [.agg (tyR u),.cptr [iv (q+1:Nat)]] (.sc (.bool false)):=fun u hu=>by
   have h2:=D2 n u q (h8 u hu) (by omega) (by omega)
   refine aB.mkI NL (nlB rfl) ?_
   obtain⟨_,_,_,_,_,_,_,_,_,_,rfl,_⟩:=aS (h8 u hu)
   rw[tyR] at h2 ⊢
   refine aA ?_
   exact aI.w
  have ha:=KO of (q+1:Nat) (by omega) hd
  refine aB.mkI NG (nlB rfl) ?_
  rw[tyR]
  refine aA ?_
  (refine Reg.pv (by first | exact Nat.zero_le _ | exact Nat.le_refl _ | (simp; done) | (simp; omega)) rfl ha (by first | exact .sc _ | (exact .agg _ (fun c hc=>by simp at hc; rcases hc with h | h<;>subst h<;>exact .sc _)) | assumption) ?vw9 ?_; case vw9=>(all_goals (repeat' (first | exact aT.nil | exact aK.nil | exact bN.nil | exact ToL.nil | exact ToR.nil | refine aT.cons ?_ ?_ | refine aK.cons ?_ ?_ | refine eJ ?_ ?_ | exact To.undef _ | exact To.sc _ | exact To.hslL rfl rfl | exact To.asl _ _ _ _ _ _ _ rfl | refine To.ifc _ _ _ ?_ | exact To.ptrO rfl rfl rfl | exact To.mrefO rfl | exact To.nil rfl rfl rfl | exact wt1 | exact To.nilL | refine To.int ?_ | refine To.bool ?_ | refine To.hslL rfl ?_ | refine wt2 rfl ?_ ?_ ?_ | refine To.tupL ?_ | refine To.aggL ?_ | refine To.cptrL ?_ | refine To.fzp rfl rfl rfl ?_ | refine To.fzm rfl rfl ?_ | refine To.cloL ?_ ?_ | refine wt3 ?_ | refine wt4 ?_ | exact wt5 | refine wt6 ?_ | refine ToB.one ?_ | exact wt7 | ((with_reducible apply ToL.consE); case e9=>rfl) | refine wt8 ?_ | refine ToL.cons ?_ ?_ | exact wt11 | refine wt9 ?_ ?_ | refine wt12 ?_ | exact .yld _ _ _ _ rfl | exact .dead _ | exact hlp _ _ _ _ rfl rfl rfl | exact hlp _ _ _ rfl rfl rfl | exact hlp _ _ _ rfl rfl | exact hlp _ _ _ rfl | (with_reducible rfl) | assumption)); all_goals (first | rfl | assumption | (simp; done) | (simp; omega))))
  refine aA ?_
  exact aI.w
abbrev bv (b:Bool):AV:=.sc (.bool b)
abbrev fnV (n:Nat):AV:=.sc (.func (.func n) #[] #[])
def BE (k:Int):List AV:=
 if k=6 then[bv true,bv false,bv false,bv false,bv false,fnV 183,fnV 184] else
 if k=7 then[bv true,bv true,bv false,bv false,bv false,fnV 185,fnV 186] else
 if k=8 then[bv false,bv false,bv true,bv true,bv false,fnV 187,fnV 188] else
 if k=9 then[bv false,bv false,bv true,bv true,bv false,fnV 187,fnV 189] else
 if k=10 then[bv false,bv false,bv false,bv true,bv false,fnV 190,fnV 184] else
 if k=11 then[bv false,bv false,bv true,bv true,bv true,fnV 191,fnV 192] else
 [bv false,bv false,bv false,bv false,bv false,.sc .nilFunc,.sc .nilFunc]
theorem N7 (k:Int):aB Tryz.prog 161 [iv k] (.tup [.agg (BE k),bv (decide (6≤k∧k≤11))]):=by
 have h:PR (BE k):=⟨by unfold BE; split<;>(try split)<;>(try split)<;>(try split)<;>(try split)<;>(try split)<;>exact pr _⟩
 refine aB.mkI MK (nlB rfl) ?_
 unfold BE
 by_cases h6:k=6
 ·subst h6
  refine aA ?_
  exact aI.w
 by_cases h7:k=7
 ·subst h7
  refine aA ?_
  exact aI.w
 by_cases h8:k=8
 ·subst h8
  refine aA ?_
  exact aI.w
 by_cases h9:k=9
 ·subst h9
  refine aA ?_
  exact aI.w
 by_cases h10:k=10
 ·subst h10
  refine aA ?_
  exact aI.w
 by_cases h11:k=11
 ·subst h11
  refine aA ?_
  exact aI.w
 rw[if_neg h6,if_neg h7,if_neg h8,if_neg h9,if_neg h10,if_neg h11,dFa (show¬ (6≤k∧k≤11) by omega)]
 refine aA ?_
 refine Reg.o rfl (yS rfl rfl rfl (r:=none) ?_) ?_
 ·simp[hO,h6,h7,h8,h9,h10,h11]
 refine aA ?_
 exact aI.w
theorem Reg.join0 {P:Program} {N k:Nat} {xs:List IOper} {c:cA} {fr:Fr} {H:Heap} {K:Fr→Heap→Prop} {Q:Exit→Fr→Heap→Prop} (F':Fr) (H':Heap) (h1:Reg P N k xs fr H fun fr2 H2=>Sub k N fr2 H2 F' H')
  (h2:AWP P N k c Q F' H') (hq:∀ fr H,AWP P N k c Q fr H→K fr H:=by intro _ _ h; exact h):Reg P N k xs fr H K:=
 h1.mono fun _ _ h=>hq _ _ (AWP.sub h h2)
set_option maxHeartbeats 2000000 in
theorem vN (k c b st:Int) (sz bl pl:List Int) (of:List Ty) (c1 c2 c3 c4 c5 basic:Bool) (u v:Value) (hu:u.oneCell'=true) (hv:v.oneCell'=true) (_h1:of.length≤3) (h2:sz.length≤8) (h3:bl.length≤8) (_h4:pl.length≤8):
  aB Tryz.prog 162 [.agg (tyR (.mk k c b st sz bl pl of)),.agg [bv c1,bv c2,bv c3,bv c4,bv c5,.sc u,.sc v],bv basic]
   (iv (if rI c1 c2 c3 c4 c5 c b st sz bl pl of.length (ofG basic k of.length)=true then 2 else shG k sz bl pl (ofG basic k of.length))):=by
 rw[tyR]
 refine aB.mkI NQ (nlB rfl) ?_
 have l1:=bA sz
 have l2:=bA bl
 have l3:=bA pl
 have l4:=jX of
 refine aA ?_
 refine Reg.o rfl (BZ rfl (show([bv c1,bv c2,bv c3,bv c4,bv c5,.sc u,.sc v]:List AV).all AV.cell1=true by simp only[List.all_cons,List.all_nil,AV.cell1,hu,hv,Bool.and_true]; rfl) rfl) ?_
 refine aA ?_
 refine AWP.joinB0 [(3,.cptr [iv k,iv c,iv b,iv st,.list 1 (inR sz),.list 1 (inR bl),.list 1 (inR pl),.list 8 (aM of)]),(4,.cptr [bv c1,bv c2,bv c3,bv c4,bv c5,.sc u,.sc v]),(7,iv (ofG basic k of.length:Nat))] [] ?_ ?_
 ·unfold ofG
  cases basic with
  | true=>
   refine aA ?_
   exact Sub.w [] []
  | false=>
   refine aA ?_
   refine AWP.condN (k=9) rfl rfl (fun h=>?_) (fun h=>?_)
   ·rw[if_neg (by simp),if_pos h]
    refine aA ?_
    rw[l4]
    exact Sub.w [] []
   ·rw[if_neg (by simp),if_neg h]
    refine aA ?_
    exact Sub.w [] []
 generalize ofG basic k of.length=m
 refine aA ?_
 unfold rI
 obtain⟨g1,e1⟩:∃ g,g=(!c1 && (c != 0)):=⟨_,rfl⟩
 obtain⟨g2,e2⟩:∃ g,g=(!c2 && ((b != 0) || (st != 0))):=⟨_,rfl⟩
 obtain⟨g3,e3⟩:∃ g,g=(!c3 && decide (0 < bl.length)):=⟨_,rfl⟩
 obtain⟨g4,e4⟩:∃ g,g=(!c4 && decide (0 < pl.length)):=⟨_,rfl⟩
 obtain⟨g5,e5⟩:∃ g,g=(!c5 && decide (0 < sz.length)):=⟨_,rfl⟩
 obtain⟨g6,e6⟩:∃ g,g=(!decide (of.length=m)):=⟨_,rfl⟩
 rw[← e1,← e2,← e3,← e4,← e5,← e6]
 refine Reg.join0 [(3,.cptr [iv k,iv c,iv b,iv st,.list 1 (inR sz),.list 1 (inR bl),.list 1 (inR pl),.list 8 (aM of)]),(4,.cptr [bv c1,bv c2,bv c3,bv c4,bv c5,.sc u,.sc v]),(7,iv m),(20,bv g1)] [] ?_ ?_
 ·rw[e1]
  cases c1 with
  | true=>
   refine aA ?_
   exact Sub.w [] []
  | false=>
   refine aA ?_
   exact Sub.wl [] []
 cases g1 with
 | true=>
  refine aA ?_
  exact aI.w
 | false=>
 refine aA ?_
 refine Reg.join0 [(3,.cptr [iv k,iv c,iv b,iv st,.list 1 (inR sz),.list 1 (inR bl),.list 1 (inR pl),.list 8 (aM of)]),(4,.cptr [bv c1,bv c2,bv c3,bv c4,bv c5,.sc u,.sc v]),(7,iv m),(20,bv g2)] [] ?_ ?_
 ·rw[e2]
  cases c2 with
  | true=>
   refine aA ?_
   exact Sub.w [] []
  | false=>
   refine aA ?_
   cases (b != 0) with
   | true=>
    refine aA ?_
    exact Sub.w [] []
   | false=>
    refine aA ?_
    exact Sub.w [] []
 cases g2 with
 | true=>
  refine aA ?_
  exact aI.w
 | false=>
 refine aA ?_
 refine Reg.join0 [(3,.cptr [iv k,iv c,iv b,iv st,.list 1 (inR sz),.list 1 (inR bl),.list 1 (inR pl),.list 8 (aM of)]),(4,.cptr [bv c1,bv c2,bv c3,bv c4,bv c5,.sc u,.sc v]),(7,iv m),(20,bv g3)] [] ?_ ?_
 ·rw[e3]
  cases c3 with
  | true=>
   refine aA ?_
   exact Sub.w [] []
  | false=>
   refine aA ?_
   try rw[l2]
   exact Sub.wl [] []
 cases g3 with
 | true=>
  refine aA ?_
  exact aI.w
 | false=>
 refine aA ?_
 refine Reg.join0 [(3,.cptr [iv k,iv c,iv b,iv st,.list 1 (inR sz),.list 1 (inR bl),.list 1 (inR pl),.list 8 (aM of)]),(4,.cptr [bv c1,bv c2,bv c3,bv c4,bv c5,.sc u,.sc v]),(7,iv m),(20,bv g4)] [] ?_ ?_
 ·rw[e4]
  cases c4 with
  | true=>
   refine aA ?_
   exact Sub.w [] []
  | false=>
   refine aA ?_
   try rw[l3]
   exact Sub.wl [] []
 cases g4 with
 | true=>
  refine aA ?_
  exact aI.w
 | false=>
 refine aA ?_
 refine Reg.join0 [(3,.cptr [iv k,iv c,iv b,iv st,.list 1 (inR sz),.list 1 (inR bl),.list 1 (inR pl),.list 8 (aM of)]),(4,.cptr [bv c1,bv c2,bv c3,bv c4,bv c5,.sc u,.sc v]),(7,iv m),(20,bv g5)] [] ?_ ?_
 ·rw[e5]
  cases c5 with
  | true=>
   refine aA ?_
   exact Sub.w [] []
  | false=>
   refine aA ?_
   try rw[l1]
   exact Sub.wl [] []
 cases g5 with
 | true=>
  refine aA ?_
  exact aI.w
 | false=>
 refine aA ?_
 rw[l4]
 refine AWP.condN (¬ of.length=m) rfl (by simp) (fun h=>?_) (fun h=>?_)
 ·obtain rfl:g6=true:=by rw[e6]; simp[h]
  refine aA ?_
  exact aI.w
 obtain rfl:g6=false:=by rw[e6]; simpa using h
 rw[if_neg (show¬ ((false || (false || (false || (false || (false || false)))))=true) by decide)]
 unfold shG
 have w1:=dJ (bl.length:Nat) 1 4096
 have w2:=dJ (sz.length:Nat) 1 4
 refine aA ?_
 refine AWP.condN (k=8) rfl rfl (fun k8=>?_) (fun k8=>?_)
 ·rw[if_pos k8]
  refine aA ?_
  rw[l2]
  refine aA ?_
  have hw:aH (bl.length:Nat) 1 4096=decide (1≤bl.length∧bl.length≤4096):=by
   unfold aH
   rw[← Bool.decide_and]
   congr 1
   rw[eq_iff_iff]
   omega
  rw[hw]
  by_cases hb:1≤bl.length∧bl.length≤4096
  ·rw[dTr hb]
   refine aA ?_
   rw[l2,l3]
   refine aA ?_
   refine AWP.condN (¬ pl.length=bl.length) rfl (by simp) (fun h=>?_) (fun h=>?_)
   ·rw[if_neg (fun q=>h q.2.2)]
    refine aA ?_
    exact aI.w
   ·rw[if_pos ⟨hb.1,hb.2,Decidable.byContradiction h⟩]
    refine aA ?_
    exact aI.w
  ·rw[dFa hb]
   refine aA ?_
   rw[if_neg (fun h=>hb ⟨h.1,h.2.1⟩)]
   exact aI.w
 rw[if_neg k8]
 refine aA ?_
 refine AWP.condN (k=9) rfl rfl (fun k9=>?_) (fun k9=>?_)
 ·rw[if_pos k9]
  refine aA ?_
  rw[l2]
  refine aA ?_
  by_cases hb:bl.length=m
  ·rw[dTr hb]
   refine aA ?_
   rw[l3]
   refine aA ?_
   refine AWP.condN (¬ pl.length=m) rfl (by simp) (fun h=>?_) (fun h=>?_)
   ·rw[if_neg (fun q=>h q.2)]
    refine aA ?_
    exact aI.w
   ·rw[if_pos ⟨hb,Decidable.byContradiction h⟩]
    refine aA ?_
    exact aI.w
  ·rw[dFa hb]
   refine aA ?_
   rw[if_neg (fun h=>hb h.1)]
   exact aI.w
 rw[if_neg k9]
 refine aA ?_
 refine AWP.condN (k=10) rfl rfl (fun k10=>?_) (fun k10=>?_)
 ·rw[if_pos k10]
  refine aA ?_
  rw[l3]
  by_cases hb:pl.length=2
  ·rw[dTr hb,if_pos hb]
   refine aA ?_
   exact aI.w
  ·rw[dFa hb,if_neg hb]
   refine aA ?_
   exact aI.w
 rw[if_neg k10]
 refine aA ?_
 refine AWP.condN (k=11) rfl rfl (fun k11=>?_) (fun k11=>?_)
 ·rw[if_pos k11]
  refine aA ?_
  rw[l1]
  refine aA ?_
  have hw:aH (sz.length:Nat) 1 4=decide (1≤sz.length∧sz.length≤4):=by
   unfold aH
   rw[← Bool.decide_and]
   congr 1
   rw[eq_iff_iff]
   omega
  rw[hw]
  by_cases hb:1≤sz.length∧sz.length≤4
  ·rw[dTr hb]
   refine aA ?_
   rw[l1,l2]
   by_cases hb2:bl.length=sz.length
   ·rw[dTr hb2]
    refine aA ?_
    rw[l1,l3]
    refine aA ?_
    refine AWP.condN (¬ pl.length=sz.length) rfl (by simp) (fun h=>?_) (fun h=>?_)
    ·rw[if_neg (fun q=>h q.2.2.2)]
     refine aA ?_
     exact aI.w
    ·rw[if_pos ⟨hb.1,hb.2,hb2,Decidable.byContradiction h⟩]
     refine aA ?_
     exact aI.w
   ·rw[dFa hb2]
    refine aA ?_
    rw[if_neg (fun h=>hb2 h.2.2.1)]
    exact aI.w
  ·rw[dFa hb]
   refine aA ?_
   rw[if_neg (fun h=>hb ⟨h.1,h.2.1⟩)]
   exact aI.w
 rw[if_neg k11]
 refine aA ?_
 exact aI.w
end Go.Proofs.YtgdocflpobncmaaGreat
