import Derived.Test.YtgdocflpobncmaaGreatGFiC
import Derived.Test.YtgdocflpobncmaaGreatGAvI
import Derived.Test.YtgdocflpobncmaaGreatGAvVG
import Derived.Test.YtgdocflpobncmaaGreatGAvK5
import Derived.KernelRfl
import Derived.Test.YtgdocflpobncmaaGreatProg
namespace Go.Proofs.YtgdocflpobncmaaGreat
open Go.Av Go.Proofs
set_option maxRecDepth 20000
theorem jY:Tryz.prog.follows .mixedOrders=true:=by kernel_rfl
def cA (l:List Int):List (List AV):=l.map fun n=>[.sc (.int .i64 n)]
theorem oU (l:List Int):(cA l).length=l.length:=by simp[cA]
instance (l:List Int):PRs (cA l):=⟨fun r hr=>by
 obtain⟨a,_,rfl⟩:=List.mem_map.1 hr
 exact fB (.sc _) f9⟩
def g7 (l:List (Int×AV)):List (Value×AV):=l.map fun p=>(.int .i64 p.1,p.2)
theorem lI {l:List (Int×AV)} (h:∀ x∈l,aX x.2):∀ x∈g7 l,aX x.2:=fun x hx=>by
 obtain⟨y,hy,rfl⟩:=List.mem_map.1 hx
 exact h y hy
set_option maxHeartbeats 4000000 in
theorem KM (es:List (Int×AV)) (hp:∀ x∈es,aX x.2) (hn:es.length≤1000000) (c:AV) (hc:aX c) (L:LC) (hL:LOK Tryz.prog 13 L [7] (.region [⟨some 5,none,.op (.move (.tmp 7))⟩]) (.block 1 (.region [⟨some 8,none,.op (.load 1 false (.tmp 2))⟩,⟨some 9,none,.op (.move (.tmp 5))⟩,⟨some 10,none,.op (.buildSlice 1 [(1,(.int .i64 0))] 1 [(0,(.tmp 9))])⟩,⟨some 11,none,.op (.append 1 8 (.tmp 8) (.tmp 10))⟩,⟨none,none,.op (.store 1 (.tmp 2) (.tmp 11))⟩]))):
  aD Tryz.prog 139 [.yld 1 0,.cptr [.tmap (g7 es)]] [[.cells 1 [[.sc (.slice none 0 0)]]],[.lp L [(2,.ptr 0 0 0 0),(6,c)] .ready none]] fun _ H'=>
   ∃ ks:List Int,ks.Perm (es.map (·.1))∧H'=[[.cells 1 [[.hsl 2 0 0 ks.length]]],[.lp L [(2,.ptr 0 0 0 0),(6,c)] .ready none],[.cells 1 (cA ks)]]:=by
 refine aD.of K1 ?_ (nlB rfl)
 refine aB ?_
 refine AWP.loop3 (fun(ks:List Int) (cur:Option (Value×AV)) (left:List (Int×AV))=>[(0,.yld 1 0),(5,.ptr 2 0 0 0)])
  (fun ks cur left=>[[.cells 1 [[.hsl 3 0 0 ks.length]]],[.lp L [(2,.ptr 0 0 0 0),(6,c)] .ready none],[.it cur (g7 left)],[.cells 1 (cA ks)]])
  (fun ks cur left=>(ks++left.map (·.1)).Perm (es.map (·.1))∧(∀ x∈left,aX x.2)∧(∀ x,cur=some x→aX x.2)) (fun ks cur left=>left.length) [] none es ⟨.refl _,hp,fun x h=>by cases h⟩ ?_ ?_
 ·(apply Sub.to [1] [[(0,0)],[(1,0)],[(2,0)],[(3,0)]]; all_goals (repeat' (first | exact aO.nil | exact aI.nil | exact bD.nil | exact ToL.nil | exact ToR.nil | refine aO.cons ?_ ?_ | refine aI.cons ?_ ?_ | refine f8 ?_ ?_ | exact To.undef _ | exact To.sc _ | exact To.hslL rfl rfl | exact To.asl _ _ _ _ _ _ rfl | exact To.ptrO rfl rfl rfl | exact To.mrefO rfl | exact To.nil rfl rfl rfl | exact wt1 | exact To.nilL | refine To.int ?_ | refine To.bool ?_ | refine To.hslL rfl ?_ | refine wt2 rfl ?_ ?_ ?_ | refine To.tupL ?_ | refine To.aggL ?_ | refine To.cptrL ?_ | refine To.fzp rfl rfl rfl ?_ | refine To.fzm rfl rfl ?_ | refine To.cloL ?_ ?_ | refine wt3 ?_ | refine wt4 ?_ | exact wt5 | refine wt6 ?_ | refine ToB.one ?_ | exact wt7 | ((with_reducible apply ToL.consE); case e9=>rfl) | refine wt8 ?_ | refine ToL.cons ?_ ?_ | exact wt11 | refine wt9 ?_ ?_ | refine wt12 ?_ | (with_reducible rfl) | assumption)); all_goals (first | rfl | assumption | (simp; done) | (simp; omega) | (rw[wrap_small (by omega) (by omega)]; done) | (rw[wrap_small (by omega) (by omega)]; omega) | (refine congrArg Nat.cast ?_; assumption) | skip))
  all_goals (first | exact .yld _ _ _ _ rfl | exact ToB.dead _ | exact ToB.it _ _ (lI hp) (fun x h=>by cases h) | (refine ToB.lp _ _ _ _ _ fun x hx=>?_; simp only[List.mem_cons,List.not_mem_nil,or_false] at hx; rcases hx with rfl | rfl; exact To.ptrO rfl rfl rfl; exact To.pure hc))
 rintro ks cur left ⟨hk1,hk2,hk3⟩
 refine AWP.seq ?_
 refine AWP.region ?_
 refine Reg.next rfl rfl rfl (fun h=>?_) (fun l1 y l2 h=>?_)
 ·have hl:left=[]:=List.map_eq_nil_iff.1 h
  subst hl
  rw[List.map_nil,List.append_nil] at hk1
  refine aB ?_
  refine zM (res':=.tup []) [[(0,0)],[(1,0)],[(3,0)]] (.inl rfl) rfl ⟨ks,hk1,rfl⟩ ?_ ?_ rfl rfl rfl
  ((all_goals (repeat' (first | exact aO.nil | exact aI.nil | exact bD.nil | exact ToL.nil | exact ToR.nil | refine aO.cons ?_ ?_ | refine aI.cons ?_ ?_ | refine f8 ?_ ?_ | exact To.undef _ | exact To.sc _ | exact To.hslL rfl rfl | exact To.asl _ _ _ _ _ _ rfl | exact To.ptrO rfl rfl rfl | exact To.mrefO rfl | exact To.nil rfl rfl rfl | exact wt1 | exact To.nilL | refine To.int ?_ | refine To.bool ?_ | refine To.hslL rfl ?_ | refine wt2 rfl ?_ ?_ ?_ | refine To.tupL ?_ | refine To.aggL ?_ | refine To.cptrL ?_ | refine To.fzp rfl rfl rfl ?_ | refine To.fzm rfl rfl ?_ | refine To.cloL ?_ ?_ | refine wt3 ?_ | refine wt4 ?_ | exact wt5 | refine wt6 ?_ | refine ToB.one ?_ | exact wt7 | ((with_reducible apply ToL.consE); case e9=>rfl) | refine wt8 ?_ | refine ToL.cons ?_ ?_ | exact wt11 | refine wt9 ?_ ?_ | refine wt12 ?_ | (with_reducible rfl) | assumption)); all_goals (first | rfl | assumption | (simp; done) | (simp; omega) | (rw[wrap_small (by omega) (by omega)]; done) | (rw[wrap_small (by omega) (by omega)]; omega) | (refine congrArg Nat.cast ?_; assumption) | skip)))
  all_goals (first | exact .yld _ _ _ _ rfl | exact ToB.dead _ | exact ToB.it _ _ (hk2) (hk3) | (refine ToB.lp _ _ _ _ _ fun x hx=>?_; simp only[List.mem_cons,List.not_mem_nil,or_false] at hx; rcases hx with rfl | rfl; exact To.ptrO rfl rfl rfl; exact To.pure hc))
 ·obtain⟨m1,m2,rfl,e1,e2⟩:=List.map_eq_append_iff.1 h
  obtain⟨x,m3,rfl,e3,e4⟩:=List.map_eq_cons_iff.1 e2
  subst e1; subst e3; subst e4
  have hx:aX x.2:=hk2 x (by simp)
  have hp2:∀ y∈m1++m3,aX y.2:=fun y hy=>hk2 y (by rcases List.mem_append.1 hy with h | h<;>simp[h])
  have g2:∀ y:Value×AV,some (Value.int .i64 x.1,x.2)=some y→aX y.2:=fun y hy=>by injection hy with hy; subst hy; exact hx
  have e0:=oU ks
  have hkl:ks.length≤1000000:=by
   have:=hk1.length_eq
   rw[List.length_append,List.length_map,List.length_map] at this
   omega
  refine dC ?_
  refine AWP.seq ?_
  refine AWP.condT rfl ?_
  refine AWP.skip ?_
  refine AWP.block ?_
  refine AWP.seq ?_
  refine AWP.region ?_
  refine dC ?_
  refine AWP.seq ?_
  refine AWP.rY rfl ?_
  refine aB ?_
  refine⟨rfl,nlB rfl,1,0,rfl,?_⟩
  refine⟨L,_,_,_,_,_,hL,rfl,rfl,?_⟩
  refine aB ?_
  refine⟨rfl,_,rfl,?_⟩
  refine AWP.fin ?_
  refine aB ?_
  refine⟨[],[[.cells 1 [[.hsl 4 0 0 (ks++[x.1]).length]]],[.lp L [(2,.ptr 0 0 0 0),(6,c)] .busy none],[.it (some (.int .i64 x.1,x.2)) (g7 (m1++m3))],[.dead],[.cells 1 (cA (ks++[x.1]))]],?_,_,rfl,?_⟩
  ·have hr:cA (ks++[x.1])=cA ks++[[.sc (.int .i64 x.1)]]:=by simp[cA]
   have hl:(ks++[x.1]).length=ks.length+1:=by simp
   have hm:g7 (m1++m3)=g7 m1++g7 m3:=List.map_append
   have g1:∀ y∈g7 m1++g7 m3,aX y.2:=by rw[← hm]; exact lI hp2
   rw[hr,hl,hm]
   (apply Sub.to [] [[(0,0)],[(1,0)],[(2,0)],[(3,0)],[(5,0)]]; all_goals (repeat' (first | exact aO.nil | exact aI.nil | exact bD.nil | exact ToL.nil | exact ToR.nil | refine aO.cons ?_ ?_ | refine aI.cons ?_ ?_ | refine f8 ?_ ?_ | exact To.undef _ | exact To.sc _ | exact To.hslL rfl rfl | exact To.asl _ _ _ _ _ _ rfl | exact To.ptrO rfl rfl rfl | exact To.mrefO rfl | exact To.nil rfl rfl rfl | exact wt1 | exact To.nilL | refine To.int ?_ | refine To.bool ?_ | refine To.hslL rfl ?_ | refine wt2 rfl ?_ ?_ ?_ | refine To.tupL ?_ | refine To.aggL ?_ | refine To.cptrL ?_ | refine To.fzp rfl rfl rfl ?_ | refine To.fzm rfl rfl ?_ | refine To.cloL ?_ ?_ | refine wt3 ?_ | refine wt4 ?_ | exact wt5 | refine wt6 ?_ | refine ToB.one ?_ | exact wt7 | ((with_reducible apply ToL.consE); case e9=>rfl) | refine wt8 ?_ | refine ToL.cons ?_ ?_ | exact wt11 | refine wt9 ?_ ?_ | refine wt12 ?_ | (with_reducible rfl) | assumption)); all_goals (first | rfl | assumption | (simp; done) | (simp; omega) | (rw[wrap_small (by omega) (by omega)]; done) | (rw[wrap_small (by omega) (by omega)]; omega) | (refine congrArg Nat.cast ?_; assumption) | skip))
   all_goals (first | exact .yld _ _ _ _ rfl | exact ToB.dead _ | exact ToB.it _ _ (g1) (g2) | (refine ToB.lp _ _ _ _ _ fun x hx=>?_; simp only[List.mem_cons,List.not_mem_nil,or_false] at hx; rcases hx with rfl | rfl; exact To.ptrO rfl rfl rfl; exact To.pure hc))
  show Reg Tryz.prog F139.n _ _ _ _ _
  refine aB ?_
  refine⟨ks++[x.1],some (.int .i64 x.1,x.2),m1++m3,⟨?_,hp2,g2⟩,by simp,?_⟩
  ·refine List.Perm.trans ?_ hk1
   rw[List.map_append,List.map_append,List.map_cons,List.append_assoc]
   refine List.Perm.append_left _ ?_
   show(x.1::(m1.map (·.1)++m3.map (·.1))).Perm _
   exact List.perm_middle.symm
  ·(apply Sub.to [] [[(0,0)],[(1,0)],[(2,0)],[(4,0)]]; all_goals (repeat' (first | exact aO.nil | exact aI.nil | exact bD.nil | exact ToL.nil | exact ToR.nil | refine aO.cons ?_ ?_ | refine aI.cons ?_ ?_ | refine f8 ?_ ?_ | exact To.undef _ | exact To.sc _ | exact To.hslL rfl rfl | exact To.asl _ _ _ _ _ _ rfl | exact To.ptrO rfl rfl rfl | exact To.mrefO rfl | exact To.nil rfl rfl rfl | exact wt1 | exact To.nilL | refine To.int ?_ | refine To.bool ?_ | refine To.hslL rfl ?_ | refine wt2 rfl ?_ ?_ ?_ | refine To.tupL ?_ | refine To.aggL ?_ | refine To.cptrL ?_ | refine To.fzp rfl rfl rfl ?_ | refine To.fzm rfl rfl ?_ | refine To.cloL ?_ ?_ | refine wt3 ?_ | refine wt4 ?_ | exact wt5 | refine wt6 ?_ | refine ToB.one ?_ | exact wt7 | ((with_reducible apply ToL.consE); case e9=>rfl) | refine wt8 ?_ | refine ToL.cons ?_ ?_ | exact wt11 | refine wt9 ?_ ?_ | refine wt12 ?_ | (with_reducible rfl) | assumption)); all_goals (first | rfl | assumption | (simp; done) | (simp; omega) | (rw[wrap_small (by omega) (by omega)]; done) | (rw[wrap_small (by omega) (by omega)]; omega) | (refine congrArg Nat.cast ?_; assumption) | skip))
   all_goals (first | exact .yld _ _ _ _ rfl | exact ToB.dead _ | exact ToB.it _ _ (lI hp2) (g2) | (refine ToB.lp _ _ _ _ _ fun x hx=>?_; simp only[List.mem_cons,List.not_mem_nil,or_false] at hx; rcases hx with rfl | rfl; exact To.ptrO rfl rfl rfl; exact To.pure hc))
theorem wG (es:List (Int×AV)) (hp:∀ x∈es,aX x.2) (hn:es.length≤1000000):
  aD Tryz.prog 153 [.sc (.slice none 0 0),.clo (.func 139) [] [.cptr [.tmap (g7 es)]]] [] fun res H'=>∃ ks:List Int,ks.Perm (es.map (·.1))∧res=.hsl 0 0 0 ks.length∧H'=[[.cells 1 (cA ks)]]:=by
 refine aD.of LW ?_ (nlB rfl)
 refine aB ?_
 have hc:aX (.clo (.func 139) [] [.cptr [.tmap (g7 es)]]):=.clo _ _ _ (fun _ h=>by cases h) (fB (.cptr _ (fB (.tmap _ (lI hp)) f9)) f9)
 generalize hcc:AV.clo (.func 139) [] [.cptr [.tmap (g7 es)]]=c at *
 refine AWP.sub (fr':=[(2,.ptr 0 0 0 0),(6,c)]) (H':=[[.cells 1 [[.sc (.slice none 0 0)]]]]) ?_ ?_
 ·(apply Sub.to [] [[(0,0)]]; all_goals (repeat' (first | exact aO.nil | exact aI.nil | exact bD.nil | exact ToL.nil | exact ToR.nil | refine aO.cons ?_ ?_ | refine aI.cons ?_ ?_ | refine f8 ?_ ?_ | exact To.undef _ | exact To.sc _ | exact To.hslL rfl rfl | exact To.asl _ _ _ _ _ _ rfl | exact To.ptrO rfl rfl rfl | exact To.mrefO rfl | exact To.nil rfl rfl rfl | exact wt1 | exact To.nilL | refine To.int ?_ | refine To.bool ?_ | refine To.hslL rfl ?_ | refine wt2 rfl ?_ ?_ ?_ | refine To.tupL ?_ | refine To.aggL ?_ | refine To.cptrL ?_ | refine To.fzp rfl rfl rfl ?_ | refine To.fzm rfl rfl ?_ | refine To.cloL ?_ ?_ | refine wt3 ?_ | refine wt4 ?_ | exact wt5 | refine wt6 ?_ | refine ToB.one ?_ | exact wt7 | ((with_reducible apply ToL.consE); case e9=>rfl) | refine wt8 ?_ | refine ToL.cons ?_ ?_ | exact wt11 | refine wt9 ?_ ?_ | refine wt12 ?_ | (with_reducible rfl) | assumption)); all_goals (first | rfl | assumption | (simp; done) | (simp; omega) | (rw[wrap_small (by omega) (by omega)]; done) | (rw[wrap_small (by omega) (by omega)]; omega) | (refine congrArg Nat.cast ?_; assumption) | skip))
  all_goals exact To.pure hc
 refine AWP.rangeF (g:=139) (fs:=[]) (cs:=[.cptr [.tmap (g7 es)]]) (by rw[← hcc]; rfl) (Nat.zero_le _) rfl fun L hL=>?_
 refine(KM es hp hn c hc L hL).mono ?_
 rintro res H' ⟨ks,hk,rfl⟩
 refine⟨_,_,none,rfl,by decide,?_⟩
 refine aB ?_
 refine zM (res':=.hsl 0 0 0 ks.length) [[(2,0)]] (.inr rfl) rfl ⟨ks,hk,rfl,rfl⟩ ?_ ?_ rfl rfl rfl
 (all_goals exact bO)
theorem yK (x:Int):aF Tryz.prog 201 [.sc (.int .i64 x)] (.sc (.bool false)):=by
 refine aF.mkI K8 (nlB rfl) ?_
 refine aB ?_
 rw[show(x != x)=false by simp]
 exact fM.w
theorem JA (x y:Int):aF Tryz.prog 172 [.sc (.int .i64 x),.sc (.int .i64 y)] (.sc (.bool (decide (x < y)))):=by
 refine aF.mkI LU (nlB rfl) ?_
 have h1:=yK x
 have h2:=yK y
 refine aB ?_
 exact fM.w
def rT (l:List Int) (j:Nat):List Int:=(l.set (j+1) (l.getD j 0)).set j (l.getD (j+1) 0)
theorem BE {l:List Int} {j:Nat} (h:j+1 < l.length):(rT l j).Perm l:=by
 unfold rT
 have e1:l.getD j 0=l[j]:=by simp[List.getD,gEg (show j < l.length by omega)]
 have e2:l.getD (j+1) 0=l[j+1]:=by simp[List.getD,gEg h]
 rw[e1,e2]
 exact List.set_set_perm h (by omega)
theorem uM {l:List Int} {j q:Nat} (h:j+1 < l.length):(rT l j).getD q 0=if q=j then l.getD (j+1) 0 else if q=j+1 then l.getD j 0 else l.getD q 0:=by
 unfold rT
 simp only[List.getD_eq_getElem?_getD,List.getElem?_set,List.length_set]
 by_cases e1:q=j
 ·subst e1
  rw[if_pos rfl,if_pos rfl,if_pos (by omega)]
  rfl
 ·rw[if_neg (fun e=>e1 e.symm),if_neg e1]
  by_cases e2:q=j+1
  ·subst e2
   rw[if_pos rfl,if_pos rfl,if_pos h]
   rfl
  ·rw[if_neg (fun e=>e2 e.symm),if_neg e2]
def wU (l:List Int) (i j:Nat):Prop:=∀ p q,p < q→q≤i→q≠j→l.getD p 0≤l.getD q 0
theorem wU.step {l:List Int} {i j:Nat} (h:wU l i (j+1)) (hi:i < l.length) (hj:j+1≤i) (hlt:l.getD (j+1) 0 < l.getD j 0):wU (rT l j) i j:=by
 intro p q hpq hq hne
 rw[uM (by omega),uM (by omega),if_neg hne]
 by_cases e2:q=j+1
 ·rw[if_pos e2]
  by_cases e3:p=j
  ·rw[if_pos e3]; omega
  ·rw[if_neg e3,if_neg (by omega)]
   exact h p j (by omega) (by omega) (by omega)
 ·rw[if_neg e2]
  by_cases e3:p=j
  ·rw[if_pos e3]
   exact h (j+1) q (by omega) hq e2
  ·rw[if_neg e3]
   by_cases e4:p=j+1
   ·rw[if_pos e4]
    exact h j q (by omega) hq e2
   ·rw[if_neg e4]
    exact h p q hpq hq e2
theorem wU.done {l:List Int} {i j:Nat} (h:wU l i j) (hj:j=0∨¬ l.getD j 0 < l.getD (j - 1) 0):∀ p q,p < q→q≤i→l.getD p 0≤l.getD q 0:=by
 intro p q hpq hq
 by_cases e:q=j
 ·subst e
  rcases hj with hj | hj
  ·omega
  ·by_cases e2:p=q - 1
   ·subst e2; omega
   ·have:=h p (q - 1) (by omega) (by omega) (by omega)
    omega
 ·exact h p q hpq hq e
theorem rS {l:List Int} {q:Nat} (h:q < l.length):(cA l)[q]?=some [.sc (.int .i64 (l.getD q 0))]:=by
 unfold cA
 rw[List.getElem?_map,gEg h]
 simp[List.getD,gEg h]
theorem oS (l:List Int) (q:Nat) (x:Int):(cA l).set q [.sc (.int .i64 x)]=cA (l.set q x):=by
 unfold cA
 rw[List.map_set]
set_option maxHeartbeats 4000000 in
theorem wK (l:List Int) (hl:l.length≤1000000):aD Tryz.prog 166 [.hsl 0 0 0 l.length,.sc (.int .i64 (0:Nat)),.sc (.int .i64 (l.length:Int))] [[.cells 1 (cA l)]] fun _ H'=>
  ∃ m:List Int,m.Perm l∧(∀ p q,p < q→q < m.length→m.getD p 0≤m.getD q 0)∧H'=[[.cells 1 (cA m)]]:=by
 refine aD.of LG ?_ (nlB rfl)
 refine aB ?_
 refine AWP.loop2 (fun(m:List Int) (i:Nat)=>[(0,.hsl 0 0 0 l.length),(1,.sc (.int .i64 (0:Nat))),(2,.sc (.int .i64 (l.length:Int))),(6,.sc (.int .i64 (i:Int)))])
  (fun m i=>[[.cells 1 (cA m)]]) (fun m i=>m.Perm l∧1≤i∧(i≤l.length∨i=1)∧∀ p q,p < q→q < i→m.getD p 0≤m.getD q 0) (fun m i=>l.length - i) l 1 ⟨.refl _,Nat.le_refl _,.inr rfl,fun p q h1 h2=>by omega⟩ ?_ ?_
 ·exact Sub.w [] [[(0,0)]]
 rintro m i ⟨hm,hi1,hi2,hs⟩
 have hml:=hm.length_eq
 refine aB ?_
 refine AWP.condD rfl (fun hlt=>?_) (fun hge=>?_)
 ·refine aB ?_
  refine AWP.loop2 (fun(m:List Int) (j:Nat)=>[(0,.hsl 0 0 0 l.length),(1,.sc (.int .i64 (0:Nat))),(2,.sc (.int .i64 (l.length:Int))),(6,.sc (.int .i64 (i:Int))),(7,.sc (.int .i64 (j:Int)))])
   (fun m j=>[[.cells 1 (cA m)]]) (fun m j=>m.Perm l∧j≤i∧wU m i j) (fun m j=>j) m i ⟨hm,Nat.le_refl _,fun p q h1 h2 h3=>hs p q h1 (by omega)⟩ ?_ ?_
  ·exact Sub.w [] [[(0,0)]]
  clear hm hs hml
  rintro m j ⟨hm,hj,hI⟩
  have hml:=hm.length_eq
  by_cases j0:j=0
  ·subst j0
   refine aB ?_
   refine DK.nil ⟨by kernel_rfl,?_⟩
   refine aB ?_
   refine⟨m,i+1,⟨hm,by omega,.inl (by omega),fun p q h1 h2=>wU.done hI (.inl rfl) p q h1 (by omega)⟩,by omega,?_⟩
   exact Sub.w [] [[(0,0)]]
  obtain⟨q,rfl⟩:∃ q,j=q+1:=⟨j - 1,by omega⟩
  have x1:=rS (l:=m) (q:=q+1) (by omega)
  have x2:=rS (l:=m) (q:=q) (by omega)
  have e0:=oU m
  have hles:=JA (m.getD (q+1) 0) (m.getD q 0)
  have c1:decide (0 < q+1)=true:=dTr (by omega)
  refine aB ?_
  refine DK.nil ⟨by kernel_rfl,?_⟩
  refine AWP.condD rfl (fun hless=>?_) (fun hless=>?_)
  ·have x3:((cA m).set (q+1) [.sc (.int .i64 (m.getD q 0))])[q]?=some [.sc (.int .i64 (m.getD q 0))]:=by
    rw[oS,rS (by simp; omega)]
    simp[List.getD]
   have aJ:((cA m).set (q+1) [.sc (.int .i64 (m.getD q 0))]).set q [.sc (.int .i64 (m.getD (q+1) 0))]=cA (rT m q):=by
    rw[oS,oS]
    rfl
   refine aB ?_
   refine DK.nil ⟨by kernel_rfl,?_⟩
   refine aB ?_
   refine⟨rT m q,q,⟨(BE (by omega)).trans hm,by omega,wU.step hI (by omega) hj hless⟩,by omega,?_⟩
   (apply Sub.to [] [[(0,0)]]; all_goals (repeat' (first | exact aO.nil | exact aI.nil | exact bD.nil | exact ToL.nil | exact ToR.nil | refine aO.cons ?_ ?_ | refine aI.cons ?_ ?_ | refine f8 ?_ ?_ | exact To.undef _ | exact To.sc _ | exact To.hslL rfl rfl | exact To.asl _ _ _ _ _ _ rfl | exact To.ptrO rfl rfl rfl | exact To.mrefO rfl | exact To.nil rfl rfl rfl | exact wt1 | exact To.nilL | refine To.int ?_ | refine To.bool ?_ | refine To.hslL rfl ?_ | refine wt2 rfl ?_ ?_ ?_ | refine To.tupL ?_ | refine To.aggL ?_ | refine To.cptrL ?_ | refine To.fzp rfl rfl rfl ?_ | refine To.fzm rfl rfl ?_ | refine To.cloL ?_ ?_ | refine wt3 ?_ | refine wt4 ?_ | exact wt5 | refine wt6 ?_ | refine ToB.one ?_ | exact wt7 | ((with_reducible apply ToL.consE); case e9=>rfl) | refine wt8 ?_ | refine ToL.cons ?_ ?_ | exact wt11 | refine wt9 ?_ ?_ | refine wt12 ?_ | (with_reducible rfl) | assumption)); all_goals (first | rfl | assumption | (simp; done) | (simp; omega) | (rw[wrap_small (by omega) (by omega)]; done) | (rw[wrap_small (by omega) (by omega)]; omega) | (refine congrArg Nat.cast ?_; assumption) | skip))
  ·refine aB ?_
   refine⟨m,i+1,⟨hm,by omega,.inl (by omega),fun p r h1 h2=>wU.done hI (.inr hless) p r h1 (by omega)⟩,by omega,?_⟩
   exact Sub.w [] [[(0,0)]]
 ·refine aB ?_
  refine zM (res':=.tup []) [[(0,0)]] (.inl rfl) rfl ⟨m,hm,fun p q h1 h2=>hs p q h1 (by omega),rfl⟩ ?_ ?_ rfl rfl rfl
  (all_goals exact bO)
theorem J4:aF Tryz.prog 176 [.sc (.int .u64 0)] (.sc (.int .i64 0)):=by
 refine aF.mkI hV (nlB rfl) ?_
 refine aB ?_
 exact fM.w
theorem J8:aF Tryz.prog 176 [.sc (.int .u64 1)] (.sc (.int .i64 1)):=by
 refine aF.mkI hV (nlB rfl) ?_
 refine aB ?_
 exact fM.w
theorem JL:aF Tryz.prog 176 [.sc (.int .u64 2)] (.sc (.int .i64 2)):=by
 refine aF.mkI hV (nlB rfl) ?_
 refine aB ?_
 exact fM.w
theorem JN:aF Tryz.prog 176 [.sc (.int .u64 3)] (.sc (.int .i64 2)):=by
 refine aF.mkI hV (nlB rfl) ?_
 refine aB ?_
 exact fM.w
theorem JE:aF Tryz.prog 176 [.sc (.int .u64 4)] (.sc (.int .i64 3)):=by
 refine aF.mkI hV (nlB rfl) ?_
 refine aB ?_
 exact fM.w
theorem KP:aF Tryz.prog 176 [.sc (.int .u64 5)] (.sc (.int .i64 3)):=by
 refine aF.mkI hV (nlB rfl) ?_
 refine aB ?_
 exact fM.w
theorem KO:aF Tryz.prog 176 [.sc (.int .u64 6)] (.sc (.int .i64 3)):=by
 refine aF.mkI hV (nlB rfl) ?_
 refine aB ?_
 exact fM.w
theorem JI:aF Tryz.prog 176 [.sc (.int .u64 7)] (.sc (.int .i64 3)):=by
 refine aF.mkI hV (nlB rfl) ?_
 refine aB ?_
 exact fM.w
theorem J9:aF Tryz.prog 176 [.sc (.int .u64 8)] (.sc (.int .i64 4)):=by
 refine aF.mkI hV (nlB rfl) ?_
 refine aB ?_
 exact fM.w
theorem KE:aF Tryz.prog 176 [.sc (.int .u64 9)] (.sc (.int .i64 4)):=by
 refine aF.mkI hV (nlB rfl) ?_
 refine aB ?_
 exact fM.w
theorem IV:aF Tryz.prog 176 [.sc (.int .u64 10)] (.sc (.int .i64 4)):=by
 refine aF.mkI hV (nlB rfl) ?_
 refine aB ?_
 exact fM.w
theorem FJ:aF Tryz.prog 176 [.sc (.int .u64 11)] (.sc (.int .i64 4)):=by
 refine aF.mkI hV (nlB rfl) ?_
 refine aB ?_
 exact fM.w
theorem FH:aF Tryz.prog 176 [.sc (.int .u64 12)] (.sc (.int .i64 4)):=by
 refine aF.mkI hV (nlB rfl) ?_
 refine aB ?_
 exact fM.w
theorem FP (x:Nat) (h:x≤12):∃ n:Int,aF Tryz.prog 176 [.sc (.int .u64 (x:Int))] (.sc (.int .i64 n)):=by
 match x,h with
 | 0,_=>exact⟨_,J4⟩
 | 1,_=>exact⟨_,J8⟩
 | 2,_=>exact⟨_,JL⟩
 | 3,_=>exact⟨_,JN⟩
 | 4,_=>exact⟨_,JE⟩
 | 5,_=>exact⟨_,KP⟩
 | 6,_=>exact⟨_,KO⟩
 | 7,_=>exact⟨_,JI⟩
 | 8,_=>exact⟨_,J9⟩
 | 9,_=>exact⟨_,KE⟩
 | 10,_=>exact⟨_,IV⟩
 | 11,_=>exact⟨_,FJ⟩
 | 12,_=>exact⟨_,FH⟩
theorem MR (x:Nat) (h:x≤12):∃ n:Int,aF Tryz.prog 143 [.sc (.int .u64 (x:Int))] (.sc (.int .i64 n)):=by
 obtain⟨n,hn⟩:=FP x h
 refine⟨n,?_⟩
 refine aF.mkI LO (nlB rfl) ?_
 refine aB ?_
 exact fM.w
theorem L6 (l:List Int) (hl:l.length≤12) (n:Int):aD Tryz.prog 142 [.hsl 0 0 0 l.length,.sc (.int .i64 (0:Nat)),.sc (.int .i64 (l.length:Int)),.sc (.int .i64 n)] [[.cells 1 (cA l)]] fun _ H'=>
  ∃ m:List Int,m.Perm l∧(∀ p q,p < q→q < m.length→m.getD p 0≤m.getD q 0)∧H'=[[.cells 1 (cA m)]]:=by
 refine aD.of LQ ?_ (nlB rfl)
 have hi:=wK l (by omega)
 refine aB ?_
 refine AWP.loop (fun(_:Unit)=>[(0,.hsl 0 0 0 l.length),(1,.sc (.int .i64 (0:Nat))),(2,.sc (.int .i64 (l.length:Int))),(3,.sc (.int .i64 n))]) (fun _=>[[.cells 1 (cA l)]]) (fun _=>True) (fun _=>0) () trivial ?_ ?_
 ·exact Sub.w [] [[(0,0)]]
 intro _ _
 refine aB ?_
 rw[dTr (show l.length - 0≤12 by omega)]
 refine aB ?_
 refine Reg.c (Nat.le_refl _) rfl (hi.mono ?_)
 rintro res H' ⟨m,h1,h2,rfl⟩
 refine aB ?_
 refine zM (res':=.tup []) [[(0,0)]] (.inr rfl) rfl ⟨m,h1,h2,rfl⟩ ?_ ?_ rfl rfl rfl
 (all_goals exact bO)
theorem I8 (l:List Int) (hl:l.length≤12):aD Tryz.prog 96 [.hsl 0 0 0 l.length] [[.cells 1 (cA l)]] fun _ H'=>
  ∃ m:List Int,m.Perm l∧(∀ p q,p < q→q < m.length→m.getD p 0≤m.getD q 0)∧H'=[[.cells 1 (cA m)]]:=by
 refine aD.of cF96 ?_ (nlB rfl)
 obtain⟨n,hn⟩:=MR l.length hl
 have hp:=L6 l hl n
 refine aB ?_
 refine Reg.c (Nat.le_refl _) rfl (hp.mono ?_)
 rintro res H' ⟨m,h1,h2,rfl⟩
 refine aB ?_
 refine zM (res':=.tup []) [[(0,0)]] (.inl rfl) rfl ⟨m,h1,h2,rfl⟩ ?_ ?_ rfl rfl rfl
 (all_goals exact bO)
theorem AA (es:List (Int×AV)) (hp:∀ x∈es,aX x.2) (hn:es.length≤1000000):
  aD Tryz.prog 125 [.clo (.func 139) [] [.cptr [.tmap (g7 es)]]] [] fun res H'=>∃ ks:List Int,ks.Perm (es.map (·.1))∧res=.hsl 0 0 0 ks.length∧H'=[[.cells 1 (cA ks)]]:=by
 refine aD.of KZ ?_ (nlB rfl)
 refine aB ?_
 refine Reg.c (Nat.zero_le _) rfl ((wG es hp hn).mono ?_)
 rintro res H' ⟨ks,h1,rfl,rfl⟩
 refine aB ?_
 refine zM (res':=.hsl 0 0 0 ks.length) [[(0,0)]] (.inr rfl) rfl ⟨ks,h1,rfl,rfl⟩ ?_ ?_ rfl rfl rfl
 (all_goals exact bO)
def kG (l:List Int):List Int:=l.mergeSort (fun a b=>decide (a≤b))
theorem vJ {l m:List Int} (h:m.Perm l) (hs:∀ p q,p < q→q < m.length→m.getD p 0≤m.getD q 0):m=kG l:=by
 have tr:∀ a b c:Int,decide (a≤b)=true→decide (b≤c)=true→decide (a≤c)=true:=fun a b c h1 h2=>by simp only[decide_eq_true_eq] at *; omega
 have to:∀ a b:Int,(decide (a≤b) || decide (b≤a))=true:=fun a b=>by simp only[Bool.or_eq_true,decide_eq_true_eq]; omega
 have hp:m.Pairwise (fun a b=>decide (a≤b)=true):=List.pairwise_iff_getElem.2 fun p q h1 h2 h3=>by
  have:=hs p q h3 h2
  simp only[List.getD_eq_getElem?_getD,gEg h1,gEg h2,Option.getD_some] at this
  exact dTr this
 refine List.Perm.eq_of_pairwise (le:=fun a b=>decide (a≤b)=true) (fun a b _ _ h1 h2=>?_) hp (List.pairwise_mergeSort tr to l) (h.trans (List.mergeSort_perm l _).symm)
 simp only[decide_eq_true_eq] at h1 h2
 omega
theorem AK {l m:List Int} (h:l.Perm m):kG l=kG m:=by
 have h1:=List.mergeSort_perm l (fun a b=>decide (a≤b))
 have tr:∀ a b c:Int,decide (a≤b)=true→decide (b≤c)=true→decide (a≤c)=true:=fun a b c h1 h2=>by simp only[decide_eq_true_eq] at *; omega
 have to:∀ a b:Int,(decide (a≤b) || decide (b≤a))=true:=fun a b=>by simp only[Bool.or_eq_true,decide_eq_true_eq]; omega
 refine List.Perm.eq_of_pairwise (le:=fun a b=>decide (a≤b)=true) (fun a b _ _ h1 h2=>?_) (List.pairwise_mergeSort tr to l) (List.pairwise_mergeSort tr to m) ((h1.trans h).trans (List.mergeSort_perm m _).symm)
 simp only[decide_eq_true_eq] at h1 h2
 omega
def intsV (l:List Int):AV:=.list 1 (cA l)
instance (l:List Int):PV (intsV l):=⟨.list _ _ (prs _)⟩
theorem E5 (es:List (Int×AV)) (hp:∀ x∈es,aX x.2) (hn:es.length≤12):aD Tryz.prog 91 [.clo (.func 139) [] [.cptr [.tmap (g7 es)]]] [] fun res H'=>res=.hsl 0 0 0 es.length∧H'=[[.cells 1 (cA (kG (es.map (·.1))))]]:=by
 refine aD.of cF91 ?_ (nlB rfl)
 refine aB ?_
 refine Reg.c (Nat.zero_le _) rfl ((AA es hp (by omega)).mono ?_)
 rintro res H' ⟨ks,h1,rfl,rfl⟩
 have hl:=h1.length_eq
 rw[List.length_map] at hl
 refine aB ?_
 refine Reg.c (Nat.zero_le _) rfl ((I8 ks (by omega)).mono ?_)
 rintro res H' ⟨m,h2,h3,rfl⟩
 have hml:=h2.length_eq
 rw[vJ h2 h3,AK h1,hl]
 refine aB ?_
 exact endW [[(0,0)]] (⟨rfl,rfl⟩)
theorem u9 {H:Heap} {g i g' i':Nat} (es:List (Int×AV)) (h1:hget H g i=some (.cells 1 [[.mref g' i']])) (h2:hget H g' i'=some (.map (g7 es))) (hn:es.length≤12):
  aD Tryz.prog 91 [.clo (.func 139) [] [.ptr g i 0 0]] H fun res H'=>res=.hsl H.length 0 0 es.length∧H'=H++[[.cells 1 (cA (kG (es.map (·.1))))]]:=by
 have e1:(es.map fun p=>(p.1,AV.undef)).map (·.1)=es.map (·.1):=by rw[List.map_map]; rfl
 have e2:(es.map fun p=>(p.1,AV.undef)).length=es.length:=by simp
 have hs:=E5 (es.map fun p=>(p.1,AV.undef)) (fun x hx=>by obtain⟨y,_,rfl⟩:=List.mem_map.1 hx; exact .undef) (by rw[e2]; exact hn)
 rw[e1,e2] at hs
 have h1':hget (H++gh []) g i=some (.cells 1 [[.mref g' i']]):=by rw[show H++gh []=H from List.append_nil H]; exact h1
 have h2':hget (H++gh []) g' i'=some (.map (g7 es)):=by rw[show H++gh []=H from List.append_nil H]; exact h2
 refine aD.viewL (fun r hr c hc=>?_) hs (ToL.cons (To.cloL trivial (ToL.cons (To.fzp h1' rfl rfl (To.cptrL (ToL.cons (To.fzm h2' rfl (.tmap _ _ ?_ (fun j x y a b=>?_) fun j x y a b=>?_)) ToL.nil))) ToL.nil)) ToL.nil)
 ·obtain⟨n,_,rfl⟩:=List.mem_map.1 hr
  exact⟨_,List.mem_singleton.1 hc⟩
 ·simp[g7]
 ·unfold g7 at a b
  rw[List.getElem?_map] at a
  rw[List.map_map,List.getElem?_map] at b
  cases hq:es[j]? with
  | none=>rw[hq] at a; cases a
  | some p=>
   rw[hq] at a b
   simp only[Option.map_some,oIn] at a b
   subst a; subst b
   rfl
 ·unfold g7 at b
  rw[List.map_map,List.getElem?_map] at b
  cases hq:es[j]? with
  | none=>rw[hq] at b; cases b
  | some p=>
   rw[hq] at b
   simp only[Option.map_some,oIn] at b
   subst b
   exact .undef _
def E6 (x:Int):List Int→List Int
 | []=>[x]
 | y::l=>match ltK y x with
  | true=>y::E6 x l
  | false=>x::y::l
def isK:List Int→List Int
 | []=>[]
 | x::l=>E6 x (isK l)
theorem oG (x:Int):∀ l,(E6 x l).Perm (x::l)
 | []=>.refl _
 | y::l=>by
  unfold E6
  split
  ·exact((oG x l).cons y).trans (.swap x y l)
  ·exact .refl _
theorem x4:∀ l,(isK l).Perm l
 | []=>.refl _
 | x::l=>(oG x _).trans ((x4 l).cons x)
theorem C6 (a b:Int):ltK a b=true↔a < b:=by rw[GV,decide_eq_true_eq]
theorem pO (x:Int):∀ l:List Int,l.Pairwise (·≤·)→(E6 x l).Pairwise (·≤·)
 | [],_=>List.pairwise_singleton _ _
 | y::l,h=>by
  obtain⟨h1,h2⟩:=List.pairwise_cons.1 h
  unfold E6
  split
  ·rename_i e
   have e:=(C6 y x).1 e
   refine List.pairwise_cons.2 ⟨fun z hz=>?_,pO x l h2⟩
   rcases List.mem_cons.1 ((oG x l).subset hz) with rfl | hz
   ·omega
   ·exact h1 z hz
  ·rename_i e
   have e:¬ y < x:=fun h=>by rw[(C6 y x).2 h] at e; cases e
   refine List.pairwise_cons.2 ⟨fun z hz=>?_,h⟩
   rcases List.mem_cons.1 hz with rfl | hz
   ·omega
   ·have:=h1 z hz; omega
theorem rP:∀ l:List Int,(isK l).Pairwise (·≤·)
 | []=>.nil
 | x::l=>pO x _ (rP l)
theorem MJ (l:List Int):isK l=kG l:=by
 refine vJ (x4 l) fun p q h1 h2=>?_
 have:=List.pairwise_iff_getElem.1 (rP l) p q (by omega) h2 h1
 simp only[List.getD_eq_getElem?_getD,gEg h2,gEg (show p < (isK l).length by omega),Option.getD_some]
 exact this
def DE:List (Value×AV)→Option (List (Int×AV))
 | []=>some []
 | (.int .i64 n,a)::r=>match DE r with
  | some l=>some ((n,a)::l)
  | none=>none
 | _::_=>none
theorem yS:∀(es:List (Value×AV)) (l:List (Int×AV)),DE es=some l→es=g7 l
 | [],l,h=>by injection h with h; subst h; rfl
 | (k,a)::r,l,h=>by
  unfold DE at h
  split at h
  ·rename_i e
   cases e
  ·rename_i n a' r' e
   injection e with e1 e2
   injection e1 with e3 e4
   subst e2; subst e3; subst e4
   split at h
   ·rename_i l' e
    injection h with h
    subst h
    rw[yS _ _ e]
    rfl
   ·cases h
  ·cases h
def IS (args:List AV) (H:Heap):Option (AV×Heap):=
 match args with
 | [.clo (.func 139) [] [.ptr g i 0 0]]=>match hget H g i with
  | some (.cells 1 [[.mref g' i']])=>match hget H g' i' with
   | some (.map es)=>match DE es with
    | some l=>match Nat.ble l.length 12 with
     | true=>some (.hsl H.length 0 0 l.length,H++[[.cells 1 (cA (isK (l.map (·.1))))]])
     | false=>none
    | none=>none
   | _=>none
  | _=>none
 | _=>none
theorem HC (args:List AV) (H:Heap) (v:AV) (H':Heap) (h:IS args H=some (v,H')):aD Tryz.prog 91 args H fun r H2=>r=v∧H2=H':=by
 unfold IS at h
 split at h
 ·split at h
  ·rename_i g i g' i' h1
   split at h
   ·rename_i es h2
    split at h
    ·rename_i l h3
     split at h
     ·rename_i h4
      simp only[oIn,pIn] at h
      obtain⟨rfl,rfl⟩:=h
      rw[yS _ _ h3] at h2
      rw[MJ]
      exact u9 l h1 h2 (nlB h4)
     ·cases h
    ·cases h
   ·cases h
  ·cases h
 ·cases h
def sumW:Caller:=fun f args H=>
 match Nat.beq f 91 with
 | true=>IS args H
 | false=>none
theorem JO:HW Tryz.prog sumW:=by
 intro f args H v H' h
 unfold sumW at h
 split at h
 ·rename_i e
  have:=Nat.eq_of_beq_eq_true e
  subst this
  exact HC args H v H' h
 ·cases h
set_option maxRecDepth 1000000
set_option maxHeartbeats 0
noncomputable def tabC:List (Nat×IFun):=[(13,F13),(14,F14),(18,F18),(21,F21),(22,F22),(23,F23),(24,F24),(25,F25),(26,F26),(27,F27),(29,F29),(41,F41),(49,F49),(50,F50),(51,F51),(55,F55),(56,F56),(60,F60),(62,F62),(63,F63),(64,F64),(71,F71),(72,F72),(73,F73),(74,F74),(75,F75),(76,F76),(77,F77),(78,F78),(79,F79),(80,F80),(81,F81),(82,F82),(83,F83),(84,F84),(85,F85),(86,F86),(87,F87),(88,F88),(89,F89),(90,F90),(91,F91),(92,F92),(93,F93),(94,F94),(96,F96),(99,F99),(102,F102),(116,F116),(117,F117),(119,F119),(120,F120),(124,F124),(125,F125),(126,F126),(132,F132),(133,F133),(134,F134),(135,F135),(136,F136),(137,F137),(138,F138),(139,F139),(140,F140),(142,F142),(143,F143),(146,F146),(148,F148),(149,F149),(150,F150),(151,F151),(152,F152),(153,F153),(154,F154),(159,F159),(160,F160),(161,F161),(162,F162),(163,F163),(164,F164),(165,F165),(166,F166),(167,F167),(168,F168),(169,F169),(170,F170),(171,F171),(172,F172),(173,F173),(174,F174),(175,F175),(176,F176),(177,F177),(182,F182),(183,F183),(184,F184),(185,F185),(186,F186),(187,F187),(188,F188),(189,F189),(190,F190),(191,F191),(192,F192),(193,F193),(194,F194),(195,F195),(196,F196),(197,F197),(198,F198),(199,F199),(200,F200),(201,F201),(202,F202),(204,F204),(205,F205),(206,F206),(207,F207),(208,F208),(209,F209),(210,F210),(211,F211),(227,F227)]
theorem KV:HB Tryz.prog tabC:=⟨cF13,cF14,cF18,cF21,cF22,cF23,cF24,cF25,cF26,cF27,cF29,cF41,cF49,cF50,cF51,cF55,cF56,cF60,cF62,cF63,cF64,cF71,cF72,cF73,cF74,cF75,cF76,cF77,cF78,cF79,cF80,cF81,cF82,cF83,cF84,cF85,cF86,cF87,cF88,MW,cF90,cF91,cF92,cF93,cF94,cF96,cF99,LF,LA,K9,LH,LV,cF124,KZ,cF126,cF132,cF133,K0,cF135,cF136,LE,HA,K1,LS,LQ,LO,LJ,cF148,K7,cF150,cF151,cF152,LW,cF154,cF159,cF160,cF161,cF162,cF163,cF164,cF165,LG,cF167,cF168,cF169,cF170,cF171,LU,cF173,cF174,cF175,hV,cF177,cF182,cF183,cF184,cF185,cF186,cF187,cF188,cF189,cF190,cF191,cF192,cF193,cF194,cF195,cF196,cF197,cF198,cF199,cF200,K8,cF202,cF204,cF205,cF206,cF207,cF208,cF209,cF210,cF211,LT,trivial⟩
noncomputable def pzC:List Nat:=[49,50,14,63,21,22,71,133,124,150,151,125,88,126]
noncomputable abbrev rn:bS:=EJ Tryz.prog sumW (KI tabC) pzC 2000 24
set_option maxHeartbeats 0
noncomputable def yes (r:Option (AV×Heap)):Bool:=match r with
 | some (.sc (.bool true),_)=>true
 | _=>false
theorem IL {r:Option (AV×Heap)} (h:yes r=true):∃ H,r=some (.sc (.bool true),H):=by
 unfold yes at h
 split at h
 ·exact⟨_,rfl⟩
 ·cases h
theorem ET:yes (rn.run 13 [] [])=true:=by kernel_rfl
theorem AP:aD Tryz.prog 13 [] [] fun res _=>res=.sc (.bool true):=by
 obtain⟨H,h⟩:=IL ET
 exact((A3 jY JO (BJ KV) 24).1.run 13 [] [] _ _ h).mono fun _ _ h=>h.1
theorem works_ok:aF Tryz.prog 13 [] (.sc (.bool true)):=aF.of (fun _ h=>by cases h) (.sc _) AP
set_option maxRecDepth 100000
noncomputable def F28:IFun:=⟨19,(.seq (.region [⟨some 4,none,.op (.move (.const (.int .i64 0)))⟩]) (.seq (.region [⟨some 8,none,.op (.move (.tmp 0))⟩,⟨some 9,none,.op (.move (.tmp 1))⟩,⟨some 10,none,(.call 89 [(.tmp 8),(.tmp 9)])⟩,⟨some 7,none,.op (.move (.tmp 10))⟩,⟨some 11,none,.op (.extract (.tmp 7) 0)⟩,⟨some 12,none,.op (.extract (.tmp 7) 1)⟩,⟨some 5,none,.op (.move (.tmp 11))⟩,⟨some 6,none,.op (.move (.tmp 12))⟩]) (.seq (.seq (.region [⟨some 13,none,.op (.move (.tmp 6))⟩,⟨some 14,none,.op (.bin .neq 33 (.tmp 13) (.const (.int .i64 0)))⟩]) (.cond (.tmp 14) (.seq (.region [⟨some 4,none,.op (.move (.const (.int .i64 0)))⟩]) .ret) .skip)) (.seq (.region [⟨some 15,none,.op (.move (.tmp 5))⟩,⟨some 16,none,.op (.mop (.nilM nT) [(.tmp 15)])⟩,⟨some 17,none,.op (.fieldAddr 4 (.tmp 16))⟩,⟨some 18,none,.op (.load 1 false (.tmp 17))⟩,⟨some 4,none,.op (.move (.tmp 18))⟩]) .ret)))),[(.tmp 4)]⟩
theorem cF28:aN Tryz.prog 28=some F28:=by kernel_rfl
noncomputable def F30:IFun:=⟨18,(.seq (.region [⟨some 2,none,(.op (.move (.const (.string ⟨#[]⟩))))⟩,⟨some 3,none,.op (.move (.const (.int .i64 0)))⟩]) (.seq (.region [⟨some 7,none,.op (.move (.tmp 0))⟩,⟨some 8,none,.op (.move (.tmp 0))⟩,⟨some 9,none,(.call 25 [(.tmp 8)])⟩,⟨some 10,none,.op (.build [(2,(.int .i64 0))] [(0,(1,(.const (.int .i64 0)))),(1,(1,(.tmp 9)))])⟩,⟨some 11,none,.op (.buildSlice 2 [(2,(.int .i64 0))] 1 [(0,(.tmp 10))])⟩,⟨some 12,none,(.call 55 [(.tmp 7),(.tmp 11)])⟩,⟨some 6,none,.op (.move (.tmp 12))⟩,⟨some 13,none,.op (.extract (.tmp 6) 0)⟩,⟨some 14,none,.op (.extract (.tmp 6) 1)⟩,⟨some 4,none,.op (.move (.tmp 13))⟩,⟨some 5,none,.op (.move (.tmp 14))⟩]) (.seq (.region [⟨some 15,none,.op (.move (.tmp 4))⟩,⟨some 16,none,.op (.xop .bstr [(.tmp 15)])⟩,⟨some 17,none,.op (.move (.tmp 5))⟩,⟨some 2,none,.op (.move (.tmp 16))⟩,⟨some 3,none,.op (.move (.tmp 17))⟩]) .ret))),[(.tmp 2),(.tmp 3)]⟩
theorem cF30:aN Tryz.prog 30=some F30:=by kernel_rfl
set_option maxRecDepth 20000
structure Bk where
 n:Nat
 k:Nat
 dur:Nat→Nat→Nat→Nat
 now:Nat→Nat→Nat→Nat
 lost:Nat→Bool
 fresh:Nat→Bool
 wr:Nat→Nat
 late:List (Nat×Nat×(Nat→Nat))
 fuse:Int
 picks:List Nat
 down:Bool
 fails:Nat
 stores:Nat
def bR (f:Nat→Nat):List AV:=(List.range 64).map fun j=>.sc (.int .u8 (f j:Nat))
def dR (k:Nat) (d:Nat→Nat→Nat):List (List AV):=(List.range k).map fun a=>bR (d a)
def hO (b:Bk) (s:Nat):List AV:=[.hsl 2 s 0 b.k,.hsl 3 s 0 b.k,.sc (.bool (b.lost s)),.sc (.bool (b.fresh s)),.sc (.int .i64 (b.wr s:Nat))]
def disksR (b:Bk):List (List AV):=(List.range b.n).map (hO b)
def byR (l:List Nat):List (List AV):=l.map fun n=>[.sc (.int .u8 (n:Nat))]
def boxB (b:Bk) (lg:Nat):List AV:=
 [.hsl 1 0 0 b.n,.sc (.int .i64 (b.k:Nat)),.hsl lg 0 0 b.late.length,.sc (.int .i64 b.fuse),.list 1 (byR b.picks),.sc (.bool b.down),.sc (.int .i64 (b.fails:Nat)),.sc (.int .i64 (b.stores:Nat))]
def kK (l:List (Nat×Nat×(Nat→Nat))):List (List AV):=l.map fun w=>.sc (.int .i64 (w.1:Nat))::.sc (.int .i64 (w.2.1:Nat))::bR w.2.2
def lateB (b:Bk):Blk:=.cells 66 (kK b.late)
def aE (b:Bk) (lg:Nat) (X:Heap):Heap:=
 [.cells 8 [boxB b lg]]::[.cells 5 (disksR b)]::fam b.n (fun s=>.cells 64 (dR b.k (b.dur s)))::fam b.n (fun s=>.cells 64 (dR b.k (b.now s)))::X
theorem bX (f:Nat→Nat):(bR f).length=64:=by simp[bR]
theorem mH {f:Nat→Nat} {j:Nat} (h:j < 64):(bR f)[j]?=some (.sc (.int .u8 (f j:Nat))):=by simp[bR,h]
theorem fD (f:Nat→Nat):(bR f).all AV.cell1=true:=by
 rw[List.all_eq_true]
 intro c hc
 obtain⟨j,_,rfl⟩:=List.mem_map.1 hc
 rfl
instance (f:Nat→Nat):PR (bR f):=⟨fun c hc=>by
 obtain⟨j,_,rfl⟩:=List.mem_map.1 hc
 exact .sc _⟩
theorem iJ (k:Nat) (d:Nat→Nat→Nat):(dR k d).length=k:=by simp[dR]
theorem oD {k a:Nat} {d:Nat→Nat→Nat} (h:a < k):(dR k d)[a]?=some (bR (d a)):=by simp[dR,h]
instance (k:Nat) (d:Nat→Nat→Nat):PRs (dR k d):=⟨fun r hr=>by
 obtain⟨a,_,rfl⟩:=List.mem_map.1 hr
 exact pr _⟩
theorem FV {k a:Nat} {d:Nat→Nat→Nat} {f:Nat→Nat}:(dR k d).set a (bR f)=dR k fun x=>if x=a then f else d x:=by
 apply List.ext_getElem?
 intro j
 rw[List.getElem?_set]
 by_cases e:a=j
 ·subst e
  rw[if_pos rfl]
  by_cases h:a < k
  ·rw[iJ,if_pos h,oD h,if_pos rfl]
  ·rw[iJ,if_neg h,List.getElem?_eq_none (by rw[iJ]; omega)]
 ·rw[if_neg e]
  by_cases h:j < k
  ·rw[oD h,oD h,if_neg (Ne.symm e)]
  ·rw[List.getElem?_eq_none (by rw[iJ]; omega),List.getElem?_eq_none (by rw[iJ]; omega)]
theorem bV (b:Bk):(disksR b).length=b.n:=by simp[disksR]
theorem bL {b:Bk} {s:Nat} (h:s < b.n):(disksR b)[s]?=some (hO b s):=by simp[disksR,h]
theorem hU (l:List Nat):(byR l).length=l.length:=by simp[byR]
instance (l:List Nat):PRs (byR l):=⟨fun r hr=>by
 obtain⟨a,_,rfl⟩:=List.mem_map.1 hr
 exact fun c hc=>by rw[List.mem_singleton.1 hc]; exact .sc _⟩
theorem oP (l:List (Nat×Nat×(Nat→Nat))):(kK l).length=l.length:=by simp[kK]
instance (l:List (Nat×Nat×(Nat→Nat))):PRs (kK l):=⟨fun r hr=>by
 obtain⟨w,_,rfl⟩:=List.mem_map.1 hr
 intro c hc
 rcases List.mem_cons.1 hc with rfl | hc
 ·exact .sc _
 rcases List.mem_cons.1 hc with rfl | hc
 ·exact .sc _
 exact pr _ c hc⟩
section
variable {T:AV→AV→Prop} {ρ:Nat→Nat→Option (Nat×Nat)}
theorem ToB.boxB {b:Bk} {lg lg':Nat} (r1:ρ 1 0=some (1,0)) (r2:ρ lg' 0=some (lg,0)):ToB T ρ (.cells 8 [boxB b lg]) (.cells 8 [YtgdocflpobncmaaGreat.boxB b lg']):=
 ToB.one (ToL.cons (To.hslL r1 rfl) (ToL.cons (.sc _) (ToL.cons (To.hslL r2 rfl) (ToL.cons (.sc _) (ToL.cons (To.rows rfl (prs _)) (ToL.cons (.sc _) (ToL.cons (.sc _) (ToL.cons (.sc _) ToL.nil))))))))
theorem ToB.disksR {b:Bk} (r2:∀ s,s < b.n→ρ 2 s=some (2,s)) (r3:∀ s,s < b.n→ρ 3 s=some (3,s)):ToB T ρ (.cells 5 (disksR b)) (.cells 5 (YtgdocflpobncmaaGreat.disksR b)):=
 ToB.rowsR (ToR.map fun s hs=>by
  have h:=List.mem_range.1 hs
  exact ToL.cons (To.hslL (r2 s h) rfl) (ToL.cons (To.hslL (r3 s h) rfl) (ToL.cons (.sc _) (ToL.cons (.sc _) (ToL.cons (.sc _) ToL.nil)))))
theorem ToB.lateB (b:Bk):ToB T ρ (lateB b) (YtgdocflpobncmaaGreat.lateB b):=ToB.rows rfl (prs _)
end
def bK (n:Nat) (es:List (List (Nat×Nat))):List FK:=.c [(0,0)]::.c [(1,0)]::.w 2 n []::.w 3 n []::es.map FK.c
theorem uK {T:AV→AV→Prop} {b:Bk} {lg lg':Nat} {X Y:Heap} {es:List (List (Nat×Nat))} {g:Heap} (rl:rho (idK (bK b.n es)) lg' 0=some (lg,0)) (hY:aI (ToB T (rho (idK (bK b.n es)))) (aE b lg X++g) es Y):
  aI (ToB T (rho (idK (bK b.n es)))) (aE b lg X++g) (idK (bK b.n es)) (aE b lg' Y):=by
 refine⟨⟨⟨_,rfl,ToB.boxB rfl rl⟩,trivial⟩,⟨⟨_,rfl,ToB.disksR (fun s hs=>vX rfl hs) fun s hs=>vX rfl hs⟩,trivial⟩,bD.ofFam fun i hi=>⟨_,cD hi,ToB.rows rfl (prs _)⟩,bD.ofFam fun i hi=>⟨_,cD hi,ToB.rows rfl (prs _)⟩,?_⟩
 have e:idK (es.map FK.c)=es:=by
  unfold idK
  rw[List.map_map]
  exact List.map_id _
 show aI _ _ (idK (es.map FK.c)) Y
 rw[e]
 exact hY
theorem Sub.bk {k N:Nat} {fr fr':Fr} {b:Bk} {lg lg':Nat} {X Y:Heap} (szs:List Nat) (es:List (List (Nat×Nat))) (ds:List Nat)
  (h5:aO (ToT (aE b lg X++gh szs) (aE b lg X).length (dF (bK b.n es))) (rho (idK (bK b.n es))) fr fr')
  (hY:aI (ToB (ToT (aE b lg X++gh szs) (aE b lg X).length (dF (bK b.n es))) (rho (idK (bK b.n es)))) (aE b lg X++gh szs) es Y)
  (rl:rho (idK (bK b.n es)) lg' 0=some (lg,0):=by rfl) (hd:fF (aE b lg' Y) ds:=by first | exact trivial | exact⟨rfl,trivial⟩ | exact⟨rfl,rfl,trivial⟩)
  (h1:j9 0 k (bK b.n es) (aE b lg X++gh szs):=by(repeat' (first | exact trivial | exact mM.c _ rfl rfl | exact mM.w _ _ (Nat.le_of_eq (c9 _ _)) | refine⟨?_,?_⟩))) (h3:okK (eA ds 0 (bK b.n es))=true:=by rfl):Sub k N fr (aE b lg X) fr' (aE b lg' Y):=
 Sub.toM szs (bK b.n es) ds h5 (uK rl hY) hd h1 h3
theorem c7 {k:Nat} {rs:List gJ} {fr:Fr} {e:Exit} {R:AV→Heap→Prop} {res res':AV} {b:Bk} {lg:Nat} (lg':Nat) {X:Heap} (Y:Heap) (es:List (List (Nat×Nat))) (ds:List Nat) (hR:R res' (aE b lg' Y))
  (hY:aI (ToB (ToT (aE b lg X++gh []) (aE b lg X).length (dF (bK b.n es))) (rho (idK (bK b.n es)))) (aE b lg X++gh []) es Y)
  (he:e=.normal∨e=.ret:=by first | exact .inr rfl | exact .inl rfl)
  (hres:eF fr (aE b lg X) rs=some res:=by rfl)
  (h5:To (ToT (aE b lg X++gh []) (aE b lg X).length (dF (bK b.n es))) (rho (idK (bK b.n es))) res res':=by(all_goals exact bO))
  (rl:rho (idK (bK b.n es)) lg' 0=some (lg,0):=by rfl) (hd:fF (aE b lg' Y) ds:=by first | exact trivial | exact⟨rfl,trivial⟩ | exact⟨rfl,rfl,trivial⟩)
  (h1:j9 0 k (bK b.n es) (aE b lg X++gh []):=by(repeat' (first | exact trivial | exact mM.c _ rfl rfl | exact mM.w _ _ (Nat.le_of_eq (c9 _ _)) | refine⟨?_,?_⟩))) (h3:okK (eA ds 0 (bK b.n es))=true:=by rfl):
  (e=.normal∨e=.ret)∧∃ res res' H2,eF fr (aE b lg X) rs=some res∧cQ k (aE b lg X) res H2 res'∧R res' H2:=
 endMs (bK b.n es) ds hR he hres h5 (uK rl hY) hd h1 h3
def eE (r0:List AV) (b:Bk) (X:Heap):Heap:=[.cells 8 [r0]]::[.cells 5 (disksR b)]::fam b.n (fun s=>.cells 64 (dR b.k (b.dur s)))::fam b.n (fun s=>.cells 64 (dR b.k (b.now s)))::X
theorem rZ {T:AV→AV→Prop} {b:Bk} {r0:List AV} {lg':Nat} {X Y:Heap} {es:List (List (Nat×Nat))} {g:Heap} (hb:ToL T (rho (idK (bK b.n es))) r0 (boxB b lg')) (hY:aI (ToB T (rho (idK (bK b.n es)))) (eE r0 b X++g) es Y):
  aI (ToB T (rho (idK (bK b.n es)))) (eE r0 b X++g) (idK (bK b.n es)) (aE b lg' Y):=by
 refine⟨⟨⟨_,rfl,ToB.one hb⟩,trivial⟩,⟨⟨_,rfl,ToB.disksR (fun s hs=>vX rfl hs) fun s hs=>vX rfl hs⟩,trivial⟩,bD.ofFam fun i hi=>⟨_,cD hi,ToB.rows rfl (prs _)⟩,bD.ofFam fun i hi=>⟨_,cD hi,ToB.rows rfl (prs _)⟩,?_⟩
 have e:idK (es.map FK.c)=es:=by
  unfold idK
  rw[List.map_map]
  exact List.map_id _
 show aI _ _ (idK (es.map FK.c)) Y
 rw[e]
 exact hY
theorem Sub.bkR {k N:Nat} {fr fr':Fr} {H:Heap} (b:Bk) {r0:List AV} {lg':Nat} {X Y:Heap} (szs:List Nat) (es:List (List (Nat×Nat))) (ds:List Nat) (e0:H=eE r0 b X)
  (hb:ToL (ToT (eE r0 b X++gh szs) (eE r0 b X).length (dF (bK b.n es))) (rho (idK (bK b.n es))) r0 (boxB b lg'))
  (h5:aO (ToT (eE r0 b X++gh szs) (eE r0 b X).length (dF (bK b.n es))) (rho (idK (bK b.n es))) fr fr')
  (hY:aI (ToB (ToT (eE r0 b X++gh szs) (eE r0 b X).length (dF (bK b.n es))) (rho (idK (bK b.n es)))) (eE r0 b X++gh szs) es Y)
  (hd:fF (aE b lg' Y) ds:=by first | exact trivial | exact⟨rfl,trivial⟩ | exact⟨rfl,rfl,trivial⟩)
  (h1:j9 0 k (bK b.n es) (eE r0 b X++gh szs):=by(repeat' (first | exact trivial | exact mM.c _ rfl rfl | exact mM.w _ _ (Nat.le_of_eq (c9 _ _)) | refine⟨?_,?_⟩))) (h3:okK (eA ds 0 (bK b.n es))=true:=by rfl):Sub k N fr H fr' (aE b lg' Y):=by
 subst e0
 exact Sub.toM szs (bK b.n es) ds h5 (rZ hb hY) hd h1 h3
theorem qX {k:Nat} {rs:List gJ} {fr:Fr} {e:Exit} {R:AV→Heap→Prop} {res res':AV} {H:Heap} (b:Bk) {r0:List AV} (lg':Nat) {X:Heap} (Y:Heap) (szs:List Nat) (es:List (List (Nat×Nat))) (ds:List Nat) (e0:H=eE r0 b X) (hR:R res' (aE b lg' Y))
  (hb:ToL (ToT (eE r0 b X++gh szs) (eE r0 b X).length (dF (bK b.n es))) (rho (idK (bK b.n es))) r0 (boxB b lg'))
  (hY:aI (ToB (ToT (eE r0 b X++gh szs) (eE r0 b X).length (dF (bK b.n es))) (rho (idK (bK b.n es)))) (eE r0 b X++gh szs) es Y)
  (he:e=.normal∨e=.ret:=by first | exact .inr rfl | exact .inl rfl)
  (hres:eF fr H rs=some res:=by rfl)
  (h5:To (ToT (eE r0 b X++gh szs) (eE r0 b X).length (dF (bK b.n es))) (rho (idK (bK b.n es))) res res':=by(all_goals exact bO))
  (hd:fF (aE b lg' Y) ds:=by first | exact trivial | exact⟨rfl,trivial⟩ | exact⟨rfl,rfl,trivial⟩)
  (h1:j9 0 k (bK b.n es) (eE r0 b X++gh szs):=by(repeat' (first | exact trivial | exact mM.c _ rfl rfl | exact mM.w _ _ (Nat.le_of_eq (c9 _ _)) | refine⟨?_,?_⟩))) (h3:okK (eA ds 0 (bK b.n es))=true:=by rfl):
  (e=.normal∨e=.ret)∧∃ res res' H2,eF fr H rs=some res∧cQ k H res H2 res'∧R res' H2:=by
 subst e0
 exact⟨he,res,res',_,hres,cQ.toM szs (bK b.n es) ds h5 (rZ hb hY) hd h1 h3,hR⟩
theorem cZ {k:Nat} {rs:List gJ} {fr:Fr} {H:Heap} {e:Exit} {R:AV→Heap→Prop} {res:AV} (hR:R res H) (he:e=.normal∨e=.ret:=by first | exact .inr rfl | exact .inl rfl) (hres:eF fr H rs=some res:=by rfl):
  (e=.normal∨e=.ret)∧∃ res res' H2,eF fr H rs=some res∧cQ k H res H2 res'∧R res' H2:=⟨he,_,_,H,hres,cQ.refl _ _ _,hR⟩
variable {b:Bk} {lg:Nat} {X:Heap}
theorem sO:hget (aE b lg X) 1 0=some (.cells 5 (disksR b)):=rfl
theorem A6 {s:Nat} (h:s < b.n):hget (aE b lg X) 2 s=some (.cells 64 (dR b.k (b.dur s))):=cD h
theorem AE {s:Nat} (h:s < b.n):hget (aE b lg X) 3 s=some (.cells 64 (dR b.k (b.now s))):=cD h
theorem uW (h0:0 < b.n):aD Tryz.prog 74 [.ptr 0 0 0 0] (aE b lg X) fun res H'=>res=.sc (.bool true)∧H'=aE b lg X:=by
 refine aD.of cF74 ?_ (nlB rfl)
 refine aB ?_
 rw[show decide ((b.n:Nat) > 0)=true from dTr h0]
 refine aB ?_
 exact cZ ⟨rfl,rfl⟩
theorem DS (h0:0 < b.n) (s:Int) (hs:s < 0∨(b.n:Int)≤s):aD Tryz.prog 89 [.ptr 0 0 0 0,.sc (.int .i64 s)] (aE b lg X) fun res H'=>res=.tup [.sc (.pointer none),.sc (.int .i64 3)]∧H'=aE b lg X:=by
 refine aD.of MW ?_ (nlB rfl)
 refine aB ?_
 refine Reg.c (Nat.le_refl _) rfl ((uW h0).mono ?_); rintro res H' ⟨rfl,rfl⟩; try (refine aB ?_)
 by_cases h:s < 0
 ·rw[dTr h]
  refine aB ?_
  exact cZ ⟨rfl,rfl⟩
 ·rw[dFa h]
  refine aB ?_
  rw[dTr (show s≥(b.n:Int) by omega)]
  refine aB ?_
  exact cZ ⟨rfl,rfl⟩
theorem oF (h0:0 < b.n) {s:Nat} (hs:s < b.n):aD Tryz.prog 89 [.ptr 0 0 0 0,.sc (.int .i64 (s:Int))] (aE b lg X) fun res H'=>res=.tup [.ptr 1 0 s 0,.sc (.int .i64 0)]∧H'=aE b lg X:=by
 refine aD.of MW ?_ (nlB rfl)
 refine aB ?_
 refine Reg.c (Nat.le_refl _) rfl ((uW h0).mono ?_); rintro res H' ⟨rfl,rfl⟩; try (refine aB ?_)
 rw[dFa (show¬ b.n≤s by omega)]
 refine aB ?_
 refine Reg.o rfl (bH rfl rfl sO hs (by rw[bV])) ?_
 refine aB ?_
 exact cZ ⟨rfl,rfl⟩
def hN (b:Bk) (s:Int):Bool:=decide (0≤s∧s < b.n) && (!b.lost s.toNat && !b.fresh s.toNat)
theorem dk0 {b:Bk} {s:Nat}:(hO b s)[0]?=some (.hsl 2 s 0 b.k):=rfl
theorem dk1 {b:Bk} {s:Nat}:(hO b s)[1]?=some (.hsl 3 s 0 b.k):=rfl
theorem dk2 {b:Bk} {s:Nat}:(hO b s)[2]?=some (.sc (.bool (b.lost s))):=rfl
theorem dk3 {b:Bk} {s:Nat}:(hO b s)[3]?=some (.sc (.bool (b.fresh s))):=rfl
theorem dk4 {b:Bk} {s:Nat}:(hO b s)[4]?=some (.sc (.int .i64 (b.wr s:Nat))):=rfl
theorem qN (h0:0 < b.n) (s:Int):aD Tryz.prog 41 [.ptr 0 0 0 0,.sc (.int .i64 s)] (aE b lg X) fun res H'=>res=.sc (.bool (hN b s))∧H'=aE b lg X:=by
 refine aD.of cF41 ?_ (nlB rfl)
 unfold hN
 refine aB ?_
 by_cases hs:s < 0∨(b.n:Int)≤s
 ·rw[dFa (by omega)]
  refine Reg.c (Nat.le_refl _) rfl ((DS h0 s hs).mono ?_); rintro res H' ⟨rfl,rfl⟩; try (refine aB ?_)
  exact cZ ⟨rfl,rfl⟩
 ·obtain⟨q,rfl⟩:∃ q:Nat,s=(q:Int):=⟨s.toNat,by omega⟩
  have hq:q < b.n:=by omega
  rw[dTr (by omega),show((q:Int)).toNat=q from rfl]
  refine Reg.c (Nat.le_refl _) rfl ((oF h0 hq).mono ?_); rintro res H' ⟨rfl,rfl⟩; try (refine aB ?_)
  refine Reg.o rfl (bF rfl sO (bL hq) dk2) ?_
  refine aB ?_
  cases hl:b.lost q with
  | true=>
   refine aB ?_
   exact cZ ⟨rfl,rfl⟩
  | false=>
   refine aB ?_
   refine Reg.o rfl (bF rfl sO (bL hq) dk3) ?_
   refine aB ?_
   exact cZ ⟨rfl,rfl⟩
theorem fL (h0:0 < b.n):aD Tryz.prog 62 [.ptr 0 0 0 0] (aE b lg X) fun res H'=>res=.sc (.int .i64 (b.n:Int))∧H'=aE b lg X:=by
 refine aD.of cF62 ?_ (nlB rfl)
 refine aB ?_
 refine Reg.c (Nat.le_refl _) rfl ((uW h0).mono ?_); rintro res H' ⟨rfl,rfl⟩; try (refine aB ?_)
 exact cZ ⟨rfl,rfl⟩
theorem DJ (h0:0 < b.n):aD Tryz.prog 227 [.ptr 0 0 0 0] (aE b lg X) fun res H'=>res=.sc (.int .i64 (b.k:Int))∧H'=aE b lg X:=by
 refine aD.of LT ?_ (nlB rfl)
 refine aB ?_
 refine Reg.c (Nat.le_refl _) rfl ((uW h0).mono ?_); rintro res H' ⟨rfl,rfl⟩; try (refine aB ?_)
 exact cZ ⟨rfl,rfl⟩
theorem oN (h0:0 < b.n) {s:Nat} (hs:s < b.n):aD Tryz.prog 28 [.ptr 0 0 0 0,.sc (.int .i64 (s:Int))] (aE b lg X) fun res H'=>res=.sc (.int .i64 (b.wr s:Nat))∧H'=aE b lg X:=by
 refine aD.of cF28 ?_ (nlB rfl)
 refine aB ?_
 refine Reg.c (Nat.le_refl _) rfl ((oF h0 hs).mono ?_); rintro res H' ⟨rfl,rfl⟩; try (refine aB ?_)
 refine Reg.o rfl (bF rfl sO (bL hs) dk4) ?_
 refine aB ?_
 exact cZ ⟨rfl,rfl⟩
def aU (b:Bk):Nat:=(b.k - 2) / 2
def aV (b:Bk):Nat:=(b.n - 1) * 64
theorem lZ (h0:0 < b.n) (hn:b.n≤8) (hk:2≤b.k∧b.k≤512):aD Tryz.prog 84 [.ifc 49 (.ptr 0 0 0 0)] (aE b lg X) fun res H'=>res=.tup [.sc (.int .i64 (aU b:Nat)),.sc (.int .i64 (aV b:Nat))]∧H'=aE b lg X:=by
 refine aD.of cF84 ?_ (nlB rfl)
 refine aB ?_
 refine Reg.cv (Nat.le_refl _) rfl rfl ((DJ h0).mono ?_); rintro res H' ⟨rfl,rfl⟩; refine aB ?_
 refine Reg.cv (Nat.le_refl _) rfl rfl ((fL h0).mono ?_); rintro res H' ⟨rfl,rfl⟩; refine aB ?_
 exact cZ ⟨rfl,rfl⟩
def v9 (b:Bk) (m:Nat):Nat:=((List.range m).filter fun s:Nat=>!hN b (s:Int)).length
theorem CP (b:Bk) (m:Nat):v9 b m≤m:=by
 have:=List.length_filter_le (fun s:Nat=>!hN b (s:Int)) (List.range m)
 rw[List.length_range] at this
 exact this
theorem uS (b:Bk) (m:Nat):v9 b (m+1)=v9 b m+if hN b (m:Int)=true then 0 else 1:=by
 unfold v9
 rw[List.range_succ,List.filter_append,List.length_append]
 cases h:hN b (m:Int)<;>simp[h]
theorem NB (h0:0 < b.n) (hn:b.n≤8):aD Tryz.prog 99 [.ifc 49 (.ptr 0 0 0 0)] (aE b lg X) fun res H'=>res=.sc (.int .i64 (v9 b b.n:Nat))∧H'=aE b lg X:=by
 refine aD.of cF99 ?_ (nlB rfl)
 refine aB ?_
 refine Reg.cv (Nat.le_refl _) rfl rfl ((fL h0).mono ?_); rintro res H' ⟨rfl,rfl⟩; refine aB ?_
 refine AWP.loop (fun m:Nat=>[(0,.ifc 49 (.ptr 0 0 0 0)),(6,.sc (.int .i64 (b.n:Int))),(7,.sc (.int .i64 (m:Int))),(3,.sc (.int .i64 (v9 b m:Nat)))]) (fun _=>aE b lg X) (fun m=>m≤b.n) (fun m=>b.n - m) 0 (Nat.zero_le _) ?_ ?_
 ·(refine Sub.keep ?_; repeat' (first | exact trivial | exact Le.refl _ | refine⟨?_,?_⟩))
 rintro m hm
 have hb:=CP b m
 have hs:=uS b m
 refine aB ?_
 refine AWP.condD rfl (fun h=>?_) (fun h=>?_)
 ·refine aB ?_
  refine Reg.cv (Nat.le_refl _) rfl rfl ((qN h0 (m:Int)).mono ?_); rintro res H' ⟨rfl,rfl⟩; refine aB ?_
  cases hg:hN b (m:Int) with
  | true=>
   rw[hg] at hs
   rw[if_pos rfl,Nat.add_zero] at hs
   refine aB ?_
   refine⟨m+1,by omega,by omega,?_⟩
   rw[hs]
   (refine Sub.keep ?_; repeat' (first | exact trivial | exact Le.refl _ | refine⟨?_,?_⟩))
  | false=>
   rw[hg] at hs
   rw[if_neg (by simp)] at hs
   refine aB ?_
   refine⟨m+1,by omega,by omega,?_⟩
   rw[hs]
   (refine Sub.keep ?_; repeat' (first | exact trivial | exact Le.refl _ | refine⟨?_,?_⟩))
 ·obtain rfl:m=b.n:=by omega
  refine aB ?_
  exact cZ ⟨rfl,rfl⟩
end Go.Proofs.YtgdocflpobncmaaGreat
