import Derived.Test.YtgdocflpobncmaaGreatGFiC
import Derived.Test.YtgdocflpobncmaaGreatGAvJ
import Derived.Test.YtgdocflpobncmaaGreatGAvK6
import Derived.KernelRfl
namespace Go.Proofs.YtgdocflpobncmaaGreat
open Go.Av Go.Proofs
set_option maxRecDepth 20000
theorem qR:Tryz.prog.follows .mixedOrders=true:=by kernel_rfl
def bM (l:List Int):List (List AV):=l.map fun n=>[.sc (.int .i64 n)]
theorem n6 (l:List Int):(bM l).length=l.length:=by simp[bM]
instance (l:List Int):PRs (bM l):=⟨fun r hr=>by
 obtain⟨a,_,rfl⟩:=List.mem_map.1 hr
 exact dO (.sc _) dX⟩
def eY (l:List (Int×AV)):List (Value×AV):=l.map fun p=>(.int .i64 p.1,p.2)
theorem gV {l:List (Int×AV)} (h:∀ x∈l,aQ x.2):∀ x∈eY l,aQ x.2:=fun x hx=>by
 obtain⟨y,hy,rfl⟩:=List.mem_map.1 hx
 exact h y hy
set_option maxHeartbeats 4000000 in
theorem zP (es:List (Int×AV)) (hp:∀ x∈es,aQ x.2) (hn:es.length≤1000000) (c:AV) (hc:aQ c) (L:LC) (hL:LOK Tryz.prog 13 L [7] (.region [⟨some 5,none,.op (.move (.tmp 7))⟩]) (.block 1 (.region [⟨some 8,none,.op (.load 1 false (.tmp 2))⟩,⟨some 9,none,.op (.move (.tmp 5))⟩,⟨some 10,none,.op (.buildSlice 1 [(1,(.int .i64 0))] 1 [(0,(.tmp 9))])⟩,⟨some 11,none,.op (.append 1 8 (.tmp 8) (.tmp 10))⟩,⟨none,none,.op (.store 1 (.tmp 2) (.tmp 11))⟩]))):
  aF Tryz.prog 139 [.yld 1 0,.cptr [.tmap (eY es)]] [[.cells 1 [[.sc (.slice none 0 0)]]],[.lp L [(2,.ptr 0 0 0 0),(6,c)] .ready none]] fun _ H'=>
   ∃ ks:List Int,ks.Perm (es.map (·.1))∧H'=[[.cells 1 [[.hsl 2 0 0 ks.length]]],[.lp L [(2,.ptr 0 0 0 0),(6,c)] .ready none],[.cells 1 (bM ks)]]:=by
 refine aF.of wZ ?_ (nlB rfl)
 refine bA ?_
 refine AWP.loop3 (fun(ks:List Int) (cur:Option (Value×AV)) (left:List (Int×AV))=>[(0,.yld 1 0),(5,.ptr 2 0 0 0)])
  (fun ks cur left=>[[.cells 1 [[.hsl 3 0 0 ks.length]]],[.lp L [(2,.ptr 0 0 0 0),(6,c)] .ready none],[.it cur (eY left)],[.cells 1 (bM ks)]])
  (fun ks cur left=>(ks++left.map (·.1)).Perm (es.map (·.1))∧(∀ x∈left,aQ x.2)∧(∀ x,cur=some x→aQ x.2)) (fun ks cur left=>left.length) [] none es ⟨.refl _,hp,fun x h=>by cases h⟩ ?_ ?_
 ·(apply Sub.to [1] [[(0,0)],[(1,0)],[(2,0)],[(3,0)]]; all_goals (repeat' (first | exact aW.nil | exact aM.nil | exact bQ.nil | exact ToL.nil | exact ToR.nil | refine aW.cons ?_ ?_ | refine aM.cons ?_ ?_ | refine fY ?_ ?_ | exact To.undef _ | exact To.sc _ | exact To.hslL rfl rfl | exact To.asl _ _ _ _ _ _ rfl | exact To.ptrO rfl rfl rfl | exact To.mrefO rfl | exact To.nil rfl rfl rfl | exact wt1 | exact To.nilL | refine To.int ?_ | refine To.bool ?_ | refine To.hslL rfl ?_ | refine wt2 rfl ?_ ?_ ?_ | refine To.tupL ?_ | refine To.aggL ?_ | refine To.cptrL ?_ | refine To.fzp rfl rfl rfl ?_ | refine To.fzm rfl rfl ?_ | refine To.cloL ?_ ?_ | refine wt3 ?_ | refine wt4 ?_ | exact wt5 | refine wt6 ?_ | refine ToB.one ?_ | exact wt7 | ((with_reducible apply ToL.consE); case e9=>rfl) | refine wt8 ?_ | refine ToL.cons ?_ ?_ | exact wt11 | refine wt9 ?_ ?_ | refine wt12 ?_ | (with_reducible rfl) | assumption)); all_goals (first | rfl | assumption | (simp; done) | (simp; omega) | (rw[aD (by omega) (by omega)]; done) | (rw[aD (by omega) (by omega)]; omega) | (refine congrArg Nat.cast ?_; assumption) | skip))
  all_goals (first | exact .yld _ _ _ _ rfl | exact ToB.dead _ | exact ToB.it _ _ (gV hp) (fun x h=>by cases h) | (refine ToB.lp _ _ _ _ _ fun x hx=>?_; simp only[List.mem_cons,List.not_mem_nil,or_false] at hx; rcases hx with rfl | rfl; exact To.ptrO rfl rfl rfl; exact To.pure hc))
 rintro ks cur left ⟨hk1,hk2,hk3⟩
 refine AWP.seq ?_
 refine AWP.region ?_
 refine Reg.next rfl rfl rfl (fun h=>?_) (fun l1 y l2 h=>?_)
 ·have hl:left=[]:=List.map_eq_nil_iff.1 h
  subst hl
  rw[List.map_nil,List.append_nil] at hk1
  refine bA ?_
  refine sM (res':=.tup []) [[(0,0)],[(1,0)],[(3,0)]] (.inl rfl) rfl ⟨ks,hk1,rfl⟩ ?_ ?_ rfl rfl rfl
  (all_goals (repeat' (first | exact aW.nil | exact aM.nil | exact bQ.nil | exact ToL.nil | exact ToR.nil | refine aW.cons ?_ ?_ | refine aM.cons ?_ ?_ | refine fY ?_ ?_ | exact To.undef _ | exact To.sc _ | exact To.hslL rfl rfl | exact To.asl _ _ _ _ _ _ rfl | exact To.ptrO rfl rfl rfl | exact To.mrefO rfl | exact To.nil rfl rfl rfl | exact wt1 | exact To.nilL | refine To.int ?_ | refine To.bool ?_ | refine To.hslL rfl ?_ | refine wt2 rfl ?_ ?_ ?_ | refine To.tupL ?_ | refine To.aggL ?_ | refine To.cptrL ?_ | refine To.fzp rfl rfl rfl ?_ | refine To.fzm rfl rfl ?_ | refine To.cloL ?_ ?_ | refine wt3 ?_ | refine wt4 ?_ | exact wt5 | refine wt6 ?_ | refine ToB.one ?_ | exact wt7 | ((with_reducible apply ToL.consE); case e9=>rfl) | refine wt8 ?_ | refine ToL.cons ?_ ?_ | exact wt11 | refine wt9 ?_ ?_ | refine wt12 ?_ | (with_reducible rfl) | assumption)); all_goals (first | rfl | assumption | (simp; done) | (simp; omega) | (rw[aD (by omega) (by omega)]; done) | (rw[aD (by omega) (by omega)]; omega) | (refine congrArg Nat.cast ?_; assumption) | skip))
  all_goals (first | exact .yld _ _ _ _ rfl | exact ToB.dead _ | exact ToB.it _ _ (hk2) (hk3) | (refine ToB.lp _ _ _ _ _ fun x hx=>?_; simp only[List.mem_cons,List.not_mem_nil,or_false] at hx; rcases hx with rfl | rfl; exact To.ptrO rfl rfl rfl; exact To.pure hc))
 ·obtain⟨m1,m2,rfl,e1,e2⟩:=List.map_eq_append_iff.1 h
  obtain⟨x,m3,rfl,e3,e4⟩:=List.map_eq_cons_iff.1 e2
  subst e1; subst e3; subst e4
  have hx:aQ x.2:=hk2 x (by simp)
  have hp2:∀ y∈m1++m3,aQ y.2:=fun y hy=>hk2 y (by rcases List.mem_append.1 hy with h | h<;>simp[h])
  have g2:∀ y:Value×AV,some (Value.int .i64 x.1,x.2)=some y→aQ y.2:=fun y hy=>by injection hy with hy; subst hy; exact hx
  have e0:=n6 ks
  have hkl:ks.length≤1000000:=by
   have:=hk1.length_eq
   rw[List.length_append,List.length_map,List.length_map] at this
   omega
  refine C1 ?_
  refine AWP.seq ?_
  refine AWP.condT rfl ?_
  refine AWP.skip ?_
  refine AWP.block ?_
  refine AWP.seq ?_
  refine AWP.region ?_
  refine C1 ?_
  refine AWP.seq ?_
  refine AWP.rY rfl ?_
  refine bA ?_
  refine⟨rfl,nlB rfl,1,0,rfl,?_⟩
  refine⟨L,_,_,_,_,_,hL,rfl,rfl,?_⟩
  refine bA ?_
  refine⟨rfl,_,rfl,?_⟩
  refine AWP.fin ?_
  refine bA ?_
  refine⟨[],[[.cells 1 [[.hsl 4 0 0 (ks++[x.1]).length]]],[.lp L [(2,.ptr 0 0 0 0),(6,c)] .busy none],[.it (some (.int .i64 x.1,x.2)) (eY (m1++m3))],[.dead],[.cells 1 (bM (ks++[x.1]))]],?_,_,rfl,?_⟩
  ·have hr:bM (ks++[x.1])=bM ks++[[.sc (.int .i64 x.1)]]:=by simp[bM]
   have hl:(ks++[x.1]).length=ks.length+1:=by simp
   have hm:eY (m1++m3)=eY m1++eY m3:=List.map_append
   have g1:∀ y∈eY m1++eY m3,aQ y.2:=by rw[← hm]; exact gV hp2
   rw[hr,hl,hm]
   (apply Sub.to [] [[(0,0)],[(1,0)],[(2,0)],[(3,0)],[(5,0)]]; all_goals (repeat' (first | exact aW.nil | exact aM.nil | exact bQ.nil | exact ToL.nil | exact ToR.nil | refine aW.cons ?_ ?_ | refine aM.cons ?_ ?_ | refine fY ?_ ?_ | exact To.undef _ | exact To.sc _ | exact To.hslL rfl rfl | exact To.asl _ _ _ _ _ _ rfl | exact To.ptrO rfl rfl rfl | exact To.mrefO rfl | exact To.nil rfl rfl rfl | exact wt1 | exact To.nilL | refine To.int ?_ | refine To.bool ?_ | refine To.hslL rfl ?_ | refine wt2 rfl ?_ ?_ ?_ | refine To.tupL ?_ | refine To.aggL ?_ | refine To.cptrL ?_ | refine To.fzp rfl rfl rfl ?_ | refine To.fzm rfl rfl ?_ | refine To.cloL ?_ ?_ | refine wt3 ?_ | refine wt4 ?_ | exact wt5 | refine wt6 ?_ | refine ToB.one ?_ | exact wt7 | ((with_reducible apply ToL.consE); case e9=>rfl) | refine wt8 ?_ | refine ToL.cons ?_ ?_ | exact wt11 | refine wt9 ?_ ?_ | refine wt12 ?_ | (with_reducible rfl) | assumption)); all_goals (first | rfl | assumption | (simp; done) | (simp; omega) | (rw[aD (by omega) (by omega)]; done) | (rw[aD (by omega) (by omega)]; omega) | (refine congrArg Nat.cast ?_; assumption) | skip))
   all_goals (first | exact .yld _ _ _ _ rfl | exact ToB.dead _ | exact ToB.it _ _ (g1) (g2) | (refine ToB.lp _ _ _ _ _ fun x hx=>?_; simp only[List.mem_cons,List.not_mem_nil,or_false] at hx; rcases hx with rfl | rfl; exact To.ptrO rfl rfl rfl; exact To.pure hc))
  show Reg Tryz.prog F139.n _ _ _ _ _
  refine bA ?_
  refine⟨ks++[x.1],some (.int .i64 x.1,x.2),m1++m3,⟨?_,hp2,g2⟩,by simp,?_⟩
  ·refine List.Perm.trans ?_ hk1
   rw[List.map_append,List.map_append,List.map_cons,List.append_assoc]
   refine List.Perm.append_left _ ?_
   show(x.1::(m1.map (·.1)++m3.map (·.1))).Perm _
   exact List.perm_middle.symm
  ·(apply Sub.to [] [[(0,0)],[(1,0)],[(2,0)],[(4,0)]]; all_goals (repeat' (first | exact aW.nil | exact aM.nil | exact bQ.nil | exact ToL.nil | exact ToR.nil | refine aW.cons ?_ ?_ | refine aM.cons ?_ ?_ | refine fY ?_ ?_ | exact To.undef _ | exact To.sc _ | exact To.hslL rfl rfl | exact To.asl _ _ _ _ _ _ rfl | exact To.ptrO rfl rfl rfl | exact To.mrefO rfl | exact To.nil rfl rfl rfl | exact wt1 | exact To.nilL | refine To.int ?_ | refine To.bool ?_ | refine To.hslL rfl ?_ | refine wt2 rfl ?_ ?_ ?_ | refine To.tupL ?_ | refine To.aggL ?_ | refine To.cptrL ?_ | refine To.fzp rfl rfl rfl ?_ | refine To.fzm rfl rfl ?_ | refine To.cloL ?_ ?_ | refine wt3 ?_ | refine wt4 ?_ | exact wt5 | refine wt6 ?_ | refine ToB.one ?_ | exact wt7 | ((with_reducible apply ToL.consE); case e9=>rfl) | refine wt8 ?_ | refine ToL.cons ?_ ?_ | exact wt11 | refine wt9 ?_ ?_ | refine wt12 ?_ | (with_reducible rfl) | assumption)); all_goals (first | rfl | assumption | (simp; done) | (simp; omega) | (rw[aD (by omega) (by omega)]; done) | (rw[aD (by omega) (by omega)]; omega) | (refine congrArg Nat.cast ?_; assumption) | skip))
   all_goals (first | exact .yld _ _ _ _ rfl | exact ToB.dead _ | exact ToB.it _ _ (gV hp2) (g2) | (refine ToB.lp _ _ _ _ _ fun x hx=>?_; simp only[List.mem_cons,List.not_mem_nil,or_false] at hx; rcases hx with rfl | rfl; exact To.ptrO rfl rfl rfl; exact To.pure hc))
theorem pN (es:List (Int×AV)) (hp:∀ x∈es,aQ x.2) (hn:es.length≤1000000):
  aF Tryz.prog 153 [.sc (.slice none 0 0),.clo (.func 139) [] [.cptr [.tmap (eY es)]]] [] fun res H'=>∃ ks:List Int,ks.Perm (es.map (·.1))∧res=.hsl 0 0 0 ks.length∧H'=[[.cells 1 (bM ks)]]:=by
 refine aF.of x9 ?_ (nlB rfl)
 refine bA ?_
 have hc:aQ (.clo (.func 139) [] [.cptr [.tmap (eY es)]]):=.clo _ _ _ (fun _ h=>by cases h) (dO (.cptr _ (dO (.tmap _ (gV hp)) dX)) dX)
 generalize hcc:AV.clo (.func 139) [] [.cptr [.tmap (eY es)]]=c at *
 refine AWP.sub (fr':=[(2,.ptr 0 0 0 0),(6,c)]) (H':=[[.cells 1 [[.sc (.slice none 0 0)]]]]) ?_ ?_
 ·(apply Sub.to [] [[(0,0)]]; all_goals (repeat' (first | exact aW.nil | exact aM.nil | exact bQ.nil | exact ToL.nil | exact ToR.nil | refine aW.cons ?_ ?_ | refine aM.cons ?_ ?_ | refine fY ?_ ?_ | exact To.undef _ | exact To.sc _ | exact To.hslL rfl rfl | exact To.asl _ _ _ _ _ _ rfl | exact To.ptrO rfl rfl rfl | exact To.mrefO rfl | exact To.nil rfl rfl rfl | exact wt1 | exact To.nilL | refine To.int ?_ | refine To.bool ?_ | refine To.hslL rfl ?_ | refine wt2 rfl ?_ ?_ ?_ | refine To.tupL ?_ | refine To.aggL ?_ | refine To.cptrL ?_ | refine To.fzp rfl rfl rfl ?_ | refine To.fzm rfl rfl ?_ | refine To.cloL ?_ ?_ | refine wt3 ?_ | refine wt4 ?_ | exact wt5 | refine wt6 ?_ | refine ToB.one ?_ | exact wt7 | ((with_reducible apply ToL.consE); case e9=>rfl) | refine wt8 ?_ | refine ToL.cons ?_ ?_ | exact wt11 | refine wt9 ?_ ?_ | refine wt12 ?_ | (with_reducible rfl) | assumption)); all_goals (first | rfl | assumption | (simp; done) | (simp; omega) | (rw[aD (by omega) (by omega)]; done) | (rw[aD (by omega) (by omega)]; omega) | (refine congrArg Nat.cast ?_; assumption) | skip))
  all_goals exact To.pure hc
 refine AWP.rangeF (g:=139) (fs:=[]) (cs:=[.cptr [.tmap (eY es)]]) (by rw[← hcc]; rfl) (Nat.zero_le _) rfl fun L hL=>?_
 refine(zP es hp hn c hc L hL).mono ?_
 rintro res H' ⟨ks,hk,rfl⟩
 refine⟨_,_,none,rfl,by decide,?_⟩
 refine bA ?_
 refine sM (res':=.hsl 0 0 0 ks.length) [[(2,0)]] (.inr rfl) rfl ⟨ks,hk,rfl,rfl⟩ ?_ ?_ rfl rfl rfl
 (all_goals (repeat' (first | exact aW.nil | exact aM.nil | exact bQ.nil | exact ToL.nil | exact ToR.nil | refine aW.cons ?_ ?_ | refine aM.cons ?_ ?_ | refine fY ?_ ?_ | exact To.undef _ | exact To.sc _ | exact To.hslL rfl rfl | exact To.asl _ _ _ _ _ _ rfl | exact To.ptrO rfl rfl rfl | exact To.mrefO rfl | exact To.nil rfl rfl rfl | exact wt1 | exact To.nilL | refine To.int ?_ | refine To.bool ?_ | refine To.hslL rfl ?_ | refine wt2 rfl ?_ ?_ ?_ | refine To.tupL ?_ | refine To.aggL ?_ | refine To.cptrL ?_ | refine To.fzp rfl rfl rfl ?_ | refine To.fzm rfl rfl ?_ | refine To.cloL ?_ ?_ | refine wt3 ?_ | refine wt4 ?_ | exact wt5 | refine wt6 ?_ | refine ToB.one ?_ | exact wt7 | ((with_reducible apply ToL.consE); case e9=>rfl) | refine wt8 ?_ | refine ToL.cons ?_ ?_ | exact wt11 | refine wt9 ?_ ?_ | refine wt12 ?_ | (with_reducible rfl) | assumption)); all_goals (first | rfl | assumption | (simp; done) | (simp; omega) | (rw[aD (by omega) (by omega)]; done) | (rw[aD (by omega) (by omega)]; omega) | (refine congrArg Nat.cast ?_; assumption) | skip))
theorem qU (x:Int):aB Tryz.prog 201 [.sc (.int .i64 x)] (.sc (.bool false)):=by
 refine aB.mkI wE (nlB rfl) ?_
 refine bA ?_
 rw[show(x != x)=false by simp]
 exact eN.w
theorem AG (x y:Int):aB Tryz.prog 172 [.sc (.int .i64 x),.sc (.int .i64 y)] (.sc (.bool (decide (x < y)))):=by
 refine aB.mkI yI (nlB rfl) ?_
 have h1:=qU x
 have h2:=qU y
 refine bA ?_
 exact eN.w
def lR (l:List Int) (j:Nat):List Int:=(l.set (j+1) (l.getD j 0)).set j (l.getD (j+1) 0)
theorem sA {l:List Int} {j:Nat} (h:j+1 < l.length):(lR l j).Perm l:=by
 unfold lR
 have e1:l.getD j 0=l[j]:=by simp[List.getD,gEg (show j < l.length by omega)]
 have e2:l.getD (j+1) 0=l[j+1]:=by simp[List.getD,gEg h]
 rw[e1,e2]
 exact List.set_set_perm h (by omega)
theorem oI {l:List Int} {j q:Nat} (h:j+1 < l.length):(lR l j).getD q 0=if q=j then l.getD (j+1) 0 else if q=j+1 then l.getD j 0 else l.getD q 0:=by
 unfold lR
 simp only[List.getD_eq_getElem?_getD,List.getElem?_set,List.length_set]
 by_cases e1:q=j
 ·subst e1
  rw[if_pos rfl,if_pos rfl,if_pos (by omega)]
  rfl
 ·rw[if_neg (fun e=>e1 e.symm),if_neg e1]
  by_cases e2:q=j+1
  ·subst e2
   rw[if_pos rfl,if_pos rfl,if_pos h]
   rfl
  ·rw[if_neg (fun e=>e2 e.symm),if_neg e2]
def oZ (l:List Int) (i j:Nat):Prop:=∀ p q,p < q→q≤i→q≠j→l.getD p 0≤l.getD q 0
theorem oZ.step {l:List Int} {i j:Nat} (h:oZ l i (j+1)) (hi:i < l.length) (hj:j+1≤i) (hlt:l.getD (j+1) 0 < l.getD j 0):oZ (lR l j) i j:=by
 intro p q hpq hq hne
 rw[oI (by omega),oI (by omega),if_neg hne]
 by_cases e2:q=j+1
 ·rw[if_pos e2]
  by_cases e3:p=j
  ·rw[if_pos e3]; omega
  ·rw[if_neg e3,if_neg (by omega)]
   exact h p j (by omega) (by omega) (by omega)
 ·rw[if_neg e2]
  by_cases e3:p=j
  ·rw[if_pos e3]
   exact h (j+1) q (by omega) hq e2
  ·rw[if_neg e3]
   by_cases e4:p=j+1
   ·rw[if_pos e4]
    exact h j q (by omega) hq e2
   ·rw[if_neg e4]
    exact h p q hpq hq e2
theorem oZ.done {l:List Int} {i j:Nat} (h:oZ l i j) (hj:j=0∨¬ l.getD j 0 < l.getD (j - 1) 0):∀ p q,p < q→q≤i→l.getD p 0≤l.getD q 0:=by
 intro p q hpq hq
 by_cases e:q=j
 ·subst e
  rcases hj with hj | hj
  ·omega
  ·by_cases e2:p=q - 1
   ·subst e2; omega
   ·have:=h p (q - 1) (by omega) (by omega) (by omega)
    omega
 ·exact h p q hpq hq e
theorem mS {l:List Int} {q:Nat} (h:q < l.length):(bM l)[q]?=some [.sc (.int .i64 (l.getD q 0))]:=by
 unfold bM
 rw[List.getElem?_map,gEg h]
 simp[List.getD,gEg h]
theorem kJ (l:List Int) (q:Nat) (x:Int):(bM l).set q [.sc (.int .i64 x)]=bM (l.set q x):=by
 unfold bM
 rw[List.map_set]
set_option maxHeartbeats 4000000 in
theorem pI (l:List Int) (hl:l.length≤1000000):aF Tryz.prog 166 [.hsl 0 0 0 l.length,.sc (.int .i64 (0:Nat)),.sc (.int .i64 (l.length:Int))] [[.cells 1 (bM l)]] fun _ H'=>
  ∃ m:List Int,m.Perm l∧(∀ p q,p < q→q < m.length→m.getD p 0≤m.getD q 0)∧H'=[[.cells 1 (bM m)]]:=by
 refine aF.of y2 ?_ (nlB rfl)
 refine bA ?_
 refine AWP.loop2 (fun(m:List Int) (i:Nat)=>[(0,.hsl 0 0 0 l.length),(1,.sc (.int .i64 (0:Nat))),(2,.sc (.int .i64 (l.length:Int))),(6,.sc (.int .i64 (i:Int)))])
  (fun m i=>[[.cells 1 (bM m)]]) (fun m i=>m.Perm l∧1≤i∧(i≤l.length∨i=1)∧∀ p q,p < q→q < i→m.getD p 0≤m.getD q 0) (fun m i=>l.length - i) l 1 ⟨.refl _,Nat.le_refl _,.inr rfl,fun p q h1 h2=>by omega⟩ ?_ ?_
 ·exact Sub.w [] [[(0,0)]]
 rintro m i ⟨hm,hi1,hi2,hs⟩
 have hml:=hm.length_eq
 refine bA ?_
 refine AWP.condD rfl (fun hlt=>?_) (fun hge=>?_)
 ·refine bA ?_
  refine AWP.loop2 (fun(m:List Int) (j:Nat)=>[(0,.hsl 0 0 0 l.length),(1,.sc (.int .i64 (0:Nat))),(2,.sc (.int .i64 (l.length:Int))),(6,.sc (.int .i64 (i:Int))),(7,.sc (.int .i64 (j:Int)))])
   (fun m j=>[[.cells 1 (bM m)]]) (fun m j=>m.Perm l∧j≤i∧oZ m i j) (fun m j=>j) m i ⟨hm,Nat.le_refl _,fun p q h1 h2 h3=>hs p q h1 (by omega)⟩ ?_ ?_
  ·exact Sub.w [] [[(0,0)]]
  clear hm hs hml
  rintro m j ⟨hm,hj,hI⟩
  have hml:=hm.length_eq
  by_cases j0:j=0
  ·subst j0
   refine bA ?_
   refine DK.nil ⟨by kernel_rfl,?_⟩
   refine bA ?_
   refine⟨m,i+1,⟨hm,by omega,.inl (by omega),fun p q h1 h2=>oZ.done hI (.inl rfl) p q h1 (by omega)⟩,by omega,?_⟩
   exact Sub.w [] [[(0,0)]]
  obtain⟨q,rfl⟩:∃ q,j=q+1:=⟨j - 1,by omega⟩
  have x1:=mS (l:=m) (q:=q+1) (by omega)
  have x2:=mS (l:=m) (q:=q) (by omega)
  have e0:=n6 m
  have hles:=AG (m.getD (q+1) 0) (m.getD q 0)
  have c1:decide (0 < q+1)=true:=dTr (by omega)
  refine bA ?_
  refine DK.nil ⟨by kernel_rfl,?_⟩
  refine AWP.condD rfl (fun hless=>?_) (fun hless=>?_)
  ·have x3:((bM m).set (q+1) [.sc (.int .i64 (m.getD q 0))])[q]?=some [.sc (.int .i64 (m.getD q 0))]:=by
    rw[kJ,mS (by simp; omega)]
    simp[List.getD]
   have aH:((bM m).set (q+1) [.sc (.int .i64 (m.getD q 0))]).set q [.sc (.int .i64 (m.getD (q+1) 0))]=bM (lR m q):=by
    rw[kJ,kJ]
    rfl
   refine bA ?_
   refine DK.nil ⟨by kernel_rfl,?_⟩
   refine bA ?_
   refine⟨lR m q,q,⟨(sA (by omega)).trans hm,by omega,oZ.step hI (by omega) hj hless⟩,by omega,?_⟩
   (apply Sub.to [] [[(0,0)]]; all_goals (repeat' (first | exact aW.nil | exact aM.nil | exact bQ.nil | exact ToL.nil | exact ToR.nil | refine aW.cons ?_ ?_ | refine aM.cons ?_ ?_ | refine fY ?_ ?_ | exact To.undef _ | exact To.sc _ | exact To.hslL rfl rfl | exact To.asl _ _ _ _ _ _ rfl | exact To.ptrO rfl rfl rfl | exact To.mrefO rfl | exact To.nil rfl rfl rfl | exact wt1 | exact To.nilL | refine To.int ?_ | refine To.bool ?_ | refine To.hslL rfl ?_ | refine wt2 rfl ?_ ?_ ?_ | refine To.tupL ?_ | refine To.aggL ?_ | refine To.cptrL ?_ | refine To.fzp rfl rfl rfl ?_ | refine To.fzm rfl rfl ?_ | refine To.cloL ?_ ?_ | refine wt3 ?_ | refine wt4 ?_ | exact wt5 | refine wt6 ?_ | refine ToB.one ?_ | exact wt7 | ((with_reducible apply ToL.consE); case e9=>rfl) | refine wt8 ?_ | refine ToL.cons ?_ ?_ | exact wt11 | refine wt9 ?_ ?_ | refine wt12 ?_ | (with_reducible rfl) | assumption)); all_goals (first | rfl | assumption | (simp; done) | (simp; omega) | (rw[aD (by omega) (by omega)]; done) | (rw[aD (by omega) (by omega)]; omega) | (refine congrArg Nat.cast ?_; assumption) | skip))
  ·refine bA ?_
   refine⟨m,i+1,⟨hm,by omega,.inl (by omega),fun p r h1 h2=>oZ.done hI (.inr hless) p r h1 (by omega)⟩,by omega,?_⟩
   exact Sub.w [] [[(0,0)]]
 ·refine bA ?_
  refine sM (res':=.tup []) [[(0,0)]] (.inl rfl) rfl ⟨m,hm,fun p q h1 h2=>hs p q h1 (by omega),rfl⟩ ?_ ?_ rfl rfl rfl
  (all_goals (repeat' (first | exact aW.nil | exact aM.nil | exact bQ.nil | exact ToL.nil | exact ToR.nil | refine aW.cons ?_ ?_ | refine aM.cons ?_ ?_ | refine fY ?_ ?_ | exact To.undef _ | exact To.sc _ | exact To.hslL rfl rfl | exact To.asl _ _ _ _ _ _ rfl | exact To.ptrO rfl rfl rfl | exact To.mrefO rfl | exact To.nil rfl rfl rfl | exact wt1 | exact To.nilL | refine To.int ?_ | refine To.bool ?_ | refine To.hslL rfl ?_ | refine wt2 rfl ?_ ?_ ?_ | refine To.tupL ?_ | refine To.aggL ?_ | refine To.cptrL ?_ | refine To.fzp rfl rfl rfl ?_ | refine To.fzm rfl rfl ?_ | refine To.cloL ?_ ?_ | refine wt3 ?_ | refine wt4 ?_ | exact wt5 | refine wt6 ?_ | refine ToB.one ?_ | exact wt7 | ((with_reducible apply ToL.consE); case e9=>rfl) | refine wt8 ?_ | refine ToL.cons ?_ ?_ | exact wt11 | refine wt9 ?_ ?_ | refine wt12 ?_ | (with_reducible rfl) | assumption)); all_goals (first | rfl | assumption | (simp; done) | (simp; omega) | (rw[aD (by omega) (by omega)]; done) | (rw[aD (by omega) (by omega)]; omega) | (refine congrArg Nat.cast ?_; assumption) | skip))
theorem zU:aB Tryz.prog 176 [.sc (.int .u64 0)] (.sc (.int .i64 0)):=by
 refine aB.mkI eJ (nlB rfl) ?_
 refine bA ?_
 exact eN.w
theorem zW:aB Tryz.prog 176 [.sc (.int .u64 1)] (.sc (.int .i64 1)):=by
 refine aB.mkI eJ (nlB rfl) ?_
 refine bA ?_
 exact eN.w
theorem AK:aB Tryz.prog 176 [.sc (.int .u64 2)] (.sc (.int .i64 2)):=by
 refine aB.mkI eJ (nlB rfl) ?_
 refine bA ?_
 exact eN.w
theorem zV:aB Tryz.prog 176 [.sc (.int .u64 3)] (.sc (.int .i64 2)):=by
 refine aB.mkI eJ (nlB rfl) ?_
 refine bA ?_
 exact eN.w
theorem AS:aB Tryz.prog 176 [.sc (.int .u64 4)] (.sc (.int .i64 3)):=by
 refine aB.mkI eJ (nlB rfl) ?_
 refine bA ?_
 exact eN.w
theorem AF:aB Tryz.prog 176 [.sc (.int .u64 5)] (.sc (.int .i64 3)):=by
 refine aB.mkI eJ (nlB rfl) ?_
 refine bA ?_
 exact eN.w
theorem zQ:aB Tryz.prog 176 [.sc (.int .u64 6)] (.sc (.int .i64 3)):=by
 refine aB.mkI eJ (nlB rfl) ?_
 refine bA ?_
 exact eN.w
theorem zT:aB Tryz.prog 176 [.sc (.int .u64 7)] (.sc (.int .i64 3)):=by
 refine aB.mkI eJ (nlB rfl) ?_
 refine bA ?_
 exact eN.w
theorem AT:aB Tryz.prog 176 [.sc (.int .u64 8)] (.sc (.int .i64 4)):=by
 refine aB.mkI eJ (nlB rfl) ?_
 refine bA ?_
 exact eN.w
theorem AA:aB Tryz.prog 176 [.sc (.int .u64 9)] (.sc (.int .i64 4)):=by
 refine aB.mkI eJ (nlB rfl) ?_
 refine bA ?_
 exact eN.w
theorem wS:aB Tryz.prog 176 [.sc (.int .u64 10)] (.sc (.int .i64 4)):=by
 refine aB.mkI eJ (nlB rfl) ?_
 refine bA ?_
 exact eN.w
theorem yL:aB Tryz.prog 176 [.sc (.int .u64 11)] (.sc (.int .i64 4)):=by
 refine aB.mkI eJ (nlB rfl) ?_
 refine bA ?_
 exact eN.w
theorem w6:aB Tryz.prog 176 [.sc (.int .u64 12)] (.sc (.int .i64 4)):=by
 refine aB.mkI eJ (nlB rfl) ?_
 refine bA ?_
 exact eN.w
theorem zL (x:Nat) (h:x≤12):∃ n:Int,aB Tryz.prog 176 [.sc (.int .u64 (x:Int))] (.sc (.int .i64 n)):=by
 match x,h with
 | 0,_=>exact⟨_,zU⟩
 | 1,_=>exact⟨_,zW⟩
 | 2,_=>exact⟨_,AK⟩
 | 3,_=>exact⟨_,zV⟩
 | 4,_=>exact⟨_,AS⟩
 | 5,_=>exact⟨_,AF⟩
 | 6,_=>exact⟨_,zQ⟩
 | 7,_=>exact⟨_,zT⟩
 | 8,_=>exact⟨_,AT⟩
 | 9,_=>exact⟨_,AA⟩
 | 10,_=>exact⟨_,wS⟩
 | 11,_=>exact⟨_,yL⟩
 | 12,_=>exact⟨_,w6⟩
theorem EH (x:Nat) (h:x≤12):∃ n:Int,aB Tryz.prog 143 [.sc (.int .u64 (x:Int))] (.sc (.int .i64 n)):=by
 obtain⟨n,hn⟩:=zL x h
 refine⟨n,?_⟩
 refine aB.mkI w8 (nlB rfl) ?_
 refine bA ?_
 exact eN.w
theorem EB (l:List Int) (hl:l.length≤12) (n:Int):aF Tryz.prog 142 [.hsl 0 0 0 l.length,.sc (.int .i64 (0:Nat)),.sc (.int .i64 (l.length:Int)),.sc (.int .i64 n)] [[.cells 1 (bM l)]] fun _ H'=>
  ∃ m:List Int,m.Perm l∧(∀ p q,p < q→q < m.length→m.getD p 0≤m.getD q 0)∧H'=[[.cells 1 (bM m)]]:=by
 refine aF.of zH ?_ (nlB rfl)
 have hi:=pI l (by omega)
 refine bA ?_
 refine AWP.loop (fun(_:Unit)=>[(0,.hsl 0 0 0 l.length),(1,.sc (.int .i64 (0:Nat))),(2,.sc (.int .i64 (l.length:Int))),(3,.sc (.int .i64 n))]) (fun _=>[[.cells 1 (bM l)]]) (fun _=>True) (fun _=>0) () trivial ?_ ?_
 ·exact Sub.w [] [[(0,0)]]
 intro _ _
 refine bA ?_
 rw[dTr (show l.length - 0≤12 by omega)]
 refine bA ?_
 refine Reg.c (Nat.le_refl _) rfl (hi.mono ?_)
 rintro res H' ⟨m,h1,h2,rfl⟩
 refine bA ?_
 refine sM (res':=.tup []) [[(0,0)]] (.inr rfl) rfl ⟨m,h1,h2,rfl⟩ ?_ ?_ rfl rfl rfl
 (all_goals (repeat' (first | exact aW.nil | exact aM.nil | exact bQ.nil | exact ToL.nil | exact ToR.nil | refine aW.cons ?_ ?_ | refine aM.cons ?_ ?_ | refine fY ?_ ?_ | exact To.undef _ | exact To.sc _ | exact To.hslL rfl rfl | exact To.asl _ _ _ _ _ _ rfl | exact To.ptrO rfl rfl rfl | exact To.mrefO rfl | exact To.nil rfl rfl rfl | exact wt1 | exact To.nilL | refine To.int ?_ | refine To.bool ?_ | refine To.hslL rfl ?_ | refine wt2 rfl ?_ ?_ ?_ | refine To.tupL ?_ | refine To.aggL ?_ | refine To.cptrL ?_ | refine To.fzp rfl rfl rfl ?_ | refine To.fzm rfl rfl ?_ | refine To.cloL ?_ ?_ | refine wt3 ?_ | refine wt4 ?_ | exact wt5 | refine wt6 ?_ | refine ToB.one ?_ | exact wt7 | ((with_reducible apply ToL.consE); case e9=>rfl) | refine wt8 ?_ | refine ToL.cons ?_ ?_ | exact wt11 | refine wt9 ?_ ?_ | refine wt12 ?_ | (with_reducible rfl) | assumption)); all_goals (first | rfl | assumption | (simp; done) | (simp; omega) | (rw[aD (by omega) (by omega)]; done) | (rw[aD (by omega) (by omega)]; omega) | (refine congrArg Nat.cast ?_; assumption) | skip))
theorem AU (l:List Int) (hl:l.length≤12):aF Tryz.prog 96 [.hsl 0 0 0 l.length] [[.cells 1 (bM l)]] fun _ H'=>
  ∃ m:List Int,m.Perm l∧(∀ p q,p < q→q < m.length→m.getD p 0≤m.getD q 0)∧H'=[[.cells 1 (bM m)]]:=by
 refine aF.of EA ?_ (nlB rfl)
 obtain⟨n,hn⟩:=EH l.length hl
 have hp:=EB l hl n
 refine bA ?_
 refine Reg.c (Nat.le_refl _) rfl (hp.mono ?_)
 rintro res H' ⟨m,h1,h2,rfl⟩
 refine bA ?_
 refine sM (res':=.tup []) [[(0,0)]] (.inl rfl) rfl ⟨m,h1,h2,rfl⟩ ?_ ?_ rfl rfl rfl
 (all_goals (repeat' (first | exact aW.nil | exact aM.nil | exact bQ.nil | exact ToL.nil | exact ToR.nil | refine aW.cons ?_ ?_ | refine aM.cons ?_ ?_ | refine fY ?_ ?_ | exact To.undef _ | exact To.sc _ | exact To.hslL rfl rfl | exact To.asl _ _ _ _ _ _ rfl | exact To.ptrO rfl rfl rfl | exact To.mrefO rfl | exact To.nil rfl rfl rfl | exact wt1 | exact To.nilL | refine To.int ?_ | refine To.bool ?_ | refine To.hslL rfl ?_ | refine wt2 rfl ?_ ?_ ?_ | refine To.tupL ?_ | refine To.aggL ?_ | refine To.cptrL ?_ | refine To.fzp rfl rfl rfl ?_ | refine To.fzm rfl rfl ?_ | refine To.cloL ?_ ?_ | refine wt3 ?_ | refine wt4 ?_ | exact wt5 | refine wt6 ?_ | refine ToB.one ?_ | exact wt7 | ((with_reducible apply ToL.consE); case e9=>rfl) | refine wt8 ?_ | refine ToL.cons ?_ ?_ | exact wt11 | refine wt9 ?_ ?_ | refine wt12 ?_ | (with_reducible rfl) | assumption)); all_goals (first | rfl | assumption | (simp; done) | (simp; omega) | (rw[aD (by omega) (by omega)]; done) | (rw[aD (by omega) (by omega)]; omega) | (refine congrArg Nat.cast ?_; assumption) | skip))
theorem sX (es:List (Int×AV)) (hp:∀ x∈es,aQ x.2) (hn:es.length≤1000000):
  aF Tryz.prog 125 [.clo (.func 139) [] [.cptr [.tmap (eY es)]]] [] fun res H'=>∃ ks:List Int,ks.Perm (es.map (·.1))∧res=.hsl 0 0 0 ks.length∧H'=[[.cells 1 (bM ks)]]:=by
 refine aF.of yJ ?_ (nlB rfl)
 refine bA ?_
 refine Reg.c (Nat.zero_le _) rfl ((pN es hp hn).mono ?_)
 rintro res H' ⟨ks,h1,rfl,rfl⟩
 refine bA ?_
 refine sM (res':=.hsl 0 0 0 ks.length) [[(0,0)]] (.inr rfl) rfl ⟨ks,h1,rfl,rfl⟩ ?_ ?_ rfl rfl rfl
 (all_goals (repeat' (first | exact aW.nil | exact aM.nil | exact bQ.nil | exact ToL.nil | exact ToR.nil | refine aW.cons ?_ ?_ | refine aM.cons ?_ ?_ | refine fY ?_ ?_ | exact To.undef _ | exact To.sc _ | exact To.hslL rfl rfl | exact To.asl _ _ _ _ _ _ rfl | exact To.ptrO rfl rfl rfl | exact To.mrefO rfl | exact To.nil rfl rfl rfl | exact wt1 | exact To.nilL | refine To.int ?_ | refine To.bool ?_ | refine To.hslL rfl ?_ | refine wt2 rfl ?_ ?_ ?_ | refine To.tupL ?_ | refine To.aggL ?_ | refine To.cptrL ?_ | refine To.fzp rfl rfl rfl ?_ | refine To.fzm rfl rfl ?_ | refine To.cloL ?_ ?_ | refine wt3 ?_ | refine wt4 ?_ | exact wt5 | refine wt6 ?_ | refine ToB.one ?_ | exact wt7 | ((with_reducible apply ToL.consE); case e9=>rfl) | refine wt8 ?_ | refine ToL.cons ?_ ?_ | exact wt11 | refine wt9 ?_ ?_ | refine wt12 ?_ | (with_reducible rfl) | assumption)); all_goals (first | rfl | assumption | (simp; done) | (simp; omega) | (rw[aD (by omega) (by omega)]; done) | (rw[aD (by omega) (by omega)]; omega) | (refine congrArg Nat.cast ?_; assumption) | skip))
def n5 (l:List Int):List Int:=l.mergeSort (fun a b=>decide (a≤b))
theorem nX {l m:List Int} (h:m.Perm l) (hs:∀ p q,p < q→q < m.length→m.getD p 0≤m.getD q 0):m=n5 l:=by
 have tr:∀ a b c:Int,decide (a≤b)=true→decide (b≤c)=true→decide (a≤c)=true:=fun a b c h1 h2=>by simp only[decide_eq_true_eq] at *; omega
 have to:∀ a b:Int,(decide (a≤b) || decide (b≤a))=true:=fun a b=>by simp only[Bool.or_eq_true,decide_eq_true_eq]; omega
 have hp:m.Pairwise (fun a b=>decide (a≤b)=true):=List.pairwise_iff_getElem.2 fun p q h1 h2 h3=>by
  have:=hs p q h3 h2
  simp only[List.getD_eq_getElem?_getD,gEg h1,gEg h2,Option.getD_some] at this
  exact dTr this
 refine List.Perm.eq_of_pairwise (le:=fun a b=>decide (a≤b)=true) (fun a b _ _ h1 h2=>?_) hp (List.pairwise_mergeSort tr to l) (h.trans (List.mergeSort_perm l _).symm)
 simp only[decide_eq_true_eq] at h1 h2
 omega
theorem sP {l m:List Int} (h:l.Perm m):n5 l=n5 m:=by
 have h1:=List.mergeSort_perm l (fun a b=>decide (a≤b))
 have tr:∀ a b c:Int,decide (a≤b)=true→decide (b≤c)=true→decide (a≤c)=true:=fun a b c h1 h2=>by simp only[decide_eq_true_eq] at *; omega
 have to:∀ a b:Int,(decide (a≤b) || decide (b≤a))=true:=fun a b=>by simp only[Bool.or_eq_true,decide_eq_true_eq]; omega
 refine List.Perm.eq_of_pairwise (le:=fun a b=>decide (a≤b)=true) (fun a b _ _ h1 h2=>?_) (List.pairwise_mergeSort tr to l) (List.pairwise_mergeSort tr to m) ((h1.trans h).trans (List.mergeSort_perm m _).symm)
 simp only[decide_eq_true_eq] at h1 h2
 omega
def intsV (l:List Int):AV:=.list 1 (bM l)
instance (l:List Int):PV (intsV l):=⟨.list _ _ (prs _)⟩
theorem vV (es:List (Int×AV)) (hp:∀ x∈es,aQ x.2) (hn:es.length≤12):aF Tryz.prog 91 [.clo (.func 139) [] [.cptr [.tmap (eY es)]]] [] fun res H'=>res=.hsl 0 0 0 es.length∧H'=[[.cells 1 (bM (n5 (es.map (·.1))))]]:=by
 refine aF.of DN ?_ (nlB rfl)
 refine bA ?_
 refine Reg.c (Nat.zero_le _) rfl ((sX es hp (by omega)).mono ?_)
 rintro res H' ⟨ks,h1,rfl,rfl⟩
 have hl:=h1.length_eq
 rw[List.length_map] at hl
 refine bA ?_
 refine Reg.c (Nat.zero_le _) rfl ((AU ks (by omega)).mono ?_)
 rintro res H' ⟨m,h2,h3,rfl⟩
 have hml:=h2.length_eq
 rw[nX h2 h3,sP h1,hl]
 refine bA ?_
 exact endW [[(0,0)]] (⟨rfl,rfl⟩)
theorem v4 {H:Heap} {g i g' i':Nat} (es:List (Int×AV)) (h1:hget H g i=some (.cells 1 [[.mref g' i']])) (h2:hget H g' i'=some (.map (eY es))) (hn:es.length≤12):
  aF Tryz.prog 91 [.clo (.func 139) [] [.ptr g i 0 0]] H fun res H'=>res=.hsl H.length 0 0 es.length∧H'=H++[[.cells 1 (bM (n5 (es.map (·.1))))]]:=by
 have e1:(es.map fun p=>(p.1,AV.undef)).map (·.1)=es.map (·.1):=by rw[List.map_map]; rfl
 have e2:(es.map fun p=>(p.1,AV.undef)).length=es.length:=by simp
 have hs:=vV (es.map fun p=>(p.1,AV.undef)) (fun x hx=>by obtain⟨y,_,rfl⟩:=List.mem_map.1 hx; exact .undef) (by rw[e2]; exact hn)
 rw[e1,e2] at hs
 have h1':hget (H++gh []) g i=some (.cells 1 [[.mref g' i']]):=by rw[show H++gh []=H from List.append_nil H]; exact h1
 have h2':hget (H++gh []) g' i'=some (.map (eY es)):=by rw[show H++gh []=H from List.append_nil H]; exact h2
 refine aF.viewL (fun r hr c hc=>?_) hs (ToL.cons (To.cloL trivial (ToL.cons (To.fzp h1' rfl rfl (To.cptrL (ToL.cons (To.fzm h2' rfl (.tmap _ _ ?_ (fun j x y a b=>?_) fun j x y a b=>?_)) ToL.nil))) ToL.nil)) ToL.nil)
 ·obtain⟨n,_,rfl⟩:=List.mem_map.1 hr
  exact⟨_,List.mem_singleton.1 hc⟩
 ·simp[eY]
 ·unfold eY at a b
  rw[List.getElem?_map] at a
  rw[List.map_map,List.getElem?_map] at b
  cases hq:es[j]? with
  | none=>rw[hq] at a; cases a
  | some p=>
   rw[hq] at a b
   simp only[Option.map_some,oIn] at a b
   subst a; subst b
   rfl
 ·unfold eY at b
  rw[List.map_map,List.getElem?_map] at b
  cases hq:es[j]? with
  | none=>rw[hq] at b; cases b
  | some p=>
   rw[hq] at b
   simp only[Option.map_some,oIn] at b
   subst b
   exact .undef _
def vP (x:Int):List Int→List Int
 | []=>[x]
 | y::l=>match ltK y x with
  | true=>y::vP x l
  | false=>x::y::l
def isK:List Int→List Int
 | []=>[]
 | x::l=>vP x (isK l)
theorem jV (x:Int):∀ l,(vP x l).Perm (x::l)
 | []=>.refl _
 | y::l=>by
  unfold vP
  split
  ·exact((jV x l).cons y).trans (.swap x y l)
  ·exact .refl _
theorem qQ:∀ l,(isK l).Perm l
 | []=>.refl _
 | x::l=>(jV x _).trans ((qQ l).cons x)
theorem t8 (a b:Int):ltK a b=true↔a < b:=by rw[w5,decide_eq_true_eq]
theorem kK (x:Int):∀ l:List Int,l.Pairwise (·≤·)→(vP x l).Pairwise (·≤·)
 | [],_=>List.pairwise_singleton _ _
 | y::l,h=>by
  obtain⟨h1,h2⟩:=List.pairwise_cons.1 h
  unfold vP
  split
  ·rename_i e
   have e:=(t8 y x).1 e
   refine List.pairwise_cons.2 ⟨fun z hz=>?_,kK x l h2⟩
   rcases List.mem_cons.1 ((jV x l).subset hz) with rfl | hz
   ·omega
   ·exact h1 z hz
  ·rename_i e
   have e:¬ y < x:=fun h=>by rw[(t8 y x).2 h] at e; cases e
   refine List.pairwise_cons.2 ⟨fun z hz=>?_,h⟩
   rcases List.mem_cons.1 hz with rfl | hz
   ·omega
   ·have:=h1 z hz; omega
theorem nB:∀ l:List Int,(isK l).Pairwise (·≤·)
 | []=>.nil
 | x::l=>kK x _ (nB l)
theorem DI (l:List Int):isK l=n5 l:=by
 refine nX (qQ l) fun p q h1 h2=>?_
 have:=List.pairwise_iff_getElem.1 (nB l) p q (by omega) h2 h1
 simp only[List.getD_eq_getElem?_getD,gEg h2,gEg (show p < (isK l).length by omega),Option.getD_some]
 exact this
def tP:List (Value×AV)→Option (List (Int×AV))
 | []=>some []
 | (.int .i64 n,a)::r=>match tP r with
  | some l=>some ((n,a)::l)
  | none=>none
 | _::_=>none
theorem rL:∀(es:List (Value×AV)) (l:List (Int×AV)),tP es=some l→es=eY l
 | [],l,h=>by injection h with h; subst h; rfl
 | (k,a)::r,l,h=>by
  unfold tP at h
  split at h
  ·rename_i e
   cases e
  ·rename_i n a' r' e
   injection e with e1 e2
   injection e1 with e3 e4
   subst e2; subst e3; subst e4
   split at h
   ·rename_i l' e
    injection h with h
    subst h
    rw[rL _ _ e]
    rfl
   ·cases h
  ·cases h
def zJ (args:List AV) (H:Heap):Option (AV×Heap):=
 match args with
 | [.clo (.func 139) [] [.ptr g i 0 0]]=>match hget H g i with
  | some (.cells 1 [[.mref g' i']])=>match hget H g' i' with
   | some (.map es)=>match tP es with
    | some l=>match Nat.ble l.length 12 with
     | true=>some (.hsl H.length 0 0 l.length,H++[[.cells 1 (bM (isK (l.map (·.1))))]])
     | false=>none
    | none=>none
   | _=>none
  | _=>none
 | _=>none
theorem yS (args:List AV) (H:Heap) (v:AV) (H':Heap) (h:zJ args H=some (v,H')):aF Tryz.prog 91 args H fun r H2=>r=v∧H2=H':=by
 unfold zJ at h
 split at h
 ·split at h
  ·rename_i g i g' i' h1
   split at h
   ·rename_i es h2
    split at h
    ·rename_i l h3
     split at h
     ·rename_i h4
      simp only[oIn,pIn] at h
      obtain⟨rfl,rfl⟩:=h
      rw[rL _ _ h3] at h2
      rw[DI]
      exact v4 l h1 h2 (nlB h4)
     ·cases h
    ·cases h
   ·cases h
  ·cases h
 ·cases h
def sumW:Caller:=fun f args H=>
 match Nat.beq f 91 with
 | true=>zJ args H
 | false=>none
theorem oW:tO Tryz.prog sumW:=by
 intro f args H v H' h
 unfold sumW at h
 split at h
 ·rename_i e
  have:=Nat.eq_of_beq_eq_true e
  subst this
  exact yS args H v H' h
 ·cases h
set_option maxRecDepth 1000000
set_option maxHeartbeats 0
noncomputable def tabC:List (Nat×IFun):=[(13,F13),(14,F14),(18,F18),(21,F21),(22,F22),(23,F23),(24,F24),(25,F25),(26,F26),(27,F27),(29,F29),(41,F41),(49,F49),(50,F50),(51,F51),(55,F55),(56,F56),(60,F60),(62,F62),(63,F63),(64,F64),(71,F71),(72,F72),(73,F73),(74,F74),(75,F75),(76,F76),(77,F77),(78,F78),(79,F79),(80,F80),(81,F81),(82,F82),(83,F83),(84,F84),(85,F85),(86,F86),(87,F87),(88,F88),(89,F89),(90,F90),(91,F91),(92,F92),(93,F93),(94,F94),(96,F96),(99,F99),(102,F102),(116,F116),(117,F117),(119,F119),(120,F120),(124,F124),(125,F125),(126,F126),(132,F132),(133,F133),(134,F134),(135,F135),(136,F136),(137,F137),(138,F138),(139,F139),(140,F140),(142,F142),(143,F143),(146,F146),(148,F148),(149,F149),(150,F150),(151,F151),(152,F152),(153,F153),(154,F154),(159,F159),(160,F160),(161,F161),(162,F162),(163,F163),(164,F164),(165,F165),(166,F166),(167,F167),(168,F168),(169,F169),(170,F170),(171,F171),(172,F172),(173,F173),(174,F174),(175,F175),(176,F176),(177,F177),(182,F182),(183,F183),(184,F184),(185,F185),(186,F186),(187,F187),(188,F188),(189,F189),(190,F190),(191,F191),(192,F192),(193,F193),(194,F194),(195,F195),(196,F196),(197,F197),(198,F198),(199,F199),(200,F200),(201,F201),(202,F202),(204,F204),(205,F205),(206,F206),(207,F207),(208,F208),(209,F209),(210,F210),(211,F211),(227,F227)]
theorem tZ:uP Tryz.prog tabC:=⟨cF13,cF14,cF18,cF21,cF22,cF23,cF24,cF25,cF26,cF27,cF29,cF41,cF49,cF50,cF51,cF55,cF56,cF60,cF62,cF63,cF64,cF71,cF72,cF73,cF74,cF75,cF76,cF77,cF78,cF79,cF80,cF81,cF82,cF83,cF84,cF85,cF86,cF87,cF88,cF89,cF90,DN,cF92,cF93,cF94,EA,cF99,B2,CS,BC,A8,CD,BG,yJ,CN,CG,A5,CI,C9,BM,BR,BH,wZ,CH,zH,w8,C2,CT,B5,CW,BO,BV,x9,B7,B4,BZ,CE,CP,BX,BB,BQ,y2,BK,C4,A7,BL,BD,yI,C3,CV,C6,eJ,CC,CO,BU,CX,BT,BN,A6,CZ,CA,A3,CF,CM,CY,CQ,A4,CR,B9,B6,C7,C8,wE,BF,B1,BA,CL,BI,BJ,CU,CB,BY,BW,trivial⟩
noncomputable def pzC:List Nat:=[49,50,14,63,21,22,71,133,124,150,151,125,88,126]
noncomputable abbrev rn:aZ:=s5 Tryz.prog sumW (y9 tabC) pzC 2000 24
set_option maxHeartbeats 0
noncomputable def yes (r:Option (AV×Heap)):Bool:=match r with
 | some (.sc (.bool true),_)=>true
 | _=>false
theorem rH {r:Option (AV×Heap)} (h:yes r=true):∃ H,r=some (.sc (.bool true),H):=by
 unfold yes at h
 split at h
 ·exact⟨_,rfl⟩
 ·cases h
theorem vG:yes (rn.run 13 [] [])=true:=by kernel_rfl
theorem tA:aF Tryz.prog 13 [] [] fun res _=>res=.sc (.bool true):=by
 obtain⟨H,h⟩:=rH vG
 exact((iH qR oW (lJ tZ) 24).1.run 13 [] [] _ _ h).mono fun _ _ h=>h.1
theorem works_ok:aB Tryz.prog 13 [] (.sc (.bool true)):=aB.of (fun _ h=>by cases h) (.sc _) tA
end Go.Proofs.YtgdocflpobncmaaGreat
