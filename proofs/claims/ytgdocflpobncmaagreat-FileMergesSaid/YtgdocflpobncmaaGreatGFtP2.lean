import Derived.Test.YtgdocflpobncmaaGreatGFiK1
import Derived.Test.YtgdocflpobncmaaGreatGAvG
import Derived.Test.YtgdocflpobncmaaGreatGAvK5
import Derived.KernelRfl
set_option maxHeartbeats 4000000
namespace Go.Proofs.YtgdocflpobncmaaGreat
open Go.Av Go.Proofs
set_option maxRecDepth 20000
theorem zR (x:Int):aC Tryz.prog 201 [.sc (.int .i64 x)] (.sc (.bool false)):=by
 refine aC.mkI NS (nlB rfl) ?_;refine aA ?_;rw[show(x != x)=false by simp];exact aG.w
theorem MJ (x y:Int):aC Tryz.prog 172 [.sc (.int .i64 x),.sc (.int .i64 y)] (.sc (.bool (decide (x < y)))):=by
 refine aC.mkI OB (nlB rfl) ?_;have h1:=zR x;have h2:=zR y;refine aA ?_;exact aG.w
def sB (l:List Int) (j:Nat):List Int:=(l.set (j+1) (l.getD j 0)).set j (l.getD (j+1) 0)
theorem B3 {l:List Int} {j:Nat} (h:j+1 < l.length):(sB l j).Perm l:=by
 unfold sB
 have e1:l.getD j 0=l[j]:=by simp[List.getD,gEg (show j < l.length by omega)]
 have e2:l.getD (j+1) 0=l[j+1]:=by simp[List.getD,gEg h]
 rw[e1,e2];exact List.set_set_perm h (by omega)
theorem wQ {l:List Int} {j q:Nat} (h:j+1 < l.length):(sB l j).getD q 0=if q=j then l.getD (j+1) 0 else if q=j+1 then l.getD j 0 else l.getD q 0:=by
 unfold sB;simp only[List.getD_eq_getElem?_getD,List.getElem?_set,List.length_set]
 by_cases e1:q=j
 ·subst e1
  rw[if_pos rfl,if_pos rfl,if_pos (by omega)];rfl
 ·rw[if_neg (fun e=>e1 e.symm),if_neg e1]
  by_cases e2:q=j+1
  ·subst e2
   rw[if_pos rfl,if_pos rfl,if_pos h];rfl
  ·rw[if_neg (fun e=>e2 e.symm),if_neg e2]
def xJ (l:List Int) (i j:Nat):Prop:=∀ p q,p < q→q≤i→q≠j→l.getD p 0≤l.getD q 0
theorem xJ.step {l:List Int} {i j:Nat} (h:xJ l i (j+1)) (hi:i < l.length) (hj:j+1≤i) (hlt:l.getD (j+1) 0 < l.getD j 0):xJ (sB l j) i j:=by
 intro p q hpq hq hne;rw[wQ (by omega),wQ (by omega),if_neg hne]
 by_cases e2:q=j+1
 ·rw[if_pos e2]
  by_cases e3:p=j
  ·rw[if_pos e3]; omega
  ·rw[if_neg e3,if_neg (by omega)]
   exact h p j (by omega) (by omega) (by omega)
 ·rw[if_neg e2]
  by_cases e3:p=j
  ·rw[if_pos e3]
   exact h (j+1) q (by omega) hq e2
  ·rw[if_neg e3]
   by_cases e4:p=j+1
   ·rw[if_pos e4]
    exact h j q (by omega) hq e2
   ·rw[if_neg e4]
    exact h p q hpq hq e2
theorem xJ.done {l:List Int} {i j:Nat} (h:xJ l i j) (hj:j=0∨¬ l.getD j 0 < l.getD (j - 1) 0):∀ p q,p < q→q≤i→l.getD p 0≤l.getD q 0:=by
 intro p q hpq hq
 by_cases e:q=j
 ·subst e
  rcases hj with hj | hj
  ·omega
  ·by_cases e2:p=q - 1
   ·subst e2; omega
   ·have:=h p (q - 1) (by omega) (by omega) (by omega)
    omega
 ·exact h p q hpq hq e
theorem sZ {l:List Int} {q:Nat} (h:q < l.length):(cQ l)[q]?=some [.sc (.int .i64 (l.getD q 0))]:=by
 unfold cQ;rw[List.getElem?_map,gEg h];simp[List.getD,gEg h]
theorem pK (l:List Int) (q:Nat) (x:Int):(cQ l).set q [.sc (.int .i64 x)]=cQ (l.set q x):=by
 unfold cQ;rw[List.map_set]
theorem xW (l:List Int) (hl:l.length≤1000000):aE Tryz.prog 166 [.hsl 0 0 0 l.length,.sc (.int .i64 (0:Nat)),.sc (.int .i64 (l.length:Int))] [[.cells 1 (cQ l)]] fun _ H'=>
  ∃ m:List Int,m.Perm l∧(∀ p q,p < q→q < m.length→m.getD p 0≤m.getD q 0)∧H'=[[.cells 1 (cQ m)]]:=by
 refine aE.of NY ?_ (nlB rfl);refine aA ?_
 refine AWP.loop2 (fun(m:List Int) (i:Nat)=>[(0,.hsl 0 0 0 l.length),(1,.sc (.int .i64 (0:Nat))),(2,.sc (.int .i64 (l.length:Int))),(6,.sc (.int .i64 (i:Int)))])
  (fun m i=>[[.cells 1 (cQ m)]]) (fun m i=>m.Perm l∧1≤i∧(i≤l.length∨i=1)∧∀ p q,p < q→q < i→m.getD p 0≤m.getD q 0) (fun m i=>l.length - i) l 1 ⟨.refl _,Nat.le_refl _,.inr rfl,fun p q h1 h2=>by omega⟩ ?_ ?_
 ·exact Sub.w [] [[(0,0)]]
 rintro m i ⟨hm,hi1,hi2,hs⟩;have hml:=hm.length_eq;refine aA ?_;refine AWP.condD rfl (fun hlt=>?_) (fun hge=>?_)
 ·refine aA ?_
  refine AWP.loop2 (fun(m:List Int) (j:Nat)=>[(0,.hsl 0 0 0 l.length),(1,.sc (.int .i64 (0:Nat))),(2,.sc (.int .i64 (l.length:Int))),(6,.sc (.int .i64 (i:Int))),(7,.sc (.int .i64 (j:Int)))])
   (fun m j=>[[.cells 1 (cQ m)]]) (fun m j=>m.Perm l∧j≤i∧xJ m i j) (fun m j=>j) m i ⟨hm,Nat.le_refl _,fun p q h1 h2 h3=>hs p q h1 (by omega)⟩ ?_ ?_
  ·exact Sub.w [] [[(0,0)]]
  clear hm hs hml;rintro m j ⟨hm,hj,hI⟩;have hml:=hm.length_eq
  by_cases j0:j=0
  ·subst j0
   refine aA ?_;refine DK.nil ⟨by kernel_rfl,?_⟩;refine aA ?_;refine⟨m,i+1,⟨hm,by omega,.inl (by omega),fun p q h1 h2=>xJ.done hI (.inl rfl) p q h1 (by omega)⟩,by omega,?_⟩;exact Sub.w [] [[(0,0)]]
  obtain⟨q,rfl⟩:∃ q,j=q+1:=⟨j - 1,by omega⟩
  have x1:=sZ (l:=m) (q:=q+1) (by omega);have x2:=sZ (l:=m) (q:=q) (by omega);have e0:=vZ m;have hles:=MJ (m.getD (q+1) 0) (m.getD q 0);have c1:decide (0 < q+1)=true:=dTr (by omega);refine aA ?_;refine DK.nil ⟨by kernel_rfl,?_⟩;refine AWP.condD rfl (fun hless=>?_) (fun hless=>?_)
  ·have x3:((cQ m).set (q+1) [.sc (.int .i64 (m.getD q 0))])[q]?=some [.sc (.int .i64 (m.getD q 0))]:=by
    rw[pK,sZ (by simp; omega)];simp[List.getD]
   have aK:((cQ m).set (q+1) [.sc (.int .i64 (m.getD q 0))]).set q [.sc (.int .i64 (m.getD (q+1) 0))]=cQ (sB m q):=by
    rw[pK,pK];rfl
   refine aA ?_;refine DK.nil ⟨by kernel_rfl,?_⟩;refine aA ?_;refine⟨sB m q,q,⟨(B3 (by omega)).trans hm,by omega,xJ.step hI (by omega) hj hless⟩,by omega,?_⟩
   (apply Sub.to [] [[(0,0)]]; all_goals (repeat' (first | exact aY.nil | exact aI.nil | exact bK.nil | exact ToL.nil | exact ToR.nil | refine aY.cons ?_ ?_ | refine aI.cons ?_ ?_ | refine fN ?_ ?_ | exact To.undef _ | exact To.sc _ | exact To.hslL rfl rfl | exact To.asl _ _ _ _ _ _ _ rfl | refine To.ifc _ _ _ ?_ | exact To.ptrO rfl rfl rfl | exact To.mrefO rfl | exact To.nil rfl rfl rfl | exact wt1 | exact To.nilL | refine To.int ?_ | refine To.bool ?_ | refine To.hslL rfl ?_ | refine wt2 rfl ?_ ?_ ?_ | refine To.tupL ?_ | refine To.aggL ?_ | refine To.cptrL ?_ | refine To.fzp rfl rfl rfl ?_ | refine To.fzm rfl rfl ?_ | refine To.cloL ?_ ?_ | refine wt3 ?_ | refine wt4 ?_ | exact wt5 | refine wt6 ?_ | refine ToB.one ?_ | exact wt7 | ((with_reducible apply ToL.consE); case e9=>rfl) | refine wt8 ?_ | refine ToL.cons ?_ ?_ | exact wt11 | refine wt9 ?_ ?_ | refine gM ?_ | exact .yld _ _ _ _ rfl | exact .dead _ | exact hlp _ _ _ _ rfl rfl rfl | exact hlp _ _ _ rfl rfl rfl | exact hlp _ _ _ rfl rfl | exact hlp _ _ _ rfl | (with_reducible rfl) | assumption)); all_goals (first | rfl | assumption | (simp; done) | (simp; omega) | (rw[wrap_small (by omega) (by omega)]; done) | (rw[wrap_small (by omega) (by omega)]; omega) | (refine congrArg Nat.cast ?_; assumption) | omega | (exact Av.wrap_small (by omega) (by omega)) | skip))
  ·refine aA ?_
   refine⟨m,i+1,⟨hm,by omega,.inl (by omega),fun p r h1 h2=>xJ.done hI (.inr hless) p r h1 (by omega)⟩,by omega,?_⟩;exact Sub.w [] [[(0,0)]]
 ·refine aA ?_
  refine iY (res':=.tup []) [[(0,0)]] (.inl rfl) rfl ⟨m,hm,fun p q h1 h2=>hs p q h1 (by omega),rfl⟩ ?_ ?_ rfl rfl rfl
  (all_goals exact g8)
theorem ME:aC Tryz.prog 176 [.sc (.int .u64 0)] (.sc (.int .i64 0)):=by
 refine aC.mkI jH (nlB rfl) ?_;refine aA ?_;exact aG.w
theorem L9:aC Tryz.prog 176 [.sc (.int .u64 1)] (.sc (.int .i64 1)):=by
 refine aC.mkI jH (nlB rfl) ?_;refine aA ?_;exact aG.w
theorem LW:aC Tryz.prog 176 [.sc (.int .u64 2)] (.sc (.int .i64 2)):=by
 refine aC.mkI jH (nlB rfl) ?_;refine aA ?_;exact aG.w
theorem LY:aC Tryz.prog 176 [.sc (.int .u64 3)] (.sc (.int .i64 2)):=by
 refine aC.mkI jH (nlB rfl) ?_;refine aA ?_;exact aG.w
theorem MB:aC Tryz.prog 176 [.sc (.int .u64 4)] (.sc (.int .i64 3)):=by
 refine aC.mkI jH (nlB rfl) ?_;refine aA ?_;exact aG.w
theorem MI:aC Tryz.prog 176 [.sc (.int .u64 5)] (.sc (.int .i64 3)):=by
 refine aC.mkI jH (nlB rfl) ?_;refine aA ?_;exact aG.w
theorem M6:aC Tryz.prog 176 [.sc (.int .u64 6)] (.sc (.int .i64 3)):=by
 refine aC.mkI jH (nlB rfl) ?_;refine aA ?_;exact aG.w
theorem M9:aC Tryz.prog 176 [.sc (.int .u64 7)] (.sc (.int .i64 3)):=by
 refine aC.mkI jH (nlB rfl) ?_;refine aA ?_;exact aG.w
theorem LB:aC Tryz.prog 176 [.sc (.int .u64 8)] (.sc (.int .i64 4)):=by
 refine aC.mkI jH (nlB rfl) ?_;refine aA ?_;exact aG.w
theorem LD:aC Tryz.prog 176 [.sc (.int .u64 9)] (.sc (.int .i64 4)):=by
 refine aC.mkI jH (nlB rfl) ?_;refine aA ?_;exact aG.w
theorem HE:aC Tryz.prog 176 [.sc (.int .u64 10)] (.sc (.int .i64 4)):=by
 refine aC.mkI jH (nlB rfl) ?_;refine aA ?_;exact aG.w
theorem KN:aC Tryz.prog 176 [.sc (.int .u64 11)] (.sc (.int .i64 4)):=by
 refine aC.mkI jH (nlB rfl) ?_;refine aA ?_;exact aG.w
theorem I5:aC Tryz.prog 176 [.sc (.int .u64 12)] (.sc (.int .i64 4)):=by
 refine aC.mkI jH (nlB rfl) ?_;refine aA ?_;exact aG.w
theorem IQ (x:Nat) (h:x≤12):∃ n:Int,aC Tryz.prog 176 [.sc (.int .u64 (x:Int))] (.sc (.int .i64 n)):=by
 match x,h with
 | 0,_=>exact⟨_,ME⟩
 | 1,_=>exact⟨_,L9⟩
 | 2,_=>exact⟨_,LW⟩
 | 3,_=>exact⟨_,LY⟩
 | 4,_=>exact⟨_,MB⟩
 | 5,_=>exact⟨_,MI⟩
 | 6,_=>exact⟨_,M6⟩
 | 7,_=>exact⟨_,M9⟩
 | 8,_=>exact⟨_,LB⟩
 | 9,_=>exact⟨_,LD⟩
 | 10,_=>exact⟨_,HE⟩
 | 11,_=>exact⟨_,KN⟩
 | 12,_=>exact⟨_,I5⟩
theorem O8 (x:Nat) (h:x≤12):∃ n:Int,aC Tryz.prog 143 [.sc (.int .u64 (x:Int))] (.sc (.int .i64 n)):=by
 obtain⟨n,hn⟩:=IQ x h;refine⟨n,?_⟩;refine aC.mkI OG (nlB rfl) ?_;refine aA ?_;exact aG.w
theorem P2 (l:List Int) (hl:l.length≤12) (n:Int):aE Tryz.prog 142 [.hsl 0 0 0 l.length,.sc (.int .i64 (0:Nat)),.sc (.int .i64 (l.length:Int)),.sc (.int .i64 n)] [[.cells 1 (cQ l)]] fun _ H'=>
  ∃ m:List Int,m.Perm l∧(∀ p q,p < q→q < m.length→m.getD p 0≤m.getD q 0)∧H'=[[.cells 1 (cQ m)]]:=by
 refine aE.of N5 ?_ (nlB rfl);have hi:=xW l (by omega);refine aA ?_;refine AWP.loop (fun(_:Unit)=>[(0,.hsl 0 0 0 l.length),(1,.sc (.int .i64 (0:Nat))),(2,.sc (.int .i64 (l.length:Int))),(3,.sc (.int .i64 n))]) (fun _=>[[.cells 1 (cQ l)]]) (fun _=>True) (fun _=>0) () trivial ?_ ?_
 ·exact Sub.w [] [[(0,0)]]
 intro _ _;refine aA ?_;rw[dTr (show l.length - 0≤12 by omega)];refine aA ?_;refine Reg.c (Nat.le_refl _) rfl (hi.mono ?_);rintro res H' ⟨m,h1,h2,rfl⟩;refine aA ?_;refine iY (res':=.tup []) [[(0,0)]] (.inr rfl) rfl ⟨m,h1,h2,rfl⟩ ?_ ?_ rfl rfl rfl
 (all_goals exact g8)
theorem MT (l:List Int) (hl:l.length≤12):aE Tryz.prog 96 [.hsl 0 0 0 l.length] [[.cells 1 (cQ l)]] fun _ H'=>
  ∃ m:List Int,m.Perm l∧(∀ p q,p < q→q < m.length→m.getD p 0≤m.getD q 0)∧H'=[[.cells 1 (cQ m)]]:=by
 refine aE.of cF96 ?_ (nlB rfl);obtain⟨n,hn⟩:=O8 l.length hl;have hp:=P2 l hl n;refine aA ?_;refine Reg.c (Nat.le_refl _) rfl (hp.mono ?_);rintro res H' ⟨m,h1,h2,rfl⟩;refine aA ?_;refine iY (res':=.tup []) [[(0,0)]] (.inl rfl) rfl ⟨m,h1,h2,rfl⟩ ?_ ?_ rfl rfl rfl
 (all_goals exact g8)
theorem BS (es:List (Int×AV)) (hp:∀ x∈es,aZ x.2) (hn:es.length≤1000000):
  aE Tryz.prog 125 [.clo (.func 139) [] [.cptr [.tmap (jQ es)]]] [] fun res H'=>∃ ks:List Int,ks.Perm (es.map (·.1))∧res=.hsl 0 0 0 ks.length∧H'=[[.cells 1 (cQ ks)]]:=by
 refine aE.of JD ?_ (nlB rfl);refine aA ?_;refine Reg.c (nZl _) rfl ((xV es hp hn).mono ?_);rintro res H' ⟨ks,h1,rfl,rfl⟩;refine aA ?_;refine iY (res':=.hsl 0 0 0 ks.length) [[(0,0)]] (.inr rfl) rfl ⟨ks,h1,rfl,rfl⟩ ?_ ?_ rfl rfl rfl
 (all_goals exact g8)
def wE (l:List Int):List Int:=l.mergeSort (fun a b=>decide (a≤b))
theorem v6 {l m:List Int} (h:m.Perm l) (hs:∀ p q,p < q→q < m.length→m.getD p 0≤m.getD q 0):m=wE l:=by
 have tr:∀ a b c:Int,decide (a≤b)=true→decide (b≤c)=true→decide (a≤c)=true:=fun a b c h1 h2=>by simp only[decide_eq_true_eq] at *; omega
 have to:∀ a b:Int,(decide (a≤b) || decide (b≤a))=true:=fun a b=>by simp only[Bool.or_eq_true,decide_eq_true_eq]; omega
 have hp:m.Pairwise (fun a b=>decide (a≤b)=true):=List.pairwise_iff_getElem.2 fun p q h1 h2 h3=>by
  have:=hs p q h3 h2;simp only[List.getD_eq_getElem?_getD,gEg h1,gEg h2,Option.getD_some] at this;exact dTr this
 refine List.Perm.eq_of_pairwise (le:=fun a b=>decide (a≤b)=true) (fun a b _ _ h1 h2=>?_) hp (List.pairwise_mergeSort tr to l) (h.trans (List.mergeSort_perm l _).symm);simp only[decide_eq_true_eq] at h1 h2;omega
theorem A9 {l m:List Int} (h:l.Perm m):wE l=wE m:=by
 have h1:=List.mergeSort_perm l (fun a b=>decide (a≤b))
 have tr:∀ a b c:Int,decide (a≤b)=true→decide (b≤c)=true→decide (a≤c)=true:=fun a b c h1 h2=>by simp only[decide_eq_true_eq] at *; omega
 have to:∀ a b:Int,(decide (a≤b) || decide (b≤a))=true:=fun a b=>by simp only[Bool.or_eq_true,decide_eq_true_eq]; omega
 refine List.Perm.eq_of_pairwise (le:=fun a b=>decide (a≤b)=true) (fun a b _ _ h1 h2=>?_) (List.pairwise_mergeSort tr to l) (List.pairwise_mergeSort tr to m) ((h1.trans h).trans (List.mergeSort_perm m _).symm);simp only[decide_eq_true_eq] at h1 h2;omega
def intsV (l:List Int):AV:=.list 1 (cQ l)
instance (l:List Int):PV (intsV l):=⟨.list _ _ (prs _)⟩
theorem FO (es:List (Int×AV)) (hp:∀ x∈es,aZ x.2) (hn:es.length≤12):aE Tryz.prog 91 [.clo (.func 139) [] [.cptr [.tmap (jQ es)]]] [] fun res H'=>res=.hsl 0 0 0 es.length∧H'=[[.cells 1 (cQ (wE (es.map (·.1))))]]:=by
 refine aE.of cF91 ?_ (nlB rfl);refine aA ?_;refine Reg.c (nZl _) rfl ((BS es hp (by omega)).mono ?_);rintro res H' ⟨ks,h1,rfl,rfl⟩;have hl:=h1.length_eq;rw[List.length_map] at hl;refine aA ?_;refine Reg.c (nZl _) rfl ((MT ks (by omega)).mono ?_);rintro res H' ⟨m,h2,h3,rfl⟩;have hml:=h2.length_eq;rw[v6 h2 h3,A9 h1,hl];refine aA ?_;exact endW [[(0,0)]] (⟨rfl,rfl⟩)
theorem FS {H:Heap} {g i g' i':Nat} (es:List (Int×AV)) (h1:hget H g i=some (.cells 1 [[.mref g' i']])) (h2:hget H g' i'=some (.map (jQ es))) (hn:es.length≤12):
  aE Tryz.prog 91 [.clo (.func 139) [] [.ptr g i 0 0]] H fun res H'=>res=.hsl H.length 0 0 es.length∧H'=H++[[.cells 1 (cQ (wE (es.map (·.1))))]]:=by
 have e1:(es.map fun p=>(p.1,AV.undef)).map (·.1)=es.map (·.1):=by rw[List.map_map]; rfl
 have e2:(es.map fun p=>(p.1,AV.undef)).length=es.length:=by simp
 have hs:=FO (es.map fun p=>(p.1,AV.undef)) (fun x hx=>by obtain⟨y,_,rfl⟩:=List.mem_map.1 hx; exact .undef) (by rw[e2]; exact hn);rw[e1,e2] at hs
 have h1':hget (H++gh []) g i=some (.cells 1 [[.mref g' i']]):=by rw[show H++gh []=H from List.append_nil H]; exact h1
 have h2':hget (H++gh []) g' i'=some (.map (jQ es)):=by rw[show H++gh []=H from List.append_nil H]; exact h2
 refine aE.viewL (fun r hr c hc=>?_) hs (ToL.cons (To.cloL trivial (ToL.cons (To.fzp h1' rfl rfl (To.cptrL (ToL.cons (To.fzm h2' rfl (.tmap _ _ ?_ (fun j x y a b=>?_) fun j x y a b=>?_)) ToL.nil))) ToL.nil)) ToL.nil)
 ·obtain⟨n,_,rfl⟩:=List.mem_map.1 hr
  exact⟨_,List.mem_singleton.1 hc⟩
 ·simp[jQ]
 ·unfold jQ at a b
  rw[List.getElem?_map] at a;rw[List.map_map,List.getElem?_map] at b
  cases hq:es[j]? with
  | none=>rw[hq] at a; cases a
  | some p=>
   rw[hq] at a b;simp only[Option.map_some,oIn] at a b;subst a; subst b;rfl
 ·unfold jQ at b
  rw[List.map_map,List.getElem?_map] at b
  cases hq:es[j]? with
  | none=>rw[hq] at b; cases b
  | some p=>
   rw[hq] at b;simp only[Option.map_some,oIn] at b;subst b;exact .undef _
def FV (x:Int):List Int→List Int
 | []=>[x]
 | y::l=>match ltK y x with
  | true=>y::FV x l
  | false=>x::y::l
def isK:List Int→List Int
 | []=>[]
 | x::l=>FV x (isK l)
theorem pP (x:Int):∀ l,(FV x l).Perm (x::l)
 | []=>.refl _
 | y::l=>by
  unfold FV;split
  ·exact((pP x l).cons y).trans (.swap x y l)
  ·exact .refl _
theorem zQ:∀ l,(isK l).Perm l
 | []=>.refl _
 | x::l=>(pP x _).trans ((zQ l).cons x)
theorem DE (a b:Int):ltK a b=true↔a < b:=by rw[IY,decide_eq_true_eq]
theorem qR (x:Int):∀ l:List Int,l.Pairwise (·≤·)→(FV x l).Pairwise (·≤·)
 | [],_=>List.pairwise_singleton _ _
 | y::l,h=>by
  obtain⟨h1,h2⟩:=List.pairwise_cons.1 h;unfold FV;split
  ·rename_i e
   have e:=(DE y x).1 e;refine List.pairwise_cons.2 ⟨fun z hz=>?_,qR x l h2⟩
   rcases List.mem_cons.1 ((pP x l).subset hz) with rfl | hz
   ·omega
   ·exact h1 z hz
  ·rename_i e
   have e:¬ y < x:=fun h=>by rw[(DE y x).2 h] at e; cases e
   refine List.pairwise_cons.2 ⟨fun z hz=>?_,h⟩
   rcases List.mem_cons.1 hz with rfl | hz
   ·omega
   ·have:=h1 z hz; omega
theorem sF:∀ l:List Int,(isK l).Pairwise (·≤·)
 | []=>.nil
 | x::l=>qR x _ (sF l)
theorem QU (l:List Int):isK l=wE l:=by
 refine v6 (zQ l) fun p q h1 h2=>?_
 have:=List.pairwise_iff_getElem.1 (sF l) p q (by omega) h2 h1;simp only[List.getD_eq_getElem?_getD,gEg h2,gEg (show p < (isK l).length by omega),Option.getD_some];exact this
def E4:List (Value×AV)→Option (List (Int×AV))
 | []=>some []
 | (.int .i64 n,a)::r=>match E4 r with
  | some l=>some ((n,a)::l)
  | none=>none
 | _::_=>none
theorem yL:∀(es:List (Value×AV)) (l:List (Int×AV)),E4 es=some l→es=jQ l
 | [],l,h=>by injection h with h; subst h; rfl
 | (k,a)::r,l,h=>by
  unfold E4 at h;split at h
  ·rename_i e
   cases e
  ·rename_i n a' r' e
   injection e with e1 e2
   injection e1 with e3 e4
   subst e2; subst e3; subst e4;split at h
   ·rename_i l' e
    injection h with h
    subst h;rw[yL _ _ e];rfl
   ·cases h
  ·cases h
def KI (args:List AV) (H:Heap):Option (AV×Heap):=
 match args with
 | [.clo (.func 139) [] [.ptr g i 0 0]]=>match hget H g i with
  | some (.cells 1 [[.mref g' i']])=>match hget H g' i' with
   | some (.map es)=>match E4 es with
    | some l=>match Nat.ble l.length 12 with
     | true=>some (.hsl H.length 0 0 l.length,H++[[.cells 1 (cQ (isK (l.map (·.1))))]])
     | false=>none
    | none=>none
   | _=>none
  | _=>none
 | _=>none
theorem IA (args:List AV) (H:Heap) (v:AV) (H':Heap) (h:KI args H=some (v,H')):aE Tryz.prog 91 args H fun r H2=>r=v∧H2=H':=by
 unfold KI at h;split at h
 ·split at h
  ·rename_i g i g' i' h1
   split at h
   ·rename_i es h2
    split at h
    ·rename_i l h3
     split at h
     ·rename_i h4
      simp only[oIn,pIn] at h;obtain⟨rfl,rfl⟩:=h;rw[yL _ _ h3] at h2;rw[QU];exact FS l h1 h2 (nlB h4)
     ·cases h
    ·cases h
   ·cases h
  ·cases h
 ·cases h
def sumW:Caller:=fun f args H=>
 match Nat.beq f 91 with
 | true=>KI args H
 | false=>none
theorem NA:HS Tryz.prog sumW:=by
 intro f args H v H' h;unfold sumW at h;split at h
 ·rename_i e
  have:=nEb e;subst this;exact IA args H v H' h
 ·cases h
set_option maxRecDepth 1000000
set_option maxHeartbeats 0
noncomputable def tabC:List (Nat×IFun):=[(13,kF 13),(14,F14),(18,kF 18),(21,F21),(22,F22),(23,kF 23),(24,kF 24),(25,kF 25),(26,kF 26),(27,kF 27),(29,kF 29),(41,kF 41),(49,kF 49),(50,kF 50),(51,kF 51),(55,kF 55),(56,kF 56),(60,kF 60),(62,kF 62),(63,F63),(64,F64),(71,F71),(72,F72),(73,F73),(74,kF 74),(75,kF 75),(76,kF 76),(77,kF 77),(78,kF 78),(79,kF 79),(80,kF 80),(81,kF 81),(82,kF 82),(83,kF 83),(84,kF 84),(85,kF 85),(86,kF 86),(87,kF 87),(88,F88),(89,kF 89),(90,kF 90),(91,F91),(92,kF 92),(93,kF 93),(94,kF 94),(96,F96),(99,kF 99),(102,kF 102),(116,kF 116),(117,kF 117),(119,kF 119),(120,kF 120),(124,F124),(125,F125),(126,F126),(132,F132),(133,F133),(134,kF 134),(135,kF 135),(136,kF 136),(137,kF 137),(138,F138),(139,F139),(140,kF 140),(142,F142),(143,F143),(146,kF 146),(148,kF 148),(149,kF 149),(150,F150),(151,F151),(152,F152),(153,F153),(154,F154),(159,F159),(160,F160),(161,F161),(162,F162),(163,F163),(164,F164),(165,F165),(166,F166),(172,F172),(176,F176),(177,F177),(182,F182),(183,F183),(184,F184),(185,F185),(186,F186),(187,F187),(188,F188),(189,F189),(190,F190),(191,F191),(192,F192),(193,F193),(194,F194),(195,F195),(201,F201),(202,F202),(204,F204),(205,F205),(206,F206),(207,F207),(208,F208),(209,F209),(210,F210),(211,kF 211),(227,kF 227)]
theorem LZ:IR Tryz.prog tabC:=⟨kP (by kernel_rfl),cF14,kP (by kernel_rfl),cF21,cF22,kP (by kernel_rfl),kP (by kernel_rfl),kP (by kernel_rfl),kP (by kernel_rfl),kP (by kernel_rfl),kP (by kernel_rfl),kP (by kernel_rfl),kP (by kernel_rfl),kP (by kernel_rfl),kP (by kernel_rfl),kP (by kernel_rfl),kP (by kernel_rfl),kP (by kernel_rfl),kP (by kernel_rfl),cF63,cF64,cF71,cF72,cF73,kP (by kernel_rfl),kP (by kernel_rfl),kP (by kernel_rfl),kP (by kernel_rfl),kP (by kernel_rfl),kP (by kernel_rfl),kP (by kernel_rfl),kP (by kernel_rfl),kP (by kernel_rfl),kP (by kernel_rfl),kP (by kernel_rfl),kP (by kernel_rfl),kP (by kernel_rfl),kP (by kernel_rfl),cF88,kP (by kernel_rfl),kP (by kernel_rfl),cF91,kP (by kernel_rfl),kP (by kernel_rfl),kP (by kernel_rfl),cF96,kP (by kernel_rfl),kP (by kernel_rfl),kP (by kernel_rfl),kP (by kernel_rfl),kP (by kernel_rfl),kP (by kernel_rfl),O2,JD,OC,JV,OD,kP (by kernel_rfl),kP (by kernel_rfl),kP (by kernel_rfl),kP (by kernel_rfl),NQ,OU,kP (by kernel_rfl),N5,OG,kP (by kernel_rfl),kP (by kernel_rfl),kP (by kernel_rfl),NL,OH,OX,HX,NP,N4,OT,NT,O0,OI,OQ,NN,NY,OB,jH,NU,KX,OF,NM,N7,N0,NV,OY,N3,O4,N1,NX,NZ,O3,OM,NS,OK,OE,OW,NO,N8,OV,OS,NR,kP (by kernel_rfl),kP (by kernel_rfl),trivial⟩
noncomputable def pzC:List Nat:=[49,50,14,63,21,22,71,133,124,150,151,125,88,126]
noncomputable abbrev rn:bT:=FN Tryz.prog sumW (MG tabC) pzC 2000 24
set_option maxHeartbeats 0
noncomputable def yes (r:Option (AV×Heap)):Bool:=match r with
 | some (.sc (.bool true),_)=>true
 | _=>false
theorem J4 {r:Option (AV×Heap)} (h:yes r=true):∃ H,r=some (.sc (.bool true),H):=by
 unfold yes at h;split at h
 ·exact⟨_,rfl⟩
 ·cases h
theorem GS:yes (rn.run 13 [] [])=true:=by kernel_rfl
theorem CO:aE Tryz.prog 13 [] [] fun res _=>res=.sc (.bool true):=by
 obtain⟨H,h⟩:=J4 GS
 exact((A7 mixed NA (EF LZ) 24).1.run 13 [] [] _ _ h).mono fun _ _ h=>h.1
theorem works_ok:aC Tryz.prog 13 [] (.sc (.bool true)):=aC.of (fun _ h=>by cases h) (.sc _) CO
set_option maxRecDepth 20000
inductive Ty where
 | mk (k c b s:Int) (sz bl pl:List Int) (of:List Ty)
 | raw (k c b s:Int) (sz bl pl:List Int)
abbrev iv (n:Int):AV:=.sc (.int .i64 n)
def inR (l:List Int):List (List AV):=l.map fun n=>[iv n]
mutual
def tyR:Ty→List AV
 | .mk k c b s sz bl pl of=>[iv k,iv c,iv b,iv s,.list 1 (inR sz),.list 1 (inR bl),.list 1 (inR pl),.list 8 (aO of)]
 | .raw k c b s sz bl pl=>[iv k,iv c,iv b,iv s,.list 1 (inR sz),.list 1 (inR bl),.list 1 (inR pl),.one]
def aO:List Ty→List (List AV)
 | []=>[]
 | t::ts=>tyR t::aO ts
end
theorem oH:∀ l:List Ty,aO l=l.map tyR
 | []=>rfl
 | t::l=>by rw[aO,oH l]; rfl
theorem cH (l:List Int):(inR l).length=l.length:=by simp[inR]
theorem oI (l:List Ty):(aO l).length=l.length:=by simp[oH]
instance (n:Int):PV (iv n):=⟨.sc _⟩
instance (l:List Int):PRs (inR l):=⟨fun r hr=>by
 obtain⟨n,_,rfl⟩:=List.mem_map.1 hr
 exact bA (.sc _) dD⟩
mutual
theorem A5:∀ t:Ty,∀ c∈tyR t,aZ c
 | .mk k c b s sz bl pl of=>by
  have h:=pS of;rw[tyR];exact bA (.sc _) (bA (.sc _) (bA (.sc _) (bA (.sc _) (bA (pv _) (bA (pv _) (bA (pv _) (bA (.list _ _ h) dD)))))))
 | .raw k c b s sz bl pl=>by rw[tyR]; exact pr _
theorem pS:∀ l:List Ty,∀ r∈aO l,∀ c∈r,aZ c
 | []=>fun r h=>by cases h
 | t::l=>fun r hr=>by
  rw[aO] at hr
  rcases List.mem_cons.1 hr with e | e
  ·subst e; exact A5 t
  ·exact pS l r e
end
instance (t:Ty):PR (tyR t):=⟨A5 t⟩
instance (l:List Ty):PRs (aO l):=⟨pS l⟩
theorem cX (l:List Int) (k:Nat) (h:k < l.length):cW (inR l) (k:Int)=some [iv l[k]]:=eJ (fun n:Int=>[iv n]) l k h
theorem rQ (l:List Ty) (k:Nat) (h:k < l.length):cW (aO l) (k:Int)=some (tyR l[k]):=by rw[oH]; exact eJ tyR l k h
def qG:Nat→Ty→Prop
 | 0,_=>True
 | n+1,.mk _ _ _ _ _ _ _ of=>∀ u∈of,qG n u
 | _+1,.raw ..=>False
def cE:Nat→Ty→Bool
 | 0,_=>false
 | n+1,.mk _ c b _ sz bl pl of=>decide (of.length≤3) && decide (sz.length≤8) && decide (bl.length≤8) && decide (pl.length≤8) && decide (c≤16) && decide (b≤8) && bl.all (fun x=>decide (x≤16)) && of.all (cE n)
 | _+1,.raw ..=>false
def bH (k:Int):Nat:=if k=1 then 1 else if k=2 then 2 else if k=3 then 4 else if k=4 then 8 else if k=5 then 8 else 0
structure Shp where
 es:List (Int×Int)
 lo:Int
 hi:Int
def Shp.ext (s:Shp):Int:=s.hi - s.lo
def shp0:Shp:=⟨[],0,0⟩
def enR (l:List (Int×Int)):List (List AV):=l.map fun x=>[iv x.1,iv x.2]
def shR (s:Shp):List AV:=[.list 2 (enR s.es),iv s.lo,iv s.hi]
theorem dH (l:List (Int×Int)):(enR l).length=l.length:=by simp[enR]
theorem iH (l:List (Int×Int)) (k:Nat) (h:k < l.length):cW (enR l) (k:Int)=some [iv l[k].1,iv l[k].2]:=eJ (fun x:Int×Int=>[iv x.1,iv x.2]) l k h
instance (l:List (Int×Int)):PRs (enR l):=⟨fun r hr=>by
 obtain⟨n,_,rfl⟩:=List.mem_map.1 hr
 exact bA (.sc _) (bA (.sc _) dD)⟩
instance (s:Shp):PR (shR s):=⟨bA (pv _) (bA (.sc _) (bA (.sc _) dD))⟩
def aM (n lo hi:Int):Bool:=decide (lo≤n) && decide (n≤hi)
def kS (l:List Int) (lo hi:Int):Bool:=l.all fun n=>aM n lo hi
def mP:Int:=1048576
def bP (c e:Int):List (Int×Int):=(List.range (max 1 c).toNat).map fun i:Nat=>(0,(i:Int) * e)
def jV (c b st e:Int):List (Int×Int):=(List.range c.toNat).flatMap fun i:Nat=>(List.range b.toNat).map fun j:Nat=>(0,((i:Int) * st+j) * e)
def iF (bl pl:List Int) (e:Int):List (Int×Int):=(List.range bl.length).flatMap fun i:Nat=>(List.range (bl.getD i 0).toNat).map fun j:Nat=>(0,(pl.getD i 0+j) * e)
def o5 (bl pl:List Int) (of:List Shp):List (Int×Int):=(List.range bl.length).flatMap fun i:Nat=>(List.range (bl.getD i 0).toNat).map fun j:Nat=>((i:Int),pl.getD i 0+j * (of.getD i shp0).ext)
def huge:Int:=1099511627776
def K7 (sz pl:List Int) (at':List Nat):Int:=(List.range sz.length).foldl (fun n k=>min (n * sz.getD k 0+pl.getD k 0+(at'.getD k 0:Nat)) huge) 0
def sV (bl:List Int):Nat→List Nat→Option (List Nat)
 | 0,_=>none
 | k+1,a=>if ((a.getD k 0:Nat):Int)+1 < bl.getD k 0 then some (a.set k (a.getD k 0+1)) else sV bl k (a.set k 0)
def gI (sz bl pl:List Int) (e:Int):Nat→List Nat→List (Int×Int)
 | 0,_=>[]
 | f+1,a=>(0,K7 sz pl a * e)::match sV bl sz.length a with
  | some b=>gI sz bl pl e f b
  | none=>[]
def rE (sz bl pl:List Int) (e:Int):List (Int×Int):=gI sz bl pl e ((bl.map Int.toNat).foldl (· * ·) 1) (List.replicate sz.length 0)
def gC (k c b st:Int) (sz bl pl:List Int) (of:List Shp):List (Int×Int):=
 let e:=(of.getD 0 shp0).ext
 if k=6 then bP c e else if k=7 then jV c b st e else if k=8 then iF bl pl e else if k=9 then o5 bl pl of else if k=10 then bP c e else rE sz bl pl e
def pU (s x:Shp) (by':Int):Shp:=⟨s.es++x.es.map (fun y=>(y.1,y.2+by')),min (if s.es.length=0 then x.lo+by' else s.lo) (x.lo+by'),max (if s.es.length=0 then x.hi+by' else s.hi) (x.hi+by')⟩
def eW (of:List Shp):List (Int×Int)→Shp→Option Shp
 | [],s=>some s
 | m::r,s=>let x:=of.getD m.1.toNat shp0
  if 4096 < s.es.length+x.es.length then none else eW of r (pU s x m.2)
def cA (l:List (Int×Int)):Int×Int:=l.foldl (fun p x=>(min p.1 x.2,max p.2 (x.2+bH x.1))) ((l.headD (0,0)).2,(l.headD (0,0)).2)
def NH (sz:List Int):Int:=sz.foldl (fun n s=>min (n * s) huge) 1
def dF (k:Int) (sz pl:List Int) (of:List Shp) (s:Shp):Shp:=
 if k=10 then⟨s.es,pl.getD 0 0,pl.getD 0 0+pl.getD 1 0⟩ else if k=11 then⟨s.es,(of.getD 0 shp0).lo,(of.getD 0 shp0).lo+NH sz * (of.getD 0 shp0).ext⟩ else s
def okS (s:Shp):Bool:=aM s.lo (-mP) mP && aM s.hi (-mP) mP && aM s.ext (-mP) mP && aM (cA s.es).1 (-mP) mP && aM (cA s.es).2 (-mP) mP && aM ((cA s.es).2 - (cA s.es).1) (-mP) mP
def uI (k c b st:Int) (sz bl pl:List Int) (of:List Shp):Int×Shp:=
 match eW of (gC k c b st sz bl pl of) shp0 with
 | none=>(9,shp0)
 | some s=>if okS (dF k sz pl of s)=true then(0,dF k sz pl of s) else(3,shp0)
def ofG (basic:Bool) (k:Int) (n:Nat):Nat:=if basic=true then 0 else if k=9 then min (max 1 n) 4096 else 1
def CS (c1 c2 c3 c4 c5:Bool) (c b st:Int) (sz bl pl:List Int) (n of:Nat):Bool:=
 (!c1 && (c != 0)) || ((!c2 && ((b != 0) || (st != 0))) || ((!c3 && decide (0 < bl.length)) || ((!c4 && decide (0 < pl.length)) || ((!c5 && decide (0 < sz.length)) || !decide (n=of)))))
def shG (k:Int) (sz bl pl:List Int) (of:Nat):Int:=
 if k=8 then(if 1≤bl.length∧bl.length≤4096∧pl.length=bl.length then 0 else 26)
 else if k=9 then(if bl.length=of∧pl.length=of then 0 else 26)
 else if k=10 then(if pl.length=2 then 0 else 26)
 else if k=11 then(if 1≤sz.length∧sz.length≤4∧bl.length=sz.length∧pl.length=sz.length then 0 else 26)
 else 0
def fl1 (k:Int):Bool:=decide (k=6∨k=7)
def fl2 (k:Int):Bool:=decide (k=7)
def fl3 (k:Int):Bool:=decide (k=8∨k=9∨k=11)
def fl4 (k:Int):Bool:=decide (k=8∨k=9∨k=10∨k=11)
def fl5 (k:Int):Bool:=decide (k=11)
def fZ (k c b st:Int) (sz bl pl:List Int) (n:Nat):Int:=
 if CS (fl1 k) (fl2 k) (fl3 k) (fl4 k) (fl5 k) c b st sz bl pl n (ofG (decide (0 < bH k)) k n)=true then 2 else shG k sz bl pl (ofG (decide (0 < bH k)) k n)
def vF (bl:List Int):Bool:=kS bl 0 4096 && bl.any fun n=>decide (0 < n)
def FU (sz bl pl:List Int):Bool:=(List.range sz.length).all fun i=>aM (sz.getD i 0) 1 4096 && aM (bl.getD i 0) 1 (sz.getD i 0) && aM (pl.getD i 0) 0 (sz.getD i 0 - bl.getD i 0)
def AR (k c b st:Int) (sz bl pl:List Int):Bool:=
 aM st (-mP) mP && kS pl (-mP) mP && (if k=6 then aM c 1 4096 else if k=7 then aM c 1 4096 && aM b 1 4096 else if k=8∨k=9 then vF bl else if k=10 then decide (0≤pl.getD 1 0) else FU sz bl pl)
def oQ (f:Ty→Int×Shp):List Ty→Int×List Shp
 | []=>(0,[])
 | u::r=>match f u with
  | (e,s)=>if e≠0 then(e,[]) else match oQ f r with
   | (e',l)=>if e'≠0 then(e',[]) else(0,s::l)
def cG:Nat→Ty→Int×Shp
 | 0,_=>(0,shp0)
 | d+1,.mk k c b st sz bl pl of=>match oQ (cG d) of with
  | (e,l)=>
   if e≠0 then(e,shp0)
   else if bH k=0∧¬ (6≤k∧k≤11) then(2,shp0)
   else if fZ k c b st sz bl pl of.length≠0 then(fZ k c b st sz bl pl of.length,shp0)
   else if 0 < bH k then(0,⟨[(k,0)],0,bH k⟩)
   else if AR k c b st sz bl pl=true then uI k c b st sz bl pl l else(3,shp0)
 | _+1,.raw ..=>(0,shp0)
theorem dA {α:Type} {l:List α} {i:Nat} (h:i < l.length):l.take (i+1)=l.take i++[l[i]]:=by rw[List.take_add_one,gEg h]; rfl
theorem oY (k:Int):aC Tryz.prog 72 [iv k] (iv (bH k:Nat)):=by
 refine aC.mkI cF72 (nlB rfl) ?_;unfold bH;refine aA ?_;refine AWP.condN (k=1) rfl rfl (fun h=>?_) (fun h=>?_)
 ·rw[if_pos h]
  refine aA ?_;exact aG.w
 rw[if_neg h];refine aA ?_;refine AWP.condN (k=2) rfl rfl (fun h=>?_) (fun h=>?_)
 ·rw[if_pos h]
  refine aA ?_;exact aG.w
 rw[if_neg h];refine aA ?_;refine AWP.condN (k=3) rfl rfl (fun h=>?_) (fun h=>?_)
 ·rw[if_pos h]
  refine aA ?_;exact aG.w
 rw[if_neg h];refine aA ?_;refine AWP.condN (k=4) rfl rfl (fun h=>?_) (fun h=>?_)
 ·subst h
  refine aA ?_;exact aG.w
 rw[if_neg h];refine aA ?_;refine AWP.condN (k=5) rfl rfl (fun h=>?_) (fun h=>?_)
 ·rw[if_pos h]
  refine aA ?_;exact aG.w
 ·rw[if_neg h]
  refine aA ?_;exact aG.w
theorem cZ (n lo hi:Int):aC Tryz.prog 163 [iv n,iv lo,iv hi] (.sc (.bool (aM n lo hi))):=by
 refine aC.mkI OI (nlB rfl) ?_;unfold aM;refine aA ?_
 by_cases h:lo≤n
 ·rw[dTr h]
  refine aA ?_;exact aG.w
 ·rw[dFa h]
  refine aA ?_;exact aG.w
theorem eG (s:Shp) (h1:-4000000000000000000≤s.lo) (h2:s.lo≤4000000000000000000) (h3:-4000000000000000000≤s.hi) (h4:s.hi≤4000000000000000000):aC Tryz.prog 73 [.agg (shR s)] (iv s.ext):=by
 refine aC.mkI cF73 (nlB rfl) ?_;unfold Shp.ext shR;refine aA ?_;rw[Av.wrap_small (by omega) (by omega)];refine aA ?_;exact aG.w
def zG:List Int→Int
 | []=>0
 | x::l=>l.foldl max x
theorem QW (l:List Int) (hl:l≠[]) (hn:l.length≤1000000000):aC Tryz.prog 206 [.list 1 (inR l)] (iv (zG l)):=by
 refine aC.mkI NO (nlB rfl) ?_
 obtain⟨x,r,rfl⟩:∃ x r,l=x::r:=by
  cases l with
  | nil=>exact absurd rfl hl
  | cons x r=>exact⟨x,r,rfl⟩
 obtain⟨l,hll⟩:∃ l,l=x::r:=⟨_,rfl⟩
 rw[← hll] at hn ⊢;have hil:=cH l
 have hl0:0 < l.length:=by rw[hll]; simp
 have hr0:=cX l 0 hl0
 have e0:l[0]=zG (l.take 1):=by subst hll; rfl
 rw[e0] at hr0;refine aA ?_;rw[hil];refine AWP.condN (l.length < 1) rfl rfl (fun h=>absurd h (by omega)) (fun _=>?_);refine aA ?_;refine AWP.loop (fun i:Nat=>[(0,.list 1 (inR l)),(3,iv (zG (l.take i))),(4,iv i)]) (fun _=>[]) (fun i=>1≤i∧i≤l.length) (fun i=>l.length - i) 1 ⟨Nat.le_refl _,hl0⟩ ?_ ?_
 ·(refine Sub.keep ?_; repeat' (first | exact trivial | exact Le.refl _ | refine⟨?_,?_⟩))
 rintro i ⟨h1,hi⟩;refine aA ?_;rw[hil];refine AWP.condN (i < l.length) rfl rfl (fun h=>?_) (fun h=>?_)
 ·have hr:=cX l i h
  have e1:(if l[i] > zG (l.take i) then l[i] else zG (l.take i))=zG (l.take (i+1)):=by
   rw[dA h];generalize l[i]=y
   obtain⟨j,rfl⟩:∃ j,i=j+1:=⟨i - 1,by omega⟩
   subst hll;simp only[List.take_succ_cons,zG,List.cons_append,List.foldl_append,List.foldl_cons,List.foldl_nil];omega
  refine aA ?_;refine⟨i+1,⟨by omega,by omega⟩,by omega,?_⟩;rw[e1]
  (refine Sub.keep ?_; repeat' (first | exact trivial | exact Le.refl _ | refine⟨?_,?_⟩))
 ·obtain rfl:l.length=i:=by omega
  rw[List.take_length];refine aA ?_;exact aG.w
theorem G6 (l:List Int) (hl:l≠[]):decide (zG l > 0)=l.any fun n=>decide (0 < n):=by
 obtain⟨x,r,rfl⟩:∃ x r,l=x::r:=by
  cases l with
  | nil=>exact absurd rfl hl
  | cons x r=>exact⟨x,r,rfl⟩
 have key:∀(r:List Int) (x:Int),decide (r.foldl max x > 0)=(decide (0 < x) || r.any fun n=>decide (0 < n)):=by
  intro r
  induction r with
  | nil=>intro x; simp
  | cons y r ih=>
   intro x;rw[List.foldl_cons,ih,List.any_cons,← Bool.or_assoc];congr 1;rw[← Bool.decide_or];congr 1;rw[eq_iff_iff];omega
 exact key r x
theorem LX (n lo hi:Int):aC Tryz.prog 194 [iv n,.cptr [iv lo],.cptr [iv hi]] (.sc (.bool (!aM n lo hi))):=by
 refine aC.mkI O3 (nlB rfl) ?_;have hw:=cZ n lo hi;refine aA ?_;exact aG.w
theorem HP (l:List Int) (lo hi:Int) (hn:l.length≤17592186044416):aC Tryz.prog 210 [.list 1 (inR l),.clo (.func 194) [] [.cptr [iv lo],.cptr [iv hi]]] (iv (if kS l lo hi=true then -1 else(l.findIdx (fun n=>!aM n lo hi):Nat))):=by
 refine aC.mkI NR (nlB rfl) ?_;have hil:=cH l;refine aA ?_;refine AWP.loop (fun i:Nat=>[(0,.list 1 (inR l)),(1,.clo (.func 194) [] [.cptr [iv lo],.cptr [iv hi]]),(6,.list 1 (inR l)),(7,iv l.length),(8,iv i)]) (fun _=>[]) (fun i=>i≤l.length∧∀ j (h:j < l.length),j < i→aM l[j] lo hi=true) (fun i=>l.length - i) 0 ⟨nZl _,fun j _ hj=>by omega⟩ ?_ ?_
 ·rw[← hil]
  (refine Sub.keep ?_; repeat' (first | exact trivial | exact Le.refl _ | refine⟨?_,?_⟩))
 rintro i ⟨hi',hin⟩;refine aA ?_;refine AWP.condN (i < l.length) rfl rfl (fun h=>?_) (fun h=>?_)
 ·have hr:=cX l i h
  have ha:=LX l[i] lo hi;refine aA ?_
  cases hw:aM l[i] lo hi with
  | true=>
   refine aA ?_;refine⟨i+1,⟨by omega,fun j hj hji=>?_⟩,by omega,?_⟩
   ·by_cases e:j=i
    ·subst e; exact hw
    ·exact hin j hj (by omega)
   (refine Sub.keep ?_; repeat' (first | exact trivial | exact Le.refl _ | refine⟨?_,?_⟩))
  | false=>
   have e1:kS l lo hi=false:=by
    unfold kS;exact List.all_eq_false.2 ⟨l[i],gMe _,by simp[hw]⟩
   have e2:l.findIdx (fun n=>!aM n lo hi)=i:=by
    rw[List.findIdx_eq h];exact⟨by simp[hw],fun j hj=>by simp[hin j (by omega) hj]⟩
   rw[e1,e2];refine aA ?_;exact aG.w
 ·obtain rfl:l.length=i:=by omega
  have e1:kS l lo hi=true:=List.all_eq_true.2 fun n hn=>by
   obtain⟨j,hj,rfl⟩:=List.getElem_of_mem hn;exact hin j hj hj
  rw[if_pos e1];refine aA ?_;exact aG.w
theorem P6 (l:List Int) (lo hi:Int) (hn:l.length≤17592186044416):aC Tryz.prog 193 [.list 1 (inR l),.clo (.func 194) [] [.cptr [iv lo],.cptr [iv hi]]] (.sc (.bool (!kS l lo hi))):=by
 refine aC.mkI NZ (nlB rfl) ?_;have hi':=HP l lo hi hn;refine aA ?_
 cases kS l lo hi with
 | true=>
  refine aA ?_;exact aG.w
 | false=>
  simp only[Bool.false_eq_true,if_false];refine aA ?_;exact aG.w
theorem DO (l:List Int) (lo hi:Int) (hn:l.length≤17592186044416):aC Tryz.prog 164 [.list 1 (inR l),iv lo,iv hi] (.sc (.bool (kS l lo hi))):=by
 refine aC.mkI OQ (nlB rfl) ?_;have hi':=P6 l lo hi hn;refine aA ?_
 (refine Reg.pv (by first | exact nZl _ | exact Nat.le_refl _ | (simp; done) | (simp; omega)) rfl hi' (by first | exact .sc _ | (exact .agg _ (fun c hc=>by simp at hc; rcases hc with h | h<;>subst h<;>exact .sc _)) | assumption) ?vw9 ?_; case vw9=>((all_goals (repeat' (first | exact aY.nil | exact aI.nil | exact bK.nil | exact ToL.nil | exact ToR.nil | refine aY.cons ?_ ?_ | refine aI.cons ?_ ?_ | refine fN ?_ ?_ | exact To.undef _ | exact To.sc _ | exact To.hslL rfl rfl | exact To.asl _ _ _ _ _ _ _ rfl | refine To.ifc _ _ _ ?_ | exact To.ptrO rfl rfl rfl | exact To.mrefO rfl | exact To.nil rfl rfl rfl | exact wt1 | exact To.nilL | refine To.int ?_ | refine To.bool ?_ | refine To.hslL rfl ?_ | refine wt2 rfl ?_ ?_ ?_ | refine To.tupL ?_ | refine To.aggL ?_ | refine To.cptrL ?_ | refine To.fzp rfl rfl rfl ?_ | refine To.fzm rfl rfl ?_ | refine To.cloL ?_ ?_ | refine wt3 ?_ | refine wt4 ?_ | exact wt5 | refine wt6 ?_ | refine ToB.one ?_ | exact wt7 | ((with_reducible apply ToL.consE); case e9=>rfl) | refine wt8 ?_ | refine ToL.cons ?_ ?_ | exact wt11 | refine wt9 ?_ ?_ | refine gM ?_ | exact .yld _ _ _ _ rfl | exact .dead _ | exact hlp _ _ _ _ rfl rfl rfl | exact hlp _ _ _ rfl rfl rfl | exact hlp _ _ _ rfl rfl | exact hlp _ _ _ rfl | (with_reducible rfl) | assumption)); all_goals (first | rfl | assumption | (simp; done) | (simp; omega)))))
 refine aA ?_;rw[Bool.not_not];refine aA ?_;exact aG.w
abbrev bv (b:Bool):AV:=.sc (.bool b)
def iK:Nat→Ty→Prop
 | 0,_=>True
 | n+1,.mk _ _ _ _ sz bl pl of=>of.length≤1099511627776∧sz.length≤17592186044416∧bl.length≤17592186044416∧pl.length≤17592186044416∧∀ u∈of,iK n u
 | _+1,.raw ..=>False
def d4:Nat→Ty→Bool
 | 0,_=>true
 | n+1,.mk _ _ _ _ _ _ _ of=>of.any (d4 n)
 | _+1,.raw ..=>true
def MU (n:Nat) (t:Ty):Prop:=iK n t∧d4 n t=false
theorem cK {n:Nat} {t:Ty} (h:iK (n+1) t):∃ m k c b s sz bl pl of,n+1=m+1∧t=.mk k c b s sz bl pl of∧of.length≤1099511627776∧sz.length≤17592186044416∧bl.length≤17592186044416∧pl.length≤17592186044416∧∀ u∈of,iK m u:=by
 cases t with
 | raw=>exact h.elim
 | mk k c b s sz bl pl of=>exact⟨n,k,c,b,s,sz,bl,pl,of,rfl,rfl,h.1,h.2.1,h.2.2.1,h.2.2.2.1,h.2.2.2.2⟩
theorem oE {n:Nat} {t:Ty} (h:MU n t):∃ m k c b s sz bl pl of,n=m+1∧t=.mk k c b s sz bl pl of∧of.length≤1099511627776∧sz.length≤17592186044416∧bl.length≤17592186044416∧pl.length≤17592186044416∧∀ u∈of,MU m u:=by
 obtain⟨h1,h2⟩:=h
 cases n with
 | zero=>cases h2
 | succ m=>
  obtain⟨q,k,c,b,s,sz,bl,pl,of,e,rfl,g1,g2,g3,g4,g5⟩:=cK h1
  obtain rfl:m=q:=by omega
  refine⟨m,k,c,b,s,sz,bl,pl,of,rfl,rfl,g1,g2,g3,g4,fun u hu=>⟨g5 u hu,?_⟩⟩;have:=List.any_eq_false.1 (show of.any (d4 m)=false from h2) u hu
  simpa using this
theorem rV:∀ t:Ty,(tyR t).length=8
 | .mk ..=>by rw[tyR]; rfl
 | .raw ..=>by rw[tyR]; rfl
theorem mM {g i:Nat} {fr:Fr} {H:Heap} {sz:Nat} {a:Operand} {r:List AV} (ha:ev fr a=.cptr r) (hl:r.length=sz):aD g i (.load sz true a) fr H=some (.agg r,H):=by
 subst hl;simp only[aD,ha,iW,Nat.ble_eq_true_of_le (Nat.le_refl _),List.take_length]
theorem QS (l:List Ty) (n:Nat) (lim:Int) (hn:l.length≤1099511627776) (h:∀ u∈l,aC Tryz.prog 160 [.agg (tyR u),.cptr [iv lim]] (bv (d4 n u))):∃ i:Int,-9223372036854775808≤i∧i≤9223372036854775807∧aC Tryz.prog 182 [.list 8 (aO l),.clo (.func 160) [] [.cptr [iv lim]]] (iv i)∧(decide (0≤i)=l.any (d4 n)):=by
 have hil:=oI l
 cases hany:l.any (d4 n) with
 | false=>
  refine⟨-1,by omega,by omega,?_,rfl⟩
  replace h:∀ u∈l,aC Tryz.prog 160 [.agg (tyR u),.cptr [iv lim]] (bv false):=fun u hu=>by
   have h2:=h u hu;have h3:=List.any_eq_false.1 hany u hu
   rwa[show d4 n u=false by simpa using h3] at h2
  refine aC.mkI KX (nlB rfl) ?_;refine aA ?_;refine AWP.loop (fun i:Nat=>[(0,.list 8 (aO l)),(1,.clo (.func 160) [] [.cptr [iv lim]]),(6,.list 8 (aO l)),(7,iv l.length),(8,iv i)]) (fun _=>[]) (fun i=>i≤l.length) (fun i=>l.length - i) 0 (nZl _) ?_ ?_
  ·rw[← hil]
   (refine Sub.keep ?_; repeat' (first | exact trivial | exact Le.refl _ | refine⟨?_,?_⟩))
  rintro i hi';refine aA ?_;refine AWP.condN (i < l.length) rfl rfl (fun h1=>?_) (fun h1=>?_)
  ·have hr:=rQ l i h1
   have ha:=h l[i] (gMe _);refine aA ?_;refine Reg.o rfl (mM rfl (rV _)) ?_;refine aA ?_;refine⟨i+1,by omega,by omega,?_⟩
   (refine Sub.keep ?_; repeat' (first | exact trivial | exact Le.refl _ | refine⟨?_,?_⟩))
  ·refine aA ?_
   exact aG.w
 | true=>
  obtain⟨j,hj,hjt,hjf⟩:∃ j,∃ h:j < l.length,d4 n l[j]=true∧∀ i (h:i < l.length),i < j→d4 n l[i]=false:=by
   obtain⟨j,hj⟩:∃ j,l.findIdx (d4 n)=j:=⟨_,rfl⟩
   have h1:l.findIdx (d4 n) < l.length:=List.findIdx_lt_length.2 (by simpa using hany);refine⟨l.findIdx (d4 n),h1,List.findIdx_getElem,fun i hi hij=>?_⟩;have:=List.not_of_lt_findIdx hij
   simpa using this
  refine⟨j,by omega,by omega,?_,by simp⟩;refine aC.mkI KX (nlB rfl) ?_;refine aA ?_;refine AWP.loop (fun i:Nat=>[(0,.list 8 (aO l)),(1,.clo (.func 160) [] [.cptr [iv lim]]),(6,.list 8 (aO l)),(7,iv l.length),(8,iv i)]) (fun _=>[]) (fun i=>i≤j) (fun i=>l.length - i) 0 (nZl _) ?_ ?_
  ·rw[← hil]
   (refine Sub.keep ?_; repeat' (first | exact trivial | exact Le.refl _ | refine⟨?_,?_⟩))
  rintro i hi'
  have hil2:i < l.length:=by omega
  have hr:=rQ l i hil2;have ha:=h l[i] (gMe _);refine aA ?_;rw[dTr hil2]
  rcases Nat.lt_or_ge i j with q | q
  ·rw[hjf i hil2 q] at ha
   refine aA ?_;refine Reg.o rfl (mM rfl (rV _)) ?_;refine aA ?_;refine⟨i+1,by omega,by omega,?_⟩
   (refine Sub.keep ?_; repeat' (first | exact trivial | exact Le.refl _ | refine⟨?_,?_⟩))
  ·obtain rfl:i=j:=by omega
   rw[hjt] at ha;refine aA ?_;refine Reg.o rfl (mM rfl (rV _)) ?_;refine aA ?_;exact aG.w
theorem LE (l:List Ty) (n:Nat) (lim:Int) (hn:l.length≤1099511627776) (h:∀ u∈l,aC Tryz.prog 160 [.agg (tyR u),.cptr [iv lim]] (bv (d4 n u))):aC Tryz.prog 159 [.list 8 (aO l),.clo (.func 160) [] [.cptr [iv lim]]] (bv (l.any (d4 n))):=by
 refine aC.mkI N4 (nlB rfl) ?_;obtain⟨i,h1,h2,hi',he⟩:=QS l n lim hn h;rw[← he];refine aA ?_;exact aG.w
theorem D3:∀(n:Nat) (t:Ty),iK n t→n≤100→aC Tryz.prog 132 [.agg (tyR t),iv n] (bv (d4 n t))
 | 0,t,_,_=>by
  rw[show d4 0 t=true by cases t<;>rfl];refine aC.mkI JV (nlB rfl) ?_
  cases t with
  | mk=>
   rw[tyR];refine aA ?_;exact aG.w
  | raw=>
   rw[tyR];refine aA ?_;exact aG.w
 | n+1,t,h,hm=>by
  obtain⟨m,k,c,b,s,sz,bl,pl,of,e,rfl,h1,_,_,_,h8⟩:=cK h
  obtain rfl:n=m:=by omega
  have hd:∀ u∈of,aC Tryz.prog 160 [.agg (tyR u),.cptr [iv (n+1:Nat)]] (bv (d4 n u)):=fun u hu=>by
   have h2:=D3 n u (h8 u hu) (by omega)
   have hn1:IntKind.i64.wrap (((n+1:Nat):Int) - 1)=(n:Int):=by rw[Av.wrap_small (by omega) (by omega)]; omega
   refine aC.mkI OT (nlB rfl) ?_;generalize d4 n u=d at *
   cases u with
   | mk=>
    rw[tyR] at h2 ⊢;refine aA ?_;exact aG.w
   | raw=>
    rw[tyR] at h2 ⊢;refine aA ?_;exact aG.w
  have ha:=LE of n (n+1:Nat) (by omega) hd;show aC Tryz.prog 132 [.agg (tyR (.mk k c b s sz bl pl of)),iv (n+1:Nat)] (bv (of.any (d4 n)));generalize of.any (d4 n)=d at *;refine aC.mkI JV (nlB rfl) ?_;rw[tyR];refine aA ?_
  (refine Reg.pv (by first | exact nZl _ | exact Nat.le_refl _ | (simp; done) | (simp; omega)) rfl ha (by first | exact .sc _ | (exact .agg _ (fun c hc=>by simp at hc; rcases hc with h | h<;>subst h<;>exact .sc _)) | assumption) ?vw9 ?_; case vw9=>((all_goals (repeat' (first | exact aY.nil | exact aI.nil | exact bK.nil | exact ToL.nil | exact ToR.nil | refine aY.cons ?_ ?_ | refine aI.cons ?_ ?_ | refine fN ?_ ?_ | exact To.undef _ | exact To.sc _ | exact To.hslL rfl rfl | exact To.asl _ _ _ _ _ _ _ rfl | refine To.ifc _ _ _ ?_ | exact To.ptrO rfl rfl rfl | exact To.mrefO rfl | exact To.nil rfl rfl rfl | exact wt1 | exact To.nilL | refine To.int ?_ | refine To.bool ?_ | refine To.hslL rfl ?_ | refine wt2 rfl ?_ ?_ ?_ | refine To.tupL ?_ | refine To.aggL ?_ | refine To.cptrL ?_ | refine To.fzp rfl rfl rfl ?_ | refine To.fzm rfl rfl ?_ | refine To.cloL ?_ ?_ | refine wt3 ?_ | refine wt4 ?_ | exact wt5 | refine wt6 ?_ | refine ToB.one ?_ | exact wt7 | ((with_reducible apply ToL.consE); case e9=>rfl) | refine wt8 ?_ | refine ToL.cons ?_ ?_ | exact wt11 | refine wt9 ?_ ?_ | refine gM ?_ | exact .yld _ _ _ _ rfl | exact .dead _ | exact hlp _ _ _ _ rfl rfl rfl | exact hlp _ _ _ rfl rfl rfl | exact hlp _ _ _ rfl rfl | exact hlp _ _ _ rfl | (with_reducible rfl) | assumption)); all_goals (first | rfl | assumption | (simp; done) | (simp; omega)))))
  refine aA ?_;exact aG.w
abbrev fnV (n:Nat):AV:=.sc (.func (.func n) #[] #[])
def B1 (k:Int):List AV:=
 if k=6 then[bv true,bv false,bv false,bv false,bv false,fnV 183,fnV 184] else
 if k=7 then[bv true,bv true,bv false,bv false,bv false,fnV 185,fnV 186] else
 if k=8 then[bv false,bv false,bv true,bv true,bv false,fnV 187,fnV 188] else
 if k=9 then[bv false,bv false,bv true,bv true,bv false,fnV 187,fnV 189] else
 if k=10 then[bv false,bv false,bv false,bv true,bv false,fnV 190,fnV 184] else
 if k=11 then[bv false,bv false,bv true,bv true,bv true,fnV 191,fnV 192] else
 [bv false,bv false,bv false,bv false,bv false,.sc .nilFunc,.sc .nilFunc]
theorem QZ (k:Int):aC Tryz.prog 161 [iv k] (.tup [.agg (B1 k),bv (decide (6≤k∧k≤11))]):=by
 have h:PR (B1 k):=⟨by unfold B1; split<;>(try split)<;>(try split)<;>(try split)<;>(try split)<;>(try split)<;>exact pr _⟩
 refine aC.mkI NT (nlB rfl) ?_;unfold B1
 by_cases h6:k=6
 ·subst h6
  refine aA ?_;exact aG.w
 by_cases h7:k=7
 ·subst h7
  refine aA ?_;exact aG.w
 by_cases h8:k=8
 ·subst h8
  refine aA ?_;exact aG.w
 by_cases h9:k=9
 ·subst h9
  refine aA ?_;exact aG.w
 by_cases h10:k=10
 ·subst h10
  refine aA ?_;exact aG.w
 by_cases h11:k=11
 ·subst h11
  refine aA ?_;exact aG.w
 rw[if_neg h6,if_neg h7,if_neg h8,if_neg h9,if_neg h10,if_neg h11,dFa (show¬ (6≤k∧k≤11) by omega)];refine aA ?_;refine Reg.o rfl (lZ rfl rfl rfl (r:=none) ?_) ?_
 ·simp[dM,h6,h7,h8,h9,h10,h11]
 refine aA ?_;exact aG.w
theorem Reg.join0 {P:Program} {N k:Nat} {xs:List IOper} {c:bL} {fr:Fr} {H:Heap} {K:Fr→Heap→Prop} {Q:Exit→Fr→Heap→Prop} (F':Fr) (H':Heap) (h1:Reg P N k xs fr H fun fr2 H2=>Sub k N fr2 H2 F' H')
  (h2:AWP P N k c Q F' H') (hq:∀ fr H,AWP P N k c Q fr H→K fr H:=by intro _ _ h; exact h):Reg P N k xs fr H K:=
 h1.mono fun _ _ h=>hq _ _ (AWP.sub h h2)
theorem vN (k c b st:Int) (sz bl pl:List Int) (of:List Ty) (c1 c2 c3 c4 c5 basic:Bool) (u v:Value) (hu:u.oneCell'=true) (hv:v.oneCell'=true) (_h1:of.length≤1099511627776) (h2:sz.length≤17592186044416) (h3:bl.length≤17592186044416) (_h4:pl.length≤17592186044416):
  aC Tryz.prog 162 [.agg (tyR (.mk k c b st sz bl pl of)),.agg [bv c1,bv c2,bv c3,bv c4,bv c5,.sc u,.sc v],bv basic]
   (iv (if CS c1 c2 c3 c4 c5 c b st sz bl pl of.length (ofG basic k of.length)=true then 2 else shG k sz bl pl (ofG basic k of.length))):=by
 rw[tyR];refine aC.mkI O0 (nlB rfl) ?_;have l1:=cH sz;have l2:=cH bl;have l3:=cH pl;have l4:=oI of;refine aA ?_;refine Reg.o rfl (CY rfl (show([bv c1,bv c2,bv c3,bv c4,bv c5,.sc u,.sc v]:List AV).all AV.cell1=true by simp only[List.all_cons,List.all_nil,AV.cell1,hu,hv,Bool.and_true]; rfl) rfl) ?_;refine aA ?_;refine AWP.joinB0 [(3,.cptr [iv k,iv c,iv b,iv st,.list 1 (inR sz),.list 1 (inR bl),.list 1 (inR pl),.list 8 (aO of)]),(4,.cptr [bv c1,bv c2,bv c3,bv c4,bv c5,.sc u,.sc v]),(7,iv (ofG basic k of.length:Nat))] [] ?_ ?_
 ·unfold ofG
  cases basic with
  | true=>
   refine aA ?_;exact Sub.w [] []
  | false=>
   refine aA ?_;refine AWP.condN (k=9) rfl rfl (fun h=>?_) (fun h=>?_)
   ·rw[if_neg (by simp),if_pos h]
    refine aA ?_;rw[l4];exact Sub.w [] []
   ·rw[if_neg (by simp),if_neg h]
    refine aA ?_;exact Sub.w [] []
 generalize ofG basic k of.length=m;refine aA ?_;unfold CS
 obtain⟨g1,e1⟩:∃ g,g=(!c1 && (c != 0)):=⟨_,rfl⟩
 obtain⟨g2,e2⟩:∃ g,g=(!c2 && ((b != 0) || (st != 0))):=⟨_,rfl⟩
 obtain⟨g3,e3⟩:∃ g,g=(!c3 && decide (0 < bl.length)):=⟨_,rfl⟩
 obtain⟨g4,e4⟩:∃ g,g=(!c4 && decide (0 < pl.length)):=⟨_,rfl⟩
 obtain⟨g5,e5⟩:∃ g,g=(!c5 && decide (0 < sz.length)):=⟨_,rfl⟩
 obtain⟨g6,e6⟩:∃ g,g=(!decide (of.length=m)):=⟨_,rfl⟩
 rw[← e1,← e2,← e3,← e4,← e5,← e6];refine Reg.join0 [(3,.cptr [iv k,iv c,iv b,iv st,.list 1 (inR sz),.list 1 (inR bl),.list 1 (inR pl),.list 8 (aO of)]),(4,.cptr [bv c1,bv c2,bv c3,bv c4,bv c5,.sc u,.sc v]),(7,iv m),(20,bv g1)] [] ?_ ?_
 ·rw[e1]
  cases c1 with
  | true=>
   refine aA ?_;exact Sub.w [] []
  | false=>
   refine aA ?_;exact Sub.wl [] []
 cases g1 with
 | true=>
  refine aA ?_;exact aG.w
 | false=>
 refine aA ?_;refine Reg.join0 [(3,.cptr [iv k,iv c,iv b,iv st,.list 1 (inR sz),.list 1 (inR bl),.list 1 (inR pl),.list 8 (aO of)]),(4,.cptr [bv c1,bv c2,bv c3,bv c4,bv c5,.sc u,.sc v]),(7,iv m),(20,bv g2)] [] ?_ ?_
 ·rw[e2]
  cases c2 with
  | true=>
   refine aA ?_;exact Sub.w [] []
  | false=>
   refine aA ?_
   cases (b != 0) with
   | true=>
    refine aA ?_;exact Sub.w [] []
   | false=>
    refine aA ?_;exact Sub.w [] []
 cases g2 with
 | true=>
  refine aA ?_;exact aG.w
 | false=>
 refine aA ?_;refine Reg.join0 [(3,.cptr [iv k,iv c,iv b,iv st,.list 1 (inR sz),.list 1 (inR bl),.list 1 (inR pl),.list 8 (aO of)]),(4,.cptr [bv c1,bv c2,bv c3,bv c4,bv c5,.sc u,.sc v]),(7,iv m),(20,bv g3)] [] ?_ ?_
 ·rw[e3]
  cases c3 with
  | true=>
   refine aA ?_;exact Sub.w [] []
  | false=>
   refine aA ?_
   try rw[l2]
   exact Sub.wl [] []
 cases g3 with
 | true=>
  refine aA ?_;exact aG.w
 | false=>
 refine aA ?_;refine Reg.join0 [(3,.cptr [iv k,iv c,iv b,iv st,.list 1 (inR sz),.list 1 (inR bl),.list 1 (inR pl),.list 8 (aO of)]),(4,.cptr [bv c1,bv c2,bv c3,bv c4,bv c5,.sc u,.sc v]),(7,iv m),(20,bv g4)] [] ?_ ?_
 ·rw[e4]
  cases c4 with
  | true=>
   refine aA ?_;exact Sub.w [] []
  | false=>
   refine aA ?_
   try rw[l3]
   exact Sub.wl [] []
 cases g4 with
 | true=>
  refine aA ?_;exact aG.w
 | false=>
 refine aA ?_;refine Reg.join0 [(3,.cptr [iv k,iv c,iv b,iv st,.list 1 (inR sz),.list 1 (inR bl),.list 1 (inR pl),.list 8 (aO of)]),(4,.cptr [bv c1,bv c2,bv c3,bv c4,bv c5,.sc u,.sc v]),(7,iv m),(20,bv g5)] [] ?_ ?_
 ·rw[e5]
  cases c5 with
  | true=>
   refine aA ?_;exact Sub.w [] []
  | false=>
   refine aA ?_
   try rw[l1]
   exact Sub.wl [] []
 cases g5 with
 | true=>
  refine aA ?_;exact aG.w
 | false=>
 refine aA ?_;rw[l4];refine AWP.condN (¬ of.length=m) rfl (by simp) (fun h=>?_) (fun h=>?_)
 ·obtain rfl:g6=true:=by rw[e6]; simp[h]
  refine aA ?_;exact aG.w
 obtain rfl:g6=false:=by rw[e6]; simpa using h
 rw[if_neg (show¬ ((false || (false || (false || (false || (false || false)))))=true) by decide)];unfold shG;have w1:=cZ (bl.length:Nat) 1 4096;have w2:=cZ (sz.length:Nat) 1 4;refine aA ?_;refine AWP.condN (k=8) rfl rfl (fun k8=>?_) (fun k8=>?_)
 ·rw[if_pos k8]
  refine aA ?_;rw[l2];refine aA ?_
  have hw:aM (bl.length:Nat) 1 4096=decide (1≤bl.length∧bl.length≤4096):=by
   unfold aM;rw[← Bool.decide_and];congr 1;rw[eq_iff_iff];omega
  rw[hw]
  by_cases hb:1≤bl.length∧bl.length≤4096
  ·rw[dTr hb]
   refine aA ?_;rw[l2,l3];refine aA ?_;refine AWP.condN (¬ pl.length=bl.length) rfl (by simp) (fun h=>?_) (fun h=>?_)
   ·rw[if_neg (fun q=>h q.2.2)]
    refine aA ?_;exact aG.w
   ·rw[if_pos ⟨hb.1,hb.2,dBc h⟩]
    refine aA ?_;exact aG.w
  ·rw[dFa hb]
   refine aA ?_;rw[if_neg (fun h=>hb ⟨h.1,h.2.1⟩)];exact aG.w
 rw[if_neg k8];refine aA ?_;refine AWP.condN (k=9) rfl rfl (fun k9=>?_) (fun k9=>?_)
 ·rw[if_pos k9]
  refine aA ?_;rw[l2];refine aA ?_
  by_cases hb:bl.length=m
  ·rw[dTr hb]
   refine aA ?_;rw[l3];refine aA ?_;refine AWP.condN (¬ pl.length=m) rfl (by simp) (fun h=>?_) (fun h=>?_)
   ·rw[if_neg (fun q=>h q.2)]
    refine aA ?_;exact aG.w
   ·rw[if_pos ⟨hb,dBc h⟩]
    refine aA ?_;exact aG.w
  ·rw[dFa hb]
   refine aA ?_;rw[if_neg (fun h=>hb h.1)];exact aG.w
 rw[if_neg k9];refine aA ?_;refine AWP.condN (k=10) rfl rfl (fun k10=>?_) (fun k10=>?_)
 ·rw[if_pos k10]
  refine aA ?_;rw[l3]
  by_cases hb:pl.length=2
  ·rw[dTr hb,if_pos hb]
   refine aA ?_;exact aG.w
  ·rw[dFa hb,if_neg hb]
   refine aA ?_;exact aG.w
 rw[if_neg k10];refine aA ?_;refine AWP.condN (k=11) rfl rfl (fun k11=>?_) (fun k11=>?_)
 ·rw[if_pos k11]
  refine aA ?_;rw[l1];refine aA ?_
  have hw:aM (sz.length:Nat) 1 4=decide (1≤sz.length∧sz.length≤4):=by
   unfold aM;rw[← Bool.decide_and];congr 1;rw[eq_iff_iff];omega
  rw[hw]
  by_cases hb:1≤sz.length∧sz.length≤4
  ·rw[dTr hb]
   refine aA ?_;rw[l1,l2]
   by_cases hb2:bl.length=sz.length
   ·rw[dTr hb2]
    refine aA ?_;rw[l1,l3];refine aA ?_;refine AWP.condN (¬ pl.length=sz.length) rfl (by simp) (fun h=>?_) (fun h=>?_)
    ·rw[if_neg (fun q=>h q.2.2.2)]
     refine aA ?_;exact aG.w
    ·rw[if_pos ⟨hb.1,hb.2,hb2,dBc h⟩]
     refine aA ?_;exact aG.w
   ·rw[dFa hb2]
    refine aA ?_;rw[if_neg (fun h=>hb2 h.2.2.1)];exact aG.w
  ·rw[dFa hb]
   refine aA ?_;rw[if_neg (fun h=>hb ⟨h.1,h.2.1⟩)];exact aG.w
 rw[if_neg k11];refine aA ?_;exact aG.w
section
variable (k c b st:Int) (sz bl pl:List Int) (of:List Ty)
theorem MW:aC Tryz.prog 183 [.agg (tyR (.mk k c b st sz bl pl of))] (bv (aM c 1 4096)):=by
 rw[tyR];refine aC.mkI OF (nlB rfl) ?_;have w:=cZ c 1 4096;refine aA ?_;exact aG.w
theorem LG:aC Tryz.prog 185 [.agg (tyR (.mk k c b st sz bl pl of))] (bv (aM c 1 4096 && aM b 1 4096)):=by
 rw[tyR];refine aC.mkI N7 (nlB rfl) ?_;have w:=cZ c 1 4096;have w2:=cZ b 1 4096;generalize aM c 1 4096=g at w ⊢
 cases g with
 | true=>
  refine aA ?_;exact aG.w
 | false=>
  refine aA ?_;exact aG.w
theorem MV (hb:bl≠[]) (hn:bl.length≤1000000):aC Tryz.prog 187 [.agg (tyR (.mk k c b st sz bl pl of))] (bv (vF bl)):=by
 rw[tyR];refine aC.mkI NV (nlB rfl) ?_;have w:=DO bl 0 4096 (by omega);have w2:=QW bl hb (by omega);have e:=G6 bl hb;unfold vF;rw[← e];generalize kS bl 0 4096=g at w ⊢
 cases g with
 | true=>
  refine aA ?_;exact aG.w
 | false=>
  refine aA ?_;exact aG.w
theorem HK (h:pl.length=2):aC Tryz.prog 190 [.agg (tyR (.mk k c b st sz bl pl of))] (bv (decide (0≤pl.getD 1 0))):=by
 rw[tyR];refine aC.mkI O4 (nlB rfl) ?_;have hr:=cX pl 1 (by omega)
 have e:pl.getD 1 0=pl[1]:=by simp[h]
 rw[e];refine aA ?_;exact aG.w
theorem MA (sz:List Int) (f:Nat→Bool) (i:Nat) (h:i < sz.length) (hf:f i=false):((List.range sz.length).all f)=false:=List.all_eq_false.2 ⟨i,List.mem_range.2 h,by simp[hf]⟩
theorem KQ (h1:sz.length≤4) (h2:bl.length=sz.length) (h3:pl.length=sz.length):aC Tryz.prog 191 [.agg (tyR (.mk k c b st sz bl pl of))] (bv (FU sz bl pl)):=by
 rw[tyR];refine aC.mkI N1 (nlB rfl) ?_;have l1:=cH sz;refine aA ?_;refine AWP.loop (fun i:Nat=>[(1,.cptr [iv k,iv c,iv b,iv st,.list 1 (inR sz),.list 1 (inR bl),.list 1 (inR pl),.list 8 (aO of)]),(6,.list 1 (inR sz)),(7,iv sz.length),(8,iv i)]) (fun _=>[]) (fun i=>i≤sz.length∧∀ j,j < i→(aM (sz.getD j 0) 1 4096 && aM (bl.getD j 0) 1 (sz.getD j 0) && aM (pl.getD j 0) 0 (sz.getD j 0 - bl.getD j 0))=true) (fun i=>sz.length - i) 0 ⟨nZl _,fun j hj=>by omega⟩ ?_ ?_
 ·rw[← l1]
  exact Sub.w [] []
 rintro i ⟨hi,hin⟩;refine aA ?_;refine AWP.condN (i < sz.length) rfl rfl (fun h=>?_) (fun h=>?_)
 ·have r1:=cX sz i h
  have r2:=cX bl i (by omega);have r3:=cX pl i (by omega)
  have e1:sz.getD i 0=sz[i]:=by simp[h]
  have e2:bl.getD i 0=bl[i]:=by simp[h2,h]
  have e3:pl.getD i 0=pl[i]:=by simp[h3,h]
  rw[← e1] at r1;rw[← e2] at r2;rw[← e3] at r3
  have hno:(aM (sz.getD i 0) 1 4096 && aM (bl.getD i 0) 1 (sz.getD i 0) && aM (pl.getD i 0) 0 (sz.getD i 0 - bl.getD i 0))=false→FU sz bl pl=false:=fun hf=>MA sz _ i h hf
  have hin':(aM (sz.getD i 0) 1 4096 && aM (bl.getD i 0) 1 (sz.getD i 0) && aM (pl.getD i 0) 0 (sz.getD i 0 - bl.getD i 0))=true→∀ j,j < i+1→(aM (sz.getD j 0) 1 4096 && aM (bl.getD j 0) 1 (sz.getD j 0) && aM (pl.getD j 0) 0 (sz.getD j 0 - bl.getD j 0))=true:=fun hf j hj=>by
   by_cases e:j=i
   ·subst e; exact hf
   ·exact hin j (by omega)
  generalize sz.getD i 0=a at *;generalize bl.getD i 0=a2 at *;generalize pl.getD i 0=a3 at *;have w1:=cZ a 1 4096;have w2:=cZ a2 1 a;have w3:=cZ a3 0 (a - a2)
  cases g1:aM a 1 4096 with
  | false=>
   rw[g1] at w1 hno;rw[hno rfl];refine aA ?_;refine DK.nil ⟨by kernel_rfl,?_⟩;refine aA ?_;exact aG.w
  | true=>
   rw[g1] at w1 hno hin'
   cases g2:aM a2 1 a with
   | false=>
    rw[g2] at w2 hno;rw[hno rfl];refine aA ?_;refine DK.nil ⟨by kernel_rfl,?_⟩;refine aA ?_;exact aG.w
   | true=>
    rw[g2] at w2 hno hin';simp only[aM,bAe,decide_eq_true_eq] at g1 g2;have ew:IntKind.i64.wrap (a - a2)=a - a2:=Av.wrap_small (by omega) (by omega)
    cases g3:aM a3 0 (a - a2) with
    | false=>
     rw[g3] at w3 hno;rw[hno rfl];refine aA ?_;rw[ew];refine aA ?_;refine DK.nil ⟨by kernel_rfl,?_⟩;refine aA ?_;exact aG.w
    | true=>
     rw[g3] at w3 hin';refine aA ?_;rw[ew];refine aA ?_;refine DK.nil ⟨by kernel_rfl,?_⟩;refine aA ?_;refine⟨i+1,⟨by omega,hin' rfl⟩,by omega,?_⟩;exact Sub.w [] []
 ·obtain rfl:sz.length=i:=by omega
  rw[show FU sz bl pl=true from List.all_eq_true.2 fun j hj=>hin j (List.mem_range.1 hj)];refine aA ?_;exact aG.w
end
def big:Int:=2000000000000000000
def tiF (p:Int×Int) (x:Int×Int):Int×Int:=(min p.1 x.2,max p.2 (x.2+bH x.1))
theorem hZ (k:Int):bH k≤8:=by
 unfold bH
 repeat' split
 all_goals omega
theorem KE (l:List (Int×Int)) (hl:l≠[]) (hn:l.length≤1000000) (hb:∀ x∈l,-big≤x.2∧x.2≤big):aC Tryz.prog 195 [.list 2 (enR l)] (.tup [iv (cA l).1,iv (cA l).2]):=by
 refine aC.mkI OM (nlB rfl) ?_;have hil:=dH l;have h0:0 < l.length:=List.length_pos_iff.2 hl;have hr0:=iH l 0 h0
 obtain⟨a,ha⟩:∃ a,a=l[0].2:=⟨_,rfl⟩
 rw[← ha] at hr0
 have ht:cA l=l.foldl tiF (a,a):=by
  unfold cA;rw[show(l.headD (0,0)).2=a by rw[ha]; cases l with | nil=>exact absurd rfl hl | cons x r=>rfl];rfl
 rw[ht];refine aA ?_;refine DK.nil ⟨by kernel_rfl,?_⟩;refine aA ?_;refine AWP.loop (fun i:Nat=>[(4,iv ((l.take i).foldl tiF (a,a)).1),(5,iv ((l.take i).foldl tiF (a,a)).2),(16,.list 2 (enR l)),(17,iv l.length),(18,iv i)]) (fun _=>[]) (fun i=>i≤l.length) (fun i=>l.length - i) 0 (nZl _) ?_ ?_
 ·rw[← hil]
  exact Sub.w [] []
 rintro i hi;refine aA ?_;refine AWP.condN (i < l.length) rfl rfl (fun h=>?_) (fun h=>?_)
 ·have hr:=iH l i h
  have hx:=hb l[i] (gMe _);have w:=oY l[i].1;have hs:=hZ l[i].1
  have e:(l.take (i+1)).foldl tiF (a,a)=tiF ((l.take i).foldl tiF (a,a)) l[i]:=by
   rw[dA h,List.foldl_append];rfl
  generalize l[i]=x at *;obtain⟨kd,at'⟩:=x;generalize (l.take i).foldl tiF (a,a)=p at *;obtain⟨lo,hi2⟩:=p;unfold big at hx;obtain⟨hx1,hx2⟩:=hx;replace hx1:-2000000000000000000≤at':=hx1;replace hx2:at'≤2000000000000000000:=hx2;replace hs:bH kd≤8:=hs;have ew:IntKind.i64.wrap (at'+(bH kd:Nat))=at'+(bH kd:Nat):=Av.wrap_small (by omega) (by omega);refine aA ?_;rw[ew];refine aA ?_;refine DK.nil ⟨by kernel_rfl,?_⟩;refine aA ?_;refine⟨i+1,by omega,by omega,?_⟩;rw[e];unfold tiF;exact Sub.wl [] []
 ·obtain rfl:l.length=i:=by omega
  rw[List.take_length];refine aA ?_;exact aG.w
def rkS (bl:List Int) (a:List Nat):Nat→Nat
 | 0=>0
 | k+1=>rkS bl a k * (bl.getD k 0).toNat+a.getD k 0
def prS (bl:List Int):Nat→Nat
 | 0=>1
 | k+1=>prS bl k * (bl.getD k 0).toNat
def okD (bl:List Int) (n:Nat) (a:List Nat):Prop:=∀ i,i < n→a.getD i 0 < (bl.getD i 0).toNat
theorem sM {bl:List Int} {a b:List Nat}:∀ {k:Nat},(∀ i,i < k→a.getD i 0=b.getD i 0)→rkS bl a k=rkS bl b k
 | 0,_=>rfl
 | k+1,h=>by
  rw[rkS,rkS,sM fun i hi=>h i (by omega),h k (by omega)]
theorem fO {a:List Nat} {k v i:Nat} (h:k < a.length):(a.set k v).getD i 0=if k=i then v else a.getD i 0:=by
 simp only[List.getD_eq_getElem?_getD,List.getElem?_set]
 by_cases e:k=i
 ·subst e; simp[h]
 ·simp[e]
theorem AY {bl:List Int} {n:Nat}:∀(k:Nat) (a:List Nat),k≤n→a.length=n→okD bl k a→match sV bl k a with
  | some b=>b.length=n∧(∀ i,k≤i→b.getD i 0=a.getD i 0)∧okD bl k b∧rkS bl b k=rkS bl a k+1
  | none=>rkS bl a k+1=prS bl k
 | 0,a,_,_,_=>rfl
 | k+1,a,hk,hl,ha=>by
  have hak:=ha k (by omega)
  have hkl:k < a.length:=by omega
  rw[sV]
  by_cases h:((a.getD k 0:Nat):Int)+1 < bl.getD k 0
  ·rw[if_pos h]
   refine⟨by rw[List.length_set]; exact hl,fun i hi=>?_,fun i hi=>?_,?_⟩
   ·rw[fO hkl,if_neg (by omega)]
   ·rw[fO hkl]
    split
    ·rename_i e; subst e; omega
    ·exact ha i hi
   ·rw[rkS,rkS,fO hkl,if_pos rfl,sM (b:=a) fun i hi=>by rw[fO hkl,if_neg (by omega)]]
    omega
  ·rw[if_neg h]
   have e1:(bl.getD k 0).toNat=a.getD k 0+1:=by omega
   have hz:rkS bl (a.set k 0) k=rkS bl a k:=sM fun i hi=>by rw[fO hkl,if_neg (by omega)]
   have ih:=AY (n:=n) k (a.set k 0) (by omega) (by rw[List.length_set]; exact hl) fun i hi=>by
    rw[fO hkl,if_neg (by omega)];exact ha i (by omega)
   cases hi:sV bl k (a.set k 0) with
   | none=>
    rw[hi] at ih;simp only at ih ⊢;have e2:(rkS bl a k+1) * (a.getD k 0+1)=rkS bl a k * (a.getD k 0+1)+(a.getD k 0+1):=Nat.succ_mul _ _;rw[rkS,prS,← ih,hz,e1];omega
   | some b=>
    rw[hi] at ih;simp only at ih ⊢;obtain⟨i1,i2,i3,i4⟩:=ih
    have hbk:b.getD k 0=0:=by rw[i2 k (Nat.le_refl _),fO hkl,if_pos rfl]
    refine⟨i1,fun i hi'=>?_,fun i hi'=>?_,?_⟩
    ·rw[i2 i (by omega),fO hkl,if_neg (by omega)]
    ·by_cases e:i=k
     ·subst e; rw[hbk]; omega
     ·exact i3 i (by omega)
    ·have e2:(rkS bl a k+1) * (a.getD k 0+1)=rkS bl a k * (a.getD k 0+1)+(a.getD k 0+1):=Nat.succ_mul _ _
     rw[rkS,rkS,i4,hz,hbk,e1];omega
theorem KY {bl:List Int} {a:List Nat}:∀ {k:Nat},okD bl k a→rkS bl a k < prS bl k
 | 0,_=>Nat.one_pos
 | k+1,h=>by
  have h1:rkS bl a k < prS bl k:=KY fun i hi=>h i (by omega)
  have h2:=h k (by omega);rw[rkS,prS]
  calc rkS bl a k * (bl.getD k 0).toNat+a.getD k 0 < rkS bl a k * (bl.getD k 0).toNat+(bl.getD k 0).toNat:=by omega
   _=(rkS bl a k+1) * (bl.getD k 0).toNat:=by rw[Nat.succ_mul]
   _≤_:=Nat.mul_le_mul_right _ h1
theorem tS {bl:List Int}:∀ {k:Nat},k≤bl.length→((bl.take k).map Int.toNat).foldl (· * ·) 1=prS bl k
 | 0,_=>by simp[prS]
 | k+1,h=>by
  have hk:k < bl.length:=by omega
  rw[List.take_add_one,gEg hk,List.map_append,List.foldl_append,tS (by omega),prS];simp[hk]
theorem DD {bl:List Int} {n:Nat}:∀ {k:Nat},rkS bl (List.replicate n 0) k=0
 | 0=>rfl
 | k+1=>by
  rw[rkS,DD];simp[List.getD_eq_getElem?_getD,List.getElem?_replicate]
  split<;>rfl
end Go.Proofs.YtgdocflpobncmaaGreat
