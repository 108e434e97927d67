import Derived.Test.YtkjoolaahocgdaaGreatGWiK3
import Derived.Test.YtkjoolaahocgdaaGreatGWiL
import Derived.Test.YtkjoolaahocgdaaGreatGWiA6
import Derived.Test.YtkjoolaahocgdaaGreatGWiK1
namespace Go.Proofs.YtkjoolaahocgdaaGreat
open Go.Av Go.Proofs
set_option maxRecDepth 20000
set_option linter.unusedVariables false
set_option maxHeartbeats 8000000 in
theorem M4 (l:List Int) (hl:l.length≤1000000):aD Tryz.prog 21 [.list 1 (aU l),.list 1 (aU l)] (.sc (.bool true)):=by
 refine aD.mkI cF21 (nlB rfl) ?_
 have e0:=cC l
 refine aA ?_
 rw[e0]
 rw[show(!decide (l.length=l.length))=false by simp]
 refine aA ?_
 refine AWP.loop (fun k:Nat=>[(0,.list 1 (aU l)),(1,.list 1 (aU l)),(5,.sc (.int .i64 (k:Int)))]) (fun _=>[]) (fun k=>k≤l.length) (fun k=>l.length - k) 0 (Nat.zero_le _) ?_ ?_
 ·exact Sub.w [] []
 rintro k hk
 refine aA ?_
 rw[e0]
 refine aA ?_
 refine AWP.condD rfl (fun h=>?_) (fun h=>?_)
 ·have hx:=iI l k h
  generalize l[k]=x at *
  refine aA ?_
  refine DK.nil ⟨by kernel_rfl,?_⟩
  refine aA ?_
  rw[show(x != x)=false by simp]
  refine aA ?_
  refine⟨k+1,by omega,by omega,?_⟩
  exact Sub.w [] []
 ·refine aA ?_
  exact aN.w
theorem oL {n k:Nat} {f:Nat→AV} (h:k < n):cQ (row1 n f) (k:Int)=some [f k]:=by
 rw[iU,eP h]
set_option maxHeartbeats 8000000 in
theorem w5 (n:Nat) (f:Nat→List Int) (hn:n≤1000000) (hf:∀ r,r < n→(f r).length≤1000000):aD Tryz.prog 20 [.list 1 (row1 n fun r=>.list 1 (aU (f r))),.list 1 (row1 n fun r=>.list 1 (aU (f r)))] (.sc (.bool true)):=by
 refine aD.mkI cF20 (nlB rfl) ?_
 have e0:(row1 n fun r=>AV.list 1 (aU (f r))).length=n:=cJ _ _
 have hr:PRs (row1 n fun r=>AV.list 1 (aU (f r))):=inferInstance
 have hg:=fun k (h:k < n)=>oL (f:=fun r=>AV.list 1 (aU (f r))) h
 generalize (row1 n fun r=>AV.list 1 (aU (f r)))=R at *
 refine aA ?_
 rw[e0]
 rw[show(!decide (n=n))=false by simp]
 refine aA ?_
 refine AWP.loop (fun k:Nat=>[(0,.list 1 R),(1,.list 1 R),(5,.sc (.int .i64 (k:Int)))]) (fun _=>[]) (fun k=>k≤n) (fun k=>n - k) 0 (Nat.zero_le _) ?_ ?_
 ·exact Sub.w [] []
 rintro k hk
 refine aA ?_
 rw[e0]
 refine aA ?_
 refine AWP.condD rfl (fun h=>?_) (fun h=>?_)
 ·have hx:=hg k h
  have hfl:=hf k h
  generalize f k=l at *
  have e1:=cC l
  refine aA ?_
  refine DK.nil ⟨by kernel_rfl,?_⟩
  refine aA ?_
  rw[e1]
  rw[show(!decide (l.length=l.length))=false by simp]
  refine aA ?_
  refine AWP.loop (fun i:Nat=>[(0,.list 1 R),(1,.list 1 R),(5,.sc (.int .i64 (k:Int))),(6,.sc (.int .i64 (i:Int)))]) (fun _=>[]) (fun i=>i≤l.length) (fun i=>l.length - i) 0 (Nat.zero_le _) ?_ ?_
  ·exact Sub.w [] []
  rintro i hi
  refine aA ?_
  rw[e1]
  refine aA ?_
  refine AWP.condD rfl (fun h2=>?_) (fun h2=>?_)
  ·have hx2:=iI l i h2
   generalize l[i]=x at *
   refine aA ?_
   refine DK.nil ⟨by kernel_rfl,?_⟩
   refine aA ?_
   rw[show(x != x)=false by simp]
   refine aA ?_
   refine⟨i+1,by omega,by omega,?_⟩
   exact Sub.w [] []
  ·refine aA ?_
   refine⟨k+1,by omega,by omega,?_⟩
   exact Sub.w [] []
 ·refine aA ?_
  exact aN.w
def vN (a b:Nat) (p:Pg):Bool:=decide (p.acts.length≤a) && p.acts.all (fun l=>decide (l.length≤b)) && decide ((cL p).1.2=0)
theorem N7 {α:Type} {f:α→Bool} {l:List α} {k:Nat} (h:k < l.length) (h1:(l.take k).all f=true) (h2:f l[k]=true):(l.take (k+1)).all f=true:=by
 rw[List.take_succ_eq_append_getElem h,List.all_append,h1]
 simp[h2]
theorem QC {α:Type} {f:α→Bool} {l:List α} {k:Nat} (h:k < l.length) (h2:f l[k]=false):l.all f=false:=by
 rw[List.all_eq_false]
 exact⟨l[k],List.getElem_mem h,by simp[h2]⟩
set_option maxHeartbeats 8000000 in
theorem F0 (a b:Nat) (p:Pg) (hp:POK p) (hn:p.acts.length≤9223372036854775807) (hl:∀ l∈p.acts,l.length≤9223372036854775807):aD Tryz.prog 26 [dH p,.sc (.int .i64 (a:Int)),.sc (.int .i64 (b:Int))] (.sc (.bool (vN a b p))):=by
 refine aD.mkI cF26 (nlB rfl) ?_
 have e0:=eS p.acts
 have hc:=zD p hp
 unfold vN
 unfold plA at hc
 unfold dH at *
 generalize (cL p).1=C at *
 refine aA ?_
 rw[e0]
 by_cases c1:p.acts.length≤a
 ·rw[show decide (p.acts.length > a)=false from dFa (by omega),dTr c1,Bool.true_and]
  refine aA ?_
  refine AWP.loop (fun k:Nat=>[(1,.sc (.int .i64 (a:Int))),(2,.sc (.int .i64 (b:Int))),(3,.cptr [.sc (.int .i64 p.cells),.list 1 (bV p.acts)]),(7,.sc (.int .i64 (k:Int)))]) (fun _=>[]) (fun k=>k≤p.acts.length∧((p.acts.take k).all fun l=>decide (l.length≤b))=true) (fun k=>p.acts.length - k) 0 ⟨Nat.zero_le _,rfl⟩ ?_ ?_
  ·exact Sub.w [] []
  rintro k ⟨hk,hA⟩
  refine aA ?_
  rw[e0]
  refine aA ?_
  refine AWP.condD rfl (fun h=>?_) (fun h=>?_)
  ·have hpx:=uD p.acts k h
   have hll:=hl _ (List.getElem_mem h)
   have hno:=QC (f:=fun l:List Act=>decide (l.length≤b)) h
   have hys:=N7 (f:=fun l:List Act=>decide (l.length≤b)) h hA
   generalize p.acts[k]=l at *
   have e1:=fF l
   refine aA ?_
   rw[e1]
   by_cases c2:l.length≤b
   ·rw[show decide (l.length > b)=false from dFa (by omega)]
    refine aA ?_
    refine⟨k+1,⟨by omega,hys (dTr c2)⟩,by omega,?_⟩
    exact Sub.w [] []
   ·rw[show decide (l.length > b)=true from dTr (by omega)]
    rw[hno (dFa c2)]
    refine aA ?_
    exact aN.w
  ·rw[List.take_of_length_le (by omega)] at hA
   rw[hA,Bool.true_and]
   obtain⟨⟨u,v⟩,e⟩:=C
   dsimp only at hc ⊢
   refine aA ?_
   exact aN.w
 ·rw[show decide (p.acts.length > a)=true from dTr (by omega),dFa c1]
  refine aA ?_
  exact aN.w
def oZ (p:Pg):List Pl:=(List.range p.acts.length).flatMap fun r=>(List.range (aW p r)).map fun i=>(r,i)
theorem qA (p:Pg) (ls:List Ln) (o:Ord):iO p ls o=(oZ p).foldl (fun s x=>g8 p ls o x.1 s x.2) ([],[]):=by
 unfold iO oZ
 rw[List.foldl_flatMap]
 congr 1
 funext s r
 rw[List.foldl_map]
 rfl
theorem G7 {p:Pg} {ls:List Ln} {o:Ord}:∀(L:List Pl) (s:RS),(L.foldl (fun s x=>g8 p ls o x.1 s x.2) s).2=[]→s.2=[]∧(∀ y∈L,(iP ls y).isSome→∀ x∈s.1,gB p ls o x y=false)∧L.Pairwise fun x y=>(iP ls x).isSome→(iP ls y).isSome→gB p ls o x y=false
 | [],s,h=>⟨h,fun _ h=>(by cases h),List.Pairwise.nil⟩
 | a::L,s,h=>by
  rw[List.foldl_cons] at h
  obtain⟨h1,h2,h3⟩:=G7 L _ h
  unfold g8 at h1 h2
  cases ha:iP ls (a.1,a.2) with
  | none=>
   rw[ha] at h1 h2
   have ha':iP ls a=none:=ha
   refine⟨h1,fun y hy hyA=>?_,List.pairwise_cons.2 ⟨fun y hy hA=>?_,h3⟩⟩
   ·rcases List.mem_cons.1 hy with rfl | hy
    ·rw[ha'] at hyA; cases hyA
    ·exact h2 y hy hyA
   ·rw[ha'] at hA; cases hA
  | some c=>
   rw[ha] at h1 h2
   dsimp only at h1 h2
   obtain⟨q1,q2⟩:=List.append_eq_nil_iff.1 h1
   refine⟨q1,fun y hy hyA x hx=>?_,List.pairwise_cons.2 ⟨fun y hy _ hyA=>h2 y hy hyA a (by simp),h3⟩⟩
   rcases List.mem_cons.1 hy with rfl | hy
   ·by_cases e:gB p ls o x y=true
    ·have:=List.map_eq_nil_iff.1 q2
     have hm:x∈s.1.filter fun z=>gB p ls o z (y.1,y.2):=List.mem_filter.2 ⟨hx,e⟩
     rw[this] at hm
     cases hm
    ·simpa using e
   ·exact h2 y hy hyA x (by simp[hx])
theorem T9 {α:Type} {R:α→α→Prop}:∀ {l:List α},l.Pairwise R→∀ x∈l,∀ y∈l,x≠y→R x y∨R y x
 | [],_,x,hx,_,_,_=>by cases hx
 | a::l,h,x,hx,y,hy,hne=>by
  obtain⟨h1,h2⟩:=List.pairwise_cons.1 h
  rcases List.mem_cons.1 hx with ex | hx2
  ·rcases List.mem_cons.1 hy with ey | hy2
   ·exact absurd (ex.trans ey.symm) hne
   ·rw[ex]; exact .inl (h1 y hy2)
  ·rcases List.mem_cons.1 hy with ey | hy2
   ·rw[ey]; exact .inr (h1 x hx2)
   ·exact T9 h2 x hx2 y hy2 hne
theorem mD {p:Pg} {x:Pl}:x∈oZ p↔x.1 < p.acts.length∧x.2 < aW p x.1:=by
 unfold oZ
 rw[List.mem_flatMap]
 constructor
 ·rintro⟨r,hr,hx⟩
  obtain⟨i,hi,rfl⟩:=List.mem_map.1 hx
  exact⟨List.mem_range.1 hr,List.mem_range.1 hi⟩
 ·rintro⟨h1,h2⟩
  exact⟨x.1,List.mem_range.2 h1,List.mem_map.2 ⟨x.2,List.mem_range.2 h2,rfl⟩⟩
theorem L8 (x y:Act):tJ x y=tJ y x:=by
 unfold tJ
 rw[Bool.and_comm (exP x.k),Bool.and_comm (decide (x.k=3)),show decide (x.o=y.o)=decide (y.o=x.o) from decide_eq_decide.2 ⟨Eq.symm,Eq.symm⟩]
theorem OF {p:Pg} {ls:List Ln} (hC:bL p ls) (h:(iO p ls (eE ls.length p ls)).2=[]):QJ p ls:=by
 rw[qA] at h
 obtain⟨_,_,hp⟩:=G7 _ _ h
 intro x y hx hy hxl hyl kx ky hne hcl hcf
 have hn:=hC.len
 obtain⟨a1,a2,_,_,a5⟩:=rM hC (r:=x.1) (i:=x.2) hxl kx
 obtain⟨b1,b2,_,_,b5⟩:=rM hC (r:=y.1) (i:=y.2) hyl ky
 have key:∀ x y:Pl,(iP ls x).isSome→(iP ls y).isSome→(acN ls x).r=(acN ls y).r→(acN ls x).a=(acN ls y).a→cE ls x=cE ls y→tJ (bA p x) (bA p y)=true→gB p ls (eE ls.length p ls) x y=false→Bef p ls x y∨Bef p ls y x:=fun x y h1 h2 h3 h4 h5 h6 h7=>by
  obtain⟨c,hc⟩:=Option.isSome_iff_exists.1 h1
  obtain⟨d,hd⟩:=Option.isSome_iff_exists.1 h2
  unfold gB at h7
  unfold acN at h3 h4
  rw[hc,hd] at h7 h3 h4
  simp only[Option.getD_some] at h3 h4
  dsimp only at h7
  rw[dTr h3,dTr h4,h6] at h7
  simp only[Bool.true_and,Bool.and_eq_false_iff,Bool.not_eq_false'] at h7
  rcases h7 with h7 | h7
  ·exact .inl ⟨h5,h7⟩
  ·exact .inr ⟨h5.symm,h7⟩
 have e1:(acN ls x).r=(acN ls y).r:=by
  rw[show(acN ls x).r=((cE ls x).1:Int) from a1,hcl]; exact b1.symm
 have e2:(acN ls x).a=(acN ls y).a:=by
  rw[show(acN ls x).a=((cE ls x).2:Int) from a2,hcl]; exact b2.symm
 rcases T9 hp x (mD.2 ⟨by omega,hxl⟩) y (mD.2 ⟨by omega,hyl⟩) hne with q | q
 ·exact key x y a5 b5 e1 e2 hcl hcf (q a5 b5)
 ·exact(key y x b5 a5 e1.symm e2.symm hcl.symm (by rw[L8]; exact hcf) (q b5 a5)).symm
theorem JB {p:Pg} {ls:List Ln} {o:Ord} (h:g9 p ls o=[]):(iO p ls o).2=[]:=by
 have:=congrArg List.length h
 unfold g9 pG at this
 rw[List.length_mergeSort] at this
 exact List.length_eq_zero_iff.1 this
theorem MX {a b:List Int} (hl:a.length=b.length) (h:∀ j,a.getD j 0=b.getD j 0):a=b:=by
 refine List.ext_getElem hl fun j h1 h2=>?_
 have:=h j
 rw[List.getD_eq_getElem?_getD,List.getD_eq_getElem?_getD,gEg h1,gEg h2] at this
 exact this
theorem QD {p:Pg} {ls:List Ln} {s s':St} (hS:bF p ls s) (hS':bF p ls s') (h:k7 s=k7 s'):iM ls.length s=iM ls.length s':=by
 unfold iM
 refine l6 fun r hr=>?_
 have:aT s r=aT s' r:=MX (by rw[hS.m r hr,hS'.m r hr]) fun j=>congrFun (congrFun (congrArg Ab.m h) r) j
 rw[this]
theorem N1 {p:Pg} {ls:List Ln} {s s':St} (h:k7 s=k7 s'):eK p s ls.length=eK p s' ls.length:=by
 unfold eK
 refine l6 fun r hr=>?_
 have:g7 p s r=g7 p s' r:=by
  unfold g7 i8
  congr 1
  funext i
  exact congrFun (congrFun (congrArg Ab.g h) r) i
 rw[this]
theorem J0 {p:Pg} {s s':St} {n:Nat} (h:∀ r,r < n→dAt s r=dAt s' r):dA p s n=dA p s' n:=by
 unfold dA
 refine List.filter_congr fun r hr=>?_
 unfold lV
 have:=h r (List.mem_range.1 hr)
 unfold dAt at this
 rw[this]
theorem EA {p:Pg} {ls:List Ln} (hC:bL p ls) {a:Nat} (ha:a < 18446744073709551616):bF p ls (eQ p ls (st0 p ls.length a)):=by
 obtain⟨_,_,h,_⟩:=uO hC (I:=fun _ _=>True) (fun _ _ _ _ _ _ _ _=>trivial) (bF.st0 (p:=p) (ls:=ls) ha) trivial
 exact h
def kPl (x:Pl):Nat:=x.1 * 128+x.2
theorem vL {p:Pg} (hS:SOK p):∀ n,((List.range n).flatMap fun r=>(List.range (aW p r)).map fun i=>(r,i)).Pairwise (fun a b:Pl=>kPl a < kPl b)
 | 0=>List.Pairwise.nil
 | n+1=>by
  rw[List.range_succ,List.flatMap_append]
  refine List.pairwise_append.2 ⟨vL hS n,?_,fun x hx y hy=>?_⟩
  ·rw[List.flatMap_cons,List.flatMap_nil,List.append_nil]
   refine List.Pairwise.map _ (fun i j hij=>?_) List.pairwise_lt_range
   unfold kPl
   dsimp only
   omega
  ·obtain⟨r,hr,hx⟩:=List.mem_flatMap.1 hx
   obtain⟨i,hi,rfl⟩:=List.mem_map.1 hx
   rw[List.flatMap_cons,List.flatMap_nil,List.append_nil] at hy
   obtain⟨j,hj,rfl⟩:=List.mem_map.1 hy
   have:=List.mem_range.1 hr
   have:=List.mem_range.1 hi
   have:=hS r
   unfold kPl
   dsimp only
   omega
end Go.Proofs.YtkjoolaahocgdaaGreat
