import Derived.Test.YtgdocflpobncmaaGreatGAvMv
import Derived.Shelf.Sort.Plain
import Derived.Shelf.Slices.In.SortNone
import Derived.Test.YtgdocflpobncmaaGreatGFtQ1
import Derived.Test.YtgdocflpobncmaaGreatGAvK5
namespace Go.Av
open Go.Proofs Go.Shelf Go.RowKit Go.Sort
abbrev ivR (l:List Int):List (List AV):=l.map fun x=>[.sc (.int .i64 x)]
theorem D0 {l:List Int} {i:Nat} {r:List AV} (h:(ivR l)[i]?=some r):∃ x,l[i]?=some x∧r=[.sc (.int .i64 x)]:=by
 rw[List.getElem?_map] at h
 obtain⟨x,hx,rfl⟩:=Option.map_eq_some_iff.1 h
 exact⟨x,hx,rfl⟩
theorem yJ {f:Int→Value} {d:Array Int} {cs:Array Value} {j:Nat} (hj:j < d.size) (hc:j < cs.size):(putCells f 0 d cs)[j]?=some (f d[j]!):=by
 unfold putCells
 rw[Array.getElem?_mapIdx,Array.getElem?_eq_getElem hc]
 simp[hj]
theorem zU {l:List Int} {i:Nat} {x:Int} (h:l[i]?=some x):l.toArray[i]! = x:=by
 obtain⟨h1,h2⟩:=gEs.1 h
 rw[getElem!_pos l.toArray i (by simpa using h1)]
 simpa using h2
set_option maxHeartbeats 4000000 in
theorem aF.sortInts {P:Program} {ρ:Go.Shelf.Ren} (L:Lays.n189 P ρ) (hf:Callable P (ρ.f 189)) (l:List Int) (hl:l.length < 4611686018427387904):
  aF P (ρ.f 189) [.hsl 0 0 0 l.length] [[.cells 1 (ivR l)]] fun res H'=>res=.tup []∧H'=[[.cells 1 (ivR (l.mergeSort fun x y=>decide (x≤y)))]]:=by
 refine⟨hf,fun M J w cargs ha hr hH hM=>?_⟩
 obtain⟨c0,rfl⟩:∃ c0,cargs=#[c0]:=by
  obtain⟨l⟩:=cargs
  match l,ha with
  | [a],_=>exact⟨a,rfl⟩
 have r0:=hr 0 _ c0 rfl rfl
 have hlen:(l.mergeSort fun x y=>decide (x≤y)).length=l.length:=List.length_mergeSort _
 obtain⟨lc,hJ,hB⟩:=hH.blk 0 0 _ rfl rfl
 generalize hn:l.length=n at r0
 cases r0 with
 | hslNil _ _ a l' hJ' hb=>
  obtain rfl:l=[]:=List.eq_nil_of_length_eq_zero hn
  refine(Any.slices_Sort_int_none L a 0 w).mono ?_
  rintro e w' ⟨rfl,rfl⟩
  exact⟨_,M,J,.tup [],_,rfl,.refl _ hH hM,.tup _ _ rfl (fun j c v hc=>by cases hc),rfl,by simp⟩
 | hsl _ _ _ _ cap β lc' hJ' hb hc hlc=>
  obtain rfl:lc'=lc:=by rw[hJ] at hJ'; injection hJ' with e; exact e.symm
  unfold d9 at hB
  rw[hb] at hB
  obtain⟨hsz,hrows,cs,ty,⟨ff,hheap,hff⟩,hcs,hle,hone,hrep⟩:=hB
  rw[List.length_map] at hle hone
  obtain rfl:=hn
  have hcell:∀ i x,l[i]?=some x→cs[i]?=some (Value.int .i64 x):=fun i x hx=>by
   have hi:=(gEs.1 hx).1
   have hjc:i < cs.size:=by omega
   have h5:=hrep i [.sc (.int .i64 x)] 0 (.sc (.int .i64 x)) cs[i] (by rw[List.getElem?_map,hx]; rfl) rfl (by rw[Nat.mul_one,Nat.add_zero]; exact Array.getElem?_eq_getElem hjc)
   rw[Array.getElem?_eq_getElem hjc,h5.sc_inv]
  have hHK:Holds (Value.int .i64) w β 0 l.toArray:=fun j hj=>by
   rw[List.size_toArray] at hj
   unfold World.cell? World.frozen?
   simp only[Nat.zero_add]
   rw[hheap]
   refine⟨?_,?_⟩
   ·simp only[Option.isSome_none,Bool.false_eq_true,if_false]
    have h6:l[j]?=some l[j]:=gEg hj
    rw[zU h6]
    exact hcell j _ h6
   ·rcases hff with rfl | hff
    ·simp
    ·rw[Bool.and_eq_false_imp]
     intro h0
     simp at h0
     omega
  have hbl:β < w.heap.size:=(Array.getElem?_eq_some_iff.1 hheap).1
  have hcon:=Any.slices_Sort_int L β 0 cap l w hHK hbl hl
  rw[Nat.zero_mul]
  refine hcon.mono ?_
  rintro e w' ⟨rfl,nn,os,rfl⟩
  generalize (l.mergeSort fun x y=>decide (x≤y))=m at hlen
  have hcsz:l.length≤cs.size:=by omega
  have s1:aS 1 M J [[.cells 1 (ivR l)]] w M J (aK [[.cells 1 (ivR l)]] 0 0 (.cells 1 (ivR m))) (putRow (Value.int .i64) (Sort.ahead w nn) β 0 m.toArray):=by
   refine aS.write 1 hH hM 0 0 lc' β _ rfl rfl hJ hb (.cells (putCells (Value.int .i64) 0 m.toArray cs) ty ff) _ (fun _=>?_) ?_ rfl rfl rfl
   ·unfold d9
    rw[hb]
    refine⟨hsz,fun i r hr=>?_,putCells (Value.int .i64) 0 m.toArray cs,ty,?_,?_,?_,fun j v hj hv=>?_,fun i r j c v hr hc hv=>?_⟩
    ·obtain⟨x,_,rfl⟩:=D0 hr
     rfl
    ·refine⟨ff,?_,?_⟩
     ·show(w.heap.modify β (onCells (putCells (Value.int .i64) 0 m.toArray)))[β]?=_
      rw[Array.getElem?_modify,if_pos rfl,hheap]
      rfl
     ·unfold putCells
      rw[Array.size_mapIdx]
      exact hff
    ·unfold putCells
     rw[Array.size_mapIdx]
     exact hcs
    ·rw[List.length_map,hlen]; exact hle
    ·rw[List.length_map,Nat.mul_one] at hj
     rw[yJ (by simpa using hj) (by omega)] at hv
     injection hv with hv
     subst hv
     rfl
    ·obtain⟨x,hx,rfl⟩:=D0 hr
     have hi:=(gEs.1 hx).1
     match j,hc with
     | 0,hc=>
      injection hc with hc
      subst hc
      rw[Nat.mul_one,Nat.add_zero,yJ (by simpa using hi) (by omega),zU hx] at hv
      injection hv with hv
      subst hv
      exact .sc _
   ·show w.heap.modify β (onCells (putCells (Value.int .i64) 0 m.toArray))=_
    apply Array.ext_getElem?
    intro γ
    rw[Array.getElem?_modify,Array.getElem?_setIfInBounds]
    by_cases e:β=γ
    ·subst e
     rw[if_pos rfl,if_pos rfl,if_pos hbl,hheap]
     rfl
    ·rw[if_neg e,if_neg e]
  have s2:aS 1 M J (aK [[.cells 1 (ivR l)]] 0 0 (.cells 1 (ivR m))) (putRow (Value.int .i64) (Sort.ahead w nn) β 0 m.toArray) M J (aK [[.cells 1 (ivR l)]] 0 0 (.cells 1 (ivR m))) (Go.Sort.grow (putRow (Value.int .i64) (Sort.ahead w nn) β 0 m.toArray) os):=by
   have hold:∀(γ:Nat) o,(putRow (Value.int .i64) (Sort.ahead w nn) β 0 m.toArray).heap[γ]?=some o→(Go.Sort.grow (putRow (Value.int .i64) (Sort.ahead w nn) β 0 m.toArray) os).heap[γ]?=some o:=fun γ o h=>by
    show((putRow (Value.int .i64) (Sort.ahead w nn) β 0 m.toArray).heap++os)[γ]?=some o
    rw[Array.getElem?_append,if_pos (Array.getElem?_eq_some_iff.1 h).1]
    exact h
   refine aB.step 1 s1.hrep (fun _ _ h=>h) (fun γ o h=>hold γ o (s1.mrep γ o h)) rfl (.refl _) rfl ?_ hold (fun _ _ h=>.inl h)
   show _≤((putRow (Value.int .i64) (Sort.ahead w nn) β 0 m.toArray).heap++os).size
   rw[Array.size_append]
   omega
  exact⟨_,M,J,.tup [],_,rfl,s1.trans s2,.tup _ _ rfl (fun j c v hc=>by cases hc),rfl,rfl⟩
end Go.Av
namespace Go.Proofs
open Go.Shelf
def Tryz.laysSort_ren:Go.Shelf.Ren:=⟨fun | 189=>96 | 125=>143 | 257=>142 | 128=>175 | 129=>176 | 294=>166 | 295=>167 | 296=>168 | 297=>169 | 298=>170 | 299=>171 | 216=>172 | 300=>173 | 301=>174 | 328=>196 | 329=>197 | 330=>198 | 331=>199 | 332=>200 | 215=>201 | 343=>211 | n=>n,fun | 28=>22 | 3=>3 | 46=>193 | 0=>0 | 51=>273 | 53=>84 | 4=>4 | 183=>267 | 182=>266 | 131=>250 | 5=>5 | 9=>9 | 218=>286 | 222=>290 | 228=>295 | 229=>169 | n=>n,fun | n=>n⟩
theorem Tryz.laysSort:Go.Proofs.Lays.n189 Tryz.prog Tryz.laysSort_ren:={
 mixed:=by kernel_rfl
 f125:=Tryz.func143.trans (congrArg some (by kernel_rfl))
 f128:=Tryz.func175.trans (congrArg some (by kernel_rfl))
 f129:=Tryz.func176.trans (congrArg some (by kernel_rfl))
 f189:=Tryz.func96.trans (congrArg some (by kernel_rfl))
 f215:=Tryz.func201.trans (congrArg some (by kernel_rfl))
 f216:=Tryz.func172.trans (congrArg some (by kernel_rfl))
 f257:=Tryz.func142.trans (congrArg some (by kernel_rfl))
 f294:=Tryz.func166.trans (congrArg some (by kernel_rfl))
 f295:=Tryz.func167.trans (congrArg some (by kernel_rfl))
 f296:=Tryz.func168.trans (congrArg some (by kernel_rfl))
 f297:=Tryz.func169.trans (congrArg some (by kernel_rfl))
 f298:=Tryz.func170.trans (congrArg some (by kernel_rfl))
 f299:=Tryz.func171.trans (congrArg some (by kernel_rfl))
 f300:=Tryz.func173.trans (congrArg some (by kernel_rfl))
 f301:=Tryz.func174.trans (congrArg some (by kernel_rfl))
 f328:=Tryz.func196.trans (congrArg some (by kernel_rfl))
 f329:=Tryz.func197.trans (congrArg some (by kernel_rfl))
 f330:=Tryz.func198.trans (congrArg some (by kernel_rfl))
 f331:=Tryz.func199.trans (congrArg some (by kernel_rfl))
 f332:=Tryz.func200.trans (congrArg some (by kernel_rfl))
 f343:=Tryz.func211.trans (congrArg some (by kernel_rfl))
 t0:=Tryz.underlying0
 a0:=Tryz.isAgg0
 z0:=Tryz.sizeOf0
 v0:=Tryz.zeroValue0
 t3:=Tryz.underlying3
 a3:=Tryz.isAgg3
 z3:=Tryz.sizeOf3
 v3:=Tryz.zeroValue3
 t4:=Tryz.underlying4
 a4:=Tryz.isAgg4
 z4:=Tryz.sizeOf4
 v4:=Tryz.zeroValue4
 t5:=Tryz.underlying5
 a5:=Tryz.isAgg5
 z5:=Tryz.sizeOf5
 v5:=Tryz.zeroValue5
 t9:=Tryz.underlying9
 a9:=Tryz.isAgg9
 z9:=Tryz.sizeOf9
 v9:=Tryz.zeroValue9
 t28:=Tryz.underlying22
 a28:=Tryz.isAgg22
 z28:=Tryz.sizeOf22
 v28:=Tryz.zeroValue22
 t46:=Tryz.underlying193
 a46:=Tryz.isAgg193
 z46:=Tryz.sizeOf193
 v46:=Tryz.zeroValue193
 t51:=Tryz.underlying273
 a51:=Tryz.isAgg273
 z51:=Tryz.sizeOf273
 v51:=Tryz.zeroValue273
 t53:=Tryz.underlying84
 a53:=Tryz.isAgg84
 z53:=Tryz.sizeOf84
 v53:=Tryz.zeroValue84
 t131:=Tryz.underlying250
 a131:=Tryz.isAgg250
 z131:=Tryz.sizeOf250
 v131:=Tryz.zeroValue250
 t182:=Tryz.underlying266
 a182:=Tryz.isAgg266
 z182:=Tryz.sizeOf266
 v182:=Tryz.zeroValue266
 t183:=Tryz.underlying267
 a183:=Tryz.isAgg267
 z183:=Tryz.sizeOf267
 v183:=Tryz.zeroValue267
 t218:=Tryz.underlying286
 a218:=Tryz.isAgg286
 z218:=Tryz.sizeOf286
 v218:=Tryz.zeroValue286
 t222:=Tryz.underlying290
 a222:=Tryz.isAgg290
 z222:=Tryz.sizeOf290
 v222:=Tryz.zeroValue290
 t228:=Tryz.underlying295
 a228:=Tryz.isAgg295
 z228:=Tryz.sizeOf295
 v228:=Tryz.zeroValue295
 t229:=Tryz.underlying169
 a229:=Tryz.isAgg169
 z229:=Tryz.sizeOf169
 v229:=Tryz.zeroValue169 }
end Go.Proofs
namespace Go.Proofs.YtgdocflpobncmaaGreat
open Go.Av Go.Proofs
set_option maxRecDepth 20000
def OE (l:List Int):List Int:=l.mergeSort fun x y=>decide (x≤y)
theorem JV (l:List Int) (hl:l.length < 4611686018427387904):aF Tryz.prog 96 [.hsl 0 0 0 l.length] [[.cells 1 (inR l)]] fun res H'=>res=.tup []∧H'=[[.cells 1 (inR (OE l))]]:=
 aF.sortInts Tryz.laysSort ⟨_,Tryz.func96,by kernel_rfl,rfl⟩ l hl
end Go.Proofs.YtgdocflpobncmaaGreat
namespace Go.Proofs.YtgdocflpobncmaaGreat
open Go.Av Go.Proofs
set_option maxRecDepth 20000
def nxR (l:List Nat):List (List AV):=l.map fun x:Nat=>[iv (x:Int)]
theorem wF (l:List Nat):nxR l=inR (l.map fun x:Nat=>(x:Int)):=by simp[nxR,inR]
theorem eM (l:List Nat):(nxR l).length=l.length:=by simp[nxR]
theorem g9 (l:List Nat) (k:Nat) (h:k < l.length):bY (nxR l) (k:Int)=some [iv l[k]]:=dX (fun n:Nat=>[iv n]) l k h
instance (l:List Nat):PRs (nxR l):=by unfold nxR; infer_instance
def d7:List (Nat×Nat)→Nat→Option Nat
 | [],_=>none
 | (y,c)::r,x=>if x=y then some c else d7 r x
def dO:List (Nat×Nat)→Nat→Nat→List (Nat×Nat)
 | [],x,b=>[(x,b)]
 | (y,c)::r,x,b=>if x=y then(y,b)::r else(y,c)::dO r x b
def bmE (bm:List (Nat×Nat)):List (Value×AV):=bm.map fun y=>(.int .i64 (y.1:Nat),uv y.2)
theorem nB (x:Nat):∀ bm,cS .i64 (x:Int) (bmE bm)=some ((d7 bm x).map uv)
 | []=>rfl
 | (y,c)::bm=>by
  show(match decide (IntKind.i64=IntKind.i64) with
   | true=>match decide ((x:Int)=(y:Int)) with
    | true=>some (some (uv c))
    | false=>cS .i64 (x:Int) (bmE bm)
   | false=>none)=_
  rw[dTr (rfl:IntKind.i64=IntKind.i64)]
  by_cases h:x=y
  ·subst h
   rw[dTr rfl]
   simp[d7]
  ·rw[dFa (by omega)]
   show cS .i64 (x:Int) (bmE bm)=_
   rw[nB x bm]
   simp[d7,h]
theorem AN (x b:Nat):∀ bm,d7 bm x=none→dO bm x b=bm++[(x,b)]
 | [],_=>rfl
 | (y,c)::bm,h=>by
  unfold d7 at h
  unfold dO
  by_cases e:x=y
  ·rw[if_pos e] at h; cases h
  ·rw[if_neg e] at h
   rw[if_neg e,AN x b bm h]
   rfl
theorem B4 (x b:Nat):∀ bm c,d7 bm x=some c→qN x (uv b) (bmE bm)=bmE (dO bm x b)∧(dO bm x b).map (·.1)=bm.map (·.1)
 | [],_,h=>by cases h
 | (y,c)::bm,c',h=>by
  unfold d7 at h
  unfold dO
  have e0:qN x (uv b) (bmE ((y,c)::bm))=match decide ((x:Int)=(y:Int)) with
   | true=>(Value.int .i64 (y:Int),uv b)::bmE bm
   | false=>(Value.int .i64 (y:Int),uv c)::qN x (uv b) (bmE bm):=rfl
  rw[e0]
  by_cases e:x=y
  ·subst e
   rw[if_pos rfl,dTr rfl]
   exact⟨rfl,rfl⟩
  ·rw[if_neg e] at h
   obtain⟨h1,h2⟩:=B4 x b bm c' h
   rw[if_neg e,dFa (by omega)]
   refine⟨?_,?_⟩
   ·show _::qN _ _ _=_
    rw[h1]
    rfl
   ·show y::List.map (·.1) (dO bm x b)=_
    rw[h2]
    rfl
theorem vA (x b:Nat):∀ bm y,d7 (dO bm x b) y=if y=x then some b else d7 bm y
 | [],y=>by simp[dO,d7]
 | (z,c)::bm,y=>by
  unfold dO
  by_cases e:x=z
  ·subst e
   rw[if_pos rfl]
   unfold d7
   by_cases h:y=x<;>simp[h]
  ·rw[if_neg e]
   unfold d7
   rw[vA x b bm y]
   by_cases h:y=z
   ·subst h
    simp[Ne.symm e]
   ·simp[h]
theorem lN (x:Nat):∀ bm,d7 bm x≠none↔x∈bm.map (·.1)
 | []=>by simp[d7]
 | (y,c)::bm=>by
  unfold d7
  by_cases e:x=y
  ·simp[e]
  ·rw[if_neg e,lN x bm]
   simp[e]
def gA (bm l:List (Nat×Nat)):List (Nat×Nat):=l.foldl (fun bm y=>dO bm y.1 y.2) bm
theorem BZ (bm l:List (Nat×Nat)) (y:Nat×Nat):gA bm (l++[y])=dO (gA bm l) y.1 y.2:=by simp[gA]
theorem vL (x b:Nat):∀ bm,(dO bm x b).length≤bm.length+1
 | []=>by simp[dO]
 | (y,c)::bm=>by
  unfold dO
  split
  ·simp
  ·have:=vL x b bm
   simp only[List.length_cons]
   omega
theorem lQ:∀(l bm:List (Nat×Nat)),(gA bm l).length≤bm.length+l.length
 | [],bm=>Nat.le_refl _
 | y::l,bm=>by
  have h1:=lQ l (dO bm y.1 y.2)
  have h2:=vL y.1 y.2 bm
  show(gA (dO bm y.1 y.2) l).length≤_
  simp only[List.length_cons]
  omega
def o6 (ps ds:List (List Nat)) (i:Nat):List (Nat×Nat):=(List.range i).flatMap fun j=>(ps.getD j []).zip (ds.getD j [])
theorem xJ (ps ds:List (List Nat)) (i:Nat):o6 ps ds (i+1)=o6 ps ds i++(ps.getD i []).zip (ds.getD i []):=by
 unfold o6
 rw[List.range_succ,List.flatMap_append]
 simp
theorem EM (bm l m:List (Nat×Nat)):gA bm (l++m)=gA (gA bm l) m:=by simp[gA]
abbrev Ac:=Nat×Nat×List Nat
def acF (a:Ac):List AV:=[iv a.1,iv a.2.1,.list 1 (bys a.2.2)]
def acR (l:List Ac):List (List AV):=l.map acF
def fJ (w lo:Nat) (bm:List (Nat×Nat)) (out:List Ac) (x:Nat):List Ac:=
 match out.getLast? with
 | some a=>if a.1=(x - lo) / w∧a.2.1+a.2.2.length=x then out.dropLast++[(a.1,a.2.1,a.2.2++[(d7 bm x).getD 0])] else out++[((x - lo) / w,x,[(d7 bm x).getD 0])]
 | none=>[((x - lo) / w,x,[(d7 bm x).getD 0])]
def vX (out:List Ac):List Nat:=
 match out.getLast? with
 | some a=>a.2.2
 | none=>[]
theorem dN (o:List Ac) (a:Ac):vX (o++[a])=a.2.2:=by simp[vX]
theorem EF (w lo:Nat) (bm:List (Nat×Nat)) (out:List Ac) (x:Nat):(fJ w lo bm out x).length≤out.length+1:=by
 rcases List.eq_nil_or_concat out with rfl | ⟨o,a,rfl⟩
 ·simp[fJ]
 ·rw[List.concat_eq_append]
  unfold fJ
  simp only[List.getLast?_concat,List.dropLast_concat]
  split<;>simp
def lA (w lo:Nat) (bm:List (Nat×Nat)) (xs:List Nat):List Ac:=xs.foldl (fJ w lo bm) []
theorem I6 (w lo:Nat) (bm:List (Nat×Nat)) (xs:List Nat) (x:Nat):lA w lo bm (xs++[x])=fJ w lo bm (lA w lo bm xs) x:=by simp[lA]
def acX (out:List Ac):List Nat:=out.flatMap fun a=>(List.range a.2.2.length).map fun j=>a.2.1+j
theorem KW (w lo:Nat) (bm:List (Nat×Nat)) (out:List Ac) (x:Nat):acX (fJ w lo bm out x)=acX out++[x]:=by
 rcases List.eq_nil_or_concat out with rfl | ⟨o,a,rfl⟩
 ·simp[fJ,acX]
 ·rw[List.concat_eq_append]
  unfold fJ
  simp only[List.getLast?_concat,List.dropLast_concat]
  split
  ·rename_i h
   unfold acX
   simp only[List.flatMap_append,List.flatMap_cons,List.flatMap_nil,List.append_nil,List.length_append,List.length_cons,List.length_nil,Nat.zero_add,List.range_succ,List.map_append,List.map_cons,List.map_nil,List.append_assoc]
   rw[h.2]
  ·unfold acX
   simp
theorem yM (w lo:Nat) (bm:List (Nat×Nat)):∀(xs:List Nat) (out:List Ac),acX (xs.foldl (fJ w lo bm) out)=acX out++xs
 | [],out=>by simp
 | x::xs,out=>by
  show acX (xs.foldl (fJ w lo bm) (fJ w lo bm out x))=_
  rw[yM w lo bm xs,KW,List.append_assoc]
  rfl
theorem LG (w lo:Nat) (bm:List (Nat×Nat)) (xs:List Nat):acX (lA w lo bm xs)=xs:=by
 unfold lA
 rw[yM]
 rfl
theorem tC {s:Sn} (h:rJ s.pl s.ext=true) (hl:0 < s.pl.length) (k:Nat):∀ d,eP s k < eP s (k+1+d)
 | 0=>sU h hl k
 | d+1=>Int.lt_trans (tC h hl k d) (sU h hl (k+1+d))
theorem I8 {s:Sn} (h:rJ s.pl s.ext=true) (hl:0 < s.pl.length) (ha:0≤s.at') (k:Nat):0≤eP s k:=by
 have h0:0≤eP s 0:=by
  unfold eP
  have h1:=(qV h hl).1
  unfold jL at h1
  rw[if_pos rfl] at h1
  rw[Nat.zero_div,Nat.zero_mod]
  show 0≤s.at'+(0:Int) * s.ext+_
  rw[Int.zero_mul]
  omega
 cases k with
 | zero=>exact h0
 | succ k=>
  have:=tC h hl 0 k
  rw[show 0+1+k=k+1 by omega] at this
  omega
theorem KS {s:Sn} (h:rJ s.pl s.ext=true) (hl:0 < s.pl.length) (O n:Nat):(iB s O n).Pairwise (· < ·):=by
 unfold iB
 rw[List.pairwise_map]
 refine List.pairwise_lt_range.imp fun {a b} hab=>?_
 have:=tC h hl (O * s.elem.toNat+a) (b - a - 1)
 rwa[show O * s.elem.toNat+a+1+(b - a - 1)=O * s.elem.toNat+b by omega] at this
def jF (l:List Int):List Nat:=l.map Int.toNat
theorem JA {l:List Int} (h:∀ x∈l,0≤x):(jF l).map (fun x:Nat=>(x:Int))=l:=by
 unfold jF
 rw[List.map_map]
 conv=>rhs; rw[← List.map_id l]
 refine List.map_congr_left fun x hx=>?_
 have:=h x hx
 show((x.toNat:Nat):Int)=x
 omega
theorem g8 {r:Rq} (hr:r.ok) (h:(cB r).2=0):(jF (cB r).1).map (fun x:Nat=>(x:Int))=(cB r).1∧(jF (cB r).1).length=r.data.length∧r.data.length≤4096∧(∀ x∈jF (cB r).1,x < 65536)∧(jF (cB r).1).Pairwise (· < ·):=by
 obtain⟨he,ho,hoff,hdl⟩:=hr
 have hinv:=@HG r.at' r.e r.o
 have hsn:=xL (a:=r.at') he ho
 unfold cB Rq.v at h ⊢
 generalize gX r.at' r.e r.o=z at *
 obtain⟨er,s⟩:=z
 simp only at h hinv hsn ⊢
 by_cases c1:er≠0
 ·rw[if_pos c1] at h; exact absurd h c1
 rw[if_neg c1] at h ⊢
 have c1:=Decidable.byContradiction c1
 have hs:=hsn c1
 obtain⟨i1,_⟩:=hinv c1
 by_cases c2:r.off < 0
 ·rw[if_pos c2] at h; cases h
 rw[if_neg c2] at h ⊢
 by_cases c3:r.data.length % s.elem.toNat≠0
 ·rw[if_pos c3] at h; cases h
 rw[if_neg c3] at h ⊢
 by_cases c4:4096 < r.data.length
 ·rw[if_pos c4] at h; cases h
 rw[if_neg c4] at h ⊢
 by_cases c5:(kD s r.off.toNat r.data.length).2=true
 ·rw[if_pos c5] at h ⊢
  unfold kD at c5 ⊢
  by_cases c6:0 < r.data.length∧65536 < r.off.toNat
  ·rw[if_pos c6] at c5; cases c5
  rw[if_neg c6] at c5 ⊢
  by_cases c7:okV (iB s r.off.toNat r.data.length)=true
  ·rw[if_pos c7]
   show(jF (iB s r.off.toNat r.data.length)).map _=iB s r.off.toNat r.data.length∧(jF (iB s r.off.toNat r.data.length)).length=_∧_∧(∀ x∈jF (iB s r.off.toNat r.data.length),_)∧(jF (iB s r.off.toNat r.data.length)).Pairwise _
   have hnn:∀ x∈iB s r.off.toNat r.data.length,0≤x:=fun x hx=>by
    obtain⟨i,_,rfl⟩:=List.mem_map.1 hx
    exact I8 i1 hs.2.2.2.1 hs.1.1 _
   refine⟨JA hnn,by simp[jF,iB],by omega,fun x hx=>?_,?_⟩
   ·obtain⟨y,hy,rfl⟩:=List.mem_map.1 hx
    have:=wV.1 c7 y hy
    have:=hnn y hy
    omega
   ·unfold jF
    rw[List.pairwise_map]
    refine List.Pairwise.imp_of_mem (fun {a b} ha hb hab=>?_) (KS i1 hs.2.2.2.1 _ _)
    have:=hnn a ha
    have:=hnn b hb
    omega
  ·rw[if_neg c7] at c5; cases c5
 ·rw[if_neg c5] at h; cases h
def psN (l:List Rq):List (List Nat):=l.map fun r=>jF (cB r).1
def dsN (l:List Rq):List (List Nat):=l.map (·.data)
theorem wJ {l:List Rq} (h:(dD l).2=0):l.length≤64∧(∀ r∈l,(cB r).2=0)∧(dD l).1=l.map fun r=>(cB r).1:=by
 unfold dD at h ⊢
 by_cases c:64 < l.length
 ·rw[if_pos c] at h; cases h
 rw[if_neg c] at h ⊢
 cases q:l.find? (fun r=>decide ((cB r).2≠0)) with
 | none=>
  refine⟨by omega,fun r hr=>?_,rfl⟩
  have:=List.find?_eq_none.1 q r hr
  simpa using this
 | some r=>
  rw[q] at h
  have:=List.find?_some q
  simp only[decide_eq_true_eq] at this
  exact absurd h this
theorem IT {r:Rq} (h:r.ok):∃ c0 c1 c2 c3 c4 c5 c6 c7 c8 c9 c10 c11 c12 c13 c14 c15 c16,rqR r=[c0,c1,c2,c3,c4,c5,c6,c7,c8,c9,c10,c11,c12,c13,c14,c15,c16,iv r.off,.list 1 (bys r.data)]:=by
 obtain⟨a,t1,t2,off,data⟩:=r
 obtain⟨he,ho,_,_⟩:=h
 obtain⟨_,k1,c1,b1,s1,z1,l1,p1,f1,_,rfl,_⟩:=bF he
 obtain⟨_,k2,c2,b2,s2,z2,l2,p2,f2,_,rfl,_⟩:=bF ho
 unfold rqR vwR
 rw[tyR,tyR]
 exact⟨_,_,_,_,_,_,_,_,_,_,_,_,_,_,_,_,_,rfl⟩
def bmF (l:List Rq):List (Nat×Nat):=gA [] (o6 (psN l) (dsN l) l.length)
def f7 (bm:List (Nat×Nat)):List Nat:=(bm.map (·.1)).mergeSort fun x y=>decide (x≤y)
def lT (bm:List (Nat×Nat)) (N:Nat):List Ac:=lA (((f7 bm).getLastD 0 - (f7 bm).headD 0+N) / N) ((f7 bm).headD 0) bm (f7 bm)
def qH (l:List Rq) (parts:Int):List Ac×Int:=
 if (dD l).2≠0 then([],(dD l).2) else if parts < 1∨64 < parts then([],3) else(lT (bmF l) parts.toNat,0)
theorem FP (bm:List (Nat×Nat)):OE ((bm.map (·.1)).map fun x:Nat=>(x:Int))=(f7 bm).map fun x:Nat=>(x:Int):=by
 unfold OE f7
 rw[List.map_mergeSort (s:=fun x y:Int=>decide (x≤y))]
 intro a _ b _
 simp
instance (l:List Ac):PRs (acR l):=⟨fun r hr c hc=>by
 obtain⟨q,_,rfl⟩:=List.mem_map.1 hr
 unfold acF at hc
 simp only[List.mem_cons,List.not_mem_nil,or_false] at hc
 rcases hc with rfl | rfl | rfl
 ·exact .sc _
 ·exact .sc _
 ·exact(pv _)⟩
instance (bm:List (Nat×Nat)):PM (bmE bm):=⟨fun x hx=>by
 obtain⟨y,_,rfl⟩:=List.mem_map.1 hx
 exact .sc _⟩
def bmI (l:List Rq) (i j:Nat):List (Nat×Nat):=gA (gA [] (o6 (psN l) (dsN l) i)) ((((psN l).getD i []).zip ((dsN l).getD i [])).take j)
theorem xM (l:List Rq) (i:Nat):bmI l i 0=gA [] (o6 (psN l) (dsN l) i):=by unfold bmI; rw[List.take_zero]; rfl
theorem IU (l:List Rq) (i n:Nat) (h:(((psN l).getD i []).zip ((dsN l).getD i [])).length≤n):bmI l i n=bmI l (i+1) 0:=by
 rw[xM,xJ,EM]
 unfold bmI
 rw[List.take_of_length_le h]
theorem G4 (l:List Rq) (i j:Nat) {x b:Nat} (hx:((psN l).getD i [])[j]?=some x) (hb:((dsN l).getD i [])[j]?=some b):bmI l i (j+1)=dO (bmI l i j) x b:=by
 unfold bmI
 have:(((psN l).getD i []).zip ((dsN l).getD i []))[j]?=some (x,b):=by
  rw[List.getElem?_zip_eq_some]
  exact⟨hx,hb⟩
 rw[List.take_add_one,this]
 exact BZ _ _ _
theorem FZ {w lo:Nat} {bm:List (Nat×Nat)} {out:List Ac} {x:Nat} (hx:x < 65536) (h:∀ a∈out,a.2.1 < 65536):∀ a∈fJ w lo bm out x,a.2.1 < 65536:=by
 rcases List.eq_nil_or_concat out with rfl | ⟨o,a,rfl⟩
 ·intro a ha
  rw[List.mem_singleton.1 ha]
  exact hx
 ·rw[List.concat_eq_append] at h ⊢
  unfold fJ
  simp only[List.getLast?_concat,List.dropLast_concat]
  split
  ·intro b hb
   rcases List.mem_append.1 hb with hb | hb
   ·exact h b (by simp[hb])
   ·rw[List.mem_singleton.1 hb]
    exact h a (by simp)
  ·intro b hb
   rcases List.mem_append.1 hb with hb | hb
   ·exact h b hb
   ·rw[List.mem_singleton.1 hb]
    exact hx
theorem acB {T:AV→AV→Prop} {ρ:Nat→Nat→Option (Nat×Nat)} {o:List Ac} {a1 a2:Nat} {a3:List Nat} {l:AV} {r r':List AV} (h1:To T ρ l (.list 1 (bys a3))) (h2:ToL T ρ r r'):ToB T ρ (.cells 3 (acR o++[[iv a1,iv a2,l]]++[r])) (.cells 3 (acR (o++[(a1,a2,a3)])++[r'])):=by
 rw[show acR (o++[(a1,a2,a3)])=acR o++[[iv a1,iv a2,.list 1 (bys a3)]] by simp[acR,acF]]
 exact ToB.rowsR (ToR.append (ToR.append (ToR.pure (prs _)) (ToR.cons (ToL.cons (.sc _) (ToL.cons (.sc _) (ToL.cons h1 ToL.nil))) ToR.nil)) (ToR.cons h2 ToR.nil))
theorem acS {T:AV→AV→Prop} {ρ:Nat→Nat→Option (Nat×Nat)} {o:List Ac} {n:Nat} {q r r':List AV} (hn:n=(acR o).length) (h:ToL T ρ r r'):ToB T ρ (.cells 3 ((acR o++[q]).set n r)) (.cells 3 (acR o++[r'])):=by
 subst hn
 rw[show(acR o++[q]).set (acR o).length r=acR o++[r] by simp]
 exact wt9 rfl h
theorem LX (bm:List (Nat×Nat)):∀(i j:Nat) (hi:i < (f7 bm).length) (hj:j < (f7 bm).length),i≤j→(f7 bm)[i]≤(f7 bm)[j]:=fun i j hi hj h=>by
 have h1:(f7 bm).Pairwise fun a b=>decide (a≤b)=true:=List.pairwise_mergeSort (fun a b c h1 h2=>by simp at h1 h2 ⊢; omega) (fun a b=>by simp; omega) _
 rcases Nat.lt_or_ge i j with q | q
 ·simpa using List.pairwise_iff_getElem.1 h1 i j hi hj q
 ·obtain rfl:i=j:=by omega
  exact Nat.le_refl _
theorem A9 (x b y:Nat) (bm:List (Nat×Nat)):y∈(dO bm x b).map (·.1)↔y=x∨y∈bm.map (·.1):=by
 rw[← lN,← lN,vA]
 by_cases h:y=x
 ·simp[h]
 ·simp[h]
theorem mI (y:Nat):∀(l bm:List (Nat×Nat)),y∈(gA bm l).map (·.1)↔y∈bm.map (·.1)∨y∈l.map (·.1)
 | [],bm=>by simp[gA]
 | z::l,bm=>by
  show y∈(gA (dO bm z.1 z.2) l).map (·.1)↔_
  rw[mI y l,A9,List.map_cons,List.mem_cons]
  constructor
  ·rintro((h | h) | h)<;>simp[h]
  ·rintro(h | h | h)<;>simp[h]
def plN (qs:List (List Nat)):List (List AV):=qs.map fun q=>[.list 1 (nxR q)]
theorem L6 (l:List (List Nat)):(plN l).length=l.length:=by simp[plN]
theorem I4 (l:List (List Nat)) (k:Nat) (h:k < l.length):bY (plN l) (k:Int)=some [.list 1 (nxR l[k])]:=dX (fun p:List Nat=>[.list 1 (nxR p)]) l k h
instance (l:List (List Nat)):PRs (plN l):=by unfold plN; infer_instance
theorem C5 {l:List Rq} (hl:∀ r∈l,r.ok) (h:(dD l).2=0):plR (dD l).1=plN (psN l):=by
 obtain⟨_,h2,h3⟩:=wJ h
 rw[h3]
 unfold plR plN psN
 rw[List.map_map,List.map_map]
 refine List.map_congr_left fun r hr=>?_
 show[AV.list 1 (inR (cB r).1)]=[AV.list 1 (nxR (jF (cB r).1))]
 rw[wF,(g8 (hl r hr) (h2 r hr)).1]
structure Good (l:List Rq):Prop where
 le:l.length≤64
 len:∀ i (h:i < l.length),((psN l).getD i []).length=l[i].data.length∧l[i].data.length≤4096
 ds:∀ i (h:i < l.length),(dsN l).getD i []=l[i].data
 bd:∀ i,∀ x∈(psN l).getD i [],x < 65536
 asc:∀ i,((psN l).getD i []).Pairwise (· < ·)
theorem xE {l:List Rq} (hl:∀ r∈l,r.ok) (h:(dD l).2=0):Good l:=by
 obtain⟨h1,h2,_⟩:=wJ h
 have hg:∀ i (h:i < l.length),(psN l).getD i []=jF (cB l[i]).1:=fun i h=>by simp[psN,h]
 have ho:∀ i,¬ i < l.length→(psN l).getD i []=[]:=fun i h=>by simp[psN,h]
 have hk:=fun i (h:i < l.length)=>g8 (hl l[i] (List.getElem_mem _)) (h2 l[i] (List.getElem_mem _))
 refine⟨h1,fun i h=>?_,fun i h=>by simp[dsN,h],fun i=>?_,fun i=>?_⟩
 ·rw[hg i h]
  exact⟨(hk i h).2.1,(hk i h).2.2.1⟩
 ·by_cases h:i < l.length
  ·rw[hg i h]
   exact(hk i h).2.2.2.1
  ·rw[ho i h]
   intro x hx
   cases hx
 ·by_cases h:i < l.length
  ·rw[hg i h]
   exact(hk i h).2.2.2.2
  ·rw[ho i h]
   exact .nil
theorem rT {l:List Rq} (g:Good l):∀ i,i≤l.length→(o6 (psN l) (dsN l) i).length≤i * 4096∧∀ y∈o6 (psN l) (dsN l) i,y.1 < 65536
 | 0,_=>⟨Nat.le_refl _,fun y hy=>by cases hy⟩
 | i+1,h=>by
  obtain⟨h1,h2⟩:=rT g i (by omega)
  rw[xJ]
  obtain⟨h3,h4⟩:=g.len i h
  refine⟨?_,fun y hy=>?_⟩
  ·rw[List.length_append,List.length_zip]
   omega
  ·rcases List.mem_append.1 hy with hy | hy
   ·exact h2 y hy
   ·exact g.bd i _ (List.of_mem_zip hy).1
theorem L9 {l:List Rq} (g:Good l) {i j:Nat} (hi:i < l.length):(bmI l i j).length≤270000:=by
 unfold bmI
 have h1:=lQ ((((psN l).getD i []).zip ((dsN l).getD i [])).take j) (gA [] (o6 (psN l) (dsN l) i))
 have h2:=lQ (o6 (psN l) (dsN l) i) []
 have h3:=(rT g i (by omega)).1
 have h4:=g.len i hi
 have h5:((((psN l).getD i []).zip ((dsN l).getD i [])).take j).length≤4096:=by
  rw[List.length_take,List.length_zip]
  omega
 have:=g.le
 simp only[List.length_nil] at h2
 omega
theorem AF {l:List Rq} (g:Good l):(bmF l).length≤300000∧∀ x∈(bmF l).map (·.1),x < 65536:=by
 obtain⟨h1,h2⟩:=rT g l.length (Nat.le_refl _)
 have h3:=lQ (o6 (psN l) (dsN l) l.length) []
 have:=g.le
 unfold bmF
 simp only[List.length_nil] at h3
 refine⟨by omega,fun x hx=>?_⟩
 rw[mI] at hx
 rcases hx with hx | hx
 ·cases hx
 ·obtain⟨y,hy,rfl⟩:=List.mem_map.1 hx
  exact h2 y hy
theorem z7 (N:Nat):lT [] N=[]:=by unfold lT f7; simp[lA]
abbrev gN (l:List Nat) (i:Nat):Nat:=l.getD i 0
abbrev gL (l:List (List Nat)) (i:Nat):List Nat:=l.getD i []
theorem j6 (l:List Nat) (i j v:Nat) (h:i < l.length):gN (l.set i v) j=if j=i then v else gN l j:=by
 unfold gN
 rw[List.getD_eq_getElem?_getD,List.getElem?_set]
 by_cases e:j=i
 ·subst e; simp[h]
 ·rw[if_neg (fun q=>e q.symm),if_neg e,List.getD_eq_getElem?_getD]
structure x9 (ps ds:List (List Nat)) (done f:List Nat):Prop where
 dl:done.length=ps.length
 fl:f.length=65536
 le:∀ i,gN done i≤(gL ps i).length
 A:∀ x,(gN f x=0∧∀ i k,k < gN done i→(gL ps i)[k]?≠some x)∨∃ i k,k < gN done i∧(gL ps i)[k]?=some x∧(gL ds i)[k]?=some (gN f x)
def HH (ps ds:List (List Nat)) (done f:List Nat) (i:Nat):Prop:=∀ k,k < gN done i→∀ x v,(gL ps i)[k]?=some x→(gL ds i)[k]?=some v→gN f x=v
structure KJ (ps ds:List (List Nat)) (done f:List Nat):Prop where
 a:∀ i,gN done i=0∨gN done i=(gL ps i).length
 b:(∀ i,gN done i=0)∨∃ j,j < ps.length∧gN done j=(gL ps j).length∧HH ps ds done f j
theorem EC {ps ds:List (List Nat)} {done f:List Nat} (h:x9 ps ds done f) {i x d:Nat} (hi:i < ps.length) (hx:(gL ps i)[gN done i]?=some x) (hd:(gL ds i)[gN done i]?=some d) (hb:x < 65536):x9 ps ds (done.set i (gN done i+1)) (f.set x d):=by
 obtain⟨h1,h2,h3,h4⟩:=h
 have hid:i < done.length:=by omega
 have hxf:x < f.length:=by omega
 refine⟨by rw[List.length_set]; exact h1,by rw[List.length_set]; exact h2,fun j=>?_,fun y=>?_⟩
 ·rw[j6 _ _ _ _ hid]
  split
  ·rename_i e
   subst e
   exact(gEs.1 hx).1
  ·exact h3 j
 ·rw[j6 f x y d hxf]
  by_cases e:y=x
  ·subst e
   rw[if_pos rfl]
   refine .inr ⟨i,gN done i,?_,hx,hd⟩
   rw[j6 _ _ _ _ hid,if_pos rfl]
   omega
  ·rw[if_neg e]
   rcases h4 y with⟨g1,g2⟩ | ⟨j,k,g1,g2,g3⟩
   ·refine .inl ⟨g1,fun j k hk=>?_⟩
    rw[j6 _ _ _ _ hid] at hk
    by_cases ej:j=i
    ·subst ej
     rw[if_pos rfl] at hk
     rcases Nat.lt_or_ge k (gN done j) with q | q
     ·exact g2 j k q
     ·obtain rfl:k=gN done j:=by omega
      rw[hx]
      intro hc
      injection hc with hc
      exact e hc.symm
    ·rw[if_neg ej] at hk
     exact g2 j k hk
   ·refine .inr ⟨j,k,?_,g2,g3⟩
    rw[j6 _ _ _ _ hid]
    split
    ·rename_i ej
     subst ej
     omega
    ·exact g1
theorem I9 {ps ds:List (List Nat)} {done f:List Nat} {i x d:Nat} (h:HH ps ds done f i) (hi:i < done.length) (hf:x < f.length) (hx:(gL ps i)[gN done i]?=some x) (hd:(gL ds i)[gN done i]?=some d) (ha:(gL ps i).Pairwise (· < ·)):HH ps ds (done.set i (gN done i+1)) (f.set x d) i:=by
 intro k hk y v hy hv
 rw[j6 _ _ _ _ hi,if_pos rfl] at hk
 rw[j6 _ _ _ _ hf]
 rcases Nat.lt_or_ge k (gN done i) with q | q
 ·obtain⟨b1,rfl⟩:=gEs.1 hy
  obtain⟨b2,rfl⟩:=gEs.1 hx
  have:=List.pairwise_iff_getElem.1 ha k (gN done i) b1 b2 q
  rw[if_neg (by omega)]
  exact h k q _ v hy hv
 ·obtain rfl:k=gN done i:=by omega
  rw[hx] at hy
  injection hy with hy
  rw[hd] at hv
  injection hv with hv
  rw[if_pos hy.symm]
  exact hv
def nN:List (List Nat)→List Nat→Nat
 | p::ps,d::ds=>(p.length - d)+nN ps ds
 | _,_=>0
theorem zP:∀(ps:List (List Nat)) (done:List Nat) (i v:Nat),i < ps.length→i < done.length→gN done i < v→gN done i < (gL ps i).length→nN ps (done.set i v) < nN ps done
 | [],_,_,_,h,_,_,_=>by simp at h
 | _::_,[],_,_,_,h,_,_=>by simp at h
 | p::ps,d::ds,0,v,_,_,h1,h2=>by
  simp only[gN,gL,List.getD_cons_zero] at h1 h2
  show(p.length - v)+nN ps ds < (p.length - d)+nN ps ds
  omega
 | p::ps,d::ds,i+1,v,h3,h4,h1,h2=>by
  simp only[gN,gL,List.getD_cons_succ] at h1 h2
  have:=zP ps ds i v (by simpa using h3) (by simpa using h4) h1 h2
  show(p.length - d)+nN ps (ds.set i v) < (p.length - d)+nN ps ds
  omega
def kZ (ps:List (List Nat)) (done:List Nat) (t:Nat):List Nat:=(List.range t).filter fun i=>decide (gN done i < (gL ps i).length)
theorem JW (ps:List (List Nat)) (done:List Nat) (t:Nat):kZ ps done (t+1)=kZ ps done t++if gN done t < (gL ps t).length then[t] else[]:=by
 unfold kZ
 rw[List.range_succ,List.filter_append]
 by_cases h:gN done t < (gL ps t).length
 ·rw[if_pos h,List.filter_cons_of_pos (by simpa using h)]
  rfl
 ·rw[if_neg h,List.filter_cons_of_neg (by simpa using h)]
  rfl
theorem DE (ps:List (List Nat)) (done:List Nat) (t:Nat):(kZ ps done t).length≤t:=by
 have:=List.length_filter_le (fun i=>decide (gN done i < (gL ps i).length)) (List.range t)
 simpa[kZ] using this
theorem K3 {ps:List (List Nat)} {done:List Nat} {t i:Nat} (h:i∈kZ ps done t):i < t∧gN done i < (gL ps i).length:=by
 simpa[kZ] using h
structure OZ (ps ds:List (List Nat)) (atomic:Bool) (f:List Nat):Prop where
 fl:f.length=65536
 A:∀ x,(gN f x=0∧∀ i k:Nat,(gL ps i)[k]?≠some x)∨∃ i k:Nat,(gL ps i)[k]?=some x∧(gL ds i)[k]?=some (gN f x)
 B:atomic=true→(∀ i,gL ps i=[])∨∃ j,j < ps.length∧∀ k x v:Nat,(gL ps j)[k]?=some x→(gL ds j)[k]?=some v→gN f x=v
theorem LN {ps ds:List (List Nat)} {done f:List Nat} {atomic:Bool} (h:x9 ps ds done f) (ha:atomic=true→KJ ps ds done f) (h0:kZ ps done ps.length=[]):OZ ps ds atomic f:=by
 have hall:∀ i,gN done i=(gL ps i).length:=fun i=>by
  rcases Nat.lt_or_ge i ps.length with q | q
  ·have:=h.le i
   rcases Nat.lt_or_ge (gN done i) (gL ps i).length with z | z
   ·have:i∈kZ ps done ps.length:=by simp only[kZ,List.mem_filter,List.mem_range,decide_eq_true_eq]; exact⟨q,z⟩
    rw[h0] at this
    cases this
   ·omega
  ·have:=h.le i
   have e:gL ps i=[]:=by simp[gL,q]
   rw[e] at this ⊢
   simpa using this
 refine⟨h.fl,fun x=>?_,fun hat=>?_⟩
 ·rcases h.A x with⟨g1,g2⟩ | ⟨i,k,_,g2,g3⟩
  ·refine .inl ⟨g1,fun i k hk=>g2 i k ?_ hk⟩
   rw[hall i]
   exact(gEs.1 hk).1
  ·exact .inr ⟨i,k,g2,g3⟩
 ·rcases(ha hat).b with g | ⟨j,hj,_,g⟩
  ·exact .inl fun i=>List.eq_nil_of_length_eq_zero (by rw[← hall i]; exact g i)
  ·refine .inr ⟨j,hj,fun k x v hx hv=>g k ?_ x v hx hv⟩
   rw[hall j]
   exact(gEs.1 hx).1
theorem PD (ps ds:List (List Nat)) (n:Nat) (hn:n=ps.length):x9 ps ds (List.replicate n 0) (List.replicate 65536 0)∧KJ ps ds (List.replicate n 0) (List.replicate 65536 0):=by
 have h0:∀(m i:Nat),gN (List.replicate m 0) i=0:=fun m i=>by
  unfold gN
  rw[List.getD_eq_getElem?_getD,List.getElem?_replicate]
  split<;>rfl
 exact⟨⟨by rw[List.length_replicate]; exact hn,List.length_replicate,fun i=>by rw[h0]; exact Nat.zero_le _,fun x=>.inl ⟨h0 _ _,fun i k hk=>by rw[h0] at hk; exact absurd hk (Nat.not_lt_zero k)⟩⟩,⟨fun i=>.inl (h0 _ _),.inl fun i=>h0 _ _⟩⟩
theorem L5 (n:Nat):List.replicate n [uv 0]=bys (List.replicate n 0):=by simp[bys]
def BE (done f:List Nat):Heap:=[[.cells 1 (bys f)],[.cells 1 (nxR done)]]
def PX (l:List Rq) (atomic:Bool) (res:AV) (H':Heap):Prop:=H'=[]∧(((dD l).2≠0∧res=.tup [.list 1 [],iv (dD l).2])∨((dD l).2=0∧∃ f,OZ (psN l) (dsN l) atomic f∧res=.tup [.list 1 (bys f),iv 0]))
set_option maxHeartbeats 4000000 in
theorem MC {l:List Rq} {atomic:Bool} {seed:Nat} (hl:∀ r∈l,r.ok) (hn:l.length < 1000000000) (hsd:seed < 18446744073709551616):aF Tryz.prog 36 [.list 19 (rqs l),bv atomic,.sc (.int .u64 seed)] [] (PX l atomic):=by
 refine aF.of cF36 ?_ (nlB rfl)
 have ha:=N9 hl hn
 have hgood:=xE hl
 have hpl:=C5 hl
 unfold PX
 generalize dD l=z at *
 obtain⟨pz,er⟩:=z
 simp only at ha hgood hpl ⊢
 have hrl:=qT l
 refine aA ?_
 refine AWP.condN (er≠0) rfl (dE _) (fun h0=>?_) (fun h0=>?_)
 ·refine aA ?_
  exact qK [] ⟨rfl,.inl ⟨h0,rfl⟩⟩
 obtain rfl:er=0:=Decidable.byContradiction h0
 have g:=hgood rfl
 rw[hpl rfl] at ha ⊢
 have hpn:=L6 (psN l)
 have hps:(psN l).length=l.length:=by simp[psN]
 refine aA ?_
 refine Reg.o rfl (rL rfl (by omega) (by omega)) ?_
 refine aA ?_
 obtain⟨hc0,ha0⟩:=PD (psN l) (dsN l) l.length hps.symm
 have hb0:List.replicate 65536 [uv 0]=bys (List.replicate 65536 0):=L5 65536
 have hd0:List.replicate (rqs l).length [iv 0]=nxR (List.replicate l.length 0):=by simp[nxR,hrl]
 generalize hf0:(List.replicate 65536 0:List Nat)=f0 at *
 generalize hd9:(List.replicate l.length 0:List Nat)=d0 at *
 refine AWP.loop (fun s:List Nat×List Nat×Nat=>[(0,.list 19 (rqs l)),(1,bv atomic),(8,.list 1 (plN (psN l))),(10,.hsl 0 0 0 65536),(11,.hsl 1 0 0 l.length),(2,.sc (.int .u64 (s.2.2:Nat)))]) (fun s=>BE s.1 s.2.1) (fun s=>x9 (psN l) (dsN l) s.1 s.2.1∧(atomic=true→KJ (psN l) (dsN l) s.1 s.2.1)∧s.2.2 < 18446744073709551616) (fun s=>nN (psN l) s.1) (d0,f0,seed) ⟨hc0,fun _=>ha0,hsd⟩ ?_ ?_
 ·show Sub _ _ _ _ [(0,.list 19 (rqs l)),(1,bv atomic),(8,.list 1 (plN (psN l))),(10,.hsl 0 0 0 65536),(11,.hsl 1 0 0 l.length),(2,.sc (.int .u64 (seed:Nat)))] [[.cells 1 (bys f0)],[.cells 1 (nxR d0)]]
  exact Sub.wl [] [[(0,0)],[(1,0)]]
 rintro⟨done,f,sd⟩ ⟨hc,hat,hsd⟩
 replace hc:x9 (psN l) (dsN l) done f:=hc
 replace hat:atomic=true→KJ (psN l) (dsN l) done f:=hat
 have hdn:(nxR done).length=l.length:=by rw[eM,hc.dl,hps]
 have hfn:(bys f).length=65536:=by rw[dB,hc.fl]
 refine aA ?_
 rw[hpn,hps]
 refine AWP.loop (fun t:Nat=>[(0,.list 19 (rqs l)),(1,bv atomic),(8,.list 1 (plN (psN l))),(10,.hsl 0 0 0 65536),(11,.hsl 1 0 0 l.length),(2,.sc (.int .u64 (sd:Nat))),(12,.hsl 2 0 0 (kZ (psN l) done t).length),(29,.list 1 (plN (psN l))),(30,iv l.length),(31,iv t)]) (fun t=>[[.cells 1 (bys f)],[.cells 1 (nxR done)],[.cells 1 (nxR (kZ (psN l) done t))]]) (fun t=>t≤l.length) (fun t=>l.length - t) 0 (Nat.zero_le _) ?_ ?_
 ·show Sub _ _ _ _ [(0,.list 19 (rqs l)),(1,bv atomic),(8,.list 1 (plN (psN l))),(10,.hsl 0 0 0 65536),(11,.hsl 1 0 0 l.length),(2,.sc (.int .u64 (sd:Nat))),(12,.hsl 2 0 0 0),(29,.list 1 (plN (psN l))),(30,iv l.length),(31,iv 0)] [[.cells 1 (bys f)],[.cells 1 (nxR done)],[.cells 1 []]]
  exact Sub.wl [1] [[(0,0)],[(1,0)],[(2,0)]]
 ·rintro t ht
  refine aA ?_
  refine AWP.condN (t < l.length) rfl rfl (fun h=>?_) (fun h=>?_)
  ·have hr:=I4 (psN l) t (by omega)
   have hrd:=g9 done t (by rw[hc.dl]; omega)
   have hls:=JW (psN l) done t
   rw[show gN done t=done[t]'(by rw[hc.dl]; omega) by simp[gN,hc.dl,hps,h],show gL (psN l) t=(psN l)[t]'(by omega) by simp[gL,hps,h]] at hls
   have hql:=eM ((psN l)[t]'(by omega))
   have hll:=DE (psN l) done t
   generalize (psN l)[t]'(by omega)=q at *
   generalize done[t]'(by rw[hc.dl]; omega)=k at *
   generalize kZ (psN l) done t=lf at *
   have hkl:=eM lf
   refine aA ?_
   rw[hql]
   refine AWP.condN (k < q.length) rfl rfl (fun h2=>?_) (fun h2=>?_)
   ·rw[if_pos h2] at hls
    have e1:nxR (lf++[t])=nxR lf++[[iv t]]:=by simp[nxR]
    refine aA ?_
    refine⟨t+1,by omega,by omega,?_⟩
    rw[hls,e1,List.length_append]
    exact Sub.wl [] [[(0,0)],[(1,0)],[(4,0)]]
   ·rw[if_neg h2,List.append_nil] at hls
    refine aA ?_
    refine⟨t+1,by omega,by omega,?_⟩
    rw[hls]
    exact Sub.wl [] [[(0,0)],[(1,0)],[(2,0)]]
  ·obtain rfl:l.length=t:=by omega
   have hkl:=eM (kZ (psN l) done l.length)
   have hll:=DE (psN l) done l.length
   refine aA ?_
   refine AWP.condN ((kZ (psN l) done l.length).length=0) rfl rfl (fun h5=>?_) (fun h5=>?_)
   ·have hq:=LN hc hat (by rw[hps]; exact List.eq_nil_of_length_eq_zero h5)
    refine aA ?_
    exact qK [] ⟨rfl,.inr ⟨rfl,f,hq,rfl⟩⟩
   ·have hmem:=fun i (h:i < (kZ (psN l) done l.length).length)=>K3 (List.getElem_mem h)
    generalize kZ (psN l) done l.length=lf at *
    refine aA ?_
    obtain⟨sd1,hsd1⟩:∃ s,s=(6364136223846793005 * sd % 18446744073709551616+1442695040888963407) % 18446744073709551616:=⟨_,rfl⟩
    have hsb:sd1 < 18446744073709551616:=by rw[hsd1]; exact Nat.mod_lt _ (by decide)
    rw[← hsd1]
    obtain⟨ix,hix⟩:∃ ix,ix=sd1 / 2 ^ 33 % lf.length:=⟨_,rfl⟩
    have hil:ix < lf.length:=by rw[hix]; exact Nat.mod_lt _ (by omega)
    rw[← hix,Av.wrap_small (show -9223372036854775808≤(ix:Int) by omega) (by omega)]
    have hr1:=g9 lf ix hil
    obtain⟨hm1,hm2⟩:=hmem ix hil
    generalize lf[ix]=i at *
    clear hix hsd1
    have hr2:=I4 (psN l) i (by omega)
    rw[show(psN l)[i]'(by omega)=gL (psN l) i by simp[gL,hps,hm1]] at hr2
    refine aA ?_
    obtain⟨q1,q2⟩:=g.len i hm1
    have hds:=g.ds i hm1
    have hbd:=g.bd i
    have hasc:=g.asc i
    obtain⟨c0,c1',c2',c3,c4,c5,c6,c7,c8,c9,c10,c11,c12,c13,c14,c15,c16,hrow⟩:=IT (hl l[i] (List.getElem_mem _))
    have hr3:=BG l i hm1
    rw[hrow] at hr3
    have hR:gN done i < (gL (psN l) i).length:=hm2
    generalize l[i].data=d at *
    generalize l[i].off=off at *
    clear hr1 hkl hll hrow
    replace q1:(gL (psN l) i).length=d.length:=q1
    replace hbd:∀ x∈gL (psN l) i,x < 65536:=hbd
    refine AWP.loop (fun s:List Nat×List Nat=>[(0,.list 19 (rqs l)),(1,bv atomic),(8,.list 1 (plN (psN l))),(10,.hsl 0 0 0 65536),(11,.hsl 1 0 0 l.length),(2,.sc (.int .u64 (sd1:Nat))),(15,iv i),(16,.list 1 (nxR (gL (psN l) i)))]) (fun s=>BE s.1 s.2) (fun s=>x9 (psN l) (dsN l) s.1 s.2∧gN s.1 i < (gL (psN l) i).length∧(∀ j,j≠i→gN s.1 j=gN done j)∧(atomic=true→HH (psN l) (dsN l) s.1 s.2 i)∧nN (psN l) s.1≤nN (psN l) done) (fun s=>(gL (psN l) i).length - gN s.1 i) (done,f) ⟨hc,hR,fun _ _=>rfl,fun ha k hk=>?_,Nat.le_refl _⟩ ?_ ?_
    ·rcases(hat ha).a i with z | z
     ·replace hk:k < gN done i:=hk
      rw[z] at hk; exact absurd hk (Nat.not_lt_zero k)
     ·omega
    ·show Sub _ _ _ _ [(0,.list 19 (rqs l)),(1,bv atomic),(8,.list 1 (plN (psN l))),(10,.hsl 0 0 0 65536),(11,.hsl 1 0 0 l.length),(2,.sc (.int .u64 (sd1:Nat))),(15,iv i),(16,.list 1 (nxR (gL (psN l) i)))] [[.cells 1 (bys f)],[.cells 1 (nxR done)]]
     exact Sub.wl [] [[(0,0)],[(1,0)]]
    rintro⟨dn,f1⟩ ⟨hc1,hk1,hj1,hf1,hm1'⟩
    replace hc1:x9 (psN l) (dsN l) dn f1:=hc1
    replace hk1:gN dn i < (gL (psN l) i).length:=hk1
    replace hj1:∀ j,j≠i→gN dn j=gN done j:=hj1
    replace hf1:atomic=true→HH (psN l) (dsN l) dn f1 i:=hf1
    replace hm1':nN (psN l) dn≤nN (psN l) done:=hm1'
    show AWP _ _ _ _ _ [(0,.list 19 (rqs l)),(1,bv atomic),(8,.list 1 (plN (psN l))),(10,.hsl 0 0 0 65536),(11,.hsl 1 0 0 l.length),(2,.sc (.int .u64 (sd1:Nat))),(15,iv i),(16,.list 1 (nxR (gL (psN l) i)))] (BE dn f1)
    have hdn1:(nxR dn).length=l.length:=by rw[eM,hc1.dl,hps]
    have hdl1:dn.length=l.length:=by rw[hc1.dl,hps]
    have hfn1:(bys f1).length=65536:=by rw[dB,hc1.fl]
    have hfl1:=hc1.fl
    have hx:=hbd _ (List.getElem_mem hk1)
    have e1:=g9 dn i (by omega)
    have e2:=g9 (gL (psN l) i) _ hk1
    have e3:=mH d (gN dn i) (by omega)
    obtain⟨v0,e4⟩:∃ v0,bY (bys f1) (((gL (psN l) i)[gN dn i]:Nat):Int)=some [uv v0]:=⟨_,mH f1 ((gL (psN l) i)[gN dn i]) (by omega)⟩
    have s1:=EC hc1 (i:=i) (by omega) (gEg hk1) (show(gL (dsN l) i)[gN dn i]?=some (d[gN dn i]'(by omega)) by unfold gL; rw[hds]; exact gEg _) hx
    have s2:=fun h=>I9 (x:=(gL (psN l) i)[gN dn i]) (d:=d[gN dn i]'(by omega)) (hf1 h) (by omega) (by omega) (gEg hk1) (by unfold gL; rw[hds]; exact gEg _) hasc
    have s3:=zP (psN l) dn i (gN dn i+1) (by omega) (by omega) (by omega) hk1
    rw[show dn[i]'(by omega)=gN dn i by simp[gN,hdl1,hm1]] at e1
    generalize (gL (psN l) i)[gN dn i]=x at *
    generalize d[gN dn i]'(by omega)=b at *
    obtain⟨k,hk⟩:∃ k,gN dn i=k:=⟨_,rfl⟩
    rw[hk] at e1 e2 e3 s1 s2 s3 hk1
    unfold BE
    refine AWP.block ?_
    refine aA ?_
    refine DK.nil ⟨by kernel_rfl,?_⟩
    refine cK ?_
    have hs1:(nxR dn).set i [iv ((k+1:Nat):Int)]=nxR (dn.set i (k+1)):=by simp[nxR,List.map_set]
    have hs2:(bys f1).set x [uv b]=bys (f1.set x b):=by simp[bys,List.map_set]
    refine AWP.sub (fr':=[(0,.list 19 (rqs l)),(1,bv atomic),(8,.list 1 (plN (psN l))),(10,.hsl 0 0 0 65536),(11,.hsl 1 0 0 l.length),(2,.sc (.int .u64 (sd1:Nat))),(15,iv i),(16,.list 1 (nxR (gL (psN l) i)))]) (H':=BE (dn.set i (k+1)) (f1.set x b)) ?_ ?_
    ·unfold BE
     exact Sub.wl [] [[(0,0)],[(1,0)]]
    unfold BE
    have hg1:gN (dn.set i (k+1)) i=k+1:=by rw[j6 _ _ _ _ (by omega),if_pos rfl]
    have hg2:∀ j,j≠i→gN (dn.set i (k+1)) j=gN done j:=fun j hj=>by rw[j6 _ _ _ _ (by omega),if_neg hj]; exact hj1 j hj
    have hdl2:(dn.set i (k+1)).length=l.length:=by rw[List.length_set,hdl1]
    have hdn2:(nxR (dn.set i (k+1))).length=l.length:=by rw[eM,hdl2]
    have e5:=g9 (dn.set i (k+1)) i (by omega)
    rw[show(dn.set i (k+1))[i]'(by omega)=k+1 by simp] at e5
    generalize dn.set i (k+1)=dn2 at *
    generalize f1.set x b=f2 at *
    have hql2:=eM (gL (psN l) i)
    refine aA ?_
    rw[hql2]
    by_cases h7:k+1=(gL (psN l) i).length
    ·rw[dTr h7]
     refine aA ?_
     refine DK.nil ⟨by kernel_rfl,?_⟩
     refine aA ?_
     refine⟨(dn2,f2,sd1),⟨s1,fun ha=>⟨fun j=>?_,.inr ⟨i,by omega,hg1.trans h7,s2 ha⟩⟩,hsb⟩,Nat.lt_of_lt_of_le s3 hm1',?_⟩
     ·by_cases ej:j=i
      ·subst ej
       exact .inr (hg1.trans h7)
      ·rw[show gN (dn2,f2,sd1).1 j=gN done j from hg2 j ej]
       exact(hat ha).a j
     ·show Sub _ _ _ _ [(0,.list 19 (rqs l)),(1,bv atomic),(8,.list 1 (plN (psN l))),(10,.hsl 0 0 0 65536),(11,.hsl 1 0 0 l.length),(2,.sc (.int .u64 (sd1:Nat)))] [[.cells 1 (bys f2)],[.cells 1 (nxR dn2)]]
      exact Sub.wl [] [[(0,0)],[(1,0)]]
    rw[dFa h7]
    cases atomic with
    | true=>
     refine aA ?_
     refine DK.nil ⟨by kernel_rfl,?_⟩
     refine aA ?_
     refine⟨(dn2,f2),⟨s1,by show gN dn2 i < _; omega,hg2,s2,by show nN _ dn2≤_; omega⟩,by show _ - gN dn2 i < _ - gN dn i; omega,?_⟩
     show Sub _ _ _ _ [(0,.list 19 (rqs l)),(1,bv true),(8,.list 1 (plN (psN l))),(10,.hsl 0 0 0 65536),(11,.hsl 1 0 0 l.length),(2,.sc (.int .u64 (sd1:Nat))),(15,iv i),(16,.list 1 (nxR (gL (psN l) i)))] [[.cells 1 (bys f2)],[.cells 1 (nxR dn2)]]
     exact Sub.wl [] [[(0,0)],[(1,0)]]
    | false=>
     have h8:k+1 < (gL (psN l) i).length:=by omega
     have hy:=hbd _ (List.getElem_mem h8)
     have e6:=g9 (gL (psN l) i) _ h8
     generalize (gL (psN l) i)[k+1]=y at *
     refine aA ?_
     refine DK.nil ⟨by kernel_rfl,?_⟩
     refine AWP.condN (y≠x+1) rfl (by simp) (fun _=>?_) (fun _=>?_)
     ·refine aA ?_
      refine⟨(dn2,f2,sd1),⟨s1,fun ha=>(by cases ha),hsb⟩,Nat.lt_of_lt_of_le s3 hm1',?_⟩
      show Sub _ _ _ _ [(0,.list 19 (rqs l)),(1,bv false),(8,.list 1 (plN (psN l))),(10,.hsl 0 0 0 65536),(11,.hsl 1 0 0 l.length),(2,.sc (.int .u64 (sd1:Nat)))] [[.cells 1 (bys f2)],[.cells 1 (nxR dn2)]]
      exact Sub.wl [] [[(0,0)],[(1,0)]]
     ·refine aA ?_
      refine⟨(dn2,f2),⟨s1,by show gN dn2 i < _; omega,hg2,s2,by show nN _ dn2≤_; omega⟩,by show _ - gN dn2 i < _ - gN dn i; omega,?_⟩
      show Sub _ _ _ _ [(0,.list 19 (rqs l)),(1,bv false),(8,.list 1 (plN (psN l))),(10,.hsl 0 0 0 65536),(11,.hsl 1 0 0 l.length),(2,.sc (.int .u64 (sd1:Nat))),(15,iv i),(16,.list 1 (nxR (gL (psN l) i)))] [[.cells 1 (bys f2)],[.cells 1 (nxR dn2)]]
      exact Sub.wl [] [[(0,0)],[(1,0)]]
theorem fV {n:Nat} {t:Ty} (h:kQ (n+1) t):∃ k c b s sz bl pl of,t=.mk k c b s sz bl pl of:=by
 cases t with
 | mk k c b s sz bl pl of=>exact⟨k,c,b,s,sz,bl,pl,of,rfl⟩
 | raw=>exact h.elim
theorem KZ {a:Int} {e o:Ty} (he:kQ 3 e) (ho:kQ 3 o):aB Tryz.prog 12 [.agg (vwR a e o)] (.tup [.agg (vwR a e o),bv (bA 3 e && bA 3 o)]):=by
 refine aB.mkI (hX:=⟨.tup _ (by
  intro c hc
  simp only[List.mem_cons,List.not_mem_nil,or_false] at hc
  rcases hc with rfl | rfl
  ·exact CX.out
  ·exact .sc _)⟩) (ha:=⟨fun c hc=>by rw[List.mem_singleton.1 hc]; exact CX.out⟩) cF12 (nlB rfl) ?_
 have se:aB Tryz.prog 19 [.agg (tyR e),iv 3] (bv (bA 3 e)):=sL 3 e (by omega) he
 have so:aB Tryz.prog 19 [.agg (tyR o),iv 3] (bv (bA 3 o)):=sL 3 o (by omega) ho
 obtain⟨k1,c1,b1,s1,z1,l1,p1,f1,rfl⟩:=fV he
 obtain⟨k2,c2,b2,s2,z2,l2,p2,f2,rfl⟩:=fV ho
 generalize bA 3 (Ty.mk k1 c1 b1 s1 z1 l1 p1 f1)=g1 at *
 generalize bA 3 (Ty.mk k2 c2 b2 s2 z2 l2 p2 f2)=g2 at *
 have e0:vwR a (Ty.mk k1 c1 b1 s1 z1 l1 p1 f1) (Ty.mk k2 c2 b2 s2 z2 l2 p2 f2)=[iv a,iv k1,iv c1,iv b1,iv s1,.list 1 (inR z1),.list 1 (inR l1),.list 1 (inR p1),.list 8 (aD f1),iv k2,iv c2,iv b2,iv s2,.list 1 (inR z2),.list 1 (inR l2),.list 1 (inR p2),.list 8 (aD f2)]:=by unfold vwR; rw[tyR,tyR]; rfl
 rw[e0]
 rw[tyR] at se so
 cases g1 with
 | false=>
  refine aA ?_
  refine DK.nil ⟨by kernel_rfl,?_⟩
  refine aA ?_
  exact aJ.w
 | true=>
  refine aA ?_
  refine DK.nil ⟨by kernel_rfl,?_⟩
  refine aA ?_
  exact aJ.w
def yP (r:Rq):Bool:=bA 3 r.e && bA 3 r.o && !(decide (300 < r.data.length) && (decide (r.data.length≤4096) || decide (5000 < r.data.length)))
def tG (l:List Rq):List Rq×Bool:=if l.all yP=true then(l,true) else([],false)
def Rq.kn (r:Rq):Prop:=kQ 3 r.e∧kQ 3 r.o
set_option maxHeartbeats 4000000 in
theorem MG {l:List Rq} (hk:∀ r∈l,r.kn) (hn:l.length≤12):aB Tryz.prog 31 [.list 19 (rqs l)] (.tup [.list 19 (rqs (tG l).1),bv (tG l).2]):=by
 refine aB.mkI cF31 (nlB rfl) ?_
 have hll:=qT l
 refine aA ?_
 rw[hll,dFa (show¬ 12 < l.length by omega)]
 refine aA ?_
 refine AWP.loop (fun i:Nat=>[(0,.list 19 (rqs l)),(4,.hsl 0 0 0 i),(5,iv i)]) (fun i=>[[.cells 19 (rqs (l.take i))]]) (fun i=>i≤l.length∧∀ j (h:j < l.length),j < i→yP l[j]=true) (fun i=>l.length - i) 0 ⟨Nat.zero_le _,fun j _ h=>absurd h (Nat.not_lt_zero j)⟩ ?_ ?_
 ·exact Sub.wl [19] [[(0,0)]]
 rintro i ⟨hi,hg⟩
 refine aA ?_
 rw[hll]
 refine AWP.condN (i < l.length) rfl rfl (fun h=>?_) (fun h=>?_)
 ·have hr:=BG l i h
  have hki:=hk l[i] (List.getElem_mem _)
  have hv:=KZ (a:=l[i].at') hki.1 hki.2
  have hbad:yP l[i]=false→tG l=([],false):=fun hb=>by
   unfold tG
   rw[if_neg]
   intro q
   have:=List.all_eq_true.1 q l[i] (List.getElem_mem _)
   rw[hb] at this
   cases this
  have hgi:yP l[i]=true→∀ j (h:j < l.length),j < i+1→yP l[j]=true:=fun h0 j hj hlt=>by
   rcases Nat.lt_or_ge j i with q | q
   ·exact hg j hj q
   ·obtain rfl:j=i:=by omega
    exact h0
  have htk:rqs (l.take (i+1))=rqs (l.take i)++[rqR l[i]]:=by
   unfold rqs
   rw[List.take_add_one,gEg h,List.map_append]
   rfl
  have htl:(rqs (l.take i)).length=i:=by rw[qT,List.length_take]; omega
  have hfb:yP l[i]=(bA 3 l[i].e && bA 3 l[i].o && !(decide (300 < l[i].data.length) && (decide (l[i].data.length≤4096) || decide (5000 < l[i].data.length)))):=rfl
  generalize hq:l[i]=q at *
  clear hq
  obtain⟨a,t1,t2,off,data⟩:=q
  obtain⟨he,ho⟩:=hki
  obtain⟨k1,c1,b1,s1,z1,l1,p1,f1,rfl⟩:=fV he
  obtain⟨k2,c2,b2,s2,z2,l2,p2,f2,rfl⟩:=fV ho
  simp only at hfb hv
  generalize bA 3 (Ty.mk k1 c1 b1 s1 z1 l1 p1 f1)=g1 at *
  generalize bA 3 (Ty.mk k2 c2 b2 s2 z2 l2 p2 f2)=g2 at *
  have e0:vwR a (Ty.mk k1 c1 b1 s1 z1 l1 p1 f1) (Ty.mk k2 c2 b2 s2 z2 l2 p2 f2)=[iv a,iv k1,iv c1,iv b1,iv s1,.list 1 (inR z1),.list 1 (inR l1),.list 1 (inR p1),.list 8 (aD f1),iv k2,iv c2,iv b2,iv s2,.list 1 (inR z2),.list 1 (inR l2),.list 1 (inR p2),.list 8 (aD f2)]:=by unfold vwR; rw[tyR,tyR]; rfl
  have e1:rqR ⟨a,Ty.mk k1 c1 b1 s1 z1 l1 p1 f1,Ty.mk k2 c2 b2 s2 z2 l2 p2 f2,off,data⟩=[iv a,iv k1,iv c1,iv b1,iv s1,.list 1 (inR z1),.list 1 (inR l1),.list 1 (inR p1),.list 8 (aD f1),iv k2,iv c2,iv b2,iv s2,.list 1 (inR z2),.list 1 (inR l2),.list 1 (inR p2),.list 8 (aD f2),iv off,.list 1 (bys data)]:=by unfold rqR; rw[e0]; rfl
  rw[e1] at hr htk
  rw[e0] at hv
  generalize (g1 && g2)=is at *
  generalize yP ⟨a,Ty.mk k1 c1 b1 s1 z1 l1 p1 f1,Ty.mk k2 c2 b2 s2 z2 l2 p2 f2,off,data⟩=fb at *
  have hbl:=dB data
  clear e0 e1 he ho
  refine aA ?_
  rw[hbl]
  cases is with
  | false=>
   (rw[hbad (by rw[hfb]; rfl),show rqs (([],false):List Rq×Bool).1=[] from rfl]; refine aA ?_; exact aJ.w)
  | true=>
  rw[Bool.true_and] at hfb
  refine aA ?_
  by_cases n1:300 < data.length
  ·rw[dTr n1,Bool.true_and] at *
   refine aA ?_
   by_cases n2:data.length≤4096
   ·rw[dTr n2,Bool.true_or] at *
    (rw[hbad (by rw[hfb]; rfl),show rqs (([],false):List Rq×Bool).1=[] from rfl]; refine aA ?_; exact aJ.w)
   ·rw[dFa n2,Bool.false_or] at *
    refine aA ?_
    by_cases n3:5000 < data.length
    ·rw[dTr n3] at *
     (rw[hbad (by rw[hfb]; rfl),show rqs (([],false):List Rq×Bool).1=[] from rfl]; refine aA ?_; exact aJ.w)
    ·rw[dFa n3] at *
     (refine aA ?_; rw[hll,dFa (show¬ 12 < l.length by omega)]; refine aA ?_; refine DK.nil ⟨by kernel_rfl,?_⟩; refine aA ?_; refine⟨i+1,⟨by omega,hgi (by rw[hfb]; rfl)⟩,by omega,?_⟩; rw[htk]; exact Sub.wl [] [[(2,14)]])
  ·rw[dFa n1,Bool.false_and] at *
   (refine aA ?_; rw[hll,dFa (show¬ 12 < l.length by omega)]; refine aA ?_; refine DK.nil ⟨by kernel_rfl,?_⟩; refine aA ?_; refine⟨i+1,⟨by omega,hgi (by rw[hfb]; rfl)⟩,by omega,?_⟩; rw[htk]; exact Sub.wl [] [[(2,14)]])
 ·obtain rfl:l.length=i:=by omega
  have:tG l=(l,true):=by
   unfold tG
   rw[if_pos]
   rw[List.all_eq_true]
   intro r hr
   obtain⟨j,hj,rfl⟩:=List.mem_iff_getElem.1 hr
   exact hg j hj hj
  rw[this,List.take_length]
  refine aA ?_
  exact aJ.w
def LB (x y:Rq):Blk:=.cells 19 [rqR x,rqR y]
theorem pH {r:Rq} (h:r.kn):∃ a1 k1 c1 b1 s1 z1 l1 p1 f1 k1' c1' b1' s1' z1' l1' p1' f1',∀ d,rqR { r with data:=d }=[iv a1,iv k1,iv c1,iv b1,iv s1,.list 1 (inR z1),.list 1 (inR l1),.list 1 (inR p1),.list 8 (aD f1),iv k1',iv c1',iv b1',iv s1',.list 1 (inR z1'),.list 1 (inR l1'),.list 1 (inR p1'),.list 8 (aD f1'),iv r.off,.list 1 (bys d)]:=by
 obtain⟨a,t1,t2,off,data⟩:=r
 obtain⟨he,ho⟩:=h
 obtain⟨k1,c1,b1,s1,z1,l1,p1,f1,rfl⟩:=fV he
 obtain⟨k2,c2,b2,s2,z2,l2,p2,f2,rfl⟩:=fV ho
 refine⟨a,k1,c1,b1,s1,z1,l1,p1,f1,k2,c2,b2,s2,z2,l2,p2,f2,fun d=>?_⟩
 unfold rqR vwR
 rw[tyR,tyR]
 rfl
set_option maxHeartbeats 4000000 in
theorem PJ {x y r:Rq} {s:Nat} (hx:x.kn) (hy:y.kn) (hs:(s=0∧r=x)∨(s=1∧r=y)) (hr:r.ok):aF Tryz.prog 95 [.hsl 0 0 s 1] [[LB x y]] fun res H'=>res=.tup [.list 1 (plR (dD [r]).1),iv (dD [r]).2]∧H'=[[LB x y]]:=by
 have hc:=GK hr
 have hok:(cB r).2=0→dD [r]=([(cB r).1],0):=fun h=>tH (l:=[r]) (by simp) (fun j hj=>by
  have:j=0:=by simpa using hj
  subst this
  exact h)
 have hbad:(cB r).2≠0→dD [r]=([],(cB r).2):=fun h=>CI (l:=[r]) (i:=0) (by simp) (by simp) (fun j hj=>absurd hj (Nat.not_lt_zero j)) h
 obtain⟨a1,k1,c1,b1,s1,z1,l1,p1,f1,k1',c1',b1',s1',z1',l1',p1',f1',Xe⟩:=pH hx
 obtain⟨a2,k2,c2,b2,s2,z2,l2,p2,f2,k2',c2',b2',s2',z2',l2',p2',f2',Ye⟩:=pH hy
 have hxe:rqR x=[iv a1,iv k1,iv c1,iv b1,iv s1,.list 1 (inR z1),.list 1 (inR l1),.list 1 (inR p1),.list 8 (aD f1),iv k1',iv c1',iv b1',iv s1',.list 1 (inR z1'),.list 1 (inR l1'),.list 1 (inR p1'),.list 8 (aD f1'),iv x.off,.list 1 (bys x.data)]:=Xe x.data
 have hye:rqR y=[iv a2,iv k2,iv c2,iv b2,iv s2,.list 1 (inR z2),.list 1 (inR l2),.list 1 (inR p2),.list 8 (aD f2),iv k2',iv c2',iv b2',iv s2',.list 1 (inR z2'),.list 1 (inR l2'),.list 1 (inR p2'),.list 8 (aD f2'),iv y.off,.list 1 (bys y.data)]:=Ye y.data
 unfold LB
 rw[hxe,hye]
 generalize cB r=z at *
 obtain⟨p,er⟩:=z
 simp only at hok hbad hc
 rcases hs with⟨rfl,rfl⟩ | ⟨rfl,rfl⟩
 ·rw[hxe] at hc
  refine aF.of PF ?_ (nlB rfl)
  refine aA ?_
  refine AWP.loop (fun i:Nat=>[(4,.hsl 1 0 0 i),(12,.hsl 0 0 0 1),(13,iv 1),(14,iv i)]) (fun i=>[[.cells 19 [[iv a1,iv k1,iv c1,iv b1,iv s1,.list 1 (inR z1),.list 1 (inR l1),.list 1 (inR p1),.list 8 (aD f1),iv k1',iv c1',iv b1',iv s1',.list 1 (inR z1'),.list 1 (inR l1'),.list 1 (inR p1'),.list 8 (aD f1'),iv r.off,.list 1 (bys r.data)],[iv a2,iv k2,iv c2,iv b2,iv s2,.list 1 (inR z2),.list 1 (inR l2),.list 1 (inR p2),.list 8 (aD f2),iv k2',iv c2',iv b2',iv s2',.list 1 (inR z2'),.list 1 (inR l2'),.list 1 (inR p2'),.list 8 (aD f2'),iv y.off,.list 1 (bys y.data)]]],[.cells 1 (plR (([p]:List (List Int)).take i))]]) (fun i=>i≤1∧(1≤i→er=0)) (fun i=>1 - i) 0 ⟨Nat.zero_le _,fun h=>absurd h (by omega)⟩ ?_ ?_
  ·exact Sub.wl [1] [[(0,0)],[(1,0)]]
  rintro i ⟨hi,hg⟩
  match i,hi,hg with
  | 0,_,_=>
   refine aA ?_
   refine AWP.condN (er≠0) rfl (dE _) (fun h0=>?_) (fun h0=>?_)
   ·rw[hbad h0]
    refine aA ?_
    exact qK [[(0,0)]] ⟨rfl,rfl⟩
   ·refine aA ?_
    refine⟨1,⟨Nat.le_refl _,fun _=>Decidable.byContradiction h0⟩,by omega,?_⟩
    show Sub _ _ _ _ [(4,.hsl 1 0 0 1),(12,.hsl 0 0 0 1),(13,iv 1),(14,iv 1)] [[.cells 19 [[iv a1,iv k1,iv c1,iv b1,iv s1,.list 1 (inR z1),.list 1 (inR l1),.list 1 (inR p1),.list 8 (aD f1),iv k1',iv c1',iv b1',iv s1',.list 1 (inR z1'),.list 1 (inR l1'),.list 1 (inR p1'),.list 8 (aD f1'),iv r.off,.list 1 (bys r.data)],[iv a2,iv k2,iv c2,iv b2,iv s2,.list 1 (inR z2),.list 1 (inR l2),.list 1 (inR p2),.list 8 (aD f2),iv k2',iv c2',iv b2',iv s2',.list 1 (inR z2'),.list 1 (inR l2'),.list 1 (inR p2'),.list 8 (aD f2'),iv y.off,.list 1 (bys y.data)]]],[.cells 1 [[.list 1 (inR p)]]]]
    exact Sub.wl [] [[(0,0)],[(4,0)]]
  | 1,_,hg=>
   rw[hok (hg (Nat.le_refl _))]
   refine aA ?_
   exact qK [[(0,0)]] ⟨rfl,rfl⟩
  | i+2,hi,_=>omega
 ·rw[hye] at hc
  refine aF.of PF ?_ (nlB rfl)
  refine aA ?_
  refine AWP.loop (fun i:Nat=>[(4,.hsl 1 0 0 i),(12,.hsl 0 0 1 1),(13,iv 1),(14,iv i)]) (fun i=>[[.cells 19 [[iv a1,iv k1,iv c1,iv b1,iv s1,.list 1 (inR z1),.list 1 (inR l1),.list 1 (inR p1),.list 8 (aD f1),iv k1',iv c1',iv b1',iv s1',.list 1 (inR z1'),.list 1 (inR l1'),.list 1 (inR p1'),.list 8 (aD f1'),iv x.off,.list 1 (bys x.data)],[iv a2,iv k2,iv c2,iv b2,iv s2,.list 1 (inR z2),.list 1 (inR l2),.list 1 (inR p2),.list 8 (aD f2),iv k2',iv c2',iv b2',iv s2',.list 1 (inR z2'),.list 1 (inR l2'),.list 1 (inR p2'),.list 8 (aD f2'),iv r.off,.list 1 (bys r.data)]]],[.cells 1 (plR (([p]:List (List Int)).take i))]]) (fun i=>i≤1∧(1≤i→er=0)) (fun i=>1 - i) 0 ⟨Nat.zero_le _,fun h=>absurd h (by omega)⟩ ?_ ?_
  ·exact Sub.wl [1] [[(0,0)],[(1,0)]]
  rintro i ⟨hi,hg⟩
  match i,hi,hg with
  | 0,_,_=>
   refine aA ?_
   refine AWP.condN (er≠0) rfl (dE _) (fun h0=>?_) (fun h0=>?_)
   ·rw[hbad h0]
    refine aA ?_
    exact qK [[(0,0)]] ⟨rfl,rfl⟩
   ·refine aA ?_
    refine⟨1,⟨Nat.le_refl _,fun _=>Decidable.byContradiction h0⟩,by omega,?_⟩
    show Sub _ _ _ _ [(4,.hsl 1 0 0 1),(12,.hsl 0 0 1 1),(13,iv 1),(14,iv 1)] [[.cells 19 [[iv a1,iv k1,iv c1,iv b1,iv s1,.list 1 (inR z1),.list 1 (inR l1),.list 1 (inR p1),.list 8 (aD f1),iv k1',iv c1',iv b1',iv s1',.list 1 (inR z1'),.list 1 (inR l1'),.list 1 (inR p1'),.list 8 (aD f1'),iv x.off,.list 1 (bys x.data)],[iv a2,iv k2,iv c2,iv b2,iv s2,.list 1 (inR z2),.list 1 (inR l2),.list 1 (inR p2),.list 8 (aD f2),iv k2',iv c2',iv b2',iv s2',.list 1 (inR z2'),.list 1 (inR l2'),.list 1 (inR p2'),.list 8 (aD f2'),iv r.off,.list 1 (bys r.data)]]],[.cells 1 [[.list 1 (inR p)]]]]
    exact Sub.wl [] [[(0,0)],[(4,0)]]
  | 1,_,hg=>
   rw[hok (hg (Nat.le_refl _))]
   refine aA ?_
   exact qK [[(0,0)]] ⟨rfl,rfl⟩
  | i+2,hi,_=>omega
def yK (out:List Ac):List (List AV):=
 match out.getLast? with
 | some a=>acR out.dropLast++[[iv a.1,iv a.2.1,.hsl 2 0 0 a.2.2.length]]
 | none=>[]
theorem fQ (o:List Ac) (a:Ac):yK (o++[a])=acR o++[[iv a.1,iv a.2.1,.hsl 2 0 0 a.2.2.length]]:=by simp[yK]
theorem EE (out:List Ac):(yK out).length=out.length:=by
 rcases List.eq_nil_or_concat out with rfl | ⟨o,a,rfl⟩
 ·rfl
 ·rw[List.concat_eq_append,fQ]
  simp[acR]
def EndL (LR:List (List AV)) (rs:List jK) (v:AV) (e:Exit) (fr:Fr) (H:Heap):Prop:=(e=.normal∨e=.ret)∧∃ res res' H2,kB fr H rs=some res∧d4 1 H res H2 res'∧(res'=v∧H2=[[.cells 19 LR]])
set_option maxHeartbeats 4000000 in
theorem CA {LR:List (List AV)} [PRs LR] {N:Nat} (h1:1≤N) (h2:N≤64) (bm:List (Nat×Nat)) (hn:bm.length≤300000) (hb:∀ x∈bm.map (·.1),x < 65536) (hne:bm≠[]):
  AWP Tryz.prog F32.n 1 (hG [1,1,1,1,1,1,1] F32.code) (EndL LR F32.res (.tup [.list 3 (acR (lT bm N)),iv 0])) [(1,iv N),(8,.tmap (bmE bm)),(9,.hsl 1 0 0 bm.length)] [[.cells 19 LR],[.cells 1 (nxR (bm.map (·.1)))]]:=by
 show AWP _ _ _ (.seq _ _) _ _ _
 have hs:=JV ((bm.map (·.1)).map fun x:Nat=>(x:Int)) (by simp; omega)
 rw[← wF,FP,← wF] at hs
 simp only[List.length_map] at hs
 have hsl:(f7 bm).length=bm.length:=by unfold f7; rw[List.length_mergeSort,List.length_map]
 have hsb:∀ x∈f7 bm,x < 65536∧d7 bm x≠none:=fun x hx=>by
  unfold f7 at hx
  rw[List.mem_mergeSort] at hx
  exact⟨hb x hx,(lN x bm).2 hx⟩
 refine AWP.seq ?_
 refine AWP.region ?_
 refine Reg.o rfl rfl ?_
 have hs2:=aF.via1 (args:=[.hsl 1 0 0 bm.length]) (args':=[.hsl 0 0 0 bm.length]) (H:=[[.cells 19 LR],[.cells 1 (nxR (bm.map (·.1)))]]) (R:=fun res y=>res=.tup []∧y=.cells 1 (nxR (f7 bm))) 1 0 (hs.mono (by rintro res H' ⟨rfl,rfl⟩; exact⟨_,rfl,.tup _ (fun c hc=>by cases hc),prs _,rfl,rfl⟩)) rfl (prs _) ⟨.hsl _ _ _ _ _ _ rfl,trivial⟩
 refine Reg.c (Nat.le_succ _) rfl (hs2.mono ?_)
 rintro res H' ⟨_,rfl,rfl,rfl⟩
 clear hs2
 unfold lT
 have hasc:=LX bm
 generalize f7 bm=s at *
 have hsl2:=eM s
 refine Reg.nil ?_
 refine AWP.sub (fr':=[(1,iv N),(8,.tmap (bmE bm)),(9,.list 1 (nxR s))]) (H':=[[.cells 19 LR]]) ?_ ?_
 ·rw[← hsl]
  exact Sub.w [] [[(0,0)]]
 have hs0:0 < s.length:=by
  rw[hsl]
  exact List.length_pos_iff.2 hne
 have r0:=g9 s 0 hs0
 have r1:=g9 s (s.length - 1) (by omega)
 have hlo:=(hsb s[0] (List.getElem_mem _)).1
 have hhi:=(hsb s[s.length - 1] (List.getElem_mem _)).1
 rw[show s.headD 0=s[0] by cases s with | nil=>exact absurd hs0 (Nat.lt_irrefl 0) | cons=>rfl,show s.getLastD 0=s[s.length - 1] by rw[List.getLastD_eq_getLast?,List.getLast?_eq_getElem?,gEg (by omega)]; rfl]
 have hlh:=hasc 0 (s.length - 1) hs0 (by omega) (Nat.zero_le _)
 have hlx:=fun i hi=>hasc 0 i hs0 hi (Nat.zero_le _)
 have hxh:=fun i hi=>hasc i (s.length - 1) hi (by omega) (by omega)
 generalize s[0]=lo at *
 generalize s[s.length - 1]=hi at *
 rw[← hsl2] at r1
 refine aA ?_
 obtain⟨w,hw⟩:∃ w,w=(hi - lo+N) / N:=⟨_,rfl⟩
 rw[← hw]
 have hw1:w≠0:=by
  have:=Nat.div_le_div_right (c:=N) (show N≤hi - lo+N by omega)
  rw[Nat.div_self (by omega)] at this
  omega
 rw[hsl2]
 refine AWP.loop (fun i:Nat=>[(8,.tmap (bmE bm)),(16,iv lo),(17,iv w),(18,.hsl 1 0 0 (lA w lo bm (s.take i)).length),(98,.list 1 (nxR s)),(99,iv s.length),(100,iv i)]) (fun i=>[[.cells 19 LR],[.cells 3 (yK (lA w lo bm (s.take i)))],[.cells 1 (bys (vX (lA w lo bm (s.take i))))]]) (fun i=>i≤s.length∧(lA w lo bm (s.take i)).length≤i∧(vX (lA w lo bm (s.take i))).length≤i∧∀ a∈lA w lo bm (s.take i),a.2.1 < 65536) (fun i=>s.length - i) 0 ⟨Nat.zero_le _,Nat.le_refl _,Nat.le_refl _,fun a ha=>by cases ha⟩ ?_ ?_
 ·show Sub _ _ _ _ [(8,.tmap (bmE bm)),(16,iv lo),(17,iv w),(18,.hsl 1 0 0 0),(98,.list 1 (nxR s)),(99,iv s.length),(100,iv 0)] [[.cells 19 LR],[.cells 3 []],[.cells 1 []]]
  exact Sub.wl [3,1] [[(0,0)],[(1,0)],[(2,0)]]
 rintro i ⟨hi9,hol,hdl,hat⟩
 refine aA ?_
 refine AWP.condN (i < s.length) rfl rfl (fun h=>?_) (fun h=>?_)
 ·have hr:=g9 s i h
  have hx:=hsb s[i] (List.getElem_mem _)
  have hxl:=hlx i h
  have hxu:=hxh i h
  have hsn:=I6 w lo bm (s.take i) s[i]
  rw[show s.take i++[s[i]]=s.take (i+1) by rw[List.take_add_one,gEg h]; rfl] at hsn
  generalize s[i]=x at *
  generalize lA w lo bm (s.take i)=out at *
  have hat2:=FZ (w:=w) (lo:=lo) (bm:=bm) hx.1 hat
  rw[← hsn] at hat2
  obtain⟨b,hb⟩:=Option.ne_none_iff_exists'.1 hx.2
  have hmf:=nB x bm
  rw[hb] at hmf
  replace hmf:cS .i64 (x:Int) (bmE bm)=some (some (uv b)):=hmf
  unfold fJ at hsn
  rw[hb] at hsn
  have hrl:=EE out
  obtain⟨pp,hpp⟩:∃ pp,pp=(x - lo) / w:=⟨_,rfl⟩
  rw[← hpp] at hsn
  rcases List.eq_nil_or_concat out with rfl | ⟨o,a,hox⟩
  ·refine aA ?_
   rw[← hpp]
   refine aA ?_
   refine DK.nil ⟨by kernel_rfl,?_⟩
   refine aA ?_
   refine Reg.o rfl (iQ rfl rfl hmf) ?_
   refine aA ?_
   replace hsn:lA w lo bm (s.take (i+1))=[(pp,x,[b])]:=hsn
   refine⟨i+1,⟨by omega,by rw[hsn]; simp,by rw[hsn]; simp[vX],hat2⟩,by omega,?_⟩
   rw[hsn,show yK [(pp,x,[b])]=[[iv pp,iv x,.hsl 2 0 0 1]] from rfl,show bys (vX [(pp,x,[b])])=[[uv b]] from rfl]
   exact Sub.wl [] [[(0,0)],[(6,0)],[(4,0)]]
  ·rw[List.concat_eq_append] at hox
   subst hox
   obtain⟨a1,a2,a3⟩:=a
   have hln:(o++[(a1,a2,a3)]).length=o.length+1:=by simp
   have hal:(acR o).length=o.length:=by simp[acR]
   have hr2:bY (acR o++[[iv a1,iv a2,.hsl 2 0 0 a3.length]]) ((o.length:Nat):Int)=some [iv a1,iv a2,.hsl 2 0 0 a3.length]:=by
    rw[lD,← hal,List.getElem?_concat_length]
   rw[hln] at hrl ⊢
   rw[fQ] at hrl ⊢
   rw[dN] at hdl ⊢
   have ha2:a2 < 65536:=hat (a1,a2,a3) (by simp)
   replace hdl:a3.length≤i:=hdl
   have hbl:=dB a3
   simp only[List.getLast?_concat,List.dropLast_concat] at hsn
   replace hsn:lA w lo bm (s.take (i+1))=if a1=pp∧a2+a3.length=x then o++[(a1,a2,a3++[b])] else o++[(a1,a2,a3)]++[(pp,x,[b])]:=hsn
   show AWP _ _ _ _ _ _ [[.cells 19 LR],[.cells 3 (acR o++[[iv a1,iv a2,.hsl 2 0 0 a3.length]])],[.cells 1 (bys a3)]]
   refine aA ?_
   rw[← hpp]
   by_cases e1:a1=pp
   ·rw[dTr e1]
    refine aA ?_
    refine DK.nil ⟨by kernel_rfl,?_⟩
    refine aA ?_
    refine AWP.condN (a2+a3.length=x) rfl rfl (fun e2=>?_) (fun e2=>?_)
    ·rw[if_pos ⟨e1,e2⟩] at hsn
     refine aA ?_
     refine DK.o rfl (iQ rfl rfl hmf) ?_
     refine aA ?_
     refine DK.nil ⟨by kernel_rfl,?_⟩
     refine aA ?_
     refine⟨i+1,⟨by omega,by rw[hsn]; simp only[List.length_append,List.length_cons,List.length_nil] at hol ⊢; omega,by rw[hsn,dN]; simp only[List.length_append,List.length_cons,List.length_nil]; omega,hat2⟩,by omega,?_⟩
     rw[hsn,fQ,dN]
     have hbs:bys a3++[[uv b]]=bys (a3++[b]):=by simp[bys]
     refine Sub.to [] [[(0,0)],[(1,0)],[(4,11)]] ?_ (aI.cons (eB (wt5) bC.nil rfl) (aI.cons (eB (acS (n:=o.length+1 - 1) ?hn ?_) bC.nil rfl) (aI.cons ?_ aI.nil))) rfl rfl rfl
     case hn=>omega
     (all_goals exact gR)
    ·rw[if_neg (fun q=>e2 q.2)] at hsn
     refine aA ?_
     refine Reg.o rfl (iQ rfl rfl hmf) ?_
     refine aA ?_
     refine⟨i+1,⟨by omega,by rw[hsn]; simpa using hol,by rw[hsn,dN]; simp,hat2⟩,by omega,?_⟩
     rw[hsn,fQ,dN]
     refine Sub.to [] [[(0,0)],[(6,0)],[(4,0)]] ?_ (aI.cons (eB (wt5) bC.nil rfl) (aI.cons (eB (acB (wt2 rfl rfl hbl rfl) ?_) bC.nil) (aI.cons ?_ aI.nil))) rfl rfl rfl
     (all_goals exact gR)
   ·rw[dFa e1,if_neg (fun q=>e1 q.1)] at *
    refine aA ?_
    refine DK.nil ⟨by kernel_rfl,?_⟩
    refine aA ?_
    refine Reg.o rfl (iQ rfl rfl hmf) ?_
    refine aA ?_
    refine⟨i+1,⟨by omega,by rw[hsn]; simpa using hol,by rw[hsn,dN]; simp,hat2⟩,by omega,?_⟩
    rw[hsn,fQ,dN]
    refine Sub.to [] [[(0,0)],[(6,0)],[(4,0)]] ?_ (aI.cons (eB (wt5) bC.nil rfl) (aI.cons (eB (acB (wt2 rfl rfl hbl rfl) ?_) bC.nil) (aI.cons ?_ aI.nil))) rfl rfl rfl
    (all_goals exact gR)
 ·obtain rfl:s.length=i:=by omega
  rw[List.take_length]
  generalize lA w lo bm s=out at *
  refine aA ?_
  rcases List.eq_nil_or_concat out with rfl | ⟨o,a,hox⟩
  ·exact qK [[(0,0)]] ⟨rfl,rfl⟩
  ·rw[List.concat_eq_append] at hox
   subst hox
   obtain⟨a1,a2,a3⟩:=a
   have hln:(o++[(a1,a2,a3)]).length=o.length+1:=by simp
   have hal:(acR o).length=o.length:=by simp[acR]
   have hbl:=dB a3
   rw[fQ,dN,show acR (o++[(a1,a2,a3)])=acR o++[[iv a1,iv a2,.list 1 (bys a3)]] by simp[acR,acF]]
   refine iH [[(0,0)]] (.inr rfl) rfl ⟨rfl,rfl⟩ ?_ (aI.cons (eB (wt5) bC.nil rfl) aI.nil) rfl rfl rfl
   refine To.tupL (ToL.cons ?_ (ToL.cons (.sc _) ToL.nil))
   refine To.fzT rfl rfl (by simp[hal]) (To.listR (ToR.append (ToR.pure (prs _)) (ToR.cons (ToL.cons (.sc _) (ToL.cons (.sc _) (ToL.cons ?_ ToL.nil))) ToR.nil)))
   exact wt2 rfl rfl hbl rfl
end Go.Proofs.YtgdocflpobncmaaGreat
