import Derived.Test.YtgdocflpobncmaaGreatGAvSi
import Derived.Test.YtgdocflpobncmaaGreatGAvG
import Derived.Test.YtgdocflpobncmaaGreatGFtB7
set_option maxHeartbeats 4000000
namespace Go.Proofs
open Go.Shelf
def Tryz.laysSort_ren:Go.Shelf.Ren:=⟨fun | 189=>96 | 125=>143 | 257=>142 | 128=>175 | 129=>176 | 294=>166 | 295=>167 | 296=>168 | 297=>169 | 298=>170 | 299=>171 | 216=>172 | 300=>173 | 301=>174 | 328=>196 | 329=>197 | 330=>198 | 331=>199 | 332=>200 | 215=>201 | 343=>211 | n=>n,fun | 28=>22 | 3=>3 | 46=>193 | 0=>0 | 51=>273 | 53=>84 | 4=>4 | 183=>267 | 182=>266 | 131=>250 | 5=>5 | 9=>9 | 218=>286 | 222=>290 | 228=>295 | 229=>169 | n=>n,fun | n=>n⟩
theorem Tryz.laysSort:Go.Proofs.Lays.n189 Tryz.prog Tryz.laysSort_ren:={
 mixed:=by kernel_rfl
 f125:=Tryz.func143.trans (congrArg some (by kernel_rfl))
 f128:=Tryz.func175.trans (congrArg some (by kernel_rfl))
 f129:=Tryz.func176.trans (congrArg some (by kernel_rfl))
 f189:=Tryz.func96.trans (congrArg some (by kernel_rfl))
 f215:=Tryz.func201.trans (congrArg some (by kernel_rfl))
 f216:=Tryz.func172.trans (congrArg some (by kernel_rfl))
 f257:=Tryz.func142.trans (congrArg some (by kernel_rfl))
 f294:=Tryz.func166.trans (congrArg some (by kernel_rfl))
 f295:=Tryz.func167.trans (congrArg some (by kernel_rfl))
 f296:=Tryz.func168.trans (congrArg some (by kernel_rfl))
 f297:=Tryz.func169.trans (congrArg some (by kernel_rfl))
 f298:=Tryz.func170.trans (congrArg some (by kernel_rfl))
 f299:=Tryz.func171.trans (congrArg some (by kernel_rfl))
 f300:=Tryz.func173.trans (congrArg some (by kernel_rfl))
 f301:=Tryz.func174.trans (congrArg some (by kernel_rfl))
 f328:=Tryz.func196.trans (congrArg some (by kernel_rfl))
 f329:=Tryz.func197.trans (congrArg some (by kernel_rfl))
 f330:=Tryz.func198.trans (congrArg some (by kernel_rfl))
 f331:=Tryz.func199.trans (congrArg some (by kernel_rfl))
 f332:=Tryz.func200.trans (congrArg some (by kernel_rfl))
 f343:=Tryz.func211.trans (congrArg some (by kernel_rfl))
 t0:=Tryz.underlying0
 a0:=Tryz.isAgg0
 z0:=Tryz.sizeOf0
 v0:=Tryz.zeroValue0
 t3:=Tryz.underlying3
 a3:=Tryz.isAgg3
 z3:=Tryz.sizeOf3
 v3:=Tryz.zeroValue3
 t4:=Tryz.underlying4
 a4:=Tryz.isAgg4
 z4:=Tryz.sizeOf4
 v4:=Tryz.zeroValue4
 t5:=Tryz.underlying5
 a5:=Tryz.isAgg5
 z5:=Tryz.sizeOf5
 v5:=Tryz.zeroValue5
 t9:=Tryz.underlying9
 a9:=Tryz.isAgg9
 z9:=Tryz.sizeOf9
 v9:=Tryz.zeroValue9
 t28:=Tryz.underlying22
 a28:=Tryz.isAgg22
 z28:=Tryz.sizeOf22
 v28:=Tryz.zeroValue22
 t46:=Tryz.underlying193
 a46:=Tryz.isAgg193
 z46:=Tryz.sizeOf193
 v46:=Tryz.zeroValue193
 t51:=Tryz.underlying273
 a51:=Tryz.isAgg273
 z51:=Tryz.sizeOf273
 v51:=Tryz.zeroValue273
 t53:=Tryz.underlying84
 a53:=Tryz.isAgg84
 z53:=Tryz.sizeOf84
 v53:=Tryz.zeroValue84
 t131:=Tryz.underlying250
 a131:=Tryz.isAgg250
 z131:=Tryz.sizeOf250
 v131:=Tryz.zeroValue250
 t182:=Tryz.underlying266
 a182:=Tryz.isAgg266
 z182:=Tryz.sizeOf266
 v182:=Tryz.zeroValue266
 t183:=Tryz.underlying267
 a183:=Tryz.isAgg267
 z183:=Tryz.sizeOf267
 v183:=Tryz.zeroValue267
 t218:=Tryz.underlying286
 a218:=Tryz.isAgg286
 z218:=Tryz.sizeOf286
 v218:=Tryz.zeroValue286
 t222:=Tryz.underlying290
 a222:=Tryz.isAgg290
 z222:=Tryz.sizeOf290
 v222:=Tryz.zeroValue290
 t228:=Tryz.underlying295
 a228:=Tryz.isAgg295
 z228:=Tryz.sizeOf295
 v228:=Tryz.zeroValue295
 t229:=Tryz.underlying169
 a229:=Tryz.isAgg169
 z229:=Tryz.sizeOf169
 v229:=Tryz.zeroValue169 }
end Go.Proofs
namespace Go.Proofs.YtgdocflpobncmaaGreat
open Go.Av Go.Proofs
set_option maxRecDepth 20000
def QI (l:List Int):List Int:=l.mergeSort fun x y=>decide (x≤y)
theorem HY (l:List Int) (hl:l.length < 4611686018427387904):aE Tryz.prog 96 [.hsl 0 0 0 l.length] [[.cells 1 (inR l)]] fun res H'=>res=.tup []∧H'=[[.cells 1 (inR (QI l))]]:=
 aE.sortInts Tryz.laysSort ⟨_,Tryz.func96,by kernel_rfl,rfl⟩ l hl
end Go.Proofs.YtgdocflpobncmaaGreat
namespace Go.Proofs.YtgdocflpobncmaaGreat
open Go.Av Go.Proofs
set_option maxRecDepth 20000
def nxR (l:List Nat):List (List AV):=l.map fun x:Nat=>[iv (x:Int)]
theorem yD (l:List Nat):nxR l=inR (l.map fun x:Nat=>(x:Int)):=by simp[nxR,inR]
theorem xI (l:List Nat):(nxR l).length=l.length:=by simp[nxR]
theorem w5 (l:List Nat) (k:Nat) (h:k < l.length):cW (nxR l) (k:Int)=some [iv l[k]]:=eJ (fun n:Nat=>[iv n]) l k h
instance (l:List Nat):PRs (nxR l):=by unfold nxR; infer_instance
def dK:List (Nat×Nat)→Nat→Option Nat
 | [],_=>none
 | (y,c)::r,x=>if x=y then some c else dK r x
def d8:List (Nat×Nat)→Nat→Nat→List (Nat×Nat)
 | [],x,b=>[(x,b)]
 | (y,c)::r,x,b=>if x=y then(y,b)::r else(y,c)::d8 r x b
def bmE (bm:List (Nat×Nat)):List (Value×AV):=bm.map fun y=>(.int .i64 (y.1:Nat),uv y.2)
theorem tC (x:Nat):∀ bm,dM .i64 (x:Int) (bmE bm)=some ((dK bm x).map uv)
 | []=>rfl
 | (y,c)::bm=>by
  show(match decide (IntKind.i64=IntKind.i64) with
   | true=>match decide ((x:Int)=(y:Int)) with
    | true=>some (some (uv c))
    | false=>dM .i64 (x:Int) (bmE bm)
   | false=>none)=_
  rw[dTr (rfl:IntKind.i64=IntKind.i64)]
  by_cases h:x=y
  ·subst h
   rw[dTr rfl];simp[dK]
  ·rw[dFa (by omega)]
   show dM .i64 (x:Int) (bmE bm)=_;rw[tC x bm];simp[dK,h]
theorem BZ (x b:Nat):∀ bm,dK bm x=none→d8 bm x b=bm++[(x,b)]
 | [],_=>rfl
 | (y,c)::bm,h=>by
  unfold dK at h;unfold d8
  by_cases e:x=y
  ·rw[if_pos e] at h; cases h
  ·rw[if_neg e] at h
   rw[if_neg e,BZ x b bm h];rfl
theorem CB (x b:Nat):∀ bm c,dK bm x=some c→rL x (uv b) (bmE bm)=bmE (d8 bm x b)∧(d8 bm x b).map (·.1)=bm.map (·.1)
 | [],_,h=>by cases h
 | (y,c)::bm,c',h=>by
  unfold dK at h;unfold d8
  have e0:rL x (uv b) (bmE ((y,c)::bm))=match decide ((x:Int)=(y:Int)) with
   | true=>(Value.int .i64 (y:Int),uv b)::bmE bm
   | false=>(Value.int .i64 (y:Int),uv c)::rL x (uv b) (bmE bm):=rfl
  rw[e0]
  by_cases e:x=y
  ·subst e
   rw[if_pos rfl,dTr rfl];exact⟨rfl,rfl⟩
  ·rw[if_neg e] at h
   obtain⟨h1,h2⟩:=CB x b bm c' h;rw[if_neg e,dFa (by omega)];refine⟨?_,?_⟩
   ·show _::rL _ _ _=_
    rw[h1];rfl
   ·show y::List.map (·.1) (d8 bm x b)=_
    rw[h2];rfl
theorem pX (x b:Nat):∀ bm y,dK (d8 bm x b) y=if y=x then some b else dK bm y
 | [],y=>by simp[d8,dK]
 | (z,c)::bm,y=>by
  unfold d8
  by_cases e:x=z
  ·subst e
   rw[if_pos rfl];unfold dK
   by_cases h:y=x<;>simp[h]
  ·rw[if_neg e]
   unfold dK;rw[pX x b bm y]
   by_cases h:y=z
   ·subst h
    simp[Ne.symm e]
   ·simp[h]
theorem iD (x:Nat):∀ bm,dK bm x≠none↔x∈bm.map (·.1)
 | []=>by simp[dK]
 | (y,c)::bm=>by
  unfold dK
  by_cases e:x=y
  ·simp[e]
  ·rw[if_neg e,iD x bm]
   simp[e]
def eN (bm l:List (Nat×Nat)):List (Nat×Nat):=l.foldl (fun bm y=>d8 bm y.1 y.2) bm
theorem CK (bm l:List (Nat×Nat)) (y:Nat×Nat):eN bm (l++[y])=d8 (eN bm l) y.1 y.2:=by simp[eN]
theorem vS (x b:Nat):∀ bm,(d8 bm x b).length≤bm.length+1
 | []=>by simp[d8]
 | (y,c)::bm=>by
  unfold d8;split
  ·simp
  ·have:=vS x b bm
   simp only[List.length_cons];omega
theorem mC:∀(l bm:List (Nat×Nat)),(eN bm l).length≤bm.length+l.length
 | [],bm=>Nat.le_refl _
 | y::l,bm=>by
  have h1:=mC l (d8 bm y.1 y.2);have h2:=vS y.1 y.2 bm;show(eN (d8 bm y.1 y.2) l).length≤_;simp only[List.length_cons];omega
def iZ (ps ds:List (List Nat)) (i:Nat):List (Nat×Nat):=(List.range i).flatMap fun j=>(ps.getD j []).zip (ds.getD j [])
theorem oU (ps ds:List (List Nat)) (i:Nat):iZ ps ds (i+1)=iZ ps ds i++(ps.getD i []).zip (ds.getD i []):=by
 unfold iZ;rw[List.range_succ,List.flatMap_append];simp
theorem FB (bm l m:List (Nat×Nat)):eN bm (l++m)=eN (eN bm l) m:=by simp[eN]
abbrev Ac:=Nat×Nat×List Nat
def acF (a:Ac):List AV:=[iv a.1,iv a.2.1,.list 1 (bys a.2.2)]
def acR (l:List Ac):List (List AV):=l.map acF
def i8 (w lo:Nat) (bm:List (Nat×Nat)) (out:List Ac) (x:Nat):List Ac:=
 match out.getLast? with
 | some a=>if a.1=(x - lo) / w∧a.2.1+a.2.2.length=x then out.dropLast++[(a.1,a.2.1,a.2.2++[(dK bm x).getD 0])] else out++[((x - lo) / w,x,[(dK bm x).getD 0])]
 | none=>[((x - lo) / w,x,[(dK bm x).getD 0])]
def yS (out:List Ac):List (List AV):=
 match out.getLast? with
 | some a=>acR out.dropLast++[[iv a.1,iv a.2.1,.hsl 1 0 0 a.2.2.length]]
 | none=>[]
def v7 (out:List Ac):List Nat:=
 match out.getLast? with
 | some a=>a.2.2
 | none=>[]
theorem gG (o:List Ac) (a:Ac):yS (o++[a])=acR o++[[iv a.1,iv a.2.1,.hsl 1 0 0 a.2.2.length]]:=by simp[yS]
theorem eE (o:List Ac) (a:Ac):v7 (o++[a])=a.2.2:=by simp[v7]
theorem FR (out:List Ac):(yS out).length=out.length:=by
 rcases List.eq_nil_or_concat out with rfl | ⟨o,a,rfl⟩
 ·rfl
 ·rw[List.concat_eq_append,gG]
  simp[acR]
def hY (w lo:Nat) (bm:List (Nat×Nat)) (xs:List Nat):List Ac:=xs.foldl (i8 w lo bm) []
theorem sI (w lo:Nat) (bm:List (Nat×Nat)) (xs:List Nat) (x:Nat):hY w lo bm (xs++[x])=i8 w lo bm (hY w lo bm xs) x:=by simp[hY]
def acX (out:List Ac):List Nat:=out.flatMap fun a=>(List.range a.2.2.length).map fun j=>a.2.1+j
theorem LF (w lo:Nat) (bm:List (Nat×Nat)) (out:List Ac) (x:Nat):acX (i8 w lo bm out x)=acX out++[x]:=by
 rcases List.eq_nil_or_concat out with rfl | ⟨o,a,rfl⟩
 ·simp[i8,acX]
 ·rw[List.concat_eq_append]
  unfold i8;simp only[List.getLast?_concat,List.dropLast_concat];split
  ·rename_i h
   unfold acX;simp only[List.flatMap_append,List.flatMap_cons,List.flatMap_nil,List.append_nil,lAp,List.length_cons,List.length_nil,Nat.zero_add,List.range_succ,List.map_append,List.map_cons,List.map_nil,List.append_assoc];rw[h.2]
  ·unfold acX
   simp
theorem zU (w lo:Nat) (bm:List (Nat×Nat)):∀(xs:List Nat) (out:List Ac),acX (xs.foldl (i8 w lo bm) out)=acX out++xs
 | [],out=>by simp
 | x::xs,out=>by
  show acX (xs.foldl (i8 w lo bm) (i8 w lo bm out x))=_;rw[zU w lo bm xs,LF,List.append_assoc];rfl
theorem MX (w lo:Nat) (bm:List (Nat×Nat)) (xs:List Nat):acX (hY w lo bm xs)=xs:=by
 unfold hY;rw[zU];rfl
theorem sL {s:Sn} (h:rN s.pl s.ext=true) (hl:0 < s.pl.length) (k:Nat):∀ d,eP s k < eP s (k+1+d)
 | 0=>tA h hl k
 | d+1=>Int.lt_trans (sL h hl k d) (tA h hl (k+1+d))
theorem G0 {s:Sn} (h:rN s.pl s.ext=true) (hl:0 < s.pl.length) (ha:0≤s.at') (k:Nat):0≤eP s k:=by
 have h0:0≤eP s 0:=by
  unfold eP;have h1:=(rR h hl).1;unfold j7 at h1;rw[if_pos rfl] at h1;rw[Nat.zero_div,Nat.zero_mod];show 0≤s.at'+(0:Int) * s.ext+_;rw[Int.zero_mul];omega
 cases k with
 | zero=>exact h0
 | succ k=>
  have:=sL h hl 0 k;rw[show 0+1+k=k+1 by omega] at this;omega
theorem L4 {s:Sn} (h:rN s.pl s.ext=true) (hl:0 < s.pl.length) (O n:Nat):(gQ s O n).Pairwise (· < ·):=by
 unfold gQ;rw[List.pairwise_map]
 refine List.pairwise_lt_range.imp fun {a b} hab=>?_
 have:=sL h hl (O * s.elem.toNat+a) (b - a - 1)
 rwa[show O * s.elem.toNat+a+1+(b - a - 1)=O * s.elem.toNat+b by omega] at this
def eI (l:List Int):List Nat:=l.map Int.toNat
theorem JL {l:List Int} (h:∀ x∈l,0≤x):(eI l).map (fun x:Nat=>(x:Int))=l:=by
 unfold eI;rw[List.map_map]
 conv=>rhs; rw[← List.map_id l]
 refine List.map_congr_left fun x hx=>?_
 have:=h x hx;show((x.toNat:Nat):Int)=x;omega
theorem nY {r:Rq} (hr:r.ok) (h:(cD r).2=0):(eI (cD r).1).map (fun x:Nat=>(x:Int))=(cD r).1∧(eI (cD r).1).length=r.data.length∧r.data.length≤4096∧(∀ x∈eI (cD r).1,x < 65536)∧(eI (cD r).1).Pairwise (· < ·):=by
 obtain⟨he,ho,hoff,hdl⟩:=hr;have hinv:=@JN r.at' r.e r.o;have hsn:=oB (a:=r.at') he ho;unfold cD Rq.v at h ⊢;generalize dJ r.at' r.e r.o=z at *;obtain⟨er,s⟩:=z;simp only at h hinv hsn ⊢
 by_cases c1:er≠0
 ·rw[if_pos c1] at h; exact absurd h c1
 rw[if_neg c1] at h ⊢;have c1:=dBc c1;have hs:=hsn c1;obtain⟨i1,_⟩:=hinv c1
 by_cases c2:r.off < 0
 ·rw[if_pos c2] at h; cases h
 rw[if_neg c2] at h ⊢
 by_cases c3:r.data.length % s.elem.toNat≠0
 ·rw[if_pos c3] at h; cases h
 rw[if_neg c3] at h ⊢
 by_cases c4:4096 < r.data.length
 ·rw[if_pos c4] at h; cases h
 rw[if_neg c4] at h ⊢
 by_cases c5:(fV s r.off.toNat r.data.length).2=true
 ·rw[if_pos c5] at h ⊢
  unfold fV at c5 ⊢
  by_cases c6:0 < r.data.length∧65536 < r.off.toNat
  ·rw[if_pos c6] at c5; cases c5
  rw[if_neg c6] at c5 ⊢
  by_cases c7:okV (gQ s r.off.toNat r.data.length)=true
  ·rw[if_pos c7]
   show(eI (gQ s r.off.toNat r.data.length)).map _=gQ s r.off.toNat r.data.length∧(eI (gQ s r.off.toNat r.data.length)).length=_∧_∧(∀ x∈eI (gQ s r.off.toNat r.data.length),_)∧(eI (gQ s r.off.toNat r.data.length)).Pairwise _
   have hnn:∀ x∈gQ s r.off.toNat r.data.length,0≤x:=fun x hx=>by
    obtain⟨i,_,rfl⟩:=List.mem_map.1 hx;exact G0 i1 hs.2.2.2.1 hs.1.1 _
   refine⟨JL hnn,by simp[eI,gQ],by omega,fun x hx=>?_,?_⟩
   ·obtain⟨y,hy,rfl⟩:=List.mem_map.1 hx
    have:=yF.1 c7 y hy;have:=hnn y hy;omega
   ·unfold eI
    rw[List.pairwise_map];refine List.Pairwise.imp_of_mem (fun {a b} ha hb hab=>?_) (L4 i1 hs.2.2.2.1 _ _);have:=hnn a ha;have:=hnn b hb;omega
  ·rw[if_neg c7] at c5; cases c5
 ·rw[if_neg c5] at h; cases h
def psN (l:List Rq):List (List Nat):=l.map fun r=>eI (cD r).1
def dsN (l:List Rq):List (List Nat):=l.map (·.data)
theorem w9 {l:List Rq} (h:(lA l).2=0):l.length≤64∧(∀ r∈l,(cD r).2=0)∧(lA l).1=l.map fun r=>(cD r).1:=by
 unfold lA at h ⊢
 by_cases c:64 < l.length
 ·rw[if_pos c] at h; cases h
 rw[if_neg c] at h ⊢
 cases q:l.find? (fun r=>decide ((cD r).2≠0)) with
 | none=>
  refine⟨by omega,fun r hr=>?_,rfl⟩;have:=List.find?_eq_none.1 q r hr
  simpa using this
 | some r=>
  rw[q] at h;have:=List.find?_some q;simp only[decide_eq_true_eq] at this;exact absurd h this
theorem KM {r:Rq} (h:r.ok):∃ c0 c1 c2 c3 c4 c5 c6 c7 c8 c9 c10 c11 c12 c13 c14 c15 c16,rqR r=[c0,c1,c2,c3,c4,c5,c6,c7,c8,c9,c10,c11,c12,c13,c14,c15,c16,iv r.off,.list 1 (bys r.data)]:=by
 obtain⟨a,t1,t2,off,data⟩:=r;obtain⟨he,ho,_,_⟩:=h;obtain⟨_,k1,c1,b1,s1,z1,l1,p1,f1,_,rfl,_⟩:=cK he;obtain⟨_,k2,c2,b2,s2,z2,l2,p2,f2,_,rfl,_⟩:=cK ho;unfold rqR vwR;rw[tyR,tyR];exact⟨_,_,_,_,_,_,_,_,_,_,_,_,_,_,_,_,_,rfl⟩
def bmF (l:List Rq):List (Nat×Nat):=eN [] (iZ (psN l) (dsN l) l.length)
def dL (bm:List (Nat×Nat)):List Nat:=(bm.map (·.1)).mergeSort fun x y=>decide (x≤y)
def yB (bm:List (Nat×Nat)) (N:Nat):List Ac:=hY (((dL bm).getLastD 0 - (dL bm).headD 0+N) / N) ((dL bm).headD 0) bm (dL bm)
def CD (l:List Rq) (parts:Int):List Ac×Int:=
 if (lA l).2≠0 then([],(lA l).2) else if parts < 1∨64 < parts then([],3) else(yB (bmF l) parts.toNat,0)
theorem KT (bm:List (Nat×Nat)):QI ((bm.map (·.1)).map fun x:Nat=>(x:Int))=(dL bm).map fun x:Nat=>(x:Int):=by
 unfold QI dL;rw[List.map_mergeSort (s:=fun x y:Int=>decide (x≤y))];intro a _ b _;simp
instance (l:List Ac):PRs (acR l):=⟨fun r hr c hc=>by
 obtain⟨q,_,rfl⟩:=List.mem_map.1 hr;unfold acF at hc;simp only[List.mem_cons,List.not_mem_nil,or_false] at hc
 rcases hc with rfl | rfl | rfl
 ·exact .sc _
 ·exact .sc _
 ·exact(pv _)⟩
instance (bm:List (Nat×Nat)):PM (bmE bm):=⟨fun x hx=>by
 obtain⟨y,_,rfl⟩:=List.mem_map.1 hx
 exact .sc _⟩
def bmI (l:List Rq) (i j:Nat):List (Nat×Nat):=eN (eN [] (iZ (psN l) (dsN l) i)) ((((psN l).getD i []).zip ((dsN l).getD i [])).take j)
theorem A3 (l:List Rq) (i:Nat):bmI l i 0=eN [] (iZ (psN l) (dsN l) i):=by unfold bmI; rw[List.take_zero]; rfl
theorem HN (l:List Rq) (i n:Nat) (h:(((psN l).getD i []).zip ((dsN l).getD i [])).length≤n):bmI l i n=bmI l (i+1) 0:=by
 rw[A3,oU,FB];unfold bmI;rw[List.take_of_length_le h]
theorem I3 (l:List Rq) (i j:Nat) {x b:Nat} (hx:((psN l).getD i [])[j]?=some x) (hb:((dsN l).getD i [])[j]?=some b):bmI l i (j+1)=d8 (bmI l i j) x b:=by
 unfold bmI
 have:(((psN l).getD i []).zip ((dsN l).getD i []))[j]?=some (x,b):=by
  rw[List.getElem?_zip_eq_some];exact⟨hx,hb⟩
 rw[List.take_add_one,this];exact CK _ _ _
theorem G8 {w lo:Nat} {bm:List (Nat×Nat)} {out:List Ac} {x:Nat} (hx:x < 65536) (h:∀ a∈out,a.2.1 < 65536):∀ a∈i8 w lo bm out x,a.2.1 < 65536:=by
 rcases List.eq_nil_or_concat out with rfl | ⟨o,a,rfl⟩
 ·intro a ha
  rw[List.mem_singleton.1 ha];exact hx
 ·rw[List.concat_eq_append] at h ⊢
  unfold i8;simp only[List.getLast?_concat,List.dropLast_concat];split
  ·intro b hb
   rcases List.mem_append.1 hb with hb | hb
   ·exact h b (by simp[hb])
   ·rw[List.mem_singleton.1 hb]
    exact h a (by simp)
  ·intro b hb
   rcases List.mem_append.1 hb with hb | hb
   ·exact h b hb
   ·rw[List.mem_singleton.1 hb]
    exact hx
theorem acB {T:AV→AV→Prop} {ρ:Nat→Nat→Option (Nat×Nat)} {o:List Ac} {a1 a2:Nat} {a3:List Nat} {l:AV} {r r':List AV} (h1:To T ρ l (.list 1 (bys a3))) (h2:ToL T ρ r r'):ToB T ρ (.cells 3 (acR o++[[iv a1,iv a2,l]]++[r])) (.cells 3 (acR (o++[(a1,a2,a3)])++[r'])):=by
 rw[show acR (o++[(a1,a2,a3)])=acR o++[[iv a1,iv a2,.list 1 (bys a3)]] by simp[acR,acF]];exact ToB.rowsR (ToR.append (ToR.append (ToR.pure (prs _)) (ToR.cons (ToL.cons (.sc _) (ToL.cons (.sc _) (ToL.cons h1 ToL.nil))) ToR.nil)) (ToR.cons h2 ToR.nil))
theorem acS {T:AV→AV→Prop} {ρ:Nat→Nat→Option (Nat×Nat)} {o:List Ac} {n:Nat} {q r r':List AV} (hn:n=(acR o).length) (h:ToL T ρ r r'):ToB T ρ (.cells 3 ((acR o++[q]).set n r)) (.cells 3 (acR o++[r'])):=by
 subst hn;rw[show(acR o++[q]).set (acR o).length r=acR o++[r] by simp];exact wt9 rfl h
theorem rT (bm:List (Nat×Nat)):∀(i j:Nat) (hi:i < (dL bm).length) (hj:j < (dL bm).length),i≤j→(dL bm)[i]≤(dL bm)[j]:=fun i j hi hj h=>by
 have h1:(dL bm).Pairwise fun a b=>decide (a≤b)=true:=List.pairwise_mergeSort (fun a b c h1 h2=>by simp at h1 h2 ⊢; omega) (fun a b=>by simp; omega) _
 rcases Nat.lt_or_ge i j with q | q
 ·simpa using List.pairwise_iff_getElem.1 h1 i j hi hj q
 ·obtain rfl:i=j:=by omega
  exact Nat.le_refl _
def F0 (bm:List (Nat×Nat)):Heap:=[[.cells 1 (nxR (bm.map (·.1)))],[.map (bmE bm)]]
theorem HL {N:Nat} (h1:1≤N) (h2:N≤64) (bm:List (Nat×Nat)) (hn:bm.length≤300000) (hb:∀ x∈bm.map (·.1),x < 65536) (hne:bm≠[]):
  AWP Tryz.prog F32.n 0 (i6 [1,1,1,1,1,1,1] F32.code) (aG F32.res (.tup [.list 3 (acR (yB bm N)),iv 0])) [(1,iv N),(8,.tmap (bmE bm)),(9,.hsl 0 0 0 bm.length)] [[.cells 1 (nxR (bm.map (·.1)))]]:=by
 show AWP _ _ _ (.seq _ _) _ _ _;have hs:=HY ((bm.map (·.1)).map fun x:Nat=>(x:Int)) (by simp; omega);rw[← yD,KT,← yD] at hs;simp only[List.length_map] at hs
 have hsl:(dL bm).length=bm.length:=by unfold dL; rw[List.length_mergeSort,List.length_map]
 have hsb:∀ x∈dL bm,x < 65536∧dK bm x≠none:=fun x hx=>by
  unfold dL at hx;rw[List.mem_mergeSort] at hx;exact⟨hb x hx,(iD x bm).2 hx⟩
 refine AWP.seq ?_;refine AWP.region ?_;refine Reg.o rfl rfl ?_;refine Reg.c (nZl _) rfl (hs.mono ?_);rintro res H' ⟨rfl,rfl⟩;unfold yB;have hasc:=rT bm;generalize dL bm=s at *;have hsl2:=xI s;refine Reg.nil ?_;refine AWP.sub (fr':=[(1,iv N),(8,.tmap (bmE bm)),(9,.list 1 (nxR s))]) (H':=[]) ?_ ?_
 ·rw[← hsl]
  exact Sub.w [] []
 have hs0:0 < s.length:=by
  rw[hsl];exact List.length_pos_iff.2 hne
 have r0:=w5 s 0 hs0;have r1:=w5 s (s.length - 1) (by omega);have hlo:=(hsb s[0] (gMe _)).1;have hhi:=(hsb s[s.length - 1] (gMe _)).1;rw[show s.headD 0=s[0] by cases s with | nil=>exact absurd hs0 (Nat.lt_irrefl 0) | cons=>rfl,show s.getLastD 0=s[s.length - 1] by rw[List.getLastD_eq_getLast?,List.getLast?_eq_getElem?,gEg (by omega)]; rfl];have hlh:=hasc 0 (s.length - 1) hs0 (by omega) (nZl _)
 have hlx:=fun i hi=>hasc 0 i hs0 hi (nZl _)
 have hxh:=fun i hi=>hasc i (s.length - 1) hi (by omega) (by omega)
 generalize s[0]=lo at *;generalize s[s.length - 1]=hi at *;rw[← hsl2] at r1;refine aA ?_
 obtain⟨w,hw⟩:∃ w,w=(hi - lo+N) / N:=⟨_,rfl⟩
 rw[← hw]
 have hw1:w≠0:=by
  have:=Nat.div_le_div_right (c:=N) (show N≤hi - lo+N by omega);rw[Nat.div_self (by omega)] at this;omega
 rw[hsl2];refine AWP.loop (fun i:Nat=>[(8,.tmap (bmE bm)),(16,iv lo),(17,iv w),(18,.hsl 0 0 0 (hY w lo bm (s.take i)).length),(98,.list 1 (nxR s)),(99,iv s.length),(100,iv i)]) (fun i=>[[.cells 3 (yS (hY w lo bm (s.take i)))],[.cells 1 (bys (v7 (hY w lo bm (s.take i))))]]) (fun i=>i≤s.length∧(hY w lo bm (s.take i)).length≤i∧(v7 (hY w lo bm (s.take i))).length≤i∧∀ a∈hY w lo bm (s.take i),a.2.1 < 65536) (fun i=>s.length - i) 0 ⟨nZl _,Nat.le_refl _,Nat.le_refl _,fun a ha=>by cases ha⟩ ?_ ?_
 ·show Sub _ _ _ _ [(8,.tmap (bmE bm)),(16,iv lo),(17,iv w),(18,.hsl 0 0 0 0),(98,.list 1 (nxR s)),(99,iv s.length),(100,iv 0)] [[.cells 3 []],[.cells 1 []]]
  exact Sub.wl [3,1] [[(0,0)],[(1,0)]]
 rintro i ⟨hi9,hol,hdl,hat⟩;refine aA ?_;refine AWP.condN (i < s.length) rfl rfl (fun h=>?_) (fun h=>?_)
 ·have hr:=w5 s i h
  have hx:=hsb s[i] (gMe _);have hxl:=hlx i h;have hxu:=hxh i h;have hsn:=sI w lo bm (s.take i) s[i];rw[show s.take i++[s[i]]=s.take (i+1) by rw[List.take_add_one,gEg h]; rfl] at hsn;generalize s[i]=x at *;generalize hY w lo bm (s.take i)=out at *;have hat2:=G8 (w:=w) (lo:=lo) (bm:=bm) hx.1 hat;rw[← hsn] at hat2;obtain⟨b,hb⟩:=Option.ne_none_iff_exists'.1 hx.2;have hmf:=tC x bm;rw[hb] at hmf;replace hmf:dM .i64 (x:Int) (bmE bm)=some (some (uv b)):=hmf;unfold i8 at hsn;rw[hb] at hsn;have hrl:=FR out
  obtain⟨pp,hpp⟩:∃ pp,pp=(x - lo) / w:=⟨_,rfl⟩
  rw[← hpp] at hsn
  rcases List.eq_nil_or_concat out with rfl | ⟨o,a,hox⟩
  ·refine aA ?_
   rw[← hpp];refine aA ?_;refine DK.nil ⟨by kernel_rfl,?_⟩;refine aA ?_;refine Reg.o rfl (jI rfl rfl hmf) ?_;refine aA ?_;replace hsn:hY w lo bm (s.take (i+1))=[(pp,x,[b])]:=hsn;refine⟨i+1,⟨by omega,by rw[hsn]; simp,by rw[hsn]; simp[v7],hat2⟩,by omega,?_⟩;rw[hsn,show yS [(pp,x,[b])]=[[iv pp,iv x,.hsl 1 0 0 1]] from rfl,show bys (v7 [(pp,x,[b])])=[[uv b]] from rfl];exact Sub.wl [] [[(5,0)],[(3,0)]]
  ·rw[List.concat_eq_append] at hox
   subst hox;obtain⟨a1,a2,a3⟩:=a
   have hln:(o++[(a1,a2,a3)]).length=o.length+1:=by simp
   have hal:(acR o).length=o.length:=by simp[acR]
   have hr2:cW (acR o++[[iv a1,iv a2,.hsl 1 0 0 a3.length]]) ((o.length:Nat):Int)=some [iv a1,iv a2,.hsl 1 0 0 a3.length]:=by
    rw[pW,← hal,List.getElem?_concat_length]
   rw[hln] at hrl ⊢;rw[gG] at hrl ⊢;rw[eE] at hdl ⊢;have ha2:a2 < 65536:=hat (a1,a2,a3) (by simp);replace hdl:a3.length≤i:=hdl;have hbl:=dZ a3;simp only[List.getLast?_concat,List.dropLast_concat] at hsn
   replace hsn:hY w lo bm (s.take (i+1))=if a1=pp∧a2+a3.length=x then o++[(a1,a2,a3++[b])] else o++[(a1,a2,a3)]++[(pp,x,[b])]:=hsn
   show AWP _ _ _ _ _ _ [[.cells 3 (acR o++[[iv a1,iv a2,.hsl 1 0 0 a3.length]])],[.cells 1 (bys a3)]];refine aA ?_;rw[← hpp]
   by_cases e1:a1=pp
   ·rw[dTr e1]
    refine aA ?_;refine DK.nil ⟨by kernel_rfl,?_⟩;refine aA ?_;refine AWP.condN (a2+a3.length=x) rfl rfl (fun e2=>?_) (fun e2=>?_)
    ·rw[if_pos ⟨e1,e2⟩] at hsn
     refine aA ?_;refine DK.o rfl (jI rfl rfl hmf) ?_;refine aA ?_;refine DK.nil ⟨by kernel_rfl,?_⟩;refine aA ?_;refine⟨i+1,⟨by omega,by rw[hsn]; simp only[lAp,List.length_cons,List.length_nil] at hol ⊢; omega,by rw[hsn,eE]; simp only[lAp,List.length_cons,List.length_nil]; omega,hat2⟩,by omega,?_⟩;rw[hsn,gG,eE]
     have hbs:bys a3++[[uv b]]=bys (a3++[b]):=by simp[bys]
     refine Sub.to [] [[(0,0)],[(3,11)]] ?_ (aI.cons (fN (acS (n:=o.length+1 - 1) ?hn ?_) bK.nil rfl) (aI.cons ?_ aI.nil)) rfl rfl rfl
     case hn=>omega
     (all_goals exact g8)
    ·rw[if_neg (fun q=>e2 q.2)] at hsn
     refine aA ?_;refine Reg.o rfl (jI rfl rfl hmf) ?_;refine aA ?_;refine⟨i+1,⟨by omega,by rw[hsn]; simpa using hol,by rw[hsn,eE]; simp,hat2⟩,by omega,?_⟩;rw[hsn,gG,eE];refine Sub.to [] [[(5,0)],[(3,0)]] ?_ (aI.cons (fN (acB (wt2 rfl rfl hbl rfl) ?_) bK.nil) (aI.cons ?_ aI.nil)) rfl rfl rfl
     (all_goals exact g8)
   ·rw[dFa e1,if_neg (fun q=>e1 q.1)] at *
    refine aA ?_;refine DK.nil ⟨by kernel_rfl,?_⟩;refine aA ?_;refine Reg.o rfl (jI rfl rfl hmf) ?_;refine aA ?_;refine⟨i+1,⟨by omega,by rw[hsn]; simpa using hol,by rw[hsn,eE]; simp,hat2⟩,by omega,?_⟩;rw[hsn,gG,eE];refine Sub.to [] [[(5,0)],[(3,0)]] ?_ (aI.cons (fN (acB (wt2 rfl rfl hbl rfl) ?_) bK.nil) (aI.cons ?_ aI.nil)) rfl rfl rfl
    (all_goals exact g8)
 ·obtain rfl:s.length=i:=by omega
  rw[List.take_length];generalize hY w lo bm s=out at *;refine aA ?_
  rcases List.eq_nil_or_concat out with rfl | ⟨o,a,hox⟩
  ·exact aG.w
  ·rw[List.concat_eq_append] at hox
   subst hox;obtain⟨a1,a2,a3⟩:=a
   have hln:(o++[(a1,a2,a3)]).length=o.length+1:=by simp
   have hal:(acR o).length=o.length:=by simp[acR]
   have hbl:=dZ a3;rw[gG,eE,show acR (o++[(a1,a2,a3)])=acR o++[[iv a1,iv a2,.list 1 (bys a3)]] by simp[acR,acF]];refine aG.mk (.inr rfl) rfl rfl ?_;refine To.tupL (ToL.cons ?_ (ToL.cons (.sc _) ToL.nil));refine To.fzT rfl rfl (by simp[hal]) (To.listR (ToR.append (ToR.pure (prs _)) (ToR.cons (ToL.cons (.sc _) (ToL.cons (.sc _) (ToL.cons ?_ ToL.nil))) ToR.nil)));exact wt2 rfl rfl hbl rfl
theorem CE (x b y:Nat) (bm:List (Nat×Nat)):y∈(d8 bm x b).map (·.1)↔y=x∨y∈bm.map (·.1):=by
 rw[← iD,← iD,pX]
 by_cases h:y=x
 ·simp[h]
 ·simp[h]
theorem m6 (y:Nat):∀(l bm:List (Nat×Nat)),y∈(eN bm l).map (·.1)↔y∈bm.map (·.1)∨y∈l.map (·.1)
 | [],bm=>by simp[eN]
 | z::l,bm=>by
  show y∈(eN (d8 bm z.1 z.2) l).map (·.1)↔_;rw[m6 y l,CE,List.map_cons,List.mem_cons];constructor
  ·rintro((h | h) | h)<;>simp[h]
  ·rintro(h | h | h)<;>simp[h]
def plN (qs:List (List Nat)):List (List AV):=qs.map fun q=>[.list 1 (nxR q)]
theorem MH (l:List (List Nat)):(plN l).length=l.length:=by simp[plN]
theorem P1 (l:List (List Nat)) (k:Nat) (h:k < l.length):cW (plN l) (k:Int)=some [.list 1 (nxR l[k])]:=eJ (fun p:List Nat=>[.list 1 (nxR p)]) l k h
instance (l:List (List Nat)):PRs (plN l):=by unfold plN; infer_instance
theorem NK {l:List Rq} (hl:∀ r∈l,r.ok) (h:(lA l).2=0):plR (lA l).1=plN (psN l):=by
 obtain⟨_,h2,h3⟩:=w9 h;rw[h3];unfold plR plN psN;rw[List.map_map,List.map_map]
 refine List.map_congr_left fun r hr=>?_
 show[AV.list 1 (inR (cD r).1)]=[AV.list 1 (nxR (eI (cD r).1))];rw[yD,(nY (hl r hr) (h2 r hr)).1]
structure xT (l:List Rq):Prop where
 le:l.length≤64
 len:∀ i (h:i < l.length),((psN l).getD i []).length=l[i].data.length∧l[i].data.length≤4096
 ds:∀ i (h:i < l.length),(dsN l).getD i []=l[i].data
 bd:∀ i,∀ x∈(psN l).getD i [],x < 65536
 asc:∀ i,((psN l).getD i []).Pairwise (· < ·)
theorem DL {l:List Rq} (hl:∀ r∈l,r.ok) (h:(lA l).2=0):xT l:=by
 obtain⟨h1,h2,_⟩:=w9 h
 have hg:∀ i (h:i < l.length),(psN l).getD i []=eI (cD l[i]).1:=fun i h=>by simp[psN,h]
 have ho:∀ i,¬ i < l.length→(psN l).getD i []=[]:=fun i h=>by simp[psN,h]
 have hk:=fun i (h:i < l.length)=>nY (hl l[i] (gMe _)) (h2 l[i] (gMe _))
 refine⟨h1,fun i h=>?_,fun i h=>by simp[dsN,h],fun i=>?_,fun i=>?_⟩
 ·rw[hg i h]
  exact⟨(hk i h).2.1,(hk i h).2.2.1⟩
 ·by_cases h:i < l.length
  ·rw[hg i h]
   exact(hk i h).2.2.2.1
  ·rw[ho i h]
   intro x hx
   cases hx
 ·by_cases h:i < l.length
  ·rw[hg i h]
   exact(hk i h).2.2.2.2
  ·rw[ho i h]
   exact .nil
theorem uF {l:List Rq} (g:xT l):∀ i,i≤l.length→(iZ (psN l) (dsN l) i).length≤i * 4096∧∀ y∈iZ (psN l) (dsN l) i,y.1 < 65536
 | 0,_=>⟨Nat.le_refl _,fun y hy=>by cases hy⟩
 | i+1,h=>by
  obtain⟨h1,h2⟩:=uF g i (by omega);rw[oU];obtain⟨h3,h4⟩:=g.len i h;refine⟨?_,fun y hy=>?_⟩
  ·rw[lAp,List.length_zip]
   omega
  ·rcases List.mem_append.1 hy with hy | hy
   ·exact h2 y hy
   ·exact g.bd i _ (List.of_mem_zip hy).1
theorem NC {l:List Rq} (g:xT l) {i j:Nat} (hi:i < l.length):(bmI l i j).length≤270000:=by
 unfold bmI;have h1:=mC ((((psN l).getD i []).zip ((dsN l).getD i [])).take j) (eN [] (iZ (psN l) (dsN l) i));have h2:=mC (iZ (psN l) (dsN l) i) [];have h3:=(uF g i (by omega)).1;have h4:=g.len i hi
 have h5:((((psN l).getD i []).zip ((dsN l).getD i [])).take j).length≤4096:=by
  rw[List.length_take,List.length_zip];omega
 have:=g.le;simp only[List.length_nil] at h2;omega
theorem KK {l:List Rq} (g:xT l):(bmF l).length≤300000∧∀ x∈(bmF l).map (·.1),x < 65536:=by
 obtain⟨h1,h2⟩:=uF g l.length (Nat.le_refl _);have h3:=mC (iZ (psN l) (dsN l) l.length) [];have:=g.le;unfold bmF;simp only[List.length_nil] at h3;refine⟨by omega,fun x hx=>?_⟩;rw[m6] at hx
 rcases hx with hx | hx
 ·cases hx
 ·obtain⟨y,hy,rfl⟩:=List.mem_map.1 hx
  exact h2 y hy
theorem KC (N:Nat):yB [] N=[]:=by unfold yB dL; simp[hY]
theorem PW {l:List Rq} {parts:Int} (hl:∀ r∈l,r.ok) (hn:l.length < 140737488355328):aC Tryz.prog 32 [.list 19 (rqs l),iv parts] (.tup [.list 3 (acR (CD l parts).1),iv (CD l parts).2]):=by
 refine aC.mkI cF32 (nlB rfl) ?_;have ha:=O9 hl hn;unfold CD;have hgood:=DL hl;have hpl:=NK hl;generalize lA l=z at *;obtain⟨pz,er⟩:=z;simp only at ha hgood hpl ⊢;refine aA ?_;refine AWP.condN (er≠0) rfl (fX _) (fun h0=>?_) (fun h0=>?_)
 ·rw[if_pos h0,show acR (([],er):List Ac×Int).1=[] from rfl]
  refine aA ?_;exact aG.w
 rw[if_neg h0];obtain rfl:er=0:=dBc h0;have g:=hgood rfl;rw[hpl rfl] at ha ⊢;refine aA ?_
 by_cases c1:parts < 1
 ·rw[dTr c1,if_pos (.inl c1),show acR (([],3):List Ac×Int).1=[] from rfl]
  refine aA ?_;exact aG.w
 rw[dFa c1];refine aA ?_;refine AWP.condN (64 < parts) rfl rfl (fun c2=>?_) (fun c2=>?_)
 ·rw[if_pos (.inr c2),show acR (([],3):List Ac×Int).1=[] from rfl]
  refine aA ?_;exact aG.w
 rw[if_neg (by omega)]
 obtain⟨N,rfl⟩:∃ N:Nat,parts=N:=⟨parts.toNat,by omega⟩
 rw[Int.toNat_natCast];have hpn:=MH (psN l)
 have hps:(psN l).length=l.length:=by simp[psN]
 refine aA ?_;rw[hpn];refine AWP.loop (fun i:Nat=>[(0,.list 19 (rqs l)),(1,iv N),(8,.mref 1 0),(40,.list 1 (plN (psN l))),(41,iv (psN l).length),(9,.hsl 0 0 0 (bmI l i 0).length),(42,iv i)]) (fun i=>F0 (bmI l i 0)) (fun i=>i≤(psN l).length) (fun i=>(psN l).length - i) 0 (nZl _) ?_ ?_
 ·show Sub _ _ _ _ [(0,.list 19 (rqs l)),(1,iv N),(8,.mref 1 0),(40,.list 1 (plN (psN l))),(41,iv (psN l).length),(9,.hsl 0 0 0 0),(42,iv 0)] [[.cells 1 []],[.map []]]
  exact Sub.wl [1] [[(1,0)],[(0,0)]]
 rintro i hi;refine aA ?_;refine AWP.condN (i < (psN l).length) rfl rfl (fun h=>?_) (fun h=>?_)
 ·have hr:=P1 (psN l) i h
  have hil:i < l.length:=by omega
  obtain⟨q1,q2⟩:=g.len i hil;have hds:=g.ds i hil;have hnx:=HN l i ((psN l).getD i []).length (by rw[List.length_zip]; omega)
  have hle:=fun j=>NC g (j:=j) hil
  have hsc:=fun j x b=>@I3 l i j x b
  obtain⟨c0,c1',c2',c3,c4,c5,c6,c7,c8,c9,c10,c11,c12,c13,c14,c15,c16,hrow⟩:=KM (hl l[i] (gMe _));have hr2:=tY l i hil;rw[hrow] at hr2;rw[hds] at hsc;rw[show(psN l)[i]=(psN l).getD i [] by simp[h]] at hr;generalize (psN l).getD i []=q at *;generalize l[i].data=d at *;generalize l[i].off=off at *;have hql:=xI q;refine aA ?_;rw[hql];refine AWP.loop (fun j:Nat=>[(0,.list 19 (rqs l)),(1,iv N),(8,.mref 1 0),(40,.list 1 (plN (psN l))),(41,iv (psN l).length),(9,.hsl 0 0 0 (bmI l i j).length),(42,iv i),(10,iv i),(47,.list 1 (nxR q)),(48,iv q.length),(49,iv j)]) (fun j=>F0 (bmI l i j)) (fun j=>j≤q.length) (fun j=>q.length - j) 0 (nZl _) ?_ ?_
  ·unfold F0
   exact Sub.wl [] [[(0,0)],[(1,0)]]
  rintro j hj;refine aA ?_;refine AWP.condN (j < q.length) rfl rfl (fun h2=>?_) (fun h2=>?_)
  ·have hr3:=w5 q j h2
   have hr4:=BK d j (by omega);have hs:=hsc j q[j] (d[j]'(by omega)) (gEg h2) (gEg _);have hle1:=hle j;generalize q[j]=x at *;generalize d[j]'(by omega)=b at *;have hmf:=tC x (bmI l i j);have hnew:=BZ x b (bmI l i j);have hold:=CB x b (bmI l i j);generalize bmI l i j=bm at *
   have hkl:(nxR (bm.map (·.1))).length=bm.length:=by rw[xI,List.length_map]
   unfold F0;refine aA ?_
   cases hg:dK bm x with
   | none=>
    rw[hg] at hmf;replace hmf:dM .i64 (x:Int) (bmE bm)=some none:=hmf;refine Reg.o rfl (lZ rfl rfl rfl hmf) ?_;refine aA ?_;refine Reg.on rfl (BI rfl rfl rfl rfl hmf) ?_;refine aA ?_;refine⟨j+1,by omega,by omega,?_⟩;rw[hs,hnew hg]
    have e1:nxR ((bm++[(x,b)]).map (·.1))=nxR (bm.map (·.1))++[[iv x]]:=by simp[nxR]
    have e2:bmE bm++[(.int .i64 (x:Int),uv b)]=bmE (bm++[(x,b)]):=by simp[bmE]
    rw[e1,lAp];exact Sub.wl [] [[(3,0)],[(1,0)]]
   | some c=>
    rw[hg] at hmf;replace hmf:dM .i64 (x:Int) (bmE bm)=some (some (uv c)):=hmf;refine Reg.o rfl (lZ rfl rfl rfl hmf) ?_;refine aA ?_;refine Reg.on rfl (BF rfl rfl rfl rfl hmf) ?_;refine aA ?_;refine⟨j+1,by omega,by omega,?_⟩;obtain⟨e1,e2⟩:=hold c hg
    have e3:(d8 bm x b).length=bm.length:=by rw[← List.length_map (·.1),e2,List.length_map]
    rw[hs,e2,e3];exact Sub.wl [] [[(0,0)],[(1,0)]]
  ·obtain rfl:q.length=j:=by omega
   rw[hnx];refine aA ?_;refine⟨i+1,by omega,by omega,?_⟩;unfold F0;exact Sub.wl [] [[(0,0)],[(1,0)]]
 ·obtain rfl:(psN l).length=i:=by omega
  rw[A3,hps,show eN [] (iZ (psN l) (dsN l) l.length)=bmF l from rfl];obtain⟨hb1,hb2⟩:=KK g;generalize bmF l=bm at *;unfold F0;refine aA ?_;refine AWP.condN (bm.length=0) rfl rfl (fun h5=>?_) (fun h5=>?_)
  ·obtain rfl:=List.eq_nil_of_length_eq_zero h5
   rw[KC,show acR (([],0):List Ac×Int).1=[] from rfl];refine aA ?_;exact aG.w
  ·refine AWP.skip ?_
   refine AWP.sub ?_ (HL (N:=N) (by omega) (by omega) bm hb1 hb2 (fun q=>h5 (by rw[q]; rfl)));exact Sub.wl [] [[(0,0)]]
abbrev gN (l:List Nat) (i:Nat):Nat:=l.getD i 0
abbrev gL (l:List (List Nat)) (i:Nat):List Nat:=l.getD i []
structure CInv (ps ds:List (List Nat)) (done f:List Nat):Prop where
 dl:done.length=ps.length
 fl:f.length=65536
 le:∀ i,gN done i≤(gL ps i).length
 A:∀ x,(gN f x=0∧∀ i k,k < gN done i→(gL ps i)[k]?≠some x)∨∃ i k,k < gN done i∧(gL ps i)[k]?=some x∧(gL ds i)[k]?=some (gN f x)
def Fin1 (ps ds:List (List Nat)) (done f:List Nat) (i:Nat):Prop:=∀ k,k < gN done i→∀ x v,(gL ps i)[k]?=some x→(gL ds i)[k]?=some v→gN f x=v
structure AInv (ps ds:List (List Nat)) (done f:List Nat):Prop where
 a:∀ i,gN done i=0∨gN done i=(gL ps i).length
 b:(∀ i,gN done i=0)∨∃ j,j < ps.length∧gN done j=(gL ps j).length∧Fin1 ps ds done f j
structure ConQ (ps ds:List (List Nat)) (atomic:Bool) (f:List Nat):Prop where
 fl:f.length=65536
 A:∀ x,(gN f x=0∧∀ i k:Nat,(gL ps i)[k]?≠some x)∨∃ i k:Nat,(gL ps i)[k]?=some x∧(gL ds i)[k]?=some (gN f x)
 B:atomic=true→(∀ i,gL ps i=[])∨∃ j,j < ps.length∧∀ k x v:Nat,(gL ps j)[k]?=some x→(gL ds j)[k]?=some v→gN f x=v
theorem MY (n:Nat):List.replicate n [uv 0]=bys (List.replicate n 0):=by simp[bys]
def zE (r:Rq):Bool:=cE 3 r.e && cE 3 r.o && !(decide (300 < r.data.length) && (decide (r.data.length≤4096) || decide (5000 < r.data.length)))
def yN (l:List Rq):List Rq×Bool:=if l.all zE=true then(l,true) else([],false)
def Rq.kn (r:Rq):Prop:=qG 3 r.e∧qG 3 r.o
theorem L8 {l:List Rq} (hk:∀ r∈l,r.kn) (hn:l.length≤12):aC Tryz.prog 31 [.list 19 (rqs l)] (.tup [.list 19 (rqs (yN l).1),bv (yN l).2]):=by
 refine aC.mkI P8 (nlB rfl) ?_;have hll:=kI l;refine aA ?_;rw[hll,dFa (show¬ 12 < l.length by omega)];refine aA ?_;refine AWP.loop (fun i:Nat=>[(0,.list 19 (rqs l)),(4,.hsl 0 0 0 i),(5,iv i)]) (fun i=>[[.cells 19 (rqs (l.take i))]]) (fun i=>i≤l.length∧∀ j (h:j < l.length),j < i→zE l[j]=true) (fun i=>l.length - i) 0 ⟨nZl _,fun j _ h=>absurd h (Nat.not_lt_zero j)⟩ ?_ ?_
 ·exact Sub.wl [19] [[(0,0)]]
 rintro i ⟨hi,hg⟩;refine aA ?_;rw[hll];refine AWP.condN (i < l.length) rfl rfl (fun h=>?_) (fun h=>?_)
 ·have hr:=tY l i h
  have hki:=hk l[i] (gMe _);have hv:=ED (a:=l[i].at') hki.1 hki.2
  have hbad:zE l[i]=false→yN l=([],false):=fun hb=>by
   unfold yN;rw[if_neg];intro q;have:=List.all_eq_true.1 q l[i] (gMe _);rw[hb] at this
   cases this
  have hgi:zE l[i]=true→∀ j (h:j < l.length),j < i+1→zE l[j]=true:=fun h0 j hj hlt=>by
   rcases Nat.lt_or_ge j i with q | q
   ·exact hg j hj q
   ·obtain rfl:j=i:=by omega
    exact h0
  have htk:rqs (l.take (i+1))=rqs (l.take i)++[rqR l[i]]:=by
   unfold rqs;rw[List.take_add_one,gEg h,List.map_append];rfl
  have htl:(rqs (l.take i)).length=i:=by rw[kI,List.length_take]; omega
  have hfb:zE l[i]=(cE 3 l[i].e && cE 3 l[i].o && !(decide (300 < l[i].data.length) && (decide (l[i].data.length≤4096) || decide (5000 < l[i].data.length)))):=rfl;generalize hq:l[i]=q at *;clear hq;obtain⟨a,t1,t2,off,data⟩:=q;obtain⟨he,ho⟩:=hki;obtain⟨k1,c1,b1,s1,z1,l1,p1,f1,rfl⟩:=gD he;obtain⟨k2,c2,b2,s2,z2,l2,p2,f2,rfl⟩:=gD ho;simp only at hfb hv;generalize cE 3 (Ty.mk k1 c1 b1 s1 z1 l1 p1 f1)=g1 at *;generalize cE 3 (Ty.mk k2 c2 b2 s2 z2 l2 p2 f2)=g2 at *
  have e0:vwR a (Ty.mk k1 c1 b1 s1 z1 l1 p1 f1) (Ty.mk k2 c2 b2 s2 z2 l2 p2 f2)=[iv a,iv k1,iv c1,iv b1,iv s1,.list 1 (inR z1),.list 1 (inR l1),.list 1 (inR p1),.list 8 (aO f1),iv k2,iv c2,iv b2,iv s2,.list 1 (inR z2),.list 1 (inR l2),.list 1 (inR p2),.list 8 (aO f2)]:=by unfold vwR; rw[tyR,tyR]; rfl
  have e1:rqR ⟨a,Ty.mk k1 c1 b1 s1 z1 l1 p1 f1,Ty.mk k2 c2 b2 s2 z2 l2 p2 f2,off,data⟩=[iv a,iv k1,iv c1,iv b1,iv s1,.list 1 (inR z1),.list 1 (inR l1),.list 1 (inR p1),.list 8 (aO f1),iv k2,iv c2,iv b2,iv s2,.list 1 (inR z2),.list 1 (inR l2),.list 1 (inR p2),.list 8 (aO f2),iv off,.list 1 (bys data)]:=by unfold rqR; rw[e0]; rfl
  rw[e1] at hr htk;rw[e0] at hv;generalize (g1 && g2)=is at *;generalize zE ⟨a,Ty.mk k1 c1 b1 s1 z1 l1 p1 f1,Ty.mk k2 c2 b2 s2 z2 l2 p2 f2,off,data⟩=fb at *;have hbl:=dZ data;clear e0 e1 he ho;refine aA ?_;rw[hbl]
  cases is with
  | false=>
   (rw[hbad (by rw[hfb]; rfl),show rqs (([],false):List Rq×Bool).1=[] from rfl]; refine aA ?_; exact aG.w)
  | true=>
  rw[Bool.true_and] at hfb;refine aA ?_
  by_cases n1:300 < data.length
  ·rw[dTr n1,Bool.true_and] at *
   refine aA ?_
   by_cases n2:data.length≤4096
   ·rw[dTr n2,Bool.true_or] at *
    (rw[hbad (by rw[hfb]; rfl),show rqs (([],false):List Rq×Bool).1=[] from rfl]; refine aA ?_; exact aG.w)
   ·rw[dFa n2,Bool.false_or] at *
    refine aA ?_
    by_cases n3:5000 < data.length
    ·rw[dTr n3] at *
     (rw[hbad (by rw[hfb]; rfl),show rqs (([],false):List Rq×Bool).1=[] from rfl]; refine aA ?_; exact aG.w)
    ·rw[dFa n3] at *
     (refine aA ?_; rw[hll,dFa (show¬ 12 < l.length by omega)]; refine aA ?_; refine DK.nil ⟨by kernel_rfl,?_⟩; refine aA ?_; refine⟨i+1,⟨by omega,hgi (by rw[hfb]; rfl)⟩,by omega,?_⟩; rw[htk]; exact Sub.wl [] [[(2,14)]])
  ·rw[dFa n1,Bool.false_and] at *
   (refine aA ?_; rw[hll,dFa (show¬ 12 < l.length by omega)]; refine aA ?_; refine DK.nil ⟨by kernel_rfl,?_⟩; refine aA ?_; refine⟨i+1,⟨by omega,hgi (by rw[hfb]; rfl)⟩,by omega,?_⟩; rw[htk]; exact Sub.wl [] [[(2,14)]])
 ·obtain rfl:l.length=i:=by omega
  have:yN l=(l,true):=by
   unfold yN;rw[if_pos];rw[List.all_eq_true];intro r hr;obtain⟨j,hj,rfl⟩:=List.mem_iff_getElem.1 hr;exact hg j hj hj
  rw[this,List.take_length];refine aA ?_;exact aG.w
def mkF (f:List Nat) (l:List (Nat×Nat)):List Nat:=l.foldl (fun f y=>f.set y.1 y.2) f
theorem HM (f:List Nat) (l:List (Nat×Nat)) (x b:Nat):mkF f (l++[(x,b)])=(mkF f l).set x b:=by simp[mkF]
theorem fB:∀(l:List (Nat×Nat)) (f:List Nat),(mkF f l).length=f.length
 | [],_=>rfl
 | y::l,f=>by
  show(mkF (f.set y.1 y.2) l).length=_;rw[fB l,List.length_set]
theorem EU:∀(l:List (Nat×Nat)) (f:List Nat) (bm:List (Nat×Nat)),(∀ y,y < f.length→f.getD y 0=(dK bm y).getD 0)→∀ y,y < f.length→(mkF f l).getD y 0=(dK (eN bm l) y).getD 0
 | [],_,_,h,y,hy=>h y hy
 | z::l,f,bm,h,y,hy=>by
  show(mkF (f.set z.1 z.2) l).getD y 0=(dK (eN (d8 bm z.1 z.2) l) y).getD 0;refine EU l _ _ (fun y hy=>?_) y (by rw[List.length_set]; exact hy);rw[List.length_set] at hy;rw[pX,List.getD_eq_getElem?_getD,List.getElem?_set]
  by_cases e:z.1=y
  ·subst e; simp[hy]
  ·rw[if_neg e,if_neg (Ne.symm e),← List.getD_eq_getElem?_getD]
   exact h y hy
theorem E1:∀(l m:List Nat),l.Pairwise (· < ·)→m.Pairwise (· < ·)→(∀ x,x∈l↔x∈m)→l=m
 | [],[],_,_,_=>rfl
 | [],b::m,_,_,h=>by have:=(h b).2 (by simp); cases this
 | a::l,[],_,_,h=>by have:=(h a).1 (by simp); cases this
 | a::l,b::m,h1,h2,h=>by
  obtain⟨p1,p2⟩:=List.pairwise_cons.1 h1;obtain⟨q1,q2⟩:=List.pairwise_cons.1 h2;have ha:=(h a).1 (by simp);have hb:=(h b).2 (by simp)
  have hab:a=b:=by
   rcases List.mem_cons.1 ha with e | e
   ·exact e
   ·rcases List.mem_cons.1 hb with e' | e'
    ·exact e'.symm
    ·have:=q1 a e
     have:=p1 b e';omega
  subst hab;congr 1
  refine E1 l m p2 q2 fun x=>⟨fun hx=>?_,fun hx=>?_⟩
  ·rcases List.mem_cons.1 ((h x).1 (by simp[hx])) with e | e
   ·subst e; have:=p1 x hx; omega
   ·exact e
  ·rcases List.mem_cons.1 ((h x).2 (by simp[hx])) with e | e
   ·subst e; have:=q1 x hx; omega
   ·exact e
theorem AD (x b:Nat) (bm:List (Nat×Nat)) (h:(bm.map (·.1)).Nodup):((d8 bm x b).map (·.1)).Nodup:=by
 cases e:dK bm x with
 | none=>
  rw[BZ x b bm e,List.map_append]
  have hx:x∉bm.map (·.1):=fun q=>(iD x bm).2 q e
  rw[List.nodup_append];refine⟨h,by simp,fun a ha c hc=>?_⟩;rw[List.map_cons,List.map_nil,List.mem_singleton] at hc;have hc':c=x:=hc;intro e;exact hx (by rw[← hc',← e]; exact ha)
 | some c=>
  rw[(CB x b bm c e).2];exact h
theorem qI:∀(l bm:List (Nat×Nat)),(bm.map (·.1)).Nodup→((eN bm l).map (·.1)).Nodup
 | [],_,h=>h
 | y::l,bm,h=>qI l _ (AD y.1 y.2 bm h)
theorem C7 (bm:List (Nat×Nat)) (x:Nat):x∈dL bm↔x∈bm.map (·.1):=by
 unfold dL;rw[List.mem_mergeSort]
theorem PJ (bm:List (Nat×Nat)) (h:(bm.map (·.1)).Nodup):(dL bm).Pairwise (· < ·):=by
 have h1:(dL bm).Nodup:=(List.mergeSort_perm _ _).nodup_iff.2 h;rw[List.pairwise_iff_getElem];intro i j hi hj hij;have h2:=rT bm i j hi hj (by omega)
 have h3:(dL bm)[i]≠(dL bm)[j]:=fun q=>by
  have:=(List.getElem_inj h1).1 q;omega
 omega
def yW (r:Rq):Bool:=cE 3 r.e && cE 3 r.o && !decide (0 < r.data.length)
def zD (l:List Rq):List Rq×Bool:=if l.all yW=true then(l,true) else([],false)
theorem LU {l:List Rq} (hk:∀ r∈l,r.kn) (hn:64 < l.length) (hn2:l.length≤70):aC Tryz.prog 31 [.list 19 (rqs l)] (.tup [.list 19 (rqs (zD l).1),bv (zD l).2]):=by
 refine aC.mkI P8 (nlB rfl) ?_;have hll:=kI l;refine aA ?_;rw[hll,dTr (show 12 < l.length by omega)];refine aA ?_;rw[hll,dFa (show¬ l.length≤64 by omega)];refine aA ?_;rw[hll,dFa (show¬ 70 < l.length by omega)];refine aA ?_;refine AWP.loop (fun i:Nat=>[(0,.list 19 (rqs l)),(4,.hsl 0 0 0 i),(5,iv i)]) (fun i=>[[.cells 19 (rqs (l.take i))]]) (fun i=>i≤l.length∧∀ j (h:j < l.length),j < i→yW l[j]=true) (fun i=>l.length - i) 0 ⟨nZl _,fun j _ h=>absurd h (Nat.not_lt_zero j)⟩ ?_ ?_
 ·exact Sub.wl [19] [[(0,0)]]
 rintro i ⟨hi,hg⟩;refine aA ?_;rw[hll];refine AWP.condN (i < l.length) rfl rfl (fun h=>?_) (fun h=>?_)
 ·have hr:=tY l i h
  have hki:=hk l[i] (gMe _);have hv:=ED (a:=l[i].at') hki.1 hki.2
  have hbad:yW l[i]=false→zD l=([],false):=fun hb=>by
   unfold zD;rw[if_neg];intro q;have:=List.all_eq_true.1 q l[i] (gMe _);rw[hb] at this
   cases this
  have hgi:yW l[i]=true→∀ j (h:j < l.length),j < i+1→yW l[j]=true:=fun h0 j hj hlt=>by
   rcases Nat.lt_or_ge j i with q | q
   ·exact hg j hj q
   ·obtain rfl:j=i:=by omega
    exact h0
  have htk:rqs (l.take (i+1))=rqs (l.take i)++[rqR l[i]]:=by
   unfold rqs;rw[List.take_add_one,gEg h,List.map_append];rfl
  have htl:(rqs (l.take i)).length=i:=by rw[kI,List.length_take]; omega
  have hfb:yW l[i]=(cE 3 l[i].e && cE 3 l[i].o && !decide (0 < l[i].data.length)):=rfl;generalize hq:l[i]=q at *;clear hq;obtain⟨a,t1,t2,off,data⟩:=q;obtain⟨he,ho⟩:=hki;obtain⟨k1,c1,b1,s1,z1,l1,p1,f1,rfl⟩:=gD he;obtain⟨k2,c2,b2,s2,z2,l2,p2,f2,rfl⟩:=gD ho;simp only at hfb hv;generalize cE 3 (Ty.mk k1 c1 b1 s1 z1 l1 p1 f1)=g1 at *;generalize cE 3 (Ty.mk k2 c2 b2 s2 z2 l2 p2 f2)=g2 at *
  have e0:vwR a (Ty.mk k1 c1 b1 s1 z1 l1 p1 f1) (Ty.mk k2 c2 b2 s2 z2 l2 p2 f2)=[iv a,iv k1,iv c1,iv b1,iv s1,.list 1 (inR z1),.list 1 (inR l1),.list 1 (inR p1),.list 8 (aO f1),iv k2,iv c2,iv b2,iv s2,.list 1 (inR z2),.list 1 (inR l2),.list 1 (inR p2),.list 8 (aO f2)]:=by unfold vwR; rw[tyR,tyR]; rfl
  have e1:rqR ⟨a,Ty.mk k1 c1 b1 s1 z1 l1 p1 f1,Ty.mk k2 c2 b2 s2 z2 l2 p2 f2,off,data⟩=[iv a,iv k1,iv c1,iv b1,iv s1,.list 1 (inR z1),.list 1 (inR l1),.list 1 (inR p1),.list 8 (aO f1),iv k2,iv c2,iv b2,iv s2,.list 1 (inR z2),.list 1 (inR l2),.list 1 (inR p2),.list 8 (aO f2),iv off,.list 1 (bys data)]:=by unfold rqR; rw[e0]; rfl
  rw[e1] at hr htk;rw[e0] at hv;generalize (g1 && g2)=is at *;generalize yW ⟨a,Ty.mk k1 c1 b1 s1 z1 l1 p1 f1,Ty.mk k2 c2 b2 s2 z2 l2 p2 f2,off,data⟩=fb at *;have hbl:=dZ data;clear e0 e1 he ho;refine aA ?_;rw[hbl]
  cases is with
  | false=>
   (rw[hbad (by rw[hfb]; rfl),show rqs (([],false):List Rq×Bool).1=[] from rfl]; refine aA ?_; exact aG.w)
  | true=>
  rw[Bool.true_and] at hfb
  by_cases n0:0 < data.length
  ·rw[dTr n0] at hfb
   refine aA ?_
   by_cases n1:300 < data.length
   ·rw[dTr n1]
    refine aA ?_
    by_cases n2:data.length≤4096
    ·rw[dTr n2]
     (rw[hbad (by rw[hfb]; rfl),show rqs (([],false):List Rq×Bool).1=[] from rfl]; refine aA ?_; exact aG.w)
    ·rw[dFa n2]
     refine aA ?_
     by_cases n3:5000 < data.length
     ·rw[dTr n3]
      (rw[hbad (by rw[hfb]; rfl),show rqs (([],false):List Rq×Bool).1=[] from rfl]; refine aA ?_; exact aG.w)
     ·rw[dFa n3]
      refine aA ?_;rw[hll,dTr (show 12 < l.length by omega)];refine aA ?_;rw[dTr n0]
      (rw[hbad (by rw[hfb]; rfl),show rqs (([],false):List Rq×Bool).1=[] from rfl]; refine aA ?_; exact aG.w)
   ·rw[dFa n1]
    refine aA ?_;rw[hll,dTr (show 12 < l.length by omega)];refine aA ?_;rw[dTr n0]
    (rw[hbad (by rw[hfb]; rfl),show rqs (([],false):List Rq×Bool).1=[] from rfl]; refine aA ?_; exact aG.w)
  ·rw[dFa n0] at hfb
   refine aA ?_;rw[dFa (show¬ 300 < data.length by omega)];refine aA ?_;rw[hll,dTr (show 12 < l.length by omega)];refine aA ?_;rw[dFa n0];refine aA ?_;refine DK.nil ⟨by kernel_rfl,?_⟩;refine aA ?_;refine⟨i+1,⟨by omega,hgi (by rw[hfb]; rfl)⟩,by omega,?_⟩;rw[htk];exact Sub.wl [] [[(2,14)]]
 ·obtain rfl:l.length=i:=by omega
  have:zD l=(l,true):=by
   unfold zD;rw[if_pos];rw[List.all_eq_true];intro r hr;obtain⟨j,hj,rfl⟩:=List.mem_iff_getElem.1 hr;exact hg j hj hj
  rw[this,List.take_length];refine aA ?_;exact aG.w
def CC (l:List Rq):List Rq×Bool:=if l.length≤12 then yN l else if 64 < l.length∧l.length≤70 then zD l else([],false)
theorem LJ {l:List Rq} (hk:∀ r∈l,r.kn) (hn:l.length≤9223372036854775807):aC Tryz.prog 31 [.list 19 (rqs l)] (.tup [.list 19 (rqs (CC l).1),bv (CC l).2]):=by
 unfold CC
 by_cases c1:l.length≤12
 ·rw[if_pos c1]
  exact L8 hk c1
 rw[if_neg c1]
 by_cases c2:64 < l.length∧l.length≤70
 ·rw[if_pos c2]
  exact LU hk c2.1 c2.2
 rw[if_neg c2];refine aC.mkI P8 (nlB rfl) ?_;have hll:=kI l;rw[show rqs (([],false):List Rq×Bool).1=[] from rfl];refine aA ?_;rw[hll,dTr (show 12 < l.length by omega)];refine aA ?_;rw[hll]
 by_cases h64:l.length≤64
 ·rw[dTr h64]
  refine aA ?_;exact aG.w
 ·rw[dFa h64]
  refine aA ?_;rw[hll,dTr (show 70 < l.length by omega)];refine aA ?_;exact aG.w
end Go.Proofs.YtgdocflpobncmaaGreat
