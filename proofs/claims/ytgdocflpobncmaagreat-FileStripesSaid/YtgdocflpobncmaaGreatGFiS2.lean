import Derived.Test.YtgdocflpobncmaaGreatGFiS1
import Derived.Test.YtgdocflpobncmaaGreatGFiD8
import Derived.Test.YtgdocflpobncmaaGreatGFiB1
import Derived.Test.YtgdocflpobncmaaGreatGFiL5
import Derived.Test.YtgdocflpobncmaaGreatGAvK5
namespace Go.Proofs.YtgdocflpobncmaaGreat
open Go.Av Go.Proofs
variable {c:Nat} {b:Bk} {s:Sto}
def synG (b:Bk) (s:Sto) (G:List (List Blk)):Heap:=aM [.dead,.cells 1 (byR s.bytes),.map (chE s.ch),.cells 263 [stoR s (5,0) (6,0)]]++(G++aM [lateB b])
theorem MO (G:List (List Blk)) (hb:BOK b c) (hc:c < 100000) (hn3:3≤b.n) (hch:∀ x∈s.ch,x < aU b) (hcl:s.ch.length≤12) (hbl:s.bytes.length=aU b * aV b) (hnum:s.num≤1000000000)
  (hbn:(cO b s).2.1.n=b.n):
  aD Tryz.prog 29 [.ptr 7 0 0 0] (stH b s G) fun res H'=>res=.sc (.int .i64 (cO b s).1)∧H'=aE (cO b s).2.1 (8+G.length) (synG (cO b s).2.1 (cO b s).2.2 G):=by
 have h0:aD Tryz.prog 29 [.ptr 7 0 0 0] (aE b 4 (stX b s)) fun res H'=>res=.sc (.int .i64 (cO b s).1)∧H'=aE (cO b s).2.1 8 (BG (cO b s).2.1 (cO b s).2.2):=by
  have h1:=KX hb hc hn3 hch hcl hbl hnum
  have e:stH b s []=aE b 4 (stX b s):=by
   show aE b 4 (stX b s++[])=_
   rw[List.append_nil]
  rw[e] at h1
  exact h1
 show aD _ _ _ (aE b 4 (stX b s++G)) _
 generalize cO b s=q at *
 obtain⟨i,b',s'⟩:=q
 refine aD.bkG (E0:=[.cells 1 (byR s.bytes),.map (chE s.ch),.cells 263 [stoR s (5,0) (6,0)]]) [(5,0),(6,0),(7,0)] h0 rfl (by simp) (by decide) (by simp) rfl ⟨.ptr _ _ _ _ _ _ rfl,trivial⟩ (fun j p x h1 h2=>?_) fun res H' hr=>?_
 ·match j with
  | 0=>injection h1 with h1; injection h2 with h2; subst h1 h2; exact⟨rfl,_,rfl,bJ.pure _ _ (prs _)⟩
  | 1=>injection h1 with h1; injection h2 with h2; subst h1 h2; exact⟨rfl,_,rfl,.pureMap _ PM.out⟩
  | 2=>injection h1 with h1; injection h2 with h2; subst h1 h2; exact⟨rfl,_,rfl,bJ.stoR rfl rfl rfl⟩
  | j+3=>simp at h1
 ·obtain⟨rfl,rfl⟩:=hr
  refine⟨b',[.cells 1 (byR s'.bytes),.map (chE s'.ch),.cells 263 [stoR s' (5,0) (6,0)]],[.cells 1 (byR s'.bytes),.map (chE s'.ch),.cells 263 [stoR s' (5,0) (6,0)]],[],[],_,hbn,rfl,rfl,rfl,rfl,.sc _,fun j x y h1 h2=>?_,fun j x y h1 h2=>by simp at h1,rfl,?_⟩
  ·match j with
   | 0=>injection h1 with h1; injection h2 with h2; subst h1 h2; exact bJ.pure _ _ (prs _)
   | 1=>injection h1 with h1; injection h2 with h2; subst h1 h2; exact .pureMap _ PM.out
   | 2=>injection h1 with h1; injection h2 with h2; subst h1 h2; exact bJ.stoR rfl rfl rfl
   | j+3=>simp at h1
  ·have e:(stX b s++G).length+4=8+G.length:=by rw[List.length_append]; show 4+_+4=_; omega
   rw[e]
   refine congrArg (aE b' (8+G.length)) ?_
   show _=aM _++(G++aM [lateB b'])
   rw[← List.append_assoc]
   rfl
set_option maxRecDepth 20000
def chR (m:Nat) (f:Nat→Bool):List (List AV):=row1 m fun x=>.sc (.bool (f x))
instance (m:Nat) (f:Nat→Bool):PRs (chR m f):=inferInstanceAs (PRs (row1 m fun x=>AV.sc (.bool (f x))))
theorem CJ (m:Nat) (f:Nat→Bool):(chR m f).length=m:=dP _ _
theorem qL {m x:Nat} {f:Nat→Bool} (h:x < m):(chR m f)[x]?=some [.sc (.bool (f x))]:=jA h
theorem wO {m x:Nat} {f:Nat→Bool} {v:Bool}:(chR m f).set x [.sc (.bool v)]=chR m fun y=>if y=x then v else f y:=by
 unfold chR
 rw[yM]
 congr 1
 funext y
 by_cases e:y=x
 ·rw[if_pos e]
  show _=AV.sc (.bool (if y=x then v else f y))
  rw[if_pos e]
 ·rw[if_neg e]
  show _=AV.sc (.bool (if y=x then v else f y))
  rw[if_neg e]
def dK {α:Type} (f g:Nat→α) (j x:Nat):α:=if x < j then f x else g x
theorem o9 {α:Type} (f g:Nat→α):dK f g 0=g:=funext fun x=>if_neg (Nat.not_lt_zero x)
theorem C5 {α:Type} (f g:Nat→α) (j:Nat):dK f g j j=g j:=if_neg (Nat.lt_irrefl j)
theorem lE {α:Type} (f g:Nat→α) (j:Nat):(fun y=>if y=j then f j else dK f g j y)=dK f g (j+1):=by
 funext y
 unfold dK
 by_cases e:y=j
 ·subst e
  rw[if_pos rfl,if_pos (by omega)]
 ·rw[if_neg e]
  by_cases h:y < j
  ·rw[if_pos h,if_pos (by omega)]
  ·rw[if_neg h,if_neg (by omega)]
def wrR (n:Nat) (f:Nat→Nat):List (List AV):=row1 n fun x=>.sc (.int .i64 (f x:Nat))
instance (m:Nat) (f:Nat→Nat):PRs (wrR m f):=inferInstanceAs (PRs (row1 m fun x=>AV.sc (.int .i64 (f x:Nat))))
theorem qJ (m:Nat) (f:Nat→Nat):(wrR m f).length=m:=dP _ _
theorem qF {m x:Nat} {f:Nat→Nat} (h:x < m):(wrR m f)[x]?=some [.sc (.int .i64 (f x:Nat))]:=jA h
theorem B8 {m x:Nat} {f:Nat→Nat} {v:Nat}:(wrR m f).set x [.sc (.int .i64 (v:Nat))]=wrR m fun y=>if y=x then v else f y:=by
 unfold wrR
 rw[yM]
 congr 1
 funext y
 by_cases e:y=x
 ·rw[if_pos e]
  show _=AV.sc (.int .i64 ((if y=x then v else f y:Nat):Int))
  rw[if_pos e]
 ·rw[if_neg e]
  show _=AV.sc (.int .i64 ((if y=x then v else f y:Nat):Int))
  rw[if_neg e]
theorem JK (m:Nat) (f g:Nat→Bool):chR m (dK f g m)=chR m f:=rR fun x hx=>by
 show AV.sc (.bool (dK f g m x))=_
 rw[show dK f g m x=f x from if_pos hx]
theorem CS (m:Nat) (f g:Nat→Nat):wrR m (dK f g m)=wrR m f:=rR fun x hx=>by
 show AV.sc (.int .i64 ((dK f g m x:Nat):Int))=_
 rw[show dK f g m x=f x from if_pos hx]
theorem AY {g i:Nat} {fr:Fr} {H:Heap} {t:TypeId} {x y:Operand} {a b:Int} (hx:ev fr x=.sc (.int .i64 a)) (hy:ev fr y=.sc (.int .i64 b)):aC g i (.bin .gtr t x y) fr H=some (.sc (.bool (decide (b < a))),H):=by
 simp only[aC,hx,hy]
 have e:(do eqGuard .gtr t x y (.int .i64 a) (.int .i64 b); binOp .gtr t (.int .i64 a) (.int .i64 b):Sem Value)=binOp .gtr t (.int .i64 a) (.int .i64 b):=rfl
 rw[e]
 rfl
theorem AM {g i:Nat} {fr:Fr} {H:Heap} {t:TypeId} {x y:Operand} {a b:Nat} (hx:ev fr x=.sc (.int .i64 (a:Nat))) (hy:ev fr y=.sc (.int .i64 (b:Nat))) (h1:a≤1000000) (h2:b≤1000000):
  aC g i (.bin .sub t x y) fr H=some (.sc (.int .i64 ((a:Int) - b)),H):=by
 simp only[aC,hx,hy]
 show some (AV.sc (.int .i64 (IntKind.i64.wrap ((a:Int) - b))),H)=_
 rw[wrap_small (by omega) (by omega)]
theorem BF {b:Bk} {s:Sto} {l:List AV} (h:∀ a∈l,aX a):∀ a∈(.ptr 7 0 0 0::l),Ren (idH (stH b s [])) a a:=fun a ha=>by
 rcases List.mem_cons.1 ha with rfl | ha
 ·exact .ptr _ _ _ _ _ _ rfl
 ·exact .pure (h a ha)
set_option maxHeartbeats 4000000 in
theorem rB (v0 v1:Nat) (v2 v3:List Nat) (_p0:v0≤255) (_p1:v1≤255) (p2:∀ x∈v2,x≤255) (p3:∀ x∈v3,x≤255):
  aD Tryz.prog 5 [.sc (.int .u8 (v0:Nat)),.sc (.int .u8 (v1:Nat)),.list 1 (byR v2),.list 1 (byR v3)] [] fun res _=>res=.sc (.bool true):=by
 refine aD.of cF5 ?_ (nlB rfl)
 obtain⟨n,hn⟩:∃ n,n=3+v0 % 4:=⟨_,rfl⟩
 obtain⟨k,hk⟩:∃ k,k=4+v1 % 14:=⟨_,rfl⟩
 have hn3:3≤n∧n≤6:=by omega
 have hk4:4≤k∧k≤17:=by omega
 have hw:=works_ok
 have hl2:=hU v2
 have hl3:=hU v3
 refine aB ?_
 rw[← hn,← hk]
 refine Reg.c (Nat.zero_le _) rfl ((AB (n:=n) (k:=k) (by omega) (by omega)).mono ?_)
 rintro res H' ⟨rfl,rfl⟩
 have h0:=BV (n:=n) (k:=k) (by omega) (by omega)
 obtain⟨hf,_⟩:=B7 (BT n k)
 have hst:=LI.start hn3 hk4
 refine aB ?_
 refine Reg.c (Nat.zero_le _) rfl ((D8 h0 (by omega) hf).mono ?_)
 rintro res H' ⟨rfl,rfl⟩
 have hlate:lateB (g8 (gY n k))=lateB (pC (g8 (gY n k))):=rfl
 rw[hlate]
 obtain⟨b1,hb1⟩:∃ b1,b1=pC (g8 (gY n k)):=⟨_,rfl⟩
 obtain⟨s1,hs1⟩:∃ s1,s1=zY (gY n k):=⟨_,rfl⟩
 rw[← hb1,← hs1] at hst ⊢
 refine Reg.sub (fr':=[(2,.list 1 (byR v2)),(3,.list 1 (byR v3)),(9,.sc (.int .i64 (n:Nat))),(10,.ptr 0 0 0 0),(11,.sc (.int .i64 0)),(42,.tup [.ptr 7 0 0 0,.sc (.int .i64 0)])]) (H':=stH b1 s1 []) ?_ ?_
 ·refine Sub.bk [] [[(5,0)],[(6,0)],[(7,0)],[(8,0)]] [] ?_ ?_
  ·(all_goals exact bO)
  ·refine⟨⟨⟨_,rfl,ToB.rows rfl (prs _)⟩,trivial⟩,⟨⟨_,rfl,ToB.rows rfl (prs _)⟩,trivial⟩,⟨⟨_,rfl,ToB.mapE (by rw[hs1]; rfl) PM.out⟩,trivial⟩,⟨⟨_,rfl,ToB.one (ToL.stoR rfl rfl rfl)⟩,trivial⟩,trivial⟩
 refine aB ?_
 refine AWP.condN (20 < v2.length) rfl (by rw[← hl2]) (fun h=>?_) (fun h20=>?_)
 ·refine aB ?_
  exact cZ rfl
 refine aB ?_
 refine Reg.c (Nat.zero_le _) rfl ((CR hst.id).mono ?_)
 rintro res H' ⟨rfl,rfl⟩
 obtain⟨m,hm⟩:∃ m,m=(k - 2) / 2:=⟨_,rfl⟩
 obtain⟨z,hz⟩:∃ z,z=(n - 1) * 64:=⟨_,rfl⟩
 have hm7:1≤m∧m≤7:=by omega
 have hz3:128≤z∧z≤320:=by omega
 have hmz:1≤m * z:=Nat.mul_pos (by omega) (by omega)
 have hmz2:m * z≤2240:=Nat.mul_le_mul hm7.2 hz3.2
 have hzm:z≤m * z:=Nat.le_mul_of_pos_left z (by omega)
 have hlen:s1.bytes.length=m * z:=by rw[hst.len,hm,hz]
 rw[hlen]
 have hz2:64 * (n - 1)=z:=by omega
 have hmod:m * z % z=0:=Nat.mul_mod_left m z
 have hdiv:m * z / z=m:=Nat.mul_div_cancel m (by omega)
 refine aB ?_
 rw[hz2,dFa (show¬ m * z < 1 by omega)]
 refine aB ?_
 rw[dFa (show¬ m * z < z by omega)]
 refine aB ?_
 rw[hmod]
 refine aB ?_
 rw[hdiv]
 refine Reg.o rfl (kA rfl (by omega) (by omega)) ?_
 refine aB ?_
 refine AWP.loop (σ:=Nat×Bk×Sto×(Nat→Bool)) (fun t=>[(2,.list 1 (byR v2)),(3,.list 1 (byR v3)),(9,.sc (.int .i64 (n:Nat))),(10,.ptr 0 0 0 0),(12,.ptr 7 0 0 0),(14,.sc (.int .i64 (m * z:Nat))),(15,.sc (.int .i64 (z:Nat))),(16,.hsl 8 0 0 m),(17,.sc (.int .i64 (t.1:Nat)))]) (fun t=>stH t.2.1 t.2.2.1 [[.cells 1 (chR m t.2.2.2)]])
  (fun t=>t.1≤v2.length∧LI n k t.2.1 t.2.2.1 t.2.2.2 (20000+1000 * t.1)) (fun t=>v2.length - t.1) (0,b1,s1,fun _=>false) ⟨Nat.zero_le _,hst⟩ ?_ ?_
 ·refine Sub.bk [] [[(4,0)],[(5,0)],[(6,0)],[(7,0)],[(8,0)]] [] ?_ ?_
  ·(all_goals exact bO)
  ·exact⟨⟨⟨_,rfl,ToB.rows rfl (prs _)⟩,trivial⟩,⟨⟨_,rfl,ToB.rows rfl (prs _)⟩,trivial⟩,⟨⟨_,rfl,ToB.mapE rfl PM.out⟩,trivial⟩,⟨⟨_,rfl,ToB.one (ToL.stoR rfl rfl rfl)⟩,trivial⟩,⟨⟨_,rfl,ToB.rows (xX m (.sc (.bool false))) (prs (chR m fun _=>false))⟩,trivial⟩,trivial⟩
 rintro⟨i,b,s,chg⟩ ⟨hi,hI⟩
 replace hi:i≤v2.length:=hi
 replace hI:LI n k b s chg (20000+1000 * i):=hI
 show AWP _ _ _ _ _ [(2,.list 1 (byR v2)),(3,.list 1 (byR v3)),(9,.sc (.int .i64 (n:Nat))),(10,.ptr 0 0 0 0),(12,.ptr 7 0 0 0),(14,.sc (.int .i64 (m * z:Nat))),(15,.sc (.int .i64 (z:Nat))),(16,.hsl 8 0 0 m),(17,.sc (.int .i64 (i:Nat)))] (stH b s [[.cells 1 (chR m chg)]])
 have hcl:=CJ m chg
 refine aB ?_
 refine AWP.condN (i < v2.length) rfl (by rw[← hl2]) (fun h=>?_) (fun h=>?_)
 ·have hrow:=wT v2 i h
  have hv255:=p2 v2[i] (List.getElem_mem _)
  generalize v2[i]=v at *
  refine d5 ?_
  obtain⟨p,hp⟩:∃ p,p=37 * v % (m * z):=⟨_,rfl⟩
  have hpl:p < m * z:=by rw[hp]; exact Nat.mod_lt _ (by omega)
  have hpl2:p < s.bytes.length:=by rw[hI.len,← hm,← hz]; exact hpl
  have hsz:aV b=z:=by rw[hI.size,hz]
  rw[← hp]
  obtain⟨w1,w2,w3⟩:=hI.write (v:=i+1) hpl2
  rw[hsz] at w1 w2 w3
  have hr:=hI.room
  have hwr:=G7 (s:=s) hI.ok (by rw[hI.bn]; omega) [((p:Int),1)] [i+1] (by simp) (by omega)
  rw[w1] at hwr
  obtain⟨s2,hs2⟩:∃ s2,s2=mZ z s (p,i+1):=⟨_,rfl⟩
  rw[← hs2] at w2 w3 hwr
  refine Reg.sub (fr':=[(2,.list 1 (byR v2)),(3,.list 1 (byR v3)),(9,.sc (.int .i64 (n:Nat))),(10,.ptr 0 0 0 0),(12,.ptr 7 0 0 0),(14,.sc (.int .i64 (m * z:Nat))),(15,.sc (.int .i64 (z:Nat))),(16,.hsl 8 0 0 m),(17,.sc (.int .i64 (i:Nat))),(18,.sc (.int .i64 (p:Nat))),(101,.ptr 7 0 0 0),(104,.list 2 (eB [((p:Int),1)])),(108,.list 1 (byR [i+1]))]) (H':=stH b s [[.cells 1 (chR m chg)]]) ?_ ?_
  ·refine Sub.bk [] [[(4,0)],[(5,0)],[(6,0)],[(7,0)],[(8,0)]] [] ?_ ?_
   ·repeat' (first | exact aO.nil | exact To.sc _ | exact To.ptrO rfl rfl rfl | exact To.hslL rfl rfl | exact To.rows rfl (prs _) | exact To.fz rfl rfl rfl rfl (prs _) | refine aO.cons ?_ ?_)
   ·exact⟨⟨⟨_,rfl,ToB.rows rfl (prs _)⟩,trivial⟩,⟨⟨_,rfl,ToB.rows rfl (prs _)⟩,trivial⟩,⟨⟨_,rfl,ToB.mapE rfl PM.out⟩,trivial⟩,⟨⟨_,rfl,ToB.one (ToL.stoR rfl rfl rfl)⟩,trivial⟩,⟨⟨_,rfl,ToB.rows rfl (prs _)⟩,trivial⟩,trivial⟩
  refine Reg.c (Nat.zero_le _) rfl ((w8 [[.cells 1 (chR m chg)]] hwr (.sc _) (BF fun a ha=>by rcases List.mem_cons.1 ha with rfl | ha; exact pv _; rw[List.mem_singleton.1 ha]; exact pv _)).mono ?_)
  rintro res H' ⟨rfl,rfl⟩
  refine aB ?_
  rw[show dX ByteArray.empty [UInt8.ofNat ((i+1:Nat):Int).toNat]=strB [i+1] from rfl]
  have hr2:=w3.room
  refine Reg.sub (fr':=[(2,.list 1 (byR v2)),(3,.list 1 (byR v3)),(9,.sc (.int .i64 (n:Nat))),(10,.ptr 0 0 0 0),(12,.ptr 7 0 0 0),(14,.sc (.int .i64 (m * z:Nat))),(15,.sc (.int .i64 (z:Nat))),(16,.hsl 8 0 0 m),(17,.sc (.int .i64 (i:Nat))),(18,.sc (.int .i64 (p:Nat))),(111,.sc (.bool false)),(112,.ptr 7 0 0 0),(113,.sc (.int .i64 (p:Nat))),(118,.sc (.string (strB [i+1])))]) (H':=stH b s2 [[.cells 1 (chR m chg)]]) ?_ ?_
  ·refine Sub.bk [] [[(4,0)],[(5,0)],[(6,0)],[(7,0)],[(8,0)]] [] ?_ ?_
   ·(all_goals exact bO)
   ·exact⟨⟨⟨_,rfl,ToB.rows rfl (prs _)⟩,trivial⟩,⟨⟨_,rfl,ToB.rows rfl (prs _)⟩,trivial⟩,⟨⟨_,rfl,ToB.mapE rfl PM.out⟩,trivial⟩,⟨⟨_,rfl,ToB.one (ToL.stoR rfl rfl rfl)⟩,trivial⟩,⟨⟨_,rfl,ToB.rows rfl (prs _)⟩,trivial⟩,trivial⟩
  refine Reg.c (Nat.zero_le _) rfl ((w8 [[.cells 1 (chR m chg)]] (IB w3.ok (by omega) w2) (.sc _) (BF fun a ha=>by rcases List.mem_cons.1 ha with rfl | ha; exact pv _; rw[List.mem_singleton.1 ha]; exact pv _)).mono ?_)
  rintro res H' ⟨rfl,rfl⟩
  refine aB ?_
  have hlt:p / z < m:=(Nat.div_lt_iff_lt_mul (by omega)).2 hpl
  refine Reg.o rfl (bH rfl rfl (show hget (stH b s2 _) 8 0=some (.cells 1 (chR m chg)) from rfl) hlt hcl) ?_
  refine Reg.on rfl ((dS (rows:=chR m chg) (row:=p / z) (off:=0) rfl rfl (show hget (stH b s2 _) 8 0=some (.cells 1 (chR m chg)) from rfl) (qL hlt) (Nat.zero_lt_one) rfl).trans (congrArg (fun r=>some (AV.undef,aJ (stH b s2 [[.cells 1 (chR m chg)]]) 8 0 (.cells 1 r))) wO)) ?_
  obtain⟨chg2,hc2⟩:∃ chg2,chg2=fun x=>if x=p / z then true else chg x:=⟨_,rfl⟩
  rw[← hc2] at w3
  rw[← hc2]
  refine Reg.sub (fr':=[(2,.list 1 (byR v2)),(3,.list 1 (byR v3)),(9,.sc (.int .i64 (n:Nat))),(10,.ptr 0 0 0 0),(12,.ptr 7 0 0 0),(14,.sc (.int .i64 (m * z:Nat))),(15,.sc (.int .i64 (z:Nat))),(16,.hsl 8 0 0 m),(17,.sc (.int .i64 (i:Nat)))]) (H':=stH b s2 [[.cells 1 (chR m chg2)]]) ?_ ?_
  ·(refine Sub.keep ?_; repeat' (first | exact trivial | exact Le.refl _ | refine⟨?_,?_⟩))
  refine aB ?_
  by_cases h3:i < v3.length
  case neg=>
   rw[dTr (show(byR v3).length≤i by omega)]
   refine aB ?_
   refine⟨(i+1,b,s2,chg2),⟨by show i+1≤v2.length; omega,by show LI n k b s2 chg2 (20000+1000 * (i+1)); exact w3.mono (by omega)⟩,by show v2.length - (i+1) < v2.length - i; omega,?_⟩
   (refine Sub.keep ?_; repeat' (first | exact trivial | exact Le.refl _ | refine⟨?_,?_⟩))
  have hrow3:=wT v3 i h3
  have hy255:=p3 v3[i] (List.getElem_mem _)
  generalize v3[i]=y at *
  rw[dFa (show¬ (byR v3).length≤i by omega)]
  refine aB ?_
  refine AWP.condN (y % 2=0) rfl rfl (fun he=>?_) (fun he=>?_)
  ·refine aB ?_
   refine⟨(i+1,b,s2,chg2),⟨by show i+1≤v2.length; omega,by show LI n k b s2 chg2 (20000+1000 * (i+1)); exact w3.mono (by omega)⟩,by show v2.length - (i+1) < v2.length - i; omega,?_⟩
   (refine Sub.keep ?_; repeat' (first | exact trivial | exact Le.refl _ | refine⟨?_,?_⟩))
  refine aB ?_
  refine AWP.loop (σ:=Nat) (fun j=>[(2,.list 1 (byR v2)),(3,.list 1 (byR v3)),(9,.sc (.int .i64 (n:Nat))),(10,.ptr 0 0 0 0),(12,.ptr 7 0 0 0),(14,.sc (.int .i64 (m * z:Nat))),(15,.sc (.int .i64 (z:Nat))),(16,.hsl 8 0 0 m),(17,.sc (.int .i64 (i:Nat))),(19,.sc (.int .i64 (mE chg2 j:Nat))),(20,.sc (.int .i64 (j:Nat)))])
   (fun j=>stH b s2 [[.cells 1 (chR m (dK (fun _=>false) chg2 j))]]) (fun j=>j≤m) (fun j=>m - j) 0 (Nat.zero_le _) ?_ ?_
  ·rw[o9]
   (refine Sub.keep ?_; repeat' (first | exact trivial | exact Le.refl _ | refine⟨?_,?_⟩))
  intro j hj
  have hjc:=wA chg2 j
  show AWP _ _ _ _ _ [(2,.list 1 (byR v2)),(3,.list 1 (byR v3)),(9,.sc (.int .i64 (n:Nat))),(10,.ptr 0 0 0 0),(12,.ptr 7 0 0 0),(14,.sc (.int .i64 (m * z:Nat))),(15,.sc (.int .i64 (z:Nat))),(16,.hsl 8 0 0 m),(17,.sc (.int .i64 (i:Nat))),(19,.sc (.int .i64 (mE chg2 j:Nat))),(20,.sc (.int .i64 (j:Nat)))] (stH b s2 [[.cells 1 (chR m (dK (fun _=>false) chg2 j))]])
  have hcl2:(chR m (dK (fun _=>false) chg2 j)).length=m:=CJ _ _
  refine aB ?_
  refine AWP.condN (j < m) rfl rfl (fun h=>?_) (fun h=>?_)
  ·refine aB ?_
   refine Reg.o rfl (bF rfl (show hget (stH b s2 _) 8 0=some (.cells 1 (chR m (dK (fun _=>false) chg2 j))) from rfl) (qL h) rfl) ?_
   rw[C5]
   refine aB ?_
   refine AWP.condN (chg2 j=true) rfl (by simp) (fun hv=>?_) (fun hv=>?_)
   ·refine aB ?_
    refine Reg.on rfl ((dS (rows:=chR m (dK (fun _=>false) chg2 j)) (row:=j) (off:=0) rfl rfl (show hget (stH b s2 _) 8 0=some (.cells 1 (chR m (dK (fun _=>false) chg2 j))) from rfl) (qL h) (Nat.zero_lt_one) rfl).trans (congrArg (fun r=>some (AV.undef,aJ (stH b s2 [[.cells 1 (chR m (dK (fun _=>false) chg2 j))]]) 8 0 (.cells 1 r))) (wO.trans (congrArg (chR m) (lE (fun _=>false) chg2 j))))) ?_
    have hcs:=vC chg2 j
    rw[if_pos hv] at hcs
    refine aB ?_
    refine⟨j+1,by omega,by omega,?_⟩
    rw[hcs]
    (refine Sub.keep ?_; repeat' (first | exact trivial | exact Le.refl _ | refine⟨?_,?_⟩))
   ·refine aB ?_
    refine Reg.on rfl ((dS (rows:=chR m (dK (fun _=>false) chg2 j)) (row:=j) (off:=0) rfl rfl (show hget (stH b s2 _) 8 0=some (.cells 1 (chR m (dK (fun _=>false) chg2 j))) from rfl) (qL h) (Nat.zero_lt_one) rfl).trans (congrArg (fun r=>some (AV.undef,aJ (stH b s2 [[.cells 1 (chR m (dK (fun _=>false) chg2 j))]]) 8 0 (.cells 1 r))) (wO.trans (congrArg (chR m) (lE (fun _=>false) chg2 j))))) ?_
    have hcs:=vC chg2 j
    rw[if_neg hv,Nat.add_zero] at hcs
    refine aB ?_
    refine⟨j+1,by omega,by omega,?_⟩
    rw[hcs]
    (refine Sub.keep ?_; repeat' (first | exact trivial | exact Le.refl _ | refine⟨?_,?_⟩))
  ·obtain rfl:m=j:=by omega
   rw[JK]
   refine aB ?_
   refine Reg.o rfl (kA rfl (by omega) (by omega)) ?_
   refine aB ?_
   have hwl:=qJ n b.wr
   have hbn:=hI.bn
   have hb0:=w3.ok.n0
   refine AWP.loop (σ:=Nat) (fun j=>[(2,.list 1 (byR v2)),(3,.list 1 (byR v3)),(9,.sc (.int .i64 (n:Nat))),(10,.ptr 0 0 0 0),(12,.ptr 7 0 0 0),(14,.sc (.int .i64 (m * z:Nat))),(15,.sc (.int .i64 (z:Nat))),(16,.hsl 8 0 0 m),(17,.sc (.int .i64 (i:Nat))),(19,.sc (.int .i64 (mE chg2 m:Nat))),(21,.hsl 9 0 0 n),(22,.sc (.int .i64 (j:Nat)))])
    (fun j=>stH b s2 [[.cells 1 (chR m fun _=>false)],[.cells 1 (wrR n (dK b.wr (fun _=>0) j))]]) (fun j=>j≤n) (fun j=>n - j) 0 (Nat.zero_le _) ?_ ?_
   ·rw[o9]
    refine Sub.bk [] [[(4,0)],[(5,0)],[(6,0)],[(7,0)],[(8,0)],[(9,0)]] [] ?_ ?_
    ·(all_goals exact bO)
    ·exact⟨⟨⟨_,rfl,ToB.rows rfl (prs _)⟩,trivial⟩,⟨⟨_,rfl,ToB.rows rfl (prs _)⟩,trivial⟩,⟨⟨_,rfl,ToB.mapE rfl PM.out⟩,trivial⟩,⟨⟨_,rfl,ToB.one (ToL.stoR rfl rfl rfl)⟩,trivial⟩,⟨⟨_,rfl,ToB.rows rfl (prs _)⟩,trivial⟩,⟨⟨_,rfl,ToB.rows (xX n (.sc (.int .i64 0))) (prs (wrR n fun _=>0))⟩,trivial⟩,trivial⟩
   intro j hj
   show AWP _ _ _ _ _ [(2,.list 1 (byR v2)),(3,.list 1 (byR v3)),(9,.sc (.int .i64 (n:Nat))),(10,.ptr 0 0 0 0),(12,.ptr 7 0 0 0),(14,.sc (.int .i64 (m * z:Nat))),(15,.sc (.int .i64 (z:Nat))),(16,.hsl 8 0 0 m),(17,.sc (.int .i64 (i:Nat))),(19,.sc (.int .i64 (mE chg2 m:Nat))),(21,.hsl 9 0 0 n),(22,.sc (.int .i64 (j:Nat)))] (stH b s2 [[.cells 1 (chR m fun _=>false)],[.cells 1 (wrR n (dK b.wr (fun _=>0) j))]])
   have hcl3:(wrR n (dK b.wr (fun _=>0) j)).length=n:=qJ _ _
   refine aB ?_
   refine AWP.condN (j < n) rfl rfl (fun h=>?_) (fun h=>?_)
   ·refine aB ?_
    have hwj:aD Tryz.prog 28 [.ptr 0 0 0 0,.sc (.int .i64 (j:Nat))] (stH b s2 [[.cells 1 (chR m fun _=>false)],[.cells 1 (wrR n (dK b.wr (fun _=>0) j))]]) fun res H'=>res=.sc (.int .i64 (b.wr j:Nat))∧H'=stH b s2 [[.cells 1 (chR m fun _=>false)],[.cells 1 (wrR n (dK b.wr (fun _=>0) j))]]:=oN hb0 (by omega)
    refine Reg.c (Nat.zero_le _) rfl (hwj.mono ?_)
    rintro res H' ⟨rfl,rfl⟩
    refine aB ?_
    refine Reg.on rfl ((dS (rows:=wrR n (dK b.wr (fun _=>0) j)) (row:=j) (off:=0) rfl rfl (show hget (stH b s2 _) 9 0=some (.cells 1 (wrR n (dK b.wr (fun _=>0) j))) from rfl) (qF h) (Nat.zero_lt_one) rfl).trans (congrArg (fun r=>some (AV.undef,aJ (stH b s2 [[.cells 1 (chR m fun _=>false)],[.cells 1 (wrR n (dK b.wr (fun _=>0) j))]]) 9 0 (.cells 1 r))) (B8.trans (congrArg (wrR n) (lE b.wr (fun _=>0) j))))) ?_
    refine aB ?_
    refine⟨j+1,by omega,by omega,?_⟩
    (refine Sub.keep ?_; repeat' (first | exact trivial | exact Le.refl _ | refine⟨?_,?_⟩))
   ·obtain rfl:n=j:=by omega
    rw[CS]
    refine aB ?_
    have hI2:=w3.sync
    have hsy:=MO [[.cells 1 (chR m fun _=>false)],[.cells 1 (wrR n b.wr)]] w3.ok (by omega) (by omega) (fun x hx=>by rw[w3.stripes]; exact(w3.sub x hx).1) w3.chl (by rw[w3.len,w3.stripes,w3.size]) (by have:=w3.num; omega) (hI2.2.1.bn.trans hbn.symm)
    obtain⟨q0,hI3,q3⟩:=hI2
    rw[q0] at hsy
    obtain⟨b3,hb3⟩:∃ b3,b3=(cO b s2).2.1:=⟨_,rfl⟩
    obtain⟨s3,hs3⟩:∃ s3,s3=(cO b s2).2.2:=⟨_,rfl⟩
    rw[← hb3] at hI3 q3 hsy
    rw[← hs3] at hI3 hsy
    refine Reg.c (Nat.zero_le _) rfl (hsy.mono ?_)
    rintro res H' ⟨rfl,rfl⟩
    refine Reg.sub (fr':=[(2,.list 1 (byR v2)),(3,.list 1 (byR v3)),(9,.sc (.int .i64 (n:Nat))),(10,.ptr 0 0 0 0),(12,.ptr 7 0 0 0),(14,.sc (.int .i64 (m * z:Nat))),(15,.sc (.int .i64 (z:Nat))),(16,.hsl 8 0 0 m),(17,.sc (.int .i64 (i:Nat))),(19,.sc (.int .i64 (mE chg2 m:Nat))),(21,.hsl 9 0 0 n),(168,.sc (.int .i64 0))]) (H':=stH b3 s3 [[.cells 1 (chR m fun _=>false)],[.cells 1 (wrR n b.wr)]]) ?_ ?_
    ·refine Sub.bk [] [[(10,0)],[(5,0)],[(6,0)],[(7,0)],[(8,0)],[(9,0)]] [] ?_ ?_
     ·(all_goals exact bO)
     ·exact⟨⟨⟨_,rfl,ToB.rows rfl (prs _)⟩,trivial⟩,⟨⟨_,rfl,ToB.rows rfl (prs _)⟩,trivial⟩,⟨⟨_,rfl,ToB.mapE rfl PM.out⟩,trivial⟩,⟨⟨_,rfl,ToB.one (ToL.stoR rfl rfl rfl)⟩,trivial⟩,⟨⟨_,rfl,ToB.rows rfl (prs _)⟩,trivial⟩,⟨⟨_,rfl,ToB.rows rfl (prs _)⟩,trivial⟩,trivial⟩
    refine aB ?_
    have hbn3:=hI3.bn
    have hb03:=hI3.ok.n0
    refine AWP.loop (σ:=Nat) (fun j=>[(2,.list 1 (byR v2)),(3,.list 1 (byR v3)),(9,.sc (.int .i64 (n:Nat))),(10,.ptr 0 0 0 0),(12,.ptr 7 0 0 0),(14,.sc (.int .i64 (m * z:Nat))),(15,.sc (.int .i64 (z:Nat))),(16,.hsl 8 0 0 m),(17,.sc (.int .i64 (i:Nat))),(19,.sc (.int .i64 (mE chg2 m:Nat))),(21,.hsl 9 0 0 n),(23,.sc (.int .i64 (j:Nat)))])
     (fun j=>stH b3 s3 [[.cells 1 (chR m fun _=>false)],[.cells 1 (wrR n (dK b3.wr b.wr j))]]) (fun j=>j≤n) (fun j=>n - j) 0 (Nat.zero_le _) ?_ ?_
    ·rw[o9]
     (refine Sub.keep ?_; repeat' (first | exact trivial | exact Le.refl _ | refine⟨?_,?_⟩))
    ·intro j hj
     show AWP _ _ _ _ _ [(2,.list 1 (byR v2)),(3,.list 1 (byR v3)),(9,.sc (.int .i64 (n:Nat))),(10,.ptr 0 0 0 0),(12,.ptr 7 0 0 0),(14,.sc (.int .i64 (m * z:Nat))),(15,.sc (.int .i64 (z:Nat))),(16,.hsl 8 0 0 m),(17,.sc (.int .i64 (i:Nat))),(19,.sc (.int .i64 (mE chg2 m:Nat))),(21,.hsl 9 0 0 n),(23,.sc (.int .i64 (j:Nat)))] (stH b3 s3 [[.cells 1 (chR m fun _=>false)],[.cells 1 (wrR n (dK b3.wr b.wr j))]])
     have hcl4:(wrR n (dK b3.wr b.wr j)).length=n:=qJ _ _
     refine aB ?_
     refine AWP.condN (j < n) rfl rfl (fun h=>?_) (fun h=>?_)
     ·have hwj:aD Tryz.prog 28 [.ptr 0 0 0 0,.sc (.int .i64 (j:Nat))] (stH b3 s3 [[.cells 1 (chR m fun _=>false)],[.cells 1 (wrR n (dK b3.wr b.wr j))]]) fun res H'=>res=.sc (.int .i64 (b3.wr j:Nat))∧H'=stH b3 s3 [[.cells 1 (chR m fun _=>false)],[.cells 1 (wrR n (dK b3.wr b.wr j))]]:=oN hb03 (by omega)
      have hu1:=hI3.ok.wr j
      have hu2:=w3.ok.wr j
      have hu3:=q3 j
      have hcm:=wA chg2 m
      rw[← hm] at hu3
      refine d5 ?_
      refine AWP.fd jY (Nat.zero_le _) ?_
      refine FD.o rfl rfl (FD.o rfl rfl (FD.c rfl hwj (FD.o rfl rfl (FD.o rfl rfl ?_))))
      refine FD.o rfl (bH rfl rfl (show hget (stH b3 s3 _) 9 0=some (.cells 1 (wrR n (dK b3.wr b.wr j))) from rfl) h hcl4) ?_
      refine FD.o rfl (bF rfl (show hget (stH b3 s3 _) 9 0=some (.cells 1 (wrR n (dK b3.wr b.wr j))) from rfl) (qF h) rfl) ?_
      rw[C5]
      refine FD.o rfl (AM rfl rfl (by omega) (by omega)) (FD.o rfl rfl (FD.o rfl (nB (a:=mE chg2 m) (b:=1) rfl rfl (AF (by omega))) (FD.o rfl (AY rfl rfl) (FD.nil ⟨by kernel_rfl,?_⟩))))
      rw[dFa (show¬ ((mE chg2 m+1:Nat):Int) < (b3.wr j:Int) - (b.wr j:Int) by omega)]
      refine aB ?_
      refine Reg.c (Nat.zero_le _) rfl (hwj.mono ?_)
      rintro res H' ⟨rfl,rfl⟩
      refine aB ?_
      refine Reg.on rfl ((dS (rows:=wrR n (dK b3.wr b.wr j)) (row:=j) (off:=0) rfl rfl (show hget (stH b3 s3 _) 9 0=some (.cells 1 (wrR n (dK b3.wr b.wr j))) from rfl) (qF h) (Nat.zero_lt_one) rfl).trans (congrArg (fun r=>some (AV.undef,aJ (stH b3 s3 [[.cells 1 (chR m fun _=>false)],[.cells 1 (wrR n (dK b3.wr b.wr j))]]) 9 0 (.cells 1 r))) (B8.trans (congrArg (wrR n) (lE b3.wr b.wr j))))) ?_
      refine aB ?_
      refine⟨j+1,by omega,by omega,?_⟩
      (refine Sub.keep ?_; repeat' (first | exact trivial | exact Le.refl _ | refine⟨?_,?_⟩))
     ·obtain rfl:n=j:=by omega
      rw[CS]
      refine aB ?_
      have hwh:=w8 [[.cells 1 (chR m fun _=>false)],[.cells 1 (wrR n b3.wr)]] (GR (s:=s3) hI3.ok (by have:=hI3.room; omega) hI3.id) (pv _) (BF fun a ha=>by simp at ha)
      rw[hI3.whole] at hwh
      refine Reg.c (Nat.zero_le _) rfl (hwh.mono ?_)
      rintro res H' ⟨rfl,rfl⟩
      refine aB ?_
      rw[dTr (show m * z≤4096 by omega)]
      refine aB ?_
      refine AWP.loop (σ:=Nat) (fun j=>[(2,.list 1 (byR v2)),(3,.list 1 (byR v3)),(9,.sc (.int .i64 (n:Nat))),(10,.ptr 0 0 0 0),(12,.ptr 7 0 0 0),(14,.sc (.int .i64 (m * z:Nat))),(15,.sc (.int .i64 (z:Nat))),(16,.hsl 8 0 0 m),(17,.sc (.int .i64 (i:Nat))),(21,.hsl 9 0 0 n),(26,.sc (.int .i64 (j:Nat)))]) (fun _=>stH b3 s3 [[.cells 1 (chR m fun _=>false)],[.cells 1 (wrR n b3.wr)]]) (fun j=>j≤n) (fun j=>n - j) 0 (Nat.zero_le _) ?_ ?_
      ·(refine Sub.keep ?_; repeat' (first | exact trivial | exact Le.refl _ | refine⟨?_,?_⟩))
      intro j hj
      show AWP _ _ _ _ _ [(2,.list 1 (byR v2)),(3,.list 1 (byR v3)),(9,.sc (.int .i64 (n:Nat))),(10,.ptr 0 0 0 0),(12,.ptr 7 0 0 0),(14,.sc (.int .i64 (m * z:Nat))),(15,.sc (.int .i64 (z:Nat))),(16,.hsl 8 0 0 m),(17,.sc (.int .i64 (i:Nat))),(21,.hsl 9 0 0 n),(26,.sc (.int .i64 (j:Nat)))] (stH b3 s3 [[.cells 1 (chR m fun _=>false)],[.cells 1 (wrR n b3.wr)]])
      have hcl5:(wrR n b3.wr).length=n:=qJ _ _
      refine aB ?_
      refine AWP.condN (j < n) rfl rfl (fun h=>?_) (fun h=>?_)
      ·have hwj:aD Tryz.prog 28 [.ptr 0 0 0 0,.sc (.int .i64 (j:Nat))] (stH b3 s3 [[.cells 1 (chR m fun _=>false)],[.cells 1 (wrR n b3.wr)]]) fun res H'=>res=.sc (.int .i64 (b3.wr j:Nat))∧H'=stH b3 s3 [[.cells 1 (chR m fun _=>false)],[.cells 1 (wrR n b3.wr)]]:=oN hb03 (by omega)
       refine d5 ?_
       refine AWP.fd jY (Nat.zero_le _) ?_
       refine FD.o rfl rfl (FD.o rfl rfl (FD.c rfl hwj (FD.o rfl rfl (FD.o rfl rfl ?_))))
       refine FD.o rfl (bH rfl rfl (show hget (stH b3 s3 _) 9 0=some (.cells 1 (wrR n b3.wr)) from rfl) h hcl5) ?_
       refine FD.o rfl (bF rfl (show hget (stH b3 s3 _) 9 0=some (.cells 1 (wrR n b3.wr)) from rfl) (qF h) rfl) ?_
       refine FD.o rfl (nB (a:=b3.wr j) (b:=b3.wr j) rfl rfl BC) (FD.nil ⟨by kernel_rfl,?_⟩)
       rw[dTr (rfl:b3.wr j=b3.wr j)]
       refine aB ?_
       refine⟨j+1,by omega,by omega,?_⟩
       (refine Sub.keep ?_; repeat' (first | exact trivial | exact Le.refl _ | refine⟨?_,?_⟩))
      ·refine aB ?_
       refine⟨(i+1,b3,s3,fun _=>false),⟨by show i+1≤v2.length; omega,by show LI n k b3 s3 (fun _=>false) (20000+1000 * (i+1)); exact hI3.mono (by omega)⟩,by show v2.length - (i+1) < v2.length - i; omega,?_⟩
       show Sub _ _ _ _ _ (stH b3 s3 [[.cells 1 (chR m fun _=>false)]])
       refine Sub.bk [] [[(4,0)],[(5,0)],[(6,0)],[(7,0)],[(8,0)]] [] ?_ ?_
       ·(all_goals exact bO)
       ·exact⟨⟨⟨_,rfl,ToB.rows rfl (prs _)⟩,trivial⟩,⟨⟨_,rfl,ToB.rows rfl (prs _)⟩,trivial⟩,⟨⟨_,rfl,ToB.mapE rfl PM.out⟩,trivial⟩,⟨⟨_,rfl,ToB.one (ToL.stoR rfl rfl rfl)⟩,trivial⟩,⟨⟨_,rfl,ToB.rows rfl (prs _)⟩,trivial⟩,trivial⟩
 ·refine aB ?_
  exact cZ rfl
end Go.Proofs.YtgdocflpobncmaaGreat
