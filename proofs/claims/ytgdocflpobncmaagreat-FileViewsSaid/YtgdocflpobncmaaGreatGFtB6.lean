import Derived.Test.YtgdocflpobncmaaGreatGFtA4
import Derived.Test.YtgdocflpobncmaaGreatGAvK5
import Derived.Test.YtgdocflpobncmaaGreatGAvMv
namespace Go.Proofs.YtgdocflpobncmaaGreat
open Go.Av Go.Proofs
set_option maxRecDepth 20000
section
variable (k c b st:Int) (sz bl pl:List Int) (of:List Ty)
theorem KM:aB Tryz.prog 183 [.agg (tyR (.mk k c b st sz bl pl of))] (bv (aH c 1 4096)):=by
 rw[tyR]
 refine aB.mkI MH (nlB rfl) ?_
 have w:=dJ c 1 4096
 refine aA ?_
 exact aI.w
theorem KV:aB Tryz.prog 185 [.agg (tyR (.mk k c b st sz bl pl of))] (bv (aH c 1 4096 && aH b 1 4096)):=by
 rw[tyR]
 refine aB.mkI NS (nlB rfl) ?_
 have w:=dJ c 1 4096
 have w2:=dJ b 1 4096
 generalize aH c 1 4096=g at w ⊢
 cases g with
 | true=>
  refine aA ?_
  exact aI.w
 | false=>
  refine aA ?_
  exact aI.w
theorem KI (hb:bl≠[]) (hn:bl.length≤1000000):aB Tryz.prog 187 [.agg (tyR (.mk k c b st sz bl pl of))] (bv (qQ bl)):=by
 rw[tyR]
 refine aB.mkI MU (nlB rfl) ?_
 have w:=DV bl 0 4096 (by omega)
 have w2:=OQ bl hb (by omega)
 have e:=F5 bl hb
 unfold qQ
 rw[← e]
 generalize cJ bl 0 4096=g at w ⊢
 cases g with
 | true=>
  refine aA ?_
  exact aI.w
 | false=>
  refine aA ?_
  exact aI.w
theorem HJ (h:pl.length=2):aB Tryz.prog 190 [.agg (tyR (.mk k c b st sz bl pl of))] (bv (decide (0≤pl.getD 1 0))):=by
 rw[tyR]
 refine aB.mkI MW (nlB rfl) ?_
 have hr:=cS pl 1 (by omega)
 have e:pl.getD 1 0=pl[1]:=by simp[h]
 rw[e]
 refine aA ?_
 exact aI.w
theorem LJ (sz:List Int) (f:Nat→Bool) (i:Nat) (h:i < sz.length) (hf:f i=false):((List.range sz.length).all f)=false:=List.all_eq_false.2 ⟨i,List.mem_range.2 h,by simp[hf]⟩
theorem G8 (h1:sz.length≤4) (h2:bl.length=sz.length) (h3:pl.length=sz.length):aB Tryz.prog 191 [.agg (tyR (.mk k c b st sz bl pl of))] (bv (uK sz bl pl)):=by
 rw[tyR]
 refine aB.mkI NI (nlB rfl) ?_
 have l1:=bA sz
 refine aA ?_
 refine AWP.loop (fun i:Nat=>[(1,.cptr [iv k,iv c,iv b,iv st,.list 1 (inR sz),.list 1 (inR bl),.list 1 (inR pl),.list 8 (aM of)]),(6,.list 1 (inR sz)),(7,iv sz.length),(8,iv i)]) (fun _=>[]) (fun i=>i≤sz.length∧∀ j,j < i→(aH (sz.getD j 0) 1 4096 && aH (bl.getD j 0) 1 (sz.getD j 0) && aH (pl.getD j 0) 0 (sz.getD j 0 - bl.getD j 0))=true) (fun i=>sz.length - i) 0 ⟨Nat.zero_le _,fun j hj=>by omega⟩ ?_ ?_
 ·rw[← l1]
  exact Sub.w [] []
 rintro i ⟨hi,hin⟩
 refine aA ?_
 refine AWP.condN (i < sz.length) rfl rfl (fun h=>?_) (fun h=>?_)
 ·have r1:=cS sz i h
  have r2:=cS bl i (by omega)
  have r3:=cS pl i (by omega)
  have e1:sz.getD i 0=sz[i]:=by simp[h]
  have e2:bl.getD i 0=bl[i]:=by simp[h2,h]
  have e3:pl.getD i 0=pl[i]:=by simp[h3,h]
  rw[← e1] at r1
  rw[← e2] at r2
  rw[← e3] at r3
  have hno:(aH (sz.getD i 0) 1 4096 && aH (bl.getD i 0) 1 (sz.getD i 0) && aH (pl.getD i 0) 0 (sz.getD i 0 - bl.getD i 0))=false→uK sz bl pl=false:=fun hf=>LJ sz _ i h hf
  have hin':(aH (sz.getD i 0) 1 4096 && aH (bl.getD i 0) 1 (sz.getD i 0) && aH (pl.getD i 0) 0 (sz.getD i 0 - bl.getD i 0))=true→∀ j,j < i+1→(aH (sz.getD j 0) 1 4096 && aH (bl.getD j 0) 1 (sz.getD j 0) && aH (pl.getD j 0) 0 (sz.getD j 0 - bl.getD j 0))=true:=fun hf j hj=>by
   by_cases e:j=i
   ·subst e; exact hf
   ·exact hin j (by omega)
  generalize sz.getD i 0=a at *
  generalize bl.getD i 0=a2 at *
  generalize pl.getD i 0=a3 at *
  have w1:=dJ a 1 4096
  have w2:=dJ a2 1 a
  have w3:=dJ a3 0 (a - a2)
  cases g1:aH a 1 4096 with
  | false=>
   rw[g1] at w1 hno
   rw[hno rfl]
   refine aA ?_
   refine DK.nil ⟨by kernel_rfl,?_⟩
   refine aA ?_
   exact aI.w
  | true=>
   rw[g1] at w1 hno hin'
   cases g2:aH a2 1 a with
   | false=>
    rw[g2] at w2 hno
    rw[hno rfl]
    refine aA ?_
    refine DK.nil ⟨by kernel_rfl,?_⟩
    refine aA ?_
    exact aI.w
   | true=>
    rw[g2] at w2 hno hin'
    simp only[aH,Bool.and_eq_true,decide_eq_true_eq] at g1 g2
    have ew:IntKind.i64.wrap (a - a2)=a - a2:=Av.wrap_small (by omega) (by omega)
    cases g3:aH a3 0 (a - a2) with
    | false=>
     rw[g3] at w3 hno
     rw[hno rfl]
     refine aA ?_
     rw[ew]
     refine aA ?_
     refine DK.nil ⟨by kernel_rfl,?_⟩
     refine aA ?_
     exact aI.w
    | true=>
     rw[g3] at w3 hin'
     refine aA ?_
     rw[ew]
     refine aA ?_
     refine DK.nil ⟨by kernel_rfl,?_⟩
     refine aA ?_
     refine⟨i+1,⟨by omega,hin' rfl⟩,by omega,?_⟩
     exact Sub.w [] []
 ·obtain rfl:sz.length=i:=by omega
  rw[show uK sz bl pl=true from List.all_eq_true.2 fun j hj=>hin j (List.mem_range.1 hj)]
  refine aA ?_
  exact aI.w
end
def big:Int:=2000000000000000000
def tiF (p:Int×Int) (x:Int×Int):Int×Int:=(min p.1 x.2,max p.2 (x.2+bD x.1))
theorem dT (k:Int):bD k≤8:=by
 unfold bD
 repeat' split
 all_goals omega
theorem GK (l:List (Int×Int)) (hl:l≠[]) (hn:l.length≤1000000) (hb:∀ x∈l,-big≤x.2∧x.2≤big):aB Tryz.prog 195 [.list 2 (enR l)] (.tup [iv (bP l).1,iv (bP l).2]):=by
 refine aB.mkI M4 (nlB rfl) ?_
 have hil:=bK l
 have h0:0 < l.length:=List.length_pos_iff.2 hl
 have hr0:=eD l 0 h0
 obtain⟨a,ha⟩:∃ a,a=l[0].2:=⟨_,rfl⟩
 rw[← ha] at hr0
 have ht:bP l=l.foldl tiF (a,a):=by
  unfold bP
  rw[show(l.headD (0,0)).2=a by rw[ha]; cases l with | nil=>exact absurd rfl hl | cons x r=>rfl]
  rfl
 rw[ht]
 refine aA ?_
 refine DK.nil ⟨by kernel_rfl,?_⟩
 refine aA ?_
 refine AWP.loop (fun i:Nat=>[(4,iv ((l.take i).foldl tiF (a,a)).1),(5,iv ((l.take i).foldl tiF (a,a)).2),(16,.list 2 (enR l)),(17,iv l.length),(18,iv i)]) (fun _=>[]) (fun i=>i≤l.length) (fun i=>l.length - i) 0 (Nat.zero_le _) ?_ ?_
 ·rw[← hil]
  exact Sub.w [] []
 rintro i hi
 refine aA ?_
 refine AWP.condN (i < l.length) rfl rfl (fun h=>?_) (fun h=>?_)
 ·have hr:=eD l i h
  have hx:=hb l[i] (List.getElem_mem _)
  have w:=oU l[i].1
  have hs:=dT l[i].1
  have e:(l.take (i+1)).foldl tiF (a,a)=tiF ((l.take i).foldl tiF (a,a)) l[i]:=by
   rw[cG h,List.foldl_append]
   rfl
  generalize l[i]=x at *
  obtain⟨kd,at'⟩:=x
  generalize (l.take i).foldl tiF (a,a)=p at *
  obtain⟨lo,hi2⟩:=p
  unfold big at hx
  obtain⟨hx1,hx2⟩:=hx
  replace hx1:-2000000000000000000≤at':=hx1
  replace hx2:at'≤2000000000000000000:=hx2
  replace hs:bD kd≤8:=hs
  have ew:IntKind.i64.wrap (at'+(bD kd:Nat))=at'+(bD kd:Nat):=Av.wrap_small (by omega) (by omega)
  refine aA ?_
  rw[ew]
  refine aA ?_
  refine DK.nil ⟨by kernel_rfl,?_⟩
  refine aA ?_
  refine⟨i+1,by omega,by omega,?_⟩
  rw[e]
  unfold tiF
  exact Sub.wl [] []
 ·obtain rfl:l.length=i:=by omega
  rw[List.take_length]
  refine aA ?_
  exact aI.w
def rkS (bl:List Int) (a:List Nat):Nat→Nat
 | 0=>0
 | k+1=>rkS bl a k * (bl.getD k 0).toNat+a.getD k 0
def prS (bl:List Int):Nat→Nat
 | 0=>1
 | k+1=>prS bl k * (bl.getD k 0).toNat
def okD (bl:List Int) (n:Nat) (a:List Nat):Prop:=∀ i,i < n→a.getD i 0 < (bl.getD i 0).toNat
theorem tL {bl:List Int} {a b:List Nat}:∀ {k:Nat},(∀ i,i < k→a.getD i 0=b.getD i 0)→rkS bl a k=rkS bl b k
 | 0,_=>rfl
 | k+1,h=>by
  rw[rkS,rkS,tL fun i hi=>h i (by omega),h k (by omega)]
theorem dO {a:List Nat} {k v i:Nat} (h:k < a.length):(a.set k v).getD i 0=if k=i then v else a.getD i 0:=by
 simp only[List.getD_eq_getElem?_getD,List.getElem?_set]
 by_cases e:k=i
 ·subst e; simp[h]
 ·simp[e]
theorem o7 {bl:List Int} {n:Nat}:∀(k:Nat) (a:List Nat),k≤n→a.length=n→okD bl k a→match iE bl k a with
  | some b=>b.length=n∧(∀ i,k≤i→b.getD i 0=a.getD i 0)∧okD bl k b∧rkS bl b k=rkS bl a k+1
  | none=>rkS bl a k+1=prS bl k
 | 0,a,_,_,_=>rfl
 | k+1,a,hk,hl,ha=>by
  have hak:=ha k (by omega)
  have hkl:k < a.length:=by omega
  rw[iE]
  by_cases h:((a.getD k 0:Nat):Int)+1 < bl.getD k 0
  ·rw[if_pos h]
   refine⟨by rw[List.length_set]; exact hl,fun i hi=>?_,fun i hi=>?_,?_⟩
   ·rw[dO hkl,if_neg (by omega)]
   ·rw[dO hkl]
    split
    ·rename_i e; subst e; omega
    ·exact ha i hi
   ·rw[rkS,rkS,dO hkl,if_pos rfl,tL (b:=a) fun i hi=>by rw[dO hkl,if_neg (by omega)]]
    omega
  ·rw[if_neg h]
   have e1:(bl.getD k 0).toNat=a.getD k 0+1:=by omega
   have hz:rkS bl (a.set k 0) k=rkS bl a k:=tL fun i hi=>by rw[dO hkl,if_neg (by omega)]
   have ih:=o7 (n:=n) k (a.set k 0) (by omega) (by rw[List.length_set]; exact hl) fun i hi=>by
    rw[dO hkl,if_neg (by omega)]
    exact ha i (by omega)
   cases hi:iE bl k (a.set k 0) with
   | none=>
    rw[hi] at ih
    simp only at ih ⊢
    have e2:(rkS bl a k+1) * (a.getD k 0+1)=rkS bl a k * (a.getD k 0+1)+(a.getD k 0+1):=Nat.succ_mul _ _
    rw[rkS,prS,← ih,hz,e1]
    omega
   | some b=>
    rw[hi] at ih
    simp only at ih ⊢
    obtain⟨i1,i2,i3,i4⟩:=ih
    have hbk:b.getD k 0=0:=by rw[i2 k (Nat.le_refl _),dO hkl,if_pos rfl]
    refine⟨i1,fun i hi'=>?_,fun i hi'=>?_,?_⟩
    ·rw[i2 i (by omega),dO hkl,if_neg (by omega)]
    ·by_cases e:i=k
     ·subst e; rw[hbk]; omega
     ·exact i3 i (by omega)
    ·have e2:(rkS bl a k+1) * (a.getD k 0+1)=rkS bl a k * (a.getD k 0+1)+(a.getD k 0+1):=Nat.succ_mul _ _
     rw[rkS,rkS,i4,hz,hbk,e1]
     omega
theorem z0 {bl:List Int} {a:List Nat}:∀ {k:Nat},okD bl k a→rkS bl a k < prS bl k
 | 0,_=>Nat.one_pos
 | k+1,h=>by
  have h1:rkS bl a k < prS bl k:=z0 fun i hi=>h i (by omega)
  have h2:=h k (by omega)
  rw[rkS,prS]
  calc rkS bl a k * (bl.getD k 0).toNat+a.getD k 0 < rkS bl a k * (bl.getD k 0).toNat+(bl.getD k 0).toNat:=by omega
   _=(rkS bl a k+1) * (bl.getD k 0).toNat:=by rw[Nat.succ_mul]
   _≤_:=Nat.mul_le_mul_right _ h1
theorem lS {bl:List Int}:∀ {k:Nat},k≤bl.length→((bl.take k).map Int.toNat).foldl (· * ·) 1=prS bl k
 | 0,_=>by simp[prS]
 | k+1,h=>by
  have hk:k < bl.length:=by omega
  rw[List.take_add_one,gEg hk,List.map_append,List.foldl_append,lS (by omega),prS]
  simp[hk]
theorem rZ {bl:List Int} {n:Nat}:∀ {k:Nat},rkS bl (List.replicate n 0) k=0
 | 0=>rfl
 | k+1=>by
  rw[rkS,rZ]
  simp[List.getD_eq_getElem?_getD,List.getElem?_replicate]
  split<;>rfl
def rfA:cA→cA
 | .rangeF _ _ a _ _ _ _=>a
 | _=>.skip
def rfB:cA→cA
 | .rangeF _ _ _ b _ _ _=>b
 | _=>.skip
def ofR (of:List Shp):List (List AV):=of.map fun s=>[.list 2 (enR s.es),iv s.lo,iv s.hi]
theorem CP (l:List Shp):(ofR l).length=l.length:=by simp[ofR]
theorem nQ (l:List Shp) (k:Nat) (h:k < l.length):eI (ofR l) (k:Int)=some [.list 2 (enR l[k].es),iv l[k].lo,iv l[k].hi]:=j8 (fun s:Shp=>[.list 2 (enR s.es),iv s.lo,iv s.hi]) l k h
instance (l:List Shp):PRs (ofR l):=⟨fun r hr=>by
 obtain⟨n,_,rfl⟩:=List.mem_map.1 hr
 exact pr _⟩
def shB (s:Shp):Prop:=-mP≤s.lo∧s.lo≤mP∧-mP≤s.hi∧s.hi≤mP∧-mP≤s.ext∧s.ext≤mP∧s.es≠[]∧s.es.length≤4096∧∀ y∈s.es,-mP≤y.2∧y.2≤mP
def stB (s:Shp):Prop:=s.es.length≤4096∧(-big≤s.lo∧s.lo≤big)∧(-big≤s.hi∧s.hi≤big)∧∀ y∈s.es,-big≤y.2∧y.2≤big
def r0S:List AV:=[.sc (.slice none 0 0),iv 0,iv 0]
def cP (tc:List AV) (of:List Shp) (c:AV):Fr:=[(3,.cptr tc),(5,.cptr [.list 3 (ofR of)]),(6,.ptr 0 0 0 0),(7,.ptr 1 0 0 0),(8,.ptr 2 0 0 0),(27,c)]
def lD (es:List (Int×Int)) (lo hi:Int) (x:Blk) (at':List Int):Heap:=[[.cells 3 [r0S]],[.cells 1 [[iv 0]]],[.cells 3 [[.hsl 4 0 0 es.length,iv lo,iv hi]]],[x],[.cells 2 (enR es)],[.cells 1 (inR at')]]
def N5 (es:List (Int×Int)) (lo hi:Int) (x:Blk) (at':List Int):Heap:=[[.cells 3 [r0S]],[.cells 1 [[iv 0]]],[.cells 3 [[.hsl 6 0 0 es.length,iv lo,iv hi]]],[x],[.dead],[.cells 1 (inR at')],[.cells 2 (enR es)]]
def putD (x b2 b3:Blk) (at':List Int):Heap:=[[.cells 3 [r0S]],[.cells 1 [[iv 9]]],[b2],[x],[b3],[.cells 1 (inR at')]]
noncomputable def iB:cA:=iC [1,1,0,1,0] F165.code
theorem pJ {T:AV→AV→Prop} {ρ:Nat→Nat→Option (Nat×Nat)} {tc:List AV} {of:List Shp} {c:AV} {L:LC} {st:LoopState} {pe:Option Code} (ht:PR tc) (hc:PV c) (r0:ρ 0 0=some (0,0)) (r1:ρ 1 0=some (1,0)) (r2:ρ 2 0=some (2,0)):ToB T ρ (.lp L (cP tc of c) st pe) (.lp L (cP tc of c) st pe):=by
 refine ToB.lp _ _ _ _ _ fun x hx=>?_
 simp only[cP,List.mem_cons,List.not_mem_nil,or_false] at hx
 rcases hx with rfl | rfl | rfl | rfl | rfl | rfl
 ·exact To.pure (.cptr _ ht.out)
 ·exact To.pure (pv (AV.cptr [.list 3 (ofR of)]))
 ·exact To.ptrO r0 rfl rfl
 ·exact To.ptrO r1 rfl rfl
 ·exact To.ptrO r2 rfl rfl
 ·exact To.pure hc.out
set_option maxHeartbeats 2000000 in
theorem zQ {L:LC} {tc:List AV} {of:List Shp} {c:AV} (ht:PR tc) (hc:PV c) (hL:LOK Tryz.prog F165.n L [28,29] (rfA iB) (rfB iB)) (s:Shp) (at':List Int) (k:Nat) (by':Int) (x:Shp) (hk:of[k]?=some x) (hof:shB x) (hs:stB s) (h1:-1200000000000000000≤by') (h2:by'≤1200000000000000000):
  dW Tryz.prog 3 0 [iv k,iv by'] (lD s.es s.lo s.hi (.lp L (cP tc of c) .ready none) at') fun b H'=>
   (b=true∧s.es.length+x.es.length≤4096∧H'=N5 (cO s x by').es (cO s x by').lo (cO s x by').hi (.lp L (cP tc of c) .ready none) at')∨(b=false∧4096 < s.es.length+x.es.length∧∃ b2 b3,H'=putD (.lp L (cP tc of c) .done (some .ret)) b2 b3 at'):=by
 refine gH.g ?_
 have hr:eI (ofR of) (k:Int)=some [.list 2 (enR x.es),iv x.lo,iv x.hi]:=by
  obtain⟨h,rfl⟩:=gEs.1 hk
  exact nQ of k h
 clear hk
 unfold shB mP at hof
 obtain⟨b1,b2,b3,b4,b5,b6,b7,b8,b9⟩:=hof
 refine⟨L,_,_,_,_,_,hL,rfl,rfl,?_⟩
 show AWP _ _ _ (.seq (.region _) (.region _)) _ _ _
 have hlp:∀(T:AV→AV→Prop) (ρ:Nat→Nat→Option (Nat×Nat)) (st:LoopState),ρ 0 0=some (0,0)→ρ 1 0=some (1,0)→ρ 2 0=some (2,0)→ToB T ρ (.lp L (cP tc of c) st none) (.lp L (cP tc of c) st none):=fun T ρ st=>pJ ht hc
 obtain⟨caps,hcaps⟩:∃ caps,caps=cP tc of c:=⟨_,rfl⟩
 rw[← hcaps] at hlp ⊢
 rw[show putL caps ([28,29].zip [iv k,iv by'])=(29,iv by')::(28,iv k)::cP tc of c by rw[hcaps]; rfl]
 unfold cP
 refine aA ?_
 refine⟨rfl,caps,rfl,?_⟩
 show AWP _ _ _ (.block 1 _) _ _ _
 refine aA ?_
 rw[Av.wrap_small (show -9223372036854775808≤x.lo+by' by omega) (by omega),Av.wrap_small (show -9223372036854775808≤x.hi+by' by omega) (by omega)]
 refine DK.nil ⟨by kernel_rfl,?_⟩
 refine AWP.sub (fr':=[(6,.ptr 0 0 0 0),(7,.ptr 1 0 0 0),(8,.ptr 2 0 0 0),(10,iv by'),(11,.cptr [.list 2 (enR x.es),iv x.lo,iv x.hi]),(12,iv (x.lo+by')),(13,iv (x.hi+by'))]) (H':=lD s.es s.lo s.hi (.lp L caps .busy none) at') ?_ ?_
 ·exact Sub.wl [] [[(0,0)],[(1,0)],[(2,0)],[(3,0)],[(4,0)],[(5,0)]]
 have hle:=bK s.es
 have hle2:=bK x.es
 refine aA ?_
 refine AWP.joinB0 [(6,.ptr 0 0 0 0),(7,.ptr 1 0 0 0),(8,.ptr 2 0 0 0),(10,iv by'),(11,.cptr [.list 2 (enR x.es),iv x.lo,iv x.hi]),(12,iv (x.lo+by')),(13,iv (x.hi+by'))] (lD s.es (if s.es.length=0 then x.lo+by' else s.lo) (if s.es.length=0 then x.hi+by' else s.hi) (.lp L caps .busy none) at') ?_ ?_
 ·refine AWP.condN (s.es.length=0) rfl rfl (fun h=>?_) (fun h=>?_)
  ·rw[if_pos h,if_pos h]
   refine aA ?_
   exact Sub.wl [] [[(0,0)],[(1,0)],[(2,0)],[(3,0)],[(4,0)],[(5,0)]]
  ·rw[if_neg h,if_neg h]
   refine aA ?_
   exact Sub.wl [] [[(0,0)],[(1,0)],[(2,0)],[(3,0)],[(4,0)],[(5,0)]]
 obtain⟨lo1,hl1⟩:∃ lo1,lo1=if s.es.length=0 then x.lo+by' else s.lo:=⟨_,rfl⟩
 obtain⟨hi1,hh1⟩:∃ hi1,hi1=if s.es.length=0 then x.hi+by' else s.hi:=⟨_,rfl⟩
 unfold cO
 rw[← hl1,← hh1]
 have hs0:=hs.1
 refine aA ?_
 rw[hle2]
 refine AWP.condN (4096 < s.es.length+x.es.length) rfl rfl (fun h=>?_) (fun h=>?_)
 ·refine aA ?_
  refine⟨caps,rfl,.inr ⟨rfl,h,_,_,rfl⟩⟩
 refine aA ?_
 refine AWP.loop (fun j:Nat=>[(6,.ptr 0 0 0 0),(7,.ptr 1 0 0 0),(8,.ptr 2 0 0 0),(10,iv by'),(11,.cptr [.list 2 (enR x.es),iv x.lo,iv x.hi]),(70,.list 2 (enR x.es)),(71,iv x.es.length),(72,iv j)]) (fun j=>N5 (s.es++(x.es.take j).map (fun y=>(y.1,y.2+by'))) (min lo1 (x.lo+by')) (max hi1 (x.hi+by')) (.lp L caps .busy none) at') (fun j=>j≤x.es.length) (fun j=>x.es.length - j) 0 (Nat.zero_le _) ?_ ?_
 ·rw[← hle2]
  rw[show s.es++(x.es.take 0).map (fun y=>(y.1,y.2+by'))=s.es by simp]
  refine Sub.toM [] [.c [(0,0)],.c [(1,0)],.c [(2,0)],.c [(3,0)],.c [(4,0)],.c [(5,0)],.c [(4,0)]] [4] ?_ ?_ ⟨rfl,trivial⟩ ?_
  ·(all_goals exact iD)
  ·(all_goals exact iD)
   all_goals first | exact hlp _ _ _ rfl rfl rfl | omega | exact .dead _
  ·(repeat' (first | exact trivial | exact I6.c _ rfl rfl | refine⟨?_,?_⟩))
 rintro j hj
 have hsn:∀ h5:j < x.es.length,s.es++(x.es.take (j+1)).map (fun y=>(y.1,y.2+by'))=(s.es++(x.es.take j).map (fun y=>(y.1,y.2+by')))++[(x.es[j].1,x.es[j].2+by')]:=fun h5=>by
  rw[cG h5,List.map_append,List.append_assoc]
  rfl
 have hend:j=x.es.length→s.es++(x.es.take j).map (fun y=>(y.1,y.2+by'))=s.es++x.es.map (fun y=>(y.1,y.2+by')):=by
  rintro rfl
  rw[List.take_length]
 have hln:(s.es++(x.es.take j).map (fun y=>(y.1,y.2+by'))).length≤10000:=by
  rw[List.length_append,List.length_map,List.length_take]
  omega
 generalize s.es++(x.es.take j).map (fun y=>(y.1,y.2+by'))=es at hsn hln hend ⊢
 refine aA ?_
 refine AWP.condN (j < x.es.length) rfl rfl (fun h5=>?_) (fun h5=>?_)
 ·have hr2:=eD x.es j h5
  have hy:=b9 x.es[j] (List.getElem_mem _)
  replace hsn:=hsn h5
  generalize x.es[j]=y at *
  have hen:=bK es
  refine aA ?_
  rw[Av.wrap_small (show -9223372036854775808≤y.2+by' by omega) (by omega)]
  refine aA ?_
  refine⟨j+1,by omega,by omega,?_⟩
  rw[hsn]
  have hz9:enR es++[[iv y.1,iv (y.2+by')]]=enR (es++[(y.1,y.2+by')]):=by simp[enR]
  exact Sub.wl [] [[(0,0)],[(1,0)],[(2,0)],[(3,0)],[(4,0)],[(5,0)],[(9,0)]]
 ·obtain rfl:x.es.length=j:=by omega
  refine aA ?_
  refine⟨caps,rfl,.inl ⟨rfl,by omega,?_⟩⟩
  rw[← hend rfl]
  rfl
def E6 (x:Blk):Heap:=[[.cells 3 [r0S]],[.cells 1 [[iv 0]]],[.cells 3 [r0S]],[x]]
def putK (es:List (Int×Int)) (lo hi:Int) (x:Blk):Heap:=[[.cells 3 [r0S]],[.cells 1 [[iv 0]]],[.cells 3 [[.hsl 4 0 0 es.length,iv lo,iv hi]]],[x],[.cells 2 (enR es)]]
def EV (x:Blk):Heap:=[[.cells 3 [r0S]],[.cells 1 [[iv 9]]],[.dead],[x]]
theorem qC {of:List Shp} (m:Int×Int):∀ {l:List (Int×Int)} {s t:Shp},eU of l s=some t→eU of (l++[m]) s=if 4096 < t.es.length+(of.getD m.1.toNat shp0).es.length then none else some (cO t (of.getD m.1.toNat shp0) m.2)
 | [],s,t,h=>by
  injection h with h
  subst h
  rfl
 | n::l,s,t,h=>by
  simp only[eU,List.cons_append] at h ⊢
  split at h
  ·cases h
  ·rename_i h1
   rw[if_neg h1]
   exact qC m h
theorem pT {of:List Shp} {r:List (Int×Int)}:∀ {l:List (Int×Int)} {s:Shp},eU of l s=none→eU of (l++r) s=none
 | [],s,h=>by cases h
 | n::l,s,h=>by
  simp only[eU,List.cons_append] at h ⊢
  split
  ·rfl
  ·rename_i h1
   rw[if_neg h1] at h
   exact pT h
theorem xW {s x:Shp} {by':Int} (hs:stB s) (hx:shB x) (h1:-1200000000000000000≤by') (h2:by'≤1200000000000000000) (hl:s.es.length+x.es.length≤4096):stB (cO s x by'):=by
 obtain⟨a1,⟨a2,a3⟩,⟨a4,a5⟩,a6⟩:=hs
 obtain⟨b1,b2,b3,b4,b5,b6,b7,b8,b9⟩:=hx
 unfold big at *
 unfold mP at *
 refine⟨by simp[cO]; omega,⟨?_,?_⟩,⟨?_,?_⟩,fun y hy=>?_⟩
 ·show -big≤min _ _
  unfold big
  split<;>omega
 ·show min _ _≤big
  unfold big
  split<;>omega
 ·show -big≤max _ _
  unfold big
  split<;>omega
 ·show max _ _≤big
  unfold big
  split<;>omega
 ·rcases List.mem_append.1 hy with hy | hy
  ·exact a6 y hy
  ·obtain⟨z,hz,rfl⟩:=List.mem_map.1 hy
   have:=b9 z hz
   exact⟨by show _≤z.2+by'; unfold big; omega,by show z.2+by'≤_; unfold big; omega⟩
theorem gG {a b A B:Int} (h1:-A≤a) (h2:a≤A) (h3:-B≤b) (h4:b≤B):-(A * B)≤a * b∧a * b≤A * B:=by
 have e1:(a * b).natAbs≤A.natAbs * B.natAbs:=by
  rw[Int.natAbs_mul]
  exact Nat.mul_le_mul (by omega) (by omega)
 have e2:((A.natAbs * B.natAbs:Nat):Int)=A * B:=by
  rw[Int.natCast_mul,Int.natAbs_of_nonneg (by omega),Int.natAbs_of_nonneg (by omega)]
 omega
theorem vI:stB shp0:=⟨by simp[shp0],⟨by decide,by decide⟩,⟨by decide,by decide⟩,fun y hy=>by cases hy⟩
def pQ (L:LC) (tc:List AV) (of:List Shp) (c:AV) (xs:List (Int×Int)) (H':Heap):Prop:=
 (∃ s,eU of xs shp0=some s∧stB s∧H'=putK s.es s.lo s.hi (.lp L (cP tc of c) .ready none))∨(eU of xs shp0=none∧H'=EV (.lp L (cP tc of c) .done (some .ret)))
variable {L:LC} {of:List Shp} {cl:AV} {k c b st:Int} {sz bl pl:List Int} {ty:List Ty}
set_option maxHeartbeats 1000000 in
theorem vD (hc:PV cl) (hL:LOK Tryz.prog F165.n L [28,29] (rfA iB) (rfB iB)) {x:Shp} (h0:of[0]?=some x) (hof:shB x) (hcc:c≤4096):
  aG Tryz.prog 204 [.yld 3 0,.cptr [iv k,iv c,iv b,iv st,.list 1 (inR sz),.list 1 (inR bl),.list 1 (inR pl),.list 8 (aM ty)],.cptr [.list 3 (ofR of)]] (E6 (.lp L (cP [iv k,iv c,iv b,iv st,.list 1 (inR sz),.list 1 (inR bl),.list 1 (inR pl),.list 8 (aM ty)] of cl) .ready none)) fun _ H'=>pQ L [iv k,iv c,iv b,iv st,.list 1 (inR sz),.list 1 (inR bl),.list 1 (inR pl),.list 8 (aM ty)] of cl (bE c x.ext) H':=by
 have ht:PR [iv k,iv c,iv b,iv st,.list 1 (inR sz),.list 1 (inR bl),.list 1 (inR pl),.list 8 (aM ty)]:=⟨pr _⟩
 have hlp:∀(T:AV→AV→Prop) (ρ:Nat→Nat→Option (Nat×Nat)) (st':LoopState) (pe:Option Code),ρ 0 0=some (0,0)→ρ 1 0=some (1,0)→ρ 2 0=some (2,0)→ToB T ρ (.lp L (cP [iv k,iv c,iv b,iv st,.list 1 (inR sz),.list 1 (inR bl),.list 1 (inR pl),.list 8 (aM ty)] of cl) st' pe) (.lp L (cP [iv k,iv c,iv b,iv st,.list 1 (inR sz),.list 1 (inR bl),.list 1 (inR pl),.list 8 (aM ty)] of cl) st' pe):=fun T ρ st' pe=>pJ ht hc
 have hr0:eI (ofR of) ((0:Nat):Int)=some [.list 2 (enR x.es),iv x.lo,iv x.hi]:=by
  obtain⟨h,rfl⟩:=gEs.1 h0
  exact nQ of 0 h
 have hx:=hof
 obtain⟨b1,b2,b3,b4,b5,b6,_⟩:=hx
 unfold mP at b1 b2 b3 b4 b5 b6
 have he:aB Tryz.prog 73 [.agg [.list 2 (enR x.es),iv x.lo,iv x.hi]] (iv x.ext):=eZ x (by omega) (by omega) (by omega) (by omega)
 obtain⟨N,hN⟩:∃ N,N=(max 1 c).toNat:=⟨_,rfl⟩
 have hN2:N≤4096:=by omega
 have hlen:(bE c x.ext).length=N:=by simp[bE,hN]
 have hget:∀ i,i < N→(bE c x.ext)[i]?=some (0,(i:Int) * x.ext):=fun i hi=>by
  unfold bE
  rw[List.getElem?_map,List.getElem?_range (by omega)]
  rfl
 refine aG.of NC ?_ (nlB rfl)
 refine aA ?_
 refine AWP.loop2 (fun(i:Nat) (_:Shp)=>[(0,.yld 3 0),(1,.cptr [iv k,iv c,iv b,iv st,.list 1 (inR sz),.list 1 (inR bl),.list 1 (inR pl),.list 8 (aM ty)]),(2,.cptr [.list 3 (ofR of)]),(7,iv N),(8,iv i)]) (fun _ s=>lD s.es s.lo s.hi (.lp L (cP [iv k,iv c,iv b,iv st,.list 1 (inR sz),.list 1 (inR bl),.list 1 (inR pl),.list 8 (aM ty)] of cl) .ready none) []) (fun i s=>i≤N∧stB s∧eU of ((bE c x.ext).take i) shp0=some s) (fun i _=>N - i) 0 shp0 ⟨Nat.zero_le _,vI,rfl⟩ ?_ ?_
 ·exact Sub.wl [2,1] [[(0,0)],[(1,0)],[(2,0)],[(3,0)],[(4,0)],[(5,0)]]
 rintro i s ⟨hi,hs,hm⟩
 refine aA ?_
 refine AWP.condN (i < N) rfl rfl (fun h=>?_) (fun h=>?_)
 ·have hie:-1200000000000000000≤(i:Int) * x.ext∧(i:Int) * x.ext≤1200000000000000000:=by
   have:=gG (a:=(i:Int)) (b:=x.ext) (A:=4096) (B:=1048576) (by omega) (by omega) b5 b6
   omega
  refine AWP.skip ?_
  refine AWP.seq ?_
  refine AWP.block ?_
  refine AWP.seq ?_
  refine AWP.region ?_
  refine qR ?_
  refine AWP.seq ?_
  refine AWP.rG rfl ?_
  refine aA ?_
  rw[Av.wrap_small (show -9223372036854775808≤(i:Int) * x.ext by omega) (by omega)]
  refine⟨rfl,nlB rfl,3,0,rfl,?_⟩
  refine(zQ ht hc hL s [] 0 ((i:Int) * x.ext) x h0 hof hs hie.1 hie.2).mono ?_
  have hsn:=qC (0,(i:Int) * x.ext) hm
  rw[show((0:Int),(i:Int) * x.ext).1.toNat=0 from rfl,show of.getD 0 shp0=x by rw[List.getD_eq_getElem?_getD,h0]; rfl] at hsn
  have htk:(bE c x.ext).take (i+1)=(bE c x.ext).take i++[(0,(i:Int) * x.ext)]:=by
   rw[List.take_add_one,hget i h]
   rfl
  rintro b' H' (⟨rfl,hle,rfl⟩ | ⟨rfl,hlt,b2',b3',rfl⟩)
  ·rw[if_neg (by omega)] at hsn
   refine aA ?_
   refine⟨i+1,cO s x ((i:Int) * x.ext),⟨by omega,xW hs hof hie.1 hie.2 hle,by rw[htk]; exact hsn⟩,by omega,?_⟩
   exact Sub.wl [] [[(0,0)],[(1,0)],[(2,0)],[(3,0)],[(6,0)],[(5,0)]]
  ·rw[if_pos hlt] at hsn
   refine aA ?_
   have hno:eU of (bE c x.ext) shp0=none:=by
    rw[← List.take_append_drop (i+1) (bE c x.ext)]
    refine pT ?_
    rw[htk]
    exact hsn
   refine iW (res':=.tup []) (H2:=EV (.lp L (cP [iv k,iv c,iv b,iv st,.list 1 (inR sz),.list 1 (inR bl),.list 1 (inR pl),.list 8 (aM ty)] of cl) .done (some .ret))) [[(0,0)],[(1,0)],[(2,0)],[(3,0)]] (.inr rfl) rfl (.inr ⟨hno,rfl⟩) ?_ ?_ rfl rfl rfl
   (all_goals exact iD)
   all_goals first | exact hlp _ _ _ _ rfl rfl rfl | exact .dead _
 ·obtain rfl:N=i:=by omega
  rw[← hlen,List.take_length] at hm
  refine aA ?_
  refine iW (res':=.tup []) (H2:=putK s.es s.lo s.hi (.lp L (cP [iv k,iv c,iv b,iv st,.list 1 (inR sz),.list 1 (inR bl),.list 1 (inR pl),.list 8 (aM ty)] of cl) .ready none)) [[(0,0)],[(1,0)],[(2,0)],[(3,0)],[(4,0)]] (.inl rfl) rfl (.inl ⟨s,hm,hs,rfl⟩) ?_ ?_ rfl rfl rfl
  (all_goals exact iD)
  all_goals first | exact hlp _ _ _ _ rfl rfl rfl | exact .dead _
def bW {α:Type} (f:Nat→List α) (i j:Nat):List α:=(List.range i).flatMap f++(f i).take j
theorem d8 {α:Type} {f:Nat→List α} {i j:Nat} {m:α} (h:(f i)[j]?=some m):bW f i (j+1)=bW f i j++[m]:=by
 unfold bW
 rw[List.take_add_one,h,List.append_assoc]
 rfl
theorem fK {α:Type} {f:Nat→List α} {i j:Nat} (h:(f i).length=j):bW f i j=bW f (i+1) 0:=by
 unfold bW
 rw[← h,List.take_length,List.range_succ,List.flatMap_append]
 simp
theorem gB {α:Type} {f:Nat→List α} {n:Nat}:(List.range n).flatMap f=bW f n 0:=by simp[bW]
theorem gD {α:Type} {f:Nat→List α}:bW f 0 0=[]:=by simp[bW]
theorem lN {α:Type} {f:Nat→List α} {n i j:Nat} (h:i < n):∃ r,(List.range n).flatMap f=bW f i j++r:=by
 obtain⟨q,rfl⟩:∃ q,n=i+1+q:=⟨n - (i+1),by omega⟩
 refine⟨(f i).drop j++((List.range q).map (i+1+·)).flatMap f,?_⟩
 unfold bW
 rw[List.range_add,List.flatMap_append,List.range_succ,List.flatMap_append]
 simp only[List.append_assoc,List.flatMap_cons,List.flatMap_nil,List.append_nil]
 rw[← List.append_assoc ((f i).take j),List.take_append_drop]
theorem oC {L:LC} {tc:List AV} {of:List Shp} {c:AV} {xs p:List (Int×Int)} (ht:PR tc) (hc:PV c) (hL:LOK Tryz.prog F165.n L [28,29] (rfA iB) (rfB iB)) {s:Shp} (at':List Int) {k:Nat} {by':Int} {x:Shp} (hk:of[k]?=some x) (hof:shB x) (hs:stB s)
  (h1:-1200000000000000000≤by') (h2:by'≤1200000000000000000) (hm:eU of p shp0=some s) (hall:∃ r,xs=(p++[((k:Int),by')])++r):
  dW Tryz.prog 3 0 [iv k,iv by'] (lD s.es s.lo s.hi (.lp L (cP tc of c) .ready none) at') fun b H'=>
   (b=true∧∃ s',eU of (p++[((k:Int),by')]) shp0=some s'∧stB s'∧H'=N5 s'.es s'.lo s'.hi (.lp L (cP tc of c) .ready none) at')∨(b=false∧eU of xs shp0=none∧∃ b2 b3,H'=putD (.lp L (cP tc of c) .done (some .ret)) b2 b3 at'):=by
 refine(zQ ht hc hL s at' k by' x hk hof hs h1 h2).mono ?_
 have hsn:=qC ((k:Int),by') hm
 rw[show((k:Int),by').1.toNat=k from rfl,show of.getD k shp0=x by rw[List.getD_eq_getElem?_getD,hk]; rfl] at hsn
 rintro b' H' (⟨rfl,hle,rfl⟩ | ⟨rfl,hlt,b2',b3',rfl⟩)
 ·rw[if_neg (by omega)] at hsn
  exact .inl ⟨rfl,_,hsn,xW hs hof h1 h2 hle,rfl⟩
 ·rw[if_pos hlt] at hsn
  obtain⟨r,hr⟩:=hall
  exact .inr ⟨rfl,by rw[hr]; exact pT hsn,_,_,rfl⟩
variable {L:LC} {of:List Shp} {cl:AV} {k c b st:Int} {sz bl pl:List Int} {ty:List Ty}
set_option maxHeartbeats 1000000 in
theorem E3 (hc:PV cl) (hL:LOK Tryz.prog F165.n L [28,29] (rfA iB) (rfB iB)) {x:Shp} (h0:of[0]?=some x) (hof:shB x) (hc1:1≤c) (hcc:c≤4096) (hb1:1≤b) (hbb:b≤4096) (hs1:-mP≤st) (hs2:st≤mP):
  aG Tryz.prog 205 [.yld 3 0,.cptr [iv k,iv c,iv b,iv st,.list 1 (inR sz),.list 1 (inR bl),.list 1 (inR pl),.list 8 (aM ty)],.cptr [.list 3 (ofR of)]] (E6 (.lp L (cP [iv k,iv c,iv b,iv st,.list 1 (inR sz),.list 1 (inR bl),.list 1 (inR pl),.list 8 (aM ty)] of cl) .ready none)) fun _ H'=>pQ L [iv k,iv c,iv b,iv st,.list 1 (inR sz),.list 1 (inR bl),.list 1 (inR pl),.list 8 (aM ty)] of cl (gA c b st x.ext) H':=by
 have ht:PR [iv k,iv c,iv b,iv st,.list 1 (inR sz),.list 1 (inR bl),.list 1 (inR pl),.list 8 (aM ty)]:=⟨pr _⟩
 have hlp:∀(T:AV→AV→Prop) (ρ:Nat→Nat→Option (Nat×Nat)) (st':LoopState) (pe:Option Code),ρ 0 0=some (0,0)→ρ 1 0=some (1,0)→ρ 2 0=some (2,0)→ToB T ρ (.lp L (cP [iv k,iv c,iv b,iv st,.list 1 (inR sz),.list 1 (inR bl),.list 1 (inR pl),.list 8 (aM ty)] of cl) st' pe) (.lp L (cP [iv k,iv c,iv b,iv st,.list 1 (inR sz),.list 1 (inR bl),.list 1 (inR pl),.list 8 (aM ty)] of cl) st' pe):=fun T ρ st' pe=>pJ ht hc
 have hr0:eI (ofR of) ((0:Nat):Int)=some [.list 2 (enR x.es),iv x.lo,iv x.hi]:=by
  obtain⟨h,rfl⟩:=gEs.1 h0
  exact nQ of 0 h
 have hx:=hof
 obtain⟨b1,b2,b3,b4,b5,b6,_⟩:=hx
 unfold mP at b1 b2 b3 b4 b5 b6 hs1 hs2
 have he:aB Tryz.prog 73 [.agg [.list 2 (enR x.es),iv x.lo,iv x.hi]] (iv x.ext):=eZ x (by omega) (by omega) (by omega) (by omega)
 obtain⟨N,rfl⟩:∃ N:Nat,c=N:=⟨c.toNat,by omega⟩
 obtain⟨M,rfl⟩:∃ M:Nat,b=M:=⟨b.toNat,by omega⟩
 obtain⟨f,hf⟩:∃ f:Nat→List (Int×Int),f=fun i:Nat=>(List.range M).map fun j:Nat=>(0,((i:Int) * st+j) * x.ext):=⟨_,rfl⟩
 have hxs:gA N M st x.ext=(List.range N).flatMap f:=by unfold gA; rw[hf]; rfl
 have hfl:∀ i,(f i).length=M:=fun i=>by rw[hf]; simp
 have hfg:∀ i j,j < M→(f i)[j]?=some (0,((i:Int) * st+j) * x.ext):=fun i j hj=>by
  rw[hf]
  simp[hj]
 rw[hxs]
 refine aG.of NB ?_ (nlB rfl)
 refine aA ?_
 refine AWP.loop2 (fun(i:Nat) (_:Shp)=>[(0,.yld 3 0),(1,.cptr [iv k,iv N,iv M,iv st,.list 1 (inR sz),.list 1 (inR bl),.list 1 (inR pl),.list 8 (aM ty)]),(2,.cptr [.list 3 (ofR of)]),(7,iv N),(8,iv i)]) (fun _ s=>lD s.es s.lo s.hi (.lp L (cP [iv k,iv N,iv M,iv st,.list 1 (inR sz),.list 1 (inR bl),.list 1 (inR pl),.list 8 (aM ty)] of cl) .ready none) []) (fun i s=>i≤N∧stB s∧eU of (bW f i 0) shp0=some s) (fun i _=>N - i) 0 shp0 ⟨Nat.zero_le _,vI,by rw[gD]; rfl⟩ ?_ ?_
 ·exact Sub.wl [2,1] [[(0,0)],[(1,0)],[(2,0)],[(3,0)],[(4,0)],[(5,0)]]
 rintro i s0 ⟨hi,hs0,hm0⟩
 refine c9 ?_
 refine AWP.condN (i < N) rfl rfl (fun h=>?_) (fun h=>?_)
 ·refine c9 ?_
  refine AWP.loop2 (fun(j:Nat) (_:Shp)=>[(0,.yld 3 0),(1,.cptr [iv k,iv N,iv M,iv st,.list 1 (inR sz),.list 1 (inR bl),.list 1 (inR pl),.list 8 (aM ty)]),(2,.cptr [.list 3 (ofR of)]),(4,iv i),(7,iv N),(8,iv i),(12,iv M),(13,iv j)]) (fun _ s=>lD s.es s.lo s.hi (.lp L (cP [iv k,iv N,iv M,iv st,.list 1 (inR sz),.list 1 (inR bl),.list 1 (inR pl),.list 8 (aM ty)] of cl) .ready none) []) (fun j s=>j≤M∧stB s∧eU of (bW f i j) shp0=some s) (fun j _=>M - j) 0 s0 ⟨Nat.zero_le _,hs0,hm0⟩ ?_ ?_
  ·exact Sub.wl [] [[(0,0)],[(1,0)],[(2,0)],[(3,0)],[(4,0)],[(5,0)]]
  rintro j s ⟨hj,hs,hm⟩
  refine c9 ?_
  refine AWP.condN (j < M) rfl rfl (fun h2=>?_) (fun h2=>?_)
  ·refine c9 ?_
   have hw1:=gG (a:=(i:Int)) (b:=st) (A:=4096) (B:=1048576) (by omega) (by omega) hs1 hs2
   have hw2:=gG (a:=(i:Int) * st+j) (b:=x.ext) (A:=4294971392) (B:=1048576) (by omega) (by omega) b5 b6
   refine AWP.dky 12 [(0,.yld 3 0),(1,.cptr [iv k,iv N,iv M,iv st,.list 1 (inR sz),.list 1 (inR bl),.list 1 (inR pl),.list 8 (aM ty)]),(2,.cptr [.list 3 (ofR of)]),(4,iv i),(7,iv N),(8,iv i),(12,iv M),(13,iv j),(16,.yld 3 0),(27,iv (((i:Int) * st+j) * x.ext))] (lD s.es s.lo s.hi (.lp L (cP [iv k,iv N,iv M,iv st,.list 1 (inR sz),.list 1 (inR bl),.list 1 (inR pl),.list 8 (aM ty)] of cl) .ready none) []) kW rfl rfl (by kernel_rfl) (by kernel_rfl) (by kernel_rfl) ?_ ?_
   ·refine aA ?_
    rw[Av.wrap_small (show -9223372036854775808≤(i:Int) * st by omega) (by omega)]
    refine aA ?_
    refine DK.nil ⟨by kernel_rfl,?_⟩
    (apply Sub.to [] [[(0,0)],[(1,0)],[(2,0)],[(3,0)],[(4,0)],[(5,0)]]; all_goals (repeat' (first | exact aT.nil | exact aK.nil | exact bN.nil | exact ToL.nil | exact ToR.nil | refine aT.cons ?_ ?_ | refine aK.cons ?_ ?_ | refine eJ ?_ ?_ | exact To.undef _ | exact To.sc _ | exact To.hslL rfl rfl | exact To.asl _ _ _ _ _ _ _ rfl | refine To.ifc _ _ _ ?_ | exact To.ptrO rfl rfl rfl | exact To.mrefO rfl | exact To.nil rfl rfl rfl | exact wt1 | exact To.nilL | refine To.int ?_ | refine To.bool ?_ | refine To.hslL rfl ?_ | refine wt2 rfl ?_ ?_ ?_ | refine To.tupL ?_ | refine To.aggL ?_ | refine To.cptrL ?_ | refine To.fzp rfl rfl rfl ?_ | refine To.fzm rfl rfl ?_ | refine To.cloL ?_ ?_ | refine wt3 ?_ | refine wt4 ?_ | exact wt5 | refine wt6 ?_ | refine ToB.one ?_ | exact wt7 | ((with_reducible apply ToL.consE); case e9=>rfl) | refine wt8 ?_ | refine ToL.cons ?_ ?_ | exact wt11 | refine wt9 ?_ ?_ | refine wt12 ?_ | exact .yld _ _ _ _ rfl | exact .dead _ | exact hlp _ _ _ _ rfl rfl rfl | exact hlp _ _ _ rfl rfl rfl | exact hlp _ _ _ rfl rfl | exact hlp _ _ _ rfl | (with_reducible rfl) | assumption)); all_goals (first | rfl | assumption | (simp; done) | (simp; omega) | (rw[wrap_small (by omega) (by omega)]; done) | (rw[wrap_small (by omega) (by omega)]; omega) | (refine congrArg Nat.cast ?_; assumption) | omega | (exact Av.wrap_small (by omega) (by omega)) | skip))
    all_goals first | exact hlp _ _ _ _ rfl rfl rfl | exact .yld _ _ _ _ rfl | (rw[Av.wrap_small (show -9223372036854775808≤(i:Int) * st+j by omega) (by omega),Av.wrap_small (by omega) (by omega)])
   ·refine⟨rfl,nlB rfl,3,0,rfl,?_⟩
    refine(oC (xs:=(List.range N).flatMap f) (k:=0) ht hc hL [] h0 hof hs (by omega) (by omega) hm ?_).mono ?_
    ·obtain⟨r,hr⟩:=lN (f:=f) (j:=j+1) h
     exact⟨r,by rw[hr,d8 (hfg i j h2)]; rfl⟩
    rintro b' H' (⟨rfl,s',hm',hs',rfl⟩ | ⟨rfl,hno,b2',b3',rfl⟩)
    ·refine aA ?_
     refine DK.nil ⟨by kernel_rfl,?_⟩
     refine aA ?_
     refine⟨j+1,s',⟨by omega,hs',by rw[d8 (hfg i j h2)]; exact hm'⟩,by omega,?_⟩
     exact Sub.wl [] [[(0,0)],[(1,0)],[(2,0)],[(3,0)],[(6,0)],[(5,0)]]
    ·refine aA ?_
     refine DK.nil ⟨by kernel_rfl,?_⟩
     refine aA ?_
     refine iW (res':=.tup []) (H2:=EV (.lp L (cP [iv k,iv N,iv M,iv st,.list 1 (inR sz),.list 1 (inR bl),.list 1 (inR pl),.list 8 (aM ty)] of cl) .done (some .ret))) [[(0,0)],[(1,0)],[(2,0)],[(3,0)]] (.inr rfl) rfl (.inr ⟨hno,rfl⟩) ?_ ?_ rfl rfl rfl
     (all_goals exact iD)
     all_goals first | exact hlp _ _ _ _ rfl rfl rfl | exact .yld _ _ _ _ rfl | exact .dead _
  ·obtain rfl:M=j:=by omega
   refine aA ?_
   refine⟨i+1,s,⟨by omega,hs,by rw[← fK (hfl i)]; exact hm⟩,by omega,?_⟩
   exact Sub.wl [] [[(0,0)],[(1,0)],[(2,0)],[(3,0)],[(4,0)],[(5,0)]]
 ·obtain rfl:N=i:=by omega
  rw[← gB] at hm0
  refine aA ?_
  refine iW (res':=.tup []) (H2:=putK s0.es s0.lo s0.hi (.lp L (cP [iv k,iv N,iv M,iv st,.list 1 (inR sz),.list 1 (inR bl),.list 1 (inR pl),.list 8 (aM ty)] of cl) .ready none)) [[(0,0)],[(1,0)],[(2,0)],[(3,0)],[(4,0)]] (.inl rfl) rfl (.inl ⟨s0,hm0,hs0,rfl⟩) ?_ ?_ rfl rfl rfl
  (all_goals exact iD)
  all_goals first | exact hlp _ _ _ _ rfl rfl rfl | exact .yld _ _ _ _ rfl | exact .dead _
variable {L:LC} {of:List Shp} {cl:AV} {k c b st:Int} {sz bl pl:List Int} {ty:List Ty}
set_option maxHeartbeats 1000000 in
theorem BD (hc:PV cl) (hL:LOK Tryz.prog F165.n L [28,29] (rfA iB) (rfB iB)) {x:Shp} (h0:of[0]?=some x) (hof:shB x) (hb:∀ n∈bl,0≤n∧n≤4096) (hp:∀ n∈pl,-mP≤n∧n≤mP) (hl:pl.length=bl.length) (hln:bl.length≤4096):
  aG Tryz.prog 207 [.yld 3 0,.cptr [iv k,iv c,iv b,iv st,.list 1 (inR sz),.list 1 (inR bl),.list 1 (inR pl),.list 8 (aM ty)],.cptr [.list 3 (ofR of)]] (E6 (.lp L (cP [iv k,iv c,iv b,iv st,.list 1 (inR sz),.list 1 (inR bl),.list 1 (inR pl),.list 8 (aM ty)] of cl) .ready none)) fun _ H'=>pQ L [iv k,iv c,iv b,iv st,.list 1 (inR sz),.list 1 (inR bl),.list 1 (inR pl),.list 8 (aM ty)] of cl (fW bl pl x.ext) H':=by
 have ht:PR [iv k,iv c,iv b,iv st,.list 1 (inR sz),.list 1 (inR bl),.list 1 (inR pl),.list 8 (aM ty)]:=⟨pr _⟩
 have hlp:∀(T:AV→AV→Prop) (ρ:Nat→Nat→Option (Nat×Nat)) (st':LoopState) (pe:Option Code),ρ 0 0=some (0,0)→ρ 1 0=some (1,0)→ρ 2 0=some (2,0)→ToB T ρ (.lp L (cP [iv k,iv c,iv b,iv st,.list 1 (inR sz),.list 1 (inR bl),.list 1 (inR pl),.list 8 (aM ty)] of cl) st' pe) (.lp L (cP [iv k,iv c,iv b,iv st,.list 1 (inR sz),.list 1 (inR bl),.list 1 (inR pl),.list 8 (aM ty)] of cl) st' pe):=fun T ρ st' pe=>pJ ht hc
 have hr0:eI (ofR of) ((0:Nat):Int)=some [.list 2 (enR x.es),iv x.lo,iv x.hi]:=by
  obtain⟨h,rfl⟩:=gEs.1 h0
  exact nQ of 0 h
 have hx:=hof
 obtain⟨b1,b2,b3,b4,b5,b6,_⟩:=hx
 unfold mP at b1 b2 b3 b4 b5 b6 hp
 have he:aB Tryz.prog 73 [.agg [.list 2 (enR x.es),iv x.lo,iv x.hi]] (iv x.ext):=eZ x (by omega) (by omega) (by omega) (by omega)
 obtain⟨N,hN⟩:∃ N,N=bl.length:=⟨_,rfl⟩
 obtain⟨f,hf⟩:∃ f:Nat→List (Int×Int),f=fun i:Nat=>(List.range (bl.getD i 0).toNat).map fun j:Nat=>(0,(pl.getD i 0+j) * x.ext):=⟨_,rfl⟩
 have hxs:fW bl pl x.ext=(List.range N).flatMap f:=by unfold fW; rw[hf,hN]
 have hbl:=bA bl
 rw[hxs]
 refine aG.of MZ ?_ (nlB rfl)
 refine aA ?_
 refine AWP.loop2 (fun(i:Nat) (_:Shp)=>[(0,.yld 3 0),(1,.cptr [iv k,iv c,iv b,iv st,.list 1 (inR sz),.list 1 (inR bl),.list 1 (inR pl),.list 8 (aM ty)]),(2,.cptr [.list 3 (ofR of)]),(8,.list 1 (inR bl)),(9,iv N),(10,iv i)]) (fun _ s=>lD s.es s.lo s.hi (.lp L (cP [iv k,iv c,iv b,iv st,.list 1 (inR sz),.list 1 (inR bl),.list 1 (inR pl),.list 8 (aM ty)] of cl) .ready none) []) (fun i s=>i≤N∧stB s∧eU of (bW f i 0) shp0=some s) (fun i _=>N - i) 0 shp0 ⟨Nat.zero_le _,vI,by rw[gD]; rfl⟩ ?_ ?_
 ·rw[hN,← hbl]
  exact Sub.wl [2,1] [[(0,0)],[(1,0)],[(2,0)],[(3,0)],[(4,0)],[(5,0)]]
 rintro i s0 ⟨hi,hs0,hm0⟩
 refine c9 ?_
 refine AWP.condN (i < N) rfl rfl (fun h=>?_) (fun h=>?_)
 ·have r1:=cS bl i (by omega)
  have r2:=cS pl i (by omega)
  have q1:=hb bl[i] (List.getElem_mem _)
  have q2:=hp pl[i] (List.getElem_mem _)
  have hfi:f i=(List.range bl[i].toNat).map fun j:Nat=>(0,(pl[i]+j) * x.ext):=by
   rw[hf]
   simp only[List.getD_eq_getElem?_getD,gEg (show i < bl.length by omega),gEg (show i < pl.length by omega),Option.getD_some]
  generalize bl[i]=n at *
  generalize pl[i]=p at *
  obtain⟨M,rfl⟩:∃ M:Nat,n=M:=⟨n.toNat,by omega⟩
  rw[Int.toNat_natCast] at hfi
  have hfl:(f i).length=M:=by rw[hfi]; simp
  have hfg:∀ j,j < M→(f i)[j]?=some (0,(p+j) * x.ext):=fun j hj=>by rw[hfi]; simp[hj]
  refine c9 ?_
  refine AWP.loop2 (fun(j:Nat) (_:Shp)=>[(0,.yld 3 0),(1,.cptr [iv k,iv c,iv b,iv st,.list 1 (inR sz),.list 1 (inR bl),.list 1 (inR pl),.list 8 (aM ty)]),(2,.cptr [.list 3 (ofR of)]),(4,iv i),(8,.list 1 (inR bl)),(9,iv N),(10,iv i),(15,iv M),(16,iv j)]) (fun _ s=>lD s.es s.lo s.hi (.lp L (cP [iv k,iv c,iv b,iv st,.list 1 (inR sz),.list 1 (inR bl),.list 1 (inR pl),.list 8 (aM ty)] of cl) .ready none) []) (fun j s=>j≤M∧stB s∧eU of (bW f i j) shp0=some s) (fun j _=>M - j) 0 s0 ⟨Nat.zero_le _,hs0,hm0⟩ ?_ ?_
  ·exact Sub.wl [] [[(0,0)],[(1,0)],[(2,0)],[(3,0)],[(4,0)],[(5,0)]]
  rintro j s ⟨hj,hs,hm⟩
  refine c9 ?_
  refine AWP.condN (j < M) rfl rfl (fun h2=>?_) (fun h2=>?_)
  ·refine c9 ?_
   have hw2:=gG (a:=p+j) (b:=x.ext) (A:=1052672) (B:=1048576) (by omega) (by omega) b5 b6
   refine AWP.dky 13 [(0,.yld 3 0),(1,.cptr [iv k,iv c,iv b,iv st,.list 1 (inR sz),.list 1 (inR bl),.list 1 (inR pl),.list 8 (aM ty)]),(2,.cptr [.list 3 (ofR of)]),(4,iv i),(8,.list 1 (inR bl)),(9,iv N),(10,iv i),(15,iv M),(16,iv j),(19,.yld 3 0),(31,iv ((p+j) * x.ext))] (lD s.es s.lo s.hi (.lp L (cP [iv k,iv c,iv b,iv st,.list 1 (inR sz),.list 1 (inR bl),.list 1 (inR pl),.list 8 (aM ty)] of cl) .ready none) []) kW rfl rfl (by kernel_rfl) (by kernel_rfl) (by kernel_rfl) ?_ ?_
   ·refine aA ?_
    refine DK.nil ⟨by kernel_rfl,?_⟩
    (apply Sub.to [] [[(0,0)],[(1,0)],[(2,0)],[(3,0)],[(4,0)],[(5,0)]]; all_goals (repeat' (first | exact aT.nil | exact aK.nil | exact bN.nil | exact ToL.nil | exact ToR.nil | refine aT.cons ?_ ?_ | refine aK.cons ?_ ?_ | refine eJ ?_ ?_ | exact To.undef _ | exact To.sc _ | exact To.hslL rfl rfl | exact To.asl _ _ _ _ _ _ _ rfl | refine To.ifc _ _ _ ?_ | exact To.ptrO rfl rfl rfl | exact To.mrefO rfl | exact To.nil rfl rfl rfl | exact wt1 | exact To.nilL | refine To.int ?_ | refine To.bool ?_ | refine To.hslL rfl ?_ | refine wt2 rfl ?_ ?_ ?_ | refine To.tupL ?_ | refine To.aggL ?_ | refine To.cptrL ?_ | refine To.fzp rfl rfl rfl ?_ | refine To.fzm rfl rfl ?_ | refine To.cloL ?_ ?_ | refine wt3 ?_ | refine wt4 ?_ | exact wt5 | refine wt6 ?_ | refine ToB.one ?_ | exact wt7 | ((with_reducible apply ToL.consE); case e9=>rfl) | refine wt8 ?_ | refine ToL.cons ?_ ?_ | exact wt11 | refine wt9 ?_ ?_ | refine wt12 ?_ | exact .yld _ _ _ _ rfl | exact .dead _ | exact hlp _ _ _ _ rfl rfl rfl | exact hlp _ _ _ rfl rfl rfl | exact hlp _ _ _ rfl rfl | exact hlp _ _ _ rfl | (with_reducible rfl) | assumption)); all_goals (first | rfl | assumption | (simp; done) | (simp; omega) | (rw[wrap_small (by omega) (by omega)]; done) | (rw[wrap_small (by omega) (by omega)]; omega) | (refine congrArg Nat.cast ?_; assumption) | omega | (exact Av.wrap_small (by omega) (by omega)) | skip))
    all_goals first | exact hlp _ _ _ _ rfl rfl rfl | exact .yld _ _ _ _ rfl | (rw[Av.wrap_small (show -9223372036854775808≤p+(j:Int) by omega) (by omega),Av.wrap_small (by omega) (by omega)])
   ·refine⟨rfl,nlB rfl,3,0,rfl,?_⟩
    refine(oC (xs:=(List.range N).flatMap f) (k:=0) ht hc hL [] h0 hof hs (by omega) (by omega) hm ?_).mono ?_
    ·obtain⟨r,hr⟩:=lN (f:=f) (j:=j+1) h
     exact⟨r,by rw[hr,d8 (hfg j h2)]; rfl⟩
    rintro b' H' (⟨rfl,s',hm',hs',rfl⟩ | ⟨rfl,hno,b2',b3',rfl⟩)
    ·refine aA ?_
     refine DK.nil ⟨by kernel_rfl,?_⟩
     refine aA ?_
     refine⟨j+1,s',⟨by omega,hs',by rw[d8 (hfg j h2)]; exact hm'⟩,by omega,?_⟩
     exact Sub.wl [] [[(0,0)],[(1,0)],[(2,0)],[(3,0)],[(6,0)],[(5,0)]]
    ·refine aA ?_
     refine DK.nil ⟨by kernel_rfl,?_⟩
     refine aA ?_
     refine iW (res':=.tup []) (H2:=EV (.lp L (cP [iv k,iv c,iv b,iv st,.list 1 (inR sz),.list 1 (inR bl),.list 1 (inR pl),.list 8 (aM ty)] of cl) .done (some .ret))) [[(0,0)],[(1,0)],[(2,0)],[(3,0)]] (.inr rfl) rfl (.inr ⟨hno,rfl⟩) ?_ ?_ rfl rfl rfl
     (all_goals exact iD)
     all_goals first | exact hlp _ _ _ _ rfl rfl rfl | exact .yld _ _ _ _ rfl | exact .dead _
  ·obtain rfl:M=j:=by omega
   refine aA ?_
   refine⟨i+1,s,⟨by omega,hs,by rw[← fK hfl]; exact hm⟩,by omega,?_⟩
   exact Sub.wl [] [[(0,0)],[(1,0)],[(2,0)],[(3,0)],[(4,0)],[(5,0)]]
 ·obtain rfl:N=i:=by omega
  rw[← gB] at hm0
  refine aA ?_
  refine iW (res':=.tup []) (H2:=putK s0.es s0.lo s0.hi (.lp L (cP [iv k,iv c,iv b,iv st,.list 1 (inR sz),.list 1 (inR bl),.list 1 (inR pl),.list 8 (aM ty)] of cl) .ready none)) [[(0,0)],[(1,0)],[(2,0)],[(3,0)],[(4,0)]] (.inl rfl) rfl (.inl ⟨s0,hm0,hs0,rfl⟩) ?_ ?_ rfl rfl rfl
  (all_goals exact iD)
  all_goals first | exact hlp _ _ _ _ rfl rfl rfl | exact .yld _ _ _ _ rfl | exact .dead _
variable {L:LC} {of:List Shp} {cl:AV} {k c b st:Int} {sz bl pl:List Int} {ty:List Ty}
set_option maxHeartbeats 1000000 in
theorem uO (hc:PV cl) (hL:LOK Tryz.prog F165.n L [28,29] (rfA iB) (rfB iB)) (hof:∀ x∈of,shB x) (hlo:of.length=bl.length) (hb:∀ n∈bl,0≤n∧n≤4096) (hp:∀ n∈pl,-mP≤n∧n≤mP) (hl:pl.length=bl.length) (hln:bl.length≤4096):
  aG Tryz.prog 208 [.yld 3 0,.cptr [iv k,iv c,iv b,iv st,.list 1 (inR sz),.list 1 (inR bl),.list 1 (inR pl),.list 8 (aM ty)],.cptr [.list 3 (ofR of)]] (E6 (.lp L (cP [iv k,iv c,iv b,iv st,.list 1 (inR sz),.list 1 (inR bl),.list 1 (inR pl),.list 8 (aM ty)] of cl) .ready none)) fun _ H'=>pQ L [iv k,iv c,iv b,iv st,.list 1 (inR sz),.list 1 (inR bl),.list 1 (inR pl),.list 8 (aM ty)] of cl (jV bl pl of) H':=by
 have ht:PR [iv k,iv c,iv b,iv st,.list 1 (inR sz),.list 1 (inR bl),.list 1 (inR pl),.list 8 (aM ty)]:=⟨pr _⟩
 have hlp:∀(T:AV→AV→Prop) (ρ:Nat→Nat→Option (Nat×Nat)) (st':LoopState) (pe:Option Code),ρ 0 0=some (0,0)→ρ 1 0=some (1,0)→ρ 2 0=some (2,0)→ToB T ρ (.lp L (cP [iv k,iv c,iv b,iv st,.list 1 (inR sz),.list 1 (inR bl),.list 1 (inR pl),.list 8 (aM ty)] of cl) st' pe) (.lp L (cP [iv k,iv c,iv b,iv st,.list 1 (inR sz),.list 1 (inR bl),.list 1 (inR pl),.list 8 (aM ty)] of cl) st' pe):=fun T ρ st' pe=>pJ ht hc
 unfold mP at hp
 obtain⟨N,hN⟩:∃ N,N=bl.length:=⟨_,rfl⟩
 obtain⟨f,hf⟩:∃ f:Nat→List (Int×Int),f=fun i:Nat=>(List.range (bl.getD i 0).toNat).map fun j:Nat=>((i:Int),pl.getD i 0+j * (of.getD i shp0).ext):=⟨_,rfl⟩
 have hxs:jV bl pl of=(List.range N).flatMap f:=by unfold jV; rw[hf,hN]
 have hbl:=bA bl
 rw[hxs]
 refine aG.of MX ?_ (nlB rfl)
 refine aA ?_
 refine AWP.loop2 (fun(i:Nat) (_:Shp)=>[(0,.yld 3 0),(1,.cptr [iv k,iv c,iv b,iv st,.list 1 (inR sz),.list 1 (inR bl),.list 1 (inR pl),.list 8 (aM ty)]),(2,.cptr [.list 3 (ofR of)]),(8,.list 1 (inR bl)),(9,iv N),(10,iv i)]) (fun _ s=>lD s.es s.lo s.hi (.lp L (cP [iv k,iv c,iv b,iv st,.list 1 (inR sz),.list 1 (inR bl),.list 1 (inR pl),.list 8 (aM ty)] of cl) .ready none) []) (fun i s=>i≤N∧stB s∧eU of (bW f i 0) shp0=some s) (fun i _=>N - i) 0 shp0 ⟨Nat.zero_le _,vI,by rw[gD]; rfl⟩ ?_ ?_
 ·rw[hN,← hbl]
  exact Sub.wl [2,1] [[(0,0)],[(1,0)],[(2,0)],[(3,0)],[(4,0)],[(5,0)]]
 rintro i s0 ⟨hi,hs0,hm0⟩
 refine c9 ?_
 refine AWP.condN (i < N) rfl rfl (fun h=>?_) (fun h=>?_)
 ·have r1:=cS bl i (by omega)
  have r2:=cS pl i (by omega)
  have q1:=hb bl[i] (List.getElem_mem _)
  have q2:=hp pl[i] (List.getElem_mem _)
  have hr0:=nQ of i (by omega)
  have hx:=hof of[i] (List.getElem_mem _)
  have h0:of[i]?=some of[i]:=gEg (by omega)
  have hfi:f i=(List.range bl[i].toNat).map fun j:Nat=>((i:Int),pl[i]+j * of[i].ext):=by
   rw[hf]
   simp only[List.getD_eq_getElem?_getD,gEg (show i < bl.length by omega),gEg (show i < pl.length by omega),gEg (show i < of.length by omega),Option.getD_some]
  generalize of[i]=x at *
  have hsx:=hx
  obtain⟨b1,b2,b3,b4,b5,b6,_⟩:=hx
  unfold mP at b1 b2 b3 b4 b5 b6
  have he:aB Tryz.prog 73 [.agg [.list 2 (enR x.es),iv x.lo,iv x.hi]] (iv x.ext):=eZ x (by omega) (by omega) (by omega) (by omega)
  generalize bl[i]=n at *
  generalize pl[i]=p at *
  obtain⟨M,rfl⟩:∃ M:Nat,n=M:=⟨n.toNat,by omega⟩
  rw[Int.toNat_natCast] at hfi
  have hfl:(f i).length=M:=by rw[hfi]; simp
  have hfg:∀ j,j < M→(f i)[j]?=some ((i:Int),p+j * x.ext):=fun j hj=>by rw[hfi]; simp[hj]
  refine c9 ?_
  refine AWP.loop2 (fun(j:Nat) (_:Shp)=>[(0,.yld 3 0),(1,.cptr [iv k,iv c,iv b,iv st,.list 1 (inR sz),.list 1 (inR bl),.list 1 (inR pl),.list 8 (aM ty)]),(2,.cptr [.list 3 (ofR of)]),(4,iv i),(8,.list 1 (inR bl)),(9,iv N),(10,iv i),(15,iv M),(16,iv j)]) (fun _ s=>lD s.es s.lo s.hi (.lp L (cP [iv k,iv c,iv b,iv st,.list 1 (inR sz),.list 1 (inR bl),.list 1 (inR pl),.list 8 (aM ty)] of cl) .ready none) []) (fun j s=>j≤M∧stB s∧eU of (bW f i j) shp0=some s) (fun j _=>M - j) 0 s0 ⟨Nat.zero_le _,hs0,hm0⟩ ?_ ?_
  ·exact Sub.wl [] [[(0,0)],[(1,0)],[(2,0)],[(3,0)],[(4,0)],[(5,0)]]
  rintro j s ⟨hj,hs,hm⟩
  refine c9 ?_
  refine AWP.condN (j < M) rfl rfl (fun h2=>?_) (fun h2=>?_)
  ·refine c9 ?_
   have hw2:=gG (a:=(j:Int)) (b:=x.ext) (A:=4096) (B:=1048576) (by omega) (by omega) b5 b6
   refine AWP.dky 15 [(0,.yld 3 0),(1,.cptr [iv k,iv c,iv b,iv st,.list 1 (inR sz),.list 1 (inR bl),.list 1 (inR pl),.list 8 (aM ty)]),(2,.cptr [.list 3 (ofR of)]),(4,iv i),(8,.list 1 (inR bl)),(9,iv N),(10,iv i),(15,iv M),(16,iv j),(19,.yld 3 0),(20,iv i),(33,iv (p+j * x.ext))] (lD s.es s.lo s.hi (.lp L (cP [iv k,iv c,iv b,iv st,.list 1 (inR sz),.list 1 (inR bl),.list 1 (inR pl),.list 8 (aM ty)] of cl) .ready none) []) kW rfl rfl (by kernel_rfl) (by kernel_rfl) (by kernel_rfl) ?_ ?_
   ·refine aA ?_
    refine DK.nil ⟨by kernel_rfl,?_⟩
    (apply Sub.to [] [[(0,0)],[(1,0)],[(2,0)],[(3,0)],[(4,0)],[(5,0)]]; all_goals (repeat' (first | exact aT.nil | exact aK.nil | exact bN.nil | exact ToL.nil | exact ToR.nil | refine aT.cons ?_ ?_ | refine aK.cons ?_ ?_ | refine eJ ?_ ?_ | exact To.undef _ | exact To.sc _ | exact To.hslL rfl rfl | exact To.asl _ _ _ _ _ _ _ rfl | refine To.ifc _ _ _ ?_ | exact To.ptrO rfl rfl rfl | exact To.mrefO rfl | exact To.nil rfl rfl rfl | exact wt1 | exact To.nilL | refine To.int ?_ | refine To.bool ?_ | refine To.hslL rfl ?_ | refine wt2 rfl ?_ ?_ ?_ | refine To.tupL ?_ | refine To.aggL ?_ | refine To.cptrL ?_ | refine To.fzp rfl rfl rfl ?_ | refine To.fzm rfl rfl ?_ | refine To.cloL ?_ ?_ | refine wt3 ?_ | refine wt4 ?_ | exact wt5 | refine wt6 ?_ | refine ToB.one ?_ | exact wt7 | ((with_reducible apply ToL.consE); case e9=>rfl) | refine wt8 ?_ | refine ToL.cons ?_ ?_ | exact wt11 | refine wt9 ?_ ?_ | refine wt12 ?_ | exact .yld _ _ _ _ rfl | exact .dead _ | exact hlp _ _ _ _ rfl rfl rfl | exact hlp _ _ _ rfl rfl rfl | exact hlp _ _ _ rfl rfl | exact hlp _ _ _ rfl | (with_reducible rfl) | assumption)); all_goals (first | rfl | assumption | (simp; done) | (simp; omega) | (rw[wrap_small (by omega) (by omega)]; done) | (rw[wrap_small (by omega) (by omega)]; omega) | (refine congrArg Nat.cast ?_; assumption) | omega | (exact Av.wrap_small (by omega) (by omega)) | skip))
    all_goals first | exact hlp _ _ _ _ rfl rfl rfl | exact .yld _ _ _ _ rfl | (rw[Av.wrap_small (show -9223372036854775808≤(j:Int) * x.ext by omega) (by omega),Av.wrap_small (by omega) (by omega)])
   ·refine⟨rfl,nlB rfl,3,0,rfl,?_⟩
    refine(oC (xs:=(List.range N).flatMap f) (k:=i) ht hc hL [] h0 hsx hs (by omega) (by omega) hm ?_).mono ?_
    ·obtain⟨r,hr⟩:=lN (f:=f) (j:=j+1) h
     exact⟨r,by rw[hr,d8 (hfg j h2)]⟩
    rintro b' H' (⟨rfl,s',hm',hs',rfl⟩ | ⟨rfl,hno,b2',b3',rfl⟩)
    ·refine aA ?_
     refine DK.nil ⟨by kernel_rfl,?_⟩
     refine aA ?_
     refine⟨j+1,s',⟨by omega,hs',by rw[d8 (hfg j h2)]; exact hm'⟩,by omega,?_⟩
     exact Sub.wl [] [[(0,0)],[(1,0)],[(2,0)],[(3,0)],[(6,0)],[(5,0)]]
    ·refine aA ?_
     refine DK.nil ⟨by kernel_rfl,?_⟩
     refine aA ?_
     refine iW (res':=.tup []) (H2:=EV (.lp L (cP [iv k,iv c,iv b,iv st,.list 1 (inR sz),.list 1 (inR bl),.list 1 (inR pl),.list 8 (aM ty)] of cl) .done (some .ret))) [[(0,0)],[(1,0)],[(2,0)],[(3,0)]] (.inr rfl) rfl (.inr ⟨hno,rfl⟩) ?_ ?_ rfl rfl rfl
     (all_goals exact iD)
     all_goals first | exact hlp _ _ _ _ rfl rfl rfl | exact .yld _ _ _ _ rfl | exact .dead _
  ·obtain rfl:M=j:=by omega
   refine aA ?_
   refine⟨i+1,s,⟨by omega,hs,by rw[← fK hfl]; exact hm⟩,by omega,?_⟩
   exact Sub.wl [] [[(0,0)],[(1,0)],[(2,0)],[(3,0)],[(4,0)],[(5,0)]]
 ·obtain rfl:N=i:=by omega
  rw[← gB] at hm0
  refine aA ?_
  refine iW (res':=.tup []) (H2:=putK s0.es s0.lo s0.hi (.lp L (cP [iv k,iv c,iv b,iv st,.list 1 (inR sz),.list 1 (inR bl),.list 1 (inR pl),.list 8 (aM ty)] of cl) .ready none)) [[(0,0)],[(1,0)],[(2,0)],[(3,0)],[(4,0)]] (.inl rfl) rfl (.inl ⟨s0,hm0,hs0,rfl⟩) ?_ ?_ rfl rfl rfl
  (all_goals exact iD)
  all_goals first | exact hlp _ _ _ _ rfl rfl rfl | exact .yld _ _ _ _ rfl | exact .dead _
variable {L:LC} {of:List Shp} {cl:AV} {k c b st:Int} {sz bl pl:List Int} {ty:List Ty}
def atI (a:List Nat):List Int:=a.map fun n:Nat=>(n:Int)
theorem CJ (a:List Nat):(inR (atI a)).length=a.length:=by simp[inR,atI]
theorem C4 {a:List Nat} {k:Nat} (h:k < a.length):(inR (atI a))[k]?=some [iv (a.getD k 0:Nat)]:=by simp[inR,atI,h]
theorem DA {a:List Nat} {k:Nat} {v:Nat}:(inR (atI a)).set k [iv v]=inR (atI (a.set k v)):=by
 unfold inR atI
 rw[List.map_set,List.map_set]
theorem EA (n:Nat):List.replicate n (eM [(1,Value.int .i64 0)])=inR (atI (List.replicate n 0)):=by
 unfold inR atI
 rw[List.map_replicate,List.map_replicate]
 rfl
theorem EQ {g i:Nat} {fr:Fr} {H:Heap} {sz bytes n:Nat} {z:List (Nat×Value)} {l:Operand} (hx:ev fr l=.sc (.int .i64 (n:Nat))) (hb:bytes * n≤70368744177664) (hn:n≤1073741824):
  aE g i (.makeSlice sz bytes z l) fr H=some (.hsl g i 0 n,aP H g i (.cells sz (List.replicate n (eM z)))):=by
 have e:(Nat.ble (bytes * n) 70368744177664 && Nat.ble n 1073741824)=true:=by rw[Nat.ble_eq_true_of_le hb,Nat.ble_eq_true_of_le hn]; rfl
 simp only[aE,hx]
 show(match Nat.ble (bytes * n) 70368744177664 && Nat.ble n 1073741824 with
  | true=>_
  | false=>_)=_
 rw[e]
def gI (sz pl:List Int) (a:List Nat) (k:Nat):Int:=(List.range k).foldl (fun n k=>min (n * sz.getD k 0+pl.getD k 0+(a.getD k 0:Nat)) huge) 0
theorem l9 {sz pl:List Int} {a:List Nat} {k:Nat}:gI sz pl a (k+1)=min (gI sz pl a k * sz.getD k 0+pl.getD k 0+(a.getD k 0:Nat)) huge:=by
 unfold gI
 rw[List.range_succ,List.foldl_append]
 rfl
set_option maxHeartbeats 1000000 in
theorem zY (hc:PV cl) (hL:LOK Tryz.prog F165.n L [28,29] (rfA iB) (rfB iB)) {x:Shp} (h0:of[0]?=some x) (hof:shB x) {n:Nat} (hn:n≤4) (hsz:sz.length=n) (hbl:bl.length=n) (hpl:pl.length=n) (hsub:uK sz bl pl=true):
  aG Tryz.prog 209 [.yld 3 0,.cptr [iv k,iv c,iv b,iv st,.list 1 (inR sz),.list 1 (inR bl),.list 1 (inR pl),.list 8 (aM ty)],.cptr [.list 3 (ofR of)]] (E6 (.lp L (cP [iv k,iv c,iv b,iv st,.list 1 (inR sz),.list 1 (inR bl),.list 1 (inR pl),.list 8 (aM ty)] of cl) .ready none)) fun _ H'=>pQ L [iv k,iv c,iv b,iv st,.list 1 (inR sz),.list 1 (inR bl),.list 1 (inR pl),.list 8 (aM ty)] of cl (fT sz bl pl x.ext) H':=by
 have ht:PR [iv k,iv c,iv b,iv st,.list 1 (inR sz),.list 1 (inR bl),.list 1 (inR pl),.list 8 (aM ty)]:=⟨pr _⟩
 have hlp:∀(T:AV→AV→Prop) (ρ:Nat→Nat→Option (Nat×Nat)) (st':LoopState) (pe:Option Code),ρ 0 0=some (0,0)→ρ 1 0=some (1,0)→ρ 2 0=some (2,0)→ToB T ρ (.lp L (cP [iv k,iv c,iv b,iv st,.list 1 (inR sz),.list 1 (inR bl),.list 1 (inR pl),.list 8 (aM ty)] of cl) st' pe) (.lp L (cP [iv k,iv c,iv b,iv st,.list 1 (inR sz),.list 1 (inR bl),.list 1 (inR pl),.list 8 (aM ty)] of cl) st' pe):=fun T ρ st' pe=>pJ ht hc
 have hr0:eI (ofR of) ((0:Nat):Int)=some [.list 2 (enR x.es),iv x.lo,iv x.hi]:=by
  obtain⟨h,rfl⟩:=gEs.1 h0
  exact nQ of 0 h
 have hx:=hof
 obtain⟨b1,b2,b3,b4,b5,b6,_⟩:=hx
 unfold mP at b1 b2 b3 b4 b5 b6
 have he:aB Tryz.prog 73 [.agg [.list 2 (enR x.es),iv x.lo,iv x.hi]] (iv x.ext):=eZ x (by omega) (by omega) (by omega) (by omega)
 have hbs:∀ i,i < n→1≤sz.getD i 0∧sz.getD i 0≤4096∧1≤bl.getD i 0∧bl.getD i 0≤sz.getD i 0∧0≤pl.getD i 0∧pl.getD i 0≤4096:=fun i hi=>by
  have:=List.all_eq_true.1 hsub i (List.mem_range.2 (by omega))
  simp only[aH,Bool.and_eq_true,decide_eq_true_eq] at this
  omega
 have hsl:=bA sz
 have hlin:∀(a:List Nat) k,k≤n→0≤gI sz pl a k∧gI sz pl a k≤huge:=fun a k=>by
  induction k with
  | zero=>exact fun _=>⟨by simp[gI],by simp[gI,huge]⟩
  | succ k ih=>
   intro hk
   obtain⟨i1,i2⟩:=ih (by omega)
   obtain⟨g1,g2,_,_,g5,_⟩:=hbs k (by omega)
   have:=Int.mul_nonneg i1 (show 0≤sz.getD k 0 by omega)
   rw[l9]
   unfold huge at *
   omega
 have hlS:∀ a,rH sz pl a=gI sz pl a n:=fun a=>by unfold rH gI; rw[hsz]
 have hxs:fT sz bl pl x.ext=dI sz bl pl x.ext (prS bl n) (List.replicate n 0):=by
  unfold fT
  rw[hsz,← hbl,← lS (Nat.le_refl _),List.take_length]
 rw[hxs]
 refine aG.of MB ?_ (nlB rfl)
 refine aA ?_
 rw[hsl,hsz]
 refine Reg.o rfl (EQ rfl (by omega) (by omega)) ?_
 refine aA ?_
 refine AWP.loop2 (fun(_:List Nat) (_:Shp)=>[(0,.yld 3 0),(1,.cptr [iv k,iv c,iv b,iv st,.list 1 (inR sz),.list 1 (inR bl),.list 1 (inR pl),.list 8 (aM ty)]),(2,.cptr [.list 3 (ofR of)]),(4,.hsl 5 0 0 n)]) (fun a s=>lD s.es s.lo s.hi (.lp L (cP [iv k,iv c,iv b,iv st,.list 1 (inR sz),.list 1 (inR bl),.list 1 (inR pl),.list 8 (aM ty)] of cl) .ready none) (atI a)) (fun a s=>a.length=n∧okD bl n a∧stB s∧∃ p,eU of p shp0=some s∧dI sz bl pl x.ext (prS bl n) (List.replicate n 0)=p++dI sz bl pl x.ext (prS bl n - rkS bl a n) a) (fun a _=>prS bl n - rkS bl a n) (List.replicate n 0) shp0 ⟨List.length_replicate,fun i hi=>?_,vI,[],rfl,by rw[rZ]; rfl⟩ ?_ ?_
 ·have:=(hbs i hi).2.2.1
  rw[show(List.replicate n 0).getD i 0=0 by simp[List.getD_eq_getElem?_getD,hi]]
  omega
 ·rw[EA]
  exact Sub.wl [2] [[(0,0)],[(1,0)],[(2,0)],[(3,0)],[(5,0)],[(4,0)]]
 rintro a s0 ⟨hla,hoa,hs0,p,hp,hall⟩
 have hrk:=z0 hoa
 obtain⟨F,hF⟩:∃ F,prS bl n - rkS bl a n=F+1:=⟨prS bl n - rkS bl a n - 1,by omega⟩
 rw[hF] at hall ⊢
 refine aA ?_
 have hal:=CJ a
 refine AWP.loop (fun q:Nat=>[(0,.yld 3 0),(1,.cptr [iv k,iv c,iv b,iv st,.list 1 (inR sz),.list 1 (inR bl),.list 1 (inR pl),.list 8 (aM ty)]),(2,.cptr [.list 3 (ofR of)]),(4,.hsl 5 0 0 n),(5,iv (gI sz pl a q)),(14,.list 1 (inR sz)),(15,iv n),(16,iv q)]) (fun _=>lD s0.es s0.lo s0.hi (.lp L (cP [iv k,iv c,iv b,iv st,.list 1 (inR sz),.list 1 (inR bl),.list 1 (inR pl),.list 8 (aM ty)] of cl) .ready none) (atI a)) (fun q=>q≤n) (fun q=>n - q) 0 (Nat.zero_le _) ?_ ?_
 ·rw[← hsz,← hsl]
  exact Sub.wl [] [[(0,0)],[(1,0)],[(2,0)],[(3,0)],[(4,0)],[(5,0)]]
 ·rintro q hq
  refine aA ?_
  refine AWP.condN (q < n) rfl rfl (fun h=>?_) (fun h=>?_)
  ·have r1:=cS sz q (by omega)
   have r3:=cS pl q (by omega)
   have r2:=C4 (a:=a) (k:=q) (by omega)
   have e1:sz.getD q 0=sz[q]:=by simp[show q < sz.length by omega]
   have e3:pl.getD q 0=pl[q]:=by simp[show q < pl.length by omega]
   rw[← e1] at r1
   rw[← e3] at r3
   have hl1:=hlin a q hq
   have hl2:gI sz pl a (q+1)=_:=l9
   obtain⟨g1,g2,g3,g4,g5,g6⟩:=hbs q h
   have g7:=hoa q h
   generalize gI sz pl a q=u at *
   generalize sz.getD q 0=z at *
   generalize pl.getD q 0=pq at *
   generalize a.getD q 0=aq at *
   unfold huge at hl1 hl2
   have hw:=gG (a:=u) (b:=z) (A:=1099511627776) (B:=4096) (by omega) (by omega) (by omega) (by omega)
   refine aA ?_
   rw[Av.wrap_small (show -9223372036854775808≤u * z by omega) (by omega),Av.wrap_small (show -9223372036854775808≤u * z+pq by omega) (by omega),Av.wrap_small (show -9223372036854775808≤u * z+pq+(aq:Nat) by omega) (by omega)]
   refine DK.nil ⟨by kernel_rfl,?_⟩
   refine aA ?_
   refine⟨q+1,by omega,by omega,?_⟩
   (apply Sub.to [] [[(0,0)],[(1,0)],[(2,0)],[(3,0)],[(4,0)],[(5,0)]]; all_goals (repeat' (first | exact aT.nil | exact aK.nil | exact bN.nil | exact ToL.nil | exact ToR.nil | refine aT.cons ?_ ?_ | refine aK.cons ?_ ?_ | refine eJ ?_ ?_ | exact To.undef _ | exact To.sc _ | exact To.hslL rfl rfl | exact To.asl _ _ _ _ _ _ _ rfl | refine To.ifc _ _ _ ?_ | exact To.ptrO rfl rfl rfl | exact To.mrefO rfl | exact To.nil rfl rfl rfl | exact wt1 | exact To.nilL | refine To.int ?_ | refine To.bool ?_ | refine To.hslL rfl ?_ | refine wt2 rfl ?_ ?_ ?_ | refine To.tupL ?_ | refine To.aggL ?_ | refine To.cptrL ?_ | refine To.fzp rfl rfl rfl ?_ | refine To.fzm rfl rfl ?_ | refine To.cloL ?_ ?_ | refine wt3 ?_ | refine wt4 ?_ | exact wt5 | refine wt6 ?_ | refine ToB.one ?_ | exact wt7 | ((with_reducible apply ToL.consE); case e9=>rfl) | refine wt8 ?_ | refine ToL.cons ?_ ?_ | exact wt11 | refine wt9 ?_ ?_ | refine wt12 ?_ | exact .yld _ _ _ _ rfl | exact .dead _ | exact hlp _ _ _ _ rfl rfl rfl | exact hlp _ _ _ rfl rfl rfl | exact hlp _ _ _ rfl rfl | exact hlp _ _ _ rfl | (with_reducible rfl) | assumption)); all_goals (first | rfl | assumption | (simp; done) | (simp; omega) | (rw[wrap_small (by omega) (by omega)]; done) | (rw[wrap_small (by omega) (by omega)]; omega) | (refine congrArg Nat.cast ?_; assumption) | omega | (exact Av.wrap_small (by omega) (by omega)) | skip))
   all_goals first | exact hlp _ _ _ _ rfl rfl rfl | exact .yld _ _ _ _ rfl | (rw[hl2]; omega)
  ·obtain rfl:n=q:=by omega
   have hl1:=hlin a n (Nat.le_refl _)
   rw[← hlS] at hl1 ⊢
   have hxs:dI sz bl pl x.ext (F+1) a=(0,rH sz pl a * x.ext)::match iE bl n a with
    | some b=>dI sz bl pl x.ext F b
    | none=>[]:=by
    rw[dI,hsz]
    cases iE bl n a<;>rfl
   generalize rH sz pl a=u at *
   unfold huge at hl1
   have hw:=gG (a:=u) (b:=x.ext) (A:=1099511627776) (B:=1048576) (by omega) (by omega) b5 b6
   rw[hxs] at hall
   have hinc:=o7 n a (Nat.le_refl _) hla hoa
   generalize hxa:dI sz bl pl x.ext (prS bl n) (List.replicate n 0)=xs at *
   refine AWP.exit ?_
   refine AWP.seq ?_
   refine AWP.seq ?_
   refine AWP.rG rfl ?_
   refine aA ?_
   rw[Av.wrap_small (show -9223372036854775808≤u * x.ext by omega) (by omega)]
   refine⟨rfl,nlB rfl,3,0,rfl,?_⟩
   refine(oC (xs:=xs) (k:=0) ht hc hL (atI a) h0 hof hs0 (by omega) (by omega) hp ⟨_,by rw[hall,List.append_assoc]; rfl⟩).mono ?_
   rintro b' H' (⟨rfl,s',hm',hs',rfl⟩ | ⟨rfl,hno,b2',b3',rfl⟩)
   ·refine aA ?_
    refine AWP.loop2 (fun(kk:Nat) (_:List Nat)=>[(0,.yld 3 0),(1,.cptr [iv k,iv c,iv b,iv st,.list 1 (inR sz),.list 1 (inR bl),.list 1 (inR pl),.list 8 (aM ty)]),(2,.cptr [.list 3 (ofR of)]),(4,.hsl 5 0 0 n),(8,iv ((kk:Int) - 1))]) (fun _ a2=>lD s'.es s'.lo s'.hi (.lp L (cP [iv k,iv c,iv b,iv st,.list 1 (inR sz),.list 1 (inR bl),.list 1 (inR pl),.list 8 (aM ty)] of cl) .ready none) (atI a2)) (fun kk a2=>kk≤n∧a2.length=n∧okD bl kk a2∧iE bl kk a2=iE bl n a) (fun kk _=>kk) n a ⟨Nat.le_refl _,hla,hoa,rfl⟩ ?_ ?_
    ·exact Sub.wl [] [[(0,0)],[(1,0)],[(2,0)],[(3,0)],[(6,0)],[(5,0)]]
    rintro kk a2 ⟨hk,hl2,ho2,hi2⟩
    refine aA ?_
    refine AWP.condN (0 < kk) rfl (by simp; omega) (fun h5=>?_) (fun h5=>?_)
    ·obtain⟨q,rfl⟩:∃ q,kk=q+1:=⟨kk - 1,by omega⟩
     rw[show((q+1:Nat):Int) - 1=(q:Int) by omega]
     have r1:=cS bl q (by omega)
     have e1:bl.getD q 0=bl[q]:=by simp[show q < bl.length by omega]
     rw[← e1] at r1
     have r2:=C4 (a:=a2) (k:=q) (by omega)
     have hg:=hbs q (by omega)
     have hoq:=ho2 q (by omega)
     rw[iE] at hi2
     have hal2:=CJ a2
     refine aA ?_
     refine DK.o rfl (l5 rfl rfl (List.getElem?_set_self (by rw[hal2]; omega)) rfl) ?_
     refine aA ?_
     refine DK.nil ⟨by kernel_rfl,?_⟩
     refine aA ?_
     refine AWP.condN (((a2.getD q 0:Nat):Int)+1 < bl.getD q 0) rfl (by simp) (fun h6=>?_) (fun h6=>?_)
     ·rw[if_pos h6] at hi2
      rw[← hi2] at hinc hall
      obtain⟨i1,i2,i3,i4⟩:=hinc
      have hlt:=z0 i3
      refine aA ?_
      refine⟨a2.set q (a2.getD q 0+1),s',⟨i1,i3,hs',p++[(0,u * x.ext)],hm',by rw[hall,List.append_assoc,show prS bl n - rkS bl (a2.set q (a2.getD q 0+1)) n=F by omega]; rfl⟩,by omega,?_⟩
      (apply Sub.to [] [[(0,0)],[(1,0)],[(2,0)],[(3,0)],[(4,0)],[(5,0)]]; all_goals (repeat' (first | exact aT.nil | exact aK.nil | exact bN.nil | exact ToL.nil | exact ToR.nil | refine aT.cons ?_ ?_ | refine aK.cons ?_ ?_ | refine eJ ?_ ?_ | exact To.undef _ | exact To.sc _ | exact To.hslL rfl rfl | exact To.asl _ _ _ _ _ _ _ rfl | refine To.ifc _ _ _ ?_ | exact To.ptrO rfl rfl rfl | exact To.mrefO rfl | exact To.nil rfl rfl rfl | exact wt1 | exact To.nilL | refine To.int ?_ | refine To.bool ?_ | refine To.hslL rfl ?_ | refine wt2 rfl ?_ ?_ ?_ | refine To.tupL ?_ | refine To.aggL ?_ | refine To.cptrL ?_ | refine To.fzp rfl rfl rfl ?_ | refine To.fzm rfl rfl ?_ | refine To.cloL ?_ ?_ | refine wt3 ?_ | refine wt4 ?_ | exact wt5 | refine wt6 ?_ | refine ToB.one ?_ | exact wt7 | ((with_reducible apply ToL.consE); case e9=>rfl) | refine wt8 ?_ | refine ToL.cons ?_ ?_ | exact wt11 | refine wt9 ?_ ?_ | refine wt12 ?_ | exact .yld _ _ _ _ rfl | exact .dead _ | exact hlp _ _ _ _ rfl rfl rfl | exact hlp _ _ _ rfl rfl rfl | exact hlp _ _ _ rfl rfl | exact hlp _ _ _ rfl | (with_reducible rfl) | assumption)); all_goals (first | rfl | assumption | (simp; done) | (simp; omega) | (rw[wrap_small (by omega) (by omega)]; done) | (rw[wrap_small (by omega) (by omega)]; omega) | (refine congrArg Nat.cast ?_; assumption) | omega | (exact Av.wrap_small (by omega) (by omega)) | skip))
      all_goals first | exact hlp _ _ _ _ rfl rfl rfl | exact .yld _ _ _ _ rfl | exact DA
     ·rw[if_neg h6] at hi2
      refine aA ?_
      refine Reg.on rfl (mE rfl rfl rfl (List.getElem?_set_self (by rw[hal2]; omega)) (by simp) rfl) ?_
      refine aA ?_
      refine⟨q,a2.set q 0,⟨by omega,by rw[List.length_set]; exact hl2,fun i hi'=>by rw[dO (by omega),if_neg (by omega)]; exact ho2 i (by omega),hi2⟩,by omega,?_⟩
      (apply Sub.to [] [[(0,0)],[(1,0)],[(2,0)],[(3,0)],[(4,0)],[(5,0)]]; all_goals (repeat' (first | exact aT.nil | exact aK.nil | exact bN.nil | exact ToL.nil | exact ToR.nil | refine aT.cons ?_ ?_ | refine aK.cons ?_ ?_ | refine eJ ?_ ?_ | exact To.undef _ | exact To.sc _ | exact To.hslL rfl rfl | exact To.asl _ _ _ _ _ _ _ rfl | refine To.ifc _ _ _ ?_ | exact To.ptrO rfl rfl rfl | exact To.mrefO rfl | exact To.nil rfl rfl rfl | exact wt1 | exact To.nilL | refine To.int ?_ | refine To.bool ?_ | refine To.hslL rfl ?_ | refine wt2 rfl ?_ ?_ ?_ | refine To.tupL ?_ | refine To.aggL ?_ | refine To.cptrL ?_ | refine To.fzp rfl rfl rfl ?_ | refine To.fzm rfl rfl ?_ | refine To.cloL ?_ ?_ | refine wt3 ?_ | refine wt4 ?_ | exact wt5 | refine wt6 ?_ | refine ToB.one ?_ | exact wt7 | ((with_reducible apply ToL.consE); case e9=>rfl) | refine wt8 ?_ | refine ToL.cons ?_ ?_ | exact wt11 | refine wt9 ?_ ?_ | refine wt12 ?_ | exact .yld _ _ _ _ rfl | exact .dead _ | exact hlp _ _ _ _ rfl rfl rfl | exact hlp _ _ _ rfl rfl rfl | exact hlp _ _ _ rfl rfl | exact hlp _ _ _ rfl | (with_reducible rfl) | assumption)); all_goals (first | rfl | assumption | (simp; done) | (simp; omega) | (rw[wrap_small (by omega) (by omega)]; done) | (rw[wrap_small (by omega) (by omega)]; omega) | (refine congrArg Nat.cast ?_; assumption) | omega | (exact Av.wrap_small (by omega) (by omega)) | skip))
      all_goals first | exact hlp _ _ _ _ rfl rfl rfl | exact .yld _ _ _ _ rfl | (rw[List.set_set]; exact DA)
    ·obtain rfl:kk=0:=by omega
     rw[show iE bl 0 a2=none from rfl] at hi2
     rw[← hi2] at hall
     refine aA ?_
     refine iW (res':=.tup []) (H2:=putK s'.es s'.lo s'.hi (.lp L (cP [iv k,iv c,iv b,iv st,.list 1 (inR sz),.list 1 (inR bl),.list 1 (inR pl),.list 8 (aM ty)] of cl) .ready none)) [[(0,0)],[(1,0)],[(2,0)],[(3,0)],[(4,0)]] (.inr rfl) rfl (.inl ⟨s',by rw[hall]; exact hm',hs',rfl⟩) ?_ ?_ rfl rfl rfl
     (all_goals exact iD)
     all_goals first | exact hlp _ _ _ _ rfl rfl rfl | exact .yld _ _ _ _ rfl | exact .dead _
   ·refine aA ?_
    refine iW (res':=.tup []) (H2:=EV (.lp L (cP [iv k,iv c,iv b,iv st,.list 1 (inR sz),.list 1 (inR bl),.list 1 (inR pl),.list 8 (aM ty)] of cl) .done (some .ret))) [[(0,0)],[(1,0)],[(2,0)],[(3,0)]] (.inr rfl) rfl (.inr ⟨hno,rfl⟩) ?_ ?_ rfl rfl rfl
    (all_goals exact iD)
    all_goals first | exact hlp _ _ _ _ rfl rfl rfl | exact .yld _ _ _ _ rfl | exact .dead _
end Go.Proofs.YtgdocflpobncmaaGreat
