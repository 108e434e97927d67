import Derived.Test.YtgdocflpobncmaaGreatGFtP2
import Derived.Test.YtgdocflpobncmaaGreatGAvG
import Derived.Test.YtgdocflpobncmaaGreatGAvK5
set_option maxHeartbeats 4000000
namespace Go.Proofs.YtgdocflpobncmaaGreat
open Go.Av Go.Proofs
set_option maxRecDepth 20000
def rfA:bL→bL
 | .rangeF _ _ a _ _ _ _=>a
 | _=>.skip
def rfB:bL→bL
 | .rangeF _ _ _ b _ _ _=>b
 | _=>.skip
def ofR (of:List Shp):List (List AV):=of.map fun s=>[.list 2 (enR s.es),iv s.lo,iv s.hi]
theorem D0 (l:List Shp):(ofR l).length=l.length:=by simp[ofR]
theorem nL (l:List Shp) (k:Nat) (h:k < l.length):cW (ofR l) (k:Int)=some [.list 2 (enR l[k].es),iv l[k].lo,iv l[k].hi]:=eJ (fun s:Shp=>[.list 2 (enR s.es),iv s.lo,iv s.hi]) l k h
instance (l:List Shp):PRs (ofR l):=⟨fun r hr=>by
 obtain⟨n,_,rfl⟩:=List.mem_map.1 hr
 exact pr _⟩
def shB (s:Shp):Prop:=-mP≤s.lo∧s.lo≤mP∧-mP≤s.hi∧s.hi≤mP∧-mP≤s.ext∧s.ext≤mP∧s.es≠[]∧s.es.length≤4096∧∀ y∈s.es,-mP≤y.2∧y.2≤mP
def stB (s:Shp):Prop:=s.es.length≤4096∧(-big≤s.lo∧s.lo≤big)∧(-big≤s.hi∧s.hi≤big)∧∀ y∈s.es,-big≤y.2∧y.2≤big
def r0S:List AV:=[.sc (.slice none 0 0),iv 0,iv 0]
def bZ (tc:List AV) (of:List Shp) (c:AV):Fr:=[(3,.cptr tc),(5,.cptr [.list 3 (ofR of)]),(6,.ptr 0 0 0 0),(7,.ptr 1 0 0 0),(8,.ptr 2 0 0 0),(27,c)]
def lI (es:List (Int×Int)) (lo hi:Int) (x:Blk) (at':List Int):Heap:=[[.cells 3 [r0S]],[.cells 1 [[iv 0]]],[.cells 3 [[.hsl 4 0 0 es.length,iv lo,iv hi]]],[x],[.cells 2 (enR es)],[.cells 1 (inR at')]]
def PT (es:List (Int×Int)) (lo hi:Int) (x:Blk) (at':List Int):Heap:=[[.cells 3 [r0S]],[.cells 1 [[iv 0]]],[.cells 3 [[.hsl 6 0 0 es.length,iv lo,iv hi]]],[x],[.dead],[.cells 1 (inR at')],[.cells 2 (enR es)]]
def putD (x b2 b3:Blk) (at':List Int):Heap:=[[.cells 3 [r0S]],[.cells 1 [[iv 9]]],[b2],[x],[b3],[.cells 1 (inR at')]]
noncomputable def hU:bL:=i6 [1,1,0,1,0] F165.code
theorem qC {T:AV→AV→Prop} {ρ:Nat→Nat→Option (Nat×Nat)} {tc:List AV} {of:List Shp} {c:AV} {L:LC} {st:LoopState} {pe:Option Code} (ht:PR tc) (hc:PV c) (r0:ρ 0 0=some (0,0)) (r1:ρ 1 0=some (1,0)) (r2:ρ 2 0=some (2,0)):ToB T ρ (.lp L (bZ tc of c) st pe) (.lp L (bZ tc of c) st pe):=by
 refine ToB.lp _ _ _ _ _ fun x hx=>?_
 simp only[bZ,List.mem_cons,List.not_mem_nil,or_false] at hx
 rcases hx with rfl | rfl | rfl | rfl | rfl | rfl
 ·exact To.pure (.cptr _ ht.out)
 ·exact To.pure (pv (AV.cptr [.list 3 (ofR of)]))
 ·exact To.ptrO r0 rfl rfl
 ·exact To.ptrO r1 rfl rfl
 ·exact To.ptrO r2 rfl rfl
 ·exact To.pure hc.out
theorem zV {L:LC} {tc:List AV} {of:List Shp} {c:AV} (ht:PR tc) (hc:PV c) (hL:LOK Tryz.prog F165.n L [28,29] (rfA hU) (rfB hU)) (s:Shp) (at':List Int) (k:Nat) (by':Int) (x:Shp) (hk:of[k]?=some x) (hof:shB x) (hs:stB s) (h1:-1200000000000000000≤by') (h2:by'≤1200000000000000000):
  dQ Tryz.prog 3 0 [iv k,iv by'] (lI s.es s.lo s.hi (.lp L (bZ tc of c) .ready none) at') fun b H'=>
   (b=true∧s.es.length+x.es.length≤4096∧H'=PT (pU s x by').es (pU s x by').lo (pU s x by').hi (.lp L (bZ tc of c) .ready none) at')∨(b=false∧4096 < s.es.length+x.es.length∧∃ b2 b3,H'=putD (.lp L (bZ tc of c) .done (some .ret)) b2 b3 at'):=by
 refine fY.g ?_
 have hr:cW (ofR of) (k:Int)=some [.list 2 (enR x.es),iv x.lo,iv x.hi]:=by
  obtain⟨h,rfl⟩:=gEs.1 hk;exact nL of k h
 clear hk;unfold shB mP at hof;obtain⟨b1,b2,b3,b4,b5,b6,b7,b8,b9⟩:=hof;refine⟨L,_,_,_,_,_,hL,rfl,rfl,?_⟩;show AWP _ _ _ (.seq (.region _) (.region _)) _ _ _
 have hlp:∀(T:AV→AV→Prop) (ρ:Nat→Nat→Option (Nat×Nat)) (st:LoopState),ρ 0 0=some (0,0)→ρ 1 0=some (1,0)→ρ 2 0=some (2,0)→ToB T ρ (.lp L (bZ tc of c) st none) (.lp L (bZ tc of c) st none):=fun T ρ st=>qC ht hc
 obtain⟨caps,hcaps⟩:∃ caps,caps=bZ tc of c:=⟨_,rfl⟩
 rw[← hcaps] at hlp ⊢;rw[show putL caps ([28,29].zip [iv k,iv by'])=(29,iv by')::(28,iv k)::bZ tc of c by rw[hcaps]; rfl];unfold bZ;refine aA ?_;refine⟨rfl,caps,rfl,?_⟩;show AWP _ _ _ (.block 1 _) _ _ _;refine aA ?_;rw[Av.wrap_small (show -9223372036854775808≤x.lo+by' by omega) (by omega),Av.wrap_small (show -9223372036854775808≤x.hi+by' by omega) (by omega)];refine DK.nil ⟨by kernel_rfl,?_⟩;refine AWP.sub (fr':=[(6,.ptr 0 0 0 0),(7,.ptr 1 0 0 0),(8,.ptr 2 0 0 0),(10,iv by'),(11,.cptr [.list 2 (enR x.es),iv x.lo,iv x.hi]),(12,iv (x.lo+by')),(13,iv (x.hi+by'))]) (H':=lI s.es s.lo s.hi (.lp L caps .busy none) at') ?_ ?_
 ·exact Sub.wl [] [[(0,0)],[(1,0)],[(2,0)],[(3,0)],[(4,0)],[(5,0)]]
 have hle:=dH s.es;have hle2:=dH x.es;refine aA ?_;refine AWP.joinB0 [(6,.ptr 0 0 0 0),(7,.ptr 1 0 0 0),(8,.ptr 2 0 0 0),(10,iv by'),(11,.cptr [.list 2 (enR x.es),iv x.lo,iv x.hi]),(12,iv (x.lo+by')),(13,iv (x.hi+by'))] (lI s.es (if s.es.length=0 then x.lo+by' else s.lo) (if s.es.length=0 then x.hi+by' else s.hi) (.lp L caps .busy none) at') ?_ ?_
 ·refine AWP.condN (s.es.length=0) rfl rfl (fun h=>?_) (fun h=>?_)
  ·rw[if_pos h,if_pos h]
   refine aA ?_;exact Sub.wl [] [[(0,0)],[(1,0)],[(2,0)],[(3,0)],[(4,0)],[(5,0)]]
  ·rw[if_neg h,if_neg h]
   refine aA ?_;exact Sub.wl [] [[(0,0)],[(1,0)],[(2,0)],[(3,0)],[(4,0)],[(5,0)]]
 obtain⟨lo1,hl1⟩:∃ lo1,lo1=if s.es.length=0 then x.lo+by' else s.lo:=⟨_,rfl⟩
 obtain⟨hi1,hh1⟩:∃ hi1,hi1=if s.es.length=0 then x.hi+by' else s.hi:=⟨_,rfl⟩
 unfold pU;rw[← hl1,← hh1];have hs0:=hs.1;refine aA ?_;rw[hle2];refine AWP.condN (4096 < s.es.length+x.es.length) rfl rfl (fun h=>?_) (fun h=>?_)
 ·refine aA ?_
  refine⟨caps,rfl,.inr ⟨rfl,h,_,_,rfl⟩⟩
 refine aA ?_;refine AWP.loop (fun j:Nat=>[(6,.ptr 0 0 0 0),(7,.ptr 1 0 0 0),(8,.ptr 2 0 0 0),(10,iv by'),(11,.cptr [.list 2 (enR x.es),iv x.lo,iv x.hi]),(70,.list 2 (enR x.es)),(71,iv x.es.length),(72,iv j)]) (fun j=>PT (s.es++(x.es.take j).map (fun y=>(y.1,y.2+by'))) (min lo1 (x.lo+by')) (max hi1 (x.hi+by')) (.lp L caps .busy none) at') (fun j=>j≤x.es.length) (fun j=>x.es.length - j) 0 (nZl _) ?_ ?_
 ·rw[← hle2]
  rw[show s.es++(x.es.take 0).map (fun y=>(y.1,y.2+by'))=s.es by simp];refine Sub.toM [] [.c [(0,0)],.c [(1,0)],.c [(2,0)],.c [(3,0)],.c [(4,0)],.c [(5,0)],.c [(4,0)]] [4] ?_ ?_ ⟨rfl,trivial⟩ ?_
  ·(all_goals exact g8)
  ·(all_goals exact g8)
   all_goals first | exact hlp _ _ _ rfl rfl rfl | omega | exact .dead _
  ·(repeat' (first | exact trivial | exact LN.c _ rfl rfl | refine⟨?_,?_⟩))
 rintro j hj
 have hsn:∀ h5:j < x.es.length,s.es++(x.es.take (j+1)).map (fun y=>(y.1,y.2+by'))=(s.es++(x.es.take j).map (fun y=>(y.1,y.2+by')))++[(x.es[j].1,x.es[j].2+by')]:=fun h5=>by
  rw[dA h5,List.map_append,List.append_assoc];rfl
 have hend:j=x.es.length→s.es++(x.es.take j).map (fun y=>(y.1,y.2+by'))=s.es++x.es.map (fun y=>(y.1,y.2+by')):=by
  rintro rfl;rw[List.take_length]
 have hln:(s.es++(x.es.take j).map (fun y=>(y.1,y.2+by'))).length≤10000:=by
  rw[lAp,List.length_map,List.length_take];omega
 generalize s.es++(x.es.take j).map (fun y=>(y.1,y.2+by'))=es at hsn hln hend ⊢;refine aA ?_;refine AWP.condN (j < x.es.length) rfl rfl (fun h5=>?_) (fun h5=>?_)
 ·have hr2:=iH x.es j h5
  have hy:=b9 x.es[j] (gMe _);replace hsn:=hsn h5;generalize x.es[j]=y at *;have hen:=dH es;refine aA ?_;rw[Av.wrap_small (show -9223372036854775808≤y.2+by' by omega) (by omega)];refine aA ?_;refine⟨j+1,by omega,by omega,?_⟩;rw[hsn]
  have hz9:enR es++[[iv y.1,iv (y.2+by')]]=enR (es++[(y.1,y.2+by')]):=by simp[enR]
  exact Sub.wl [] [[(0,0)],[(1,0)],[(2,0)],[(3,0)],[(4,0)],[(5,0)],[(9,0)]]
 ·obtain rfl:x.es.length=j:=by omega
  refine aA ?_;refine⟨caps,rfl,.inl ⟨rfl,by omega,?_⟩⟩;rw[← hend rfl];rfl
def FE (x:Blk):Heap:=[[.cells 3 [r0S]],[.cells 1 [[iv 0]]],[.cells 3 [r0S]],[x]]
def putK (es:List (Int×Int)) (lo hi:Int) (x:Blk):Heap:=[[.cells 3 [r0S]],[.cells 1 [[iv 0]]],[.cells 3 [[.hsl 4 0 0 es.length,iv lo,iv hi]]],[x],[.cells 2 (enR es)]]
def GG (x:Blk):Heap:=[[.cells 3 [r0S]],[.cells 1 [[iv 9]]],[.dead],[x]]
theorem pO {of:List Shp} (m:Int×Int):∀ {l:List (Int×Int)} {s t:Shp},eW of l s=some t→eW of (l++[m]) s=if 4096 < t.es.length+(of.getD m.1.toNat shp0).es.length then none else some (pU t (of.getD m.1.toNat shp0) m.2)
 | [],s,t,h=>by
  injection h with h
  subst h;rfl
 | n::l,s,t,h=>by
  simp only[eW,List.cons_append] at h ⊢;split at h
  ·cases h
  ·rename_i h1
   rw[if_neg h1];exact pO m h
theorem pQ {of:List Shp} {r:List (Int×Int)}:∀ {l:List (Int×Int)} {s:Shp},eW of l s=none→eW of (l++r) s=none
 | [],s,h=>by cases h
 | n::l,s,h=>by
  simp only[eW,List.cons_append] at h ⊢;split
  ·rfl
  ·rename_i h1
   rw[if_neg h1] at h;exact pQ h
theorem EC {s x:Shp} {by':Int} (hs:stB s) (hx:shB x) (h1:-1200000000000000000≤by') (h2:by'≤1200000000000000000) (hl:s.es.length+x.es.length≤4096):stB (pU s x by'):=by
 obtain⟨a1,⟨a2,a3⟩,⟨a4,a5⟩,a6⟩:=hs;obtain⟨b1,b2,b3,b4,b5,b6,b7,b8,b9⟩:=hx;unfold big at *;unfold mP at *;refine⟨by simp[pU]; omega,⟨?_,?_⟩,⟨?_,?_⟩,fun y hy=>?_⟩
 ·show -big≤min _ _
  unfold big
  split<;>omega
 ·show min _ _≤big
  unfold big
  split<;>omega
 ·show -big≤max _ _
  unfold big
  split<;>omega
 ·show max _ _≤big
  unfold big
  split<;>omega
 ·rcases List.mem_append.1 hy with hy | hy
  ·exact a6 y hy
  ·obtain⟨z,hz,rfl⟩:=List.mem_map.1 hy
   have:=b9 z hz;exact⟨by show _≤z.2+by'; unfold big; omega,by show z.2+by'≤_; unfold big; omega⟩
theorem sU {a b A B:Int} (h1:-A≤a) (h2:a≤A) (h3:-B≤b) (h4:b≤B):-(A * B)≤a * b∧a * b≤A * B:=by
 have e1:(a * b).natAbs≤A.natAbs * B.natAbs:=by
  rw[Int.natAbs_mul];exact Nat.mul_le_mul (by omega) (by omega)
 have e2:((A.natAbs * B.natAbs:Nat):Int)=A * B:=by
  rw[Int.natCast_mul,Int.natAbs_of_nonneg (by omega),Int.natAbs_of_nonneg (by omega)]
 omega
theorem yT:stB shp0:=⟨by simp[shp0],⟨by decide,by decide⟩,⟨by decide,by decide⟩,fun y hy=>by cases hy⟩
def pH (L:LC) (tc:List AV) (of:List Shp) (c:AV) (xs:List (Int×Int)) (H':Heap):Prop:=
 (∃ s,eW of xs shp0=some s∧stB s∧H'=putK s.es s.lo s.hi (.lp L (bZ tc of c) .ready none))∨(eW of xs shp0=none∧H'=GG (.lp L (bZ tc of c) .done (some .ret)))
variable {L:LC} {of:List Shp} {cl:AV} {k c b st:Int} {sz bl pl:List Int} {ty:List Ty}
theorem wP (hc:PV cl) (hL:LOK Tryz.prog F165.n L [28,29] (rfA hU) (rfB hU)) {x:Shp} (h0:of[0]?=some x) (hof:shB x) (hcc:c≤4096):
  aE Tryz.prog 204 [.yld 3 0,.cptr [iv k,iv c,iv b,iv st,.list 1 (inR sz),.list 1 (inR bl),.list 1 (inR pl),.list 8 (aO ty)],.cptr [.list 3 (ofR of)]] (FE (.lp L (bZ [iv k,iv c,iv b,iv st,.list 1 (inR sz),.list 1 (inR bl),.list 1 (inR pl),.list 8 (aO ty)] of cl) .ready none)) fun _ H'=>pH L [iv k,iv c,iv b,iv st,.list 1 (inR sz),.list 1 (inR bl),.list 1 (inR pl),.list 8 (aO ty)] of cl (bP c x.ext) H':=by
 have ht:PR [iv k,iv c,iv b,iv st,.list 1 (inR sz),.list 1 (inR bl),.list 1 (inR pl),.list 8 (aO ty)]:=⟨pr _⟩
 have hlp:∀(T:AV→AV→Prop) (ρ:Nat→Nat→Option (Nat×Nat)) (st':LoopState) (pe:Option Code),ρ 0 0=some (0,0)→ρ 1 0=some (1,0)→ρ 2 0=some (2,0)→ToB T ρ (.lp L (bZ [iv k,iv c,iv b,iv st,.list 1 (inR sz),.list 1 (inR bl),.list 1 (inR pl),.list 8 (aO ty)] of cl) st' pe) (.lp L (bZ [iv k,iv c,iv b,iv st,.list 1 (inR sz),.list 1 (inR bl),.list 1 (inR pl),.list 8 (aO ty)] of cl) st' pe):=fun T ρ st' pe=>qC ht hc
 have hr0:cW (ofR of) ((0:Nat):Int)=some [.list 2 (enR x.es),iv x.lo,iv x.hi]:=by
  obtain⟨h,rfl⟩:=gEs.1 h0;exact nL of 0 h
 have hx:=hof;obtain⟨b1,b2,b3,b4,b5,b6,_⟩:=hx;unfold mP at b1 b2 b3 b4 b5 b6;have he:aC Tryz.prog 73 [.agg [.list 2 (enR x.es),iv x.lo,iv x.hi]] (iv x.ext):=eG x (by omega) (by omega) (by omega) (by omega)
 obtain⟨N,hN⟩:∃ N,N=(max 1 c).toNat:=⟨_,rfl⟩
 have hN2:N≤4096:=by omega
 have hlen:(bP c x.ext).length=N:=by simp[bP,hN]
 have hget:∀ i,i < N→(bP c x.ext)[i]?=some (0,(i:Int) * x.ext):=fun i hi=>by
  unfold bP;rw[List.getElem?_map,List.getElem?_range (by omega)];rfl
 refine aE.of OE ?_ (nlB rfl);refine aA ?_;refine AWP.loop2 (fun(i:Nat) (_:Shp)=>[(0,.yld 3 0),(1,.cptr [iv k,iv c,iv b,iv st,.list 1 (inR sz),.list 1 (inR bl),.list 1 (inR pl),.list 8 (aO ty)]),(2,.cptr [.list 3 (ofR of)]),(7,iv N),(8,iv i)]) (fun _ s=>lI s.es s.lo s.hi (.lp L (bZ [iv k,iv c,iv b,iv st,.list 1 (inR sz),.list 1 (inR bl),.list 1 (inR pl),.list 8 (aO ty)] of cl) .ready none) []) (fun i s=>i≤N∧stB s∧eW of ((bP c x.ext).take i) shp0=some s) (fun i _=>N - i) 0 shp0 ⟨nZl _,yT,rfl⟩ ?_ ?_
 ·exact Sub.wl [2,1] [[(0,0)],[(1,0)],[(2,0)],[(3,0)],[(4,0)],[(5,0)]]
 rintro i s ⟨hi,hs,hm⟩;refine aA ?_;refine AWP.condN (i < N) rfl rfl (fun h=>?_) (fun h=>?_)
 ·have hie:-1200000000000000000≤(i:Int) * x.ext∧(i:Int) * x.ext≤1200000000000000000:=by
   have:=sU (a:=(i:Int)) (b:=x.ext) (A:=4096) (B:=1048576) (by omega) (by omega) b5 b6;omega
  refine AWP.skip ?_;refine AWP.seq ?_;refine AWP.block ?_;refine AWP.seq ?_;refine AWP.region ?_;refine vD ?_;refine AWP.seq ?_;refine AWP.rG rfl ?_;refine aA ?_;rw[Av.wrap_small (show -9223372036854775808≤(i:Int) * x.ext by omega) (by omega)];refine⟨rfl,nlB rfl,3,0,rfl,?_⟩;refine(zV ht hc hL s [] 0 ((i:Int) * x.ext) x h0 hof hs hie.1 hie.2).mono ?_;have hsn:=pO (0,(i:Int) * x.ext) hm;rw[show((0:Int),(i:Int) * x.ext).1.toNat=0 from rfl,show of.getD 0 shp0=x by rw[List.getD_eq_getElem?_getD,h0]; rfl] at hsn
  have htk:(bP c x.ext).take (i+1)=(bP c x.ext).take i++[(0,(i:Int) * x.ext)]:=by
   rw[List.take_add_one,hget i h];rfl
  rintro b' H' (⟨rfl,hle,rfl⟩ | ⟨rfl,hlt,b2',b3',rfl⟩)
  ·rw[if_neg (by omega)] at hsn
   refine aA ?_;refine⟨i+1,pU s x ((i:Int) * x.ext),⟨by omega,EC hs hof hie.1 hie.2 hle,by rw[htk]; exact hsn⟩,by omega,?_⟩;exact Sub.wl [] [[(0,0)],[(1,0)],[(2,0)],[(3,0)],[(6,0)],[(5,0)]]
  ·rw[if_pos hlt] at hsn
   refine aA ?_
   have hno:eW of (bP c x.ext) shp0=none:=by
    rw[← List.take_append_drop (i+1) (bP c x.ext)];refine pQ ?_;rw[htk];exact hsn
   refine iY (res':=.tup []) (H2:=GG (.lp L (bZ [iv k,iv c,iv b,iv st,.list 1 (inR sz),.list 1 (inR bl),.list 1 (inR pl),.list 8 (aO ty)] of cl) .done (some .ret))) [[(0,0)],[(1,0)],[(2,0)],[(3,0)]] (.inr rfl) rfl (.inr ⟨hno,rfl⟩) ?_ ?_ rfl rfl rfl
   (all_goals exact g8)
   all_goals first | exact hlp _ _ _ _ rfl rfl rfl | exact .dead _
 ·obtain rfl:N=i:=by omega
  rw[← hlen,List.take_length] at hm;refine aA ?_;refine iY (res':=.tup []) (H2:=putK s.es s.lo s.hi (.lp L (bZ [iv k,iv c,iv b,iv st,.list 1 (inR sz),.list 1 (inR bl),.list 1 (inR pl),.list 8 (aO ty)] of cl) .ready none)) [[(0,0)],[(1,0)],[(2,0)],[(3,0)],[(4,0)]] (.inl rfl) rfl (.inl ⟨s,hm,hs,rfl⟩) ?_ ?_ rfl rfl rfl
  (all_goals exact g8)
  all_goals first | exact hlp _ _ _ _ rfl rfl rfl | exact .dead _
def dX {α:Type} (f:Nat→List α) (i j:Nat):List α:=(List.range i).flatMap f++(f i).take j
theorem gV {α:Type} {f:Nat→List α} {i j:Nat} {m:α} (h:(f i)[j]?=some m):dX f i (j+1)=dX f i j++[m]:=by
 unfold dX;rw[List.take_add_one,h,List.append_assoc];rfl
theorem jY {α:Type} {f:Nat→List α} {i j:Nat} (h:(f i).length=j):dX f i j=dX f (i+1) 0:=by
 unfold dX;rw[← h,List.take_length,List.range_succ,List.flatMap_append];simp
theorem mJ {α:Type} {f:Nat→List α} {n:Nat}:(List.range n).flatMap f=dX f n 0:=by simp[dX]
theorem lV {α:Type} {f:Nat→List α}:dX f 0 0=[]:=by simp[dX]
theorem xF {α:Type} {f:Nat→List α} {n i j:Nat} (h:i < n):∃ r,(List.range n).flatMap f=dX f i j++r:=by
 obtain⟨q,rfl⟩:∃ q,n=i+1+q:=⟨n - (i+1),by omega⟩
 refine⟨(f i).drop j++((List.range q).map (i+1+·)).flatMap f,?_⟩;unfold dX;rw[List.range_add,List.flatMap_append,List.range_succ,List.flatMap_append];simp only[List.append_assoc,List.flatMap_cons,List.flatMap_nil,List.append_nil];rw[← List.append_assoc ((f i).take j),List.take_append_drop]
theorem oV {L:LC} {tc:List AV} {of:List Shp} {c:AV} {xs p:List (Int×Int)} (ht:PR tc) (hc:PV c) (hL:LOK Tryz.prog F165.n L [28,29] (rfA hU) (rfB hU)) {s:Shp} (at':List Int) {k:Nat} {by':Int} {x:Shp} (hk:of[k]?=some x) (hof:shB x) (hs:stB s)
  (h1:-1200000000000000000≤by') (h2:by'≤1200000000000000000) (hm:eW of p shp0=some s) (hall:∃ r,xs=(p++[((k:Int),by')])++r):
  dQ Tryz.prog 3 0 [iv k,iv by'] (lI s.es s.lo s.hi (.lp L (bZ tc of c) .ready none) at') fun b H'=>
   (b=true∧∃ s',eW of (p++[((k:Int),by')]) shp0=some s'∧stB s'∧H'=PT s'.es s'.lo s'.hi (.lp L (bZ tc of c) .ready none) at')∨(b=false∧eW of xs shp0=none∧∃ b2 b3,H'=putD (.lp L (bZ tc of c) .done (some .ret)) b2 b3 at'):=by
 refine(zV ht hc hL s at' k by' x hk hof hs h1 h2).mono ?_;have hsn:=pO ((k:Int),by') hm;rw[show((k:Int),by').1.toNat=k from rfl,show of.getD k shp0=x by rw[List.getD_eq_getElem?_getD,hk]; rfl] at hsn;rintro b' H' (⟨rfl,hle,rfl⟩ | ⟨rfl,hlt,b2',b3',rfl⟩)
 ·rw[if_neg (by omega)] at hsn
  exact .inl ⟨rfl,_,hsn,EC hs hof h1 h2 hle,rfl⟩
 ·rw[if_pos hlt] at hsn
  obtain⟨r,hr⟩:=hall;exact .inr ⟨rfl,by rw[hr]; exact pQ hsn,_,_,rfl⟩
variable {L:LC} {of:List Shp} {cl:AV} {k c b st:Int} {sz bl pl:List Int} {ty:List Ty}
theorem FJ (hc:PV cl) (hL:LOK Tryz.prog F165.n L [28,29] (rfA hU) (rfB hU)) {x:Shp} (h0:of[0]?=some x) (hof:shB x) (hc1:1≤c) (hcc:c≤4096) (hb1:1≤b) (hbb:b≤4096) (hs1:-mP≤st) (hs2:st≤mP):
  aE Tryz.prog 205 [.yld 3 0,.cptr [iv k,iv c,iv b,iv st,.list 1 (inR sz),.list 1 (inR bl),.list 1 (inR pl),.list 8 (aO ty)],.cptr [.list 3 (ofR of)]] (FE (.lp L (bZ [iv k,iv c,iv b,iv st,.list 1 (inR sz),.list 1 (inR bl),.list 1 (inR pl),.list 8 (aO ty)] of cl) .ready none)) fun _ H'=>pH L [iv k,iv c,iv b,iv st,.list 1 (inR sz),.list 1 (inR bl),.list 1 (inR pl),.list 8 (aO ty)] of cl (jV c b st x.ext) H':=by
 have ht:PR [iv k,iv c,iv b,iv st,.list 1 (inR sz),.list 1 (inR bl),.list 1 (inR pl),.list 8 (aO ty)]:=⟨pr _⟩
 have hlp:∀(T:AV→AV→Prop) (ρ:Nat→Nat→Option (Nat×Nat)) (st':LoopState) (pe:Option Code),ρ 0 0=some (0,0)→ρ 1 0=some (1,0)→ρ 2 0=some (2,0)→ToB T ρ (.lp L (bZ [iv k,iv c,iv b,iv st,.list 1 (inR sz),.list 1 (inR bl),.list 1 (inR pl),.list 8 (aO ty)] of cl) st' pe) (.lp L (bZ [iv k,iv c,iv b,iv st,.list 1 (inR sz),.list 1 (inR bl),.list 1 (inR pl),.list 8 (aO ty)] of cl) st' pe):=fun T ρ st' pe=>qC ht hc
 have hr0:cW (ofR of) ((0:Nat):Int)=some [.list 2 (enR x.es),iv x.lo,iv x.hi]:=by
  obtain⟨h,rfl⟩:=gEs.1 h0;exact nL of 0 h
 have hx:=hof;obtain⟨b1,b2,b3,b4,b5,b6,_⟩:=hx;unfold mP at b1 b2 b3 b4 b5 b6 hs1 hs2;have he:aC Tryz.prog 73 [.agg [.list 2 (enR x.es),iv x.lo,iv x.hi]] (iv x.ext):=eG x (by omega) (by omega) (by omega) (by omega)
 obtain⟨N,rfl⟩:∃ N:Nat,c=N:=⟨c.toNat,by omega⟩
 obtain⟨M,rfl⟩:∃ M:Nat,b=M:=⟨b.toNat,by omega⟩
 obtain⟨f,hf⟩:∃ f:Nat→List (Int×Int),f=fun i:Nat=>(List.range M).map fun j:Nat=>(0,((i:Int) * st+j) * x.ext):=⟨_,rfl⟩
 have hxs:jV N M st x.ext=(List.range N).flatMap f:=by unfold jV; rw[hf]; rfl
 have hfl:∀ i,(f i).length=M:=fun i=>by rw[hf]; simp
 have hfg:∀ i j,j < M→(f i)[j]?=some (0,((i:Int) * st+j) * x.ext):=fun i j hj=>by
  rw[hf];simp[hj]
 rw[hxs];refine aE.of OW ?_ (nlB rfl);refine aA ?_;refine AWP.loop2 (fun(i:Nat) (_:Shp)=>[(0,.yld 3 0),(1,.cptr [iv k,iv N,iv M,iv st,.list 1 (inR sz),.list 1 (inR bl),.list 1 (inR pl),.list 8 (aO ty)]),(2,.cptr [.list 3 (ofR of)]),(7,iv N),(8,iv i)]) (fun _ s=>lI s.es s.lo s.hi (.lp L (bZ [iv k,iv N,iv M,iv st,.list 1 (inR sz),.list 1 (inR bl),.list 1 (inR pl),.list 8 (aO ty)] of cl) .ready none) []) (fun i s=>i≤N∧stB s∧eW of (dX f i 0) shp0=some s) (fun i _=>N - i) 0 shp0 ⟨nZl _,yT,by rw[lV]; rfl⟩ ?_ ?_
 ·exact Sub.wl [2,1] [[(0,0)],[(1,0)],[(2,0)],[(3,0)],[(4,0)],[(5,0)]]
 rintro i s0 ⟨hi,hs0,hm0⟩;refine cT ?_;refine AWP.condN (i < N) rfl rfl (fun h=>?_) (fun h=>?_)
 ·refine cT ?_
  refine AWP.loop2 (fun(j:Nat) (_:Shp)=>[(0,.yld 3 0),(1,.cptr [iv k,iv N,iv M,iv st,.list 1 (inR sz),.list 1 (inR bl),.list 1 (inR pl),.list 8 (aO ty)]),(2,.cptr [.list 3 (ofR of)]),(4,iv i),(7,iv N),(8,iv i),(12,iv M),(13,iv j)]) (fun _ s=>lI s.es s.lo s.hi (.lp L (bZ [iv k,iv N,iv M,iv st,.list 1 (inR sz),.list 1 (inR bl),.list 1 (inR pl),.list 8 (aO ty)] of cl) .ready none) []) (fun j s=>j≤M∧stB s∧eW of (dX f i j) shp0=some s) (fun j _=>M - j) 0 s0 ⟨nZl _,hs0,hm0⟩ ?_ ?_
  ·exact Sub.wl [] [[(0,0)],[(1,0)],[(2,0)],[(3,0)],[(4,0)],[(5,0)]]
  rintro j s ⟨hj,hs,hm⟩;refine cT ?_;refine AWP.condN (j < M) rfl rfl (fun h2=>?_) (fun h2=>?_)
  ·refine cT ?_
   have hw1:=sU (a:=(i:Int)) (b:=st) (A:=4096) (B:=1048576) (by omega) (by omega) hs1 hs2;have hw2:=sU (a:=(i:Int) * st+j) (b:=x.ext) (A:=4294971392) (B:=1048576) (by omega) (by omega) b5 b6;refine AWP.dky 12 [(0,.yld 3 0),(1,.cptr [iv k,iv N,iv M,iv st,.list 1 (inR sz),.list 1 (inR bl),.list 1 (inR pl),.list 8 (aO ty)]),(2,.cptr [.list 3 (ofR of)]),(4,iv i),(7,iv N),(8,iv i),(12,iv M),(13,iv j),(16,.yld 3 0),(27,iv (((i:Int) * st+j) * x.ext))] (lI s.es s.lo s.hi (.lp L (bZ [iv k,iv N,iv M,iv st,.list 1 (inR sz),.list 1 (inR bl),.list 1 (inR pl),.list 8 (aO ty)] of cl) .ready none) []) mixed rfl rfl (by kernel_rfl) (by kernel_rfl) (by kernel_rfl) ?_ ?_
   ·refine aA ?_
    rw[Av.wrap_small (show -9223372036854775808≤(i:Int) * st by omega) (by omega)];refine aA ?_;refine DK.nil ⟨by kernel_rfl,?_⟩
    (apply Sub.to [] [[(0,0)],[(1,0)],[(2,0)],[(3,0)],[(4,0)],[(5,0)]]; all_goals (repeat' (first | exact aY.nil | exact aI.nil | exact bK.nil | exact ToL.nil | exact ToR.nil | refine aY.cons ?_ ?_ | refine aI.cons ?_ ?_ | refine fN ?_ ?_ | exact To.undef _ | exact To.sc _ | exact To.hslL rfl rfl | exact To.asl _ _ _ _ _ _ _ rfl | refine To.ifc _ _ _ ?_ | exact To.ptrO rfl rfl rfl | exact To.mrefO rfl | exact To.nil rfl rfl rfl | exact wt1 | exact To.nilL | refine To.int ?_ | refine To.bool ?_ | refine To.hslL rfl ?_ | refine wt2 rfl ?_ ?_ ?_ | refine To.tupL ?_ | refine To.aggL ?_ | refine To.cptrL ?_ | refine To.fzp rfl rfl rfl ?_ | refine To.fzm rfl rfl ?_ | refine To.cloL ?_ ?_ | refine wt3 ?_ | refine wt4 ?_ | exact wt5 | refine wt6 ?_ | refine ToB.one ?_ | exact wt7 | ((with_reducible apply ToL.consE); case e9=>rfl) | refine wt8 ?_ | refine ToL.cons ?_ ?_ | exact wt11 | refine wt9 ?_ ?_ | refine gM ?_ | exact .yld _ _ _ _ rfl | exact .dead _ | exact hlp _ _ _ _ rfl rfl rfl | exact hlp _ _ _ rfl rfl rfl | exact hlp _ _ _ rfl rfl | exact hlp _ _ _ rfl | (with_reducible rfl) | assumption)); all_goals (first | rfl | assumption | (simp; done) | (simp; omega) | (rw[wrap_small (by omega) (by omega)]; done) | (rw[wrap_small (by omega) (by omega)]; omega) | (refine congrArg Nat.cast ?_; assumption) | omega | (exact Av.wrap_small (by omega) (by omega)) | skip))
    all_goals first | exact hlp _ _ _ _ rfl rfl rfl | exact .yld _ _ _ _ rfl | (rw[Av.wrap_small (show -9223372036854775808≤(i:Int) * st+j by omega) (by omega),Av.wrap_small (by omega) (by omega)])
   ·refine⟨rfl,nlB rfl,3,0,rfl,?_⟩
    refine(oV (xs:=(List.range N).flatMap f) (k:=0) ht hc hL [] h0 hof hs (by omega) (by omega) hm ?_).mono ?_
    ·obtain⟨r,hr⟩:=xF (f:=f) (j:=j+1) h
     exact⟨r,by rw[hr,gV (hfg i j h2)]; rfl⟩
    rintro b' H' (⟨rfl,s',hm',hs',rfl⟩ | ⟨rfl,hno,b2',b3',rfl⟩)
    ·refine aA ?_
     refine DK.nil ⟨by kernel_rfl,?_⟩;refine aA ?_;refine⟨j+1,s',⟨by omega,hs',by rw[gV (hfg i j h2)]; exact hm'⟩,by omega,?_⟩;exact Sub.wl [] [[(0,0)],[(1,0)],[(2,0)],[(3,0)],[(6,0)],[(5,0)]]
    ·refine aA ?_
     refine DK.nil ⟨by kernel_rfl,?_⟩;refine aA ?_;refine iY (res':=.tup []) (H2:=GG (.lp L (bZ [iv k,iv N,iv M,iv st,.list 1 (inR sz),.list 1 (inR bl),.list 1 (inR pl),.list 8 (aO ty)] of cl) .done (some .ret))) [[(0,0)],[(1,0)],[(2,0)],[(3,0)]] (.inr rfl) rfl (.inr ⟨hno,rfl⟩) ?_ ?_ rfl rfl rfl
     (all_goals exact g8)
     all_goals first | exact hlp _ _ _ _ rfl rfl rfl | exact .yld _ _ _ _ rfl | exact .dead _
  ·obtain rfl:M=j:=by omega
   refine aA ?_;refine⟨i+1,s,⟨by omega,hs,by rw[← jY (hfl i)]; exact hm⟩,by omega,?_⟩;exact Sub.wl [] [[(0,0)],[(1,0)],[(2,0)],[(3,0)],[(4,0)],[(5,0)]]
 ·obtain rfl:N=i:=by omega
  rw[← mJ] at hm0;refine aA ?_;refine iY (res':=.tup []) (H2:=putK s0.es s0.lo s0.hi (.lp L (bZ [iv k,iv N,iv M,iv st,.list 1 (inR sz),.list 1 (inR bl),.list 1 (inR pl),.list 8 (aO ty)] of cl) .ready none)) [[(0,0)],[(1,0)],[(2,0)],[(3,0)],[(4,0)]] (.inl rfl) rfl (.inl ⟨s0,hm0,hs0,rfl⟩) ?_ ?_ rfl rfl rfl
  (all_goals exact g8)
  all_goals first | exact hlp _ _ _ _ rfl rfl rfl | exact .yld _ _ _ _ rfl | exact .dead _
variable {L:LC} {of:List Shp} {cl:AV} {k c b st:Int} {sz bl pl:List Int} {ty:List Ty}
theorem CN (hc:PV cl) (hL:LOK Tryz.prog F165.n L [28,29] (rfA hU) (rfB hU)) {x:Shp} (h0:of[0]?=some x) (hof:shB x) (hb:∀ n∈bl,0≤n∧n≤4096) (hp:∀ n∈pl,-mP≤n∧n≤mP) (hl:pl.length=bl.length) (hln:bl.length≤4096):
  aE Tryz.prog 207 [.yld 3 0,.cptr [iv k,iv c,iv b,iv st,.list 1 (inR sz),.list 1 (inR bl),.list 1 (inR pl),.list 8 (aO ty)],.cptr [.list 3 (ofR of)]] (FE (.lp L (bZ [iv k,iv c,iv b,iv st,.list 1 (inR sz),.list 1 (inR bl),.list 1 (inR pl),.list 8 (aO ty)] of cl) .ready none)) fun _ H'=>pH L [iv k,iv c,iv b,iv st,.list 1 (inR sz),.list 1 (inR bl),.list 1 (inR pl),.list 8 (aO ty)] of cl (iF bl pl x.ext) H':=by
 have ht:PR [iv k,iv c,iv b,iv st,.list 1 (inR sz),.list 1 (inR bl),.list 1 (inR pl),.list 8 (aO ty)]:=⟨pr _⟩
 have hlp:∀(T:AV→AV→Prop) (ρ:Nat→Nat→Option (Nat×Nat)) (st':LoopState) (pe:Option Code),ρ 0 0=some (0,0)→ρ 1 0=some (1,0)→ρ 2 0=some (2,0)→ToB T ρ (.lp L (bZ [iv k,iv c,iv b,iv st,.list 1 (inR sz),.list 1 (inR bl),.list 1 (inR pl),.list 8 (aO ty)] of cl) st' pe) (.lp L (bZ [iv k,iv c,iv b,iv st,.list 1 (inR sz),.list 1 (inR bl),.list 1 (inR pl),.list 8 (aO ty)] of cl) st' pe):=fun T ρ st' pe=>qC ht hc
 have hr0:cW (ofR of) ((0:Nat):Int)=some [.list 2 (enR x.es),iv x.lo,iv x.hi]:=by
  obtain⟨h,rfl⟩:=gEs.1 h0;exact nL of 0 h
 have hx:=hof;obtain⟨b1,b2,b3,b4,b5,b6,_⟩:=hx;unfold mP at b1 b2 b3 b4 b5 b6 hp;have he:aC Tryz.prog 73 [.agg [.list 2 (enR x.es),iv x.lo,iv x.hi]] (iv x.ext):=eG x (by omega) (by omega) (by omega) (by omega)
 obtain⟨N,hN⟩:∃ N,N=bl.length:=⟨_,rfl⟩
 obtain⟨f,hf⟩:∃ f:Nat→List (Int×Int),f=fun i:Nat=>(List.range (bl.getD i 0).toNat).map fun j:Nat=>(0,(pl.getD i 0+j) * x.ext):=⟨_,rfl⟩
 have hxs:iF bl pl x.ext=(List.range N).flatMap f:=by unfold iF; rw[hf,hN]
 have hbl:=cH bl;rw[hxs];refine aE.of N8 ?_ (nlB rfl);refine aA ?_;refine AWP.loop2 (fun(i:Nat) (_:Shp)=>[(0,.yld 3 0),(1,.cptr [iv k,iv c,iv b,iv st,.list 1 (inR sz),.list 1 (inR bl),.list 1 (inR pl),.list 8 (aO ty)]),(2,.cptr [.list 3 (ofR of)]),(8,.list 1 (inR bl)),(9,iv N),(10,iv i)]) (fun _ s=>lI s.es s.lo s.hi (.lp L (bZ [iv k,iv c,iv b,iv st,.list 1 (inR sz),.list 1 (inR bl),.list 1 (inR pl),.list 8 (aO ty)] of cl) .ready none) []) (fun i s=>i≤N∧stB s∧eW of (dX f i 0) shp0=some s) (fun i _=>N - i) 0 shp0 ⟨nZl _,yT,by rw[lV]; rfl⟩ ?_ ?_
 ·rw[hN,← hbl]
  exact Sub.wl [2,1] [[(0,0)],[(1,0)],[(2,0)],[(3,0)],[(4,0)],[(5,0)]]
 rintro i s0 ⟨hi,hs0,hm0⟩;refine cT ?_;refine AWP.condN (i < N) rfl rfl (fun h=>?_) (fun h=>?_)
 ·have r1:=cX bl i (by omega)
  have r2:=cX pl i (by omega);have q1:=hb bl[i] (gMe _);have q2:=hp pl[i] (gMe _)
  have hfi:f i=(List.range bl[i].toNat).map fun j:Nat=>(0,(pl[i]+j) * x.ext):=by
   rw[hf];simp only[List.getD_eq_getElem?_getD,gEg (show i < bl.length by omega),gEg (show i < pl.length by omega),Option.getD_some]
  generalize bl[i]=n at *;generalize pl[i]=p at *
  obtain⟨M,rfl⟩:∃ M:Nat,n=M:=⟨n.toNat,by omega⟩
  rw[Int.toNat_natCast] at hfi
  have hfl:(f i).length=M:=by rw[hfi]; simp
  have hfg:∀ j,j < M→(f i)[j]?=some (0,(p+j) * x.ext):=fun j hj=>by rw[hfi]; simp[hj]
  refine cT ?_;refine AWP.loop2 (fun(j:Nat) (_:Shp)=>[(0,.yld 3 0),(1,.cptr [iv k,iv c,iv b,iv st,.list 1 (inR sz),.list 1 (inR bl),.list 1 (inR pl),.list 8 (aO ty)]),(2,.cptr [.list 3 (ofR of)]),(4,iv i),(8,.list 1 (inR bl)),(9,iv N),(10,iv i),(15,iv M),(16,iv j)]) (fun _ s=>lI s.es s.lo s.hi (.lp L (bZ [iv k,iv c,iv b,iv st,.list 1 (inR sz),.list 1 (inR bl),.list 1 (inR pl),.list 8 (aO ty)] of cl) .ready none) []) (fun j s=>j≤M∧stB s∧eW of (dX f i j) shp0=some s) (fun j _=>M - j) 0 s0 ⟨nZl _,hs0,hm0⟩ ?_ ?_
  ·exact Sub.wl [] [[(0,0)],[(1,0)],[(2,0)],[(3,0)],[(4,0)],[(5,0)]]
  rintro j s ⟨hj,hs,hm⟩;refine cT ?_;refine AWP.condN (j < M) rfl rfl (fun h2=>?_) (fun h2=>?_)
  ·refine cT ?_
   have hw2:=sU (a:=p+j) (b:=x.ext) (A:=1052672) (B:=1048576) (by omega) (by omega) b5 b6;refine AWP.dky 13 [(0,.yld 3 0),(1,.cptr [iv k,iv c,iv b,iv st,.list 1 (inR sz),.list 1 (inR bl),.list 1 (inR pl),.list 8 (aO ty)]),(2,.cptr [.list 3 (ofR of)]),(4,iv i),(8,.list 1 (inR bl)),(9,iv N),(10,iv i),(15,iv M),(16,iv j),(19,.yld 3 0),(31,iv ((p+j) * x.ext))] (lI s.es s.lo s.hi (.lp L (bZ [iv k,iv c,iv b,iv st,.list 1 (inR sz),.list 1 (inR bl),.list 1 (inR pl),.list 8 (aO ty)] of cl) .ready none) []) mixed rfl rfl (by kernel_rfl) (by kernel_rfl) (by kernel_rfl) ?_ ?_
   ·refine aA ?_
    refine DK.nil ⟨by kernel_rfl,?_⟩
    (apply Sub.to [] [[(0,0)],[(1,0)],[(2,0)],[(3,0)],[(4,0)],[(5,0)]]; all_goals (repeat' (first | exact aY.nil | exact aI.nil | exact bK.nil | exact ToL.nil | exact ToR.nil | refine aY.cons ?_ ?_ | refine aI.cons ?_ ?_ | refine fN ?_ ?_ | exact To.undef _ | exact To.sc _ | exact To.hslL rfl rfl | exact To.asl _ _ _ _ _ _ _ rfl | refine To.ifc _ _ _ ?_ | exact To.ptrO rfl rfl rfl | exact To.mrefO rfl | exact To.nil rfl rfl rfl | exact wt1 | exact To.nilL | refine To.int ?_ | refine To.bool ?_ | refine To.hslL rfl ?_ | refine wt2 rfl ?_ ?_ ?_ | refine To.tupL ?_ | refine To.aggL ?_ | refine To.cptrL ?_ | refine To.fzp rfl rfl rfl ?_ | refine To.fzm rfl rfl ?_ | refine To.cloL ?_ ?_ | refine wt3 ?_ | refine wt4 ?_ | exact wt5 | refine wt6 ?_ | refine ToB.one ?_ | exact wt7 | ((with_reducible apply ToL.consE); case e9=>rfl) | refine wt8 ?_ | refine ToL.cons ?_ ?_ | exact wt11 | refine wt9 ?_ ?_ | refine gM ?_ | exact .yld _ _ _ _ rfl | exact .dead _ | exact hlp _ _ _ _ rfl rfl rfl | exact hlp _ _ _ rfl rfl rfl | exact hlp _ _ _ rfl rfl | exact hlp _ _ _ rfl | (with_reducible rfl) | assumption)); all_goals (first | rfl | assumption | (simp; done) | (simp; omega) | (rw[wrap_small (by omega) (by omega)]; done) | (rw[wrap_small (by omega) (by omega)]; omega) | (refine congrArg Nat.cast ?_; assumption) | omega | (exact Av.wrap_small (by omega) (by omega)) | skip))
    all_goals first | exact hlp _ _ _ _ rfl rfl rfl | exact .yld _ _ _ _ rfl | (rw[Av.wrap_small (show -9223372036854775808≤p+(j:Int) by omega) (by omega),Av.wrap_small (by omega) (by omega)])
   ·refine⟨rfl,nlB rfl,3,0,rfl,?_⟩
    refine(oV (xs:=(List.range N).flatMap f) (k:=0) ht hc hL [] h0 hof hs (by omega) (by omega) hm ?_).mono ?_
    ·obtain⟨r,hr⟩:=xF (f:=f) (j:=j+1) h
     exact⟨r,by rw[hr,gV (hfg j h2)]; rfl⟩
    rintro b' H' (⟨rfl,s',hm',hs',rfl⟩ | ⟨rfl,hno,b2',b3',rfl⟩)
    ·refine aA ?_
     refine DK.nil ⟨by kernel_rfl,?_⟩;refine aA ?_;refine⟨j+1,s',⟨by omega,hs',by rw[gV (hfg j h2)]; exact hm'⟩,by omega,?_⟩;exact Sub.wl [] [[(0,0)],[(1,0)],[(2,0)],[(3,0)],[(6,0)],[(5,0)]]
    ·refine aA ?_
     refine DK.nil ⟨by kernel_rfl,?_⟩;refine aA ?_;refine iY (res':=.tup []) (H2:=GG (.lp L (bZ [iv k,iv c,iv b,iv st,.list 1 (inR sz),.list 1 (inR bl),.list 1 (inR pl),.list 8 (aO ty)] of cl) .done (some .ret))) [[(0,0)],[(1,0)],[(2,0)],[(3,0)]] (.inr rfl) rfl (.inr ⟨hno,rfl⟩) ?_ ?_ rfl rfl rfl
     (all_goals exact g8)
     all_goals first | exact hlp _ _ _ _ rfl rfl rfl | exact .yld _ _ _ _ rfl | exact .dead _
  ·obtain rfl:M=j:=by omega
   refine aA ?_;refine⟨i+1,s,⟨by omega,hs,by rw[← jY hfl]; exact hm⟩,by omega,?_⟩;exact Sub.wl [] [[(0,0)],[(1,0)],[(2,0)],[(3,0)],[(4,0)],[(5,0)]]
 ·obtain rfl:N=i:=by omega
  rw[← mJ] at hm0;refine aA ?_;refine iY (res':=.tup []) (H2:=putK s0.es s0.lo s0.hi (.lp L (bZ [iv k,iv c,iv b,iv st,.list 1 (inR sz),.list 1 (inR bl),.list 1 (inR pl),.list 8 (aO ty)] of cl) .ready none)) [[(0,0)],[(1,0)],[(2,0)],[(3,0)],[(4,0)]] (.inl rfl) rfl (.inl ⟨s0,hm0,hs0,rfl⟩) ?_ ?_ rfl rfl rfl
  (all_goals exact g8)
  all_goals first | exact hlp _ _ _ _ rfl rfl rfl | exact .yld _ _ _ _ rfl | exact .dead _
variable {L:LC} {of:List Shp} {cl:AV} {k c b st:Int} {sz bl pl:List Int} {ty:List Ty}
theorem uY (hc:PV cl) (hL:LOK Tryz.prog F165.n L [28,29] (rfA hU) (rfB hU)) (hof:∀ x∈of,shB x) (hlo:of.length=bl.length) (hb:∀ n∈bl,0≤n∧n≤4096) (hp:∀ n∈pl,-mP≤n∧n≤mP) (hl:pl.length=bl.length) (hln:bl.length≤4096):
  aE Tryz.prog 208 [.yld 3 0,.cptr [iv k,iv c,iv b,iv st,.list 1 (inR sz),.list 1 (inR bl),.list 1 (inR pl),.list 8 (aO ty)],.cptr [.list 3 (ofR of)]] (FE (.lp L (bZ [iv k,iv c,iv b,iv st,.list 1 (inR sz),.list 1 (inR bl),.list 1 (inR pl),.list 8 (aO ty)] of cl) .ready none)) fun _ H'=>pH L [iv k,iv c,iv b,iv st,.list 1 (inR sz),.list 1 (inR bl),.list 1 (inR pl),.list 8 (aO ty)] of cl (o5 bl pl of) H':=by
 have ht:PR [iv k,iv c,iv b,iv st,.list 1 (inR sz),.list 1 (inR bl),.list 1 (inR pl),.list 8 (aO ty)]:=⟨pr _⟩
 have hlp:∀(T:AV→AV→Prop) (ρ:Nat→Nat→Option (Nat×Nat)) (st':LoopState) (pe:Option Code),ρ 0 0=some (0,0)→ρ 1 0=some (1,0)→ρ 2 0=some (2,0)→ToB T ρ (.lp L (bZ [iv k,iv c,iv b,iv st,.list 1 (inR sz),.list 1 (inR bl),.list 1 (inR pl),.list 8 (aO ty)] of cl) st' pe) (.lp L (bZ [iv k,iv c,iv b,iv st,.list 1 (inR sz),.list 1 (inR bl),.list 1 (inR pl),.list 8 (aO ty)] of cl) st' pe):=fun T ρ st' pe=>qC ht hc
 unfold mP at hp
 obtain⟨N,hN⟩:∃ N,N=bl.length:=⟨_,rfl⟩
 obtain⟨f,hf⟩:∃ f:Nat→List (Int×Int),f=fun i:Nat=>(List.range (bl.getD i 0).toNat).map fun j:Nat=>((i:Int),pl.getD i 0+j * (of.getD i shp0).ext):=⟨_,rfl⟩
 have hxs:o5 bl pl of=(List.range N).flatMap f:=by unfold o5; rw[hf,hN]
 have hbl:=cH bl;rw[hxs];refine aE.of OV ?_ (nlB rfl);refine aA ?_;refine AWP.loop2 (fun(i:Nat) (_:Shp)=>[(0,.yld 3 0),(1,.cptr [iv k,iv c,iv b,iv st,.list 1 (inR sz),.list 1 (inR bl),.list 1 (inR pl),.list 8 (aO ty)]),(2,.cptr [.list 3 (ofR of)]),(8,.list 1 (inR bl)),(9,iv N),(10,iv i)]) (fun _ s=>lI s.es s.lo s.hi (.lp L (bZ [iv k,iv c,iv b,iv st,.list 1 (inR sz),.list 1 (inR bl),.list 1 (inR pl),.list 8 (aO ty)] of cl) .ready none) []) (fun i s=>i≤N∧stB s∧eW of (dX f i 0) shp0=some s) (fun i _=>N - i) 0 shp0 ⟨nZl _,yT,by rw[lV]; rfl⟩ ?_ ?_
 ·rw[hN,← hbl]
  exact Sub.wl [2,1] [[(0,0)],[(1,0)],[(2,0)],[(3,0)],[(4,0)],[(5,0)]]
 rintro i s0 ⟨hi,hs0,hm0⟩;refine cT ?_;refine AWP.condN (i < N) rfl rfl (fun h=>?_) (fun h=>?_)
 ·have r1:=cX bl i (by omega)
  have r2:=cX pl i (by omega);have q1:=hb bl[i] (gMe _);have q2:=hp pl[i] (gMe _);have hr0:=nL of i (by omega);have hx:=hof of[i] (gMe _);have h0:of[i]?=some of[i]:=gEg (by omega)
  have hfi:f i=(List.range bl[i].toNat).map fun j:Nat=>((i:Int),pl[i]+j * of[i].ext):=by
   rw[hf];simp only[List.getD_eq_getElem?_getD,gEg (show i < bl.length by omega),gEg (show i < pl.length by omega),gEg (show i < of.length by omega),Option.getD_some]
  generalize of[i]=x at *;have hsx:=hx;obtain⟨b1,b2,b3,b4,b5,b6,_⟩:=hx;unfold mP at b1 b2 b3 b4 b5 b6;have he:aC Tryz.prog 73 [.agg [.list 2 (enR x.es),iv x.lo,iv x.hi]] (iv x.ext):=eG x (by omega) (by omega) (by omega) (by omega);generalize bl[i]=n at *;generalize pl[i]=p at *
  obtain⟨M,rfl⟩:∃ M:Nat,n=M:=⟨n.toNat,by omega⟩
  rw[Int.toNat_natCast] at hfi
  have hfl:(f i).length=M:=by rw[hfi]; simp
  have hfg:∀ j,j < M→(f i)[j]?=some ((i:Int),p+j * x.ext):=fun j hj=>by rw[hfi]; simp[hj]
  refine cT ?_;refine AWP.loop2 (fun(j:Nat) (_:Shp)=>[(0,.yld 3 0),(1,.cptr [iv k,iv c,iv b,iv st,.list 1 (inR sz),.list 1 (inR bl),.list 1 (inR pl),.list 8 (aO ty)]),(2,.cptr [.list 3 (ofR of)]),(4,iv i),(8,.list 1 (inR bl)),(9,iv N),(10,iv i),(15,iv M),(16,iv j)]) (fun _ s=>lI s.es s.lo s.hi (.lp L (bZ [iv k,iv c,iv b,iv st,.list 1 (inR sz),.list 1 (inR bl),.list 1 (inR pl),.list 8 (aO ty)] of cl) .ready none) []) (fun j s=>j≤M∧stB s∧eW of (dX f i j) shp0=some s) (fun j _=>M - j) 0 s0 ⟨nZl _,hs0,hm0⟩ ?_ ?_
  ·exact Sub.wl [] [[(0,0)],[(1,0)],[(2,0)],[(3,0)],[(4,0)],[(5,0)]]
  rintro j s ⟨hj,hs,hm⟩;refine cT ?_;refine AWP.condN (j < M) rfl rfl (fun h2=>?_) (fun h2=>?_)
  ·refine cT ?_
   have hw2:=sU (a:=(j:Int)) (b:=x.ext) (A:=4096) (B:=1048576) (by omega) (by omega) b5 b6;refine AWP.dky 15 [(0,.yld 3 0),(1,.cptr [iv k,iv c,iv b,iv st,.list 1 (inR sz),.list 1 (inR bl),.list 1 (inR pl),.list 8 (aO ty)]),(2,.cptr [.list 3 (ofR of)]),(4,iv i),(8,.list 1 (inR bl)),(9,iv N),(10,iv i),(15,iv M),(16,iv j),(19,.yld 3 0),(20,iv i),(33,iv (p+j * x.ext))] (lI s.es s.lo s.hi (.lp L (bZ [iv k,iv c,iv b,iv st,.list 1 (inR sz),.list 1 (inR bl),.list 1 (inR pl),.list 8 (aO ty)] of cl) .ready none) []) mixed rfl rfl (by kernel_rfl) (by kernel_rfl) (by kernel_rfl) ?_ ?_
   ·refine aA ?_
    refine DK.nil ⟨by kernel_rfl,?_⟩
    (apply Sub.to [] [[(0,0)],[(1,0)],[(2,0)],[(3,0)],[(4,0)],[(5,0)]]; all_goals (repeat' (first | exact aY.nil | exact aI.nil | exact bK.nil | exact ToL.nil | exact ToR.nil | refine aY.cons ?_ ?_ | refine aI.cons ?_ ?_ | refine fN ?_ ?_ | exact To.undef _ | exact To.sc _ | exact To.hslL rfl rfl | exact To.asl _ _ _ _ _ _ _ rfl | refine To.ifc _ _ _ ?_ | exact To.ptrO rfl rfl rfl | exact To.mrefO rfl | exact To.nil rfl rfl rfl | exact wt1 | exact To.nilL | refine To.int ?_ | refine To.bool ?_ | refine To.hslL rfl ?_ | refine wt2 rfl ?_ ?_ ?_ | refine To.tupL ?_ | refine To.aggL ?_ | refine To.cptrL ?_ | refine To.fzp rfl rfl rfl ?_ | refine To.fzm rfl rfl ?_ | refine To.cloL ?_ ?_ | refine wt3 ?_ | refine wt4 ?_ | exact wt5 | refine wt6 ?_ | refine ToB.one ?_ | exact wt7 | ((with_reducible apply ToL.consE); case e9=>rfl) | refine wt8 ?_ | refine ToL.cons ?_ ?_ | exact wt11 | refine wt9 ?_ ?_ | refine gM ?_ | exact .yld _ _ _ _ rfl | exact .dead _ | exact hlp _ _ _ _ rfl rfl rfl | exact hlp _ _ _ rfl rfl rfl | exact hlp _ _ _ rfl rfl | exact hlp _ _ _ rfl | (with_reducible rfl) | assumption)); all_goals (first | rfl | assumption | (simp; done) | (simp; omega) | (rw[wrap_small (by omega) (by omega)]; done) | (rw[wrap_small (by omega) (by omega)]; omega) | (refine congrArg Nat.cast ?_; assumption) | omega | (exact Av.wrap_small (by omega) (by omega)) | skip))
    all_goals first | exact hlp _ _ _ _ rfl rfl rfl | exact .yld _ _ _ _ rfl | (rw[Av.wrap_small (show -9223372036854775808≤(j:Int) * x.ext by omega) (by omega),Av.wrap_small (by omega) (by omega)])
   ·refine⟨rfl,nlB rfl,3,0,rfl,?_⟩
    refine(oV (xs:=(List.range N).flatMap f) (k:=i) ht hc hL [] h0 hsx hs (by omega) (by omega) hm ?_).mono ?_
    ·obtain⟨r,hr⟩:=xF (f:=f) (j:=j+1) h
     exact⟨r,by rw[hr,gV (hfg j h2)]⟩
    rintro b' H' (⟨rfl,s',hm',hs',rfl⟩ | ⟨rfl,hno,b2',b3',rfl⟩)
    ·refine aA ?_
     refine DK.nil ⟨by kernel_rfl,?_⟩;refine aA ?_;refine⟨j+1,s',⟨by omega,hs',by rw[gV (hfg j h2)]; exact hm'⟩,by omega,?_⟩;exact Sub.wl [] [[(0,0)],[(1,0)],[(2,0)],[(3,0)],[(6,0)],[(5,0)]]
    ·refine aA ?_
     refine DK.nil ⟨by kernel_rfl,?_⟩;refine aA ?_;refine iY (res':=.tup []) (H2:=GG (.lp L (bZ [iv k,iv c,iv b,iv st,.list 1 (inR sz),.list 1 (inR bl),.list 1 (inR pl),.list 8 (aO ty)] of cl) .done (some .ret))) [[(0,0)],[(1,0)],[(2,0)],[(3,0)]] (.inr rfl) rfl (.inr ⟨hno,rfl⟩) ?_ ?_ rfl rfl rfl
     (all_goals exact g8)
     all_goals first | exact hlp _ _ _ _ rfl rfl rfl | exact .yld _ _ _ _ rfl | exact .dead _
  ·obtain rfl:M=j:=by omega
   refine aA ?_;refine⟨i+1,s,⟨by omega,hs,by rw[← jY hfl]; exact hm⟩,by omega,?_⟩;exact Sub.wl [] [[(0,0)],[(1,0)],[(2,0)],[(3,0)],[(4,0)],[(5,0)]]
 ·obtain rfl:N=i:=by omega
  rw[← mJ] at hm0;refine aA ?_;refine iY (res':=.tup []) (H2:=putK s0.es s0.lo s0.hi (.lp L (bZ [iv k,iv c,iv b,iv st,.list 1 (inR sz),.list 1 (inR bl),.list 1 (inR pl),.list 8 (aO ty)] of cl) .ready none)) [[(0,0)],[(1,0)],[(2,0)],[(3,0)],[(4,0)]] (.inl rfl) rfl (.inl ⟨s0,hm0,hs0,rfl⟩) ?_ ?_ rfl rfl rfl
  (all_goals exact g8)
  all_goals first | exact hlp _ _ _ _ rfl rfl rfl | exact .yld _ _ _ _ rfl | exact .dead _
variable {L:LC} {of:List Shp} {cl:AV} {k c b st:Int} {sz bl pl:List Int} {ty:List Ty}
def atI (a:List Nat):List Int:=a.map fun n:Nat=>(n:Int)
theorem E3 (a:List Nat):(inR (atI a)).length=a.length:=by simp[inR,atI]
theorem DU {a:List Nat} {k:Nat} (h:k < a.length):(inR (atI a))[k]?=some [iv (a.getD k 0:Nat)]:=by simp[inR,atI,h]
theorem EJ {a:List Nat} {k:Nat} {v:Nat}:(inR (atI a)).set k [iv v]=inR (atI (a.set k v)):=by
 unfold inR atI;rw[List.map_set,List.map_set]
theorem FP (n:Nat):List.replicate n (d5 [(1,Value.int .i64 0)])=inR (atI (List.replicate n 0)):=by
 unfold inR atI;rw[List.map_replicate,List.map_replicate];rfl
theorem E8 {g i:Nat} {fr:Fr} {H:Heap} {sz bytes n:Nat} {z:List (Nat×Value)} {l:Operand} (hx:ev fr l=.sc (.int .i64 (n:Nat))) (hb:bytes * n≤70368744177664) (hn:n≤1073741824):
  aD g i (.makeSlice sz bytes z l) fr H=some (.hsl g i 0 n,aK H g i (.cells sz (List.replicate n (d5 z)))):=by
 have e:(Nat.ble (bytes * n) 70368744177664 && Nat.ble n 1073741824)=true:=by rw[Nat.ble_eq_true_of_le hb,Nat.ble_eq_true_of_le hn]; rfl
 simp only[aD,hx]
 show(match Nat.ble (bytes * n) 70368744177664 && Nat.ble n 1073741824 with
  | true=>_
  | false=>_)=_
 rw[e]
def kV (sz pl:List Int) (a:List Nat) (k:Nat):Int:=(List.range k).foldl (fun n k=>min (n * sz.getD k 0+pl.getD k 0+(a.getD k 0:Nat)) huge) 0
theorem vL {sz pl:List Int} {a:List Nat} {k:Nat}:kV sz pl a (k+1)=min (kV sz pl a k * sz.getD k 0+pl.getD k 0+(a.getD k 0:Nat)) huge:=by
 unfold kV;rw[List.range_succ,List.foldl_append];rfl
theorem AW (hc:PV cl) (hL:LOK Tryz.prog F165.n L [28,29] (rfA hU) (rfB hU)) {x:Shp} (h0:of[0]?=some x) (hof:shB x) {n:Nat} (hn:n≤4) (hsz:sz.length=n) (hbl:bl.length=n) (hpl:pl.length=n) (hsub:FU sz bl pl=true):
  aE Tryz.prog 209 [.yld 3 0,.cptr [iv k,iv c,iv b,iv st,.list 1 (inR sz),.list 1 (inR bl),.list 1 (inR pl),.list 8 (aO ty)],.cptr [.list 3 (ofR of)]] (FE (.lp L (bZ [iv k,iv c,iv b,iv st,.list 1 (inR sz),.list 1 (inR bl),.list 1 (inR pl),.list 8 (aO ty)] of cl) .ready none)) fun _ H'=>pH L [iv k,iv c,iv b,iv st,.list 1 (inR sz),.list 1 (inR bl),.list 1 (inR pl),.list 8 (aO ty)] of cl (rE sz bl pl x.ext) H':=by
 have ht:PR [iv k,iv c,iv b,iv st,.list 1 (inR sz),.list 1 (inR bl),.list 1 (inR pl),.list 8 (aO ty)]:=⟨pr _⟩
 have hlp:∀(T:AV→AV→Prop) (ρ:Nat→Nat→Option (Nat×Nat)) (st':LoopState) (pe:Option Code),ρ 0 0=some (0,0)→ρ 1 0=some (1,0)→ρ 2 0=some (2,0)→ToB T ρ (.lp L (bZ [iv k,iv c,iv b,iv st,.list 1 (inR sz),.list 1 (inR bl),.list 1 (inR pl),.list 8 (aO ty)] of cl) st' pe) (.lp L (bZ [iv k,iv c,iv b,iv st,.list 1 (inR sz),.list 1 (inR bl),.list 1 (inR pl),.list 8 (aO ty)] of cl) st' pe):=fun T ρ st' pe=>qC ht hc
 have hr0:cW (ofR of) ((0:Nat):Int)=some [.list 2 (enR x.es),iv x.lo,iv x.hi]:=by
  obtain⟨h,rfl⟩:=gEs.1 h0;exact nL of 0 h
 have hx:=hof;obtain⟨b1,b2,b3,b4,b5,b6,_⟩:=hx;unfold mP at b1 b2 b3 b4 b5 b6;have he:aC Tryz.prog 73 [.agg [.list 2 (enR x.es),iv x.lo,iv x.hi]] (iv x.ext):=eG x (by omega) (by omega) (by omega) (by omega)
 have hbs:∀ i,i < n→1≤sz.getD i 0∧sz.getD i 0≤4096∧1≤bl.getD i 0∧bl.getD i 0≤sz.getD i 0∧0≤pl.getD i 0∧pl.getD i 0≤4096:=fun i hi=>by
  have:=List.all_eq_true.1 hsub i (List.mem_range.2 (by omega));simp only[aM,bAe,decide_eq_true_eq] at this;omega
 have hsl:=cH sz
 have hlin:∀(a:List Nat) k,k≤n→0≤kV sz pl a k∧kV sz pl a k≤huge:=fun a k=>by
  induction k with
  | zero=>exact fun _=>⟨by simp[kV],by simp[kV,huge]⟩
  | succ k ih=>
   intro hk;obtain⟨i1,i2⟩:=ih (by omega);obtain⟨g1,g2,_,_,g5,_⟩:=hbs k (by omega);have:=Int.mul_nonneg i1 (show 0≤sz.getD k 0 by omega);rw[vL];unfold huge at *;omega
 have hlS:∀ a,K7 sz pl a=kV sz pl a n:=fun a=>by unfold K7 kV; rw[hsz]
 have hxs:rE sz bl pl x.ext=gI sz bl pl x.ext (prS bl n) (List.replicate n 0):=by
  unfold rE;rw[hsz,← hbl,← tS (Nat.le_refl _),List.take_length]
 rw[hxs];refine aE.of OS ?_ (nlB rfl);refine aA ?_;rw[hsl,hsz];refine Reg.o rfl (E8 rfl (by omega) (by omega)) ?_;refine aA ?_;refine AWP.loop2 (fun(_:List Nat) (_:Shp)=>[(0,.yld 3 0),(1,.cptr [iv k,iv c,iv b,iv st,.list 1 (inR sz),.list 1 (inR bl),.list 1 (inR pl),.list 8 (aO ty)]),(2,.cptr [.list 3 (ofR of)]),(4,.hsl 5 0 0 n)]) (fun a s=>lI s.es s.lo s.hi (.lp L (bZ [iv k,iv c,iv b,iv st,.list 1 (inR sz),.list 1 (inR bl),.list 1 (inR pl),.list 8 (aO ty)] of cl) .ready none) (atI a)) (fun a s=>a.length=n∧okD bl n a∧stB s∧∃ p,eW of p shp0=some s∧gI sz bl pl x.ext (prS bl n) (List.replicate n 0)=p++gI sz bl pl x.ext (prS bl n - rkS bl a n) a) (fun a _=>prS bl n - rkS bl a n) (List.replicate n 0) shp0 ⟨List.length_replicate,fun i hi=>?_,yT,[],rfl,by rw[DD]; rfl⟩ ?_ ?_
 ·have:=(hbs i hi).2.2.1
  rw[show(List.replicate n 0).getD i 0=0 by simp[List.getD_eq_getElem?_getD,hi]];omega
 ·rw[FP]
  exact Sub.wl [2] [[(0,0)],[(1,0)],[(2,0)],[(3,0)],[(5,0)],[(4,0)]]
 rintro a s0 ⟨hla,hoa,hs0,p,hp,hall⟩;have hrk:=KY hoa
 obtain⟨F,hF⟩:∃ F,prS bl n - rkS bl a n=F+1:=⟨prS bl n - rkS bl a n - 1,by omega⟩
 rw[hF] at hall ⊢;refine aA ?_;have hal:=E3 a;refine AWP.loop (fun q:Nat=>[(0,.yld 3 0),(1,.cptr [iv k,iv c,iv b,iv st,.list 1 (inR sz),.list 1 (inR bl),.list 1 (inR pl),.list 8 (aO ty)]),(2,.cptr [.list 3 (ofR of)]),(4,.hsl 5 0 0 n),(5,iv (kV sz pl a q)),(14,.list 1 (inR sz)),(15,iv n),(16,iv q)]) (fun _=>lI s0.es s0.lo s0.hi (.lp L (bZ [iv k,iv c,iv b,iv st,.list 1 (inR sz),.list 1 (inR bl),.list 1 (inR pl),.list 8 (aO ty)] of cl) .ready none) (atI a)) (fun q=>q≤n) (fun q=>n - q) 0 (nZl _) ?_ ?_
 ·rw[← hsz,← hsl]
  exact Sub.wl [] [[(0,0)],[(1,0)],[(2,0)],[(3,0)],[(4,0)],[(5,0)]]
 ·rintro q hq
  refine aA ?_;refine AWP.condN (q < n) rfl rfl (fun h=>?_) (fun h=>?_)
  ·have r1:=cX sz q (by omega)
   have r3:=cX pl q (by omega);have r2:=DU (a:=a) (k:=q) (by omega)
   have e1:sz.getD q 0=sz[q]:=by simp[show q < sz.length by omega]
   have e3:pl.getD q 0=pl[q]:=by simp[show q < pl.length by omega]
   rw[← e1] at r1;rw[← e3] at r3;have hl1:=hlin a q hq;have hl2:kV sz pl a (q+1)=_:=vL;obtain⟨g1,g2,g3,g4,g5,g6⟩:=hbs q h;have g7:=hoa q h;generalize kV sz pl a q=u at *;generalize sz.getD q 0=z at *;generalize pl.getD q 0=pq at *;generalize a.getD q 0=aq at *;unfold huge at hl1 hl2;have hw:=sU (a:=u) (b:=z) (A:=1099511627776) (B:=4096) (by omega) (by omega) (by omega) (by omega);refine aA ?_;rw[Av.wrap_small (show -9223372036854775808≤u * z by omega) (by omega),Av.wrap_small (show -9223372036854775808≤u * z+pq by omega) (by omega),Av.wrap_small (show -9223372036854775808≤u * z+pq+(aq:Nat) by omega) (by omega)];refine DK.nil ⟨by kernel_rfl,?_⟩;refine aA ?_;refine⟨q+1,by omega,by omega,?_⟩
   (apply Sub.to [] [[(0,0)],[(1,0)],[(2,0)],[(3,0)],[(4,0)],[(5,0)]]; all_goals (repeat' (first | exact aY.nil | exact aI.nil | exact bK.nil | exact ToL.nil | exact ToR.nil | refine aY.cons ?_ ?_ | refine aI.cons ?_ ?_ | refine fN ?_ ?_ | exact To.undef _ | exact To.sc _ | exact To.hslL rfl rfl | exact To.asl _ _ _ _ _ _ _ rfl | refine To.ifc _ _ _ ?_ | exact To.ptrO rfl rfl rfl | exact To.mrefO rfl | exact To.nil rfl rfl rfl | exact wt1 | exact To.nilL | refine To.int ?_ | refine To.bool ?_ | refine To.hslL rfl ?_ | refine wt2 rfl ?_ ?_ ?_ | refine To.tupL ?_ | refine To.aggL ?_ | refine To.cptrL ?_ | refine To.fzp rfl rfl rfl ?_ | refine To.fzm rfl rfl ?_ | refine To.cloL ?_ ?_ | refine wt3 ?_ | refine wt4 ?_ | exact wt5 | refine wt6 ?_ | refine ToB.one ?_ | exact wt7 | ((with_reducible apply ToL.consE); case e9=>rfl) | refine wt8 ?_ | refine ToL.cons ?_ ?_ | exact wt11 | refine wt9 ?_ ?_ | refine gM ?_ | exact .yld _ _ _ _ rfl | exact .dead _ | exact hlp _ _ _ _ rfl rfl rfl | exact hlp _ _ _ rfl rfl rfl | exact hlp _ _ _ rfl rfl | exact hlp _ _ _ rfl | (with_reducible rfl) | assumption)); all_goals (first | rfl | assumption | (simp; done) | (simp; omega) | (rw[wrap_small (by omega) (by omega)]; done) | (rw[wrap_small (by omega) (by omega)]; omega) | (refine congrArg Nat.cast ?_; assumption) | omega | (exact Av.wrap_small (by omega) (by omega)) | skip))
   all_goals first | exact hlp _ _ _ _ rfl rfl rfl | exact .yld _ _ _ _ rfl | (rw[hl2]; omega)
  ·obtain rfl:n=q:=by omega
   have hl1:=hlin a n (Nat.le_refl _);rw[← hlS] at hl1 ⊢
   have hxs:gI sz bl pl x.ext (F+1) a=(0,K7 sz pl a * x.ext)::match sV bl n a with
    | some b=>gI sz bl pl x.ext F b
    | none=>[]:=by
    rw[gI,hsz]
    cases sV bl n a<;>rfl
   generalize K7 sz pl a=u at *;unfold huge at hl1;have hw:=sU (a:=u) (b:=x.ext) (A:=1099511627776) (B:=1048576) (by omega) (by omega) b5 b6;rw[hxs] at hall;have hinc:=AY n a (Nat.le_refl _) hla hoa;generalize hxa:gI sz bl pl x.ext (prS bl n) (List.replicate n 0)=xs at *;refine AWP.exit ?_;refine AWP.seq ?_;refine AWP.seq ?_;refine AWP.rG rfl ?_;refine aA ?_;rw[Av.wrap_small (show -9223372036854775808≤u * x.ext by omega) (by omega)];refine⟨rfl,nlB rfl,3,0,rfl,?_⟩;refine(oV (xs:=xs) (k:=0) ht hc hL (atI a) h0 hof hs0 (by omega) (by omega) hp ⟨_,by rw[hall,List.append_assoc]; rfl⟩).mono ?_;rintro b' H' (⟨rfl,s',hm',hs',rfl⟩ | ⟨rfl,hno,b2',b3',rfl⟩)
   ·refine aA ?_
    refine AWP.loop2 (fun(kk:Nat) (_:List Nat)=>[(0,.yld 3 0),(1,.cptr [iv k,iv c,iv b,iv st,.list 1 (inR sz),.list 1 (inR bl),.list 1 (inR pl),.list 8 (aO ty)]),(2,.cptr [.list 3 (ofR of)]),(4,.hsl 5 0 0 n),(8,iv ((kk:Int) - 1))]) (fun _ a2=>lI s'.es s'.lo s'.hi (.lp L (bZ [iv k,iv c,iv b,iv st,.list 1 (inR sz),.list 1 (inR bl),.list 1 (inR pl),.list 8 (aO ty)] of cl) .ready none) (atI a2)) (fun kk a2=>kk≤n∧a2.length=n∧okD bl kk a2∧sV bl kk a2=sV bl n a) (fun kk _=>kk) n a ⟨Nat.le_refl _,hla,hoa,rfl⟩ ?_ ?_
    ·exact Sub.wl [] [[(0,0)],[(1,0)],[(2,0)],[(3,0)],[(6,0)],[(5,0)]]
    rintro kk a2 ⟨hk,hl2,ho2,hi2⟩;refine aA ?_;refine AWP.condN (0 < kk) rfl (by simp; omega) (fun h5=>?_) (fun h5=>?_)
    ·obtain⟨q,rfl⟩:∃ q,kk=q+1:=⟨kk - 1,by omega⟩
     rw[show((q+1:Nat):Int) - 1=(q:Int) by omega];have r1:=cX bl q (by omega)
     have e1:bl.getD q 0=bl[q]:=by simp[show q < bl.length by omega]
     rw[← e1] at r1;have r2:=DU (a:=a2) (k:=q) (by omega);have hg:=hbs q (by omega);have hoq:=ho2 q (by omega);rw[sV] at hi2;have hal2:=E3 a2;refine aA ?_;refine DK.o rfl (qD rfl rfl (List.getElem?_set_self (by rw[hal2]; omega)) rfl) ?_;refine aA ?_;refine DK.nil ⟨by kernel_rfl,?_⟩;refine aA ?_;refine AWP.condN (((a2.getD q 0:Nat):Int)+1 < bl.getD q 0) rfl (by simp) (fun h6=>?_) (fun h6=>?_)
     ·rw[if_pos h6] at hi2
      rw[← hi2] at hinc hall;obtain⟨i1,i2,i3,i4⟩:=hinc;have hlt:=KY i3;refine aA ?_;refine⟨a2.set q (a2.getD q 0+1),s',⟨i1,i3,hs',p++[(0,u * x.ext)],hm',by rw[hall,List.append_assoc,show prS bl n - rkS bl (a2.set q (a2.getD q 0+1)) n=F by omega]; rfl⟩,by omega,?_⟩
      (apply Sub.to [] [[(0,0)],[(1,0)],[(2,0)],[(3,0)],[(4,0)],[(5,0)]]; all_goals (repeat' (first | exact aY.nil | exact aI.nil | exact bK.nil | exact ToL.nil | exact ToR.nil | refine aY.cons ?_ ?_ | refine aI.cons ?_ ?_ | refine fN ?_ ?_ | exact To.undef _ | exact To.sc _ | exact To.hslL rfl rfl | exact To.asl _ _ _ _ _ _ _ rfl | refine To.ifc _ _ _ ?_ | exact To.ptrO rfl rfl rfl | exact To.mrefO rfl | exact To.nil rfl rfl rfl | exact wt1 | exact To.nilL | refine To.int ?_ | refine To.bool ?_ | refine To.hslL rfl ?_ | refine wt2 rfl ?_ ?_ ?_ | refine To.tupL ?_ | refine To.aggL ?_ | refine To.cptrL ?_ | refine To.fzp rfl rfl rfl ?_ | refine To.fzm rfl rfl ?_ | refine To.cloL ?_ ?_ | refine wt3 ?_ | refine wt4 ?_ | exact wt5 | refine wt6 ?_ | refine ToB.one ?_ | exact wt7 | ((with_reducible apply ToL.consE); case e9=>rfl) | refine wt8 ?_ | refine ToL.cons ?_ ?_ | exact wt11 | refine wt9 ?_ ?_ | refine gM ?_ | exact .yld _ _ _ _ rfl | exact .dead _ | exact hlp _ _ _ _ rfl rfl rfl | exact hlp _ _ _ rfl rfl rfl | exact hlp _ _ _ rfl rfl | exact hlp _ _ _ rfl | (with_reducible rfl) | assumption)); all_goals (first | rfl | assumption | (simp; done) | (simp; omega) | (rw[wrap_small (by omega) (by omega)]; done) | (rw[wrap_small (by omega) (by omega)]; omega) | (refine congrArg Nat.cast ?_; assumption) | omega | (exact Av.wrap_small (by omega) (by omega)) | skip))
      all_goals first | exact hlp _ _ _ _ rfl rfl rfl | exact .yld _ _ _ _ rfl | exact EJ
     ·rw[if_neg h6] at hi2
      refine aA ?_;refine Reg.on rfl (pR rfl rfl rfl (List.getElem?_set_self (by rw[hal2]; omega)) (by simp) rfl) ?_;refine aA ?_;refine⟨q,a2.set q 0,⟨by omega,by rw[List.length_set]; exact hl2,fun i hi'=>by rw[fO (by omega),if_neg (by omega)]; exact ho2 i (by omega),hi2⟩,by omega,?_⟩
      (apply Sub.to [] [[(0,0)],[(1,0)],[(2,0)],[(3,0)],[(4,0)],[(5,0)]]; all_goals (repeat' (first | exact aY.nil | exact aI.nil | exact bK.nil | exact ToL.nil | exact ToR.nil | refine aY.cons ?_ ?_ | refine aI.cons ?_ ?_ | refine fN ?_ ?_ | exact To.undef _ | exact To.sc _ | exact To.hslL rfl rfl | exact To.asl _ _ _ _ _ _ _ rfl | refine To.ifc _ _ _ ?_ | exact To.ptrO rfl rfl rfl | exact To.mrefO rfl | exact To.nil rfl rfl rfl | exact wt1 | exact To.nilL | refine To.int ?_ | refine To.bool ?_ | refine To.hslL rfl ?_ | refine wt2 rfl ?_ ?_ ?_ | refine To.tupL ?_ | refine To.aggL ?_ | refine To.cptrL ?_ | refine To.fzp rfl rfl rfl ?_ | refine To.fzm rfl rfl ?_ | refine To.cloL ?_ ?_ | refine wt3 ?_ | refine wt4 ?_ | exact wt5 | refine wt6 ?_ | refine ToB.one ?_ | exact wt7 | ((with_reducible apply ToL.consE); case e9=>rfl) | refine wt8 ?_ | refine ToL.cons ?_ ?_ | exact wt11 | refine wt9 ?_ ?_ | refine gM ?_ | exact .yld _ _ _ _ rfl | exact .dead _ | exact hlp _ _ _ _ rfl rfl rfl | exact hlp _ _ _ rfl rfl rfl | exact hlp _ _ _ rfl rfl | exact hlp _ _ _ rfl | (with_reducible rfl) | assumption)); all_goals (first | rfl | assumption | (simp; done) | (simp; omega) | (rw[wrap_small (by omega) (by omega)]; done) | (rw[wrap_small (by omega) (by omega)]; omega) | (refine congrArg Nat.cast ?_; assumption) | omega | (exact Av.wrap_small (by omega) (by omega)) | skip))
      all_goals first | exact hlp _ _ _ _ rfl rfl rfl | exact .yld _ _ _ _ rfl | (rw[List.set_set]; exact EJ)
    ·obtain rfl:kk=0:=by omega
     rw[show sV bl 0 a2=none from rfl] at hi2;rw[← hi2] at hall;refine aA ?_;refine iY (res':=.tup []) (H2:=putK s'.es s'.lo s'.hi (.lp L (bZ [iv k,iv c,iv b,iv st,.list 1 (inR sz),.list 1 (inR bl),.list 1 (inR pl),.list 8 (aO ty)] of cl) .ready none)) [[(0,0)],[(1,0)],[(2,0)],[(3,0)],[(4,0)]] (.inr rfl) rfl (.inl ⟨s',by rw[hall]; exact hm',hs',rfl⟩) ?_ ?_ rfl rfl rfl
     (all_goals exact g8)
     all_goals first | exact hlp _ _ _ _ rfl rfl rfl | exact .yld _ _ _ _ rfl | exact .dead _
   ·refine aA ?_
    refine iY (res':=.tup []) (H2:=GG (.lp L (bZ [iv k,iv c,iv b,iv st,.list 1 (inR sz),.list 1 (inR bl),.list 1 (inR pl),.list 8 (aO ty)] of cl) .done (some .ret))) [[(0,0)],[(1,0)],[(2,0)],[(3,0)]] (.inr rfl) rfl (.inr ⟨hno,rfl⟩) ?_ ?_ rfl rfl rfl
    (all_goals exact g8)
    all_goals first | exact hlp _ _ _ _ rfl rfl rfl | exact .yld _ _ _ _ rfl | exact .dead _
variable {k c b st:Int} {sz bl pl:List Int} {ty:List Ty} {of:List Shp}
def mkC (tc:List AV) (of:List Shp) (it:Nat):AV:=.clo (.func it) [] [.cptr tc,.cptr [.list 3 (ofR of)]]
def Mk (mv it:Nat):Prop:=∀(k c b st:Int) (sz bl pl:List Int) (ty:List Ty) (of:List Shp),aC Tryz.prog mv [.agg [iv k,iv c,iv b,iv st,.list 1 (inR sz),.list 1 (inR bl),.list 1 (inR pl),.list 8 (aO ty)],.list 3 (ofR of)] (mkC [iv k,iv c,iv b,iv st,.list 1 (inR sz),.list 1 (inR bl),.list 1 (inR pl),.list 8 (aO ty)] of it)
theorem wK:Mk 184 204:=fun k c b st sz bl pl ty of=>by
 refine aC.mkI (hX:=by unfold mkC; infer_instance) NM (nlB rfl) ?_;unfold mkC;refine aA ?_;exact aG.w
theorem GF:Mk 186 205:=fun k c b st sz bl pl ty of=>by
 refine aC.mkI (hX:=by unfold mkC; infer_instance) N0 (nlB rfl) ?_;unfold mkC;refine aA ?_;exact aG.w
theorem B7:Mk 188 207:=fun k c b st sz bl pl ty of=>by
 refine aC.mkI (hX:=by unfold mkC; infer_instance) OY (nlB rfl) ?_;unfold mkC;refine aA ?_;exact aG.w
theorem uV:Mk 189 208:=fun k c b st sz bl pl ty of=>by
 refine aC.mkI (hX:=by unfold mkC; infer_instance) N3 (nlB rfl) ?_;unfold mkC;refine aA ?_;exact aG.w
theorem y6:Mk 192 209:=fun k c b st sz bl pl ty of=>by
 refine aC.mkI (hX:=by unfold mkC; infer_instance) NX (nlB rfl) ?_;unfold mkC;refine aA ?_;exact aG.w
theorem J7 (es:List (Int×Int)) (hne:es≠[]) (hb:∀ y∈es,-big≤y.2∧y.2≤big):-big≤(cA es).1∧(cA es).1≤big∧-big≤(cA es).2∧(cA es).2≤big+8:=by
 have key:∀(l:List (Int×Int)) (p:Int×Int),(∀ y∈l,-big≤y.2∧y.2≤big)→(-big≤p.1∧p.1≤big∧-big≤p.2∧p.2≤big+8)→(-big≤(l.foldl tiF p).1∧(l.foldl tiF p).1≤big∧-big≤(l.foldl tiF p).2∧(l.foldl tiF p).2≤big+8):=by
  intro l
  induction l with
  | nil=>exact fun p _ h=>h
  | cons x l ih=>
   intro p hl hp;have hx:=hl x (by simp);have hs:=hZ x.1;refine ih (tiF p x) (fun y hy=>hl y (by simp[hy])) ?_;unfold tiF big at *;simp only;omega
 have h0:-big≤(es.headD (0,0)).2∧(es.headD (0,0)).2≤big:=by
  cases es with
  | nil=>exact absurd rfl hne
  | cons x r=>exact hb x (by simp)
 exact key es _ hb ⟨h0.1,h0.2,h0.1,by show(es.headD (0,0)).2≤big+8; omega⟩
def qH (es:List (Int×Int)) (lo hi:Int):Heap:=[[.cells 3 [r0S]],[.cells 1 [[iv 0]]],[.cells 3 [[.hsl 4 0 0 es.length,iv lo,iv hi]]],[.dead],[.cells 2 (enR es)]]
noncomputable def PZ:bL:=i6 [1,1,1,1] F165.code
theorem xS {es:List (Int×Int)} {lo hi:Int} (hne:es≠[]) (hn:es.length≤4096) (hb:∀ y∈es,-big≤y.2∧y.2≤big) (hlo:-big≤lo∧lo≤big) (hhi:-big≤hi∧hi≤big):
  AWP Tryz.prog F165.n 0 PZ (aG F165.res (.tup [.agg (if okS ⟨es,lo,hi⟩=true then shR ⟨es,lo,hi⟩ else shR shp0),iv (if okS ⟨es,lo,hi⟩=true then 0 else 3)])) [(6,.ptr 0 0 0 0),(7,.ptr 1 0 0 0),(8,.ptr 2 0 0 0)] (qH es lo hi):=by
 have ht:=KE es hne (by omega) hb;have htb:=J7 es hne hb
 have hpl:Plain (.tup [iv (cA es).1,iv (cA es).2]):=.tup _ fun c hc=>by
  simp only[List.mem_cons,List.not_mem_nil,or_false] at hc
  rcases hc with h | h<;>subst h<;>exact .sc _
 have hen:=dH es;unfold big at *;have hex:aC Tryz.prog 73 [.agg [.list 2 (enR es),iv lo,iv hi]] (iv (hi - lo)):=eG ⟨es,lo,hi⟩ (by show _≤lo; omega) (by show lo≤_; omega) (by show _≤hi; omega) (by show hi≤_; omega)
 have hok:okS ⟨es,lo,hi⟩=kS [lo,hi,hi - lo,(cA es).1,(cA es).2,(cA es).2 - (cA es).1] (-mP) mP:=by
  unfold okS kS;simp only[List.all_cons,List.all_nil,Bool.and_true,Bool.and_assoc];rfl
 rw[hok];generalize hl6:([lo,hi,hi - lo,(cA es).1,(cA es).2,(cA es).2 - (cA es).1]:List Int)=l6
 have hl6n:l6.length=6:=by rw[← hl6]; rfl
 have hil:=cH l6;show AWP _ _ _ (.seq _ _) _ _ _;refine aA ?_
 (refine Reg.pv (by first | exact nZl _ | exact Nat.le_refl _ | (simp; done) | (simp; omega)) rfl ht (by first | exact .sc _ | (exact .agg _ (fun c hc=>by simp at hc; rcases hc with h | h<;>subst h<;>exact .sc _)) | assumption) ?vw9 ?_; case vw9=>(all_goals (repeat' (first | exact aY.nil | exact aI.nil | exact bK.nil | exact ToL.nil | exact ToR.nil | refine aY.cons ?_ ?_ | refine aI.cons ?_ ?_ | refine fN ?_ ?_ | exact To.undef _ | exact To.sc _ | exact To.hslL rfl rfl | exact To.asl _ _ _ _ _ _ _ rfl | refine To.ifc _ _ _ ?_ | exact To.ptrO rfl rfl rfl | exact To.mrefO rfl | exact To.nil rfl rfl rfl | exact wt1 | exact To.nilL | refine To.int ?_ | refine To.bool ?_ | refine To.hslL rfl ?_ | refine wt2 rfl ?_ ?_ ?_ | refine To.tupL ?_ | refine To.aggL ?_ | refine To.cptrL ?_ | refine To.fzp rfl rfl rfl ?_ | refine To.fzm rfl rfl ?_ | refine To.cloL ?_ ?_ | refine wt3 ?_ | refine wt4 ?_ | exact wt5 | refine wt6 ?_ | refine ToB.one ?_ | exact wt7 | ((with_reducible apply ToL.consE); case e9=>rfl) | refine wt8 ?_ | refine ToL.cons ?_ ?_ | exact wt11 | refine wt9 ?_ ?_ | refine gM ?_ | exact .yld _ _ _ _ rfl | exact .dead _ | exact hlp _ _ _ _ rfl rfl rfl | exact hlp _ _ _ rfl rfl rfl | exact hlp _ _ _ rfl rfl | exact hlp _ _ _ rfl | (with_reducible rfl) | assumption)); all_goals (first | rfl | assumption | (simp; done) | (simp; omega))))
 refine cT ?_;refine AWP.sub (fr':=[(6,.ptr 0 0 0 0),(7,.ptr 1 0 0 0),(8,.cptr [.list 2 (enR es),iv lo,iv hi]),(19,iv (cA es).1),(20,iv (cA es).2)]) (H':=[[.cells 3 [r0S]],[.cells 1 [[iv 0]]]]) ?_ ?_
 ·exact Sub.wl [] [[(0,0)],[(1,0)]]
 refine aA ?_;rw[Av.wrap_small (show -9223372036854775808≤(cA es).2 - (cA es).1 by omega) (by omega)];refine aA ?_;refine DK.nil ⟨by kernel_rfl,?_⟩;refine aA ?_;refine AWP.loop (fun i:Nat=>[(6,.ptr 0 0 0 0),(7,.ptr 1 0 0 0),(8,.cptr [.list 2 (enR es),iv lo,iv hi]),(156,.list 1 (inR l6)),(157,iv 6),(158,iv i)]) (fun _=>[[.cells 3 [r0S]],[.cells 1 [[iv 0]]]]) (fun i=>i≤6∧∀ j (h:j < l6.length),j < i→aM l6[j] (-mP) mP=true) (fun i=>6 - i) 0 ⟨nZl _,fun j _ hj=>by omega⟩ ?_ ?_
 ·rw[← hl6]
  exact Sub.wl [] [[(0,0)],[(1,0)]]
 rintro i ⟨hi6,hin⟩;refine aA ?_;refine AWP.condN (i < 6) rfl (by first | rfl | (simp; done) | (simp; omega)) (fun h=>?_) (fun h=>?_)
 ·have r1:=cX l6 i (by omega)
  have w:=cZ l6[i] (-1048576) 1048576
  cases hw:aM l6[i] (-1048576) 1048576 with
  | true=>
   rw[hw] at w;refine aA ?_;refine⟨i+1,⟨by omega,fun j hj hji=>?_⟩,by omega,?_⟩
   ·by_cases e:j=i
    ·subst e; exact hw
    ·exact hin j hj (by omega)
   (refine Sub.keep ?_; repeat' (first | exact trivial | exact Le.refl _ | refine⟨?_,?_⟩))
  | false=>
   rw[hw] at w;have e1:kS l6 (-mP) mP=false:=List.all_eq_false.2 ⟨l6[i],gMe _,by simp[show aM l6[i] (-mP) mP=false from hw]⟩;rw[e1];refine aA ?_;exact aG.w
 ·have e1:kS l6 (-mP) mP=true:=List.all_eq_true.2 fun n hn=>by
   obtain⟨j,hj,rfl⟩:=List.getElem_of_mem hn;exact hin j hj (by omega)
  rw[e1];refine aA ?_;exact aG.w
end Go.Proofs.YtgdocflpobncmaaGreat
