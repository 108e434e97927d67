import Derived.Test.YtgdocflpobncmaaGreatGFtD7
import Derived.Test.YtgdocflpobncmaaGreatGAvG
import Derived.Test.YtgdocflpobncmaaGreatProg
import Derived.KernelRfl
import Derived.Test.YtgdocflpobncmaaGreatGFiK1
import Derived.Shelf.Sort.Plain
import Derived.Shelf.Slices.In.SortNone
set_option maxHeartbeats 4000000
namespace Go.Proofs.YtgdocflpobncmaaGreat
open Go.Av Go.Proofs
set_option maxRecDepth 20000
structure Sn where
 at':Int
 elem:Int
 ext:Int
 pl:List Int
def sn0:Sn:=⟨0,0,0,[]⟩
def snR (s:Sn):List AV:=[iv s.at',iv s.elem,iv s.ext,.list 1 (inR s.pl)]
theorem ON (es:List (Int×Int)) (hb:∀ y∈es,-mP≤y.2∧y.2≤mP):∀ p∈cO es,-2000000≤p∧p≤2000000:=fun p hp=>by
 obtain⟨i,hi,hp⟩:=List.mem_flatMap.1 hp;obtain⟨j,hj,rfl⟩:=List.mem_map.1 hp;have hi:=List.mem_range.1 hi;have h1:=hb es[i] (gMe _);have h2:=hZ (es.getD i (0,0)).1;have h3:=List.mem_range.1 hj
 have h4:es.getD i (0,0)=es[i]:=by simp[hi]
 rw[h4] at h2 h3 ⊢;unfold mP at h1;omega
def vwR (a:Int) (e o:Ty):List AV:=iv a::(tyR e++tyR o)
def j7 (pl:List Int) (i:Nat):Int:=if i=0 then -1 else pl.getD (i - 1) 0
def rN (pl:List Int) (ext:Int):Bool:=(List.range pl.length).all fun i=>decide (j7 pl i < pl.getD i 0) && decide (pl.getD i 0 < ext)
def FX (elem size:Nat):Bool:=decide (1≤elem) && (decide (1≤size) && decide (size % elem=0))
def dJ (a:Int) (e o:Ty):Int×Sn:=
 if a < 0∨65536 < a then(3,sn0)
 else if (bF e).1≠0 then((bF e).1,sn0)
 else if (bF o).1≠0 then((bF o).1,sn0)
 else if rN (cO (bF o).2.es) (bF o).2.ext=true then
  if FX (bI (bF e).2.es) (bI (bF o).2.es)=true then(0,⟨a,bI (bF e).2.es,(bF o).2.ext,cO (bF o).2.es⟩) else(2,sn0)
 else(2,sn0)
theorem nP (es:List (Int×Int)):(cO es).length=bI es:=by
 have:=xK es es.length (Nat.le_refl _);rw[List.take_length,← mJ] at this;exact this
theorem yU {a:Int} {e o:Ty} (he:iK 8 e) (ho:iK 8 o):aC Tryz.prog 63 [.agg (vwR a e o)] (.tup [.agg (snR (dJ a e o).2),iv (dJ a e o).1]):=by
 refine aC.mkI (hX:=⟨.tup _ (by
  intro c hc;simp only[List.mem_cons,List.not_mem_nil,or_false] at hc
  rcases hc with rfl | rfl
  ·unfold snR; exact pv _
  ·exact .sc _)⟩) (ha:=⟨by
  intro c hc;rw[List.mem_singleton.1 hc];unfold vwR
  exact pv _⟩) cF63 (nlB rfl) ?_
 have e1:=xH he;have o1:=xH ho;have o2:=GA ho;have o3:=yJ ho;have hol:=j8 ho;have hel:=j8 he;have hsb:=j5 ho;unfold dJ;generalize bF e=re at *;generalize bF o=ro at *;obtain⟨ee,se⟩:=re;obtain⟨eo,so⟩:=ro;simp only at e1 o1 o2 o3 hol hel hsb ⊢;obtain⟨_,k1,c1,b1,s1,z1,l1,p1,f1,_,rfl,_⟩:=cK he;obtain⟨_,k2,c2,b2,s2,z2,l2,p2,f2,_,rfl,_⟩:=cK ho;have hn1:=gR se.es;have hn2:=gR so.es;have hpl:=nP so.es;generalize hne:bI se.es=ne at *;generalize hno:bI so.es=no at *;rw[tyR] at e1 o1 o2 o3;unfold vwR;rw[tyR,tyR];unfold snR;refine aA ?_
 by_cases ha:a < 0
 ·rw[dTr ha,if_pos (.inl ha)]
  refine aA ?_;exact aG.w
 rw[dFa ha];refine aA ?_;refine AWP.condN (65536 < a) rfl rfl (fun h=>?_) (fun h=>?_)
 ·rw[if_pos (.inr h)]
  refine aA ?_;exact aG.w
 rw[if_neg (by omega)];refine aA ?_;refine AWP.condN (ee≠0) rfl (fX _) (fun h1=>?_) (fun h1=>?_)
 ·rw[if_pos h1]
  refine aA ?_;exact aG.w
 rw[if_neg h1];refine aA ?_;refine AWP.condN (eo≠0) rfl (fX _) (fun h2=>?_) (fun h2=>?_)
 ·rw[if_pos h2]
  refine aA ?_;exact aG.w
 rw[if_neg h2];obtain rfl:eo=0:=dBc h2;have hB:=hsb rfl;have hsg:=nJ (fun p=>-2000000≤p∧p≤2000000) _ (cO so.es) rfl (fun p hp=>ON so.es hB.2.2.2.2.2.2.2.2 p hp);have hex:=xN _ (cO so.es) rfl;have hcol:=K9 (bY (cO so.es)) (by omega) (fun x hx=>⟨(hsg.2 x hx).1,by have:=(hsg.2 x hx).2; omega⟩) (by rw[hex]; omega);rw[hex] at hcol;have hea:=IT (bY (cO so.es));generalize bY (cO so.es)=sg at *;generalize cO so.es=pl at *;generalize so.ext=ext at *;have hil:=cH pl;refine aA ?_;refine DK.nil ⟨by kernel_rfl,?_⟩;refine aA ?_;refine AWP.loop (fun i:Nat=>[(2,.ptr 0 0 0 0),(4,iv ne),(6,iv no),(8,iv ext),(11,.cptr [iv a,iv ne,iv ext,.list 1 (inR pl)]),(12,iv (j7 pl i)),(70,.list 1 (inR pl)),(71,iv pl.length),(72,iv i)]) (fun _=>[[.cells 4 [[iv 0,iv 0,iv 0,.sc (.slice none 0 0)]]]]) (fun i=>i≤pl.length∧∀ j,j < i→(decide (j7 pl j < pl.getD j 0) && decide (pl.getD j 0 < ext))=true) (fun i=>pl.length - i) 0 ⟨nZl _,fun j hj=>by omega⟩ ?_ ?_
 ·rw[← hil]
  exact Sub.wl [] [[(1,0)]]
 rintro i ⟨hi,hin⟩;refine aA ?_;refine AWP.condN (i < pl.length) rfl rfl (fun h5=>?_) (fun h5=>?_)
 ·have hr:=cX pl i h5
  have hg:pl.getD i 0=pl[i]:=by simp[h5]
  have hls:j7 pl (i+1)=pl[i]:=by unfold j7; rw[if_neg (by omega)]; exact hg
  have hno':(decide (j7 pl i < pl.getD i 0) && decide (pl.getD i 0 < ext))=false→rN pl ext=false:=fun hf=>List.all_eq_false.2 ⟨i,List.mem_range.2 h5,by rw[hf]; simp⟩
  rw[hg] at hno'
  have hin':j7 pl i < pl[i]→pl[i] < ext→∀ j,j < i+1→(decide (j7 pl j < pl.getD j 0) && decide (pl.getD j 0 < ext))=true:=fun q1 q2 j hj=>by
   by_cases ej:j=i
   ·subst ej; rw[hg,dTr q1,dTr q2]; rfl
   ·exact hin j (by omega)
  generalize pl[i]=p at *;generalize j7 pl i=la at *;refine aA ?_
  by_cases q1:p≤la
  ·rw[dTr q1]
   refine aA ?_;rw[hno' (by rw[dFa (by omega)]; rfl),if_neg (by simp),show sn0.at'=0 from rfl,show sn0.elem=0 from rfl,show sn0.ext=0 from rfl,show sn0.pl=[] from rfl];exact aG.w
  ·rw[dFa q1]
   refine aA ?_;refine AWP.condN (ext≤p) rfl rfl (fun q2=>?_) (fun q2=>?_)
   ·refine aA ?_
    rw[hno' (by rw[dFa (show¬ p < ext by omega),Bool.and_false]),if_neg (by simp),show sn0.at'=0 from rfl,show sn0.elem=0 from rfl,show sn0.ext=0 from rfl,show sn0.pl=[] from rfl];exact aG.w
   ·refine aA ?_
    refine⟨i+1,⟨by omega,hin' (by omega) (by omega)⟩,by omega,?_⟩;rw[hls];exact Sub.wl [] [[(0,0)]]
 ·obtain rfl:pl.length=i:=by omega
  rw[show rN pl ext=true from List.all_eq_true.2 fun j hj=>hin j (List.mem_range.1 hj),if_pos rfl];refine aA ?_;unfold FX
  by_cases g1:ne < 1
  ·rw[dTr g1,dFa (show¬ 1≤ne by omega)]
   refine aA ?_;rw[if_neg (by simp),show sn0.at'=0 from rfl,show sn0.elem=0 from rfl,show sn0.ext=0 from rfl,show sn0.pl=[] from rfl];exact aG.w
  rw[dFa g1,dTr (show 1≤ne by omega)];refine aA ?_
  by_cases g2:no < 1
  ·rw[dTr g2,dFa (show¬ 1≤no by omega)]
   refine aA ?_;rw[if_neg (by simp),show sn0.at'=0 from rfl,show sn0.elem=0 from rfl,show sn0.ext=0 from rfl,show sn0.pl=[] from rfl];exact aG.w
  rw[dFa g2,dTr (show 1≤no by omega)];refine aA ?_;refine AWP.condN (¬ no % ne=0) rfl (by first | rfl | (simp; done)) (fun g3=>?_) (fun g3=>?_)
  ·rw[dFa g3,if_neg (by simp),show sn0.at'=0 from rfl,show sn0.elem=0 from rfl,show sn0.ext=0 from rfl,show sn0.pl=[] from rfl]
   refine aA ?_;exact aG.w
  ·rw[dTr (dBc g3),if_pos (by rfl)]
   refine aA ?_;exact aG.w
def eP (s:Sn) (k:Nat):Int:=s.at'+((k / s.pl.length:Nat):Int) * s.ext+s.pl.getD (k % s.pl.length) 0
def gQ (s:Sn) (off n:Nat):List Int:=(List.range n).map fun i=>eP s (off * s.elem.toNat+i)
def snB (s:Sn):Prop:=(0≤s.at'∧s.at'≤65536)∧(1≤s.elem∧s.elem≤40000)∧(-mP≤s.ext∧s.ext≤mP)∧0 < s.pl.length∧s.pl.length≤40000∧∀ p∈s.pl,-2000000≤p∧p≤2000000
def vsF (s:Sn) (c:AV):Fr:=[(3,.cptr [iv s.at',iv s.elem,iv s.ext,.list 1 (inR s.pl)]),(6,.ptr 0 0 0 0),(7,.ptr 1 0 0 0),(8,.ptr 2 0 0 0),(19,c)]
def vsE (x:Blk):Heap:=[[.cells 1 [[.sc (.slice none 0 0)]]],[.cells 1 [[bv false]]],[.cells 1 [[.sc (.slice none 0 0)]]],[x]]
def vsI (out:List Int) (x:Blk):Heap:=[[.cells 1 [[.sc (.slice none 0 0)]]],[.cells 1 [[bv false]]],[.cells 1 [[.hsl 4 0 0 out.length]]],[x],[.cells 1 (inR out)]]
def vsJ (out:List Int) (x:Blk):Heap:=[[.cells 1 [[.sc (.slice none 0 0)]]],[.cells 1 [[bv false]]],[.cells 1 [[.hsl 5 0 0 out.length]]],[x],[.dead],[.cells 1 (inR out)]]
def vsD (x:Blk):Heap:=[[.cells 1 [[.sc (.slice none 0 0)]]],[.cells 1 [[bv false]]],[.dead],[x],[.dead]]
def vsN (x:Blk):Heap:=[[.cells 1 [[.sc (.slice none 0 0)]]],[.cells 1 [[bv false]]],[.dead],[x]]
noncomputable def MP:bL:=i6 [1,1,1,0,1,0] F64.code
theorem OR {T:AV→AV→Prop} {ρ:Nat→Nat→Option (Nat×Nat)} {s:Sn} {c:AV} {L:LC} {st:LoopState} {pe:Option Code} (hc:PV c) (r0:ρ 0 0=some (0,0)) (r1:ρ 1 0=some (1,0)) (r2:ρ 2 0=some (2,0)):ToB T ρ (.lp L (vsF s c) st pe) (.lp L (vsF s c) st pe):=by
 refine ToB.lp _ _ _ _ _ fun x hx=>?_
 simp only[vsF,List.mem_cons,List.not_mem_nil,or_false] at hx
 rcases hx with rfl | rfl | rfl | rfl | rfl
 ·exact To.pure (pv (AV.cptr [iv s.at',iv s.elem,iv s.ext,.list 1 (inR s.pl)]))
 ·exact To.ptrO r0 rfl rfl
 ·exact To.ptrO r1 rfl rfl
 ·exact To.ptrO r2 rfl rfl
 ·exact To.pure hc.out
theorem NJ {L:LC} {s:Sn} {c:AV} (hc:PV c) (hL:LOK Tryz.prog F64.n L [20] (rfA MP) (rfB MP)) (out:List Int) (p:Int) (ho:out.length≤1000000):
  dQ Tryz.prog 3 0 [iv p] (vsI out (.lp L (vsF s c) .ready none)) fun b H'=>(b=true∧p < 65536∧H'=vsJ (out++[p]) (.lp L (vsF s c) .ready none))∨(b=false∧65536≤p∧H'=vsD (.lp L (vsF s c) .done (some .ret))):=by
 refine fY.g ?_;refine⟨L,_,_,_,_,_,hL,rfl,rfl,?_⟩;show AWP _ _ _ (.region _) _ _ _
 have hlp:∀(T:AV→AV→Prop) (ρ:Nat→Nat→Option (Nat×Nat)) (st:LoopState) (pe:Option Code),ρ 0 0=some (0,0)→ρ 1 0=some (1,0)→ρ 2 0=some (2,0)→ToB T ρ (.lp L (vsF s c) st pe) (.lp L (vsF s c) st pe):=fun T ρ st pe=>OR hc
 obtain⟨caps,hcaps⟩:∃ caps,caps=vsF s c:=⟨_,rfl⟩
 rw[← hcaps] at hlp ⊢;rw[show putL caps ([20].zip [iv p])=(20,iv p)::vsF s c by rw[hcaps]; rfl];unfold vsF;have hol:=cH out;refine aA ?_;refine⟨rfl,caps,rfl,?_⟩;show AWP _ _ _ (.block 1 _) _ _ _;refine AWP.fin ?_;refine aA ?_;refine AWP.condN (65536≤p) rfl rfl (fun h=>?_) (fun h=>?_)
 ·refine aA ?_
  refine⟨[],vsD (.lp L caps .busy none),?_,caps,rfl,.inr ⟨rfl,h,rfl⟩⟩;exact Sub.wl [] [[(0,0)],[(1,0)],[(2,0)],[(3,0)],[(4,0)]]
 ·refine aA ?_
  refine⟨[],vsJ (out++[p]) (.lp L caps .busy none),?_,caps,rfl,.inl ⟨rfl,by omega,rfl⟩⟩;unfold vsJ;rw[lAp]
  have hz9:inR out++[[iv p]]=inR (out++[p]):=by simp[inR]
  exact Sub.wl [] [[(0,0)],[(1,0)],[(2,0)],[(3,0)],[(4,0)],[(6,0)]]
theorem BA {L:LC} {s:Sn} {c:AV} {off n:Nat} (hc:PV c) (hL:LOK Tryz.prog F64.n L [20] (rfA MP) (rfB MP)) (hs:snB s) (hn:n≤5000) (ho:0 < n→off≤65536) (_hop:off < 9223372036854775808):
  aE Tryz.prog 154 [.yld 3 0,.cptr [iv n],.cptr [iv off],.cptr [iv s.at',iv s.elem,iv s.ext,.list 1 (inR s.pl)]] (vsE (.lp L (vsF s c) .ready none)) fun _ H'=>
   ((∀ p∈gQ s off n,p < 65536)∧H'=vsI (gQ s off n) (.lp L (vsF s c) .ready none))∨(¬ (∀ p∈gQ s off n,p < 65536)∧H'=vsN (.lp L (vsF s c) .done (some .ret))):=by
 have hlp:∀(T:AV→AV→Prop) (ρ:Nat→Nat→Option (Nat×Nat)) (st:LoopState) (pe:Option Code),ρ 0 0=some (0,0)→ρ 1 0=some (1,0)→ρ 2 0=some (2,0)→ToB T ρ (.lp L (vsF s c) st pe) (.lp L (vsF s c) st pe):=fun T ρ st pe=>OR hc
 obtain⟨⟨s1,s2⟩,⟨s3,s4⟩,⟨s5,s6⟩,s7,s8,s9⟩:=hs;unfold mP at s5 s6;have hil:=cH s.pl
 obtain⟨E,hE⟩:∃ E:Nat,s.elem=E:=⟨s.elem.toNat,by omega⟩
 have hgi:∀ i,i < n→(gQ s off n)[i]?=some (eP s (off * E+i)):=fun i hi=>by
  unfold gQ;rw[hE];simp[hi]
 have hvl:(gQ s off n).length=n:=by simp[gQ]
 generalize hvv:gQ s off n=vv at *;rw[hE];refine aE.of NP ?_ (nlB rfl);refine aA ?_;refine AWP.loop (fun i:Nat=>[(0,.yld 3 0),(1,.cptr [iv n]),(2,.cptr [iv off]),(3,.cptr [iv s.at',iv E,iv s.ext,.list 1 (inR s.pl)]),(7,iv n),(8,iv i)]) (fun i=>vsI (vv.take i) (.lp L (vsF s c) .ready none)) (fun i=>i≤n∧∀ p∈vv.take i,p < 65536) (fun i=>n - i) 0 ⟨nZl _,fun p hp=>by simp at hp⟩ ?_ ?_
 ·rw[show vv.take 0=[] from rfl]
  exact Sub.wl [1] [[(0,0)],[(1,0)],[(2,0)],[(3,0)],[(4,0)]]
 rintro i ⟨hi,hin⟩;refine cT ?_;refine AWP.condN (i < n) rfl rfl (fun h=>?_) (fun h=>?_)
 ·have ho':=ho (by omega)
  have hg:=hgi i h;have hoe:off * E≤65536 * 40000:=Nat.mul_le_mul ho' (by omega);have hp0:eP s (off * E+i)=s.at'+(((off * E+i) / s.pl.length:Nat):Int) * s.ext+s.pl.getD ((off * E+i) % s.pl.length) 0:=rfl;have hkm:(off * E+i) % s.pl.length < s.pl.length:=Nat.mod_lt _ s7;have hr:=cX s.pl ((off * E+i) % s.pl.length) hkm;have hpb:=s9 s.pl[(off * E+i) % s.pl.length] (gMe _)
  have hgd:s.pl.getD ((off * E+i) % s.pl.length) 0=s.pl[(off * E+i) % s.pl.length]:=by simp[hkm]
  rw[hgd] at hp0;generalize s.pl[(off * E+i) % s.pl.length]=pv' at *;have hq:(off * E+i) / s.pl.length≤off * E+i:=Nat.div_le_self _ _
  obtain⟨Q,hQ⟩:∃ Q,Q=(off * E+i) / s.pl.length:=⟨_,rfl⟩
  rw[← hQ] at hq hp0;have hmu:=sU (a:=(Q:Int)) (b:=s.ext) (A:=2621445000) (B:=1048576) (by omega) (by omega) s5 s6
  have htl:(vv.take i).length≤1000000:=by rw[List.length_take]; omega
  have htk:vv.take (i+1)=vv.take i++[eP s (off * E+i)]:=by rw[List.take_add_one,hg]; rfl
  refine cT ?_;refine AWP.dky 22 [(0,.yld 3 0),(1,.cptr [iv n]),(2,.cptr [iv off]),(3,.cptr [iv s.at',iv E,iv s.ext,.list 1 (inR s.pl)]),(7,iv n),(8,iv i),(17,.yld 3 0),(38,iv (eP s (off * E+i)))] (vsI (vv.take i) (.lp L (vsF s c) .ready none)) mixed rfl rfl (by kernel_rfl) (by kernel_rfl) (by kernel_rfl) ?_ ?_
  ·refine aA ?_
   rw[hil];refine aA ?_;rw[← hQ,Av.wrap_small (show -9223372036854775808≤(Q:Int) * s.ext by omega) (by omega),Av.wrap_small (show -9223372036854775808≤s.at'+(Q:Int) * s.ext by omega) (by omega),Av.wrap_small (show -9223372036854775808≤s.at'+(Q:Int) * s.ext+pv' by omega) (by omega)];refine DK.nil ⟨by kernel_rfl,?_⟩;rw[← hp0];exact Sub.wl [] [[(0,0)],[(1,0)],[(2,0)],[(3,0)],[(4,0)]]
  ·refine⟨rfl,nlB rfl,3,0,rfl,?_⟩
   refine(NJ hc hL (vv.take i) (eP s (off * E+i)) htl).mono ?_;generalize eP s (off * E+i)=p at *;rintro b' H' (⟨rfl,hlt,rfl⟩ | ⟨rfl,hge,rfl⟩)
   ·refine aA ?_
    refine DK.nil ⟨by kernel_rfl,?_⟩;refine aA ?_;refine⟨i+1,⟨by omega,fun q hq=>?_⟩,by omega,?_⟩
    ·rw[htk] at hq
     rcases List.mem_append.1 hq with hq | hq
     ·exact hin q hq
     ·rw[List.mem_singleton.1 hq]; exact hlt
    rw[htk];exact Sub.wl [] [[(0,0)],[(1,0)],[(2,0)],[(3,0)],[(5,0)]]
   ·refine aA ?_
    refine DK.nil ⟨by kernel_rfl,?_⟩;refine aA ?_;refine iY (res':=.tup []) (H2:=vsN (.lp L (vsF s c) .done (some .ret))) [[(0,0)],[(1,0)],[(2,0)],[(3,0)]] (.inr rfl) rfl (.inr ⟨fun hall=>?_,rfl⟩) ?_ ?_ rfl rfl rfl
    ·have:=hall p (mOg hg)
     omega
    (all_goals exact g8)
    all_goals first | exact hlp _ _ _ _ rfl rfl rfl | exact .yld _ _ _ _ rfl | exact .dead _
 ·obtain rfl:n=i:=by omega
  rw[List.take_of_length_le (by omega)] at hin ⊢;refine aA ?_;refine iY (res':=.tup []) [[(0,0)],[(1,0)],[(2,0)],[(3,0)],[(4,0)]] (.inl rfl) rfl (.inl ⟨hin,rfl⟩) ?_ ?_ rfl rfl rfl
  (all_goals exact g8)
  all_goals first | exact hlp _ _ _ _ rfl rfl rfl | exact .yld _ _ _ _ rfl | exact .dead _
instance (s:Sn):PR (snR s):=⟨by unfold snR; exact pr _⟩
def okV (l:List Int):Bool:=l.all fun p=>decide (p < 65536)
def fV (s:Sn) (off n:Nat):List Int×Bool:=if 0 < n∧65536 < off then([],false) else if okV (gQ s off n)=true then(gQ s off n,true) else([],false)
theorem yF {l:List Int}:okV l=true↔∀ p∈l,p < 65536:=by simp[okV]
def mkV (s:Sn) (off n:Nat):AV:=.clo (.func 154) [] [.cptr [iv n],.cptr [iv off],.cptr [iv s.at',iv s.elem,iv s.ext,.list 1 (inR s.pl)]]
theorem BY (s:Sn) (off n:Nat):aC Tryz.prog 126 [.agg [iv s.at',iv s.elem,iv s.ext,.list 1 (inR s.pl)],iv off,iv n] (mkV s off n):=by
 refine aC.mkI (hX:=by unfold mkV; infer_instance) OC (nlB rfl) ?_;unfold mkV;refine aA ?_;exact aG.w
theorem vV {s:Sn} {off n:Nat} (hs:snB s) (hn:n≤5000) (hop:off < 9223372036854775808) (ho:0 < n→off≤65536) (r:List Int×Bool) (hr:r=if okV (gQ s off n)=true then(gQ s off n,true) else([],false)):
  AWP Tryz.prog F64.n 0 (i6 [1,1] F64.code) (aG F64.res (.tup [.list 1 (inR r.1),bv r.2])) [(1,iv off),(2,iv n),(3,.cptr [iv s.at',iv s.elem,iv s.ext,.list 1 (inR s.pl)]),(6,.ptr 0 0 0 0),(7,.ptr 1 0 0 0)] [[.cells 1 [[.sc (.slice none 0 0)]]],[.cells 1 [[bv false]]]]:=by
 have hv:=BY s off n;unfold mkV at hv;show AWP _ _ _ (.seq _ _) _ _ _;refine aA ?_;refine AWP.sub (fr':=vsF s (mkV s off n)) (H':=[[.cells 1 [[.sc (.slice none 0 0)]]],[.cells 1 [[bv false]]],[.cells 1 [[.sc (.slice none 0 0)]]]]) ?_ ?_
 ·unfold vsF mkV
  exact Sub.wl [] [[(0,0)],[(1,0)],[(2,0)]]
 refine AWP.rangeF (g:=154) (fs:=[]) (cs:=[.cptr [iv n],.cptr [iv off],.cptr [iv s.at',iv s.elem,iv s.ext,.list 1 (inR s.pl)]]) rfl (nZl _) rfl fun L hL=>?_
 refine(BA (by unfold mkV; infer_instance) hL hs hn ho hop).mono ?_;rintro res H' (⟨hall,rfl⟩ | ⟨hno,rfl⟩)
 ·rw[if_pos (yF.2 hall)] at hr
  subst hr;refine⟨_,_,none,rfl,by decide,?_⟩;have hol:=cH (gQ s off n);unfold vsF;refine aA ?_;exact aG.w
 ·rw[if_neg (fun q=>hno (yF.1 q))] at hr
  subst hr;refine⟨_,_,some .ret,rfl,by decide,?_⟩;rw[show inR (([],false):List Int×Bool).1=[] from rfl];unfold vsF;exact aG.w
theorem DT {s:Sn} {off n:Nat} (hs:snB s) (hn:n≤5000) (hop:off < 9223372036854775808):aC Tryz.prog 64 [.agg [iv s.at',iv s.elem,iv s.ext,.list 1 (inR s.pl)],iv off,iv n] (.tup [.list 1 (inR (fV s off n).1),bv (fV s off n).2]):=by
 refine aC.mkI cF64 (nlB rfl) ?_;refine aA ?_
 by_cases h0:0 < n
 ·rw[dTr h0]
  refine aA ?_;refine AWP.condN (65536 < off) rfl rfl (fun h=>?_) (fun h=>?_)
  ·rw[show fV s off n=([],false) from if_pos ⟨h0,h⟩,show inR (([],false):List Int×Bool).1=[] from rfl]
   refine aA ?_;exact aG.w
  ·refine AWP.skip ?_
   refine AWP.sub ?_ (vV hs hn hop (fun _=>by omega) (fV s off n) (by unfold fV; rw[if_neg (by omega)]));exact Sub.wl [] [[(1,0)],[(2,0)]]
 ·rw[dFa h0]
  refine vD ?_;refine AWP.condF rfl ?_;refine AWP.skip ?_;refine AWP.sub ?_ (vV hs hn hop (fun q=>absurd q h0) (fV s off n) (by unfold fV; rw[if_neg (by omega)]));exact Sub.wl [] [[(1,0)],[(2,0)]]
theorem oB {a:Int} {e o:Ty} (he:iK 8 e) (ho:iK 8 o) (h:(dJ a e o).1=0):snB (dJ a e o).2:=by
 have h1:=gR (bF e).2.es;have h2:=j8 he;have h3:=gR (bF o).2.es;have h4:=j8 ho;have h5:=nP (bF o).2.es;unfold dJ at h ⊢
 by_cases c1:a < 0∨65536 < a
 ·rw[if_pos c1] at h; cases h
 rw[if_neg c1] at h ⊢
 by_cases c2:(bF e).1≠0
 ·rw[if_pos c2] at h; exact absurd h c2
 rw[if_neg c2] at h ⊢
 by_cases c3:(bF o).1≠0
 ·rw[if_pos c3] at h; exact absurd h c3
 rw[if_neg c3] at h ⊢;have hB:=j5 ho (dBc c3)
 by_cases c4:rN (cO (bF o).2.es) (bF o).2.ext=true
 ·rw[if_pos c4] at h ⊢
  by_cases c5:FX (bI (bF e).2.es) (bI (bF o).2.es)=true
  ·rw[if_pos c5]
   unfold FX at c5;simp only[bAe,decide_eq_true_eq] at c5;exact⟨⟨by show 0≤a; omega,by show a≤_; omega⟩,⟨by show(1:Int)≤(bI (bF e).2.es:Nat); omega,by show((bI (bF e).2.es:Nat):Int)≤_; omega⟩,⟨hB.2.2.2.2.1,hB.2.2.2.2.2.1⟩,by show 0 < (cO (bF o).2.es).length; omega,by show(cO (bF o).2.es).length≤_; omega,ON _ hB.2.2.2.2.2.2.2.2⟩
  ·rw[if_neg c5] at h; cases h
 ·rw[if_neg c4] at h; cases h
set_option maxRecDepth 100000
abbrev lB (d s:Nat):IOper:=⟨some d,none,.op (.move (.tmp s))⟩
def F12:IFun:=⟨13,(sr [oq 1 (.box (.tmp 0)),oq 2 (.alloc [(5,(.int .i64 0)),(4,(.slice none 0 0)),(4,(.int .i64 0)),(4,(.slice none 0 0))]),oq 3 (.move (.const (.bool false)))] (.seq (.draw [cB 4 17 1,aP 5 1 1,cB 6 8 5,oc 7 19 [(.tmp 6),(oi 3)],lB 8 7,ot 9 8 (.fieldAddr 9 (.tmp 1)),ot 10 8 (.load 8 true (.tmp 9)),⟨some 11,some (8,true),(.call 19 [(.tmp 10),(oi 3)])⟩,oq 12 (.pick (.tmp 8) (.tmp 11) (.const (.bool false))),bQ 17 2 4,lB 3 12] [[],[],[1],[2],[3,3],[4],[5,4],[6,4,4],[4,7],[0,7,0],[8,9,0,1,2,3,4,5,6,7,8,9]]) .ret)),[(.cell 2 17 true),(.tmp 3)]⟩
theorem cF12:bG Tryz.prog 12=some F12:=by kernel_rfl
def F19:IFun:=⟨72,(sr [oq 2 (.box (.tmp 0)),oq 4 (.move (.const (.bool false)))] (.seq (sr [lB 7 1,aX .eql 8 3 7 0,lB 9 8,ou 10 9 (.fieldAddr 7 (.tmp 2)),ou 11 9 (.load 1 false (.tmp 10)),ou 12 9 (.len (.tmp 11)),ou 13 9 (.bin .gtr 3 (.tmp 12) (oi 3)),oq 14 (.pick (.tmp 9) (.const (.bool true)) (.tmp 13)),lB 15 14,ou 16 15 (.fieldAddr 4 (.tmp 2)),ou 17 15 (.load 1 false (.tmp 16)),ou 18 15 (.len (.tmp 17)),ou 19 15 (.bin .gtr 3 (.tmp 18) (oi 8)),oq 20 (.pick (.tmp 15) (.const (.bool true)) (.tmp 19)),lB 21 20,ou 22 21 (.fieldAddr 5 (.tmp 2)),ou 23 21 (.load 1 false (.tmp 22)),ou 24 21 (.len (.tmp 23)),ou 25 21 (.bin .gtr 3 (.tmp 24) (oi 8)),oq 26 (.pick (.tmp 21) (.const (.bool true)) (.tmp 25)),lB 27 26,ou 28 27 (.fieldAddr 6 (.tmp 2)),ou 29 27 (.load 1 false (.tmp 28)),ou 30 27 (.len (.tmp 29)),ou 31 27 (.bin .gtr 3 (.tmp 30) (oi 8)),oq 32 (.pick (.tmp 27) (.const (.bool true)) (.tmp 31)),lB 33 32,ou 34 33 (.fieldAddr 1 (.tmp 2)),ou 35 33 (.load 1 false (.tmp 34)),ou 36 33 (.bin .gtr 3 (.tmp 35) (oi 16)),oq 37 (.pick (.tmp 33) (.const (.bool true)) (.tmp 36)),lB 38 37,ou 39 38 (.fieldAddr 2 (.tmp 2)),ou 40 38 (.load 1 false (.tmp 39)),ou 41 38 (.bin .gtr 3 (.tmp 40) (oi 8)),oq 42 (.pick (.tmp 38) (.const (.bool true)) (.tmp 41))] (cd 42 (sr [oq 4 (.move (.const (.bool false)))] .ret) .skip)) (.seq (sr [bC 5 0] (.block 0 (.loop (.seq (sr [lB 43 5,aP 44 5 2,aJ 45 44,cU 46 45,aW .lss 47 3 43 46] (cd 47 .skip (.exit 0))) (.seq (.block 1 (sr [aP 50 5 2,aJ 51 50,lB 52 5,cI 53 1 51 52,aJ 54 53,aX .gtr 55 3 54 16] (cd 55 (sr [oq 4 (.move (.const (.bool false)))] .ret) .skip))) (.region [lB 48 5,aX .add 49 3 48 1,lB 5 49])))))) (.seq (sr [bC 6 0] (.block 2 (.loop (.seq (sr [lB 56 6,aP 57 7 2,aJ 58 57,cU 59 58,aW .lss 60 3 56 59] (cd 60 .skip (.exit 2))) (.seq (.block 3 (sr [aP 63 7 2,aJ 64 63,lB 65 6,cI 66 8 64 65,cB 67 8 66,lB 68 1,aX .sub 69 3 68 1,oc 70 19 [(.tmp 67),(.tmp 69)],oq 71 (.un .not (.tmp 70))] (cd 71 (sr [oq 4 (.move (.const (.bool false)))] .ret) .skip))) (.region [lB 61 6,aX .add 62 3 61 1,lB 6 62])))))) (sr [oq 4 (.move (.const (.bool true)))] .ret))))),[(.tmp 4)]⟩
theorem cF19:bG Tryz.prog 19=some F19:=by kernel_rfl
set_option maxRecDepth 20000
def AQ (a:Int) (e o:Ty) (off cnt:Int):List (Int×Int)×Int:=
 if (dJ a e o).1≠0 then([],(dJ a e o).1)
 else if off < 0∨cnt < 0 then([],3)
 else if 4096 < cnt∨4096 < cnt * (dJ a e o).2.elem then([],9)
 else if (fV (dJ a e o).2 off.toNat (cnt.toNat * (dJ a e o).2.elem.toNat)).2=true then(bY (fV (dJ a e o).2 off.toNat (cnt.toNat * (dJ a e o).2.elem.toNat)).1,0) else([],3)
theorem wW {a:Int} {e o:Ty}:PV (.agg (vwR a e o)):=by unfold vwR; infer_instance
theorem LO {s:Sn} {off n:Nat} (hs:snB s) (ho:off≤65536) (hn:n≤163840000):∀ p∈gQ s off n,-10000000000000000≤p∧p≤10000000000000000:=fun p hp=>by
 obtain⟨i,hi,rfl⟩:=List.mem_map.1 hp;have hi:=List.mem_range.1 hi;obtain⟨⟨s1,s2⟩,⟨s3,s4⟩,⟨s5,s6⟩,s7,s8,s9⟩:=hs;unfold mP at s5 s6
 have hE:s.elem.toNat≤40000:=by omega
 have hoe:off * s.elem.toNat≤65536 * 40000:=Nat.mul_le_mul ho hE;unfold eP
 obtain⟨k,hk⟩:∃ k,k=off * s.elem.toNat+i:=⟨_,rfl⟩
 rw[← hk];have hq:k / s.pl.length≤k:=Nat.div_le_self _ _
 obtain⟨Q,hQ⟩:∃ Q,Q=k / s.pl.length:=⟨_,rfl⟩
 rw[← hQ] at hq ⊢;have hmu:=sU (a:=(Q:Int)) (b:=s.ext) (A:=3000000000) (B:=1048576) (by omega) (by omega) s5 s6;have hkm:k % s.pl.length < s.pl.length:=Nat.mod_lt _ s7
 have hg:s.pl.getD (k % s.pl.length) 0=s.pl[k % s.pl.length]:=by simp[hkm]
 have:=s9 s.pl[k % s.pl.length] (gMe _);rw[hg];omega
theorem HD {s:Sn} {off n:Nat} (hs:snB s) (hn:n≤163840000):(fV s off n).1.length≤n∧∀ p∈(fV s off n).1,-10000000000000000≤p∧p≤10000000000000000:=by
 unfold fV;split
 ·exact⟨nZl _,fun p hp=>by cases hp⟩
 ·rename_i h
  split
  ·refine⟨by simp[gQ],fun p hp=>?_⟩
   have h0:0 < n:=by
    have:=List.length_pos_of_mem hp
    simpa[gQ] using this
   exact LO hs (by omega) hn p hp
  ·exact⟨nZl _,fun p hp=>by cases hp⟩
theorem PO {a:Int} {e o:Ty} {off cnt:Int} (he:iK 8 e) (ho:iK 8 o) (hoff:off < 9223372036854775808):aC Tryz.prog 14 [.agg (vwR a e o),iv off,iv cnt] (.tup [.list 2 (enR (AQ a e o off cnt).1),iv (AQ a e o off cnt).2]):=by
 have hc:=yU (a:=a) he ho;have hsn:=oB (a:=a) he ho
 refine aC.mkI (ha:=⟨fun c hc=>by
  simp only[List.mem_cons,List.not_mem_nil,or_false] at hc
  rcases hc with rfl | rfl | rfl
  ·exact wW.out
  ·exact .sc _
  ·exact .sc _⟩) cF14 (nlB rfl) ?_
 unfold AQ;generalize dJ a e o=r at *;obtain⟨er,s⟩:=r;simp only at hsn ⊢;obtain⟨_,k1,c1,b1,s1,z1,l1,p1,f1,_,rfl,_⟩:=cK he;obtain⟨_,k2,c2,b2,s2,z2,l2,p2,f2,_,rfl,_⟩:=cK ho;unfold vwR snR at *;rw[tyR,tyR] at *;replace hc:aC Tryz.prog 63 _ (.tup [.agg [iv s.at',iv s.elem,iv s.ext,.list 1 (inR s.pl)],iv er]):=hc;refine aA ?_;refine AWP.condN (er≠0) rfl (fX _) (fun h1=>?_) (fun h1=>?_)
 ·rw[if_pos h1,show enR (([],er):List (Int×Int)×Int).1=[] from rfl]
  refine aA ?_;exact aG.w
 rw[if_neg h1];have hs:=hsn (dBc h1);obtain⟨_,⟨q1,q2⟩,_⟩:=id hs
 obtain⟨E,hE⟩:∃ E:Nat,s.elem=E:=⟨s.elem.toNat,by omega⟩
 refine aA ?_
 by_cases g1:off < 0
 ·rw[dTr g1,if_pos (.inl g1),show enR (([],3):List (Int×Int)×Int).1=[] from rfl]
  refine aA ?_;exact aG.w
 rw[dFa g1];refine aA ?_;refine AWP.condN (cnt < 0) rfl rfl (fun g2=>?_) (fun g2=>?_)
 ·rw[if_pos (.inr g2),show enR (([],3):List (Int×Int)×Int).1=[] from rfl]
  refine aA ?_;exact aG.w
 rw[if_neg (by omega)]
 obtain⟨O,rfl⟩:∃ O:Nat,off=O:=⟨off.toNat,by omega⟩
 obtain⟨C,rfl⟩:∃ C:Nat,cnt=C:=⟨cnt.toNat,by omega⟩
 rw[hE] at hc ⊢;refine aA ?_
 by_cases g3:4096 < C
 ·rw[dTr g3,if_pos (.inl (by omega)),show enR (([],9):List (Int×Int)×Int).1=[] from rfl]
  refine aA ?_;exact aG.w
 rw[dFa g3];have hCE:C * E≤4096 * 40000:=Nat.mul_le_mul (by omega) (by omega);have hci:((C:Nat):Int) * (E:Nat)=((C * E:Nat):Int):=(Int.natCast_mul C E).symm;refine aA ?_;refine AWP.condN (4096 < C * E) rfl rfl (fun g4=>?_) (fun g4=>?_)
 ·rw[if_pos (.inr (by rw[hci]; omega)),show enR (([],9):List (Int×Int)×Int).1=[] from rfl]
  refine aA ?_;exact aG.w
 rw[if_neg (by rw[hci]; omega),Int.toNat_natCast,Int.toNat_natCast,Int.toNat_natCast];have hli:=DT (off:=O) (n:=C * E) hs (by omega) (by omega);rw[hE] at hli;have hlb:=HD (off:=O) (n:=C * E) hs (by omega);generalize fV s O (C * E)=l at *;obtain⟨l,ok⟩:=l;simp only at hli hlb ⊢;obtain⟨hll,hlb⟩:=hlb;refine aA ?_
 cases ok with
 | false=>
  rw[if_neg (by simp),show enR (([],3):List (Int×Int)×Int).1=[] from rfl];refine aA ?_;exact aG.w
 | true=>
 rw[if_pos rfl];have hil:=cH l;refine aA ?_;refine AWP.loop (fun i:Nat=>[(12,.hsl 0 0 0 (bY (l.take i)).length),(54,.list 1 (inR l)),(55,iv l.length),(56,iv i)]) (fun i=>[[.cells 2 (enR (bY (l.take i)))]]) (fun i=>i≤l.length) (fun i=>l.length - i) 0 (nZl _) ?_ ?_
 ·rw[← hil]
  exact Sub.wl [2] [[(2,0)]]
 rintro i hi;refine cT ?_;refine AWP.condN (i < l.length) rfl rfl (fun h=>?_) (fun h=>?_)
 ·have hr:=cX l i h
  have hp:=hlb l[i] (gMe _);have htk:=dA h
  obtain⟨g5,g6⟩:=nJ (fun p=>-10000000000000000≤p∧p≤10000000000000000) i (l.take i) (by rw[List.length_take]; omega) fun p hp=>hlb p (List.mem_of_mem_take hp)
  have hsn:=d6 (l.take i) l[i];rw[← htk] at hsn;generalize l[i]=p at *;generalize bY (l.take i)=out at *;have hol:=dH out
  rcases List.eq_nil_or_concat out with rfl | ⟨o,x,hox⟩
  ·refine aA ?_
   refine DK.nil ⟨by kernel_rfl,?_⟩;refine aA ?_;refine⟨i+1,by omega,by omega,?_⟩;rw[hsn,show gH [] p=[(p,1)] from rfl];exact Sub.wl [] [[(3,0)]]
  ·rw[List.concat_eq_append] at hox
   subst hox;have hob:=g6 x (by simp);obtain⟨a,m⟩:=x
   have hr2:cW (enR (o++[(a,m)])) ((o.length:Nat):Int)=some [iv a,iv m]:=by
    rw[iH (o++[(a,m)]) o.length (by simp)];simp
   have hln:(o++[(a,m)]).length=o.length+1:=by simp
   rw[hln] at hol g5 ⊢;replace hob:(-10000000000000000≤a∧a≤10000000000000000)∧0 < m∧m≤(i:Int):=hob;refine aA ?_;rw[Av.wrap_small (show -9223372036854775808≤a+m by omega) (by omega)];refine DK.nil ⟨by kernel_rfl,?_⟩;refine aA ?_;refine AWP.condN (a+m=p) rfl rfl (fun h=>?_) (fun h=>?_)
   ·rw[eL (x:=(a,m)) h] at hsn
    have ew:IntKind.i64.wrap (m+1)=m+1:=Av.wrap_small (by omega) (by omega);refine aA ?_;rw[ew];refine⟨i+1,by omega,by omega,?_⟩;rw[hsn,show(o++[(a,m+1)]).length=o.length+1 by simp]
    (apply Sub.to [] [[(0,0)]]; all_goals (repeat' (first | exact aY.nil | exact aI.nil | exact bK.nil | exact ToL.nil | exact ToR.nil | refine aY.cons ?_ ?_ | refine aI.cons ?_ ?_ | refine fN ?_ ?_ | exact To.undef _ | exact To.sc _ | exact To.hslL rfl rfl | exact To.asl _ _ _ _ _ _ _ rfl | refine To.ifc _ _ _ ?_ | exact To.ptrO rfl rfl rfl | exact To.mrefO rfl | exact To.nil rfl rfl rfl | exact wt1 | exact To.nilL | refine To.int ?_ | refine To.bool ?_ | refine To.hslL rfl ?_ | refine wt2 rfl ?_ ?_ ?_ | refine To.tupL ?_ | refine To.aggL ?_ | refine To.cptrL ?_ | refine To.fzp rfl rfl rfl ?_ | refine To.fzm rfl rfl ?_ | refine To.cloL ?_ ?_ | refine wt3 ?_ | refine wt4 ?_ | exact wt5 | refine wt6 ?_ | refine ToB.one ?_ | exact wt7 | ((with_reducible apply ToL.consE); case e9=>rfl) | refine wt8 ?_ | refine ToL.cons ?_ ?_ | exact wt11 | refine wt9 ?_ ?_ | refine gM ?_ | exact .yld _ _ _ _ rfl | exact .dead _ | exact hlp _ _ _ _ rfl rfl rfl | exact hlp _ _ _ rfl rfl rfl | exact hlp _ _ _ rfl rfl | exact hlp _ _ _ rfl | (with_reducible rfl) | assumption)); all_goals (first | rfl | assumption | (simp; done) | (simp; omega) | (rw[wrap_small (by omega) (by omega)]; done) | (rw[wrap_small (by omega) (by omega)]; omega) | (refine congrArg Nat.cast ?_; assumption) | omega | (exact Av.wrap_small (by omega) (by omega)) | skip))
    all_goals first | exact y4 (y:=(a,m+1)) rfl
   ·rw[fH (x:=(a,m)) h] at hsn
    refine aA ?_;refine⟨i+1,by omega,by omega,?_⟩;rw[hsn,show(o++[(a,m)]++[(p,1)]:List (Int×Int)).length=o.length+1+1 by simp]
    have hz9:enR (o++[(a,m)])++[[iv p,iv 1]]=enR (o++[(a,m)]++[(p,1)]):=by simp[enR]
    exact Sub.wl [] [[(3,0)]]
 ·obtain rfl:l.length=i:=by omega
  rw[List.take_length];have hol:=dH (bY l);refine aA ?_;exact aG.w
theorem t8:∀(n:Nat) (t:Ty),n≤100→qG n t→aC Tryz.prog 19 [.agg (tyR t),iv n] (bv (cE n t))
 | 0,t,_,_=>by
  rw[show cE 0 t=false by cases t<;>rfl];refine aC.mkI cF19 (nlB rfl) ?_
  cases t with
  | mk=>
   rw[tyR];refine aA ?_;exact aG.w
  | raw=>
   rw[tyR];refine aA ?_;exact aG.w
 | n+1,.raw ..,_,h=>h.elim
 | n+1,.mk k c b st sz bl pl of,hn,hk=>by
  have ih:∀ u∈of,aC Tryz.prog 19 [.agg (tyR u),iv n] (bv (cE n u)):=fun u hu=>t8 n u (by omega) (hk u hu)
  have l1:=cH sz;have l2:=cH bl;have l3:=cH pl;have l4:=oI of;refine aC.mkI cF19 (nlB rfl) ?_
  obtain⟨r,hr⟩:∃ r,r=cE (n+1) (.mk k c b st sz bl pl of):=⟨_,rfl⟩
  rw[← hr];rw[cE] at hr;rw[tyR];refine aA ?_;rw[l4]
  by_cases h1:3 < of.length
  ·rw[dTr h1,show r=false by rw[hr]; simp[show¬ of.length≤3 by omega]]
   refine aA ?_;exact aG.w
  rw[dFa h1];refine aA ?_;rw[l1]
  by_cases h2:8 < sz.length
  ·rw[dTr h2,show r=false by rw[hr]; simp[show¬ sz.length≤8 by omega]]
   refine aA ?_;exact aG.w
  rw[dFa h2];refine aA ?_;rw[l2]
  by_cases h3:8 < bl.length
  ·rw[dTr h3,show r=false by rw[hr]; simp[show¬ bl.length≤8 by omega]]
   refine aA ?_;exact aG.w
  rw[dFa h3];refine aA ?_;rw[l3]
  by_cases h4:8 < pl.length
  ·rw[dTr h4,show r=false by rw[hr]; simp[show¬ pl.length≤8 by omega]]
   refine aA ?_;exact aG.w
  rw[dFa h4];refine aA ?_
  by_cases h5:c > 16
  ·rw[dTr h5,show r=false by rw[hr]; simp[show¬ c≤16 by omega]]
   refine aA ?_;exact aG.w
  rw[dFa h5];refine aA ?_;refine AWP.condN (8 < b) rfl rfl (fun h6=>?_) (fun h6=>?_)
  ·rw[show r=false by rw[hr]; simp[show¬ b≤8 by omega]]
   refine aA ?_;exact aG.w
  refine aA ?_;refine AWP.loop (fun i:Nat=>[(1,iv (n+1:Nat)),(2,.cptr [iv k,iv c,iv b,iv st,.list 1 (inR sz),.list 1 (inR bl),.list 1 (inR pl),.list 8 (aO of)]),(5,iv i)]) (fun _=>[]) (fun i=>i≤bl.length∧∀ j (h:j < bl.length),j < i→bl[j]≤16) (fun i=>bl.length - i) 0 ⟨nZl _,fun j _ hj=>by omega⟩ ?_ ?_
  ·exact Sub.wl [] []
  rintro i ⟨hi,hin⟩;refine aA ?_;rw[l2];refine AWP.condN (i < bl.length) rfl rfl (fun h7=>?_) (fun h7=>?_)
  ·have r1:=cX bl i h7
   refine aA ?_;refine AWP.condN (16 < bl[i]) rfl rfl (fun h8=>?_) (fun h8=>?_)
   ·rw[show r=false by
     rw[hr,show(bl.all fun x=>decide (x≤16))=false from List.all_eq_false.2 ⟨bl[i],gMe _,by simp; omega⟩]
     simp]
    refine aA ?_;exact aG.w
   ·refine aA ?_
    refine⟨i+1,⟨by omega,fun j hj hji=>?_⟩,by omega,?_⟩
    ·by_cases e:j=i
     ·subst e; omega
     ·exact hin j hj (by omega)
    (refine Sub.keep ?_; repeat' (first | exact trivial | exact Le.refl _ | refine⟨?_,?_⟩))
  ·obtain rfl:bl.length=i:=by omega
   have hba:(bl.all fun x=>decide (x≤16))=true:=List.all_eq_true.2 fun x hx=>by
    obtain⟨j,hj,rfl⟩:=List.getElem_of_mem hx
    simpa using hin j hj hj
   rw[hba,dTr (show of.length≤3 by omega),dTr (show sz.length≤8 by omega),dTr (show bl.length≤8 by omega),dTr (show pl.length≤8 by omega),dTr (show c≤16 by omega),dTr (show b≤8 by omega)] at hr
   replace hr:r=of.all (cE n):=by simpa using hr
   refine aA ?_;refine AWP.loop (fun i:Nat=>[(1,iv (n+1:Nat)),(2,.cptr [iv k,iv c,iv b,iv st,.list 1 (inR sz),.list 1 (inR bl),.list 1 (inR pl),.list 8 (aO of)]),(6,iv i)]) (fun _=>[]) (fun i=>i≤of.length∧∀ j (h:j < of.length),j < i→cE n of[j]=true) (fun i=>of.length - i) 0 ⟨nZl _,fun j _ hj=>by omega⟩ ?_ ?_
   ·(refine Sub.keep ?_; repeat' (first | exact trivial | exact Le.refl _ | refine⟨?_,?_⟩))
   rintro i ⟨hi,hin⟩;refine aA ?_;rw[l4];refine AWP.condN (i < of.length) rfl rfl (fun h7=>?_) (fun h7=>?_)
   ·have r1:=rQ of i h7
    have hu:=ih of[i] (gMe _)
    have hn1:IntKind.i64.wrap (((n+1:Nat):Int) - 1)=(n:Int):=by rw[Av.wrap_small (by omega) (by omega)]; omega
    refine aA ?_;refine Reg.o rfl (mM rfl (rV _)) ?_;refine aA ?_
    cases hsm:cE n of[i] with
    | false=>
     rw[show r=false by rw[hr]; exact List.all_eq_false.2 ⟨of[i],gMe _,by simp[hsm]⟩];refine aA ?_;exact aG.w
    | true=>
     refine aA ?_;refine⟨i+1,⟨by omega,fun j hj hji=>?_⟩,by omega,?_⟩
     ·by_cases e:j=i
      ·subst e; exact hsm
      ·exact hin j hj (by omega)
     (refine Sub.keep ?_; repeat' (first | exact trivial | exact Le.refl _ | refine⟨?_,?_⟩))
   ·obtain rfl:of.length=i:=by omega
    rw[show r=true by rw[hr]; exact List.all_eq_true.2 fun u hu=>by obtain⟨j,hj,rfl⟩:=List.getElem_of_mem hu; exact hin j hj hj];refine aA ?_;exact aG.w
theorem rR {pl:List Int} {ext:Int} (h:rN pl ext=true) {i:Nat} (hi:i < pl.length):j7 pl i < pl.getD i 0∧pl.getD i 0 < ext:=by
 have:=List.all_eq_true.1 h i (List.mem_range.2 hi)
 simpa using this
theorem tA {s:Sn} (h:rN s.pl s.ext=true) (hl:0 < s.pl.length) (k:Nat):eP s k < eP s (k+1):=by
 unfold eP;have hm:=Nat.mod_lt k hl;have hd:=Nat.div_add_mod k s.pl.length;generalize hr:k % s.pl.length=r at *;generalize hq:k / s.pl.length=q at *
 by_cases h1:r+1 < s.pl.length
 ·have e1:(k+1) / s.pl.length=q:=by
   rw[← hd,Nat.add_assoc,Nat.mul_add_div hl,Nat.div_eq_of_lt h1,Nat.add_zero]
  have e2:(k+1) % s.pl.length=r+1:=by
   rw[← hd,Nat.add_assoc,Nat.mul_add_mod,Nat.mod_eq_of_lt h1]
  rw[e1,e2];have:=(rR h h1).1;unfold j7 at this;rw[if_neg (by omega),Nat.add_sub_cancel] at this;omega
 ·have hr1:r+1=s.pl.length:=by omega
  have hk1:k+1=s.pl.length * (q+1):=by rw[Nat.mul_succ]; omega
  have e1:(k+1) / s.pl.length=q+1:=by rw[hk1,Nat.mul_div_cancel_left _ hl]
  have e2:(k+1) % s.pl.length=0:=by rw[hk1,Nat.mul_mod_right]
  rw[e1,e2];have g1:=(rR h hl).1;have g2:=(rR h hm).2;unfold j7 at g1;rw[if_pos rfl] at g1
  have e3:((q+1:Nat):Int) * s.ext=(q:Int) * s.ext+s.ext:=by
   rw[Int.natCast_add,Int.add_mul];simp
  rw[e3];omega
theorem JN {a:Int} {e o:Ty} (h:(dJ a e o).1=0):rN (dJ a e o).2.pl (dJ a e o).2.ext=true∧(dJ a e o).2.pl.length=bI (bF o).2.es∧(dJ a e o).2.ext=(bF o).2.ext∧(bF o).1=0:=by
 unfold dJ at h ⊢
 by_cases c1:a < 0∨65536 < a
 ·rw[if_pos c1] at h; cases h
 rw[if_neg c1] at h ⊢
 by_cases c2:(bF e).1≠0
 ·rw[if_pos c2] at h; exact absurd h c2
 rw[if_neg c2] at h ⊢
 by_cases c3:(bF o).1≠0
 ·rw[if_pos c3] at h; exact absurd h c3
 rw[if_neg c3] at h ⊢
 by_cases c4:rN (cO (bF o).2.es) (bF o).2.ext=true
 ·rw[if_pos c4] at h ⊢
  by_cases c5:FX (bI (bF e).2.es) (bI (bF o).2.es)=true
  ·rw[if_pos c5]
   exact⟨c4,nP _,rfl,dBc c3⟩
  ·rw[if_neg c5] at h; cases h
 ·rw[if_neg c4] at h; cases h
theorem gD {n:Nat} {t:Ty} (h:qG (n+1) t):∃ k c b s sz bl pl of,t=.mk k c b s sz bl pl of:=by
 cases t with
 | mk k c b s sz bl pl of=>exact⟨k,c,b,s,sz,bl,pl,of,rfl⟩
 | raw=>exact h.elim
theorem ED {a:Int} {e o:Ty} (he:qG 3 e) (ho:qG 3 o):aC Tryz.prog 12 [.agg (vwR a e o)] (.tup [.agg (vwR a e o),bv (cE 3 e && cE 3 o)]):=by
 refine aC.mkI (hX:=⟨.tup _ (by
  intro c hc;simp only[List.mem_cons,List.not_mem_nil,or_false] at hc
  rcases hc with rfl | rfl
  ·exact wW.out
  ·exact .sc _)⟩) (ha:=⟨fun c hc=>by rw[List.mem_singleton.1 hc]; exact wW.out⟩) cF12 (nlB rfl) ?_
 have se:aC Tryz.prog 19 [.agg (tyR e),iv 3] (bv (cE 3 e)):=t8 3 e (by omega) he;have so:aC Tryz.prog 19 [.agg (tyR o),iv 3] (bv (cE 3 o)):=t8 3 o (by omega) ho;obtain⟨k1,c1,b1,s1,z1,l1,p1,f1,rfl⟩:=gD he;obtain⟨k2,c2,b2,s2,z2,l2,p2,f2,rfl⟩:=gD ho;generalize cE 3 (Ty.mk k1 c1 b1 s1 z1 l1 p1 f1)=g1 at *;generalize cE 3 (Ty.mk k2 c2 b2 s2 z2 l2 p2 f2)=g2 at *
 have e0:vwR a (Ty.mk k1 c1 b1 s1 z1 l1 p1 f1) (Ty.mk k2 c2 b2 s2 z2 l2 p2 f2)=[iv a,iv k1,iv c1,iv b1,iv s1,.list 1 (inR z1),.list 1 (inR l1),.list 1 (inR p1),.list 8 (aO f1),iv k2,iv c2,iv b2,iv s2,.list 1 (inR z2),.list 1 (inR l2),.list 1 (inR p2),.list 8 (aO f2)]:=by unfold vwR; rw[tyR,tyR]; rfl
 rw[e0];rw[tyR] at se so
 cases g1 with
 | false=>
  refine aA ?_;refine DK.nil ⟨by kernel_rfl,?_⟩;refine aA ?_;exact aG.w
 | true=>
  refine aA ?_;refine DK.nil ⟨by kernel_rfl,?_⟩;refine aA ?_;exact aG.w
set_option maxRecDepth 100000
abbrev aF (d s:Nat):IOper:=⟨some d,none,.op (.move (.tmp s))⟩
abbrev gW (d s:Nat):IOper:=⟨some d,none,.op (.load 1 false (.tmp s))⟩
abbrev jZ (d z s i:Nat):IOper:=⟨some d,none,.op (.idxSl z (.tmp s) (.tmp i))⟩
abbrev i7 (d k s:Nat):IOper:=⟨some d,none,.op (.fieldAddr k (.tmp s))⟩
abbrev f8 (d:Nat) (n:Int):IOper:=⟨some d,none,.op (.move (.const (.int .i64 n)))⟩
abbrev jB (d s:Nat):IOper:=⟨some d,none,.op (.len (.tmp s))⟩
abbrev hO (d:Nat) (o:BinOp) (k s:Nat) (n:Int):IOper:=⟨some d,none,.op (.bin o k (.tmp s) (.const (.int .i64 n)))⟩
abbrev fI (d c:Nat) (b:Bool) (s:Nat):IOper:=⟨some d,some (c,b),.op (.move (.tmp s))⟩
def F141:IFun:=⟨48,(sr [oq 1 (.box (.tmp 0)),oq 2 (.move (.const (.slice none 0 0))),f8 3 0] (sr [i7 9 0 1,cB 10 17 9,oc 11 63 [(.tmp 10)],aF 8 11,bV 12 8 0,bV 13 8 1,oq 4 (.alloc [(3,(.int .i64 0)),(1,(.slice none 0 0))]),bQ 4 4 12,aF 5 13] (.seq (.block 0 (sr [aF 15 5,hO 16 .neq 33 15 0,aF 14 16] (cd 14 (sr [aF 17 5,oq 2 (.move (.const (.slice none 0 0))),aF 3 17] .ret) (sr [i7 19 17 1,gW 20 19,hO 21 .lss 3 20 0,aF 18 21] (cd 18 (sr [oq 2 (.move (.const (.slice none 0 0))),f8 3 3] .ret) (sr [i7 23 18 1,gW 24 23,jB 25 24,i7 26 1 4,gW 27 26,aW .rem 28 3 25 27,hO 29 .neq 3 28 0,aF 22 29] (cd 22 (sr [oq 2 (.move (.const (.slice none 0 0))),f8 3 26] .ret) (sr [i7 31 18 1,gW 32 31,jB 33 32,hO 34 .gtr 3 33 4096,aF 30 34] (cd 30 (sr [oq 2 (.move (.const (.slice none 0 0))),f8 3 9] .ret) .skip))))))))) (sr [cB 36 4 4,i7 37 17 1,gW 38 37,i7 39 18 1,gW 40 39,jB 41 40,oc 42 64 [(.tmp 36),(.tmp 38),(.tmp 41)],aF 35 42,bV 43 35 0,bV 44 35 1,aF 6 43,aF 7 44] (.seq (sr [aF 45 7,oq 46 (.un .not (.tmp 45))] (cd 46 (sr [oq 2 (.move (.const (.slice none 0 0))),f8 3 3] .ret) .skip)) (sr [aF 47 6,aF 2 47,f8 3 0] .ret)))))),[(.tmp 2),(.tmp 3)]⟩
theorem cF141:bG Tryz.prog 141=some F141:=by kernel_rfl
def F95:IFun:=⟨32,(sr [oq 2 (.move (.const (.slice none 0 0))),f8 3 0] (.seq (sr [aF 9 0,jB 10 9,hO 11 .gtr 3 10 64] (cd 11 (sr [oq 2 (.move (.const (.slice none 0 0))),f8 3 9] .ret) .skip)) (sr [oq 4 (.move (.const (.slice none 0 0)))] (.seq (sr [aF 12 0,jB 13 12,f8 14 0] (.block 0 (.loop (sr [aW .lss 15 3 14 13] (.seq (cd 15 .skip (.exit 0)) (.seq (.block 1 (sr [jZ 16 19 12 14,cB 17 19 16,oq 6 (.alloc [(5,(.int .i64 0)),(4,(.slice none 0 0)),(4,(.int .i64 0)),(4,(.slice none 0 0)),(1,(.int .i64 0)),(1,(.slice none 0 0))]),bQ 19 6 17] (sr [cB 19 19 6,oc 20 141 [(.tmp 19)],aF 18 20,bV 21 18 0,bV 22 18 1,aF 7 21,aF 8 22] (.seq (sr [aF 23 8,hO 24 .neq 33 23 0] (cd 24 (sr [aF 25 8,oq 2 (.move (.const (.slice none 0 0))),aF 3 25] .ret) .skip)) (.region [aF 26 4,aF 27 7,oq 28 (.buildSlice 1 [(1,(.slice none 0 0))] 1 [(0,(.tmp 27))]),oq 29 (.append 1 24 (.tmp 26) (.tmp 28)),aF 4 29]))))) (.region [hO 30 .add 3 14 1,aF 14 30]))))))) (sr [aF 31 4,aF 2 31,f8 3 0] .ret))))),[(.tmp 2),(.tmp 3)]⟩
theorem cF95:bG Tryz.prog 95=some F95:=by kernel_rfl
def F32:IFun:=⟨165,(sr [oq 4 (.move (.const (.slice none 0 0))),f8 5 0] (sr [aF 24 0,oc 25 95 [(.tmp 24)],aF 23 25,bV 26 23 0,bV 27 23 1,aF 6 26,aF 7 27] (.seq (.block 0 (sr [aF 29 7,hO 30 .neq 33 29 0,aF 28 30] (cd 28 (sr [aF 31 7,oq 4 (.move (.const (.slice none 0 0))),aF 5 31] .ret) (sr [aF 33 1,hO 34 .lss 3 33 1,aF 35 34,fI 36 35 false 1,ou 37 35 (.bin .gtr 3 (.tmp 36) (oi 64)),oq 38 (.pick (.tmp 35) (.const (.bool true)) (.tmp 37)),aF 32 38] (cd 32 (sr [oq 4 (.move (.const (.slice none 0 0))),f8 5 3] .ret) .skip))))) (sr [oq 39 .makeMap,aF 8 39] (sr [oq 9 (.move (.const (.slice none 0 0)))] (.seq (sr [aF 40 6,jB 41 40,f8 42 0] (.block 1 (.loop (sr [aW .lss 43 3 42 41] (.seq (cd 43 .skip (.exit 1)) (.seq (.block 2 (sr [aF 44 42,jZ 45 1 40 42,gW 46 45,aF 10 44,aF 11 46] (sr [aF 47 11,jB 48 47,f8 49 0] (.block 3 (.loop (sr [aW .lss 50 3 49 48] (.seq (cd 50 .skip (.exit 3)) (.seq (.block 4 (sr [aF 51 49,jZ 52 1 47 49,gW 53 52,aF 12 51,aF 13 53] (.seq (sr [aF 55 8,aF 56 13,oq 57 (.lookup (.sc (.int .u8 0)) .i64 (.tmp 55) (.tmp 56) true),aF 54 57,bV 58 54 0,bV 59 54 1,aF 14 58,aF 15 59] (sr [aF 60 15,oq 61 (.un .not (.tmp 60))] (cd 61 (.region [aF 62 9,aF 63 13,oq 64 (.buildSlice 1 [(1,(.int .i64 0))] 1 [(0,(.tmp 63))]),oq 65 (.append 1 8 (.tmp 62) (.tmp 64)),aF 9 65]) .skip))) (.region [aF 66 8,aF 67 13,aF 68 0,aF 69 10,jZ 70 19 68 69,i7 71 18 70,gW 72 71,aF 73 12,jZ 74 1 72 73,gW 75 74,os (.mapUpdate .i64 (.tmp 66) (.tmp 67) (.tmp 75))])))) (.region [hO 76 .add 3 49 1,aF 49 76]))))))))) (.region [hO 77 .add 3 42 1,aF 42 77]))))))) (.seq (sr [aF 78 9,jB 79 78,hO 80 .eql 3 79 0] (cd 80 (sr [oq 4 (.move (.const (.slice none 0 0))),f8 5 0] .ret) .skip)) (sr [aF 81 9,oc 82 96 [(.tmp 81)]] (sr [aF 83 9,oq 84 (.idxSl 1 (.tmp 83) (oi 0)),gW 85 84,aF 16 85] (sr [aF 86 9,aF 87 9,jB 88 87,aX .sub 89 3 88 1,jZ 90 1 86 89,gW 91 90,aF 92 16,aW .sub 93 3 91 92,aF 94 1,aW .add 95 3 93 94,aF 96 1,aW .quo 97 3 95 96,aF 17 97] (sr [oq 18 (.move (.const (.slice none 0 0)))] (.seq (sr [aF 98 9,jB 99 98,f8 100 0] (.block 5 (.loop (sr [aW .lss 101 3 100 99] (.seq (cd 101 .skip (.exit 5)) (.seq (.block 6 (sr [jZ 102 1 98 100,gW 103 102,aF 20 103] (sr [aF 104 20,aF 105 16,aW .sub 106 3 104 105,aF 107 17,aW .quo 108 3 106 107,aF 109 18,jB 110 109,aX .sub 111 3 110 1,aF 21 108,aF 22 111] (.seq (.draw [aF 112 22,hO 113 .geq 3 112 0,aF 114 113,fI 115 114 true 18,fI 116 114 true 22,ot 117 114 (.idxSl 3 (.tmp 115) (.tmp 116)),ot 118 114 (.fieldAddr 0 (.tmp 117)),ot 119 114 (.load 1 false (.tmp 118)),fI 120 114 true 21,ot 121 114 (.bin .eql 3 (.tmp 119) (.tmp 120)),oq 122 (.pick (.tmp 114) (.tmp 121) (.const (.bool false))),aF 123 122,fI 124 123 true 18,fI 125 123 true 22,ot 126 123 (.idxSl 3 (.tmp 124) (.tmp 125)),ot 127 123 (.fieldAddr 1 (.tmp 126)),ot 128 123 (.load 1 false (.tmp 127)),fI 129 123 true 18,fI 130 123 true 22,ot 131 123 (.idxSl 3 (.tmp 129) (.tmp 130)),ot 132 123 (.fieldAddr 2 (.tmp 131)),ot 133 123 (.load 1 false (.tmp 132)),ot 134 123 (.len (.tmp 133)),ot 135 123 (.bin .add 3 (.tmp 128) (.tmp 134)),fI 136 123 true 20,ot 137 123 (.bin .eql 3 (.tmp 135) (.tmp 136)),oq 138 (.pick (.tmp 123) (.tmp 137) (.const (.bool false)))] [[],[0],[1],[2],[2],[3,4,2],[5,2],[6,2],[2],[7,8,2],[2,9],[10,2],[11],[11],[12,13,11],[14,11],[15,11],[11],[11],[17,18,11],[19,11],[20,11],[21,11],[16,22,11],[11],[23,24,11],[11,25]]) (cd 138 (.draw [aF 139 18,aF 140 22,aF 141 18,aF 142 22,jZ 143 3 141 142,i7 144 2 143,gW 145 144,aF 146 8,aF 147 20,oq 148 (.lookup (.sc (.int .u8 0)) .i64 (.tmp 146) (.tmp 147) false),oq 149 (.buildSlice 1 [(1,(.int .u8 0))] 1 [(0,(.tmp 148))]),oq 150 (.append 1 1 (.tmp 145) (.tmp 149)),jZ 151 3 139 140,i7 152 2 151,bQ 1 152 150] [[],[],[],[],[2,3],[4],[5],[],[],[7,8],[9],[6,10],[0,1,0,1,2,3,4,5,6,7,8,9,10,11],[12,0,1,2,3,4,5,6,7,8,9,10,11],[13,11,11,0,1,2,3,4,5,6,7,8,9,10,11]]) (.region [aF 153 18,aF 154 21,aF 155 20,aF 156 8,aF 157 20,oq 158 (.lookup (.sc (.int .u8 0)) .i64 (.tmp 156) (.tmp 157) false),oq 159 (.buildSlice 1 [(1,(.int .u8 0))] 1 [(0,(.tmp 158))]),oq 160 (.build [(2,(.int .i64 0)),(1,(.slice none 0 0))] [(0,(1,(.tmp 154))),(1,(1,(.tmp 155))),(2,(1,(.tmp 159)))]),oq 161 (.buildSlice 3 [(2,(.int .i64 0)),(1,(.slice none 0 0))] 1 [(0,(.tmp 160))]),oq 162 (.append 3 40 (.tmp 153) (.tmp 161)),aF 18 162])))))) (.region [hO 163 .add 3 100 1,aF 100 163]))))))) (sr [aF 164 18,aF 4 164,f8 5 0] .ret))))))))))))),[(.tmp 4),(.tmp 5)]⟩
theorem cF32:bG Tryz.prog 32=some F32:=by kernel_rfl
def F31:IFun:=⟨82,(sr [oq 2 (.move (.const (.slice none 0 0))),oq 3 (.move (.const (.bool false)))] (sr [oq 4 (.move (.const (.slice none 0 0)))] (.seq (sr [aF 9 0,jB 10 9,hO 11 .gtr 3 10 12,aF 12 11,fI 13 12 true 0,ot 14 12 (.len (.tmp 13)),ot 15 12 (.bin .leq 3 (.tmp 14) (oi 64)),fI 16 12 true 15,fI 17 16 false 0,ou 18 16 (.len (.tmp 17)),ou 19 16 (.bin .gtr 3 (.tmp 18) (oi 70)),ot 20 12 (.pick (.tmp 16) (.const (.bool true)) (.tmp 19)),oq 21 (.pick (.tmp 12) (.tmp 20) (.const (.bool false)))] (cd 21 (sr [oq 2 (.move (.const (.slice none 0 0))),oq 3 (.move (.const (.bool false)))] .ret) .skip)) (.seq (sr [f8 5 0] (.block 0 (.loop (.seq (sr [aF 22 5,aF 23 0,jB 24 23,aW .lss 25 3 22 24] (cd 25 .skip (.exit 0))) (.seq (.block 1 (sr [aF 29 0,aF 30 5,jZ 31 19 29 30,i7 32 0 31,cB 33 17 32,oc 34 12 [(.tmp 33)],aF 28 34,bV 35 28 0,bV 36 28 1,oq 6 (.alloc [(5,(.int .i64 0)),(4,(.slice none 0 0)),(4,(.int .i64 0)),(4,(.slice none 0 0))]),bQ 17 6 35,aF 7 36] (sr [aF 37 0,aF 38 5,jZ 39 19 37 38,i7 40 18 39,gW 41 40,jB 42 41,aF 8 42] (.seq (sr [aF 43 7,oq 44 (.un .not (.tmp 43)),aF 45 44,fI 46 45 false 8,ou 47 45 (.bin .gtr 3 (.tmp 46) (oi 300)),fI 48 45 false 47,fI 49 48 true 8,ot 50 48 (.bin .leq 3 (.tmp 49) (oi 4096)),fI 51 48 true 50,fI 52 51 false 8,ou 53 51 (.bin .gtr 3 (.tmp 52) (oi 5000)),ot 54 48 (.pick (.tmp 51) (.const (.bool true)) (.tmp 53)),ou 55 45 (.pick (.tmp 48) (.tmp 54) (.const (.bool false))),oq 56 (.pick (.tmp 45) (.const (.bool true)) (.tmp 55)),aF 57 56,fI 58 57 false 0,ou 59 57 (.len (.tmp 58)),ou 60 57 (.bin .gtr 3 (.tmp 59) (oi 12)),fI 61 57 false 60,fI 62 61 true 8,ot 63 61 (.bin .gtr 3 (.tmp 62) (oi 0)),ou 64 57 (.pick (.tmp 61) (.tmp 63) (.const (.bool false))),oq 65 (.pick (.tmp 57) (.const (.bool true)) (.tmp 64))] (cd 65 (sr [oq 2 (.move (.const (.slice none 0 0))),oq 3 (.move (.const (.bool false)))] .ret) .skip)) (.draw [aF 66 4,cB 67 17 6,aF 68 0,aF 69 5,jZ 70 19 68 69,i7 71 17 70,gW 72 71,aF 73 0,aF 74 5,jZ 75 19 73 74,i7 76 18 75,gW 77 76,oq 78 (.build [(5,(.int .i64 0)),(4,(.slice none 0 0)),(4,(.int .i64 0)),(4,(.slice none 0 0)),(1,(.int .i64 0)),(1,(.slice none 0 0))] [(0,(17,(.tmp 67))),(17,(1,(.tmp 72))),(18,(1,(.tmp 77)))]),oq 79 (.buildSlice 19 [(5,(.int .i64 0)),(4,(.slice none 0 0)),(4,(.int .i64 0)),(4,(.slice none 0 0)),(1,(.int .i64 0)),(1,(.slice none 0 0))] 1 [(0,(.tmp 78))]),oq 80 (.append 19 296 (.tmp 66) (.tmp 79)),aF 4 80] [[],[],[],[],[2,3],[4],[5],[],[],[7,8],[9],[10],[1,6,11],[12],[0,13],[14,14,0,1,2,3,4,5,6,7,8,9,10,11,12,13,14]]))))) (.region [aF 26 5,hO 27 .add 3 26 1,aF 5 27])))))) (sr [aF 81 4,aF 2 81,oq 3 (.move (.const (.bool true)))] .ret))))),[(.tmp 2),(.tmp 3)]⟩
theorem P8:bG Tryz.prog 31=some F31:=by kernel_rfl
def F35:IFun:=⟨36,(sr [bC 6 0] (.block 0 (.loop (.seq (sr [aB 7 6,aB 8 2,cU 9 8,aW .lss 10 3 7 9,aB 11 10,dB 11 12 1 true,dB 11 13 6 true,ot 14 11 (.bin .add 3 (.tmp 12) (.tmp 13)),ot 15 11 (.bin .geq 3 (.tmp 14) (oi 0)),oq 16 (.pick (.tmp 11) (.tmp 15) (.const (.bool false))),aB 17 16,dB 17 18 1 true,dB 17 19 6 true,ot 20 17 (.bin .add 3 (.tmp 18) (.tmp 19)),dB 17 21 0 true,ot 22 17 (.len (.tmp 21)),ot 23 17 (.bin .lss 3 (.tmp 20) (.tmp 22)),oq 24 (.pick (.tmp 17) (.tmp 23) (.const (.bool false)))] (cd 24 .skip (.exit 0))) (.seq (.block 1 (.region [aB 27 0,aB 28 1,aB 29 6,aW .add 30 3 28 29,aB 31 2,aB 32 6,cI 33 1 31 32,aJ 34 33,cI 35 1 27 30,bQ 1 35 34])) (.region [aB 25 6,aX .add 26 3 25 1,aB 6 26])))))),[]⟩
theorem cF35:bG Tryz.prog 35=some F35:=by kernel_rfl
set_option maxRecDepth 20000
abbrev uv (b:Nat):AV:=.sc (.int .u8 (b:Int))
def bys (l:List Nat):List (List AV):=l.map fun b=>[uv b]
theorem dZ (l:List Nat):(bys l).length=l.length:=by simp[bys]
theorem BK (l:List Nat) (k:Nat) (h:k < l.length):cW (bys l) (k:Int)=some [uv l[k]]:=eJ (fun n:Nat=>[uv n]) l k h
instance (l:List Nat):PRs (bys l):=by unfold bys; infer_instance
structure Rq where
 at':Int
 e:Ty
 o:Ty
 off:Int
 data:List Nat
def rqR (r:Rq):List AV:=vwR r.at' r.e r.o++[iv r.off,.list 1 (bys r.data)]
def rqs (l:List Rq):List (List AV):=l.map rqR
theorem kI (l:List Rq):(rqs l).length=l.length:=by simp[rqs]
theorem tY (l:List Rq) (k:Nat) (h:k < l.length):cW (rqs l) (k:Int)=some (rqR l[k]):=eJ rqR l k h
theorem DG (r:Rq):PR (rqR r):=by unfold rqR vwR; infer_instance
def Rq.v (r:Rq):Int×Sn:=dJ r.at' r.e r.o
def Rq.ok (r:Rq):Prop:=iK 8 r.e∧iK 8 r.o∧r.off < 9223372036854775808∧r.data.length≤140737488355328
def cD (r:Rq):List Int×Int:=
 if r.v.1≠0 then([],r.v.1)
 else if r.off < 0 then([],3)
 else if r.data.length % r.v.2.elem.toNat≠0 then([],26)
 else if 4096 < r.data.length then([],9)
 else if (fV r.v.2 r.off.toNat r.data.length).2=true then((fV r.v.2 r.off.toNat r.data.length).1,0) else([],3)
theorem QR {r:Rq} (hr:r.ok):aC Tryz.prog 141 [.agg (rqR r)] (.tup [.list 1 (inR (cD r).1),iv (cD r).2]):=by
 obtain⟨he,ho,hoff,hdl⟩:=hr;have hc:=yU (a:=r.at') he ho;have hsn:=oB (a:=r.at') he ho;refine aC.mkI (ha:=⟨fun c hc=>by rw[List.mem_singleton.1 hc]; exact .agg _ (DG r).out⟩) cF141 (nlB rfl) ?_;unfold cD rqR Rq.v;obtain⟨a,e,o,off,data⟩:=r;simp only at he ho hoff hdl hc hsn ⊢;generalize dJ a e o=r at *;obtain⟨er,s⟩:=r;simp only at hsn ⊢;obtain⟨_,k1,c1,b1,s1,z1,l1,p1,f1,_,rfl,_⟩:=cK he;obtain⟨_,k2,c2,b2,s2,z2,l2,p2,f2,_,rfl,_⟩:=cK ho;have hbl:=dZ data;unfold vwR snR at *;rw[tyR,tyR] at *;replace hc:aC Tryz.prog 63 _ (.tup [.agg [iv s.at',iv s.elem,iv s.ext,.list 1 (inR s.pl)],iv er]):=hc;refine aA ?_;refine AWP.condN (er≠0) rfl (fX _) (fun h1=>?_) (fun h1=>?_)
 ·rw[if_pos h1,show inR (([],er):List Int×Int).1=[] from rfl]
  refine aA ?_;exact aG.w
 rw[if_neg h1];have hs:=hsn (dBc h1);obtain⟨_,⟨q1,q2⟩,_⟩:=id hs
 obtain⟨E,hE⟩:∃ E:Nat,s.elem=E:=⟨s.elem.toNat,by omega⟩
 have hE0:1≤E:=by omega
 rw[hE] at hc ⊢;rw[Int.toNat_natCast];refine aA ?_;refine AWP.condN (off < 0) rfl rfl (fun g1=>?_) (fun g1=>?_)
 ·rw[if_pos g1,show inR (([],3):List Int×Int).1=[] from rfl]
  refine aA ?_;exact aG.w
 rw[if_neg g1]
 obtain⟨O,rfl⟩:∃ O:Nat,off=O:=⟨off.toNat,by omega⟩
 refine aA ?_;refine AWP.condN (data.length % E≠0) rfl (by simp[hbl]) (fun g2=>?_) (fun g2=>?_)
 ·rw[if_pos g2,show inR (([],26):List Int×Int).1=[] from rfl]
  refine aA ?_;exact aG.w
 rw[if_neg g2];refine aA ?_;refine AWP.condN (4096 < data.length) rfl (by rw[hbl]) (fun g3=>?_) (fun g3=>?_)
 ·rw[if_pos g3,show inR (([],9):List Int×Int).1=[] from rfl]
  refine aA ?_;exact aG.w
 rw[if_neg g3,Int.toNat_natCast];have hli:=DT (off:=O) (n:=data.length) hs (by omega) (by omega);rw[hE] at hli;generalize fV s O data.length=l at *;obtain⟨l,ok⟩:=l;simp only at hli ⊢;rw[← hbl] at hli;refine aA ?_
 cases ok with
 | false=>
  rw[if_neg (by simp),show inR (([],3):List Int×Int).1=[] from rfl];refine aA ?_;exact aG.w
 | true=>
 rw[if_pos rfl];refine aA ?_;exact aG.w
def lA (l:List Rq):List (List Int)×Int:=
 if 64 < l.length then([],9) else match l.find? (fun r=>decide ((cD r).2≠0)) with
  | some r=>([],(cD r).2)
  | none=>(l.map fun r=>(cD r).1,0)
def plR (ps:List (List Int)):List (List AV):=ps.map fun p=>[.list 1 (inR p)]
theorem EW (l:List (List Int)):(plR l).length=l.length:=by simp[plR]
instance (l:List (List Int)):PRs (plR l):=by unfold plR; infer_instance
instance (l:List Rq):PRs (rqs l):=⟨fun r hr c hc=>by
 obtain⟨q,_,rfl⟩:=List.mem_map.1 hr
 exact(DG q).out c hc⟩
theorem NE {l:List Rq} {i:Nat} (h64:¬ 64 < l.length) (hi:i < l.length) (hp:∀ j (h:j < i),(cD (l[j]'(by omega))).2=0) (hb:(cD l[i]).2≠0):lA l=([],(cD l[i]).2):=by
 unfold lA;rw[if_neg h64]
 have:l.find? (fun r=>decide ((cD r).2≠0))=some l[i]:=by
  rw[List.find?_eq_some_iff_getElem];refine⟨by simpa using hb,i,hi,rfl,fun j hj=>by simpa using hp j hj⟩
 rw[this]
theorem IL {l:List Rq} (h64:¬ 64 < l.length) (hp:∀ j (h:j < l.length),(cD l[j]).2=0):lA l=(l.map fun r=>(cD r).1,0):=by
 unfold lA;rw[if_neg h64]
 have:l.find? (fun r=>decide ((cD r).2≠0))=none:=by
  rw[List.find?_eq_none];intro r hr;obtain⟨j,hj,rfl⟩:=List.mem_iff_getElem.1 hr
  simpa using hp j hj
 rw[this]
theorem O9 {l:List Rq} (hl:∀ r∈l,r.ok) (hn:l.length < 140737488355328):aC Tryz.prog 95 [.list 19 (rqs l)] (.tup [.list 1 (plR (lA l).1),iv (lA l).2]):=by
 refine aC.mkI cF95 (nlB rfl) ?_;have hll:=kI l;refine aA ?_;refine AWP.condN (64 < l.length) rfl (by rw[hll]) (fun h64=>?_) (fun h64=>?_)
 ·rw[show lA l=([],9) from if_pos h64,show plR (([],9):List (List Int)×Int).1=[] from rfl]
  refine aA ?_;exact aG.w
 refine aA ?_;refine AWP.loop (fun i:Nat=>[(4,.hsl 0 0 0 i),(12,.list 19 (rqs l)),(13,iv l.length),(14,iv i)]) (fun i=>[[.cells 1 (plR ((l.take i).map fun r=>(cD r).1))]]) (fun i=>i≤l.length∧∀ j (h:j < l.length),j < i→(cD l[j]).2=0) (fun i=>l.length - i) 0 ⟨nZl _,fun j _ h=>absurd h (Nat.not_lt_zero j)⟩ ?_ ?_
 ·exact Sub.w [1] [[(0,0)]]
 rintro i ⟨hi,hg⟩;refine aA ?_;refine AWP.condN (i < l.length) rfl rfl (fun h=>?_) (fun h=>?_)
 ·have hr:=tY l i h
  have hc:=QR (hl l[i] (gMe _))
  have hbad:=fun hb=>NE h64 h (fun j hj=>hg j (by omega) hj) hb
  have htk:(l.take (i+1)).map (fun r=>(cD r).1)=(l.take i).map (fun r=>(cD r).1)++[(cD l[i]).1]:=by
   rw[List.take_add_one,gEg h,List.map_append];rfl
  have hpl:((l.take i).map fun r=>(cD r).1).length=i:=by simp; omega
  have hgi:(cD l[i]).2=0→∀ j (h:j < l.length),j < i+1→(cD l[j]).2=0:=fun h0 j hj hlt=>by
   rcases Nat.lt_or_ge j i with q | q
   ·exact hg j hj q
   ·obtain rfl:j=i:=by omega
    exact h0
  generalize cD l[i]=z at *;obtain⟨p,e⟩:=z;generalize (l.take i).map (fun r=>(cD r).1)=ps at *;have hpr:=EW ps;have hok:=hl l[i] (gMe _);generalize l[i]=q at *;obtain⟨a,t1,t2,off,data⟩:=q;obtain⟨he,ho,_,_⟩:=hok;obtain⟨_,k1,c1,b1,s1,z1,l1,p1,f1,_,rfl,_⟩:=cK he;obtain⟨_,k2,c2,b2,s2,z2,l2,p2,f2,_,rfl,_⟩:=cK ho;unfold rqR vwR at hr hc;rw[tyR,tyR] at hr hc;replace hr:cW (rqs l) (i:Int)=some [iv a,iv k1,iv c1,iv b1,iv s1,.list 1 (inR z1),.list 1 (inR l1),.list 1 (inR p1),.list 8 (aO f1),iv k2,iv c2,iv b2,iv s2,.list 1 (inR z2),.list 1 (inR l2),.list 1 (inR p2),.list 8 (aO f2),iv off,.list 1 (bys data)]:=hr;replace hc:aC Tryz.prog 141 [.agg [iv a,iv k1,iv c1,iv b1,iv s1,.list 1 (inR z1),.list 1 (inR l1),.list 1 (inR p1),.list 8 (aO f1),iv k2,iv c2,iv b2,iv s2,.list 1 (inR z2),.list 1 (inR l2),.list 1 (inR p2),.list 8 (aO f2),iv off,.list 1 (bys data)]] (.tup [.list 1 (inR p),iv e]):=hc;refine aA ?_;refine AWP.condN (e≠0) rfl (fX _) (fun h0=>?_) (fun h0=>?_)
  ·rw[hbad h0]
   rw[show plR (([],e):List (List Int)×Int).1=[] from rfl];refine aA ?_;exact aG.w
  ·refine aA ?_
   refine⟨i+1,⟨by omega,hgi (dBc h0)⟩,by omega,?_⟩;rw[htk]
   have e1:plR (ps++[p])=plR ps++[[.list 1 (inR p)]]:=by simp[plR]
   rw[e1];exact Sub.wl [] [[(3,0)]]
 ·obtain rfl:l.length=i:=by omega
  rw[IL h64 fun j h=>hg j h h,List.take_length];have:=EW (l.map fun r=>(cD r).1);rw[List.length_map] at this;refine aA ?_;exact aG.w
end Go.Proofs.YtgdocflpobncmaaGreat
namespace Go.Av
open Go.Proofs Go.Shelf Go.RowKit Go.Sort
abbrev ivR (l:List Int):List (List AV):=l.map fun x=>[.sc (.int .i64 x)]
theorem EZ {l:List Int} {i:Nat} {r:List AV} (h:(ivR l)[i]?=some r):∃ x,l[i]?=some x∧r=[.sc (.int .i64 x)]:=by
 rw[List.getElem?_map] at h;obtain⟨x,hx,rfl⟩:=Option.map_eq_some_iff.1 h;exact⟨x,hx,rfl⟩
theorem y5 {f:Int→Value} {d:Array Int} {cs:Array Value} {j:Nat} (hj:j < d.size) (hc:j < cs.size):(putCells f 0 d cs)[j]?=some (f d[j]!):=by
 unfold putCells;rw[Array.getElem?_mapIdx,Array.getElem?_eq_getElem hc];simp[hj]
theorem AJ {l:List Int} {i:Nat} {x:Int} (h:l[i]?=some x):l.toArray[i]! = x:=by
 obtain⟨h1,h2⟩:=gEs.1 h;rw[getElem!_pos l.toArray i (by simpa using h1)]
 simpa using h2
theorem aE.sortInts {P:Program} {ρ:Go.Shelf.Ren} (L:Lays.n189 P ρ) (hf:Callable P (ρ.f 189)) (l:List Int) (hl:l.length < 4611686018427387904):
  aE P (ρ.f 189) [.hsl 0 0 0 l.length] [[.cells 1 (ivR l)]] fun res H'=>res=.tup []∧H'=[[.cells 1 (ivR (l.mergeSort fun x y=>decide (x≤y)))]]:=by
 refine⟨hf,fun M J w cargs ha hr hH hM=>?_⟩
 obtain⟨c0,rfl⟩:∃ c0,cargs=#[c0]:=by
  obtain⟨l⟩:=cargs
  match l,ha with
  | [a],_=>exact⟨a,rfl⟩
 have r0:=hr 0 _ c0 rfl rfl;have hlen:(l.mergeSort fun x y=>decide (x≤y)).length=l.length:=List.length_mergeSort _;obtain⟨lc,hJ,hB⟩:=hH.blk 0 0 _ rfl rfl;generalize hn:l.length=n at r0
 cases r0 with
 | hslNil _ _ a l' hJ' hb=>
  obtain rfl:l=[]:=List.eq_nil_of_length_eq_zero hn;refine(Any.slices_Sort_int_none L a 0 w).mono ?_;rintro e w' ⟨rfl,rfl⟩;exact⟨_,M,J,.tup [],_,rfl,.refl _ hH hM,.tup _ _ rfl (fun j c v hc=>by cases hc),rfl,by simp⟩
 | hsl _ _ _ _ cap β lc' hJ' hb hc hlc=>
  obtain rfl:lc'=lc:=by rw[hJ] at hJ'; injection hJ' with e; exact e.symm
  unfold eQ at hB;rw[hb] at hB;obtain⟨hsz,hrows,cs,ty,⟨ff,hheap,hff⟩,hcs,hle,hone,hrep⟩:=hB;rw[List.length_map] at hle hone;obtain rfl:=hn
  have hcell:∀ i x,l[i]?=some x→cs[i]?=some (Value.int .i64 x):=fun i x hx=>by
   have hi:=(gEs.1 hx).1
   have hjc:i < cs.size:=by omega
   have h5:=hrep i [.sc (.int .i64 x)] 0 (.sc (.int .i64 x)) cs[i] (by rw[List.getElem?_map,hx]; rfl) rfl (by rw[Nat.mul_one,Nat.add_zero]; exact Array.getElem?_eq_getElem hjc);rw[Array.getElem?_eq_getElem hjc,h5.sc_inv]
  have hHK:Holds (Value.int .i64) w β 0 l.toArray:=fun j hj=>by
   rw[List.size_toArray] at hj;unfold World.cell? World.frozen?;simp only[Nat.zero_add];rw[hheap];refine⟨?_,?_⟩
   ·simp only[Option.isSome_none,Bool.false_eq_true,if_false]
    have h6:l[j]?=some l[j]:=gEg hj;rw[AJ h6];exact hcell j _ h6
   ·rcases hff with rfl | hff
    ·simp
    ·rw[Bool.and_eq_false_imp]
     intro h0;simp at h0;omega
  have hbl:β < w.heap.size:=(Array.getElem?_eq_some_iff.1 hheap).1;have hcon:=Any.slices_Sort_int L β 0 cap l w hHK hbl hl;rw[Nat.zero_mul];refine hcon.mono ?_;rintro e w' ⟨rfl,nn,os,rfl⟩;generalize (l.mergeSort fun x y=>decide (x≤y))=m at hlen
  have hcsz:l.length≤cs.size:=by omega
  have s1:aS 1 M J [[.cells 1 (ivR l)]] w M J (aK [[.cells 1 (ivR l)]] 0 0 (.cells 1 (ivR m))) (putRow (Value.int .i64) (Sort.ahead w nn) β 0 m.toArray):=by
   refine aS.write 1 hH hM 0 0 lc' β _ rfl rfl hJ hb (.cells (putCells (Value.int .i64) 0 m.toArray cs) ty ff) _ (fun _=>?_) ?_ rfl rfl rfl
   ·unfold eQ
    rw[hb];refine⟨hsz,fun i r hr=>?_,putCells (Value.int .i64) 0 m.toArray cs,ty,?_,?_,?_,fun j v hj hv=>?_,fun i r j c v hr hc hv=>?_⟩
    ·obtain⟨x,_,rfl⟩:=EZ hr
     rfl
    ·refine⟨ff,?_,?_⟩
     ·show(w.heap.modify β (onCells (putCells (Value.int .i64) 0 m.toArray)))[β]?=_
      rw[Array.getElem?_modify,if_pos rfl,hheap];rfl
     ·unfold putCells
      rw[Array.size_mapIdx];exact hff
    ·unfold putCells
     rw[Array.size_mapIdx];exact hcs
    ·rw[List.length_map,hlen]; exact hle
    ·rw[List.length_map,Nat.mul_one] at hj
     rw[y5 (by simpa using hj) (by omega)] at hv
     injection hv with hv
     subst hv;rfl
    ·obtain⟨x,hx,rfl⟩:=EZ hr
     have hi:=(gEs.1 hx).1
     match j,hc with
     | 0,hc=>
      injection hc with hc
      subst hc;rw[Nat.mul_one,Nat.add_zero,y5 (by simpa using hi) (by omega),AJ hx] at hv
      injection hv with hv
      subst hv;exact .sc _
   ·show w.heap.modify β (onCells (putCells (Value.int .i64) 0 m.toArray))=_
    apply Array.ext_getElem?;intro γ;rw[Array.getElem?_modify,Array.getElem?_setIfInBounds]
    by_cases e:β=γ
    ·subst e
     rw[if_pos rfl,if_pos rfl,if_pos hbl,hheap];rfl
    ·rw[if_neg e,if_neg e]
  have s2:aS 1 M J (aK [[.cells 1 (ivR l)]] 0 0 (.cells 1 (ivR m))) (putRow (Value.int .i64) (Sort.ahead w nn) β 0 m.toArray) M J (aK [[.cells 1 (ivR l)]] 0 0 (.cells 1 (ivR m))) (Go.Sort.grow (putRow (Value.int .i64) (Sort.ahead w nn) β 0 m.toArray) os):=by
   have hold:∀(γ:Nat) o,(putRow (Value.int .i64) (Sort.ahead w nn) β 0 m.toArray).heap[γ]?=some o→(Go.Sort.grow (putRow (Value.int .i64) (Sort.ahead w nn) β 0 m.toArray) os).heap[γ]?=some o:=fun γ o h=>by
    show((putRow (Value.int .i64) (Sort.ahead w nn) β 0 m.toArray).heap++os)[γ]?=some o;rw[Array.getElem?_append,if_pos (Array.getElem?_eq_some_iff.1 h).1];exact h
   refine aC.step 1 s1.hrep (fun _ _ h=>h) (fun γ o h=>hold γ o (s1.mrep γ o h)) rfl (.refl _) rfl ?_ hold (fun _ _ h=>.inl h);show _≤((putRow (Value.int .i64) (Sort.ahead w nn) β 0 m.toArray).heap++os).size;rw[Array.size_append];omega
  exact⟨_,M,J,.tup [],_,rfl,s1.trans s2,.tup _ _ rfl (fun j c v hc=>by cases hc),rfl,rfl⟩
end Go.Av
