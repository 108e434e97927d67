import Derived.Test.YtgdocflpobncmaaGreatGFtD7
import Derived.Test.YtgdocflpobncmaaGreatGAvU
import Derived.Test.YtgdocflpobncmaaGreatProg
import Derived.KernelRfl
set_option maxHeartbeats 4000000
namespace Go.Proofs.YtgdocflpobncmaaGreat
open Go.Av Go.Proofs
set_option maxRecDepth 20000
structure Sn where
 at':Int
 elem:Int
 ext:Int
 pl:List Int
def sn0:Sn:=⟨0,0,0,[]⟩
def snR (s:Sn):List AV:=[iv s.at',iv s.elem,iv s.ext,.list 1 (inR s.pl)]
theorem SQ (es:List (Int×Int)) (hb:∀ y∈es,-mP≤y.2∧y.2≤mP):∀ p∈bW es,-2000000≤p∧p≤2000000:=fun p hp=>by
 obtain⟨i,hi,hp⟩:=List.mem_flatMap.1 hp;obtain⟨j,hj,rfl⟩:=List.mem_map.1 hp;have hi:=List.mem_range.1 hi;have h1:=hb es[i] (gMe _);have h2:=eN (es.getD i (0,0)).1;have h3:=List.mem_range.1 hj
 have h4:es.getD i (0,0)=es[i]:=by simp[hi]
 rw[h4] at h2 h3 ⊢;unfold mP at h1;omega
def vwR (a:Int) (e o:Ty):List AV:=iv a::(tyR e++tyR o)
def gJ (pl:List Int) (i:Nat):Int:=if i=0 then -1 else pl.getD (i - 1) 0
def lG (pl:List Int) (ext:Int):Bool:=(List.range pl.length).all fun i=>decide (gJ pl i < pl.getD i 0) && decide (pl.getD i 0 < ext)
def FB (elem size:Nat):Bool:=decide (1≤elem) && (decide (1≤size) && decide (size % elem=0))
def cT (a:Int) (e o:Ty):Int×Sn:=
 if a < 0∨65536 < a then(3,sn0)
 else if (aF 3 e).1≠0 then((aF 3 e).1,sn0)
 else if (aF 3 o).1≠0 then((aF 3 o).1,sn0)
 else if lG (bW (aF 3 o).2.es) (aF 3 o).2.ext=true then
  if FB (bN (aF 3 e).2.es) (bN (aF 3 o).2.es)=true then(0,⟨a,bN (aF 3 e).2.es,(aF 3 o).2.ext,bW (aF 3 o).2.es⟩) else(2,sn0)
 else(2,sn0)
theorem lV (es:List (Int×Int)):(bW es).length=bN es:=by
 have:=vC es es.length (Nat.le_refl _);rw[List.take_length,← iD] at this;exact this
theorem LX {a:Int} {e o:Ty} (he:aX 3 e=true) (ho:aX 3 o=true):aB Tryz.prog 63 [.agg (vwR a e o)] (.tup [.agg (snR (cT a e o).2),iv (cT a e o).1]):=by
 refine aB.mkI (hX:=⟨.tup _ (by
  intro c hc;simp only[List.mem_cons,List.not_mem_nil,or_false] at hc
  rcases hc with rfl | rfl
  ·unfold snR; exact pv _
  ·exact .sc _)⟩) (ha:=⟨by
  intro c hc;rw[List.mem_singleton.1 hc];unfold vwR
  exact pv _⟩) cF63 (nlB rfl) ?_
 have e1:=FZ he;have o1:=FZ ho;have o2:=JC ho;have o3:=BJ ho;have hol:=kV ho;have hel:=kV he;have hsb:=dI 3 o ho;unfold cT;generalize aF 3 e=re at *;generalize aF 3 o=ro at *;obtain⟨ee,se⟩:=re;obtain⟨eo,so⟩:=ro;simp only at e1 o1 o2 o3 hol hel hsb ⊢;obtain⟨_,k1,c1,b1,s1,z1,l1,p1,f1,_,rfl,_⟩:=aO he;obtain⟨_,k2,c2,b2,s2,z2,l2,p2,f2,_,rfl,_⟩:=aO ho;have hn1:=eQ se.es;have hn2:=eQ so.es;have hpl:=lV so.es;generalize hne:bN se.es=ne at *;generalize hno:bN so.es=no at *;rw[tyR] at e1 o1 o2 o3;unfold vwR;rw[tyR,tyR];unfold snR;refine aA ?_
 by_cases ha:a < 0
 ·rw[dTr ha,if_pos (.inl ha)]
  refine aA ?_;exact aG.w
 rw[dFa ha];refine aA ?_;refine AWP.condN (65536 < a) rfl rfl (fun h=>?_) (fun h=>?_)
 ·rw[if_pos (.inr h)]
  refine aA ?_;exact aG.w
 rw[if_neg (by omega)];refine aA ?_;refine AWP.condN (ee≠0) rfl (d9 _) (fun h1=>?_) (fun h1=>?_)
 ·rw[if_pos h1]
  refine aA ?_;exact aG.w
 rw[if_neg h1];refine aA ?_;refine AWP.condN (eo≠0) rfl (d9 _) (fun h2=>?_) (fun h2=>?_)
 ·rw[if_pos h2]
  refine aA ?_;exact aG.w
 rw[if_neg h2];obtain rfl:eo=0:=dBc h2;have hB:=hsb rfl;have hsg:=AN (fun p=>-2000000≤p∧p≤2000000) _ (bW so.es) rfl (fun p hp=>SQ so.es hB.2.2.2.2.2.2.2.2 p hp);have hex:=FS _ (bW so.es) rfl;have hcol:=PU (iC (bW so.es)) (by omega) (fun x hx=>⟨(hsg.2 x hx).1,by have:=(hsg.2 x hx).2; omega⟩) (by rw[hex]; omega);rw[hex] at hcol;have hea:=MS (iC (bW so.es));generalize iC (bW so.es)=sg at *;generalize bW so.es=pl at *;generalize so.ext=ext at *;have hil:=bF pl;refine aA ?_;refine DK.nil ⟨by kernel_rfl,?_⟩;refine aA ?_;refine AWP.loop (fun i:Nat=>[(2,.ptr 0 0 0 0),(4,iv ne),(6,iv no),(8,iv ext),(11,.cptr [iv a,iv ne,iv ext,.list 1 (inR pl)]),(12,iv (gJ pl i)),(70,.list 1 (inR pl)),(71,iv pl.length),(72,iv i)]) (fun _=>[[.cells 4 [[iv 0,iv 0,iv 0,.sc (.slice none 0 0)]]]]) (fun i=>i≤pl.length∧∀ j,j < i→(decide (gJ pl j < pl.getD j 0) && decide (pl.getD j 0 < ext))=true) (fun i=>pl.length - i) 0 ⟨nZl _,fun j hj=>by omega⟩ ?_ ?_
 ·rw[← hil]
  exact Sub.wl [] [[(1,0)]]
 rintro i ⟨hi,hin⟩;refine aA ?_;refine AWP.condN (i < pl.length) rfl rfl (fun h5=>?_) (fun h5=>?_)
 ·have hr:=dJ pl i h5
  have hg:pl.getD i 0=pl[i]:=by simp[h5]
  have hls:gJ pl (i+1)=pl[i]:=by unfold gJ; rw[if_neg (by omega)]; exact hg
  have hno':(decide (gJ pl i < pl.getD i 0) && decide (pl.getD i 0 < ext))=false→lG pl ext=false:=fun hf=>List.all_eq_false.2 ⟨i,List.mem_range.2 h5,by rw[hf]; simp⟩
  rw[hg] at hno'
  have hin':gJ pl i < pl[i]→pl[i] < ext→∀ j,j < i+1→(decide (gJ pl j < pl.getD j 0) && decide (pl.getD j 0 < ext))=true:=fun q1 q2 j hj=>by
   by_cases ej:j=i
   ·subst ej; rw[hg,dTr q1,dTr q2]; rfl
   ·exact hin j (by omega)
  generalize pl[i]=p at *;generalize gJ pl i=la at *;refine aA ?_
  by_cases q1:p≤la
  ·rw[dTr q1]
   refine aA ?_;rw[hno' (by rw[dFa (by omega)]; rfl),if_neg (by simp),show sn0.at'=0 from rfl,show sn0.elem=0 from rfl,show sn0.ext=0 from rfl,show sn0.pl=[] from rfl];exact aG.w
  ·rw[dFa q1]
   refine aA ?_;refine AWP.condN (ext≤p) rfl rfl (fun q2=>?_) (fun q2=>?_)
   ·refine aA ?_
    rw[hno' (by rw[dFa (show¬ p < ext by omega),Bool.and_false]),if_neg (by simp),show sn0.at'=0 from rfl,show sn0.elem=0 from rfl,show sn0.ext=0 from rfl,show sn0.pl=[] from rfl];exact aG.w
   ·refine aA ?_
    refine⟨i+1,⟨by omega,hin' (by omega) (by omega)⟩,by omega,?_⟩;rw[hls];exact Sub.wl [] [[(0,0)]]
 ·obtain rfl:pl.length=i:=by omega
  rw[show lG pl ext=true from List.all_eq_true.2 fun j hj=>hin j (List.mem_range.1 hj),if_pos rfl];refine aA ?_;unfold FB
  by_cases g1:ne < 1
  ·rw[dTr g1,dFa (show¬ 1≤ne by omega)]
   refine aA ?_;rw[if_neg (by simp),show sn0.at'=0 from rfl,show sn0.elem=0 from rfl,show sn0.ext=0 from rfl,show sn0.pl=[] from rfl];exact aG.w
  rw[dFa g1,dTr (show 1≤ne by omega)];refine aA ?_
  by_cases g2:no < 1
  ·rw[dTr g2,dFa (show¬ 1≤no by omega)]
   refine aA ?_;rw[if_neg (by simp),show sn0.at'=0 from rfl,show sn0.elem=0 from rfl,show sn0.ext=0 from rfl,show sn0.pl=[] from rfl];exact aG.w
  rw[dFa g2,dTr (show 1≤no by omega)];refine aA ?_;refine AWP.condN (¬ no % ne=0) rfl (by first | rfl | (simp; done)) (fun g3=>?_) (fun g3=>?_)
  ·rw[dFa g3,if_neg (by simp),show sn0.at'=0 from rfl,show sn0.elem=0 from rfl,show sn0.ext=0 from rfl,show sn0.pl=[] from rfl]
   refine aA ?_;exact aG.w
  ·rw[dTr (dBc g3),if_pos (by rfl)]
   refine aA ?_;exact aG.w
def dD (s:Sn) (k:Nat):Int:=s.at'+((k / s.pl.length:Nat):Int) * s.ext+s.pl.getD (k % s.pl.length) 0
def iU (s:Sn) (off n:Nat):List Int:=(List.range n).map fun i=>dD s (off * s.elem.toNat+i)
def snB (s:Sn):Prop:=(0≤s.at'∧s.at'≤65536)∧(1≤s.elem∧s.elem≤40000)∧(-mP≤s.ext∧s.ext≤mP)∧0 < s.pl.length∧s.pl.length≤40000∧∀ p∈s.pl,-2000000≤p∧p≤2000000
def vsF (s:Sn) (c:AV):Fr:=[(3,.cptr [iv s.at',iv s.elem,iv s.ext,.list 1 (inR s.pl)]),(6,.ptr 0 0 0 0),(7,.ptr 1 0 0 0),(8,.ptr 2 0 0 0),(19,c)]
def vsE (x:Blk):Heap:=[[.cells 1 [[.sc (.slice none 0 0)]]],[.cells 1 [[bv false]]],[.cells 1 [[.sc (.slice none 0 0)]]],[x]]
def vsI (out:List Int) (x:Blk):Heap:=[[.cells 1 [[.sc (.slice none 0 0)]]],[.cells 1 [[bv false]]],[.cells 1 [[.hsl 4 0 0 out.length]]],[x],[.cells 1 (inR out)]]
def vsJ (out:List Int) (x:Blk):Heap:=[[.cells 1 [[.sc (.slice none 0 0)]]],[.cells 1 [[bv false]]],[.cells 1 [[.hsl 5 0 0 out.length]]],[x],[.dead],[.cells 1 (inR out)]]
def vsD (x:Blk):Heap:=[[.cells 1 [[.sc (.slice none 0 0)]]],[.cells 1 [[bv false]]],[.dead],[x],[.dead]]
def vsN (x:Blk):Heap:=[[.cells 1 [[.sc (.slice none 0 0)]]],[.cells 1 [[bv false]]],[.dead],[x]]
noncomputable def PB:cA:=gZ [1,1,1,0,1,0] F64.code
theorem RM {T:AV→AV→Prop} {ρ:Nat→Nat→Option (Nat×Nat)} {s:Sn} {c:AV} {L:LC} {st:LoopState} {pe:Option Code} (hc:PV c) (r0:ρ 0 0=some (0,0)) (r1:ρ 1 0=some (1,0)) (r2:ρ 2 0=some (2,0)):ToB T ρ (.lp L (vsF s c) st pe) (.lp L (vsF s c) st pe):=by
 refine ToB.lp _ _ _ _ _ fun x hx=>?_
 simp only[vsF,List.mem_cons,List.not_mem_nil,or_false] at hx
 rcases hx with rfl | rfl | rfl | rfl | rfl
 ·exact To.pure (pv (AV.cptr [iv s.at',iv s.elem,iv s.ext,.list 1 (inR s.pl)]))
 ·exact To.ptrO r0 rfl rfl
 ·exact To.ptrO r1 rfl rfl
 ·exact To.ptrO r2 rfl rfl
 ·exact To.pure hc.out
theorem OT {L:LC} {s:Sn} {c:AV} (hc:PV c) (hL:LOK Tryz.prog F64.n L [20] (rfA PB) (rfB PB)) (out:List Int) (p:Int) (ho:out.length≤1000000):
  eP Tryz.prog 3 0 [iv p] (vsI out (.lp L (vsF s c) .ready none)) fun b H'=>(b=true∧p < 65536∧H'=vsJ (out++[p]) (.lp L (vsF s c) .ready none))∨(b=false∧65536≤p∧H'=vsD (.lp L (vsF s c) .done (some .ret))):=by
 refine iA.g ?_;refine⟨L,_,_,_,_,_,hL,rfl,rfl,?_⟩;show AWP _ _ _ (.region _) _ _ _
 have hlp:∀(T:AV→AV→Prop) (ρ:Nat→Nat→Option (Nat×Nat)) (st:LoopState) (pe:Option Code),ρ 0 0=some (0,0)→ρ 1 0=some (1,0)→ρ 2 0=some (2,0)→ToB T ρ (.lp L (vsF s c) st pe) (.lp L (vsF s c) st pe):=fun T ρ st pe=>RM hc
 obtain⟨caps,hcaps⟩:∃ caps,caps=vsF s c:=⟨_,rfl⟩
 rw[← hcaps] at hlp ⊢;rw[show putL caps ([20].zip [iv p])=(20,iv p)::vsF s c by rw[hcaps]; rfl];unfold vsF;have hol:=bF out;refine aA ?_;refine⟨rfl,caps,rfl,?_⟩;show AWP _ _ _ (.block 1 _) _ _ _;refine AWP.fin ?_;refine aA ?_;refine AWP.condN (65536≤p) rfl rfl (fun h=>?_) (fun h=>?_)
 ·refine aA ?_
  refine⟨[],vsD (.lp L caps .busy none),?_,caps,rfl,.inr ⟨rfl,h,rfl⟩⟩;exact Sub.wl [] [[(0,0)],[(1,0)],[(2,0)],[(3,0)],[(4,0)]]
 ·refine aA ?_
  refine⟨[],vsJ (out++[p]) (.lp L caps .busy none),?_,caps,rfl,.inl ⟨rfl,by omega,rfl⟩⟩;unfold vsJ;rw[lAp]
  have hz9:inR out++[[iv p]]=inR (out++[p]):=by simp[inR]
  exact Sub.wl [] [[(0,0)],[(1,0)],[(2,0)],[(3,0)],[(4,0)],[(6,0)]]
theorem FF {L:LC} {s:Sn} {c:AV} {off n:Nat} (hc:PV c) (hL:LOK Tryz.prog F64.n L [20] (rfA PB) (rfB PB)) (hs:snB s) (hn:n≤5000) (ho:0 < n→off≤65536) (_hop:off < 9223372036854775808):
  aH Tryz.prog 154 [.yld 3 0,.cptr [iv n],.cptr [iv off],.cptr [iv s.at',iv s.elem,iv s.ext,.list 1 (inR s.pl)]] (vsE (.lp L (vsF s c) .ready none)) fun _ H'=>
   ((∀ p∈iU s off n,p < 65536)∧H'=vsI (iU s off n) (.lp L (vsF s c) .ready none))∨(¬ (∀ p∈iU s off n,p < 65536)∧H'=vsN (.lp L (vsF s c) .done (some .ret))):=by
 have hlp:∀(T:AV→AV→Prop) (ρ:Nat→Nat→Option (Nat×Nat)) (st:LoopState) (pe:Option Code),ρ 0 0=some (0,0)→ρ 1 0=some (1,0)→ρ 2 0=some (2,0)→ToB T ρ (.lp L (vsF s c) st pe) (.lp L (vsF s c) st pe):=fun T ρ st pe=>RM hc
 obtain⟨⟨s1,s2⟩,⟨s3,s4⟩,⟨s5,s6⟩,s7,s8,s9⟩:=hs;unfold mP at s5 s6;have hil:=bF s.pl
 obtain⟨E,hE⟩:∃ E:Nat,s.elem=E:=⟨s.elem.toNat,by omega⟩
 have hgi:∀ i,i < n→(iU s off n)[i]?=some (dD s (off * E+i)):=fun i hi=>by
  unfold iU;rw[hE];simp[hi]
 have hvl:(iU s off n).length=n:=by simp[iU]
 generalize hvv:iU s off n=vv at *;rw[hE];refine aH.of RG ?_ (nlB rfl);refine aA ?_;refine AWP.loop (fun i:Nat=>[(0,.yld 3 0),(1,.cptr [iv n]),(2,.cptr [iv off]),(3,.cptr [iv s.at',iv E,iv s.ext,.list 1 (inR s.pl)]),(7,iv n),(8,iv i)]) (fun i=>vsI (vv.take i) (.lp L (vsF s c) .ready none)) (fun i=>i≤n∧∀ p∈vv.take i,p < 65536) (fun i=>n - i) 0 ⟨nZl _,fun p hp=>by simp at hp⟩ ?_ ?_
 ·rw[show vv.take 0=[] from rfl]
  exact Sub.wl [1] [[(0,0)],[(1,0)],[(2,0)],[(3,0)],[(4,0)]]
 rintro i ⟨hi,hin⟩;refine dS ?_;refine AWP.condN (i < n) rfl rfl (fun h=>?_) (fun h=>?_)
 ·have ho':=ho (by omega)
  have hg:=hgi i h;have hoe:off * E≤65536 * 40000:=Nat.mul_le_mul ho' (by omega);have hp0:dD s (off * E+i)=s.at'+(((off * E+i) / s.pl.length:Nat):Int) * s.ext+s.pl.getD ((off * E+i) % s.pl.length) 0:=rfl;have hkm:(off * E+i) % s.pl.length < s.pl.length:=Nat.mod_lt _ s7;have hr:=dJ s.pl ((off * E+i) % s.pl.length) hkm;have hpb:=s9 s.pl[(off * E+i) % s.pl.length] (gMe _)
  have hgd:s.pl.getD ((off * E+i) % s.pl.length) 0=s.pl[(off * E+i) % s.pl.length]:=by simp[hkm]
  rw[hgd] at hp0;generalize s.pl[(off * E+i) % s.pl.length]=pv' at *;have hq:(off * E+i) / s.pl.length≤off * E+i:=Nat.div_le_self _ _
  obtain⟨Q,hQ⟩:∃ Q,Q=(off * E+i) / s.pl.length:=⟨_,rfl⟩
  rw[← hQ] at hq hp0;have hmu:=iL (a:=(Q:Int)) (b:=s.ext) (A:=2621445000) (B:=1048576) (by omega) (by omega) s5 s6
  have htl:(vv.take i).length≤1000000:=by rw[List.length_take]; omega
  have htk:vv.take (i+1)=vv.take i++[dD s (off * E+i)]:=by rw[List.take_add_one,hg]; rfl
  refine dS ?_;refine AWP.dky 22 [(0,.yld 3 0),(1,.cptr [iv n]),(2,.cptr [iv off]),(3,.cptr [iv s.at',iv E,iv s.ext,.list 1 (inR s.pl)]),(7,iv n),(8,iv i),(17,.yld 3 0),(38,iv (dD s (off * E+i)))] (vsI (vv.take i) (.lp L (vsF s c) .ready none)) mixed rfl rfl (by kernel_rfl) (by kernel_rfl) (by kernel_rfl) ?_ ?_
  ·refine aA ?_
   rw[hil];refine aA ?_;rw[← hQ,Av.wrap_small (show -9223372036854775808≤(Q:Int) * s.ext by omega) (by omega),Av.wrap_small (show -9223372036854775808≤s.at'+(Q:Int) * s.ext by omega) (by omega),Av.wrap_small (show -9223372036854775808≤s.at'+(Q:Int) * s.ext+pv' by omega) (by omega)];refine DK.nil ⟨by kernel_rfl,?_⟩;rw[← hp0];exact Sub.wl [] [[(0,0)],[(1,0)],[(2,0)],[(3,0)],[(4,0)]]
  ·refine⟨rfl,nlB rfl,3,0,rfl,?_⟩
   refine(OT hc hL (vv.take i) (dD s (off * E+i)) htl).mono ?_;generalize dD s (off * E+i)=p at *;rintro b' H' (⟨rfl,hlt,rfl⟩ | ⟨rfl,hge,rfl⟩)
   ·refine aA ?_
    refine DK.nil ⟨by kernel_rfl,?_⟩;refine aA ?_;refine⟨i+1,⟨by omega,fun q hq=>?_⟩,by omega,?_⟩
    ·rw[htk] at hq
     rcases List.mem_append.1 hq with hq | hq
     ·exact hin q hq
     ·rw[List.mem_singleton.1 hq]; exact hlt
    rw[htk];exact Sub.wl [] [[(0,0)],[(1,0)],[(2,0)],[(3,0)],[(5,0)]]
   ·refine aA ?_
    refine DK.nil ⟨by kernel_rfl,?_⟩;refine aA ?_;refine j4 (res':=.tup []) (H2:=vsN (.lp L (vsF s c) .done (some .ret))) [[(0,0)],[(1,0)],[(2,0)],[(3,0)]] (.inr rfl) rfl (.inr ⟨fun hall=>?_,rfl⟩) ?_ ?_ rfl rfl rfl
    ·have:=hall p (mOg hg)
     omega
    (all_goals exact gY)
    all_goals first | exact hlp _ _ _ _ rfl rfl rfl | exact .yld _ _ _ _ rfl | exact .dead _
 ·obtain rfl:n=i:=by omega
  rw[List.take_of_length_le (by omega)] at hin ⊢;refine aA ?_;refine j4 (res':=.tup []) [[(0,0)],[(1,0)],[(2,0)],[(3,0)],[(4,0)]] (.inl rfl) rfl (.inl ⟨hin,rfl⟩) ?_ ?_ rfl rfl rfl
  (all_goals exact gY)
  all_goals first | exact hlp _ _ _ _ rfl rfl rfl | exact .yld _ _ _ _ rfl | exact .dead _
instance (s:Sn):PR (snR s):=⟨by unfold snR; exact pr _⟩
def okV (l:List Int):Bool:=l.all fun p=>decide (p < 65536)
def jN (s:Sn) (off n:Nat):List Int×Bool:=if 0 < n∧65536 < off then([],false) else if okV (iU s off n)=true then(iU s off n,true) else([],false)
theorem nO {l:List Int}:okV l=true↔∀ p∈l,p < 65536:=by simp[okV]
def mkV (s:Sn) (off n:Nat):AV:=.clo (.func 154) [] [.cptr [iv n],.cptr [iv off],.cptr [iv s.at',iv s.elem,iv s.ext,.list 1 (inR s.pl)]]
theorem FI (s:Sn) (off n:Nat):aB Tryz.prog 126 [.agg [iv s.at',iv s.elem,iv s.ext,.list 1 (inR s.pl)],iv off,iv n] (mkV s off n):=by
 refine aB.mkI (hX:=by unfold mkV; infer_instance) SC (nlB rfl) ?_;unfold mkV;refine aA ?_;exact aG.w
theorem xU {s:Sn} {off n:Nat} (hs:snB s) (hn:n≤5000) (hop:off < 9223372036854775808) (ho:0 < n→off≤65536) (r:List Int×Bool) (hr:r=if okV (iU s off n)=true then(iU s off n,true) else([],false)):
  AWP Tryz.prog F64.n 0 (gZ [1,1] F64.code) (aG F64.res (.tup [.list 1 (inR r.1),bv r.2])) [(1,iv off),(2,iv n),(3,.cptr [iv s.at',iv s.elem,iv s.ext,.list 1 (inR s.pl)]),(6,.ptr 0 0 0 0),(7,.ptr 1 0 0 0)] [[.cells 1 [[.sc (.slice none 0 0)]]],[.cells 1 [[bv false]]]]:=by
 have hv:=FI s off n;unfold mkV at hv;show AWP _ _ _ (.seq _ _) _ _ _;refine aA ?_;refine AWP.sub (fr':=vsF s (mkV s off n)) (H':=[[.cells 1 [[.sc (.slice none 0 0)]]],[.cells 1 [[bv false]]],[.cells 1 [[.sc (.slice none 0 0)]]]]) ?_ ?_
 ·unfold vsF mkV
  exact Sub.wl [] [[(0,0)],[(1,0)],[(2,0)]]
 refine AWP.rangeF (g:=154) (fs:=[]) (cs:=[.cptr [iv n],.cptr [iv off],.cptr [iv s.at',iv s.elem,iv s.ext,.list 1 (inR s.pl)]]) rfl (nZl _) rfl fun L hL=>?_
 refine(FF (by unfold mkV; infer_instance) hL hs hn ho hop).mono ?_;rintro res H' (⟨hall,rfl⟩ | ⟨hno,rfl⟩)
 ·rw[if_pos (nO.2 hall)] at hr
  subst hr;refine⟨_,_,none,rfl,by decide,?_⟩;have hol:=bF (iU s off n);unfold vsF;refine aA ?_;exact aG.w
 ·rw[if_neg (fun q=>hno (nO.1 q))] at hr
  subst hr;refine⟨_,_,some .ret,rfl,by decide,?_⟩;rw[show inR (([],false):List Int×Bool).1=[] from rfl];unfold vsF;exact aG.w
theorem O3 {s:Sn} {off n:Nat} (hs:snB s) (hn:n≤5000) (hop:off < 9223372036854775808):aB Tryz.prog 64 [.agg [iv s.at',iv s.elem,iv s.ext,.list 1 (inR s.pl)],iv off,iv n] (.tup [.list 1 (inR (jN s off n).1),bv (jN s off n).2]):=by
 refine aB.mkI cF64 (nlB rfl) ?_;refine aA ?_
 by_cases h0:0 < n
 ·rw[dTr h0]
  refine aA ?_;refine AWP.condN (65536 < off) rfl rfl (fun h=>?_) (fun h=>?_)
  ·rw[show jN s off n=([],false) from if_pos ⟨h0,h⟩,show inR (([],false):List Int×Bool).1=[] from rfl]
   refine aA ?_;exact aG.w
  ·refine AWP.skip ?_
   refine AWP.sub ?_ (xU hs hn hop (fun _=>by omega) (jN s off n) (by unfold jN; rw[if_neg (by omega)]));exact Sub.wl [] [[(1,0)],[(2,0)]]
 ·rw[dFa h0]
  refine sY ?_;refine AWP.condF rfl ?_;refine AWP.skip ?_;refine AWP.sub ?_ (xU hs hn hop (fun q=>absurd q h0) (jN s off n) (by unfold jN; rw[if_neg (by omega)]));exact Sub.wl [] [[(1,0)],[(2,0)]]
theorem m5 {a:Int} {e o:Ty} (he:aX 3 e=true) (ho:aX 3 o=true) (h:(cT a e o).1=0):snB (cT a e o).2:=by
 have h1:=eQ (aF 3 e).2.es;have h2:=kV he;have h3:=eQ (aF 3 o).2.es;have h4:=kV ho;have h5:=lV (aF 3 o).2.es;unfold cT at h ⊢
 by_cases c1:a < 0∨65536 < a
 ·rw[if_pos c1] at h; cases h
 rw[if_neg c1] at h ⊢
 by_cases c2:(aF 3 e).1≠0
 ·rw[if_pos c2] at h; exact absurd h c2
 rw[if_neg c2] at h ⊢
 by_cases c3:(aF 3 o).1≠0
 ·rw[if_pos c3] at h; exact absurd h c3
 rw[if_neg c3] at h ⊢;have hB:=dI 3 o ho (dBc c3)
 by_cases c4:lG (bW (aF 3 o).2.es) (aF 3 o).2.ext=true
 ·rw[if_pos c4] at h ⊢
  by_cases c5:FB (bN (aF 3 e).2.es) (bN (aF 3 o).2.es)=true
  ·rw[if_pos c5]
   unfold FB at c5;simp only[bAe,decide_eq_true_eq] at c5;exact⟨⟨by show 0≤a; omega,by show a≤_; omega⟩,⟨by show(1:Int)≤(bN (aF 3 e).2.es:Nat); omega,by show((bN (aF 3 e).2.es:Nat):Int)≤_; omega⟩,⟨hB.2.2.2.2.1,hB.2.2.2.2.2.1⟩,by show 0 < (bW (aF 3 o).2.es).length; omega,by show(bW (aF 3 o).2.es).length≤_; omega,SQ _ hB.2.2.2.2.2.2.2.2⟩
  ·rw[if_neg c5] at h; cases h
 ·rw[if_neg c4] at h; cases h
set_option maxRecDepth 100000
abbrev mJ (d s:Nat):IOper:=⟨some d,none,.op (.move (.tmp s))⟩
def F12:IFun:=⟨13,(sr [oq 1 (.box (.tmp 0)),oq 2 (.alloc [(5,(.int .i64 0)),(4,(.slice none 0 0)),(4,(.int .i64 0)),(4,(.slice none 0 0))]),oq 3 (.move (.const (.bool false)))] (.seq (.draw [dA 4 17 1,bD 5 1 1,dA 6 8 5,oc 7 19 [(.tmp 6),(oi 3)],mJ 8 7,ot 9 8 (.fieldAddr 9 (.tmp 1)),ot 10 8 (.load 8 true (.tmp 9)),⟨some 11,some (8,true),(.call 19 [(.tmp 10),(oi 3)])⟩,oq 12 (.pick (.tmp 8) (.tmp 11) (.const (.bool false))),bP 17 2 4,mJ 3 12] [[],[],[1],[2],[3,3],[4],[5,4],[6,4,4],[4,7],[0,7,0],[8,9,0,1,2,3,4,5,6,7,8,9]]) .ret)),[(.cell 2 17 true),(.tmp 3)]⟩
theorem cF12:bG Tryz.prog 12=some F12:=by kernel_rfl
def F19:IFun:=⟨72,(sr [oq 2 (.box (.tmp 0)),oq 4 (.move (.const (.bool false)))] (.seq (sr [mJ 7 1,bK .eql 8 3 7 0,mJ 9 8,ou 10 9 (.fieldAddr 7 (.tmp 2)),ou 11 9 (.load 1 false (.tmp 10)),ou 12 9 (.len (.tmp 11)),ou 13 9 (.bin .gtr 3 (.tmp 12) (oi 3)),oq 14 (.pick (.tmp 9) (.const (.bool true)) (.tmp 13)),mJ 15 14,ou 16 15 (.fieldAddr 4 (.tmp 2)),ou 17 15 (.load 1 false (.tmp 16)),ou 18 15 (.len (.tmp 17)),ou 19 15 (.bin .gtr 3 (.tmp 18) (oi 8)),oq 20 (.pick (.tmp 15) (.const (.bool true)) (.tmp 19)),mJ 21 20,ou 22 21 (.fieldAddr 5 (.tmp 2)),ou 23 21 (.load 1 false (.tmp 22)),ou 24 21 (.len (.tmp 23)),ou 25 21 (.bin .gtr 3 (.tmp 24) (oi 8)),oq 26 (.pick (.tmp 21) (.const (.bool true)) (.tmp 25)),mJ 27 26,ou 28 27 (.fieldAddr 6 (.tmp 2)),ou 29 27 (.load 1 false (.tmp 28)),ou 30 27 (.len (.tmp 29)),ou 31 27 (.bin .gtr 3 (.tmp 30) (oi 8)),oq 32 (.pick (.tmp 27) (.const (.bool true)) (.tmp 31)),mJ 33 32,ou 34 33 (.fieldAddr 1 (.tmp 2)),ou 35 33 (.load 1 false (.tmp 34)),ou 36 33 (.bin .gtr 3 (.tmp 35) (oi 16)),oq 37 (.pick (.tmp 33) (.const (.bool true)) (.tmp 36)),mJ 38 37,ou 39 38 (.fieldAddr 2 (.tmp 2)),ou 40 38 (.load 1 false (.tmp 39)),ou 41 38 (.bin .gtr 3 (.tmp 40) (oi 8)),oq 42 (.pick (.tmp 38) (.const (.bool true)) (.tmp 41))] (cd 42 (sr [oq 4 (.move (.const (.bool false)))] .ret) .skip)) (.seq (sr [bX 5 0] (.block 0 (.loop (.seq (sr [mJ 43 5,bD 44 5 2,aP 45 44,dQ 46 45,aN .lss 47 3 43 46] (cd 47 .skip (.exit 0))) (.seq (.block 1 (sr [bD 50 5 2,aP 51 50,mJ 52 5,eU 53 1 51 52,aP 54 53,bK .gtr 55 3 54 16] (cd 55 (sr [oq 4 (.move (.const (.bool false)))] .ret) .skip))) (.region [mJ 48 5,bK .add 49 3 48 1,mJ 5 49])))))) (.seq (sr [bX 6 0] (.block 2 (.loop (.seq (sr [mJ 56 6,bD 57 7 2,aP 58 57,dQ 59 58,aN .lss 60 3 56 59] (cd 60 .skip (.exit 2))) (.seq (.block 3 (sr [bD 63 7 2,aP 64 63,mJ 65 6,eU 66 8 64 65,dA 67 8 66,mJ 68 1,bK .sub 69 3 68 1,oc 70 19 [(.tmp 67),(.tmp 69)],oq 71 (.un .not (.tmp 70))] (cd 71 (sr [oq 4 (.move (.const (.bool false)))] .ret) .skip))) (.region [mJ 61 6,bK .add 62 3 61 1,mJ 6 62])))))) (sr [oq 4 (.move (.const (.bool true)))] .ret))))),[(.tmp 4)]⟩
theorem cF19:bG Tryz.prog 19=some F19:=by kernel_rfl
set_option maxRecDepth 20000
theorem qN {a:Int} {e o:Ty}:PV (.agg (vwR a e o)):=by unfold vwR; infer_instance
theorem wG:∀(n:Nat) (t:Ty),n≤100→nG n t→aB Tryz.prog 19 [.agg (tyR t),iv n] (bv (aX n t))
 | 0,t,_,_=>by
  rw[show aX 0 t=false by cases t<;>rfl];refine aB.mkI cF19 (nlB rfl) ?_
  cases t with
  | mk=>
   rw[tyR];refine aA ?_;exact aG.w
  | raw=>
   rw[tyR];refine aA ?_;exact aG.w
 | n+1,.raw ..,_,h=>h.elim
 | n+1,.mk k c b st sz bl pl of,hn,hk=>by
  have ih:∀ u∈of,aB Tryz.prog 19 [.agg (tyR u),iv n] (bv (aX n u)):=fun u hu=>wG n u (by omega) (hk u hu)
  have l1:=bF sz;have l2:=bF bl;have l3:=bF pl;have l4:=lL of;refine aB.mkI cF19 (nlB rfl) ?_
  obtain⟨r,hr⟩:∃ r,r=aX (n+1) (.mk k c b st sz bl pl of):=⟨_,rfl⟩
  rw[← hr];rw[aX] at hr;rw[tyR];refine aA ?_;rw[l4]
  by_cases h1:3 < of.length
  ·rw[dTr h1,show r=false by rw[hr]; simp[show¬ of.length≤3 by omega]]
   refine aA ?_;exact aG.w
  rw[dFa h1];refine aA ?_;rw[l1]
  by_cases h2:8 < sz.length
  ·rw[dTr h2,show r=false by rw[hr]; simp[show¬ sz.length≤8 by omega]]
   refine aA ?_;exact aG.w
  rw[dFa h2];refine aA ?_;rw[l2]
  by_cases h3:8 < bl.length
  ·rw[dTr h3,show r=false by rw[hr]; simp[show¬ bl.length≤8 by omega]]
   refine aA ?_;exact aG.w
  rw[dFa h3];refine aA ?_;rw[l3]
  by_cases h4:8 < pl.length
  ·rw[dTr h4,show r=false by rw[hr]; simp[show¬ pl.length≤8 by omega]]
   refine aA ?_;exact aG.w
  rw[dFa h4];refine aA ?_
  by_cases h5:c > 16
  ·rw[dTr h5,show r=false by rw[hr]; simp[show¬ c≤16 by omega]]
   refine aA ?_;exact aG.w
  rw[dFa h5];refine aA ?_;refine AWP.condN (8 < b) rfl rfl (fun h6=>?_) (fun h6=>?_)
  ·rw[show r=false by rw[hr]; simp[show¬ b≤8 by omega]]
   refine aA ?_;exact aG.w
  refine aA ?_;refine AWP.loop (fun i:Nat=>[(1,iv (n+1:Nat)),(2,.cptr [iv k,iv c,iv b,iv st,.list 1 (inR sz),.list 1 (inR bl),.list 1 (inR pl),.list 8 (aM of)]),(5,iv i)]) (fun _=>[]) (fun i=>i≤bl.length∧∀ j (h:j < bl.length),j < i→bl[j]≤16) (fun i=>bl.length - i) 0 ⟨nZl _,fun j _ hj=>by omega⟩ ?_ ?_
  ·exact Sub.wl [] []
  rintro i ⟨hi,hin⟩;refine aA ?_;rw[l2];refine AWP.condN (i < bl.length) rfl rfl (fun h7=>?_) (fun h7=>?_)
  ·have r1:=dJ bl i h7
   refine aA ?_;refine AWP.condN (16 < bl[i]) rfl rfl (fun h8=>?_) (fun h8=>?_)
   ·rw[show r=false by
     rw[hr,show(bl.all fun x=>decide (x≤16))=false from List.all_eq_false.2 ⟨bl[i],gMe _,by simp; omega⟩]
     simp]
    refine aA ?_;exact aG.w
   ·refine aA ?_
    refine⟨i+1,⟨by omega,fun j hj hji=>?_⟩,by omega,?_⟩
    ·by_cases e:j=i
     ·subst e; omega
     ·exact hin j hj (by omega)
    (refine Sub.keep ?_; repeat' (first | exact trivial | exact Le.refl _ | refine⟨?_,?_⟩))
  ·obtain rfl:bl.length=i:=by omega
   have hba:(bl.all fun x=>decide (x≤16))=true:=List.all_eq_true.2 fun x hx=>by
    obtain⟨j,hj,rfl⟩:=List.getElem_of_mem hx
    simpa using hin j hj hj
   rw[hba,dTr (show of.length≤3 by omega),dTr (show sz.length≤8 by omega),dTr (show bl.length≤8 by omega),dTr (show pl.length≤8 by omega),dTr (show c≤16 by omega),dTr (show b≤8 by omega)] at hr
   replace hr:r=of.all (aX n):=by simpa using hr
   refine aA ?_;refine AWP.loop (fun i:Nat=>[(1,iv (n+1:Nat)),(2,.cptr [iv k,iv c,iv b,iv st,.list 1 (inR sz),.list 1 (inR bl),.list 1 (inR pl),.list 8 (aM of)]),(6,iv i)]) (fun _=>[]) (fun i=>i≤of.length∧∀ j (h:j < of.length),j < i→aX n of[j]=true) (fun i=>of.length - i) 0 ⟨nZl _,fun j _ hj=>by omega⟩ ?_ ?_
   ·(refine Sub.keep ?_; repeat' (first | exact trivial | exact Le.refl _ | refine⟨?_,?_⟩))
   rintro i ⟨hi,hin⟩;refine aA ?_;rw[l4];refine AWP.condN (i < of.length) rfl rfl (fun h7=>?_) (fun h7=>?_)
   ·have r1:=pQ of i h7
    have hu:=ih of[i] (gMe _)
    have hn1:IntKind.i64.wrap (((n+1:Nat):Int) - 1)=(n:Int):=by rw[Av.wrap_small (by omega) (by omega)]; omega
    refine aA ?_;refine Reg.o rfl (sJ rfl (zE _)) ?_;refine aA ?_
    cases hsm:aX n of[i] with
    | false=>
     rw[show r=false by rw[hr]; exact List.all_eq_false.2 ⟨of[i],gMe _,by simp[hsm]⟩];refine aA ?_;exact aG.w
    | true=>
     refine aA ?_;refine⟨i+1,⟨by omega,fun j hj hji=>?_⟩,by omega,?_⟩
     ·by_cases e:j=i
      ·subst e; exact hsm
      ·exact hin j hj (by omega)
     (refine Sub.keep ?_; repeat' (first | exact trivial | exact Le.refl _ | refine⟨?_,?_⟩))
   ·obtain rfl:of.length=i:=by omega
    rw[show r=true by rw[hr]; exact List.all_eq_true.2 fun u hu=>by obtain⟨j,hj,rfl⟩:=List.getElem_of_mem hu; exact hin j hj hj];refine aA ?_;exact aG.w
theorem rB {pl:List Int} {ext:Int} (h:lG pl ext=true) {i:Nat} (hi:i < pl.length):gJ pl i < pl.getD i 0∧pl.getD i 0 < ext:=by
 have:=List.all_eq_true.1 h i (List.mem_range.2 hi)
 simpa using this
theorem pF {s:Sn} (h:lG s.pl s.ext=true) (hl:0 < s.pl.length) (k:Nat):dD s k < dD s (k+1):=by
 unfold dD;have hm:=Nat.mod_lt k hl;have hd:=Nat.div_add_mod k s.pl.length;generalize hr:k % s.pl.length=r at *;generalize hq:k / s.pl.length=q at *
 by_cases h1:r+1 < s.pl.length
 ·have e1:(k+1) / s.pl.length=q:=by
   rw[← hd,Nat.add_assoc,Nat.mul_add_div hl,Nat.div_eq_of_lt h1,Nat.add_zero]
  have e2:(k+1) % s.pl.length=r+1:=by
   rw[← hd,Nat.add_assoc,Nat.mul_add_mod,Nat.mod_eq_of_lt h1]
  rw[e1,e2];have:=(rB h h1).1;unfold gJ at this;rw[if_neg (by omega),Nat.add_sub_cancel] at this;omega
 ·have hr1:r+1=s.pl.length:=by omega
  have hk1:k+1=s.pl.length * (q+1):=by rw[Nat.mul_succ]; omega
  have e1:(k+1) / s.pl.length=q+1:=by rw[hk1,Nat.mul_div_cancel_left _ hl]
  have e2:(k+1) % s.pl.length=0:=by rw[hk1,Nat.mul_mod_right]
  rw[e1,e2];have g1:=(rB h hl).1;have g2:=(rB h hm).2;unfold gJ at g1;rw[if_pos rfl] at g1
  have e3:((q+1:Nat):Int) * s.ext=(q:Int) * s.ext+s.ext:=by
   rw[Int.natCast_add,Int.add_mul];simp
  rw[e3];omega
theorem QY {s:Sn} {O n i:Nat} (h:i < n):(iU s O n)[i]?=some (dD s (O * s.elem.toNat+i)):=by
 unfold iU;simp[h]
theorem KM {a:Int} {e o:Ty} (h:(cT a e o).1=0):lG (cT a e o).2.pl (cT a e o).2.ext=true∧(cT a e o).2.pl.length=bN (aF 3 o).2.es∧(cT a e o).2.ext=(aF 3 o).2.ext∧(aF 3 o).1=0:=by
 unfold cT at h ⊢
 by_cases c1:a < 0∨65536 < a
 ·rw[if_pos c1] at h; cases h
 rw[if_neg c1] at h ⊢
 by_cases c2:(aF 3 e).1≠0
 ·rw[if_pos c2] at h; exact absurd h c2
 rw[if_neg c2] at h ⊢
 by_cases c3:(aF 3 o).1≠0
 ·rw[if_pos c3] at h; exact absurd h c3
 rw[if_neg c3] at h ⊢
 by_cases c4:lG (bW (aF 3 o).2.es) (aF 3 o).2.ext=true
 ·rw[if_pos c4] at h ⊢
  by_cases c5:FB (bN (aF 3 e).2.es) (bN (aF 3 o).2.es)=true
  ·rw[if_pos c5]
   exact⟨c4,lV _,rfl,dBc c3⟩
  ·rw[if_neg c5] at h; cases h
 ·rw[if_neg c4] at h; cases h
end Go.Proofs.YtgdocflpobncmaaGreat
