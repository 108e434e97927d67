import Derived.Test.YtgdocflpobncmaaGreatGFtB7
import Derived.Test.YtgdocflpobncmaaGreatGFtP2
set_option maxHeartbeats 4000000
namespace Go.Proofs.YtgdocflpobncmaaGreat
open Go.Av Go.Proofs
set_option maxRecDepth 20000
variable {k c b st:Int} {sz bl pl:List Int} {ty:List Ty} {of:List Shp}
def Itr (mv it:Nat) (k c b st:Int) (sz bl pl:List Int) (ty:List Ty) (of:List Shp):Prop:=
 Mk mv it∧∀ L,LOK Tryz.prog F165.n L [28,29] (rfA hU) (rfB hU)→aE Tryz.prog it [.yld 3 0,.cptr [iv k,iv c,iv b,iv st,.list 1 (inR sz),.list 1 (inR bl),.list 1 (inR pl),.list 8 (aO ty)],.cptr [.list 3 (ofR of)]] (FE (.lp L (bZ [iv k,iv c,iv b,iv st,.list 1 (inR sz),.list 1 (inR bl),.list 1 (inR pl),.list 8 (aO ty)] of (mkC [iv k,iv c,iv b,iv st,.list 1 (inR sz),.list 1 (inR bl),.list 1 (inR pl),.list 8 (aO ty)] of it)) .ready none)) fun _ H'=>pH L [iv k,iv c,iv b,iv st,.list 1 (inR sz),.list 1 (inR bl),.list 1 (inR pl),.list 8 (aO ty)] of (mkC [iv k,iv c,iv b,iv st,.list 1 (inR sz),.list 1 (inR bl),.list 1 (inR pl),.list 8 (aO ty)] of it) (gC k c b st sz bl pl of) H'
noncomputable def K2:bL:=i6 [1,1,1] F165.code
theorem H6 {s:Shp} (hs:stB s) (hne:s.es≠[]) (h10:k=10→pl.length=2) (hp:∀ n∈pl,-mP≤n∧n≤mP) (h11:k=11→(∀ n∈sz,1≤n∧n≤4096)∧sz.length≤4∧∃ x,of[0]?=some x∧shB x):
  AWP Tryz.prog F165.n 0 K2 (aG F165.res (.tup [.agg (if okS (dF k sz pl of s)=true then shR (dF k sz pl of s) else shR shp0),iv (if okS (dF k sz pl of s)=true then 0 else 3)])) [(3,.cptr [iv k,iv c,iv b,iv st,.list 1 (inR sz),.list 1 (inR bl),.list 1 (inR pl),.list 8 (aO ty)]),(5,.cptr [.list 3 (ofR of)]),(6,.ptr 0 0 0 0),(7,.ptr 1 0 0 0),(8,.ptr 2 0 0 0)] (qH s.es s.lo s.hi):=by
 obtain⟨s1,⟨s2,s3⟩,⟨s4,s5⟩,s6⟩:=hs;show AWP _ _ _ (.seq _ _) _ _ _;refine aA ?_;refine AWP.condN (k=10) rfl rfl (fun h=>?_) (fun h=>?_)
 ·have e1:=cX pl 0 (by have:=h10 h; omega)
  have e2:=cX pl 1 (by have:=h10 h; omega);have f1:=hp pl[0] (gMe _);have f2:=hp pl[1] (gMe _)
  have hbd:dF k sz pl of s=⟨s.es,pl[0],pl[0]+pl[1]⟩:=by
   unfold dF;rw[if_pos h];simp[h10 h]
  rw[hbd];generalize pl[0]=p0 at *;generalize pl[1]=p1 at *;unfold mP at f1 f2;refine aA ?_;rw[Av.wrap_small (show -9223372036854775808≤p0+p1 by omega) (by omega)];refine DK.nil ⟨by kernel_rfl,?_⟩;refine AWP.sub (fr':=[(6,.ptr 0 0 0 0),(7,.ptr 1 0 0 0),(8,.ptr 2 0 0 0)]) (H':=qH s.es p0 (p0+p1)) ?_ (xS hne s1 s6 ⟨by unfold big; omega,by unfold big; omega⟩ ⟨by unfold big; omega,by unfold big; omega⟩);exact Sub.wl [] [[(0,0)],[(1,0)],[(2,0)],[(3,0)],[(4,0)]]
 refine aA ?_;refine AWP.condN (k=11) rfl rfl (fun h2=>?_) (fun h2=>?_)
 ·obtain⟨g1,g2,x,g3,g4⟩:=h11 h2
  have hsl:=cH sz
  have har:∀ i,i≤sz.length→1≤(sz.take i).foldl (fun n s=>min (n * s) huge) 1∧(sz.take i).foldl (fun n s=>min (n * s) huge) 1≤huge:=fun i=>by
   induction i with
   | zero=>exact fun _=>⟨by simp,by simp[huge]⟩
   | succ i ih=>
    intro hi;obtain⟨i1,i2⟩:=ih (by omega);have h5:=g1 sz[i] (gMe _);rw[dA (by omega),List.foldl_append];simp only[List.foldl_cons,List.foldl_nil];generalize List.foldl (fun n s=>min (n * s) huge) 1 (sz.take i)=u at *;have h6:u * 1≤u * sz[i]:=Int.mul_le_mul_of_nonneg_left h5.1 (by omega);unfold huge at *;omega
  refine aA ?_;refine AWP.loop (fun i:Nat=>[(3,.cptr [iv k,iv c,iv b,iv st,.list 1 (inR sz),.list 1 (inR bl),.list 1 (inR pl),.list 8 (aO ty)]),(5,.cptr [.list 3 (ofR of)]),(6,.ptr 0 0 0 0),(7,.ptr 1 0 0 0),(8,.ptr 2 0 0 0),(16,iv ((sz.take i).foldl (fun n s=>min (n * s) huge) 1)),(111,.list 1 (inR sz)),(112,iv sz.length),(113,iv i)]) (fun _=>qH s.es s.lo s.hi) (fun i=>i≤sz.length) (fun i=>sz.length - i) 0 (nZl _) ?_ ?_
  ·rw[← hsl]
   exact Sub.wl [] [[(0,0)],[(1,0)],[(2,0)],[(3,0)],[(4,0)]]
  rintro i hi;refine aA ?_;refine AWP.condN (i < sz.length) rfl rfl (fun h3=>?_) (fun h3=>?_)
  ·have r1:=cX sz i h3
   have hz:=g1 sz[i] (gMe _);have ha:=har i hi
   have e1:(sz.take (i+1)).foldl (fun n s=>min (n * s) huge) 1=min ((sz.take i).foldl (fun n s=>min (n * s) huge) 1 * sz[i]) huge:=by
    rw[dA h3,List.foldl_append];rfl
   generalize sz[i]=z at *;generalize (sz.take i).foldl (fun n s=>min (n * s) huge) 1=u at *;unfold huge at ha;have hw:=sU (a:=u) (b:=z) (A:=1099511627776) (B:=4096) (by omega) (by omega) (by omega) (by omega);refine aA ?_;rw[Av.wrap_small (show -9223372036854775808≤u * z by omega) (by omega)];refine aA ?_;refine⟨i+1,by omega,by omega,?_⟩;rw[e1];unfold huge;exact Sub.wl [] [[(0,0)],[(1,0)],[(2,0)],[(3,0)],[(4,0)]]
  ·obtain rfl:sz.length=i:=by omega
   rw[List.take_length];have ha:=har sz.length (Nat.le_refl _);rw[List.take_length] at ha
   have hr0:cW (ofR of) ((0:Nat):Int)=some [.list 2 (enR x.es),iv x.lo,iv x.hi]:=by
    obtain⟨h,rfl⟩:=gEs.1 g3;exact nL of 0 h
   have hbd:dF k sz pl of s=⟨s.es,x.lo,x.lo+NH sz * x.ext⟩:=by
    unfold dF;rw[if_neg h,if_pos h2,show of.getD 0 shp0=x by rw[List.getD_eq_getElem?_getD,g3]; rfl]
   rw[hbd,show sz.foldl (fun n s=>min (n * s) huge) 1=NH sz from rfl] at *;generalize NH sz=u at *;obtain⟨b1,b2,b3,b4,b5,b6,_⟩:=g4;unfold mP at b1 b2 b3 b4 b5 b6;have he:aC Tryz.prog 73 [.agg [.list 2 (enR x.es),iv x.lo,iv x.hi]] (iv x.ext):=eG x (by omega) (by omega) (by omega) (by omega);unfold huge at ha;have hw:=sU (a:=u) (b:=x.ext) (A:=1099511627776) (B:=1048576) (by omega) (by omega) b5 b6;refine aA ?_;rw[Av.wrap_small (show -9223372036854775808≤u * x.ext by omega) (by omega),Av.wrap_small (show -9223372036854775808≤x.lo+u * x.ext by omega) (by omega)];refine aA ?_;refine DK.nil ⟨by kernel_rfl,?_⟩;refine AWP.sub (fr':=[(6,.ptr 0 0 0 0),(7,.ptr 1 0 0 0),(8,.ptr 2 0 0 0)]) (H':=qH s.es x.lo (x.lo+u * x.ext)) ?_ (xS hne s1 s6 ⟨by unfold big; omega,by unfold big; omega⟩ ⟨by unfold big; omega,by unfold big; omega⟩);exact Sub.wl [] [[(0,0)],[(1,0)],[(2,0)],[(3,0)],[(4,0)]]
 ·have hbd:dF k sz pl of s=s:=by unfold dF; rw[if_neg h,if_neg h2]
  rw[hbd];refine AWP.skip ?_;refine AWP.sub (fr':=[(6,.ptr 0 0 0 0),(7,.ptr 1 0 0 0),(8,.ptr 2 0 0 0)]) (H':=qH s.es s.lo s.hi) ?_ (xS hne s1 s6 ⟨s2,s3⟩ ⟨s4,s5⟩);exact Sub.wl [] [[(0,0)],[(1,0)],[(2,0)],[(3,0)],[(4,0)]]
theorem PI {mv it n5:Nat} {c1 c2 c3 c4 c5:Bool} (hit:Itr mv it k c b st sz bl pl ty of) (hne:∀ s,eW of (gC k c b st sz bl pl of) shp0=some s→s.es≠[]) (h10:k=10→pl.length=2) (hp:∀ n∈pl,-mP≤n∧n≤mP) (h11:k=11→(∀ n∈sz,1≤n∧n≤4096)∧sz.length≤4∧∃ x,of[0]?=some x∧shB x):
  aC Tryz.prog 165 [.agg [iv k,iv c,iv b,iv st,.list 1 (inR sz),.list 1 (inR bl),.list 1 (inR pl),.list 8 (aO ty)],.agg [bv c1,bv c2,bv c3,bv c4,bv c5,fnV n5,fnV mv],.list 3 (ofR of)] (.tup [.agg (shR (uI k c b st sz bl pl of).2),iv (uI k c b st sz bl pl of).1]):=by
 obtain⟨hmk,hit⟩:=hit;have hm:=hmk k c b st sz bl pl ty of;refine aC.mkI NN (nlB rfl) ?_;refine aA ?_;refine AWP.sub (fr':=bZ [iv k,iv c,iv b,iv st,.list 1 (inR sz),.list 1 (inR bl),.list 1 (inR pl),.list 8 (aO ty)] of (mkC [iv k,iv c,iv b,iv st,.list 1 (inR sz),.list 1 (inR bl),.list 1 (inR pl),.list 8 (aO ty)] of it)) (H':=[[.cells 3 [r0S]],[.cells 1 [[iv 0]]],[.cells 3 [r0S]]]) ?_ ?_
 ·unfold bZ
  exact Sub.wl [] [[(3,0)],[(4,0)],[(5,0)]]
 refine AWP.rangeF (g:=it) (fs:=[]) (cs:=[.cptr [iv k,iv c,iv b,iv st,.list 1 (inR sz),.list 1 (inR bl),.list 1 (inR pl),.list 8 (aO ty)],.cptr [.list 3 (ofR of)]]) rfl (nZl _) rfl fun L hL=>?_
 refine(hit L hL).mono ?_;rintro res H' (⟨s,hs,hsb,rfl⟩ | ⟨hno,rfl⟩)
 ·have e:=H6 (c:=c) (b:=b) (st:=st) (bl:=bl) (ty:=ty) hsb (hne s hs) h10 hp h11
  refine⟨_,_,none,rfl,by decide,?_⟩
  have hpS:uI k c b st sz bl pl of=if okS (dF k sz pl of s)=true then(0,dF k sz pl of s) else(3,shp0):=by
   unfold uI;rw[hs]
  rw[hpS]
  have:AWP Tryz.prog F165.n 0 K2 (aG F165.res (.tup [.agg (shR (if okS (dF k sz pl of s)=true then((0:Int),dF k sz pl of s) else(3,shp0)).2),iv (if okS (dF k sz pl of s)=true then(0,dF k sz pl of s) else(3,shp0)).1])) [(3,.cptr [iv k,iv c,iv b,iv st,.list 1 (inR sz),.list 1 (inR bl),.list 1 (inR pl),.list 8 (aO ty)]),(5,.cptr [.list 3 (ofR of)]),(6,.ptr 0 0 0 0),(7,.ptr 1 0 0 0),(8,.ptr 2 0 0 0)] (qH s.es s.lo s.hi):=by
   cases h:okS (dF k sz pl of s)<;>(rw[h] at e; exact e)
  refine AWP.sub (fr':=[(3,.cptr [iv k,iv c,iv b,iv st,.list 1 (inR sz),.list 1 (inR bl),.list 1 (inR pl),.list 8 (aO ty)]),(5,.cptr [.list 3 (ofR of)]),(6,.ptr 0 0 0 0),(7,.ptr 1 0 0 0),(8,.ptr 2 0 0 0)]) (H':=qH s.es s.lo s.hi) ?_ ?_
  ·unfold bZ mkC
   exact Sub.wl [] [[(0,0)],[(1,0)],[(2,0)],[(3,0)],[(4,0)]]
  exact this
 ·have hpS:uI k c b st sz bl pl of=(9,shp0):=by
   unfold uI;rw[hno]
  rw[hpS];refine⟨_,_,some .ret,rfl,by decide,?_⟩;rw[show shR (9,shp0).2=[.list 2 [],iv 0,iv 0] from rfl];exact aG.w
def I8 (k:Int):Nat:=if k=6 then 183 else if k=7 then 185 else if k=10 then 190 else if k=11 then 191 else 187
def P0 (k:Int):Nat:=if k=6 then 184 else if k=7 then 186 else if k=8 then 188 else if k=9 then 189 else if k=10 then 184 else 192
theorem O6 {k:Int} (h1:6≤k) (h2:k≤11):B1 k=[bv (fl1 k),bv (fl2 k),bv (fl3 k),bv (fl4 k),bv (fl5 k),fnV (I8 k),fnV (P0 k)]:=by
 obtain h | h | h | h | h | h:k=6∨k=7∨k=8∨k=9∨k=10∨k=11:=by omega
 all_goals (subst h; rfl)
theorem O7 {k:Int} (h:¬ (6≤k∧k≤11)):B1 k=[bv (fl1 k),bv (fl2 k),bv (fl3 k),bv (fl4 k),bv (fl5 k),.sc .nilFunc,.sc .nilFunc]:=by
 unfold B1 fl1 fl2 fl3 fl4 fl5;rw[if_neg (by omega),if_neg (by omega),if_neg (by omega),if_neg (by omega),if_neg (by omega),if_neg (by omega),dFa (by omega),dFa (by omega),dFa (by omega),dFa (by omega),dFa (by omega)]
theorem DJ {k:Int}:bH k=0↔¬ (1≤k∧k≤5):=by
 unfold bH;split
 ·omega
 split
 ·omega
 split
 ·omega
 split
 ·omega
 split
 ·omega
 ·omega
section
variable {k c b st:Int} {sz bl pl:List Int} {n:Nat}
theorem A4 (hk:6≤k∧k≤11) (h:fZ k c b st sz bl pl n=0):
  (k≠9→n=1)∧(k=6∨k=7∨c=0)∧(k=8→1≤bl.length∧bl.length≤4096∧pl.length=bl.length)∧(k=9→1≤n∧n≤4096∧bl.length=n∧pl.length=n)∧(k=10→pl.length=2)∧(k=11→1≤sz.length∧sz.length≤4∧bl.length=sz.length∧pl.length=sz.length):=by
 have hs:bH k=0:=DJ.2 (by omega);unfold fZ at h;rw[hs] at h;split at h
 ·cases h
 ·rename_i hb
  replace hb:CS (fl1 k) (fl2 k) (fl3 k) (fl4 k) (fl5 k) c b st sz bl pl n (ofG (decide (0 < 0)) k n)=false:=by simpa using hb
  unfold CS at hb;simp only[Bool.or_eq_false_iff,Bool.and_eq_false_iff,Bool.not_eq_false',bne_eq_false_iff_eq,decide_eq_true_eq] at hb;obtain⟨h1,_,_,_,_,h6⟩:=hb
  have ho:ofG (decide (0 < 0)) k n=if k=9 then min (max 1 n) 4096 else 1:=by unfold ofG; rw[if_neg (by simp)]
  rw[ho] at h6 h;unfold fl1 at h1;simp only[decide_eq_true_eq] at h1;unfold shG at h;refine⟨fun hk9=>?_,by omega,fun h8=>?_,fun h9=>?_,fun h10=>?_,fun h11=>?_⟩
  ·rw[if_neg hk9] at h6; exact h6
  ·rw[if_pos h8] at h
   split at h
   ·assumption
   ·cases h
  ·rw[if_pos h9] at h6
   rw[if_neg (by omega),if_pos h9,if_pos h9] at h;split at h
   ·rename_i h7
    omega
   ·cases h
  ·rw[if_neg (by omega),if_neg (by omega),if_pos h10] at h
   split at h
   ·assumption
   ·cases h
  ·rw[if_neg (by omega),if_neg (by omega),if_neg (by omega),if_pos h11] at h
   split at h
   ·assumption
   ·cases h
end
theorem AU {of:List Shp}:∀ {l:List (Int×Int)} {s t:Shp},eW of l s=some t→s.es.length≤t.es.length
 | [],s,t,h=>by injection h with h; subst h; exact Nat.le_refl _
 | m::l,s,t,h=>by
  simp only[eW] at h;split at h
  ·cases h
  ·refine Nat.le_trans ?_ (AU h)
   simp[pU]
theorem nX {of:List Shp} {l:List (Int×Int)} {t:Shp} (hl:l≠[]) (hne:∀ m∈l,(of.getD m.1.toNat shp0).es≠[]) (h:eW of l shp0=some t):t.es≠[]:=by
 cases l with
 | nil=>exact absurd rfl hl
 | cons m l=>
  simp only[eW] at h;split at h
  ·cases h
  ·have:=AU h
   have h2:=List.length_pos_iff.2 (hne m (by simp));refine List.length_pos_iff.1 ?_;rw[show(pU shp0 (of.getD m.1.toNat shp0) m.2).es.length=(of.getD m.1.toNat shp0).es.length by simp[pU,shp0]] at this;omega
theorem IN (es:List (Int×Int)):∀ y∈es,(cA es).1≤y.2∧y.2+bH y.1≤(cA es).2:=by
 have mono:∀(l:List (Int×Int)) (p:Int×Int),(l.foldl tiF p).1≤p.1∧p.2≤(l.foldl tiF p).2:=by
  intro l
  induction l with
  | nil=>exact fun p=>⟨Int.le_refl _,Int.le_refl _⟩
  | cons x l ih=>
   intro p;have h1:=ih (tiF p x);rw[List.foldl_cons]
   have h2:(tiF p x).1≤p.1:=by unfold tiF; simp only; omega
   have h3:p.2≤(tiF p x).2:=by unfold tiF; simp only; omega
   omega
 have key:∀(l:List (Int×Int)) (p:Int×Int),∀ y∈l,(l.foldl tiF p).1≤y.2∧y.2+bH y.1≤(l.foldl tiF p).2:=by
  intro l
  induction l with
  | nil=>exact fun p y hy=>by cases hy
  | cons x l ih=>
   intro p y hy
   rcases List.mem_cons.1 hy with e | e
   ·subst e
    have h1:=mono l (tiF p y);rw[List.foldl_cons]
    have h2:(tiF p y).1≤y.2:=by unfold tiF; simp only; omega
    have h3:y.2+bH y.1≤(tiF p y).2:=by unfold tiF; simp only; omega
    omega
   ·exact ih _ y e
 exact key es _
theorem QF {s:Shp} (h:okS s=true) (hne:s.es≠[]) (hn:s.es.length≤4096):shB s:=by
 unfold okS aM at h;simp only[bAe,decide_eq_true_eq] at h;obtain⟨⟨⟨⟨⟨h1,h2⟩,h3⟩,h4⟩,h5⟩,h6⟩:=h;refine⟨h1.1,h1.2,h2.1,h2.2,h3.1,h3.2,hne,hn,fun y hy=>?_⟩;have:=IN s.es y hy;omega
variable {k c b st:Int} {sz bl pl:List Int} {ty:List Ty} {of:List Shp}
def LT (k c b:Int) (sz bl pl:List Int):Bool:=if k=6 then aM c 1 4096 else if k=7 then aM c 1 4096 && aM b 1 4096 else if k=8∨k=9 then vF bl else if k=10 then decide (0≤pl.getD 1 0) else FU sz bl pl
theorem P4 {n:Nat} (hk:6≤k∧k≤11) (hf:fZ k c b st sz bl pl n=0):aC Tryz.prog (I8 k) [.agg [iv k,iv c,iv b,iv st,.list 1 (inR sz),.list 1 (inR bl),.list 1 (inR pl),.list 8 (aO ty)]] (bv (LT k c b sz bl pl)):=by
 obtain⟨f1,f2,f3,f4,f5,f6⟩:=A4 hk hf;have e:=tyR (.mk k c b st sz bl pl ty)
 have hbl:k=8∨k=9→bl≠[]∧bl.length≤1000000:=fun h=>by
  have:1≤bl.length∧bl.length≤4096:=by rcases h with h | h; exact⟨(f3 h).1,(f3 h).2.1⟩; have:=f4 h; omega
  exact⟨List.length_pos_iff.1 (by omega),by omega⟩
 have e0:tyR (.mk k c b st sz bl pl ty)=[iv k,iv c,iv b,iv st,.list 1 (inR sz),.list 1 (inR bl),.list 1 (inR pl),.list 8 (aO ty)]:=by rw[tyR]
 have h6:=MW k c b st sz bl pl ty;have h7:=LG k c b st sz bl pl ty;rw[e0] at h6 h7;unfold LT I8
 by_cases k6:k=6
 ·rw[if_pos k6,if_pos k6]; exact h6
 by_cases k7:k=7
 ·rw[if_neg k6,if_neg k6,if_pos k7,if_pos k7]; exact h7
 rw[if_neg k6,if_neg k6,if_neg k7,if_neg k7]
 by_cases k8:k=8∨k=9
 ·rw[if_neg (by omega),if_neg (by omega),if_pos k8,← e0]
  exact MV k c b st sz bl pl ty (hbl k8).1 (hbl k8).2
 rw[if_neg k8]
 by_cases k10:k=10
 ·rw[if_pos k10,if_pos k10,← e0]
  exact HK k c b st sz bl pl ty (f5 k10)
 ·rw[if_neg k10,if_pos (by omega),if_neg k10,← e0]
  have h:=f6 (by omega);exact KQ k c b st sz bl pl ty h.2.1 h.2.2.1 h.2.2.2
theorem pM {l:List Int} {lo hi:Int} (h:kS l lo hi=true):∀ n∈l,lo≤n∧n≤hi:=fun n hn=>by
 have:=List.all_eq_true.1 h n hn
 simpa[aM] using this
theorem JB (hk:6≤k∧k≤11) (hf:fZ k c b st sz bl pl of.length=0) (hn:AR k c b st sz bl pl=true) (hof:∀ x∈of,shB x):
  (∃ it,Itr (P0 k) it k c b st sz bl pl ty of)∧(∀ s,eW of (gC k c b st sz bl pl of) shp0=some s→s.es≠[])∧(k=10→pl.length=2)∧(∀ n∈pl,-mP≤n∧n≤mP)∧(k=11→(∀ n∈sz,1≤n∧n≤4096)∧sz.length≤4∧∃ x,of[0]?=some x∧shB x):=by
 obtain⟨f1,f2,f3,f4,f5,f6⟩:=A4 hk hf;unfold AR at hn;simp only[bAe] at hn;obtain⟨⟨hst,hpl⟩,hnk⟩:=hn;replace hpl:=pM hpl
 have hst':-mP≤st∧st≤mP:=by simpa[aM] using hst
 have h1:1≤of.length:=by by_cases h:k=9; exact(f4 h).1; exact Nat.le_of_eq (f1 h).symm
 obtain⟨x,hx⟩:∃ x,of[0]?=some x:=⟨of[0],gEg h1⟩
 have hxb:shB x:=hof x (mOg hx)
 have hx0:of.getD 0 shp0=x:=by rw[List.getD_eq_getElem?_getD,hx]; rfl
 have hPV:∀ it,PV (mkC [iv k,iv c,iv b,iv st,.list 1 (inR sz),.list 1 (inR bl),.list 1 (inR pl),.list 8 (aO ty)] of it):=fun it=>by unfold mkC; infer_instance
 have hsub:k=11→∀ i,i < sz.length→1≤sz.getD i 0∧sz.getD i 0≤4096∧1≤bl.getD i 0:=fun h i hi=>by
  rw[if_neg (by omega),if_neg (by omega),if_neg (by omega),if_neg (by omega)] at hnk;have:=List.all_eq_true.1 hnk i (List.mem_range.2 hi);simp only[aM,bAe,decide_eq_true_eq] at this;omega
 have hcon:∀ {cc:Int},(∀ s,eW of (bP cc x.ext) shp0=some s→s.es≠[]):=fun {cc} s hs=>by
  refine nX (List.ne_nil_of_length_pos ?_) (fun m hm=>?_) hs
  ·simp only[bP,List.length_map,List.length_range]; omega
  ·obtain⟨i,_,rfl⟩:=List.mem_map.1 hm
   show(of.getD 0 shp0).es≠[];rw[hx0]; exact hxb.2.2.2.2.2.2.1
 refine⟨?_,?_,f5,hpl,fun h=>⟨fun n hn=>?_,(f6 h).2.1,x,hx,hxb⟩⟩
 ·obtain rfl | rfl | rfl | rfl | rfl | rfl:k=6∨k=7∨k=8∨k=9∨k=10∨k=11:=by omega
  ·refine⟨204,wK,fun L hL=>?_⟩
   rw[show gC 6 c b st sz bl pl of=bP c x.ext by show bP c (of.getD 0 shp0).ext=_; rw[hx0]];have:aM c 1 4096=true:=hnk;simp[aM] at this;exact wP (hPV 204) hL hx hxb (by omega)
  ·refine⟨205,GF,fun L hL=>?_⟩
   rw[show gC 7 c b st sz bl pl of=jV c b st x.ext by show jV c b st (of.getD 0 shp0).ext=_; rw[hx0]];have:(aM c 1 4096 && aM b 1 4096)=true:=hnk;simp[aM] at this;exact FJ (hPV 205) hL hx hxb (by omega) (by omega) (by omega) (by omega) hst'.1 hst'.2
  ·refine⟨207,B7,fun L hL=>?_⟩
   rw[show gC 8 c b st sz bl pl of=iF bl pl x.ext by show iF bl pl (of.getD 0 shp0).ext=_; rw[hx0]];have:(kS bl 0 4096 && bl.any fun n=>decide (0 < n))=true:=hnk;simp only[bAe] at this;have h:=f3 rfl;exact CN (hPV 207) hL hx hxb (pM this.1) hpl h.2.2 h.2.1
  ·refine⟨208,uV,fun L hL=>?_⟩
   have:(kS bl 0 4096 && bl.any fun n=>decide (0 < n))=true:=hnk;simp only[bAe] at this;have h:=f4 rfl;exact uY (hPV 208) hL hof (by omega) (pM this.1) hpl (by omega) (by omega)
  ·refine⟨204,wK,fun L hL=>?_⟩
   rw[show gC 10 c b st sz bl pl of=bP c x.ext by show bP c (of.getD 0 shp0).ext=_; rw[hx0]];exact wP (hPV 204) hL hx hxb (by omega)
  ·refine⟨209,y6,fun L hL=>?_⟩
   rw[show gC 11 c b st sz bl pl of=rE sz bl pl x.ext by show rE sz bl pl (of.getD 0 shp0).ext=_; rw[hx0]];have h:=f6 rfl;exact AW (hPV 209) hL hx hxb h.2.1 rfl h.2.2.1 h.2.2.2 hnk
 ·have hne0:(of.getD 0 shp0).es≠[]:=by rw[hx0]; exact hxb.2.2.2.2.2.2.1
  intro s hs
  have hany:∀ {bl:List Int},vF bl=true→∃ i,i < bl.length∧0 < bl.getD i 0:=fun {bl} h=>by
   unfold vF at h;simp only[bAe] at h;obtain⟨n,hn,h0⟩:=List.any_eq_true.1 h.2;obtain⟨i,hi,rfl⟩:=List.getElem_of_mem hn;exact⟨i,hi,by simpa[hi] using h0⟩
  obtain rfl | rfl | rfl | rfl | rfl | rfl:k=6∨k=7∨k=8∨k=9∨k=10∨k=11:=by omega
  ·rw[show gC 6 c b st sz bl pl of=bP c x.ext by show bP c (of.getD 0 shp0).ext=_; rw[hx0]] at hs
   exact hcon s hs
  ·have:(aM c 1 4096 && aM b 1 4096)=true:=hnk
   simp[aM] at this;refine nX (List.ne_nil_of_mem (a:=(0,((0:Nat) * st+(0:Nat)) * (of.getD 0 shp0).ext)) ?_) (fun m hm=>?_) hs
   ·refine List.mem_flatMap.2 ⟨0,List.mem_range.2 (by omega),List.mem_map.2 ⟨0,List.mem_range.2 (by omega),rfl⟩⟩
   ·obtain⟨i,_,hm⟩:=List.mem_flatMap.1 hm
    obtain⟨j,_,rfl⟩:=List.mem_map.1 hm;exact hne0
  ·obtain⟨i,hi,h0⟩:=hany hnk
   refine nX (List.ne_nil_of_mem (a:=(0,(pl.getD i 0+(0:Nat)) * (of.getD 0 shp0).ext)) ?_) (fun m hm=>?_) hs
   ·exact List.mem_flatMap.2 ⟨i,List.mem_range.2 hi,List.mem_map.2 ⟨0,List.mem_range.2 (by omega),rfl⟩⟩
   ·obtain⟨i,_,hm⟩:=List.mem_flatMap.1 hm
    obtain⟨j,_,rfl⟩:=List.mem_map.1 hm;exact hne0
  ·obtain⟨i,hi,h0⟩:=hany hnk
   have h:=f4 rfl;refine nX (List.ne_nil_of_mem (a:=((i:Int),pl.getD i 0+(0:Nat) * (of.getD i shp0).ext)) ?_) (fun m hm=>?_) hs
   ·exact List.mem_flatMap.2 ⟨i,List.mem_range.2 hi,List.mem_map.2 ⟨0,List.mem_range.2 (by omega),rfl⟩⟩
   ·obtain⟨i,hi,hm⟩:=List.mem_flatMap.1 hm
    obtain⟨j,_,rfl⟩:=List.mem_map.1 hm
    have hi':i < of.length:=by have:=List.mem_range.1 hi; omega
    show(of.getD i shp0).es≠[];rw[List.getD_eq_getElem?_getD,gEg hi'];exact(hof of[i] (gMe _)).2.2.2.2.2.2.1
  ·rw[show gC 10 c b st sz bl pl of=bP c x.ext by show bP c (of.getD 0 shp0).ext=_; rw[hx0]] at hs
   exact hcon s hs
  ·have h:=f6 rfl
   have hpos:∀ n,n≤sz.length→1≤prS bl n:=fun n=>by
    induction n with
    | zero=>exact fun _=>Nat.le_refl _
    | succ n ih=>
     intro hn;have h1:=ih (by omega);have h2:=(hsub rfl n (by omega)).2.2;rw[prS];exact Nat.mul_pos h1 (by omega)
   have hp:=hpos sz.length (Nat.le_refl _)
   have hxs:gC 11 c b st sz bl pl of=gI sz bl pl (of.getD 0 shp0).ext (prS bl sz.length) (List.replicate sz.length 0):=by
    show rE sz bl pl _=_;unfold rE;rw[← h.2.2.1,← tS (Nat.le_refl _),List.take_length]
   rw[hxs] at hs
   have hall:∀(F:Nat) (a:List Nat),∀ m∈gI sz bl pl (of.getD 0 shp0).ext F a,m.1=0:=fun F=>by
    induction F with
    | zero=>exact fun a m hm=>by cases hm
    | succ F ih=>
     intro a m hm;rw[gI] at hm
     rcases List.mem_cons.1 hm with e | e
     ·subst e; rfl
     ·split at e
      ·exact ih _ m e
      ·cases e
   refine nX ?_ (fun m hm=>?_) hs
   ·obtain⟨F,hF⟩:∃ F,prS bl sz.length=F+1:=⟨prS bl sz.length - 1,by omega⟩
    rw[hF,gI];exact List.cons_ne_nil _ _
   ·rw[hall _ _ m hm]
    exact hne0
 ·obtain⟨i,hi,rfl⟩:=List.getElem_of_mem hn
  have:=hsub h i hi;simp only[List.getD_eq_getElem?_getD,gEg hi,Option.getD_some] at this;omega
def I2 (n:Nat) (t:Ty):Prop:=aC Tryz.prog 133 [.agg (tyR t)] (.tup [.agg (shR (cG n t).2),iv (cG n t).1])
theorem fX (e:Int):(e != 0)=decide (e≠0):=by by_cases h:e=0<;>simp[h]
theorem EP {f:Ty→Int×Shp}:∀ {of:List Ty} {l:List Shp},oQ f of=(0,l)→l.length=of.length∧∀ s∈l,∃ u∈of,f u=(0,s)
 | [],l,h=>by injection h with _ h; subst h; exact⟨rfl,fun s hs=>by cases hs⟩
 | u::of,l,h=>by
  rw[oQ] at h
  rcases hu:f u with⟨e,s⟩
  rcases hr:oQ f of with⟨e',l'⟩
  rw[hu,hr] at h;simp only at h
  by_cases he:e=0
  ·subst he
   rw[if_neg (by simp)] at h
   by_cases he':e'=0
   ·subst he'
    rw[if_neg (by simp)] at h
    injection h with _ h
    subst h;obtain⟨i1,i2⟩:=EP hr;refine⟨by simp[i1],fun q hq=>?_⟩
    rcases List.mem_cons.1 hq with rfl | hq
    ·exact⟨u,by simp,hu⟩
    ·obtain⟨v,hv,h5⟩:=i2 q hq
     exact⟨v,by simp[hv],h5⟩
   ·rw[if_pos he'] at h
    injection h with h _
    exact absurd h he'
  ·rw[if_pos he] at h
   injection h with h _
   exact absurd h he
theorem DQ {of:List Shp}:∀ {l:List (Int×Int)} {s t:Shp},s.es.length≤4096→eW of l s=some t→t.es.length≤4096
 | [],s,t,hs,h=>by injection h with h; subst h; exact hs
 | m::l,s,t,hs,h=>by
  simp only[eW] at h;split at h
  ·cases h
  ·exact DQ (by simp[pU] at *; omega) h
theorem AT {k:Int} {sz pl:List Int} {of:List Shp} {s:Shp}:(dF k sz pl of s).es=s.es:=by
 unfold dF;split
 ·rfl
 split<;>rfl
theorem nC:∀(n:Nat) (t:Ty),MU n t→(cG n t).1=0→shB (cG n t).2
 | 0,t,h,_=>by
  obtain⟨m,_,_,_,_,_,_,_,_,e,_⟩:=oE h
  cases e
 | n+1,t,h,h0=>by
  obtain⟨m,k,c,b,st,sz,bl,pl,of,e,rfl,h1,h2,h3,h4,h8⟩:=oE h
  obtain rfl:n=m:=by omega
  rw[cG] at h0 ⊢
  rcases hs:oQ (cG n) of with⟨e',l⟩
  rw[hs] at h0;simp only at h0 ⊢
  by_cases he:e'=0
  ·subst he
   rw[if_neg (by simp)] at h0 ⊢;obtain⟨g1,g2⟩:=EP hs
   have hof:∀ x∈l,shB x:=fun x hx=>by
    obtain⟨u,hu,h9⟩:=g2 x hx;have:=nC n u (h8 u hu) (by rw[h9])
    rwa[h9] at this
   by_cases c1:bH k=0∧¬ (6≤k∧k≤11)
   ·rw[if_pos c1] at h0; cases h0
   rw[if_neg c1] at h0 ⊢
   by_cases c2:fZ k c b st sz bl pl of.length=0
   ·rw[c2] at h0 ⊢
    rw[if_neg (by simp)] at h0 ⊢
    by_cases c3:0 < bH k
    ·rw[if_pos c3]
     have h8:=hZ k;unfold shB mP Shp.ext;simp only;refine⟨by omega,by omega,by omega,by omega,by omega,by omega,by simp,by simp,fun y hy=>?_⟩;rw[List.mem_singleton.1 hy];exact⟨by show _≤(0:Int); omega,by show(0:Int)≤_; omega⟩
    ·rw[if_neg c3] at h0 ⊢
     by_cases c4:AR k c b st sz bl pl=true
     ·rw[if_pos c4] at h0 ⊢
      have hk:6≤k∧k≤11:=dBc fun q=>c1 ⟨by omega,q⟩
      obtain⟨_,hne,_⟩:=JB (ty:=of) hk (by rw[g1]; exact c2) c4 hof;unfold uI at h0 ⊢;split at h0
      ·cases h0
      ·rename_i s hs'
       split at h0
       ·rename_i hok
        split
        ·exact QF hok (by rw[AT]; exact hne s hs') (by rw[AT]; exact DQ (by simp[shp0]) hs')
        ·rename_i q; exact absurd hok q
       ·cases h0
     ·rw[if_neg c4] at h0; cases h0
   ·rw[if_pos c2] at h0
    exact absurd h0 c2
  ·rw[if_pos he] at h0
   exact absurd h0 he
def okL (m:Nat) (of:List Ty) (l:List Shp) (i:Nat):Prop:=l.length=i∧∀ j,j < i→∀ u,of[j]?=some u→∃ s,l[j]?=some s∧cG m u=(0,s)∧shB s
theorem IX {f:Ty→Int×Shp}:∀ {of:List Ty} {l:List Shp},l.length=of.length→(∀(j:Nat) (u:Ty),of[j]?=some u→∃ s,l[j]?=some s∧f u=(0,s))→oQ f of=(0,l)
 | [],l,hl,_=>by
  cases l with
  | nil=>rfl
  | cons=>simp at hl
 | u::of,l,hl,h=>by
  cases l with
  | nil=>simp at hl
  | cons s l=>
   obtain⟨s',h1,h2⟩:=h 0 u rfl
   injection h1 with h1
   subst h1;rw[oQ,h2];simp only[ne_eq,not_true_eq_false,if_false];rw[IX (by simpa using hl) fun j v hj=>h (j+1) v hj];rfl
theorem D5 {f:Ty→Int×Shp}:∀ {of:List Ty} {i:Nat} {u:Ty} {e:Int} {s:Shp},of[i]?=some u→f u=(e,s)→e≠0→(∀(j:Nat) (v:Ty),j < i→of[j]?=some v→(f v).1=0)→oQ f of=(e,[])
 | [],i,u,e,s,h,_,_,_=>by simp at h
 | v::of,0,u,e,s,h,hf,he,_=>by
  injection h with h
  subst h;rw[oQ,hf];simp only;rw[if_pos he]
 | v::of,i+1,u,e,s,h,hf,he,hb=>by
  have h0:=hb 0 v (by omega) rfl;rw[oQ]
  rcases hfv:f v with⟨e0,s0⟩
  rw[hfv] at h0;simp only at h0 ⊢;rw[if_neg (by omega),D5 (i:=i) (u:=u) (e:=e) (s:=s) (by simpa using h) hf he fun j w hj hw=>hb (j+1) w (by omega) (by simpa using hw)];simp only;rw[if_pos he]
theorem wL:∀(n:Nat) (t:Ty),MU n t→I2 n t
 | 0,t,h=>by
  obtain⟨m,_,_,_,_,_,_,_,_,e,_⟩:=oE h
  cases e
 | n+1,t,h=>by
  obtain⟨m,k,c,b,st,sz,bl,pl,of,e,rfl,h1,h2,h3,h4,h8⟩:=oE h
  obtain rfl:n=m:=by omega
  have ih:∀ u∈of,I2 n u:=fun u hu=>wL n u (h8 u hu)
  have e0:tyR (.mk k c b st sz bl pl of)=[iv k,iv c,iv b,iv st,.list 1 (inR sz),.list 1 (inR bl),.list 1 (inR pl),.list 8 (aO of)]:=by rw[tyR]
  have hol:=oI of;unfold I2;refine aC.mkI OD (nlB rfl) ?_;rw[e0];refine aA ?_;refine AWP.loop2 (fun(i:Nat) (l:List Shp)=>[(1,.cptr [iv k,iv c,iv b,iv st,.list 1 (inR sz),.list 1 (inR bl),.list 1 (inR pl),.list 8 (aO of)]),(2,.ptr 0 0 0 0),(4,.hsl 1 0 0 l.length),(14,.list 8 (aO of)),(15,iv of.length),(16,iv i)]) (fun _ l=>[[.cells 3 [r0S]],[.cells 3 (ofR l)]]) (fun i l=>i≤of.length∧okL n of l i) (fun i _=>of.length - i) 0 [] ⟨nZl _,rfl,fun j hj=>by omega⟩ ?_ ?_
  ·rw[← hol]
   exact Sub.wl [3] [[(1,0)],[(2,0)]]
  rintro i l ⟨hi,hl,hok⟩;refine aA ?_;refine AWP.condN (i < of.length) rfl rfl (fun h9=>?_) (fun h9=>?_)
  ·have hr:=rQ of i h9
   have hu:=ih of[i] (gMe _);have hsm:=h8 of[i] (gMe _);have hub:=nC n of[i] hsm;unfold I2 at hu;have hgi:of[i]?=some of[i]:=gEg h9;generalize of[i]=u at *;obtain⟨_,k',c',b',st',sz',bl',pl',of',_,rfl,_⟩:=oE hsm;rw[tyR] at hr hu
   rcases hes:cG n (.mk k' c' b' st' sz' bl' pl' of') with⟨e,s⟩
   rw[hes] at hu hub;unfold shR at hu;replace hu:aC Tryz.prog 133 [.agg [iv k',iv c',iv b',iv st',.list 1 (inR sz'),.list 1 (inR bl'),.list 1 (inR pl'),.list 8 (aO of')]] (.tup [.agg [.list 2 (enR s.es),iv s.lo,iv s.hi],iv e]):=hu;refine aA ?_;refine AWP.condN (e≠0) rfl (fX e) (fun he=>?_) (fun he=>?_)
   ·have hseq:oQ (cG n) of=(e,[]):=D5 hgi hes he fun j v hj hv=>by
     obtain⟨s',_,h5,_⟩:=hok j hj v hv;rw[h5]
    have hres:cG (n+1) (.mk k c b st sz bl pl of)=(e,shp0):=by
     rw[cG,hseq];simp only;rw[if_pos he]
    rw[hres,show shR (e,shp0).2=[.list 2 [],iv 0,iv 0] from rfl];refine aA ?_;exact aG.w
   ·replace he:e=0:=dBc he
    subst he;have hsb:=hub rfl;have holl:=D0 l;refine aA ?_;refine⟨i+1,l++[s],⟨by omega,by simp[hl],fun j hj v hv=>?_⟩,by omega,?_⟩
    ·by_cases ej:j=i
     ·subst ej
      rw[hgi] at hv
      injection hv with hv
      subst hv;exact⟨s,by rw[List.getElem?_append_right (by omega),hl,Nat.sub_self]; rfl,hes,hsb⟩
     ·obtain⟨s',h5,h6⟩:=hok j (by omega) v hv
      exact⟨s',by rw[List.getElem?_append_left (by omega)]; exact h5,h6⟩
    have hz9:ofR l++[[.list 2 (enR s.es),iv s.lo,iv s.hi]]=ofR (l++[s]):=by simp[ofR]
    exact Sub.wl [] [[(0,0)],[(5,0)]]
  ·obtain rfl:of.length=i:=by omega
   have hseq:oQ (cG n) of=(0,l):=IX hl fun j u hj=>by
    obtain⟨s',h5,h6,_⟩:=hok j (gEs.1 hj).1 u hj;exact⟨s',h5,h6⟩
   have hlb:∀ x∈l,shB x:=fun x hx=>by
    obtain⟨j,hj,rfl⟩:=List.getElem_of_mem hx;obtain⟨s',h5,_,h6⟩:=hok j (by omega) of[j] (gEg (by omega));rw[gEg hj] at h5
    injection h5 with h5
    rw[h5]; exact h6
   refine AWP.exit ?_;refine AWP.sub (fr':=[(1,.cptr [iv k,iv c,iv b,iv st,.list 1 (inR sz),.list 1 (inR bl),.list 1 (inR pl),.list 8 (aO of)]),(2,.ptr 0 0 0 0),(4,.list 3 (ofR l))]) (H':=[[.cells 3 [r0S]]]) ?_ ?_
   ·have holl:=D0 l
    exact Sub.wl [] [[(0,0)]]
   have hsz:=oY k;have hcon:=QZ k
   have hP:cG (n+1) (.mk k c b st sz bl pl of)=if bH k=0∧¬ (6≤k∧k≤11) then(2,shp0) else if fZ k c b st sz bl pl of.length≠0 then(fZ k c b st sz bl pl of.length,shp0) else if 0 < bH k then(0,⟨[(k,0)],0,bH k⟩) else if AR k c b st sz bl pl=true then uI k c b st sz bl pl l else(3,shp0):=by
    rw[cG,hseq];simp only;rw[if_neg (by simp)]
   by_cases hk:6≤k∧k≤11
   ·have hs0:bH k=0:=DJ.2 (by omega)
    rw[O6 hk.1 hk.2,dTr hk] at hcon;rw[hs0] at hsz;have hfo:=vN k c b st sz bl pl of (fl1 k) (fl2 k) (fl3 k) (fl4 k) (fl5 k) false (.func (.func (I8 k)) #[] #[]) (.func (.func (P0 k)) #[] #[]) rfl rfl h1 h2 h3 h4;rw[e0] at hfo
    have hfe:(if CS (fl1 k) (fl2 k) (fl3 k) (fl4 k) (fl5 k) c b st sz bl pl of.length (ofG false k of.length)=true then 2 else shG k sz bl pl (ofG false k of.length))=fZ k c b st sz bl pl of.length:=by
     unfold fZ;rw[hs0];rfl
    rw[hfe] at hfo;rw[if_neg (by omega)] at hP;rw[hs0,if_neg (show¬ (0 < 0) by omega)] at hP;refine aA ?_;refine AWP.condN (fZ k c b st sz bl pl of.length≠0) rfl (fX _) (fun hf=>?_) (fun hf=>?_)
    ·rw[if_pos hf] at hP
     rw[hP,show ∀ e:Int,shR (e,shp0).2=[.list 2 [],iv 0,iv 0] from fun _=>rfl];refine aA ?_;exact aG.w
    ·replace hf:fZ k c b st sz bl pl of.length=0:=dBc hf
     rw[if_neg (fun q=>q hf)] at hP;have w1:=cZ st (-1048576) 1048576;have w2:=DO pl (-1048576) 1048576 (by omega);have w3:=P4 (k:=k) (c:=c) (b:=b) (st:=st) (sz:=sz) (bl:=bl) (pl:=pl) (ty:=of) hk hf;have hnp:AR k c b st sz bl pl=(aM st (-1048576) 1048576 && kS pl (-1048576) 1048576 && LT k c b sz bl pl):=rfl
     cases g1:aM st (-1048576) 1048576 with
     | false=>
      rw[g1] at w1 hnp;rw[hnp,if_neg (by simp)] at hP;rw[hP,show ∀ e:Int,shR (e,shp0).2=[.list 2 [],iv 0,iv 0] from fun _=>rfl];refine aA ?_;exact aG.w
     | true=>
     rw[g1] at w1 hnp
     cases g2:kS pl (-1048576) 1048576 with
     | false=>
      rw[g2] at w2 hnp;rw[hnp,if_neg (by simp)] at hP;rw[hP,show ∀ e:Int,shR (e,shp0).2=[.list 2 [],iv 0,iv 0] from fun _=>rfl];refine aA ?_;exact aG.w
     | true=>
     rw[g2] at w2 hnp
     cases g3:LT k c b sz bl pl with
     | false=>
      rw[g3] at w3 hnp;rw[hnp,if_neg (by simp)] at hP;rw[hP,show ∀ e:Int,shR (e,shp0).2=[.list 2 [],iv 0,iv 0] from fun _=>rfl];refine aA ?_;exact aG.w
     | true=>
     rw[g3] at w3 hnp;have hnt:AR k c b st sz bl pl=true:=hnp;rw[hnt,if_pos rfl] at hP;obtain⟨⟨it,hit⟩,hne,q1,q2,q3⟩:=JB (ty:=of) (of:=l) hk (by rw[hl]; exact hf) hnt hlb;have hput:=PI (c1:=fl1 k) (c2:=fl2 k) (c3:=fl3 k) (c4:=fl4 k) (c5:=fl5 k) (n5:=I8 k) hit hne q1 q2 q3;rw[hP];generalize uI k c b st sz bl pl l=r at *;obtain⟨e',s⟩:=r;unfold shR at hput ⊢;refine aA ?_;exact aG.w
   ·rw[O7 hk,dFa hk] at hcon
    by_cases hb:0 < bH k
    ·have hfo:=vN k c b st sz bl pl of (fl1 k) (fl2 k) (fl3 k) (fl4 k) (fl5 k) true .nilFunc .nilFunc rfl rfl h1 h2 h3 h4
     rw[e0] at hfo
     have hfe:(if CS (fl1 k) (fl2 k) (fl3 k) (fl4 k) (fl5 k) c b st sz bl pl of.length (ofG true k of.length)=true then 2 else shG k sz bl pl (ofG true k of.length))=fZ k c b st sz bl pl of.length:=by
      unfold fZ;rw[dTr hb]
     rw[hfe] at hfo;rw[if_neg (by omega)] at hP
     obtain⟨z,hz⟩:∃ z,bH k=z+1:=⟨bH k - 1,by omega⟩
     rw[if_pos hb] at hP;rw[hz] at hsz hP;refine aA ?_;refine AWP.condN (fZ k c b st sz bl pl of.length≠0) rfl (fX _) (fun hf=>?_) (fun hf=>?_)
     ·rw[if_pos hf] at hP
      rw[hP,show ∀ e:Int,shR (e,shp0).2=[.list 2 [],iv 0,iv 0] from fun _=>rfl];refine aA ?_;exact aG.w
     ·replace hf:fZ k c b st sz bl pl of.length=0:=dBc hf
      rw[if_neg (fun q=>q hf)] at hP;rw[hP,show shR ((0:Int),(⟨[(k,0)],0,((z+1:Nat):Int)⟩:Shp)).2=[.list 2 [[iv k,iv 0]],iv 0,iv (z+1:Nat)] from rfl];refine aA ?_;exact aG.w
    ·rw[if_pos ⟨by omega,hk⟩] at hP
     rw[hP,show ∀ e:Int,shR (e,shp0).2=[.list 2 [],iv 0,iv 0] from fun _=>rfl];rw[show bH k=0 by omega] at hsz;refine aA ?_;exact aG.w
theorem BJ:∀(n:Nat) (t:Ty),(cG n t).1≠0→(cG n t).2=shp0
 | 0,_,_=>rfl
 | n+1,.raw ..,_=>rfl
 | n+1,.mk k c b st sz bl pl of,h=>by
  rw[cG] at h ⊢
  rcases hsq:oQ (cG n) of with⟨e,l⟩
  rw[hsq] at h;simp only at h ⊢
  by_cases h1:e≠0
  ·rw[if_pos h1]
  rw[if_neg h1] at h ⊢
  by_cases h2:bH k=0∧¬ (6≤k∧k≤11)
  ·rw[if_pos h2]
  rw[if_neg h2] at h ⊢
  by_cases h3:fZ k c b st sz bl pl of.length≠0
  ·rw[if_pos h3]
  rw[if_neg h3] at h ⊢
  by_cases h4:0 < bH k
  ·rw[if_pos h4] at h
   exact absurd rfl h
  rw[if_neg h4] at h ⊢
  by_cases h5:AR k c b st sz bl pl=true
  ·rw[if_pos h5] at h ⊢
   unfold uI at h ⊢
   cases hs:eW l (gC k c b st sz bl pl l) shp0 with
   | none=>rfl
   | some s=>
    rw[hs] at h;simp only at h ⊢
    by_cases h6:okS (dF k sz pl l s)=true
    ·rw[if_pos h6] at h
     exact absurd rfl h
    ·rw[if_neg h6]
  ·rw[if_neg h5]
def bI (es:List (Int×Int)):Nat:=(es.map fun x=>bH x.1).sum
theorem iI (l:List (Int×Int)) (x:Int×Int):bI (l++[x])=bI l+bH x.1:=by simp[bI]
theorem gR:∀(l:List (Int×Int)),bI l≤8 * l.length
 | []=>by simp[bI]
 | x::l=>by
  have h1:=gR l;have h2:=hZ x.1;unfold bI at h1 ⊢;simp only[List.map_cons,List.sum_cons,List.length_cons];omega
def bF (t:Ty):Int×Shp:=if d4 8 t=true then(10,shp0) else cG 8 t
theorem j5 {t:Ty} (h:iK 8 t) (h0:(bF t).1=0):shB (bF t).2:=by
 unfold bF at h0 ⊢
 by_cases hd:d4 8 t=true
 ·rw[if_pos hd] at h0; cases h0
 ·rw[if_neg hd] at h0 ⊢
  exact nC 8 t ⟨h,by simpa using hd⟩ h0
theorem nV {t:Ty} (h0:(bF t).1≠0):(bF t).2=shp0:=by
 unfold bF at h0 ⊢
 by_cases hd:d4 8 t=true
 ·rw[if_pos hd]
 ·rw[if_neg hd] at h0 ⊢
  exact BJ 8 t h0
theorem j8 {t:Ty} (h:iK 8 t):(bF t).2.es.length≤4096:=by
 by_cases h0:(bF t).1=0
 ·exact(j5 h h0).2.2.2.2.2.2.2.1
 ·rw[nV h0]
  simp[shp0]
variable {t:Ty}
theorem I9 (h:iK 8 t):aC Tryz.prog 71 [.agg (tyR t)] (.tup [.agg (shR (bF t).2),iv (bF t).1]):=by
 refine aC.mkI cF71 (nlB rfl) ?_;have hd:=D3 8 t h (by omega)
 have hs:=fun q=>wL 8 t ⟨h,q⟩
 unfold I2 at hs;unfold bF;generalize cG 8 t=r at *;obtain⟨e,s⟩:=r;generalize d4 8 t=d at *;obtain⟨_,_,_,_,_,_,_,_,_,_,rfl,_⟩:=cK h;rw[tyR] at hd hs ⊢
 cases d with
 | true=>
  rw[if_pos rfl,show shR ((10:Int),shp0).2=[.list 2 [],iv 0,iv 0] from rfl];refine aA ?_;exact aG.w
 | false=>
  have hs:=hs rfl;rw[if_neg (by simp)];unfold shR at hs ⊢;refine aA ?_;exact aG.w
theorem xH (h:iK 8 t):aC Tryz.prog 21 [.agg (tyR t)] (.tup [iv (bI (bF t).2.es),iv (bF t).1]):=by
 refine aC.mkI cF21 (nlB rfl) ?_;have hs:=I9 h;have hl:=j8 h;generalize bF t=r at *;obtain⟨e,s⟩:=r;obtain⟨es,lo,hi⟩:=s;obtain⟨_,_,_,_,_,_,_,_,_,_,rfl,_⟩:=cK h;rw[tyR] at hs ⊢;unfold shR at hs;replace hs:aC Tryz.prog 71 _ (.tup [.agg [.list 2 (enR es),iv lo,iv hi],iv e]):=hs;replace hl:es.length≤4096:=hl;show AWP Tryz.prog F21.n 0 F21.code (aG F21.res (.tup [iv (bI es),iv e])) _ _;have hel:=dH es;refine aA ?_;refine AWP.loop (fun i:Nat=>[(5,iv e),(6,iv (bI (es.take i))),(15,.list 2 (enR es)),(16,iv es.length),(17,iv i)]) (fun _=>[]) (fun i=>i≤es.length) (fun i=>es.length - i) 0 (nZl _) ?_ ?_
 ·rw[← hel]
  exact Sub.w [] []
 rintro i hi;refine aA ?_;refine AWP.condN (i < es.length) rfl rfl (fun h=>?_) (fun h=>?_)
 ·have hr:=iH es i h
  have w:=oY es[i].1
  have e1:bI (es.take (i+1))=bI (es.take i)+bH es[i].1:=by rw[dA h,iI]
  have h2:=gR (es.take i);rw[List.length_take] at h2;have h3:=hZ es[i].1;refine aA ?_;refine⟨i+1,by omega,by omega,?_⟩;rw[e1];exact Sub.wl [] []
 ·obtain rfl:es.length=i:=by omega
  rw[List.take_length];refine aA ?_;exact aG.w
theorem J0 (es:List (Int×Int)) (hl:es.length≤4096):aC Tryz.prog 152 [.list 2 (enR es)] (iv (bI es)):=by
 refine aC.mkI OX (nlB rfl) ?_;have hel:=dH es;refine aA ?_;refine AWP.loop (fun i:Nat=>[(3,iv (bI (es.take i))),(6,.list 2 (enR es)),(7,iv es.length),(8,iv i)]) (fun _=>[]) (fun i=>i≤es.length) (fun i=>es.length - i) 0 (nZl _) ?_ ?_
 ·rw[← hel]
  exact Sub.w [] []
 rintro i hi;refine aA ?_;refine AWP.condN (i < es.length) rfl rfl (fun h=>?_) (fun h=>?_)
 ·have hr:=iH es i h
  have w:=oY es[i].1
  have e1:bI (es.take (i+1))=bI (es.take i)+bH es[i].1:=by rw[dA h,iI]
  have h2:=gR (es.take i);rw[List.length_take] at h2;have h3:=hZ es[i].1;refine aA ?_;refine⟨i+1,by omega,by omega,?_⟩;rw[e1];exact Sub.wl [] []
 ·obtain rfl:es.length=i:=by omega
  rw[List.take_length];refine aA ?_;exact aG.w
theorem GA (h:iK 8 t):aC Tryz.prog 22 [.agg (tyR t)] (.tup [iv (bF t).2.lo,iv (bF t).2.ext,iv (bF t).1]):=by
 refine aC.mkI cF22 (nlB rfl) ?_;have hs:=I9 h
 have hb:(-mP≤(bF t).2.lo∧(bF t).2.lo≤mP)∧-mP≤(bF t).2.hi∧(bF t).2.hi≤mP:=by
  by_cases h0:(bF t).1=0
  ·obtain⟨b1,b2,b3,b4,_⟩:=j5 h h0
   exact⟨⟨b1,b2⟩,b3,b4⟩
  ·rw[nV h0]
   decide
 generalize bF t=r at *;obtain⟨e,s⟩:=r;unfold mP at hb;have hx:=eG s (by have:=hb.1.1; simp only at this; omega) (by have:=hb.1.2; simp only at this; omega) (by have:=hb.2.1; simp only at this; omega) (by have:=hb.2.2; simp only at this; omega);obtain⟨es,lo,hi⟩:=s;obtain⟨_,_,_,_,_,_,_,_,_,_,rfl,_⟩:=cK h;rw[tyR] at hs ⊢;unfold shR at hs hx;replace hs:aC Tryz.prog 71 _ (.tup [.agg [.list 2 (enR es),iv lo,iv hi],iv e]):=hs;replace hx:aC Tryz.prog 73 [.agg [.list 2 (enR es),iv lo,iv hi]] (iv (Shp.ext ⟨es,lo,hi⟩)):=hx;refine aA ?_;refine DK.nil ⟨by kernel_rfl,?_⟩;refine aA ?_;exact aG.w
variable {t:Ty}
theorem zS (h:iK 8 t):aC Tryz.prog 150 [.agg (tyR t),iv 1] (.tup [.list 2 (enR (bF t).2.es),iv (bF t).1]):=by
 refine aC.mkI NL (nlB rfl) ?_;have hs:=I9 h;have hok:=j5 h;have her:=@nV t;generalize bF t=r at *;obtain⟨e,s⟩:=r;simp only at hok her;obtain⟨es,lo,hi'⟩:=s;obtain⟨_,_,_,_,_,_,_,_,_,_,rfl,_⟩:=cK h;rw[tyR] at hs ⊢;unfold shR at hs;replace hs:aC Tryz.prog 71 _ (.tup [.agg [.list 2 (enR es),iv lo,iv hi'],iv e]):=hs;have hel:=dH es;refine aA ?_;refine AWP.condN (e≠0) rfl (fX _) (fun he=>?_) (fun he=>?_)
 ·rw[show(e,(⟨es,lo,hi'⟩:Shp)).2.es=[] by have:=her he; injection this with h1]
  refine aA ?_;exact aG.w
 ·obtain⟨b1,b2,b3,b4,b5,b6,b7,b8,b9⟩:=hok (dBc he)
  obtain rfl:e=0:=dBc he;replace b7:es≠[]:=b7;unfold mP at b1 b2 b3 b4;replace b1:-1048576≤lo:=b1;replace b2:lo≤1048576:=b2;replace b3:-1048576≤hi':=b3;replace b4:hi'≤1048576:=b4;replace b8:es.length≤4096:=b8;replace b9:∀ y∈es,-mP≤y.2∧y.2≤mP:=b9;have h0:0 < es.length:=List.length_pos_iff.2 b7;refine aA ?_;refine AWP.condN (4096 / es.length < 1) rfl (by rw[hel]) (fun h5=>?_) (fun _=>?_)
  ·have:1≤4096 / es.length:=(Nat.le_div_iff_mul_le h0).2 (by omega)
   omega
  refine aA ?_;refine AWP.loop2 (fun(i:Nat) (_:Unit)=>[(1,iv 1),(6,.cptr [.list 2 (enR es),iv lo,iv hi']),(8,.hsl 0 0 0 (i * es.length)),(31,iv 1),(32,iv i)]) (fun i _=>[[.cells 2 (if i=0 then[] else enR es)]]) (fun i _=>i≤1) (fun i _=>1 - i) 0 () (nZl _) ?_ ?_
  ·rw[Nat.zero_mul,if_pos rfl]
   exact Sub.wl [2] [[(2,0)]]
  rintro i _ hi;refine aA ?_;refine AWP.condN (i < 1) rfl rfl (fun h5=>?_) (fun h5=>?_)
  ·obtain rfl:i=0:=by omega
   have hx:=eG ⟨es,lo,hi'⟩ (by show _≤lo; omega) (by show lo≤_; omega) (by show _≤hi'; omega) (by show hi'≤_; omega);unfold shR at hx;replace hx:aC Tryz.prog 73 [.agg [.list 2 (enR es),iv lo,iv hi']] (iv (hi' - lo)):=hx;refine aA ?_;rw[if_pos rfl];refine AWP.loop (fun j:Nat=>[(1,iv 1),(6,.cptr [.list 2 (enR es),iv lo,iv hi']),(8,.hsl 0 0 0 j),(9,iv (0:Nat)),(31,iv 1),(32,iv (0:Nat)),(36,.list 2 (enR es)),(37,iv es.length),(38,iv j)]) (fun j=>[[.cells 2 (enR (es.take j))]]) (fun j=>j≤es.length) (fun j=>es.length - j) 0 (nZl _) ?_ ?_
   ·rw[← hel]
    exact Sub.wl [] [[(0,0)]]
   rintro j hj;refine aA ?_;refine AWP.condN (j < es.length) rfl rfl (fun h6=>?_) (fun h6=>?_)
   ·have hr:=iH es j h6
    have hy:=b9 es[j] (gMe _)
    have e1:enR (es.take (j+1))=enR (es.take j)++[[iv es[j].1,iv es[j].2]]:=by
     unfold enR;rw[dA h6,List.map_append];rfl
    have etl:(enR (es.take j)).length=j:=by rw[dH,List.length_take]; omega
    generalize es[j].1=kd at *;generalize es[j].2=a at *;unfold mP at hy
    have ew:IntKind.i64.wrap (a+IntKind.i64.wrap (((0:Nat):Int) * (hi' - lo)))=a:=by
     rw[show((0:Nat):Int) * (hi' - lo)=0 by simp,Av.wrap_small (show -9223372036854775808≤(0:Int) by omega) (by omega),Int.add_zero,Av.wrap_small (by omega) (by omega)]
    have w:=cZ a (-1048576) 1048576;rw[show aM a (-1048576) 1048576=true by simp[aM]; omega] at w;refine aA ?_;rw[ew];refine aA ?_;refine DK.nil ⟨by kernel_rfl,?_⟩;refine aA ?_;refine⟨j+1,by omega,by omega,?_⟩;rw[e1];exact Sub.wl [] [[(4,0)]]
   ·obtain rfl:es.length=j:=by omega
    rw[List.take_length];refine aA ?_;refine⟨1,(),by omega,by omega,?_⟩;rw[if_neg (by omega),Nat.one_mul];exact Sub.wl [] [[(0,0)]]
  ·obtain rfl:i=1:=by omega
   rw[if_neg (by omega),Nat.one_mul];refine aA ?_;exact aG.w
def gH (out:List (Int×Int)) (p:Int):List (Int×Int):=match out.getLast? with
 | some x=>if x.1+x.2=p then out.dropLast++[(x.1,x.2+1)] else out++[(p,1)]
 | none=>[(p,1)]
def bY (l:List Int):List (Int×Int):=l.foldl gH []
def cP (es:List (Int×Int)) (i:Nat):List Int:=(List.range (bH (es.getD i (0,0)).1)).map fun j:Nat=>(es.getD i (0,0)).2+j
def cO (es:List (Int×Int)):List Int:=(List.range es.length).flatMap (cP es)
theorem eL {o:List (Int×Int)} {x:Int×Int} {p:Int} (h:x.1+x.2=p):gH (o++[x]) p=o++[(x.1,x.2+1)]:=by
 unfold gH;rw[List.getLast?_append,List.dropLast_append_of_ne_nil (by simp)];simp[h]
theorem fH {o:List (Int×Int)} {x:Int×Int} {p:Int} (h:¬ x.1+x.2=p):gH (o++[x]) p=o++[x]++[(p,1)]:=by
 unfold gH;rw[List.getLast?_append];simp[h]
theorem y4 {o:List (Int×Int)} {x y:Int×Int} {m:Nat} (hm:m=o.length):(enR (o++[x])).set m [iv y.1,iv y.2]=enR (o++[y]):=by
 subst hm;unfold enR;rw[List.map_append,List.map_append,List.set_append_right _ _ (by simp)];simp
def sgF (n:Nat) (c:AV):Fr:=[(4,.cptr [iv 0]),(5,.cptr [iv n]),(6,.ptr 0 0 0 0),(7,.ptr 1 0 0 0),(12,c)]
def sgI (out:List (Int×Int)) (x:Blk):Heap:=[[.cells 1 [[.sc (.slice none 0 0)]]],[.cells 1 [[.hsl 3 0 0 out.length]]],[x],[.cells 2 (enR out)]]
def sgJ (out:List (Int×Int)) (x:Blk):Heap:=[[.cells 1 [[.sc (.slice none 0 0)]]],[.cells 1 [[.hsl 4 0 0 out.length]]],[x],[.dead],[.cells 2 (enR out)]]
def sgB (out:List (Int×Int)):Prop:=out.length≤100000∧∀ x∈out,(-2000000≤x.1∧x.1≤2000000)∧0≤x.2∧x.2≤100000
noncomputable def D2:bL:=i6 [1,1,0,1,0] F151.code
theorem OL {T:AV→AV→Prop} {ρ:Nat→Nat→Option (Nat×Nat)} {n:Nat} {c:AV} {L:LC} {st:LoopState} {pe:Option Code} (hc:PV c) (r0:ρ 0 0=some (0,0)) (r1:ρ 1 0=some (1,0)):ToB T ρ (.lp L (sgF n c) st pe) (.lp L (sgF n c) st pe):=by
 refine ToB.lp _ _ _ _ _ fun x hx=>?_
 simp only[sgF,List.mem_cons,List.not_mem_nil,or_false] at hx
 rcases hx with rfl | rfl | rfl | rfl | rfl
 ·exact To.pure (pv (AV.cptr [iv 0]))
 ·exact To.pure (pv (AV.cptr [iv n]))
 ·exact To.ptrO r0 rfl rfl
 ·exact To.ptrO r1 rfl rfl
 ·exact To.pure hc.out
theorem IG {L:LC} {c:AV} {N:Nat} (hc:PV c) (hL:LOK Tryz.prog F151.n L [13,14] (rfA D2) (rfB D2)) (out:List (Int×Int)) (i:Nat) (p:Int) (hi:i < N) (_hN:N≤100000) (ho:sgB out) (_hp:-2000000≤p∧p≤2000000):
  dQ Tryz.prog 2 0 [iv i,iv p] (sgI out (.lp L (sgF N c) .ready none)) fun b H'=>b=true∧(H'=sgI (gH out p) (.lp L (sgF N c) .ready none)∨H'=sgJ (gH out p) (.lp L (sgF N c) .ready none)):=by
 refine fY.g ?_;refine⟨L,_,_,_,_,_,hL,rfl,rfl,?_⟩;show AWP _ _ _ (.seq (.region _) (.region _)) _ _ _
 have hlp:∀(T:AV→AV→Prop) (ρ:Nat→Nat→Option (Nat×Nat)) (st:LoopState),ρ 0 0=some (0,0)→ρ 1 0=some (1,0)→ToB T ρ (.lp L (sgF N c) st none) (.lp L (sgF N c) st none):=fun T ρ st=>OL hc
 obtain⟨caps,hcaps⟩:∃ caps,caps=sgF N c:=⟨_,rfl⟩
 rw[← hcaps] at hlp ⊢;rw[show putL caps ([13,14].zip [iv i,iv p])=(14,iv p)::(13,iv i)::sgF N c by rw[hcaps]; rfl];unfold sgF;obtain⟨h1,h2⟩:=ho;have hol:=dH out;refine aA ?_;refine⟨rfl,caps,rfl,?_⟩;show AWP _ _ _ (.block 1 _) _ _ _;refine AWP.fin ?_;refine aA ?_;refine AWP.condN (N≤i) rfl rfl (fun h=>by omega) (fun _=>?_)
 rcases List.eq_nil_or_concat out with rfl | ⟨o,x,hox⟩
 ·refine aA ?_
  refine DK.nil ⟨by kernel_rfl,?_⟩;refine aA ?_;refine⟨[],sgJ (gH [] p) (.lp L caps .busy none),?_,caps,rfl,rfl,.inr rfl⟩;exact Sub.wl [] [[(0,0)],[(1,0)],[(2,0)],[(3,0)],[(6,0)]]
 ·rw[List.concat_eq_append] at hox
  subst hox;have hob:=h2 x (by simp);obtain⟨a,l⟩:=x
  have hr:cW (enR (o++[(a,l)])) ((o.length:Nat):Int)=some [iv a,iv l]:=by
   rw[iH (o++[(a,l)]) o.length (by simp)];simp
  have hln:(o++[(a,l)]).length=o.length+1:=by simp
  unfold sgI;rw[hln] at hol ⊢;replace hob:(-2000000≤a∧a≤2000000)∧0≤l∧l≤100000:=hob;refine aA ?_;rw[Av.wrap_small (show -9223372036854775808≤a+l by omega) (by omega)];refine DK.nil ⟨by kernel_rfl,?_⟩;refine aA ?_;refine AWP.condN (a+l=p) rfl rfl (fun h=>?_) (fun h=>?_)
  ·rw[eL (x:=(a,l)) h]
   refine aA ?_;refine⟨[],sgI (o++[(a,l+1)]) (.lp L caps .busy none),?_,caps,rfl,rfl,.inl rfl⟩;unfold sgI;rw[show(o++[(a,l+1)]).length=o.length+1 by simp];have ew:IntKind.i64.wrap (l+1)=l+1:=Av.wrap_small (by omega) (by omega);rw[ew]
   (apply Sub.to [] [[(0,0)],[(1,0)],[(2,0)],[(3,0)]]; all_goals (repeat' (first | exact aY.nil | exact aI.nil | exact bK.nil | exact ToL.nil | exact ToR.nil | refine aY.cons ?_ ?_ | refine aI.cons ?_ ?_ | refine fN ?_ ?_ | exact To.undef _ | exact To.sc _ | exact To.hslL rfl rfl | exact To.asl _ _ _ _ _ _ _ rfl | refine To.ifc _ _ _ ?_ | exact To.ptrO rfl rfl rfl | exact To.mrefO rfl | exact To.nil rfl rfl rfl | exact wt1 | exact To.nilL | refine To.int ?_ | refine To.bool ?_ | refine To.hslL rfl ?_ | refine wt2 rfl ?_ ?_ ?_ | refine To.tupL ?_ | refine To.aggL ?_ | refine To.cptrL ?_ | refine To.fzp rfl rfl rfl ?_ | refine To.fzm rfl rfl ?_ | refine To.cloL ?_ ?_ | refine wt3 ?_ | refine wt4 ?_ | exact wt5 | refine wt6 ?_ | refine ToB.one ?_ | exact wt7 | ((with_reducible apply ToL.consE); case e9=>rfl) | refine wt8 ?_ | refine ToL.cons ?_ ?_ | exact wt11 | refine wt9 ?_ ?_ | refine gM ?_ | exact .yld _ _ _ _ rfl | exact .dead _ | exact hlp _ _ _ _ rfl rfl rfl | exact hlp _ _ _ rfl rfl rfl | exact hlp _ _ _ rfl rfl | exact hlp _ _ _ rfl | (with_reducible rfl) | assumption)); all_goals (first | rfl | assumption | (simp; done) | (simp; omega) | (rw[wrap_small (by omega) (by omega)]; done) | (rw[wrap_small (by omega) (by omega)]; omega) | (refine congrArg Nat.cast ?_; assumption) | omega | (exact Av.wrap_small (by omega) (by omega)) | skip))
   all_goals first | exact hlp _ _ _ rfl rfl | exact .dead _ | exact y4 (y:=(a,l+1)) rfl
  ·rw[fH (x:=(a,l)) h]
   refine aA ?_;refine⟨[],sgJ (o++[(a,l)]++[(p,1)]) (.lp L caps .busy none),?_,caps,rfl,rfl,.inr rfl⟩;unfold sgJ;rw[show(o++[(a,l)]++[(p,1)]:List (Int×Int)).length=o.length+1+1 by simp]
   have hz9:enR (o++[(a,l)])++[[iv p,iv 1]]=enR (o++[(a,l)]++[(p,1)]):=by simp[enR]
   exact Sub.wl [] [[(0,0)],[(1,0)],[(2,0)],[(3,0)],[(6,0)]]
theorem d6 (l:List Int) (p:Int):bY (l++[p])=gH (bY l) p:=by simp[bY]
theorem nJ (P:Int→Prop):∀(n:Nat) (l:List Int),l.length=n→(∀ p∈l,P p)→(bY l).length≤n∧∀ x∈bY l,P x.1∧0 < x.2∧x.2≤n
 | 0,l,hl,_=>by
  obtain rfl:l=[]:=List.length_eq_zero_iff.1 hl;exact⟨Nat.le_refl _,fun x hx=>by cases hx⟩
 | n+1,l,hl,h=>by
  rcases List.eq_nil_or_concat l with rfl | ⟨o,p,ho⟩
  ·cases hl
  rw[List.concat_eq_append] at ho;subst ho
  have hol:o.length=n:=by simpa using hl
  obtain⟨i1,i2⟩:=nJ P n o hol fun q hq=>h q (by simp[hq])
  have hp:=h p (by simp);rw[d6]
  rcases List.eq_nil_or_concat (bY o) with e | ⟨s,x,e⟩
  ·rw[e]
   refine⟨by simp[gH],fun x hx=>?_⟩;rw[show gH [] p=[(p,1)] from rfl] at hx;rw[List.mem_singleton.1 hx];exact⟨hp,by show(0:Int) < 1; omega,by show(1:Int)≤_; omega⟩
  ·rw[List.concat_eq_append] at e
   rw[e] at i1 i2 ⊢;have hx:=i2 x (by simp);simp only[lAp,List.length_singleton] at i1
   by_cases hq:x.1+x.2=p
   ·rw[eL hq]
    refine⟨by simp; omega,fun y hy=>?_⟩
    rcases List.mem_append.1 hy with hy | hy
    ·have:=i2 y (by simp[hy])
     exact⟨this.1,this.2.1,by have:=this.2.2; omega⟩
    ·rw[List.mem_singleton.1 hy]
     exact⟨hx.1,by show 0 < x.2+1; omega,by show x.2+1≤_; omega⟩
   ·rw[fH hq]
    refine⟨by simp; omega,fun y hy=>?_⟩
    rcases List.mem_append.1 hy with hy | hy
    ·have:=i2 y hy
     exact⟨this.1,this.2.1,by have:=this.2.2; omega⟩
    ·rw[List.mem_singleton.1 hy]
     exact⟨hp,by show(0:Int) < 1; omega,by show(1:Int)≤_; omega⟩
def sgE (x:Blk):Heap:=[[.cells 1 [[.sc (.slice none 0 0)]]],[.cells 1 [[.sc (.slice none 0 0)]]],[x]]
theorem xK (es:List (Int×Int)):∀ i,i≤es.length→(dX (cP es) i 0).length=bI (es.take i)
 | 0,_=>by simp[dX,bI]
 | i+1,h=>by
  have hi:i < es.length:=by omega
  have h1:=xK es i (by omega);rw[← jY (j:=(cP es i).length) rfl];unfold dX at h1 ⊢;rw[List.take_length];rw[List.take_zero,List.append_nil] at h1;rw[lAp,h1,dA hi,iI];simp[cP,hi]
theorem F5 {L:LC} {c:AV} {es:List (Int×Int)} (hc:PV c) (hL:LOK Tryz.prog F151.n L [13,14] (rfA D2) (rfB D2)) (hn:es.length≤4096) (hb:∀ y∈es,-mP≤y.2∧y.2≤mP):
  aE Tryz.prog 202 [.yld 2 0,.cptr [.list 2 (enR es)]] (sgE (.lp L (sgF (bI es) c) .ready none)) fun _ H'=>H'=sgI (bY (cO es)) (.lp L (sgF (bI es) c) .ready none):=by
 have hlp:∀(T:AV→AV→Prop) (ρ:Nat→Nat→Option (Nat×Nat)) (st:LoopState),ρ 0 0=some (0,0)→ρ 1 0=some (1,0)→ToB T ρ (.lp L (sgF (bI es) c) st none) (.lp L (sgF (bI es) c) st none):=fun T ρ st=>OL hc
 have hel:=dH es;have hN:=gR es;unfold mP at hb
 have hpb:∀ i j,i < es.length→∀ p∈dX (cP es) i j,-2000000≤p∧p≤2000000:=fun i j hi p hp=>by
  have key:∀ i,i < es.length→∀ p∈cP es i,-2000000≤p∧p≤2000000:=fun i hi p hp=>by
   obtain⟨j,hj,rfl⟩:=List.mem_map.1 hp;have h1:=hb es[i] (gMe _);have h2:=hZ (es.getD i (0,0)).1;have h3:=List.mem_range.1 hj
   have h4:es.getD i (0,0)=es[i]:=by simp[hi]
   rw[h4] at h2 h3 ⊢;omega
  rcases List.mem_append.1 hp with hp | hp
  ·obtain⟨q,hq,hp⟩:=List.mem_flatMap.1 hp
   exact key q (by have:=List.mem_range.1 hq; omega) p hp
  ·exact key i hi p (List.mem_of_mem_take hp)
 refine aE.of OK ?_ (nlB rfl);refine aA ?_;refine AWP.loop (fun i:Nat=>[(0,.yld 2 0),(1,.cptr [.list 2 (enR es)]),(3,iv (dX (cP es) i 0).length),(7,.list 2 (enR es)),(8,iv es.length),(9,iv i)]) (fun i=>sgI (bY (dX (cP es) i 0)) (.lp L (sgF (bI es) c) .ready none)) (fun i=>i≤es.length) (fun i=>es.length - i) 0 (nZl _) ?_ ?_
 ·rw[← hel,lV]
  exact Sub.wl [2] [[(0,0)],[(1,0)],[(2,0)],[(3,0)]]
 rintro i hi;refine cT ?_;refine AWP.condN (i < es.length) rfl rfl (fun h=>?_) (fun h=>?_)
 ·have hr:=iH es i h
  have w:=oY es[i].1;have hle:=xK es (i+1) (by omega);rw[dA h,iI] at hle
  have hle2:bI (es.take i)+bH es[i].1≤bI es:=by
   have e1:∀ a b:List (Int×Int),bI (a++b)=bI a+bI b:=fun a b=>by simp[bI]
   have e2:=e1 (es.take (i+1)) (es.drop (i+1));rw[List.take_append_drop,dA h,iI] at e2;omega
  have hl0:=xK es i hi
  have hfi:cP es i=(List.range (bH es[i].1)).map fun j:Nat=>es[i].2+j:=by simp[cP,h]
  have hx:=hb es[i] (gMe _);have hs8:=hZ es[i].1;generalize es[i].1=kd at *;generalize es[i].2=a at *;generalize bH kd=M at *
  have hfl:(cP es i).length=M:=by rw[hfi]; simp
  have hfg:∀ j,j < M→(cP es i)[j]?=some (a+j):=fun j hj=>by rw[hfi]; simp[hj]
  have hpl:∀ j,j≤M→(dX (cP es) i j).length=bI (es.take i)+j:=fun j hj=>by
   unfold dX at hl0 ⊢;rw[List.take_zero,List.append_nil] at hl0;rw[lAp,hl0,List.length_take,hfl];omega
  refine cT ?_;refine AWP.loop (fun j:Nat=>[(0,.yld 2 0),(1,.cptr [.list 2 (enR es)]),(3,iv (dX (cP es) i j).length),(5,.cptr [iv kd,iv a]),(7,.list 2 (enR es)),(8,iv es.length),(9,iv i),(15,iv M),(16,iv j)]) (fun j=>sgI (bY (dX (cP es) i j)) (.lp L (sgF (bI es) c) .ready none)) (fun j=>j≤M) (fun j=>M - j) 0 (nZl _) ?_ ?_
  ·exact Sub.wl [] [[(0,0)],[(1,0)],[(2,0)],[(3,0)]]
  rintro j hj;refine cT ?_;refine AWP.condN (j < M) rfl rfl (fun h2=>?_) (fun h2=>?_)
  ·have hsg:sgB (bY (dX (cP es) i j)):=by
    obtain⟨g1,g2⟩:=nJ (fun p=>-2000000≤p∧p≤2000000) _ (dX (cP es) i j) rfl (hpb i j h);have:=hpl j hj;exact⟨by omega,fun x hx=>⟨(g2 x hx).1,by have:=(g2 x hx).2; omega⟩⟩
   have hlj:=hpl j hj;have hsn:=d6 (dX (cP es) i j) (a+j);rw[← gV (hfg j h2)] at hsn;have hlj2:=hpl (j+1) h2;generalize dX (cP es) i j=q at *;generalize bY q=out at *;refine AWP.skip ?_;refine AWP.seq ?_;refine AWP.block ?_;refine AWP.seq ?_;refine AWP.region ?_;refine vD ?_;refine AWP.seq ?_;refine AWP.seq ?_;refine AWP.rG rfl ?_;refine aA ?_;rw[Av.wrap_small (show -9223372036854775808≤a+(j:Int) by omega) (by omega)];refine⟨rfl,nlB rfl,2,0,rfl,?_⟩;refine(IG hc hL out q.length (a+j) (by omega) (by omega) hsg (by omega)).mono ?_;rintro b' H' ⟨rfl,hH⟩;rw[← hsn] at hH
   rcases hH with rfl | rfl
   ·refine aA ?_
    refine⟨j+1,by omega,by omega,?_⟩;exact Sub.wl [] [[(0,0)],[(1,0)],[(2,0)],[(3,0)]]
   ·refine aA ?_
    refine⟨j+1,by omega,by omega,?_⟩;exact Sub.wl [] [[(0,0)],[(1,0)],[(2,0)],[(4,0)]]
  ·obtain rfl:M=j:=by omega
   rw[jY hfl];refine aA ?_;refine⟨i+1,by omega,by omega,?_⟩;exact Sub.wl [] [[(0,0)],[(1,0)],[(2,0)],[(3,0)]]
 ·obtain rfl:es.length=i:=by omega
  rw[← mJ];refine aA ?_;refine iY (res':=.tup []) [[(0,0)],[(1,0)],[(2,0)],[(3,0)]] (.inl rfl) rfl rfl ?_ ?_ rfl rfl rfl
  (all_goals exact g8)
  all_goals first | exact hlp _ _ _ rfl rfl | exact .dead _
theorem GK (es:List (Int×Int)):aC Tryz.prog 177 [.list 2 (enR es)] (.clo (.func 202) [] [.cptr [.list 2 (enR es)]]):=by
 refine aC.mkI NU (nlB rfl) ?_;refine aA ?_;exact aG.w
theorem LS (es:List (Int×Int)) (hn:es.length≤4096) (hb:∀ y∈es,-mP≤y.2∧y.2≤mP):aC Tryz.prog 151 [.list 2 (enR es),iv 0,iv (bI es)] (.list 2 (enR (bY (cO es)))):=by
 refine aC.mkI OH (nlB rfl) ?_;have hp:=GK es;refine aA ?_;refine AWP.sub (fr':=sgF (bI es) (.clo (.func 202) [] [.cptr [.list 2 (enR es)]])) (H':=[[.cells 1 [[.sc (.slice none 0 0)]]],[.cells 1 [[.sc (.slice none 0 0)]]]]) ?_ ?_
 ·unfold sgF
  exact Sub.wl [] [[(2,0)],[(3,0)]]
 refine AWP.rangeF (g:=202) (fs:=[]) (cs:=[.cptr [.list 2 (enR es)]]) rfl (nZl _) rfl fun L hL=>?_
 refine(F5 inferInstance hL hn hb).mono ?_;rintro res H' rfl;refine⟨_,_,none,rfl,by decide,?_⟩;have hol:=dH (bY (cO es));unfold sgF;refine aA ?_;exact aG.w
theorem yJ {t:Ty} (h:iK 8 t):aC Tryz.prog 124 [.agg (tyR t),iv 1] (.tup [.list 2 (enR (bY (cO (bF t).2.es))),iv (bF t).1]):=by
 refine aC.mkI O2 (nlB rfl) ?_;have he:=zS h;have hl:=j8 h
 have hb:∀ y∈(bF t).2.es,-mP≤y.2∧y.2≤mP:=by
  by_cases h0:(bF t).1=0
  ·exact(j5 h h0).2.2.2.2.2.2.2.2
  ·rw[nV h0]
   exact fun y hy=>by cases hy
 generalize (bF t).1=e at *;generalize (bF t).2.es=es at *;have h1:=J0 es hl;have h2:=LS es hl hb;obtain⟨_,_,_,_,_,_,_,_,_,_,rfl,_⟩:=cK h;rw[tyR] at he ⊢;refine aA ?_;exact aG.w
def exF (l:List (Int×Int)) (i:Nat):List Int:=(List.range (l.getD i (0,0)).2.toNat).map fun j:Nat=>(l.getD i (0,0)).1+j
def exP (l:List (Int×Int)):List Int:=(List.range l.length).flatMap (exF l)
theorem iB (l:List (Int×Int)):exP l=l.flatMap fun x:Int×Int=>(List.range x.2.toNat).map fun j:Nat=>(x.1+(j:Int):Int):=by
 have key:∀(l m:List (Int×Int)),(List.range l.length).flatMap (fun i=>exF (m++l) (m.length+i))=l.flatMap fun x:Int×Int=>(List.range x.2.toNat).map fun j:Nat=>(x.1+(j:Int):Int):=by
  intro l
  induction l with
  | nil=>exact fun m=>rfl
  | cons x l ih=>
   intro m;rw[List.length_cons,List.range_succ_eq_map,List.flatMap_cons,List.flatMap_cons];congr 1
   ·unfold exF
    simp
   ·rw[List.flatMap_map]
    have:=ih (m++[x]);rw[List.append_assoc,lAp,List.length_singleton] at this;rw[← this];congr 1
    funext i
    rw[Nat.succ_eq_add_one,Nat.add_assoc,Nat.add_comm 1 i];rfl
 have:=key l []
 simpa[exP] using this
theorem xN:∀(n:Nat) (l:List Int),l.length=n→exP (bY l)=l
 | 0,l,hl=>by
  obtain rfl:l=[]:=List.length_eq_zero_iff.1 hl;rfl
 | n+1,l,hl=>by
  rcases List.eq_nil_or_concat l with rfl | ⟨o,p,ho⟩
  ·cases hl
  rw[List.concat_eq_append] at ho;subst ho
  have hol:o.length=n:=by simpa using hl
  have ih:=xN n o hol;have hb:=(nJ (fun _=>True) n o hol fun _ _=>trivial).2;rw[d6]
  rcases List.eq_nil_or_concat (bY o) with e | ⟨s,x,e⟩
  ·rw[e] at ih ⊢
   rw[← ih];simp[iB,gH]
  ·rw[List.concat_eq_append] at e
   rw[e] at ih hb ⊢;have hx:=(hb x (by simp)).2.1;rw[iB,List.flatMap_append] at ih;obtain⟨a,m⟩:=x;replace hx:0 < m:=hx
   by_cases hq:a+m=p
   ·rw[eL (x:=(a,m)) hq,iB,List.flatMap_append,← ih,List.append_assoc]
    congr 1;simp only[List.flatMap_cons,List.flatMap_nil,List.append_nil];rw[show(m+1).toNat=m.toNat+1 by omega,List.range_succ,List.map_append];congr 1;simp;omega
   ·rw[fH (x:=(a,m)) hq,iB,List.flatMap_append,List.flatMap_append,ih]
    simp
def csF (c:AV):Fr:=[(2,.ptr 0 0 0 0),(6,c)]
def csE (x:Blk):Heap:=[[.cells 1 [[.sc (.slice none 0 0)]]],[x]]
def csI (out:List Int) (x:Blk):Heap:=[[.cells 1 [[.hsl 2 0 0 out.length]]],[x],[.cells 1 (inR out)]]
def csJ (out:List Int) (x:Blk):Heap:=[[.cells 1 [[.hsl 3 0 0 out.length]]],[x],[.dead],[.cells 1 (inR out)]]
noncomputable def DC:bL:=i6 [1,0,1,0] F153.code
theorem NW {T:AV→AV→Prop} {ρ:Nat→Nat→Option (Nat×Nat)} {c:AV} {L:LC} {st:LoopState} {pe:Option Code} (hc:PV c) (r0:ρ 0 0=some (0,0)):ToB T ρ (.lp L (csF c) st pe) (.lp L (csF c) st pe):=by
 refine ToB.lp _ _ _ _ _ fun x hx=>?_
 simp only[csF,List.mem_cons,List.not_mem_nil,or_false] at hx
 rcases hx with rfl | rfl
 ·exact To.ptrO r0 rfl rfl
 ·exact To.pure hc.out
theorem LQ {L:LC} {c:AV} (hc:PV c) (hL:LOK Tryz.prog F153.n L [7] (rfA DC) (rfB DC)) (out:List Int) (p:Int) (ho:out.length≤1000000):
  dQ Tryz.prog 1 0 [iv p] (csI out (.lp L (csF c) .ready none)) fun b H'=>b=true∧H'=csJ (out++[p]) (.lp L (csF c) .ready none):=by
 refine fY.g ?_;refine⟨L,_,_,_,_,_,hL,rfl,rfl,?_⟩;show AWP _ _ _ (.region _) _ _ _
 have hlp:∀(T:AV→AV→Prop) (ρ:Nat→Nat→Option (Nat×Nat)) (st:LoopState),ρ 0 0=some (0,0)→ToB T ρ (.lp L (csF c) st none) (.lp L (csF c) st none):=fun T ρ st=>NW hc
 obtain⟨caps,hcaps⟩:∃ caps,caps=csF c:=⟨_,rfl⟩
 rw[← hcaps] at hlp ⊢;rw[show putL caps ([7].zip [iv p])=(7,iv p)::csF c by rw[hcaps]; rfl];unfold csF;have hol:=cH out;refine aA ?_;refine⟨rfl,caps,rfl,?_⟩;show AWP _ _ _ (.block 1 _) _ _ _;refine AWP.fin ?_;refine aA ?_;refine⟨[],csJ (out++[p]) (.lp L caps .busy none),?_,caps,rfl,rfl,rfl⟩;unfold csJ;rw[lAp]
 have hz9:inR out++[[iv p]]=inR (out++[p]):=by simp[inR]
 exact Sub.wl [] [[(0,0)],[(1,0)],[(2,0)],[(4,0)]]
theorem MR {L:LC} {c:AV} {l:List (Int×Int)} (hc:PV c) (hL:LOK Tryz.prog F153.n L [7] (rfA DC) (rfB DC)) (hn:l.length≤100000) (hb:∀ x∈l,(-2000000≤x.1∧x.1≤2000000)∧0≤x.2∧x.2≤100000) (hx:(exP l).length≤100000):
  aE Tryz.prog 138 [.yld 1 0,.cptr [.list 2 (enR l)]] (csE (.lp L (csF c) .ready none)) fun _ H'=>H'=csI (exP l) (.lp L (csF c) .ready none):=by
 have hlp:∀(T:AV→AV→Prop) (ρ:Nat→Nat→Option (Nat×Nat)) (st:LoopState),ρ 0 0=some (0,0)→ToB T ρ (.lp L (csF c) st none) (.lp L (csF c) st none):=fun T ρ st=>NW hc
 have hel:=dH l;refine aE.of NQ ?_ (nlB rfl);refine aA ?_;refine AWP.loop (fun i:Nat=>[(0,.yld 1 0),(1,.cptr [.list 2 (enR l)]),(6,.list 2 (enR l)),(7,iv l.length),(8,iv i)]) (fun i=>csI (dX (exF l) i 0) (.lp L (csF c) .ready none)) (fun i=>i≤l.length) (fun i=>l.length - i) 0 (nZl _) ?_ ?_
 ·rw[← hel,lV]
  exact Sub.wl [1] [[(0,0)],[(1,0)],[(2,0)]]
 rintro i hi;refine cT ?_;refine AWP.condN (i < l.length) rfl rfl (fun h=>?_) (fun h=>?_)
 ·have hr:=iH l i h
  have hle:∀ j,(dX (exF l) i j).length≤100000:=fun j=>by
   obtain⟨r,hr⟩:=xF (f:=exF l) (j:=j) h
   have:(exP l).length=(dX (exF l) i j).length+r.length:=by
    unfold exP;rw[hr,lAp]
   omega
  have hfi:exF l i=(List.range l[i].2.toNat).map fun j:Nat=>l[i].1+j:=by simp[exF,h]
  have hxb:=hb l[i] (gMe _);generalize l[i].1=a at *;generalize l[i].2=m at *
  obtain⟨M,rfl⟩:∃ M:Nat,m=M:=⟨m.toNat,by omega⟩
  rw[Int.toNat_natCast] at hfi
  have hfl:(exF l i).length=M:=by rw[hfi]; simp
  have hfg:∀ j,j < M→(exF l i)[j]?=some (a+j):=fun j hj=>by rw[hfi]; simp[hj]
  refine cT ?_;refine AWP.loop (fun j:Nat=>[(0,.yld 1 0),(1,.cptr [.list 2 (enR l)]),(4,.cptr [iv a,iv M]),(6,.list 2 (enR l)),(7,iv l.length),(8,iv i),(13,iv M),(14,iv j)]) (fun j=>csI (dX (exF l) i j) (.lp L (csF c) .ready none)) (fun j=>j≤M) (fun j=>M - j) 0 (nZl _) ?_ ?_
  ·exact Sub.wl [] [[(0,0)],[(1,0)],[(2,0)]]
  rintro j hj;refine cT ?_;refine AWP.condN (j < M) rfl rfl (fun h2=>?_) (fun h2=>?_)
  ·have hl1:=hle j
   have hsn:=gV (hfg j h2);refine AWP.skip ?_;refine AWP.seq ?_;refine AWP.block ?_;refine AWP.seq ?_;refine AWP.region ?_;refine vD ?_;refine AWP.seq ?_;refine AWP.rG rfl ?_;refine aA ?_;rw[Av.wrap_small (show -9223372036854775808≤a+(j:Int) by omega) (by omega)];refine⟨rfl,nlB rfl,1,0,rfl,?_⟩;refine(LQ hc hL (dX (exF l) i j) (a+j) (by omega)).mono ?_;rintro b' H' ⟨rfl,hH⟩;rw[← hsn] at hH;subst hH;refine aA ?_;refine⟨j+1,by omega,by omega,?_⟩;exact Sub.wl [] [[(0,0)],[(1,0)],[(3,0)]]
  ·obtain rfl:M=j:=by omega
   rw[jY hfl];refine aA ?_;refine⟨i+1,by omega,by omega,?_⟩;exact Sub.wl [] [[(0,0)],[(1,0)],[(2,0)]]
 ·obtain rfl:l.length=i:=by omega
  rw[← mJ];refine aA ?_;refine iY (res':=.tup []) [[(0,0)],[(1,0)],[(2,0)]] (.inl rfl) rfl rfl ?_ ?_ rfl rfl rfl
  (all_goals exact g8)
  all_goals first | exact hlp _ _ _ rfl | exact .dead _
theorem IT (l:List (Int×Int)):aC Tryz.prog 88 [.list 2 (enR l)] (.clo (.func 138) [] [.cptr [.list 2 (enR l)]]):=by
 refine aC.mkI cF88 (nlB rfl) ?_;refine aA ?_;exact aG.w
theorem FC (l:List (Int×Int)) (hn:l.length≤100000) (hb:∀ x∈l,(-2000000≤x.1∧x.1≤2000000)∧0≤x.2∧x.2≤100000) (hx:(exP l).length≤100000):aC Tryz.prog 153 [.sc (.slice none 0 0),.clo (.func 138) [] [.cptr [.list 2 (enR l)]]] (.list 1 (inR (exP l))):=by
 refine aC.mkI HX (nlB rfl) ?_;refine aA ?_;refine AWP.sub (fr':=csF (.clo (.func 138) [] [.cptr [.list 2 (enR l)]])) (H':=[[.cells 1 [[.sc (.slice none 0 0)]]]]) ?_ ?_
 ·unfold csF
  exact Sub.wl [] [[(0,0)]]
 refine AWP.rangeF (g:=138) (fs:=[]) (cs:=[.cptr [.list 2 (enR l)]]) rfl (nZl _) rfl fun L hL=>?_
 refine(MR inferInstance hL hn hb hx).mono ?_;rintro res H' rfl;refine⟨_,_,none,rfl,by decide,?_⟩;have hol:=cH (exP l);unfold csF;refine aA ?_;exact aG.w
theorem K9 (l:List (Int×Int)) (hn:l.length≤100000) (hb:∀ x∈l,(-2000000≤x.1∧x.1≤2000000)∧0≤x.2∧x.2≤100000) (hx:(exP l).length≤100000):aC Tryz.prog 125 [.clo (.func 138) [] [.cptr [.list 2 (enR l)]]] (.list 1 (inR (exP l))):=by
 refine aC.mkI JD (nlB rfl) ?_;have h:=FC l hn hb hx;refine aA ?_;exact aG.w
end Go.Proofs.YtgdocflpobncmaaGreat
