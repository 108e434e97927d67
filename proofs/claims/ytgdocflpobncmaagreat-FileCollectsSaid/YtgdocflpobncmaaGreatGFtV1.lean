import Derived.Test.YtgdocflpobncmaaGreatGFtH1
import Derived.Test.YtgdocflpobncmaaGreatGFtE5
import Derived.Test.YtgdocflpobncmaaGreatGFtG5
set_option maxHeartbeats 4000000
namespace Go.Proofs.YtgdocflpobncmaaGreat
open Go.Av Go.Proofs
theorem FQ {sz bl pl:List Int} {e:Int}:∀(F:Nat) (a:List Nat),a.length=sz.length→okD bl sz.length a→F=prS bl sz.length - rkS bl a sz.length→(dX sz bl pl e F a).length=F
 | 0,_,_,_,_=>rfl
 | F+1,a,hl,ho,hF=>by
  have hs:=qJ sz.length a (Nat.le_refl _) hl ho;rw[dX,List.length_cons]
  cases hi:jJ bl sz.length a with
  | none=>
   rw[hi] at hs;simp only at hs ⊢;have:=C9 ho;rw[List.length_nil];omega
  | some b=>
   rw[hi] at hs;obtain⟨h1,_,h3,h4⟩:=hs;simp only;rw[FQ F b h1 h3 (by omega)]
theorem zL {sz bl pl:List Int} {e:Int}:∀(F:Nat) (a:List Nat) (m:Int×Int),m∈dX sz bl pl e F a→∃ a',m=(0,tT sz pl a' * e)
 | 0,_,_,h=>by cases h
 | F+1,a,m,h=>by
  rw[dX] at h
  rcases List.mem_cons.1 h with h | h
  ·exact⟨a,h⟩
  ·cases hi:jJ bl sz.length a with
   | none=>rw[hi] at h; cases h
   | some b=>rw[hi] at h; exact zL F b m h
theorem EV {sz bl pl:List Int} (hs:xA sz bl pl=true) (a:List Nat):∀ k,k≤sz.length→0≤hO sz pl a k∧hO sz pl a k≤huge
 | 0,_=>⟨by simp[hO],by simp[hO,huge]⟩
 | k+1,hk=>by
  obtain⟨i1,i2⟩:=EV hs a k (by omega);have h:=List.all_eq_true.1 hs k (List.mem_range.2 (by omega));simp only[aJ,bAe,decide_eq_true_eq] at h;have:=Int.mul_nonneg i1 (show 0≤sz.getD k 0 by omega);rw[nV];unfold huge at *;omega
theorem y5:∀(bl:List Int) (n:Nat),(∀ x∈bl,1≤x)→(lI bl (n:Int)≤4096↔(bl.map Int.toNat).foldl (· * ·) 1 * n≤4096)∧0≤lI bl n
 | [],n,_=>by
  simp only[lI,List.map_nil,List.foldl_nil];omega
 | x::xs,n,h=>by
  have h1:=h x (by simp)
  have hf:∀(l:List Nat) (a:Nat),l.foldl (· * ·) a=a * l.foldl (· * ·) 1:=fun l=>by
   induction l with
   | nil=>intro a; simp
   | cons y l ih=>intro a; rw[List.foldl_cons,List.foldl_cons,ih,ih (1 * y),Nat.one_mul,Nat.mul_assoc]
  have hp:∀(l:List Int),(∀ y∈l,1≤y)→1≤(l.map Int.toNat).foldl (· * ·) 1:=fun l=>by
   induction l with
   | nil=>intro _; simp
   | cons y l ih=>
    intro hy;rw[List.map_cons,List.foldl_cons,hf,Nat.one_mul];exact Nat.mul_le_mul (show 1≤y.toNat by have:=hy y (by simp); omega) (ih fun z hz=>hy z (by simp[hz]))
  rw[lI,List.map_cons,List.foldl_cons,hf,Nat.one_mul]
  by_cases q:(n:Int)≤4096
  ·rw[if_pos q]
   obtain⟨X,rfl⟩:∃ X:Nat,x=X:=⟨x.toNat,by omega⟩
   have ih:=y5 xs (n * X) fun y hy=>h y (by simp[hy])
   rw[Int.natCast_mul] at ih;rw[Int.toNat_natCast,show X * (xs.map Int.toNat).foldl (· * ·) 1 * n=(xs.map Int.toNat).foldl (· * ·) 1 * (n * X) by rw[Nat.mul_comm X,Nat.mul_assoc,Nat.mul_comm X n]];exact ih
  ·rw[if_neg q]
   refine⟨⟨fun h=>absurd h q,fun h9=>?_⟩,by omega⟩
   have h2:=hp xs fun y hy=>h y (by simp[hy])
   have h3:1 * 1≤x.toNat * (xs.map Int.toNat).foldl (· * ·) 1:=Nat.mul_le_mul (by omega) h2;have h4:=Nat.mul_le_mul_right n h3;omega
theorem I7 {sz bl pl:List Int} {e:Int} (h1:bl.length=sz.length) (h2:∀ i,i < bl.length→1≤bl.getD i 0):(gT sz bl pl e).length=(bl.map Int.toNat).foldl (· * ·) 1:=by
 have hp:=mY (bl:=bl) (Nat.le_refl _);rw[List.take_length] at hp;unfold gT;rw[hp];have hr:=uA (bl:=bl) (n:=sz.length) (k:=sz.length);refine FQ _ _ List.length_replicate (fun i hi=>?_) (by rw[hr,h1]; rfl);rw[show(List.replicate sz.length 0).getD i 0=0 by simp[List.getD_eq_getElem?_getD,hi]];have:=h2 i (by omega);omega
theorem tot11 {of:List Shp} {sz bl pl:List Int} {e:Int} (h1:bl.length=sz.length) (h2:∀ i,i < bl.length→1≤bl.getD i 0):(lI bl (fE of 0)≤4096↔eG of (gT sz bl pl e)≤4096):=by
 rw[nR (fun m hm=>by
  obtain⟨a,rfl⟩:=zL _ _ m hm
  rfl),I7 h1 h2]
 exact(y5 bl (fE of 0) fun x hx=>by
  obtain⟨i,hi,rfl⟩:=List.getElem_of_mem hx;have:=h2 i hi
  simpa[hi] using this).1
theorem bld10 (l:List Shp) (e:Int):(cP l (bI 0 e)).es=(l.getD 0 shp0).es:=by
 rw[show bI 0 e=[(0,0 * e)] from rfl];show[]++(l.getD 0 shp0).es.map (fun y=>(y.1,y.2+0 * e))=_;simp
set_option maxRecDepth 20000
def atP (pl:List Int) (a:List Nat):List Int:=List.zipWith (fun(p:Int) (x:Nat)=>p+x) pl a
theorem GL {pl:List Int} {a:List Nat} (h:a.length=pl.length):(inR (atP pl a)).length=a.length:=by simp[inR,atP,h]
theorem qZ {pl:List Int} {a:List Nat} {k:Nat} (h:a.length=pl.length) (hk:k < a.length):(inR (atP pl a))[k]?=some [iv (pl.getD k 0+(a.getD k 0:Nat))]:=by
 have hp:k < pl.length:=by omega
 have e:(atP pl a)[k]?=some (pl.getD k 0+(a.getD k 0:Nat)):=by
  unfold atP;rw[List.getElem?_zipWith,gEg hp,gEg hk];simp[hp,hk]
 unfold inR;rw[List.getElem?_map,e];rfl
theorem zH {pl:List Int} {a:List Nat} {k:Nat} {v:Nat} (h:a.length=pl.length) (hk:k < a.length):(inR (atP pl a)).set k [iv (pl.getD k 0+(v:Nat))]=inR (atP pl (a.set k v)):=by
 have e:∀(pl:List Int) (a:List Nat) (k:Nat),a.length=pl.length→k < a.length→(atP pl a).set k (pl.getD k 0+(v:Nat))=atP pl (a.set k v):=fun pl=>by
  induction pl with
  | nil=>intro a k h hk; simp at h; simp[h] at hk
  | cons p pl ih=>
   intro a k h hk
   cases a with
   | nil=>simp at hk
   | cons x a=>
    cases k with
    | zero=>simp[atP]
    | succ k=>
     have:=ih a k (by simpa using h) (by simpa using hk)
     simpa[atP] using this
 rw[← e pl a k h hk];unfold inR;rw[List.map_set]
theorem N2 {pl:List Int}:atP pl (List.replicate pl.length 0)=pl:=by
 unfold atP
 induction pl with
 | nil=>rfl
 | cons p pl ih=>simp[List.replicate_succ,ih]
def bHA (s:Shp) (A:List Int):Heap:=[[.cells 2 (enR s.es)],[.cells 3 [[.hsl 0 0 0 s.es.length,iv s.lo,iv s.hi]]],[.cells 3 [zS]],[.cells 1 (inR A)]]
def tY (sz:List Int) (k:Nat):Int:=(sz.take k).foldl (fun n s=>min (n * s) huge) 1
theorem yT {sz:List Int} {k:Nat} (h:k < sz.length):tY sz (k+1)=min (tY sz k * sz.getD k 0) huge:=by
 unfold tY;rw[List.take_add_one,gEg h,List.foldl_append];simp[h]
theorem zN {sz:List Int} (h:∀ i,i < sz.length→0≤sz.getD i 0):∀ k,k≤sz.length→0≤tY sz k∧tY sz k≤huge
 | 0,_=>⟨by simp[tY],by simp[tY,huge]⟩
 | k+1,hk=>by
  obtain⟨i1,i2⟩:=zN h k (by omega);rw[yT hk];have:=Int.mul_nonneg i1 (h k hk);unfold huge at *;omega
theorem OX {c b st:Int} {sz bl pl:List Int} {of:List Ty} {l:List Shp} {n:Nat} (hl:l≠[]) (hx:shB (l.getD 0 shp0)) (hn1:1≤n) (hn4:n≤4) (hsz:sz.length=n) (hbl:bl.length=n) (hpl:pl.length=n) (hsub:xA sz bl pl=true) (hn:∀ p r,gT sz bl pl (l.getD 0 shp0).ext=p++r→stB (cP l p)) (_hln:l.length≤1000000):
  aH Tryz.prog 181 [.agg (tyR (.mk 11 c b st sz bl pl of)),.list 3 (shL l)] [] fun res H'=>res=.agg (shR ⟨(cP l (gT sz bl pl (l.getD 0 shp0).ext)).es,(l.getD 0 shp0).lo,(l.getD 0 shp0).lo+w6 sz * (l.getD 0 shp0).ext⟩)∧H'=[]:=by
 rw[tyR];refine aH.of wE ?_ (nlB rfl);have hbk:=fO 11;have hl0:=List.length_pos_iff.2 hl;have r0:=kM l 0 hl0;have hll:=iY l
 have hpu:=fun s D D' E by' hs h1 h2=>@zV s (l.getD 0 shp0) by' D D' E hs hx h1 h2
 obtain⟨b1,b2,b3,b4,b5,b6,b7,b8,b9⟩:=id hx;have hexd:(l.getD 0 shp0).ext=(l.getD 0 shp0).hi - (l.getD 0 shp0).lo:=rfl
 have hsnoc:∀(p:List (Int×Int)) (u:Int),cX (cP l p) (l.getD 0 shp0) u=cP l (p++[(0,u)]):=fun p u=>by rw[nC]; rfl
 have hbs:∀ i,i < n→1≤sz.getD i 0∧sz.getD i 0≤4096∧1≤bl.getD i 0∧bl.getD i 0≤sz.getD i 0∧0≤pl.getD i 0∧pl.getD i 0≤4096:=fun i hi=>by
  have:=List.all_eq_true.1 hsub i (List.mem_range.2 (by omega));simp only[aJ,bAe,decide_eq_true_eq] at this;omega
 have hlin:=EV hsub;rw[hsz] at hlin
 have hlS:∀ a,tT sz pl a=hO sz pl a n:=fun a=>by unfold tT hO; rw[hsz]
 have hxs:gT sz bl pl (l.getD 0 shp0).ext=dX sz bl pl (l.getD 0 shp0).ext (prS bl n) (List.replicate n 0):=by
  unfold gT;rw[hsz,← hbl,← mY (Nat.le_refl _),List.take_length]
 have hsl:=bF sz;have hbll:=bF bl;have hpll:=bF pl;generalize l.getD 0 shp0=x at *;unfold shR at r0 ⊢;unfold mP at *;have g0:=hbs 0 (by omega);have p0:=dB (l:=pl) (i:=0) (by omega);have q0:=dB (l:=bl) (i:=0) (by omega);refine aA ?_;rw[Av.wrap_small (show -9223372036854775808≤x.hi - x.lo by omega) (by omega),← hexd];refine aA ?_;refine AWP.loop2 (fun(_:List Nat) (_:Shp)=>[(2,.cptr [iv 11,iv c,iv b,iv st,.list 1 (inR sz),.list 1 (inR bl),.list 1 (inR pl),.list 8 (aM of)]),(4,.ptr 2 0 0 0),(5,.ptr 1 0 0 0),(8,.cptr [.list 2 (enR x.es),iv x.lo,iv x.hi]),(9,iv x.ext),(17,.hsl 3 0 0 (n))]) (fun a s=>bHA s (atP pl a)) (fun a s=>a.length=n∧((okD bl n a∧∃ p,s=cP l p∧gT sz bl pl x.ext=p++dX sz bl pl x.ext (prS bl n - rkS bl a n) a)∨(a.getD 0 0=(bl.getD 0 0).toNat∧s=cP l (gT sz bl pl x.ext)))) (fun a _=>if a.getD 0 0 < (bl.getD 0 0).toNat then prS bl n - rkS bl a n+1 else 0) (List.replicate n 0) shp0 ⟨List.length_replicate,.inl ⟨fun i hi=>?_,[],rfl,by rw[hxs,uA]; rfl⟩⟩ ?_ ?_
 ·have:=(hbs i hi).2.2.1
  rw[show(List.replicate n 0).getD i 0=0 by simp[List.getD_eq_getElem?_getD,hi]];omega
 ·rw[← hpl,N2]
  show Sub _ _ _ _ _ [[.cells 2 []],[.cells 3 [[.hsl 0 0 0 0,iv 0,iv 0]]],[.cells 3 [zS]],[.cells 1 (inR pl)]];unfold zS;exact Sub.wl [2] [[(6,0)],[(2,0)],[(1,0)],[(5,0)]]
 rintro a s0 ⟨hla,hcase⟩;have hal:=GL (pl:=pl) (a:=a) (by omega);have ra0:=qZ (pl:=pl) (a:=a) (k:=0) (by omega) (by omega);unfold bHA;refine aA ?_;rw[Av.wrap_small (show -9223372036854775808≤pl.getD 0 0+bl.getD 0 0 by omega) (by omega)];refine DK.nil ⟨by kernel_rfl,?_⟩;refine aA ?_;refine AWP.condN (a.getD 0 0 < (bl.getD 0 0).toNat) rfl (decide_eq_decide.2 (by omega)) (fun h0=>?_) (fun h0=>?_)
 ·rcases hcase with⟨hoa,p,rfl,hall⟩ | ⟨q,_⟩
  rotate_left
  ·omega
  have hrk:=C9 hoa;rw[if_pos h0]
  obtain⟨F,hF⟩:∃ F,prS bl n - rkS bl a n=F+1:=⟨prS bl n - rkS bl a n - 1,by omega⟩
  rw[hF] at hall ⊢;refine aA ?_;refine AWP.loop (fun q:Nat=>[(2,.cptr [iv 11,iv c,iv b,iv st,.list 1 (inR sz),.list 1 (inR bl),.list 1 (inR pl),.list 8 (aM of)]),(4,.ptr 2 0 0 0),(5,.ptr 1 0 0 0),(8,.cptr [.list 2 (enR x.es),iv x.lo,iv x.hi]),(9,iv x.ext),(17,.hsl 3 0 0 (n)),(18,iv (hO sz pl a q)),(19,iv q)]) (fun _=>bHA (cP l p) (atP pl a)) (fun q=>q≤n) (fun q=>n - q) 0 (nZl _) ?_ ?_
  ·unfold bHA
   exact Sub.wl [] [[(0,0)],[(1,0)],[(2,0)],[(3,0)]]
  ·rintro q hq
   unfold bHA;refine aA ?_;refine AWP.condN (q < n) rfl rfl (fun h=>?_) (fun h=>?_)
   ·have r1:=dB (l:=sz) (i:=q) (by omega)
    have r2:=qZ (pl:=pl) (a:=a) (k:=q) (by omega) (by omega);have hl1:=hlin a q hq;have hl2:hO sz pl a (q+1)=_:=nV;obtain⟨g1,g2,g3,g4,g5,g6⟩:=hbs q h;have g7:=hoa q h;generalize hO sz pl a q=u at *;generalize sz.getD q 0=z at *;generalize pl.getD q 0=pq at *;generalize a.getD q 0=aq at *;unfold huge at hl1 hl2;have hw:=iL (a:=u) (b:=z) (A:=1099511627776) (B:=4096) (by omega) (by omega) (by omega) (by omega);refine aA ?_;rw[Av.wrap_small (show -9223372036854775808≤u * z by omega) (by omega),Av.wrap_small (show -9223372036854775808≤u * z+(pq+(aq:Nat)) by omega) (by omega)];refine DK.nil ⟨by kernel_rfl,?_⟩;refine aA ?_;refine⟨q+1,by omega,by omega,?_⟩;rw[hl2,Int.add_assoc (u * z)];exact Sub.wl [] [[(0,0)],[(1,0)],[(2,0)],[(3,0)]]
   ·obtain rfl:n=q:=by omega
    have hl1:=hlin a n (Nat.le_refl _);rw[← hlS] at hl1 ⊢
    have hxs2:dX sz bl pl x.ext (F+1) a=(0,tT sz pl a * x.ext)::match jJ bl n a with
     | some b=>dX sz bl pl x.ext F b
     | none=>[]:=by
     rw[dX,hsz]
     cases jJ bl n a<;>rfl
    have hinc:=qJ n a (Nat.le_refl _) hla hoa;have hs0:=hn p _ hall;rw[hxs2] at hall;generalize tT sz pl a=u at *;unfold huge at hl1;have hw:=iL (a:=u) (b:=x.ext) (A:=1099511627776) (B:=1048576) (by omega) (by omega) b5 b6;have hp:=hpu (cP l p) (.cells 3 [[.hsl 0 0 0 (cP l p).es.length,iv (cP l p).lo,iv (cP l p).hi]]) (.cells 3 [zS]) [.cells 1 (inR (atP pl a))] (u * x.ext) hs0 (by omega) (by omega);rw[hsnoc] at hp;generalize hs2:cP l (p++[(0,u * x.ext)])=s2 at *;generalize cP l p=s1 at *
    obtain⟨N,rfl⟩:∃ N,n=N+1:=⟨n - 1,by omega⟩
    have hN:IntKind.i64.wrap (((N+1:Nat):Int) - 1)=(N:Int):=by rw[Av.wrap_small (by omega) (by omega)]; omega
    have rN:=qZ (pl:=pl) (a:=a) (k:=N) (by omega) (by omega);have hgN:=hbs N (by omega);have hoN:=hoa N (by omega);refine aA ?_;rw[Av.wrap_small (show -9223372036854775808≤u * x.ext by omega) (by omega)];refine Reg.c (nZl _) rfl (hp.mono ?_);rintro res H' ⟨rfl,rfl⟩;refine aA ?_
    have hz9:(inR (atP pl a)).set (N+1 - 1) ([iv (pl.getD N 0+(a.getD N 0:Nat))].set 0 (.sc (.int .i64 (IntKind.i64.wrap (pl.getD N 0+(a.getD N 0:Nat)+1)))))=inR (atP pl (a.set N (a.getD N 0+1))):=by
     rw[Av.wrap_small (by omega) (by omega),← zH (v:=a.getD N 0+1) (by omega) (by omega),Int.add_assoc];rfl
    refine AWP.loop2 (fun(kk:Nat) (_:List Nat)=>[(2,.cptr [iv 11,iv c,iv b,iv st,.list 1 (inR sz),.list 1 (inR bl),.list 1 (inR pl),.list 8 (aM of)]),(4,.ptr 2 0 0 0),(5,.ptr 1 0 0 0),(8,.cptr [.list 2 (enR x.es),iv x.lo,iv x.hi]),(9,iv x.ext),(17,.hsl 3 0 0 (N+1)),(20,iv kk)]) (fun _ a2=>bHA s2 (atP pl a2)) (fun kk a2=>kk < N+1∧∃ b',a2=b'.set kk (b'.getD kk 0+1)∧b'.length=N+1∧okD bl (kk+1) b'∧jJ bl (kk+1) b'=jJ bl (N+1) a) (fun kk _=>kk) N (a.set N (a.getD N 0+1)) ⟨by omega,a,rfl,hla,hoa,rfl⟩ ?_ ?_
    ·unfold bHA
     exact Sub.wl [] [[(4,0)],[(1,0)],[(2,0)],[(3,0)]]
    rintro kk a2 ⟨hk,b',ha2,hlb,hob,hib⟩;have hbk:=hob kk (by omega);have hgk:=hbs kk hk
    have hl2:a2.length=N+1:=by rw[ha2,List.length_set]; exact hlb
    have e2:a2.getD kk 0=b'.getD kk 0+1:=by rw[ha2,d8 (by omega),if_pos rfl]
    have r2:=qZ (pl:=pl) (a:=a2) (k:=kk) (by omega) (by omega);have hal2:=GL (pl:=pl) (a:=a2) (by omega);rw[e2] at r2;have rp:=dB (l:=pl) (i:=kk) (by omega);have rb:=dB (l:=bl) (i:=kk) (by omega);unfold bHA;refine aA ?_
    by_cases h5:0 < kk
    ·rw[dTr h5]
     refine aA ?_;rw[Av.wrap_small (show -9223372036854775808≤pl.getD kk 0+bl.getD kk 0 by omega) (by omega)];refine DK.nil ⟨by kernel_rfl,?_⟩;refine aA ?_;refine AWP.condN (b'.getD kk 0+1=(bl.getD kk 0).toNat) rfl (by first | (refine decide_eq_decide.2 ?_; omega) | skip) (fun h6=>?_) (fun h6=>?_)
     ·obtain⟨q,rfl⟩:∃ q,kk=q+1:=⟨kk - 1,by omega⟩
      have hq1:IntKind.i64.wrap (((q+1:Nat):Int) - 1)=(q:Int):=by rw[Av.wrap_small (by omega) (by omega)]; omega
      have hq2:(a2.set (q+1) 0).getD q 0=a2.getD q 0:=by rw[d8 (by omega),if_neg (by omega)]
      have hoq:=hob q (by omega);have hgq:=hbs q (by omega)
      have hbq:a2.getD q 0=b'.getD q 0:=by rw[ha2,d8 (by omega),if_neg (by omega)]
      have hg7:∀ r,((inR (atP pl a2)).set (q+1) r)[q+1 - 1]?=some [iv (pl.getD q 0+(a2.getD q 0:Nat))]:=fun r=>by
       rw[List.getElem?_set_ne (by omega)];exact qZ (by omega) (by omega)
      have hz8:((inR (atP pl a2)).set (q+1) [iv (pl.getD (q+1) 0)]).set q [iv (pl.getD q 0+(a2.getD q 0:Nat)+1)]=inR (atP pl ((a2.set (q+1) 0).set q ((a2.set (q+1) 0).getD q 0+1))):=by
       rw[← zH (a:=a2.set (q+1) 0) (by rw[List.length_set]; omega) (by rw[List.length_set]; omega),← zH (a:=a2) (by omega) (by omega),hq2,Int.add_assoc,Int.natCast_add];simp
      refine aA ?_;refine Reg.o rfl (n8 rfl rfl (hg7 _) rfl) ?_;refine aA ?_;refine Reg.on rfl (nS rfl rfl rfl (hg7 _) (by simp) rfl) ?_;refine aA ?_;refine⟨q,(a2.set (q+1) 0).set q ((a2.set (q+1) 0).getD q 0+1),⟨by omega,a2.set (q+1) 0,rfl,by rw[List.length_set]; exact hl2,fun i hi=>?_,?_⟩,by omega,?_⟩
      ·rw[d8 (by omega),if_neg (by omega),ha2,d8 (by omega),if_neg (by omega)]
       exact hob i (by omega)
      ·rw[← hib,show jJ bl (q+1+1) b'=jJ bl (q+1) (b'.set (q+1) 0) by rw[jJ,if_neg (by omega)],ha2,List.set_set]
      (apply Sub.to [] [[(0,0)],[(1,0)],[(2,0)],[(3,0)]]; all_goals (repeat' (first | exact aV.nil | exact aI.nil | exact bQ.nil | exact ToL.nil | exact ToR.nil | refine aV.cons ?_ ?_ | refine aI.cons ?_ ?_ | refine eF ?_ ?_ | exact To.undef _ | exact To.sc _ | exact To.hslL rfl rfl | exact To.asl _ _ _ _ _ _ _ rfl | refine To.ifc _ _ _ ?_ | exact To.ptrO rfl rfl rfl | exact To.mrefO rfl | exact To.nil rfl rfl rfl | exact wt1 | exact To.nilL | refine To.int ?_ | refine To.bool ?_ | refine To.hslL rfl ?_ | refine wt2 rfl ?_ ?_ ?_ | refine To.tupL ?_ | refine To.aggL ?_ | refine To.cptrL ?_ | refine To.fzp rfl rfl rfl ?_ | refine To.fzm rfl rfl ?_ | refine To.cloL ?_ ?_ | refine wt3 ?_ | refine wt4 ?_ | exact wt5 | refine wt6 ?_ | refine ToB.one ?_ | exact wt7 | ((with_reducible apply ToL.consE); case e9=>rfl) | refine wt8 ?_ | refine ToL.cons ?_ ?_ | exact wt11 | refine wt9 ?_ ?_ | refine fK ?_ | exact .yld _ _ _ _ rfl | exact .dead _ | exact hlp _ _ _ _ rfl rfl rfl | exact hlp _ _ _ rfl rfl rfl | exact hlp _ _ _ rfl rfl | exact hlp _ _ _ rfl | (with_reducible rfl) | assumption)); all_goals (first | rfl | assumption | (simp; done) | (simp; omega) | (rw[wrap_small (by omega) (by omega)]; done) | (rw[wrap_small (by omega) (by omega)]; omega) | (refine congrArg Nat.cast ?_; assumption) | omega | (exact Av.wrap_small (by omega) (by omega)) | skip))
      rw[Av.wrap_small (by omega) (by omega)];exact hz8
     ·rw[jJ,if_pos (by omega),← ha2] at hib
      rw[← hib] at hinc hall;obtain⟨i1,i2,i3,i4⟩:=hinc;refine aA ?_;refine⟨a2,s2,⟨i1,.inl ⟨i3,p++[(0,u * x.ext)],hs2.symm,by rw[hall,List.append_assoc,show prS bl (N+1) - rkS bl a2 (N+1)=F by omega]; rfl⟩⟩,by rw[if_pos (i3 0 (by omega))]; omega,?_⟩;exact Sub.wl [] [[(0,0)],[(1,0)],[(2,0)],[(3,0)]]
    ·obtain rfl:kk=0:=by omega
     rw[dFa h5];refine aA ?_;refine DK.nil ⟨by kernel_rfl,?_⟩;refine aA ?_
     by_cases h6:((b'.getD 0 0:Nat):Int)+1 < bl.getD 0 0
     ·rw[jJ,if_pos h6,← ha2] at hib
      rw[← hib] at hinc hall;obtain⟨i1,i2,i3,i4⟩:=hinc;refine⟨a2,s2,⟨i1,.inl ⟨i3,p++[(0,u * x.ext)],hs2.symm,by rw[hall,List.append_assoc,show prS bl (N+1) - rkS bl a2 (N+1)=F by omega]; rfl⟩⟩,by rw[if_pos (i3 0 (by omega))]; omega,?_⟩;exact Sub.wl [] [[(0,0)],[(1,0)],[(2,0)],[(3,0)]]
     ·rw[jJ,if_neg h6,show jJ bl 0 (b'.set 0 0)=none from rfl] at hib
      rw[← hib] at hall;refine⟨a2,s2,⟨hl2,.inr ⟨by omega,by rw[hall]; exact hs2.symm⟩⟩,by rw[if_neg (by omega)]; omega,?_⟩;exact Sub.wl [] [[(0,0)],[(1,0)],[(2,0)],[(3,0)]]
 ·rcases hcase with⟨hoa,_⟩ | ⟨_,rfl⟩
  ·exact absurd (hoa 0 (by omega)) h0
  have hak:=zN (sz:=sz) (fun i hi=>by have:=hbs i (by omega); omega);refine aA ?_;refine AWP.loop (fun i:Nat=>[(2,.cptr [iv 11,iv c,iv b,iv st,.list 1 (inR sz),.list 1 (inR bl),.list 1 (inR pl),.list 8 (aM of)]),(4,.ptr 2 0 0 0),(5,.ptr 1 0 0 0),(8,.cptr [.list 2 (enR x.es),iv x.lo,iv x.hi]),(9,iv x.ext),(17,.hsl 3 0 0 (n)),(21,iv (tY sz i)),(22,iv i)]) (fun _=>bHA (cP l (gT sz bl pl x.ext)) (atP pl a)) (fun i=>i≤n) (fun i=>n - i) 0 (nZl _) ?_ ?_
  ·unfold bHA
   exact Sub.wl [] [[(0,0)],[(1,0)],[(2,0)],[(3,0)]]
  ·rintro q hq
   unfold bHA;refine aA ?_;rw[hsl,hsz];refine AWP.condN (q < n) rfl rfl (fun h=>?_) (fun h=>?_)
   ·have r1:=dB (l:=sz) (i:=q) (by omega)
    have hl1:=hak q (by omega);have hl2:=yT (sz:=sz) (k:=q) (by omega);obtain⟨g1,g2,_⟩:=hbs q h;generalize tY sz q=u at *;generalize sz.getD q 0=z at *;unfold huge at hl1 hl2;have hw:=iL (a:=u) (b:=z) (A:=1099511627776) (B:=4096) (by omega) (by omega) (by omega) (by omega);refine aA ?_;rw[Av.wrap_small (show -9223372036854775808≤u * z by omega) (by omega)];refine aA ?_;refine⟨q+1,by omega,by omega,?_⟩;rw[hl2];exact Sub.wl [] [[(0,0)],[(1,0)],[(2,0)],[(3,0)]]
   ·obtain rfl:n=q:=by omega
    have hl1:=hak n (by omega);rw[show tY sz n=w6 sz by unfold tY w6; rw[← hsz,List.take_length]] at hl1 ⊢;generalize w6 sz=u at *;unfold huge at hl1;have hw:=iL (a:=x.ext) (b:=u) (A:=1048576) (B:=1099511627776) (by omega) (by omega) (by omega) (by omega);generalize cP l (gT sz bl pl x.ext)=S at *;have hel:=bZ S.es;refine aA ?_;rw[Av.wrap_small (show -9223372036854775808≤x.ext * u by omega) (by omega),Av.wrap_small (show -9223372036854775808≤x.lo+x.ext * u by omega) (by omega)];refine DK.nil ⟨by kernel_rfl,?_⟩;refine aA ?_;rw[Int.mul_comm u];exact DD [] ⟨rfl,rfl⟩
theorem HU {l:List Int} {lo hi:Int} (h:cO l lo hi=true) (h1:lo≤0) (h2:0≤hi) (i:Nat):lo≤l.getD i 0∧l.getD i 0≤hi:=by
 by_cases q:i < l.length
 ·have:=nN h l[i] (gMe _)
  simpa[q] using this
 ·have e:l.getD i 0=0:=by simp[List.getD_eq_getElem?_getD,q]
  rw[e];exact⟨h1,h2⟩
structure NK (k c b st:Int) (sz bl pl:List Int):Prop where
 bl1:∀ i,0≤bl.getD i 0∧bl.getD i 0≤4096
 pl1:∀ i,-1048576≤pl.getD i 0∧pl.getD i 0≤1048576
 st1:-1048576≤st∧st≤1048576
 c1:0≤c∧c≤4096
 b1:0≤b∧b≤4096
 c6:k=6∨k=7→1≤c
 b7:k=7→1≤b
 s11:k=11→xA sz bl pl=true
theorem nk_of {k c b st:Int} {sz bl pl:List Int} {n:Nat} (hk:6≤k∧k≤11) (hf:dE k c b st sz bl pl n=0) (hn:qX k c b st sz bl pl=true):NK k c b st sz bl pl:=by
 have hd:=J8 hk hf;rw[hn] at hd;obtain⟨_,i2,_,_,_,_⟩:=i9 hk hf;obtain⟨_,b2,_,_,_⟩:=qC hf;unfold D0 y9 OM at hd;simp only[Bool.not_eq_true',Bool.or_eq_false_iff,Bool.and_eq_false_iff,Bool.not_eq_false',decide_eq_false_iff_not] at hd;obtain⟨⟨⟨⟨⟨d1,d2⟩,d3⟩,d4⟩,d5⟩,_⟩:=hd
 have hw:∀ {n lo hi:Int},aJ n lo hi=true→lo≤n∧n≤hi:=fun h=>by simpa[aJ] using h
 unfold fl2 at b2;simp only[decide_eq_true_eq] at b2;refine⟨HU d4 (by omega) (by omega),HU d5 (by decide) (by decide),hw d1,?_,?_,?_,?_,?_⟩
 ·rcases d2 with q | q
  ·rcases i2 with e | e | e<;>omega
  ·have:=hw q; omega
 ·rcases d3 with q | q
  ·rcases b2 with e | e<;>omega
  ·have:=hw q; omega
 ·intro e
  rcases d2 with q | q
  ·omega
  ·exact(hw q).1
 ·intro e
  rcases d3 with q | q
  ·omega
  ·exact(hw q).1
 ·rintro rfl
  unfold qX at hn;simp only[bAe] at hn
  simpa using hn.2
theorem E1 {x:Shp} (h:shB x):-1048576≤x.ext∧x.ext≤1048576:=by
 obtain⟨_,_,_,_,h1,h2,_⟩:=h;unfold mP at *;exact⟨h1,h2⟩
theorem CC {k c b st:Int} {sz bl pl:List Int} {l:List Shp} (hk:6≤k∧k≤11) (hf:dE k c b st sz bl pl l.length=0) (hn:NK k c b st sz bl pl) (hl:∀ x∈l,shB x):∀ m∈dV k c b st sz bl pl l,shB (l.getD m.1.toNat shp0)∧-1200000000000000000≤m.2∧m.2≤1200000000000000000:=by
 obtain⟨i1,i2,i3,i4,i5,i6⟩:=i9 hk hf
 have hl1:1≤l.length:=by by_cases h:k=9; exact(i4 h).1; exact Nat.le_of_eq (i1 h).symm
 have hli:∀ i,i < l.length→shB (l.getD i shp0):=fun i hi=>by
  rw[show l.getD i shp0=l[i] by simp[hi]];exact hl _ (gMe _)
 have h0:=hli 0 hl1;obtain⟨e1,e2⟩:=E1 h0;have hst:=hn.st1;have hc:=hn.c1;have hb:=hn.b1
 obtain rfl | rfl | rfl | rfl | rfl | rfl:k=6∨k=7∨k=8∨k=9∨k=10∨k=11:=by omega
 ·intro m hm
  obtain⟨i,hi,rfl⟩:=List.mem_map.1 hm;have:=List.mem_range.1 hi;have:=iL (a:=(i:Int)) (b:=(l.getD 0 shp0).ext) (A:=4096) (B:=1048576) (by omega) (by omega) e1 e2;exact⟨h0,by simp only; omega,by simp only; omega⟩
 ·intro m hm
  obtain⟨i,hi,hm⟩:=List.mem_flatMap.1 hm;obtain⟨j,hj,rfl⟩:=List.mem_map.1 hm;have:=List.mem_range.1 hi;have:=List.mem_range.1 hj;have:=iL (a:=(i:Int)) (b:=st) (A:=4096) (B:=1048576) (by omega) (by omega) hst.1 hst.2;have:=iL (a:=(i:Int) * st+j) (b:=(l.getD 0 shp0).ext) (A:=4300000000) (B:=1048576) (by omega) (by omega) e1 e2;exact⟨h0,by simp only; omega,by simp only; omega⟩
 ·intro m hm
  obtain⟨i,hi,hm⟩:=List.mem_flatMap.1 hm;obtain⟨j,hj,rfl⟩:=List.mem_map.1 hm;have:=List.mem_range.1 hj;have:=hn.bl1 i;have:=hn.pl1 i;have:=iL (a:=pl.getD i 0+(j:Int)) (b:=(l.getD 0 shp0).ext) (A:=4300000000) (B:=1048576) (by omega) (by omega) e1 e2;exact⟨h0,by simp only; omega,by simp only; omega⟩
 ·intro m hm
  obtain⟨i,hi,hm⟩:=List.mem_flatMap.1 hm;obtain⟨j,hj,rfl⟩:=List.mem_map.1 hm;have:=List.mem_range.1 hi;have:=List.mem_range.1 hj;have:=hn.bl1 i;have:=hn.pl1 i;have hxi:=hli i (by have:=(i4 rfl).2.2.1; omega);obtain⟨f1,f2⟩:=E1 hxi;have:=iL (a:=(j:Int)) (b:=(l.getD i shp0).ext) (A:=4096) (B:=1048576) (by omega) (by omega) f1 f2;exact⟨hxi,by simp only; omega,by simp only; omega⟩
 ·intro m hm
  have hc0:c=0:=by omega
  subst hc0;rw[show dV 10 0 b st sz bl pl l=[(0,0 * (l.getD 0 shp0).ext)] from rfl] at hm;rw[List.mem_singleton.1 hm];exact⟨h0,by simp,by simp⟩
 ·intro m hm
  obtain⟨a,rfl⟩:=zL _ _ m hm;have:=EV (hn.s11 rfl) a sz.length (Nat.le_refl _);have hls:tT sz pl a=hO sz pl a sz.length:=rfl;rw[← hls] at this;unfold huge at this;have:=iL (a:=tT sz pl a) (b:=(l.getD 0 shp0).ext) (A:=1099511627776) (B:=1048576) (by omega) (by omega) e1 e2;exact⟨h0,by simp only; omega,by simp only; omega⟩
theorem PC {k c b st:Int} {sz bl pl:List Int} {l:List Shp} (hk:6≤k∧k≤11) (hf:dE k c b st sz bl pl l.length=0) (hn:NK k c b st sz bl pl):(IU k c b bl l≤4096↔eG l (dV k c b st sz bl pl l)≤4096):=by
 obtain⟨i1,i2,i3,i4,i5,i6⟩:=i9 hk hf
 obtain rfl | rfl | rfl | rfl | rfl | rfl:k=6∨k=7∨k=8∨k=9∨k=10∨k=11:=by omega
 ·have:=tot6 l c (l.getD 0 shp0).ext (hn.c6 (.inl rfl))
  show c * fE l 0≤4096↔eG l (bI c (l.getD 0 shp0).ext)≤4096;omega
 ·have:=tot7 l c b st (l.getD 0 shp0).ext (hn.c6 (.inr rfl)) (hn.b7 rfl)
  show c * b * fE l 0≤4096↔eG l (hU c b st (l.getD 0 shp0).ext)≤4096;omega
 ·have:=tot8 l bl pl (l.getD 0 shp0).ext (i1 (by omega)) fun i=>(hn.bl1 i).1
  show lS bl l bl.length≤4096↔eG l (gU bl pl (l.getD 0 shp0).ext)≤4096;omega
 ·have:=tot9 l bl pl (i4 rfl).2.2.1.symm fun i=>(hn.bl1 i).1
  show lS bl l bl.length≤4096↔eG l (kW bl pl l)≤4096;omega
 ·have hc0:c=0:=by omega
  subst hc0;show(fE l 0:Int)≤4096↔eG l [(0,0 * (l.getD 0 shp0).ext)]≤4096
  have:eG l [(0,0 * (l.getD 0 shp0).ext)]=fE l 0:=by simp[eG]
  omega
 ·have hs:=hn.s11 rfl
  have hq:=i6 rfl;show lI bl (fE l 0)≤4096↔eG l (gT sz bl pl (l.getD 0 shp0).ext)≤4096
  refine tot11 hq.2.2.1 fun i hi=>?_
  have:=List.all_eq_true.1 hs i (List.mem_range.2 (by omega));simp only[aJ,bAe,decide_eq_true_eq] at this;omega
theorem OE {k c b st:Int} {sz bl pl:List Int} {of:List Ty} {l:List Shp} (hk:6≤k∧k≤11) (hf:dE k c b st sz bl pl l.length=0) (hn:NK k c b st sz bl pl) (hl:∀ x∈l,shB x) (ht:eG l (dV k c b st sz bl pl l)≤4096):
  aH Tryz.prog 181 [.agg (tyR (.mk k c b st sz bl pl of)),.list 3 (shL l)] [] fun res H'=>res=.agg (shR (cS k sz pl l (cP l (dV k c b st sz bl pl l))))∧H'=[]:=by
 have hmv:=CC hk hf hn hl;obtain⟨i1,i2,i3,i4,i5,i6⟩:=i9 hk hf
 have hl1:1≤l.length:=by by_cases h:k=9; exact(i4 h).1; exact Nat.le_of_eq (i1 h).symm
 have hle:l.length≤4096:=by by_cases h:k=9; exact(i4 h).2.1; have:=i1 h; omega
 have hne:l≠[]:=List.ne_nil_of_length_pos hl1
 have hli:∀ i,i < l.length→shB (l.getD i shp0):=fun i hi=>by
  rw[show l.getD i shp0=l[i] by simp[hi]];exact hl _ (gMe _)
 have h0:=hli 0 hl1
 have hpre:∀ p r,dV k c b st sz bl pl l=p++r→stB (cP l p):=fun p r h=>by
  rw[h] at hmv ht;exact F8 hmv ht
 obtain rfl | rfl | rfl | rfl | rfl | rfl:k=6∨k=7∨k=8∨k=9∨k=10∨k=11:=by omega
 ·have hc:=hn.c1
  have hc1:=hn.c6 (.inl rfl);refine SW hne h0 ⟨hc1,hc.2⟩ (fun i hi=>?_) (by omega);refine hpre _ ((List.range' i (c.toNat - i)).map fun i:Nat=>(0,(i:Int) * (l.getD 0 shp0).ext)) ?_;show bI c (l.getD 0 shp0).ext=_;unfold bI;rw[← List.map_append,List.range_eq_range' ,List.range_eq_range',show(max 1 c).toNat=i+(c.toNat - i) by omega];congr 1;rw[← List.range'_append];simp
 ·have hpr:∀ i j:Nat,(i:Int) < c→_:=fun i j hi=>m7 (f:=fun i:Nat=>(List.range b.toNat).map fun j:Nat=>((0:Int),((i:Int) * st+j) * (l.getD 0 shp0).ext)) (n:=c.toNat) (j:=j) (show i < c.toNat by omega)
  have:=TL (of:=of) (sz:=sz) (bl:=bl) (pl:=pl) (f:=fun i:Nat=>(List.range b.toNat).map fun j:Nat=>((0:Int),((i:Int) * st+j) * (l.getD 0 shp0).ext)) hne h0 hn.c1 hn.b1 hn.st1 (fun _=>rfl) (fun i j hi hj=>by
   obtain⟨r,hr⟩:=hpr i j hi
   exact hpre _ r hr) (by omega)
  rw[← iD] at this;exact this
 ·obtain⟨q1,q2,q3⟩:=i3 rfl
  have:=UG (of:=of) (sz:=sz) (c:=c) (b:=b) (st:=st) (f:=fun i:Nat=>(List.range (bl.getD i 0).toNat).map fun j:Nat=>((0:Int),(pl.getD i 0+j) * (l.getD 0 shp0).ext)) hne h0 q2 q3 hn.bl1 hn.pl1 (fun _=>rfl) (fun i j hi hj=>by
   obtain⟨r,hr⟩:=m7 (f:=fun i:Nat=>(List.range (bl.getD i 0).toNat).map fun j:Nat=>((0:Int),(pl.getD i 0+j) * (l.getD 0 shp0).ext)) (j:=j) hi
   exact hpre _ r hr) (by omega)
  rw[← iD] at this;exact this
 ·obtain⟨q1,q2,q3,q4⟩:=i4 rfl
  have:=S7 (of:=of) (sz:=sz) (c:=c) (b:=b) (st:=st) (f:=fun i:Nat=>(List.range (bl.getD i 0).toNat).map fun j:Nat=>((i:Int),pl.getD i 0+j * (l.getD i shp0).ext)) hne hli (by omega) (by omega) q3.symm hn.bl1 hn.pl1 (fun _=>rfl) (fun i j hi hj=>by
   obtain⟨r,hr⟩:=m7 (f:=fun i:Nat=>(List.range (bl.getD i 0).toNat).map fun j:Nat=>((i:Int),pl.getD i 0+j * (l.getD i shp0).ext)) (j:=j) hi
   exact hpre _ r hr) (by omega)
  rw[← iD] at this;exact this
 ·have hc0:c=0:=by omega
  subst hc0;have:=QL (of:=of) (c:=0) (b:=b) (st:=st) (sz:=sz) (bl:=bl) hne h0 (i5 rfl) hn.pl1 (by omega);rw[show cS 10 sz pl l (cP l (dV 10 0 b st sz bl pl l))=⟨(cP l (bI 0 (l.getD 0 shp0).ext)).es,pl.getD 0 0,pl.getD 0 0+pl.getD 1 0⟩ from rfl,bld10];exact this
 ·obtain⟨q1,q2,q3,q4⟩:=i6 rfl
  exact OX (of:=of) (c:=c) (b:=b) (st:=st) hne h0 q1 q2 rfl q3 q4 (hn.s11 rfl) hpre (by omega)
theorem I6 {k c b st:Int} {sz bl pl:List Int} {l:List Shp} {s:Shp} (hn:NK k c b st sz bl pl) (hx:shB (l.getD 0 shp0)) (hs:stB s):(-big≤(cS k sz pl l s).lo∧(cS k sz pl l s).lo≤big)∧(-big≤(cS k sz pl l s).hi∧(cS k sz pl l s).hi≤big):=by
 unfold cS;split
 ·have h0:=hn.pl1 0
  have h1:=hn.pl1 1;unfold big;simp only;omega
 split
 ·rename_i h11
  obtain⟨e1,e2⟩:=E1 hx;have hsub:=hn.s11 h11
  have h0:=zN (sz:=sz) (fun i hi=>by
   have:=List.all_eq_true.1 hsub i (List.mem_range.2 hi);simp only[aJ,bAe,decide_eq_true_eq] at this
   omega) sz.length (Nat.le_refl _)
  unfold tY at h0;rw[List.take_length] at h0;have ea:w6 sz=sz.foldl (fun n s=>min (n * s) huge) 1:=rfl;rw[← ea] at h0;unfold huge at h0;have hm:=iL (a:=w6 sz) (b:=(l.getD 0 shp0).ext) (A:=1099511627776) (B:=1048576) (by omega) (by omega) e1 e2;obtain⟨b1,b2,b3,b4,_⟩:=hx;unfold mP at *;unfold big;simp only;omega
 ·exact⟨hs.2.1,hs.2.2.1⟩
theorem OF {k:Int}:okS ⟨[(k,0)],0,bJ k⟩=true:=by
 have:=eN k;have ht:bV [(k,(0:Int))]=(min 0 0,max 0 (0+((bJ k:Nat):Int))):=rfl;unfold okS;rw[ht];unfold aJ Shp.ext mP;simp only[bAe,decide_eq_true_eq];omega
theorem IS {n:Nat} {k c b st:Int} {sz bl pl:List Int} {of:List Ty} {l:List Shp} (hseq:m9 (aF n) of=(0,l)) (hll:l.length=of.length) (hlb:∀ x∈l,shB x) (h2:sz.length≤1000000) (h3:bl.length≤4096) (h4:pl.length≤1000000) (h1:of.length≤1000000):
  (oJ k c b st sz bl pl of.length≠0∧aF (n+1) (.mk k c b st sz bl pl of)=(oJ k c b st sz bl pl of.length,shp0)) ∨
  (oJ k c b st sz bl pl of.length=0∧aB Tryz.prog 179 [.agg (tyR (.mk k c b st sz bl pl of))] (iv 3)∧aF (n+1) (.mk k c b st sz bl pl of)=(3,shp0)) ∨
  (oJ k c b st sz bl pl of.length=0∧aB Tryz.prog 179 [.agg (tyR (.mk k c b st sz bl pl of))] (iv 0)∧∃ q:Int,aB Tryz.prog 180 [.agg (tyR (.mk k c b st sz bl pl of)),.list 3 (shL l)] (iv q) ∧
   ((4096 < q∧aF (n+1) (.mk k c b st sz bl pl of)=(9,shp0))∨(q≤4096∧∃ m:Shp,m.es≠[]∧stB m∧aB Tryz.prog 181 [.agg (tyR (.mk k c b st sz bl pl of)),.list 3 (shL l)] (.agg (shR m))∧aF (n+1) (.mk k c b st sz bl pl of)=if okS m=true then(0,m) else(3,shp0)))):=by
 have hP:aF (n+1) (.mk k c b st sz bl pl of)=if bJ k=0∧¬ (6≤k∧k≤11) then(2,shp0) else if dE k c b st sz bl pl of.length≠0 then(dE k c b st sz bl pl of.length,shp0) else if 0 < bJ k then(0,⟨[(k,0)],0,bJ k⟩) else if qX k c b st sz bl pl=true then rA k c b st sz bl pl l else(3,shp0):=by
  rw[aF,hseq];simp only;rw[if_neg (by simp)]
 by_cases c1:bJ k=0∧¬ (6≤k∧k≤11)
 ·rw[if_pos c1] at hP
  left;unfold oJ;rw[if_pos c1];exact⟨by decide,hP⟩
 have hD:oJ k c b st sz bl pl of.length=dE k c b st sz bl pl of.length:=by
  unfold oJ;rw[if_neg c1]
 rw[if_neg c1] at hP
 by_cases c2:dE k c b st sz bl pl of.length=0
 rotate_left
 ·rw[if_pos c2] at hP
  left;rw[hD];exact⟨c2,hP⟩
 rw[if_neg (by simpa using c2)] at hP;right;rw[hD]
 by_cases hb:1≤k∧k≤5
 ·have hz:0 < bJ k:=Nat.pos_of_ne_zero fun h=>l8.1 h hb
  rw[if_pos hz] at hP;right;have hnu:=vB (k:=k) (c:=c) (b:=b) (st:=st) (sz:=sz) (bl:=bl) (pl:=pl) (of:=of) (by omega) (by omega) h2 (by omega) h4;rw[if_pos (JG hb c2)] at hnu;obtain⟨f1,f2,f3,f4,f5⟩:=qC c2
  have hl1:∀ i,fE l i≤4096:=fun i=>by
   unfold fE
   by_cases q:i < l.length
   ·have:=hlb l[i] (gMe _)
    rw[show l.getD i shp0=l[i] by simp[q]];exact this.2.2.2.2.2.2.2.1
   ·rw[show l.getD i shp0=shp0 by simp[List.getD_eq_getElem?_getD,q]]
    exact nZl _
  have hc:c=0:=by
   unfold fl1 at f1;simp only[decide_eq_true_eq] at f1;omega
  have hb0:b=0:=by
   unfold fl2 at f2;simp only[decide_eq_true_eq] at f2
   rcases f2 with q | q
   ·omega
   ·exact q.1
  have hbl:bl=[]:=by
   unfold fl3 at f3;simp only[decide_eq_true_eq] at f3
   rcases f3 with q | q
   ·omega
   ·exact q
  have hen:=NT (k:=k) (c:=c) (b:=b) (st:=st) (sz:=sz) (bl:=bl) (pl:=pl) (of:=of) (l:=l) hl1 (by omega) (by omega) (by omega) (fun i=>by rw[hbl]; simp) h3 (by omega);rw[show IU k c b bl l=1 by unfold IU; rw[if_neg (by omega),if_neg (by omega),if_neg (by omega),if_neg (by omega),if_neg (by omega)]] at hen;refine⟨c2,hnu,1,hen,.inr ⟨by decide,⟨[(k,0)],0,bJ k⟩,by simp,?_,.ofI ((T0 hb).mono fun _ _ h=>h.1),?_⟩⟩
  ·have:=eN k
   refine⟨by simp,?_,?_,fun y hy=>?_⟩
   ·show -big≤(0:Int)∧(0:Int)≤big; decide
   ·show -big≤((bJ k:Nat):Int)∧((bJ k:Nat):Int)≤big; unfold big; omega
   ·rw[List.mem_singleton.1 hy]
    show -big≤(0:Int)∧(0:Int)≤big; decide
  ·rw[hP,if_pos OF]
 ·have hk:6≤k∧k≤11:=dBc fun q=>c1 ⟨l8.2 hb,q⟩
  have hz:=l8.2 hb;rw[if_neg (by omega)] at hP;obtain⟨i1,i2,i3,i4,i5,i6⟩:=i9 hk c2;have hnu:=vB (k:=k) (c:=c) (b:=b) (st:=st) (sz:=sz) (bl:=bl) (pl:=pl) (of:=of) i5 (fun h=>(i6 h).2.2) h2 (by omega) h4;rw[J8 hk c2] at hnu
  by_cases hn:qX k c b st sz bl pl=true
  rotate_left
  ·rw[if_neg hn] at hnu hP
   exact .inl ⟨c2,hnu,hP⟩
  rw[if_pos hn] at hnu hP;have hN:=nk_of hk c2 hn;have c3:=c2;rw[← hll] at c3
  have hl1:1≤l.length:=by
   rw[hll]
   by_cases h:k=9
   ·exact(i4 h).1
   ·exact Nat.le_of_eq (i1 h).symm
  have hne:l≠[]:=List.ne_nil_of_length_pos hl1
  have h0:shB (l.getD 0 shp0):=by
   rw[show l.getD 0 shp0=l[0] by simp[show 0 < l.length from hl1]];exact hlb _ (gMe _)
  have hlo:∀ i,fE l i≤4096:=fun i=>by
   unfold fE
   by_cases q:i < l.length
   ·have:=hlb l[i] (gMe _)
    rw[show l.getD i shp0=l[i] by simp[q]];exact this.2.2.2.2.2.2.2.1
   ·rw[show l.getD i shp0=shp0 by simp[List.getD_eq_getElem?_getD,q]]
    exact nZl _
  have hen:=NT (k:=k) (c:=c) (b:=b) (st:=st) (sz:=sz) (bl:=bl) (pl:=pl) (of:=of) (l:=l) hlo (fun _=>hne) hN.c1 hN.b1 hN.bl1 h3 (by omega);have htot:=PC hk c3 hN;refine .inr ⟨c2,hnu,_,hen,?_⟩;have hput:=JZ l (dV k c b st sz bl pl l)
  by_cases ht:eG l (dV k c b st sz bl pl l)≤4096
  ·rw[if_pos ht] at hput
   have hes:=(EA (ty:=of) hk c3 hn hlb).2.1 _ hput;have hst:=F8 (r:=[]) (by simpa using CC hk c3 hN hlb) (by simpa using ht);refine .inr ⟨htot.2 ht,cS k sz pl l (cP l (dV k c b st sz bl pl l)),by rw[m8]; exact hes,?_,.ofI ((OE hk c3 hN hlb ht).mono fun _ _ h=>h.1),?_⟩
   ·obtain⟨q1,q2⟩:=I6 hN h0 hst
    exact⟨by rw[m8]; exact hst.1,q1,q2,by rw[m8]; exact hst.2.2.2⟩
   ·rw[hP]
    unfold rA;rw[hput]
  ·rw[if_neg ht] at hput
   refine .inl ⟨by have:¬ IU k c b bl l≤4096:=fun h=>ht (htot.1 h); omega,?_⟩;rw[hP];unfold rA;rw[hput]
def J0 (n:Nat) (t:Ty):Prop:=aB Tryz.prog 156 [.agg (tyR t)] (.tup [.agg (shR (aF n t).2),iv (aF n t).1])
theorem xY {B:Int}:∀(l:List (Int×Int)) (p:Int×Int),(∀ x∈l,-B≤x.2∧x.2≤B)→(-B≤p.1∧p.1≤B)→(-B≤p.2∧p.2≤B+8)→(-B≤(l.foldl tiF p).1∧(l.foldl tiF p).1≤B)∧(-B≤(l.foldl tiF p).2∧(l.foldl tiF p).2≤B+8)
 | [],p,_,h1,h2=>⟨h1,h2⟩
 | x::l,p,h,h1,h2=>by
  have hx:=h x (by simp);have:=eN x.1;exact xY l (tiF p x) (fun y hy=>h y (mCm _ hy)) (by unfold tiF; simp only; omega) (by unfold tiF; simp only; omega)
theorem DO {l:List (Int×Int)} (h:0 < l.length):bV l=l.foldl tiF (l[0].2,l[0].2):=by
 cases l with
 | nil=>cases h
 | cons x r=>rfl
theorem yH:∀(n:Nat) (t:Ty),aX n t=true→J0 n t
 | 0,t,h=>by
  obtain⟨m,_,_,_,_,_,_,_,_,e,_⟩:=aO h
  cases e
 | n+1,t,h=>by
  obtain⟨m,k,c,b,st,sz,bl,pl,of,e,rfl,h1,h2,h3,h4,h5,h6,h7,h8⟩:=aO h
  obtain rfl:n=m:=by omega
  have ih:∀ u∈of,J0 n u:=fun u hu=>yH n u (h8 u hu)
  have e0:tyR (.mk k c b st sz bl pl of)=[iv k,iv c,iv b,iv st,.list 1 (inR sz),.list 1 (inR bl),.list 1 (inR pl),.list 8 (aM of)]:=by rw[tyR]
  have hol:=lL of;unfold J0;refine aB.mkI cF156 (nlB rfl) ?_;rw[e0];refine aA ?_;refine AWP.loop2 (fun(i:Nat) (l:List Shp)=>[(1,.cptr [iv k,iv c,iv b,iv st,.list 1 (inR sz),.list 1 (inR bl),.list 1 (inR pl),.list 8 (aM of)]),(2,.ptr 0 0 0 0),(4,.hsl 1 0 0 l.length),(5,iv i)]) (fun _ l=>[[.cells 3 [r0S]],[.cells 3 (shL l)]]) (fun i l=>i≤of.length∧okL n of l i) (fun i _=>of.length - i) 0 [] ⟨nZl _,rfl,fun j hj=>by omega⟩ ?_ ?_
  ·exact Sub.wl [3] [[(1,0)],[(2,0)]]
  rintro i l ⟨hi,hl,hok⟩;refine aA ?_;rw[hol];refine AWP.condN (i < of.length) rfl rfl (fun h9=>?_) (fun h9=>?_)
  ·have hr:=pQ of i h9
   have hu:=ih of[i] (gMe _);have hsm:=h8 of[i] (gMe _);have hub:=dI n of[i] hsm;unfold J0 at hu;have hgi:of[i]?=some of[i]:=gEg h9;generalize of[i]=u at *;obtain⟨_,k',c',b',st',sz',bl',pl',of',_,rfl,_⟩:=aO hsm;rw[tyR] at hr hu
   rcases hes:aF n (.mk k' c' b' st' sz' bl' pl' of') with⟨e,s⟩
   rw[hes] at hu hub;unfold shR at hu;replace hu:aB Tryz.prog 156 [.agg [iv k',iv c',iv b',iv st',.list 1 (inR sz'),.list 1 (inR bl'),.list 1 (inR pl'),.list 8 (aM of')]] (.tup [.agg [.list 2 (enR s.es),iv s.lo,iv s.hi],iv e]):=hu;refine aA ?_;refine AWP.condN (e≠0) rfl (d9 e) (fun he=>?_) (fun he=>?_)
   ·have hseq:m9 (aF n) of=(e,[]):=zM hgi hes he fun j v hj hv=>by
     obtain⟨s',_,h5,_⟩:=hok j hj v hv;rw[h5]
    have hres:aF (n+1) (.mk k c b st sz bl pl of)=(e,shp0):=by
     rw[aF,hseq];simp only;rw[if_pos he]
    rw[hres,show shR (e,shp0).2=[.list 2 [],iv 0,iv 0] from rfl];refine aA ?_;exact aG.w
   ·replace he:e=0:=dBc he
    subst he;have hsb:=hub rfl;have holl:=iY l;refine aA ?_;refine⟨i+1,l++[s],⟨by omega,by simp[hl],fun j hj v hv=>?_⟩,by omega,?_⟩
    ·by_cases ej:j=i
     ·subst ej
      rw[hgi] at hv
      injection hv with hv
      subst hv;exact⟨s,by rw[List.getElem?_append_right (by omega),hl,Nat.sub_self]; rfl,hes,hsb⟩
     ·obtain⟨s',h5,h6⟩:=hok j (by omega) v hv
      exact⟨s',by rw[List.getElem?_append_left (by omega)]; exact h5,h6⟩
    have hz9:shL l++[[.list 2 (enR s.es),iv s.lo,iv s.hi]]=shL (l++[s]):=by simp[shL,shR]
    exact Sub.wl [] [[(0,0)],[(4,0)]]
  ·obtain rfl:of.length=i:=by omega
   have hseq:m9 (aF n) of=(0,l):=FN hl fun j u hj=>by
    obtain⟨s',h5,h6,_⟩:=hok j (gEs.1 hj).1 u hj;exact⟨s',h5,h6⟩
   have hlb:∀ x∈l,shB x:=fun x hx=>by
    obtain⟨j,hj,rfl⟩:=List.getElem_of_mem hx;obtain⟨s',h5,_,h6⟩:=hok j (by omega) of[j] (gEg (by omega));rw[gEg hj] at h5
    injection h5 with h5
    rw[h5]; exact h6
   refine AWP.exit ?_;refine AWP.sub (fr':=[(1,.cptr [iv k,iv c,iv b,iv st,.list 1 (inR sz),.list 1 (inR bl),.list 1 (inR pl),.list 8 (aM of)]),(2,.ptr 0 0 0 0),(4,.list 3 (shL l))]) (H':=[[.cells 3 [r0S]]]) ?_ ?_
   ·have holl:=iY l
    exact Sub.wl [] [[(0,0)]]
   have hc:=IS (n:=n) (k:=k) (c:=c) (b:=b) (st:=st) (sz:=sz) (bl:=bl) (pl:=pl) (of:=of) (l:=l) hseq hl hlb (by omega) (by omega) (by omega) (by omega);have hfo:=QH (k:=k) (c:=c) (b:=b) (st:=st) (sz:=sz) (bl:=bl) (pl:=pl) (of:=of);rw[e0] at hfo hc;generalize oJ k c b st sz bl pl of.length=f at *;generalize aF (n+1) (.mk k c b st sz bl pl of)=R at *;have hshl:=iY l
   rcases hc with⟨f0,rfl⟩ | ⟨rfl,hnu,rfl⟩ | ⟨rfl,hnu,q,hen,⟨hq,rfl⟩ | ⟨hq,m,hm1,hm2,hbu,rfl⟩⟩
   ·have hf1:(f == 0)=false:=beq_false_of_ne f0
    have hf2:(f != 0)=true:=by simp[f0]
    rw[show shR (f,shp0).2=[.list 2 [],iv 0,iv 0] from rfl];refine aA ?_;rw[hf1];refine aA ?_;rw[hf2];refine aA ?_;exact aG.w
   ·rw[show shR ((3:Int),shp0).2=[.list 2 [],iv 0,iv 0] from rfl]
    refine aA ?_;exact aG.w
   ·rw[show shR ((9:Int),shp0).2=[.list 2 [],iv 0,iv 0] from rfl]
    refine aA ?_;rw[dTr hq];refine aA ?_;exact aG.w
   ·have hm0:=List.length_pos_iff.2 hm1
    obtain⟨w1,w2,w3,w4⟩:=hm2;have hel:=bZ m.es;have hr0:=gQ m.es 0 hm0;have htf:=DO hm0;have hb0:=w4 m.es[0] (gMe _)
    have hbt:∀ i,(-big≤((m.es.take i).foldl tiF (m.es[0].2,m.es[0].2)).1∧((m.es.take i).foldl tiF (m.es[0].2,m.es[0].2)).1≤big)∧(-big≤((m.es.take i).foldl tiF (m.es[0].2,m.es[0].2)).2∧((m.es.take i).foldl tiF (m.es[0].2,m.es[0].2)).2≤big+8):=fun i=>xY _ _ (fun y hy=>w4 y (List.mem_of_mem_take hy)) hb0 ⟨hb0.1,by have:=hb0.2; simp only; omega⟩
    generalize hA:m.es[0].2=A at *;unfold big at *;unfold shR at hbu;refine aA ?_;rw[dFa (show¬ 4096 < q by omega)];refine aA ?_;refine DK.nil ⟨by kernel_rfl,?_⟩;refine aA ?_;refine AWP.loop (fun i:Nat=>[(2,.ptr 0 0 0 0),(9,.cptr [.list 2 (enR m.es),iv m.lo,iv m.hi]),(10,iv ((m.es.take i).foldl tiF (A,A)).1),(11,iv ((m.es.take i).foldl tiF (A,A)).2),(12,iv i)]) (fun _=>[[.cells 3 [r0S]]]) (fun i=>i≤m.es.length) (fun i=>m.es.length - i) 0 (nZl _) ?_ ?_
    ·exact Sub.wl [] [[(0,0)]]
    rintro i hi;refine aA ?_;rw[hel];refine AWP.condN (i < m.es.length) rfl rfl (fun h=>?_) (fun h=>?_)
    ·have hr:=gQ m.es i h
     have hx:=w4 m.es[i] (gMe _);have wb:=fO m.es[i].1;have hs:=eN m.es[i].1
     have e:(m.es.take (i+1)).foldl tiF (A,A)=tiF ((m.es.take i).foldl tiF (A,A)) m.es[i]:=by
      rw[cU h,List.foldl_append];rfl
     have hbi:=hbt i;generalize m.es[i]=x at *;obtain⟨kd,at'⟩:=x;generalize (m.es.take i).foldl tiF (A,A)=p at *;obtain⟨lo,hi2⟩:=p;obtain⟨hx1,hx2⟩:=hx;replace hx1:-2000000000000000000≤at':=hx1;replace hx2:at'≤2000000000000000000:=hx2;replace hs:bJ kd≤8:=hs;have ew:IntKind.i64.wrap (at'+(bJ kd:Nat))=at'+(bJ kd:Nat):=Av.wrap_small (by omega) (by omega);refine aA ?_;rw[ew];refine DK.nil ⟨by kernel_rfl,?_⟩;refine aA ?_;refine⟨i+1,by omega,by omega,?_⟩;rw[e];unfold tiF;exact Sub.wl [] [[(0,0)]]
    ·obtain rfl:m.es.length=i:=by omega
     have hbi:=hbt m.es.length;rw[List.take_length,← htf] at hbi ⊢;obtain⟨⟨d1,d2⟩,d3,d4⟩:=hbi;have hok:okS m=(aJ m.lo (-mP) mP && aJ m.hi (-mP) mP && aJ m.ext (-mP) mP && aJ (bV m.es).1 (-mP) mP && aJ (bV m.es).2 (-mP) mP && aJ ((bV m.es).2 - (bV m.es).1) (-mP) mP):=rfl;have x1:=lX m.lo;have x2:=lX m.hi;have x3:=lX m.ext;have x4:=lX (bV m.es).1;have x5:=lX (bV m.es).2;have x6:=lX ((bV m.es).2 - (bV m.es).1)
     have y3:IntKind.i64.wrap (m.hi - m.lo)=m.ext:=by rw[Av.wrap_small (by omega) (by omega)]; rfl
     generalize (bV m.es).1=T1 at *;generalize (bV m.es).2=T2 at *;have y6:IntKind.i64.wrap (T2 - T1)=T2 - T1:=Av.wrap_small (by omega) (by omega);generalize aJ m.lo (-mP) mP=g1 at *;generalize aJ m.hi (-mP) mP=g2 at *;generalize aJ m.ext (-mP) mP=g3 at *;generalize aJ T1 (-mP) mP=g4 at *;generalize aJ T2 (-mP) mP=g5 at *;generalize aJ (T2 - T1) (-mP) mP=g6 at *
     cases g1 with
     | false=>(rw[show okS m=false by(rw[hok]; simp),if_neg (by simp),show shR ((3:Int),shp0).2=[.list 2 [],iv 0,iv 0] from rfl]; refine aA ?_; exact aG.w)
     | true=>
     cases g2 with
     | false=>(rw[show okS m=false by(rw[hok]; simp),if_neg (by simp),show shR ((3:Int),shp0).2=[.list 2 [],iv 0,iv 0] from rfl]; refine aA ?_; exact aG.w)
     | true=>
     cases g3 with
     | false=>(rw[show okS m=false by(rw[hok]; simp),if_neg (by simp),show shR ((3:Int),shp0).2=[.list 2 [],iv 0,iv 0] from rfl]; refine aA ?_; rw[y3]; refine aA ?_; exact aG.w)
     | true=>
     cases g4 with
     | false=>(rw[show okS m=false by(rw[hok]; simp),if_neg (by simp),show shR ((3:Int),shp0).2=[.list 2 [],iv 0,iv 0] from rfl]; refine aA ?_; rw[y3]; refine aA ?_; exact aG.w)
     | true=>
     cases g5 with
     | false=>(rw[show okS m=false by(rw[hok]; simp),if_neg (by simp),show shR ((3:Int),shp0).2=[.list 2 [],iv 0,iv 0] from rfl]; refine aA ?_; rw[y3]; refine aA ?_; exact aG.w)
     | true=>
     cases g6 with
     | false=>(rw[show okS m=false by(rw[hok]; simp),if_neg (by simp),show shR ((3:Int),shp0).2=[.list 2 [],iv 0,iv 0] from rfl]; refine aA ?_; rw[y3]; refine aA ?_; rw[y6]; refine aA ?_; exact aG.w)
     | true=>
     rw[show okS m=true by rw[hok]; rfl,if_pos rfl];unfold shR;refine aA ?_;rw[y3];refine aA ?_;rw[y6];refine aA ?_;exact aG.w
theorem DS {t:Ty} (h:aX 3 t=true):aB Tryz.prog 127 [.agg (tyR t)] (.tup [.agg (shR (aF 3 t).2),iv (aF 3 t).1]):=by
 refine aB.mkI cF127 (nlB rfl) ?_;have hd:=B4 3 t (by omega) h;have hle:=AS 3 t;have hm:=yH 3 t h;unfold J0 at hm;generalize aF 3 t=r at *;generalize t7 3 t=d at *;obtain⟨e,s⟩:=r;obtain⟨_,k,c,b,st,sz,bl,pl,of,_,rfl,_⟩:=aO h;unfold shR at *;simp only at hm ⊢;rw[tyR] at *;refine aA ?_;rw[dFa (show¬ 8 < d by omega)];refine aA ?_;exact aG.w
theorem qQ {t:Ty} (h:aX 3 t=true):aB Tryz.prog 65 [.agg (tyR t)] (.tup [iv (bN (aF 3 t).2.es:Nat),iv (aF 3 t).1]):=by
 refine aB.mkI cF65 (nlB rfl) ?_;have ho:=DS h;have hs:=JY (aF 3 t).2.es (kV h);generalize aF 3 t=r at *;obtain⟨e,s⟩:=r;obtain⟨_,k,c,b,st,sz,bl,pl,of,_,rfl,_⟩:=aO h;unfold shR at *;simp only at ho hs ⊢;rw[tyR] at *;refine aA ?_;exact aG.w
theorem sh_bd {t:Ty} (h:aX 3 t=true):-mP≤(aF 3 t).2.lo∧(aF 3 t).2.lo≤mP∧-mP≤(aF 3 t).2.hi∧(aF 3 t).2.hi≤mP:=by
 by_cases h0:(aF 3 t).1=0
 ·obtain⟨b1,b2,b3,b4,_⟩:=dI 3 t h h0
  exact⟨b1,b2,b3,b4⟩
 ·rw[fF 3 t h0]
  decide
theorem uY {t:Ty} (h:aX 3 t=true):aB Tryz.prog 68 [.agg (tyR t)] (.tup [iv (aF 3 t).2.lo,iv (aF 3 t).2.ext,iv (aF 3 t).1]):=by
 refine aB.mkI cF68 (nlB rfl) ?_;have ho:=DS h;have hb:=sh_bd h;unfold Shp.ext;generalize aF 3 t=r at *;obtain⟨e,s⟩:=r;obtain⟨_,k,c,b,st,sz,bl,pl,of,_,rfl,_⟩:=aO h;unfold shR at *;unfold mP at hb;simp only at ho hb ⊢;rw[tyR] at *;refine aA ?_;rw[Av.wrap_small (show -9223372036854775808≤s.hi - s.lo by omega) (by omega)];refine DK.nil ⟨by kernel_rfl,?_⟩;refine aA ?_;exact aG.w
theorem LM {t:Ty} (h:aX 3 t=true):aB Tryz.prog 130 [.agg (tyR t),iv 1] (.tup [.list 2 (enR (aF 3 t).2.es),iv (aF 3 t).1]):=by
 refine aB.mkI cF130 (nlB rfl) ?_;have ho:=DS h;have hsb:=dI 3 t h;have her:=fF 3 t;generalize aF 3 t=r at *;obtain⟨e,s⟩:=r;obtain⟨_,k,c,b,st,sz,bl,pl,of,_,rfl,_⟩:=aO h;unfold shR at *;simp only at ho hsb her ⊢;rw[tyR] at *;refine aA ?_;refine AWP.condN (e≠0) rfl (d9 e) (fun h1=>?_) (fun h1=>?_)
 ·rw[show s=shp0 from her h1,show enR shp0.es=[] from rfl]
  refine aA ?_;exact aG.w
 obtain rfl:e=0:=dBc h1;obtain⟨b1,b2,b3,b4,b5,b6,b7,b8,b9⟩:=hsb rfl;have hel:=bZ s.es;have hp:=List.length_pos_iff.2 b7;have hq:1≤4096 / s.es.length:=(Nat.le_div_iff_mul_le hp).2 (by omega);unfold mP at *;refine aA ?_;rw[hel];refine aA ?_;rw[dFa (by omega)];refine aA ?_;have hn1:IntKind.i64.wrap (((1:Nat):Int))=1:=rfl;refine AWP.loop (fun i:Nat=>[(1,iv 1),(6,.cptr [.list 2 (enR s.es),iv s.lo,iv s.hi]),(8,.hsl 0 0 0 (if i=0 then[] else s.es).length),(9,iv i)]) (fun i=>[[.cells 2 (enR (if i=0 then[] else s.es))]]) (fun i=>i≤1) (fun i=>1 - i) 0 (nZl _) ?_ ?_
 ·rw[if_pos rfl]
  exact Sub.wl [2] [[(2,0)]]
 rintro i hi;refine aA ?_;refine AWP.condN (i < 1) rfl (by first | rfl | (refine decide_eq_decide.2 ?_; omega)) (fun h=>?_) (fun h=>?_)
 ·obtain rfl:i=0:=by omega
  rw[if_pos rfl];refine aA ?_;refine AWP.loop (fun j:Nat=>[(1,iv 1),(6,.cptr [.list 2 (enR s.es),iv s.lo,iv s.hi]),(8,.hsl 0 0 0 (s.es.take j).length),(9,iv 0),(10,iv j)]) (fun j=>[[.cells 2 (enR (s.es.take j))]]) (fun j=>j≤s.es.length) (fun j=>s.es.length - j) 0 (nZl _) ?_ ?_
  ·exact Sub.wl [] [[(0,0)]]
  rintro j hj;refine aA ?_;rw[hel];refine AWP.condN (j < s.es.length) rfl rfl (fun h2=>?_) (fun h2=>?_)
  ·have hr:=gQ s.es j h2
   have hx:=b9 s.es[j] (gMe _);have htk:=cU h2;have hfa:=lX s.es[j].2;have htl:=bZ (s.es.take j)
   have hzw:aJ s.es[j].2 (-mP) mP=true:=by
    unfold aJ mP;rw[dTr hx.1,dTr hx.2];rfl
   rw[hzw] at hfa
   have hle:(s.es.take j).length≤4096:=by rw[List.length_take]; omega
   generalize s.es[j]=y at *;generalize s.es.take j=out at *
   have hz9:enR out++[[iv y.1,iv y.2]]=enR (out++[y]):=by simp[enR]
   refine aA ?_;rw[Av.wrap_small (show -9223372036854775808≤s.hi - s.lo by omega) (by omega),Int.zero_mul,show IntKind.i64.wrap 0=0 from rfl,Int.add_zero,Av.wrap_small (show -9223372036854775808≤y.2 by omega) (by omega)];refine DK.nil ⟨by kernel_rfl,?_⟩;refine aA ?_;refine⟨j+1,by omega,by omega,?_⟩;rw[htk,lAp];exact Sub.wl [] [[(3,0)]]
  ·obtain rfl:s.es.length=j:=by omega
   rw[List.take_length];refine aA ?_;refine⟨1,Nat.le_refl _,Nat.one_pos,?_⟩;rw[if_neg (by omega)];exact Sub.wl [] [[(0,0)]]
 ·obtain rfl:i=1:=by omega
  rw[if_neg (by omega)];refine aA ?_;exact aG.w
theorem wD {t:Ty} (h:aX 3 t=true):aB Tryz.prog 69 [.agg (tyR t),iv 1] (.tup [.list 1 (inR (bW (aF 3 t).2.es)),iv (aF 3 t).1]):=by
 refine aB.mkI cF69 (nlB rfl) ?_;have ho:=LM h;have hl:=kV h
 have hb:∀ y∈(aF 3 t).2.es,-mP≤y.2∧y.2≤mP:=by
  by_cases h0:(aF 3 t).1=0
  ·exact(dI 3 t h h0).2.2.2.2.2.2.2.2
  ·rw[fF 3 t h0]
   exact fun y hy=>by cases hy
 have hp:=D8 (aF 3 t).2.es hl hb;have her:=fF 3 t;generalize aF 3 t=r at *;obtain⟨e,s⟩:=r;obtain⟨_,k,c,b,st,sz,bl,pl,of,_,rfl,_⟩:=aO h;simp only at ho hp her ⊢;rw[tyR] at *;refine aA ?_;refine AWP.condN (e≠0) rfl (d9 e) (fun h1=>?_) (fun h1=>?_)
 ·rw[show s=shp0 from her h1,show inR (bW shp0.es)=[] from rfl]
  refine aA ?_;exact aG.w
 obtain rfl:e=0:=dBc h1;refine aA ?_;exact aG.w
theorem C2 {s:Sn} (h:lG s.pl s.ext=true) (hl:0 < s.pl.length) (ha:0≤s.at'):∀ k:Nat,(k:Int)≤dD s k
 | 0=>by
  obtain⟨h1,_⟩:=rB h hl;unfold gJ at h1;rw[if_pos rfl] at h1
  have e:dD s 0=s.at'+s.pl.getD 0 0:=by unfold dD; simp
  rw[e];omega
 | k+1=>by
  have h1:=C2 h hl ha k;have h2:=pF h hl k;omega
def z8 (s:Sn) (f n:Nat):List Int:=(List.range n).map fun i=>dD s (f+i)
def EB (s:Sn) (f n:Nat):List Int×Bool:=if n=0 then([],true) else if 65536 < f then([],false) else if okV (z8 s f n)=true then(z8 s f n,true) else([],false)
def BV (s:Sn) (off n:Nat):List Int×Bool:=if 65536 < off then([],decide (n=0)) else EB s (off * s.elem.toNat) n
theorem JP {s:Sn} {off n:Nat} (h:lG s.pl s.ext=true) (hl:0 < s.pl.length) (ha:0≤s.at'):BV s off n=jN s off n:=by
 have hv:z8 s (off * s.elem.toNat) n=iU s off n:=rfl;unfold BV jN EB;rw[hv]
 by_cases h0:n=0
 ·subst h0
  have:iU s off 0=[]:=rfl;rw[this]
  by_cases h1:65536 < off
  ·rw[if_pos h1]; rfl
  ·rw[if_neg h1]; rfl
 ·by_cases h1:65536 < off
  ·rw[if_pos h1,dFa h0]
   exact(if_pos ⟨Nat.pos_of_ne_zero h0,h1⟩).symm
  ·rw[if_neg h1,if_neg h0,if_neg (show¬ (0 < n∧65536 < off) from fun q=>h1 q.2)]
   by_cases h2:65536 < off * s.elem.toNat
   ·rw[if_pos h2]
    refine(if_neg fun q=>?_).symm;have:=nO.1 q (dD s (off * s.elem.toNat+0)) (mOg (QY (i:=0) (Nat.pos_of_ne_zero h0)));have:=C2 h hl ha (off * s.elem.toNat+0);omega
   ·rw[if_neg h2]
theorem sE {a:Int} {e o:Ty} (h:(cT a e o).1=0):(cT a e o).2=⟨a,(bN (aF 3 e).2.es:Nat),(aF 3 o).2.ext,bW (aF 3 o).2.es⟩∧(aF 3 e).1=0∧(aF 3 o).1=0∧lG (bW (aF 3 o).2.es) (aF 3 o).2.ext=true:=by
 unfold cT at h ⊢
 by_cases c1:a < 0∨65536 < a
 ·rw[if_pos c1] at h; cases h
 rw[if_neg c1] at h ⊢
 by_cases c2:(aF 3 e).1≠0
 ·rw[if_pos c2] at h; exact absurd h c2
 rw[if_neg c2] at h ⊢
 by_cases c3:(aF 3 o).1≠0
 ·rw[if_pos c3] at h; exact absurd h c3
 rw[if_neg c3] at h ⊢
 by_cases c4:lG (bW (aF 3 o).2.es) (aF 3 o).2.ext=true
 ·rw[if_pos c4] at h ⊢
  by_cases c5:FB (bN (aF 3 e).2.es) (bN (aF 3 o).2.es)=true
  ·rw[if_pos c5]
   exact⟨rfl,dBc c2,dBc c3,c4⟩
  ·rw[if_neg c5] at h; cases h
 ·rw[if_neg c4] at h; cases h
theorem JD {a:Int} {e o:Ty} (he:aX 3 e=true) (ho:aX 3 o=true):aB Tryz.prog 17 [.agg (vwR a e o)] (iv (cT a e o).1):=by
 refine aB.mkI (ha:=⟨fun c hc=>by simp only[List.mem_cons,List.not_mem_nil,or_false] at hc; rcases hc with rfl | rfl | rfl<;>first | exact qN.out | exact .sc _⟩) cF17 (nlB rfl) ?_;have e1:=qQ he;have o1:=qQ ho;have o2:=uY ho;have o3:=wD ho;have hn1:=eQ (aF 3 e).2.es;have hn2:=eQ (aF 3 o).2.es;have hel:=kV he;have hol:=kV ho;have hpl:=lV (aF 3 o).2.es;have hasc:=UF (bW (aF 3 o).2.es) (aF 3 o).2.ext (by omega);unfold cT;generalize aF 3 e=re at *;generalize aF 3 o=ro at *;obtain⟨ee,se⟩:=re;obtain⟨eo,so⟩:=ro;simp only at e1 o1 o2 o3 hn1 hn2 hel hol hpl hasc ⊢;obtain⟨_,k1,c1,b1,s1,z1,l1,p1,f1,_,rfl,_⟩:=aO he;obtain⟨_,k2,c2,b2,s2,z2,l2,p2,f2,_,rfl,_⟩:=aO ho;generalize hne:bN se.es=ne at *;generalize hno:bN so.es=no at *;generalize bW so.es=pl at *;generalize so.ext=ext at *;generalize hasb:lG pl ext=asb at *;rw[tyR] at e1 o1 o2 o3;unfold vwR;rw[tyR,tyR];refine aA ?_
 by_cases ha:a < 0
 ·rw[dTr ha,if_pos (.inl ha)]
  refine aA ?_;exact aG.w
 rw[dFa ha];refine aA ?_;refine AWP.condN (65536 < a) rfl rfl (fun h=>?_) (fun h=>?_)
 ·rw[if_pos (.inr h)]
  refine aA ?_;exact aG.w
 rw[if_neg (by omega)];refine aA ?_;refine AWP.condN (ee≠0) rfl (d9 _) (fun h1=>?_) (fun h1=>?_)
 ·rw[if_pos h1]
  refine aA ?_;exact aG.w
 rw[if_neg h1];refine aA ?_;refine AWP.condN (eo≠0) rfl (d9 _) (fun h2=>?_) (fun h2=>?_)
 ·rw[if_pos h2]
  refine aA ?_;exact aG.w
 rw[if_neg h2];unfold FB;generalize hR:ite (asb=true) _ _=R;refine aA ?_
 by_cases g1:ne < 1
 ·rw[dTr g1,show R.1=2 by rw[← hR,dFa (show¬ 1≤ne by omega)]; cases asb<;>rfl]
  refine aA ?_;exact aG.w
 rw[dFa g1];refine aA ?_
 by_cases g2:no < 1
 ·rw[dTr g2,show R.1=2 by rw[← hR,dFa (show¬ 1≤no by omega),Bool.false_and,Bool.and_false]; cases asb<;>rfl]
  refine aA ?_;exact aG.w
 rw[dFa g2];rw[dTr (show 1≤ne by omega),dTr (show 1≤no by omega)] at hR;refine aA ?_
 by_cases g3:no % ne=0
 ·rw[dTr g3] at hR ⊢
  cases asb with
  | false=>
   rw[show R.1=2 by rw[← hR]; rfl];refine aA ?_;exact aG.w
  | true=>
   rw[show R.1=0 by rw[← hR]; rfl];refine aA ?_;exact aG.w
 ·rw[dFa g3] at hR ⊢
  rw[show R.1=2 by rw[← hR]; cases asb<;>rfl];refine aA ?_;exact aG.w
theorem KR {s:Sn} {f n:Nat}:(z8 s f n).length=n:=by simp[z8]
theorem QS {a:Int} {e o:Ty} (he:aX 3 e=true) (ho:aX 3 o=true) (hv:(cT a e o).1=0) (f n:Nat) (hf:f≤3000000000) (hn:n≤5000):aB Tryz.prog 129 [.agg (vwR a e o),iv f,iv n] (.tup [.list 1 (inR (EB (cT a e o).2 f n).1),bv (EB (cT a e o).2 f n).2]):=by
 refine aB.mkI (ha:=⟨fun c hc=>by simp only[List.mem_cons,List.not_mem_nil,or_false] at hc; rcases hc with rfl | rfl | rfl<;>first | exact qN.out | exact .sc _⟩) cF129 (nlB rfl) ?_;have o2:=uY ho;have o3:=wD ho;have hs:=m5 he ho hv;obtain⟨v1,v2,v3,v4⟩:=sE hv
 have e1:(cT a e o).2.pl=bW (aF 3 o).2.es:=by rw[v1]
 have e2:(cT a e o).2.ext=(aF 3 o).2.ext:=by rw[v1]
 have e3:(cT a e o).2.at'=a:=by rw[v1]
 rw[v3,← e1] at o3;rw[v3,← e2] at o2;generalize (cT a e o).2=s at *;generalize (aF 3 o).2.lo=lo at *;clear v1 v2 v3 v4 e1 e2;unfold EB;obtain⟨_,k1,c1,b1,s1,z1,l1,p1,f1,_,rfl,_⟩:=aO he;obtain⟨_,k2,c2,b2,s2,z2,l2,p2,f2,_,rfl,_⟩:=aO ho;rw[tyR] at o2 o3;unfold vwR;rw[tyR,tyR];refine aA ?_;refine AWP.condN (n=0) rfl (by first | rfl | (simp; done)) (fun h0=>?_) (fun h0=>?_)
 ·rw[if_pos h0,show inR (([],true):List Int×Bool).1=[] from rfl]
  refine aA ?_;exact aG.w
 rw[if_neg h0];refine aA ?_;refine AWP.condN (65536 < f) rfl (by first | rfl | (simp; done)) (fun h1=>?_) (fun h1=>?_)
 ·rw[if_pos h1,show inR (([],false):List Int×Bool).1=[] from rfl]
  refine aA ?_;exact aG.w
 rw[if_neg h1];have hil:=bF s.pl;obtain⟨⟨q1,q2⟩,⟨q3,q4⟩,⟨q5,q6⟩,q7,q8,q9⟩:=hs;unfold mP at q5 q6
 have hgi:∀ i,i < n→(z8 s f n)[i]?=some (dD s (f+i)):=fun i hi=>by
  unfold z8;simp[hi]
 have hvl:(z8 s f n).length=n:=KR;generalize hvv:z8 s f n=vv at *;refine aA ?_;refine AWP.loop (fun i:Nat=>[(1,iv f),(2,iv n),(3,.cptr [iv a,iv k1,iv c1,iv b1,iv s1,.list 1 (inR z1),.list 1 (inR l1),.list 1 (inR p1),.list 8 (aM f1),iv k2,iv c2,iv b2,iv s2,.list 1 (inR z2),.list 1 (inR l2),.list 1 (inR p2),.list 8 (aM f2)]),(8,.list 1 (inR s.pl)),(11,iv s.ext),(13,.hsl 0 0 0 (vv.take i).length),(14,iv (f+i:Nat))]) (fun i=>[[.cells 1 (inR (vv.take i))]]) (fun i=>i≤n∧∀ p∈vv.take i,p < 65536) (fun i=>n - i) 0 ⟨nZl _,fun p hp=>by simp at hp⟩ ?_ ?_
 ·exact Sub.wl [1] [[(1,0)]]
 rintro i ⟨hi,hin⟩;refine aA ?_;refine AWP.condN (i < n) rfl (by first | rfl | exact decide_eq_decide.2 (by omega)) (fun h=>?_) (fun h=>?_)
 ·have hg:=hgi i h
  have hp0:dD s (f+i)=a+(((f+i) / s.pl.length:Nat):Int) * s.ext+s.pl.getD ((f+i) % s.pl.length) 0:=by unfold dD; rw[e3]
  have hkm:(f+i) % s.pl.length < s.pl.length:=Nat.mod_lt _ q7;have hr:=dJ s.pl ((f+i) % s.pl.length) hkm;have hpb:=q9 s.pl[(f+i) % s.pl.length] (gMe _)
  have hgd:s.pl.getD ((f+i) % s.pl.length) 0=s.pl[(f+i) % s.pl.length]:=by simp[hkm]
  rw[hgd] at hp0;generalize s.pl[(f+i) % s.pl.length]=pv' at *;have hq:(f+i) / s.pl.length≤f+i:=Nat.div_le_self _ _
  obtain⟨Q,hQ⟩:∃ Q,Q=(f+i) / s.pl.length:=⟨_,rfl⟩
  rw[← hQ] at hq hp0;have hmu:=iL (a:=s.ext) (b:=(Q:Int)) (A:=1048576) (B:=3000005000) q5 q6 (by omega) (by omega)
  have htl:(vv.take i).length≤1000000:=by rw[List.length_take]; omega
  have htk:vv.take (i+1)=vv.take i++[dD s (f+i)]:=by rw[List.take_add_one,hg]; rfl
  have hol:=bF (vv.take i);rw[Int.mul_comm (Q:Int)] at hp0;generalize hpp:dD s (f+i)=p at *
  have hz9:inR (vv.take i)++[[iv p]]=inR (vv.take i++[p]):=by simp[inR]
  refine aA ?_;rw[hil];refine aA ?_;rw[← hQ,Av.wrap_small (show -9223372036854775808≤s.ext * (Q:Int) by omega) (by omega),Av.wrap_small (show -9223372036854775808≤a+s.ext * (Q:Int) by omega) (by omega),Av.wrap_small (show -9223372036854775808≤a+s.ext * (Q:Int)+pv' by omega) (by omega),← hp0];refine DK.nil ⟨by kernel_rfl,?_⟩;refine aA ?_;refine AWP.condN (65536≤p) rfl rfl (fun h2=>?_) (fun h2=>?_)
  ·have hno:¬ okV vv=true:=fun q=>by
    have:=nO.1 q p (mOg hg);omega
   rw[if_neg hno,show inR (([],false):List Int×Bool).1=[] from rfl];refine aA ?_;exact aG.w
  ·refine aA ?_
   refine⟨i+1,⟨by omega,fun y hy=>?_⟩,by omega,?_⟩
   ·rw[htk] at hy
    rcases List.mem_append.1 hy with hy | hy
    ·exact hin y hy
    ·rw[List.mem_singleton.1 hy]; omega
   rw[htk,lAp];exact Sub.wl [] [[(3,0)]]
 ·obtain rfl:n=i:=by omega
  rw[List.take_of_length_le (by omega)] at hin ⊢;rw[if_pos (nO.2 hin)];have hol:=bF vv;refine aA ?_;exact aG.w
theorem SP {a k1 c1 b1 s1 k2 c2 b2 s2:Int} {z1 l1 p1 z2 l2 p2:List Int} {f1 f2:List Ty}:vwR a (.mk k1 c1 b1 s1 z1 l1 p1 f1) (.mk k2 c2 b2 s2 z2 l2 p2 f2)=[iv a,iv k1,iv c1,iv b1,iv s1,.list 1 (inR z1),.list 1 (inR l1),.list 1 (inR p1),.list 8 (aM f1),iv k2,iv c2,iv b2,iv s2,.list 1 (inR z2),.list 1 (inR l2),.list 1 (inR p2),.list 8 (aM f2)]:=by
 unfold vwR;rw[tyR,tyR];rfl
theorem P5 {a:Int} {e o:Ty} (he:aX 3 e=true) (ho:aX 3 o=true) (hv:(cT a e o).1=0) (f n:Nat) (hf:f < 9223372036854775808) (hn:n≤5000):aB Tryz.prog 66 [.agg (vwR a e o),iv f,iv n] (.tup [.list 1 (inR (BV (cT a e o).2 f n).1),bv (BV (cT a e o).2 f n).2]):=by
 refine aB.mkI (ha:=⟨fun c hc=>by simp only[List.mem_cons,List.not_mem_nil,or_false] at hc; rcases hc with rfl | rfl | rfl<;>first | exact qN.out | exact .sc _⟩) cF66 (nlB rfl) ?_;have e1:=qQ he;have hs:=m5 he ho hv;obtain⟨v1,v2,v3,v4⟩:=sE hv
 have hE:(cT a e o).2.elem=(bN (aF 3 e).2.es:Nat):=by rw[v1]
 have hp:f≤65536→aB Tryz.prog 129 [.agg (vwR a e o),iv ((f * bN (aF 3 e).2.es:Nat)),iv n] (.tup [.list 1 (inR (EB (cT a e o).2 (f * bN (aF 3 e).2.es) n).1),bv (EB (cT a e o).2 (f * bN (aF 3 e).2.es) n).2]):=fun h=>by
  refine QS he ho hv _ n ?_ hn;have:=hs.2.1.2;have:f * bN (aF 3 e).2.es≤65536 * 40000:=Nat.mul_le_mul h (by omega);omega
 have hEb:=hs.2.1.2;unfold BV;rw[hE] at hEb ⊢;rw[Int.toNat_natCast];generalize bN (aF 3 e).2.es=E at *;generalize (cT a e o).2=s at *;generalize (aF 3 e).1=ee at *;obtain⟨_,k1,c1,b1,s1,z1,l1,p1,f1,_,rfl,_⟩:=aO he;obtain⟨_,k2,c2,b2,s2,z2,l2,p2,f2,_,rfl,_⟩:=aO ho;rw[SP] at hp ⊢;rw[tyR] at e1;refine aA ?_;refine AWP.condN (65536 < f) rfl rfl (fun h1=>?_) (fun h1=>?_)
 ·rw[if_pos h1,show inR (([],decide (n=0)):List Int×Bool).1=[] from rfl]
  refine aA ?_;exact aG.w
 rw[if_neg h1];have hp':=hp (by omega);have hfe:f * E≤65536 * 40000:=Nat.mul_le_mul (by omega) (by omega);refine aA ?_;exact aG.w
theorem iP {n:Nat} {t:Ty} (h:nG (n+1) t):∃ k c b s sz bl pl of,t=.mk k c b s sz bl pl of:=by
 cases t with
 | mk k c b s sz bl pl of=>exact⟨k,c,b,s,sz,bl,pl,of,rfl⟩
 | raw=>exact h.elim
theorem G9 {a:Int} {e o:Ty} (he:nG 3 e) (ho:nG 3 o):aB Tryz.prog 12 [.agg (vwR a e o)] (.tup [.agg (vwR a e o),bv (aX 3 e && aX 3 o)]):=by
 refine aB.mkI (hX:=⟨.tup _ (by
  intro c hc;simp only[List.mem_cons,List.not_mem_nil,or_false] at hc
  rcases hc with rfl | rfl
  ·exact qN.out
  ·exact .sc _)⟩) (ha:=⟨fun c hc=>by rw[List.mem_singleton.1 hc]; exact qN.out⟩) cF12 (nlB rfl) ?_
 have se:aB Tryz.prog 19 [.agg (tyR e),iv 3] (bv (aX 3 e)):=wG 3 e (by omega) he;have so:aB Tryz.prog 19 [.agg (tyR o),iv 3] (bv (aX 3 o)):=wG 3 o (by omega) ho;obtain⟨k1,c1,b1,s1,z1,l1,p1,f1,rfl⟩:=iP he;obtain⟨k2,c2,b2,s2,z2,l2,p2,f2,rfl⟩:=iP ho;generalize aX 3 (Ty.mk k1 c1 b1 s1 z1 l1 p1 f1)=g1 at *;generalize aX 3 (Ty.mk k2 c2 b2 s2 z2 l2 p2 f2)=g2 at *
 have e0:vwR a (Ty.mk k1 c1 b1 s1 z1 l1 p1 f1) (Ty.mk k2 c2 b2 s2 z2 l2 p2 f2)=[iv a,iv k1,iv c1,iv b1,iv s1,.list 1 (inR z1),.list 1 (inR l1),.list 1 (inR p1),.list 8 (aM f1),iv k2,iv c2,iv b2,iv s2,.list 1 (inR z2),.list 1 (inR l2),.list 1 (inR p2),.list 8 (aM f2)]:=by unfold vwR; rw[tyR,tyR]; rfl
 rw[e0];rw[tyR] at se so
 cases g1 with
 | false=>
  refine aA ?_;refine DK.nil ⟨by kernel_rfl,?_⟩;refine aA ?_;exact aG.w
 | true=>
  refine aA ?_;refine DK.nil ⟨by kernel_rfl,?_⟩;refine aA ?_;exact aG.w
end Go.Proofs.YtgdocflpobncmaaGreat
