import Derived.Test.YtgdocflpobncmaaGreatGFtG10
import Derived.Test.YtgdocflpobncmaaGreatGFtG3
import Derived.Test.YtgdocflpobncmaaGreatGFtE5
namespace Go.Proofs.YtgdocflpobncmaaGreat
open Go.Av Go.Proofs
set_option maxRecDepth 20000
set_option maxHeartbeats 4000000 in
theorem O6 {c b st:Int} {sz bl pl:List Int} {of:List Ty} {l:List Shp} {f:Nat→List (Int×Int)} (hl:l≠[]) (hx:∀ i,i < l.length→shB (l.getD i shp0)) (hbn:bl.length≤4096) (hpn:pl.length=bl.length) (hlb:l.length=bl.length) (hbl:∀ i,0≤bl.getD i 0∧bl.getD i 0≤4096) (hpl:∀ i,-1048576≤pl.getD i 0∧pl.getD i 0≤1048576) (hf:∀ i,f i=(List.range (bl.getD i 0).toNat).map fun j:Nat=>((i:Int),pl.getD i 0+j * (l.getD i shp0).ext)) (hn:∀ i j:Nat,i < bl.length→(j:Int)≤bl.getD i 0→stB (cK l (bW f i j))) (_hln:l.length≤1000000):
  aG Tryz.prog 181 [.agg (tyR (.mk 9 c b st sz bl pl of)),.list 3 (shL l)] [] fun res H'=>res=.agg (shR (cK l (bW f bl.length 0)))∧H'=[]:=by
 rw[tyR]
 refine aG.of sJ ?_ (nlB rfl)
 have hbk:=eR 9
 have hl0:=List.length_pos_iff.2 hl
 have r0:=jJ l 0 hl0
 have hll:=gT l
 have l2:=bA bl
 have hpu:=fun i hi s D D' by' hs h1 h2=>@xI s (l.getD i shp0) by' D D' (List.replicate 24 .dead) hs (hx i hi) h1 h2
 obtain⟨b1,b2,b3,b4,b5,b6,b7,b8,b9⟩:=hx 0 hl0
 have hfl:∀ i,(f i).length=(bl.getD i 0).toNat:=fun i=>by rw[hf]; simp
 have hsn:∀ i j:Nat,j < (bl.getD i 0).toNat→cK l (bW f i (j+1))=cO (cK l (bW f i j)) (l.getD i shp0) (pl.getD i 0+j * (l.getD i shp0).ext):=fun i j hj=>by
  rw[d8 (m:=((i:Int),pl.getD i 0+j * (l.getD i shp0).ext)) (by rw[hf,List.getElem?_map,List.getElem?_range hj]; rfl),lH]
  rfl
 have hnx:∀ i,cK l (bW f i (bl.getD i 0).toNat)=cK l (bW f (i+1) 0):=fun i=>by rw[fK (hfl i)]
 have h00:cK l (bW f 0 0)=shp0:=by rw[gD]; rfl
 generalize hF:(fun i j=>cK l (bW f i j))=F at *
 have hFi:∀ i j:Nat,cK l (bW f i j)=F i j:=fun i j=>by rw[← hF]
 simp only[hFi] at *
 clear hf hfl
 generalize hx0:l.getD 0 shp0=x0 at *
 unfold shR at r0
 unfold mP at b1 b2 b3 b4 b5 b6
 refine aA ?_
 refine AWP.loop (fun i:Nat=>[(1,.list 3 (shL l)),(2,.cptr [iv 9,iv c,iv b,iv st,.list 1 (inR sz),.list 1 (inR bl),.list 1 (inR pl),.list 8 (aM of)]),(4,.ptr 2 0 0 0),(5,.ptr 1 0 0 0),(15,iv i)]) (fun i=>bH (F i 0)) (fun i=>i≤bl.length) (fun i=>bl.length - i) 0 (Nat.zero_le _) ?_ ?_
 ·rw[h00]
  show Sub _ _ _ _ _ [[.cells 2 []],[.cells 3 [[.hsl 0 0 0 0,iv 0,iv 0]]],[.cells 3 [zS]]]
  unfold zS
  exact Sub.wl [2] [[(4,0)],[(2,0)],[(1,0)]]
 rintro i hi
 unfold bH
 refine aA ?_
 rw[l2]
 refine AWP.condN (i < bl.length) rfl rfl (fun h=>?_) (fun h=>?_)
 ·have r2:=cU h
  have r3:=cU (l:=pl) (i:=i) (by omega)
  obtain⟨Y,hY⟩:∃ Y:Nat,bl.getD i 0=Y:=⟨(bl.getD i 0).toNat,by have:=hbl i; omega⟩
  have hY2:=hbl i
  have hZ:=hpl i
  have hsi:=hsn i
  have hni:=hnx i
  rw[hY] at r2 hY2
  rw[hY,Int.toNat_natCast] at hsi hni
  obtain⟨b1,b2,b3,b4,b5,b6,b7,b8,b9⟩:=hx i (by omega)
  have rx:=jJ l i (by omega)
  have hpi:=hpu i (by omega)
  have hexd:(l.getD i shp0).ext=(l.getD i shp0).hi - (l.getD i shp0).lo:=rfl
  generalize pl.getD i 0=z at *
  generalize l.getD i shp0=x at *
  unfold shR at rx
  unfold mP at b1 b2 b3 b4 b5 b6
  refine aA ?_
  refine AWP.loop (fun j:Nat=>[(1,.list 3 (shL l)),(2,.cptr [iv 9,iv c,iv b,iv st,.list 1 (inR sz),.list 1 (inR bl),.list 1 (inR pl),.list 8 (aM of)]),(4,.ptr 2 0 0 0),(5,.ptr 1 0 0 0),(15,iv i),(16,iv j)]) (fun j=>bH (F i j)) (fun j=>j≤Y) (fun j=>Y - j) 0 (Nat.zero_le _) ?_ ?_
  ·unfold bH
   exact Sub.wl [] [[(0,0)],[(1,0)],[(2,0)]]
  rintro j hj
  unfold bH
  refine aA ?_
  refine AWP.condN (j < Y) rfl rfl (fun h2=>?_) (fun h2=>?_)
  ·obtain⟨m3,m4⟩:=gG (a:=(j:Int)) (b:=x.ext) (A:=4096) (B:=1048576) (by omega) (by omega) (by omega) (by omega)
   have hp:=hpi (F i j) (.cells 3 [[.hsl 0 0 0 (F i j).es.length,iv (F i j).lo,iv (F i j).hi]]) (.cells 3 [zS]) (z+j * x.ext) (hn i j (by omega) (by omega)) (by omega) (by omega)
   rw[← hsi j h2] at hp
   generalize hs2:F i (j+1)=s2 at *
   generalize F i j=s1 at *
   refine c9 ?_
   refine AWP.dkm 24 _ kW rfl rfl (by kernel_rfl) (by kernel_rfl) (by kernel_rfl) ?_
   refine aA ?_
   rw[Av.wrap_small (show -9223372036854775808≤x.hi - x.lo by omega) (by omega),← hexd,Av.wrap_small (show -9223372036854775808≤(j:Int) * x.ext by omega) (by omega),Av.wrap_small (show -9223372036854775808≤z+(j:Int) * x.ext by omega) (by omega)]
   refine DK.nil ⟨by kernel_rfl,?_⟩
   refine Reg.c (Nat.zero_le _) rfl (hp.mono ?_)
   rintro res H' ⟨rfl,rfl⟩
   refine Reg.nil ?_
   refine aA ?_
   refine DK.nil ⟨by kernel_rfl,?_⟩
   refine aA ?_
   refine⟨j+1,by omega,by omega,?_⟩
   rw[hs2]
   exact Sub.wl [] [[(4,0)],[(1,0)],[(2,0)]]
  ·obtain rfl:Y=j:=by omega
   rw[hni]
   refine aA ?_
   refine⟨i+1,by omega,by omega,?_⟩
   exact Sub.wl [] [[(0,0)],[(1,0)],[(2,0)]]
 ·obtain rfl:bl.length=i:=by omega
  have hel:=bK (F bl.length 0).es
  unfold shR
  refine aA ?_
  exact zG [] ⟨rfl,rfl⟩
theorem N6 {k c b st:Int} {sz bl pl:List Int} {of:List Ty} {l:List Shp} (hk:1≤k∧k≤5):aG Tryz.prog 181 [.agg (tyR (.mk k c b st sz bl pl of)),.list 3 (shL l)] [] fun res H'=>res=.agg (shR ⟨[(k,0)],0,bD k⟩)∧H'=[]:=by
 rw[tyR]
 refine aG.of sJ ?_ (nlB rfl)
 have hb:=eR k
 rw[dTr hk] at hb
 generalize bD k=z at *
 unfold shR
 refine aA ?_
 exact zG [] ⟨rfl,rfl⟩
set_option maxHeartbeats 1000000 in
theorem KR {c b st:Int} {sz bl pl:List Int} {of:List Ty} {l:List Shp} (hl:l≠[]) (hx:shB (l.getD 0 shp0)) (hp:pl.length=2) (hpl:∀ i,-1048576≤pl.getD i 0∧pl.getD i 0≤1048576) (_hln:l.length≤1000000):
  aG Tryz.prog 181 [.agg (tyR (.mk 10 c b st sz bl pl of)),.list 3 (shL l)] [] fun res H'=>res=.agg (shR ⟨(l.getD 0 shp0).es,pl.getD 0 0,pl.getD 0 0+pl.getD 1 0⟩)∧H'=[]:=by
 rw[tyR]
 refine aG.of sJ ?_ (nlB rfl)
 have hb:=eR 10
 have hl0:=List.length_pos_iff.2 hl
 have r0:=jJ l 0 hl0
 have hll:=gT l
 obtain⟨b1,b2,b3,b4,b5,b6,b7,b8,b9⟩:=hx
 have p0:=cU (l:=pl) (i:=0) (by omega)
 have p1:=cU (l:=pl) (i:=1) (by omega)
 have q0:=hpl 0
 have q1:=hpl 1
 generalize pl.getD 0 0=y0 at *
 generalize pl.getD 1 0=y1 at *
 generalize l.getD 0 shp0=x at *
 have hel:=bK x.es
 unfold shR at r0 ⊢
 unfold mP at *
 refine aA ?_
 rw[Av.wrap_small (show -9223372036854775808≤y0+y1 by omega) (by omega)]
 refine DK.nil ⟨by kernel_rfl,?_⟩
 refine aA ?_
 exact zG [] ⟨rfl,rfl⟩
def dR (of:List Shp) (l:List (Int×Int)):Nat:=(l.map fun m=>eK of m.1.toNat).sum
theorem AE (of:List Shp):∀(l:List (Int×Int)) (s:Shp),s.es.length≤4096→eU of l s=if s.es.length+dR of l≤4096 then some (l.foldl (fun s m=>cO s (of.getD m.1.toNat shp0) m.2) s) else none
 | [],s,h=>by
  rw[if_pos (by simpa[dR] using h)]
  rfl
 | m::l,s,h=>by
  have e:dR of (m::l)=(of.getD m.1.toNat shp0).es.length+dR of l:=by simp[dR,eK]
  have e2:(cO s (of.getD m.1.toNat shp0) m.2).es.length=s.es.length+(of.getD m.1.toNat shp0).es.length:=by simp[cO]
  show(if 4096 < s.es.length+(of.getD m.1.toNat shp0).es.length then none else eU of l (cO s (of.getD m.1.toNat shp0) m.2))=_
  by_cases q:4096 < s.es.length+(of.getD m.1.toNat shp0).es.length
  ·rw[if_pos q,if_neg (by omega)]
  ·rw[if_neg q,AE of l _ (by omega),e,e2,Nat.add_assoc]
   rfl
theorem JC (of:List Shp) (l:List (Int×Int)):eU of l shp0=if dR of l≤4096 then some (cK of l) else none:=by
 have:=AE of l shp0 (by decide)
 rw[this,show shp0.es.length=0 from rfl,Nat.zero_add]
 rfl
theorem mG {of:List Shp}:∀ {l:List (Int×Int)},(∀ m∈l,m.1=0)→dR of l=l.length * eK of 0
 | [],_=>by simp[dR]
 | m::l,h=>by
  have h1:=h m (by simp)
  have h2:=mG (of:=of) fun m' hm=>h m' (List.mem_cons_of_mem _ hm)
  unfold dR at h2 ⊢
  rw[List.map_cons,List.sum_cons,h2,h1,List.length_cons,Nat.succ_mul,Nat.add_comm]
  rfl
theorem tot6 (of:List Shp) (c e:Int) (hc:1≤c):(dR of (bE c e):Int)=c * eK of 0:=by
 rw[mG (fun m hm=>by
  obtain⟨i,_,rfl⟩:=List.mem_map.1 hm
  rfl)]
 unfold bE
 rw[List.length_map,List.length_range,Int.natCast_mul,show(((max 1 c).toNat:Nat):Int)=c by omega]
theorem zI {f:Nat→List (Int×Int)} {B:Nat} (h:∀ i,(f i).length=B):∀ n,((List.range n).flatMap f).length=n * B
 | 0=>by simp
 | n+1=>by
  rw[List.range_succ,List.flatMap_append,List.length_append,zI h n,Nat.succ_mul]
  simp[h]
theorem tot7 (of:List Shp) (c b st e:Int) (hc:1≤c) (hb:1≤b):(dR of (gA c b st e):Int)=c * b * eK of 0:=by
 rw[mG (fun m hm=>by
  obtain⟨i,_,hm⟩:=List.mem_flatMap.1 hm
  obtain⟨j,_,rfl⟩:=List.mem_map.1 hm
  rfl)]
 unfold gA
 rw[zI (B:=b.toNat) (fun i=>by simp),Int.natCast_mul,Int.natCast_mul,show((c.toNat:Nat):Int)=c by omega,show((b.toNat:Nat):Int)=b by omega]
theorem DH (of:List Shp) (l m:List (Int×Int)):dR of (l++m)=dR of l+dR of m:=by simp[dR]
theorem yP {of:List Shp} {a:Int}:∀ {l:List (Int×Int)},(∀ m∈l,m.1=a)→dR of l=l.length * eK of a.toNat
 | [],_=>by simp[dR]
 | m::l,h=>by
  have h1:=h m (by simp)
  have h2:=yP (of:=of) fun m' hm=>h m' (List.mem_cons_of_mem _ hm)
  unfold dR at h2 ⊢
  rw[List.map_cons,List.sum_cons,h2,h1,List.length_cons,Nat.succ_mul,Nat.add_comm]
theorem xL {of:List Shp} {bl:List Int} {f:Nat→List (Int×Int)} {a:Nat→Int} (hf:∀ i,∀ m∈f i,m.1=a i) (hl:∀ i,((f i).length:Int)=bl.getD i 0):∀ n:Nat,(∀ i,i < n→(a i).toNat=min i (of.length - 1))→(dR of ((List.range n).flatMap f):Int)=kJ bl of n
 | 0,_=>by simp[dR,kJ]
 | n+1,ha=>by
  have ih:=xL hf hl n fun i hi=>ha i (by omega)
  rw[List.range_succ,List.flatMap_append,DH,Int.natCast_add,ih]
  simp only[List.flatMap_cons,List.flatMap_nil,List.append_nil]
  rw[yP (hf n),Int.natCast_mul,hl n,ha n (by omega)]
  rfl
theorem tot8 (of:List Shp) (bl pl:List Int) (e:Int) (h1:of.length=1) (hb:∀ i,0≤bl.getD i 0):(dR of (fW bl pl e):Int)=kJ bl of bl.length:=
 xL (a:=fun _=>0) (fun i m hm=>by
  obtain⟨j,_,rfl⟩:=List.mem_map.1 hm
  rfl) (fun i=>by
  rw[List.length_map,List.length_range]
  have:=hb i
  omega) bl.length fun i _=>by
  rw[h1]
  show(0:Int).toNat=_
  omega
theorem tot9 (of:List Shp) (bl pl:List Int) (h1:of.length=bl.length) (hb:∀ i,0≤bl.getD i 0):(dR of (jV bl pl of):Int)=kJ bl of bl.length:=
 xL (a:=fun i=>(i:Int)) (fun i m hm=>by
  obtain⟨j,_,rfl⟩:=List.mem_map.1 hm
  rfl) (fun i=>by
  rw[List.length_map,List.length_range]
  have:=hb i
  omega) bl.length fun i hi=>by
  show((i:Int)).toNat=_
  omega
theorem D3 {of:List Shp}:∀ {l:List (Int×Int)} {s:Shp},stB s→(∀ m∈l,shB (of.getD m.1.toNat shp0)∧-1200000000000000000≤m.2∧m.2≤1200000000000000000)→s.es.length+dR of l≤4096→stB (l.foldl (fun s m=>cO s (of.getD m.1.toNat shp0) m.2) s)
 | [],_,hs,_,_=>hs
 | m::l,s,hs,h,ht=>by
  have e:dR of (m::l)=(of.getD m.1.toNat shp0).es.length+dR of l:=by simp[dR,eK]
  have e2:(cO s (of.getD m.1.toNat shp0) m.2).es.length=s.es.length+(of.getD m.1.toNat shp0).es.length:=by simp[cO]
  obtain⟨h1,h2,h3⟩:=h m (by simp)
  exact D3 (l:=l) (s:=cO s (of.getD m.1.toNat shp0) m.2) (xW hs h1 h2 h3 (by omega)) (fun m' hm=>h m' (List.mem_cons_of_mem _ hm)) (by omega)
theorem BQ {of:List Shp} {l m:List (Int×Int)} (h:dR of (l++m)≤4096):dR of l≤4096:=by
 rw[DH] at h
 omega
theorem DL {of:List Shp} {l r:List (Int×Int)} (h:∀ m∈l++r,shB (of.getD m.1.toNat shp0)∧-1200000000000000000≤m.2∧m.2≤1200000000000000000) (ht:dR of (l++r)≤4096):stB (cK of l):=
 D3 vI (fun m hm=>h m (List.mem_append_left _ hm)) (by
  have:=BQ ht
  show 0+_≤4096
  omega)
set_option maxHeartbeats 1000000 in
theorem OB (pl:List Int) (ext:Int) (hb:pl.length≤1000000000):aB Tryz.prog 70 [.list 1 (inR pl),iv ext] (bv (nH pl ext)):=by
 refine aB.mkI cF70 (nlB rfl) ?_
 have hl:=bA pl
 have hno:∀ i,i < pl.length→¬ (fS pl i < pl.getD i 0∧pl.getD i 0 < ext)→nH pl ext=false:=fun i hi h=>by
  rw[Bool.eq_false_iff]
  intro q
  have:=List.all_eq_true.1 q i (List.mem_range.2 hi)
  simp only[Bool.and_eq_true,decide_eq_true_eq] at this
  exact h this
 refine aA ?_
 refine AWP.loop (fun i:Nat=>[(0,.list 1 (inR pl)),(1,iv ext),(5,iv i)]) (fun _=>[]) (fun i=>i≤pl.length∧(∀ j,j < i→fS pl j < pl.getD j 0∧pl.getD j 0 < ext)∧∀ j,j < i→0≤pl.getD j 0) (fun i=>pl.length - i) 0 ⟨Nat.zero_le _,fun j h=>absurd h (Nat.not_lt_zero j),fun j h=>absurd h (Nat.not_lt_zero j)⟩ ?_ ?_
 ·exact Sub.w [] []
 rintro i ⟨hi,hg,hz⟩
 refine aA ?_
 rw[hl]
 refine AWP.condN (i < pl.length) rfl rfl (fun h=>?_) (fun h=>?_)
 ·have r:=cS pl i h
  rw[show pl[i]=pl.getD i 0 by simp[h]] at r
  have hni:=hno i h
  have hgo:fS pl i < pl.getD i 0∧pl.getD i 0 < ext→0≤pl.getD i 0→(∀ j,j < i+1→fS pl j < pl.getD j 0∧pl.getD j 0 < ext)∧∀ j,j < i+1→0≤pl.getD j 0:=fun q1 q2=>by
   refine⟨fun j hj=>?_,fun j hj=>?_⟩
   ·rcases Nat.lt_or_ge j i with z | z
    ·exact hg j z
    ·obtain rfl:j=i:=by omega
     exact q1
   ·rcases Nat.lt_or_ge j i with z | z
    ·exact hz j z
    ·obtain rfl:j=i:=by omega
     exact q2
  cases i with
  | zero=>
   have hl0:fS pl 0=-1:=rfl
   rw[hl0] at hni hgo
   generalize pl.getD 0 0=y at *
   refine aA ?_
   by_cases n1:y < 0
   ·rw[hni (by omega),dTr n1]
    refine aA ?_
    refine DK.nil ⟨by kernel_rfl,?_⟩
    refine aA ?_
    exact aI.w
   rw[dFa n1]
   refine aA ?_
   by_cases n2:ext≤y
   ·rw[hni (by omega)]
    rw[show decide (y≥ext)=true from dTr n2]
    refine aA ?_
    refine DK.nil ⟨by kernel_rfl,?_⟩
    refine aA ?_
    exact aI.w
   rw[show decide (y≥ext)=false from dFa n2]
   refine aA ?_
   refine DK.nil ⟨by kernel_rfl,?_⟩
   refine aA ?_
   refine⟨1,⟨by omega,hgo (by omega) (by omega)⟩,by omega,?_⟩
   exact Sub.w [] []
  | succ j=>
   have r2:=cS pl j (by omega)
   rw[show pl[j]'(by omega)=pl.getD j 0 by simp[show j < pl.length by omega]] at r2
   have hl1:fS pl (j+1)=pl.getD j 0:=by unfold fS; rw[if_neg (by omega),Nat.add_sub_cancel]
   have hzj:=hz j (by omega)
   rw[hl1] at hni hgo
   generalize pl.getD (j+1) 0=y at *
   generalize pl.getD j 0=x at *
   refine aA ?_
   by_cases n1:y < 0
   ·rw[hni (by omega),dTr n1]
    refine aA ?_
    refine DK.nil ⟨by kernel_rfl,?_⟩
    refine aA ?_
    exact aI.w
   rw[dFa n1]
   refine aA ?_
   by_cases n2:ext≤y
   ·rw[hni (by omega)]
    rw[show decide (y≥ext)=true from dTr n2]
    refine aA ?_
    refine DK.nil ⟨by kernel_rfl,?_⟩
    refine aA ?_
    exact aI.w
   rw[show decide (y≥ext)=false from dFa n2]
   refine aA ?_
   refine DK.nil ⟨by kernel_rfl,?_⟩
   refine AWP.condN (y≤x) rfl rfl (fun n3=>?_) (fun n3=>?_)
   ·rw[hni (by omega)]
    refine aA ?_
    exact aI.w
   refine aA ?_
   have hgo2:=hgo (And.intro (by omega) (by omega)) (by omega)
   refine⟨j+1+1,And.intro (by omega) hgo2,by omega,?_⟩
   exact Sub.w [] []
 ·obtain rfl:pl.length=i:=by omega
  rw[show nH pl ext=true from List.all_eq_true.2 fun j hj=>by
   have:=hg j (List.mem_range.1 hj)
   simp only[Bool.and_eq_true,decide_eq_true_eq]
   exact this]
  refine aA ?_
  exact aI.w
theorem D0 {sz bl pl:List Int} {e:Int}:∀(F:Nat) (a:List Nat),a.length=sz.length→okD bl sz.length a→F=prS bl sz.length - rkS bl a sz.length→(dI sz bl pl e F a).length=F
 | 0,_,_,_,_=>rfl
 | F+1,a,hl,ho,hF=>by
  have hs:=o7 sz.length a (Nat.le_refl _) hl ho
  rw[dI,List.length_cons]
  cases hi:iE bl sz.length a with
  | none=>
   rw[hi] at hs
   simp only at hs ⊢
   have:=z0 ho
   rw[List.length_nil]
   omega
  | some b=>
   rw[hi] at hs
   obtain⟨h1,_,h3,h4⟩:=hs
   simp only
   rw[D0 F b h1 h3 (by omega)]
theorem xO {sz bl pl:List Int} {e:Int}:∀(F:Nat) (a:List Nat) (m:Int×Int),m∈dI sz bl pl e F a→∃ a',m=(0,rH sz pl a' * e)
 | 0,_,_,h=>by cases h
 | F+1,a,m,h=>by
  rw[dI] at h
  rcases List.mem_cons.1 h with h | h
  ·exact⟨a,h⟩
  ·cases hi:iE bl sz.length a with
   | none=>rw[hi] at h; cases h
   | some b=>rw[hi] at h; exact xO F b m h
theorem BA {sz bl pl:List Int} (hs:uK sz bl pl=true) (a:List Nat):∀ k,k≤sz.length→0≤gI sz pl a k∧gI sz pl a k≤huge
 | 0,_=>⟨by simp[gI],by simp[gI,huge]⟩
 | k+1,hk=>by
  obtain⟨i1,i2⟩:=BA hs a k (by omega)
  have h:=List.all_eq_true.1 hs k (List.mem_range.2 (by omega))
  simp only[aH,Bool.and_eq_true,decide_eq_true_eq] at h
  have:=Int.mul_nonneg i1 (show 0≤sz.getD k 0 by omega)
  rw[l9]
  unfold huge at *
  omega
theorem vZ:∀(bl:List Int) (n:Nat),(∀ x∈bl,1≤x)→(j6 bl (n:Int)≤4096↔(bl.map Int.toNat).foldl (· * ·) 1 * n≤4096)∧0≤j6 bl n
 | [],n,_=>by
  simp only[j6,List.map_nil,List.foldl_nil]
  omega
 | x::xs,n,h=>by
  have h1:=h x (by simp)
  have hf:∀(l:List Nat) (a:Nat),l.foldl (· * ·) a=a * l.foldl (· * ·) 1:=fun l=>by
   induction l with
   | nil=>intro a; simp
   | cons y l ih=>intro a; rw[List.foldl_cons,List.foldl_cons,ih,ih (1 * y),Nat.one_mul,Nat.mul_assoc]
  have hp:∀(l:List Int),(∀ y∈l,1≤y)→1≤(l.map Int.toNat).foldl (· * ·) 1:=fun l=>by
   induction l with
   | nil=>intro _; simp
   | cons y l ih=>
    intro hy
    rw[List.map_cons,List.foldl_cons,hf,Nat.one_mul]
    exact Nat.mul_le_mul (show 1≤y.toNat by have:=hy y (by simp); omega) (ih fun z hz=>hy z (by simp[hz]))
  rw[j6,List.map_cons,List.foldl_cons,hf,Nat.one_mul]
  by_cases q:(n:Int)≤4096
  ·rw[if_pos q]
   obtain⟨X,rfl⟩:∃ X:Nat,x=X:=⟨x.toNat,by omega⟩
   have ih:=vZ xs (n * X) fun y hy=>h y (by simp[hy])
   rw[Int.natCast_mul] at ih
   rw[Int.toNat_natCast,show X * (xs.map Int.toNat).foldl (· * ·) 1 * n=(xs.map Int.toNat).foldl (· * ·) 1 * (n * X) by rw[Nat.mul_comm X,Nat.mul_assoc,Nat.mul_comm X n]]
   exact ih
  ·rw[if_neg q]
   refine⟨⟨fun h=>absurd h q,fun h9=>?_⟩,by omega⟩
   have h2:=hp xs fun y hy=>h y (by simp[hy])
   have h3:1 * 1≤x.toNat * (xs.map Int.toNat).foldl (· * ·) 1:=Nat.mul_le_mul (by omega) h2
   have h4:=Nat.mul_le_mul_right n h3
   omega
theorem E2 {sz bl pl:List Int} {e:Int} (h1:bl.length=sz.length) (h2:∀ i,i < bl.length→1≤bl.getD i 0):(fT sz bl pl e).length=(bl.map Int.toNat).foldl (· * ·) 1:=by
 have hp:=lS (bl:=bl) (Nat.le_refl _)
 rw[List.take_length] at hp
 unfold fT
 rw[hp]
 have hr:=rZ (bl:=bl) (n:=sz.length) (k:=sz.length)
 refine D0 _ _ List.length_replicate (fun i hi=>?_) (by rw[hr,h1]; rfl)
 rw[show(List.replicate sz.length 0).getD i 0=0 by simp[List.getD_eq_getElem?_getD,hi]]
 have:=h2 i (by omega)
 omega
theorem tot11 {of:List Shp} {sz bl pl:List Int} {e:Int} (h1:bl.length=sz.length) (h2:∀ i,i < bl.length→1≤bl.getD i 0):(j6 bl (eK of 0)≤4096↔dR of (fT sz bl pl e)≤4096):=by
 rw[mG (fun m hm=>by
  obtain⟨a,rfl⟩:=xO _ _ m hm
  rfl),E2 h1 h2]
 exact(vZ bl (eK of 0) fun x hx=>by
  obtain⟨i,hi,rfl⟩:=List.getElem_of_mem hx
  have:=h2 i hi
  simpa[hi] using this).1
theorem bld10 (l:List Shp) (e:Int):(cK l (bE 0 e)).es=(l.getD 0 shp0).es:=by
 rw[show bE 0 e=[(0,0 * e)] from rfl]
 show[]++(l.getD 0 shp0).es.map (fun y=>(y.1,y.2+0 * e))=_
 simp
def atP (pl:List Int) (a:List Nat):List Int:=List.zipWith (fun(p:Int) (x:Nat)=>p+x) pl a
theorem DB {pl:List Int} {a:List Nat} (h:a.length=pl.length):(inR (atP pl a)).length=a.length:=by simp[inR,atP,h]
theorem nX {pl:List Int} {a:List Nat} {k:Nat} (h:a.length=pl.length) (hk:k < a.length):(inR (atP pl a))[k]?=some [iv (pl.getD k 0+(a.getD k 0:Nat))]:=by
 have hp:k < pl.length:=by omega
 have e:(atP pl a)[k]?=some (pl.getD k 0+(a.getD k 0:Nat)):=by
  unfold atP
  rw[List.getElem?_zipWith,gEg hp,gEg hk]
  simp[hp,hk]
 unfold inR
 rw[List.getElem?_map,e]
 rfl
theorem xU {pl:List Int} {a:List Nat} {k:Nat} {v:Nat} (h:a.length=pl.length) (hk:k < a.length):(inR (atP pl a)).set k [iv (pl.getD k 0+(v:Nat))]=inR (atP pl (a.set k v)):=by
 have e:∀(pl:List Int) (a:List Nat) (k:Nat),a.length=pl.length→k < a.length→(atP pl a).set k (pl.getD k 0+(v:Nat))=atP pl (a.set k v):=fun pl=>by
  induction pl with
  | nil=>intro a k h hk; simp at h; simp[h] at hk
  | cons p pl ih=>
   intro a k h hk
   cases a with
   | nil=>simp at hk
   | cons x a=>
    cases k with
    | zero=>simp[atP]
    | succ k=>
     have:=ih a k (by simpa using h) (by simpa using hk)
     simpa[atP] using this
 rw[← e pl a k h hk]
 unfold inR
 rw[List.map_set]
theorem I8 {pl:List Int}:atP pl (List.replicate pl.length 0)=pl:=by
 unfold atP
 induction pl with
 | nil=>rfl
 | cons p pl ih=>simp[List.replicate_succ,ih]
def bHA (s:Shp) (A:List Int):Heap:=[[.cells 2 (enR s.es)],[.cells 3 [[.hsl 0 0 0 s.es.length,iv s.lo,iv s.hi]]],[.cells 3 [zS]],[.cells 1 (inR A)]]
def rM (sz:List Int) (k:Nat):Int:=(sz.take k).foldl (fun n s=>min (n * s) huge) 1
theorem wE {sz:List Int} {k:Nat} (h:k < sz.length):rM sz (k+1)=min (rM sz k * sz.getD k 0) huge:=by
 unfold rM
 rw[List.take_add_one,gEg h,List.foldl_append]
 simp[h]
theorem xZ {sz:List Int} (h:∀ i,i < sz.length→0≤sz.getD i 0):∀ k,k≤sz.length→0≤rM sz k∧rM sz k≤huge
 | 0,_=>⟨by simp[rM],by simp[rM,huge]⟩
 | k+1,hk=>by
  obtain⟨i1,i2⟩:=xZ h k (by omega)
  rw[wE hk]
  have:=Int.mul_nonneg i1 (h k hk)
  unfold huge at *
  omega
set_option maxHeartbeats 4000000 in
theorem LZ {c b st:Int} {sz bl pl:List Int} {of:List Ty} {l:List Shp} {n:Nat} (hl:l≠[]) (hx:shB (l.getD 0 shp0)) (hn1:1≤n) (hn4:n≤4) (hsz:sz.length=n) (hbl:bl.length=n) (hpl:pl.length=n) (hsub:uK sz bl pl=true) (hn:∀ p r,fT sz bl pl (l.getD 0 shp0).ext=p++r→stB (cK l p)) (_hln:l.length≤1000000):
  aG Tryz.prog 181 [.agg (tyR (.mk 11 c b st sz bl pl of)),.list 3 (shL l)] [] fun res H'=>res=.agg (shR ⟨(cK l (fT sz bl pl (l.getD 0 shp0).ext)).es,(l.getD 0 shp0).lo,(l.getD 0 shp0).lo+uR sz * (l.getD 0 shp0).ext⟩)∧H'=[]:=by
 rw[tyR]
 refine aG.of sJ ?_ (nlB rfl)
 have hbk:=eR 11
 have hl0:=List.length_pos_iff.2 hl
 have r0:=jJ l 0 hl0
 have hll:=gT l
 have hpu:=fun s D D' E by' hs h1 h2=>@xI s (l.getD 0 shp0) by' D D' E hs hx h1 h2
 obtain⟨b1,b2,b3,b4,b5,b6,b7,b8,b9⟩:=id hx
 have hexd:(l.getD 0 shp0).ext=(l.getD 0 shp0).hi - (l.getD 0 shp0).lo:=rfl
 have hsnoc:∀(p:List (Int×Int)) (u:Int),cO (cK l p) (l.getD 0 shp0) u=cK l (p++[(0,u)]):=fun p u=>by rw[lH]; rfl
 have hbs:∀ i,i < n→1≤sz.getD i 0∧sz.getD i 0≤4096∧1≤bl.getD i 0∧bl.getD i 0≤sz.getD i 0∧0≤pl.getD i 0∧pl.getD i 0≤4096:=fun i hi=>by
  have:=List.all_eq_true.1 hsub i (List.mem_range.2 (by omega))
  simp only[aH,Bool.and_eq_true,decide_eq_true_eq] at this
  omega
 have hlin:=BA hsub
 rw[hsz] at hlin
 have hlS:∀ a,rH sz pl a=gI sz pl a n:=fun a=>by unfold rH gI; rw[hsz]
 have hxs:fT sz bl pl (l.getD 0 shp0).ext=dI sz bl pl (l.getD 0 shp0).ext (prS bl n) (List.replicate n 0):=by
  unfold fT
  rw[hsz,← hbl,← lS (Nat.le_refl _),List.take_length]
 have hsl:=bA sz
 have hbll:=bA bl
 have hpll:=bA pl
 generalize l.getD 0 shp0=x at *
 unfold shR at r0 ⊢
 unfold mP at *
 have g0:=hbs 0 (by omega)
 have p0:=cU (l:=pl) (i:=0) (by omega)
 have q0:=cU (l:=bl) (i:=0) (by omega)
 refine aA ?_
 rw[Av.wrap_small (show -9223372036854775808≤x.hi - x.lo by omega) (by omega),← hexd]
 refine aA ?_
 refine AWP.loop2 (fun(_:List Nat) (_:Shp)=>[(2,.cptr [iv 11,iv c,iv b,iv st,.list 1 (inR sz),.list 1 (inR bl),.list 1 (inR pl),.list 8 (aM of)]),(4,.ptr 2 0 0 0),(5,.ptr 1 0 0 0),(8,.cptr [.list 2 (enR x.es),iv x.lo,iv x.hi]),(9,iv x.ext),(17,.hsl 3 0 0 (n))]) (fun a s=>bHA s (atP pl a)) (fun a s=>a.length=n∧((okD bl n a∧∃ p,s=cK l p∧fT sz bl pl x.ext=p++dI sz bl pl x.ext (prS bl n - rkS bl a n) a)∨(a.getD 0 0=(bl.getD 0 0).toNat∧s=cK l (fT sz bl pl x.ext)))) (fun a _=>if a.getD 0 0 < (bl.getD 0 0).toNat then prS bl n - rkS bl a n+1 else 0) (List.replicate n 0) shp0 ⟨List.length_replicate,.inl ⟨fun i hi=>?_,[],rfl,by rw[hxs,rZ]; rfl⟩⟩ ?_ ?_
 ·have:=(hbs i hi).2.2.1
  rw[show(List.replicate n 0).getD i 0=0 by simp[List.getD_eq_getElem?_getD,hi]]
  omega
 ·rw[← hpl,I8]
  show Sub _ _ _ _ _ [[.cells 2 []],[.cells 3 [[.hsl 0 0 0 0,iv 0,iv 0]]],[.cells 3 [zS]],[.cells 1 (inR pl)]]
  unfold zS
  exact Sub.wl [2] [[(6,0)],[(2,0)],[(1,0)],[(5,0)]]
 rintro a s0 ⟨hla,hcase⟩
 have hal:=DB (pl:=pl) (a:=a) (by omega)
 have ra0:=nX (pl:=pl) (a:=a) (k:=0) (by omega) (by omega)
 unfold bHA
 refine aA ?_
 rw[Av.wrap_small (show -9223372036854775808≤pl.getD 0 0+bl.getD 0 0 by omega) (by omega)]
 refine DK.nil ⟨by kernel_rfl,?_⟩
 refine aA ?_
 refine AWP.condN (a.getD 0 0 < (bl.getD 0 0).toNat) rfl (decide_eq_decide.2 (by omega)) (fun h0=>?_) (fun h0=>?_)
 ·rcases hcase with⟨hoa,p,rfl,hall⟩ | ⟨q,_⟩
  rotate_left
  ·omega
  have hrk:=z0 hoa
  rw[if_pos h0]
  obtain⟨F,hF⟩:∃ F,prS bl n - rkS bl a n=F+1:=⟨prS bl n - rkS bl a n - 1,by omega⟩
  rw[hF] at hall ⊢
  refine aA ?_
  refine AWP.loop (fun q:Nat=>[(2,.cptr [iv 11,iv c,iv b,iv st,.list 1 (inR sz),.list 1 (inR bl),.list 1 (inR pl),.list 8 (aM of)]),(4,.ptr 2 0 0 0),(5,.ptr 1 0 0 0),(8,.cptr [.list 2 (enR x.es),iv x.lo,iv x.hi]),(9,iv x.ext),(17,.hsl 3 0 0 (n)),(18,iv (gI sz pl a q)),(19,iv q)]) (fun _=>bHA (cK l p) (atP pl a)) (fun q=>q≤n) (fun q=>n - q) 0 (Nat.zero_le _) ?_ ?_
  ·unfold bHA
   exact Sub.wl [] [[(0,0)],[(1,0)],[(2,0)],[(3,0)]]
  ·rintro q hq
   unfold bHA
   refine aA ?_
   refine AWP.condN (q < n) rfl rfl (fun h=>?_) (fun h=>?_)
   ·have r1:=cU (l:=sz) (i:=q) (by omega)
    have r2:=nX (pl:=pl) (a:=a) (k:=q) (by omega) (by omega)
    have hl1:=hlin a q hq
    have hl2:gI sz pl a (q+1)=_:=l9
    obtain⟨g1,g2,g3,g4,g5,g6⟩:=hbs q h
    have g7:=hoa q h
    generalize gI sz pl a q=u at *
    generalize sz.getD q 0=z at *
    generalize pl.getD q 0=pq at *
    generalize a.getD q 0=aq at *
    unfold huge at hl1 hl2
    have hw:=gG (a:=u) (b:=z) (A:=1099511627776) (B:=4096) (by omega) (by omega) (by omega) (by omega)
    refine aA ?_
    rw[Av.wrap_small (show -9223372036854775808≤u * z by omega) (by omega),Av.wrap_small (show -9223372036854775808≤u * z+(pq+(aq:Nat)) by omega) (by omega)]
    refine DK.nil ⟨by kernel_rfl,?_⟩
    refine aA ?_
    refine⟨q+1,by omega,by omega,?_⟩
    rw[hl2,Int.add_assoc (u * z)]
    exact Sub.wl [] [[(0,0)],[(1,0)],[(2,0)],[(3,0)]]
   ·obtain rfl:n=q:=by omega
    have hl1:=hlin a n (Nat.le_refl _)
    rw[← hlS] at hl1 ⊢
    have hxs2:dI sz bl pl x.ext (F+1) a=(0,rH sz pl a * x.ext)::match iE bl n a with
     | some b=>dI sz bl pl x.ext F b
     | none=>[]:=by
     rw[dI,hsz]
     cases iE bl n a<;>rfl
    have hinc:=o7 n a (Nat.le_refl _) hla hoa
    have hs0:=hn p _ hall
    rw[hxs2] at hall
    generalize rH sz pl a=u at *
    unfold huge at hl1
    have hw:=gG (a:=u) (b:=x.ext) (A:=1099511627776) (B:=1048576) (by omega) (by omega) b5 b6
    have hp:=hpu (cK l p) (.cells 3 [[.hsl 0 0 0 (cK l p).es.length,iv (cK l p).lo,iv (cK l p).hi]]) (.cells 3 [zS]) [.cells 1 (inR (atP pl a))] (u * x.ext) hs0 (by omega) (by omega)
    rw[hsnoc] at hp
    generalize hs2:cK l (p++[(0,u * x.ext)])=s2 at *
    generalize cK l p=s1 at *
    obtain⟨N,rfl⟩:∃ N,n=N+1:=⟨n - 1,by omega⟩
    have hN:IntKind.i64.wrap (((N+1:Nat):Int) - 1)=(N:Int):=by rw[Av.wrap_small (by omega) (by omega)]; omega
    have rN:=nX (pl:=pl) (a:=a) (k:=N) (by omega) (by omega)
    have hgN:=hbs N (by omega)
    have hoN:=hoa N (by omega)
    refine aA ?_
    rw[Av.wrap_small (show -9223372036854775808≤u * x.ext by omega) (by omega)]
    refine Reg.c (Nat.zero_le _) rfl (hp.mono ?_)
    rintro res H' ⟨rfl,rfl⟩
    refine aA ?_
    have hz9:(inR (atP pl a)).set (N+1 - 1) ([iv (pl.getD N 0+(a.getD N 0:Nat))].set 0 (.sc (.int .i64 (IntKind.i64.wrap (pl.getD N 0+(a.getD N 0:Nat)+1)))))=inR (atP pl (a.set N (a.getD N 0+1))):=by
     rw[Av.wrap_small (by omega) (by omega),← xU (v:=a.getD N 0+1) (by omega) (by omega),Int.add_assoc]
     rfl
    refine AWP.loop2 (fun(kk:Nat) (_:List Nat)=>[(2,.cptr [iv 11,iv c,iv b,iv st,.list 1 (inR sz),.list 1 (inR bl),.list 1 (inR pl),.list 8 (aM of)]),(4,.ptr 2 0 0 0),(5,.ptr 1 0 0 0),(8,.cptr [.list 2 (enR x.es),iv x.lo,iv x.hi]),(9,iv x.ext),(17,.hsl 3 0 0 (N+1)),(20,iv kk)]) (fun _ a2=>bHA s2 (atP pl a2)) (fun kk a2=>kk < N+1∧∃ b',a2=b'.set kk (b'.getD kk 0+1)∧b'.length=N+1∧okD bl (kk+1) b'∧iE bl (kk+1) b'=iE bl (N+1) a) (fun kk _=>kk) N (a.set N (a.getD N 0+1)) ⟨by omega,a,rfl,hla,hoa,rfl⟩ ?_ ?_
    ·unfold bHA
     exact Sub.wl [] [[(4,0)],[(1,0)],[(2,0)],[(3,0)]]
    rintro kk a2 ⟨hk,b',ha2,hlb,hob,hib⟩
    have hbk:=hob kk (by omega)
    have hgk:=hbs kk hk
    have hl2:a2.length=N+1:=by rw[ha2,List.length_set]; exact hlb
    have e2:a2.getD kk 0=b'.getD kk 0+1:=by rw[ha2,dO (by omega),if_pos rfl]
    have r2:=nX (pl:=pl) (a:=a2) (k:=kk) (by omega) (by omega)
    have hal2:=DB (pl:=pl) (a:=a2) (by omega)
    rw[e2] at r2
    have rp:=cU (l:=pl) (i:=kk) (by omega)
    have rb:=cU (l:=bl) (i:=kk) (by omega)
    unfold bHA
    refine aA ?_
    by_cases h5:0 < kk
    ·rw[dTr h5]
     refine aA ?_
     rw[Av.wrap_small (show -9223372036854775808≤pl.getD kk 0+bl.getD kk 0 by omega) (by omega)]
     refine DK.nil ⟨by kernel_rfl,?_⟩
     refine aA ?_
     refine AWP.condN (b'.getD kk 0+1=(bl.getD kk 0).toNat) rfl (by first | (refine decide_eq_decide.2 ?_; omega) | skip) (fun h6=>?_) (fun h6=>?_)
     ·obtain⟨q,rfl⟩:∃ q,kk=q+1:=⟨kk - 1,by omega⟩
      have hq1:IntKind.i64.wrap (((q+1:Nat):Int) - 1)=(q:Int):=by rw[Av.wrap_small (by omega) (by omega)]; omega
      have hq2:(a2.set (q+1) 0).getD q 0=a2.getD q 0:=by rw[dO (by omega),if_neg (by omega)]
      have hoq:=hob q (by omega)
      have hgq:=hbs q (by omega)
      have hbq:a2.getD q 0=b'.getD q 0:=by rw[ha2,dO (by omega),if_neg (by omega)]
      have hg7:∀ r,((inR (atP pl a2)).set (q+1) r)[q+1 - 1]?=some [iv (pl.getD q 0+(a2.getD q 0:Nat))]:=fun r=>by
       rw[List.getElem?_set_ne (by omega)]
       exact nX (by omega) (by omega)
      have hz8:((inR (atP pl a2)).set (q+1) [iv (pl.getD (q+1) 0)]).set q [iv (pl.getD q 0+(a2.getD q 0:Nat)+1)]=inR (atP pl ((a2.set (q+1) 0).set q ((a2.set (q+1) 0).getD q 0+1))):=by
       rw[← xU (a:=a2.set (q+1) 0) (by rw[List.length_set]; omega) (by rw[List.length_set]; omega),← xU (a:=a2) (by omega) (by omega),hq2,Int.add_assoc,Int.natCast_add]
       simp
      refine aA ?_
      refine Reg.o rfl (l5 rfl rfl (hg7 _) rfl) ?_
      refine aA ?_
      refine Reg.on rfl (mE rfl rfl rfl (hg7 _) (by simp) rfl) ?_
      refine aA ?_
      refine⟨q,(a2.set (q+1) 0).set q ((a2.set (q+1) 0).getD q 0+1),⟨by omega,a2.set (q+1) 0,rfl,by rw[List.length_set]; exact hl2,fun i hi=>?_,?_⟩,by omega,?_⟩
      ·rw[dO (by omega),if_neg (by omega),ha2,dO (by omega),if_neg (by omega)]
       exact hob i (by omega)
      ·rw[← hib,show iE bl (q+1+1) b'=iE bl (q+1) (b'.set (q+1) 0) by rw[iE,if_neg (by omega)],ha2,List.set_set]
      (apply Sub.to [] [[(0,0)],[(1,0)],[(2,0)],[(3,0)]]; all_goals (repeat' (first | exact aT.nil | exact aK.nil | exact bN.nil | exact ToL.nil | exact ToR.nil | refine aT.cons ?_ ?_ | refine aK.cons ?_ ?_ | refine eJ ?_ ?_ | exact To.undef _ | exact To.sc _ | exact To.hslL rfl rfl | exact To.asl _ _ _ _ _ _ _ rfl | refine To.ifc _ _ _ ?_ | exact To.ptrO rfl rfl rfl | exact To.mrefO rfl | exact To.nil rfl rfl rfl | exact wt1 | exact To.nilL | refine To.int ?_ | refine To.bool ?_ | refine To.hslL rfl ?_ | refine wt2 rfl ?_ ?_ ?_ | refine To.tupL ?_ | refine To.aggL ?_ | refine To.cptrL ?_ | refine To.fzp rfl rfl rfl ?_ | refine To.fzm rfl rfl ?_ | refine To.cloL ?_ ?_ | refine wt3 ?_ | refine wt4 ?_ | exact wt5 | refine wt6 ?_ | refine ToB.one ?_ | exact wt7 | ((with_reducible apply ToL.consE); case e9=>rfl) | refine wt8 ?_ | refine ToL.cons ?_ ?_ | exact wt11 | refine wt9 ?_ ?_ | refine wt12 ?_ | exact .yld _ _ _ _ rfl | exact .dead _ | exact hlp _ _ _ _ rfl rfl rfl | exact hlp _ _ _ rfl rfl rfl | exact hlp _ _ _ rfl rfl | exact hlp _ _ _ rfl | (with_reducible rfl) | assumption)); all_goals (first | rfl | assumption | (simp; done) | (simp; omega) | (rw[wrap_small (by omega) (by omega)]; done) | (rw[wrap_small (by omega) (by omega)]; omega) | (refine congrArg Nat.cast ?_; assumption) | omega | (exact Av.wrap_small (by omega) (by omega)) | skip))
      rw[Av.wrap_small (by omega) (by omega)]
      exact hz8
     ·rw[iE,if_pos (by omega),← ha2] at hib
      rw[← hib] at hinc hall
      obtain⟨i1,i2,i3,i4⟩:=hinc
      refine aA ?_
      refine⟨a2,s2,⟨i1,.inl ⟨i3,p++[(0,u * x.ext)],hs2.symm,by rw[hall,List.append_assoc,show prS bl (N+1) - rkS bl a2 (N+1)=F by omega]; rfl⟩⟩,by rw[if_pos (i3 0 (by omega))]; omega,?_⟩
      exact Sub.wl [] [[(0,0)],[(1,0)],[(2,0)],[(3,0)]]
    ·obtain rfl:kk=0:=by omega
     rw[dFa h5]
     refine aA ?_
     refine DK.nil ⟨by kernel_rfl,?_⟩
     refine aA ?_
     by_cases h6:((b'.getD 0 0:Nat):Int)+1 < bl.getD 0 0
     ·rw[iE,if_pos h6,← ha2] at hib
      rw[← hib] at hinc hall
      obtain⟨i1,i2,i3,i4⟩:=hinc
      refine⟨a2,s2,⟨i1,.inl ⟨i3,p++[(0,u * x.ext)],hs2.symm,by rw[hall,List.append_assoc,show prS bl (N+1) - rkS bl a2 (N+1)=F by omega]; rfl⟩⟩,by rw[if_pos (i3 0 (by omega))]; omega,?_⟩
      exact Sub.wl [] [[(0,0)],[(1,0)],[(2,0)],[(3,0)]]
     ·rw[iE,if_neg h6,show iE bl 0 (b'.set 0 0)=none from rfl] at hib
      rw[← hib] at hall
      refine⟨a2,s2,⟨hl2,.inr ⟨by omega,by rw[hall]; exact hs2.symm⟩⟩,by rw[if_neg (by omega)]; omega,?_⟩
      exact Sub.wl [] [[(0,0)],[(1,0)],[(2,0)],[(3,0)]]
 ·rcases hcase with⟨hoa,_⟩ | ⟨_,rfl⟩
  ·exact absurd (hoa 0 (by omega)) h0
  have hak:=xZ (sz:=sz) (fun i hi=>by have:=hbs i (by omega); omega)
  refine aA ?_
  refine AWP.loop (fun i:Nat=>[(2,.cptr [iv 11,iv c,iv b,iv st,.list 1 (inR sz),.list 1 (inR bl),.list 1 (inR pl),.list 8 (aM of)]),(4,.ptr 2 0 0 0),(5,.ptr 1 0 0 0),(8,.cptr [.list 2 (enR x.es),iv x.lo,iv x.hi]),(9,iv x.ext),(17,.hsl 3 0 0 (n)),(21,iv (rM sz i)),(22,iv i)]) (fun _=>bHA (cK l (fT sz bl pl x.ext)) (atP pl a)) (fun i=>i≤n) (fun i=>n - i) 0 (Nat.zero_le _) ?_ ?_
  ·unfold bHA
   exact Sub.wl [] [[(0,0)],[(1,0)],[(2,0)],[(3,0)]]
  ·rintro q hq
   unfold bHA
   refine aA ?_
   rw[hsl,hsz]
   refine AWP.condN (q < n) rfl rfl (fun h=>?_) (fun h=>?_)
   ·have r1:=cU (l:=sz) (i:=q) (by omega)
    have hl1:=hak q (by omega)
    have hl2:=wE (sz:=sz) (k:=q) (by omega)
    obtain⟨g1,g2,_⟩:=hbs q h
    generalize rM sz q=u at *
    generalize sz.getD q 0=z at *
    unfold huge at hl1 hl2
    have hw:=gG (a:=u) (b:=z) (A:=1099511627776) (B:=4096) (by omega) (by omega) (by omega) (by omega)
    refine aA ?_
    rw[Av.wrap_small (show -9223372036854775808≤u * z by omega) (by omega)]
    refine aA ?_
    refine⟨q+1,by omega,by omega,?_⟩
    rw[hl2]
    exact Sub.wl [] [[(0,0)],[(1,0)],[(2,0)],[(3,0)]]
   ·obtain rfl:n=q:=by omega
    have hl1:=hak n (by omega)
    rw[show rM sz n=uR sz by unfold rM uR; rw[← hsz,List.take_length]] at hl1 ⊢
    generalize uR sz=u at *
    unfold huge at hl1
    have hw:=gG (a:=x.ext) (b:=u) (A:=1048576) (B:=1099511627776) (by omega) (by omega) (by omega) (by omega)
    generalize cK l (fT sz bl pl x.ext)=S at *
    have hel:=bK S.es
    refine aA ?_
    rw[Av.wrap_small (show -9223372036854775808≤x.ext * u by omega) (by omega),Av.wrap_small (show -9223372036854775808≤x.lo+x.ext * u by omega) (by omega)]
    refine DK.nil ⟨by kernel_rfl,?_⟩
    refine aA ?_
    rw[Int.mul_comm u]
    exact zG [] ⟨rfl,rfl⟩
theorem CU {l:List Int} {lo hi:Int} (h:cJ l lo hi=true) (h1:lo≤0) (h2:0≤hi) (i:Nat):lo≤l.getD i 0∧l.getD i 0≤hi:=by
 by_cases q:i < l.length
 ·have:=l7 h l[i] (List.getElem_mem _)
  simpa[q] using this
 ·have e:l.getD i 0=0:=by simp[List.getD_eq_getElem?_getD,q]
  rw[e]
  exact⟨h1,h2⟩
structure NK (k c b st:Int) (sz bl pl:List Int):Prop where
 bl1:∀ i,0≤bl.getD i 0∧bl.getD i 0≤4096
 pl1:∀ i,-1048576≤pl.getD i 0∧pl.getD i 0≤1048576
 st1:-1048576≤st∧st≤1048576
 c1:0≤c∧c≤4096
 b1:0≤b∧b≤4096
 c6:k=6∨k=7→1≤c
 b7:k=7→1≤b
 s11:k=11→uK sz bl pl=true
theorem nk_of {k c b st:Int} {sz bl pl:List Int} {n:Nat} (hk:6≤k∧k≤11) (hf:cV k c b st sz bl pl n=0) (hn:oV k c b st sz bl pl=true):NK k c b st sz bl pl:=by
 have hd:=IF hk hf
 rw[hn] at hd
 obtain⟨_,i2,_,_,_,_⟩:=gV hk hf
 obtain⟨_,b2,_,_,_⟩:=oD hf
 unfold AW wR LF at hd
 simp only[Bool.not_eq_true',Bool.or_eq_false_iff,Bool.and_eq_false_iff,Bool.not_eq_false',decide_eq_false_iff_not] at hd
 obtain⟨⟨⟨⟨⟨d1,d2⟩,d3⟩,d4⟩,d5⟩,_⟩:=hd
 have hw:∀ {n lo hi:Int},aH n lo hi=true→lo≤n∧n≤hi:=fun h=>by simpa[aH] using h
 unfold fl2 at b2
 simp only[decide_eq_true_eq] at b2
 refine⟨CU d4 (by omega) (by omega),CU d5 (by decide) (by decide),hw d1,?_,?_,?_,?_,?_⟩
 ·rcases d2 with q | q
  ·rcases i2 with e | e | e<;>omega
  ·have:=hw q; omega
 ·rcases d3 with q | q
  ·rcases b2 with e | e<;>omega
  ·have:=hw q; omega
 ·intro e
  rcases d2 with q | q
  ·omega
  ·exact(hw q).1
 ·intro e
  rcases d3 with q | q
  ·omega
  ·exact(hw q).1
 ·rintro rfl
  unfold oV at hn
  simp only[Bool.and_eq_true] at hn
  simpa using hn.2
theorem BK {x:Shp} (h:shB x):-1048576≤x.ext∧x.ext≤1048576:=by
 obtain⟨_,_,_,_,h1,h2,_⟩:=h
 unfold mP at *
 exact⟨h1,h2⟩
theorem zN {k c b st:Int} {sz bl pl:List Int} {l:List Shp} (hk:6≤k∧k≤11) (hf:cV k c b st sz bl pl l.length=0) (hn:NK k c b st sz bl pl) (hl:∀ x∈l,shB x):∀ m∈dC k c b st sz bl pl l,shB (l.getD m.1.toNat shp0)∧-1200000000000000000≤m.2∧m.2≤1200000000000000000:=by
 obtain⟨i1,i2,i3,i4,i5,i6⟩:=gV hk hf
 have hl1:1≤l.length:=by by_cases h:k=9; exact(i4 h).1; exact Nat.le_of_eq (i1 h).symm
 have hli:∀ i,i < l.length→shB (l.getD i shp0):=fun i hi=>by
  rw[show l.getD i shp0=l[i] by simp[hi]]
  exact hl _ (List.getElem_mem _)
 have h0:=hli 0 hl1
 obtain⟨e1,e2⟩:=BK h0
 have hst:=hn.st1
 have hc:=hn.c1
 have hb:=hn.b1
 obtain rfl | rfl | rfl | rfl | rfl | rfl:k=6∨k=7∨k=8∨k=9∨k=10∨k=11:=by omega
 ·intro m hm
  obtain⟨i,hi,rfl⟩:=List.mem_map.1 hm
  have:=List.mem_range.1 hi
  have:=gG (a:=(i:Int)) (b:=(l.getD 0 shp0).ext) (A:=4096) (B:=1048576) (by omega) (by omega) e1 e2
  exact⟨h0,by simp only; omega,by simp only; omega⟩
 ·intro m hm
  obtain⟨i,hi,hm⟩:=List.mem_flatMap.1 hm
  obtain⟨j,hj,rfl⟩:=List.mem_map.1 hm
  have:=List.mem_range.1 hi
  have:=List.mem_range.1 hj
  have:=gG (a:=(i:Int)) (b:=st) (A:=4096) (B:=1048576) (by omega) (by omega) hst.1 hst.2
  have:=gG (a:=(i:Int) * st+j) (b:=(l.getD 0 shp0).ext) (A:=4300000000) (B:=1048576) (by omega) (by omega) e1 e2
  exact⟨h0,by simp only; omega,by simp only; omega⟩
 ·intro m hm
  obtain⟨i,hi,hm⟩:=List.mem_flatMap.1 hm
  obtain⟨j,hj,rfl⟩:=List.mem_map.1 hm
  have:=List.mem_range.1 hj
  have:=hn.bl1 i
  have:=hn.pl1 i
  have:=gG (a:=pl.getD i 0+(j:Int)) (b:=(l.getD 0 shp0).ext) (A:=4300000000) (B:=1048576) (by omega) (by omega) e1 e2
  exact⟨h0,by simp only; omega,by simp only; omega⟩
 ·intro m hm
  obtain⟨i,hi,hm⟩:=List.mem_flatMap.1 hm
  obtain⟨j,hj,rfl⟩:=List.mem_map.1 hm
  have:=List.mem_range.1 hi
  have:=List.mem_range.1 hj
  have:=hn.bl1 i
  have:=hn.pl1 i
  have hxi:=hli i (by have:=(i4 rfl).2.2.1; omega)
  obtain⟨f1,f2⟩:=BK hxi
  have:=gG (a:=(j:Int)) (b:=(l.getD i shp0).ext) (A:=4096) (B:=1048576) (by omega) (by omega) f1 f2
  exact⟨hxi,by simp only; omega,by simp only; omega⟩
 ·intro m hm
  have hc0:c=0:=by omega
  subst hc0
  rw[show dC 10 0 b st sz bl pl l=[(0,0 * (l.getD 0 shp0).ext)] from rfl] at hm
  rw[List.mem_singleton.1 hm]
  exact⟨h0,by simp,by simp⟩
 ·intro m hm
  obtain⟨a,rfl⟩:=xO _ _ m hm
  have:=BA (hn.s11 rfl) a sz.length (Nat.le_refl _)
  have hls:rH sz pl a=gI sz pl a sz.length:=rfl
  rw[← hls] at this
  unfold huge at this
  have:=gG (a:=rH sz pl a) (b:=(l.getD 0 shp0).ext) (A:=1099511627776) (B:=1048576) (by omega) (by omega) e1 e2
  exact⟨h0,by simp only; omega,by simp only; omega⟩
theorem J8 {k c b st:Int} {sz bl pl:List Int} {l:List Shp} (hk:6≤k∧k≤11) (hf:cV k c b st sz bl pl l.length=0) (hn:NK k c b st sz bl pl):(EJ k c b bl l≤4096↔dR l (dC k c b st sz bl pl l)≤4096):=by
 obtain⟨i1,i2,i3,i4,i5,i6⟩:=gV hk hf
 obtain rfl | rfl | rfl | rfl | rfl | rfl:k=6∨k=7∨k=8∨k=9∨k=10∨k=11:=by omega
 ·have:=tot6 l c (l.getD 0 shp0).ext (hn.c6 (.inl rfl))
  show c * eK l 0≤4096↔dR l (bE c (l.getD 0 shp0).ext)≤4096
  omega
 ·have:=tot7 l c b st (l.getD 0 shp0).ext (hn.c6 (.inr rfl)) (hn.b7 rfl)
  show c * b * eK l 0≤4096↔dR l (gA c b st (l.getD 0 shp0).ext)≤4096
  omega
 ·have:=tot8 l bl pl (l.getD 0 shp0).ext (i1 (by omega)) fun i=>(hn.bl1 i).1
  show kJ bl l bl.length≤4096↔dR l (fW bl pl (l.getD 0 shp0).ext)≤4096
  omega
 ·have:=tot9 l bl pl (i4 rfl).2.2.1.symm fun i=>(hn.bl1 i).1
  show kJ bl l bl.length≤4096↔dR l (jV bl pl l)≤4096
  omega
 ·have hc0:c=0:=by omega
  subst hc0
  show(eK l 0:Int)≤4096↔dR l [(0,0 * (l.getD 0 shp0).ext)]≤4096
  have:dR l [(0,0 * (l.getD 0 shp0).ext)]=eK l 0:=by simp[dR]
  omega
 ·have hs:=hn.s11 rfl
  have hq:=i6 rfl
  show j6 bl (eK l 0)≤4096↔dR l (fT sz bl pl (l.getD 0 shp0).ext)≤4096
  refine tot11 hq.2.2.1 fun i hi=>?_
  have:=List.all_eq_true.1 hs i (List.mem_range.2 (by omega))
  simp only[aH,Bool.and_eq_true,decide_eq_true_eq] at this
  omega
theorem GL {k c b st:Int} {sz bl pl:List Int} {of:List Ty} {l:List Shp} (hk:6≤k∧k≤11) (hf:cV k c b st sz bl pl l.length=0) (hn:NK k c b st sz bl pl) (hl:∀ x∈l,shB x) (ht:dR l (dC k c b st sz bl pl l)≤4096):
  aG Tryz.prog 181 [.agg (tyR (.mk k c b st sz bl pl of)),.list 3 (shL l)] [] fun res H'=>res=.agg (shR (cN k sz pl l (cK l (dC k c b st sz bl pl l))))∧H'=[]:=by
 have hmv:=zN hk hf hn hl
 obtain⟨i1,i2,i3,i4,i5,i6⟩:=gV hk hf
 have hl1:1≤l.length:=by by_cases h:k=9; exact(i4 h).1; exact Nat.le_of_eq (i1 h).symm
 have hle:l.length≤4096:=by by_cases h:k=9; exact(i4 h).2.1; have:=i1 h; omega
 have hne:l≠[]:=List.ne_nil_of_length_pos hl1
 have hli:∀ i,i < l.length→shB (l.getD i shp0):=fun i hi=>by
  rw[show l.getD i shp0=l[i] by simp[hi]]
  exact hl _ (List.getElem_mem _)
 have h0:=hli 0 hl1
 have hpre:∀ p r,dC k c b st sz bl pl l=p++r→stB (cK l p):=fun p r h=>by
  rw[h] at hmv ht
  exact DL hmv ht
 obtain rfl | rfl | rfl | rfl | rfl | rfl:k=6∨k=7∨k=8∨k=9∨k=10∨k=11:=by omega
 ·have hc:=hn.c1
  have hc1:=hn.c6 (.inl rfl)
  refine PG hne h0 ⟨hc1,hc.2⟩ (fun i hi=>?_) (by omega)
  refine hpre _ ((List.range' i (c.toNat - i)).map fun i:Nat=>(0,(i:Int) * (l.getD 0 shp0).ext)) ?_
  show bE c (l.getD 0 shp0).ext=_
  unfold bE
  rw[← List.map_append,List.range_eq_range' ,List.range_eq_range',show(max 1 c).toNat=i+(c.toNat - i) by omega]
  congr 1
  rw[← List.range'_append]
  simp
 ·have hpr:∀ i j:Nat,(i:Int) < c→_:=fun i j hi=>lN (f:=fun i:Nat=>(List.range b.toNat).map fun j:Nat=>((0:Int),((i:Int) * st+j) * (l.getD 0 shp0).ext)) (n:=c.toNat) (j:=j) (show i < c.toNat by omega)
  have:=OU (of:=of) (sz:=sz) (bl:=bl) (pl:=pl) (f:=fun i:Nat=>(List.range b.toNat).map fun j:Nat=>((0:Int),((i:Int) * st+j) * (l.getD 0 shp0).ext)) hne h0 hn.c1 hn.b1 hn.st1 (fun _=>rfl) (fun i j hi hj=>by
   obtain⟨r,hr⟩:=hpr i j hi
   exact hpre _ r hr) (by omega)
  rw[← gB] at this
  exact this
 ·obtain⟨q1,q2,q3⟩:=i3 rfl
  have:=O3 (of:=of) (sz:=sz) (c:=c) (b:=b) (st:=st) (f:=fun i:Nat=>(List.range (bl.getD i 0).toNat).map fun j:Nat=>((0:Int),(pl.getD i 0+j) * (l.getD 0 shp0).ext)) hne h0 q2 q3 hn.bl1 hn.pl1 (fun _=>rfl) (fun i j hi hj=>by
   obtain⟨r,hr⟩:=lN (f:=fun i:Nat=>(List.range (bl.getD i 0).toNat).map fun j:Nat=>((0:Int),(pl.getD i 0+j) * (l.getD 0 shp0).ext)) (j:=j) hi
   exact hpre _ r hr) (by omega)
  rw[← gB] at this
  exact this
 ·obtain⟨q1,q2,q3,q4⟩:=i4 rfl
  have:=O6 (of:=of) (sz:=sz) (c:=c) (b:=b) (st:=st) (f:=fun i:Nat=>(List.range (bl.getD i 0).toNat).map fun j:Nat=>((i:Int),pl.getD i 0+j * (l.getD i shp0).ext)) hne hli (by omega) (by omega) q3.symm hn.bl1 hn.pl1 (fun _=>rfl) (fun i j hi hj=>by
   obtain⟨r,hr⟩:=lN (f:=fun i:Nat=>(List.range (bl.getD i 0).toNat).map fun j:Nat=>((i:Int),pl.getD i 0+j * (l.getD i shp0).ext)) (j:=j) hi
   exact hpre _ r hr) (by omega)
  rw[← gB] at this
  exact this
 ·have hc0:c=0:=by omega
  subst hc0
  have:=KR (of:=of) (c:=0) (b:=b) (st:=st) (sz:=sz) (bl:=bl) hne h0 (i5 rfl) hn.pl1 (by omega)
  rw[show cN 10 sz pl l (cK l (dC 10 0 b st sz bl pl l))=⟨(cK l (bE 0 (l.getD 0 shp0).ext)).es,pl.getD 0 0,pl.getD 0 0+pl.getD 1 0⟩ from rfl,bld10]
  exact this
 ·obtain⟨q1,q2,q3,q4⟩:=i6 rfl
  exact LZ (of:=of) (c:=c) (b:=b) (st:=st) hne h0 q1 q2 rfl q3 q4 (hn.s11 rfl) hpre (by omega)
theorem E4 {k c b st:Int} {sz bl pl:List Int} {l:List Shp} {s:Shp} (hn:NK k c b st sz bl pl) (hx:shB (l.getD 0 shp0)) (hs:stB s):(-big≤(cN k sz pl l s).lo∧(cN k sz pl l s).lo≤big)∧(-big≤(cN k sz pl l s).hi∧(cN k sz pl l s).hi≤big):=by
 unfold cN
 split
 ·have h0:=hn.pl1 0
  have h1:=hn.pl1 1
  unfold big
  simp only
  omega
 split
 ·rename_i h11
  obtain⟨e1,e2⟩:=BK hx
  have hsub:=hn.s11 h11
  have h0:=xZ (sz:=sz) (fun i hi=>by
   have:=List.all_eq_true.1 hsub i (List.mem_range.2 hi)
   simp only[aH,Bool.and_eq_true,decide_eq_true_eq] at this
   omega) sz.length (Nat.le_refl _)
  unfold rM at h0
  rw[List.take_length] at h0
  have ea:uR sz=sz.foldl (fun n s=>min (n * s) huge) 1:=rfl
  rw[← ea] at h0
  unfold huge at h0
  have hm:=gG (a:=uR sz) (b:=(l.getD 0 shp0).ext) (A:=1099511627776) (B:=1048576) (by omega) (by omega) e1 e2
  obtain⟨b1,b2,b3,b4,_⟩:=hx
  unfold mP at *
  unfold big
  simp only
  omega
 ·exact⟨hs.2.1,hs.2.2.1⟩
theorem HS {k:Int}:okS ⟨[(k,0)],0,bD k⟩=true:=by
 have:=dT k
 have ht:bP [(k,(0:Int))]=(min 0 0,max 0 (0+((bD k:Nat):Int))):=rfl
 unfold okS
 rw[ht]
 unfold aH Shp.ext mP
 simp only[Bool.and_eq_true,decide_eq_true_eq]
 omega
theorem FE {n:Nat} {k c b st:Int} {sz bl pl:List Int} {of:List Ty} {l:List Shp} (hseq:lL (aF n) of=(0,l)) (hll:l.length=of.length) (hlb:∀ x∈l,shB x) (h2:sz.length≤1000000) (h3:bl.length≤4096) (h4:pl.length≤1000000) (h1:of.length≤1000000):
  (mY k c b st sz bl pl of.length≠0∧aF (n+1) (.mk k c b st sz bl pl of)=(mY k c b st sz bl pl of.length,shp0)) ∨
  (mY k c b st sz bl pl of.length=0∧aB Tryz.prog 179 [.agg (tyR (.mk k c b st sz bl pl of))] (iv 3)∧aF (n+1) (.mk k c b st sz bl pl of)=(3,shp0)) ∨
  (mY k c b st sz bl pl of.length=0∧aB Tryz.prog 179 [.agg (tyR (.mk k c b st sz bl pl of))] (iv 0)∧∃ q:Int,aB Tryz.prog 180 [.agg (tyR (.mk k c b st sz bl pl of)),.list 3 (shL l)] (iv q) ∧
   ((4096 < q∧aF (n+1) (.mk k c b st sz bl pl of)=(9,shp0))∨(q≤4096∧∃ m:Shp,m.es≠[]∧stB m∧aB Tryz.prog 181 [.agg (tyR (.mk k c b st sz bl pl of)),.list 3 (shL l)] (.agg (shR m))∧aF (n+1) (.mk k c b st sz bl pl of)=if okS m=true then(0,m) else(3,shp0)))):=by
 have hP:aF (n+1) (.mk k c b st sz bl pl of)=if bD k=0∧¬ (6≤k∧k≤11) then(2,shp0) else if cV k c b st sz bl pl of.length≠0 then(cV k c b st sz bl pl of.length,shp0) else if 0 < bD k then(0,⟨[(k,0)],0,bD k⟩) else if oV k c b st sz bl pl=true then o9 k c b st sz bl pl l else(3,shp0):=by
  rw[aF,hseq]
  simp only
  rw[if_neg (by simp)]
 by_cases c1:bD k=0∧¬ (6≤k∧k≤11)
 ·rw[if_pos c1] at hP
  left
  unfold mY
  rw[if_pos c1]
  exact⟨by decide,hP⟩
 have hD:mY k c b st sz bl pl of.length=cV k c b st sz bl pl of.length:=by
  unfold mY
  rw[if_neg c1]
 rw[if_neg c1] at hP
 by_cases c2:cV k c b st sz bl pl of.length=0
 rotate_left
 ·rw[if_pos c2] at hP
  left
  rw[hD]
  exact⟨c2,hP⟩
 rw[if_neg (by simpa using c2)] at hP
 right
 rw[hD]
 by_cases hb:1≤k∧k≤5
 ·have hz:0 < bD k:=Nat.pos_of_ne_zero fun h=>kI.1 h hb
  rw[if_pos hz] at hP
  right
  have hnu:=t5 (k:=k) (c:=c) (b:=b) (st:=st) (sz:=sz) (bl:=bl) (pl:=pl) (of:=of) (by omega) (by omega) h2 (by omega) h4
  rw[if_pos (FP hb c2)] at hnu
  obtain⟨f1,f2,f3,f4,f5⟩:=oD c2
  have hl1:∀ i,eK l i≤4096:=fun i=>by
   unfold eK
   by_cases q:i < l.length
   ·have:=hlb l[i] (List.getElem_mem _)
    rw[show l.getD i shp0=l[i] by simp[q]]
    exact this.2.2.2.2.2.2.2.1
   ·rw[show l.getD i shp0=shp0 by simp[List.getD_eq_getElem?_getD,q]]
    exact Nat.zero_le _
  have hc:c=0:=by
   unfold fl1 at f1
   simp only[decide_eq_true_eq] at f1
   omega
  have hb0:b=0:=by
   unfold fl2 at f2
   simp only[decide_eq_true_eq] at f2
   rcases f2 with q | q
   ·omega
   ·exact q.1
  have hbl:bl=[]:=by
   unfold fl3 at f3
   simp only[decide_eq_true_eq] at f3
   rcases f3 with q | q
   ·omega
   ·exact q
  have hen:=I7 (k:=k) (c:=c) (b:=b) (st:=st) (sz:=sz) (bl:=bl) (pl:=pl) (of:=of) (l:=l) hl1 (by omega) (by omega) (by omega) (fun i=>by rw[hbl]; simp) h3 (by omega)
  rw[show EJ k c b bl l=1 by unfold EJ; rw[if_neg (by omega),if_neg (by omega),if_neg (by omega),if_neg (by omega),if_neg (by omega)]] at hen
  refine⟨c2,hnu,1,hen,.inr ⟨by decide,⟨[(k,0)],0,bD k⟩,by simp,?_,.ofI ((N6 hb).mono fun _ _ h=>h.1),?_⟩⟩
  ·have:=dT k
   refine⟨by simp,?_,?_,fun y hy=>?_⟩
   ·show -big≤(0:Int)∧(0:Int)≤big; decide
   ·show -big≤((bD k:Nat):Int)∧((bD k:Nat):Int)≤big; unfold big; omega
   ·rw[List.mem_singleton.1 hy]
    show -big≤(0:Int)∧(0:Int)≤big; decide
  ·rw[hP,if_pos HS]
 ·have hk:6≤k∧k≤11:=Decidable.byContradiction fun q=>c1 ⟨kI.2 hb,q⟩
  have hz:=kI.2 hb
  rw[if_neg (by omega)] at hP
  obtain⟨i1,i2,i3,i4,i5,i6⟩:=gV hk c2
  have hnu:=t5 (k:=k) (c:=c) (b:=b) (st:=st) (sz:=sz) (bl:=bl) (pl:=pl) (of:=of) i5 (fun h=>(i6 h).2.2) h2 (by omega) h4
  rw[IF hk c2] at hnu
  by_cases hn:oV k c b st sz bl pl=true
  rotate_left
  ·rw[if_neg hn] at hnu hP
   exact .inl ⟨c2,hnu,hP⟩
  rw[if_pos hn] at hnu hP
  have hN:=nk_of hk c2 hn
  have c3:=c2
  rw[← hll] at c3
  have hl1:1≤l.length:=by
   rw[hll]
   by_cases h:k=9
   ·exact(i4 h).1
   ·exact Nat.le_of_eq (i1 h).symm
  have hne:l≠[]:=List.ne_nil_of_length_pos hl1
  have h0:shB (l.getD 0 shp0):=by
   rw[show l.getD 0 shp0=l[0] by simp[show 0 < l.length from hl1]]
   exact hlb _ (List.getElem_mem _)
  have hlo:∀ i,eK l i≤4096:=fun i=>by
   unfold eK
   by_cases q:i < l.length
   ·have:=hlb l[i] (List.getElem_mem _)
    rw[show l.getD i shp0=l[i] by simp[q]]
    exact this.2.2.2.2.2.2.2.1
   ·rw[show l.getD i shp0=shp0 by simp[List.getD_eq_getElem?_getD,q]]
    exact Nat.zero_le _
  have hen:=I7 (k:=k) (c:=c) (b:=b) (st:=st) (sz:=sz) (bl:=bl) (pl:=pl) (of:=of) (l:=l) hlo (fun _=>hne) hN.c1 hN.b1 hN.bl1 h3 (by omega)
  have htot:=J8 hk c3 hN
  refine .inr ⟨c2,hnu,_,hen,?_⟩
  have hput:=JC l (dC k c b st sz bl pl l)
  by_cases ht:dR l (dC k c b st sz bl pl l)≤4096
  ·rw[if_pos ht] at hput
   have hes:=(A3 (ty:=of) hk c3 hn hlb).2.1 _ hput
   have hst:=DL (r:=[]) (by simpa using zN hk c3 hN hlb) (by simpa using ht)
   refine .inr ⟨htot.2 ht,cN k sz pl l (cK l (dC k c b st sz bl pl l)),by rw[lZ]; exact hes,?_,.ofI ((GL hk c3 hN hlb ht).mono fun _ _ h=>h.1),?_⟩
   ·obtain⟨q1,q2⟩:=E4 hN h0 hst
    exact⟨by rw[lZ]; exact hst.1,q1,q2,by rw[lZ]; exact hst.2.2.2⟩
   ·rw[hP]
    unfold o9
    rw[hput]
  ·rw[if_neg ht] at hput
   refine .inl ⟨by have:¬ EJ k c b bl l≤4096:=fun h=>ht (htot.1 h); omega,?_⟩
   rw[hP]
   unfold o9
   rw[hput]
def JL (n:Nat) (t:Ty):Prop:=aB Tryz.prog 156 [.agg (tyR t)] (.tup [.agg (shR (aF n t).2),iv (aF n t).1])
theorem wA {B:Int}:∀(l:List (Int×Int)) (p:Int×Int),(∀ x∈l,-B≤x.2∧x.2≤B)→(-B≤p.1∧p.1≤B)→(-B≤p.2∧p.2≤B+8)→(-B≤(l.foldl tiF p).1∧(l.foldl tiF p).1≤B)∧(-B≤(l.foldl tiF p).2∧(l.foldl tiF p).2≤B+8)
 | [],p,_,h1,h2=>⟨h1,h2⟩
 | x::l,p,h,h1,h2=>by
  have hx:=h x (by simp)
  have:=dT x.1
  exact wA l (tiF p x) (fun y hy=>h y (List.mem_cons_of_mem _ hy)) (by unfold tiF; simp only; omega) (by unfold tiF; simp only; omega)
theorem AH {l:List (Int×Int)} (h:0 < l.length):bP l=l.foldl tiF (l[0].2,l[0].2):=by
 cases l with
 | nil=>cases h
 | cons x r=>rfl
set_option maxHeartbeats 4000000 in
theorem v8:∀(n:Nat) (t:Ty),a8 n t=true→JL n t
 | 0,t,h=>by
  obtain⟨m,_,_,_,_,_,_,_,_,e,_⟩:=aS h
  cases e
 | n+1,t,h=>by
  obtain⟨m,k,c,b,st,sz,bl,pl,of,e,rfl,h1,h2,h3,h4,h5,h6,h7,h8⟩:=aS h
  obtain rfl:n=m:=by omega
  have ih:∀ u∈of,JL n u:=fun u hu=>v8 n u (h8 u hu)
  have e0:tyR (.mk k c b st sz bl pl of)=[iv k,iv c,iv b,iv st,.list 1 (inR sz),.list 1 (inR bl),.list 1 (inR pl),.list 8 (aM of)]:=by rw[tyR]
  have hol:=jX of
  unfold JL
  refine aB.mkI cF156 (nlB rfl) ?_
  rw[e0]
  refine aA ?_
  refine AWP.loop2 (fun(i:Nat) (l:List Shp)=>[(1,.cptr [iv k,iv c,iv b,iv st,.list 1 (inR sz),.list 1 (inR bl),.list 1 (inR pl),.list 8 (aM of)]),(2,.ptr 0 0 0 0),(4,.hsl 1 0 0 l.length),(5,iv i)]) (fun _ l=>[[.cells 3 [r0S]],[.cells 3 (shL l)]]) (fun i l=>i≤of.length∧okL n of l i) (fun i _=>of.length - i) 0 [] ⟨Nat.zero_le _,rfl,fun j hj=>by omega⟩ ?_ ?_
  ·exact Sub.wl [3] [[(1,0)],[(2,0)]]
  rintro i l ⟨hi,hl,hok⟩
  refine aA ?_
  rw[hol]
  refine AWP.condN (i < of.length) rfl rfl (fun h9=>?_) (fun h9=>?_)
  ·have hr:=oQ of i h9
   have hu:=ih of[i] (List.getElem_mem _)
   have hsm:=h8 of[i] (List.getElem_mem _)
   have hub:=c7 n of[i] hsm
   unfold JL at hu
   have hgi:of[i]?=some of[i]:=gEg h9
   generalize of[i]=u at *
   obtain⟨_,k',c',b',st',sz',bl',pl',of',_,rfl,_⟩:=aS hsm
   rw[tyR] at hr hu
   rcases hes:aF n (.mk k' c' b' st' sz' bl' pl' of') with⟨e,s⟩
   rw[hes] at hu hub
   unfold shR at hu
   replace hu:aB Tryz.prog 156 [.agg [iv k',iv c',iv b',iv st',.list 1 (inR sz'),.list 1 (inR bl'),.list 1 (inR pl'),.list 8 (aM of')]] (.tup [.agg [.list 2 (enR s.es),iv s.lo,iv s.hi],iv e]):=hu
   refine aA ?_
   refine AWP.condN (e≠0) rfl (eV e) (fun he=>?_) (fun he=>?_)
   ·have hseq:lL (aF n) of=(e,[]):=xQ hgi hes he fun j v hj hv=>by
     obtain⟨s',_,h5,_⟩:=hok j hj v hv
     rw[h5]
    have hres:aF (n+1) (.mk k c b st sz bl pl of)=(e,shp0):=by
     rw[aF,hseq]
     simp only
     rw[if_pos he]
    rw[hres,show shR (e,shp0).2=[.list 2 [],iv 0,iv 0] from rfl]
    refine aA ?_
    exact aI.w
   ·replace he:e=0:=Decidable.byContradiction he
    subst he
    have hsb:=hub rfl
    have holl:=gT l
    refine aA ?_
    refine⟨i+1,l++[s],⟨by omega,by simp[hl],fun j hj v hv=>?_⟩,by omega,?_⟩
    ·by_cases ej:j=i
     ·subst ej
      rw[hgi] at hv
      injection hv with hv
      subst hv
      exact⟨s,by rw[List.getElem?_append_right (by omega),hl,Nat.sub_self]; rfl,hes,hsb⟩
     ·obtain⟨s',h5,h6⟩:=hok j (by omega) v hv
      exact⟨s',by rw[List.getElem?_append_left (by omega)]; exact h5,h6⟩
    have hz9:shL l++[[.list 2 (enR s.es),iv s.lo,iv s.hi]]=shL (l++[s]):=by simp[shL,shR]
    exact Sub.wl [] [[(0,0)],[(4,0)]]
  ·obtain rfl:of.length=i:=by omega
   have hseq:lL (aF n) of=(0,l):=B9 hl fun j u hj=>by
    obtain⟨s',h5,h6,_⟩:=hok j (gEs.1 hj).1 u hj
    exact⟨s',h5,h6⟩
   have hlb:∀ x∈l,shB x:=fun x hx=>by
    obtain⟨j,hj,rfl⟩:=List.getElem_of_mem hx
    obtain⟨s',h5,_,h6⟩:=hok j (by omega) of[j] (gEg (by omega))
    rw[gEg hj] at h5
    injection h5 with h5
    rw[h5]; exact h6
   refine AWP.exit ?_
   refine AWP.sub (fr':=[(1,.cptr [iv k,iv c,iv b,iv st,.list 1 (inR sz),.list 1 (inR bl),.list 1 (inR pl),.list 8 (aM of)]),(2,.ptr 0 0 0 0),(4,.list 3 (shL l))]) (H':=[[.cells 3 [r0S]]]) ?_ ?_
   ·have holl:=gT l
    exact Sub.wl [] [[(0,0)]]
   have hc:=FE (n:=n) (k:=k) (c:=c) (b:=b) (st:=st) (sz:=sz) (bl:=bl) (pl:=pl) (of:=of) (l:=l) hseq hl hlb (by omega) (by omega) (by omega) (by omega)
   have hfo:=LL (k:=k) (c:=c) (b:=b) (st:=st) (sz:=sz) (bl:=bl) (pl:=pl) (of:=of)
   rw[e0] at hfo hc
   generalize mY k c b st sz bl pl of.length=f at *
   generalize aF (n+1) (.mk k c b st sz bl pl of)=R at *
   have hshl:=gT l
   rcases hc with⟨f0,rfl⟩ | ⟨rfl,hnu,rfl⟩ | ⟨rfl,hnu,q,hen,⟨hq,rfl⟩ | ⟨hq,m,hm1,hm2,hbu,rfl⟩⟩
   ·have hf1:(f == 0)=false:=beq_false_of_ne f0
    have hf2:(f != 0)=true:=by simp[f0]
    rw[show shR (f,shp0).2=[.list 2 [],iv 0,iv 0] from rfl]
    refine aA ?_
    rw[hf1]
    refine aA ?_
    rw[hf2]
    refine aA ?_
    exact aI.w
   ·rw[show shR ((3:Int),shp0).2=[.list 2 [],iv 0,iv 0] from rfl]
    refine aA ?_
    exact aI.w
   ·rw[show shR ((9:Int),shp0).2=[.list 2 [],iv 0,iv 0] from rfl]
    refine aA ?_
    rw[dTr hq]
    refine aA ?_
    exact aI.w
   ·have hm0:=List.length_pos_iff.2 hm1
    obtain⟨w1,w2,w3,w4⟩:=hm2
    have hel:=bK m.es
    have hr0:=eD m.es 0 hm0
    have htf:=AH hm0
    have hb0:=w4 m.es[0] (List.getElem_mem _)
    have hbt:∀ i,(-big≤((m.es.take i).foldl tiF (m.es[0].2,m.es[0].2)).1∧((m.es.take i).foldl tiF (m.es[0].2,m.es[0].2)).1≤big)∧(-big≤((m.es.take i).foldl tiF (m.es[0].2,m.es[0].2)).2∧((m.es.take i).foldl tiF (m.es[0].2,m.es[0].2)).2≤big+8):=fun i=>wA _ _ (fun y hy=>w4 y (List.mem_of_mem_take hy)) hb0 ⟨hb0.1,by have:=hb0.2; simp only; omega⟩
    generalize hA:m.es[0].2=A at *
    unfold big at *
    unfold shR at hbu
    refine aA ?_
    rw[dFa (show¬ 4096 < q by omega)]
    refine aA ?_
    refine DK.nil ⟨by kernel_rfl,?_⟩
    refine aA ?_
    refine AWP.loop (fun i:Nat=>[(2,.ptr 0 0 0 0),(9,.cptr [.list 2 (enR m.es),iv m.lo,iv m.hi]),(10,iv ((m.es.take i).foldl tiF (A,A)).1),(11,iv ((m.es.take i).foldl tiF (A,A)).2),(12,iv i)]) (fun _=>[[.cells 3 [r0S]]]) (fun i=>i≤m.es.length) (fun i=>m.es.length - i) 0 (Nat.zero_le _) ?_ ?_
    ·exact Sub.wl [] [[(0,0)]]
    rintro i hi
    refine aA ?_
    rw[hel]
    refine AWP.condN (i < m.es.length) rfl rfl (fun h=>?_) (fun h=>?_)
    ·have hr:=eD m.es i h
     have hx:=w4 m.es[i] (List.getElem_mem _)
     have wb:=eR m.es[i].1
     have hs:=dT m.es[i].1
     have e:(m.es.take (i+1)).foldl tiF (A,A)=tiF ((m.es.take i).foldl tiF (A,A)) m.es[i]:=by
      rw[cG h,List.foldl_append]
      rfl
     have hbi:=hbt i
     generalize m.es[i]=x at *
     obtain⟨kd,at'⟩:=x
     generalize (m.es.take i).foldl tiF (A,A)=p at *
     obtain⟨lo,hi2⟩:=p
     obtain⟨hx1,hx2⟩:=hx
     replace hx1:-2000000000000000000≤at':=hx1
     replace hx2:at'≤2000000000000000000:=hx2
     replace hs:bD kd≤8:=hs
     have ew:IntKind.i64.wrap (at'+(bD kd:Nat))=at'+(bD kd:Nat):=Av.wrap_small (by omega) (by omega)
     refine aA ?_
     rw[ew]
     refine DK.nil ⟨by kernel_rfl,?_⟩
     refine aA ?_
     refine⟨i+1,by omega,by omega,?_⟩
     rw[e]
     unfold tiF
     exact Sub.wl [] [[(0,0)]]
    ·obtain rfl:m.es.length=i:=by omega
     have hbi:=hbt m.es.length
     rw[List.take_length,← htf] at hbi ⊢
     obtain⟨⟨d1,d2⟩,d3,d4⟩:=hbi
     have hok:okS m=(aH m.lo (-mP) mP && aH m.hi (-mP) mP && aH m.ext (-mP) mP && aH (bP m.es).1 (-mP) mP && aH (bP m.es).2 (-mP) mP && aH ((bP m.es).2 - (bP m.es).1) (-mP) mP):=rfl
     have x1:=kO m.lo
     have x2:=kO m.hi
     have x3:=kO m.ext
     have x4:=kO (bP m.es).1
     have x5:=kO (bP m.es).2
     have x6:=kO ((bP m.es).2 - (bP m.es).1)
     have y3:IntKind.i64.wrap (m.hi - m.lo)=m.ext:=by rw[Av.wrap_small (by omega) (by omega)]; rfl
     generalize (bP m.es).1=T1 at *
     generalize (bP m.es).2=T2 at *
     have y6:IntKind.i64.wrap (T2 - T1)=T2 - T1:=Av.wrap_small (by omega) (by omega)
     generalize aH m.lo (-mP) mP=g1 at *
     generalize aH m.hi (-mP) mP=g2 at *
     generalize aH m.ext (-mP) mP=g3 at *
     generalize aH T1 (-mP) mP=g4 at *
     generalize aH T2 (-mP) mP=g5 at *
     generalize aH (T2 - T1) (-mP) mP=g6 at *
     cases g1 with
     | false=>(rw[show okS m=false by(rw[hok]; simp),if_neg (by simp),show shR ((3:Int),shp0).2=[.list 2 [],iv 0,iv 0] from rfl]; refine aA ?_; exact aI.w)
     | true=>
     cases g2 with
     | false=>(rw[show okS m=false by(rw[hok]; simp),if_neg (by simp),show shR ((3:Int),shp0).2=[.list 2 [],iv 0,iv 0] from rfl]; refine aA ?_; exact aI.w)
     | true=>
     cases g3 with
     | false=>(rw[show okS m=false by(rw[hok]; simp),if_neg (by simp),show shR ((3:Int),shp0).2=[.list 2 [],iv 0,iv 0] from rfl]; refine aA ?_; rw[y3]; refine aA ?_; exact aI.w)
     | true=>
     cases g4 with
     | false=>(rw[show okS m=false by(rw[hok]; simp),if_neg (by simp),show shR ((3:Int),shp0).2=[.list 2 [],iv 0,iv 0] from rfl]; refine aA ?_; rw[y3]; refine aA ?_; exact aI.w)
     | true=>
     cases g5 with
     | false=>(rw[show okS m=false by(rw[hok]; simp),if_neg (by simp),show shR ((3:Int),shp0).2=[.list 2 [],iv 0,iv 0] from rfl]; refine aA ?_; rw[y3]; refine aA ?_; exact aI.w)
     | true=>
     cases g6 with
     | false=>(rw[show okS m=false by(rw[hok]; simp),if_neg (by simp),show shR ((3:Int),shp0).2=[.list 2 [],iv 0,iv 0] from rfl]; refine aA ?_; rw[y3]; refine aA ?_; rw[y6]; refine aA ?_; exact aI.w)
     | true=>
     rw[show okS m=true by rw[hok]; rfl,if_pos rfl]
     unfold shR
     refine aA ?_
     rw[y3]
     refine aA ?_
     rw[y6]
     refine aA ?_
     exact aI.w
end Go.Proofs.YtgdocflpobncmaaGreat
