import Derived.Test.YtgdocflpobncmaaGreatGFiD8
namespace Go.Proofs.YtgdocflpobncmaaGreat
open Go.Av Go.Proofs
set_option maxRecDepth 20000
def strB (l:List Nat):ByteArray:=dX .empty (l.map UInt8.ofNat)
theorem sV:∀ l:List Nat,kX (byR l)=some (l.map UInt8.ofNat)
 | []=>rfl
 | b::l=>by
  show(match kX (byR l) with | some m=>some (UInt8.ofNat ((b:Int).toNat)::m) | none=>none)=_
  rw[sV l,Int.toNat_natCast]
  rfl
theorem y1 {g i:Nat} {fr:Fr} {H:Heap} {x:Operand} {l:List Nat} (hx:ev fr x=.list 1 (byR l)):aC g i (.xop .bstr [x]) fr H=some (.sc (.string (strB l)),H):=by
 simp only[aC,avals,List.map_cons,List.map_nil,hx,lR,dW,cM,sV]
 rfl
theorem mR:∀(l:List UInt8) (s:ByteArray),(dX s l).size=s.size+l.length
 | [],_=>rfl
 | x::l,s=>by
  show(dX (s.push x) l).size=_
  rw[mR l,ByteArray.size_push,List.length_cons]
  omega
theorem EB (l:List Nat):(strB l).size=l.length:=by
 unfold strB
 rw[mR,List.length_map]
 show 0+_=_
 omega
variable {b:Bk} {s:Sto} {c:Nat}
theorem IB (hb:BOK b c) (hr:s.bytes.length≤1000000) {at':Int} {o:List Nat} (h:lN b s [(at',(o.length:Int))]=(o,0)):aD Tryz.prog 27 [.ptr 7 0 0 0,.sc (.int .i64 at'),.sc (.string (strB o))] (stH b s []) fun res H'=>res=.sc (.bool true)∧H'=stH b s []:=by
 refine aD.of cF27 ?_ (nlB rfl)
 have hsz:=EB o
 refine aB ?_
 refine Reg.sub (fr':=[(2,.sc (.string (strB o))),(10,.ptr 7 0 0 0),(15,.list 2 (eB [(at',(o.length:Int))]))]) (H':=stH b s []) ?_ ?_
 ·refine Sub.st ?_
  refine aO.cons (.sc _) (aO.cons (To.ptrO rfl rfl rfl) (aO.cons (To.fz rfl rfl rfl ?_ (prs _)) aO.nil))
  show[[AV.sc (.int .i64 at'),.sc (.int .i64 ((strB o).size:Nat))]]=_
  rw[hsz]
  rfl
 refine Reg.c (Nat.le_refl _) rfl ((DG hb [(at',(o.length:Int))] (by simp) hr).mono ?_)
 rintro res H' ⟨rfl,rfl⟩
 rw[h]
 refine aB ?_
 refine Reg.o rfl (y1 rfl) ?_
 refine aB ?_
 rw[show((strB (o,(0:Int)).1).toList == (strB o).toList)=true from beq_self_eq_true _]
 exact cZ ⟨rfl,rfl⟩
theorem GR (hb:BOK b c) (hr:s.bytes.length≤1000000) (hid:s.id=b.stores):aD Tryz.prog 30 [.ptr 7 0 0 0] (stH b s []) fun res H'=>res=.tup [.sc (.string (strB (lN b s [(0,(s.bytes.length:Int))]).1)),.sc (.int .i64 (lN b s [(0,(s.bytes.length:Int))]).2)]∧H'=stH b s []:=by
 refine aD.of cF30 ?_ (nlB rfl)
 refine aB ?_
 refine Reg.c (Nat.le_refl _) rfl ((CR hid).mono ?_)
 rintro res H' ⟨rfl,rfl⟩
 refine aB ?_
 refine Reg.sub (fr':=[(7,.ptr 7 0 0 0),(11,.list 2 (eB [(0,(s.bytes.length:Int))]))]) (H':=stH b s []) ?_ ?_
 ·refine Sub.st ?_
  exact aO.cons (To.ptrO rfl rfl rfl) (aO.cons (To.fz rfl rfl rfl rfl (prs _)) aO.nil)
 refine Reg.c (Nat.le_refl _) rfl ((DG hb [(0,(s.bytes.length:Int))] (by simp) hr).mono ?_)
 rintro res H' ⟨rfl,rfl⟩
 refine aB ?_
 refine Reg.o rfl (y1 rfl) ?_
 refine aB ?_
 exact cZ ⟨rfl,rfl⟩
structure NF (b:Bk):Prop where
 fuse:b.fuse < 0
 down:b.down=false
 lost:∀ s,b.lost s=false
 fresh:∀ s,b.fresh s=false
theorem NF.burn {b:Bk} (h:NF b):eQ b=(false,b):=by
 have:=h.fuse
 unfold eQ
 rw[if_neg (by omega),if_neg (by omega)]
theorem NF.good {b:Bk} (h:NF b) {s:Nat} (hs:s < b.n):hN b (s:Int)=true:=by
 unfold hN
 rw[dTr (by omega),h.lost,h.fresh]
 rfl
theorem NF.writeP {b:Bk} (h:NF b) (s a:Nat) (f:Nat→Nat):NF (writeP b s a f):=⟨h.fuse,h.down,h.lost,h.fresh⟩
theorem NF.write {b:Bk} (h:NF b) (s a:Nat) (f:Nat→Nat):cX b s a f=(0,YtgdocflpobncmaaGreat.writeP b s a f):=by
 unfold cX
 rw[h.down,h.lost,(h.writeP s a f).burn]
 rfl
theorem NF.flushP {b:Bk} (h:NF b):NF (flushP b):=⟨h.fuse,h.down,h.lost,h.fresh⟩
theorem NF.flush {b:Bk} (h:NF b):bN b=(0,YtgdocflpobncmaaGreat.flushP b):=by
 unfold bN
 rw[h.down,h.burn]
 rfl
structure Did (b b':Bk) (w:Nat→Nat):Prop where
 nf:NF b'
 n:b'.n=b.n
 k:b'.k=b.k
 fails:b'.fails=b.fails
 stores:b'.stores=b.stores
 wr:∀ x,b'.wr x≤b.wr x+w x
theorem Did.refl {b:Bk} (h:NF b):Did b b fun _=>0:=⟨h,rfl,rfl,rfl,rfl,fun _=>Nat.le_refl _⟩
theorem Did.trans {a b c:Bk} {u v:Nat→Nat} (h:Did a b u) (h':Did b c v):Did a c fun x=>u x+v x:=
 ⟨h'.nf,h'.n.trans h.n,h'.k.trans h.k,h'.fails.trans h.fails,h'.stores.trans h.stores,fun x=>by have:=h.wr x; have:=h'.wr x; omega⟩
theorem Did.mono {a b:Bk} {u v:Nat→Nat} (h:Did a b u) (hv:∀ x,u x≤v x):Did a b v:=⟨h.nf,h.n,h.k,h.fails,h.stores,fun x=>by have:=h.wr x; have:=hv x; omega⟩
theorem Did.write {b:Bk} (h:NF b) (s a:Nat) (f:Nat→Nat):Did b (YtgdocflpobncmaaGreat.writeP b s a f) fun x=>if x=s then 1 else 0:=
 ⟨h.writeP s a f,rfl,rfl,rfl,rfl,fun x=>by
  show(if x=s then b.wr x+1 else b.wr x)≤_
  split<;>omega⟩
theorem Did.flush {b:Bk} (h:NF b):Did b (YtgdocflpobncmaaGreat.flushP b) fun _=>0:=⟨h.flushP,rfl,rfl,rfl,rfl,fun _=>Nat.le_refl _⟩
theorem sH (a:Nat) (f:Nat→Nat):∀(r s:Nat) {b:Bk},NF b→s+r≤b.n→(gF a f r s b).1=0∧Did b (gF a f r s b).2 fun x=>if s≤x∧x < s+r then 1 else 0
 | 0,s,b,h,_=>⟨rfl,(Did.refl h).mono fun x=>Nat.zero_le _⟩
 | r+1,s,b,h,hs=>by
  have hw:=Did.write h s a f
  unfold gF
  rw[if_pos (h.good (by omega)),h.write,if_pos rfl]
  obtain⟨q1,q2⟩:=sH a f r (s+1) (h.writeP s a f) (by rw[hw.n]; omega)
  refine⟨q1,(hw.trans q2).mono fun x=>?_⟩
  by_cases e:x=s
  ·subst e
   rw[if_pos rfl,if_neg (by omega),if_pos (by omega)]
   exact Nat.le_refl _
  ·rw[if_neg e]
   by_cases e2:s+1≤x∧x < s+1+r
   ·rw[if_pos e2,if_pos (by omega)]
    exact Nat.le_refl _
   ·rw[if_neg e2]
    omega
theorem tC {b:Bk} (h:NF b) (a:Nat) (f:Nat→Nat):(bE b a f).1=0∧Did b (bE b a f).2 fun _=>1:=by
 obtain⟨q1,q2⟩:=sH a f b.n 0 h (by omega)
 refine⟨q1,q2.mono fun x=>?_⟩
 split<;>omega
theorem pN {b:Bk} (h:NF b) (n:Nat) (sec:Nat→Bool):(bG b n sec).1=0∧Did b (bG b n sec).2 fun _=>1:=by
 obtain⟨q1,q2⟩:=tC h (n % 2) (d9 n sec)
 unfold bG
 rw[if_pos q1,q2.nf.flush]
 exact⟨rfl,(q2.trans (Did.flush q2.nf)).mono fun x=>Nat.le_refl _⟩
theorem uG:∀(r i:Nat) {b:Bk},NF b→(gT r i b).1=0∧Did b (gT r i b).2 fun _=>r
 | 0,i,b,h=>⟨rfl,Did.refl h⟩
 | r+1,i,b,h=>by
  obtain⟨q1,q2⟩:=tC h i fun _=>0
  rw[sD,if_pos q1]
  obtain⟨p1,p2⟩:=uG r (i+1) q2.nf
  exact⟨p1,(q2.trans p2).mono fun x=>by omega⟩
theorem GY {b:Bk} (h:NF b):(lJ b).1=0∧Did b (lJ b).2 fun _=>b.k:=by
 obtain⟨q1,q2⟩:=uG b.k 0 h
 unfold lJ
 rw[if_pos q1,q2.nf.flush]
 exact⟨rfl,(q2.trans (Did.flush q2.nf)).mono fun x=>Nat.le_refl _⟩
theorem BT (n k:Nat):NF (gY n k):=⟨show(-1:Int) < 0 by decide,rfl,fun _=>rfl,fun _=>rfl⟩
theorem BV {n k:Nat} (hn:3≤n∧n≤8) (hk:4≤k∧k≤512):BOK (gY n k) 0:=
 ⟨by show 0 < n; omega,hn.2,by show 2≤k; omega,hk.2,fun w hw=>by simp[gY] at hw,Nat.le_refl _,fun s=>Nat.le_refl _,Nat.le_refl _,Nat.le_refl _,show(-1:Int)≤-1 by decide,show(-1:Int)≤1000000 by decide,Nat.zero_le _,fun n hn=>by simp[gY] at hn⟩
theorem B7 {b:Bk} (h:NF b):GF b∧Did b (g8 b) fun _=>b.k+1:=by
 have h1:=h.flush
 have d1:=Did.flush h
 have e1:tA b=flushP b:=by unfold tA; rw[h1]
 obtain⟨q1,q2⟩:=GY h.flushP
 rw[← e1] at q1 q2
 obtain⟨p1,p2⟩:=pN q2.nf 1 fun _=>false
 refine⟨⟨h.down,fun s _=>h.lost s,fun s _=>h.fresh s,by rw[h1],q1,p1⟩,?_⟩
 rw[← e1] at d1
 exact((d1.trans q2).trans p2).mono fun x=>by
  show 0+(tA b).k+1≤_
  rw[d1.k]
  omega
def yE (st n x:Nat):Nat→Nat→Nat
 | 0,_=>0
 | r+1,k=>(if (st+k) % n=x then 1 else 0)+yE st n x r (k+1)
theorem I0 {st n x:Nat}:∀ {r k:Nat},(∀ j,k≤j→j < k+r→(st+j) % n≠x)→yE st n x r k=0
 | 0,_,_=>rfl
 | r+1,k,h=>by
  unfold yE
  rw[if_neg (h k (Nat.le_refl _) (by omega)),I0 fun j h1 h2=>h j (by omega) (by omega)]
theorem FB {st n x:Nat}:∀ {r k:Nat},r≤n→yE st n x r k≤1
 | 0,_,_=>Nat.zero_le _
 | r+1,k,h=>by
  unfold yE
  by_cases e:(st+k) % n=x
  ·rw[if_pos e,I0 (fun j h1 h2 e2=>?_)]
   ·omega
   ·have h3:(st+j) % n=(st+k) % n:=e2.trans e.symm
    have h4:(j - k) % n=0:=by
     have:=Nat.sub_mod_eq_zero_of_mod_eq h3
     rwa[show st+j - (st+k)=j - k by omega] at this
    rw[Nat.mod_eq_of_lt (by omega)] at h4
    omega
  ·rw[if_neg e]
   have:=FB (st:=st) (n:=n) (x:=x) (r:=r) (k:=k+1) (by omega)
   omega
theorem uE (s:Sto) (st a size:Nat):∀(r k:Nat) (sum:Nat→Nat) {b:Bk},0 < b.n→NF b→(j6 s st a size r k sum b).1=0∧Did b (j6 s st a size r k sum b).2 fun x=>yE st b.n x r k
 | 0,k,sum,b,_,h=>⟨rfl,Did.refl h⟩
 | r+1,k,sum,b,h0,h=>by
  have hto:(st+k) % b.n < b.n:=Nat.mod_lt _ h0
  have hw:=Did.write h ((st+k) % b.n) a (qA s (st * size+k * 64) b.n k sum)
  unfold j6
  rw[if_pos (h.good hto),h.write,if_pos rfl]
  obtain⟨q1,q2⟩:=uE s st a size r (k+1) (w7 s (st * size+k * 64) b.n k sum) (b:=YtgdocflpobncmaaGreat.writeP b ((st+k) % b.n) a (qA s (st * size+k * 64) b.n k sum)) (by rw[hw.n]; exact h0) (h.writeP _ _ _)
  refine⟨q1,(hw.trans q2).mono fun x=>?_⟩
  show(if x=(st+k) % b.n then 1 else 0)+yE st (YtgdocflpobncmaaGreat.writeP b _ a _).n x r (k+1)≤(if (st+k) % b.n=x then 1 else 0)+yE st b.n x r (k+1)
  rw[hw.n]
  by_cases e:x=(st+k) % b.n
  ·rw[if_pos e,if_pos e.symm]
   exact Nat.le_refl _
  ·rw[if_neg e,if_neg (Ne.symm e)]
   exact Nat.le_refl _
theorem D4 {b:Bk} (h0:0 < b.n) (h:NF b) (s:Sto) (st:Nat) (x:Bool):(d8 b s st x).1=0∧Did b (d8 b s st x).2 fun _=>1:=by
 obtain⟨q1,q2⟩:=uE s st (atN st x) (aV b) b.n 0 (fun _=>0) h0 h
 exact⟨q1,q2.mono fun y=>FB (Nat.le_refl _)⟩
theorem sE (s:Sto):∀(l:List Nat) (sec:Nat→Bool) {b:Bk},0 < b.n→NF b→(cT s l sec b).1=0∧Did b (cT s l sec b).2.1 fun _=>l.length
 | [],sec,b,_,h=>⟨rfl,Did.refl h⟩
 | st::r,sec,b,h0,h=>by
  obtain⟨q1,q2⟩:=D4 h0 h s st (!sec st)
  rw[pJ,if_pos q1]
  obtain⟨p1,p2⟩:=sE s r (cY sec st) (b:=(d8 b s st (!sec st)).2) (by rw[q2.n]; exact h0) q2.nf
  refine⟨p1,(q2.trans p2).mono fun x=>?_⟩
  rw[List.length_cons]
  omega
theorem ES {b:Bk} (h0:0 < b.n) (h:NF b) (s:Sto):(bA b s).1=0∧Did b (bA b s).2.1 fun _=>s.ch.length:=by
 obtain⟨q1,q2⟩:=sE s (skL s.ch) s.sec h0 h
 rw[wF] at q2
 unfold bA
 rw[if_pos q1,q2.nf.flush]
 exact⟨rfl,(q2.trans (Did.flush q2.nf)).mono fun x=>Nat.le_refl _⟩
theorem BW {b:Bk} (h:NF b):∀ m,m≤b.n→v9 b m=0
 | 0,_=>rfl
 | m+1,hm=>by
  rw[uS,BW h m (by omega),if_pos (h.good (by omega))]
theorem rE {b:Bk} {s:Sto} (h:NF b) (h1:s.id=b.stores) (h2:s.fails=b.fails):dI b s=0:=by
 unfold dI
 rw[if_neg (fun e=>e h1),if_neg (fun e=>e.elim (by rw[h.down]; simp) fun e=>e h2),if_neg (by rw[BW h b.n (Nat.le_refl _)]; omega)]
theorem IA {b:Bk} {s:Sto} (h0:0 < b.n) (h:NF b) (h1:s.id=b.stores) (h2:s.fails=b.fails):(cO b s).1=0∧Did b (cO b s).2.1 (fun _=>s.ch.length+1)∧(cO b s).2.2.ch=[]∧(cO b s).2.2.bytes=s.bytes∧(cO b s).2.2.id=s.id∧(cO b s).2.2.fails=s.fails∧(cO b s).2.2.num≤s.num+1:=by
 obtain⟨q1,q2⟩:=ES h0 h s
 obtain⟨p1,p2⟩:=pN q2.nf (s.num+1) (bA b s).2.2
 unfold cO
 rw[if_pos (rE h h1 h2),if_pos q1,if_pos p1]
 split
 ·rename_i hc
  exact⟨rfl,(Did.refl h).mono fun x=>Nat.zero_le _,List.length_eq_zero_iff.1 hc,rfl,rfl,rfl,Nat.le_succ _⟩
 ·exact⟨rfl,q2.trans p2,rfl,rfl,rfl,rfl,Nat.le_refl _⟩
structure LI (n k:Nat) (b:Bk) (s:Sto) (chg:Nat→Bool) (c:Nat):Prop where
 n3:3≤n∧n≤6
 k4:4≤k∧k≤17
 ok:BOK b c
 nf:NF b
 bn:b.n=n
 bk:b.k=k
 id:s.id=b.stores
 fails:s.fails=b.fails
 len:s.bytes.length=(k - 2) / 2 * ((n - 1) * 64)
 nd:s.ch.Nodup
 sub:∀ x∈s.ch,x < (k - 2) / 2∧chg x=true
 num:s.num≤c
variable {n k c:Nat} {b:Bk} {s:Sto} {chg:Nat→Bool}
theorem LI.start {n k:Nat} (hn:3≤n∧n≤6) (hk:4≤k∧k≤17):LI n k (pC (g8 (gY n k))) (zY (gY n k)) (fun _=>false) 20000:=by
 have h0:=BV (n:=n) (k:=k) (by omega) (by omega)
 obtain⟨hf,hd⟩:=B7 (BT n k)
 obtain⟨q1,q2,q3⟩:=CM h0
 refine⟨hn,hk,⟨q1.n0,q1.n8,q1.k0,q1.k8,q1.late,Nat.le_trans q1.ll (by omega),fun s=>Nat.le_trans (q1.wr s) (by omega),Nat.le_trans q1.fl (by omega),?_,q1.f0,q1.f1,q1.pl,q1.p8⟩,⟨hd.nf.fuse,hd.nf.down,hd.nf.lost,hd.nf.fresh⟩,q2,q3,rfl,rfl,?_,List.nodup_nil,fun x hx=>by simp[zY] at hx,?_⟩
 ·show(g8 (gY n k)).stores+1≤20000
  have:=q1.st
  omega
 ·show(List.replicate (pR (gY n k)) 0).length=_
  rw[List.length_replicate]
  rfl
 ·show 1≤20000
  omega
theorem LI.stripes (h:LI n k b s chg c):aU b=(k - 2) / 2:=by unfold aU; rw[h.bk]
theorem LI.size (h:LI n k b s chg c):aV b=(n - 1) * 64:=by unfold aV; rw[h.bn]
theorem LI.ready (h:LI n k b s chg c):dI b s=0:=rE h.nf h.id h.fails
theorem LI.room (h:LI n k b s chg c):s.bytes.length≤2240:=by
 rw[h.len]
 have h1:(k - 2) / 2≤7:=by have:=h.k4; omega
 have h2:(n - 1) * 64≤320:=by have:=h.n3; omega
 exact Nat.mul_le_mul h1 h2
theorem NH {room p:Nat} (hp:p < room) (_hr:room≤1000000):cU room [((p:Int),1)]=(1,0):=by
 have h1:j7 room ((p:Int),1)=false:=by
  unfold j7
  simp
  omega
 unfold cU
 rw[List.any_cons,h1]
 rfl
theorem plX1 (p:Nat):plL [((p:Int),1)]=[p]:=rfl
theorem LI.write (h:LI n k b s chg c) {p v:Nat} (hp:p < s.bytes.length):
  sA b s [((p:Int),1)] [v]=(0,mZ (aV b) s (p,v))∧lN b (mZ (aV b) s (p,v)) [((p:Int),(([v]:List Nat).length:Int))]=([v],0) ∧
   LI n k b (mZ (aV b) s (p,v)) (fun x=>if x=p / aV b then true else chg x) c:=by
 have hr:=h.room
 have hc:=NH hp (by omega)
 refine⟨?_,?_,?_⟩
 ·unfold sA
  rw[if_pos h.ready,hc]
  rfl
 ·have hl:(mZ (aV b) s (p,v)).bytes.length=s.bytes.length:=List.length_set
  have hrd:dI b (mZ (aV b) s (p,v))=0:=rE h.nf h.id h.fails
  unfold lN
  rw[if_pos hrd,hl,show((([v]:List Nat).length:Nat):Int)=1 from rfl,hc,if_pos rfl,plX1]
  show([iG (mZ (aV b) s (p,v)) p],_)=_
  unfold iG mZ
  rw[List.getElem?_set_self hp]
  rfl
 ·refine { h with len:=?_,nd:=?_,sub:=fun x hx=>?_ }
  ·exact List.length_set.trans h.len
  ·show(zL s.ch (p / aV b)).Nodup
   unfold zL
   split
   ·exact h.nd
   ·rename_i e
    refine List.nodup_append.2 ⟨h.nd,by simp,fun a ha c hc e2=>?_⟩
    rw[List.mem_singleton.1 hc] at e2
    subst e2
    exact e (by simpa using ha)
  ·have hx':x∈zL s.ch (p / aV b):=hx
   have hlt:p / aV b < (k - 2) / 2:=by
    rw[Nat.div_lt_iff_lt_mul (by rw[h.size]; have:=h.n3; omega),h.size,← h.len]
    exact hp
   show x < (k - 2) / 2∧(if x=p / aV b then true else chg x)=true
   unfold zL at hx'
   split at hx'
   ·obtain⟨q1,q2⟩:=h.sub x hx'
    refine⟨q1,?_⟩
    split
    ·rfl
    ·exact q2
   ·rcases List.mem_append.1 hx' with h1 | h1
    ·obtain⟨q1,q2⟩:=h.sub x h1
     refine⟨q1,?_⟩
     split
     ·rfl
     ·exact q2
    ·rw[List.mem_singleton.1 h1]
     exact⟨hlt,if_pos rfl⟩
def mE (f:Nat→Bool) (m:Nat):Nat:=((List.range m).filter f).length
theorem vC (f:Nat→Bool) (m:Nat):mE f (m+1)=mE f m+if f m=true then 1 else 0:=by
 unfold mE
 rw[List.range_succ,List.filter_append,List.length_append]
 cases h:f m<;>simp[h]
theorem wA (f:Nat→Bool) (m:Nat):mE f m≤m:=by
 have:=List.length_filter_le f (List.range m)
 rw[List.length_range] at this
 exact this
theorem t4 {l:List Nat}:∀ {m:List Nat},l.Nodup→(∀ x∈l,x∈m)→l.length≤m.length:=by
 induction l with
 | nil=>exact fun _ _=>Nat.zero_le _
 | cons a l ih=>
  intro m hn hs
  obtain⟨h1,h2⟩:=List.nodup_cons.1 hn
  have ha:=hs a (by simp)
  have:=ih (m:=m.erase a) h2 fun x hx=>by
   have hne:x≠a:=fun e=>h1 (e▸hx)
   exact(List.mem_erase_of_ne hne).2 (hs x (by simp[hx]))
  rw[List.length_erase_of_mem ha] at this
  have hp:0 < m.length:=List.length_pos_of_mem ha
  rw[List.length_cons]
  omega
theorem LI.cnt (h:LI n k b s chg c):s.ch.length≤mE chg ((k - 2) / 2):=
 t4 h.nd fun x hx=>List.mem_filter.2 ⟨List.mem_range.2 (h.sub x hx).1,(h.sub x hx).2⟩
theorem LI.chl (h:LI n k b s chg c):s.ch.length≤12:=by
 have h1:=h.cnt
 have h2:=wA chg ((k - 2) / 2)
 have:=h.k4
 omega
theorem F7 {b:Bk} {s:Sto} {c:Nat} (hb:BOK b c) (hch:∀ x∈s.ch,x < aU b) (hcl:s.ch.length≤12):BOK (cO b s).2.1 (c+1000):=by
 obtain⟨q1,q2,q3⟩:=zJ hb hch
 obtain⟨p1,_,_⟩:=jT q1 (s.num+1) (bA b s).2.2
 unfold cO
 split
 ·split
  ·exact hb.le (by omega)
  ·split
   ·split
    ·exact p1.le (by omega)
    ·exact p1.le (by omega)
   ·exact q1.le (by omega)
 ·exact hb.le (by omega)
theorem LI.sync (h:LI n k b s chg c):(cO b s).1=0∧LI n k (cO b s).2.1 (cO b s).2.2 (fun _=>false) (c+1000)∧∀ x,(cO b s).2.1.wr x≤b.wr x+(mE chg ((k - 2) / 2)+1):=by
 obtain⟨q1,q2,q3,q4,q5,q6,q7⟩:=IA h.ok.n0 h.nf h.id h.fails
 have hb:=F7 (s:=s) h.ok (fun x hx=>by rw[h.stripes]; exact(h.sub x hx).1) h.chl
 have hc:=h.cnt
 refine⟨q1,⟨h.n3,h.k4,hb,q2.nf,q2.n.trans h.bn,q2.k.trans h.bk,by rw[q5,q2.stores,h.id],by rw[q6,q2.fails,h.fails],by rw[q4,h.len],by rw[q3]; exact List.nodup_nil,fun x hx=>by rw[q3] at hx; simp at hx,by have:=h.num; omega⟩,fun x=>?_⟩
 have:=q2.wr x
 omega
theorem LI.mono (h:LI n k b s chg c) {c':Nat} (hc:c≤c'):LI n k b s chg c':={ h with ok:=h.ok.le hc,num:=Nat.le_trans h.num hc }
theorem LI.whole (h:LI n k b s chg c):(lN b s [(0,(s.bytes.length:Int))]).2=0:=by
 have hr:=h.room
 have h1:j7 s.bytes.length (0,(s.bytes.length:Int))=false:=by
  unfold j7
  by_cases h0:s.bytes.length=0
  ·rw[h0]
   rfl
  ·rw[dFa (show¬ (s.bytes.length:Int) < 0 by omega),dFa (show¬ ((0:Int) < 0) by omega),dFa (show¬ (s.bytes.length:Int)≤0 by omega),dFa (show¬ (s.bytes.length:Int) - 0 < (s.bytes.length:Int) by omega)]
   simp
 have hc:(cU s.bytes.length [(0,(s.bytes.length:Int))]).2=0:=by
  unfold cU
  rw[List.any_cons,h1]
  show(match (if 4096 < 0+(s.bytes.length:Int) then none else some (0+(s.bytes.length:Int))) with
   | some n=>(n,(0:Int))
   | none=>(0,9)).2=0
  rw[if_neg (by omega)]
 unfold lN
 rw[if_pos h.ready,if_pos hc]
end Go.Proofs.YtgdocflpobncmaaGreat
