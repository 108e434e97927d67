import Derived.Test.YtgdocflpobncmaaGreatGFtE5
import Derived.Test.YtgdocflpobncmaaGreatGFtL4
import Derived.Test.YtgdocflpobncmaaGreatGFtA3
import Derived.Test.YtgdocflpobncmaaGreatGAvL
import Derived.Test.YtgdocflpobncmaaGreatGAvQ
import Derived.Test.YtgdocflpobncmaaGreatRows
namespace Go.Proofs.YtgdocflpobncmaaGreat
open Go.Av Go.Proofs
set_option maxRecDepth 20000
theorem qR (l:List (Int×Int)) (hn:l.length≤100000) (hb:∀ x∈l,(-10000000000000000≤x.1∧x.1≤10000000000000000)∧0≤x.2∧x.2≤100000) (hx:(exP l).length≤100000):aH Tryz.prog 20 [.list 2 (enR l)] [] fun res H'=>res=.hsl 0 0 0 (exP l).length∧H'=[[.cells 1 (inR (exP l))]]:=by
 refine aH.of cF20 ?_ (nlB rfl)
 have hel:=cO l
 refine aA ?_
 refine AWP.loop (fun i:Nat=>[(0,.list 2 (enR l)),(3,.hsl 0 0 0 (bX (exF l) i 0).length),(4,iv i)]) (fun i=>[[.cells 1 (inR (bX (exF l) i 0))]]) (fun i=>i≤l.length) (fun i=>l.length - i) 0 (Nat.zero_le _) ?_ ?_
 ·rw[gD]
  (apply Sub.to [1] [[(0,0)]]; all_goals (repeat' (first | exact aE.nil | exact aB.nil | exact aF.nil | exact ToL.nil | exact ToR.nil | refine aE.cons ?_ ?_ | refine aB.cons ?_ ?_ | refine aP ?_ ?_ | exact To.undef _ | exact To.sc _ | exact To.hslL rfl rfl | exact To.asl _ _ _ _ _ _ _ rfl | refine To.ifc _ _ _ ?_ | exact To.ptrO rfl rfl rfl | exact To.mrefO rfl | exact To.nil rfl rfl rfl | exact wt1 | exact To.nilL | refine To.int ?_ | refine To.bool ?_ | refine To.hslL rfl ?_ | refine wt2 rfl ?_ ?_ ?_ | refine To.tupL ?_ | refine To.aggL ?_ | refine To.cptrL ?_ | refine To.fzp rfl rfl rfl ?_ | refine To.fzm rfl rfl ?_ | refine To.cloL ?_ ?_ | refine wt3 ?_ | refine wt4 ?_ | exact wt5 | refine wt6 ?_ | refine ToB.one ?_ | exact wt7 | ((with_reducible apply ToL.consE); case e9=>rfl) | refine wt8 ?_ | refine ToL.cons ?_ ?_ | exact wt11 | refine wt9 ?_ ?_ | refine wt12 ?_ | (with_reducible rfl) | assumption)); all_goals (first | rfl | assumption | (simp; done) | (simp; omega) | (rw[wrap_small (by omega) (by omega)]; done) | (rw[wrap_small (by omega) (by omega)]; omega) | (refine congrArg Nat.cast ?_; assumption) | skip))
 rintro i hi
 refine aA ?_
 rw[hel]
 refine AWP.condN (i < l.length) rfl rfl (fun h=>?_) (fun h=>?_)
 ·have hr:=fM l i h
  have hle:∀ j,(bX (exF l) i j).length≤100000:=fun j=>by
   obtain⟨r,hr⟩:=nP (f:=exF l) (j:=j) h
   have:(exP l).length=(bX (exF l) i j).length+r.length:=by
    unfold exP
    rw[hr,List.length_append]
   omega
  have hfi:exF l i=(List.range l[i].2.toNat).map fun j:Nat=>l[i].1+j:=by simp[exF,h]
  have hxb:=hb l[i] (List.getElem_mem _)
  generalize l[i].1=a at *
  generalize l[i].2=m at *
  obtain⟨M,rfl⟩:∃ M:Nat,m=M:=⟨m.toNat,by omega⟩
  rw[Int.toNat_natCast] at hfi
  have hfl:(exF l i).length=M:=by rw[hfi]; simp
  have hfg:∀ j,j < M→(exF l i)[j]?=some (a+j):=fun j hj=>by rw[hfi]; simp[hj]
  refine aA ?_
  refine AWP.loop (fun j:Nat=>[(0,.list 2 (enR l)),(3,.hsl 0 0 0 (bX (exF l) i j).length),(4,iv i),(5,iv (a+j))]) (fun j=>[[.cells 1 (inR (bX (exF l) i j))]]) (fun j=>j≤M) (fun j=>M - j) 0 (Nat.zero_le _) ?_ ?_
  ·(apply Sub.to [] [[(0,0)]]; all_goals (repeat' (first | exact aE.nil | exact aB.nil | exact aF.nil | exact ToL.nil | exact ToR.nil | refine aE.cons ?_ ?_ | refine aB.cons ?_ ?_ | refine aP ?_ ?_ | exact To.undef _ | exact To.sc _ | exact To.hslL rfl rfl | exact To.asl _ _ _ _ _ _ _ rfl | refine To.ifc _ _ _ ?_ | exact To.ptrO rfl rfl rfl | exact To.mrefO rfl | exact To.nil rfl rfl rfl | exact wt1 | exact To.nilL | refine To.int ?_ | refine To.bool ?_ | refine To.hslL rfl ?_ | refine wt2 rfl ?_ ?_ ?_ | refine To.tupL ?_ | refine To.aggL ?_ | refine To.cptrL ?_ | refine To.fzp rfl rfl rfl ?_ | refine To.fzm rfl rfl ?_ | refine To.cloL ?_ ?_ | refine wt3 ?_ | refine wt4 ?_ | exact wt5 | refine wt6 ?_ | refine ToB.one ?_ | exact wt7 | ((with_reducible apply ToL.consE); case e9=>rfl) | refine wt8 ?_ | refine ToL.cons ?_ ?_ | exact wt11 | refine wt9 ?_ ?_ | refine wt12 ?_ | (with_reducible rfl) | assumption)); all_goals (first | rfl | assumption | (simp; done) | (simp; omega) | (rw[wrap_small (by omega) (by omega)]; done) | (rw[wrap_small (by omega) (by omega)]; omega) | (refine congrArg Nat.cast ?_; assumption) | skip))
  rintro j hj
  have hl1:=hle j
  have hil:=bD (bX (exF l) i j)
  refine aA ?_
  rw[Av.wrap_small (show -9223372036854775808≤a+(M:Int) by omega) (by omega)]
  refine DK.nil ⟨by kernel_rfl,?_⟩
  refine aA ?_
  refine AWP.condN (j < M) rfl (by simp) (fun h2=>?_) (fun h2=>?_)
  ·have hsn:=dW (hfg j h2)
   refine aA ?_
   rw[Av.wrap_small (show -9223372036854775808≤a+(j:Int)+1 by omega) (by omega)]
   refine aA ?_
   refine⟨j+1,by omega,by omega,?_⟩
   rw[hsn,List.length_append]
   (apply Sub.to [] [[(3,0)]]; all_goals (repeat' (first | exact aE.nil | exact aB.nil | exact aF.nil | exact ToL.nil | exact ToR.nil | refine aE.cons ?_ ?_ | refine aB.cons ?_ ?_ | refine aP ?_ ?_ | exact To.undef _ | exact To.sc _ | exact To.hslL rfl rfl | exact To.asl _ _ _ _ _ _ _ rfl | refine To.ifc _ _ _ ?_ | exact To.ptrO rfl rfl rfl | exact To.mrefO rfl | exact To.nil rfl rfl rfl | exact wt1 | exact To.nilL | refine To.int ?_ | refine To.bool ?_ | refine To.hslL rfl ?_ | refine wt2 rfl ?_ ?_ ?_ | refine To.tupL ?_ | refine To.aggL ?_ | refine To.cptrL ?_ | refine To.fzp rfl rfl rfl ?_ | refine To.fzm rfl rfl ?_ | refine To.cloL ?_ ?_ | refine wt3 ?_ | refine wt4 ?_ | exact wt5 | refine wt6 ?_ | refine ToB.one ?_ | exact wt7 | ((with_reducible apply ToL.consE); case e9=>rfl) | refine wt8 ?_ | refine ToL.cons ?_ ?_ | exact wt11 | refine wt9 ?_ ?_ | refine wt12 ?_ | (with_reducible rfl) | assumption)); all_goals (first | rfl | assumption | (simp; done) | (simp; omega) | (rw[wrap_small (by omega) (by omega)]; done) | (rw[wrap_small (by omega) (by omega)]; omega) | (refine congrArg Nat.cast ?_; assumption) | skip))
   all_goals first | exact(by simp[inR]:inR (bX (exF l) i j)++[[iv (a+j)]]=inR (bX (exF l) i j++[a+(j:Int)])) | omega
  ·obtain rfl:M=j:=by omega
   rw[fF hfl]
   refine aA ?_
   refine⟨i+1,by omega,by omega,?_⟩
   (apply Sub.to [] [[(0,0)]]; all_goals (repeat' (first | exact aE.nil | exact aB.nil | exact aF.nil | exact ToL.nil | exact ToR.nil | refine aE.cons ?_ ?_ | refine aB.cons ?_ ?_ | refine aP ?_ ?_ | exact To.undef _ | exact To.sc _ | exact To.hslL rfl rfl | exact To.asl _ _ _ _ _ _ _ rfl | refine To.ifc _ _ _ ?_ | exact To.ptrO rfl rfl rfl | exact To.mrefO rfl | exact To.nil rfl rfl rfl | exact wt1 | exact To.nilL | refine To.int ?_ | refine To.bool ?_ | refine To.hslL rfl ?_ | refine wt2 rfl ?_ ?_ ?_ | refine To.tupL ?_ | refine To.aggL ?_ | refine To.cptrL ?_ | refine To.fzp rfl rfl rfl ?_ | refine To.fzm rfl rfl ?_ | refine To.cloL ?_ ?_ | refine wt3 ?_ | refine wt4 ?_ | exact wt5 | refine wt6 ?_ | refine ToB.one ?_ | exact wt7 | ((with_reducible apply ToL.consE); case e9=>rfl) | refine wt8 ?_ | refine ToL.cons ?_ ?_ | exact wt11 | refine wt9 ?_ ?_ | refine wt12 ?_ | (with_reducible rfl) | assumption)); all_goals (first | rfl | assumption | (simp; done) | (simp; omega) | (rw[wrap_small (by omega) (by omega)]; done) | (rw[wrap_small (by omega) (by omega)]; omega) | (refine congrArg Nat.cast ?_; assumption) | skip))
 ·obtain rfl:l.length=i:=by omega
  rw[← gT]
  refine aA ?_
  refine gI (res':=.hsl 0 0 0 (exP l).length) [[(0,0)]] (.inr rfl) rfl ⟨rfl,rfl⟩ ?_ ?_ rfl rfl rfl
  (all_goals exact xO)
theorem zS {V:List Int} (hl:V.length≤100000) (hb:∀ p∈V,-10000000000000000≤p∧p≤10000000000000000):(bS V).length≤100000∧(∀ x∈bS V,(-10000000000000000≤x.1∧x.1≤10000000000000000)∧0≤x.2∧x.2≤100000)∧exP (bS V)=V:=by
 obtain⟨g1,g2⟩:=nO (fun p=>-10000000000000000≤p∧p≤10000000000000000) _ V rfl hb
 exact⟨by omega,fun x hx=>⟨(g2 x hx).1,by have:=(g2 x hx).2; omega⟩,tT _ V rfl⟩
theorem lawP {V:List Int} (hl:V.length≤100000) (hb:∀ p∈V,-10000000000000000≤p∧p≤10000000000000000):aC Tryz.prog 20 [.list 2 (enR (bS V))] (.list 1 (inR V)):=by
 obtain⟨h1,h2,h3⟩:=zS hl hb
 have:=uE (bS V) h1 h2 (by rw[h3]; exact hl)
 rwa[h3] at this
theorem lawC {V:List Int} (hl:V.length≤100000) (hb:∀ p∈V,-10000000000000000≤p∧p≤10000000000000000):aH Tryz.prog 20 [.list 2 (enR (bS V))] [] fun res H'=>res=.hsl 0 0 0 V.length∧H'=[[.cells 1 (inR V)]]:=by
 obtain⟨h1,h2,h3⟩:=zS hl hb
 have:=qR (bS V) h1 h2 (by rw[h3]; exact hl)
 rwa[h3] at this
theorem tM {n:Nat} {t:Ty} (h:mI (n+1) t):∃ k c b s sz bl pl of,t=.mk k c b s sz bl pl of:=by
 cases t with
 | mk k c b s sz bl pl of=>exact⟨k,c,b,s,sz,bl,pl,of,rfl⟩
 | raw=>exact h.elim
set_option maxHeartbeats 4000000 in
theorem DQ {a:Int} {e o:Ty} (ke:mI 3 e) (ko:mI 3 o) (off x y:Nat) (hf:off≤255) (_hx:x≤255) (_hy:y≤255):
  aC Tryz.prog 4 [.agg (vwR a e o),.sc (.int .u8 (off:Nat)),.sc (.int .u8 (x:Nat)),.sc (.int .u8 (y:Nat))] (bv true):=by
 refine aC.mkI (ha:=⟨fun c hc=>by
  simp only[List.mem_cons,List.not_mem_nil,or_false] at hc
  rcases hc with rfl | rfl | rfl | rfl
  ·exact uU.out
  ·exact .sc _
  ·exact .sc _
  ·exact .sc _⟩) cF4 (nlB rfl) ?_
 have hw:=works_ok
 have se:aC Tryz.prog 19 [.agg (tyR e),iv 3] (bv (bF 3 e)):=qJ 3 e (by omega) ke
 have so:aC Tryz.prog 19 [.agg (tyR o),iv 3] (bv (bF 3 o)):=qJ 3 o (by omega) ko
 have hcv:=@tQ a e o
 have hsg:=fun he ho off cnt h=>@KA a e o off cnt he ho h
 have hsz:=@uG o
 have hbd:=@sI o
 have hsn:=@xF a e o
 obtain⟨k1,c1,b1,s1,z1,l1,p1',f1,rfl⟩:=tM ke
 obtain⟨k2,c2,b2,s2,z2,l2,p2',f2,rfl⟩:=tM ko
 generalize hE:Ty.mk k1 c1 b1 s1 z1 l1 p1' f1=e at *
 generalize hO:Ty.mk k2 c2 b2 s2 z2 l2 p2' f2=o at *
 have he0:tyR e=[iv k1,iv c1,iv b1,iv s1,.list 1 (inR z1),.list 1 (inR l1),.list 1 (inR p1'),.list 8 (aS f1)]:=by rw[← hE,tyR]
 have ho0:tyR o=[iv k2,iv c2,iv b2,iv s2,.list 1 (inR z2),.list 1 (inR l2),.list 1 (inR p2'),.list 8 (aS f2)]:=by rw[← hO,tyR]
 have e0:vwR a e o=[iv a,iv k1,iv c1,iv b1,iv s1,.list 1 (inR z1),.list 1 (inR l1),.list 1 (inR p1'),.list 8 (aS f1),iv k2,iv c2,iv b2,iv s2,.list 1 (inR z2),.list 1 (inR l2),.list 1 (inR p2'),.list 8 (aS f2)]:=by
  unfold vwR
  rw[he0,ho0]
  rfl
 rw[he0] at se
 rw[ho0] at so hsz hbd
 rw[e0] at hcv ⊢
 rw[e0] at hsg
 clear he0 ho0 e0 hE hO
 refine aA ?_
 cases g1:bF 3 e with
 | false=>
  rw[g1] at se
  refine aA ?_
  exact aJ.w
 | true=>
 rw[g1] at se
 refine aA ?_
 cases g2:bF 3 o with
 | false=>
  rw[g2] at so
  refine aA ?_
  exact aJ.w
 | true=>
 rw[g2] at so
 replace hcv:=hcv g1 g2
 refine aA ?_
 refine AWP.condN ((bV a e o).1≠0) rfl (fS _) (fun v0=>?_) (fun v0=>?_)
 ·refine aA ?_
  exact aJ.w
 replace v0:(bV a e o).1=0:=Decidable.byContradiction v0
 have hb:=hsn g1 g2 v0
 have hx1:=Nat.mod_lt x (show 0 < 100 by omega)
 have hy1:=Nat.mod_lt y (show 0 < 100 by omega)
 have q1:=hsg g1 g2 (off:Nat) ((x % 100:Nat)) (by omega)
 have q2:=hsg g1 g2 ((off+x % 100:Nat)) ((y % 100:Nat)) (by omega)
 have q3:=hsg g1 g2 (off:Nat) ((x % 100+y % 100:Nat)) (by omega)
 have htl:=tiles (e:=e) (o:=o) v0 rfl hb off (x % 100) (y % 100) (by omega)
 have her:=CZ (e:=e) (o:=o) v0 rfl hb off (x % 100+y % 100) (by omega)
 have hinv:=FV (e:=e) (o:=o) v0
 replace hsz:=hsz g2
 replace hbd:=hbd g2
 obtain⟨i1,i2,i3,i4⟩:=hinv
 rw[i4,← i2] at hsz
 rw[i4,← i3] at hbd
 generalize (bV a e o).2=s at *
 generalize fG a e o (off:Nat) ((x % 100:Nat))=r1 at *
 generalize fG a e o ((off+x % 100:Nat)) ((y % 100:Nat))=r2 at *
 generalize fG a e o (off:Nat) ((x % 100+y % 100:Nat))=r3 at *
 obtain⟨w1,e1⟩:=r1
 obtain⟨w2,e2⟩:=r2
 obtain⟨w3,e3⟩:=r3
 simp only at htl her q1 q2 q3
 generalize (aG 3 o).2.lo=lo at *
 refine aA ?_
 refine AWP.condN (e3≠0) rfl (fS _) (fun z0=>?_) (fun z0=>?_)
 ·rcases her z0 with rfl | rfl
  ·refine aA ?_
   exact aJ.w
  ·refine aA ?_
   exact aJ.w
 obtain rfl:e3=0:=Decidable.byContradiction z0
 obtain⟨rfl,rfl,rfl,rfl,rfl,hle⟩:=htl rfl
 have hap:=zG (s:=s) (O:=off) (n:=x % 100) (m:=y % 100)
 have hln:=HU (s:=s) (O:=off) (n:=(x % 100+y % 100) * s.elem.toNat)
 have hget:=fun i=>HE (s:=s) (O:=off) (n:=(x % 100+y % 100) * s.elem.toNat) (i:=i)
 have hbd3:=AS (off:=off) (n:=(x % 100+y % 100) * s.elem.toNat) hb (by omega) (by omega)
 generalize cV s off ((x % 100+y % 100) * s.elem.toNat)=V at *
 generalize cV s off (x % 100 * s.elem.toNat)=V1 at *
 generalize cV s (off+x % 100) (y % 100 * s.elem.toNat)=V2 at *
 subst hap
 rw[List.length_append] at hln
 have p1:=lawC (V:=V1) (by omega) fun p hp=>hbd3 p (by simp[hp])
 have p2:=lawP (V:=V2) (by omega) fun p hp=>hbd3 p (by simp[hp])
 have p3:=lawP (V:=V1++V2) (by rw[List.length_append]; omega) hbd3
 have hl1:=bD V1
 have hl2:=bD V2
 refine aA ?_
 refine Reg.sub (fr':=[(4,.cptr [iv a,iv k1,iv c1,iv b1,iv s1,.list 1 (inR z1),.list 1 (inR l1),.list 1 (inR p1'),.list 8 (aS f1),iv k2,iv c2,iv b2,iv s2,.list 1 (inR z2),.list 1 (inR l2),.list 1 (inR p2'),.list 8 (aS f2)]),(12,iv 0),(14,iv 0),(13,.list 2 (enR (bS V2))),(15,.list 2 (enR (bS (V1++V2)))),(85,.list 2 (enR (bS V1)))]) (H':=[]) ?_ ?_
 ·(apply Sub.to [] []; all_goals (repeat' (first | exact aE.nil | exact aB.nil | exact aF.nil | exact ToL.nil | exact ToR.nil | refine aE.cons ?_ ?_ | refine aB.cons ?_ ?_ | refine aP ?_ ?_ | exact To.undef _ | exact To.sc _ | exact To.hslL rfl rfl | exact To.asl _ _ _ _ _ _ _ rfl | refine To.ifc _ _ _ ?_ | exact To.ptrO rfl rfl rfl | exact To.mrefO rfl | exact To.nil rfl rfl rfl | exact wt1 | exact To.nilL | refine To.int ?_ | refine To.bool ?_ | refine To.hslL rfl ?_ | refine wt2 rfl ?_ ?_ ?_ | refine To.tupL ?_ | refine To.aggL ?_ | refine To.cptrL ?_ | refine To.fzp rfl rfl rfl ?_ | refine To.fzm rfl rfl ?_ | refine To.cloL ?_ ?_ | refine wt3 ?_ | refine wt4 ?_ | exact wt5 | refine wt6 ?_ | refine ToB.one ?_ | exact wt7 | ((with_reducible apply ToL.consE); case e9=>rfl) | refine wt8 ?_ | refine ToL.cons ?_ ?_ | exact wt11 | refine wt9 ?_ ?_ | refine wt12 ?_ | (with_reducible rfl) | assumption)); all_goals (first | rfl | assumption | (simp; done) | (simp; omega) | (rw[wrap_small (by omega) (by omega)]; done) | (rw[wrap_small (by omega) (by omega)]; omega) | (refine congrArg Nat.cast ?_; assumption) | skip))
 refine Reg.c (Nat.le_refl _) rfl (p1.mono ?_)
 rintro res H' ⟨rfl,rfl⟩
 refine aA ?_
 refine AWP.condN False rfl (by simp[bD]) (fun h=>h.elim) (fun _=>?_)
 refine AWP.skip ?_
 have hV:inR V1++inR V2=inR (V1++V2):=by simp[inR]
 have hVl:=bD (V1++V2)
 rw[List.length_append] at hVl
 generalize hVV:V1++V2=V at *
 have hVn:V.length=V1.length+V2.length:=by rw[← hVV,List.length_append]
 refine AWP.sub (fr':=[(4,.cptr [iv a,iv k1,iv c1,iv b1,iv s1,.list 1 (inR z1),.list 1 (inR l1),.list 1 (inR p1'),.list 8 (aS f1),iv k2,iv c2,iv b2,iv s2,.list 1 (inR z2),.list 1 (inR l2),.list 1 (inR p2'),.list 8 (aS f2)]),(17,.list 1 (inR V)),(18,.list 1 (inR V))]) (H':=[]) ?_ ?_
 ·(apply Sub.to [] []; all_goals (repeat' (first | exact aE.nil | exact aB.nil | exact aF.nil | exact ToL.nil | exact ToR.nil | refine aE.cons ?_ ?_ | refine aB.cons ?_ ?_ | refine aP ?_ ?_ | exact To.undef _ | exact To.sc _ | exact To.hslL rfl rfl | exact To.asl _ _ _ _ _ _ _ rfl | refine To.ifc _ _ _ ?_ | exact To.ptrO rfl rfl rfl | exact To.mrefO rfl | exact To.nil rfl rfl rfl | exact wt1 | exact To.nilL | refine To.int ?_ | refine To.bool ?_ | refine To.hslL rfl ?_ | refine wt2 rfl ?_ ?_ ?_ | refine To.tupL ?_ | refine To.aggL ?_ | refine To.cptrL ?_ | refine To.fzp rfl rfl rfl ?_ | refine To.fzm rfl rfl ?_ | refine To.cloL ?_ ?_ | refine wt3 ?_ | refine wt4 ?_ | exact wt5 | refine wt6 ?_ | refine ToB.one ?_ | exact wt7 | ((with_reducible apply ToL.consE); case e9=>rfl) | refine wt8 ?_ | refine ToL.cons ?_ ?_ | exact wt11 | refine wt9 ?_ ?_ | refine wt12 ?_ | (with_reducible rfl) | assumption)); all_goals (first | rfl | assumption | (simp; done) | (simp; omega) | (rw[wrap_small (by omega) (by omega)]; done) | (rw[wrap_small (by omega) (by omega)]; omega) | (refine congrArg Nat.cast ?_; assumption) | skip))
 have hgV:∀ i (h:i < V.length),V[i]=dE s (off * s.elem.toNat+i):=fun i h=>by
  have:=hget i (by omega)
  rw[gEg h] at this
  injection this
 have hspl:=hb.2.2.2.1
 refine aA ?_
 refine AWP.loop (fun i:Nat=>[(4,.cptr [iv a,iv k1,iv c1,iv b1,iv s1,.list 1 (inR z1),.list 1 (inR l1),.list 1 (inR p1'),.list 8 (aS f1),iv k2,iv c2,iv b2,iv s2,.list 1 (inR z2),.list 1 (inR l2),.list 1 (inR p2'),.list 8 (aS f2)]),(17,.list 1 (inR V)),(18,.list 1 (inR V)),(19,iv i)]) (fun _=>[]) (fun i=>i≤V.length) (fun i=>V.length - i) 0 (Nat.zero_le _) ?_ ?_
 ·(refine Sub.keep ?_; repeat' (first | exact trivial | exact Le.refl _ | refine⟨?_,?_⟩))
 ·rintro i hi
  refine aA ?_
  rw[hVl,← hVn]
  refine AWP.condN (i < V.length) rfl rfl (fun h=>?_) (fun h=>?_)
  ·have r1:=bZ V i h
   have hgi:=hgV i h
   refine aA ?_
   rw[show(V[i] != V[i])=false by simp]
   cases i with
   | zero=>
    refine aA ?_
    refine DK.nil ⟨by kernel_rfl,?_⟩
    refine aA ?_
    refine⟨1,by omega,by omega,?_⟩
    exact Sub.w [] []
   | succ j=>
    have r2:=bZ V j (by omega)
    have hgj:=hgV j (by omega)
    have hlt:=xI i1 hspl (off * s.elem.toNat+j)
    rw[Nat.add_assoc,← hgi,← hgj] at hlt
    refine aA ?_
    refine DK.nil ⟨by kernel_rfl,?_⟩
    refine aA ?_
    refine AWP.condN (V[j+1]≤V[j]) rfl rfl (fun h9=>by omega) (fun _=>?_)
    refine aA ?_
    refine⟨j+1+1,by omega,by omega,?_⟩
    exact Sub.w [] []
  ·obtain rfl:V.length=i:=by omega
   refine aA ?_
   refine AWP.condN (s.pl.length < 1) rfl rfl (fun h=>by omega) (fun _=>?_)
   refine aA ?_
   refine AWP.loop (fun i:Nat=>[(18,.list 1 (inR V)),(20,iv s.pl.length),(22,iv s.ext),(23,iv i)]) (fun _=>[]) (fun i=>s.pl.length≤i) (fun i=>V.length - i) s.pl.length (Nat.le_refl _) ?_ ?_
   ·exact Sub.w [] []
   rintro i hi
   refine aA ?_
   rw[hVl,← hVn]
   refine AWP.condN (i < V.length) rfl rfl (fun h=>?_) (fun h=>?_)
   ·have r1:=bZ V i h
    have r2:=bZ V (i - s.pl.length) (by omega)
    have hgi:=hgV i h
    have hgj:=hgV (i - s.pl.length) (by omega)
    have hper:=B5 hspl (off * s.elem.toNat+(i - s.pl.length))
    rw[Nat.add_assoc,Nat.sub_add_cancel hi,← hgi,← hgj] at hper
    have hbv:=hbd3 V[i] (List.getElem_mem _)
    refine aA ?_
    rw[Av.wrap_small (show -9223372036854775808≤V[i - s.pl.length]+s.ext by omega) (by omega),← hper]
    refine DK.nil ⟨by kernel_rfl,?_⟩
    refine aA ?_
    refine AWP.condN False rfl (by simp) (fun h=>h.elim) (fun _=>?_)
    refine aA ?_
    refine⟨i+1,by omega,by omega,?_⟩
    exact Sub.w [] []
   ·refine aA ?_
    exact aJ.w
def TyS:Nat→List Sh
 | 0=>[.int .i64,.int .i64,.int .i64,.int .i64,.slice [.int .i64],.slice [.int .i64],.slice [.int .i64],.any]
 | m+1=>[.int .i64,.int .i64,.int .i64,.int .i64,.slice [.int .i64],.slice [.int .i64],.slice [.int .i64],.slice (TyS m)]
theorem tY:∀(m:Nat) (r:List AV),r.length=(TyS m).length→(∀(j:Nat) s c,(TyS m)[j]?=some s→r[j]?=some c→Fit s c)→∃ t,r=tyR t∧mI m t
 | 0,r,hl,hf=>by
  match r,hl with
  | [x0,x1,x2,x3,x4,x5,x6,x7],_=>
   obtain⟨k,rfl,_⟩:=dZ (hf 0 _ x0 rfl rfl)
   obtain⟨c,rfl,_⟩:=dZ (hf 1 _ x1 rfl rfl)
   obtain⟨b,rfl,_⟩:=dZ (hf 2 _ x2 rfl rfl)
   obtain⟨s,rfl,_⟩:=dZ (hf 3 _ x3 rfl rfl)
   obtain⟨sz,rfl,_⟩:=eU (hf 4 _ x4 rfl rfl)
   obtain⟨bl,rfl,_⟩:=eU (hf 5 _ x5 rfl rfl)
   obtain⟨pl,rfl,_⟩:=eU (hf 6 _ x6 rfl rfl)
   have h7:=hf 7 _ x7 rfl rfl
   cases h7
   exact⟨.raw k c b s sz bl pl,by rw[tyR]; rfl,trivial⟩
 | m+1,r,hl,hf=>by
  match r,hl with
  | [x0,x1,x2,x3,x4,x5,x6,x7],_=>
   obtain⟨k,rfl,_⟩:=dZ (hf 0 _ x0 rfl rfl)
   obtain⟨c,rfl,_⟩:=dZ (hf 1 _ x1 rfl rfl)
   obtain⟨b,rfl,_⟩:=dZ (hf 2 _ x2 rfl rfl)
   obtain⟨s,rfl,_⟩:=dZ (hf 3 _ x3 rfl rfl)
   obtain⟨sz,rfl,_⟩:=eU (hf 4 _ x4 rfl rfl)
   obtain⟨bl,rfl,_⟩:=eU (hf 5 _ x5 rfl rfl)
   obtain⟨pl,rfl,_⟩:=eU (hf 6 _ x6 rfl rfl)
   obtain⟨of,rfl,_,ho⟩:=tC (hf 7 _ x7 rfl rfl) tyR (mI m) fun r hl hf=>tY m r hl hf
   refine⟨.mk k c b s sz bl pl of,?_,ho⟩
   rw[tyR,lW]
   cases m<;>rfl
theorem qA:∀(n:Nat) (t:Ty),mI (n+1) t→mI n t
 | 0,_,_=>trivial
 | _+1,.raw ..,h=>h.elim
 | n+1,.mk ..,h=>fun u hu=>qA n u (h u hu)
theorem F8:Tryz.prog.underlying 4=some .bool:=by kernel_rfl
theorem EX:laidOutB Tryz.prog=true:=by kernel_rfl
theorem EN:mapsRowed Tryz.prog=true:=by kernel_rfl
theorem yF:∀ t e,t < Tryz.prog.types.size→Tryz.prog.underlying t=some (.slice e)→0 < Tryz.prog.cellsOf e:=slices_full_of Tryz.prog (by kernel_rfl)
theorem GA:ownKnob Tryz.prog.godebug=none:=by kernel_rfl
end Go.Proofs.YtgdocflpobncmaaGreat
