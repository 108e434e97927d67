import Derived.Test.YtgdocflpobncmaaGreatGFtH6
import Derived.Test.YtgdocflpobncmaaGreatGFtE5
import Derived.Test.YtgdocflpobncmaaGreatGFtG3
import Derived.Test.YtgdocflpobncmaaGreatGFtL3
import Derived.Test.YtgdocflpobncmaaGreatGFtA4
import Derived.Test.YtgdocflpobncmaaGreatGAvL
import Derived.Test.YtgdocflpobncmaaGreatGAvQ
import Derived.Test.YtgdocflpobncmaaGreatRows
namespace Go.Proofs.YtgdocflpobncmaaGreat
open Go.Av Go.Proofs
set_option maxRecDepth 20000
theorem AR {t:Ty} (h:a8 3 t=true):aB Tryz.prog 127 [.agg (tyR t)] (.tup [.agg (shR (aF 3 t).2),iv (aF 3 t).1]):=by
 refine aB.mkI cF127 (nlB rfl) ?_
 have hd:=yC 3 t (by omega) h
 have hle:=xS 3 t
 have hm:=v8 3 t h
 unfold JL at hm
 generalize aF 3 t=r at *
 generalize rR 3 t=d at *
 obtain⟨e,s⟩:=r
 obtain⟨_,k,c,b,st,sz,bl,pl,of,_,rfl,_⟩:=aS h
 unfold shR at *
 simp only at hm ⊢
 rw[tyR] at *
 refine aA ?_
 rw[dFa (show¬ 8 < d by omega)]
 refine aA ?_
 exact aI.w
theorem o5 {t:Ty} (h:a8 3 t=true):aB Tryz.prog 65 [.agg (tyR t)] (.tup [iv (bJ (aF 3 t).2.es:Nat),iv (aF 3 t).1]):=by
 refine aB.mkI cF65 (nlB rfl) ?_
 have ho:=AR h
 have hs:=IV (aF 3 t).2.es (jP h)
 generalize aF 3 t=r at *
 obtain⟨e,s⟩:=r
 obtain⟨_,k,c,b,st,sz,bl,pl,of,_,rfl,_⟩:=aS h
 unfold shR at *
 simp only at ho hs ⊢
 rw[tyR] at *
 refine aA ?_
 exact aI.w
theorem sh_bd {t:Ty} (h:a8 3 t=true):-mP≤(aF 3 t).2.lo∧(aF 3 t).2.lo≤mP∧-mP≤(aF 3 t).2.hi∧(aF 3 t).2.hi≤mP:=by
 by_cases h0:(aF 3 t).1=0
 ·obtain⟨b1,b2,b3,b4,_⟩:=c7 3 t h h0
  exact⟨b1,b2,b3,b4⟩
 ·rw[eP 3 t h0]
  decide
theorem tF {t:Ty} (h:a8 3 t=true):aB Tryz.prog 68 [.agg (tyR t)] (.tup [iv (aF 3 t).2.lo,iv (aF 3 t).2.ext,iv (aF 3 t).1]):=by
 refine aB.mkI cF68 (nlB rfl) ?_
 have ho:=AR h
 have hb:=sh_bd h
 unfold Shp.ext
 generalize aF 3 t=r at *
 obtain⟨e,s⟩:=r
 obtain⟨_,k,c,b,st,sz,bl,pl,of,_,rfl,_⟩:=aS h
 unfold shR at *
 unfold mP at hb
 simp only at ho hb ⊢
 rw[tyR] at *
 refine aA ?_
 rw[Av.wrap_small (show -9223372036854775808≤s.hi - s.lo by omega) (by omega)]
 refine DK.nil ⟨by kernel_rfl,?_⟩
 refine aA ?_
 exact aI.w
set_option maxHeartbeats 2000000 in
theorem I3 {t:Ty} (h:a8 3 t=true):aB Tryz.prog 130 [.agg (tyR t),iv 1] (.tup [.list 2 (enR (aF 3 t).2.es),iv (aF 3 t).1]):=by
 refine aB.mkI cF130 (nlB rfl) ?_
 have ho:=AR h
 have hsb:=c7 3 t h
 have her:=eP 3 t
 generalize aF 3 t=r at *
 obtain⟨e,s⟩:=r
 obtain⟨_,k,c,b,st,sz,bl,pl,of,_,rfl,_⟩:=aS h
 unfold shR at *
 simp only at ho hsb her ⊢
 rw[tyR] at *
 refine aA ?_
 refine AWP.condN (e≠0) rfl (eV e) (fun h1=>?_) (fun h1=>?_)
 ·rw[show s=shp0 from her h1,show enR shp0.es=[] from rfl]
  refine aA ?_
  exact aI.w
 obtain rfl:e=0:=Decidable.byContradiction h1
 obtain⟨b1,b2,b3,b4,b5,b6,b7,b8,b9⟩:=hsb rfl
 have hel:=bK s.es
 have hp:=List.length_pos_iff.2 b7
 have hq:1≤4096 / s.es.length:=(Nat.le_div_iff_mul_le hp).2 (by omega)
 unfold mP at *
 refine aA ?_
 rw[hel]
 refine aA ?_
 rw[dFa (by omega)]
 refine aA ?_
 have hn1:IntKind.i64.wrap (((1:Nat):Int))=1:=rfl
 refine AWP.loop (fun i:Nat=>[(1,iv 1),(6,.cptr [.list 2 (enR s.es),iv s.lo,iv s.hi]),(8,.hsl 0 0 0 (if i=0 then[] else s.es).length),(9,iv i)]) (fun i=>[[.cells 2 (enR (if i=0 then[] else s.es))]]) (fun i=>i≤1) (fun i=>1 - i) 0 (Nat.zero_le _) ?_ ?_
 ·rw[if_pos rfl]
  exact Sub.wl [2] [[(2,0)]]
 rintro i hi
 refine aA ?_
 refine AWP.condN (i < 1) rfl (by first | rfl | (refine decide_eq_decide.2 ?_; omega)) (fun h=>?_) (fun h=>?_)
 ·obtain rfl:i=0:=by omega
  rw[if_pos rfl]
  refine aA ?_
  refine AWP.loop (fun j:Nat=>[(1,iv 1),(6,.cptr [.list 2 (enR s.es),iv s.lo,iv s.hi]),(8,.hsl 0 0 0 (s.es.take j).length),(9,iv 0),(10,iv j)]) (fun j=>[[.cells 2 (enR (s.es.take j))]]) (fun j=>j≤s.es.length) (fun j=>s.es.length - j) 0 (Nat.zero_le _) ?_ ?_
  ·exact Sub.wl [] [[(0,0)]]
  rintro j hj
  refine aA ?_
  rw[hel]
  refine AWP.condN (j < s.es.length) rfl rfl (fun h2=>?_) (fun h2=>?_)
  ·have hr:=eD s.es j h2
   have hx:=b9 s.es[j] (List.getElem_mem _)
   have htk:=cG h2
   have hfa:=kO s.es[j].2
   have htl:=bK (s.es.take j)
   have hzw:aH s.es[j].2 (-mP) mP=true:=by
    unfold aH mP
    rw[dTr hx.1,dTr hx.2]
    rfl
   rw[hzw] at hfa
   have hle:(s.es.take j).length≤4096:=by rw[List.length_take]; omega
   generalize s.es[j]=y at *
   generalize s.es.take j=out at *
   have hz9:enR out++[[iv y.1,iv y.2]]=enR (out++[y]):=by simp[enR]
   refine aA ?_
   rw[Av.wrap_small (show -9223372036854775808≤s.hi - s.lo by omega) (by omega),Int.zero_mul,show IntKind.i64.wrap 0=0 from rfl,Int.add_zero,Av.wrap_small (show -9223372036854775808≤y.2 by omega) (by omega)]
   refine DK.nil ⟨by kernel_rfl,?_⟩
   refine aA ?_
   refine⟨j+1,by omega,by omega,?_⟩
   rw[htk,List.length_append]
   exact Sub.wl [] [[(3,0)]]
  ·obtain rfl:s.es.length=j:=by omega
   rw[List.take_length]
   refine aA ?_
   refine⟨1,Nat.le_refl _,Nat.one_pos,?_⟩
   rw[if_neg (by omega)]
   exact Sub.wl [] [[(0,0)]]
 ·obtain rfl:i=1:=by omega
  rw[if_neg (by omega)]
  refine aA ?_
  exact aI.w
theorem sU {t:Ty} (h:a8 3 t=true):aB Tryz.prog 69 [.agg (tyR t),iv 1] (.tup [.list 1 (inR (bT (aF 3 t).2.es)),iv (aF 3 t).1]):=by
 refine aB.mkI cF69 (nlB rfl) ?_
 have ho:=I3 h
 have hl:=jP h
 have hb:∀ y∈(aF 3 t).2.es,-mP≤y.2∧y.2≤mP:=by
  by_cases h0:(aF 3 t).1=0
  ·exact(c7 3 t h h0).2.2.2.2.2.2.2.2
  ·rw[eP 3 t h0]
   exact fun y hy=>by cases hy
 have hp:=BI (aF 3 t).2.es hl hb
 have her:=eP 3 t
 generalize aF 3 t=r at *
 obtain⟨e,s⟩:=r
 obtain⟨_,k,c,b,st,sz,bl,pl,of,_,rfl,_⟩:=aS h
 simp only at ho hp her ⊢
 rw[tyR] at *
 refine aA ?_
 refine AWP.condN (e≠0) rfl (eV e) (fun h1=>?_) (fun h1=>?_)
 ·rw[show s=shp0 from her h1,show inR (bT shp0.es)=[] from rfl]
  refine aA ?_
  exact aI.w
 obtain rfl:e=0:=Decidable.byContradiction h1
 refine aA ?_
 exact aI.w
theorem z9 {s:Sn} (h:nH s.pl s.ext=true) (hl:0 < s.pl.length) (ha:0≤s.at'):∀ k:Nat,(k:Int)≤dH s k
 | 0=>by
  obtain⟨h1,_⟩:=rX h hl
  unfold fS at h1
  rw[if_pos rfl] at h1
  have e:dH s 0=s.at'+s.pl.getD 0 0:=by unfold dH; simp
  rw[e]
  omega
 | k+1=>by
  have h1:=z9 h hl ha k
  have h2:=CE h hl k
  omega
def xM (s:Sn) (f n:Nat):List Int:=(List.range n).map fun i=>dH s (f+i)
def BR (s:Sn) (f n:Nat):List Int×Bool:=if n=0 then([],true) else if 65536 < f then([],false) else if okV (xM s f n)=true then(xM s f n,true) else([],false)
def zO (s:Sn) (off n:Nat):List Int×Bool:=if 65536 < off then([],decide (n=0)) else BR s (off * s.elem.toNat) n
theorem FC {s:Sn} {off n:Nat} (h:nH s.pl s.ext=true) (hl:0 < s.pl.length) (ha:0≤s.at'):zO s off n=hU s off n:=by
 have hv:xM s (off * s.elem.toNat) n=j7 s off n:=rfl
 unfold zO hU BR
 rw[hv]
 by_cases h0:n=0
 ·subst h0
  have:j7 s off 0=[]:=rfl
  rw[this]
  by_cases h1:65536 < off
  ·rw[if_pos h1]; rfl
  ·rw[if_neg h1]; rfl
 ·by_cases h1:65536 < off
  ·rw[if_pos h1,dFa h0]
   exact(if_pos ⟨Nat.pos_of_ne_zero h0,h1⟩).symm
  ·rw[if_neg h1,if_neg h0,if_neg (show¬ (0 < n∧65536 < off) from fun q=>h1 q.2)]
   by_cases h2:65536 < off * s.elem.toNat
   ·rw[if_pos h2]
    refine(if_neg fun q=>?_).symm
    have:=oM.1 q (dH s (off * s.elem.toNat+0)) (List.mem_of_getElem? (KF (i:=0) (Nat.pos_of_ne_zero h0)))
    have:=z9 h hl ha (off * s.elem.toNat+0)
    omega
   ·rw[if_neg h2]
theorem pL {a:Int} {e o:Ty} (h:(cC a e o).1=0):(cC a e o).2=⟨a,(bJ (aF 3 e).2.es:Nat),(aF 3 o).2.ext,bT (aF 3 o).2.es⟩∧(aF 3 e).1=0∧(aF 3 o).1=0∧nH (bT (aF 3 o).2.es) (aF 3 o).2.ext=true:=by
 unfold cC at h ⊢
 by_cases c1:a < 0∨65536 < a
 ·rw[if_pos c1] at h; cases h
 rw[if_neg c1] at h ⊢
 by_cases c2:(aF 3 e).1≠0
 ·rw[if_pos c2] at h; exact absurd h c2
 rw[if_neg c2] at h ⊢
 by_cases c3:(aF 3 o).1≠0
 ·rw[if_pos c3] at h; exact absurd h c3
 rw[if_neg c3] at h ⊢
 by_cases c4:nH (bT (aF 3 o).2.es) (aF 3 o).2.ext=true
 ·rw[if_pos c4] at h ⊢
  by_cases c5:E9 (bJ (aF 3 e).2.es) (bJ (aF 3 o).2.es)=true
  ·rw[if_pos c5]
   exact⟨rfl,Decidable.byContradiction c2,Decidable.byContradiction c3,c4⟩
  ·rw[if_neg c5] at h; cases h
 ·rw[if_neg c4] at h; cases h
set_option maxHeartbeats 2000000 in
theorem wF {a:Int} {e o:Ty} (he:a8 3 e=true) (ho:a8 3 o=true):aB Tryz.prog 17 [.agg (vwR a e o)] (iv (cC a e o).1):=by
 refine aB.mkI (ha:=⟨fun c hc=>by simp only[List.mem_cons,List.not_mem_nil,or_false] at hc; rcases hc with rfl | rfl | rfl<;>first | exact iG.out | exact .sc _⟩) cF17 (nlB rfl) ?_
 have e1:=o5 he
 have o1:=o5 ho
 have o2:=tF ho
 have o3:=sU ho
 have hn1:=d6 (aF 3 e).2.es
 have hn2:=d6 (aF 3 o).2.es
 have hel:=jP he
 have hol:=jP ho
 have hpl:=nL (aF 3 o).2.es
 have hasc:=OB (bT (aF 3 o).2.es) (aF 3 o).2.ext (by omega)
 unfold cC
 generalize aF 3 e=re at *
 generalize aF 3 o=ro at *
 obtain⟨ee,se⟩:=re
 obtain⟨eo,so⟩:=ro
 simp only at e1 o1 o2 o3 hn1 hn2 hel hol hpl hasc ⊢
 obtain⟨_,k1,c1,b1,s1,z1,l1,p1,f1,_,rfl,_⟩:=aS he
 obtain⟨_,k2,c2,b2,s2,z2,l2,p2,f2,_,rfl,_⟩:=aS ho
 generalize hne:bJ se.es=ne at *
 generalize hno:bJ so.es=no at *
 generalize bT so.es=pl at *
 generalize so.ext=ext at *
 generalize hasb:nH pl ext=asb at *
 rw[tyR] at e1 o1 o2 o3
 unfold vwR
 rw[tyR,tyR]
 refine aA ?_
 by_cases ha:a < 0
 ·rw[dTr ha,if_pos (.inl ha)]
  refine aA ?_
  exact aI.w
 rw[dFa ha]
 refine aA ?_
 refine AWP.condN (65536 < a) rfl rfl (fun h=>?_) (fun h=>?_)
 ·rw[if_pos (.inr h)]
  refine aA ?_
  exact aI.w
 rw[if_neg (by omega)]
 refine aA ?_
 refine AWP.condN (ee≠0) rfl (eV _) (fun h1=>?_) (fun h1=>?_)
 ·rw[if_pos h1]
  refine aA ?_
  exact aI.w
 rw[if_neg h1]
 refine aA ?_
 refine AWP.condN (eo≠0) rfl (eV _) (fun h2=>?_) (fun h2=>?_)
 ·rw[if_pos h2]
  refine aA ?_
  exact aI.w
 rw[if_neg h2]
 unfold E9
 generalize hR:ite (asb=true) _ _=R
 refine aA ?_
 by_cases g1:ne < 1
 ·rw[dTr g1,show R.1=2 by rw[← hR,dFa (show¬ 1≤ne by omega)]; cases asb<;>rfl]
  refine aA ?_
  exact aI.w
 rw[dFa g1]
 refine aA ?_
 by_cases g2:no < 1
 ·rw[dTr g2,show R.1=2 by rw[← hR,dFa (show¬ 1≤no by omega),Bool.false_and,Bool.and_false]; cases asb<;>rfl]
  refine aA ?_
  exact aI.w
 rw[dFa g2]
 rw[dTr (show 1≤ne by omega),dTr (show 1≤no by omega)] at hR
 refine aA ?_
 by_cases g3:no % ne=0
 ·rw[dTr g3] at hR ⊢
  cases asb with
  | false=>
   rw[show R.1=2 by rw[← hR]; rfl]
   refine aA ?_
   exact aI.w
  | true=>
   rw[show R.1=0 by rw[← hR]; rfl]
   refine aA ?_
   exact aI.w
 ·rw[dFa g3] at hR ⊢
  rw[show R.1=2 by rw[← hR]; cases asb<;>rfl]
  refine aA ?_
  exact aI.w
theorem JO {s:Sn} {f n:Nat}:(xM s f n).length=n:=by simp[xM]
set_option maxHeartbeats 2000000 in
theorem KW {a:Int} {e o:Ty} (he:a8 3 e=true) (ho:a8 3 o=true) (hv:(cC a e o).1=0) (f n:Nat) (hf:f≤3000000000) (hn:n≤5000):aB Tryz.prog 129 [.agg (vwR a e o),iv f,iv n] (.tup [.list 1 (inR (BR (cC a e o).2 f n).1),bv (BR (cC a e o).2 f n).2]):=by
 refine aB.mkI (ha:=⟨fun c hc=>by simp only[List.mem_cons,List.not_mem_nil,or_false] at hc; rcases hc with rfl | rfl | rfl<;>first | exact iG.out | exact .sc _⟩) cF129 (nlB rfl) ?_
 have o2:=tF ho
 have o3:=sU ho
 have hs:=lK he ho hv
 obtain⟨v1,v2,v3,v4⟩:=pL hv
 have e1:(cC a e o).2.pl=bT (aF 3 o).2.es:=by rw[v1]
 have e2:(cC a e o).2.ext=(aF 3 o).2.ext:=by rw[v1]
 have e3:(cC a e o).2.at'=a:=by rw[v1]
 rw[v3,← e1] at o3
 rw[v3,← e2] at o2
 generalize (cC a e o).2=s at *
 generalize (aF 3 o).2.lo=lo at *
 clear v1 v2 v3 v4 e1 e2
 unfold BR
 obtain⟨_,k1,c1,b1,s1,z1,l1,p1,f1,_,rfl,_⟩:=aS he
 obtain⟨_,k2,c2,b2,s2,z2,l2,p2,f2,_,rfl,_⟩:=aS ho
 rw[tyR] at o2 o3
 unfold vwR
 rw[tyR,tyR]
 refine aA ?_
 refine AWP.condN (n=0) rfl (by first | rfl | (simp; done)) (fun h0=>?_) (fun h0=>?_)
 ·rw[if_pos h0,show inR (([],true):List Int×Bool).1=[] from rfl]
  refine aA ?_
  exact aI.w
 rw[if_neg h0]
 refine aA ?_
 refine AWP.condN (65536 < f) rfl (by first | rfl | (simp; done)) (fun h1=>?_) (fun h1=>?_)
 ·rw[if_pos h1,show inR (([],false):List Int×Bool).1=[] from rfl]
  refine aA ?_
  exact aI.w
 rw[if_neg h1]
 have hil:=bA s.pl
 obtain⟨⟨q1,q2⟩,⟨q3,q4⟩,⟨q5,q6⟩,q7,q8,q9⟩:=hs
 unfold mP at q5 q6
 have hgi:∀ i,i < n→(xM s f n)[i]?=some (dH s (f+i)):=fun i hi=>by
  unfold xM
  simp[hi]
 have hvl:(xM s f n).length=n:=JO
 generalize hvv:xM s f n=vv at *
 refine aA ?_
 refine AWP.loop (fun i:Nat=>[(1,iv f),(2,iv n),(3,.cptr [iv a,iv k1,iv c1,iv b1,iv s1,.list 1 (inR z1),.list 1 (inR l1),.list 1 (inR p1),.list 8 (aM f1),iv k2,iv c2,iv b2,iv s2,.list 1 (inR z2),.list 1 (inR l2),.list 1 (inR p2),.list 8 (aM f2)]),(8,.list 1 (inR s.pl)),(11,iv s.ext),(13,.hsl 0 0 0 (vv.take i).length),(14,iv (f+i:Nat))]) (fun i=>[[.cells 1 (inR (vv.take i))]]) (fun i=>i≤n∧∀ p∈vv.take i,p < 65536) (fun i=>n - i) 0 ⟨Nat.zero_le _,fun p hp=>by simp at hp⟩ ?_ ?_
 ·exact Sub.wl [1] [[(1,0)]]
 rintro i ⟨hi,hin⟩
 refine aA ?_
 refine AWP.condN (i < n) rfl (by first | rfl | exact decide_eq_decide.2 (by omega)) (fun h=>?_) (fun h=>?_)
 ·have hg:=hgi i h
  have hp0:dH s (f+i)=a+(((f+i) / s.pl.length:Nat):Int) * s.ext+s.pl.getD ((f+i) % s.pl.length) 0:=by unfold dH; rw[e3]
  have hkm:(f+i) % s.pl.length < s.pl.length:=Nat.mod_lt _ q7
  have hr:=cS s.pl ((f+i) % s.pl.length) hkm
  have hpb:=q9 s.pl[(f+i) % s.pl.length] (List.getElem_mem _)
  have hgd:s.pl.getD ((f+i) % s.pl.length) 0=s.pl[(f+i) % s.pl.length]:=by simp[hkm]
  rw[hgd] at hp0
  generalize s.pl[(f+i) % s.pl.length]=pv' at *
  have hq:(f+i) / s.pl.length≤f+i:=Nat.div_le_self _ _
  obtain⟨Q,hQ⟩:∃ Q,Q=(f+i) / s.pl.length:=⟨_,rfl⟩
  rw[← hQ] at hq hp0
  have hmu:=gG (a:=s.ext) (b:=(Q:Int)) (A:=1048576) (B:=3000005000) q5 q6 (by omega) (by omega)
  have htl:(vv.take i).length≤1000000:=by rw[List.length_take]; omega
  have htk:vv.take (i+1)=vv.take i++[dH s (f+i)]:=by rw[List.take_add_one,hg]; rfl
  have hol:=bA (vv.take i)
  rw[Int.mul_comm (Q:Int)] at hp0
  generalize hpp:dH s (f+i)=p at *
  have hz9:inR (vv.take i)++[[iv p]]=inR (vv.take i++[p]):=by simp[inR]
  refine aA ?_
  rw[hil]
  refine aA ?_
  rw[← hQ,Av.wrap_small (show -9223372036854775808≤s.ext * (Q:Int) by omega) (by omega),Av.wrap_small (show -9223372036854775808≤a+s.ext * (Q:Int) by omega) (by omega),Av.wrap_small (show -9223372036854775808≤a+s.ext * (Q:Int)+pv' by omega) (by omega),← hp0]
  refine DK.nil ⟨by kernel_rfl,?_⟩
  refine aA ?_
  refine AWP.condN (65536≤p) rfl rfl (fun h2=>?_) (fun h2=>?_)
  ·have hno:¬ okV vv=true:=fun q=>by
    have:=oM.1 q p (List.mem_of_getElem? hg)
    omega
   rw[if_neg hno,show inR (([],false):List Int×Bool).1=[] from rfl]
   refine aA ?_
   exact aI.w
  ·refine aA ?_
   refine⟨i+1,⟨by omega,fun y hy=>?_⟩,by omega,?_⟩
   ·rw[htk] at hy
    rcases List.mem_append.1 hy with hy | hy
    ·exact hin y hy
    ·rw[List.mem_singleton.1 hy]; omega
   rw[htk,List.length_append]
   exact Sub.wl [] [[(3,0)]]
 ·obtain rfl:n=i:=by omega
  rw[List.take_of_length_le (by omega)] at hin ⊢
  rw[if_pos (oM.2 hin)]
  have hol:=bA vv
  refine aA ?_
  exact aI.w
set_option maxHeartbeats 1000000 in
theorem HC (l:List Int) (hll:l.length≤1000000) (hlb:∀ p∈l,-10000000000000000≤p∧p≤10000000000000000):aB Tryz.prog 67 [.list 1 (inR l)] (.list 2 (enR (dG l))):=by
 refine aB.mkI cF67 (nlB rfl) ?_
 have hil:=bA l
 refine aA ?_
 refine AWP.loop (fun i:Nat=>[(0,.list 1 (inR l)),(3,.hsl 0 0 0 (dG (l.take i)).length),(4,iv i)]) (fun i=>[[.cells 2 (enR (dG (l.take i)))]]) (fun i=>i≤l.length) (fun i=>l.length - i) 0 (Nat.zero_le _) ?_ ?_
 ·exact Sub.wl [2] [[(0,0)]]
 rintro i hi
 refine aA ?_
 rw[hil]
 refine AWP.condN (i < l.length) rfl rfl (fun h=>?_) (fun h=>?_)
 ·have hr:=cS l i h
  have hp:=hlb l[i] (List.getElem_mem _)
  have htk:=cG h
  obtain⟨g5,g6⟩:=nN (fun p=>-10000000000000000≤p∧p≤10000000000000000) i (l.take i) (by rw[List.length_take]; omega) fun p hp=>hlb p (List.mem_of_mem_take hp)
  have hsn:=iS (l.take i) l[i]
  rw[← htk] at hsn
  generalize l[i]=p at *
  generalize dG (l.take i)=out at *
  have hol:=bK out
  rcases List.eq_nil_or_concat out with rfl | ⟨o,x,hox⟩
  ·refine aA ?_
   refine DK.nil ⟨by kernel_rfl,?_⟩
   refine aA ?_
   refine⟨i+1,by omega,by omega,?_⟩
   rw[hsn,show gE [] p=[(p,1)] from rfl]
   exact Sub.wl [] [[(3,0)]]
  ·rw[List.concat_eq_append] at hox
   subst hox
   have hob:=g6 x (by simp)
   obtain⟨a,m⟩:=x
   have hr2:eI (enR (o++[(a,m)])) ((o.length:Nat):Int)=some [iv a,iv m]:=by
    rw[eD (o++[(a,m)]) o.length (by simp)]
    simp
   have hln:(o++[(a,m)]).length=o.length+1:=by simp
   rw[hln] at hol g5 ⊢
   replace hob:(-10000000000000000≤a∧a≤10000000000000000)∧0 < m∧m≤(i:Int):=hob
   refine aA ?_
   rw[Av.wrap_small (show -9223372036854775808≤a+m by omega) (by omega)]
   refine DK.nil ⟨by kernel_rfl,?_⟩
   refine aA ?_
   refine AWP.condN (a+m=p) rfl rfl (fun h=>?_) (fun h=>?_)
   ·rw[j4 (x:=(a,m)) h] at hsn
    have ew:IntKind.i64.wrap (m+1)=m+1:=Av.wrap_small (by omega) (by omega)
    refine aA ?_
    rw[ew]
    refine⟨i+1,by omega,by omega,?_⟩
    rw[hsn,show(o++[(a,m+1)]).length=o.length+1 by simp]
    have hz8:=sW (o:=o) (x:=(a,m)) (y:=(a,m+1)) rfl
    exact Sub.wl [] [[(0,0)]]
   ·rw[jQ (x:=(a,m)) h] at hsn
    refine aA ?_
    refine⟨i+1,by omega,by omega,?_⟩
    rw[hsn,show(o++[(a,m)]++[(p,1)]:List (Int×Int)).length=o.length+1+1 by simp]
    have hz9:enR (o++[(a,m)])++[[iv p,iv 1]]=enR (o++[(a,m)]++[(p,1)]):=by simp[enR]
    exact Sub.wl [] [[(3,0)]]
 ·obtain rfl:l.length=i:=by omega
  rw[List.take_length]
  have hol:=bK (dG l)
  refine aA ?_
  exact aI.w
theorem HW {a k1 c1 b1 s1 k2 c2 b2 s2:Int} {z1 l1 p1 z2 l2 p2:List Int} {f1 f2:List Ty}:vwR a (.mk k1 c1 b1 s1 z1 l1 p1 f1) (.mk k2 c2 b2 s2 z2 l2 p2 f2)=[iv a,iv k1,iv c1,iv b1,iv s1,.list 1 (inR z1),.list 1 (inR l1),.list 1 (inR p1),.list 8 (aM f1),iv k2,iv c2,iv b2,iv s2,.list 1 (inR z2),.list 1 (inR l2),.list 1 (inR p2),.list 8 (aM f2)]:=by
 unfold vwR
 rw[tyR,tyR]
 rfl
set_option maxHeartbeats 1000000 in
theorem K5 {a:Int} {e o:Ty} (he:a8 3 e=true) (ho:a8 3 o=true) (hv:(cC a e o).1=0) (f n:Nat) (hf:f < 9223372036854775808) (hn:n≤5000):aB Tryz.prog 66 [.agg (vwR a e o),iv f,iv n] (.tup [.list 1 (inR (zO (cC a e o).2 f n).1),bv (zO (cC a e o).2 f n).2]):=by
 refine aB.mkI (ha:=⟨fun c hc=>by simp only[List.mem_cons,List.not_mem_nil,or_false] at hc; rcases hc with rfl | rfl | rfl<;>first | exact iG.out | exact .sc _⟩) cF66 (nlB rfl) ?_
 have e1:=o5 he
 have hs:=lK he ho hv
 obtain⟨v1,v2,v3,v4⟩:=pL hv
 have hE:(cC a e o).2.elem=(bJ (aF 3 e).2.es:Nat):=by rw[v1]
 have hp:f≤65536→aB Tryz.prog 129 [.agg (vwR a e o),iv ((f * bJ (aF 3 e).2.es:Nat)),iv n] (.tup [.list 1 (inR (BR (cC a e o).2 (f * bJ (aF 3 e).2.es) n).1),bv (BR (cC a e o).2 (f * bJ (aF 3 e).2.es) n).2]):=fun h=>by
  refine KW he ho hv _ n ?_ hn
  have:=hs.2.1.2
  have:f * bJ (aF 3 e).2.es≤65536 * 40000:=Nat.mul_le_mul h (by omega)
  omega
 have hEb:=hs.2.1.2
 unfold zO
 rw[hE] at hEb ⊢
 rw[Int.toNat_natCast]
 generalize bJ (aF 3 e).2.es=E at *
 generalize (cC a e o).2=s at *
 generalize (aF 3 e).1=ee at *
 obtain⟨_,k1,c1,b1,s1,z1,l1,p1,f1,_,rfl,_⟩:=aS he
 obtain⟨_,k2,c2,b2,s2,z2,l2,p2,f2,_,rfl,_⟩:=aS ho
 rw[HW] at hp ⊢
 rw[tyR] at e1
 refine aA ?_
 refine AWP.condN (65536 < f) rfl rfl (fun h1=>?_) (fun h1=>?_)
 ·rw[if_pos h1,show inR (([],decide (n=0)):List Int×Bool).1=[] from rfl]
  refine aA ?_
  exact aI.w
 rw[if_neg h1]
 have hp':=hp (by omega)
 have hfe:f * E≤65536 * 40000:=Nat.mul_le_mul (by omega) (by omega)
 refine aA ?_
 exact aI.w
set_option maxHeartbeats 2000000 in
theorem LA {a:Int} {e o:Ty} {off cnt:Int} (he:a8 3 e=true) (ho:a8 3 o=true) (hoff:off < 9223372036854775808):aB Tryz.prog 15 [.agg (vwR a e o),iv off,iv cnt] (.tup [.list 2 (enR (oP a e o off cnt).1),iv (oP a e o off cnt).2]):=by
 refine aB.mkI (ha:=⟨fun c hc=>by simp only[List.mem_cons,List.not_mem_nil,or_false] at hc; rcases hc with rfl | rfl | rfl<;>first | exact iG.out | exact .sc _⟩) cF15 (nlB rfl) ?_
 have hc:=wF (a:=a) he ho
 have e1:=o5 he
 have hsn:=lK (a:=a) he ho
 have hel:(cC a e o).1=0→(cC a e o).2.elem=(bJ (aF 3 e).2.es:Nat)∧nH (cC a e o).2.pl (cC a e o).2.ext=true:=fun h=>by
  obtain⟨v1,_,_,v4⟩:=pL h
  rw[v1]
  exact⟨rfl,v4⟩
 have hrel:=fun h f n hf hn=>K5 (a:=a) he ho h f n hf hn
 unfold oP
 generalize cC a e o=r at *
 obtain⟨er,s⟩:=r
 simp only at hc hsn hel hrel ⊢
 generalize bJ (aF 3 e).2.es=E at *
 generalize (aF 3 e).1=ee at *
 obtain⟨_,k1,c1,b1,s1,z1,l1,p1,f1,_,rfl,_⟩:=aS he
 obtain⟨_,k2,c2,b2,s2,z2,l2,p2,f2,_,rfl,_⟩:=aS ho
 rw[HW] at *
 rw[tyR] at e1
 refine aA ?_
 refine AWP.condN (er≠0) rfl (eV _) (fun h1=>?_) (fun h1=>?_)
 ·rw[if_pos h1,show enR (([],er):List (Int×Int)×Int).1=[] from rfl]
  refine aA ?_
  exact aI.w
 obtain rfl:er=0:=Decidable.byContradiction h1
 rw[if_neg h1]
 have hs:=hsn rfl
 obtain⟨hE,hA⟩:=hel rfl
 obtain⟨⟨hat,_⟩,⟨q1,q2⟩,_,hpl,_⟩:=id hs
 refine aA ?_
 by_cases g1:off < 0
 ·rw[dTr g1,if_pos (.inl g1),show enR (([],3):List (Int×Int)×Int).1=[] from rfl]
  refine aA ?_
  exact aI.w
 rw[dFa g1]
 refine aA ?_
 refine AWP.condN (cnt < 0) rfl rfl (fun g2=>?_) (fun g2=>?_)
 ·rw[if_pos (.inr g2),show enR (([],3):List (Int×Int)×Int).1=[] from rfl]
  refine aA ?_
  exact aI.w
 rw[if_neg (by omega)]
 obtain⟨O,rfl⟩:∃ O:Nat,off=O:=⟨off.toNat,by omega⟩
 obtain⟨C,rfl⟩:∃ C:Nat,cnt=C:=⟨cnt.toNat,by omega⟩
 rw[hE] at q1 q2 ⊢
 refine aA ?_
 by_cases g3:4096 < C
 ·rw[dTr g3,if_pos (.inl (by omega)),show enR (([],9):List (Int×Int)×Int).1=[] from rfl]
  refine aA ?_
  exact aI.w
 rw[dFa g3]
 have hCE:C * E≤4096 * 40000:=Nat.mul_le_mul (by omega) (by omega)
 have hci:((C:Nat):Int) * (E:Nat)=((C * E:Nat):Int):=(Int.natCast_mul C E).symm
 refine aA ?_
 refine AWP.condN (4096 < C * E) rfl rfl (fun g4=>?_) (fun g4=>?_)
 ·rw[if_pos (.inr (by rw[hci]; omega)),show enR (([],9):List (Int×Int)×Int).1=[] from rfl]
  refine aA ?_
  exact aI.w
 rw[if_neg (by rw[hci]; omega),Int.toNat_natCast,Int.toNat_natCast,Int.toNat_natCast]
 have hli:=hrel rfl O (C * E) (by omega) (by omega)
 rw[FC hA hpl hat] at hli
 have hlb:=t4 (off:=O) (n:=C * E) hs (by omega)
 generalize hU s O (C * E)=l at *
 obtain⟨l,ok⟩:=l
 simp only at hli hlb ⊢
 obtain⟨hll,hlb⟩:=hlb
 have hsg:=HC l (by omega) hlb
 cases ok with
 | false=>
  rw[if_neg (by simp),show enR (([],3):List (Int×Int)×Int).1=[] from rfl]
  refine aA ?_
  exact aI.w
 | true=>
  rw[if_pos rfl]
  refine aA ?_
  exact aI.w
theorem kM {n:Nat} {t:Ty} (h:lB (n+1) t):∃ k c b s sz bl pl of,t=.mk k c b s sz bl pl of:=by
 cases t with
 | mk k c b s sz bl pl of=>exact⟨k,c,b,s,sz,bl,pl,of,rfl⟩
 | raw=>exact h.elim
theorem LN {a:Int} {e o:Ty} (he:lB 3 e) (ho:lB 3 o):aB Tryz.prog 12 [.agg (vwR a e o)] (.tup [.agg (vwR a e o),bv (a8 3 e && a8 3 o)]):=by
 refine aB.mkI (hX:=⟨.tup _ (by
  intro c hc
  simp only[List.mem_cons,List.not_mem_nil,or_false] at hc
  rcases hc with rfl | rfl
  ·exact iG.out
  ·exact .sc _)⟩) (ha:=⟨fun c hc=>by rw[List.mem_singleton.1 hc]; exact iG.out⟩) cF12 (nlB rfl) ?_
 have se:aB Tryz.prog 19 [.agg (tyR e),iv 3] (bv (a8 3 e)):=tS 3 e (by omega) he
 have so:aB Tryz.prog 19 [.agg (tyR o),iv 3] (bv (a8 3 o)):=tS 3 o (by omega) ho
 obtain⟨k1,c1,b1,s1,z1,l1,p1,f1,rfl⟩:=kM he
 obtain⟨k2,c2,b2,s2,z2,l2,p2,f2,rfl⟩:=kM ho
 generalize a8 3 (Ty.mk k1 c1 b1 s1 z1 l1 p1 f1)=g1 at *
 generalize a8 3 (Ty.mk k2 c2 b2 s2 z2 l2 p2 f2)=g2 at *
 have e0:vwR a (Ty.mk k1 c1 b1 s1 z1 l1 p1 f1) (Ty.mk k2 c2 b2 s2 z2 l2 p2 f2)=[iv a,iv k1,iv c1,iv b1,iv s1,.list 1 (inR z1),.list 1 (inR l1),.list 1 (inR p1),.list 8 (aM f1),iv k2,iv c2,iv b2,iv s2,.list 1 (inR z2),.list 1 (inR l2),.list 1 (inR p2),.list 8 (aM f2)]:=by unfold vwR; rw[tyR,tyR]; rfl
 rw[e0]
 rw[tyR] at se so
 cases g1 with
 | false=>
  refine aA ?_
  refine DK.nil ⟨by kernel_rfl,?_⟩
  refine aA ?_
  exact aI.w
 | true=>
  refine aA ?_
  refine DK.nil ⟨by kernel_rfl,?_⟩
  refine aA ?_
  exact aI.w
theorem CB (l:List (Int×Int)) (hl:l.length≤1000000000):aB Tryz.prog 18 [.list 2 (enR l),.list 2 (enR l)] (bv true):=by
 refine aB.mkI cF18 (nlB rfl) ?_
 have hel:=bK l
 refine aA ?_
 rw[show(!decide ((enR l).length=(enR l).length))=false by simp]
 refine aA ?_
 refine AWP.loop (fun i:Nat=>[(0,.list 2 (enR l)),(1,.list 2 (enR l)),(5,iv i)]) (fun _=>[]) (fun i=>i≤l.length) (fun i=>l.length - i) 0 (Nat.zero_le _) ?_ ?_
 ·exact Sub.wl [] []
 rintro i hi
 refine aA ?_
 rw[hel]
 refine AWP.condN (i < l.length) rfl rfl (fun h=>?_) (fun h=>?_)
 ·have hr:=eD l i h
  refine aA ?_
  rw[dTr (rfl:l[i].1=l[i].1),dTr (rfl:l[i].2=l[i].2)]
  refine DK.nil ⟨by kernel_rfl,?_⟩
  refine aA ?_
  refine⟨i+1,by omega,by omega,?_⟩
  exact Sub.wl [] []
 ·refine aA ?_
  exact aI.w
theorem FZ (l:List Int):(dG l).length≤l.length:=(nN (fun _=>True) l.length l rfl fun _ _=>trivial).1
theorem EH {a:Int} {e o:Ty} {off cnt:Int} (he:a8 3 e=true) (ho:a8 3 o=true):(oP a e o off cnt).1.length≤163840000:=by
 unfold oP
 by_cases h1:(cC a e o).1≠0
 ·rw[if_pos h1]; exact Nat.zero_le _
 rw[if_neg h1]
 have hs:=lK he ho (Decidable.byContradiction h1)
 by_cases h2:off < 0∨cnt < 0
 ·rw[if_pos h2]; exact Nat.zero_le _
 rw[if_neg h2]
 by_cases h3:4096 < cnt∨4096 < cnt * (cC a e o).2.elem
 ·rw[if_pos h3]; exact Nat.zero_le _
 rw[if_neg h3]
 have hE:=hs.2.1
 have hm:cnt.toNat * (cC a e o).2.elem.toNat≤4096 * 40000:=Nat.mul_le_mul (by omega) (by omega)
 have hb:=(t4 (off:=off.toNat) (n:=cnt.toNat * (cC a e o).2.elem.toNat) hs (by omega)).1
 split
 ·exact Nat.le_trans (FZ _) (by omega)
 ·exact Nat.zero_le _
set_option maxHeartbeats 1000000 in
theorem F4 {a:Int} {e o:Ty} (ke:lB 3 e) (ko:lB 3 o) (off cnt:Int) (hf:off < 9223372036854775808):
  aB Tryz.prog 3 [.agg (vwR a e o),iv off,iv cnt] (bv true):=by
 refine aB.mkI (ha:=⟨fun c hc=>by
  simp only[List.mem_cons,List.not_mem_nil,or_false] at hc
  rcases hc with rfl | rfl | rfl
  ·exact iG.out
  ·exact .sc _
  ·exact .sc _⟩) cF3 (nlB rfl) ?_
 have hw:=works_ok
 have hv:=LN (a:=a) ke ko
 have h16:=@wL a e o
 have h17:=@wF a e o
 have h14:=fun he ho=>@OM a e o off cnt he ho hf
 have h15:=fun he ho=>@LA a e o off cnt he ho hf
 have hsl:=@EH a e o off cnt
 obtain⟨k1,c1,b1,s1,z1,l1,p1,f1,rfl⟩:=kM ke
 obtain⟨k2,c2,b2,s2,z2,l2,p2,f2,rfl⟩:=kM ko
 generalize oP a (Ty.mk k1 c1 b1 s1 z1 l1 p1 f1) (Ty.mk k2 c2 b2 s2 z2 l2 p2 f2) off cnt=r at *
 generalize (cC a (Ty.mk k1 c1 b1 s1 z1 l1 p1 f1) (Ty.mk k2 c2 b2 s2 z2 l2 p2 f2)).1=er at *
 generalize a8 3 (Ty.mk k1 c1 b1 s1 z1 l1 p1 f1)=g1 at *
 generalize a8 3 (Ty.mk k2 c2 b2 s2 z2 l2 p2 f2)=g2 at *
 obtain⟨l,ec⟩:=r
 rw[HW] at *
 cases h:g1 && g2 with
 | false=>
  rw[h] at hv
  refine aA ?_
  exact aI.w
 | true=>
  rw[h] at hv
  simp only[Bool.and_eq_true] at h
  obtain⟨rfl,rfl⟩:=h
  have h16:=h16 rfl rfl
  have h17:=h17 rfl rfl
  have h14:=h14 rfl rfl
  have h15:=h15 rfl rfl
  have h18:=CB l (Nat.le_trans (hsl rfl rfl) (by omega))
  simp only at h14 h15
  have b1:(er == er)=true:=by simp
  have b2:(ec == ec)=true:=by simp
  refine aA ?_
  rw[b1]
  refine aA ?_
  rw[b2]
  refine aA ?_
  refine DK.nil ⟨by kernel_rfl,?_⟩
  refine aA ?_
  exact aI.w
def TyS:Nat→List Sh
 | 0=>[.int .i64,.int .i64,.int .i64,.int .i64,.slice [.int .i64],.slice [.int .i64],.slice [.int .i64],.any]
 | m+1=>[.int .i64,.int .i64,.int .i64,.int .i64,.slice [.int .i64],.slice [.int .i64],.slice [.int .i64],.slice (TyS m)]
theorem w6:∀(m:Nat) (r:List AV),r.length=(TyS m).length→(∀(j:Nat) s c,(TyS m)[j]?=some s→r[j]?=some c→Fit s c)→∃ t,r=tyR t∧lB m t
 | 0,r,hl,hf=>by
  match r,hl with
  | [x0,x1,x2,x3,x4,x5,x6,x7],_=>
   obtain⟨k,rfl,_⟩:=dY (hf 0 _ x0 rfl rfl)
   obtain⟨c,rfl,_⟩:=dY (hf 1 _ x1 rfl rfl)
   obtain⟨b,rfl,_⟩:=dY (hf 2 _ x2 rfl rfl)
   obtain⟨s,rfl,_⟩:=dY (hf 3 _ x3 rfl rfl)
   obtain⟨sz,rfl,_⟩:=gR (hf 4 _ x4 rfl rfl)
   obtain⟨bl,rfl,_⟩:=gR (hf 5 _ x5 rfl rfl)
   obtain⟨pl,rfl,_⟩:=gR (hf 6 _ x6 rfl rfl)
   have h7:=hf 7 _ x7 rfl rfl
   cases h7
   exact⟨.raw k c b s sz bl pl,by rw[tyR]; rfl,trivial⟩
 | m+1,r,hl,hf=>by
  match r,hl with
  | [x0,x1,x2,x3,x4,x5,x6,x7],_=>
   obtain⟨k,rfl,_⟩:=dY (hf 0 _ x0 rfl rfl)
   obtain⟨c,rfl,_⟩:=dY (hf 1 _ x1 rfl rfl)
   obtain⟨b,rfl,_⟩:=dY (hf 2 _ x2 rfl rfl)
   obtain⟨s,rfl,_⟩:=dY (hf 3 _ x3 rfl rfl)
   obtain⟨sz,rfl,_⟩:=gR (hf 4 _ x4 rfl rfl)
   obtain⟨bl,rfl,_⟩:=gR (hf 5 _ x5 rfl rfl)
   obtain⟨pl,rfl,_⟩:=gR (hf 6 _ x6 rfl rfl)
   obtain⟨of,rfl,_,ho⟩:=wI (hf 7 _ x7 rfl rfl) tyR (lB m) fun r hl hf=>w6 m r hl hf
   refine⟨.mk k c b s sz bl pl of,?_,ho⟩
   rw[tyR,lG]
   cases m<;>rfl
theorem t6:∀(n:Nat) (t:Ty),lB (n+1) t→lB n t
 | 0,_,_=>trivial
 | _+1,.raw ..,h=>h.elim
 | n+1,.mk ..,h=>fun u hu=>t6 n u (h u hu)
theorem L6:Tryz.prog.underlying 4=some .bool:=by kernel_rfl
theorem JD:laidOutB Tryz.prog=true:=by kernel_rfl
theorem F9:mapsRowed Tryz.prog=true:=by kernel_rfl
theorem A5:∀ t e,t < Tryz.prog.types.size→Tryz.prog.underlying t=some (.slice e)→0 < Tryz.prog.cellsOf e:=slices_full_of Tryz.prog (by kernel_rfl)
theorem K3:ownKnob Tryz.prog.godebug=none:=by kernel_rfl
end Go.Proofs.YtgdocflpobncmaaGreat
