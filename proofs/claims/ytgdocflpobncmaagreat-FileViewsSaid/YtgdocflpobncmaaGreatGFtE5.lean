import Derived.Test.YtgdocflpobncmaaGreatGFtD6
import Derived.Test.YtgdocflpobncmaaGreatGAvMv
import Derived.Test.YtgdocflpobncmaaGreatProg
import Derived.KernelRfl
namespace Go.Proofs.YtgdocflpobncmaaGreat
open Go.Av Go.Proofs
set_option maxRecDepth 20000
theorem zE {t:Ty} (h:a8 3 t=true):aB Tryz.prog 124 [.agg (tyR t),iv 1] (.tup [.list 2 (enR (dG (bT (aF 3 t).2.es))),iv (aF 3 t).1]):=by
 refine aB.mkI NV (nlB rfl) ?_
 have he:=yR h
 have hl:=jP h
 have hb:∀ y∈(aF 3 t).2.es,-mP≤y.2∧y.2≤mP:=by
  by_cases h0:(aF 3 t).1=0
  ·exact(c7 3 t h h0).2.2.2.2.2.2.2.2
  ·rw[eP 3 t h0]
   exact fun y hy=>by cases hy
 generalize (aF 3 t).1=e at *
 generalize (aF 3 t).2.es=es at *
 have h1:=F1 es hl
 have h2:=KN es hl hb
 obtain⟨_,_,_,_,_,_,_,_,_,_,rfl,_⟩:=aS h
 rw[tyR] at he ⊢
 refine aA ?_
 exact aI.w
def exF (l:List (Int×Int)) (i:Nat):List Int:=(List.range (l.getD i (0,0)).2.toNat).map fun j:Nat=>(l.getD i (0,0)).1+j
def exP (l:List (Int×Int)):List Int:=(List.range l.length).flatMap (exF l)
theorem rU (l:List (Int×Int)):exP l=l.flatMap fun x:Int×Int=>(List.range x.2.toNat).map fun j:Nat=>(x.1+(j:Int):Int):=by
 have key:∀(l m:List (Int×Int)),(List.range l.length).flatMap (fun i=>exF (m++l) (m.length+i))=l.flatMap fun x:Int×Int=>(List.range x.2.toNat).map fun j:Nat=>(x.1+(j:Int):Int):=by
  intro l
  induction l with
  | nil=>exact fun m=>rfl
  | cons x l ih=>
   intro m
   rw[List.length_cons,List.range_succ_eq_map,List.flatMap_cons,List.flatMap_cons]
   congr 1
   ·unfold exF
    simp
   ·rw[List.flatMap_map]
    have:=ih (m++[x])
    rw[List.append_assoc,List.length_append,List.length_singleton] at this
    rw[← this]
    congr 1
    funext i
    rw[Nat.succ_eq_add_one,Nat.add_assoc,Nat.add_comm 1 i]
    rfl
 have:=key l []
 simpa[exP] using this
theorem D8:∀(n:Nat) (l:List Int),l.length=n→exP (dG l)=l
 | 0,l,hl=>by
  obtain rfl:l=[]:=List.length_eq_zero_iff.1 hl
  rfl
 | n+1,l,hl=>by
  rcases List.eq_nil_or_concat l with rfl | ⟨o,p,ho⟩
  ·cases hl
  rw[List.concat_eq_append] at ho
  subst ho
  have hol:o.length=n:=by simpa using hl
  have ih:=D8 n o hol
  have hb:=(nN (fun _=>True) n o hol fun _ _=>trivial).2
  rw[iS]
  rcases List.eq_nil_or_concat (dG o) with e | ⟨s,x,e⟩
  ·rw[e] at ih ⊢
   rw[← ih]
   simp[rU,gE]
  ·rw[List.concat_eq_append] at e
   rw[e] at ih hb ⊢
   have hx:=(hb x (by simp)).2.1
   rw[rU,List.flatMap_append] at ih
   obtain⟨a,m⟩:=x
   replace hx:0 < m:=hx
   by_cases hq:a+m=p
   ·rw[j4 (x:=(a,m)) hq,rU,List.flatMap_append,← ih,List.append_assoc]
    congr 1
    simp only[List.flatMap_cons,List.flatMap_nil,List.append_nil]
    rw[show(m+1).toNat=m.toNat+1 by omega,List.range_succ,List.map_append]
    congr 1
    simp
    omega
   ·rw[jQ (x:=(a,m)) hq,rU,List.flatMap_append,List.flatMap_append,ih]
    simp
def csF (c:AV):Fr:=[(2,.ptr 0 0 0 0),(6,c)]
def csE (x:Blk):Heap:=[[.cells 1 [[.sc (.slice none 0 0)]]],[x]]
def csI (out:List Int) (x:Blk):Heap:=[[.cells 1 [[.hsl 2 0 0 out.length]]],[x],[.cells 1 (inR out)]]
def csJ (out:List Int) (x:Blk):Heap:=[[.cells 1 [[.hsl 3 0 0 out.length]]],[x],[.dead],[.cells 1 (inR out)]]
noncomputable def DS:cA:=iC [1,0,1,0] F153.code
theorem N0 {T:AV→AV→Prop} {ρ:Nat→Nat→Option (Nat×Nat)} {c:AV} {L:LC} {st:LoopState} {pe:Option Code} (hc:PV c) (r0:ρ 0 0=some (0,0)):ToB T ρ (.lp L (csF c) st pe) (.lp L (csF c) st pe):=by
 refine ToB.lp _ _ _ _ _ fun x hx=>?_
 simp only[csF,List.mem_cons,List.not_mem_nil,or_false] at hx
 rcases hx with rfl | rfl
 ·exact To.ptrO r0 rfl rfl
 ·exact To.pure hc.out
theorem L7 {L:LC} {c:AV} (hc:PV c) (hL:LOK Tryz.prog F153.n L [7] (rfA DS) (rfB DS)) (out:List Int) (p:Int) (ho:out.length≤1000000):
  dW Tryz.prog 1 0 [iv p] (csI out (.lp L (csF c) .ready none)) fun b H'=>b=true∧H'=csJ (out++[p]) (.lp L (csF c) .ready none):=by
 refine gH.g ?_
 refine⟨L,_,_,_,_,_,hL,rfl,rfl,?_⟩
 show AWP _ _ _ (.region _) _ _ _
 have hlp:∀(T:AV→AV→Prop) (ρ:Nat→Nat→Option (Nat×Nat)) (st:LoopState),ρ 0 0=some (0,0)→ToB T ρ (.lp L (csF c) st none) (.lp L (csF c) st none):=fun T ρ st=>N0 hc
 obtain⟨caps,hcaps⟩:∃ caps,caps=csF c:=⟨_,rfl⟩
 rw[← hcaps] at hlp ⊢
 rw[show putL caps ([7].zip [iv p])=(7,iv p)::csF c by rw[hcaps]; rfl]
 unfold csF
 have hol:=bA out
 refine aA ?_
 refine⟨rfl,caps,rfl,?_⟩
 show AWP _ _ _ (.block 1 _) _ _ _
 refine AWP.fin ?_
 refine aA ?_
 refine⟨[],csJ (out++[p]) (.lp L caps .busy none),?_,caps,rfl,rfl,rfl⟩
 unfold csJ
 rw[List.length_append]
 have hz9:inR out++[[iv p]]=inR (out++[p]):=by simp[inR]
 exact Sub.wl [] [[(0,0)],[(1,0)],[(2,0)],[(4,0)]]
set_option maxHeartbeats 1000000 in
theorem LO {L:LC} {c:AV} {l:List (Int×Int)} (hc:PV c) (hL:LOK Tryz.prog F153.n L [7] (rfA DS) (rfB DS)) (hn:l.length≤100000) (hb:∀ x∈l,(-2000000≤x.1∧x.1≤2000000)∧0≤x.2∧x.2≤100000) (hx:(exP l).length≤100000):
  aG Tryz.prog 138 [.yld 1 0,.cptr [.list 2 (enR l)]] (csE (.lp L (csF c) .ready none)) fun _ H'=>H'=csI (exP l) (.lp L (csF c) .ready none):=by
 have hlp:∀(T:AV→AV→Prop) (ρ:Nat→Nat→Option (Nat×Nat)) (st:LoopState),ρ 0 0=some (0,0)→ToB T ρ (.lp L (csF c) st none) (.lp L (csF c) st none):=fun T ρ st=>N0 hc
 have hel:=bK l
 refine aG.of MT ?_ (nlB rfl)
 refine aA ?_
 refine AWP.loop (fun i:Nat=>[(0,.yld 1 0),(1,.cptr [.list 2 (enR l)]),(6,.list 2 (enR l)),(7,iv l.length),(8,iv i)]) (fun i=>csI (bW (exF l) i 0) (.lp L (csF c) .ready none)) (fun i=>i≤l.length) (fun i=>l.length - i) 0 (Nat.zero_le _) ?_ ?_
 ·rw[← hel,gD]
  exact Sub.wl [1] [[(0,0)],[(1,0)],[(2,0)]]
 rintro i hi
 refine c9 ?_
 refine AWP.condN (i < l.length) rfl rfl (fun h=>?_) (fun h=>?_)
 ·have hr:=eD l i h
  have hle:∀ j,(bW (exF l) i j).length≤100000:=fun j=>by
   obtain⟨r,hr⟩:=lN (f:=exF l) (j:=j) h
   have:(exP l).length=(bW (exF l) i j).length+r.length:=by
    unfold exP
    rw[hr,List.length_append]
   omega
  have hfi:exF l i=(List.range l[i].2.toNat).map fun j:Nat=>l[i].1+j:=by simp[exF,h]
  have hxb:=hb l[i] (List.getElem_mem _)
  generalize l[i].1=a at *
  generalize l[i].2=m at *
  obtain⟨M,rfl⟩:∃ M:Nat,m=M:=⟨m.toNat,by omega⟩
  rw[Int.toNat_natCast] at hfi
  have hfl:(exF l i).length=M:=by rw[hfi]; simp
  have hfg:∀ j,j < M→(exF l i)[j]?=some (a+j):=fun j hj=>by rw[hfi]; simp[hj]
  refine c9 ?_
  refine AWP.loop (fun j:Nat=>[(0,.yld 1 0),(1,.cptr [.list 2 (enR l)]),(4,.cptr [iv a,iv M]),(6,.list 2 (enR l)),(7,iv l.length),(8,iv i),(13,iv M),(14,iv j)]) (fun j=>csI (bW (exF l) i j) (.lp L (csF c) .ready none)) (fun j=>j≤M) (fun j=>M - j) 0 (Nat.zero_le _) ?_ ?_
  ·exact Sub.wl [] [[(0,0)],[(1,0)],[(2,0)]]
  rintro j hj
  refine c9 ?_
  refine AWP.condN (j < M) rfl rfl (fun h2=>?_) (fun h2=>?_)
  ·have hl1:=hle j
   have hsn:=d8 (hfg j h2)
   refine AWP.skip ?_
   refine AWP.seq ?_
   refine AWP.block ?_
   refine AWP.seq ?_
   refine AWP.region ?_
   refine qR ?_
   refine AWP.seq ?_
   refine AWP.rG rfl ?_
   refine aA ?_
   rw[Av.wrap_small (show -9223372036854775808≤a+(j:Int) by omega) (by omega)]
   refine⟨rfl,nlB rfl,1,0,rfl,?_⟩
   refine(L7 hc hL (bW (exF l) i j) (a+j) (by omega)).mono ?_
   rintro b' H' ⟨rfl,hH⟩
   rw[← hsn] at hH
   subst hH
   refine aA ?_
   refine⟨j+1,by omega,by omega,?_⟩
   exact Sub.wl [] [[(0,0)],[(1,0)],[(3,0)]]
  ·obtain rfl:M=j:=by omega
   rw[fK hfl]
   refine aA ?_
   refine⟨i+1,by omega,by omega,?_⟩
   exact Sub.wl [] [[(0,0)],[(1,0)],[(2,0)]]
 ·obtain rfl:l.length=i:=by omega
  rw[← gB]
  refine aA ?_
  refine iW (res':=.tup []) [[(0,0)],[(1,0)],[(2,0)]] (.inl rfl) rfl rfl ?_ ?_ rfl rfl rfl
  (all_goals exact iD)
  all_goals first | exact hlp _ _ _ rfl | exact .dead _
theorem GR (l:List (Int×Int)):aB Tryz.prog 88 [.list 2 (enR l)] (.clo (.func 138) [] [.cptr [.list 2 (enR l)]]):=by
 refine aB.mkI cF88 (nlB rfl) ?_
 refine aA ?_
 exact aI.w
theorem FF (l:List (Int×Int)) (hn:l.length≤100000) (hb:∀ x∈l,(-2000000≤x.1∧x.1≤2000000)∧0≤x.2∧x.2≤100000) (hx:(exP l).length≤100000):aB Tryz.prog 153 [.sc (.slice none 0 0),.clo (.func 138) [] [.cptr [.list 2 (enR l)]]] (.list 1 (inR (exP l))):=by
 refine aB.mkI IX (nlB rfl) ?_
 refine aA ?_
 refine AWP.sub (fr':=csF (.clo (.func 138) [] [.cptr [.list 2 (enR l)]])) (H':=[[.cells 1 [[.sc (.slice none 0 0)]]]]) ?_ ?_
 ·unfold csF
  exact Sub.wl [] [[(0,0)]]
 refine AWP.rangeF (g:=138) (fs:=[]) (cs:=[.cptr [.list 2 (enR l)]]) rfl (Nat.zero_le _) rfl fun L hL=>?_
 refine(LO inferInstance hL hn hb hx).mono ?_
 rintro res H' rfl
 refine⟨_,_,none,rfl,by decide,?_⟩
 have hol:=bA (exP l)
 unfold csF
 refine aA ?_
 exact aI.w
theorem LW (l:List (Int×Int)) (hn:l.length≤100000) (hb:∀ x∈l,(-2000000≤x.1∧x.1≤2000000)∧0≤x.2∧x.2≤100000) (hx:(exP l).length≤100000):aB Tryz.prog 125 [.clo (.func 138) [] [.cptr [.list 2 (enR l)]]] (.list 1 (inR (exP l))):=by
 refine aB.mkI HZ (nlB rfl) ?_
 have h:=FF l hn hb hx
 refine aA ?_
 exact aI.w
structure Sn where
 at':Int
 elem:Int
 ext:Int
 pl:List Int
def sn0:Sn:=⟨0,0,0,[]⟩
def snR (s:Sn):List AV:=[iv s.at',iv s.elem,iv s.ext,.list 1 (inR s.pl)]
theorem MC (es:List (Int×Int)) (hb:∀ y∈es,-mP≤y.2∧y.2≤mP):∀ p∈bT es,-2000000≤p∧p≤2000000:=fun p hp=>by
 obtain⟨i,hi,hp⟩:=List.mem_flatMap.1 hp
 obtain⟨j,hj,rfl⟩:=List.mem_map.1 hp
 have hi:=List.mem_range.1 hi
 have h1:=hb es[i] (List.getElem_mem _)
 have h2:=dT (es.getD i (0,0)).1
 have h3:=List.mem_range.1 hj
 have h4:es.getD i (0,0)=es[i]:=by simp[hi]
 rw[h4] at h2 h3 ⊢
 unfold mP at h1
 omega
def vwR (a:Int) (e o:Ty):List AV:=iv a::(tyR e++tyR o)
def fS (pl:List Int) (i:Nat):Int:=if i=0 then -1 else pl.getD (i - 1) 0
def nH (pl:List Int) (ext:Int):Bool:=(List.range pl.length).all fun i=>decide (fS pl i < pl.getD i 0) && decide (pl.getD i 0 < ext)
def E9 (elem size:Nat):Bool:=decide (1≤elem) && (decide (1≤size) && decide (size % elem=0))
def cC (a:Int) (e o:Ty):Int×Sn:=
 if a < 0∨65536 < a then(3,sn0)
 else if (aF 3 e).1≠0 then((aF 3 e).1,sn0)
 else if (aF 3 o).1≠0 then((aF 3 o).1,sn0)
 else if nH (bT (aF 3 o).2.es) (aF 3 o).2.ext=true then
  if E9 (bJ (aF 3 e).2.es) (bJ (aF 3 o).2.es)=true then(0,⟨a,bJ (aF 3 e).2.es,(aF 3 o).2.ext,bT (aF 3 o).2.es⟩) else(2,sn0)
 else(2,sn0)
theorem nL (es:List (Int×Int)):(bT es).length=bJ es:=by
 have:=tW es es.length (Nat.le_refl _)
 rw[List.take_length,← gB] at this
 exact this
set_option maxHeartbeats 2000000 in
theorem zA {a:Int} {e o:Ty} (he:a8 3 e=true) (ho:a8 3 o=true):aB Tryz.prog 63 [.agg (vwR a e o)] (.tup [.agg (snR (cC a e o).2),iv (cC a e o).1]):=by
 refine aB.mkI (hX:=⟨.tup _ (by
  intro c hc
  simp only[List.mem_cons,List.not_mem_nil,or_false] at hc
  rcases hc with rfl | rfl
  ·unfold snR; exact pv _
  ·exact .sc _)⟩) (ha:=⟨by
  intro c hc
  rw[List.mem_singleton.1 hc]
  unfold vwR
  exact pv _⟩) cF63 (nlB rfl) ?_
 have e1:=DI he
 have o1:=DI ho
 have o2:=EF ho
 have o3:=zE ho
 have hol:=jP ho
 have hel:=jP he
 have hsb:=c7 3 o ho
 unfold cC
 generalize aF 3 e=re at *
 generalize aF 3 o=ro at *
 obtain⟨ee,se⟩:=re
 obtain⟨eo,so⟩:=ro
 simp only at e1 o1 o2 o3 hol hel hsb ⊢
 obtain⟨_,k1,c1,b1,s1,z1,l1,p1,f1,_,rfl,_⟩:=aS he
 obtain⟨_,k2,c2,b2,s2,z2,l2,p2,f2,_,rfl,_⟩:=aS ho
 have hn1:=d6 se.es
 have hn2:=d6 so.es
 have hpl:=nL so.es
 generalize hne:bJ se.es=ne at *
 generalize hno:bJ so.es=no at *
 rw[tyR] at e1 o1 o2 o3
 unfold vwR
 rw[tyR,tyR]
 unfold snR
 refine aA ?_
 by_cases ha:a < 0
 ·rw[dTr ha,if_pos (.inl ha)]
  refine aA ?_
  exact aI.w
 rw[dFa ha]
 refine aA ?_
 refine AWP.condN (65536 < a) rfl rfl (fun h=>?_) (fun h=>?_)
 ·rw[if_pos (.inr h)]
  refine aA ?_
  exact aI.w
 rw[if_neg (by omega)]
 refine aA ?_
 refine AWP.condN (ee≠0) rfl (eV _) (fun h1=>?_) (fun h1=>?_)
 ·rw[if_pos h1]
  refine aA ?_
  exact aI.w
 rw[if_neg h1]
 refine aA ?_
 refine AWP.condN (eo≠0) rfl (eV _) (fun h2=>?_) (fun h2=>?_)
 ·rw[if_pos h2]
  refine aA ?_
  exact aI.w
 rw[if_neg h2]
 obtain rfl:eo=0:=Decidable.byContradiction h2
 have hB:=hsb rfl
 have hsg:=nN (fun p=>-2000000≤p∧p≤2000000) _ (bT so.es) rfl (fun p hp=>MC so.es hB.2.2.2.2.2.2.2.2 p hp)
 have hex:=D8 _ (bT so.es) rfl
 have hcol:=LW (dG (bT so.es)) (by omega) (fun x hx=>⟨(hsg.2 x hx).1,by have:=(hsg.2 x hx).2; omega⟩) (by rw[hex]; omega)
 rw[hex] at hcol
 have hea:=GR (dG (bT so.es))
 generalize dG (bT so.es)=sg at *
 generalize bT so.es=pl at *
 generalize so.ext=ext at *
 have hil:=bA pl
 refine aA ?_
 refine DK.nil ⟨by kernel_rfl,?_⟩
 refine aA ?_
 refine AWP.loop (fun i:Nat=>[(2,.ptr 0 0 0 0),(4,iv ne),(6,iv no),(8,iv ext),(11,.cptr [iv a,iv ne,iv ext,.list 1 (inR pl)]),(12,iv (fS pl i)),(70,.list 1 (inR pl)),(71,iv pl.length),(72,iv i)]) (fun _=>[[.cells 4 [[iv 0,iv 0,iv 0,.sc (.slice none 0 0)]]]]) (fun i=>i≤pl.length∧∀ j,j < i→(decide (fS pl j < pl.getD j 0) && decide (pl.getD j 0 < ext))=true) (fun i=>pl.length - i) 0 ⟨Nat.zero_le _,fun j hj=>by omega⟩ ?_ ?_
 ·rw[← hil]
  exact Sub.wl [] [[(1,0)]]
 rintro i ⟨hi,hin⟩
 refine aA ?_
 refine AWP.condN (i < pl.length) rfl rfl (fun h5=>?_) (fun h5=>?_)
 ·have hr:=cS pl i h5
  have hg:pl.getD i 0=pl[i]:=by simp[h5]
  have hls:fS pl (i+1)=pl[i]:=by unfold fS; rw[if_neg (by omega)]; exact hg
  have hno':(decide (fS pl i < pl.getD i 0) && decide (pl.getD i 0 < ext))=false→nH pl ext=false:=fun hf=>List.all_eq_false.2 ⟨i,List.mem_range.2 h5,by rw[hf]; simp⟩
  rw[hg] at hno'
  have hin':fS pl i < pl[i]→pl[i] < ext→∀ j,j < i+1→(decide (fS pl j < pl.getD j 0) && decide (pl.getD j 0 < ext))=true:=fun q1 q2 j hj=>by
   by_cases ej:j=i
   ·subst ej; rw[hg,dTr q1,dTr q2]; rfl
   ·exact hin j (by omega)
  generalize pl[i]=p at *
  generalize fS pl i=la at *
  refine aA ?_
  by_cases q1:p≤la
  ·rw[dTr q1]
   refine aA ?_
   rw[hno' (by rw[dFa (by omega)]; rfl),if_neg (by simp),show sn0.at'=0 from rfl,show sn0.elem=0 from rfl,show sn0.ext=0 from rfl,show sn0.pl=[] from rfl]
   exact aI.w
  ·rw[dFa q1]
   refine aA ?_
   refine AWP.condN (ext≤p) rfl rfl (fun q2=>?_) (fun q2=>?_)
   ·refine aA ?_
    rw[hno' (by rw[dFa (show¬ p < ext by omega),Bool.and_false]),if_neg (by simp),show sn0.at'=0 from rfl,show sn0.elem=0 from rfl,show sn0.ext=0 from rfl,show sn0.pl=[] from rfl]
    exact aI.w
   ·refine aA ?_
    refine⟨i+1,⟨by omega,hin' (by omega) (by omega)⟩,by omega,?_⟩
    rw[hls]
    exact Sub.wl [] [[(0,0)]]
 ·obtain rfl:pl.length=i:=by omega
  rw[show nH pl ext=true from List.all_eq_true.2 fun j hj=>hin j (List.mem_range.1 hj),if_pos rfl]
  refine aA ?_
  unfold E9
  by_cases g1:ne < 1
  ·rw[dTr g1,dFa (show¬ 1≤ne by omega)]
   refine aA ?_
   rw[if_neg (by simp),show sn0.at'=0 from rfl,show sn0.elem=0 from rfl,show sn0.ext=0 from rfl,show sn0.pl=[] from rfl]
   exact aI.w
  rw[dFa g1,dTr (show 1≤ne by omega)]
  refine aA ?_
  by_cases g2:no < 1
  ·rw[dTr g2,dFa (show¬ 1≤no by omega)]
   refine aA ?_
   rw[if_neg (by simp),show sn0.at'=0 from rfl,show sn0.elem=0 from rfl,show sn0.ext=0 from rfl,show sn0.pl=[] from rfl]
   exact aI.w
  rw[dFa g2,dTr (show 1≤no by omega)]
  refine aA ?_
  refine AWP.condN (¬ no % ne=0) rfl (by first | rfl | (simp; done)) (fun g3=>?_) (fun g3=>?_)
  ·rw[dFa g3,if_neg (by simp),show sn0.at'=0 from rfl,show sn0.elem=0 from rfl,show sn0.ext=0 from rfl,show sn0.pl=[] from rfl]
   refine aA ?_
   exact aI.w
  ·rw[dTr (Decidable.byContradiction g3),if_pos (by rfl)]
   refine aA ?_
   exact aI.w
def dH (s:Sn) (k:Nat):Int:=s.at'+((k / s.pl.length:Nat):Int) * s.ext+s.pl.getD (k % s.pl.length) 0
def j7 (s:Sn) (off n:Nat):List Int:=(List.range n).map fun i=>dH s (off * s.elem.toNat+i)
def snB (s:Sn):Prop:=(0≤s.at'∧s.at'≤65536)∧(1≤s.elem∧s.elem≤40000)∧(-mP≤s.ext∧s.ext≤mP)∧0 < s.pl.length∧s.pl.length≤40000∧∀ p∈s.pl,-2000000≤p∧p≤2000000
def vsF (s:Sn) (c:AV):Fr:=[(3,.cptr [iv s.at',iv s.elem,iv s.ext,.list 1 (inR s.pl)]),(6,.ptr 0 0 0 0),(7,.ptr 1 0 0 0),(8,.ptr 2 0 0 0),(19,c)]
def vsE (x:Blk):Heap:=[[.cells 1 [[.sc (.slice none 0 0)]]],[.cells 1 [[bv false]]],[.cells 1 [[.sc (.slice none 0 0)]]],[x]]
def vsI (out:List Int) (x:Blk):Heap:=[[.cells 1 [[.sc (.slice none 0 0)]]],[.cells 1 [[bv false]]],[.cells 1 [[.hsl 4 0 0 out.length]]],[x],[.cells 1 (inR out)]]
def vsJ (out:List Int) (x:Blk):Heap:=[[.cells 1 [[.sc (.slice none 0 0)]]],[.cells 1 [[bv false]]],[.cells 1 [[.hsl 5 0 0 out.length]]],[x],[.dead],[.cells 1 (inR out)]]
def vsD (x:Blk):Heap:=[[.cells 1 [[.sc (.slice none 0 0)]]],[.cells 1 [[bv false]]],[.dead],[x],[.dead]]
def vsN (x:Blk):Heap:=[[.cells 1 [[.sc (.slice none 0 0)]]],[.cells 1 [[bv false]]],[.dead],[x]]
noncomputable def L0:cA:=iC [1,1,1,0,1,0] F64.code
theorem MJ {T:AV→AV→Prop} {ρ:Nat→Nat→Option (Nat×Nat)} {s:Sn} {c:AV} {L:LC} {st:LoopState} {pe:Option Code} (hc:PV c) (r0:ρ 0 0=some (0,0)) (r1:ρ 1 0=some (1,0)) (r2:ρ 2 0=some (2,0)):ToB T ρ (.lp L (vsF s c) st pe) (.lp L (vsF s c) st pe):=by
 refine ToB.lp _ _ _ _ _ fun x hx=>?_
 simp only[vsF,List.mem_cons,List.not_mem_nil,or_false] at hx
 rcases hx with rfl | rfl | rfl | rfl | rfl
 ·exact To.pure (pv (AV.cptr [iv s.at',iv s.elem,iv s.ext,.list 1 (inR s.pl)]))
 ·exact To.ptrO r0 rfl rfl
 ·exact To.ptrO r1 rfl rfl
 ·exact To.ptrO r2 rfl rfl
 ·exact To.pure hc.out
set_option maxHeartbeats 1000000 in
theorem KX {L:LC} {s:Sn} {c:AV} (hc:PV c) (hL:LOK Tryz.prog F64.n L [20] (rfA L0) (rfB L0)) (out:List Int) (p:Int) (ho:out.length≤1000000):
  dW Tryz.prog 3 0 [iv p] (vsI out (.lp L (vsF s c) .ready none)) fun b H'=>(b=true∧p < 65536∧H'=vsJ (out++[p]) (.lp L (vsF s c) .ready none))∨(b=false∧65536≤p∧H'=vsD (.lp L (vsF s c) .done (some .ret))):=by
 refine gH.g ?_
 refine⟨L,_,_,_,_,_,hL,rfl,rfl,?_⟩
 show AWP _ _ _ (.region _) _ _ _
 have hlp:∀(T:AV→AV→Prop) (ρ:Nat→Nat→Option (Nat×Nat)) (st:LoopState) (pe:Option Code),ρ 0 0=some (0,0)→ρ 1 0=some (1,0)→ρ 2 0=some (2,0)→ToB T ρ (.lp L (vsF s c) st pe) (.lp L (vsF s c) st pe):=fun T ρ st pe=>MJ hc
 obtain⟨caps,hcaps⟩:∃ caps,caps=vsF s c:=⟨_,rfl⟩
 rw[← hcaps] at hlp ⊢
 rw[show putL caps ([20].zip [iv p])=(20,iv p)::vsF s c by rw[hcaps]; rfl]
 unfold vsF
 have hol:=bA out
 refine aA ?_
 refine⟨rfl,caps,rfl,?_⟩
 show AWP _ _ _ (.block 1 _) _ _ _
 refine AWP.fin ?_
 refine aA ?_
 refine AWP.condN (65536≤p) rfl rfl (fun h=>?_) (fun h=>?_)
 ·refine aA ?_
  refine⟨[],vsD (.lp L caps .busy none),?_,caps,rfl,.inr ⟨rfl,h,rfl⟩⟩
  exact Sub.wl [] [[(0,0)],[(1,0)],[(2,0)],[(3,0)],[(4,0)]]
 ·refine aA ?_
  refine⟨[],vsJ (out++[p]) (.lp L caps .busy none),?_,caps,rfl,.inl ⟨rfl,by omega,rfl⟩⟩
  unfold vsJ
  rw[List.length_append]
  have hz9:inR out++[[iv p]]=inR (out++[p]):=by simp[inR]
  exact Sub.wl [] [[(0,0)],[(1,0)],[(2,0)],[(3,0)],[(4,0)],[(6,0)]]
set_option maxHeartbeats 1000000 in
theorem BO {L:LC} {s:Sn} {c:AV} {off n:Nat} (hc:PV c) (hL:LOK Tryz.prog F64.n L [20] (rfA L0) (rfB L0)) (hs:snB s) (hn:n≤5000) (ho:0 < n→off≤65536) (_hop:off < 9223372036854775808):
  aG Tryz.prog 154 [.yld 3 0,.cptr [iv n],.cptr [iv off],.cptr [iv s.at',iv s.elem,iv s.ext,.list 1 (inR s.pl)]] (vsE (.lp L (vsF s c) .ready none)) fun _ H'=>
   ((∀ p∈j7 s off n,p < 65536)∧H'=vsI (j7 s off n) (.lp L (vsF s c) .ready none))∨(¬ (∀ p∈j7 s off n,p < 65536)∧H'=vsN (.lp L (vsF s c) .done (some .ret))):=by
 have hlp:∀(T:AV→AV→Prop) (ρ:Nat→Nat→Option (Nat×Nat)) (st:LoopState) (pe:Option Code),ρ 0 0=some (0,0)→ρ 1 0=some (1,0)→ρ 2 0=some (2,0)→ToB T ρ (.lp L (vsF s c) st pe) (.lp L (vsF s c) st pe):=fun T ρ st pe=>MJ hc
 obtain⟨⟨s1,s2⟩,⟨s3,s4⟩,⟨s5,s6⟩,s7,s8,s9⟩:=hs
 unfold mP at s5 s6
 have hil:=bA s.pl
 obtain⟨E,hE⟩:∃ E:Nat,s.elem=E:=⟨s.elem.toNat,by omega⟩
 have hgi:∀ i,i < n→(j7 s off n)[i]?=some (dH s (off * E+i)):=fun i hi=>by
  unfold j7
  rw[hE]
  simp[hi]
 have hvl:(j7 s off n).length=n:=by simp[j7]
 generalize hvv:j7 s off n=vv at *
 rw[hE]
 refine aG.of MV ?_ (nlB rfl)
 refine aA ?_
 refine AWP.loop (fun i:Nat=>[(0,.yld 3 0),(1,.cptr [iv n]),(2,.cptr [iv off]),(3,.cptr [iv s.at',iv E,iv s.ext,.list 1 (inR s.pl)]),(7,iv n),(8,iv i)]) (fun i=>vsI (vv.take i) (.lp L (vsF s c) .ready none)) (fun i=>i≤n∧∀ p∈vv.take i,p < 65536) (fun i=>n - i) 0 ⟨Nat.zero_le _,fun p hp=>by simp at hp⟩ ?_ ?_
 ·rw[show vv.take 0=[] from rfl]
  exact Sub.wl [1] [[(0,0)],[(1,0)],[(2,0)],[(3,0)],[(4,0)]]
 rintro i ⟨hi,hin⟩
 refine c9 ?_
 refine AWP.condN (i < n) rfl rfl (fun h=>?_) (fun h=>?_)
 ·have ho':=ho (by omega)
  have hg:=hgi i h
  have hoe:off * E≤65536 * 40000:=Nat.mul_le_mul ho' (by omega)
  have hp0:dH s (off * E+i)=s.at'+(((off * E+i) / s.pl.length:Nat):Int) * s.ext+s.pl.getD ((off * E+i) % s.pl.length) 0:=rfl
  have hkm:(off * E+i) % s.pl.length < s.pl.length:=Nat.mod_lt _ s7
  have hr:=cS s.pl ((off * E+i) % s.pl.length) hkm
  have hpb:=s9 s.pl[(off * E+i) % s.pl.length] (List.getElem_mem _)
  have hgd:s.pl.getD ((off * E+i) % s.pl.length) 0=s.pl[(off * E+i) % s.pl.length]:=by simp[hkm]
  rw[hgd] at hp0
  generalize s.pl[(off * E+i) % s.pl.length]=pv' at *
  have hq:(off * E+i) / s.pl.length≤off * E+i:=Nat.div_le_self _ _
  obtain⟨Q,hQ⟩:∃ Q,Q=(off * E+i) / s.pl.length:=⟨_,rfl⟩
  rw[← hQ] at hq hp0
  have hmu:=gG (a:=(Q:Int)) (b:=s.ext) (A:=2621445000) (B:=1048576) (by omega) (by omega) s5 s6
  have htl:(vv.take i).length≤1000000:=by rw[List.length_take]; omega
  have htk:vv.take (i+1)=vv.take i++[dH s (off * E+i)]:=by rw[List.take_add_one,hg]; rfl
  refine c9 ?_
  refine AWP.dky 22 [(0,.yld 3 0),(1,.cptr [iv n]),(2,.cptr [iv off]),(3,.cptr [iv s.at',iv E,iv s.ext,.list 1 (inR s.pl)]),(7,iv n),(8,iv i),(17,.yld 3 0),(38,iv (dH s (off * E+i)))] (vsI (vv.take i) (.lp L (vsF s c) .ready none)) kW rfl rfl (by kernel_rfl) (by kernel_rfl) (by kernel_rfl) ?_ ?_
  ·refine aA ?_
   rw[hil]
   refine aA ?_
   rw[← hQ,Av.wrap_small (show -9223372036854775808≤(Q:Int) * s.ext by omega) (by omega),Av.wrap_small (show -9223372036854775808≤s.at'+(Q:Int) * s.ext by omega) (by omega),Av.wrap_small (show -9223372036854775808≤s.at'+(Q:Int) * s.ext+pv' by omega) (by omega)]
   refine DK.nil ⟨by kernel_rfl,?_⟩
   rw[← hp0]
   exact Sub.wl [] [[(0,0)],[(1,0)],[(2,0)],[(3,0)],[(4,0)]]
  ·refine⟨rfl,nlB rfl,3,0,rfl,?_⟩
   refine(KX hc hL (vv.take i) (dH s (off * E+i)) htl).mono ?_
   generalize dH s (off * E+i)=p at *
   rintro b' H' (⟨rfl,hlt,rfl⟩ | ⟨rfl,hge,rfl⟩)
   ·refine aA ?_
    refine DK.nil ⟨by kernel_rfl,?_⟩
    refine aA ?_
    refine⟨i+1,⟨by omega,fun q hq=>?_⟩,by omega,?_⟩
    ·rw[htk] at hq
     rcases List.mem_append.1 hq with hq | hq
     ·exact hin q hq
     ·rw[List.mem_singleton.1 hq]; exact hlt
    rw[htk]
    exact Sub.wl [] [[(0,0)],[(1,0)],[(2,0)],[(3,0)],[(5,0)]]
   ·refine aA ?_
    refine DK.nil ⟨by kernel_rfl,?_⟩
    refine aA ?_
    refine iW (res':=.tup []) (H2:=vsN (.lp L (vsF s c) .done (some .ret))) [[(0,0)],[(1,0)],[(2,0)],[(3,0)]] (.inr rfl) rfl (.inr ⟨fun hall=>?_,rfl⟩) ?_ ?_ rfl rfl rfl
    ·have:=hall p (List.mem_of_getElem? hg)
     omega
    (all_goals exact iD)
    all_goals first | exact hlp _ _ _ _ rfl rfl rfl | exact .yld _ _ _ _ rfl | exact .dead _
 ·obtain rfl:n=i:=by omega
  rw[List.take_of_length_le (by omega)] at hin ⊢
  refine aA ?_
  refine iW (res':=.tup []) [[(0,0)],[(1,0)],[(2,0)],[(3,0)],[(4,0)]] (.inl rfl) rfl (.inl ⟨hin,rfl⟩) ?_ ?_ rfl rfl rfl
  (all_goals exact iD)
  all_goals first | exact hlp _ _ _ _ rfl rfl rfl | exact .yld _ _ _ _ rfl | exact .dead _
instance (s:Sn):PR (snR s):=⟨by unfold snR; exact pr _⟩
def okV (l:List Int):Bool:=l.all fun p=>decide (p < 65536)
def hU (s:Sn) (off n:Nat):List Int×Bool:=if 0 < n∧65536 < off then([],false) else if okV (j7 s off n)=true then(j7 s off n,true) else([],false)
theorem oM {l:List Int}:okV l=true↔∀ p∈l,p < 65536:=by simp[okV]
def mkV (s:Sn) (off n:Nat):AV:=.clo (.func 154) [] [.cptr [iv n],.cptr [iv off],.cptr [iv s.at',iv s.elem,iv s.ext,.list 1 (inR s.pl)]]
theorem AL (s:Sn) (off n:Nat):aB Tryz.prog 126 [.agg [iv s.at',iv s.elem,iv s.ext,.list 1 (inR s.pl)],iv off,iv n] (mkV s off n):=by
 refine aB.mkI (hX:=by unfold mkV; infer_instance) NF (nlB rfl) ?_
 unfold mkV
 refine aA ?_
 exact aI.w
set_option maxHeartbeats 1000000 in
theorem v7 {s:Sn} {off n:Nat} (hs:snB s) (hn:n≤5000) (hop:off < 9223372036854775808) (ho:0 < n→off≤65536) (r:List Int×Bool) (hr:r=if okV (j7 s off n)=true then(j7 s off n,true) else([],false)):
  AWP Tryz.prog F64.n 0 (iC [1,1] F64.code) (aI F64.res (.tup [.list 1 (inR r.1),bv r.2])) [(1,iv off),(2,iv n),(3,.cptr [iv s.at',iv s.elem,iv s.ext,.list 1 (inR s.pl)]),(6,.ptr 0 0 0 0),(7,.ptr 1 0 0 0)] [[.cells 1 [[.sc (.slice none 0 0)]]],[.cells 1 [[bv false]]]]:=by
 have hv:=AL s off n
 unfold mkV at hv
 show AWP _ _ _ (.seq _ _) _ _ _
 refine aA ?_
 refine AWP.sub (fr':=vsF s (mkV s off n)) (H':=[[.cells 1 [[.sc (.slice none 0 0)]]],[.cells 1 [[bv false]]],[.cells 1 [[.sc (.slice none 0 0)]]]]) ?_ ?_
 ·unfold vsF mkV
  exact Sub.wl [] [[(0,0)],[(1,0)],[(2,0)]]
 refine AWP.rangeF (g:=154) (fs:=[]) (cs:=[.cptr [iv n],.cptr [iv off],.cptr [iv s.at',iv s.elem,iv s.ext,.list 1 (inR s.pl)]]) rfl (Nat.zero_le _) rfl fun L hL=>?_
 refine(BO (by unfold mkV; infer_instance) hL hs hn ho hop).mono ?_
 rintro res H' (⟨hall,rfl⟩ | ⟨hno,rfl⟩)
 ·rw[if_pos (oM.2 hall)] at hr
  subst hr
  refine⟨_,_,none,rfl,by decide,?_⟩
  have hol:=bA (j7 s off n)
  unfold vsF
  refine aA ?_
  exact aI.w
 ·rw[if_neg (fun q=>hno (oM.1 q))] at hr
  subst hr
  refine⟨_,_,some .ret,rfl,by decide,?_⟩
  rw[show inR (([],false):List Int×Bool).1=[] from rfl]
  unfold vsF
  exact aI.w
set_option maxHeartbeats 1000000 in
theorem KE {s:Sn} {off n:Nat} (hs:snB s) (hn:n≤5000) (hop:off < 9223372036854775808):aB Tryz.prog 64 [.agg [iv s.at',iv s.elem,iv s.ext,.list 1 (inR s.pl)],iv off,iv n] (.tup [.list 1 (inR (hU s off n).1),bv (hU s off n).2]):=by
 refine aB.mkI cF64 (nlB rfl) ?_
 refine aA ?_
 by_cases h0:0 < n
 ·rw[dTr h0]
  refine aA ?_
  refine AWP.condN (65536 < off) rfl rfl (fun h=>?_) (fun h=>?_)
  ·rw[show hU s off n=([],false) from if_pos ⟨h0,h⟩,show inR (([],false):List Int×Bool).1=[] from rfl]
   refine aA ?_
   exact aI.w
  ·refine AWP.skip ?_
   refine AWP.sub ?_ (v7 hs hn hop (fun _=>by omega) (hU s off n) (by unfold hU; rw[if_neg (by omega)]))
   exact Sub.wl [] [[(1,0)],[(2,0)]]
 ·rw[dFa h0]
  refine qR ?_
  refine AWP.condF rfl ?_
  refine AWP.skip ?_
  refine AWP.sub ?_ (v7 hs hn hop (fun q=>absurd q h0) (hU s off n) (by unfold hU; rw[if_neg (by omega)]))
  exact Sub.wl [] [[(1,0)],[(2,0)]]
theorem lK {a:Int} {e o:Ty} (he:a8 3 e=true) (ho:a8 3 o=true) (h:(cC a e o).1=0):snB (cC a e o).2:=by
 have h1:=d6 (aF 3 e).2.es
 have h2:=jP he
 have h3:=d6 (aF 3 o).2.es
 have h4:=jP ho
 have h5:=nL (aF 3 o).2.es
 unfold cC at h ⊢
 by_cases c1:a < 0∨65536 < a
 ·rw[if_pos c1] at h; cases h
 rw[if_neg c1] at h ⊢
 by_cases c2:(aF 3 e).1≠0
 ·rw[if_pos c2] at h; exact absurd h c2
 rw[if_neg c2] at h ⊢
 by_cases c3:(aF 3 o).1≠0
 ·rw[if_pos c3] at h; exact absurd h c3
 rw[if_neg c3] at h ⊢
 have hB:=c7 3 o ho (Decidable.byContradiction c3)
 by_cases c4:nH (bT (aF 3 o).2.es) (aF 3 o).2.ext=true
 ·rw[if_pos c4] at h ⊢
  by_cases c5:E9 (bJ (aF 3 e).2.es) (bJ (aF 3 o).2.es)=true
  ·rw[if_pos c5]
   unfold E9 at c5
   simp only[Bool.and_eq_true,decide_eq_true_eq] at c5
   exact⟨⟨by show 0≤a; omega,by show a≤_; omega⟩,⟨by show(1:Int)≤(bJ (aF 3 e).2.es:Nat); omega,by show((bJ (aF 3 e).2.es:Nat):Int)≤_; omega⟩,⟨hB.2.2.2.2.1,hB.2.2.2.2.2.1⟩,by show 0 < (bT (aF 3 o).2.es).length; omega,by show(bT (aF 3 o).2.es).length≤_; omega,MC _ hB.2.2.2.2.2.2.2.2⟩
  ·rw[if_neg c5] at h; cases h
 ·rw[if_neg c4] at h; cases h
set_option maxRecDepth 100000
abbrev iV (d s:Nat):IOper:=⟨some d,none,.op (.move (.tmp s))⟩
def F12:IFun:=⟨13,(.seq (.region [⟨some 1,none,.op (.box (.tmp 0))⟩,⟨some 2,none,.op (.alloc [(5,(.int .i64 0)),(4,(.slice none 0 0)),(4,(.int .i64 0)),(4,(.slice none 0 0))])⟩,⟨some 3,none,.op (.move (.const (.bool false)))⟩]) (.seq (.draw [⟨some 4,none,.op (.load 17 true (.tmp 1))⟩,⟨some 5,none,.op (.fieldAddr 1 (.tmp 1))⟩,⟨some 6,none,.op (.load 8 true (.tmp 5))⟩,⟨some 7,none,(.call 19 [(.tmp 6),(.const (.int .i64 3))])⟩,iV 8 7,⟨some 9,some (8,true),.op (.fieldAddr 9 (.tmp 1))⟩,⟨some 10,some (8,true),.op (.load 8 true (.tmp 9))⟩,⟨some 11,some (8,true),(.call 19 [(.tmp 10),(.const (.int .i64 3))])⟩,⟨some 12,none,.op (.pick (.tmp 8) (.tmp 11) (.const (.bool false)))⟩,⟨none,none,.op (.store 17 (.tmp 2) (.tmp 4))⟩,iV 3 12] [[],[],[1],[2],[3,3],[4],[5,4],[6,4,4],[4,7],[0,7,0],[8,9,0,1,2,3,4,5,6,7,8,9]]) .ret)),[(.cell 2 17 true),(.tmp 3)]⟩
theorem cF12:aJ Tryz.prog 12=some F12:=by kernel_rfl
def F16:IFun:=⟨11,(.seq (.region [⟨some 1,none,.op (.box (.tmp 0))⟩,⟨some 2,none,.op (.move (.const (.int .i64 0)))⟩]) (.seq (.region [⟨some 6,none,.op (.load 17 true (.tmp 1))⟩,⟨some 7,none,(.call 63 [(.tmp 6)])⟩,iV 5 7,⟨some 8,none,.op (.extract (.tmp 5) 0)⟩,⟨some 9,none,.op (.extract (.tmp 5) 1)⟩,⟨some 3,none,.op (.alloc [(3,(.int .i64 0)),(1,(.slice none 0 0))])⟩,⟨none,none,.op (.store 4 (.tmp 3) (.tmp 8))⟩,iV 4 9]) (.seq (.region [iV 10 4,iV 2 10]) .ret))),[(.tmp 2)]⟩
theorem cF16:aJ Tryz.prog 16=some F16:=by kernel_rfl
def F19:IFun:=⟨72,(.seq (.region [⟨some 2,none,.op (.box (.tmp 0))⟩,⟨some 4,none,.op (.move (.const (.bool false)))⟩]) (.seq (.seq (.region [iV 7 1,⟨some 8,none,.op (.bin .eql 3 (.tmp 7) (.const (.int .i64 0)))⟩,iV 9 8,⟨some 10,some (9,false),.op (.fieldAddr 7 (.tmp 2))⟩,⟨some 11,some (9,false),.op (.load 1 false (.tmp 10))⟩,⟨some 12,some (9,false),.op (.len (.tmp 11))⟩,⟨some 13,some (9,false),.op (.bin .gtr 3 (.tmp 12) (.const (.int .i64 3)))⟩,⟨some 14,none,.op (.pick (.tmp 9) (.const (.bool true)) (.tmp 13))⟩,iV 15 14,⟨some 16,some (15,false),.op (.fieldAddr 4 (.tmp 2))⟩,⟨some 17,some (15,false),.op (.load 1 false (.tmp 16))⟩,⟨some 18,some (15,false),.op (.len (.tmp 17))⟩,⟨some 19,some (15,false),.op (.bin .gtr 3 (.tmp 18) (.const (.int .i64 8)))⟩,⟨some 20,none,.op (.pick (.tmp 15) (.const (.bool true)) (.tmp 19))⟩,iV 21 20,⟨some 22,some (21,false),.op (.fieldAddr 5 (.tmp 2))⟩,⟨some 23,some (21,false),.op (.load 1 false (.tmp 22))⟩,⟨some 24,some (21,false),.op (.len (.tmp 23))⟩,⟨some 25,some (21,false),.op (.bin .gtr 3 (.tmp 24) (.const (.int .i64 8)))⟩,⟨some 26,none,.op (.pick (.tmp 21) (.const (.bool true)) (.tmp 25))⟩,iV 27 26,⟨some 28,some (27,false),.op (.fieldAddr 6 (.tmp 2))⟩,⟨some 29,some (27,false),.op (.load 1 false (.tmp 28))⟩,⟨some 30,some (27,false),.op (.len (.tmp 29))⟩,⟨some 31,some (27,false),.op (.bin .gtr 3 (.tmp 30) (.const (.int .i64 8)))⟩,⟨some 32,none,.op (.pick (.tmp 27) (.const (.bool true)) (.tmp 31))⟩,iV 33 32,⟨some 34,some (33,false),.op (.fieldAddr 1 (.tmp 2))⟩,⟨some 35,some (33,false),.op (.load 1 false (.tmp 34))⟩,⟨some 36,some (33,false),.op (.bin .gtr 3 (.tmp 35) (.const (.int .i64 16)))⟩,⟨some 37,none,.op (.pick (.tmp 33) (.const (.bool true)) (.tmp 36))⟩,iV 38 37,⟨some 39,some (38,false),.op (.fieldAddr 2 (.tmp 2))⟩,⟨some 40,some (38,false),.op (.load 1 false (.tmp 39))⟩,⟨some 41,some (38,false),.op (.bin .gtr 3 (.tmp 40) (.const (.int .i64 8)))⟩,⟨some 42,none,.op (.pick (.tmp 38) (.const (.bool true)) (.tmp 41))⟩]) (.cond (.tmp 42) (.seq (.region [⟨some 4,none,.op (.move (.const (.bool false)))⟩]) .ret) .skip)) (.seq (.seq (.region [⟨some 5,none,.op (.move (.const (.int .i64 0)))⟩]) (.block 0 (.loop (.seq (.seq (.region [iV 43 5,⟨some 44,none,.op (.fieldAddr 5 (.tmp 2))⟩,⟨some 45,none,.op (.load 1 false (.tmp 44))⟩,⟨some 46,none,.op (.len (.tmp 45))⟩,⟨some 47,none,.op (.bin .lss 3 (.tmp 43) (.tmp 46))⟩]) (.cond (.tmp 47) .skip (.exit 0))) (.seq (.block 1 (.seq (.region [⟨some 50,none,.op (.fieldAddr 5 (.tmp 2))⟩,⟨some 51,none,.op (.load 1 false (.tmp 50))⟩,iV 52 5,⟨some 53,none,.op (.idxSl 1 (.tmp 51) (.tmp 52))⟩,⟨some 54,none,.op (.load 1 false (.tmp 53))⟩,⟨some 55,none,.op (.bin .gtr 3 (.tmp 54) (.const (.int .i64 16)))⟩]) (.cond (.tmp 55) (.seq (.region [⟨some 4,none,.op (.move (.const (.bool false)))⟩]) .ret) .skip))) (.region [iV 48 5,⟨some 49,none,.op (.bin .add 3 (.tmp 48) (.const (.int .i64 1)))⟩,iV 5 49])))))) (.seq (.seq (.region [⟨some 6,none,.op (.move (.const (.int .i64 0)))⟩]) (.block 2 (.loop (.seq (.seq (.region [iV 56 6,⟨some 57,none,.op (.fieldAddr 7 (.tmp 2))⟩,⟨some 58,none,.op (.load 1 false (.tmp 57))⟩,⟨some 59,none,.op (.len (.tmp 58))⟩,⟨some 60,none,.op (.bin .lss 3 (.tmp 56) (.tmp 59))⟩]) (.cond (.tmp 60) .skip (.exit 2))) (.seq (.block 3 (.seq (.region [⟨some 63,none,.op (.fieldAddr 7 (.tmp 2))⟩,⟨some 64,none,.op (.load 1 false (.tmp 63))⟩,iV 65 6,⟨some 66,none,.op (.idxSl 8 (.tmp 64) (.tmp 65))⟩,⟨some 67,none,.op (.load 8 true (.tmp 66))⟩,iV 68 1,⟨some 69,none,.op (.bin .sub 3 (.tmp 68) (.const (.int .i64 1)))⟩,⟨some 70,none,(.call 19 [(.tmp 67),(.tmp 69)])⟩,⟨some 71,none,.op (.un .not (.tmp 70))⟩]) (.cond (.tmp 71) (.seq (.region [⟨some 4,none,.op (.move (.const (.bool false)))⟩]) .ret) .skip))) (.region [iV 61 6,⟨some 62,none,.op (.bin .add 3 (.tmp 61) (.const (.int .i64 1)))⟩,iV 6 62])))))) (.seq (.region [⟨some 4,none,.op (.move (.const (.bool true)))⟩]) .ret))))),[(.tmp 4)]⟩
theorem cF19:aJ Tryz.prog 19=some F19:=by kernel_rfl
set_option maxRecDepth 20000
def oP (a:Int) (e o:Ty) (off cnt:Int):List (Int×Int)×Int:=
 if (cC a e o).1≠0 then([],(cC a e o).1)
 else if off < 0∨cnt < 0 then([],3)
 else if 4096 < cnt∨4096 < cnt * (cC a e o).2.elem then([],9)
 else if (hU (cC a e o).2 off.toNat (cnt.toNat * (cC a e o).2.elem.toNat)).2=true then(dG (hU (cC a e o).2 off.toNat (cnt.toNat * (cC a e o).2.elem.toNat)).1,0) else([],3)
theorem iG {a:Int} {e o:Ty}:PV (.agg (vwR a e o)):=by unfold vwR; infer_instance
theorem wL {a:Int} {e o:Ty} (he:a8 3 e=true) (ho:a8 3 o=true):aB Tryz.prog 16 [.agg (vwR a e o)] (iv (cC a e o).1):=by
 have hc:=zA (a:=a) he ho
 refine aB.mkI (ha:=⟨fun c hc=>by rw[List.mem_singleton.1 hc]; exact iG.out⟩) cF16 (nlB rfl) ?_
 generalize cC a e o=r at *
 obtain⟨er,s⟩:=r
 obtain⟨_,k1,c1,b1,s1,z1,l1,p1,f1,_,rfl,_⟩:=aS he
 obtain⟨_,k2,c2,b2,s2,z2,l2,p2,f2,_,rfl,_⟩:=aS ho
 unfold vwR snR at *
 rw[tyR,tyR] at *
 refine aA ?_
 exact aI.w
theorem LR {s:Sn} {off n:Nat} (hs:snB s) (ho:off≤65536) (hn:n≤163840000):∀ p∈j7 s off n,-10000000000000000≤p∧p≤10000000000000000:=fun p hp=>by
 obtain⟨i,hi,rfl⟩:=List.mem_map.1 hp
 have hi:=List.mem_range.1 hi
 obtain⟨⟨s1,s2⟩,⟨s3,s4⟩,⟨s5,s6⟩,s7,s8,s9⟩:=hs
 unfold mP at s5 s6
 have hE:s.elem.toNat≤40000:=by omega
 have hoe:off * s.elem.toNat≤65536 * 40000:=Nat.mul_le_mul ho hE
 unfold dH
 obtain⟨k,hk⟩:∃ k,k=off * s.elem.toNat+i:=⟨_,rfl⟩
 rw[← hk]
 have hq:k / s.pl.length≤k:=Nat.div_le_self _ _
 obtain⟨Q,hQ⟩:∃ Q,Q=k / s.pl.length:=⟨_,rfl⟩
 rw[← hQ] at hq ⊢
 have hmu:=gG (a:=(Q:Int)) (b:=s.ext) (A:=3000000000) (B:=1048576) (by omega) (by omega) s5 s6
 have hkm:k % s.pl.length < s.pl.length:=Nat.mod_lt _ s7
 have hg:s.pl.getD (k % s.pl.length) 0=s.pl[k % s.pl.length]:=by simp[hkm]
 have:=s9 s.pl[k % s.pl.length] (List.getElem_mem _)
 rw[hg]
 omega
theorem t4 {s:Sn} {off n:Nat} (hs:snB s) (hn:n≤163840000):(hU s off n).1.length≤n∧∀ p∈(hU s off n).1,-10000000000000000≤p∧p≤10000000000000000:=by
 unfold hU
 split
 ·exact⟨Nat.zero_le _,fun p hp=>by cases hp⟩
 ·rename_i h
  split
  ·refine⟨by simp[j7],fun p hp=>?_⟩
   have h0:0 < n:=by
    have:=List.length_pos_of_mem hp
    simpa[j7] using this
   exact LR hs (by omega) hn p hp
  ·exact⟨Nat.zero_le _,fun p hp=>by cases hp⟩
set_option maxHeartbeats 2000000 in
theorem OM {a:Int} {e o:Ty} {off cnt:Int} (he:a8 3 e=true) (ho:a8 3 o=true) (hoff:off < 9223372036854775808):aB Tryz.prog 14 [.agg (vwR a e o),iv off,iv cnt] (.tup [.list 2 (enR (oP a e o off cnt).1),iv (oP a e o off cnt).2]):=by
 have hc:=zA (a:=a) he ho
 have hsn:=lK (a:=a) he ho
 refine aB.mkI (ha:=⟨fun c hc=>by
  simp only[List.mem_cons,List.not_mem_nil,or_false] at hc
  rcases hc with rfl | rfl | rfl
  ·exact iG.out
  ·exact .sc _
  ·exact .sc _⟩) cF14 (nlB rfl) ?_
 unfold oP
 generalize cC a e o=r at *
 obtain⟨er,s⟩:=r
 simp only at hsn ⊢
 obtain⟨_,k1,c1,b1,s1,z1,l1,p1,f1,_,rfl,_⟩:=aS he
 obtain⟨_,k2,c2,b2,s2,z2,l2,p2,f2,_,rfl,_⟩:=aS ho
 unfold vwR snR at *
 rw[tyR,tyR] at *
 replace hc:aB Tryz.prog 63 _ (.tup [.agg [iv s.at',iv s.elem,iv s.ext,.list 1 (inR s.pl)],iv er]):=hc
 refine aA ?_
 refine AWP.condN (er≠0) rfl (eV _) (fun h1=>?_) (fun h1=>?_)
 ·rw[if_pos h1,show enR (([],er):List (Int×Int)×Int).1=[] from rfl]
  refine aA ?_
  exact aI.w
 rw[if_neg h1]
 have hs:=hsn (Decidable.byContradiction h1)
 obtain⟨_,⟨q1,q2⟩,_⟩:=id hs
 obtain⟨E,hE⟩:∃ E:Nat,s.elem=E:=⟨s.elem.toNat,by omega⟩
 refine aA ?_
 by_cases g1:off < 0
 ·rw[dTr g1,if_pos (.inl g1),show enR (([],3):List (Int×Int)×Int).1=[] from rfl]
  refine aA ?_
  exact aI.w
 rw[dFa g1]
 refine aA ?_
 refine AWP.condN (cnt < 0) rfl rfl (fun g2=>?_) (fun g2=>?_)
 ·rw[if_pos (.inr g2),show enR (([],3):List (Int×Int)×Int).1=[] from rfl]
  refine aA ?_
  exact aI.w
 rw[if_neg (by omega)]
 obtain⟨O,rfl⟩:∃ O:Nat,off=O:=⟨off.toNat,by omega⟩
 obtain⟨C,rfl⟩:∃ C:Nat,cnt=C:=⟨cnt.toNat,by omega⟩
 rw[hE] at hc ⊢
 refine aA ?_
 by_cases g3:4096 < C
 ·rw[dTr g3,if_pos (.inl (by omega)),show enR (([],9):List (Int×Int)×Int).1=[] from rfl]
  refine aA ?_
  exact aI.w
 rw[dFa g3]
 have hCE:C * E≤4096 * 40000:=Nat.mul_le_mul (by omega) (by omega)
 have hci:((C:Nat):Int) * (E:Nat)=((C * E:Nat):Int):=(Int.natCast_mul C E).symm
 refine aA ?_
 refine AWP.condN (4096 < C * E) rfl rfl (fun g4=>?_) (fun g4=>?_)
 ·rw[if_pos (.inr (by rw[hci]; omega)),show enR (([],9):List (Int×Int)×Int).1=[] from rfl]
  refine aA ?_
  exact aI.w
 rw[if_neg (by rw[hci]; omega),Int.toNat_natCast,Int.toNat_natCast,Int.toNat_natCast]
 have hli:=KE (off:=O) (n:=C * E) hs (by omega) (by omega)
 rw[hE] at hli
 have hlb:=t4 (off:=O) (n:=C * E) hs (by omega)
 generalize hU s O (C * E)=l at *
 obtain⟨l,ok⟩:=l
 simp only at hli hlb ⊢
 obtain⟨hll,hlb⟩:=hlb
 refine aA ?_
 cases ok with
 | false=>
  rw[if_neg (by simp),show enR (([],3):List (Int×Int)×Int).1=[] from rfl]
  refine aA ?_
  exact aI.w
 | true=>
 rw[if_pos rfl]
 have hil:=bA l
 refine aA ?_
 refine AWP.loop (fun i:Nat=>[(12,.hsl 0 0 0 (dG (l.take i)).length),(54,.list 1 (inR l)),(55,iv l.length),(56,iv i)]) (fun i=>[[.cells 2 (enR (dG (l.take i)))]]) (fun i=>i≤l.length) (fun i=>l.length - i) 0 (Nat.zero_le _) ?_ ?_
 ·rw[← hil]
  exact Sub.wl [2] [[(2,0)]]
 rintro i hi
 refine c9 ?_
 refine AWP.condN (i < l.length) rfl rfl (fun h=>?_) (fun h=>?_)
 ·have hr:=cS l i h
  have hp:=hlb l[i] (List.getElem_mem _)
  have htk:=cG h
  obtain⟨g5,g6⟩:=nN (fun p=>-10000000000000000≤p∧p≤10000000000000000) i (l.take i) (by rw[List.length_take]; omega) fun p hp=>hlb p (List.mem_of_mem_take hp)
  have hsn:=iS (l.take i) l[i]
  rw[← htk] at hsn
  generalize l[i]=p at *
  generalize dG (l.take i)=out at *
  have hol:=bK out
  rcases List.eq_nil_or_concat out with rfl | ⟨o,x,hox⟩
  ·refine aA ?_
   refine DK.nil ⟨by kernel_rfl,?_⟩
   refine aA ?_
   refine⟨i+1,by omega,by omega,?_⟩
   rw[hsn,show gE [] p=[(p,1)] from rfl]
   exact Sub.wl [] [[(3,0)]]
  ·rw[List.concat_eq_append] at hox
   subst hox
   have hob:=g6 x (by simp)
   obtain⟨a,m⟩:=x
   have hr2:eI (enR (o++[(a,m)])) ((o.length:Nat):Int)=some [iv a,iv m]:=by
    rw[eD (o++[(a,m)]) o.length (by simp)]
    simp
   have hln:(o++[(a,m)]).length=o.length+1:=by simp
   rw[hln] at hol g5 ⊢
   replace hob:(-10000000000000000≤a∧a≤10000000000000000)∧0 < m∧m≤(i:Int):=hob
   refine aA ?_
   rw[Av.wrap_small (show -9223372036854775808≤a+m by omega) (by omega)]
   refine DK.nil ⟨by kernel_rfl,?_⟩
   refine aA ?_
   refine AWP.condN (a+m=p) rfl rfl (fun h=>?_) (fun h=>?_)
   ·rw[j4 (x:=(a,m)) h] at hsn
    have ew:IntKind.i64.wrap (m+1)=m+1:=Av.wrap_small (by omega) (by omega)
    refine aA ?_
    rw[ew]
    refine⟨i+1,by omega,by omega,?_⟩
    rw[hsn,show(o++[(a,m+1)]).length=o.length+1 by simp]
    (apply Sub.to [] [[(0,0)]]; all_goals (repeat' (first | exact aT.nil | exact aK.nil | exact bN.nil | exact ToL.nil | exact ToR.nil | refine aT.cons ?_ ?_ | refine aK.cons ?_ ?_ | refine eJ ?_ ?_ | exact To.undef _ | exact To.sc _ | exact To.hslL rfl rfl | exact To.asl _ _ _ _ _ _ _ rfl | refine To.ifc _ _ _ ?_ | exact To.ptrO rfl rfl rfl | exact To.mrefO rfl | exact To.nil rfl rfl rfl | exact wt1 | exact To.nilL | refine To.int ?_ | refine To.bool ?_ | refine To.hslL rfl ?_ | refine wt2 rfl ?_ ?_ ?_ | refine To.tupL ?_ | refine To.aggL ?_ | refine To.cptrL ?_ | refine To.fzp rfl rfl rfl ?_ | refine To.fzm rfl rfl ?_ | refine To.cloL ?_ ?_ | refine wt3 ?_ | refine wt4 ?_ | exact wt5 | refine wt6 ?_ | refine ToB.one ?_ | exact wt7 | ((with_reducible apply ToL.consE); case e9=>rfl) | refine wt8 ?_ | refine ToL.cons ?_ ?_ | exact wt11 | refine wt9 ?_ ?_ | refine wt12 ?_ | exact .yld _ _ _ _ rfl | exact .dead _ | exact hlp _ _ _ _ rfl rfl rfl | exact hlp _ _ _ rfl rfl rfl | exact hlp _ _ _ rfl rfl | exact hlp _ _ _ rfl | (with_reducible rfl) | assumption)); all_goals (first | rfl | assumption | (simp; done) | (simp; omega) | (rw[wrap_small (by omega) (by omega)]; done) | (rw[wrap_small (by omega) (by omega)]; omega) | (refine congrArg Nat.cast ?_; assumption) | omega | (exact Av.wrap_small (by omega) (by omega)) | skip))
    all_goals first | exact sW (y:=(a,m+1)) rfl
   ·rw[jQ (x:=(a,m)) h] at hsn
    refine aA ?_
    refine⟨i+1,by omega,by omega,?_⟩
    rw[hsn,show(o++[(a,m)]++[(p,1)]:List (Int×Int)).length=o.length+1+1 by simp]
    have hz9:enR (o++[(a,m)])++[[iv p,iv 1]]=enR (o++[(a,m)]++[(p,1)]):=by simp[enR]
    exact Sub.wl [] [[(3,0)]]
 ·obtain rfl:l.length=i:=by omega
  rw[List.take_length]
  have hol:=bK (dG l)
  refine aA ?_
  exact aI.w
set_option maxHeartbeats 2000000 in
theorem tS:∀(n:Nat) (t:Ty),n≤100→lB n t→aB Tryz.prog 19 [.agg (tyR t),iv n] (bv (a8 n t))
 | 0,t,_,_=>by
  rw[show a8 0 t=false by cases t<;>rfl]
  refine aB.mkI cF19 (nlB rfl) ?_
  cases t with
  | mk=>
   rw[tyR]
   refine aA ?_
   exact aI.w
  | raw=>
   rw[tyR]
   refine aA ?_
   exact aI.w
 | n+1,.raw ..,_,h=>h.elim
 | n+1,.mk k c b st sz bl pl of,hn,hk=>by
  have ih:∀ u∈of,aB Tryz.prog 19 [.agg (tyR u),iv n] (bv (a8 n u)):=fun u hu=>tS n u (by omega) (hk u hu)
  have l1:=bA sz
  have l2:=bA bl
  have l3:=bA pl
  have l4:=jX of
  refine aB.mkI cF19 (nlB rfl) ?_
  obtain⟨r,hr⟩:∃ r,r=a8 (n+1) (.mk k c b st sz bl pl of):=⟨_,rfl⟩
  rw[← hr]
  rw[a8] at hr
  rw[tyR]
  refine aA ?_
  rw[l4]
  by_cases h1:3 < of.length
  ·rw[dTr h1,show r=false by rw[hr]; simp[show¬ of.length≤3 by omega]]
   refine aA ?_
   exact aI.w
  rw[dFa h1]
  refine aA ?_
  rw[l1]
  by_cases h2:8 < sz.length
  ·rw[dTr h2,show r=false by rw[hr]; simp[show¬ sz.length≤8 by omega]]
   refine aA ?_
   exact aI.w
  rw[dFa h2]
  refine aA ?_
  rw[l2]
  by_cases h3:8 < bl.length
  ·rw[dTr h3,show r=false by rw[hr]; simp[show¬ bl.length≤8 by omega]]
   refine aA ?_
   exact aI.w
  rw[dFa h3]
  refine aA ?_
  rw[l3]
  by_cases h4:8 < pl.length
  ·rw[dTr h4,show r=false by rw[hr]; simp[show¬ pl.length≤8 by omega]]
   refine aA ?_
   exact aI.w
  rw[dFa h4]
  refine aA ?_
  by_cases h5:c > 16
  ·rw[dTr h5,show r=false by rw[hr]; simp[show¬ c≤16 by omega]]
   refine aA ?_
   exact aI.w
  rw[dFa h5]
  refine aA ?_
  refine AWP.condN (8 < b) rfl rfl (fun h6=>?_) (fun h6=>?_)
  ·rw[show r=false by rw[hr]; simp[show¬ b≤8 by omega]]
   refine aA ?_
   exact aI.w
  refine aA ?_
  refine AWP.loop (fun i:Nat=>[(1,iv (n+1:Nat)),(2,.cptr [iv k,iv c,iv b,iv st,.list 1 (inR sz),.list 1 (inR bl),.list 1 (inR pl),.list 8 (aM of)]),(5,iv i)]) (fun _=>[]) (fun i=>i≤bl.length∧∀ j (h:j < bl.length),j < i→bl[j]≤16) (fun i=>bl.length - i) 0 ⟨Nat.zero_le _,fun j _ hj=>by omega⟩ ?_ ?_
  ·exact Sub.wl [] []
  rintro i ⟨hi,hin⟩
  refine aA ?_
  rw[l2]
  refine AWP.condN (i < bl.length) rfl rfl (fun h7=>?_) (fun h7=>?_)
  ·have r1:=cS bl i h7
   refine aA ?_
   refine AWP.condN (16 < bl[i]) rfl rfl (fun h8=>?_) (fun h8=>?_)
   ·rw[show r=false by
     rw[hr,show(bl.all fun x=>decide (x≤16))=false from List.all_eq_false.2 ⟨bl[i],List.getElem_mem _,by simp; omega⟩]
     simp]
    refine aA ?_
    exact aI.w
   ·refine aA ?_
    refine⟨i+1,⟨by omega,fun j hj hji=>?_⟩,by omega,?_⟩
    ·by_cases e:j=i
     ·subst e; omega
     ·exact hin j hj (by omega)
    (refine Sub.keep ?_; repeat' (first | exact trivial | exact Le.refl _ | refine⟨?_,?_⟩))
  ·obtain rfl:bl.length=i:=by omega
   have hba:(bl.all fun x=>decide (x≤16))=true:=List.all_eq_true.2 fun x hx=>by
    obtain⟨j,hj,rfl⟩:=List.getElem_of_mem hx
    simpa using hin j hj hj
   rw[hba,dTr (show of.length≤3 by omega),dTr (show sz.length≤8 by omega),dTr (show bl.length≤8 by omega),dTr (show pl.length≤8 by omega),dTr (show c≤16 by omega),dTr (show b≤8 by omega)] at hr
   replace hr:r=of.all (a8 n):=by simpa using hr
   refine aA ?_
   refine AWP.loop (fun i:Nat=>[(1,iv (n+1:Nat)),(2,.cptr [iv k,iv c,iv b,iv st,.list 1 (inR sz),.list 1 (inR bl),.list 1 (inR pl),.list 8 (aM of)]),(6,iv i)]) (fun _=>[]) (fun i=>i≤of.length∧∀ j (h:j < of.length),j < i→a8 n of[j]=true) (fun i=>of.length - i) 0 ⟨Nat.zero_le _,fun j _ hj=>by omega⟩ ?_ ?_
   ·(refine Sub.keep ?_; repeat' (first | exact trivial | exact Le.refl _ | refine⟨?_,?_⟩))
   rintro i ⟨hi,hin⟩
   refine aA ?_
   rw[l4]
   refine AWP.condN (i < of.length) rfl rfl (fun h7=>?_) (fun h7=>?_)
   ·have r1:=oQ of i h7
    have hu:=ih of[i] (List.getElem_mem _)
    have hn1:IntKind.i64.wrap (((n+1:Nat):Int) - 1)=(n:Int):=by rw[Av.wrap_small (by omega) (by omega)]; omega
    refine aA ?_
    refine Reg.o rfl (pS rfl (xX _)) ?_
    refine aA ?_
    cases hsm:a8 n of[i] with
    | false=>
     rw[show r=false by rw[hr]; exact List.all_eq_false.2 ⟨of[i],List.getElem_mem _,by simp[hsm]⟩]
     refine aA ?_
     exact aI.w
    | true=>
     refine aA ?_
     refine⟨i+1,⟨by omega,fun j hj hji=>?_⟩,by omega,?_⟩
     ·by_cases e:j=i
      ·subst e; exact hsm
      ·exact hin j hj (by omega)
     (refine Sub.keep ?_; repeat' (first | exact trivial | exact Le.refl _ | refine⟨?_,?_⟩))
   ·obtain rfl:of.length=i:=by omega
    rw[show r=true by rw[hr]; exact List.all_eq_true.2 fun u hu=>by obtain⟨j,hj,rfl⟩:=List.getElem_of_mem hu; exact hin j hj hj]
    refine aA ?_
    exact aI.w
theorem rX {pl:List Int} {ext:Int} (h:nH pl ext=true) {i:Nat} (hi:i < pl.length):fS pl i < pl.getD i 0∧pl.getD i 0 < ext:=by
 have:=List.all_eq_true.1 h i (List.mem_range.2 hi)
 simpa using this
theorem CE {s:Sn} (h:nH s.pl s.ext=true) (hl:0 < s.pl.length) (k:Nat):dH s k < dH s (k+1):=by
 unfold dH
 have hm:=Nat.mod_lt k hl
 have hd:=Nat.div_add_mod k s.pl.length
 generalize hr:k % s.pl.length=r at *
 generalize hq:k / s.pl.length=q at *
 by_cases h1:r+1 < s.pl.length
 ·have e1:(k+1) / s.pl.length=q:=by
   rw[← hd,Nat.add_assoc,Nat.mul_add_div hl,Nat.div_eq_of_lt h1,Nat.add_zero]
  have e2:(k+1) % s.pl.length=r+1:=by
   rw[← hd,Nat.add_assoc,Nat.mul_add_mod,Nat.mod_eq_of_lt h1]
  rw[e1,e2]
  have:=(rX h h1).1
  unfold fS at this
  rw[if_neg (by omega),Nat.add_sub_cancel] at this
  omega
 ·have hr1:r+1=s.pl.length:=by omega
  have hk1:k+1=s.pl.length * (q+1):=by rw[Nat.mul_succ]; omega
  have e1:(k+1) / s.pl.length=q+1:=by rw[hk1,Nat.mul_div_cancel_left _ hl]
  have e2:(k+1) % s.pl.length=0:=by rw[hk1,Nat.mul_mod_right]
  rw[e1,e2]
  have g1:=(rX h hl).1
  have g2:=(rX h hm).2
  unfold fS at g1
  rw[if_pos rfl] at g1
  have e3:((q+1:Nat):Int) * s.ext=(q:Int) * s.ext+s.ext:=by
   rw[Int.natCast_add,Int.add_mul]
   simp
  rw[e3]
  omega
theorem KF {s:Sn} {O n i:Nat} (h:i < n):(j7 s O n)[i]?=some (dH s (O * s.elem.toNat+i)):=by
 unfold j7
 simp[h]
end Go.Proofs.YtgdocflpobncmaaGreat
