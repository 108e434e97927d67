import Derived.Test.YtgdocflpobncmaaGreatGFtD6
import Derived.Test.YtgdocflpobncmaaGreatGAvMv
import Derived.Test.YtgdocflpobncmaaGreatProg
import Derived.KernelRfl
import Derived.Test.YtgdocflpobncmaaGreatGFiC
namespace Go.Proofs.YtgdocflpobncmaaGreat
open Go.Av Go.Proofs
set_option maxRecDepth 20000
theorem zJ {t:Ty} (h:bA 3 t=true):aB Tryz.prog 124 [.agg (tyR t),iv 1] (.tup [.list 2 (enR (fG (cI (aG 3 t).2.es))),iv (aG 3 t).1]):=by
 refine aB.mkI MX (nlB rfl) ?_
 have he:=xT h
 have hl:=pF h
 have hb:∀ y∈(aG 3 t).2.es,-mP≤y.2∧y.2≤mP:=by
  by_cases h0:(aG 3 t).1=0
  ·exact(dU 3 t h h0).2.2.2.2.2.2.2.2
  ·rw[jW 3 t h0]
   exact fun y hy=>by cases hy
 generalize (aG 3 t).1=e at *
 generalize (aG 3 t).2.es=es at *
 have h1:=GQ es hl
 have h2:=J4 es hl hb
 obtain⟨_,_,_,_,_,_,_,_,_,_,rfl,_⟩:=bF h
 rw[tyR] at he ⊢
 refine aA ?_
 exact aJ.w
def exF (l:List (Int×Int)) (i:Nat):List Int:=(List.range (l.getD i (0,0)).2.toNat).map fun j:Nat=>(l.getD i (0,0)).1+j
def exP (l:List (Int×Int)):List Int:=(List.range l.length).flatMap (exF l)
theorem qZ (l:List (Int×Int)):exP l=l.flatMap fun x:Int×Int=>(List.range x.2.toNat).map fun j:Nat=>(x.1+(j:Int):Int):=by
 have key:∀(l m:List (Int×Int)),(List.range l.length).flatMap (fun i=>exF (m++l) (m.length+i))=l.flatMap fun x:Int×Int=>(List.range x.2.toNat).map fun j:Nat=>(x.1+(j:Int):Int):=by
  intro l
  induction l with
  | nil=>exact fun m=>rfl
  | cons x l ih=>
   intro m
   rw[List.length_cons,List.range_succ_eq_map,List.flatMap_cons,List.flatMap_cons]
   congr 1
   ·unfold exF
    simp
   ·rw[List.flatMap_map]
    have:=ih (m++[x])
    rw[List.append_assoc,List.length_append,List.length_singleton] at this
    rw[← this]
    congr 1
    funext i
    rw[Nat.succ_eq_add_one,Nat.add_assoc,Nat.add_comm 1 i]
    rfl
 have:=key l []
 simpa[exP] using this
theorem DJ:∀(n:Nat) (l:List Int),l.length=n→exP (fG l)=l
 | 0,l,hl=>by
  obtain rfl:l=[]:=List.length_eq_zero_iff.1 hl
  rfl
 | n+1,l,hl=>by
  rcases List.eq_nil_or_concat l with rfl | ⟨o,p,ho⟩
  ·cases hl
  rw[List.concat_eq_append] at ho
  subst ho
  have hol:o.length=n:=by simpa using hl
  have ih:=DJ n o hol
  have hb:=(xG (fun _=>True) n o hol fun _ _=>trivial).2
  rw[mG]
  rcases List.eq_nil_or_concat (fG o) with e | ⟨s,x,e⟩
  ·rw[e] at ih ⊢
   rw[← ih]
   simp[qZ,gK]
  ·rw[List.concat_eq_append] at e
   rw[e] at ih hb ⊢
   have hx:=(hb x (by simp)).2.1
   rw[qZ,List.flatMap_append] at ih
   obtain⟨a,m⟩:=x
   replace hx:0 < m:=hx
   by_cases hq:a+m=p
   ·rw[oV (x:=(a,m)) hq,qZ,List.flatMap_append,← ih,List.append_assoc]
    congr 1
    simp only[List.flatMap_cons,List.flatMap_nil,List.append_nil]
    rw[show(m+1).toNat=m.toNat+1 by omega,List.range_succ,List.map_append]
    congr 1
    simp
    omega
   ·rw[pC (x:=(a,m)) hq,qZ,List.flatMap_append,List.flatMap_append,ih]
    simp
def csF (c:AV):Fr:=[(2,.ptr 0 0 0 0),(6,c)]
def csE (x:Blk):Heap:=[[.cells 1 [[.sc (.slice none 0 0)]]],[x]]
def csI (out:List Int) (x:Blk):Heap:=[[.cells 1 [[.hsl 2 0 0 out.length]]],[x],[.cells 1 (inR out)]]
def csJ (out:List Int) (x:Blk):Heap:=[[.cells 1 [[.hsl 3 0 0 out.length]]],[x],[.dead],[.cells 1 (inR out)]]
noncomputable def C3:bJ:=hG [1,0,1,0] F153.code
theorem MW {T:AV→AV→Prop} {ρ:Nat→Nat→Option (Nat×Nat)} {c:AV} {L:LC} {st:LoopState} {pe:Option Code} (hc:PV c) (r0:ρ 0 0=some (0,0)):ToB T ρ (.lp L (csF c) st pe) (.lp L (csF c) st pe):=by
 refine ToB.lp _ _ _ _ _ fun x hx=>?_
 simp only[csF,List.mem_cons,List.not_mem_nil,or_false] at hx
 rcases hx with rfl | rfl
 ·exact To.ptrO r0 rfl rfl
 ·exact To.pure hc.out
theorem MA {L:LC} {c:AV} (hc:PV c) (hL:LOK Tryz.prog F153.n L [7] (rfA C3) (rfB C3)) (out:List Int) (p:Int) (ho:out.length≤1000000):
  cZ Tryz.prog 1 0 [iv p] (csI out (.lp L (csF c) .ready none)) fun b H'=>b=true∧H'=csJ (out++[p]) (.lp L (csF c) .ready none):=by
 refine fI.g ?_
 refine⟨L,_,_,_,_,_,hL,rfl,rfl,?_⟩
 show AWP _ _ _ (.region _) _ _ _
 have hlp:∀(T:AV→AV→Prop) (ρ:Nat→Nat→Option (Nat×Nat)) (st:LoopState),ρ 0 0=some (0,0)→ToB T ρ (.lp L (csF c) st none) (.lp L (csF c) st none):=fun T ρ st=>MW hc
 obtain⟨caps,hcaps⟩:∃ caps,caps=csF c:=⟨_,rfl⟩
 rw[← hcaps] at hlp ⊢
 rw[show putL caps ([7].zip [iv p])=(7,iv p)::csF c by rw[hcaps]; rfl]
 unfold csF
 have hol:=bX out
 refine aA ?_
 refine⟨rfl,caps,rfl,?_⟩
 show AWP _ _ _ (.block 1 _) _ _ _
 refine AWP.fin ?_
 refine aA ?_
 refine⟨[],csJ (out++[p]) (.lp L caps .busy none),?_,caps,rfl,rfl,rfl⟩
 unfold csJ
 rw[List.length_append]
 have hz9:inR out++[[iv p]]=inR (out++[p]):=by simp[inR]
 exact Sub.wl [] [[(0,0)],[(1,0)],[(2,0)],[(4,0)]]
set_option maxHeartbeats 1000000 in
theorem LS {L:LC} {c:AV} {l:List (Int×Int)} (hc:PV c) (hL:LOK Tryz.prog F153.n L [7] (rfA C3) (rfB C3)) (hn:l.length≤100000) (hb:∀ x∈l,(-2000000≤x.1∧x.1≤2000000)∧0≤x.2∧x.2≤100000) (hx:(exP l).length≤100000):
  aF Tryz.prog 138 [.yld 1 0,.cptr [.list 2 (enR l)]] (csE (.lp L (csF c) .ready none)) fun _ H'=>H'=csI (exP l) (.lp L (csF c) .ready none):=by
 have hlp:∀(T:AV→AV→Prop) (ρ:Nat→Nat→Option (Nat×Nat)) (st:LoopState),ρ 0 0=some (0,0)→ToB T ρ (.lp L (csF c) st none) (.lp L (csF c) st none):=fun T ρ st=>MW hc
 have hel:=d6 l
 refine aF.of MP ?_ (nlB rfl)
 refine aA ?_
 refine AWP.loop (fun i:Nat=>[(0,.yld 1 0),(1,.cptr [.list 2 (enR l)]),(6,.list 2 (enR l)),(7,iv l.length),(8,iv i)]) (fun i=>csI (cD (exF l) i 0) (.lp L (csF c) .ready none)) (fun i=>i≤l.length) (fun i=>l.length - i) 0 (Nat.zero_le _) ?_ ?_
 ·rw[← hel,iA]
  exact Sub.wl [1] [[(0,0)],[(1,0)],[(2,0)]]
 rintro i hi
 refine cK ?_
 refine AWP.condN (i < l.length) rfl rfl (fun h=>?_) (fun h=>?_)
 ·have hr:=jT l i h
  have hle:∀ j,(cD (exF l) i j).length≤100000:=fun j=>by
   obtain⟨r,hr⟩:=vZ (f:=exF l) (j:=j) h
   have:(exP l).length=(cD (exF l) i j).length+r.length:=by
    unfold exP
    rw[hr,List.length_append]
   omega
  have hfi:exF l i=(List.range l[i].2.toNat).map fun j:Nat=>l[i].1+j:=by simp[exF,h]
  have hxb:=hb l[i] (List.getElem_mem _)
  generalize l[i].1=a at *
  generalize l[i].2=m at *
  obtain⟨M,rfl⟩:∃ M:Nat,m=M:=⟨m.toNat,by omega⟩
  rw[Int.toNat_natCast] at hfi
  have hfl:(exF l i).length=M:=by rw[hfi]; simp
  have hfg:∀ j,j < M→(exF l i)[j]?=some (a+j):=fun j hj=>by rw[hfi]; simp[hj]
  refine cK ?_
  refine AWP.loop (fun j:Nat=>[(0,.yld 1 0),(1,.cptr [.list 2 (enR l)]),(4,.cptr [iv a,iv M]),(6,.list 2 (enR l)),(7,iv l.length),(8,iv i),(13,iv M),(14,iv j)]) (fun j=>csI (cD (exF l) i j) (.lp L (csF c) .ready none)) (fun j=>j≤M) (fun j=>M - j) 0 (Nat.zero_le _) ?_ ?_
  ·exact Sub.wl [] [[(0,0)],[(1,0)],[(2,0)]]
  rintro j hj
  refine cK ?_
  refine AWP.condN (j < M) rfl rfl (fun h2=>?_) (fun h2=>?_)
  ·have hl1:=hle j
   have hsn:=eF (hfg j h2)
   refine AWP.skip ?_
   refine AWP.seq ?_
   refine AWP.block ?_
   refine AWP.seq ?_
   refine AWP.region ?_
   refine sJ ?_
   refine AWP.seq ?_
   refine AWP.rG rfl ?_
   refine aA ?_
   rw[Av.wrap_small (show -9223372036854775808≤a+(j:Int) by omega) (by omega)]
   refine⟨rfl,nlB rfl,1,0,rfl,?_⟩
   refine(MA hc hL (cD (exF l) i j) (a+j) (by omega)).mono ?_
   rintro b' H' ⟨rfl,hH⟩
   rw[← hsn] at hH
   subst hH
   refine aA ?_
   refine⟨j+1,by omega,by omega,?_⟩
   exact Sub.wl [] [[(0,0)],[(1,0)],[(3,0)]]
  ·obtain rfl:M=j:=by omega
   rw[gD hfl]
   refine aA ?_
   refine⟨i+1,by omega,by omega,?_⟩
   exact Sub.wl [] [[(0,0)],[(1,0)],[(2,0)]]
 ·obtain rfl:l.length=i:=by omega
  rw[← iU]
  refine aA ?_
  refine iH (res':=.tup []) [[(0,0)],[(1,0)],[(2,0)]] (.inl rfl) rfl rfl ?_ ?_ rfl rfl rfl
  (all_goals exact gR)
  all_goals first | exact hlp _ _ _ rfl | exact .dead _
theorem HC (l:List (Int×Int)):aB Tryz.prog 88 [.list 2 (enR l)] (.clo (.func 138) [] [.cptr [.list 2 (enR l)]]):=by
 refine aB.mkI cF88 (nlB rfl) ?_
 refine aA ?_
 exact aJ.w
theorem EW (l:List (Int×Int)) (hn:l.length≤100000) (hb:∀ x∈l,(-2000000≤x.1∧x.1≤2000000)∧0≤x.2∧x.2≤100000) (hx:(exP l).length≤100000):aB Tryz.prog 153 [.sc (.slice none 0 0),.clo (.func 138) [] [.cptr [.list 2 (enR l)]]] (.list 1 (inR (exP l))):=by
 refine aB.mkI HA (nlB rfl) ?_
 refine aA ?_
 refine AWP.sub (fr':=csF (.clo (.func 138) [] [.cptr [.list 2 (enR l)]])) (H':=[[.cells 1 [[.sc (.slice none 0 0)]]]]) ?_ ?_
 ·unfold csF
  exact Sub.wl [] [[(0,0)]]
 refine AWP.rangeF (g:=138) (fs:=[]) (cs:=[.cptr [.list 2 (enR l)]]) rfl (Nat.zero_le _) rfl fun L hL=>?_
 refine(LS inferInstance hL hn hb hx).mono ?_
 rintro res H' rfl
 refine⟨_,_,none,rfl,by decide,?_⟩
 have hol:=bX (exP l)
 unfold csF
 refine aA ?_
 exact aJ.w
theorem MF (l:List (Int×Int)) (hn:l.length≤100000) (hb:∀ x∈l,(-2000000≤x.1∧x.1≤2000000)∧0≤x.2∧x.2≤100000) (hx:(exP l).length≤100000):aB Tryz.prog 125 [.clo (.func 138) [] [.cptr [.list 2 (enR l)]]] (.list 1 (inR (exP l))):=by
 refine aB.mkI I5 (nlB rfl) ?_
 have h:=EW l hn hb hx
 refine aA ?_
 exact aJ.w
structure Sn where
 at':Int
 elem:Int
 ext:Int
 pl:List Int
def sn0:Sn:=⟨0,0,0,[]⟩
def snR (s:Sn):List AV:=[iv s.at',iv s.elem,iv s.ext,.list 1 (inR s.pl)]
theorem NL (es:List (Int×Int)) (hb:∀ y∈es,-mP≤y.2∧y.2≤mP):∀ p∈cI es,-2000000≤p∧p≤2000000:=fun p hp=>by
 obtain⟨i,hi,hp⟩:=List.mem_flatMap.1 hp
 obtain⟨j,hj,rfl⟩:=List.mem_map.1 hp
 have hi:=List.mem_range.1 hi
 have h1:=hb es[i] (List.getElem_mem _)
 have h2:=gQ (es.getD i (0,0)).1
 have h3:=List.mem_range.1 hj
 have h4:es.getD i (0,0)=es[i]:=by simp[hi]
 rw[h4] at h2 h3 ⊢
 unfold mP at h1
 omega
def vwR (a:Int) (e o:Ty):List AV:=iv a::(tyR e++tyR o)
def jL (pl:List Int) (i:Nat):Int:=if i=0 then -1 else pl.getD (i - 1) 0
def rJ (pl:List Int) (ext:Int):Bool:=(List.range pl.length).all fun i=>decide (jL pl i < pl.getD i 0) && decide (pl.getD i 0 < ext)
def IQ (elem size:Nat):Bool:=decide (1≤elem) && (decide (1≤size) && decide (size % elem=0))
def gX (a:Int) (e o:Ty):Int×Sn:=
 if a < 0∨65536 < a then(3,sn0)
 else if (aG 3 e).1≠0 then((aG 3 e).1,sn0)
 else if (aG 3 o).1≠0 then((aG 3 o).1,sn0)
 else if rJ (cI (aG 3 o).2.es) (aG 3 o).2.ext=true then
  if IQ (bK (aG 3 e).2.es) (bK (aG 3 o).2.es)=true then(0,⟨a,bK (aG 3 e).2.es,(aG 3 o).2.ext,cI (aG 3 o).2.es⟩) else(2,sn0)
 else(2,sn0)
theorem mS (es:List (Int×Int)):(cI es).length=bK es:=by
 have:=wX es es.length (Nat.le_refl _)
 rw[List.take_length,← iU] at this
 exact this
set_option maxHeartbeats 2000000 in
theorem GM {a:Int} {e o:Ty} (he:bA 3 e=true) (ho:bA 3 o=true):aB Tryz.prog 63 [.agg (vwR a e o)] (.tup [.agg (snR (gX a e o).2),iv (gX a e o).1]):=by
 refine aB.mkI (hX:=⟨.tup _ (by
  intro c hc
  simp only[List.mem_cons,List.not_mem_nil,or_false] at hc
  rcases hc with rfl | rfl
  ·unfold snR; exact pv _
  ·exact .sc _)⟩) (ha:=⟨by
  intro c hc
  rw[List.mem_singleton.1 hc]
  unfold vwR
  exact pv _⟩) cF63 (nlB rfl) ?_
 have e1:=DT he
 have o1:=DT ho
 have o2:=FH ho
 have o3:=zJ ho
 have hol:=pF ho
 have hel:=pF he
 have hsb:=dU 3 o ho
 unfold gX
 generalize aG 3 e=re at *
 generalize aG 3 o=ro at *
 obtain⟨ee,se⟩:=re
 obtain⟨eo,so⟩:=ro
 simp only at e1 o1 o2 o3 hol hel hsb ⊢
 obtain⟨_,k1,c1,b1,s1,z1,l1,p1,f1,_,rfl,_⟩:=bF he
 obtain⟨_,k2,c2,b2,s2,z2,l2,p2,f2,_,rfl,_⟩:=bF ho
 have hn1:=f9 se.es
 have hn2:=f9 so.es
 have hpl:=mS so.es
 generalize hne:bK se.es=ne at *
 generalize hno:bK so.es=no at *
 rw[tyR] at e1 o1 o2 o3
 unfold vwR
 rw[tyR,tyR]
 unfold snR
 refine aA ?_
 by_cases ha:a < 0
 ·rw[dTr ha,if_pos (.inl ha)]
  refine aA ?_
  exact aJ.w
 rw[dFa ha]
 refine aA ?_
 refine AWP.condN (65536 < a) rfl rfl (fun h=>?_) (fun h=>?_)
 ·rw[if_pos (.inr h)]
  refine aA ?_
  exact aJ.w
 rw[if_neg (by omega)]
 refine aA ?_
 refine AWP.condN (ee≠0) rfl (dE _) (fun h1=>?_) (fun h1=>?_)
 ·rw[if_pos h1]
  refine aA ?_
  exact aJ.w
 rw[if_neg h1]
 refine aA ?_
 refine AWP.condN (eo≠0) rfl (dE _) (fun h2=>?_) (fun h2=>?_)
 ·rw[if_pos h2]
  refine aA ?_
  exact aJ.w
 rw[if_neg h2]
 obtain rfl:eo=0:=Decidable.byContradiction h2
 have hB:=hsb rfl
 have hsg:=xG (fun p=>-2000000≤p∧p≤2000000) _ (cI so.es) rfl (fun p hp=>NL so.es hB.2.2.2.2.2.2.2.2 p hp)
 have hex:=DJ _ (cI so.es) rfl
 have hcol:=MF (fG (cI so.es)) (by omega) (fun x hx=>⟨(hsg.2 x hx).1,by have:=(hsg.2 x hx).2; omega⟩) (by rw[hex]; omega)
 rw[hex] at hcol
 have hea:=HC (fG (cI so.es))
 generalize fG (cI so.es)=sg at *
 generalize cI so.es=pl at *
 generalize so.ext=ext at *
 have hil:=bX pl
 refine aA ?_
 refine DK.nil ⟨by kernel_rfl,?_⟩
 refine aA ?_
 refine AWP.loop (fun i:Nat=>[(2,.ptr 0 0 0 0),(4,iv ne),(6,iv no),(8,iv ext),(11,.cptr [iv a,iv ne,iv ext,.list 1 (inR pl)]),(12,iv (jL pl i)),(70,.list 1 (inR pl)),(71,iv pl.length),(72,iv i)]) (fun _=>[[.cells 4 [[iv 0,iv 0,iv 0,.sc (.slice none 0 0)]]]]) (fun i=>i≤pl.length∧∀ j,j < i→(decide (jL pl j < pl.getD j 0) && decide (pl.getD j 0 < ext))=true) (fun i=>pl.length - i) 0 ⟨Nat.zero_le _,fun j hj=>by omega⟩ ?_ ?_
 ·rw[← hil]
  exact Sub.wl [] [[(1,0)]]
 rintro i ⟨hi,hin⟩
 refine aA ?_
 refine AWP.condN (i < pl.length) rfl rfl (fun h5=>?_) (fun h5=>?_)
 ·have hr:=cR pl i h5
  have hg:pl.getD i 0=pl[i]:=by simp[h5]
  have hls:jL pl (i+1)=pl[i]:=by unfold jL; rw[if_neg (by omega)]; exact hg
  have hno':(decide (jL pl i < pl.getD i 0) && decide (pl.getD i 0 < ext))=false→rJ pl ext=false:=fun hf=>List.all_eq_false.2 ⟨i,List.mem_range.2 h5,by rw[hf]; simp⟩
  rw[hg] at hno'
  have hin':jL pl i < pl[i]→pl[i] < ext→∀ j,j < i+1→(decide (jL pl j < pl.getD j 0) && decide (pl.getD j 0 < ext))=true:=fun q1 q2 j hj=>by
   by_cases ej:j=i
   ·subst ej; rw[hg,dTr q1,dTr q2]; rfl
   ·exact hin j (by omega)
  generalize pl[i]=p at *
  generalize jL pl i=la at *
  refine aA ?_
  by_cases q1:p≤la
  ·rw[dTr q1]
   refine aA ?_
   rw[hno' (by rw[dFa (by omega)]; rfl),if_neg (by simp),show sn0.at'=0 from rfl,show sn0.elem=0 from rfl,show sn0.ext=0 from rfl,show sn0.pl=[] from rfl]
   exact aJ.w
  ·rw[dFa q1]
   refine aA ?_
   refine AWP.condN (ext≤p) rfl rfl (fun q2=>?_) (fun q2=>?_)
   ·refine aA ?_
    rw[hno' (by rw[dFa (show¬ p < ext by omega),Bool.and_false]),if_neg (by simp),show sn0.at'=0 from rfl,show sn0.elem=0 from rfl,show sn0.ext=0 from rfl,show sn0.pl=[] from rfl]
    exact aJ.w
   ·refine aA ?_
    refine⟨i+1,⟨by omega,hin' (by omega) (by omega)⟩,by omega,?_⟩
    rw[hls]
    exact Sub.wl [] [[(0,0)]]
 ·obtain rfl:pl.length=i:=by omega
  rw[show rJ pl ext=true from List.all_eq_true.2 fun j hj=>hin j (List.mem_range.1 hj),if_pos rfl]
  refine aA ?_
  unfold IQ
  by_cases g1:ne < 1
  ·rw[dTr g1,dFa (show¬ 1≤ne by omega)]
   refine aA ?_
   rw[if_neg (by simp),show sn0.at'=0 from rfl,show sn0.elem=0 from rfl,show sn0.ext=0 from rfl,show sn0.pl=[] from rfl]
   exact aJ.w
  rw[dFa g1,dTr (show 1≤ne by omega)]
  refine aA ?_
  by_cases g2:no < 1
  ·rw[dTr g2,dFa (show¬ 1≤no by omega)]
   refine aA ?_
   rw[if_neg (by simp),show sn0.at'=0 from rfl,show sn0.elem=0 from rfl,show sn0.ext=0 from rfl,show sn0.pl=[] from rfl]
   exact aJ.w
  rw[dFa g2,dTr (show 1≤no by omega)]
  refine aA ?_
  refine AWP.condN (¬ no % ne=0) rfl (by first | rfl | (simp; done)) (fun g3=>?_) (fun g3=>?_)
  ·rw[dFa g3,if_neg (by simp),show sn0.at'=0 from rfl,show sn0.elem=0 from rfl,show sn0.ext=0 from rfl,show sn0.pl=[] from rfl]
   refine aA ?_
   exact aJ.w
  ·rw[dTr (Decidable.byContradiction g3),if_pos (by rfl)]
   refine aA ?_
   exact aJ.w
def eP (s:Sn) (k:Nat):Int:=s.at'+((k / s.pl.length:Nat):Int) * s.ext+s.pl.getD (k % s.pl.length) 0
def iB (s:Sn) (off n:Nat):List Int:=(List.range n).map fun i=>eP s (off * s.elem.toNat+i)
def snB (s:Sn):Prop:=(0≤s.at'∧s.at'≤65536)∧(1≤s.elem∧s.elem≤40000)∧(-mP≤s.ext∧s.ext≤mP)∧0 < s.pl.length∧s.pl.length≤40000∧∀ p∈s.pl,-2000000≤p∧p≤2000000
def vsF (s:Sn) (c:AV):Fr:=[(3,.cptr [iv s.at',iv s.elem,iv s.ext,.list 1 (inR s.pl)]),(6,.ptr 0 0 0 0),(7,.ptr 1 0 0 0),(8,.ptr 2 0 0 0),(19,c)]
def vsE (x:Blk):Heap:=[[.cells 1 [[.sc (.slice none 0 0)]]],[.cells 1 [[bv false]]],[.cells 1 [[.sc (.slice none 0 0)]]],[x]]
def vsI (out:List Int) (x:Blk):Heap:=[[.cells 1 [[.sc (.slice none 0 0)]]],[.cells 1 [[bv false]]],[.cells 1 [[.hsl 4 0 0 out.length]]],[x],[.cells 1 (inR out)]]
def vsJ (out:List Int) (x:Blk):Heap:=[[.cells 1 [[.sc (.slice none 0 0)]]],[.cells 1 [[bv false]]],[.cells 1 [[.hsl 5 0 0 out.length]]],[x],[.dead],[.cells 1 (inR out)]]
def vsD (x:Blk):Heap:=[[.cells 1 [[.sc (.slice none 0 0)]]],[.cells 1 [[bv false]]],[.dead],[x],[.dead]]
def vsN (x:Blk):Heap:=[[.cells 1 [[.sc (.slice none 0 0)]]],[.cells 1 [[bv false]]],[.dead],[x]]
noncomputable def MD:bJ:=hG [1,1,1,0,1,0] F64.code
theorem N1 {T:AV→AV→Prop} {ρ:Nat→Nat→Option (Nat×Nat)} {s:Sn} {c:AV} {L:LC} {st:LoopState} {pe:Option Code} (hc:PV c) (r0:ρ 0 0=some (0,0)) (r1:ρ 1 0=some (1,0)) (r2:ρ 2 0=some (2,0)):ToB T ρ (.lp L (vsF s c) st pe) (.lp L (vsF s c) st pe):=by
 refine ToB.lp _ _ _ _ _ fun x hx=>?_
 simp only[vsF,List.mem_cons,List.not_mem_nil,or_false] at hx
 rcases hx with rfl | rfl | rfl | rfl | rfl
 ·exact To.pure (pv (AV.cptr [iv s.at',iv s.elem,iv s.ext,.list 1 (inR s.pl)]))
 ·exact To.ptrO r0 rfl rfl
 ·exact To.ptrO r1 rfl rfl
 ·exact To.ptrO r2 rfl rfl
 ·exact To.pure hc.out
set_option maxHeartbeats 1000000 in
theorem KC {L:LC} {s:Sn} {c:AV} (hc:PV c) (hL:LOK Tryz.prog F64.n L [20] (rfA MD) (rfB MD)) (out:List Int) (p:Int) (ho:out.length≤1000000):
  cZ Tryz.prog 3 0 [iv p] (vsI out (.lp L (vsF s c) .ready none)) fun b H'=>(b=true∧p < 65536∧H'=vsJ (out++[p]) (.lp L (vsF s c) .ready none))∨(b=false∧65536≤p∧H'=vsD (.lp L (vsF s c) .done (some .ret))):=by
 refine fI.g ?_
 refine⟨L,_,_,_,_,_,hL,rfl,rfl,?_⟩
 show AWP _ _ _ (.region _) _ _ _
 have hlp:∀(T:AV→AV→Prop) (ρ:Nat→Nat→Option (Nat×Nat)) (st:LoopState) (pe:Option Code),ρ 0 0=some (0,0)→ρ 1 0=some (1,0)→ρ 2 0=some (2,0)→ToB T ρ (.lp L (vsF s c) st pe) (.lp L (vsF s c) st pe):=fun T ρ st pe=>N1 hc
 obtain⟨caps,hcaps⟩:∃ caps,caps=vsF s c:=⟨_,rfl⟩
 rw[← hcaps] at hlp ⊢
 rw[show putL caps ([20].zip [iv p])=(20,iv p)::vsF s c by rw[hcaps]; rfl]
 unfold vsF
 have hol:=bX out
 refine aA ?_
 refine⟨rfl,caps,rfl,?_⟩
 show AWP _ _ _ (.block 1 _) _ _ _
 refine AWP.fin ?_
 refine aA ?_
 refine AWP.condN (65536≤p) rfl rfl (fun h=>?_) (fun h=>?_)
 ·refine aA ?_
  refine⟨[],vsD (.lp L caps .busy none),?_,caps,rfl,.inr ⟨rfl,h,rfl⟩⟩
  exact Sub.wl [] [[(0,0)],[(1,0)],[(2,0)],[(3,0)],[(4,0)]]
 ·refine aA ?_
  refine⟨[],vsJ (out++[p]) (.lp L caps .busy none),?_,caps,rfl,.inl ⟨rfl,by omega,rfl⟩⟩
  unfold vsJ
  rw[List.length_append]
  have hz9:inR out++[[iv p]]=inR (out++[p]):=by simp[inR]
  exact Sub.wl [] [[(0,0)],[(1,0)],[(2,0)],[(3,0)],[(4,0)],[(6,0)]]
set_option maxHeartbeats 1000000 in
theorem BU {L:LC} {s:Sn} {c:AV} {off n:Nat} (hc:PV c) (hL:LOK Tryz.prog F64.n L [20] (rfA MD) (rfB MD)) (hs:snB s) (hn:n≤5000) (ho:0 < n→off≤65536) (_hop:off < 9223372036854775808):
  aF Tryz.prog 154 [.yld 3 0,.cptr [iv n],.cptr [iv off],.cptr [iv s.at',iv s.elem,iv s.ext,.list 1 (inR s.pl)]] (vsE (.lp L (vsF s c) .ready none)) fun _ H'=>
   ((∀ p∈iB s off n,p < 65536)∧H'=vsI (iB s off n) (.lp L (vsF s c) .ready none))∨(¬ (∀ p∈iB s off n,p < 65536)∧H'=vsN (.lp L (vsF s c) .done (some .ret))):=by
 have hlp:∀(T:AV→AV→Prop) (ρ:Nat→Nat→Option (Nat×Nat)) (st:LoopState) (pe:Option Code),ρ 0 0=some (0,0)→ρ 1 0=some (1,0)→ρ 2 0=some (2,0)→ToB T ρ (.lp L (vsF s c) st pe) (.lp L (vsF s c) st pe):=fun T ρ st pe=>N1 hc
 obtain⟨⟨s1,s2⟩,⟨s3,s4⟩,⟨s5,s6⟩,s7,s8,s9⟩:=hs
 unfold mP at s5 s6
 have hil:=bX s.pl
 obtain⟨E,hE⟩:∃ E:Nat,s.elem=E:=⟨s.elem.toNat,by omega⟩
 have hgi:∀ i,i < n→(iB s off n)[i]?=some (eP s (off * E+i)):=fun i hi=>by
  unfold iB
  rw[hE]
  simp[hi]
 have hvl:(iB s off n).length=n:=by simp[iB]
 generalize hvv:iB s off n=vv at *
 rw[hE]
 refine aF.of MK ?_ (nlB rfl)
 refine aA ?_
 refine AWP.loop (fun i:Nat=>[(0,.yld 3 0),(1,.cptr [iv n]),(2,.cptr [iv off]),(3,.cptr [iv s.at',iv E,iv s.ext,.list 1 (inR s.pl)]),(7,iv n),(8,iv i)]) (fun i=>vsI (vv.take i) (.lp L (vsF s c) .ready none)) (fun i=>i≤n∧∀ p∈vv.take i,p < 65536) (fun i=>n - i) 0 ⟨Nat.zero_le _,fun p hp=>by simp at hp⟩ ?_ ?_
 ·rw[show vv.take 0=[] from rfl]
  exact Sub.wl [1] [[(0,0)],[(1,0)],[(2,0)],[(3,0)],[(4,0)]]
 rintro i ⟨hi,hin⟩
 refine cK ?_
 refine AWP.condN (i < n) rfl rfl (fun h=>?_) (fun h=>?_)
 ·have ho':=ho (by omega)
  have hg:=hgi i h
  have hoe:off * E≤65536 * 40000:=Nat.mul_le_mul ho' (by omega)
  have hp0:eP s (off * E+i)=s.at'+(((off * E+i) / s.pl.length:Nat):Int) * s.ext+s.pl.getD ((off * E+i) % s.pl.length) 0:=rfl
  have hkm:(off * E+i) % s.pl.length < s.pl.length:=Nat.mod_lt _ s7
  have hr:=cR s.pl ((off * E+i) % s.pl.length) hkm
  have hpb:=s9 s.pl[(off * E+i) % s.pl.length] (List.getElem_mem _)
  have hgd:s.pl.getD ((off * E+i) % s.pl.length) 0=s.pl[(off * E+i) % s.pl.length]:=by simp[hkm]
  rw[hgd] at hp0
  generalize s.pl[(off * E+i) % s.pl.length]=pv' at *
  have hq:(off * E+i) / s.pl.length≤off * E+i:=Nat.div_le_self _ _
  obtain⟨Q,hQ⟩:∃ Q,Q=(off * E+i) / s.pl.length:=⟨_,rfl⟩
  rw[← hQ] at hq hp0
  have hmu:=tY (a:=(Q:Int)) (b:=s.ext) (A:=2621445000) (B:=1048576) (by omega) (by omega) s5 s6
  have htl:(vv.take i).length≤1000000:=by rw[List.length_take]; omega
  have htk:vv.take (i+1)=vv.take i++[eP s (off * E+i)]:=by rw[List.take_add_one,hg]; rfl
  refine cK ?_
  refine AWP.dky 22 [(0,.yld 3 0),(1,.cptr [iv n]),(2,.cptr [iv off]),(3,.cptr [iv s.at',iv E,iv s.ext,.list 1 (inR s.pl)]),(7,iv n),(8,iv i),(17,.yld 3 0),(38,iv (eP s (off * E+i)))] (vsI (vv.take i) (.lp L (vsF s c) .ready none)) mixed rfl rfl (by kernel_rfl) (by kernel_rfl) (by kernel_rfl) ?_ ?_
  ·refine aA ?_
   rw[hil]
   refine aA ?_
   rw[← hQ,Av.wrap_small (show -9223372036854775808≤(Q:Int) * s.ext by omega) (by omega),Av.wrap_small (show -9223372036854775808≤s.at'+(Q:Int) * s.ext by omega) (by omega),Av.wrap_small (show -9223372036854775808≤s.at'+(Q:Int) * s.ext+pv' by omega) (by omega)]
   refine DK.nil ⟨by kernel_rfl,?_⟩
   rw[← hp0]
   exact Sub.wl [] [[(0,0)],[(1,0)],[(2,0)],[(3,0)],[(4,0)]]
  ·refine⟨rfl,nlB rfl,3,0,rfl,?_⟩
   refine(KC hc hL (vv.take i) (eP s (off * E+i)) htl).mono ?_
   generalize eP s (off * E+i)=p at *
   rintro b' H' (⟨rfl,hlt,rfl⟩ | ⟨rfl,hge,rfl⟩)
   ·refine aA ?_
    refine DK.nil ⟨by kernel_rfl,?_⟩
    refine aA ?_
    refine⟨i+1,⟨by omega,fun q hq=>?_⟩,by omega,?_⟩
    ·rw[htk] at hq
     rcases List.mem_append.1 hq with hq | hq
     ·exact hin q hq
     ·rw[List.mem_singleton.1 hq]; exact hlt
    rw[htk]
    exact Sub.wl [] [[(0,0)],[(1,0)],[(2,0)],[(3,0)],[(5,0)]]
   ·refine aA ?_
    refine DK.nil ⟨by kernel_rfl,?_⟩
    refine aA ?_
    refine iH (res':=.tup []) (H2:=vsN (.lp L (vsF s c) .done (some .ret))) [[(0,0)],[(1,0)],[(2,0)],[(3,0)]] (.inr rfl) rfl (.inr ⟨fun hall=>?_,rfl⟩) ?_ ?_ rfl rfl rfl
    ·have:=hall p (List.mem_of_getElem? hg)
     omega
    (all_goals exact gR)
    all_goals first | exact hlp _ _ _ _ rfl rfl rfl | exact .yld _ _ _ _ rfl | exact .dead _
 ·obtain rfl:n=i:=by omega
  rw[List.take_of_length_le (by omega)] at hin ⊢
  refine aA ?_
  refine iH (res':=.tup []) [[(0,0)],[(1,0)],[(2,0)],[(3,0)],[(4,0)]] (.inl rfl) rfl (.inl ⟨hin,rfl⟩) ?_ ?_ rfl rfl rfl
  (all_goals exact gR)
  all_goals first | exact hlp _ _ _ _ rfl rfl rfl | exact .yld _ _ _ _ rfl | exact .dead _
instance (s:Sn):PR (snR s):=⟨by unfold snR; exact pr _⟩
def okV (l:List Int):Bool:=l.all fun p=>decide (p < 65536)
def kD (s:Sn) (off n:Nat):List Int×Bool:=if 0 < n∧65536 < off then([],false) else if okV (iB s off n)=true then(iB s off n,true) else([],false)
theorem wV {l:List Int}:okV l=true↔∀ p∈l,p < 65536:=by simp[okV]
def mkV (s:Sn) (off n:Nat):AV:=.clo (.func 154) [] [.cptr [iv n],.cptr [iv off],.cptr [iv s.at',iv s.elem,iv s.ext,.list 1 (inR s.pl)]]
theorem A7 (s:Sn) (off n:Nat):aB Tryz.prog 126 [.agg [iv s.at',iv s.elem,iv s.ext,.list 1 (inR s.pl)],iv off,iv n] (mkV s off n):=by
 refine aB.mkI (hX:=by unfold mkV; infer_instance) MR (nlB rfl) ?_
 unfold mkV
 refine aA ?_
 exact aJ.w
set_option maxHeartbeats 1000000 in
theorem vM {s:Sn} {off n:Nat} (hs:snB s) (hn:n≤5000) (hop:off < 9223372036854775808) (ho:0 < n→off≤65536) (r:List Int×Bool) (hr:r=if okV (iB s off n)=true then(iB s off n,true) else([],false)):
  AWP Tryz.prog F64.n 0 (hG [1,1] F64.code) (aJ F64.res (.tup [.list 1 (inR r.1),bv r.2])) [(1,iv off),(2,iv n),(3,.cptr [iv s.at',iv s.elem,iv s.ext,.list 1 (inR s.pl)]),(6,.ptr 0 0 0 0),(7,.ptr 1 0 0 0)] [[.cells 1 [[.sc (.slice none 0 0)]]],[.cells 1 [[bv false]]]]:=by
 have hv:=A7 s off n
 unfold mkV at hv
 show AWP _ _ _ (.seq _ _) _ _ _
 refine aA ?_
 refine AWP.sub (fr':=vsF s (mkV s off n)) (H':=[[.cells 1 [[.sc (.slice none 0 0)]]],[.cells 1 [[bv false]]],[.cells 1 [[.sc (.slice none 0 0)]]]]) ?_ ?_
 ·unfold vsF mkV
  exact Sub.wl [] [[(0,0)],[(1,0)],[(2,0)]]
 refine AWP.rangeF (g:=154) (fs:=[]) (cs:=[.cptr [iv n],.cptr [iv off],.cptr [iv s.at',iv s.elem,iv s.ext,.list 1 (inR s.pl)]]) rfl (Nat.zero_le _) rfl fun L hL=>?_
 refine(BU (by unfold mkV; infer_instance) hL hs hn ho hop).mono ?_
 rintro res H' (⟨hall,rfl⟩ | ⟨hno,rfl⟩)
 ·rw[if_pos (wV.2 hall)] at hr
  subst hr
  refine⟨_,_,none,rfl,by decide,?_⟩
  have hol:=bX (iB s off n)
  unfold vsF
  refine aA ?_
  exact aJ.w
 ·rw[if_neg (fun q=>hno (wV.1 q))] at hr
  subst hr
  refine⟨_,_,some .ret,rfl,by decide,?_⟩
  rw[show inR (([],false):List Int×Bool).1=[] from rfl]
  unfold vsF
  exact aJ.w
set_option maxHeartbeats 1000000 in
theorem KY {s:Sn} {off n:Nat} (hs:snB s) (hn:n≤5000) (hop:off < 9223372036854775808):aB Tryz.prog 64 [.agg [iv s.at',iv s.elem,iv s.ext,.list 1 (inR s.pl)],iv off,iv n] (.tup [.list 1 (inR (kD s off n).1),bv (kD s off n).2]):=by
 refine aB.mkI cF64 (nlB rfl) ?_
 refine aA ?_
 by_cases h0:0 < n
 ·rw[dTr h0]
  refine aA ?_
  refine AWP.condN (65536 < off) rfl rfl (fun h=>?_) (fun h=>?_)
  ·rw[show kD s off n=([],false) from if_pos ⟨h0,h⟩,show inR (([],false):List Int×Bool).1=[] from rfl]
   refine aA ?_
   exact aJ.w
  ·refine AWP.skip ?_
   refine AWP.sub ?_ (vM hs hn hop (fun _=>by omega) (kD s off n) (by unfold kD; rw[if_neg (by omega)]))
   exact Sub.wl [] [[(1,0)],[(2,0)]]
 ·rw[dFa h0]
  refine sJ ?_
  refine AWP.condF rfl ?_
  refine AWP.skip ?_
  refine AWP.sub ?_ (vM hs hn hop (fun q=>absurd q h0) (kD s off n) (by unfold kD; rw[if_neg (by omega)]))
  exact Sub.wl [] [[(1,0)],[(2,0)]]
theorem xL {a:Int} {e o:Ty} (he:bA 3 e=true) (ho:bA 3 o=true) (h:(gX a e o).1=0):snB (gX a e o).2:=by
 have h1:=f9 (aG 3 e).2.es
 have h2:=pF he
 have h3:=f9 (aG 3 o).2.es
 have h4:=pF ho
 have h5:=mS (aG 3 o).2.es
 unfold gX at h ⊢
 by_cases c1:a < 0∨65536 < a
 ·rw[if_pos c1] at h; cases h
 rw[if_neg c1] at h ⊢
 by_cases c2:(aG 3 e).1≠0
 ·rw[if_pos c2] at h; exact absurd h c2
 rw[if_neg c2] at h ⊢
 by_cases c3:(aG 3 o).1≠0
 ·rw[if_pos c3] at h; exact absurd h c3
 rw[if_neg c3] at h ⊢
 have hB:=dU 3 o ho (Decidable.byContradiction c3)
 by_cases c4:rJ (cI (aG 3 o).2.es) (aG 3 o).2.ext=true
 ·rw[if_pos c4] at h ⊢
  by_cases c5:IQ (bK (aG 3 e).2.es) (bK (aG 3 o).2.es)=true
  ·rw[if_pos c5]
   unfold IQ at c5
   simp only[Bool.and_eq_true,decide_eq_true_eq] at c5
   exact⟨⟨by show 0≤a; omega,by show a≤_; omega⟩,⟨by show(1:Int)≤(bK (aG 3 e).2.es:Nat); omega,by show((bK (aG 3 e).2.es:Nat):Int)≤_; omega⟩,⟨hB.2.2.2.2.1,hB.2.2.2.2.2.1⟩,by show 0 < (cI (aG 3 o).2.es).length; omega,by show(cI (aG 3 o).2.es).length≤_; omega,NL _ hB.2.2.2.2.2.2.2.2⟩
  ·rw[if_neg c5] at h; cases h
 ·rw[if_neg c4] at h; cases h
set_option maxRecDepth 100000
abbrev kF (d s:Nat):IOper:=⟨some d,none,.op (.move (.tmp s))⟩
def F12:IFun:=⟨13,(.seq (.region [⟨some 1,none,.op (.box (.tmp 0))⟩,⟨some 2,none,.op (.alloc [(5,(.int .i64 0)),(4,(.slice none 0 0)),(4,(.int .i64 0)),(4,(.slice none 0 0))])⟩,⟨some 3,none,.op (.move (.const (.bool false)))⟩]) (.seq (.draw [⟨some 4,none,.op (.load 17 true (.tmp 1))⟩,⟨some 5,none,.op (.fieldAddr 1 (.tmp 1))⟩,⟨some 6,none,.op (.load 8 true (.tmp 5))⟩,⟨some 7,none,(.call 19 [(.tmp 6),(.const (.int .i64 3))])⟩,kF 8 7,⟨some 9,some (8,true),.op (.fieldAddr 9 (.tmp 1))⟩,⟨some 10,some (8,true),.op (.load 8 true (.tmp 9))⟩,⟨some 11,some (8,true),(.call 19 [(.tmp 10),(.const (.int .i64 3))])⟩,⟨some 12,none,.op (.pick (.tmp 8) (.tmp 11) (.const (.bool false)))⟩,⟨none,none,.op (.store 17 (.tmp 2) (.tmp 4))⟩,kF 3 12] [[],[],[1],[2],[3,3],[4],[5,4],[6,4,4],[4,7],[0,7,0],[8,9,0,1,2,3,4,5,6,7,8,9]]) .ret)),[(.cell 2 17 true),(.tmp 3)]⟩
theorem cF12:aO Tryz.prog 12=some F12:=by kernel_rfl
def F19:IFun:=⟨72,(.seq (.region [⟨some 2,none,.op (.box (.tmp 0))⟩,⟨some 4,none,.op (.move (.const (.bool false)))⟩]) (.seq (.seq (.region [kF 7 1,⟨some 8,none,.op (.bin .eql 3 (.tmp 7) (.const (.int .i64 0)))⟩,kF 9 8,⟨some 10,some (9,false),.op (.fieldAddr 7 (.tmp 2))⟩,⟨some 11,some (9,false),.op (.load 1 false (.tmp 10))⟩,⟨some 12,some (9,false),.op (.len (.tmp 11))⟩,⟨some 13,some (9,false),.op (.bin .gtr 3 (.tmp 12) (.const (.int .i64 3)))⟩,⟨some 14,none,.op (.pick (.tmp 9) (.const (.bool true)) (.tmp 13))⟩,kF 15 14,⟨some 16,some (15,false),.op (.fieldAddr 4 (.tmp 2))⟩,⟨some 17,some (15,false),.op (.load 1 false (.tmp 16))⟩,⟨some 18,some (15,false),.op (.len (.tmp 17))⟩,⟨some 19,some (15,false),.op (.bin .gtr 3 (.tmp 18) (.const (.int .i64 8)))⟩,⟨some 20,none,.op (.pick (.tmp 15) (.const (.bool true)) (.tmp 19))⟩,kF 21 20,⟨some 22,some (21,false),.op (.fieldAddr 5 (.tmp 2))⟩,⟨some 23,some (21,false),.op (.load 1 false (.tmp 22))⟩,⟨some 24,some (21,false),.op (.len (.tmp 23))⟩,⟨some 25,some (21,false),.op (.bin .gtr 3 (.tmp 24) (.const (.int .i64 8)))⟩,⟨some 26,none,.op (.pick (.tmp 21) (.const (.bool true)) (.tmp 25))⟩,kF 27 26,⟨some 28,some (27,false),.op (.fieldAddr 6 (.tmp 2))⟩,⟨some 29,some (27,false),.op (.load 1 false (.tmp 28))⟩,⟨some 30,some (27,false),.op (.len (.tmp 29))⟩,⟨some 31,some (27,false),.op (.bin .gtr 3 (.tmp 30) (.const (.int .i64 8)))⟩,⟨some 32,none,.op (.pick (.tmp 27) (.const (.bool true)) (.tmp 31))⟩,kF 33 32,⟨some 34,some (33,false),.op (.fieldAddr 1 (.tmp 2))⟩,⟨some 35,some (33,false),.op (.load 1 false (.tmp 34))⟩,⟨some 36,some (33,false),.op (.bin .gtr 3 (.tmp 35) (.const (.int .i64 16)))⟩,⟨some 37,none,.op (.pick (.tmp 33) (.const (.bool true)) (.tmp 36))⟩,kF 38 37,⟨some 39,some (38,false),.op (.fieldAddr 2 (.tmp 2))⟩,⟨some 40,some (38,false),.op (.load 1 false (.tmp 39))⟩,⟨some 41,some (38,false),.op (.bin .gtr 3 (.tmp 40) (.const (.int .i64 8)))⟩,⟨some 42,none,.op (.pick (.tmp 38) (.const (.bool true)) (.tmp 41))⟩]) (.cond (.tmp 42) (.seq (.region [⟨some 4,none,.op (.move (.const (.bool false)))⟩]) .ret) .skip)) (.seq (.seq (.region [⟨some 5,none,.op (.move (.const (.int .i64 0)))⟩]) (.block 0 (.loop (.seq (.seq (.region [kF 43 5,⟨some 44,none,.op (.fieldAddr 5 (.tmp 2))⟩,⟨some 45,none,.op (.load 1 false (.tmp 44))⟩,⟨some 46,none,.op (.len (.tmp 45))⟩,⟨some 47,none,.op (.bin .lss 3 (.tmp 43) (.tmp 46))⟩]) (.cond (.tmp 47) .skip (.exit 0))) (.seq (.block 1 (.seq (.region [⟨some 50,none,.op (.fieldAddr 5 (.tmp 2))⟩,⟨some 51,none,.op (.load 1 false (.tmp 50))⟩,kF 52 5,⟨some 53,none,.op (.idxSl 1 (.tmp 51) (.tmp 52))⟩,⟨some 54,none,.op (.load 1 false (.tmp 53))⟩,⟨some 55,none,.op (.bin .gtr 3 (.tmp 54) (.const (.int .i64 16)))⟩]) (.cond (.tmp 55) (.seq (.region [⟨some 4,none,.op (.move (.const (.bool false)))⟩]) .ret) .skip))) (.region [kF 48 5,⟨some 49,none,.op (.bin .add 3 (.tmp 48) (.const (.int .i64 1)))⟩,kF 5 49])))))) (.seq (.seq (.region [⟨some 6,none,.op (.move (.const (.int .i64 0)))⟩]) (.block 2 (.loop (.seq (.seq (.region [kF 56 6,⟨some 57,none,.op (.fieldAddr 7 (.tmp 2))⟩,⟨some 58,none,.op (.load 1 false (.tmp 57))⟩,⟨some 59,none,.op (.len (.tmp 58))⟩,⟨some 60,none,.op (.bin .lss 3 (.tmp 56) (.tmp 59))⟩]) (.cond (.tmp 60) .skip (.exit 2))) (.seq (.block 3 (.seq (.region [⟨some 63,none,.op (.fieldAddr 7 (.tmp 2))⟩,⟨some 64,none,.op (.load 1 false (.tmp 63))⟩,kF 65 6,⟨some 66,none,.op (.idxSl 8 (.tmp 64) (.tmp 65))⟩,⟨some 67,none,.op (.load 8 true (.tmp 66))⟩,kF 68 1,⟨some 69,none,.op (.bin .sub 3 (.tmp 68) (.const (.int .i64 1)))⟩,⟨some 70,none,(.call 19 [(.tmp 67),(.tmp 69)])⟩,⟨some 71,none,.op (.un .not (.tmp 70))⟩]) (.cond (.tmp 71) (.seq (.region [⟨some 4,none,.op (.move (.const (.bool false)))⟩]) .ret) .skip))) (.region [kF 61 6,⟨some 62,none,.op (.bin .add 3 (.tmp 61) (.const (.int .i64 1)))⟩,kF 6 62])))))) (.seq (.region [⟨some 4,none,.op (.move (.const (.bool true)))⟩]) .ret))))),[(.tmp 4)]⟩
theorem cF19:aO Tryz.prog 19=some F19:=by kernel_rfl
set_option maxRecDepth 20000
theorem CX {a:Int} {e o:Ty}:PV (.agg (vwR a e o)):=by unfold vwR; infer_instance
set_option maxHeartbeats 2000000 in
theorem sL:∀(n:Nat) (t:Ty),n≤100→kQ n t→aB Tryz.prog 19 [.agg (tyR t),iv n] (bv (bA n t))
 | 0,t,_,_=>by
  rw[show bA 0 t=false by cases t<;>rfl]
  refine aB.mkI cF19 (nlB rfl) ?_
  cases t with
  | mk=>
   rw[tyR]
   refine aA ?_
   exact aJ.w
  | raw=>
   rw[tyR]
   refine aA ?_
   exact aJ.w
 | n+1,.raw ..,_,h=>h.elim
 | n+1,.mk k c b st sz bl pl of,hn,hk=>by
  have ih:∀ u∈of,aB Tryz.prog 19 [.agg (tyR u),iv n] (bv (bA n u)):=fun u hu=>sL n u (by omega) (hk u hu)
  have l1:=bX sz
  have l2:=bX bl
  have l3:=bX pl
  have l4:=nA of
  refine aB.mkI cF19 (nlB rfl) ?_
  obtain⟨r,hr⟩:∃ r,r=bA (n+1) (.mk k c b st sz bl pl of):=⟨_,rfl⟩
  rw[← hr]
  rw[bA] at hr
  rw[tyR]
  refine aA ?_
  rw[l4]
  by_cases h1:3 < of.length
  ·rw[dTr h1,show r=false by rw[hr]; simp[show¬ of.length≤3 by omega]]
   refine aA ?_
   exact aJ.w
  rw[dFa h1]
  refine aA ?_
  rw[l1]
  by_cases h2:8 < sz.length
  ·rw[dTr h2,show r=false by rw[hr]; simp[show¬ sz.length≤8 by omega]]
   refine aA ?_
   exact aJ.w
  rw[dFa h2]
  refine aA ?_
  rw[l2]
  by_cases h3:8 < bl.length
  ·rw[dTr h3,show r=false by rw[hr]; simp[show¬ bl.length≤8 by omega]]
   refine aA ?_
   exact aJ.w
  rw[dFa h3]
  refine aA ?_
  rw[l3]
  by_cases h4:8 < pl.length
  ·rw[dTr h4,show r=false by rw[hr]; simp[show¬ pl.length≤8 by omega]]
   refine aA ?_
   exact aJ.w
  rw[dFa h4]
  refine aA ?_
  by_cases h5:c > 16
  ·rw[dTr h5,show r=false by rw[hr]; simp[show¬ c≤16 by omega]]
   refine aA ?_
   exact aJ.w
  rw[dFa h5]
  refine aA ?_
  refine AWP.condN (8 < b) rfl rfl (fun h6=>?_) (fun h6=>?_)
  ·rw[show r=false by rw[hr]; simp[show¬ b≤8 by omega]]
   refine aA ?_
   exact aJ.w
  refine aA ?_
  refine AWP.loop (fun i:Nat=>[(1,iv (n+1:Nat)),(2,.cptr [iv k,iv c,iv b,iv st,.list 1 (inR sz),.list 1 (inR bl),.list 1 (inR pl),.list 8 (aD of)]),(5,iv i)]) (fun _=>[]) (fun i=>i≤bl.length∧∀ j (h:j < bl.length),j < i→bl[j]≤16) (fun i=>bl.length - i) 0 ⟨Nat.zero_le _,fun j _ hj=>by omega⟩ ?_ ?_
  ·exact Sub.wl [] []
  rintro i ⟨hi,hin⟩
  refine aA ?_
  rw[l2]
  refine AWP.condN (i < bl.length) rfl rfl (fun h7=>?_) (fun h7=>?_)
  ·have r1:=cR bl i h7
   refine aA ?_
   refine AWP.condN (16 < bl[i]) rfl rfl (fun h8=>?_) (fun h8=>?_)
   ·rw[show r=false by
     rw[hr,show(bl.all fun x=>decide (x≤16))=false from List.all_eq_false.2 ⟨bl[i],List.getElem_mem _,by simp; omega⟩]
     simp]
    refine aA ?_
    exact aJ.w
   ·refine aA ?_
    refine⟨i+1,⟨by omega,fun j hj hji=>?_⟩,by omega,?_⟩
    ·by_cases e:j=i
     ·subst e; omega
     ·exact hin j hj (by omega)
    (refine Sub.keep ?_; repeat' (first | exact trivial | exact Le.refl _ | refine⟨?_,?_⟩))
  ·obtain rfl:bl.length=i:=by omega
   have hba:(bl.all fun x=>decide (x≤16))=true:=List.all_eq_true.2 fun x hx=>by
    obtain⟨j,hj,rfl⟩:=List.getElem_of_mem hx
    simpa using hin j hj hj
   rw[hba,dTr (show of.length≤3 by omega),dTr (show sz.length≤8 by omega),dTr (show bl.length≤8 by omega),dTr (show pl.length≤8 by omega),dTr (show c≤16 by omega),dTr (show b≤8 by omega)] at hr
   replace hr:r=of.all (bA n):=by simpa using hr
   refine aA ?_
   refine AWP.loop (fun i:Nat=>[(1,iv (n+1:Nat)),(2,.cptr [iv k,iv c,iv b,iv st,.list 1 (inR sz),.list 1 (inR bl),.list 1 (inR pl),.list 8 (aD of)]),(6,iv i)]) (fun _=>[]) (fun i=>i≤of.length∧∀ j (h:j < of.length),j < i→bA n of[j]=true) (fun i=>of.length - i) 0 ⟨Nat.zero_le _,fun j _ hj=>by omega⟩ ?_ ?_
   ·(refine Sub.keep ?_; repeat' (first | exact trivial | exact Le.refl _ | refine⟨?_,?_⟩))
   rintro i ⟨hi,hin⟩
   refine aA ?_
   rw[l4]
   refine AWP.condN (i < of.length) rfl rfl (fun h7=>?_) (fun h7=>?_)
   ·have r1:=wT of i h7
    have hu:=ih of[i] (List.getElem_mem _)
    have hn1:IntKind.i64.wrap (((n+1:Nat):Int) - 1)=(n:Int):=by rw[Av.wrap_small (by omega) (by omega)]; omega
    refine aA ?_
    refine Reg.o rfl (vV rfl (DP _)) ?_
    refine aA ?_
    cases hsm:bA n of[i] with
    | false=>
     rw[show r=false by rw[hr]; exact List.all_eq_false.2 ⟨of[i],List.getElem_mem _,by simp[hsm]⟩]
     refine aA ?_
     exact aJ.w
    | true=>
     refine aA ?_
     refine⟨i+1,⟨by omega,fun j hj hji=>?_⟩,by omega,?_⟩
     ·by_cases e:j=i
      ·subst e; exact hsm
      ·exact hin j hj (by omega)
     (refine Sub.keep ?_; repeat' (first | exact trivial | exact Le.refl _ | refine⟨?_,?_⟩))
   ·obtain rfl:of.length=i:=by omega
    rw[show r=true by rw[hr]; exact List.all_eq_true.2 fun u hu=>by obtain⟨j,hj,rfl⟩:=List.getElem_of_mem hu; exact hin j hj hj]
    refine aA ?_
    exact aJ.w
theorem qV {pl:List Int} {ext:Int} (h:rJ pl ext=true) {i:Nat} (hi:i < pl.length):jL pl i < pl.getD i 0∧pl.getD i 0 < ext:=by
 have:=List.all_eq_true.1 h i (List.mem_range.2 hi)
 simpa using this
theorem sU {s:Sn} (h:rJ s.pl s.ext=true) (hl:0 < s.pl.length) (k:Nat):eP s k < eP s (k+1):=by
 unfold eP
 have hm:=Nat.mod_lt k hl
 have hd:=Nat.div_add_mod k s.pl.length
 generalize hr:k % s.pl.length=r at *
 generalize hq:k / s.pl.length=q at *
 by_cases h1:r+1 < s.pl.length
 ·have e1:(k+1) / s.pl.length=q:=by
   rw[← hd,Nat.add_assoc,Nat.mul_add_div hl,Nat.div_eq_of_lt h1,Nat.add_zero]
  have e2:(k+1) % s.pl.length=r+1:=by
   rw[← hd,Nat.add_assoc,Nat.mul_add_mod,Nat.mod_eq_of_lt h1]
  rw[e1,e2]
  have:=(qV h h1).1
  unfold jL at this
  rw[if_neg (by omega),Nat.add_sub_cancel] at this
  omega
 ·have hr1:r+1=s.pl.length:=by omega
  have hk1:k+1=s.pl.length * (q+1):=by rw[Nat.mul_succ]; omega
  have e1:(k+1) / s.pl.length=q+1:=by rw[hk1,Nat.mul_div_cancel_left _ hl]
  have e2:(k+1) % s.pl.length=0:=by rw[hk1,Nat.mul_mod_right]
  rw[e1,e2]
  have g1:=(qV h hl).1
  have g2:=(qV h hm).2
  unfold jL at g1
  rw[if_pos rfl] at g1
  have e3:((q+1:Nat):Int) * s.ext=(q:Int) * s.ext+s.ext:=by
   rw[Int.natCast_add,Int.add_mul]
   simp
  rw[e3]
  omega
theorem HG {a:Int} {e o:Ty} (h:(gX a e o).1=0):rJ (gX a e o).2.pl (gX a e o).2.ext=true∧(gX a e o).2.pl.length=bK (aG 3 o).2.es∧(gX a e o).2.ext=(aG 3 o).2.ext∧(aG 3 o).1=0:=by
 unfold gX at h ⊢
 by_cases c1:a < 0∨65536 < a
 ·rw[if_pos c1] at h; cases h
 rw[if_neg c1] at h ⊢
 by_cases c2:(aG 3 e).1≠0
 ·rw[if_pos c2] at h; exact absurd h c2
 rw[if_neg c2] at h ⊢
 by_cases c3:(aG 3 o).1≠0
 ·rw[if_pos c3] at h; exact absurd h c3
 rw[if_neg c3] at h ⊢
 by_cases c4:rJ (cI (aG 3 o).2.es) (aG 3 o).2.ext=true
 ·rw[if_pos c4] at h ⊢
  by_cases c5:IQ (bK (aG 3 e).2.es) (bK (aG 3 o).2.es)=true
  ·rw[if_pos c5]
   exact⟨c4,mS _,rfl,Decidable.byContradiction c3⟩
  ·rw[if_neg c5] at h; cases h
 ·rw[if_neg c4] at h; cases h
set_option maxRecDepth 100000
abbrev aE (d s:Nat):IOper:=⟨some d,none,.op (.move (.tmp s))⟩
abbrev cV (d s:Nat):IOper:=⟨some d,none,.op (.load 1 false (.tmp s))⟩
abbrev cY (d z s i:Nat):IOper:=⟨some d,none,.op (.idxSl z (.tmp s) (.tmp i))⟩
abbrev iE (d k s:Nat):IOper:=⟨some d,none,.op (.fieldAddr k (.tmp s))⟩
abbrev eD (d:Nat) (n:Int):IOper:=⟨some d,none,.op (.move (.const (.int .i64 n)))⟩
abbrev eW (d s:Nat):IOper:=⟨some d,none,.op (.len (.tmp s))⟩
abbrev eU (d:Nat) (o:BinOp) (k s:Nat) (n:Int):IOper:=⟨some d,none,.op (.bin o k (.tmp s) (.const (.int .i64 n)))⟩
abbrev iN (d s n:Nat):IOper:=⟨some d,none,.op (.extract (.tmp s) n)⟩
abbrev cT (d c:Nat) (b:Bool) (s:Nat):IOper:=⟨some d,some (c,b),.op (.move (.tmp s))⟩
def F141:IFun:=⟨48,(.seq (.region [⟨some 1,none,.op (.box (.tmp 0))⟩,⟨some 2,none,.op (.move (.const (.slice none 0 0)))⟩,eD 3 0]) (.seq (.region [iE 9 0 1,⟨some 10,none,.op (.load 17 true (.tmp 9))⟩,⟨some 11,none,(.call 63 [(.tmp 10)])⟩,aE 8 11,iN 12 8 0,iN 13 8 1,⟨some 4,none,.op (.alloc [(3,(.int .i64 0)),(1,(.slice none 0 0))])⟩,⟨none,none,.op (.store 4 (.tmp 4) (.tmp 12))⟩,aE 5 13]) (.seq (.block 0 (.seq (.region [aE 15 5,eU 16 .neq 33 15 0,aE 14 16]) (.cond (.tmp 14) (.seq (.region [aE 17 5,⟨some 2,none,.op (.move (.const (.slice none 0 0)))⟩,aE 3 17]) .ret) (.seq (.region [iE 19 17 1,cV 20 19,eU 21 .lss 3 20 0,aE 18 21]) (.cond (.tmp 18) (.seq (.region [⟨some 2,none,.op (.move (.const (.slice none 0 0)))⟩,eD 3 3]) .ret) (.seq (.region [iE 23 18 1,cV 24 23,eW 25 24,iE 26 1 4,cV 27 26,⟨some 28,none,.op (.bin .rem 3 (.tmp 25) (.tmp 27))⟩,eU 29 .neq 3 28 0,aE 22 29]) (.cond (.tmp 22) (.seq (.region [⟨some 2,none,.op (.move (.const (.slice none 0 0)))⟩,eD 3 26]) .ret) (.seq (.region [iE 31 18 1,cV 32 31,eW 33 32,eU 34 .gtr 3 33 4096,aE 30 34]) (.cond (.tmp 30) (.seq (.region [⟨some 2,none,.op (.move (.const (.slice none 0 0)))⟩,eD 3 9]) .ret) .skip))))))))) (.seq (.region [⟨some 36,none,.op (.load 4 true (.tmp 4))⟩,iE 37 17 1,cV 38 37,iE 39 18 1,cV 40 39,eW 41 40,⟨some 42,none,(.call 64 [(.tmp 36),(.tmp 38),(.tmp 41)])⟩,aE 35 42,iN 43 35 0,iN 44 35 1,aE 6 43,aE 7 44]) (.seq (.seq (.region [aE 45 7,⟨some 46,none,.op (.un .not (.tmp 45))⟩]) (.cond (.tmp 46) (.seq (.region [⟨some 2,none,.op (.move (.const (.slice none 0 0)))⟩,eD 3 3]) .ret) .skip)) (.seq (.region [aE 47 6,aE 2 47,eD 3 0]) .ret)))))),[(.tmp 2),(.tmp 3)]⟩
theorem cF141:aO Tryz.prog 141=some F141:=by kernel_rfl
def F95:IFun:=⟨32,(.seq (.region [⟨some 2,none,.op (.move (.const (.slice none 0 0)))⟩,eD 3 0]) (.seq (.seq (.region [aE 9 0,eW 10 9,eU 11 .gtr 3 10 64]) (.cond (.tmp 11) (.seq (.region [⟨some 2,none,.op (.move (.const (.slice none 0 0)))⟩,eD 3 9]) .ret) .skip)) (.seq (.region [⟨some 4,none,.op (.move (.const (.slice none 0 0)))⟩]) (.seq (.seq (.region [aE 12 0,eW 13 12,eD 14 0]) (.block 0 (.loop (.seq (.region [⟨some 15,none,.op (.bin .lss 3 (.tmp 14) (.tmp 13))⟩]) (.seq (.cond (.tmp 15) .skip (.exit 0)) (.seq (.block 1 (.seq (.region [cY 16 19 12 14,⟨some 17,none,.op (.load 19 true (.tmp 16))⟩,⟨some 6,none,.op (.alloc [(5,(.int .i64 0)),(4,(.slice none 0 0)),(4,(.int .i64 0)),(4,(.slice none 0 0)),(1,(.int .i64 0)),(1,(.slice none 0 0))])⟩,⟨none,none,.op (.store 19 (.tmp 6) (.tmp 17))⟩]) (.seq (.region [⟨some 19,none,.op (.load 19 true (.tmp 6))⟩,⟨some 20,none,(.call 141 [(.tmp 19)])⟩,aE 18 20,iN 21 18 0,iN 22 18 1,aE 7 21,aE 8 22]) (.seq (.seq (.region [aE 23 8,eU 24 .neq 33 23 0]) (.cond (.tmp 24) (.seq (.region [aE 25 8,⟨some 2,none,.op (.move (.const (.slice none 0 0)))⟩,aE 3 25]) .ret) .skip)) (.region [aE 26 4,aE 27 7,⟨some 28,none,.op (.buildSlice 1 [(1,(.slice none 0 0))] 1 [(0,(.tmp 27))])⟩,⟨some 29,none,.op (.append 1 24 (.tmp 26) (.tmp 28))⟩,aE 4 29]))))) (.region [eU 30 .add 3 14 1,aE 14 30]))))))) (.seq (.region [aE 31 4,aE 2 31,eD 3 0]) .ret))))),[(.tmp 2),(.tmp 3)]⟩
theorem PF:aO Tryz.prog 95=some F95:=by kernel_rfl
def F32:IFun:=⟨165,(.seq (.region [⟨some 4,none,.op (.move (.const (.slice none 0 0)))⟩,eD 5 0]) (.seq (.region [aE 24 0,⟨some 25,none,(.call 95 [(.tmp 24)])⟩,aE 23 25,iN 26 23 0,iN 27 23 1,aE 6 26,aE 7 27]) (.seq (.block 0 (.seq (.region [aE 29 7,eU 30 .neq 33 29 0,aE 28 30]) (.cond (.tmp 28) (.seq (.region [aE 31 7,⟨some 4,none,.op (.move (.const (.slice none 0 0)))⟩,aE 5 31]) .ret) (.seq (.region [aE 33 1,eU 34 .lss 3 33 1,aE 35 34,cT 36 35 false 1,⟨some 37,some (35,false),.op (.bin .gtr 3 (.tmp 36) (.const (.int .i64 64)))⟩,⟨some 38,none,.op (.pick (.tmp 35) (.const (.bool true)) (.tmp 37))⟩,aE 32 38]) (.cond (.tmp 32) (.seq (.region [⟨some 4,none,.op (.move (.const (.slice none 0 0)))⟩,eD 5 3]) .ret) .skip))))) (.seq (.region [⟨some 39,none,.op .makeMap⟩,aE 8 39]) (.seq (.region [⟨some 9,none,.op (.move (.const (.slice none 0 0)))⟩]) (.seq (.seq (.region [aE 40 6,eW 41 40,eD 42 0]) (.block 1 (.loop (.seq (.region [⟨some 43,none,.op (.bin .lss 3 (.tmp 42) (.tmp 41))⟩]) (.seq (.cond (.tmp 43) .skip (.exit 1)) (.seq (.block 2 (.seq (.region [aE 44 42,cY 45 1 40 42,cV 46 45,aE 10 44,aE 11 46]) (.seq (.region [aE 47 11,eW 48 47,eD 49 0]) (.block 3 (.loop (.seq (.region [⟨some 50,none,.op (.bin .lss 3 (.tmp 49) (.tmp 48))⟩]) (.seq (.cond (.tmp 50) .skip (.exit 3)) (.seq (.block 4 (.seq (.region [aE 51 49,cY 52 1 47 49,cV 53 52,aE 12 51,aE 13 53]) (.seq (.seq (.region [aE 55 8,aE 56 13,⟨some 57,none,.op (.lookup (.sc (.int .u8 0)) .i64 (.tmp 55) (.tmp 56) true)⟩,aE 54 57,iN 58 54 0,iN 59 54 1,aE 14 58,aE 15 59]) (.seq (.region [aE 60 15,⟨some 61,none,.op (.un .not (.tmp 60))⟩]) (.cond (.tmp 61) (.region [aE 62 9,aE 63 13,⟨some 64,none,.op (.buildSlice 1 [(1,(.int .i64 0))] 1 [(0,(.tmp 63))])⟩,⟨some 65,none,.op (.append 1 8 (.tmp 62) (.tmp 64))⟩,aE 9 65]) .skip))) (.region [aE 66 8,aE 67 13,aE 68 0,aE 69 10,cY 70 19 68 69,iE 71 18 70,cV 72 71,aE 73 12,cY 74 1 72 73,cV 75 74,⟨none,none,.op (.mapUpdate .i64 (.tmp 66) (.tmp 67) (.tmp 75))⟩])))) (.region [eU 76 .add 3 49 1,aE 49 76]))))))))) (.region [eU 77 .add 3 42 1,aE 42 77]))))))) (.seq (.seq (.region [aE 78 9,eW 79 78,eU 80 .eql 3 79 0]) (.cond (.tmp 80) (.seq (.region [⟨some 4,none,.op (.move (.const (.slice none 0 0)))⟩,eD 5 0]) .ret) .skip)) (.seq (.region [aE 81 9,⟨some 82,none,(.call 96 [(.tmp 81)])⟩]) (.seq (.region [aE 83 9,⟨some 84,none,.op (.idxSl 1 (.tmp 83) (.const (.int .i64 0)))⟩,cV 85 84,aE 16 85]) (.seq (.region [aE 86 9,aE 87 9,eW 88 87,⟨some 89,none,.op (.bin .sub 3 (.tmp 88) (.const (.int .i64 1)))⟩,cY 90 1 86 89,cV 91 90,aE 92 16,⟨some 93,none,.op (.bin .sub 3 (.tmp 91) (.tmp 92))⟩,aE 94 1,⟨some 95,none,.op (.bin .add 3 (.tmp 93) (.tmp 94))⟩,aE 96 1,⟨some 97,none,.op (.bin .quo 3 (.tmp 95) (.tmp 96))⟩,aE 17 97]) (.seq (.region [⟨some 18,none,.op (.move (.const (.slice none 0 0)))⟩]) (.seq (.seq (.region [aE 98 9,eW 99 98,eD 100 0]) (.block 5 (.loop (.seq (.region [⟨some 101,none,.op (.bin .lss 3 (.tmp 100) (.tmp 99))⟩]) (.seq (.cond (.tmp 101) .skip (.exit 5)) (.seq (.block 6 (.seq (.region [cY 102 1 98 100,cV 103 102,aE 20 103]) (.seq (.region [aE 104 20,aE 105 16,⟨some 106,none,.op (.bin .sub 3 (.tmp 104) (.tmp 105))⟩,aE 107 17,⟨some 108,none,.op (.bin .quo 3 (.tmp 106) (.tmp 107))⟩,aE 109 18,eW 110 109,⟨some 111,none,.op (.bin .sub 3 (.tmp 110) (.const (.int .i64 1)))⟩,aE 21 108,aE 22 111]) (.seq (.draw [aE 112 22,eU 113 .geq 3 112 0,aE 114 113,cT 115 114 true 18,cT 116 114 true 22,⟨some 117,some (114,true),.op (.idxSl 3 (.tmp 115) (.tmp 116))⟩,⟨some 118,some (114,true),.op (.fieldAddr 0 (.tmp 117))⟩,⟨some 119,some (114,true),.op (.load 1 false (.tmp 118))⟩,cT 120 114 true 21,⟨some 121,some (114,true),.op (.bin .eql 3 (.tmp 119) (.tmp 120))⟩,⟨some 122,none,.op (.pick (.tmp 114) (.tmp 121) (.const (.bool false)))⟩,aE 123 122,cT 124 123 true 18,cT 125 123 true 22,⟨some 126,some (123,true),.op (.idxSl 3 (.tmp 124) (.tmp 125))⟩,⟨some 127,some (123,true),.op (.fieldAddr 1 (.tmp 126))⟩,⟨some 128,some (123,true),.op (.load 1 false (.tmp 127))⟩,cT 129 123 true 18,cT 130 123 true 22,⟨some 131,some (123,true),.op (.idxSl 3 (.tmp 129) (.tmp 130))⟩,⟨some 132,some (123,true),.op (.fieldAddr 2 (.tmp 131))⟩,⟨some 133,some (123,true),.op (.load 1 false (.tmp 132))⟩,⟨some 134,some (123,true),.op (.len (.tmp 133))⟩,⟨some 135,some (123,true),.op (.bin .add 3 (.tmp 128) (.tmp 134))⟩,cT 136 123 true 20,⟨some 137,some (123,true),.op (.bin .eql 3 (.tmp 135) (.tmp 136))⟩,⟨some 138,none,.op (.pick (.tmp 123) (.tmp 137) (.const (.bool false)))⟩] [[],[0],[1],[2],[2],[3,4,2],[5,2],[6,2],[2],[7,8,2],[2,9],[10,2],[11],[11],[12,13,11],[14,11],[15,11],[11],[11],[17,18,11],[19,11],[20,11],[21,11],[16,22,11],[11],[23,24,11],[11,25]]) (.cond (.tmp 138) (.draw [aE 139 18,aE 140 22,aE 141 18,aE 142 22,cY 143 3 141 142,iE 144 2 143,cV 145 144,aE 146 8,aE 147 20,⟨some 148,none,.op (.lookup (.sc (.int .u8 0)) .i64 (.tmp 146) (.tmp 147) false)⟩,⟨some 149,none,.op (.buildSlice 1 [(1,(.int .u8 0))] 1 [(0,(.tmp 148))])⟩,⟨some 150,none,.op (.append 1 1 (.tmp 145) (.tmp 149))⟩,cY 151 3 139 140,iE 152 2 151,⟨none,none,.op (.store 1 (.tmp 152) (.tmp 150))⟩] [[],[],[],[],[2,3],[4],[5],[],[],[7,8],[9],[6,10],[0,1,0,1,2,3,4,5,6,7,8,9,10,11],[12,0,1,2,3,4,5,6,7,8,9,10,11],[13,11,11,0,1,2,3,4,5,6,7,8,9,10,11]]) (.region [aE 153 18,aE 154 21,aE 155 20,aE 156 8,aE 157 20,⟨some 158,none,.op (.lookup (.sc (.int .u8 0)) .i64 (.tmp 156) (.tmp 157) false)⟩,⟨some 159,none,.op (.buildSlice 1 [(1,(.int .u8 0))] 1 [(0,(.tmp 158))])⟩,⟨some 160,none,.op (.build [(2,(.int .i64 0)),(1,(.slice none 0 0))] [(0,(1,(.tmp 154))),(1,(1,(.tmp 155))),(2,(1,(.tmp 159)))])⟩,⟨some 161,none,.op (.buildSlice 3 [(2,(.int .i64 0)),(1,(.slice none 0 0))] 1 [(0,(.tmp 160))])⟩,⟨some 162,none,.op (.append 3 40 (.tmp 153) (.tmp 161))⟩,aE 18 162])))))) (.region [eU 163 .add 3 100 1,aE 100 163]))))))) (.seq (.region [aE 164 18,aE 4 164,eD 5 0]) .ret))))))))))))),[(.tmp 4),(.tmp 5)]⟩
theorem cF32:aO Tryz.prog 32=some F32:=by kernel_rfl
def F36:IFun:=⟨125,(.seq (.region [⟨some 6,none,.op (.move (.const (.slice none 0 0)))⟩,eD 7 0]) (.seq (.region [aE 18 0,⟨some 19,none,(.call 95 [(.tmp 18)])⟩,aE 17 19,iN 20 17 0,iN 21 17 1,aE 8 20,aE 9 21]) (.seq (.seq (.region [aE 22 9,eU 23 .neq 33 22 0]) (.cond (.tmp 23) (.seq (.region [aE 24 9,⟨some 6,none,.op (.move (.const (.slice none 0 0)))⟩,aE 7 24]) .ret) .skip)) (.seq (.region [⟨some 25,none,.op (.makeSlice 1 1 [(1,(.int .u8 0))] (.const (.int .i64 65536)))⟩,aE 10 25]) (.seq (.region [aE 26 0,eW 27 26,⟨some 28,none,.op (.makeSlice 1 8 [(1,(.int .i64 0))] (.tmp 27))⟩,aE 11 28]) (.block 0 (.loop (.block 1 (.seq (.region [⟨some 12,none,.op (.move (.const (.slice none 0 0)))⟩]) (.seq (.seq (.region [aE 29 8,eW 30 29,eD 31 0]) (.block 2 (.loop (.seq (.region [⟨some 32,none,.op (.bin .lss 3 (.tmp 31) (.tmp 30))⟩]) (.seq (.cond (.tmp 32) .skip (.exit 2)) (.seq (.block 3 (.seq (.region [aE 33 31,cY 34 1 29 31,cV 35 34,aE 13 33,aE 14 35]) (.seq (.region [aE 36 11,aE 37 13,cY 38 1 36 37,cV 39 38,aE 40 14,eW 41 40,⟨some 42,none,.op (.bin .lss 3 (.tmp 39) (.tmp 41))⟩]) (.cond (.tmp 42) (.region [aE 43 12,aE 44 13,⟨some 45,none,.op (.buildSlice 1 [(1,(.int .i64 0))] 1 [(0,(.tmp 44))])⟩,⟨some 46,none,.op (.append 1 8 (.tmp 43) (.tmp 45))⟩,aE 12 46]) .skip)))) (.region [eU 47 .add 3 31 1,aE 31 47]))))))) (.seq (.seq (.region [aE 48 12,eW 49 48,eU 50 .eql 3 49 0]) (.cond (.tmp 50) (.seq (.region [aE 51 10,aE 6 51,eD 7 0]) .ret) .skip)) (.seq (.region [aE 52 2,⟨some 53,none,.op (.bin .mul 84 (.const (.int .u64 6364136223846793005)) (.tmp 52))⟩,⟨some 54,none,.op (.bin .add 84 (.tmp 53) (.const (.int .u64 1442695040888963407)))⟩,aE 2 54]) (.seq (.region [aE 55 12,aE 56 2,⟨some 57,none,.op (.bin .shr 84 (.tmp 56) (.const (.int .u64 33)))⟩,aE 58 12,eW 59 58,⟨some 60,none,.op (.conv .u64 (.tmp 59))⟩,⟨some 61,none,.op (.bin .rem 84 (.tmp 57) (.tmp 60))⟩,⟨some 62,none,.op (.conv .i64 (.tmp 61))⟩,cY 63 1 55 62,cV 64 63,aE 15 64]) (.seq (.region [aE 65 8,aE 66 15,cY 67 1 65 66,cV 68 67,aE 16 68]) (.block 4 (.loop (.block 5 (.seq (.draw [aE 69 10,aE 70 16,aE 71 11,aE 72 15,cY 73 1 71 72,cV 74 73,cY 75 1 70 74,cV 76 75,aE 77 0,aE 78 15,cY 79 19 77 78,iE 80 18 79,cV 81 80,aE 82 11,aE 83 15,cY 84 1 82 83,cV 85 84,cY 86 1 81 85,cV 87 86,cY 88 1 69 76,⟨none,none,.op (.store 1 (.tmp 88) (.tmp 87))⟩] [[],[],[],[],[2,3],[4],[1,5],[6],[],[],[8,9],[10],[11],[],[],[13,14],[15],[12,16],[17],[0,7,0,1,2,3,4,5,6,7,8,9,10,11,12,13,14,15,16,17,18],[19,18,0,1,2,3,4,5,6,7,8,9,10,11,12,13,14,15,16,17,18]]) (.seq (.region [aE 89 11,aE 90 15,cY 91 1 89 90,cV 92 91,eU 93 .add 3 92 1,cY 94 1 89 90,⟨none,none,.op (.store 1 (.tmp 94) (.tmp 93))⟩]) (.seq (.draw [aE 95 11,aE 96 15,cY 97 1 95 96,cV 98 97,aE 99 16,eW 100 99,⟨some 101,none,.op (.bin .eql 3 (.tmp 98) (.tmp 100))⟩,aE 102 101,cT 103 102 false 1,⟨some 104,some (102,false),.op (.un .not (.tmp 103))⟩,cT 105 102 false 104,cT 106 105 true 16,cT 107 105 true 11,cT 108 105 true 15,⟨some 109,some (105,true),.op (.idxSl 1 (.tmp 107) (.tmp 108))⟩,⟨some 110,some (105,true),.op (.load 1 false (.tmp 109))⟩,⟨some 111,some (105,true),.op (.idxSl 1 (.tmp 106) (.tmp 110))⟩,⟨some 112,some (105,true),.op (.load 1 false (.tmp 111))⟩,cT 113 105 true 16,cT 114 105 true 11,cT 115 105 true 15,⟨some 116,some (105,true),.op (.idxSl 1 (.tmp 114) (.tmp 115))⟩,⟨some 117,some (105,true),.op (.load 1 false (.tmp 116))⟩,⟨some 118,some (105,true),.op (.bin .sub 3 (.tmp 117) (.const (.int .i64 1)))⟩,⟨some 119,some (105,true),.op (.idxSl 1 (.tmp 113) (.tmp 118))⟩,⟨some 120,some (105,true),.op (.load 1 false (.tmp 119))⟩,⟨some 121,some (105,true),.op (.bin .add 3 (.tmp 120) (.const (.int .i64 1)))⟩,⟨some 122,some (105,true),.op (.bin .neq 3 (.tmp 112) (.tmp 121))⟩,⟨some 123,some (102,false),.op (.pick (.tmp 105) (.tmp 122) (.const (.bool false)))⟩,⟨some 124,none,.op (.pick (.tmp 102) (.const (.bool true)) (.tmp 123))⟩] [[],[],[0,1],[2],[],[4],[3,5],[6],[7],[8,7],[9,7,7],[10],[10],[10],[12,13,10],[14,10],[11,15,10],[16,10],[10],[10],[10],[19,20,10],[21,10],[22,10],[18,23,10],[24,10],[25,10],[17,26,10],[10,27,7],[7,28]]) (.cond (.tmp 124) (.exit 4) .skip))))))))))))))))))))),[(.tmp 6),(.tmp 7)]⟩
theorem cF36:aO Tryz.prog 36=some F36:=by kernel_rfl
def F31:IFun:=⟨82,(.seq (.region [⟨some 2,none,.op (.move (.const (.slice none 0 0)))⟩,⟨some 3,none,.op (.move (.const (.bool false)))⟩]) (.seq (.region [⟨some 4,none,.op (.move (.const (.slice none 0 0)))⟩]) (.seq (.seq (.region [aE 9 0,eW 10 9,eU 11 .gtr 3 10 12,aE 12 11,cT 13 12 true 0,⟨some 14,some (12,true),.op (.len (.tmp 13))⟩,⟨some 15,some (12,true),.op (.bin .leq 3 (.tmp 14) (.const (.int .i64 64)))⟩,cT 16 12 true 15,cT 17 16 false 0,⟨some 18,some (16,false),.op (.len (.tmp 17))⟩,⟨some 19,some (16,false),.op (.bin .gtr 3 (.tmp 18) (.const (.int .i64 70)))⟩,⟨some 20,some (12,true),.op (.pick (.tmp 16) (.const (.bool true)) (.tmp 19))⟩,⟨some 21,none,.op (.pick (.tmp 12) (.tmp 20) (.const (.bool false)))⟩]) (.cond (.tmp 21) (.seq (.region [⟨some 2,none,.op (.move (.const (.slice none 0 0)))⟩,⟨some 3,none,.op (.move (.const (.bool false)))⟩]) .ret) .skip)) (.seq (.seq (.region [eD 5 0]) (.block 0 (.loop (.seq (.seq (.region [aE 22 5,aE 23 0,eW 24 23,⟨some 25,none,.op (.bin .lss 3 (.tmp 22) (.tmp 24))⟩]) (.cond (.tmp 25) .skip (.exit 0))) (.seq (.block 1 (.seq (.region [aE 29 0,aE 30 5,cY 31 19 29 30,iE 32 0 31,⟨some 33,none,.op (.load 17 true (.tmp 32))⟩,⟨some 34,none,(.call 12 [(.tmp 33)])⟩,aE 28 34,iN 35 28 0,iN 36 28 1,⟨some 6,none,.op (.alloc [(5,(.int .i64 0)),(4,(.slice none 0 0)),(4,(.int .i64 0)),(4,(.slice none 0 0))])⟩,⟨none,none,.op (.store 17 (.tmp 6) (.tmp 35))⟩,aE 7 36]) (.seq (.region [aE 37 0,aE 38 5,cY 39 19 37 38,iE 40 18 39,cV 41 40,eW 42 41,aE 8 42]) (.seq (.seq (.region [aE 43 7,⟨some 44,none,.op (.un .not (.tmp 43))⟩,aE 45 44,cT 46 45 false 8,⟨some 47,some (45,false),.op (.bin .gtr 3 (.tmp 46) (.const (.int .i64 300)))⟩,cT 48 45 false 47,cT 49 48 true 8,⟨some 50,some (48,true),.op (.bin .leq 3 (.tmp 49) (.const (.int .i64 4096)))⟩,cT 51 48 true 50,cT 52 51 false 8,⟨some 53,some (51,false),.op (.bin .gtr 3 (.tmp 52) (.const (.int .i64 5000)))⟩,⟨some 54,some (48,true),.op (.pick (.tmp 51) (.const (.bool true)) (.tmp 53))⟩,⟨some 55,some (45,false),.op (.pick (.tmp 48) (.tmp 54) (.const (.bool false)))⟩,⟨some 56,none,.op (.pick (.tmp 45) (.const (.bool true)) (.tmp 55))⟩,aE 57 56,cT 58 57 false 0,⟨some 59,some (57,false),.op (.len (.tmp 58))⟩,⟨some 60,some (57,false),.op (.bin .gtr 3 (.tmp 59) (.const (.int .i64 12)))⟩,cT 61 57 false 60,cT 62 61 true 8,⟨some 63,some (61,true),.op (.bin .gtr 3 (.tmp 62) (.const (.int .i64 0)))⟩,⟨some 64,some (57,false),.op (.pick (.tmp 61) (.tmp 63) (.const (.bool false)))⟩,⟨some 65,none,.op (.pick (.tmp 57) (.const (.bool true)) (.tmp 64))⟩]) (.cond (.tmp 65) (.seq (.region [⟨some 2,none,.op (.move (.const (.slice none 0 0)))⟩,⟨some 3,none,.op (.move (.const (.bool false)))⟩]) .ret) .skip)) (.draw [aE 66 4,⟨some 67,none,.op (.load 17 true (.tmp 6))⟩,aE 68 0,aE 69 5,cY 70 19 68 69,iE 71 17 70,cV 72 71,aE 73 0,aE 74 5,cY 75 19 73 74,iE 76 18 75,cV 77 76,⟨some 78,none,.op (.build [(5,(.int .i64 0)),(4,(.slice none 0 0)),(4,(.int .i64 0)),(4,(.slice none 0 0)),(1,(.int .i64 0)),(1,(.slice none 0 0))] [(0,(17,(.tmp 67))),(17,(1,(.tmp 72))),(18,(1,(.tmp 77)))])⟩,⟨some 79,none,.op (.buildSlice 19 [(5,(.int .i64 0)),(4,(.slice none 0 0)),(4,(.int .i64 0)),(4,(.slice none 0 0)),(1,(.int .i64 0)),(1,(.slice none 0 0))] 1 [(0,(.tmp 78))])⟩,⟨some 80,none,.op (.append 19 296 (.tmp 66) (.tmp 79))⟩,aE 4 80] [[],[],[],[],[2,3],[4],[5],[],[],[7,8],[9],[10],[1,6,11],[12],[0,13],[14,14,0,1,2,3,4,5,6,7,8,9,10,11,12,13,14]]))))) (.region [aE 26 5,eU 27 .add 3 26 1,aE 5 27])))))) (.seq (.region [aE 81 4,aE 2 81,⟨some 3,none,.op (.move (.const (.bool true)))⟩]) .ret))))),[(.tmp 2),(.tmp 3)]⟩
theorem cF31:aO Tryz.prog 31=some F31:=by kernel_rfl
set_option maxRecDepth 20000
abbrev uv (b:Nat):AV:=.sc (.int .u8 (b:Int))
def bys (l:List Nat):List (List AV):=l.map fun b=>[uv b]
theorem dB (l:List Nat):(bys l).length=l.length:=by simp[bys]
theorem mH (l:List Nat) (k:Nat) (h:k < l.length):bY (bys l) (k:Int)=some [uv l[k]]:=dX (fun n:Nat=>[uv n]) l k h
instance (l:List Nat):PRs (bys l):=by unfold bys; infer_instance
structure Rq where
 at':Int
 e:Ty
 o:Ty
 off:Int
 data:List Nat
def rqR (r:Rq):List AV:=vwR r.at' r.e r.o++[iv r.off,.list 1 (bys r.data)]
def rqs (l:List Rq):List (List AV):=l.map rqR
theorem qT (l:List Rq):(rqs l).length=l.length:=by simp[rqs]
theorem BG (l:List Rq) (k:Nat) (h:k < l.length):bY (rqs l) (k:Int)=some (rqR l[k]):=dX rqR l k h
theorem CK (r:Rq):PR (rqR r):=by unfold rqR vwR; infer_instance
def Rq.v (r:Rq):Int×Sn:=gX r.at' r.e r.o
def Rq.ok (r:Rq):Prop:=bA 3 r.e=true∧bA 3 r.o=true∧r.off < 9223372036854775808∧r.data.length≤1000000000
def cB (r:Rq):List Int×Int:=
 if r.v.1≠0 then([],r.v.1)
 else if r.off < 0 then([],3)
 else if r.data.length % r.v.2.elem.toNat≠0 then([],26)
 else if 4096 < r.data.length then([],9)
 else if (kD r.v.2 r.off.toNat r.data.length).2=true then((kD r.v.2 r.off.toNat r.data.length).1,0) else([],3)
set_option maxHeartbeats 2000000 in
theorem GK {r:Rq} (hr:r.ok):aB Tryz.prog 141 [.agg (rqR r)] (.tup [.list 1 (inR (cB r).1),iv (cB r).2]):=by
 obtain⟨he,ho,hoff,hdl⟩:=hr
 have hc:=GM (a:=r.at') he ho
 have hsn:=xL (a:=r.at') he ho
 refine aB.mkI (ha:=⟨fun c hc=>by rw[List.mem_singleton.1 hc]; exact .agg _ (CK r).out⟩) cF141 (nlB rfl) ?_
 unfold cB rqR Rq.v
 obtain⟨a,e,o,off,data⟩:=r
 simp only at he ho hoff hdl hc hsn ⊢
 generalize gX a e o=r at *
 obtain⟨er,s⟩:=r
 simp only at hsn ⊢
 obtain⟨_,k1,c1,b1,s1,z1,l1,p1,f1,_,rfl,_⟩:=bF he
 obtain⟨_,k2,c2,b2,s2,z2,l2,p2,f2,_,rfl,_⟩:=bF ho
 have hbl:=dB data
 unfold vwR snR at *
 rw[tyR,tyR] at *
 replace hc:aB Tryz.prog 63 _ (.tup [.agg [iv s.at',iv s.elem,iv s.ext,.list 1 (inR s.pl)],iv er]):=hc
 refine aA ?_
 refine AWP.condN (er≠0) rfl (dE _) (fun h1=>?_) (fun h1=>?_)
 ·rw[if_pos h1,show inR (([],er):List Int×Int).1=[] from rfl]
  refine aA ?_
  exact aJ.w
 rw[if_neg h1]
 have hs:=hsn (Decidable.byContradiction h1)
 obtain⟨_,⟨q1,q2⟩,_⟩:=id hs
 obtain⟨E,hE⟩:∃ E:Nat,s.elem=E:=⟨s.elem.toNat,by omega⟩
 have hE0:1≤E:=by omega
 rw[hE] at hc ⊢
 rw[Int.toNat_natCast]
 refine aA ?_
 refine AWP.condN (off < 0) rfl rfl (fun g1=>?_) (fun g1=>?_)
 ·rw[if_pos g1,show inR (([],3):List Int×Int).1=[] from rfl]
  refine aA ?_
  exact aJ.w
 rw[if_neg g1]
 obtain⟨O,rfl⟩:∃ O:Nat,off=O:=⟨off.toNat,by omega⟩
 refine aA ?_
 refine AWP.condN (data.length % E≠0) rfl (by simp[hbl]) (fun g2=>?_) (fun g2=>?_)
 ·rw[if_pos g2,show inR (([],26):List Int×Int).1=[] from rfl]
  refine aA ?_
  exact aJ.w
 rw[if_neg g2]
 refine aA ?_
 refine AWP.condN (4096 < data.length) rfl (by rw[hbl]) (fun g3=>?_) (fun g3=>?_)
 ·rw[if_pos g3,show inR (([],9):List Int×Int).1=[] from rfl]
  refine aA ?_
  exact aJ.w
 rw[if_neg g3,Int.toNat_natCast]
 have hli:=KY (off:=O) (n:=data.length) hs (by omega) (by omega)
 rw[hE] at hli
 generalize kD s O data.length=l at *
 obtain⟨l,ok⟩:=l
 simp only at hli ⊢
 rw[← hbl] at hli
 refine aA ?_
 cases ok with
 | false=>
  rw[if_neg (by simp),show inR (([],3):List Int×Int).1=[] from rfl]
  refine aA ?_
  exact aJ.w
 | true=>
 rw[if_pos rfl]
 refine aA ?_
 exact aJ.w
def dD (l:List Rq):List (List Int)×Int:=
 if 64 < l.length then([],9) else match l.find? (fun r=>decide ((cB r).2≠0)) with
  | some r=>([],(cB r).2)
  | none=>(l.map fun r=>(cB r).1,0)
def plR (ps:List (List Int)):List (List AV):=ps.map fun p=>[.list 1 (inR p)]
theorem DN (l:List (List Int)):(plR l).length=l.length:=by simp[plR]
instance (l:List (List Int)):PRs (plR l):=by unfold plR; infer_instance
instance (l:List Rq):PRs (rqs l):=⟨fun r hr c hc=>by
 obtain⟨q,_,rfl⟩:=List.mem_map.1 hr
 exact(CK q).out c hc⟩
theorem CI {l:List Rq} {i:Nat} (h64:¬ 64 < l.length) (hi:i < l.length) (hp:∀ j (h:j < i),(cB (l[j]'(by omega))).2=0) (hb:(cB l[i]).2≠0):dD l=([],(cB l[i]).2):=by
 unfold dD
 rw[if_neg h64]
 have:l.find? (fun r=>decide ((cB r).2≠0))=some l[i]:=by
  rw[List.find?_eq_some_iff_getElem]
  refine⟨by simpa using hb,i,hi,rfl,fun j hj=>by simpa using hp j hj⟩
 rw[this]
theorem tH {l:List Rq} (h64:¬ 64 < l.length) (hp:∀ j (h:j < l.length),(cB l[j]).2=0):dD l=(l.map fun r=>(cB r).1,0):=by
 unfold dD
 rw[if_neg h64]
 have:l.find? (fun r=>decide ((cB r).2≠0))=none:=by
  rw[List.find?_eq_none]
  intro r hr
  obtain⟨j,hj,rfl⟩:=List.mem_iff_getElem.1 hr
  simpa using hp j hj
 rw[this]
set_option maxHeartbeats 2000000 in
theorem N9 {l:List Rq} (hl:∀ r∈l,r.ok) (hn:l.length < 1000000000):aB Tryz.prog 95 [.list 19 (rqs l)] (.tup [.list 1 (plR (dD l).1),iv (dD l).2]):=by
 refine aB.mkI PF (nlB rfl) ?_
 have hll:=qT l
 refine aA ?_
 refine AWP.condN (64 < l.length) rfl (by rw[hll]) (fun h64=>?_) (fun h64=>?_)
 ·rw[show dD l=([],9) from if_pos h64,show plR (([],9):List (List Int)×Int).1=[] from rfl]
  refine aA ?_
  exact aJ.w
 refine aA ?_
 refine AWP.loop (fun i:Nat=>[(4,.hsl 0 0 0 i),(12,.list 19 (rqs l)),(13,iv l.length),(14,iv i)]) (fun i=>[[.cells 1 (plR ((l.take i).map fun r=>(cB r).1))]]) (fun i=>i≤l.length∧∀ j (h:j < l.length),j < i→(cB l[j]).2=0) (fun i=>l.length - i) 0 ⟨Nat.zero_le _,fun j _ h=>absurd h (Nat.not_lt_zero j)⟩ ?_ ?_
 ·exact Sub.w [1] [[(0,0)]]
 rintro i ⟨hi,hg⟩
 refine aA ?_
 refine AWP.condN (i < l.length) rfl rfl (fun h=>?_) (fun h=>?_)
 ·have hr:=BG l i h
  have hc:=GK (hl l[i] (List.getElem_mem _))
  have hbad:=fun hb=>CI h64 h (fun j hj=>hg j (by omega) hj) hb
  have htk:(l.take (i+1)).map (fun r=>(cB r).1)=(l.take i).map (fun r=>(cB r).1)++[(cB l[i]).1]:=by
   rw[List.take_add_one,gEg h,List.map_append]
   rfl
  have hpl:((l.take i).map fun r=>(cB r).1).length=i:=by simp; omega
  have hgi:(cB l[i]).2=0→∀ j (h:j < l.length),j < i+1→(cB l[j]).2=0:=fun h0 j hj hlt=>by
   rcases Nat.lt_or_ge j i with q | q
   ·exact hg j hj q
   ·obtain rfl:j=i:=by omega
    exact h0
  generalize cB l[i]=z at *
  obtain⟨p,e⟩:=z
  generalize (l.take i).map (fun r=>(cB r).1)=ps at *
  have hpr:=DN ps
  have hok:=hl l[i] (List.getElem_mem _)
  generalize l[i]=q at *
  obtain⟨a,t1,t2,off,data⟩:=q
  obtain⟨he,ho,_,_⟩:=hok
  obtain⟨_,k1,c1,b1,s1,z1,l1,p1,f1,_,rfl,_⟩:=bF he
  obtain⟨_,k2,c2,b2,s2,z2,l2,p2,f2,_,rfl,_⟩:=bF ho
  unfold rqR vwR at hr hc
  rw[tyR,tyR] at hr hc
  replace hr:bY (rqs l) (i:Int)=some [iv a,iv k1,iv c1,iv b1,iv s1,.list 1 (inR z1),.list 1 (inR l1),.list 1 (inR p1),.list 8 (aD f1),iv k2,iv c2,iv b2,iv s2,.list 1 (inR z2),.list 1 (inR l2),.list 1 (inR p2),.list 8 (aD f2),iv off,.list 1 (bys data)]:=hr
  replace hc:aB Tryz.prog 141 [.agg [iv a,iv k1,iv c1,iv b1,iv s1,.list 1 (inR z1),.list 1 (inR l1),.list 1 (inR p1),.list 8 (aD f1),iv k2,iv c2,iv b2,iv s2,.list 1 (inR z2),.list 1 (inR l2),.list 1 (inR p2),.list 8 (aD f2),iv off,.list 1 (bys data)]] (.tup [.list 1 (inR p),iv e]):=hc
  refine aA ?_
  refine AWP.condN (e≠0) rfl (dE _) (fun h0=>?_) (fun h0=>?_)
  ·rw[hbad h0]
   rw[show plR (([],e):List (List Int)×Int).1=[] from rfl]
   refine aA ?_
   exact aJ.w
  ·refine aA ?_
   refine⟨i+1,⟨by omega,hgi (Decidable.byContradiction h0)⟩,by omega,?_⟩
   rw[htk]
   have e1:plR (ps++[p])=plR ps++[[.list 1 (inR p)]]:=by simp[plR]
   rw[e1]
   exact Sub.wl [] [[(3,0)]]
 ·obtain rfl:l.length=i:=by omega
  rw[tH h64 fun j h=>hg j h h,List.take_length]
  have:=DN (l.map fun r=>(cB r).1)
  rw[List.length_map] at this
  refine aA ?_
  exact aJ.w
end Go.Proofs.YtgdocflpobncmaaGreat
