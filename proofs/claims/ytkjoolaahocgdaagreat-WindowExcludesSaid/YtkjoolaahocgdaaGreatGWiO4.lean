import Derived.Test.YtkjoolaahocgdaaGreatGWiT7
import Derived.Test.YtkjoolaahocgdaaGreatGAvSo
namespace Go.Proofs.YtkjoolaahocgdaaGreat
open Go.Av Go.Proofs
set_option maxRecDepth 20000
abbrev Pl:=Nat×Nat
def plR (x:Pl):List AV:=[.sc (.int .i64 (x.1:Int)),.sc (.int .i64 (x.2:Int))]
instance (x:Pl):PR (plR x):=by unfold plR; infer_instance
def kI (l:List Pl):List (List AV):=l.map plR
theorem fY (l:List Pl):(kI l).length=l.length:=by simp[kI]
instance (l:List Pl):PRs (kI l):=inferInstanceAs (PRs (l.map plR))
theorem AE (l:List Pl) (k:Nat) (h:k < l.length):dT (kI l) (k:Int)=some (plR l[k]):=gW plR l k h
theorem mD (l:List Pl) (x:Pl):kI (l++[x])=kI l++[plR x]:=by simp[kI]
def uT (i:Nat) (l:List Nat):Nat:=(oJ (i:Int) (l.map fun j:Nat=>(j:Int))).toNat
theorem wY {i:Nat} {l:List Nat} (h:i∈l):oJ (i:Int) (l.map fun j:Nat=>(j:Int))=(uT i l:Nat)∧uT i l < l.length:=by
 have h1:=sO (i:Int) (l.map fun j:Nat=>(j:Int))
 have h2:(i:Int)∈l.map fun j:Nat=>(j:Int):=List.mem_map.2 ⟨i,h,rfl⟩
 have h3:=h1.1.2 h2
 rw[List.length_map] at h1
 unfold uT
 omega
theorem sY (l:List Nat) (i:Nat) (hl:l.length≤1000000) (h:i∈l):aD Tryz.prog 99 [.list 1 (bB l),.sc (.int .i64 (i:Int))] (.sc (.int .i64 (uT i l:Nat))):=by
 have:=DN (l.map fun j:Nat=>(j:Int)) i (by rw[List.length_map]; omega)
 rw[← N6,(wY h).1] at this
 exact this
theorem HP {n r:Nat}:∀ {g seen:List Int},xY n r seen g=0→(∀ b∈g,0≤b∧b < (n:Int)∧b≠(r:Int)∧b∉seen)∧g.Nodup
 | [],_,_=>⟨fun _ h=>(by cases h),List.nodup_nil⟩
 | b::g,seen,h=>by
  unfold xY at h
  split at h
  ·cases h
  split at h
  ·cases h
  rename_i h1 h2
  obtain⟨q1,q2⟩:=HP h
  refine⟨fun c hc=>?_,List.nodup_cons.2 ⟨fun hb=>(q1 b hb).2.2.2 (by simp),q2⟩⟩
  rcases List.mem_cons.1 hc with rfl | hc
  ·exact⟨by omega,by omega,fun e=>h1 (.inr (.inr e)),h2⟩
  ·obtain⟨a1,a2,a3,a4⟩:=q1 c hc
   exact⟨a1,a2,a3,fun hs=>a4 (by simp[hs])⟩
theorem kA.grp {p:Pg} {r:Nat} {l:List Act} {i:Nat} {x:Act} (h:kA p r l i x) (hk:x.k=9∨x.k=10):0 < x.g.length∧(∀ b∈x.g,0≤b∧b < (p.acts.length:Int)∧b≠(r:Int))∧x.g.Nodup:=by
 have hf:=h.f
 have h1:dP x.k=false:=by unfold dP; apply dFa; omega
 have h2:iL x.k=false:=by unfold iL; apply dFa; omega
 have h3:mE x.k=false:=by unfold mE; apply dFa; omega
 have h4:k9 x.k=true:=by unfold k9; exact dTr hk
 unfold lQ iI at hf
 rw[h1,h2,h3,h4,if_neg (by simp),if_neg (by simp),if_neg (by simp),if_pos rfl] at hf
 split at hf
 ·cases hf
 ·rename_i h0
  obtain⟨q1,q2⟩:=HP hf
  exact⟨by omega,fun b hb=>⟨(q1 b hb).1,(q1 b hb).2.1,(q1 b hb).2.2.1⟩,q2⟩
def v7 (ls:List Ln) (r k b:Nat):Option Pl:=match ls[b]? with
 | some L=>if b≠r then(L.fe[k]?).map fun j=>(b,j) else none
 | none=>none
def QY (ls:List Ln) (r i:Nat) (L:Ln):List Pl:=(List.range ls.length).filterMap (v7 ls r (uT i L.fe))
theorem M8 {F:Nat→Option Pl} {k:Nat}:(List.range (k+1)).filterMap F=(List.range k).filterMap F++(F k).toList:=by
 rw[List.range_succ,List.filterMap_append]
 cases h:F k<;>simp[h]
theorem tI {α β:Type} (F:α→Option β) (l:List α):(l.filterMap F).length≤l.length:=List.length_filterMap_le _ _
set_option maxHeartbeats 16000000 in
theorem xL (p:Pg) (ls:List Ln) {r i:Nat} {l:List Act} {x:Act} {L:Ln} (hr:p.acts[r]?=some l) (hi:l[i]?=some x) (hL:ls[r]?=some L) (hx:x.k=8) (hm:i∈L.fe) (hf:∀ L∈ls,L.fe.length≤100) (hn:ls.length≤64):
  aD Tryz.prog 56 [ckV p ls,plN r i] (.tup [.list 2 (kI (QY ls r i L)),.sc (.int .i64 ((ls.length - 1:Nat):Int))]):=by
 refine aD.mkI O1 (nlB rfl) ?_
 have hact:=jW p ls hr hi
 have h1:=dH hL
 have e0:=gT ls
 have hls:0 < ls.length:=by have:=(gEs.1 hL).1; omega
 have hix:=sY L.fe i (by have:=hf L (List.mem_of_getElem? hL); omega) hm
 unfold QY
 generalize uT i L.fe=k0 at *
 unfold ckV plN bO at *
 rw[hx] at hact
 dsimp only[lnR,epR,List.cons_append,List.nil_append] at h1
 refine aA ?_
 refine DK.nil ⟨by kernel_rfl,?_⟩
 refine aA ?_
 rw[e0]
 refine AWP.loop (fun b:Nat=>[(0,.cptr [.sc (.int .i64 p.cells),.list 1 (cE p.acts),.tmap formsE,.list 10 (d4 ls)]),(3,.cptr [.sc (.int .i64 (r:Int)),.sc (.int .i64 (i:Int))]),(6,.hsl 0 0 0 ((List.range b).filterMap (v7 ls r k0)).length),(8,.sc (.int .i64 (k0:Int))),(44,.list 10 (d4 ls)),(45,.sc (.int .i64 (ls.length:Int))),(46,.sc (.int .i64 (b:Int)))])
  (fun b=>[[.cells 2 (kI ((List.range b).filterMap (v7 ls r k0)))]]) (fun b=>b≤ls.length) (fun b=>ls.length - b) 0 (Nat.zero_le _) ?_ ?_
 ·exact Sub.w [2] [[(2,0)]]
 rintro b hb
 refine aA ?_
 refine AWP.condD rfl (fun h=>?_) (fun h=>?_)
 ·have hLb:=gEg h
  have hfb:=hf _ (List.getElem_mem h)
  have h2:=dH hLb
  have hs:v7 ls r k0 b=if b≠r then(ls[b].fe[k0]?).map fun j=>(b,j) else none:=by unfold v7; rw[hLb]
  have hr1:=M8 (F:=v7 ls r k0) (k:=b)
  have hlen:=tI (v7 ls r k0) (List.range b)
  rw[List.length_range] at hlen
  generalize ls[b]=M at *
  generalize (List.range b).filterMap (v7 ls r k0)=out at *
  have e1:=fY out
  have e2:=bY M.fe
  dsimp only[lnR,epR,List.cons_append,List.nil_append] at h2
  refine aA ?_
  by_cases hbr:b=r
  ·rw[if_neg (by simpa using hbr)] at hs
   rw[hs] at hr1
   rw[show(!decide (b=r))=false by simpa using hbr]
   refine aA ?_
   refine⟨b+1,by omega,by omega,?_⟩
   rw[hr1]
   dsimp only[Option.toList]
   rw[List.append_nil]
   exact Sub.w [] [[(0,0)]]
  ·rw[if_pos hbr] at hs
   rw[show(!decide (b=r))=true by simpa using hbr]
   refine aA ?_
   rw[e2]
   by_cases hk:k0 < M.fe.length
   ·rw[gEg hk,Option.map_some] at hs
    rw[hs] at hr1
    dsimp only[Option.toList] at hr1
    have h3:=oT M.fe k0 hk
    generalize M.fe[k0]=j at *
    rw[dTr hk]
    refine aA ?_
    refine⟨b+1,by omega,by omega,?_⟩
    rw[hr1,mD,List.length_append]
    dsimp only[plR]
    exact Sub.w [] [[(3,0)]]
   ·rw[List.getElem?_eq_none (by omega),Option.map_none] at hs
    rw[hs] at hr1
    dsimp only[Option.toList] at hr1
    rw[List.append_nil] at hr1
    rw[dFa hk]
    refine aA ?_
    refine⟨b+1,by omega,by omega,?_⟩
    rw[hr1]
    exact Sub.w [] [[(0,0)]]
 ·have hb2:b=ls.length:=by omega
  subst hb2
  generalize (List.range ls.length).filterMap (v7 ls r k0)=out at *
  have e1:=fY out
  refine aA ?_
  rw[e0]
  refine aA ?_
  refine DK.nil ⟨by kernel_rfl,?_⟩
  refine aA ?_
  exact aS.w
structure LK (p:Pg) (ls:List Ln):Prop where
 len:ls.length=p.acts.length
 n:ls.length≤64
 st:∀(r:Nat) (l:List Act) (L:Ln),p.acts[r]?=some l→ls[r]?=some L→(∀ i∈L.st,i < l.length)∧(∀ i∈L.po,i < l.length)∧L.st.length≤100∧L.po.length≤100
 g:∀ l∈p.acts,∀ x∈l,x.g.length≤9223372036854775807
def x8 (p:Pg) (ls:List Ln) (r i:Nat) (l:List Act) (L:Ln) (b:Int):Option Pl:=match p.acts[b.toNat]?,ls[b.toNat]? with
 | some m,some M=>((jZ m (r:Int) M.po)[uT i (jZ l b L.st)]?).map fun j=>(b.toNat,j)
 | _,_=>none
def QU (p:Pg) (ls:List Ln) (r i:Nat) (l:List Act) (L:Ln) (x:Act):List Pl:=x.g.filterMap (x8 p ls r i l L)
theorem HO {α β:Type} {F:α→Option β} {l:List α} {k:Nat} (h:k < l.length):(l.take (k+1)).filterMap F=(l.take k).filterMap F++(F l[k]).toList:=by
 rw[List.take_succ_eq_append_getElem h,List.filterMap_append]
 cases h:F l[k]<;>simp[h]
theorem rU {l:List Act} {b:Int} {L:List Nat} {i:Nat} {x:Act} (h:i∈L) (hi:l[i]?=some x) (hb:b∈x.g):i∈jZ l b L:=by
 unfold jZ
 rw[List.mem_filter]
 exact⟨h,by rw[hi]; exact dTr hb⟩
set_option maxHeartbeats 16000000 in
theorem vY (p:Pg) (ls:List Ln) {r i:Nat} {l:List Act} {x:Act} {L:Ln} (hK:LK p ls) (hr:p.acts[r]?=some l) (hi:l[i]?=some x) (hL:ls[r]?=some L) (hx:x.k=10) (hm:i∈L.st) (h64:x.g.length≤64) (hg:∀ b∈x.g,0≤b∧b < (p.acts.length:Int)):
  aD Tryz.prog 56 [ckV p ls,plN r i] (.tup [.list 2 (kI (QU p ls r i l L x)),.sc (.int .i64 (x.g.length:Int))]):=by
 refine aD.mkI O1 (nlB rfl) ?_
 have hact:=jW p ls hr hi
 have h1:=dH hL
 have e0:=gT ls
 have eg:=cC x.g
 have hgl:=hK.g l (List.mem_of_getElem? hr) x (List.mem_of_getElem? hi)
 obtain⟨k1,k2,k3,k4⟩:=hK.st r l L hr hL
 have hmut:=fun w=>o7 p ls w L.st hr k1 k3 (hK.g l (List.mem_of_getElem? hr))
 unfold QU
 unfold ckV plN bO at *
 rw[hx] at hact
 dsimp only[lnR,epR,List.cons_append,List.nil_append] at h1
 refine aA ?_
 refine DK.nil ⟨by kernel_rfl,?_⟩
 refine aA ?_
 rw[eg]
 refine AWP.loop (fun k:Nat=>[(0,.cptr [.sc (.int .i64 p.cells),.list 1 (cE p.acts),.tmap formsE,.list 10 (d4 ls)]),(3,.cptr [.sc (.int .i64 (r:Int)),.sc (.int .i64 (i:Int))]),(6,.hsl 0 0 0 ((x.g.take k).filterMap (x8 p ls r i l L)).length),(7,.cptr [.sc (.bool L.e.f),.list 1 (aY L.e.o),.list 1 (aY L.e.p),.sc (.int .i64 L.e.l),.tmap (uV L.acc),.list 1 (bB L.fe),.list 1 (bB L.st),.list 1 (bB L.po),.tmap (mapE L.co),.tmap (mapE L.wt)]),(11,.list 1 (aY x.g)),(86,.list 1 (aY x.g)),(87,.sc (.int .i64 (x.g.length:Int))),(88,.sc (.int .i64 (k:Int)))])
  (fun k=>[[.cells 2 (kI ((x.g.take k).filterMap (x8 p ls r i l L)))]]) (fun k=>k≤x.g.length) (fun k=>x.g.length - k) 0 (Nat.zero_le _) ?_ ?_
 ·exact Sub.w [2] [[(2,0)]]
 rintro k hk
 refine aA ?_
 refine AWP.condD rfl (fun h=>?_) (fun h=>?_)
 ·have hb:=l8 x.g k h
  have hbm:=List.getElem_mem h
  have hr1:=HO (F:=x8 p ls r i l L) h
  have hlen:=tI (x8 p ls r i l L) (x.g.take k)
  rw[List.length_take] at hlen
  generalize x.g[k]=b at *
  obtain⟨hb1,hb2⟩:=hg b hbm
  obtain⟨bn,rfl⟩:∃ bn:Nat,b=(bn:Int):=⟨b.toNat,by omega⟩
  have hbn:bn < p.acts.length:=by omega
  have hbl:bn < ls.length:=by rw[hK.len]; exact hbn
  have hM1:=gEg hbn
  have hM2:=gEg hbl
  have hs:x8 p ls r i l L (bn:Int)=((jZ p.acts[bn] (r:Int) ls[bn].po)[uT i (jZ l (bn:Int) L.st)]?).map fun j=>(bn,j):=by
   unfold x8
   rw[Int.toNat_natCast,hM1,hM2]
  obtain⟨q1,q2,q3,q4⟩:=hK.st bn _ _ hM1 hM2
  have hmb:=o7 p ls (r:Int) ls[bn].po hM1 q2 q4 (hK.g _ (List.getElem_mem hbn))
  have hml:=oU l (bn:Int) L.st
  have hmm:=oU p.acts[bn] (r:Int) ls[bn].po
  have h2:=dH hM2
  have hix:=sY (jZ l (bn:Int) L.st) i (by omega) (rU hm hi hbm)
  have hpos:=(wY (rU hm hi hbm)).2
  generalize ls[bn]=M at *
  generalize p.acts[bn]=m at *
  have hmu:=hmut (bn:Int)
  unfold ckV at hmb hmu
  generalize jZ m (r:Int) M.po=mb at *
  generalize jZ l (bn:Int) L.st=ma at *
  generalize uT i ma=k0 at *
  generalize (x.g.take k).filterMap (x8 p ls r i l L)=out at *
  have e1:=fY out
  have e2:=bY mb
  dsimp only[lnR,epR,List.cons_append,List.nil_append] at h2
  refine aA ?_
  refine DK.nil ⟨by kernel_rfl,?_⟩
  refine aA ?_
  refine DK.nil ⟨by kernel_rfl,?_⟩
  refine aA ?_
  rw[e2]
  by_cases hk0:k0 < mb.length
  ·rw[gEg hk0,Option.map_some] at hs
   rw[hs] at hr1
   dsimp only[Option.toList] at hr1
   have h3:=oT mb k0 hk0
   generalize mb[k0]=j at *
   rw[dTr hk0]
   refine aA ?_
   refine⟨k+1,by omega,by omega,?_⟩
   rw[hr1,mD,List.length_append]
   dsimp only[plR]
   exact Sub.w [] [[(4,0)]]
  ·rw[List.getElem?_eq_none (by omega),Option.map_none] at hs
   rw[hs] at hr1
   dsimp only[Option.toList] at hr1
   rw[List.append_nil] at hr1
   rw[dFa hk0]
   refine aA ?_
   refine⟨k+1,by omega,by omega,?_⟩
   rw[hr1]
   exact Sub.w [] [[(0,0)]]
 ·have hb2:k=x.g.length:=by omega
  subst hb2
  rw[List.take_length]
  generalize x.g.filterMap (x8 p ls r i l L)=out at *
  have e1:=fY out
  refine aA ?_
  rw[eg]
  exact aS.w
def x6 (p:Pg) (ls:List Ln) (r q:Nat) (l:List Act) (L:Ln) (b:Int):Option Pl:=match p.acts[b.toNat]?,ls[b.toNat]? with
 | some m,some M=>((jZ m (r:Int) M.st)[uT q (jZ l b L.po)]?).map fun j=>(b.toNat,(bT j M.co).getD 0)
 | _,_=>none
def RL (p:Pg) (ls:List Ln) (r q:Nat) (l:List Act) (L:Ln) (y:Act):List Pl:=y.g.filterMap (x6 p ls r q l L)
set_option maxHeartbeats 16000000 in
theorem x5 (p:Pg) (ls:List Ln) {r i q:Nat} {l:List Act} {x y:Act} {L:Ln} (hK:LK p ls) (hr:p.acts[r]?=some l) (hi:l[i]?=some x) (hL:ls[r]?=some L) (hx:x.k=12) (hq:bT i L.wt=some q) (hy:l[q]?=some y) (hm:q∈L.po) (h64:y.g.length≤64) (hg:∀ b∈y.g,0≤b∧b < (p.acts.length:Int)):
  aD Tryz.prog 56 [ckV p ls,plN r i] (.tup [.list 2 (kI (RL p ls r q l L y)),.sc (.int .i64 (y.g.length:Int))]):=by
 refine aD.mkI O1 (nlB rfl) ?_
 have hact:=jW p ls hr hi
 have h1:=dH hL
 have e0:=gT ls
 have eg:=cC y.g
 have hgl:=hK.g l (List.mem_of_getElem? hr) y (List.mem_of_getElem? hy)
 obtain⟨k1,k2,k3,k4⟩:=hK.st r l L hr hL
 have hmut:=fun w=>o7 p ls w L.po hr k2 k4 (hK.g l (List.mem_of_getElem? hr))
 have hpr:=g8 hr
 have har:=pA hy
 have hwt:d5 .i64 (i:Int) (mapE L.wt)=some (some (.sc (.int .i64 (q:Int)))):=by rw[pE,hq]; rfl
 unfold RL
 unfold ckV plN bO at *
 rw[hx] at hact
 dsimp only[lnR,epR,List.cons_append,List.nil_append] at h1
 refine aA ?_
 refine DK.nil ⟨by kernel_rfl,?_⟩
 refine aA ?_
 refine Reg.o rfl (bQ rfl rfl hwt) ?_
 refine aA ?_
 refine DK.nil ⟨by kernel_rfl,?_⟩
 refine aA ?_
 rw[eg]
 refine AWP.loop (fun k:Nat=>[(0,.cptr [.sc (.int .i64 p.cells),.list 1 (cE p.acts),.tmap formsE,.list 10 (d4 ls)]),(3,.cptr [.sc (.int .i64 (r:Int)),.sc (.int .i64 (i:Int))]),(6,.hsl 0 0 0 ((y.g.take k).filterMap (x6 p ls r q l L)).length),(7,.cptr [.sc (.bool L.e.f),.list 1 (aY L.e.o),.list 1 (aY L.e.p),.sc (.int .i64 L.e.l),.tmap (uV L.acc),.list 1 (bB L.fe),.list 1 (bB L.st),.list 1 (bB L.po),.tmap (mapE L.co),.tmap (mapE L.wt)]),(16,.sc (.int .i64 (q:Int))),(17,.list 1 (aY y.g)),(152,.list 1 (aY y.g)),(153,.sc (.int .i64 (y.g.length:Int))),(154,.sc (.int .i64 (k:Int)))])
  (fun k=>[[.cells 2 (kI ((y.g.take k).filterMap (x6 p ls r q l L)))]]) (fun k=>k≤y.g.length) (fun k=>y.g.length - k) 0 (Nat.zero_le _) ?_ ?_
 ·exact Sub.w [2] [[(3,0)]]
 rintro k hk
 refine aA ?_
 refine AWP.condD rfl (fun h=>?_) (fun h=>?_)
 ·have hb:=l8 y.g k h
  have hbm:=List.getElem_mem h
  have hr1:=HO (F:=x6 p ls r q l L) h
  have hlen:=tI (x6 p ls r q l L) (y.g.take k)
  rw[List.length_take] at hlen
  generalize y.g[k]=b at *
  obtain⟨hb1,hb2⟩:=hg b hbm
  obtain⟨bn,rfl⟩:∃ bn:Nat,b=(bn:Int):=⟨b.toNat,by omega⟩
  have hbn:bn < p.acts.length:=by omega
  have hbl:bn < ls.length:=by rw[hK.len]; exact hbn
  have hM1:=gEg hbn
  have hM2:=gEg hbl
  have hs:x6 p ls r q l L (bn:Int)=((jZ p.acts[bn] (r:Int) ls[bn].st)[uT q (jZ l (bn:Int) L.po)]?).map fun j=>(bn,(bT j ls[bn].co).getD 0):=by
   unfold x6
   rw[Int.toNat_natCast,hM1,hM2]
  obtain⟨q1,q2,q3,q4⟩:=hK.st bn _ _ hM1 hM2
  have hmb:=o7 p ls (r:Int) ls[bn].st hM1 q1 q3 (hK.g _ (List.getElem_mem hbn))
  have hml:=oU l (bn:Int) L.po
  have hmm:=oU p.acts[bn] (r:Int) ls[bn].st
  have h2:=dH hM2
  have hix:=sY (jZ l (bn:Int) L.po) q (by omega) (rU hm hy hbm)
  have hpos:=(wY (rU hm hy hbm)).2
  generalize ls[bn]=M at *
  generalize p.acts[bn]=m at *
  have hmu:=hmut (bn:Int)
  unfold ckV at hmb hmu
  generalize jZ m (r:Int) M.st=mb at *
  generalize jZ l (bn:Int) L.po=ma at *
  generalize uT q ma=k0 at *
  generalize (y.g.take k).filterMap (x6 p ls r q l L)=out at *
  have e1:=fY out
  have e2:=bY mb
  dsimp only[lnR,epR,List.cons_append,List.nil_append] at h2
  refine aA ?_
  refine DK.nil ⟨by kernel_rfl,?_⟩
  refine aA ?_
  rw[e2]
  by_cases hk0:k0 < mb.length
  ·rw[gEg hk0,Option.map_some] at hs
   rw[hs] at hr1
   dsimp only[Option.toList] at hr1
   have h3:=oT mb k0 hk0
   generalize mb[k0]=j at *
   rw[dTr hk0]
   have hco:d5 .i64 (j:Int) (mapE M.co)=some ((bT j M.co).map fun a:Nat=>.sc (.int .i64 (a:Int))):=pE j M.co
   generalize bT j M.co=oc at *
   cases oc with
   | none=>
    dsimp only[Option.getD,Option.map] at hr1 hco
    refine aA ?_
    refine DK.o rfl (bQ rfl rfl hco) ?_
    refine aA ?_
    refine DK.nil ⟨by kernel_rfl,?_⟩
    refine aA ?_
    refine⟨k+1,by omega,by omega,?_⟩
    rw[hr1,mD,List.length_append]
    dsimp only[plR]
    exact Sub.w [] [[(2,17)]]
   | some c=>
    dsimp only[Option.getD,Option.map] at hr1 hco
    refine aA ?_
    refine DK.o rfl (bQ rfl rfl hco) ?_
    refine aA ?_
    refine DK.nil ⟨by kernel_rfl,?_⟩
    refine aA ?_
    refine⟨k+1,by omega,by omega,?_⟩
    rw[hr1,mD,List.length_append]
    dsimp only[plR]
    exact Sub.w [] [[(2,17)]]
  ·rw[List.getElem?_eq_none (by omega),Option.map_none] at hs
   rw[hs] at hr1
   dsimp only[Option.toList] at hr1
   rw[List.append_nil] at hr1
   rw[dFa hk0]
   refine aA ?_
   refine⟨k+1,by omega,by omega,?_⟩
   rw[hr1]
   exact Sub.w [] [[(0,0)]]
 ·have hb2:k=y.g.length:=by omega
  subst hb2
  rw[List.take_length]
  generalize y.g.filterMap (x6 p ls r q l L)=out at *
  have e1:=fY out
  refine aA ?_
  rw[eg]
  exact aS.w
set_option maxHeartbeats 8000000 in
theorem yL (p:Pg) (ls:List Ln) {r i:Nat} {l:List Act} {x:Act} {L:Ln} (hr:p.acts[r]?=some l) (hi:l[i]?=some x) (hL:ls[r]?=some L) (h8:x.k≠8) (h10:x.k≠10) (h12:x.k≠12):
  aD Tryz.prog 56 [ckV p ls,plN r i] (.tup [.list 2 [],.sc (.int .i64 0)]):=by
 refine aD.mkI O1 (nlB rfl) ?_
 have hact:=jW p ls hr hi
 have h1:=dH hL
 unfold ckV plN bO at *
 dsimp only[lnR,epR,List.cons_append,List.nil_append] at h1
 refine aA ?_
 refine DK.nil ⟨by kernel_rfl,?_⟩
 refine aA ?_
 rw[show(x.k == 8)=false by simpa using h8]
 refine aA ?_
 rw[show(x.k == 10)=false by simpa using h10]
 refine aA ?_
 rw[show(x.k == 12)=false by simpa using h12]
 refine aA ?_
 exact aS.w
theorem afP_p (k:Nat) (e:Ep) (x:Act):(afP k e x).p=if k=9 then x.g else if k=12 then[] else e.p:=by
 unfold afP
 split<;>first | rfl | (rename_i h1 h2 h3 h4 h5 h6 h7 h8; rw[if_neg (fun e=>h2 e),if_neg (fun e=>h5 e)])
theorem afP_o (k:Nat) (e:Ep) (x:Act):(afP k e x).o=if k=10 then x.g else if k=11 then[] else e.o:=by
 unfold afP
 split<;>first | rfl | (rename_i h1 h2 h3 h4 h5 h6 h7 h8; rw[if_neg (fun e=>h3 e),if_neg (fun e=>h4 e)])
theorem F0 (l:List Act):∀ i:Nat,(dZ l i).p=[]∨∃ y,0 < (gL 9 l i).length∧l[(gL 9 l i).getLastD 0]?=some y∧y.k=9∧(dZ l i).p=y.g
 | 0=>.inl rfl
 | i+1=>by
  have ih:=F0 l i
  rw[dZ,g7]
  cases hx:l[i]? with
  | none=>
   have hk:kAt l i=0:=by unfold kAt; rw[hx]
   rw[if_neg (by omega),List.append_nil]
   exact ih
  | some x=>
   have hk:=mX hx
   simp only
   by_cases h6:6≤x.k
   ·rw[if_pos h6,afP_p]
    by_cases h9:x.k=9
    ·rw[if_pos (by omega),if_pos (by omega)]
     right
     refine⟨x,by simp,?_,h9,rfl⟩
     rw[pZ]
     exact hx
    ·rw[if_neg (by omega),if_neg (show¬ kAt l i=9 by omega),List.append_nil]
     split
     ·exact .inl rfl
     ·exact ih
   ·rw[if_neg h6,if_neg (by omega),List.append_nil]
    exact ih
theorem wK (k:Int) (l:List Act) (n:Nat):(gL k l n).length≤n:=by
 unfold gL
 refine Nat.le_trans (List.length_filter_le _ _) ?_
 rw[List.length_range]
 exact Nat.le_refl _
theorem cF.get {p:Pg} {ls:List Ln} (h:cF p ls) {r:Nat} {l:List Act} (hr:p.acts[r]?=some l):∃ L,ls[r]?=some L∧x4 p r l L:=by
 have:=(gEs.1 hr).1
 have hl:r < ls.length:=by rw[h.len]; exact this
 exact⟨ls[r],gEg hl,h.ln r l _ hr (gEg hl)⟩
theorem cF.lk {p:Pg} {ls:List Ln} (h:cF p ls) (hp:POK p):LK p ls:=by
 refine⟨h.len,by rw[h.len]; exact h.n64,fun r l L hr hL=>?_,hp⟩
 have hl:=h.ln r l L hr hL
 have:=hl.len
 have h1:=wK 10 l l.length
 have h2:=wK 9 l l.length
 rw[hl.pre.st,hl.pre.po]
 exact⟨fun i hi=>(eI.1 hi).1,fun i hi=>(eI.1 hi).1,by omega,by omega⟩
theorem vJ:∀(n:Nat) (l:List Int),l.Nodup→(∀ x∈l,0≤x∧x < n)→l.length≤n
 | 0,[],_,_=>Nat.le_refl _
 | 0,x::l,_,h=>by have:=h x (by simp); omega
 | n+1,l,hn,h=>by
  have h1:=vJ n (l.filter fun x=>decide (x≠(n:Int))) (hn.filter _) fun x hx=>by
   obtain⟨a,b⟩:=List.mem_filter.1 hx
   have:=h x a
   have b:x≠(n:Int):=of_decide_eq_true b
   omega
  have h2:l.length≤(l.filter fun x=>decide (x≠(n:Int))).length+1:=by
   by_cases hm:(n:Int)∈l
   ·have e1:l.erase (n:Int)=l.filter fun x=>decide (x≠(n:Int)):=by
     rw[hn.erase_eq_filter]
     exact List.filter_congr fun x _=>by simp[Bool.beq_eq_decide_eq,bne]
    have:=List.length_erase_of_mem hm
    rw[← e1]
    omega
   ·have:l.filter (fun x=>decide (x≠(n:Int)))=l:=List.filter_eq_self.2 fun x hx=>dTr fun e=>hm (e▸hx)
    rw[this]
    omega
  omega
theorem pQ {g:List Int} {n:Nat} (h:g.Nodup) (hg:∀ b∈g,0≤b∧b < (n:Int)):g.length≤n:=vJ n g h hg
theorem O2 {l:List Act} {i:Nat} (hi:i < l.length) (hk:kAt l i=12):bT i ((gL 12 l l.length).map fun c=>(c,(gL 9 l c).getLastD 0))=some ((gL 9 l i).getLastD 0):=by
 have hm:i∈gL 12 l l.length:=eI.2 ⟨hi,hk⟩
 generalize gL 12 l l.length=L at hm
 induction L with
 | nil=>cases hm
 | cons a L ih=>
  rw[List.map_cons,bT]
  by_cases h:i=a
  ·rw[if_pos h,h]
  ·rw[if_neg h]
   exact ih ((List.mem_cons.1 hm).resolve_left h)
def d6 (p:Pg) (ls:List Ln) (r i:Nat):List Pl×Nat:=match p.acts[r]?,ls[r]? with
 | some l,some L=>match l[i]? with
  | some x=>if x.k=8 then(QY ls r i L,ls.length - 1)
   else if x.k=10 then(QU p ls r i l L x,x.g.length)
   else if x.k=12 then match l[(gL 9 l i).getLastD 0]? with
    | some y=>(RL p ls r ((gL 9 l i).getLastD 0) l L y,y.g.length)
    | none=>([],0)
   else([],0)
  | none=>([],0)
 | _,_=>([],0)
theorem LT {k:Int} {l:List Act} {i n q:Nat} (h:q∈gL k l i) (hi:i≤n):q∈gL k l n:=by
 have:=eI.1 h
 exact eI.2 ⟨by omega,this.2⟩
theorem uH {p:Pg} {ls:List Ln} (hC:cF p ls) (hp:POK p) {r i:Nat} {l:List Act} {x:Act} (hr:p.acts[r]?=some l) (hi:l[i]?=some x):
  aD Tryz.prog 56 [ckV p ls,plN r i] (.tup [.list 2 (kI (d6 p ls r i).1),.sc (.int .i64 ((d6 p ls r i).2:Int))]):=by
 obtain⟨L,hL,hO⟩:=hC.get hr
 have hK:=hC.lk hp
 have hil:=(gEs.1 hi).1
 have hk:=mX hi
 have ha:=hO.act i x hi
 unfold d6
 rw[hr,hL]
 simp only[hi]
 by_cases h8:x.k=8
 ·rw[if_pos h8]
  refine xL p ls hr hi hL h8 ?_ (fun M hM=>?_) hK.n
  ·rw[hO.pre.fe]
   exact eI.2 ⟨hil,by omega⟩
  ·obtain⟨b,hb,rfl⟩:=List.getElem_of_mem hM
   have hb2:b < p.acts.length:=by rw[← hC.len]; exact hb
   have hm:=hC.ln b _ _ (gEg hb2) (gEg hb)
   rw[hm.pre.fe]
   have:=wK 8 p.acts[b] p.acts[b].length
   have:=hm.len
   omega
 rw[if_neg h8]
 by_cases h10:x.k=10
 ·rw[if_pos h10]
  obtain⟨g1,g2,g3⟩:=ha.grp (.inr h10)
  have:=pQ g3 fun b hb=>⟨(g2 b hb).1,(g2 b hb).2.1⟩
  have:=hC.n64
  refine vY p ls hK hr hi hL h10 ?_ (by omega) fun b hb=>⟨(g2 b hb).1,(g2 b hb).2.1⟩
  rw[hO.pre.st]
  exact eI.2 ⟨hil,by omega⟩
 rw[if_neg h10]
 by_cases h12:x.k=12
 ·rw[if_pos h12]
  have hal:=ha.al (by unfold cD; apply dFa; omega)
  rw[show x.k.toNat=12 by omega] at hal
  have hp0:0 < (dZ l i).p.length:=of_decide_eq_true (Bool.and_eq_true_iff.1 hal).1
  rcases F0 l i with e | ⟨y,y1,y2,y3,y4⟩
  ·rw[e] at hp0
   cases hp0
  rw[y2]
  have hq:=nL y1
  have hqi:=eI.1 hq
  obtain⟨g1,g2,g3⟩:=(hO.act _ y y2).grp (.inl y3)
  have:=pQ g3 fun b hb=>⟨(g2 b hb).1,(g2 b hb).2.1⟩
  have:=hC.n64
  refine x5 p ls hK hr hi hL h12 ?_ y2 ?_ (by omega) fun b hb=>⟨(g2 b hb).1,(g2 b hb).2.1⟩
  ·rw[hO.pre.wt]
   exact O2 hil (by omega)
  ·rw[hO.pre.po]
   exact LT hq (by omega)
 rw[if_neg h12]
 exact yL p ls hr hi hL h8 h10 h12
def knR (a:List Nat):List AV:=a.map fun n:Nat=>.sc (.int .i64 (n:Int))
instance (a:List Nat):PR (knR a):=inferInstanceAs (PR (a.map fun n:Nat=>AV.sc (.int .i64 (n:Int))))
theorem jD (a:List Nat):(knR a).length=a.length:=by simp[knR]
theorem HN {a:List Nat} {b:Nat} (h:b < a.length):(knR a)[b]?=some (.sc (.int .i64 (a[b]:Int))):=by simp[knR,h]
theorem AF (a:List Nat) (b n:Nat):(knR a).set b (.sc (.int .i64 (n:Int)))=knR (a.set b n):=by simp[knR,List.map_set]
theorem tD (a:List Nat):(knR a).all AV.cell1=true:=by
 rw[List.all_eq_true]
 intro c hc
 obtain⟨n,_,rfl⟩:=List.mem_map.1 hc
 rfl
def gH (a b:List Nat):List Nat:=List.zipWith max a b
theorem jH {a b:List Nat} (h:a.length=b.length):(gH a b).length=a.length:=by simp[gH,h]
def lV (a b:List Nat) (j:Nat):List Nat:=(gH a b).take j++a.drop j
theorem MP {a b:List Nat} {j:Nat} (h:a.length=b.length) (hj:j≤a.length):(lV a b j).length=a.length:=by
 unfold lV
 rw[List.length_append,List.length_take,List.length_drop,jH h]
 omega
theorem K0 {a b:List Nat} {j:Nat} (h:a.length=b.length) (hj:j < a.length):(lV a b j)[j]?=some a[j]:=by
 unfold lV
 rw[List.getElem?_append_right (by rw[List.length_take,jH h]; omega),List.length_take,jH h,Nat.min_eq_left (by omega),Nat.sub_self,List.getElem?_drop]
 simp[hj]
theorem IT {a b:List Nat} {j:Nat} (h:a.length=b.length) (hj:j < a.length):(lV a b j).set j (max a[j] (b[j]'(by omega)))=lV a b (j+1):=by
 unfold lV
 have h1:((gH a b).take j).length=j:=by rw[List.length_take,jH h]; omega
 rw[List.set_append_right _ _ (by omega),h1,Nat.sub_self,List.drop_eq_getElem_cons hj,List.set_cons_zero,List.take_succ_eq_append_getElem (by rw[jH h]; exact hj),List.append_assoc]
 congr 1
 simp[gH]
theorem K6 {a b:List Nat} (h:a.length=b.length):lV a b a.length=gH a b:=by
 unfold lV
 rw[List.drop_length,List.append_nil,List.take_of_length_le (by rw[jH h]; exact Nat.le_refl _)]
theorem wU:∀(a b:List Nat),a.length=b.length→∀ ks:List Go.Av.LK,ks=List.replicate a.length .i→cK ks (a.map fun n:Nat=>Value.int .i64 (n:Int)) (b.map fun n:Nat=>Value.int .i64 (n:Int))=some (decide (a=b))
 | [],[],_,ks,h=>by subst h; rfl
 | x::a,y::b,h,ks,hk=>by
  subst hk
  have ih:=wU a b (by simpa using h) _ rfl
  rw[List.length_cons,List.replicate_succ,List.map_cons,List.map_cons]
  simp only[cK,lX,decide_true]
  rw[ih]
  simp only[oIn]
  rw[Bool.eq_iff_iff]
  simp
  intro _
  constructor<;>omega
theorem QD (a:List Nat):scs (knR a)=some (a.map fun n:Nat=>Value.int .i64 (n:Int)):=by
 induction a with
 | nil=>rfl
 | cons x a ih=>
  show(match scs (knR a) with | some q=>some (Value.int .i64 (x:Int)::q) | none=>none)=_
  rw[ih]
  rfl
theorem I0 {g i:Nat} {fr:Fr} {H:Heap} {x y:Operand} {a b:List Nat} {ks:List Go.Av.LK} (hx:ev fr x=.agg (knR a)) (hy:ev fr y=.agg (knR b)) (hl:a.length=b.length) (hk:ks=List.replicate a.length .i):
  aG g i (.xop (.eqAgg true ks) [x,y]) fr H=some (.sc (.bool (!decide (a=b))),H):=by
 simp only[aG,aX,List.map_cons,List.map_nil,hx,hy,lF,gE,QD,wU a b hl ks hk,gQ]
 simp
theorem JR {α:Type} {l:List α} {q:Nat} {a:α} (h:l[q]?=some a):l.set q a=l:=by
 obtain⟨h1,rfl⟩:=gEs.1 h
 exact List.set_getElem_self h1
theorem join1 (rows:List (List Nat)) (q:Nat) (a b:List Nat) (ha:a.length=64) (hb:b.length=64) (hq:rows[q]?=some a):
  aN Tryz.prog 57 [.ptr 0 0 q 0,.agg (knR b)] [[.cells 64 (rows.map knR)]] fun res H'=>res=.sc (.bool (!decide (gH a b=a)))∧H'=[[.cells 64 ((rows.set q (gH a b)).map knR)]]:=by
 refine aN.of cF57 ?_ (nlB rfl)
 have e1:=jD a
 rw[ha] at e1
 have e2:=jD b
 rw[hb] at e2
 have c1:=tD a
 have c2:=tD b
 have hq1:(rows.map knR)[q]?=some (knR a):=by rw[List.getElem?_map,hq]; rfl
 refine AWP.seq ?_
 refine AWP.region ?_
 refine Reg.o rfl (wT rfl c2 e2) ?_
 refine aA ?_
 have hqr:q < rows.length:=(gEs.1 hq).1
 refine AWP.loop (fun j:Nat=>[(0,.ptr 0 0 q 0),(5,.cptr (knR a)),(11,.agg (knR b)),(12,.sc (.int .i64 (j:Int)))]) (fun j=>[[.cells 64 ((rows.set q (lV a b j)).map knR)]]) (fun j=>j≤64) (fun j=>64 - j) 0 (Nat.zero_le _) ?_ ?_
 ·have hz:rows.set q (lV a b 0)=rows:=by
   have:lV a b 0=a:=by unfold lV; simp
   rw[this]
   exact JR hq
  rw[hz]
  exact Sub.w [] [[(0,0)]]
 rintro j hj
 refine aA ?_
 refine AWP.condD rfl (fun h=>?_) (fun h=>?_)
 ·have hb1:=HN (a:=b) (b:=j) (by omega)
  have hrow:((rows.set q (lV a b j)).map knR)[q]?=some (knR (lV a b j)):=by simp[hqr]
  have hk:=MP (a:=a) (b:=b) (j:=j) (by omega) (by omega)
  have hc:(knR (lV a b j))[j]?=some (.sc (.int .i64 (a[j]:Int))):=by
   have:=K0 (a:=a) (b:=b) (j:=j) (by omega) (by omega)
   simp[knR,this]
  have hs:=IT (a:=a) (b:=b) (j:=j) (by omega) (by omega)
  have hl64:j < (knR (lV a b j)).length:=by rw[jD]; omega
  generalize b[j]=y at *
  generalize a[j]=z at *
  refine aA ?_
  refine Reg.o rfl (AU rfl rfl rfl h hb1) ?_
  refine aA ?_
  refine DK.nil ⟨by kernel_rfl,?_⟩
  refine aA ?_
  refine⟨j+1,by omega,by omega,?_⟩
  have bD:((rows.set q (lV a b j)).map knR).set q ((knR (lV a b j)).set j (.sc (.int .i64 ((max z y:Nat):Int))))=(rows.set q (lV a b (j+1))).map knR:=by
   rw[AF,hs,← List.map_set,List.set_set]
  exact Sub.w [] [[(0,0)]]
 ·have hj2:j=64:=by omega
  subst hj2
  have hka:lV a b 64=gH a b:=by
   have:=K6 (a:=a) (b:=b) (by omega)
   rwa[ha] at this
  rw[hka]
  have hkm:=jH (a:=a) (b:=b) (by omega)
  have e3:=jD (gH a b)
  rw[hkm,ha] at e3
  have hrow:((rows.set q (gH a b)).map knR)[q]?=some (knR (gH a b)):=by simp[hqr]
  refine aA ?_
  refine DK.o rfl (FG rfl (Nat.le_of_eq e1.symm) (List.take_of_length_le (Nat.le_of_eq e1))) ?_
  refine DK.o rfl (I0 rfl rfl hkm (by rw[hkm,ha]; rfl)) ?_
  refine aA ?_
  refine DK.nil ⟨by kernel_rfl,?_⟩
  refine aA ?_
  exact A4 [[(0,0)]] (⟨rfl,rfl⟩)
theorem HS {H:Heap} {g i:Nat} {rows:List (List Nat)} {q:Nat} {a b:List Nat} (hx:hget H g i=some (.cells 64 (rows.map knR))) (ha:a.length=64) (hb:b.length=64) (hq:rows[q]?=some a):
  aN Tryz.prog 57 [.ptr g i q 0,.agg (knR b)] H fun res H'=>res=.sc (.bool (!decide (gH a b=a)))∧H'=bD H g i (.cells 64 ((rows.set q (gH a b)).map knR)):=by
 have hp:∀ rows:List (List Nat),lI (.cells 64 (rows.map knR)):=fun rows r hr=>by
  obtain⟨x,_,rfl⟩:=List.mem_map.1 hr
  exact pr (knR x)
 refine(aN.via1 (args:=[.ptr g i q 0,.agg (knR b)]) (args':=[.ptr 0 0 q 0,.agg (knR b)]) g i (R:=fun res y=>res=.sc (.bool (!decide (gH a b=a)))∧y=.cells 64 ((rows.set q (gH a b)).map knR)) ((join1 rows q a b ha hb hq).mono ?_) hx (hp rows) ⟨.ptr _ _ _ _ _ _ rfl,.pure (pv (.agg (knR b))),trivial⟩).mono ?_
 ·rintro res H' ⟨rfl,rfl⟩
  exact⟨_,rfl,.sc _,hp _,rfl,rfl⟩
 ·rintro res H' ⟨y,rfl,rfl,rfl⟩
  exact⟨rfl,rfl⟩
def umB (es:List (List Int×AV)):Blk:=match es with
 | []=>.map []
 | e::l=>.umap 2 (e::l)
theorem L3 (c:List Int) (v:AV) (es:List (List Int×AV)):umB (dW c v es)=.umap 2 (dW c v es):=by
 cases es with
 | nil=>rfl
 | cons e l=>
  obtain⟨d,y⟩:=e
  unfold dW
  split<;>rfl
theorem GN {T:AV→AV→Prop} {ρ:Nat→Nat→Option (Nat×Nat)} {es:List (List Int×AV)} (h:∀ x∈es,bP x.2):ToB T ρ (umB es) (umB es):=by
 cases es with
 | nil=>exact ToB.mapE rfl fun x hx=>by cases hx
 | cons e l=>exact .umap _ _ h
theorem BY {g i:Nat} {fr:Fr} {H:Heap} {z:AV} {x ix:Operand} {g' i':Nat} {p q:Int} {es:List (List Int×AV)} {v:AV} (hx:ev fr x=.mref g' i') (hk:ev fr ix=.agg [.sc (.int .i64 p),.sc (.int .i64 q)]) (hh:hget H g' i'=some (umB es)) (hv:(bU [p,q] es).getD z=v):
  aG g i (.xop (.lookF [.i,.i] z false) [x,ix]) fr H=some (v,H):=by
 have e1:gE (.agg [.sc (.int .i64 p),.sc (.int .i64 q)])=some [.int .i64 p,.int .i64 q]:=rfl
 have e2:∃ r,cK [.i,.i] [.int .i64 p,.int .i64 q] [.int .i64 p,.int .i64 q]=some r:=⟨_,rfl⟩
 obtain⟨r,e2⟩:=e2
 have e3:pS [.int .i64 p,.int .i64 q]=some [p,q]:=rfl
 subst hv
 cases es with
 | nil=>
  have hh:hget H g' i'=some (.map []):=hh
  simp only[aG,aX,List.map_cons,List.map_nil,lF,hk,e1,e2,hx,j3,hh,iE]
  rfl
 | cons e l=>
  have hh:hget H g' i'=some (.umap 2 (e::l)):=hh
  have e4:Nat.beq [p,q].length 2=true:=rfl
  simp only[aG,aX,List.map_cons,List.map_nil,lF,hk,e1,e2,hx,j3,hh,e3,e4]
  cases bU [p,q] (e::l)<;>rfl
theorem DY {g i:Nat} {fr:Fr} {H:Heap} {m ix x:Operand} {g' i':Nat} {p q:Int} {es:List (List Int×AV)} {v:AV} (hx:ev fr m=.mref g' i') (hk:ev fr ix=.agg [.sc (.int .i64 p),.sc (.int .i64 q)]) (hv:ev fr x=v) (hh:hget H g' i'=some (umB es)) (hf:bU [p,q] es=none):
  aG g i (.insF [.i,.i] m ix x) fr H=some (.undef,bD H g' i' (umB (dW [p,q] v es))):=by
 have e1:gE (.agg [.sc (.int .i64 p),.sc (.int .i64 q)])=some [.int .i64 p,.int .i64 q]:=rfl
 have e2:∃ r,cK [.i,.i] [.int .i64 p,.int .i64 q] [.int .i64 p,.int .i64 q]=some r:=⟨_,rfl⟩
 obtain⟨r,e2⟩:=e2
 have e3:pS [.int .i64 p,.int .i64 q]=some [p,q]:=rfl
 rw[L3]
 cases es with
 | nil=>
  have hh:hget H g' i'=some (.map []):=hh
  simp only[aG,hk,e1,e2,hx,hh,e3,hv]
  rfl
 | cons e l=>
  have hh:hget H g' i'=some (.umap 2 (e::l)):=hh
  have e4:Nat.beq [p,q].length 2=true:=rfl
  simp only[aG,hk,e1,e2,hx,hh,e3,e4,hf,hv]
def oB (o:Nat→List (List Nat)) (b:Nat):Blk:=.cells 64 ((o b).map knR)
instance (rows:List (List Nat)):PRs (rows.map knR):=inferInstance
def iX (n:Nat) (g:Nat→AV) (m:Nat) (o:Nat→List (List Nat)) (es:List (List Int×AV)):Heap:=[[.cells 1 (row1 n g)],fam m (oB o),[umB es]]
theorem Sub.oH {N:Nat} {fr fr':Fr} {H:Heap} {n m:Nat} {g g':Nat→AV} {o:Nat→List (List Nat)} {es:List (List Int×AV)} (h0:hget H 0 0=some (.cells 1 (row1 n g))) (h1:∀ b,b < m→hget H 1 b=some (oB o b)) (h2:hget H 2 0=some (umB es)) (hp:∀ x∈es,bP x.2)
  (hg:∀ b,b < n→To (ToT (H++gh []) H.length (fH [.c [(0,0)],.w 1 m [],.c [(2,0)]])) (rho (idK [.c [(0,0)],.w 1 m [],.c [(2,0)]])) (g b) (g' b)) (h5:aW (ToT (H++gh []) H.length (fH [.c [(0,0)],.w 1 m [],.c [(2,0)]])) (rho (idK [.c [(0,0)],.w 1 m [],.c [(2,0)]])) fr fr'):
  Sub 0 N fr H fr' (iX n g' m o es):=by
 have e:H++gh []=H:=List.append_nil _
 refine Sub.toK [] [.c [(0,0)],.w 1 m [],.c [(2,0)]] h5 ⟨⟨⟨_,by rw[e]; exact h0,ToB.row1 hg⟩,trivial⟩,bA.ofFam (fun b hb=>⟨_,by rw[e]; exact h1 b hb,ToB.rows rfl (prs _)⟩),⟨⟨_,by rw[e]; exact h2,GN hp⟩,trivial⟩,trivial⟩ trivial
theorem Sub.oS {N:Nat} {fr fr':Fr} {H:Heap} {n m:Nat} {g g':Nat→AV} {o:Nat→List (List Nat)} {es:List (List Int×AV)} {q:Nat×Nat} (h0:hget H 0 0=some (.cells 1 (row1 n g))) (h1:∀ b,b < m→hget H 1 b=some (oB o b)) (hq:hget H q.1 q.2=some (oB o m)) (h2:hget H 2 0=some (umB es)) (hp:∀ x∈es,bP x.2) (hok:okK [.c [(0,0)],.w 1 m [q],.c [(2,0)]]=true)
  (hg:∀ b,b < n→To (ToT (H++gh []) H.length (fH [.c [(0,0)],.w 1 m [q],.c [(2,0)]])) (rho (idK [.c [(0,0)],.w 1 m [q],.c [(2,0)]])) (g b) (g' b)) (h5:aW (ToT (H++gh []) H.length (fH [.c [(0,0)],.w 1 m [q],.c [(2,0)]])) (rho (idK [.c [(0,0)],.w 1 m [q],.c [(2,0)]])) fr fr'):
  Sub 0 N fr H fr' (iX n g' (m+1) o es):=by
 have e:H++gh []=H:=List.append_nil _
 refine Sub.toK [] [.c [(0,0)],.w 1 m [q],.c [(2,0)]] h5 ⟨⟨⟨_,by rw[e]; exact h0,ToB.row1 hg⟩,trivial⟩,bA.famS (fun b hb=>⟨_,by rw[e]; exact h1 b hb,ToB.rows rfl (prs _)⟩) (by rw[e]; exact hq) (ToB.rows rfl (prs _)),⟨⟨_,by rw[e]; exact h2,GN hp⟩,trivial⟩,trivial⟩ trivial hok
theorem GZ {m k:Nat} {o:Nat→List (List Nat)} {x:List (List Nat)}:(fam m (oB o)).set k (.cells 64 (x.map knR))=fam m (oB fun b=>if b=k then x else o b):=by
 rw[sV]
 refine fD fun j _=>?_
 by_cases h:j=k<;>simp[h,oB]
def z64:List Nat:=List.replicate 64 0
def bH (p:Pg) (b:Nat):Nat:=((p.acts[b]?).getD []).length
theorem c9 {p:Pg} {r:Nat} {l:List Act} (h:p.acts[r]?=some l):bH p r=l.length:=by unfold bH; rw[h]; rfl
def j7 (r len j:Nat):List (List Nat):=(List.range (len+1)).map fun i=>if i≤j then z64.set r i else z64
theorem mN (r len j:Nat):(j7 r len j).length=len+1:=by simp[j7]
theorem LU {r:Nat}:z64.set r 0=z64:=by
 unfold z64
 apply List.ext_getElem?
 intro i
 rw[List.getElem?_set]
 by_cases h:r=i
 ·subst h
  rw[if_pos rfl,List.length_replicate]
  by_cases h2:r < 64
  ·rw[if_pos h2,List.getElem?_replicate,if_pos h2]
  ·rw[if_neg h2,List.getElem?_eq_none (by rw[List.length_replicate]; omega)]
 ·rw[if_neg h]
theorem GO (r len:Nat):j7 r len 0=List.replicate (len+1) z64:=by
 unfold j7
 rw[List.eq_replicate_iff]
 refine⟨by simp,fun x hx=>?_⟩
 obtain⟨i,_,rfl⟩:=List.mem_map.1 hx
 split
 ·rename_i h
  have:i=0:=by omega
  subst this
  exact LU
 ·rfl
theorem kM {r len j i:Nat} (hi:i < len+1):(j7 r len j)[i]?=some (if i≤j then z64.set r i else z64):=by
 unfold j7
 rw[List.getElem?_map,List.getElem?_range hi]
 rfl
theorem FL {r len j:Nat} (hj:j < len):(j7 r len j).set (j+1) (z64.set r (j+1))=j7 r len (j+1):=by
 apply List.ext_getElem?
 intro i
 rw[List.getElem?_set]
 by_cases h:j+1=i
 ·subst h
  rw[if_pos rfl,mN,if_pos (by omega),kM (by omega),if_pos (Nat.le_refl _)]
 ·rw[if_neg h]
  by_cases hi:i < len+1
  ·rw[kM hi,kM hi]
   by_cases h2:i≤j
   ·rw[if_pos h2,if_pos (by omega)]
   ·rw[if_neg h2,if_neg (by omega)]
  ·rw[List.getElem?_eq_none (by rw[mN]; omega),List.getElem?_eq_none (by rw[mN]; omega)]
theorem RJ:fF [(64,.int .i64 0)]=knR z64:=rfl
theorem OV (n:Nat):List.replicate n (fF [(64,.int .i64 0)])=(List.replicate n z64).map knR:=by rw[RJ,List.map_replicate]
def tU (p:Pg) (b:Nat):List (List Nat):=j7 b (bH p b) (bH p b)
structure FU (p:Pg) (ls:List Ln) (r i:Nat) (es:List (List Int×AV)):Prop where
 f:∀ a j:Nat,bU [(a:Int),(j:Int)] es=if (a < r∨a=r∧j≤i)∧1≤j∧j≤bH p a then some (.list 2 (kI (d6 p ls a (j - 1)).1)) else none
 p:∀ x∈es,bP x.2
theorem wW (c:List Int) (x:AV):∀ es:List (List Int×AV),bU c es=none→bU c (dW c x es)=some x
 | [],_=>by simp[dW,bU]
 | (d,y)::es,h=>by
  unfold bU at h
  split at h
  ·cases h
  ·rename_i hd
   unfold dW
   split
   ·simp[bU]
   ·unfold bU
    rw[hd]
    exact wW c x es h
theorem yZ {c:List Int} {v:AV} (hv:bP v):∀ {es:List (List Int×AV)},(∀ x∈es,bP x.2)→∀ x∈dW c v es,bP x.2
 | [],_,x,hx=>by rw[List.mem_singleton.1 hx]; exact hv
 | (d,y)::es,h,x,hx=>by
  unfold dW at hx
  split at hx
  ·rcases List.mem_cons.1 hx with rfl | hx
   ·exact hv
   ·exact h x hx
  ·rcases List.mem_cons.1 hx with rfl | hx
   ·exact h _ (by simp)
   ·exact yZ hv (fun x hx=>h x (by simp[hx])) x hx
theorem FU.zero (p:Pg) (ls:List Ln):FU p ls 0 0 []:=⟨fun a j=>by rw[if_neg (by omega)]; rfl,fun _ h=>by cases h⟩
theorem FU.next {p:Pg} {ls:List Ln} {r i:Nat} {es:List (List Int×AV)} (h:FU p ls r i es) (hi:bH p r≤i):FU p ls (r+1) 0 es:=⟨fun a j=>by
 rw[h.f a j]
 by_cases c:(a < r∨a=r∧j≤i)∧1≤j∧j≤bH p a
 ·rw[if_pos c,if_pos ⟨by omega,c.2⟩]
 ·rw[if_neg c,if_neg]
  rintro⟨c1,c2,c3⟩
  refine c ⟨?_,c2,c3⟩
  by_cases ha:a=r
  ·subst ha; omega
  ·omega,h.p⟩
theorem FU.free {p:Pg} {ls:List Ln} {r i:Nat} {es:List (List Int×AV)} (h:FU p ls r i es):bU [(r:Int),((i+1:Nat):Int)] es=none:=by
 rw[h.f r (i+1),if_neg (by omega)]
theorem FU.step {p:Pg} {ls:List Ln} {r i:Nat} {es:List (List Int×AV)} (h:FU p ls r i es) (hi:i < bH p r):FU p ls r (i+1) (dW [(r:Int),((i+1:Nat):Int)] (.list 2 (kI (d6 p ls r i).1)) es):=by
 refine⟨fun a j=>?_,yZ (.list _ _ (prs _)) h.p⟩
 by_cases c:a=r∧j=i+1
 ·obtain⟨rfl,rfl⟩:=c
  rw[wW _ _ _ h.free,if_pos (by omega)]
  rfl
 ·rw[nJ _ (fun e=>c (by injection e with e1 e2; injection e2 with e2 _; omega)),h.f a j]
  by_cases d:(a < r∨a=r∧j≤i)∧1≤j∧j≤bH p a
  ·rw[if_pos d,if_pos ⟨by omega,d.2⟩]
  ·rw[if_neg d,if_neg (by omega)]
abbrev Ord:=List (List (List Nat))
def cO (o:Ord) (r:Nat):List (List Nat):=o.getD r []
def dN (o:Ord) (r i:Nat):List Nat:=(cO o r).getD i []
def eS (p:Pg) (ls:List Ln) (r i:Nat):List Pl:=if 1≤i∧i≤bH p r then(d6 p ls r (i - 1)).1 else[]
def s7 (k:List Nat) (x:Pl):List Nat:=k.set x.1 (max (k.getD x.1 0) (x.2+1))
def oN (o:Ord) (k:List Nat) (b:Nat):List Nat:=if 0 < k.getD b 0 then gH k (dN o b (k.getD b 0 - 1)) else k
def kB (p:Pg) (ls:List Ln) (o:Ord) (r i:Nat):List Nat:=(eS p ls r i).foldl s7 (dN o r i)
def kC (n:Nat) (p:Pg) (ls:List Ln) (o:Ord) (r i:Nat):List Nat:=(List.range n).foldl (oN o) (kB p ls o r i)
def newK (n:Nat) (p:Pg) (ls:List Ln) (o:Ord) (r i:Nat):List Nat:=gH (dN o r i) (kC n p ls o r i)
def rT (o:Ord) (r i:Nat) (k:List Nat):Ord:=o.set r ((cO o r).set i k)
def jN (n:Nat) (p:Pg) (ls:List Ln) (r:Nat) (s:Bool×Ord) (i:Nat):Bool×Ord:=(s.1 || !decide (newK n p ls s.2 r i=dN s.2 r i),rT s.2 r i (newK n p ls s.2 r i))
def jC (n:Nat) (p:Pg) (ls:List Ln) (s:Bool×Ord) (r:Nat):Bool×Ord:=(List.range (bH p r+1)).foldl (jN n p ls r) s
def j9 (n:Nat) (p:Pg) (ls:List Ln) (o:Ord):Bool×Ord:=(List.range n).foldl (jC n p ls) (false,o)
structure OOK (p:Pg) (n:Nat) (o:Ord):Prop where
 len:o.length=n
 rows:∀ b,b < n→(cO o b).length=bH p b+1
 row:∀ b i,b < n→i≤bH p b→(dN o b i).length=64
 bd:∀ b i c,b < n→i≤bH p b→(dN o b i).getD c 0≤bH p c
def KOK (p:Pg) (k:List Nat):Prop:=k.length=64∧∀ c,k.getD c 0≤bH p c
theorem OOK.k {p:Pg} {n:Nat} {o:Ord} (h:OOK p n o) {b i:Nat} (hb:b < n) (hi:i≤bH p b):KOK p (dN o b i):=⟨h.row b i hb hi,fun c=>h.bd b i c hb hi⟩
theorem sT {k:List Nat} {a v c:Nat} (h:a < k.length):(k.set a v).getD c 0=if a=c then v else k.getD c 0:=by
 rw[List.getD_eq_getElem?_getD,List.getElem?_set,List.getD_eq_getElem?_getD]
 by_cases e:a=c
 ·rw[if_pos e,if_pos e,if_pos h]; rfl
 ·rw[if_neg e,if_neg e]
theorem zS {a b:List Nat} (h:a.length=b.length) (c:Nat):(gH a b).getD c 0=max (a.getD c 0) (b.getD c 0):=by
 unfold gH
 rw[List.getD_eq_getElem?_getD,List.getD_eq_getElem?_getD,List.getD_eq_getElem?_getD,List.getElem?_zipWith]
 by_cases hc:c < a.length
 ·rw[gEg hc,gEg (show c < b.length by omega)]
  rfl
 ·rw[List.getElem?_eq_none (by omega),List.getElem?_eq_none (show b.length≤c by omega)]
  rfl
theorem KOK.fst {p:Pg} {k:List Nat} (h:KOK p k) {x:Pl} (h1:x.1 < 64) (h2:x.2 < bH p x.1):KOK p (s7 k x):=by
 obtain⟨q1,q2⟩:=h
 refine⟨by unfold s7; rw[List.length_set]; exact q1,fun c=>?_⟩
 unfold s7
 rw[sT (by omega)]
 by_cases e:x.1=c
 ·rw[if_pos e,← e]
  have:=q2 x.1
  omega
 ·rw[if_neg e]
  exact q2 c
theorem KOK.max {p:Pg} {a b:List Nat} (ha:KOK p a) (hb:KOK p b):KOK p (gH a b):=by
 have hl:a.length=b.length:=ha.1.trans hb.1.symm
 refine⟨(jH hl).trans ha.1,fun c=>?_⟩
 rw[zS hl]
 have:=ha.2 c
 have:=hb.2 c
 omega
theorem KOK.join {p:Pg} {n:Nat} {o:Ord} (ho:OOK p n o) {k:List Nat} (h:KOK p k) {b:Nat} (hb:b < n):KOK p (oN o k b):=by
 unfold oN
 split
 ·have:=h.2 b
  exact h.max (ho.k hb (by omega))
 ·exact h
theorem d8 {α β:Type} {f:α→β→α} {I:α→Prop}:∀ {l:List β} {a:α},I a→(∀ a b,b∈l→I a→I (f a b))→I (l.foldl f a)
 | [],_,h,_=>h
 | b::l,_,h,hf=>d8 (l:=l) (hf _ b (by simp) h) fun a c hc=>hf a c (by simp[hc])
structure FOK (p:Pg) (ls:List Ln):Prop where
 m:∀ r i x,x∈eS p ls r i→x.1 < 64∧x.2 < bH p x.1
 l:∀ r i,(eS p ls r i).length≤1000000
theorem KOK.kB {p:Pg} {ls:List Ln} {n:Nat} {o:Ord} (hF:FOK p ls) (ho:OOK p n o) {r i:Nat} (hr:r < n) (hi:i≤bH p r):KOK p (kB p ls o r i):=
 d8 (ho.k hr hi) fun _ x hx h=>h.fst (hF.m r i x hx).1 (hF.m r i x hx).2
theorem KOK.kC {p:Pg} {ls:List Ln} {n:Nat} {o:Ord} (hF:FOK p ls) (ho:OOK p n o) {r i:Nat} (hr:r < n) (hi:i≤bH p r):KOK p (kC n p ls o r i):=
 d8 (KOK.kB hF ho hr hi) fun _ _ hb h=>h.join ho (List.mem_range.1 hb)
theorem KOK.newK {p:Pg} {ls:List Ln} {n:Nat} {o:Ord} (hF:FOK p ls) (ho:OOK p n o) {r i:Nat} (hr:r < n) (hi:i≤bH p r):KOK p (newK n p ls o r i):=
 (ho.k hr hi).max (KOK.kC hF ho hr hi)
theorem sX {o:Ord} {r b:Nat} {x:List (List Nat)} (h:r < o.length):cO (o.set r x) b=if b=r then x else cO o b:=by
 unfold cO
 rw[List.getD_eq_getElem?_getD,List.getElem?_set,List.getD_eq_getElem?_getD]
 by_cases e:r=b
 ·rw[if_pos e,if_pos e.symm,if_pos h]; rfl
 ·rw[if_neg e,if_neg (fun q=>e q.symm)]
theorem v6 {o:Ord} {r i b j:Nat} {k:List Nat} (h:r < o.length) (hi:i < (cO o r).length):dN (rT o r i k) b j=if b=r∧j=i then k else dN o b j:=by
 unfold dN rT
 rw[sX h]
 by_cases e:b=r
 ·subst e
  rw[if_pos rfl,List.getD_eq_getElem?_getD,List.getElem?_set,List.getD_eq_getElem?_getD]
  by_cases e2:i=j
  ·rw[if_pos e2,if_pos hi,if_pos ⟨rfl,e2.symm⟩]; rfl
  ·rw[if_neg e2,if_neg (fun q=>e2 q.2.symm)]
 ·rw[if_neg e,if_neg (fun q=>e q.1)]
theorem OOK.set {p:Pg} {n:Nat} {o:Ord} (h:OOK p n o) {r i:Nat} {k:List Nat} (hr:r < n) (hi:i≤bH p r) (hk:KOK p k):OOK p n (rT o r i k):=by
 have h1:r < o.length:=by rw[h.len]; exact hr
 have h2:i < (cO o r).length:=by rw[h.rows r hr]; omega
 refine⟨by unfold rT; rw[List.length_set]; exact h.len,fun b hb=>?_,fun b j hb hj=>?_,fun b j c hb hj=>?_⟩
 ·unfold rT
  rw[sX h1]
  split
  ·rename_i e
   rw[e,List.length_set]
   exact h.rows r hr
  ·exact h.rows b hb
 ·rw[v6 h1 h2]
  split
  ·exact hk.1
  ·exact h.row b j hb hj
 ·rw[v6 h1 h2]
  split
  ·exact hk.2 c
  ·exact h.bd b j c hb hj
theorem OOK.step {p:Pg} {ls:List Ln} {n:Nat} (hF:FOK p ls) {s:Bool×Ord} (h:OOK p n s.2) {r i:Nat} (hr:r < n) (hi:i≤bH p r):OOK p n (jN n p ls r s i).2:=
 h.set hr hi (KOK.newK hF h hr hi)
def m6 (o:Ord):Nat:=(o.map fun rows=>(rows.map List.sum).sum).sum
theorem BB:∀ {l:List Nat} {i v:Nat} (h:i < l.length),(l.set i v).sum+l[i]=l.sum+v
 | x::l,0,v,_=>by simp; omega
 | x::l,i+1,v,h=>by
  have:=BB (l:=l) (i:=i) (v:=v) (by simpa using h)
  simp only[List.set_cons_succ,List.sum_cons,List.getElem_cons_succ]
  omega
theorem L8 {o:Ord} {r i:Nat} {k:List Nat} (h:r < o.length) (hi:i < (cO o r).length):m6 (rT o r i k)+(dN o r i).sum=m6 o+k.sum:=by
 have e1:cO o r=o[r]:=by unfold cO; rw[List.getD_eq_getElem?_getD,gEg h]; rfl
 have hi':i < o[r].length:=by rw[← e1]; exact hi
 have e2:dN o r i=o[r][i]:=by unfold dN; rw[e1,List.getD_eq_getElem?_getD,gEg hi']; rfl
 unfold m6 rT
 rw[e2,e1,List.map_set,List.map_set]
 have h1:=BB (l:=o.map fun rows=>(rows.map List.sum).sum) (i:=r) (v:=((o[r].map List.sum).set i k.sum).sum) (by rw[List.length_map]; exact h)
 have h2:=BB (l:=o[r].map List.sum) (i:=i) (v:=k.sum) (by rw[List.length_map]; exact hi')
 simp only[List.getElem_map] at h1 h2
 omega
theorem CL:∀ {a b:List Nat},a.length=b.length→a.sum≤(gH a b).sum∧(gH a b≠a→a.sum < (gH a b).sum)
 | [],[],_=>⟨Nat.le_refl _,fun h=>absurd rfl h⟩
 | x::a,y::b,h=>by
  obtain⟨h1,h2⟩:=CL (a:=a) (b:=b) (by simpa using h)
  have e:gH (x::a) (y::b)=max x y::gH a b:=rfl
  rw[e]
  simp only[List.sum_cons]
  refine⟨by omega,fun hne=>?_⟩
  by_cases hx:max x y=x
  ·have:=h2 fun e2=>hne (by rw[hx,e2])
   omega
  ·omega
theorem JC {p:Pg} {ls:List Ln} {n:Nat} (hF:FOK p ls) {s:Bool×Ord} (h:OOK p n s.2) {r i:Nat} (hr:r < n) (hi:i≤bH p r):
  m6 s.2≤m6 (jN n p ls r s i).2∧((jN n p ls r s i).1=true→s.1=true∨m6 s.2 < m6 (jN n p ls r s i).2):=by
 have h1:r < s.2.length:=by rw[h.len]; exact hr
 have h2:i < (cO s.2 r).length:=by rw[h.rows r hr]; omega
 have hs:=L8 (k:=newK n p ls s.2 r i) h1 h2
 have hl:(dN s.2 r i).length=(kC n p ls s.2 r i).length:=(h.row r i hr hi).trans (KOK.kC hF h hr hi).1.symm
 obtain⟨k1,k2⟩:=CL hl
 have e:newK n p ls s.2 r i=gH (dN s.2 r i) (kC n p ls s.2 r i):=rfl
 show m6 s.2≤m6 (rT s.2 r i (newK n p ls s.2 r i))∧((s.1 || !decide (newK n p ls s.2 r i=dN s.2 r i))=true→_)
 rw[← e] at k1 k2
 refine⟨by omega,fun hm=>?_⟩
 by_cases c:newK n p ls s.2 r i=dN s.2 r i
 ·rw[dTr c] at hm
  left
  simpa using hm
 ·right
  have:=k2 c
  show m6 s.2 < m6 (rT s.2 r i (newK n p ls s.2 r i))
  omega
structure uS (p:Pg) (n S:Nat) (s:Bool×Ord):Prop where
 ok:OOK p n s.2
 ge:S≤m6 s.2
 gt:s.1=true→S < m6 s.2
theorem uS.step {p:Pg} {ls:List Ln} {n S:Nat} (hF:FOK p ls) {s:Bool×Ord} (h:uS p n S s) {r i:Nat} (hr:r < n) (hi:i≤bH p r):uS p n S (jN n p ls r s i):=by
 obtain⟨h1,h2⟩:=JC hF h.ok hr hi
 refine⟨h.ok.step hF hr hi,Nat.le_trans h.ge h1,fun e=>?_⟩
 rcases h2 e with e2 | e2
 ·exact Nat.lt_of_lt_of_le (h.gt e2) h1
 ·exact Nat.lt_of_le_of_lt h.ge e2
theorem uS.row {p:Pg} {ls:List Ln} {n S:Nat} (hF:FOK p ls) {s:Bool×Ord} (h:uS p n S s) {r:Nat} (hr:r < n):uS p n S (jC n p ls s r):=
 d8 h fun _ i hi h=>h.step hF hr (by have:=List.mem_range.1 hi; omega)
theorem uS.pass {p:Pg} {ls:List Ln} {n:Nat} (hF:FOK p ls) {o:Ord} (h:OOK p n o):uS p n (m6 o) (j9 n p ls o):=
 d8 (I:=uS p n (m6 o)) ⟨h,Nat.le_refl _,fun e=>by cases e⟩ fun _ r hr h=>h.row hF (List.mem_range.1 hr)
theorem BU:∀ {l:List Nat} {m:Nat},(∀ x∈l,x≤m)→l.sum≤l.length * m
 | [],_,_=>Nat.zero_le _
 | x::l,m,h=>by
  have:=BU (l:=l) (m:=m) fun y hy=>h y (by simp[hy])
  have:=h x (by simp)
  simp only[List.sum_cons,List.length_cons,Nat.add_mul]
  omega
def SOK (p:Pg):Prop:=∀ b,bH p b≤100
theorem PO {p:Pg} {n:Nat} {o:Ord} (hS:SOK p) (h:OOK p n o):m6 o≤n * 646400:=by
 unfold m6
 have h1:∀ x∈o.map (fun rows=>(rows.map List.sum).sum),x≤646400:=fun x hx=>by
  obtain⟨rows,hr,rfl⟩:=List.mem_map.1 hx
  obtain⟨b,hb,rfl⟩:=List.getElem_of_mem hr
  have hb2:b < n:=by rw[← h.len]; exact hb
  have e1:cO o b=o[b]:=by unfold cO; rw[List.getD_eq_getElem?_getD,gEg hb]; rfl
  have hl:=h.rows b hb2
  rw[e1] at hl
  have h2:∀ x∈o[b].map List.sum,x≤6400:=fun x hx=>by
   obtain⟨row,hr,rfl⟩:=List.mem_map.1 hx
   obtain⟨i,hi,rfl⟩:=List.getElem_of_mem hr
   have e2:dN o b i=o[b][i]:=by unfold dN; rw[e1,List.getD_eq_getElem?_getD,gEg hi]; rfl
   obtain⟨k1,k2⟩:=h.k hb2 (show i≤bH p b by omega)
   rw[e2] at k1 k2
   have h3:∀ x∈o[b][i],x≤100:=fun x hx=>by
    obtain⟨c,hc,rfl⟩:=List.getElem_of_mem hx
    have:=k2 c
    rw[List.getD_eq_getElem?_getD,gEg hc] at this
    have:=hS c
    simp only[Option.getD_some] at *
    omega
   have:=BU h3
   rw[k1] at this
   exact this
  have:=BU h2
  rw[List.length_map,hl] at this
  have:=hS b
  have h4:(bH p b+1) * 6400≤101 * 6400:=Nat.mul_le_mul_right _ (by omega)
  omega
 have:=BU h1
 rw[List.length_map,h.len] at this
 exact this
def uI (n:Nat) (p:Pg) (ls:List Ln):Nat→Ord→Ord
 | 0,o=>o
 | f+1,o=>if (j9 n p ls o).1=true then uI n p ls f (j9 n p ls o).2 else(j9 n p ls o).2
def AD (p:Pg) (n:Nat):Ord:=(List.range n).map (tU p)
def nX (n:Nat) (p:Pg) (ls:List Ln):Ord:=uI n p ls (n * 646400+1) (AD p n)
theorem pI {p:Pg} {n b:Nat} (h:b < n):cO (AD p n) b=tU p b:=by
 unfold cO AD
 rw[List.getD_eq_getElem?_getD,List.getElem?_map,List.getElem?_range h]
 rfl
theorem H9:z64.length=64:=List.length_replicate
theorem G6 (c:Nat):z64.getD c 0=0:=by
 unfold z64
 rw[List.getD_eq_getElem?_getD,List.getElem?_replicate]
 split<;>rfl
theorem AA (p:Pg) {n:Nat} (hn:n≤64):OOK p n (AD p n):=by
 have h1:∀ b,b < n→∀ i,i≤bH p b→dN (AD p n) b i=z64.set b i:=fun b hb i hi=>by
  unfold dN
  rw[pI hb]
  unfold tU
  rw[List.getD_eq_getElem?_getD,kM (by omega),if_pos hi]
  rfl
 refine⟨by simp[AD],fun b hb=>by rw[pI hb]; exact mN _ _ _,fun b i hb hi=>?_,fun b i c hb hi=>?_⟩
 ·rw[h1 b hb i hi,List.length_set]; rfl
 ·rw[h1 b hb i hi,sT (by rw[H9]; omega)]
  split
  ·rename_i e
   rw[← e]; exact hi
  ·rw[G6]; exact Nat.zero_le _
def cV (p:Pg) (r b:Nat):AV:=if b < r then .hsl 1 b 0 (bH p b+1) else .sc (.slice none 0 0)
def rX (p:Pg) (ls:List Ln) (r:Nat):Fr:=[(0,.cptr [.sc (.int .i64 p.cells),.list 1 (cE p.acts),.tmap formsE,.list 10 (d4 ls)]),(3,.hsl 0 0 0 ls.length),(4,.mref 2 0),(27,.list 1 (cE p.acts)),(28,.sc (.int .i64 (ls.length:Int))),(29,.sc (.int .i64 (r:Int)))]
def yD (n:Nat) (o:Ord):AV:=.list 1 (row1 n fun b=>.list 64 ((cO o b).map knR))
instance (n:Nat) (o:Ord):PV (yD n o):=by unfold yD; infer_instance
def uK (p:Pg) (ls:List Ln) (m:Bool):Fr:=[(0,.cptr [.sc (.int .i64 p.cells),.list 1 (cE p.acts),.tmap formsE,.list 10 (d4 ls)]),(3,.hsl 0 0 0 ls.length),(4,.mref 2 0),(8,.sc (.bool m))]
def QA:dE:=cQ [1,1,1,1] F35.code
set_option maxHeartbeats 16000000 in
theorem K1 (p:Pg) (ls:List Ln) (hC:cF p ls) (hp:POK p) (h2:∀ es,FU p ls ls.length 0 es→AWP Tryz.prog F35.n 0 QA (aS F35.res (yD ls.length (nX ls.length p ls))) (rX p ls ls.length) (iX ls.length (cV p ls.length) ls.length (tU p) es)):
  aD Tryz.prog 35 [ckV p ls] (yD ls.length (nX ls.length p ls)):=by
 refine aD.mkI cF35 (nlB rfl) ?_
 have e0:=gT ls
 have e1:=gV p.acts
 have hn:=hC.len
 have hn64:=hC.n64
 unfold ckV
 refine aA ?_
 rw[e0]
 refine Reg.o rfl (wO (n:=ls.length) rfl (by omega) (by omega)) ?_
 have hz:List.replicate ls.length (fF [(1,Value.slice none 0 0)])=row1 ls.length (cV p 0):=ML _ _
 rw[hz]
 refine aA ?_
 rw[e1,← hn]
 refine AWP.loop (σ:=Nat×List (List Int×AV)) (fun s=>rX p ls s.1) (fun s=>iX ls.length (cV p s.1) s.1 (tU p) s.2) (fun s=>s.1≤ls.length∧FU p ls s.1 0 s.2) (fun s=>ls.length - s.1) (0,[]) ⟨Nat.zero_le _,.zero p ls⟩ ?_ ?_
 ·show Sub _ _ _ _ _ [[.cells 1 (row1 ls.length (cV p 0))],[],[.map []]]
  unfold rX
  have hz2:PRs (row1 ls.length (cV p 0)):=by rw[← hz]; infer_instance
  exact Sub.w [] [[(0,0)],[],[(1,0)]]
 rintro⟨r,es⟩ ⟨hr,hF⟩
 dsimp only at hr hF ⊢
 unfold rX
 refine aA ?_
 refine AWP.condD rfl (fun h=>?_) (fun h=>?_)
 ·have hra:=gEg (show r < p.acts.length by omega)
  have hrow:=g8 hra
  have hlen:=c9 hra
  obtain⟨L,hL,hO⟩:=hC.get hra
  have hl100:=hO.len
  generalize p.acts[r]=l at *
  have e2:=gA l
  have er:=cS ls.length (cV p r)
  have hg1:=eQ (f:=cV p r) h
  unfold iX
  refine aA ?_
  rw[e2]
  refine aA ?_
  refine Reg.o rfl (wO (n:=l.length+1) rfl (by omega) (by omega)) ?_
  rw[OV]
  refine aA ?_
  rw[e2]
  refine aA ?_
  refine AWP.loop (σ:=Nat×List (List Int×AV)) (fun s=>(5,.sc (.int .i64 (r:Int)))::(6,.list 7 (dD l))::(42,.sc (.int .i64 (l.length:Int)))::(43,.sc (.int .i64 (s.1:Int)))::rX p ls r)
   (fun s=>iX ls.length (cV p (r+1)) (r+1) (fun b=>if b=r then j7 r l.length s.1 else tU p b) s.2) (fun s=>s.1≤l.length∧FU p ls r s.1 s.2) (fun s=>l.length - s.1) (0,es) ⟨Nat.zero_le _,hF⟩ ?_ ?_
  ·refine Sub.oS (q:=(3,0)) (g:=fun b=>if b=r then .hsl 3 0 0 (l.length+1) else cV p r b) (by show some (Blk.cells 1 ((row1 ls.length (cV p r)).set r [.hsl 3 0 0 (l.length+1)]))=_; rw[K3]) (fun b hb=>?_) ?_ rfl hF.p rfl (fun b hb=>?_) ?_
   ·show(fam r (oB (tU p)))[b]?=_
    rw[aK hb]
    unfold oB
    dsimp only
    rw[if_neg (by omega)]
   ·show some (Blk.cells 64 _)=_
    unfold oB
    dsimp only
    rw[if_pos rfl,GO]
   ·show To _ _ (if b=r then .hsl 3 0 0 (l.length+1) else cV p r b) (cV p (r+1) b)
    by_cases c:b=r
    ·subst c
     rw[if_pos rfl,show cV p (b+1) b=.hsl 1 b 0 (l.length+1) by unfold cV; rw[if_pos (by omega),hlen]]
     exact To.hslL (xB (i:=0) rfl rfl) rfl
    ·rw[if_neg c]
     by_cases c2:b < r
     ·rw[show cV p r b=.hsl 1 b 0 (bH p b+1) from if_pos c2,show cV p (r+1) b=.hsl 1 b 0 (bH p b+1) from if_pos (by omega)]
      exact To.hslL (dB rfl c2) rfl
     ·rw[show cV p r b=.sc (.slice none 0 0) from if_neg c2,show cV p (r+1) b=.sc (.slice none 0 0) from if_neg (by omega)]
      exact .sc _
   ·unfold rX
    (all_goals exact dY)
  rintro⟨i,es⟩ ⟨hi,hF⟩
  dsimp only at hi hF ⊢
  have er2:=cS ls.length (cV p (r+1))
  have hg2:(row1 ls.length (cV p (r+1)))[r]?=some [.hsl 1 r 0 (l.length+1)]:=by
   rw[eQ h]
   unfold cV
   rw[if_pos (by omega),hlen]
  unfold rX iX
  refine aA ?_
  refine AWP.condD rfl (fun h2=>?_) (fun h2=>?_)
  ·have hx:=gEg h2
   have hpa:=uH hC hp hra hx
   have hst:=hF.step (show i < bH p r by omega)
   generalize d6 p ls r i=pp at hpa hst
   unfold ckV plN at hpa
   have hfam:(fam (r+1) (oB fun b=>if b=r then j7 r l.length i else tU p b))[r]?=some (.cells 64 ((j7 r l.length i).map knR)):=by
    rw[aK (by omega)]
    unfold oB
    dsimp only
    rw[if_pos rfl]
   have hri:=kM (r:=r) (len:=l.length) (j:=i) (i:=i+1) (by omega)
   rw[if_neg (show¬ i+1≤i by omega)] at hri
   have hrk:((j7 r l.length i).map knR)[i+1]?=some (knR z64):=by rw[List.getElem?_map,hri]; rfl
   have hrl:=mN r l.length i
   have hput:(fam (r+1) (oB fun b=>if b=r then j7 r l.length i else tU p b)).set r (.cells 64 (((j7 r l.length i).map knR).set (i+1) ((knR z64).set r (.sc (.int .i64 ((i+1:Nat):Int))))))=fam (r+1) (oB fun b=>if b=r then j7 r l.length (i+1) else tU p b):=by
    rw[AF,← List.map_set,FL h2,GZ]
    refine fD fun j _=>?_
    by_cases c:j=r<;>simp[c,oB]
   refine aA ?_
   refine Reg.o rfl (eJ rfl rfl hfam (by omega) (by rw[List.length_map,hrl])) ?_
   refine aA ?_
   refine Reg.on rfl (o8 rfl rfl hfam hrk (by show r < 64; omega) rfl) ?_
   refine aA ?_
   refine Reg.on rfl (DY rfl rfl rfl rfl hF.free) ?_
   refine aA ?_
   refine⟨(i+1,_),⟨by omega,hst⟩,by omega,?_⟩
   refine Sub.oH (g:=cV p (r+1)) rfl (fun b hb=>?_) rfl hst.p (fun b hb=>?_) ?_
   ·show(List.set _ _ _)[b]?=_
    exact(congrArg (fun x=>x[b]?) hput).trans (aK hb)
   ·unfold cV
    by_cases c:b < r+1
    ·rw[if_pos c]
     exact To.hslL (dB rfl c) rfl
    ·rw[if_neg c]
     exact .sc _
   ·(all_goals exact dY)
  ·have hi2:i=l.length:=by omega
   subst hi2
   refine aA ?_
   refine⟨(r+1,es),⟨by omega,hF.next (by omega)⟩,by omega,?_⟩
   refine Sub.oH (g:=cV p (r+1)) rfl (fun b hb=>?_) rfl hF.p (fun b hb=>?_) ?_
   ·show(fam _ _)[b]?=_
    rw[aK hb]
    unfold oB
    dsimp only
    by_cases c:b=r
    ·subst c
     rw[if_pos rfl]
     unfold tU
     rw[hlen]
    ·rw[if_neg c]
   ·unfold cV
    by_cases c:b < r+1
    ·rw[if_pos c]
     exact To.hslL (dB rfl c) rfl
    ·rw[if_neg c]
     exact .sc _
   ·(all_goals exact dY)
 ·have hr2:r=ls.length:=by omega
  subst hr2
  refine AWP.exit ?_
  show AWP Tryz.prog F35.n 0 QA _ _ _
  refine AWP.sub (fr':=rX p ls ls.length) (H':=iX ls.length (cV p ls.length) ls.length (tU p) es) ?_ (h2 es hF)
  exact Sub.keep ⟨Le.refl _,Le.refl _,Le.refl _,Le.refl _,Le.refl _,Le.refl _,trivial⟩
end Go.Proofs.YtkjoolaahocgdaaGreat
