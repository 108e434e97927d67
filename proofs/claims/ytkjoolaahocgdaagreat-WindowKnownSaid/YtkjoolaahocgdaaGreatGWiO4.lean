import Derived.Test.YtkjoolaahocgdaaGreatGWiT7
import Derived.Test.YtkjoolaahocgdaaGreatGAvSo
namespace Go.Proofs.YtkjoolaahocgdaaGreat
open Go.Av Go.Proofs
set_option maxRecDepth 20000
abbrev Pl:=Nat×Nat
def plR (x:Pl):List AV:=[.sc (.int .i64 (x.1:Int)),.sc (.int .i64 (x.2:Int))]
instance (x:Pl):PR (plR x):=by unfold plR; infer_instance
def j7 (l:List Pl):List (List AV):=l.map plR
theorem fQ (l:List Pl):(j7 l).length=l.length:=by simp[j7]
instance (l:List Pl):PRs (j7 l):=inferInstanceAs (PRs (l.map plR))
theorem zD (l:List Pl) (k:Nat) (h:k < l.length):eB (j7 l) (k:Int)=some (plR l[k]):=iO plR l k h
theorem mE (l:List Pl) (x:Pl):j7 (l++[x])=j7 l++[plR x]:=by simp[j7]
def tU (i:Nat) (l:List Nat):Nat:=(nP (i:Int) (l.map fun j:Nat=>(j:Int))).toNat
theorem wE {i:Nat} {l:List Nat} (h:i∈l):nP (i:Int) (l.map fun j:Nat=>(j:Int))=(tU i l:Nat)∧tU i l < l.length:=by
 have h1:=rP (i:Int) (l.map fun j:Nat=>(j:Int))
 have h2:(i:Int)∈l.map fun j:Nat=>(j:Int):=List.mem_map.2 ⟨i,h,rfl⟩
 have h3:=h1.1.2 h2
 rw[List.length_map] at h1
 unfold tU
 omega
theorem sE (l:List Nat) (i:Nat) (hl:l.length≤1000000) (h:i∈l):aD Tryz.prog 99 [.list 1 (bF l),.sc (.int .i64 (i:Int))] (.sc (.int .i64 (tU i l:Nat))):=by
 have:=B8 (l.map fun j:Nat=>(j:Int)) i (by rw[List.length_map]; omega)
 rw[← LI,(wE h).1] at this
 exact this
theorem FT {n r:Nat}:∀ {g seen:List Int},vT n r seen g=0→(∀ b∈g,0≤b∧b < (n:Int)∧b≠(r:Int)∧b∉seen)∧g.Nodup
 | [],_,_=>⟨fun _ h=>(by cases h),List.nodup_nil⟩
 | b::g,seen,h=>by
  unfold vT at h
  split at h
  ·cases h
  split at h
  ·cases h
  rename_i h1 h2
  obtain⟨q1,q2⟩:=FT h
  refine⟨fun c hc=>?_,List.nodup_cons.2 ⟨fun hb=>(q1 b hb).2.2.2 (by simp),q2⟩⟩
  rcases List.mem_cons.1 hc with rfl | hc
  ·exact⟨by omega,by omega,fun e=>h1 (.inr (.inr e)),h2⟩
  ·obtain⟨a1,a2,a3,a4⟩:=q1 c hc
   exact⟨a1,a2,a3,fun hs=>a4 (by simp[hs])⟩
theorem l6.grp {p:Pg} {r:Nat} {l:List Act} {i:Nat} {x:Act} (h:l6 p r l i x) (hk:x.k=9∨x.k=10):0 < x.g.length∧(∀ b∈x.g,0≤b∧b < (p.acts.length:Int)∧b≠(r:Int))∧x.g.Nodup:=by
 have hf:=h.f
 have h1:eW x.k=false:=by unfold eW; apply dFa; omega
 have h2:lZ x.k=false:=by unfold lZ; apply dFa; omega
 have h3:nA x.k=false:=by unfold nA; apply dFa; omega
 have h4:lE x.k=true:=by unfold lE; exact dTr hk
 unfold rO i7 at hf
 rw[h1,h2,h3,h4,if_neg (by simp),if_neg (by simp),if_neg (by simp),if_pos rfl] at hf
 split at hf
 ·cases hf
 ·rename_i h0
  obtain⟨q1,q2⟩:=FT hf
  exact⟨by omega,fun b hb=>⟨(q1 b hb).1,(q1 b hb).2.1,(q1 b hb).2.2.1⟩,q2⟩
def wY (ls:List Ln) (r k b:Nat):Option Pl:=match ls[b]? with
 | some L=>if b≠r then(L.fe[k]?).map fun j=>(b,j) else none
 | none=>none
def OJ (ls:List Ln) (r i:Nat) (L:Ln):List Pl:=(List.range ls.length).filterMap (wY ls r (tU i L.fe))
theorem I1 {F:Nat→Option Pl} {k:Nat}:(List.range (k+1)).filterMap F=(List.range k).filterMap F++(F k).toList:=by
 rw[List.range_succ,List.filterMap_append]
 cases h:F k<;>simp[h]
theorem s6 {α β:Type} (F:α→Option β) (l:List α):(l.filterMap F).length≤l.length:=List.length_filterMap_le _ _
set_option maxHeartbeats 16000000 in
theorem uT (p:Pg) (ls:List Ln) {r i:Nat} {l:List Act} {x:Act} {L:Ln} (hr:p.acts[r]?=some l) (hi:l[i]?=some x) (hL:ls[r]?=some L) (hx:x.k=8) (hm:i∈L.fe) (hf:∀ L∈ls,L.fe.length≤100) (hn:ls.length≤64):
  aD Tryz.prog 56 [ckV p ls,plN r i] (.tup [.list 2 (j7 (OJ ls r i L)),.sc (.int .i64 ((ls.length - 1:Nat):Int))]):=by
 refine aD.mkI K0 (nlB rfl) ?_
 have hact:=jX p ls hr hi
 have h1:=dD hL
 have e0:=gM ls
 have hls:0 < ls.length:=by have:=(gEs.1 hL).1; omega
 have hix:=sE L.fe i (by have:=hf L (List.mem_of_getElem? hL); omega) hm
 unfold OJ
 generalize tU i L.fe=k0 at *
 unfold ckV plN aJ at *
 rw[hx] at hact
 dsimp only[lnR,epR,List.cons_append,List.nil_append] at h1
 refine aA ?_
 refine DK.nil ⟨by kernel_rfl,?_⟩
 refine aA ?_
 rw[e0]
 refine AWP.loop (fun b:Nat=>[(0,.cptr [.sc (.int .i64 p.cells),.list 1 (bY p.acts),.tmap formsE,.list 10 (d4 ls)]),(3,.cptr [.sc (.int .i64 (r:Int)),.sc (.int .i64 (i:Int))]),(6,.hsl 0 0 0 ((List.range b).filterMap (wY ls r k0)).length),(8,.sc (.int .i64 (k0:Int))),(44,.list 10 (d4 ls)),(45,.sc (.int .i64 (ls.length:Int))),(46,.sc (.int .i64 (b:Int)))])
  (fun b=>[[.cells 2 (j7 ((List.range b).filterMap (wY ls r k0)))]]) (fun b=>b≤ls.length) (fun b=>ls.length - b) 0 (Nat.zero_le _) ?_ ?_
 ·exact Sub.w [2] [[(2,0)]]
 rintro b hb
 refine aA ?_
 refine AWP.condD rfl (fun h=>?_) (fun h=>?_)
 ·have hLb:=gEg h
  have hfb:=hf _ (List.getElem_mem h)
  have h2:=dD hLb
  have hs:wY ls r k0 b=if b≠r then(ls[b].fe[k0]?).map fun j=>(b,j) else none:=by unfold wY; rw[hLb]
  have hr1:=I1 (F:=wY ls r k0) (k:=b)
  have hlen:=s6 (wY ls r k0) (List.range b)
  rw[List.length_range] at hlen
  generalize ls[b]=M at *
  generalize (List.range b).filterMap (wY ls r k0)=out at *
  have e1:=fQ out
  have e2:=bZ M.fe
  dsimp only[lnR,epR,List.cons_append,List.nil_append] at h2
  refine aA ?_
  by_cases hbr:b=r
  ·rw[if_neg (by simpa using hbr)] at hs
   rw[hs] at hr1
   rw[show(!decide (b=r))=false by simpa using hbr]
   refine aA ?_
   refine⟨b+1,by omega,by omega,?_⟩
   rw[hr1]
   dsimp only[Option.toList]
   rw[List.append_nil]
   exact Sub.w [] [[(0,0)]]
  ·rw[if_pos hbr] at hs
   rw[show(!decide (b=r))=true by simpa using hbr]
   refine aA ?_
   rw[e2]
   by_cases hk:k0 < M.fe.length
   ·rw[gEg hk,Option.map_some] at hs
    rw[hs] at hr1
    dsimp only[Option.toList] at hr1
    have h3:=oA M.fe k0 hk
    generalize M.fe[k0]=j at *
    rw[dTr hk]
    refine aA ?_
    refine⟨b+1,by omega,by omega,?_⟩
    rw[hr1,mE,List.length_append]
    dsimp only[plR]
    exact Sub.w [] [[(3,0)]]
   ·rw[List.getElem?_eq_none (by omega),Option.map_none] at hs
    rw[hs] at hr1
    dsimp only[Option.toList] at hr1
    rw[List.append_nil] at hr1
    rw[dFa hk]
    refine aA ?_
    refine⟨b+1,by omega,by omega,?_⟩
    rw[hr1]
    exact Sub.w [] [[(0,0)]]
 ·have hb2:b=ls.length:=by omega
  subst hb2
  generalize (List.range ls.length).filterMap (wY ls r k0)=out at *
  have e1:=fQ out
  refine aA ?_
  rw[e0]
  refine aA ?_
  refine DK.nil ⟨by kernel_rfl,?_⟩
  refine aA ?_
  exact aW.w
structure LK (p:Pg) (ls:List Ln):Prop where
 len:ls.length=p.acts.length
 n:ls.length≤64
 st:∀(r:Nat) (l:List Act) (L:Ln),p.acts[r]?=some l→ls[r]?=some L→(∀ i∈L.st,i < l.length)∧(∀ i∈L.po,i < l.length)∧L.st.length≤100∧L.po.length≤100
 g:∀ l∈p.acts,∀ x∈l,x.g.length≤9223372036854775807
def w8 (p:Pg) (ls:List Ln) (r i:Nat) (l:List Act) (L:Ln) (b:Int):Option Pl:=match p.acts[b.toNat]?,ls[b.toNat]? with
 | some m,some M=>((jR m (r:Int) M.po)[tU i (jR l b L.st)]?).map fun j=>(b.toNat,j)
 | _,_=>none
def NQ (p:Pg) (ls:List Ln) (r i:Nat) (l:List Act) (L:Ln) (x:Act):List Pl:=x.g.filterMap (w8 p ls r i l L)
theorem E9 {α β:Type} {F:α→Option β} {l:List α} {k:Nat} (h:k < l.length):(l.take (k+1)).filterMap F=(l.take k).filterMap F++(F l[k]).toList:=by
 rw[List.take_succ_eq_append_getElem h,List.filterMap_append]
 cases h:F l[k]<;>simp[h]
theorem qN {l:List Act} {b:Int} {L:List Nat} {i:Nat} {x:Act} (h:i∈L) (hi:l[i]?=some x) (hb:b∈x.g):i∈jR l b L:=by
 unfold jR
 rw[List.mem_filter]
 exact⟨h,by rw[hi]; exact dTr hb⟩
set_option maxHeartbeats 16000000 in
theorem vY (p:Pg) (ls:List Ln) {r i:Nat} {l:List Act} {x:Act} {L:Ln} (hK:LK p ls) (hr:p.acts[r]?=some l) (hi:l[i]?=some x) (hL:ls[r]?=some L) (hx:x.k=10) (hm:i∈L.st) (h64:x.g.length≤64) (hg:∀ b∈x.g,0≤b∧b < (p.acts.length:Int)):
  aD Tryz.prog 56 [ckV p ls,plN r i] (.tup [.list 2 (j7 (NQ p ls r i l L x)),.sc (.int .i64 (x.g.length:Int))]):=by
 refine aD.mkI K0 (nlB rfl) ?_
 have hact:=jX p ls hr hi
 have h1:=dD hL
 have e0:=gM ls
 have eg:=cD x.g
 have hgl:=hK.g l (List.mem_of_getElem? hr) x (List.mem_of_getElem? hi)
 obtain⟨k1,k2,k3,k4⟩:=hK.st r l L hr hL
 have hmut:=fun w=>oI p ls w L.st hr k1 k3 (hK.g l (List.mem_of_getElem? hr))
 unfold NQ
 unfold ckV plN aJ at *
 rw[hx] at hact
 dsimp only[lnR,epR,List.cons_append,List.nil_append] at h1
 refine aA ?_
 refine DK.nil ⟨by kernel_rfl,?_⟩
 refine aA ?_
 rw[eg]
 refine AWP.loop (fun k:Nat=>[(0,.cptr [.sc (.int .i64 p.cells),.list 1 (bY p.acts),.tmap formsE,.list 10 (d4 ls)]),(3,.cptr [.sc (.int .i64 (r:Int)),.sc (.int .i64 (i:Int))]),(6,.hsl 0 0 0 ((x.g.take k).filterMap (w8 p ls r i l L)).length),(7,.cptr [.sc (.bool L.e.f),.list 1 (bE L.e.o),.list 1 (bE L.e.p),.sc (.int .i64 L.e.l),.tmap (tX L.acc),.list 1 (bF L.fe),.list 1 (bF L.st),.list 1 (bF L.po),.tmap (mapE L.co),.tmap (mapE L.wt)]),(11,.list 1 (bE x.g)),(86,.list 1 (bE x.g)),(87,.sc (.int .i64 (x.g.length:Int))),(88,.sc (.int .i64 (k:Int)))])
  (fun k=>[[.cells 2 (j7 ((x.g.take k).filterMap (w8 p ls r i l L)))]]) (fun k=>k≤x.g.length) (fun k=>x.g.length - k) 0 (Nat.zero_le _) ?_ ?_
 ·exact Sub.w [2] [[(2,0)]]
 rintro k hk
 refine aA ?_
 refine AWP.condD rfl (fun h=>?_) (fun h=>?_)
 ·have hb:=mL x.g k h
  have hbm:=List.getElem_mem h
  have hr1:=E9 (F:=w8 p ls r i l L) h
  have hlen:=s6 (w8 p ls r i l L) (x.g.take k)
  rw[List.length_take] at hlen
  generalize x.g[k]=b at *
  obtain⟨hb1,hb2⟩:=hg b hbm
  obtain⟨bn,rfl⟩:∃ bn:Nat,b=(bn:Int):=⟨b.toNat,by omega⟩
  have hbn:bn < p.acts.length:=by omega
  have hbl:bn < ls.length:=by rw[hK.len]; exact hbn
  have hM1:=gEg hbn
  have hM2:=gEg hbl
  have hs:w8 p ls r i l L (bn:Int)=((jR p.acts[bn] (r:Int) ls[bn].po)[tU i (jR l (bn:Int) L.st)]?).map fun j=>(bn,j):=by
   unfold w8
   rw[Int.toNat_natCast,hM1,hM2]
  obtain⟨q1,q2,q3,q4⟩:=hK.st bn _ _ hM1 hM2
  have hmb:=oI p ls (r:Int) ls[bn].po hM1 q2 q4 (hK.g _ (List.getElem_mem hbn))
  have hml:=nW l (bn:Int) L.st
  have hmm:=nW p.acts[bn] (r:Int) ls[bn].po
  have h2:=dD hM2
  have hix:=sE (jR l (bn:Int) L.st) i (by omega) (qN hm hi hbm)
  have hpos:=(wE (qN hm hi hbm)).2
  generalize ls[bn]=M at *
  generalize p.acts[bn]=m at *
  have hmu:=hmut (bn:Int)
  unfold ckV at hmb hmu
  generalize jR m (r:Int) M.po=mb at *
  generalize jR l (bn:Int) L.st=ma at *
  generalize tU i ma=k0 at *
  generalize (x.g.take k).filterMap (w8 p ls r i l L)=out at *
  have e1:=fQ out
  have e2:=bZ mb
  dsimp only[lnR,epR,List.cons_append,List.nil_append] at h2
  refine aA ?_
  refine DK.nil ⟨by kernel_rfl,?_⟩
  refine aA ?_
  refine DK.nil ⟨by kernel_rfl,?_⟩
  refine aA ?_
  rw[e2]
  by_cases hk0:k0 < mb.length
  ·rw[gEg hk0,Option.map_some] at hs
   rw[hs] at hr1
   dsimp only[Option.toList] at hr1
   have h3:=oA mb k0 hk0
   generalize mb[k0]=j at *
   rw[dTr hk0]
   refine aA ?_
   refine⟨k+1,by omega,by omega,?_⟩
   rw[hr1,mE,List.length_append]
   dsimp only[plR]
   exact Sub.w [] [[(4,0)]]
  ·rw[List.getElem?_eq_none (by omega),Option.map_none] at hs
   rw[hs] at hr1
   dsimp only[Option.toList] at hr1
   rw[List.append_nil] at hr1
   rw[dFa hk0]
   refine aA ?_
   refine⟨k+1,by omega,by omega,?_⟩
   rw[hr1]
   exact Sub.w [] [[(0,0)]]
 ·have hb2:k=x.g.length:=by omega
  subst hb2
  rw[List.take_length]
  generalize x.g.filterMap (w8 p ls r i l L)=out at *
  have e1:=fQ out
  refine aA ?_
  rw[eg]
  exact aW.w
def w9 (p:Pg) (ls:List Ln) (r q:Nat) (l:List Act) (L:Ln) (b:Int):Option Pl:=match p.acts[b.toNat]?,ls[b.toNat]? with
 | some m,some M=>((jR m (r:Int) M.st)[tU q (jR l b L.po)]?).map fun j=>(b.toNat,(cS j M.co).getD 0)
 | _,_=>none
def NT (p:Pg) (ls:List Ln) (r q:Nat) (l:List Act) (L:Ln) (y:Act):List Pl:=y.g.filterMap (w9 p ls r q l L)
set_option maxHeartbeats 16000000 in
theorem wV (p:Pg) (ls:List Ln) {r i q:Nat} {l:List Act} {x y:Act} {L:Ln} (hK:LK p ls) (hr:p.acts[r]?=some l) (hi:l[i]?=some x) (hL:ls[r]?=some L) (hx:x.k=12) (hq:cS i L.wt=some q) (hy:l[q]?=some y) (hm:q∈L.po) (h64:y.g.length≤64) (hg:∀ b∈y.g,0≤b∧b < (p.acts.length:Int)):
  aD Tryz.prog 56 [ckV p ls,plN r i] (.tup [.list 2 (j7 (NT p ls r q l L y)),.sc (.int .i64 (y.g.length:Int))]):=by
 refine aD.mkI K0 (nlB rfl) ?_
 have hact:=jX p ls hr hi
 have h1:=dD hL
 have e0:=gM ls
 have eg:=cD y.g
 have hgl:=hK.g l (List.mem_of_getElem? hr) y (List.mem_of_getElem? hy)
 obtain⟨k1,k2,k3,k4⟩:=hK.st r l L hr hL
 have hmut:=fun w=>oI p ls w L.po hr k2 k4 (hK.g l (List.mem_of_getElem? hr))
 have hpr:=gX hr
 have har:=oN hy
 have hwt:d5 .i64 (i:Int) (mapE L.wt)=some (some (.sc (.int .i64 (q:Int)))):=by rw[oU,hq]; rfl
 unfold NT
 unfold ckV plN aJ at *
 rw[hx] at hact
 dsimp only[lnR,epR,List.cons_append,List.nil_append] at h1
 refine aA ?_
 refine DK.nil ⟨by kernel_rfl,?_⟩
 refine aA ?_
 refine Reg.o rfl (bS rfl rfl hwt) ?_
 refine aA ?_
 refine DK.nil ⟨by kernel_rfl,?_⟩
 refine aA ?_
 rw[eg]
 refine AWP.loop (fun k:Nat=>[(0,.cptr [.sc (.int .i64 p.cells),.list 1 (bY p.acts),.tmap formsE,.list 10 (d4 ls)]),(3,.cptr [.sc (.int .i64 (r:Int)),.sc (.int .i64 (i:Int))]),(6,.hsl 0 0 0 ((y.g.take k).filterMap (w9 p ls r q l L)).length),(7,.cptr [.sc (.bool L.e.f),.list 1 (bE L.e.o),.list 1 (bE L.e.p),.sc (.int .i64 L.e.l),.tmap (tX L.acc),.list 1 (bF L.fe),.list 1 (bF L.st),.list 1 (bF L.po),.tmap (mapE L.co),.tmap (mapE L.wt)]),(16,.sc (.int .i64 (q:Int))),(17,.list 1 (bE y.g)),(152,.list 1 (bE y.g)),(153,.sc (.int .i64 (y.g.length:Int))),(154,.sc (.int .i64 (k:Int)))])
  (fun k=>[[.cells 2 (j7 ((y.g.take k).filterMap (w9 p ls r q l L)))]]) (fun k=>k≤y.g.length) (fun k=>y.g.length - k) 0 (Nat.zero_le _) ?_ ?_
 ·exact Sub.w [2] [[(3,0)]]
 rintro k hk
 refine aA ?_
 refine AWP.condD rfl (fun h=>?_) (fun h=>?_)
 ·have hb:=mL y.g k h
  have hbm:=List.getElem_mem h
  have hr1:=E9 (F:=w9 p ls r q l L) h
  have hlen:=s6 (w9 p ls r q l L) (y.g.take k)
  rw[List.length_take] at hlen
  generalize y.g[k]=b at *
  obtain⟨hb1,hb2⟩:=hg b hbm
  obtain⟨bn,rfl⟩:∃ bn:Nat,b=(bn:Int):=⟨b.toNat,by omega⟩
  have hbn:bn < p.acts.length:=by omega
  have hbl:bn < ls.length:=by rw[hK.len]; exact hbn
  have hM1:=gEg hbn
  have hM2:=gEg hbl
  have hs:w9 p ls r q l L (bn:Int)=((jR p.acts[bn] (r:Int) ls[bn].st)[tU q (jR l (bn:Int) L.po)]?).map fun j=>(bn,(cS j ls[bn].co).getD 0):=by
   unfold w9
   rw[Int.toNat_natCast,hM1,hM2]
  obtain⟨q1,q2,q3,q4⟩:=hK.st bn _ _ hM1 hM2
  have hmb:=oI p ls (r:Int) ls[bn].st hM1 q1 q3 (hK.g _ (List.getElem_mem hbn))
  have hml:=nW l (bn:Int) L.po
  have hmm:=nW p.acts[bn] (r:Int) ls[bn].st
  have h2:=dD hM2
  have hix:=sE (jR l (bn:Int) L.po) q (by omega) (qN hm hy hbm)
  have hpos:=(wE (qN hm hy hbm)).2
  generalize ls[bn]=M at *
  generalize p.acts[bn]=m at *
  have hmu:=hmut (bn:Int)
  unfold ckV at hmb hmu
  generalize jR m (r:Int) M.st=mb at *
  generalize jR l (bn:Int) L.po=ma at *
  generalize tU q ma=k0 at *
  generalize (y.g.take k).filterMap (w9 p ls r q l L)=out at *
  have e1:=fQ out
  have e2:=bZ mb
  dsimp only[lnR,epR,List.cons_append,List.nil_append] at h2
  refine aA ?_
  refine DK.nil ⟨by kernel_rfl,?_⟩
  refine aA ?_
  rw[e2]
  by_cases hk0:k0 < mb.length
  ·rw[gEg hk0,Option.map_some] at hs
   rw[hs] at hr1
   dsimp only[Option.toList] at hr1
   have h3:=oA mb k0 hk0
   generalize mb[k0]=j at *
   rw[dTr hk0]
   have hco:d5 .i64 (j:Int) (mapE M.co)=some ((cS j M.co).map fun a:Nat=>.sc (.int .i64 (a:Int))):=oU j M.co
   generalize cS j M.co=oc at *
   cases oc with
   | none=>
    dsimp only[Option.getD,Option.map] at hr1 hco
    refine aA ?_
    refine DK.o rfl (bS rfl rfl hco) ?_
    refine aA ?_
    refine DK.nil ⟨by kernel_rfl,?_⟩
    refine aA ?_
    refine⟨k+1,by omega,by omega,?_⟩
    rw[hr1,mE,List.length_append]
    dsimp only[plR]
    exact Sub.w [] [[(2,17)]]
   | some c=>
    dsimp only[Option.getD,Option.map] at hr1 hco
    refine aA ?_
    refine DK.o rfl (bS rfl rfl hco) ?_
    refine aA ?_
    refine DK.nil ⟨by kernel_rfl,?_⟩
    refine aA ?_
    refine⟨k+1,by omega,by omega,?_⟩
    rw[hr1,mE,List.length_append]
    dsimp only[plR]
    exact Sub.w [] [[(2,17)]]
  ·rw[List.getElem?_eq_none (by omega),Option.map_none] at hs
   rw[hs] at hr1
   dsimp only[Option.toList] at hr1
   rw[List.append_nil] at hr1
   rw[dFa hk0]
   refine aA ?_
   refine⟨k+1,by omega,by omega,?_⟩
   rw[hr1]
   exact Sub.w [] [[(0,0)]]
 ·have hb2:k=y.g.length:=by omega
  subst hb2
  rw[List.take_length]
  generalize y.g.filterMap (w9 p ls r q l L)=out at *
  have e1:=fQ out
  refine aA ?_
  rw[eg]
  exact aW.w
set_option maxHeartbeats 8000000 in
theorem xB (p:Pg) (ls:List Ln) {r i:Nat} {l:List Act} {x:Act} {L:Ln} (hr:p.acts[r]?=some l) (hi:l[i]?=some x) (hL:ls[r]?=some L) (h8:x.k≠8) (h10:x.k≠10) (h12:x.k≠12):
  aD Tryz.prog 56 [ckV p ls,plN r i] (.tup [.list 2 [],.sc (.int .i64 0)]):=by
 refine aD.mkI K0 (nlB rfl) ?_
 have hact:=jX p ls hr hi
 have h1:=dD hL
 unfold ckV plN aJ at *
 dsimp only[lnR,epR,List.cons_append,List.nil_append] at h1
 refine aA ?_
 refine DK.nil ⟨by kernel_rfl,?_⟩
 refine aA ?_
 rw[show(x.k == 8)=false by simpa using h8]
 refine aA ?_
 rw[show(x.k == 10)=false by simpa using h10]
 refine aA ?_
 rw[show(x.k == 12)=false by simpa using h12]
 refine aA ?_
 exact aW.w
theorem afP_p (k:Nat) (e:Ep) (x:Act):(afP k e x).p=if k=9 then x.g else if k=12 then[] else e.p:=by
 unfold afP
 split<;>first | rfl | (rename_i h1 h2 h3 h4 h5 h6 h7 h8; rw[if_neg (fun e=>h2 e),if_neg (fun e=>h5 e)])
theorem D1 (l:List Act):∀ i:Nat,(k6 l i).p=[]∨∃ y,0 < (g7 9 l i).length∧l[(g7 9 l i).getLastD 0]?=some y∧y.k=9∧(k6 l i).p=y.g
 | 0=>.inl rfl
 | i+1=>by
  have ih:=D1 l i
  rw[k6,gR]
  cases hx:l[i]? with
  | none=>
   have hk:kAt l i=0:=by unfold kAt; rw[hx]
   rw[if_neg (by omega),List.append_nil]
   exact ih
  | some x=>
   have hk:=uI hx
   simp only
   by_cases h6:6≤x.k
   ·rw[if_pos h6,afP_p]
    by_cases h9:x.k=9
    ·rw[if_pos (by omega),if_pos (by omega)]
     right
     refine⟨x,by simp,?_,h9,rfl⟩
     rw[pI]
     exact hx
    ·rw[if_neg (by omega),if_neg (show¬ kAt l i=9 by omega),List.append_nil]
     split
     ·exact .inl rfl
     ·exact ih
   ·rw[if_neg h6,if_neg (by omega),List.append_nil]
    exact ih
theorem u9 (k:Int) (l:List Act) (n:Nat):(g7 k l n).length≤n:=by
 unfold g7
 refine Nat.le_trans (List.length_filter_le _ _) ?_
 rw[List.length_range]
 exact Nat.le_refl _
theorem d9.get {p:Pg} {ls:List Ln} (h:d9 p ls) {r:Nat} {l:List Act} (hr:p.acts[r]?=some l):∃ L,ls[r]?=some L∧zO p r l L:=by
 have:=(gEs.1 hr).1
 have hl:r < ls.length:=by rw[h.len]; exact this
 exact⟨ls[r],gEg hl,h.ln r l _ hr (gEg hl)⟩
theorem d9.lk {p:Pg} {ls:List Ln} (h:d9 p ls) (hp:POK p):LK p ls:=by
 refine⟨h.len,by rw[h.len]; exact h.n64,fun r l L hr hL=>?_,hp⟩
 have hl:=h.ln r l L hr hL
 have:=hl.len
 have h1:=u9 10 l l.length
 have h2:=u9 9 l l.length
 rw[hl.pre.st,hl.pre.po]
 exact⟨fun i hi=>(eQ.1 hi).1,fun i hi=>(eQ.1 hi).1,by omega,by omega⟩
theorem u0:∀(n:Nat) (l:List Int),l.Nodup→(∀ x∈l,0≤x∧x < n)→l.length≤n
 | 0,[],_,_=>Nat.le_refl _
 | 0,x::l,_,h=>by have:=h x (by simp); omega
 | n+1,l,hn,h=>by
  have h1:=u0 n (l.filter fun x=>decide (x≠(n:Int))) (hn.filter _) fun x hx=>by
   obtain⟨a,b⟩:=List.mem_filter.1 hx
   have:=h x a
   have b:x≠(n:Int):=of_decide_eq_true b
   omega
  have h2:l.length≤(l.filter fun x=>decide (x≠(n:Int))).length+1:=by
   by_cases hm:(n:Int)∈l
   ·have e1:l.erase (n:Int)=l.filter fun x=>decide (x≠(n:Int)):=by
     rw[hn.erase_eq_filter]
     exact List.filter_congr fun x _=>by simp[Bool.beq_eq_decide_eq,bne]
    have:=List.length_erase_of_mem hm
    rw[← e1]
    omega
   ·have:l.filter (fun x=>decide (x≠(n:Int)))=l:=List.filter_eq_self.2 fun x hx=>dTr fun e=>hm (e▸hx)
    rw[this]
    omega
  omega
theorem oP {g:List Int} {n:Nat} (h:g.Nodup) (hg:∀ b∈g,0≤b∧b < (n:Int)):g.length≤n:=u0 n g h hg
theorem LF {l:List Act} {i:Nat} (hi:i < l.length) (hk:kAt l i=12):cS i ((g7 12 l l.length).map fun c=>(c,(g7 9 l c).getLastD 0))=some ((g7 9 l i).getLastD 0):=by
 have hm:i∈g7 12 l l.length:=eQ.2 ⟨hi,hk⟩
 generalize g7 12 l l.length=L at hm
 induction L with
 | nil=>cases hm
 | cons a L ih=>
  rw[List.map_cons,cS]
  by_cases h:i=a
  ·rw[if_pos h,h]
  ·rw[if_neg h]
   exact ih ((List.mem_cons.1 hm).resolve_left h)
def jY (p:Pg) (ls:List Ln) (r i:Nat):List Pl×Nat:=match p.acts[r]?,ls[r]? with
 | some l,some L=>match l[i]? with
  | some x=>if x.k=8 then(OJ ls r i L,ls.length - 1)
   else if x.k=10 then(NQ p ls r i l L x,x.g.length)
   else if x.k=12 then match l[(g7 9 l i).getLastD 0]? with
    | some y=>(NT p ls r ((g7 9 l i).getLastD 0) l L y,y.g.length)
    | none=>([],0)
   else([],0)
  | none=>([],0)
 | _,_=>([],0)
theorem IZ {k:Int} {l:List Act} {i n q:Nat} (h:q∈g7 k l i) (hi:i≤n):q∈g7 k l n:=by
 have:=eQ.1 h
 exact eQ.2 ⟨by omega,this.2⟩
theorem tL {p:Pg} {ls:List Ln} (hC:d9 p ls) (hp:POK p) {r i:Nat} {l:List Act} {x:Act} (hr:p.acts[r]?=some l) (hi:l[i]?=some x):
  aD Tryz.prog 56 [ckV p ls,plN r i] (.tup [.list 2 (j7 (jY p ls r i).1),.sc (.int .i64 ((jY p ls r i).2:Int))]):=by
 obtain⟨L,hL,hO⟩:=hC.get hr
 have hK:=hC.lk hp
 have hil:=(gEs.1 hi).1
 have hk:=uI hi
 have ha:=hO.act i x hi
 unfold jY
 rw[hr,hL]
 simp only[hi]
 by_cases h8:x.k=8
 ·rw[if_pos h8]
  refine uT p ls hr hi hL h8 ?_ (fun M hM=>?_) hK.n
  ·rw[hO.pre.fe]
   exact eQ.2 ⟨hil,by omega⟩
  ·obtain⟨b,hb,rfl⟩:=List.getElem_of_mem hM
   have hb2:b < p.acts.length:=by rw[← hC.len]; exact hb
   have hm:=hC.ln b _ _ (gEg hb2) (gEg hb)
   rw[hm.pre.fe]
   have:=u9 8 p.acts[b] p.acts[b].length
   have:=hm.len
   omega
 rw[if_neg h8]
 by_cases h10:x.k=10
 ·rw[if_pos h10]
  obtain⟨g1,g2,g3⟩:=ha.grp (.inr h10)
  have:=oP g3 fun b hb=>⟨(g2 b hb).1,(g2 b hb).2.1⟩
  have:=hC.n64
  refine vY p ls hK hr hi hL h10 ?_ (by omega) fun b hb=>⟨(g2 b hb).1,(g2 b hb).2.1⟩
  rw[hO.pre.st]
  exact eQ.2 ⟨hil,by omega⟩
 rw[if_neg h10]
 by_cases h12:x.k=12
 ·rw[if_pos h12]
  have hal:=ha.al (by unfold dW; apply dFa; omega)
  rw[show x.k.toNat=12 by omega] at hal
  have hp0:0 < (k6 l i).p.length:=of_decide_eq_true (Bool.and_eq_true_iff.1 hal).1
  rcases D1 l i with e | ⟨y,y1,y2,y3,y4⟩
  ·rw[e] at hp0
   cases hp0
  rw[y2]
  have hq:=mZ y1
  have hqi:=eQ.1 hq
  obtain⟨g1,g2,g3⟩:=(hO.act _ y y2).grp (.inl y3)
  have:=oP g3 fun b hb=>⟨(g2 b hb).1,(g2 b hb).2.1⟩
  have:=hC.n64
  refine wV p ls hK hr hi hL h12 ?_ y2 ?_ (by omega) fun b hb=>⟨(g2 b hb).1,(g2 b hb).2.1⟩
  ·rw[hO.pre.wt]
   exact LF hil (by omega)
  ·rw[hO.pre.po]
   exact IZ hq (by omega)
 rw[if_neg h12]
 exact xB p ls hr hi hL h8 h10 h12
def knR (a:List Nat):List AV:=a.map fun n:Nat=>.sc (.int .i64 (n:Int))
instance (a:List Nat):PR (knR a):=inferInstanceAs (PR (a.map fun n:Nat=>AV.sc (.int .i64 (n:Int))))
theorem jC (a:List Nat):(knR a).length=a.length:=by simp[knR]
theorem FD {a:List Nat} {b:Nat} (h:b < a.length):(knR a)[b]?=some (.sc (.int .i64 (a[b]:Int))):=by simp[knR,h]
theorem zA (a:List Nat) (b n:Nat):(knR a).set b (.sc (.int .i64 (n:Int)))=knR (a.set b n):=by simp[knR,List.map_set]
theorem sY (a:List Nat):(knR a).all AV.cell1=true:=by
 rw[List.all_eq_true]
 intro c hc
 obtain⟨n,_,rfl⟩:=List.mem_map.1 hc
 rfl
def gH (a b:List Nat):List Nat:=List.zipWith max a b
theorem jJ {a b:List Nat} (h:a.length=b.length):(gH a b).length=a.length:=by simp[gH,h]
def lD (a b:List Nat) (j:Nat):List Nat:=(gH a b).take j++a.drop j
theorem JZ {a b:List Nat} {j:Nat} (h:a.length=b.length) (hj:j≤a.length):(lD a b j).length=a.length:=by
 unfold lD
 rw[List.length_append,List.length_take,List.length_drop,jJ h]
 omega
theorem IR {a b:List Nat} {j:Nat} (h:a.length=b.length) (hj:j < a.length):(lD a b j)[j]?=some a[j]:=by
 unfold lD
 rw[List.getElem?_append_right (by rw[List.length_take,jJ h]; omega),List.length_take,jJ h,Nat.min_eq_left (by omega),Nat.sub_self,List.getElem?_drop]
 simp[hj]
theorem GE {a b:List Nat} {j:Nat} (h:a.length=b.length) (hj:j < a.length):(lD a b j).set j (max a[j] (b[j]'(by omega)))=lD a b (j+1):=by
 unfold lD
 have h1:((gH a b).take j).length=j:=by rw[List.length_take,jJ h]; omega
 rw[List.set_append_right _ _ (by omega),h1,Nat.sub_self,List.drop_eq_getElem_cons hj,List.set_cons_zero,List.take_succ_eq_append_getElem (by rw[jJ h]; exact hj),List.append_assoc]
 congr 1
 simp[gH]
theorem KA {a b:List Nat} (h:a.length=b.length):lD a b a.length=gH a b:=by
 unfold lD
 rw[List.drop_length,List.append_nil,List.take_of_length_le (by rw[jJ h]; exact Nat.le_refl _)]
theorem vQ:∀(a b:List Nat),a.length=b.length→∀ ks:List Go.Av.LK,ks=List.replicate a.length .i→cL ks (a.map fun n:Nat=>Value.int .i64 (n:Int)) (b.map fun n:Nat=>Value.int .i64 (n:Int))=some (decide (a=b))
 | [],[],_,ks,h=>by subst h; rfl
 | x::a,y::b,h,ks,hk=>by
  subst hk
  have ih:=vQ a b (by simpa using h) _ rfl
  rw[List.length_cons,List.replicate_succ,List.map_cons,List.map_cons]
  simp only[cL,lK,decide_true]
  rw[ih]
  simp only[oIn]
  rw[Bool.eq_iff_iff]
  simp
  intro _
  constructor<;>omega
theorem OF (a:List Nat):scs (knR a)=some (a.map fun n:Nat=>Value.int .i64 (n:Int)):=by
 induction a with
 | nil=>rfl
 | cons x a ih=>
  show(match scs (knR a) with | some q=>some (Value.int .i64 (x:Int)::q) | none=>none)=_
  rw[ih]
  rfl
theorem GF {g i:Nat} {fr:Fr} {H:Heap} {x y:Operand} {a b:List Nat} {ks:List Go.Av.LK} (hx:ev fr x=.agg (knR a)) (hy:ev fr y=.agg (knR b)) (hl:a.length=b.length) (hk:ks=List.replicate a.length .i):
  aH g i (.xop (.eqAgg true ks) [x,y]) fr H=some (.sc (.bool (!decide (a=b))),H):=by
 simp only[aH,aX,List.map_cons,List.map_nil,hx,hy,kM,gA,OF,vQ a b hl ks hk,gC]
 simp
theorem H7 {α:Type} {l:List α} {q:Nat} {a:α} (h:l[q]?=some a):l.set q a=l:=by
 obtain⟨h1,rfl⟩:=gEs.1 h
 exact List.set_getElem_self h1
theorem join1 (rows:List (List Nat)) (q:Nat) (a b:List Nat) (ha:a.length=64) (hb:b.length=64) (hq:rows[q]?=some a):
  aQ Tryz.prog 57 [.ptr 0 0 q 0,.agg (knR b)] [[.cells 64 (rows.map knR)]] fun res H'=>res=.sc (.bool (!decide (gH a b=a)))∧H'=[[.cells 64 ((rows.set q (gH a b)).map knR)]]:=by
 refine aQ.of cF57 ?_ (nlB rfl)
 have e1:=jC a
 rw[ha] at e1
 have e2:=jC b
 rw[hb] at e2
 have c1:=sY a
 have c2:=sY b
 have hq1:(rows.map knR)[q]?=some (knR a):=by rw[List.getElem?_map,hq]; rfl
 refine AWP.seq ?_
 refine AWP.region ?_
 refine Reg.o rfl (vN rfl c2 e2) ?_
 refine aA ?_
 have hqr:q < rows.length:=(gEs.1 hq).1
 refine AWP.loop (fun j:Nat=>[(0,.ptr 0 0 q 0),(5,.cptr (knR a)),(11,.agg (knR b)),(12,.sc (.int .i64 (j:Int)))]) (fun j=>[[.cells 64 ((rows.set q (lD a b j)).map knR)]]) (fun j=>j≤64) (fun j=>64 - j) 0 (Nat.zero_le _) ?_ ?_
 ·have hz:rows.set q (lD a b 0)=rows:=by
   have:lD a b 0=a:=by unfold lD; simp
   rw[this]
   exact H7 hq
  rw[hz]
  exact Sub.w [] [[(0,0)]]
 rintro j hj
 refine aA ?_
 refine AWP.condD rfl (fun h=>?_) (fun h=>?_)
 ·have hb1:=FD (a:=b) (b:=j) (by omega)
  have hrow:((rows.set q (lD a b j)).map knR)[q]?=some (knR (lD a b j)):=by simp[hqr]
  have hk:=JZ (a:=a) (b:=b) (j:=j) (by omega) (by omega)
  have hc:(knR (lD a b j))[j]?=some (.sc (.int .i64 (a[j]:Int))):=by
   have:=IR (a:=a) (b:=b) (j:=j) (by omega) (by omega)
   simp[knR,this]
  have hs:=GE (a:=a) (b:=b) (j:=j) (by omega) (by omega)
  have hl64:j < (knR (lD a b j)).length:=by rw[jC]; omega
  generalize b[j]=y at *
  generalize a[j]=z at *
  refine aA ?_
  refine Reg.o rfl (zN rfl rfl rfl h hb1) ?_
  refine aA ?_
  refine DK.nil ⟨by kernel_rfl,?_⟩
  refine aA ?_
  refine⟨j+1,by omega,by omega,?_⟩
  have bH:((rows.set q (lD a b j)).map knR).set q ((knR (lD a b j)).set j (.sc (.int .i64 ((max z y:Nat):Int))))=(rows.set q (lD a b (j+1))).map knR:=by
   rw[zA,hs,← List.map_set,List.set_set]
  exact Sub.w [] [[(0,0)]]
 ·have hj2:j=64:=by omega
  subst hj2
  have hka:lD a b 64=gH a b:=by
   have:=KA (a:=a) (b:=b) (by omega)
   rwa[ha] at this
  rw[hka]
  have hkm:=jJ (a:=a) (b:=b) (by omega)
  have e3:=jC (gH a b)
  rw[hkm,ha] at e3
  have hrow:((rows.set q (gH a b)).map knR)[q]?=some (knR (gH a b)):=by simp[hqr]
  refine aA ?_
  refine DK.o rfl (C2 rfl (Nat.le_of_eq e1.symm) (List.take_of_length_le (Nat.le_of_eq e1))) ?_
  refine DK.o rfl (GF rfl rfl hkm (by rw[hkm,ha]; rfl)) ?_
  refine aA ?_
  refine DK.nil ⟨by kernel_rfl,?_⟩
  refine aA ?_
  exact zY [[(0,0)]] (⟨rfl,rfl⟩)
theorem FR {H:Heap} {g i:Nat} {rows:List (List Nat)} {q:Nat} {a b:List Nat} (hx:hget H g i=some (.cells 64 (rows.map knR))) (ha:a.length=64) (hb:b.length=64) (hq:rows[q]?=some a):
  aQ Tryz.prog 57 [.ptr g i q 0,.agg (knR b)] H fun res H'=>res=.sc (.bool (!decide (gH a b=a)))∧H'=bH H g i (.cells 64 ((rows.set q (gH a b)).map knR)):=by
 have hp:∀ rows:List (List Nat),kU (.cells 64 (rows.map knR)):=fun rows r hr=>by
  obtain⟨x,_,rfl⟩:=List.mem_map.1 hr
  exact pr (knR x)
 refine(aQ.via1 (args:=[.ptr g i q 0,.agg (knR b)]) (args':=[.ptr 0 0 q 0,.agg (knR b)]) g i (R:=fun res y=>res=.sc (.bool (!decide (gH a b=a)))∧y=.cells 64 ((rows.set q (gH a b)).map knR)) ((join1 rows q a b ha hb hq).mono ?_) hx (hp rows) ⟨.ptr _ _ _ _ _ _ rfl,.pure (pv (.agg (knR b))),trivial⟩).mono ?_
 ·rintro res H' ⟨rfl,rfl⟩
  exact⟨_,rfl,.sc _,hp _,rfl,rfl⟩
 ·rintro res H' ⟨y,rfl,rfl,rfl⟩
  exact⟨rfl,rfl⟩
def umB (es:List (List Int×AV)):Blk:=match es with
 | []=>.map []
 | e::l=>.umap 2 (e::l)
theorem J6 (c:List Int) (v:AV) (es:List (List Int×AV)):umB (dT c v es)=.umap 2 (dT c v es):=by
 cases es with
 | nil=>rfl
 | cons e l=>
  obtain⟨d,y⟩:=e
  unfold dT
  split<;>rfl
theorem D3 {T:AV→AV→Prop} {ρ:Nat→Nat→Option (Nat×Nat)} {es:List (List Int×AV)} (h:∀ x∈es,bQ x.2):ToB T ρ (umB es) (umB es):=by
 cases es with
 | nil=>exact ToB.mapE rfl fun x hx=>by cases hx
 | cons e l=>exact .umap _ _ h
theorem yT {g i:Nat} {fr:Fr} {H:Heap} {z:AV} {x ix:Operand} {g' i':Nat} {p q:Int} {es:List (List Int×AV)} {v:AV} (hx:ev fr x=.mref g' i') (hk:ev fr ix=.agg [.sc (.int .i64 p),.sc (.int .i64 q)]) (hh:hget H g' i'=some (umB es)) (hv:(bV [p,q] es).getD z=v):
  aH g i (.xop (.lookF [.i,.i] z false) [x,ix]) fr H=some (v,H):=by
 have e1:gA (.agg [.sc (.int .i64 p),.sc (.int .i64 q)])=some [.int .i64 p,.int .i64 q]:=rfl
 have e2:∃ r,cL [.i,.i] [.int .i64 p,.int .i64 q] [.int .i64 p,.int .i64 q]=some r:=⟨_,rfl⟩
 obtain⟨r,e2⟩:=e2
 have e3:o5 [.int .i64 p,.int .i64 q]=some [p,q]:=rfl
 subst hv
 cases es with
 | nil=>
  have hh:hget H g' i'=some (.map []):=hh
  simp only[aH,aX,List.map_cons,List.map_nil,kM,hk,e1,e2,hx,jU,hh,iE]
  rfl
 | cons e l=>
  have hh:hget H g' i'=some (.umap 2 (e::l)):=hh
  have e4:Nat.beq [p,q].length 2=true:=rfl
  simp only[aH,aX,List.map_cons,List.map_nil,kM,hk,e1,e2,hx,jU,hh,e3,e4]
  cases bV [p,q] (e::l)<;>rfl
theorem BJ {g i:Nat} {fr:Fr} {H:Heap} {m ix x:Operand} {g' i':Nat} {p q:Int} {es:List (List Int×AV)} {v:AV} (hx:ev fr m=.mref g' i') (hk:ev fr ix=.agg [.sc (.int .i64 p),.sc (.int .i64 q)]) (hv:ev fr x=v) (hh:hget H g' i'=some (umB es)) (hf:bV [p,q] es=none):
  aH g i (.insF [.i,.i] m ix x) fr H=some (.undef,bH H g' i' (umB (dT [p,q] v es))):=by
 have e1:gA (.agg [.sc (.int .i64 p),.sc (.int .i64 q)])=some [.int .i64 p,.int .i64 q]:=rfl
 have e2:∃ r,cL [.i,.i] [.int .i64 p,.int .i64 q] [.int .i64 p,.int .i64 q]=some r:=⟨_,rfl⟩
 obtain⟨r,e2⟩:=e2
 have e3:o5 [.int .i64 p,.int .i64 q]=some [p,q]:=rfl
 rw[J6]
 cases es with
 | nil=>
  have hh:hget H g' i'=some (.map []):=hh
  simp only[aH,hk,e1,e2,hx,hh,e3,hv]
  rfl
 | cons e l=>
  have hh:hget H g' i'=some (.umap 2 (e::l)):=hh
  have e4:Nat.beq [p,q].length 2=true:=rfl
  simp only[aH,hk,e1,e2,hx,hh,e3,e4,hf,hv]
def oB (o:Nat→List (List Nat)) (b:Nat):Blk:=.cells 64 ((o b).map knR)
instance (rows:List (List Nat)):PRs (rows.map knR):=inferInstance
def iP (n:Nat) (g:Nat→AV) (m:Nat) (o:Nat→List (List Nat)) (es:List (List Int×AV)):Heap:=[[.cells 1 (row1 n g)],fam m (oB o),[umB es]]
theorem Sub.oH {N:Nat} {fr fr':Fr} {H:Heap} {n m:Nat} {g g':Nat→AV} {o:Nat→List (List Nat)} {es:List (List Int×AV)} (h0:hget H 0 0=some (.cells 1 (row1 n g))) (h1:∀ b,b < m→hget H 1 b=some (oB o b)) (h2:hget H 2 0=some (umB es)) (hp:∀ x∈es,bQ x.2)
  (hg:∀ b,b < n→To (ToT (H++gh []) H.length (fG [.c [(0,0)],.w 1 m [],.c [(2,0)]])) (rho (idK [.c [(0,0)],.w 1 m [],.c [(2,0)]])) (g b) (g' b)) (h5:aB (ToT (H++gh []) H.length (fG [.c [(0,0)],.w 1 m [],.c [(2,0)]])) (rho (idK [.c [(0,0)],.w 1 m [],.c [(2,0)]])) fr fr'):
  Sub 0 N fr H fr' (iP n g' m o es):=by
 have e:H++gh []=H:=List.append_nil _
 refine Sub.toK [] [.c [(0,0)],.w 1 m [],.c [(2,0)]] h5 ⟨⟨⟨_,by rw[e]; exact h0,ToB.row1 hg⟩,trivial⟩,aY.ofFam (fun b hb=>⟨_,by rw[e]; exact h1 b hb,ToB.rows rfl (prs _)⟩),⟨⟨_,by rw[e]; exact h2,D3 hp⟩,trivial⟩,trivial⟩ trivial
theorem Sub.oS {N:Nat} {fr fr':Fr} {H:Heap} {n m:Nat} {g g':Nat→AV} {o:Nat→List (List Nat)} {es:List (List Int×AV)} {q:Nat×Nat} (h0:hget H 0 0=some (.cells 1 (row1 n g))) (h1:∀ b,b < m→hget H 1 b=some (oB o b)) (hq:hget H q.1 q.2=some (oB o m)) (h2:hget H 2 0=some (umB es)) (hp:∀ x∈es,bQ x.2) (hok:okK [.c [(0,0)],.w 1 m [q],.c [(2,0)]]=true)
  (hg:∀ b,b < n→To (ToT (H++gh []) H.length (fG [.c [(0,0)],.w 1 m [q],.c [(2,0)]])) (rho (idK [.c [(0,0)],.w 1 m [q],.c [(2,0)]])) (g b) (g' b)) (h5:aB (ToT (H++gh []) H.length (fG [.c [(0,0)],.w 1 m [q],.c [(2,0)]])) (rho (idK [.c [(0,0)],.w 1 m [q],.c [(2,0)]])) fr fr'):
  Sub 0 N fr H fr' (iP n g' (m+1) o es):=by
 have e:H++gh []=H:=List.append_nil _
 refine Sub.toK [] [.c [(0,0)],.w 1 m [q],.c [(2,0)]] h5 ⟨⟨⟨_,by rw[e]; exact h0,ToB.row1 hg⟩,trivial⟩,aY.famS (fun b hb=>⟨_,by rw[e]; exact h1 b hb,ToB.rows rfl (prs _)⟩) (by rw[e]; exact hq) (ToB.rows rfl (prs _)),⟨⟨_,by rw[e]; exact h2,D3 hp⟩,trivial⟩,trivial⟩ trivial hok
theorem FH {m k:Nat} {o:Nat→List (List Nat)} {x:List (List Nat)}:(fam m (oB o)).set k (.cells 64 (x.map knR))=fam m (oB fun b=>if b=k then x else o b):=by
 rw[rS]
 refine fD fun j _=>?_
 by_cases h:j=k<;>simp[h,oB]
def z64:List Nat:=List.replicate 64 0
def cI (p:Pg) (b:Nat):Nat:=((p.acts[b]?).getD []).length
theorem dP {p:Pg} {r:Nat} {l:List Act} (h:p.acts[r]?=some l):cI p r=l.length:=by unfold cI; rw[h]; rfl
def j4 (r len j:Nat):List (List Nat):=(List.range (len+1)).map fun i=>if i≤j then z64.set r i else z64
theorem lU (r len j:Nat):(j4 r len j).length=len+1:=by simp[j4]
theorem IF {r:Nat}:z64.set r 0=z64:=by
 unfold z64
 apply List.ext_getElem?
 intro i
 rw[List.getElem?_set]
 by_cases h:r=i
 ·subst h
  rw[if_pos rfl,List.length_replicate]
  by_cases h2:r < 64
  ·rw[if_pos h2,List.getElem?_replicate,if_pos h2]
  ·rw[if_neg h2,List.getElem?_eq_none (by rw[List.length_replicate]; omega)]
 ·rw[if_neg h]
theorem EJ (r len:Nat):j4 r len 0=List.replicate (len+1) z64:=by
 unfold j4
 rw[List.eq_replicate_iff]
 refine⟨by simp,fun x hx=>?_⟩
 obtain⟨i,_,rfl⟩:=List.mem_map.1 hx
 split
 ·rename_i h
  have:i=0:=by omega
  subst this
  exact IF
 ·rfl
theorem lW {r len j i:Nat} (hi:i < len+1):(j4 r len j)[i]?=some (if i≤j then z64.set r i else z64):=by
 unfold j4
 rw[List.getElem?_map,List.getElem?_range hi]
 rfl
theorem C0 {r len j:Nat} (hj:j < len):(j4 r len j).set (j+1) (z64.set r (j+1))=j4 r len (j+1):=by
 apply List.ext_getElem?
 intro i
 rw[List.getElem?_set]
 by_cases h:j+1=i
 ·subst h
  rw[if_pos rfl,lU,if_pos (by omega),lW (by omega),if_pos (Nat.le_refl _)]
 ·rw[if_neg h]
  by_cases hi:i < len+1
  ·rw[lW hi,lW hi]
   by_cases h2:i≤j
   ·rw[if_pos h2,if_pos (by omega)]
   ·rw[if_neg h2,if_neg (by omega)]
  ·rw[List.getElem?_eq_none (by rw[lU]; omega),List.getElem?_eq_none (by rw[lU]; omega)]
theorem N0:fF [(64,.int .i64 0)]=knR z64:=rfl
theorem KX (n:Nat):List.replicate n (fF [(64,.int .i64 0)])=(List.replicate n z64).map knR:=by rw[N0,List.map_replicate]
def tT (p:Pg) (b:Nat):List (List Nat):=j4 b (cI p b) (cI p b)
structure FU (p:Pg) (ls:List Ln) (r i:Nat) (es:List (List Int×AV)):Prop where
 f:∀ a j:Nat,bV [(a:Int),(j:Int)] es=if (a < r∨a=r∧j≤i)∧1≤j∧j≤cI p a then some (.list 2 (j7 (jY p ls a (j - 1)).1)) else none
 p:∀ x∈es,bQ x.2
theorem uS (c:List Int) (x:AV):∀ es:List (List Int×AV),bV c es=none→bV c (dT c x es)=some x
 | [],_=>by simp[dT,bV]
 | (d,y)::es,h=>by
  unfold bV at h
  split at h
  ·cases h
  ·rename_i hd
   unfold dT
   split
   ·simp[bV]
   ·unfold bV
    rw[hd]
    exact uS c x es h
theorem xT {c:List Int} {v:AV} (hv:bQ v):∀ {es:List (List Int×AV)},(∀ x∈es,bQ x.2)→∀ x∈dT c v es,bQ x.2
 | [],_,x,hx=>by rw[List.mem_singleton.1 hx]; exact hv
 | (d,y)::es,h,x,hx=>by
  unfold dT at hx
  split at hx
  ·rcases List.mem_cons.1 hx with rfl | hx
   ·exact hv
   ·exact h x hx
  ·rcases List.mem_cons.1 hx with rfl | hx
   ·exact h _ (by simp)
   ·exact xT hv (fun x hx=>h x (by simp[hx])) x hx
theorem FU.zero (p:Pg) (ls:List Ln):FU p ls 0 0 []:=⟨fun a j=>by rw[if_neg (by omega)]; rfl,fun _ h=>by cases h⟩
theorem FU.next {p:Pg} {ls:List Ln} {r i:Nat} {es:List (List Int×AV)} (h:FU p ls r i es) (hi:cI p r≤i):FU p ls (r+1) 0 es:=⟨fun a j=>by
 rw[h.f a j]
 by_cases c:(a < r∨a=r∧j≤i)∧1≤j∧j≤cI p a
 ·rw[if_pos c,if_pos ⟨by omega,c.2⟩]
 ·rw[if_neg c,if_neg]
  rintro⟨c1,c2,c3⟩
  refine c ⟨?_,c2,c3⟩
  by_cases ha:a=r
  ·subst ha; omega
  ·omega,h.p⟩
theorem FU.free {p:Pg} {ls:List Ln} {r i:Nat} {es:List (List Int×AV)} (h:FU p ls r i es):bV [(r:Int),((i+1:Nat):Int)] es=none:=by
 rw[h.f r (i+1),if_neg (by omega)]
theorem FU.step {p:Pg} {ls:List Ln} {r i:Nat} {es:List (List Int×AV)} (h:FU p ls r i es) (hi:i < cI p r):FU p ls r (i+1) (dT [(r:Int),((i+1:Nat):Int)] (.list 2 (j7 (jY p ls r i).1)) es):=by
 refine⟨fun a j=>?_,xT (.list _ _ (prs _)) h.p⟩
 by_cases c:a=r∧j=i+1
 ·obtain⟨rfl,rfl⟩:=c
  rw[uS _ _ _ h.free,if_pos (by omega)]
  rfl
 ·rw[mX _ (fun e=>c (by injection e with e1 e2; injection e2 with e2 _; omega)),h.f a j]
  by_cases d:(a < r∨a=r∧j≤i)∧1≤j∧j≤cI p a
  ·rw[if_pos d,if_pos ⟨by omega,d.2⟩]
  ·rw[if_neg d,if_neg (by omega)]
abbrev Ord:=List (List (List Nat))
def cU (o:Ord) (r:Nat):List (List Nat):=o.getD r []
def dY (o:Ord) (r i:Nat):List Nat:=(cU o r).getD i []
def gO (p:Pg) (ls:List Ln) (r i:Nat):List Pl:=if 1≤i∧i≤cI p r then(jY p ls r (i - 1)).1 else[]
def vK (k:List Nat) (x:Pl):List Nat:=k.set x.1 (max (k.getD x.1 0) (x.2+1))
def pK (o:Ord) (k:List Nat) (b:Nat):List Nat:=if 0 < k.getD b 0 then gH k (dY o b (k.getD b 0 - 1)) else k
def kB (p:Pg) (ls:List Ln) (o:Ord) (r i:Nat):List Nat:=(gO p ls r i).foldl vK (dY o r i)
def kC (n:Nat) (p:Pg) (ls:List Ln) (o:Ord) (r i:Nat):List Nat:=(List.range n).foldl (pK o) (kB p ls o r i)
def newK (n:Nat) (p:Pg) (ls:List Ln) (o:Ord) (r i:Nat):List Nat:=gH (dY o r i) (kC n p ls o r i)
def sA (o:Ord) (r i:Nat) (k:List Nat):Ord:=o.set r ((cU o r).set i k)
def kX (n:Nat) (p:Pg) (ls:List Ln) (r:Nat) (s:Bool×Ord) (i:Nat):Bool×Ord:=(s.1 || !decide (newK n p ls s.2 r i=dY s.2 r i),sA s.2 r i (newK n p ls s.2 r i))
def jB (n:Nat) (p:Pg) (ls:List Ln) (s:Bool×Ord) (r:Nat):Bool×Ord:=(List.range (cI p r+1)).foldl (kX n p ls r) s
def k7 (n:Nat) (p:Pg) (ls:List Ln) (o:Ord):Bool×Ord:=(List.range n).foldl (jB n p ls) (false,o)
structure OOK (p:Pg) (n:Nat) (o:Ord):Prop where
 len:o.length=n
 rows:∀ b,b < n→(cU o b).length=cI p b+1
 row:∀ b i,b < n→i≤cI p b→(dY o b i).length=64
 bd:∀ b i c,b < n→i≤cI p b→(dY o b i).getD c 0≤cI p c
def KOK (p:Pg) (k:List Nat):Prop:=k.length=64∧∀ c,k.getD c 0≤cI p c
theorem OOK.k {p:Pg} {n:Nat} {o:Ord} (h:OOK p n o) {b i:Nat} (hb:b < n) (hi:i≤cI p b):KOK p (dY o b i):=⟨h.row b i hb hi,fun c=>h.bd b i c hb hi⟩
theorem BH {k:List Nat} {a v c:Nat} (h:a < k.length):(k.set a v).getD c 0=if a=c then v else k.getD c 0:=by
 rw[List.getD_eq_getElem?_getD,List.getElem?_set,List.getD_eq_getElem?_getD]
 by_cases e:a=c
 ·rw[if_pos e,if_pos e,if_pos h]; rfl
 ·rw[if_neg e,if_neg e]
theorem G4 {a b:List Nat} (h:a.length=b.length) (c:Nat):(gH a b).getD c 0=max (a.getD c 0) (b.getD c 0):=by
 unfold gH
 rw[List.getD_eq_getElem?_getD,List.getD_eq_getElem?_getD,List.getD_eq_getElem?_getD,List.getElem?_zipWith]
 by_cases hc:c < a.length
 ·rw[gEg hc,gEg (show c < b.length by omega)]
  rfl
 ·rw[List.getElem?_eq_none (by omega),List.getElem?_eq_none (show b.length≤c by omega)]
  rfl
theorem KOK.fst {p:Pg} {k:List Nat} (h:KOK p k) {x:Pl} (h1:x.1 < 64) (h2:x.2 < cI p x.1):KOK p (vK k x):=by
 obtain⟨q1,q2⟩:=h
 refine⟨by unfold vK; rw[List.length_set]; exact q1,fun c=>?_⟩
 unfold vK
 rw[BH (by omega)]
 by_cases e:x.1=c
 ·rw[if_pos e,← e]
  have:=q2 x.1
  omega
 ·rw[if_neg e]
  exact q2 c
theorem KOK.max {p:Pg} {a b:List Nat} (ha:KOK p a) (hb:KOK p b):KOK p (gH a b):=by
 have hl:a.length=b.length:=ha.1.trans hb.1.symm
 refine⟨(jJ hl).trans ha.1,fun c=>?_⟩
 rw[G4 hl]
 have:=ha.2 c
 have:=hb.2 c
 omega
theorem KOK.join {p:Pg} {n:Nat} {o:Ord} (ho:OOK p n o) {k:List Nat} (h:KOK p k) {b:Nat} (hb:b < n):KOK p (pK o k b):=by
 unfold pK
 split
 ·have:=h.2 b
  exact h.max (ho.k hb (by omega))
 ·exact h
theorem fV {α β:Type} {f:α→β→α} {I:α→Prop}:∀ {l:List β} {a:α},I a→(∀ a b,b∈l→I a→I (f a b))→I (l.foldl f a)
 | [],_,h,_=>h
 | b::l,_,h,hf=>fV (l:=l) (hf _ b (by simp) h) fun a c hc=>hf a c (by simp[hc])
structure FOK (p:Pg) (ls:List Ln):Prop where
 m:∀ r i x,x∈gO p ls r i→x.1 < 64∧x.2 < cI p x.1
 l:∀ r i,(gO p ls r i).length≤1000000
theorem KOK.kB {p:Pg} {ls:List Ln} {n:Nat} {o:Ord} (hF:FOK p ls) (ho:OOK p n o) {r i:Nat} (hr:r < n) (hi:i≤cI p r):KOK p (kB p ls o r i):=
 fV (ho.k hr hi) fun _ x hx h=>h.fst (hF.m r i x hx).1 (hF.m r i x hx).2
theorem KOK.kC {p:Pg} {ls:List Ln} {n:Nat} {o:Ord} (hF:FOK p ls) (ho:OOK p n o) {r i:Nat} (hr:r < n) (hi:i≤cI p r):KOK p (kC n p ls o r i):=
 fV (KOK.kB hF ho hr hi) fun _ _ hb h=>h.join ho (List.mem_range.1 hb)
theorem KOK.newK {p:Pg} {ls:List Ln} {n:Nat} {o:Ord} (hF:FOK p ls) (ho:OOK p n o) {r i:Nat} (hr:r < n) (hi:i≤cI p r):KOK p (newK n p ls o r i):=
 (ho.k hr hi).max (KOK.kC hF ho hr hi)
theorem sB {o:Ord} {r b:Nat} {x:List (List Nat)} (h:r < o.length):cU (o.set r x) b=if b=r then x else cU o b:=by
 unfold cU
 rw[List.getD_eq_getElem?_getD,List.getElem?_set,List.getD_eq_getElem?_getD]
 by_cases e:r=b
 ·rw[if_pos e,if_pos e.symm,if_pos h]; rfl
 ·rw[if_neg e,if_neg (fun q=>e q.symm)]
theorem AU {o:Ord} {r i b j:Nat} {k:List Nat} (h:r < o.length) (hi:i < (cU o r).length):dY (sA o r i k) b j=if b=r∧j=i then k else dY o b j:=by
 unfold dY sA
 rw[sB h]
 by_cases e:b=r
 ·subst e
  rw[if_pos rfl,List.getD_eq_getElem?_getD,List.getElem?_set,List.getD_eq_getElem?_getD]
  by_cases e2:i=j
  ·rw[if_pos e2,if_pos hi,if_pos ⟨rfl,e2.symm⟩]; rfl
  ·rw[if_neg e2,if_neg (fun q=>e2 q.2.symm)]
 ·rw[if_neg e,if_neg (fun q=>e q.1)]
theorem OOK.set {p:Pg} {n:Nat} {o:Ord} (h:OOK p n o) {r i:Nat} {k:List Nat} (hr:r < n) (hi:i≤cI p r) (hk:KOK p k):OOK p n (sA o r i k):=by
 have h1:r < o.length:=by rw[h.len]; exact hr
 have h2:i < (cU o r).length:=by rw[h.rows r hr]; omega
 refine⟨by unfold sA; rw[List.length_set]; exact h.len,fun b hb=>?_,fun b j hb hj=>?_,fun b j c hb hj=>?_⟩
 ·unfold sA
  rw[sB h1]
  split
  ·rename_i e
   rw[e,List.length_set]
   exact h.rows r hr
  ·exact h.rows b hb
 ·rw[AU h1 h2]
  split
  ·exact hk.1
  ·exact h.row b j hb hj
 ·rw[AU h1 h2]
  split
  ·exact hk.2 c
  ·exact h.bd b j c hb hj
theorem OOK.step {p:Pg} {ls:List Ln} {n:Nat} (hF:FOK p ls) {s:Bool×Ord} (h:OOK p n s.2) {r i:Nat} (hr:r < n) (hi:i≤cI p r):OOK p n (kX n p ls r s i).2:=
 h.set hr hi (KOK.newK hF h hr hi)
def mM (o:Ord):Nat:=(o.map fun rows=>(rows.map List.sum).sum).sum
theorem y8:∀ {l:List Nat} {i v:Nat} (h:i < l.length),(l.set i v).sum+l[i]=l.sum+v
 | x::l,0,v,_=>by simp; omega
 | x::l,i+1,v,h=>by
  have:=y8 (l:=l) (i:=i) (v:=v) (by simpa using h)
  simp only[List.set_cons_succ,List.sum_cons,List.getElem_cons_succ]
  omega
theorem KC {o:Ord} {r i:Nat} {k:List Nat} (h:r < o.length) (hi:i < (cU o r).length):mM (sA o r i k)+(dY o r i).sum=mM o+k.sum:=by
 have e1:cU o r=o[r]:=by unfold cU; rw[List.getD_eq_getElem?_getD,gEg h]; rfl
 have hi':i < o[r].length:=by rw[← e1]; exact hi
 have e2:dY o r i=o[r][i]:=by unfold dY; rw[e1,List.getD_eq_getElem?_getD,gEg hi']; rfl
 unfold mM sA
 rw[e2,e1,List.map_set,List.map_set]
 have h1:=y8 (l:=o.map fun rows=>(rows.map List.sum).sum) (i:=r) (v:=((o[r].map List.sum).set i k.sum).sum) (by rw[List.length_map]; exact h)
 have h2:=y8 (l:=o[r].map List.sum) (i:=i) (v:=k.sum) (by rw[List.length_map]; exact hi')
 simp only[List.getElem_map] at h1 h2
 omega
theorem A9:∀ {a b:List Nat},a.length=b.length→a.sum≤(gH a b).sum∧(gH a b≠a→a.sum < (gH a b).sum)
 | [],[],_=>⟨Nat.le_refl _,fun h=>absurd rfl h⟩
 | x::a,y::b,h=>by
  obtain⟨h1,h2⟩:=A9 (a:=a) (b:=b) (by simpa using h)
  have e:gH (x::a) (y::b)=max x y::gH a b:=rfl
  rw[e]
  simp only[List.sum_cons]
  refine⟨by omega,fun hne=>?_⟩
  by_cases hx:max x y=x
  ·have:=h2 fun e2=>hne (by rw[hx,e2])
   omega
  ·omega
theorem HU {p:Pg} {ls:List Ln} {n:Nat} (hF:FOK p ls) {s:Bool×Ord} (h:OOK p n s.2) {r i:Nat} (hr:r < n) (hi:i≤cI p r):
  mM s.2≤mM (kX n p ls r s i).2∧((kX n p ls r s i).1=true→s.1=true∨mM s.2 < mM (kX n p ls r s i).2):=by
 have h1:r < s.2.length:=by rw[h.len]; exact hr
 have h2:i < (cU s.2 r).length:=by rw[h.rows r hr]; omega
 have hs:=KC (k:=newK n p ls s.2 r i) h1 h2
 have hl:(dY s.2 r i).length=(kC n p ls s.2 r i).length:=(h.row r i hr hi).trans (KOK.kC hF h hr hi).1.symm
 obtain⟨k1,k2⟩:=A9 hl
 have e:newK n p ls s.2 r i=gH (dY s.2 r i) (kC n p ls s.2 r i):=rfl
 show mM s.2≤mM (sA s.2 r i (newK n p ls s.2 r i))∧((s.1 || !decide (newK n p ls s.2 r i=dY s.2 r i))=true→_)
 rw[← e] at k1 k2
 refine⟨by omega,fun hm=>?_⟩
 by_cases c:newK n p ls s.2 r i=dY s.2 r i
 ·rw[dTr c] at hm
  left
  simpa using hm
 ·right
  have:=k2 c
  show mM s.2 < mM (sA s.2 r i (newK n p ls s.2 r i))
  omega
structure tW (p:Pg) (n S:Nat) (s:Bool×Ord):Prop where
 ok:OOK p n s.2
 ge:S≤mM s.2
 gt:s.1=true→S < mM s.2
theorem tW.step {p:Pg} {ls:List Ln} {n S:Nat} (hF:FOK p ls) {s:Bool×Ord} (h:tW p n S s) {r i:Nat} (hr:r < n) (hi:i≤cI p r):tW p n S (kX n p ls r s i):=by
 obtain⟨h1,h2⟩:=HU hF h.ok hr hi
 refine⟨h.ok.step hF hr hi,Nat.le_trans h.ge h1,fun e=>?_⟩
 rcases h2 e with e2 | e2
 ·exact Nat.lt_of_lt_of_le (h.gt e2) h1
 ·exact Nat.lt_of_le_of_lt h.ge e2
theorem tW.row {p:Pg} {ls:List Ln} {n S:Nat} (hF:FOK p ls) {s:Bool×Ord} (h:tW p n S s) {r:Nat} (hr:r < n):tW p n S (jB n p ls s r):=
 fV h fun _ i hi h=>h.step hF hr (by have:=List.mem_range.1 hi; omega)
theorem tW.pass {p:Pg} {ls:List Ln} {n:Nat} (hF:FOK p ls) {o:Ord} (h:OOK p n o):tW p n (mM o) (k7 n p ls o):=
 fV (I:=tW p n (mM o)) ⟨h,Nat.le_refl _,fun e=>by cases e⟩ fun _ r hr h=>h.row hF (List.mem_range.1 hr)
theorem zK:∀ {l:List Nat} {m:Nat},(∀ x∈l,x≤m)→l.sum≤l.length * m
 | [],_,_=>Nat.zero_le _
 | x::l,m,h=>by
  have:=zK (l:=l) (m:=m) fun y hy=>h y (by simp[hy])
  have:=h x (by simp)
  simp only[List.sum_cons,List.length_cons,Nat.add_mul]
  omega
def SOK (p:Pg):Prop:=∀ b,cI p b≤100
theorem MH {p:Pg} {n:Nat} {o:Ord} (hS:SOK p) (h:OOK p n o):mM o≤n * 646400:=by
 unfold mM
 have h1:∀ x∈o.map (fun rows=>(rows.map List.sum).sum),x≤646400:=fun x hx=>by
  obtain⟨rows,hr,rfl⟩:=List.mem_map.1 hx
  obtain⟨b,hb,rfl⟩:=List.getElem_of_mem hr
  have hb2:b < n:=by rw[← h.len]; exact hb
  have e1:cU o b=o[b]:=by unfold cU; rw[List.getD_eq_getElem?_getD,gEg hb]; rfl
  have hl:=h.rows b hb2
  rw[e1] at hl
  have h2:∀ x∈o[b].map List.sum,x≤6400:=fun x hx=>by
   obtain⟨row,hr,rfl⟩:=List.mem_map.1 hx
   obtain⟨i,hi,rfl⟩:=List.getElem_of_mem hr
   have e2:dY o b i=o[b][i]:=by unfold dY; rw[e1,List.getD_eq_getElem?_getD,gEg hi]; rfl
   obtain⟨k1,k2⟩:=h.k hb2 (show i≤cI p b by omega)
   rw[e2] at k1 k2
   have h3:∀ x∈o[b][i],x≤100:=fun x hx=>by
    obtain⟨c,hc,rfl⟩:=List.getElem_of_mem hx
    have:=k2 c
    rw[List.getD_eq_getElem?_getD,gEg hc] at this
    have:=hS c
    simp only[Option.getD_some] at *
    omega
   have:=zK h3
   rw[k1] at this
   exact this
  have:=zK h2
  rw[List.length_map,hl] at this
  have:=hS b
  have h4:(cI p b+1) * 6400≤101 * 6400:=Nat.mul_le_mul_right _ (by omega)
  omega
 have:=zK h1
 rw[List.length_map,h.len] at this
 exact this
def x5 (n:Nat) (p:Pg) (ls:List Ln):Nat→Ord→Ord
 | 0,o=>o
 | f+1,o=>if (k7 n p ls o).1=true then x5 n p ls f (k7 n p ls o).2 else(k7 n p ls o).2
def CP (p:Pg) (n:Nat):Ord:=(List.range n).map (tT p)
def kZ (n:Nat) (p:Pg) (ls:List Ln):Ord:=x5 n p ls (n * 646400+1) (CP p n)
theorem sZ {p:Pg} {n b:Nat} (h:b < n):cU (CP p n) b=tT p b:=by
 unfold cU CP
 rw[List.getD_eq_getElem?_getD,List.getElem?_map,List.getElem?_range h]
 rfl
theorem KV:z64.length=64:=List.length_replicate
theorem LS (c:Nat):z64.getD c 0=0:=by
 unfold z64
 rw[List.getD_eq_getElem?_getD,List.getElem?_replicate]
 split<;>rfl
theorem F1 (p:Pg) {n:Nat} (hn:n≤64):OOK p n (CP p n):=by
 have h1:∀ b,b < n→∀ i,i≤cI p b→dY (CP p n) b i=z64.set b i:=fun b hb i hi=>by
  unfold dY
  rw[sZ hb]
  unfold tT
  rw[List.getD_eq_getElem?_getD,lW (by omega),if_pos hi]
  rfl
 refine⟨by simp[CP],fun b hb=>by rw[sZ hb]; exact lU _ _ _,fun b i hb hi=>?_,fun b i c hb hi=>?_⟩
 ·rw[h1 b hb i hi,List.length_set]; rfl
 ·rw[h1 b hb i hi,BH (by rw[KV]; omega)]
  split
  ·rename_i e
   rw[← e]; exact hi
  ·rw[LS]; exact Nat.zero_le _
def cW (p:Pg) (r b:Nat):AV:=if b < r then .hsl 1 b 0 (cI p b+1) else .sc (.slice none 0 0)
def qR (p:Pg) (ls:List Ln) (r:Nat):Fr:=[(0,.cptr [.sc (.int .i64 p.cells),.list 1 (bY p.acts),.tmap formsE,.list 10 (d4 ls)]),(3,.hsl 0 0 0 ls.length),(4,.mref 2 0),(27,.list 1 (bY p.acts)),(28,.sc (.int .i64 (ls.length:Int))),(29,.sc (.int .i64 (r:Int)))]
def xG (n:Nat) (o:Ord):AV:=.list 1 (row1 n fun b=>.list 64 ((cU o b).map knR))
instance (n:Nat) (o:Ord):PV (xG n o):=by unfold xG; infer_instance
def tF (p:Pg) (ls:List Ln) (m:Bool):Fr:=[(0,.cptr [.sc (.int .i64 p.cells),.list 1 (bY p.acts),.tmap formsE,.list 10 (d4 ls)]),(3,.hsl 0 0 0 ls.length),(4,.mref 2 0),(8,.sc (.bool m))]
def MU:dB:=aG [1,1,1,1] F35.code
set_option maxHeartbeats 16000000 in
theorem II (p:Pg) (ls:List Ln) (hC:d9 p ls) (hp:POK p) (h2:∀ es,FU p ls ls.length 0 es→AWP Tryz.prog F35.n 0 MU (aW F35.res (xG ls.length (kZ ls.length p ls))) (qR p ls ls.length) (iP ls.length (cW p ls.length) ls.length (tT p) es)):
  aD Tryz.prog 35 [ckV p ls] (xG ls.length (kZ ls.length p ls)):=by
 refine aD.mkI cF35 (nlB rfl) ?_
 have e0:=gM ls
 have e1:=iN p.acts
 have hn:=hC.len
 have hn64:=hC.n64
 unfold ckV
 refine aA ?_
 rw[e0]
 refine Reg.o rfl (uX (n:=ls.length) rfl (by omega) (by omega)) ?_
 have hz:List.replicate ls.length (fF [(1,Value.slice none 0 0)])=row1 ls.length (cW p 0):=IV _ _
 rw[hz]
 refine aA ?_
 rw[e1,← hn]
 refine AWP.loop (σ:=Nat×List (List Int×AV)) (fun s=>qR p ls s.1) (fun s=>iP ls.length (cW p s.1) s.1 (tT p) s.2) (fun s=>s.1≤ls.length∧FU p ls s.1 0 s.2) (fun s=>ls.length - s.1) (0,[]) ⟨Nat.zero_le _,.zero p ls⟩ ?_ ?_
 ·show Sub _ _ _ _ _ [[.cells 1 (row1 ls.length (cW p 0))],[],[.map []]]
  unfold qR
  have hz2:PRs (row1 ls.length (cW p 0)):=by rw[← hz]; infer_instance
  exact Sub.w [] [[(0,0)],[],[(1,0)]]
 rintro⟨r,es⟩ ⟨hr,hF⟩
 dsimp only at hr hF ⊢
 unfold qR
 refine aA ?_
 refine AWP.condD rfl (fun h=>?_) (fun h=>?_)
 ·have hra:=gEg (show r < p.acts.length by omega)
  have hrow:=gX hra
  have hlen:=dP hra
  obtain⟨L,hL,hO⟩:=hC.get hra
  have hl100:=hO.len
  generalize p.acts[r]=l at *
  have e2:=fW l
  have er:=dA ls.length (cW p r)
  have hg1:=eZ (f:=cW p r) h
  unfold iP
  refine aA ?_
  rw[e2]
  refine aA ?_
  refine Reg.o rfl (uX (n:=l.length+1) rfl (by omega) (by omega)) ?_
  rw[KX]
  refine aA ?_
  rw[e2]
  refine aA ?_
  refine AWP.loop (σ:=Nat×List (List Int×AV)) (fun s=>(5,.sc (.int .i64 (r:Int)))::(6,.list 7 (aU l))::(42,.sc (.int .i64 (l.length:Int)))::(43,.sc (.int .i64 (s.1:Int)))::qR p ls r)
   (fun s=>iP ls.length (cW p (r+1)) (r+1) (fun b=>if b=r then j4 r l.length s.1 else tT p b) s.2) (fun s=>s.1≤l.length∧FU p ls r s.1 s.2) (fun s=>l.length - s.1) (0,es) ⟨Nat.zero_le _,hF⟩ ?_ ?_
  ·refine Sub.oS (q:=(3,0)) (g:=fun b=>if b=r then .hsl 3 0 0 (l.length+1) else cW p r b) (by show some (Blk.cells 1 ((row1 ls.length (cW p r)).set r [.hsl 3 0 0 (l.length+1)]))=_; rw[KJ]) (fun b hb=>?_) ?_ rfl hF.p rfl (fun b hb=>?_) ?_
   ·show(fam r (oB (tT p)))[b]?=_
    rw[aO hb]
    unfold oB
    dsimp only
    rw[if_neg (by omega)]
   ·show some (Blk.cells 64 _)=_
    unfold oB
    dsimp only
    rw[if_pos rfl,EJ]
   ·show To _ _ (if b=r then .hsl 3 0 0 (l.length+1) else cW p r b) (cW p (r+1) b)
    by_cases c:b=r
    ·subst c
     rw[if_pos rfl,show cW p (b+1) b=.hsl 1 b 0 (l.length+1) by unfold cW; rw[if_pos (by omega),hlen]]
     exact To.hslL (wC (i:=0) rfl rfl) rfl
    ·rw[if_neg c]
     by_cases c2:b < r
     ·rw[show cW p r b=.hsl 1 b 0 (cI p b+1) from if_pos c2,show cW p (r+1) b=.hsl 1 b 0 (cI p b+1) from if_pos (by omega)]
      exact To.hslL (c9 rfl c2) rfl
     ·rw[show cW p r b=.sc (.slice none 0 0) from if_neg c2,show cW p (r+1) b=.sc (.slice none 0 0) from if_neg (by omega)]
      exact .sc _
   ·unfold qR
    (all_goals exact eP)
  rintro⟨i,es⟩ ⟨hi,hF⟩
  dsimp only at hi hF ⊢
  have er2:=dA ls.length (cW p (r+1))
  have hg2:(row1 ls.length (cW p (r+1)))[r]?=some [.hsl 1 r 0 (l.length+1)]:=by
   rw[eZ h]
   unfold cW
   rw[if_pos (by omega),hlen]
  unfold qR iP
  refine aA ?_
  refine AWP.condD rfl (fun h2=>?_) (fun h2=>?_)
  ·have hx:=gEg h2
   have hpa:=tL hC hp hra hx
   have hst:=hF.step (show i < cI p r by omega)
   generalize jY p ls r i=pp at hpa hst
   unfold ckV plN at hpa
   have hfam:(fam (r+1) (oB fun b=>if b=r then j4 r l.length i else tT p b))[r]?=some (.cells 64 ((j4 r l.length i).map knR)):=by
    rw[aO (by omega)]
    unfold oB
    dsimp only
    rw[if_pos rfl]
   have hri:=lW (r:=r) (len:=l.length) (j:=i) (i:=i+1) (by omega)
   rw[if_neg (show¬ i+1≤i by omega)] at hri
   have hrk:((j4 r l.length i).map knR)[i+1]?=some (knR z64):=by rw[List.getElem?_map,hri]; rfl
   have hrl:=lU r l.length i
   have hput:(fam (r+1) (oB fun b=>if b=r then j4 r l.length i else tT p b)).set r (.cells 64 (((j4 r l.length i).map knR).set (i+1) ((knR z64).set r (.sc (.int .i64 ((i+1:Nat):Int))))))=fam (r+1) (oB fun b=>if b=r then j4 r l.length (i+1) else tT p b):=by
    rw[zA,← List.map_set,C0 h2,FH]
    refine fD fun j _=>?_
    by_cases c:j=r<;>simp[c,oB]
   refine aA ?_
   refine Reg.o rfl (eJ rfl rfl hfam (by omega) (by rw[List.length_map,hrl])) ?_
   refine aA ?_
   refine Reg.on rfl (o3 rfl rfl hfam hrk (by show r < 64; omega) rfl) ?_
   refine aA ?_
   refine Reg.on rfl (BJ rfl rfl rfl rfl hF.free) ?_
   refine aA ?_
   refine⟨(i+1,_),⟨by omega,hst⟩,by omega,?_⟩
   refine Sub.oH (g:=cW p (r+1)) rfl (fun b hb=>?_) rfl hst.p (fun b hb=>?_) ?_
   ·show(List.set _ _ _)[b]?=_
    exact(congrArg (fun x=>x[b]?) hput).trans (aO hb)
   ·unfold cW
    by_cases c:b < r+1
    ·rw[if_pos c]
     exact To.hslL (c9 rfl c) rfl
    ·rw[if_neg c]
     exact .sc _
   ·(all_goals exact eP)
  ·have hi2:i=l.length:=by omega
   subst hi2
   refine aA ?_
   refine⟨(r+1,es),⟨by omega,hF.next (by omega)⟩,by omega,?_⟩
   refine Sub.oH (g:=cW p (r+1)) rfl (fun b hb=>?_) rfl hF.p (fun b hb=>?_) ?_
   ·show(fam _ _)[b]?=_
    rw[aO hb]
    unfold oB
    dsimp only
    by_cases c:b=r
    ·subst c
     rw[if_pos rfl]
     unfold tT
     rw[hlen]
    ·rw[if_neg c]
   ·unfold cW
    by_cases c:b < r+1
    ·rw[if_pos c]
     exact To.hslL (c9 rfl c) rfl
    ·rw[if_neg c]
     exact .sc _
   ·(all_goals exact eP)
 ·have hr2:r=ls.length:=by omega
  subst hr2
  refine AWP.exit ?_
  show AWP Tryz.prog F35.n 0 MU _ _ _
  refine AWP.sub (fr':=qR p ls ls.length) (H':=iP ls.length (cW p ls.length) ls.length (tT p) es) ?_ (h2 es hF)
  exact Sub.keep ⟨Le.refl _,Le.refl _,Le.refl _,Le.refl _,Le.refl _,Le.refl _,trivial⟩
end Go.Proofs.YtkjoolaahocgdaaGreat
