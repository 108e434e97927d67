import Derived.Test.YtkjoolaahocgdaaGreatGWiM4
import Derived.Test.YtkjoolaahocgdaaGreatGWiC
import Derived.Test.YtkjoolaahocgdaaGreatGWiT1
import Derived.Test.YtkjoolaahocgdaaGreatGAvSo
import Derived.Shelf.SlGeneric
import Derived.Ground.SlsfProg
namespace Go.Proofs.YtkjoolaahocgdaaGreat
open Go.Av Go.Proofs
set_option maxRecDepth 20000
def outG (p:Pg) (r b:Nat):AV:=if b < r then .hsl 1 b 0 (lenA p b+1) else .sc (.slice none 0 0)
def ordF1 (p:Pg) (ls:List Ln) (r:Nat):Fr:=[(0,.cptr [.sc (.int .i64 p.cells),.list 1 (progR p.acts),.tmap formsE,.list 10 (linesR ls)]),(3,.hsl 0 0 0 ls.length),(4,.mref 2 0),(27,.list 1 (progR p.acts)),(28,.sc (.int .i64 (ls.length:Int))),(29,.sc (.int .i64 (r:Int)))]
def ordV (n:Nat) (o:Ord):AV:=.list 1 (row1 n fun b=>.list 64 ((rowsO o b).map knR))
instance (n:Nat) (o:Ord):PV (ordV n o):=by unfold ordV; infer_instance
def ordF2 (p:Pg) (ls:List Ln) (m:Bool):Fr:=[(0,.cptr [.sc (.int .i64 p.cells),.list 1 (progR p.acts),.tmap formsE,.list 10 (linesR ls)]),(3,.hsl 0 0 0 ls.length),(4,.mref 2 0),(8,.sc (.bool m))]
def ordC2:ICode:=pickI [1,1,1,1] F35.code
set_option maxHeartbeats 16000000 in
theorem order_of (p:Pg) (ls:List Ln) (hC:CkOK p ls) (hp:POK p) (h2:∀ es,FU p ls ls.length 0 es→AWP Tryz.prog F35.n 0 ordC2 (EndP F35.res (ordV ls.length (ordP ls.length p ls))) (ordF1 p ls ls.length) (ordH ls.length (outG p ls.length) ls.length (ordI p) es)):
  PureRun Tryz.prog 35 [ckV p ls] (ordV ls.length (ordP ls.length p ls)):=by
 refine PureRun.mkI cF35 (nlB rfl) ?_
 have e0:=linesR_len ls
 have e1:=progR_len p.acts
 have hn:=hC.len
 have hn64:=hC.n64
 unfold ckV
 refine walkX ?_
 rw[e0]
 refine Reg.o rfl (dstep_mk (n:=ls.length) rfl (by omega) (by omega)) ?_
 have hz:List.replicate ls.length (zrow [(1,Value.slice none 0 0)])=row1 ls.length (outG p 0):=row1_rep _ _
 rw[hz]
 refine walkX ?_
 rw[e1,← hn]
 refine AWP.loop (σ:=Nat×List (List Int×AV)) (fun s=>ordF1 p ls s.1) (fun s=>ordH ls.length (outG p s.1) s.1 (ordI p) s.2) (fun s=>s.1≤ls.length∧FU p ls s.1 0 s.2) (fun s=>ls.length - s.1) (0,[]) ⟨Nat.zero_le _,.zero p ls⟩ ?_ ?_
 ·show Sub _ _ _ _ _ [[.cells 1 (row1 ls.length (outG p 0))],[],[.map []]]
  unfold ordF1
  have hz2:PRs (row1 ls.length (outG p 0)):=by rw[← hz]; infer_instance
  exact Sub.w [] [[(0,0)],[],[(1,0)]]
 rintro⟨r,es⟩ ⟨hr,hF⟩
 dsimp only at hr hF ⊢
 unfold ordF1
 refine walkX ?_
 refine AWP.condD rfl (fun h=>?_) (fun h=>?_)
 ·have hra:=gEg (show r < p.acts.length by omega)
  have hrow:=progR_get hra
  have hlen:=lenA_get hra
  obtain⟨L,hL,hO⟩:=hC.get hra
  have hl100:=hO.len
  generalize p.acts[r]=l at *
  have e2:=actsR_len l
  have er:=row1_len ls.length (outG p r)
  have hg1:=row1_get (f:=outG p r) h
  unfold ordH
  refine walkX ?_
  rw[e2]
  refine walkX ?_
  refine Reg.o rfl (dstep_mk (n:=l.length+1) rfl (by omega) (by omega)) ?_
  rw[zrows64]
  refine walkX ?_
  rw[e2]
  refine walkX ?_
  refine AWP.loop (σ:=Nat×List (List Int×AV)) (fun s=>(5,.sc (.int .i64 (r:Int)))::(6,.list 7 (actsR l))::(42,.sc (.int .i64 (l.length:Int)))::(43,.sc (.int .i64 (s.1:Int)))::ordF1 p ls r)
   (fun s=>ordH ls.length (outG p (r+1)) (r+1) (fun b=>if b=r then rowsI r l.length s.1 else ordI p b) s.2) (fun s=>s.1≤l.length∧FU p ls r s.1 s.2) (fun s=>l.length - s.1) (0,es) ⟨Nat.zero_le _,hF⟩ ?_ ?_
  ·refine Sub.oS (q:=(3,0)) (g:=fun b=>if b=r then .hsl 3 0 0 (l.length+1) else outG p r b) (by show some (Blk.cells 1 ((row1 ls.length (outG p r)).set r [.hsl 3 0 0 (l.length+1)]))=_; rw[row1_set]) (fun b hb=>?_) ?_ rfl hF.p rfl (fun b hb=>?_) ?_
   ·show(fam r (oB (ordI p)))[b]?=_
    rw[fam_get hb]
    unfold oB
    dsimp only
    rw[if_neg (by omega)]
   ·show some (Blk.cells 64 _)=_
    unfold oB
    dsimp only
    rw[if_pos rfl,rowsI_zero]
   ·show To _ _ (if b=r then .hsl 3 0 0 (l.length+1) else outG p r b) (outG p (r+1) b)
    by_cases c:b=r
    ·subst c
     rw[if_pos rfl,show outG p (b+1) b=.hsl 1 b 0 (l.length+1) by unfold outG; rw[if_pos (by omega),hlen]]
     exact To.hslL (rho_w2 (i:=0) rfl rfl) rfl
    ·rw[if_neg c]
     by_cases c2:b < r
     ·rw[show outG p r b=.hsl 1 b 0 (lenA p b+1) from if_pos c2,show outG p (r+1) b=.hsl 1 b 0 (lenA p b+1) from if_pos (by omega)]
      exact To.hslL (rho_w rfl c2) rfl
     ·rw[show outG p r b=.sc (.slice none 0 0) from if_neg c2,show outG p (r+1) b=.sc (.slice none 0 0) from if_neg (by omega)]
      exact .sc _
   ·unfold ordF1
    (all_goals exact tocW)
  rintro⟨i,es⟩ ⟨hi,hF⟩
  dsimp only at hi hF ⊢
  have er2:=row1_len ls.length (outG p (r+1))
  have hg2:(row1 ls.length (outG p (r+1)))[r]?=some [.hsl 1 r 0 (l.length+1)]:=by
   rw[row1_get h]
   unfold outG
   rw[if_pos (by omega),hlen]
  unfold ordF1 ordH
  refine walkX ?_
  refine AWP.condD rfl (fun h2=>?_) (fun h2=>?_)
  ·have hx:=gEg h2
   have hpa:=partners_ok hC hp hra hx
   have hst:=hF.step (show i < lenA p r by omega)
   generalize partP p ls r i=pp at hpa hst
   unfold ckV plN at hpa
   have hfam:(fam (r+1) (oB fun b=>if b=r then rowsI r l.length i else ordI p b))[r]?=some (.cells 64 ((rowsI r l.length i).map knR)):=by
    rw[fam_get (by omega)]
    unfold oB
    dsimp only
    rw[if_pos rfl]
   have hri:=rowsI_get (r:=r) (len:=l.length) (j:=i) (i:=i+1) (by omega)
   rw[if_neg (show¬ i+1≤i by omega)] at hri
   have hrk:((rowsI r l.length i).map knR)[i+1]?=some (knR z64):=by rw[List.getElem?_map,hri]; rfl
   have hrl:=rowsI_len r l.length i
   have hput:(fam (r+1) (oB fun b=>if b=r then rowsI r l.length i else ordI p b)).set r (.cells 64 (((rowsI r l.length i).map knR).set (i+1) ((knR z64).set r (.sc (.int .i64 ((i+1:Nat):Int))))))=fam (r+1) (oB fun b=>if b=r then rowsI r l.length (i+1) else ordI p b):=by
    rw[knR_set,← List.map_set,rowsI_succ h2,fam_put]
    refine fam_congr fun j _=>?_
    by_cases c:j=r<;>simp[c,oB]
   refine walkX ?_
   refine Reg.o rfl (dstep_idx0 rfl rfl hfam (by omega) (by rw[List.length_map,hrl])) ?_
   refine walkX ?_
   refine Reg.on rfl (dstep_st1 rfl rfl hfam hrk (by show r < 64; omega) rfl) ?_
   refine walkX ?_
   refine Reg.on rfl (dstep_insU2 rfl rfl rfl rfl hF.free) ?_
   refine walkX ?_
   refine⟨(i+1,_),⟨by omega,hst⟩,by omega,?_⟩
   refine Sub.oH (g:=outG p (r+1)) rfl (fun b hb=>?_) rfl hst.p (fun b hb=>?_) ?_
   ·show(List.set _ _ _)[b]?=_
    exact(congrArg (fun x=>x[b]?) hput).trans (fam_get hb)
   ·unfold outG
    by_cases c:b < r+1
    ·rw[if_pos c]
     exact To.hslL (rho_w rfl c) rfl
    ·rw[if_neg c]
     exact .sc _
   ·(all_goals exact tocW)
  ·have hi2:i=l.length:=by omega
   subst hi2
   refine walkX ?_
   refine⟨(r+1,es),⟨by omega,hF.next (by omega)⟩,by omega,?_⟩
   refine Sub.oH (g:=outG p (r+1)) rfl (fun b hb=>?_) rfl hF.p (fun b hb=>?_) ?_
   ·show(fam _ _)[b]?=_
    rw[fam_get hb]
    unfold oB
    dsimp only
    by_cases c:b=r
    ·subst c
     rw[if_pos rfl]
     unfold ordI
     rw[hlen]
    ·rw[if_neg c]
   ·unfold outG
    by_cases c:b < r+1
    ·rw[if_pos c]
     exact To.hslL (rho_w rfl c) rfl
    ·rw[if_neg c]
     exact .sc _
   ·(all_goals exact tocW)
 ·have hr2:r=ls.length:=by omega
  subst hr2
  refine AWP.exit ?_
  show AWP Tryz.prog F35.n 0 ordC2 _ _ _
  refine AWP.sub (fr':=ordF1 p ls ls.length) (H':=ordH ls.length (outG p ls.length) ls.length (ordI p) es) ?_ (h2 es hF)
  exact Sub.keep ⟨Le.refl _,Le.refl _,Le.refl _,Le.refl _,Le.refl _,Le.refl _,trivial⟩
def ordB:ICode:=pickI [1,1,1,1,0,1,0,0,1,0,1,1,0,0,1,1,0,0,1,1,0,0,1,1,0] F35.code
def ordF3 (p:Pg) (ls:List Ln) (r i:Nat) (m:Bool):Fr:=[(0,.cptr [.sc (.int .i64 p.cells),.list 1 (progR p.acts),.tmap formsE,.list 10 (linesR ls)]),(3,.hsl 0 0 0 ls.length),(4,.mref 2 0),(8,.sc (.bool m)),(9,.sc (.int .i64 (r:Int))),(74,.sc (.int .i64 (ls.length:Int))),(75,.sc (.int .i64 (r:Int))),(82,.sc (.int .i64 ((lenA p r+1:Nat):Int))),(83,.sc (.int .i64 (i:Int)))]
theorem FU.look {p:Pg} {ls:List Ln} {n:Nat} {es:List (List Int×AV)} (h:FU p ls n 0 es) {r:Nat} (hr:r < n) (i:Nat):(ufind [(r:Int),(i:Int)] es).getD (.sc (.slice none 0 0))=(if 1≤i∧i≤lenA p r then .list 2 (plsR (firstO p ls r i)) else .sc (.slice none 0 0)):=by
 rw[h.f r i]
 unfold firstO
 by_cases c:1≤i∧i≤lenA p r
 ·rw[if_pos c,if_pos c,if_pos ⟨.inl hr,c⟩]; rfl
 ·rw[if_neg c,if_neg (fun h=>c h.2)]; rfl
def ordK (n:Nat) (g:Nat→AV) (m:Nat) (o:Nat→List (List Nat)) (es:List (List Int×AV)) (k:List Nat):Heap:=[[.cells 1 (row1 n g)],fam m (oB o),[umB es],[.cells 64 [knR k]]]
theorem Sub.oK {N:Nat} {fr fr':Fr} {H:Heap} {n m:Nat} {g g':Nat→AV} {o:Nat→List (List Nat)} {es:List (List Int×AV)} {k:List Nat} {q:Nat×Nat} (h0:hget H 0 0=some (.cells 1 (row1 n g))) (h1:∀ b,b < m→hget H 1 b=some (oB o b)) (h2:hget H 2 0=some (umB es)) (h3:hget H q.1 q.2=some (.cells 64 [knR k])) (hp:∀ x∈es,Pure x.2) (hok:okK [.c [(0,0)],.w 1 m [],.c [(2,0)],.c [q]]=true)
  (hg:∀ b,b < n→To (ToT (H++gh []) H.length (notK [.c [(0,0)],.w 1 m [],.c [(2,0)],.c [q]])) (rho (idK [.c [(0,0)],.w 1 m [],.c [(2,0)],.c [q]])) (g b) (g' b)) (h5:ToAll (ToT (H++gh []) H.length (notK [.c [(0,0)],.w 1 m [],.c [(2,0)],.c [q]])) (rho (idK [.c [(0,0)],.w 1 m [],.c [(2,0)],.c [q]])) fr fr'):
  Sub 0 N fr H fr' (ordK n g' m o es k):=by
 have e:H++gh []=H:=List.append_nil _
 refine Sub.toK [] [.c [(0,0)],.w 1 m [],.c [(2,0)],.c [q]] h5 ⟨⟨⟨_,by rw[e]; exact h0,ToB.row1 hg⟩,trivial⟩,famTo.ofFam (fun b hb=>⟨_,by rw[e]; exact h1 b hb,ToB.rows rfl (prs _)⟩),⟨⟨_,by rw[e]; exact h2,umB_to hp⟩,trivial⟩,⟨⟨_,by rw[e]; exact h3,ToB.one (ToL.pure (pr _))⟩,trivial⟩,trivial⟩ trivial hok
theorem outG_to {T:AV→AV→Prop} {ks:List FK} {p:Pg} {n m b:Nat} {ps:List (Nat×Nat)} (h:ks[1]?=some (.w 1 m ps)) (hb:b < n) (hm:n≤m):To T (rho (idK ks)) (outG p n b) (outG p n b):=by
 unfold outG
 rw[if_pos hb]
 exact To.hslL (rho_w h (by omega)) rfl
theorem knR_getD {k:List Nat} {b:Nat} (h:b < k.length):(knR k)[b]?=some (.sc (.int .i64 (k.getD b 0:Int))):=by
 rw[knR_get h,List.getD_eq_getElem?_getD,gEg h]
 rfl
theorem fstK_row {k:List Nat} {x:Pl}:(knR k).set x.1 (.sc (.int .i64 ((max (k.getD x.1 0) (x.2+1):Nat):Int)))=knR (fstK k x):=by rw[knR_set]; rfl
theorem foldl_take {α β:Type} {f:α→β→α} {a:α} {l:List β} {t:Nat} (h:t < l.length):(l.take (t+1)).foldl f a=f ((l.take t).foldl f a) l[t]:=by
 rw[List.take_succ_eq_append_getElem h,List.foldl_append]; rfl
theorem foldl_range {α:Type} {f:α→Nat→α} {a:α} {t:Nat}:(List.range (t+1)).foldl f a=f ((List.range t).foldl f a) t:=by
 rw[List.range_succ,List.foldl_append]; rfl
theorem dstep_sliceA {g i:Nat} {fr:Fr} {H:Heap} {n:Nat} {x y:Operand} {k:IntKind} {q g' i' off:Nat} (hx:ev fr x=.ptr g' i' 0 off) (hy:ev fr y=.sc (.int k (q:Int))) (hq:q≤n):
  dstep g i (.mop (.sliceA n) [x,y]) fr H=some (.asl g' i' off q,H):=by
 simp only[dstep,avals,List.map_cons,List.map_nil,hx,hy,mstep]
 have e:Nat.ble q n=true:=Nat.ble_eq_true_of_le hq
 show(match Nat.ble q n with | true=>some (AV.asl g' i' off q,H) | false=>none)=_
 rw[e]
theorem dstep_idxA {g i:Nat} {fr:Fr} {H:Heap} {x ix:Operand} {k:IntKind} {q g' i' len:Nat} (hx:ev fr x=.asl g' i' 0 len) (hi:ev fr ix=.sc (.int k (q:Int))) (hq:q < len):
  dstep g i (.idxSl 1 x ix) fr H=some (.ptr g' i' 0 q,H):=by
 simp only[dstep,hx,hi]
 have e:(Nat.beq 1 1 && Nat.blt q len)=true:=by simp[Nat.blt]; omega
 show(match Nat.beq 1 1 && Nat.blt q len with | true=>some (AV.ptr g' i' 0 (0+q),H) | false=>none)=_
 rw[e,Nat.zero_add]
structure FstV (F:List Pl) (v:AV):Prop where
 pv:Pure v
 len:∀ {g i:Nat} {fr:Fr} {H:Heap} {x:Operand},ev fr x=v→dstep g i (.len x) fr H=some (.sc (.int .i64 (F.length:Int)),H)
 list:0 < F.length→v=.list 2 (plsR F)
theorem FU.fstV {p:Pg} {ls:List Ln} {n:Nat} {es:List (List Int×AV)} (h:FU p ls n 0 es) {r:Nat} (hr:r < n) (i:Nat):∃ v,(ufind [(r:Int),(i:Int)] es).getD (.sc (.slice none 0 0))=v∧FstV (firstO p ls r i) v:=by
 refine⟨_,h.look hr i,?_⟩
 by_cases c:1≤i∧i≤lenA p r
 ·rw[if_pos c]
  refine⟨.list _ _ (prs _),fun hx=>?_,fun _=>rfl⟩
  simp only[dstep,hx]
  rw[plsR_len]
 ·rw[if_neg c]
  have e:firstO p ls r i=[]:=by unfold firstO; rw[if_neg c]
  rw[e]
  refine⟨.sc _,fun hx=>?_,fun h=>absurd h (by simp)⟩
  simp only[dstep,hx]
  rfl
set_option maxHeartbeats 16000000 in
theorem ordB_ok (p:Pg) (ls:List Ln) (hC:CkOK p ls) (hS:SOK p) (hFO:FOK p ls) (es:List (List Int×AV)) (hF:FU p ls ls.length 0 es) (r i:Nat) (s:Bool×Ord) (hO:OOK p ls.length s.2) (hr:r < ls.length) (hi:i≤lenA p r) (Q:Exit→Fr→Heap→Prop):
  AWP Tryz.prog F35.n 0 ordB (thenQ (fun fr H=>Sub 0 F35.n fr H (ordF3 p ls r i (stepO ls.length p ls r s i).1) (ordH ls.length (outG p ls.length) ls.length (rowsO (stepO ls.length p ls r s i).2) es)) Q)
   (ordF3 p ls r i s.1) (ordH ls.length (outG p ls.length) ls.length (rowsO s.2) es):=by
 show AWP _ _ _ (.block _ _) _ _ _
 obtain⟨m,o⟩:=s
 replace hO:OOK p ls.length o:=hO
 have hn:=hC.len
 have hn64:=hC.n64
 have e0:=linesR_len ls
 have e1:=row1_len ls.length (outG p ls.length)
 have hog:∀ b,b < ls.length→(row1 ls.length (outG p ls.length))[b]?=some [.hsl 1 b 0 (lenA p b+1)]:=fun b hb=>by
  rw[row1_get hb]
  unfold outG
  rw[if_pos hb]
 have hfm:∀ b,b < ls.length→(fam ls.length (oB (rowsO o)))[b]?=some (.cells 64 ((rowsO o b).map knR)):=fun b hb=>by
  rw[fam_get hb]; rfl
 have hrl:∀ b,b < ls.length→((rowsO o b).map knR).length=lenA p b+1:=fun b hb=>by rw[List.length_map,hO.rows b hb]
 have hrow:∀ b j,b < ls.length→j≤lenA p b→((rowsO o b).map knR)[j]?=some (knR (rowO o b j)):=fun b j hb hj=>by
  have:=hO.rows b hb
  rw[List.getElem?_map,gEg (by omega)]
  unfold rowO
  rw[List.getD_eq_getElem?_getD,gEg (by omega)]
  rfl
 have h1:=hog r hr
 have h2:=hfm r hr
 have h3:=hrl r hr
 have h4:=hrow r i hr hi
 have h5:(knR (rowO o r i)).length=64:=(knR_len _).trans (hO.row r i hr hi)
 have h6:=knR_cell1 (rowO o r i)
 unfold ordF3 ordH
 refine walkX ?_
 refine Reg.o rfl (dstep_idx0 rfl rfl h2 (by omega) h3) ?_
 refine walkX ?_
 refine Reg.o rfl (dstep_ldA rfl h2 h4 h5) ?_
 refine Reg.o rfl rfl ?_
 refine Reg.on rfl (dstep_stA (r:=zrow [(64,.int .i64 0)]) rfl rfl rfl rfl rfl h5 h6) ?_
 obtain⟨v,hlk,hv⟩:=hF.fstV hr i
 haveI:PV v:=⟨hv.pv⟩
 have hx64:=hFO.m r i
 have hl64:=hFO.l r i
 have hkB:=fun t=>foldl_inv (I:=KOK p) (f:=fstK) (l:=(firstO p ls r i).take t) (hO.k hr hi) fun k x hx h=>h.fst (hFO.m r i x (List.mem_of_mem_take hx)).1 (hFO.m r i x (List.mem_of_mem_take hx)).2
 have hfull:(firstO p ls r i).foldl fstK (rowO o r i)=kB p ls o r i:=rfl
 generalize hFs:firstO p ls r i=Fs at hv hx64 hl64 hkB hfull
 refine walkX ?_
 refine Reg.o rfl (dstep_lookU2 rfl rfl rfl hlk) ?_
 refine Reg.o rfl (hv.len rfl) ?_
 refine walkX ?_
 refine AWP.loop (fun t:Nat=>(97,v)::(98,.sc (.int .i64 (Fs.length:Int)))::(99,.sc (.int .i64 (t:Int)))::(10,.sc (.int .i64 (i:Int)))::(11,.ptr 3 0 0 0)::ordF3 p ls r i m)
  (fun t=>ordK ls.length (outG p ls.length) ls.length (rowsO o) es ((Fs.take t).foldl fstK (rowO o r i))) (fun t=>t≤Fs.length) (fun t=>Fs.length - t) 0 (Nat.zero_le _) ?_ ?_
 ·refine Sub.oK (g:=outG p ls.length) (q:=(3,0)) rfl (fun b hb=>fam_get hb) rfl rfl hF.p rfl (fun b hb=>outG_to rfl hb (Nat.le_refl _)) ?_
  unfold ordF3
  (all_goals exact tocW)
 rintro t ht
 have hk0:=hkB t
 unfold ordF3 ordK
 refine walkX ?_
 refine AWP.condD rfl (fun h=>?_) (fun h=>?_)
 ·have hvl:=hv.list (by omega)
  have hp1:=plsR_ix Fs t h
  have hp2:=hx64 Fs[t] (List.getElem_mem h)
  have hft:=foldl_take (f:=fstK) (a:=rowO o r i) h
  have hs100:=hS (Fs[t]).1
  generalize (Fs.take t).foldl fstK (rowO o r i)=k at *
  generalize Fs[t]=x at *
  obtain⟨a,b⟩:=x
  dsimp only at hp2 hs100
  have hkl:=hk0.1
  have hka:=knR_getD (k:=k) (b:=a) (by omega)
  have hkn:=knR_len k
  subst hvl
  refine walkX ?_
  refine DK.nil ⟨by kernel_rfl,?_⟩
  refine walkX ?_
  refine⟨t+1,by omega,by omega,?_⟩
  have hK:(knR k).set a (.sc (.int .i64 ((max (k.getD a 0) (b+1):Nat):Int)))=knR (fstK k (a,b)):=fstK_row (x:=(a,b))
  refine Sub.oK (g:=outG p ls.length) (q:=(3,0)) rfl (fun b hb=>fam_get hb) rfl ?_ hF.p rfl (fun b hb=>outG_to rfl hb (Nat.le_refl _)) ?_
  ·rw[hft,← hK]
   rfl
  ·(all_goals exact tocW)
 ·have ht2:t=Fs.length:=by omega
  subst ht2
  rw[List.take_length] at hk0
  rw[List.take_length,hfull]
  rw[hfull] at hk0
  clear hv hlk hkB
  generalize hkb:kB p ls o r i=kb at *
  refine walkX ?_
  rw[e0]
  refine Reg.o rfl (dstep_sliceA rfl rfl (show ls.length≤64 by omega)) ?_
  refine walkX ?_
  have hrange:=fun b=>foldl_inv (I:=KOK p) (f:=joinK o) (l:=List.range b) (a:=kb) hk0
  refine AWP.loop (fun b:Nat=>(120,.asl 3 0 0 ls.length)::(121,.sc (.int .i64 (ls.length:Int)))::(122,.sc (.int .i64 (b:Int)))::(10,.sc (.int .i64 (i:Int)))::(11,.ptr 3 0 0 0)::ordF3 p ls r i m)
   (fun b=>ordK ls.length (outG p ls.length) ls.length (rowsO o) es ((List.range b).foldl (joinK o) kb)) (fun b=>b≤ls.length) (fun b=>ls.length - b) 0 (Nat.zero_le _) ?_ ?_
  ·refine Sub.oK (g:=outG p ls.length) (q:=(3,0)) rfl (fun b hb=>fam_get hb) rfl rfl hF.p rfl (fun b hb=>outG_to rfl hb (Nat.le_refl _)) ?_
   unfold ordF3
   (all_goals exact tocW)
  rintro b hb
  have hkb0:=hrange b (fun k b' hb' h=>h.join hO (by have:=List.mem_range.1 hb'; omega))
  have hstep:=foldl_range (f:=joinK o) (a:=kb) (t:=b)
  unfold ordF3 ordK
  refine walkX ?_
  refine AWP.condD rfl (fun h=>?_) (fun h=>?_)
  ·generalize (List.range b).foldl (joinK o) kb=k at *
   have hkl:=hkb0.1
   have hka:=knR_getD (k:=k) (b:=b) (by omega)
   have hkn:=knR_len k
   have hbd:=hkb0.2 b
   have hlen:=hS b
   refine walkX ?_
   refine Reg.o rfl (dstep_idxA rfl rfl h) ?_
   refine walkX ?_
   refine AWP.condD rfl (fun hc=>?_) (fun hc=>?_)
   ·have hjk:joinK o k b=kmax k (rowO o b (k.getD b 0 - 1)):=if_pos (by omega)
    have g1:=hog b h
    have g2:=hfm b h
    have g3:=hrl b h
    have g4:=hrow b (k.getD b 0 - 1) h (by omega)
    have g5:(rowO o b (k.getD b 0 - 1)).length=64:=hO.row b _ h (by omega)
    have g6:(knR (rowO o b (k.getD b 0 - 1))).length=64:=(knR_len _).trans g5
    refine walkX ?_
    refine Reg.o rfl (dstep_idx0 rfl rfl g2 (by omega) g3) ?_
    refine walkX ?_
    refine Reg.o rfl (dstep_ldA rfl g2 g4 g6) ?_
    refine Reg.c (Nat.zero_le _) rfl ((join_at (rows:=[k]) (q:=0) rfl hkl g5 rfl).mono ?_)
    rintro res H' ⟨rfl,rfl⟩
    refine walkX ?_
    refine⟨b+1,by omega,by omega,?_⟩
    refine Sub.oK (g:=outG p ls.length) (q:=(3,0)) rfl (fun b hb=>fam_get hb) rfl ?_ hF.p rfl (fun b hb=>outG_to rfl hb (Nat.le_refl _)) ?_
    ·rw[hstep,hjk]
     rfl
    ·(all_goals exact tocW)
   ·have hjk:joinK o k b=k:=if_neg (by omega)
    refine walkX ?_
    refine⟨b+1,by omega,by omega,?_⟩
    refine Sub.oK (g:=outG p ls.length) (q:=(3,0)) rfl (fun b hb=>fam_get hb) rfl ?_ hF.p rfl (fun b hb=>outG_to rfl hb (Nat.le_refl _)) ?_
    ·rw[hstep,hjk]
     rfl
    ·(all_goals exact tocW)
  ·have hb2:b=ls.length:=by omega
   subst hb2
   have hkC:(List.range ls.length).foldl (joinK o) kb=kC ls.length p ls o r i:=by rw[← hkb]; rfl
   rw[hkC] at hkb0 ⊢
   have hnew:newK ls.length p ls o r i=kmax (rowO o r i) (kC ls.length p ls o r i):=rfl
   have hso1:(stepO ls.length p ls r (m,o) i).1=(m || !decide (newK ls.length p ls o r i=rowO o r i)):=rfl
   have hso2:(stepO ls.length p ls r (m,o) i).2=setO o r i (newK ls.length p ls o r i):=rfl
   rw[hso1,hso2,hnew]
   generalize kC ls.length p ls o r i=kc at *
   refine AWP.exit ?_
   refine AWP.seq ?_
   refine AWP.dkl rfl mixed ?_
   refine walkX ?_
   have hkc:=hkb0.1
   have hkcl:(knR kc).length=64:=(knR_len _).trans hkc
   have hq:(rowsO o r)[i]?=some (rowO o r i):=by
    have:=hO.rows r hr
    unfold rowO
    rw[List.getD_eq_getElem?_getD,gEg (by omega)]
    rfl
   have hput:∀ b,b < ls.length→((fam ls.length (oB (rowsO o))).set r (.cells 64 (((rowsO o r).set i (kmax (rowO o r i) kc)).map knR)))[b]?=some (oB (rowsO (setO o r i (kmax (rowO o r i) kc))) b):=fun b hb=>by
    rw[fam_put,fam_get hb]
    unfold oB setO
    rw[rowsO_set (by rw[hO.len]; exact hr)]
   have hra:(rowO o r i).length=64:=hO.row r i hr hi
   generalize rowO o r i=ra at *
   refine DK.o rfl (dstep_idx0 rfl rfl h2 (by omega) h3) ?_
   refine DK.o rfl (dstep_ldA (r:=knR kc) rfl rfl rfl hkcl) ?_
   refine DK.nil ⟨by kernel_rfl,?_⟩
   refine Reg.c (Nat.zero_le _) rfl ((join_at (g:=1) (i:=r) (rows:=rowsO o r) (q:=i) (by exact h2) hra hkc hq).mono ?_)
   rintro res H' ⟨rfl,rfl⟩
   by_cases hd:kmax ra kc=ra
   ·rw[dTr hd]
    refine walkX ?_
    refine Sub.oH (g:=outG p ls.length) rfl (fun b hb=>?_) rfl hF.p (fun b hb=>outG_to rfl hb (Nat.le_refl _)) ?_
    ·show(List.set _ _ _)[b]?=_
     exact hput b hb
    ·rw[show(m || !true)=m by simp]
     (all_goals exact tocW)
   ·rw[dFa hd]
    refine walkX ?_
    refine Sub.oH (g:=outG p ls.length) rfl (fun b hb=>?_) rfl hF.p (fun b hb=>outG_to rfl hb (Nat.le_refl _)) ?_
    ·show(List.set _ _ _)[b]?=_
     exact hput b hb
    ·rw[show(m || !false)=true by simp]
     (all_goals exact tocW)
def ordMr (p:Pg) (ls:List Ln) (r:Nat) (m:Bool):Fr:=[(0,.cptr [.sc (.int .i64 p.cells),.list 1 (progR p.acts),.tmap formsE,.list 10 (linesR ls)]),(3,.hsl 0 0 0 ls.length),(4,.mref 2 0),(8,.sc (.bool m)),(74,.sc (.int .i64 (ls.length:Int))),(75,.sc (.int .i64 (r:Int)))]
theorem OOK.fold {p:Pg} {ls:List Ln} {n:Nat} (hF:FOK p ls) {s:Bool×Ord} (h:OOK p n s.2) {r:Nat} (hr:r < n) {i:Nat} (hi:i≤lenA p r+1):OOK p n ((List.range i).foldl (stepO n p ls r) s).2:=
 foldl_inv (I:=fun s:Bool×Ord=>OOK p n s.2) h fun _ j hj h=>h.step hF hr (by have:=List.mem_range.1 hj; omega)
theorem OOK.folds {p:Pg} {ls:List Ln} {n:Nat} (hF:FOK p ls) {s:Bool×Ord} (h:OOK p n s.2) {r:Nat} (hr:r≤n):OOK p n ((List.range r).foldl (rowPass n p ls) s).2:=
 foldl_inv (I:=fun s:Bool×Ord=>OOK p n s.2) h fun _ j hj h=>OOK.fold hF h (by have:=List.mem_range.1 hj; omega) (Nat.le_refl _)
set_option maxHeartbeats 16000000 in
theorem ordR_ok (p:Pg) (ls:List Ln) (hC:CkOK p ls) (hS:SOK p) (hFO:FOK p ls) (es:List (List Int×AV)) (hF:FU p ls ls.length 0 es) (r:Nat) (s:Bool×Ord) (hO:OOK p ls.length s.2) (hr:r < ls.length) (Q:Exit→Fr→Heap→Prop):
  AWP Tryz.prog F35.n 0 (pickI [1,1,1,1,0,1,0,0,1,0,1,1,0,0,1,1,0] F35.code) (thenQ (fun fr H=>Sub 0 F35.n fr H (ordMr p ls r (rowPass ls.length p ls s r).1) (ordH ls.length (outG p ls.length) ls.length (rowsO (rowPass ls.length p ls s r).2) es)) Q)
   (ordMr p ls r s.1) (ordH ls.length (outG p ls.length) ls.length (rowsO s.2) es):=by
 have hog:(row1 ls.length (outG p ls.length))[r]?=some [.hsl 1 r 0 (lenA p r+1)]:=by
  rw[row1_get hr]
  unfold outG
  rw[if_pos hr]
 have e1:=row1_len ls.length (outG p ls.length)
 have hS':=hS r
 show AWP _ _ _ (.block _ _) _ _ _
 unfold ordMr ordH
 refine walkX ?_
 refine AWP.loop (fun i:Nat=>ordF3 p ls r i ((List.range i).foldl (stepO ls.length p ls r) s).1) (fun i=>ordH ls.length (outG p ls.length) ls.length (rowsO ((List.range i).foldl (stepO ls.length p ls r) s).2) es) (fun i=>i≤lenA p r+1) (fun i=>lenA p r+1 - i) 0 (Nat.zero_le _) ?_ ?_
 ·refine Sub.oH (g:=outG p ls.length) rfl (fun b hb=>fam_get hb) rfl hF.p (fun b hb=>outG_to rfl hb (Nat.le_refl _)) ?_
  unfold ordF3
  (all_goals exact tocW)
 rintro i hi
 have hO2:=OOK.fold hFO hO hr hi
 have hst:=foldl_range (f:=stepO ls.length p ls r) (a:=s) (t:=i)
 unfold ordF3
 refine walkX ?_
 refine AWP.condD rfl (fun h=>?_) (fun h=>?_)
 ·generalize (List.range i).foldl (stepO ls.length p ls r) s=s1 at *
  have hi2:i≤lenA p r:=by omega
  refine AWP.skip ?_
  refine AWP.seq ?_
  refine AWP.sub (fr':=ordF3 p ls r i s1.1) (H':=ordH ls.length (outG p ls.length) ls.length (rowsO s1.2) es) ?_ ?_
  ·exact Sub.keep (by unfold ordF3; exact⟨Le.refl _,Le.refl _,Le.refl _,Le.refl _,Le.refl _,Le.refl _,Le.refl _,Le.refl _,Le.refl _,trivial⟩)
  refine AWP.joinT0 _ _ (ordB_ok p ls hC hS hFO es hF r i s1 hO2 hr hi2 _) ?_
  unfold ordF3 ordH
  refine walkX ?_
  refine⟨i+1,by omega,by omega,?_⟩
  rw[hst]
  refine Sub.oH (g:=outG p ls.length) rfl (fun b hb=>fam_get hb) rfl hF.p (fun b hb=>outG_to rfl hb (Nat.le_refl _)) ?_
  (all_goals exact tocW)
 ·have hi2:i=lenA p r+1:=by omega
  subst hi2
  refine walkX ?_
  unfold rowPass
  refine Sub.oH (g:=outG p ls.length) rfl (fun b hb=>fam_get hb) rfl hF.p (fun b hb=>outG_to rfl hb (Nat.le_refl _)) ?_
  (all_goals exact tocW)
theorem AWP.thenM {P:Program} {N k:Nat} {a:ICode} {fr:Fr} {H:Heap} {Q:Exit→Fr→Heap→Prop} {K K':Fr→Heap→Prop} (h:AWP P N k a (thenQ K Q) fr H) (h2:∀ fr H,K fr H→K' fr H):AWP P N k a (thenQ K' Q) fr H:=
 AWP.mono h fun e fr H h=>by
  cases e<;>first | exact h | exact h2 _ _ h
set_option maxHeartbeats 16000000 in
theorem ordN_ok (p:Pg) (ls:List Ln) (hC:CkOK p ls) (hS:SOK p) (hFO:FOK p ls) (es:List (List Int×AV)) (hF:FU p ls ls.length 0 es) (o:Ord) (hO:OOK p ls.length o) (Q:Exit→Fr→Heap→Prop):
  AWP Tryz.prog F35.n 0 (pickI [1,1,1,1,0,1,0,0,1] F35.code) (thenQ (fun fr H=>Sub 0 F35.n fr H (ordF2 p ls (passO ls.length p ls o).1) (ordH ls.length (outG p ls.length) ls.length (rowsO (passO ls.length p ls o).2) es)) Q)
   (ordF2 p ls true) (ordH ls.length (outG p ls.length) ls.length (rowsO o) es):=by
 have e1:=row1_len ls.length (outG p ls.length)
 show AWP _ _ _ (.block _ _) _ _ _
 unfold ordF2 ordH
 refine walkX ?_
 refine AWP.loop (fun r:Nat=>ordMr p ls r ((List.range r).foldl (rowPass ls.length p ls) (false,o)).1) (fun r=>ordH ls.length (outG p ls.length) ls.length (rowsO ((List.range r).foldl (rowPass ls.length p ls) (false,o)).2) es) (fun r=>r≤ls.length) (fun r=>ls.length - r) 0 (Nat.zero_le _) ?_ ?_
 ·refine Sub.oH (g:=outG p ls.length) rfl (fun b hb=>fam_get hb) rfl hF.p (fun b hb=>outG_to rfl hb (Nat.le_refl _)) ?_
  unfold ordMr
  (all_goals exact tocW)
 rintro r hr
 have hO2:=OOK.folds (s:=(false,o)) hFO hO hr
 have hst:=foldl_range (f:=rowPass ls.length p ls) (a:=(false,o)) (t:=r)
 unfold ordMr
 refine walkX ?_
 refine AWP.condD rfl (fun h=>?_) (fun h=>?_)
 ·generalize (List.range r).foldl (rowPass ls.length p ls) (false,o)=s1 at *
  refine AWP.skip ?_
  refine AWP.seq ?_
  refine AWP.sub (fr':=ordMr p ls r s1.1) (H':=ordH ls.length (outG p ls.length) ls.length (rowsO s1.2) es) ?_ ?_
  ·exact Sub.keep (by unfold ordMr; exact⟨Le.refl _,Le.refl _,Le.refl _,Le.refl _,Le.refl _,Le.refl _,trivial⟩)
  refine AWP.joinT0 _ _ (ordR_ok p ls hC hS hFO es hF r s1 hO2 h _) ?_
  unfold ordMr ordH
  have hn64:=hC.n64
  have hn:=hC.len
  refine walkX ?_
  refine⟨r+1,by omega,by omega,?_⟩
  rw[hst]
  refine Sub.oH (g:=outG p ls.length) rfl (fun b hb=>fam_get hb) rfl hF.p (fun b hb=>outG_to rfl hb (Nat.le_refl _)) ?_
  (all_goals exact tocW)
 ·have hr2:r=ls.length:=by omega
  subst hr2
  refine walkX ?_
  unfold passO
  refine Sub.oH (g:=outG p ls.length) rfl (fun b hb=>fam_get hb) rfl hF.p (fun b hb=>outG_to rfl hb (Nat.le_refl _)) ?_
  (all_goals exact tocW)
def OI (p:Pg) (ls:List Ln) (s:Bool×Ord×Nat):Prop:=OOK p ls.length s.2.1∧(s.1=true→ordGo ls.length p ls (s.2.2+1) s.2.1=ordP ls.length p ls∧ls.length * 646400 < sumO s.2.1+s.2.2+1)∧(s.1=false→s.2.1=ordP ls.length p ls)
theorem OI.next {p:Pg} {ls:List Ln} (hS:SOK p) (hFO:FOK p ls) {o:Ord} {f:Nat} (h:OI p ls (true,o,f)):∃ f',OI p ls ((passO ls.length p ls o).1,(passO ls.length p ls o).2,f')∧((passO ls.length p ls o).1=true→f' < f):=by
 obtain⟨h1,h2,-⟩:=h
 obtain⟨h2,h3⟩:=h2 rfl
 dsimp only at h1 h2 h3
 have hp:PInv p ls.length (sumO o) (passO ls.length p ls o):=PInv.pass hFO h1
 unfold ordGo at h2
 generalize passO ls.length p ls o=q at *
 cases hq:q.1 with
 | true=>
  rw[hq,if_pos rfl] at h2
  have h4:=hp.gt hq
  have h5:=sumO_le hS hp.ok
  obtain⟨f',rfl⟩:∃ f',f=f'+1:=⟨f - 1,by omega⟩
  refine⟨f',⟨hp.ok,fun _=>⟨h2,?_⟩,fun e=>by cases e⟩,fun _=>by omega⟩
  dsimp only
  omega
 | false=>
  rw[hq,if_neg (by simp)] at h2
  exact⟨0,⟨hp.ok,(fun e=>by cases e),fun _=>h2⟩,fun e=>by cases e⟩
theorem OI.row {p:Pg} {ls:List Ln} {s:Bool×Ord×Nat} (h:OI p ls s) {b:Nat} (hb:b < ls.length):(rowsO s.2.1 b).length=lenA p b+1:=h.1.rows b hb
theorem OI.first {p:Pg} {ls:List Ln} (hn:ls.length≤64):OI p ls (true,ordS p ls.length,ls.length * 646400):=by
 refine⟨ordS_ok p hn,fun _=>⟨rfl,?_⟩,fun e=>by cases e⟩
 dsimp only
 omega
set_option maxHeartbeats 16000000 in
theorem order_ok (p:Pg) (ls:List Ln) (hC:CkOK p ls) (hp:POK p) (hS:SOK p) (hFO:FOK p ls):PureRun Tryz.prog 35 [ckV p ls] (ordV ls.length (ordP ls.length p ls)):=by
 refine order_of p ls hC hp fun es hF=>?_
 show AWP _ _ _ (.seq _ _) _ _ _
 have hn:=hC.len
 have hn64:=hC.n64
 unfold ordF1 ordH
 refine walkX ?_
 refine AWP.loop (σ:=Bool×Ord×Nat) (fun s=>ordF2 p ls s.1) (fun s=>ordH ls.length (outG p ls.length) ls.length (rowsO s.2.1) es) (OI p ls) (fun s=>if s.1=true then s.2.2+1 else 0) (true,ordS p ls.length,ls.length * 646400) (OI.first (by omega)) ?_ ?_
 ·refine Sub.oH (g:=outG p ls.length) rfl (fun b hb=>(fam_get hb).trans (by unfold oB; rw[ordS_rows hb])) rfl hF.p (fun b hb=>outG_to rfl hb (Nat.le_refl _)) ?_
  unfold ordF2
  (all_goals exact tocW)
 rintro⟨m,o,f⟩ hI
 have hO:OOK p ls.length o:=hI.1
 cases m with
 | true=>
  dsimp only
  refine AWP.seq ?_
  refine AWP.seq ?_
  refine AWP.region ?_
  refine Reg.o rfl rfl ?_
  refine Reg.nil ?_
  refine AWP.condT rfl ?_
  refine AWP.skip ?_
  refine AWP.sub (fr':=ordF2 p ls true) (H':=ordH ls.length (outG p ls.length) ls.length (rowsO o) es) ?_ ?_
  ·exact Sub.keep (by unfold ordF2; exact⟨Le.refl _,Le.refl _,Le.refl _,Le.refl _,trivial⟩)
  obtain⟨f',h1,h2⟩:=OI.next hS hFO hI
  refine AWP.thenM (ordN_ok p ls hC hS hFO es hF o hO _) fun fr H h=>?_
  refine⟨((passO ls.length p ls o).1,(passO ls.length p ls o).2,f'),h1,?_,h⟩
  dsimp only
  rw[if_pos rfl]
  split
  ·rename_i hq
   have:=h2 hq
   omega
  ·omega
 | false=>
  have ho:=hI.2.2 rfl
  dsimp only at ho ⊢
  rw[ho]
  unfold ordF2 ordH
  have e1:=row1_len ls.length (outG p ls.length)
  refine walkX ?_
  refine EndP.mk (.inr rfl) rfl rfl ?_
  unfold ordV
  refine To.fzT rfl rfl e1 (To.row1 fun b hb=>?_)
  unfold outG
  rw[if_pos hb]
  have hbr:=(OI.row hI hb)
  rw[ho] at hbr
  exact To.fz (fam_get hb) rfl ((List.length_map _).trans hbr) rfl (prs _)
theorem CkOK.sok {p:Pg} {ls:List Ln} (h:CkOK p ls):SOK p:=fun b=>by
 cases hb:p.acts[b]? with
 | none=>unfold lenA; rw[hb]; exact Nat.zero_le _
 | some l=>
  obtain⟨L,_,hO⟩:=h.get hb
  rw[lenA_get hb]
  exact hO.len
theorem lookN_mem {β:Type} {i:Nat} {c:β}:∀ {l:List (Nat×β)},lookN i l=some c→(i,c)∈l
 | [],h=>by cases h
 | (k,d)::l,h=>by
  unfold lookN at h
  split at h
  ·rename_i e
   injection h with h
   subst h
   rw[e]
   exact List.mem_cons_self
  ·exact List.mem_cons_of_mem _ (lookN_mem h)
theorem CkOK.fok {p:Pg} {ls:List Ln} (h:CkOK p ls):FOK p ls:=by
 have hl:∀ b:Nat,b < p.acts.length→b < 64:=fun b hb=>by have:=h.n64; omega
 have key:∀ r i:Nat,(∀ x∈(partP p ls r i).1,x.1 < 64∧x.2 < lenA p x.1)∧(partP p ls r i).1.length≤1000000:=fun r i=>by
  unfold partP
  split
  ·rename_i l L hr hL
   have hO:=h.ln r l L hr hL
   split
   ·rename_i x hx
    split
    ·refine⟨fun y hy=>?_,?_⟩
     ·obtain⟨b,hb,hy⟩:=List.mem_filterMap.1 hy
      unfold fenF at hy
      split at hy
      ·rename_i M hM
       split at hy
       ·obtain⟨j,hj,rfl⟩:=Option.map_eq_some_iff.1 hy
        have hb2:b < p.acts.length:=by rw[← h.len]; exact List.mem_range.1 hb
        have hOb:=h.ln b _ M (gEg hb2) hM
        have hm:=List.mem_of_getElem? hj
        rw[hOb.pre.fe] at hm
        exact⟨hl b hb2,by rw[lenA_get (gEg hb2)]; exact(idxs_mem.1 hm).1⟩
       ·cases hy
      ·cases hy
     ·refine Nat.le_trans (fm_len _ _) ?_
      have:=h.n64
      have:=h.len
      rw[List.length_range]
      omega
    split
    ·rename_i hk
     have hg:=(hO.act i x hx).grp (.inr hk)
     refine⟨fun y hy=>?_,?_⟩
     ·obtain⟨b,hb,hy⟩:=List.mem_filterMap.1 hy
      unfold staF at hy
      split at hy
      ·rename_i m M hm hM
       obtain⟨j,hj,rfl⟩:=Option.map_eq_some_iff.1 hy
       have hOb:=h.ln _ m M hm hM
       have hj2:=(List.mem_filter.1 (List.mem_of_getElem? hj)).1
       rw[hOb.pre.po] at hj2
       exact⟨hl _ (gEs.1 hm).1,by rw[lenA_get hm]; exact(idxs_mem.1 hj2).1⟩
      ·cases hy
     ·refine Nat.le_trans (fm_len _ _) ?_
      have:=nodup_len hg.2.2 fun b hb=>⟨(hg.2.1 b hb).1,(hg.2.1 b hb).2.1⟩
      have:=h.n64
      omega
    split
    ·split
     ·rename_i y hy
      refine⟨fun z hz=>?_,?_⟩
      ·obtain⟨b,hb,hz⟩:=List.mem_filterMap.1 hz
       unfold waiF at hz
       split at hz
       ·rename_i m M hm hM
        obtain⟨j,hj,rfl⟩:=Option.map_eq_some_iff.1 hz
        have hOb:=h.ln _ m M hm hM
        have hj2:=(List.mem_filter.1 (List.mem_of_getElem? hj)).1
        rw[hOb.pre.st] at hj2
        have hj3:=(idxs_mem.1 hj2).1
        refine⟨hl _ (gEs.1 hm).1,?_⟩
        rw[lenA_get hm]
        dsimp only
        cases hc:lookN j M.co with
        | none=>exact Nat.lt_of_le_of_lt (Nat.zero_le _) hj3
        | some c=>
         have:=lookN_mem hc
         rw[hOb.pre.co] at this
         obtain⟨d,hd,e⟩:=List.mem_map.1 this
         injection e with e1 e2
         subst e2
         exact(idxs_mem.1 hd).1
       ·cases hz
      ·refine Nat.le_trans (fm_len _ _) ?_
       have hk:0 < (idxs 9 l i).length:=by
        rename_i h12 _ _
        have hal:=(hO.act i x hx).al (by unfold isRem; apply dFa; omega)
        rw[show x.k.toNat=12 by omega] at hal
        have hp0:0 < (epAt l i).p.length:=of_decide_eq_true (Bool.and_eq_true_iff.1 hal).1
        rcases epAt_p l i with e | ⟨y,y1,y2,y3,y4⟩
        ·rw[e] at hp0
         cases hp0
        ·exact y1
       ·have hmem:=idxs_mem.1 (getLastD_mem hk)
        have hyk:y.k=9:=by rw[← kAt_get hy]; exact hmem.2
        have hg:=(hO.act _ y hy).grp (.inl hyk)
        have:=nodup_len hg.2.2 fun b hb=>⟨(hg.2.1 b hb).1,(hg.2.1 b hb).2.1⟩
        have:=h.n64
        omega
     ·exact⟨(fun y hy=>by cases hy),Nat.zero_le _⟩
    ·exact⟨(fun y hy=>by cases hy),Nat.zero_le _⟩
   ·exact⟨(fun y hy=>by cases hy),Nat.zero_le _⟩
  ·exact⟨(fun y hy=>by cases hy),Nat.zero_le _⟩
 refine⟨fun r i x hx=>?_,fun r i=>?_⟩
 ·unfold firstO at hx
  split at hx
  ·exact(key r _).1 x hx
  ·cases hx
 ·unfold firstO
  split
  ·exact(key r _).2
  ·exact Nat.zero_le _
theorem order_ck (p:Pg) (ls:List Ln) (hC:CkOK p ls) (hp:POK p):PureRun Tryz.prog 35 [ckV p ls] (ordV ls.length (ordP ls.length p ls)):=order_ok p ls hC hp hC.sok hC.fok
abbrev Pl4:=(Fin 64×Fin 128)×(Fin 64×Fin 128)
def raI (x:Pl4):List Int:=[(x.1.1.val:Int),(x.1.2.val:Int),(x.2.1.val:Int),(x.2.2.val:Int)]
def raE (x:Pl4):List Value:=(raI x).map (Value.int .i64)
def cmp2 (a b c d:Int):Int:=if a=c then b - d else a - c
def cmp4 (x y:Pl4):Int:=if x.1=y.1 then(if x.2=y.2 then 0 else cmp2 x.2.1.val x.2.2.val y.2.1.val y.2.2.val) else cmp2 x.1.1.val x.1.2.val y.1.1.val y.1.2.val
theorem ne2 (x y z w:Nat):(true != (decide ((x:Int)=(z:Int)) && (decide ((y:Int)=(w:Int)) && true)))=!decide (x=z∧y=w):=by
 by_cases h1:x=z<;>by_cases h2:y=w<;>simp[h1,h2]<;>omega
set_option maxHeartbeats 8000000 in
theorem cmp_ok (a b c d a' b' c' d':Nat) (ha:a < 1000) (hb:b < 1000) (hc:c < 1000) (hd:d < 1000) (ha':a' < 1000) (hb':b' < 1000) (hc':c' < 1000) (hd':d' < 1000):
  PureRun Tryz.prog 40 [.agg [.sc (.int .i64 (a:Int)),.sc (.int .i64 (b:Int)),.sc (.int .i64 (c:Int)),.sc (.int .i64 (d:Int))],.agg [.sc (.int .i64 (a':Int)),.sc (.int .i64 (b':Int)),.sc (.int .i64 (c':Int)),.sc (.int .i64 (d':Int))]] (.sc (.int .i64 (if a=a'∧b=b' then(if c=c'∧d=d' then 0 else cmp2 c d c' d') else cmp2 a b a' b'))):=by
 refine PureRun.mkI cF40 (nlB rfl) ?_
 refine walkX ?_
 refine AWP.loop (σ:=Nat) (fun t=>[(2,.ptr 0 0 0 0),(3,.ptr 1 0 0 0),(4,.sc (.int .i64 0)),(6,.sc (.int .i64 (t:Int)))]) (fun _=>[[.cells 4 [[.sc (.int .i64 (a:Int)),.sc (.int .i64 (b:Int)),.sc (.int .i64 (c:Int)),.sc (.int .i64 (d:Int))]]],[.cells 4 [[.sc (.int .i64 (a':Int)),.sc (.int .i64 (b':Int)),.sc (.int .i64 (c':Int)),.sc (.int .i64 (d':Int))]]]])
  (fun t=>t≤2∧(1≤t→a=a'∧b=b')∧(2≤t→c=c'∧d=d')) (fun t=>2 - t) 0 ⟨by omega,by omega,by omega⟩ ?_ ?_
 ·exact Sub.w [] [[(0,0)],[(1,0)]]
 rintro t ⟨h0,h1,h2⟩
 match t,h0,h1,h2 with
 | 0,_,_,_=>
  refine walkX ?_
  refine DK.nil ⟨by kernel_rfl,?_⟩
  rw[ne2]
  by_cases h:a=a'∧b=b'
  ·rw[dTr h]
   refine walkX ?_
   refine⟨1,⟨by omega,fun _=>h,by omega⟩,by omega,?_⟩
   exact Sub.w [] [[(0,0)],[(1,0)]]
  ·rw[dFa h]
   rw[if_neg h]
   refine walkX ?_
   refine DK.nil ⟨by kernel_rfl,?_⟩
   refine AWP.condDn rfl (fun h3=>?_) (fun h3=>?_)
   ·refine walkX ?_
    refine DK.nil ⟨by kernel_rfl,?_⟩
    rw[Av.wrap_small (by omega) (by omega)]
    rw[show cmp2 (a:Int) (b:Int) (a':Int) (b':Int)=(a:Int) - (a':Int) from if_neg (by omega)]
    refine walkX ?_
    exact EndP.w
   ·refine walkX ?_
    refine DK.nil ⟨by kernel_rfl,?_⟩
    rw[Av.wrap_small (by omega) (by omega)]
    rw[show cmp2 (a:Int) (b:Int) (a':Int) (b':Int)=(b:Int) - (b':Int) from if_pos (by omega)]
    refine walkX ?_
    exact EndP.w
 | 1,_,h1,_=>
  have hp:=h1 (Nat.le_refl _)
  rw[if_pos hp]
  refine walkX ?_
  refine DK.nil ⟨by kernel_rfl,?_⟩
  rw[ne2]
  by_cases h:c=c'∧d=d'
  ·rw[dTr h]
   refine walkX ?_
   refine⟨2,⟨by omega,fun _=>hp,fun _=>h⟩,by omega,?_⟩
   exact Sub.w [] [[(0,0)],[(1,0)]]
  ·rw[dFa h]
   rw[if_neg h]
   refine walkX ?_
   refine DK.nil ⟨by kernel_rfl,?_⟩
   refine AWP.condDn rfl (fun h3=>?_) (fun h3=>?_)
   ·refine walkX ?_
    refine DK.nil ⟨by kernel_rfl,?_⟩
    rw[Av.wrap_small (by omega) (by omega)]
    rw[show cmp2 (c:Int) (d:Int) (c':Int) (d':Int)=(c:Int) - (c':Int) from if_neg (by omega)]
    refine walkX ?_
    exact EndP.w
   ·refine walkX ?_
    refine DK.nil ⟨by kernel_rfl,?_⟩
    rw[Av.wrap_small (by omega) (by omega)]
    rw[show cmp2 (c:Int) (d:Int) (c':Int) (d':Int)=(d:Int) - (d':Int) from if_pos (by omega)]
    refine walkX ?_
    exact EndP.w
 | 2,_,h1,h2=>
  rw[if_pos (h1 (by omega)),if_pos (h2 (by omega))]
  refine walkX ?_
  exact EndP.w
end Go.Proofs.YtkjoolaahocgdaaGreat
namespace Go.Proofs
open Go.Shelf
def Tryz.sortR_ren:Go.Shelf.Ren:=⟨fun | 6=>39 | 15=>60 | 14=>59 | 28=>109 | 29=>110 | 20=>101 | 21=>102 | 22=>103 | 23=>104 | 24=>105 | 25=>106 | 26=>107 | 27=>108 | 46=>132 | 47=>133 | 48=>134 | 49=>135 | 50=>136 | 57=>146 | n=>n,fun | 22=>27 | 24=>41 | 25=>111 | 3=>3 | 39=>159 | 0=>0 | 53=>195 | 55=>44 | 4=>4 | 46=>189 | 45=>188 | 50=>182 | 5=>5 | 9=>9 | 66=>208 | 70=>212 | 76=>223 | 77=>224 | n=>n,fun | n=>n⟩
theorem Tryz.sortR:Go.Proofs.SlLaysF0.n6 Tryz.prog Tryz.sortR_ren:={
 mixed:=by kernel_rfl
 f6:=⟨Tryz.f39.name,by decide,Tryz.func39.trans (congrArg some (by kernel_rfl))⟩
 f14:=⟨Tryz.f59.name,by decide,Tryz.func59.trans (congrArg some (by kernel_rfl))⟩
 f15:=Tryz.func60.trans (congrArg some (by kernel_rfl))
 f20:=⟨Tryz.f101.name,by decide,Tryz.func101.trans (congrArg some (by kernel_rfl))⟩
 f21:=⟨Tryz.f102.name,by decide,Tryz.func102.trans (congrArg some (by kernel_rfl))⟩
 f22:=⟨Tryz.f103.name,by decide,Tryz.func103.trans (congrArg some (by kernel_rfl))⟩
 f23:=⟨Tryz.f104.name,by decide,Tryz.func104.trans (congrArg some (by kernel_rfl))⟩
 f24:=⟨Tryz.f105.name,by decide,Tryz.func105.trans (congrArg some (by kernel_rfl))⟩
 f25:=⟨Tryz.f106.name,by decide,Tryz.func106.trans (congrArg some (by kernel_rfl))⟩
 f26:=⟨Tryz.f107.name,by decide,Tryz.func107.trans (congrArg some (by kernel_rfl))⟩
 f27:=⟨Tryz.f108.name,by decide,Tryz.func108.trans (congrArg some (by kernel_rfl))⟩
 f28:=Tryz.func109.trans (congrArg some (by kernel_rfl))
 f29:=Tryz.func110.trans (congrArg some (by kernel_rfl))
 f46:=⟨Tryz.f132.name,by decide,Tryz.func132.trans (congrArg some (by kernel_rfl))⟩
 f47:=Tryz.func133.trans (congrArg some (by kernel_rfl))
 f48:=Tryz.func134.trans (congrArg some (by kernel_rfl))
 f49:=⟨Tryz.f135.name,by decide,Tryz.func135.trans (congrArg some (by kernel_rfl))⟩
 f50:=⟨Tryz.f136.name,by decide,Tryz.func136.trans (congrArg some (by kernel_rfl))⟩
 f57:=⟨Tryz.f146.name,by decide,Tryz.func146.trans (congrArg some (by kernel_rfl))⟩
 t0:=Tryz.underlying0
 a0:=Tryz.isAgg0
 z0:=Tryz.sizeOf0
 v0:=Tryz.zeroValue0
 t3:=Tryz.underlying3
 a3:=Tryz.isAgg3
 z3:=Tryz.sizeOf3
 v3:=Tryz.zeroValue3
 t4:=Tryz.underlying4
 a4:=Tryz.isAgg4
 z4:=Tryz.sizeOf4
 v4:=Tryz.zeroValue4
 t5:=Tryz.underlying5
 a5:=Tryz.isAgg5
 z5:=Tryz.sizeOf5
 v5:=Tryz.zeroValue5
 t9:=Tryz.underlying9
 a9:=Tryz.isAgg9
 z9:=Tryz.sizeOf9
 v9:=Tryz.zeroValue9
 t22:=Tryz.underlying27
 a22:=Tryz.isAgg27
 z22:=Tryz.sizeOf27
 v22:=Tryz.zeroValue27
 t25:=Tryz.underlying111
 a25:=Tryz.isAgg111
 z25:=Tryz.sizeOf111
 v25:=Tryz.zeroValue111
 t39:=Tryz.underlying159
 a39:=Tryz.isAgg159
 z39:=Tryz.sizeOf159
 v39:=Tryz.zeroValue159
 t45:=Tryz.underlying188
 a45:=Tryz.isAgg188
 z45:=Tryz.sizeOf188
 v45:=Tryz.zeroValue188
 t46:=Tryz.underlying189
 a46:=Tryz.isAgg189
 z46:=Tryz.sizeOf189
 v46:=Tryz.zeroValue189
 t50:=Tryz.underlying182
 a50:=Tryz.isAgg182
 z50:=Tryz.sizeOf182
 v50:=Tryz.zeroValue182
 t53:=Tryz.underlying195
 a53:=Tryz.isAgg195
 z53:=Tryz.sizeOf195
 v53:=Tryz.zeroValue195
 t55:=Tryz.underlying44
 a55:=Tryz.isAgg44
 z55:=Tryz.sizeOf44
 v55:=Tryz.zeroValue44
 t66:=Tryz.underlying208
 a66:=Tryz.isAgg208
 z66:=Tryz.sizeOf208
 v66:=Tryz.zeroValue208
 t70:=Tryz.underlying212
 a70:=Tryz.isAgg212
 z70:=Tryz.sizeOf212
 v70:=Tryz.zeroValue212
 t76:=Tryz.underlying223
 a76:=Tryz.isAgg223
 z76:=Tryz.sizeOf223
 v76:=Tryz.zeroValue223
 t77:=Tryz.underlying224
 a77:=Tryz.isAgg224
 z77:=Tryz.sizeOf224
 v77:=Tryz.zeroValue224 }
end Go.Proofs
namespace Go.Proofs.YtkjoolaahocgdaaGreat
open Go.Av Go.Proofs
set_option maxRecDepth 20000
def keyR (x:Pl4):Nat:=((x.1.1.val * 128+x.1.2.val) * 64+x.2.1.val) * 128+x.2.2.val
theorem lt_key (x y:Pl4):ltOf cmp4 x y=decide (keyR x < keyR y):=by
 unfold ltOf
 rw[decide_eq_decide]
 obtain⟨⟨⟨a,ha⟩,⟨b,hb⟩⟩,⟨⟨c,hc⟩,⟨d,hd⟩⟩⟩:=x
 obtain⟨⟨⟨a',ha'⟩,⟨b',hb'⟩⟩,⟨⟨c',hc'⟩,⟨d',hd'⟩⟩⟩:=y
 simp only[cmp4,cmp2,keyR,pIn,Fin.mk.injEq]
 split
 ·split
  ·omega
  ·split<;>omega
 ·split<;>omega
theorem key_inj {x y:Pl4} (h:keyR x=keyR y):x=y:=by
 obtain⟨⟨⟨a,ha⟩,⟨b,hb⟩⟩,⟨⟨c,hc⟩,⟨d,hd⟩⟩⟩:=x
 obtain⟨⟨⟨a',ha'⟩,⟨b',hb'⟩⟩,⟨⟨c',hc'⟩,⟨d',hd'⟩⟩⟩:=y
 simp only[keyR] at h
 simp only[pIn,Fin.mk.injEq]
 omega
theorem swo4:Go.Sort.SWO (ltOf cmp4) where
 irrefl x:=by rw[lt_key]; simp
 trans x y z h1 h2:=by rw[lt_key] at *; simp at *; omega
 ntrans x y z h1 h2:=by rw[lt_key] at *; simp at *; omega
theorem tot4 (x y:Pl4) (h1:ltOf cmp4 x y=false) (h2:ltOf cmp4 y x=false):x=y:=by
 rw[lt_key] at *
 simp at h1 h2
 exact key_inj (by omega)
def raR (x:Pl4):List AV:=(raE x).map .sc
instance (x:Pl4):PR (raR x):=⟨fun a ha=>by
 obtain⟨v,_,rfl⟩:=List.mem_map.1 ha
 exact .sc _⟩
theorem cmp4_ok (x y:Pl4):PureRun Tryz.prog 40 [.agg ((raE x).map .sc),.agg ((raE y).map .sc)] (.sc (.int .i64 (cmp4 x y))):=by
 obtain⟨⟨⟨a,ha⟩,⟨b,hb⟩⟩,⟨⟨c,hc⟩,⟨d,hd⟩⟩⟩:=x
 obtain⟨⟨⟨a',ha'⟩,⟨b',hb'⟩⟩,⟨⟨c',hc'⟩,⟨d',hd'⟩⟩⟩:=y
 have:=cmp_ok a b c d a' b' c' d' (by omega) (by omega) (by omega) (by omega) (by omega) (by omega) (by omega) (by omega)
 simp only[cmp4,pIn,Fin.mk.injEq]
 exact this
def sortP (l:List Pl4):List Pl4:=l.mergeSort fun x y=>!(ltOf cmp4) y x
theorem sort_ok (l:List Pl4) (hl:l.length < 4611686018427387904):
  CallOK Tryz.prog 39 [.hsl 0 0 0 l.length,fT 40] [[.cells 4 (l.map raR)]] fun res H'=>res=.tup []∧H'=[[.cells 4 ((sortP l).map raR)]]:=
 CallOK.sortFunc Tryz.sortR 4 Tryz.isAgg41 Tryz.sizeOf41 raE (fun _=>rfl) (fun x v hv=>by
  obtain⟨n,_,rfl⟩:=List.mem_map.1 hv
  rfl) cmp4 swo4 tot4 40 (fun args w=>run_callFunc (cmp4_ok default default).1 args w) ⟨_,Tryz.func39,by kernel_rfl,rfl⟩ cmp4_ok l hl
end Go.Proofs.YtkjoolaahocgdaaGreat
namespace Go.Proofs.YtkjoolaahocgdaaGreat
open Go.Av Go.Proofs
set_option maxRecDepth 20000
def exP (k:Int):Bool:=decide (k=2∨k=6)
theorem ex_ok (x:Act):PureRun Tryz.prog 58 [.agg (actR x)] (.sc (.bool (exP x.k))):=by
 refine PureRun.mkI cF58 (nlB rfl) ?_
 obtain⟨k,r,a,o,v,w,g⟩:=x
 unfold actR exP
 dsimp only
 by_cases h:k=2
 ·subst h
  refine walkX ?_
  exact EndP.w
 ·have e1:(k == 2)=false:=by simp[h]
  by_cases h2:k=6
  ·subst h2
   refine walkX ?_
   exact EndP.w
  ·have e2:(k == 6)=false:=by simp[h2]
   refine walkX ?_
   rw[e1]
   refine walkX ?_
   rw[e2]
   rw[show decide (k=2∨k=6)=false by simp[h,h2]]
   refine walkX ?_
   exact EndP.w
def cnfP (x y:Act):Bool:=!(exP x.k && exP y.k) && !(decide (x.k=3) && decide (y.k=3) && decide (x.o=y.o))
theorem cnf_ok (x y:Act):PureRun Tryz.prog 38 [.agg (actR x),.agg (actR y)] (.sc (.bool (cnfP x y))):=by
 refine PureRun.mkI cF38 (nlB rfl) ?_
 have h1:=ex_ok x
 have h2:=ex_ok y
 unfold cnfP
 generalize exP x.k=b1 at *
 generalize exP y.k=b2 at *
 obtain⟨k,r,a,o,v,w,g⟩:=x
 obtain⟨k',r',a',o',v',w',g'⟩:=y
 unfold actR at *
 dsimp only at *
 refine AWP.seq ?_
 refine AWP.region ?_
 refine walkR ?_
 refine AWP.seq ?_
 refine AWP.region ?_
 refine walkR ?_
 refine AWP.seq ?_
 refine AWP.region ?_
 refine Reg.fn (f:=58) 5 rfl ?_
 refine walkR ?_
 cases b1 with
 | false=>
  refine walkX ?_
  by_cases hk:k=3
  ·subst hk
   refine walkX ?_
   by_cases hk':k'=3
   ·subst hk'
    refine walkX ?_
    by_cases ho:o=o'
    ·subst ho
     refine walkX ?_
     rw[show(o == o)=true by simp,show decide (o=o)=true by simp]
     refine walkX ?_
     exact EndP.w
    ·refine walkX ?_
     rw[show(o == o')=false by simp[ho],dFa ho]
     refine walkX ?_
     exact EndP.w
   ·have e1:(k' == 3)=false:=by simp[hk']
    rw[dFa hk']
    refine walkX ?_
    rw[e1]
    refine walkX ?_
    exact EndP.w
  ·have e1:(k == 3)=false:=by simp[hk]
   rw[dFa hk]
   refine walkX ?_
   rw[e1]
   refine walkX ?_
   exact EndP.w
 | true=>
  cases b2 with
  | true=>
   refine walkX ?_
   exact EndP.w
  | false=>
   refine walkX ?_
   by_cases hk:k=3
   ·subst hk
    refine walkX ?_
    by_cases hk':k'=3
    ·subst hk'
     refine walkX ?_
     by_cases ho:o=o'
     ·subst ho
      refine walkX ?_
      rw[show(o == o)=true by simp,show decide (o=o)=true by simp]
      refine walkX ?_
      exact EndP.w
     ·refine walkX ?_
      rw[show(o == o')=false by simp[ho],dFa ho]
      refine walkX ?_
      exact EndP.w
    ·have e1:(k' == 3)=false:=by simp[hk']
     rw[dFa hk']
     refine walkX ?_
     rw[e1]
     refine walkX ?_
     exact EndP.w
   ·have e1:(k == 3)=false:=by simp[hk]
    rw[dFa hk]
    refine walkX ?_
    rw[e1]
    refine walkX ?_
    exact EndP.w
def doneN (ls:List Ln) (a:Pl):Nat:=match ls[a.1]? with
 | some L=>((lookN a.2 L.acc).map (·.d)).getD 0
 | none=>0
def updB (x y:Act) (a b:Pl):Bool:=decide (a.1=b.1) && decide (a.2 < b.2) && isUpd x.k && isUpd y.k
def befP (ls:List Ln) (o:Ord) (x y:Act) (a b:Pl):Bool:=updB x y a b || decide (doneN ls a < (rowO o b.1 b.2).getD a.1 0)
set_option maxHeartbeats 8000000 in
theorem bef_ok {p:Pg} {ls:List Ln} (hC:CkOK p ls) {o:Ord} (hO:OOK p ls.length o) {a b:Pl} {la lb:List Act} {x y:Act} (ha:p.acts[a.1]?=some la) (hx:la[a.2]?=some x) (hb:p.acts[b.1]?=some lb) (hy:lb[b.2]?=some y):
  PureRun Tryz.prog 36 [plN a.1 a.2,plN b.1 b.2,.cptr [ckV p ls],.cptr [ordV ls.length o]] (.sc (.bool (befP ls o x y a b))):=by
 refine PureRun.mkI cF36 (nlB rfl) ?_
 have h1:=act_ok p ls ha hx
 have h2:=act_ok p ls hb hy
 obtain⟨La,hLa,hOa⟩:=hC.get ha
 obtain⟨Lb,hLb,hOb⟩:=hC.get hb
 have hxa:=hOa.act _ x hx
 have hya:=hOb.act _ y hy
 have f1:=formsE_in hxa.k1 hxa.k16
 have f2:=formsE_in hya.k1 hya.k16
 unfold formR at f1 f2
 have u1:isUpd ((x.k.toNat:Nat):Int)=isUpd x.k:=by rw[show((x.k.toNat:Nat):Int)=x.k by have:=hxa.k1; omega]
 have u2:isUpd ((y.k.toNat:Nat):Int)=isUpd y.k:=by rw[show((y.k.toNat:Nat):Int)=y.k by have:=hya.k1; omega]
 rw[u1] at f1
 rw[u2] at f2
 have hlk:=mfind_acc a.2 La.acc
 unfold befP updB
 unfold actR at h1 h2
 unfold ckV plN at *
 generalize isUpd x.k=c1 at *
 generalize isUpd y.k=c2 at *
 obtain⟨a,i⟩:=a
 obtain⟨b,j⟩:=b
 dsimp only at *
 have hn:=hC.len
 have hr1:=linesR_get hLa
 unfold lnR epR at hr1
 have hba:=(gEs.1 hb).1
 have haa:=(gEs.1 ha).1
 have hjl:=(gEs.1 hy).1
 have hlb:=lenA_get hb
 have hn64:=hC.n64
 have hr2:rowIx (row1 ls.length fun b=>AV.list 64 ((rowsO o b).map knR)) (b:Int)=some [.list 64 ((rowsO o b).map knR)]:=by
  rw[rowIx_nat,row1_get (by omega)]
 have hr3:rowIx ((rowsO o b).map knR) (j:Int)=some (knR (rowO o b j)):=by
  have:=hO.rows b (by omega)
  rw[rowIx_nat,List.getElem?_map,gEg (by omega)]
  unfold rowO
  rw[List.getD_eq_getElem?_getD,gEg (by omega)]
  rfl
 have hrl:(rowO o b j).length=64:=hO.row b j (by omega) (by omega)
 have hr4:=knR_getD (k:=rowO o b j) (b:=a) (by omega)
 have hdr:(knR (rowO o b j)).drop (a * 1)=.sc (.int .i64 ((rowO o b j).getD a 0:Int))::(knR (rowO o b j)).drop (a * 1+1):=by
  have h5:=(knR_len (rowO o b j)).trans hrl
  rw[Nat.mul_one,List.drop_eq_getElem_cons (by omega)]
  congr 1
  have:=(gEs.1 hr4).2
  exact this
 have h64:a < 64:=by omega
 unfold ordV
 have hdn:∃ v:AV,(∃ x0 x1:AV,v=.agg [x0,x1,.sc (.int .i64 (doneN ls (a,i):Int))])∧∀(g k:Nat) (fr:Fr) (H:Heap) (x ix:Operand),ev fr x=.tmap (accE La.acc)→ev fr ix=.sc (.int .i64 (i:Int))→dstep g k (.lookup (.agg [.sc (.int .i64 0),.sc (.int .i64 0),.sc (.int .i64 0)]) .i64 x ix false) fr H=some (v,H):=by
  unfold doneN
  simp only[hLa]
  cases hL:lookN i La.acc with
  | none=>
   rw[hL] at hlk
   exact⟨_,⟨_,_,rfl⟩,fun g k fr H x ix h1 h2=>dstep_lookC h1 h2 hlk⟩
  | some c=>
   rw[hL] at hlk
   exact⟨_,⟨_,_,rfl⟩,fun g k fr H x ix h1 h2=>dstep_lookC h1 h2 hlk⟩
 obtain⟨v,⟨x0,x1,rfl⟩,hdn⟩:=hdn
 generalize doneN ls (a,i)=dn at *
 refine walkX ?_
 generalize decide (a=b)=d1 at *
 cases d1 with
 | false=>
  refine walkX ?_
  refine DK.nil ⟨by kernel_rfl,?_⟩
  refine walkX ?_
  refine DK.o rfl (hdn _ _ _ _ _ _ rfl rfl) ?_
  refine walkX ?_
  first
   | refine DK.o rfl (dstep_ld1C rfl hdr) ?_
   | (refine DK.o rfl (dstep_idxArrC rfl rfl rfl h64) ?_; refine DK.o rfl (dstep_ld1C rfl hdr) ?_)
  refine walkX ?_
  refine DK.nil ⟨by kernel_rfl,?_⟩
  refine walkX ?_
  exact EndP.w
 | true=>
  refine walkX ?_
  generalize decide (i < j)=d2 at *
  cases d2 with
  | false=>
   refine walkX ?_
   refine DK.nil ⟨by kernel_rfl,?_⟩
   refine walkX ?_
   refine DK.o rfl (hdn _ _ _ _ _ _ rfl rfl) ?_
   refine walkX ?_
   first
    | refine DK.o rfl (dstep_ld1C rfl hdr) ?_
    | (refine DK.o rfl (dstep_idxArrC rfl rfl rfl h64) ?_; refine DK.o rfl (dstep_ld1C rfl hdr) ?_)
   refine walkX ?_
   refine DK.nil ⟨by kernel_rfl,?_⟩
   refine walkX ?_
   exact EndP.w
  | true=>
   refine walkX ?_
   refine DK.o rfl (dstep_lookC rfl rfl f1) ?_
   refine walkX ?_
   cases c1 with
   | false=>
    refine walkX ?_
    refine DK.nil ⟨by kernel_rfl,?_⟩
    refine walkX ?_
    refine DK.o rfl (hdn _ _ _ _ _ _ rfl rfl) ?_
    refine walkX ?_
    first
     | refine DK.o rfl (dstep_ld1C rfl hdr) ?_
     | (refine DK.o rfl (dstep_idxArrC rfl rfl rfl h64) ?_; refine DK.o rfl (dstep_ld1C rfl hdr) ?_)
    refine walkX ?_
    refine DK.nil ⟨by kernel_rfl,?_⟩
    refine walkX ?_
    exact EndP.w
   | true=>
    refine walkX ?_
    refine DK.o rfl (dstep_lookC rfl rfl f2) ?_
    refine walkX ?_
    cases c2 with
    | false=>
     refine walkX ?_
     refine DK.nil ⟨by kernel_rfl,?_⟩
     refine walkX ?_
     refine DK.o rfl (hdn _ _ _ _ _ _ rfl rfl) ?_
     refine walkX ?_
     first
      | refine DK.o rfl (dstep_ld1C rfl hdr) ?_
      | (refine DK.o rfl (dstep_idxArrC rfl rfl rfl h64) ?_; refine DK.o rfl (dstep_ld1C rfl hdr) ?_)
     refine walkX ?_
     refine DK.nil ⟨by kernel_rfl,?_⟩
     refine walkX ?_
     exact EndP.w
    | true=>
     refine walkX ?_
     refine DK.nil ⟨by kernel_rfl,?_⟩
     refine walkX ?_
     exact EndP.w
end Go.Proofs.YtkjoolaahocgdaaGreat
