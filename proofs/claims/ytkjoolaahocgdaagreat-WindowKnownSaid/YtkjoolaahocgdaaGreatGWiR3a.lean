import Derived.Test.YtkjoolaahocgdaaGreatGWiO4
import Derived.Test.YtkjoolaahocgdaaGreatGWiC
import Derived.Test.YtkjoolaahocgdaaGreatGWiT3
import Derived.Test.YtkjoolaahocgdaaGreatGAvSo
import Derived.Shelf.SlGeneric
import Derived.Ground.SlsfProg
namespace Go.Proofs.YtkjoolaahocgdaaGreat
open Go.Av Go.Proofs
set_option maxRecDepth 20000
def ordB:dB:=aG [1,1,1,1,0,1,0,0,1,0,1,1,0,0,1,1,0,0,1,1,0,0,1,1,0] F35.code
def kN (p:Pg) (ls:List Ln) (r i:Nat) (m:Bool):Fr:=[(0,.cptr [.sc (.int .i64 p.cells),.list 1 (bY p.acts),.tmap formsE,.list 10 (d4 ls)]),(3,.hsl 0 0 0 ls.length),(4,.mref 2 0),(8,.sc (.bool m)),(9,.sc (.int .i64 (r:Int))),(74,.sc (.int .i64 (ls.length:Int))),(75,.sc (.int .i64 (r:Int))),(82,.sc (.int .i64 ((cI p r+1:Nat):Int))),(83,.sc (.int .i64 (i:Int)))]
theorem FU.look {p:Pg} {ls:List Ln} {n:Nat} {es:List (List Int×AV)} (h:FU p ls n 0 es) {r:Nat} (hr:r < n) (i:Nat):(bV [(r:Int),(i:Int)] es).getD (.sc (.slice none 0 0))=(if 1≤i∧i≤cI p r then .list 2 (j7 (gO p ls r i)) else .sc (.slice none 0 0)):=by
 rw[h.f r i]
 unfold gO
 by_cases c:1≤i∧i≤cI p r
 ·rw[if_pos c,if_pos c,if_pos ⟨.inl hr,c⟩]; rfl
 ·rw[if_neg c,if_neg (fun h=>c h.2)]; rfl
def KH (n:Nat) (g:Nat→AV) (m:Nat) (o:Nat→List (List Nat)) (es:List (List Int×AV)) (k:List Nat):Heap:=[[.cells 1 (row1 n g)],fam m (oB o),[umB es],[.cells 64 [knR k]]]
theorem Sub.oK {N:Nat} {fr fr':Fr} {H:Heap} {n m:Nat} {g g':Nat→AV} {o:Nat→List (List Nat)} {es:List (List Int×AV)} {k:List Nat} {q:Nat×Nat} (h0:hget H 0 0=some (.cells 1 (row1 n g))) (h1:∀ b,b < m→hget H 1 b=some (oB o b)) (h2:hget H 2 0=some (umB es)) (h3:hget H q.1 q.2=some (.cells 64 [knR k])) (hp:∀ x∈es,bQ x.2) (hok:okK [.c [(0,0)],.w 1 m [],.c [(2,0)],.c [q]]=true)
  (hg:∀ b,b < n→To (ToT (H++gh []) H.length (fG [.c [(0,0)],.w 1 m [],.c [(2,0)],.c [q]])) (rho (idK [.c [(0,0)],.w 1 m [],.c [(2,0)],.c [q]])) (g b) (g' b)) (h5:aB (ToT (H++gh []) H.length (fG [.c [(0,0)],.w 1 m [],.c [(2,0)],.c [q]])) (rho (idK [.c [(0,0)],.w 1 m [],.c [(2,0)],.c [q]])) fr fr'):
  Sub 0 N fr H fr' (KH n g' m o es k):=by
 have e:H++gh []=H:=List.append_nil _
 refine Sub.toK [] [.c [(0,0)],.w 1 m [],.c [(2,0)],.c [q]] h5 ⟨⟨⟨_,by rw[e]; exact h0,ToB.row1 hg⟩,trivial⟩,aY.ofFam (fun b hb=>⟨_,by rw[e]; exact h1 b hb,ToB.rows rfl (prs _)⟩),⟨⟨_,by rw[e]; exact h2,D3 hp⟩,trivial⟩,⟨⟨_,by rw[e]; exact h3,ToB.one (ToL.pure (pr _))⟩,trivial⟩,trivial⟩ trivial hok
theorem fJ {T:AV→AV→Prop} {ks:List FK} {p:Pg} {n m b:Nat} {ps:List (Nat×Nat)} (h:ks[1]?=some (.w 1 m ps)) (hb:b < n) (hm:n≤m):To T (rho (idK ks)) (cW p n b) (cW p n b):=by
 unfold cW
 rw[if_pos hb]
 exact To.hslL (c9 h (by omega)) rfl
theorem vL {k:List Nat} {b:Nat} (h:b < k.length):(knR k)[b]?=some (.sc (.int .i64 (k.getD b 0:Int))):=by
 rw[FD h,List.getD_eq_getElem?_getD,gEg h]
 rfl
theorem I7 {k:List Nat} {x:Pl}:(knR k).set x.1 (.sc (.int .i64 ((max (k.getD x.1 0) (x.2+1):Nat):Int)))=knR (vK k x):=by rw[zA]; rfl
theorem D8 {α β:Type} {f:α→β→α} {a:α} {l:List β} {t:Nat} (h:t < l.length):(l.take (t+1)).foldl f a=f ((l.take t).foldl f a) l[t]:=by
 rw[List.take_succ_eq_append_getElem h,List.foldl_append]; rfl
theorem jF {α:Type} {f:α→Nat→α} {a:α} {t:Nat}:(List.range (t+1)).foldl f a=f ((List.range t).foldl f a) t:=by
 rw[List.range_succ,List.foldl_append]; rfl
theorem yU {g i:Nat} {fr:Fr} {H:Heap} {n:Nat} {x y:Operand} {k:IntKind} {q g' i' off:Nat} (hx:ev fr x=.ptr g' i' 0 off) (hy:ev fr y=.sc (.int k (q:Int))) (hq:q≤n):
  aH g i (.mop (.sliceA n) [x,y]) fr H=some (.asl g' i' off q,H):=by
 simp only[aH,aX,List.map_cons,List.map_nil,hx,hy,gT]
 have e:Nat.ble q n=true:=Nat.ble_eq_true_of_le hq
 show(match Nat.ble q n with | true=>some (AV.asl g' i' off q,H) | false=>none)=_
 rw[e]
theorem DF {g i:Nat} {fr:Fr} {H:Heap} {x ix:Operand} {k:IntKind} {q g' i' len:Nat} (hx:ev fr x=.asl g' i' 0 len) (hi:ev fr ix=.sc (.int k (q:Int))) (hq:q < len):
  aH g i (.idxSl 1 x ix) fr H=some (.ptr g' i' 0 q,H):=by
 simp only[aH,hx,hi]
 have e:(Nat.beq 1 1 && Nat.blt q len)=true:=by simp[Nat.blt]; omega
 show(match Nat.beq 1 1 && Nat.blt q len with | true=>some (AV.ptr g' i' 0 (0+q),H) | false=>none)=_
 rw[e,Nat.zero_add]
structure FstV (F:List Pl) (v:AV):Prop where
 pv:bQ v
 len:∀ {g i:Nat} {fr:Fr} {H:Heap} {x:Operand},ev fr x=v→aH g i (.len x) fr H=some (.sc (.int .i64 (F.length:Int)),H)
 list:0 < F.length→v=.list 2 (j7 F)
theorem FU.fstV {p:Pg} {ls:List Ln} {n:Nat} {es:List (List Int×AV)} (h:FU p ls n 0 es) {r:Nat} (hr:r < n) (i:Nat):∃ v,(bV [(r:Int),(i:Int)] es).getD (.sc (.slice none 0 0))=v∧FstV (gO p ls r i) v:=by
 refine⟨_,h.look hr i,?_⟩
 by_cases c:1≤i∧i≤cI p r
 ·rw[if_pos c]
  refine⟨.list _ _ (prs _),fun hx=>?_,fun _=>rfl⟩
  simp only[aH,hx]
  rw[fQ]
 ·rw[if_neg c]
  have e:gO p ls r i=[]:=by unfold gO; rw[if_neg c]
  rw[e]
  refine⟨.sc _,fun hx=>?_,fun h=>absurd h (by simp)⟩
  simp only[aH,hx]
  rfl
set_option maxHeartbeats 16000000 in
theorem LZ (p:Pg) (ls:List Ln) (hC:d9 p ls) (hS:SOK p) (hFO:FOK p ls) (es:List (List Int×AV)) (hF:FU p ls ls.length 0 es) (r i:Nat) (s:Bool×Ord) (hO:OOK p ls.length s.2) (hr:r < ls.length) (hi:i≤cI p r) (Q:Exit→Fr→Heap→Prop):
  AWP Tryz.prog F35.n 0 ordB (gG (fun fr H=>Sub 0 F35.n fr H (kN p ls r i (kX ls.length p ls r s i).1) (iP ls.length (cW p ls.length) ls.length (cU (kX ls.length p ls r s i).2) es)) Q)
   (kN p ls r i s.1) (iP ls.length (cW p ls.length) ls.length (cU s.2) es):=by
 show AWP _ _ _ (.block _ _) _ _ _
 obtain⟨m,o⟩:=s
 replace hO:OOK p ls.length o:=hO
 have hn:=hC.len
 have hn64:=hC.n64
 have e0:=gM ls
 have e1:=dA ls.length (cW p ls.length)
 have hog:∀ b,b < ls.length→(row1 ls.length (cW p ls.length))[b]?=some [.hsl 1 b 0 (cI p b+1)]:=fun b hb=>by
  rw[eZ hb]
  unfold cW
  rw[if_pos hb]
 have hfm:∀ b,b < ls.length→(fam ls.length (oB (cU o)))[b]?=some (.cells 64 ((cU o b).map knR)):=fun b hb=>by
  rw[aO hb]; rfl
 have hrl:∀ b,b < ls.length→((cU o b).map knR).length=cI p b+1:=fun b hb=>by rw[List.length_map,hO.rows b hb]
 have hrow:∀ b j,b < ls.length→j≤cI p b→((cU o b).map knR)[j]?=some (knR (dY o b j)):=fun b j hb hj=>by
  have:=hO.rows b hb
  rw[List.getElem?_map,gEg (by omega)]
  unfold dY
  rw[List.getD_eq_getElem?_getD,gEg (by omega)]
  rfl
 have h1:=hog r hr
 have h2:=hfm r hr
 have h3:=hrl r hr
 have h4:=hrow r i hr hi
 have h5:(knR (dY o r i)).length=64:=(jC _).trans (hO.row r i hr hi)
 have h6:=sY (dY o r i)
 unfold kN iP
 refine aA ?_
 refine Reg.o rfl (eJ rfl rfl h2 (by omega) h3) ?_
 refine aA ?_
 refine Reg.o rfl (lR rfl h2 h4 h5) ?_
 refine Reg.o rfl rfl ?_
 refine Reg.on rfl (sP (r:=fF [(64,.int .i64 0)]) rfl rfl rfl rfl rfl h5 h6) ?_
 obtain⟨v,hlk,hv⟩:=hF.fstV hr i
 haveI:PV v:=⟨hv.pv⟩
 have hx64:=hFO.m r i
 have hl64:=hFO.l r i
 have hkB:=fun t=>fV (I:=KOK p) (f:=vK) (l:=(gO p ls r i).take t) (hO.k hr hi) fun k x hx h=>h.fst (hFO.m r i x (List.mem_of_mem_take hx)).1 (hFO.m r i x (List.mem_of_mem_take hx)).2
 have hfull:(gO p ls r i).foldl vK (dY o r i)=kB p ls o r i:=rfl
 generalize hFs:gO p ls r i=Fs at hv hx64 hl64 hkB hfull
 refine aA ?_
 refine Reg.o rfl (yT rfl rfl rfl hlk) ?_
 refine Reg.o rfl (hv.len rfl) ?_
 refine aA ?_
 refine AWP.loop (fun t:Nat=>(97,v)::(98,.sc (.int .i64 (Fs.length:Int)))::(99,.sc (.int .i64 (t:Int)))::(10,.sc (.int .i64 (i:Int)))::(11,.ptr 3 0 0 0)::kN p ls r i m)
  (fun t=>KH ls.length (cW p ls.length) ls.length (cU o) es ((Fs.take t).foldl vK (dY o r i))) (fun t=>t≤Fs.length) (fun t=>Fs.length - t) 0 (Nat.zero_le _) ?_ ?_
 ·refine Sub.oK (g:=cW p ls.length) (q:=(3,0)) rfl (fun b hb=>aO hb) rfl rfl hF.p rfl (fun b hb=>fJ rfl hb (Nat.le_refl _)) ?_
  unfold kN
  (all_goals exact eP)
 rintro t ht
 have hk0:=hkB t
 unfold kN KH
 refine aA ?_
 refine AWP.condD rfl (fun h=>?_) (fun h=>?_)
 ·have hvl:=hv.list (by omega)
  have hp1:=zD Fs t h
  have hp2:=hx64 Fs[t] (List.getElem_mem h)
  have hft:=D8 (f:=vK) (a:=dY o r i) h
  have hs100:=hS (Fs[t]).1
  generalize (Fs.take t).foldl vK (dY o r i)=k at *
  generalize Fs[t]=x at *
  obtain⟨a,b⟩:=x
  dsimp only at hp2 hs100
  have hkl:=hk0.1
  have hka:=vL (k:=k) (b:=a) (by omega)
  have hkn:=jC k
  subst hvl
  refine aA ?_
  refine DK.nil ⟨by kernel_rfl,?_⟩
  refine aA ?_
  refine⟨t+1,by omega,by omega,?_⟩
  have hK:(knR k).set a (.sc (.int .i64 ((max (k.getD a 0) (b+1):Nat):Int)))=knR (vK k (a,b)):=I7 (x:=(a,b))
  refine Sub.oK (g:=cW p ls.length) (q:=(3,0)) rfl (fun b hb=>aO hb) rfl ?_ hF.p rfl (fun b hb=>fJ rfl hb (Nat.le_refl _)) ?_
  ·rw[hft,← hK]
   rfl
  ·(all_goals exact eP)
 ·have ht2:t=Fs.length:=by omega
  subst ht2
  rw[List.take_length] at hk0
  rw[List.take_length,hfull]
  rw[hfull] at hk0
  clear hv hlk hkB
  generalize hkb:kB p ls o r i=kb at *
  refine aA ?_
  rw[e0]
  refine Reg.o rfl (yU rfl rfl (show ls.length≤64 by omega)) ?_
  refine aA ?_
  have hrange:=fun b=>fV (I:=KOK p) (f:=pK o) (l:=List.range b) (a:=kb) hk0
  refine AWP.loop (fun b:Nat=>(120,.asl 3 0 0 ls.length)::(121,.sc (.int .i64 (ls.length:Int)))::(122,.sc (.int .i64 (b:Int)))::(10,.sc (.int .i64 (i:Int)))::(11,.ptr 3 0 0 0)::kN p ls r i m)
   (fun b=>KH ls.length (cW p ls.length) ls.length (cU o) es ((List.range b).foldl (pK o) kb)) (fun b=>b≤ls.length) (fun b=>ls.length - b) 0 (Nat.zero_le _) ?_ ?_
  ·refine Sub.oK (g:=cW p ls.length) (q:=(3,0)) rfl (fun b hb=>aO hb) rfl rfl hF.p rfl (fun b hb=>fJ rfl hb (Nat.le_refl _)) ?_
   unfold kN
   (all_goals exact eP)
  rintro b hb
  have hkb0:=hrange b (fun k b' hb' h=>h.join hO (by have:=List.mem_range.1 hb'; omega))
  have hstep:=jF (f:=pK o) (a:=kb) (t:=b)
  unfold kN KH
  refine aA ?_
  refine AWP.condD rfl (fun h=>?_) (fun h=>?_)
  ·generalize (List.range b).foldl (pK o) kb=k at *
   have hkl:=hkb0.1
   have hka:=vL (k:=k) (b:=b) (by omega)
   have hkn:=jC k
   have hbd:=hkb0.2 b
   have hlen:=hS b
   refine aA ?_
   refine Reg.o rfl (DF rfl rfl h) ?_
   refine aA ?_
   refine AWP.condD rfl (fun hc=>?_) (fun hc=>?_)
   ·have hjk:pK o k b=gH k (dY o b (k.getD b 0 - 1)):=if_pos (by omega)
    have g1:=hog b h
    have g2:=hfm b h
    have g3:=hrl b h
    have g4:=hrow b (k.getD b 0 - 1) h (by omega)
    have g5:(dY o b (k.getD b 0 - 1)).length=64:=hO.row b _ h (by omega)
    have g6:(knR (dY o b (k.getD b 0 - 1))).length=64:=(jC _).trans g5
    refine aA ?_
    refine Reg.o rfl (eJ rfl rfl g2 (by omega) g3) ?_
    refine aA ?_
    refine Reg.o rfl (lR rfl g2 g4 g6) ?_
    refine Reg.c (Nat.zero_le _) rfl ((FR (rows:=[k]) (q:=0) rfl hkl g5 rfl).mono ?_)
    rintro res H' ⟨rfl,rfl⟩
    refine aA ?_
    refine⟨b+1,by omega,by omega,?_⟩
    refine Sub.oK (g:=cW p ls.length) (q:=(3,0)) rfl (fun b hb=>aO hb) rfl ?_ hF.p rfl (fun b hb=>fJ rfl hb (Nat.le_refl _)) ?_
    ·rw[hstep,hjk]
     rfl
    ·(all_goals exact eP)
   ·have hjk:pK o k b=k:=if_neg (by omega)
    refine aA ?_
    refine⟨b+1,by omega,by omega,?_⟩
    refine Sub.oK (g:=cW p ls.length) (q:=(3,0)) rfl (fun b hb=>aO hb) rfl ?_ hF.p rfl (fun b hb=>fJ rfl hb (Nat.le_refl _)) ?_
    ·rw[hstep,hjk]
     rfl
    ·(all_goals exact eP)
  ·have hb2:b=ls.length:=by omega
   subst hb2
   have hkC:(List.range ls.length).foldl (pK o) kb=kC ls.length p ls o r i:=by rw[← hkb]; rfl
   rw[hkC] at hkb0 ⊢
   have hnew:newK ls.length p ls o r i=gH (dY o r i) (kC ls.length p ls o r i):=rfl
   have hso1:(kX ls.length p ls r (m,o) i).1=(m || !decide (newK ls.length p ls o r i=dY o r i)):=rfl
   have hso2:(kX ls.length p ls r (m,o) i).2=sA o r i (newK ls.length p ls o r i):=rfl
   rw[hso1,hso2,hnew]
   generalize kC ls.length p ls o r i=kc at *
   refine AWP.exit ?_
   refine AWP.seq ?_
   refine AWP.dkl rfl mixed ?_
   refine aA ?_
   have hkc:=hkb0.1
   have hkcl:(knR kc).length=64:=(jC _).trans hkc
   have hq:(cU o r)[i]?=some (dY o r i):=by
    have:=hO.rows r hr
    unfold dY
    rw[List.getD_eq_getElem?_getD,gEg (by omega)]
    rfl
   have hput:∀ b,b < ls.length→((fam ls.length (oB (cU o))).set r (.cells 64 (((cU o r).set i (gH (dY o r i) kc)).map knR)))[b]?=some (oB (cU (sA o r i (gH (dY o r i) kc))) b):=fun b hb=>by
    rw[FH,aO hb]
    unfold oB sA
    rw[sB (by rw[hO.len]; exact hr)]
   have hra:(dY o r i).length=64:=hO.row r i hr hi
   generalize dY o r i=ra at *
   refine DK.o rfl (eJ rfl rfl h2 (by omega) h3) ?_
   refine DK.o rfl (lR (r:=knR kc) rfl rfl rfl hkcl) ?_
   refine DK.nil ⟨by kernel_rfl,?_⟩
   refine Reg.c (Nat.zero_le _) rfl ((FR (g:=1) (i:=r) (rows:=cU o r) (q:=i) (by exact h2) hra hkc hq).mono ?_)
   rintro res H' ⟨rfl,rfl⟩
   by_cases hd:gH ra kc=ra
   ·rw[dTr hd]
    refine aA ?_
    refine Sub.oH (g:=cW p ls.length) rfl (fun b hb=>?_) rfl hF.p (fun b hb=>fJ rfl hb (Nat.le_refl _)) ?_
    ·show(List.set _ _ _)[b]?=_
     exact hput b hb
    ·rw[show(m || !true)=m by simp]
     (all_goals exact eP)
   ·rw[dFa hd]
    refine aA ?_
    refine Sub.oH (g:=cW p ls.length) rfl (fun b hb=>?_) rfl hF.p (fun b hb=>fJ rfl hb (Nat.le_refl _)) ?_
    ·show(List.set _ _ _)[b]?=_
     exact hput b hb
    ·rw[show(m || !false)=true by simp]
     (all_goals exact eP)
def rQ (p:Pg) (ls:List Ln) (r:Nat) (m:Bool):Fr:=[(0,.cptr [.sc (.int .i64 p.cells),.list 1 (bY p.acts),.tmap formsE,.list 10 (d4 ls)]),(3,.hsl 0 0 0 ls.length),(4,.mref 2 0),(8,.sc (.bool m)),(74,.sc (.int .i64 (ls.length:Int))),(75,.sc (.int .i64 (r:Int)))]
theorem OOK.fold {p:Pg} {ls:List Ln} {n:Nat} (hF:FOK p ls) {s:Bool×Ord} (h:OOK p n s.2) {r:Nat} (hr:r < n) {i:Nat} (hi:i≤cI p r+1):OOK p n ((List.range i).foldl (kX n p ls r) s).2:=
 fV (I:=fun s:Bool×Ord=>OOK p n s.2) h fun _ j hj h=>h.step hF hr (by have:=List.mem_range.1 hj; omega)
theorem OOK.folds {p:Pg} {ls:List Ln} {n:Nat} (hF:FOK p ls) {s:Bool×Ord} (h:OOK p n s.2) {r:Nat} (hr:r≤n):OOK p n ((List.range r).foldl (jB n p ls) s).2:=
 fV (I:=fun s:Bool×Ord=>OOK p n s.2) h fun _ j hj h=>OOK.fold hF h (by have:=List.mem_range.1 hj; omega) (Nat.le_refl _)
set_option maxHeartbeats 16000000 in
theorem MC (p:Pg) (ls:List Ln) (hC:d9 p ls) (hS:SOK p) (hFO:FOK p ls) (es:List (List Int×AV)) (hF:FU p ls ls.length 0 es) (r:Nat) (s:Bool×Ord) (hO:OOK p ls.length s.2) (hr:r < ls.length) (Q:Exit→Fr→Heap→Prop):
  AWP Tryz.prog F35.n 0 (aG [1,1,1,1,0,1,0,0,1,0,1,1,0,0,1,1,0] F35.code) (gG (fun fr H=>Sub 0 F35.n fr H (rQ p ls r (jB ls.length p ls s r).1) (iP ls.length (cW p ls.length) ls.length (cU (jB ls.length p ls s r).2) es)) Q)
   (rQ p ls r s.1) (iP ls.length (cW p ls.length) ls.length (cU s.2) es):=by
 have hog:(row1 ls.length (cW p ls.length))[r]?=some [.hsl 1 r 0 (cI p r+1)]:=by
  rw[eZ hr]
  unfold cW
  rw[if_pos hr]
 have e1:=dA ls.length (cW p ls.length)
 have hS':=hS r
 show AWP _ _ _ (.block _ _) _ _ _
 unfold rQ iP
 refine aA ?_
 refine AWP.loop (fun i:Nat=>kN p ls r i ((List.range i).foldl (kX ls.length p ls r) s).1) (fun i=>iP ls.length (cW p ls.length) ls.length (cU ((List.range i).foldl (kX ls.length p ls r) s).2) es) (fun i=>i≤cI p r+1) (fun i=>cI p r+1 - i) 0 (Nat.zero_le _) ?_ ?_
 ·refine Sub.oH (g:=cW p ls.length) rfl (fun b hb=>aO hb) rfl hF.p (fun b hb=>fJ rfl hb (Nat.le_refl _)) ?_
  unfold kN
  (all_goals exact eP)
 rintro i hi
 have hO2:=OOK.fold hFO hO hr hi
 have hst:=jF (f:=kX ls.length p ls r) (a:=s) (t:=i)
 unfold kN
 refine aA ?_
 refine AWP.condD rfl (fun h=>?_) (fun h=>?_)
 ·generalize (List.range i).foldl (kX ls.length p ls r) s=s1 at *
  have hi2:i≤cI p r:=by omega
  refine AWP.skip ?_
  refine AWP.seq ?_
  refine AWP.sub (fr':=kN p ls r i s1.1) (H':=iP ls.length (cW p ls.length) ls.length (cU s1.2) es) ?_ ?_
  ·exact Sub.keep (by unfold kN; exact⟨Le.refl _,Le.refl _,Le.refl _,Le.refl _,Le.refl _,Le.refl _,Le.refl _,Le.refl _,Le.refl _,trivial⟩)
  refine AWP.joinT0 _ _ (LZ p ls hC hS hFO es hF r i s1 hO2 hr hi2 _) ?_
  unfold kN iP
  refine aA ?_
  refine⟨i+1,by omega,by omega,?_⟩
  rw[hst]
  refine Sub.oH (g:=cW p ls.length) rfl (fun b hb=>aO hb) rfl hF.p (fun b hb=>fJ rfl hb (Nat.le_refl _)) ?_
  (all_goals exact eP)
 ·have hi2:i=cI p r+1:=by omega
  subst hi2
  refine aA ?_
  unfold jB
  refine Sub.oH (g:=cW p ls.length) rfl (fun b hb=>aO hb) rfl hF.p (fun b hb=>fJ rfl hb (Nat.le_refl _)) ?_
  (all_goals exact eP)
theorem AWP.thenM {P:Program} {N k:Nat} {a:dB} {fr:Fr} {H:Heap} {Q:Exit→Fr→Heap→Prop} {K K':Fr→Heap→Prop} (h:AWP P N k a (gG K Q) fr H) (h2:∀ fr H,K fr H→K' fr H):AWP P N k a (gG K' Q) fr H:=
 AWP.mono h fun e fr H h=>by
  cases e<;>first | exact h | exact h2 _ _ h
set_option maxHeartbeats 16000000 in
theorem L6 (p:Pg) (ls:List Ln) (hC:d9 p ls) (hS:SOK p) (hFO:FOK p ls) (es:List (List Int×AV)) (hF:FU p ls ls.length 0 es) (o:Ord) (hO:OOK p ls.length o) (Q:Exit→Fr→Heap→Prop):
  AWP Tryz.prog F35.n 0 (aG [1,1,1,1,0,1,0,0,1] F35.code) (gG (fun fr H=>Sub 0 F35.n fr H (tF p ls (k7 ls.length p ls o).1) (iP ls.length (cW p ls.length) ls.length (cU (k7 ls.length p ls o).2) es)) Q)
   (tF p ls true) (iP ls.length (cW p ls.length) ls.length (cU o) es):=by
 have e1:=dA ls.length (cW p ls.length)
 show AWP _ _ _ (.block _ _) _ _ _
 unfold tF iP
 refine aA ?_
 refine AWP.loop (fun r:Nat=>rQ p ls r ((List.range r).foldl (jB ls.length p ls) (false,o)).1) (fun r=>iP ls.length (cW p ls.length) ls.length (cU ((List.range r).foldl (jB ls.length p ls) (false,o)).2) es) (fun r=>r≤ls.length) (fun r=>ls.length - r) 0 (Nat.zero_le _) ?_ ?_
 ·refine Sub.oH (g:=cW p ls.length) rfl (fun b hb=>aO hb) rfl hF.p (fun b hb=>fJ rfl hb (Nat.le_refl _)) ?_
  unfold rQ
  (all_goals exact eP)
 rintro r hr
 have hO2:=OOK.folds (s:=(false,o)) hFO hO hr
 have hst:=jF (f:=jB ls.length p ls) (a:=(false,o)) (t:=r)
 unfold rQ
 refine aA ?_
 refine AWP.condD rfl (fun h=>?_) (fun h=>?_)
 ·generalize (List.range r).foldl (jB ls.length p ls) (false,o)=s1 at *
  refine AWP.skip ?_
  refine AWP.seq ?_
  refine AWP.sub (fr':=rQ p ls r s1.1) (H':=iP ls.length (cW p ls.length) ls.length (cU s1.2) es) ?_ ?_
  ·exact Sub.keep (by unfold rQ; exact⟨Le.refl _,Le.refl _,Le.refl _,Le.refl _,Le.refl _,Le.refl _,trivial⟩)
  refine AWP.joinT0 _ _ (MC p ls hC hS hFO es hF r s1 hO2 h _) ?_
  unfold rQ iP
  have hn64:=hC.n64
  have hn:=hC.len
  refine aA ?_
  refine⟨r+1,by omega,by omega,?_⟩
  rw[hst]
  refine Sub.oH (g:=cW p ls.length) rfl (fun b hb=>aO hb) rfl hF.p (fun b hb=>fJ rfl hb (Nat.le_refl _)) ?_
  (all_goals exact eP)
 ·have hr2:r=ls.length:=by omega
  subst hr2
  refine aA ?_
  unfold k7
  refine Sub.oH (g:=cW p ls.length) rfl (fun b hb=>aO hb) rfl hF.p (fun b hb=>fJ rfl hb (Nat.le_refl _)) ?_
  (all_goals exact eP)
def OI (p:Pg) (ls:List Ln) (s:Bool×Ord×Nat):Prop:=OOK p ls.length s.2.1∧(s.1=true→x5 ls.length p ls (s.2.2+1) s.2.1=kZ ls.length p ls∧ls.length * 646400 < mM s.2.1+s.2.2+1)∧(s.1=false→s.2.1=kZ ls.length p ls)
theorem OI.next {p:Pg} {ls:List Ln} (hS:SOK p) (hFO:FOK p ls) {o:Ord} {f:Nat} (h:OI p ls (true,o,f)):∃ f',OI p ls ((k7 ls.length p ls o).1,(k7 ls.length p ls o).2,f')∧((k7 ls.length p ls o).1=true→f' < f):=by
 obtain⟨h1,h2,-⟩:=h
 obtain⟨h2,h3⟩:=h2 rfl
 dsimp only at h1 h2 h3
 have hp:tW p ls.length (mM o) (k7 ls.length p ls o):=tW.pass hFO h1
 unfold x5 at h2
 generalize k7 ls.length p ls o=q at *
 cases hq:q.1 with
 | true=>
  rw[hq,if_pos rfl] at h2
  have h4:=hp.gt hq
  have h5:=MH hS hp.ok
  obtain⟨f',rfl⟩:∃ f',f=f'+1:=⟨f - 1,by omega⟩
  refine⟨f',⟨hp.ok,fun _=>⟨h2,?_⟩,fun e=>by cases e⟩,fun _=>by omega⟩
  dsimp only
  omega
 | false=>
  rw[hq,if_neg (by simp)] at h2
  exact⟨0,⟨hp.ok,(fun e=>by cases e),fun _=>h2⟩,fun e=>by cases e⟩
theorem OI.row {p:Pg} {ls:List Ln} {s:Bool×Ord×Nat} (h:OI p ls s) {b:Nat} (hb:b < ls.length):(cU s.2.1 b).length=cI p b+1:=h.1.rows b hb
theorem OI.first {p:Pg} {ls:List Ln} (hn:ls.length≤64):OI p ls (true,CP p ls.length,ls.length * 646400):=by
 refine⟨F1 p hn,fun _=>⟨rfl,?_⟩,fun e=>by cases e⟩
 dsimp only
 omega
set_option maxHeartbeats 16000000 in
theorem JL (p:Pg) (ls:List Ln) (hC:d9 p ls) (hp:POK p) (hS:SOK p) (hFO:FOK p ls):aD Tryz.prog 35 [ckV p ls] (xG ls.length (kZ ls.length p ls)):=by
 refine II p ls hC hp fun es hF=>?_
 show AWP _ _ _ (.seq _ _) _ _ _
 have hn:=hC.len
 have hn64:=hC.n64
 unfold qR iP
 refine aA ?_
 refine AWP.loop (σ:=Bool×Ord×Nat) (fun s=>tF p ls s.1) (fun s=>iP ls.length (cW p ls.length) ls.length (cU s.2.1) es) (OI p ls) (fun s=>if s.1=true then s.2.2+1 else 0) (true,CP p ls.length,ls.length * 646400) (OI.first (by omega)) ?_ ?_
 ·refine Sub.oH (g:=cW p ls.length) rfl (fun b hb=>(aO hb).trans (by unfold oB; rw[sZ hb])) rfl hF.p (fun b hb=>fJ rfl hb (Nat.le_refl _)) ?_
  unfold tF
  (all_goals exact eP)
 rintro⟨m,o,f⟩ hI
 have hO:OOK p ls.length o:=hI.1
 cases m with
 | true=>
  dsimp only
  refine AWP.seq ?_
  refine AWP.seq ?_
  refine AWP.region ?_
  refine Reg.o rfl rfl ?_
  refine Reg.nil ?_
  refine AWP.condT rfl ?_
  refine AWP.skip ?_
  refine AWP.sub (fr':=tF p ls true) (H':=iP ls.length (cW p ls.length) ls.length (cU o) es) ?_ ?_
  ·exact Sub.keep (by unfold tF; exact⟨Le.refl _,Le.refl _,Le.refl _,Le.refl _,trivial⟩)
  obtain⟨f',h1,h2⟩:=OI.next hS hFO hI
  refine AWP.thenM (L6 p ls hC hS hFO es hF o hO _) fun fr H h=>?_
  refine⟨((k7 ls.length p ls o).1,(k7 ls.length p ls o).2,f'),h1,?_,h⟩
  dsimp only
  rw[if_pos rfl]
  split
  ·rename_i hq
   have:=h2 hq
   omega
  ·omega
 | false=>
  have ho:=hI.2.2 rfl
  dsimp only at ho ⊢
  rw[ho]
  unfold tF iP
  have e1:=dA ls.length (cW p ls.length)
  refine aA ?_
  refine aW.mk (.inr rfl) rfl rfl ?_
  unfold xG
  refine To.fzT rfl rfl e1 (To.row1 fun b hb=>?_)
  unfold cW
  rw[if_pos hb]
  have hbr:=(OI.row hI hb)
  rw[ho] at hbr
  exact To.fz (aO hb) rfl ((List.length_map _).trans hbr) rfl (prs _)
theorem d9.sok {p:Pg} {ls:List Ln} (h:d9 p ls):SOK p:=fun b=>by
 cases hb:p.acts[b]? with
 | none=>unfold cI; rw[hb]; exact Nat.zero_le _
 | some l=>
  obtain⟨L,_,hO⟩:=h.get hb
  rw[dP hb]
  exact hO.len
theorem xL {β:Type} {i:Nat} {c:β}:∀ {l:List (Nat×β)},cS i l=some c→(i,c)∈l
 | [],h=>by cases h
 | (k,d)::l,h=>by
  unfold cS at h
  split at h
  ·rename_i e
   injection h with h
   subst h
   rw[e]
   exact List.mem_cons_self
  ·exact List.mem_cons_of_mem _ (xL h)
theorem d9.fok {p:Pg} {ls:List Ln} (h:d9 p ls):FOK p ls:=by
 have hl:∀ b:Nat,b < p.acts.length→b < 64:=fun b hb=>by have:=h.n64; omega
 have key:∀ r i:Nat,(∀ x∈(jY p ls r i).1,x.1 < 64∧x.2 < cI p x.1)∧(jY p ls r i).1.length≤1000000:=fun r i=>by
  unfold jY
  split
  ·rename_i l L hr hL
   have hO:=h.ln r l L hr hL
   split
   ·rename_i x hx
    split
    ·refine⟨fun y hy=>?_,?_⟩
     ·obtain⟨b,hb,hy⟩:=List.mem_filterMap.1 hy
      unfold wY at hy
      split at hy
      ·rename_i M hM
       split at hy
       ·obtain⟨j,hj,rfl⟩:=Option.map_eq_some_iff.1 hy
        have hb2:b < p.acts.length:=by rw[← h.len]; exact List.mem_range.1 hb
        have hOb:=h.ln b _ M (gEg hb2) hM
        have hm:=List.mem_of_getElem? hj
        rw[hOb.pre.fe] at hm
        exact⟨hl b hb2,by rw[dP (gEg hb2)]; exact(eQ.1 hm).1⟩
       ·cases hy
      ·cases hy
     ·refine Nat.le_trans (s6 _ _) ?_
      have:=h.n64
      have:=h.len
      rw[List.length_range]
      omega
    split
    ·rename_i hk
     have hg:=(hO.act i x hx).grp (.inr hk)
     refine⟨fun y hy=>?_,?_⟩
     ·obtain⟨b,hb,hy⟩:=List.mem_filterMap.1 hy
      unfold w8 at hy
      split at hy
      ·rename_i m M hm hM
       obtain⟨j,hj,rfl⟩:=Option.map_eq_some_iff.1 hy
       have hOb:=h.ln _ m M hm hM
       have hj2:=(List.mem_filter.1 (List.mem_of_getElem? hj)).1
       rw[hOb.pre.po] at hj2
       exact⟨hl _ (gEs.1 hm).1,by rw[dP hm]; exact(eQ.1 hj2).1⟩
      ·cases hy
     ·refine Nat.le_trans (s6 _ _) ?_
      have:=oP hg.2.2 fun b hb=>⟨(hg.2.1 b hb).1,(hg.2.1 b hb).2.1⟩
      have:=h.n64
      omega
    split
    ·split
     ·rename_i y hy
      refine⟨fun z hz=>?_,?_⟩
      ·obtain⟨b,hb,hz⟩:=List.mem_filterMap.1 hz
       unfold w9 at hz
       split at hz
       ·rename_i m M hm hM
        obtain⟨j,hj,rfl⟩:=Option.map_eq_some_iff.1 hz
        have hOb:=h.ln _ m M hm hM
        have hj2:=(List.mem_filter.1 (List.mem_of_getElem? hj)).1
        rw[hOb.pre.st] at hj2
        have hj3:=(eQ.1 hj2).1
        refine⟨hl _ (gEs.1 hm).1,?_⟩
        rw[dP hm]
        dsimp only
        cases hc:cS j M.co with
        | none=>exact Nat.lt_of_le_of_lt (Nat.zero_le _) hj3
        | some c=>
         have:=xL hc
         rw[hOb.pre.co] at this
         obtain⟨d,hd,e⟩:=List.mem_map.1 this
         injection e with e1 e2
         subst e2
         exact(eQ.1 hd).1
       ·cases hz
      ·refine Nat.le_trans (s6 _ _) ?_
       have hk:0 < (g7 9 l i).length:=by
        rename_i h12 _ _
        have hal:=(hO.act i x hx).al (by unfold dW; apply dFa; omega)
        rw[show x.k.toNat=12 by omega] at hal
        have hp0:0 < (k6 l i).p.length:=of_decide_eq_true (Bool.and_eq_true_iff.1 hal).1
        rcases D1 l i with e | ⟨y,y1,y2,y3,y4⟩
        ·rw[e] at hp0
         cases hp0
        ·exact y1
       ·have hmem:=eQ.1 (mZ hk)
        have hyk:y.k=9:=by rw[← uI hy]; exact hmem.2
        have hg:=(hO.act _ y hy).grp (.inl hyk)
        have:=oP hg.2.2 fun b hb=>⟨(hg.2.1 b hb).1,(hg.2.1 b hb).2.1⟩
        have:=h.n64
        omega
     ·exact⟨(fun y hy=>by cases hy),Nat.zero_le _⟩
    ·exact⟨(fun y hy=>by cases hy),Nat.zero_le _⟩
   ·exact⟨(fun y hy=>by cases hy),Nat.zero_le _⟩
  ·exact⟨(fun y hy=>by cases hy),Nat.zero_le _⟩
 refine⟨fun r i x hx=>?_,fun r i=>?_⟩
 ·unfold gO at hx
  split at hx
  ·exact(key r _).1 x hx
  ·cases hx
 ·unfold gO
  split
  ·exact(key r _).2
  ·exact Nat.zero_le _
theorem JT (p:Pg) (ls:List Ln) (hC:d9 p ls) (hp:POK p):aD Tryz.prog 35 [ckV p ls] (xG ls.length (kZ ls.length p ls)):=JL p ls hC hp hC.sok hC.fok
abbrev Pl4:=(Fin 64×Fin 128)×(Fin 64×Fin 128)
def raI (x:Pl4):List Int:=[(x.1.1.val:Int),(x.1.2.val:Int),(x.2.1.val:Int),(x.2.2.val:Int)]
def raE (x:Pl4):List Value:=(raI x).map (Value.int .i64)
def yO (a b c d:Int):Int:=if a=c then b - d else a - c
def AA (x y:Pl4):Int:=if x.1=y.1 then(if x.2=y.2 then 0 else yO x.2.1.val x.2.2.val y.2.1.val y.2.2.val) else yO x.1.1.val x.1.2.val y.1.1.val y.1.2.val
theorem ne2 (x y z w:Nat):(true != (decide ((x:Int)=(z:Int)) && (decide ((y:Int)=(w:Int)) && true)))=!decide (x=z∧y=w):=by
 by_cases h1:x=z<;>by_cases h2:y=w<;>simp[h1,h2]<;>omega
set_option maxHeartbeats 8000000 in
theorem NM (a b c d a' b' c' d':Nat) (ha:a < 1000) (hb:b < 1000) (hc:c < 1000) (hd:d < 1000) (ha':a' < 1000) (hb':b' < 1000) (hc':c' < 1000) (hd':d' < 1000):
  aD Tryz.prog 40 [.agg [.sc (.int .i64 (a:Int)),.sc (.int .i64 (b:Int)),.sc (.int .i64 (c:Int)),.sc (.int .i64 (d:Int))],.agg [.sc (.int .i64 (a':Int)),.sc (.int .i64 (b':Int)),.sc (.int .i64 (c':Int)),.sc (.int .i64 (d':Int))]] (.sc (.int .i64 (if a=a'∧b=b' then(if c=c'∧d=d' then 0 else yO c d c' d') else yO a b a' b'))):=by
 refine aD.mkI cF40 (nlB rfl) ?_
 refine aA ?_
 refine AWP.loop (σ:=Nat) (fun t=>[(2,.ptr 0 0 0 0),(3,.ptr 1 0 0 0),(4,.sc (.int .i64 0)),(6,.sc (.int .i64 (t:Int)))]) (fun _=>[[.cells 4 [[.sc (.int .i64 (a:Int)),.sc (.int .i64 (b:Int)),.sc (.int .i64 (c:Int)),.sc (.int .i64 (d:Int))]]],[.cells 4 [[.sc (.int .i64 (a':Int)),.sc (.int .i64 (b':Int)),.sc (.int .i64 (c':Int)),.sc (.int .i64 (d':Int))]]]])
  (fun t=>t≤2∧(1≤t→a=a'∧b=b')∧(2≤t→c=c'∧d=d')) (fun t=>2 - t) 0 ⟨by omega,by omega,by omega⟩ ?_ ?_
 ·exact Sub.w [] [[(0,0)],[(1,0)]]
 rintro t ⟨h0,h1,h2⟩
 match t,h0,h1,h2 with
 | 0,_,_,_=>
  refine aA ?_
  refine DK.nil ⟨by kernel_rfl,?_⟩
  rw[ne2]
  by_cases h:a=a'∧b=b'
  ·rw[dTr h]
   refine aA ?_
   refine⟨1,⟨by omega,fun _=>h,by omega⟩,by omega,?_⟩
   exact Sub.w [] [[(0,0)],[(1,0)]]
  ·rw[dFa h]
   rw[if_neg h]
   refine aA ?_
   refine DK.nil ⟨by kernel_rfl,?_⟩
   refine AWP.condDn rfl (fun h3=>?_) (fun h3=>?_)
   ·refine aA ?_
    refine DK.nil ⟨by kernel_rfl,?_⟩
    rw[Av.wrap_small (by omega) (by omega)]
    rw[show yO (a:Int) (b:Int) (a':Int) (b':Int)=(a:Int) - (a':Int) from if_neg (by omega)]
    refine aA ?_
    exact aW.w
   ·refine aA ?_
    refine DK.nil ⟨by kernel_rfl,?_⟩
    rw[Av.wrap_small (by omega) (by omega)]
    rw[show yO (a:Int) (b:Int) (a':Int) (b':Int)=(b:Int) - (b':Int) from if_pos (by omega)]
    refine aA ?_
    exact aW.w
 | 1,_,h1,_=>
  have hp:=h1 (Nat.le_refl _)
  rw[if_pos hp]
  refine aA ?_
  refine DK.nil ⟨by kernel_rfl,?_⟩
  rw[ne2]
  by_cases h:c=c'∧d=d'
  ·rw[dTr h]
   refine aA ?_
   refine⟨2,⟨by omega,fun _=>hp,fun _=>h⟩,by omega,?_⟩
   exact Sub.w [] [[(0,0)],[(1,0)]]
  ·rw[dFa h]
   rw[if_neg h]
   refine aA ?_
   refine DK.nil ⟨by kernel_rfl,?_⟩
   refine AWP.condDn rfl (fun h3=>?_) (fun h3=>?_)
   ·refine aA ?_
    refine DK.nil ⟨by kernel_rfl,?_⟩
    rw[Av.wrap_small (by omega) (by omega)]
    rw[show yO (c:Int) (d:Int) (c':Int) (d':Int)=(c:Int) - (c':Int) from if_neg (by omega)]
    refine aA ?_
    exact aW.w
   ·refine aA ?_
    refine DK.nil ⟨by kernel_rfl,?_⟩
    rw[Av.wrap_small (by omega) (by omega)]
    rw[show yO (c:Int) (d:Int) (c':Int) (d':Int)=(d:Int) - (d':Int) from if_pos (by omega)]
    refine aA ?_
    exact aW.w
 | 2,_,h1,h2=>
  rw[if_pos (h1 (by omega)),if_pos (h2 (by omega))]
  refine aA ?_
  exact aW.w
end Go.Proofs.YtkjoolaahocgdaaGreat
namespace Go.Proofs
open Go.Shelf
def Tryz.sortR_ren:Go.Shelf.Ren:=⟨fun | 6=>39 | 15=>60 | 14=>59 | 28=>109 | 29=>110 | 20=>101 | 21=>102 | 22=>103 | 23=>104 | 24=>105 | 25=>106 | 26=>107 | 27=>108 | 46=>132 | 47=>133 | 48=>134 | 49=>135 | 50=>136 | 57=>146 | n=>n,fun | 22=>27 | 24=>41 | 25=>111 | 3=>3 | 39=>159 | 0=>0 | 53=>195 | 55=>44 | 4=>4 | 46=>189 | 45=>188 | 50=>182 | 5=>5 | 9=>9 | 66=>208 | 70=>212 | 76=>223 | 77=>224 | n=>n,fun | n=>n⟩
theorem Tryz.sortR:Go.Proofs.SlLaysF0.n6 Tryz.prog Tryz.sortR_ren:={
 mixed:=by kernel_rfl
 f6:=⟨Tryz.f39.name,by decide,Tryz.func39.trans (congrArg some (by kernel_rfl))⟩
 f14:=⟨Tryz.f59.name,by decide,Tryz.func59.trans (congrArg some (by kernel_rfl))⟩
 f15:=Tryz.func60.trans (congrArg some (by kernel_rfl))
 f20:=⟨Tryz.f101.name,by decide,Tryz.func101.trans (congrArg some (by kernel_rfl))⟩
 f21:=⟨Tryz.f102.name,by decide,Tryz.func102.trans (congrArg some (by kernel_rfl))⟩
 f22:=⟨Tryz.f103.name,by decide,Tryz.func103.trans (congrArg some (by kernel_rfl))⟩
 f23:=⟨Tryz.f104.name,by decide,Tryz.func104.trans (congrArg some (by kernel_rfl))⟩
 f24:=⟨Tryz.f105.name,by decide,Tryz.func105.trans (congrArg some (by kernel_rfl))⟩
 f25:=⟨Tryz.f106.name,by decide,Tryz.func106.trans (congrArg some (by kernel_rfl))⟩
 f26:=⟨Tryz.f107.name,by decide,Tryz.func107.trans (congrArg some (by kernel_rfl))⟩
 f27:=⟨Tryz.f108.name,by decide,Tryz.func108.trans (congrArg some (by kernel_rfl))⟩
 f28:=Tryz.func109.trans (congrArg some (by kernel_rfl))
 f29:=Tryz.func110.trans (congrArg some (by kernel_rfl))
 f46:=⟨Tryz.f132.name,by decide,Tryz.func132.trans (congrArg some (by kernel_rfl))⟩
 f47:=Tryz.func133.trans (congrArg some (by kernel_rfl))
 f48:=Tryz.func134.trans (congrArg some (by kernel_rfl))
 f49:=⟨Tryz.f135.name,by decide,Tryz.func135.trans (congrArg some (by kernel_rfl))⟩
 f50:=⟨Tryz.f136.name,by decide,Tryz.func136.trans (congrArg some (by kernel_rfl))⟩
 f57:=⟨Tryz.f146.name,by decide,Tryz.func146.trans (congrArg some (by kernel_rfl))⟩
 t0:=Tryz.underlying0
 a0:=Tryz.isAgg0
 z0:=Tryz.sizeOf0
 v0:=Tryz.zeroValue0
 t3:=Tryz.underlying3
 a3:=Tryz.isAgg3
 z3:=Tryz.sizeOf3
 v3:=Tryz.zeroValue3
 t4:=Tryz.underlying4
 a4:=Tryz.isAgg4
 z4:=Tryz.sizeOf4
 v4:=Tryz.zeroValue4
 t5:=Tryz.underlying5
 a5:=Tryz.isAgg5
 z5:=Tryz.sizeOf5
 v5:=Tryz.zeroValue5
 t9:=Tryz.underlying9
 a9:=Tryz.isAgg9
 z9:=Tryz.sizeOf9
 v9:=Tryz.zeroValue9
 t22:=Tryz.underlying27
 a22:=Tryz.isAgg27
 z22:=Tryz.sizeOf27
 v22:=Tryz.zeroValue27
 t25:=Tryz.underlying111
 a25:=Tryz.isAgg111
 z25:=Tryz.sizeOf111
 v25:=Tryz.zeroValue111
 t39:=Tryz.underlying159
 a39:=Tryz.isAgg159
 z39:=Tryz.sizeOf159
 v39:=Tryz.zeroValue159
 t45:=Tryz.underlying188
 a45:=Tryz.isAgg188
 z45:=Tryz.sizeOf188
 v45:=Tryz.zeroValue188
 t46:=Tryz.underlying189
 a46:=Tryz.isAgg189
 z46:=Tryz.sizeOf189
 v46:=Tryz.zeroValue189
 t50:=Tryz.underlying182
 a50:=Tryz.isAgg182
 z50:=Tryz.sizeOf182
 v50:=Tryz.zeroValue182
 t53:=Tryz.underlying195
 a53:=Tryz.isAgg195
 z53:=Tryz.sizeOf195
 v53:=Tryz.zeroValue195
 t55:=Tryz.underlying44
 a55:=Tryz.isAgg44
 z55:=Tryz.sizeOf44
 v55:=Tryz.zeroValue44
 t66:=Tryz.underlying208
 a66:=Tryz.isAgg208
 z66:=Tryz.sizeOf208
 v66:=Tryz.zeroValue208
 t70:=Tryz.underlying212
 a70:=Tryz.isAgg212
 z70:=Tryz.sizeOf212
 v70:=Tryz.zeroValue212
 t76:=Tryz.underlying223
 a76:=Tryz.isAgg223
 z76:=Tryz.sizeOf223
 v76:=Tryz.zeroValue223
 t77:=Tryz.underlying224
 a77:=Tryz.isAgg224
 z77:=Tryz.sizeOf224
 v77:=Tryz.zeroValue224 }
end Go.Proofs
namespace Go.Proofs.YtkjoolaahocgdaaGreat
open Go.Av Go.Proofs
set_option maxRecDepth 20000
def GM (x:Pl4):Nat:=((x.1.1.val * 128+x.1.2.val) * 64+x.2.1.val) * 128+x.2.2.val
theorem y6 (x y:Pl4):ltOf AA x y=decide (GM x < GM y):=by
 unfold ltOf
 rw[decide_eq_decide]
 obtain⟨⟨⟨a,ha⟩,⟨b,hb⟩⟩,⟨⟨c,hc⟩,⟨d,hd⟩⟩⟩:=x
 obtain⟨⟨⟨a',ha'⟩,⟨b',hb'⟩⟩,⟨⟨c',hc'⟩,⟨d',hd'⟩⟩⟩:=y
 simp only[AA,yO,GM,pIn,Fin.mk.injEq]
 split
 ·split
  ·omega
  ·split<;>omega
 ·split<;>omega
theorem L3 {x y:Pl4} (h:GM x=GM y):x=y:=by
 obtain⟨⟨⟨a,ha⟩,⟨b,hb⟩⟩,⟨⟨c,hc⟩,⟨d,hd⟩⟩⟩:=x
 obtain⟨⟨⟨a',ha'⟩,⟨b',hb'⟩⟩,⟨⟨c',hc'⟩,⟨d',hd'⟩⟩⟩:=y
 simp only[GM] at h
 simp only[pIn,Fin.mk.injEq]
 omega
theorem swo4:Go.Sort.SWO (ltOf AA) where
 irrefl x:=by rw[y6]; simp
 trans x y z h1 h2:=by rw[y6] at *; simp at *; omega
 ntrans x y z h1 h2:=by rw[y6] at *; simp at *; omega
theorem tot4 (x y:Pl4) (h1:ltOf AA x y=false) (h2:ltOf AA y x=false):x=y:=by
 rw[y6] at *
 simp at h1 h2
 exact L3 (by omega)
def raR (x:Pl4):List AV:=(raE x).map .sc
instance (x:Pl4):PR (raR x):=⟨fun a ha=>by
 obtain⟨v,_,rfl⟩:=List.mem_map.1 ha
 exact .sc _⟩
theorem FY (x y:Pl4):aD Tryz.prog 40 [.agg ((raE x).map .sc),.agg ((raE y).map .sc)] (.sc (.int .i64 (AA x y))):=by
 obtain⟨⟨⟨a,ha⟩,⟨b,hb⟩⟩,⟨⟨c,hc⟩,⟨d,hd⟩⟩⟩:=x
 obtain⟨⟨⟨a',ha'⟩,⟨b',hb'⟩⟩,⟨⟨c',hc'⟩,⟨d',hd'⟩⟩⟩:=y
 have:=NM a b c d a' b' c' d' (by omega) (by omega) (by omega) (by omega) (by omega) (by omega) (by omega) (by omega)
 simp only[AA,pIn,Fin.mk.injEq]
 exact this
def nB (l:List Pl4):List Pl4:=l.mergeSort fun x y=>!(ltOf AA) y x
theorem KW (l:List Pl4) (hl:l.length < 4611686018427387904):
  aQ Tryz.prog 39 [.hsl 0 0 0 l.length,fT 40] [[.cells 4 (l.map raR)]] fun res H'=>res=.tup []∧H'=[[.cells 4 ((nB l).map raR)]]:=
 aQ.sortFunc Tryz.sortR 4 Tryz.isAgg41 Tryz.sizeOf41 raE (fun _=>rfl) (fun x v hv=>by
  obtain⟨n,_,rfl⟩:=List.mem_map.1 hv
  rfl) AA swo4 tot4 40 (fun args w=>fY (FY default default).1 args w) ⟨_,Tryz.func39,by kernel_rfl,rfl⟩ FY l hl
end Go.Proofs.YtkjoolaahocgdaaGreat
namespace Go.Proofs.YtkjoolaahocgdaaGreat
open Go.Av Go.Proofs
set_option maxRecDepth 20000
def exP (k:Int):Bool:=decide (k=2∨k=6)
theorem MW (x:Act):aD Tryz.prog 58 [.agg (aJ x)] (.sc (.bool (exP x.k))):=by
 refine aD.mkI cF58 (nlB rfl) ?_
 obtain⟨k,r,a,o,v,w,g⟩:=x
 unfold aJ exP
 dsimp only
 by_cases h:k=2
 ·subst h
  refine aA ?_
  exact aW.w
 ·have e1:(k == 2)=false:=by simp[h]
  by_cases h2:k=6
  ·subst h2
   refine aA ?_
   exact aW.w
  ·have e2:(k == 6)=false:=by simp[h2]
   refine aA ?_
   rw[e1]
   refine aA ?_
   rw[e2]
   rw[show decide (k=2∨k=6)=false by simp[h,h2]]
   refine aA ?_
   exact aW.w
def I3 (x y:Act):Bool:=!(exP x.k && exP y.k) && !(decide (x.k=3) && decide (y.k=3) && decide (x.o=y.o))
theorem NL (x y:Act):aD Tryz.prog 38 [.agg (aJ x),.agg (aJ y)] (.sc (.bool (I3 x y))):=by
 refine aD.mkI cF38 (nlB rfl) ?_
 have h1:=MW x
 have h2:=MW y
 unfold I3
 generalize exP x.k=b1 at *
 generalize exP y.k=b2 at *
 obtain⟨k,r,a,o,v,w,g⟩:=x
 obtain⟨k',r',a',o',v',w',g'⟩:=y
 unfold aJ at *
 dsimp only at *
 refine AWP.seq ?_
 refine AWP.region ?_
 refine bI ?_
 refine AWP.seq ?_
 refine AWP.region ?_
 refine bI ?_
 refine AWP.seq ?_
 refine AWP.region ?_
 refine Reg.fn (f:=58) 5 rfl ?_
 refine bI ?_
 cases b1 with
 | false=>
  refine aA ?_
  by_cases hk:k=3
  ·subst hk
   refine aA ?_
   by_cases hk':k'=3
   ·subst hk'
    refine aA ?_
    by_cases ho:o=o'
    ·subst ho
     refine aA ?_
     rw[show(o == o)=true by simp,show decide (o=o)=true by simp]
     refine aA ?_
     exact aW.w
    ·refine aA ?_
     rw[show(o == o')=false by simp[ho],dFa ho]
     refine aA ?_
     exact aW.w
   ·have e1:(k' == 3)=false:=by simp[hk']
    rw[dFa hk']
    refine aA ?_
    rw[e1]
    refine aA ?_
    exact aW.w
  ·have e1:(k == 3)=false:=by simp[hk]
   rw[dFa hk]
   refine aA ?_
   rw[e1]
   refine aA ?_
   exact aW.w
 | true=>
  cases b2 with
  | true=>
   refine aA ?_
   exact aW.w
  | false=>
   refine aA ?_
   by_cases hk:k=3
   ·subst hk
    refine aA ?_
    by_cases hk':k'=3
    ·subst hk'
     refine aA ?_
     by_cases ho:o=o'
     ·subst ho
      refine aA ?_
      rw[show(o == o)=true by simp,show decide (o=o)=true by simp]
      refine aA ?_
      exact aW.w
     ·refine aA ?_
      rw[show(o == o')=false by simp[ho],dFa ho]
      refine aA ?_
      exact aW.w
    ·have e1:(k' == 3)=false:=by simp[hk']
     rw[dFa hk']
     refine aA ?_
     rw[e1]
     refine aA ?_
     exact aW.w
   ·have e1:(k == 3)=false:=by simp[hk]
    rw[dFa hk]
    refine aA ?_
    rw[e1]
    refine aA ?_
    exact aW.w
def pC (ls:List Ln) (a:Pl):Nat:=match ls[a.1]? with
 | some L=>((cS a.2 L.acc).map (·.d)).getD 0
 | none=>0
def updB (x y:Act) (a b:Pl):Bool:=decide (a.1=b.1) && decide (a.2 < b.2) && gS x.k && gS y.k
def AM (ls:List Ln) (o:Ord) (x y:Act) (a b:Pl):Bool:=updB x y a b || decide (pC ls a < (dY o b.1 b.2).getD a.1 0)
set_option maxHeartbeats 8000000 in
theorem KI {p:Pg} {ls:List Ln} (hC:d9 p ls) {o:Ord} (hO:OOK p ls.length o) {a b:Pl} {la lb:List Act} {x y:Act} (ha:p.acts[a.1]?=some la) (hx:la[a.2]?=some x) (hb:p.acts[b.1]?=some lb) (hy:lb[b.2]?=some y):
  aD Tryz.prog 36 [plN a.1 a.2,plN b.1 b.2,.cptr [ckV p ls],.cptr [xG ls.length o]] (.sc (.bool (AM ls o x y a b))):=by
 refine aD.mkI cF36 (nlB rfl) ?_
 have h1:=jX p ls ha hx
 have h2:=jX p ls hb hy
 obtain⟨La,hLa,hOa⟩:=hC.get ha
 obtain⟨Lb,hLb,hOb⟩:=hC.get hb
 have hxa:=hOa.act _ x hx
 have hya:=hOb.act _ y hy
 have f1:=gU hxa.k1 hxa.k16
 have f2:=gU hya.k1 hya.k16
 unfold jI at f1 f2
 have u1:gS ((x.k.toNat:Nat):Int)=gS x.k:=by rw[show((x.k.toNat:Nat):Int)=x.k by have:=hxa.k1; omega]
 have u2:gS ((y.k.toNat:Nat):Int)=gS y.k:=by rw[show((y.k.toNat:Nat):Int)=y.k by have:=hya.k1; omega]
 rw[u1] at f1
 rw[u2] at f2
 have hlk:=kH a.2 La.acc
 unfold AM updB
 unfold aJ at h1 h2
 unfold ckV plN at *
 generalize gS x.k=c1 at *
 generalize gS y.k=c2 at *
 obtain⟨a,i⟩:=a
 obtain⟨b,j⟩:=b
 dsimp only at *
 have hn:=hC.len
 have hr1:=dD hLa
 unfold lnR epR at hr1
 have hba:=(gEs.1 hb).1
 have haa:=(gEs.1 ha).1
 have hjl:=(gEs.1 hy).1
 have hlb:=dP hb
 have hn64:=hC.n64
 have hr2:eB (row1 ls.length fun b=>AV.list 64 ((cU o b).map knR)) (b:Int)=some [.list 64 ((cU o b).map knR)]:=by
  rw[mD,eZ (by omega)]
 have hr3:eB ((cU o b).map knR) (j:Int)=some (knR (dY o b j)):=by
  have:=hO.rows b (by omega)
  rw[mD,List.getElem?_map,gEg (by omega)]
  unfold dY
  rw[List.getD_eq_getElem?_getD,gEg (by omega)]
  rfl
 have hrl:(dY o b j).length=64:=hO.row b j (by omega) (by omega)
 have hr4:=vL (k:=dY o b j) (b:=a) (by omega)
 have hdr:(knR (dY o b j)).drop (a * 1)=.sc (.int .i64 ((dY o b j).getD a 0:Int))::(knR (dY o b j)).drop (a * 1+1):=by
  have h5:=(jC (dY o b j)).trans hrl
  rw[Nat.mul_one,List.drop_eq_getElem_cons (by omega)]
  congr 1
  have:=(gEs.1 hr4).2
  exact this
 have h64:a < 64:=by omega
 unfold xG
 have hdn:∃ v:AV,(∃ x0 x1:AV,v=.agg [x0,x1,.sc (.int .i64 (pC ls (a,i):Int))])∧∀(g k:Nat) (fr:Fr) (H:Heap) (x ix:Operand),ev fr x=.tmap (tX La.acc)→ev fr ix=.sc (.int .i64 (i:Int))→aH g k (.lookup (.agg [.sc (.int .i64 0),.sc (.int .i64 0),.sc (.int .i64 0)]) .i64 x ix false) fr H=some (v,H):=by
  unfold pC
  simp only[hLa]
  cases hL:cS i La.acc with
  | none=>
   rw[hL] at hlk
   exact⟨_,⟨_,_,rfl⟩,fun g k fr H x ix h1 h2=>bS h1 h2 hlk⟩
  | some c=>
   rw[hL] at hlk
   exact⟨_,⟨_,_,rfl⟩,fun g k fr H x ix h1 h2=>bS h1 h2 hlk⟩
 obtain⟨v,⟨x0,x1,rfl⟩,hdn⟩:=hdn
 generalize pC ls (a,i)=dn at *
 refine aA ?_
 generalize decide (a=b)=d1 at *
 cases d1 with
 | false=>
  refine aA ?_
  refine DK.nil ⟨by kernel_rfl,?_⟩
  refine aA ?_
  refine DK.o rfl (hdn _ _ _ _ _ _ rfl rfl) ?_
  refine aA ?_
  first
   | refine DK.o rfl (fL rfl hdr) ?_
   | (refine DK.o rfl (jA rfl rfl rfl h64) ?_; refine DK.o rfl (fL rfl hdr) ?_)
  refine aA ?_
  refine DK.nil ⟨by kernel_rfl,?_⟩
  refine aA ?_
  exact aW.w
 | true=>
  refine aA ?_
  generalize decide (i < j)=d2 at *
  cases d2 with
  | false=>
   refine aA ?_
   refine DK.nil ⟨by kernel_rfl,?_⟩
   refine aA ?_
   refine DK.o rfl (hdn _ _ _ _ _ _ rfl rfl) ?_
   refine aA ?_
   first
    | refine DK.o rfl (fL rfl hdr) ?_
    | (refine DK.o rfl (jA rfl rfl rfl h64) ?_; refine DK.o rfl (fL rfl hdr) ?_)
   refine aA ?_
   refine DK.nil ⟨by kernel_rfl,?_⟩
   refine aA ?_
   exact aW.w
  | true=>
   refine aA ?_
   refine DK.o rfl (bS rfl rfl f1) ?_
   refine aA ?_
   cases c1 with
   | false=>
    refine aA ?_
    refine DK.nil ⟨by kernel_rfl,?_⟩
    refine aA ?_
    refine DK.o rfl (hdn _ _ _ _ _ _ rfl rfl) ?_
    refine aA ?_
    first
     | refine DK.o rfl (fL rfl hdr) ?_
     | (refine DK.o rfl (jA rfl rfl rfl h64) ?_; refine DK.o rfl (fL rfl hdr) ?_)
    refine aA ?_
    refine DK.nil ⟨by kernel_rfl,?_⟩
    refine aA ?_
    exact aW.w
   | true=>
    refine aA ?_
    refine DK.o rfl (bS rfl rfl f2) ?_
    refine aA ?_
    cases c2 with
    | false=>
     refine aA ?_
     refine DK.nil ⟨by kernel_rfl,?_⟩
     refine aA ?_
     refine DK.o rfl (hdn _ _ _ _ _ _ rfl rfl) ?_
     refine aA ?_
     first
      | refine DK.o rfl (fL rfl hdr) ?_
      | (refine DK.o rfl (jA rfl rfl rfl h64) ?_; refine DK.o rfl (fL rfl hdr) ?_)
     refine aA ?_
     refine DK.nil ⟨by kernel_rfl,?_⟩
     refine aA ?_
     exact aW.w
    | true=>
     refine aA ?_
     refine DK.nil ⟨by kernel_rfl,?_⟩
     refine aA ?_
     exact aW.w
def pW (ls:List Ln) (x:Pl):Option Ac:=match ls[x.1]? with
 | some L=>cS x.2 L.acc
 | none=>none
def act0:Act:=⟨0,0,0,0,0,0,[]⟩
def jS (p:Pg) (x:Pl):Act:=(((p.acts[x.1]?).getD [])[x.2]?).getD act0
def nV (p:Pg) (ls:List Ln) (o:Ord) (y x:Pl):Bool:=match pW ls y,pW ls x with
 | some c,some d=>decide (c.r=d.r) && decide (c.a=d.a) && I3 (jS p y) (jS p x) && !AM ls o (jS p y) (jS p x) y x && !AM ls o (jS p x) (jS p y) x y
 | _,_=>false
def mk4 (y x:Pl):Pl4:=((Fin.ofNat 64 y.1,Fin.ofNat 128 y.2),(Fin.ofNat 64 x.1,Fin.ofNat 128 x.2))
theorem LU {y x:Pl} (h1:y.1 < 64) (h2:y.2 < 128) (h3:x.1 < 64) (h4:x.2 < 128):raR (mk4 y x)=[.sc (.int .i64 (y.1:Int)),.sc (.int .i64 (y.2:Int)),.sc (.int .i64 (x.1:Int)),.sc (.int .i64 (x.2:Int))]:=by
 unfold raR raE raI mk4
 simp only[Fin.ofNat,Nat.mod_eq_of_lt h1,Nat.mod_eq_of_lt h2,Nat.mod_eq_of_lt h3,Nat.mod_eq_of_lt h4]
 rfl
abbrev RS:=List Pl×List Pl4
def lX (p:Pg) (ls:List Ln) (o:Ord) (r:Nat) (s:RS) (i:Nat):RS:=match pW ls (r,i) with
 | none=>s
 | some _=>(s.1++[(r,i)],s.2++(s.1.filter fun y=>nV p ls o y (r,i)).map fun y=>mk4 y (r,i))
def E5 (p:Pg) (ls:List Ln) (o:Ord) (s:RS) (r:Nat):RS:=(List.range (cI p r)).foldl (lX p ls o r) s
def g8 (p:Pg) (ls:List Ln) (o:Ord):RS:=(List.range p.acts.length).foldl (E5 p ls o) ([],[])
def qC (p:Pg) (ls:List Ln) (o:Ord):List Pl4:=nB (g8 p ls o).2
def sJ (p:Pg) (ls:List Ln) (s:List Pl):Prop:=∀ x∈s,x.1 < p.acts.length∧x.2 < cI p x.1∧(pW ls x).isSome
theorem sJ.step {p:Pg} {ls:List Ln} {o:Ord} {s:RS} (h:sJ p ls s.1) {r i:Nat} (hr:r < p.acts.length) (hi:i < cI p r):sJ p ls (lX p ls o r s i).1:=by
 unfold lX
 split
 ·exact h
 ·rename_i c hc
  intro x hx
  rcases List.mem_append.1 hx with hx | hx
  ·exact h x hx
  ·rw[List.mem_singleton.1 hx]
   exact⟨hr,hi,by rw[hc]; rfl⟩
theorem G3 {p:Pg} {ls:List Ln} {o:Ord} {s:RS} {r i:Nat}:(lX p ls o r s i).1.length≤s.1.length+1∧(lX p ls o r s i).2.length≤s.2.length+s.1.length:=by
 unfold lX
 split
 ·omega
 ·refine⟨by simp,?_⟩
  rw[List.length_append,List.length_map]
  have:=List.length_filter_le (fun y=>nV p ls o y (r,i)) s.1
  omega
def nZ (p:Pg):AV:=if (bP p).1.2=0 then .tup [.list 4 ((qC p (bP p).2 (kZ (bP p).2.length p (bP p).2)).map raR),.sc (.int .i64 0)] else .tup [.list 4 [],.sc (.int .i64 (bP p).1.2)]
instance:PRs ([]:List (List AV)):=⟨fun r h=>by cases h⟩
instance (l:List Pl4):PRs (l.map raR):=inferInstance
instance (p:Pg):PV (nZ p):=by unfold nZ; split<;>infer_instance
def rcF (p:Pg) (ls:List Ln) (o:Ord) (r:Nat) (s:RS):Fr:=[(1,.cptr [.sc (.int .i64 p.cells),.list 1 (bY p.acts)]),(4,.cptr [ckV p ls]),(8,.clo (.func 36) [] [.cptr [ckV p ls],.cptr [xG ls.length o]]),(9,.hsl 0 0 0 s.1.length),(10,.hsl 1 0 0 s.2.length),(33,.list 1 (bY p.acts)),(34,.sc (.int .i64 (p.acts.length:Int))),(35,.sc (.int .i64 (r:Int)))]
def rcH (s:RS):Heap:=[[.cells 2 (j7 s.1)],[.cells 4 (s.2.map raR)]]
def wX (s:RS) (m:Nat):Prop:=s.1.length≤m∧s.2.length≤m * m
theorem wX.step {p:Pg} {ls:List Ln} {o:Ord} {s:RS} {m r i:Nat} (h:wX s m):wX (lX p ls o r s i) (m+1):=by
 have h3:=G3 (p:=p) (ls:=ls) (o:=o) (s:=s) (r:=r) (i:=i)
 obtain⟨h1,h2⟩:=h
 have e:(m+1) * (m+1)=m * m+m+m+1:=by rw[Nat.add_mul,Nat.mul_add]; omega
 exact⟨by omega,by omega⟩
theorem wX.mono {s:RS} {m n:Nat} (h:wX s m) (hn:m≤n):wX s n:=⟨Nat.le_trans h.1 hn,Nat.le_trans h.2 (Nat.mul_le_mul hn hn)⟩
theorem wX.big {s:RS} {m:Nat} (h:wX s m) (hm:m≤6500):s.1.length≤6500∧s.2.length≤42250000:=⟨Nat.le_trans h.1 hm,Nat.le_trans h.2 (Nat.mul_le_mul hm hm)⟩
theorem aQ.fn {P:Program} {f:FuncId} {a:AV} {g:FuncId} {H:Heap} {R:AV→Heap→Prop} (h:aQ P f [a,.clo (.func g) [] []] H R):aQ P f [a,.sc (.func (.func g) #[] #[])] H R:=
 ⟨h.1,fun M J w cargs hl hr hH hM=>h.2 M J w cargs (by simpa using hl) (fun j c v hc hv=>by
  match j,hc with
  | 0,hc=>exact hr 0 c v hc hv
  | 1,hc=>
   have hc:some (AV.clo (.func g) [] [])=some c:=hc
   injection hc with hc
   subst hc
   exact Le.func g M J v (hr 1 _ v rfl hv)
  | j+2,hc=>simp at hc) hH hM⟩
def nK (p:Pg) (ls:List Ln) (o:Ord) (t:RS) (x:Pl) (k:Nat):List Pl4:=t.2++((t.1.take k).filter fun y=>nV p ls o y x).map fun y=>mk4 y x
def rcK (p:Pg) (ls:List Ln) (o:Ord) (r i:Nat) (l:List Act) (d:Ac) (seen:List Pl) (k:Nat) (out:List Pl4):Fr:=(14,.cptr (plR (r,i)))::(15,.cptr (acR d))::(63,.hsl 0 0 0 seen.length)::(64,.sc (.int .i64 (seen.length:Int)))::(65,.sc (.int .i64 (k:Int)))::(11,.sc (.int .i64 (r:Int)))::(12,.list 7 (aU l))::(41,.sc (.int .i64 (l.length:Int)))::(42,.sc (.int .i64 (i:Int)))::rcF p ls o r (seen,out)
set_option maxHeartbeats 16000000 in
theorem OK (p:Pg) (ls:List Ln) (hC:d9 p ls) (o:Ord) (hO:OOK p ls.length o) {r i:Nat} {l:List Act} {L:Ln} {d:Ac} (t:RS) (k:Nat) (h4:k < t.1.length) (hse:sJ p ls t.1) (hbig:t.1.length≤6500∧t.2.length≤42250000) (hra:p.acts[r]?=some l) (h3:i < l.length) (hL:ls[r]?=some L) (hL2:cS i L.acc=some d) (Q:Exit→Fr→Heap→Prop):
  AWP Tryz.prog F15.n 0 (aG [1,1,1,1,1,1,1,0,1,0,0,1,1,0,0,1,1,0,0,1,1,0,0,1,1,1,1,0,1,0,0,1,1,0] F15.code) (gG (fun fr H=>Sub 0 F15.n fr H (rcK p ls o r i l d t.1 k (nK p ls o t (r,i) (k+1))) (rcH (t.1,nK p ls o t (r,i) (k+1)))) Q)
   (rcK p ls o r i l d t.1 k (nK p ls o t (r,i) k)) (rcH (t.1,nK p ls o t (r,i) k)):=by
 show AWP _ _ _ (.block _ _) _ _ _
 have hn:=hC.len
 have hn64:=hC.n64
 have e1:=iN p.acts
 have ep:=fQ t.1
 have ha1:=jX p ls hra (gEg h3)
 have hy:=hse t.1[k] (List.getElem_mem h4)
 have hp1:=zD t.1 k h4
 have hok:nK p ls o t (r,i) (k+1)=nK p ls o t (r,i) k++if nV p ls o t.1[k] (r,i)=true then[mk4 t.1[k] (r,i)] else[]:=by
  unfold nK
  rw[List.take_succ_eq_append_getElem h4,List.filter_append,List.map_append,List.append_assoc]
  congr 2
  by_cases h:nV p ls o t.1[k] (r,i)=true
  ·rw[if_pos h]; simp[h]
  ·rw[if_neg h]; simp[h]
 have hol:(nK p ls o t (r,i) k).length≤42256500:=by
  unfold nK
  rw[List.length_append,List.length_map]
  have h1:=List.length_filter_le (fun y=>nV p ls o y (r,i)) (t.1.take k)
  rw[List.length_take] at h1
  omega
 rw[hok]
 generalize nK p ls o t (r,i) k=out at *
 generalize t.1[k]=y at *
 obtain⟨a,j⟩:=y
 obtain⟨y1,y2,y3⟩:=hy
 dsimp only at y1 y2 y3
 have hra2:=gEg y1
 have hlen2:=dP hra2
 obtain⟨L2,hL2',hO2⟩:=hC.get hra2
 generalize p.acts[a]=l2 at *
 have hx2:=gEg (show j < l2.length by omega)
 have ha2:=jX p ls hra2 hx2
 have hr2:=dD hL2'
 unfold lnR epR at hr2
 have hac2:pW ls (a,j)=cS j L2.acc:=by unfold pW; simp only[hL2']
 have hac1:pW ls (r,i)=some d:=by unfold pW; simp only[hL]; exact hL2
 obtain⟨c,hc2⟩:=Option.isSome_iff_exists.1 y3
 have hac3:=hc2
 rw[hac2] at hc2
 have hlk2:=kH j L2.acc
 rw[hc2] at hlk2
 have hap1:jS p (r,i)=l[i]:=by unfold jS; simp only[hra]; simp[h3]
 have hap2:jS p (a,j)=l2[j]:=by unfold jS; simp only[hra2]; simp[show j < l2.length by omega]
 have hrb:nV p ls o (a,j) (r,i)=(decide (c.r=d.r) && decide (c.a=d.a) && I3 l2[j] l[i] && !AM ls o l2[j] l[i] (a,j) (r,i) && !AM ls o l[i] l2[j] (r,i) (a,j)):=by
  unfold nV
  rw[hac1,hac3,hap1,hap2]
 rw[hrb]
 have hcf:=NL l2[j] l[i]
 have hb1:=KI hC hO (a:=(a,j)) (b:=(r,i)) hra2 hx2 hra (gEg h3)
 have hb2:=KI hC hO (a:=(r,i)) (b:=(a,j)) hra (gEg h3) hra2 hx2
 generalize I3 l2[j] l[i]=q1 at *
 generalize AM ls o l2[j] l[i] (a,j) (r,i)=q2 at *
 generalize AM ls o l[i] l2[j] (r,i) (a,j)=q3 at *
 generalize l2[j]=x2 at *
 generalize l[i]=x1 at *
 have hd1:(c.r == d.r)=decide (c.r=d.r):=by rw[Bool.eq_iff_iff]; simp
 have hd2:(c.a == d.a)=decide (c.a=d.a):=by rw[Bool.eq_iff_iff]; simp
 dsimp only at hb1 hb2 ⊢
 unfold ckV plN at *
 unfold aJ at ha1 ha2 hcf
 unfold rcK rcF rcH plR acR
 refine aA ?_
 refine DK.o rfl (bS rfl rfl hlk2) ?_
 refine aA ?_
 refine DK.nil ⟨by kernel_rfl,?_⟩
 unfold acR
 refine aA ?_
 rw[hd1]
 generalize decide (c.r=d.r)=g1 at *
 cases g1 with
 | false=>
  refine aA ?_
  refine DK.nil ⟨by kernel_rfl,?_⟩
  refine aA ?_
  rw[if_neg (by simp),List.append_nil]
  exact Sub.w [] [[(0,0)],[(1,0)]]
 | true=>
  refine aA ?_
  rw[hd2]
  generalize decide (c.a=d.a)=g2 at *
  cases g2 with
  | false=>
   refine aA ?_
   refine DK.nil ⟨by kernel_rfl,?_⟩
   refine aA ?_
   rw[if_neg (by simp),List.append_nil]
   exact Sub.w [] [[(0,0)],[(1,0)]]
  | true=>
   refine aA ?_
   cases q1 with
   | false=>
    refine aA ?_
    refine DK.nil ⟨by kernel_rfl,?_⟩
    refine aA ?_
    rw[if_neg (by simp),List.append_nil]
    exact Sub.w [] [[(0,0)],[(1,0)]]
   | true=>
    refine aA ?_
    refine DK.cv rfl rfl hb1 ?_
    refine aA ?_
    cases q2 with
    | true=>
     refine aA ?_
     refine DK.nil ⟨by kernel_rfl,?_⟩
     refine aA ?_
     rw[if_neg (by simp),List.append_nil]
     exact Sub.w [] [[(0,0)],[(1,0)]]
    | false=>
     refine aA ?_
     refine DK.cv rfl rfl hb2 ?_
     refine aA ?_
     cases q3 with
     | true=>
      refine aA ?_
      refine DK.nil ⟨by kernel_rfl,?_⟩
      refine aA ?_
      rw[if_neg (by simp),List.append_nil]
      exact Sub.w [] [[(0,0)],[(1,0)]]
     | false=>
      refine aA ?_
      refine DK.nil ⟨by kernel_rfl,?_⟩
      refine aA ?_
      rw[if_pos (by simp)]
      have hmr:=LU (y:=(a,j)) (x:=(r,i)) (by show a < 64; omega) (by have:=hO2.len; show j < 128; omega) (by have:=(gEs.1 hra).1; show r < 64; omega) (by have:=(hC.ln _ _ _ hra hL).len; show i < 128; omega)
      dsimp only
      rw[List.map_append,List.length_append]
      show Sub _ _ _ _ _ [_,[.cells 4 (out.map raR++[raR (mk4 (a,j) (r,i))])]]
      rw[hmr]
      exact Sub.w [] [[(0,0)],[(6,0)]]
end Go.Proofs.YtkjoolaahocgdaaGreat
