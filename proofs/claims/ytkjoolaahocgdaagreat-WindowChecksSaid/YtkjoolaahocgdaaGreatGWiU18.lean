import Derived.Test.YtkjoolaahocgdaaGreatGWiU9c
import Derived.Test.YtkjoolaahocgdaaGreatGAvL2
import Derived.Test.YtkjoolaahocgdaaGreatGAvSo
import Derived.Test.YtkjoolaahocgdaaGreatGWiU4
import Derived.Test.YtkjoolaahocgdaaGreatGAvB5
namespace Go.Proofs.YtkjoolaahocgdaaGreat
open Go.Av Go.Proofs
set_option maxRecDepth 20000
theorem memAt_effS1 (s:St) (r i b c:Nat) (x:Act) (j:Nat):memAt (effS1 s r i b c x) j=memAt s j:=by
 unfold effS1
 split<;>rfl
theorem mem_effS1 (s:St) (r i b c:Nat) (x:Act):(effS1 s r i b c x).mem=s.mem:=by
 unfold effS1
 split<;>rfl
theorem effP_eq {p:Pg} {ls:List Ln} {s:St} {r i:Nat} {x:Act} {b c d:Nat} (hap:actP p (r,i)=x) (hac:acN ls (r,i)=⟨b,c,d⟩):effP p ls s (r,i)=effS2 (effS1 s r i b c x) b c (accV x ((memAt (effS1 s r i b c x) b).getD c 0)):=by
 unfold effP effS2
 rw[hap,hac,memAt_effS1]
 rfl
theorem eff_at (p:Pg) (ls:List Ln) (s:St) (hC:CkOK p ls) {r i:Nat} {l:List Act} {x:Act} {b c d:Nat} (hra:p.acts[r]?=some l) (hx:l[i]?=some x) (hac:acN ls (r,i)=⟨b,c,d⟩) (hb:b < ls.length) (hc:c < (memAt s b).length)
  (hpl:s.ps.length=ls.length) (hml:s.mem.length=ls.length) (hk1:1≤x.k) (hk2:x.k≤7) (hop:x.k=3∨x.k=4→checkE x.o 1=0)
  (B:Nat→Nat×Nat) (F4:List Blk) (hB:∀ j,j < ls.length→B j=(4,j)) (hF:SelfF ls.length F4):
  CallOK Tryz.prog 71 [.ptr 0 0 0 0,.agg (plR (r,i))] (worldG p ls (s) B F4) fun res H'=>res=.tup []∧H'=worldG p ls (effP p ls s (r,i)) B F4:=by
 have hlen:=(gEs.1 hra).1
 have hrl:r < ls.length:=by have:=hC.len; omega
 rw[effP_eq (actP_get hra hx) hac]
 refine CallOK.of cF71 ?_ (nlB rfl)
 refine effA p ls s hC hra hx hac hb hc B F4  hB hF _ ?_
 refine AWP.seq ?_
 refine AWP.joinT0 _ _ (effB p ls s x hrl hpl hk1 (by omega) hb hc B F4  hB hF _) ?_
 exact effC p ls (effS1 s r i b c x) x (by rw[mem_effS1]; exact hml) hk1 hk2 hop hb (by rw[memAt_effS1]; exact hc) B F4  hB hF
theorem eff_atX (p:Pg) (ls:List Ln) (s:St) (hC:CkOK p ls) {r i:Nat} {l:List Act} {x:Act} {b c d:Nat} (hra:p.acts[r]?=some l) (hx:l[i]?=some x) (hac:acN ls (r,i)=⟨b,c,d⟩) (hb:b < ls.length) (hc:c < (memAt s b).length)
  (hpl:s.ps.length=ls.length) (hml:s.mem.length=ls.length) (hk1:1≤x.k) (hk2:x.k≤7) (hop:x.k=3∨x.k=4→checkE x.o 1=0)
  (B:Nat→Nat×Nat) (F4:List Blk) {y:List (List AV)} (hy:∀ r∈y,∀ c∈r,Pure c) (hB:∀ j,j < ls.length→(B j=(4,j)∨B j=(8,0))) (hF:SelfF ls.length F4):
  CallOK Tryz.prog 71 [.ptr 0 0 0 0,.agg (plR (r,i))] (worldG p ls (s) B F4++[[.cells 1 y]]) fun res H'=>res=.tup []∧H'=worldG p ls (effP p ls s (r,i)) B F4++[[.cells 1 y]]:=by
 have hlen:=(gEs.1 hra).1
 have hrl:r < ls.length:=by have:=hC.len; omega
 rw[effP_eq (actP_get hra hx) hac]
 refine CallOK.of cF71 ?_ (nlB rfl)
 refine effAX p ls s hC hra hx hac hb hc B F4 hy hB hF _ ?_
 refine AWP.seq ?_
 refine AWP.joinT0 _ _ (effBX p ls s x hrl hpl hk1 (by omega) hb hc B F4 hy hB hF _) ?_
 exact effCX p ls (effS1 s r i b c x) x (by rw[mem_effS1]; exact hml) hk1 hk2 hop hb (by rw[memAt_effS1]; exact hc) B F4 hy hB hF
theorem procsH_setB {n:Nat} {s:St} {b:Nat→Nat×Nat} {r:Nat} {x:Pr} (h:r < s.ps.length):(procsH n s b).set r [.sc (.int .i64 (x.d:Int)),.hsl (b r).1 (b r).2 0 x.q.length,.mref 5 r]=procsH n (setP s r x) b:=by
 rw[procsH_set h]
 congr 1
 funext j
 split
 ·rename_i e; rw[e]
 ·rfl
theorem wSub {p:Pg} {ls:List Ln} {s:St} {k N:Nat} {fr fr':Fr} {b0 b1 b2 b3 b4' b5 b6 b7:List Blk} {X:Heap} (e0:b0=[.cells 5 [boxW p ls s.seed]]) (e1:b1=[.cells 3 (procsH ls.length s b4)]) (e2:b2=[.cells 1 (memH ls.length s)]) (e3:b3=[.cells 1 (heldH ls.length)])
  (e4:b4'=pendF ls.length s) (e5:b5=retF ls.length s) (e6:b6=memF ls.length s) (e7:b7=heldF ls.length s)
  (h5:ToAll (ToT ((b0::b1::b2::b3::b4'::b5::b6::b7::X)++gh []) (b0::b1::b2::b3::b4'::b5::b6::b7::X).length (notK (wKg ls.length (.w 4 ls.length []) []))) (rho (idK (wKg ls.length (.w 4 ls.length []) []))) fr fr') (hk:k≤8:=by exact nlB rfl):
  Sub k N fr (b0::b1::b2::b3::b4'::b5::b6::b7::X) fr' (worldH p ls s):=by
 subst e4
 exact Sub.wg p ls s b4 b4 (pendF ls.length s) [] [] [] [] h5 e0 e1 e2 e3 (fam_len _ _) e5 e6 e7 (pend_same fun i hi=>by subst e0 e1 e2 e3; exact fam_get hi) rho_b4 trivial hk
theorem wEnd {p:Pg} {ls:List Ln} {s:St} {N:Nat} {rs:List IRes} {fr:Fr} {e:Exit} {b0 b1 b2 b3 b4' b5 b6 b7:List Blk} {X:Heap} (e0:b0=[.cells 5 [boxW p ls s.seed]]) (e1:b1=[.cells 3 (procsH ls.length s b4)]) (e2:b2=[.cells 1 (memH ls.length s)]) (e3:b3=[.cells 1 (heldH ls.length)])
  (e4:b4'=pendF ls.length s) (e5:b5=retF ls.length s) (e6:b6=memF ls.length s) (e7:b7=heldF ls.length s) {R:AV→Heap→Prop} (hR:R (.tup []) (worldH p ls s)) (hrs:resOf fr (b0::b1::b2::b3::b4'::b5::b6::b7::X) rs=some (.tup []):=by rfl) (he:e=.normal∨e=.ret:=by first | exact .inr rfl | exact .inl rfl):
  EndQ N 8 rs R e fr (b0::b1::b2::b3::b4'::b5::b6::b7::X):=by
 subst e4
 exact endWg (.tup []) p ls s b4 b4 (pendF ls.length s) [] [] [] hR e0 e1 e2 e3 (fam_len _ _) e5 e6 e7 (pend_same fun i hi=>by subst e0 e1 e2 e3; exact fam_get hi) rho_b4 trivial (he:=he) (hres:=hrs) (hr:=To.tupL ToL.nil)
def stepF (r d:Nat) (x:Act):Fr:=[(0,.ptr 0 0 0 0),(1,.sc (.int .i64 (r:Int))),(4,.cptr (plR (r,d))),(5,.cptr (actR x))]
set_option maxHeartbeats 16000000 in
theorem stepA {p:Pg} {ls:List Ln} {s:St} {r:Nat} {l:List Act} {x:Act} (_:CkOK p ls) (hrl:r < ls.length) (hpl:s.ps.length=ls.length) (hra:p.acts[r]?=some l) (hx:l[(prAt s r).d]?=some x) (hd:(prAt s r).d≤1000000) (Q:Exit→Fr→Heap→Prop)
  (h:AWP Tryz.prog F68.n 8 (pickI [1,1,1] F68.code) Q (stepF r (prAt s r).d x) (worldH p ls (setP s r ⟨(prAt s r).d+1,(prAt s r).q,(prAt s r).g⟩))):AWP Tryz.prog F68.n 8 F68.code Q (argsFr 0 [.ptr 0 0 0 0,.sc (.int .i64 (r:Int))]) (worldH p ls s):=by
 have ha1:=act_ok p ls hra hx
 have hrs:r < s.ps.length:=by omega
 have hp1:=procsH_get (s:=s) (b:=b4) hrl
 have hp1l:=procsH_len ls.length s b4
 obtain⟨d,hde⟩:∃ d,d=(prAt s r).d:=⟨_,rfl⟩
 obtain⟨q,hqe⟩:∃ q,q=(prAt s r).q:=⟨_,rfl⟩
 rw[← hde] at ha1 hd hp1 h
 rw[← hqe] at hp1 h
 have hp2:(procsH ls.length s b4).set r [.sc (.int .i64 ((d+1:Nat):Int)),.hsl 4 r 0 q.length,.mref 5 r]=procsH ls.length (setP s r ⟨d+1,q,(prAt s r).g⟩) b4:=by
  rw[← procsH_setB hrs]
  rfl
 unfold plN actR ckV at ha1
 unfold b4 at hp1
 dsimp only at ha1 hp1
 unfold worldH worldG boxW ckV
 refine walkX ?_
 refine DK.nil ⟨by kernel_rfl,?_⟩
 refine AWP.sub ?_ h
 refine wSub rfl (congrArg (fun z=>[Blk.cells 3 z]) hp2) rfl rfl (pendF_congr fun j _=>?_) (retF_congr fun j _=>?_) rfl rfl ?_
 ·rw[prAt_setP hrs]
  split
  ·rename_i e; rw[e,hqe]
  ·rfl
 ·rw[prAt_setP hrs]
  split
  ·rename_i e; rw[e]
  ·rfl
 ·unfold stepF plR actR
  (all_goals exact tocW)
def WOr (p:Pg) (ls:List Ln) (s:St) (H:Heap):Prop:=H=worldH p ls s∨∃ r,r < ls.length∧H=worldG p ls s (bX r 8) (pendD ls.length s r)++[[.cells 1 (natsR (prAt s r).q)]]
set_option maxHeartbeats 16000000 in
theorem stepRem {p:Pg} {ls:List Ln} {s:St} {r d:Nat} (x:Act) (hrl:r < ls.length) (hpl:s.ps.length=ls.length) (hk1:1≤x.k) (hk2:x.k≤16) (hk:isRem x.k=true) (hq:(prAt s r).q.length≤1000000):
  AWP Tryz.prog F68.n 8 (pickI [1,1,1] F68.code) (EndQ F68.n 8 F68.res fun res H'=>res=.tup []∧WOr p ls (setP s r ⟨(prAt s r).d,(prAt s r).q++[d],(prAt s r).g⟩) H') (stepF r d x) (worldH p ls s):=by
 show AWP _ _ _ (.block _ _) _ _ _
 have hrs:r < s.ps.length:=by omega
 have f1:=formsE_in hk1 hk2
 unfold formR at f1
 have u1:isRem ((x.k.toNat:Nat):Int)=true:=by rw[show((x.k.toNat:Nat):Int)=x.k by omega]; exact hk
 rw[u1] at f1
 have hp1:=procsH_get (s:=s) (b:=b4) hrl
 have hp1l:=procsH_len ls.length s b4
 have hm4:hget (worldH p ls s) 4 r=some (.cells 1 (natsR (prAt s r).q)):=fam_get hrl
 have hql:=natsR_len (prAt s r).q
 unfold b4 at hp1
 dsimp only at hp1
 unfold worldH worldG boxW ckV stepF plR actR
 dsimp only
 refine walkX ?_
 refine DK.o rfl (dstep_lookC rfl rfl f1) ?_
 refine walkX ?_
 refine DK.nil ⟨by kernel_rfl,?_⟩
 refine walkX ?_
 refine DK.o rfl (dstep_app rfl (rows2:=[[.sc (.int .i64 (d:Int))]]) rfl (fam_get hrl) hql (by simp; omega) rfl) ?_
 refine walkX ?_
 refine DK.nil ⟨by kernel_rfl,?_⟩
 refine walkX ?_
 have hs1:=prAt_setP (s:=s) (x:=⟨(prAt s r).d,(prAt s r).q++[d],(prAt s r).g⟩) hrs
 have hp2:(procsH ls.length s b4).set r [.sc (.int .i64 ((prAt s r).d:Int)),.hsl 9 16 0 ((prAt s r).q.length+1),.mref 5 r]=procsH ls.length (setP s r ⟨(prAt s r).d,(prAt s r).q++[d],(prAt s r).g⟩) (fun j=>if j=r then(9,16) else b4 j):=by
  rw[← procsH_set hrs,List.length_append]
  rfl
 have hpd:(pendF ls.length s).set r Blk.dead=pendD ls.length (setP s r ⟨(prAt s r).d,(prAt s r).q++[d],(prAt s r).g⟩) r:=by
  rw[pendF_set]
  refine fam_congr fun j _=>?_
  by_cases e:j=r
  ·rw[if_pos e,if_pos e]
  ·rw[if_neg e,if_neg e,hs1,if_neg e]
 have hret:retF ls.length s=retF ls.length (setP s r ⟨(prAt s r).d,(prAt s r).q++[d],(prAt s r).g⟩):=retF_congr fun j _=>by
  rw[hs1]
  split
  ·rename_i e; rw[e]
  ·rfl
 have hqs:(prAt (setP s r ⟨(prAt s r).d,(prAt s r).q++[d],(prAt s r).g⟩) r).q=(prAt s r).q++[d]:=by rw[hs1,if_pos rfl]
 refine endWg (.tup []) p ls (setP s r ⟨(prAt s r).d,(prAt s r).q++[d],(prAt s r).g⟩) (fun j=>if j=r then(9,16) else b4 j) (bX r 8) (pendD ls.length (setP s r ⟨(prAt s r).d,(prAt s r).q++[d],(prAt s r).g⟩) r) [] [[(9,16)]] [[.cells 1 (natsR (prAt s r).q++[[.sc (.int .i64 (d:Int))]])]]
  ⟨rfl,.inr ⟨r,hrl,by rw[hqs,natsR_snoc]⟩⟩ rfl (congrArg (fun z=>[Blk.cells 3 z]) hp2) rfl rfl (by rw[hpd]; exact fam_len _ _) hret rfl rfl (by rw[hpd]; exact pendD_same fun i hi=>fam_get hi) (fun j hj=>?_) ⟨⟨⟨_,rfl,ToB.rows rfl (prs _)⟩,trivial⟩,trivial⟩ (hr:=To.tupL ToL.nil)
 unfold bX
 by_cases e:j=r
 ·rw[if_pos e,if_pos e]
  rfl
 ·rw[if_neg e,if_neg e]
  exact rho_w rfl hj
def stepRes (p:Pg) (ls:List Ln) (s:St) (res:AV) (H':Heap):Prop:=res=.tup []∧WOr p ls s H'
set_option maxHeartbeats 16000000 in
theorem stepB {p:Pg} {ls:List Ln} {s:St} {r d:Nat} (x:Act) (hk1:1≤x.k) (hk2:x.k≤16) (hk:isRem x.k=false) {Q:Exit→Fr→Heap→Prop}
  (h:AWP Tryz.prog F68.n 8 (pickI [1,1,1,0,1,1] F68.code) (blockQ 0 Q) (stepF r d x) (worldH p ls s)):AWP Tryz.prog F68.n 8 (pickI [1,1,1] F68.code) Q (stepF r d x) (worldH p ls s):=by
 show AWP _ _ _ (.block _ _) _ _ _
 have f1:=formsE_in hk1 hk2
 unfold formR at f1
 have u1:isRem ((x.k.toNat:Nat):Int)=false:=by rw[show((x.k.toNat:Nat):Int)=x.k by omega]; exact hk
 rw[u1] at f1
 refine AWP.block ?_
 refine AWP.seq ?_
 refine AWP.dk mixed ?_
 unfold worldH worldG boxW ckV stepF plR actR
 dsimp only
 refine walkX ?_
 refine DK.o rfl (dstep_lookC rfl rfl f1) ?_
 refine walkX ?_
 refine DK.nil ⟨by kernel_rfl,?_⟩
 refine AWP.condF rfl ?_
 refine AWP.sub ?_ h
 refine wSub rfl rfl rfl rfl rfl rfl rfl rfl ?_
 unfold stepF plR actR
 (all_goals exact tocW)
theorem prAt_eff_q (p:Pg) (ls:List Ln) (s:St) (x:Pl) (h:x.1 < s.ps.length) (j:Nat):(prAt (effP p ls s x) j).q=(prAt s j).q∧(prAt (effP p ls s x) j).d=(prAt s j).d:=by
 unfold effP
 dsimp only
 rw[prAt_setM]
 split
 ·rw[prAt_setP h]
  split
  ·rename_i e; rw[e]; exact⟨rfl,rfl⟩
  ·exact⟨rfl,rfl⟩
 ·exact⟨rfl,rfl⟩
set_option maxHeartbeats 16000000 in
theorem stepLoc {p:Pg} {ls:List Ln} {s:St} {r d:Nat} {l:List Act} {x:Act} {b c e:Nat} (hC:CkOK p ls) (hrl:r < ls.length) (hpl:s.ps.length=ls.length) (hml:s.mem.length=ls.length) (hra:p.acts[r]?=some l) (hx:l[d]?=some x) (hk:x.k=6∨x.k=7) (hac:acN ls (r,d)=⟨b,c,e⟩) (hb:b < ls.length) (hc:c < (memAt s b).length):
  AWP Tryz.prog F68.n 8 (pickI [1,1,1] F68.code) (EndQ F68.n 8 F68.res (stepRes p ls (effP p ls s (r,d)))) (stepF r d x) (worldH p ls s):=by
 have hk6:isRem x.k=false:=by rcases hk with h | h<;>rw[h]<;>rfl
 refine stepB x (by omega) (by omega) hk6 ?_
 have he:=eff_at p ls s hC hra hx hac hb hc hpl hml (by omega) (by omega) (by omega) b4 (pendF ls.length s) (fun _ _=>rfl) (SelfF.pend _ _)
 have hpe:pendF ls.length s=pendF ls.length (effP p ls s (r,d)):=pendF_congr fun j _=>((prAt_eff_q p ls s (r,d) (by show r < s.ps.length; omega) j).1).symm
 obtain⟨k,xr,a,o,v,w,g⟩:=x
 dsimp only at hk
 unfold stepF actR
 unfold plR at *
 dsimp only at *
 show AWP _ _ _ (.seq _ _) _ _ _
 rcases hk with rfl | rfl
 ·refine walkX ?_
  refine Reg.c (Nat.le_refl _) rfl (he.mono ?_)
  rintro res H' ⟨rfl,rfl⟩
  rw[hpe]
  unfold worldG
  refine walkX ?_
  exact wEnd (N:=0) rfl rfl rfl rfl rfl rfl rfl rfl ⟨rfl,.inl rfl⟩
 ·refine walkX ?_
  refine Reg.c (Nat.le_refl _) rfl (he.mono ?_)
  rintro res H' ⟨rfl,rfl⟩
  rw[hpe]
  unfold worldG
  refine walkX ?_
  exact wEnd (N:=0) rfl rfl rfl rfl rfl rfl rfl rfl ⟨rfl,.inl rfl⟩
set_option maxHeartbeats 16000000 in
theorem stepLock {p:Pg} {ls:List Ln} {s:St} {r d:Nat} (x:Act) {b:Nat} (hhl:s.held.length=ls.length) (hk:x.k=13∨x.k=14) (hb:x.r=(b:Int)) (hbl:b < ls.length):
  AWP Tryz.prog F68.n 8 (pickI [1,1,1] F68.code) (EndQ F68.n 8 F68.res (stepRes p ls (setL s b (putN r x.k (heldAt s b))))) (stepF r d x) (worldH p ls s):=by
 have hk6:isRem x.k=false:=by rcases hk with h | h<;>rw[h]<;>rfl
 refine stepB x (by omega) (by omega) hk6 ?_
 have hp1:=heldH_get hbl
 have hp1l:=heldH_len ls.length
 obtain⟨k,xr,a,o,v,w,g⟩:=x
 dsimp only at hk hb
 subst hb
 unfold stepF actR plR worldH worldG boxW ckV
 dsimp only
 show AWP _ _ _ (.seq _ _) _ _ _
 rcases hk with rfl | rfl
 ·refine walkX ?_
  refine DK.on rfl (dstep_ret rfl rfl rfl (hget_app1 (fam_get hbl))) ?_
  refine DK.nil ⟨by kernel_rfl,?_⟩
  refine walkX ?_
  exact wEnd (N:=0) (s:=setL s b (putN r 13 (heldAt s b))) rfl rfl rfl rfl rfl rfl rfl (heldF_set (by omega)) ⟨rfl,.inl rfl⟩
 ·refine walkX ?_
  refine DK.on rfl (dstep_ret rfl rfl rfl (hget_app1 (fam_get hbl))) ?_
  refine DK.nil ⟨by kernel_rfl,?_⟩
  refine walkX ?_
  exact wEnd (N:=0) (s:=setL s b (putN r 14 (heldAt s b))) rfl rfl rfl rfl rfl rfl rfl (heldF_set (by omega)) ⟨rfl,.inl rfl⟩
set_option maxHeartbeats 16000000 in
theorem stepUnlock {p:Pg} {ls:List Ln} {s:St} {r d:Nat} (x:Act) {b:Nat} (hhl:s.held.length=ls.length) (hk:x.k=16) (hb:x.r=(b:Int)) (hbl:b < ls.length):
  AWP Tryz.prog F68.n 8 (pickI [1,1,1] F68.code) (EndQ F68.n 8 F68.res (stepRes p ls (setL s b (dropN r (heldAt s b))))) (stepF r d x) (worldH p ls s):=by
 have hk6:isRem x.k=false:=by rw[hk]; rfl
 refine stepB x (by omega) (by omega) hk6 ?_
 have hp1:=heldH_get hbl
 have hp1l:=heldH_len ls.length
 obtain⟨k,xr,a,o,v,w,g⟩:=x
 dsimp only at hk hb
 subst hb
 subst hk
 unfold stepF actR plR worldH worldG boxW ckV
 dsimp only
 show AWP _ _ _ (.seq _ _) _ _ _
 refine walkX ?_
 refine DK.on rfl (dstep_drop rfl rfl (hget_app1 (fam_get hbl))) ?_
 refine DK.nil ⟨by kernel_rfl,?_⟩
 refine walkX ?_
 exact wEnd (N:=0) (s:=setL s b (dropN r (heldAt s b))) rfl rfl rfl rfl rfl rfl rfl (heldF_set (by omega)) ⟨rfl,.inl rfl⟩
set_option maxHeartbeats 16000000 in
theorem stepOther {p:Pg} {ls:List Ln} {s:St} {r d:Nat} (x:Act) (hk:x.k=8∨x.k=9∨x.k=10∨x.k=11∨x.k=12∨x.k=15):
  AWP Tryz.prog F68.n 8 (pickI [1,1,1] F68.code) (EndQ F68.n 8 F68.res (stepRes p ls s)) (stepF r d x) (worldH p ls s):=by
 have hk6:isRem x.k=false:=by rcases hk with h | h | h | h | h | h<;>rw[h]<;>rfl
 refine stepB x (by omega) (by omega) hk6 ?_
 obtain⟨k,xr,a,o,v,w,g⟩:=x
 dsimp only at hk
 unfold stepF actR plR worldH worldG boxW ckV
 dsimp only
 show AWP _ _ _ (.seq _ _) _ _ _
 rcases hk with rfl | rfl | rfl | rfl | rfl | rfl<;>(refine walkX ?_; exact wEnd (N:=0) rfl rfl rfl rfl rfl rfl rfl rfl ⟨rfl,.inl rfl⟩)
theorem acN_get {p:Pg} {r i:Nat} {l:List Act} {ls:List Ln} {L:Ln} (hL:ls[r]?=some L) (hO:LnOK p r l L) (hi:i < l.length):accO ls (r,i)=acAt r l i:=by
 unfold accO
 simp only[hL]
 rw[hO.pre.acc i,if_pos hi]
theorem acN_loc {p:Pg} {r i:Nat} {l:List Act} {x:Act} {ls:List Ln} {L:Ln} (hL:ls[r]?=some L) (hO:LnOK p r l L) (hx:l[i]?=some x) (hk:x.k=6∨x.k=7):acN ls (r,i)=⟨(r:Int),((x.a.toNat:Nat):Int),i⟩∧x.a.toNat < p.cells.toNat:=by
 have hi:=(gEs.1 hx).1
 have ha:=(hO.act i x hx).cell (by unfold hasAt; simp; omega)
 refine⟨?_,by omega⟩
 unfold acN
 rw[acN_get hL hO hi]
 unfold acAt
 rw[hx]
 simp only
 rw[if_neg (by rcases hk with h | h<;>rw[h]<;>decide),if_pos hk]
 show Ac.mk _ _ _=_
 rw[show((x.a.toNat:Nat):Int)=x.a by omega]
theorem acN_rem {p:Pg} {r i:Nat} {l:List Act} {x:Act} {ls:List Ln} {L:Ln} (hL:ls[r]?=some L) (hO:LnOK p r l L) (hx:l[i]?=some x) (hk:isRem x.k=true):
  acN ls (r,i)=⟨((x.r.toNat:Nat):Int),((x.a.toNat:Nat):Int),(compl l (epAt l i) i x).1⟩∧x.r.toNat < p.acts.length∧x.a.toNat < p.cells.toNat:=by
 have hi:=(gEs.1 hx).1
 have hk5:1≤x.k∧x.k≤5:=of_decide_eq_true hk
 have ha:=(hO.act i x hx).cell (by unfold hasAt; simp; omega)
 have hr:=(hO.act i x hx).rank (by unfold hasRank; simp; omega)
 refine⟨?_,by omega,by omega⟩
 unfold acN
 rw[acN_get hL hO hi]
 unfold acAt
 rw[hx]
 simp only
 rw[if_pos hk]
 show Ac.mk _ _ _=_
 rw[show((x.a.toNat:Nat):Int)=x.a by omega,show((x.r.toNat:Nat):Int)=x.r by omega]
theorem RunOK.q100 {p:Pg} {ls:List Ln} {s:St} (hC:CkOK p ls) (hS:RunOK p ls s) {b:Nat} (hb:b < ls.length):(prAt s b).q.length≤100∧(prAt s b).d≤100:=by
 have h1:=hS.d b hb
 have h2:=hS.q b hb
 have hn:=hC.len
 have h3:=gEg (show b < p.acts.length by omega)
 obtain⟨L',hL',hO'⟩:=hC.get h3
 have:=hO'.len
 have:=lenA_get h3
 omega
theorem step_at {p:Pg} {ls:List Ln} {s:St} {r:Nat} (hC:CkOK p ls) (hS:RunOK p ls s) (hrl:r < ls.length) (hdl:(prAt s r).d < lenA p r):
  CallOK Tryz.prog 68 [.ptr 0 0 0 0,.sc (.int .i64 (r:Int))] (worldH p ls s) (stepRes p ls (stepP p ls s r)):=by
 have hn:=hC.len
 have hra:=gEg (show r < p.acts.length by omega)
 have hlen:=lenA_get hra
 obtain⟨L,hL,hO⟩:=hC.get hra
 rw[hlen] at hdl
 have hx:=gEg hdl
 have hok:=hO.act _ _ hx
 have hap:=actP_get hra hx
 have hq:=hS.q100 hC hrl
 have hpl:r < s.ps.length:=by have:=hS.pl; omega
 have hsp:stepP p ls s r=if isRem p.acts[r][(prAt s r).d].k=true then setP s r ⟨(prAt s r).d+1,(prAt s r).q++[(prAt s r).d],(prAt s r).g⟩
   else if p.acts[r][(prAt s r).d].k=6∨p.acts[r][(prAt s r).d].k=7 then effP p ls (setP s r ⟨(prAt s r).d+1,(prAt s r).q,(prAt s r).g⟩) (r,(prAt s r).d)
   else if p.acts[r][(prAt s r).d].k=13∨p.acts[r][(prAt s r).d].k=14 then setL (setP s r ⟨(prAt s r).d+1,(prAt s r).q,(prAt s r).g⟩) p.acts[r][(prAt s r).d].r.toNat (putN r p.acts[r][(prAt s r).d].k (heldAt s p.acts[r][(prAt s r).d].r.toNat))
   else if p.acts[r][(prAt s r).d].k=16 then setL (setP s r ⟨(prAt s r).d+1,(prAt s r).q,(prAt s r).g⟩) p.acts[r][(prAt s r).d].r.toNat (dropN r (heldAt s p.acts[r][(prAt s r).d].r.toNat))
   else setP s r ⟨(prAt s r).d+1,(prAt s r).q,(prAt s r).g⟩:=by
  unfold stepP
  dsimp only
  rw[hap]
 rw[hsp]
 clear hsp
 refine CallOK.of cF68 ?_ (nlB rfl)
 refine stepA hC hrl hS.pl hra hx (by omega) _ ?_
 generalize p.acts[r]=l at *
 generalize l[(prAt s r).d]=x at *
 have hs1:=prAt_setP (s:=s) (x:=⟨(prAt s r).d+1,(prAt s r).q,(prAt s r).g⟩) hpl
 have hs1r:prAt (setP s r ⟨(prAt s r).d+1,(prAt s r).q,(prAt s r).g⟩) r=⟨(prAt s r).d+1,(prAt s r).q,(prAt s r).g⟩:=by rw[hs1,if_pos rfl]
 have hk1:=hok.k1
 have hk16:=hok.k16
 by_cases h1:isRem x.k=true
 ·rw[if_pos h1]
  have:=stepRem (p:=p) (ls:=ls) (s:=setP s r ⟨(prAt s r).d+1,(prAt s r).q,(prAt s r).g⟩) (r:=r) (d:=(prAt s r).d) x hrl (by unfold setP; simp[hS.pl]) hk1 hk16 h1 (by rw[hs1r]; show(prAt s r).q.length≤_; omega)
  rw[hs1r] at this
  have e:setP (setP s r ⟨(prAt s r).d+1,(prAt s r).q,(prAt s r).g⟩) r ⟨(prAt s r).d+1,(prAt s r).q++[(prAt s r).d],(prAt s r).g⟩=setP s r ⟨(prAt s r).d+1,(prAt s r).q++[(prAt s r).d],(prAt s r).g⟩:=by
   unfold setP
   simp
  dsimp only at this
  rw[e] at this
  exact this
 rw[if_neg h1]
 have h1':¬ (1≤x.k∧x.k≤5):=fun h=>h1 (dTr h)
 by_cases h2:x.k=6∨x.k=7
 ·rw[if_pos h2]
  obtain⟨a1,a2⟩:=acN_loc hL hO hx h2
  exact stepLoc (s:=setP s r ⟨(prAt s r).d+1,(prAt s r).q,(prAt s r).g⟩) hC hrl (by unfold setP; simp[hS.pl]) hS.ml hra hx h2 a1 hrl (by rw[memAt_setP,hS.m r hrl]; exact a2)
 rw[if_neg h2]
 by_cases h3:x.k=13∨x.k=14
 ·rw[if_pos h3]
  have hrk:=hok.rank (by unfold hasRank; simp; omega)
  exact stepLock (s:=setP s r ⟨(prAt s r).d+1,(prAt s r).q,(prAt s r).g⟩) x (b:=x.r.toNat) hS.hl h3 (by omega) (by omega)
 rw[if_neg h3]
 by_cases h4:x.k=16
 ·rw[if_pos h4]
  have hrk:=hok.rank (by unfold hasRank; simp; omega)
  exact stepUnlock (s:=setP s r ⟨(prAt s r).d+1,(prAt s r).q,(prAt s r).g⟩) x (b:=x.r.toNat) hS.hl h4 (by omega) (by omega)
 rw[if_neg h4]
 exact stepOther x (by omega)
theorem act_cl {p:Pg} {ls:List Ln} {s:St} {r:Nat} (hC:CkOK p ls) (hS:RunOK p ls s) (hrl:r < ls.length) (hdl:(prAt s r).d < lenA p r):
  CallOK Tryz.prog 67 [.cptr [.ptr 0 0 0 0],.cptr [.sc (.int .i64 (r:Int))]] (worldH p ls s) (stepRes p ls (stepP p ls s r)):=by
 refine CallOK.of cF67 ?_ (nlB rfl)
 have h:=step_at hC hS hrl hdl
 refine walkX ?_
 refine Reg.c (Nat.le_refl _) rfl (h.mono ?_)
 rintro res H' ⟨rfl,hH⟩
 refine walkX ?_
 exact⟨.inl rfl,_,_,_,rfl,.refl _ _ _,rfl,hH⟩
def takeS (s:St) (r k:Nat):St:=setP s r ⟨(prAt s r).d,(prAt s r).q.eraseIdx k,(prAt s r).g⟩
set_option maxHeartbeats 16000000 in
theorem take_cl {p:Pg} {ls:List Ln} {s:St} {r k i:Nat} (hC:CkOK p ls) (hS:RunOK p ls s) (hrl:r < ls.length) (hk:(prAt s r).q[k]?=some i):
  CallOK Tryz.prog 69 [.cptr [.ptr 0 0 0 0],.cptr [.sc (.int .i64 (r:Int))],.cptr [.sc (.int .i64 (k:Int))],.cptr [.sc (.int .i64 (i:Int))]] (worldH p ls s) (stepRes p ls (takeP p ls s r k i)):=by
 refine CallOK.of cF69 ?_ (nlB rfl)
 have hkl:=(gEs.1 hk).1
 have hq:=hS.q100 hC hrl
 have hd:=del_at p ls s hrl hkl (by omega)
 have hp1:=procsH_get (s:=s) (b:=b4) hrl
 have hp1l:=procsH_len ls.length s b4
 unfold b4 at hp1
 dsimp only at hp1
 have hrs:r < s.ps.length:=by have:=hS.pl; omega
 have hn:=hC.len
 obtain⟨l,hra⟩:∃ l,p.acts[r]?=some l:=⟨_,gEg (show r < p.acts.length by omega)⟩
 have hlen:=lenA_get hra
 obtain⟨L,hL,hO⟩:=hC.get hra
 have hqi:=hS.qi r hrl i (List.mem_of_getElem? hk)
 have hdl:=hS.d r hrl
 obtain⟨x,hx⟩:∃ x,l[i]?=some x:=⟨_,gEg (show i < l.length by omega)⟩
 have hok:=hO.act _ _ hx
 have hap:=actP_get hra hx
 rw[hap] at hqi
 obtain⟨a1,a2,a3⟩:=acN_rem hL hO hx hqi.2
 obtain⟨hk1,hk5⟩:1≤x.k∧x.k≤5:=of_decide_eq_true hqi.2
 have hk2:x.k≤7:=by omega
 have hs1:=prAt_setP (s:=s) (x:=⟨(prAt s r).d,(prAt s r).q.eraseIdx k,(prAt s r).g⟩) hrs
 have hp2:(procsH ls.length s b4).set r [.sc (.int .i64 ((prAt s r).d:Int)),.hsl 8 0 0 ((prAt s r).q.length - 1),.mref 5 r]=procsH ls.length (takeS s r k) (bX r 8):=by
  unfold takeS bX
  rw[← procsH_set hrs,eraseIdx_len hkl]
  rfl
 have hpd:pendD ls.length s r=pendD ls.length (takeS s r k) r:=fam_congr fun j _=>by
  by_cases e:j=r
  ·rw[if_pos e,if_pos e]
  ·rw[if_neg e,if_neg e]; unfold takeS; rw[hs1,if_neg e]
 have hret:retF ls.length s=retF ls.length (takeS s r k):=retF_congr fun j _=>by
  unfold takeS
  rw[hs1]
  split
  ·rename_i e; rw[e]
  ·rfl
 unfold worldH worldG boxW ckV at hd ⊢
 refine AWP.seq ?_
 refine AWP.lin [(true,0),(true,1),(true,2),(true,3),(true,4),(true,5),(true,6),(true,7),(true,8),(true,9),(true,10),(true,11),(true,12),(true,13),(true,14),(true,15),(true,17),(true,18),(false,16),(false,19)] mixed (by kernel_rfl) (by kernel_rfl) ?_
 refine walkL ?_
 refine RT.cc (Nat.le_refl _) rfl hd ?_
 rintro res H' ⟨rfl,rfl⟩
 refine⟨(by repeat (first | exact trivial | exact Keeps.refl _ _ | refine And.intro rfl ?_)),?_⟩
 refine walkL ?_
 refine AWP.sub (fr':=[(0,.cptr [.ptr 0 0 0 0]),(1,.cptr [.sc (.int .i64 (r:Int))]),(3,.cptr [.sc (.int .i64 (i:Int))])]) (H':=worldG p ls (takeS s r k) (bX r 8) (pendD ls.length (takeS s r k) r)++[[.cells 1 (natsR ((prAt s r).q.eraseIdx k))]]) ?_ ?_
 ·refine Sub.wg p ls (takeS s r k) (bX r 8) (bX r 8) (pendD ls.length (takeS s r k) r) [] [] [[(8,0)]] [[.cells 1 (natsR ((prAt s r).q.eraseIdx k))]] ?_ rfl (congrArg (fun z=>[Blk.cells 3 z]) hp2) rfl rfl (fam_len _ _) hret rfl rfl (by rw[hpd]; exact pendD_same fun j hj=>fam_get hj) (fun j hj=>?_) ⟨⟨⟨_,rfl,ToB.rows rfl (prs _)⟩,trivial⟩,trivial⟩
  ·(all_goals exact tocW)
  ·unfold bX
   split
   ·rfl
   ·exact rho_w rfl hj
 have he:=eff_atX p ls (takeS s r k) hC hra hx a1 (by omega) (by unfold takeS; rw[memAt_setP,hS.m _ (by omega)]; exact a3) (by unfold takeS setP; simp[hS.pl]) hS.ml hk1 hk2 (fun h=>hok.op (by unfold hasOp; simp; exact h)) (bX r 8) (pendD ls.length (takeS s r k) r) (y:=natsR ((prAt s r).q.eraseIdx k)) (prs _) (fun j _=>by unfold bX; split; exact .inr rfl; exact .inl rfl) (SelfF.pendD _ _ _)
 refine walkX ?_
 refine Reg.c (nlB rfl) rfl (he.mono ?_)
 rintro res H' ⟨rfl,rfl⟩
 refine walkX ?_
 refine⟨.inl rfl,_,_,_,rfl,.refl _ _ _,rfl,.inr ⟨r,hrl,?_⟩⟩
 show _=worldG p ls (effP p ls (takeS s r k) (r,i)) (bX r 8) (pendD ls.length (effP p ls (takeS s r k) (r,i)) r)++[[.cells 1 (natsR (prAt (effP p ls (takeS s r k) (r,i)) r).q)]]
 have hqq:=prAt_eff_q p ls (takeS s r k) (r,i) (by unfold takeS setP; simp; exact hrs)
 have e1:pendD ls.length (effP p ls (takeS s r k) (r,i)) r=pendD ls.length (takeS s r k) r:=fam_congr fun j _=>by rw[(hqq j).1]
 have e2:(prAt (effP p ls (takeS s r k) (r,i)) r).q=(prAt s r).q.eraseIdx k:=by
  rw[(hqq r).1]
  unfold takeS
  rw[hs1,if_pos rfl]
 rw[e1,e2]
theorem worldG_dom {p:Pg} {ls:List Ln} {s s':St} {b b':Nat→Nat×Nat} {F4 F4':List Blk} (h:F4.length=F4'.length) (g i:Nat):(hget (worldG p ls s b F4) g i).isSome=(hget (worldG p ls s' b' F4') g i).isSome:=by
 match g,i with
 | 0,0=>rfl
 | 0,i+1=>rfl
 | 1,0=>rfl
 | 1,i+1=>rfl
 | 2,0=>rfl
 | 2,i+1=>rfl
 | 3,0=>rfl
 | 3,i+1=>rfl
 | 4,i=>
  show(F4[i]?).isSome=(F4'[i]?).isSome
  by_cases hi:i < F4.length
  ·rw[gEg hi,gEg (show i < F4'.length by omega)]; rfl
  ·rw[List.getElem?_eq_none (by omega),List.getElem?_eq_none (by omega)]
 | 5,i=>exact fam_isSome i
 | 6,i=>exact fam_isSome i
 | 7,i=>exact fam_isSome i
 | g+8,i=>rfl
theorem wRen {ρ:Nat→Nat→Option (Nat×Nat)} {p:Pg} {ls:List Ln} {s:St} {b b':Nat→Nat×Nat} {F4:List Blk} (r1:ρ 1 0=some (1,0)) (r2:ρ 2 0=some (2,0)) (r3:ρ 3 0=some (3,0)) (r4:∀ r,r < ls.length→ρ (b' r).1 (b' r).2=some (b r))
  (r5:∀ r,r < ls.length→ρ 5 r=some (5,r)) (r6:∀ r,r < ls.length→ρ 6 r=some (6,r)) (r7:∀ r,r < ls.length→ρ 7 r=some (7,r)) (hF:∀(i:Nat) x,F4[i]?=some x→x.live=true→RenB ρ x x):
  ∀ g i x,hget (worldG p ls s b' F4) g i=some x→x.live=true→∃ y,hget (worldG p ls s b F4) g i=some y∧RenB ρ y x:=by
 intro g i x hx hl
 match g,i,hx with
 | 0,0,hx=>
  injection hx with hx
  subst hx
  refine⟨_,rfl,RenB.selfW fun r hr c hc=>?_⟩
  rw[List.mem_singleton.1 hr] at hc
  unfold boxW at hc
  simp only[List.mem_cons,List.not_mem_nil,or_false] at hc
  rcases hc with rfl | rfl | rfl | rfl | rfl
  ·exact .pure (pv _)
  ·exact .sc _
  ·exact .hsl _ _ _ _ _ _ r1
  ·exact .hsl _ _ _ _ _ _ r2
  ·exact .hsl _ _ _ _ _ _ r3
 | 1,0,hx=>
  injection hx with hx
  subst hx
  refine⟨_,rfl,?_⟩
  refine .cells _ _ _ (by simp[procsH]) (fun j l l' a c=>?_) fun j l l' m x y a c d e=>?_
  ·obtain⟨q,hq,rfl⟩:=List.mem_map.1 (List.mem_of_getElem? a)
   obtain⟨q',hq',rfl⟩:=List.mem_map.1 (List.mem_of_getElem? c)
   rfl
  ·unfold procsH at a c
   have hj:j < ls.length:=by have:=(gEs.1 a).1; simpa using this
   rw[List.getElem?_map,List.getElem?_range hj] at a c
   injection a with a
   injection c with c
   subst a; subst c
   match m,d,e with
   | 0,d,e=>injection d with d; injection e with e; subst d; subst e; exact .sc _
   | 1,d,e=>injection d with d; injection e with e; subst d; subst e; exact .hsl _ _ _ _ _ _ (r4 j hj)
   | 2,d,e=>injection d with d; injection e with e; subst d; subst e; exact .mref _ _ _ _ (r5 j hj)
   | m+3,d,e=>cases d
 | 2,0,hx=>
  injection hx with hx
  subst hx
  exact⟨_,rfl,RenB.row1 fun j hj=>.hsl _ _ _ _ _ _ (r6 j hj)⟩
 | 3,0,hx=>
  injection hx with hx
  subst hx
  exact⟨_,rfl,RenB.row1 fun j hj=>.mref _ _ _ _ (r7 j hj)⟩
 | 4,i,hx=>exact⟨x,hx,hF i x hx hl⟩
 | 5,i,hx=>
  have hx':(retF ls.length s)[i]?=some x:=hx
  obtain⟨_,rfl⟩:=fam_some hx'
  exact⟨_,hx,RenB.mapW _⟩
 | 6,i,hx=>
  have hx':(memF ls.length s)[i]?=some x:=hx
  obtain⟨_,rfl⟩:=fam_some hx'
  exact⟨_,hx,RenB.rows rfl (prs _)⟩
 | 7,i,hx=>
  have hx':(heldF ls.length s)[i]?=some x:=hx
  obtain⟨_,rfl⟩:=fam_some hx'
  exact⟨_,hx,RenB.mapW _⟩
 | 0,i+1,hx=>cases hx
 | 1,i+1,hx=>cases hx
 | 2,i+1,hx=>cases hx
 | 3,i+1,hx=>cases hx
 | g+8,i,hx=>cases hx
def WOrG (p:Pg) (ls:List Ln) (s:St) (G H:Heap):Prop:=H=worldH p ls s++G∨∃ r,r < ls.length∧H=worldG p ls s (bX r (8+G.length)) (pendD ls.length s r)++G++[[.cells 1 (natsR (prAt s r).q)]]
theorem cl_more {p:Pg} {ls:List Ln} {s s':St} {f:FuncId} {args:List AV} (G:Heap) (h:CallOK Tryz.prog f args (worldH p ls s) (stepRes p ls s')) (ha:∀ a∈args,Ren (idH (worldH p ls s)) a a):
  CallOK Tryz.prog f args (worldH p ls s++G) fun res H'=>res=.tup []∧WOrG p ls s' G H':=by
 have hi:∀(g i:Nat),(hget (worldH p ls s) g i).isSome=true→Av.sg (idH (worldH p ls s)) (worldH p ls s++G).length (worldH p ls s).length g i=some (g,i):=fun g i hs=>by
  have hlt:g < 8:=hget_isSome_lt hs
  rw[Av.sg_lt (by rw[List.length_append]; show g < 8+G.length; omega)]
  exact idH_of hs
 have q4:∀ i,i < ls.length→Av.sg (idH (worldH p ls s)) (worldH p ls s++G).length (worldH p ls s).length 4 i=some (4,i):=fun i h=>hi 4 i (by show((pendF ls.length s)[i]?).isSome=true; unfold pendF; rw[fam_get h]; rfl)
 have q5:∀ i,i < ls.length→Av.sg (idH (worldH p ls s)) (worldH p ls s++G).length (worldH p ls s).length 5 i=some (5,i):=fun i h=>hi 5 i (by show((retF ls.length s)[i]?).isSome=true; unfold retF; rw[fam_get h]; rfl)
 have q6:∀ i,i < ls.length→Av.sg (idH (worldH p ls s)) (worldH p ls s++G).length (worldH p ls s).length 6 i=some (6,i):=fun i h=>hi 6 i (by show((memF ls.length s)[i]?).isSome=true; unfold memF; rw[fam_get h]; rfl)
 have q7:∀ i,i < ls.length→Av.sg (idH (worldH p ls s)) (worldH p ls s++G).length (worldH p ls s).length 7 i=some (7,i):=fun i h=>hi 7 i (by show((heldF ls.length s)[i]?).isSome=true; unfold heldF; rw[fam_get h]; rfl)
 refine CallOK.ins G h (worldH_closed p ls s s) ha fun res H' hr=>?_
 obtain⟨rfl,hw⟩:=hr
 rcases hw with rfl | ⟨r,hr,rfl⟩
 ·refine⟨.tup [],worldH p ls s',[],worldH p ls s',[],by rw[List.append_nil],rfl,rfl,fun g i hs=>?_,.tup _ _ rfl (fun j x y a=>by simp at a),fun g i x hx hl=>?_,fun g i hs=>?_,fun g i x hx=>?_,fun g i hs=>hs,rfl,.inl (by rw[List.append_nil])⟩
  ·rw[(worldH_closed p ls s s').dom] at hs; exact hs
  ·obtain⟨y,h1,h2⟩:=wRen (ρ:=Av.sg (idH (worldH p ls s)) (worldH p ls s++G).length (worldH p ls s).length) (p:=p) (ls:=ls) (s:=s') (b:=b4) (b':=b4) (F4:=pendF ls.length s') (hi 1 0 rfl) (hi 2 0 rfl) (hi 3 0 rfl) q4 q5 q6 q7 (fun i x hx _=>by obtain⟨_,rfl⟩:=fam_some hx; exact RenB.rows rfl (prs _)) g i x hx hl
   refine⟨y,h1,?_,h2⟩
   have:=(worldH_closed p ls s s').dom g i
   rw[← this]
   show(hget (worldH p ls s') g i).isSome=true
   rw[show hget (worldH p ls s') g i=some x from hx]
   rfl
  ·have:=(worldH_closed p ls s s').dom g i
   rw[this]; exact hs
  ·cases g<;>cases hx
 ·refine⟨.tup [],worldG p ls s' (bX r 8) (pendD ls.length s' r),[[.cells 1 (natsR (prAt s' r).q)]],worldG p ls s' (bX r (8+G.length)) (pendD ls.length s' r),[[.cells 1 (natsR (prAt s' r).q)]],rfl,rfl,rfl,fun g i hs=>?_,.tup _ _ rfl (fun j x y a=>by simp at a),fun g i x hx hl=>?_,fun g i hs=>?_,fun g i x hx hl=>?_,fun g i hs=>hs,rfl,.inr ⟨r,hr,rfl⟩⟩
  ·rw[worldG_dom (s':=s) (b':=b4) (F4':=pendF ls.length s) (by rw[show(pendD ls.length s' r).length=ls.length from fam_len _ _,show(pendF ls.length s).length=ls.length from fam_len _ _])] at hs
   exact hs
  ·obtain⟨y,h1,h2⟩:=wRen (ρ:=Av.sg (idH (worldH p ls s)) (worldH p ls s++G).length (worldH p ls s).length) (p:=p) (ls:=ls) (s:=s') (b:=bX r 8) (b':=bX r (8+G.length)) (F4:=pendD ls.length s' r) (hi 1 0 rfl) (hi 2 0 rfl) (hi 3 0 rfl) (fun j hj=>by
    unfold bX
    by_cases e:j=r
    ·rw[if_pos e,if_pos e]
     have hm:(worldH p ls s++G).length=8+G.length:=by rw[List.length_append]; rfl
     rw[Av.sg_ge (by rw[hm]; exact Nat.le_refl _),hm]
     show some (8+G.length - (8+G.length)+8,0)=_
     rw[Nat.sub_self]
    ·rw[if_neg e,if_neg e]; exact q4 j hj) q5 q6 q7 (fun i x hx hl=>by
    obtain⟨_,rfl⟩:=fam_some hx
    split at hl
    ·cases hl
    ·rename_i e
     rw[if_neg e]
     exact RenB.rows rfl (prs _)) g i x hx hl
   refine⟨y,h1,?_,h2⟩
   have:=worldG_dom (p:=p) (ls:=ls) (s:=s') (b:=bX r (8+G.length)) (F4:=pendD ls.length s' r) (s':=s) (b':=b4) (F4':=pendF ls.length s) (by rw[show(pendD ls.length s' r).length=ls.length from fam_len _ _,show(pendF ls.length s).length=ls.length from fam_len _ _]) g i
   show(hget (worldG p ls s b4 (pendF ls.length s)) g i).isSome=true
   rw[← this,hx]
   rfl
  ·have:=worldG_dom (p:=p) (ls:=ls) (s:=s') (b:=bX r (8+G.length)) (F4:=pendD ls.length s' r) (s':=s) (b':=b4) (F4':=pendF ls.length s) (by rw[show(pendD ls.length s' r).length=ls.length from fam_len _ _,show(pendF ls.length s).length=ls.length from fam_len _ _]) g i
   rw[this]
   exact hs
  ·match g,i,hx with
   | 0,0,hx=>
    injection hx with hx
    subst hx
    exact⟨_,rfl,RenB.rows rfl (prs _)⟩
   | 0,i+1,hx=>cases hx
   | g+1,i,hx=>cases hx
def cdV:Cd→AV
 | .act r=>.clo (.func 67) [] [.cptr [.ptr 0 0 0 0],.cptr [.sc (.int .i64 (r:Int))]]
 | .take r k i=>.clo (.func 69) [] [.cptr [.ptr 0 0 0 0],.cptr [.sc (.int .i64 (r:Int))],.cptr [.sc (.int .i64 (k:Int))],.cptr [.sc (.int .i64 (i:Int))]]
def cdsR (l:List Cd):List (List AV):=l.map fun c=>[cdV c]
theorem cdsR_len (l:List Cd):(cdsR l).length=l.length:=by simp[cdsR]
theorem cdsR_snoc (l:List Cd) (c:Cd):cdsR (l++[c])=cdsR l++[[cdV c]]:=by simp[cdsR]
section
variable {T:AV→AV→Prop} {ρ:Nat→Nat→Option (Nat×Nat)}
theorem To.cdV (h:ρ 0 0=some (0,0)) (c:Cd):To T ρ (cdV c) (YtkjoolaahocgdaaGreat.cdV c):=by
 have h0:To T ρ (.cptr [.ptr 0 0 0 0]) (.cptr [.ptr 0 0 0 0]):=To.cptrL (ToL.cons (To.ptrO h rfl rfl) ToL.nil)
 have h1:∀ n:Nat,To T ρ (.cptr [.sc (.int .i64 (n:Int))]) (.cptr [.sc (.int .i64 (n:Int))]):=fun n=>To.cptrL (ToL.cons (.sc _) ToL.nil)
 cases c with
 | act r=>exact To.cloL ToL.nil (ToL.cons h0 (ToL.cons (h1 r) ToL.nil))
 | take r k i=>exact To.cloL ToL.nil (ToL.cons h0 (ToL.cons (h1 r) (ToL.cons (h1 k) (ToL.cons (h1 i) ToL.nil))))
theorem ToR.cds (h:ρ 0 0=some (0,0)) (l:List Cd):ToR T ρ (cdsR l) (cdsR l):=ToR.map fun c _=>ToL.cons (To.cdV h c) ToL.nil
theorem ToB.cds (h:ρ 0 0=some (0,0)) (l:List Cd):ToB T ρ (.cells 1 (cdsR l)) (.cells 1 (cdsR l)):=ToB.rowsR (ToR.cds h l)
end
def nil3:Blk:=.cells 3 [[.sc (.slice none 0 0),.sc (.slice none 0 0),.sc (.slice none 0 0)]]
def capsR (p:Pg):Fr:=[(2,.cptr [.sc (.int .i64 p.cells),.list 1 (progR p.acts)]),(4,.ptr 8 0 0 0),(9,.ptr 0 0 0 0),(10,.ptr 9 0 0 0),(73,.clo (.func 65) [] [.cptr [.ptr 0 0 0 0]])]
theorem toLp {T:AV→AV→Prop} {ρ:Nat→Nat→Option (Nat×Nat)} {p:Pg} {L:LC} {st:LoopState} (r0:ρ 0 0=some (0,0)) (r8:ρ 8 0=some (8,0)) (r9:ρ 9 0=some (9,0)):ToB T ρ (.lp L (capsR p) st none) (.lp L (capsR p) st none):=by
 refine ToB.lp _ _ _ _ _ fun x hx=>?_
 unfold capsR at hx
 simp only[List.mem_cons,List.not_mem_nil,or_false] at hx
 rcases hx with rfl | rfl | rfl | rfl | rfl
 ·exact To.pure (pv (.cptr [.sc (.int .i64 p.cells),.list 1 (progR p.acts)]))
 ·exact To.ptrO r8 rfl rfl
 ·exact To.ptrO r0 rfl rfl
 ·exact To.ptrO r9 rfl rfl
 ·exact To.cloL ToL.nil (ToL.cons (To.cptrL (ToL.cons (To.ptrO r0 rfl rfl) ToL.nil)) ToL.nil)
def lB (j len:Nat):List Blk:=[.cells 1 [[.hsl j 0 0 len]]]
theorem candY {T:AV→AV→Prop} {ρ:Nat→Nat→Option (Nat×Nat)} {H:Heap} {p:Pg} {L:LC} {st:LoopState} {j j' len:Nat} {es:List (List (Nat×Nat))} {Y:Heap} (r0:ρ 0 0=some (0,0)) (r8:ρ 8 0=some (8,0)) (r9:ρ 9 0=some (9,0)) (rj:ρ j 0=some (j',0))
  (h8:hget H 8 0=some nil3) (h9:hget H 9 0=some (.cells 1 [[.hsl j' 0 0 len]])) (h10:hget H 10 0=some (.lp L (capsR p) st none)) (hY:famsTo (ToB T ρ) H es Y):
  famsTo (ToB T ρ) H ([(8,0)]::[(9,0)]::[(10,0)]::es) ([nil3]::lB j len::[.lp L (capsR p) st none]::Y):=
 ⟨⟨⟨_,h8,ToB.one (ToL.cons (.sc _) (ToL.cons (.sc _) (ToL.cons (.sc _) ToL.nil)))⟩,trivial⟩,⟨⟨_,h9,ToB.one (ToL.cons (To.hslL rj rfl) ToL.nil)⟩,trivial⟩,⟨⟨_,h10,toLp r0 r8 r9⟩,trivial⟩,hY⟩
def lkA:ICode:=.region [⟨some 11,none,.op (.move (.tmp 74))⟩]
def lkB:ICode:=.block 5 (.region [⟨some 75,none,.op (.load 1 false (.tmp 10))⟩,⟨some 76,none,.op (.move (.tmp 11))⟩,⟨some 77,none,.op (.buildSlice 1 [(1,.nilFunc)] 1 [(0,(.tmp 76))])⟩,⟨some 78,none,.op (.append 1 8 (.tmp 75) (.tmp 77))⟩,⟨none,none,.op (.store 1 (.tmp 10) (.tmp 78))⟩])
def candH (p:Pg) (ls:List Ln) (s:St) (L:LC) (out:List Cd):Heap:=worldH p ls s++([nil3]::lB 11 out.length::[.lp L (capsR p) .ready none]::[[.cells 1 (cdsR out)]])
set_option maxHeartbeats 8000000 in
theorem yield_ok (p:Pg) (ls:List Ln) (s:St) (L:LC) (hL:LOK Tryz.prog F18.n L [74] lkA lkB) (out:List Cd) (c:Cd) (hn:out.length≤1000000):
  YieldOK Tryz.prog 10 0 [cdV c] (candH p ls s L out) fun b H'=>b=true∧H'=worldH p ls s++([nil3]::lB 12 (out.length+1)::[.lp L (capsR p) .ready none]::[[.dead],[.cells 1 (cdsR (out++[c]))]]):=by
 have hcl:=cdsR_len out
 refine⟨L,_,_,_,_,_,hL,rfl,rfl,?_⟩
 cases c with
 | act r=>(unfold candH worldH worldG lkA lkB capsR lB nil3; unfold cdV; refine walkX ?_; refine⟨rfl,_,rfl,?_⟩; refine AWP.fin ?_; refine walkX ?_; refine⟨[],worldH p ls s++([nil3]::lB 12 (out.length+1)::[.lp L (capsR p) .busy none]::[[.dead],[.cells 1 (cdsR (out++[.act r]))]]),?_,_,rfl,rfl,rfl⟩; rw[cdsR_snoc]; exact Sub.wgL p ls s b4 b4 (pendF ls.length s) [] [] [[(8,0)],[(9,0)],[(10,0)],[(11,0)],[(13,0)]] ([nil3]::lB 12 (out.length+1)::[.lp L (capsR p) .busy none]::[[.dead],[.cells 1 (cdsR out++[[cdV (.act r)]])]]) trivial rfl rfl rfl rfl rfl rfl rfl (pend_same fun i hi=>fam_get hi) rho_b4 (candY rfl rfl rfl rfl rfl rfl rfl ⟨⟨⟨_,rfl,.dead _⟩,trivial⟩,⟨⟨_,rfl,ToB.rowsR (ToR.append (ToR.cds rfl out) (ToR.cons (ToL.cons (To.cdV rfl (.act r)) ToL.nil) ToR.nil))⟩,trivial⟩,trivial⟩) ⟨.c _ rfl rfl,.c _ rfl rfl,.c _ rfl rfl,.c _ rfl rfl,.w _ _ (Nat.le_of_eq (fam_len _ _)),.w _ _ (Nat.le_of_eq (fam_len _ _)),.w _ _ (Nat.le_of_eq (fam_len _ _)),.w _ _ (Nat.le_of_eq (fam_len _ _)),.c _ rfl rfl,.c _ rfl rfl,.c _ rfl rfl,.c _ rfl rfl,trivial⟩)
 | take r k i=>(unfold candH worldH worldG lkA lkB capsR lB nil3; unfold cdV; refine walkX ?_; refine⟨rfl,_,rfl,?_⟩; refine AWP.fin ?_; refine walkX ?_; refine⟨[],worldH p ls s++([nil3]::lB 12 (out.length+1)::[.lp L (capsR p) .busy none]::[[.dead],[.cells 1 (cdsR (out++[.take r k i]))]]),?_,_,rfl,rfl,rfl⟩; rw[cdsR_snoc]; exact Sub.wgL p ls s b4 b4 (pendF ls.length s) [] [] [[(8,0)],[(9,0)],[(10,0)],[(11,0)],[(13,0)]] ([nil3]::lB 12 (out.length+1)::[.lp L (capsR p) .busy none]::[[.dead],[.cells 1 (cdsR out++[[cdV (.take r k i)]])]]) trivial rfl rfl rfl rfl rfl rfl rfl (pend_same fun i hi=>fam_get hi) rho_b4 (candY rfl rfl rfl rfl rfl rfl rfl ⟨⟨⟨_,rfl,.dead _⟩,trivial⟩,⟨⟨_,rfl,ToB.rowsR (ToR.append (ToR.cds rfl out) (ToR.cons (ToL.cons (To.cdV rfl (.take r k i)) ToL.nil) ToR.nil))⟩,trivial⟩,trivial⟩) ⟨.c _ rfl rfl,.c _ rfl rfl,.c _ rfl rfl,.c _ rfl rfl,.w _ _ (Nat.le_of_eq (fam_len _ _)),.w _ _ (Nat.le_of_eq (fam_len _ _)),.w _ _ (Nat.le_of_eq (fam_len _ _)),.w _ _ (Nat.le_of_eq (fam_len _ _)),.c _ rfl rfl,.c _ rfl rfl,.c _ rfl rfl,.c _ rfl rfl,trivial⟩)
theorem ufind_uinsW {c d:List Int} {v:AV}:∀(es:List (List Int×AV)),d≠c→ufind c (uins d v es)=ufind c es
 | [],h=>by
  show(match decide (d=c) with | true=>some v | false=>ufind c [])=_
  rw[dFa h]
 | (e,y)::es,h=>by
  unfold uins
  split
  ·show(match decide (d=c) with | true=>some v | false=>ufind c ((e,y)::es))=_
   rw[dFa h]
  ·show(match decide (e=c) with | true=>some y | false=>ufind c (uins d v es))=(match decide (e=c) with | true=>some y | false=>ufind c es)
   rw[ufind_uinsW es h]
theorem ufind_uinsS {c:List Int} {v:AV}:∀(es:List (List Int×AV)),ufind c es=none→ufind c (uins c v es)=some v
 | [],_=>by
  show(match decide (c=c) with | true=>some v | false=>ufind c [])=_
  rw[dTr rfl]
 | (e,y)::es,h=>by
  have h':(match decide (e=c) with | true=>some y | false=>ufind c es)=none:=h
  unfold uins
  split
  ·show(match decide (c=c) with | true=>some v | false=>ufind c ((e,y)::es))=_
   rw[dTr rfl]
  ·show(match decide (e=c) with | true=>some y | false=>ufind c (uins c v es))=_
   split at h'
   ·cases h'
   ·exact ufind_uinsS es h'
theorem uins_memW {c:List Int} {v:AV} {x:List Int×AV}:∀ {es:List (List Int×AV)},x∈uins c v es→x=(c,v)∨x∈es
 | [],h=>.inl (List.mem_singleton.1 h)
 | (d,y)::es,h=>by
  unfold uins at h
  split at h
  ·rcases List.mem_cons.1 h with h | h
   ·exact .inl h
   ·exact .inr h
  ·rcases List.mem_cons.1 h with h | h
   ·exact .inr (by rw[h]; exact List.mem_cons_self ..)
   ·rcases uins_memW h with h | h
    ·exact .inl h
    ·exact .inr (List.mem_cons_of_mem _ h)
def UB (u:List (Int×Int)) (b:Blk):Prop:=(b=.map []∧u=[])∨∃ es,b=.umap 3 es∧(∀ x∈es,Pure x.2)∧∀ p q:Int,ufind [p,q,0] es=if (p,q)∈u then some (.sc (.bool true)) else none
def insU (b:Blk) (p q:Int):Blk:=match b with
 | .map _=>.umap 3 (uins [p,q,0] (.sc (.bool true)) [])
 | .umap _ es=>.umap 3 (uins [p,q,0] (.sc (.bool true)) es)
 | b=>b
theorem UB.ins {u:List (Int×Int)} {b:Blk} (h:UB u b) {p q:Int} (hn:(p,q)∉u):UB (u++[(p,q)]) (insU b p q):=by
 right
 rcases h with⟨rfl,rfl⟩ | ⟨es,rfl,h1,h2⟩
 ·refine⟨_,rfl,fun x hx=>?_,fun r t=>?_⟩
  ·rcases uins_memW hx with rfl | h
   ·exact .sc _
   ·cases h
  ·by_cases e:(r,t)=(p,q)
   ·injection e with e1 e2
    subst e1; subst e2
    rw[ufind_uinsS [] rfl,if_pos (by simp)]
   ·rw[ufind_uinsW [] (fun h=>e (by injection h with h1 h; injection h with h2 h; rw[h1,h2])),if_neg (by simpa using e)]
    rfl
 ·refine⟨_,rfl,fun x hx=>?_,fun r t=>?_⟩
  ·rcases uins_memW hx with rfl | h
   ·exact .sc _
   ·exact h1 x h
  ·by_cases e:(r,t)=(p,q)
   ·injection e with e1 e2
    subst e1; subst e2
    rw[ufind_uinsS es (by rw[h2,if_neg hn]),if_pos (by simp)]
   ·rw[ufind_uinsW es (fun h=>e (by injection h with h1 h; injection h with h2 h; rw[h1,h2])),h2]
    by_cases m:(r,t)∈u
    ·rw[if_pos m,if_pos (List.mem_append_left _ m)]
    ·rw[if_neg m,if_neg (fun h=>by rcases List.mem_append.1 h with h | h; exact m h; exact e (List.mem_singleton.1 h))]
theorem UB.to {T:AV→AV→Prop} {ρ:Nat→Nat→Option (Nat×Nat)} {u:List (Int×Int)} {b:Blk} (h:UB u b):ToB T ρ b b:=by
 rcases h with⟨rfl,_⟩ | ⟨es,rfl,h1,_⟩
 ·exact .map _ _ rfl (fun j x y a b=>by simp at a) fun j x y a b=>by simp at a
 ·exact .umap 3 es h1
theorem dstep_lookUW {g i:Nat} {fr:Fr} {H:Heap} {x ix:Operand} {g' i':Nat} {p q:Int} {b:Blk} {u:List (Int×Int)} (hb:UB u b) (hx:ev fr x=.mref g' i') (hk:ev fr ix=.agg [.sc (.int .i64 p),.sc (.int .i64 q),.sc (.int .i64 0)]) (hh:hget H g' i'=some b):
  dstep g i (.xop (.lookF [.i,.i,.i] (.sc (.bool false)) false) [x,ix]) fr H=some (.sc (.bool (decide ((p,q)∈u))),H):=by
 have e1:flatOf (.agg [.sc (.int .i64 p),.sc (.int .i64 q),.sc (.int .i64 0)])=some [.int .i64 p,.int .i64 q,.int .i64 0]:=rfl
 have e2:∃ r,cellsEq [.i,.i,.i] [.int .i64 p,.int .i64 q,.int .i64 0] [.int .i64 p,.int .i64 q,.int .i64 0]=some r:=⟨_,rfl⟩
 obtain⟨r,e2⟩:=e2
 have e3:ukey [.int .i64 p,.int .i64 q,.int .i64 0]=some [p,q,0]:=rfl
 rcases hb with⟨rfl,rfl⟩ | ⟨es,rfl,h1,hf⟩
 ·simp only[dstep,avals,List.map_cons,List.map_nil,xstep,hk,e1,e2,hx,mlookF,hh,mfindF]
  simp
 ·have e4:Nat.beq [p,q,0].length 3=true:=rfl
  have hf':=hf p q
  by_cases m:(p,q)∈u
  ·rw[if_pos m] at hf'
   simp only[dstep,avals,List.map_cons,List.map_nil,xstep,hk,e1,e2,hx,mlookF,hh,e3,e4,hf',dTr m]
  ·rw[if_neg m] at hf'
   simp only[dstep,avals,List.map_cons,List.map_nil,xstep,hk,e1,e2,hx,mlookF,hh,e3,e4,hf',dFa m]
theorem dstep_insUW {g i:Nat} {fr:Fr} {H:Heap} {m ix x:Operand} {g' i':Nat} {p q:Int} {b:Blk} {u:List (Int×Int)} (hb:UB u b) (hn:(p,q)∉u) (hx:ev fr m=.mref g' i') (hk:ev fr ix=.agg [.sc (.int .i64 p),.sc (.int .i64 q),.sc (.int .i64 0)]) (hv:ev fr x=.sc (.bool true)) (hh:hget H g' i'=some b):
  dstep g i (.insF [.i,.i,.i] m ix x) fr H=some (.undef,hset H g' i' (insU b p q)):=by
 have e1:flatOf (.agg [.sc (.int .i64 p),.sc (.int .i64 q),.sc (.int .i64 0)])=some [.int .i64 p,.int .i64 q,.int .i64 0]:=rfl
 have e2:∃ r,cellsEq [.i,.i,.i] [.int .i64 p,.int .i64 q,.int .i64 0] [.int .i64 p,.int .i64 q,.int .i64 0]=some r:=⟨_,rfl⟩
 obtain⟨r,e2⟩:=e2
 have e3:ukey [.int .i64 p,.int .i64 q,.int .i64 0]=some [p,q,0]:=rfl
 rcases hb with⟨rfl,rfl⟩ | ⟨es,rfl,h1,hf⟩
 ·simp only[dstep,hk,e1,e2,hx,hh,e3,hv]
  rfl
 ·have e4:Nat.beq [p,q,0].length 3=true:=rfl
  have hf':=hf p q
  rw[if_neg hn] at hf'
  simp only[dstep,hk,e1,e2,hx,hh,e3,e4,hf',hv]
  rfl
def candU (p:Pg) (ls:List Ln) (s:St) (L:LC) (out:List Cd) (b:Blk):Heap:=worldH p ls s++([nil3]::lB 11 out.length::[.lp L (capsR p) .ready none]::[[.cells 1 (cdsR out)],[b]])
set_option maxHeartbeats 8000000 in
theorem yieldU_ok (p:Pg) (ls:List Ln) (s:St) (L:LC) (hL:LOK Tryz.prog F18.n L [74] lkA lkB) (out:List Cd) (c:Cd) (hn:out.length≤1000000) (b:Blk) (u:List (Int×Int)) (hb:UB u b):
  YieldOK Tryz.prog 10 0 [cdV c] (candU p ls s L out b) fun e H'=>e=true∧H'=worldH p ls s++([nil3]::lB 13 (out.length+1)::[.lp L (capsR p) .ready none]::[[.dead],[b],[.cells 1 (cdsR (out++[c]))]]):=by
 have hcl:=cdsR_len out
 refine⟨L,_,_,_,_,_,hL,rfl,rfl,?_⟩
 cases c with
 | act r=>(unfold candU worldH worldG lkA lkB capsR lB nil3; unfold cdV; refine walkX ?_; refine⟨rfl,_,rfl,?_⟩; refine AWP.fin ?_; refine walkX ?_; refine⟨[],worldH p ls s++([nil3]::lB 13 (out.length+1)::[.lp L (capsR p) .busy none]::[[.dead],[b],[.cells 1 (cdsR (out++[.act r]))]]),?_,_,rfl,rfl,rfl⟩; rw[cdsR_snoc]; exact Sub.wgL p ls s b4 b4 (pendF ls.length s) [] [] [[(8,0)],[(9,0)],[(10,0)],[(11,0)],[(12,0)],[(14,0)]] ([nil3]::lB 13 (out.length+1)::[.lp L (capsR p) .busy none]::[[.dead],[b],[.cells 1 (cdsR out++[[cdV (.act r)]])]]) trivial rfl rfl rfl rfl rfl rfl rfl (pend_same fun i hi=>fam_get hi) rho_b4 (candY rfl rfl rfl rfl rfl rfl rfl ⟨⟨⟨_,rfl,.dead _⟩,trivial⟩,⟨⟨_,rfl,hb.to⟩,trivial⟩,⟨⟨_,rfl,ToB.rowsR (ToR.append (ToR.cds rfl out) (ToR.cons (ToL.cons (To.cdV rfl (.act r)) ToL.nil) ToR.nil))⟩,trivial⟩,trivial⟩) ⟨.c _ rfl rfl,.c _ rfl rfl,.c _ rfl rfl,.c _ rfl rfl,.w _ _ (Nat.le_of_eq (fam_len _ _)),.w _ _ (Nat.le_of_eq (fam_len _ _)),.w _ _ (Nat.le_of_eq (fam_len _ _)),.w _ _ (Nat.le_of_eq (fam_len _ _)),.c _ rfl rfl,.c _ rfl rfl,.c _ rfl rfl,.c _ rfl rfl,.c _ rfl rfl,trivial⟩)
 | take r k i=>(unfold candU worldH worldG lkA lkB capsR lB nil3; unfold cdV; refine walkX ?_; refine⟨rfl,_,rfl,?_⟩; refine AWP.fin ?_; refine walkX ?_; refine⟨[],worldH p ls s++([nil3]::lB 13 (out.length+1)::[.lp L (capsR p) .busy none]::[[.dead],[b],[.cells 1 (cdsR (out++[.take r k i]))]]),?_,_,rfl,rfl,rfl⟩; rw[cdsR_snoc]; exact Sub.wgL p ls s b4 b4 (pendF ls.length s) [] [] [[(8,0)],[(9,0)],[(10,0)],[(11,0)],[(12,0)],[(14,0)]] ([nil3]::lB 13 (out.length+1)::[.lp L (capsR p) .busy none]::[[.dead],[b],[.cells 1 (cdsR out++[[cdV (.take r k i)]])]]) trivial rfl rfl rfl rfl rfl rfl rfl (pend_same fun i hi=>fam_get hi) rho_b4 (candY rfl rfl rfl rfl rfl rfl rfl ⟨⟨⟨_,rfl,.dead _⟩,trivial⟩,⟨⟨_,rfl,hb.to⟩,trivial⟩,⟨⟨_,rfl,ToB.rowsR (ToR.append (ToR.cds rfl out) (ToR.cons (ToL.cons (To.cdV rfl (.take r k i)) ToL.nil) ToR.nil))⟩,trivial⟩,trivial⟩) ⟨.c _ rfl rfl,.c _ rfl rfl,.c _ rfl rfl,.c _ rfl rfl,.w _ _ (Nat.le_of_eq (fam_len _ _)),.w _ _ (Nat.le_of_eq (fam_len _ _)),.w _ _ (Nat.le_of_eq (fam_len _ _)),.w _ _ (Nat.le_of_eq (fam_len _ _)),.c _ rfl rfl,.c _ rfl rfl,.c _ rfl rfl,.c _ rfl rfl,.c _ rfl rfl,trivial⟩)
def actsN (p:Pg) (ls:List Ln) (s:St) (r:Nat):List Cd:=(List.range r).foldl (actsC p ls s) []
theorem actsN_succ (p:Pg) (ls:List Ln) (s:St) (r:Nat):actsN p ls s (r+1)=if canP p ls s r=true then actsN p ls s r++[.act r] else actsN p ls s r:=by
 unfold actsN
 rw[List.range_succ,List.foldl_append]
 rfl
theorem actsN_len (p:Pg) (ls:List Ln) (s:St):∀ r,(actsN p ls s r).length≤r
 | 0=>Nat.le_refl _
 | r+1=>by
  have:=actsN_len p ls s r
  rw[actsN_succ]
  split
  ·rw[List.length_append]; simp; omega
  ·omega
theorem To.worldX {n:Nat} {p:Pg} {ls:List Ln} {s:St} {G G2:Heap} {ρ:Nat→Nat→Option (Nat×Nat)}:To (ToT ((YtkjoolaahocgdaaGreat.worldH p ls s++G)++G2) n (notIn [])) ρ (.ptr 0 0 0 0) (worldV p ls s):=
 To.world (hget_app1 (hget_app1 rfl)) (hget_app1 (hget_app1 rfl)) (hget_app1 (hget_app1 rfl)) (hget_app1 (hget_app1 rfl)) (fun _ hr=>hget_app1 (hget_app1 (fam_get hr))) (fun _ hr=>hget_app1 (hget_app1 (fam_get hr))) (fun _ hr=>hget_app1 (hget_app1 (fam_get hr))) (fun _ hr=>hget_app1 (hget_app1 (fam_get hr)))
def cdF (n r:Nat):Fr:=[(0,.yld 10 0),(1,.cptr [.ptr 0 0 0 0]),(14,.sc (.int .i64 (n:Int))),(15,.sc (.int .i64 (r:Int)))]
def cand0 (p:Pg) (ls:List Ln) (s:St) (L:LC):Heap:=worldH p ls s++[[nil3],[.cells 1 [[.sc (.slice none 0 0)]]],[.lp L (capsR p) .ready none]]
set_option maxHeartbeats 16000000 in
theorem candA {p:Pg} {ls:List Ln} {s:St} (hC:CkOK p ls) (hp:POK p) (hS:RunOK p ls s) (L:LC) (hL:LOK Tryz.prog F18.n L [74] lkA lkB) (Q:Exit→Fr→Heap→Prop)
  (h:AWP Tryz.prog F65.n 11 (pickI [1] F65.code) Q (cdF ls.length ls.length) (candH p ls s L (actsN p ls s ls.length))):AWP Tryz.prog F65.n 11 F65.code Q (argsFr 0 [.yld 10 0,.cptr [.ptr 0 0 0 0]]) (cand0 p ls s L):=by
 have hn64:=hC.n64
 have hn:=hC.len
 unfold cand0 worldH worldG boxW
 refine AWP.seq ?_
 refine AWP.seq ?_
 refine AWP.region ?_
 refine walkR ?_
 refine AWP.block ?_
 refine AWP.loop (fun r:Nat=>cdF ls.length r) (fun r=>candH p ls s L (actsN p ls s r)) (fun r=>r≤ls.length) (fun r=>ls.length - r) 0 (Nat.zero_le _) ?_ ?_
 ·unfold cdF candH
  refine Sub.wgL p ls s b4 b4 (pendF ls.length s) [1] [] [[(8,0)],[(9,0)],[(10,0)],[(11,0)]] ([nil3]::lB 11 0::[.lp L (capsR p) .ready none]::[[.cells 1 (cdsR [])]]) ?_ rfl rfl rfl rfl rfl rfl rfl (pend_same fun i hi=>fam_get hi) rho_b4 ?_ ⟨.c _ rfl rfl,.c _ rfl rfl,.c _ rfl rfl,.c _ rfl rfl,.w _ _ (Nat.le_of_eq (fam_len _ _)),.w _ _ (Nat.le_of_eq (fam_len _ _)),.w _ _ (Nat.le_of_eq (fam_len _ _)),.w _ _ (Nat.le_of_eq (fam_len _ _)),.c _ rfl rfl,.c _ rfl rfl,.c _ rfl rfl,trivial⟩
  ·(all_goals (repeat' (first | exact ToAll.nil | exact famsTo.nil | exact famTo.nil | exact ToL.nil | exact ToR.nil | refine ToAll.cons ?_ ?_ | refine famsTo.cons ?_ ?_ | refine wt10 ?_ ?_ | exact To.undef _ | exact To.sc _ | exact To.hslL rfl rfl | exact To.asl _ _ _ _ _ _ rfl | exact To.ptrO rfl rfl rfl | exact To.mrefO rfl | exact To.nil rfl rfl rfl | exact wt1 | exact To.nilL | refine To.int ?_ | refine To.bool ?_ | refine To.hslL rfl ?_ | refine wt2 rfl ?_ ?_ ?_ | refine To.tupL ?_ | refine To.aggL ?_ | refine To.cptrL ?_ | refine To.fzp rfl rfl rfl ?_ | refine To.fzm rfl rfl ?_ | refine To.cloL ?_ ?_ | refine wt3 ?_ | refine wt4 ?_ | exact wt5 | refine wt6 ?_ | refine ToB.one ?_ | exact wt7 | ((with_reducible apply ToL.consE); case e9=>rfl) | refine wt8 ?_ | refine ToL.cons ?_ ?_ | exact wt11 | refine wt9 ?_ ?_ | refine wt12 ?_ | (with_reducible rfl) | assumption)); all_goals (first | rfl | assumption | (simp; done) | (simp; omega) | (rw[wrap_small (by omega) (by omega)]; done) | (rw[wrap_small (by omega) (by omega)]; omega) | (refine congrArg Nat.cast ?_; assumption) | skip))
   exact .yld _ _ _ _ rfl
  ·exact⟨⟨⟨_,rfl,ToB.one (ToL.cons (.sc _) (ToL.cons (.sc _) (ToL.cons (.sc _) ToL.nil)))⟩,trivial⟩,⟨⟨_,rfl,ToB.one (ToL.cons (To.nil rfl rfl rfl) ToL.nil)⟩,trivial⟩,⟨⟨_,rfl,toLp rfl rfl rfl⟩,trivial⟩,⟨⟨_,rfl,ToB.cds rfl []⟩,trivial⟩,trivial⟩
 rintro r hr
 unfold cdF
 refine AWP.seq ?_
 refine AWP.region ?_
 refine walkR ?_
 refine AWP.seq ?_
 refine AWP.condD rfl (fun hlt=>?_) (fun hge=>?_)
 ·have hcan:=can_ok hC hp hS hlt
  have hsucc:=actsN_succ p ls s r
  have hal:=actsN_len p ls s r
  refine AWP.skip ?_
  refine AWP.seq ?_
  refine AWP.block ?_
  refine AWP.seq ?_
  refine AWP.region ?_
  unfold candH worldH worldG boxW
  refine walkR ?_
  refine AWP.sub (fr':=(3,.cptr [.sc (.int .i64 (r:Int))])::cdF ls.length r) (H':=candH p ls s L (actsN p ls s r)) ?_ ?_
  ·(refine Sub.wgL p ls s b4 b4 (pendF ls.length s) [] [] [[(8,0)],[(9,0)],[(10,0)],[(11,0)]] ([nil3]::lB 11 (actsN p ls s r).length::[.lp L (capsR p) .ready none]::[[.cells 1 (cdsR (actsN p ls s r))]]) ?_ rfl rfl rfl rfl rfl rfl rfl (pend_same fun i hi=>fam_get hi) rho_b4 (candY rfl rfl rfl rfl rfl rfl rfl ⟨⟨⟨_,rfl,ToB.cds rfl _⟩,trivial⟩,trivial⟩) ⟨.c _ rfl rfl,.c _ rfl rfl,.c _ rfl rfl,.c _ rfl rfl,.w _ _ (Nat.le_of_eq (fam_len _ _)),.w _ _ (Nat.le_of_eq (fam_len _ _)),.w _ _ (Nat.le_of_eq (fam_len _ _)),.w _ _ (Nat.le_of_eq (fam_len _ _)),.c _ rfl rfl,.c _ rfl rfl,.c _ rfl rfl,trivial⟩; (try unfold cdF); (all_goals (repeat' (first | exact ToAll.nil | exact famsTo.nil | exact famTo.nil | exact ToL.nil | exact ToR.nil | refine ToAll.cons ?_ ?_ | refine famsTo.cons ?_ ?_ | refine wt10 ?_ ?_ | exact To.undef _ | exact To.sc _ | exact To.hslL rfl rfl | exact To.asl _ _ _ _ _ _ rfl | exact To.ptrO rfl rfl rfl | exact To.mrefO rfl | exact To.nil rfl rfl rfl | exact wt1 | exact To.nilL | refine To.int ?_ | refine To.bool ?_ | refine To.hslL rfl ?_ | refine wt2 rfl ?_ ?_ ?_ | refine To.tupL ?_ | refine To.aggL ?_ | refine To.cptrL ?_ | refine To.fzp rfl rfl rfl ?_ | refine To.fzm rfl rfl ?_ | refine To.cloL ?_ ?_ | refine wt3 ?_ | refine wt4 ?_ | exact wt5 | refine wt6 ?_ | refine ToB.one ?_ | exact wt7 | ((with_reducible apply ToL.consE); case e9=>rfl) | refine wt8 ?_ | refine ToL.cons ?_ ?_ | exact wt11 | refine wt9 ?_ ?_ | refine wt12 ?_ | (with_reducible rfl) | assumption)); all_goals (first | rfl | assumption | (simp; done) | (simp; omega) | (rw[wrap_small (by omega) (by omega)]; done) | (rw[wrap_small (by omega) (by omega)]; omega) | (refine congrArg Nat.cast ?_; assumption) | skip)); exact .yld _ _ _ _ rfl)
  unfold cdF
  refine AWP.seq ?_
  cases hc:canP p ls s r with
  | false=>
   rw[hc] at hcan hsucc
   rw[if_neg (by simp)] at hsucc
   refine AWP.region ?_
   refine walkR ?_
   refine Reg.pv (nlB rfl) rfl hcan (.sc _) (ToL.cons To.worldX (ToL.cons (.sc _) ToL.nil)) ?_
   refine walkX ?_
   refine⟨r+1,by omega,by omega,?_⟩
   rw[hsucc]
   (refine Sub.wgL p ls s b4 b4 (pendF ls.length s) [] [] [[(8,0)],[(9,0)],[(10,0)],[(11,0)]] ([nil3]::lB 11 (actsN p ls s r).length::[.lp L (capsR p) .ready none]::[[.cells 1 (cdsR (actsN p ls s r))]]) ?_ rfl rfl rfl rfl rfl rfl rfl (pend_same fun i hi=>fam_get hi) rho_b4 (candY rfl rfl rfl rfl rfl rfl rfl ⟨⟨⟨_,rfl,ToB.cds rfl _⟩,trivial⟩,trivial⟩) ⟨.c _ rfl rfl,.c _ rfl rfl,.c _ rfl rfl,.c _ rfl rfl,.w _ _ (Nat.le_of_eq (fam_len _ _)),.w _ _ (Nat.le_of_eq (fam_len _ _)),.w _ _ (Nat.le_of_eq (fam_len _ _)),.w _ _ (Nat.le_of_eq (fam_len _ _)),.c _ rfl rfl,.c _ rfl rfl,.c _ rfl rfl,trivial⟩; (try unfold cdF); (all_goals (repeat' (first | exact ToAll.nil | exact famsTo.nil | exact famTo.nil | exact ToL.nil | exact ToR.nil | refine ToAll.cons ?_ ?_ | refine famsTo.cons ?_ ?_ | refine wt10 ?_ ?_ | exact To.undef _ | exact To.sc _ | exact To.hslL rfl rfl | exact To.asl _ _ _ _ _ _ rfl | exact To.ptrO rfl rfl rfl | exact To.mrefO rfl | exact To.nil rfl rfl rfl | exact wt1 | exact To.nilL | refine To.int ?_ | refine To.bool ?_ | refine To.hslL rfl ?_ | refine wt2 rfl ?_ ?_ ?_ | refine To.tupL ?_ | refine To.aggL ?_ | refine To.cptrL ?_ | refine To.fzp rfl rfl rfl ?_ | refine To.fzm rfl rfl ?_ | refine To.cloL ?_ ?_ | refine wt3 ?_ | refine wt4 ?_ | exact wt5 | refine wt6 ?_ | refine ToB.one ?_ | exact wt7 | ((with_reducible apply ToL.consE); case e9=>rfl) | refine wt8 ?_ | refine ToL.cons ?_ ?_ | exact wt11 | refine wt9 ?_ ?_ | refine wt12 ?_ | (with_reducible rfl) | assumption)); all_goals (first | rfl | assumption | (simp; done) | (simp; omega) | (rw[wrap_small (by omega) (by omega)]; done) | (rw[wrap_small (by omega) (by omega)]; omega) | (refine congrArg Nat.cast ?_; assumption) | skip)); exact .yld _ _ _ _ rfl)
  | true=>
   rw[hc] at hcan hsucc
   rw[if_pos rfl] at hsucc
   refine AWP.rY rfl ?_
   refine walkR ?_
   refine Reg.pv (nlB rfl) rfl hcan (.sc _) (ToL.cons To.worldX (ToL.cons (.sc _) ToL.nil)) ?_
   refine walkR ?_
   refine⟨rfl,nlB rfl,10,0,rfl,?_⟩
   refine(yield_ok p ls s L hL (actsN p ls s r) (.act r) (by omega)).mono ?_
   rintro b H' ⟨rfl,rfl⟩
   refine walkX ?_
   refine⟨r+1,by omega,by omega,?_⟩
   rw[hsucc]
   have hl1:(actsN p ls s r).length+1=(actsN p ls s r++[Cd.act r]).length:=by simp
   rw[hl1]
   (refine Sub.wgL p ls s b4 b4 (pendF ls.length s) [] [] [[(8,0)],[(9,0)],[(10,0)],[(12,0)]] ([nil3]::lB 11 (actsN p ls s r++[Cd.act r]).length::[.lp L (capsR p) .ready none]::[[.cells 1 (cdsR (actsN p ls s r++[Cd.act r]))]]) ?_ rfl rfl rfl rfl rfl rfl rfl (pend_same fun i hi=>fam_get hi) rho_b4 (candY rfl rfl rfl rfl rfl rfl rfl ⟨⟨⟨_,rfl,ToB.cds rfl _⟩,trivial⟩,trivial⟩) ⟨.c _ rfl rfl,.c _ rfl rfl,.c _ rfl rfl,.c _ rfl rfl,.w _ _ (Nat.le_of_eq (fam_len _ _)),.w _ _ (Nat.le_of_eq (fam_len _ _)),.w _ _ (Nat.le_of_eq (fam_len _ _)),.w _ _ (Nat.le_of_eq (fam_len _ _)),.c _ rfl rfl,.c _ rfl rfl,.c _ rfl rfl,trivial⟩; (try unfold cdF); (all_goals (repeat' (first | exact ToAll.nil | exact famsTo.nil | exact famTo.nil | exact ToL.nil | exact ToR.nil | refine ToAll.cons ?_ ?_ | refine famsTo.cons ?_ ?_ | refine wt10 ?_ ?_ | exact To.undef _ | exact To.sc _ | exact To.hslL rfl rfl | exact To.asl _ _ _ _ _ _ rfl | exact To.ptrO rfl rfl rfl | exact To.mrefO rfl | exact To.nil rfl rfl rfl | exact wt1 | exact To.nilL | refine To.int ?_ | refine To.bool ?_ | refine To.hslL rfl ?_ | refine wt2 rfl ?_ ?_ ?_ | refine To.tupL ?_ | refine To.aggL ?_ | refine To.cptrL ?_ | refine To.fzp rfl rfl rfl ?_ | refine To.fzm rfl rfl ?_ | refine To.cloL ?_ ?_ | refine wt3 ?_ | refine wt4 ?_ | exact wt5 | refine wt6 ?_ | refine ToB.one ?_ | exact wt7 | ((with_reducible apply ToL.consE); case e9=>rfl) | refine wt8 ?_ | refine ToL.cons ?_ ?_ | exact wt11 | refine wt9 ?_ ?_ | refine wt12 ?_ | (with_reducible rfl) | assumption)); all_goals (first | rfl | assumption | (simp; done) | (simp; omega) | (rw[wrap_small (by omega) (by omega)]; done) | (rw[wrap_small (by omega) (by omega)]; omega) | (refine congrArg Nat.cast ?_; assumption) | skip)); exact .yld _ _ _ _ rfl)
 ·have e:r=ls.length:=by omega
  subst e
  refine AWP.exit ?_
  show AWP Tryz.prog F65.n 11 (pickI [1] F65.code) Q _ _
  refine AWP.sub ?_ h
  unfold cdF
  exact Sub.keep ⟨Le.refl _,Le.refl _,Le.refl _,Le.refl _,trivial⟩
end Go.Proofs.YtkjoolaahocgdaaGreat
