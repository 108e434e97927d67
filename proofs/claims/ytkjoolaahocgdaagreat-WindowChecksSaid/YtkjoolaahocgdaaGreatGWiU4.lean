import Derived.Test.YtkjoolaahocgdaaGreatGWiR1
import Derived.Test.YtkjoolaahocgdaaGreatGAvSo
namespace Go.Proofs.YtkjoolaahocgdaaGreat
open Go.Av Go.Proofs
set_option maxRecDepth 20000
def accO (ls:List Ln) (x:Pl):Option Ac:=match ls[x.1]? with
 | some L=>lookN x.2 L.acc
 | none=>none
def act0:Act:=⟨0,0,0,0,0,0,[]⟩
def actP (p:Pg) (x:Pl):Act:=(((p.acts[x.1]?).getD [])[x.2]?).getD act0
def raceB (p:Pg) (ls:List Ln) (o:Ord) (y x:Pl):Bool:=match accO ls y,accO ls x with
 | some c,some d=>decide (c.r=d.r) && decide (c.a=d.a) && cnfP (actP p y) (actP p x) && !befP ls o (actP p y) (actP p x) y x && !befP ls o (actP p x) (actP p y) x y
 | _,_=>false
def mk4 (y x:Pl):Pl4:=((Fin.ofNat 64 y.1,Fin.ofNat 128 y.2),(Fin.ofNat 64 x.1,Fin.ofNat 128 x.2))
theorem mk4_row {y x:Pl} (h1:y.1 < 64) (h2:y.2 < 128) (h3:x.1 < 64) (h4:x.2 < 128):raR (mk4 y x)=[.sc (.int .i64 (y.1:Int)),.sc (.int .i64 (y.2:Int)),.sc (.int .i64 (x.1:Int)),.sc (.int .i64 (x.2:Int))]:=by
 unfold raR raE raI mk4
 simp only[Fin.ofNat,Nat.mod_eq_of_lt h1,Nat.mod_eq_of_lt h2,Nat.mod_eq_of_lt h3,Nat.mod_eq_of_lt h4]
 rfl
abbrev RS:=List Pl×List Pl4
def stepR (p:Pg) (ls:List Ln) (o:Ord) (r:Nat) (s:RS) (i:Nat):RS:=match accO ls (r,i) with
 | none=>s
 | some _=>(s.1++[(r,i)],s.2++(s.1.filter fun y=>raceB p ls o y (r,i)).map fun y=>mk4 y (r,i))
def rowRa (p:Pg) (ls:List Ln) (o:Ord) (s:RS) (r:Nat):RS:=(List.range (lenA p r)).foldl (stepR p ls o r) s
def racesA (p:Pg) (ls:List Ln) (o:Ord):RS:=(List.range p.acts.length).foldl (rowRa p ls o) ([],[])
def racesP (p:Pg) (ls:List Ln) (o:Ord):List Pl4:=sortP (racesA p ls o).2
def SeenOK (p:Pg) (ls:List Ln) (s:List Pl):Prop:=∀ x∈s,x.1 < p.acts.length∧x.2 < lenA p x.1∧(accO ls x).isSome
theorem SeenOK.step {p:Pg} {ls:List Ln} {o:Ord} {s:RS} (h:SeenOK p ls s.1) {r i:Nat} (hr:r < p.acts.length) (hi:i < lenA p r):SeenOK p ls (stepR p ls o r s i).1:=by
 unfold stepR
 split
 ·exact h
 ·rename_i c hc
  intro x hx
  rcases List.mem_append.1 hx with hx | hx
  ·exact h x hx
  ·rw[List.mem_singleton.1 hx]
   exact⟨hr,hi,by rw[hc]; rfl⟩
theorem stepR_len {p:Pg} {ls:List Ln} {o:Ord} {s:RS} {r i:Nat}:(stepR p ls o r s i).1.length≤s.1.length+1∧(stepR p ls o r s i).2.length≤s.2.length+s.1.length:=by
 unfold stepR
 split
 ·omega
 ·refine⟨by simp,?_⟩
  rw[List.length_append,List.length_map]
  have:=List.length_filter_le (fun y=>raceB p ls o y (r,i)) s.1
  omega
def racesV (p:Pg):AV:=if (chkP p).1.2=0 then .tup [.list 4 ((racesP p (chkP p).2 (ordP (chkP p).2.length p (chkP p).2)).map raR),.sc (.int .i64 0)] else .tup [.list 4 [],.sc (.int .i64 (chkP p).1.2)]
instance:PRs ([]:List (List AV)):=⟨fun r h=>by cases h⟩
instance (l:List Pl4):PRs (l.map raR):=inferInstance
instance (p:Pg):PV (racesV p):=by unfold racesV; split<;>infer_instance
def rcF (p:Pg) (ls:List Ln) (o:Ord) (r:Nat) (s:RS):Fr:=[(1,.cptr [.sc (.int .i64 p.cells),.list 1 (progR p.acts)]),(4,.cptr [ckV p ls]),(8,.clo (.func 36) [] [.cptr [ckV p ls],.cptr [ordV ls.length o]]),(9,.hsl 0 0 0 s.1.length),(10,.hsl 1 0 0 s.2.length),(33,.list 1 (progR p.acts)),(34,.sc (.int .i64 (p.acts.length:Int))),(35,.sc (.int .i64 (r:Int)))]
def rcH (s:RS):Heap:=[[.cells 2 (plsR s.1)],[.cells 4 (s.2.map raR)]]
def LenR (s:RS) (m:Nat):Prop:=s.1.length≤m∧s.2.length≤m * m
theorem LenR.step {p:Pg} {ls:List Ln} {o:Ord} {s:RS} {m r i:Nat} (h:LenR s m):LenR (stepR p ls o r s i) (m+1):=by
 have h3:=stepR_len (p:=p) (ls:=ls) (o:=o) (s:=s) (r:=r) (i:=i)
 obtain⟨h1,h2⟩:=h
 have e:(m+1) * (m+1)=m * m+m+m+1:=by rw[Nat.add_mul,Nat.mul_add]; omega
 exact⟨by omega,by omega⟩
theorem LenR.mono {s:RS} {m n:Nat} (h:LenR s m) (hn:m≤n):LenR s n:=⟨Nat.le_trans h.1 hn,Nat.le_trans h.2 (Nat.mul_le_mul hn hn)⟩
theorem LenR.big {s:RS} {m:Nat} (h:LenR s m) (hm:m≤6500):s.1.length≤6500∧s.2.length≤42250000:=⟨Nat.le_trans h.1 hm,Nat.le_trans h.2 (Nat.mul_le_mul hm hm)⟩
theorem CallOK.fn {P:Program} {f:FuncId} {a:AV} {g:FuncId} {H:Heap} {R:AV→Heap→Prop} (h:CallOK P f [a,.clo (.func g) [] []] H R):CallOK P f [a,.sc (.func (.func g) #[] #[])] H R:=
 ⟨h.1,fun M J w cargs hl hr hH hM=>h.2 M J w cargs (by simpa using hl) (fun j c v hc hv=>by
  match j,hc with
  | 0,hc=>exact hr 0 c v hc hv
  | 1,hc=>
   have hc:some (AV.clo (.func g) [] [])=some c:=hc
   injection hc with hc
   subst hc
   exact Le.func g M J v (hr 1 _ v rfl hv)
  | j+2,hc=>simp at hc) hH hM⟩
def outK (p:Pg) (ls:List Ln) (o:Ord) (t:RS) (x:Pl) (k:Nat):List Pl4:=t.2++((t.1.take k).filter fun y=>raceB p ls o y x).map fun y=>mk4 y x
def rcK (p:Pg) (ls:List Ln) (o:Ord) (r i:Nat) (l:List Act) (d:Ac) (seen:List Pl) (k:Nat) (out:List Pl4):Fr:=(14,.cptr (plR (r,i)))::(15,.cptr (acR d))::(63,.hsl 0 0 0 seen.length)::(64,.sc (.int .i64 (seen.length:Int)))::(65,.sc (.int .i64 (k:Int)))::(11,.sc (.int .i64 (r:Int)))::(12,.list 7 (actsR l))::(41,.sc (.int .i64 (l.length:Int)))::(42,.sc (.int .i64 (i:Int)))::rcF p ls o r (seen,out)
set_option maxHeartbeats 16000000 in
theorem raB_ok (p:Pg) (ls:List Ln) (hC:CkOK p ls) (o:Ord) (hO:OOK p ls.length o) {r i:Nat} {l:List Act} {L:Ln} {d:Ac} (t:RS) (k:Nat) (h4:k < t.1.length) (hse:SeenOK p ls t.1) (hbig:t.1.length≤6500∧t.2.length≤42250000) (hra:p.acts[r]?=some l) (h3:i < l.length) (hL:ls[r]?=some L) (hL2:lookN i L.acc=some d) (Q:Exit→Fr→Heap→Prop):
  AWP Tryz.prog F15.n 0 (pickI [1,1,1,1,1,1,1,0,1,0,0,1,1,0,0,1,1,0,0,1,1,0,0,1,1,1,1,0,1,0,0,1,1,0] F15.code) (thenQ (fun fr H=>Sub 0 F15.n fr H (rcK p ls o r i l d t.1 k (outK p ls o t (r,i) (k+1))) (rcH (t.1,outK p ls o t (r,i) (k+1)))) Q)
   (rcK p ls o r i l d t.1 k (outK p ls o t (r,i) k)) (rcH (t.1,outK p ls o t (r,i) k)):=by
 show AWP _ _ _ (.block _ _) _ _ _
 have hn:=hC.len
 have hn64:=hC.n64
 have e1:=progR_len p.acts
 have ep:=plsR_len t.1
 have ha1:=act_ok p ls hra (gEg h3)
 have hy:=hse t.1[k] (List.getElem_mem h4)
 have hp1:=plsR_ix t.1 k h4
 have hok:outK p ls o t (r,i) (k+1)=outK p ls o t (r,i) k++if raceB p ls o t.1[k] (r,i)=true then[mk4 t.1[k] (r,i)] else[]:=by
  unfold outK
  rw[List.take_succ_eq_append_getElem h4,List.filter_append,List.map_append,List.append_assoc]
  congr 2
  by_cases h:raceB p ls o t.1[k] (r,i)=true
  ·rw[if_pos h]; simp[h]
  ·rw[if_neg h]; simp[h]
 have hol:(outK p ls o t (r,i) k).length≤42256500:=by
  unfold outK
  rw[List.length_append,List.length_map]
  have h1:=List.length_filter_le (fun y=>raceB p ls o y (r,i)) (t.1.take k)
  rw[List.length_take] at h1
  omega
 rw[hok]
 generalize outK p ls o t (r,i) k=out at *
 generalize t.1[k]=y at *
 obtain⟨a,j⟩:=y
 obtain⟨y1,y2,y3⟩:=hy
 dsimp only at y1 y2 y3
 have hra2:=gEg y1
 have hlen2:=lenA_get hra2
 obtain⟨L2,hL2',hO2⟩:=hC.get hra2
 generalize p.acts[a]=l2 at *
 have hx2:=gEg (show j < l2.length by omega)
 have ha2:=act_ok p ls hra2 hx2
 have hr2:=linesR_get hL2'
 unfold lnR epR at hr2
 have hac2:accO ls (a,j)=lookN j L2.acc:=by unfold accO; simp only[hL2']
 have hac1:accO ls (r,i)=some d:=by unfold accO; simp only[hL]; exact hL2
 obtain⟨c,hc2⟩:=Option.isSome_iff_exists.1 y3
 have hac3:=hc2
 rw[hac2] at hc2
 have hlk2:=mfind_acc j L2.acc
 rw[hc2] at hlk2
 have hap1:actP p (r,i)=l[i]:=by unfold actP; simp only[hra]; simp[h3]
 have hap2:actP p (a,j)=l2[j]:=by unfold actP; simp only[hra2]; simp[show j < l2.length by omega]
 have hrb:raceB p ls o (a,j) (r,i)=(decide (c.r=d.r) && decide (c.a=d.a) && cnfP l2[j] l[i] && !befP ls o l2[j] l[i] (a,j) (r,i) && !befP ls o l[i] l2[j] (r,i) (a,j)):=by
  unfold raceB
  rw[hac1,hac3,hap1,hap2]
 rw[hrb]
 have hcf:=cnf_ok l2[j] l[i]
 have hb1:=bef_ok hC hO (a:=(a,j)) (b:=(r,i)) hra2 hx2 hra (gEg h3)
 have hb2:=bef_ok hC hO (a:=(r,i)) (b:=(a,j)) hra (gEg h3) hra2 hx2
 generalize cnfP l2[j] l[i]=q1 at *
 generalize befP ls o l2[j] l[i] (a,j) (r,i)=q2 at *
 generalize befP ls o l[i] l2[j] (r,i) (a,j)=q3 at *
 generalize l2[j]=x2 at *
 generalize l[i]=x1 at *
 have hd1:(c.r == d.r)=decide (c.r=d.r):=by rw[Bool.eq_iff_iff]; simp
 have hd2:(c.a == d.a)=decide (c.a=d.a):=by rw[Bool.eq_iff_iff]; simp
 dsimp only at hb1 hb2 ⊢
 unfold ckV plN at *
 unfold actR at ha1 ha2 hcf
 unfold rcK rcF rcH plR acR
 refine walkX ?_
 refine DK.o rfl (dstep_lookC rfl rfl hlk2) ?_
 refine walkX ?_
 refine DK.nil ⟨by kernel_rfl,?_⟩
 unfold acR
 refine walkX ?_
 rw[hd1]
 generalize decide (c.r=d.r)=g1 at *
 cases g1 with
 | false=>
  refine walkX ?_
  refine DK.nil ⟨by kernel_rfl,?_⟩
  refine walkX ?_
  rw[if_neg (by simp),List.append_nil]
  exact Sub.w [] [[(0,0)],[(1,0)]]
 | true=>
  refine walkX ?_
  rw[hd2]
  generalize decide (c.a=d.a)=g2 at *
  cases g2 with
  | false=>
   refine walkX ?_
   refine DK.nil ⟨by kernel_rfl,?_⟩
   refine walkX ?_
   rw[if_neg (by simp),List.append_nil]
   exact Sub.w [] [[(0,0)],[(1,0)]]
  | true=>
   refine walkX ?_
   cases q1 with
   | false=>
    refine walkX ?_
    refine DK.nil ⟨by kernel_rfl,?_⟩
    refine walkX ?_
    rw[if_neg (by simp),List.append_nil]
    exact Sub.w [] [[(0,0)],[(1,0)]]
   | true=>
    refine walkX ?_
    refine DK.cv rfl rfl hb1 ?_
    refine walkX ?_
    cases q2 with
    | true=>
     refine walkX ?_
     refine DK.nil ⟨by kernel_rfl,?_⟩
     refine walkX ?_
     rw[if_neg (by simp),List.append_nil]
     exact Sub.w [] [[(0,0)],[(1,0)]]
    | false=>
     refine walkX ?_
     refine DK.cv rfl rfl hb2 ?_
     refine walkX ?_
     cases q3 with
     | true=>
      refine walkX ?_
      refine DK.nil ⟨by kernel_rfl,?_⟩
      refine walkX ?_
      rw[if_neg (by simp),List.append_nil]
      exact Sub.w [] [[(0,0)],[(1,0)]]
     | false=>
      refine walkX ?_
      refine DK.nil ⟨by kernel_rfl,?_⟩
      refine walkX ?_
      rw[if_pos (by simp)]
      have hmr:=mk4_row (y:=(a,j)) (x:=(r,i)) (by show a < 64; omega) (by have:=hO2.len; show j < 128; omega) (by have:=(gEs.1 hra).1; show r < 64; omega) (by have:=(hC.ln _ _ _ hra hL).len; show i < 128; omega)
      dsimp only
      rw[List.map_append,List.length_append]
      show Sub _ _ _ _ _ [_,[.cells 4 (out.map raR++[raR (mk4 (a,j) (r,i))])]]
      rw[hmr]
      exact Sub.w [] [[(0,0)],[(6,0)]]
theorem ordGo_ok {n:Nat} {p:Pg} {ls:List Ln} (hF:FOK p ls):∀(f:Nat) (o:Ord),OOK p n o→OOK p n (ordGo n p ls f o)
 | 0,_,h=>h
 | f+1,o,h=>by
  have hp:=(PInv.pass (ls:=ls) hF h).ok
  unfold ordGo
  split
  ·exact ordGo_ok hF f _ hp
  ·exact hp
theorem ordP_ok (p:Pg) (ls:List Ln) (hC:CkOK p ls):OOK p ls.length (ordP ls.length p ls):=ordGo_ok hC.fok _ _ (ordS_ok p (by have:=hC.n64; have:=hC.len; omega))
set_option maxHeartbeats 16000000 in
theorem races_ok (p:Pg) (hp:POK p):PureRun Tryz.prog 15 [progV p] (racesV p):=by
 refine PureRun.mkI cF15 (nlB rfl) ?_
 have hc:=checkc_ok p hp
 unfold chkV at hc
 unfold racesV
 unfold plA progV at *
 by_cases h:(chkP p).1.2=0
 ·rw[if_pos h] at hc ⊢
  have hC:=chkP_ok h
  rw[h] at hc
  generalize (chkP p).2=ls at *
  have ho:=order_ck p ls hC hp
  have hOO:OOK p ls.length (ordP ls.length p ls):=ordP_ok p ls hC
  generalize ordP ls.length p ls=o at *
  refine walkX ?_
  have e1:=progR_len p.acts
  have hn:=hC.len
  have hn64:=hC.n64
  refine AWP.loop (σ:=Nat×RS) (fun s=>rcF p ls o s.1 s.2) (fun s=>rcH s.2) (fun s=>s.1≤p.acts.length∧s.2=(List.range s.1).foldl (rowRa p ls o) ([],[])∧LenR s.2 (s.1 * 100)∧SeenOK p ls s.2.1) (fun s=>p.acts.length - s.1) (0,([],[])) ⟨Nat.zero_le _,rfl,⟨Nat.zero_le _,Nat.zero_le _⟩,fun x hx=>by cases hx⟩ ?_ ?_
  ·show Sub _ _ _ _ _ [[.cells 2 []],[.cells 4 []]]
   unfold rcF
   exact Sub.w [2,4] [[(4,0)],[(5,0)]]
  rintro⟨r,s⟩ ⟨hr,hs,hlr,hse⟩
  dsimp only at hr hs hlr hse ⊢
  unfold rcF
  refine walkX ?_
  refine AWP.condD rfl (fun h=>?_) (fun h=>?_)
  ·have hra:=gEg (show r < p.acts.length by omega)
   have hrow:=progR_get hra
   have hlen:=lenA_get hra
   obtain⟨L,hL,hO⟩:=hC.get hra
   have hl100:=hO.len
   have hst:=foldl_range (f:=rowRa p ls o) (a:=([],[])) (t:=r)
   rw[← hs] at hst
   unfold rowRa at hst
   rw[hlen] at hst
   generalize p.acts[r]=l at *
   have e2:=actsR_len l
   unfold rcH
   refine walkX ?_
   rw[e2]
   refine AWP.loop (σ:=Nat×RS) (fun s=>(11,.sc (.int .i64 (r:Int)))::(12,.list 7 (actsR l))::(41,.sc (.int .i64 (l.length:Int)))::(42,.sc (.int .i64 (s.1:Int)))::rcF p ls o r s.2) (fun s=>rcH s.2) (fun t=>t.1≤l.length∧t.2=(List.range t.1).foldl (stepR p ls o r) s∧LenR t.2 (r * 100+t.1)∧SeenOK p ls t.2.1) (fun s=>l.length - s.1) (0,s) ⟨Nat.zero_le _,rfl,hlr,hse⟩ ?_ ?_
   ·unfold rcF rcH
    exact Sub.w [] [[(0,0)],[(1,0)]]
   rintro⟨i,t⟩ ⟨hi,ht,hlt,hst0⟩
   dsimp only at hi ht hlt hst0 ⊢
   unfold rcF rcH
   refine walkX ?_
   refine AWP.condD rfl (fun h3=>?_) (fun h3=>?_)
   ·have hst2:=foldl_range (f:=stepR p ls o r) (a:=s) (t:=i)
    rw[← ht] at hst2
    have hx:=gEg h3
    have hlk:=mfind_acc i L.acc
    have hr1:=linesR_get hL
    unfold lnR epR at hr1
    have hac:accO ls (r,i)=lookN i L.acc:=by unfold accO; simp only[hL]
    have hln:=hlt.step (p:=p) (ls:=ls) (o:=o) (r:=r) (i:=i)
    have hsn:=hst0.step (o:=o) (show r < p.acts.length by omega) (show i < lenA p r by omega)
    have hbig:=hlt.big (by omega)
    cases hL2:lookN i L.acc with
    | none=>
     rw[hL2] at hlk
     have e5:stepR p ls o r t i=t:=by unfold stepR; rw[hac,hL2]
     rw[e5] at hst2 hln hsn
     refine walkX ?_
     refine Reg.o rfl (dstep_lookC rfl rfl hlk) ?_
     refine walkX ?_
     refine⟨(i+1,t),⟨by omega,hst2.symm,hln,hsn⟩,by omega,?_⟩
     exact Sub.w [] [[(0,0)],[(1,0)]]
    | some d=>
     rw[hL2] at hlk
     have e5:stepR p ls o r t i=(t.1++[(r,i)],t.2++(t.1.filter fun y=>raceB p ls o y (r,i)).map fun y=>mk4 y (r,i)):=by unfold stepR; rw[hac,hL2]
     rw[e5] at hst2 hln hsn
     refine walkX ?_
     refine Reg.o rfl (dstep_lookC rfl rfl hlk) ?_
     refine walkX ?_
     have ep:=plsR_len t.1
     rw[show(List.length t.1)=t.1.length from rfl]
     refine AWP.loop (fun k:Nat=>(14,.cptr (plR (r,i)))::(15,.cptr (acR d))::(63,.hsl 0 0 0 t.1.length)::(64,.sc (.int .i64 (t.1.length:Int)))::(65,.sc (.int .i64 (k:Int)))::(11,.sc (.int .i64 (r:Int)))::(12,.list 7 (actsR l))::(41,.sc (.int .i64 (l.length:Int)))::(42,.sc (.int .i64 (i:Int)))::rcF p ls o r (t.1,outK p ls o t (r,i) k)) (fun k=>rcH (t.1,outK p ls o t (r,i) k)) (fun k=>k≤t.1.length) (fun k=>t.1.length - k) 0 (Nat.zero_le _) ?_ ?_
     ·have ho0:outK p ls o t (r,i) 0=t.2:=by unfold outK; simp
      rw[ho0]
      unfold rcF rcH plR acR
      exact Sub.w [] [[(0,0)],[(1,0)]]
     rintro k hk
     unfold rcF rcH
     refine walkX ?_
     refine AWP.condD rfl (fun h4=>?_) (fun h4=>?_)
     ·refine AWP.skip ?_
      refine AWP.seq ?_
      refine AWP.sub (fr':=rcK p ls o r i l d t.1 k (outK p ls o t (r,i) k)) (H':=rcH (t.1,outK p ls o t (r,i) k)) ?_ ?_
      ·exact Sub.keep (by unfold rcK rcF; exact⟨Le.refl _,Le.refl _,Le.refl _,Le.refl _,Le.refl _,Le.refl _,Le.refl _,Le.refl _,Le.refl _,Le.refl _,Le.refl _,Le.refl _,Le.refl _,Le.refl _,Le.refl _,Le.refl _,Le.refl _,trivial⟩)
      refine AWP.joinT0 _ _ (raB_ok p ls hC o hOO t k h4 hst0 hbig hra h3 hL hL2 _) ?_
      unfold rcK rcF rcH
      refine walkX ?_
      refine⟨k+1,by omega,by omega,?_⟩
      exact Sub.w [] [[(0,0)],[(1,0)]]
     ·have hk2:k=t.1.length:=by omega
      subst hk2
      have hout:outK p ls o t (r,i) t.1.length=t.2++(t.1.filter fun y=>raceB p ls o y (r,i)).map fun y=>mk4 y (r,i):=by unfold outK; rw[List.take_length]
      rw[hout]
      generalize t.2++(t.1.filter fun y=>raceB p ls o y (r,i)).map (fun y=>mk4 y (r,i))=out at *
      unfold plR
      dsimp only
      refine walkX ?_
      refine⟨(i+1,(t.1++[(r,i)],out)),⟨by omega,hst2.symm,hln,hsn⟩,by omega,?_⟩
      dsimp only
      rw[plsR_snoc,List.length_append]
      unfold plR
      exact Sub.w [] [[(3,0)],[(1,0)]]
   ·have hi2:i=l.length:=by omega
    subst hi2
    refine walkX ?_
    refine⟨(r+1,t),⟨by omega,by rw[ht]; exact hst.symm,hlt.mono (by rw[Nat.add_mul]; omega),hst0⟩,by omega,?_⟩
    exact Sub.w [] [[(0,0)],[(1,0)]]
  ·have hr2:r=p.acts.length:=by omega
   subst hr2
   have hb2:=hlr.big (by omega)
   have hrp:racesP p ls o=sortP s.2:=by unfold racesP racesA; rw[← hs]
   rw[hrp]
   refine AWP.exit ?_
   refine AWP.sub (fr':=[(10,.hsl 0 0 0 s.2.length)]) (H':=[[.cells 4 (s.2.map raR)]]) ?_ ?_
   ·unfold rcH
    exact Sub.w [] [[(1,0)]]
   refine AWP.seq ?_
   refine AWP.region ?_
   refine Reg.o rfl rfl ?_
   refine Reg.c (Nat.zero_le _) rfl ((CallOK.fn (sort_ok s.2 (by omega))).mono ?_)
   rintro res H' ⟨rfl,rfl⟩
   have hsl:((sortP s.2).map raR).length=s.2.length:=by rw[List.length_map]; exact List.length_mergeSort _
   refine walkX ?_
   refine EndP.mk (.inr rfl) rfl rfl ?_
   exact To.tupL (ToL.cons (To.fz rfl rfl hsl rfl (prs _)) (ToL.cons (.sc _) ToL.nil))
 ·rw[if_neg h] at hc ⊢
  generalize (chkP p).1.2=k at *
  have e:(k != 0)=true:=by simp[h]
  refine walkX ?_
  rw[e]
  refine walkX ?_
  exact EndP.w
structure Pr where
 d:Nat
 q:List Nat
 g:List (Nat×Int)
structure St where
 seed:Nat
 ps:List Pr
 mem:List (List Int)
 held:List (List (Nat×Int))
def pr0:Pr:=⟨0,[],[]⟩
def prAt (s:St) (r:Nat):Pr:=(s.ps[r]?).getD pr0
def memAt (s:St) (r:Nat):List Int:=(s.mem[r]?).getD []
def heldAt (s:St) (r:Nat):List (Nat×Int):=(s.held[r]?).getD []
def retE (l:List (Nat×Int)):List (Value×AV):=l.map fun x=>(.int .i64 (x.1:Int),.sc (.int .i64 x.2))
instance (l:List (Nat×Int)):PM (retE l):=⟨fun x hx=>by
 obtain⟨a,_,rfl⟩:=List.mem_map.1 hx
 exact .sc _⟩
theorem mfind_ret (i:Nat) (l:List (Nat×Int)):mfind .i64 (i:Int) (retE l)=some ((lookN i l).map fun a=>.sc (.int .i64 a)):=mfind_lookN (fun a:Int=>.sc (.int .i64 a)) i l
def prV (x:Pr):List AV:=[.sc (.int .i64 (x.d:Int)),.list 1 (natsR x.q),.tmap (retE x.g)]
instance (x:Pr):PR (prV x):=by unfold prV; infer_instance
def procsV (n:Nat) (s:St):List (List AV):=(List.range n).map fun r=>prV (prAt s r)
def memV (n:Nat) (s:St):List (List AV):=row1 n fun r=>.list 1 (intsR (memAt s r))
def heldV (n:Nat) (s:St):List (List AV):=row1 n fun r=>.tmap (retE (heldAt s r))
instance (n:Nat) (s:St):PRs (procsV n s):=⟨fun r hr=>by
 obtain⟨a,_,rfl⟩:=List.mem_map.1 hr
 exact pr (prV (prAt s a))⟩
instance (n:Nat) (s:St):PRs (memV n s):=inferInstanceAs (PRs (row1 n fun r=>AV.list 1 (intsR (memAt s r))))
instance (n:Nat) (s:St):PRs (heldV n s):=inferInstanceAs (PRs (row1 n fun r=>AV.tmap (retE (heldAt s r))))
theorem procsV_len (n:Nat) (s:St):(procsV n s).length=n:=by simp[procsV]
theorem procsV_ix {n r:Nat} {s:St} (h:r < n):rowIx (procsV n s) (r:Int)=some (prV (prAt s r)):=by
 rw[rowIx_nat]
 simp[procsV,h]
theorem heldV_ix {n r:Nat} {s:St} (h:r < n):rowIx (heldV n s) (r:Int)=some [.tmap (retE (heldAt s r))]:=by
 rw[rowIx_nat]
 exact row1_get h
def worldV (p:Pg) (ls:List Ln) (s:St):AV:=.cptr [ckV p ls,.sc (.int .u64 (s.seed:Int)),.list 3 (procsV ls.length s),.list 1 (memV ls.length s),.list 1 (heldV ls.length s)]
instance (p:Pg) (ls:List Ln) (s:St):PV (worldV p ls s):=by unfold worldV; infer_instance
def procsH (n:Nat) (s:St) (b:Nat→Nat×Nat):List (List AV):=(List.range n).map fun r=>[.sc (.int .i64 ((prAt s r).d:Int)),.hsl (b r).1 (b r).2 0 (prAt s r).q.length,.mref 5 r]
def memH (n:Nat) (s:St):List (List AV):=row1 n fun r=>.hsl 6 r 0 (memAt s r).length
def heldH (n:Nat):List (List AV):=row1 n fun r=>.mref 7 r
def boxW (p:Pg) (ls:List Ln) (seed:Nat):List AV:=[ckV p ls,.sc (.int .u64 (seed:Int)),.hsl 1 0 0 ls.length,.hsl 2 0 0 ls.length,.hsl 3 0 0 ls.length]
def pendF (n:Nat) (s:St):List Blk:=fam n fun r=>.cells 1 (natsR (prAt s r).q)
def retF (n:Nat) (s:St):List Blk:=fam n fun r=>.map (retE (prAt s r).g)
def memF (n:Nat) (s:St):List Blk:=fam n fun r=>.cells 1 (intsR (memAt s r))
def heldF (n:Nat) (s:St):List Blk:=fam n fun r=>.map (retE (heldAt s r))
def b4 (r:Nat):Nat×Nat:=(4,r)
def worldG (p:Pg) (ls:List Ln) (s:St) (b:Nat→Nat×Nat) (F4:List Blk):Heap:=
 [[.cells 5 [boxW p ls s.seed]],[.cells 3 (procsH ls.length s b)],[.cells 1 (memH ls.length s)],[.cells 1 (heldH ls.length)],F4,retF ls.length s,memF ls.length s,heldF ls.length s]
def worldH (p:Pg) (ls:List Ln) (s:St):Heap:=worldG p ls s b4 (pendF ls.length s)
theorem procsH_len (n:Nat) (s:St) (b:Nat→Nat×Nat):(procsH n s b).length=n:=by simp[procsH]
theorem procsH_get {n r:Nat} {s:St} {b:Nat→Nat×Nat} (h:r < n):(procsH n s b)[r]?=some [.sc (.int .i64 ((prAt s r).d:Int)),.hsl (b r).1 (b r).2 0 (prAt s r).q.length,.mref 5 r]:=by simp[procsH,h]
theorem memH_len (n:Nat) (s:St):(memH n s).length=n:=row1_len _ _
theorem heldH_len (n:Nat):(heldH n).length=n:=row1_len _ _
theorem memH_get {n r:Nat} {s:St} (h:r < n):(memH n s)[r]?=some [.hsl 6 r 0 (memAt s r).length]:=row1_get h
theorem heldH_get {n r:Nat} (h:r < n):(heldH n)[r]?=some [.mref 7 r]:=row1_get h
theorem hget_app1 {H G:Heap} {g i:Nat} {x:Blk} (h:hget H g i=some x):hget (H++G) g i=some x:=by
 rw[hget_app_lt (hget_isSome_lt (by rw[h]; rfl))]
 exact h
theorem To.world {n:Nat} {p:Pg} {ls:List Ln} {s:St} {H:Heap} {ρ:Nat→Nat→Option (Nat×Nat)} (h0:hget H 0 0=some (.cells 5 [boxW p ls s.seed])) (h1:hget H 1 0=some (.cells 3 (procsH ls.length s b4))) (h2:hget H 2 0=some (.cells 1 (memH ls.length s)))
  (h3:hget H 3 0=some (.cells 1 (heldH ls.length))) (h4:∀ r,r < ls.length→hget H 4 r=some (.cells 1 (natsR (prAt s r).q))) (h5:∀ r,r < ls.length→hget H 5 r=some (.map (retE (prAt s r).g)))
  (h6:∀ r,r < ls.length→hget H 6 r=some (.cells 1 (intsR (memAt s r)))) (h7:∀ r,r < ls.length→hget H 7 r=some (.map (retE (heldAt s r)))):To (ToT H n (notIn [])) ρ (.ptr 0 0 0 0) (worldV p ls s):=by
 refine To.fzp h0 rfl rfl ?_
 unfold boxW
 refine To.cptrL (ToL.cons (.pure (pv _)) (ToL.cons (.sc _) (ToL.cons ?_ (ToL.cons ?_ (ToL.cons ?_ ToL.nil)))))
 ·refine To.fzT h1 rfl (procsH_len _ _ _) (To.listR ?_)
  unfold procsH procsV
  refine ToR.map fun r hr=>?_
  have hr:=List.mem_range.1 hr
  exact ToL.cons (.sc _) (ToL.cons (To.fz (h4 r hr) rfl (natsR_len _) rfl (prs _)) (ToL.cons (To.fzm (h5 r hr) rfl (.pure (pv (.tmap (retE (prAt s r).g))))) ToL.nil))
 ·refine To.fzT h2 rfl (memH_len _ _) (To.row1 fun r hr=>?_)
  exact To.fz (h6 r hr) rfl (intsR_len _) rfl (prs _)
 ·refine To.fzT h3 rfl (heldH_len _) (To.row1 fun r hr=>?_)
  exact To.fzm (h7 r hr) rfl (.pure (pv (.tmap (retE (heldAt s r)))))
theorem To.worldH {n:Nat} {p:Pg} {ls:List Ln} {s:St} {G:Heap} {ρ:Nat→Nat→Option (Nat×Nat)}:To (ToT (worldH p ls s++G) n (notIn [])) ρ (.ptr 0 0 0 0) (worldV p ls s):=
 To.world (hget_app1 rfl) (hget_app1 rfl) (hget_app1 rfl) (hget_app1 rfl) (fun _ hr=>hget_app1 (fam_get hr)) (fun _ hr=>hget_app1 (fam_get hr)) (fun _ hr=>hget_app1 (fam_get hr)) (fun _ hr=>hget_app1 (fam_get hr))
theorem idxP_any {α:Type} (t:α→Bool):∀ l:List α,decide (0≤idxP t l)=l.any t
 | []=>rfl
 | y::l=>by
  have ih:=idxP_any t l
  have h:=(idxP_ge t l).1
  rw[List.any_cons,← ih]
  show decide (0≤if t y=true then 0 else if idxP t l < 0 then -1 else idxP t l+1)=_
  by_cases h1:t y=true
  ·rw[if_pos h1,h1]; rfl
  ·rw[if_neg h1,show t y=false by simpa using h1]
   by_cases h2:idxP t l < 0
   ·rw[if_pos h2]; simp; omega
   ·rw[if_neg h2]; simp; omega
def TestsN (f:AV) (t:Nat→Bool) (l:List Nat):Prop:=∀ x∈l,Does f [.sc (.int .i64 (x:Int))] (.sc (.bool (t x)))
def TestsP (f:AV) (t:Pl→Bool) (l:List Pl):Prop:=∀ x∈l,Does f [.agg (plR x)] (.sc (.bool (t x)))
set_option maxHeartbeats 4000000 in
theorem idxn_ok (l:List Nat) {f:AV} [PV f] (t:Nat→Bool) (hf:TestsN f t l) (hl:l.length≤1000000):PureRun Tryz.prog 147 [.list 1 (natsR l),f] (.sc (.int .i64 (idxP t l))):=by
 refine PureRun.mkI cF147 (nlB rfl) ?_
 have e0:=natsR_len l
 refine walkX ?_
 refine AWP.loop (fun k:Nat=>[(0,.list 1 (natsR l)),(1,f),(6,.list 1 (natsR l)),(7,.sc (.int .i64 (l.length:Int))),(8,.sc (.int .i64 (k:Int)))])
  (fun k=>[]) (fun k=>k≤l.length∧∀(j:Nat) (hj:j < l.length),j < k→t l[j]=false) (fun k=>l.length - k) 0 ⟨Nat.zero_le _,fun j hj h=>by omega⟩ ?_ ?_
 ·exact Sub.w [] []
 rintro k ⟨hk,hb⟩
 refine walkX ?_
 refine AWP.condD rfl (fun h=>?_) (fun h=>?_)
 ·have hr:=natsR_ix l k h
  obtain⟨g,cs,hfe,hp⟩:Does f [.sc (.int .i64 ((l[k]:Nat):Int))] (.sc (.bool (t l[k]))):=hf l[k] (List.getElem_mem h)
  have h1:=idxP_at t l k h
  have h2:t l[k]=false→∀(j:Nat) (hj:j < l.length),j < k+1→t l[j]=false:=fun e j hj hjk=>by
   by_cases e:j=k
   ·subst e; assumption
   ·exact hb j hj (by omega)
  generalize l[k]=x at *
  generalize ht:t x=b at *
  subst hfe
  refine walkX ?_
  cases b with
  | true=>
   rw[h1 rfl hb]
   refine walkX ?_
   exact EndP.w
  | false=>
   refine walkX ?_
   refine⟨k+1,⟨by omega,h2 rfl⟩,by omega,?_⟩
   exact Sub.w [] []
 rw[idxP_not t l fun j hj=>hb j hj (by omega)]
 refine walkX ?_
 exact EndP.w
set_option maxHeartbeats 4000000 in
theorem idxp_ok (l:List Pl) {f:AV} [PV f] (t:Pl→Bool) (hf:TestsP f t l) (hl:l.length≤1000000):PureRun Tryz.prog 137 [.list 2 (plsR l),f] (.sc (.int .i64 (idxP t l))):=by
 refine PureRun.mkI cF137 (nlB rfl) ?_
 have e0:=plsR_len l
 refine walkX ?_
 refine AWP.loop (fun k:Nat=>[(0,.list 2 (plsR l)),(1,f),(6,.list 2 (plsR l)),(7,.sc (.int .i64 (l.length:Int))),(8,.sc (.int .i64 (k:Int)))])
  (fun k=>[]) (fun k=>k≤l.length∧∀(j:Nat) (hj:j < l.length),j < k→t l[j]=false) (fun k=>l.length - k) 0 ⟨Nat.zero_le _,fun j hj h=>by omega⟩ ?_ ?_
 ·exact Sub.w [] []
 rintro k ⟨hk,hb⟩
 refine walkX ?_
 refine AWP.condD rfl (fun h=>?_) (fun h=>?_)
 ·have hr:=plsR_ix l k h
  obtain⟨g,cs,hfe,hp⟩:Does f [.agg (plR l[k])] (.sc (.bool (t l[k]))):=hf l[k] (List.getElem_mem h)
  have h1:=idxP_at t l k h
  have h2:t l[k]=false→∀(j:Nat) (hj:j < l.length),j < k+1→t l[j]=false:=fun e j hj hjk=>by
   by_cases e:j=k
   ·subst e; assumption
   ·exact hb j hj (by omega)
  generalize l[k]=x at *
  generalize ht:t x=b at *
  unfold plR at hr hp
  subst hfe
  refine walkX ?_
  cases b with
  | true=>
   rw[h1 rfl hb]
   refine walkX ?_
   exact EndP.w
  | false=>
   refine walkX ?_
   refine⟨k+1,⟨by omega,h2 rfl⟩,by omega,?_⟩
   exact Sub.w [] []
 rw[idxP_not t l fun j hj=>hb j hj (by omega)]
 refine walkX ?_
 exact EndP.w
theorem anyn_ok (l:List Nat) (g:Nat) (cs:List AV) [PR cs] (t:Nat→Bool) (hf:TestsN (.clo (.func g) [] cs) t l) (hl:l.length≤1000000):PureRun Tryz.prog 138 [.list 1 (natsR l),.clo (.func g) [] cs] (.sc (.bool (l.any t))):=by
 refine PureRun.mkI cF138 (nlB rfl) ?_
 have h:=idxn_ok l t hf hl
 rw[← idxP_any]
 generalize idxP t l=k at *
 refine walkX ?_
 exact EndP.w
theorem anyp_ok (l:List Pl) (g:Nat) (cs:List AV) [PR cs] (t:Pl→Bool) (hf:TestsP (.clo (.func g) [] cs) t l) (hl:l.length≤1000000):PureRun Tryz.prog 114 [.list 2 (plsR l),.clo (.func g) [] cs] (.sc (.bool (l.any t))):=by
 refine PureRun.mkI cF114 (nlB rfl) ?_
 have h:=idxp_ok l t hf hl
 rw[← idxP_any]
 generalize idxP t l=k at *
 refine walkX ?_
 exact EndP.w
def acN (ls:List Ln) (a:Pl):Ac:=(accO ls a).getD ⟨0,0,0⟩
theorem doneN_acN (ls:List Ln) (a:Pl):doneN ls a=(acN ls a).d:=by
 unfold doneN acN accO
 cases ls[a.1]? with
 | none=>rfl
 | some L=>simp only; cases lookN a.2 L.acc<;>rfl
theorem acc_look {ls:List Ln} {r i:Nat} {L:Ln} (hL:ls[r]?=some L) {g k:Nat} {fr:Fr} {H:Heap} {x ix:Operand} (h1:ev fr x=.tmap (accE L.acc)) (h2:ev fr ix=.sc (.int .i64 (i:Int))):
  dstep g k (.lookup (.agg [.sc (.int .i64 0),.sc (.int .i64 0),.sc (.int .i64 0)]) .i64 x ix false) fr H=some (.agg (acR (acN ls (r,i))),H):=by
 have hlk:=mfind_acc i L.acc
 unfold acN accO
 simp only[hL]
 cases hL2:lookN i L.acc with
 | none=>
  rw[hL2] at hlk
  exact dstep_lookC h1 h2 hlk
 | some c=>
  rw[hL2] at hlk
  exact dstep_lookC h1 h2 hlk
set_option maxHeartbeats 4000000 in
theorem clrT_ok (p:Pg) (ls:List Ln) (s:St) {r:Nat} (j i:Nat) (hr:r < ls.length):PureRun Tryz.prog 139 [.sc (.int .i64 (i:Int)),.cptr [worldV p ls s],.cptr (plR (r,j))] (.sc (.bool (decide (doneN ls (r,i)=j)))):=by
 refine PureRun.mkI cF139 (nlB rfl) ?_
 have hL:=gEg hr
 have hr1:=linesR_get hL
 unfold lnR epR at hr1
 rw[doneN_acN]
 have hlk:=fun g k fr H x ix h1 h2=>acc_look (g:=g) (k:=k) (fr:=fr) (H:=H) (x:=x) (ix:=ix) (i:=i) hL h1 h2
 generalize acN ls (r,i)=c at *
 generalize ls[r]=L at *
 unfold worldV ckV plR acR at *
 dsimp only at *
 refine walkX ?_
 refine DK.o rfl (hlk _ _ _ _ _ _ rfl rfl) ?_
 refine walkX ?_
 refine DK.nil ⟨by kernel_rfl,?_⟩
 refine walkX ?_
 exact EndP.w
def clearP (ls:List Ln) (s:St) (x:Pl):Bool:=!((prAt s x.1).q.any fun i=>decide (doneN ls (x.1,i)=x.2))
set_option maxHeartbeats 4000000 in
theorem clear_ok (p:Pg) (ls:List Ln) (s:St) {r j:Nat} (hr:r < ls.length) (hq:(prAt s r).q.length≤1000000):PureRun Tryz.prog 117 [worldV p ls s,.agg (plR (r,j))] (.sc (.bool (clearP ls s (r,j)))):=by
 refine PureRun.mkI cF117 (nlB rfl) ?_
 have hpr:=procsV_ix (s:=s) hr
 have hany:=anyn_ok (prAt s r).q 139 [.cptr [worldV p ls s],.cptr (plR (r,j))] (fun i=>decide (doneN ls (r,i)=j)) (fun i _=>⟨139,_,rfl,clrT_ok p ls s j i hr⟩) hq
 have hw:PV (worldV p ls s):=inferInstance
 unfold clearP
 dsimp only
 generalize (prAt s r).q.any (fun i=>decide (doneN ls (r,i)=j))=b at *
 unfold prV at hpr
 unfold plR at *
 refine AWP.seq ?_
 refine AWP.region ?_
 refine walkR ?_
 refine AWP.sub (fr':=[(2,.cptr [worldV p ls s]),(3,.cptr [.sc (.int .i64 (r:Int)),.sc (.int .i64 (j:Int))]),(4,.sc (.bool false))]) (H':=[]) ?_ ?_
 ·exact Sub.w [] []
 unfold worldV at *
 refine walkX ?_
 refine DK.nil ⟨by kernel_rfl,?_⟩
 refine walkX ?_
 exact EndP.w
theorem ActOK.fB {p:Pg} {r:Nat} {l:List Act} {i:Nat} {x:Act} (h:ActOK p r l i x):fieldsB p.acts.length p.cells r (hasRank x.k) (hasAt x.k) (hasOp x.k) (hasGrp x.k) x=0:=h.f
theorem ActOK.rank {p:Pg} {r:Nat} {l:List Act} {i:Nat} {x:Act} (h:ActOK p r l i x) (hk:hasRank x.k=true):0≤x.r∧x.r < p.acts.length:=by
 have hf:=h.fB
 unfold fieldsB at hf
 split at hf
 ·cases hf
 ·rename_i h1
  rw[hk] at h1
  simp at h1
  omega
theorem ActOK.cell {p:Pg} {r:Nat} {l:List Act} {i:Nat} {x:Act} (h:ActOK p r l i x) (hk:hasAt x.k=true):0≤x.a∧x.a < p.cells:=by
 have hf:=h.fB
 unfold fieldsB at hf
 split at hf
 ·cases hf
 split at hf
 ·cases hf
 ·rename_i h1
  rw[hk] at h1
  simp at h1
  omega
theorem ActOK.op {p:Pg} {r:Nat} {l:List Act} {i:Nat} {x:Act} (h:ActOK p r l i x) (hk:hasOp x.k=true):checkE x.o 1=0:=by
 have hf:=h.fB
 unfold fieldsB at hf
 split at hf
 ·cases hf
 split at hf
 ·cases hf
 exact hf
structure RunOK (p:Pg) (ls:List Ln) (s:St):Prop where
 sd:s.seed < 18446744073709551616
 pl:s.ps.length=ls.length
 ml:s.mem.length=ls.length
 hl:s.held.length=ls.length
 d:∀ r,r < ls.length→(prAt s r).d≤lenA p r
 q:∀ r,r < ls.length→(prAt s r).q.length≤(prAt s r).d
 qi:∀ r,r < ls.length→∀ i∈(prAt s r).q,i < (prAt s r).d∧isRem (actP p (r,i)).k=true
 m:∀ r,r < ls.length→(memAt s r).length=p.cells.toNat
def dAt (s:St) (b:Nat):Nat:=(prAt s b).d
def lateP (ls:List Ln) (s:St) (y:Pl):Bool:=decide (dAt s y.1 < y.2) || (decide (dAt s y.1=y.2) && !clearP ls s y)
def lockT (k:Int) (e:Nat×Int):Bool:=decide (e.2=13) || decide (k=13)
def lockP (s:St) (x:Act):Bool:=!((heldAt s x.r.toNat).any (lockT x.k))
def canK (ls:List Ln) (s:St) (r:Nat) (x:Act) (f:List Pl):Bool:=
 if x.k=13∨x.k=14 then lockP s x
 else if x.k=10∨x.k=12 then !(f.any fun y=>decide (dAt s y.1≤y.2))
 else if x.k=8∨x.k=11∨x.k=15∨x.k=16 then clearP ls s (r,dAt s r) && !(f.any fun y=>lateP ls s y)
 else true
def canP (p:Pg) (ls:List Ln) (s:St) (r:Nat):Bool:=
 if dAt s r=lenA p r then false
 else if (partP p ls r (dAt s r)).1.length < (partP p ls r (dAt s r)).2 then false
 else canK ls s r (actP p (r,dAt s r)) (partP p ls r (dAt s r)).1
theorem actP_get {p:Pg} {r i:Nat} {l:List Act} {x:Act} (h1:p.acts[r]?=some l) (h2:l[i]?=some x):actP p (r,i)=x:=by unfold actP; simp only[h1,Option.getD_some,h2]
theorem lenA_pos {p:Pg} {b i:Nat} (h:i < lenA p b):b < p.acts.length:=by
 unfold lenA at h
 by_cases hb:b < p.acts.length
 ·exact hb
 ·rw[List.getElem?_eq_none (by omega)] at h
  simp at h
theorem part_lt {p:Pg} {ls:List Ln} (hF:FOK p ls) (hl:ls.length=p.acts.length) {r i:Nat} (hi:i < lenA p r):∀ y∈(partP p ls r i).1,y.1 < ls.length∧y.2 < lenA p y.1:=fun y hy=>by
 have:=hF.m r (i+1) y (by unfold firstO; rw[if_pos (by omega)]; exact hy)
 have h2:=lenA_pos this.2
 exact⟨by omega,this.2⟩
theorem part_len {p:Pg} {ls:List Ln} (hF:FOK p ls) {r i:Nat} (hi:i < lenA p r):(partP p ls r i).1.length≤1000000:=by
 have:=hF.l r (i+1)
 unfold firstO at this
 rw[if_pos (by omega)] at this
 exact this
set_option maxHeartbeats 4000000 in
theorem notyet_ok (p:Pg) (ls:List Ln) (s:St) {b j:Nat} (hb:b < ls.length):PureRun Tryz.prog 115 [.agg (plR (b,j)),.cptr [worldV p ls s]] (.sc (.bool (decide (dAt s b≤j)))):=by
 refine PureRun.mkI cF115 (nlB rfl) ?_
 have hpr:=procsV_ix (s:=s) hb
 unfold worldV plR prV at *
 unfold dAt
 generalize prAt s b=x at *
 refine walkX ?_
 refine DK.nil ⟨by kernel_rfl,?_⟩
 refine walkX ?_
 exact EndP.w
set_option maxHeartbeats 4000000 in
theorem late_ok (p:Pg) (ls:List Ln) (s:St) {b j:Nat} (hb:b < ls.length) (hq:(prAt s b).q.length≤1000000):PureRun Tryz.prog 116 [.agg (plR (b,j)),.cptr [worldV p ls s]] (.sc (.bool (lateP ls s (b,j)))):=by
 refine PureRun.mkI cF116 (nlB rfl) ?_
 have hpr:=procsV_ix (s:=s) hb
 have hc:=clear_ok p ls s (j:=j) hb hq
 unfold lateP dAt
 generalize clearP ls s (b,j)=c at *
 unfold worldV plR prV at *
 dsimp only at *
 generalize prAt s b=x at *
 refine walkX ?_
 refine DK.nil ⟨by kernel_rfl,?_⟩
 refine walkX ?_
 by_cases h1:x.d < j
 ·rw[dTr h1]
  refine walkX ?_
  exact EndP.w
 ·rw[dFa h1]
  refine walkX ?_
  by_cases h2:x.d=j
  ·rw[dTr h2]
   refine walkX ?_
   exact EndP.w
  ·rw[dFa h2]
   refine walkX ?_
   exact EndP.w
theorem allT {α:Type} {t:α→Bool} {l1 l2:List α} {y:α}:(l1++y::l2).any t=(t y || (l1++l2).any t):=by
 simp only[List.any_append,List.any_cons]
 cases l1.any t<;>cases t y<;>rfl
theorem retE_split {l:List (Nat×Int)} {l1 l2:List (Value×AV)} {y:Value×AV} (h:retE l=l1++y::l2):∃ m1 x m2,l=m1++x::m2∧l1=retE m1∧y=(.int .i64 (x.1:Int),.sc (.int .i64 x.2))∧l2=retE m2:=by
 obtain⟨m1,m2,rfl,e1,e2⟩:=List.map_eq_append_iff.1 h
 obtain⟨x,m3,rfl,e3,e4⟩:=List.map_eq_cons_iff.1 e2
 exact⟨m1,x,m3,rfl,e1.symm,e3.symm,e4.symm⟩
theorem retE_app (l m:List (Nat×Int)):retE (l++m)=retE l++retE m:=by simp[retE]
theorem pure_cur {x:Nat×Int}:∀ y:Value×AV,some (Value.int .i64 (x.1:Int),AV.sc (.int .i64 x.2))=some y→Pure y.2:=fun y hy=>by injection hy with hy; subst hy; exact .sc _
theorem lockT_a (k:Int) (z:Nat):lockT k (z,13)=true:=by simp[lockT]
theorem lockT_b (z:Nat×Int):lockT 13 z=true:=by simp[lockT]
theorem lockT_c {z:Nat} {v:Int} (h:¬ v=13):lockT 14 (z,v)=false:=by simp[lockT,h]
def canF (p:Pg) (ls:List Ln) (s:St) (r d:Nat) (x:Act) (f:List Pl):Fr:=[(1,.sc (.int .i64 (r:Int))),(2,.cptr [worldV p ls s]),(5,.cptr (plR (r,d))),(6,.cptr (actR x)),(7,.list 2 (plsR f))]
def canC:ICode:=pickI [1,1,1,1,1,1] F66.code
set_option maxHeartbeats 8000000 in
theorem canLock_ok {p:Pg} {ls:List Ln} {s:St} {r d:Nat} (x:Act) (f:List Pl) (hk:x.k=13∨x.k=14) {b:Nat} (hb:x.r=(b:Int)) (hbl:b < ls.length):AWP Tryz.prog F66.n 0 canC (EndP F66.res (.sc (.bool (lockP s x)))) (canF p ls s r d x f) []:=by
 show AWP _ _ _ (.seq _ _) _ _ _
 have hhe:=heldV_ix (s:=s) hbl
 unfold lockP
 rw[hb,show((b:Int)).toNat=b from rfl]
 generalize hH:heldAt s b=he at *
 obtain⟨k,xr,a,o,v,w,g⟩:=x
 dsimp only at hk hb
 subst hb
 unfold canF actR worldV plR
 dsimp only
 have hno:∀ x:Value×AV,(none:Option (Value×AV))=some x→Pure x.2:=fun _ h=>by cases h
 rcases hk with rfl | rfl
 ·(refine walkX ?_; refine DK.nil ⟨by kernel_rfl,?_⟩; refine walkX ?_; (refine AWP.loop2 (fun(cur:Option (Value×AV)) (left:List (Nat×Int))=>[(1,.sc (.int .i64 (r:Int))),(2,.cptr [worldV p ls s]),(6,.cptr [.sc (.int .i64 13),.sc (.int .i64 (b:Int)),.sc (.int .i64 a),.sc (.int .i64 o),.sc (.int .i64 v),.sc (.int .i64 w),.list 1 (intsR g)]),(69,.ptr 0 0 0 0)]) (fun cur left=>[[.it cur (retE left)]]) (fun cur left=>(∀ x,cur=some x→Pure x.2)∧he.any (lockT 13)=left.any (lockT 13)) (fun cur left=>left.length) none he ⟨hno,rfl⟩ ?_ ?_; (focus (unfold worldV; (apply Sub.to [] [[(0,8)]]; all_goals (repeat' (first | exact ToAll.nil | exact famsTo.nil | exact famTo.nil | exact ToL.nil | exact ToR.nil | refine ToAll.cons ?_ ?_ | refine famsTo.cons ?_ ?_ | refine wt10 ?_ ?_ | exact To.undef _ | exact To.sc _ | exact To.hslL rfl rfl | exact To.asl _ _ _ _ _ _ rfl | exact To.ptrO rfl rfl rfl | exact To.mrefO rfl | exact To.nil rfl rfl rfl | exact wt1 | exact To.nilL | refine To.int ?_ | refine To.bool ?_ | refine To.hslL rfl ?_ | refine wt2 rfl ?_ ?_ ?_ | refine To.tupL ?_ | refine To.aggL ?_ | refine To.cptrL ?_ | refine To.fzp rfl rfl rfl ?_ | refine To.fzm rfl rfl ?_ | refine To.cloL ?_ ?_ | refine wt3 ?_ | refine wt4 ?_ | exact wt5 | refine wt6 ?_ | refine ToB.one ?_ | exact wt7 | ((with_reducible apply ToL.consE); case e9=>rfl) | refine wt8 ?_ | refine ToL.cons ?_ ?_ | exact wt11 | refine wt9 ?_ ?_ | refine wt12 ?_ | (with_reducible rfl) | assumption)); all_goals (first | rfl | assumption | (simp; done) | (simp; omega) | (rw[wrap_small (by omega) (by omega)]; done) | (rw[wrap_small (by omega) (by omega)]; omega) | (refine congrArg Nat.cast ?_; assumption) | skip)); all_goals (first | exact ToB.dead _ | exact ToB.it _ _ ((inferInstance:PM (retE he)).out) (hno)))); (rintro cur left ⟨hc1,hc2⟩; refine AWP.seq ?_; refine AWP.region ?_; refine Reg.next rfl rfl rfl (fun h=>?_) (fun l1 y l2 h=>?_); (focus (have hl:left=[]:=List.map_eq_nil_iff.1 h; subst hl; rw[hc2]; refine walkX ?_; exact EndP.w)); (obtain⟨m1,z,m2,rfl,rfl,rfl,rfl⟩:=retE_split h; rw[← retE_app]; rw[allT] at hc2; obtain⟨z1,z2⟩:=z; dsimp only at hc2 ⊢; by_cases hz:z2=13; (focus (subst hz; rw[lockT_a,Bool.true_or] at hc2; rw[hc2]; refine walkR ?_; refine walkX ?_; exact EndP.w))))))
  rw[lockT_b,Bool.true_or] at hc2
  rw[hc2]
  refine walkR ?_
  refine walkX ?_
  rw[show(z2 == 13)=false by simpa using hz]
  refine walkX ?_
  exact EndP.w
 ·(refine walkX ?_; refine DK.nil ⟨by kernel_rfl,?_⟩; refine walkX ?_; (refine AWP.loop2 (fun(cur:Option (Value×AV)) (left:List (Nat×Int))=>[(1,.sc (.int .i64 (r:Int))),(2,.cptr [worldV p ls s]),(6,.cptr [.sc (.int .i64 14),.sc (.int .i64 (b:Int)),.sc (.int .i64 a),.sc (.int .i64 o),.sc (.int .i64 v),.sc (.int .i64 w),.list 1 (intsR g)]),(69,.ptr 0 0 0 0)]) (fun cur left=>[[.it cur (retE left)]]) (fun cur left=>(∀ x,cur=some x→Pure x.2)∧he.any (lockT 14)=left.any (lockT 14)) (fun cur left=>left.length) none he ⟨hno,rfl⟩ ?_ ?_; (focus (unfold worldV; (apply Sub.to [] [[(0,8)]]; all_goals (repeat' (first | exact ToAll.nil | exact famsTo.nil | exact famTo.nil | exact ToL.nil | exact ToR.nil | refine ToAll.cons ?_ ?_ | refine famsTo.cons ?_ ?_ | refine wt10 ?_ ?_ | exact To.undef _ | exact To.sc _ | exact To.hslL rfl rfl | exact To.asl _ _ _ _ _ _ rfl | exact To.ptrO rfl rfl rfl | exact To.mrefO rfl | exact To.nil rfl rfl rfl | exact wt1 | exact To.nilL | refine To.int ?_ | refine To.bool ?_ | refine To.hslL rfl ?_ | refine wt2 rfl ?_ ?_ ?_ | refine To.tupL ?_ | refine To.aggL ?_ | refine To.cptrL ?_ | refine To.fzp rfl rfl rfl ?_ | refine To.fzm rfl rfl ?_ | refine To.cloL ?_ ?_ | refine wt3 ?_ | refine wt4 ?_ | exact wt5 | refine wt6 ?_ | refine ToB.one ?_ | exact wt7 | ((with_reducible apply ToL.consE); case e9=>rfl) | refine wt8 ?_ | refine ToL.cons ?_ ?_ | exact wt11 | refine wt9 ?_ ?_ | refine wt12 ?_ | (with_reducible rfl) | assumption)); all_goals (first | rfl | assumption | (simp; done) | (simp; omega) | (rw[wrap_small (by omega) (by omega)]; done) | (rw[wrap_small (by omega) (by omega)]; omega) | (refine congrArg Nat.cast ?_; assumption) | skip)); all_goals (first | exact ToB.dead _ | exact ToB.it _ _ ((inferInstance:PM (retE he)).out) (hno)))); (rintro cur left ⟨hc1,hc2⟩; refine AWP.seq ?_; refine AWP.region ?_; refine Reg.next rfl rfl rfl (fun h=>?_) (fun l1 y l2 h=>?_); (focus (have hl:left=[]:=List.map_eq_nil_iff.1 h; subst hl; rw[hc2]; refine walkX ?_; exact EndP.w)); (obtain⟨m1,z,m2,rfl,rfl,rfl,rfl⟩:=retE_split h; rw[← retE_app]; rw[allT] at hc2; obtain⟨z1,z2⟩:=z; dsimp only at hc2 ⊢; by_cases hz:z2=13; (focus (subst hz; rw[lockT_a,Bool.true_or] at hc2; rw[hc2]; refine walkR ?_; refine walkX ?_; exact EndP.w))))))
  rw[lockT_c hz,Bool.false_or] at hc2
  refine walkR ?_
  refine walkX ?_
  rw[show(z2 == 13)=false by simpa using hz]
  refine walkX ?_
  refine⟨some (.int .i64 (z1:Int),.sc (.int .i64 z2)),m1++m2,⟨pure_cur (x:=(z1,z2)),hc2⟩,by simp,?_⟩
  (apply Sub.to [] [[(0,0)]]; all_goals (repeat' (first | exact ToAll.nil | exact famsTo.nil | exact famTo.nil | exact ToL.nil | exact ToR.nil | refine ToAll.cons ?_ ?_ | refine famsTo.cons ?_ ?_ | refine wt10 ?_ ?_ | exact To.undef _ | exact To.sc _ | exact To.hslL rfl rfl | exact To.asl _ _ _ _ _ _ rfl | exact To.ptrO rfl rfl rfl | exact To.mrefO rfl | exact To.nil rfl rfl rfl | exact wt1 | exact To.nilL | refine To.int ?_ | refine To.bool ?_ | refine To.hslL rfl ?_ | refine wt2 rfl ?_ ?_ ?_ | refine To.tupL ?_ | refine To.aggL ?_ | refine To.cptrL ?_ | refine To.fzp rfl rfl rfl ?_ | refine To.fzm rfl rfl ?_ | refine To.cloL ?_ ?_ | refine wt3 ?_ | refine wt4 ?_ | exact wt5 | refine wt6 ?_ | refine ToB.one ?_ | exact wt7 | ((with_reducible apply ToL.consE); case e9=>rfl) | refine wt8 ?_ | refine ToL.cons ?_ ?_ | exact wt11 | refine wt9 ?_ ?_ | refine wt12 ?_ | (with_reducible rfl) | assumption)); all_goals (first | rfl | assumption | (simp; done) | (simp; omega) | (rw[wrap_small (by omega) (by omega)]; done) | (rw[wrap_small (by omega) (by omega)]; omega) | (refine congrArg Nat.cast ?_; assumption) | skip))
  all_goals (first | exact ToB.dead _ | exact ToB.it _ _ ((inferInstance:PM (retE (m1++m2))).out) (pure_cur (x:=(z1,z2))))
set_option maxHeartbeats 8000000 in
theorem canWait_ok {p:Pg} {ls:List Ln} {s:St} {r d:Nat} (x:Act) (f:List Pl) (hk:x.k=10∨x.k=12) (hf:∀ y∈f,y.1 < ls.length) (hl:f.length≤1000000):AWP Tryz.prog F66.n 0 canC (EndP F66.res (.sc (.bool (!(f.any fun y=>decide (dAt s y.1≤y.2)))))) (canF p ls s r d x f) []:=by
 show AWP _ _ _ (.seq _ _) _ _ _
 have hny:=anyp_ok f 115 [.cptr [worldV p ls s]] (fun y=>decide (dAt s y.1≤y.2)) (fun y hy=>⟨115,_,rfl,notyet_ok p ls s (hf y hy)⟩) hl
 generalize f.any (fun y=>decide (dAt s y.1≤y.2))=b at *
 obtain⟨k,xr,a,o,v,w,g⟩:=x
 dsimp only at hk
 unfold canF actR plR
 dsimp only
 have hw:PV (worldV p ls s):=inferInstance
 unfold worldV at *
 rcases hk with rfl | rfl
 ·refine walkX ?_
  exact EndP.w
 ·refine walkX ?_
  exact EndP.w
set_option maxHeartbeats 8000000 in
theorem canFence_ok {p:Pg} {ls:List Ln} {s:St} {r d:Nat} (x:Act) (f:List Pl) (hk:x.k=8∨x.k=11∨x.k=15∨x.k=16) (hr:r < ls.length) (hq:∀ b,b < ls.length→(prAt s b).q.length≤1000000) (hf:∀ y∈f,y.1 < ls.length) (hl:f.length≤1000000):
  AWP Tryz.prog F66.n 0 canC (EndP F66.res (.sc (.bool (clearP ls s (r,d) && !(f.any fun y=>lateP ls s y))))) (canF p ls s r d x f) []:=by
 show AWP _ _ _ (.seq _ _) _ _ _
 have hny:=anyp_ok f 116 [.cptr [worldV p ls s]] (fun y=>lateP ls s y) (fun y hy=>⟨116,_,rfl,late_ok p ls s (hf y hy) (hq _ (hf y hy))⟩) hl
 have hcl:=clear_ok p ls s (j:=d) hr (hq r hr)
 generalize f.any (fun y=>lateP ls s y)=b at *
 generalize clearP ls s (r,d)=c at *
 obtain⟨k,xr,a,o,v,w,g⟩:=x
 dsimp only at hk
 unfold canF actR
 unfold plR at *
 dsimp only at *
 have hw:PV (worldV p ls s):=inferInstance
 unfold worldV at *
 rcases hk with rfl | rfl | rfl | rfl<;>cases c
 ·refine walkX ?_
  exact EndP.w
 ·refine walkX ?_
  exact EndP.w
 ·refine walkX ?_
  exact EndP.w
 ·refine walkX ?_
  exact EndP.w
 ·refine walkX ?_
  exact EndP.w
 ·refine walkX ?_
  exact EndP.w
 ·refine walkX ?_
  exact EndP.w
 ·refine walkX ?_
  exact EndP.w
set_option maxHeartbeats 8000000 in
theorem canOther_ok {p:Pg} {ls:List Ln} {s:St} {r d:Nat} (x:Act) (f:List Pl) (hk:¬ (x.k=13∨x.k=14)∧¬ (x.k=10∨x.k=12)∧¬ (x.k=8∨x.k=11∨x.k=15∨x.k=16)):AWP Tryz.prog F66.n 0 canC (EndP F66.res (.sc (.bool true))) (canF p ls s r d x f) []:=by
 show AWP _ _ _ (.seq _ _) _ _ _
 obtain⟨k,xr,a,o,v,w,g⟩:=x
 dsimp only at hk
 unfold canF actR plR
 dsimp only
 have q:∀ n:Int,k≠n→(k == n)=false:=fun n h=>by simpa using h
 refine walkX ?_
 rw[q 13 (by omega)]
 refine walkX ?_
 rw[q 14 (by omega)]
 refine walkX ?_
 rw[q 10 (by omega)]
 refine walkX ?_
 rw[q 12 (by omega)]
 refine walkX ?_
 rw[q 8 (by omega)]
 refine walkX ?_
 rw[q 11 (by omega)]
 refine walkX ?_
 rw[q 15 (by omega)]
 refine walkX ?_
 rw[q 16 (by omega)]
 refine walkX ?_
 exact EndP.w
set_option maxHeartbeats 8000000 in
theorem can_ok {p:Pg} {ls:List Ln} {s:St} (hC:CkOK p ls) (hp:POK p) (hS:RunOK p ls s) {r:Nat} (hr:r < ls.length):PureRun Tryz.prog 66 [worldV p ls s,.sc (.int .i64 (r:Int))] (.sc (.bool (canP p ls s r))):=by
 have hn:=hC.len
 have hra:=gEg (show r < p.acts.length by omega)
 have hlen:=lenA_get hra
 obtain⟨L,hL,hO⟩:=hC.get hra
 have hqs:∀ b,b < ls.length→(prAt s b).q.length≤1000000:=fun b hb=>by
  have h1:=hS.d b hb
  have h2:=hS.q b hb
  have h3:=gEg (show b < p.acts.length by omega)
  obtain⟨L',hL',hO'⟩:=hC.get h3
  have:=hO'.len
  have:=lenA_get h3
  omega
 have hl100:=hO.len
 have hrow:=progR_get hra
 have hpr:=procsV_ix (s:=s) hr
 have hdl:=hS.d r hr
 refine PureRun.mkI cF66 (nlB rfl) ?_
 unfold canP dAt
 unfold prV at hpr
 generalize hd:(prAt s r).d=d at *
 by_cases h1:d=lenA p r
 ·rw[if_pos h1]
  have e2:=actsR_len p.acts[r]
  rw[hlen] at h1
  generalize p.acts[r]=l at *
  unfold worldV ckV
  refine AWP.seq ?_
  refine AWP.region ?_
  refine walkR ?_
  refine AWP.seq ?_
  refine AWP.region ?_
  refine walkR ?_
  refine walkX ?_
  refine DK.nil ⟨by kernel_rfl,?_⟩
  refine walkX ?_
  rw[e2]
  refine walkX ?_
  rw[dTr h1]
  refine walkX ?_
  exact EndP.w
 rw[if_neg h1]
 rw[hlen] at h1 hdl
 have hdlt:d < p.acts[r].length:=by omega
 have hx:=gEg hdlt
 have hact:=act_ok p ls hra hx
 have hpar:=partners_ok hC hp hra hx
 have hpm:=part_lt (ls:=ls) (r:=r) (i:=d) hC.fok hn (by omega)
 have hpl:=part_len (ls:=ls) (r:=r) (i:=d) hC.fok (by omega)
 have hap:=actP_get hra hx
 have hok:=hO.act _ _ hx
 rw[hap]
 have e2:=actsR_len p.acts[r]
 generalize p.acts[r]=l at *
 generalize l[d]=x at *
 generalize partP p ls r d=fn at *
 obtain⟨f,need⟩:=fn
 dsimp only at *
 have e3:=plsR_len f
 have hsw:need≤f.length→AWP Tryz.prog F66.n 0 canC (EndP F66.res (.sc (.bool (canK ls s r x f)))) (canF p ls s r d x f) []:=fun _=>by
  unfold canK dAt
  rw[hd]
  by_cases k1:x.k=13∨x.k=14
  ·rw[if_pos k1]
   have hrk:=hok.rank (by unfold hasRank; simp; omega)
   exact canLock_ok x f k1 (b:=x.r.toNat) (by omega) (by omega)
  rw[if_neg k1]
  by_cases k2:x.k=10∨x.k=12
  ·rw[if_pos k2]
   exact canWait_ok x f k2 (fun y hy=>(hpm y hy).1) hpl
  rw[if_neg k2]
  by_cases k3:x.k=8∨x.k=11∨x.k=15∨x.k=16
  ·rw[if_pos k3]
   exact canFence_ok x f k3 hr hqs (fun y hy=>(hpm y hy).1) hpl
  rw[if_neg k3]
  exact canOther_ok x f ⟨k1,k2,k3⟩
 generalize canK ls s r x f=res at *
 unfold worldV ckV plN at *
 unfold canF canC worldV ckV plR at hsw
 unfold actR at *
 dsimp only at hsw
 refine AWP.seq ?_
 refine AWP.region ?_
 refine walkR ?_
 refine AWP.seq ?_
 refine AWP.region ?_
 refine walkR ?_
 refine walkX ?_
 refine DK.nil ⟨by kernel_rfl,?_⟩
 refine walkX ?_
 rw[e2]
 refine walkX ?_
 rw[dFa (by omega)]
 refine walkX ?_
 refine DK.nil ⟨by kernel_rfl,?_⟩
 refine walkX ?_
 refine DK.nil ⟨by kernel_rfl,?_⟩
 refine walkX ?_
 rw[e3]
 refine walkR ?_
 by_cases h5:f.length < need
 ·rw[if_pos h5,dTr h5]
  refine walkX ?_
  exact EndP.w
 ·rw[if_neg h5,dFa h5]
  refine walkR ?_
  refine AWP.condF rfl ?_
  refine AWP.skip ?_
  refine AWP.sub ?_ (hsw (by omega))
  exact Sub.w [] []
def putN (i:Nat) (v:Int):List (Nat×Int)→List (Nat×Int)
 | []=>[(i,v)]
 | (j,w)::r=>if i=j then(j,v)::r else(j,w)::putN i v r
def dropN (i:Nat):List (Nat×Int)→List (Nat×Int)
 | []=>[]
 | (j,w)::r=>if i=j then r else(j,w)::dropN i r
theorem retE_new {i:Nat} {v:Int}:∀ {l:List (Nat×Int)},lookN i l=none→retE (putN i v l)=retE l++[(.int .i64 (i:Int),.sc (.int .i64 v))]
 | [],_=>rfl
 | (j,w)::r,h=>by
  rw[lookN] at h
  split at h
  ·cases h
  ·rename_i h1
   rw[putN,if_neg h1]
   show _::retE _=_
   rw[retE_new h]
   rfl
theorem retE_old {i:Nat} {v w:Int}:∀ {l:List (Nat×Int)},lookN i l=some w→retE (putN i v l)=mput (i:Int) (.sc (.int .i64 v)) (retE l)
 | [],h=>by cases h
 | (j,u)::r,h=>by
  rw[lookN] at h
  rw[putN]
  show _=mput (i:Int) _ ((.int .i64 (j:Int),.sc (.int .i64 u))::retE r)
  rw[mput]
  split at h
  ·rename_i h1
   rw[if_pos h1,dTr (show(i:Int)=(j:Int) by omega)]
   rfl
  ·rename_i h1
   rw[if_neg h1,dFa (show¬ (i:Int)=(j:Int) by omega)]
   show _::retE _=_
   rw[retE_old h]
theorem retE_drop {i:Nat}:∀ {l:List (Nat×Int)},retE (dropN i l)=mdrop (i:Int) (retE l)
 | []=>rfl
 | (j,u)::r=>by
  rw[dropN]
  show _=mdrop (i:Int) ((.int .i64 (j:Int),.sc (.int .i64 u))::retE r)
  rw[mdrop]
  by_cases h1:i=j
  ·rw[if_pos h1,dTr (show(i:Int)=(j:Int) by omega)]
  ·rw[if_neg h1,dFa (show¬ (i:Int)=(j:Int) by omega)]
   show _::retE _=_
   rw[retE_drop]
theorem dstep_ret {g i g' i' r:Nat} {fr:Fr} {H:Heap} {m ix x:Operand} {v:Int} {l:List (Nat×Int)} (hx:ev fr m=.mref g' i') (hi:ev fr ix=.sc (.int .i64 (r:Int))) (hv:ev fr x=.sc (.int .i64 v)) (hh:hget H g' i'=some (.map (retE l))):
  dstep g i (.mapUpdate .i64 m ix x) fr H=some (.undef,hset H g' i' (.map (retE (putN r v l)))):=by
 have hm:=mfind_ret r l
 cases h:lookN r l with
 | none=>
  rw[h] at hm
  rw[retE_new h]
  exact dstep_insD hx hi hv hh hm
 | some w=>
  rw[h] at hm
  rw[retE_old h]
  exact dstep_putD hx hi hv hh hm
theorem dstep_drop {g i g' i' r:Nat} {fr:Fr} {H:Heap} {m ix:Operand} {l:List (Nat×Int)} (hx:ev fr m=.mref g' i') (hi:ev fr ix=.sc (.int .i64 (r:Int))) (hh:hget H g' i'=some (.map (retE l))):
  dstep g i (.mop (.del .i64) [m,ix]) fr H=some (.tup [],hset H g' i' (.map (retE (dropN r l)))):=by
 rw[retE_drop]
 exact dstep_delD hx hi hh (mfind_ret r l)
def toU (v:Int):Nat:=(v % 18446744073709551616).toNat
def toS (n:Nat):Int:=if n % 18446744073709551616 < 9223372036854775808 then((n % 18446744073709551616:Nat):Int) else((n % 18446744073709551616:Nat):Int) - 18446744073709551616
def nextS (x:Nat):Nat:=(6364136223846793005 * x+1442695040888963407) % 18446744073709551616
def pickS (x n:Nat):Nat:=x / 8589934592 % n
def accV (x:Act) (v:Int):Int:=
 if x.k=1∨x.k=7 then x.v
 else if x.k=3∨x.k=4 then toS (opI x.o (toU v) (toU x.v))
 else if x.k=5 then if v=x.w then x.v else v
 else v
def setP (s:St) (r:Nat) (x:Pr):St:={ s with ps:=s.ps.set r x }
def setM (s:St) (b:Nat) (m:List Int):St:={ s with mem:=s.mem.set b m }
def setL (s:St) (b:Nat) (h:List (Nat×Int)):St:={ s with held:=s.held.set b h }
def effP (p:Pg) (ls:List Ln) (s:St) (x:Pl):St:=
 let a:=actP p x
 let b:=(acN ls x).r.toNat
 let c:=(acN ls x).a.toNat
 let v:=(memAt s b).getD c 0
 let s1:=if isRet a.k=true then setP s x.1 { prAt s x.1 with g:=putN x.2 v (prAt s x.1).g } else s
 setM s1 b ((memAt s b).set c (accV a v))
def stepP (p:Pg) (ls:List Ln) (s:St) (r:Nat):St:=
 let x:=prAt s r
 let a:=actP p (r,x.d)
 if isRem a.k=true then setP s r { x with d:=x.d+1,q:=x.q++[x.d] }
 else
  let s1:=setP s r { x with d:=x.d+1 }
  if a.k=6∨a.k=7 then effP p ls s1 (r,x.d)
  else if a.k=13∨a.k=14 then setL s1 a.r.toNat (putN r a.k (heldAt s a.r.toNat))
  else if a.k=16 then setL s1 a.r.toNat (dropN r (heldAt s a.r.toNat))
  else s1
def takeP (p:Pg) (ls:List Ln) (s:St) (r k i:Nat):St:=
 effP p ls (setP s r { prAt s r with q:=(prAt s r).q.eraseIdx k }) (r,i)
inductive Cd where
 | act (r:Nat)
 | take (r k i:Nat)
 deriving DecidableEq
def doP (p:Pg) (ls:List Ln) (s:St):Cd→St
 | .act r=>stepP p ls s r
 | .take r k i=>takeP p ls s r k i
abbrev CS:=List (Int×Int)×List Cd
def cellB (p:Pg) (ls:List Ln) (r i:Nat):Bool×(Int×Int):=(isUpd (actP p (r,i)).k,((acN ls (r,i)).r,(acN ls (r,i)).a))
def stepT (p:Pg) (ls:List Ln) (r:Nat) (q:List Nat) (s:CS) (k:Nat):CS:=
 if (cellB p ls r (q.getD k 0)).1=true then
  if (cellB p ls r (q.getD k 0)).2∈s.1 then s else(s.1++[(cellB p ls r (q.getD k 0)).2],s.2++[.take r k (q.getD k 0)])
 else(s.1,s.2++[.take r k (q.getD k 0)])
def takesR (p:Pg) (ls:List Ln) (s:St) (out:List Cd) (r:Nat):List Cd:=((List.range (prAt s r).q.length).foldl (stepT p ls r (prAt s r).q) ([],out)).2
def actsC (p:Pg) (ls:List Ln) (s:St) (out:List Cd) (r:Nat):List Cd:=if canP p ls s r=true then out++[.act r] else out
def candsP (p:Pg) (ls:List Ln) (s:St):List Cd:=(List.range ls.length).foldl (takesR p ls s) ((List.range ls.length).foldl (actsC p ls s) [])
def stepS (p:Pg) (ls:List Ln) (s:St):Option St:=
 match candsP p ls s with
 | []=>none
 | c::l=>some (doP p ls { s with seed:=nextS s.seed } ((c::l).getD (pickS (nextS s.seed) (l.length+1)) c))
def runG (p:Pg) (ls:List Ln):Nat→St→St
 | 0,s=>s
 | f+1,s=>match stepS p ls s with
  | none=>s
  | some s'=>runG p ls f s'
end Go.Proofs.YtkjoolaahocgdaaGreat
