/- The law WindowCounts answers true for every input; no further condition. -/
import Derived.Test.YtkjoolaahocgdaaGreatGWiA8
import Derived.Test.YtkjoolaahocgdaaGreatGWiG4
import Derived.Test.YtkjoolaahocgdaaGreatGWiL5
import Derived.Test.YtkjoolaahocgdaaGreatGWiLo
namespace Go.Proofs.YtkjoolaahocgdaaGreat
open Go.Av Go.Proofs
set_option maxRecDepth 20000
set_option linter.unusedVariables false
theorem DN (kd:Int) (lk:Bool) (ts:List Nat):POK (cN kd lk ts):=fun l hl x hx=>by
 obtain⟨t,_,rfl⟩:=List.mem_map.1 hl
 rw[QW _ _ _ x hx]
 exact Nat.zero_le _
def oD (vs:Nat→List Nat) (r i:Nat):List Nat:=(List.range r).flatMap vs++(vs r).take i
theorem M0 (vs:Nat→List Nat) {r i:Nat} (h:i < (vs r).length):oD vs r (i+1)=oD vs r i++[(vs r)[i]]:=by
 unfold oD
 rw[List.take_succ_eq_append_getElem h,List.append_assoc]
theorem NN (vs:Nat→List Nat) (r:Nat):oD vs (r+1) 0=oD vs r (vs r).length:=by
 unfold oD
 rw[List.range_succ,List.flatMap_append,List.take_length]
 simp
def qV (vs:Nat→List Nat) (r i v:Nat):AV:=.sc (.bool (decide (v∈oD vs r i)))
theorem PG (vs:Nat→List Nat) (N:Nat):List.replicate N [AV.sc (.bool false)]=row1 N (qV vs 0 0):=by
 rw[GQ]
 refine l6 fun k _=>?_
 unfold qV oD
 simp
theorem QY (vs:Nat→List Nat) {N r i:Nat} (h:i < (vs r).length):(row1 N (qV vs r i)).set (vs r)[i] [.sc (.bool true)]=row1 N (qV vs r (i+1)):=by
 rw[G4]
 refine l6 fun k _=>?_
 unfold qV
 rw[M0 vs h]
 by_cases e:k=(vs r)[i]
 ·rw[if_pos e,dTr (show k∈oD vs r i++[(vs r)[i]] by rw[e]; simp)]
 ·rw[if_neg e]
  have:(k∈oD vs r i++[(vs r)[i]])↔k∈oD vs r i:=by simp[e]
  simp only[this]
instance (vs:Nat→List Nat) (N r i:Nat):PRs (row1 N (qV vs r i)):=⟨fun x hx c hc=>by
 obtain⟨k,_,rfl⟩:=List.mem_map.1 hx
 rw[List.mem_singleton.1 hc]
 exact .sc _⟩
set_option maxHeartbeats 16000000 in
theorem xN (l:List Nat) (hl9:l.length≤9223372036854775807) (h8:∀ n∈l,n < 256) (lk:Bool) {s:Nat} (hs:s < 18446744073709551616):aD Tryz.prog 5 [.list 1 (u8R l),.sc (.bool lk),.sc (.int .u64 (s:Int))] (.sc (.bool true)):=by
 refine aD.mkI cF5 (nlB rfl) ?_
 have hw:=works_ok
 have e0:=KW l
 by_cases h1:l.length < 1
 ·refine aA ?_
  rw[e0,dTr h1]
  refine aA ?_
  exact aN.w
 by_cases h9:8 < l.length
 ·refine aA ?_
  rw[e0,dFa h1]
  refine aA ?_
  rw[e0,show decide (l.length > 8)=true from dTr (by omega)]
  refine aA ?_
  exact aN.w
 have htl:(eD l).length=l.length:=by simp[eD]
 have htg:∀ r,r < l.length→(eD l).getD r 0=l.getD r 0 % 8:=fun r hr=>by
  unfold eD
  rw[List.getD_eq_getElem?_getD,List.getD_eq_getElem?_getD,List.getElem?_map,gEg hr]
  rfl
 have hOK:∀ kd,kd=3∨kd=4→kQ kd (eD l):=fun kd hk=>⟨hk,by omega,by omega,fun t ht=>by
  obtain⟨n,_,rfl⟩:=List.mem_map.1 ht
  exact Nat.mod_lt _ (by decide)⟩
 have h3:=hOK 3 (.inl rfl)
 have h4:=hOK 4 (.inr rfl)
 have c3:=KN (lk:=lk) h3
 have c4:=KN (lk:=lk) h4
 have b3:=xC l (by omega) h8 3 lk
 have b4:=xC l (by omega) h8 4 lk
 have r3:=s7 (cN 3 lk (eD l)) (DN _ _ _) hs
 have r4:=s7 (cN 4 lk (eD l)) (DN _ _ _) hs
 have hra:=nI (cN 3 lk (eD l)) (DN _ _ _)
 unfold l8 at hra
 unfold BJ at r3 r4
 rw[if_pos c3] at hra r3
 rw[if_pos c4] at r4
 have C3:=mX c3
 have C4:=mX c4
 generalize (cL (cN 3 lk (eD l))).2=l3 at *
 generalize (cL (cN 4 lk (eD l))).2=l4 at *
 have hrn:g9 (cN 3 lk (eD l)) l3 (eE l3.length (cN 3 lk (eD l)) l3)=[]:=by
  unfold g9
  rw[NU h3 C3]
  unfold pG
  simp
 rw[hrn] at hra
 have n3:=C3.len
 have n4:=C4.len
 rw[iA] at n3 n4
 have E3:=(LX h3 C3 hs).1
 obtain⟨E4,V4⟩:=LX h4 C4 hs
 obtain⟨vs,V4⟩:=V4 rfl
 have h56:=GS h3
 generalize eQ (cN 3 lk (eD l)) l3 (st0 (cN 3 lk (eD l)) l3.length s)=S3 at *
 generalize eQ (cN 4 lk (eD l)) l4 (st0 (cN 4 lk (eD l)) l4.length s)=S4 at *
 unfold AQ at r3 r4
 rw[E3.st] at r3
 rw[E4.st] at r4
 obtain⟨z3,m3⟩:=E3.m
 obtain⟨z4,m4⟩:=E4.m
 have hm3:cQ (iM l3.length S3) 0=some [.list 1 (aU [z3,(((eD l).sum:Nat):Int)])]:=by
  rw[← m3]
  exact oL (k:=0) (n:=l3.length) (f:=fun r=>AV.list 1 (aU (aT S3 r))) (by omega)
 have hm4:cQ (iM l4.length S4) 0=some [.list 1 (aU [z4,(((eD l).sum:Nat):Int)])]:=by
  rw[← m4]
  exact oL (k:=0) (n:=l4.length) (f:=fun r=>AV.list 1 (aU (aT S4 r))) (by omega)
 have hvl:(eK (cN 4 lk (eD l)) S4 l4.length).length=l4.length:=cJ _ _
 have hvr:∀ k,k < l4.length→cQ (eK (cN 4 lk (eD l)) S4 l4.length) (k:Int)=some [.list 1 (bB (vs k))]:=fun k hk=>by
  rw[D0,← V4.v k hk]
  exact oL (f:=fun r=>AV.list 1 (aU (g7 (cN 4 lk (eD l)) S4 r))) hk
 have i1:PRs (eK (cN 4 lk (eD l)) S4 l4.length):=inferInstance
 have i2:PRs (iM l4.length S4):=inferInstance
 have i3:PRs (eK (cN 3 lk (eD l)) S3 l3.length):=inferInstance
 have i4:PRs (iM l3.length S3):=inferInstance
 have hsm:∀ k,k < l.length→((eD l).take (k+1)).sum=((eD l).take k).sum+l.getD k 0 % 8:=fun k hk=>by
  rw[List.take_succ_eq_append_getElem (show k < (eD l).length by omega),List.sum_append,← htg k hk,List.getD_eq_getElem?_getD,gEg (show k < (eD l).length by omega)]
  simp
 have hs0:∀ k,((eD l).take k).sum≤56:=fun k=>by
  have h1:=wE (l:=(eD l).take k) (m:=7) fun x hx=>by have:=h3.t x (List.mem_of_mem_take hx); omega
  have h2:=List.length_take_le k (eD l)
  have h5:=h3.n8
  have:((eD l).take k).length * 7≤8 * 7:=Nat.mul_le_mul_right _ (by rw[List.length_take]; omega)
  omega
 have hs0':(eD l).sum≤56:=h56
 have hix:=QV l
 have hgx:∀ k (h:k < l.length),l[k]=l.getD k 0:=fun k h=>by rw[List.getD_eq_getElem?_getD,gEg h]; rfl
 have hll:∀ k,k < l.length→(vs k).length=l.getD k 0 % 8:=fun k hk=>by rw[V4.len k (by omega),htg k hk]
 have hlt:=V4.lt
 have hpw:=V4.pw
 have hdj:=V4.dj
 have hts:(eD l).take l.length=eD l:=by rw[← htl,List.take_length]
 clear E3 E4 V4 C3 C4 c3 c4 h3 h4 hOK m3 m4 hrn
 generalize eK (cN 4 lk (eD l)) S4 l4.length=V at *
 generalize iM l4.length S4=M at *
 generalize eK (cN 3 lk (eD l)) S3 l3.length=V3 at *
 generalize iM l3.length S3=M3 at *
 have p3:dH (cN 3 lk (eD l))=.agg [.sc (.int .i64 2),.list 1 (bV ((eD l).map (e8 3 lk)))]:=rfl
 have p4:dH (cN 4 lk (eD l))=.agg [.sc (.int .i64 2),.list 1 (bV ((eD l).map (e8 4 lk)))]:=rfl
 rw[p3] at b3 r3 hra
 rw[p4] at b4 r4
 clear p3 p4
 generalize bV ((eD l).map (e8 3 lk))=P3 at *
 have j4:PRs (bV ((eD l).map (e8 4 lk))):=inferInstance
 generalize bV ((eD l).map (e8 4 lk))=P4 at *
 generalize hN:(eD l).sum=N at *
 have hu:PRs (u8R l):=inferInstance
 generalize u8R l=U at *
 refine aA ?_
 rw[e0,dFa h1]
 refine aA ?_
 rw[e0,show decide (l.length > 8)=false from dFa (by omega)]
 refine aA ?_
 refine AWP.loop (fun k:Nat=>[(0,.list 1 U),(7,.cptr [.list 1 V,.list 1 M,.list 1 (bB [])]),(8,.sc (.int .i64 0)),(9,.cptr [.list 1 V3,.list 1 M3,.list 1 (bB [])]),(10,.sc (.int .i64 0)),(11,.list 4 (([]:List Pl4).map raR)),(12,.sc (.int .i64 0)),(13,.sc (.int .i64 ((((eD l).take k).sum:Nat):Int))),(14,.sc (.int .i64 (k:Int)))]) (fun _=>[]) (fun k=>k≤l.length) (fun k=>l.length - k) 0 (Nat.zero_le _) ?_ ?_
 ·exact Sub.w [] []
 rintro k hk
 have hk56:=hs0 k
 refine aA ?_
 rw[e0]
 refine aA ?_
 refine AWP.condD rfl (fun h=>?_) (fun h=>?_)
 ·have hx:=hix k h
  have hxg:=hgx k h
  rw[hxg] at hx
  have hs1:=hsm k h
  have hx8:=h8 _ (List.getElem_mem h)
  rw[hxg] at hx8
  have hk57:=hs0 (k+1)
  generalize l.getD k 0=n at *
  generalize ((eD l).take k).sum=q at *
  refine aA ?_
  refine⟨k+1,by omega,by omega,?_⟩
  rw[hs1]
  exact Sub.w [] []
 ·have hk2:k=l.length:=by omega
  subst hk2
  rw[hts,hN]
  refine AWP.exit ?_
  have y3:cQ (aU [z3,((N:Nat):Int)]) 1=some [.sc (.int .i64 (N:Int))]:=rfl
  have y4:cQ (aU [z4,((N:Nat):Int)]) 1=some [.sc (.int .i64 (N:Int))]:=rfl
  refine aA ?_
  rw[hvl,e0,show(!decide (l4.length=l.length))=false by rw[dTr (show l4.length=l.length by omega)]; rfl]
  refine aA ?_
  rw[show(!decide (N=N))=false by simp]
  refine aA ?_
  rw[show(!decide (N=N))=false by simp]
  refine aA ?_
  have hm0:=PG vs N
  have hN56:N≤56:=hs0'
  refine Reg.o rfl (uR (n:=N) rfl (by omega) (by omega)) ?_
  refine aA ?_
  refine AWP.loop (fun r:Nat=>[(0,.list 1 U),(7,.cptr [.list 1 V,.list 1 M,.list 1 (bB [])]),(13,.sc (.int .i64 (N:Int))),(15,.hsl 0 0 0 N),(16,.sc (.int .i64 (r:Int)))]) (fun r=>[[.cells 1 (row1 N (qV vs r 0))]]) (fun r=>r≤l.length) (fun r=>l.length - r) 0 (Nat.zero_le _) ?_ ?_
  ·refine Sub.to [] [[(0,0)]] ?_ ⟨⟨⟨_,rfl,ToB.rows hm0 (prs _)⟩,trivial⟩,trivial⟩ rfl rfl rfl
   (all_goals exact eC)
   done
  rintro r hr
  refine aA ?_
  rw[e0]
  refine aA ?_
  refine AWP.condD rfl (fun h2=>?_) (fun h2=>?_)
  ·have hx:=hix r h2
   have hxg:=hgx r h2
   rw[hxg] at hx
   have hx8:=h8 _ (List.getElem_mem h2)
   rw[hxg] at hx8
   have hvk:=hvr r (by omega)
   have hlk:=hll r h2
   have hvn:=bY (vs r)
   have hpk:=hpw r (by omega)
   have hltk:=hlt r (by omega)
   have hnx:=NN vs r
   generalize l.getD r 0=n at *
   refine aA ?_
   refine DK.nil ⟨by kernel_rfl,?_⟩
   refine aA ?_
   rw[hvn,hlk,show(!decide (n % 8=n % 8))=false by simp]
   refine aA ?_
   refine AWP.loop (fun i:Nat=>[(0,.list 1 U),(7,.cptr [.list 1 V,.list 1 M,.list 1 (bB [])]),(13,.sc (.int .i64 (N:Int))),(15,.hsl 0 0 0 N),(16,.sc (.int .i64 (r:Int))),(17,.sc (.int .i64 (i:Int)))]) (fun i=>[[.cells 1 (row1 N (qV vs r i))]]) (fun i=>i≤(vs r).length) (fun i=>(vs r).length - i) 0 (Nat.zero_le _) ?_ ?_
   ·exact Sub.w [] [[(0,0)]]
   rintro i hi
   have hml:(row1 N (qV vs r i)).length=N:=cJ _ _
   refine aA ?_
   rw[hvn]
   refine aA ?_
   refine AWP.condD rfl (fun h3=>?_) (fun h3=>?_)
   ·have hxi:=mK (vs r) i h3
    have hms:=QY vs (N:=N) h3
    have hvN:=hltk _ (List.getElem_mem h3)
    have hmg:=eP (f:=qV vs r i) hvN
    have hpi:∀ j (hj:j < i),(vs r)[j]'(by omega) < (vs r)[i]:=fun j hj=>List.pairwise_iff_getElem.1 hpk j i (by omega) h3 hj
    have hns:(vs r)[i]∉oD vs r i:=fun hm=>by
     unfold oD at hm
     rcases List.mem_append.1 hm with hm | hm
     ·obtain⟨q,hq,hm⟩:=List.mem_flatMap.1 hm
      have hq:=List.mem_range.1 hq
      exact hdj r q (by omega) (by omega) (by omega) _ (List.getElem_mem h3) hm
     ·obtain⟨j,hj,e⟩:=List.getElem_of_mem hm
      rw[List.length_take] at hj
      have:=hpi j (by omega)
      rw[List.getElem_take] at e
      omega
    have hmg:(row1 N (qV vs r i))[(vs r)[i]]?=some [.sc (.bool false)]:=by
     rw[hmg]
     unfold qV
     rw[dFa hns]
    have hpv:∀ j (hj:j < i),cQ (bB (vs r)) (j:Int)=some [.sc (.int .i64 ((vs r)[j]'(by omega):Nat))]:=fun j hj=>mK (vs r) j (by omega)
    have hRp:PRs (row1 N (qV vs r i)):=inferInstance
    generalize hR:row1 N (qV vs r i)=R at *
    by_cases hi0:i=0
    ·subst hi0
     generalize (vs r)[0]=v at *
     refine aA ?_
     rw[show decide (v≥N)=false from dFa (by omega)]
     refine aA ?_
     refine⟨0+1,by omega,by omega,?_⟩
     have hq:∀ x∈R.set v [AV.sc (.bool true)],∀ c∈x,bS c:=by rw[hms]; exact prs _
     rw[← hms]
     refine Sub.to [] [[(0,0)]] ?_ ⟨⟨⟨_,rfl,ToB.rows rfl hq⟩,trivial⟩,trivial⟩ rfl rfl rfl
     (all_goals exact eC)
    ·have hp1:=hpi (i - 1) (by omega)
     have hp2:=hpv (i - 1) (by omega)
     generalize (vs r)[i]=v at *
     generalize (vs r)[i - 1]=u at *
     refine aA ?_
     rw[show decide (v≥N)=false from dFa (by omega)]
     refine aA ?_
     rw[show decide (0 < i)=true from dTr (by omega)]
     refine aA ?_
     rw[show decide (v≤u)=false from dFa (by omega)]
     refine aA ?_
     refine⟨i+1,by omega,by omega,?_⟩
     have hq:∀ x∈R.set v [AV.sc (.bool true)],∀ c∈x,bS c:=by rw[hms]; exact prs _
     rw[← hms]
     refine Sub.to [] [[(0,0)]] ?_ ⟨⟨⟨_,rfl,ToB.rows rfl hq⟩,trivial⟩,trivial⟩ rfl rfl rfl
     (all_goals exact eC)
   ·have hi2:i=(vs r).length:=by omega
    subst hi2
    refine aA ?_
    refine⟨r+1,by omega,by omega,?_⟩
    rw[show row1 N (qV vs (r+1) 0)=row1 N (qV vs r (vs r).length) by unfold qV; rw[hnx]]
    exact Sub.w [] [[(0,0)]]
  ·refine aA ?_
   exact aN.w
theorem P5 {a:AV} (h:Fit (.slice [.int .u8]) a):∃ l:List Nat,a=.list 1 (u8R l)∧l.length≤maxLen∧∀ n∈l,n < 256:=
 rZ h (fun n:Nat=>[AV.sc (.int .u8 (n:Int))]) (fun n=>n < 256) fun r hl hf=>by
  match r,hl with
  | [a],_=>
   obtain⟨n,rfl,hn⟩:=K2 (hf 0 _ a rfl rfl)
   exact⟨n,rfl,by omega⟩
set_option maxRecDepth 100000 in
theorem sG (os:Os) (started:os.Started) (H:Type) (enc:TypeId×Value→H):
  ReturnsInHanded {} Tryz.checked os 5 .any (Rows.windowCountsSpec.pre6 enc Tryz.prog Tryz.f5 Rows.windowCountsRow.domain false) (Rows.windowCountsSpec.post enc Tryz.prog Tryz.f5 false true false false):=by
 refine returnsInHanded_of_change (C:=Tryz.checked) xT started (by kernel_rfl) Tryz.func5
  (ChangeSpec.witness6 (enc:=enc) (C:=Tryz.checked) false ⟨#[],#[.slice none 0 0,.bool false,.int .u64 0],[]⟩ 8 (by kernel_rfl) (by kernel_rfl) (by kernel_rfl) (by kernel_rfl)) ?_
 intro W base args ds gs before hval hW _ _
 refine oI (P:=Tryz.prog) (d:=40) (row:=[.one (.slice [.int .u8]),.one .bool,.one (.int .u64)]) (tb:=4) (by kernel_rfl) rfl uG tT o4 (by decide) rfl yA (fun ds hds=>?_) (fun avs hl hf=>?_) hval hW
 ·match ds,hds with
  | [_,_,_],_=>exact⟨rfl,rfl,rfl⟩
 ·match avs,hl with
  | [a,b,c],_=>
   obtain⟨v,rfl,hv,h8⟩:=P5 (jM (hf 0 _ a rfl rfl))
   obtain⟨x,rfl⟩:=IU (jM (hf 1 _ b rfl rfl))
   obtain⟨y,rfl,hy⟩:=pW (jM (hf 2 _ c rfl rfl))
   exact aO.ofPure (xN v hv h8 x hy) [] rfl
theorem windowCounts_holds:Rows.WindowCountsSaid:=
 OpenClaim.holds_of_wide 5 Tryz.f5 rfl rfl rfl rfl rfl rfl rfl ⟨rfl,rfl,rfl,rfl,rfl⟩ rfl rfl rfl rfl rfl (by kernel_rfl) Tryz.func5 (by kernel_rfl)
  (of_decide_eq_true (by kernel_rfl)) (by unfold Func.isWrapper; first | (rw[if_pos (by decide +kernel)]; kernel_rfl) | (rw[if_neg (by decide +kernel)]; exact⟨rfl,rfl⟩))
  (fun os started H enc _=>sG os started H enc)
end Go.Proofs.YtkjoolaahocgdaaGreat
