/- The law WindowOne answers true for every input; no further condition. -/
import Derived.Test.YtkjoolaahocgdaaGreatGWiA8
import Derived.Test.YtkjoolaahocgdaaGreatGWiL9
import Derived.Test.YtkjoolaahocgdaaGreatGWiLo
import Derived.Test.YtkjoolaahocgdaaGreatGWiU6
namespace Go.Proofs.YtkjoolaahocgdaaGreat
open Go.Av Go.Proofs
set_option maxRecDepth 20000
set_option maxHeartbeats 16000000 in
theorem C5 (p:Pg) (hp:POK p) (hn:p.acts.length≤9223372036854775807) (hl:∀ l∈p.acts,l.length≤9223372036854775807) {a b:Nat} (ha:a < 18446744073709551616) (hb:b < 18446744073709551616):aD Tryz.prog 9 [dH p,.sc (.int .u64 (a:Int)),.sc (.int .u64 (b:Int))] (.sc (.bool true)):=by
 refine aD.mkI cF9 (nlB rfl) ?_
 have hw:=works_ok
 have hs:=F0 8 30 p hp hn hl
 have hc:=zD p hp
 have hra:=nI p hp
 have hA:=s7 p hp ha
 have hB:=s7 p hp hb
 have hsB:vN 8 30 p=true→(cL p).1.2=0:=fun h=>of_decide_eq_true (Bool.and_eq_true_iff.1 h).2
 have e0:=eS p.acts
 cases hsm:vN 8 30 p with
 | false=>
  rw[hsm] at hs
  unfold l8 at hra
  unfold BJ at hA
  by_cases h0:(cL p).1.2=0
  ·clear hra hA hB
   rw[h0] at hc
   unfold plA dH at *
   refine aA ?_
   exact aN.w
  ·rw[if_neg h0] at hra hA
   unfold plA dH at *
   generalize (cL p).1.2=e at *
   refine aA ?_
   rw[show(e == 0)=false by simpa using h0]
   refine aA ?_
   rw[show(e == e)=true by simp]
   refine aA ?_
   rw[show(e == e)=true by simp]
   refine aA ?_
   exact aN.w
 | true=>
  have h0:=hsB hsm
  rw[hsm] at hs
  have hC:=mX h0
  unfold l8 at hra
  unfold BJ at hA hB
  rw[if_pos h0] at hra hA hB
  clear hc
  generalize (cL p).2=ls at *
  have hRA:=EA hC ha
  have hRB:=EA hC hb
  obtain⟨_,_,_,_,hst,_⟩:=FC hC ha hb
  have hab:=fun h=>O0 hC (OF hC (JB h)) ha hb
  have hn2:=hC.len
  have hn64:=hC.n64
  generalize eQ p ls (st0 p ls.length a)=S at *
  generalize eQ p ls (st0 p ls.length b)=S' at *
  have hst:=J0 (p:=p) hst
  unfold AQ at hA hB
  rw[← hst] at hB
  have hsl:=tQ p S ls.length
  have heq:=M4 ((dA p S ls.length).map fun j:Nat=>(j:Int)) (by rw[List.length_map]; omega)
  rw[← D0] at heq
  have hrv:=w5 ls.length (g7 p S) (by omega) fun r hr=>by
   have h1:=BM (aH S r).g (aW p r)
   have h2:aW p r≤100:=hC.sok r
   unfold g7
   omega
  have hrm:=w5 ls.length (aT S) (by omega) fun r hr=>by
   have h1:=hRA.m r hr
   have h2:=hC.c64
   omega
  have hvl:(eK p S ls.length).length=ls.length:=cJ _ _
  have hml:(iM ls.length S).length=ls.length:=cJ _ _
  have hmr:∀ k,k < ls.length→∃ r,cQ (iM ls.length S) (k:Int)=some [.list 1 r]∧r.length=p.cells.toNat:=fun k hk=>⟨_,oL (f:=fun r=>AV.list 1 (aU (aT S r))) hk,by rw[cC]; exact hRA.m k hk⟩
  have hsm1:=fun h=>QD hRA hRB (hab h)
  have hsv1:=fun h=>N1 (p:=p) (ls:=ls) (hab h)
  rw[show(row1 ls.length fun r=>AV.list 1 (aU (g7 p S r)))=eK p S ls.length from rfl] at hrv
  rw[show(row1 ls.length fun r=>AV.list 1 (aU (aT S r)))=iM ls.length S from rfl] at hrm
  have hc1:=hC.c1
  obtain⟨c,hcc⟩:∃ c:Nat,p.cells=c:=⟨p.cells.toNat,by omega⟩
  have i1:PRs (eK p S ls.length):=inferInstance
  have i2:PRs (iM ls.length S):=inferInstance
  have i3:PRs (eK p S' ls.length):=inferInstance
  have i4:PRs (iM ls.length S'):=inferInstance
  generalize g9 p ls (eE ls.length p ls)=R at *
  have hrl:(R.map raR).length=R.length:=List.length_map _
  clear hab hst hRA hRB hsB h0
  generalize eK p S ls.length=V at *
  generalize iM ls.length S=M at *
  generalize eK p S' ls.length=V' at *
  generalize iM ls.length S'=M' at *
  generalize dA p S ls.length=T at *
  unfold dH at *
  rw[hcc] at hs hra hA hB hmr ⊢
  refine aA ?_
  rw[hml,e0,show(!decide (ls.length=p.acts.length))=false by simp[hn2]]
  refine aA ?_
  rw[hvl,e0,show(!decide (ls.length=p.acts.length))=false by simp[hn2]]
  refine aA ?_
  refine AWP.loop (fun k:Nat=>[(3,.cptr [.sc (.int .i64 (c:Int)),.list 1 (bV p.acts)]),(13,.list 4 (R.map raR)),(15,.cptr [.list 1 V,.list 1 M,.list 1 (bB T)]),(17,.cptr [.list 1 V',.list 1 M',.list 1 (bB T)]),(19,.sc (.int .i64 (k:Int)))]) (fun _=>[]) (fun k=>k≤ls.length) (fun k=>ls.length - k) 0 (Nat.zero_le _) ?_ ?_
  ·exact Sub.w [] []
  rintro k hk
  refine aA ?_
  rw[hml]
  refine aA ?_
  refine AWP.condD rfl (fun h=>?_) (fun h=>?_)
  ·obtain⟨r,h1,h2⟩:=hmr k h
   rw[show((c:Int)).toNat=c from rfl] at h2
   refine aA ?_
   refine DK.nil ⟨by kernel_rfl,?_⟩
   refine aA ?_
   rw[h2,show(!decide (c=c))=false by simp]
   refine aA ?_
   refine⟨k+1,by omega,by omega,?_⟩
   exact Sub.w [] []
  ·refine aA ?_
   rw[hrl]
   by_cases h0:R.length=0
   ·have hRn:R=[]:=List.length_eq_zero_iff.1 h0
    have e1:=hsm1 hRn
    have e2:=hsv1 hRn
    rw[h0,← e1,← e2]
    refine aA ?_
    exact aN.w
   ·rw[show decide (R.length > 0)=true from dTr (by omega)]
    refine aA ?_
    exact aN.w
set_option maxRecDepth 100000 in
theorem v8 (os:Os) (started:os.Started) (H:Type) (enc:TypeId×Value→H):
  ReturnsInHanded {} Tryz.checked os 9 .any (Rows.windowOneSpec.pre6 enc Tryz.prog Tryz.f9 Rows.windowOneRow.domain false) (Rows.windowOneSpec.post enc Tryz.prog Tryz.f9 false true false false):=by
 refine returnsInHanded_of_change (C:=Tryz.checked) xT started (by kernel_rfl) Tryz.func9
  (ChangeSpec.witness6 (enc:=enc) (C:=Tryz.checked) false ⟨#[],#[.agg #[.int .i64 0,.slice none 0 0],.int .u64 0,.int .u64 0],[]⟩ 8 (by kernel_rfl) (by kernel_rfl) (by kernel_rfl) (by kernel_rfl)) ?_
 intro W base args ds gs before hval hW _ _
 refine oI (P:=Tryz.prog) (d:=40) (row:=[.agg [.int .i64,.slice [.slice [.int .i64,.int .i64,.int .i64,.int .i64,.int .i64,.int .i64,.slice [.int .i64]]]],.one (.int .u64),.one (.int .u64)]) (tb:=4) (by kernel_rfl) rfl uG tT o4 (by decide) rfl yA (fun ds hds=>?_) (fun avs hl hf=>?_) hval hW
 ·match ds,hds with
  | [_,_,_],_=>exact⟨rfl,rfl,rfl⟩
 ·match avs,hl with
  | [a,b,c],_=>
   obtain⟨p,rfl,hp,hn,hl⟩:=BU (hf 0 _ a rfl rfl)
   obtain⟨x,rfl,hx⟩:=pW (jM (hf 1 _ b rfl rfl))
   obtain⟨y,rfl,hy⟩:=pW (jM (hf 2 _ c rfl rfl))
   exact aO.ofPure (C5 p hp hn hl hx hy) [] rfl
theorem windowOne_holds:Rows.WindowOneSaid:=
 OpenClaim.holds_of_wide 9 Tryz.f9 rfl rfl rfl rfl rfl rfl rfl ⟨rfl,rfl,rfl,rfl,rfl⟩ rfl rfl rfl rfl rfl (by kernel_rfl) Tryz.func9 (by kernel_rfl)
  (of_decide_eq_true (by kernel_rfl)) (by unfold Func.isWrapper; first | (rw[if_pos (by decide +kernel)]; kernel_rfl) | (rw[if_neg (by decide +kernel)]; exact⟨rfl,rfl⟩))
  (fun os started H enc _=>v8 os started H enc)
end Go.Proofs.YtkjoolaahocgdaaGreat
