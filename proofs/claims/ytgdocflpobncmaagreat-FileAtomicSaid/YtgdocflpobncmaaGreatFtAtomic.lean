/- In atomic mode all places that two requests have in common get the bytes of one of both; in any mode each place has a byte that some request has for it. -/
import Derived.Test.YtgdocflpobncmaaGreatGFiLaw
namespace Go.Proofs.YtgdocflpobncmaaGreat
open Go.Av Go.Proofs
set_option maxRecDepth 20000
theorem IE {a:AV} (h:Fit (.int .u64) a):∃ n:Nat,a=.sc (.int .u64 n)∧n < 18446744073709551616:=by
 cases h with
 | int k n h=>
  have e1:IntKind.u64.min=0:=rfl
  have e2:IntKind.u64.max=18446744073709551615:=rfl
  simp only[Lit.wf,Bool.and_eq_true,decide_eq_true_eq,e1,e2] at h
  obtain⟨m,rfl⟩:=Int.eq_ofNat_of_zero_le h.1
  exact⟨m,rfl,by omega⟩
abbrev RqS:List Sh:=.int .i64::(TyS 4++TyS 4)++[.int .i64,.slice [.int .u8]]
theorem AY:jA Tryz.prog 60 Tryz.f8.params.toList=some [.agg RqS,.agg RqS,.one .bool,.one (.int .u64)]:=by kernel_rfl
theorem CG (cs:List AV) (hl:cs.length=RqS.length) (hf:∀(j:Nat) s c,RqS[j]?=some s→cs[j]?=some c→Fit s c):∃ r:Rq,cs=rqR r∧r.kn∧r.off < 9223372036854775808:=by
 match cs,hl with
 | [y0,a0,a1,a2,a3,a4,a5,a6,a7,b0,b1,b2,b3,b4,b5,b6,b7,o,d],_=>
  obtain⟨at',rfl,_⟩:=dP (hf 0 _ y0 rfl rfl)
  obtain⟨e,he,ke⟩:=wL 4 [a0,a1,a2,a3,a4,a5,a6,a7] rfl fun j s c hs hc=>hf (j+1) s c (by
   show(TyS 4++TyS 4++[.int .i64,.slice [.int .u8]])[j]?=some s
   rw[List.append_assoc,List.getElem?_append_left (gEs.1 hs).1]; exact hs) (by
   have hj:=(gEs.1 hc).1
   exact(List.getElem?_append_left (l₂:=[b0,b1,b2,b3,b4,b5,b6,b7,o,d]) hj).trans hc)
  obtain⟨t,ht,kt⟩:=wL 4 [b0,b1,b2,b3,b4,b5,b6,b7] rfl fun j s c hs hc=>hf (j+9) s c (by
   show(TyS 4++[.int .i64,.slice [.int .u8]])[j]?=some s
   rw[List.getElem?_append_left (gEs.1 hs).1]; exact hs) (by
   have hj:=(gEs.1 hc).1
   exact(List.getElem?_append_left (l₂:=[o,d]) hj).trans hc)
  obtain⟨off,rfl,p1⟩:=dP (hf 17 _ o rfl rfl)
  obtain⟨dt,rfl,_,_⟩:=oP (hf 18 _ d rfl rfl) (fun b:Nat=>[.sc (.int .u8 (b:Int))]) (fun b=>b≤255) fun r hl hf=>by
   match r,hl with
   | [x],_=>
    obtain⟨n,rfl,hn⟩:=KT (hf 0 _ x rfl rfl)
    exact⟨n,rfl,hn⟩
  refine⟨⟨at',e,t,off,dt⟩,?_,⟨tF 3 e ke,tF 3 t kt⟩,?_⟩
  ·show iv at'::([a0,a1,a2,a3,a4,a5,a6,a7]++([b0,b1,b2,b3,b4,b5,b6,b7]++[iv off,_]))=_
   rw[he,ht]
   unfold rqR vwR
   rw[List.cons_append,List.append_assoc]
   rfl
  ·show off < _
   omega
set_option maxRecDepth 100000 in
theorem nH (os:Os) (started:os.Started) (H:Type) (enc:TypeId×Value→H):
  ReturnsInHanded {} Tryz.checked os 8 .any (Rows.fileAtomicSpec.pre6 enc Tryz.prog Tryz.f8 Rows.fileAtomicRow.domain false) (Rows.fileAtomicSpec.post enc Tryz.prog Tryz.f8 false true false false):=by
 refine returnsInHanded_of_change (C:=Tryz.checked) J9 started (by kernel_rfl) Tryz.func8
  (ChangeSpec.witness6 (enc:=enc) (C:=Tryz.checked) false ⟨#[],#[.agg #[.int .i64 0,.int .i64 0,.int .i64 0,.int .i64 0,.int .i64 0,.slice none 0 0,.slice none 0 0,.slice none 0 0,.slice none 0 0,.int .i64 0,.int .i64 0,.int .i64 0,.int .i64 0,.slice none 0 0,.slice none 0 0,.slice none 0 0,.slice none 0 0,.int .i64 0,.slice none 0 0],.agg #[.int .i64 0,.int .i64 0,.int .i64 0,.int .i64 0,.int .i64 0,.slice none 0 0,.slice none 0 0,.slice none 0 0,.slice none 0 0,.int .i64 0,.int .i64 0,.int .i64 0,.int .i64 0,.slice none 0 0,.slice none 0 0,.slice none 0 0,.slice none 0 0,.int .i64 0,.slice none 0 0],.bool false,.int .u64 0],[]⟩ 8 (by kernel_rfl) (by kernel_rfl) (by kernel_rfl) (by kernel_rfl)) ?_
 intro W base args ds gs before hval hW _ _
 refine BW (P:=Tryz.prog) (d:=60) (row:=[.agg RqS,.agg RqS,.one .bool,.one (.int .u64)]) (tb:=4) AY rfl JE IM BO (by decide) rfl K7 (fun ds hds=>?_) (fun avs hl hf=>?_) hval hW
 ·match ds,hds with
  | [_,_,_,_],_=>exact⟨rfl,rfl,rfl⟩
 ·obtain⟨x0,x1,x2,x3,rfl,h0,h1,h2,h3⟩:∃ x0 x1 x2 x3,avs=[x0,x1,x2,x3]∧t8 (.agg RqS) x0∧t8 (.agg RqS) x1∧t8 (.one .bool) x2∧t8 (.one (.int .u64)) x3:=by
   match avs,hl with
   | [a0,a1,a2,a3],_=>exact⟨a0,a1,a2,a3,rfl,hf 0 _ _ rfl rfl,hf 1 _ _ rfl rfl,hf 2 _ _ rfl rfl,hf 3 _ _ rfl rfl⟩
  clear hl
  cases h2 with | one h2=>?_
  cases h3 with | one h3=>?_
  cases h0 with | agg hl0 h0=>?_
  cases h1 with | agg hl1 h1=>?_
  obtain⟨v2,rfl⟩:=AU h2
  obtain⟨v3,rfl,p3⟩:=IE h3
  obtain⟨x,rfl,kx,ox⟩:=CG _ hl0 h0
  obtain⟨y,rfl,ky,oy⟩:=CG _ hl1 h1
  exact aF.ofPure (FO kx ky ox oy (by omega)) _ rfl
theorem fileAtomic_holds:Rows.FileAtomicSaid:=
 OpenClaim.holds_of_wide 8 Tryz.f8 rfl rfl rfl rfl rfl rfl rfl ⟨rfl,rfl,rfl,rfl,rfl⟩ rfl rfl rfl rfl rfl (by kernel_rfl) Tryz.func8 (by kernel_rfl)
  (of_decide_eq_true (by kernel_rfl)) (by unfold Func.isWrapper; first | (rw[if_pos (by decide +kernel)]; kernel_rfl) | (rw[if_neg (by decide +kernel)]; exact⟨rfl,rfl⟩))
  (fun os started H enc _=>nH os started H enc)
end Go.Proofs.YtgdocflpobncmaaGreat
