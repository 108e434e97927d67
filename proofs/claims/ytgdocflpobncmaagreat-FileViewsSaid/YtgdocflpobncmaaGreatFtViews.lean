/- CheckView and Segments return what the document says. -/
import Derived.Test.YtgdocflpobncmaaGreatGFiLaw
namespace Go.Proofs.YtgdocflpobncmaaGreat
open Go.Av Go.Proofs
set_option maxRecDepth 20000
theorem EU:kC Tryz.prog 60 Tryz.f3.params.toList=some [.agg (.int .i64::(TyS 4++TyS 4)),.one (.int .i64),.one (.int .i64)]:=by kernel_rfl
set_option maxRecDepth 100000 in
theorem qB (os:Os) (started:os.Started) (H:Type) (enc:TypeId×Value→H):
  ReturnsInHanded {} Tryz.checked os 3 .any (Rows.fileViewsSpec.pre6 enc Tryz.prog Tryz.f3 Rows.fileViewsRow.domain false) (Rows.fileViewsSpec.post enc Tryz.prog Tryz.f3 false true false false):=by
 refine returnsInHanded_of_change (C:=Tryz.checked) K3 started (by kernel_rfl) Tryz.func3
  (ChangeSpec.witness6 (enc:=enc) (C:=Tryz.checked) false ⟨#[],#[.agg #[.int .i64 0,.int .i64 0,.int .i64 0,.int .i64 0,.int .i64 0,.slice none 0 0,.slice none 0 0,.slice none 0 0,.slice none 0 0,.int .i64 0,.int .i64 0,.int .i64 0,.int .i64 0,.slice none 0 0,.slice none 0 0,.slice none 0 0,.slice none 0 0],.int .i64 0,.int .i64 0],[]⟩ 8 (by kernel_rfl) (by kernel_rfl) (by kernel_rfl) (by kernel_rfl)) ?_
 intro W base args ds gs before hval hW _ _
 refine BN (P:=Tryz.prog) (d:=60) (row:=[.agg (.int .i64::(TyS 4++TyS 4)),.one (.int .i64),.one (.int .i64)]) (tb:=4) EU rfl JD F9 A5 (by decide) rfl L6 (fun ds hds=>?_) (fun avs hl hf=>?_) hval hW
 ·match ds,hds with
  | [_,_,_],_=>exact⟨rfl,rfl,rfl⟩
 ·obtain⟨x0,x1,x2,rfl,h0,h1,h2⟩:∃ x0 x1 x2,avs=[x0,x1,x2]∧xD (.agg (.int .i64::(TyS 4++TyS 4))) x0∧xD (.one (.int .i64)) x1∧xD (.one (.int .i64)) x2:=by
   match avs,hl with
   | [a0,a1,a2],_=>exact⟨a0,a1,a2,rfl,hf 0 _ _ rfl rfl,hf 1 _ _ rfl rfl,hf 2 _ _ rfl rfl⟩
  clear hl
  cases h1 with | one h1=>?_
  cases h2 with | one h2=>?_
  cases h0 with | agg hl0 h0=>?_
  rename_i cs
  obtain⟨v1,rfl,_,p1⟩:=dY h1
  obtain⟨v2,rfl,_⟩:=dY h2
  match cs,hl0 with
  | [y0,a0,a1,a2,a3,a4,a5,a6,a7,b0,b1,b2,b3,b4,b5,b6,b7],_=>
   obtain⟨at',rfl,_⟩:=dY (h0 0 _ y0 rfl rfl)
   obtain⟨e,he,ke⟩:=w6 4 [a0,a1,a2,a3,a4,a5,a6,a7] rfl fun j s c hs hc=>h0 (j+1) s c (by
    rw[List.getElem?_cons_succ,List.getElem?_append_left (gEs.1 hs).1]; exact hs) (by
    have hj:=(gEs.1 hc).1
    exact(List.getElem?_append_left (l₂:=[b0,b1,b2,b3,b4,b5,b6,b7]) hj).trans hc)
   obtain⟨o,ho,ko⟩:=w6 4 [b0,b1,b2,b3,b4,b5,b6,b7] rfl fun j s c hs hc=>h0 (j+9) s c (by
    exact hs) (by exact hc)
   show aG Tryz.prog 3 [.agg (iv at'::([a0,a1,a2,a3,a4,a5,a6,a7]++[b0,b1,b2,b3,b4,b5,b6,b7])),iv v1,iv v2] [] _
   rw[he,ho]
   exact aG.ofPure (F4 (t6 3 e ke) (t6 3 o ko) v1 v2 (by omega)) _ rfl
theorem fileViews_holds:Rows.FileViewsSaid:=
 OpenClaim.holds_of_wide 3 Tryz.f3 rfl rfl rfl rfl rfl rfl rfl ⟨rfl,rfl,rfl,rfl,rfl⟩ rfl rfl rfl rfl rfl (by kernel_rfl) Tryz.func3 (by kernel_rfl)
  (of_decide_eq_true (by kernel_rfl)) (by unfold Func.isWrapper; first | (rw[if_pos (by decide +kernel)]; kernel_rfl) | (rw[if_neg (by decide +kernel)]; exact⟨rfl,rfl⟩))
  (fun os started H enc _=>qB os started H enc)
end Go.Proofs.YtgdocflpobncmaaGreat
