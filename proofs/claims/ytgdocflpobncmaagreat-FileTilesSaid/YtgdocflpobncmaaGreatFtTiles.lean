/- The law FileTiles answers true for every input; no further condition. -/
import Derived.Test.YtgdocflpobncmaaGreatGFiLaw
namespace Go.Proofs.YtgdocflpobncmaaGreat
open Go.Av Go.Proofs
set_option maxRecDepth 20000
theorem CC:hY Tryz.prog 60 Tryz.f4.params.toList=some [.agg (.int .i64::(TyS 4++TyS 4)),.one (.int .u8),.one (.int .u8),.one (.int .u8)]:=by kernel_rfl
set_option maxRecDepth 100000 in
theorem nJ (os:Os) (started:os.Started) (H:Type) (enc:TypeId×Value→H):
  ReturnsInHanded {} Tryz.checked os 4 .any (Rows.fileTilesSpec.pre6 enc Tryz.prog Tryz.f4 Rows.fileTilesRow.domain false) (Rows.fileTilesSpec.post enc Tryz.prog Tryz.f4 false true false false):=by
 refine returnsInHanded_of_change (C:=Tryz.checked) GA started (by kernel_rfl) Tryz.func4
  (ChangeSpec.witness6 (enc:=enc) (C:=Tryz.checked) false ⟨#[],#[.agg #[.int .i64 0,.int .i64 0,.int .i64 0,.int .i64 0,.int .i64 0,.slice none 0 0,.slice none 0 0,.slice none 0 0,.slice none 0 0,.int .i64 0,.int .i64 0,.int .i64 0,.int .i64 0,.slice none 0 0,.slice none 0 0,.slice none 0 0,.slice none 0 0],.int .u8 0,.int .u8 0,.int .u8 0],[]⟩ 8 (by kernel_rfl) (by kernel_rfl) (by kernel_rfl) (by kernel_rfl)) ?_
 intro W base args ds gs before hval hW _ _
 refine xL (P:=Tryz.prog) (d:=60) (row:=[.agg (.int .i64::(TyS 4++TyS 4)),.one (.int .u8),.one (.int .u8),.one (.int .u8)]) (tb:=4) CC rfl EX EN yF (by decide) rfl F8 (fun ds hds=>?_) (fun avs hl hf=>?_) hval hW
 ·match ds,hds with
  | [_,_,_,_],_=>exact⟨rfl,rfl,rfl⟩
 ·obtain⟨x0,x1,x2,x3,rfl,h0,h1,h2,h3⟩:∃ x0 x1 x2 x3,avs=[x0,x1,x2,x3]∧rM (.agg (.int .i64::(TyS 4++TyS 4))) x0∧rM (.one (.int .u8)) x1∧rM (.one (.int .u8)) x2∧rM (.one (.int .u8)) x3:=by
   match avs,hl with
   | [a0,a1,a2,a3],_=>exact⟨a0,a1,a2,a3,rfl,hf 0 _ _ rfl rfl,hf 1 _ _ rfl rfl,hf 2 _ _ rfl rfl,hf 3 _ _ rfl rfl⟩
  clear hl
  cases h1 with | one h1=>?_
  cases h2 with | one h2=>?_
  cases h3 with | one h3=>?_
  cases h0 with | agg hl0 h0=>?_
  rename_i cs
  obtain⟨v1,rfl,p1⟩:=uT h1
  obtain⟨v2,rfl,p2⟩:=uT h2
  obtain⟨v3,rfl,p3⟩:=uT h3
  match cs,hl0 with
  | [y0,a0,a1,a2,a3,a4,a5,a6,a7,b0,b1,b2,b3,b4,b5,b6,b7],_=>
   obtain⟨at',rfl,_⟩:=dZ (h0 0 _ y0 rfl rfl)
   obtain⟨e,he,ke⟩:=tY 4 [a0,a1,a2,a3,a4,a5,a6,a7] rfl fun j s c hs hc=>h0 (j+1) s c (by
    rw[List.getElem?_cons_succ,List.getElem?_append_left (gEs.1 hs).1]; exact hs) (by
    have hj:=(gEs.1 hc).1
    exact(List.getElem?_append_left (l₂:=[b0,b1,b2,b3,b4,b5,b6,b7]) hj).trans hc)
   obtain⟨o,ho,ko⟩:=tY 4 [b0,b1,b2,b3,b4,b5,b6,b7] rfl fun j s c hs hc=>h0 (j+9) s c (by
    exact hs) (by exact hc)
   show aH Tryz.prog 4 [.agg (iv at'::([a0,a1,a2,a3,a4,a5,a6,a7]++[b0,b1,b2,b3,b4,b5,b6,b7])),.sc (.int .u8 (v1:Nat)),.sc (.int .u8 (v2:Nat)),.sc (.int .u8 (v3:Nat))] [] _
   rw[he,ho]
   exact aH.ofPure (DQ (qA 3 e ke) (qA 3 o ko) v1 v2 v3 p1 p2 p3) _ rfl
theorem fileTiles_holds:Rows.FileTilesSaid:=
 OpenClaim.holds_of_wide 4 Tryz.f4 rfl rfl rfl rfl rfl rfl rfl ⟨rfl,rfl,rfl,rfl,rfl⟩ rfl rfl rfl rfl rfl (by kernel_rfl) Tryz.func4 (by kernel_rfl)
  (of_decide_eq_true (by kernel_rfl)) (by unfold Func.isWrapper; first | (rw[if_pos (by decide +kernel)]; kernel_rfl) | (rw[if_neg (by decide +kernel)]; exact⟨rfl,rfl⟩))
  (fun os started H enc _=>nJ os started H enc)
end Go.Proofs.YtgdocflpobncmaaGreat
