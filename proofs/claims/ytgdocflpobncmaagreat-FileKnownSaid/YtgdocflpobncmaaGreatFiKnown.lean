/- The law FileKnown answers true for every input; no further condition. -/
import Derived.Test.YtgdocflpobncmaaGreatGFiKn
import Derived.Test.YtgdocflpobncmaaGreatGFiLaw
namespace Go.Proofs.YtgdocflpobncmaaGreat
open Go.Av Go.Proofs
set_option maxRecDepth 20000
set_option maxRecDepth 100000 in
theorem jX (os:Os) (started:os.Started) (H:Type) (enc:TypeId×Value→H):
  ReturnsInHanded {} Tryz.checked os 11 .any (Rows.fileKnownSpec.pre6 enc Tryz.prog Tryz.f11 Rows.fileKnownRow.domain false) (Rows.fileKnownSpec.post enc Tryz.prog Tryz.f11 false true false false):=by
 refine returnsInHanded_of_change (C:=Tryz.checked) AE started (by kernel_rfl) Tryz.func11
  (ChangeSpec.witness6 (enc:=enc) (C:=Tryz.checked) false ⟨#[],#[],[]⟩ 8 (by kernel_rfl) (by kernel_rfl) (by kernel_rfl) (by kernel_rfl)) ?_
 intro W base args ds gs before hval hW _ _
 refine vH (P:=Tryz.prog) (d:=8) (row:=[]) (tb:=4) (by kernel_rfl) rfl zD yD r6 (by decide) rfl z8 (fun ds hds=>?_) (fun avs hl hf=>?_) hval hW
 ·match ds,hds with
  | [],_=>exact⟨rfl,rfl,rfl⟩
 ·match avs,hl with
  | [],_=>exact aF.ofPure y5 [] rfl
theorem fileKnown_holds:Rows.FileKnownSaid:=
 OpenClaim.holds_of_wide 11 Tryz.f11 rfl rfl rfl rfl rfl rfl rfl ⟨rfl,rfl,rfl,rfl,rfl⟩ rfl rfl rfl rfl rfl (by kernel_rfl) Tryz.func11 (by kernel_rfl)
  (of_decide_eq_true (by kernel_rfl)) (by unfold Func.isWrapper; first | (rw[if_pos (by decide +kernel)]; kernel_rfl) | (rw[if_neg (by decide +kernel)]; exact⟨rfl,rfl⟩))
  (fun os started H enc _=>jX os started H enc)
end Go.Proofs.YtgdocflpobncmaaGreat
