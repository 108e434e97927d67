/- The law WindowKnown answers true; no further condition. -/
import Derived.Test.YtkjoolaahocgdaaGreatGWiK14
import Derived.Test.YtkjoolaahocgdaaGreatGWiLaw
namespace Go.Proofs.YtkjoolaahocgdaaGreat
open Go.Av Go.Proofs
set_option maxRecDepth 20000
set_option maxRecDepth 100000 in
theorem qJ (os:Os) (started:os.Started) (H:Type) (enc:TypeId×Value→H):
  ReturnsInHanded {} Tryz.checked os 10 .any (Rows.windowKnownSpec.pre6 enc Tryz.prog Tryz.f10 Rows.windowKnownRow.domain false) (Rows.windowKnownSpec.post enc Tryz.prog Tryz.f10 false true false false):=by
 refine returnsInHanded_of_change (C:=Tryz.checked) LA started (by kernel_rfl) Tryz.func10
  (ChangeSpec.witness6 (enc:=enc) (C:=Tryz.checked) false ⟨#[],#[],[]⟩ 8 (by kernel_rfl) (by kernel_rfl) (by kernel_rfl) (by kernel_rfl)) ?_
 intro W base args ds gs before hval hW _ _
 refine GZ (P:=Tryz.prog) (d:=8) (row:=[]) (tb:=4) (by kernel_rfl) rfl JC JY D5 (by decide) rfl LX (fun ds hds=>?_) (fun avs hl hf=>?_) hval hW
 ·match ds,hds with
  | [],_=>exact⟨rfl,rfl,rfl⟩
 ·match avs,hl with
  | [],_=>exact aQ.ofPure wJ [] rfl
theorem windowKnown_holds:Rows.WindowKnownSaid:=
 OpenClaim.holds_of_wide 10 Tryz.f10 rfl rfl rfl rfl rfl rfl rfl ⟨rfl,rfl,rfl,rfl,rfl⟩ rfl rfl rfl rfl rfl (by kernel_rfl) Tryz.func10 (by kernel_rfl)
  (of_decide_eq_true (by kernel_rfl)) (by unfold Func.isWrapper; first | (rw[if_pos (by decide +kernel)]; kernel_rfl) | (rw[if_neg (by decide +kernel)]; exact⟨rfl,rfl⟩))
  (fun os started H enc _=>qJ os started H enc)
end Go.Proofs.YtkjoolaahocgdaaGreat
