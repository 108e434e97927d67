/- Sync writes at most one block more to each server than stripes were changed since the last one; Read writes none. -/
import Derived.Test.YtgdocflpobncmaaGreatGFiS2
import Derived.Test.YtgdocflpobncmaaGreatGFiLaw
namespace Go.Proofs.YtgdocflpobncmaaGreat
open Go.Av Go.Proofs
set_option maxRecDepth 20000
set_option maxRecDepth 100000 in
theorem lT (os:Os) (started:os.Started) (H:Type) (enc:TypeId×Value→H):
  ReturnsInHanded {} Tryz.checked os 5 .any (Rows.fileStripesSpec.pre6 enc Tryz.prog Tryz.f5 Rows.fileStripesRow.domain false) (Rows.fileStripesSpec.post enc Tryz.prog Tryz.f5 false true false false):=by
 refine returnsInHanded_of_change (C:=Tryz.checked) KR started (by kernel_rfl) Tryz.func5
  (ChangeSpec.witness6 (enc:=enc) (C:=Tryz.checked) false ⟨#[],#[.int .u8 0,.int .u8 0,.slice none 0 0,.slice none 0 0],[]⟩ 8 (by kernel_rfl) (by kernel_rfl) (by kernel_rfl) (by kernel_rfl)) ?_
 intro W base args ds gs before hval hW _ _
 refine DV (P:=Tryz.prog) (d:=8) (row:=[.int .u8,.int .u8,.slice [.int .u8],.slice [.int .u8]]) (tb:=4) (by kernel_rfl) rfl HD HI AL (by decide) rfl KF (fun ds hds=>?_) (fun avs hl hf=>?_) hval hW
 ·match ds,hds with
  | [_,_,_,_],_=>exact⟨rfl,rfl,rfl⟩
 ·obtain⟨x0,x1,x2,x3,rfl,h0,h1,h2,h3⟩:∃ x0 x1 x2 x3,avs=[x0,x1,x2,x3]∧Fit (.int .u8) x0∧Fit (.int .u8) x1∧Fit (.slice [.int .u8]) x2∧Fit (.slice [.int .u8]) x3:=by
   match avs,hl with
   | [a0,a1,a2,a3],_=>exact⟨a0,a1,a2,a3,rfl,hf 0 _ _ rfl rfl,hf 1 _ _ rfl rfl,hf 2 _ _ rfl rfl,hf 3 _ _ rfl rfl⟩
  clear hl
  obtain⟨v0,rfl,p0⟩:=qD h0
  obtain⟨v1,rfl,p1⟩:=qD h1
  obtain⟨v2,rfl,_,p2⟩:=uX h2 (fun b:Nat=>[.sc (.int .u8 (b:Int))]) (fun b=>b≤255) fun r hl hf=>by
   match r,hl with
   | [x],_=>
    obtain⟨n,rfl,hn⟩:=qD (hf 0 _ x rfl rfl)
    exact⟨n,rfl,hn⟩
  obtain⟨v3,rfl,_,p3⟩:=uX h3 (fun b:Nat=>[.sc (.int .u8 (b:Int))]) (fun b=>b≤255) fun r hl hf=>by
   match r,hl with
   | [x],_=>
    obtain⟨n,rfl,hn⟩:=qD (hf 0 _ x rfl rfl)
    exact⟨n,rfl,hn⟩
  exact rB v0 v1 v2 v3 p0 p1 p2 p3
theorem fileStripes_holds:Rows.FileStripesSaid:=
 OpenClaim.holds_of_wide 5 Tryz.f5 rfl rfl rfl rfl rfl rfl rfl ⟨rfl,rfl,rfl,rfl,rfl⟩ rfl rfl rfl rfl rfl (by kernel_rfl) Tryz.func5 (by kernel_rfl)
  (of_decide_eq_true (by kernel_rfl)) (by unfold Func.isWrapper; first | (rw[if_pos (by decide +kernel)]; kernel_rfl) | (rw[if_neg (by decide +kernel)]; exact⟨rfl,rfl⟩))
  (fun os started H enc _=>lT os started H enc)
end Go.Proofs.YtgdocflpobncmaaGreat
