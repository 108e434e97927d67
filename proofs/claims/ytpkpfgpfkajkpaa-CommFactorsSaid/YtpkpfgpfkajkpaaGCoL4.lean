import Derived.Test.YtpkpfgpfkajkpaaGAvI
import Derived.Test.YtpkpfgpfkajkpaaProg
import Derived.KernelRfl
namespace Go.Proofs.Ytpkpfgpfkajkpaa
open Go.Av Go.Proofs
set_option maxRecDepth 100000
def F4 : IFun := ⟨29, (.seq (.region [⟨(some 4), none, (.op (.move (.const (.bool false))))⟩]) (.seq (.region [⟨(some 10), none, (.op (.move (.tmp 0)))⟩, ⟨(some 11), none, (.op (.move (.tmp 1)))⟩, ⟨(some 12), none, (.call 17 [(.tmp 10), (.tmp 11)])⟩, ⟨(some 9), none, (.op (.move (.tmp 12)))⟩, ⟨(some 13), none, (.op (.extract (.tmp 9) 0))⟩, ⟨(some 14), none, (.op (.extract (.tmp 9) 1))⟩, ⟨(some 5), none, (.op (.move (.tmp 13)))⟩, ⟨(some 6), none, (.op (.move (.tmp 14)))⟩]) (.seq (.region [⟨(some 16), none, (.op (.move (.tmp 0)))⟩, ⟨(some 17), none, (.op (.move (.tmp 1)))⟩, ⟨(some 18), none, (.call 18 [(.tmp 16), (.tmp 17)])⟩, ⟨(some 15), none, (.op (.move (.tmp 18)))⟩, ⟨(some 19), none, (.op (.extract (.tmp 15) 0))⟩, ⟨(some 20), none, (.op (.extract (.tmp 15) 1))⟩, ⟨(some 7), none, (.op (.move (.tmp 19)))⟩, ⟨(some 8), none, (.op (.move (.tmp 20)))⟩]) (.seq (.region [⟨(some 21), none, (.op (.move (.tmp 5)))⟩, ⟨(some 22), none, (.op (.move (.tmp 6)))⟩, ⟨(some 23), none, (.op (.move (.tmp 7)))⟩, ⟨(some 24), none, (.op (.move (.tmp 8)))⟩, ⟨(some 25), none, (.call 16 [(.tmp 21), (.tmp 22), (.tmp 23), (.tmp 24)])⟩, ⟨(some 26), none, (.op (.move (.tmp 25)))⟩, ⟨(some 27), (some (26, true)), (.call 13 [])⟩, ⟨(some 28), none, (.op (.pick (.tmp 26) (.tmp 27) (.const (.bool false))))⟩, ⟨(some 4), none, (.op (.move (.tmp 28)))⟩]) .ret)))), [(.tmp 4)]⟩
theorem cF4 : cfun Try.prog 4 = some F4 := by kernel_rfl
end Go.Proofs.Ytpkpfgpfkajkpaa
