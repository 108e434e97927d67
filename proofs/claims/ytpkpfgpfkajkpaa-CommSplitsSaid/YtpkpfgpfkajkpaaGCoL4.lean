import Derived.Test.YtpkpfgpfkajkpaaGAvI
import Derived.Test.YtpkpfgpfkajkpaaProg
import Derived.KernelRfl
namespace Go.Proofs.Ytpkpfgpfkajkpaa
open Go.Av Go.Proofs
set_option maxRecDepth 100000
end Go.Proofs.Ytpkpfgpfkajkpaa
