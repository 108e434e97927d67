import Derived.Test.YtbpmbofinoinmaaGAvU
import Derived.Test.YtbpmbofinoinmaaProg
import Derived.KernelRfl
namespace Go.Proofs.Ytbpmbofinoinmaa
open Go.Av Go.Proofs
set_option maxRecDepth 100000
end Go.Proofs.Ytbpmbofinoinmaa
