/- The package-level variables that a seat's rows tell: number, kind, numbers. -/
import Derived.Calls
import Derived.Lib.ItoaNum
namespace Go.Proofs.YtagckffnpnejaaaDoor.Ab
open Go
def fxT : List (Nat × IntKind × List Int) := [(0, .u64, Lib.pow10Tab)]
end Go.Proofs.YtagckffnpnejaaaDoor.Ab
