/- The package-level variables that a seat's rows tell: number, kind, numbers. -/
import Derived.Calls
import Derived.Lib.ItoaNum
namespace Go.Proofs.YtlaieomjooeofaaDoor.Ab
open Go
def fxT : List (Nat × IntKind × List Int) := [(1, .u64, Lib.pow10Tab)]
end Go.Proofs.YtlaieomjooeofaaDoor.Ab
