/- The package-level variables that a seat's rows tell: number, kind, numbers. -/
import Derived.Calls
namespace Go.Proofs.Ytdiokakekedaaaa.Ab
open Go
def fxT : List (Nat × IntKind × List Int) := []
end Go.Proofs.Ytdiokakekedaaaa.Ab
