/- The package-level variables that a seat's rows tell: number, kind, numbers. -/
import Derived.Calls
namespace Go.Proofs.Ytbkkhhmjmbbfpaa.Ab
open Go
def fxT : List (Nat × IntKind × List Int) := []
end Go.Proofs.Ytbkkhhmjmbbfpaa.Ab
