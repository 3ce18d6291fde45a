import Derived.Test.YtagckffnpnejaaaDoorAbItoa
namespace Go.Proofs.YtagckffnpnejaaaDoor.Ab
def leafL : List Nat := [30]
def leafT : Oracle := itoaLeaf 30
end Go.Proofs.YtagckffnpnejaaaDoor.Ab
