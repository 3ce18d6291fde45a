import Derived.Test.YtbkkhhmjmbbfpaaAbSortS
namespace Go.Proofs.Ytbkkhhmjmbbfpaa.Ab
def leafL : List Nat := [30]
def leafT : Oracle := sortLeafS 30
end Go.Proofs.Ytbkkhhmjmbbfpaa.Ab
