import Derived.Test.YtdiokakekedaaaaAbSort
namespace Go.Proofs.Ytdiokakekedaaaa.Ab
def leafL : List Nat := [41]
def leafT : Oracle := sortLeaf 41
end Go.Proofs.Ytdiokakekedaaaa.Ab
