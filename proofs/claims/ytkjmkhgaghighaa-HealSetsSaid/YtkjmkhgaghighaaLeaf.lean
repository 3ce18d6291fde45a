import Derived.Test.YtkjmkhgaghighaaAb
namespace Go.Proofs.Ytkjmkhgaghighaa.Ab
def leafL : List Nat := []
def leafT : Oracle := fun _ _ _ _ => False
end Go.Proofs.Ytkjmkhgaghighaa.Ab
