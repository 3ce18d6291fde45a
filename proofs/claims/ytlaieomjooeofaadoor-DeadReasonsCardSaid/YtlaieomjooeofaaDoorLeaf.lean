import Derived.Test.YtlaieomjooeofaaDoorAbScal
import Derived.Lib.Bytealg
import Derived.Lib.BitFns
namespace Go.Proofs.YtlaieomjooeofaaDoor.Ab
open Go
def rel54 (args : List AV) (r : AV) : Prop := ∃ a b : ByteArray, args = [.str a, .str b] ∧ r = .int .i64 (Lib.compareBytes a.data.toList b.data.toList)
def rel61 (args : List AV) (r : AV) : Prop := ∃ (s : ByteArray) (c : UInt8), args = [.str s, .str ⟨#[c]⟩] ∧ r = .int .i64 (Lib.indexByte s.data.toList c)
def rel68 (args : List AV) (r : AV) : Prop := ∃ x : Int, (0 ≤ x ∧ x ≤ 18446744073709551615) ∧ args = [.int .u64 x] ∧ r = .int .i64 (Lib.bitLen x.toNat)
def leafL : List Nat := [34, 54, 61, 68]
def leafT : Oracle := orLeaf (itoaLeaf 34) (orLeaf (scLeaf 54 rel54) (orLeaf (scLeaf 61 rel61) (scLeaf 68 rel68)))
end Go.Proofs.YtlaieomjooeofaaDoor.Ab
