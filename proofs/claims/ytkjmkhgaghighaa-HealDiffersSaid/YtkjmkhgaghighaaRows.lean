/-
  No cell of these rows narrows 'for every input' (looked for: loops, veiled, ifaces, maps, wideKeys, modest, calm, conditions, laid).
  DERIVED. THE GIVEN ROWS OF THIS SEAT. 6 by the template 'for every input the law returns true; each argument reads behind the call as it read before'; 0 by the template 'total and deterministic' (their statements: YtkjmkhgaghighaaTotals.lean).
  GIVEN WITH THE SEED: the statements are not yours to turn. If you find one false, say at which input.
  Laid BY PROGRAM, IN A SANDBOX (cutbox-rows.mjs): the forced cells as the released guide's own fill.sh prints them over the translation 43fa8e03fb872efa… (all of the seat's roots in one cut). By AI agents, Wed Nov 11 2026. No macro, syntax, notation, axiom, sorry.
-/
import Derived.Test.YtkjmkhgaghighaaChecked
import GoSem.Claim
import GoSem.ClaimJoined
import GoSem.ClaimMapViews
import Derived.JoinedTies
import Derived.KernelRfl
namespace Go.Proofs.Ytkjmkhgaghighaa
/- THE CELL 'sum', in the pinned program and in every row, IS THE sha256 OF THE DUMP (.gsa) THAT YtkjmkhgaghighaaProg.lean LOADS. Nothing in Lean hashes anything: it is a label: what it is worth is what the hold of that sum in a sandbox is worth. -/
noncomputable def Try.pinned : Pinned := { name := "ytkjmkhgaghighaa", sum := "43fa8e03fb872efabdb92575c0adcd1bd8c0f455736ce5bea677ae92b4b627be", checked := Try.checked }
namespace Rows
def none {H : Type} : Left H := { results := [], args := [] }

/-- 'brokerlaw44.HealChecks': WHATEVER THE INPUT: true; the input reads as it did. -/
def healChecksSpec : ChangeSpec := { name := "healChecks", fn := fun _ => fun
  | [d] => { results := [.lit (.bool true)], args := [d] }
  | _ => none }
def healChecksRow : OpenClaim := { program := "ytkjmkhgaghighaa", sum := "43fa8e03fb872efabdb92575c0adcd1bd8c0f455736ce5bea677ae92b4b627be", func := "broker/brokerlaw44.HealChecks", spec := "healChecks", inPlace := ["slices.overlaps[broker/api.Cell]"], unfollowed := true, recurses := true, apart := false }
def HealChecksSaid : Prop := healChecksRow.holds Try.pinned (OpenSpec.ofChange healChecksSpec)

/-- ITS FALSE NEIGHBOUR: 'it returns false'. Refute it at one input. -/
def healChecksWrong : ChangeSpec := { name := "healChecks", fn := fun _ => fun
  | [d] => { results := [.lit (.bool false)], args := [d] }
  | _ => none }
def HealChecksWrongFalsely : Prop := healChecksRow.holds Try.pinned (OpenSpec.ofChange healChecksWrong)

/-- 'brokerlaw44.HealSets': WHATEVER THE INPUT: true; the input reads as it did. -/
def healSetsSpec : ChangeSpec := { name := "healSets", fn := fun _ => fun
  | [d1, d2, d3] => { results := [.lit (.bool true)], args := [d1, d2, d3] }
  | _ => none }
def healSetsRow : OpenClaim := { program := "ytkjmkhgaghighaa", sum := "43fa8e03fb872efabdb92575c0adcd1bd8c0f455736ce5bea677ae92b4b627be", func := "broker/brokerlaw44.HealSets", spec := "healSets", inPlace := ["slices.overlaps[broker/api.Cell]"], unfollowed := true, recurses := true, apart := false }
def HealSetsSaid : Prop := healSetsRow.holds Try.pinned (OpenSpec.ofChange healSetsSpec)

/-- ITS FALSE NEIGHBOUR: 'it returns false'. Refute it at one input. -/
def healSetsWrong : ChangeSpec := { name := "healSets", fn := fun _ => fun
  | [d1, d2, d3] => { results := [.lit (.bool false)], args := [d1, d2, d3] }
  | _ => none }
def HealSetsWrongFalsely : Prop := healSetsRow.holds Try.pinned (OpenSpec.ofChange healSetsWrong)

/-- 'brokerlaw44.HealMerges': WHATEVER THE INPUT: true; the input reads as it did. -/
def healMergesSpec : ChangeSpec := { name := "healMerges", fn := fun _ => fun
  | [d1, d2] => { results := [.lit (.bool true)], args := [d1, d2] }
  | _ => none }
def healMergesRow : OpenClaim := { program := "ytkjmkhgaghighaa", sum := "43fa8e03fb872efabdb92575c0adcd1bd8c0f455736ce5bea677ae92b4b627be", func := "broker/brokerlaw44.HealMerges", spec := "healMerges", inPlace := ["slices.overlaps[broker/api.Cell]"], unfollowed := true, recurses := true, apart := false }
def HealMergesSaid : Prop := healMergesRow.holds Try.pinned (OpenSpec.ofChange healMergesSpec)

/-- ITS FALSE NEIGHBOUR: 'it returns false'. Refute it at one input. -/
def healMergesWrong : ChangeSpec := { name := "healMerges", fn := fun _ => fun
  | [d1, d2] => { results := [.lit (.bool false)], args := [d1, d2] }
  | _ => none }
def HealMergesWrongFalsely : Prop := healMergesRow.holds Try.pinned (OpenSpec.ofChange healMergesWrong)

/-- 'brokerlaw44.HealMerge': WHATEVER THE INPUT: true; the input reads as it did. -/
def healMergeSpec : ChangeSpec := { name := "healMerge", fn := fun _ => fun
  | [d1, d2, d3] => { results := [.lit (.bool true)], args := [d1, d2, d3] }
  | _ => none }
def healMergeRow : OpenClaim := { program := "ytkjmkhgaghighaa", sum := "43fa8e03fb872efabdb92575c0adcd1bd8c0f455736ce5bea677ae92b4b627be", func := "broker/brokerlaw44.HealMerge", spec := "healMerge", inPlace := ["slices.overlaps[broker/api.Cell]"], unfollowed := true, recurses := true, apart := false }
def HealMergeSaid : Prop := healMergeRow.holds Try.pinned (OpenSpec.ofChange healMergeSpec)

/-- ITS FALSE NEIGHBOUR: 'it returns false'. Refute it at one input. -/
def healMergeWrong : ChangeSpec := { name := "healMerge", fn := fun _ => fun
  | [d1, d2, d3] => { results := [.lit (.bool false)], args := [d1, d2, d3] }
  | _ => none }
def HealMergeWrongFalsely : Prop := healMergeRow.holds Try.pinned (OpenSpec.ofChange healMergeWrong)

/-- 'brokerlaw44.HealDiffers': WHATEVER THE INPUT: true; the input reads as it did. -/
def healDiffersSpec : ChangeSpec := { name := "healDiffers", fn := fun _ => fun
  | [d1, d2] => { results := [.lit (.bool true)], args := [d1, d2] }
  | _ => none }
def healDiffersRow : OpenClaim := { program := "ytkjmkhgaghighaa", sum := "43fa8e03fb872efabdb92575c0adcd1bd8c0f455736ce5bea677ae92b4b627be", func := "broker/brokerlaw44.HealDiffers", spec := "healDiffers", inPlace := ["slices.overlaps[broker/api.Cell]"], unfollowed := true, recurses := true, apart := false }
def HealDiffersSaid : Prop := healDiffersRow.holds Try.pinned (OpenSpec.ofChange healDiffersSpec)

/-- ITS FALSE NEIGHBOUR: 'it returns false'. Refute it at one input. -/
def healDiffersWrong : ChangeSpec := { name := "healDiffers", fn := fun _ => fun
  | [d1, d2] => { results := [.lit (.bool false)], args := [d1, d2] }
  | _ => none }
def HealDiffersWrongFalsely : Prop := healDiffersRow.holds Try.pinned (OpenSpec.ofChange healDiffersWrong)

/-- 'brokerlaw44.HealPrevails': WHATEVER THE INPUT: true; the input reads as it did. -/
def healPrevailsSpec : ChangeSpec := { name := "healPrevails", fn := fun _ => fun
  | [d1, d2, d3] => { results := [.lit (.bool true)], args := [d1, d2, d3] }
  | _ => none }
def healPrevailsRow : OpenClaim := { program := "ytkjmkhgaghighaa", sum := "43fa8e03fb872efabdb92575c0adcd1bd8c0f455736ce5bea677ae92b4b627be", func := "broker/brokerlaw44.HealPrevails", spec := "healPrevails", inPlace := ["slices.overlaps[broker/api.Cell]"], unfollowed := true, recurses := true, apart := false }
def HealPrevailsSaid : Prop := healPrevailsRow.holds Try.pinned (OpenSpec.ofChange healPrevailsSpec)

/-- ITS FALSE NEIGHBOUR: 'it returns false'. Refute it at one input. -/
def healPrevailsWrong : ChangeSpec := { name := "healPrevails", fn := fun _ => fun
  | [d1, d2, d3] => { results := [.lit (.bool false)], args := [d1, d2, d3] }
  | _ => none }
def HealPrevailsWrongFalsely : Prop := healPrevailsRow.holds Try.pinned (OpenSpec.ofChange healPrevailsWrong)

/- THE SECOND FORM. 'bulk': how many values and letters a reading holds, each counted each time it is reached (what is shared counts as often as it is met; a slice's spare places count too). A statement '..UptoSaid' is the law's where the arguments, and the package variables that the reading takes, are together of bulk at most 1048576: NARROWER than '..Said'. Prove '..Said' where nothing that the law and all that it calls make is longer than what came in: it says more and counts as full. Else prove '..UptoSaid'. A law counts once. -/
mutual
def uptoBulk {H : Type} : DataW H → Nat
  | .lit (.string bytes) => bytes.length + 1
  | .lit _ => 1
  | .nil => 1
  | .ptr d => uptoBulk d + 1
  | .slice elems spare => uptoBulkAll elems + uptoBulkAll spare + 1
  | .agg parts => uptoBulkAll parts + 1
  | .iface _ d => uptoBulk d + 1
  | .map entries => uptoBulkEntries entries + 1
  | .held _ => 1
def uptoBulkAll {H : Type} : List (DataW H) → Nat
  | [] => 0
  | d :: r => uptoBulk d + uptoBulkAll r
def uptoBulkEntries {H : Type} : List (Lit × DataW H) → Nat
  | [] => 0
  | x :: r => uptoBulkEntry x + uptoBulkEntries r
def uptoBulkEntry {H : Type} : Lit × DataW H → Nat
  | (.string bytes, d) => bytes.length + uptoBulk d + 1
  | (_, d) => uptoBulk d + 1
 end
def uptoSmall : (H : Type) → List (DataW H) → Bool := fun _ ds => decide (uptoBulkAll ds ≤ 1048576)
def OpenSpec.upto (s : _root_.Go.ChangeSpec) : _root_.Go.OpenSpec := { _root_.Go.OpenSpec.ofChange s with cond := some uptoSmall }

/-- 'brokerlaw44.HealChecks', WHERE WHAT IT READS IS OF BULK AT MOST 1048576: true; the input reads as it did. -/
def healChecksUptoRow : OpenClaim := { program := "ytkjmkhgaghighaa", sum := "43fa8e03fb872efabdb92575c0adcd1bd8c0f455736ce5bea677ae92b4b627be", func := "broker/brokerlaw44.HealChecks", spec := "healChecks", inPlace := ["slices.overlaps[broker/api.Cell]"], unfollowed := true, recurses := true, apart := false, narrowed := true }
def HealChecksUptoSaid : Prop := healChecksUptoRow.holds Try.pinned (OpenSpec.upto healChecksSpec)

/-- 'brokerlaw44.HealSets', WHERE WHAT IT READS IS OF BULK AT MOST 1048576: true; the input reads as it did. -/
def healSetsUptoRow : OpenClaim := { program := "ytkjmkhgaghighaa", sum := "43fa8e03fb872efabdb92575c0adcd1bd8c0f455736ce5bea677ae92b4b627be", func := "broker/brokerlaw44.HealSets", spec := "healSets", inPlace := ["slices.overlaps[broker/api.Cell]"], unfollowed := true, recurses := true, apart := false, narrowed := true }
def HealSetsUptoSaid : Prop := healSetsUptoRow.holds Try.pinned (OpenSpec.upto healSetsSpec)

/-- 'brokerlaw44.HealMerges', WHERE WHAT IT READS IS OF BULK AT MOST 1048576: true; the input reads as it did. -/
def healMergesUptoRow : OpenClaim := { program := "ytkjmkhgaghighaa", sum := "43fa8e03fb872efabdb92575c0adcd1bd8c0f455736ce5bea677ae92b4b627be", func := "broker/brokerlaw44.HealMerges", spec := "healMerges", inPlace := ["slices.overlaps[broker/api.Cell]"], unfollowed := true, recurses := true, apart := false, narrowed := true }
def HealMergesUptoSaid : Prop := healMergesUptoRow.holds Try.pinned (OpenSpec.upto healMergesSpec)

/-- 'brokerlaw44.HealMerge', WHERE WHAT IT READS IS OF BULK AT MOST 1048576: true; the input reads as it did. -/
def healMergeUptoRow : OpenClaim := { program := "ytkjmkhgaghighaa", sum := "43fa8e03fb872efabdb92575c0adcd1bd8c0f455736ce5bea677ae92b4b627be", func := "broker/brokerlaw44.HealMerge", spec := "healMerge", inPlace := ["slices.overlaps[broker/api.Cell]"], unfollowed := true, recurses := true, apart := false, narrowed := true }
def HealMergeUptoSaid : Prop := healMergeUptoRow.holds Try.pinned (OpenSpec.upto healMergeSpec)

/-- 'brokerlaw44.HealDiffers', WHERE WHAT IT READS IS OF BULK AT MOST 1048576: true; the input reads as it did. -/
def healDiffersUptoRow : OpenClaim := { program := "ytkjmkhgaghighaa", sum := "43fa8e03fb872efabdb92575c0adcd1bd8c0f455736ce5bea677ae92b4b627be", func := "broker/brokerlaw44.HealDiffers", spec := "healDiffers", inPlace := ["slices.overlaps[broker/api.Cell]"], unfollowed := true, recurses := true, apart := false, narrowed := true }
def HealDiffersUptoSaid : Prop := healDiffersUptoRow.holds Try.pinned (OpenSpec.upto healDiffersSpec)

/-- 'brokerlaw44.HealPrevails', WHERE WHAT IT READS IS OF BULK AT MOST 1048576: true; the input reads as it did. -/
def healPrevailsUptoRow : OpenClaim := { program := "ytkjmkhgaghighaa", sum := "43fa8e03fb872efabdb92575c0adcd1bd8c0f455736ce5bea677ae92b4b627be", func := "broker/brokerlaw44.HealPrevails", spec := "healPrevails", inPlace := ["slices.overlaps[broker/api.Cell]"], unfollowed := true, recurses := true, apart := false, narrowed := true }
def HealPrevailsUptoSaid : Prop := healPrevailsUptoRow.holds Try.pinned (OpenSpec.upto healPrevailsSpec)

end Rows
end Go.Proofs.Ytkjmkhgaghighaa
