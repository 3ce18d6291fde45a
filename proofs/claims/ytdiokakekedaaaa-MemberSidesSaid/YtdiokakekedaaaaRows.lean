/-
  No cell of these rows narrows 'for every input' (looked for: loops, veiled, ifaces, maps, wideKeys, modest, calm, conditions, laid).
  DERIVED. THE GIVEN ROWS OF THIS SEAT. 6 by the template 'for every input the law returns true; each argument reads behind the call as it read before'; 0 by the template 'total and deterministic' (their statements: YtdiokakekedaaaaTotals.lean).
  GIVEN WITH THE SEED: the statements are not yours to turn. If you find one false, say at which input.
  Laid BY PROGRAM, IN A SANDBOX (cutbox-rows.mjs): the forced cells as the released guide's own fill.sh prints them over the translation 891bcec9c49e0374… (all of the seat's roots in one cut). By AI agents, Wed Nov 11 2026. No macro, syntax, notation, axiom, sorry.
-/
import Derived.Test.YtdiokakekedaaaaChecked
import GoSem.Claim
import GoSem.ClaimJoined
import GoSem.ClaimMapViews
import Derived.JoinedTies
import Derived.KernelRfl
namespace Go.Proofs.Ytdiokakekedaaaa
/- THE CELL 'sum', in the pinned program and in every row, IS THE sha256 OF THE DUMP (.gsa) THAT YtdiokakekedaaaaProg.lean LOADS. Nothing in Lean hashes anything: it is a label: what it is worth is what the hold of that sum in a sandbox is worth. -/
noncomputable def Try.pinned : Pinned := { name := "ytdiokakekedaaaa", sum := "891bcec9c49e0374f46c452651da73afc008b98f70ec120bcfeb47eb9d8184a7", checked := Try.checked }
namespace Rows
def none {H : Type} : Left H := { results := [], args := [] }

/-- 'brokerlaw39.MemberSees': WHATEVER THE INPUT: true; the input reads as it did. -/
def memberSeesSpec : ChangeSpec := { name := "memberSees", fn := fun _ => fun
  | [d1, d2, d3] => { results := [.lit (.bool true)], args := [d1, d2, d3] }
  | _ => none }
def memberSeesRow : OpenClaim := { program := "ytdiokakekedaaaa", sum := "891bcec9c49e0374f46c452651da73afc008b98f70ec120bcfeb47eb9d8184a7", func := "broker/brokerlaw39.MemberSees", spec := "memberSees", inPlace := ["slices.overlaps[broker/api.Peer]"], unfollowed := true, recurses := true, apart := false }
def MemberSeesSaid : Prop := memberSeesRow.holds Try.pinned (OpenSpec.ofChange memberSeesSpec)

/-- ITS FALSE NEIGHBOUR: 'it returns false'. Refute it at one input. -/
def memberSeesWrong : ChangeSpec := { name := "memberSees", fn := fun _ => fun
  | [d1, d2, d3] => { results := [.lit (.bool false)], args := [d1, d2, d3] }
  | _ => none }
def MemberSeesWrongFalsely : Prop := memberSeesRow.holds Try.pinned (OpenSpec.ofChange memberSeesWrong)

/-- 'brokerlaw39.MemberAlive': WHATEVER THE INPUT: true; the input reads as it did. -/
def memberAliveSpec : ChangeSpec := { name := "memberAlive", fn := fun _ => fun
  | [d1, d2, d3] => { results := [.lit (.bool true)], args := [d1, d2, d3] }
  | _ => none }
def memberAliveRow : OpenClaim := { program := "ytdiokakekedaaaa", sum := "891bcec9c49e0374f46c452651da73afc008b98f70ec120bcfeb47eb9d8184a7", func := "broker/brokerlaw39.MemberAlive", spec := "memberAlive", inPlace := ["slices.overlaps[broker/api.Peer]"], unfollowed := true, recurses := true, apart := false }
def MemberAliveSaid : Prop := memberAliveRow.holds Try.pinned (OpenSpec.ofChange memberAliveSpec)

/-- ITS FALSE NEIGHBOUR: 'it returns false'. Refute it at one input. -/
def memberAliveWrong : ChangeSpec := { name := "memberAlive", fn := fun _ => fun
  | [d1, d2, d3] => { results := [.lit (.bool false)], args := [d1, d2, d3] }
  | _ => none }
def MemberAliveWrongFalsely : Prop := memberAliveRow.holds Try.pinned (OpenSpec.ofChange memberAliveWrong)

/-- 'brokerlaw39.MemberSides': WHATEVER THE INPUT: true; the input reads as it did. -/
def memberSidesSpec : ChangeSpec := { name := "memberSides", fn := fun _ => fun
  | [d1, d2, d3] => { results := [.lit (.bool true)], args := [d1, d2, d3] }
  | _ => none }
def memberSidesRow : OpenClaim := { program := "ytdiokakekedaaaa", sum := "891bcec9c49e0374f46c452651da73afc008b98f70ec120bcfeb47eb9d8184a7", func := "broker/brokerlaw39.MemberSides", spec := "memberSides", inPlace := ["slices.overlaps[broker/api.Peer]"], unfollowed := true, recurses := true, apart := false }
def MemberSidesSaid : Prop := memberSidesRow.holds Try.pinned (OpenSpec.ofChange memberSidesSpec)

/-- ITS FALSE NEIGHBOUR: 'it returns false'. Refute it at one input. -/
def memberSidesWrong : ChangeSpec := { name := "memberSides", fn := fun _ => fun
  | [d1, d2, d3] => { results := [.lit (.bool false)], args := [d1, d2, d3] }
  | _ => none }
def MemberSidesWrongFalsely : Prop := memberSidesRow.holds Try.pinned (OpenSpec.ofChange memberSidesWrong)

/-- 'brokerlaw39.MemberMajors': WHATEVER THE INPUT: true; the input reads as it did. -/
def memberMajorsSpec : ChangeSpec := { name := "memberMajors", fn := fun _ => fun
  | [d1, d2] => { results := [.lit (.bool true)], args := [d1, d2] }
  | _ => none }
def memberMajorsRow : OpenClaim := { program := "ytdiokakekedaaaa", sum := "891bcec9c49e0374f46c452651da73afc008b98f70ec120bcfeb47eb9d8184a7", func := "broker/brokerlaw39.MemberMajors", spec := "memberMajors", inPlace := ["slices.overlaps[broker/api.Peer]"], unfollowed := true, recurses := true, apart := false }
def MemberMajorsSaid : Prop := memberMajorsRow.holds Try.pinned (OpenSpec.ofChange memberMajorsSpec)

/-- ITS FALSE NEIGHBOUR: 'it returns false'. Refute it at one input. -/
def memberMajorsWrong : ChangeSpec := { name := "memberMajors", fn := fun _ => fun
  | [d1, d2] => { results := [.lit (.bool false)], args := [d1, d2] }
  | _ => none }
def MemberMajorsWrongFalsely : Prop := memberMajorsRow.holds Try.pinned (OpenSpec.ofChange memberMajorsWrong)

/-- 'brokerlaw39.MemberParts': WHATEVER THE INPUT: true; the input reads as it did. -/
def memberPartsSpec : ChangeSpec := { name := "memberParts", fn := fun _ => fun
  | [d1, d2, d3] => { results := [.lit (.bool true)], args := [d1, d2, d3] }
  | _ => none }
def memberPartsRow : OpenClaim := { program := "ytdiokakekedaaaa", sum := "891bcec9c49e0374f46c452651da73afc008b98f70ec120bcfeb47eb9d8184a7", func := "broker/brokerlaw39.MemberParts", spec := "memberParts", inPlace := ["slices.overlaps[broker/api.Peer]"], unfollowed := true, recurses := true, apart := false }
def MemberPartsSaid : Prop := memberPartsRow.holds Try.pinned (OpenSpec.ofChange memberPartsSpec)

/-- ITS FALSE NEIGHBOUR: 'it returns false'. Refute it at one input. -/
def memberPartsWrong : ChangeSpec := { name := "memberParts", fn := fun _ => fun
  | [d1, d2, d3] => { results := [.lit (.bool false)], args := [d1, d2, d3] }
  | _ => none }
def MemberPartsWrongFalsely : Prop := memberPartsRow.holds Try.pinned (OpenSpec.ofChange memberPartsWrong)

/-- 'brokerlaw39.MemberTimes': WHATEVER THE INPUT: true; the input reads as it did. -/
def memberTimesSpec : ChangeSpec := { name := "memberTimes", fn := fun _ => fun
  | [d1, d2, d3] => { results := [.lit (.bool true)], args := [d1, d2, d3] }
  | _ => none }
def memberTimesRow : OpenClaim := { program := "ytdiokakekedaaaa", sum := "891bcec9c49e0374f46c452651da73afc008b98f70ec120bcfeb47eb9d8184a7", func := "broker/brokerlaw39.MemberTimes", spec := "memberTimes", inPlace := ["slices.overlaps[broker/api.Peer]"], unfollowed := true, recurses := true, apart := false }
def MemberTimesSaid : Prop := memberTimesRow.holds Try.pinned (OpenSpec.ofChange memberTimesSpec)

/-- ITS FALSE NEIGHBOUR: 'it returns false'. Refute it at one input. -/
def memberTimesWrong : ChangeSpec := { name := "memberTimes", fn := fun _ => fun
  | [d1, d2, d3] => { results := [.lit (.bool false)], args := [d1, d2, d3] }
  | _ => none }
def MemberTimesWrongFalsely : Prop := memberTimesRow.holds Try.pinned (OpenSpec.ofChange memberTimesWrong)

/- THE SECOND FORM. 'bulk': how many values and letters a reading holds, each counted each time it is reached (what is shared counts as often as it is met; a slice's spare places count too). A statement '..UptoSaid' is the law's where the arguments, and the package variables that the reading takes, are together of bulk at most 1048576: NARROWER than '..Said'. Prove '..Said' where nothing that the law and all that it calls make is longer than what came in: it says more and counts as full. Else prove '..UptoSaid'. A law counts once. -/
mutual
def uptoBulk {H : Type} : DataW H → Nat
  | .lit (.string bytes) => bytes.length + 1
  | .lit _ => 1
  | .nil => 1
  | .ptr d => uptoBulk d + 1
  | .slice elems spare => uptoBulkAll elems + uptoBulkAll spare + 1
  | .agg parts => uptoBulkAll parts + 1
  | .iface _ d => uptoBulk d + 1
  | .map entries => uptoBulkEntries entries + 1
  | .held _ => 1
def uptoBulkAll {H : Type} : List (DataW H) → Nat
  | [] => 0
  | d :: r => uptoBulk d + uptoBulkAll r
def uptoBulkEntries {H : Type} : List (Lit × DataW H) → Nat
  | [] => 0
  | x :: r => uptoBulkEntry x + uptoBulkEntries r
def uptoBulkEntry {H : Type} : Lit × DataW H → Nat
  | (.string bytes, d) => bytes.length + uptoBulk d + 1
  | (_, d) => uptoBulk d + 1
 end
def uptoSmall : (H : Type) → List (DataW H) → Bool := fun _ ds => decide (uptoBulkAll ds ≤ 1048576)
def OpenSpec.upto (s : _root_.Go.ChangeSpec) : _root_.Go.OpenSpec := { _root_.Go.OpenSpec.ofChange s with cond := some uptoSmall }

/-- 'brokerlaw39.MemberSees', WHERE WHAT IT READS IS OF BULK AT MOST 1048576: true; the input reads as it did. -/
def memberSeesUptoRow : OpenClaim := { program := "ytdiokakekedaaaa", sum := "891bcec9c49e0374f46c452651da73afc008b98f70ec120bcfeb47eb9d8184a7", func := "broker/brokerlaw39.MemberSees", spec := "memberSees", inPlace := ["slices.overlaps[broker/api.Peer]"], unfollowed := true, recurses := true, apart := false, narrowed := true }
def MemberSeesUptoSaid : Prop := memberSeesUptoRow.holds Try.pinned (OpenSpec.upto memberSeesSpec)

/-- 'brokerlaw39.MemberAlive', WHERE WHAT IT READS IS OF BULK AT MOST 1048576: true; the input reads as it did. -/
def memberAliveUptoRow : OpenClaim := { program := "ytdiokakekedaaaa", sum := "891bcec9c49e0374f46c452651da73afc008b98f70ec120bcfeb47eb9d8184a7", func := "broker/brokerlaw39.MemberAlive", spec := "memberAlive", inPlace := ["slices.overlaps[broker/api.Peer]"], unfollowed := true, recurses := true, apart := false, narrowed := true }
def MemberAliveUptoSaid : Prop := memberAliveUptoRow.holds Try.pinned (OpenSpec.upto memberAliveSpec)

/-- 'brokerlaw39.MemberSides', WHERE WHAT IT READS IS OF BULK AT MOST 1048576: true; the input reads as it did. -/
def memberSidesUptoRow : OpenClaim := { program := "ytdiokakekedaaaa", sum := "891bcec9c49e0374f46c452651da73afc008b98f70ec120bcfeb47eb9d8184a7", func := "broker/brokerlaw39.MemberSides", spec := "memberSides", inPlace := ["slices.overlaps[broker/api.Peer]"], unfollowed := true, recurses := true, apart := false, narrowed := true }
def MemberSidesUptoSaid : Prop := memberSidesUptoRow.holds Try.pinned (OpenSpec.upto memberSidesSpec)

/-- 'brokerlaw39.MemberMajors', WHERE WHAT IT READS IS OF BULK AT MOST 1048576: true; the input reads as it did. -/
def memberMajorsUptoRow : OpenClaim := { program := "ytdiokakekedaaaa", sum := "891bcec9c49e0374f46c452651da73afc008b98f70ec120bcfeb47eb9d8184a7", func := "broker/brokerlaw39.MemberMajors", spec := "memberMajors", inPlace := ["slices.overlaps[broker/api.Peer]"], unfollowed := true, recurses := true, apart := false, narrowed := true }
def MemberMajorsUptoSaid : Prop := memberMajorsUptoRow.holds Try.pinned (OpenSpec.upto memberMajorsSpec)

/-- 'brokerlaw39.MemberParts', WHERE WHAT IT READS IS OF BULK AT MOST 1048576: true; the input reads as it did. -/
def memberPartsUptoRow : OpenClaim := { program := "ytdiokakekedaaaa", sum := "891bcec9c49e0374f46c452651da73afc008b98f70ec120bcfeb47eb9d8184a7", func := "broker/brokerlaw39.MemberParts", spec := "memberParts", inPlace := ["slices.overlaps[broker/api.Peer]"], unfollowed := true, recurses := true, apart := false, narrowed := true }
def MemberPartsUptoSaid : Prop := memberPartsUptoRow.holds Try.pinned (OpenSpec.upto memberPartsSpec)

/-- 'brokerlaw39.MemberTimes', WHERE WHAT IT READS IS OF BULK AT MOST 1048576: true; the input reads as it did. -/
def memberTimesUptoRow : OpenClaim := { program := "ytdiokakekedaaaa", sum := "891bcec9c49e0374f46c452651da73afc008b98f70ec120bcfeb47eb9d8184a7", func := "broker/brokerlaw39.MemberTimes", spec := "memberTimes", inPlace := ["slices.overlaps[broker/api.Peer]"], unfollowed := true, recurses := true, apart := false, narrowed := true }
def MemberTimesUptoSaid : Prop := memberTimesUptoRow.holds Try.pinned (OpenSpec.upto memberTimesSpec)

end Rows
end Go.Proofs.Ytdiokakekedaaaa
