/-
  NARROWER THAN 'FOR EVERY INPUT', by the rows' own cells (each row's printed sentence says how): RetainRuns: laid · RetainMatch: laid · RetainLast: laid · RetainExpires: laid · RetainErrors: laid · RetainFull: laid · RetainTwo: laid.
  DERIVED. THE GIVEN ROWS OF THIS SEAT. 7 by the template 'for every input the law returns true; each argument reads behind the call as it read before'; 0 by the template 'total and deterministic' (their statements: YtgmkkjmdflhbnaaDoorTotals.lean).
  GIVEN WITH THE SEED: the statements are not yours to turn. If you find one false, say at which input.
  Laid BY PROGRAM, IN A SANDBOX (cutbox-rows.mjs): the forced cells as the released guide's own fill.sh prints them over the translation 10cee89e01d16327… (all of the seat's roots in one cut). By AI agents, Wed Nov 11 2026. No macro, syntax, notation, axiom, sorry.
-/
import Derived.Test.YtgmkkjmdflhbnaaDoorChecked
import GoSem.PinnedTables
import GoSem.Claim
import GoSem.ClaimJoined
import GoSem.ClaimMapViews
import Derived.JoinedTies
import Derived.KernelRfl
namespace Go.Proofs.YtgmkkjmdflhbnaaDoor
/- THE CELL 'sum', in the pinned program and in every row, IS THE sha256 OF THE DUMP (.gsa) THAT YtgmkkjmdflhbnaaDoorProg.lean LOADS. Nothing in Lean hashes anything: it is a label: what it is worth is what the hold of that sum in a sandbox is worth. -/
noncomputable def Tryd.pinned : Pinned := { name := "ytgmkkjmdflhbnaadoor", sum := "10cee89e01d16327df273b3ab0670ca165b0e19213415120a7057cab00f966a2", checked := Tryd.checked }
namespace Rows
def none {H : Type} : Left H := { results := [], args := [] }

/- WHAT THE LISTED PACKAGE-LEVEL VARIABLES READ AS WHEN THE CALL BEGINS. Each datum BY PROGRAM (the guide's laid-datum.mjs) off the statement by which the dump's own 'gosem.cut.vars' lays the variable. In a bare row this is a premise. The card (YtgmkkjmdflhbnaaDoorCards.lean) ties it to the program's text. -/
def laid_unicode_utf8_acceptRanges {H : Type} : DataW H := .agg [.agg [.lit (.int .u8 128), .lit (.int .u8 191)], .agg [.lit (.int .u8 160), .lit (.int .u8 191)], .agg [.lit (.int .u8 128), .lit (.int .u8 159)], .agg [.lit (.int .u8 144), .lit (.int .u8 191)], .agg [.lit (.int .u8 128), .lit (.int .u8 143)], .agg [.lit (.int .u8 0), .lit (.int .u8 0)], .agg [.lit (.int .u8 0), .lit (.int .u8 0)], .agg [.lit (.int .u8 0), .lit (.int .u8 0)], .agg [.lit (.int .u8 0), .lit (.int .u8 0)], .agg [.lit (.int .u8 0), .lit (.int .u8 0)], .agg [.lit (.int .u8 0), .lit (.int .u8 0)], .agg [.lit (.int .u8 0), .lit (.int .u8 0)], .agg [.lit (.int .u8 0), .lit (.int .u8 0)], .agg [.lit (.int .u8 0), .lit (.int .u8 0)], .agg [.lit (.int .u8 0), .lit (.int .u8 0)], .agg [.lit (.int .u8 0), .lit (.int .u8 0)]]
/-- One of Go's own tables, pinned by name: the form's constant. -/
def laid_unicode_utf8_first : DataW Unit := Go.Pinned.utf8First

/-- 'brokerlaw12.RetainRuns': WHATEVER THE INPUT: true; the input reads as it did. -/
def retainRunsSpec : ChangeSpec := { name := "retainRuns", fn := fun _ => fun
  | [d1, d2] => { results := [.lit (.bool true)], args := [d1, d2] }
  | _ => none }
def retainRunsRow : OpenClaim := { program := "ytgmkkjmdflhbnaadoor", sum := "10cee89e01d16327df273b3ab0670ca165b0e19213415120a7057cab00f966a2", func := "broker/brokerlaw12.RetainRuns", spec := "retainRuns", inPlace := ["internal/bytealg.CountString", "internal/bytealg.IndexByteString", "internal/bytealg.IndexString", "internal/bytealg.abigen_runtime_cmpstring"], unfollowed := true, recurses := true, named := ["unicode/utf8.first", "unicode/utf8.acceptRanges", "internal/bytealg.MaxLen"], apart := false, laid := [("unicode/utf8.acceptRanges", laid_unicode_utf8_acceptRanges), ("unicode/utf8.first", laid_unicode_utf8_first)] }
def RetainRunsSaid : Prop := retainRunsRow.holds Tryd.pinned (OpenSpec.ofChange retainRunsSpec)

/-- ITS FALSE NEIGHBOUR: 'it returns false'. Refute it at one input. -/
def retainRunsWrong : ChangeSpec := { name := "retainRuns", fn := fun _ => fun
  | [d1, d2] => { results := [.lit (.bool false)], args := [d1, d2] }
  | _ => none }
def RetainRunsWrongFalsely : Prop := retainRunsRow.holds Tryd.pinned (OpenSpec.ofChange retainRunsWrong)

/-- 'brokerlaw12.RetainMatch': WHATEVER THE INPUT: true; the input reads as it did. -/
def retainMatchSpec : ChangeSpec := { name := "retainMatch", fn := fun _ => fun
  | [d1, d2, d3] => { results := [.lit (.bool true)], args := [d1, d2, d3] }
  | _ => none }
def retainMatchRow : OpenClaim := { program := "ytgmkkjmdflhbnaadoor", sum := "10cee89e01d16327df273b3ab0670ca165b0e19213415120a7057cab00f966a2", func := "broker/brokerlaw12.RetainMatch", spec := "retainMatch", inPlace := ["internal/bytealg.CountString", "internal/bytealg.IndexByteString", "internal/bytealg.IndexString", "internal/bytealg.abigen_runtime_cmpstring"], unfollowed := true, recurses := true, named := ["unicode/utf8.first", "unicode/utf8.acceptRanges", "internal/bytealg.MaxLen"], apart := false, laid := [("unicode/utf8.acceptRanges", laid_unicode_utf8_acceptRanges), ("unicode/utf8.first", laid_unicode_utf8_first)] }
def RetainMatchSaid : Prop := retainMatchRow.holds Tryd.pinned (OpenSpec.ofChange retainMatchSpec)

/-- ITS FALSE NEIGHBOUR: 'it returns false'. Refute it at one input. -/
def retainMatchWrong : ChangeSpec := { name := "retainMatch", fn := fun _ => fun
  | [d1, d2, d3] => { results := [.lit (.bool false)], args := [d1, d2, d3] }
  | _ => none }
def RetainMatchWrongFalsely : Prop := retainMatchRow.holds Tryd.pinned (OpenSpec.ofChange retainMatchWrong)

/-- 'brokerlaw12.RetainLast': WHATEVER THE INPUT: true; the input reads as it did. -/
def retainLastSpec : ChangeSpec := { name := "retainLast", fn := fun _ => fun
  | [d1, d2, d3] => { results := [.lit (.bool true)], args := [d1, d2, d3] }
  | _ => none }
def retainLastRow : OpenClaim := { program := "ytgmkkjmdflhbnaadoor", sum := "10cee89e01d16327df273b3ab0670ca165b0e19213415120a7057cab00f966a2", func := "broker/brokerlaw12.RetainLast", spec := "retainLast", inPlace := ["internal/bytealg.CountString", "internal/bytealg.IndexByteString", "internal/bytealg.IndexString", "internal/bytealg.abigen_runtime_cmpstring"], unfollowed := true, recurses := true, named := ["unicode/utf8.first", "unicode/utf8.acceptRanges", "internal/bytealg.MaxLen"], apart := false, laid := [("unicode/utf8.acceptRanges", laid_unicode_utf8_acceptRanges), ("unicode/utf8.first", laid_unicode_utf8_first)] }
def RetainLastSaid : Prop := retainLastRow.holds Tryd.pinned (OpenSpec.ofChange retainLastSpec)

/-- ITS FALSE NEIGHBOUR: 'it returns false'. Refute it at one input. -/
def retainLastWrong : ChangeSpec := { name := "retainLast", fn := fun _ => fun
  | [d1, d2, d3] => { results := [.lit (.bool false)], args := [d1, d2, d3] }
  | _ => none }
def RetainLastWrongFalsely : Prop := retainLastRow.holds Tryd.pinned (OpenSpec.ofChange retainLastWrong)

/-- 'brokerlaw12.RetainExpires': WHATEVER THE INPUT: true; the input reads as it did. -/
def retainExpiresSpec : ChangeSpec := { name := "retainExpires", fn := fun _ => fun
  | [d1, d2, d3, d4] => { results := [.lit (.bool true)], args := [d1, d2, d3, d4] }
  | _ => none }
def retainExpiresRow : OpenClaim := { program := "ytgmkkjmdflhbnaadoor", sum := "10cee89e01d16327df273b3ab0670ca165b0e19213415120a7057cab00f966a2", func := "broker/brokerlaw12.RetainExpires", spec := "retainExpires", inPlace := ["internal/bytealg.CountString", "internal/bytealg.IndexByteString", "internal/bytealg.IndexString", "internal/bytealg.abigen_runtime_cmpstring"], unfollowed := true, recurses := true, named := ["unicode/utf8.first", "unicode/utf8.acceptRanges", "internal/bytealg.MaxLen"], apart := false, laid := [("unicode/utf8.acceptRanges", laid_unicode_utf8_acceptRanges), ("unicode/utf8.first", laid_unicode_utf8_first)] }
def RetainExpiresSaid : Prop := retainExpiresRow.holds Tryd.pinned (OpenSpec.ofChange retainExpiresSpec)

/-- ITS FALSE NEIGHBOUR: 'it returns false'. Refute it at one input. -/
def retainExpiresWrong : ChangeSpec := { name := "retainExpires", fn := fun _ => fun
  | [d1, d2, d3, d4] => { results := [.lit (.bool false)], args := [d1, d2, d3, d4] }
  | _ => none }
def RetainExpiresWrongFalsely : Prop := retainExpiresRow.holds Tryd.pinned (OpenSpec.ofChange retainExpiresWrong)

/-- 'brokerlaw12.RetainErrors': WHATEVER THE INPUT: true; the input reads as it did. -/
def retainErrorsSpec : ChangeSpec := { name := "retainErrors", fn := fun _ => fun
  | [d1, d2, d3] => { results := [.lit (.bool true)], args := [d1, d2, d3] }
  | _ => none }
def retainErrorsRow : OpenClaim := { program := "ytgmkkjmdflhbnaadoor", sum := "10cee89e01d16327df273b3ab0670ca165b0e19213415120a7057cab00f966a2", func := "broker/brokerlaw12.RetainErrors", spec := "retainErrors", inPlace := ["internal/bytealg.CountString", "internal/bytealg.IndexByteString", "internal/bytealg.IndexString", "internal/bytealg.abigen_runtime_cmpstring"], unfollowed := true, recurses := true, named := ["unicode/utf8.first", "unicode/utf8.acceptRanges", "internal/bytealg.MaxLen"], apart := false, laid := [("unicode/utf8.acceptRanges", laid_unicode_utf8_acceptRanges), ("unicode/utf8.first", laid_unicode_utf8_first)] }
def RetainErrorsSaid : Prop := retainErrorsRow.holds Tryd.pinned (OpenSpec.ofChange retainErrorsSpec)

/-- ITS FALSE NEIGHBOUR: 'it returns false'. Refute it at one input. -/
def retainErrorsWrong : ChangeSpec := { name := "retainErrors", fn := fun _ => fun
  | [d1, d2, d3] => { results := [.lit (.bool false)], args := [d1, d2, d3] }
  | _ => none }
def RetainErrorsWrongFalsely : Prop := retainErrorsRow.holds Tryd.pinned (OpenSpec.ofChange retainErrorsWrong)

/-- 'brokerlaw12.RetainFull': WHATEVER THE INPUT: true; the input reads as it did. -/
def retainFullSpec : ChangeSpec := { name := "retainFull", fn := fun _ => fun
  | [d1, d2] => { results := [.lit (.bool true)], args := [d1, d2] }
  | _ => none }
def retainFullRow : OpenClaim := { program := "ytgmkkjmdflhbnaadoor", sum := "10cee89e01d16327df273b3ab0670ca165b0e19213415120a7057cab00f966a2", func := "broker/brokerlaw12.RetainFull", spec := "retainFull", inPlace := ["internal/bytealg.CountString", "internal/bytealg.IndexByteString", "internal/bytealg.IndexString", "internal/bytealg.abigen_runtime_cmpstring"], unfollowed := true, recurses := true, named := ["unicode/utf8.first", "unicode/utf8.acceptRanges", "internal/bytealg.MaxLen"], apart := false, laid := [("unicode/utf8.acceptRanges", laid_unicode_utf8_acceptRanges), ("unicode/utf8.first", laid_unicode_utf8_first)] }
def RetainFullSaid : Prop := retainFullRow.holds Tryd.pinned (OpenSpec.ofChange retainFullSpec)

/-- ITS FALSE NEIGHBOUR: 'it returns false'. Refute it at one input. -/
def retainFullWrong : ChangeSpec := { name := "retainFull", fn := fun _ => fun
  | [d1, d2] => { results := [.lit (.bool false)], args := [d1, d2] }
  | _ => none }
def RetainFullWrongFalsely : Prop := retainFullRow.holds Tryd.pinned (OpenSpec.ofChange retainFullWrong)

/-- 'brokerlaw12.RetainTwo': WHATEVER THE INPUT: true; the input reads as it did. -/
def retainTwoSpec : ChangeSpec := { name := "retainTwo", fn := fun _ => fun
  | [d1, d2, d3] => { results := [.lit (.bool true)], args := [d1, d2, d3] }
  | _ => none }
def retainTwoRow : OpenClaim := { program := "ytgmkkjmdflhbnaadoor", sum := "10cee89e01d16327df273b3ab0670ca165b0e19213415120a7057cab00f966a2", func := "broker/brokerlaw12.RetainTwo", spec := "retainTwo", inPlace := ["internal/bytealg.CountString", "internal/bytealg.IndexByteString", "internal/bytealg.IndexString", "internal/bytealg.abigen_runtime_cmpstring"], unfollowed := true, recurses := true, named := ["unicode/utf8.first", "unicode/utf8.acceptRanges", "internal/bytealg.MaxLen"], apart := false, laid := [("unicode/utf8.acceptRanges", laid_unicode_utf8_acceptRanges), ("unicode/utf8.first", laid_unicode_utf8_first)] }
def RetainTwoSaid : Prop := retainTwoRow.holds Tryd.pinned (OpenSpec.ofChange retainTwoSpec)

/-- ITS FALSE NEIGHBOUR: 'it returns false'. Refute it at one input. -/
def retainTwoWrong : ChangeSpec := { name := "retainTwo", fn := fun _ => fun
  | [d1, d2, d3] => { results := [.lit (.bool false)], args := [d1, d2, d3] }
  | _ => none }
def RetainTwoWrongFalsely : Prop := retainTwoRow.holds Tryd.pinned (OpenSpec.ofChange retainTwoWrong)

/- THE SECOND FORM. 'bulk': how many values and letters a reading holds, each counted each time it is reached (what is shared counts as often as it is met; a slice's spare places count too). A statement '..UptoSaid' is the law's where the arguments, and the package variables that the reading takes, are together of bulk at most 1048576: NARROWER than '..Said'. Prove '..Said' where nothing that the law and all that it calls make is longer than what came in: it says more and counts as full. Else prove '..UptoSaid'. A law counts once. -/
mutual
def uptoBulk {H : Type} : DataW H → Nat
  | .lit (.string bytes) => bytes.length + 1
  | .lit _ => 1
  | .nil => 1
  | .ptr d => uptoBulk d + 1
  | .slice elems spare => uptoBulkAll elems + uptoBulkAll spare + 1
  | .agg parts => uptoBulkAll parts + 1
  | .iface _ d => uptoBulk d + 1
  | .map entries => uptoBulkEntries entries + 1
  | .held _ => 1
def uptoBulkAll {H : Type} : List (DataW H) → Nat
  | [] => 0
  | d :: r => uptoBulk d + uptoBulkAll r
def uptoBulkEntries {H : Type} : List (Lit × DataW H) → Nat
  | [] => 0
  | x :: r => uptoBulkEntry x + uptoBulkEntries r
def uptoBulkEntry {H : Type} : Lit × DataW H → Nat
  | (.string bytes, d) => bytes.length + uptoBulk d + 1
  | (_, d) => uptoBulk d + 1
 end
def uptoSmall : (H : Type) → List (DataW H) → Bool := fun _ ds => decide (uptoBulkAll ds ≤ 1048576)
def OpenSpec.upto (s : _root_.Go.ChangeSpec) : _root_.Go.OpenSpec := { _root_.Go.OpenSpec.ofChange s with cond := some uptoSmall }

/-- 'brokerlaw12.RetainRuns', WHERE WHAT IT READS IS OF BULK AT MOST 1048576: true; the input reads as it did. -/
def retainRunsUptoRow : OpenClaim := { program := "ytgmkkjmdflhbnaadoor", sum := "10cee89e01d16327df273b3ab0670ca165b0e19213415120a7057cab00f966a2", func := "broker/brokerlaw12.RetainRuns", spec := "retainRuns", inPlace := ["internal/bytealg.CountString", "internal/bytealg.IndexByteString", "internal/bytealg.IndexString", "internal/bytealg.abigen_runtime_cmpstring"], unfollowed := true, recurses := true, named := ["unicode/utf8.first", "unicode/utf8.acceptRanges", "internal/bytealg.MaxLen"], apart := false, laid := [("unicode/utf8.acceptRanges", laid_unicode_utf8_acceptRanges), ("unicode/utf8.first", laid_unicode_utf8_first)], narrowed := true }
def RetainRunsUptoSaid : Prop := retainRunsUptoRow.holds Tryd.pinned (OpenSpec.upto retainRunsSpec)

/-- 'brokerlaw12.RetainMatch', WHERE WHAT IT READS IS OF BULK AT MOST 1048576: true; the input reads as it did. -/
def retainMatchUptoRow : OpenClaim := { program := "ytgmkkjmdflhbnaadoor", sum := "10cee89e01d16327df273b3ab0670ca165b0e19213415120a7057cab00f966a2", func := "broker/brokerlaw12.RetainMatch", spec := "retainMatch", inPlace := ["internal/bytealg.CountString", "internal/bytealg.IndexByteString", "internal/bytealg.IndexString", "internal/bytealg.abigen_runtime_cmpstring"], unfollowed := true, recurses := true, named := ["unicode/utf8.first", "unicode/utf8.acceptRanges", "internal/bytealg.MaxLen"], apart := false, laid := [("unicode/utf8.acceptRanges", laid_unicode_utf8_acceptRanges), ("unicode/utf8.first", laid_unicode_utf8_first)], narrowed := true }
def RetainMatchUptoSaid : Prop := retainMatchUptoRow.holds Tryd.pinned (OpenSpec.upto retainMatchSpec)

/-- 'brokerlaw12.RetainLast', WHERE WHAT IT READS IS OF BULK AT MOST 1048576: true; the input reads as it did. -/
def retainLastUptoRow : OpenClaim := { program := "ytgmkkjmdflhbnaadoor", sum := "10cee89e01d16327df273b3ab0670ca165b0e19213415120a7057cab00f966a2", func := "broker/brokerlaw12.RetainLast", spec := "retainLast", inPlace := ["internal/bytealg.CountString", "internal/bytealg.IndexByteString", "internal/bytealg.IndexString", "internal/bytealg.abigen_runtime_cmpstring"], unfollowed := true, recurses := true, named := ["unicode/utf8.first", "unicode/utf8.acceptRanges", "internal/bytealg.MaxLen"], apart := false, laid := [("unicode/utf8.acceptRanges", laid_unicode_utf8_acceptRanges), ("unicode/utf8.first", laid_unicode_utf8_first)], narrowed := true }
def RetainLastUptoSaid : Prop := retainLastUptoRow.holds Tryd.pinned (OpenSpec.upto retainLastSpec)

/-- 'brokerlaw12.RetainExpires', WHERE WHAT IT READS IS OF BULK AT MOST 1048576: true; the input reads as it did. -/
def retainExpiresUptoRow : OpenClaim := { program := "ytgmkkjmdflhbnaadoor", sum := "10cee89e01d16327df273b3ab0670ca165b0e19213415120a7057cab00f966a2", func := "broker/brokerlaw12.RetainExpires", spec := "retainExpires", inPlace := ["internal/bytealg.CountString", "internal/bytealg.IndexByteString", "internal/bytealg.IndexString", "internal/bytealg.abigen_runtime_cmpstring"], unfollowed := true, recurses := true, named := ["unicode/utf8.first", "unicode/utf8.acceptRanges", "internal/bytealg.MaxLen"], apart := false, laid := [("unicode/utf8.acceptRanges", laid_unicode_utf8_acceptRanges), ("unicode/utf8.first", laid_unicode_utf8_first)], narrowed := true }
def RetainExpiresUptoSaid : Prop := retainExpiresUptoRow.holds Tryd.pinned (OpenSpec.upto retainExpiresSpec)

/-- 'brokerlaw12.RetainErrors', WHERE WHAT IT READS IS OF BULK AT MOST 1048576: true; the input reads as it did. -/
def retainErrorsUptoRow : OpenClaim := { program := "ytgmkkjmdflhbnaadoor", sum := "10cee89e01d16327df273b3ab0670ca165b0e19213415120a7057cab00f966a2", func := "broker/brokerlaw12.RetainErrors", spec := "retainErrors", inPlace := ["internal/bytealg.CountString", "internal/bytealg.IndexByteString", "internal/bytealg.IndexString", "internal/bytealg.abigen_runtime_cmpstring"], unfollowed := true, recurses := true, named := ["unicode/utf8.first", "unicode/utf8.acceptRanges", "internal/bytealg.MaxLen"], apart := false, laid := [("unicode/utf8.acceptRanges", laid_unicode_utf8_acceptRanges), ("unicode/utf8.first", laid_unicode_utf8_first)], narrowed := true }
def RetainErrorsUptoSaid : Prop := retainErrorsUptoRow.holds Tryd.pinned (OpenSpec.upto retainErrorsSpec)

/-- 'brokerlaw12.RetainFull', WHERE WHAT IT READS IS OF BULK AT MOST 1048576: true; the input reads as it did. -/
def retainFullUptoRow : OpenClaim := { program := "ytgmkkjmdflhbnaadoor", sum := "10cee89e01d16327df273b3ab0670ca165b0e19213415120a7057cab00f966a2", func := "broker/brokerlaw12.RetainFull", spec := "retainFull", inPlace := ["internal/bytealg.CountString", "internal/bytealg.IndexByteString", "internal/bytealg.IndexString", "internal/bytealg.abigen_runtime_cmpstring"], unfollowed := true, recurses := true, named := ["unicode/utf8.first", "unicode/utf8.acceptRanges", "internal/bytealg.MaxLen"], apart := false, laid := [("unicode/utf8.acceptRanges", laid_unicode_utf8_acceptRanges), ("unicode/utf8.first", laid_unicode_utf8_first)], narrowed := true }
def RetainFullUptoSaid : Prop := retainFullUptoRow.holds Tryd.pinned (OpenSpec.upto retainFullSpec)

/-- 'brokerlaw12.RetainTwo', WHERE WHAT IT READS IS OF BULK AT MOST 1048576: true; the input reads as it did. -/
def retainTwoUptoRow : OpenClaim := { program := "ytgmkkjmdflhbnaadoor", sum := "10cee89e01d16327df273b3ab0670ca165b0e19213415120a7057cab00f966a2", func := "broker/brokerlaw12.RetainTwo", spec := "retainTwo", inPlace := ["internal/bytealg.CountString", "internal/bytealg.IndexByteString", "internal/bytealg.IndexString", "internal/bytealg.abigen_runtime_cmpstring"], unfollowed := true, recurses := true, named := ["unicode/utf8.first", "unicode/utf8.acceptRanges", "internal/bytealg.MaxLen"], apart := false, laid := [("unicode/utf8.acceptRanges", laid_unicode_utf8_acceptRanges), ("unicode/utf8.first", laid_unicode_utf8_first)], narrowed := true }
def RetainTwoUptoSaid : Prop := retainTwoUptoRow.holds Tryd.pinned (OpenSpec.upto retainTwoSpec)

end Rows
end Go.Proofs.YtgmkkjmdflhbnaaDoor
