/-
  DERIVED. GIVEN WITH THE SEED: THE CARDS: each row of YtlaieomjooeofaaDoorRows.lean that lists a variable, with what it lists TIED to the program's text (the seventh form; the later family's looks); each row that meets fmt, with fmt's text TOLD by the authors' own Lean function (tested against real Go, not proved from fmt's source: count such statements apart). THE CARD IS WHAT COUNTS. Prove the row's statement (the work); the ties are given (YtlaieomjooeofaaDoorTie.lean); close each card by the builder's one call (the guide's Derived/Test/ToyasCard.lean, 'card_holds'). Laid BY PROGRAM, IN A SANDBOX (cutbox-door.mjs). By AI agents, Wed Nov 11 2026. No macro, syntax, notation, axiom, sorry.
-/
import Derived.Test.YtlaieomjooeofaaDoorRows
import GoSem.ClaimSeven
namespace Go.Proofs.YtlaieomjooeofaaDoor
namespace Rows

/-- THE TIED CARD OF 'brokerlaw28.DeadReasons'. -/
def deadReasonsCard : Claim7 := { stood := { row := deadReasonsRow, standIns := [], harness := (true, "051238366447c75d051f62f4495769872f15aa9cd49ebad953a1429d474d92da"), looks := false }, kinds := [], alts := [], laidByText := true, laidKinds := [.data, .data, .data, .data, .pinned], laidTests := true, laidLooks := .later }
def DeadReasonsCardSaid : Prop := Claim7.holds Tryd.pinned (.plain (OpenSpec.ofChange deadReasonsSpec)) deadReasonsCard

/-- THE TIED CARD OF 'brokerlaw28.DeadReads'. -/
def deadReadsCard : Claim7 := { stood := { row := deadReadsRow, standIns := [], harness := (true, "051238366447c75d051f62f4495769872f15aa9cd49ebad953a1429d474d92da"), looks := false }, kinds := [], alts := [], laidByText := true, laidKinds := [.data, .data, .data, .data, .pinned], laidTests := true, laidLooks := .later }
def DeadReadsCardSaid : Prop := Claim7.holds Tryd.pinned (.plain (OpenSpec.ofChange deadReadsSpec)) deadReadsCard

/-- THE TIED CARD OF 'brokerlaw28.DeadEnds'. -/
def deadEndsCard : Claim7 := { stood := { row := deadEndsRow, standIns := [], harness := (true, "051238366447c75d051f62f4495769872f15aa9cd49ebad953a1429d474d92da"), looks := false }, kinds := [], alts := [], laidByText := true, laidKinds := [.data, .data, .data, .data, .pinned], laidTests := true, laidLooks := .later }
def DeadEndsCardSaid : Prop := Claim7.holds Tryd.pinned (.plain (OpenSpec.ofChange deadEndsSpec)) deadEndsCard

/-- THE TIED CARD OF 'brokerlaw28.DeadKeeps'. -/
def deadKeepsCard : Claim7 := { stood := { row := deadKeepsRow, standIns := [], harness := (true, "051238366447c75d051f62f4495769872f15aa9cd49ebad953a1429d474d92da"), looks := false }, kinds := [], alts := [], laidByText := true, laidKinds := [.data, .data, .data, .data, .pinned], laidTests := true, laidLooks := .later }
def DeadKeepsCardSaid : Prop := Claim7.holds Tryd.pinned (.plain (OpenSpec.ofChange deadKeepsSpec)) deadKeepsCard

/-- THE TIED CARD OF 'brokerlaw28.DeadMarks'. -/
def deadMarksCard : Claim7 := { stood := { row := deadMarksRow, standIns := [], harness := (true, "051238366447c75d051f62f4495769872f15aa9cd49ebad953a1429d474d92da"), looks := false }, kinds := [], alts := [], laidByText := true, laidKinds := [.data, .data, .data, .data, .pinned], laidTests := true, laidLooks := .later }
def DeadMarksCardSaid : Prop := Claim7.holds Tryd.pinned (.plain (OpenSpec.ofChange deadMarksSpec)) deadMarksCard

/-- THE SECOND FORM's CARD OF 'brokerlaw28.DeadReasons'. -/
def deadReasonsUptoCard : Claim7 := { stood := { row := deadReasonsUptoRow, standIns := [], harness := (true, "051238366447c75d051f62f4495769872f15aa9cd49ebad953a1429d474d92da"), looks := false }, kinds := [], alts := [], laidByText := true, laidKinds := [.data, .data, .data, .data, .pinned], laidTests := true, laidLooks := .later }
def DeadReasonsUptoCardSaid : Prop := Claim7.holds Tryd.pinned (.plain (OpenSpec.upto deadReasonsSpec)) deadReasonsUptoCard

/-- THE SECOND FORM's CARD OF 'brokerlaw28.DeadReads'. -/
def deadReadsUptoCard : Claim7 := { stood := { row := deadReadsUptoRow, standIns := [], harness := (true, "051238366447c75d051f62f4495769872f15aa9cd49ebad953a1429d474d92da"), looks := false }, kinds := [], alts := [], laidByText := true, laidKinds := [.data, .data, .data, .data, .pinned], laidTests := true, laidLooks := .later }
def DeadReadsUptoCardSaid : Prop := Claim7.holds Tryd.pinned (.plain (OpenSpec.upto deadReadsSpec)) deadReadsUptoCard

/-- THE SECOND FORM's CARD OF 'brokerlaw28.DeadEnds'. -/
def deadEndsUptoCard : Claim7 := { stood := { row := deadEndsUptoRow, standIns := [], harness := (true, "051238366447c75d051f62f4495769872f15aa9cd49ebad953a1429d474d92da"), looks := false }, kinds := [], alts := [], laidByText := true, laidKinds := [.data, .data, .data, .data, .pinned], laidTests := true, laidLooks := .later }
def DeadEndsUptoCardSaid : Prop := Claim7.holds Tryd.pinned (.plain (OpenSpec.upto deadEndsSpec)) deadEndsUptoCard

/-- THE SECOND FORM's CARD OF 'brokerlaw28.DeadKeeps'. -/
def deadKeepsUptoCard : Claim7 := { stood := { row := deadKeepsUptoRow, standIns := [], harness := (true, "051238366447c75d051f62f4495769872f15aa9cd49ebad953a1429d474d92da"), looks := false }, kinds := [], alts := [], laidByText := true, laidKinds := [.data, .data, .data, .data, .pinned], laidTests := true, laidLooks := .later }
def DeadKeepsUptoCardSaid : Prop := Claim7.holds Tryd.pinned (.plain (OpenSpec.upto deadKeepsSpec)) deadKeepsUptoCard

/-- THE SECOND FORM's CARD OF 'brokerlaw28.DeadMarks'. -/
def deadMarksUptoCard : Claim7 := { stood := { row := deadMarksUptoRow, standIns := [], harness := (true, "051238366447c75d051f62f4495769872f15aa9cd49ebad953a1429d474d92da"), looks := false }, kinds := [], alts := [], laidByText := true, laidKinds := [.data, .data, .data, .data, .pinned], laidTests := true, laidLooks := .later }
def DeadMarksUptoCardSaid : Prop := Claim7.holds Tryd.pinned (.plain (OpenSpec.upto deadMarksSpec)) deadMarksUptoCard
end Rows
end Go.Proofs.YtlaieomjooeofaaDoor
