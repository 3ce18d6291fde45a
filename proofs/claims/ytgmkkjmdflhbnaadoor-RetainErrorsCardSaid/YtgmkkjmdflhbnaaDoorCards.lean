/-
  DERIVED. GIVEN WITH THE SEED: THE CARDS: each row of YtgmkkjmdflhbnaaDoorRows.lean that lists a variable, with what it lists TIED to the program's text (the seventh form; the later family's looks); each row that meets fmt, with fmt's text TOLD by the authors' own Lean function (tested against real Go, not proved from fmt's source: count such statements apart). THE CARD IS WHAT COUNTS. Prove the row's statement (the work); the ties are given (YtgmkkjmdflhbnaaDoorTie.lean); close each card by the builder's one call (the guide's Derived/Test/ToyasCard.lean, 'card_holds'). Laid BY PROGRAM, IN A SANDBOX (cutbox-door.mjs). By AI agents, Wed Nov 11 2026. No macro, syntax, notation, axiom, sorry.
-/
import Derived.Test.YtgmkkjmdflhbnaaDoorRows
import GoSem.ClaimSeven
namespace Go.Proofs.YtgmkkjmdflhbnaaDoor
namespace Rows

/-- THE TIED CARD OF 'brokerlaw12.RetainRuns'. -/
def retainRunsCard : Claim7 := { stood := { row := retainRunsRow, standIns := [], harness := (true, "6adfcae4eba53d7dca33883c74e0bbb6212242187fe32551301d3f5666a777c2"), looks := false }, kinds := [], alts := [], laidByText := true, laidKinds := [.data, .pinned], laidTests := true, laidLooks := .later }
def RetainRunsCardSaid : Prop := Claim7.holds Tryd.pinned (.plain (OpenSpec.ofChange retainRunsSpec)) retainRunsCard

/-- THE TIED CARD OF 'brokerlaw12.RetainMatch'. -/
def retainMatchCard : Claim7 := { stood := { row := retainMatchRow, standIns := [], harness := (true, "6adfcae4eba53d7dca33883c74e0bbb6212242187fe32551301d3f5666a777c2"), looks := false }, kinds := [], alts := [], laidByText := true, laidKinds := [.data, .pinned], laidTests := true, laidLooks := .later }
def RetainMatchCardSaid : Prop := Claim7.holds Tryd.pinned (.plain (OpenSpec.ofChange retainMatchSpec)) retainMatchCard

/-- THE TIED CARD OF 'brokerlaw12.RetainLast'. -/
def retainLastCard : Claim7 := { stood := { row := retainLastRow, standIns := [], harness := (true, "6adfcae4eba53d7dca33883c74e0bbb6212242187fe32551301d3f5666a777c2"), looks := false }, kinds := [], alts := [], laidByText := true, laidKinds := [.data, .pinned], laidTests := true, laidLooks := .later }
def RetainLastCardSaid : Prop := Claim7.holds Tryd.pinned (.plain (OpenSpec.ofChange retainLastSpec)) retainLastCard

/-- THE TIED CARD OF 'brokerlaw12.RetainExpires'. -/
def retainExpiresCard : Claim7 := { stood := { row := retainExpiresRow, standIns := [], harness := (true, "6adfcae4eba53d7dca33883c74e0bbb6212242187fe32551301d3f5666a777c2"), looks := false }, kinds := [], alts := [], laidByText := true, laidKinds := [.data, .pinned], laidTests := true, laidLooks := .later }
def RetainExpiresCardSaid : Prop := Claim7.holds Tryd.pinned (.plain (OpenSpec.ofChange retainExpiresSpec)) retainExpiresCard

/-- THE TIED CARD OF 'brokerlaw12.RetainErrors'. -/
def retainErrorsCard : Claim7 := { stood := { row := retainErrorsRow, standIns := [], harness := (true, "6adfcae4eba53d7dca33883c74e0bbb6212242187fe32551301d3f5666a777c2"), looks := false }, kinds := [], alts := [], laidByText := true, laidKinds := [.data, .pinned], laidTests := true, laidLooks := .later }
def RetainErrorsCardSaid : Prop := Claim7.holds Tryd.pinned (.plain (OpenSpec.ofChange retainErrorsSpec)) retainErrorsCard

/-- THE TIED CARD OF 'brokerlaw12.RetainFull'. -/
def retainFullCard : Claim7 := { stood := { row := retainFullRow, standIns := [], harness := (true, "6adfcae4eba53d7dca33883c74e0bbb6212242187fe32551301d3f5666a777c2"), looks := false }, kinds := [], alts := [], laidByText := true, laidKinds := [.data, .pinned], laidTests := true, laidLooks := .later }
def RetainFullCardSaid : Prop := Claim7.holds Tryd.pinned (.plain (OpenSpec.ofChange retainFullSpec)) retainFullCard

/-- THE TIED CARD OF 'brokerlaw12.RetainTwo'. -/
def retainTwoCard : Claim7 := { stood := { row := retainTwoRow, standIns := [], harness := (true, "6adfcae4eba53d7dca33883c74e0bbb6212242187fe32551301d3f5666a777c2"), looks := false }, kinds := [], alts := [], laidByText := true, laidKinds := [.data, .pinned], laidTests := true, laidLooks := .later }
def RetainTwoCardSaid : Prop := Claim7.holds Tryd.pinned (.plain (OpenSpec.ofChange retainTwoSpec)) retainTwoCard

/-- THE SECOND FORM's CARD OF 'brokerlaw12.RetainRuns'. -/
def retainRunsUptoCard : Claim7 := { stood := { row := retainRunsUptoRow, standIns := [], harness := (true, "6adfcae4eba53d7dca33883c74e0bbb6212242187fe32551301d3f5666a777c2"), looks := false }, kinds := [], alts := [], laidByText := true, laidKinds := [.data, .pinned], laidTests := true, laidLooks := .later }
def RetainRunsUptoCardSaid : Prop := Claim7.holds Tryd.pinned (.plain (OpenSpec.upto retainRunsSpec)) retainRunsUptoCard

/-- THE SECOND FORM's CARD OF 'brokerlaw12.RetainMatch'. -/
def retainMatchUptoCard : Claim7 := { stood := { row := retainMatchUptoRow, standIns := [], harness := (true, "6adfcae4eba53d7dca33883c74e0bbb6212242187fe32551301d3f5666a777c2"), looks := false }, kinds := [], alts := [], laidByText := true, laidKinds := [.data, .pinned], laidTests := true, laidLooks := .later }
def RetainMatchUptoCardSaid : Prop := Claim7.holds Tryd.pinned (.plain (OpenSpec.upto retainMatchSpec)) retainMatchUptoCard

/-- THE SECOND FORM's CARD OF 'brokerlaw12.RetainLast'. -/
def retainLastUptoCard : Claim7 := { stood := { row := retainLastUptoRow, standIns := [], harness := (true, "6adfcae4eba53d7dca33883c74e0bbb6212242187fe32551301d3f5666a777c2"), looks := false }, kinds := [], alts := [], laidByText := true, laidKinds := [.data, .pinned], laidTests := true, laidLooks := .later }
def RetainLastUptoCardSaid : Prop := Claim7.holds Tryd.pinned (.plain (OpenSpec.upto retainLastSpec)) retainLastUptoCard

/-- THE SECOND FORM's CARD OF 'brokerlaw12.RetainExpires'. -/
def retainExpiresUptoCard : Claim7 := { stood := { row := retainExpiresUptoRow, standIns := [], harness := (true, "6adfcae4eba53d7dca33883c74e0bbb6212242187fe32551301d3f5666a777c2"), looks := false }, kinds := [], alts := [], laidByText := true, laidKinds := [.data, .pinned], laidTests := true, laidLooks := .later }
def RetainExpiresUptoCardSaid : Prop := Claim7.holds Tryd.pinned (.plain (OpenSpec.upto retainExpiresSpec)) retainExpiresUptoCard

/-- THE SECOND FORM's CARD OF 'brokerlaw12.RetainErrors'. -/
def retainErrorsUptoCard : Claim7 := { stood := { row := retainErrorsUptoRow, standIns := [], harness := (true, "6adfcae4eba53d7dca33883c74e0bbb6212242187fe32551301d3f5666a777c2"), looks := false }, kinds := [], alts := [], laidByText := true, laidKinds := [.data, .pinned], laidTests := true, laidLooks := .later }
def RetainErrorsUptoCardSaid : Prop := Claim7.holds Tryd.pinned (.plain (OpenSpec.upto retainErrorsSpec)) retainErrorsUptoCard

/-- THE SECOND FORM's CARD OF 'brokerlaw12.RetainFull'. -/
def retainFullUptoCard : Claim7 := { stood := { row := retainFullUptoRow, standIns := [], harness := (true, "6adfcae4eba53d7dca33883c74e0bbb6212242187fe32551301d3f5666a777c2"), looks := false }, kinds := [], alts := [], laidByText := true, laidKinds := [.data, .pinned], laidTests := true, laidLooks := .later }
def RetainFullUptoCardSaid : Prop := Claim7.holds Tryd.pinned (.plain (OpenSpec.upto retainFullSpec)) retainFullUptoCard

/-- THE SECOND FORM's CARD OF 'brokerlaw12.RetainTwo'. -/
def retainTwoUptoCard : Claim7 := { stood := { row := retainTwoUptoRow, standIns := [], harness := (true, "6adfcae4eba53d7dca33883c74e0bbb6212242187fe32551301d3f5666a777c2"), looks := false }, kinds := [], alts := [], laidByText := true, laidKinds := [.data, .pinned], laidTests := true, laidLooks := .later }
def RetainTwoUptoCardSaid : Prop := Claim7.holds Tryd.pinned (.plain (OpenSpec.upto retainTwoSpec)) retainTwoUptoCard
end Rows
end Go.Proofs.YtgmkkjmdflhbnaaDoor
