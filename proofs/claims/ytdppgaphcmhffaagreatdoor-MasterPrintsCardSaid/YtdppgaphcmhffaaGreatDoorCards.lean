/-
  DERIVED. GIVEN WITH THE SEED: THE CARDS: each row of YtdppgaphcmhffaaGreatDoorRows.lean that lists a variable, with what it lists TIED to the program's text (the seventh form; the later family's looks); each row that meets fmt, with fmt's text TOLD by the authors' own Lean function (tested against real Go, not proved from fmt's source: count such statements apart). THE CARD IS WHAT COUNTS. Prove the row's statement (the work); the ties are given (YtdppgaphcmhffaaGreatDoorTie.lean); close each card by the builder's one call (the guide's Derived/Test/ToyasCard.lean, 'card_holds'). Laid BY PROGRAM, IN A SANDBOX (cutbox-door.mjs). By AI agents, Wed Nov 11 2026. No macro, syntax, notation, axiom, sorry.
-/
import Derived.Test.YtdppgaphcmhffaaGreatDoorRows
import GoSem.ClaimSeven
namespace Go.Proofs.YtdppgaphcmhffaaGreatDoor
namespace Rows

/-- THE TIED CARD OF 'hearsaylaw09.MasterHolds'. -/
def masterHoldsCard : Claim7 := { stood := { row := masterHoldsRow, standIns := [], harness := (true, "e2ed0eee7aa94c01d21401f6018241bdee67d958d0c81cbd9e7a09bb72fe350a"), looks := true }, kinds := [], alts := [], laidByText := true, laidKinds := [.data, .data, .data, .data, .sentinel, .sentinel, .data, .pinned], laidTests := true, laidLooks := .later }
def MasterHoldsCardSaid : Prop := Claim7.holds Tryz.pinned (.plain (OpenSpec.ofChange masterHoldsSpec)) masterHoldsCard

/-- THE TIED CARD OF 'hearsaylaw09.MasterTail'. -/
def masterTailCard : Claim7 := { stood := { row := masterTailRow, standIns := [], harness := (true, "e2ed0eee7aa94c01d21401f6018241bdee67d958d0c81cbd9e7a09bb72fe350a"), looks := true }, kinds := [], alts := [], laidByText := true, laidKinds := [.data, .data, .data, .data, .sentinel, .sentinel, .data, .pinned], laidTests := true, laidLooks := .later }
def MasterTailCardSaid : Prop := Claim7.holds Tryz.pinned (.plain (OpenSpec.ofChange masterTailSpec)) masterTailCard

/-- THE TIED CARD OF 'hearsaylaw09.MasterPrints'. -/
def masterPrintsCard : Claim7 := { stood := { row := masterPrintsRow, standIns := [], harness := (true, "e2ed0eee7aa94c01d21401f6018241bdee67d958d0c81cbd9e7a09bb72fe350a"), looks := true }, kinds := [], alts := [], laidByText := true, laidKinds := [.data, .data, .data, .data, .sentinel, .sentinel, .data, .pinned], laidTests := true, laidLooks := .later }
def MasterPrintsCardSaid : Prop := Claim7.holds Tryz.pinned (.plain (OpenSpec.ofChange masterPrintsSpec)) masterPrintsCard

/-- THE TIED CARD OF 'hearsaylaw09.MasterBack'. -/
def masterBackCard : Claim7 := { stood := { row := masterBackRow, standIns := [], harness := (true, "e2ed0eee7aa94c01d21401f6018241bdee67d958d0c81cbd9e7a09bb72fe350a"), looks := true }, kinds := [], alts := [], laidByText := true, laidKinds := [.data, .data, .data, .data, .sentinel, .sentinel, .data, .pinned], laidTests := true, laidLooks := .later }
def MasterBackCardSaid : Prop := Claim7.holds Tryz.pinned (.plain (OpenSpec.ofChange masterBackSpec)) masterBackCard

/-- THE SECOND FORM's CARD OF 'hearsaylaw09.MasterHolds'. -/
def masterHoldsUptoCard : Claim7 := { stood := { row := masterHoldsUptoRow, standIns := [], harness := (true, "e2ed0eee7aa94c01d21401f6018241bdee67d958d0c81cbd9e7a09bb72fe350a"), looks := true }, kinds := [], alts := [], laidByText := true, laidKinds := [.data, .data, .data, .data, .sentinel, .sentinel, .data, .pinned], laidTests := true, laidLooks := .later }
def MasterHoldsUptoCardSaid : Prop := Claim7.holds Tryz.pinned (.plain (OpenSpec.upto masterHoldsSpec)) masterHoldsUptoCard

/-- THE SECOND FORM's CARD OF 'hearsaylaw09.MasterTail'. -/
def masterTailUptoCard : Claim7 := { stood := { row := masterTailUptoRow, standIns := [], harness := (true, "e2ed0eee7aa94c01d21401f6018241bdee67d958d0c81cbd9e7a09bb72fe350a"), looks := true }, kinds := [], alts := [], laidByText := true, laidKinds := [.data, .data, .data, .data, .sentinel, .sentinel, .data, .pinned], laidTests := true, laidLooks := .later }
def MasterTailUptoCardSaid : Prop := Claim7.holds Tryz.pinned (.plain (OpenSpec.upto masterTailSpec)) masterTailUptoCard

/-- THE SECOND FORM's CARD OF 'hearsaylaw09.MasterPrints'. -/
def masterPrintsUptoCard : Claim7 := { stood := { row := masterPrintsUptoRow, standIns := [], harness := (true, "e2ed0eee7aa94c01d21401f6018241bdee67d958d0c81cbd9e7a09bb72fe350a"), looks := true }, kinds := [], alts := [], laidByText := true, laidKinds := [.data, .data, .data, .data, .sentinel, .sentinel, .data, .pinned], laidTests := true, laidLooks := .later }
def MasterPrintsUptoCardSaid : Prop := Claim7.holds Tryz.pinned (.plain (OpenSpec.upto masterPrintsSpec)) masterPrintsUptoCard

/-- THE SECOND FORM's CARD OF 'hearsaylaw09.MasterBack'. -/
def masterBackUptoCard : Claim7 := { stood := { row := masterBackUptoRow, standIns := [], harness := (true, "e2ed0eee7aa94c01d21401f6018241bdee67d958d0c81cbd9e7a09bb72fe350a"), looks := true }, kinds := [], alts := [], laidByText := true, laidKinds := [.data, .data, .data, .data, .sentinel, .sentinel, .data, .pinned], laidTests := true, laidLooks := .later }
def MasterBackUptoCardSaid : Prop := Claim7.holds Tryz.pinned (.plain (OpenSpec.upto masterBackSpec)) masterBackUptoCard
end Rows
end Go.Proofs.YtdppgaphcmhffaaGreatDoor
