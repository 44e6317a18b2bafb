/-
  DERIVED. GIVEN WITH THE SEED: THE CARDS: each row of YtgkpgpdkolpfkaaGreatDoorRows.lean that lists a variable, with what it lists TIED to the program's text (the seventh form; the later family's looks); each row that meets fmt, with fmt's text TOLD by the authors' own Lean function (tested against real Go, not proved from fmt's source: count such statements apart). THE CARD IS WHAT COUNTS. Prove the row's statement (the work); the ties are given (YtgkpgpdkolpfkaaGreatDoorTie.lean); close each card by the builder's one call (the guide's Derived/Test/ToyasCard.lean, 'card_holds'). Laid BY PROGRAM, IN A SANDBOX (cutbox-door.mjs). By AI agents, Wed Nov 11 2026. No macro, syntax, notation, axiom, sorry.
-/
import Derived.Test.YtgkpgpdkolpfkaaGreatDoorRows
import GoSem.ClaimSeven
namespace Go.Proofs.YtgkpgpdkolpfkaaGreatDoor
namespace Rows

/-- THE TIED CARD OF 'hearsaylaw04.RdataWords'. -/
def rdataWordsCard : Claim7 := { stood := { row := rdataWordsRow, standIns := [], harness := (true, "161141114e4958132e11a023b2c0e32365bbbe9c23c9ebd5ad9fb704478ccf61"), looks := true }, kinds := [], alts := [], laidByText := true, laidKinds := [.data, .data, .data, .data, .sentinel, .sentinel, .data, .pinned], laidTests := true, laidLooks := .later }
def RdataWordsCardSaid : Prop := Claim7.holds Tryz.pinned (.plain (OpenSpec.ofChange rdataWordsSpec)) rdataWordsCard

/-- THE SECOND FORM's CARD OF 'hearsaylaw04.RdataWords'. -/
def rdataWordsUptoCard : Claim7 := { stood := { row := rdataWordsUptoRow, standIns := [], harness := (true, "161141114e4958132e11a023b2c0e32365bbbe9c23c9ebd5ad9fb704478ccf61"), looks := true }, kinds := [], alts := [], laidByText := true, laidKinds := [.data, .data, .data, .data, .sentinel, .sentinel, .data, .pinned], laidTests := true, laidLooks := .later }
def RdataWordsUptoCardSaid : Prop := Claim7.holds Tryz.pinned (.plain (OpenSpec.upto rdataWordsSpec)) rdataWordsUptoCard
end Rows
end Go.Proofs.YtgkpgpdkolpfkaaGreatDoor
