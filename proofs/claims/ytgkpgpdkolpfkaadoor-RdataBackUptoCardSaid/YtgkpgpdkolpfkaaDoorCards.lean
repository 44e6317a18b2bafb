/-
  DERIVED. GIVEN WITH THE SEED: THE CARDS: each row of YtgkpgpdkolpfkaaDoorRows.lean that lists a variable, with what it lists TIED to the program's text (the seventh form; the later family's looks); each row that meets fmt, with fmt's text TOLD by the authors' own Lean function (tested against real Go, not proved from fmt's source: count such statements apart). THE CARD IS WHAT COUNTS. Prove the row's statement (the work); the ties are given (YtgkpgpdkolpfkaaDoorTie.lean); close each card by the builder's one call (the guide's Derived/Test/ToyasCard.lean, 'card_holds'). Laid BY PROGRAM, IN A SANDBOX (cutbox-door.mjs). By AI agents, Wed Nov 11 2026. No macro, syntax, notation, axiom, sorry.
-/
import Derived.Test.YtgkpgpdkolpfkaaDoorRows
import GoSem.ClaimSeven
namespace Go.Proofs.YtgkpgpdkolpfkaaDoor
namespace Rows

/-- THE TIED CARD OF 'hearsaylaw04.RdataPuts'. -/
def rdataPutsCard : Claim7 := { stood := { row := rdataPutsRow, standIns := [], harness := (true, "86ee704339be247daebaa0282714e83e935902e0ff8a71486916f9275c5998ef"), looks := true }, kinds := [], alts := [], laidByText := true, laidKinds := [.data, .data, .data, .data], laidTests := true, laidLooks := .later }
def RdataPutsCardSaid : Prop := Claim7.holds Tryd.pinned (.plain (OpenSpec.ofChange rdataPutsSpec)) rdataPutsCard

/-- THE TIED CARD OF 'hearsaylaw04.RdataShows'. -/
def rdataShowsCard : Claim7 := { stood := { row := rdataShowsRow, standIns := [], harness := (true, "86ee704339be247daebaa0282714e83e935902e0ff8a71486916f9275c5998ef"), looks := true }, kinds := [], alts := [], laidByText := true, laidKinds := [.data, .data, .data, .data], laidTests := true, laidLooks := .later }
def RdataShowsCardSaid : Prop := Claim7.holds Tryd.pinned (.plain (OpenSpec.ofChange rdataShowsSpec)) rdataShowsCard

/-- THE TIED CARD OF 'hearsaylaw04.RdataChecks'. -/
def rdataChecksCard : Claim7 := { stood := { row := rdataChecksRow, standIns := [], harness := (true, "86ee704339be247daebaa0282714e83e935902e0ff8a71486916f9275c5998ef"), looks := true }, kinds := [], alts := [], laidByText := true, laidKinds := [.data, .data, .data, .data], laidTests := true, laidLooks := .later }
def RdataChecksCardSaid : Prop := Claim7.holds Tryd.pinned (.plain (OpenSpec.ofChange rdataChecksSpec)) rdataChecksCard

/-- THE TIED CARD OF 'hearsaylaw04.RdataBack'. -/
def rdataBackCard : Claim7 := { stood := { row := rdataBackRow, standIns := [], harness := (true, "86ee704339be247daebaa0282714e83e935902e0ff8a71486916f9275c5998ef"), looks := true }, kinds := [], alts := [], laidByText := true, laidKinds := [.data, .data, .data, .data], laidTests := true, laidLooks := .later }
def RdataBackCardSaid : Prop := Claim7.holds Tryd.pinned (.plain (OpenSpec.ofChange rdataBackSpec)) rdataBackCard

/-- THE TIED CARD OF 'hearsaylaw04.RdataTypes'. -/
def rdataTypesCard : Claim7 := { stood := { row := rdataTypesRow, standIns := [], harness := (true, "86ee704339be247daebaa0282714e83e935902e0ff8a71486916f9275c5998ef"), looks := true }, kinds := [], alts := [], laidByText := true, laidKinds := [.data, .data, .data, .sentinel, .sentinel, .data], laidTests := true, laidLooks := .later }
def RdataTypesCardSaid : Prop := Claim7.holds Tryd.pinned (.plain (OpenSpec.ofChange rdataTypesSpec)) rdataTypesCard

/-- THE SECOND FORM's CARD OF 'hearsaylaw04.RdataPuts'. -/
def rdataPutsUptoCard : Claim7 := { stood := { row := rdataPutsUptoRow, standIns := [], harness := (true, "86ee704339be247daebaa0282714e83e935902e0ff8a71486916f9275c5998ef"), looks := true }, kinds := [], alts := [], laidByText := true, laidKinds := [.data, .data, .data, .data], laidTests := true, laidLooks := .later }
def RdataPutsUptoCardSaid : Prop := Claim7.holds Tryd.pinned (.plain (OpenSpec.upto rdataPutsSpec)) rdataPutsUptoCard

/-- THE SECOND FORM's CARD OF 'hearsaylaw04.RdataShows'. -/
def rdataShowsUptoCard : Claim7 := { stood := { row := rdataShowsUptoRow, standIns := [], harness := (true, "86ee704339be247daebaa0282714e83e935902e0ff8a71486916f9275c5998ef"), looks := true }, kinds := [], alts := [], laidByText := true, laidKinds := [.data, .data, .data, .data], laidTests := true, laidLooks := .later }
def RdataShowsUptoCardSaid : Prop := Claim7.holds Tryd.pinned (.plain (OpenSpec.upto rdataShowsSpec)) rdataShowsUptoCard

/-- THE SECOND FORM's CARD OF 'hearsaylaw04.RdataChecks'. -/
def rdataChecksUptoCard : Claim7 := { stood := { row := rdataChecksUptoRow, standIns := [], harness := (true, "86ee704339be247daebaa0282714e83e935902e0ff8a71486916f9275c5998ef"), looks := true }, kinds := [], alts := [], laidByText := true, laidKinds := [.data, .data, .data, .data], laidTests := true, laidLooks := .later }
def RdataChecksUptoCardSaid : Prop := Claim7.holds Tryd.pinned (.plain (OpenSpec.upto rdataChecksSpec)) rdataChecksUptoCard

/-- THE SECOND FORM's CARD OF 'hearsaylaw04.RdataBack'. -/
def rdataBackUptoCard : Claim7 := { stood := { row := rdataBackUptoRow, standIns := [], harness := (true, "86ee704339be247daebaa0282714e83e935902e0ff8a71486916f9275c5998ef"), looks := true }, kinds := [], alts := [], laidByText := true, laidKinds := [.data, .data, .data, .data], laidTests := true, laidLooks := .later }
def RdataBackUptoCardSaid : Prop := Claim7.holds Tryd.pinned (.plain (OpenSpec.upto rdataBackSpec)) rdataBackUptoCard

/-- THE SECOND FORM's CARD OF 'hearsaylaw04.RdataTypes'. -/
def rdataTypesUptoCard : Claim7 := { stood := { row := rdataTypesUptoRow, standIns := [], harness := (true, "86ee704339be247daebaa0282714e83e935902e0ff8a71486916f9275c5998ef"), looks := true }, kinds := [], alts := [], laidByText := true, laidKinds := [.data, .data, .data, .sentinel, .sentinel, .data], laidTests := true, laidLooks := .later }
def RdataTypesUptoCardSaid : Prop := Claim7.holds Tryd.pinned (.plain (OpenSpec.upto rdataTypesSpec)) rdataTypesUptoCard
end Rows
end Go.Proofs.YtgkpgpdkolpfkaaDoor
