/-
  DERIVED. GIVEN WITH THE SEED: THE CARDS: each row of YtjemmehgfheflaaDoorRows.lean that lists a variable, with what it lists TIED to the program's text (the seventh form; the later family's looks); each row that meets fmt, with fmt's text TOLD by the authors' own Lean function (tested against real Go, not proved from fmt's source: count such statements apart). THE CARD IS WHAT COUNTS. Prove the row's statement (the work); the ties are given (YtjemmehgfheflaaDoorTie.lean); close each card by the builder's one call (the guide's Derived/Test/ToyasCard.lean, 'card_holds'). Laid BY PROGRAM, IN A SANDBOX (cutbox-door.mjs). By AI agents, Wed Nov 11 2026. No macro, syntax, notation, axiom, sorry.
-/
import Derived.Test.YtjemmehgfheflaaDoorRows
import GoSem.ClaimSeven
namespace Go.Proofs.YtjemmehgfheflaaDoor
namespace Rows

/-- THE TIED CARD OF 'hearsaylaw21.ServicePacks'. -/
def servicePacksCard : Claim7 := { stood := { row := servicePacksRow, standIns := [], harness := (true, "207339ed32adbbb29b5aef2f5001c483a5094b20dd17c53b1886a790f238d8bf"), looks := false }, kinds := [], alts := [], laidByText := true, laidKinds := [.data, .data, .data], laidTests := true, laidLooks := .later }
def ServicePacksCardSaid : Prop := Claim7.holds Tryd.pinned (.plain (OpenSpec.ofChange servicePacksSpec)) servicePacksCard

/-- THE TIED CARD OF 'hearsaylaw21.ServiceParses'. -/
def serviceParsesCard : Claim7 := { stood := { row := serviceParsesRow, standIns := [], harness := (true, "207339ed32adbbb29b5aef2f5001c483a5094b20dd17c53b1886a790f238d8bf"), looks := false }, kinds := [], alts := [], laidByText := true, laidKinds := [.data, .data, .data, .data, .pinned], laidTests := true, laidLooks := .later }
def ServiceParsesCardSaid : Prop := Claim7.holds Tryd.pinned (.plain (OpenSpec.ofChange serviceParsesSpec)) serviceParsesCard

/-- THE TIED CARD OF 'hearsaylaw21.ServiceBack'. -/
def serviceBackCard : Claim7 := { stood := { row := serviceBackRow, standIns := [], harness := (true, "207339ed32adbbb29b5aef2f5001c483a5094b20dd17c53b1886a790f238d8bf"), looks := false }, kinds := [], alts := [], laidByText := true, laidKinds := [.data, .data, .data, .data, .pinned], laidTests := true, laidLooks := .later }
def ServiceBackCardSaid : Prop := Claim7.holds Tryd.pinned (.plain (OpenSpec.ofChange serviceBackSpec)) serviceBackCard

/-- THE TIED CARD OF 'hearsaylaw21.ServiceApart'. -/
def serviceApartCard : Claim7 := { stood := { row := serviceApartRow, standIns := [], harness := (true, "207339ed32adbbb29b5aef2f5001c483a5094b20dd17c53b1886a790f238d8bf"), looks := false }, kinds := [], alts := [], laidByText := true, laidKinds := [.data, .data, .data, .data, .pinned], laidTests := true, laidLooks := .later }
def ServiceApartCardSaid : Prop := Claim7.holds Tryd.pinned (.plain (OpenSpec.ofChange serviceApartSpec)) serviceApartCard

/-- THE TIED CARD OF 'hearsaylaw21.ServiceKnown'. -/
def serviceKnownCard : Claim7 := { stood := { row := serviceKnownRow, standIns := [], harness := (true, "207339ed32adbbb29b5aef2f5001c483a5094b20dd17c53b1886a790f238d8bf"), looks := false }, kinds := [], alts := [], laidByText := true, laidKinds := [.data, .data, .data, .data, .pinned], laidTests := true, laidLooks := .later }
def ServiceKnownCardSaid : Prop := Claim7.holds Tryd.pinned (.plain (OpenSpec.ofChange serviceKnownSpec)) serviceKnownCard

/-- THE SECOND FORM's CARD OF 'hearsaylaw21.ServicePacks'. -/
def servicePacksUptoCard : Claim7 := { stood := { row := servicePacksUptoRow, standIns := [], harness := (true, "207339ed32adbbb29b5aef2f5001c483a5094b20dd17c53b1886a790f238d8bf"), looks := false }, kinds := [], alts := [], laidByText := true, laidKinds := [.data, .data, .data], laidTests := true, laidLooks := .later }
def ServicePacksUptoCardSaid : Prop := Claim7.holds Tryd.pinned (.plain (OpenSpec.upto servicePacksSpec)) servicePacksUptoCard

/-- THE SECOND FORM's CARD OF 'hearsaylaw21.ServiceParses'. -/
def serviceParsesUptoCard : Claim7 := { stood := { row := serviceParsesUptoRow, standIns := [], harness := (true, "207339ed32adbbb29b5aef2f5001c483a5094b20dd17c53b1886a790f238d8bf"), looks := false }, kinds := [], alts := [], laidByText := true, laidKinds := [.data, .data, .data, .data, .pinned], laidTests := true, laidLooks := .later }
def ServiceParsesUptoCardSaid : Prop := Claim7.holds Tryd.pinned (.plain (OpenSpec.upto serviceParsesSpec)) serviceParsesUptoCard

/-- THE SECOND FORM's CARD OF 'hearsaylaw21.ServiceBack'. -/
def serviceBackUptoCard : Claim7 := { stood := { row := serviceBackUptoRow, standIns := [], harness := (true, "207339ed32adbbb29b5aef2f5001c483a5094b20dd17c53b1886a790f238d8bf"), looks := false }, kinds := [], alts := [], laidByText := true, laidKinds := [.data, .data, .data, .data, .pinned], laidTests := true, laidLooks := .later }
def ServiceBackUptoCardSaid : Prop := Claim7.holds Tryd.pinned (.plain (OpenSpec.upto serviceBackSpec)) serviceBackUptoCard

/-- THE SECOND FORM's CARD OF 'hearsaylaw21.ServiceApart'. -/
def serviceApartUptoCard : Claim7 := { stood := { row := serviceApartUptoRow, standIns := [], harness := (true, "207339ed32adbbb29b5aef2f5001c483a5094b20dd17c53b1886a790f238d8bf"), looks := false }, kinds := [], alts := [], laidByText := true, laidKinds := [.data, .data, .data, .data, .pinned], laidTests := true, laidLooks := .later }
def ServiceApartUptoCardSaid : Prop := Claim7.holds Tryd.pinned (.plain (OpenSpec.upto serviceApartSpec)) serviceApartUptoCard

/-- THE SECOND FORM's CARD OF 'hearsaylaw21.ServiceKnown'. -/
def serviceKnownUptoCard : Claim7 := { stood := { row := serviceKnownUptoRow, standIns := [], harness := (true, "207339ed32adbbb29b5aef2f5001c483a5094b20dd17c53b1886a790f238d8bf"), looks := false }, kinds := [], alts := [], laidByText := true, laidKinds := [.data, .data, .data, .data, .pinned], laidTests := true, laidLooks := .later }
def ServiceKnownUptoCardSaid : Prop := Claim7.holds Tryd.pinned (.plain (OpenSpec.upto serviceKnownSpec)) serviceKnownUptoCard
end Rows
end Go.Proofs.YtjemmehgfheflaaDoor
