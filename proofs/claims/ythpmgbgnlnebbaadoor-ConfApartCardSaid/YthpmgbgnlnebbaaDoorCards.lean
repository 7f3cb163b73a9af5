/-
  DERIVED. GIVEN WITH THE SEED: THE CARDS: each row of YthpmgbgnlnebbaaDoorRows.lean that lists a variable, with what it lists TIED to the program's text (the seventh form; the later family's looks); each row that meets fmt, with fmt's text TOLD by the authors' own Lean function (tested against real Go, not proved from fmt's source: count such statements apart). THE CARD IS WHAT COUNTS. Prove the row's statement (the work); the ties are given (YthpmgbgnlnebbaaDoorTie.lean); close each card by the builder's one call (the guide's Derived/Test/ToyasCard.lean, 'card_holds'). Laid BY PROGRAM, IN A SANDBOX (cutbox-door.mjs). By AI agents, Wed Nov 11 2026. No macro, syntax, notation, axiom, sorry.
-/
import Derived.Test.YthpmgbgnlnebbaaDoorRows
import GoSem.ClaimSeven
namespace Go.Proofs.YthpmgbgnlnebbaaDoor
namespace Rows

/-- THE TIED CARD OF 'manciplelaw13.ConfChecks'. -/
def confChecksCard : Claim7 := { stood := { row := confChecksRow, standIns := [], harness := (true, "d5d28db915466e35671227e3219209db8b525d2ecf9cad767f4a91df49d9048f"), looks := false }, kinds := [], alts := [], laidByText := true, laidKinds := [.data, .pinned], laidTests := true, laidLooks := .later }
def ConfChecksCardSaid : Prop := Claim7.holds Tryd.pinned (.plain (OpenSpec.ofChange confChecksSpec)) confChecksCard

/-- THE TIED CARD OF 'manciplelaw13.ConfTexts'. -/
def confTextsCard : Claim7 := { stood := { row := confTextsRow, standIns := [], harness := (true, "d5d28db915466e35671227e3219209db8b525d2ecf9cad767f4a91df49d9048f"), looks := false }, kinds := [], alts := [], laidByText := true, laidKinds := [.data, .pinned], laidTests := true, laidLooks := .later }
def ConfTextsCardSaid : Prop := Claim7.holds Tryd.pinned (.plain (OpenSpec.ofChange confTextsSpec)) confTextsCard

/-- THE TIED CARD OF 'manciplelaw13.ConfApart'. -/
def confApartCard : Claim7 := { stood := { row := confApartRow, standIns := [], harness := (true, "d5d28db915466e35671227e3219209db8b525d2ecf9cad767f4a91df49d9048f"), looks := false }, kinds := [], alts := [], laidByText := true, laidKinds := [.data, .pinned], laidTests := true, laidLooks := .later }
def ConfApartCardSaid : Prop := Claim7.holds Tryd.pinned (.plain (OpenSpec.ofChange confApartSpec)) confApartCard

/-- THE SECOND FORM's CARD OF 'manciplelaw13.ConfChecks'. -/
def confChecksUptoCard : Claim7 := { stood := { row := confChecksUptoRow, standIns := [], harness := (true, "d5d28db915466e35671227e3219209db8b525d2ecf9cad767f4a91df49d9048f"), looks := false }, kinds := [], alts := [], laidByText := true, laidKinds := [.data, .pinned], laidTests := true, laidLooks := .later }
def ConfChecksUptoCardSaid : Prop := Claim7.holds Tryd.pinned (.plain (OpenSpec.upto confChecksSpec)) confChecksUptoCard

/-- THE SECOND FORM's CARD OF 'manciplelaw13.ConfTexts'. -/
def confTextsUptoCard : Claim7 := { stood := { row := confTextsUptoRow, standIns := [], harness := (true, "d5d28db915466e35671227e3219209db8b525d2ecf9cad767f4a91df49d9048f"), looks := false }, kinds := [], alts := [], laidByText := true, laidKinds := [.data, .pinned], laidTests := true, laidLooks := .later }
def ConfTextsUptoCardSaid : Prop := Claim7.holds Tryd.pinned (.plain (OpenSpec.upto confTextsSpec)) confTextsUptoCard

/-- THE SECOND FORM's CARD OF 'manciplelaw13.ConfApart'. -/
def confApartUptoCard : Claim7 := { stood := { row := confApartUptoRow, standIns := [], harness := (true, "d5d28db915466e35671227e3219209db8b525d2ecf9cad767f4a91df49d9048f"), looks := false }, kinds := [], alts := [], laidByText := true, laidKinds := [.data, .pinned], laidTests := true, laidLooks := .later }
def ConfApartUptoCardSaid : Prop := Claim7.holds Tryd.pinned (.plain (OpenSpec.upto confApartSpec)) confApartUptoCard
end Rows
end Go.Proofs.YthpmgbgnlnebbaaDoor
