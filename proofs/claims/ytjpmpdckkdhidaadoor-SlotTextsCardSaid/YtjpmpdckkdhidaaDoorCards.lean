/-
  DERIVED. GIVEN WITH THE SEED: THE CARDS: each row of YtjpmpdckkdhidaaDoorRows.lean that lists a variable, with what it lists TIED to the program's text (the seventh form; the later family's looks); each row that meets fmt, with fmt's text TOLD by the authors' own Lean function (tested against real Go, not proved from fmt's source: count such statements apart). THE CARD IS WHAT COUNTS. Prove the row's statement (the work); the ties are given (YtjpmpdckkdhidaaDoorTie.lean); close each card by the builder's one call (the guide's Derived/Test/ToyasCard.lean, 'card_holds'). Laid BY PROGRAM, IN A SANDBOX (cutbox-door.mjs). By AI agents, Wed Nov 11 2026. No macro, syntax, notation, axiom, sorry.
-/
import Derived.Test.YtjpmpdckkdhidaaDoorRows
import GoSem.ClaimSeven
namespace Go.Proofs.YtjpmpdckkdhidaaDoor
namespace Rows

/-- THE TIED CARD OF 'manciplelaw04.SlotPacks'. -/
def slotPacksCard : Claim7 := { stood := { row := slotPacksRow, standIns := [], harness := (true, "7a43cfcd57eddaa86e54e3e729017b61e05582fad6b09ce402f49bebc5082a87"), looks := false }, kinds := [], alts := [], laidByText := true, laidKinds := [.data], laidTests := true, laidLooks := .later }
def SlotPacksCardSaid : Prop := Claim7.holds Tryd.pinned (.plain (OpenSpec.ofChange slotPacksSpec)) slotPacksCard

/-- THE TIED CARD OF 'manciplelaw04.SlotOrders'. -/
def slotOrdersCard : Claim7 := { stood := { row := slotOrdersRow, standIns := [], harness := (true, "7a43cfcd57eddaa86e54e3e729017b61e05582fad6b09ce402f49bebc5082a87"), looks := false }, kinds := [], alts := [], laidByText := true, laidKinds := [.data], laidTests := true, laidLooks := .later }
def SlotOrdersCardSaid : Prop := Claim7.holds Tryd.pinned (.plain (OpenSpec.ofChange slotOrdersSpec)) slotOrdersCard

/-- THE TIED CARD OF 'manciplelaw04.SlotTexts'. -/
def slotTextsCard : Claim7 := { stood := { row := slotTextsRow, standIns := [], harness := (true, "7a43cfcd57eddaa86e54e3e729017b61e05582fad6b09ce402f49bebc5082a87"), looks := false }, kinds := [], alts := [], laidByText := true, laidKinds := [.data], laidTests := true, laidLooks := .later }
def SlotTextsCardSaid : Prop := Claim7.holds Tryd.pinned (.plain (OpenSpec.ofChange slotTextsSpec)) slotTextsCard

/-- THE SECOND FORM's CARD OF 'manciplelaw04.SlotPacks'. -/
def slotPacksUptoCard : Claim7 := { stood := { row := slotPacksUptoRow, standIns := [], harness := (true, "7a43cfcd57eddaa86e54e3e729017b61e05582fad6b09ce402f49bebc5082a87"), looks := false }, kinds := [], alts := [], laidByText := true, laidKinds := [.data], laidTests := true, laidLooks := .later }
def SlotPacksUptoCardSaid : Prop := Claim7.holds Tryd.pinned (.plain (OpenSpec.upto slotPacksSpec)) slotPacksUptoCard

/-- THE SECOND FORM's CARD OF 'manciplelaw04.SlotOrders'. -/
def slotOrdersUptoCard : Claim7 := { stood := { row := slotOrdersUptoRow, standIns := [], harness := (true, "7a43cfcd57eddaa86e54e3e729017b61e05582fad6b09ce402f49bebc5082a87"), looks := false }, kinds := [], alts := [], laidByText := true, laidKinds := [.data], laidTests := true, laidLooks := .later }
def SlotOrdersUptoCardSaid : Prop := Claim7.holds Tryd.pinned (.plain (OpenSpec.upto slotOrdersSpec)) slotOrdersUptoCard

/-- THE SECOND FORM's CARD OF 'manciplelaw04.SlotTexts'. -/
def slotTextsUptoCard : Claim7 := { stood := { row := slotTextsUptoRow, standIns := [], harness := (true, "7a43cfcd57eddaa86e54e3e729017b61e05582fad6b09ce402f49bebc5082a87"), looks := false }, kinds := [], alts := [], laidByText := true, laidKinds := [.data], laidTests := true, laidLooks := .later }
def SlotTextsUptoCardSaid : Prop := Claim7.holds Tryd.pinned (.plain (OpenSpec.upto slotTextsSpec)) slotTextsUptoCard
end Rows
end Go.Proofs.YtjpmpdckkdhidaaDoor
