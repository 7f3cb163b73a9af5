/-
  DERIVED. GIVEN WITH THE SEED: THE CARDS: each row of YtfoiddldfdbanaaDoorRows.lean that lists a variable, with what it lists TIED to the program's text (the seventh form; the later family's looks); each row that meets fmt, with fmt's text TOLD by the authors' own Lean function (tested against real Go, not proved from fmt's source: count such statements apart). THE CARD IS WHAT COUNTS. Prove the row's statement (the work); the ties are given (YtfoiddldfdbanaaDoorTie.lean); close each card by the builder's one call (the guide's Derived/Test/ToyasCard.lean, 'card_holds'). Laid BY PROGRAM, IN A SANDBOX (cutbox-door.mjs). By AI agents, Wed Nov 11 2026. No macro, syntax, notation, axiom, sorry.
-/
import Derived.Test.YtfoiddldfdbanaaDoorRows
import GoSem.ClaimSeven
namespace Go.Proofs.YtfoiddldfdbanaaDoor
namespace Rows

/-- THE TIED CARD OF 'manciplelaw34.TellReplies'. -/
def tellRepliesCard : Claim7 := { stood := { row := tellRepliesRow, standIns := [], harness := (true, "d0274d570460d890a0d2f78b29e5b68fb00a0a24bab7296a2544065ca9f5eac4"), looks := false }, kinds := [], alts := [], laidByText := true, laidKinds := [.data, .data, .data, .data, .widerDeep, .widerDeep], laidTests := true, laidLooks := .later }
def TellRepliesCardSaid : Prop := Claim7.holds Tryd.pinned (.plain (OpenSpec.ofChange tellRepliesSpec)) tellRepliesCard

/-- THE TIED CARD OF 'manciplelaw34.TellBooks'. -/
def tellBooksCard : Claim7 := { stood := { row := tellBooksRow, standIns := [], harness := (true, "d0274d570460d890a0d2f78b29e5b68fb00a0a24bab7296a2544065ca9f5eac4"), looks := false }, kinds := [], alts := [], laidByText := true, laidKinds := [.data, .data, .data, .data, .widerDeep, .widerDeep], laidTests := true, laidLooks := .later }
def TellBooksCardSaid : Prop := Claim7.holds Tryd.pinned (.plain (OpenSpec.ofChange tellBooksSpec)) tellBooksCard

/-- THE SECOND FORM's CARD OF 'manciplelaw34.TellReplies'. -/
def tellRepliesUptoCard : Claim7 := { stood := { row := tellRepliesUptoRow, standIns := [], harness := (true, "d0274d570460d890a0d2f78b29e5b68fb00a0a24bab7296a2544065ca9f5eac4"), looks := false }, kinds := [], alts := [], laidByText := true, laidKinds := [.data, .data, .data, .data, .widerDeep, .widerDeep], laidTests := true, laidLooks := .later }
def TellRepliesUptoCardSaid : Prop := Claim7.holds Tryd.pinned (.plain (OpenSpec.upto tellRepliesSpec)) tellRepliesUptoCard

/-- THE SECOND FORM's CARD OF 'manciplelaw34.TellBooks'. -/
def tellBooksUptoCard : Claim7 := { stood := { row := tellBooksUptoRow, standIns := [], harness := (true, "d0274d570460d890a0d2f78b29e5b68fb00a0a24bab7296a2544065ca9f5eac4"), looks := false }, kinds := [], alts := [], laidByText := true, laidKinds := [.data, .data, .data, .data, .widerDeep, .widerDeep], laidTests := true, laidLooks := .later }
def TellBooksUptoCardSaid : Prop := Claim7.holds Tryd.pinned (.plain (OpenSpec.upto tellBooksSpec)) tellBooksUptoCard
end Rows
end Go.Proofs.YtfoiddldfdbanaaDoor
