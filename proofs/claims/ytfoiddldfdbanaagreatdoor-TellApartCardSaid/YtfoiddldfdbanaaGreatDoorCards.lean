/-
  DERIVED. GIVEN WITH THE SEED: THE CARDS: each row of YtfoiddldfdbanaaGreatDoorRows.lean that lists a variable, with what it lists TIED to the program's text (the seventh form; the later family's looks); each row that meets fmt, with fmt's text TOLD by the authors' own Lean function (tested against real Go, not proved from fmt's source: count such statements apart). THE CARD IS WHAT COUNTS. Prove the row's statement (the work); the ties are given (YtfoiddldfdbanaaGreatDoorTie.lean); close each card by the builder's one call (the guide's Derived/Test/ToyasCard.lean, 'card_holds'). Laid BY PROGRAM, IN A SANDBOX (cutbox-door.mjs). By AI agents, Wed Nov 11 2026. No macro, syntax, notation, axiom, sorry.
-/
import Derived.Test.YtfoiddldfdbanaaGreatDoorRows
import GoSem.ClaimSeven
namespace Go.Proofs.YtfoiddldfdbanaaGreatDoor
namespace Rows

/-- THE TIED CARD OF 'manciplelaw34.TellApart'. -/
def tellApartCard : Claim7 := { stood := { row := tellApartRow, standIns := [], harness := (true, "cc9402c8084d52ea094041d023894c7bf1a5033e4bec33ddfa1462b4fb8caa47"), looks := false }, kinds := [], alts := [], laidByText := true, laidKinds := [.data, .data, .data, .data, .widerDeep, .widerDeep], laidTests := true, laidLooks := .later }
def TellApartCardSaid : Prop := Claim7.holds Tryz.pinned (.plain (OpenSpec.ofChange tellApartSpec)) tellApartCard

/-- THE SECOND FORM's CARD OF 'manciplelaw34.TellApart'. -/
def tellApartUptoCard : Claim7 := { stood := { row := tellApartUptoRow, standIns := [], harness := (true, "cc9402c8084d52ea094041d023894c7bf1a5033e4bec33ddfa1462b4fb8caa47"), looks := false }, kinds := [], alts := [], laidByText := true, laidKinds := [.data, .data, .data, .data, .widerDeep, .widerDeep], laidTests := true, laidLooks := .later }
def TellApartUptoCardSaid : Prop := Claim7.holds Tryz.pinned (.plain (OpenSpec.upto tellApartSpec)) tellApartUptoCard
end Rows
end Go.Proofs.YtfoiddldfdbanaaGreatDoor
