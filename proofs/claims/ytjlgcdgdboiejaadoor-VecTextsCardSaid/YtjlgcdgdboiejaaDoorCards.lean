/-
  DERIVED. GIVEN WITH THE SEED: THE CARDS: each row of YtjlgcdgdboiejaaDoorRows.lean that lists a variable, with what it lists TIED to the program's text (the seventh form; the later family's looks); each row that meets fmt, with fmt's text TOLD by the authors' own Lean function (tested against real Go, not proved from fmt's source: count such statements apart). THE CARD IS WHAT COUNTS. Prove the row's statement (the work); the ties are given (YtjlgcdgdboiejaaDoorTie.lean); close each card by the builder's one call (the guide's Derived/Test/ToyasCard.lean, 'card_holds'). Laid BY PROGRAM, IN A SANDBOX (cutbox-door.mjs). By AI agents, Wed Nov 11 2026. No macro, syntax, notation, axiom, sorry.
-/
import Derived.Test.YtjlgcdgdboiejaaDoorRows
import GoSem.ClaimSeven
namespace Go.Proofs.YtjlgcdgdboiejaaDoor
namespace Rows

/-- THE TIED CARD OF 'manciplelaw05.VecOrder'. -/
def vecOrderCard : Claim7 := { stood := { row := vecOrderRow, standIns := [], harness := (true, "c343587cf216d8b61aeb549499e8f5271c8f75d1d464a25d3439ff7d7b2c0661"), looks := false }, kinds := [], alts := [], laidByText := true, laidKinds := [.data], laidTests := true, laidLooks := .later }
def VecOrderCardSaid : Prop := Claim7.holds Tryd.pinned (.plain (OpenSpec.ofChange vecOrderSpec)) vecOrderCard

/-- THE TIED CARD OF 'manciplelaw05.VecOf'. -/
def vecOfCard : Claim7 := { stood := { row := vecOfRow, standIns := [], harness := (true, "c343587cf216d8b61aeb549499e8f5271c8f75d1d464a25d3439ff7d7b2c0661"), looks := false }, kinds := [], alts := [], laidByText := true, laidKinds := [.data], laidTests := true, laidLooks := .later }
def VecOfCardSaid : Prop := Claim7.holds Tryd.pinned (.plain (OpenSpec.ofChange vecOfSpec)) vecOfCard

/-- THE TIED CARD OF 'manciplelaw05.VecMoves'. -/
def vecMovesCard : Claim7 := { stood := { row := vecMovesRow, standIns := [], harness := (true, "c343587cf216d8b61aeb549499e8f5271c8f75d1d464a25d3439ff7d7b2c0661"), looks := false }, kinds := [], alts := [], laidByText := true, laidKinds := [.data], laidTests := true, laidLooks := .later }
def VecMovesCardSaid : Prop := Claim7.holds Tryd.pinned (.plain (OpenSpec.ofChange vecMovesSpec)) vecMovesCard

/-- THE TIED CARD OF 'manciplelaw05.VecSums'. -/
def vecSumsCard : Claim7 := { stood := { row := vecSumsRow, standIns := [], harness := (true, "c343587cf216d8b61aeb549499e8f5271c8f75d1d464a25d3439ff7d7b2c0661"), looks := false }, kinds := [], alts := [], laidByText := true, laidKinds := [.data], laidTests := true, laidLooks := .later }
def VecSumsCardSaid : Prop := Claim7.holds Tryd.pinned (.plain (OpenSpec.ofChange vecSumsSpec)) vecSumsCard

/-- THE TIED CARD OF 'manciplelaw05.VecBack'. -/
def vecBackCard : Claim7 := { stood := { row := vecBackRow, standIns := [], harness := (true, "c343587cf216d8b61aeb549499e8f5271c8f75d1d464a25d3439ff7d7b2c0661"), looks := false }, kinds := [], alts := [], laidByText := true, laidKinds := [.data], laidTests := true, laidLooks := .later }
def VecBackCardSaid : Prop := Claim7.holds Tryd.pinned (.plain (OpenSpec.ofChange vecBackSpec)) vecBackCard

/-- THE TIED CARD OF 'manciplelaw05.VecTexts'. -/
def vecTextsCard : Claim7 := { stood := { row := vecTextsRow, standIns := [], harness := (true, "c343587cf216d8b61aeb549499e8f5271c8f75d1d464a25d3439ff7d7b2c0661"), looks := false }, kinds := [], alts := [], laidByText := true, laidKinds := [.data, .data, .pinned], laidTests := true, laidLooks := .later }
def VecTextsCardSaid : Prop := Claim7.holds Tryd.pinned (.plain (OpenSpec.ofChange vecTextsSpec)) vecTextsCard

/-- THE SECOND FORM's CARD OF 'manciplelaw05.VecOrder'. -/
def vecOrderUptoCard : Claim7 := { stood := { row := vecOrderUptoRow, standIns := [], harness := (true, "c343587cf216d8b61aeb549499e8f5271c8f75d1d464a25d3439ff7d7b2c0661"), looks := false }, kinds := [], alts := [], laidByText := true, laidKinds := [.data], laidTests := true, laidLooks := .later }
def VecOrderUptoCardSaid : Prop := Claim7.holds Tryd.pinned (.plain (OpenSpec.upto vecOrderSpec)) vecOrderUptoCard

/-- THE SECOND FORM's CARD OF 'manciplelaw05.VecOf'. -/
def vecOfUptoCard : Claim7 := { stood := { row := vecOfUptoRow, standIns := [], harness := (true, "c343587cf216d8b61aeb549499e8f5271c8f75d1d464a25d3439ff7d7b2c0661"), looks := false }, kinds := [], alts := [], laidByText := true, laidKinds := [.data], laidTests := true, laidLooks := .later }
def VecOfUptoCardSaid : Prop := Claim7.holds Tryd.pinned (.plain (OpenSpec.upto vecOfSpec)) vecOfUptoCard

/-- THE SECOND FORM's CARD OF 'manciplelaw05.VecMoves'. -/
def vecMovesUptoCard : Claim7 := { stood := { row := vecMovesUptoRow, standIns := [], harness := (true, "c343587cf216d8b61aeb549499e8f5271c8f75d1d464a25d3439ff7d7b2c0661"), looks := false }, kinds := [], alts := [], laidByText := true, laidKinds := [.data], laidTests := true, laidLooks := .later }
def VecMovesUptoCardSaid : Prop := Claim7.holds Tryd.pinned (.plain (OpenSpec.upto vecMovesSpec)) vecMovesUptoCard

/-- THE SECOND FORM's CARD OF 'manciplelaw05.VecSums'. -/
def vecSumsUptoCard : Claim7 := { stood := { row := vecSumsUptoRow, standIns := [], harness := (true, "c343587cf216d8b61aeb549499e8f5271c8f75d1d464a25d3439ff7d7b2c0661"), looks := false }, kinds := [], alts := [], laidByText := true, laidKinds := [.data], laidTests := true, laidLooks := .later }
def VecSumsUptoCardSaid : Prop := Claim7.holds Tryd.pinned (.plain (OpenSpec.upto vecSumsSpec)) vecSumsUptoCard

/-- THE SECOND FORM's CARD OF 'manciplelaw05.VecBack'. -/
def vecBackUptoCard : Claim7 := { stood := { row := vecBackUptoRow, standIns := [], harness := (true, "c343587cf216d8b61aeb549499e8f5271c8f75d1d464a25d3439ff7d7b2c0661"), looks := false }, kinds := [], alts := [], laidByText := true, laidKinds := [.data], laidTests := true, laidLooks := .later }
def VecBackUptoCardSaid : Prop := Claim7.holds Tryd.pinned (.plain (OpenSpec.upto vecBackSpec)) vecBackUptoCard

/-- THE SECOND FORM's CARD OF 'manciplelaw05.VecTexts'. -/
def vecTextsUptoCard : Claim7 := { stood := { row := vecTextsUptoRow, standIns := [], harness := (true, "c343587cf216d8b61aeb549499e8f5271c8f75d1d464a25d3439ff7d7b2c0661"), looks := false }, kinds := [], alts := [], laidByText := true, laidKinds := [.data, .data, .pinned], laidTests := true, laidLooks := .later }
def VecTextsUptoCardSaid : Prop := Claim7.holds Tryd.pinned (.plain (OpenSpec.upto vecTextsSpec)) vecTextsUptoCard
end Rows
end Go.Proofs.YtjlgcdgdboiejaaDoor
