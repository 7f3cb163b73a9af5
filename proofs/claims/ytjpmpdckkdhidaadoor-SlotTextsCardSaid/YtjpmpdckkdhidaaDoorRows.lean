/-
  NARROWER THAN 'FOR EVERY INPUT', by the rows' own cells (each row's printed sentence says how): SlotPacks: laid · SlotOrders: laid · SlotTexts: laid.
  DERIVED. THE GIVEN ROWS OF THIS SEAT. 3 by the template 'for every input the law returns true; each argument reads behind the call as it read before'; 0 by the template 'total and deterministic' (their statements: YtjpmpdckkdhidaaDoorTotals.lean).
  GIVEN WITH THE SEED: the statements are not yours to turn. If you find one false, say at which input.
  Laid BY PROGRAM, IN A SANDBOX (cutbox-rows.mjs): the forced cells as the released guide's own fill.sh prints them over the translation 5a63777de3734e4a… (all of the seat's roots in one cut). By AI agents, Wed Nov 11 2026. No macro, syntax, notation, axiom, sorry.
-/
import Derived.Test.YtjpmpdckkdhidaaDoorChecked
import GoSem.Claim
import GoSem.ClaimJoined
import GoSem.ClaimMapViews
import Derived.JoinedTies
import Derived.KernelRfl
namespace Go.Proofs.YtjpmpdckkdhidaaDoor
/- THE CELL 'sum', in the pinned program and in every row, IS THE sha256 OF THE DUMP (.gsa) THAT YtjpmpdckkdhidaaDoorProg.lean LOADS. Nothing in Lean hashes anything: it is a label: what it is worth is what the hold of that sum in a sandbox is worth. -/
noncomputable def Tryd.pinned : Pinned := { name := "ytjpmpdckkdhidaadoor", sum := "5a63777de3734e4a1df556013e3cbbd6dec12f9bcd03a89f975c689d4b80702a", checked := Tryd.checked }
namespace Rows
def none {H : Type} : Left H := { results := [], args := [] }

/- WHAT THE LISTED PACKAGE-LEVEL VARIABLES READ AS WHEN THE CALL BEGINS. Each datum BY PROGRAM (the guide's laid-datum.mjs) off the statement by which the dump's own 'gosem.cut.vars' lays the variable. In a bare row this is a premise. The card (YtjpmpdckkdhidaaDoorCards.lean) ties it to the program's text. -/
def laid_manciple_slot_table {H : Type} : DataW H := .agg [.lit (.string [99, 112, 117, 115]), .lit (.string [109, 101, 109]), .lit (.string [100, 105, 115, 107]), .lit (.string [103, 112, 117, 115])]

/-- 'manciplelaw04.SlotPacks': WHATEVER THE INPUT: true; the input reads as it did. -/
def slotPacksSpec : ChangeSpec := { name := "slotPacks", fn := fun _ => fun
  | [d1, d2, d3] => { results := [.lit (.bool true)], args := [d1, d2, d3] }
  | _ => none }
def slotPacksRow : OpenClaim := { program := "ytjpmpdckkdhidaadoor", sum := "5a63777de3734e4a1df556013e3cbbd6dec12f9bcd03a89f975c689d4b80702a", func := "manciple/manciplelaw04.SlotPacks", spec := "slotPacks", recurses := true, named := ["manciple/slot.table"], apart := false, laid := [("manciple/slot.table", laid_manciple_slot_table)] }
def SlotPacksSaid : Prop := slotPacksRow.holds Tryd.pinned (OpenSpec.ofChange slotPacksSpec)

/-- ITS FALSE NEIGHBOUR: 'it returns false'. Refute it at one input. -/
def slotPacksWrong : ChangeSpec := { name := "slotPacks", fn := fun _ => fun
  | [d1, d2, d3] => { results := [.lit (.bool false)], args := [d1, d2, d3] }
  | _ => none }
def SlotPacksWrongFalsely : Prop := slotPacksRow.holds Tryd.pinned (OpenSpec.ofChange slotPacksWrong)

/-- 'manciplelaw04.SlotOrders': WHATEVER THE INPUT: true; the input reads as it did. -/
def slotOrdersSpec : ChangeSpec := { name := "slotOrders", fn := fun _ => fun
  | [d1, d2, d3] => { results := [.lit (.bool true)], args := [d1, d2, d3] }
  | _ => none }
def slotOrdersRow : OpenClaim := { program := "ytjpmpdckkdhidaadoor", sum := "5a63777de3734e4a1df556013e3cbbd6dec12f9bcd03a89f975c689d4b80702a", func := "manciple/manciplelaw04.SlotOrders", spec := "slotOrders", recurses := true, named := ["manciple/slot.table"], apart := false, laid := [("manciple/slot.table", laid_manciple_slot_table)] }
def SlotOrdersSaid : Prop := slotOrdersRow.holds Tryd.pinned (OpenSpec.ofChange slotOrdersSpec)

/-- ITS FALSE NEIGHBOUR: 'it returns false'. Refute it at one input. -/
def slotOrdersWrong : ChangeSpec := { name := "slotOrders", fn := fun _ => fun
  | [d1, d2, d3] => { results := [.lit (.bool false)], args := [d1, d2, d3] }
  | _ => none }
def SlotOrdersWrongFalsely : Prop := slotOrdersRow.holds Tryd.pinned (OpenSpec.ofChange slotOrdersWrong)

/-- 'manciplelaw04.SlotTexts': WHATEVER THE INPUT: true; the input reads as it did. -/
def slotTextsSpec : ChangeSpec := { name := "slotTexts", fn := fun _ => fun
  | [d1, d2] => { results := [.lit (.bool true)], args := [d1, d2] }
  | _ => none }
def slotTextsRow : OpenClaim := { program := "ytjpmpdckkdhidaadoor", sum := "5a63777de3734e4a1df556013e3cbbd6dec12f9bcd03a89f975c689d4b80702a", func := "manciple/manciplelaw04.SlotTexts", spec := "slotTexts", inPlace := ["internal/bytealg.IndexByteString", "internal/bytealg.IndexString"], recurses := true, named := ["internal/bytealg.MaxLen", "manciple/slot.table"], apart := false, laid := [("manciple/slot.table", laid_manciple_slot_table)] }
def SlotTextsSaid : Prop := slotTextsRow.holds Tryd.pinned (OpenSpec.ofChange slotTextsSpec)

/-- ITS FALSE NEIGHBOUR: 'it returns false'. Refute it at one input. -/
def slotTextsWrong : ChangeSpec := { name := "slotTexts", fn := fun _ => fun
  | [d1, d2] => { results := [.lit (.bool false)], args := [d1, d2] }
  | _ => none }
def SlotTextsWrongFalsely : Prop := slotTextsRow.holds Tryd.pinned (OpenSpec.ofChange slotTextsWrong)

/- THE SECOND FORM. 'bulk': how many values and letters a reading holds, each counted each time it is reached (what is shared counts as often as it is met; a slice's spare places count too). A statement '..UptoSaid' is the law's where the arguments, and the package variables that the reading takes, are together of bulk at most 1048576: NARROWER than '..Said'. Prove '..Said' where nothing that the law and all that it calls make is longer than what came in: it says more and counts as full. Else prove '..UptoSaid'. A law counts once. -/
mutual
def uptoBulk {H : Type} : DataW H → Nat
  | .lit (.string bytes) => bytes.length + 1
  | .lit _ => 1
  | .nil => 1
  | .ptr d => uptoBulk d + 1
  | .slice elems spare => uptoBulkAll elems + uptoBulkAll spare + 1
  | .agg parts => uptoBulkAll parts + 1
  | .iface _ d => uptoBulk d + 1
  | .map entries => uptoBulkEntries entries + 1
  | .held _ => 1
def uptoBulkAll {H : Type} : List (DataW H) → Nat
  | [] => 0
  | d :: r => uptoBulk d + uptoBulkAll r
def uptoBulkEntries {H : Type} : List (Lit × DataW H) → Nat
  | [] => 0
  | x :: r => uptoBulkEntry x + uptoBulkEntries r
def uptoBulkEntry {H : Type} : Lit × DataW H → Nat
  | (.string bytes, d) => bytes.length + uptoBulk d + 1
  | (_, d) => uptoBulk d + 1
 end
def uptoSmall : (H : Type) → List (DataW H) → Bool := fun _ ds => decide (uptoBulkAll ds ≤ 1048576)
def OpenSpec.upto (s : _root_.Go.ChangeSpec) : _root_.Go.OpenSpec := { _root_.Go.OpenSpec.ofChange s with cond := some uptoSmall }

/-- 'manciplelaw04.SlotPacks', WHERE WHAT IT READS IS OF BULK AT MOST 1048576: true; the input reads as it did. -/
def slotPacksUptoRow : OpenClaim := { program := "ytjpmpdckkdhidaadoor", sum := "5a63777de3734e4a1df556013e3cbbd6dec12f9bcd03a89f975c689d4b80702a", func := "manciple/manciplelaw04.SlotPacks", spec := "slotPacks", recurses := true, named := ["manciple/slot.table"], apart := false, laid := [("manciple/slot.table", laid_manciple_slot_table)], narrowed := true }
def SlotPacksUptoSaid : Prop := slotPacksUptoRow.holds Tryd.pinned (OpenSpec.upto slotPacksSpec)

/-- 'manciplelaw04.SlotOrders', WHERE WHAT IT READS IS OF BULK AT MOST 1048576: true; the input reads as it did. -/
def slotOrdersUptoRow : OpenClaim := { program := "ytjpmpdckkdhidaadoor", sum := "5a63777de3734e4a1df556013e3cbbd6dec12f9bcd03a89f975c689d4b80702a", func := "manciple/manciplelaw04.SlotOrders", spec := "slotOrders", recurses := true, named := ["manciple/slot.table"], apart := false, laid := [("manciple/slot.table", laid_manciple_slot_table)], narrowed := true }
def SlotOrdersUptoSaid : Prop := slotOrdersUptoRow.holds Tryd.pinned (OpenSpec.upto slotOrdersSpec)

/-- 'manciplelaw04.SlotTexts', WHERE WHAT IT READS IS OF BULK AT MOST 1048576: true; the input reads as it did. -/
def slotTextsUptoRow : OpenClaim := { program := "ytjpmpdckkdhidaadoor", sum := "5a63777de3734e4a1df556013e3cbbd6dec12f9bcd03a89f975c689d4b80702a", func := "manciple/manciplelaw04.SlotTexts", spec := "slotTexts", inPlace := ["internal/bytealg.IndexByteString", "internal/bytealg.IndexString"], recurses := true, named := ["internal/bytealg.MaxLen", "manciple/slot.table"], apart := false, laid := [("manciple/slot.table", laid_manciple_slot_table)], narrowed := true }
def SlotTextsUptoSaid : Prop := slotTextsUptoRow.holds Tryd.pinned (OpenSpec.upto slotTextsSpec)

end Rows
end Go.Proofs.YtjpmpdckkdhidaaDoor
