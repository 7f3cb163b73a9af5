/-
  NARROWER THAN 'FOR EVERY INPUT', by the rows' own cells (each row's printed sentence says how): VecOrder: laid · VecOf: laid · VecMoves: laid · VecSums: laid · VecBack: laid · VecTexts: laid.
  DERIVED. THE GIVEN ROWS OF THIS SEAT. 6 by the template 'for every input the law returns true; each argument reads behind the call as it read before'; 0 by the template 'total and deterministic' (their statements: YtjlgcdgdboiejaaDoorTotals.lean).
  GIVEN WITH THE SEED: the statements are not yours to turn. If you find one false, say at which input.
  Laid BY PROGRAM, IN A SANDBOX (cutbox-rows.mjs): the forced cells as the released guide's own fill.sh prints them over the translation 6fceac77c2083a20… (all of the seat's roots in one cut). By AI agents, Wed Nov 11 2026. No macro, syntax, notation, axiom, sorry.
-/
import Derived.Test.YtjlgcdgdboiejaaDoorChecked
import GoSem.PinnedTables
import GoSem.Claim
import GoSem.ClaimJoined
import GoSem.ClaimMapViews
import Derived.JoinedTies
import Derived.KernelRfl
namespace Go.Proofs.YtjlgcdgdboiejaaDoor
/- THE CELL 'sum', in the pinned program and in every row, IS THE sha256 OF THE DUMP (.gsa) THAT YtjlgcdgdboiejaaDoorProg.lean LOADS. Nothing in Lean hashes anything: it is a label: what it is worth is what the hold of that sum in a sandbox is worth. -/
noncomputable def Tryd.pinned : Pinned := { name := "ytjlgcdgdboiejaadoor", sum := "6fceac77c2083a209546ea19f078e296d98c8bd64e638153ffd8b4180ed8c656", checked := Tryd.checked }
namespace Rows
def none {H : Type} : Left H := { results := [], args := [] }

/- WHAT THE LISTED PACKAGE-LEVEL VARIABLES READ AS WHEN THE CALL BEGINS. Each datum BY PROGRAM (the guide's laid-datum.mjs) off the statement by which the dump's own 'gosem.cut.vars' lays the variable. In a bare row this is a premise. The card (YtjlgcdgdboiejaaDoorCards.lean) ties it to the program's text. -/
def laid_manciple_slot_table {H : Type} : DataW H := .agg [.lit (.string [99, 112, 117, 115]), .lit (.string [109, 101, 109]), .lit (.string [100, 105, 115, 107]), .lit (.string [103, 112, 117, 115])]
def laid_unicode_utf8_acceptRanges {H : Type} : DataW H := .agg [.agg [.lit (.int .u8 128), .lit (.int .u8 191)], .agg [.lit (.int .u8 160), .lit (.int .u8 191)], .agg [.lit (.int .u8 128), .lit (.int .u8 159)], .agg [.lit (.int .u8 144), .lit (.int .u8 191)], .agg [.lit (.int .u8 128), .lit (.int .u8 143)], .agg [.lit (.int .u8 0), .lit (.int .u8 0)], .agg [.lit (.int .u8 0), .lit (.int .u8 0)], .agg [.lit (.int .u8 0), .lit (.int .u8 0)], .agg [.lit (.int .u8 0), .lit (.int .u8 0)], .agg [.lit (.int .u8 0), .lit (.int .u8 0)], .agg [.lit (.int .u8 0), .lit (.int .u8 0)], .agg [.lit (.int .u8 0), .lit (.int .u8 0)], .agg [.lit (.int .u8 0), .lit (.int .u8 0)], .agg [.lit (.int .u8 0), .lit (.int .u8 0)], .agg [.lit (.int .u8 0), .lit (.int .u8 0)], .agg [.lit (.int .u8 0), .lit (.int .u8 0)]]
/-- One of Go's own tables, pinned by name: the form's constant. -/
def laid_unicode_utf8_first : DataW Unit := Go.Pinned.utf8First

/-- 'manciplelaw05.VecOrder': WHATEVER THE INPUT: true; the input reads as it did. -/
def vecOrderSpec : ChangeSpec := { name := "vecOrder", fn := fun _ => fun
  | [d1, d2, d3] => { results := [.lit (.bool true)], args := [d1, d2, d3] }
  | _ => none }
def vecOrderRow : OpenClaim := { program := "ytjlgcdgdboiejaadoor", sum := "6fceac77c2083a209546ea19f078e296d98c8bd64e638153ffd8b4180ed8c656", func := "manciple/manciplelaw05.VecOrder", spec := "vecOrder", inPlace := ["internal/abi.NoEscape", "internal/bytealg.MakeNoZero"], unfollowed := true, recurses := true, named := ["manciple/slot.table"], plainKeys := false, apart := false, laid := [("manciple/slot.table", laid_manciple_slot_table)] }
def VecOrderSaid : Prop := vecOrderRow.holds Tryd.pinned (OpenSpec.ofChange vecOrderSpec)

/-- ITS FALSE NEIGHBOUR: 'it returns false'. Refute it at one input. -/
def vecOrderWrong : ChangeSpec := { name := "vecOrder", fn := fun _ => fun
  | [d1, d2, d3] => { results := [.lit (.bool false)], args := [d1, d2, d3] }
  | _ => none }
def VecOrderWrongFalsely : Prop := vecOrderRow.holds Tryd.pinned (OpenSpec.ofChange vecOrderWrong)

/-- 'manciplelaw05.VecOf': WHATEVER THE INPUT: true; the input reads as it did. -/
def vecOfSpec : ChangeSpec := { name := "vecOf", fn := fun _ => fun
  | [d1, d2, d3] => { results := [.lit (.bool true)], args := [d1, d2, d3] }
  | _ => none }
def vecOfRow : OpenClaim := { program := "ytjlgcdgdboiejaadoor", sum := "6fceac77c2083a209546ea19f078e296d98c8bd64e638153ffd8b4180ed8c656", func := "manciple/manciplelaw05.VecOf", spec := "vecOf", inPlace := ["internal/abi.NoEscape", "internal/bytealg.MakeNoZero"], unfollowed := true, recurses := true, named := ["manciple/slot.table"], plainKeys := false, apart := false, laid := [("manciple/slot.table", laid_manciple_slot_table)] }
def VecOfSaid : Prop := vecOfRow.holds Tryd.pinned (OpenSpec.ofChange vecOfSpec)

/-- ITS FALSE NEIGHBOUR: 'it returns false'. Refute it at one input. -/
def vecOfWrong : ChangeSpec := { name := "vecOf", fn := fun _ => fun
  | [d1, d2, d3] => { results := [.lit (.bool false)], args := [d1, d2, d3] }
  | _ => none }
def VecOfWrongFalsely : Prop := vecOfRow.holds Tryd.pinned (OpenSpec.ofChange vecOfWrong)

/-- 'manciplelaw05.VecMoves': WHATEVER THE INPUT: true; the input reads as it did. -/
def vecMovesSpec : ChangeSpec := { name := "vecMoves", fn := fun _ => fun
  | [d1, d2, d3] => { results := [.lit (.bool true)], args := [d1, d2, d3] }
  | _ => none }
def vecMovesRow : OpenClaim := { program := "ytjlgcdgdboiejaadoor", sum := "6fceac77c2083a209546ea19f078e296d98c8bd64e638153ffd8b4180ed8c656", func := "manciple/manciplelaw05.VecMoves", spec := "vecMoves", inPlace := ["internal/abi.NoEscape", "internal/bytealg.MakeNoZero"], unfollowed := true, recurses := true, named := ["manciple/slot.table"], plainKeys := false, apart := false, laid := [("manciple/slot.table", laid_manciple_slot_table)] }
def VecMovesSaid : Prop := vecMovesRow.holds Tryd.pinned (OpenSpec.ofChange vecMovesSpec)

/-- ITS FALSE NEIGHBOUR: 'it returns false'. Refute it at one input. -/
def vecMovesWrong : ChangeSpec := { name := "vecMoves", fn := fun _ => fun
  | [d1, d2, d3] => { results := [.lit (.bool false)], args := [d1, d2, d3] }
  | _ => none }
def VecMovesWrongFalsely : Prop := vecMovesRow.holds Tryd.pinned (OpenSpec.ofChange vecMovesWrong)

/-- 'manciplelaw05.VecSums': WHATEVER THE INPUT: true; the input reads as it did. -/
def vecSumsSpec : ChangeSpec := { name := "vecSums", fn := fun _ => fun
  | [d1, d2] => { results := [.lit (.bool true)], args := [d1, d2] }
  | _ => none }
def vecSumsRow : OpenClaim := { program := "ytjlgcdgdboiejaadoor", sum := "6fceac77c2083a209546ea19f078e296d98c8bd64e638153ffd8b4180ed8c656", func := "manciple/manciplelaw05.VecSums", spec := "vecSums", inPlace := ["internal/abi.NoEscape", "internal/bytealg.MakeNoZero"], unfollowed := true, recurses := true, named := ["manciple/slot.table"], plainKeys := false, apart := false, laid := [("manciple/slot.table", laid_manciple_slot_table)] }
def VecSumsSaid : Prop := vecSumsRow.holds Tryd.pinned (OpenSpec.ofChange vecSumsSpec)

/-- ITS FALSE NEIGHBOUR: 'it returns false'. Refute it at one input. -/
def vecSumsWrong : ChangeSpec := { name := "vecSums", fn := fun _ => fun
  | [d1, d2] => { results := [.lit (.bool false)], args := [d1, d2] }
  | _ => none }
def VecSumsWrongFalsely : Prop := vecSumsRow.holds Tryd.pinned (OpenSpec.ofChange vecSumsWrong)

/-- 'manciplelaw05.VecBack': WHATEVER THE INPUT: true; the input reads as it did. -/
def vecBackSpec : ChangeSpec := { name := "vecBack", fn := fun _ => fun
  | [d1, d2] => { results := [.lit (.bool true)], args := [d1, d2] }
  | _ => none }
def vecBackRow : OpenClaim := { program := "ytjlgcdgdboiejaadoor", sum := "6fceac77c2083a209546ea19f078e296d98c8bd64e638153ffd8b4180ed8c656", func := "manciple/manciplelaw05.VecBack", spec := "vecBack", inPlace := ["internal/abi.NoEscape", "internal/bytealg.MakeNoZero"], unfollowed := true, recurses := true, named := ["manciple/slot.table"], plainKeys := false, apart := false, laid := [("manciple/slot.table", laid_manciple_slot_table)] }
def VecBackSaid : Prop := vecBackRow.holds Tryd.pinned (OpenSpec.ofChange vecBackSpec)

/-- ITS FALSE NEIGHBOUR: 'it returns false'. Refute it at one input. -/
def vecBackWrong : ChangeSpec := { name := "vecBack", fn := fun _ => fun
  | [d1, d2] => { results := [.lit (.bool false)], args := [d1, d2] }
  | _ => none }
def VecBackWrongFalsely : Prop := vecBackRow.holds Tryd.pinned (OpenSpec.ofChange vecBackWrong)

/-- 'manciplelaw05.VecTexts': WHATEVER THE INPUT: true; the input reads as it did. -/
def vecTextsSpec : ChangeSpec := { name := "vecTexts", fn := fun _ => fun
  | [d1, d2] => { results := [.lit (.bool true)], args := [d1, d2] }
  | _ => none }
def vecTextsRow : OpenClaim := { program := "ytjlgcdgdboiejaadoor", sum := "6fceac77c2083a209546ea19f078e296d98c8bd64e638153ffd8b4180ed8c656", func := "manciple/manciplelaw05.VecTexts", spec := "vecTexts", inPlace := ["internal/abi.NoEscape", "internal/bytealg.MakeNoZero", "internal/bytealg.CountString", "internal/bytealg.IndexByteString", "internal/bytealg.IndexString"], unfollowed := true, recurses := true, named := ["manciple/slot.table", "unicode/utf8.first", "unicode/utf8.acceptRanges", "internal/bytealg.MaxLen"], plainKeys := false, apart := false, laid := [("unicode/utf8.acceptRanges", laid_unicode_utf8_acceptRanges), ("manciple/slot.table", laid_manciple_slot_table), ("unicode/utf8.first", laid_unicode_utf8_first)] }
def VecTextsSaid : Prop := vecTextsRow.holds Tryd.pinned (OpenSpec.ofChange vecTextsSpec)

/-- ITS FALSE NEIGHBOUR: 'it returns false'. Refute it at one input. -/
def vecTextsWrong : ChangeSpec := { name := "vecTexts", fn := fun _ => fun
  | [d1, d2] => { results := [.lit (.bool false)], args := [d1, d2] }
  | _ => none }
def VecTextsWrongFalsely : Prop := vecTextsRow.holds Tryd.pinned (OpenSpec.ofChange vecTextsWrong)

/- THE SECOND FORM. 'bulk': how many values and letters a reading holds, each counted each time it is reached (what is shared counts as often as it is met; a slice's spare places count too). A statement '..UptoSaid' is the law's where the arguments, and the package variables that the reading takes, are together of bulk at most 1048576: NARROWER than '..Said'. Prove '..Said' where nothing that the law and all that it calls make is longer than what came in: it says more and counts as full. Else prove '..UptoSaid'. A law counts once. -/
mutual
def uptoBulk {H : Type} : DataW H → Nat
  | .lit (.string bytes) => bytes.length + 1
  | .lit _ => 1
  | .nil => 1
  | .ptr d => uptoBulk d + 1
  | .slice elems spare => uptoBulkAll elems + uptoBulkAll spare + 1
  | .agg parts => uptoBulkAll parts + 1
  | .iface _ d => uptoBulk d + 1
  | .map entries => uptoBulkEntries entries + 1
  | .held _ => 1
def uptoBulkAll {H : Type} : List (DataW H) → Nat
  | [] => 0
  | d :: r => uptoBulk d + uptoBulkAll r
def uptoBulkEntries {H : Type} : List (Lit × DataW H) → Nat
  | [] => 0
  | x :: r => uptoBulkEntry x + uptoBulkEntries r
def uptoBulkEntry {H : Type} : Lit × DataW H → Nat
  | (.string bytes, d) => bytes.length + uptoBulk d + 1
  | (_, d) => uptoBulk d + 1
 end
def uptoSmall : (H : Type) → List (DataW H) → Bool := fun _ ds => decide (uptoBulkAll ds ≤ 1048576)
def OpenSpec.upto (s : _root_.Go.ChangeSpec) : _root_.Go.OpenSpec := { _root_.Go.OpenSpec.ofChange s with cond := some uptoSmall }

/-- 'manciplelaw05.VecOrder', WHERE WHAT IT READS IS OF BULK AT MOST 1048576: true; the input reads as it did. -/
def vecOrderUptoRow : OpenClaim := { program := "ytjlgcdgdboiejaadoor", sum := "6fceac77c2083a209546ea19f078e296d98c8bd64e638153ffd8b4180ed8c656", func := "manciple/manciplelaw05.VecOrder", spec := "vecOrder", inPlace := ["internal/abi.NoEscape", "internal/bytealg.MakeNoZero"], unfollowed := true, recurses := true, named := ["manciple/slot.table"], plainKeys := false, apart := false, laid := [("manciple/slot.table", laid_manciple_slot_table)], narrowed := true }
def VecOrderUptoSaid : Prop := vecOrderUptoRow.holds Tryd.pinned (OpenSpec.upto vecOrderSpec)

/-- 'manciplelaw05.VecOf', WHERE WHAT IT READS IS OF BULK AT MOST 1048576: true; the input reads as it did. -/
def vecOfUptoRow : OpenClaim := { program := "ytjlgcdgdboiejaadoor", sum := "6fceac77c2083a209546ea19f078e296d98c8bd64e638153ffd8b4180ed8c656", func := "manciple/manciplelaw05.VecOf", spec := "vecOf", inPlace := ["internal/abi.NoEscape", "internal/bytealg.MakeNoZero"], unfollowed := true, recurses := true, named := ["manciple/slot.table"], plainKeys := false, apart := false, laid := [("manciple/slot.table", laid_manciple_slot_table)], narrowed := true }
def VecOfUptoSaid : Prop := vecOfUptoRow.holds Tryd.pinned (OpenSpec.upto vecOfSpec)

/-- 'manciplelaw05.VecMoves', WHERE WHAT IT READS IS OF BULK AT MOST 1048576: true; the input reads as it did. -/
def vecMovesUptoRow : OpenClaim := { program := "ytjlgcdgdboiejaadoor", sum := "6fceac77c2083a209546ea19f078e296d98c8bd64e638153ffd8b4180ed8c656", func := "manciple/manciplelaw05.VecMoves", spec := "vecMoves", inPlace := ["internal/abi.NoEscape", "internal/bytealg.MakeNoZero"], unfollowed := true, recurses := true, named := ["manciple/slot.table"], plainKeys := false, apart := false, laid := [("manciple/slot.table", laid_manciple_slot_table)], narrowed := true }
def VecMovesUptoSaid : Prop := vecMovesUptoRow.holds Tryd.pinned (OpenSpec.upto vecMovesSpec)

/-- 'manciplelaw05.VecSums', WHERE WHAT IT READS IS OF BULK AT MOST 1048576: true; the input reads as it did. -/
def vecSumsUptoRow : OpenClaim := { program := "ytjlgcdgdboiejaadoor", sum := "6fceac77c2083a209546ea19f078e296d98c8bd64e638153ffd8b4180ed8c656", func := "manciple/manciplelaw05.VecSums", spec := "vecSums", inPlace := ["internal/abi.NoEscape", "internal/bytealg.MakeNoZero"], unfollowed := true, recurses := true, named := ["manciple/slot.table"], plainKeys := false, apart := false, laid := [("manciple/slot.table", laid_manciple_slot_table)], narrowed := true }
def VecSumsUptoSaid : Prop := vecSumsUptoRow.holds Tryd.pinned (OpenSpec.upto vecSumsSpec)

/-- 'manciplelaw05.VecBack', WHERE WHAT IT READS IS OF BULK AT MOST 1048576: true; the input reads as it did. -/
def vecBackUptoRow : OpenClaim := { program := "ytjlgcdgdboiejaadoor", sum := "6fceac77c2083a209546ea19f078e296d98c8bd64e638153ffd8b4180ed8c656", func := "manciple/manciplelaw05.VecBack", spec := "vecBack", inPlace := ["internal/abi.NoEscape", "internal/bytealg.MakeNoZero"], unfollowed := true, recurses := true, named := ["manciple/slot.table"], plainKeys := false, apart := false, laid := [("manciple/slot.table", laid_manciple_slot_table)], narrowed := true }
def VecBackUptoSaid : Prop := vecBackUptoRow.holds Tryd.pinned (OpenSpec.upto vecBackSpec)

/-- 'manciplelaw05.VecTexts', WHERE WHAT IT READS IS OF BULK AT MOST 1048576: true; the input reads as it did. -/
def vecTextsUptoRow : OpenClaim := { program := "ytjlgcdgdboiejaadoor", sum := "6fceac77c2083a209546ea19f078e296d98c8bd64e638153ffd8b4180ed8c656", func := "manciple/manciplelaw05.VecTexts", spec := "vecTexts", inPlace := ["internal/abi.NoEscape", "internal/bytealg.MakeNoZero", "internal/bytealg.CountString", "internal/bytealg.IndexByteString", "internal/bytealg.IndexString"], unfollowed := true, recurses := true, named := ["manciple/slot.table", "unicode/utf8.first", "unicode/utf8.acceptRanges", "internal/bytealg.MaxLen"], plainKeys := false, apart := false, laid := [("unicode/utf8.acceptRanges", laid_unicode_utf8_acceptRanges), ("manciple/slot.table", laid_manciple_slot_table), ("unicode/utf8.first", laid_unicode_utf8_first)], narrowed := true }
def VecTextsUptoSaid : Prop := vecTextsUptoRow.holds Tryd.pinned (OpenSpec.upto vecTextsSpec)

end Rows
end Go.Proofs.YtjlgcdgdboiejaaDoor
