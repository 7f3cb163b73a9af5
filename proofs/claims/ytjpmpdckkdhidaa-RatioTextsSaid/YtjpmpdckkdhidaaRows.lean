/-
  No cell of these rows narrows 'for every input' (looked for: loops, veiled, ifaces, maps, wideKeys, modest, calm, conditions, laid).
  DERIVED. THE GIVEN ROWS OF THIS SEAT. 7 by the template 'for every input the law returns true; each argument reads behind the call as it read before'; 0 by the template 'total and deterministic' (their statements: YtjpmpdckkdhidaaTotals.lean).
  GIVEN WITH THE SEED: the statements are not yours to turn. If you find one false, say at which input.
  Laid BY PROGRAM, IN A SANDBOX (cutbox-rows.mjs): the forced cells as the released guide's own fill.sh prints them over the translation 4e6931f6d2018760… (all of the seat's roots in one cut). By AI agents, Wed Nov 11 2026. No macro, syntax, notation, axiom, sorry.
-/
import Derived.Test.YtjpmpdckkdhidaaChecked
import GoSem.Claim
import GoSem.ClaimJoined
import GoSem.ClaimMapViews
import Derived.JoinedTies
import Derived.KernelRfl
namespace Go.Proofs.Ytjpmpdckkdhidaa
/- THE CELL 'sum', in the pinned program and in every row, IS THE sha256 OF THE DUMP (.gsa) THAT YtjpmpdckkdhidaaProg.lean LOADS. Nothing in Lean hashes anything: it is a label: what it is worth is what the hold of that sum in a sandbox is worth. -/
noncomputable def Try.pinned : Pinned := { name := "ytjpmpdckkdhidaa", sum := "4e6931f6d201876051a9e5b736c89c28f19a3167c712428a5d0e597931ee3241", checked := Try.checked }
namespace Rows
def none {H : Type} : Left H := { results := [], args := [] }

/-- 'manciplelaw02.RatioCmp': WHATEVER THE INPUT: true; the input reads as it did. -/
def ratioCmpSpec : ChangeSpec := { name := "ratioCmp", fn := fun _ => fun
  | [d1, d2, d3] => { results := [.lit (.bool true)], args := [d1, d2, d3] }
  | _ => none }
def ratioCmpRow : OpenClaim := { program := "ytjpmpdckkdhidaa", sum := "4e6931f6d201876051a9e5b736c89c28f19a3167c712428a5d0e597931ee3241", func := "manciple/manciplelaw02.RatioCmp", spec := "ratioCmp", apart := false }
def RatioCmpSaid : Prop := ratioCmpRow.holds Try.pinned (OpenSpec.ofChange ratioCmpSpec)

/-- ITS FALSE NEIGHBOUR: 'it returns false'. Refute it at one input. -/
def ratioCmpWrong : ChangeSpec := { name := "ratioCmp", fn := fun _ => fun
  | [d1, d2, d3] => { results := [.lit (.bool false)], args := [d1, d2, d3] }
  | _ => none }
def RatioCmpWrongFalsely : Prop := ratioCmpRow.holds Try.pinned (OpenSpec.ofChange ratioCmpWrong)

/-- 'manciplelaw02.RatioOrders': WHATEVER THE INPUT: true; the input reads as it did. -/
def ratioOrdersSpec : ChangeSpec := { name := "ratioOrders", fn := fun _ => fun
  | [d1, d2, d3] => { results := [.lit (.bool true)], args := [d1, d2, d3] }
  | _ => none }
def ratioOrdersRow : OpenClaim := { program := "ytjpmpdckkdhidaa", sum := "4e6931f6d201876051a9e5b736c89c28f19a3167c712428a5d0e597931ee3241", func := "manciple/manciplelaw02.RatioOrders", spec := "ratioOrders", apart := false }
def RatioOrdersSaid : Prop := ratioOrdersRow.holds Try.pinned (OpenSpec.ofChange ratioOrdersSpec)

/-- ITS FALSE NEIGHBOUR: 'it returns false'. Refute it at one input. -/
def ratioOrdersWrong : ChangeSpec := { name := "ratioOrders", fn := fun _ => fun
  | [d1, d2, d3] => { results := [.lit (.bool false)], args := [d1, d2, d3] }
  | _ => none }
def RatioOrdersWrongFalsely : Prop := ratioOrdersRow.holds Try.pinned (OpenSpec.ofChange ratioOrdersWrong)

/-- 'manciplelaw02.RatioLow': WHATEVER THE INPUT: true; the input reads as it did. -/
def ratioLowSpec : ChangeSpec := { name := "ratioLow", fn := fun _ => fun
  | [d1, d2] => { results := [.lit (.bool true)], args := [d1, d2] }
  | _ => none }
def ratioLowRow : OpenClaim := { program := "ytjpmpdckkdhidaa", sum := "4e6931f6d201876051a9e5b736c89c28f19a3167c712428a5d0e597931ee3241", func := "manciple/manciplelaw02.RatioLow", spec := "ratioLow", apart := false }
def RatioLowSaid : Prop := ratioLowRow.holds Try.pinned (OpenSpec.ofChange ratioLowSpec)

/-- ITS FALSE NEIGHBOUR: 'it returns false'. Refute it at one input. -/
def ratioLowWrong : ChangeSpec := { name := "ratioLow", fn := fun _ => fun
  | [d1, d2] => { results := [.lit (.bool false)], args := [d1, d2] }
  | _ => none }
def RatioLowWrongFalsely : Prop := ratioLowRow.holds Try.pinned (OpenSpec.ofChange ratioLowWrong)

/-- 'manciplelaw03.QuantSums': WHATEVER THE INPUT: true; the input reads as it did. -/
def quantSumsSpec : ChangeSpec := { name := "quantSums", fn := fun _ => fun
  | [d1, d2, d3] => { results := [.lit (.bool true)], args := [d1, d2, d3] }
  | _ => none }
def quantSumsRow : OpenClaim := { program := "ytjpmpdckkdhidaa", sum := "4e6931f6d201876051a9e5b736c89c28f19a3167c712428a5d0e597931ee3241", func := "manciple/manciplelaw03.QuantSums", spec := "quantSums", recurses := true, apart := false }
def QuantSumsSaid : Prop := quantSumsRow.holds Try.pinned (OpenSpec.ofChange quantSumsSpec)

/-- ITS FALSE NEIGHBOUR: 'it returns false'. Refute it at one input. -/
def quantSumsWrong : ChangeSpec := { name := "quantSums", fn := fun _ => fun
  | [d1, d2, d3] => { results := [.lit (.bool false)], args := [d1, d2, d3] }
  | _ => none }
def QuantSumsWrongFalsely : Prop := quantSumsRow.holds Try.pinned (OpenSpec.ofChange quantSumsWrong)

/-- 'manciplelaw03.QuantTexts': WHATEVER THE INPUT: true; the input reads as it did. -/
def quantTextsSpec : ChangeSpec := { name := "quantTexts", fn := fun _ => fun
  | [d1, d2] => { results := [.lit (.bool true)], args := [d1, d2] }
  | _ => none }
def quantTextsRow : OpenClaim := { program := "ytjpmpdckkdhidaa", sum := "4e6931f6d201876051a9e5b736c89c28f19a3167c712428a5d0e597931ee3241", func := "manciple/manciplelaw03.QuantTexts", spec := "quantTexts", recurses := true, apart := false }
def QuantTextsSaid : Prop := quantTextsRow.holds Try.pinned (OpenSpec.ofChange quantTextsSpec)

/-- ITS FALSE NEIGHBOUR: 'it returns false'. Refute it at one input. -/
def quantTextsWrong : ChangeSpec := { name := "quantTexts", fn := fun _ => fun
  | [d1, d2] => { results := [.lit (.bool false)], args := [d1, d2] }
  | _ => none }
def QuantTextsWrongFalsely : Prop := quantTextsRow.holds Try.pinned (OpenSpec.ofChange quantTextsWrong)

/-- 'manciplelaw03.QuantBack': WHATEVER THE INPUT: true; the input reads as it did. -/
def quantBackSpec : ChangeSpec := { name := "quantBack", fn := fun _ => fun
  | [d1, d2, d3] => { results := [.lit (.bool true)], args := [d1, d2, d3] }
  | _ => none }
def quantBackRow : OpenClaim := { program := "ytjpmpdckkdhidaa", sum := "4e6931f6d201876051a9e5b736c89c28f19a3167c712428a5d0e597931ee3241", func := "manciple/manciplelaw03.QuantBack", spec := "quantBack", recurses := true, apart := false }
def QuantBackSaid : Prop := quantBackRow.holds Try.pinned (OpenSpec.ofChange quantBackSpec)

/-- ITS FALSE NEIGHBOUR: 'it returns false'. Refute it at one input. -/
def quantBackWrong : ChangeSpec := { name := "quantBack", fn := fun _ => fun
  | [d1, d2, d3] => { results := [.lit (.bool false)], args := [d1, d2, d3] }
  | _ => none }
def QuantBackWrongFalsely : Prop := quantBackRow.holds Try.pinned (OpenSpec.ofChange quantBackWrong)

/-- 'manciplelaw02.RatioTexts': WHATEVER THE INPUT: true; the input reads as it did. -/
def ratioTextsSpec : ChangeSpec := { name := "ratioTexts", fn := fun _ => fun
  | [d1, d2] => { results := [.lit (.bool true)], args := [d1, d2] }
  | _ => none }
def ratioTextsRow : OpenClaim := { program := "ytjpmpdckkdhidaa", sum := "4e6931f6d201876051a9e5b736c89c28f19a3167c712428a5d0e597931ee3241", func := "manciple/manciplelaw02.RatioTexts", spec := "ratioTexts", apart := false }
def RatioTextsSaid : Prop := ratioTextsRow.holds Try.pinned (OpenSpec.ofChange ratioTextsSpec)

/-- ITS FALSE NEIGHBOUR: 'it returns false'. Refute it at one input. -/
def ratioTextsWrong : ChangeSpec := { name := "ratioTexts", fn := fun _ => fun
  | [d1, d2] => { results := [.lit (.bool false)], args := [d1, d2] }
  | _ => none }
def RatioTextsWrongFalsely : Prop := ratioTextsRow.holds Try.pinned (OpenSpec.ofChange ratioTextsWrong)

/- THE SECOND FORM. 'bulk': how many values and letters a reading holds, each counted each time it is reached (what is shared counts as often as it is met; a slice's spare places count too). A statement '..UptoSaid' is the law's where the arguments, and the package variables that the reading takes, are together of bulk at most 1048576: NARROWER than '..Said'. Prove '..Said' where nothing that the law and all that it calls make is longer than what came in: it says more and counts as full. Else prove '..UptoSaid'. A law counts once. -/
mutual
def uptoBulk {H : Type} : DataW H → Nat
  | .lit (.string bytes) => bytes.length + 1
  | .lit _ => 1
  | .nil => 1
  | .ptr d => uptoBulk d + 1
  | .slice elems spare => uptoBulkAll elems + uptoBulkAll spare + 1
  | .agg parts => uptoBulkAll parts + 1
  | .iface _ d => uptoBulk d + 1
  | .map entries => uptoBulkEntries entries + 1
  | .held _ => 1
def uptoBulkAll {H : Type} : List (DataW H) → Nat
  | [] => 0
  | d :: r => uptoBulk d + uptoBulkAll r
def uptoBulkEntries {H : Type} : List (Lit × DataW H) → Nat
  | [] => 0
  | x :: r => uptoBulkEntry x + uptoBulkEntries r
def uptoBulkEntry {H : Type} : Lit × DataW H → Nat
  | (.string bytes, d) => bytes.length + uptoBulk d + 1
  | (_, d) => uptoBulk d + 1
 end
def uptoSmall : (H : Type) → List (DataW H) → Bool := fun _ ds => decide (uptoBulkAll ds ≤ 1048576)
def OpenSpec.upto (s : _root_.Go.ChangeSpec) : _root_.Go.OpenSpec := { _root_.Go.OpenSpec.ofChange s with cond := some uptoSmall }

/-- 'manciplelaw02.RatioCmp', WHERE WHAT IT READS IS OF BULK AT MOST 1048576: true; the input reads as it did. -/
def ratioCmpUptoRow : OpenClaim := { program := "ytjpmpdckkdhidaa", sum := "4e6931f6d201876051a9e5b736c89c28f19a3167c712428a5d0e597931ee3241", func := "manciple/manciplelaw02.RatioCmp", spec := "ratioCmp", apart := false, narrowed := true }
def RatioCmpUptoSaid : Prop := ratioCmpUptoRow.holds Try.pinned (OpenSpec.upto ratioCmpSpec)

/-- 'manciplelaw02.RatioOrders', WHERE WHAT IT READS IS OF BULK AT MOST 1048576: true; the input reads as it did. -/
def ratioOrdersUptoRow : OpenClaim := { program := "ytjpmpdckkdhidaa", sum := "4e6931f6d201876051a9e5b736c89c28f19a3167c712428a5d0e597931ee3241", func := "manciple/manciplelaw02.RatioOrders", spec := "ratioOrders", apart := false, narrowed := true }
def RatioOrdersUptoSaid : Prop := ratioOrdersUptoRow.holds Try.pinned (OpenSpec.upto ratioOrdersSpec)

/-- 'manciplelaw02.RatioLow', WHERE WHAT IT READS IS OF BULK AT MOST 1048576: true; the input reads as it did. -/
def ratioLowUptoRow : OpenClaim := { program := "ytjpmpdckkdhidaa", sum := "4e6931f6d201876051a9e5b736c89c28f19a3167c712428a5d0e597931ee3241", func := "manciple/manciplelaw02.RatioLow", spec := "ratioLow", apart := false, narrowed := true }
def RatioLowUptoSaid : Prop := ratioLowUptoRow.holds Try.pinned (OpenSpec.upto ratioLowSpec)

/-- 'manciplelaw03.QuantSums', WHERE WHAT IT READS IS OF BULK AT MOST 1048576: true; the input reads as it did. -/
def quantSumsUptoRow : OpenClaim := { program := "ytjpmpdckkdhidaa", sum := "4e6931f6d201876051a9e5b736c89c28f19a3167c712428a5d0e597931ee3241", func := "manciple/manciplelaw03.QuantSums", spec := "quantSums", recurses := true, apart := false, narrowed := true }
def QuantSumsUptoSaid : Prop := quantSumsUptoRow.holds Try.pinned (OpenSpec.upto quantSumsSpec)

/-- 'manciplelaw03.QuantTexts', WHERE WHAT IT READS IS OF BULK AT MOST 1048576: true; the input reads as it did. -/
def quantTextsUptoRow : OpenClaim := { program := "ytjpmpdckkdhidaa", sum := "4e6931f6d201876051a9e5b736c89c28f19a3167c712428a5d0e597931ee3241", func := "manciple/manciplelaw03.QuantTexts", spec := "quantTexts", recurses := true, apart := false, narrowed := true }
def QuantTextsUptoSaid : Prop := quantTextsUptoRow.holds Try.pinned (OpenSpec.upto quantTextsSpec)

/-- 'manciplelaw03.QuantBack', WHERE WHAT IT READS IS OF BULK AT MOST 1048576: true; the input reads as it did. -/
def quantBackUptoRow : OpenClaim := { program := "ytjpmpdckkdhidaa", sum := "4e6931f6d201876051a9e5b736c89c28f19a3167c712428a5d0e597931ee3241", func := "manciple/manciplelaw03.QuantBack", spec := "quantBack", recurses := true, apart := false, narrowed := true }
def QuantBackUptoSaid : Prop := quantBackUptoRow.holds Try.pinned (OpenSpec.upto quantBackSpec)

/-- 'manciplelaw02.RatioTexts', WHERE WHAT IT READS IS OF BULK AT MOST 1048576: true; the input reads as it did. -/
def ratioTextsUptoRow : OpenClaim := { program := "ytjpmpdckkdhidaa", sum := "4e6931f6d201876051a9e5b736c89c28f19a3167c712428a5d0e597931ee3241", func := "manciple/manciplelaw02.RatioTexts", spec := "ratioTexts", apart := false, narrowed := true }
def RatioTextsUptoSaid : Prop := ratioTextsUptoRow.holds Try.pinned (OpenSpec.upto ratioTextsSpec)

end Rows
end Go.Proofs.Ytjpmpdckkdhidaa
