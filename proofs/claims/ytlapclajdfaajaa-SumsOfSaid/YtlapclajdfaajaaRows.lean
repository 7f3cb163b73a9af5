/-
  No cell of these rows narrows 'for every input' (looked for: loops, veiled, ifaces, maps, wideKeys, modest, calm, conditions, laid).
  DERIVED. THE GIVEN ROWS OF THIS SEAT. 8 by the template 'for every input the law returns true; each argument reads behind the call as it read before'; 0 by the template 'total and deterministic' (their statements: YtlapclajdfaajaaTotals.lean).
  GIVEN WITH THE SEED: the statements are not yours to turn. If you find one false, say at which input.
  Laid BY PROGRAM, IN A SANDBOX (cutbox-rows.mjs): the forced cells as the released guide's own fill.sh prints them over the translation 63de836a6c4904d3… (all of the seat's roots in one cut). By AI agents, Wed Nov 11 2026. No macro, syntax, notation, axiom, sorry.
-/
import Derived.Test.YtlapclajdfaajaaChecked
import GoSem.Claim
import GoSem.ClaimJoined
import GoSem.ClaimMapViews
import Derived.JoinedTies
import Derived.KernelRfl
namespace Go.Proofs.Ytlapclajdfaajaa
/- THE CELL 'sum', in the pinned program and in every row, IS THE sha256 OF THE DUMP (.gsa) THAT YtlapclajdfaajaaProg.lean LOADS. Nothing in Lean hashes anything: it is a label: what it is worth is what the hold of that sum in a sandbox is worth. -/
noncomputable def Try.pinned : Pinned := { name := "ytlapclajdfaajaa", sum := "63de836a6c4904d35b70988c8f2263e8a4e7022ab599b445e76cee6dfdd7d259", checked := Try.checked }
namespace Rows
def none {H : Type} : Left H := { results := [], args := [] }

/-- 'manciplelaw07.ShareCmps': WHATEVER THE INPUT: true; the input reads as it did. -/
def shareCmpsSpec : ChangeSpec := { name := "shareCmps", fn := fun _ => fun
  | [d1, d2, d3] => { results := [.lit (.bool true)], args := [d1, d2, d3] }
  | _ => none }
def shareCmpsRow : OpenClaim := { program := "ytlapclajdfaajaa", sum := "63de836a6c4904d35b70988c8f2263e8a4e7022ab599b445e76cee6dfdd7d259", func := "manciple/manciplelaw07.ShareCmps", spec := "shareCmps", recurses := true, apart := false }
def ShareCmpsSaid : Prop := shareCmpsRow.holds Try.pinned (OpenSpec.ofChange shareCmpsSpec)

/-- ITS FALSE NEIGHBOUR: 'it returns false'. Refute it at one input. -/
def shareCmpsWrong : ChangeSpec := { name := "shareCmps", fn := fun _ => fun
  | [d1, d2, d3] => { results := [.lit (.bool false)], args := [d1, d2, d3] }
  | _ => none }
def ShareCmpsWrongFalsely : Prop := shareCmpsRow.holds Try.pinned (OpenSpec.ofChange shareCmpsWrong)

/-- 'manciplelaw07.ShareTexts': WHATEVER THE INPUT: true; the input reads as it did. -/
def shareTextsSpec : ChangeSpec := { name := "shareTexts", fn := fun _ => fun
  | [d1, d2] => { results := [.lit (.bool true)], args := [d1, d2] }
  | _ => none }
def shareTextsRow : OpenClaim := { program := "ytlapclajdfaajaa", sum := "63de836a6c4904d35b70988c8f2263e8a4e7022ab599b445e76cee6dfdd7d259", func := "manciple/manciplelaw07.ShareTexts", spec := "shareTexts", recurses := true, apart := false }
def ShareTextsSaid : Prop := shareTextsRow.holds Try.pinned (OpenSpec.ofChange shareTextsSpec)

/-- ITS FALSE NEIGHBOUR: 'it returns false'. Refute it at one input. -/
def shareTextsWrong : ChangeSpec := { name := "shareTexts", fn := fun _ => fun
  | [d1, d2] => { results := [.lit (.bool false)], args := [d1, d2] }
  | _ => none }
def ShareTextsWrongFalsely : Prop := shareTextsRow.holds Try.pinned (OpenSpec.ofChange shareTextsWrong)

/-- 'manciplelaw07.ShareOrders': WHATEVER THE INPUT: true; the input reads as it did. -/
def shareOrdersSpec : ChangeSpec := { name := "shareOrders", fn := fun _ => fun
  | [d1, d2, d3] => { results := [.lit (.bool true)], args := [d1, d2, d3] }
  | _ => none }
def shareOrdersRow : OpenClaim := { program := "ytlapclajdfaajaa", sum := "63de836a6c4904d35b70988c8f2263e8a4e7022ab599b445e76cee6dfdd7d259", func := "manciple/manciplelaw07.ShareOrders", spec := "shareOrders", recurses := true, apart := false }
def ShareOrdersSaid : Prop := shareOrdersRow.holds Try.pinned (OpenSpec.ofChange shareOrdersSpec)

/-- ITS FALSE NEIGHBOUR: 'it returns false'. Refute it at one input. -/
def shareOrdersWrong : ChangeSpec := { name := "shareOrders", fn := fun _ => fun
  | [d1, d2, d3] => { results := [.lit (.bool false)], args := [d1, d2, d3] }
  | _ => none }
def ShareOrdersWrongFalsely : Prop := shareOrdersRow.holds Try.pinned (OpenSpec.ofChange shareOrdersWrong)

/-- 'manciplelaw07.ShareOf': WHATEVER THE INPUT: true; the input reads as it did. -/
def shareOfSpec : ChangeSpec := { name := "shareOf", fn := fun _ => fun
  | [d1, d2, d3] => { results := [.lit (.bool true)], args := [d1, d2, d3] }
  | _ => none }
def shareOfRow : OpenClaim := { program := "ytlapclajdfaajaa", sum := "63de836a6c4904d35b70988c8f2263e8a4e7022ab599b445e76cee6dfdd7d259", func := "manciple/manciplelaw07.ShareOf", spec := "shareOf", recurses := true, apart := false }
def ShareOfSaid : Prop := shareOfRow.holds Try.pinned (OpenSpec.ofChange shareOfSpec)

/-- ITS FALSE NEIGHBOUR: 'it returns false'. Refute it at one input. -/
def shareOfWrong : ChangeSpec := { name := "shareOf", fn := fun _ => fun
  | [d1, d2, d3] => { results := [.lit (.bool false)], args := [d1, d2, d3] }
  | _ => none }
def ShareOfWrongFalsely : Prop := shareOfRow.holds Try.pinned (OpenSpec.ofChange shareOfWrong)

/-- 'manciplelaw06.SumsDominant': WHATEVER THE INPUT: true; the input reads as it did. -/
def sumsDominantSpec : ChangeSpec := { name := "sumsDominant", fn := fun _ => fun
  | [d1, d2] => { results := [.lit (.bool true)], args := [d1, d2] }
  | _ => none }
def sumsDominantRow : OpenClaim := { program := "ytlapclajdfaajaa", sum := "63de836a6c4904d35b70988c8f2263e8a4e7022ab599b445e76cee6dfdd7d259", func := "manciple/manciplelaw06.SumsDominant", spec := "sumsDominant", apart := false }
def SumsDominantSaid : Prop := sumsDominantRow.holds Try.pinned (OpenSpec.ofChange sumsDominantSpec)

/-- ITS FALSE NEIGHBOUR: 'it returns false'. Refute it at one input. -/
def sumsDominantWrong : ChangeSpec := { name := "sumsDominant", fn := fun _ => fun
  | [d1, d2] => { results := [.lit (.bool false)], args := [d1, d2] }
  | _ => none }
def SumsDominantWrongFalsely : Prop := sumsDominantRow.holds Try.pinned (OpenSpec.ofChange sumsDominantWrong)

/-- 'manciplelaw06.SumsMany': WHATEVER THE INPUT: true; the input reads as it did. -/
def sumsManySpec : ChangeSpec := { name := "sumsMany", fn := fun _ => fun
  | [d1, d2] => { results := [.lit (.bool true)], args := [d1, d2] }
  | _ => none }
def sumsManyRow : OpenClaim := { program := "ytlapclajdfaajaa", sum := "63de836a6c4904d35b70988c8f2263e8a4e7022ab599b445e76cee6dfdd7d259", func := "manciple/manciplelaw06.SumsMany", spec := "sumsMany", apart := false }
def SumsManySaid : Prop := sumsManyRow.holds Try.pinned (OpenSpec.ofChange sumsManySpec)

/-- ITS FALSE NEIGHBOUR: 'it returns false'. Refute it at one input. -/
def sumsManyWrong : ChangeSpec := { name := "sumsMany", fn := fun _ => fun
  | [d1, d2] => { results := [.lit (.bool false)], args := [d1, d2] }
  | _ => none }
def SumsManyWrongFalsely : Prop := sumsManyRow.holds Try.pinned (OpenSpec.ofChange sumsManyWrong)

/-- 'manciplelaw06.SumsReckon': WHATEVER THE INPUT: true; the input reads as it did. -/
def sumsReckonSpec : ChangeSpec := { name := "sumsReckon", fn := fun _ => fun
  | [d1, d2] => { results := [.lit (.bool true)], args := [d1, d2] }
  | _ => none }
def sumsReckonRow : OpenClaim := { program := "ytlapclajdfaajaa", sum := "63de836a6c4904d35b70988c8f2263e8a4e7022ab599b445e76cee6dfdd7d259", func := "manciple/manciplelaw06.SumsReckon", spec := "sumsReckon", apart := false }
def SumsReckonSaid : Prop := sumsReckonRow.holds Try.pinned (OpenSpec.ofChange sumsReckonSpec)

/-- ITS FALSE NEIGHBOUR: 'it returns false'. Refute it at one input. -/
def sumsReckonWrong : ChangeSpec := { name := "sumsReckon", fn := fun _ => fun
  | [d1, d2] => { results := [.lit (.bool false)], args := [d1, d2] }
  | _ => none }
def SumsReckonWrongFalsely : Prop := sumsReckonRow.holds Try.pinned (OpenSpec.ofChange sumsReckonWrong)

/-- 'manciplelaw06.SumsOf': WHATEVER THE INPUT: true; the input reads as it did. -/
def sumsOfSpec : ChangeSpec := { name := "sumsOf", fn := fun _ => fun
  | [d1, d2] => { results := [.lit (.bool true)], args := [d1, d2] }
  | _ => none }
def sumsOfRow : OpenClaim := { program := "ytlapclajdfaajaa", sum := "63de836a6c4904d35b70988c8f2263e8a4e7022ab599b445e76cee6dfdd7d259", func := "manciple/manciplelaw06.SumsOf", spec := "sumsOf", apart := false }
def SumsOfSaid : Prop := sumsOfRow.holds Try.pinned (OpenSpec.ofChange sumsOfSpec)

/-- ITS FALSE NEIGHBOUR: 'it returns false'. Refute it at one input. -/
def sumsOfWrong : ChangeSpec := { name := "sumsOf", fn := fun _ => fun
  | [d1, d2] => { results := [.lit (.bool false)], args := [d1, d2] }
  | _ => none }
def SumsOfWrongFalsely : Prop := sumsOfRow.holds Try.pinned (OpenSpec.ofChange sumsOfWrong)

/- THE SECOND FORM. 'bulk': how many values and letters a reading holds, each counted each time it is reached (what is shared counts as often as it is met; a slice's spare places count too). A statement '..UptoSaid' is the law's where the arguments, and the package variables that the reading takes, are together of bulk at most 1048576: NARROWER than '..Said'. Prove '..Said' where nothing that the law and all that it calls make is longer than what came in: it says more and counts as full. Else prove '..UptoSaid'. A law counts once. -/
mutual
def uptoBulk {H : Type} : DataW H → Nat
  | .lit (.string bytes) => bytes.length + 1
  | .lit _ => 1
  | .nil => 1
  | .ptr d => uptoBulk d + 1
  | .slice elems spare => uptoBulkAll elems + uptoBulkAll spare + 1
  | .agg parts => uptoBulkAll parts + 1
  | .iface _ d => uptoBulk d + 1
  | .map entries => uptoBulkEntries entries + 1
  | .held _ => 1
def uptoBulkAll {H : Type} : List (DataW H) → Nat
  | [] => 0
  | d :: r => uptoBulk d + uptoBulkAll r
def uptoBulkEntries {H : Type} : List (Lit × DataW H) → Nat
  | [] => 0
  | x :: r => uptoBulkEntry x + uptoBulkEntries r
def uptoBulkEntry {H : Type} : Lit × DataW H → Nat
  | (.string bytes, d) => bytes.length + uptoBulk d + 1
  | (_, d) => uptoBulk d + 1
 end
def uptoSmall : (H : Type) → List (DataW H) → Bool := fun _ ds => decide (uptoBulkAll ds ≤ 1048576)
def OpenSpec.upto (s : _root_.Go.ChangeSpec) : _root_.Go.OpenSpec := { _root_.Go.OpenSpec.ofChange s with cond := some uptoSmall }

/-- 'manciplelaw07.ShareCmps', WHERE WHAT IT READS IS OF BULK AT MOST 1048576: true; the input reads as it did. -/
def shareCmpsUptoRow : OpenClaim := { program := "ytlapclajdfaajaa", sum := "63de836a6c4904d35b70988c8f2263e8a4e7022ab599b445e76cee6dfdd7d259", func := "manciple/manciplelaw07.ShareCmps", spec := "shareCmps", recurses := true, apart := false, narrowed := true }
def ShareCmpsUptoSaid : Prop := shareCmpsUptoRow.holds Try.pinned (OpenSpec.upto shareCmpsSpec)

/-- 'manciplelaw07.ShareTexts', WHERE WHAT IT READS IS OF BULK AT MOST 1048576: true; the input reads as it did. -/
def shareTextsUptoRow : OpenClaim := { program := "ytlapclajdfaajaa", sum := "63de836a6c4904d35b70988c8f2263e8a4e7022ab599b445e76cee6dfdd7d259", func := "manciple/manciplelaw07.ShareTexts", spec := "shareTexts", recurses := true, apart := false, narrowed := true }
def ShareTextsUptoSaid : Prop := shareTextsUptoRow.holds Try.pinned (OpenSpec.upto shareTextsSpec)

/-- 'manciplelaw07.ShareOrders', WHERE WHAT IT READS IS OF BULK AT MOST 1048576: true; the input reads as it did. -/
def shareOrdersUptoRow : OpenClaim := { program := "ytlapclajdfaajaa", sum := "63de836a6c4904d35b70988c8f2263e8a4e7022ab599b445e76cee6dfdd7d259", func := "manciple/manciplelaw07.ShareOrders", spec := "shareOrders", recurses := true, apart := false, narrowed := true }
def ShareOrdersUptoSaid : Prop := shareOrdersUptoRow.holds Try.pinned (OpenSpec.upto shareOrdersSpec)

/-- 'manciplelaw07.ShareOf', WHERE WHAT IT READS IS OF BULK AT MOST 1048576: true; the input reads as it did. -/
def shareOfUptoRow : OpenClaim := { program := "ytlapclajdfaajaa", sum := "63de836a6c4904d35b70988c8f2263e8a4e7022ab599b445e76cee6dfdd7d259", func := "manciple/manciplelaw07.ShareOf", spec := "shareOf", recurses := true, apart := false, narrowed := true }
def ShareOfUptoSaid : Prop := shareOfUptoRow.holds Try.pinned (OpenSpec.upto shareOfSpec)

/-- 'manciplelaw06.SumsDominant', WHERE WHAT IT READS IS OF BULK AT MOST 1048576: true; the input reads as it did. -/
def sumsDominantUptoRow : OpenClaim := { program := "ytlapclajdfaajaa", sum := "63de836a6c4904d35b70988c8f2263e8a4e7022ab599b445e76cee6dfdd7d259", func := "manciple/manciplelaw06.SumsDominant", spec := "sumsDominant", apart := false, narrowed := true }
def SumsDominantUptoSaid : Prop := sumsDominantUptoRow.holds Try.pinned (OpenSpec.upto sumsDominantSpec)

/-- 'manciplelaw06.SumsMany', WHERE WHAT IT READS IS OF BULK AT MOST 1048576: true; the input reads as it did. -/
def sumsManyUptoRow : OpenClaim := { program := "ytlapclajdfaajaa", sum := "63de836a6c4904d35b70988c8f2263e8a4e7022ab599b445e76cee6dfdd7d259", func := "manciple/manciplelaw06.SumsMany", spec := "sumsMany", apart := false, narrowed := true }
def SumsManyUptoSaid : Prop := sumsManyUptoRow.holds Try.pinned (OpenSpec.upto sumsManySpec)

/-- 'manciplelaw06.SumsReckon', WHERE WHAT IT READS IS OF BULK AT MOST 1048576: true; the input reads as it did. -/
def sumsReckonUptoRow : OpenClaim := { program := "ytlapclajdfaajaa", sum := "63de836a6c4904d35b70988c8f2263e8a4e7022ab599b445e76cee6dfdd7d259", func := "manciple/manciplelaw06.SumsReckon", spec := "sumsReckon", apart := false, narrowed := true }
def SumsReckonUptoSaid : Prop := sumsReckonUptoRow.holds Try.pinned (OpenSpec.upto sumsReckonSpec)

/-- 'manciplelaw06.SumsOf', WHERE WHAT IT READS IS OF BULK AT MOST 1048576: true; the input reads as it did. -/
def sumsOfUptoRow : OpenClaim := { program := "ytlapclajdfaajaa", sum := "63de836a6c4904d35b70988c8f2263e8a4e7022ab599b445e76cee6dfdd7d259", func := "manciple/manciplelaw06.SumsOf", spec := "sumsOf", apart := false, narrowed := true }
def SumsOfUptoSaid : Prop := sumsOfUptoRow.holds Try.pinned (OpenSpec.upto sumsOfSpec)

end Rows
end Go.Proofs.Ytlapclajdfaajaa
