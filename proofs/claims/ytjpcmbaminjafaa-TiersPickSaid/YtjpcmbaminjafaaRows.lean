/-
  No cell of these rows narrows 'for every input' (looked for: loops, veiled, ifaces, maps, wideKeys, modest, calm, conditions, laid).
  DERIVED. THE GIVEN ROWS OF THIS SEAT. 5 by the template 'for every input the law returns true; each argument reads behind the call as it read before'; 0 by the template 'total and deterministic' (their statements: YtjpcmbaminjafaaTotals.lean).
  GIVEN WITH THE SEED: the statements are not yours to turn. If you find one false, say at which input.
  Laid BY PROGRAM, IN A SANDBOX (cutbox-rows.mjs): the forced cells as the released guide's own fill.sh prints them over the translation 73b8021bc0af2633… (all of the seat's roots in one cut). By AI agents, Wed Nov 11 2026. No macro, syntax, notation, axiom, sorry.
-/
import Derived.Test.YtjpcmbaminjafaaChecked
import GoSem.Claim
import GoSem.ClaimJoined
import GoSem.ClaimMapViews
import Derived.JoinedTies
import Derived.KernelRfl
namespace Go.Proofs.Ytjpcmbaminjafaa
/- THE CELL 'sum', in the pinned program and in every row, IS THE sha256 OF THE DUMP (.gsa) THAT YtjpcmbaminjafaaProg.lean LOADS. Nothing in Lean hashes anything: it is a label: what it is worth is what the hold of that sum in a sandbox is worth. -/
noncomputable def Try.pinned : Pinned := { name := "ytjpcmbaminjafaa", sum := "73b8021bc0af2633b0a6cee76f05860ea2b1b3ef4e92fb188ecff02fcffd0eb0", checked := Try.checked }
namespace Rows
def none {H : Type} : Left H := { results := [], args := [] }

/-- 'manciplelaw09.SorterStands': WHATEVER THE INPUT: true; the input reads as it did. -/
def sorterStandsSpec : ChangeSpec := { name := "sorterStands", fn := fun _ => fun
  | [d] => { results := [.lit (.bool true)], args := [d] }
  | _ => none }
def sorterStandsRow : OpenClaim := { program := "ytjpcmbaminjafaa", sum := "73b8021bc0af2633b0a6cee76f05860ea2b1b3ef4e92fb188ecff02fcffd0eb0", func := "manciple/manciplelaw09.SorterStands", spec := "sorterStands", unfollowed := true, recurses := true, apart := false }
def SorterStandsSaid : Prop := sorterStandsRow.holds Try.pinned (OpenSpec.ofChange sorterStandsSpec)

/-- ITS FALSE NEIGHBOUR: 'it returns false'. Refute it at one input. -/
def sorterStandsWrong : ChangeSpec := { name := "sorterStands", fn := fun _ => fun
  | [d] => { results := [.lit (.bool false)], args := [d] }
  | _ => none }
def SorterStandsWrongFalsely : Prop := sorterStandsRow.holds Try.pinned (OpenSpec.ofChange sorterStandsWrong)

/-- 'manciplelaw09.SorterBack': WHATEVER THE INPUT: true; the input reads as it did. -/
def sorterBackSpec : ChangeSpec := { name := "sorterBack", fn := fun _ => fun
  | [d1, d2, d3] => { results := [.lit (.bool true)], args := [d1, d2, d3] }
  | _ => none }
def sorterBackRow : OpenClaim := { program := "ytjpcmbaminjafaa", sum := "73b8021bc0af2633b0a6cee76f05860ea2b1b3ef4e92fb188ecff02fcffd0eb0", func := "manciple/manciplelaw09.SorterBack", spec := "sorterBack", unfollowed := true, recurses := true, apart := false }
def SorterBackSaid : Prop := sorterBackRow.holds Try.pinned (OpenSpec.ofChange sorterBackSpec)

/-- ITS FALSE NEIGHBOUR: 'it returns false'. Refute it at one input. -/
def sorterBackWrong : ChangeSpec := { name := "sorterBack", fn := fun _ => fun
  | [d1, d2, d3] => { results := [.lit (.bool false)], args := [d1, d2, d3] }
  | _ => none }
def SorterBackWrongFalsely : Prop := sorterBackRow.holds Try.pinned (OpenSpec.ofChange sorterBackWrong)

/-- 'manciplelaw09.SorterPlays': WHATEVER THE INPUT: true; the input reads as it did. -/
def sorterPlaysSpec : ChangeSpec := { name := "sorterPlays", fn := fun _ => fun
  | [d1, d2] => { results := [.lit (.bool true)], args := [d1, d2] }
  | _ => none }
def sorterPlaysRow : OpenClaim := { program := "ytjpcmbaminjafaa", sum := "73b8021bc0af2633b0a6cee76f05860ea2b1b3ef4e92fb188ecff02fcffd0eb0", func := "manciple/manciplelaw09.SorterPlays", spec := "sorterPlays", unfollowed := true, recurses := true, apart := false }
def SorterPlaysSaid : Prop := sorterPlaysRow.holds Try.pinned (OpenSpec.ofChange sorterPlaysSpec)

/-- ITS FALSE NEIGHBOUR: 'it returns false'. Refute it at one input. -/
def sorterPlaysWrong : ChangeSpec := { name := "sorterPlays", fn := fun _ => fun
  | [d1, d2] => { results := [.lit (.bool false)], args := [d1, d2] }
  | _ => none }
def SorterPlaysWrongFalsely : Prop := sorterPlaysRow.holds Try.pinned (OpenSpec.ofChange sorterPlaysWrong)

/-- 'manciplelaw10.TiersTells': WHATEVER THE INPUT: true; the input reads as it did. -/
def tiersTellsSpec : ChangeSpec := { name := "tiersTells", fn := fun _ => fun
  | [d1, d2, d3] => { results := [.lit (.bool true)], args := [d1, d2, d3] }
  | _ => none }
def tiersTellsRow : OpenClaim := { program := "ytjpcmbaminjafaa", sum := "73b8021bc0af2633b0a6cee76f05860ea2b1b3ef4e92fb188ecff02fcffd0eb0", func := "manciple/manciplelaw10.TiersTells", spec := "tiersTells", unfollowed := true, recurses := true, apart := false }
def TiersTellsSaid : Prop := tiersTellsRow.holds Try.pinned (OpenSpec.ofChange tiersTellsSpec)

/-- ITS FALSE NEIGHBOUR: 'it returns false'. Refute it at one input. -/
def tiersTellsWrong : ChangeSpec := { name := "tiersTells", fn := fun _ => fun
  | [d1, d2, d3] => { results := [.lit (.bool false)], args := [d1, d2, d3] }
  | _ => none }
def TiersTellsWrongFalsely : Prop := tiersTellsRow.holds Try.pinned (OpenSpec.ofChange tiersTellsWrong)

/-- 'manciplelaw10.TiersPick': WHATEVER THE INPUT: true; the input reads as it did. -/
def tiersPickSpec : ChangeSpec := { name := "tiersPick", fn := fun _ => fun
  | [d1, d2] => { results := [.lit (.bool true)], args := [d1, d2] }
  | _ => none }
def tiersPickRow : OpenClaim := { program := "ytjpcmbaminjafaa", sum := "73b8021bc0af2633b0a6cee76f05860ea2b1b3ef4e92fb188ecff02fcffd0eb0", func := "manciple/manciplelaw10.TiersPick", spec := "tiersPick", unfollowed := true, recurses := true, apart := false }
def TiersPickSaid : Prop := tiersPickRow.holds Try.pinned (OpenSpec.ofChange tiersPickSpec)

/-- ITS FALSE NEIGHBOUR: 'it returns false'. Refute it at one input. -/
def tiersPickWrong : ChangeSpec := { name := "tiersPick", fn := fun _ => fun
  | [d1, d2] => { results := [.lit (.bool false)], args := [d1, d2] }
  | _ => none }
def TiersPickWrongFalsely : Prop := tiersPickRow.holds Try.pinned (OpenSpec.ofChange tiersPickWrong)

/- THE SECOND FORM. 'bulk': how many values and letters a reading holds, each counted each time it is reached (what is shared counts as often as it is met; a slice's spare places count too). A statement '..UptoSaid' is the law's where the arguments, and the package variables that the reading takes, are together of bulk at most 1048576: NARROWER than '..Said'. Prove '..Said' where nothing that the law and all that it calls make is longer than what came in: it says more and counts as full. Else prove '..UptoSaid'. A law counts once. -/
mutual
def uptoBulk {H : Type} : DataW H → Nat
  | .lit (.string bytes) => bytes.length + 1
  | .lit _ => 1
  | .nil => 1
  | .ptr d => uptoBulk d + 1
  | .slice elems spare => uptoBulkAll elems + uptoBulkAll spare + 1
  | .agg parts => uptoBulkAll parts + 1
  | .iface _ d => uptoBulk d + 1
  | .map entries => uptoBulkEntries entries + 1
  | .held _ => 1
def uptoBulkAll {H : Type} : List (DataW H) → Nat
  | [] => 0
  | d :: r => uptoBulk d + uptoBulkAll r
def uptoBulkEntries {H : Type} : List (Lit × DataW H) → Nat
  | [] => 0
  | x :: r => uptoBulkEntry x + uptoBulkEntries r
def uptoBulkEntry {H : Type} : Lit × DataW H → Nat
  | (.string bytes, d) => bytes.length + uptoBulk d + 1
  | (_, d) => uptoBulk d + 1
 end
def uptoSmall : (H : Type) → List (DataW H) → Bool := fun _ ds => decide (uptoBulkAll ds ≤ 1048576)
def OpenSpec.upto (s : _root_.Go.ChangeSpec) : _root_.Go.OpenSpec := { _root_.Go.OpenSpec.ofChange s with cond := some uptoSmall }

/-- 'manciplelaw09.SorterStands', WHERE WHAT IT READS IS OF BULK AT MOST 1048576: true; the input reads as it did. -/
def sorterStandsUptoRow : OpenClaim := { program := "ytjpcmbaminjafaa", sum := "73b8021bc0af2633b0a6cee76f05860ea2b1b3ef4e92fb188ecff02fcffd0eb0", func := "manciple/manciplelaw09.SorterStands", spec := "sorterStands", unfollowed := true, recurses := true, apart := false, narrowed := true }
def SorterStandsUptoSaid : Prop := sorterStandsUptoRow.holds Try.pinned (OpenSpec.upto sorterStandsSpec)

/-- 'manciplelaw09.SorterBack', WHERE WHAT IT READS IS OF BULK AT MOST 1048576: true; the input reads as it did. -/
def sorterBackUptoRow : OpenClaim := { program := "ytjpcmbaminjafaa", sum := "73b8021bc0af2633b0a6cee76f05860ea2b1b3ef4e92fb188ecff02fcffd0eb0", func := "manciple/manciplelaw09.SorterBack", spec := "sorterBack", unfollowed := true, recurses := true, apart := false, narrowed := true }
def SorterBackUptoSaid : Prop := sorterBackUptoRow.holds Try.pinned (OpenSpec.upto sorterBackSpec)

/-- 'manciplelaw09.SorterPlays', WHERE WHAT IT READS IS OF BULK AT MOST 1048576: true; the input reads as it did. -/
def sorterPlaysUptoRow : OpenClaim := { program := "ytjpcmbaminjafaa", sum := "73b8021bc0af2633b0a6cee76f05860ea2b1b3ef4e92fb188ecff02fcffd0eb0", func := "manciple/manciplelaw09.SorterPlays", spec := "sorterPlays", unfollowed := true, recurses := true, apart := false, narrowed := true }
def SorterPlaysUptoSaid : Prop := sorterPlaysUptoRow.holds Try.pinned (OpenSpec.upto sorterPlaysSpec)

/-- 'manciplelaw10.TiersTells', WHERE WHAT IT READS IS OF BULK AT MOST 1048576: true; the input reads as it did. -/
def tiersTellsUptoRow : OpenClaim := { program := "ytjpcmbaminjafaa", sum := "73b8021bc0af2633b0a6cee76f05860ea2b1b3ef4e92fb188ecff02fcffd0eb0", func := "manciple/manciplelaw10.TiersTells", spec := "tiersTells", unfollowed := true, recurses := true, apart := false, narrowed := true }
def TiersTellsUptoSaid : Prop := tiersTellsUptoRow.holds Try.pinned (OpenSpec.upto tiersTellsSpec)

/-- 'manciplelaw10.TiersPick', WHERE WHAT IT READS IS OF BULK AT MOST 1048576: true; the input reads as it did. -/
def tiersPickUptoRow : OpenClaim := { program := "ytjpcmbaminjafaa", sum := "73b8021bc0af2633b0a6cee76f05860ea2b1b3ef4e92fb188ecff02fcffd0eb0", func := "manciple/manciplelaw10.TiersPick", spec := "tiersPick", unfollowed := true, recurses := true, apart := false, narrowed := true }
def TiersPickUptoSaid : Prop := tiersPickUptoRow.holds Try.pinned (OpenSpec.upto tiersPickSpec)

end Rows
end Go.Proofs.Ytjpcmbaminjafaa
