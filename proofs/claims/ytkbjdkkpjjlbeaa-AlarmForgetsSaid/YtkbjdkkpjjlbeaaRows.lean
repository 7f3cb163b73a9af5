/-
  No cell of these rows narrows 'for every input' (looked for: loops, veiled, ifaces, maps, wideKeys, modest, calm, conditions, laid).
  DERIVED. THE GIVEN ROWS OF THIS SEAT. 6 by the template 'for every input the law returns true; each argument reads behind the call as it read before'; 0 by the template 'total and deterministic' (their statements: YtkbjdkkpjjlbeaaTotals.lean).
  GIVEN WITH THE SEED: the statements are not yours to turn. If you find one false, say at which input.
  Laid BY PROGRAM, IN A SANDBOX (cutbox-rows.mjs): the forced cells as the released guide's own fill.sh prints them over the translation 193858a215a0194a… (all of the seat's roots in one cut). By AI agents, Wed Nov 11 2026. No macro, syntax, notation, axiom, sorry.
-/
import Derived.Test.YtkbjdkkpjjlbeaaChecked
import GoSem.Claim
import GoSem.ClaimJoined
import GoSem.ClaimMapViews
import Derived.JoinedTies
import Derived.KernelRfl
namespace Go.Proofs.Ytkbjdkkpjjlbeaa
/- THE CELL 'sum', in the pinned program and in every row, IS THE sha256 OF THE DUMP (.gsa) THAT YtkbjdkkpjjlbeaaProg.lean LOADS. Nothing in Lean hashes anything: it is a label: what it is worth is what the hold of that sum in a sandbox is worth. -/
noncomputable def Try.pinned : Pinned := { name := "ytkbjdkkpjjlbeaa", sum := "193858a215a0194af7503f2d8d23b91bfe3dc02d40915e5e2b9d0b415fe6deb0", checked := Try.checked }
namespace Rows
def none {H : Type} : Left H := { results := [], args := [] }

/-- 'manciplelaw11.HeapSorts': WHATEVER THE INPUT: true; the input reads as it did. -/
def heapSortsSpec : ChangeSpec := { name := "heapSorts", fn := fun _ => fun
  | [d1, d2] => { results := [.lit (.bool true)], args := [d1, d2] }
  | _ => none }
def heapSortsRow : OpenClaim := { program := "ytkbjdkkpjjlbeaa", sum := "193858a215a0194af7503f2d8d23b91bfe3dc02d40915e5e2b9d0b415fe6deb0", func := "manciple/manciplelaw11.HeapSorts", spec := "heapSorts", plainKeys := false, apart := false }
def HeapSortsSaid : Prop := heapSortsRow.holds Try.pinned (OpenSpec.ofChange heapSortsSpec)

/-- ITS FALSE NEIGHBOUR: 'it returns false'. Refute it at one input. -/
def heapSortsWrong : ChangeSpec := { name := "heapSorts", fn := fun _ => fun
  | [d1, d2] => { results := [.lit (.bool false)], args := [d1, d2] }
  | _ => none }
def HeapSortsWrongFalsely : Prop := heapSortsRow.holds Try.pinned (OpenSpec.ofChange heapSortsWrong)

/-- 'manciplelaw11.HeapSteps': WHATEVER THE INPUT: true; the input reads as it did. -/
def heapStepsSpec : ChangeSpec := { name := "heapSteps", fn := fun _ => fun
  | [d] => { results := [.lit (.bool true)], args := [d] }
  | _ => none }
def heapStepsRow : OpenClaim := { program := "ytkbjdkkpjjlbeaa", sum := "193858a215a0194af7503f2d8d23b91bfe3dc02d40915e5e2b9d0b415fe6deb0", func := "manciple/manciplelaw11.HeapSteps", spec := "heapSteps", plainKeys := false, apart := false }
def HeapStepsSaid : Prop := heapStepsRow.holds Try.pinned (OpenSpec.ofChange heapStepsSpec)

/-- ITS FALSE NEIGHBOUR: 'it returns false'. Refute it at one input. -/
def heapStepsWrong : ChangeSpec := { name := "heapSteps", fn := fun _ => fun
  | [d] => { results := [.lit (.bool false)], args := [d] }
  | _ => none }
def HeapStepsWrongFalsely : Prop := heapStepsRow.holds Try.pinned (OpenSpec.ofChange heapStepsWrong)

/-- 'manciplelaw11.HeapPlays': WHATEVER THE INPUT: true; the input reads as it did. -/
def heapPlaysSpec : ChangeSpec := { name := "heapPlays", fn := fun _ => fun
  | [d] => { results := [.lit (.bool true)], args := [d] }
  | _ => none }
def heapPlaysRow : OpenClaim := { program := "ytkbjdkkpjjlbeaa", sum := "193858a215a0194af7503f2d8d23b91bfe3dc02d40915e5e2b9d0b415fe6deb0", func := "manciple/manciplelaw11.HeapPlays", spec := "heapPlays", plainKeys := false, apart := false }
def HeapPlaysSaid : Prop := heapPlaysRow.holds Try.pinned (OpenSpec.ofChange heapPlaysSpec)

/-- ITS FALSE NEIGHBOUR: 'it returns false'. Refute it at one input. -/
def heapPlaysWrong : ChangeSpec := { name := "heapPlays", fn := fun _ => fun
  | [d] => { results := [.lit (.bool false)], args := [d] }
  | _ => none }
def HeapPlaysWrongFalsely : Prop := heapPlaysRow.holds Try.pinned (OpenSpec.ofChange heapPlaysWrong)

/-- 'manciplelaw12.AlarmCuts': WHATEVER THE INPUT: true; the input reads as it did. -/
def alarmCutsSpec : ChangeSpec := { name := "alarmCuts", fn := fun _ => fun
  | [d1, d2, d3] => { results := [.lit (.bool true)], args := [d1, d2, d3] }
  | _ => none }
def alarmCutsRow : OpenClaim := { program := "ytkbjdkkpjjlbeaa", sum := "193858a215a0194af7503f2d8d23b91bfe3dc02d40915e5e2b9d0b415fe6deb0", func := "manciple/manciplelaw12.AlarmCuts", spec := "alarmCuts", unfollowed := true, recurses := true, plainKeys := false, apart := false }
def AlarmCutsSaid : Prop := alarmCutsRow.holds Try.pinned (OpenSpec.ofChange alarmCutsSpec)

/-- ITS FALSE NEIGHBOUR: 'it returns false'. Refute it at one input. -/
def alarmCutsWrong : ChangeSpec := { name := "alarmCuts", fn := fun _ => fun
  | [d1, d2, d3] => { results := [.lit (.bool false)], args := [d1, d2, d3] }
  | _ => none }
def AlarmCutsWrongFalsely : Prop := alarmCutsRow.holds Try.pinned (OpenSpec.ofChange alarmCutsWrong)

/-- 'manciplelaw12.AlarmPlays': WHATEVER THE INPUT: true; the input reads as it did. -/
def alarmPlaysSpec : ChangeSpec := { name := "alarmPlays", fn := fun _ => fun
  | [d] => { results := [.lit (.bool true)], args := [d] }
  | _ => none }
def alarmPlaysRow : OpenClaim := { program := "ytkbjdkkpjjlbeaa", sum := "193858a215a0194af7503f2d8d23b91bfe3dc02d40915e5e2b9d0b415fe6deb0", func := "manciple/manciplelaw12.AlarmPlays", spec := "alarmPlays", unfollowed := true, recurses := true, plainKeys := false, apart := false }
def AlarmPlaysSaid : Prop := alarmPlaysRow.holds Try.pinned (OpenSpec.ofChange alarmPlaysSpec)

/-- ITS FALSE NEIGHBOUR: 'it returns false'. Refute it at one input. -/
def alarmPlaysWrong : ChangeSpec := { name := "alarmPlays", fn := fun _ => fun
  | [d] => { results := [.lit (.bool false)], args := [d] }
  | _ => none }
def AlarmPlaysWrongFalsely : Prop := alarmPlaysRow.holds Try.pinned (OpenSpec.ofChange alarmPlaysWrong)

/-- 'manciplelaw12.AlarmForgets': WHATEVER THE INPUT: true; the input reads as it did. -/
def alarmForgetsSpec : ChangeSpec := { name := "alarmForgets", fn := fun _ => fun
  | [d1, d2, d3] => { results := [.lit (.bool true)], args := [d1, d2, d3] }
  | _ => none }
def alarmForgetsRow : OpenClaim := { program := "ytkbjdkkpjjlbeaa", sum := "193858a215a0194af7503f2d8d23b91bfe3dc02d40915e5e2b9d0b415fe6deb0", func := "manciple/manciplelaw12.AlarmForgets", spec := "alarmForgets", unfollowed := true, recurses := true, plainKeys := false, apart := false }
def AlarmForgetsSaid : Prop := alarmForgetsRow.holds Try.pinned (OpenSpec.ofChange alarmForgetsSpec)

/-- ITS FALSE NEIGHBOUR: 'it returns false'. Refute it at one input. -/
def alarmForgetsWrong : ChangeSpec := { name := "alarmForgets", fn := fun _ => fun
  | [d1, d2, d3] => { results := [.lit (.bool false)], args := [d1, d2, d3] }
  | _ => none }
def AlarmForgetsWrongFalsely : Prop := alarmForgetsRow.holds Try.pinned (OpenSpec.ofChange alarmForgetsWrong)

/- THE SECOND FORM. 'bulk': how many values and letters a reading holds, each counted each time it is reached (what is shared counts as often as it is met; a slice's spare places count too). A statement '..UptoSaid' is the law's where the arguments, and the package variables that the reading takes, are together of bulk at most 1048576: NARROWER than '..Said'. Prove '..Said' where nothing that the law and all that it calls make is longer than what came in: it says more and counts as full. Else prove '..UptoSaid'. A law counts once. -/
mutual
def uptoBulk {H : Type} : DataW H → Nat
  | .lit (.string bytes) => bytes.length + 1
  | .lit _ => 1
  | .nil => 1
  | .ptr d => uptoBulk d + 1
  | .slice elems spare => uptoBulkAll elems + uptoBulkAll spare + 1
  | .agg parts => uptoBulkAll parts + 1
  | .iface _ d => uptoBulk d + 1
  | .map entries => uptoBulkEntries entries + 1
  | .held _ => 1
def uptoBulkAll {H : Type} : List (DataW H) → Nat
  | [] => 0
  | d :: r => uptoBulk d + uptoBulkAll r
def uptoBulkEntries {H : Type} : List (Lit × DataW H) → Nat
  | [] => 0
  | x :: r => uptoBulkEntry x + uptoBulkEntries r
def uptoBulkEntry {H : Type} : Lit × DataW H → Nat
  | (.string bytes, d) => bytes.length + uptoBulk d + 1
  | (_, d) => uptoBulk d + 1
 end
def uptoSmall : (H : Type) → List (DataW H) → Bool := fun _ ds => decide (uptoBulkAll ds ≤ 1048576)
def OpenSpec.upto (s : _root_.Go.ChangeSpec) : _root_.Go.OpenSpec := { _root_.Go.OpenSpec.ofChange s with cond := some uptoSmall }

/-- 'manciplelaw11.HeapSorts', WHERE WHAT IT READS IS OF BULK AT MOST 1048576: true; the input reads as it did. -/
def heapSortsUptoRow : OpenClaim := { program := "ytkbjdkkpjjlbeaa", sum := "193858a215a0194af7503f2d8d23b91bfe3dc02d40915e5e2b9d0b415fe6deb0", func := "manciple/manciplelaw11.HeapSorts", spec := "heapSorts", plainKeys := false, apart := false, narrowed := true }
def HeapSortsUptoSaid : Prop := heapSortsUptoRow.holds Try.pinned (OpenSpec.upto heapSortsSpec)

/-- 'manciplelaw11.HeapSteps', WHERE WHAT IT READS IS OF BULK AT MOST 1048576: true; the input reads as it did. -/
def heapStepsUptoRow : OpenClaim := { program := "ytkbjdkkpjjlbeaa", sum := "193858a215a0194af7503f2d8d23b91bfe3dc02d40915e5e2b9d0b415fe6deb0", func := "manciple/manciplelaw11.HeapSteps", spec := "heapSteps", plainKeys := false, apart := false, narrowed := true }
def HeapStepsUptoSaid : Prop := heapStepsUptoRow.holds Try.pinned (OpenSpec.upto heapStepsSpec)

/-- 'manciplelaw11.HeapPlays', WHERE WHAT IT READS IS OF BULK AT MOST 1048576: true; the input reads as it did. -/
def heapPlaysUptoRow : OpenClaim := { program := "ytkbjdkkpjjlbeaa", sum := "193858a215a0194af7503f2d8d23b91bfe3dc02d40915e5e2b9d0b415fe6deb0", func := "manciple/manciplelaw11.HeapPlays", spec := "heapPlays", plainKeys := false, apart := false, narrowed := true }
def HeapPlaysUptoSaid : Prop := heapPlaysUptoRow.holds Try.pinned (OpenSpec.upto heapPlaysSpec)

/-- 'manciplelaw12.AlarmCuts', WHERE WHAT IT READS IS OF BULK AT MOST 1048576: true; the input reads as it did. -/
def alarmCutsUptoRow : OpenClaim := { program := "ytkbjdkkpjjlbeaa", sum := "193858a215a0194af7503f2d8d23b91bfe3dc02d40915e5e2b9d0b415fe6deb0", func := "manciple/manciplelaw12.AlarmCuts", spec := "alarmCuts", unfollowed := true, recurses := true, plainKeys := false, apart := false, narrowed := true }
def AlarmCutsUptoSaid : Prop := alarmCutsUptoRow.holds Try.pinned (OpenSpec.upto alarmCutsSpec)

/-- 'manciplelaw12.AlarmPlays', WHERE WHAT IT READS IS OF BULK AT MOST 1048576: true; the input reads as it did. -/
def alarmPlaysUptoRow : OpenClaim := { program := "ytkbjdkkpjjlbeaa", sum := "193858a215a0194af7503f2d8d23b91bfe3dc02d40915e5e2b9d0b415fe6deb0", func := "manciple/manciplelaw12.AlarmPlays", spec := "alarmPlays", unfollowed := true, recurses := true, plainKeys := false, apart := false, narrowed := true }
def AlarmPlaysUptoSaid : Prop := alarmPlaysUptoRow.holds Try.pinned (OpenSpec.upto alarmPlaysSpec)

/-- 'manciplelaw12.AlarmForgets', WHERE WHAT IT READS IS OF BULK AT MOST 1048576: true; the input reads as it did. -/
def alarmForgetsUptoRow : OpenClaim := { program := "ytkbjdkkpjjlbeaa", sum := "193858a215a0194af7503f2d8d23b91bfe3dc02d40915e5e2b9d0b415fe6deb0", func := "manciple/manciplelaw12.AlarmForgets", spec := "alarmForgets", unfollowed := true, recurses := true, plainKeys := false, apart := false, narrowed := true }
def AlarmForgetsUptoSaid : Prop := alarmForgetsUptoRow.holds Try.pinned (OpenSpec.upto alarmForgetsSpec)

end Rows
end Go.Proofs.Ytkbjdkkpjjlbeaa
