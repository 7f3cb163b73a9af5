/-
  No cell of these rows narrows 'for every input' (looked for: loops, veiled, ifaces, maps, wideKeys, modest, calm, conditions, laid).
  DERIVED. THE GIVEN ROWS OF THIS SEAT. 9 by the template 'for every input the law returns true; each argument reads behind the call as it read before'; 0 by the template 'total and deterministic' (their statements: YthfagnpgiciphaaTotals.lean).
  GIVEN WITH THE SEED: the statements are not yours to turn. If you find one false, say at which input.
  Laid BY PROGRAM, IN A SANDBOX (cutbox-rows.mjs): the forced cells as the released guide's own fill.sh prints them over the translation 39bd4c680ecae7a2… (all of the seat's roots in one cut). By AI agents, Wed Nov 11 2026. No macro, syntax, notation, axiom, sorry.
-/
import Derived.Test.YthfagnpgiciphaaChecked
import GoSem.Claim
import GoSem.ClaimJoined
import GoSem.ClaimMapViews
import Derived.JoinedTies
import Derived.KernelRfl
namespace Go.Proofs.Ythfagnpgiciphaa
/- THE CELL 'sum', in the pinned program and in every row, IS THE sha256 OF THE DUMP (.gsa) THAT YthfagnpgiciphaaProg.lean LOADS. Nothing in Lean hashes anything: it is a label: what it is worth is what the hold of that sum in a sandbox is worth. -/
noncomputable def Try.pinned : Pinned := { name := "ythfagnpgiciphaa", sum := "39bd4c680ecae7a2af47c0fffc713cf6aa55702ce0ec0dffa72df2249e01dc7c", checked := Try.checked }
namespace Rows
def none {H : Type} : Left H := { results := [], args := [] }

/-- 'manciplelaw26.FiltersGrow': WHATEVER THE INPUT: true; the input reads as it did. -/
def filtersGrowSpec : ChangeSpec := { name := "filtersGrow", fn := fun _ => fun
  | [d1, d2, d3] => { results := [.lit (.bool true)], args := [d1, d2, d3] }
  | _ => none }
def filtersGrowRow : OpenClaim := { program := "ythfagnpgiciphaa", sum := "39bd4c680ecae7a2af47c0fffc713cf6aa55702ce0ec0dffa72df2249e01dc7c", func := "manciple/manciplelaw26.FiltersGrow", spec := "filtersGrow", inPlace := ["slices.overlaps[manciple/api.Filter]"], unfollowed := true, recurses := true, plainKeys := false, apart := false }
def FiltersGrowSaid : Prop := filtersGrowRow.holds Try.pinned (OpenSpec.ofChange filtersGrowSpec)

/-- ITS FALSE NEIGHBOUR: 'it returns false'. Refute it at one input. -/
def filtersGrowWrong : ChangeSpec := { name := "filtersGrow", fn := fun _ => fun
  | [d1, d2, d3] => { results := [.lit (.bool false)], args := [d1, d2, d3] }
  | _ => none }
def FiltersGrowWrongFalsely : Prop := filtersGrowRow.holds Try.pinned (OpenSpec.ofChange filtersGrowWrong)

/-- 'manciplelaw25.TasksPlays': WHATEVER THE INPUT: true; the input reads as it did. -/
def tasksPlaysSpec : ChangeSpec := { name := "tasksPlays", fn := fun _ => fun
  | [d1, d2, d3] => { results := [.lit (.bool true)], args := [d1, d2, d3] }
  | _ => none }
def tasksPlaysRow : OpenClaim := { program := "ythfagnpgiciphaa", sum := "39bd4c680ecae7a2af47c0fffc713cf6aa55702ce0ec0dffa72df2249e01dc7c", func := "manciple/manciplelaw25.TasksPlays", spec := "tasksPlays", unfollowed := true, recurses := true, plainKeys := false, apart := false }
def TasksPlaysSaid : Prop := tasksPlaysRow.holds Try.pinned (OpenSpec.ofChange tasksPlaysSpec)

/-- ITS FALSE NEIGHBOUR: 'it returns false'. Refute it at one input. -/
def tasksPlaysWrong : ChangeSpec := { name := "tasksPlays", fn := fun _ => fun
  | [d1, d2, d3] => { results := [.lit (.bool false)], args := [d1, d2, d3] }
  | _ => none }
def TasksPlaysWrongFalsely : Prop := tasksPlaysRow.holds Try.pinned (OpenSpec.ofChange tasksPlaysWrong)

/-- 'manciplelaw25.TasksApart': WHATEVER THE INPUT: true; the input reads as it did. -/
def tasksApartSpec : ChangeSpec := { name := "tasksApart", fn := fun _ => fun
  | [d1, d2] => { results := [.lit (.bool true)], args := [d1, d2] }
  | _ => none }
def tasksApartRow : OpenClaim := { program := "ythfagnpgiciphaa", sum := "39bd4c680ecae7a2af47c0fffc713cf6aa55702ce0ec0dffa72df2249e01dc7c", func := "manciple/manciplelaw25.TasksApart", spec := "tasksApart", unfollowed := true, recurses := true, plainKeys := false, apart := false }
def TasksApartSaid : Prop := tasksApartRow.holds Try.pinned (OpenSpec.ofChange tasksApartSpec)

/-- ITS FALSE NEIGHBOUR: 'it returns false'. Refute it at one input. -/
def tasksApartWrong : ChangeSpec := { name := "tasksApart", fn := fun _ => fun
  | [d1, d2] => { results := [.lit (.bool false)], args := [d1, d2] }
  | _ => none }
def TasksApartWrongFalsely : Prop := tasksApartRow.holds Try.pinned (OpenSpec.ofChange tasksApartWrong)

/-- 'manciplelaw25.TasksSorted': WHATEVER THE INPUT: true; the input reads as it did. -/
def tasksSortedSpec : ChangeSpec := { name := "tasksSorted", fn := fun _ => fun
  | [d1, d2, d3] => { results := [.lit (.bool true)], args := [d1, d2, d3] }
  | _ => none }
def tasksSortedRow : OpenClaim := { program := "ythfagnpgiciphaa", sum := "39bd4c680ecae7a2af47c0fffc713cf6aa55702ce0ec0dffa72df2249e01dc7c", func := "manciple/manciplelaw25.TasksSorted", spec := "tasksSorted", unfollowed := true, recurses := true, plainKeys := false, apart := false }
def TasksSortedSaid : Prop := tasksSortedRow.holds Try.pinned (OpenSpec.ofChange tasksSortedSpec)

/-- ITS FALSE NEIGHBOUR: 'it returns false'. Refute it at one input. -/
def tasksSortedWrong : ChangeSpec := { name := "tasksSorted", fn := fun _ => fun
  | [d1, d2, d3] => { results := [.lit (.bool false)], args := [d1, d2, d3] }
  | _ => none }
def TasksSortedWrongFalsely : Prop := tasksSortedRow.holds Try.pinned (OpenSpec.ofChange tasksSortedWrong)

/-- 'manciplelaw22.AgentsKeep': WHATEVER THE INPUT: true; the input reads as it did. -/
def agentsKeepSpec : ChangeSpec := { name := "agentsKeep", fn := fun _ => fun
  | [d1, d2, d3] => { results := [.lit (.bool true)], args := [d1, d2, d3] }
  | _ => none }
def agentsKeepRow : OpenClaim := { program := "ythfagnpgiciphaa", sum := "39bd4c680ecae7a2af47c0fffc713cf6aa55702ce0ec0dffa72df2249e01dc7c", func := "manciple/manciplelaw22.AgentsKeep", spec := "agentsKeep", unfollowed := true, recurses := true, plainKeys := false, apart := false }
def AgentsKeepSaid : Prop := agentsKeepRow.holds Try.pinned (OpenSpec.ofChange agentsKeepSpec)

/-- ITS FALSE NEIGHBOUR: 'it returns false'. Refute it at one input. -/
def agentsKeepWrong : ChangeSpec := { name := "agentsKeep", fn := fun _ => fun
  | [d1, d2, d3] => { results := [.lit (.bool false)], args := [d1, d2, d3] }
  | _ => none }
def AgentsKeepWrongFalsely : Prop := agentsKeepRow.holds Try.pinned (OpenSpec.ofChange agentsKeepWrong)

/-- 'manciplelaw22.AgentsBack': WHATEVER THE INPUT: true; the input reads as it did. -/
def agentsBackSpec : ChangeSpec := { name := "agentsBack", fn := fun _ => fun
  | [d1, d2, d3] => { results := [.lit (.bool true)], args := [d1, d2, d3] }
  | _ => none }
def agentsBackRow : OpenClaim := { program := "ythfagnpgiciphaa", sum := "39bd4c680ecae7a2af47c0fffc713cf6aa55702ce0ec0dffa72df2249e01dc7c", func := "manciple/manciplelaw22.AgentsBack", spec := "agentsBack", unfollowed := true, recurses := true, plainKeys := false, apart := false }
def AgentsBackSaid : Prop := agentsBackRow.holds Try.pinned (OpenSpec.ofChange agentsBackSpec)

/-- ITS FALSE NEIGHBOUR: 'it returns false'. Refute it at one input. -/
def agentsBackWrong : ChangeSpec := { name := "agentsBack", fn := fun _ => fun
  | [d1, d2, d3] => { results := [.lit (.bool false)], args := [d1, d2, d3] }
  | _ => none }
def AgentsBackWrongFalsely : Prop := agentsBackRow.holds Try.pinned (OpenSpec.ofChange agentsBackWrong)

/-- 'manciplelaw22.AgentsPlays': WHATEVER THE INPUT: true; the input reads as it did. -/
def agentsPlaysSpec : ChangeSpec := { name := "agentsPlays", fn := fun _ => fun
  | [d1, d2, d3] => { results := [.lit (.bool true)], args := [d1, d2, d3] }
  | _ => none }
def agentsPlaysRow : OpenClaim := { program := "ythfagnpgiciphaa", sum := "39bd4c680ecae7a2af47c0fffc713cf6aa55702ce0ec0dffa72df2249e01dc7c", func := "manciple/manciplelaw22.AgentsPlays", spec := "agentsPlays", unfollowed := true, recurses := true, plainKeys := false, apart := false }
def AgentsPlaysSaid : Prop := agentsPlaysRow.holds Try.pinned (OpenSpec.ofChange agentsPlaysSpec)

/-- ITS FALSE NEIGHBOUR: 'it returns false'. Refute it at one input. -/
def agentsPlaysWrong : ChangeSpec := { name := "agentsPlays", fn := fun _ => fun
  | [d1, d2, d3] => { results := [.lit (.bool false)], args := [d1, d2, d3] }
  | _ => none }
def AgentsPlaysWrongFalsely : Prop := agentsPlaysRow.holds Try.pinned (OpenSpec.ofChange agentsPlaysWrong)

/-- 'manciplelaw26.FiltersGo': WHATEVER THE INPUT: true; the input reads as it did. -/
def filtersGoSpec : ChangeSpec := { name := "filtersGo", fn := fun _ => fun
  | [d1, d2, d3] => { results := [.lit (.bool true)], args := [d1, d2, d3] }
  | _ => none }
def filtersGoRow : OpenClaim := { program := "ythfagnpgiciphaa", sum := "39bd4c680ecae7a2af47c0fffc713cf6aa55702ce0ec0dffa72df2249e01dc7c", func := "manciple/manciplelaw26.FiltersGo", spec := "filtersGo", inPlace := ["slices.overlaps[manciple/api.Filter]"], unfollowed := true, recurses := true, plainKeys := false, apart := false }
def FiltersGoSaid : Prop := filtersGoRow.holds Try.pinned (OpenSpec.ofChange filtersGoSpec)

/-- ITS FALSE NEIGHBOUR: 'it returns false'. Refute it at one input. -/
def filtersGoWrong : ChangeSpec := { name := "filtersGo", fn := fun _ => fun
  | [d1, d2, d3] => { results := [.lit (.bool false)], args := [d1, d2, d3] }
  | _ => none }
def FiltersGoWrongFalsely : Prop := filtersGoRow.holds Try.pinned (OpenSpec.ofChange filtersGoWrong)

/-- 'manciplelaw26.FiltersPlays': WHATEVER THE INPUT: true; the input reads as it did. -/
def filtersPlaysSpec : ChangeSpec := { name := "filtersPlays", fn := fun _ => fun
  | [d1, d2, d3] => { results := [.lit (.bool true)], args := [d1, d2, d3] }
  | _ => none }
def filtersPlaysRow : OpenClaim := { program := "ythfagnpgiciphaa", sum := "39bd4c680ecae7a2af47c0fffc713cf6aa55702ce0ec0dffa72df2249e01dc7c", func := "manciple/manciplelaw26.FiltersPlays", spec := "filtersPlays", inPlace := ["slices.overlaps[manciple/api.Filter]"], unfollowed := true, recurses := true, plainKeys := false, apart := false }
def FiltersPlaysSaid : Prop := filtersPlaysRow.holds Try.pinned (OpenSpec.ofChange filtersPlaysSpec)

/-- ITS FALSE NEIGHBOUR: 'it returns false'. Refute it at one input. -/
def filtersPlaysWrong : ChangeSpec := { name := "filtersPlays", fn := fun _ => fun
  | [d1, d2, d3] => { results := [.lit (.bool false)], args := [d1, d2, d3] }
  | _ => none }
def FiltersPlaysWrongFalsely : Prop := filtersPlaysRow.holds Try.pinned (OpenSpec.ofChange filtersPlaysWrong)

/- THE SECOND FORM. 'bulk': how many values and letters a reading holds, each counted each time it is reached (what is shared counts as often as it is met; a slice's spare places count too). A statement '..UptoSaid' is the law's where the arguments, and the package variables that the reading takes, are together of bulk at most 1048576: NARROWER than '..Said'. Prove '..Said' where nothing that the law and all that it calls make is longer than what came in: it says more and counts as full. Else prove '..UptoSaid'. A law counts once. -/
mutual
def uptoBulk {H : Type} : DataW H → Nat
  | .lit (.string bytes) => bytes.length + 1
  | .lit _ => 1
  | .nil => 1
  | .ptr d => uptoBulk d + 1
  | .slice elems spare => uptoBulkAll elems + uptoBulkAll spare + 1
  | .agg parts => uptoBulkAll parts + 1
  | .iface _ d => uptoBulk d + 1
  | .map entries => uptoBulkEntries entries + 1
  | .held _ => 1
def uptoBulkAll {H : Type} : List (DataW H) → Nat
  | [] => 0
  | d :: r => uptoBulk d + uptoBulkAll r
def uptoBulkEntries {H : Type} : List (Lit × DataW H) → Nat
  | [] => 0
  | x :: r => uptoBulkEntry x + uptoBulkEntries r
def uptoBulkEntry {H : Type} : Lit × DataW H → Nat
  | (.string bytes, d) => bytes.length + uptoBulk d + 1
  | (_, d) => uptoBulk d + 1
 end
def uptoSmall : (H : Type) → List (DataW H) → Bool := fun _ ds => decide (uptoBulkAll ds ≤ 1048576)
def OpenSpec.upto (s : _root_.Go.ChangeSpec) : _root_.Go.OpenSpec := { _root_.Go.OpenSpec.ofChange s with cond := some uptoSmall }

/-- 'manciplelaw26.FiltersGrow', WHERE WHAT IT READS IS OF BULK AT MOST 1048576: true; the input reads as it did. -/
def filtersGrowUptoRow : OpenClaim := { program := "ythfagnpgiciphaa", sum := "39bd4c680ecae7a2af47c0fffc713cf6aa55702ce0ec0dffa72df2249e01dc7c", func := "manciple/manciplelaw26.FiltersGrow", spec := "filtersGrow", inPlace := ["slices.overlaps[manciple/api.Filter]"], unfollowed := true, recurses := true, plainKeys := false, apart := false, narrowed := true }
def FiltersGrowUptoSaid : Prop := filtersGrowUptoRow.holds Try.pinned (OpenSpec.upto filtersGrowSpec)

/-- 'manciplelaw25.TasksPlays', WHERE WHAT IT READS IS OF BULK AT MOST 1048576: true; the input reads as it did. -/
def tasksPlaysUptoRow : OpenClaim := { program := "ythfagnpgiciphaa", sum := "39bd4c680ecae7a2af47c0fffc713cf6aa55702ce0ec0dffa72df2249e01dc7c", func := "manciple/manciplelaw25.TasksPlays", spec := "tasksPlays", unfollowed := true, recurses := true, plainKeys := false, apart := false, narrowed := true }
def TasksPlaysUptoSaid : Prop := tasksPlaysUptoRow.holds Try.pinned (OpenSpec.upto tasksPlaysSpec)

/-- 'manciplelaw25.TasksApart', WHERE WHAT IT READS IS OF BULK AT MOST 1048576: true; the input reads as it did. -/
def tasksApartUptoRow : OpenClaim := { program := "ythfagnpgiciphaa", sum := "39bd4c680ecae7a2af47c0fffc713cf6aa55702ce0ec0dffa72df2249e01dc7c", func := "manciple/manciplelaw25.TasksApart", spec := "tasksApart", unfollowed := true, recurses := true, plainKeys := false, apart := false, narrowed := true }
def TasksApartUptoSaid : Prop := tasksApartUptoRow.holds Try.pinned (OpenSpec.upto tasksApartSpec)

/-- 'manciplelaw25.TasksSorted', WHERE WHAT IT READS IS OF BULK AT MOST 1048576: true; the input reads as it did. -/
def tasksSortedUptoRow : OpenClaim := { program := "ythfagnpgiciphaa", sum := "39bd4c680ecae7a2af47c0fffc713cf6aa55702ce0ec0dffa72df2249e01dc7c", func := "manciple/manciplelaw25.TasksSorted", spec := "tasksSorted", unfollowed := true, recurses := true, plainKeys := false, apart := false, narrowed := true }
def TasksSortedUptoSaid : Prop := tasksSortedUptoRow.holds Try.pinned (OpenSpec.upto tasksSortedSpec)

/-- 'manciplelaw22.AgentsKeep', WHERE WHAT IT READS IS OF BULK AT MOST 1048576: true; the input reads as it did. -/
def agentsKeepUptoRow : OpenClaim := { program := "ythfagnpgiciphaa", sum := "39bd4c680ecae7a2af47c0fffc713cf6aa55702ce0ec0dffa72df2249e01dc7c", func := "manciple/manciplelaw22.AgentsKeep", spec := "agentsKeep", unfollowed := true, recurses := true, plainKeys := false, apart := false, narrowed := true }
def AgentsKeepUptoSaid : Prop := agentsKeepUptoRow.holds Try.pinned (OpenSpec.upto agentsKeepSpec)

/-- 'manciplelaw22.AgentsBack', WHERE WHAT IT READS IS OF BULK AT MOST 1048576: true; the input reads as it did. -/
def agentsBackUptoRow : OpenClaim := { program := "ythfagnpgiciphaa", sum := "39bd4c680ecae7a2af47c0fffc713cf6aa55702ce0ec0dffa72df2249e01dc7c", func := "manciple/manciplelaw22.AgentsBack", spec := "agentsBack", unfollowed := true, recurses := true, plainKeys := false, apart := false, narrowed := true }
def AgentsBackUptoSaid : Prop := agentsBackUptoRow.holds Try.pinned (OpenSpec.upto agentsBackSpec)

/-- 'manciplelaw22.AgentsPlays', WHERE WHAT IT READS IS OF BULK AT MOST 1048576: true; the input reads as it did. -/
def agentsPlaysUptoRow : OpenClaim := { program := "ythfagnpgiciphaa", sum := "39bd4c680ecae7a2af47c0fffc713cf6aa55702ce0ec0dffa72df2249e01dc7c", func := "manciple/manciplelaw22.AgentsPlays", spec := "agentsPlays", unfollowed := true, recurses := true, plainKeys := false, apart := false, narrowed := true }
def AgentsPlaysUptoSaid : Prop := agentsPlaysUptoRow.holds Try.pinned (OpenSpec.upto agentsPlaysSpec)

/-- 'manciplelaw26.FiltersGo', WHERE WHAT IT READS IS OF BULK AT MOST 1048576: true; the input reads as it did. -/
def filtersGoUptoRow : OpenClaim := { program := "ythfagnpgiciphaa", sum := "39bd4c680ecae7a2af47c0fffc713cf6aa55702ce0ec0dffa72df2249e01dc7c", func := "manciple/manciplelaw26.FiltersGo", spec := "filtersGo", inPlace := ["slices.overlaps[manciple/api.Filter]"], unfollowed := true, recurses := true, plainKeys := false, apart := false, narrowed := true }
def FiltersGoUptoSaid : Prop := filtersGoUptoRow.holds Try.pinned (OpenSpec.upto filtersGoSpec)

/-- 'manciplelaw26.FiltersPlays', WHERE WHAT IT READS IS OF BULK AT MOST 1048576: true; the input reads as it did. -/
def filtersPlaysUptoRow : OpenClaim := { program := "ythfagnpgiciphaa", sum := "39bd4c680ecae7a2af47c0fffc713cf6aa55702ce0ec0dffa72df2249e01dc7c", func := "manciple/manciplelaw26.FiltersPlays", spec := "filtersPlays", inPlace := ["slices.overlaps[manciple/api.Filter]"], unfollowed := true, recurses := true, plainKeys := false, apart := false, narrowed := true }
def FiltersPlaysUptoSaid : Prop := filtersPlaysUptoRow.holds Try.pinned (OpenSpec.upto filtersPlaysSpec)

end Rows
end Go.Proofs.Ythfagnpgiciphaa
