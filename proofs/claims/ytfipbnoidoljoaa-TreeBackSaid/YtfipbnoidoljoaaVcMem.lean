/- Rules of memory: an element's place, a load, a new row of given parts; each as a formula asks it. -/
import Derived.Test.YtfipbnoidoljoaaVcEq
namespace Go.Vc
open Go Go.RowKit

section
variable {P : Program}

/-- The data of a slice: its i-th element. -/
theorem SlR.at_ {α : Type} {w : World} {n : Nat} {R : α → List Value → Prop} {l : List α} {a : Option Addr} {len cap : Nat} (h : SlR w n R l a len cap) {i : Nat} {x : α} (hx : l[i]? = some x) :
    ∃ ad cs, a = some ad ∧ cs.length = n ∧ (∀ (j : Nat) (v : Value), cs[j]? = some v → w.cell? ((ad.add (i * n)).add j) = some v) ∧ R x cs := h.2.2.2.2 i x hx

theorem gives_index {t e : TypeId} {n : Nat} {ad : Addr} {len cap i : Nat} {k : IntKind} (ht : P.underlying t = some (.slice e)) (hs : pureRun P (sizeOf e) = some n) (hi : i < len) :
    Gives P (Instr.indexAt t (.slice (some ad) len cap) (.int k (i : Int))) (.pointer (some (ad.add (i * n)))) := by
  intro W
  have he : P.elem t = e := by simp [Program.elem, ht]
  have hh := run_indexAt_slice (P := P) W t ad len cap k i (by rw [he]; exact ht)
  rw [hh, if_pos (by omega), he]
  have hsz := pureRun_run hs W
  simp only [Int.toNat_natCast]
  rw [hsz]
  rfl

theorem evo_cell {ds : List Nat} {w W : World} (h : evoP ds w W) {ad : Addr} {v : Value} (hd : ∀ d ∈ ds, d ≠ ad.block) (hc : w.cell? ad = some v) : W.cell? ad = some v := by
  have hlt := World.block_lt_of_cell? w ad hc
  have hb : W.heap[ad.block]? = w.heap[ad.block]? := by
    cases ds with
    | nil => exact Bel.block h hlt
    | cons d r => exact Evo.block h _ hlt (fun hm => hd _ hm rfl)
  rw [World.cell?_of_block hb, hc]

theorem run_loadAt_agg {W : World} {t : TypeId} {ad : Addr} {cs : List Value} (hagg : pureRun P (isAgg t) = some true) (hsz : pureRun P (sizeOf t) = some cs.length) (h : ∀ (j : Nat) (v : Value), cs[j]? = some v → W.cell? (ad.add j) = some v) :
    (Instr.loadAt t (.pointer (some ad))).run P W = .ok (.agg cs.toArray) W := by
  have hs : (Instr.sureAddr (.pointer (some ad))).run P W = .ok ad W := rfl
  unfold Instr.loadAt
  rw [run_bind_ok hs]
  unfold loadVar
  rw [run_bind_ok (pureRun_run hagg W)]
  simp only [if_true]
  rw [run_bind_ok (pureRun_run hsz W), run_bind_ok (run_loadCells_list W ad cs h)]
  rfl

theorem run_loadAt_one {W : World} {t : TypeId} {ad : Addr} {v : Value} (hagg : pureRun P (isAgg t) = some false) (h : W.cell? ad = some v) :
    (Instr.loadAt t (.pointer (some ad))).run P W = .ok v W := by
  have hs : (Instr.sureAddr (.pointer (some ad))).run P W = .ok ad W := rfl
  unfold Instr.loadAt
  rw [run_bind_ok hs]
  unfold loadVar
  rw [run_bind_ok (pureRun_run hagg W)]
  simp only [Bool.false_eq_true, if_false]
  simp [load, Sem.run, h]

theorem reads_agg {t : TypeId} {ds : List Nat} {w : World} {ad : Addr} {cs : List Value} (hagg : pureRun P (isAgg t) = some true) (hsz : pureRun P (sizeOf t) = some cs.length) (hd : ∀ d ∈ ds, d ≠ ad.block) (h : ∀ (j : Nat) (v : Value), cs[j]? = some v → w.cell? (ad.add j) = some v) :
    Reads P ds (Instr.loadAt t (.pointer (some ad))) w (.agg cs.toArray) :=
  fun W hW => run_loadAt_agg hagg hsz fun j v hv => evo_cell hW (by
    intro d hdm
    have hb : (ad.add j).block = ad.block := by unfold Addr.add; split <;> rfl
    rw [hb]; exact hd d hdm) (h j v hv)

theorem reads_one {t : TypeId} {ds : List Nat} {w : World} {ad : Addr} {v : Value} (hagg : pureRun P (isAgg t) = some false) (hd : ∀ d ∈ ds, d ≠ ad.block) (h : w.cell? ad = some v) :
    Reads P ds (Instr.loadAt t (.pointer (some ad))) w v :=
  fun _ hW => run_loadAt_one hagg (evo_cell hW hd h)

/-! ### A new row of given parts -/
def sliceCells (P : Program) (t : TypeId) (len : Nat) (parts : Array (Nat × Value)) : Option (TypeId × List Value) :=
  match P.underlying t with
  | some (.slice e) => match pureRun P (sizeOf e), pureRun P (zeroValue e) with
    | some size, some z => cond (Nat.ble (len * size) 16777216) (match Instr.fill (fun i => some (i * size, size)) ((Array.range (len * size)).map (z.cells[· % z.cells.size]!)) parts.toList with
      | some cs => some (e, cs.toList)
      | none => none) none
    | _, _ => none
  | _ => none

theorem opw_buildSlice {t e : TypeId} {len : Nat} {parts : Array (Nat × Value)} {cs : List Value} {w : World} {K : Value → World → Prop} (hc : sliceCells P t len parts = some (e, cs))
    (h : K (.slice (some ⟨w.heap.size, 0, none⟩) len len) (w.alloc (.cells cs.toArray e))) : OpW P (valueS (Instr.buildSlice t len parts)) w K := by
  unfold sliceCells at hc
  split at hc
  · rename_i e' hu
    split at hc
    · rename_i size z hs hz
      cases hb : Nat.ble (len * size) 16777216 with
      | false => simp [hb] at hc
      | true =>
        simp only [hb, cond_true] at hc
        split at hc
        · rename_i cs' hf
          simp only [Option.some.injEq, Prod.mk.injEq] at hc
          obtain ⟨rfl, rfl⟩ := hc
          have hle := Nat.le_of_ble_eq_true hb
          have hr : (Instr.buildSlice t len parts).run P w = .ok (.slice (some ⟨w.heap.size, 0, none⟩) len len) (w.alloc (.cells cs' e')) := by
            unfold Instr.buildSlice
            rw [run_bind_ok (run_underlying hu w)]
            simp only
            rw [run_bind_ok (pureRun_run hs w), if_neg (by omega)]
            by_cases h0 : len * size = 0
            · rw [if_pos h0]
              simp only [pure_bind]
              have hf' : Instr.fill (fun i => some (i * size, size)) (Array.map (fun x => (#[] : Array Value)[x % (#[] : Array Value).size]!) (Array.range (len * size))) parts.toList = some cs' := by
                rw [h0] at hf ⊢
                simpa only [show Array.range 0 = #[] from rfl, Array.map_empty] using hf
              rw [hf']
              rfl
            · rw [if_neg h0]
              simp only [pure_bind]
              rw [run_bind_ok (pureRun_run hz w)]
              simp only [hf]
              rfl
          unfold OpW
          rw [run_valueS hr]
          simpa using h
        · cases hc
    · cases hc
  · cases hc

/-- A row just made reads as a list. -/
theorem SlR_alloc {α : Type} {w : World} {e : TypeId} {n : Nat} {R : α → List Value → Prop} {l : List α} {cs : List Value} {len : Nat} (hl : len = l.length) (hm : len ≤ maxLen) (hc : cs.length = len * n) (hR : ∀ (i : Nat) (x : α), l[i]? = some x → R x ((cs.drop (i * n)).take n)) :
    SlR (w.alloc (.cells cs.toArray e)) n R l (some ⟨w.heap.size, 0, none⟩) len len := by
  refine ⟨hl, Nat.le_refl _, hm, fun h => (by cases h), fun i x hx => ?_⟩
  have hi := (List.getElem?_eq_some_iff.1 hx).1
  have hle : i * n + n ≤ cs.length := by
    rw [hc, hl]
    have := Nat.mul_le_mul_right n (show i + 1 ≤ l.length by omega)
    rw [Nat.add_mul] at this
    omega
  refine ⟨_, _, rfl, ?_, fun j v hv => ?_, hR i x hx⟩
  · rw [List.length_take, List.length_drop]; omega
  · rw [addr_add_add _ _ _ rfl, addr_add]
    have hj : j < n := by
      have := (List.getElem?_eq_some_iff.1 hv).1
      rw [List.length_take] at this
      omega
    rw [List.getElem?_take, if_pos hj, List.getElem?_drop] at hv
    rw [cell_at (cells := cs) (ty := e) (fr := (0, 0)) (heap_alloc_new w _)]
    simpa using hv

theorem below_alloc {w : World} (o : Obj) : Bel w (w.alloc o) := ⟨(Below.refl _ w).alloc (Nat.le_refl _) o, Nat.le_refl _⟩
end
end Go.Vc
