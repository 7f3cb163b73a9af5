/- Own texts of this claim, laid together: VcMem, VcOwn, VcOwn2, VcStr, VcElt, VP, ZdF1, VcArr, VcPush, VcMap, VcKeys, VcStore, VcAlloc. -/
import Derived.Test.YtfoiddldfdbanaaGreatDoorMg5ab44a56
import Derived.Laws.OwnMore
import Derived.Laws.BytesArg
import Derived.Laws.BytesString
import Derived.Laws.Concat
import Derived.Laws.Strings3
import Derived.Laws.Slices
import Derived.Laws.RangeString
import Derived.Test.YtfoiddldfdbanaaGreatDoorProg
import Derived.Laws.IdiomStrings
import Derived.Carry
import Derived.MapKept

/- Rules of memory: an element's place, a load, a new row of given parts; each as a formula asks it. -/
namespace Go.Vc
open Go Go.RowKit

section
variable {P : Program}

/-- The data of a slice: its i-th element. -/
theorem SlR.at_ {α : Type} {w : World} {n : Nat} {R : α → List Value → Prop} {l : List α} {a : Option Addr} {len cap : Nat} (h : SlR w n R l a len cap) {i : Nat} {x : α} (hx : l[i]? = some x) :
    ∃ ad cs, a = some ad ∧ cs.length = n ∧ (∀ (j : Nat) (v : Value), cs[j]? = some v → w.cell? ((ad.add (i * n)).add j) = some v) ∧ R x cs := h.2.2.2.2 i x hx

theorem gives_index {t e : TypeId} {n : Nat} {ad : Addr} {len cap i : Nat} {k : IntKind} (ht : P.underlying t = some (.slice e)) (hs : pureRun P (sizeOf e) = some n) (hi : i < len) :
    Gives P (Instr.indexAt t (.slice (some ad) len cap) (.int k (i : Int))) (.pointer (some (ad.add (i * n)))) := by
  intro W
  have he : P.elem t = e := by simp [Program.elem, ht]
  have hh := run_indexAt_slice (P := P) W t ad len cap k i (by rw [he]; exact ht)
  rw [hh, if_pos (by omega), he]
  have hsz := pureRun_run hs W
  simp only [Int.toNat_natCast]
  rw [hsz]
  rfl

theorem evo_cell {ds : List Nat} {w W : World} (h : evoP ds w W) {ad : Addr} {v : Value} (hd : ∀ d ∈ ds, d ≠ ad.block) (hc : w.cell? ad = some v) : W.cell? ad = some v := by
  have hlt := World.block_lt_of_cell? w ad hc
  have hb : W.heap[ad.block]? = w.heap[ad.block]? := by
    cases ds with
    | nil => exact Bel.block h hlt
    | cons d r => exact Evo.block h _ hlt (fun hm => hd _ hm rfl)
  rw [World.cell?_of_block hb, hc]

theorem run_loadAt_agg {W : World} {t : TypeId} {ad : Addr} {cs : List Value} (hagg : pureRun P (isAgg t) = some true) (hsz : pureRun P (sizeOf t) = some cs.length) (h : ∀ (j : Nat) (v : Value), cs[j]? = some v → W.cell? (ad.add j) = some v) :
    (Instr.loadAt t (.pointer (some ad))).run P W = .ok (.agg cs.toArray) W := by
  have hs : (Instr.sureAddr (.pointer (some ad))).run P W = .ok ad W := rfl
  unfold Instr.loadAt
  rw [run_bind_ok hs]
  unfold loadVar
  rw [run_bind_ok (pureRun_run hagg W)]
  simp only [if_true]
  rw [run_bind_ok (pureRun_run hsz W), run_bind_ok (run_loadCells_list W ad cs h)]
  rfl

theorem run_loadAt_one {W : World} {t : TypeId} {ad : Addr} {v : Value} (hagg : pureRun P (isAgg t) = some false) (h : W.cell? ad = some v) :
    (Instr.loadAt t (.pointer (some ad))).run P W = .ok v W := by
  have hs : (Instr.sureAddr (.pointer (some ad))).run P W = .ok ad W := rfl
  unfold Instr.loadAt
  rw [run_bind_ok hs]
  unfold loadVar
  rw [run_bind_ok (pureRun_run hagg W)]
  simp only [Bool.false_eq_true, if_false]
  simp [load, Sem.run, h]

theorem reads_agg {t : TypeId} {ds : List Nat} {w : World} {ad : Addr} {cs : List Value} (hagg : pureRun P (isAgg t) = some true) (hsz : pureRun P (sizeOf t) = some cs.length) (hd : ∀ d ∈ ds, d ≠ ad.block) (h : ∀ (j : Nat) (v : Value), cs[j]? = some v → w.cell? (ad.add j) = some v) :
    Reads P ds (Instr.loadAt t (.pointer (some ad))) w (.agg cs.toArray) :=
  fun W hW => run_loadAt_agg hagg hsz fun j v hv => evo_cell hW (by
    intro d hdm
    have hb : (ad.add j).block = ad.block := by unfold Addr.add; split <;> rfl
    rw [hb]; exact hd d hdm) (h j v hv)

theorem reads_one {t : TypeId} {ds : List Nat} {w : World} {ad : Addr} {v : Value} (hagg : pureRun P (isAgg t) = some false) (hd : ∀ d ∈ ds, d ≠ ad.block) (h : w.cell? ad = some v) :
    Reads P ds (Instr.loadAt t (.pointer (some ad))) w v :=
  fun _ hW => run_loadAt_one hagg (evo_cell hW hd h)

/-! ### A new row of given parts -/
def sliceCells (P : Program) (t : TypeId) (len : Nat) (parts : Array (Nat × Value)) : Option (TypeId × List Value) :=
  match P.underlying t with
  | some (.slice e) => match pureRun P (sizeOf e), pureRun P (zeroValue e) with
    | some size, some z => cond (Nat.ble (len * size) 16777216) (match Instr.fill (fun i => some (i * size, size)) ((Array.range (len * size)).map (z.cells[· % z.cells.size]!)) parts.toList with
      | some cs => some (e, cs.toList)
      | none => none) none
    | _, _ => none
  | _ => none

theorem opw_buildSlice {t e : TypeId} {len : Nat} {parts : Array (Nat × Value)} {cs : List Value} {w : World} {K : Value → World → Prop} (hc : sliceCells P t len parts = some (e, cs))
    (h : K (.slice (some ⟨w.heap.size, 0, none⟩) len len) (w.alloc (.cells cs.toArray e))) : OpW P (valueS (Instr.buildSlice t len parts)) w K := by
  unfold sliceCells at hc
  split at hc
  · rename_i e' hu
    split at hc
    · rename_i size z hs hz
      cases hb : Nat.ble (len * size) 16777216 with
      | false => simp [hb] at hc
      | true =>
        simp only [hb, cond_true] at hc
        split at hc
        · rename_i cs' hf
          simp only [Option.some.injEq, Prod.mk.injEq] at hc
          obtain ⟨rfl, rfl⟩ := hc
          have hle := Nat.le_of_ble_eq_true hb
          have hr : (Instr.buildSlice t len parts).run P w = .ok (.slice (some ⟨w.heap.size, 0, none⟩) len len) (w.alloc (.cells cs' e')) := by
            unfold Instr.buildSlice
            rw [run_bind_ok (run_underlying hu w)]
            simp only
            rw [run_bind_ok (pureRun_run hs w), if_neg (by omega)]
            by_cases h0 : len * size = 0
            · rw [if_pos h0]
              simp only [pure_bind]
              have hf' : Instr.fill (fun i => some (i * size, size)) (Array.map (fun x => (#[] : Array Value)[x % (#[] : Array Value).size]!) (Array.range (len * size))) parts.toList = some cs' := by
                rw [h0] at hf ⊢
                simpa only [show Array.range 0 = #[] from rfl, Array.map_empty] using hf
              rw [hf']
              rfl
            · rw [if_neg h0]
              simp only [pure_bind]
              rw [run_bind_ok (pureRun_run hz w)]
              simp only [hf]
              rfl
          unfold OpW
          rw [run_valueS hr]
          simpa using h
        · cases hc
    · cases hc
  · cases hc

/-- A row just made reads as a list. -/
theorem SlR_alloc {α : Type} {w : World} {e : TypeId} {n : Nat} {R : α → List Value → Prop} {l : List α} {cs : List Value} {len : Nat} (hl : len = l.length) (hm : len ≤ maxLen) (hc : cs.length = len * n) (hR : ∀ (i : Nat) (x : α), l[i]? = some x → R x ((cs.drop (i * n)).take n)) :
    SlR (w.alloc (.cells cs.toArray e)) n R l (some ⟨w.heap.size, 0, none⟩) len len := by
  refine ⟨hl, Nat.le_refl _, hm, fun h => (by cases h), fun i x hx => ?_⟩
  have hi := (List.getElem?_eq_some_iff.1 hx).1
  have hle : i * n + n ≤ cs.length := by
    rw [hc, hl]
    have := Nat.mul_le_mul_right n (show i + 1 ≤ l.length by omega)
    rw [Nat.add_mul] at this
    omega
  refine ⟨_, _, rfl, ?_, fun j v hv => ?_, hR i x hx⟩
  · rw [List.length_take, List.length_drop]; omega
  · rw [addr_add_add _ _ _ rfl, addr_add]
    have hj : j < n := by
      have := (List.getElem?_eq_some_iff.1 hv).1
      rw [List.length_take] at this
      omega
    rw [List.getElem?_take, if_pos hj, List.getElem?_drop] at hv
    rw [cell_at (cells := cs) (ty := e) (fr := (0, 0)) (heap_alloc_new w _)]
    simpa using hv

theorem below_alloc {w : World} (o : Obj) : Bel w (w.alloc o) := ⟨(Below.refl _ w).alloc (Nat.le_refl _) o, Nat.le_refl _⟩
end
end Go.Vc

/- Slices of the function's own: rows made since the first world, apart from the own boxes; making, adding, storing, reading. -/
namespace Go.Vc
open Go Go.RowKit

/-- A slice whose elements lie in memory as 'f' writes them. -/
abbrev SlE {α : Type} (w : World) (n : Nat) (f : α → List Value) (l : List α) (a : Option Addr) (len cap : Nat) : Prop := SlR w n (fun x cs => cs = f x) l a len cap

theorem SlR.imp {α : Type} {w : World} {n : Nat} {R R' : α → List Value → Prop} {l : List α} {a : Option Addr} {len cap : Nat} (h : SlR w n R l a len cap) (hR : ∀ x cs, R x cs → R' x cs) : SlR w n R' l a len cap :=
  h.mono (fun _ _ h => h) hR
theorem SlR.call {α : Type} {w w' : World} {n : Nat} {R : α → List Value → Prop} {l : List α} {a : Option Addr} {len cap : Nat} (h : SlR w n R l a len cap) (hb : Bel w w') : SlR w' n R l a len cap :=
  h.mono (cell_below hb.below) fun _ _ h => h
theorem SlR.each {α : Type} {w : World} {n : Nat} {R : α → List Value → Prop} {l : List α} {a : Option Addr} {len cap : Nat} (h : SlR w n R l a len cap) {x : α} (hx : x ∈ l) : ∃ cs, R x cs := by
  obtain ⟨i, hi, rfl⟩ := List.mem_iff_getElem.1 hx
  obtain ⟨_, cs, _, _, _, hr⟩ := h.at_ (List.getElem?_eq_getElem hi)
  exact ⟨cs, hr⟩
theorem SlR.len_le {α : Type} {w : World} {n : Nat} {R : α → List Value → Prop} {l : List α} {a : Option Addr} {len cap : Nat} (h : SlR w n R l a len cap) : len = l.length ∧ l.length ≤ 9223372036854775807 := ⟨h.1, h.1 ▸ Nat.le_trans h.2.1 h.2.2.1⟩

/-- An own slice: its row lies in a block that is new since the first world, or that may be written (M), apart from the own boxes. -/
structure OwnF {α : Type} (w : World) (M : Nat → Prop) (gs : List Nat) (W : World) (e : TypeId) (size : Nat) (f : α → List Value) (v : Value) (l : List α) : Prop where
  row0 : W.ownsRow 0 e size v l.length (l.flatMap f)
  mine : ∀ k, v.ownBlock = some k → w.heap.size ≤ k ∨ M k
  apart : ∀ g ∈ gs, v.ownBlock ≠ some g
abbrev OwnL {α : Type} (w : World) (gs : List Nat) (W : World) (e : TypeId) (size : Nat) (f : α → List Value) (v : Value) (l : List α) : Prop := OwnF w noB gs W e size f v l

theorem ownsRow_raise {W : World} {base b : Nat} {e : TypeId} {size n : Nat} {v : Value} {xs : List Value} (h : W.ownsRow b e size v n xs) (hm : ∀ k, v.ownBlock = some k → base ≤ k) : W.ownsRow base e size v n xs := by
  refine ⟨h.1, ?_⟩
  rcases h.2 with hn | ⟨g, cap, cur, hv, _, rest⟩
  · exact .inl hn
  · exact .inr ⟨g, cap, cur, hv, hm g (by rw [hv]; rfl), rest⟩

section
variable {α : Type} {w W W' : World} {M N : Nat → Prop} {gs gs' ds : List Nat} {e : TypeId} {size : Nat} {f : α → List Value} {v : Value} {l : List α}

theorem OwnF.lt (h : OwnF w M gs W e size f v l) : ∀ k, v.ownBlock = some k → k < W.heap.size := fun k hk => (h.row0.lt k hk).2
/-- Out of a row above a base. -/
theorem OwnF.mk_ {base : Nat} (h : W.ownsRow base e size v l.length (l.flatMap f)) (hm : ∀ k, base ≤ k → k < W.heap.size → w.heap.size ≤ k ∨ M k) (hap : ∀ g ∈ gs, v.ownBlock ≠ some g) : OwnF w M gs W e size f v l :=
  ⟨ownsRow_raise h fun _ _ => Nat.zero_le _, fun k hk => hm k (h.lt k hk).1 (h.lt k hk).2, hap⟩
theorem OwnL.of (h : W.ownsRow w.heap.size e size v l.length (l.flatMap f)) (hap : ∀ g ∈ gs, v.ownBlock ≠ some g) : OwnL w gs W e size f v l := OwnF.mk_ h (fun _ h _ => .inl h) hap
theorem OwnF.row (h : OwnF w noB gs W e size f v l) : W.ownsRow w.heap.size e size v l.length (l.flatMap f) := ownsRow_raise h.row0 fun k hk => (h.mine k hk).resolve_right id

theorem OwnF.nil : OwnF w M gs W e size f (.slice none 0 0) [] := ⟨World.ownsRow_nil .., fun _ h => (by cases h), fun _ _ h => by cases h⟩
theorem OwnL.nil : OwnL w gs W e size f (.slice none 0 0) [] := OwnF.nil

theorem OwnF.keep (h : OwnF w M gs W e size f v l) (hc : ∀ k, v.ownBlock = some k → W'.heap[k]? = W.heap[k]?) : OwnF w M gs W' e size f v l := by
  refine ⟨⟨h.row0.1, ?_⟩, h.mine, h.apart⟩
  rcases h.row0.2 with hn | ⟨g, cap, cur, hv, hge, hgg, rest⟩
  · exact .inl hn
  · exact .inr ⟨g, cap, cur, hv, hge, by rw [hc g (by rw [hv]; rfl), hgg], rest⟩
theorem OwnF.chg (h : OwnF w M gs W e size f v l) (hc : Chg N W W') (hne : ∀ k, v.ownBlock = some k → ¬ N k) : OwnF w M gs W' e size f v l :=
  h.keep fun k hk => hc.block k (h.lt k hk) (hne k hk)
theorem OwnF.grown {row : Option Nat} (h : OwnF w M gs W e size f v l) (hg : W.grownBy W' row) (hne : v.ownBlock = none ∨ v.ownBlock ≠ row) : OwnF w M gs W' e size f v l :=
  h.keep fun k hk => hg.block k (h.lt k hk) fun e => by
    rcases hne with h0 | h0
    · rw [h0] at hk; cases hk
    · exact h0 (hk.trans e)
theorem grown_below (h : Bel W W') (row : Option Nat) : W.grownBy W' row := ⟨h.below.os, h.below.tape, h.below.output, h.size, fun _ hk _ => h.block hk⟩
theorem OwnF.call (h : OwnF w M gs W e size f v l) (hb : Bel W W') : OwnF w M gs W' e size f v l := h.keep fun k hk => hb.block (h.lt k hk)
theorem OwnF.more (h : OwnF w M gs W e size f v l) (hg : ∀ g ∈ gs', g ∉ gs → W.heap.size ≤ g) : OwnF w M gs' W e size f v l :=
  ⟨h.row0, h.mine, fun g hm hv => by
    by_cases hk : g ∈ gs
    · exact h.apart g hk hv
    · have := h.lt g hv
      have := hg g hm hk
      omega⟩
theorem OwnF.evo (h : OwnF w M gs W e size f v l) (hd : ∀ d ∈ ds, d ∉ gs → W.heap.size ≤ d) (hb : Evo ds W W') : OwnF w M gs W' e size f v l :=
  h.chg (Chg.of_evo hb) fun k hk hm => by
    by_cases hg : k ∈ gs
    · exact h.apart k hg hk
    · have := hd k hm hg
      have := h.lt k hk
      omega
/-- A row that a call has made. -/
theorem OwnF.ret {n : Nat} {xs : List Value} (hA : AtF w M gs W) (h : W'.ownsRow W.heap.size e size v n xs) (hn : n = l.length) (hx : xs = l.flatMap f) : OwnF w M gs W' e size f v l := by
  subst hn
  subst hx
  refine OwnF.mk_ h (fun k hk _ => .inl (Nat.le_trans hA.size hk)) fun g hg hv => ?_
  have := (h.lt g hv).1
  have := hA.under g hg
  omega
theorem OwnL.ret {n : Nat} {xs : List Value} (hA : At w gs W) (h : W'.ownsRow W.heap.size e size v n xs) (hn : n = l.length) (hx : xs = l.flatMap f) : OwnL w gs W' e size f v l := OwnF.ret hA h hn hx
/-- Seen from another first world. -/
theorem OwnF.base {w' : World} {M' : Nat → Prop} {gs' : List Nat} (h : OwnF w M gs W e size f v l) (hm : ∀ k, v.ownBlock = some k → w'.heap.size ≤ k ∨ M' k) (hap : ∀ g ∈ gs', v.ownBlock ≠ some g) : OwnF w' M' gs' W e size f v l := ⟨h.row0, hm, hap⟩

theorem flatMap_part {l : List α} (hf : ∀ x ∈ l, (f x).length = size) {i : Nat} {x : α} (hx : l[i]? = some x) : ((l.flatMap f).drop (i * size)).take size = f x := by
  induction l generalizing i with
  | nil => simp at hx
  | cons y l ih =>
    cases i with
    | zero =>
      simp at hx
      subst hx
      have := hf y (List.mem_cons_self ..)
      simp only [Nat.zero_mul, List.drop_zero, List.flatMap_cons]
      rw [← this, List.take_left]
    | succ i =>
      have hy := hf y (List.mem_cons_self ..)
      have hx' : l[i]? = some x := by simpa using hx
      rw [← ih (fun x hx => hf x (List.mem_cons_of_mem _ hx)) hx']
      simp only [List.flatMap_cons]
      rw [Nat.add_mul, Nat.one_mul, Nat.add_comm, ← List.drop_drop]
      congr 2
      rw [← hy, List.drop_left]

/-- An own slice reads as its list. -/
theorem OwnF.slice (h : OwnF w M gs W e size f v l) (hf : ∀ x ∈ l, (f x).length = size) : ∃ a cap, v = .slice a l.length cap ∧ SlE W size f l a l.length cap := by
  rcases h.row0.2 with ⟨hv, hn⟩ | ⟨g, cap, cur, hv, hge, hgg, hnc, hcm, hcs, htk⟩
  · have hl : l = [] := List.eq_nil_of_length_eq_zero hn
    subst hl
    exact ⟨none, 0, hv, rfl, Nat.le_refl _, Nat.zero_le _, fun _ => rfl, fun i x hx => by simp at hx⟩
  · refine ⟨_, cap, hv, rfl, hnc, hcm, fun h => (by cases h), fun i x hx => ⟨_, f x, rfl, hf x (List.mem_of_getElem? hx), fun j u hu => ?_, rfl⟩⟩
    have hlen := hf x (List.mem_of_getElem? hx)
    rw [addr_add_add _ _ _ rfl, addr_add]
    have hj : j < size := by
      have := (List.getElem?_eq_some_iff.1 hu).1
      omega
    rw [← flatMap_part hf hx, List.getElem?_take, if_pos hj, List.getElem?_drop, ← htk, List.getElem?_take] at hu
    split at hu
    · rw [← Array.getElem?_toList]  at *
      have := cell_at (W := W) (g := g) (cells := cur.toList) (ty := e) (fr := (0, 0)) (by simpa using hgg) (0 + i * size + j)
      rw [show (0 : Nat) + (i * size + j) = 0 + i * size + j by omega, this]
      simpa using hu
    · cases hu
end

/-! ### Adding -/
def elemB (P : Program) (t e : TypeId) (size bytes : Nat) : Bool :=
  match P.underlying t with
  | some (.slice e') => Nat.beq e' e && (match P.info? e with
    | some i => Nat.beq i.size size && Nat.beq i.bytes bytes && (match i.zero with
      | some z => Nat.beq z.cells.size size && Nat.blt 0 size
      | none => false)
    | none => false)
  | _ => false

structure ElemOk (P : Program) (t e : TypeId) (size bytes : Nat) (i : TypeInfo) (z : Value) : Prop where
  ht : P.underlying t = some (.slice e)
  hi : P.info? e = some i
  hz : i.zero = some z
  hsize : i.size = size
  hby : i.bytes = bytes
  hzs : z.cells.size = size
  hsz : 0 < size

theorem elemB_ok {P : Program} {t e : TypeId} {size bytes : Nat} (h : elemB P t e size bytes = true) : ∃ i z, ElemOk P t e size bytes i z := by
  unfold elemB at h
  split at h
  · rename_i e' hu
    simp only [Bool.and_eq_true] at h
    obtain ⟨he, h⟩ := h
    have he := Nat.eq_of_beq_eq_true he
    subst he
    split at h
    · rename_i i hi
      simp only [Bool.and_eq_true] at h
      obtain ⟨⟨h1, h2⟩, h3⟩ := h
      split at h3
      · rename_i z hz
        simp only [Bool.and_eq_true] at h3
        refine ⟨i, z, hu, hi, hz, Nat.eq_of_beq_eq_true h1, Nat.eq_of_beq_eq_true h2, Nat.eq_of_beq_eq_true h3.1, ?_⟩
        have := h3.2
        unfold Nat.blt at this
        exact Nat.le_of_ble_eq_true this
      · cases h3
    · cases h
  · cases h

section
variable {P : Program} {M : Nat → Prop} {w W : World} {gs : List Nat} {e : TypeId} {size : Nat} {v : Value} {n : Nat} {xs : List Value}

theorem run_append_at {t ty : TypeId} {bytes base : Nat} (he : elemB P t e size bytes = true) (hown : W.ownsRow base e size v n xs) (hbase : base ≤ W.heap.size) {a : Addr} {m c : Nat} {news : List Value} (hl : news.length = m * size)
    (hnews : ∀ j u, news[j]? = some u → W.cell? (a.add j) = some u) (h1 : ∀ u ∈ news, u.oneCell' = true) (h63 : n + m ≤ maxLen) (hbytes : (n + m) * bytes ≤ 140737488355328) :
    ∃ v' w', (Builtin.append_ #[t, t] ty #[v, .slice (some a) m c]).run P W = .ok v' w' ∧ w'.ownsRow base e size v' (n + m) (xs ++ news) ∧ W.grownBy w' v.ownBlock ∧ (v'.ownBlock = v.ownBlock ∨ ∀ k, v'.ownBlock = some k → W.heap.size ≤ k) := by
  obtain ⟨i, z, ok⟩ := elemB_ok he
  rcases hown.2 with ⟨rfl, rfl⟩ | ⟨g, cap, cur, rfl, hbg, hg, hnc, hcm, hcs, htake⟩
  · have hxs : xs = [] := List.eq_nil_of_length_eq_zero (by simpa using hown.1)
    subst hxs
    obtain ⟨v', w', hr, ho, hgr, _⟩ := run_append_own (P := P) W W.heap.size t ty e i z size bytes ok.ht ok.hi ok.hz ok.hsize ok.hby ok.hzs ok.hsz _ 0 [] (World.ownsRow_nil W W.heap.size e size) a m c news hl hnews h1 h63 hbytes (Nat.le_refl _)
    refine ⟨v', w', hr, ⟨ho.1, ?_⟩, hgr, .inr fun k hk => (ho.lt k hk).1⟩
    rcases ho.2 with h | ⟨g, cap, cur, hv, hge, rest⟩
    · exact .inl h
    · exact .inr ⟨g, cap, cur, hv, Nat.le_trans hbase hge, rest⟩
  · by_cases hroom : n + m ≤ cap
    · obtain ⟨w', hr, ho, hgr⟩ := run_append_fits (P := P) W base t ty e i size ok.ht ok.hi ok.hsize g n cap xs hown a m c news hl hnews h1 hroom
      exact ⟨_, w', hr, ho, hgr, .inl rfl⟩
    · obtain ⟨v', w', hr, ho, hgr, _⟩ := run_append_own (P := P) W base t ty e i z size bytes ok.ht ok.hi ok.hz ok.hsize ok.hby ok.hzs ok.hsz _ n xs hown a m c news hl hnews h1 h63 hbytes hbase
      have holds : ∀ j u, xs[j]? = some u → W.cell? ((⟨g, 0, none⟩ : Addr).add j) = some u := hown.cells (g := g) rfl
      have hsmall : n + m ≤ 9223372036854775807 := by simp only [maxLen] at h63; omega
      have hr2 := run_append_grow (P := P) W t ty e i z ok.ht ok.hi ok.hz ⟨g, 0, none⟩ n cap xs (by rw [ok.hsize]; exact hown.1) holds a m c news (by rw [ok.hsize]; exact hl) hnews (by omega) (by omega) (growslice_fits (by omega) (by rw [ok.hby]; exact hbytes))
      rw [hr] at hr2
      have hv' : v' = _ := (Result.ok.inj hr2).1
      refine ⟨v', w', hr, ho, hgr, .inr fun k hk => ?_⟩
      rw [hv'] at hk
      simp [Value.ownBlock] at hk
      omega

theorem opw_appendRaw {t ty : TypeId} {fl : Array Bool} {bytes : Nat} (he : elemB P t e size bytes = true) (hA : AtF w M gs W) (hown : W.ownsRow 0 e size v n xs) (hmine : ∀ k, v.ownBlock = some k → w.heap.size ≤ k ∨ M k) (hap : ∀ g ∈ gs, v.ownBlock ≠ some g) {a : Addr} {m c : Nat} {news : List Value} (hl : news.length = m * size)
    (hnews : ∀ j u, news[j]? = some u → W.cell? (a.add j) = some u) (h1 : ∀ u ∈ news, u.oneCell' = true) (h63 : n + m ≤ maxLen) (hbytes : (n + m) * bytes ≤ 140737488355328) {K : Value → World → Prop}
    (h : ∀ v' w', AtF w M gs w' → Keeps gs W w' → W.grownBy w' v.ownBlock → w'.ownsRow 0 e size v' (n + m) (xs ++ news) → (∀ k, v'.ownBlock = some k → w.heap.size ≤ k ∨ M k) → (∀ g ∈ gs, v'.ownBlock ≠ some g) → (v'.ownBlock = v.ownBlock ∨ ∀ k, v'.ownBlock = some k → W.heap.size ≤ k) → K v' w') :
    OpW P (builtin .append #[t, t] ty fl #[v, .slice (some a) m c]) W K := by
  obtain ⟨v', w', hr, ho, hgr, hb⟩ := run_append_at (ty := ty) he hown (Nat.zero_le _) hl hnews h1 h63 hbytes
  have hrun : (builtin .append #[t, t] ty fl #[v, .slice (some a) m c]).run P W = .ok (.value v') w' := by
    show (do pure (Next.value (← Builtin.append_ #[t, t] ty #[v, .slice (some a) m c])) : Sem Next).run P W = _
    rw [run_bind_ok hr]
    rfl
  unfold OpW
  rw [hrun]
  refine h v' w' (hA.step (Chg.of_grown hgr (run_drawn hr)) fun k _ hk => hmine k hk) (fun g hg => hgr.block g (hA.under g hg) fun e => hap g hg e.symm) hgr ho (fun k hk => ?_) (fun g hg hv => ?_) hb
  · rcases hb with hb | hb
    · exact hmine k (hb ▸ hk)
    · exact .inl (Nat.le_trans hA.size (hb k hk))
  rcases hb with hb | hb
  · exact hap g hg (hb ▸ hv)
  · have := hb g hv
    have := hA.under g hg
    omega
end

/-- One element more. -/
theorem opw_append1 {α : Type} {P : Program} {M : Nat → Prop} {w W : World} {gs : List Nat} {e : TypeId} {size : Nat} {f : α → List Value} {v : Value} {l : List α} {t ty : TypeId} {fl : Array Bool} {bytes : Nat} (he : elemB P t e size bytes = true) (hA : AtF w M gs W) (ho : OwnF w M gs W e size f v l) {a : Addr} {c : Nat} {x : α} (hl : (f x).length = size)
    (hnews : ∀ j u, (f x)[j]? = some u → W.cell? (a.add j) = some u) (h1 : ∀ u ∈ f x, u.oneCell' = true) (h63 : l.length + 1 ≤ 70368744177664) (hby : bytes = 1 ∨ (l.length + 1) * bytes ≤ 140737488355328) {K : Value → World → Prop}
    (h : ∀ v' w', AtF w M gs w' → Keeps gs W w' → W.grownBy w' v.ownBlock → OwnF w M gs w' e size f v' (l ++ [x]) → (v'.ownBlock = v.ownBlock ∨ ∀ k, v'.ownBlock = some k → W.heap.size ≤ k) → K v' w') :
    OpW P (builtin .append #[t, t] ty fl #[v, .slice (some a) 1 c]) W K := by
  refine opw_appendRaw he hA ho.row0 ho.mine ho.apart (m := 1) (by simpa using hl) hnews h1 (by simp only [maxLen]; omega) ?_ fun v' w' hA' hk hg hr hmi hap hb => h v' w' hA' hk hg ⟨?_, hmi, hap⟩ hb
  · rcases hby with rfl | h
    · omega
    · exact h
  · simpa using hr

/-- All elements of a slice more. -/
theorem opw_appendS {α : Type} {P : Program} {M : Nat → Prop} {w W : World} {gs : List Nat} {e : TypeId} {size : Nat} {f : α → List Value} {v : Value} {l l2 : List α} {t ty : TypeId} {fl : Array Bool} {bytes : Nat} (he : elemB P t e size bytes = true) (hA : AtF w M gs W) (ho : OwnF w M gs W e size f v l) {a : Option Addr} {len c : Nat} (hs : SlE W size f l2 a len c)
    (hf : ∀ x ∈ l2, (f x).length = size) (h1 : ∀ x ∈ l2, ∀ u ∈ f x, u.oneCell' = true) (h63 : l.length + l2.length ≤ maxLen) (hby : (l.length + l2.length) * bytes ≤ 140737488355328) {K : Value → World → Prop}
    (h : ∀ v' w', AtF w M gs w' → Keeps gs W w' → W.grownBy w' v.ownBlock → OwnF w M gs w' e size f v' (l ++ l2) → K v' w') :
    OpW P (builtin .append #[t, t] ty fl #[v, .slice a len c]) W K := by
  obtain ⟨hlen, hlc, hcm, hnone, hat⟩ := hs
  subst hlen
  cases a with
  | none =>
    have hc : c = 0 := hnone rfl
    subst hc
    have h0 : l2 = [] := List.eq_nil_of_length_eq_zero (by omega)
    subst h0
    obtain ⟨i, z, ok⟩ := elemB_ok he
    have hr := run_append_owned_none (P := P) W 0 t ty e i size ok.ht ok.hi v l.length _ ho.row0
    have hrun : (builtin .append #[t, t] ty fl #[v, .slice none 0 0]).run P W = .ok (.value v) W := by
      show (do pure (Next.value (← Builtin.append_ #[t, t] ty #[v, .slice none 0 0])) : Sem Next).run P W = _
      rw [run_bind_ok hr]
      rfl
    unfold OpW
    rw [show ([] : List α).length = 0 from rfl, hrun]
    exact h v W hA (fun _ _ => rfl) ⟨rfl, rfl, rfl, Nat.le_refl _, fun _ _ _ => rfl⟩ (by rw [List.append_nil]; exact ho)
  | some ad =>
    have hfl : (l2.flatMap f).length = l2.length * size := by
      clear hat h63 hby h hlc hnone h1
      induction l2 with
      | nil => simp
      | cons x l2 ih =>
        rw [List.flatMap_cons, List.length_append, List.length_cons, hf x (List.mem_cons_self ..), ih fun y hy => hf y (List.mem_cons_of_mem _ hy), Nat.add_mul]
        omega
    have hcells : ∀ j u, (l2.flatMap f)[j]? = some u → W.cell? (ad.add j) = some u := by
      intro j u hu
      have hj := (List.getElem?_eq_some_iff.1 hu).1
      rw [hfl] at hj
      have hsz : 0 < size := by
        rcases Nat.eq_zero_or_pos size with h | h
        · subst h; omega
        · exact h
      have hi : j / size < l2.length := Nat.div_lt_of_lt_mul (by rw [Nat.mul_comm]; exact hj)
      obtain ⟨ad', cs, hae, hcl, hcs, hcf⟩ := hat (j / size) _ (List.getElem?_eq_getElem hi)
      cases hae
      subst hcf
      have hp := flatMap_part hf (List.getElem?_eq_getElem hi)
      have hm : j % size < size := Nat.mod_lt _ hsz
      have hdm : j / size * size + j % size = j := by rw [Nat.mul_comm]; exact Nat.div_add_mod j size
      have hv : (f l2[j / size])[j % size]? = some u := by
        rw [← hp, List.getElem?_take, if_pos hm, List.getElem?_drop, hdm]
        exact hu
      have := hcs _ _ hv
      have hadd : (ad.add (j / size * size)).add (j % size) = ad.add j := by
        rcases Option.eq_none_or_eq_some ad.spot with hsp | ⟨s, hsp⟩
        · rw [addr_add_add _ _ _ hsp, hdm]
        · unfold Addr.add
          obtain ⟨b, o, sp⟩ := ad
          simp only at hsp
          subst hsp
          by_cases h1 : j / size * size = 0
          · rw [h1] at hdm
            rw [Nat.zero_add] at hdm
            simp [h1, hdm]
          · have h3 : j ≠ 0 := by omega
            by_cases h2 : j % size = 0
            · rw [h2] at hdm
              simp [h1, h2, h3]
              omega
            · simp [h1, h2, h3]
              omega
      rw [hadd] at this
      exact this
    refine opw_appendRaw he hA ho.row0 ho.mine ho.apart hfl hcells (fun u hu => ?_) h63 hby fun v' w' hA' hk hg hr hmi hap _ => h v' w' hA' hk hg ⟨?_, hmi, hap⟩
    · obtain ⟨x, hx, hxu⟩ := List.mem_flatMap.1 hu
      exact h1 x hx u hxu
    · rw [List.length_append, List.flatMap_append]
      exact hr
end Go.Vc

/- Slices, continued: an element read; a row made; an element stored. -/
namespace Go.Vc
open Go Go.RowKit

section
variable {α : Type} {P : Program} {M : Nat → Prop} {w W W' : World} {gs ds : List Nat} {e : TypeId} {size : Nat} {f : α → List Value} {l : List α} {a : Option Addr} {n c : Nat}

theorem OwnF.sl (h : OwnF w M gs W e size f (.slice a n c) l) (hf : ∀ x ∈ l, (f x).length = size) : SlE W size f l a n c := by
  obtain ⟨a', c', hv, hs⟩ := h.slice hf
  obtain ⟨rfl, rfl, rfl⟩ := Value.slice.inj hv
  exact hs
theorem OwnF.len (h : OwnF w M gs W e size f (.slice a n c) l) : n = l.length := by
  rcases h.row0.2 with ⟨hv, hn⟩ | ⟨g, cap, cur, hv, _⟩
  · rw [hn]; exact (Value.slice.inj hv).2.1
  · exact (Value.slice.inj hv).2.1
theorem OwnF.ptr (h : OwnF w M gs W e size f (.slice a n c) l) (hl : 0 < l.length) : ∃ g cur, a = some ⟨g, 0, none⟩ ∧ 0 ≤ g ∧ W.heap[g]? = some (.cells cur e (0, 0)) ∧ l.length ≤ c ∧ c ≤ maxLen ∧ cur.size = c * size ∧ cur.toList.take (l.length * size) = l.flatMap f := by
  rcases h.row0.2 with ⟨hv, hn⟩ | ⟨g, cap, cur, hv, rest⟩
  · omega
  · obtain ⟨rfl, rfl, rfl⟩ := Value.slice.inj hv
    exact ⟨g, cur, rfl, rest⟩

theorem rd_agg {t te : TypeId} {x : α} {i : Nat} {k : IntKind} (hs : SlE W size f l a n c) (hx : l[i]? = some x) (ht : P.underlying t = some (.slice e)) (hz : pureRun P (sizeOf e) = some size) (hagg : pureRun P (isAgg te) = some true) (hsz : pureRun P (sizeOf te) = some (f x).length) (hd : ∀ d ∈ ds, ∀ b, a = some b → d ≠ b.block) :
    ∃ ad, Gives P (Instr.indexAt t (.slice a n c) (.int k (i : Int))) (.pointer (some ad)) ∧ Reads P ds (Instr.loadAt te (.pointer (some ad))) W (.agg (f x).toArray) := by
  obtain ⟨ad, cs, rfl, hcl, hcs, rfl⟩ := hs.at_ hx
  have hi := (List.getElem?_eq_some_iff.1 hx).1
  refine ⟨_, gives_index ht hz (by rw [hs.1]; exact hi), reads_agg hagg hsz (fun d hm => ?_) hcs⟩
  have hb : (ad.add (i * size)).block = ad.block := by unfold Addr.add; split <;> rfl
  rw [hb]
  exact hd d hm ad rfl

theorem rd_one {t te : TypeId} {x : α} {i : Nat} {k : IntKind} {u : Value} (hs : SlE W size f l a n c) (hx : l[i]? = some x) (hu : f x = [u]) (ht : P.underlying t = some (.slice e)) (hz : pureRun P (sizeOf e) = some size) (hagg : pureRun P (isAgg te) = some false) (hd : ∀ d ∈ ds, ∀ b, a = some b → d ≠ b.block) :
    ∃ ad, Gives P (Instr.indexAt t (.slice a n c) (.int k (i : Int))) (.pointer (some ad)) ∧ Reads P ds (Instr.loadAt te (.pointer (some ad))) W u := by
  obtain ⟨ad, cs, rfl, hcl, hcs, rfl⟩ := hs.at_ hx
  have hi := (List.getElem?_eq_some_iff.1 hx).1
  refine ⟨_, gives_index ht hz (by rw [hs.1]; exact hi), reads_one hagg (fun d hm => ?_) ?_⟩
  · have hb : (ad.add (i * size)).block = ad.block := by unfold Addr.add; split <;> rfl
    rw [hb]
    exact hd d hm ad rfl
  · have := hcs 0 u (by rw [hu]; rfl)
    have ha : (ad.add (i * size)).add 0 = ad.add (i * size) := by
      generalize ad.add (i * size) = q
      unfold Addr.add
      simp
    rwa [ha] at this

theorem flatMap_len (hf : ∀ x ∈ l, (f x).length = size) : (l.flatMap f).length = l.length * size := by
  induction l with
  | nil => simp
  | cons x l ih =>
    rw [List.flatMap_cons, List.length_append, List.length_cons, hf x (List.mem_cons_self ..), ih fun y hy => hf y (List.mem_cons_of_mem _ hy), Nat.add_mul]
    omega

theorem flatMap_set {i : Nat} {y : α} (hf : ∀ x ∈ l, (f x).length = size) (hi : i < l.length) : (l.set i y).flatMap f = (l.flatMap f).take (i * size) ++ f y ++ (l.flatMap f).drop (i * size + size) := by
  induction l generalizing i with
  | nil => simp at hi
  | cons x l ih =>
    have hx := hf x (List.mem_cons_self ..)
    cases i with
    | zero =>
      simp only [List.set_cons_zero, List.flatMap_cons, Nat.zero_mul, List.take_zero, List.nil_append, Nat.zero_add]
      rw [← hx, List.drop_left]
    | succ i =>
      have := ih (i := i) (fun x hx => hf x (List.mem_cons_of_mem _ hx)) (by simpa using hi)
      simp only [List.set_cons_succ, List.flatMap_cons, this]
      have e1 : (i + 1) * size = (f x).length + i * size := by rw [hx, Nat.add_mul]; omega
      rw [e1, List.take_length_add_append, Nat.add_assoc, List.drop_length_add_append]
      simp [List.append_assoc]

theorem take_mid {β : Type} {cur xs y : List β} {L a s : Nat} (h : cur.take L = xs) (hL : xs.length = L) (hy : y.length = s) (ha : a + s ≤ L) :
    (cur.take a ++ y ++ cur.drop (a + s)).take L = xs.take a ++ y ++ xs.drop (a + s) := by
  have hc : cur = xs ++ cur.drop L := by rw [← h, List.take_append_drop]
  have e1 : cur.take a = xs.take a := by rw [← h, List.take_take, Nat.min_eq_left (by omega)]
  have e2 : cur.drop (a + s) = xs.drop (a + s) ++ cur.drop L := by
    rw [hc, List.drop_append_of_le_length (by omega), ← hc]
  rw [e1, e2, ← List.append_assoc]
  have hl : (xs.take a ++ y ++ xs.drop (a + s)).length = L := by
    simp only [List.length_append, List.length_take, List.length_drop, hL]
    omega
  have := List.take_left (l₁ := xs.take a ++ y ++ xs.drop (a + s)) (l₂ := cur.drop L)
  rwa [hl] at this

/-- An element is stored. -/
theorem opw_store {te : TypeId} {i : Nat} {y : α} {x : Value} (hA : AtF w M gs W) (ho : OwnF w M gs W e size f (.slice a n c) l) (hf : ∀ x ∈ l, (f x).length = size) (hi : i < l.length) (hy : x.cells.toList = f y) (hyl : (f y).length = size) (h1 : (f y).all oneCell = true) (hsz : pureRun P (sizeOf te) = some size) {K : Value → World → Prop}
    (h : ∀ w', AtF w M gs w' → Keeps gs W w' → W.grownBy w' (Value.slice a n c).ownBlock → OwnF w M gs w' e size f (.slice a n c) (l.set i y) → K undef w') {ad : Addr} (had : ∀ g, a = some ⟨g, 0, none⟩ → ad = ⟨g, i * size, none⟩) :
    OpW P (skipS (Instr.storeAt te (.pointer (some ad)) x)) W K := by
  obtain ⟨g, cur, rfl, hge, hg, hlc, hcm, hcs, htk⟩ := ho.ptr (by omega)
  have had := had g rfl
  subst had
  have hn := ho.len
  have hle : i * size + size ≤ l.length * size := by
    have := Nat.mul_le_mul_right size (show i + 1 ≤ l.length by omega)
    rw [Nat.add_mul] at this
    omega
  have hle2 : l.length * size ≤ cur.size := by rw [hcs]; exact Nat.mul_le_mul_right _ hlc
  have hcl : cellStore P te cur.toList (i * size) x = some (cur.toList.take (i * size) ++ f y ++ cur.toList.drop (i * size + size)) := by
    unfold cellStore
    rw [hsz]
    simp only [hy, h1]
    have b1 : Nat.beq (f y).length size = true := by rw [hyl]; exact Nat.beq_refl _
    have b2 : Nat.ble (i * size + size) cur.toList.length = true := Nat.ble_eq_true_of_le (by rw [Array.length_toList]; omega)
    rw [b1, b2]
    rfl
  obtain ⟨W', hr, hg', hb, hs1, h2, h3, h4⟩ := run_cellStore (P := P) (t := te) (cells := cur.toList) (by simpa using hg) hcl
  have hgr : W.grownBy W' (some g) := ⟨h2, h3, h4, by omega, fun k _ hk => hb k (fun e => hk (by rw [e]))⟩
  have hsk : (skipS (Instr.storeAt te (.pointer (some ⟨g, i * size, none⟩)) x)).run P W = .ok .skip W' := by
    unfold skipS
    rw [run_bind_ok hr]
    rfl
  unfold OpW
  rw [hsk]
  refine h W' (hA.step (Chg.of_grown hgr (run_drawn hr)) fun k _ hk => ho.mine k hk) (fun g' hm => hgr.block g' (hA.under g' hm) fun e => ho.apart g' hm e.symm) hgr ⟨⟨?_, .inr ⟨g, c, _, ?_, hge, hg', ?_, hcm, ?_, ?_⟩⟩, ho.mine, ho.apart⟩
  · rw [flatMap_set hf hi, List.length_set]
    have := flatMap_len hf
    simp only [List.length_append, List.length_take, List.length_drop, hyl]
    omega
  · rw [List.length_set, hn]
  · rw [List.length_set]; exact hlc
  · simp only [List.size_toArray, List.length_append, List.length_take, List.length_drop, hyl, Array.length_toList]
    omega
  · rw [flatMap_set hf hi, List.length_set]
    exact take_mid htk (by rw [flatMap_len hf]) hyl hle

/-- A slice written out. -/
theorem opw_lit {t e' : TypeId} {len : Nat} {parts : Array (Nat × Value)} {cs : List Value} {K : Value → World → Prop} (hA : AtF w M gs W) (hc : sliceCells P t len parts = some (e', cs))
    (h : ∀ w', AtF w M gs w' → Keeps gs W w' → Bel W w' → (∀ j u, cs[j]? = some u → w'.cell? ((⟨W.heap.size, 0, none⟩ : Addr).add j) = some u) → w'.heap[W.heap.size]? = some (.cells cs.toArray e' (0, 0)) → K (.slice (some ⟨W.heap.size, 0, none⟩) len len) w') : OpW P (valueS (Instr.buildSlice t len parts)) W K := by
  refine opw_buildSlice hc (h _ (hA.call (below_alloc _)) (hA.keeps (below_alloc _)) (below_alloc _) (fun j u hu => ?_) (heap_alloc_new W _))
  rw [addr_add, cell_at (cells := cs) (ty := e') (fr := (0, 0)) (heap_alloc_new W _), Nat.zero_add]
  exact hu

/-- A row made, all zero. -/
theorem opw_make {t : TypeId} {bytes m : Nat} {kl kc : IntKind} {z : α} (he : elemB P t e size bytes = true) (hA : AtF w M gs W) (hz : ∃ i zv, P.info? e = some i ∧ i.zero = some zv ∧ zv.cells.toList = f z) (hb : bytes * m ≤ 281474976710656) (hm : m ≤ maxLen) {K : Value → World → Prop}
    (h : ∀ w', AtF w M gs w' → Keeps gs W w' → OwnF w M gs w' e size f (.slice (some ⟨W.heap.size, 0, none⟩) m m) (List.replicate m z) → W.grownBy w' none → K (.slice (some ⟨W.heap.size, 0, none⟩) m m) w') :
    OpW P (valueS (Instr.makeSlice t (.int kl (m : Int)) (.int kc (m : Int)))) W K := by
  obtain ⟨i, zv, ok⟩ := elemB_ok he
  obtain ⟨i', zv', hi', hz', hf⟩ := hz
  rw [ok.hi] at hi'
  cases hi'
  rw [ok.hz] at hz'
  cases hz'
  obtain ⟨w', hr, ho, hgr⟩ := run_make_full (P := P) W W.heap.size t e i zv size ok.ht ok.hi ok.hz ok.hsize kl kc m (by rw [ok.hby]; exact hb) hm (Nat.le_refl _)
  unfold OpW
  rw [run_valueS hr]
  have hbl : Bel W w' := ⟨⟨hgr.os, hgr.tape, hgr.output, hgr.size, fun k hk => hgr.block k hk (by simp)⟩, run_drawn hr⟩
  refine h w' (hA.call hbl) (hA.keeps hbl) (OwnF.ret hA ho (by rw [List.length_replicate]) ?_) hgr
  have hl : zv.cells.toList.length = size := by rw [Array.length_toList, ok.hzs]
  have hsz := ok.hsz
  apply List.ext_getElem?
  intro j
  have hfz : (f z).length = size := by rw [← hf]; exact hl
  have hfl : ((List.replicate m z).flatMap f).length = m * size := by
    rw [flatMap_len (size := size) (fun x hx => by rw [(List.mem_replicate.1 hx).2]; exact hfz), List.length_replicate]
  by_cases hj : j < m * size
  · have hq : j / size < m := Nat.div_lt_of_lt_mul (by rw [Nat.mul_comm]; exact hj)
    have hp := flatMap_part (l := List.replicate m z) (f := f) (size := size) (fun x hx => by rw [(List.mem_replicate.1 hx).2]; exact hfz) (i := j / size) (x := z) (by rw [List.getElem?_replicate, if_pos hq])
    have hmd : j % size < size := Nat.mod_lt _ hsz
    have hdm : j / size * size + j % size = j := by rw [Nat.mul_comm]; exact Nat.div_add_mod j size
    have e1 : ((List.replicate m z).flatMap f)[j]? = (f z)[j % size]? := by
      rw [← hp, List.getElem?_take, if_pos hmd, List.getElem?_drop, hdm]
    rw [e1, ← hf]
    have hsz0 : zv.cells.size = size := ok.hzs
    have : j % zv.cells.size < zv.cells.size := by rw [hsz0]; exact hmd
    simp [madeCells, hj, hsz0]
    rw [getElem!_pos zv.cells (j % size) (by rw [hsz0]; exact hmd)]
    simp [hmd, hsz0]
  · rw [List.getElem?_eq_none (by rw [Array.length_toList, size_madeCells]; omega), List.getElem?_eq_none (by rw [hfl]; omega)]
end

/-- A contract that returns a new slice. -/
def RetL {α : Type} (P : Program) (fn : FuncId) (args : Array Value) (W : World) (e : TypeId) (size : Nat) (f : α → List Value) (l : List α) : Prop :=
  RetQ P fn args W fun v w' => w'.ownsRow W.heap.size e size v l.length (l.flatMap f)

theorem at_calll {α : Type} {P : Program} {M : Nat → Prop} {w W : World} {gs : List Nat} {fn : FuncId} {args : Array Value} {e : TypeId} {size : Nat} {f : α → List Value} {l : List α} {K : Ending → World → Prop} (hA : AtF w M gs W) (hc : RetL P fn args W e size f l) (hf : ∀ x ∈ l, (f x).length = size)
    (hK : ∀ a c w', AtF w M gs w' → Keeps gs W w' → Bel W w' → OwnF w M gs w' e size f (.slice a l.length c) l → SlE w' size f l a l.length c → K (.returned (.slice a l.length c)) w') : Calls P fn args W K :=
  at_callq hA hc fun v w' hA' hk hb hq => by
    have ho : OwnF w M gs w' e size f v l := OwnF.ret hA hq rfl rfl
    obtain ⟨a, c, rfl, hs⟩ := ho.slice hf
    exact hK a c w' hA' hk hb ho hs
theorem leafl {α : Type} {w W : World} {gs : List Nat} {e : TypeId} {size : Nat} {f : α → List Value} {l l' : List α} {v : Value} {R : Ending → World → Prop} (h : ∀ v w', Bel w w' → w'.ownsRow w.heap.size e size v l.length (l.flatMap f) → R (.returned v) w') (hA : At w gs W) (ho : OwnL w gs W e size f v l') (hl : l' = l) : R (.returned v) W :=
  h v W hA.below (hl ▸ ho.row)
end Go.Vc

/- Strings: bytes to a string, a sum, a byte, a part, a range over the runes. -/
namespace Go.Vc
open Go Go.RowKit

abbrev u8e (x : Int) : List Value := [.int .u8 x]

section
variable {P : Program} {M : Nat → Prop} {w W : World} {gs : List Nat}

theorem one_cells {l : List Int} {k : IntKind} {a : Addr} {n c : Nat} (hs : SlE W 1 (fun x => [Value.int k x]) l (some a) n c) : (loadCells a n).run P W = .ok (l.map (Value.int k)).toArray W := by
  have hl : n = (l.map (Value.int k)).length := by rw [List.length_map]; exact hs.1
  rw [hl]
  refine run_loadCells_list (P := P) W a _ fun j v hv => ?_
  rw [List.getElem?_map] at hv
  cases hx : l[j]? with
  | none => rw [hx] at hv; cases hv
  | some x =>
    rw [hx] at hv
    simp only [Option.map_some, Option.some.injEq] at hv
    subst hv
    obtain ⟨ad, cs, ha, _, hcs, rfl⟩ := hs.at_ hx
    cases ha
    have := hcs 0 _ rfl
    have e : (a.add (j * 1)).add 0 = a.add j := by
      rw [Nat.mul_one]
      generalize a.add j = q
      unfold Addr.add
      simp
    rwa [e] at this

theorem strOfNums_eq (l : List Int) : l.foldl (fun r n => r.push (UInt8.ofNat n.toNat)) ByteArray.empty = strOfNums l := by
  rw [foldl_push_bytes]
  show (⟨#[] ++ _⟩ : ByteArray) = _
  simp [strOfNums]

theorem opw_b2s {src dst e : TypeId} {l : List Int} {a : Option Addr} {n c : Nat} {K : Value → World → Prop} (hs : P.underlying src = some (.slice e)) (he : P.underlying e = some (.int .u8)) (hd : P.underlying dst = some .string) (hl : SlE W 1 u8e l a n c)
    (h : K (.string (strOfNums l)) W) : OpW P (valueS (convert src dst (.slice a n c))) W K := by
  have hr : (convert src dst (.slice a n c)).run P W = .ok (.string (strOfNums l)) W := by
    rw [run_convert_bytes_string W src dst e a n c hs he hd]
    cases a with
    | none =>
      have hc := hl.2.2.2.1 rfl
      have h0 : l = [] := List.eq_nil_of_length_eq_zero (by have := hl.1; have := hl.2.1; omega)
      subst h0
      unfold Conv.bytesToString
      simp [Sem.run_pure]
      rfl
    | some ad =>
      rw [run_bytesToString W ad n c l (one_cells hl), strOfNums_eq]
  unfold OpW
  rw [run_valueS hr]
  exact h

theorem gives_sadd {t : TypeId} {x y : Operand} {a b : ByteArray} (h : a.size + b.size ≤ 9223372036854775807) : Gives P (binOpS .add t x y (.string a) (.string b)) (.string (a ++ b)) := by
  intro W
  unfold binOpS
  rw [run_bind_ok (show (eqGuard .add t x y (.string a) (.string b)).run P W = .ok () W from rfl), binOp_string_add]
  exact run_string_add_sum W a b h

theorem gives_index_str {t : TypeId} {s : ByteArray} {k : IntKind} {i : Nat} (ht : P.underlying t = some .string) (hi : i < s.size) : Gives P (Instr.index t (.string s) (.int k (i : Int))) (.int .u8 ((s[i]'hi).toNat : Int)) := by
  intro W
  have h := run_index_string W t s k i ht
  rw [h]
  simp [hi]

theorem opw_range_str {t : TypeId} {s : ByteArray} {K : Value → World → Prop} (ht : P.underlying t = some .string) (h : K (.pointer (some ⟨W.heap.size, 0, none⟩)) (W.alloc (.stringIter s 0))) : OpW P (valueS (Instr.range t (.string s))) W K := by
  have hr : (Instr.range t (.string s)).run P W = .ok (.pointer (some ⟨W.heap.size, 0, none⟩)) (W.alloc (.stringIter s 0)) := by
    unfold Instr.range
    rw [run_bind_ok (run_underlying ht W)]
    rfl
  unfold OpW
  rw [run_valueS hr]
  exact h

theorem opw_next_str {s : ByteArray} {pos r : Nat} {ty : TypeId} {K : Value → World → Prop} (hr : W.heap[r]? = some (.stringIter s pos))
    (hend : ¬ pos < s.size → K (.tuple #[.bool false]) W)
    (hgo : pos < s.size → K (.tuple #[.bool true, .int .i64 (pos : Int), .int .i32 ((Utf8.decode s pos).1 : Int)]) { W with heap := W.heap.setIfInBounds r (.stringIter s (pos + (Utf8.decode s pos).2)) }) :
    OpW P (valueS (Instr.next (.pointer (some ⟨r, 0, none⟩)) true ty)) W K := by
  have hget : (getObj r).run P W = .ok (.stringIter s pos) W := by
    simp [getObj, Sem.run, hr]
  by_cases hp : pos < s.size
  · have hrun : (Instr.next (.pointer (some ⟨r, 0, none⟩)) true ty).run P W = .ok (.tuple #[.bool true, .int .i64 (pos : Int), .int .i32 ((Utf8.decode s pos).1 : Int)]) { W with heap := W.heap.setIfInBounds r (.stringIter s (pos + (Utf8.decode s pos).2)) } := by
      unfold Instr.next
      simp only
      rw [run_bind_ok hget]
      simp only [hp, if_true]
      have hset : (setObj r (.stringIter s (pos + (Utf8.decode s pos).2))).run P W = .ok () { W with heap := W.heap.setIfInBounds r (.stringIter s (pos + (Utf8.decode s pos).2)) } := by
        simp [setObj, Sem.run, hr]
      rw [run_bind_ok hset]
      rfl
    unfold OpW
    rw [run_valueS hrun]
    exact hgo hp
  · have hrun : (Instr.next (.pointer (some ⟨r, 0, none⟩)) true ty).run P W = .ok (.tuple #[.bool false]) W := by
      unfold Instr.next
      simp only
      rw [run_bind_ok hget]
      simp only [hp, if_false]
      rfl
    unfold OpW
    rw [run_valueS hrun]
    exact hend hp

theorem chg_setObj {r : Nat} {o : Obj} : Chg (fun b => b = r) W { W with heap := W.heap.setIfInBounds r o } :=
  ⟨rfl, rfl, rfl, by simp, fun k _ hk => by
    show (W.heap.setIfInBounds r o)[k]? = _
    rw [Array.getElem?_setIfInBounds_ne (fun e => hk e.symm)], Nat.le_refl _⟩
theorem AtF.setObjF {r : Nat} {o : Obj} (hA : AtF w M gs W) (hr : w.heap.size ≤ r ∨ M r) : AtF w M gs { W with heap := W.heap.setIfInBounds r o } :=
  hA.step chg_setObj fun b _ hb => by subst hb; exact hr
theorem AtF.setObj {r : Nat} {o : Obj} (hA : AtF w M gs W) (hr : w.heap.size ≤ r) : AtF w M gs { W with heap := W.heap.setIfInBounds r o } := hA.setObjF (.inl hr)
theorem keeps_setObj {r : Nat} {o : Obj} (hr : r ∉ gs) : Keeps gs W { W with heap := W.heap.setIfInBounds r o } := fun g hg => by
  show (W.heap.setIfInBounds r o)[g]? = _
  rw [Array.getElem?_setIfInBounds_ne (fun e => hr (by rw [e]; exact hg))]

/-- The front of an own slice. -/
theorem gives_front {t e : TypeId} {size : Nat} {a : Option Addr} {n c m : Nat} {k : IntKind} (ht : P.underlying t = some (.slice e)) (hz : pureRun P (sizeOf e) = some size) (hm : m ≤ c) :
    Gives P (Instr.sliceAt t (.slice a n c) none (some (.int k (m : Int))) none) (.slice a m c) := by
  intro W
  have h1 : (Instr.sliceAt t (.slice a n c) none (some (.int k (m : Int))) none).run P W = (Instr.slice t (.slice a n c) none (some (.int k (m : Int))) none).run P W := run_sliceAt_slice W t _ _ _ _ (by simp [Program.elem, ht])
  rw [h1]
  unfold Instr.slice
  rw [run_bind_ok (run_underlying ht W)]
  simp only
  have hb : (Instr.sliceBounds true n c none (some (.int k (m : Int))) none).run P W = .ok (0, m, c) W := by
    unfold Instr.sliceBounds
    simp only [pure_bind]
    have := run_sliceBound (P := P) W k (m : Int) c .sliceAcap (by omega) (by omega)
    simp only [if_true]
    rw [run_bind_ok this]
    rfl
  rw [run_bind_ok hb]
  simp only
  rw [run_bind_ok (pureRun_run hz W)]
  simp only [Nat.zero_mul, Nat.sub_zero]
  have ha : (if c = 0 then a else Option.map (fun x => x.add 0) a) = a := by
    split
    · rfl
    · cases a with
      | none => rfl
      | some ad => simp [Addr.add]
  rw [ha]
  rfl

theorem ownsRow_front {base e size n m c : Nat} {a : Option Addr} {xs : List Value} (h : W.ownsRow base e size (.slice a n c) n xs) (hm : m ≤ n) : W.ownsRow base e size (.slice a m c) m (xs.take (m * size)) := by
  have hle : m * size ≤ n * size := Nat.mul_le_mul_right _ hm
  refine ⟨by rw [List.length_take, h.1, Nat.min_eq_left hle], ?_⟩
  rcases h.2 with ⟨hv, hn⟩ | ⟨g, cap, cur, hv, hge, hgg, hnc, hcm, hcs, htk⟩
  · subst hn
    have hm0 : m = 0 := by omega
    subst hm0
    exact .inl ⟨hv, rfl⟩
  · obtain ⟨rfl, _, rfl⟩ := Value.slice.inj hv
    exact .inr ⟨g, c, cur, rfl, hge, hgg, by omega, hcm, hcs, by rw [← htk, List.take_take, Nat.min_eq_left hle]⟩

theorem OwnF.front {α : Type} {e : TypeId} {size : Nat} {f : α → List Value} {a : Option Addr} {n c m : Nat} {l : List α} (h : OwnF w M gs W e size f (.slice a n c) l) (hf : ∀ x ∈ l, (f x).length = size) (hm : m ≤ l.length) : OwnF w M gs W e size f (.slice a m c) (l.take m) := by
  have hn := h.len
  subst hn
  have hr := ownsRow_front h.row0 hm
  have e1 : (l.flatMap f).take (m * size) = (l.take m).flatMap f := by
    have h2 : (l.take m).flatMap f ++ (l.drop m).flatMap f = l.flatMap f := by rw [← List.flatMap_append, List.take_append_drop]
    have hl : ((l.take m).flatMap f).length = m * size := by
      rw [flatMap_len (size := size) (fun x hx => hf x (List.mem_of_mem_take hx)), List.length_take, Nat.min_eq_left hm]
    rw [← h2, ← hl, List.take_left]
  refine ⟨?_, fun k hk => h.mine k (by cases a with
    | none => cases hk
    | some ad => exact hk), fun g hg => by have := h.apart g hg; cases a with
    | none => simp [Value.ownBlock]
    | some ad => simpa [Value.ownBlock] using this⟩
  rw [List.length_take, Nat.min_eq_left hm, ← e1]
  exact hr
end
end Go.Vc

/- An element of a slice, and its parts: the places, and what is read there. -/
namespace Go.Vc
open Go Go.RowKit

/-- The cells that lie at a place. -/
def Elt (W : World) (ad : Addr) (cs : List Value) : Prop := ∀ (j : Nat) (v : Value), cs[j]? = some v → W.cell? (ad.add j) = some v

section
variable {P : Program} {W W' : World} {ad : Addr} {cs : List Value} {ds : List Nat}

theorem Elt.below (h : Elt W ad cs) (hb : Bel W W') : Elt W' ad cs := fun j v hv => cell_below hb.below _ _ (h j v hv)
theorem Elt.evo (h : Elt W ad cs) (hb : evoP ds W W') (hd : ∀ d ∈ ds, d ≠ ad.block) : Elt W' ad cs := fun j v hv => evo_cell hb (by
    intro d hdm
    have hbk : (ad.add j).block = ad.block := by unfold Addr.add; split <;> rfl
    rw [hbk]; exact hd d hdm) (h j v hv)

theorem add_block (ad : Addr) (j : Nat) : (ad.add j).block = ad.block := by unfold Addr.add; split <;> rfl
theorem add_pos (ad : Addr) {o : Nat} (h : 0 < o) : ad.add o = ⟨ad.block, ad.off + o, none⟩ := by
  unfold Addr.add
  rw [if_neg (by omega)]

theorem Elt.sub (h : Elt W ad cs) {o : Nat} (ho : 0 < o) : Elt W ⟨ad.block, ad.off + o, none⟩ (cs.drop o) := by
  intro j v hv
  rw [List.getElem?_drop] at hv
  have := h (o + j) v hv
  rw [add_pos ad (by omega)] at this
  rw [addr_add]
  rw [show ad.off + o + j = ad.off + (o + j) by omega]
  exact this

theorem Elt.one {te : TypeId} {v : Value} {r : List Value} (h : Elt W ad (v :: r)) (hagg : pureRun P (isAgg te) = some false) (hd : ∀ d ∈ ds, d ≠ ad.block) : Reads P ds (Instr.loadAt te (.pointer (some ad))) W v :=
  reads_one hagg hd (by have := h 0 v rfl; unfold Addr.add at this; simpa using this)

theorem Elt.agg {te : TypeId} (m : Nat) (h : Elt W ad cs) (hagg : pureRun P (isAgg te) = some true) (hsz : pureRun P (sizeOf te) = some m) (hm : m ≤ cs.length) (hd : ∀ d ∈ ds, d ≠ ad.block) :
    Reads P ds (Instr.loadAt te (.pointer (some ad))) W (.agg (cs.take m).toArray) :=
  reads_agg hagg (by rw [hsz, List.length_take, Nat.min_eq_left hm]) hd (fun j v hv => h j v (by
    rw [List.getElem?_take] at hv
    split at hv
    · exact hv
    · cases hv))

theorem elt_at {α : Type} {t e : TypeId} {size : Nat} {f : α → List Value} {l : List α} {a : Option Addr} {n c : Nat} {x : α} {i : Nat} {k : IntKind} (hs : SlE W size f l a n c) (hx : l[i]? = some x) (ht : P.underlying t = some (.slice e)) (hz : pureRun P (sizeOf e) = some size) :
    ∃ ad, Gives P (Instr.indexAt t (.slice a n c) (.int k (i : Int))) (.pointer (some ad)) ∧ Elt W ad (f x) ∧ ∀ b, a = some b → ad.block = b.block := by
  obtain ⟨b, cs, rfl, hl, hcs, rfl⟩ := hs.at_ hx
  have hi := (List.getElem?_eq_some_iff.1 hx).1
  have hn := hs.1
  exact ⟨b.add (i * size), gives_index ht hz (by omega), hcs, fun b' hb' => by cases hb'; exact add_block _ _⟩

/-- A call by its contract, with the world's growth told besides. -/
theorem at_callb {M : Nat → Prop} {w W : World} {gs : List Nat} {f : FuncId} {args : Array Value} {v : Value} {K : Ending → World → Prop} (hA : AtF w M gs W) (hc : Ret P f args W v) (hK : ∀ w', AtF w M gs w' → Keeps gs W w' → Bel W w' → K (.returned v) w') : Calls P f args W K :=
  hc K fun w' hb => hK w' (hA.call hb) (hA.keeps hb) hb
/-- The own boxes out of sight. -/
theorem AtF.off {M : Nat → Prop} {w W : World} {gs : List Nat} (h : AtF w M gs W) : AtF w M [] W := ⟨h.chg, fun _ h => by cases h⟩

theorem brNB {b : Bool} {A B : Prop} (h : b = false → A) (k : b = true → B) : ((!b) = true → A) ∧ ((!b) = false → B) := ⟨fun e => h (by simpa using e), fun e => k (by simpa using e)⟩

theorem addr_add0 (ad : Addr) : ad.add 0 = ad := by unfold Addr.add; simp
/-- Adding to an address, twice. -/
theorem add_add (a : Addr) (l j : Nat) : (a.add l).add j = a.add (l + j) := by
  by_cases hl : l = 0
  · subst hl
    rw [addr_add0, Nat.zero_add]
  · rw [add_pos a (Nat.pos_of_ne_zero hl), addr_add, add_pos a (by omega)]
    rw [Nat.add_assoc]

/-- The rest of a slice, from a place on. -/
theorem gives_fromX {α : Type} {t e : TypeId} {size : Nat} {Rl : α → List Value → Prop} {l : List α} {a : Option Addr} {n c i : Nat} {k : IntKind} (hs : SlR W size Rl l a n c) (hi : i ≤ n) (ht : P.underlying t = some (.slice e)) (hz : pureRun P (sizeOf e) = some size) :
    Gives P (Instr.sliceAt t (.slice a n c) (some (.int k (i : Int))) none none) (.slice (if c = i then a else a.map (·.add (i * size))) (n - i) (c - i)) ∧ ∀ W' : World, SlR W' size Rl l a n c → SlR W' size Rl (l.drop i) (if c = i then a else a.map (·.add (i * size))) (n - i) (c - i) := by
  have hnc := hs.2.1
  refine ⟨?_, ?_⟩
  · intro W
    have h1 : (Instr.sliceAt t (.slice a n c) (some (.int k (i : Int))) none none).run P W = (Instr.slice t (.slice a n c) (some (.int k (i : Int))) none none).run P W := run_sliceAt_slice W t _ _ _ _ (by simp [Program.elem, ht])
    rw [h1]
    unfold Instr.slice
    rw [run_bind_ok (run_underlying ht W)]
    simp only
    have hb : (Instr.sliceBounds true n c (some (.int k (i : Int))) none none).run P W = .ok (i, n, c) W := by
      unfold Instr.sliceBounds
      simp only [pure_bind]
      have := run_sliceBound (P := P) W k (i : Int) n .sliceB (by omega) (by omega)
      simp only [Option.isSome_none, Bool.false_eq_true, if_false]
      rw [run_bind_ok this]
      rfl
    rw [run_bind_ok hb]
    simp only
    rw [run_bind_ok (pureRun_run hz W)]
    rfl
  · intro W' hs
    obtain ⟨h1, h2, h3, h4, h5⟩ := hs
    refine ⟨by rw [List.length_drop, h1], by omega, by omega, fun h => ?_, fun j x hx => ?_⟩
    · split at h
      · omega
      · cases a with
        | none => have := h4 rfl; omega
        | some ad => cases h
    · rw [List.getElem?_drop] at hx
      obtain ⟨ad', cs, ha, hl, hcs, hr⟩ := h5 _ x hx
      have hlt := (List.getElem?_eq_some_iff.1 hx).1
      subst ha
      refine ⟨ad'.add (i * size), cs, by rw [if_neg (by omega)]; rfl, hl, fun q v hv => ?_, hr⟩
      have := hcs q v hv
      rw [add_add] at this ⊢
      rw [add_add, ← Nat.add_assoc, ← Nat.add_mul]
      exact this
theorem gives_from {α : Type} {t e : TypeId} {size : Nat} {Rl : α → List Value → Prop} {l : List α} {a : Option Addr} {n c i : Nat} {k : IntKind} (hs : SlR W size Rl l a n c) (hi : i ≤ n) (ht : P.underlying t = some (.slice e)) (hz : pureRun P (sizeOf e) = some size) :
    ∃ a', Gives P (Instr.sliceAt t (.slice a n c) (some (.int k (i : Int))) none none) (.slice a' (n - i) (c - i)) ∧ ∀ W' : World, SlR W' size Rl l a n c → SlR W' size Rl (l.drop i) a' (n - i) (c - i) := ⟨_, gives_fromX hs hi ht hz⟩

theorem go_below0_too {M : Nat → Prop} {w W : World} {gs : List Nat} {F : World → Prop} (hA : AtF w M gs W) (h : ∀ W', AtF w M gs W' → Bel W W' → F W') : ∀ W', Bel W W' → F W' := fun W' hb => h W' (hA.call hb) hb

theorem Elt.lt {v : Value} {r : List Value} (h : Elt W ad (v :: r)) : ad.block < W.heap.size := by
  have := World.block_lt_of_cell? W _ (h 0 v rfl)
  rwa [add_block] at this
theorem Elt.far {v : Value} {r : List Value} (h : Elt W ad (v :: r)) (hd : ∀ d ∈ ds, W.heap.size ≤ d) : ∀ d ∈ ds, d ≠ ad.block := fun d hdm he => by
  have := h.lt
  have := hd d hdm
  omega

theorem AtF.sub {M : Nat → Prop} {w W : World} {gs gs' : List Nat} (h : AtF w M gs W) (hs : ∀ g ∈ gs', g ∈ gs) : AtF w M gs' W := ⟨h.chg, fun g hg => h.under g (hs g hg)⟩

theorem SlR.chg {α : Type} {n : Nat} {Rl : α → List Value → Prop} {l : List α} {a : Option Addr} {len cap : Nat} {N : Nat → Prop} (h : SlR W n Rl l a len cap) (hc : Chg N W W') (hn : ∀ b, a = some b → ¬ N b.block) : SlR W' n Rl l a len cap := by
  obtain ⟨h1, h2, h3, h4, h5⟩ := h
  refine ⟨h1, h2, h3, h4, fun i x hx => ?_⟩
  obtain ⟨ad, cs, ha, hl, hcs, hr⟩ := h5 i x hx
  refine ⟨ad, cs, ha, hl, fun j v hv => ?_, hr⟩
  have hc0 := hcs j v hv
  have hlt := World.block_lt_of_cell? W _ hc0
  have hbk : ((ad.add (i * n)).add j).block = ad.block := by rw [add_block, add_block]
  rw [World.cell?_of_block (hc.block _ hlt (by rw [hbk]; exact hn ad ha)), hc0]

theorem no_ds {ad : Addr} : ∀ d ∈ ([] : List Nat), d ≠ ad.block := fun _ h => by cases h
end
end Go.Vc

/- Vectors, plainly: parts in order of their slots. No program in sight. -/
set_option maxRecDepth 20000
namespace Go.Vc.V
open Go Go.Vc Go.RowKit

abbrev I64 (x : Int) : Prop := -9223372036854775808 ≤ x ∧ x ≤ 9223372036854775807
abbrev one (x : Int) : List Value := [.int .i64 x]
abbrev PartT := Int × Int × Int
abbrev Sl := Int × Int
abbrev slotOf (p : PartT) : Sl := (p.1, p.2.1)
abbrev partE (x : PartT) : List Value := [.int .i64 x.1, .int .i64 x.2.1, .int .i64 x.2.2]
abbrev slotV (k r : Int) : Value := .agg #[.int .i64 k, .int .i64 r]
abbrev slV (s : Sl) : Value := .agg #[.int .i64 s.1, .int .i64 s.2]
abbrev partV (x : PartT) : Value := .agg #[.int .i64 x.1, .int .i64 x.2.1, .int .i64 x.2.2]
abbrev topQ : Int := 9007199254740992
def slotR (k r : Int) : Prop := 0 ≤ k ∧ k < 4 ∧ 0 ≤ r ∧ r ≤ 32
instance (k r : Int) : Decidable (slotR k r) := by unfold slotR; infer_instance
def slotC (a b c d : Int) : Int := if a = c ∧ b = d then 0 else if a < c ∨ (a = c ∧ b < d) then -1 else 1
/-- One stands ahead of another one. -/
def slt (p q : PartT) : Prop := p.1 < q.1 ∨ (p.1 = q.1 ∧ p.2.1 < q.2.1)
instance (p q : PartT) : Decidable (slt p q) := by unfold slt; infer_instance
theorem slt_trans {p q r : PartT} (h : slt p q) (k : slt q r) : slt p r := by unfold slt at *; omega
def partR (p : PartT) : Prop := slotR p.1 p.2.1 ∧ 1 ≤ p.2.2 ∧ p.2.2 ≤ 9007199254740992
instance (p : PartT) : Decidable (partR p) := by unfold partR; infer_instance
def okB : Option PartT → PartT → Bool
  | none, _ => true
  | some q, p => decide (slt q p)
/-- A right vector, behind a part. -/
def vok : Option PartT → List PartT → Bool
  | _, [] => true
  | o, p :: r => (decide (partR p) && okB o p) && vok (some p) r
theorem vok_cons {o : Option PartT} {p : PartT} {r : List PartT} : vok o (p :: r) = ((decide (partR p) && okB o p) && vok (some p) r) := by cases o <;> rfl
theorem vok_nil {o : Option PartT} : vok o [] = true := by cases o <;> rfl
abbrev vecB (l : List PartT) : Bool := vok none l
theorem vok_step {l : List PartT} {k : Nat} {p : PartT} (hp : l[k]? = some p) {prev : Option PartT} : vok prev (l.drop k) = ((decide (partR p) && okB prev p) && vok (some p) (l.drop (k + 1))) := by
  rw [drop_cons hp, vok_cons]
theorem slotC_ge (p q : PartT) : (slotC p.1 p.2.1 q.1 q.2.1 ≥ 0) ↔ ¬ slt p q := by
  unfold slotC slt
  split
  · omega
  · split <;> omega
theorem slotC_lt (p q : PartT) : (slotC p.1 p.2.1 q.1 q.2.1 < 0) ↔ slt p q := by
  unfold slotC slt
  split
  · omega
  · split <;> omega
theorem slotC_gt (p q : PartT) : (slotC p.1 p.2.1 q.1 q.2.1 > 0) ↔ slt q p := by
  unfold slotC slt
  split
  · omega
  · split <;> omega

/-- A vector is right just if its parts are, and stand in order. -/
theorem vok_iff : ∀ (l : List PartT) (o : Option PartT), vok o l = true ↔ (∀ p ∈ l, partR p) ∧ l.Pairwise slt ∧ (∀ q, o = some q → ∀ p ∈ l, slt q p)
  | [], o => by simp [vok_nil]
  | p :: r, o => by
    rw [vok_cons, Bool.and_eq_true, Bool.and_eq_true, decide_eq_true_eq, vok_iff r (some p), List.pairwise_cons]
    constructor
    · rintro ⟨⟨h1, h2⟩, h3, h4, h5⟩
      have h5 := h5 p rfl
      refine ⟨fun q hq => ?_, ⟨h5, h4⟩, fun q hq x hx => ?_⟩
      · rcases List.mem_cons.1 hq with rfl | hq
        · exact h1
        · exact h3 q hq
      · subst hq
        have h2 : slt q p := by simpa [okB] using h2
        rcases List.mem_cons.1 hx with rfl | hx
        · exact h2
        · exact slt_trans h2 (h5 x hx)
    · rintro ⟨h1, ⟨h2, h3⟩, h4⟩
      refine ⟨⟨h1 p (by simp), ?_⟩, fun q hq => h1 q (by simp [hq]), h3, fun q hq => by cases hq; exact h2⟩
      cases o with
      | none => rfl
      | some q => simpa [okB] using h4 q rfl p (by simp)
theorem vecB_iff {l : List PartT} : vecB l = true ↔ (∀ p ∈ l, partR p) ∧ l.Pairwise slt := by
  rw [vecB, vok_iff]
  simp

/-- How much of a slot: the first part of it. -/
def amt (s : Sl) : List PartT → Int
  | [] => 0
  | p :: r => if slotOf p = s then p.2.2 else amt s r
/-- How much of a slot, of all parts. -/
def tot (s : Sl) : List PartT → Int
  | [] => 0
  | p :: r => (if slotOf p = s then p.2.2 else 0) + tot s r
/-- How much of a kind. -/
def sumK (k : Int) : List PartT → Int
  | [] => 0
  | p :: r => (if p.1 = k then p.2.2 else 0) + sumK k r
theorem tot_append (s : Sl) : ∀ a b : List PartT, tot s (a ++ b) = tot s a + tot s b
  | [], b => by simp [tot]
  | p :: a, b => by simp only [List.cons_append, tot, tot_append s a b]; omega
theorem sumK_append (k : Int) : ∀ (a b : List PartT), sumK k (a ++ b) = sumK k a + sumK k b
  | [], b => by simp [sumK]
  | p :: a, b => by simp only [List.cons_append, sumK, sumK_append k a b]; omega
theorem tot_none {s : Sl} : ∀ {l : List PartT}, (∀ p ∈ l, slotOf p ≠ s) → tot s l = 0
  | [], _ => rfl
  | p :: r, h => by rw [tot, if_neg (h p (by simp)), tot_none fun q hq => h q (by simp [hq])]; rfl
theorem amt_none {s : Sl} : ∀ {l : List PartT}, (∀ p ∈ l, slotOf p ≠ s) → amt s l = 0
  | [], _ => rfl
  | p :: r, h => by rw [amt, if_neg (h p (by simp)), amt_none fun q hq => h q (by simp [hq])]
theorem slt_ne {p q : PartT} (h : slt p q) : slotOf q ≠ slotOf p := by
  unfold slt at h
  intro e
  simp only [slotOf, Prod.mk.injEq] at e
  omega
theorem amt_tot {s : Sl} : ∀ {l : List PartT}, l.Pairwise slt → amt s l = tot s l
  | [], _ => rfl
  | p :: r, h => by
    have h := List.pairwise_cons.1 h
    rw [amt, tot]
    split
    · rename_i e
      rw [tot_none fun q hq e2 => slt_ne (h.1 q hq) (e2.trans e.symm)]
      omega
    · rw [amt_tot h.2]; omega
theorem amt_nonneg {s : Sl} : ∀ {l : List PartT}, (∀ p ∈ l, partR p) → 0 ≤ amt s l ∧ amt s l ≤ 9007199254740992
  | [], _ => by simp [amt]
  | p :: r, h => by
    rw [amt]
    split
    · have := (h p (by simp)).2
      omega
    · exact amt_nonneg fun q hq => h q (by simp [hq])
theorem amt_mem {p : PartT} : ∀ {l : List PartT}, l.Pairwise slt → p ∈ l → amt (slotOf p) l = p.2.2
  | [], _, h => by cases h
  | q :: r, h, hp => by
    have h := List.pairwise_cons.1 h
    rw [amt]
    rcases List.mem_cons.1 hp with rfl | hp
    · rw [if_pos rfl]
    · rw [if_neg (fun e => slt_ne (h.1 p hp) e.symm), amt_mem h.2 hp]
theorem mem_amt {s : Sl} : ∀ {l : List PartT}, amt s l ≠ 0 → (s.1, s.2, amt s l) ∈ l
  | [], h => absurd rfl h
  | q :: r, h => by
    rw [amt] at h ⊢
    split
    · rename_i e
      rw [← e]
      exact List.mem_cons_self ..
    · rename_i e
      rw [if_neg e] at h
      exact List.mem_cons_of_mem _ (mem_amt h)

/-- Two right vectors with as much of each slot are one. -/
theorem vec_ext : ∀ {a b : List PartT}, vecB a = true → vecB b = true → (∀ s, amt s a = amt s b) → a = b := by
  suffices H : ∀ (a b : List PartT), (∀ p ∈ a, partR p) → a.Pairwise slt → (∀ p ∈ b, partR p) → b.Pairwise slt → (∀ s, amt s a = amt s b) → a = b from
    fun {a b} ha hb h => H a b (vecB_iff.1 ha).1 (vecB_iff.1 ha).2 (vecB_iff.1 hb).1 (vecB_iff.1 hb).2 h
  intro a
  induction a with
  | nil =>
    intro b _ _ hb _ h
    cases b with
    | nil => rfl
    | cons q b =>
      have := h (slotOf q)
      rw [amt, amt, if_pos rfl] at this
      have := (hb q (by simp)).2
      omega
  | cons p a ih =>
    intro b ha ha2 hb hb2 h
    have ha' := List.pairwise_cons.1 ha2
    cases b with
    | nil =>
      have := h (slotOf p)
      rw [amt, amt, if_pos rfl] at this
      have := (ha p (by simp)).2
      omega
    | cons q b =>
      have hb' := List.pairwise_cons.1 hb2
      have hp := (ha p (by simp)).2
      have hq := (hb q (by simp)).2
      have no1 : ¬ slt p q := fun hlt => by
        have := h (slotOf p)
        rw [amt, if_pos rfl, amt_none (l := q :: b) (fun x hx => by
          rcases List.mem_cons.1 hx with rfl | hx
          · exact slt_ne hlt
          · exact slt_ne (slt_trans hlt (hb'.1 x hx)))] at this
        omega
      have no2 : ¬ slt q p := fun hlt => by
        have := h (slotOf q)
        rw [amt_none (l := p :: a) (fun x hx => by
          rcases List.mem_cons.1 hx with rfl | hx
          · exact slt_ne hlt
          · exact slt_ne (slt_trans hlt (ha'.1 x hx))), amt, if_pos rfl] at this
        omega
      have es : slotOf p = slotOf q := by
        unfold slt at no1 no2
        simp only [slotOf, Prod.mk.injEq]
        omega
      have ea : p.2.2 = q.2.2 := by
        have := h (slotOf p)
        rw [amt, if_pos rfl, amt, if_pos es.symm] at this
        exact this
      have epq : p = q := by
        obtain ⟨p1, p2, p3⟩ := p
        obtain ⟨q1, q2, q3⟩ := q
        simp only [slotOf, Prod.mk.injEq] at es ea ⊢
        exact ⟨es.1, es.2, ea⟩
      subst epq
      rw [ih b (fun x hx => ha x (by simp [hx])) ha'.2 (fun x hx => hb x (by simp [hx])) hb'.2 fun s => ?_]
      by_cases hs : slotOf p = s
      · subst hs
        rw [amt_none fun x hx => slt_ne (ha'.1 x hx), amt_none fun x hx => slt_ne (hb'.1 x hx)]
      · have := h s
        rw [amt, amt, if_neg hs, if_neg hs] at this
        exact this

/-! ### Kinds -/
def rs : List Nat := List.range 33
def rsum (f : Nat → Int) : Nat → Int
  | 0 => 0
  | n + 1 => rsum f n + f n
theorem rsum_add (f g : Nat → Int) : ∀ n, rsum (fun r => f r + g r) n = rsum f n + rsum g n
  | 0 => rfl
  | n + 1 => by simp only [rsum, rsum_add f g n]; omega
theorem rsum_zero {f : Nat → Int} : ∀ {n}, (∀ r, r < n → f r = 0) → rsum f n = 0
  | 0, _ => rfl
  | n + 1, h => by rw [rsum, rsum_zero fun r hr => h r (by omega), h n (by omega)]; rfl
theorem rsum_one {f : Nat → Int} {j : Nat} {v : Int} : ∀ {n}, j < n → (∀ r, r < n → f r = if r = j then v else 0) → rsum f n = v
  | 0, hj, _ => by omega
  | n + 1, hj, h => by
    rw [rsum]
    by_cases hjn : j = n
    · subst hjn
      rw [rsum_zero fun r hr => by rw [h r (by omega), if_neg (by omega)], h j (by omega), if_pos rfl]; omega
    · rw [rsum_one (j := j) (by omega) fun r hr => h r (by omega), h n (by omega), if_neg (by omega)]; omega
theorem rsum_congr {f g : Nat → Int} : ∀ {n}, (∀ r, r < n → f r = g r) → rsum f n = rsum g n
  | 0, _ => rfl
  | n + 1, h => by rw [rsum, rsum, rsum_congr fun r hr => h r (by omega), h n (by omega)]
/-- A kind's sum, slot by slot. -/
theorem sumK_tot (k : Int) : ∀ {l : List PartT}, (∀ p ∈ l, slotR p.1 p.2.1) → sumK k l = rsum (fun r => tot (k, (r : Int)) l) 33
  | [], _ => by rw [rsum_zero]; rfl; intro r _; rfl
  | p :: l, h => by
    have hp := h p (by simp)
    unfold slotR at hp
    have e : (fun r : Nat => tot (k, (r : Int)) (p :: l)) = fun r : Nat => (if slotOf p = (k, (r : Int)) then p.2.2 else 0) + tot (k, (r : Int)) l := rfl
    rw [sumK, sumK_tot k fun q hq => h q (by simp [hq]), e, rsum_add]
    congr 1
    by_cases hk : p.1 = k
    · rw [if_pos hk, rsum_one (j := p.2.1.toNat) (v := p.2.2) (by omega)]
      intro r _
      by_cases hr : r = p.2.1.toNat
      · rw [if_pos hr, if_pos]
        simp only [slotOf, Prod.mk.injEq]
        omega
      · rw [if_neg hr, if_neg]
        simp only [slotOf, Prod.mk.injEq]
        omega
    · rw [if_neg hk, rsum_zero]
      intro r _
      rw [if_neg]
      simp only [slotOf, Prod.mk.injEq]
      exact fun e => hk e.1
theorem slots_of {l : List PartT} (h : vecB l = true) : ∀ p ∈ l, slotR p.1 p.2.1 := fun p hp => ((vecB_iff.1 h).1 p hp).1
/-- Sums of kinds follow the sums of slots. -/
theorem sumK_add {a b c : List PartT} (ha : ∀ p ∈ a, slotR p.1 p.2.1) (hb : ∀ p ∈ b, slotR p.1 p.2.1) (hc : ∀ p ∈ c, slotR p.1 p.2.1) (h : ∀ s, tot s c = tot s a + tot s b) (k : Int) : sumK k c = sumK k a + sumK k b := by
  rw [sumK_tot k ha, sumK_tot k hb, sumK_tot k hc, ← rsum_add]
  exact rsum_congr fun r _ => h _

/-! ### The vector of any parts -/
def allS : List Sl := (List.range 4).flatMap fun (k : Nat) => (List.range 33).map fun (r : Nat) => ((k : Int), (r : Int))
theorem mem_allS {s : Sl} : s ∈ allS ↔ slotR s.1 s.2 := by
  unfold allS slotR
  rw [List.mem_flatMap]
  constructor
  · rintro ⟨k, hk, hs⟩
    obtain ⟨r, hr, rfl⟩ := List.mem_map.1 hs
    simp at hk hr
    simp only
    omega
  · intro h
    refine ⟨s.1.toNat, by simp; omega, List.mem_map.2 ⟨s.2.toNat, by simp; omega, ?_⟩⟩
    obtain ⟨a, b⟩ := s
    simp only at h ⊢
    simp only [Prod.mk.injEq]
    omega
theorem allS_sorted : allS.Pairwise (fun s t => s.1 < t.1 ∨ (s.1 = t.1 ∧ s.2 < t.2)) := by decide +kernel
def canon (l : List PartT) : List PartT := allS.filterMap fun s => if 0 < tot s l then some (s.1, s.2, tot s l) else none
theorem mem_canon {l : List PartT} {p : PartT} : p ∈ canon l ↔ slotR p.1 p.2.1 ∧ p.2.2 = tot (slotOf p) l ∧ 0 < p.2.2 := by
  unfold canon
  rw [List.mem_filterMap]
  constructor
  · rintro ⟨s, hs, h⟩
    split at h
    · rename_i hp
      simp only [Option.some.injEq] at h
      subst h
      exact ⟨mem_allS.1 hs, rfl, hp⟩
    · cases h
  · rintro ⟨h1, h2, h3⟩
    refine ⟨slotOf p, mem_allS.2 h1, ?_⟩
    rw [if_pos (by rw [← h2]; exact h3), ← h2]
theorem canon_sorted (l : List PartT) : (canon l).Pairwise slt := by
  unfold canon
  rw [List.pairwise_filterMap]
  refine allS_sorted.imp fun {s t} h x hx y hy => ?_
  split at hx
  · split at hy
    · simp only [Option.some.injEq] at hx hy
      subst hx hy
      exact h
    · cases hy
  · cases hx
theorem canon_vec {l : List PartT} (h : ∀ s, slotR s.1 s.2 → tot s l ≤ topQ) : vecB (canon l) = true :=
  vecB_iff.2 ⟨fun p hp => by
    obtain ⟨h1, h2, h3⟩ := mem_canon.1 hp
    have := h (slotOf p) h1
    exact ⟨h1, by omega, by simp only [topQ] at this; omega⟩, canon_sorted l⟩
theorem amt_canon {l : List PartT} {s : Sl} (hs : slotR s.1 s.2) (h0 : 0 ≤ tot s l) : amt s (canon l) = tot s l := by
  by_cases h : 0 < tot s l
  · have := amt_mem (canon_sorted l) (p := (s.1, s.2, tot s l)) (mem_canon.2 ⟨hs, rfl, h⟩)
    exact this
  · rw [amt_none]
    · omega
    · intro p hp e
      obtain ⟨_, h2, h3⟩ := mem_canon.1 hp
      rw [e] at h2
      omega
theorem tot_nonneg {s : Sl} : ∀ {l : List PartT}, (∀ p ∈ l, 0 ≤ p.2.2) → 0 ≤ tot s l
  | [], _ => Int.le_refl _
  | p :: l, h => by
    have := tot_nonneg (s := s) fun q hq => h q (List.mem_cons_of_mem _ hq)
    have := h p (by simp)
    rw [tot]
    split <;> omega

def goodP (p : PartT) : Prop := slotR p.1 p.2.1 ∧ 0 ≤ p.2.2
instance (p : PartT) : Decidable (goodP p) := by unfold goodP; infer_instance
/-- The vector of any parts; none, if there is none. -/
def vof (l : List PartT) : Option (List PartT) := if (∀ p ∈ l, goodP p) ∧ (∀ p ∈ l, tot (slotOf p) l ≤ topQ) then some (canon l) else none
theorem tot_pos_mem {s : Sl} {l : List PartT} (h : tot s l ≠ 0) : ∃ p ∈ l, slotOf p = s := by
  apply Classical.byContradiction
  intro hn
  exact h (tot_none fun p hp e => hn ⟨p, hp, e⟩)
theorem tot_le {l : List PartT} (h : ∀ p ∈ l, tot (slotOf p) l ≤ topQ) (s : Sl) : tot s l ≤ topQ := by
  by_cases h0 : tot s l = 0
  · rw [h0]; decide
  · obtain ⟨p, hp, e⟩ := tot_pos_mem h0
    rw [← e]; exact h p hp
theorem vof_some {l c : List PartT} (h : vof l = some c) : vecB c = true ∧ (∀ s, amt s c = tot s l) ∧ ∀ k, sumK k c = sumK k l := by
  unfold vof at h
  split at h
  · rename_i hh
    cases h
    have hc := canon_vec (l := l) fun s _ => tot_le hh.2 s
    have ha : ∀ s, amt s (canon l) = tot s l := fun s => by
      by_cases hs : slotR s.1 s.2
      · exact amt_canon hs (tot_nonneg fun p hp => (hh.1 p hp).2)
      · rw [amt_none fun p hp e => hs (by have := (mem_canon.1 hp).1; rw [← e]; exact this), tot_none fun p hp e => hs (by have := (hh.1 p hp).1; rw [← e]; exact this)]
    refine ⟨hc, ha, fun k => ?_⟩
    rw [sumK_tot k (slots_of hc), sumK_tot k fun p hp => (hh.1 p hp).1]
    exact rsum_congr fun r _ => by rw [← amt_tot (canon_sorted l)]; exact ha _
  · cases h

/-! ### Sum and difference -/
def vout (o : Option (List PartT)) : List PartT := o.getD []
/-- The sum of two vectors, side by side. -/
def vadd : List PartT → List PartT → Option (List PartT)
  | [], b => some b
  | p :: a, [] => some (p :: a)
  | p :: a, q :: b => if slt p q then (vadd a (q :: b)).map (p :: ·) else if slt q p then (vadd (p :: a) b).map (q :: ·) else if p.2.2 + q.2.2 ≤ 9007199254740992 then (vadd a b).map ((p.1, p.2.1, p.2.2 + q.2.2) :: ·) else none
termination_by a b => a.length + b.length
theorem vadd_nil (b : List PartT) : vadd [] b = some b := by unfold vadd; rfl
theorem vadd_nil' (a : List PartT) : vadd a [] = some a := by cases a <;> (unfold vadd; rfl)
theorem vadd_lt {p q : PartT} {a b : List PartT} (h : slt p q) : vadd (p :: a) (q :: b) = (vadd a (q :: b)).map (p :: ·) := by rw [vadd, if_pos h]
theorem vadd_gt {p q : PartT} {a b : List PartT} (h : ¬ slt p q) (k : slt q p) : vadd (p :: a) (q :: b) = (vadd (p :: a) b).map (q :: ·) := by rw [vadd, if_neg h, if_pos k]
theorem vadd_eq {p q : PartT} {a b : List PartT} (h : ¬ slt p q) (k : ¬ slt q p) : vadd (p :: a) (q :: b) = if p.2.2 + q.2.2 ≤ 9007199254740992 then (vadd a b).map ((p.1, p.2.1, p.2.2 + q.2.2) :: ·) else none := by rw [vadd, if_neg h, if_neg k]
theorem map_append {α : Type} (o : Option (List α)) (x : α) (out : List α) : ((o.map (x :: ·)).map (out ++ ·)) = o.map (out ++ [x] ++ ·) := by
  cases o <;> simp
theorem vok_slot {p p' : PartT} (h1 : p.1 = p'.1) (h2 : p.2.1 = p'.2.1) : ∀ l, vok (some p) l = vok (some p') l
  | [] => by rw [vok_nil, vok_nil]
  | q :: r => by
    rw [vok_cons, vok_cons]
    have : okB (some p) q = okB (some p') q := decide_eq_decide.2 (by unfold slt; rw [h1, h2])
    rw [this]
theorem vok_tail {o : Option PartT} {p : PartT} {r : List PartT} (h : vok o (p :: r) = true) : partR p ∧ okB o p = true ∧ vok (some p) r = true := by
  rw [vok_cons] at h
  simp only [Bool.and_eq_true, decide_eq_true_eq] at h
  exact ⟨h.1.1, h.1.2, h.2⟩
theorem vok_mk {o : Option PartT} {p : PartT} {r : List PartT} (h1 : partR p) (h2 : okB o p = true) (h3 : vok (some p) r = true) : vok o (p :: r) = true := by
  rw [vok_cons]; simp [h1, h2, h3]
theorem vadd_ok : ∀ (m : Nat) (a b out : List PartT) (o : Option PartT), a.length + b.length ≤ m → vok o a = true → vok o b = true → vadd a b = some out → vok o out = true ∧ ∀ s, tot s out = tot s a + tot s b
  | 0, a, b, out, o, hm, ha, hb, h => by
    have e1 : a = [] := List.eq_nil_of_length_eq_zero (by omega)
    have e2 : b = [] := List.eq_nil_of_length_eq_zero (by omega)
    subst e1 e2
    rw [vadd_nil] at h
    cases h
    exact ⟨vok_nil, fun k => by simp [tot]⟩
  | m + 1, [], b, out, o, hm, ha, hb, h => by
    rw [vadd_nil] at h
    cases h
    exact ⟨hb, fun k => by simp [tot]⟩
  | m + 1, p :: a, [], out, o, hm, ha, hb, h => by
    rw [vadd_nil'] at h
    cases h
    exact ⟨ha, fun k => by simp [tot]⟩
  | m + 1, p :: a, q :: b, out, o, hm, ha, hb, h => by
    simp only [List.length_cons] at hm
    obtain ⟨hp, hop, hra⟩ := vok_tail ha
    obtain ⟨hq, hoq, hrb⟩ := vok_tail hb
    by_cases h1 : slt p q
    · rw [vadd_lt h1] at h
      cases hv : vadd a (q :: b) with
      | none => rw [hv] at h; cases h
      | some out' =>
        rw [hv] at h
        cases h
        obtain ⟨i1, i2⟩ := vadd_ok m a (q :: b) out' (some p) (by simp only [List.length_cons]; omega) hra (vok_mk hq (by simpa [okB] using h1) hrb) hv
        refine ⟨vok_mk hp hop i1, fun k => ?_⟩
        have := i2 k
        simp only [tot] at this ⊢
        omega
    · by_cases h2 : slt q p
      · rw [vadd_gt h1 h2] at h
        cases hv : vadd (p :: a) b with
        | none => rw [hv] at h; cases h
        | some out' =>
          rw [hv] at h
          cases h
          obtain ⟨i1, i2⟩ := vadd_ok m (p :: a) b out' (some q) (by simp only [List.length_cons]; omega) (vok_mk hp (by simpa [okB] using h2) hra) hrb hv
          refine ⟨vok_mk hq hoq i1, fun k => ?_⟩
          have := i2 k
          simp only [tot] at this ⊢
          omega
      · rw [vadd_eq h1 h2] at h
        split at h
        · rename_i hfit
          cases hv : vadd a b with
          | none => rw [hv] at h; cases h
          | some out' =>
            rw [hv] at h
            cases h
            have hs : q.1 = p.1 ∧ q.2.1 = p.2.1 := by unfold slt at h1 h2; omega
            have e1 : ∀ l, vok (some p) l = vok (some ((p.1, p.2.1, p.2.2 + q.2.2) : PartT)) l := vok_slot rfl rfl
            have e2 : ∀ l, vok (some q) l = vok (some ((p.1, p.2.1, p.2.2 + q.2.2) : PartT)) l := vok_slot hs.1 hs.2
            obtain ⟨i1, i2⟩ := vadd_ok m a b out' (some (p.1, p.2.1, p.2.2 + q.2.2)) (by omega) (by rw [← e1]; exact hra) (by rw [← e2]; exact hrb) hv
            have hbp := hp.2
            have hbq := hq.2
            refine ⟨vok_mk ⟨hp.1, by simp only; omega⟩ (by cases o <;> exact hop) i1, fun k => ?_⟩
            have := i2 k
            simp only [tot] at this ⊢
            have es : slotOf q = slotOf p := by simp only [slotOf, Prod.mk.injEq]; exact hs
            rw [es]
            have e3 : slotOf ((p.1, p.2.1, p.2.2 + q.2.2) : PartT) = slotOf p := rfl
            rw [e3]
            by_cases hk : slotOf p = k
            · simp only [if_pos hk]; omega
            · simp only [if_neg hk]; omega
        · cases h
theorem vadd_none : ∀ (m : Nat) (a b : List PartT) (o : Option PartT), a.length + b.length ≤ m → vok o a = true → vok o b = true → vadd a b = none → ∃ s, topQ < amt s a + amt s b
  | 0, a, b, o, hm, ha, hb, h => by
    have e1 : a = [] := List.eq_nil_of_length_eq_zero (by omega)
    subst e1
    rw [vadd_nil] at h
    cases h
  | m + 1, [], b, o, hm, ha, hb, h => by rw [vadd_nil] at h; cases h
  | m + 1, p :: a, [], o, hm, ha, hb, h => by rw [vadd_nil'] at h; cases h
  | m + 1, p :: a, q :: b, o, hm, ha, hb, h => by
    simp only [List.length_cons] at hm
    obtain ⟨hp, hop, hra⟩ := vok_tail ha
    obtain ⟨hq, hoq, hrb⟩ := vok_tail hb
    have wa := (vok_iff a (some p)).1 hra
    have wb := (vok_iff b (some q)).1 hrb
    have ga : ∀ s, 0 ≤ amt s a ∧ amt s a ≤ 9007199254740992 := fun s => amt_nonneg wa.1
    have gb : ∀ s, 0 ≤ amt s b ∧ amt s b ≤ 9007199254740992 := fun s => amt_nonneg wb.1
    have up : ∀ s, amt s a ≤ amt s (p :: a) := fun s => by
      rw [amt]
      split
      · rename_i e
        rw [amt_none fun x hx => by rw [← e]; exact slt_ne (wa.2.2 p rfl x hx)]
        have := hp.2; omega
      · omega
    have uq : ∀ s, amt s b ≤ amt s (q :: b) := fun s => by
      rw [amt]
      split
      · rename_i e
        rw [amt_none fun x hx => by rw [← e]; exact slt_ne (wb.2.2 q rfl x hx)]
        have := hq.2; omega
      · omega
    by_cases h1 : slt p q
    · rw [vadd_lt h1] at h
      obtain ⟨s, hs⟩ := vadd_none m a (q :: b) (some p) (by simp only [List.length_cons]; omega) hra (vok_mk hq (by simpa [okB] using h1) hrb) (by simpa using h)
      exact ⟨s, by have := up s; omega⟩
    · by_cases h2 : slt q p
      · rw [vadd_gt h1 h2] at h
        obtain ⟨s, hs⟩ := vadd_none m (p :: a) b (some q) (by simp only [List.length_cons]; omega) (vok_mk hp (by simpa [okB] using h2) hra) hrb (by simpa using h)
        exact ⟨s, by have := uq s; omega⟩
      · rw [vadd_eq h1 h2] at h
        have hs : q.1 = p.1 ∧ q.2.1 = p.2.1 := by unfold slt at h1 h2; omega
        have es : slotOf q = slotOf p := by simp only [slotOf, Prod.mk.injEq]; exact hs
        split at h
        · have e2 : ∀ l, vok (some q) l = vok (some p) l := vok_slot hs.1 hs.2
          obtain ⟨s, hs⟩ := vadd_none m a b (some p) (by omega) hra (by rw [← e2]; exact hrb) (by simpa using h)
          exact ⟨s, by have := up s; have := uq s; omega⟩
        · refine ⟨slotOf p, ?_⟩
          rw [amt, if_pos rfl, amt, if_pos es]
          simp only [topQ]
          omega

/-- A difference: the parts of b are taken out of those of a. -/
def vsub : List PartT → List PartT → Option (List PartT)
  | [], [] => some []
  | [], _ :: _ => none
  | p :: a, [] => (vsub a []).map (p :: ·)
  | p :: a, q :: b => if slotOf q = slotOf p then (if q.2.2 ≤ p.2.2 then (if 0 < p.2.2 - q.2.2 then (vsub a b).map ((p.1, p.2.1, p.2.2 - q.2.2) :: ·) else vsub a b) else none) else (vsub a (q :: b)).map (p :: ·)
theorem vsub_ok : ∀ (a b out : List PartT) (o : Option PartT), vok o a = true → b.Pairwise slt → (∀ p ∈ b, partR p) → vsub a b = some out → vok o out = true ∧ ∀ s, tot s a = tot s out + tot s b
  | [], [], out, o, ha, hb, hbr, h => by
    rw [vsub] at h
    cases h
    exact ⟨vok_nil, fun s => by simp [tot]⟩
  | [], _ :: _, out, o, ha, hb, hbr, h => by rw [vsub] at h; cases h
  | p :: a, [], out, o, ha, hb, hbr, h => by
    obtain ⟨hp, hop, hra⟩ := vok_tail ha
    rw [vsub] at h
    cases hv : vsub a [] with
    | none => rw [hv] at h; cases h
    | some out' =>
      rw [hv] at h
      cases h
      obtain ⟨i1, i2⟩ := vsub_ok a [] out' (some p) hra hb hbr hv
      exact ⟨vok_mk hp hop i1, fun s => by have := i2 s; simp only [tot] at this ⊢; omega⟩
  | p :: a, q :: b, out, o, ha, hb, hbr, h => by
    obtain ⟨hp, hop, hra⟩ := vok_tail ha
    have hb' := List.pairwise_cons.1 hb
    rw [vsub] at h
    split at h
    · rename_i hs
      split at h
      · rename_i hle
        split at h
        · rename_i hpos
          cases hv : vsub a b with
          | none => rw [hv] at h; cases h
          | some out' =>
            rw [hv] at h
            cases h
            have e1 : ∀ l, vok (some p) l = vok (some ((p.1, p.2.1, p.2.2 - q.2.2) : PartT)) l := vok_slot rfl rfl
            obtain ⟨i1, i2⟩ := vsub_ok a b out' (some (p.1, p.2.1, p.2.2 - q.2.2)) (by rw [← e1]; exact hra) hb'.2 (fun x hx => hbr x (by simp [hx])) hv
            have hbp := hp.2
            have hbq := (hbr q (by simp)).2
            refine ⟨vok_mk ⟨hp.1, by simp only; omega⟩ (by cases o <;> exact hop) i1, fun s => ?_⟩
            have := i2 s
            simp only [tot, hs] at this ⊢
            have e3 : slotOf ((p.1, p.2.1, p.2.2 - q.2.2) : PartT) = slotOf p := rfl
            rw [e3]
            split <;> omega
        · rename_i hpos
          obtain ⟨i1, i2⟩ := vsub_ok a b out (some p) hra hb'.2 (fun x hx => hbr x (by simp [hx])) h
          have hi := (vok_iff out (some p)).1 i1
          refine ⟨?_, fun s => ?_⟩
          · rw [vok_iff]
            refine ⟨hi.1, hi.2.1, fun x hx y hy => ?_⟩
            subst hx
            exact slt_trans (by simpa [okB] using hop) (hi.2.2 p rfl y hy)
          · have := i2 s
            simp only [tot, hs]
            split <;> omega
      · cases h
    · cases hv : vsub a (q :: b) with
      | none => rw [hv] at h; cases h
      | some out' =>
        rw [hv] at h
        cases h
        obtain ⟨i1, i2⟩ := vsub_ok a (q :: b) out' (some p) hra hb hbr hv
        exact ⟨vok_mk hp hop i1, fun s => by have := i2 s; simp only [tot] at this ⊢; omega⟩
theorem vsub_none : ∀ (a b : List PartT), a.Pairwise slt → b.Pairwise slt → (∀ p ∈ a, partR p) → (∀ p ∈ b, partR p) → vsub a b = none → ∃ s, amt s a < amt s b
  | [], [], _, _, _, _, h => by rw [vsub] at h; cases h
  | [], q :: b, _, _, _, hb, _ => ⟨slotOf q, by rw [amt, amt, if_pos rfl]; have := (hb q (by simp)).2; omega⟩
  | p :: a, [], ha, hb, har, hbr, h => by
    rw [vsub] at h
    obtain ⟨s, hs⟩ := vsub_none a [] (List.pairwise_cons.1 ha).2 hb (fun x hx => har x (by simp [hx])) hbr (by simpa using h)
    rw [amt] at hs
    have := (amt_nonneg (s := s) (l := a) fun x hx => har x (by simp [hx])).1
    omega
  | p :: a, q :: b, ha, hb, har, hbr, h => by
    have ha' := List.pairwise_cons.1 ha
    have hb' := List.pairwise_cons.1 hb
    have har' : ∀ x ∈ a, partR x := fun x hx => har x (by simp [hx])
    have hbr' : ∀ x ∈ b, partR x := fun x hx => hbr x (by simp [hx])
    have tl : ∀ {s}, amt s a < amt s b → slotOf q = slotOf p → ∃ s, amt s (p :: a) < amt s (q :: b) := fun {s} hs e => by
      refine ⟨s, ?_⟩
      have hne : slotOf p ≠ s := fun e2 => by
        have h1 : amt s b = 0 := amt_none fun x hx e3 => slt_ne (hb'.1 x hx) (by rw [e3, ← e2, e])
        have := (amt_nonneg (s := s) har').1
        omega
      rw [amt, amt, if_neg hne, if_neg (by rw [e]; exact hne)]
      exact hs
    rw [vsub] at h
    split at h
    · rename_i e
      split at h
      · split at h
        · obtain ⟨s, hs⟩ := vsub_none a b ha'.2 hb'.2 har' hbr' (by simpa using h)
          exact tl hs e
        · obtain ⟨s, hs⟩ := vsub_none a b ha'.2 hb'.2 har' hbr' h
          exact tl hs e
      · rename_i hlt
        refine ⟨slotOf p, ?_⟩
        rw [amt, if_pos rfl, amt, if_pos e]
        omega
    · rename_i hne
      obtain ⟨s, hs⟩ := vsub_none a (q :: b) ha'.2 hb har' hbr (by simpa using h)
      by_cases e2 : slotOf p = s
      · by_cases hlt : slt p q
        · have h1 : amt s (q :: b) = 0 := amt_none fun x hx e3 => by
            rcases List.mem_cons.1 hx with rfl | hx
            · exact slt_ne hlt (by rw [e3, e2])
            · exact slt_ne (slt_trans hlt (hb'.1 x hx)) (by rw [e3, e2])
          have := (amt_nonneg (s := s) har').1
          omega
        · refine ⟨slotOf q, ?_⟩
          have hqp : slt q p := by
            unfold slt at hlt ⊢
            simp only [slotOf, Prod.mk.injEq] at hne
            omega
          rw [amt_none (l := p :: a) (fun x hx => by
            rcases List.mem_cons.1 hx with rfl | hx
            · exact slt_ne hqp
            · exact slt_ne (slt_trans hqp (ha'.1 x hx))), amt, if_pos rfl]
          have := (hbr q (by simp)).2
          omega
      · refine ⟨s, ?_⟩
        rw [amt, if_neg e2]
        exact hs
/-- Does one hold another one? -/
def vholds (a b : List PartT) : Prop := ∀ s, amt s b ≤ amt s a
theorem vsub_iff {a b : List PartT} (ha : vecB a = true) (hb : vecB b = true) : (vsub a b).isSome = true ↔ vholds a b := by
  have wa := vecB_iff.1 ha
  have wb := vecB_iff.1 hb
  cases h : vsub a b with
  | none =>
    obtain ⟨s, hs⟩ := vsub_none a b wa.2 wb.2 wa.1 wb.1 h
    simp only [Option.isSome_none, Bool.false_eq_true, false_iff]
    intro hh
    have := hh s
    omega
  | some c =>
    simp only [Option.isSome_some, true_iff]
    intro s
    obtain ⟨hc, ht⟩ := vsub_ok a b c none ha wb.2 wb.1 h
    have wc := vecB_iff.1 hc
    have := ht s
    rw [← amt_tot wa.2, ← amt_tot wb.2, ← amt_tot wc.2] at this
    have := (amt_nonneg (s := s) wc.1).1
    omega
theorem vsub_amt {a b c : List PartT} (ha : vecB a = true) (hb : vecB b = true) (h : vsub a b = some c) : vecB c = true ∧ (∀ s, amt s c = amt s a - amt s b) ∧ ∀ k, sumK k c = sumK k a - sumK k b := by
  have wa := vecB_iff.1 ha
  have wb := vecB_iff.1 hb
  obtain ⟨hc, ht⟩ := vsub_ok a b c none ha wb.2 wb.1 h
  have wc := vecB_iff.1 hc
  refine ⟨hc, fun s => ?_, fun k => ?_⟩
  · have := ht s
    rw [← amt_tot wa.2, ← amt_tot wb.2, ← amt_tot wc.2] at this
    omega
  · have := sumK_add (slots_of hc) (slots_of hb) (slots_of ha) ht k
    omega
theorem vadd_amt {a b c : List PartT} (ha : vecB a = true) (hb : vecB b = true) (h : vadd a b = some c) : vecB c = true ∧ (∀ s, amt s c = amt s a + amt s b) ∧ ∀ k, sumK k c = sumK k a + sumK k b := by
  obtain ⟨hc, ht⟩ := vadd_ok _ a b c none (Nat.le_refl _) ha hb h
  refine ⟨hc, fun s => ?_, sumK_add (slots_of ha) (slots_of hb) (slots_of hc) ht⟩
  rw [amt_tot (vecB_iff.1 ha).2, amt_tot (vecB_iff.1 hb).2, amt_tot (vecB_iff.1 hc).2]
  exact ht s
theorem vadd_iff {a b : List PartT} (ha : vecB a = true) (hb : vecB b = true) : (vadd a b).isSome = true ↔ ∀ s, amt s a + amt s b ≤ topQ := by
  cases h : vadd a b with
  | none =>
    obtain ⟨s, hs⟩ := vadd_none _ a b none (Nat.le_refl _) ha hb h
    simp only [Option.isSome_none, Bool.false_eq_true, false_iff]
    intro hh
    have := hh s
    omega
  | some c =>
    simp only [Option.isSome_some, true_iff]
    intro s
    obtain ⟨hc, ht, _⟩ := vadd_amt ha hb h
    rw [← ht s]
    exact (amt_nonneg (vecB_iff.1 hc).1).2
end Go.Vc.V

/- The formulas of functions, printed by a program (VcTool.lean): each is what the generator's formula comes to, by the kernel's reckoning; whoever proves one has the function's contract. -/
set_option maxRecDepth 100000
set_option maxHeartbeats 1000000
set_option linter.unusedVariables false
namespace Vcqz
open Go Go.Vc Go.RowKit
/-! manciple/vec.Same -/
def h28 : Hints := ⟨[], [], [], [], [], [], [], [], []⟩
def f28_vc (aa : Option Addr) (an : Nat) (ac : Nat) (ba : Option Addr) (bn : Nat) (bc : Nat) (w : World) (R : Ending → World → Prop) : Prop :=
 Calls Proofs.Tryz.prog 61 #[Value.slice aa an ac, Value.slice ba bn bc] w fun (e1 : Ending) (w2 : World) => ∃ (b3 : Bool), e1 = Ending.returned (Value.bool b3) ∧ R (Ending.returned (Value.bool b3)) w2
theorem f28_eq (aa : Option Addr) (an : Nat) (ac : Nat) (ba : Option Addr) (bn : Nat) (bc : Nat) (w : World) (R : Ending → World → Prop) : (fnF Go.Proofs.Tryz.prog h28 Go.Proofs.Tryz.f28 [Value.slice aa an ac, Value.slice ba bn bc] w R).den = f28_vc aa an ac ba bn bc w R := by kernel_rfl
theorem f28_calls (aa : Option Addr) (an : Nat) (ac : Nat) (ba : Option Addr) (bn : Nat) (bc : Nat) (w : World) (R : Ending → World → Prop) (h : f28_vc aa an ac ba bn bc w R) : Calls Go.Proofs.Tryz.prog 28 (List.toArray [Value.slice aa an ac, Value.slice ba bn bc]) w R :=
 fn_sound (H := h28) (fn := Go.Proofs.Tryz.f28) (by kernel_rfl) (by kernel_rfl) (by kernel_rfl) ((f28_eq aa an ac ba bn bc w R).mpr h)


/-! manciple/vec.Right -/
def h40 : Hints := ⟨[4], [10, 34], [8, 42, 16, 21, 27, 30], [(4, [0, 1, 2, 3, 4, 5, 6, 7, 8, 9, 10, 11, 12, 13, 14, 15, 16, 17, 18, 19, 20, 21, 22, 23, 25, 24, 26, 27, 28, 29, 30])], [], [(2, ⟨[(7, .int .i64)], []⟩)], [], [], []⟩
def f40_vc (va : Option Addr) (vn : Nat) (vc : Nat) (w : World) (R : Ending → World → Prop) : Prop :=
 ∃ (J1 : Int × Unit → World → Prop),
 ∃ (J2 : Int × Unit → World → Nat),
 J1 (0, ()) w ∧
 ∀ (x3 : Int) (w4 : World),
 J1 (x3, ()) w4 →
 (decide (x3 < (↑vn : Int)) = true →
 ∃ (ad5 : Addr),
 Gives Proofs.Tryz.prog (Instr.indexAt 43 (Value.slice va vn vc) (Value.int IntKind.i64 x3)) (Value.pointer (some ad5)) ∧
 ∃ (x6 : Int),
 ∃ (x7 : Int),
 ∃ (x8 : Int),
 Reads Proofs.Tryz.prog [] (Instr.loadAt 53 (Value.pointer (some ad5))) w4 (Value.agg #[Value.int IntKind.i64 x6, Value.int IntKind.i64 x7, Value.int IntKind.i64 x8]) ∧
 ∀ (n9 : Nat),
 w4.heap.size ≤ n9 →
 ∀ (w10 : World),
 Evo [n9] w4 w10 →
 Under [n9] w10 →
 Calls Proofs.Tryz.prog 65 #[Value.agg #[Value.int IntKind.i64 x6, Value.int IntKind.i64 x7, Value.int IntKind.i64 x8]] w10 fun (e11 : Ending) (w12 : World) =>
 ∃ (x13 : Int),
 ∃ (x14 : Int),
 e11 = Ending.returned (Value.agg #[Value.int IntKind.i64 x13, Value.int IntKind.i64 x14]) ∧
 Keeps [n9] w10 w12 ∧
 Calls Proofs.Tryz.prog 64 #[Value.agg #[Value.int IntKind.i64 x13, Value.int IntKind.i64 x14]] w12 fun (e15 : Ending) (w16 : World) =>
 ∃ (b17 : Bool),
 e15 = Ending.returned (Value.bool b17) ∧
 Keeps [n9] w12 w16 ∧
 ((!b17) = true → R (Ending.returned (Value.bool false)) w16) ∧
 ((!b17) = false →
 (decide (x8 < 1) = true → R (Ending.returned (Value.bool false)) w16) ∧
 (decide (x8 < 1) = false →
 Calls Proofs.Tryz.prog 66 #[Value.int IntKind.i64 x8] w16 fun (e18 : Ending) (w19 : World) =>
 ∃ (b20 : Bool),
 e18 = Ending.returned (Value.bool b20) ∧
 Keeps [n9] w16 w19 ∧
 ((!b20) = true → R (Ending.returned (Value.bool false)) w19) ∧
 ((!b20) = false →
 (decide (x3 > 0) = true →
 ∃ (ad21 : Addr),
 Gives Proofs.Tryz.prog (Instr.indexAt 43 (Value.slice va vn vc) (Value.int IntKind.i64 (IntKind.i64.wrap (x3 - 1)))) (Value.pointer (some ad21)) ∧
 ∃ (x22 : Int),
 ∃ (x23 : Int),
 ∃ (x24 : Int),
 Reads Proofs.Tryz.prog [] (Instr.loadAt 53 (Value.pointer (some ad21))) w19
 (Value.agg #[Value.int IntKind.i64 x22, Value.int IntKind.i64 x23, Value.int IntKind.i64 x24]) ∧
 Calls Proofs.Tryz.prog 65 #[Value.agg #[Value.int IntKind.i64 x22, Value.int IntKind.i64 x23, Value.int IntKind.i64 x24]] w19
 fun (e25 : Ending) (w26 : World) =>
 ∃ (x27 : Int),
 ∃ (x28 : Int),
 e25 = Ending.returned (Value.agg #[Value.int IntKind.i64 x27, Value.int IntKind.i64 x28]) ∧
 Keeps [n9] w19 w26 ∧
 Calls Proofs.Tryz.prog 65 #[Value.agg #[Value.int IntKind.i64 x6, Value.int IntKind.i64 x7, Value.int IntKind.i64 x8]] w26
 fun (e29 : Ending) (w30 : World) =>
 ∃ (x31 : Int),
 ∃ (x32 : Int),
 e29 = Ending.returned (Value.agg #[Value.int IntKind.i64 x31, Value.int IntKind.i64 x32]) ∧
 Keeps [n9] w26 w30 ∧
 Calls Proofs.Tryz.prog 67
 #[Value.agg #[Value.int IntKind.i64 x27, Value.int IntKind.i64 x28],
 Value.agg #[Value.int IntKind.i64 x31, Value.int IntKind.i64 x32]]
 w30 fun (e33 : Ending) (w34 : World) =>
 ∃ (x35 : Int),
 e33 = Ending.returned (Value.int IntKind.i64 x35) ∧
 Keeps [n9] w30 w34 ∧
 (decide (x35 ≥ 0) = true → R (Ending.returned (Value.bool false)) w34) ∧
 (decide (x35 ≥ 0) = false →
 J1 (IntKind.i64.wrap (x3 + 1), ()) w34 ∧ J2 (IntKind.i64.wrap (x3 + 1), ()) w34 < J2 (x3, ()) w4)) ∧
 (decide (x3 > 0) = false → J1 (IntKind.i64.wrap (x3 + 1), ()) w19 ∧ J2 (IntKind.i64.wrap (x3 + 1), ()) w19 < J2 (x3, ()) w4))))) ∧
 (decide (x3 < (↑vn : Int)) = false → R (Ending.returned (Value.bool true)) w4)
theorem f40_eq (va : Option Addr) (vn : Nat) (vc : Nat) (w : World) (R : Ending → World → Prop) : (fnF Go.Proofs.Tryz.prog h40 Go.Proofs.Tryz.f40 [Value.slice va vn vc] w R).den = f40_vc va vn vc w R := by kernel_rfl
theorem f40_calls (va : Option Addr) (vn : Nat) (vc : Nat) (w : World) (R : Ending → World → Prop) (h : f40_vc va vn vc w R) : Calls Go.Proofs.Tryz.prog 40 (List.toArray [Value.slice va vn vc]) w R :=
 fn_sound (H := h40) (fn := Go.Proofs.Tryz.f40) (by kernel_rfl) (by kernel_rfl) (by kernel_rfl) ((f40_eq va vn vc w R).mpr h)


/-! (manciple/sums.Sums).Add -/
def h41 : Hints := ⟨[2, 3, 4], [20, 23, 26], [14, 30, 10], [(6, [0, 1, 2, 3, 4, 5, 6, 7, 8])], [(4, 5)], [], [], [], []⟩
def f41_vc (a_0 : Int) (a_1 : Int) (a_2 : Int) (a_3 : Int) (b_0 : Int) (b_1 : Int) (b_2 : Int) (b_3 : Int) (w : World) (R : Ending → World → Prop) : Prop :=
 ∀ (n1 : Nat),
 w.heap.size ≤ n1 →
 ∀ (n2 : Nat),
 w.heap.size ≤ n2 →
 ∀ (n3 : Nat),
 w.heap.size ≤ n3 →
 ∀ (w4 : World),
 Bel w w4 →
 Under [n1, n2, n3] w4 →
 Calls Proofs.Tryz.prog 68 #[Value.agg #[Value.int IntKind.i64 a_0, Value.int IntKind.i64 a_1, Value.int IntKind.i64 a_2, Value.int IntKind.i64 a_3]] w4 fun (e5 : Ending) (w6 : World) =>
 ∃ (b7 : Bool),
 e5 = Ending.returned (Value.bool b7) ∧
 Keeps [n1, n2, n3] w4 w6 ∧
 ((!b7) = true →
 ∀ (w8 : World),
 Evo [n3] w6 w8 →
 Under [n1, n2, n3] w8 → R (Ending.returned (Value.tuple #[Value.agg #[Value.int IntKind.i64 0, Value.int IntKind.i64 0, Value.int IntKind.i64 0, Value.int IntKind.i64 0], Value.bool false])) w8) ∧
 ((!b7) = false →
 Calls Proofs.Tryz.prog 68 #[Value.agg #[Value.int IntKind.i64 b_0, Value.int IntKind.i64 b_1, Value.int IntKind.i64 b_2, Value.int IntKind.i64 b_3]] w6 fun (e9 : Ending) (w10 : World) =>
 ∃ (b11 : Bool),
 e9 = Ending.returned (Value.bool b11) ∧
 Keeps [n1, n2, n3] w6 w10 ∧
 ((!b11) = true →
 ∀ (w12 : World),
 Evo [n3] w10 w12 →
 Under [n1, n2, n3] w12 →
 R (Ending.returned (Value.tuple #[Value.agg #[Value.int IntKind.i64 0, Value.int IntKind.i64 0, Value.int IntKind.i64 0, Value.int IntKind.i64 0], Value.bool false])) w12) ∧
 ((!b11) = false →
 ∀ (w13 : World),
 Evo [n1, n1, n1, n1] w10 w13 →
 Under [n1, n2, n3] w13 →
 Calls Proofs.Tryz.prog 68
 #[Value.agg
 #[Value.int IntKind.i64 (IntKind.i64.wrap (a_0 + b_0)), Value.int IntKind.i64 (IntKind.i64.wrap (a_1 + b_1)), Value.int IntKind.i64 (IntKind.i64.wrap (a_2 + b_2)),
 Value.int IntKind.i64 (IntKind.i64.wrap (a_3 + b_3))]]
 w13 fun (e14 : Ending) (w15 : World) =>
 ∃ (b16 : Bool),
 e14 = Ending.returned (Value.bool b16) ∧
 Keeps [n1, n2, n3] w13 w15 ∧
 ((!b16) = true →
 ∀ (w17 : World),
 Evo [n3] w15 w17 →
 Under [n1, n2, n3] w17 →
 R (Ending.returned (Value.tuple #[Value.agg #[Value.int IntKind.i64 0, Value.int IntKind.i64 0, Value.int IntKind.i64 0, Value.int IntKind.i64 0], Value.bool false])) w17) ∧
 ((!b16) = false →
 ∀ (w18 : World),
 Evo [n3] w15 w18 →
 Under [n1, n2, n3] w18 →
 R
 (Ending.returned
 (Value.tuple
 #[Value.agg
 #[Value.int IntKind.i64 (IntKind.i64.wrap (a_0 + b_0)), Value.int IntKind.i64 (IntKind.i64.wrap (a_1 + b_1)), Value.int IntKind.i64 (IntKind.i64.wrap (a_2 + b_2)),
 Value.int IntKind.i64 (IntKind.i64.wrap (a_3 + b_3))],
 Value.bool true]))
 w18)))
theorem f41_eq (a_0 : Int) (a_1 : Int) (a_2 : Int) (a_3 : Int) (b_0 : Int) (b_1 : Int) (b_2 : Int) (b_3 : Int) (w : World) (R : Ending → World → Prop) : (fnF Go.Proofs.Tryz.prog h41 Go.Proofs.Tryz.f41 [Value.agg #[Value.int IntKind.i64 a_0, Value.int IntKind.i64 a_1, Value.int IntKind.i64 a_2, Value.int IntKind.i64 a_3],
 Value.agg #[Value.int IntKind.i64 b_0, Value.int IntKind.i64 b_1, Value.int IntKind.i64 b_2, Value.int IntKind.i64 b_3]] w R).den = f41_vc a_0 a_1 a_2 a_3 b_0 b_1 b_2 b_3 w R := by kernel_rfl
theorem f41_calls (a_0 : Int) (a_1 : Int) (a_2 : Int) (a_3 : Int) (b_0 : Int) (b_1 : Int) (b_2 : Int) (b_3 : Int) (w : World) (R : Ending → World → Prop) (h : f41_vc a_0 a_1 a_2 a_3 b_0 b_1 b_2 b_3 w R) : Calls Go.Proofs.Tryz.prog 41 (List.toArray [Value.agg #[Value.int IntKind.i64 a_0, Value.int IntKind.i64 a_1, Value.int IntKind.i64 a_2, Value.int IntKind.i64 a_3],
 Value.agg #[Value.int IntKind.i64 b_0, Value.int IntKind.i64 b_1, Value.int IntKind.i64 b_2, Value.int IntKind.i64 b_3]]) w R :=
 fn_sound (H := h41) (fn := Go.Proofs.Tryz.f41) (by kernel_rfl) (by kernel_rfl) (by kernel_rfl) ((f41_eq a_0 a_1 a_2 a_3 b_0 b_1 b_2 b_3 w R).mpr h)


/-! manciple/sums.Of -/
def h42 : Hints := ⟨[2, 5], [14, 18, 23], [8, 13], [(7, [0, 1, 2, 3, 4, 5, 6, 7, 8])], [], [(5, ⟨[(12, .int .i64)], []⟩)], [], [], []⟩
def f42_vc (va : Option Addr) (vn : Nat) (vc : Nat) (w : World) (R : Ending → World → Prop) : Prop :=
 ∀ (n1 : Nat),
 w.heap.size ≤ n1 →
 ∀ (w2 : World),
 Bel w w2 →
 Under [n1] w2 →
 OpW Proofs.Tryz.prog (valueS (Instr.alloc 94 true (Value.tuple #[]))) w2 fun (v3 : Value) (w4 : World) =>
 ∃ (ad5 : Addr),
 v3 = Value.pointer (some ad5) ∧
 Keeps [n1] w2 w4 ∧
 Calls Proofs.Tryz.prog 40 #[Value.slice va vn vc] w4 fun (e6 : Ending) (w7 : World) =>
 ∃ (b8 : Bool),
 e6 = Ending.returned (Value.bool b8) ∧
 Keeps [n1] w4 w7 ∧
 ((!b8) = true →
 ∃ (x9 : Int),
 ∃ (x10 : Int),
 ∃ (x11 : Int),
 ∃ (x12 : Int),
 Reads Proofs.Tryz.prog [] (Instr.loadAt 94 (Value.pointer (some ad5))) w7 (Value.agg #[Value.int IntKind.i64 x9, Value.int IntKind.i64 x10, Value.int IntKind.i64 x11, Value.int IntKind.i64 x12]) ∧
 ∀ (w13 : World), Evo [n1] w7 w13 → Under [n1] w13 → R (Ending.returned (Value.agg #[Value.int IntKind.i64 x9, Value.int IntKind.i64 x10, Value.int IntKind.i64 x11, Value.int IntKind.i64 x12])) w13) ∧
 ((!b8) = false →
 ∃ (J14 : Int × Unit → World → Prop),
 ∃ (J15 : Int × Unit → World → Nat),
 J14 (0, ()) w7 ∧
 ∀ (x16 : Int) (w17 : World),
 J14 (x16, ()) w17 →
 (decide (x16 < (↑vn : Int)) = true →
 ∃ (ad18 : Addr),
 Gives Proofs.Tryz.prog (Instr.indexAt 43 (Value.slice va vn vc) (Value.int IntKind.i64 x16)) (Value.pointer (some ad18)) ∧
 ∃ (x19 : Int),
 ∃ (x20 : Int),
 ∃ (x21 : Int),
 Reads Proofs.Tryz.prog [] (Instr.loadAt 53 (Value.pointer (some ad18))) w17 (Value.agg #[Value.int IntKind.i64 x19, Value.int IntKind.i64 x20, Value.int IntKind.i64 x21]) ∧
 ∀ (n22 : Nat),
 w17.heap.size ≤ n22 →
 ∃ (ad23 : Addr),
 Gives Proofs.Tryz.prog (Instr.indexAt 94 (Value.pointer (some ad5)) (Value.int IntKind.i64 x19)) (Value.pointer (some ad23)) ∧
 ∃ (x24 : Int),
 Reads Proofs.Tryz.prog [n22] (Instr.loadAt 2 (Value.pointer (some ad23))) w17 (Value.int IntKind.i64 x24) ∧
 ∃ (ad25 : Addr),
 Gives Proofs.Tryz.prog (Instr.indexAt 94 (Value.pointer (some ad5)) (Value.int IntKind.i64 x19)) (Value.pointer (some ad25)) ∧
 ∀ (w26 : World),
 Evo [n22] w17 w26 →
 Under [n1, n22] w26 →
 OpW Proofs.Tryz.prog (skipS (Instr.storeAt 2 (Value.pointer (some ad25)) (Value.int IntKind.i64 (IntKind.i64.wrap (x24 + x21))))) w26
 fun (v27 : Value) (w28 : World) =>
 Keeps [n1, n22] w26 w28 ∧ J14 (IntKind.i64.wrap (x16 + 1), ()) w28 ∧ J15 (IntKind.i64.wrap (x16 + 1), ()) w28 < J15 (x16, ()) w17) ∧
 (decide (x16 < (↑vn : Int)) = false →
 ∃ (x29 : Int),
 ∃ (x30 : Int),
 ∃ (x31 : Int),
 ∃ (x32 : Int),
 Reads Proofs.Tryz.prog [] (Instr.loadAt 94 (Value.pointer (some ad5))) w17
 (Value.agg #[Value.int IntKind.i64 x29, Value.int IntKind.i64 x30, Value.int IntKind.i64 x31, Value.int IntKind.i64 x32]) ∧
 ∀ (w33 : World),
 Evo [n1] w17 w33 → Under [n1] w33 → R (Ending.returned (Value.agg #[Value.int IntKind.i64 x29, Value.int IntKind.i64 x30, Value.int IntKind.i64 x31, Value.int IntKind.i64 x32])) w33))
theorem f42_eq (va : Option Addr) (vn : Nat) (vc : Nat) (w : World) (R : Ending → World → Prop) : (fnF Go.Proofs.Tryz.prog h42 Go.Proofs.Tryz.f42 [Value.slice va vn vc] w R).den = f42_vc va vn vc w R := by kernel_rfl
theorem f42_calls (va : Option Addr) (vn : Nat) (vc : Nat) (w : World) (R : Ending → World → Prop) (h : f42_vc va vn vc w R) : Calls Go.Proofs.Tryz.prog 42 (List.toArray [Value.slice va vn vc]) w R :=
 fn_sound (H := h42) (fn := Go.Proofs.Tryz.f42) (by kernel_rfl) (by kernel_rfl) (by kernel_rfl) ((f42_eq va vn vc w R).mpr h)


/-! slices.Max[[]int64,int64] -/
def h43 : Hints := ⟨[], [10, 21], [7, 15], [], [], [(5, ⟨[(3, .int .i64), (4, .int .i64)], []⟩)], [], [], []⟩
def f43_vc (xa : Option Addr) (xn : Nat) (xc : Nat) (w : World) (R : Ending → World → Prop) : Prop :=
 (decide ((↑xn : Int) < 1) = true →
 OpW Proofs.Tryz.prog (Sem.halt (Halt.panic (Value.iface 9 (Value.string (ByteArray.mk #[115, 108, 105, 99, 101, 115, 46, 77, 97, 120, 58, 32, 101, 109, 112, 116, 121, 32, 108, 105, 115, 116]))))) w fun (v1 : Value) (w2 : World) =>
 v1 = Value.tuple #[] ∧
 ∃ (ad3 : Addr),
 Gives Proofs.Tryz.prog (Instr.indexAt 99 (Value.slice xa xn xc) (Value.int IntKind.i64 0)) (Value.pointer (some ad3)) ∧
 ∃ (x4 : Int),
 Reads Proofs.Tryz.prog [] (Instr.loadAt 2 (Value.pointer (some ad3))) w2 (Value.int IntKind.i64 x4) ∧
 ∃ (J5 : Int × Int × Unit → World → Prop),
 ∃ (J6 : Int × Int × Unit → World → Nat),
 J5 (x4, 1, ()) w2 ∧
 ∀ (x7 x8 : Int) (w9 : World),
 J5 (x7, x8, ()) w9 →
 (decide (x8 < (↑xn : Int)) = true →
 ∃ (ad10 : Addr),
 Gives Proofs.Tryz.prog (Instr.indexAt 99 (Value.slice xa xn xc) (Value.int IntKind.i64 x8)) (Value.pointer (some ad10)) ∧
 ∃ (x11 : Int),
 Reads Proofs.Tryz.prog [] (Instr.loadAt 2 (Value.pointer (some ad10))) w9 (Value.int IntKind.i64 x11) ∧
 J5 (if x11 > x7 then x11 else x7, IntKind.i64.wrap (x8 + 1), ()) w9 ∧ J6 (if x11 > x7 then x11 else x7, IntKind.i64.wrap (x8 + 1), ()) w9 < J6 (x7, x8, ()) w9) ∧
 (decide (x8 < (↑xn : Int)) = false → R (Ending.returned (Value.int IntKind.i64 x7)) w9)) ∧
 (decide ((↑xn : Int) < 1) = false →
 ∃ (ad12 : Addr),
 Gives Proofs.Tryz.prog (Instr.indexAt 99 (Value.slice xa xn xc) (Value.int IntKind.i64 0)) (Value.pointer (some ad12)) ∧
 ∃ (x13 : Int),
 Reads Proofs.Tryz.prog [] (Instr.loadAt 2 (Value.pointer (some ad12))) w (Value.int IntKind.i64 x13) ∧
 ∃ (J14 : Int × Int × Unit → World → Prop),
 ∃ (J15 : Int × Int × Unit → World → Nat),
 J14 (x13, 1, ()) w ∧
 ∀ (x16 x17 : Int) (w18 : World),
 J14 (x16, x17, ()) w18 →
 (decide (x17 < (↑xn : Int)) = true →
 ∃ (ad19 : Addr),
 Gives Proofs.Tryz.prog (Instr.indexAt 99 (Value.slice xa xn xc) (Value.int IntKind.i64 x17)) (Value.pointer (some ad19)) ∧
 ∃ (x20 : Int),
 Reads Proofs.Tryz.prog [] (Instr.loadAt 2 (Value.pointer (some ad19))) w18 (Value.int IntKind.i64 x20) ∧
 J14 (if x20 > x16 then x20 else x16, IntKind.i64.wrap (x17 + 1), ()) w18 ∧ J15 (if x20 > x16 then x20 else x16, IntKind.i64.wrap (x17 + 1), ()) w18 < J15 (x16, x17, ()) w18) ∧
 (decide (x17 < (↑xn : Int)) = false → R (Ending.returned (Value.int IntKind.i64 x16)) w18))
theorem f43_eq (xa : Option Addr) (xn : Nat) (xc : Nat) (w : World) (R : Ending → World → Prop) : (fnF Go.Proofs.Tryz.prog h43 Go.Proofs.Tryz.f43 [Value.slice xa xn xc] w R).den = f43_vc xa xn xc w R := by kernel_rfl
theorem f43_calls (xa : Option Addr) (xn : Nat) (xc : Nat) (w : World) (R : Ending → World → Prop) (h : f43_vc xa xn xc w R) : Calls Go.Proofs.Tryz.prog 43 (List.toArray [Value.slice xa xn xc]) w R :=
 fn_sound (H := h43) (fn := Go.Proofs.Tryz.f43) (by kernel_rfl) (by kernel_rfl) (by kernel_rfl) ((f43_eq xa xn xc w R).mpr h)


/-! cmp.Or[int] -/
def h45 : Hints := ⟨[], [10], [9, 14], [], [], [(3, ⟨[(8, .int .i64)], []⟩)], [], [], []⟩
def f45_vc (valsa : Option Addr) (valsn : Nat) (valsc : Nat) (w : World) (R : Ending → World → Prop) : Prop :=
 ∃ (J1 : Int × Unit → World → Prop),
 ∃ (J2 : Int × Unit → World → Nat),
 J1 (0, ()) w ∧
 ∀ (x3 : Int) (w4 : World),
 J1 (x3, ()) w4 →
 (decide (x3 < (↑valsn : Int)) = true →
 ∃ (ad5 : Addr),
 Gives Proofs.Tryz.prog (Instr.indexAt 127 (Value.slice valsa valsn valsc) (Value.int IntKind.i64 x3)) (Value.pointer (some ad5)) ∧
 ∃ (x6 : Int),
 Reads Proofs.Tryz.prog [] (Instr.loadAt 3 (Value.pointer (some ad5))) w4 (Value.int IntKind.i64 x6) ∧
 ((x6 != 0) = true → R (Ending.returned (Value.int IntKind.i64 x6)) w4) ∧ ((x6 != 0) = false → J1 (IntKind.i64.wrap (x3 + 1), ()) w4 ∧ J2 (IntKind.i64.wrap (x3 + 1), ()) w4 < J2 (x3, ()) w4)) ∧
 (decide (x3 < (↑valsn : Int)) = false → R (Ending.returned (Value.int IntKind.i64 0)) w4)
theorem f45_eq (valsa : Option Addr) (valsn : Nat) (valsc : Nat) (w : World) (R : Ending → World → Prop) : (fnF Go.Proofs.Tryz.prog h45 Go.Proofs.Tryz.f45 [Value.slice valsa valsn valsc] w R).den = f45_vc valsa valsn valsc w R := by kernel_rfl
theorem f45_calls (valsa : Option Addr) (valsn : Nat) (valsc : Nat) (w : World) (R : Ending → World → Prop) (h : f45_vc valsa valsn valsc w R) : Calls Go.Proofs.Tryz.prog 45 (List.toArray [Value.slice valsa valsn valsc]) w R :=
 fn_sound (H := h45) (fn := Go.Proofs.Tryz.f45) (by kernel_rfl) (by kernel_rfl) (by kernel_rfl) ((f45_eq valsa valsn valsc w R).mpr h)


/-! cmp.Compare[int64] -/
def h46 : Hints := ⟨[], [], [11, 12, 13, 16, 19], [], [], [], [], [], []⟩
def f46_vc (x : Int) (y : Int) (w : World) (R : Ending → World → Prop) : Prop :=
 Calls Proofs.Tryz.prog 70 #[Value.int IntKind.i64 x] w fun (e1 : Ending) (w2 : World) =>
 ∃ (b3 : Bool),
 e1 = Ending.returned (Value.bool b3) ∧
 Calls Proofs.Tryz.prog 70 #[Value.int IntKind.i64 y] w2 fun (e4 : Ending) (w5 : World) =>
 ∃ (b6 : Bool),
 e4 = Ending.returned (Value.bool b6) ∧
 (b3 = true → (b6 = true → R (Ending.returned (Value.int IntKind.i64 0)) w5) ∧ (b6 = false → R (Ending.returned (Value.int IntKind.i64 (-1))) w5)) ∧
 (b3 = false →
 (b6 = true → R (Ending.returned (Value.int IntKind.i64 1)) w5) ∧
 (b6 = false →
 (decide (x < y) = true → R (Ending.returned (Value.int IntKind.i64 (-1))) w5) ∧
 (decide (x < y) = false → (decide (x > y) = true → R (Ending.returned (Value.int IntKind.i64 1)) w5) ∧ (decide (x > y) = false → R (Ending.returned (Value.int IntKind.i64 0)) w5))))
theorem f46_eq (x : Int) (y : Int) (w : World) (R : Ending → World → Prop) : (fnF Go.Proofs.Tryz.prog h46 Go.Proofs.Tryz.f46 [Value.int IntKind.i64 x, Value.int IntKind.i64 y] w R).den = f46_vc x y w R := by kernel_rfl
theorem f46_calls (x : Int) (y : Int) (w : World) (R : Ending → World → Prop) (h : f46_vc x y w R) : Calls Go.Proofs.Tryz.prog 46 (List.toArray [Value.int IntKind.i64 x, Value.int IntKind.i64 y]) w R :=
 fn_sound (H := h46) (fn := Go.Proofs.Tryz.f46) (by kernel_rfl) (by kernel_rfl) (by kernel_rfl) ((f46_eq x y w R).mpr h)


/-! manciple/vec.Add -/
def h50 : Hints := ⟨[7], [36, 40, 49, 54, 61, 65, 73, 78, 80, 86, 101, 103], [17, 25, 26, 55, 93, 13, 21, 30, 34, 59], [(5, [0, 1, 2, 3, 4, 5, 6, 7, 8, 9, 10, 12, 13, 14, 11, 15, 16, 17, 18, 19, 20]), (6, [0, 1, 2, 3, 6, 7, 4, 5, 8, 9]), (7, [0, 1, 2, 3, 4, 5, 6, 8, 9, 10, 7, 11, 12, 13, 14, 15]), (8, [0, 1, 2, 3, 6, 7, 4, 5, 8, 9]), (10, [0, 1, 2, 3, 4, 5, 6, 7, 8, 9, 10, 11]), (14, [0, 1, 4, 5, 6, 7, 2, 3, 8, 9, 10])], [], [(4, ⟨[(0, .sl), (1, .sl), (6, .sl)], []⟩)], [(5, ⟨[], []⟩), (6, ⟨[(26, .bool)], []⟩), (8, ⟨[(55, .bool)], []⟩)], [], []⟩
def f50_vc (aa : Option Addr) (an : Nat) (ac : Nat) (ba : Option Addr) (bn : Nat) (bc : Nat) (w : World) (R : Ending → World → Prop) : Prop :=
 Calls Proofs.Tryz.prog 40 #[Value.slice aa an ac] w fun (e1 : Ending) (w2 : World) =>
 ∃ (b3 : Bool),
 e1 = Ending.returned (Value.bool b3) ∧
 ((!b3) = true → R (Ending.returned (Value.tuple #[Value.slice none 0 0, Value.bool false])) w2) ∧
 ((!b3) = false →
 Calls Proofs.Tryz.prog 40 #[Value.slice ba bn bc] w2 fun (e4 : Ending) (w5 : World) =>
 ∃ (b6 : Bool),
 e4 = Ending.returned (Value.bool b6) ∧
 ((!b6) = true → R (Ending.returned (Value.tuple #[Value.slice none 0 0, Value.bool false])) w5) ∧
 ((!b6) = false →
 ∃ (J7 : (Option Addr × Nat × Nat) × (Option Addr × Nat × Nat) × (Option Addr × Nat × Nat) × Unit → World → Prop),
 ∃ (J8 : (Option Addr × Nat × Nat) × (Option Addr × Nat × Nat) × (Option Addr × Nat × Nat) × Unit → World → Nat),
 J7 ((aa, an, ac), (ba, bn, bc), (none, 0, 0), ()) w5 ∧
 ∀ (a9 : Option Addr) (n10 n11 : Nat) (a12 : Option Addr) (n13 n14 : Nat) (a15 : Option Addr) (n16 n17 : Nat) (w18 : World),
 J7 ((a9, n10, n11), (a12, n13, n14), (a15, n16, n17), ()) w18 →
 ∃ (J19 : Unit → World → Prop),
 ((decide ((↑n10 : Int) > 0) = true → J19 () w18) ∧
 (decide ((↑n10 : Int) > 0) = false →
 (decide ((↑n13 : Int) > 0) = true → J19 () w18) ∧ (decide ((↑n13 : Int) > 0) = false → R (Ending.returned (Value.tuple #[Value.slice a15 n16 n17, Value.bool true])) w18))) ∧
 ∀ (w20 : World),
 J19 () w20 →
 ∃ (J21 : Bool × Unit → World → Prop),
 ((((↑n13 : Int) == 0) = true → ∀ (w22 : World), Bel w20 w22 → J21 (true, ()) w22) ∧
 (((↑n13 : Int) == 0) = false →
 (decide ((↑n10 : Int) > 0) = true →
 ∃ (ad23 : Addr),
 Gives Proofs.Tryz.prog (Instr.indexAt 43 (Value.slice a9 n10 n11) (Value.int IntKind.i64 0)) (Value.pointer (some ad23)) ∧
 ∃ (x24 : Int),
 ∃ (x25 : Int),
 ∃ (x26 : Int),
 Reads Proofs.Tryz.prog [] (Instr.loadAt 53 (Value.pointer (some ad23))) w20 (Value.agg #[Value.int IntKind.i64 x24, Value.int IntKind.i64 x25, Value.int IntKind.i64 x26]) ∧
 ∃ (ad27 : Addr),
 Gives Proofs.Tryz.prog (Instr.indexAt 43 (Value.slice a12 n13 n14) (Value.int IntKind.i64 0)) (Value.pointer (some ad27)) ∧
 ∃ (x28 : Int),
 ∃ (x29 : Int),
 ∃ (x30 : Int),
 Reads Proofs.Tryz.prog [] (Instr.loadAt 53 (Value.pointer (some ad27))) w20
 (Value.agg #[Value.int IntKind.i64 x28, Value.int IntKind.i64 x29, Value.int IntKind.i64 x30]) ∧
 ∀ (w31 : World),
 Bel w20 w31 →
 Calls Proofs.Tryz.prog 65 #[Value.agg #[Value.int IntKind.i64 x24, Value.int IntKind.i64 x25, Value.int IntKind.i64 x26]] w31 fun (e32 : Ending) (w33 : World) =>
 ∃ (x34 : Int),
 ∃ (x35 : Int),
 e32 = Ending.returned (Value.agg #[Value.int IntKind.i64 x34, Value.int IntKind.i64 x35]) ∧
 Reads Proofs.Tryz.prog [] (Instr.loadAt 53 (Value.pointer (some ad27))) w33
 (Value.agg #[Value.int IntKind.i64 x28, Value.int IntKind.i64 x29, Value.int IntKind.i64 x30]) ∧
 Calls Proofs.Tryz.prog 65 #[Value.agg #[Value.int IntKind.i64 x28, Value.int IntKind.i64 x29, Value.int IntKind.i64 x30]] w33
 fun (e36 : Ending) (w37 : World) =>
 ∃ (x38 : Int),
 ∃ (x39 : Int),
 e36 = Ending.returned (Value.agg #[Value.int IntKind.i64 x38, Value.int IntKind.i64 x39]) ∧
 Calls Proofs.Tryz.prog 67
 #[Value.agg #[Value.int IntKind.i64 x34, Value.int IntKind.i64 x35], Value.agg #[Value.int IntKind.i64 x38, Value.int IntKind.i64 x39]] w37
 fun (e40 : Ending) (w41 : World) => ∃ (x42 : Int), e40 = Ending.returned (Value.int IntKind.i64 x42) ∧ J21 (decide (x42 < 0), ()) w41) ∧
 (decide ((↑n10 : Int) > 0) = false → ∀ (w43 : World), Bel w20 w43 → J21 (false, ()) w43))) ∧
 ∀ (b44 : Bool) (w45 : World),
 J21 (b44, ()) w45 →
 (b44 = true →
 ∃ (ad46 : Addr),
 Gives Proofs.Tryz.prog (Instr.indexAt 43 (Value.slice a9 n10 n11) (Value.int IntKind.i64 0)) (Value.pointer (some ad46)) ∧
 ∃ (x47 : Int),
 ∃ (x48 : Int),
 ∃ (x49 : Int),
 Reads Proofs.Tryz.prog [] (Instr.loadAt 53 (Value.pointer (some ad46))) w45 (Value.agg #[Value.int IntKind.i64 x47, Value.int IntKind.i64 x48, Value.int IntKind.i64 x49]) ∧
 ∃ (a50 : Option Addr),
 ∃ (n51 : Nat),
 ∃ (n52 : Nat),
 Gives Proofs.Tryz.prog (Instr.sliceAt 43 (Value.slice a9 n10 n11) (some (Value.int IntKind.i64 1)) none none) (Value.slice a50 n51 n52) ∧
 ∀ (w53 : World),
 Bel w45 w53 →
 OpW Proofs.Tryz.prog (valueS (Instr.buildSlice 43 1 #[(0, Value.agg #[Value.int IntKind.i64 x47, Value.int IntKind.i64 x48, Value.int IntKind.i64 x49])])) w53
 fun (v54 : Value) (w55 : World) =>
 ∃ (a56 : Option Addr),
 ∃ (n57 : Nat),
 ∃ (n58 : Nat),
 v54 = Value.slice a56 n57 n58 ∧
 OpW Proofs.Tryz.prog (builtin Builtin.append #[43, 43] 43 #[false, false] #[Value.slice a15 n16 n17, Value.slice a56 n57 n58]) w55
 fun (v59 : Value) (w60 : World) =>
 ∃ (a61 : Option Addr),
 ∃ (n62 : Nat),
 ∃ (n63 : Nat),
 v59 = Value.slice a61 n62 n63 ∧
 J7 ((a50, n51, n52), (a12, n13, n14), (a61, n62, n63), ()) w60 ∧
 J8 ((a50, n51, n52), (a12, n13, n14), (a61, n62, n63), ()) w60 < J8 ((a9, n10, n11), (a12, n13, n14), (a15, n16, n17), ()) w18) ∧
 (b44 = false →
 ∃ (J64 : Bool × Unit → World → Prop),
 ((((↑n10 : Int) == 0) = true → ∀ (w65 : World), Bel w45 w65 → J64 (true, ()) w65) ∧
 (((↑n10 : Int) == 0) = false →
 ∃ (ad66 : Addr),
 Gives Proofs.Tryz.prog (Instr.indexAt 43 (Value.slice a9 n10 n11) (Value.int IntKind.i64 0)) (Value.pointer (some ad66)) ∧
 ∃ (x67 : Int),
 ∃ (x68 : Int),
 ∃ (x69 : Int),
 Reads Proofs.Tryz.prog [] (Instr.loadAt 53 (Value.pointer (some ad66))) w45 (Value.agg #[Value.int IntKind.i64 x67, Value.int IntKind.i64 x68, Value.int IntKind.i64 x69]) ∧
 ∃ (ad70 : Addr),
 Gives Proofs.Tryz.prog (Instr.indexAt 43 (Value.slice a12 n13 n14) (Value.int IntKind.i64 0)) (Value.pointer (some ad70)) ∧
 ∃ (x71 : Int),
 ∃ (x72 : Int),
 ∃ (x73 : Int),
 Reads Proofs.Tryz.prog [] (Instr.loadAt 53 (Value.pointer (some ad70))) w45
 (Value.agg #[Value.int IntKind.i64 x71, Value.int IntKind.i64 x72, Value.int IntKind.i64 x73]) ∧
 ∀ (w74 : World),
 Bel w45 w74 →
 Calls Proofs.Tryz.prog 65 #[Value.agg #[Value.int IntKind.i64 x67, Value.int IntKind.i64 x68, Value.int IntKind.i64 x69]] w74
 fun (e75 : Ending) (w76 : World) =>
 ∃ (x77 : Int),
 ∃ (x78 : Int),
 e75 = Ending.returned (Value.agg #[Value.int IntKind.i64 x77, Value.int IntKind.i64 x78]) ∧
 Reads Proofs.Tryz.prog [] (Instr.loadAt 53 (Value.pointer (some ad70))) w76
 (Value.agg #[Value.int IntKind.i64 x71, Value.int IntKind.i64 x72, Value.int IntKind.i64 x73]) ∧
 Calls Proofs.Tryz.prog 65 #[Value.agg #[Value.int IntKind.i64 x71, Value.int IntKind.i64 x72, Value.int IntKind.i64 x73]] w76
 fun (e79 : Ending) (w80 : World) =>
 ∃ (x81 : Int),
 ∃ (x82 : Int),
 e79 = Ending.returned (Value.agg #[Value.int IntKind.i64 x81, Value.int IntKind.i64 x82]) ∧
 Calls Proofs.Tryz.prog 67
 #[Value.agg #[Value.int IntKind.i64 x77, Value.int IntKind.i64 x78],
 Value.agg #[Value.int IntKind.i64 x81, Value.int IntKind.i64 x82]]
 w80 fun (e83 : Ending) (w84 : World) =>
 ∃ (x85 : Int), e83 = Ending.returned (Value.int IntKind.i64 x85) ∧ J64 (decide (x85 > 0), ()) w84)) ∧
 ∀ (b86 : Bool) (w87 : World),
 J64 (b86, ()) w87 →
 (b86 = true →
 ∃ (ad88 : Addr),
 Gives Proofs.Tryz.prog (Instr.indexAt 43 (Value.slice a12 n13 n14) (Value.int IntKind.i64 0)) (Value.pointer (some ad88)) ∧
 ∃ (x89 : Int),
 ∃ (x90 : Int),
 ∃ (x91 : Int),
 Reads Proofs.Tryz.prog [] (Instr.loadAt 53 (Value.pointer (some ad88))) w87
 (Value.agg #[Value.int IntKind.i64 x89, Value.int IntKind.i64 x90, Value.int IntKind.i64 x91]) ∧
 ∃ (a92 : Option Addr),
 ∃ (n93 : Nat),
 ∃ (n94 : Nat),
 Gives Proofs.Tryz.prog (Instr.sliceAt 43 (Value.slice a12 n13 n14) (some (Value.int IntKind.i64 1)) none none) (Value.slice a92 n93 n94) ∧
 ∀ (w95 : World),
 Bel w87 w95 →
 OpW Proofs.Tryz.prog (valueS (Instr.buildSlice 43 1 #[(0, Value.agg #[Value.int IntKind.i64 x89, Value.int IntKind.i64 x90, Value.int IntKind.i64 x91])]))
 w95 fun (v96 : Value) (w97 : World) =>
 ∃ (a98 : Option Addr),
 ∃ (n99 : Nat),
 ∃ (n100 : Nat),
 v96 = Value.slice a98 n99 n100 ∧
 OpW Proofs.Tryz.prog (builtin Builtin.append #[43, 43] 43 #[false, false] #[Value.slice a15 n16 n17, Value.slice a98 n99 n100]) w97
 fun (v101 : Value) (w102 : World) =>
 ∃ (a103 : Option Addr),
 ∃ (n104 : Nat),
 ∃ (n105 : Nat),
 v101 = Value.slice a103 n104 n105 ∧
 J7 ((a9, n10, n11), (a92, n93, n94), (a103, n104, n105), ()) w102 ∧
 J8 ((a9, n10, n11), (a92, n93, n94), (a103, n104, n105), ()) w102 < J8 ((a9, n10, n11), (a12, n13, n14), (a15, n16, n17), ()) w18) ∧
 (b86 = false →
 ∃ (ad106 : Addr),
 Gives Proofs.Tryz.prog (Instr.indexAt 43 (Value.slice a9 n10 n11) (Value.int IntKind.i64 0)) (Value.pointer (some ad106)) ∧
 ∃ (x107 : Int),
 ∃ (x108 : Int),
 ∃ (x109 : Int),
 Reads Proofs.Tryz.prog [] (Instr.loadAt 53 (Value.pointer (some ad106))) w87
 (Value.agg #[Value.int IntKind.i64 x107, Value.int IntKind.i64 x108, Value.int IntKind.i64 x109]) ∧
 ∀ (n110 : Nat),
 w87.heap.size ≤ n110 →
 ∃ (ad111 : Addr),
 Gives Proofs.Tryz.prog (Instr.indexAt 43 (Value.slice a12 n13 n14) (Value.int IntKind.i64 0)) (Value.pointer (some ad111)) ∧
 ∃ (x112 : Int),
 Reads Proofs.Tryz.prog [n110] (Instr.loadAt 2 (Value.pointer (some (Addr.mk ad111.block (ad111.off + 2) none)))) w87 (Value.int IntKind.i64 x112) ∧
 ∀ (w113 : World),
 Evo [n110] w87 w113 →
 Under [n110] w113 →
 Calls Proofs.Tryz.prog 75 #[Value.int IntKind.i64 x109, Value.int IntKind.i64 x112, Value.int IntKind.i64 9007199254740992] w113
 fun (e114 : Ending) (w115 : World) =>
 ∃ (x116 : Int),
 ∃ (b117 : Bool),
 e114 = Ending.returned (Value.tuple #[Value.int IntKind.i64 x116, Value.bool b117]) ∧
 Keeps [n110] w113 w115 ∧
 ((!b117) = true → R (Ending.returned (Value.tuple #[Value.slice none 0 0, Value.bool false])) w115) ∧
 ((!b117) = false →
 ∃ (a118 : Option Addr),
 ∃ (n119 : Nat),
 ∃ (n120 : Nat),
 Gives Proofs.Tryz.prog (Instr.sliceAt 43 (Value.slice a9 n10 n11) (some (Value.int IntKind.i64 1)) none none)
 (Value.slice a118 n119 n120) ∧
 ∃ (a121 : Option Addr),
 ∃ (n122 : Nat),
 ∃ (n123 : Nat),
 Gives Proofs.Tryz.prog (Instr.sliceAt 43 (Value.slice a12 n13 n14) (some (Value.int IntKind.i64 1)) none none)
 (Value.slice a121 n122 n123) ∧
 ∀ (w124 : World),
 Evo [n110] w115 w124 →
 Under [n110] w124 →
 OpW Proofs.Tryz.prog
 (valueS
 (Instr.buildSlice 43 1
 #[(0, Value.agg #[Value.int IntKind.i64 x107, Value.int IntKind.i64 x108, Value.int IntKind.i64 x116])]))
 w124 fun (v125 : Value) (w126 : World) =>
 ∃ (a127 : Option Addr),
 ∃ (n128 : Nat),
 ∃ (n129 : Nat),
 v125 = Value.slice a127 n128 n129 ∧
 Keeps [n110] w124 w126 ∧
 OpW Proofs.Tryz.prog
 (builtin Builtin.append #[43, 43] 43 #[false, false]
 #[Value.slice a15 n16 n17, Value.slice a127 n128 n129])
 w126 fun (v130 : Value) (w131 : World) =>
 ∃ (a132 : Option Addr),
 ∃ (n133 : Nat),
 ∃ (n134 : Nat),
 v130 = Value.slice a132 n133 n134 ∧
 Keeps [n110] w126 w131 ∧
 J7 ((a118, n119, n120), (a121, n122, n123), (a132, n133, n134), ()) w131 ∧
 J8 ((a118, n119, n120), (a121, n122, n123), (a132, n133, n134), ()) w131 <
 J8 ((a9, n10, n11), (a12, n13, n14), (a15, n16, n17), ()) w18)))))
theorem f50_eq (aa : Option Addr) (an : Nat) (ac : Nat) (ba : Option Addr) (bn : Nat) (bc : Nat) (w : World) (R : Ending → World → Prop) : (fnF Go.Proofs.Tryz.prog h50 Go.Proofs.Tryz.f50 [Value.slice aa an ac, Value.slice ba bn bc] w R).den = f50_vc aa an ac ba bn bc w R := by kernel_rfl
theorem f50_calls (aa : Option Addr) (an : Nat) (ac : Nat) (ba : Option Addr) (bn : Nat) (bc : Nat) (w : World) (R : Ending → World → Prop) (h : f50_vc aa an ac ba bn bc w R) : Calls Go.Proofs.Tryz.prog 50 (List.toArray [Value.slice aa an ac, Value.slice ba bn bc]) w R :=
 fn_sound (H := h50) (fn := Go.Proofs.Tryz.f50) (by kernel_rfl) (by kernel_rfl) (by kernel_rfl) ((f50_eq aa an ac ba bn bc w R).mpr h)


/-! slices.Equal[[]manciple/api.Part,manciple/api.Part] -/
def h61 : Hints := ⟨[], [18, 22], [10, 14, 24], [(6, [0, 1, 2, 3, 4, 5, 6, 7, 8])], [], [(4, ⟨[(13, .int .i64)], []⟩)], [], [], []⟩
def f61_vc (s1a : Option Addr) (s1n : Nat) (s1c : Nat) (s2a : Option Addr) (s2n : Nat) (s2c : Nat) (w : World) (R : Ending → World → Prop) : Prop :=
 (((↑s1n : Int) != (↑s2n : Int)) = true → R (Ending.returned (Value.bool false)) w) ∧
 (((↑s1n : Int) != (↑s2n : Int)) = false →
 ∃ (J1 : Int × Unit → World → Prop),
 ∃ (J2 : Int × Unit → World → Nat),
 J1 (0, ()) w ∧
 ∀ (x3 : Int) (w4 : World),
 J1 (x3, ()) w4 →
 (decide (x3 < (↑s1n : Int)) = true →
 ∃ (ad5 : Addr),
 Gives Proofs.Tryz.prog (Instr.indexAt 43 (Value.slice s1a s1n s1c) (Value.int IntKind.i64 x3)) (Value.pointer (some ad5)) ∧
 ∃ (x6 : Int),
 ∃ (x7 : Int),
 ∃ (x8 : Int),
 Reads Proofs.Tryz.prog [] (Instr.loadAt 53 (Value.pointer (some ad5))) w4 (Value.agg #[Value.int IntKind.i64 x6, Value.int IntKind.i64 x7, Value.int IntKind.i64 x8]) ∧
 ∃ (ad9 : Addr),
 Gives Proofs.Tryz.prog (Instr.indexAt 43 (Value.slice s2a s2n s2c) (Value.int IntKind.i64 x3)) (Value.pointer (some ad9)) ∧
 ∃ (x10 : Int),
 ∃ (x11 : Int),
 ∃ (x12 : Int),
 Reads Proofs.Tryz.prog [] (Instr.loadAt 53 (Value.pointer (some ad9))) w4 (Value.agg #[Value.int IntKind.i64 x10, Value.int IntKind.i64 x11, Value.int IntKind.i64 x12]) ∧
 ((!(x6 == x10 && (x7 == x11 && (x8 == x12 && true)))) = true → ∀ (w13 : World), Bel w4 w13 → R (Ending.returned (Value.bool false)) w13) ∧
 ((!(x6 == x10 && (x7 == x11 && (x8 == x12 && true)))) = false → ∀ (w14 : World), Bel w4 w14 → J1 (IntKind.i64.wrap (x3 + 1), ()) w14 ∧ J2 (IntKind.i64.wrap (x3 + 1), ()) w14 < J2 (x3, ()) w4)) ∧
 (decide (x3 < (↑s1n : Int)) = false → R (Ending.returned (Value.bool true)) w4))
theorem f61_eq (s1a : Option Addr) (s1n : Nat) (s1c : Nat) (s2a : Option Addr) (s2n : Nat) (s2c : Nat) (w : World) (R : Ending → World → Prop) : (fnF Go.Proofs.Tryz.prog h61 Go.Proofs.Tryz.f61 [Value.slice s1a s1n s1c, Value.slice s2a s2n s2c] w R).den = f61_vc s1a s1n s1c s2a s2n s2c w R := by kernel_rfl
theorem f61_calls (s1a : Option Addr) (s1n : Nat) (s1c : Nat) (s2a : Option Addr) (s2n : Nat) (s2c : Nat) (w : World) (R : Ending → World → Prop) (h : f61_vc s1a s1n s1c s2a s2n s2c w R) : Calls Go.Proofs.Tryz.prog 61 (List.toArray [Value.slice s1a s1n s1c, Value.slice s2a s2n s2c]) w R :=
 fn_sound (H := h61) (fn := Go.Proofs.Tryz.f61) (by kernel_rfl) (by kernel_rfl) (by kernel_rfl) ((f61_eq s1a s1n s1c s2a s2n s2c w R).mpr h)


/-! manciple/book.Order -/
def h62 : Hints := ⟨[], [], [], [], [], [], [], [], []⟩
def f62_vc (aa : Option Addr) (an : Nat) (ac : Nat) (ba : Option Addr) (bn : Nat) (bc : Nat) (w : World) (R : Ending → World → Prop) : Prop :=
 Calls Proofs.Tryz.prog 83 #[Value.slice aa an ac, Value.slice ba bn bc, Value.func (Fn.func 84) #[] #[]] w fun (e1 : Ending) (w2 : World) =>
 ∃ (x3 : Int), e1 = Ending.returned (Value.int IntKind.i64 x3) ∧ R (Ending.returned (Value.int IntKind.i64 x3)) w2
theorem f62_eq (aa : Option Addr) (an : Nat) (ac : Nat) (ba : Option Addr) (bn : Nat) (bc : Nat) (w : World) (R : Ending → World → Prop) : (fnF Go.Proofs.Tryz.prog h62 Go.Proofs.Tryz.f62 [Value.slice aa an ac, Value.slice ba bn bc] w R).den = f62_vc aa an ac ba bn bc w R := by kernel_rfl
theorem f62_calls (aa : Option Addr) (an : Nat) (ac : Nat) (ba : Option Addr) (bn : Nat) (bc : Nat) (w : World) (R : Ending → World → Prop) (h : f62_vc aa an ac ba bn bc w R) : Calls Go.Proofs.Tryz.prog 62 (List.toArray [Value.slice aa an ac, Value.slice ba bn bc]) w R :=
 fn_sound (H := h62) (fn := Go.Proofs.Tryz.f62) (by kernel_rfl) (by kernel_rfl) (by kernel_rfl) ((f62_eq aa an ac ba bn bc w R).mpr h)


/-! manciple/conf.within -/
def h63 : Hints := ⟨[], [], [10], [], [], [], [], [], []⟩
def f63_vc (n : Int) (lo : Int) (hi : Int) (w : World) (R : Ending → World → Prop) : Prop :=
 (decide (n ≥ lo) = true → R (Ending.returned (Value.bool (decide (n ≤ hi)))) w) ∧ (decide (n ≥ lo) = false → R (Ending.returned (Value.bool false)) w)
theorem f63_eq (n : Int) (lo : Int) (hi : Int) (w : World) (R : Ending → World → Prop) : (fnF Go.Proofs.Tryz.prog h63 Go.Proofs.Tryz.f63 [Value.int IntKind.i64 n, Value.int IntKind.i64 lo, Value.int IntKind.i64 hi] w R).den = f63_vc n lo hi w R := by kernel_rfl
theorem f63_calls (n : Int) (lo : Int) (hi : Int) (w : World) (R : Ending → World → Prop) (h : f63_vc n lo hi w R) : Calls Go.Proofs.Tryz.prog 63 (List.toArray [Value.int IntKind.i64 n, Value.int IntKind.i64 lo, Value.int IntKind.i64 hi]) w R :=
 fn_sound (H := h63) (fn := Go.Proofs.Tryz.f63) (by kernel_rfl) (by kernel_rfl) (by kernel_rfl) ((f63_eq n lo hi w R).mpr h)


/-! manciple/slot.Right -/
def h64 : Hints := ⟨[1], [], [6, 11, 16], [], [], [], [], [], []⟩
def f64_vc (s_0 : Int) (s_1 : Int) (w : World) (R : Ending → World → Prop) : Prop :=
 ∀ (n1 : Nat),
 w.heap.size ≤ n1 →
 (decide (s_0 ≥ 0) = true →
 (decide (s_0 < 4) = true →
 (decide (s_1 ≥ 0) = true → ∀ (w2 : World), Bel w w2 → Under [n1] w2 → R (Ending.returned (Value.bool (decide (s_1 ≤ 32)))) w2) ∧
 (decide (s_1 ≥ 0) = false → ∀ (w3 : World), Bel w w3 → Under [n1] w3 → R (Ending.returned (Value.bool false)) w3)) ∧
 (decide (s_0 < 4) = false → ∀ (w4 : World), Bel w w4 → Under [n1] w4 → R (Ending.returned (Value.bool false)) w4)) ∧
 (decide (s_0 ≥ 0) = false → ∀ (w5 : World), Bel w w5 → Under [n1] w5 → R (Ending.returned (Value.bool false)) w5)
theorem f64_eq (s_0 : Int) (s_1 : Int) (w : World) (R : Ending → World → Prop) : (fnF Go.Proofs.Tryz.prog h64 Go.Proofs.Tryz.f64 [Value.agg #[Value.int IntKind.i64 s_0, Value.int IntKind.i64 s_1]] w R).den = f64_vc s_0 s_1 w R := by kernel_rfl
theorem f64_calls (s_0 : Int) (s_1 : Int) (w : World) (R : Ending → World → Prop) (h : f64_vc s_0 s_1 w R) : Calls Go.Proofs.Tryz.prog 64 (List.toArray [Value.agg #[Value.int IntKind.i64 s_0, Value.int IntKind.i64 s_1]]) w R :=
 fn_sound (H := h64) (fn := Go.Proofs.Tryz.f64) (by kernel_rfl) (by kernel_rfl) (by kernel_rfl) ((f64_eq s_0 s_1 w R).mpr h)


/-! manciple/vec.of -/
def h65 : Hints := ⟨[1, 2], [], [], [], [], [], [], [], []⟩
def f65_vc (p_0 : Int) (p_1 : Int) (p_2 : Int) (w : World) (R : Ending → World → Prop) : Prop :=
 ∀ (n1 : Nat), w.heap.size ≤ n1 → ∀ (n2 : Nat), w.heap.size ≤ n2 → ∀ (w3 : World), Evo [n2] w w3 → Under [n1, n2] w3 → R (Ending.returned (Value.agg #[Value.int IntKind.i64 p_0, Value.int IntKind.i64 p_1])) w3
theorem f65_eq (p_0 : Int) (p_1 : Int) (p_2 : Int) (w : World) (R : Ending → World → Prop) : (fnF Go.Proofs.Tryz.prog h65 Go.Proofs.Tryz.f65 [Value.agg #[Value.int IntKind.i64 p_0, Value.int IntKind.i64 p_1, Value.int IntKind.i64 p_2]] w R).den = f65_vc p_0 p_1 p_2 w R := by kernel_rfl
theorem f65_calls (p_0 : Int) (p_1 : Int) (p_2 : Int) (w : World) (R : Ending → World → Prop) (h : f65_vc p_0 p_1 p_2 w R) : Calls Go.Proofs.Tryz.prog 65 (List.toArray [Value.agg #[Value.int IntKind.i64 p_0, Value.int IntKind.i64 p_1, Value.int IntKind.i64 p_2]]) w R :=
 fn_sound (H := h65) (fn := Go.Proofs.Tryz.f65) (by kernel_rfl) (by kernel_rfl) (by kernel_rfl) ((f65_eq p_0 p_1 p_2 w R).mpr h)


/-! manciple/quant.Right -/
def h66 : Hints := ⟨[], [], [5], [], [], [], [], [], []⟩
def f66_vc (n : Int) (w : World) (R : Ending → World → Prop) : Prop :=
 (decide (n ≥ 0) = true → R (Ending.returned (Value.bool (decide (n ≤ 9007199254740992)))) w) ∧ (decide (n ≥ 0) = false → R (Ending.returned (Value.bool false)) w)
theorem f66_eq (n : Int) (w : World) (R : Ending → World → Prop) : (fnF Go.Proofs.Tryz.prog h66 Go.Proofs.Tryz.f66 [Value.int IntKind.i64 n] w R).den = f66_vc n w R := by kernel_rfl
theorem f66_calls (n : Int) (w : World) (R : Ending → World → Prop) (h : f66_vc n w R) : Calls Go.Proofs.Tryz.prog 66 (List.toArray [Value.int IntKind.i64 n]) w R :=
 fn_sound (H := h66) (fn := Go.Proofs.Tryz.f66) (by kernel_rfl) (by kernel_rfl) (by kernel_rfl) ((f66_eq n w R).mpr h)


/-! manciple/slot.Cmp -/
def h67 : Hints := ⟨[2, 3], [], [5, 9, 20], [], [], [], [], [], []⟩
def f67_vc (a_0 : Int) (a_1 : Int) (b_0 : Int) (b_1 : Int) (w : World) (R : Ending → World → Prop) : Prop :=
 ∀ (n1 : Nat),
 w.heap.size ≤ n1 →
 ∀ (n2 : Nat),
 w.heap.size ≤ n2 →
 ((a_0 == b_0 && (a_1 == b_1 && true)) = true → ∀ (w3 : World), Bel w w3 → Under [n1, n2] w3 → R (Ending.returned (Value.int IntKind.i64 0)) w3) ∧
 ((a_0 == b_0 && (a_1 == b_1 && true)) = false →
 (decide (a_0 < b_0) = true → ∀ (w4 : World), Bel w w4 → Under [n1, n2] w4 → R (Ending.returned (Value.int IntKind.i64 (-1))) w4) ∧
 (decide (a_0 < b_0) = false →
 ((a_0 == b_0) = true →
 (decide (a_1 < b_1) = true → ∀ (w5 : World), Bel w w5 → Under [n1, n2] w5 → R (Ending.returned (Value.int IntKind.i64 (-1))) w5) ∧
 (decide (a_1 < b_1) = false → ∀ (w6 : World), Bel w w6 → Under [n1, n2] w6 → R (Ending.returned (Value.int IntKind.i64 1)) w6)) ∧
 ((a_0 == b_0) = false → ∀ (w7 : World), Bel w w7 → Under [n1, n2] w7 → R (Ending.returned (Value.int IntKind.i64 1)) w7)))
theorem f67_eq (a_0 : Int) (a_1 : Int) (b_0 : Int) (b_1 : Int) (w : World) (R : Ending → World → Prop) : (fnF Go.Proofs.Tryz.prog h67 Go.Proofs.Tryz.f67 [Value.agg #[Value.int IntKind.i64 a_0, Value.int IntKind.i64 a_1], Value.agg #[Value.int IntKind.i64 b_0, Value.int IntKind.i64 b_1]] w R).den = f67_vc a_0 a_1 b_0 b_1 w R := by kernel_rfl
theorem f67_calls (a_0 : Int) (a_1 : Int) (b_0 : Int) (b_1 : Int) (w : World) (R : Ending → World → Prop) (h : f67_vc a_0 a_1 b_0 b_1 w R) : Calls Go.Proofs.Tryz.prog 67 (List.toArray [Value.agg #[Value.int IntKind.i64 a_0, Value.int IntKind.i64 a_1], Value.agg #[Value.int IntKind.i64 b_0, Value.int IntKind.i64 b_1]]) w R :=
 fn_sound (H := h67) (fn := Go.Proofs.Tryz.f67) (by kernel_rfl) (by kernel_rfl) (by kernel_rfl) ((f67_eq a_0 a_1 b_0 b_1 w R).mpr h)


/-! (manciple/sums.Sums).Right -/
def h68 : Hints := ⟨[1], [8, 13], [16, 11], [], [(2, 5)], [], [], [], []⟩
def f68_vc (a_0 : Int) (a_1 : Int) (a_2 : Int) (a_3 : Int) (w : World) (R : Ending → World → Prop) : Prop :=
 ∀ (n1 : Nat),
 w.heap.size ≤ n1 →
 (decide (a_0 < 0) = true → ∀ (w2 : World), Bel w w2 → Under [n1] w2 → R (Ending.returned (Value.bool false)) w2) ∧
 (decide (a_0 < 0) = false →
 (decide (a_0 > 1152921504606846976) = true → ∀ (w3 : World), Bel w w3 → Under [n1] w3 → R (Ending.returned (Value.bool false)) w3) ∧
 (decide (a_0 > 1152921504606846976) = false →
 (decide (a_1 < 0) = true → ∀ (w4 : World), Bel w w4 → Under [n1] w4 → R (Ending.returned (Value.bool false)) w4) ∧
 (decide (a_1 < 0) = false →
 (decide (a_1 > 1152921504606846976) = true → ∀ (w5 : World), Bel w w5 → Under [n1] w5 → R (Ending.returned (Value.bool false)) w5) ∧
 (decide (a_1 > 1152921504606846976) = false →
 (decide (a_2 < 0) = true → ∀ (w6 : World), Bel w w6 → Under [n1] w6 → R (Ending.returned (Value.bool false)) w6) ∧
 (decide (a_2 < 0) = false →
 (decide (a_2 > 1152921504606846976) = true → ∀ (w7 : World), Bel w w7 → Under [n1] w7 → R (Ending.returned (Value.bool false)) w7) ∧
 (decide (a_2 > 1152921504606846976) = false →
 (decide (a_3 < 0) = true → ∀ (w8 : World), Bel w w8 → Under [n1] w8 → R (Ending.returned (Value.bool false)) w8) ∧
 (decide (a_3 < 0) = false →
 (decide (a_3 > 1152921504606846976) = true → ∀ (w9 : World), Bel w w9 → Under [n1] w9 → R (Ending.returned (Value.bool false)) w9) ∧
 (decide (a_3 > 1152921504606846976) = false → ∀ (w10 : World), Bel w w10 → Under [n1] w10 → R (Ending.returned (Value.bool true)) w10))))))))
theorem f68_eq (a_0 : Int) (a_1 : Int) (a_2 : Int) (a_3 : Int) (w : World) (R : Ending → World → Prop) : (fnF Go.Proofs.Tryz.prog h68 Go.Proofs.Tryz.f68 [Value.agg #[Value.int IntKind.i64 a_0, Value.int IntKind.i64 a_1, Value.int IntKind.i64 a_2, Value.int IntKind.i64 a_3]] w R).den = f68_vc a_0 a_1 a_2 a_3 w R := by kernel_rfl
theorem f68_calls (a_0 : Int) (a_1 : Int) (a_2 : Int) (a_3 : Int) (w : World) (R : Ending → World → Prop) (h : f68_vc a_0 a_1 a_2 a_3 w R) : Calls Go.Proofs.Tryz.prog 68 (List.toArray [Value.agg #[Value.int IntKind.i64 a_0, Value.int IntKind.i64 a_1, Value.int IntKind.i64 a_2, Value.int IntKind.i64 a_3]]) w R :=
 fn_sound (H := h68) (fn := Go.Proofs.Tryz.f68) (by kernel_rfl) (by kernel_rfl) (by kernel_rfl) ((f68_eq a_0 a_1 a_2 a_3 w R).mpr h)


/-! manciple/vec.Only -/
def h69 : Hints := ⟨[7], [12], [11, 21, 18], [], [], [(3, ⟨[(5, .sl), (10, .int .i64)], []⟩)], [], [], []⟩
def f69_vc (va : Option Addr) (vn : Nat) (vc : Nat) (rolesa : Option Addr) (rolesn : Nat) (rolesc : Nat) (w : World) (R : Ending → World → Prop) : Prop :=
 ∃ (J1 : (Option Addr × Nat × Nat) × Int × Unit → World → Prop),
 ∃ (J2 : (Option Addr × Nat × Nat) × Int × Unit → World → Nat),
 J1 ((none, 0, 0), 0, ()) w ∧
 ∀ (a3 : Option Addr) (n4 n5 : Nat) (x6 : Int) (w7 : World),
 J1 ((a3, n4, n5), x6, ()) w7 →
 (decide (x6 < (↑vn : Int)) = true →
 ∃ (ad8 : Addr),
 Gives Proofs.Tryz.prog (Instr.indexAt 43 (Value.slice va vn vc) (Value.int IntKind.i64 x6)) (Value.pointer (some ad8)) ∧
 ∃ (x9 : Int),
 ∃ (x10 : Int),
 ∃ (x11 : Int),
 Reads Proofs.Tryz.prog [] (Instr.loadAt 53 (Value.pointer (some ad8))) w7 (Value.agg #[Value.int IntKind.i64 x9, Value.int IntKind.i64 x10, Value.int IntKind.i64 x11]) ∧
 ∀ (n12 : Nat),
 w7.heap.size ≤ n12 →
 ∀ (w13 : World),
 Evo [n12] w7 w13 →
 Under [n12] w13 →
 Calls Proofs.Tryz.prog 86 #[Value.slice rolesa rolesn rolesc, Value.int IntKind.i64 x10] w13 fun (e14 : Ending) (w15 : World) =>
 ∃ (b16 : Bool),
 e14 = Ending.returned (Value.bool b16) ∧
 Keeps [n12] w13 w15 ∧
 (b16 = true →
 Calls Proofs.Tryz.prog 40 #[Value.slice va vn vc] w15 fun (e17 : Ending) (w18 : World) =>
 ∃ (b19 : Bool),
 e17 = Ending.returned (Value.bool b19) ∧
 Keeps [n12] w15 w18 ∧
 (b19 = true →
 OpW Proofs.Tryz.prog (valueS (Instr.buildSlice 43 1 #[(0, Value.agg #[Value.int IntKind.i64 x9, Value.int IntKind.i64 x10, Value.int IntKind.i64 x11])])) w18
 fun (v20 : Value) (w21 : World) =>
 ∃ (a22 : Option Addr),
 ∃ (n23 : Nat),
 ∃ (n24 : Nat),
 v20 = Value.slice a22 n23 n24 ∧
 Keeps [n12] w18 w21 ∧
 OpW Proofs.Tryz.prog (builtin Builtin.append #[43, 43] 43 #[false, false] #[Value.slice a3 n4 n5, Value.slice a22 n23 n24]) w21 fun (v25 : Value) (w26 : World) =>
 ∃ (a27 : Option Addr),
 ∃ (n28 : Nat),
 ∃ (n29 : Nat),
 v25 = Value.slice a27 n28 n29 ∧
 Keeps [n12] w21 w26 ∧
 J1 ((a27, n28, n29), IntKind.i64.wrap (x6 + 1), ()) w26 ∧ J2 ((a27, n28, n29), IntKind.i64.wrap (x6 + 1), ()) w26 < J2 ((a3, n4, n5), x6, ()) w7) ∧
 (b19 = false → J1 ((a3, n4, n5), IntKind.i64.wrap (x6 + 1), ()) w18 ∧ J2 ((a3, n4, n5), IntKind.i64.wrap (x6 + 1), ()) w18 < J2 ((a3, n4, n5), x6, ()) w7)) ∧
 (b16 = false → J1 ((a3, n4, n5), IntKind.i64.wrap (x6 + 1), ()) w15 ∧ J2 ((a3, n4, n5), IntKind.i64.wrap (x6 + 1), ()) w15 < J2 ((a3, n4, n5), x6, ()) w7)) ∧
 (decide (x6 < (↑vn : Int)) = false → R (Ending.returned (Value.slice a3 n4 n5)) w7)
theorem f69_eq (va : Option Addr) (vn : Nat) (vc : Nat) (rolesa : Option Addr) (rolesn : Nat) (rolesc : Nat) (w : World) (R : Ending → World → Prop) : (fnF Go.Proofs.Tryz.prog h69 Go.Proofs.Tryz.f69 [Value.slice va vn vc, Value.slice rolesa rolesn rolesc] w R).den = f69_vc va vn vc rolesa rolesn rolesc w R := by kernel_rfl
theorem f69_calls (va : Option Addr) (vn : Nat) (vc : Nat) (rolesa : Option Addr) (rolesn : Nat) (rolesc : Nat) (w : World) (R : Ending → World → Prop) (h : f69_vc va vn vc rolesa rolesn rolesc w R) : Calls Go.Proofs.Tryz.prog 69 (List.toArray [Value.slice va vn vc, Value.slice rolesa rolesn rolesc]) w R :=
 fn_sound (H := h69) (fn := Go.Proofs.Tryz.f69) (by kernel_rfl) (by kernel_rfl) (by kernel_rfl) ((f69_eq va vn vc rolesa rolesn rolesc w R).mpr h)


/-! cmp.isNaN[int64] -/
def h70 : Hints := ⟨[], [], [], [], [], [], [], [], []⟩
def f70_vc (x : Int) (w : World) (R : Ending → World → Prop) : Prop :=
 R (Ending.returned (Value.bool (x != x))) w
theorem f70_eq (x : Int) (w : World) (R : Ending → World → Prop) : (fnF Go.Proofs.Tryz.prog h70 Go.Proofs.Tryz.f70 [Value.int IntKind.i64 x] w R).den = f70_vc x w R := by kernel_rfl
theorem f70_calls (x : Int) (w : World) (R : Ending → World → Prop) (h : f70_vc x w R) : Calls Go.Proofs.Tryz.prog 70 (List.toArray [Value.int IntKind.i64 x]) w R :=
 fn_sound (H := h70) (fn := Go.Proofs.Tryz.f70) (by kernel_rfl) (by kernel_rfl) (by kernel_rfl) ((f70_eq x w R).mpr h)


/-! slices.IndexFunc[[]manciple/api.Frame,manciple/api.Frame] -/
def h71 : Hints := ⟨[], [14, 16], [9, 16], [], [], [(2, ⟨[(8, .int .i64)], []⟩)], [], [], []⟩
def f71_vc (sa : Option Addr) (sn : Nat) (sc : Nat) (f : Value) (w : World) (R : Ending → World → Prop) : Prop :=
 ∃ (J1 : Int × Unit → World → Prop),
 ∃ (J2 : Int × Unit → World → Nat),
 J1 (0, ()) w ∧
 ∀ (x3 : Int) (w4 : World),
 J1 (x3, ()) w4 →
 (decide (x3 < (↑sn : Int)) = true →
 ∃ (ad5 : Addr),
 Gives Proofs.Tryz.prog (Instr.indexAt 25 (Value.slice sa sn sc) (Value.int IntKind.i64 x3)) (Value.pointer (some ad5)) ∧
 ∃ (x6 : Int),
 ∃ (x7 : Int),
 ∃ (x8 : Int),
 ∃ (b9 : Bool),
 ∃ (b10 : Bool),
 ∃ (x11 : Int),
 ∃ (x12 : Int),
 Reads Proofs.Tryz.prog [] (Instr.loadAt 37 (Value.pointer (some ad5))) w4
 (Value.agg #[Value.int IntKind.i64 x6, Value.int IntKind.i64 x7, Value.int IntKind.i64 x8, Value.bool b9, Value.bool b10, Value.int IntKind.i64 x11, Value.int IntKind.i64 x12]) ∧
 OpW Proofs.Tryz.prog
 (invokeS f #[Value.agg #[Value.int IntKind.i64 x6, Value.int IntKind.i64 x7, Value.int IntKind.i64 x8, Value.bool b9, Value.bool b10, Value.int IntKind.i64 x11, Value.int IntKind.i64 x12]]) w4
 fun (v13 : Value) (w14 : World) =>
 ∃ (b15 : Bool),
 v13 = Value.bool b15 ∧
 (b15 = true → R (Ending.returned (Value.int IntKind.i64 x3)) w14) ∧ (b15 = false → J1 (IntKind.i64.wrap (x3 + 1), ()) w14 ∧ J2 (IntKind.i64.wrap (x3 + 1), ()) w14 < J2 (x3, ()) w4)) ∧
 (decide (x3 < (↑sn : Int)) = false → R (Ending.returned (Value.int IntKind.i64 (-1))) w4)
theorem f71_eq (sa : Option Addr) (sn : Nat) (sc : Nat) (f : Value) (w : World) (R : Ending → World → Prop) : (fnF Go.Proofs.Tryz.prog h71 Go.Proofs.Tryz.f71 [Value.slice sa sn sc, f] w R).den = f71_vc sa sn sc f w R := by kernel_rfl
theorem f71_calls (sa : Option Addr) (sn : Nat) (sc : Nat) (f : Value) (w : World) (R : Ending → World → Prop) (h : f71_vc sa sn sc f w R) : Calls Go.Proofs.Tryz.prog 71 (List.toArray [Value.slice sa sn sc, f]) w R :=
 fn_sound (H := h71) (fn := Go.Proofs.Tryz.f71) (by kernel_rfl) (by kernel_rfl) (by kernel_rfl) ((f71_eq sa sn sc f w R).mpr h)


/-! manciple/book.Frame$1 -/
def h72 : Hints := ⟨[2], [], [], [], [], [], [], [], []⟩
def f72_vc (f_0 : Int) (f_1 : Int) (f_2 : Int) (f_3 : Bool) (f_4 : Bool) (f_5 : Int) (f_6 : Int) (cap0 : Value) (w : World) (R : Ending → World → Prop) : Prop :=
 ∀ (n1 : Nat), w.heap.size ≤ n1 → ∃ (x2 : Int), Reads Proofs.Tryz.prog [] (Instr.loadAt 2 cap0) w (Value.int IntKind.i64 x2) ∧ ∀ (w3 : World), Bel w w3 → Under [n1] w3 → R (Ending.returned (Value.bool (f_0 == x2))) w3
theorem f72_eq (f_0 : Int) (f_1 : Int) (f_2 : Int) (f_3 : Bool) (f_4 : Bool) (f_5 : Int) (f_6 : Int) (cap0 : Value) (w : World) (R : Ending → World → Prop) : (fnF Go.Proofs.Tryz.prog h72 Go.Proofs.Tryz.f72 [Value.agg #[Value.int IntKind.i64 f_0, Value.int IntKind.i64 f_1, Value.int IntKind.i64 f_2, Value.bool f_3, Value.bool f_4, Value.int IntKind.i64 f_5, Value.int IntKind.i64 f_6], cap0] w R).den = f72_vc f_0 f_1 f_2 f_3 f_4 f_5 f_6 cap0 w R := by kernel_rfl
theorem f72_calls (f_0 : Int) (f_1 : Int) (f_2 : Int) (f_3 : Bool) (f_4 : Bool) (f_5 : Int) (f_6 : Int) (cap0 : Value) (w : World) (R : Ending → World → Prop) (h : f72_vc f_0 f_1 f_2 f_3 f_4 f_5 f_6 cap0 w R) : Calls Go.Proofs.Tryz.prog 72 (List.toArray [Value.agg #[Value.int IntKind.i64 f_0, Value.int IntKind.i64 f_1, Value.int IntKind.i64 f_2, Value.bool f_3, Value.bool f_4, Value.int IntKind.i64 f_5, Value.int IntKind.i64 f_6], cap0]) w R :=
 fn_sound (H := h72) (fn := Go.Proofs.Tryz.f72) (by kernel_rfl) (by kernel_rfl) (by kernel_rfl) ((f72_eq f_0 f_1 f_2 f_3 f_4 f_5 f_6 cap0 w R).mpr h)


/-! slices.IndexFunc[[]manciple/api.Agent,manciple/api.Agent] -/
def h73 : Hints := ⟨[], [14, 16], [9, 16], [], [], [(2, ⟨[(8, .int .i64)], []⟩)], [], [], []⟩
def f73_vc (sa : Option Addr) (sn : Nat) (sc : Nat) (f : Value) (w : World) (R : Ending → World → Prop) : Prop :=
 ∃ (J1 : Int × Unit → World → Prop),
 ∃ (J2 : Int × Unit → World → Nat),
 J1 (0, ()) w ∧
 ∀ (x3 : Int) (w4 : World),
 J1 (x3, ()) w4 →
 (decide (x3 < (↑sn : Int)) = true →
 ∃ (ad5 : Addr),
 Gives Proofs.Tryz.prog (Instr.indexAt 26 (Value.slice sa sn sc) (Value.int IntKind.i64 x3)) (Value.pointer (some ad5)) ∧
 ∃ (x6 : Int),
 ∃ (a7 : Option Addr),
 ∃ (n8 : Nat),
 ∃ (n9 : Nat),
 ∃ (a10 : Option Addr),
 ∃ (n11 : Nat),
 ∃ (n12 : Nat),
 Reads Proofs.Tryz.prog [] (Instr.loadAt 45 (Value.pointer (some ad5))) w4 (Value.agg #[Value.int IntKind.i64 x6, Value.slice a7 n8 n9, Value.slice a10 n11 n12]) ∧
 OpW Proofs.Tryz.prog (invokeS f #[Value.agg #[Value.int IntKind.i64 x6, Value.slice a7 n8 n9, Value.slice a10 n11 n12]]) w4 fun (v13 : Value) (w14 : World) =>
 ∃ (b15 : Bool),
 v13 = Value.bool b15 ∧
 (b15 = true → R (Ending.returned (Value.int IntKind.i64 x3)) w14) ∧ (b15 = false → J1 (IntKind.i64.wrap (x3 + 1), ()) w14 ∧ J2 (IntKind.i64.wrap (x3 + 1), ()) w14 < J2 (x3, ()) w4)) ∧
 (decide (x3 < (↑sn : Int)) = false → R (Ending.returned (Value.int IntKind.i64 (-1))) w4)
theorem f73_eq (sa : Option Addr) (sn : Nat) (sc : Nat) (f : Value) (w : World) (R : Ending → World → Prop) : (fnF Go.Proofs.Tryz.prog h73 Go.Proofs.Tryz.f73 [Value.slice sa sn sc, f] w R).den = f73_vc sa sn sc f w R := by kernel_rfl
theorem f73_calls (sa : Option Addr) (sn : Nat) (sc : Nat) (f : Value) (w : World) (R : Ending → World → Prop) (h : f73_vc sa sn sc f w R) : Calls Go.Proofs.Tryz.prog 73 (List.toArray [Value.slice sa sn sc, f]) w R :=
 fn_sound (H := h73) (fn := Go.Proofs.Tryz.f73) (by kernel_rfl) (by kernel_rfl) (by kernel_rfl) ((f73_eq sa sn sc f w R).mpr h)


/-! manciple/book.Agent$1 -/
def h74 : Hints := ⟨[2], [], [], [], [], [], [], [], []⟩
def f74_vc (a_0 : Int) (a_1a : Option Addr) (a_1n : Nat) (a_1c : Nat) (a_2a : Option Addr) (a_2n : Nat) (a_2c : Nat) (cap0 : Value) (w : World) (R : Ending → World → Prop) : Prop :=
 ∀ (n1 : Nat), w.heap.size ≤ n1 → ∃ (x2 : Int), Reads Proofs.Tryz.prog [] (Instr.loadAt 2 cap0) w (Value.int IntKind.i64 x2) ∧ ∀ (w3 : World), Bel w w3 → Under [n1] w3 → R (Ending.returned (Value.bool (a_0 == x2))) w3
theorem f74_eq (a_0 : Int) (a_1a : Option Addr) (a_1n : Nat) (a_1c : Nat) (a_2a : Option Addr) (a_2n : Nat) (a_2c : Nat) (cap0 : Value) (w : World) (R : Ending → World → Prop) : (fnF Go.Proofs.Tryz.prog h74 Go.Proofs.Tryz.f74 [Value.agg #[Value.int IntKind.i64 a_0, Value.slice a_1a a_1n a_1c, Value.slice a_2a a_2n a_2c], cap0] w R).den = f74_vc a_0 a_1a a_1n a_1c a_2a a_2n a_2c cap0 w R := by kernel_rfl
theorem f74_calls (a_0 : Int) (a_1a : Option Addr) (a_1n : Nat) (a_1c : Nat) (a_2a : Option Addr) (a_2n : Nat) (a_2c : Nat) (cap0 : Value) (w : World) (R : Ending → World → Prop) (h : f74_vc a_0 a_1a a_1n a_1c a_2a a_2n a_2c cap0 w R) : Calls Go.Proofs.Tryz.prog 74 (List.toArray [Value.agg #[Value.int IntKind.i64 a_0, Value.slice a_1a a_1n a_1c, Value.slice a_2a a_2n a_2c], cap0]) w R :=
 fn_sound (H := h74) (fn := Go.Proofs.Tryz.f74) (by kernel_rfl) (by kernel_rfl) (by kernel_rfl) ((f74_eq a_0 a_1a a_1n a_1c a_2a a_2n a_2c cap0 w R).mpr h)


/-! manciple/quant.Add -/
def h75 : Hints := ⟨[], [], [], [], [], [], [], [], []⟩
def f75_vc (a : Int) (b : Int) (most : Int) (w : World) (R : Ending → World → Prop) : Prop :=
 OpW Proofs.Tryz.prog (valueS (Instr.buildSlice 99 2 #[(0, Value.int IntKind.i64 a), (1, Value.int IntKind.i64 b)])) w fun (v1 : Value) (w2 : World) =>
 ∃ (a3 : Option Addr),
 ∃ (n4 : Nat),
 ∃ (n5 : Nat),
 v1 = Value.slice a3 n4 n5 ∧
 Calls Proofs.Tryz.prog 87 #[Value.int IntKind.i64 most, Value.slice a3 n4 n5] w2 fun (e6 : Ending) (w7 : World) =>
 ∃ (x8 : Int), ∃ (b9 : Bool), e6 = Ending.returned (Value.tuple #[Value.int IntKind.i64 x8, Value.bool b9]) ∧ R (Ending.returned (Value.tuple #[Value.int IntKind.i64 x8, Value.bool b9])) w7
theorem f75_eq (a : Int) (b : Int) (most : Int) (w : World) (R : Ending → World → Prop) : (fnF Go.Proofs.Tryz.prog h75 Go.Proofs.Tryz.f75 [Value.int IntKind.i64 a, Value.int IntKind.i64 b, Value.int IntKind.i64 most] w R).den = f75_vc a b most w R := by kernel_rfl
theorem f75_calls (a : Int) (b : Int) (most : Int) (w : World) (R : Ending → World → Prop) (h : f75_vc a b most w R) : Calls Go.Proofs.Tryz.prog 75 (List.toArray [Value.int IntKind.i64 a, Value.int IntKind.i64 b, Value.int IntKind.i64 most]) w R :=
 fn_sound (H := h75) (fn := Go.Proofs.Tryz.f75) (by kernel_rfl) (by kernel_rfl) (by kernel_rfl) ((f75_eq a b most w R).mpr h)


/-! slices.CompareFunc[[]manciple/api.Part,[]manciple/api.Part,manciple/api.Part,manciple/api.Part] -/
def h83 : Hints := ⟨[8, 9], [16, 24, 29], [14, 21, 31, 38], [], [], [(2, ⟨[(13, .int .i64)], []⟩)], [], [], []⟩
def f83_vc (s1a : Option Addr) (s1n : Nat) (s1c : Nat) (s2a : Option Addr) (s2n : Nat) (s2c : Nat) (cmp : Value) (w : World) (R : Ending → World → Prop) : Prop :=
 ∃ (J1 : Int × Unit → World → Prop),
 ∃ (J2 : Int × Unit → World → Nat),
 J1 (0, ()) w ∧
 ∀ (x3 : Int) (w4 : World),
 J1 (x3, ()) w4 →
 (decide (x3 < (↑s1n : Int)) = true →
 ∃ (ad5 : Addr),
 Gives Proofs.Tryz.prog (Instr.indexAt 43 (Value.slice s1a s1n s1c) (Value.int IntKind.i64 x3)) (Value.pointer (some ad5)) ∧
 ∃ (x6 : Int),
 ∃ (x7 : Int),
 ∃ (x8 : Int),
 Reads Proofs.Tryz.prog [] (Instr.loadAt 53 (Value.pointer (some ad5))) w4 (Value.agg #[Value.int IntKind.i64 x6, Value.int IntKind.i64 x7, Value.int IntKind.i64 x8]) ∧
 ∀ (n9 : Nat),
 w4.heap.size ≤ n9 →
 (decide (x3 ≥ (↑s2n : Int)) = true → ∀ (w10 : World), Evo [n9] w4 w10 → Under [n9] w10 → R (Ending.returned (Value.int IntKind.i64 1)) w10) ∧
 (decide (x3 ≥ (↑s2n : Int)) = false →
 ∃ (ad11 : Addr),
 Gives Proofs.Tryz.prog (Instr.indexAt 43 (Value.slice s2a s2n s2c) (Value.int IntKind.i64 x3)) (Value.pointer (some ad11)) ∧
 ∃ (x12 : Int),
 ∃ (x13 : Int),
 ∃ (x14 : Int),
 Reads Proofs.Tryz.prog [n9] (Instr.loadAt 53 (Value.pointer (some ad11))) w4 (Value.agg #[Value.int IntKind.i64 x12, Value.int IntKind.i64 x13, Value.int IntKind.i64 x14]) ∧
 ∀ (n15 : Nat),
 w4.heap.size ≤ n15 →
 ∀ (w16 : World),
 Evo [n15, n9] w4 w16 →
 Under [n9, n15] w16 →
 OpW Proofs.Tryz.prog
 (invokeS cmp
 #[Value.agg #[Value.int IntKind.i64 x6, Value.int IntKind.i64 x7, Value.int IntKind.i64 x8],
 Value.agg #[Value.int IntKind.i64 x12, Value.int IntKind.i64 x13, Value.int IntKind.i64 x14]])
 w16 fun (v17 : Value) (w18 : World) =>
 ∃ (x19 : Int),
 v17 = Value.int IntKind.i64 x19 ∧
 Keeps [n9, n15] w16 w18 ∧
 ((x19 != 0) = true → R (Ending.returned (Value.int IntKind.i64 x19)) w18) ∧
 ((x19 != 0) = false → J1 (IntKind.i64.wrap (x3 + 1), ()) w18 ∧ J2 (IntKind.i64.wrap (x3 + 1), ()) w18 < J2 (x3, ()) w4))) ∧
 (decide (x3 < (↑s1n : Int)) = false →
 (decide ((↑s1n : Int) < (↑s2n : Int)) = true → R (Ending.returned (Value.int IntKind.i64 (-1))) w4) ∧ (decide ((↑s1n : Int) < (↑s2n : Int)) = false → R (Ending.returned (Value.int IntKind.i64 0)) w4))
theorem f83_eq (s1a : Option Addr) (s1n : Nat) (s1c : Nat) (s2a : Option Addr) (s2n : Nat) (s2c : Nat) (cmp : Value) (w : World) (R : Ending → World → Prop) : (fnF Go.Proofs.Tryz.prog h83 Go.Proofs.Tryz.f83 [Value.slice s1a s1n s1c, Value.slice s2a s2n s2c, cmp] w R).den = f83_vc s1a s1n s1c s2a s2n s2c cmp w R := by kernel_rfl
theorem f83_calls (s1a : Option Addr) (s1n : Nat) (s1c : Nat) (s2a : Option Addr) (s2n : Nat) (s2c : Nat) (cmp : Value) (w : World) (R : Ending → World → Prop) (h : f83_vc s1a s1n s1c s2a s2n s2c cmp w R) : Calls Go.Proofs.Tryz.prog 83 (List.toArray [Value.slice s1a s1n s1c, Value.slice s2a s2n s2c, cmp]) w R :=
 fn_sound (H := h83) (fn := Go.Proofs.Tryz.f83) (by kernel_rfl) (by kernel_rfl) (by kernel_rfl) ((f83_eq s1a s1n s1c s2a s2n s2c cmp w R).mpr h)


/-! manciple/book.Order$1 -/
def h84 : Hints := ⟨[2, 3], [], [], [(1, [0, 1, 2, 3, 5, 6, 7, 8, 10, 11, 12, 13, 4, 9, 14, 15, 16, 17])], [], [], [], [], []⟩
def f84_vc (x_0 : Int) (x_1 : Int) (x_2 : Int) (y_0 : Int) (y_1 : Int) (y_2 : Int) (w : World) (R : Ending → World → Prop) : Prop :=
 ∀ (n1 : Nat),
 w.heap.size ≤ n1 →
 ∀ (n2 : Nat),
 w.heap.size ≤ n2 →
 ∀ (w3 : World),
 Bel w w3 →
 Under [n1, n2] w3 →
 Calls Proofs.Tryz.prog 85 #[Value.int IntKind.i64 x_0, Value.int IntKind.i64 y_0] w3 fun (e4 : Ending) (w5 : World) =>
 ∃ (x6 : Int),
 e4 = Ending.returned (Value.int IntKind.i64 x6) ∧
 Keeps [n1, n2] w3 w5 ∧
 Calls Proofs.Tryz.prog 85 #[Value.int IntKind.i64 x_1, Value.int IntKind.i64 y_1] w5 fun (e7 : Ending) (w8 : World) =>
 ∃ (x9 : Int),
 e7 = Ending.returned (Value.int IntKind.i64 x9) ∧
 Keeps [n1, n2] w5 w8 ∧
 Calls Proofs.Tryz.prog 46 #[Value.int IntKind.i64 x_2, Value.int IntKind.i64 y_2] w8 fun (e10 : Ending) (w11 : World) =>
 ∃ (x12 : Int),
 e10 = Ending.returned (Value.int IntKind.i64 x12) ∧
 Keeps [n1, n2] w8 w11 ∧
 OpW Proofs.Tryz.prog (valueS (Instr.buildSlice 127 3 #[(0, Value.int IntKind.i64 x6), (1, Value.int IntKind.i64 x9), (2, Value.int IntKind.i64 x12)])) w11 fun (v13 : Value) (w14 : World) =>
 ∃ (a15 : Option Addr),
 ∃ (n16 : Nat),
 ∃ (n17 : Nat),
 v13 = Value.slice a15 n16 n17 ∧
 Keeps [n1, n2] w11 w14 ∧
 Calls Proofs.Tryz.prog 45 #[Value.slice a15 n16 n17] w14 fun (e18 : Ending) (w19 : World) =>
 ∃ (x20 : Int), e18 = Ending.returned (Value.int IntKind.i64 x20) ∧ Keeps [n1, n2] w14 w19 ∧ R (Ending.returned (Value.int IntKind.i64 x20)) w19
theorem f84_eq (x_0 : Int) (x_1 : Int) (x_2 : Int) (y_0 : Int) (y_1 : Int) (y_2 : Int) (w : World) (R : Ending → World → Prop) : (fnF Go.Proofs.Tryz.prog h84 Go.Proofs.Tryz.f84 [Value.agg #[Value.int IntKind.i64 x_0, Value.int IntKind.i64 x_1, Value.int IntKind.i64 x_2], Value.agg #[Value.int IntKind.i64 y_0, Value.int IntKind.i64 y_1, Value.int IntKind.i64 y_2]] w R).den = f84_vc x_0 x_1 x_2 y_0 y_1 y_2 w R := by kernel_rfl
theorem f84_calls (x_0 : Int) (x_1 : Int) (x_2 : Int) (y_0 : Int) (y_1 : Int) (y_2 : Int) (w : World) (R : Ending → World → Prop) (h : f84_vc x_0 x_1 x_2 y_0 y_1 y_2 w R) : Calls Go.Proofs.Tryz.prog 84 (List.toArray [Value.agg #[Value.int IntKind.i64 x_0, Value.int IntKind.i64 x_1, Value.int IntKind.i64 x_2], Value.agg #[Value.int IntKind.i64 y_0, Value.int IntKind.i64 y_1, Value.int IntKind.i64 y_2]]) w R :=
 fn_sound (H := h84) (fn := Go.Proofs.Tryz.f84) (by kernel_rfl) (by kernel_rfl) (by kernel_rfl) ((f84_eq x_0 x_1 x_2 y_0 y_1 y_2 w R).mpr h)


/-! cmp.Compare[int] -/
def h85 : Hints := ⟨[], [], [11, 12, 13, 16, 19], [], [], [], [], [], []⟩
def f85_vc (x : Int) (y : Int) (w : World) (R : Ending → World → Prop) : Prop :=
 Calls Proofs.Tryz.prog 96 #[Value.int IntKind.i64 x] w fun (e1 : Ending) (w2 : World) =>
 ∃ (b3 : Bool),
 e1 = Ending.returned (Value.bool b3) ∧
 Calls Proofs.Tryz.prog 96 #[Value.int IntKind.i64 y] w2 fun (e4 : Ending) (w5 : World) =>
 ∃ (b6 : Bool),
 e4 = Ending.returned (Value.bool b6) ∧
 (b3 = true → (b6 = true → R (Ending.returned (Value.int IntKind.i64 0)) w5) ∧ (b6 = false → R (Ending.returned (Value.int IntKind.i64 (-1))) w5)) ∧
 (b3 = false →
 (b6 = true → R (Ending.returned (Value.int IntKind.i64 1)) w5) ∧
 (b6 = false →
 (decide (x < y) = true → R (Ending.returned (Value.int IntKind.i64 (-1))) w5) ∧
 (decide (x < y) = false → (decide (x > y) = true → R (Ending.returned (Value.int IntKind.i64 1)) w5) ∧ (decide (x > y) = false → R (Ending.returned (Value.int IntKind.i64 0)) w5))))
theorem f85_eq (x : Int) (y : Int) (w : World) (R : Ending → World → Prop) : (fnF Go.Proofs.Tryz.prog h85 Go.Proofs.Tryz.f85 [Value.int IntKind.i64 x, Value.int IntKind.i64 y] w R).den = f85_vc x y w R := by kernel_rfl
theorem f85_calls (x : Int) (y : Int) (w : World) (R : Ending → World → Prop) (h : f85_vc x y w R) : Calls Go.Proofs.Tryz.prog 85 (List.toArray [Value.int IntKind.i64 x, Value.int IntKind.i64 y]) w R :=
 fn_sound (H := h85) (fn := Go.Proofs.Tryz.f85) (by kernel_rfl) (by kernel_rfl) (by kernel_rfl) ((f85_eq x y w R).mpr h)


/-! slices.Contains[[]int,int] -/
def h86 : Hints := ⟨[], [], [], [], [], [], [], [], []⟩
def f86_vc (sa : Option Addr) (sn : Nat) (sc : Nat) (v : Int) (w : World) (R : Ending → World → Prop) : Prop :=
 Calls Proofs.Tryz.prog 97 #[Value.slice sa sn sc, Value.int IntKind.i64 v] w fun (e1 : Ending) (w2 : World) => ∃ (x3 : Int), e1 = Ending.returned (Value.int IntKind.i64 x3) ∧ R (Ending.returned (Value.bool (decide (x3 ≥ 0)))) w2
theorem f86_eq (sa : Option Addr) (sn : Nat) (sc : Nat) (v : Int) (w : World) (R : Ending → World → Prop) : (fnF Go.Proofs.Tryz.prog h86 Go.Proofs.Tryz.f86 [Value.slice sa sn sc, Value.int IntKind.i64 v] w R).den = f86_vc sa sn sc v w R := by kernel_rfl
theorem f86_calls (sa : Option Addr) (sn : Nat) (sc : Nat) (v : Int) (w : World) (R : Ending → World → Prop) (h : f86_vc sa sn sc v w R) : Calls Go.Proofs.Tryz.prog 86 (List.toArray [Value.slice sa sn sc, Value.int IntKind.i64 v]) w R :=
 fn_sound (H := h86) (fn := Go.Proofs.Tryz.f86) (by kernel_rfl) (by kernel_rfl) (by kernel_rfl) ((f86_eq sa sn sc v w R).mpr h)


/-! manciple/quant.Sum -/
def h87 : Hints := ⟨[], [15], [10, 14, 25, 19], [], [], [(5, ⟨[(6, .int .i64), (13, .int .i64)], []⟩)], [], [], []⟩
def f87_vc (most : Int) (la : Option Addr) (ln : Nat) (lc : Nat) (w : World) (R : Ending → World → Prop) : Prop :=
 (decide (most < 0) = true → R (Ending.returned (Value.tuple #[Value.int IntKind.i64 0, Value.bool false])) w) ∧
 (decide (most < 0) = false →
 ∃ (J1 : Int × Int × Unit → World → Prop),
 ∃ (J2 : Int × Int × Unit → World → Nat),
 J1 (0, 0, ()) w ∧
 ∀ (x3 x4 : Int) (w5 : World),
 J1 (x3, x4, ()) w5 →
 (decide (x4 < (↑ln : Int)) = true →
 ∃ (ad6 : Addr),
 Gives Proofs.Tryz.prog (Instr.indexAt 99 (Value.slice la ln lc) (Value.int IntKind.i64 x4)) (Value.pointer (some ad6)) ∧
 ∃ (x7 : Int),
 Reads Proofs.Tryz.prog [] (Instr.loadAt 2 (Value.pointer (some ad6))) w5 (Value.int IntKind.i64 x7) ∧
 (decide (x7 < 0) = true → R (Ending.returned (Value.tuple #[Value.int IntKind.i64 0, Value.bool false])) w5) ∧
 (decide (x7 < 0) = false →
 (decide (x7 > IntKind.i64.wrap (most - x3)) = true → R (Ending.returned (Value.tuple #[Value.int IntKind.i64 0, Value.bool false])) w5) ∧
 (decide (x7 > IntKind.i64.wrap (most - x3)) = false →
 J1 (IntKind.i64.wrap (x3 + x7), IntKind.i64.wrap (x4 + 1), ()) w5 ∧ J2 (IntKind.i64.wrap (x3 + x7), IntKind.i64.wrap (x4 + 1), ()) w5 < J2 (x3, x4, ()) w5))) ∧
 (decide (x4 < (↑ln : Int)) = false → R (Ending.returned (Value.tuple #[Value.int IntKind.i64 x3, Value.bool true])) w5))
theorem f87_eq (most : Int) (la : Option Addr) (ln : Nat) (lc : Nat) (w : World) (R : Ending → World → Prop) : (fnF Go.Proofs.Tryz.prog h87 Go.Proofs.Tryz.f87 [Value.int IntKind.i64 most, Value.slice la ln lc] w R).den = f87_vc most la ln lc w R := by kernel_rfl
theorem f87_calls (most : Int) (la : Option Addr) (ln : Nat) (lc : Nat) (w : World) (R : Ending → World → Prop) (h : f87_vc most la ln lc w R) : Calls Go.Proofs.Tryz.prog 87 (List.toArray [Value.int IntKind.i64 most, Value.slice la ln lc]) w R :=
 fn_sound (H := h87) (fn := Go.Proofs.Tryz.f87) (by kernel_rfl) (by kernel_rfl) (by kernel_rfl) ((f87_eq most la ln lc w R).mpr h)


/-! cmp.isNaN[int] -/
def h96 : Hints := ⟨[], [], [], [], [], [], [], [], []⟩
def f96_vc (x : Int) (w : World) (R : Ending → World → Prop) : Prop :=
 R (Ending.returned (Value.bool (x != x))) w
theorem f96_eq (x : Int) (w : World) (R : Ending → World → Prop) : (fnF Go.Proofs.Tryz.prog h96 Go.Proofs.Tryz.f96 [Value.int IntKind.i64 x] w R).den = f96_vc x w R := by kernel_rfl
theorem f96_calls (x : Int) (w : World) (R : Ending → World → Prop) (h : f96_vc x w R) : Calls Go.Proofs.Tryz.prog 96 (List.toArray [Value.int IntKind.i64 x]) w R :=
 fn_sound (H := h96) (fn := Go.Proofs.Tryz.f96) (by kernel_rfl) (by kernel_rfl) (by kernel_rfl) ((f96_eq x w R).mpr h)


/-! slices.Index[[]int,int] -/
def h97 : Hints := ⟨[], [14], [9, 16], [], [], [(2, ⟨[(8, .int .i64)], []⟩)], [], [], []⟩
def f97_vc (sa : Option Addr) (sn : Nat) (sc : Nat) (v : Int) (w : World) (R : Ending → World → Prop) : Prop :=
 ∃ (J1 : Int × Unit → World → Prop),
 ∃ (J2 : Int × Unit → World → Nat),
 J1 (0, ()) w ∧
 ∀ (x3 : Int) (w4 : World),
 J1 (x3, ()) w4 →
 (decide (x3 < (↑sn : Int)) = true →
 ∃ (ad5 : Addr),
 Gives Proofs.Tryz.prog (Instr.indexAt 127 (Value.slice sa sn sc) (Value.int IntKind.i64 x3)) (Value.pointer (some ad5)) ∧
 ∃ (x6 : Int),
 Reads Proofs.Tryz.prog [] (Instr.loadAt 3 (Value.pointer (some ad5))) w4 (Value.int IntKind.i64 x6) ∧
 ((v == x6) = true → R (Ending.returned (Value.int IntKind.i64 x3)) w4) ∧ ((v == x6) = false → J1 (IntKind.i64.wrap (x3 + 1), ()) w4 ∧ J2 (IntKind.i64.wrap (x3 + 1), ()) w4 < J2 (x3, ()) w4)) ∧
 (decide (x3 < (↑sn : Int)) = false → R (Ending.returned (Value.int IntKind.i64 (-1))) w4)
theorem f97_eq (sa : Option Addr) (sn : Nat) (sc : Nat) (v : Int) (w : World) (R : Ending → World → Prop) : (fnF Go.Proofs.Tryz.prog h97 Go.Proofs.Tryz.f97 [Value.slice sa sn sc, Value.int IntKind.i64 v] w R).den = f97_vc sa sn sc v w R := by kernel_rfl
theorem f97_calls (sa : Option Addr) (sn : Nat) (sc : Nat) (v : Int) (w : World) (R : Ending → World → Prop) (h : f97_vc sa sn sc v w R) : Calls Go.Proofs.Tryz.prog 97 (List.toArray [Value.slice sa sn sc, Value.int IntKind.i64 v]) w R :=
 fn_sound (H := h97) (fn := Go.Proofs.Tryz.f97) (by kernel_rfl) (by kernel_rfl) (by kernel_rfl) ((f97_eq sa sn sc v w R).mpr h)

end Vcqz

/- Arrays of the function's own, behind a pointer; a string's bytes; copying. -/
namespace Go.Vc
open Go Go.RowKit

def bytesOf (s : ByteArray) : List Int := s.data.toList.map fun b => (b.toNat : Int)
theorem bytesOf_len (s : ByteArray) : (bytesOf s).length = s.size := by
  rw [bytesOf, List.length_map, Array.length_toList]
  rfl
theorem bytesOf_range {s : ByteArray} {x : Int} (h : x ∈ bytesOf s) : 0 ≤ x ∧ x < 256 := by
  obtain ⟨b, _, rfl⟩ := List.mem_map.1 h
  have := b.toBitVec.isLt
  have e : b.toNat = b.toBitVec.toNat := rfl
  omega
theorem strOfNums_bytesOf (s : ByteArray) : strOfNums (bytesOf s) = s := by
  obtain ⟨d⟩ := s
  show (⟨_⟩ : ByteArray) = ⟨_⟩
  congr 1
  have : ((fun n : Int => UInt8.ofNat n.toNat) ∘ fun b : UInt8 => (b.toNat : Int)) = id := by
    funext b
    simp
  rw [bytesOf, List.map_map, this, List.map_id]

section
variable {P : Program} {M : Nat → Prop} {w W : World} {gs : List Nat}

theorem opw_s2b {src dst e : TypeId} {s : ByteArray} {K : Value → World → Prop} (hA : AtF w M gs W) (hs : P.underlying src = some .string) (hd : P.underlying dst = some (.slice e)) (he : P.underlying e = some (.int .u8)) (hm : s.size ≤ maxLen)
    (h : ∀ a c w', AtF w M gs w' → Keeps gs W w' → Bel W w' → SlE w' 1 u8e (bytesOf s) a s.size c → K (.slice a s.size c) w') : OpW P (valueS (convert src dst (.string s))) W K := by
  have hr := run_bytes_of_string (P := P) W src dst e s hs hd he
  have hb : ∀ (C : Array Value) (fr : Nat × Nat), Bel W (W.drew.alloc (.cells C e fr)) := fun C fr => ⟨((Below.refl _ W).drew).alloc (Nat.le_refl _) _, Nat.le_succ _⟩
  unfold OpW
  rw [run_valueS hr]
  refine h _ _ _ (hA.call (hb _ _)) (hA.keeps (hb _ _)) (hb _ _) ⟨(bytesOf_len s).symm, grownCap_ge _ _ _ _, grownCap_le_maxLen _ _ _ _ hm, fun h => (by cases h), fun i x hx => ⟨_, _, rfl, rfl, fun j v hv => ?_, rfl⟩⟩
  have hi := (List.getElem?_eq_some_iff.1 hx).1
  rw [bytesOf_len] at hi
  have hj : j = 0 := by
    have := (List.getElem?_eq_some_iff.1 hv).1
    simp at this
    omega
  subst hj
  simp at hv
  subst hv
  rw [addr_add_add _ _ _ rfl, addr_add]
  have hcell := heap_alloc_new W.drew (Obj.cells (bytesRow s (grownCap W s.size 0 e)) e ((bytesRow s (grownCap W s.size 0 e)).size, (bytesRow s (grownCap W s.size 0 e)).size + 1))
  have hc := cell_at (W := W.drew.alloc (.cells (bytesRow s (grownCap W s.size 0 e)) e ((bytesRow s (grownCap W s.size 0 e)).size, (bytesRow s (grownCap W s.size 0 e)).size + 1))) (g := W.heap.size) (cells := (bytesRow s (grownCap W s.size 0 e)).toList) (by simpa using hcell) (0 + (i * 1 + 0))
  rw [hc]
  simp only [Nat.zero_add, Nat.mul_one, Nat.add_zero]
  simp only [bytesRow, Array.toList_append, Array.toList_map]
  rw [List.getElem?_append_left (by rw [List.length_map, Array.length_toList]; exact hi)]
  simp only [bytesOf, List.getElem?_map] at hx ⊢
  cases hb : s.data.toList[i]? with
  | none => rw [hb] at hx; cases hx
  | some b =>
    rw [hb] at hx
    simp only [Option.map_some, Option.some.injEq] at hx ⊢
    rw [hx]

/-- The same, with the place told. -/
theorem opw_s2bB {src dst e : TypeId} {s : ByteArray} {K : Value → World → Prop} (hA : AtF w M gs W) (hs : P.underlying src = some .string) (hd : P.underlying dst = some (.slice e)) (he : P.underlying e = some (.int .u8)) (hm : s.size ≤ maxLen)
    (h : ∀ a c w', AtF w M gs w' → Keeps gs W w' → Bel W w' → SlE w' 1 u8e (bytesOf s) a s.size c → (∀ b, a = some b → b.block = W.heap.size) → K (.slice a s.size c) w') : OpW P (valueS (convert src dst (.string s))) W K := by
  have hr := run_bytes_of_string (P := P) W src dst e s hs hd he
  have hb : ∀ (C : Array Value) (fr : Nat × Nat), Bel W (W.drew.alloc (.cells C e fr)) := fun C fr => ⟨((Below.refl _ W).drew).alloc (Nat.le_refl _) _, Nat.le_succ _⟩
  unfold OpW
  rw [run_valueS hr]
  refine h _ _ _ (hA.call (hb _ _)) (hA.keeps (hb _ _)) (hb _ _) ⟨(bytesOf_len s).symm, grownCap_ge _ _ _ _, grownCap_le_maxLen _ _ _ _ hm, fun h => (by cases h), fun i x hx => ⟨_, _, rfl, rfl, fun j v hv => ?_, rfl⟩⟩ (fun b hb => by cases hb; rfl)
  have hi := (List.getElem?_eq_some_iff.1 hx).1
  rw [bytesOf_len] at hi
  have hj : j = 0 := by
    have := (List.getElem?_eq_some_iff.1 hv).1
    simp at this
    omega
  subst hj
  simp at hv
  subst hv
  rw [addr_add_add _ _ _ rfl, addr_add]
  have hcell := heap_alloc_new W.drew (Obj.cells (bytesRow s (grownCap W s.size 0 e)) e ((bytesRow s (grownCap W s.size 0 e)).size, (bytesRow s (grownCap W s.size 0 e)).size + 1))
  have hc := cell_at (W := W.drew.alloc (.cells (bytesRow s (grownCap W s.size 0 e)) e ((bytesRow s (grownCap W s.size 0 e)).size, (bytesRow s (grownCap W s.size 0 e)).size + 1))) (g := W.heap.size) (cells := (bytesRow s (grownCap W s.size 0 e)).toList) (by simpa using hcell) (0 + (i * 1 + 0))
  rw [hc]
  simp only [Nat.zero_add, Nat.mul_one, Nat.add_zero]
  simp only [bytesRow, Array.toList_append, Array.toList_map]
  rw [List.getElem?_append_left (by rw [List.length_map, Array.length_toList]; exact hi)]
  simp only [bytesOf, List.getElem?_map] at hx ⊢
  cases hb : s.data.toList[i]? with
  | none => rw [hb] at hx; cases hx
  | some b =>
    rw [hb] at hx
    simp only [Option.map_some, Option.some.injEq] at hx ⊢
    rw [hx]

/-- An array made, all zero: told as an own slice over it. -/
theorem opw_allocArr {α : Type} {t : TypeId} {f : α → List Value} {n size : Nat} {zv : Value} {z : α} {K : Value → World → Prop} (hA : AtF w M gs W) (hz : pureRun P (zeroValue t) = some zv) (hf : zv.cells.toList = (List.replicate n z).flatMap f) (hfz : (f z).length = size) (hn : n ≤ maxLen)
    (h : ∀ w', AtF w M gs w' → Keeps gs W w' → OwnF w M gs w' t size f (.slice (some ⟨W.heap.size, 0, none⟩) n n) (List.replicate n z) → K (.pointer (some ⟨W.heap.size, 0, none⟩)) w') : OpW P (valueS (Instr.alloc t true (.tuple #[]))) W K := by
  unfold OpW
  rw [run_valueS (run_alloc hz)]
  have hl : zv.cells.size = n * size := by
    rw [← Array.length_toList, hf, flatMap_len (size := size) (fun x hx => by rw [(List.mem_replicate.1 hx).2]; exact hfz), List.length_replicate]
  refine h _ (hA.call (below_alloc _)) (hA.keeps (below_alloc _)) (OwnF.ret hA (n := n) (xs := zv.cells.toList) ⟨by rw [Array.length_toList, hl], .inr ⟨W.heap.size, n, zv.cells, rfl, Nat.le_refl _, heap_alloc_new W _, Nat.le_refl _, hn, hl, ?_⟩⟩ (by rw [List.length_replicate]) hf)
  rw [List.take_of_length_le (by rw [Array.length_toList, hl]; exact Nat.le_refl _)]

theorem gives_index_arr {t e : TypeId} {n m : Nat} {ad : Addr} {i : Nat} {k : IntKind} (ht : P.underlying t = some (.array m e)) (hs : pureRun P (sizeOf e) = some n) (hi : i < m) :
    Gives P (Instr.indexAt t (.pointer (some ad)) (.int k (i : Int))) (.pointer (some (ad.add (i * n)))) := by
  intro W
  have he : P.elem t = e := by simp [Program.elem, ht]
  have hl : P.arrayLen t = m := by simp [Program.arrayLen, ht]
  have hh := run_indexAt_array (P := P) W t ad k i (by rw [he, hl]; exact ht)
  rw [hh, if_pos (by rw [hl]; omega), he]
  have hsz := pureRun_run hs W
  simp only [Int.toNat_natCast]
  rw [hsz]
  rfl

theorem gives_slice_arr {t e : TypeId} {n m : Nat} {ad : Addr} {i : Nat} {k : IntKind} (ht : P.underlying t = some (.array m e)) (hs : pureRun P (sizeOf e) = some n) (hi : i < m) :
    Gives P (Instr.sliceAt t (.pointer (some ad)) (some (.int k (i : Int))) none none) (.slice (some (ad.add (i * n))) (m - i) (m - i)) := by
  intro W
  have he : P.elem t = e := by simp [Program.elem, ht]
  have hl : P.arrayLen t = m := by simp [Program.arrayLen, ht]
  have hh := run_sliceAt_array_l (P := P) W t ad (by rw [he, hl]; exact ht) k (i : Int) (by omega) (by rw [hl]; omega)
  rw [hh, he, pureRun_run hs W, hl]
  simp only [Result.andThen, slicedAt, Int.toNat_natCast]
  rw [if_neg (by omega)]

/-- A part of a slice's data, from a place on. -/
theorem SlR.from_ {α : Type} {n : Nat} {R : α → List Value → Prop} {l : List α} {ad : Addr} {len cap i : Nat} (h : SlR W n R l (some ad) len cap) (hsp : ad.spot = none) (hi : i ≤ len) : SlR W n R (l.drop i) (some (ad.add (i * n))) (len - i) (cap - i) := by
  refine ⟨by rw [List.length_drop, h.1], by have := h.2.1; omega, by have := h.2.2.1; omega, fun h => (by cases h), fun j x hx => ?_⟩
  rw [List.getElem?_drop] at hx
  obtain ⟨ad', cs, ha, hl, hcs, hr⟩ := h.at_ hx
  cases ha
  refine ⟨_, cs, rfl, hl, fun q v hv => ?_, hr⟩
  have := hcs q v hv
  rw [addr_add_add _ _ _ hsp, ← Nat.add_mul]
  exact this

/-- Copying as many elements as there is room for. -/
theorem opw_copy {dT sT ty e : TypeId} {fl : Array Bool} {k : IntKind} {l l2 : List Int} {a a2 : Option Addr} {n c n2 c2 : Nat} {er : TypeId} {K : Value → World → Prop} (hA : AtF w M gs W) (hu : P.underlying dT = some (.slice e)) (hsz : (P.info? e).map (·.size) = some 1)
    (ho : OwnF w M gs W er 1 (fun x => [Value.int k x]) (.slice a n c) l) (hs : SlE W 1 (fun x => [Value.int k x]) l2 a2 n2 c2) (hl : l2.length = l.length)
    (h : ∀ w', AtF w M gs w' → Keeps gs W w' → W.grownBy w' (Value.slice a n c).ownBlock → OwnF w M gs w' er 1 (fun x => [Value.int k x]) (.slice a n c) l2 → K (goInt l.length) w') : OpW P (builtin .copy #[dT, sT] ty fl #[.slice a n c, .slice a2 n2 c2]) W K := by
  have hn := ho.len
  have hn2 := hs.1
  subst hn
  subst hn2
  have hrun : ∃ w', (Builtin.copy_ #[dT, sT] ty #[.slice a l.length c, .slice a2 l2.length c2]).run P W = .ok (goInt l.length) w' ∧ AtF w M gs w' ∧ Keeps gs W w' ∧ W.grownBy w' (Value.slice a l.length c).ownBlock ∧ OwnF w M gs w' er 1 (fun x => [Value.int k x]) (.slice a l.length c) l2 := by
    rcases Nat.eq_zero_or_pos l.length with h0 | hpos
    · have e1 : l = [] := List.eq_nil_of_length_eq_zero h0
      have e2 : l2 = [] := List.eq_nil_of_length_eq_zero (by omega)
      subst e1
      subst e2
      refine ⟨W, ?_, hA, fun _ _ => rfl, ⟨rfl, rfl, rfl, Nat.le_refl _, fun _ _ _ => rfl⟩, ho⟩
      cases hq : P.info? e with
      | none => simp [hq] at hsz
      | some i =>
        cases a <;> cases a2 <;> simp [Builtin.copy_, run_underlying hu, Builtin.lenOf, Builtin.firstCells, sizeOf, typeInfo, hq, storeCells, loadCells, loadCellsFrom]
    · obtain ⟨g, cur, rfl, hge, hg, hlc, hcm, hcs, htk⟩ := ho.ptr hpos
      obtain ⟨ad2, rfl⟩ : ∃ ad2, a2 = some ad2 := by
        cases a2 with
        | some ad2 => exact ⟨ad2, rfl⟩
        | none => have := hs.2.2.2.1 rfl; have := hs.2.1; omega
      have hcells : ∀ j v, (l2.map (Value.int k))[j]? = some v → W.cell? (ad2.add j) = some v := by
        intro j v hv
        rw [List.getElem?_map] at hv
        cases hx : l2[j]? with
        | none => rw [hx] at hv; cases hv
        | some x =>
          rw [hx] at hv
          simp only [Option.map_some, Option.some.injEq] at hv
          subst hv
          obtain ⟨ad, cs, ha, _, hcs, rfl⟩ := hs.at_ hx
          cases ha
          have := hcs 0 _ rfl
          have e : (ad2.add (j * 1)).add 0 = ad2.add j := by
            rw [Nat.mul_one]
            generalize ad2.add j = q
            unfold Addr.add
            simp
          rwa [e] at this
      have hr := run_copy_row (P := P) W dT sT ty e g 0 l.length c ad2 l2.length c2 cur er (l2.map (Value.int k)) hu hsz hg (by rw [List.length_map, hl]; simp) hcells (by rw [List.length_map, hl, hcs]; omega) (by intro v hv; obtain ⟨x, _, rfl⟩ := List.mem_map.1 hv; rfl)
      rw [List.length_map, hl] at hr
      have hgr : W.grownBy (W.setRow g (cur.toList.take 0 ++ l2.map (Value.int k) ++ cur.toList.drop (0 + l.length)).toArray) (some g) := ⟨rfl, rfl, rfl, by simp, fun k _ hk => setRow_other W g k _ (fun e => hk (by rw [e]))⟩
      refine ⟨_, by rw [hl]; exact hr, (hA.step (Chg.of_grown hgr (run_drawn hr)) fun k _ hk => ho.mine k hk), fun g' hm => hgr.block g' (hA.under g' hm) fun e => ho.apart g' hm e.symm, hgr, ⟨⟨?_, .inr ⟨g, c, _, ?_, hge, setRow_heap W g cur _ er _ hg, ?_, hcm, ?_, ?_⟩⟩, ho.mine, ho.apart⟩⟩
      · rw [flatMap_len (size := 1) (fun _ _ => rfl)]
      · rw [hl]
      · rw [hl]; exact hlc
      · simp only [List.size_toArray, List.length_append, List.length_take, List.length_drop, List.length_map, Array.length_toList, hl]
        omega
      · have e1 : l2.flatMap (fun x => [Value.int k x]) = l2.map (Value.int k) := by
          clear hs hl ho hcells hr hgr h
          induction l2 with
          | nil => rfl
          | cons x l ih => rw [List.flatMap_cons, ih]; rfl
        rw [e1]
        simp only [List.take_zero, List.nil_append]
        rw [Nat.mul_one]
        have := List.take_left (l₁ := l2.map (Value.int k)) (l₂ := cur.toList.drop (0 + l.length))
        rwa [List.length_map] at this
  obtain ⟨w', hr, h1, h2, h3, h4⟩ := hrun
  have hb : (builtin .copy #[dT, sT] ty fl #[.slice a l.length c, .slice a2 l2.length c2]).run P W = .ok (.value (goInt l.length)) w' := by
    show (do pure (Next.value (← Builtin.copy_ #[dT, sT] ty #[.slice a l.length c, .slice a2 l2.length c2])) : Sem Next).run P W = _
    rw [run_bind_ok hr]
    rfl
  unfold OpW
  rw [hb]
  exact h w' h1 h2 h3 h4
end
end Go.Vc

/- 'append(l, x)': a row of one element made, and added to an own slice. -/
namespace Go.Vc
open Go Go.RowKit

theorem grown_trans_below {W W' W'' : World} {row : Option Nat} (h : Bel W W') (k : W'.grownBy W'' row) : W.grownBy W'' row :=
  ⟨k.os.trans h.below.os, k.tape.trans h.below.tape, k.output.trans h.below.output, Nat.le_trans h.size k.size, fun b hb hne => (k.block b (Nat.lt_of_lt_of_le hb h.size) hne).trans (h.block hb)⟩

section
variable {α : Type} {P : Program} {M : Nat → Prop} {w W : World} {gs : List Nat} {e e' : TypeId} {size : Nat} {f : α → List Value} {a : Option Addr} {n c : Nat} {l : List α} {t ty : TypeId} {fl : Array Bool} {bytes : Nat} {parts : Array (Nat × Value)} {x : α}

theorem opw_push (hA : AtF w M gs W) (ho : OwnF w M gs W e size f (.slice a n c) l) (x : α) (he : elemB P t e size bytes = true) (hc : sliceCells P t 1 parts = some (e', f x)) (hl : (f x).length = size) (hf : ∀ y ∈ l ++ [x], (f y).length = size)
    (h1 : ∀ u ∈ f x, u.oneCell' = true) (h63 : l.length + 1 ≤ 1099511627776) (hby : bytes ≤ 128) {K : Option Addr → Nat → Nat → World → Prop}
    (h : ∀ a' c' w2, AtF w M gs w2 → OwnF w M gs w2 e size f (.slice a' (l ++ [x]).length c') (l ++ [x]) → W.grownBy w2 (Value.slice a n c).ownBlock → ((Value.slice a' (l ++ [x]).length c').ownBlock = (Value.slice a n c).ownBlock ∨ ∀ k, (Value.slice a' (l ++ [x]).length c').ownBlock = some k → W.heap.size ≤ k) → K a' (l ++ [x]).length c' w2) :
    OpW P (valueS (Instr.buildSlice t 1 parts)) W fun v w1 => ∃ a1 n1 c1, v = .slice a1 n1 c1 ∧ Keeps gs W w1 ∧ OpW P (builtin .append #[t, t] ty fl #[.slice a n c, .slice a1 n1 c1]) w1 fun v w2 => ∃ a2 n2 c2, v = .slice a2 n2 c2 ∧ Keeps gs w1 w2 ∧ K a2 n2 c2 w2 := by
  refine opw_lit hA hc fun w' hA hk hb hcell _ => ⟨_, _, _, rfl, hk, ?_⟩
  refine opw_append1 (bytes := bytes) he hA (ho.call hb) (x := x) hl hcell h1 (by omega) (.inr (by
    have := Nat.mul_le_mul (show l.length + 1 ≤ 1099511627776 by omega) hby
    omega)) fun v' w2 hA hk2 hg ho' hnew => ?_
  obtain ⟨a2, c2, rfl, _⟩ := ho'.slice hf
  refine ⟨_, _, _, rfl, hk2, h _ _ _ hA ho' (grown_trans_below hb hg) (hnew.imp id fun hh k hk => Nat.le_trans hb.size (hh k hk))⟩

theorem opw_push0 (hA : AtF w M gs W) (ho : OwnF w M gs W e size f (.slice a n c) l) (x : α) (he : elemB P t e size bytes = true) (hc : sliceCells P t 1 parts = some (e', f x)) (hl : (f x).length = size) (hf : ∀ y ∈ l ++ [x], (f y).length = size)
    (h1 : ∀ u ∈ f x, u.oneCell' = true) (h63 : l.length + 1 ≤ 1099511627776) (hby : bytes ≤ 128) {K : Option Addr → Nat → Nat → World → Prop}
    (h : ∀ a' c' w2, AtF w M gs w2 → OwnF w M gs w2 e size f (.slice a' (l ++ [x]).length c') (l ++ [x]) → W.grownBy w2 (Value.slice a n c).ownBlock → ((Value.slice a' (l ++ [x]).length c').ownBlock = (Value.slice a n c).ownBlock ∨ ∀ k, (Value.slice a' (l ++ [x]).length c').ownBlock = some k → W.heap.size ≤ k) → K a' (l ++ [x]).length c' w2) :
    OpW P (valueS (Instr.buildSlice t 1 parts)) W fun v w1 => ∃ a1 n1 c1, v = .slice a1 n1 c1 ∧ OpW P (builtin .append #[t, t] ty fl #[.slice a n c, .slice a1 n1 c1]) w1 fun v w2 => ∃ a2 n2 c2, v = .slice a2 n2 c2 ∧ K a2 n2 c2 w2 := by
  refine opw_lit hA hc fun w' hA hk hb hcell _ => ⟨_, _, _, rfl, ?_⟩
  refine opw_append1 (bytes := bytes) he hA (ho.call hb) (x := x) hl hcell h1 (by omega) (.inr (by
    have := Nat.mul_le_mul (show l.length + 1 ≤ 1099511627776 by omega) hby
    omega)) fun v' w2 hA hk2 hg ho' hnew => ?_
  obtain ⟨a2, c2, rfl, _⟩ := ho'.slice hf
  exact ⟨_, _, _, rfl, h _ _ _ hA ho' (grown_trans_below hb hg) (hnew.imp id fun hh k hk => Nat.le_trans hb.size (hh k hk))⟩
end

/-- A contract that returns a new slice and a bool. -/
def RetLB {α : Type} (P : Program) (fn : FuncId) (args : Array Value) (W : World) (e : TypeId) (size : Nat) (f : α → List Value) (l : List α) (ok : Bool) : Prop :=
  RetQ P fn args W fun v w' => ∃ s, v = .tuple #[s, .bool ok] ∧ w'.ownsRow W.heap.size e size s l.length (l.flatMap f)
theorem at_calllb {α : Type} {P : Program} {M : Nat → Prop} {w W : World} {gs : List Nat} {fn : FuncId} {args : Array Value} {e : TypeId} {size : Nat} {f : α → List Value} {l : List α} {ok : Bool} {K : Ending → World → Prop} (hA : AtF w M gs W) (hc : RetLB P fn args W e size f l ok) (hf : ∀ x ∈ l, (f x).length = size)
    (hK : ∀ a c w', AtF w M gs w' → Keeps gs W w' → Bel W w' → OwnF w M gs w' e size f (.slice a l.length c) l → SlE w' size f l a l.length c → K (.returned (.tuple #[.slice a l.length c, .bool ok])) w') : Calls P fn args W K :=
  at_callq hA hc fun v w' hA' hk hb ⟨s, hv, hq⟩ => by
    have ho : OwnF w M gs w' e size f s l := OwnF.ret hA hq rfl rfl
    obtain ⟨a, c, rfl, hs⟩ := ho.slice hf
    subst hv
    exact hK a c w' hA' hk hb ho hs
theorem leaflb {α : Type} {w W : World} {gs : List Nat} {e : TypeId} {size : Nat} {f : α → List Value} {l l' : List α} {v : Value} {ok ok' : Bool} {R : Ending → World → Prop} (h : ∀ v w', Bel w w' → (∃ s, v = .tuple #[s, .bool ok] ∧ w'.ownsRow w.heap.size e size s l.length (l.flatMap f)) → R (.returned v) w') (hA : At w gs W) (ho : OwnL w gs W e size f v l') (hl : l' = l) (hk : ok' = ok) : R (.returned (.tuple #[v, .bool ok'])) W :=
  h _ _ hA.below ⟨v, by rw [hk], hl ▸ ho.row⟩

/-- What is made leaves every old block as it was. -/
theorem opw_alloc_below {P : Program} {t : TypeId} {zv : Value} {W : World} {K : Value → World → Prop} (hz : pureRun P (zeroValue t) = some zv) (h : OpW P (valueS (Instr.alloc t true (.tuple #[]))) W fun v w' => Bel W w' → K v w') :
    OpW P (valueS (Instr.alloc t true (.tuple #[]))) W K := by
  unfold OpW at h ⊢
  rw [run_valueS (run_alloc hz)] at h ⊢
  exact h (below_alloc _)

/-- A slice written out, as an own slice. -/
theorem opw_litL {α : Type} {P : Program} {M : Nat → Prop} {w W : World} {gs : List Nat} {t e' : TypeId} {len size : Nat} {parts : Array (Nat × Value)} {f : α → List Value} {l : List α} {K : Value → World → Prop} (hA : AtF w M gs W) (hl : len = l.length) (hsz : ∀ x ∈ l, (f x).length = size) (hm : len ≤ maxLen) (hc : sliceCells P t len parts = some (e', l.flatMap f))
    (h : ∀ g w', W.heap.size ≤ g → AtF w M gs w' → Keeps gs W w' → Bel W w' → OwnF w M gs w' e' size f (.slice (some ⟨g, 0, none⟩) len len) l → K (.slice (some ⟨g, 0, none⟩) len len) w') : OpW P (valueS (Instr.buildSlice t len parts)) W K := by
  refine opw_lit hA hc fun w' hA' hk hb _ hh => h _ w' (Nat.le_refl _) hA' hk hb (OwnF.ret (n := len) (xs := l.flatMap f) hA ?_ hl rfl)
  have hlf := flatMap_len hsz
  exact ⟨by rw [hlf, hl], .inr ⟨W.heap.size, len, _, rfl, Nat.le_refl _, hh, Nat.le_refl _, hm, by simp [hl, hlf], by rw [List.toList_toArray]; exact List.take_of_length_le (by rw [hlf, hl]; exact Nat.le_refl _)⟩⟩
end Go.Vc

/- Maps of the function's own: entries in the order in which they came; looking up, putting in, taking out. -/
namespace Go.Vc
open Go Go.RowKit

section
variable {κ α : Type} [DecidableEq κ]

def mget (k : κ) : List (κ × α) → Option α
  | [] => none
  | x :: r => if k = x.1 then some x.2 else mget k r
def mset (k : κ) (v : α) : List (κ × α) → List (κ × α)
  | [] => [(k, v)]
  | x :: r => if k = x.1 then (k, v) :: r else x :: mset k v r
def mdel (k : κ) : List (κ × α) → List (κ × α)
  | [] => []
  | x :: r => if k = x.1 then r else x :: mdel k r
/-- The first place of a key. -/
def midx (k : κ) : List (κ × α) → Option Nat
  | [] => none
  | x :: r => if k = x.1 then some 0 else (midx k r).map (· + 1)

theorem midx_lt {k : κ} : ∀ {m : List (κ × α)} {i : Nat}, midx k m = some i → i < m.length
  | [], i, h => by cases h
  | x :: r, i, h => by
    unfold midx at h
    split at h
    · cases h; simp
    · cases hr : midx k r with
      | none => rw [hr] at h; cases h
      | some j =>
        rw [hr] at h
        cases h
        have := midx_lt hr
        simp; omega
theorem mget_idx {k : κ} : ∀ {m : List (κ × α)}, mget k m = (midx k m).bind fun i => (m[i]?).map (·.2)
  | [] => rfl
  | x :: r => by
    unfold mget midx
    split
    · simp
    · rw [mget_idx (m := r)]
      cases midx k r <;> simp

/-! ### The plain laws -/
theorem mget_mset_self (k : κ) (v : α) : ∀ m : List (κ × α), mget k (mset k v m) = some v
  | [] => by simp [mset, mget]
  | x :: r => by
    unfold mset
    split
    · simp [mget]
    · rename_i h
      simp only [mget, if_neg h]
      exact mget_mset_self k v r
theorem mget_mset_ne {k j : κ} (v : α) (h : j ≠ k) : ∀ m : List (κ × α), mget j (mset k v m) = mget j m
  | [] => by simp [mset, mget, h]
  | x :: r => by
    unfold mset
    split
    · rename_i he
      have : ¬ j = x.1 := fun e => h (e.trans he.symm)
      simp [mget, h, this]
    · simp only [mget]
      rw [mget_mset_ne v h r]
theorem mget_mdel_ne {k j : κ} (h : j ≠ k) : ∀ m : List (κ × α), mget j (mdel k m) = mget j m
  | [] => rfl
  | x :: r => by
    unfold mdel
    split
    · rename_i he
      have : ¬ j = x.1 := fun e => h (e.trans he.symm)
      simp [mget, this]
    · simp only [mget]
      rw [mget_mdel_ne h r]
theorem mem_of_mget {k : κ} {v : α} : ∀ {m : List (κ × α)}, mget k m = some v → (k, v) ∈ m
  | [], h => by cases h
  | x :: r, h => by
    unfold mget at h
    split at h
    · rename_i he
      cases h
      rw [he]
      exact List.mem_cons_self ..
    · exact List.mem_cons_of_mem _ (mem_of_mget h)
theorem mget_none {k : κ} : ∀ {m : List (κ × α)}, mget k m = none ↔ k ∉ m.map (·.1)
  | [] => by simp [mget]
  | x :: r => by
    unfold mget
    split
    · rename_i he; simp [he]
    · rename_i he
      rw [mget_none (m := r)]
      simp [he]
theorem mget_of_mem {k : κ} {v : α} : ∀ {m : List (κ × α)}, (m.map (·.1)).Nodup → (k, v) ∈ m → mget k m = some v
  | [], _, h => by cases h
  | x :: r, hn, h => by
    rw [List.map_cons, List.nodup_cons] at hn
    unfold mget
    rcases List.mem_cons.1 h with rfl | h
    · simp
    · rw [if_neg (fun he => hn.1 (by rw [← he]; exact List.mem_map.2 ⟨_, h, rfl⟩))]
      exact mget_of_mem hn.2 h
theorem mset_keys {k : κ} {v : α} : ∀ {m : List (κ × α)}, (mset k v m).map (·.1) = if k ∈ m.map (·.1) then m.map (·.1) else m.map (·.1) ++ [k]
  | [] => by simp [mset]
  | x :: r => by
    unfold mset
    split
    · rename_i he; simp [he]
    · rename_i he
      rw [List.map_cons, mset_keys (m := r)]
      by_cases h : k ∈ r.map (·.1)
      · simp only [h, if_true]
        rw [if_pos (by simp only [List.map_cons, List.mem_cons]; exact .inr h)]
        rfl
      · simp only [h, if_false]
        rw [if_neg (by simp only [List.map_cons, List.mem_cons]; exact fun hh => hh.elim he h)]
        rfl
theorem mdel_keys {k : κ} : ∀ {m : List (κ × α)}, (mdel k m).map (·.1) = (m.map (·.1)).erase k
  | [] => rfl
  | x :: r => by
    unfold mdel
    split
    · rename_i he; simp [he]
    · rename_i he
      rw [List.map_cons, mdel_keys (m := r), List.map_cons, List.erase_cons_tail (by simpa using fun e => he e.symm)]
theorem mset_nodup {k : κ} {v : α} {m : List (κ × α)} (h : (m.map (·.1)).Nodup) : ((mset k v m).map (·.1)).Nodup := by
  rw [mset_keys]
  split
  · exact h
  · rename_i hk
    exact List.nodup_append.2 ⟨h, by simp, fun a ha b hb => by simp at hb; rintro rfl; exact hk (hb ▸ ha)⟩
theorem mdel_nodup {k : κ} {m : List (κ × α)} (h : (m.map (·.1)).Nodup) : ((mdel k m).map (·.1)).Nodup := by
  rw [mdel_keys]
  exact h.erase k
theorem mget_mdel_self {k : κ} {m : List (κ × α)} (h : (m.map (·.1)).Nodup) : mget k (mdel k m) = none := by
  rw [mget_none, mdel_keys]
  exact h.not_mem_erase
theorem mset_length {k : κ} {v : α} : ∀ {m : List (κ × α)}, (mset k v m).length = if (mget k m).isSome then m.length else m.length + 1
  | [] => rfl
  | x :: r => by
    unfold mset mget
    split
    · simp
    · simp only [List.length_cons]
      rw [mset_length (m := r)]
      split <;> rfl
theorem mdel_length {k : κ} : ∀ {m : List (κ × α)}, (mdel k m).length = if (mget k m).isSome then m.length - 1 else m.length
  | [] => rfl
  | x :: r => by
    unfold mdel mget
    split
    · simp
    · simp only [List.length_cons]
      rw [mdel_length (m := r)]
      split
      · rename_i h
        obtain ⟨v, hv⟩ := Option.isSome_iff_exists.1 h
        have := List.length_pos_of_mem (mem_of_mget hv)
        omega
      · rfl
end

/-- What a look-up leaves. -/
def lookV2 {α : Type} (vf : α → Value) (z : Value) : Option α → Value
  | some v => .tuple #[vf v, .bool true]
  | none => .tuple #[z, .bool false]
def lookV1 {α : Type} (vf : α → Value) (z : Value) : Option α → Value
  | some v => vf v
  | none => z
/-! ### Keys -/
structure KeyOk {κ : Type} [DecidableEq κ] (P : Program) (kt : TypeId) (kf : κ → Value) : Prop where
  eq : ∀ k k', eqB P 30 kt (kf k) (kf k') = some (decide (k = k'))
  now : ∀ d, P.underlying kt = some d → ∀ k k' b, Instr.sameNow d (kf k) (kf k') = some b → b = decide (k = k')
  chk : ∀ e k W, (Instr.checkKey e 10000 kt (kf k)).run P W = .ok () W
  bits : ∀ k, Instr.sameBits 10000 (kf k) (kf k) = true
  und : ∃ d, P.underlying kt = some d

section
variable {κ α : Type} {P : Program} {kt : TypeId} {kf : κ → Value} {vf : α → Value}

/-- Entries stand for a list. -/
def EntR (kf : κ → Value) (vf : α → Value) (es : List MapEntry) (m : List (κ × α)) : Prop := es.map (fun e => (e.key, e.val)) = m.map fun x => (kf x.1, vf x.2)

theorem EntR.cons {e : MapEntry} {es : List MapEntry} {x : κ × α} {m : List (κ × α)} (h : EntR kf vf (e :: es) (x :: m)) : e.key = kf x.1 ∧ e.val = vf x.2 ∧ EntR kf vf es m := by
  unfold EntR at h
  simp only [List.map_cons, List.cons.injEq, Prod.mk.injEq] at h
  exact ⟨h.1.1, h.1.2, h.2⟩

theorem findNow_spec [DecidableEq κ] (K : KeyOk P kt kf) {d : TypeDesc} (hd : P.underlying kt = some d) (k : κ) : ∀ (es : List MapEntry) (m : List (κ × α)) (i : Nat) (r : Option (Nat × Value)), EntR kf vf es m → Instr.findNow d (kf k) es i = some r →
    r = (midx k m).bind fun j => (m[j]?).map fun x => (i + j, vf x.2)
  | [], m, i, r, h, hf => by
    have : m = [] := by cases m with
      | nil => rfl
      | cons x m => simp [EntR] at h
    subst this
    simp only [Instr.findNow, Option.some.injEq] at hf
    subst hf
    rfl
  | e :: es, [], i, r, h, hf => by simp [EntR] at h
  | e :: es, x :: m, i, r, h, hf => by
    obtain ⟨h1, h2, h3⟩ := h.cons
    unfold Instr.findNow at hf
    rw [h1] at hf
    cases hs : Instr.sameNow d (kf k) (kf x.1) with
    | none => rw [hs] at hf; cases hf
    | some b =>
      have hb := K.now d hd _ _ _ hs
      rw [hs] at hf
      cases b with
      | true =>
        simp only [Option.some.injEq] at hf
        have he : k = x.1 := by simpa using hb.symm
        subst hf
        simp [midx, he, h2]
      | false =>
        have he : ¬ k = x.1 := by simpa using hb.symm
        have := findNow_spec K hd k es m (i + 1) r h3 hf
        rw [this]
        simp only [midx, if_neg he]
        cases midx k m with
        | none => rfl
        | some j => simp; congr 1; funext y; congr 1; omega

theorem findAsking_run [DecidableEq κ] (K : KeyOk P kt kf) (k : κ) (W : World) : ∀ (es : List MapEntry) (m : List (κ × α)) (i : Nat), EntR kf vf es m →
    (Instr.findAsking kt (kf k) es i).run P W = .ok ((midx k m).bind fun j => (m[j]?).map fun x => (i + j, vf x.2)) W
  | [], m, i, h => by
    have : m = [] := by cases m with
      | nil => rfl
      | cons x m => simp [EntR] at h
    subst this
    rfl
  | e :: es, [], i, h => by simp [EntR] at h
  | e :: es, x :: m, i, h => by
    obtain ⟨h1, h2, h3⟩ := h.cons
    unfold Instr.findAsking
    rw [h1]
    have he : (Op.equal kt (kf k) (kf x.1)).run P W = .ok (decide (k = x.1)) W := eqB_run W 30 10000 kt _ _ _ (K.eq k x.1) (by omega)
    rw [run_bind_ok he]
    by_cases hk : k = x.1
    · simp [hk, midx, h2]
    · simp only [decide_eq_false hk, Bool.false_eq_true, if_false]
      rw [findAsking_run K k W es m (i + 1) h3]
      simp only [midx, if_neg hk]
      cases midx k m with
      | none => rfl
      | some j => simp; congr 1; funext y; congr 1; omega

theorem findKey_run [DecidableEq κ] (K : KeyOk P kt kf) (k : κ) (W : World) {es : List MapEntry} {m : List (κ × α)} (h : EntR kf vf es m) :
    (Instr.findKey kt (kf k) es).run P W = .ok ((midx k m).bind fun j => (m[j]?).map fun x => (j, vf x.2)) W := by
  obtain ⟨d, hd⟩ := K.und
  unfold Instr.findKey
  rw [run_bind_ok (run_underlying hd W)]
  cases hf : Instr.findNow d (kf k) es 0 with
  | some r =>
    have := findNow_spec K hd k es m 0 r h hf
    simp only [Nat.zero_add] at this
    rw [this]
    rfl
  | none =>
    have := findAsking_run K k W es m 0 h
    simp only [Nat.zero_add] at this
    exact this

/-- An own map. -/
structure OwnM (w : World) (M : Nat → Prop) (gs : List Nat) (W : World) (r : Nat) (kf : κ → Value) (vf : α → Value) (m : List (κ × α)) : Prop where
  mine : w.heap.size ≤ r ∨ M r
  apart : r ∉ gs
  obj : ∃ es clock, W.heap[r]? = some (.map es clock) ∧ EntR kf vf es.toList m ∧ (es.toList.map (·.born)).Nodup ∧ ∀ e ∈ es.toList, e.born < clock

variable {w W W' : World} {M N : Nat → Prop} {gs gs' : List Nat} {r : Nat} {m : List (κ × α)}

theorem OwnM.lt (h : OwnM w M gs W r kf vf m) : r < W.heap.size := by
  obtain ⟨es, clock, hr, _⟩ := h.obj
  exact (Array.getElem?_eq_some_iff.1 hr).1
theorem OwnM.chg (h : OwnM w M gs W r kf vf m) (hc : Chg N W W') (hn : ¬ N r) : OwnM w M gs W' r kf vf m := by
  have hl := h.lt
  obtain ⟨es, clock, hr, rest⟩ := h.obj
  exact ⟨h.mine, h.apart, es, clock, by rw [hc.block r hl hn, hr], rest⟩
theorem OwnM.base1 {w' : World} {M' : Nat → Prop} (h : OwnM w M gs W r kf vf m) (hm : w'.heap.size ≤ r ∨ M' r) (ha : r ∉ gs') : OwnM w' M' gs' W r kf vf m := ⟨hm, ha, h.obj⟩
theorem OwnM.base0 {w' : World} (h : OwnM w M gs W r kf vf m) (hm : w'.heap.size ≤ r) : OwnM w' noB [] W r kf vf m := ⟨.inl hm, by simp, h.obj⟩
theorem OwnM.call (h : OwnM w M gs W r kf vf m) (hb : Bel W W') : OwnM w M gs W' r kf vf m := h.chg (N := noB) (Chg.of_below hb) id
theorem OwnM.more (h : OwnM w M gs W r kf vf m) (hg : ∀ g ∈ gs', g ∉ gs → W.heap.size ≤ g) : OwnM w M gs' W r kf vf m :=
  ⟨h.mine, fun hr => by
    by_cases hk : r ∈ gs
    · exact h.apart hk
    · have := hg r hr hk
      have := h.lt
      omega, h.obj⟩
theorem OwnM.evo {ds : List Nat} (h : OwnM w M gs W r kf vf m) (hd : ∀ d ∈ ds, d ∉ gs → W.heap.size ≤ d) (hb : Evo ds W W') : OwnM w M gs W' r kf vf m :=
  h.chg (Chg.of_evo hb) fun hm => by
    by_cases hk : r ∈ gs
    · exact h.apart hk
    · have := hd r hm hk
      have := h.lt
      omega

theorem opw_makeMap {t : TypeId} {K : Value → World → Prop} (hA : AtF w M gs W) (h : ∀ g w', W.heap.size = g → AtF w M gs w' → Keeps gs W w' → Bel W w' → OwnM w M gs w' g kf vf ([] : List (κ × α)) → K (.map (some g)) w') : OpW P (valueS (Instr.makeMap t none)) W K := by
  unfold OpW
  rw [run_valueS (run_makeMap t W)]
  refine h _ _ rfl (hA.call (below_alloc _)) (hA.keeps (below_alloc _)) (below_alloc _) ⟨.inl hA.size, fun hm => ?_, #[], 0, heap_alloc_new W _, rfl, by simp, fun e he => by simp at he⟩
  have := hA.under _ hm
  omega

theorem run_getObj_m {es : Array MapEntry} {clock : Nat} (h : W.heap[r]? = some (.map es clock)) : (getObj r).run P W = .ok (.map es clock) W := by
  simp [getObj, Sem.run, h]
theorem run_setObj_m {es : Array MapEntry} {clock : Nat} (h : W.heap[r]? = some (.map es clock)) (o : Obj) : (setObj r o).run P W = .ok () { W with heap := W.heap.setIfInBounds r o } := by
  simp [setObj, Sem.run, h]

theorem run_lookup_m [DecidableEq κ] {t et : TypeId} {z : Value} (K : KeyOk P kt kf) (ht : P.underlying t = some (.map kt et)) (hz : pureRun P (zeroValue et) = some z) (h : OwnM w M gs W r kf vf m) (k : κ) (ok : Bool) :
    (Instr.lookup t (.map (some r)) (kf k) ok).run P W = .ok (match mget k m with
      | some v => cond ok (.tuple #[vf v, .bool true]) (vf v)
      | none => cond ok (.tuple #[z, .bool false]) z) W := by
  obtain ⟨es, clock, hr, he, _⟩ := h.obj
  unfold Instr.lookup
  rw [run_bind_ok (run_underlying ht W)]
  simp only
  rw [run_bind_ok (run_getObj_m hr)]
  simp only [pure_bind]
  rw [run_bind_ok (K.chk es.isEmpty k W), run_bind_ok (findKey_run K k W he), mget_idx]
  cases hm : midx k m with
  | none =>
    simp only [Option.bind_none]
    rw [run_bind_ok (pureRun_run hz W)]
    cases ok <;> rfl
  | some j =>
    have hj := midx_lt hm
    have hjj : m[j]? = some m[j] := List.getElem?_eq_getElem hj
    simp only [Option.bind_some, hjj, Option.map_some]
    cases ok <;> rfl

/-- Looking up, with a flag. -/
theorem reads_lookup2 [DecidableEq κ] {t et : TypeId} {z : Value} (K : KeyOk P kt kf) (ht : P.underlying t = some (.map kt et)) (hz : pureRun P (zeroValue et) = some z) (h : OwnM w M gs W r kf vf m) (k : κ) {ds : List Nat} (hd : ∀ d ∈ ds, d ≠ r) :
    Reads P ds (Instr.lookup t (.map (some r)) (kf k) true) W (lookV2 vf z (mget k m)) := by
  intro W' hW'
  have h' : OwnM w M gs W' r kf vf m := by
    have hb : W'.heap[r]? = W.heap[r]? := by
      cases ds with
      | nil => exact Bel.block hW' h.lt
      | cons d s => exact Evo.block hW' _ h.lt (fun hm => hd _ hm rfl)
    obtain ⟨es, clock, hr, rest⟩ := h.obj
    exact ⟨h.mine, h.apart, es, clock, by rw [hb, hr], rest⟩
  rw [run_lookup_m K ht hz h' k true]
  cases mget k m <;> rfl
theorem reads_lookup1 [DecidableEq κ] {t et : TypeId} {z : Value} (K : KeyOk P kt kf) (ht : P.underlying t = some (.map kt et)) (hz : pureRun P (zeroValue et) = some z) (h : OwnM w M gs W r kf vf m) (k : κ) {ds : List Nat} (hd : ∀ d ∈ ds, d ≠ r) :
    Reads P ds (Instr.lookup t (.map (some r)) (kf k) false) W (lookV1 vf z (mget k m)) := by
  intro W' hW'
  have h' : OwnM w M gs W' r kf vf m := by
    have hb : W'.heap[r]? = W.heap[r]? := by
      cases ds with
      | nil => exact Bel.block hW' h.lt
      | cons d s => exact Evo.block hW' _ h.lt (fun hm => hd _ hm rfl)
    obtain ⟨es, clock, hr, rest⟩ := h.obj
    exact ⟨h.mine, h.apart, es, clock, by rw [hb, hr], rest⟩
  rw [run_lookup_m K ht hz h' k false]
  cases mget k m <;> rfl

theorem EntR.len {es : List MapEntry} (h : EntR kf vf es m) : es.length = m.length := by
  have := congrArg List.length h
  simpa using this
theorem EntR.at_ : ∀ {es : List MapEntry} {m : List (κ × α)} {i : Nat} {x : κ × α}, EntR kf vf es m → m[i]? = some x → ∃ e, es[i]? = some e ∧ e.key = kf x.1 ∧ e.val = vf x.2
  | es, m, i, x, h, hx => by
    have := congrArg (·[i]?) h
    simp only [List.getElem?_map, hx, Option.map_some] at this
    cases he : es[i]? with
    | none => rw [he] at this; cases this
    | some e =>
      rw [he] at this
      simp at this
      exact ⟨e, rfl, this.1, this.2⟩

theorem mset_at [DecidableEq κ] {k : κ} {v : α} : ∀ {m : List (κ × α)} {j : Nat}, midx k m = some j → mset k v m = m.set j (k, v)
  | [], j, h => by cases h
  | x :: r, j, h => by
    unfold midx at h
    unfold mset
    split at h
    · rename_i he
      cases h
      rw [if_pos he]
      rfl
    · rename_i he
      rw [if_neg he]
      cases hr : midx k r with
      | none => rw [hr] at h; cases h
      | some i =>
        rw [hr] at h
        cases h
        rw [mset_at hr]
        rfl
theorem mset_new [DecidableEq κ] {k : κ} {v : α} : ∀ {m : List (κ × α)}, midx k m = none → mset k v m = m ++ [(k, v)]
  | [], _ => rfl
  | x :: r, h => by
    unfold midx at h
    unfold mset
    split at h
    · cases h
    · rename_i he
      rw [if_neg he]
      cases hr : midx k r with
      | none => rw [mset_new hr]; rfl
      | some i => rw [hr] at h; cases h
theorem mdel_at [DecidableEq κ] {k : κ} : ∀ {m : List (κ × α)} {j : Nat}, midx k m = some j → mdel k m = m.eraseIdx j
  | [], j, h => by cases h
  | x :: r, j, h => by
    unfold midx at h
    unfold mdel
    split at h
    · rename_i he
      cases h
      rw [if_pos he]
      rfl
    · rename_i he
      rw [if_neg he]
      cases hr : midx k r with
      | none => rw [hr] at h; cases h
      | some i =>
        rw [hr] at h
        cases h
        rw [mdel_at hr]
        rfl
theorem mdel_none [DecidableEq κ] {k : κ} : ∀ {m : List (κ × α)}, midx k m = none → mdel k m = m
  | [], _ => rfl
  | x :: r, h => by
    unfold midx at h
    unfold mdel
    split at h
    · cases h
    · rename_i he
      rw [if_neg he]
      cases hr : midx k r with
      | none => rw [mdel_none hr]
      | some i => rw [hr] at h; cases h
theorem midx_key [DecidableEq κ] {k : κ} : ∀ {m : List (κ × α)} {j : Nat}, midx k m = some j → ∃ v, m[j]? = some (k, v)
  | [], j, h => by cases h
  | x :: r, j, h => by
    unfold midx at h
    split at h
    · rename_i he
      cases h
      exact ⟨x.2, by rw [he]; rfl⟩
    · cases hr : midx k r with
      | none => rw [hr] at h; cases h
      | some i =>
        rw [hr] at h
        cases h
        obtain ⟨v, hv⟩ := midx_key hr
        exact ⟨v, by simpa using hv⟩

theorem setObj_heap (h : r < W.heap.size) (o : Obj) : (W.heap.setIfInBounds r o)[r]? = some o := by simp [h]

/-- Putting in. -/
theorem opw_mapUpdate [DecidableEq κ] {t et : TypeId} {k : κ} {v : α} {K : Value → World → Prop} (Ko : KeyOk P kt kf) (ht : P.underlying t = some (.map kt et)) (hA : AtF w M gs W) (ho : OwnM w M gs W r kf vf m)
    (h : ∀ w', AtF w M gs w' → Keeps gs W w' → Chg (fun b => b = r) W w' → OwnM w M gs w' r kf vf (mset k v m) → K undef w') : OpW P (skipS (Instr.mapUpdate t (.map (some r)) (kf k) (vf v))) W K := by
  have hl := ho.lt
  obtain ⟨es, clock, hr, he, hn, hb⟩ := ho.obj
  have fin : ∀ (es' : Array MapEntry) (clock' : Nat), EntR kf vf es'.toList (mset k v m) → (es'.toList.map (·.born)).Nodup → (∀ e ∈ es'.toList, e.born < clock') →
      K undef { W with heap := W.heap.setIfInBounds r (.map es' clock') } := fun es' clock' h1 h2 h3 =>
    h _ (hA.setObjF ho.mine) (keeps_setObj ho.apart) chg_setObj ⟨ho.mine, ho.apart, es', clock', setObj_heap hl _, h1, h2, h3⟩
  have hrun : ∃ es' clock', (Instr.mapUpdate t (.map (some r)) (kf k) (vf v)).run P W = .ok () { W with heap := W.heap.setIfInBounds r (.map es' clock') } ∧ EntR kf vf es'.toList (mset k v m) ∧ (es'.toList.map (·.born)).Nodup ∧ (∀ e ∈ es'.toList, e.born < clock') := by
    unfold Instr.mapUpdate
    rw [run_bind_ok (run_underlying ht W)]
    simp only
    rw [run_bind_ok (run_getObj_m hr)]
    simp only
    rw [run_bind_ok (Ko.chk false k W), run_bind_ok (findKey_run Ko k W he)]
    cases hm : midx k m with
    | none =>
      refine ⟨es.push { key := kf k, val := vf v, born := clock }, clock + 1, run_setObj_m hr _, ?_, ?_, ?_⟩
      · rw [mset_new hm, Array.toList_push]
        unfold EntR at he ⊢
        rw [List.map_append, List.map_append, he]
        rfl
      · rw [Array.toList_push, List.map_append]
        refine List.nodup_append.2 ⟨hn, by simp, fun a ha b hb' => ?_⟩
        simp at hb'
        obtain ⟨e, hem, rfl⟩ := List.mem_map.1 ha
        have := hb e hem
        omega
      · intro e hem
        rw [Array.toList_push] at hem
        rcases List.mem_append.1 hem with h1 | h1
        · have := hb e h1; omega
        · simp at h1; subst h1; simp
    | some j =>
      obtain ⟨v0, hv0⟩ := midx_key hm
      obtain ⟨e0, he0, hk0, _⟩ := EntR.at_ he hv0
      have he0' : es[j]? = some e0 := by simpa using he0
      simp only [Option.bind_some, hv0, Option.map_some, he0', Option.getD_some, hk0]
      have hks : (Instr.keyThatStays (kf k) (kf k)).run P W = .ok (kf k) W := by
        unfold Instr.keyThatStays
        rw [if_pos (Ko.bits k)]
        rfl
      rw [run_bind_ok hks]
      refine ⟨es.modify j fun e => { e with key := kf k, val := vf v }, clock, run_setObj_m hr _, ?_, ?_, ?_⟩
      · rw [mset_at hm]
        unfold EntR at he ⊢
        rw [List.map_set, ← he]
        apply List.ext_getElem?
        intro i
        simp only [List.getElem?_map, Array.getElem?_toList, Array.getElem?_modify, List.getElem?_set, List.length_map, Array.length_toList]
        by_cases hij : j = i
        · subst hij
          have := (Array.getElem?_eq_some_iff.1 he0').1
          simp [this]
        · simp [hij]
      · have : (es.modify j fun e => { e with key := kf k, val := vf v }).toList.map (·.born) = es.toList.map (·.born) := by
          apply List.ext_getElem?
          intro i
          simp only [List.getElem?_map, Array.getElem?_toList, Array.getElem?_modify]
          by_cases hij : j = i
          · subst hij; simp [he0']
          · simp [hij]
        rw [this]
        exact hn
      · intro e hem
        obtain ⟨i, hi⟩ := List.mem_iff_getElem?.1 hem
        simp only [Array.getElem?_toList, Array.getElem?_modify] at hi
        by_cases hij : j = i
        · subst hij
          simp [he0'] at hi
          subst hi
          exact hb e0 (List.mem_of_getElem? he0)
        · simp [hij] at hi
          exact hb e (List.mem_of_getElem? (i := i) (by simpa using hi))
  obtain ⟨es', clock', hr', h1, h2, h3⟩ := hrun
  unfold OpW skipS
  rw [run_bind_ok hr']
  exact fin es' clock' h1 h2 h3

theorem map_eraseIdx' {α β : Type} (f : α → β) : ∀ (l : List α) (i : Nat), (l.eraseIdx i).map f = (l.map f).eraseIdx i
  | [], _ => rfl
  | _ :: _, 0 => rfl
  | x :: l, i + 1 => by simp [map_eraseIdx' f l i]
/-- Taking out. -/
theorem opw_delete [DecidableEq κ] {t et ty : TypeId} {fl : Array Bool} {k : κ} {K : Value → World → Prop} (Ko : KeyOk P kt kf) (ht : P.underlying t = some (.map kt et)) (hA : AtF w M gs W) (ho : OwnM w M gs W r kf vf m) {t2 : TypeId}
    (h : ∀ w', AtF w M gs w' → Keeps gs W w' → Chg (fun b => b = r) W w' → OwnM w M gs w' r kf vf (mdel k m) → K (.tuple #[]) w') : OpW P (builtin .delete #[t, t2] ty fl #[.map (some r), kf k]) W K := by
  have hl := ho.lt
  obtain ⟨es, clock, hr, he, hn, hb⟩ := ho.obj
  have hrun : ∃ es', (Builtin.delete_ #[t, t2] ty #[.map (some r), kf k]).run P W = .ok (.tuple #[]) { W with heap := W.heap.setIfInBounds r (.map es' clock) } ∧ EntR kf vf es'.toList (mdel k m) ∧ (es'.toList.map (·.born)).Nodup ∧ (∀ e ∈ es'.toList, e.born < clock) := by
    unfold Builtin.delete_
    simp only [List.getElem?_toArray, List.getElem?_cons_zero, List.getElem?_cons_succ]
    rw [run_bind_ok (run_underlying ht W)]
    simp only
    rw [run_bind_ok (run_getObj_m hr)]
    simp only
    rw [run_bind_ok (Ko.chk es.isEmpty k W), run_bind_ok (findKey_run Ko k W he)]
    cases hm : midx k m with
    | none =>
      refine ⟨es, ?_, by rw [mdel_none hm]; exact he, hn, hb⟩
      simp only [Option.bind_none]
      rw [run_bind_ok (run_setObj_m hr _)]
      rfl
    | some j =>
      obtain ⟨v0, hv0⟩ := midx_key hm
      simp only [Option.bind_some, hv0, Option.map_some]
      refine ⟨es.eraseIdxIfInBounds j, by rw [run_bind_ok (run_setObj_m hr _)]; rfl, ?_, ?_, ?_⟩
      all_goals
        have hjl : j < es.size := by
          have := midx_lt hm
          have := EntR.len he
          simp at this
          omega
        have hel : (es.eraseIdxIfInBounds j).toList = es.toList.eraseIdx j := by
          simp [Array.eraseIdxIfInBounds, hjl]
      · rw [hel, mdel_at hm]
        unfold EntR at he ⊢
        rw [map_eraseIdx', he, map_eraseIdx']
      · rw [hel, map_eraseIdx']
        exact hn.sublist (List.eraseIdx_sublist ..)
      · intro e hem
        rw [hel] at hem
        exact hb e (List.mem_of_mem_eraseIdx hem)
  obtain ⟨es', hr', h1, h2, h3⟩ := hrun
  have hrun2 : (builtin .delete #[t, t2] ty fl #[.map (some r), kf k]).run P W = .ok (.value (.tuple #[])) { W with heap := W.heap.setIfInBounds r (.map es' clock) } := by
    show (do pure (Next.value (← Builtin.delete_ #[t, t2] ty #[.map (some r), kf k])) : Sem Next).run P W = _
    rw [run_bind_ok hr']
    rfl
  unfold OpW
  rw [hrun2]
  exact h _ (hA.setObjF ho.mine) (keeps_setObj ho.apart) chg_setObj ⟨ho.mine, ho.apart, es', clock, setObj_heap hl _, h1, h2, h3⟩
end
end Go.Vc

/- Keys of maps: integers, strings. -/
namespace Go.Vc
open Go Go.RowKit
theorem toList_eq (t s : ByteArray) : (t.toList == s.toList) = decide (t = s) := by
  by_cases h : t = s
  · subst h; simp
  · have : t.toList ≠ s.toList := fun e => h (by
      rw [ByteArray.toList_eq, ByteArray.toList_eq] at e
      have := Array.ext' e
      cases t; cases s
      simpa using this)
    simp [h, this]
theorem beq_ba (a b : ByteArray) : (a == b) = decide (a = b) := by rw [beq_toListBytes, toList_eq]
theorem keyOk_str {P : Program} {kt : TypeId} (h : P.underlying kt = some .string) : KeyOk P kt Value.string where
  eq := fun k k' => by unfold eqB; rw [h]; simp only; rw [beq_ba]
  now := fun d hd k k' b hb => by rw [h] at hd; cases hd; simp [Instr.sameNow] at hb; rw [← hb, beq_ba]
  chk := fun e k W => MapKept.run_checkKey (k := .string k) h trivial e 9999
  bits := fun k => by unfold Instr.sameBits; rw [beq_ba]; simp
  und := ⟨_, h⟩
theorem keyOk_int {P : Program} {kt : TypeId} {q : IntKind} (h : P.underlying kt = some (.int q)) : KeyOk P kt (Value.int q) where
  eq := fun k k' => by
    unfold eqB; rw [h]
    simp only [decide_true, cond_true, Option.some.injEq]
    rw [Bool.eq_iff_iff]; simp
  now := fun d hd k k' b hb => by
    rw [h] at hd; cases hd; simp [Instr.sameNow] at hb; rw [← hb, Bool.eq_iff_iff]; simp
  chk := fun e k W => MapKept.run_checkKey (k := .int q k) h (by unfold MapKept.IsKey; rfl) e 9999
  bits := fun k => by unfold Instr.sameBits; simp
  und := ⟨_, h⟩
end Go.Vc

/- Structs behind pointers: their fields read and stored; what an own row's block is. -/
namespace Go.Vc
open Go Go.RowKit

section
variable {P : Program} {M N : Nat → Prop} {w W W' : World} {gs : List Nat}

theorem elt_cells {g : Nat} {cells : List Value} {ty : TypeId} (h : W.heap[g]? = some (.cells cells.toArray ty (0, 0))) : Elt W ⟨g, 0, none⟩ cells := by
  intro j v hv
  rw [addr_add, cell_at (cells := cells) (ty := ty) (fr := (0, 0)) h, Nat.zero_add]
  exact hv
/-- A field read. -/
theorem rd_f0 {g : Nat} {v : Value} {r : List Value} {ty te : TypeId} {ds : List Nat} (h : W.heap[g]? = some (.cells (v :: r).toArray ty (0, 0))) (hagg : pureRun P (isAgg te) = some false) (hd : ∀ d ∈ ds, d ≠ g) : Reads P ds (Instr.loadAt te (.pointer (some ⟨g, 0, none⟩))) W v :=
  (elt_cells h).one hagg hd
theorem rd_f {g : Nat} (o : Nat) {v : Value} {r cs : List Value} {ty te : TypeId} {ds : List Nat} (h : W.heap[g]? = some (.cells cs.toArray ty (0, 0))) (hc : cs.drop (o + 1) = v :: r) (hagg : pureRun P (isAgg te) = some false) (hd : ∀ d ∈ ds, d ≠ g) : Reads P ds (Instr.loadAt te (.pointer (some (Addr.mk g (0 + (o + 1)) none)))) W v := by
  have := (elt_cells h).sub (o := o + 1) (by omega)
  rw [hc] at this
  exact this.one hagg hd

theorem opw_storeF {g off : Nat} {cells cells' : List Value} {ty te : TypeId} {v : Value} {K : Value → World → Prop} (hA : AtF w M gs W) (hg : W.heap[g]? = some (.cells cells.toArray ty (0, 0))) (hm : w.heap.size ≤ g ∨ M g) (hap : g ∉ gs) (hc : cellStore P te cells off v = some cells')
    (h : ∀ w', AtF w M gs w' → Keeps gs W w' → Chg (fun b => b = g) W w' → w'.heap[g]? = some (.cells cells'.toArray ty (0, 0)) → K undef w') : OpW P (skipS (Instr.storeAt te (.pointer (some ⟨g, off, none⟩)) v)) W K := by
  obtain ⟨W', hr, hg', hb, hs1, h2, h3, h4⟩ := run_cellStore (P := P) (t := te) hg hc
  have hch : Chg (fun b => b = g) W W' := ⟨h2, h3, h4, by omega, fun k _ hk => hb k hk, run_drawn hr⟩
  have hsk : (skipS (Instr.storeAt te (.pointer (some ⟨g, off, none⟩)) v)).run P W = .ok .skip W' := by
    unfold skipS
    rw [run_bind_ok hr]
    rfl
  unfold OpW
  rw [hsk]
  exact h W' (hA.step hch fun b _ hb => by subst hb; exact hm) (hA.keepsC hch fun x hx e => hap (by subst e; exact hx)) hch hg'

/-- A struct boxed: its block. -/
theorem opw_boxS {t : TypeId} {x : Value} {K : Value → World → Prop} (hA : AtF w M gs W) (h : ∀ g w', W.heap.size = g → AtF w M gs w' → Keeps gs W w' → Bel W w' → w'.heap[g]? = some (.cells x.cells t (0, 0)) → K (.pointer (some ⟨g, 0, none⟩)) w') : OpW P (valueS (Instr.box t x)) W K := by
  have hr : (Instr.box t x).run P W = .ok (.pointer (some ⟨W.heap.size, 0, none⟩)) (W.alloc (.cells x.cells t)) := rfl
  unfold OpW
  rw [run_valueS hr]
  exact h _ _ rfl (hA.call (below_alloc _)) (hA.keeps (below_alloc _)) (below_alloc _) (heap_alloc_new W _)

theorem OwnF.blk {α : Type} {e : TypeId} {size : Nat} {f : α → List Value} {v : Value} {l : List α} (h : OwnF w M gs W e size f v l) {k : Nat} (hk : v.ownBlock = some k) : ∃ cur, W.heap[k]? = some (.cells cur e (0, 0)) := by
  rcases h.row0.2 with ⟨hv, _⟩ | ⟨g, cap, cur, hv, _, hg, _⟩
  · rw [hv] at hk; cases hk
  · rw [hv] at hk
    cases hk
    exact ⟨cur, hg⟩
theorem cells_ne {j k : Nat} {c c' : Array Value} {e e' : TypeId} {fr fr' : Nat × Nat} (h : W.heap[j]? = some (.cells c e fr)) (h' : W.heap[k]? = some (.cells c' e' fr')) (hne : e ≠ e') : j ≠ k := fun hjk => by
  subst hjk
  rw [h] at h'
  cases h'
  exact hne rfl
theorem cells_map {j k : Nat} {c : Array Value} {e : TypeId} {fr : Nat × Nat} {es : Array MapEntry} {cl : Nat} (h : W.heap[j]? = some (.cells c e fr)) (h' : W.heap[k]? = some (.map es cl)) : j ≠ k := fun hjk => by
  subst hjk
  rw [h] at h'
  cases h'
end
end Go.Vc

/- A variable in a block of its own: made, then stored into. -/
namespace Go.Vc
open Go Go.RowKit
section
variable {P : Program} {w W : World} {M : Nat → Prop} {gs : List Nat}
theorem opw_allocS {t : TypeId} (zc : List Value) {zv : Value} {K : Value → World → Prop} (hz : pureRun P (zeroValue t) = some zv) (hc : zv.cells = zc.toArray) (hA : AtF w M gs W)
    (h : ∀ g w', W.heap.size = g → AtF w M gs w' → Keeps gs W w' → Bel W w' → w'.heap[g]? = some (.cells zc.toArray t (0, 0)) → K (.pointer (some ⟨g, 0, none⟩)) w') : OpW P (valueS (Instr.alloc t true (.tuple #[]))) W K := by
  unfold OpW
  rw [run_valueS (run_alloc hz)]
  refine h _ _ rfl (hA.call (below_alloc _)) (hA.keeps (below_alloc _)) (below_alloc _) ?_
  rw [heap_alloc_new, hc]
/-- Made, and stored into at once: a new block. -/
theorem opw_boxed {t te : TypeId} (zc cs : List Value) {zv v : Value} {K : Nat → World → Prop} (hz : pureRun P (zeroValue t) = some zv) (hc : zv.cells = zc.toArray) (hs : cellStore P te zc 0 v = some cs) (hA : AtF w M gs W)
    (h : ∀ g w', W.heap.size = g → AtF w M gs w' → Keeps gs W w' → Bel W w' → w'.heap[g]? = some (.cells cs.toArray t (0, 0)) → K g w') :
    OpW P (valueS (Instr.alloc t true (.tuple #[]))) W fun p w' => ∃ ad, p = .pointer (some ad) ∧ OpW P (skipS (Instr.storeAt te (.pointer (some ad)) v)) w' fun _ w'' => K ad.block w'' ∧ ad = ⟨ad.block, 0, none⟩ := by
  refine opw_allocS zc hz hc hA fun g w' hg hA' hk hb hblk => ⟨_, rfl, ?_⟩
  refine opw_storeF (w := W) (M := noB) (gs := gs) (cells := zc) ⟨Chg.of_below hb, hA'.under⟩ hblk (.inl (by omega)) (fun hx => ?_) hs fun w2 hA2 hk2 hch hb2 => ⟨?_, rfl⟩
  · have := hA.under g hx
    omega
  · have hbel : Bel W w2 := hA2.below
    exact h g w2 hg (hA.call hbel) (hA.keeps hbel) hbel hb2
end
end Go.Vc

