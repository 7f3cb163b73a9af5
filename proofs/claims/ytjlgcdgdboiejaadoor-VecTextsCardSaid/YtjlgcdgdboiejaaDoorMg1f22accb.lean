/- Own texts of this claim, laid together: VcMap, VcKeys, VcStore, VcAlloc, D1, VcCopy, VcMap2, VcRange, D2, D3, VcSort, PtShelfD, D4, VcPart, D5, FD3, VcDec, E1, E2. -/
import Derived.Test.YtjlgcdgdboiejaaDoorMg630ac5d1
import Derived.Carry
import Derived.MapKept
import Derived.Laws.CopyRow
import Derived.Maps.RangeRun
import Derived.Shelf.SlSortCmp.NoneTotal
import Derived.Shelf.SlLaysF0
import Derived.Shelf.SlGeneric
import Derived.Test.YtjlgcdgdboiejaaDoorProg

/- Maps of the function's own: entries in the order in which they came; looking up, putting in, taking out. -/
namespace Go.Vc
open Go Go.RowKit

section
variable {κ α : Type} [DecidableEq κ]

def mget (k : κ) : List (κ × α) → Option α
  | [] => none
  | x :: r => if k = x.1 then some x.2 else mget k r
def mset (k : κ) (v : α) : List (κ × α) → List (κ × α)
  | [] => [(k, v)]
  | x :: r => if k = x.1 then (k, v) :: r else x :: mset k v r
def mdel (k : κ) : List (κ × α) → List (κ × α)
  | [] => []
  | x :: r => if k = x.1 then r else x :: mdel k r
/-- The first place of a key. -/
def midx (k : κ) : List (κ × α) → Option Nat
  | [] => none
  | x :: r => if k = x.1 then some 0 else (midx k r).map (· + 1)

theorem midx_lt {k : κ} : ∀ {m : List (κ × α)} {i : Nat}, midx k m = some i → i < m.length
  | [], i, h => by cases h
  | x :: r, i, h => by
    unfold midx at h
    split at h
    · cases h; simp
    · cases hr : midx k r with
      | none => rw [hr] at h; cases h
      | some j =>
        rw [hr] at h
        cases h
        have := midx_lt hr
        simp; omega
theorem mget_idx {k : κ} : ∀ {m : List (κ × α)}, mget k m = (midx k m).bind fun i => (m[i]?).map (·.2)
  | [] => rfl
  | x :: r => by
    unfold mget midx
    split
    · simp
    · rw [mget_idx (m := r)]
      cases midx k r <;> simp

/-! ### The plain laws -/
theorem mget_mset_self (k : κ) (v : α) : ∀ m : List (κ × α), mget k (mset k v m) = some v
  | [] => by simp [mset, mget]
  | x :: r => by
    unfold mset
    split
    · simp [mget]
    · rename_i h
      simp only [mget, if_neg h]
      exact mget_mset_self k v r
theorem mget_mset_ne {k j : κ} (v : α) (h : j ≠ k) : ∀ m : List (κ × α), mget j (mset k v m) = mget j m
  | [] => by simp [mset, mget, h]
  | x :: r => by
    unfold mset
    split
    · rename_i he
      have : ¬ j = x.1 := fun e => h (e.trans he.symm)
      simp [mget, h, this]
    · simp only [mget]
      rw [mget_mset_ne v h r]
theorem mget_mdel_ne {k j : κ} (h : j ≠ k) : ∀ m : List (κ × α), mget j (mdel k m) = mget j m
  | [] => rfl
  | x :: r => by
    unfold mdel
    split
    · rename_i he
      have : ¬ j = x.1 := fun e => h (e.trans he.symm)
      simp [mget, this]
    · simp only [mget]
      rw [mget_mdel_ne h r]
theorem mem_of_mget {k : κ} {v : α} : ∀ {m : List (κ × α)}, mget k m = some v → (k, v) ∈ m
  | [], h => by cases h
  | x :: r, h => by
    unfold mget at h
    split at h
    · rename_i he
      cases h
      rw [he]
      exact List.mem_cons_self ..
    · exact List.mem_cons_of_mem _ (mem_of_mget h)
theorem mget_none {k : κ} : ∀ {m : List (κ × α)}, mget k m = none ↔ k ∉ m.map (·.1)
  | [] => by simp [mget]
  | x :: r => by
    unfold mget
    split
    · rename_i he; simp [he]
    · rename_i he
      rw [mget_none (m := r)]
      simp [he]
theorem mget_of_mem {k : κ} {v : α} : ∀ {m : List (κ × α)}, (m.map (·.1)).Nodup → (k, v) ∈ m → mget k m = some v
  | [], _, h => by cases h
  | x :: r, hn, h => by
    rw [List.map_cons, List.nodup_cons] at hn
    unfold mget
    rcases List.mem_cons.1 h with rfl | h
    · simp
    · rw [if_neg (fun he => hn.1 (by rw [← he]; exact List.mem_map.2 ⟨_, h, rfl⟩))]
      exact mget_of_mem hn.2 h
theorem mset_keys {k : κ} {v : α} : ∀ {m : List (κ × α)}, (mset k v m).map (·.1) = if k ∈ m.map (·.1) then m.map (·.1) else m.map (·.1) ++ [k]
  | [] => by simp [mset]
  | x :: r => by
    unfold mset
    split
    · rename_i he; simp [he]
    · rename_i he
      rw [List.map_cons, mset_keys (m := r)]
      by_cases h : k ∈ r.map (·.1)
      · simp only [h, if_true]
        rw [if_pos (by simp only [List.map_cons, List.mem_cons]; exact .inr h)]
        rfl
      · simp only [h, if_false]
        rw [if_neg (by simp only [List.map_cons, List.mem_cons]; exact fun hh => hh.elim he h)]
        rfl
theorem mdel_keys {k : κ} : ∀ {m : List (κ × α)}, (mdel k m).map (·.1) = (m.map (·.1)).erase k
  | [] => rfl
  | x :: r => by
    unfold mdel
    split
    · rename_i he; simp [he]
    · rename_i he
      rw [List.map_cons, mdel_keys (m := r), List.map_cons, List.erase_cons_tail (by simpa using fun e => he e.symm)]
theorem mset_nodup {k : κ} {v : α} {m : List (κ × α)} (h : (m.map (·.1)).Nodup) : ((mset k v m).map (·.1)).Nodup := by
  rw [mset_keys]
  split
  · exact h
  · rename_i hk
    exact List.nodup_append.2 ⟨h, by simp, fun a ha b hb => by simp at hb; rintro rfl; exact hk (hb ▸ ha)⟩
theorem mdel_nodup {k : κ} {m : List (κ × α)} (h : (m.map (·.1)).Nodup) : ((mdel k m).map (·.1)).Nodup := by
  rw [mdel_keys]
  exact h.erase k
theorem mget_mdel_self {k : κ} {m : List (κ × α)} (h : (m.map (·.1)).Nodup) : mget k (mdel k m) = none := by
  rw [mget_none, mdel_keys]
  exact h.not_mem_erase
theorem mset_length {k : κ} {v : α} : ∀ {m : List (κ × α)}, (mset k v m).length = if (mget k m).isSome then m.length else m.length + 1
  | [] => rfl
  | x :: r => by
    unfold mset mget
    split
    · simp
    · simp only [List.length_cons]
      rw [mset_length (m := r)]
      split <;> rfl
theorem mdel_length {k : κ} : ∀ {m : List (κ × α)}, (mdel k m).length = if (mget k m).isSome then m.length - 1 else m.length
  | [] => rfl
  | x :: r => by
    unfold mdel mget
    split
    · simp
    · simp only [List.length_cons]
      rw [mdel_length (m := r)]
      split
      · rename_i h
        obtain ⟨v, hv⟩ := Option.isSome_iff_exists.1 h
        have := List.length_pos_of_mem (mem_of_mget hv)
        omega
      · rfl
end

/-- What a look-up leaves. -/
def lookV2 {α : Type} (vf : α → Value) (z : Value) : Option α → Value
  | some v => .tuple #[vf v, .bool true]
  | none => .tuple #[z, .bool false]
def lookV1 {α : Type} (vf : α → Value) (z : Value) : Option α → Value
  | some v => vf v
  | none => z
/-! ### Keys -/
structure KeyOk {κ : Type} [DecidableEq κ] (P : Program) (kt : TypeId) (kf : κ → Value) : Prop where
  eq : ∀ k k', eqB P 30 kt (kf k) (kf k') = some (decide (k = k'))
  now : ∀ d, P.underlying kt = some d → ∀ k k' b, Instr.sameNow d (kf k) (kf k') = some b → b = decide (k = k')
  chk : ∀ e k W, (Instr.checkKey e 10000 kt (kf k)).run P W = .ok () W
  bits : ∀ k, Instr.sameBits 10000 (kf k) (kf k) = true
  und : ∃ d, P.underlying kt = some d

section
variable {κ α : Type} {P : Program} {kt : TypeId} {kf : κ → Value} {vf : α → Value}

/-- Entries stand for a list. -/
def EntR (kf : κ → Value) (vf : α → Value) (es : List MapEntry) (m : List (κ × α)) : Prop := es.map (fun e => (e.key, e.val)) = m.map fun x => (kf x.1, vf x.2)

theorem EntR.cons {e : MapEntry} {es : List MapEntry} {x : κ × α} {m : List (κ × α)} (h : EntR kf vf (e :: es) (x :: m)) : e.key = kf x.1 ∧ e.val = vf x.2 ∧ EntR kf vf es m := by
  unfold EntR at h
  simp only [List.map_cons, List.cons.injEq, Prod.mk.injEq] at h
  exact ⟨h.1.1, h.1.2, h.2⟩

theorem findNow_spec [DecidableEq κ] (K : KeyOk P kt kf) {d : TypeDesc} (hd : P.underlying kt = some d) (k : κ) : ∀ (es : List MapEntry) (m : List (κ × α)) (i : Nat) (r : Option (Nat × Value)), EntR kf vf es m → Instr.findNow d (kf k) es i = some r →
    r = (midx k m).bind fun j => (m[j]?).map fun x => (i + j, vf x.2)
  | [], m, i, r, h, hf => by
    have : m = [] := by cases m with
      | nil => rfl
      | cons x m => simp [EntR] at h
    subst this
    simp only [Instr.findNow, Option.some.injEq] at hf
    subst hf
    rfl
  | e :: es, [], i, r, h, hf => by simp [EntR] at h
  | e :: es, x :: m, i, r, h, hf => by
    obtain ⟨h1, h2, h3⟩ := h.cons
    unfold Instr.findNow at hf
    rw [h1] at hf
    cases hs : Instr.sameNow d (kf k) (kf x.1) with
    | none => rw [hs] at hf; cases hf
    | some b =>
      have hb := K.now d hd _ _ _ hs
      rw [hs] at hf
      cases b with
      | true =>
        simp only [Option.some.injEq] at hf
        have he : k = x.1 := by simpa using hb.symm
        subst hf
        simp [midx, he, h2]
      | false =>
        have he : ¬ k = x.1 := by simpa using hb.symm
        have := findNow_spec K hd k es m (i + 1) r h3 hf
        rw [this]
        simp only [midx, if_neg he]
        cases midx k m with
        | none => rfl
        | some j => simp; congr 1; funext y; congr 1; omega

theorem findAsking_run [DecidableEq κ] (K : KeyOk P kt kf) (k : κ) (W : World) : ∀ (es : List MapEntry) (m : List (κ × α)) (i : Nat), EntR kf vf es m →
    (Instr.findAsking kt (kf k) es i).run P W = .ok ((midx k m).bind fun j => (m[j]?).map fun x => (i + j, vf x.2)) W
  | [], m, i, h => by
    have : m = [] := by cases m with
      | nil => rfl
      | cons x m => simp [EntR] at h
    subst this
    rfl
  | e :: es, [], i, h => by simp [EntR] at h
  | e :: es, x :: m, i, h => by
    obtain ⟨h1, h2, h3⟩ := h.cons
    unfold Instr.findAsking
    rw [h1]
    have he : (Op.equal kt (kf k) (kf x.1)).run P W = .ok (decide (k = x.1)) W := eqB_run W 30 10000 kt _ _ _ (K.eq k x.1) (by omega)
    rw [run_bind_ok he]
    by_cases hk : k = x.1
    · simp [hk, midx, h2]
    · simp only [decide_eq_false hk, Bool.false_eq_true, if_false]
      rw [findAsking_run K k W es m (i + 1) h3]
      simp only [midx, if_neg hk]
      cases midx k m with
      | none => rfl
      | some j => simp; congr 1; funext y; congr 1; omega

theorem findKey_run [DecidableEq κ] (K : KeyOk P kt kf) (k : κ) (W : World) {es : List MapEntry} {m : List (κ × α)} (h : EntR kf vf es m) :
    (Instr.findKey kt (kf k) es).run P W = .ok ((midx k m).bind fun j => (m[j]?).map fun x => (j, vf x.2)) W := by
  obtain ⟨d, hd⟩ := K.und
  unfold Instr.findKey
  rw [run_bind_ok (run_underlying hd W)]
  cases hf : Instr.findNow d (kf k) es 0 with
  | some r =>
    have := findNow_spec K hd k es m 0 r h hf
    simp only [Nat.zero_add] at this
    rw [this]
    rfl
  | none =>
    have := findAsking_run K k W es m 0 h
    simp only [Nat.zero_add] at this
    exact this

/-- An own map. -/
structure OwnM (w : World) (M : Nat → Prop) (gs : List Nat) (W : World) (r : Nat) (kf : κ → Value) (vf : α → Value) (m : List (κ × α)) : Prop where
  mine : w.heap.size ≤ r ∨ M r
  apart : r ∉ gs
  obj : ∃ es clock, W.heap[r]? = some (.map es clock) ∧ EntR kf vf es.toList m ∧ (es.toList.map (·.born)).Nodup ∧ ∀ e ∈ es.toList, e.born < clock

variable {w W W' : World} {M N : Nat → Prop} {gs gs' : List Nat} {r : Nat} {m : List (κ × α)}

theorem OwnM.lt (h : OwnM w M gs W r kf vf m) : r < W.heap.size := by
  obtain ⟨es, clock, hr, _⟩ := h.obj
  exact (Array.getElem?_eq_some_iff.1 hr).1
theorem OwnM.chg (h : OwnM w M gs W r kf vf m) (hc : Chg N W W') (hn : ¬ N r) : OwnM w M gs W' r kf vf m := by
  have hl := h.lt
  obtain ⟨es, clock, hr, rest⟩ := h.obj
  exact ⟨h.mine, h.apart, es, clock, by rw [hc.block r hl hn, hr], rest⟩
theorem OwnM.base1 {w' : World} {M' : Nat → Prop} (h : OwnM w M gs W r kf vf m) (hm : w'.heap.size ≤ r ∨ M' r) (ha : r ∉ gs') : OwnM w' M' gs' W r kf vf m := ⟨hm, ha, h.obj⟩
theorem OwnM.base0 {w' : World} (h : OwnM w M gs W r kf vf m) (hm : w'.heap.size ≤ r) : OwnM w' noB [] W r kf vf m := ⟨.inl hm, by simp, h.obj⟩
theorem OwnM.call (h : OwnM w M gs W r kf vf m) (hb : Bel W W') : OwnM w M gs W' r kf vf m := h.chg (N := noB) (Chg.of_below hb) id
theorem OwnM.more (h : OwnM w M gs W r kf vf m) (hg : ∀ g ∈ gs', g ∉ gs → W.heap.size ≤ g) : OwnM w M gs' W r kf vf m :=
  ⟨h.mine, fun hr => by
    by_cases hk : r ∈ gs
    · exact h.apart hk
    · have := hg r hr hk
      have := h.lt
      omega, h.obj⟩
theorem OwnM.evo {ds : List Nat} (h : OwnM w M gs W r kf vf m) (hd : ∀ d ∈ ds, d ∉ gs → W.heap.size ≤ d) (hb : Evo ds W W') : OwnM w M gs W' r kf vf m :=
  h.chg (Chg.of_evo hb) fun hm => by
    by_cases hk : r ∈ gs
    · exact h.apart hk
    · have := hd r hm hk
      have := h.lt
      omega

theorem opw_makeMap {t : TypeId} {K : Value → World → Prop} (hA : AtF w M gs W) (h : ∀ g w', W.heap.size = g → AtF w M gs w' → Keeps gs W w' → Bel W w' → OwnM w M gs w' g kf vf ([] : List (κ × α)) → K (.map (some g)) w') : OpW P (valueS (Instr.makeMap t none)) W K := by
  unfold OpW
  rw [run_valueS (run_makeMap t W)]
  refine h _ _ rfl (hA.call (below_alloc _)) (hA.keeps (below_alloc _)) (below_alloc _) ⟨.inl hA.size, fun hm => ?_, #[], 0, heap_alloc_new W _, rfl, by simp, fun e he => by simp at he⟩
  have := hA.under _ hm
  omega

theorem run_getObj_m {es : Array MapEntry} {clock : Nat} (h : W.heap[r]? = some (.map es clock)) : (getObj r).run P W = .ok (.map es clock) W := by
  simp [getObj, Sem.run, h]
theorem run_setObj_m {es : Array MapEntry} {clock : Nat} (h : W.heap[r]? = some (.map es clock)) (o : Obj) : (setObj r o).run P W = .ok () { W with heap := W.heap.setIfInBounds r o } := by
  simp [setObj, Sem.run, h]

theorem run_lookup_m [DecidableEq κ] {t et : TypeId} {z : Value} (K : KeyOk P kt kf) (ht : P.underlying t = some (.map kt et)) (hz : pureRun P (zeroValue et) = some z) (h : OwnM w M gs W r kf vf m) (k : κ) (ok : Bool) :
    (Instr.lookup t (.map (some r)) (kf k) ok).run P W = .ok (match mget k m with
      | some v => cond ok (.tuple #[vf v, .bool true]) (vf v)
      | none => cond ok (.tuple #[z, .bool false]) z) W := by
  obtain ⟨es, clock, hr, he, _⟩ := h.obj
  unfold Instr.lookup
  rw [run_bind_ok (run_underlying ht W)]
  simp only
  rw [run_bind_ok (run_getObj_m hr)]
  simp only [pure_bind]
  rw [run_bind_ok (K.chk es.isEmpty k W), run_bind_ok (findKey_run K k W he), mget_idx]
  cases hm : midx k m with
  | none =>
    simp only [Option.bind_none]
    rw [run_bind_ok (pureRun_run hz W)]
    cases ok <;> rfl
  | some j =>
    have hj := midx_lt hm
    have hjj : m[j]? = some m[j] := List.getElem?_eq_getElem hj
    simp only [Option.bind_some, hjj, Option.map_some]
    cases ok <;> rfl

/-- Looking up, with a flag. -/
theorem reads_lookup2 [DecidableEq κ] {t et : TypeId} {z : Value} (K : KeyOk P kt kf) (ht : P.underlying t = some (.map kt et)) (hz : pureRun P (zeroValue et) = some z) (h : OwnM w M gs W r kf vf m) (k : κ) {ds : List Nat} (hd : ∀ d ∈ ds, d ≠ r) :
    Reads P ds (Instr.lookup t (.map (some r)) (kf k) true) W (lookV2 vf z (mget k m)) := by
  intro W' hW'
  have h' : OwnM w M gs W' r kf vf m := by
    have hb : W'.heap[r]? = W.heap[r]? := by
      cases ds with
      | nil => exact Bel.block hW' h.lt
      | cons d s => exact Evo.block hW' _ h.lt (fun hm => hd _ hm rfl)
    obtain ⟨es, clock, hr, rest⟩ := h.obj
    exact ⟨h.mine, h.apart, es, clock, by rw [hb, hr], rest⟩
  rw [run_lookup_m K ht hz h' k true]
  cases mget k m <;> rfl
theorem reads_lookup1 [DecidableEq κ] {t et : TypeId} {z : Value} (K : KeyOk P kt kf) (ht : P.underlying t = some (.map kt et)) (hz : pureRun P (zeroValue et) = some z) (h : OwnM w M gs W r kf vf m) (k : κ) {ds : List Nat} (hd : ∀ d ∈ ds, d ≠ r) :
    Reads P ds (Instr.lookup t (.map (some r)) (kf k) false) W (lookV1 vf z (mget k m)) := by
  intro W' hW'
  have h' : OwnM w M gs W' r kf vf m := by
    have hb : W'.heap[r]? = W.heap[r]? := by
      cases ds with
      | nil => exact Bel.block hW' h.lt
      | cons d s => exact Evo.block hW' _ h.lt (fun hm => hd _ hm rfl)
    obtain ⟨es, clock, hr, rest⟩ := h.obj
    exact ⟨h.mine, h.apart, es, clock, by rw [hb, hr], rest⟩
  rw [run_lookup_m K ht hz h' k false]
  cases mget k m <;> rfl

theorem EntR.len {es : List MapEntry} (h : EntR kf vf es m) : es.length = m.length := by
  have := congrArg List.length h
  simpa using this
theorem EntR.at_ : ∀ {es : List MapEntry} {m : List (κ × α)} {i : Nat} {x : κ × α}, EntR kf vf es m → m[i]? = some x → ∃ e, es[i]? = some e ∧ e.key = kf x.1 ∧ e.val = vf x.2
  | es, m, i, x, h, hx => by
    have := congrArg (·[i]?) h
    simp only [List.getElem?_map, hx, Option.map_some] at this
    cases he : es[i]? with
    | none => rw [he] at this; cases this
    | some e =>
      rw [he] at this
      simp at this
      exact ⟨e, rfl, this.1, this.2⟩

theorem mset_at [DecidableEq κ] {k : κ} {v : α} : ∀ {m : List (κ × α)} {j : Nat}, midx k m = some j → mset k v m = m.set j (k, v)
  | [], j, h => by cases h
  | x :: r, j, h => by
    unfold midx at h
    unfold mset
    split at h
    · rename_i he
      cases h
      rw [if_pos he]
      rfl
    · rename_i he
      rw [if_neg he]
      cases hr : midx k r with
      | none => rw [hr] at h; cases h
      | some i =>
        rw [hr] at h
        cases h
        rw [mset_at hr]
        rfl
theorem mset_new [DecidableEq κ] {k : κ} {v : α} : ∀ {m : List (κ × α)}, midx k m = none → mset k v m = m ++ [(k, v)]
  | [], _ => rfl
  | x :: r, h => by
    unfold midx at h
    unfold mset
    split at h
    · cases h
    · rename_i he
      rw [if_neg he]
      cases hr : midx k r with
      | none => rw [mset_new hr]; rfl
      | some i => rw [hr] at h; cases h
theorem mdel_at [DecidableEq κ] {k : κ} : ∀ {m : List (κ × α)} {j : Nat}, midx k m = some j → mdel k m = m.eraseIdx j
  | [], j, h => by cases h
  | x :: r, j, h => by
    unfold midx at h
    unfold mdel
    split at h
    · rename_i he
      cases h
      rw [if_pos he]
      rfl
    · rename_i he
      rw [if_neg he]
      cases hr : midx k r with
      | none => rw [hr] at h; cases h
      | some i =>
        rw [hr] at h
        cases h
        rw [mdel_at hr]
        rfl
theorem mdel_none [DecidableEq κ] {k : κ} : ∀ {m : List (κ × α)}, midx k m = none → mdel k m = m
  | [], _ => rfl
  | x :: r, h => by
    unfold midx at h
    unfold mdel
    split at h
    · cases h
    · rename_i he
      rw [if_neg he]
      cases hr : midx k r with
      | none => rw [mdel_none hr]
      | some i => rw [hr] at h; cases h
theorem midx_key [DecidableEq κ] {k : κ} : ∀ {m : List (κ × α)} {j : Nat}, midx k m = some j → ∃ v, m[j]? = some (k, v)
  | [], j, h => by cases h
  | x :: r, j, h => by
    unfold midx at h
    split at h
    · rename_i he
      cases h
      exact ⟨x.2, by rw [he]; rfl⟩
    · cases hr : midx k r with
      | none => rw [hr] at h; cases h
      | some i =>
        rw [hr] at h
        cases h
        obtain ⟨v, hv⟩ := midx_key hr
        exact ⟨v, by simpa using hv⟩

theorem setObj_heap (h : r < W.heap.size) (o : Obj) : (W.heap.setIfInBounds r o)[r]? = some o := by simp [h]

/-- Putting in. -/
theorem opw_mapUpdate [DecidableEq κ] {t et : TypeId} {k : κ} {v : α} {K : Value → World → Prop} (Ko : KeyOk P kt kf) (ht : P.underlying t = some (.map kt et)) (hA : AtF w M gs W) (ho : OwnM w M gs W r kf vf m)
    (h : ∀ w', AtF w M gs w' → Keeps gs W w' → Chg (fun b => b = r) W w' → OwnM w M gs w' r kf vf (mset k v m) → K undef w') : OpW P (skipS (Instr.mapUpdate t (.map (some r)) (kf k) (vf v))) W K := by
  have hl := ho.lt
  obtain ⟨es, clock, hr, he, hn, hb⟩ := ho.obj
  have fin : ∀ (es' : Array MapEntry) (clock' : Nat), EntR kf vf es'.toList (mset k v m) → (es'.toList.map (·.born)).Nodup → (∀ e ∈ es'.toList, e.born < clock') →
      K undef { W with heap := W.heap.setIfInBounds r (.map es' clock') } := fun es' clock' h1 h2 h3 =>
    h _ (hA.setObjF ho.mine) (keeps_setObj ho.apart) chg_setObj ⟨ho.mine, ho.apart, es', clock', setObj_heap hl _, h1, h2, h3⟩
  have hrun : ∃ es' clock', (Instr.mapUpdate t (.map (some r)) (kf k) (vf v)).run P W = .ok () { W with heap := W.heap.setIfInBounds r (.map es' clock') } ∧ EntR kf vf es'.toList (mset k v m) ∧ (es'.toList.map (·.born)).Nodup ∧ (∀ e ∈ es'.toList, e.born < clock') := by
    unfold Instr.mapUpdate
    rw [run_bind_ok (run_underlying ht W)]
    simp only
    rw [run_bind_ok (run_getObj_m hr)]
    simp only
    rw [run_bind_ok (Ko.chk false k W), run_bind_ok (findKey_run Ko k W he)]
    cases hm : midx k m with
    | none =>
      refine ⟨es.push { key := kf k, val := vf v, born := clock }, clock + 1, run_setObj_m hr _, ?_, ?_, ?_⟩
      · rw [mset_new hm, Array.toList_push]
        unfold EntR at he ⊢
        rw [List.map_append, List.map_append, he]
        rfl
      · rw [Array.toList_push, List.map_append]
        refine List.nodup_append.2 ⟨hn, by simp, fun a ha b hb' => ?_⟩
        simp at hb'
        obtain ⟨e, hem, rfl⟩ := List.mem_map.1 ha
        have := hb e hem
        omega
      · intro e hem
        rw [Array.toList_push] at hem
        rcases List.mem_append.1 hem with h1 | h1
        · have := hb e h1; omega
        · simp at h1; subst h1; simp
    | some j =>
      obtain ⟨v0, hv0⟩ := midx_key hm
      obtain ⟨e0, he0, hk0, _⟩ := EntR.at_ he hv0
      have he0' : es[j]? = some e0 := by simpa using he0
      simp only [Option.bind_some, hv0, Option.map_some, he0', Option.getD_some, hk0]
      have hks : (Instr.keyThatStays (kf k) (kf k)).run P W = .ok (kf k) W := by
        unfold Instr.keyThatStays
        rw [if_pos (Ko.bits k)]
        rfl
      rw [run_bind_ok hks]
      refine ⟨es.modify j fun e => { e with key := kf k, val := vf v }, clock, run_setObj_m hr _, ?_, ?_, ?_⟩
      · rw [mset_at hm]
        unfold EntR at he ⊢
        rw [List.map_set, ← he]
        apply List.ext_getElem?
        intro i
        simp only [List.getElem?_map, Array.getElem?_toList, Array.getElem?_modify, List.getElem?_set, List.length_map, Array.length_toList]
        by_cases hij : j = i
        · subst hij
          have := (Array.getElem?_eq_some_iff.1 he0').1
          simp [this]
        · simp [hij]
      · have : (es.modify j fun e => { e with key := kf k, val := vf v }).toList.map (·.born) = es.toList.map (·.born) := by
          apply List.ext_getElem?
          intro i
          simp only [List.getElem?_map, Array.getElem?_toList, Array.getElem?_modify]
          by_cases hij : j = i
          · subst hij; simp [he0']
          · simp [hij]
        rw [this]
        exact hn
      · intro e hem
        obtain ⟨i, hi⟩ := List.mem_iff_getElem?.1 hem
        simp only [Array.getElem?_toList, Array.getElem?_modify] at hi
        by_cases hij : j = i
        · subst hij
          simp [he0'] at hi
          subst hi
          exact hb e0 (List.mem_of_getElem? he0)
        · simp [hij] at hi
          exact hb e (List.mem_of_getElem? (i := i) (by simpa using hi))
  obtain ⟨es', clock', hr', h1, h2, h3⟩ := hrun
  unfold OpW skipS
  rw [run_bind_ok hr']
  exact fin es' clock' h1 h2 h3

theorem map_eraseIdx' {α β : Type} (f : α → β) : ∀ (l : List α) (i : Nat), (l.eraseIdx i).map f = (l.map f).eraseIdx i
  | [], _ => rfl
  | _ :: _, 0 => rfl
  | x :: l, i + 1 => by simp [map_eraseIdx' f l i]
/-- Taking out. -/
theorem opw_delete [DecidableEq κ] {t et ty : TypeId} {fl : Array Bool} {k : κ} {K : Value → World → Prop} (Ko : KeyOk P kt kf) (ht : P.underlying t = some (.map kt et)) (hA : AtF w M gs W) (ho : OwnM w M gs W r kf vf m) {t2 : TypeId}
    (h : ∀ w', AtF w M gs w' → Keeps gs W w' → Chg (fun b => b = r) W w' → OwnM w M gs w' r kf vf (mdel k m) → K (.tuple #[]) w') : OpW P (builtin .delete #[t, t2] ty fl #[.map (some r), kf k]) W K := by
  have hl := ho.lt
  obtain ⟨es, clock, hr, he, hn, hb⟩ := ho.obj
  have hrun : ∃ es', (Builtin.delete_ #[t, t2] ty #[.map (some r), kf k]).run P W = .ok (.tuple #[]) { W with heap := W.heap.setIfInBounds r (.map es' clock) } ∧ EntR kf vf es'.toList (mdel k m) ∧ (es'.toList.map (·.born)).Nodup ∧ (∀ e ∈ es'.toList, e.born < clock) := by
    unfold Builtin.delete_
    simp only [List.getElem?_toArray, List.getElem?_cons_zero, List.getElem?_cons_succ]
    rw [run_bind_ok (run_underlying ht W)]
    simp only
    rw [run_bind_ok (run_getObj_m hr)]
    simp only
    rw [run_bind_ok (Ko.chk es.isEmpty k W), run_bind_ok (findKey_run Ko k W he)]
    cases hm : midx k m with
    | none =>
      refine ⟨es, ?_, by rw [mdel_none hm]; exact he, hn, hb⟩
      simp only [Option.bind_none]
      rw [run_bind_ok (run_setObj_m hr _)]
      rfl
    | some j =>
      obtain ⟨v0, hv0⟩ := midx_key hm
      simp only [Option.bind_some, hv0, Option.map_some]
      refine ⟨es.eraseIdxIfInBounds j, by rw [run_bind_ok (run_setObj_m hr _)]; rfl, ?_, ?_, ?_⟩
      all_goals
        have hjl : j < es.size := by
          have := midx_lt hm
          have := EntR.len he
          simp at this
          omega
        have hel : (es.eraseIdxIfInBounds j).toList = es.toList.eraseIdx j := by
          simp [Array.eraseIdxIfInBounds, hjl]
      · rw [hel, mdel_at hm]
        unfold EntR at he ⊢
        rw [map_eraseIdx', he, map_eraseIdx']
      · rw [hel, map_eraseIdx']
        exact hn.sublist (List.eraseIdx_sublist ..)
      · intro e hem
        rw [hel] at hem
        exact hb e (List.mem_of_mem_eraseIdx hem)
  obtain ⟨es', hr', h1, h2, h3⟩ := hrun
  have hrun2 : (builtin .delete #[t, t2] ty fl #[.map (some r), kf k]).run P W = .ok (.value (.tuple #[])) { W with heap := W.heap.setIfInBounds r (.map es' clock) } := by
    show (do pure (Next.value (← Builtin.delete_ #[t, t2] ty #[.map (some r), kf k])) : Sem Next).run P W = _
    rw [run_bind_ok hr']
    rfl
  unfold OpW
  rw [hrun2]
  exact h _ (hA.setObjF ho.mine) (keeps_setObj ho.apart) chg_setObj ⟨ho.mine, ho.apart, es', clock, setObj_heap hl _, h1, h2, h3⟩
end
end Go.Vc

/- Keys of maps: integers, strings. -/
namespace Go.Vc
open Go Go.RowKit
theorem toList_eq (t s : ByteArray) : (t.toList == s.toList) = decide (t = s) := by
  by_cases h : t = s
  · subst h; simp
  · have : t.toList ≠ s.toList := fun e => h (by
      rw [ByteArray.toList_eq, ByteArray.toList_eq] at e
      have := Array.ext' e
      cases t; cases s
      simpa using this)
    simp [h, this]
theorem beq_ba (a b : ByteArray) : (a == b) = decide (a = b) := by rw [beq_toListBytes, toList_eq]
theorem keyOk_str {P : Program} {kt : TypeId} (h : P.underlying kt = some .string) : KeyOk P kt Value.string where
  eq := fun k k' => by unfold eqB; rw [h]; simp only; rw [beq_ba]
  now := fun d hd k k' b hb => by rw [h] at hd; cases hd; simp [Instr.sameNow] at hb; rw [← hb, beq_ba]
  chk := fun e k W => MapKept.run_checkKey (k := .string k) h trivial e 9999
  bits := fun k => by unfold Instr.sameBits; rw [beq_ba]; simp
  und := ⟨_, h⟩
theorem keyOk_int {P : Program} {kt : TypeId} {q : IntKind} (h : P.underlying kt = some (.int q)) : KeyOk P kt (Value.int q) where
  eq := fun k k' => by
    unfold eqB; rw [h]
    simp only [decide_true, cond_true, Option.some.injEq]
    rw [Bool.eq_iff_iff]; simp
  now := fun d hd k k' b hb => by
    rw [h] at hd; cases hd; simp [Instr.sameNow] at hb; rw [← hb, Bool.eq_iff_iff]; simp
  chk := fun e k W => MapKept.run_checkKey (k := .int q k) h (by unfold MapKept.IsKey; rfl) e 9999
  bits := fun k => by unfold Instr.sameBits; simp
  und := ⟨_, h⟩
end Go.Vc

/- Structs behind pointers: their fields read and stored; what an own row's block is. -/
namespace Go.Vc
open Go Go.RowKit

section
variable {P : Program} {M N : Nat → Prop} {w W W' : World} {gs : List Nat}

theorem elt_cells {g : Nat} {cells : List Value} {ty : TypeId} (h : W.heap[g]? = some (.cells cells.toArray ty (0, 0))) : Elt W ⟨g, 0, none⟩ cells := by
  intro j v hv
  rw [addr_add, cell_at (cells := cells) (ty := ty) (fr := (0, 0)) h, Nat.zero_add]
  exact hv
/-- A field read. -/
theorem rd_f0 {g : Nat} {v : Value} {r : List Value} {ty te : TypeId} {ds : List Nat} (h : W.heap[g]? = some (.cells (v :: r).toArray ty (0, 0))) (hagg : pureRun P (isAgg te) = some false) (hd : ∀ d ∈ ds, d ≠ g) : Reads P ds (Instr.loadAt te (.pointer (some ⟨g, 0, none⟩))) W v :=
  (elt_cells h).one hagg hd
theorem rd_f {g : Nat} (o : Nat) {v : Value} {r cs : List Value} {ty te : TypeId} {ds : List Nat} (h : W.heap[g]? = some (.cells cs.toArray ty (0, 0))) (hc : cs.drop (o + 1) = v :: r) (hagg : pureRun P (isAgg te) = some false) (hd : ∀ d ∈ ds, d ≠ g) : Reads P ds (Instr.loadAt te (.pointer (some (Addr.mk g (0 + (o + 1)) none)))) W v := by
  have := (elt_cells h).sub (o := o + 1) (by omega)
  rw [hc] at this
  exact this.one hagg hd

theorem opw_storeF {g off : Nat} {cells cells' : List Value} {ty te : TypeId} {v : Value} {K : Value → World → Prop} (hA : AtF w M gs W) (hg : W.heap[g]? = some (.cells cells.toArray ty (0, 0))) (hm : w.heap.size ≤ g ∨ M g) (hap : g ∉ gs) (hc : cellStore P te cells off v = some cells')
    (h : ∀ w', AtF w M gs w' → Keeps gs W w' → Chg (fun b => b = g) W w' → w'.heap[g]? = some (.cells cells'.toArray ty (0, 0)) → K undef w') : OpW P (skipS (Instr.storeAt te (.pointer (some ⟨g, off, none⟩)) v)) W K := by
  obtain ⟨W', hr, hg', hb, hs1, h2, h3, h4⟩ := run_cellStore (P := P) (t := te) hg hc
  have hch : Chg (fun b => b = g) W W' := ⟨h2, h3, h4, by omega, fun k _ hk => hb k hk, run_drawn hr⟩
  have hsk : (skipS (Instr.storeAt te (.pointer (some ⟨g, off, none⟩)) v)).run P W = .ok .skip W' := by
    unfold skipS
    rw [run_bind_ok hr]
    rfl
  unfold OpW
  rw [hsk]
  exact h W' (hA.step hch fun b _ hb => by subst hb; exact hm) (hA.keepsC hch fun x hx e => hap (by subst e; exact hx)) hch hg'

/-- A struct boxed: its block. -/
theorem opw_boxS {t : TypeId} {x : Value} {K : Value → World → Prop} (hA : AtF w M gs W) (h : ∀ g w', W.heap.size = g → AtF w M gs w' → Keeps gs W w' → Bel W w' → w'.heap[g]? = some (.cells x.cells t (0, 0)) → K (.pointer (some ⟨g, 0, none⟩)) w') : OpW P (valueS (Instr.box t x)) W K := by
  have hr : (Instr.box t x).run P W = .ok (.pointer (some ⟨W.heap.size, 0, none⟩)) (W.alloc (.cells x.cells t)) := rfl
  unfold OpW
  rw [run_valueS hr]
  exact h _ _ rfl (hA.call (below_alloc _)) (hA.keeps (below_alloc _)) (below_alloc _) (heap_alloc_new W _)

theorem OwnF.blk {α : Type} {e : TypeId} {size : Nat} {f : α → List Value} {v : Value} {l : List α} (h : OwnF w M gs W e size f v l) {k : Nat} (hk : v.ownBlock = some k) : ∃ cur, W.heap[k]? = some (.cells cur e (0, 0)) := by
  rcases h.row0.2 with ⟨hv, _⟩ | ⟨g, cap, cur, hv, _, hg, _⟩
  · rw [hv] at hk; cases hk
  · rw [hv] at hk
    cases hk
    exact ⟨cur, hg⟩
theorem cells_ne {j k : Nat} {c c' : Array Value} {e e' : TypeId} {fr fr' : Nat × Nat} (h : W.heap[j]? = some (.cells c e fr)) (h' : W.heap[k]? = some (.cells c' e' fr')) (hne : e ≠ e') : j ≠ k := fun hjk => by
  subst hjk
  rw [h] at h'
  cases h'
  exact hne rfl
theorem cells_map {j k : Nat} {c : Array Value} {e : TypeId} {fr : Nat × Nat} {es : Array MapEntry} {cl : Nat} (h : W.heap[j]? = some (.cells c e fr)) (h' : W.heap[k]? = some (.map es cl)) : j ≠ k := fun hjk => by
  subst hjk
  rw [h] at h'
  cases h'
end
end Go.Vc

/- A variable in a block of its own: made, then stored into. -/
namespace Go.Vc
open Go Go.RowKit
section
variable {P : Program} {w W : World} {M : Nat → Prop} {gs : List Nat}
theorem opw_allocS {t : TypeId} (zc : List Value) {zv : Value} {K : Value → World → Prop} (hz : pureRun P (zeroValue t) = some zv) (hc : zv.cells = zc.toArray) (hA : AtF w M gs W)
    (h : ∀ g w', W.heap.size = g → AtF w M gs w' → Keeps gs W w' → Bel W w' → w'.heap[g]? = some (.cells zc.toArray t (0, 0)) → K (.pointer (some ⟨g, 0, none⟩)) w') : OpW P (valueS (Instr.alloc t true (.tuple #[]))) W K := by
  unfold OpW
  rw [run_valueS (run_alloc hz)]
  refine h _ _ rfl (hA.call (below_alloc _)) (hA.keeps (below_alloc _)) (below_alloc _) ?_
  rw [heap_alloc_new, hc]
/-- Made, and stored into at once: a new block. -/
theorem opw_boxed {t te : TypeId} (zc cs : List Value) {zv v : Value} {K : Nat → World → Prop} (hz : pureRun P (zeroValue t) = some zv) (hc : zv.cells = zc.toArray) (hs : cellStore P te zc 0 v = some cs) (hA : AtF w M gs W)
    (h : ∀ g w', W.heap.size = g → AtF w M gs w' → Keeps gs W w' → Bel W w' → w'.heap[g]? = some (.cells cs.toArray t (0, 0)) → K g w') :
    OpW P (valueS (Instr.alloc t true (.tuple #[]))) W fun p w' => ∃ ad, p = .pointer (some ad) ∧ OpW P (skipS (Instr.storeAt te (.pointer (some ad)) v)) w' fun _ w'' => K ad.block w'' ∧ ad = ⟨ad.block, 0, none⟩ := by
  refine opw_allocS zc hz hc hA fun g w' hg hA' hk hb hblk => ⟨_, rfl, ?_⟩
  refine opw_storeF (w := W) (M := noB) (gs := gs) (cells := zc) ⟨Chg.of_below hb, hA'.under⟩ hblk (.inl (by omega)) (fun hx => ?_) hs fun w2 hA2 hk2 hch hb2 => ⟨?_, rfl⟩
  · have := hA.under g hx
    omega
  · have hbel : Bel W w2 := hA2.below
    exact h g w2 hg (hA.call hbel) (hA.keeps hbel) hbel hb2
end
end Go.Vc

/- quant, slot, vec.Right. -/
set_option maxRecDepth 20000
namespace Go.Vc.VD
open Go Go.Vc Go.Vc.V Go.RowKit Go.Proofs Vcx

/-! ### Amounts -/
def qgo (most : Int) : Int → List Int → Int × Bool
  | s, [] => (s, true)
  | s, n :: r => if n < 0 ∨ n > most - s then (0, false) else qgo most (s + n) r
def qsum (most : Int) (l : List Int) : Int × Bool := if most < 0 then (0, false) else qgo most 0 l
abbrev pairV (p : Int × Bool) : Value := .tuple #[.int .i64 p.1, .bool p.2]

theorem c59 {most : Int} {l : List Int} {a : Option Addr} {n c : Nat} (w : World) (hm : I64 most) (hs : SlE w 1 one l a n c) (hI : ∀ x ∈ l, I64 x) : Ret Tryd.prog 59 #[.int .i64 most, .slice a n c] w (pairV (qsum most l)) := by
  intro R h
  refine f59_calls most a n c w R ?_
  unfold f59_vc
  have hA := At.refl w
  have hlen := hs.len_le
  have hn := hlen.1
  subst hn
  refine brD (fun hneg => leaf h hA (by rw [qsum, if_pos hneg])) (fun hpos => ?_)
  rw [qsum, if_neg hpos] at h
  refine ⟨fun s W => At w [] W ∧ ∃ k : Nat, s.2.1 = k ∧ k ≤ l.length ∧ (0 ≤ s.1 ∧ s.1 ≤ most) ∧ qgo most s.1 (l.drop k) = qgo most 0 l, fun s _ => l.length - s.2.1.toNat, ⟨hA, 0, rfl, Nat.zero_le _, by show (0 : Int) ≤ 0 ∧ (0 : Int) ≤ most; omega, rfl⟩, ?_⟩
  intro s i W ⟨hA, k, hik, hk, hb, hg⟩
  simp only at hik hb hg
  subst hik
  refine brD (fun hlt => ?_) (fun hge => ?_)
  · obtain ⟨x, hx⟩ : ∃ x, l[k]? = some x := ⟨_, List.getElem?_eq_getElem (by omega)⟩
    have hIx := hI x (List.mem_of_getElem? hx)
    obtain ⟨ad, g1, r1⟩ := rd_one (te := 2) (ds := []) (k := .i64) (t := 57) (P := Tryd.prog) (e := 2) (hs.call hA.below) hx rfl (by kernel_rfl) (by kernel_rfl) (by kernel_rfl) (fun _ h => by cases h)
    rw [drop_cons hx, qgo] at hg
    refine ⟨_, g1, _, r1, ?_⟩
    rw [wrap_i64 (x := most - s) (by omega) (by omega), wrap_i64 (x := (k : Int) + 1) (by omega) (by omega)]
    refine brD (fun h1 => ?_) (fun h1 => brD (fun h2 => ?_) (fun h2 => ?_))
    · rw [if_pos (.inl h1)] at hg
      exact leaf h hA (by rw [← hg])
    · rw [if_pos (.inr h2)] at hg
      exact leaf h hA (by rw [← hg])
    · rw [if_neg (by omega)] at hg
      rw [wrap_i64 (x := s + x) (by omega) (by omega)]
      exact ⟨⟨hA, k + 1, rfl, by omega, by show (0 : Int) ≤ s + x ∧ s + x ≤ most; omega, hg⟩, by simp only; omega⟩
  · have hke : k = l.length := by omega
    subst hke
    rw [List.drop_length, qgo] at hg
    exact leaf h hA (by rw [← hg])

theorem c37 (n : Int) (w : World) : Ret Tryd.prog 37 #[.int .i64 n] w (.bool (decide (0 ≤ n ∧ n ≤ 9007199254740992))) := by
  intro R h
  refine f37_calls n w R ?_
  unfold f37_vc
  have hA := At.refl w
  refine brD (fun h1 => leaf h hA ?_) (fun h1 => leaf h hA ?_)
  · simp [h1]
  · simp only [ge_iff_le] at h1
    simp [h1]

theorem c40 (a b most : Int) (ha : I64 a) (hb : I64 b) (hm : I64 most) (w : World) : Ret Tryd.prog 40 #[.int .i64 a, .int .i64 b, .int .i64 most] w (pairV (qsum most [a, b])) := by
  intro R h
  refine f40_calls a b most w R ?_
  unfold f40_vc
  have hA := At.refl w
  refine opw_lit hA (e' := 2) (cs := [a, b].flatMap one) (by kernel_rfl) fun w' hA hk hbw hc hh => ⟨_, _, _, rfl, ?_⟩
  have ho : OwnL w [] w' 2 1 one (.slice (some ⟨w.heap.size, 0, none⟩) 2 2) [a, b] :=
    OwnL.of ⟨rfl, .inr ⟨_, 2, _, rfl, Nat.le_refl _, hh, Nat.le_refl _, by decide, rfl, rfl⟩⟩ (fun _ h => by cases h)
  refine at_call hA (c59 (l := [a, b]) _ hm (ho.sl (by simp)) (by simp; exact ⟨ha, hb⟩)) (fun _ hA hk => ⟨_, _, rfl, ?_⟩)
  exact leaf h hA rfl

/-- A difference of amounts. -/
def qsub (a b : Int) : Int × Bool := if b < 0 ∨ b > a then (0, false) else (a - b, true)
theorem c49 (a b : Int) (ha : I64 a) (w : World) : Ret Tryd.prog 49 #[.int .i64 a, .int .i64 b] w (pairV (qsub a b)) := by
  intro R h
  refine f49_calls a b w R ?_
  unfold f49_vc
  unfold qsub at h
  have hA := At.refl w
  refine brD (fun h1 => ?_) (fun h1 => brD (fun h2 => ?_) (fun h2 => ?_))
  · rw [if_pos (.inl h1)] at h; exact leaf h hA rfl
  · rw [if_pos (.inr h2)] at h; exact leaf h hA rfl
  · rw [if_neg (by omega)] at h
    rw [wrap_i64 (by omega) (by omega)]
    exact leaf h hA rfl
theorem qsum2 {a b : Int} (ha : 0 ≤ a ∧ a ≤ 9007199254740992) (hb : 0 ≤ b ∧ b ≤ 9007199254740992) : qsum 9007199254740992 [a, b] = if a + b ≤ 9007199254740992 then (a + b, true) else (0, false) := by
  unfold qsum
  rw [if_neg (by omega)]
  simp only [qgo]
  repeat' split
  all_goals first | omega | (congr 1; omega) | rfl | skip

/-! ### Slots -/
theorem c35 (k r : Int) (w : World) : Ret Tryd.prog 35 #[slotV k r] w (.bool (decide (slotR k r))) := by
  intro R h
  refine f35_calls k r w R ?_
  unfold f35_vc
  have hA := At.refl w
  refine go_n hA fun n1 h_n1 => ?_
  refine brD (fun h1 => brD (fun h2 => brD (fun h3 => ?_) (fun h3 => ?_)) (fun h2 => ?_)) (fun h1 => ?_)
  all_goals refine go_below hA fun _ hA => leaf h hA ?_
  · rw [show decide (slotR k r) = decide (r ≤ 32) from decide_eq_decide.2 ⟨fun hh => hh.2.2.2, fun hh => ⟨h1, h2, h3, hh⟩⟩]
  · rw [decide_eq_false (show ¬ slotR k r from fun hh => h3 hh.2.2.1)]
  · rw [decide_eq_false (show ¬ slotR k r from fun hh => h2 hh.2.1)]
  · rw [decide_eq_false (show ¬ slotR k r from fun hh => h1 hh.1)]

theorem c36 (a b c : Int) (w : World) : Ret Tryd.prog 36 #[.agg #[.int .i64 a, .int .i64 b, .int .i64 c]] w (slotV a b) := by
  intro R h
  refine f36_calls a b c w R ?_
  unfold f36_vc
  intro n1 h1 n2 h2 w' hev _
  exact h _ (Chg.below ((Chg.of_evo hev).mono fun b hb hm => by simp at hm; omega))

theorem c38 (a b c d : Int) (w : World) : Ret Tryd.prog 38 #[slotV a b, slotV c d] w (.int .i64 (slotC a b c d)) := by
  intro R h
  refine f38_calls a b c d w R ?_
  unfold f38_vc
  have hA := At.refl w
  refine go_n hA fun n1 h_n1 => ?_
  refine go_n hA fun n2 h_n2 => ?_
  refine ⟨fun he => go_below hA fun _ hA => leaf h hA ?_, fun hne => ?_⟩
  · simp at he
    rw [slotC, if_pos he]
  simp at hne
  refine brD (fun h1 => go_below hA fun _ hA => leaf h hA ?_) (fun h1 => brE (fun h2 => brD (fun h3 => go_below hA fun _ hA => leaf h hA ?_) (fun h3 => go_below hA fun _ hA => leaf h hA ?_)) (fun h2 => go_below hA fun _ hA => leaf h hA ?_))
  · rw [slotC, if_neg (by omega), if_pos (.inl h1)]
  · rw [slotC, if_neg (by omega), if_pos (.inr ⟨h2, h3⟩)]
  · rw [slotC, if_neg (fun hh => hne hh.1 hh.2), if_neg (by omega)]
  · rw [slotC, if_neg (fun hh => hne hh.1 hh.2), if_neg (by omega)]

theorem c61 (p q : PartT) (w : World) : Ret Tryd.prog 61 #[partV p, partV q] w (.int .i64 (slotC p.1 p.2.1 q.1 q.2.1)) := by
  intro R h
  refine f61_calls p.1 p.2.1 p.2.2 q.1 q.2.1 q.2.2 w R ?_
  unfold f61_vc
  intro n1 _ n2 _
  refine go_below (gs' := [n1, n2]) (At.refl w) fun w3 hA => ?_
  refine at_callb hA (c36 _ _ _ w3) fun w5 hA hk _ => ⟨_, _, rfl, hk, ?_⟩
  refine at_callb hA (c36 _ _ _ w5) fun w9 hA hk _ => ⟨_, _, rfl, hk, ?_⟩
  refine at_callb hA (c38 _ _ _ _ w9) fun w13 hA hk _ => ⟨_, rfl, hk, leaf h hA rfl⟩

/-! ### Right -/
theorem c11 {l : List PartT} {a : Option Addr} {n c : Nat} (w : World) (hs : SlE w 3 partE l a n c) : Ret Tryd.prog 11 #[.slice a n c] w (.bool (vecB l)) := by
  intro R h
  refine f11_calls a n c w R ?_
  unfold f11_vc
  have hA := At.refl w
  have hn := hs.1
  subst hn
  have hlen := hs.len_le.2
  have hat : ∀ {W : World} {gs : List Nat} {i : Nat} {x : PartT}, At w gs W → l[i]? = some x → ∃ ad, Gives Tryd.prog (Instr.indexAt 22 (.slice a l.length c) (.int .i64 (i : Int))) (.pointer (some ad)) ∧ Reads Tryd.prog [] (Instr.loadAt 46 (.pointer (some ad))) W (partV x) := fun hA hx =>
    rd_agg (f := partE) (hs.call hA.below) hx (e := 46) (by kernel_rfl) (by kernel_rfl) (by kernel_rfl) (by kernel_rfl) (fun _ h => by cases h)
  refine ⟨fun s W => At w [] W ∧ ∃ k : Nat, s.1 = k ∧ k ≤ l.length ∧ vok (if k = 0 then none else l[k - 1]?) (l.drop k) = vecB l, fun s _ => l.length - s.1.toNat, ⟨hA, 0, rfl, Nat.zero_le _, rfl⟩, ?_⟩
  intro i W ⟨hA, k, hi, hk, hv⟩
  simp only at hi
  subst hi
  refine brD (fun hlt => ?_) (fun hge => ?_)
  · obtain ⟨p, hp⟩ : ∃ x, l[k]? = some x := ⟨_, List.getElem?_eq_getElem (by omega)⟩
    obtain ⟨ad, g1, r1⟩ := hat hA hp
    rw [vok_step hp] at hv
    have e1 : IntKind.i64.wrap ((k : Int) + 1) = ((k + 1 : Nat) : Int) := by rw [wrap_i64 (by omega) (by omega)]; rfl
    rw [e1]
    refine ⟨_, g1, _, _, _, r1, ?_⟩
    refine go_n hA fun n9 h_n9 => ?_
    refine go_evo hA (by intro d hd; simp at hd; omega) fun _ hA => ?_
    refine at_call hA (c36 _ _ _ _) (fun _ hA hk => ?_)
    refine ⟨_, _, rfl, hk, ?_⟩
    refine at_call hA (c35 _ _ _) (fun _ hA hk => ?_)
    refine ⟨_, rfl, hk, ?_⟩
    have next : (∀ W', At w [n9] W' → decide (partR p) = true → okB (if k = 0 then none else l[k - 1]?) p = true → (At w [] W' ∧ ∃ k' : Nat, ((k + 1 : Nat) : Int) = k' ∧ k' ≤ l.length ∧ vok (if k' = 0 then none else l[k' - 1]?) (l.drop k') = vecB l) ∧ l.length - ((k + 1 : Nat) : Int).toNat < l.length - (k : Int).toNat) := by
      intro W' hA h1 h2
      rw [h1, h2] at hv
      refine ⟨⟨hA.off, k + 1, rfl, by omega, ?_⟩, by omega⟩
      rw [if_neg (by omega), show k + 1 - 1 = k by omega, hp]
      simpa using hv
    refine brND (fun h1 => ?_) (fun h1 => brD (fun h2 => ?_) (fun h2 => ?_))
    · refine leaf h hA ?_
      rw [← hv, decide_eq_false (show ¬ partR p from fun hh => h1 hh.1)]
      rfl
    · refine leaf h hA ?_
      rw [← hv, decide_eq_false (show ¬ partR p from fun hh => by have := hh.2.1; omega)]
      rfl
    refine at_call hA (c37 _ _) (fun _ hA hk => ?_)
    refine ⟨_, rfl, hk, ?_⟩
    refine brND (fun h3 => leaf h hA ?_) (fun h3 => ?_)
    · rw [← hv, decide_eq_false (show ¬ partR p from fun hh => by have := hh.2; omega)]
      rfl
    have hR : partR p := ⟨h1, by omega, h3.2⟩
    refine brD (fun h4 => ?_) (fun h4 => ?_)
    · obtain ⟨q, hq⟩ : ∃ x, l[k - 1]? = some x := ⟨_, List.getElem?_eq_getElem (by omega)⟩
      obtain ⟨ad2, g2, r2⟩ := hat hA hq
      have e2 : IntKind.i64.wrap ((k : Int) - 1) = ((k - 1 : Nat) : Int) := by rw [wrap_i64 (by omega) (by omega)]; omega
      rw [e2]
      refine ⟨_, g2, _, _, _, r2, ?_⟩
      refine at_call hA (c36 _ _ _ _) (fun _ hA hk => ?_)
      refine ⟨_, _, rfl, hk, ?_⟩
      refine at_call hA (c36 _ _ _ _) (fun _ hA hk => ?_)
      refine ⟨_, _, rfl, hk, ?_⟩
      refine at_call hA (c38 _ _ _ _ _) (fun _ hA hk => ?_)
      refine ⟨_, rfl, hk, ?_⟩
      rw [if_neg (show ¬ k = 0 by omega), hq] at hv next
      refine brD (fun h5 => leaf h hA ?_) (fun h5 => next _ hA (by simpa using hR) (by rw [slotC_ge] at h5; simpa [okB] using h5))
      rw [slotC_ge] at h5
      rw [← hv]
      simp [okB, h5]
    · have h0 : k = 0 := by omega
      rw [if_pos h0] at next
      exact next _ hA (by simpa using hR) rfl
  · have hke : k = l.length := by omega
    subst hke
    rw [List.drop_length] at hv
    exact leaf h hA (by rw [← hv, vok_nil])
end Go.Vc.VD

/- Copying all elements of a slice into an own one; a map made with a hint. -/
namespace Go.Vc
open Go Go.RowKit

section
variable {α : Type} {P : Program} {w W : World} {M : Nat → Prop} {gs : List Nat} {e : TypeId} {size : Nat} {f : α → List Value} {l l0 : List α} {t ty : TypeId} {fl : Array Bool} {bytes : Nat}

theorem SlE_cells {ad : Addr} {n c : Nat} (hs : SlE W size f l (some ad) n c) (hf : ∀ x ∈ l, (f x).length = size) : ∀ j u, (l.flatMap f)[j]? = some u → W.cell? (ad.add j) = some u := by
  intro j u hu
  have hj := (List.getElem?_eq_some_iff.1 hu).1
  rw [flatMap_len hf] at hj
  have hsz : 0 < size := by
    rcases Nat.eq_zero_or_pos size with h | h
    · subst h; omega
    · exact h
  have hi : j / size < l.length := Nat.div_lt_of_lt_mul (by rw [Nat.mul_comm]; exact hj)
  obtain ⟨ad', cs, hae, hcl, hcs, hcf⟩ := hs.at_ (List.getElem?_eq_getElem hi)
  cases hae
  subst hcf
  have hp := flatMap_part hf (List.getElem?_eq_getElem hi)
  have hm : j % size < size := Nat.mod_lt _ hsz
  have hdm : j / size * size + j % size = j := by rw [Nat.mul_comm]; exact Nat.div_add_mod j size
  have hv : (f l[j / size])[j % size]? = some u := by
    rw [← hp, List.getElem?_take, if_pos hm, List.getElem?_drop, hdm]
    exact hu
  have := hcs _ _ hv
  rw [add_add, hdm] at this
  exact this

theorem chg_setRow {g : Nat} {cs : Array Value} : Chg (fun b => b = g) W (W.setRow g cs) := by
  refine ⟨rfl, rfl, rfl, ?_, fun b _ hb => ?_, Nat.le_refl _⟩
  · simp [World.setRow]
  · simp [World.setRow, Array.getElem?_modify, Ne.symm hb]

theorem opw_copyAll {d : Option Addr} {n c n' c' : Nat} {a : Option Addr} (he : elemB P t e size bytes = true) (hA : AtF w M gs W) (ho : OwnF w M gs W e size f (.slice d n c) l0) (hs : SlE W size f l a n' c') (hl : l.length = l0.length) (hf : ∀ x ∈ l, (f x).length = size) (hf0 : ∀ x ∈ l0, (f x).length = size) (h1 : ∀ x ∈ l, ∀ u ∈ f x, u.oneCell' = true) {K : Value → World → Prop}
    (h : ∀ w', AtF w M gs w' → Keeps gs W w' → Chg (fun b => (Value.slice d n c).ownBlock = some b) W w' → OwnF w M gs w' e size f (.slice d n c) l → K (goInt l.length) w') :
    OpW P (builtin .copy #[t, t] ty fl #[.slice d n c, .slice a n' c']) W K := by
  obtain ⟨i, z, ok⟩ := elemB_ok he
  have hn := ho.len
  have hn' := hs.1
  subst hn hn'
  have hsz : ∀ W : World, (sizeOf e).run P W = .ok size W := fun W => by simp [sizeOf, typeInfo, ok.hi, ok.hsize]
  rcases ho.row0.2 with ⟨hv, h0⟩ | ⟨g, cap, cur, hv, _, hg, hnc, hcm, hcs, htk⟩
  · obtain ⟨rfl, hn0, rfl⟩ := Value.slice.inj hv
    have e1 : l0 = [] := List.eq_nil_of_length_eq_zero h0
    have e2 : l = [] := List.eq_nil_of_length_eq_zero (by omega)
    subst e1 e2
    have hr : (Builtin.copy_ #[t, t] ty #[.slice none 0 0, .slice a 0 c']).run P W = .ok (goInt 0) W := by
      unfold Builtin.copy_
      simp only [List.getElem?_toArray, List.getElem?_cons_zero, List.getElem?_cons_succ]
      rw [run_bind_ok (run_underlying ok.ht W)]
      simp only [Builtin.lenOf, pure_bind]
      rw [run_bind_ok (hsz W)]
      cases a with
      | none => rfl
      | some ad =>
        have this : (loadCells ad 0).run P W = .ok #[] W := run_loadCells_list (P := P) W ad [] (fun j v hv => by simp at hv)
        simp only [Builtin.firstCells, Nat.min_self, Nat.zero_mul]
        rw [run_bind_ok this]
        rfl
    have hrun : (builtin .copy #[t, t] ty fl #[.slice none 0 0, .slice a 0 c']).run P W = .ok (.value (goInt 0)) W := by
      show (do pure (Next.value (← Builtin.copy_ #[t, t] ty #[.slice none 0 0, .slice a 0 c'])) : Sem Next).run P W = _
      rw [run_bind_ok hr]
      rfl
    unfold OpW
    simp only [List.length_nil] at *
    rw [hrun]
    exact h W hA (fun _ _ => rfl) (Chg.refl _ _) ho
  · obtain ⟨rfl, _, rfl⟩ := Value.slice.inj hv
    have hlen : (l.flatMap f).length = l.length * size := flatMap_len hf
    have hone : ∀ u ∈ l.flatMap f, u.oneCell' = true := fun u hu => by
      obtain ⟨x, hx, hxu⟩ := List.mem_flatMap.1 hu
      exact h1 x hx u hxu
    have hfit : (l.flatMap f).length ≤ cur.size := by
      rw [hlen, hcs, hl]
      exact Nat.mul_le_mul_right _ hnc
    have hst := run_storeCells_at P g 0 e (l.flatMap f) 0 cur W hg (by simpa using hfit) hone
    simp only [Nat.zero_add] at hst
    have hr : (Builtin.copy_ #[t, t] ty #[.slice (some ⟨g, 0, none⟩) l0.length c, .slice a l.length c']).run P W = .ok (goInt l.length) (W.setRow g (cur.toList.take 0 ++ l.flatMap f ++ cur.toList.drop (l.flatMap f).length).toArray) := by
      unfold Builtin.copy_
      simp only [List.getElem?_toArray, List.getElem?_cons_zero, List.getElem?_cons_succ]
      rw [run_bind_ok (run_underlying ok.ht W)]
      simp only [Builtin.lenOf, pure_bind]
      rw [run_bind_ok (hsz W)]
      have hmin : Nat.min l.length l0.length = l.length := by rw [hl]; exact Nat.min_self _
      rw [hmin]
      have hld : (Builtin.firstCells size l.length (.slice a l.length c')).run P W = .ok (l.flatMap f).toArray W := by
        cases a with
        | none =>
          have hc0 := hs.2.2.2.1 rfl
          have : l = [] := List.eq_nil_of_length_eq_zero (by have := hs.2.1; omega)
          subst this
          rfl
        | some ad =>
          have := run_loadCells_list (P := P) W ad (l.flatMap f) (SlE_cells hs hf)
          rw [hlen] at this
          exact this
      rw [run_bind_ok hld]
      simp only
      rw [run_bind_ok hst]
      rfl
    have hrun : (builtin .copy #[t, t] ty fl #[.slice (some ⟨g, 0, none⟩) l0.length c, .slice a l.length c']).run P W = .ok (.value (goInt l.length)) (W.setRow g (cur.toList.take 0 ++ l.flatMap f ++ cur.toList.drop (l.flatMap f).length).toArray) := by
      show (do pure (Next.value (← Builtin.copy_ #[t, t] ty #[.slice (some ⟨g, 0, none⟩) l0.length c, .slice a l.length c'])) : Sem Next).run P W = _
      rw [run_bind_ok hr]
      rfl
    unfold OpW
    rw [hrun]
    have hch : Chg (fun b => (Value.slice (some ⟨g, 0, none⟩) l0.length c).ownBlock = some b) W (W.setRow g (cur.toList.take 0 ++ l.flatMap f ++ cur.toList.drop (l.flatMap f).length).toArray) := chg_setRow.mono fun b _ hb => by subst hb; rfl
    refine h _ (hA.step hch fun b _ hb => ho.mine b hb) (hA.keepsC hch fun x hx hb => ho.apart x hx hb) hch ⟨?_, ho.mine, ho.apart⟩
    refine ⟨hlen, .inr ⟨g, c, _, by rw [hl], Nat.zero_le _, setRow_heap W g cur _ e (0, 0) hg, by omega, hcm, ?_, ?_⟩⟩
    · simp only [List.take_zero, List.nil_append, List.size_toArray, List.length_append, List.length_drop, Array.length_toList]
      omega
    · simp only [List.take_zero, List.nil_append]
      rw [← hlen, List.take_left]
end

theorem opw_makeMapR {κ α : Type} {P : Program} {w W : World} {M : Nat → Prop} {gs : List Nat} {kf : κ → Value} {vf : α → Value} {t kt et : TypeId} {k : IntKind} {x : Int} {K : Value → World → Prop} (ht : P.underlying t = some (.map kt et)) (hA : AtF w M gs W) (h : ∀ g w', W.heap.size = g → AtF w M gs w' → Keeps gs W w' → Bel W w' → OwnM w M gs w' g kf vf ([] : List (κ × α)) → K (.map (some g)) w') : OpW P (valueS (Instr.makeMap t (some (.int k x)))) W K := by
  have hr : (Instr.makeMap t (some (.int k x))).run P W = .ok (.map (some W.heap.size)) (W.alloc (.map #[] 0)) := by
    unfold Instr.makeMap
    simp only
    rw [run_bind_ok (run_underlying ht W)]
    rfl
  unfold OpW
  rw [run_valueS hr]
  refine h _ _ rfl (hA.call (below_alloc _)) (hA.keeps (below_alloc _)) (below_alloc _) ⟨.inl hA.size, fun hm => ?_, #[], 0, heap_alloc_new W _, rfl, by simp, fun e he => by simp at he⟩
  have := hA.under _ hm
  omega
end Go.Vc

/- A map's entry made, then filled: two steps that are a set. -/
namespace Go.Vc
open Go Go.RowKit

section
variable {κ α : Type} {P : Program} {w W : World} {M : Nat → Prop} {gs : List Nat} {r : Nat} {kt : TypeId} {kf : κ → Value} {vf : α → Value} {m : List (κ × α)}

/-- An own map with an entry that is to be filled. -/
structure OwnE (w : World) (M : Nat → Prop) (gs : List Nat) (W : World) (r : Nat) (kf : κ → Value) (vf : α → Value) (m : List (κ × α)) (j : Nat) (k : κ) (stamp : Nat) : Prop where
  mine : w.heap.size ≤ r ∨ M r
  apart : r ∉ gs
  obj : ∃ (es : Array MapEntry) (clock : Nat), W.heap[r]? = some (.map es clock) ∧ EntR kf vf es.toList m ∧ (es.toList.map (·.born)).Nodup ∧ (∀ e ∈ es.toList, e.born < clock) ∧ ∃ e, es[j]? = some e ∧ e.born = stamp
  key : ∃ v, m[j]? = some (k, v)
theorem OwnE.lt {j : Nat} {k : κ} {stamp : Nat} (h : OwnE w M gs W r kf vf m j k stamp) : r < W.heap.size := by
  obtain ⟨es, clock, hr, _⟩ := h.obj
  exact (Array.getElem?_eq_some_iff.1 hr).1

theorem opw_mapEntry [DecidableEq κ] {t et : TypeId} {k : κ} {z : α} {K : Value → World → Prop} (Ko : KeyOk P kt kf) (ht : P.underlying t = some (.map kt et)) (hz : pureRun P (zeroValue et) = some (vf z)) (hA : AtF w M gs W) (ho : OwnM w M gs W r kf vf m)
    (h : ∀ w' m1 j v0 stamp, AtF w M gs w' → Keeps gs W w' → Chg (fun b => b = r) W w' → OwnE w M gs w' r kf vf m1 j k stamp → (∀ v, m1.set j (k, v) = mset k v m) → K (.tuple #[vf v0, .int .i64 (stamp : Int)]) w') : OpW P (valueS (Instr.mapEntry t (.map (some r)) (kf k))) W K := by
  have hl := ho.lt
  obtain ⟨es, clock, hr, he, hn, hb⟩ := ho.obj
  unfold OpW
  cases hm : midx k m with
  | none =>
    have hrun : (Instr.mapEntry t (.map (some r)) (kf k)).run P W = .ok (.tuple #[vf z, .int .i64 (clock : Int)]) { W with heap := W.heap.setIfInBounds r (.map (es.push { key := kf k, val := vf z, born := clock }) (clock + 1)) } := by
      unfold Instr.mapEntry
      rw [run_bind_ok (run_underlying ht W)]
      simp only
      rw [run_bind_ok (run_getObj_m hr)]
      simp only
      rw [run_bind_ok (Ko.chk false k W), run_bind_ok (findKey_run Ko k W he), hm]
      simp only [Option.bind_none]
      rw [run_bind_ok (pureRun_run hz W), run_bind_ok (run_setObj_m hr _)]
      rfl
    rw [run_valueS hrun]
    have hlen := EntR.len he
    refine h _ (m ++ [(k, z)]) m.length z clock (hA.setObjF ho.mine) (keeps_setObj ho.apart) chg_setObj ⟨ho.mine, ho.apart, ⟨_, _, setObj_heap hl _, ?_, ?_, ?_, ⟨{ key := kf k, val := vf z, born := clock }, ?_, rfl⟩⟩, ⟨z, by simp⟩⟩ fun v => by rw [mset_new hm]; simp
    · rw [Array.toList_push]
      unfold EntR at he ⊢
      rw [List.map_append, List.map_append, he]
      rfl
    · rw [Array.toList_push, List.map_append]
      refine List.nodup_append.2 ⟨hn, by simp, fun a ha b hb' => ?_⟩
      simp at hb'
      obtain ⟨e, hem, rfl⟩ := List.mem_map.1 ha
      have := hb e hem
      omega
    · intro e hem
      rw [Array.toList_push] at hem
      rcases List.mem_append.1 hem with h1 | h1
      · have := hb e h1; omega
      · simp at h1; subst h1; simp
    · rw [← hlen, Array.length_toList]; simp
  | some j =>
    obtain ⟨v0, hv0⟩ := midx_key hm
    obtain ⟨e0, he0, hk0, hv00⟩ := EntR.at_ he hv0
    have he0' : es[j]? = some e0 := by simpa using he0
    have hks : (Instr.keyThatStays (kf k) (kf k)).run P W = .ok (kf k) W := by
      unfold Instr.keyThatStays
      rw [if_pos (Ko.bits k)]
      rfl
    have hrun : (Instr.mapEntry t (.map (some r)) (kf k)).run P W = .ok (.tuple #[vf v0, .int .i64 (e0.born : Int)]) { W with heap := W.heap.setIfInBounds r (.map (es.modify j fun e => { e with key := kf k }) clock) } := by
      unfold Instr.mapEntry
      rw [run_bind_ok (run_underlying ht W)]
      simp only
      rw [run_bind_ok (run_getObj_m hr)]
      simp only
      rw [run_bind_ok (Ko.chk false k W), run_bind_ok (findKey_run Ko k W he), hm]
      simp only [Option.bind_some, hv0, Option.map_some, he0', Option.getD_some, hk0]
      rw [run_bind_ok hks, run_bind_ok (run_setObj_m hr _)]
      rfl
    have hmod : es.modify j (fun e => { e with key := kf k }) = es := by
      apply Array.ext_getElem?
      intro i
      rw [Array.getElem?_modify]
      split
      · rename_i hij
        subst hij
        rw [he0']
        simp only [Option.map_some, Option.some.injEq]
        rw [← hk0]
      · rfl
    rw [run_valueS hrun, hmod]
    exact h _ m j v0 e0.born (hA.setObjF ho.mine) (keeps_setObj ho.apart) chg_setObj ⟨ho.mine, ho.apart, ⟨_, _, setObj_heap hl _, he, hn, hb, ⟨e0, he0', rfl⟩⟩, ⟨v0, hv0⟩⟩ fun v => (mset_at hm).symm

theorem opw_entryStore {t : TypeId} {k : κ} {j stamp : Nat} {v : α} {K : Value → World → Prop} (hA : AtF w M gs W) (ho : OwnE w M gs W r kf vf m j k stamp)
    (h : ∀ w', AtF w M gs w' → Keeps gs W w' → Chg (fun b => b = r) W w' → OwnM w M gs w' r kf vf (m.set j (k, v)) → K undef w') : OpW P (skipS (Instr.entryStore t (.map (some r)) (.int .i64 (stamp : Int)) (vf v))) W K := by
  have hl := ho.lt
  obtain ⟨es, clock, hr, he, hn, hb, e0, he0, hst⟩ := ho.obj
  obtain ⟨v0, hv0⟩ := ho.key
  obtain ⟨e1, he1, hk1, _⟩ := EntR.at_ he hv0
  have he1' : es[j]? = some e1 := by simpa using he1
  rw [he0] at he1'
  cases he1'
  have hjl := (Array.getElem?_eq_some_iff.1 he0).1
  have hfind : es.findIdx? (fun e => (e.born : Int) == (stamp : Int)) = some j := by
    rw [Array.findIdx?_eq_some_iff_getElem]
    refine ⟨hjl, ?_, fun q hq => ?_⟩
    · have := (Array.getElem?_eq_some_iff.1 he0).2
      simp [this, hst]
    · have hql : q < es.size := by omega
      have h2 : (es.toList.map (·.born))[q]'(by simpa using hql) ≠ (es.toList.map (·.born))[j]'(by simpa using hjl) := (List.pairwise_iff_getElem.1 hn) q j (by simpa using hql) (by simpa using hjl) hq
      have h3 := (Array.getElem?_eq_some_iff.1 he0).2
      simp only [List.getElem_map, Array.getElem_toList, h3, hst] at h2
      simp only [beq_iff_eq]
      intro e
      exact h2 (by omega)
  have hrun : (Instr.entryStore t (.map (some r)) (.int .i64 (stamp : Int)) (vf v)).run P W = .ok () { W with heap := W.heap.setIfInBounds r (.map (es.modify j fun e => { e with val := vf v }) clock) } := by
    unfold Instr.entryStore
    simp only
    rw [run_bind_ok (run_getObj_m hr)]
    simp only
    have hi : (asInt (.int .i64 (stamp : Int))).run P W = .ok (stamp : Int) W := rfl
    rw [run_bind_ok hi]
    simp only [hfind]
    exact run_setObj_m hr _
  unfold OpW skipS
  rw [run_bind_ok hrun]
  refine h _ (hA.setObjF ho.mine) (keeps_setObj ho.apart) chg_setObj ⟨ho.mine, ho.apart, _, clock, setObj_heap hl _, ?_, ?_, ?_⟩
  · unfold EntR at he ⊢
    rw [List.map_set, ← he]
    apply List.ext_getElem?
    intro i
    simp only [List.getElem?_map, Array.getElem?_toList, Array.getElem?_modify, List.getElem?_set, List.length_map, Array.length_toList]
    by_cases hij : j = i
    · subst hij
      have h3 := (Array.getElem?_eq_some_iff.1 he0).2
      simp [hjl, h3, hk1]
    · simp [hij]
  · have : (es.modify j fun e => { e with val := vf v }).toList.map (·.born) = es.toList.map (·.born) := by
      apply List.ext_getElem?
      intro i
      simp only [List.getElem?_map, Array.getElem?_toList, Array.getElem?_modify]
      by_cases hij : j = i
      · subst hij; simp [he0]
      · simp [hij]
    rw [this]
    exact hn
  · intro e hem
    obtain ⟨i, hi⟩ := List.mem_iff_getElem?.1 hem
    simp only [Array.getElem?_toList, Array.getElem?_modify] at hi
    by_cases hij : j = i
    · subst hij
      simp [he0] at hi
      subst hi
      exact hb e0 (List.mem_of_getElem? (i := j) (by simpa using he0))
    · simp [hij] at hi
      exact hb e (List.mem_of_getElem? (i := i) (by simpa using hi))
end
end Go.Vc

/- A range over a map: its iterator, the next round, the entry. -/
namespace Go.Vc
open Go Go.RowKit

theorem EntR_split {κ α : Type} {kf : κ → Value} {vf : α → Value} {A B : List MapEntry} {e : MapEntry} {rest : List (κ × α)} (h : EntR kf vf (A ++ e :: B) rest) :
    ∃ r1 x r2, rest = r1 ++ x :: r2 ∧ EntR kf vf (A ++ B) (r1 ++ r2) ∧ e.key = kf x.1 ∧ e.val = vf x.2 := by
  unfold EntR at h
  rw [List.map_append, List.map_cons] at h
  obtain ⟨r1, r', rfl, h1, h2⟩ := List.map_eq_append_iff.1 h.symm
  obtain ⟨x, r2, rfl, h3, h4⟩ := List.map_eq_cons_iff.1 h2
  refine ⟨r1, x, r2, rfl, ?_, (Prod.mk.inj h3).1.symm, (Prod.mk.inj h3).2.symm⟩
  unfold EntR
  rw [List.map_append, List.map_append, h1, h4]

theorem leftOf_push {es : Array MapEntry} {seen : Array Nat} {A B : List MapEntry} {e : MapEntry} (hn : (es.toList.map (·.born)).Nodup) (h : (leftOf es seen).toList = A ++ e :: B) :
    (leftOf es (seen.push e.born)).toList = A ++ B := by
  have h1 : (leftOf es (seen.push e.born)).toList = ((leftOf es seen).toList).filter (fun x => x.born != e.born) := by
    unfold leftOf
    rw [Array.toList_filter, Array.toList_filter, List.filter_filter]
    congr 1
    funext x
    by_cases hx : x.born = e.born
    · simp [hx]
    · simp [hx]
  have h2 : ((A ++ e :: B).map (·.born)).Nodup := by
    rw [← h]
    unfold leftOf
    rw [Array.toList_filter]
    exact hn.sublist (List.filter_sublist.map _)
  rw [h1, h, List.filter_append, List.filter_cons]
  rw [List.map_append, List.map_cons, List.nodup_append] at h2
  obtain ⟨h3, h4, h5⟩ := h2
  rw [List.nodup_cons] at h4
  have eA : A.filter (fun x => x.born != e.born) = A := List.filter_eq_self.2 fun x hx => by
    have := h5 x.born (List.mem_map.2 ⟨x, hx, rfl⟩) e.born (List.mem_cons_self ..)
    simpa using this
  have eB : B.filter (fun x => x.born != e.born) = B := List.filter_eq_self.2 fun x hx => by
    have : x.born ≠ e.born := fun he => h4.1 (he ▸ List.mem_map.2 ⟨x, hx, rfl⟩)
    simpa using this
  rw [eA, eB]
  simp

section
variable {κ α : Type} {P : Program} {w W W' : World} {M N : Nat → Prop} {gs gs' ds : List Nat} {q r : Nat} {kf : κ → Value} {vf : α → Value} {m rest : List (κ × α)} {cur : Option (κ × α)}

/-- An iterator over a map: what is left to come, and the entry at hand. -/
structure Itr (w : World) (M : Nat → Prop) (gs : List Nat) (W : World) (q r : Nat) (kf : κ → Value) (vf : α → Value) (m rest : List (κ × α)) (cur : Option (κ × α)) : Prop where
  mine : w.heap.size ≤ q ∨ M q
  apart : q ∉ gs
  obj : ∃ (es : Array MapEntry) (clock since c0 : Nat) (seen : Array Nat), W.heap[r]? = some (.map es clock) ∧ EntR kf vf es.toList m ∧ (es.toList.map (·.born)).Nodup ∧ (∀ e ∈ es.toList, e.born < clock) ∧
    W.heap[q]? = some (.mapIter (some r) since seen c0) ∧ (∀ e ∈ es.toList, e.born < since) ∧ since ≤ c0 ∧ since ≤ clock ∧ EntR kf vf (leftOf es seen).toList rest ∧
    (∀ x, cur = some x → c0 = clock ∧ ∃ e ∈ es.toList, seen.back? = some e.born ∧ e.key = kf x.1 ∧ e.val = vf x.2)

theorem Itr.lts (h : Itr w M gs W q r kf vf m rest cur) : q < W.heap.size ∧ r < W.heap.size ∧ q ≠ r := by
  obtain ⟨es, clock, since, c0, seen, h1, _, _, _, h2, _⟩ := h.obj
  refine ⟨(Array.getElem?_eq_some_iff.1 h2).1, (Array.getElem?_eq_some_iff.1 h1).1, fun e => ?_⟩
  subst e
  rw [h1] at h2
  cases h2
theorem Itr.keep (h : Itr w M gs W q r kf vf m rest cur) (hq : W'.heap[q]? = W.heap[q]?) (hr : W'.heap[r]? = W.heap[r]?) : Itr w M gs W' q r kf vf m rest cur := by
  obtain ⟨es, clock, since, c0, seen, h1, h2, h3, h4, h5, h6⟩ := h.obj
  exact ⟨h.mine, h.apart, es, clock, since, c0, seen, by rw [hr]; exact h1, h2, h3, h4, by rw [hq]; exact h5, h6⟩
theorem Itr.chg (h : Itr w M gs W q r kf vf m rest cur) (hc : Chg N W W') (hq : ¬ N q) (hr : ¬ N r) : Itr w M gs W' q r kf vf m rest cur :=
  h.keep (hc.block q h.lts.1 hq) (hc.block r h.lts.2.1 hr)
theorem Itr.call (h : Itr w M gs W q r kf vf m rest cur) (hb : Bel W W') : Itr w M gs W' q r kf vf m rest cur := h.keep (hb.block h.lts.1) (hb.block h.lts.2.1)
theorem Itr.more (h : Itr w M gs W q r kf vf m rest cur) (hg : ∀ g ∈ gs', g ∉ gs → W.heap.size ≤ g) : Itr w M gs' W q r kf vf m rest cur :=
  ⟨h.mine, fun hr => by
    by_cases hk : q ∈ gs
    · exact h.apart hk
    · have := hg q hr hk
      have := h.lts.1
      omega, h.obj⟩
theorem Itr.evo (h : Itr w M gs W q r kf vf m rest cur) (hd : ∀ d ∈ ds, d ≠ q ∧ d ≠ r) (hb : Evo ds W W') : Itr w M gs W' q r kf vf m rest cur :=
  h.chg (Chg.of_evo hb) (fun hm => (hd q hm).1 rfl) (fun hm => (hd r hm).2 rfl)
theorem Itr.ownM (h : Itr w M gs W q r kf vf m rest cur) {w0 : World} {M0 : Nat → Prop} {gs0 : List Nat} (hm : w0.heap.size ≤ r ∨ M0 r) (ha : r ∉ gs0) : OwnM w0 M0 gs0 W r kf vf m := by
  obtain ⟨es, clock, since, c0, seen, h1, h2, h3, h4, _⟩ := h.obj
  exact ⟨hm, ha, es, clock, h1, h2, h3, h4⟩

/-- How many entries are left to come. -/
def itLeft (W : World) (q r : Nat) : Nat := match W.heap[q]?, W.heap[r]? with
  | some (.mapIter _ _ seen _), some (.map es _) => (leftOf es seen).size
  | _, _ => 0
theorem Itr.left (h : Itr w M gs W q r kf vf m rest cur) : itLeft W q r = rest.length := by
  obtain ⟨es, clock, since, c0, seen, h1, h2, h3, h4, h5, _, _, _, h6, _⟩ := h.obj
  unfold itLeft
  rw [h1, h5]
  simp only
  have := congrArg List.length h6
  simpa using this
theorem Itr.base {w' : World} {M' : Nat → Prop} (h : Itr w M gs W q r kf vf m rest cur) (hm : w'.heap.size ≤ q ∨ M' q) (ha : q ∉ gs') : Itr w' M' gs' W q r kf vf m rest cur := ⟨hm, ha, h.obj⟩
theorem Evo.bel (h : Evo ds W W') (hd : ∀ d ∈ ds, W.heap.size ≤ d) : Bel W W' := ⟨⟨h.os, h.tape, h.output, h.size, fun b hb => h.block b hb fun hm => by have := hd b hm; omega⟩, h.drawn⟩

theorem opw_range {t kt et : TypeId} {w0 : World} {M0 : Nat → Prop} {gs0 : List Nat} {K : Value → World → Prop} (ht : P.underlying t = some (.map kt et)) (hA : AtF w M gs W) (ho : OwnM w0 M0 gs0 W r kf vf m)
    (h : ∀ q w', W.heap.size = q → AtF w M gs w' → Keeps gs W w' → Bel W w' → Itr w M gs w' q r kf vf m m none → K (.pointer (some ⟨q, 0, none⟩)) w') : OpW P (valueS (Instr.range t (.map (some r)))) W K := by
  have hl := ho.lt
  obtain ⟨es, clock, hr, he, hn, hb⟩ := ho.obj
  unfold OpW
  rw [run_valueS (run_range_map (P := P) W t kt et r es clock ht hr)]
  refine h _ _ rfl (hA.call (below_alloc _)) (hA.keeps (below_alloc _)) (below_alloc _) ⟨.inl hA.size, fun hm => ?_, es, clock, clock, clock, #[], ?_, he, hn, hb, heap_alloc_new W _, hb, Nat.le_refl _, Nat.le_refl _, ?_, fun x hx => by cases hx⟩
  · have := hA.under _ hm
    omega
  · rw [heap_alloc_old W _ hl, hr]
  · have : leftOf es #[] = es := by unfold leftOf; simp
    rw [this]
    exact he

theorem opw_next {ty : TypeId} {K : Value → World → Prop} (hA : AtF w M gs W) (hi : Itr w M gs W q r kf vf m rest cur) (h0 : rest = [] → K (.tuple #[.bool false]) W)
    (h1 : ∀ x r1 r2 w', rest = r1 ++ x :: r2 → AtF w M gs w' → Keeps gs W w' → Chg (fun b => b = q) W w' → Itr w M gs w' q r kf vf m (r1 ++ r2) (some x) → K (.tuple #[.bool true, kf x.1, vf x.2]) w') :
    OpW P (valueS (Instr.next (.pointer (some ⟨q, 0, none⟩)) false ty)) W K := by
  have hlt := hi.lts
  obtain ⟨es, clock, since, c0, seen, e1, e2, e3, e4, e5, e6, e7, e8, e9, _⟩ := hi.obj
  rcases run_next_at (P := P) W ty q r since c0 seen es clock e5 e1 e6 e7 with ⟨hz, hrun⟩ | ⟨e, hel, w1, hw1, hrun⟩
  · unfold OpW
    rw [run_valueS hrun]
    refine h0 ?_
    have : (leftOf es seen).toList = [] := List.eq_nil_of_length_eq_zero (by simpa using hz)
    rw [this] at e9
    unfold EntR at e9
    exact List.map_eq_nil_iff.1 e9.symm
  · obtain ⟨A, B, hAB⟩ := List.append_of_mem hel
    have hps := leftOf_push e3 hAB
    rw [hAB] at e9
    obtain ⟨x, r1, r2, hr0, he0, hk, hv⟩ : ∃ x r1 r2, rest = r1 ++ x :: r2 ∧ EntR kf vf (A ++ B) (r1 ++ r2) ∧ e.key = kf x.1 ∧ e.val = vf x.2 := by
      obtain ⟨r1, x, r2, a, b, c, d⟩ := EntR_split e9
      exact ⟨x, r1, r2, a, b, c, d⟩
    have hmem : e ∈ es.toList := by
      unfold leftOf at hel
      rw [Array.toList_filter] at hel
      exact (List.mem_filter.1 hel).1
    have hh : w1.heap = W.heap ∧ w1.os = W.os ∧ w1.tape = W.tape ∧ w1.output = W.output ∧ W.drawn ≤ w1.drawn := by
      rcases hw1 with rfl | rfl
      · exact ⟨rfl, rfl, rfl, rfl, Nat.le_refl _⟩
      · exact ⟨rfl, rfl, rfl, rfl, Nat.le_succ _⟩
    obtain ⟨a1, a2, a3, a4, a5⟩ := hh
    have hch : Chg (fun b => b = q) W (Go.ChangeMaps.setBlock w1 q (.mapIter (some r) since (seen.push e.born) clock)) :=
      ⟨a2, a3, a4, by simp [Go.ChangeMaps.setBlock, a1], fun b _ hb => by simp [Go.ChangeMaps.setBlock, a1, Ne.symm hb], a5⟩
    unfold OpW
    rw [run_valueS hrun, hk, hv]
    refine h1 x r1 r2 _ hr0 (hA.step hch fun b _ hb => hb ▸ hi.mine) (hA.keepsC hch fun g hg hb => hi.apart (hb ▸ hg)) hch ⟨hi.mine, hi.apart, es, clock, since, clock, seen.push e.born, ?_, e2, e3, e4, ?_, e6, e8, e8, ?_, fun y hy => ?_⟩
    · rw [hch.block r hlt.2.1 (Ne.symm hlt.2.2), e1]
    · have : q < w1.heap.size := by rw [a1]; exact hlt.1
      simp [Go.ChangeMaps.setBlock, this]
    · rw [hps]; exact he0
    · cases hy
      exact ⟨rfl, e, hmem, by simp, hk, hv⟩

theorem opw_entry {x : κ × α} {K : Value → World → Prop} (hi : Itr w M gs W q r kf vf m rest (some x)) (h : K (.tuple #[kf x.1, vf x.2]) W) : OpW P (valueS (Instr.entry (.pointer (some ⟨q, 0, none⟩)))) W K := by
  obtain ⟨es, clock, since, c0, seen, e1, e2, e3, e4, e5, e6, e7, e8, e9, e10⟩ := hi.obj
  obtain ⟨rfl, e, hem, hback, hk, hv⟩ := e10 x rfl
  obtain ⟨s, rfl⟩ := Array.back?_eq_some_iff.1 hback
  unfold OpW
  rw [run_valueS (run_entry_at (P := P) W q r since s es c0 e e5 e1 hem e3), hk, hv]
  exact h
end
end Go.Vc

/- vec.Copy, Same, Sub, Holds, Only. -/
set_option maxRecDepth 20000
namespace Go.Vc.VD
open Go Go.Vc Go.Vc.V Go.RowKit Go.Proofs Vcx

theorem succ_i (k : Nat) (h : k < 9223372036854775807) : IntKind.i64.wrap ((k : Int) + 1) = ((k + 1 : Nat) : Int) := by rw [wrap_i64 (by omega) (by omega)]; rfl
theorem part_len (x : PartT) : (partE x).length = 3 := rfl
theorem part_one (x : PartT) : ∀ u ∈ partE x, u.oneCell' = true := fun u hu => by
  simp at hu
  rcases hu with rfl | rfl | rfl <;> rfl
theorem part_cond (x y : PartT) : (x.1 == y.1 && (x.2.1 == y.2.1 && (x.2.2 == y.2.2 && true))) = decide (x = y) := by
  obtain ⟨a, b, c⟩ := x
  obtain ⟨a', b', c'⟩ := y
  rw [Bool.eq_iff_iff]
  simp
theorem slot_cond (x y : PartT) : (x.1 == y.1 && (x.2.1 == y.2.1 && true)) = decide (slotOf x = slotOf y) := by
  obtain ⟨a, b, c⟩ := x
  obtain ⟨a', b', c'⟩ := y
  rw [Bool.eq_iff_iff]
  simp [slotOf]

theorem c20 {l : List PartT} {a : Option Addr} {n c : Nat} (w : World) (hs : SlE w 3 partE l a n c) (hl : l.length ≤ 1000000) : RetL Tryd.prog 20 #[.slice a n c] w 46 3 partE l := by
  intro R h
  refine f20_calls a n c w R ?_
  unfold f20_vc
  have hn := hs.1
  subst hn
  refine opw_make (e := 46) (size := 3) (f := partE) (bytes := 24) (z := ((0, 0, 0) : PartT)) (by kernel_rfl) (At.refl w) ⟨_, _, rfl, rfl, by kernel_rfl⟩ (by omega) (by simp only [maxLen]; omega) fun w2 hA _ ho hg => ⟨_, _, _, rfl, ?_⟩
  have hb : Bel w w2 := hA.below
  refine opw_copyAll (bytes := 24) (by kernel_rfl) hA ho (hs.call hb) (by simp) (fun x _ => rfl) (fun x _ => rfl) (fun x _ => part_one x) fun w' hA _ _ ho => ⟨_, rfl, ?_⟩
  exact leafl h hA ho rfl


theorem c39 {l1 l2 : List PartT} {aa ba : Option Addr} {an ac bn bc : Nat} (w : World) (h1 : SlE w 3 partE l1 aa an ac) (h2 : SlE w 3 partE l2 ba bn bc) : Ret Tryd.prog 39 #[.slice aa an ac, .slice ba bn bc] w (.bool (decide (l1 = l2))) := by
  intro R h
  refine f39_calls aa an ac ba bn bc w R ?_
  unfold f39_vc
  have hn1 := h1.len_le
  have hn2 := h2.len_le
  refine brN (fun hne => leaf h (At.refl w) ?_) (fun he => ?_)
  · rw [decide_eq_false]
    rintro rfl
    exact hne (by rw [hn1.1, hn2.1])
  have he' : an = bn := by omega
  refine ⟨fun v w4 => ∃ i : Nat, v.1 = i ∧ At w [] w4 ∧ (∀ q, q < i → l1[q]? = l2[q]?), fun v _ => (an - v.1).toNat, ⟨0, rfl, At.refl w, fun q hq => by omega⟩, ?_⟩
  rintro x3 w4 ⟨i, hi, hA, hmin⟩
  simp only at hi
  subst hi
  refine brD (fun hlt => ?_) (fun hge => leaf h hA ?_)
  · obtain ⟨x, hx⟩ : ∃ x, l1[i]? = some x := ⟨_, List.getElem?_eq_getElem (by omega)⟩
    obtain ⟨y, hy⟩ : ∃ x, l2[i]? = some x := ⟨_, List.getElem?_eq_getElem (by omega)⟩
    obtain ⟨ad, g1, el, _⟩ := elt_at (P := Tryd.prog) (k := .i64) (t := 22) (h1.call hA.below) hx (e := 46) (by kernel_rfl) (by kernel_rfl)
    obtain ⟨ad2, g2, el2, _⟩ := elt_at (P := Tryd.prog) (k := .i64) (t := 22) (h2.call hA.below) hy (e := 46) (by kernel_rfl) (by kernel_rfl)
    refine ⟨ad, g1, _, _, _, el.agg 3 (by kernel_rfl) (by kernel_rfl) (by simp) (by simp), ad2, g2, _, _, _, el2.agg 3 (by kernel_rfl) (by kernel_rfl) (by simp) (by simp), ?_⟩
    rw [part_cond x y]
    refine brND (fun hne => go_below0 hA fun w13 hA => leaf h hA ?_) (fun he => go_below0 hA fun w14 hA => ?_)
    · rw [decide_eq_false]
      rintro rfl
      rw [hx] at hy
      exact hne (Option.some.inj hy)
    · rw [succ_i i (by omega)]
      refine ⟨⟨i + 1, rfl, hA, fun q hq => ?_⟩, by simp only; omega⟩
      by_cases hqi : q = i
      · subst hqi
        rw [hx, hy, he]
      · exact hmin q (by omega)
  · rw [decide_eq_true]
    apply List.ext_getElem?
    intro q
    by_cases hq : q < i
    · exact hmin q hq
    · rw [List.getElem?_eq_none (by omega), List.getElem?_eq_none (by omega)]
theorem c16 {l1 l2 : List PartT} {aa ba : Option Addr} {an ac bn bc : Nat} (w : World) (h1 : SlE w 3 partE l1 aa an ac) (h2 : SlE w 3 partE l2 ba bn bc) : Ret Tryd.prog 16 #[.slice aa an ac, .slice ba bn bc] w (.bool (decide (l1 = l2))) := by
  intro R h
  refine f16_calls aa an ac ba bn bc w R ?_
  unfold f16_vc
  have hn1 := h1.len_le
  have hn2 := h2.len_le
  refine brN (fun hne => leaf h (At.refl w) ?_) (fun he => ?_)
  · rw [decide_eq_false]
    rintro rfl
    exact hne (by rw [hn1.1, hn2.1])
  have he' : an = bn := by omega
  refine ⟨fun v w4 => ∃ i : Nat, v.1 = i ∧ At w [] w4 ∧ (∀ q, q < i → l1[q]? = l2[q]?), fun v _ => (an - v.1).toNat, ⟨0, rfl, At.refl w, fun q hq => by omega⟩, ?_⟩
  rintro x3 w4 ⟨i, hi, hA, hmin⟩
  simp only at hi
  subst hi
  refine brD (fun hlt => ?_) (fun hge => leaf h hA ?_)
  · obtain ⟨x, hx⟩ : ∃ x, l1[i]? = some x := ⟨_, List.getElem?_eq_getElem (by omega)⟩
    obtain ⟨y, hy⟩ : ∃ x, l2[i]? = some x := ⟨_, List.getElem?_eq_getElem (by omega)⟩
    obtain ⟨ad, g1, el, _⟩ := elt_at (P := Tryd.prog) (k := .i64) (t := 22) (h1.call hA.below) hx (e := 46) (by kernel_rfl) (by kernel_rfl)
    obtain ⟨ad2, g2, el2, _⟩ := elt_at (P := Tryd.prog) (k := .i64) (t := 22) (h2.call hA.below) hy (e := 46) (by kernel_rfl) (by kernel_rfl)
    refine ⟨ad, g1, _, _, _, el.agg 3 (by kernel_rfl) (by kernel_rfl) (by simp) (by simp), ad2, g2, _, _, _, el2.agg 3 (by kernel_rfl) (by kernel_rfl) (by simp) (by simp), ?_⟩
    rw [part_cond x y]
    refine brND (fun hne => go_below0 hA fun w13 hA => leaf h hA ?_) (fun he => go_below0 hA fun w14 hA => ?_)
    · rw [decide_eq_false]
      rintro rfl
      rw [hx] at hy
      exact hne (Option.some.inj hy)
    · rw [succ_i i (by omega)]
      refine ⟨⟨i + 1, rfl, hA, fun q hq => ?_⟩, by simp only; omega⟩
      by_cases hqi : q = i
      · subst hqi
        rw [hx, hy, he]
      · exact hmin q (by omega)
  · rw [decide_eq_true]
    apply List.ext_getElem?
    intro q
    by_cases hq : q < i
    · exact hmin q hq
    · rw [List.getElem?_eq_none (by omega), List.getElem?_eq_none (by omega)]
theorem c12 {l1 l2 : List PartT} {aa ba : Option Addr} {an ac bn bc : Nat} (w : World) (h1 : SlE w 3 partE l1 aa an ac) (h2 : SlE w 3 partE l2 ba bn bc) : Ret Tryd.prog 12 #[.slice aa an ac, .slice ba bn bc] w (.bool (decide (l1 = l2))) := by
  intro R h
  refine f12_calls aa an ac ba bn bc w R ?_
  unfold f12_vc
  exact at_callb (At.refl w) (c39 w h1 h2) fun w2 hA _ _ => ⟨_, rfl, leaf h hA rfl⟩

/-! ### Sub -/
theorem vsub_len : ∀ (a b c : List PartT), vsub a b = some c → c.length ≤ a.length
  | [], [], c, h => by rw [vsub] at h; cases h; simp
  | [], _ :: _, c, h => by rw [vsub] at h; cases h
  | p :: a, [], c, h => by
    rw [vsub] at h
    cases hv : vsub a [] with
    | none => rw [hv] at h; cases h
    | some d => rw [hv] at h; cases h; have := vsub_len a [] d hv; simp; omega
  | p :: a, q :: b, c, h => by
    rw [vsub] at h
    split at h
    · split at h
      · split at h
        · cases hv : vsub a b with
          | none => rw [hv] at h; cases h
          | some d => rw [hv] at h; cases h; have := vsub_len a b d hv; simp; omega
        · have := vsub_len a b c h; simp; omega
      · cases h
    · cases hv : vsub a (q :: b) with
      | none => rw [hv] at h; cases h
      | some d => rw [hv] at h; cases h; have := vsub_len a (q :: b) d hv; simp; omega

theorem c27 {l1 l2 : List PartT} {aa ba : Option Addr} {an ac bn bc : Nat} (w : World) (h1 : SlE w 3 partE l1 aa an ac) (h2 : SlE w 3 partE l2 ba bn bc) (hl1 : l1.length ≤ 1000000) :
    RetLB Tryd.prog 27 #[.slice aa an ac, .slice ba bn bc] w 46 3 partE (if vecB l1 = true ∧ vecB l2 = true then vout (vsub l1 l2) else []) (decide (vecB l1 = true ∧ vecB l2 = true) && (vsub l1 l2).isSome) := by
  intro R h
  refine f27_calls aa an ac ba bn bc w R ?_
  unfold f27_vc
  have hA := At.refl w
  have hn1 := h1.1
  refine at_callb hA (c11 w h1) fun w2 hA _ hb2 => ⟨_, rfl, brNB (fun hn => leaflb h hA OwnL.nil (by rw [if_neg (by rw [hn]; simp)]) (by rw [hn]; rfl)) (fun hv1 => ?_)⟩
  refine at_callb hA (c11 w2 (h2.call hb2)) fun w5 hA _ hb5 => ⟨_, rfl, brNB (fun hn => leaflb h hA OwnL.nil (by rw [if_neg (by rw [hn]; simp)]) (by rw [hn]; simp)) (fun hv2 => ?_)⟩
  rw [if_pos ⟨hv1, hv2⟩, decide_eq_true ⟨hv1, hv2⟩, Bool.true_and] at h
  have hp1 := (vecB_iff.1 hv1).1
  have hp2 := (vecB_iff.1 hv2).1
  refine ⟨fun v W => At w [] W ∧ ∃ (i : Nat) (b out : List PartT), v.2.2.1 = i ∧ i ≤ l1.length ∧ SlE w 3 partE b v.1.1 v.1.2.1 v.1.2.2 ∧ OwnL w [] W 46 3 partE (.slice v.2.1.1 v.2.1.2.1 v.2.1.2.2) out ∧ out.length ≤ i ∧ (∀ p ∈ b, partR p) ∧ (vsub (l1.drop i) b).map (out ++ ·) = vsub l1 l2, fun v _ => (l1.length - v.2.2.1).toNat,
    ⟨hA, 0, l2, [], rfl, Nat.zero_le _, h2, OwnL.nil, by simp, hp2, by simp⟩, ?_⟩
  rintro a9 n10 n11 a12 n13 n14 x15 w16 ⟨hA, i, b, out, hi, hil, hb, ho, hol, hpb, hg⟩
  simp only at hi hb ho
  subst hi
  have hnb := hb.1
  have hno := ho.len
  subst hnb hno
  refine brD (fun hlt => ?_) (fun hge => ?_)
  · obtain ⟨p, hp⟩ : ∃ x, l1[i]? = some x := ⟨_, List.getElem?_eq_getElem (by omega)⟩
    have hpr := hp1 p (List.mem_of_getElem? hp)
    rw [drop_cons hp] at hg
    obtain ⟨ad, g1, el, _⟩ := elt_at (P := Tryd.prog) (k := .i64) (t := 22) (h1.call hA.below) hp (e := 46) (by kernel_rfl) (by kernel_rfl)
    refine ⟨fun v W => At w [] W ∧ ∃ (b' out' : List PartT), SlE w 3 partE b' v.1.1 v.1.2.1 v.1.2.2 ∧ OwnL w [] W 46 3 partE (.slice v.2.1.1 v.2.1.2.1 v.2.1.2.2) out' ∧ out'.length ≤ i + 1 ∧ (∀ p ∈ b', partR p) ∧ (vsub (l1.drop (i + 1)) b').map (out' ++ ·) = vsub l1 l2, ⟨⟨ad, g1, _, _, _, el.agg 3 (by kernel_rfl) (by kernel_rfl) (by simp) (by simp), ?_⟩, ?_⟩⟩
    · intro n22 hn22
      refine ⟨fun v W => At w [n22] W ∧ OwnL w [n22] W 46 3 partE (.slice a12 out.length n14) out ∧ v.2.1 = p.1 ∧ v.2.2.1 = p.2.1 ∧ ∃ b' : List PartT, SlE w 3 partE b' v.1.1 v.1.2.1 v.1.2.2 ∧ (∀ p ∈ b', partR p) ∧ 0 ≤ v.2.2.2.1 ∧ (if 0 < v.2.2.2.1 then (vsub (l1.drop (i + 1)) b').map (out ++ [(p.1, p.2.1, v.2.2.2.1)] ++ ·) else (vsub (l1.drop (i + 1)) b').map (out ++ ·)) = vsub l1 l2, ⟨⟨?_, ?_⟩, ?_⟩⟩
      · intro hb0
        have hb0 : 0 < b.length := by simpa using hb0
        obtain ⟨q, t, rfl⟩ : ∃ q t, b = q :: t := by
          cases b with
          | nil => simp at hb0
          | cons q t => exact ⟨q, t, rfl⟩
        have hqr := hpb q (by simp)
        obtain ⟨ad2, g2, el2, _⟩ := elt_at (P := Tryd.prog) (k := .i64) (t := 22) (i := 0) (hb.call hA.below) rfl (e := 46) (by kernel_rfl) (by kernel_rfl)
        refine ⟨ad2, g2, _, _, _, el2.agg 3 (by kernel_rfl) (by kernel_rfl) (by simp) (el2.far (by simpa using hn22)), ?_⟩
        intro w28 hev hun
        have hbel := hev.bel (by simpa using hn22)
        have ho28 : OwnL w [n22] w28 46 3 partE (.slice a12 out.length n14) out := (ho.more (gs' := [n22]) (by intro g h1 _; simp at h1; omega)).call hbel
        have hA28 : At w [n22] w28 := ⟨(hA.call hbel).chg, hun⟩
        refine at_callb hA28 (c36 _ _ _ w28) fun w30 hA hk hb30 => ⟨_, _, rfl, hk, ?_⟩
        refine at_callb hA (c36 _ _ _ w30) fun w34 hA hk hb34 => ⟨_, _, rfl, hk, ?_⟩
        have ho34 := (ho28.call hb30).call hb34
        rw [slot_cond q p]
        refine brD (fun he => ?_) (fun hne => ?_)
        · obtain ⟨ad3, g3, el3, _⟩ := elt_at (P := Tryd.prog) (k := .i64) (t := 22) (i := 0) (hb.call hA.below) rfl (e := 46) (by kernel_rfl) (by kernel_rfl)
          refine ⟨ad3, g3, _, (el3.sub (o := 2) (by decide)).one (by kernel_rfl) (by simp), go_below_too hA fun w39 hA hb39 => ?_⟩
          refine at_callb hA (c49 p.2.2 q.2.2 (by have := hpr.2; unfold I64; omega) w39) fun w41 hA hk hb41 => ?_
          unfold qsub
          have hq0 := hqr.2
          by_cases hle : q.2.2 ≤ p.2.2
          · rw [if_neg (by omega)]
            refine ⟨_, _, rfl, hk, brB (fun e => by cases e) (fun _ => ?_)⟩
            obtain ⟨a', g4, k4⟩ := gives_from (P := Tryd.prog) (t := 22) (e := 46) (k := .i64) (i := 1) hb (by simp) (by kernel_rfl) (by kernel_rfl)
            have s4 := k4 w hb
            rw [List.drop_one, List.tail_cons] at s4
            refine ⟨_, _, _, g4, ?_⟩
            intro w47 hev hun
            have hsz := hA.size
            refine ⟨⟨(hA.evo (gs' := [n22]) (by intro d hd; simp at hd; have := ‹At w [] w16›.size; omega) hev hun).chg, hun⟩, ?_, rfl, rfl, t, s4, fun x hx => hpb x (by simp [hx]), by simp only; omega, ?_⟩
            · exact ((ho34.call hb39).call hb41).evo (by intro d hd h2; simp at hd h2; omega) hev
            · simp only
              rw [vsub, if_pos he, if_pos hle] at hg
              rw [← hg]
              split
              · rw [map_append]
              · rfl
          · rw [if_pos (by omega)]
            refine ⟨_, _, rfl, hk, brB (fun _ => ?_) (fun e => by cases e)⟩
            have : vsub l1 l2 = none := by rw [← hg, vsub, if_pos he, if_neg hle]; rfl
            exact leaflb h hA OwnL.nil (by rw [this]; rfl) (by rw [this]; rfl)
        · have hp0 := hpr.2
          refine ⟨hA, ho34, rfl, rfl, q :: t, hb, hpb, by simp only; omega, ?_⟩
          simp only
          rw [if_pos (by omega)]
          rw [vsub, if_neg hne] at hg
          rw [← hg, map_append]
      · intro hb0
        have hb0 : b = [] := List.eq_nil_of_length_eq_zero (by simpa using hb0)
        subst hb0
        intro w48 hev hun
        have hbel := hev.bel (by simpa using hn22)
        have hp0 := hpr.2
        refine ⟨⟨(hA.call hbel).chg, hun⟩, (ho.more (gs' := [n22]) (by intro g h1 _; simp at h1; omega)).call hbel, rfl, rfl, [], hb, by simp, by simp only; omega, ?_⟩
        simp only
        rw [if_pos (by omega)]
        rw [vsub] at hg
        rw [← hg, map_append]
      · rintro a49 n50 n51 x52 x53 x54 w55 ⟨hA, ho, e1, e2, b', hb', hpb', hx0, hg'⟩
        simp only at e1 e2 hb' hx0 hg'
        subst e1 e2
        refine brD (fun hpos => ?_) (fun hz => ?_)
        · rw [if_pos hpos] at hg'
          refine opw_push (e' := 46) (bytes := 24) hA ho (p.1, p.2.1, x54) (by kernel_rfl) (by kernel_rfl) rfl (fun _ _ => rfl) (part_one _) (by omega) (by decide) fun a2 c2 w62 hA ho _ _ => ⟨hA.off, b', _, hb', ho.more (by simp), by simp; omega, hpb', hg'⟩
        · rw [if_neg hz] at hg'
          exact ⟨hA.off, b', out, hb', ho.more (by simp), by omega, hpb', hg'⟩
    · rintro a66 n67 n68 a69 n70 n71 w72 ⟨hA, b', out', hb', ho', hol', hpb', hg'⟩
      rw [succ_i i (by omega)]
      exact ⟨⟨hA, i + 1, b', out', rfl, by omega, hb', ho', hol', hpb', hg'⟩, by simp only; omega⟩
  · rw [List.drop_of_length_le (by omega)] at hg
    refine brD (fun hpos => ?_) (fun hz => ?_)
    · obtain ⟨q, t, rfl⟩ : ∃ q t, b = q :: t := by
        cases b with
        | nil => simp at hpos
        | cons q t => exact ⟨q, t, rfl⟩
      have : vsub l1 l2 = none := by rw [← hg, vsub]; rfl
      exact leaflb h hA OwnL.nil (by rw [this]; rfl) (by rw [this]; rfl)
    · have hb0 : b = [] := List.eq_nil_of_length_eq_zero (by omega)
      subst hb0
      rw [vsub] at hg
      have : vsub l1 l2 = some out := by rw [← hg]; simp
      exact leaflb h hA ho (by rw [this]; rfl) (by rw [this]; rfl)

theorem c10 {l1 l2 : List PartT} {aa ba : Option Addr} {an ac bn bc : Nat} (w : World) (h1 : SlE w 3 partE l1 aa an ac) (h2 : SlE w 3 partE l2 ba bn bc) (hl1 : l1.length ≤ 1000000) : Ret Tryd.prog 10 #[.slice aa an ac, .slice ba bn bc] w (.bool (decide (vecB l1 = true ∧ vecB l2 = true) && (vsub l1 l2).isSome)) := by
  intro R h
  refine f10_calls aa an ac ba bn bc w R ?_
  unfold f10_vc
  exact at_calllb (At.refl w) (c27 w h1 h2 hl1) (fun _ _ => rfl) fun a c w2 hA _ _ _ _ => ⟨_, _, _, _, rfl, leaf h hA rfl⟩

/-! ### Only -/
theorem c62 {l : List Int} {a : Option Addr} {n c : Nat} (v : Int) (w : World) (hs : SlE w 1 one l a n c) : RetQ Tryd.prog 62 #[.slice a n c, .int .i64 v] w fun u _ => ∃ i : Int, u = .int .i64 i ∧ (i ≥ 0 ↔ v ∈ l) := by
  intro R h
  refine f62_calls a n c v w R ?_
  unfold f62_vc
  have hn := hs.len_le
  refine ⟨fun s W => At w [] W ∧ ∃ k : Nat, s.1 = k ∧ k ≤ l.length ∧ ∀ q, q < k → ∀ y, l[q]? = some y → y ≠ v, fun s _ => (n - s.1).toNat, ⟨At.refl w, 0, rfl, Nat.zero_le _, fun q hq => by omega⟩, ?_⟩
  rintro x3 w4 ⟨hA, k, hk, hkl, hmin⟩
  simp only at hk
  subst hk
  refine brD (fun hlt => ?_) (fun hge => ?_)
  · obtain ⟨x, hx⟩ : ∃ x, l[k]? = some x := ⟨_, List.getElem?_eq_getElem (by omega)⟩
    obtain ⟨ad, g1, r1⟩ := rd_one (te := 3) (ds := []) (k := .i64) (t := 60) (P := Tryd.prog) (e := 3) (hs.call hA.below) hx rfl (by kernel_rfl) (by kernel_rfl) (by kernel_rfl) (fun _ h => by cases h)
    refine ⟨ad, g1, _, r1, brE (fun he => leafq h hA ⟨_, rfl, ?_⟩) (fun hne => ?_)⟩
    · exact ⟨fun _ => by rw [he]; exact List.mem_of_getElem? hx, fun _ => by omega⟩
    · rw [succ_i k (by omega)]
      refine ⟨⟨hA, k + 1, rfl, by omega, fun q hq y hy => ?_⟩, by simp only; omega⟩
      by_cases hqk : q = k
      · subst hqk
        rw [hx] at hy
        cases hy
        exact fun e => hne e.symm
      · exact hmin q (by omega) y hy
  · refine leafq h hA ⟨_, rfl, ⟨fun hh => by omega, fun hm => ?_⟩⟩
    obtain ⟨q, hq⟩ := List.mem_iff_getElem?.1 hm
    have := (List.getElem?_eq_some_iff.1 hq).1
    exact absurd rfl (hmin q (by omega) v hq)
theorem c48 {l : List Int} {a : Option Addr} {n c : Nat} (v : Int) (w : World) (hs : SlE w 1 one l a n c) : Ret Tryd.prog 48 #[.slice a n c, .int .i64 v] w (.bool (decide (v ∈ l))) := by
  intro R h
  refine f48_calls a n c v w R ?_
  unfold f48_vc
  refine at_callq (At.refl w) (c62 v w hs) fun u w2 hA _ _ ⟨i, e, hi⟩ => ?_
  subst e
  exact ⟨_, rfl, leaf h hA (congrArg (fun b => Ending.returned (.bool b)) (decide_eq_decide.2 hi))⟩
/-- What is of some roles. -/
def onlyL (l : List PartT) (roles : List Int) : List PartT := if vecB l = true then l.filter fun p => decide (p.2.1 ∈ roles) else []
theorem c23 {l : List PartT} {roles : List Int} {a ra : Option Addr} {n c rn rc : Nat} (w : World) (hs : SlE w 3 partE l a n c) (hr : SlE w 1 one roles ra rn rc) (hl : l.length ≤ 1000000) : RetL Tryd.prog 23 #[.slice a n c, .slice ra rn rc] w 46 3 partE (onlyL l roles) := by
  intro R h
  refine f23_calls a n c ra rn rc w R ?_
  unfold f23_vc
  have hn := hs.len_le.1
  refine ⟨fun v W => At w [] W ∧ ∃ i : Nat, v.2.1 = i ∧ i ≤ l.length ∧ OwnL w [] W 46 3 partE (.slice v.1.1 v.1.2.1 v.1.2.2) (if vecB l = true then (l.take i).filter fun p => decide (p.2.1 ∈ roles) else []), fun v _ => (n - v.2.1).toNat, ⟨At.refl w, 0, rfl, Nat.zero_le _, by simp only [List.take_zero, List.filter_nil, ite_self]; exact OwnL.nil⟩, ?_⟩
  rintro a3 n4 n5 x6 w7 ⟨hA, i, hi, hil, ho⟩
  simp only at hi ho
  subst hi
  refine brD (fun hlt => ?_) (fun hge => leafl h hA ho ?_)
  · obtain ⟨p, hp⟩ : ∃ x, l[i]? = some x := ⟨_, List.getElem?_eq_getElem (by omega)⟩
    obtain ⟨ad, g1, el, _⟩ := elt_at (P := Tryd.prog) (k := .i64) (t := 22) (hs.call hA.below) hp (e := 46) (by kernel_rfl) (by kernel_rfl)
    have htk : l.take (i + 1) = l.take i ++ [p] := by rw [List.take_add_one, hp]; rfl
    refine ⟨ad, g1, _, _, _, el.agg 3 (by kernel_rfl) (by kernel_rfl) (by simp) (by simp), ?_⟩
    intro n12 hn12 w13 hev hun
    have hbel := hev.bel (by simpa using hn12)
    have hA : At w [n12] w13 := ⟨(hA.call hbel).chg, hun⟩
    have ho := (ho.more (gs' := [n12]) (by intro g h1 _; simp at h1; omega)).call hbel
    refine at_callb hA (c48 p.2.1 w13 (hr.call hA.below)) fun w15 hA hk hb => ⟨_, rfl, hk, ?_⟩
    have ho := ho.call hb
    have hol : ((l.take i).filter fun p => decide (p.2.1 ∈ roles)).length ≤ i := Nat.le_trans (List.length_filter_le ..) (by simp; omega)
    rw [succ_i i (by omega)]
    refine brD (fun hm => ?_) (fun hm => ?_)
    · refine at_callb hA (c11 w15 (hs.call hA.below)) fun w18 hA hk hb => ⟨_, rfl, hk, ?_⟩
      have ho := ho.call hb
      refine brB (fun hv => ?_) (fun hv => ?_)
      · rw [if_pos hv] at ho
        refine opw_push (e' := 46) (bytes := 24) hA ho p (by kernel_rfl) (by kernel_rfl) rfl (fun _ _ => rfl) (part_one _) (by omega) (by decide) fun a2 c2 w26 hA ho _ _ => ?_
        refine ⟨⟨hA.off, i + 1, rfl, by omega, ?_⟩, by simp only; omega⟩
        simp only
        rw [if_pos hv, htk, List.filter_append, List.filter_cons, if_pos (by simpa using hm)]
        exact ho.more (by simp)
      · have hv' : ¬ vecB l = true := by rw [hv]; decide
        rw [if_neg hv'] at ho
        refine ⟨⟨hA.off, i + 1, rfl, by omega, ?_⟩, by simp only; omega⟩
        simp only
        rw [if_neg hv']
        exact ho.more (by simp)
    · refine ⟨⟨hA.off, i + 1, rfl, by omega, ?_⟩, by simp only; omega⟩
      simp only
      have e : (l.take i ++ [p]).filter (fun p => decide (p.2.1 ∈ roles)) = (l.take i).filter fun p => decide (p.2.1 ∈ roles) := by
        rw [List.filter_append, List.filter_cons_of_neg (by simpa using hm), List.filter_nil, List.append_nil]
      rw [htk, e]
      exact ho.more (by simp)
  · unfold onlyL
    rw [List.take_of_length_le (by omega)]
end Go.Vc.VD

/- vec.Add. -/
set_option maxRecDepth 20000
namespace Go.Vc.VD
open Go Go.Vc Go.Vc.V Go.RowKit Go.Proofs Vcx

theorem c25 {l1 l2 : List PartT} {aa ba : Option Addr} {an ac bn bc : Nat} (w : World) (h1 : SlE w 3 partE l1 aa an ac) (h2 : SlE w 3 partE l2 ba bn bc) (hl1 : l1.length ≤ 1000000) (hl2 : l2.length ≤ 1000000) :
    RetLB Tryd.prog 25 #[.slice aa an ac, .slice ba bn bc] w 46 3 partE (if vecB l1 = true ∧ vecB l2 = true then vout (vadd l1 l2) else []) (decide (vecB l1 = true ∧ vecB l2 = true) && (vadd l1 l2).isSome) := by
  intro R h
  refine f25_calls aa an ac ba bn bc w R ?_
  unfold f25_vc
  have hA := At.refl w
  refine at_call hA (c11 _ h1) (fun _ hA hk => ?_)
  first | refine ⟨_, rfl, ?_⟩ | refine ⟨_, _, rfl, ?_⟩ | refine ⟨_, _, _, rfl, ?_⟩ | refine ⟨_, _, _, _, rfl, ?_⟩ | refine ⟨_, _, _, _, _, rfl, ?_⟩ | refine ⟨_, _, _, _, _, _, rfl, ?_⟩ | refine ⟨_, _, _, _, _, _, _, rfl, ?_⟩ | refine ⟨_, _, _, _, _, _, _, _, rfl, ?_⟩
  refine brNB (fun hn => leaflb h hA OwnL.nil (by rw [if_neg (by rw [hn]; simp)]) (by rw [hn]; rfl)) (fun hv1 => ?_)
  refine at_call hA (c11 _ (h2.call hA.below)) (fun _ hA hk => ?_)
  first | refine ⟨_, rfl, ?_⟩ | refine ⟨_, _, rfl, ?_⟩ | refine ⟨_, _, _, rfl, ?_⟩ | refine ⟨_, _, _, _, rfl, ?_⟩ | refine ⟨_, _, _, _, _, rfl, ?_⟩ | refine ⟨_, _, _, _, _, _, rfl, ?_⟩ | refine ⟨_, _, _, _, _, _, _, rfl, ?_⟩ | refine ⟨_, _, _, _, _, _, _, _, rfl, ?_⟩
  refine brNB (fun hn => leaflb h hA OwnL.nil (by rw [if_neg (by rw [hn]; simp)]) (by rw [hn]; simp)) (fun hv2 => ?_)
  rw [if_pos ⟨hv1, hv2⟩, decide_eq_true ⟨hv1, hv2⟩, Bool.true_and] at h
  refine ⟨fun s W => At w [] W ∧ ∃ (a b out : List PartT), SlE w 3 partE a s.1.1 s.1.2.1 s.1.2.2 ∧ SlE w 3 partE b s.2.1.1 s.2.1.2.1 s.2.1.2.2 ∧ OwnL w [] W 46 3 partE (.slice s.2.2.1.1 s.2.2.1.2.1 s.2.2.1.2.2) out ∧ out.length + a.length + b.length ≤ l1.length + l2.length ∧ (∀ p ∈ a, partR p) ∧ (∀ p ∈ b, partR p) ∧ (vadd a b).map (out ++ ·) = vadd l1 l2, fun s _ => s.1.2.1 + s.2.1.2.1,
    ⟨hA, l1, l2, [], h1, h2, OwnL.nil, by simp, (vecB_iff.1 hv1).1, (vecB_iff.1 hv2).1, by simp⟩, ?_⟩
  rintro a9 n10 n11 a12 n13 n14 a15 n16 n17 W ⟨hA, a, b, out, ha, hb, ho, hlen, hpa, hpb, hg⟩
  simp only at ha hb ho
  have hna := ha.1
  have hnb := hb.1
  have hno := ho.len
  subst hna hnb hno
  -- places and values
  have rdh : ∀ {W : World} {gs : List Nat} {p : PartT} {r l : List PartT} {aa : Option Addr} {an ac : Nat}, At w gs W → l = p :: r → SlE w 3 partE l aa an ac → ∃ ad, Gives Tryd.prog (Instr.indexAt 22 (.slice aa an ac) (.int .i64 0)) (.pointer (some ad)) ∧ (Reads Tryd.prog [] (Instr.loadAt 46 (.pointer (some ad))) W (partV p)) ∧ Elt W ad (partE p) := by
    intro W gs p r l aa an ac hA hl hs
    subst hl
    obtain ⟨ad, g, e, _⟩ := elt_at (P := Tryd.prog) (t := 22) (e := 46) (k := .i64) (i := 0) (hs.call hA.below) rfl (by kernel_rfl) (by kernel_rfl)
    exact ⟨ad, g, Elt.agg 3 e (by kernel_rfl) (by kernel_rfl) (by simp) no_ds, e⟩
  have rest : ∀ {p : PartT} {r l : List PartT} {aa : Option Addr} {ac : Nat}, l = p :: r → SlE w 3 partE l aa l.length ac → ∃ a', Gives Tryd.prog (Instr.sliceAt 22 (.slice aa l.length ac) (some (.int .i64 1)) none none) (.slice a' (l.length - 1) (ac - 1)) ∧ SlE w 3 partE r a' (l.length - 1) (ac - 1) := by
    intro p r l aa ac hl hs
    obtain ⟨a', g, k⟩ := gives_from (P := Tryd.prog) (t := 22) (e := 46) (k := .i64) (i := 1) hs (by rw [hl]; simp) (by kernel_rfl) (by kernel_rfl)
    have := k w hs
    rw [hl, List.drop_one, List.tail_cons] at this
    rw [hl] at g ⊢
    exact ⟨a', g, this⟩
  have hlp : ∀ x : PartT, (partE x).length = 3 := fun x => rfl
  have oc : ∀ x : PartT, ∀ u ∈ partE x, u.oneCell' = true := fun x u hu => by
    simp at hu
    rcases hu with rfl | rfl | rfl <;> rfl
  -- one of the two, or both, are there
  refine ⟨fun _ W' => W' = W ∧ ¬ (a = [] ∧ b = []), brD (fun hp => ⟨rfl, fun hh => by rw [hh.1] at hp; simp at hp⟩) (fun hp => brD (fun hq => ⟨rfl, fun hh => by rw [hh.2] at hq; simp at hq⟩) (fun hq => ?_)), ?_⟩
  · have e1 : a = [] := List.eq_nil_of_length_eq_zero (by omega)
    have e2 : b = [] := List.eq_nil_of_length_eq_zero (by omega)
    subst e1 e2
    rw [vadd_nil] at hg
    simp at hg
    exact leaflb h hA ho (by rw [← hg]; rfl) (by rw [← hg]; rfl)
  rintro _ ⟨rfl, hne⟩
  -- is the first of a the next?
  refine ⟨fun s W' => At w [] W' ∧ OwnL w [] W' 46 3 partE (.slice a15 out.length n17) out ∧ (s.1 = true ↔ ∃ p r, a = p :: r ∧ (b = [] ∨ ∃ q t, b = q :: t ∧ slt p q)), ?_, ?_⟩
  · refine ⟨fun he => go_below0_too hA fun _ hA hb => ⟨hA, ho.call hb, ⟨fun _ => ?_, fun _ => rfl⟩⟩, fun he => brD (fun hp => ?_) (fun hp => go_below0_too hA fun _ hA hb => ⟨hA, ho.call hb, ⟨fun h => (by cases h), fun ⟨p, r, h, _⟩ => ?_⟩⟩)⟩
    · have e2 : b = [] := List.eq_nil_of_length_eq_zero (by simpa using he)
      cases a with
      | nil => exact absurd ⟨rfl, e2⟩ hne
      | cons p r => exact ⟨p, r, rfl, .inl e2⟩
    · obtain ⟨p, r, rfl⟩ : ∃ p r, a = p :: r := by
        cases a with
        | nil => simp at hp
        | cons p r => exact ⟨p, r, rfl⟩
      obtain ⟨q, t, rfl⟩ : ∃ p r, b = p :: r := by
        cases b with
        | nil => simp at he
        | cons p r => exact ⟨p, r, rfl⟩
      obtain ⟨ad, g1, r1, _⟩ := rdh hA rfl ha
      obtain ⟨ad2, g2, r2, e2⟩ := rdh hA rfl hb
      refine ⟨_, g1, _, _, _, r1, _, g2, _, _, _, r2, go_below0_too hA fun w31 hA hb31 => ?_⟩
      refine at_callb hA (c36 _ _ _ _) (fun w33 hA hk hb33 => ⟨_, _, rfl, fun W hW => r2 W (Below_tr hb31 (Below_tr hb33 hW)), ?_⟩)
      refine at_callb hA (c36 _ _ _ _) (fun w37 hA hk hb37 => ⟨_, _, rfl, ?_⟩)
      refine at_callb hA (c38 _ _ _ _ _) (fun w41 hA hk hb41 => ⟨_, rfl, hA, (((ho.call hb31).call hb33).call hb37).call hb41, ?_⟩)
      simp only [decide_eq_true_eq, slotC_lt]
      exact ⟨fun h => ⟨p, r, rfl, .inr ⟨q, t, rfl, h⟩⟩, fun ⟨p', r', h1, h2⟩ => by
        cases h1
        rcases h2 with h2 | ⟨q', t', h2, h3⟩
        · cases h2
        · cases h2; exact h3⟩
    · rw [h] at hp
      simp at hp
  rintro b44 W2 ⟨hA2, ho2, hfa⟩
  simp only at hfa
  have hlen1 : l1.length + l2.length ≤ 2000000 := by omega
  have push : ∀ {W : World} {gs : List Nat} (x : PartT), At w gs W → OwnL w gs W 46 3 partE (.slice a15 out.length n17) out → ∀ {K : Option Addr → Nat → Nat → World → Prop}, (a ≠ [] ∨ b ≠ []) →
      (∀ a' c' w2, At w gs w2 → OwnL w gs w2 46 3 partE (.slice a' (out ++ [x]).length c') (out ++ [x]) → W.grownBy w2 (Value.slice a15 out.length n17).ownBlock → ((Value.slice a' (out ++ [x]).length c').ownBlock = (Value.slice a15 out.length n17).ownBlock ∨ ∀ k, (Value.slice a' (out ++ [x]).length c').ownBlock = some k → W.heap.size ≤ k) → K a' (out ++ [x]).length c' w2) →
      OpW Tryd.prog (valueS (Instr.buildSlice 22 1 #[(0, partV x)])) W fun v w1 => ∃ a1 n1 c1, v = .slice a1 n1 c1 ∧ OpW Tryd.prog (builtin .append #[22, 22] 22 #[false, false] #[.slice a15 out.length n17, .slice a1 n1 c1]) w1 fun v w2 => ∃ a2 n2 c2, v = .slice a2 n2 c2 ∧ K a2 n2 c2 w2 := by
    intro W gs x hA ho K hab h
    refine opw_push0 (e' := 46) (bytes := 24) hA ho x (by kernel_rfl) (by kernel_rfl) rfl (fun y _ => rfl) (oc x) ?_ (by decide) h
    have : 0 < a.length + b.length := by
      rcases hab with h | h
      · have := List.length_pos_iff.2 h; omega
      · have := List.length_pos_iff.2 h; omega
    omega
  refine brB (fun hb44 => ?_) (fun hb44 => ?_)
  · obtain ⟨p, r, rfl, hq⟩ := hfa.1 hb44
    obtain ⟨ad, g1, r1, _⟩ := rdh hA2 rfl ha
    obtain ⟨a', g2, s2⟩ := rest rfl ha
    refine ⟨_, g1, _, _, _, r1, _, _, _, g2, go_below0_too hA2 fun w53 hA hb53 => ?_⟩
    refine push p hA (ho2.call hb53) (.inl (by simp)) fun a2 c2 w60 hA ho _ _ => ⟨⟨hA, r, b, out ++ [p], s2, hb, ho, by simp at hlen ⊢; omega, fun x hx => hpa x (List.mem_cons_of_mem _ hx), hpb, ?_⟩, by simp only [List.length_cons]; omega⟩
    rw [← hg]
    rcases hq with rfl | ⟨q, t, rfl, hlt⟩
    · rw [vadd_nil', vadd_nil']
      simp
    · rw [vadd_lt hlt, map_append]
  have hna : ∀ p r, a = p :: r → ∃ q t, b = q :: t ∧ ¬ slt p q := by
    intro p r hap
    cases hbq : b with
    | nil => exact absurd (hfa.2 ⟨p, r, hap, .inl hbq⟩) (by rw [hb44]; decide)
    | cons q t => exact ⟨q, t, rfl, fun hlt => absurd (hfa.2 ⟨p, r, hap, .inr ⟨q, t, hbq, hlt⟩⟩) (by rw [hb44]; decide)⟩
  refine ⟨fun s W' => At w [] W' ∧ OwnL w [] W' 46 3 partE (.slice a15 out.length n17) out ∧ (s.1 = true ↔ ∃ q t, b = q :: t ∧ (a = [] ∨ ∃ p r, a = p :: r ∧ slt q p)), ?_, ?_⟩
  · refine ⟨fun he => go_below0_too hA2 fun _ hA hb => ⟨hA, ho2.call hb, ⟨fun _ => ?_, fun _ => rfl⟩⟩, fun he => ?_⟩
    · have e1 : a = [] := List.eq_nil_of_length_eq_zero (by simpa using he)
      cases b with
      | nil => exact absurd ⟨e1, rfl⟩ hne
      | cons q t => exact ⟨q, t, rfl, .inl e1⟩
    · obtain ⟨p, r, rfl⟩ : ∃ p r, a = p :: r := by
        cases a with
        | nil => simp at he
        | cons p r => exact ⟨p, r, rfl⟩
      obtain ⟨q, t, rfl, hnl⟩ := hna p r rfl
      obtain ⟨ad, g1, r1, _⟩ := rdh hA2 rfl ha
      obtain ⟨ad2, g2, r2, e2⟩ := rdh hA2 rfl hb
      refine ⟨_, g1, _, _, _, r1, _, g2, _, _, _, r2, go_below0_too hA2 fun w31 hA hb31 => ?_⟩
      refine at_callb hA (c36 _ _ _ _) (fun w33 hA hk hb33 => ⟨_, _, rfl, fun W hW => r2 W (Below_tr hb31 (Below_tr hb33 hW)), ?_⟩)
      refine at_callb hA (c36 _ _ _ _) (fun w37 hA hk hb37 => ⟨_, _, rfl, ?_⟩)
      refine at_callb hA (c38 _ _ _ _ _) (fun w41 hA hk hb41 => ⟨_, rfl, hA, (((ho2.call hb31).call hb33).call hb37).call hb41, ?_⟩)
      simp only [decide_eq_true_eq, slotC_gt]
      exact ⟨fun h => ⟨q, t, rfl, .inr ⟨p, r, rfl, h⟩⟩, fun ⟨q', t', h1, h2⟩ => by
        cases h1
        rcases h2 with h2 | ⟨p', r', h2, h3⟩
        · cases h2
        · cases h2; exact h3⟩
  rintro b86 W3 ⟨hA3, ho3, hfb⟩
  simp only at hfb
  refine brB (fun hb86 => ?_) (fun hb86 => ?_)
  · obtain ⟨q, t, rfl, hq⟩ := hfb.1 hb86
    obtain ⟨ad, g1, r1, _⟩ := rdh hA3 rfl hb
    obtain ⟨a', g2, s2⟩ := rest rfl hb
    refine ⟨_, g1, _, _, _, r1, _, _, _, g2, go_below0_too hA3 fun w53 hA hb53 => ?_⟩
    refine push q hA (ho3.call hb53) (.inr (by simp)) fun a2 c2 w60 hA ho _ _ => ⟨⟨hA, a, t, out ++ [q], ha, s2, ho, by simp at hlen ⊢; omega, hpa, fun x hx => hpb x (List.mem_cons_of_mem _ hx), ?_⟩, by simp only [List.length_cons]; omega⟩
    rw [← hg]
    rcases hq with rfl | ⟨p, r, rfl, hlt⟩
    · rw [vadd_nil, vadd_nil]
      simp
    · obtain ⟨q', t', h1, h2⟩ := hna p r rfl
      cases h1
      rw [vadd_gt h2 hlt, map_append]
  obtain ⟨p, r, rfl⟩ : ∃ p r, a = p :: r := by
    cases a with
    | nil =>
      cases b with
      | nil => exact absurd ⟨rfl, rfl⟩ hne
      | cons q t => exact absurd (hfb.2 ⟨q, t, rfl, .inl rfl⟩) (by rw [hb86]; decide)
    | cons p r => exact ⟨p, r, rfl⟩
  obtain ⟨q, t, rfl, hn1⟩ := hna p r rfl
  have hn2 : ¬ slt q p := fun hlt => absurd (hfb.2 ⟨q, t, rfl, .inr ⟨p, r, rfl, hlt⟩⟩) (by rw [hb86]; decide)
  rw [vadd_eq hn1 hn2] at hg
  have bp := (hpa p (List.mem_cons_self ..)).2
  have bq := (hpb q (List.mem_cons_self ..)).2
  obtain ⟨ad, g1, r1, _⟩ := rdh hA3 rfl ha
  obtain ⟨ad2, g2, r2, e2⟩ := rdh hA3 rfl hb
  refine ⟨_, g1, _, _, _, r1, fun n110 hn110 => ⟨_, g2, _, (e2.sub (o := 2) (by decide)).one (by kernel_rfl) (e2.far (by intro d hd; simp at hd; omega)), ?_⟩⟩
  have hsz := hA3.size
  refine go_evo_too hA3 (by intro d hd; simp at hd; omega) fun w113 hA hev => ?_
  have ho113 := (ho3.more (gs' := [n110]) (by intro g h1 h2; simp at h1; omega)).evo (by intro d hd h2; simp at hd h2; omega) hev
  refine at_callb hA (c40 p.2.2 q.2.2 9007199254740992 (by unfold I64; omega) (by unfold I64; omega) (by unfold I64; omega) _) (fun w115 hA hk hb115 => ?_)
  rw [qsum2 (by omega) (by omega)]
  by_cases hfit : p.2.2 + q.2.2 ≤ 9007199254740992
  · rw [if_pos hfit] at hg ⊢
    refine ⟨_, _, rfl, hk, ⟨fun hf => by simp at hf, fun _ => ?_⟩⟩
    obtain ⟨a', g3, s3⟩ := rest rfl ha
    obtain ⟨b', g4, s4⟩ := rest rfl hb
    refine ⟨_, _, _, g3, _, _, _, g4, ?_⟩
    have hsz := hA.size
    refine go_evo_too hA (by intro d hd; simp at hd; omega) fun w124 hA hev => ?_
    have ho124 := (ho113.call hb115).evo (by intro d hd h2; simp at hd h2; omega) hev
    refine opw_push (e' := 46) (bytes := 24) hA ho124 (p.1, p.2.1, p.2.2 + q.2.2) (by kernel_rfl) (by kernel_rfl) rfl (fun y _ => rfl) (oc _) (by simp at hlen; omega) (by decide) fun a2 c2 w131 hA ho _ _ => ⟨⟨hA.off, r, t, out ++ [(p.1, p.2.1, p.2.2 + q.2.2)], s3, s4, ho.more (by intro g h1 h2; simp at h1), by simp at hlen ⊢; omega, fun x hx => hpa x (List.mem_cons_of_mem _ hx), fun x hx => hpb x (List.mem_cons_of_mem _ hx), ?_⟩, by simp only [List.length_cons]; omega⟩
    rw [← hg, map_append]
  · rw [if_neg hfit] at hg ⊢
    refine ⟨_, _, rfl, hk, ⟨fun _ => ?_, fun hf => by simp at hf⟩⟩
    have : vadd l1 l2 = none := by rw [← hg]; rfl
    exact leaflb h hA OwnL.nil (by rw [this]; rfl) (by rw [this]; rfl)
end Go.Vc.VD

/- slices.SortFunc on an own slice of structs: a permutation, in order. -/
namespace Go.Vc
open Go Go.RowKit Go.Proofs Go.Shelf Go.Sort

theorem bel_grow {W w' : World} (h : Bel W w') : ∃ q os', w' = grow (W.drewN q) os' := by
  refine ⟨w'.drawn - W.drawn, w'.heap.extract W.heap.size w'.heap.size, ?_⟩
  obtain ⟨hp, tp, dr, os, out⟩ := w'
  have h1 := h.below.os
  have h2 := h.below.tape
  have h3 := h.below.output
  have h4 := h.size
  have h5 := fun b hb => h.block (b := b) hb
  have h6 := h.drawn
  simp only at h1 h2 h3 h4 h5 h6
  subst h1 h2 h3
  unfold grow World.drewN
  simp only [World.mk.injEq, true_and, and_true]
  refine ⟨?_, by omega⟩
  apply Array.ext_getElem?
  intro k
  rw [Array.getElem?_append]
  split
  · rename_i hk
    exact h5 k hk
  · rename_i hk
    rw [Array.getElem?_extract]
    split
    · congr 1; omega
    · rw [Array.getElem?_eq_none]
      omega

section
variable {α : Type} [Inhabited α] {P : Program} {ρ : Ren} {f : α → List Value} {k : Nat}

theorem chg_sortWorldK (w : World) (blk off m : Nat) (dk : Array α) (os : Array Obj) : Chg (fun b => b = blk) w (sortWorldK f k w blk off m dk os) := by
  unfold sortWorldK putRowK
  refine ⟨rfl, rfl, rfl, ?_, fun b hb hne => ?_, ?_⟩
  · rw [size_grow, Go.Sort.size_putRow]
    exact Nat.le_add_right _ _
  · show ((putRow id (Go.Sort.ahead w m) blk off (flatK f k dk)).heap ++ os)[b]? = _
    rw [Array.getElem?_append, if_pos (by rw [Go.Sort.size_putRow]; exact hb)]
    unfold putRow mapBlock
    show (Array.modify w.heap blk _)[b]? = _
    rw [Array.getElem?_modify, if_neg (fun e => hne e.symm)]
  · show w.drawn ≤ w.drawn + m
    omega

theorem flat_at {l : List α} (hk : ∀ x, (f x).length = k) {t : Nat} (ht : t < l.length * k) : (l.flatMap f)[t]? = some (flatK f k l.toArray)[t]! := by
  have hk0 : 0 < k := by
    rcases Nat.eq_zero_or_pos k with h | h
    · subst h; omega
    · exact h
  have hi : t / k < l.length := Nat.div_lt_of_lt_mul (by rw [Nat.mul_comm]; exact ht)
  have hm := Nat.mod_lt t hk0
  have hdm : t / k * k + t % k = t := by rw [Nat.mul_comm]; exact Nat.div_add_mod t k
  have hp := flatMap_part (size := k) (fun x _ => hk x) (List.getElem?_eq_getElem hi)
  rw [get_flatK f k l.toArray t (by simpa using ht)]
  have h1 : (f l[t / k])[t % k]? = some ((f l[t / k])[t % k]'(by rw [hk]; exact hm)) := List.getElem?_eq_getElem _
  have h2 : (l.toArray)[t / k]! = l[t / k] := by simp [hi]
  rw [h2, getElem!_pos (f l[t / k]) (t % k) (by rw [hk]; exact hm), ← h1]
  conv => rhs; rw [← hp]
  rw [List.getElem?_take, if_pos hm, List.getElem?_drop, hdm]

theorem at_sortFunc (L : SlLaysF0.n6 P ρ) {e : TypeId} (aE : pureRun P (isAgg (ρ.t 24)) = some true) (zE : pureRun P (sizeOf (ρ.t 24)) = some k) (hk : ∀ x, (f x).length = k) (h1 : ∀ x, ∀ v ∈ f x, v.oneCell' = true) (cf : α → α → Int) (hO : SWO (ltOf cf)) {g : Nat} {cb : Array Value}
    (eg : ∀ args w, (callFunc g args).run P w = .ok (.enter g args) w) {w W : World} {M : Nat → Prop} {gs : List Nat} {a : Option Addr} {n c : Nat} {l : List α} {K : Ending → World → Prop} (hA : AtF w M gs W) (ho : OwnF w M gs W e k f (.slice a n c) l)
    (hcmp : ∀ W', Chg (fun b => (Value.slice a n c).ownBlock = some b) W W' → ∀ x y, Ret P g (#[.agg (f x).toArray, .agg (f y).toArray] ++ cb) W' (.int .i64 (cf x y))) (hl : l.length < 4611686018427387904)
    (hK : ∀ l' w', AtF w M gs w' → Keeps gs W w' → Chg (fun b => (Value.slice a n c).ownBlock = some b) W w' → OwnF w M gs w' e k f (.slice a n c) l' → l'.Perm l → l'.Pairwise (fun x y => ¬ cf y x < 0) → K (.returned (.tuple #[])) w') :
    Calls P (ρ.f 6) #[.slice a n c, .func (.func g) #[] cb] W K := by
  have hn := ho.len
  subst hn
  rcases ho.row0.2 with ⟨hv, h0⟩ | ⟨b, cap, cur, hv, _, hg, hnc, hcm, hcs, htk⟩
  · have hl0 : l = [] := List.eq_nil_of_length_eq_zero h0
    subst hl0
    refine (AnyF.slices_SortFunc_none (P := P) (ρ := ρ) { L with } a c _ W).mono ?_
    rintro e' w' ⟨rfl, rfl⟩
    exact hK [] w' hA (fun _ _ => rfl) (Chg.refl _ _) ho (List.Perm.refl _) List.Pairwise.nil
  · obtain ⟨rfl, _, rfl⟩ := Value.slice.inj hv
    have hfl : (l.flatMap f).length = l.length * k := flatMap_len fun x _ => hk x
    have hcur : ∀ t, t < l.length * k → cur[t]? = some (flatK f k l.toArray)[t]! := fun t ht => by
      rw [← flat_at hk ht, ← htk, List.getElem?_take, if_pos ht, Array.getElem?_toList]
    have hH : HoldsK f k W b 0 l.toArray := by
      intro j hj
      rw [size_flatK] at hj
      have hj' : j < l.length * k := by simpa using hj
      refine ⟨?_, ?_⟩
      · unfold World.cell?
        simp only [hg]
        simpa using hcur j hj'
      · unfold World.frozen?
        simp only [hg]
        simp
    have hblk : b < W.heap.size := (Array.getElem?_eq_some_iff.1 hg).1
    have hcm' : CmpLays P g cb f k cf b 0 l.toArray.size W := fun m os dk _ x y => by
      refine hcmp _ ((chg_sortWorldK W b 0 m dk os).mono fun b' _ hb => ?_) x y _ fun w' hb => ⟨rfl, bel_grow hb⟩
      subst hb
      rfl
    have hmain := AnyQ.slices_SortFunc L k (fun w => pureRun_run aE w) (fun w => pureRun_run zE w) f hk h1 cf hO g cb b 0 c l.toArray W eg hcm' hH hblk (by simpa using hl)
    have hsz : l.toArray.size = l.length := by simp
    rw [hsz] at hmain
    refine hmain.mono ?_
    rintro e' w' ⟨rfl, d', n, os, hp, hs, rfl⟩
    have hch : Chg (fun b' => (Value.slice (some ⟨b, 0, none⟩) l.length c).ownBlock = some b') W (sortWorldK f k W b 0 n d' os) := (chg_sortWorldK W b 0 n d' os).mono fun b' _ hb => by subst hb; rfl
    have hd : d'.size = l.length := by have := hp.1; simpa using this
    have hperm : d'.toList.Perm l := by
      have := hp.2.2
      rw [show l.length = d'.size from hd.symm] at this
      have e1 : d'.extract 0 d'.size = d' := by simp
      have e2 : l.toArray.extract 0 d'.size = l.toArray := by rw [hd]; simp
      rw [e1, e2] at this
      simpa using this
    have hpw : d'.toList.Pairwise (fun x y => ¬ cf y x < 0) := by
      rw [List.pairwise_iff_getElem]
      intro i j hi hj hij
      simp only [Array.length_toList] at hi hj
      have := hs i j (Nat.zero_le _) hij (by omega)
      rw [getElem!_pos d' j hj, getElem!_pos d' i hi] at this
      unfold ltOf at this
      simpa using this
    have hdl : d'.toList.length = l.length := by simpa using hd
    refine hK d'.toList _ (hA.step hch fun k' _ hk' => ho.mine k' hk') (hA.keepsC hch fun g' hg' hk' => ho.apart g' hg' hk') hch ?_ hperm hpw
    refine ⟨?_, ho.mine, ho.apart⟩
    rw [hdl]
    refine ⟨by rw [flatMap_len (size := k) fun x _ => hk x, hdl], .inr ⟨b, c, putCells id 0 (flatK f k d') cur, rfl, Nat.zero_le _, ?_, hnc, hcm, ?_, ?_⟩⟩
    · unfold sortWorldK putRowK
      show ((putRow id (Go.Sort.ahead W n) b 0 (flatK f k d')).heap ++ os)[b]? = _
      rw [Array.getElem?_append, if_pos (by rw [Go.Sort.size_putRow]; exact hblk)]
      unfold putRow mapBlock
      show (Array.modify W.heap b _)[b]? = _
      rw [Array.getElem?_modify, if_pos rfl, hg]
      rfl
    · unfold putCells
      rw [Array.size_mapIdx, hcs]
    · apply List.ext_getElem?
      intro t
      rw [List.getElem?_take]
      by_cases ht : t < l.length * k
      · rw [if_pos ht, flat_at hk (by rw [hdl]; exact ht), Array.getElem?_toList]
        unfold putCells
        have htc : t < cur.size := by
          have := hcur t ht
          exact (Array.getElem?_eq_some_iff.1 this).1
        rw [Array.getElem?_mapIdx, Array.getElem?_eq_getElem htc, Option.map_some, if_pos ⟨Nat.zero_le _, by rw [size_flatK, hd]; omega⟩]
        simp
      · rw [if_neg ht, List.getElem?_eq_none]
        rw [flatMap_len (size := k) fun x _ => hk x, hdl]
        omega
end
end Go.Vc

/- The library's functions as they lie in this program: tables of numbers, printed by a program; the kernel compares the bodies. -/
set_option maxRecDepth 100000
set_option linter.unusedVariables false
namespace Go.Proofs
open Go.Shelf
def Tryd.sortPt_ren : Go.Shelf.Ren := ⟨fun | 6 => 60 | 15 => 76 | 14 => 75 | 28 => 92 | 29 => 93 | 20 => 84 | 21 => 85 | 22 => 86 | 23 => 87 | 24 => 88 | 25 => 89 | 26 => 90 | 27 => 91 | 46 => 103 | 47 => 104 | 48 => 105 | 49 => 106 | 50 => 107 | 57 => 111 | n => n, fun | 22 => 22 | 24 => 46 | 25 => 75 | 3 => 3 | 39 => 95 | 0 => 0 | 53 => 110 | 55 => 112 | 4 => 4 | 46 => 104 | 45 => 103 | 50 => 78 | 5 => 5 | 9 => 9 | 66 => 121 | 70 => 125 | 76 => 129 | 77 => 130 | n => n, fun | n => n⟩
theorem Tryd.sortPt : Go.Proofs.SlLaysF0.n6 Tryd.prog Tryd.sortPt_ren := {
  mixed := by kernel_rfl,
  f6 := ⟨Tryd.f60.name, by decide, Tryd.func60.trans (congrArg some (by kernel_rfl))⟩,
  f14 := ⟨Tryd.f75.name, by decide, Tryd.func75.trans (congrArg some (by kernel_rfl))⟩,
  f15 := Tryd.func76.trans (congrArg some (by kernel_rfl)),
  f20 := ⟨Tryd.f84.name, by decide, Tryd.func84.trans (congrArg some (by kernel_rfl))⟩,
  f21 := ⟨Tryd.f85.name, by decide, Tryd.func85.trans (congrArg some (by kernel_rfl))⟩,
  f22 := ⟨Tryd.f86.name, by decide, Tryd.func86.trans (congrArg some (by kernel_rfl))⟩,
  f23 := ⟨Tryd.f87.name, by decide, Tryd.func87.trans (congrArg some (by kernel_rfl))⟩,
  f24 := ⟨Tryd.f88.name, by decide, Tryd.func88.trans (congrArg some (by kernel_rfl))⟩,
  f25 := ⟨Tryd.f89.name, by decide, Tryd.func89.trans (congrArg some (by kernel_rfl))⟩,
  f26 := ⟨Tryd.f90.name, by decide, Tryd.func90.trans (congrArg some (by kernel_rfl))⟩,
  f27 := ⟨Tryd.f91.name, by decide, Tryd.func91.trans (congrArg some (by kernel_rfl))⟩,
  f28 := Tryd.func92.trans (congrArg some (by kernel_rfl)),
  f29 := Tryd.func93.trans (congrArg some (by kernel_rfl)),
  f46 := ⟨Tryd.f103.name, by decide, Tryd.func103.trans (congrArg some (by kernel_rfl))⟩,
  f47 := Tryd.func104.trans (congrArg some (by kernel_rfl)),
  f48 := Tryd.func105.trans (congrArg some (by kernel_rfl)),
  f49 := ⟨Tryd.f106.name, by decide, Tryd.func106.trans (congrArg some (by kernel_rfl))⟩,
  f50 := ⟨Tryd.f107.name, by decide, Tryd.func107.trans (congrArg some (by kernel_rfl))⟩,
  f57 := ⟨Tryd.f111.name, by decide, Tryd.func111.trans (congrArg some (by kernel_rfl))⟩,
  t0 := Tryd.underlying0,
  a0 := Tryd.isAgg0,
  z0 := Tryd.sizeOf0,
  v0 := Tryd.zeroValue0,
  t3 := Tryd.underlying3,
  a3 := Tryd.isAgg3,
  z3 := Tryd.sizeOf3,
  v3 := Tryd.zeroValue3,
  t4 := Tryd.underlying4,
  a4 := Tryd.isAgg4,
  z4 := Tryd.sizeOf4,
  v4 := Tryd.zeroValue4,
  t5 := Tryd.underlying5,
  a5 := Tryd.isAgg5,
  z5 := Tryd.sizeOf5,
  v5 := Tryd.zeroValue5,
  t9 := Tryd.underlying9,
  a9 := Tryd.isAgg9,
  z9 := Tryd.sizeOf9,
  v9 := Tryd.zeroValue9,
  t22 := Tryd.underlying22,
  a22 := Tryd.isAgg22,
  z22 := Tryd.sizeOf22,
  v22 := Tryd.zeroValue22,
  t25 := Tryd.underlying75,
  a25 := Tryd.isAgg75,
  z25 := Tryd.sizeOf75,
  v25 := Tryd.zeroValue75,
  t39 := Tryd.underlying95,
  a39 := Tryd.isAgg95,
  z39 := Tryd.sizeOf95,
  v39 := Tryd.zeroValue95,
  t45 := Tryd.underlying103,
  a45 := Tryd.isAgg103,
  z45 := Tryd.sizeOf103,
  v45 := Tryd.zeroValue103,
  t46 := Tryd.underlying104,
  a46 := Tryd.isAgg104,
  z46 := Tryd.sizeOf104,
  v46 := Tryd.zeroValue104,
  t50 := Tryd.underlying78,
  a50 := Tryd.isAgg78,
  z50 := Tryd.sizeOf78,
  v50 := Tryd.zeroValue78,
  t53 := Tryd.underlying110,
  a53 := Tryd.isAgg110,
  z53 := Tryd.sizeOf110,
  v53 := Tryd.zeroValue110,
  t55 := Tryd.underlying112,
  a55 := Tryd.isAgg112,
  z55 := Tryd.sizeOf112,
  v55 := Tryd.zeroValue112,
  t66 := Tryd.underlying121,
  a66 := Tryd.isAgg121,
  z66 := Tryd.sizeOf121,
  v66 := Tryd.zeroValue121,
  t70 := Tryd.underlying125,
  a70 := Tryd.isAgg125,
  z70 := Tryd.sizeOf125,
  v70 := Tryd.zeroValue125,
  t76 := Tryd.underlying129,
  a76 := Tryd.isAgg129,
  z76 := Tryd.sizeOf129,
  v76 := Tryd.zeroValue129,
  t77 := Tryd.underlying130,
  a77 := Tryd.isAgg130,
  z77 := Tryd.sizeOf130,
  v77 := Tryd.zeroValue130}

end Go.Proofs

/- vec.Of, Move. -/
set_option maxRecDepth 20000
set_option maxHeartbeats 1000000
namespace Go.Vc.VD
open Go Go.Vc Go.Vc.V Go.RowKit Go.Proofs Vcx

variable {w W W' : World} {M : Nat → Prop} {gs : List Nat} {r : Nat} {m : List (Sl × Int)}

theorem keyOk_sl : KeyOk Tryd.prog 29 slV where
  eq := fun k k' => by
    have h : eqB Tryd.prog 30 29 (slV k) (slV k') = some (k.1 == k'.1 && (k.2 == k'.2 && true)) := by kernel_rfl
    rw [h, Option.some.injEq, Bool.eq_iff_iff]
    obtain ⟨a, b⟩ := k
    obtain ⟨a', b'⟩ := k'
    simp
  now := fun d hd k k' b hb => by
    rw [Tryd.underlying29] at hd
    cases hd
    simp [Instr.sameNow] at hb
  chk := fun e k W => by
    have h : pureRun Tryd.prog (Instr.checkKey e 10000 29 (slV k)) = some () := by kernel_rfl
    exact pureRun_run h W
  bits := fun k => by
    unfold Instr.sameBits
    simp [Instr.sameBits]
  und := ⟨_, Tryd.underlying29⟩

def toPart (x : Sl × Int) : PartT := (x.1.1, x.1.2, x.2)
def posL (m : List (Sl × Int)) : List PartT := (m.filter fun x => decide (0 < x.2)).map toPart
abbrev cfS (p q : PartT) : Int := slotC p.1 p.2.1 q.1 q.2.1
theorem swoS : Go.Sort.SWO (ltOf cfS) where
  irrefl x := by
    unfold ltOf
    rw [decide_eq_false_iff_not, slotC_lt]
    unfold slt; omega
  trans x y z h k := by
    unfold ltOf at *
    rw [decide_eq_true_iff, slotC_lt] at *
    exact slt_trans h k
  ntrans x y z h k := by
    unfold ltOf at *
    rw [decide_eq_false_iff_not, slotC_lt] at *
    unfold slt at *; omega

theorem slt_of {p q : PartT} (h : ¬ slt q p) (hne : slotOf p ≠ slotOf q) : slt p q := by
  unfold slt at *
  simp only [slotOf, ne_eq, Prod.mk.injEq] at hne
  omega
theorem posL_append (a b : List (Sl × Int)) : posL (a ++ b) = posL a ++ posL b := by unfold posL; rw [List.filter_append, List.map_append]
theorem posL_len (a : List (Sl × Int)) : (posL a).length ≤ a.length := by unfold posL; rw [List.length_map]; exact List.length_filter_le ..

theorem c41 {w0 : World} {M0 : Nat → Prop} {gs0 : List Nat} (hm : OwnM w0 M0 gs0 W r slV (Value.int .i64) m) (hnd : (m.map (·.1)).Nodup) (hl : m.length ≤ 1000000) :
    RetQ Tryd.prog 41 #[.map (some r)] W fun v W' => ∃ l' : List PartT, W'.ownsRow W.heap.size 46 3 v l'.length (l'.flatMap partE) ∧ (∀ p : PartT, p ∈ l' ↔ 0 < p.2.2 ∧ (slotOf p, p.2.2) ∈ m) ∧ l'.Pairwise slt := by
  intro R hR
  refine f41_calls _ W R ?_
  unfold f41_vc
  refine opw_range (kt := 29) (et := 2) (by kernel_rfl) (At.refl W) hm fun q w2 hq hA _ hb2 hi => ⟨_, rfl, ?_⟩
  refine ⟨fun v W' => At W [] W' ∧ ∃ done rest cur, OwnL W [] W' 46 3 partE (.slice v.1.1 v.1.2.1 v.1.2.2) (posL done) ∧ Itr W noB [] W' q r slV (Value.int .i64) m rest cur ∧ (done ++ rest).Perm m, fun _ W' => itLeft W' q r, ⟨hA, [], m, none, OwnL.nil, hi, by simp⟩, ?_⟩
  rintro a6 n7 n8 w9 ⟨hA, done, rest, cur, ho, hi, hperm⟩
  simp only at ho
  have hn7 := ho.len
  have hpl := hperm.length_eq
  rw [List.length_append] at hpl
  have hdl := posL_len done
  have hleft := hi.left
  have hob : ∀ k, (Value.slice a6 n7 n8).ownBlock = some k → k ≠ q ∧ k ≠ r := fun k hk => by
    obtain ⟨cur', hcur⟩ := ho.blk hk
    obtain ⟨es, clock, since, c0, seen, h1, _, _, _, h5, _⟩ := hi.obj
    refine ⟨fun e => ?_, cells_map hcur h1⟩
    subst e
    rw [hcur] at h5
    cases h5
  refine opw_next hA hi (fun hr => ⟨.inl rfl, fun _ => ?_, fun _ _ _ e => by simp at e⟩) fun x ra rb w11 hr hA hk hch hi => ⟨.inr ⟨((x.1.1, x.1.2, ()), x.2, ()), rfl⟩, fun e => by simp at e, fun x14 x15 x16 _ => ?_⟩
  · subst hr
    rw [List.append_nil] at hperm
    have hsort := at_sortFunc (P := Tryd.prog) (ρ := Tryd.sortPt_ren) Tryd.sortPt (k := 3) (f := partE) (e := 46) (by kernel_rfl) (by kernel_rfl) (fun _ => rfl) (fun x => part_one x) cfS swoS (g := 61) (cb := #[]) (enters_of Tryd.func61 (by kernel_rfl) rfl) hA ho (fun W' _ x y => c61 x y W') (by omega)
      (K := fun e w13 => e = Ending.returned (Value.tuple #[]) ∧ R (Ending.returned (.slice a6 n7 n8)) w13) fun l' w' hA' hk' hch ho' hp hw => ⟨rfl, ?_⟩
    · exact hsort
    have hmem : ∀ p : PartT, p ∈ l' ↔ 0 < p.2.2 ∧ (slotOf p, p.2.2) ∈ m := fun p => by
      rw [hp.mem_iff, posL, List.mem_map]
      constructor
      · rintro ⟨y, hy, rfl⟩
        have hy := List.mem_filter.1 hy
        exact ⟨by simpa [toPart] using hy.2, hperm.mem_iff.1 hy.1⟩
      · rintro ⟨h1, h2⟩
        exact ⟨(slotOf p, p.2.2), List.mem_filter.2 ⟨hperm.mem_iff.2 h2, by simpa using h1⟩, rfl⟩
    have hnd' : (l'.map slotOf).Nodup := by
      have h1 : (posL done).map slotOf = (done.filter fun x => decide (0 < x.2)).map (·.1) := by
        unfold posL
        rw [List.map_map]
        rfl
      have h2 : ((done.filter fun x => decide (0 < x.2)).map (·.1)).Nodup := ((hperm.map (·.1)).nodup_iff.2 hnd).sublist ((List.filter_sublist).map _)
      rw [← h1] at h2
      exact (hp.map slotOf).nodup_iff.2 h2
    refine hR _ _ hA'.below ⟨l', ?_, hmem, ?_⟩
    · have := ho'.row
      rw [hp.length_eq] at this ⊢
      rw [hn7]
      rw [hn7] at this
      exact this
    · rw [List.Nodup, List.pairwise_map] at hnd'
      exact (hw.and hnd').imp fun {x y} h => slt_of (fun hlt => h.1 ((slotC_lt y x).2 hlt)) h.2
  · have ho := ho.chg hch fun k hk e => (hob k hk).1 e
    refine opw_entry hi ⟨_, _, _, rfl, ?_⟩
    rw [hr] at hperm hpl hleft
    simp only [List.length_append, List.length_cons] at hpl hleft
    have hperm' : (done ++ [x] ++ (ra ++ rb)).Perm m := by
      rw [List.append_assoc, List.singleton_append]
      exact List.Perm.trans (List.Perm.append_left _ List.perm_middle.symm) hperm
    intro n22 hn22
    refine brD (fun hpos => ?_) (fun hz => ?_)
    · intro w23 hev hun
      have hbel := hev.bel (by simpa using hn22)
      have hA : At W [n22] w23 := ⟨(hA.call hbel).chg, hun⟩
      have hi := hi.call hbel
      have ho := (ho.more (gs' := [n22]) (by intro g h1 _; simp at h1; omega)).call hbel
      refine opw_push (e' := 46) (bytes := 24) hA ho (toPart x) (by kernel_rfl) (by kernel_rfl) rfl (fun _ _ => rfl) (part_one _) (by omega) (by decide) fun a2 c2 w30 hA ho' hgr _ => ?_
      have hgk : ∀ {y}, y < w23.heap.size → (Value.slice a6 n7 n8).ownBlock ≠ some y → w30.heap[y]? = w23.heap[y]? := fun {y} hy hne => hgr.block y hy fun e => hne e.symm
      have hi' := hi.keep (hgk hi.lts.1 fun e => (hob q e).1 rfl) (hgk hi.lts.2.1 fun e => (hob r e).2 rfl)
      refine ⟨⟨hA.off, done ++ [x], ra ++ rb, some x, ?_, hi', hperm'⟩, ?_⟩
      · have e : posL (done ++ [x]) = posL done ++ [toPart x] := by rw [posL_append]; simp [posL, hpos]
        rw [e]
        exact ho'.more (by simp)
      · show itLeft w30 q r < itLeft w9 q r
        rw [hi'.left, hleft]
        simp
    · intro w34 hev hun
      have hbel := hev.bel (by simpa using hn22)
      have hi := hi.call hbel
      refine ⟨⟨(hA.call hbel).off, done ++ [x], ra ++ rb, some x, ?_, hi, hperm'⟩, ?_⟩
      · have e : posL (done ++ [x]) = posL done := by rw [posL_append]; simp [posL, hz]
        simp only
        rw [e]
        exact ho.call hbel
      · show itLeft w34 q r < itLeft w9 q r
        rw [hi.left, hleft]
        simp

/-! ### Of -/
theorem qsum_two {a b : Int} (ha : 0 ≤ a ∧ a ≤ 9007199254740992) (hb : I64 b) : qsum 9007199254740992 [a, b] = if 0 ≤ b ∧ a + b ≤ 9007199254740992 then (a + b, true) else (0, false) := by
  unfold qsum I64 at *
  rw [if_neg (by omega)]
  simp only [qgo]
  repeat' split
  all_goals first | omega | (congr 1; omega) | rfl | skip

/-- The map of the parts so far. -/
structure MapOf (m : List (Sl × Int)) (l : List PartT) : Prop where
  nd : (m.map (·.1)).Nodup
  get : ∀ s, mget s m = if ∃ p ∈ l, slotOf p = s then some (tot s l) else none
  len : m.length ≤ l.length
  good : ∀ p ∈ l, goodP p
  le : ∀ s, tot s l ≤ topQ
theorem MapOf.step {l : List PartT} {p : PartT} (h : MapOf m l) (hp : goodP p) (hle : tot (slotOf p) l + p.2.2 ≤ topQ) : MapOf (mset (slotOf p) (tot (slotOf p) l + p.2.2) m) (l ++ [p]) := by
  have htot : ∀ s, tot s (l ++ [p]) = tot s l + if slotOf p = s then p.2.2 else 0 := fun s => by rw [tot_append]; simp [tot]
  refine ⟨mset_nodup h.nd, fun s => ?_, ?_, fun q hq => ?_, fun s => ?_⟩
  · by_cases hs : s = slotOf p
    · subst hs
      rw [mget_mset_self, if_pos ⟨p, by simp, rfl⟩, htot, if_pos rfl]
    · rw [mget_mset_ne _ hs, h.get s, htot, if_neg (Ne.symm hs), Int.add_zero]
      have : (∃ q ∈ l ++ [p], slotOf q = s) ↔ ∃ q ∈ l, slotOf q = s := by
        constructor
        · rintro ⟨q, hq, e⟩
          rcases List.mem_append.1 hq with hq | hq
          · exact ⟨q, hq, e⟩
          · simp at hq
            subst hq
            exact absurd e.symm hs
        · rintro ⟨q, hq, e⟩
          exact ⟨q, by simp [hq], e⟩
      by_cases hh : ∃ q ∈ l, slotOf q = s
      · rw [if_pos hh, if_pos (this.2 hh)]
      · rw [if_neg hh, if_neg fun e => hh (this.1 e)]
  · rw [mset_length, List.length_append, List.length_singleton]
    have := h.len
    split <;> omega
  · rcases List.mem_append.1 hq with hq | hq
    · exact h.good q hq
    · simp at hq; subst hq; exact hp
  · rw [htot]
    split
    · rename_i e; rw [← e]; exact hle
    · have := h.le s; omega
theorem vof_bad {l : List PartT} {i : Nat} {p : PartT} (hp : l[i]? = some p) (h : ¬ (goodP p ∧ tot (slotOf p) (l.take i) + p.2.2 ≤ topQ)) : vof l = none := by
  unfold vof
  rw [if_neg]
  rintro ⟨h1, h2⟩
  have hmem := List.mem_of_getElem? hp
  refine h ⟨h1 p hmem, ?_⟩
  have h3 := h2 p hmem
  have e : l = l.take i ++ p :: l.drop (i + 1) := by
    conv => lhs; rw [← List.take_append_drop i l, drop_cons hp]
  have h4 : tot (slotOf p) l = tot (slotOf p) (l.take i) + (p.2.2 + tot (slotOf p) (l.drop (i + 1))) := by
    conv => lhs; rw [e, tot_append, tot, if_pos rfl]
  have h5 : 0 ≤ tot (slotOf p) (l.drop (i + 1)) := tot_nonneg fun q hq => (h1 q (List.mem_of_mem_drop hq)).2
  omega

theorem c14 {l : List PartT} {a : Option Addr} {n c : Nat} (w : World) (hs : SlE w 3 partE l a n c) (hl : l.length ≤ 1000000) (hI : ∀ p ∈ l, I64 p.2.2) : RetLB Tryd.prog 14 #[.slice a n c] w 46 3 partE (vout (vof l)) (vof l).isSome := by
  intro R h
  refine f14_calls a n c w R ?_
  unfold f14_vc
  have hn := hs.1
  subst hn
  refine opw_makeMapR (kf := slV) (vf := Value.int .i64) (kt := 29) (et := 2) (by kernel_rfl) (At.refl w) fun g w2 hg hA _ hb2 hm => ⟨_, rfl, ?_⟩
  refine ⟨fun v W => At w [] W ∧ ∃ (i : Nat) (m : List (Sl × Int)), v.1 = i ∧ i ≤ l.length ∧ OwnM w noB [] W g slV (Value.int .i64) m ∧ MapOf m (l.take i), fun v _ => (l.length - v.1).toNat, ⟨hA, 0, [], rfl, Nat.zero_le _, hm, ⟨List.nodup_nil, fun s => by simp [mget], by simp, by simp, fun s => by simp [tot]⟩⟩, ?_⟩
  rintro x6 w7 ⟨hA, i, m, hi, hil, hm, hM⟩
  simp only at hi
  subst hi
  have none_leaf : ∀ {W' : World} {gs}, At w gs W' → vof l = none → R (.returned (.tuple #[.slice none 0 0, .bool false])) W' := fun hA e => leaflb h hA OwnL.nil (by rw [e]; rfl) (by rw [e]; rfl)
  refine brD (fun hlt => ?_) (fun hge => ?_)
  · obtain ⟨p, hp⟩ : ∃ x, l[i]? = some x := ⟨_, List.getElem?_eq_getElem (by omega)⟩
    have hIp := hI p (List.mem_of_getElem? hp)
    obtain ⟨ad, g1, el, _⟩ := elt_at (P := Tryd.prog) (k := .i64) (t := 22) (hs.call hA.below) hp (e := 46) (by kernel_rfl) (by kernel_rfl)
    have htk : l.take (i + 1) = l.take i ++ [p] := by rw [List.take_add_one, hp]; rfl
    refine ⟨ad, g1, _, _, _, el.agg 3 (by kernel_rfl) (by kernel_rfl) (by simp) (by simp), ?_⟩
    intro n12 hn12 w13 hev hun
    have hbel := hev.bel (by simpa using hn12)
    have hA : At w [n12] w13 := ⟨(hA.call hbel).chg, hun⟩
    have hm := (hm.more (gs' := [n12]) (by intro g h1 _; simp at h1; omega)).call hbel
    refine at_callb hA (c36 _ _ _ w13) fun w15 hA hk hb => ⟨_, _, rfl, hk, ?_⟩
    have hm := hm.call hb
    have hold : (mget (slotOf p) m).getD 0 = tot (slotOf p) (l.take i) := by
      rw [hM.get]
      split
      · rfl
      · rename_i hno
        rw [tot_none fun q hq e => hno ⟨q, hq, e⟩]; rfl
    have hlook : Reads Tryd.prog [] (Instr.lookup 51 (.map (some g)) (slV (slotOf p)) false) w15 (.int .i64 (tot (slotOf p) (l.take i))) := fun W' hb' => by
      have h' := run_lookup_m (P := Tryd.prog) (kt := 29) (t := 51) (et := 2) (z := .int .i64 0) keyOk_sl (by kernel_rfl) (by kernel_rfl) (hm.call hb') (slotOf p) false
      rw [h', ← hold]
      cases mget (slotOf p) m <;> rfl
    have h0 : 0 ≤ tot (slotOf p) (l.take i) := tot_nonneg fun q hq => (hM.good q hq).2
    have h1 := hM.le (slotOf p)
    simp only [topQ] at h1
    refine ⟨_, hlook, ?_⟩
    refine at_callb hA (c40 _ _ 9007199254740992 (by unfold I64; omega) hIp (by unfold I64; omega) w15) fun w20 hA hk hb => ⟨_, _, rfl, hk, ?_⟩
    rw [qsum_two ⟨h0, h1⟩ hIp]
    have hm := hm.call hb
    refine brNB (fun hno => ?_) (fun hyes => ?_)
    · refine none_leaf hA (vof_bad hp fun hh => ?_)
      rw [if_pos ⟨hh.1.2, hh.2⟩] at hno
      cases hno
    have hyes : 0 ≤ p.2.2 ∧ tot (slotOf p) (l.take i) + p.2.2 ≤ 9007199254740992 := by
      apply Classical.byContradiction
      intro hn
      rw [if_neg hn] at hyes
      cases hyes
    rw [if_pos hyes]
    refine at_callb hA (c36 _ _ _ w20) fun w24 hA hk hb => ⟨_, _, rfl, hk, ?_⟩
    have hm := hm.call hb
    refine at_callb hA (c35 _ _ w24) fun w28 hA hk hb => ⟨_, rfl, hk, ?_⟩
    have hm := hm.call hb
    refine brND (fun hno => none_leaf hA (vof_bad hp fun hh => hno hh.1.1)) (fun hsl => ?_)
    refine at_callb hA (c36 _ _ _ w28) fun w31 hA hk hb => ⟨_, _, rfl, hk, ?_⟩
    have hm := hm.call hb
    refine opw_mapUpdate (kf := slV) (vf := Value.int .i64) (k := slotOf p) (v := tot (slotOf p) (l.take i) + p.2.2) (kt := 29) (et := 2) keyOk_sl (by kernel_rfl) hA hm fun w35 hA hk _ hm => ⟨hk, ?_⟩
    rw [succ_i i (by omega)]
    refine ⟨⟨hA.off, i + 1, _, rfl, by omega, hm.base0 (hm.mine.resolve_right id), ?_⟩, by simp only; omega⟩
    rw [htk]
    exact hM.step ⟨hsl, hyes.1⟩ hyes.2
  · have hie : i = l.length := by omega
    subst hie
    rw [List.take_length] at hM
    have hvof : vof l = some (canon l) := by
      unfold vof
      rw [if_pos ⟨hM.good, fun p _ => hM.le _⟩]
    refine at_callq hA (c41 hm hM.nd (by have := hM.len; omega)) fun v w37 hA' hk hb ⟨l', hrow, hmem, hpw⟩ => ?_
    have hrow' : OwnL w [] w37 46 3 partE v l' := OwnF.ret hA hrow rfl rfl
    obtain ⟨a', c', rfl, hs'⟩ := hrow'.slice fun _ _ => rfl
    refine ⟨_, _, _, rfl, leaflb h hA' hrow' ?_ (by rw [hvof]; rfl)⟩
    rw [hvof]
    show l' = canon l
    have hin : ∀ p : PartT, (slotOf p, p.2.2) ∈ m ↔ (∃ q ∈ l, slotOf q = slotOf p) ∧ p.2.2 = tot (slotOf p) l := fun p => by
      constructor
      · intro hp
        have := mget_of_mem hM.nd hp
        rw [hM.get] at this
        split at this
        · rename_i hh
          exact ⟨hh, (Option.some.inj this).symm⟩
        · cases this
      · rintro ⟨hh, e⟩
        refine mem_of_mget ?_
        rw [hM.get, if_pos hh, e]
    have hpR : ∀ p ∈ l', partR p := fun p hp => by
      obtain ⟨h1, h2⟩ := (hmem p).1 hp
      obtain ⟨⟨q, hq, e⟩, h4⟩ := (hin p).1 h2
      have h5 := (hM.good q hq).1
      have h6 := hM.le (slotOf p)
      simp only [slotOf, Prod.mk.injEq] at e
      rw [e.1, e.2] at h5
      simp only [topQ] at h6
      exact ⟨h5, by omega, by omega⟩
    have hcan := canon_vec (l := l) fun s _ => hM.le s
    refine vec_ext (vecB_iff.2 ⟨hpR, hpw⟩) hcan fun s => ?_
    have hamt : ∀ {k : List PartT}, k.Pairwise slt → (∀ p : PartT, p ∈ k ↔ 0 < p.2.2 ∧ slotR p.1 p.2.1 ∧ p.2.2 = tot (slotOf p) l) → amt s k = if slotR s.1 s.2 ∧ 0 < tot s l then tot s l else 0 := fun {k} hk hm => by
      split
      · rename_i hh
        exact amt_mem hk (p := (s.1, s.2, tot s l)) ((hm _).2 ⟨hh.2, hh.1, rfl⟩)
      · rename_i hh
        refine amt_none fun p hp e => hh ?_
        obtain ⟨h1, h2, h3⟩ := (hm p).1 hp
        rw [e] at h3
        refine ⟨?_, by omega⟩
        simp only [slotOf] at e
        rw [← e]; exact h2
    rw [hamt hpw fun p => ?_, hamt (canon_sorted l) fun p => ?_]
    · rw [mem_canon]
      exact ⟨fun h => ⟨h.2.2, h.1, h.2.1⟩, fun h => ⟨h.2.1, h.2.2, h.1⟩⟩
    · rw [hmem, hin]
      constructor
      · rintro ⟨h1, ⟨q, hq, e⟩, h3⟩
        have h5 := (hM.good q hq).1
        simp only [slotOf, Prod.mk.injEq] at e
        rw [e.1, e.2] at h5
        exact ⟨h1, h5, h3⟩
      · rintro ⟨h1, h2, h3⟩
        exact ⟨h1, tot_pos_mem (by omega), h3⟩
end Go.Vc.VD

/- A part of an own slice's element is stored. -/
namespace Go.Vc
open Go Go.RowKit
section
variable {α : Type} {P : Program} {w W : World} {M : Nat → Prop} {gs : List Nat} {e : TypeId} {size : Nat} {f : α → List Value} {a : Option Addr} {n c : Nat} {l : List α}

theorem part_swap {β : Type} {A X B ys : List β} {o m : Nat} (h : o + m ≤ X.length) : (A ++ X ++ B).take (A.length + o) ++ ys ++ (A ++ X ++ B).drop (A.length + o + m) = A ++ (X.take o ++ ys ++ X.drop (o + m)) ++ B := by
  have e1 : (A ++ X ++ B).take (A.length + o) = A ++ X.take o := by
    rw [List.append_assoc, List.take_append, List.take_of_length_le (by omega), Nat.add_sub_cancel_left, List.take_append_of_le_length (by omega)]
  have e2 : (A ++ X ++ B).drop (A.length + o + m) = X.drop (o + m) ++ B := by
    rw [List.append_assoc, List.drop_append, List.drop_of_length_le (by omega), List.nil_append, show A.length + o + m - A.length = o + m by omega, List.drop_append_of_le_length (by omega)]
  rw [e1, e2]
  simp only [List.append_assoc]

theorem opw_storeP {te : TypeId} {i o m : Nat} {x0 y : α} {x : Value} (hA : AtF w M gs W) (ho : OwnF w M gs W e size f (.slice a n c) l) (hf : ∀ x ∈ l, (f x).length = size) (hx : l[i]? = some x0) (hom : o + m ≤ size) (hy : f y = (f x0).take o ++ x.cells.toList ++ (f x0).drop (o + m)) (hxl : x.cells.toList.length = m) (h1 : x.cells.toList.all oneCell = true) (hsz : pureRun P (sizeOf te) = some m) {K : Value → World → Prop} {ad : Addr} (had : ∀ g, a = some ⟨g, 0, none⟩ → ad = ⟨g, i * size + o, none⟩)
    (h : ∀ w', AtF w M gs w' → Keeps gs W w' → Chg (fun b => (Value.slice a n c).ownBlock = some b) W w' → OwnF w M gs w' e size f (.slice a n c) (l.set i y) → K undef w') :
    OpW P (skipS (Instr.storeAt te (.pointer (some ad)) x)) W K := by
  have hi := (List.getElem?_eq_some_iff.1 hx).1
  obtain ⟨g, cur, rfl, hge, hg, hlc, hcm, hcs, htk⟩ := ho.ptr (by omega)
  have had := had g rfl
  subst had
  have hn := ho.len
  have hlx : (f x0).length = size := hf x0 (List.mem_of_getElem? hx)
  have hle : i * size + size ≤ l.length * size := by
    have := Nat.mul_le_mul_right size (show i + 1 ≤ l.length by omega)
    rw [Nat.add_mul] at this
    omega
  have hle2 : l.length * size ≤ cur.size := by rw [hcs]; exact Nat.mul_le_mul_right _ hlc
  have hcl : cellStore P te cur.toList (i * size + o) x = some (cur.toList.take (i * size + o) ++ x.cells.toList ++ cur.toList.drop (i * size + o + m)) := by
    unfold cellStore
    rw [hsz]
    have b1 : Nat.beq x.cells.toList.length m = true := by rw [hxl]; exact Nat.beq_refl _
    have b2 : Nat.ble (i * size + o + m) cur.toList.length = true := Nat.ble_eq_true_of_le (by rw [Array.length_toList]; omega)
    simp only [b1, b2, h1]
    rfl
  obtain ⟨W', hr, hg', hb, hs1, h2, h3, h4⟩ := run_cellStore (P := P) (t := te) (cells := cur.toList) (by simpa using hg) hcl
  have hch : Chg (fun b => (Value.slice (some ⟨g, 0, none⟩) n c).ownBlock = some b) W W' := ⟨h2, h3, h4, by omega, fun k _ hk => hb k (fun e => hk (by rw [e]; rfl)), run_drawn hr⟩
  have hsk : (skipS (Instr.storeAt te (.pointer (some ⟨g, i * size + o, none⟩)) x)).run P W = .ok .skip W' := by
    unfold skipS
    rw [run_bind_ok hr]
    rfl
  unfold OpW
  rw [hsk]
  have hlf := flatMap_len hf
  have hset : ∀ z ∈ l.set i y, (f z).length = size := fun z hz => by
    rcases List.mem_or_eq_of_mem_set hz with hz | rfl
    · exact hf z hz
    · rw [hy]
      simp only [List.length_append, List.length_take, List.length_drop, hlx, hxl]
      omega
  refine h W' (hA.step hch fun b _ hb => ho.mine b hb) (hA.keepsC hch fun x hx hb => ho.apart x hx hb) hch ⟨?_, ho.mine, ho.apart⟩
  refine ⟨flatMap_len hset, .inr ⟨g, c, _, by rw [List.length_set, hn], Nat.zero_le _, hg', by rw [List.length_set]; exact hlc, hcm, ?_, ?_⟩⟩
  · simp only [List.size_toArray, List.length_append, List.length_take, List.length_drop, Array.length_toList, hxl]
    omega
  · rw [List.length_set]
    simp only
    have htm := take_mid (cur := cur.toList) (xs := l.flatMap f) (y := x.cells.toList) (L := l.length * size) (a := i * size + o) (s := m) htk hlf hxl (by omega)
    rw [htm]
    have hsplit : l.flatMap f = (l.flatMap f).take (i * size) ++ f x0 ++ (l.flatMap f).drop (i * size + size) := by
      have hp := flatMap_part hf hx
      conv => lhs; rw [← List.take_append_drop (i * size) (l.flatMap f), ← List.take_append_drop size ((l.flatMap f).drop (i * size)), hp, List.drop_drop]
      rw [List.append_assoc]
    have hAl : ((l.flatMap f).take (i * size)).length = i * size := by
      rw [List.length_take, hlf]; omega
    have hps := part_swap (A := (l.flatMap f).take (i * size)) (X := f x0) (B := (l.flatMap f).drop (i * size + size)) (ys := x.cells.toList) (o := o) (m := m) (by omega)
    rw [← hsplit, hAl] at hps
    rw [hps, ← hy, flatMap_set hf hi]

theorem own_elt {t : TypeId} {i : Nat} {x : α} {k : IntKind} (ho : OwnF w M gs W e size f (.slice a n c) l) (hf : ∀ x ∈ l, (f x).length = size) (hx : l[i]? = some x) (ht : P.underlying t = some (.slice e)) (hz : pureRun P (sizeOf e) = some size) :
    ∃ g, a = some ⟨g, 0, none⟩ ∧ Gives P (Instr.indexAt t (.slice a n c) (.int k (i : Int))) (.pointer (some ⟨g, i * size, none⟩)) ∧ Elt W ⟨g, i * size, none⟩ (f x) := by
  have hi := (List.getElem?_eq_some_iff.1 hx).1
  obtain ⟨g, cur, rfl, _⟩ := ho.ptr (by omega)
  have hs := ho.sl hf
  have hn := ho.len
  obtain ⟨ad', cs, ha, hcl, hcs, rfl⟩ := hs.at_ hx
  cases ha
  have e1 : (⟨g, 0, none⟩ : Addr).add (i * size) = ⟨g, i * size, none⟩ := by rw [addr_add]; simp
  refine ⟨g, rfl, ?_, ?_⟩
  · have := gives_index (P := P) (t := t) (k := k) (ad := ⟨g, 0, none⟩) (len := n) (cap := c) (i := i) ht hz (by omega)
    rw [e1] at this
    exact this
  · intro j v hv
    have := hcs j v hv
    rw [e1] at this
    exact this
end
end Go.Vc

/- vec.Move. -/
set_option maxRecDepth 20000
set_option maxHeartbeats 1000000
namespace Go.Vc.VD
open Go Go.Vc Go.Vc.V Go.RowKit Go.Proofs Vcx

def mvP (f t : Int) (p : PartT) : PartT := if p.2.1 = f then (p.1, t, p.2.2) else p
def vmove (l : List PartT) (f t : Int) : Option (List PartT) := if vecB l = true ∧ slotR 0 f ∧ slotR 0 t then vof (l.map (mvP f t)) else none

theorem c21 {l : List PartT} {a : Option Addr} {n c : Nat} (f t : Int) (w : World) (hs : SlE w 3 partE l a n c) (hl : l.length ≤ 1000000) : RetLB Tryd.prog 21 #[.slice a n c, .int .i64 f, .int .i64 t] w 46 3 partE (vout (vmove l f t)) (vmove l f t).isSome := by
  intro R h
  refine f21_calls a n c f t w R ?_
  unfold f21_vc
  have no : ∀ {W : World} {gs}, At w gs W → ¬ (vecB l = true ∧ slotR 0 f ∧ slotR 0 t) → R (.returned (.tuple #[.slice none 0 0, .bool false])) W := fun hA hn =>
    leaflb h hA OwnL.nil (by unfold vmove; rw [if_neg hn]; rfl) (by unfold vmove; rw [if_neg hn]; rfl)
  refine at_callb (At.refl w) (c11 w hs) fun w2 hA _ hb2 => ⟨_, rfl, brNB (fun hv => no hA fun hh => by rw [hv] at hh; cases hh.1) (fun hv => ?_)⟩
  refine at_callb hA (c35 0 f w2) fun w5 hA _ hb5 => ⟨_, rfl, brND (fun hf => no hA fun hh => hf hh.2.1) (fun hf => ?_)⟩
  refine at_callb hA (c35 0 t w5) fun w8 hA _ hb8 => ⟨_, rfl, brND (fun ht => no hA fun hh => ht hh.2.2) (fun ht => ?_)⟩
  have hyes : vmove l f t = vof (l.map (mvP f t)) := if_pos ⟨hv, hf, ht⟩
  rw [hyes] at h
  refine at_calll hA (c20 w8 (hs.call hA.below) hl) (fun _ _ => rfl) fun a12 d12 w11 hA _ _ ho _ => ⟨_, _, _, rfl, ?_⟩
  refine ⟨fun v W => At w [] W ∧ ∃ i : Nat, v.1 = i ∧ i ≤ l.length ∧ OwnL w [] W 46 3 partE (.slice a12 l.length d12) ((l.take i).map (mvP f t) ++ l.drop i), fun v _ => (l.length - v.1).toNat, ⟨hA, 0, rfl, Nat.zero_le _, by simpa using ho⟩, ?_⟩
  rintro x17 w18 ⟨hA, i, hi, hil, ho⟩
  simp only at hi
  subst hi
  refine brD (fun hlt => ?_) (fun hge => ?_)
  · obtain ⟨p, hp⟩ : ∃ x, l[i]? = some x := ⟨_, List.getElem?_eq_getElem (by omega)⟩
    have htk : l.take (i + 1) = l.take i ++ [p] := by rw [List.take_add_one, hp]; rfl
    have hli : ((l.take i).map (mvP f t)).length = i := by rw [List.length_map, List.length_take]; omega
    have hdr := drop_cons hp
    have hx : ((l.take i).map (mvP f t) ++ l.drop i)[i]? = some p := by
      rw [List.getElem?_append_right (by omega), hli, Nat.sub_self, hdr]; rfl
    obtain ⟨g, hag, g1, el⟩ := own_elt (P := Tryd.prog) (k := .i64) (t := 22) ho (fun _ _ => rfl) hx (by kernel_rfl) (by kernel_rfl)
    refine ⟨_, g1, _, (el.sub (o := 1) (by decide)).one (by kernel_rfl) (by simp), brE (fun he => ?_) (fun hne => ?_)⟩
    · refine ⟨_, g1, ?_⟩
      refine opw_storeP (i := i) (o := 1) (m := 1) (x0 := p) (y := mvP f t p) hA ho (fun _ _ => rfl) hx (by decide) ?_ rfl rfl (by kernel_rfl) (fun g' hg' => ?_) fun w23 hA _ _ ho => ?_
      · unfold mvP
        rw [if_pos he]
        rfl
      · rw [hag] at hg'
        cases hg'
        rfl
      · rw [succ_i i (by omega)]
        refine ⟨⟨hA, i + 1, rfl, by omega, ?_⟩, by simp only; omega⟩
        have e : ((l.take i).map (mvP f t) ++ l.drop i).set i (mvP f t p) = (l.take (i + 1)).map (mvP f t) ++ l.drop (i + 1) := by
          rw [List.set_append_right _ _ (by omega), hli, Nat.sub_self, hdr, htk, List.map_append]
          simp
        rw [← e]
        exact ho
    · rw [succ_i i (by omega)]
      refine ⟨⟨hA, i + 1, rfl, by omega, ?_⟩, by simp only; omega⟩
      have e : (l.take i).map (mvP f t) ++ l.drop i = (l.take (i + 1)).map (mvP f t) ++ l.drop (i + 1) := by
        rw [hdr, htk, List.map_append]
        simp [mvP, hne]
      rw [← e]
      exact ho
  · have hie : i = l.length := by omega
    subst hie
    rw [List.take_length, List.drop_length, List.append_nil] at ho
    have hs' := ho.sl fun _ _ => rfl
    have hR := (vecB_iff.1 hv).1
    have ho' : (l.map (mvP f t)).length = l.length := List.length_map ..
    refine at_calllb hA (c14 w18 (n := l.length) hs' (by omega) (fun p hp => ?_)) (fun _ _ => rfl) fun a26 d26 w25 hA _ _ ho _ => ⟨_, _, _, _, rfl, leaflb h hA ho rfl rfl⟩
    obtain ⟨q, hq, rfl⟩ := List.mem_map.1 hp
    have := (hR q hq).2
    have e : (mvP f t q).2.2 = q.2.2 := by unfold mvP; split <;> rfl
    rw [e]
    unfold I64
    omega
end Go.Vc.VD

/- The formulas of functions, printed by a program (VcTool.lean): each is what the generator's formula comes to, by the kernel's reckoning; whoever proves one has the function's contract. -/
set_option maxRecDepth 100000
set_option maxHeartbeats 1000000
set_option linter.unusedVariables false
namespace Vcx
open Go Go.Vc Go.RowKit
/-! manciple/mancipleref05.Of -/
def h15 : Hints := ⟨[], [20, 40, 45, 51, 66], [15, 24, 29, 35, 47, 62], [(15, [0, 1, 2, 3, 5, 6, 7, 8, 4, 9])], [], [(2, ⟨[(4, .int .i64)], []⟩), (9, ⟨[(6, .sl), (7, .int .i64)], []⟩), (13, ⟨[(8, .sl), (9, .int .i64)], []⟩)], [], [], []⟩
def f15_vc (la : Option Addr) (ln : Nat) (lc : Nat) (w : World) (R : Ending → World → Prop) : Prop :=
 ∃ (J1 : Int × Unit → World → Prop),
 ∃ (J2 : Int × Unit → World → Nat),
 J1 (0, ()) w ∧
 ∀ (x3 : Int) (w4 : World),
 J1 (x3, ()) w4 →
 (decide (x3 < (↑ln : Int)) = true →
 ∃ (ad5 : Addr),
 Gives Proofs.Tryd.prog (Instr.indexAt 22 (Value.slice la ln lc) (Value.int IntKind.i64 x3)) (Value.pointer (some ad5)) ∧
 ∃ (x6 : Int),
 ∃ (x7 : Int),
 ∃ (x8 : Int),
 Reads Proofs.Tryd.prog [] (Instr.loadAt 46 (Value.pointer (some ad5))) w4 (Value.agg #[Value.int IntKind.i64 x6, Value.int IntKind.i64 x7, Value.int IntKind.i64 x8]) ∧
 Calls Proofs.Tryd.prog 43 #[Value.agg #[Value.int IntKind.i64 x6, Value.int IntKind.i64 x7, Value.int IntKind.i64 x8]] w4 fun (e9 : Ending) (w10 : World) =>
 ∃ (x11 : Int),
 ∃ (x12 : Int),
 e9 = Ending.returned (Value.agg #[Value.int IntKind.i64 x11, Value.int IntKind.i64 x12]) ∧
 Calls Proofs.Tryd.prog 42 #[Value.agg #[Value.int IntKind.i64 x11, Value.int IntKind.i64 x12]] w10 fun (e13 : Ending) (w14 : World) =>
 ∃ (b15 : Bool),
 e13 = Ending.returned (Value.bool b15) ∧
 ((!b15) = true → R (Ending.returned (Value.tuple #[Value.slice none 0 0, Value.bool false])) w14) ∧
 ((!b15) = false → J1 (IntKind.i64.wrap (x3 + 1), ()) w14 ∧ J2 (IntKind.i64.wrap (x3 + 1), ()) w14 < J2 (x3, ()) w4)) ∧
 (decide (x3 < (↑ln : Int)) = false →
 Calls Proofs.Tryd.prog 44 #[] w4 fun (e16 : Ending) (w17 : World) =>
 ∃ (a18 : Option Addr),
 ∃ (n19 : Nat),
 ∃ (n20 : Nat),
 e16 = Ending.returned (Value.slice a18 n19 n20) ∧
 ∃ (J21 : (Option Addr × Nat × Nat) × Int × Unit → World → Prop),
 ∃ (J22 : (Option Addr × Nat × Nat) × Int × Unit → World → Nat),
 J21 ((none, 0, 0), 0, ()) w17 ∧
 ∀ (a23 : Option Addr) (n24 n25 : Nat) (x26 : Int) (w27 : World),
 J21 ((a23, n24, n25), x26, ()) w27 →
 (decide (x26 < (↑n19 : Int)) = true →
 ∃ (J28 : (Option Addr × Nat × Nat) × Int × Unit → World → Prop),
 ∃ (J29 : (Option Addr × Nat × Nat) × Int × Unit → World → Nat),
 J28 ((none, 0, 0), 0, ()) w27 ∧
 ∀ (a30 : Option Addr) (n31 n32 : Nat) (x33 : Int) (w34 : World),
 J28 ((a30, n31, n32), x33, ()) w34 →
 (decide (x33 < (↑ln : Int)) = true →
 ∃ (ad35 : Addr),
 Gives Proofs.Tryd.prog (Instr.indexAt 22 (Value.slice la ln lc) (Value.int IntKind.i64 x33)) (Value.pointer (some ad35)) ∧
 ∃ (x36 : Int),
 ∃ (x37 : Int),
 ∃ (x38 : Int),
 Reads Proofs.Tryd.prog [] (Instr.loadAt 46 (Value.pointer (some ad35))) w34 (Value.agg #[Value.int IntKind.i64 x36, Value.int IntKind.i64 x37, Value.int IntKind.i64 x38]) ∧
 ∃ (ad39 : Addr),
 Gives Proofs.Tryd.prog (Instr.indexAt 55 (Value.slice a18 n19 n20) (Value.int IntKind.i64 x26)) (Value.pointer (some ad39)) ∧
 ∃ (x40 : Int),
 ∃ (x41 : Int),
 Reads Proofs.Tryd.prog [] (Instr.loadAt 29 (Value.pointer (some ad39))) w34 (Value.agg #[Value.int IntKind.i64 x40, Value.int IntKind.i64 x41]) ∧
 ∀ (w42 : World),
 Bel w34 w42 →
 Calls Proofs.Tryd.prog 43 #[Value.agg #[Value.int IntKind.i64 x36, Value.int IntKind.i64 x37, Value.int IntKind.i64 x38]] w42 fun (e43 : Ending) (w44 : World) =>
 ∃ (x45 : Int),
 ∃ (x46 : Int),
 e43 = Ending.returned (Value.agg #[Value.int IntKind.i64 x45, Value.int IntKind.i64 x46]) ∧
 Reads Proofs.Tryd.prog [] (Instr.loadAt 29 (Value.pointer (some ad39))) w44 (Value.agg #[Value.int IntKind.i64 x40, Value.int IntKind.i64 x41]) ∧
 ((x45 == x40 && (x46 == x41 && true)) = true →
 ∃ (ad47 : Addr),
 Gives Proofs.Tryd.prog (Instr.indexAt 22 (Value.slice la ln lc) (Value.int IntKind.i64 x33)) (Value.pointer (some ad47)) ∧
 ∃ (x48 : Int),
 Reads Proofs.Tryd.prog [] (Instr.loadAt 2 (Value.pointer (some (Addr.mk ad47.block (ad47.off + 2) none)))) w44 (Value.int IntKind.i64 x48) ∧
 OpW Proofs.Tryd.prog (valueS (Instr.buildSlice 57 1 #[(0, Value.int IntKind.i64 x48)])) w44 fun (v49 : Value) (w50 : World) =>
 ∃ (a51 : Option Addr),
 ∃ (n52 : Nat),
 ∃ (n53 : Nat),
 v49 = Value.slice a51 n52 n53 ∧
 OpW Proofs.Tryd.prog (builtin Builtin.append #[57, 57] 57 #[false, false] #[Value.slice a30 n31 n32, Value.slice a51 n52 n53]) w50
 fun (v54 : Value) (w55 : World) =>
 ∃ (a56 : Option Addr),
 ∃ (n57 : Nat),
 ∃ (n58 : Nat),
 v54 = Value.slice a56 n57 n58 ∧
 J28 ((a56, n57, n58), IntKind.i64.wrap (x33 + 1), ()) w55 ∧
 J29 ((a56, n57, n58), IntKind.i64.wrap (x33 + 1), ()) w55 < J29 ((a30, n31, n32), x33, ()) w34) ∧
 ((x45 == x40 && (x46 == x41 && true)) = false →
 J28 ((a30, n31, n32), IntKind.i64.wrap (x33 + 1), ()) w44 ∧
 J29 ((a30, n31, n32), IntKind.i64.wrap (x33 + 1), ()) w44 < J29 ((a30, n31, n32), x33, ()) w34)) ∧
 (decide (x33 < (↑ln : Int)) = false →
 Calls Proofs.Tryd.prog 45 #[Value.int IntKind.i64 9007199254740992, Value.slice a30 n31 n32] w34 fun (e59 : Ending) (w60 : World) =>
 ∃ (x61 : Int),
 ∃ (b62 : Bool),
 e59 = Ending.returned (Value.tuple #[Value.int IntKind.i64 x61, Value.bool b62]) ∧
 ((!b62) = true → R (Ending.returned (Value.tuple #[Value.slice none 0 0, Value.bool false])) w60) ∧
 ((!b62) = false →
 ∃ (ad63 : Addr),
 Gives Proofs.Tryd.prog (Instr.indexAt 55 (Value.slice a18 n19 n20) (Value.int IntKind.i64 x26)) (Value.pointer (some ad63)) ∧
 ∃ (x64 : Int),
 ∃ (x65 : Int),
 Reads Proofs.Tryd.prog [] (Instr.loadAt 29 (Value.pointer (some ad63))) w60 (Value.agg #[Value.int IntKind.i64 x64, Value.int IntKind.i64 x65]) ∧
 Calls Proofs.Tryd.prog 46 #[Value.slice a23 n24 n25, Value.agg #[Value.int IntKind.i64 x64, Value.int IntKind.i64 x65], Value.int IntKind.i64 x61] w60
 fun (e66 : Ending) (w67 : World) =>
 ∃ (a68 : Option Addr),
 ∃ (n69 : Nat),
 ∃ (n70 : Nat),
 e66 = Ending.returned (Value.slice a68 n69 n70) ∧
 J21 ((a68, n69, n70), IntKind.i64.wrap (x26 + 1), ()) w67 ∧
 J22 ((a68, n69, n70), IntKind.i64.wrap (x26 + 1), ()) w67 < J22 ((a23, n24, n25), x26, ()) w27))) ∧
 (decide (x26 < (↑n19 : Int)) = false → R (Ending.returned (Value.tuple #[Value.slice a23 n24 n25, Value.bool true])) w27))
theorem f15_eq (la : Option Addr) (ln : Nat) (lc : Nat) (w : World) (R : Ending → World → Prop) : (fnF Go.Proofs.Tryd.prog h15 Go.Proofs.Tryd.f15 [Value.slice la ln lc] w R).den = f15_vc la ln lc w R := by kernel_rfl
theorem f15_calls (la : Option Addr) (ln : Nat) (lc : Nat) (w : World) (R : Ending → World → Prop) (h : f15_vc la ln lc w R) : Calls Go.Proofs.Tryd.prog 15 (List.toArray [Value.slice la ln lc]) w R :=
 fn_sound (H := h15) (fn := Go.Proofs.Tryd.f15) (by kernel_rfl) (by kernel_rfl) (by kernel_rfl) ((f15_eq la ln lc w R).mpr h)


/-! manciple/mancipleref05.Right -/
def h17 : Hints := ⟨[], [12, 20, 28, 40, 45], [7, 51, 17, 25, 33, 36], [(4, [0, 1, 2, 3, 4, 5, 6, 7, 8, 9, 10, 11, 12, 13, 14, 15, 16, 17, 18, 19, 20, 21, 22, 23, 24, 25, 26, 27, 28, 29, 30, 31, 33, 34, 35, 36, 32, 37, 38, 39, 40, 41])], [], [(2, ⟨[(3, .int .i64)], []⟩)], [], [], []⟩
def f17_vc (va : Option Addr) (vn : Nat) (vc : Nat) (w : World) (R : Ending → World → Prop) : Prop :=
 ∃ (J1 : Int × Unit → World → Prop),
 ∃ (J2 : Int × Unit → World → Nat),
 J1 (0, ()) w ∧
 ∀ (x3 : Int) (w4 : World),
 J1 (x3, ()) w4 →
 (decide (x3 < (↑vn : Int)) = true →
 ∃ (ad5 : Addr),
 Gives Proofs.Tryd.prog (Instr.indexAt 22 (Value.slice va vn vc) (Value.int IntKind.i64 x3)) (Value.pointer (some ad5)) ∧
 ∃ (x6 : Int),
 ∃ (x7 : Int),
 ∃ (x8 : Int),
 Reads Proofs.Tryd.prog [] (Instr.loadAt 46 (Value.pointer (some ad5))) w4 (Value.agg #[Value.int IntKind.i64 x6, Value.int IntKind.i64 x7, Value.int IntKind.i64 x8]) ∧
 ∀ (w9 : World),
 Bel w4 w9 →
 Calls Proofs.Tryd.prog 43 #[Value.agg #[Value.int IntKind.i64 x6, Value.int IntKind.i64 x7, Value.int IntKind.i64 x8]] w9 fun (e10 : Ending) (w11 : World) =>
 ∃ (x12 : Int),
 ∃ (x13 : Int),
 e10 = Ending.returned (Value.agg #[Value.int IntKind.i64 x12, Value.int IntKind.i64 x13]) ∧
 Calls Proofs.Tryd.prog 42 #[Value.agg #[Value.int IntKind.i64 x12, Value.int IntKind.i64 x13]] w11 fun (e14 : Ending) (w15 : World) =>
 ∃ (b16 : Bool),
 e14 = Ending.returned (Value.bool b16) ∧
 ((!b16) = true → R (Ending.returned (Value.bool false)) w15) ∧
 ((!b16) = false →
 ∃ (ad17 : Addr),
 Gives Proofs.Tryd.prog (Instr.indexAt 22 (Value.slice va vn vc) (Value.int IntKind.i64 x3)) (Value.pointer (some ad17)) ∧
 ∃ (x18 : Int),
 Reads Proofs.Tryd.prog [] (Instr.loadAt 2 (Value.pointer (some (Addr.mk ad17.block (ad17.off + 2) none)))) w15 (Value.int IntKind.i64 x18) ∧
 (decide (x18 < 1) = true → R (Ending.returned (Value.bool false)) w15) ∧
 (decide (x18 < 1) = false →
 ∃ (ad19 : Addr),
 Gives Proofs.Tryd.prog (Instr.indexAt 22 (Value.slice va vn vc) (Value.int IntKind.i64 x3)) (Value.pointer (some ad19)) ∧
 ∃ (x20 : Int),
 Reads Proofs.Tryd.prog [] (Instr.loadAt 2 (Value.pointer (some (Addr.mk ad19.block (ad19.off + 2) none)))) w15 (Value.int IntKind.i64 x20) ∧
 (decide (x20 > 9007199254740992) = true → R (Ending.returned (Value.bool false)) w15) ∧
 (decide (x20 > 9007199254740992) = false →
 (decide (x3 > 0) = true →
 ∃ (ad21 : Addr),
 Gives Proofs.Tryd.prog (Instr.indexAt 22 (Value.slice va vn vc) (Value.int IntKind.i64 (IntKind.i64.wrap (x3 - 1)))) (Value.pointer (some ad21)) ∧
 ∃ (x22 : Int),
 ∃ (x23 : Int),
 ∃ (x24 : Int),
 Reads Proofs.Tryd.prog [] (Instr.loadAt 46 (Value.pointer (some ad21))) w15
 (Value.agg #[Value.int IntKind.i64 x22, Value.int IntKind.i64 x23, Value.int IntKind.i64 x24]) ∧
 ∃ (ad25 : Addr),
 Gives Proofs.Tryd.prog (Instr.indexAt 22 (Value.slice va vn vc) (Value.int IntKind.i64 x3)) (Value.pointer (some ad25)) ∧
 ∃ (x26 : Int),
 ∃ (x27 : Int),
 ∃ (x28 : Int),
 Reads Proofs.Tryd.prog [] (Instr.loadAt 46 (Value.pointer (some ad25))) w15
 (Value.agg #[Value.int IntKind.i64 x26, Value.int IntKind.i64 x27, Value.int IntKind.i64 x28]) ∧
 Calls Proofs.Tryd.prog 43 #[Value.agg #[Value.int IntKind.i64 x22, Value.int IntKind.i64 x23, Value.int IntKind.i64 x24]] w15
 fun (e29 : Ending) (w30 : World) =>
 ∃ (x31 : Int),
 ∃ (x32 : Int),
 e29 = Ending.returned (Value.agg #[Value.int IntKind.i64 x31, Value.int IntKind.i64 x32]) ∧
 Reads Proofs.Tryd.prog [] (Instr.loadAt 46 (Value.pointer (some ad25))) w30
 (Value.agg #[Value.int IntKind.i64 x26, Value.int IntKind.i64 x27, Value.int IntKind.i64 x28]) ∧
 Reads Proofs.Tryd.prog [] (Instr.loadAt 2 (Value.pointer (some (Addr.mk ad19.block (ad19.off + 2) none)))) w30
 (Value.int IntKind.i64 x20) ∧
 Reads Proofs.Tryd.prog [] (Instr.loadAt 2 (Value.pointer (some (Addr.mk ad17.block (ad17.off + 2) none)))) w30
 (Value.int IntKind.i64 x18) ∧
 Calls Proofs.Tryd.prog 43 #[Value.agg #[Value.int IntKind.i64 x26, Value.int IntKind.i64 x27, Value.int IntKind.i64 x28]] w30
 fun (e33 : Ending) (w34 : World) =>
 ∃ (x35 : Int),
 ∃ (x36 : Int),
 e33 = Ending.returned (Value.agg #[Value.int IntKind.i64 x35, Value.int IntKind.i64 x36]) ∧
 Reads Proofs.Tryd.prog [] (Instr.loadAt 2 (Value.pointer (some (Addr.mk ad19.block (ad19.off + 2) none)))) w34
 (Value.int IntKind.i64 x20) ∧
 Reads Proofs.Tryd.prog [] (Instr.loadAt 2 (Value.pointer (some (Addr.mk ad17.block (ad17.off + 2) none)))) w34
 (Value.int IntKind.i64 x18) ∧
 Calls Proofs.Tryd.prog 47
 #[Value.agg #[Value.int IntKind.i64 x31, Value.int IntKind.i64 x32],
 Value.agg #[Value.int IntKind.i64 x35, Value.int IntKind.i64 x36]]
 w34 fun (e37 : Ending) (w38 : World) =>
 ∃ (x39 : Int),
 e37 = Ending.returned (Value.int IntKind.i64 x39) ∧
 Reads Proofs.Tryd.prog [] (Instr.loadAt 2 (Value.pointer (some (Addr.mk ad19.block (ad19.off + 2) none))))
 w38 (Value.int IntKind.i64 x20) ∧
 Reads Proofs.Tryd.prog [] (Instr.loadAt 2 (Value.pointer (some (Addr.mk ad17.block (ad17.off + 2) none))))
 w38 (Value.int IntKind.i64 x18) ∧
 (decide (x39 ≥ 0) = true → R (Ending.returned (Value.bool false)) w38) ∧
 (decide (x39 ≥ 0) = false →
 J1 (IntKind.i64.wrap (x3 + 1), ()) w38 ∧ J2 (IntKind.i64.wrap (x3 + 1), ()) w38 < J2 (x3, ()) w4)) ∧
 (decide (x3 > 0) = false → J1 (IntKind.i64.wrap (x3 + 1), ()) w15 ∧ J2 (IntKind.i64.wrap (x3 + 1), ()) w15 < J2 (x3, ()) w4))))) ∧
 (decide (x3 < (↑vn : Int)) = false → R (Ending.returned (Value.bool true)) w4)
theorem f17_eq (va : Option Addr) (vn : Nat) (vc : Nat) (w : World) (R : Ending → World → Prop) : (fnF Go.Proofs.Tryd.prog h17 Go.Proofs.Tryd.f17 [Value.slice va vn vc] w R).den = f17_vc va vn vc w R := by kernel_rfl
theorem f17_calls (va : Option Addr) (vn : Nat) (vc : Nat) (w : World) (R : Ending → World → Prop) (h : f17_vc va vn vc w R) : Calls Go.Proofs.Tryd.prog 17 (List.toArray [Value.slice va vn vc]) w R :=
 fn_sound (H := h17) (fn := Go.Proofs.Tryd.f17) (by kernel_rfl) (by kernel_rfl) (by kernel_rfl) ((f17_eq va vn vc w R).mpr h)


/-! manciple/mancipleref05.Get -/
def h19 : Hints := ⟨[3], [14, 21], [9, 18], [(4, [0, 1, 2, 3, 5, 4, 6])], [], [(2, ⟨[(5, .int .i64)], []⟩)], [], [], []⟩
def f19_vc (va : Option Addr) (vn : Nat) (vc : Nat) (s_0 : Int) (s_1 : Int) (w : World) (R : Ending → World → Prop) : Prop :=
 ∀ (n1 : Nat),
 w.heap.size ≤ n1 →
 ∃ (J2 : Int × Unit → World → Prop),
 ∃ (J3 : Int × Unit → World → Nat),
 (∀ (w4 : World), Bel w w4 → Under [n1] w4 → J2 (0, ()) w4) ∧
 ∀ (x5 : Int) (w6 : World),
 J2 (x5, ()) w6 →
 (decide (x5 < (↑vn : Int)) = true →
 ∃ (ad7 : Addr),
 Gives Proofs.Tryd.prog (Instr.indexAt 22 (Value.slice va vn vc) (Value.int IntKind.i64 x5)) (Value.pointer (some ad7)) ∧
 ∃ (x8 : Int),
 ∃ (x9 : Int),
 ∃ (x10 : Int),
 Reads Proofs.Tryd.prog [] (Instr.loadAt 46 (Value.pointer (some ad7))) w6 (Value.agg #[Value.int IntKind.i64 x8, Value.int IntKind.i64 x9, Value.int IntKind.i64 x10]) ∧
 ∀ (w11 : World),
 Bel w6 w11 →
 Under [n1] w11 →
 Calls Proofs.Tryd.prog 43 #[Value.agg #[Value.int IntKind.i64 x8, Value.int IntKind.i64 x9, Value.int IntKind.i64 x10]] w11 fun (e12 : Ending) (w13 : World) =>
 ∃ (x14 : Int),
 ∃ (x15 : Int),
 e12 = Ending.returned (Value.agg #[Value.int IntKind.i64 x14, Value.int IntKind.i64 x15]) ∧
 Keeps [n1] w11 w13 ∧
 ((x14 == s_0 && (x15 == s_1 && true)) = true →
 ∃ (ad16 : Addr),
 Gives Proofs.Tryd.prog (Instr.indexAt 22 (Value.slice va vn vc) (Value.int IntKind.i64 x5)) (Value.pointer (some ad16)) ∧
 ∃ (x17 : Int),
 Reads Proofs.Tryd.prog [] (Instr.loadAt 2 (Value.pointer (some (Addr.mk ad16.block (ad16.off + 2) none)))) w13 (Value.int IntKind.i64 x17) ∧
 R (Ending.returned (Value.int IntKind.i64 x17)) w13) ∧
 ((x14 == s_0 && (x15 == s_1 && true)) = false → J2 (IntKind.i64.wrap (x5 + 1), ()) w13 ∧ J3 (IntKind.i64.wrap (x5 + 1), ()) w13 < J3 (x5, ()) w6)) ∧
 (decide (x5 < (↑vn : Int)) = false → R (Ending.returned (Value.int IntKind.i64 0)) w6)
theorem f19_eq (va : Option Addr) (vn : Nat) (vc : Nat) (s_0 : Int) (s_1 : Int) (w : World) (R : Ending → World → Prop) : (fnF Go.Proofs.Tryd.prog h19 Go.Proofs.Tryd.f19 [Value.slice va vn vc, Value.agg #[Value.int IntKind.i64 s_0, Value.int IntKind.i64 s_1]] w R).den = f19_vc va vn vc s_0 s_1 w R := by kernel_rfl
theorem f19_calls (va : Option Addr) (vn : Nat) (vc : Nat) (s_0 : Int) (s_1 : Int) (w : World) (R : Ending → World → Prop) (h : f19_vc va vn vc s_0 s_1 w R) : Calls Go.Proofs.Tryd.prog 19 (List.toArray [Value.slice va vn vc, Value.agg #[Value.int IntKind.i64 s_0, Value.int IntKind.i64 s_1]]) w R :=
 fn_sound (H := h19) (fn := Go.Proofs.Tryd.f19) (by kernel_rfl) (by kernel_rfl) (by kernel_rfl) ((f19_eq va vn vc s_0 s_1 w R).mpr h)


/-! manciple/mancipleref05.Move -/
def h22 : Hints := ⟨[10], [38], [29, 33, 43, 14, 18, 22, 26], [], [], [(5, ⟨[(8, .sl), (9, .int .i64)], []⟩)], [], [], []⟩
def f22_vc (va : Option Addr) (vn : Nat) (vc : Nat) (from' : Int) (to' : Int) (w : World) (R : Ending → World → Prop) : Prop :=
 Calls Proofs.Tryd.prog 17 #[Value.slice va vn vc] w fun (e1 : Ending) (w2 : World) =>
 ∃ (b3 : Bool),
 e1 = Ending.returned (Value.bool b3) ∧
 ((!b3) = true → R (Ending.returned (Value.tuple #[Value.slice none 0 0, Value.bool false])) w2) ∧
 ((!b3) = false →
 (decide (from' < 0) = true → R (Ending.returned (Value.tuple #[Value.slice none 0 0, Value.bool false])) w2) ∧
 (decide (from' < 0) = false →
 (decide (from' > 32) = true → R (Ending.returned (Value.tuple #[Value.slice none 0 0, Value.bool false])) w2) ∧
 (decide (from' > 32) = false →
 (decide (to' < 0) = true → R (Ending.returned (Value.tuple #[Value.slice none 0 0, Value.bool false])) w2) ∧
 (decide (to' < 0) = false →
 (decide (to' > 32) = true → R (Ending.returned (Value.tuple #[Value.slice none 0 0, Value.bool false])) w2) ∧
 (decide (to' > 32) = false →
 ∃ (J4 : (Option Addr × Nat × Nat) × Int × Unit → World → Prop),
 ∃ (J5 : (Option Addr × Nat × Nat) × Int × Unit → World → Nat),
 J4 ((none, 0, 0), 0, ()) w2 ∧
 ∀ (a6 : Option Addr) (n7 n8 : Nat) (x9 : Int) (w10 : World),
 J4 ((a6, n7, n8), x9, ()) w10 →
 (decide (x9 < (↑vn : Int)) = true →
 ∃ (ad11 : Addr),
 Gives Proofs.Tryd.prog (Instr.indexAt 22 (Value.slice va vn vc) (Value.int IntKind.i64 x9)) (Value.pointer (some ad11)) ∧
 ∃ (x12 : Int),
 ∃ (x13 : Int),
 ∃ (x14 : Int),
 Reads Proofs.Tryd.prog [] (Instr.loadAt 46 (Value.pointer (some ad11))) w10 (Value.agg #[Value.int IntKind.i64 x12, Value.int IntKind.i64 x13, Value.int IntKind.i64 x14]) ∧
 ∀ (n15 : Nat),
 w10.heap.size ≤ n15 →
 ((x13 == from') = true →
 ∀ (w16 : World),
 Evo [n15, n15] w10 w16 →
 Under [n15] w16 →
 OpW Proofs.Tryd.prog (valueS (Instr.buildSlice 22 1 #[(0, Value.agg #[Value.int IntKind.i64 x12, Value.int IntKind.i64 to', Value.int IntKind.i64 x14])])) w16
 fun (v17 : Value) (w18 : World) =>
 ∃ (a19 : Option Addr),
 ∃ (n20 : Nat),
 ∃ (n21 : Nat),
 v17 = Value.slice a19 n20 n21 ∧
 Keeps [n15] w16 w18 ∧
 OpW Proofs.Tryd.prog (builtin Builtin.append #[22, 22] 22 #[false, false] #[Value.slice a6 n7 n8, Value.slice a19 n20 n21]) w18 fun (v22 : Value) (w23 : World) =>
 ∃ (a24 : Option Addr),
 ∃ (n25 : Nat),
 ∃ (n26 : Nat),
 v22 = Value.slice a24 n25 n26 ∧
 Keeps [n15] w18 w23 ∧
 J4 ((a24, n25, n26), IntKind.i64.wrap (x9 + 1), ()) w23 ∧ J5 ((a24, n25, n26), IntKind.i64.wrap (x9 + 1), ()) w23 < J5 ((a6, n7, n8), x9, ()) w10) ∧
 ((x13 == from') = false →
 ∀ (w27 : World),
 Evo [n15] w10 w27 →
 Under [n15] w27 →
 OpW Proofs.Tryd.prog (valueS (Instr.buildSlice 22 1 #[(0, Value.agg #[Value.int IntKind.i64 x12, Value.int IntKind.i64 x13, Value.int IntKind.i64 x14])])) w27
 fun (v28 : Value) (w29 : World) =>
 ∃ (a30 : Option Addr),
 ∃ (n31 : Nat),
 ∃ (n32 : Nat),
 v28 = Value.slice a30 n31 n32 ∧
 Keeps [n15] w27 w29 ∧
 OpW Proofs.Tryd.prog (builtin Builtin.append #[22, 22] 22 #[false, false] #[Value.slice a6 n7 n8, Value.slice a30 n31 n32]) w29 fun (v33 : Value) (w34 : World) =>
 ∃ (a35 : Option Addr),
 ∃ (n36 : Nat),
 ∃ (n37 : Nat),
 v33 = Value.slice a35 n36 n37 ∧
 Keeps [n15] w29 w34 ∧
 J4 ((a35, n36, n37), IntKind.i64.wrap (x9 + 1), ()) w34 ∧ J5 ((a35, n36, n37), IntKind.i64.wrap (x9 + 1), ()) w34 < J5 ((a6, n7, n8), x9, ()) w10)) ∧
 (decide (x9 < (↑vn : Int)) = false →
 Calls Proofs.Tryd.prog 15 #[Value.slice a6 n7 n8] w10 fun (e38 : Ending) (w39 : World) =>
 ∃ (a40 : Option Addr),
 ∃ (n41 : Nat),
 ∃ (n42 : Nat),
 ∃ (b43 : Bool), e38 = Ending.returned (Value.tuple #[Value.slice a40 n41 n42, Value.bool b43]) ∧ R (Ending.returned (Value.tuple #[Value.slice a40 n41 n42, Value.bool b43])) w39))))))
theorem f22_eq (va : Option Addr) (vn : Nat) (vc : Nat) (from' : Int) (to' : Int) (w : World) (R : Ending → World → Prop) : (fnF Go.Proofs.Tryd.prog h22 Go.Proofs.Tryd.f22 [Value.slice va vn vc, Value.int IntKind.i64 from', Value.int IntKind.i64 to'] w R).den = f22_vc va vn vc from' to' w R := by kernel_rfl
theorem f22_calls (va : Option Addr) (vn : Nat) (vc : Nat) (from' : Int) (to' : Int) (w : World) (R : Ending → World → Prop) (h : f22_vc va vn vc from' to' w R) : Calls Go.Proofs.Tryd.prog 22 (List.toArray [Value.slice va vn vc, Value.int IntKind.i64 from', Value.int IntKind.i64 to']) w R :=
 fn_sound (H := h22) (fn := Go.Proofs.Tryd.f22) (by kernel_rfl) (by kernel_rfl) (by kernel_rfl) ((f22_eq va vn vc from' to' w R).mpr h)


/-! manciple/mancipleref05.Only -/
def h24 : Hints := ⟨[], [20, 28, 37], [11, 15, 33, 25], [], [], [(5, ⟨[(7, .sl), (8, .int .i64)], []⟩)], [], [], []⟩
def f24_vc (va : Option Addr) (vn : Nat) (vc : Nat) (r : Int) (q : Int) (w : World) (R : Ending → World → Prop) : Prop :=
 Calls Proofs.Tryd.prog 17 #[Value.slice va vn vc] w fun (e1 : Ending) (w2 : World) =>
 ∃ (b3 : Bool),
 e1 = Ending.returned (Value.bool b3) ∧
 ((!b3) = true → R (Ending.returned (Value.slice none 0 0)) w2) ∧
 ((!b3) = false →
 ∃ (J4 : (Option Addr × Nat × Nat) × Int × Unit → World → Prop),
 ∃ (J5 : (Option Addr × Nat × Nat) × Int × Unit → World → Nat),
 J4 ((none, 0, 0), 0, ()) w2 ∧
 ∀ (a6 : Option Addr) (n7 n8 : Nat) (x9 : Int) (w10 : World),
 J4 ((a6, n7, n8), x9, ()) w10 →
 (decide (x9 < (↑vn : Int)) = true →
 ∃ (ad11 : Addr),
 Gives Proofs.Tryd.prog (Instr.indexAt 22 (Value.slice va vn vc) (Value.int IntKind.i64 x9)) (Value.pointer (some ad11)) ∧
 ∃ (x12 : Int),
 Reads Proofs.Tryd.prog [] (Instr.loadAt 3 (Value.pointer (some (Addr.mk ad11.block (ad11.off + 1) none)))) w10 (Value.int IntKind.i64 x12) ∧
 ((x12 == r) = true →
 ∃ (ad13 : Addr),
 Gives Proofs.Tryd.prog (Instr.indexAt 22 (Value.slice va vn vc) (Value.int IntKind.i64 x9)) (Value.pointer (some ad13)) ∧
 ∃ (x14 : Int),
 ∃ (x15 : Int),
 ∃ (x16 : Int),
 Reads Proofs.Tryd.prog [] (Instr.loadAt 46 (Value.pointer (some ad13))) w10 (Value.agg #[Value.int IntKind.i64 x14, Value.int IntKind.i64 x15, Value.int IntKind.i64 x16]) ∧
 OpW Proofs.Tryd.prog (valueS (Instr.buildSlice 22 1 #[(0, Value.agg #[Value.int IntKind.i64 x14, Value.int IntKind.i64 x15, Value.int IntKind.i64 x16])])) w10
 fun (v17 : Value) (w18 : World) =>
 ∃ (a19 : Option Addr),
 ∃ (n20 : Nat),
 ∃ (n21 : Nat),
 v17 = Value.slice a19 n20 n21 ∧
 OpW Proofs.Tryd.prog (builtin Builtin.append #[22, 22] 22 #[false, false] #[Value.slice a6 n7 n8, Value.slice a19 n20 n21]) w18 fun (v22 : Value) (w23 : World) =>
 ∃ (a24 : Option Addr),
 ∃ (n25 : Nat),
 ∃ (n26 : Nat),
 v22 = Value.slice a24 n25 n26 ∧
 J4 ((a24, n25, n26), IntKind.i64.wrap (x9 + 1), ()) w23 ∧ J5 ((a24, n25, n26), IntKind.i64.wrap (x9 + 1), ()) w23 < J5 ((a6, n7, n8), x9, ()) w10) ∧
 ((x12 == r) = false →
 ∃ (ad27 : Addr),
 Gives Proofs.Tryd.prog (Instr.indexAt 22 (Value.slice va vn vc) (Value.int IntKind.i64 x9)) (Value.pointer (some ad27)) ∧
 ∃ (x28 : Int),
 Reads Proofs.Tryd.prog [] (Instr.loadAt 3 (Value.pointer (some (Addr.mk ad27.block (ad27.off + 1) none)))) w10 (Value.int IntKind.i64 x28) ∧
 ((x28 == q) = true →
 ∃ (ad29 : Addr),
 Gives Proofs.Tryd.prog (Instr.indexAt 22 (Value.slice va vn vc) (Value.int IntKind.i64 x9)) (Value.pointer (some ad29)) ∧
 ∃ (x30 : Int),
 ∃ (x31 : Int),
 ∃ (x32 : Int),
 Reads Proofs.Tryd.prog [] (Instr.loadAt 46 (Value.pointer (some ad29))) w10 (Value.agg #[Value.int IntKind.i64 x30, Value.int IntKind.i64 x31, Value.int IntKind.i64 x32]) ∧
 OpW Proofs.Tryd.prog (valueS (Instr.buildSlice 22 1 #[(0, Value.agg #[Value.int IntKind.i64 x30, Value.int IntKind.i64 x31, Value.int IntKind.i64 x32])])) w10
 fun (v33 : Value) (w34 : World) =>
 ∃ (a35 : Option Addr),
 ∃ (n36 : Nat),
 ∃ (n37 : Nat),
 v33 = Value.slice a35 n36 n37 ∧
 OpW Proofs.Tryd.prog (builtin Builtin.append #[22, 22] 22 #[false, false] #[Value.slice a6 n7 n8, Value.slice a35 n36 n37]) w34 fun (v38 : Value) (w39 : World) =>
 ∃ (a40 : Option Addr),
 ∃ (n41 : Nat),
 ∃ (n42 : Nat),
 v38 = Value.slice a40 n41 n42 ∧
 J4 ((a40, n41, n42), IntKind.i64.wrap (x9 + 1), ()) w39 ∧ J5 ((a40, n41, n42), IntKind.i64.wrap (x9 + 1), ()) w39 < J5 ((a6, n7, n8), x9, ()) w10) ∧
 ((x28 == q) = false → J4 ((a6, n7, n8), IntKind.i64.wrap (x9 + 1), ()) w10 ∧ J5 ((a6, n7, n8), IntKind.i64.wrap (x9 + 1), ()) w10 < J5 ((a6, n7, n8), x9, ()) w10))) ∧
 (decide (x9 < (↑vn : Int)) = false → R (Ending.returned (Value.slice a6 n7 n8)) w10))
theorem f24_eq (va : Option Addr) (vn : Nat) (vc : Nat) (r : Int) (q : Int) (w : World) (R : Ending → World → Prop) : (fnF Go.Proofs.Tryd.prog h24 Go.Proofs.Tryd.f24 [Value.slice va vn vc, Value.int IntKind.i64 r, Value.int IntKind.i64 q] w R).den = f24_vc va vn vc r q w R := by kernel_rfl
theorem f24_calls (va : Option Addr) (vn : Nat) (vc : Nat) (r : Int) (q : Int) (w : World) (R : Ending → World → Prop) (h : f24_vc va vn vc r q w R) : Calls Go.Proofs.Tryd.prog 24 (List.toArray [Value.slice va vn vc, Value.int IntKind.i64 r, Value.int IntKind.i64 q]) w R :=
 fn_sound (H := h24) (fn := Go.Proofs.Tryd.f24) (by kernel_rfl) (by kernel_rfl) (by kernel_rfl) ((f24_eq va vn vc r q w R).mpr h)


/-! manciple/mancipleref05.Add -/
def h26 : Hints := ⟨[], [], [13, 9], [], [], [], [], [], []⟩
def f26_vc (aa : Option Addr) (an : Nat) (ac : Nat) (ba : Option Addr) (bn : Nat) (bc : Nat) (w : World) (R : Ending → World → Prop) : Prop :=
 Calls Proofs.Tryd.prog 17 #[Value.slice aa an ac] w fun (e1 : Ending) (w2 : World) =>
 ∃ (b3 : Bool),
 e1 = Ending.returned (Value.bool b3) ∧
 ((!b3) = true → R (Ending.returned (Value.tuple #[Value.slice none 0 0, Value.bool false])) w2) ∧
 ((!b3) = false →
 Calls Proofs.Tryd.prog 17 #[Value.slice ba bn bc] w2 fun (e4 : Ending) (w5 : World) =>
 ∃ (b6 : Bool),
 e4 = Ending.returned (Value.bool b6) ∧
 ((!b6) = true → R (Ending.returned (Value.tuple #[Value.slice none 0 0, Value.bool false])) w5) ∧
 ((!b6) = false →
 OpW Proofs.Tryd.prog (valueS (Instr.buildSlice 22 0 #[])) w5 fun (v7 : Value) (w8 : World) =>
 ∃ (a9 : Option Addr),
 ∃ (n10 : Nat),
 ∃ (n11 : Nat),
 v7 = Value.slice a9 n10 n11 ∧
 OpW Proofs.Tryd.prog (builtin Builtin.append #[22, 22] 22 #[false, false] #[Value.slice a9 n10 n11, Value.slice aa an ac]) w8 fun (v12 : Value) (w13 : World) =>
 ∃ (a14 : Option Addr),
 ∃ (n15 : Nat),
 ∃ (n16 : Nat),
 v12 = Value.slice a14 n15 n16 ∧
 OpW Proofs.Tryd.prog (builtin Builtin.append #[22, 22] 22 #[false, false] #[Value.slice a14 n15 n16, Value.slice ba bn bc]) w13 fun (v17 : Value) (w18 : World) =>
 ∃ (a19 : Option Addr),
 ∃ (n20 : Nat),
 ∃ (n21 : Nat),
 v17 = Value.slice a19 n20 n21 ∧
 Calls Proofs.Tryd.prog 15 #[Value.slice a19 n20 n21] w18 fun (e22 : Ending) (w23 : World) =>
 ∃ (a24 : Option Addr),
 ∃ (n25 : Nat),
 ∃ (n26 : Nat),
 ∃ (b27 : Bool), e22 = Ending.returned (Value.tuple #[Value.slice a24 n25 n26, Value.bool b27]) ∧ R (Ending.returned (Value.tuple #[Value.slice a24 n25 n26, Value.bool b27])) w23))
theorem f26_eq (aa : Option Addr) (an : Nat) (ac : Nat) (ba : Option Addr) (bn : Nat) (bc : Nat) (w : World) (R : Ending → World → Prop) : (fnF Go.Proofs.Tryd.prog h26 Go.Proofs.Tryd.f26 [Value.slice aa an ac, Value.slice ba bn bc] w R).den = f26_vc aa an ac ba bn bc w R := by kernel_rfl
theorem f26_calls (aa : Option Addr) (an : Nat) (ac : Nat) (ba : Option Addr) (bn : Nat) (bc : Nat) (w : World) (R : Ending → World → Prop) (h : f26_vc aa an ac ba bn bc w R) : Calls Go.Proofs.Tryd.prog 26 (List.toArray [Value.slice aa an ac, Value.slice ba bn bc]) w R :=
 fn_sound (H := h26) (fn := Go.Proofs.Tryd.f26) (by kernel_rfl) (by kernel_rfl) (by kernel_rfl) ((f26_eq aa an ac ba bn bc w R).mpr h)


/-! manciple/mancipleref05.Sub -/
def h28 : Hints := ⟨[], [21, 26, 32], [11, 15], [(7, [0, 1, 2, 3, 4, 6, 7, 8, 9, 10, 11, 12, 13, 14, 15, 5, 16, 17, 18, 19, 20])], [], [(5, ⟨[(6, .sl), (7, .int .i64)], []⟩)], [], [], []⟩
def f28_vc (aa : Option Addr) (an : Nat) (ac : Nat) (ba : Option Addr) (bn : Nat) (bc : Nat) (w : World) (R : Ending → World → Prop) : Prop :=
 Calls Proofs.Tryd.prog 31 #[Value.slice aa an ac, Value.slice ba bn bc] w fun (e1 : Ending) (w2 : World) =>
 ∃ (b3 : Bool),
 e1 = Ending.returned (Value.bool b3) ∧
 ((!b3) = true → R (Ending.returned (Value.tuple #[Value.slice none 0 0, Value.bool false])) w2) ∧
 ((!b3) = false →
 ∃ (J4 : (Option Addr × Nat × Nat) × Int × Unit → World → Prop),
 ∃ (J5 : (Option Addr × Nat × Nat) × Int × Unit → World → Nat),
 J4 ((none, 0, 0), 0, ()) w2 ∧
 ∀ (a6 : Option Addr) (n7 n8 : Nat) (x9 : Int) (w10 : World),
 J4 ((a6, n7, n8), x9, ()) w10 →
 (decide (x9 < (↑an : Int)) = true →
 ∃ (ad11 : Addr),
 Gives Proofs.Tryd.prog (Instr.indexAt 22 (Value.slice aa an ac) (Value.int IntKind.i64 x9)) (Value.pointer (some ad11)) ∧
 ∃ (x12 : Int),
 ∃ (x13 : Int),
 ∃ (x14 : Int),
 Reads Proofs.Tryd.prog [] (Instr.loadAt 46 (Value.pointer (some ad11))) w10 (Value.agg #[Value.int IntKind.i64 x12, Value.int IntKind.i64 x13, Value.int IntKind.i64 x14]) ∧
 ∃ (ad15 : Addr),
 Gives Proofs.Tryd.prog (Instr.indexAt 22 (Value.slice aa an ac) (Value.int IntKind.i64 x9)) (Value.pointer (some ad15)) ∧
 ∃ (x16 : Int),
 Reads Proofs.Tryd.prog [] (Instr.loadAt 2 (Value.pointer (some (Addr.mk ad15.block (ad15.off + 2) none)))) w10 (Value.int IntKind.i64 x16) ∧
 ∃ (ad17 : Addr),
 Gives Proofs.Tryd.prog (Instr.indexAt 22 (Value.slice aa an ac) (Value.int IntKind.i64 x9)) (Value.pointer (some ad17)) ∧
 ∃ (x18 : Int),
 ∃ (x19 : Int),
 ∃ (x20 : Int),
 Reads Proofs.Tryd.prog [] (Instr.loadAt 46 (Value.pointer (some ad17))) w10 (Value.agg #[Value.int IntKind.i64 x18, Value.int IntKind.i64 x19, Value.int IntKind.i64 x20]) ∧
 ∀ (w21 : World),
 Bel w10 w21 →
 Calls Proofs.Tryd.prog 43 #[Value.agg #[Value.int IntKind.i64 x12, Value.int IntKind.i64 x13, Value.int IntKind.i64 x14]] w21 fun (e22 : Ending) (w23 : World) =>
 ∃ (x24 : Int),
 ∃ (x25 : Int),
 e22 = Ending.returned (Value.agg #[Value.int IntKind.i64 x24, Value.int IntKind.i64 x25]) ∧
 Reads Proofs.Tryd.prog [] (Instr.loadAt 46 (Value.pointer (some ad17))) w23 (Value.agg #[Value.int IntKind.i64 x18, Value.int IntKind.i64 x19, Value.int IntKind.i64 x20]) ∧
 Reads Proofs.Tryd.prog [] (Instr.loadAt 2 (Value.pointer (some (Addr.mk ad15.block (ad15.off + 2) none)))) w23 (Value.int IntKind.i64 x16) ∧
 Calls Proofs.Tryd.prog 43 #[Value.agg #[Value.int IntKind.i64 x18, Value.int IntKind.i64 x19, Value.int IntKind.i64 x20]] w23 fun (e26 : Ending) (w27 : World) =>
 ∃ (x28 : Int),
 ∃ (x29 : Int),
 e26 = Ending.returned (Value.agg #[Value.int IntKind.i64 x28, Value.int IntKind.i64 x29]) ∧
 Reads Proofs.Tryd.prog [] (Instr.loadAt 2 (Value.pointer (some (Addr.mk ad15.block (ad15.off + 2) none)))) w27 (Value.int IntKind.i64 x16) ∧
 Calls Proofs.Tryd.prog 19 #[Value.slice ba bn bc, Value.agg #[Value.int IntKind.i64 x28, Value.int IntKind.i64 x29]] w27 fun (e30 : Ending) (w31 : World) =>
 ∃ (x32 : Int),
 e30 = Ending.returned (Value.int IntKind.i64 x32) ∧
 Reads Proofs.Tryd.prog [] (Instr.loadAt 2 (Value.pointer (some (Addr.mk ad15.block (ad15.off + 2) none)))) w31 (Value.int IntKind.i64 x16) ∧
 Calls Proofs.Tryd.prog 46
 #[Value.slice a6 n7 n8, Value.agg #[Value.int IntKind.i64 x24, Value.int IntKind.i64 x25], Value.int IntKind.i64 (IntKind.i64.wrap (x16 - x32))] w31
 fun (e33 : Ending) (w34 : World) =>
 ∃ (a35 : Option Addr),
 ∃ (n36 : Nat),
 ∃ (n37 : Nat),
 e33 = Ending.returned (Value.slice a35 n36 n37) ∧
 Reads Proofs.Tryd.prog [] (Instr.loadAt 2 (Value.pointer (some (Addr.mk ad15.block (ad15.off + 2) none)))) w34 (Value.int IntKind.i64 x16) ∧
 J4 ((a35, n36, n37), IntKind.i64.wrap (x9 + 1), ()) w34 ∧
 J5 ((a35, n36, n37), IntKind.i64.wrap (x9 + 1), ()) w34 < J5 ((a6, n7, n8), x9, ()) w10) ∧
 (decide (x9 < (↑an : Int)) = false → R (Ending.returned (Value.tuple #[Value.slice a6 n7 n8, Value.bool true])) w10))
theorem f28_eq (aa : Option Addr) (an : Nat) (ac : Nat) (ba : Option Addr) (bn : Nat) (bc : Nat) (w : World) (R : Ending → World → Prop) : (fnF Go.Proofs.Tryd.prog h28 Go.Proofs.Tryd.f28 [Value.slice aa an ac, Value.slice ba bn bc] w R).den = f28_vc aa an ac ba bn bc w R := by kernel_rfl
theorem f28_calls (aa : Option Addr) (an : Nat) (ac : Nat) (ba : Option Addr) (bn : Nat) (bc : Nat) (w : World) (R : Ending → World → Prop) (h : f28_vc aa an ac ba bn bc w R) : Calls Go.Proofs.Tryd.prog 28 (List.toArray [Value.slice aa an ac, Value.slice ba bn bc]) w R :=
 fn_sound (H := h28) (fn := Go.Proofs.Tryd.f28) (by kernel_rfl) (by kernel_rfl) (by kernel_rfl) ((f28_eq aa an ac ba bn bc w R).mpr h)


/-! manciple/mancipleref05.Least -/
def h30 : Hints := ⟨[], [24, 29, 35], [14, 18, 10], [(7, [0, 1, 2, 3, 4, 6, 7, 8, 9, 10, 11, 12, 13, 14, 15, 5, 16, 17, 18, 19, 20])], [], [(5, ⟨[(5, .sl), (6, .int .i64)], []⟩)], [], [], []⟩
def f30_vc (aa : Option Addr) (an : Nat) (ac : Nat) (ba : Option Addr) (bn : Nat) (bc : Nat) (w : World) (R : Ending → World → Prop) : Prop :=
 Calls Proofs.Tryd.prog 17 #[Value.slice aa an ac] w fun (e1 : Ending) (w2 : World) =>
 ∃ (b3 : Bool),
 e1 = Ending.returned (Value.bool b3) ∧
 ((!b3) = true → R (Ending.returned (Value.slice none 0 0)) w2) ∧
 ((!b3) = false →
 Calls Proofs.Tryd.prog 17 #[Value.slice ba bn bc] w2 fun (e4 : Ending) (w5 : World) =>
 ∃ (b6 : Bool),
 e4 = Ending.returned (Value.bool b6) ∧
 ((!b6) = true → R (Ending.returned (Value.slice none 0 0)) w5) ∧
 ((!b6) = false →
 ∃ (J7 : (Option Addr × Nat × Nat) × Int × Unit → World → Prop),
 ∃ (J8 : (Option Addr × Nat × Nat) × Int × Unit → World → Nat),
 J7 ((none, 0, 0), 0, ()) w5 ∧
 ∀ (a9 : Option Addr) (n10 n11 : Nat) (x12 : Int) (w13 : World),
 J7 ((a9, n10, n11), x12, ()) w13 →
 (decide (x12 < (↑an : Int)) = true →
 ∃ (ad14 : Addr),
 Gives Proofs.Tryd.prog (Instr.indexAt 22 (Value.slice aa an ac) (Value.int IntKind.i64 x12)) (Value.pointer (some ad14)) ∧
 ∃ (x15 : Int),
 ∃ (x16 : Int),
 ∃ (x17 : Int),
 Reads Proofs.Tryd.prog [] (Instr.loadAt 46 (Value.pointer (some ad14))) w13 (Value.agg #[Value.int IntKind.i64 x15, Value.int IntKind.i64 x16, Value.int IntKind.i64 x17]) ∧
 ∃ (ad18 : Addr),
 Gives Proofs.Tryd.prog (Instr.indexAt 22 (Value.slice aa an ac) (Value.int IntKind.i64 x12)) (Value.pointer (some ad18)) ∧
 ∃ (x19 : Int),
 Reads Proofs.Tryd.prog [] (Instr.loadAt 2 (Value.pointer (some (Addr.mk ad18.block (ad18.off + 2) none)))) w13 (Value.int IntKind.i64 x19) ∧
 ∃ (ad20 : Addr),
 Gives Proofs.Tryd.prog (Instr.indexAt 22 (Value.slice aa an ac) (Value.int IntKind.i64 x12)) (Value.pointer (some ad20)) ∧
 ∃ (x21 : Int),
 ∃ (x22 : Int),
 ∃ (x23 : Int),
 Reads Proofs.Tryd.prog [] (Instr.loadAt 46 (Value.pointer (some ad20))) w13 (Value.agg #[Value.int IntKind.i64 x21, Value.int IntKind.i64 x22, Value.int IntKind.i64 x23]) ∧
 ∀ (w24 : World),
 Bel w13 w24 →
 Calls Proofs.Tryd.prog 43 #[Value.agg #[Value.int IntKind.i64 x15, Value.int IntKind.i64 x16, Value.int IntKind.i64 x17]] w24 fun (e25 : Ending) (w26 : World) =>
 ∃ (x27 : Int),
 ∃ (x28 : Int),
 e25 = Ending.returned (Value.agg #[Value.int IntKind.i64 x27, Value.int IntKind.i64 x28]) ∧
 Reads Proofs.Tryd.prog [] (Instr.loadAt 46 (Value.pointer (some ad20))) w26
 (Value.agg #[Value.int IntKind.i64 x21, Value.int IntKind.i64 x22, Value.int IntKind.i64 x23]) ∧
 Reads Proofs.Tryd.prog [] (Instr.loadAt 2 (Value.pointer (some (Addr.mk ad18.block (ad18.off + 2) none)))) w26 (Value.int IntKind.i64 x19) ∧
 Calls Proofs.Tryd.prog 43 #[Value.agg #[Value.int IntKind.i64 x21, Value.int IntKind.i64 x22, Value.int IntKind.i64 x23]] w26
 fun (e29 : Ending) (w30 : World) =>
 ∃ (x31 : Int),
 ∃ (x32 : Int),
 e29 = Ending.returned (Value.agg #[Value.int IntKind.i64 x31, Value.int IntKind.i64 x32]) ∧
 Reads Proofs.Tryd.prog [] (Instr.loadAt 2 (Value.pointer (some (Addr.mk ad18.block (ad18.off + 2) none)))) w30 (Value.int IntKind.i64 x19) ∧
 Calls Proofs.Tryd.prog 19 #[Value.slice ba bn bc, Value.agg #[Value.int IntKind.i64 x31, Value.int IntKind.i64 x32]] w30
 fun (e33 : Ending) (w34 : World) =>
 ∃ (x35 : Int),
 e33 = Ending.returned (Value.int IntKind.i64 x35) ∧
 Reads Proofs.Tryd.prog [] (Instr.loadAt 2 (Value.pointer (some (Addr.mk ad18.block (ad18.off + 2) none)))) w34 (Value.int IntKind.i64 x19) ∧
 Calls Proofs.Tryd.prog 46
 #[Value.slice a9 n10 n11, Value.agg #[Value.int IntKind.i64 x27, Value.int IntKind.i64 x28],
 Value.int IntKind.i64 (if x35 < x19 then x35 else x19)]
 w34 fun (e36 : Ending) (w37 : World) =>
 ∃ (a38 : Option Addr),
 ∃ (n39 : Nat),
 ∃ (n40 : Nat),
 e36 = Ending.returned (Value.slice a38 n39 n40) ∧
 Reads Proofs.Tryd.prog [] (Instr.loadAt 2 (Value.pointer (some (Addr.mk ad18.block (ad18.off + 2) none)))) w37
 (Value.int IntKind.i64 x19) ∧
 J7 ((a38, n39, n40), IntKind.i64.wrap (x12 + 1), ()) w37 ∧
 J8 ((a38, n39, n40), IntKind.i64.wrap (x12 + 1), ()) w37 < J8 ((a9, n10, n11), x12, ()) w13) ∧
 (decide (x12 < (↑an : Int)) = false → R (Ending.returned (Value.slice a9 n10 n11)) w13)))
theorem f30_eq (aa : Option Addr) (an : Nat) (ac : Nat) (ba : Option Addr) (bn : Nat) (bc : Nat) (w : World) (R : Ending → World → Prop) : (fnF Go.Proofs.Tryd.prog h30 Go.Proofs.Tryd.f30 [Value.slice aa an ac, Value.slice ba bn bc] w R).den = f30_vc aa an ac ba bn bc w R := by kernel_rfl
theorem f30_calls (aa : Option Addr) (an : Nat) (ac : Nat) (ba : Option Addr) (bn : Nat) (bc : Nat) (w : World) (R : Ending → World → Prop) (h : f30_vc aa an ac ba bn bc w R) : Calls Go.Proofs.Tryd.prog 30 (List.toArray [Value.slice aa an ac, Value.slice ba bn bc]) w R :=
 fn_sound (H := h30) (fn := Go.Proofs.Tryd.f30) (by kernel_rfl) (by kernel_rfl) (by kernel_rfl) ((f30_eq aa an ac ba bn bc w R).mpr h)


/-! manciple/mancipleref05.Holds -/
def h31 : Hints := ⟨[], [15, 21], [9, 24, 27], [(4, [0, 1, 2, 3, 4, 7, 8, 9, 10, 11, 5, 6, 12])], [], [(2, ⟨[(5, .int .i64)], []⟩)], [], [], []⟩
def f31_vc (aa : Option Addr) (an : Nat) (ac : Nat) (ba : Option Addr) (bn : Nat) (bc : Nat) (w : World) (R : Ending → World → Prop) : Prop :=
 ∃ (J1 : Int × Unit → World → Prop),
 ∃ (J2 : Int × Unit → World → Nat),
 J1 (0, ()) w ∧
 ∀ (x3 : Int) (w4 : World),
 J1 (x3, ()) w4 →
 (decide (x3 < (↑bn : Int)) = true →
 ∃ (ad5 : Addr),
 Gives Proofs.Tryd.prog (Instr.indexAt 22 (Value.slice ba bn bc) (Value.int IntKind.i64 x3)) (Value.pointer (some ad5)) ∧
 ∃ (x6 : Int),
 ∃ (x7 : Int),
 ∃ (x8 : Int),
 Reads Proofs.Tryd.prog [] (Instr.loadAt 46 (Value.pointer (some ad5))) w4 (Value.agg #[Value.int IntKind.i64 x6, Value.int IntKind.i64 x7, Value.int IntKind.i64 x8]) ∧
 ∃ (ad9 : Addr),
 Gives Proofs.Tryd.prog (Instr.indexAt 22 (Value.slice ba bn bc) (Value.int IntKind.i64 x3)) (Value.pointer (some ad9)) ∧
 ∃ (x10 : Int),
 Reads Proofs.Tryd.prog [] (Instr.loadAt 2 (Value.pointer (some (Addr.mk ad9.block (ad9.off + 2) none)))) w4 (Value.int IntKind.i64 x10) ∧
 ∀ (w11 : World),
 Bel w4 w11 →
 Calls Proofs.Tryd.prog 43 #[Value.agg #[Value.int IntKind.i64 x6, Value.int IntKind.i64 x7, Value.int IntKind.i64 x8]] w11 fun (e12 : Ending) (w13 : World) =>
 ∃ (x14 : Int),
 ∃ (x15 : Int),
 e12 = Ending.returned (Value.agg #[Value.int IntKind.i64 x14, Value.int IntKind.i64 x15]) ∧
 Reads Proofs.Tryd.prog [] (Instr.loadAt 2 (Value.pointer (some (Addr.mk ad9.block (ad9.off + 2) none)))) w13 (Value.int IntKind.i64 x10) ∧
 Calls Proofs.Tryd.prog 19 #[Value.slice aa an ac, Value.agg #[Value.int IntKind.i64 x14, Value.int IntKind.i64 x15]] w13 fun (e16 : Ending) (w17 : World) =>
 ∃ (x18 : Int),
 e16 = Ending.returned (Value.int IntKind.i64 x18) ∧
 Reads Proofs.Tryd.prog [] (Instr.loadAt 2 (Value.pointer (some (Addr.mk ad9.block (ad9.off + 2) none)))) w17 (Value.int IntKind.i64 x10) ∧
 (decide (x18 < x10) = true → R (Ending.returned (Value.bool false)) w17) ∧
 (decide (x18 < x10) = false → J1 (IntKind.i64.wrap (x3 + 1), ()) w17 ∧ J2 (IntKind.i64.wrap (x3 + 1), ()) w17 < J2 (x3, ()) w4)) ∧
 (decide (x3 < (↑bn : Int)) = false →
 Calls Proofs.Tryd.prog 17 #[Value.slice aa an ac] w4 fun (e19 : Ending) (w20 : World) =>
 ∃ (b21 : Bool),
 e19 = Ending.returned (Value.bool b21) ∧
 (b21 = true → Calls Proofs.Tryd.prog 17 #[Value.slice ba bn bc] w20 fun (e22 : Ending) (w23 : World) => ∃ (b24 : Bool), e22 = Ending.returned (Value.bool b24) ∧ R (Ending.returned (Value.bool b24)) w23) ∧
 (b21 = false → R (Ending.returned (Value.bool false)) w20))
theorem f31_eq (aa : Option Addr) (an : Nat) (ac : Nat) (ba : Option Addr) (bn : Nat) (bc : Nat) (w : World) (R : Ending → World → Prop) : (fnF Go.Proofs.Tryd.prog h31 Go.Proofs.Tryd.f31 [Value.slice aa an ac, Value.slice ba bn bc] w R).den = f31_vc aa an ac ba bn bc w R := by kernel_rfl
theorem f31_calls (aa : Option Addr) (an : Nat) (ac : Nat) (ba : Option Addr) (bn : Nat) (bc : Nat) (w : World) (R : Ending → World → Prop) (h : f31_vc aa an ac ba bn bc w R) : Calls Go.Proofs.Tryd.prog 31 (List.toArray [Value.slice aa an ac, Value.slice ba bn bc]) w R :=
 fn_sound (H := h31) (fn := Go.Proofs.Tryd.f31) (by kernel_rfl) (by kernel_rfl) (by kernel_rfl) ((f31_eq aa an ac ba bn bc w R).mpr h)


/-! manciple/mancipleref04.Right -/
def h42 : Hints := ⟨[1], [], [6, 11, 16], [], [], [], [], [], []⟩
def f42_vc (s_0 : Int) (s_1 : Int) (w : World) (R : Ending → World → Prop) : Prop :=
 ∀ (n1 : Nat),
 w.heap.size ≤ n1 →
 (decide (s_0 ≥ 0) = true →
 (decide (s_0 ≤ 3) = true →
 (decide (s_1 ≥ 0) = true → ∀ (w2 : World), Bel w w2 → Under [n1] w2 → R (Ending.returned (Value.bool (decide (s_1 ≤ 32)))) w2) ∧
 (decide (s_1 ≥ 0) = false → ∀ (w3 : World), Bel w w3 → Under [n1] w3 → R (Ending.returned (Value.bool false)) w3)) ∧
 (decide (s_0 ≤ 3) = false → ∀ (w4 : World), Bel w w4 → Under [n1] w4 → R (Ending.returned (Value.bool false)) w4)) ∧
 (decide (s_0 ≥ 0) = false → ∀ (w5 : World), Bel w w5 → Under [n1] w5 → R (Ending.returned (Value.bool false)) w5)
theorem f42_eq (s_0 : Int) (s_1 : Int) (w : World) (R : Ending → World → Prop) : (fnF Go.Proofs.Tryd.prog h42 Go.Proofs.Tryd.f42 [Value.agg #[Value.int IntKind.i64 s_0, Value.int IntKind.i64 s_1]] w R).den = f42_vc s_0 s_1 w R := by kernel_rfl
theorem f42_calls (s_0 : Int) (s_1 : Int) (w : World) (R : Ending → World → Prop) (h : f42_vc s_0 s_1 w R) : Calls Go.Proofs.Tryd.prog 42 (List.toArray [Value.agg #[Value.int IntKind.i64 s_0, Value.int IntKind.i64 s_1]]) w R :=
 fn_sound (H := h42) (fn := Go.Proofs.Tryd.f42) (by kernel_rfl) (by kernel_rfl) (by kernel_rfl) ((f42_eq s_0 s_1 w R).mpr h)


/-! manciple/mancipleref05.slot -/
def h43 : Hints := ⟨[1, 2], [], [], [], [], [], [], [], []⟩
def f43_vc (p_0 : Int) (p_1 : Int) (p_2 : Int) (w : World) (R : Ending → World → Prop) : Prop :=
 ∀ (n1 : Nat), w.heap.size ≤ n1 → ∀ (n2 : Nat), w.heap.size ≤ n2 → ∀ (w3 : World), Evo [n2] w w3 → Under [n1, n2] w3 → R (Ending.returned (Value.agg #[Value.int IntKind.i64 p_0, Value.int IntKind.i64 p_1])) w3
theorem f43_eq (p_0 : Int) (p_1 : Int) (p_2 : Int) (w : World) (R : Ending → World → Prop) : (fnF Go.Proofs.Tryd.prog h43 Go.Proofs.Tryd.f43 [Value.agg #[Value.int IntKind.i64 p_0, Value.int IntKind.i64 p_1, Value.int IntKind.i64 p_2]] w R).den = f43_vc p_0 p_1 p_2 w R := by kernel_rfl
theorem f43_calls (p_0 : Int) (p_1 : Int) (p_2 : Int) (w : World) (R : Ending → World → Prop) (h : f43_vc p_0 p_1 p_2 w R) : Calls Go.Proofs.Tryd.prog 43 (List.toArray [Value.agg #[Value.int IntKind.i64 p_0, Value.int IntKind.i64 p_1, Value.int IntKind.i64 p_2]]) w R :=
 fn_sound (H := h43) (fn := Go.Proofs.Tryd.f43) (by kernel_rfl) (by kernel_rfl) (by kernel_rfl) ((f43_eq p_0 p_1 p_2 w R).mpr h)


/-! manciple/mancipleref04.All -/
def h44 : Hints := ⟨[], [], [5, 9], [], [], [(3, ⟨[(1, .sl), (2, .int .i64)], []⟩), (6, ⟨[(1, .sl), (3, .int .i64)], []⟩)], [], [], []⟩
def f44_vc  (w : World) (R : Ending → World → Prop) : Prop :=
 ∃ (J1 : (Option Addr × Nat × Nat) × Int × Unit → World → Prop),
 ∃ (J2 : (Option Addr × Nat × Nat) × Int × Unit → World → Nat),
 J1 ((none, 0, 0), 0, ()) w ∧
 ∀ (a3 : Option Addr) (n4 n5 : Nat) (x6 : Int) (w7 : World),
 J1 ((a3, n4, n5), x6, ()) w7 →
 (decide (x6 < 4) = true →
 ∃ (J8 : (Option Addr × Nat × Nat) × Int × Unit → World → Prop),
 ∃ (J9 : (Option Addr × Nat × Nat) × Int × Unit → World → Nat),
 J8 ((a3, n4, n5), 0, ()) w7 ∧
 ∀ (a10 : Option Addr) (n11 n12 : Nat) (x13 : Int) (w14 : World),
 J8 ((a10, n11, n12), x13, ()) w14 →
 (decide (x13 ≤ 32) = true →
 OpW Proofs.Tryd.prog (valueS (Instr.buildSlice 55 1 #[(0, Value.agg #[Value.int IntKind.i64 x6, Value.int IntKind.i64 x13])])) w14 fun (v15 : Value) (w16 : World) =>
 ∃ (a17 : Option Addr),
 ∃ (n18 : Nat),
 ∃ (n19 : Nat),
 v15 = Value.slice a17 n18 n19 ∧
 OpW Proofs.Tryd.prog (builtin Builtin.append #[55, 55] 55 #[false, false] #[Value.slice a10 n11 n12, Value.slice a17 n18 n19]) w16 fun (v20 : Value) (w21 : World) =>
 ∃ (a22 : Option Addr),
 ∃ (n23 : Nat),
 ∃ (n24 : Nat),
 v20 = Value.slice a22 n23 n24 ∧ J8 ((a22, n23, n24), IntKind.i64.wrap (x13 + 1), ()) w21 ∧ J9 ((a22, n23, n24), IntKind.i64.wrap (x13 + 1), ()) w21 < J9 ((a10, n11, n12), x13, ()) w14) ∧
 (decide (x13 ≤ 32) = false → J1 ((a10, n11, n12), IntKind.i64.wrap (x6 + 1), ()) w14 ∧ J2 ((a10, n11, n12), IntKind.i64.wrap (x6 + 1), ()) w14 < J2 ((a3, n4, n5), x6, ()) w7)) ∧
 (decide (x6 < 4) = false → R (Ending.returned (Value.slice a3 n4 n5)) w7)
theorem f44_eq  (w : World) (R : Ending → World → Prop) : (fnF Go.Proofs.Tryd.prog h44 Go.Proofs.Tryd.f44 [] w R).den = f44_vc  w R := by kernel_rfl
theorem f44_calls  (w : World) (R : Ending → World → Prop) (h : f44_vc  w R) : Calls Go.Proofs.Tryd.prog 44 (List.toArray []) w R :=
 fn_sound (H := h44) (fn := Go.Proofs.Tryd.f44) (by kernel_rfl) (by kernel_rfl) (by kernel_rfl) ((f44_eq  w R).mpr h)


/-! manciple/mancipleref03.Sum -/
def h45 : Hints := ⟨[], [17, 27, 35], [12, 31, 39, 20, 24], [], [], [(3, ⟨[(6, .int .i64), (7, .int .i64)], []⟩)], [], [], []⟩
def f45_vc (most : Int) (la : Option Addr) (ln : Nat) (lc : Nat) (w : World) (R : Ending → World → Prop) : Prop :=
 ∃ (J1 : Int × Int × Unit → World → Prop),
 ∃ (J2 : Int × Int × Unit → World → Nat),
 J1 (most, 0, ()) w ∧
 ∀ (x3 x4 : Int) (w5 : World),
 J1 (x3, x4, ()) w5 →
 (decide (x4 < (↑ln : Int)) = true →
 ∃ (ad6 : Addr),
 Gives Proofs.Tryd.prog (Instr.indexAt 57 (Value.slice la ln lc) (Value.int IntKind.i64 x4)) (Value.pointer (some ad6)) ∧
 ∃ (x7 : Int),
 Reads Proofs.Tryd.prog [] (Instr.loadAt 2 (Value.pointer (some ad6))) w5 (Value.int IntKind.i64 x7) ∧
 (decide (x7 < 0) = true → R (Ending.returned (Value.tuple #[Value.int IntKind.i64 0, Value.bool false])) w5) ∧
 (decide (x7 < 0) = false →
 (decide (x3 < 0) = true → R (Ending.returned (Value.tuple #[Value.int IntKind.i64 0, Value.bool false])) w5) ∧
 (decide (x3 < 0) = false →
 ∃ (ad8 : Addr),
 Gives Proofs.Tryd.prog (Instr.indexAt 57 (Value.slice la ln lc) (Value.int IntKind.i64 x4)) (Value.pointer (some ad8)) ∧
 ∃ (x9 : Int),
 Reads Proofs.Tryd.prog [] (Instr.loadAt 2 (Value.pointer (some ad8))) w5 (Value.int IntKind.i64 x9) ∧
 (decide (x9 > x3) = true → R (Ending.returned (Value.tuple #[Value.int IntKind.i64 0, Value.bool false])) w5) ∧
 (decide (x9 > x3) = false →
 ∃ (ad10 : Addr),
 Gives Proofs.Tryd.prog (Instr.indexAt 57 (Value.slice la ln lc) (Value.int IntKind.i64 x4)) (Value.pointer (some ad10)) ∧
 ∃ (x11 : Int),
 Reads Proofs.Tryd.prog [] (Instr.loadAt 2 (Value.pointer (some ad10))) w5 (Value.int IntKind.i64 x11) ∧
 J1 (IntKind.i64.wrap (x3 - x11), IntKind.i64.wrap (x4 + 1), ()) w5 ∧ J2 (IntKind.i64.wrap (x3 - x11), IntKind.i64.wrap (x4 + 1), ()) w5 < J2 (x3, x4, ()) w5)))) ∧
 (decide (x4 < (↑ln : Int)) = false →
 (decide (most < 0) = true → R (Ending.returned (Value.tuple #[Value.int IntKind.i64 0, Value.bool false])) w5) ∧
 (decide (most < 0) = false → R (Ending.returned (Value.tuple #[Value.int IntKind.i64 (IntKind.i64.wrap (most - x3)), Value.bool true])) w5))
theorem f45_eq (most : Int) (la : Option Addr) (ln : Nat) (lc : Nat) (w : World) (R : Ending → World → Prop) : (fnF Go.Proofs.Tryd.prog h45 Go.Proofs.Tryd.f45 [Value.int IntKind.i64 most, Value.slice la ln lc] w R).den = f45_vc most la ln lc w R := by kernel_rfl
theorem f45_calls (most : Int) (la : Option Addr) (ln : Nat) (lc : Nat) (w : World) (R : Ending → World → Prop) (h : f45_vc most la ln lc w R) : Calls Go.Proofs.Tryd.prog 45 (List.toArray [Value.int IntKind.i64 most, Value.slice la ln lc]) w R :=
 fn_sound (H := h45) (fn := Go.Proofs.Tryd.f45) (by kernel_rfl) (by kernel_rfl) (by kernel_rfl) ((f45_eq most la ln lc w R).mpr h)


/-! manciple/mancipleref05.with -/
def h46 : Hints := ⟨[4], [], [8], [], [], [], [], [], []⟩
def f46_vc (va : Option Addr) (vn : Nat) (vc : Nat) (s_0 : Int) (s_1 : Int) (n : Int) (w : World) (R : Ending → World → Prop) : Prop :=
 ∀ (n1 : Nat),
 w.heap.size ≤ n1 →
 ((n == 0) = true → ∀ (w2 : World), Bel w w2 → Under [n1] w2 → R (Ending.returned (Value.slice va vn vc)) w2) ∧
 ((n == 0) = false →
 ∀ (w3 : World),
 Bel w w3 →
 Under [n1] w3 →
 OpW Proofs.Tryd.prog (valueS (Instr.buildSlice 22 1 #[(0, Value.agg #[Value.int IntKind.i64 s_0, Value.int IntKind.i64 s_1, Value.int IntKind.i64 n])])) w3 fun (v4 : Value) (w5 : World) =>
 ∃ (a6 : Option Addr),
 ∃ (n7 : Nat),
 ∃ (n8 : Nat),
 v4 = Value.slice a6 n7 n8 ∧
 Keeps [n1] w3 w5 ∧
 OpW Proofs.Tryd.prog (builtin Builtin.append #[22, 22] 22 #[false, false] #[Value.slice va vn vc, Value.slice a6 n7 n8]) w5 fun (v9 : Value) (w10 : World) =>
 ∃ (a11 : Option Addr), ∃ (n12 : Nat), ∃ (n13 : Nat), v9 = Value.slice a11 n12 n13 ∧ Keeps [n1] w5 w10 ∧ R (Ending.returned (Value.slice a11 n12 n13)) w10)
theorem f46_eq (va : Option Addr) (vn : Nat) (vc : Nat) (s_0 : Int) (s_1 : Int) (n : Int) (w : World) (R : Ending → World → Prop) : (fnF Go.Proofs.Tryd.prog h46 Go.Proofs.Tryd.f46 [Value.slice va vn vc, Value.agg #[Value.int IntKind.i64 s_0, Value.int IntKind.i64 s_1], Value.int IntKind.i64 n] w R).den = f46_vc va vn vc s_0 s_1 n w R := by kernel_rfl
theorem f46_calls (va : Option Addr) (vn : Nat) (vc : Nat) (s_0 : Int) (s_1 : Int) (n : Int) (w : World) (R : Ending → World → Prop) (h : f46_vc va vn vc s_0 s_1 n w R) : Calls Go.Proofs.Tryd.prog 46 (List.toArray [Value.slice va vn vc, Value.agg #[Value.int IntKind.i64 s_0, Value.int IntKind.i64 s_1], Value.int IntKind.i64 n]) w R :=
 fn_sound (H := h46) (fn := Go.Proofs.Tryd.f46) (by kernel_rfl) (by kernel_rfl) (by kernel_rfl) ((f46_eq va vn vc s_0 s_1 n w R).mpr h)


/-! manciple/mancipleref04.Cmp -/
def h47 : Hints := ⟨[2, 3], [], [23, 35, 10, 16, 29], [], [], [], [], [], []⟩
def f47_vc (a_0 : Int) (a_1 : Int) (b_0 : Int) (b_1 : Int) (w : World) (R : Ending → World → Prop) : Prop :=
 ∀ (n1 : Nat),
 w.heap.size ≤ n1 →
 ∀ (n2 : Nat),
 w.heap.size ≤ n2 →
 (decide (a_0 < b_0) = true → ∀ (w3 : World), Bel w w3 → Under [n1, n2] w3 → R (Ending.returned (Value.int IntKind.i64 (-1))) w3) ∧
 (decide (a_0 < b_0) = false →
 ((a_0 == b_0) = true →
 (decide (a_1 < b_1) = true → ∀ (w4 : World), Bel w w4 → Under [n1, n2] w4 → R (Ending.returned (Value.int IntKind.i64 (-1))) w4) ∧
 (decide (a_1 < b_1) = false →
 ((a_0 == b_0) = true →
 ((a_1 == b_1) = true → ∀ (w5 : World), Bel w w5 → Under [n1, n2] w5 → R (Ending.returned (Value.int IntKind.i64 0)) w5) ∧
 ((a_1 == b_1) = false → ∀ (w6 : World), Bel w w6 → Under [n1, n2] w6 → R (Ending.returned (Value.int IntKind.i64 1)) w6)) ∧
 ((a_0 == b_0) = false → ∀ (w7 : World), Bel w w7 → Under [n1, n2] w7 → R (Ending.returned (Value.int IntKind.i64 1)) w7))) ∧
 ((a_0 == b_0) = false →
 ((a_0 == b_0) = true →
 ((a_1 == b_1) = true → ∀ (w8 : World), Bel w w8 → Under [n1, n2] w8 → R (Ending.returned (Value.int IntKind.i64 0)) w8) ∧
 ((a_1 == b_1) = false → ∀ (w9 : World), Bel w w9 → Under [n1, n2] w9 → R (Ending.returned (Value.int IntKind.i64 1)) w9)) ∧
 ((a_0 == b_0) = false → ∀ (w10 : World), Bel w w10 → Under [n1, n2] w10 → R (Ending.returned (Value.int IntKind.i64 1)) w10)))
theorem f47_eq (a_0 : Int) (a_1 : Int) (b_0 : Int) (b_1 : Int) (w : World) (R : Ending → World → Prop) : (fnF Go.Proofs.Tryd.prog h47 Go.Proofs.Tryd.f47 [Value.agg #[Value.int IntKind.i64 a_0, Value.int IntKind.i64 a_1], Value.agg #[Value.int IntKind.i64 b_0, Value.int IntKind.i64 b_1]] w R).den = f47_vc a_0 a_1 b_0 b_1 w R := by kernel_rfl
theorem f47_calls (a_0 : Int) (a_1 : Int) (b_0 : Int) (b_1 : Int) (w : World) (R : Ending → World → Prop) (h : f47_vc a_0 a_1 b_0 b_1 w R) : Calls Go.Proofs.Tryd.prog 47 (List.toArray [Value.agg #[Value.int IntKind.i64 a_0, Value.int IntKind.i64 a_1], Value.agg #[Value.int IntKind.i64 b_0, Value.int IntKind.i64 b_1]]) w R :=
 fn_sound (H := h47) (fn := Go.Proofs.Tryd.f47) (by kernel_rfl) (by kernel_rfl) (by kernel_rfl) ((f47_eq a_0 a_1 b_0 b_1 w R).mpr h)

end Vcx

/- Decimal digits, and strings as lists of bytes. -/
namespace Go.Vc
open Go Go.RowKit
def decL (n least : Int) : List Int := if 10 ≤ n ∨ (1 < least ∧ 0 ≤ n) then decL (n / 10) (least - 1) ++ [48 + n % 10] else [48 + n % 10]
termination_by n.toNat + least.toNat
decreasing_by
  rename_i h
  rcases h with h | h <;> omega

theorem decL_len (n least : Int) : (decL n least).length ≤ n.toNat + least.toNat + 1 := by
  rw [decL]
  split
  · rename_i h
    have := decL_len (n / 10) (least - 1)
    rw [List.length_append, List.length_singleton]
    rcases h with h | h <;> omega
  · simp
termination_by n.toNat + least.toNat
decreasing_by
  rename_i h
  rcases h with h | h <;> omega

theorem decL_byte (n least : Int) (hn : 0 ≤ n) : ∀ x ∈ decL n least, 48 ≤ x ∧ x ≤ 57 := by
  rw [decL]
  split
  · rename_i h
    intro x hx
    rcases List.mem_append.1 hx with hx | hx
    · exact decL_byte (n / 10) (least - 1) (by omega) x hx
    · simp at hx
      omega
  · intro x hx
    simp at hx
    omega
termination_by n.toNat + least.toNat
decreasing_by
  all_goals omega

theorem decL_one (n least : Int) (h : least ≤ 1) : decL n least = decL n 1 := by
  rw [decL, decL.eq_def n 1]
  by_cases hn : 10 ≤ n
  · rw [if_pos (.inl hn), if_pos (.inl hn), decL_one (n / 10) (least - 1) (by omega), decL_one (n / 10) (1 - 1) (by omega)]
  · rw [if_neg (by omega), if_neg (by omega)]
termination_by n.toNat
decreasing_by
  all_goals omega

theorem strOfNums_append (a b : List Int) : strOfNums a ++ strOfNums b = strOfNums (a ++ b) := by
  show (⟨_⟩ : ByteArray) ++ ⟨_⟩ = ⟨_⟩
  rw [ByteArray.mk_append_mk, List.map_append]

theorem decL_short : ∀ (k : Nat) (n : Int), 0 ≤ n → n < 10 ^ (k + 1) → (decL n 1).length ≤ k + 1
  | 0, n, h0, h => by
    rw [decL, if_neg (by omega)]
    simp
  | k + 1, n, h0, h => by
    rw [decL]
    split
    · rw [decL_one _ (1 - 1) (by omega), List.length_append, List.length_singleton]
      have e : (10 : Int) ^ (k + 1 + 1) = 10 ^ (k + 1) * 10 := Int.pow_succ ..
      have := decL_short k (n / 10) (by omega) (by rw [e] at h; omega)
      omega
    · simp

/-- Digits by the reference: put in front, one by one. -/
theorem digit1 {d : Int} (h : 0 ≤ d ∧ d < 10) : decL d 1 = [48 + d] := by
  rw [decL, if_neg (by omega), Int.emod_eq_of_lt h.1 h.2]
theorem dec_small {n : Int} (h : 0 ≤ n ∧ n ≤ 9223372036854775807) : (strOfNums (decL n 1)).size ≤ 19 := by
  rw [strOfNums_size]
  exact decL_short 18 n h.1 (by omega)

theorem bytesOf_strOfNums {l : List Int} (h : ∀ x ∈ l, 0 ≤ x ∧ x < 256) : bytesOf (strOfNums l) = l := by
  show (((l.map fun n => UInt8.ofNat n.toNat).toArray).toList.map fun b => (b.toNat : Int)) = l
  rw [List.toList_toArray, List.map_map]
  conv => rhs; rw [← List.map_id l]
  apply List.map_congr_left
  intro x hx
  have := h x hx
  simp
  omega
theorem bytes_ext {a b : ByteArray} (h : bytesOf a = bytesOf b) : a = b := by
  rw [← strOfNums_bytesOf a, h, strOfNums_bytesOf]

theorem append_sep {k : Int} : ∀ {a b x y : List Int}, k ∉ a → k ∉ b → a ++ k :: x = b ++ k :: y → a = b ∧ x = y
  | [], [], x, y, _, _, h => ⟨rfl, by simpa using h⟩
  | [], c :: b, x, y, _, hb, h => by
    simp at h
    exact absurd (h.1 ▸ List.mem_cons_self ..) hb
  | c :: a, [], x, y, ha, _, h => by
    simp at h
    exact absurd (h.1 ▸ List.mem_cons_self ..) ha
  | c :: a, d :: b, x, y, ha, hb, h => by
    simp only [List.cons_append, List.cons.injEq] at h
    obtain ⟨rfl, h⟩ := h
    obtain ⟨rfl, rfl⟩ := append_sep (fun hk => ha (List.mem_cons_of_mem _ hk)) (fun hk => hb (List.mem_cons_of_mem _ hk)) h
    exact ⟨rfl, rfl⟩

theorem decL_inj (n m : Int) (hn : 0 ≤ n) (hm : 0 ≤ m) (h : decL n 1 = decL m 1) : n = m := by
  rw [decL.eq_def n, decL.eq_def m] at h
  have l1 : ∀ k : Int, 0 < (decL k (1 - 1)).length := fun k => by rw [decL]; split <;> simp
  split at h <;> split at h
  · obtain ⟨h1, h2⟩ := List.append_inj' h rfl
    rw [decL_one _ (1 - 1) (by omega), decL_one (m / 10) (1 - 1) (by omega)] at h1
    have := decL_inj (n / 10) (m / 10) (by omega) (by omega) h1
    simp at h2
    omega
  · have hlen := congrArg List.length h
    rw [List.length_append, List.length_singleton, List.length_singleton] at hlen
    have := l1 (n / 10)
    omega
  · have hlen := congrArg List.length h
    rw [List.length_append, List.length_singleton, List.length_singleton] at hlen
    have := l1 (m / 10)
    omega
  · simp at h
    omega
termination_by n.toNat
decreasing_by
  all_goals omega

theorem decL_no {n : Int} (hn : 0 ≤ n) {k : Int} (hk : k < 48 ∨ 57 < k) : k ∉ decL n 1 := fun h => by
  have := decL_byte n 1 hn k h
  omega


/-- A string of bytes written out. -/
theorem opw_bytes0 {P : Program} {M : Nat → Prop} {w W : World} {t e td : TypeId} {len : Nat} {parts : Array (Nat × Value)} {l : List Int} {K : ByteArray → World → Prop} (hA : AtF w M [] W) (hl : len = l.length) (hm : len ≤ maxLen) (hc : sliceCells P t len parts = some (e, l.flatMap u8e))
    (hs : P.underlying t = some (.slice e)) (he : P.underlying e = some (.int .u8)) (hd : P.underlying td = some .string)
    (h : ∀ w', AtF w M [] w' → Bel W w' → K (strOfNums l) w') :
    OpW P (valueS (Instr.buildSlice t len parts)) W fun v1 w1 => ∃ a n c, v1 = .slice a n c ∧ OpW P (valueS (convert t td (.slice a n c))) w1 fun v2 w2 => ∃ s, v2 = .string s ∧ K s w2 := by
  refine opw_litL (f := u8e) (size := 1) hA hl (fun _ _ => rfl) hm hc fun g w' _ hA' _ hb ho => ⟨_, _, _, rfl, ?_⟩
  exact opw_b2s hs he hd (ho.sl (by simp)) ⟨_, rfl, h w' hA' hb⟩
end Go.Vc

/- Own text of this claim: E1. -/
set_option maxRecDepth 20000
namespace Go.Vc.VD
open Go Go.Vc Go.Vc.V Go.RowKit Go.Proofs Vcx

def sCpus : ByteArray := ByteArray.mk #[99, 112, 117, 115]
def sMem : ByteArray := ByteArray.mk #[109, 101, 109]
def sDisk : ByteArray := ByteArray.mk #[100, 105, 115, 107]
def sGpus : ByteArray := ByteArray.mk #[103, 112, 117, 115]
def nms : List ByteArray := [sCpus, sMem, sDisk, sGpus]
/-- The table, in memory. -/
def Tab (W : World) : Prop := Elt W ⟨1, 0, none⟩ (nms.map Value.string)
theorem Tab.below {W W' : World} (h : Tab W) (hb : Bel W W') : Tab W' := Elt.below h hb
theorem Tab.at_ {w W : World} {gs : List Nat} (h : Tab w) (hA : At w gs W) : Tab W := h.below hA.below

theorem c42 (k r : Int) (w : World) : Ret Tryd.prog 42 #[slotV k r] w (.bool (decide (slotR k r))) := by
  intro R h
  refine f42_calls k r w R ?_
  unfold f42_vc
  have hA := At.refl w
  refine go_n hA fun n1 h_n1 => ?_
  refine brD (fun h1 => brD (fun h2 => brD (fun h3 => ?_) (fun h3 => ?_)) (fun h2 => ?_)) (fun h1 => ?_)
  all_goals refine go_below hA fun _ hA => leaf h hA ?_
  · rw [show decide (slotR k r) = decide (r ≤ 32) from decide_eq_decide.2 ⟨fun hh => hh.2.2.2, fun hh => ⟨h1, by omega, h3, hh⟩⟩]
  · rw [decide_eq_false (show ¬ slotR k r from fun hh => h3 hh.2.2.1)]
  · rw [decide_eq_false (show ¬ slotR k r from fun hh => h2 (by have := hh.2.1; omega))]
  · rw [decide_eq_false (show ¬ slotR k r from fun hh => h1 hh.1)]

theorem c47 (a b c d : Int) (w : World) : Ret Tryd.prog 47 #[slotV a b, slotV c d] w (.int .i64 (slotC a b c d)) := by
  intro R h
  refine f47_calls a b c d w R ?_
  unfold f47_vc
  have hA := At.refl w
  refine go_n hA fun n1 h_n1 => ?_
  refine go_n hA fun n2 h_n2 => ?_
  have fin : ∀ {x : Int}, slotC a b c d = x → ∀ W, At w [n1, n2] W → R (.returned (.int .i64 x)) W := fun hx W hA => leaf h hA (by rw [hx])
  refine brD (fun h1 => go_below hA fun _ hA => fin (by rw [slotC, if_neg (by omega), if_pos (.inl h1)]) _ hA) (fun h1 => brE (fun h2 => brD (fun h3 => go_below hA fun _ hA => fin (by rw [slotC, if_neg (by omega), if_pos (.inr ⟨h2, h3⟩)]) _ hA) (fun h3 => ?_)) (fun h2 => ?_))
  · refine brE (fun _ => brE (fun h4 => go_below hA fun _ hA => fin (by rw [slotC, if_pos ⟨h2, h4⟩]) _ hA) (fun h4 => go_below hA fun _ hA => fin (by rw [slotC, if_neg (fun hh => h4 hh.2), if_neg (by omega)]) _ hA)) (fun hn => absurd h2 hn)
  · refine brE (fun he => absurd he h2) (fun _ => go_below hA fun _ hA => fin (by rw [slotC, if_neg (fun hh => h2 hh.1), if_neg (by omega)]) _ hA)

theorem c81 (w : World) (hT : Tab w) : Ret Tryd.prog 81 #[] w (.agg #[.string sCpus, .string sMem, .string sDisk, .string sGpus]) := by
  intro R h
  refine f81_calls w R ?_
  unfold f81_vc
  have hA := At.refl w
  refine go_n hA fun n1 h_n1 => ?_
  refine ⟨_, _, _, _, Elt.agg 4 hT (by kernel_rfl) (by kernel_rfl) (by decide) no_ds, ?_⟩
  refine go_evo hA (by intro d hd; simp at hd; omega) fun _ hA => ?_
  exact leaf h hA rfl

end Go.Vc.VD

/- Own text of this claim: E2. -/
set_option maxRecDepth 20000
namespace Go.Vc.VD
open Go Go.Vc Go.Vc.V Go.RowKit Go.Proofs Vcx

theorem u8_digit {x : Int} (h : 0 ≤ x) : IntKind.u8.wrap (IntKind.i64.wrap (48 + x.tmod 10)) = 48 + x % 10 := by
  rw [Int.tmod_eq_emod_of_nonneg h, wrap_i64 (by omega) (by omega), wrap_u8]
  omega

theorem c69 {w0 : World} {gs : List Nat} (n least : Int) (h0 : 0 ≤ n) (h1 : n ≤ 9223372036854775807) (h2 : least ≤ 1000) (h3 : -4611686018427387904 ≤ least - n) {W : World} {a : Option Addr} {m c : Nat} {l : List Int} (hA : At w0 gs W) (ho : OwnL w0 gs W 5 1 u8e (.slice a m c) l) (hb : l.length + n.toNat + least.toNat + 1 ≤ 70368744177664)
    (R : Ending → World → Prop) (h : ∀ a' c' w', At w0 gs w' → Keeps gs W w' → OwnL w0 gs w' 5 1 u8e (.slice a' (l ++ decL n least).length c') (l ++ decL n least) → R (.returned (.slice a' (l ++ decL n least).length c')) w') :
    Calls Tryd.prog 69 #[.slice a m c, .int .i64 n, .int .i64 least] W R := by
  refine f69_calls a m c n least W R ?_
  unfold f69_vc
  rw [u8_digit h0]
  have fin : ∀ {W : World} {a : Option Addr} {m c : Nat} {l' : List Int}, At w0 gs W → OwnL w0 gs W 5 1 u8e (.slice a m c) l' → l'.length + 1 ≤ 70368744177664 → ∀ {K : Value → World → Prop}, (∀ a' c' w', At w0 gs w' → Keeps gs W w' → OwnL w0 gs w' 5 1 u8e (.slice a' (l' ++ [48 + n % 10]).length c') (l' ++ [48 + n % 10]) → K (.slice a' (l' ++ [48 + n % 10]).length c') w') → OpW Tryd.prog (valueS (Instr.buildSlice 80 1 #[(0, .int .u8 (48 + n % 10))])) W fun v w' => ∃ a1 n1 c1, v = .slice a1 n1 c1 ∧ OpW Tryd.prog (builtin .append #[80, 80] 80 #[false, false] #[.slice a m c, .slice a1 n1 c1]) w' K := by
    intro W a m c l' hA ho hlen K hK
    refine opw_lit hA (e' := 5) (cs := u8e (48 + n % 10)) (by kernel_rfl) fun w' hA hk hb hc _ => ⟨_, _, _, rfl, ?_⟩
    refine opw_append1 (bytes := 1) (by kernel_rfl) hA (ho.call hb) (x := 48 + n % 10) rfl hc (by simp [Value.oneCell']) hlen (.inl rfl) fun v' w'' hA hk2 hg ho' _ => ?_
    obtain ⟨a', c', rfl, _⟩ := ho'.slice (by simp)
    exact hK a' c' w'' hA (fun g hg => (hk2 g hg).trans (hk g hg)) ho'
  have hlen := decL_len (n / 10) (least - 1)
  have rec' : (10 ≤ n ∨ (1 < least ∧ 0 ≤ n)) → ∀ (R : Ending → World → Prop), (∀ a' c' w', At w0 gs w' → Keeps gs W w' → OwnL w0 gs w' 5 1 u8e (.slice a' (l ++ decL (n / 10) (least - 1)).length c') (l ++ decL (n / 10) (least - 1)) → R (.returned (.slice a' (l ++ decL (n / 10) (least - 1)).length c')) w') →
      Calls Tryd.prog 69 #[.slice a m c, .int .i64 (IntKind.i64.wrap (n.tdiv 10)), .int .i64 (IntKind.i64.wrap (least - 1))] W R := by
    intro hc R h
    rw [Int.tdiv_eq_ediv_of_nonneg h0, wrap_i64 (by omega) (by omega), wrap_i64 (by omega) (by omega)]
    exact c69 (n / 10) (least - 1) (by omega) (by omega) (by omega) (by omega) hA ho (by rcases hc with hc | hc <;> omega) R h
  have hstep : (10 ≤ n ∨ (1 < least ∧ 0 ≤ n)) → decL n least = decL (n / 10) (least - 1) ++ [48 + n % 10] := fun hc => by rw [decL, if_pos hc]
  have go : (10 ≤ n ∨ (1 < least ∧ 0 ≤ n)) → Calls Tryd.prog 69 #[.slice a m c, .int .i64 (IntKind.i64.wrap (n.tdiv 10)), .int .i64 (IntKind.i64.wrap (least - 1))] W fun e w' => ∃ a3 n4 n5, e = .returned (.slice a3 n4 n5) ∧ OpW Tryd.prog (valueS (Instr.buildSlice 80 1 #[(0, .int .u8 (48 + n % 10))])) w' fun v w' => ∃ a1 n1 c1, v = .slice a1 n1 c1 ∧ OpW Tryd.prog (builtin .append #[80, 80] 80 #[false, false] #[.slice a3 n4 n5, .slice a1 n1 c1]) w' fun v w' => ∃ a1 n1 c1, v = .slice a1 n1 c1 ∧ R (.returned (.slice a1 n1 c1)) w' := by
    intro hc
    refine rec' hc _ fun a' c' w' hA hk ho => ⟨_, _, _, rfl, ?_⟩
    refine fin hA ho (by rw [List.length_append]; rcases hc with hc | hc <;> omega) fun a' c' w'' hA hk2 ho => ⟨_, _, _, rfl, ?_⟩
    have e : l ++ decL (n / 10) (least - 1) ++ [48 + n % 10] = l ++ decL n least := by rw [hstep hc, List.append_assoc]
    rw [e] at ho ⊢
    exact h a' c' w'' hA (fun g hg => (hk2 g hg).trans (hk g hg)) ho
  refine brD (fun h10 => go (.inl h10)) (fun h10 => brD (fun hl => go (.inr ⟨hl, h0⟩)) (fun hl => ?_))
  refine fin hA ho (by omega) fun a' c' w' hA hk ho => ⟨_, _, _, rfl, ?_⟩
  have e : [48 + n % 10] = decL n least := by rw [decL, if_neg (by omega)]
  rw [e] at ho ⊢
  exact h a' c' w' hA hk ho
termination_by n.toNat + least.toNat
decreasing_by
  rcases hc with hc | hc <;> omega

/-! ### Text -/
def strip (l : List Int) : List Int := (l.reverse.dropWhile (· == 48)).reverse
def txtL (n : Int) : List Int := if 0 ≤ n ∧ n ≤ 9007199254740992 then (if n % 1000 = 0 then decL (n / 1000) 1 else strip (decL (n / 1000) 1 ++ [46] ++ decL (n % 1000) 3)) else []

theorem strip_snoc (l : List Int) : strip (l ++ [48]) = strip l := by simp [strip]
theorem strip_keep (l : List Int) {x : Int} (h : x ≠ 48) : strip (l ++ [x]) = l ++ [x] := by
  simp [strip, h]

theorem c55 (n : Int) (w : World) (hn : I64 n) : Ret Tryd.prog 55 #[.int .i64 n] w (.string (strOfNums (txtL n))) := by
  intro R h
  refine f55_calls n w R ?_
  unfold f55_vc
  have hA := At.refl w
  refine at_call hA (c37 _ _) (fun _ hA hk => ⟨_, rfl, ?_⟩)
  refine brND (fun hr => leaf h hA (by rw [txtL, if_neg hr]; rfl)) (fun hr => ?_)
  rw [txtL, if_pos hr] at h
  rw [Int.tdiv_eq_ediv_of_nonneg hr.1, Int.tmod_eq_emod_of_nonneg hr.1, wrap_i64 (by omega) (by omega)]
  refine c69 (n / 1000) 1 (by omega) (by omega) (by omega) (by omega) hA OwnL.nil (by simp; omega) _ fun a' c' w' hA hk ho => ⟨_, _, _, rfl, ?_⟩
  rw [List.nil_append] at ho ⊢
  have hd := decL_len (n / 1000) 1
  refine brE (fun h0 => ?_) (fun h0 => ?_)
  · rw [if_pos h0] at h
    refine opw_b2s (e := 5) (by kernel_rfl) (by kernel_rfl) (by kernel_rfl) (ho.sl (by simp)) ⟨_, rfl, ?_⟩
    exact leaf h hA rfl
  · rw [if_neg h0] at h
    refine opw_lit hA (e' := 5) (cs := u8e 46) (by kernel_rfl) fun w' hA hk hb hc _ => ⟨_, _, _, rfl, ?_⟩
    refine opw_append1 (bytes := 1) (by kernel_rfl) hA (ho.call hb) (x := 46) rfl hc (by simp [Value.oneCell']) (by omega) (.inl rfl) fun v' w'' hA hk2 hg ho' _ => ?_
    obtain ⟨a1, c1, rfl, _⟩ := ho'.slice (by simp)
    refine ⟨_, _, _, rfl, ?_⟩
    refine c69 (n % 1000) 3 (by omega) (by omega) (by omega) (by omega) hA ho' (by simp; omega) _ fun a' c' w' hA hk ho => ⟨_, _, _, rfl, ?_⟩
    generalize hL : decL (n / 1000) 1 ++ [46] ++ decL (n % 1000) 3 = L at ho h ⊢
    have hne : ∃ x ∈ L, x ≠ 48 := ⟨46, by rw [← hL]; simp, by decide⟩
    have hlen : L.length ≤ 70368744177664 := by
      have := decL_len (n % 1000) 3
      rw [← hL]
      simp
      omega
    have hby : ∀ x ∈ L, 0 ≤ x ∧ x ≤ 57 := by
      rw [← hL]
      intro x hx
      simp at hx
      rcases hx with hx | rfl | hx
      · have := decL_byte _ _ (by omega) x hx; omega
      · omega
      · have := decL_byte _ _ (by omega) x hx; omega
    refine ⟨fun s W => At w [] W ∧ ∃ l : List Int, OwnL w [] W 5 1 u8e (.slice s.1.1 s.1.2.1 s.1.2.2) l ∧ l <+: L ∧ (∃ x ∈ l, x ≠ 48) ∧ strip l = strip L, fun s _ => s.1.2.1, ⟨hA, L, ho, List.prefix_rfl, hne, rfl⟩, ?_⟩
    intro a2 m2 c2 W ⟨hA, l, ho, hpre, hnz, hst⟩
    have hm := ho.len
    simp only at hm ho
    subst hm
    have hll := hpre.length_le
    have hpos : 0 < l.length := by
      obtain ⟨x, hx, _⟩ := hnz
      exact List.length_pos_of_mem hx
    have hidx : IntKind.i64.wrap ((l.length : Int) - 1) = ((l.length - 1 : Nat) : Int) := by
      rw [wrap_i64 (by omega) (by omega)]
      omega
    rw [hidx]
    obtain ⟨l', x, rfl⟩ : ∃ l' x, l = l' ++ [x] := ⟨l.dropLast, l.getLast (List.length_pos_iff.1 hpos), (List.dropLast_concat_getLast _).symm⟩
    have hx : (l' ++ [x])[(l' ++ [x]).length - 1]? = some x := by simp
    obtain ⟨ad, g1, r1⟩ := rd_one (te := 5) (ds := []) (k := .i64) (t := 80) (P := Tryd.prog) (e := 5) (ho.sl (by simp)) hx rfl (by kernel_rfl) (by kernel_rfl) (by kernel_rfl) (fun _ h => by cases h)
    refine ⟨_, g1, _, r1, brE (fun h48 => ?_) (fun h48 => ?_)⟩
    · subst h48
      obtain ⟨g, cur, _, _, _, hcap, _⟩ := ho.ptr hpos
      refine ⟨_, _, _, gives_front (e := 5) (size := 1) (by kernel_rfl) (by kernel_rfl) (by omega), ⟨hA, l', ?_, ?_, ?_, ?_⟩, ?_⟩
      · have hf := ho.front (by simp) (m := (l' ++ [(48 : Int)]).length - 1) (by omega)
        have e : (l' ++ [(48 : Int)]).take ((l' ++ [(48 : Int)]).length - 1) = l' := by simp
        rw [e] at hf
        exact hf
      · exact (List.prefix_append l' [48]).trans hpre
      · obtain ⟨y, hy, hy48⟩ := hnz
        rcases List.mem_append.1 hy with hy | hy
        · exact ⟨y, hy, hy48⟩
        · simp at hy
          exact absurd hy hy48
      · rw [← hst, strip_snoc]
      · simp only
        omega
    · refine opw_b2s (e := 5) (by kernel_rfl) (by kernel_rfl) (by kernel_rfl) (ho.sl (by simp)) ⟨_, rfl, ?_⟩
      exact leaf h hA (by rw [← hst, strip_keep _ h48])
end Go.Vc.VD

