/- How a state of the generator stands to the machine's own: the relation, and what keeps it. -/
import Derived.Test.YtfipbnoidoljoaaVcOps
namespace Go.Vc
open Go Go.RowKit

structure Rel (n : Nat) (st : St) (a : Act) (W : World) : Prop where
  defers : a.defers = []
  size : a.tmps.size = n
  env : ∀ t s, look st.env t = some s → s.alive = true → a.tmps[t]? = some (s.value st.gs)
  locs : ∀ t s, look st.env t = some s → s.okAt st.gs.length
  boxes : ∀ (j : Nat) (cells : List Value) (ty : TypeId), st.boxes[j]? = some (cells, ty) → ∃ g, st.gs[j]? = some g ∧ W.heap[g]? = some (.cells cells.toArray ty (0, 0))
  gsLen : st.gs.length = st.boxes.length
  gsOrd : st.gs.Pairwise (· < ·)
  gsLt : ∀ g ∈ st.gs, g < W.heap.size
  evo : Evo st.dirty st.w W
  clean : st.clean = true → W = st.w

structure Ext (ds : List Nat) (st st' : St) : Prop where
  env : ∀ t, t ∉ ds → look st'.env t = look st.env t
  gs : st.gs <+: st'.gs
  ro : st'.ro = st.ro
  box : ∀ j ∈ st.ro, j < st.boxes.length → st'.boxes[j]? = st.boxes[j]?
  ty : ∀ (j : Nat) (cells : List Value) (ty : TypeId), st.boxes[j]? = some (cells, ty) → ∃ cells', st'.boxes[j]? = some (cells', ty)

theorem Ext.refl (ds : List Nat) (st : St) : Ext ds st st := ⟨fun _ _ => rfl, List.prefix_rfl, rfl, fun _ _ _ => rfl, fun _ cells _ h => ⟨cells, h⟩⟩
theorem Ext.len {ds : List Nat} {a b : St} (h : Ext ds a b) : a.boxes.length ≤ b.boxes.length := by
  rcases Nat.lt_or_ge b.boxes.length a.boxes.length with hlt | hge
  · obtain ⟨c', hc'⟩ := h.ty b.boxes.length _ _ (List.getElem?_eq_getElem hlt)
    have := (List.getElem?_eq_some_iff.1 hc').1
    omega
  · exact hge
theorem Ext.trans {ds es : List Nat} {a b c : St} (h : Ext ds a b) (k : Ext es b c) : Ext (ds ++ es) a c :=
  ⟨fun t ht => by
    simp only [List.mem_append, not_or] at ht
    rw [k.env t ht.2, h.env t ht.1],
   h.gs.trans k.gs, k.ro.trans h.ro, fun j hj hl => by rw [k.box j (h.ro ▸ hj) (Nat.lt_of_lt_of_le hl h.len), h.box j hj hl], fun j c ty hj => by
    obtain ⟨c1, h1⟩ := h.ty j c ty hj
    exact k.ty j c1 ty h1⟩
theorem Ext.mono {ds es : List Nat} {a b : St} (h : Ext ds a b) (hs : ∀ t ∈ ds, t ∈ es) : Ext es a b :=
  ⟨fun t ht => h.env t fun hd => ht (hs t hd), h.gs, h.ro, h.box, h.ty⟩
theorem Ext.tr {ds : List Nat} {a b c : St} (h : Ext ds a b) (k : Ext ds b c) : Ext ds a c := (h.trans k).mono fun _ ht => (List.mem_append.1 ht).elim id id

theorem Evo.refl (w : World) : Evo [] w w := ⟨rfl, rfl, rfl, Nat.le_refl _, fun _ _ _ => rfl, Nat.le_refl _⟩
theorem Bel.refl (w : World) : Bel w w := ⟨Below.refl _ _, Nat.le_refl _⟩
theorem evoP_of {ds : List Nat} {w W : World} (h : Evo ds w W) : evoP ds w W := by
  cases ds with
  | nil => exact ⟨⟨h.os, h.tape, h.output, h.size, fun b hb => h.block b hb (by simp)⟩, h.drawn⟩
  | cons d r => exact h

theorem Rel.rho {n : Nat} {st : St} {a : Act} {W : World} (h : Rel n st a W) {x : Operand} (hx : (st.slot x).alive = true) : a.eval x = st.rho x := by
  cases x with
  | tmp t =>
    simp only [St.slot] at hx
    cases hl : look st.env t with
    | none => simp [hl, Slot.alive] at hx
    | some s =>
      simp only [hl, Option.getD_some] at hx
      have := h.env t s hl hx
      simp [Act.eval, St.rho, St.slot, hl, this]
  | const v => cases v <;> rfl
  | global g => rfl
  | func f => rfl

theorem Rel.slotOk {n : Nat} {st : St} {a : Act} {W : World} (h : Rel n st a W) (x : Operand) : (st.slot x).okAt st.gs.length := by
  cases x with
  | tmp t =>
    simp only [St.slot]
    cases hl : look st.env t with
    | none => trivial
    | some s => exact h.locs t s hl
  | const v => cases v <;> trivial
  | global g => trivial
  | func f => trivial

theorem Rel.exec {n : Nat} {st : St} {a : Act} {W : World} (h : Rel n st a W) {o : Oper} (hs : ∀ cs b, o.op ≠ .select cs b) (ho : st.alive o = true) : execOp a.eval o = execOp st.rho o :=
  execOp_congr o hs fun x hx => h.rho (by
    simp only [St.alive, List.all_eq_true] at ho
    exact ho x (Array.mem_toList_iff.2 hx))

theorem getElem?_put {a : Act} {d : Tmp} {v : Value} {n : Nat} (hn : a.tmps.size = n) (hd : d < n) : (a.put (some d) v).tmps[d]? = some v := by
  subst hn
  simp [Act.put, Array.getElem?_setIfInBounds_self_of_lt hd]

theorem put_ne {a : Act} {d t : Tmp} {v : Value} (h : d ≠ t) : (a.put (some d) v).tmps[t]? = a.tmps[t]? := by
  simp [Act.put, Array.getElem?_setIfInBounds_ne h]

/-- A temporary is written. -/
theorem Rel.set {n : Nat} {st : St} {a : Act} {W : World} (h : Rel n st a W) {o : Oper} (hd : dstOk n o = true) {s : Slot} {v : Value} (hl : s.okAt st.gs.length) (hv : s.alive = true → v = s.value st.gs) :
    Rel n (st.set o.dst s) (a.put o.dst v) W := by
  cases ho : o.dst with
  | none => exact h
  | some d =>
    have hlt : d < n := by
      simp only [dstOk, ho] at hd
      exact Nat.le_of_ble_eq_true hd
    refine ⟨h.defers, by simp [Act.put, h.size], fun t s' ht hs' => ?_, fun t s' ht => ?_, h.boxes, h.gsLen, h.gsOrd, h.gsLt, h.evo, h.clean⟩
    · by_cases hdt : d = t
      · subst hdt
        simp only [St.set, look_eq, Option.some.injEq] at ht
        subst ht
        rw [getElem?_put h.size hlt, hv hs']
        rfl
      · simp only [St.set, look_ne hdt] at ht
        rw [put_ne hdt]
        exact h.env t s' ht hs'
    · by_cases hdt : d = t
      · subst hdt
        simp only [St.set, look_eq, Option.some.injEq] at ht
        subst ht
        exact hl
      · simp only [St.set, look_ne hdt] at ht
        exact h.locs t s' ht

theorem Ext.set (st : St) (dst : Option Tmp) (s : Slot) : Ext dst.toList st (st.set dst s) := by
  cases dst with
  | none => exact Ext.refl _ _
  | some d => exact ⟨fun t ht => look_ne (fun e => ht (by simp [e])) _ _, List.prefix_rfl, rfl, fun _ _ _ => rfl, fun _ cells _ h => ⟨cells, h⟩⟩

theorem Rel.pend {n : Nat} {st : St} {a : Act} {W : World} (h : Rel n st a W) (l : List Pend) : Rel n { st with pend := l } a W :=
  ⟨h.defers, h.size, h.env, h.locs, h.boxes, h.gsLen, h.gsOrd, h.gsLt, h.evo, h.clean⟩
theorem Ext.pend (ds : List Nat) (st : St) (l : List Pend) : Ext ds st { st with pend := l } := ⟨fun _ _ => rfl, List.prefix_rfl, rfl, fun _ _ _ => rfl, fun _ cells _ h => ⟨cells, h⟩⟩
theorem Rel.putp {n : Nat} {st : St} {a : Act} {W : World} (h : Rel n st a W) (dr : Bool) (p : Pend) : Rel n (st.put dr p) a W := by
  cases dr
  · exact h
  · exact h.pend _
theorem Ext.putp (ds : List Nat) (st : St) (dr : Bool) (p : Pend) : Ext ds st (st.put dr p) := by
  cases dr
  · exact Ext.refl _ _
  · exact Ext.pend _ _ _

theorem Rel.box {n : Nat} {st : St} {a : Act} {W : World} (h : Rel n st a W) {j g : Nat} {cells : List Value} {ty : TypeId} (hb : st.boxes[j]? = some (cells, ty)) (hg : st.gs[j]? = some g) :
    W.heap[g]? = some (.cells cells.toArray ty (0, 0)) := by
  obtain ⟨g', hg', hc⟩ := h.boxes j cells ty hb
  rw [hg] at hg'
  cases hg'
  exact hc

/-! ### Loads and stores at a known block -/
section mem
variable {P : Program}

theorem addr_add (g off i : Nat) : (⟨g, off, none⟩ : Addr).add i = ⟨g, off + i, none⟩ := by
  unfold Addr.add
  split
  · rename_i h; subst h; rfl
  · rfl

theorem cell_at {W : World} {g : Nat} {cells : List Value} {ty : TypeId} {fr : Nat × Nat} (h : W.heap[g]? = some (.cells cells.toArray ty fr)) (i : Nat) : W.cell? ⟨g, i, none⟩ = cells[i]? := by
  simp [World.cell?, h]

theorem run_loadFrom {W : World} {g : Nat} {cells : List Value} {ty : TypeId} {fr : Nat × Nat} (h : W.heap[g]? = some (.cells cells.toArray ty fr)) (off : Nat) :
    ∀ (n i : Nat) (acc : Array Value), off + i + n ≤ cells.length → (loadCellsFrom ⟨g, off, none⟩ i n acc).run P W = .ok (acc ++ ((cells.drop (off + i)).take n).toArray) W
  | 0, i, acc, _ => by simp [loadCellsFrom, pure]
  | n + 1, i, acc, hl => by
    have hlt : off + i < cells.length := by omega
    have hc : W.cell? ⟨g, off + i, none⟩ = some cells[off + i] := by rw [cell_at h, List.getElem?_eq_getElem hlt]
    have hld : (load ((⟨g, off, none⟩ : Addr).add i)).run P W = .ok cells[off + i] W := by
      simp [load, Sem.run, addr_add, hc]
    rw [loadCellsFrom, run_bind_ok hld, run_loadFrom h off n (i + 1) _ (by omega)]
    congr 1
    rw [List.drop_eq_getElem_cons hlt, List.take_succ_cons]
    simp [Nat.add_assoc]

theorem run_cellLoad {W : World} {g off : Nat} {cells : List Value} {ty t : TypeId} {fr : Nat × Nat} {v : Value} (h : W.heap[g]? = some (.cells cells.toArray ty fr)) (hv : cellLoad P t cells off = some v) :
    (Instr.loadAt t (.pointer (some ⟨g, off, none⟩))).run P W = .ok v W := by
  unfold cellLoad at hv
  have hs : (Instr.sureAddr (.pointer (some ⟨g, off, none⟩))).run P W = .ok ⟨g, off, none⟩ W := rfl
  unfold Instr.loadAt
  rw [run_bind_ok hs]
  unfold loadVar
  split at hv
  · rename_i m hagg hsz
    rw [run_bind_ok (pureRun_run hagg W)]
    simp only [if_true]
    rw [run_bind_ok (pureRun_run hsz W)]
    cases hb : Nat.ble (off + m) cells.length with
    | false => simp [hb] at hv
    | true =>
      simp only [hb, cond_true, Option.some.injEq] at hv
      have hle := Nat.le_of_ble_eq_true hb
      have := run_loadFrom (P := P) h off m 0 #[] (by omega)
      rw [run_bind_ok (s := loadCells ⟨g, off, none⟩ m) this]
      subst hv
      simp [pure]
  · rename_i m hagg hsz
    rw [run_bind_ok (pureRun_run hagg W)]
    simp only [Bool.false_eq_true, if_false]
    simp [load, Sem.run, cell_at h, hv]
  · cases hv

theorem run_store_one {W : World} {ad : Addr} {v u : Value} (hc : W.cell? ad = some u) (hf : W.frozen? ad = false) (h1 : oneCell v = true) : (store ad v).run P W = .ok () (W.setCell ad v) := by
  unfold store
  cases v <;> simp [oneCell] at h1 <;> simp [Sem.run, hc, hf]

theorem frozen_none {W : World} {g : Nat} {cells : List Value} {ty : TypeId} (h : W.heap[g]? = some (.cells cells.toArray ty (0, 0))) (i : Nat) : W.frozen? ⟨g, i, none⟩ = false := by
  simp [World.frozen?, h]

theorem run_storeFrom {ty : TypeId} {g off : Nat} : ∀ (vs : List Value) (i : Nat) (W : World) (cells : List Value), W.heap[g]? = some (.cells cells.toArray ty (0, 0)) → off + i + vs.length ≤ cells.length → vs.all oneCell = true →
    ∃ W', (storeCells ⟨g, off, none⟩ vs i).run P W = .ok () W' ∧ W'.heap[g]? = some (.cells (cells.take (off + i) ++ vs ++ cells.drop (off + i + vs.length)).toArray ty (0, 0)) ∧
      (∀ b, b ≠ g → W'.heap[b]? = W.heap[b]?) ∧ W'.heap.size = W.heap.size ∧ W'.os = W.os ∧ W'.tape = W.tape ∧ W'.output = W.output
  | [], i, W, cells, h, _, _ => ⟨W, rfl, by simpa using h, fun _ _ => rfl, rfl, rfl, rfl, rfl⟩
  | v :: vs, i, W, cells, h, hl, ho => by
    simp only [List.length_cons] at hl
    simp only [List.all_cons, Bool.and_eq_true] at ho
    have hlt : off + i < cells.length := by omega
    have hc : W.cell? ⟨g, off + i, none⟩ = some cells[off + i] := by rw [cell_at h, List.getElem?_eq_getElem hlt]
    have hst : (store ((⟨g, off, none⟩ : Addr).add i) v).run P W = .ok () (W.setCell ⟨g, off + i, none⟩ v) := by
      rw [addr_add]; exact run_store_one hc (frozen_none h _) ho.1
    have h' : (W.setCell ⟨g, off + i, none⟩ v).heap[g]? = some (.cells (cells.set (off + i) v).toArray ty (0, 0)) := by
      simp [World.setCell, Array.getElem?_modify, h]
    obtain ⟨W', hr, hg, hb, hsz, h1, h2, h3⟩ := run_storeFrom (off := off) vs (i + 1) _ _ h' (by simp; omega) ho.2
    refine ⟨W', ?_, ?_, fun b hbg => ?_, ?_, h1, h2, h3⟩
    · rw [storeCells, run_bind_ok hst]; exact hr
    · rw [hg]
      congr 3
      have e1 : (cells.set (off + i) v).take (off + (i + 1)) = cells.take (off + i) ++ [v] := by
        rw [show off + (i + 1) = (off + i) + 1 from by omega, List.take_succ_eq_append_getElem (by simpa using hlt), List.take_set, List.set_eq_of_length_le (by simp only [List.length_take]; omega)]
        simp
      have e2 : (cells.set (off + i) v).drop (off + (i + 1) + vs.length) = cells.drop (off + i + (vs.length + 1)) := by
        rw [List.drop_set_of_lt (by omega)]
        congr 1
        omega
      rw [e1, e2]
      simp
    · rw [hb b hbg]
      simp only [World.setCell, Array.getElem?_modify]
      rw [if_neg (fun e => hbg e.symm)]
    · rw [hsz]; simp [World.setCell]

theorem run_cellStore {W : World} {g off : Nat} {cells cells' : List Value} {ty t : TypeId} {v : Value} (h : W.heap[g]? = some (.cells cells.toArray ty (0, 0))) (hv : cellStore P t cells off v = some cells') :
    ∃ W', (Instr.storeAt t (.pointer (some ⟨g, off, none⟩)) v).run P W = .ok () W' ∧ W'.heap[g]? = some (.cells cells'.toArray ty (0, 0)) ∧
      (∀ b, b ≠ g → W'.heap[b]? = W.heap[b]?) ∧ W'.heap.size = W.heap.size ∧ W'.os = W.os ∧ W'.tape = W.tape ∧ W'.output = W.output := by
  unfold cellStore at hv
  split at hv
  · rename_i m hsz
    cases hb : (Nat.beq v.cells.toList.length m && Nat.ble (off + m) cells.length && v.cells.toList.all oneCell) with
    | false => rw [hb] at hv; cases hv
    | true =>
      simp only [hb, cond_true, Option.some.injEq] at hv
      simp only [Bool.and_eq_true] at hb
      obtain ⟨⟨hm, hle⟩, hall⟩ := hb
      have hm' : v.cells.toList.length = m := Nat.eq_of_beq_eq_true hm
      have hle' := Nat.le_of_ble_eq_true hle
      obtain ⟨W', hr, rest⟩ := run_storeFrom (P := P) (off := off) v.cells.toList 0 W cells h (by omega) hall
      refine ⟨W', ?_, ?_⟩
      · have hs : (Instr.sureAddr (.pointer (some ⟨g, off, none⟩))).run P W = .ok ⟨g, off, none⟩ W := rfl
        unfold Instr.storeAt
        rw [run_bind_ok hs]
        unfold storeVar
        rw [run_bind_ok (pureRun_run hsz W)]
        have hne : ¬ (v.cells.size ≠ m) := by
          rw [← hm']; simp
        simp only [hne, if_false]
        exact hr
      · subst hv
        subst hm'
        simpa using rest
  · cases hv

theorem run_box {W : World} {t : TypeId} {v : Value} : (Instr.box t v).run P W = .ok (.pointer (some ⟨W.heap.size, 0, none⟩)) (W.alloc (.cells v.cells t)) := rfl

theorem run_alloc {W : World} {t : TypeId} {z : Value} (hz : pureRun P (zeroValue t) = some z) : (Instr.alloc t true (.tuple #[])).run P W = .ok (.pointer (some ⟨W.heap.size, 0, none⟩)) (W.alloc (.cells z.cells t)) := by
  unfold Instr.alloc
  rw [run_bind_ok (pureRun_run hz W)]
  rfl
end mem
end Go.Vc
