/- Structs behind pointers: their fields read and stored; what an own row's block is. -/
import Derived.Test.YtfipbnoidoljoaaVcKeys
namespace Go.Vc
open Go Go.RowKit

section
variable {P : Program} {M N : Nat → Prop} {w W W' : World} {gs : List Nat}

theorem elt_cells {g : Nat} {cells : List Value} {ty : TypeId} (h : W.heap[g]? = some (.cells cells.toArray ty (0, 0))) : Elt W ⟨g, 0, none⟩ cells := by
  intro j v hv
  rw [addr_add, cell_at (cells := cells) (ty := ty) (fr := (0, 0)) h, Nat.zero_add]
  exact hv
/-- A field read. -/
theorem rd_f0 {g : Nat} {v : Value} {r : List Value} {ty te : TypeId} {ds : List Nat} (h : W.heap[g]? = some (.cells (v :: r).toArray ty (0, 0))) (hagg : pureRun P (isAgg te) = some false) (hd : ∀ d ∈ ds, d ≠ g) : Reads P ds (Instr.loadAt te (.pointer (some ⟨g, 0, none⟩))) W v :=
  (elt_cells h).one hagg hd
theorem rd_f {g : Nat} (o : Nat) {v : Value} {r cs : List Value} {ty te : TypeId} {ds : List Nat} (h : W.heap[g]? = some (.cells cs.toArray ty (0, 0))) (hc : cs.drop (o + 1) = v :: r) (hagg : pureRun P (isAgg te) = some false) (hd : ∀ d ∈ ds, d ≠ g) : Reads P ds (Instr.loadAt te (.pointer (some (Addr.mk g (0 + (o + 1)) none)))) W v := by
  have := (elt_cells h).sub (o := o + 1) (by omega)
  rw [hc] at this
  exact this.one hagg hd

theorem opw_storeF {g off : Nat} {cells cells' : List Value} {ty te : TypeId} {v : Value} {K : Value → World → Prop} (hA : AtF w M gs W) (hg : W.heap[g]? = some (.cells cells.toArray ty (0, 0))) (hm : w.heap.size ≤ g ∨ M g) (hap : g ∉ gs) (hc : cellStore P te cells off v = some cells')
    (h : ∀ w', AtF w M gs w' → Keeps gs W w' → Chg (fun b => b = g) W w' → w'.heap[g]? = some (.cells cells'.toArray ty (0, 0)) → K undef w') : OpW P (skipS (Instr.storeAt te (.pointer (some ⟨g, off, none⟩)) v)) W K := by
  obtain ⟨W', hr, hg', hb, hs1, h2, h3, h4⟩ := run_cellStore (P := P) (t := te) hg hc
  have hch : Chg (fun b => b = g) W W' := ⟨h2, h3, h4, by omega, fun k _ hk => hb k hk, run_drawn hr⟩
  have hsk : (skipS (Instr.storeAt te (.pointer (some ⟨g, off, none⟩)) v)).run P W = .ok .skip W' := by
    unfold skipS
    rw [run_bind_ok hr]
    rfl
  unfold OpW
  rw [hsk]
  exact h W' (hA.step hch fun b _ hb => by subst hb; exact hm) (hA.keepsC hch fun x hx e => hap (by subst e; exact hx)) hch hg'

/-- A struct boxed: its block. -/
theorem opw_boxS {t : TypeId} {x : Value} {K : Value → World → Prop} (hA : AtF w M gs W) (h : ∀ g w', W.heap.size = g → AtF w M gs w' → Keeps gs W w' → Bel W w' → w'.heap[g]? = some (.cells x.cells t (0, 0)) → K (.pointer (some ⟨g, 0, none⟩)) w') : OpW P (valueS (Instr.box t x)) W K := by
  have hr : (Instr.box t x).run P W = .ok (.pointer (some ⟨W.heap.size, 0, none⟩)) (W.alloc (.cells x.cells t)) := rfl
  unfold OpW
  rw [run_valueS hr]
  exact h _ _ rfl (hA.call (below_alloc _)) (hA.keeps (below_alloc _)) (below_alloc _) (heap_alloc_new W _)

theorem OwnF.blk {α : Type} {e : TypeId} {size : Nat} {f : α → List Value} {v : Value} {l : List α} (h : OwnF w M gs W e size f v l) {k : Nat} (hk : v.ownBlock = some k) : ∃ cur, W.heap[k]? = some (.cells cur e (0, 0)) := by
  rcases h.row0.2 with ⟨hv, _⟩ | ⟨g, cap, cur, hv, _, hg, _⟩
  · rw [hv] at hk; cases hk
  · rw [hv] at hk
    cases hk
    exact ⟨cur, hg⟩
theorem cells_ne {j k : Nat} {c c' : Array Value} {e e' : TypeId} {fr fr' : Nat × Nat} (h : W.heap[j]? = some (.cells c e fr)) (h' : W.heap[k]? = some (.cells c' e' fr')) (hne : e ≠ e') : j ≠ k := fun hjk => by
  subst hjk
  rw [h] at h'
  cases h'
  exact hne rfl
theorem cells_map {j k : Nat} {c : Array Value} {e : TypeId} {fr : Nat × Nat} {es : Array MapEntry} {cl : Nat} (h : W.heap[j]? = some (.cells c e fr)) (h' : W.heap[k]? = some (.map es cl)) : j ≠ k := fun hjk => by
  subst hjk
  rw [h] at h'
  cases h'
end
end Go.Vc
