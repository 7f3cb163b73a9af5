/- Strings: bytes to a string, a sum, a byte, a part, a range over the runes. -/
import Derived.Test.YtfipbnoidoljoaaVcOwn2
import Derived.Laws.BytesArg
import Derived.Laws.BytesString
import Derived.Laws.Concat
import Derived.Laws.Strings3
import Derived.Laws.Slices
import Derived.Laws.RangeString
namespace Go.Vc
open Go Go.RowKit

abbrev u8e (x : Int) : List Value := [.int .u8 x]

section
variable {P : Program} {M : Nat → Prop} {w W : World} {gs : List Nat}

theorem one_cells {l : List Int} {k : IntKind} {a : Addr} {n c : Nat} (hs : SlE W 1 (fun x => [Value.int k x]) l (some a) n c) : (loadCells a n).run P W = .ok (l.map (Value.int k)).toArray W := by
  have hl : n = (l.map (Value.int k)).length := by rw [List.length_map]; exact hs.1
  rw [hl]
  refine run_loadCells_list (P := P) W a _ fun j v hv => ?_
  rw [List.getElem?_map] at hv
  cases hx : l[j]? with
  | none => rw [hx] at hv; cases hv
  | some x =>
    rw [hx] at hv
    simp only [Option.map_some, Option.some.injEq] at hv
    subst hv
    obtain ⟨ad, cs, ha, _, hcs, rfl⟩ := hs.at_ hx
    cases ha
    have := hcs 0 _ rfl
    have e : (a.add (j * 1)).add 0 = a.add j := by
      rw [Nat.mul_one]
      generalize a.add j = q
      unfold Addr.add
      simp
    rwa [e] at this

theorem strOfNums_eq (l : List Int) : l.foldl (fun r n => r.push (UInt8.ofNat n.toNat)) ByteArray.empty = strOfNums l := by
  rw [foldl_push_bytes]
  show (⟨#[] ++ _⟩ : ByteArray) = _
  simp [strOfNums]

theorem opw_b2s {src dst e : TypeId} {l : List Int} {a : Option Addr} {n c : Nat} {K : Value → World → Prop} (hs : P.underlying src = some (.slice e)) (he : P.underlying e = some (.int .u8)) (hd : P.underlying dst = some .string) (hl : SlE W 1 u8e l a n c)
    (h : K (.string (strOfNums l)) W) : OpW P (valueS (convert src dst (.slice a n c))) W K := by
  have hr : (convert src dst (.slice a n c)).run P W = .ok (.string (strOfNums l)) W := by
    rw [run_convert_bytes_string W src dst e a n c hs he hd]
    cases a with
    | none =>
      have hc := hl.2.2.2.1 rfl
      have h0 : l = [] := List.eq_nil_of_length_eq_zero (by have := hl.1; have := hl.2.1; omega)
      subst h0
      unfold Conv.bytesToString
      simp [Sem.run_pure]
      rfl
    | some ad =>
      rw [run_bytesToString W ad n c l (one_cells hl), strOfNums_eq]
  unfold OpW
  rw [run_valueS hr]
  exact h

theorem gives_sadd {t : TypeId} {x y : Operand} {a b : ByteArray} (h : a.size + b.size ≤ 9223372036854775807) : Gives P (binOpS .add t x y (.string a) (.string b)) (.string (a ++ b)) := by
  intro W
  unfold binOpS
  rw [run_bind_ok (show (eqGuard .add t x y (.string a) (.string b)).run P W = .ok () W from rfl), binOp_string_add]
  exact run_string_add_sum W a b h

theorem gives_index_str {t : TypeId} {s : ByteArray} {k : IntKind} {i : Nat} (ht : P.underlying t = some .string) (hi : i < s.size) : Gives P (Instr.index t (.string s) (.int k (i : Int))) (.int .u8 ((s[i]'hi).toNat : Int)) := by
  intro W
  have h := run_index_string W t s k i ht
  rw [h]
  simp [hi]

theorem opw_range_str {t : TypeId} {s : ByteArray} {K : Value → World → Prop} (ht : P.underlying t = some .string) (h : K (.pointer (some ⟨W.heap.size, 0, none⟩)) (W.alloc (.stringIter s 0))) : OpW P (valueS (Instr.range t (.string s))) W K := by
  have hr : (Instr.range t (.string s)).run P W = .ok (.pointer (some ⟨W.heap.size, 0, none⟩)) (W.alloc (.stringIter s 0)) := by
    unfold Instr.range
    rw [run_bind_ok (run_underlying ht W)]
    rfl
  unfold OpW
  rw [run_valueS hr]
  exact h

theorem opw_next_str {s : ByteArray} {pos r : Nat} {ty : TypeId} {K : Value → World → Prop} (hr : W.heap[r]? = some (.stringIter s pos))
    (hend : ¬ pos < s.size → K (.tuple #[.bool false]) W)
    (hgo : pos < s.size → K (.tuple #[.bool true, .int .i64 (pos : Int), .int .i32 ((Utf8.decode s pos).1 : Int)]) { W with heap := W.heap.setIfInBounds r (.stringIter s (pos + (Utf8.decode s pos).2)) }) :
    OpW P (valueS (Instr.next (.pointer (some ⟨r, 0, none⟩)) true ty)) W K := by
  have hget : (getObj r).run P W = .ok (.stringIter s pos) W := by
    simp [getObj, Sem.run, hr]
  by_cases hp : pos < s.size
  · have hrun : (Instr.next (.pointer (some ⟨r, 0, none⟩)) true ty).run P W = .ok (.tuple #[.bool true, .int .i64 (pos : Int), .int .i32 ((Utf8.decode s pos).1 : Int)]) { W with heap := W.heap.setIfInBounds r (.stringIter s (pos + (Utf8.decode s pos).2)) } := by
      unfold Instr.next
      simp only
      rw [run_bind_ok hget]
      simp only [hp, if_true]
      have hset : (setObj r (.stringIter s (pos + (Utf8.decode s pos).2))).run P W = .ok () { W with heap := W.heap.setIfInBounds r (.stringIter s (pos + (Utf8.decode s pos).2)) } := by
        simp [setObj, Sem.run, hr]
      rw [run_bind_ok hset]
      rfl
    unfold OpW
    rw [run_valueS hrun]
    exact hgo hp
  · have hrun : (Instr.next (.pointer (some ⟨r, 0, none⟩)) true ty).run P W = .ok (.tuple #[.bool false]) W := by
      unfold Instr.next
      simp only
      rw [run_bind_ok hget]
      simp only [hp, if_false]
      rfl
    unfold OpW
    rw [run_valueS hrun]
    exact hend hp

theorem chg_setObj {r : Nat} {o : Obj} : Chg (fun b => b = r) W { W with heap := W.heap.setIfInBounds r o } :=
  ⟨rfl, rfl, rfl, by simp, fun k _ hk => by
    show (W.heap.setIfInBounds r o)[k]? = _
    rw [Array.getElem?_setIfInBounds_ne (fun e => hk e.symm)], Nat.le_refl _⟩
theorem AtF.setObjF {r : Nat} {o : Obj} (hA : AtF w M gs W) (hr : w.heap.size ≤ r ∨ M r) : AtF w M gs { W with heap := W.heap.setIfInBounds r o } :=
  hA.step chg_setObj fun b _ hb => by subst hb; exact hr
theorem AtF.setObj {r : Nat} {o : Obj} (hA : AtF w M gs W) (hr : w.heap.size ≤ r) : AtF w M gs { W with heap := W.heap.setIfInBounds r o } := hA.setObjF (.inl hr)
theorem keeps_setObj {r : Nat} {o : Obj} (hr : r ∉ gs) : Keeps gs W { W with heap := W.heap.setIfInBounds r o } := fun g hg => by
  show (W.heap.setIfInBounds r o)[g]? = _
  rw [Array.getElem?_setIfInBounds_ne (fun e => hr (by rw [e]; exact hg))]

/-- The front of an own slice. -/
theorem gives_front {t e : TypeId} {size : Nat} {a : Option Addr} {n c m : Nat} {k : IntKind} (ht : P.underlying t = some (.slice e)) (hz : pureRun P (sizeOf e) = some size) (hm : m ≤ c) :
    Gives P (Instr.sliceAt t (.slice a n c) none (some (.int k (m : Int))) none) (.slice a m c) := by
  intro W
  have h1 : (Instr.sliceAt t (.slice a n c) none (some (.int k (m : Int))) none).run P W = (Instr.slice t (.slice a n c) none (some (.int k (m : Int))) none).run P W := run_sliceAt_slice W t _ _ _ _ (by simp [Program.elem, ht])
  rw [h1]
  unfold Instr.slice
  rw [run_bind_ok (run_underlying ht W)]
  simp only
  have hb : (Instr.sliceBounds true n c none (some (.int k (m : Int))) none).run P W = .ok (0, m, c) W := by
    unfold Instr.sliceBounds
    simp only [pure_bind]
    have := run_sliceBound (P := P) W k (m : Int) c .sliceAcap (by omega) (by omega)
    simp only [if_true]
    rw [run_bind_ok this]
    rfl
  rw [run_bind_ok hb]
  simp only
  rw [run_bind_ok (pureRun_run hz W)]
  simp only [Nat.zero_mul, Nat.sub_zero]
  have ha : (if c = 0 then a else Option.map (fun x => x.add 0) a) = a := by
    split
    · rfl
    · cases a with
      | none => rfl
      | some ad => simp [Addr.add]
  rw [ha]
  rfl

theorem ownsRow_front {base e size n m c : Nat} {a : Option Addr} {xs : List Value} (h : W.ownsRow base e size (.slice a n c) n xs) (hm : m ≤ n) : W.ownsRow base e size (.slice a m c) m (xs.take (m * size)) := by
  have hle : m * size ≤ n * size := Nat.mul_le_mul_right _ hm
  refine ⟨by rw [List.length_take, h.1, Nat.min_eq_left hle], ?_⟩
  rcases h.2 with ⟨hv, hn⟩ | ⟨g, cap, cur, hv, hge, hgg, hnc, hcm, hcs, htk⟩
  · subst hn
    have hm0 : m = 0 := by omega
    subst hm0
    exact .inl ⟨hv, rfl⟩
  · obtain ⟨rfl, _, rfl⟩ := Value.slice.inj hv
    exact .inr ⟨g, c, cur, rfl, hge, hgg, by omega, hcm, hcs, by rw [← htk, List.take_take, Nat.min_eq_left hle]⟩

theorem OwnF.front {α : Type} {e : TypeId} {size : Nat} {f : α → List Value} {a : Option Addr} {n c m : Nat} {l : List α} (h : OwnF w M gs W e size f (.slice a n c) l) (hf : ∀ x ∈ l, (f x).length = size) (hm : m ≤ l.length) : OwnF w M gs W e size f (.slice a m c) (l.take m) := by
  have hn := h.len
  subst hn
  have hr := ownsRow_front h.row0 hm
  have e1 : (l.flatMap f).take (m * size) = (l.take m).flatMap f := by
    have h2 : (l.take m).flatMap f ++ (l.drop m).flatMap f = l.flatMap f := by rw [← List.flatMap_append, List.take_append_drop]
    have hl : ((l.take m).flatMap f).length = m * size := by
      rw [flatMap_len (size := size) (fun x hx => hf x (List.mem_of_mem_take hx)), List.length_take, Nat.min_eq_left hm]
    rw [← h2, ← hl, List.take_left]
  refine ⟨?_, fun k hk => h.mine k (by cases a with
    | none => cases hk
    | some ad => exact hk), fun g hg => by have := h.apart g hg; cases a with
    | none => simp [Value.ownBlock]
    | some ad => simpa [Value.ownBlock] using this⟩
  rw [List.length_take, Nat.min_eq_left hm, ← e1]
  exact hr
end
end Go.Vc
