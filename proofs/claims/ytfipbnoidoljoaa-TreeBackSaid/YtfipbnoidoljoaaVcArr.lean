/- Arrays of the function's own, behind a pointer; a string's bytes; copying. -/
import Derived.Test.YtfipbnoidoljoaaVcStr
import Derived.Laws.IdiomStrings
namespace Go.Vc
open Go Go.RowKit

def bytesOf (s : ByteArray) : List Int := s.data.toList.map fun b => (b.toNat : Int)
theorem bytesOf_len (s : ByteArray) : (bytesOf s).length = s.size := by
  rw [bytesOf, List.length_map, Array.length_toList]
  rfl
theorem bytesOf_range {s : ByteArray} {x : Int} (h : x ∈ bytesOf s) : 0 ≤ x ∧ x < 256 := by
  obtain ⟨b, _, rfl⟩ := List.mem_map.1 h
  have := b.toBitVec.isLt
  have e : b.toNat = b.toBitVec.toNat := rfl
  omega
theorem strOfNums_bytesOf (s : ByteArray) : strOfNums (bytesOf s) = s := by
  obtain ⟨d⟩ := s
  show (⟨_⟩ : ByteArray) = ⟨_⟩
  congr 1
  have : ((fun n : Int => UInt8.ofNat n.toNat) ∘ fun b : UInt8 => (b.toNat : Int)) = id := by
    funext b
    simp
  rw [bytesOf, List.map_map, this, List.map_id]

section
variable {P : Program} {M : Nat → Prop} {w W : World} {gs : List Nat}

theorem opw_s2b {src dst e : TypeId} {s : ByteArray} {K : Value → World → Prop} (hA : AtF w M gs W) (hs : P.underlying src = some .string) (hd : P.underlying dst = some (.slice e)) (he : P.underlying e = some (.int .u8)) (hm : s.size ≤ maxLen)
    (h : ∀ a c w', AtF w M gs w' → Keeps gs W w' → Bel W w' → SlE w' 1 u8e (bytesOf s) a s.size c → K (.slice a s.size c) w') : OpW P (valueS (convert src dst (.string s))) W K := by
  have hr := run_bytes_of_string (P := P) W src dst e s hs hd he
  have hb : ∀ (C : Array Value) (fr : Nat × Nat), Bel W (W.drew.alloc (.cells C e fr)) := fun C fr => ⟨((Below.refl _ W).drew).alloc (Nat.le_refl _) _, Nat.le_succ _⟩
  unfold OpW
  rw [run_valueS hr]
  refine h _ _ _ (hA.call (hb _ _)) (hA.keeps (hb _ _)) (hb _ _) ⟨(bytesOf_len s).symm, grownCap_ge _ _ _ _, grownCap_le_maxLen _ _ _ _ hm, fun h => (by cases h), fun i x hx => ⟨_, _, rfl, rfl, fun j v hv => ?_, rfl⟩⟩
  have hi := (List.getElem?_eq_some_iff.1 hx).1
  rw [bytesOf_len] at hi
  have hj : j = 0 := by
    have := (List.getElem?_eq_some_iff.1 hv).1
    simp at this
    omega
  subst hj
  simp at hv
  subst hv
  rw [addr_add_add _ _ _ rfl, addr_add]
  have hcell := heap_alloc_new W.drew (Obj.cells (bytesRow s (grownCap W s.size 0 e)) e ((bytesRow s (grownCap W s.size 0 e)).size, (bytesRow s (grownCap W s.size 0 e)).size + 1))
  have hc := cell_at (W := W.drew.alloc (.cells (bytesRow s (grownCap W s.size 0 e)) e ((bytesRow s (grownCap W s.size 0 e)).size, (bytesRow s (grownCap W s.size 0 e)).size + 1))) (g := W.heap.size) (cells := (bytesRow s (grownCap W s.size 0 e)).toList) (by simpa using hcell) (0 + (i * 1 + 0))
  rw [hc]
  simp only [Nat.zero_add, Nat.mul_one, Nat.add_zero]
  simp only [bytesRow, Array.toList_append, Array.toList_map]
  rw [List.getElem?_append_left (by rw [List.length_map, Array.length_toList]; exact hi)]
  simp only [bytesOf, List.getElem?_map] at hx ⊢
  cases hb : s.data.toList[i]? with
  | none => rw [hb] at hx; cases hx
  | some b =>
    rw [hb] at hx
    simp only [Option.map_some, Option.some.injEq] at hx ⊢
    rw [hx]

/-- The same, with the place told. -/
theorem opw_s2bB {src dst e : TypeId} {s : ByteArray} {K : Value → World → Prop} (hA : AtF w M gs W) (hs : P.underlying src = some .string) (hd : P.underlying dst = some (.slice e)) (he : P.underlying e = some (.int .u8)) (hm : s.size ≤ maxLen)
    (h : ∀ a c w', AtF w M gs w' → Keeps gs W w' → Bel W w' → SlE w' 1 u8e (bytesOf s) a s.size c → (∀ b, a = some b → b.block = W.heap.size) → K (.slice a s.size c) w') : OpW P (valueS (convert src dst (.string s))) W K := by
  have hr := run_bytes_of_string (P := P) W src dst e s hs hd he
  have hb : ∀ (C : Array Value) (fr : Nat × Nat), Bel W (W.drew.alloc (.cells C e fr)) := fun C fr => ⟨((Below.refl _ W).drew).alloc (Nat.le_refl _) _, Nat.le_succ _⟩
  unfold OpW
  rw [run_valueS hr]
  refine h _ _ _ (hA.call (hb _ _)) (hA.keeps (hb _ _)) (hb _ _) ⟨(bytesOf_len s).symm, grownCap_ge _ _ _ _, grownCap_le_maxLen _ _ _ _ hm, fun h => (by cases h), fun i x hx => ⟨_, _, rfl, rfl, fun j v hv => ?_, rfl⟩⟩ (fun b hb => by cases hb; rfl)
  have hi := (List.getElem?_eq_some_iff.1 hx).1
  rw [bytesOf_len] at hi
  have hj : j = 0 := by
    have := (List.getElem?_eq_some_iff.1 hv).1
    simp at this
    omega
  subst hj
  simp at hv
  subst hv
  rw [addr_add_add _ _ _ rfl, addr_add]
  have hcell := heap_alloc_new W.drew (Obj.cells (bytesRow s (grownCap W s.size 0 e)) e ((bytesRow s (grownCap W s.size 0 e)).size, (bytesRow s (grownCap W s.size 0 e)).size + 1))
  have hc := cell_at (W := W.drew.alloc (.cells (bytesRow s (grownCap W s.size 0 e)) e ((bytesRow s (grownCap W s.size 0 e)).size, (bytesRow s (grownCap W s.size 0 e)).size + 1))) (g := W.heap.size) (cells := (bytesRow s (grownCap W s.size 0 e)).toList) (by simpa using hcell) (0 + (i * 1 + 0))
  rw [hc]
  simp only [Nat.zero_add, Nat.mul_one, Nat.add_zero]
  simp only [bytesRow, Array.toList_append, Array.toList_map]
  rw [List.getElem?_append_left (by rw [List.length_map, Array.length_toList]; exact hi)]
  simp only [bytesOf, List.getElem?_map] at hx ⊢
  cases hb : s.data.toList[i]? with
  | none => rw [hb] at hx; cases hx
  | some b =>
    rw [hb] at hx
    simp only [Option.map_some, Option.some.injEq] at hx ⊢
    rw [hx]

/-- An array made, all zero: told as an own slice over it. -/
theorem opw_allocArr {α : Type} {t : TypeId} {f : α → List Value} {n size : Nat} {zv : Value} {z : α} {K : Value → World → Prop} (hA : AtF w M gs W) (hz : pureRun P (zeroValue t) = some zv) (hf : zv.cells.toList = (List.replicate n z).flatMap f) (hfz : (f z).length = size) (hn : n ≤ maxLen)
    (h : ∀ w', AtF w M gs w' → Keeps gs W w' → OwnF w M gs w' t size f (.slice (some ⟨W.heap.size, 0, none⟩) n n) (List.replicate n z) → K (.pointer (some ⟨W.heap.size, 0, none⟩)) w') : OpW P (valueS (Instr.alloc t true (.tuple #[]))) W K := by
  unfold OpW
  rw [run_valueS (run_alloc hz)]
  have hl : zv.cells.size = n * size := by
    rw [← Array.length_toList, hf, flatMap_len (size := size) (fun x hx => by rw [(List.mem_replicate.1 hx).2]; exact hfz), List.length_replicate]
  refine h _ (hA.call (below_alloc _)) (hA.keeps (below_alloc _)) (OwnF.ret hA (n := n) (xs := zv.cells.toList) ⟨by rw [Array.length_toList, hl], .inr ⟨W.heap.size, n, zv.cells, rfl, Nat.le_refl _, heap_alloc_new W _, Nat.le_refl _, hn, hl, ?_⟩⟩ (by rw [List.length_replicate]) hf)
  rw [List.take_of_length_le (by rw [Array.length_toList, hl]; exact Nat.le_refl _)]

theorem gives_index_arr {t e : TypeId} {n m : Nat} {ad : Addr} {i : Nat} {k : IntKind} (ht : P.underlying t = some (.array m e)) (hs : pureRun P (sizeOf e) = some n) (hi : i < m) :
    Gives P (Instr.indexAt t (.pointer (some ad)) (.int k (i : Int))) (.pointer (some (ad.add (i * n)))) := by
  intro W
  have he : P.elem t = e := by simp [Program.elem, ht]
  have hl : P.arrayLen t = m := by simp [Program.arrayLen, ht]
  have hh := run_indexAt_array (P := P) W t ad k i (by rw [he, hl]; exact ht)
  rw [hh, if_pos (by rw [hl]; omega), he]
  have hsz := pureRun_run hs W
  simp only [Int.toNat_natCast]
  rw [hsz]
  rfl

theorem gives_slice_arr {t e : TypeId} {n m : Nat} {ad : Addr} {i : Nat} {k : IntKind} (ht : P.underlying t = some (.array m e)) (hs : pureRun P (sizeOf e) = some n) (hi : i < m) :
    Gives P (Instr.sliceAt t (.pointer (some ad)) (some (.int k (i : Int))) none none) (.slice (some (ad.add (i * n))) (m - i) (m - i)) := by
  intro W
  have he : P.elem t = e := by simp [Program.elem, ht]
  have hl : P.arrayLen t = m := by simp [Program.arrayLen, ht]
  have hh := run_sliceAt_array_l (P := P) W t ad (by rw [he, hl]; exact ht) k (i : Int) (by omega) (by rw [hl]; omega)
  rw [hh, he, pureRun_run hs W, hl]
  simp only [Result.andThen, slicedAt, Int.toNat_natCast]
  rw [if_neg (by omega)]

/-- A part of a slice's data, from a place on. -/
theorem SlR.from_ {α : Type} {n : Nat} {R : α → List Value → Prop} {l : List α} {ad : Addr} {len cap i : Nat} (h : SlR W n R l (some ad) len cap) (hsp : ad.spot = none) (hi : i ≤ len) : SlR W n R (l.drop i) (some (ad.add (i * n))) (len - i) (cap - i) := by
  refine ⟨by rw [List.length_drop, h.1], by have := h.2.1; omega, by have := h.2.2.1; omega, fun h => (by cases h), fun j x hx => ?_⟩
  rw [List.getElem?_drop] at hx
  obtain ⟨ad', cs, ha, hl, hcs, hr⟩ := h.at_ hx
  cases ha
  refine ⟨_, cs, rfl, hl, fun q v hv => ?_, hr⟩
  have := hcs q v hv
  rw [addr_add_add _ _ _ hsp, ← Nat.add_mul]
  exact this

/-- Copying as many elements as there is room for. -/
theorem opw_copy {dT sT ty e : TypeId} {fl : Array Bool} {k : IntKind} {l l2 : List Int} {a a2 : Option Addr} {n c n2 c2 : Nat} {er : TypeId} {K : Value → World → Prop} (hA : AtF w M gs W) (hu : P.underlying dT = some (.slice e)) (hsz : (P.info? e).map (·.size) = some 1)
    (ho : OwnF w M gs W er 1 (fun x => [Value.int k x]) (.slice a n c) l) (hs : SlE W 1 (fun x => [Value.int k x]) l2 a2 n2 c2) (hl : l2.length = l.length)
    (h : ∀ w', AtF w M gs w' → Keeps gs W w' → W.grownBy w' (Value.slice a n c).ownBlock → OwnF w M gs w' er 1 (fun x => [Value.int k x]) (.slice a n c) l2 → K (goInt l.length) w') : OpW P (builtin .copy #[dT, sT] ty fl #[.slice a n c, .slice a2 n2 c2]) W K := by
  have hn := ho.len
  have hn2 := hs.1
  subst hn
  subst hn2
  have hrun : ∃ w', (Builtin.copy_ #[dT, sT] ty #[.slice a l.length c, .slice a2 l2.length c2]).run P W = .ok (goInt l.length) w' ∧ AtF w M gs w' ∧ Keeps gs W w' ∧ W.grownBy w' (Value.slice a l.length c).ownBlock ∧ OwnF w M gs w' er 1 (fun x => [Value.int k x]) (.slice a l.length c) l2 := by
    rcases Nat.eq_zero_or_pos l.length with h0 | hpos
    · have e1 : l = [] := List.eq_nil_of_length_eq_zero h0
      have e2 : l2 = [] := List.eq_nil_of_length_eq_zero (by omega)
      subst e1
      subst e2
      refine ⟨W, ?_, hA, fun _ _ => rfl, ⟨rfl, rfl, rfl, Nat.le_refl _, fun _ _ _ => rfl⟩, ho⟩
      cases hq : P.info? e with
      | none => simp [hq] at hsz
      | some i =>
        cases a <;> cases a2 <;> simp [Builtin.copy_, run_underlying hu, Builtin.lenOf, Builtin.firstCells, sizeOf, typeInfo, hq, storeCells, loadCells, loadCellsFrom]
    · obtain ⟨g, cur, rfl, hge, hg, hlc, hcm, hcs, htk⟩ := ho.ptr hpos
      obtain ⟨ad2, rfl⟩ : ∃ ad2, a2 = some ad2 := by
        cases a2 with
        | some ad2 => exact ⟨ad2, rfl⟩
        | none => have := hs.2.2.2.1 rfl; have := hs.2.1; omega
      have hcells : ∀ j v, (l2.map (Value.int k))[j]? = some v → W.cell? (ad2.add j) = some v := by
        intro j v hv
        rw [List.getElem?_map] at hv
        cases hx : l2[j]? with
        | none => rw [hx] at hv; cases hv
        | some x =>
          rw [hx] at hv
          simp only [Option.map_some, Option.some.injEq] at hv
          subst hv
          obtain ⟨ad, cs, ha, _, hcs, rfl⟩ := hs.at_ hx
          cases ha
          have := hcs 0 _ rfl
          have e : (ad2.add (j * 1)).add 0 = ad2.add j := by
            rw [Nat.mul_one]
            generalize ad2.add j = q
            unfold Addr.add
            simp
          rwa [e] at this
      have hr := run_copy_row (P := P) W dT sT ty e g 0 l.length c ad2 l2.length c2 cur er (l2.map (Value.int k)) hu hsz hg (by rw [List.length_map, hl]; simp) hcells (by rw [List.length_map, hl, hcs]; omega) (by intro v hv; obtain ⟨x, _, rfl⟩ := List.mem_map.1 hv; rfl)
      rw [List.length_map, hl] at hr
      have hgr : W.grownBy (W.setRow g (cur.toList.take 0 ++ l2.map (Value.int k) ++ cur.toList.drop (0 + l.length)).toArray) (some g) := ⟨rfl, rfl, rfl, by simp, fun k _ hk => setRow_other W g k _ (fun e => hk (by rw [e]))⟩
      refine ⟨_, by rw [hl]; exact hr, (hA.step (Chg.of_grown hgr (run_drawn hr)) fun k _ hk => ho.mine k hk), fun g' hm => hgr.block g' (hA.under g' hm) fun e => ho.apart g' hm e.symm, hgr, ⟨⟨?_, .inr ⟨g, c, _, ?_, hge, setRow_heap W g cur _ er _ hg, ?_, hcm, ?_, ?_⟩⟩, ho.mine, ho.apart⟩⟩
      · rw [flatMap_len (size := 1) (fun _ _ => rfl)]
      · rw [hl]
      · rw [hl]; exact hlc
      · simp only [List.size_toArray, List.length_append, List.length_take, List.length_drop, List.length_map, Array.length_toList, hl]
        omega
      · have e1 : l2.flatMap (fun x => [Value.int k x]) = l2.map (Value.int k) := by
          clear hs hl ho hcells hr hgr h
          induction l2 with
          | nil => rfl
          | cons x l ih => rw [List.flatMap_cons, ih]; rfl
        rw [e1]
        simp only [List.take_zero, List.nil_append]
        rw [Nat.mul_one]
        have := List.take_left (l₁ := l2.map (Value.int k)) (l₂ := cur.toList.drop (0 + l.length))
        rwa [List.length_map] at this
  obtain ⟨w', hr, h1, h2, h3, h4⟩ := hrun
  have hb : (builtin .copy #[dT, sT] ty fl #[.slice a l.length c, .slice a2 l2.length c2]).run P W = .ok (.value (goInt l.length)) w' := by
    show (do pure (Next.value (← Builtin.copy_ #[dT, sT] ty #[.slice a l.length c, .slice a2 l2.length c2])) : Sem Next).run P W = _
    rw [run_bind_ok hr]
    rfl
  unfold OpW
  rw [hb]
  exact h w' h1 h2 h3 h4
end
end Go.Vc
