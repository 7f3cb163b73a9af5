/- Slices, continued: an element read; a row made; an element stored. -/
import Derived.Test.YtfipbnoidoljoaaVcOwn
namespace Go.Vc
open Go Go.RowKit

section
variable {α : Type} {P : Program} {M : Nat → Prop} {w W W' : World} {gs ds : List Nat} {e : TypeId} {size : Nat} {f : α → List Value} {l : List α} {a : Option Addr} {n c : Nat}

theorem OwnF.sl (h : OwnF w M gs W e size f (.slice a n c) l) (hf : ∀ x ∈ l, (f x).length = size) : SlE W size f l a n c := by
  obtain ⟨a', c', hv, hs⟩ := h.slice hf
  obtain ⟨rfl, rfl, rfl⟩ := Value.slice.inj hv
  exact hs
theorem OwnF.len (h : OwnF w M gs W e size f (.slice a n c) l) : n = l.length := by
  rcases h.row0.2 with ⟨hv, hn⟩ | ⟨g, cap, cur, hv, _⟩
  · rw [hn]; exact (Value.slice.inj hv).2.1
  · exact (Value.slice.inj hv).2.1
theorem OwnF.ptr (h : OwnF w M gs W e size f (.slice a n c) l) (hl : 0 < l.length) : ∃ g cur, a = some ⟨g, 0, none⟩ ∧ 0 ≤ g ∧ W.heap[g]? = some (.cells cur e (0, 0)) ∧ l.length ≤ c ∧ c ≤ maxLen ∧ cur.size = c * size ∧ cur.toList.take (l.length * size) = l.flatMap f := by
  rcases h.row0.2 with ⟨hv, hn⟩ | ⟨g, cap, cur, hv, rest⟩
  · omega
  · obtain ⟨rfl, rfl, rfl⟩ := Value.slice.inj hv
    exact ⟨g, cur, rfl, rest⟩

theorem rd_agg {t te : TypeId} {x : α} {i : Nat} {k : IntKind} (hs : SlE W size f l a n c) (hx : l[i]? = some x) (ht : P.underlying t = some (.slice e)) (hz : pureRun P (sizeOf e) = some size) (hagg : pureRun P (isAgg te) = some true) (hsz : pureRun P (sizeOf te) = some (f x).length) (hd : ∀ d ∈ ds, ∀ b, a = some b → d ≠ b.block) :
    ∃ ad, Gives P (Instr.indexAt t (.slice a n c) (.int k (i : Int))) (.pointer (some ad)) ∧ Reads P ds (Instr.loadAt te (.pointer (some ad))) W (.agg (f x).toArray) := by
  obtain ⟨ad, cs, rfl, hcl, hcs, rfl⟩ := hs.at_ hx
  have hi := (List.getElem?_eq_some_iff.1 hx).1
  refine ⟨_, gives_index ht hz (by rw [hs.1]; exact hi), reads_agg hagg hsz (fun d hm => ?_) hcs⟩
  have hb : (ad.add (i * size)).block = ad.block := by unfold Addr.add; split <;> rfl
  rw [hb]
  exact hd d hm ad rfl

theorem rd_one {t te : TypeId} {x : α} {i : Nat} {k : IntKind} {u : Value} (hs : SlE W size f l a n c) (hx : l[i]? = some x) (hu : f x = [u]) (ht : P.underlying t = some (.slice e)) (hz : pureRun P (sizeOf e) = some size) (hagg : pureRun P (isAgg te) = some false) (hd : ∀ d ∈ ds, ∀ b, a = some b → d ≠ b.block) :
    ∃ ad, Gives P (Instr.indexAt t (.slice a n c) (.int k (i : Int))) (.pointer (some ad)) ∧ Reads P ds (Instr.loadAt te (.pointer (some ad))) W u := by
  obtain ⟨ad, cs, rfl, hcl, hcs, rfl⟩ := hs.at_ hx
  have hi := (List.getElem?_eq_some_iff.1 hx).1
  refine ⟨_, gives_index ht hz (by rw [hs.1]; exact hi), reads_one hagg (fun d hm => ?_) ?_⟩
  · have hb : (ad.add (i * size)).block = ad.block := by unfold Addr.add; split <;> rfl
    rw [hb]
    exact hd d hm ad rfl
  · have := hcs 0 u (by rw [hu]; rfl)
    have ha : (ad.add (i * size)).add 0 = ad.add (i * size) := by
      generalize ad.add (i * size) = q
      unfold Addr.add
      simp
    rwa [ha] at this

theorem flatMap_len (hf : ∀ x ∈ l, (f x).length = size) : (l.flatMap f).length = l.length * size := by
  induction l with
  | nil => simp
  | cons x l ih =>
    rw [List.flatMap_cons, List.length_append, List.length_cons, hf x (List.mem_cons_self ..), ih fun y hy => hf y (List.mem_cons_of_mem _ hy), Nat.add_mul]
    omega

theorem flatMap_set {i : Nat} {y : α} (hf : ∀ x ∈ l, (f x).length = size) (hi : i < l.length) : (l.set i y).flatMap f = (l.flatMap f).take (i * size) ++ f y ++ (l.flatMap f).drop (i * size + size) := by
  induction l generalizing i with
  | nil => simp at hi
  | cons x l ih =>
    have hx := hf x (List.mem_cons_self ..)
    cases i with
    | zero =>
      simp only [List.set_cons_zero, List.flatMap_cons, Nat.zero_mul, List.take_zero, List.nil_append, Nat.zero_add]
      rw [← hx, List.drop_left]
    | succ i =>
      have := ih (i := i) (fun x hx => hf x (List.mem_cons_of_mem _ hx)) (by simpa using hi)
      simp only [List.set_cons_succ, List.flatMap_cons, this]
      have e1 : (i + 1) * size = (f x).length + i * size := by rw [hx, Nat.add_mul]; omega
      rw [e1, List.take_length_add_append, Nat.add_assoc, List.drop_length_add_append]
      simp [List.append_assoc]

theorem take_mid {β : Type} {cur xs y : List β} {L a s : Nat} (h : cur.take L = xs) (hL : xs.length = L) (hy : y.length = s) (ha : a + s ≤ L) :
    (cur.take a ++ y ++ cur.drop (a + s)).take L = xs.take a ++ y ++ xs.drop (a + s) := by
  have hc : cur = xs ++ cur.drop L := by rw [← h, List.take_append_drop]
  have e1 : cur.take a = xs.take a := by rw [← h, List.take_take, Nat.min_eq_left (by omega)]
  have e2 : cur.drop (a + s) = xs.drop (a + s) ++ cur.drop L := by
    rw [hc, List.drop_append_of_le_length (by omega), ← hc]
  rw [e1, e2, ← List.append_assoc]
  have hl : (xs.take a ++ y ++ xs.drop (a + s)).length = L := by
    simp only [List.length_append, List.length_take, List.length_drop, hL]
    omega
  have := List.take_left (l₁ := xs.take a ++ y ++ xs.drop (a + s)) (l₂ := cur.drop L)
  rwa [hl] at this

/-- An element is stored. -/
theorem opw_store {te : TypeId} {i : Nat} {y : α} {x : Value} (hA : AtF w M gs W) (ho : OwnF w M gs W e size f (.slice a n c) l) (hf : ∀ x ∈ l, (f x).length = size) (hi : i < l.length) (hy : x.cells.toList = f y) (hyl : (f y).length = size) (h1 : (f y).all oneCell = true) (hsz : pureRun P (sizeOf te) = some size) {K : Value → World → Prop}
    (h : ∀ w', AtF w M gs w' → Keeps gs W w' → W.grownBy w' (Value.slice a n c).ownBlock → OwnF w M gs w' e size f (.slice a n c) (l.set i y) → K undef w') {ad : Addr} (had : ∀ g, a = some ⟨g, 0, none⟩ → ad = ⟨g, i * size, none⟩) :
    OpW P (skipS (Instr.storeAt te (.pointer (some ad)) x)) W K := by
  obtain ⟨g, cur, rfl, hge, hg, hlc, hcm, hcs, htk⟩ := ho.ptr (by omega)
  have had := had g rfl
  subst had
  have hn := ho.len
  have hle : i * size + size ≤ l.length * size := by
    have := Nat.mul_le_mul_right size (show i + 1 ≤ l.length by omega)
    rw [Nat.add_mul] at this
    omega
  have hle2 : l.length * size ≤ cur.size := by rw [hcs]; exact Nat.mul_le_mul_right _ hlc
  have hcl : cellStore P te cur.toList (i * size) x = some (cur.toList.take (i * size) ++ f y ++ cur.toList.drop (i * size + size)) := by
    unfold cellStore
    rw [hsz]
    simp only [hy, h1]
    have b1 : Nat.beq (f y).length size = true := by rw [hyl]; exact Nat.beq_refl _
    have b2 : Nat.ble (i * size + size) cur.toList.length = true := Nat.ble_eq_true_of_le (by rw [Array.length_toList]; omega)
    rw [b1, b2]
    rfl
  obtain ⟨W', hr, hg', hb, hs1, h2, h3, h4⟩ := run_cellStore (P := P) (t := te) (cells := cur.toList) (by simpa using hg) hcl
  have hgr : W.grownBy W' (some g) := ⟨h2, h3, h4, by omega, fun k _ hk => hb k (fun e => hk (by rw [e]))⟩
  have hsk : (skipS (Instr.storeAt te (.pointer (some ⟨g, i * size, none⟩)) x)).run P W = .ok .skip W' := by
    unfold skipS
    rw [run_bind_ok hr]
    rfl
  unfold OpW
  rw [hsk]
  refine h W' (hA.step (Chg.of_grown hgr (run_drawn hr)) fun k _ hk => ho.mine k hk) (fun g' hm => hgr.block g' (hA.under g' hm) fun e => ho.apart g' hm e.symm) hgr ⟨⟨?_, .inr ⟨g, c, _, ?_, hge, hg', ?_, hcm, ?_, ?_⟩⟩, ho.mine, ho.apart⟩
  · rw [flatMap_set hf hi, List.length_set]
    have := flatMap_len hf
    simp only [List.length_append, List.length_take, List.length_drop, hyl]
    omega
  · rw [List.length_set, hn]
  · rw [List.length_set]; exact hlc
  · simp only [List.size_toArray, List.length_append, List.length_take, List.length_drop, hyl, Array.length_toList]
    omega
  · rw [flatMap_set hf hi, List.length_set]
    exact take_mid htk (by rw [flatMap_len hf]) hyl hle

/-- A slice written out. -/
theorem opw_lit {t e' : TypeId} {len : Nat} {parts : Array (Nat × Value)} {cs : List Value} {K : Value → World → Prop} (hA : AtF w M gs W) (hc : sliceCells P t len parts = some (e', cs))
    (h : ∀ w', AtF w M gs w' → Keeps gs W w' → Bel W w' → (∀ j u, cs[j]? = some u → w'.cell? ((⟨W.heap.size, 0, none⟩ : Addr).add j) = some u) → w'.heap[W.heap.size]? = some (.cells cs.toArray e' (0, 0)) → K (.slice (some ⟨W.heap.size, 0, none⟩) len len) w') : OpW P (valueS (Instr.buildSlice t len parts)) W K := by
  refine opw_buildSlice hc (h _ (hA.call (below_alloc _)) (hA.keeps (below_alloc _)) (below_alloc _) (fun j u hu => ?_) (heap_alloc_new W _))
  rw [addr_add, cell_at (cells := cs) (ty := e') (fr := (0, 0)) (heap_alloc_new W _), Nat.zero_add]
  exact hu

/-- A row made, all zero. -/
theorem opw_make {t : TypeId} {bytes m : Nat} {kl kc : IntKind} {z : α} (he : elemB P t e size bytes = true) (hA : AtF w M gs W) (hz : ∃ i zv, P.info? e = some i ∧ i.zero = some zv ∧ zv.cells.toList = f z) (hb : bytes * m ≤ 281474976710656) (hm : m ≤ maxLen) {K : Value → World → Prop}
    (h : ∀ w', AtF w M gs w' → Keeps gs W w' → OwnF w M gs w' e size f (.slice (some ⟨W.heap.size, 0, none⟩) m m) (List.replicate m z) → W.grownBy w' none → K (.slice (some ⟨W.heap.size, 0, none⟩) m m) w') :
    OpW P (valueS (Instr.makeSlice t (.int kl (m : Int)) (.int kc (m : Int)))) W K := by
  obtain ⟨i, zv, ok⟩ := elemB_ok he
  obtain ⟨i', zv', hi', hz', hf⟩ := hz
  rw [ok.hi] at hi'
  cases hi'
  rw [ok.hz] at hz'
  cases hz'
  obtain ⟨w', hr, ho, hgr⟩ := run_make_full (P := P) W W.heap.size t e i zv size ok.ht ok.hi ok.hz ok.hsize kl kc m (by rw [ok.hby]; exact hb) hm (Nat.le_refl _)
  unfold OpW
  rw [run_valueS hr]
  have hbl : Bel W w' := ⟨⟨hgr.os, hgr.tape, hgr.output, hgr.size, fun k hk => hgr.block k hk (by simp)⟩, run_drawn hr⟩
  refine h w' (hA.call hbl) (hA.keeps hbl) (OwnF.ret hA ho (by rw [List.length_replicate]) ?_) hgr
  have hl : zv.cells.toList.length = size := by rw [Array.length_toList, ok.hzs]
  have hsz := ok.hsz
  apply List.ext_getElem?
  intro j
  have hfz : (f z).length = size := by rw [← hf]; exact hl
  have hfl : ((List.replicate m z).flatMap f).length = m * size := by
    rw [flatMap_len (size := size) (fun x hx => by rw [(List.mem_replicate.1 hx).2]; exact hfz), List.length_replicate]
  by_cases hj : j < m * size
  · have hq : j / size < m := Nat.div_lt_of_lt_mul (by rw [Nat.mul_comm]; exact hj)
    have hp := flatMap_part (l := List.replicate m z) (f := f) (size := size) (fun x hx => by rw [(List.mem_replicate.1 hx).2]; exact hfz) (i := j / size) (x := z) (by rw [List.getElem?_replicate, if_pos hq])
    have hmd : j % size < size := Nat.mod_lt _ hsz
    have hdm : j / size * size + j % size = j := by rw [Nat.mul_comm]; exact Nat.div_add_mod j size
    have e1 : ((List.replicate m z).flatMap f)[j]? = (f z)[j % size]? := by
      rw [← hp, List.getElem?_take, if_pos hmd, List.getElem?_drop, hdm]
    rw [e1, ← hf]
    have hsz0 : zv.cells.size = size := ok.hzs
    have : j % zv.cells.size < zv.cells.size := by rw [hsz0]; exact hmd
    simp [madeCells, hj, hsz0]
    rw [getElem!_pos zv.cells (j % size) (by rw [hsz0]; exact hmd)]
    simp [hmd, hsz0]
  · rw [List.getElem?_eq_none (by rw [Array.length_toList, size_madeCells]; omega), List.getElem?_eq_none (by rw [hfl]; omega)]
end

/-- A contract that returns a new slice. -/
def RetL {α : Type} (P : Program) (fn : FuncId) (args : Array Value) (W : World) (e : TypeId) (size : Nat) (f : α → List Value) (l : List α) : Prop :=
  RetQ P fn args W fun v w' => w'.ownsRow W.heap.size e size v l.length (l.flatMap f)

theorem at_calll {α : Type} {P : Program} {M : Nat → Prop} {w W : World} {gs : List Nat} {fn : FuncId} {args : Array Value} {e : TypeId} {size : Nat} {f : α → List Value} {l : List α} {K : Ending → World → Prop} (hA : AtF w M gs W) (hc : RetL P fn args W e size f l) (hf : ∀ x ∈ l, (f x).length = size)
    (hK : ∀ a c w', AtF w M gs w' → Keeps gs W w' → Bel W w' → OwnF w M gs w' e size f (.slice a l.length c) l → SlE w' size f l a l.length c → K (.returned (.slice a l.length c)) w') : Calls P fn args W K :=
  at_callq hA hc fun v w' hA' hk hb hq => by
    have ho : OwnF w M gs w' e size f v l := OwnF.ret hA hq rfl rfl
    obtain ⟨a, c, rfl, hs⟩ := ho.slice hf
    exact hK a c w' hA' hk hb ho hs
theorem leafl {α : Type} {w W : World} {gs : List Nat} {e : TypeId} {size : Nat} {f : α → List Value} {l l' : List α} {v : Value} {R : Ending → World → Prop} (h : ∀ v w', Bel w w' → w'.ownsRow w.heap.size e size v l.length (l.flatMap f) → R (.returned v) w') (hA : At w gs W) (ho : OwnL w gs W e size f v l') (hl : l' = l) : R (.returned v) W :=
  h v W hA.below (hl ▸ ho.row)
end Go.Vc
