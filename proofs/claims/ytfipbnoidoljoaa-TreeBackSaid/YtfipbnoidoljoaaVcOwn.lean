/- Slices of the function's own: rows made since the first world, apart from the own boxes; making, adding, storing, reading. -/
import Derived.Test.YtfipbnoidoljoaaVcMem
import Derived.Laws.OwnMore
namespace Go.Vc
open Go Go.RowKit

/-- A slice whose elements lie in memory as 'f' writes them. -/
abbrev SlE {α : Type} (w : World) (n : Nat) (f : α → List Value) (l : List α) (a : Option Addr) (len cap : Nat) : Prop := SlR w n (fun x cs => cs = f x) l a len cap

theorem SlR.imp {α : Type} {w : World} {n : Nat} {R R' : α → List Value → Prop} {l : List α} {a : Option Addr} {len cap : Nat} (h : SlR w n R l a len cap) (hR : ∀ x cs, R x cs → R' x cs) : SlR w n R' l a len cap :=
  h.mono (fun _ _ h => h) hR
theorem SlR.call {α : Type} {w w' : World} {n : Nat} {R : α → List Value → Prop} {l : List α} {a : Option Addr} {len cap : Nat} (h : SlR w n R l a len cap) (hb : Bel w w') : SlR w' n R l a len cap :=
  h.mono (cell_below hb.below) fun _ _ h => h
theorem SlR.each {α : Type} {w : World} {n : Nat} {R : α → List Value → Prop} {l : List α} {a : Option Addr} {len cap : Nat} (h : SlR w n R l a len cap) {x : α} (hx : x ∈ l) : ∃ cs, R x cs := by
  obtain ⟨i, hi, rfl⟩ := List.mem_iff_getElem.1 hx
  obtain ⟨_, cs, _, _, _, hr⟩ := h.at_ (List.getElem?_eq_getElem hi)
  exact ⟨cs, hr⟩
theorem SlR.len_le {α : Type} {w : World} {n : Nat} {R : α → List Value → Prop} {l : List α} {a : Option Addr} {len cap : Nat} (h : SlR w n R l a len cap) : len = l.length ∧ l.length ≤ 9223372036854775807 := ⟨h.1, h.1 ▸ Nat.le_trans h.2.1 h.2.2.1⟩

/-- An own slice: its row lies in a block that is new since the first world, or that may be written (M), apart from the own boxes. -/
structure OwnF {α : Type} (w : World) (M : Nat → Prop) (gs : List Nat) (W : World) (e : TypeId) (size : Nat) (f : α → List Value) (v : Value) (l : List α) : Prop where
  row0 : W.ownsRow 0 e size v l.length (l.flatMap f)
  mine : ∀ k, v.ownBlock = some k → w.heap.size ≤ k ∨ M k
  apart : ∀ g ∈ gs, v.ownBlock ≠ some g
abbrev OwnL {α : Type} (w : World) (gs : List Nat) (W : World) (e : TypeId) (size : Nat) (f : α → List Value) (v : Value) (l : List α) : Prop := OwnF w noB gs W e size f v l

theorem ownsRow_raise {W : World} {base b : Nat} {e : TypeId} {size n : Nat} {v : Value} {xs : List Value} (h : W.ownsRow b e size v n xs) (hm : ∀ k, v.ownBlock = some k → base ≤ k) : W.ownsRow base e size v n xs := by
  refine ⟨h.1, ?_⟩
  rcases h.2 with hn | ⟨g, cap, cur, hv, _, rest⟩
  · exact .inl hn
  · exact .inr ⟨g, cap, cur, hv, hm g (by rw [hv]; rfl), rest⟩

section
variable {α : Type} {w W W' : World} {M N : Nat → Prop} {gs gs' ds : List Nat} {e : TypeId} {size : Nat} {f : α → List Value} {v : Value} {l : List α}

theorem OwnF.lt (h : OwnF w M gs W e size f v l) : ∀ k, v.ownBlock = some k → k < W.heap.size := fun k hk => (h.row0.lt k hk).2
/-- Out of a row above a base. -/
theorem OwnF.mk_ {base : Nat} (h : W.ownsRow base e size v l.length (l.flatMap f)) (hm : ∀ k, base ≤ k → k < W.heap.size → w.heap.size ≤ k ∨ M k) (hap : ∀ g ∈ gs, v.ownBlock ≠ some g) : OwnF w M gs W e size f v l :=
  ⟨ownsRow_raise h fun _ _ => Nat.zero_le _, fun k hk => hm k (h.lt k hk).1 (h.lt k hk).2, hap⟩
theorem OwnL.of (h : W.ownsRow w.heap.size e size v l.length (l.flatMap f)) (hap : ∀ g ∈ gs, v.ownBlock ≠ some g) : OwnL w gs W e size f v l := OwnF.mk_ h (fun _ h _ => .inl h) hap
theorem OwnF.row (h : OwnF w noB gs W e size f v l) : W.ownsRow w.heap.size e size v l.length (l.flatMap f) := ownsRow_raise h.row0 fun k hk => (h.mine k hk).resolve_right id

theorem OwnF.nil : OwnF w M gs W e size f (.slice none 0 0) [] := ⟨World.ownsRow_nil .., fun _ h => (by cases h), fun _ _ h => by cases h⟩
theorem OwnL.nil : OwnL w gs W e size f (.slice none 0 0) [] := OwnF.nil

theorem OwnF.keep (h : OwnF w M gs W e size f v l) (hc : ∀ k, v.ownBlock = some k → W'.heap[k]? = W.heap[k]?) : OwnF w M gs W' e size f v l := by
  refine ⟨⟨h.row0.1, ?_⟩, h.mine, h.apart⟩
  rcases h.row0.2 with hn | ⟨g, cap, cur, hv, hge, hgg, rest⟩
  · exact .inl hn
  · exact .inr ⟨g, cap, cur, hv, hge, by rw [hc g (by rw [hv]; rfl), hgg], rest⟩
theorem OwnF.chg (h : OwnF w M gs W e size f v l) (hc : Chg N W W') (hne : ∀ k, v.ownBlock = some k → ¬ N k) : OwnF w M gs W' e size f v l :=
  h.keep fun k hk => hc.block k (h.lt k hk) (hne k hk)
theorem OwnF.grown {row : Option Nat} (h : OwnF w M gs W e size f v l) (hg : W.grownBy W' row) (hne : v.ownBlock = none ∨ v.ownBlock ≠ row) : OwnF w M gs W' e size f v l :=
  h.keep fun k hk => hg.block k (h.lt k hk) fun e => by
    rcases hne with h0 | h0
    · rw [h0] at hk; cases hk
    · exact h0 (hk.trans e)
theorem grown_below (h : Bel W W') (row : Option Nat) : W.grownBy W' row := ⟨h.below.os, h.below.tape, h.below.output, h.size, fun _ hk _ => h.block hk⟩
theorem OwnF.call (h : OwnF w M gs W e size f v l) (hb : Bel W W') : OwnF w M gs W' e size f v l := h.keep fun k hk => hb.block (h.lt k hk)
theorem OwnF.more (h : OwnF w M gs W e size f v l) (hg : ∀ g ∈ gs', g ∉ gs → W.heap.size ≤ g) : OwnF w M gs' W e size f v l :=
  ⟨h.row0, h.mine, fun g hm hv => by
    by_cases hk : g ∈ gs
    · exact h.apart g hk hv
    · have := h.lt g hv
      have := hg g hm hk
      omega⟩
theorem OwnF.evo (h : OwnF w M gs W e size f v l) (hd : ∀ d ∈ ds, d ∉ gs → W.heap.size ≤ d) (hb : Evo ds W W') : OwnF w M gs W' e size f v l :=
  h.chg (Chg.of_evo hb) fun k hk hm => by
    by_cases hg : k ∈ gs
    · exact h.apart k hg hk
    · have := hd k hm hg
      have := h.lt k hk
      omega
/-- A row that a call has made. -/
theorem OwnF.ret {n : Nat} {xs : List Value} (hA : AtF w M gs W) (h : W'.ownsRow W.heap.size e size v n xs) (hn : n = l.length) (hx : xs = l.flatMap f) : OwnF w M gs W' e size f v l := by
  subst hn
  subst hx
  refine OwnF.mk_ h (fun k hk _ => .inl (Nat.le_trans hA.size hk)) fun g hg hv => ?_
  have := (h.lt g hv).1
  have := hA.under g hg
  omega
theorem OwnL.ret {n : Nat} {xs : List Value} (hA : At w gs W) (h : W'.ownsRow W.heap.size e size v n xs) (hn : n = l.length) (hx : xs = l.flatMap f) : OwnL w gs W' e size f v l := OwnF.ret hA h hn hx
/-- Seen from another first world. -/
theorem OwnF.base {w' : World} {M' : Nat → Prop} {gs' : List Nat} (h : OwnF w M gs W e size f v l) (hm : ∀ k, v.ownBlock = some k → w'.heap.size ≤ k ∨ M' k) (hap : ∀ g ∈ gs', v.ownBlock ≠ some g) : OwnF w' M' gs' W e size f v l := ⟨h.row0, hm, hap⟩

theorem flatMap_part {l : List α} (hf : ∀ x ∈ l, (f x).length = size) {i : Nat} {x : α} (hx : l[i]? = some x) : ((l.flatMap f).drop (i * size)).take size = f x := by
  induction l generalizing i with
  | nil => simp at hx
  | cons y l ih =>
    cases i with
    | zero =>
      simp at hx
      subst hx
      have := hf y (List.mem_cons_self ..)
      simp only [Nat.zero_mul, List.drop_zero, List.flatMap_cons]
      rw [← this, List.take_left]
    | succ i =>
      have hy := hf y (List.mem_cons_self ..)
      have hx' : l[i]? = some x := by simpa using hx
      rw [← ih (fun x hx => hf x (List.mem_cons_of_mem _ hx)) hx']
      simp only [List.flatMap_cons]
      rw [Nat.add_mul, Nat.one_mul, Nat.add_comm, ← List.drop_drop]
      congr 2
      rw [← hy, List.drop_left]

/-- An own slice reads as its list. -/
theorem OwnF.slice (h : OwnF w M gs W e size f v l) (hf : ∀ x ∈ l, (f x).length = size) : ∃ a cap, v = .slice a l.length cap ∧ SlE W size f l a l.length cap := by
  rcases h.row0.2 with ⟨hv, hn⟩ | ⟨g, cap, cur, hv, hge, hgg, hnc, hcm, hcs, htk⟩
  · have hl : l = [] := List.eq_nil_of_length_eq_zero hn
    subst hl
    exact ⟨none, 0, hv, rfl, Nat.le_refl _, Nat.zero_le _, fun _ => rfl, fun i x hx => by simp at hx⟩
  · refine ⟨_, cap, hv, rfl, hnc, hcm, fun h => (by cases h), fun i x hx => ⟨_, f x, rfl, hf x (List.mem_of_getElem? hx), fun j u hu => ?_, rfl⟩⟩
    have hlen := hf x (List.mem_of_getElem? hx)
    rw [addr_add_add _ _ _ rfl, addr_add]
    have hj : j < size := by
      have := (List.getElem?_eq_some_iff.1 hu).1
      omega
    rw [← flatMap_part hf hx, List.getElem?_take, if_pos hj, List.getElem?_drop, ← htk, List.getElem?_take] at hu
    split at hu
    · rw [← Array.getElem?_toList]  at *
      have := cell_at (W := W) (g := g) (cells := cur.toList) (ty := e) (fr := (0, 0)) (by simpa using hgg) (0 + i * size + j)
      rw [show (0 : Nat) + (i * size + j) = 0 + i * size + j by omega, this]
      simpa using hu
    · cases hu
end

/-! ### Adding -/
def elemB (P : Program) (t e : TypeId) (size bytes : Nat) : Bool :=
  match P.underlying t with
  | some (.slice e') => Nat.beq e' e && (match P.info? e with
    | some i => Nat.beq i.size size && Nat.beq i.bytes bytes && (match i.zero with
      | some z => Nat.beq z.cells.size size && Nat.blt 0 size
      | none => false)
    | none => false)
  | _ => false

structure ElemOk (P : Program) (t e : TypeId) (size bytes : Nat) (i : TypeInfo) (z : Value) : Prop where
  ht : P.underlying t = some (.slice e)
  hi : P.info? e = some i
  hz : i.zero = some z
  hsize : i.size = size
  hby : i.bytes = bytes
  hzs : z.cells.size = size
  hsz : 0 < size

theorem elemB_ok {P : Program} {t e : TypeId} {size bytes : Nat} (h : elemB P t e size bytes = true) : ∃ i z, ElemOk P t e size bytes i z := by
  unfold elemB at h
  split at h
  · rename_i e' hu
    simp only [Bool.and_eq_true] at h
    obtain ⟨he, h⟩ := h
    have he := Nat.eq_of_beq_eq_true he
    subst he
    split at h
    · rename_i i hi
      simp only [Bool.and_eq_true] at h
      obtain ⟨⟨h1, h2⟩, h3⟩ := h
      split at h3
      · rename_i z hz
        simp only [Bool.and_eq_true] at h3
        refine ⟨i, z, hu, hi, hz, Nat.eq_of_beq_eq_true h1, Nat.eq_of_beq_eq_true h2, Nat.eq_of_beq_eq_true h3.1, ?_⟩
        have := h3.2
        unfold Nat.blt at this
        exact Nat.le_of_ble_eq_true this
      · cases h3
    · cases h
  · cases h

section
variable {P : Program} {M : Nat → Prop} {w W : World} {gs : List Nat} {e : TypeId} {size : Nat} {v : Value} {n : Nat} {xs : List Value}

theorem run_append_at {t ty : TypeId} {bytes base : Nat} (he : elemB P t e size bytes = true) (hown : W.ownsRow base e size v n xs) (hbase : base ≤ W.heap.size) {a : Addr} {m c : Nat} {news : List Value} (hl : news.length = m * size)
    (hnews : ∀ j u, news[j]? = some u → W.cell? (a.add j) = some u) (h1 : ∀ u ∈ news, u.oneCell' = true) (h63 : n + m ≤ maxLen) (hbytes : (n + m) * bytes ≤ 140737488355328) :
    ∃ v' w', (Builtin.append_ #[t, t] ty #[v, .slice (some a) m c]).run P W = .ok v' w' ∧ w'.ownsRow base e size v' (n + m) (xs ++ news) ∧ W.grownBy w' v.ownBlock ∧ (v'.ownBlock = v.ownBlock ∨ ∀ k, v'.ownBlock = some k → W.heap.size ≤ k) := by
  obtain ⟨i, z, ok⟩ := elemB_ok he
  rcases hown.2 with ⟨rfl, rfl⟩ | ⟨g, cap, cur, rfl, hbg, hg, hnc, hcm, hcs, htake⟩
  · have hxs : xs = [] := List.eq_nil_of_length_eq_zero (by simpa using hown.1)
    subst hxs
    obtain ⟨v', w', hr, ho, hgr, _⟩ := run_append_own (P := P) W W.heap.size t ty e i z size bytes ok.ht ok.hi ok.hz ok.hsize ok.hby ok.hzs ok.hsz _ 0 [] (World.ownsRow_nil W W.heap.size e size) a m c news hl hnews h1 h63 hbytes (Nat.le_refl _)
    refine ⟨v', w', hr, ⟨ho.1, ?_⟩, hgr, .inr fun k hk => (ho.lt k hk).1⟩
    rcases ho.2 with h | ⟨g, cap, cur, hv, hge, rest⟩
    · exact .inl h
    · exact .inr ⟨g, cap, cur, hv, Nat.le_trans hbase hge, rest⟩
  · by_cases hroom : n + m ≤ cap
    · obtain ⟨w', hr, ho, hgr⟩ := run_append_fits (P := P) W base t ty e i size ok.ht ok.hi ok.hsize g n cap xs hown a m c news hl hnews h1 hroom
      exact ⟨_, w', hr, ho, hgr, .inl rfl⟩
    · obtain ⟨v', w', hr, ho, hgr, _⟩ := run_append_own (P := P) W base t ty e i z size bytes ok.ht ok.hi ok.hz ok.hsize ok.hby ok.hzs ok.hsz _ n xs hown a m c news hl hnews h1 h63 hbytes hbase
      have holds : ∀ j u, xs[j]? = some u → W.cell? ((⟨g, 0, none⟩ : Addr).add j) = some u := hown.cells (g := g) rfl
      have hsmall : n + m ≤ 9223372036854775807 := by simp only [maxLen] at h63; omega
      have hr2 := run_append_grow (P := P) W t ty e i z ok.ht ok.hi ok.hz ⟨g, 0, none⟩ n cap xs (by rw [ok.hsize]; exact hown.1) holds a m c news (by rw [ok.hsize]; exact hl) hnews (by omega) (by omega) (growslice_fits (by omega) (by rw [ok.hby]; exact hbytes))
      rw [hr] at hr2
      have hv' : v' = _ := (Result.ok.inj hr2).1
      refine ⟨v', w', hr, ho, hgr, .inr fun k hk => ?_⟩
      rw [hv'] at hk
      simp [Value.ownBlock] at hk
      omega

theorem opw_appendRaw {t ty : TypeId} {fl : Array Bool} {bytes : Nat} (he : elemB P t e size bytes = true) (hA : AtF w M gs W) (hown : W.ownsRow 0 e size v n xs) (hmine : ∀ k, v.ownBlock = some k → w.heap.size ≤ k ∨ M k) (hap : ∀ g ∈ gs, v.ownBlock ≠ some g) {a : Addr} {m c : Nat} {news : List Value} (hl : news.length = m * size)
    (hnews : ∀ j u, news[j]? = some u → W.cell? (a.add j) = some u) (h1 : ∀ u ∈ news, u.oneCell' = true) (h63 : n + m ≤ maxLen) (hbytes : (n + m) * bytes ≤ 140737488355328) {K : Value → World → Prop}
    (h : ∀ v' w', AtF w M gs w' → Keeps gs W w' → W.grownBy w' v.ownBlock → w'.ownsRow 0 e size v' (n + m) (xs ++ news) → (∀ k, v'.ownBlock = some k → w.heap.size ≤ k ∨ M k) → (∀ g ∈ gs, v'.ownBlock ≠ some g) → (v'.ownBlock = v.ownBlock ∨ ∀ k, v'.ownBlock = some k → W.heap.size ≤ k) → K v' w') :
    OpW P (builtin .append #[t, t] ty fl #[v, .slice (some a) m c]) W K := by
  obtain ⟨v', w', hr, ho, hgr, hb⟩ := run_append_at (ty := ty) he hown (Nat.zero_le _) hl hnews h1 h63 hbytes
  have hrun : (builtin .append #[t, t] ty fl #[v, .slice (some a) m c]).run P W = .ok (.value v') w' := by
    show (do pure (Next.value (← Builtin.append_ #[t, t] ty #[v, .slice (some a) m c])) : Sem Next).run P W = _
    rw [run_bind_ok hr]
    rfl
  unfold OpW
  rw [hrun]
  refine h v' w' (hA.step (Chg.of_grown hgr (run_drawn hr)) fun k _ hk => hmine k hk) (fun g hg => hgr.block g (hA.under g hg) fun e => hap g hg e.symm) hgr ho (fun k hk => ?_) (fun g hg hv => ?_) hb
  · rcases hb with hb | hb
    · exact hmine k (hb ▸ hk)
    · exact .inl (Nat.le_trans hA.size (hb k hk))
  rcases hb with hb | hb
  · exact hap g hg (hb ▸ hv)
  · have := hb g hv
    have := hA.under g hg
    omega
end

/-- One element more. -/
theorem opw_append1 {α : Type} {P : Program} {M : Nat → Prop} {w W : World} {gs : List Nat} {e : TypeId} {size : Nat} {f : α → List Value} {v : Value} {l : List α} {t ty : TypeId} {fl : Array Bool} {bytes : Nat} (he : elemB P t e size bytes = true) (hA : AtF w M gs W) (ho : OwnF w M gs W e size f v l) {a : Addr} {c : Nat} {x : α} (hl : (f x).length = size)
    (hnews : ∀ j u, (f x)[j]? = some u → W.cell? (a.add j) = some u) (h1 : ∀ u ∈ f x, u.oneCell' = true) (h63 : l.length + 1 ≤ 70368744177664) (hby : bytes = 1 ∨ (l.length + 1) * bytes ≤ 140737488355328) {K : Value → World → Prop}
    (h : ∀ v' w', AtF w M gs w' → Keeps gs W w' → W.grownBy w' v.ownBlock → OwnF w M gs w' e size f v' (l ++ [x]) → (v'.ownBlock = v.ownBlock ∨ ∀ k, v'.ownBlock = some k → W.heap.size ≤ k) → K v' w') :
    OpW P (builtin .append #[t, t] ty fl #[v, .slice (some a) 1 c]) W K := by
  refine opw_appendRaw he hA ho.row0 ho.mine ho.apart (m := 1) (by simpa using hl) hnews h1 (by simp only [maxLen]; omega) ?_ fun v' w' hA' hk hg hr hmi hap hb => h v' w' hA' hk hg ⟨?_, hmi, hap⟩ hb
  · rcases hby with rfl | h
    · omega
    · exact h
  · simpa using hr

/-- All elements of a slice more. -/
theorem opw_appendS {α : Type} {P : Program} {M : Nat → Prop} {w W : World} {gs : List Nat} {e : TypeId} {size : Nat} {f : α → List Value} {v : Value} {l l2 : List α} {t ty : TypeId} {fl : Array Bool} {bytes : Nat} (he : elemB P t e size bytes = true) (hA : AtF w M gs W) (ho : OwnF w M gs W e size f v l) {a : Option Addr} {len c : Nat} (hs : SlE W size f l2 a len c)
    (hf : ∀ x ∈ l2, (f x).length = size) (h1 : ∀ x ∈ l2, ∀ u ∈ f x, u.oneCell' = true) (h63 : l.length + l2.length ≤ maxLen) (hby : (l.length + l2.length) * bytes ≤ 140737488355328) {K : Value → World → Prop}
    (h : ∀ v' w', AtF w M gs w' → Keeps gs W w' → W.grownBy w' v.ownBlock → OwnF w M gs w' e size f v' (l ++ l2) → K v' w') :
    OpW P (builtin .append #[t, t] ty fl #[v, .slice a len c]) W K := by
  obtain ⟨hlen, hlc, hcm, hnone, hat⟩ := hs
  subst hlen
  cases a with
  | none =>
    have hc : c = 0 := hnone rfl
    subst hc
    have h0 : l2 = [] := List.eq_nil_of_length_eq_zero (by omega)
    subst h0
    obtain ⟨i, z, ok⟩ := elemB_ok he
    have hr := run_append_owned_none (P := P) W 0 t ty e i size ok.ht ok.hi v l.length _ ho.row0
    have hrun : (builtin .append #[t, t] ty fl #[v, .slice none 0 0]).run P W = .ok (.value v) W := by
      show (do pure (Next.value (← Builtin.append_ #[t, t] ty #[v, .slice none 0 0])) : Sem Next).run P W = _
      rw [run_bind_ok hr]
      rfl
    unfold OpW
    rw [show ([] : List α).length = 0 from rfl, hrun]
    exact h v W hA (fun _ _ => rfl) ⟨rfl, rfl, rfl, Nat.le_refl _, fun _ _ _ => rfl⟩ (by rw [List.append_nil]; exact ho)
  | some ad =>
    have hfl : (l2.flatMap f).length = l2.length * size := by
      clear hat h63 hby h hlc hnone h1
      induction l2 with
      | nil => simp
      | cons x l2 ih =>
        rw [List.flatMap_cons, List.length_append, List.length_cons, hf x (List.mem_cons_self ..), ih fun y hy => hf y (List.mem_cons_of_mem _ hy), Nat.add_mul]
        omega
    have hcells : ∀ j u, (l2.flatMap f)[j]? = some u → W.cell? (ad.add j) = some u := by
      intro j u hu
      have hj := (List.getElem?_eq_some_iff.1 hu).1
      rw [hfl] at hj
      have hsz : 0 < size := by
        rcases Nat.eq_zero_or_pos size with h | h
        · subst h; omega
        · exact h
      have hi : j / size < l2.length := Nat.div_lt_of_lt_mul (by rw [Nat.mul_comm]; exact hj)
      obtain ⟨ad', cs, hae, hcl, hcs, hcf⟩ := hat (j / size) _ (List.getElem?_eq_getElem hi)
      cases hae
      subst hcf
      have hp := flatMap_part hf (List.getElem?_eq_getElem hi)
      have hm : j % size < size := Nat.mod_lt _ hsz
      have hdm : j / size * size + j % size = j := by rw [Nat.mul_comm]; exact Nat.div_add_mod j size
      have hv : (f l2[j / size])[j % size]? = some u := by
        rw [← hp, List.getElem?_take, if_pos hm, List.getElem?_drop, hdm]
        exact hu
      have := hcs _ _ hv
      have hadd : (ad.add (j / size * size)).add (j % size) = ad.add j := by
        rcases Option.eq_none_or_eq_some ad.spot with hsp | ⟨s, hsp⟩
        · rw [addr_add_add _ _ _ hsp, hdm]
        · unfold Addr.add
          obtain ⟨b, o, sp⟩ := ad
          simp only at hsp
          subst hsp
          by_cases h1 : j / size * size = 0
          · rw [h1] at hdm
            rw [Nat.zero_add] at hdm
            simp [h1, hdm]
          · have h3 : j ≠ 0 := by omega
            by_cases h2 : j % size = 0
            · rw [h2] at hdm
              simp [h1, h2, h3]
              omega
            · simp [h1, h2, h3]
              omega
      rw [hadd] at this
      exact this
    refine opw_appendRaw he hA ho.row0 ho.mine ho.apart hfl hcells (fun u hu => ?_) h63 hby fun v' w' hA' hk hg hr hmi hap _ => h v' w' hA' hk hg ⟨?_, hmi, hap⟩
    · obtain ⟨x, hx, hxu⟩ := List.mem_flatMap.1 hu
      exact h1 x hx u hxu
    · rw [List.length_append, List.flatMap_append]
      exact hr
end Go.Vc
