/- Own texts of this claim, laid together: VcOwn, VcArg, ZFS1, VcOwn2, VcStr, VcElt, VcArr, VcPush, VcMap, VcKeys, VcStore, VcMath, TrM, ZSt1, ZSt2, ZSt3, ZSt4, ZSt5. -/
import Derived.Test.YtjpcmbaminjafaaGreatMge380496b
import Derived.Laws.OwnMore
import Derived.Test.YtjpcmbaminjafaaGreatProg
import Derived.Laws.BytesArg
import Derived.Laws.BytesString
import Derived.Laws.Concat
import Derived.Laws.Strings3
import Derived.Laws.Slices
import Derived.Laws.RangeString
import Derived.Laws.IdiomStrings
import Derived.Carry
import Derived.MapKept
import GoSem.Core.View

/- Slices of the function's own: rows made since the first world, apart from the own boxes; making, adding, storing, reading. -/
namespace Go.Vc
open Go Go.RowKit

/-- A slice whose elements lie in memory as 'f' writes them. -/
abbrev SlE {α : Type} (w : World) (n : Nat) (f : α → List Value) (l : List α) (a : Option Addr) (len cap : Nat) : Prop := SlR w n (fun x cs => cs = f x) l a len cap

theorem SlR.imp {α : Type} {w : World} {n : Nat} {R R' : α → List Value → Prop} {l : List α} {a : Option Addr} {len cap : Nat} (h : SlR w n R l a len cap) (hR : ∀ x cs, R x cs → R' x cs) : SlR w n R' l a len cap :=
  h.mono (fun _ _ h => h) hR
theorem SlR.call {α : Type} {w w' : World} {n : Nat} {R : α → List Value → Prop} {l : List α} {a : Option Addr} {len cap : Nat} (h : SlR w n R l a len cap) (hb : Bel w w') : SlR w' n R l a len cap :=
  h.mono (cell_below hb.below) fun _ _ h => h
theorem SlR.each {α : Type} {w : World} {n : Nat} {R : α → List Value → Prop} {l : List α} {a : Option Addr} {len cap : Nat} (h : SlR w n R l a len cap) {x : α} (hx : x ∈ l) : ∃ cs, R x cs := by
  obtain ⟨i, hi, rfl⟩ := List.mem_iff_getElem.1 hx
  obtain ⟨_, cs, _, _, _, hr⟩ := h.at_ (List.getElem?_eq_getElem hi)
  exact ⟨cs, hr⟩
theorem SlR.len_le {α : Type} {w : World} {n : Nat} {R : α → List Value → Prop} {l : List α} {a : Option Addr} {len cap : Nat} (h : SlR w n R l a len cap) : len = l.length ∧ l.length ≤ 9223372036854775807 := ⟨h.1, h.1 ▸ Nat.le_trans h.2.1 h.2.2.1⟩

/-- An own slice: its row lies in a block that is new since the first world, or that may be written (M), apart from the own boxes. -/
structure OwnF {α : Type} (w : World) (M : Nat → Prop) (gs : List Nat) (W : World) (e : TypeId) (size : Nat) (f : α → List Value) (v : Value) (l : List α) : Prop where
  row0 : W.ownsRow 0 e size v l.length (l.flatMap f)
  mine : ∀ k, v.ownBlock = some k → w.heap.size ≤ k ∨ M k
  apart : ∀ g ∈ gs, v.ownBlock ≠ some g
abbrev OwnL {α : Type} (w : World) (gs : List Nat) (W : World) (e : TypeId) (size : Nat) (f : α → List Value) (v : Value) (l : List α) : Prop := OwnF w noB gs W e size f v l

theorem ownsRow_raise {W : World} {base b : Nat} {e : TypeId} {size n : Nat} {v : Value} {xs : List Value} (h : W.ownsRow b e size v n xs) (hm : ∀ k, v.ownBlock = some k → base ≤ k) : W.ownsRow base e size v n xs := by
  refine ⟨h.1, ?_⟩
  rcases h.2 with hn | ⟨g, cap, cur, hv, _, rest⟩
  · exact .inl hn
  · exact .inr ⟨g, cap, cur, hv, hm g (by rw [hv]; rfl), rest⟩

section
variable {α : Type} {w W W' : World} {M N : Nat → Prop} {gs gs' ds : List Nat} {e : TypeId} {size : Nat} {f : α → List Value} {v : Value} {l : List α}

theorem OwnF.lt (h : OwnF w M gs W e size f v l) : ∀ k, v.ownBlock = some k → k < W.heap.size := fun k hk => (h.row0.lt k hk).2
/-- Out of a row above a base. -/
theorem OwnF.mk_ {base : Nat} (h : W.ownsRow base e size v l.length (l.flatMap f)) (hm : ∀ k, base ≤ k → k < W.heap.size → w.heap.size ≤ k ∨ M k) (hap : ∀ g ∈ gs, v.ownBlock ≠ some g) : OwnF w M gs W e size f v l :=
  ⟨ownsRow_raise h fun _ _ => Nat.zero_le _, fun k hk => hm k (h.lt k hk).1 (h.lt k hk).2, hap⟩
theorem OwnL.of (h : W.ownsRow w.heap.size e size v l.length (l.flatMap f)) (hap : ∀ g ∈ gs, v.ownBlock ≠ some g) : OwnL w gs W e size f v l := OwnF.mk_ h (fun _ h _ => .inl h) hap
theorem OwnF.row (h : OwnF w noB gs W e size f v l) : W.ownsRow w.heap.size e size v l.length (l.flatMap f) := ownsRow_raise h.row0 fun k hk => (h.mine k hk).resolve_right id

theorem OwnF.nil : OwnF w M gs W e size f (.slice none 0 0) [] := ⟨World.ownsRow_nil .., fun _ h => (by cases h), fun _ _ h => by cases h⟩
theorem OwnL.nil : OwnL w gs W e size f (.slice none 0 0) [] := OwnF.nil

theorem OwnF.keep (h : OwnF w M gs W e size f v l) (hc : ∀ k, v.ownBlock = some k → W'.heap[k]? = W.heap[k]?) : OwnF w M gs W' e size f v l := by
  refine ⟨⟨h.row0.1, ?_⟩, h.mine, h.apart⟩
  rcases h.row0.2 with hn | ⟨g, cap, cur, hv, hge, hgg, rest⟩
  · exact .inl hn
  · exact .inr ⟨g, cap, cur, hv, hge, by rw [hc g (by rw [hv]; rfl), hgg], rest⟩
theorem OwnF.chg (h : OwnF w M gs W e size f v l) (hc : Chg N W W') (hne : ∀ k, v.ownBlock = some k → ¬ N k) : OwnF w M gs W' e size f v l :=
  h.keep fun k hk => hc.block k (h.lt k hk) (hne k hk)
theorem OwnF.grown {row : Option Nat} (h : OwnF w M gs W e size f v l) (hg : W.grownBy W' row) (hne : v.ownBlock = none ∨ v.ownBlock ≠ row) : OwnF w M gs W' e size f v l :=
  h.keep fun k hk => hg.block k (h.lt k hk) fun e => by
    rcases hne with h0 | h0
    · rw [h0] at hk; cases hk
    · exact h0 (hk.trans e)
theorem grown_below (h : Bel W W') (row : Option Nat) : W.grownBy W' row := ⟨h.below.os, h.below.tape, h.below.output, h.size, fun _ hk _ => h.block hk⟩
theorem OwnF.call (h : OwnF w M gs W e size f v l) (hb : Bel W W') : OwnF w M gs W' e size f v l := h.keep fun k hk => hb.block (h.lt k hk)
theorem OwnF.more (h : OwnF w M gs W e size f v l) (hg : ∀ g ∈ gs', g ∉ gs → W.heap.size ≤ g) : OwnF w M gs' W e size f v l :=
  ⟨h.row0, h.mine, fun g hm hv => by
    by_cases hk : g ∈ gs
    · exact h.apart g hk hv
    · have := h.lt g hv
      have := hg g hm hk
      omega⟩
theorem OwnF.evo (h : OwnF w M gs W e size f v l) (hd : ∀ d ∈ ds, d ∉ gs → W.heap.size ≤ d) (hb : Evo ds W W') : OwnF w M gs W' e size f v l :=
  h.chg (Chg.of_evo hb) fun k hk hm => by
    by_cases hg : k ∈ gs
    · exact h.apart k hg hk
    · have := hd k hm hg
      have := h.lt k hk
      omega
/-- A row that a call has made. -/
theorem OwnF.ret {n : Nat} {xs : List Value} (hA : AtF w M gs W) (h : W'.ownsRow W.heap.size e size v n xs) (hn : n = l.length) (hx : xs = l.flatMap f) : OwnF w M gs W' e size f v l := by
  subst hn
  subst hx
  refine OwnF.mk_ h (fun k hk _ => .inl (Nat.le_trans hA.size hk)) fun g hg hv => ?_
  have := (h.lt g hv).1
  have := hA.under g hg
  omega
theorem OwnL.ret {n : Nat} {xs : List Value} (hA : At w gs W) (h : W'.ownsRow W.heap.size e size v n xs) (hn : n = l.length) (hx : xs = l.flatMap f) : OwnL w gs W' e size f v l := OwnF.ret hA h hn hx
/-- Seen from another first world. -/
theorem OwnF.base {w' : World} {M' : Nat → Prop} {gs' : List Nat} (h : OwnF w M gs W e size f v l) (hm : ∀ k, v.ownBlock = some k → w'.heap.size ≤ k ∨ M' k) (hap : ∀ g ∈ gs', v.ownBlock ≠ some g) : OwnF w' M' gs' W e size f v l := ⟨h.row0, hm, hap⟩

theorem flatMap_part {l : List α} (hf : ∀ x ∈ l, (f x).length = size) {i : Nat} {x : α} (hx : l[i]? = some x) : ((l.flatMap f).drop (i * size)).take size = f x := by
  induction l generalizing i with
  | nil => simp at hx
  | cons y l ih =>
    cases i with
    | zero =>
      simp at hx
      subst hx
      have := hf y (List.mem_cons_self ..)
      simp only [Nat.zero_mul, List.drop_zero, List.flatMap_cons]
      rw [← this, List.take_left]
    | succ i =>
      have hy := hf y (List.mem_cons_self ..)
      have hx' : l[i]? = some x := by simpa using hx
      rw [← ih (fun x hx => hf x (List.mem_cons_of_mem _ hx)) hx']
      simp only [List.flatMap_cons]
      rw [Nat.add_mul, Nat.one_mul, Nat.add_comm, ← List.drop_drop]
      congr 2
      rw [← hy, List.drop_left]

/-- An own slice reads as its list. -/
theorem OwnF.slice (h : OwnF w M gs W e size f v l) (hf : ∀ x ∈ l, (f x).length = size) : ∃ a cap, v = .slice a l.length cap ∧ SlE W size f l a l.length cap := by
  rcases h.row0.2 with ⟨hv, hn⟩ | ⟨g, cap, cur, hv, hge, hgg, hnc, hcm, hcs, htk⟩
  · have hl : l = [] := List.eq_nil_of_length_eq_zero hn
    subst hl
    exact ⟨none, 0, hv, rfl, Nat.le_refl _, Nat.zero_le _, fun _ => rfl, fun i x hx => by simp at hx⟩
  · refine ⟨_, cap, hv, rfl, hnc, hcm, fun h => (by cases h), fun i x hx => ⟨_, f x, rfl, hf x (List.mem_of_getElem? hx), fun j u hu => ?_, rfl⟩⟩
    have hlen := hf x (List.mem_of_getElem? hx)
    rw [addr_add_add _ _ _ rfl, addr_add]
    have hj : j < size := by
      have := (List.getElem?_eq_some_iff.1 hu).1
      omega
    rw [← flatMap_part hf hx, List.getElem?_take, if_pos hj, List.getElem?_drop, ← htk, List.getElem?_take] at hu
    split at hu
    · rw [← Array.getElem?_toList]  at *
      have := cell_at (W := W) (g := g) (cells := cur.toList) (ty := e) (fr := (0, 0)) (by simpa using hgg) (0 + i * size + j)
      rw [show (0 : Nat) + (i * size + j) = 0 + i * size + j by omega, this]
      simpa using hu
    · cases hu
end

/-! ### Adding -/
def elemB (P : Program) (t e : TypeId) (size bytes : Nat) : Bool :=
  match P.underlying t with
  | some (.slice e') => Nat.beq e' e && (match P.info? e with
    | some i => Nat.beq i.size size && Nat.beq i.bytes bytes && (match i.zero with
      | some z => Nat.beq z.cells.size size && Nat.blt 0 size
      | none => false)
    | none => false)
  | _ => false

structure ElemOk (P : Program) (t e : TypeId) (size bytes : Nat) (i : TypeInfo) (z : Value) : Prop where
  ht : P.underlying t = some (.slice e)
  hi : P.info? e = some i
  hz : i.zero = some z
  hsize : i.size = size
  hby : i.bytes = bytes
  hzs : z.cells.size = size
  hsz : 0 < size

theorem elemB_ok {P : Program} {t e : TypeId} {size bytes : Nat} (h : elemB P t e size bytes = true) : ∃ i z, ElemOk P t e size bytes i z := by
  unfold elemB at h
  split at h
  · rename_i e' hu
    simp only [Bool.and_eq_true] at h
    obtain ⟨he, h⟩ := h
    have he := Nat.eq_of_beq_eq_true he
    subst he
    split at h
    · rename_i i hi
      simp only [Bool.and_eq_true] at h
      obtain ⟨⟨h1, h2⟩, h3⟩ := h
      split at h3
      · rename_i z hz
        simp only [Bool.and_eq_true] at h3
        refine ⟨i, z, hu, hi, hz, Nat.eq_of_beq_eq_true h1, Nat.eq_of_beq_eq_true h2, Nat.eq_of_beq_eq_true h3.1, ?_⟩
        have := h3.2
        unfold Nat.blt at this
        exact Nat.le_of_ble_eq_true this
      · cases h3
    · cases h
  · cases h

section
variable {P : Program} {M : Nat → Prop} {w W : World} {gs : List Nat} {e : TypeId} {size : Nat} {v : Value} {n : Nat} {xs : List Value}

theorem run_append_at {t ty : TypeId} {bytes base : Nat} (he : elemB P t e size bytes = true) (hown : W.ownsRow base e size v n xs) (hbase : base ≤ W.heap.size) {a : Addr} {m c : Nat} {news : List Value} (hl : news.length = m * size)
    (hnews : ∀ j u, news[j]? = some u → W.cell? (a.add j) = some u) (h1 : ∀ u ∈ news, u.oneCell' = true) (h63 : n + m ≤ maxLen) (hbytes : (n + m) * bytes ≤ 140737488355328) :
    ∃ v' w', (Builtin.append_ #[t, t] ty #[v, .slice (some a) m c]).run P W = .ok v' w' ∧ w'.ownsRow base e size v' (n + m) (xs ++ news) ∧ W.grownBy w' v.ownBlock ∧ (v'.ownBlock = v.ownBlock ∨ ∀ k, v'.ownBlock = some k → W.heap.size ≤ k) := by
  obtain ⟨i, z, ok⟩ := elemB_ok he
  rcases hown.2 with ⟨rfl, rfl⟩ | ⟨g, cap, cur, rfl, hbg, hg, hnc, hcm, hcs, htake⟩
  · have hxs : xs = [] := List.eq_nil_of_length_eq_zero (by simpa using hown.1)
    subst hxs
    obtain ⟨v', w', hr, ho, hgr, _⟩ := run_append_own (P := P) W W.heap.size t ty e i z size bytes ok.ht ok.hi ok.hz ok.hsize ok.hby ok.hzs ok.hsz _ 0 [] (World.ownsRow_nil W W.heap.size e size) a m c news hl hnews h1 h63 hbytes (Nat.le_refl _)
    refine ⟨v', w', hr, ⟨ho.1, ?_⟩, hgr, .inr fun k hk => (ho.lt k hk).1⟩
    rcases ho.2 with h | ⟨g, cap, cur, hv, hge, rest⟩
    · exact .inl h
    · exact .inr ⟨g, cap, cur, hv, Nat.le_trans hbase hge, rest⟩
  · by_cases hroom : n + m ≤ cap
    · obtain ⟨w', hr, ho, hgr⟩ := run_append_fits (P := P) W base t ty e i size ok.ht ok.hi ok.hsize g n cap xs hown a m c news hl hnews h1 hroom
      exact ⟨_, w', hr, ho, hgr, .inl rfl⟩
    · obtain ⟨v', w', hr, ho, hgr, _⟩ := run_append_own (P := P) W base t ty e i z size bytes ok.ht ok.hi ok.hz ok.hsize ok.hby ok.hzs ok.hsz _ n xs hown a m c news hl hnews h1 h63 hbytes hbase
      have holds : ∀ j u, xs[j]? = some u → W.cell? ((⟨g, 0, none⟩ : Addr).add j) = some u := hown.cells (g := g) rfl
      have hsmall : n + m ≤ 9223372036854775807 := by simp only [maxLen] at h63; omega
      have hr2 := run_append_grow (P := P) W t ty e i z ok.ht ok.hi ok.hz ⟨g, 0, none⟩ n cap xs (by rw [ok.hsize]; exact hown.1) holds a m c news (by rw [ok.hsize]; exact hl) hnews (by omega) (by omega) (growslice_fits (by omega) (by rw [ok.hby]; exact hbytes))
      rw [hr] at hr2
      have hv' : v' = _ := (Result.ok.inj hr2).1
      refine ⟨v', w', hr, ho, hgr, .inr fun k hk => ?_⟩
      rw [hv'] at hk
      simp [Value.ownBlock] at hk
      omega

theorem opw_appendRaw {t ty : TypeId} {fl : Array Bool} {bytes : Nat} (he : elemB P t e size bytes = true) (hA : AtF w M gs W) (hown : W.ownsRow 0 e size v n xs) (hmine : ∀ k, v.ownBlock = some k → w.heap.size ≤ k ∨ M k) (hap : ∀ g ∈ gs, v.ownBlock ≠ some g) {a : Addr} {m c : Nat} {news : List Value} (hl : news.length = m * size)
    (hnews : ∀ j u, news[j]? = some u → W.cell? (a.add j) = some u) (h1 : ∀ u ∈ news, u.oneCell' = true) (h63 : n + m ≤ maxLen) (hbytes : (n + m) * bytes ≤ 140737488355328) {K : Value → World → Prop}
    (h : ∀ v' w', AtF w M gs w' → Keeps gs W w' → W.grownBy w' v.ownBlock → w'.ownsRow 0 e size v' (n + m) (xs ++ news) → (∀ k, v'.ownBlock = some k → w.heap.size ≤ k ∨ M k) → (∀ g ∈ gs, v'.ownBlock ≠ some g) → (v'.ownBlock = v.ownBlock ∨ ∀ k, v'.ownBlock = some k → W.heap.size ≤ k) → K v' w') :
    OpW P (builtin .append #[t, t] ty fl #[v, .slice (some a) m c]) W K := by
  obtain ⟨v', w', hr, ho, hgr, hb⟩ := run_append_at (ty := ty) he hown (Nat.zero_le _) hl hnews h1 h63 hbytes
  have hrun : (builtin .append #[t, t] ty fl #[v, .slice (some a) m c]).run P W = .ok (.value v') w' := by
    show (do pure (Next.value (← Builtin.append_ #[t, t] ty #[v, .slice (some a) m c])) : Sem Next).run P W = _
    rw [run_bind_ok hr]
    rfl
  unfold OpW
  rw [hrun]
  refine h v' w' (hA.step (Chg.of_grown hgr (run_drawn hr)) fun k _ hk => hmine k hk) (fun g hg => hgr.block g (hA.under g hg) fun e => hap g hg e.symm) hgr ho (fun k hk => ?_) (fun g hg hv => ?_) hb
  · rcases hb with hb | hb
    · exact hmine k (hb ▸ hk)
    · exact .inl (Nat.le_trans hA.size (hb k hk))
  rcases hb with hb | hb
  · exact hap g hg (hb ▸ hv)
  · have := hb g hv
    have := hA.under g hg
    omega
end

/-- One element more. -/
theorem opw_append1 {α : Type} {P : Program} {M : Nat → Prop} {w W : World} {gs : List Nat} {e : TypeId} {size : Nat} {f : α → List Value} {v : Value} {l : List α} {t ty : TypeId} {fl : Array Bool} {bytes : Nat} (he : elemB P t e size bytes = true) (hA : AtF w M gs W) (ho : OwnF w M gs W e size f v l) {a : Addr} {c : Nat} {x : α} (hl : (f x).length = size)
    (hnews : ∀ j u, (f x)[j]? = some u → W.cell? (a.add j) = some u) (h1 : ∀ u ∈ f x, u.oneCell' = true) (h63 : l.length + 1 ≤ 70368744177664) (hby : bytes = 1 ∨ (l.length + 1) * bytes ≤ 140737488355328) {K : Value → World → Prop}
    (h : ∀ v' w', AtF w M gs w' → Keeps gs W w' → W.grownBy w' v.ownBlock → OwnF w M gs w' e size f v' (l ++ [x]) → (v'.ownBlock = v.ownBlock ∨ ∀ k, v'.ownBlock = some k → W.heap.size ≤ k) → K v' w') :
    OpW P (builtin .append #[t, t] ty fl #[v, .slice (some a) 1 c]) W K := by
  refine opw_appendRaw he hA ho.row0 ho.mine ho.apart (m := 1) (by simpa using hl) hnews h1 (by simp only [maxLen]; omega) ?_ fun v' w' hA' hk hg hr hmi hap hb => h v' w' hA' hk hg ⟨?_, hmi, hap⟩ hb
  · rcases hby with rfl | h
    · omega
    · exact h
  · simpa using hr

/-- All elements of a slice more. -/
theorem opw_appendS {α : Type} {P : Program} {M : Nat → Prop} {w W : World} {gs : List Nat} {e : TypeId} {size : Nat} {f : α → List Value} {v : Value} {l l2 : List α} {t ty : TypeId} {fl : Array Bool} {bytes : Nat} (he : elemB P t e size bytes = true) (hA : AtF w M gs W) (ho : OwnF w M gs W e size f v l) {a : Option Addr} {len c : Nat} (hs : SlE W size f l2 a len c)
    (hf : ∀ x ∈ l2, (f x).length = size) (h1 : ∀ x ∈ l2, ∀ u ∈ f x, u.oneCell' = true) (h63 : l.length + l2.length ≤ maxLen) (hby : (l.length + l2.length) * bytes ≤ 140737488355328) {K : Value → World → Prop}
    (h : ∀ v' w', AtF w M gs w' → Keeps gs W w' → W.grownBy w' v.ownBlock → OwnF w M gs w' e size f v' (l ++ l2) → K v' w') :
    OpW P (builtin .append #[t, t] ty fl #[v, .slice a len c]) W K := by
  obtain ⟨hlen, hlc, hcm, hnone, hat⟩ := hs
  subst hlen
  cases a with
  | none =>
    have hc : c = 0 := hnone rfl
    subst hc
    have h0 : l2 = [] := List.eq_nil_of_length_eq_zero (by omega)
    subst h0
    obtain ⟨i, z, ok⟩ := elemB_ok he
    have hr := run_append_owned_none (P := P) W 0 t ty e i size ok.ht ok.hi v l.length _ ho.row0
    have hrun : (builtin .append #[t, t] ty fl #[v, .slice none 0 0]).run P W = .ok (.value v) W := by
      show (do pure (Next.value (← Builtin.append_ #[t, t] ty #[v, .slice none 0 0])) : Sem Next).run P W = _
      rw [run_bind_ok hr]
      rfl
    unfold OpW
    rw [show ([] : List α).length = 0 from rfl, hrun]
    exact h v W hA (fun _ _ => rfl) ⟨rfl, rfl, rfl, Nat.le_refl _, fun _ _ _ => rfl⟩ (by rw [List.append_nil]; exact ho)
  | some ad =>
    have hfl : (l2.flatMap f).length = l2.length * size := by
      clear hat h63 hby h hlc hnone h1
      induction l2 with
      | nil => simp
      | cons x l2 ih =>
        rw [List.flatMap_cons, List.length_append, List.length_cons, hf x (List.mem_cons_self ..), ih fun y hy => hf y (List.mem_cons_of_mem _ hy), Nat.add_mul]
        omega
    have hcells : ∀ j u, (l2.flatMap f)[j]? = some u → W.cell? (ad.add j) = some u := by
      intro j u hu
      have hj := (List.getElem?_eq_some_iff.1 hu).1
      rw [hfl] at hj
      have hsz : 0 < size := by
        rcases Nat.eq_zero_or_pos size with h | h
        · subst h; omega
        · exact h
      have hi : j / size < l2.length := Nat.div_lt_of_lt_mul (by rw [Nat.mul_comm]; exact hj)
      obtain ⟨ad', cs, hae, hcl, hcs, hcf⟩ := hat (j / size) _ (List.getElem?_eq_getElem hi)
      cases hae
      subst hcf
      have hp := flatMap_part hf (List.getElem?_eq_getElem hi)
      have hm : j % size < size := Nat.mod_lt _ hsz
      have hdm : j / size * size + j % size = j := by rw [Nat.mul_comm]; exact Nat.div_add_mod j size
      have hv : (f l2[j / size])[j % size]? = some u := by
        rw [← hp, List.getElem?_take, if_pos hm, List.getElem?_drop, hdm]
        exact hu
      have := hcs _ _ hv
      have hadd : (ad.add (j / size * size)).add (j % size) = ad.add j := by
        rcases Option.eq_none_or_eq_some ad.spot with hsp | ⟨s, hsp⟩
        · rw [addr_add_add _ _ _ hsp, hdm]
        · unfold Addr.add
          obtain ⟨b, o, sp⟩ := ad
          simp only at hsp
          subst hsp
          by_cases h1 : j / size * size = 0
          · rw [h1] at hdm
            rw [Nat.zero_add] at hdm
            simp [h1, hdm]
          · have h3 : j ≠ 0 := by omega
            by_cases h2 : j % size = 0
            · rw [h2] at hdm
              simp [h1, h2, h3]
              omega
            · simp [h1, h2, h3]
              omega
      rw [hadd] at this
      exact this
    refine opw_appendRaw he hA ho.row0 ho.mine ho.apart hfl hcells (fun u hu => ?_) h63 hby fun v' w' hA' hk hg hr hmi hap _ => h v' w' hA' hk hg ⟨?_, hmi, hap⟩
    · obtain ⟨x, hx, hxu⟩ := List.mem_flatMap.1 hu
      exact h1 x hx u hxu
    · rw [List.length_append, List.flatMap_append]
      exact hr
end Go.Vc

/- Arguments of the law, read. -/
namespace Go.Vc
open Go Go.RowKit
theorem i64_bounds' {x : Int} (h1 : IntKind.i64.min ≤ x) (h2 : x ≤ IntKind.i64.max) : -9223372036854775808 ≤ x ∧ x ≤ 9223372036854775807 := by
  have e1 : IntKind.i64.min = -9223372036854775808 := by decide
  have e2 : IntKind.i64.max = 9223372036854775807 := by decide
  omega
theorem int_V {w : World} {x : Int} {v : Value} (h : GT.V w (.int .i64) x v) : v = .int .i64 x ∧ (-9223372036854775808 ≤ x ∧ x ≤ 9223372036854775807) := by
  obtain ⟨h, h1, h2⟩ := h
  simp at h
  exact ⟨h, i64_bounds' h1 h2⟩
theorem str_V {w : World} {x : ByteArray} {v : Value} (h : GT.V w .str x v) : v = .string x ∧ x.size ≤ maxLen := by
  obtain ⟨h, h1⟩ := h
  simp at h
  exact ⟨h, h1⟩
theorem ints_V {w : World} {l : List Int} {v : Value} (h : GT.V w (.sl (.int .i64)) l v) : ∃ a n c, v = .slice a n c ∧ SlE w 1 (fun x => [Value.int .i64 x]) l a n c ∧ ∀ x ∈ l, -9223372036854775808 ≤ x ∧ x ≤ 9223372036854775807 := by
  obtain ⟨a, n, c, hv, hs⟩ := h
  simp at hv
  refine ⟨a, n, c, hv, hs.imp fun _ _ h => h.1, fun x hx => ?_⟩
  obtain ⟨cs, hr⟩ := hs.each hx
  exact i64_bounds' hr.2.1 hr.2.2
end Go.Vc

/- The formulas of functions, printed by a program (VcTool.lean): each is what the generator's formula comes to, by the kernel's reckoning; whoever proves one has the function's contract. -/
set_option maxRecDepth 100000
set_option maxHeartbeats 1000000
set_option linter.unusedVariables false
namespace Vcz
open Go Go.Vc Go.RowKit
/-! (manciple/sorter.place).ahead -/
def h30 : Hints := ⟨[2, 3], [], [12], [], [], [], [], [], []⟩
def f30_vc (a_0 : Int) (a_1 : Int) (a_2 : Int) (a_3 : Int) (b_0 : Int) (b_1 : Int) (b_2 : Int) (b_3 : Int) (w : World) (R : Ending → World → Prop) : Prop :=
 ∀ (n1 : Nat),
 w.heap.size ≤ n1 →
 ∀ (n2 : Nat),
 w.heap.size ≤ n2 →
 ∀ (w3 : World),
 Bel w w3 →
 Under [n1, n2] w3 →
 Calls Proofs.Tryz.prog 49 #[Value.agg #[Value.int IntKind.i64 a_0, Value.int IntKind.i64 a_1, Value.int IntKind.i64 a_2], Value.agg #[Value.int IntKind.i64 b_0, Value.int IntKind.i64 b_1, Value.int IntKind.i64 b_2]] w3
 fun (e4 : Ending) (w5 : World) =>
 ∃ (x6 : Int),
 e4 = Ending.returned (Value.int IntKind.i64 x6) ∧
 Keeps [n1, n2] w3 w5 ∧
 ((x6 != 0) = true → R (Ending.returned (Value.int IntKind.i64 x6)) w5) ∧
 ((x6 != 0) = false →
 Calls Proofs.Tryz.prog 50 #[Value.int IntKind.i64 a_3, Value.int IntKind.i64 b_3] w5 fun (e7 : Ending) (w8 : World) =>
 ∃ (x9 : Int), e7 = Ending.returned (Value.int IntKind.i64 x9) ∧ Keeps [n1, n2] w5 w8 ∧ R (Ending.returned (Value.int IntKind.i64 x9)) w8)
theorem f30_eq (a_0 : Int) (a_1 : Int) (a_2 : Int) (a_3 : Int) (b_0 : Int) (b_1 : Int) (b_2 : Int) (b_3 : Int) (w : World) (R : Ending → World → Prop) : (fnF Go.Proofs.Tryz.prog h30 Go.Proofs.Tryz.f30 [Value.agg #[Value.int IntKind.i64 a_0, Value.int IntKind.i64 a_1, Value.int IntKind.i64 a_2, Value.int IntKind.i64 a_3],
 Value.agg #[Value.int IntKind.i64 b_0, Value.int IntKind.i64 b_1, Value.int IntKind.i64 b_2, Value.int IntKind.i64 b_3]] w R).den = f30_vc a_0 a_1 a_2 a_3 b_0 b_1 b_2 b_3 w R := by kernel_rfl
theorem f30_calls (a_0 : Int) (a_1 : Int) (a_2 : Int) (a_3 : Int) (b_0 : Int) (b_1 : Int) (b_2 : Int) (b_3 : Int) (w : World) (R : Ending → World → Prop) (h : f30_vc a_0 a_1 a_2 a_3 b_0 b_1 b_2 b_3 w R) : Calls Go.Proofs.Tryz.prog 30 (List.toArray [Value.agg #[Value.int IntKind.i64 a_0, Value.int IntKind.i64 a_1, Value.int IntKind.i64 a_2, Value.int IntKind.i64 a_3],
 Value.agg #[Value.int IntKind.i64 b_0, Value.int IntKind.i64 b_1, Value.int IntKind.i64 b_2, Value.int IntKind.i64 b_3]]) w R :=
 fn_sound (H := h30) (fn := Go.Proofs.Tryz.f30) (by kernel_rfl) (by kernel_rfl) (by kernel_rfl) ((f30_eq a_0 a_1 a_2 a_3 b_0 b_1 b_2 b_3 w R).mpr h)

/-! (*manciple/tree.Tree[manciple/sorter.place]).All -/
def h63 : Hints := ⟨[], [7], [5], [], [], [], [], [], []⟩
def f63_vc (t : Option Addr) (w : World) (R : Ending → World → Prop) : Prop :=
 OpW Proofs.Tryz.prog (valueS (Instr.alloc 123 true (Value.tuple #[]))) w fun (v1 : Value) (w2 : World) =>
 ∃ (ad3 : Addr),
 v1 = Value.pointer (some ad3) ∧
 Calls Proofs.Tryz.prog 75 #[Value.pointer t] w2 fun (e4 : Ending) (w5 : World) =>
 ∃ (b6 : Bool),
 e4 = Ending.returned (Value.bool b6) ∧
 (b6 = true →
 ∃ (ad7 : Addr),
 t = some ad7 ∧
 ∃ (a8 : Option Addr),
 Reads Proofs.Tryz.prog [] (Instr.loadAt 108 (Value.pointer (some (Addr.mk ad7.block (ad7.off + 1) none)))) w5 (Value.pointer a8) ∧
 Calls Proofs.Tryz.prog 76 #[Value.pointer a8, Value.func (Fn.func 77) #[] #[Value.pointer (some ad3)]] w5 fun (e9 : Ending) (w10 : World) =>
 e9 = Ending.returned (Value.tuple #[]) ∧
 ∃ (a11 : Option Addr), ∃ (n12 : Nat), ∃ (n13 : Nat), Reads Proofs.Tryz.prog [] (Instr.loadAt 123 (Value.pointer (some ad3))) w10 (Value.slice a11 n12 n13) ∧ R (Ending.returned (Value.slice a11 n12 n13)) w10) ∧
 (b6 = false → ∃ (a14 : Option Addr), ∃ (n15 : Nat), ∃ (n16 : Nat), Reads Proofs.Tryz.prog [] (Instr.loadAt 123 (Value.pointer (some ad3))) w5 (Value.slice a14 n15 n16) ∧ R (Ending.returned (Value.slice a14 n15 n16)) w5)
theorem f63_eq (t : Option Addr) (w : World) (R : Ending → World → Prop) : (fnF Go.Proofs.Tryz.prog h63 Go.Proofs.Tryz.f63 [Value.pointer t] w R).den = f63_vc t w R := by kernel_rfl
theorem f63_calls (t : Option Addr) (w : World) (R : Ending → World → Prop) (h : f63_vc t w R) : Calls Go.Proofs.Tryz.prog 63 (List.toArray [Value.pointer t]) w R :=
 fn_sound (H := h63) (fn := Go.Proofs.Tryz.f63) (by kernel_rfl) (by kernel_rfl) (by kernel_rfl) ((f63_eq t w R).mpr h)

/-! cmp.Compare[int64] -/
def h50 : Hints := ⟨[], [], [11, 12, 13, 16, 19], [], [], [], [], [], []⟩
def f50_vc (x : Int) (y : Int) (w : World) (R : Ending → World → Prop) : Prop :=
 Calls Proofs.Tryz.prog 69 #[Value.int IntKind.i64 x] w fun (e1 : Ending) (w2 : World) =>
 ∃ (b3 : Bool),
 e1 = Ending.returned (Value.bool b3) ∧
 Calls Proofs.Tryz.prog 69 #[Value.int IntKind.i64 y] w2 fun (e4 : Ending) (w5 : World) =>
 ∃ (b6 : Bool),
 e4 = Ending.returned (Value.bool b6) ∧
 (b3 = true → (b6 = true → R (Ending.returned (Value.int IntKind.i64 0)) w5) ∧ (b6 = false → R (Ending.returned (Value.int IntKind.i64 (-1))) w5)) ∧
 (b3 = false →
 (b6 = true → R (Ending.returned (Value.int IntKind.i64 1)) w5) ∧
 (b6 = false →
 (decide (x < y) = true → R (Ending.returned (Value.int IntKind.i64 (-1))) w5) ∧
 (decide (x < y) = false → (decide (x > y) = true → R (Ending.returned (Value.int IntKind.i64 1)) w5) ∧ (decide (x > y) = false → R (Ending.returned (Value.int IntKind.i64 0)) w5))))
theorem f50_eq (x : Int) (y : Int) (w : World) (R : Ending → World → Prop) : (fnF Go.Proofs.Tryz.prog h50 Go.Proofs.Tryz.f50 [Value.int IntKind.i64 x, Value.int IntKind.i64 y] w R).den = f50_vc x y w R := by kernel_rfl
theorem f50_calls (x : Int) (y : Int) (w : World) (R : Ending → World → Prop) (h : f50_vc x y w R) : Calls Go.Proofs.Tryz.prog 50 (List.toArray [Value.int IntKind.i64 x, Value.int IntKind.i64 y]) w R :=
 fn_sound (H := h50) (fn := Go.Proofs.Tryz.f50) (by kernel_rfl) (by kernel_rfl) (by kernel_rfl) ((f50_eq x y w R).mpr h)

/-! (*manciple/tree.Tree[manciple/sorter.place]).made -/
def h75 : Hints := ⟨[], [4, 7, 10], [5], [], [], [], [], [], []⟩
def f75_vc (t : Option Addr) (w : World) (R : Ending → World → Prop) : Prop :=
 ∃ (b1 : Bool),
 Gives Proofs.Tryz.prog (binOpS BinOp.neq 78 (Operand.tmp 3) (Operand.const (Value.pointer none)) (Value.pointer t) (Value.pointer none)) (Value.bool b1) ∧
 (b1 = true →
 ∃ (ad2 : Addr),
 t = some ad2 ∧
 ∃ (v3 : Value),
 Reads Proofs.Tryz.prog [] (Instr.loadAt 82 (Value.pointer (some ad2))) w v3 ∧
 ∃ (b4 : Bool), Gives Proofs.Tryz.prog (binOpS BinOp.neq 82 (Operand.tmp 9) (Operand.const Value.nilFunc) v3 Value.nilFunc) (Value.bool b4) ∧ R (Ending.returned (Value.bool b4)) w) ∧
 (b1 = false → R (Ending.returned (Value.bool false)) w)
theorem f75_eq (t : Option Addr) (w : World) (R : Ending → World → Prop) : (fnF Go.Proofs.Tryz.prog h75 Go.Proofs.Tryz.f75 [Value.pointer t] w R).den = f75_vc t w R := by kernel_rfl
theorem f75_calls (t : Option Addr) (w : World) (R : Ending → World → Prop) (h : f75_vc t w R) : Calls Go.Proofs.Tryz.prog 75 (List.toArray [Value.pointer t]) w R :=
 fn_sound (H := h75) (fn := Go.Proofs.Tryz.f75) (by kernel_rfl) (by kernel_rfl) (by kernel_rfl) ((f75_eq t w R).mpr h)

/-! (*manciple/tree.node[manciple/sorter.place]).each -/
def h76 : Hints := ⟨[], [5, 7, 14, 17, 19], [5], [], [], [], [], [], []⟩
def f76_vc (n : Option Addr) (do' : Value) (w : World) (R : Ending → World → Prop) : Prop :=
 ∃ (b1 : Bool),
 Gives Proofs.Tryz.prog (binOpS BinOp.neq 108 (Operand.tmp 4) (Operand.const (Value.pointer none)) (Value.pointer n) (Value.pointer none)) (Value.bool b1) ∧
 (b1 = true →
 ∃ (ad2 : Addr),
 n = some ad2 ∧
 ∃ (a3 : Option Addr),
 Reads Proofs.Tryz.prog [] (Instr.loadAt 108 (Value.pointer (some (Addr.mk ad2.block (ad2.off + 4) none)))) w (Value.pointer a3) ∧
 Calls Proofs.Tryz.prog 76 #[Value.pointer a3, do'] w fun (e4 : Ending) (w5 : World) =>
 e4 = Ending.returned (Value.tuple #[]) ∧
 ∃ (ad6 : Addr),
 n = some ad6 ∧
 ∃ (x7 : Int),
 ∃ (x8 : Int),
 ∃ (x9 : Int),
 ∃ (x10 : Int),
 Reads Proofs.Tryz.prog [] (Instr.loadAt 81 (Value.pointer (some ad6))) w5 (Value.agg #[Value.int IntKind.i64 x7, Value.int IntKind.i64 x8, Value.int IntKind.i64 x9, Value.int IntKind.i64 x10]) ∧
 OpW Proofs.Tryz.prog (invokeS do' #[Value.agg #[Value.int IntKind.i64 x7, Value.int IntKind.i64 x8, Value.int IntKind.i64 x9, Value.int IntKind.i64 x10]]) w5 fun (v11 : Value) (w12 : World) =>
 v11 = Value.tuple #[] ∧
 ∃ (ad13 : Addr),
 n = some ad13 ∧
 ∃ (a14 : Option Addr),
 Reads Proofs.Tryz.prog [] (Instr.loadAt 108 (Value.pointer (some (Addr.mk ad13.block (ad13.off + 5) none)))) w12 (Value.pointer a14) ∧
 Calls Proofs.Tryz.prog 76 #[Value.pointer a14, do'] w12 fun (e15 : Ending) (w16 : World) => e15 = Ending.returned (Value.tuple #[]) ∧ R (Ending.returned (Value.tuple #[])) w16) ∧
 (b1 = false → R (Ending.returned (Value.tuple #[])) w)
theorem f76_eq (n : Option Addr) (do' : Value) (w : World) (R : Ending → World → Prop) : (fnF Go.Proofs.Tryz.prog h76 Go.Proofs.Tryz.f76 [Value.pointer n, do'] w R).den = f76_vc n do' w R := by kernel_rfl
theorem f76_calls (n : Option Addr) (do' : Value) (w : World) (R : Ending → World → Prop) (h : f76_vc n do' w R) : Calls Go.Proofs.Tryz.prog 76 (List.toArray [Value.pointer n, do']) w R :=
 fn_sound (H := h76) (fn := Go.Proofs.Tryz.f76) (by kernel_rfl) (by kernel_rfl) (by kernel_rfl) ((f76_eq n do' w R).mpr h)

/-! (*manciple/tree.Tree[manciple/sorter.place]).All$1 -/
def h77 : Hints := ⟨[2], [], [], [], [], [], [], [], []⟩
def f77_vc (k_0 : Int) (k_1 : Int) (k_2 : Int) (k_3 : Int) (cap0 : Value) (w : World) (R : Ending → World → Prop) : Prop :=
 ∀ (n1 : Nat),
 w.heap.size ≤ n1 →
 ∃ (a2 : Option Addr),
 ∃ (n3 : Nat),
 ∃ (n4 : Nat),
 Reads Proofs.Tryz.prog [] (Instr.loadAt 123 cap0) w (Value.slice a2 n3 n4) ∧
 ∀ (w5 : World),
 Bel w w5 →
 Under [n1] w5 →
 OpW Proofs.Tryz.prog (valueS (Instr.buildSlice 123 1 #[(0, Value.agg #[Value.int IntKind.i64 k_0, Value.int IntKind.i64 k_1, Value.int IntKind.i64 k_2, Value.int IntKind.i64 k_3])])) w5 fun (v6 : Value) (w7 : World) =>
 ∃ (a8 : Option Addr),
 ∃ (n9 : Nat),
 ∃ (n10 : Nat),
 v6 = Value.slice a8 n9 n10 ∧
 Keeps [n1] w5 w7 ∧
 OpW Proofs.Tryz.prog (builtin Builtin.append #[123, 123] 123 #[false, false] #[Value.slice a2 n3 n4, Value.slice a8 n9 n10]) w7 fun (v11 : Value) (w12 : World) =>
 ∃ (a13 : Option Addr),
 ∃ (n14 : Nat),
 ∃ (n15 : Nat),
 v11 = Value.slice a13 n14 n15 ∧
 Keeps [n1] w7 w12 ∧
 OpW Proofs.Tryz.prog (skipS (Instr.storeAt 123 cap0 (Value.slice a13 n14 n15))) w12 fun (v16 : Value) (w17 : World) => Keeps [n1] w12 w17 ∧ R (Ending.returned (Value.tuple #[])) w17
theorem f77_eq (k_0 : Int) (k_1 : Int) (k_2 : Int) (k_3 : Int) (cap0 : Value) (w : World) (R : Ending → World → Prop) : (fnF Go.Proofs.Tryz.prog h77 Go.Proofs.Tryz.f77 [Value.agg #[Value.int IntKind.i64 k_0, Value.int IntKind.i64 k_1, Value.int IntKind.i64 k_2, Value.int IntKind.i64 k_3], cap0] w R).den = f77_vc k_0 k_1 k_2 k_3 cap0 w R := by kernel_rfl
theorem f77_calls (k_0 : Int) (k_1 : Int) (k_2 : Int) (k_3 : Int) (cap0 : Value) (w : World) (R : Ending → World → Prop) (h : f77_vc k_0 k_1 k_2 k_3 cap0 w R) : Calls Go.Proofs.Tryz.prog 77 (List.toArray [Value.agg #[Value.int IntKind.i64 k_0, Value.int IntKind.i64 k_1, Value.int IntKind.i64 k_2, Value.int IntKind.i64 k_3], cap0]) w R :=
 fn_sound (H := h77) (fn := Go.Proofs.Tryz.f77) (by kernel_rfl) (by kernel_rfl) (by kernel_rfl) ((f77_eq k_0 k_1 k_2 k_3 cap0 w R).mpr h)

/-! (*manciple/tree.Tree[manciple/sorter.place]).Drop -/
def h70 : Hints := ⟨[3], [13, 22], [9], [(3, [0, 1, 2, 3, 4, 5, 6, 7, 8, 9, 10, 11])], [], [], [], [], []⟩
def f70_vc (t : Option Addr) (k_0 : Int) (k_1 : Int) (k_2 : Int) (k_3 : Int) (w : World) (R : Ending → World → Prop) : Prop :=
 ∀ (n1 : Nat),
 w.heap.size ≤ n1 →
 ∀ (w2 : World),
 Bel w w2 →
 Under [n1] w2 →
 Calls Proofs.Tryz.prog 75 #[Value.pointer t] w2 fun (e3 : Ending) (w4 : World) =>
 ∃ (b5 : Bool),
 e3 = Ending.returned (Value.bool b5) ∧
 Keeps [n1] w2 w4 ∧
 ((!b5) = true → R (Ending.returned (Value.bool false)) w4) ∧
 ((!b5) = false →
 ∃ (ad6 : Addr),
 t = some ad6 ∧
 ∃ (a7 : Option Addr),
 Reads Proofs.Tryz.prog [] (Instr.loadAt 108 (Value.pointer (some (Addr.mk ad6.block (ad6.off + 1) none)))) w4 (Value.pointer a7) ∧
 ∀ (w8 : World),
 Bel w4 w8 →
 Under [n1] w8 →
 Calls Proofs.Tryz.prog 82 #[Value.pointer t, Value.pointer a7, Value.agg #[Value.int IntKind.i64 k_0, Value.int IntKind.i64 k_1, Value.int IntKind.i64 k_2, Value.int IntKind.i64 k_3]] w8
 fun (e9 : Ending) (w10 : World) =>
 ∃ (a11 : Option Addr),
 ∃ (b12 : Bool),
 e9 = Ending.returned (Value.tuple #[Value.pointer a11, Value.bool b12]) ∧
 Keeps [n1] w8 w10 ∧
 ∃ (ad13 : Addr),
 t = some ad13 ∧
 OpW Proofs.Tryz.prog (skipS (Instr.storeAt 108 (Value.pointer (some (Addr.mk ad13.block (ad13.off + 1) none))) (Value.pointer a11))) w10 fun (v14 : Value) (w15 : World) =>
 Keeps [n1] w10 w15 ∧ R (Ending.returned (Value.bool b12)) w15)
theorem f70_eq (t : Option Addr) (k_0 : Int) (k_1 : Int) (k_2 : Int) (k_3 : Int) (w : World) (R : Ending → World → Prop) : (fnF Go.Proofs.Tryz.prog h70 Go.Proofs.Tryz.f70 [Value.pointer t, Value.agg #[Value.int IntKind.i64 k_0, Value.int IntKind.i64 k_1, Value.int IntKind.i64 k_2, Value.int IntKind.i64 k_3]] w R).den = f70_vc t k_0 k_1 k_2 k_3 w R := by kernel_rfl
theorem f70_calls (t : Option Addr) (k_0 : Int) (k_1 : Int) (k_2 : Int) (k_3 : Int) (w : World) (R : Ending → World → Prop) (h : f70_vc t k_0 k_1 k_2 k_3 w R) : Calls Go.Proofs.Tryz.prog 70 (List.toArray [Value.pointer t, Value.agg #[Value.int IntKind.i64 k_0, Value.int IntKind.i64 k_1, Value.int IntKind.i64 k_2, Value.int IntKind.i64 k_3]]) w R :=
 fn_sound (H := h70) (fn := Go.Proofs.Tryz.f70) (by kernel_rfl) (by kernel_rfl) (by kernel_rfl) ((f70_eq t k_0 k_1 k_2 k_3 w R).mpr h)

/-! (*manciple/tree.Tree[manciple/sorter.place]).Put -/
def h72 : Hints := ⟨[3], [13, 22], [9], [(3, [0, 1, 2, 3, 4, 5, 6, 7, 8, 9, 10, 11])], [], [], [], [], []⟩
def f72_vc (t : Option Addr) (k_0 : Int) (k_1 : Int) (k_2 : Int) (k_3 : Int) (w : World) (R : Ending → World → Prop) : Prop :=
 ∀ (n1 : Nat),
 w.heap.size ≤ n1 →
 ∀ (w2 : World),
 Bel w w2 →
 Under [n1] w2 →
 Calls Proofs.Tryz.prog 75 #[Value.pointer t] w2 fun (e3 : Ending) (w4 : World) =>
 ∃ (b5 : Bool),
 e3 = Ending.returned (Value.bool b5) ∧
 Keeps [n1] w2 w4 ∧
 ((!b5) = true → R (Ending.returned (Value.bool false)) w4) ∧
 ((!b5) = false →
 ∃ (ad6 : Addr),
 t = some ad6 ∧
 ∃ (a7 : Option Addr),
 Reads Proofs.Tryz.prog [] (Instr.loadAt 108 (Value.pointer (some (Addr.mk ad6.block (ad6.off + 1) none)))) w4 (Value.pointer a7) ∧
 ∀ (w8 : World),
 Bel w4 w8 →
 Under [n1] w8 →
 Calls Proofs.Tryz.prog 84 #[Value.pointer t, Value.pointer a7, Value.agg #[Value.int IntKind.i64 k_0, Value.int IntKind.i64 k_1, Value.int IntKind.i64 k_2, Value.int IntKind.i64 k_3]] w8
 fun (e9 : Ending) (w10 : World) =>
 ∃ (a11 : Option Addr),
 ∃ (b12 : Bool),
 e9 = Ending.returned (Value.tuple #[Value.pointer a11, Value.bool b12]) ∧
 Keeps [n1] w8 w10 ∧
 ∃ (ad13 : Addr),
 t = some ad13 ∧
 OpW Proofs.Tryz.prog (skipS (Instr.storeAt 108 (Value.pointer (some (Addr.mk ad13.block (ad13.off + 1) none))) (Value.pointer a11))) w10 fun (v14 : Value) (w15 : World) =>
 Keeps [n1] w10 w15 ∧ R (Ending.returned (Value.bool b12)) w15)
theorem f72_eq (t : Option Addr) (k_0 : Int) (k_1 : Int) (k_2 : Int) (k_3 : Int) (w : World) (R : Ending → World → Prop) : (fnF Go.Proofs.Tryz.prog h72 Go.Proofs.Tryz.f72 [Value.pointer t, Value.agg #[Value.int IntKind.i64 k_0, Value.int IntKind.i64 k_1, Value.int IntKind.i64 k_2, Value.int IntKind.i64 k_3]] w R).den = f72_vc t k_0 k_1 k_2 k_3 w R := by kernel_rfl
theorem f72_calls (t : Option Addr) (k_0 : Int) (k_1 : Int) (k_2 : Int) (k_3 : Int) (w : World) (R : Ending → World → Prop) (h : f72_vc t k_0 k_1 k_2 k_3 w R) : Calls Go.Proofs.Tryz.prog 72 (List.toArray [Value.pointer t, Value.agg #[Value.int IntKind.i64 k_0, Value.int IntKind.i64 k_1, Value.int IntKind.i64 k_2, Value.int IntKind.i64 k_3]]) w R :=
 fn_sound (H := h72) (fn := Go.Proofs.Tryz.f72) (by kernel_rfl) (by kernel_rfl) (by kernel_rfl) ((f72_eq t k_0 k_1 k_2 k_3 w R).mpr h)

/-! cmp.isNaN[int64] -/
def h69 : Hints := ⟨[], [], [], [], [], [], [], [], []⟩
def f69_vc (x : Int) (w : World) (R : Ending → World → Prop) : Prop :=
 R (Ending.returned (Value.bool (x != x))) w
theorem f69_eq (x : Int) (w : World) (R : Ending → World → Prop) : (fnF Go.Proofs.Tryz.prog h69 Go.Proofs.Tryz.f69 [Value.int IntKind.i64 x] w R).den = f69_vc x w R := by kernel_rfl
theorem f69_calls (x : Int) (w : World) (R : Ending → World → Prop) (h : f69_vc x w R) : Calls Go.Proofs.Tryz.prog 69 (List.toArray [Value.int IntKind.i64 x]) w R :=
 fn_sound (H := h69) (fn := Go.Proofs.Tryz.f69) (by kernel_rfl) (by kernel_rfl) (by kernel_rfl) ((f69_eq x w R).mpr h)

/-! (*manciple/tree.Tree[manciple/sorter.place]).drop -/
def h82 : Hints := ⟨[5], [11, 13, 18, 21, 43, 50, 59, 66, 70, 73, 75, 80, 83, 85, 26, 32, 34], [11, 36, 52, 68, 78], [(4, [0, 1, 2, 3, 4, 5, 6, 7, 8, 9, 10]), (7, [0, 1, 2, 3, 4, 5, 6, 7, 8, 9, 10, 11, 12, 13, 14]), (9, [0, 1, 2, 3, 4, 5, 6, 7, 8, 9, 10, 11, 12, 13, 14])], [], [], [], [], []⟩
def f82_vc (t : Option Addr) (n : Option Addr) (k_0 : Int) (k_1 : Int) (k_2 : Int) (k_3 : Int) (w : World) (R : Ending → World → Prop) : Prop :=
 ∀ (n1 : Nat),
 w.heap.size ≤ n1 →
 ∃ (b2 : Bool),
 Gives Proofs.Tryz.prog (binOpS BinOp.eql 108 (Operand.tmp 10) (Operand.const (Value.pointer none)) (Value.pointer n) (Value.pointer none)) (Value.bool b2) ∧
 (b2 = true → ∀ (w3 : World), Bel w w3 → Under [n1] w3 → R (Ending.returned (Value.tuple #[Value.pointer none, Value.bool false])) w3) ∧
 (b2 = false →
 ∃ (ad4 : Addr),
 t = some ad4 ∧
 ∃ (v5 : Value),
 Reads Proofs.Tryz.prog [] (Instr.loadAt 82 (Value.pointer (some ad4))) w v5 ∧
 ∃ (ad6 : Addr),
 n = some ad6 ∧
 ∃ (x7 : Int),
 ∃ (x8 : Int),
 ∃ (x9 : Int),
 ∃ (x10 : Int),
 Reads Proofs.Tryz.prog [] (Instr.loadAt 81 (Value.pointer (some ad6))) w (Value.agg #[Value.int IntKind.i64 x7, Value.int IntKind.i64 x8, Value.int IntKind.i64 x9, Value.int IntKind.i64 x10]) ∧
 ∀ (w11 : World),
 Bel w w11 →
 Under [n1] w11 →
 OpW Proofs.Tryz.prog
 (invokeS v5
 #[Value.agg #[Value.int IntKind.i64 k_0, Value.int IntKind.i64 k_1, Value.int IntKind.i64 k_2, Value.int IntKind.i64 k_3],
 Value.agg #[Value.int IntKind.i64 x7, Value.int IntKind.i64 x8, Value.int IntKind.i64 x9, Value.int IntKind.i64 x10]])
 w11 fun (v12 : Value) (w13 : World) =>
 ∃ (x14 : Int),
 v12 = Value.int IntKind.i64 x14 ∧
 Keeps [n1] w11 w13 ∧
 (decide (x14 < 0) = true →
 ∃ (ad15 : Addr),
 n = some ad15 ∧
 ∃ (a16 : Option Addr),
 Reads Proofs.Tryz.prog [] (Instr.loadAt 108 (Value.pointer (some (Addr.mk ad15.block (ad15.off + 4) none)))) w13 (Value.pointer a16) ∧
 ∀ (w17 : World),
 Bel w13 w17 →
 Under [n1] w17 →
 Calls Proofs.Tryz.prog 82
 #[Value.pointer t, Value.pointer a16, Value.agg #[Value.int IntKind.i64 k_0, Value.int IntKind.i64 k_1, Value.int IntKind.i64 k_2, Value.int IntKind.i64 k_3]] w17
 fun (e18 : Ending) (w19 : World) =>
 ∃ (a20 : Option Addr),
 ∃ (b21 : Bool),
 e18 = Ending.returned (Value.tuple #[Value.pointer a20, Value.bool b21]) ∧
 Keeps [n1] w17 w19 ∧
 ∃ (ad22 : Addr),
 n = some ad22 ∧
 OpW Proofs.Tryz.prog (skipS (Instr.storeAt 108 (Value.pointer (some (Addr.mk ad22.block (ad22.off + 4) none))) (Value.pointer a20))) w19
 fun (v23 : Value) (w24 : World) =>
 Keeps [n1] w19 w24 ∧
 Calls Proofs.Tryz.prog 90 #[Value.pointer n] w24 fun (e25 : Ending) (w26 : World) =>
 ∃ (a27 : Option Addr),
 e25 = Ending.returned (Value.pointer a27) ∧ Keeps [n1] w24 w26 ∧ R (Ending.returned (Value.tuple #[Value.pointer a27, Value.bool b21])) w26) ∧
 (decide (x14 < 0) = false →
 (decide (x14 > 0) = true →
 ∃ (ad28 : Addr),
 n = some ad28 ∧
 ∃ (a29 : Option Addr),
 Reads Proofs.Tryz.prog [] (Instr.loadAt 108 (Value.pointer (some (Addr.mk ad28.block (ad28.off + 5) none)))) w13 (Value.pointer a29) ∧
 ∀ (w30 : World),
 Bel w13 w30 →
 Under [n1] w30 →
 Calls Proofs.Tryz.prog 82
 #[Value.pointer t, Value.pointer a29, Value.agg #[Value.int IntKind.i64 k_0, Value.int IntKind.i64 k_1, Value.int IntKind.i64 k_2, Value.int IntKind.i64 k_3]] w30
 fun (e31 : Ending) (w32 : World) =>
 ∃ (a33 : Option Addr),
 ∃ (b34 : Bool),
 e31 = Ending.returned (Value.tuple #[Value.pointer a33, Value.bool b34]) ∧
 Keeps [n1] w30 w32 ∧
 ∃ (ad35 : Addr),
 n = some ad35 ∧
 OpW Proofs.Tryz.prog (skipS (Instr.storeAt 108 (Value.pointer (some (Addr.mk ad35.block (ad35.off + 5) none))) (Value.pointer a33))) w32
 fun (v36 : Value) (w37 : World) =>
 Keeps [n1] w32 w37 ∧
 Calls Proofs.Tryz.prog 90 #[Value.pointer n] w37 fun (e38 : Ending) (w39 : World) =>
 ∃ (a40 : Option Addr),
 e38 = Ending.returned (Value.pointer a40) ∧ Keeps [n1] w37 w39 ∧ R (Ending.returned (Value.tuple #[Value.pointer a40, Value.bool b34])) w39) ∧
 (decide (x14 > 0) = false →
 ∃ (ad41 : Addr),
 n = some ad41 ∧
 ∃ (a42 : Option Addr),
 Reads Proofs.Tryz.prog [] (Instr.loadAt 108 (Value.pointer (some (Addr.mk ad41.block (ad41.off + 4) none)))) w13 (Value.pointer a42) ∧
 ∃ (b43 : Bool),
 Gives Proofs.Tryz.prog (binOpS BinOp.eql 108 (Operand.tmp 72) (Operand.const (Value.pointer none)) (Value.pointer a42) (Value.pointer none)) (Value.bool b43) ∧
 (b43 = true →
 ∃ (ad44 : Addr),
 n = some ad44 ∧
 ∃ (a45 : Option Addr),
 Reads Proofs.Tryz.prog [] (Instr.loadAt 108 (Value.pointer (some (Addr.mk ad44.block (ad44.off + 5) none)))) w13 (Value.pointer a45) ∧
 R (Ending.returned (Value.tuple #[Value.pointer a45, Value.bool true])) w13) ∧
 (b43 = false →
 ∃ (ad46 : Addr),
 n = some ad46 ∧
 ∃ (a47 : Option Addr),
 Reads Proofs.Tryz.prog [] (Instr.loadAt 108 (Value.pointer (some (Addr.mk ad46.block (ad46.off + 5) none)))) w13 (Value.pointer a47) ∧
 ∃ (b48 : Bool),
 Gives Proofs.Tryz.prog (binOpS BinOp.eql 108 (Operand.tmp 82) (Operand.const (Value.pointer none)) (Value.pointer a47) (Value.pointer none))
 (Value.bool b48) ∧
 (b48 = true →
 ∃ (ad49 : Addr),
 n = some ad49 ∧
 ∃ (a50 : Option Addr),
 Reads Proofs.Tryz.prog [] (Instr.loadAt 108 (Value.pointer (some (Addr.mk ad49.block (ad49.off + 4) none)))) w13 (Value.pointer a50) ∧
 R (Ending.returned (Value.tuple #[Value.pointer a50, Value.bool true])) w13) ∧
 (b48 = false →
 ∃ (ad51 : Addr),
 n = some ad51 ∧
 ∃ (a52 : Option Addr),
 Reads Proofs.Tryz.prog [] (Instr.loadAt 108 (Value.pointer (some (Addr.mk ad51.block (ad51.off + 5) none)))) w13 (Value.pointer a52) ∧
 Calls Proofs.Tryz.prog 89 #[Value.pointer a52] w13 fun (e53 : Ending) (w54 : World) =>
 ∃ (a55 : Option Addr),
 ∃ (x56 : Int),
 ∃ (x57 : Int),
 ∃ (x58 : Int),
 ∃ (x59 : Int),
 e53 =
 Ending.returned
 (Value.tuple
 #[Value.pointer a55,
 Value.agg
 #[Value.int IntKind.i64 x56, Value.int IntKind.i64 x57, Value.int IntKind.i64 x58, Value.int IntKind.i64 x59]]) ∧
 Keeps [n1] w13 w54 ∧
 ∃ (ad60 : Addr),
 n = some ad60 ∧
 OpW Proofs.Tryz.prog
 (skipS (Instr.storeAt 108 (Value.pointer (some (Addr.mk ad60.block (ad60.off + 5) none))) (Value.pointer a55))) w54
 fun (v61 : Value) (w62 : World) =>
 Keeps [n1] w54 w62 ∧
 ∃ (ad63 : Addr),
 n = some ad63 ∧
 OpW Proofs.Tryz.prog
 (skipS
 (Instr.storeAt 81 (Value.pointer (some ad63))
 (Value.agg
 #[Value.int IntKind.i64 x56, Value.int IntKind.i64 x57, Value.int IntKind.i64 x58,
 Value.int IntKind.i64 x59])))
 w62 fun (v64 : Value) (w65 : World) =>
 Keeps [n1] w62 w65 ∧
 Calls Proofs.Tryz.prog 90 #[Value.pointer n] w65 fun (e66 : Ending) (w67 : World) =>
 ∃ (a68 : Option Addr),
 e66 = Ending.returned (Value.pointer a68) ∧
 Keeps [n1] w65 w67 ∧ R (Ending.returned (Value.tuple #[Value.pointer a68, Value.bool true])) w67)))))
theorem f82_eq (t : Option Addr) (n : Option Addr) (k_0 : Int) (k_1 : Int) (k_2 : Int) (k_3 : Int) (w : World) (R : Ending → World → Prop) : (fnF Go.Proofs.Tryz.prog h82 Go.Proofs.Tryz.f82 [Value.pointer t, Value.pointer n, Value.agg #[Value.int IntKind.i64 k_0, Value.int IntKind.i64 k_1, Value.int IntKind.i64 k_2, Value.int IntKind.i64 k_3]] w R).den = f82_vc t n k_0 k_1 k_2 k_3 w R := by kernel_rfl
theorem f82_calls (t : Option Addr) (n : Option Addr) (k_0 : Int) (k_1 : Int) (k_2 : Int) (k_3 : Int) (w : World) (R : Ending → World → Prop) (h : f82_vc t n k_0 k_1 k_2 k_3 w R) : Calls Go.Proofs.Tryz.prog 82 (List.toArray [Value.pointer t, Value.pointer n, Value.agg #[Value.int IntKind.i64 k_0, Value.int IntKind.i64 k_1, Value.int IntKind.i64 k_2, Value.int IntKind.i64 k_3]]) w R :=
 fn_sound (H := h82) (fn := Go.Proofs.Tryz.f82) (by kernel_rfl) (by kernel_rfl) (by kernel_rfl) ((f82_eq t n k_0 k_1 k_2 k_3 w R).mpr h)

/-! (*manciple/tree.Tree[manciple/sorter.place]).put -/
def h84 : Hints := ⟨[5], [11, 16, 21, 24, 32, 39, 48, 55], [11, 25, 41], [(4, [0, 1, 2, 3, 4, 5, 6, 7, 8, 9, 10]), (6, [0, 1, 2, 3, 4, 5, 6, 7, 8, 9, 10, 11, 12, 13, 14]), (8, [0, 1, 2, 3, 4, 5, 6, 7, 8, 9, 10, 11, 12, 13, 14])], [], [], [], [], []⟩
def f84_vc (t : Option Addr) (n : Option Addr) (k_0 : Int) (k_1 : Int) (k_2 : Int) (k_3 : Int) (w : World) (R : Ending → World → Prop) : Prop :=
 ∀ (n1 : Nat),
 w.heap.size ≤ n1 →
 ∃ (b2 : Bool),
 Gives Proofs.Tryz.prog (binOpS BinOp.eql 108 (Operand.tmp 10) (Operand.const (Value.pointer none)) (Value.pointer n) (Value.pointer none)) (Value.bool b2) ∧
 (b2 = true →
 ∀ (w3 : World),
 Bel w w3 →
 Under [n1] w3 →
 OpW Proofs.Tryz.prog
 (valueS
 (Instr.box 146
 (Value.agg #[Value.int IntKind.i64 k_0, Value.int IntKind.i64 k_1, Value.int IntKind.i64 k_2, Value.int IntKind.i64 k_3, Value.pointer none, Value.pointer none, Value.int IntKind.i64 1, Value.int IntKind.i64 1])))
 w3 fun (v4 : Value) (w5 : World) => ∃ (ad6 : Addr), v4 = Value.pointer (some ad6) ∧ Keeps [n1] w3 w5 ∧ R (Ending.returned (Value.tuple #[Value.pointer (some ad6), Value.bool true])) w5) ∧
 (b2 = false →
 ∃ (ad7 : Addr),
 t = some ad7 ∧
 ∃ (v8 : Value),
 Reads Proofs.Tryz.prog [] (Instr.loadAt 82 (Value.pointer (some ad7))) w v8 ∧
 ∃ (ad9 : Addr),
 n = some ad9 ∧
 ∃ (x10 : Int),
 ∃ (x11 : Int),
 ∃ (x12 : Int),
 ∃ (x13 : Int),
 Reads Proofs.Tryz.prog [] (Instr.loadAt 81 (Value.pointer (some ad9))) w (Value.agg #[Value.int IntKind.i64 x10, Value.int IntKind.i64 x11, Value.int IntKind.i64 x12, Value.int IntKind.i64 x13]) ∧
 ∀ (w14 : World),
 Bel w w14 →
 Under [n1] w14 →
 OpW Proofs.Tryz.prog
 (invokeS v8
 #[Value.agg #[Value.int IntKind.i64 k_0, Value.int IntKind.i64 k_1, Value.int IntKind.i64 k_2, Value.int IntKind.i64 k_3],
 Value.agg #[Value.int IntKind.i64 x10, Value.int IntKind.i64 x11, Value.int IntKind.i64 x12, Value.int IntKind.i64 x13]])
 w14 fun (v15 : Value) (w16 : World) =>
 ∃ (x17 : Int),
 v15 = Value.int IntKind.i64 x17 ∧
 Keeps [n1] w14 w16 ∧
 (decide (x17 < 0) = true →
 ∃ (ad18 : Addr),
 n = some ad18 ∧
 ∃ (a19 : Option Addr),
 Reads Proofs.Tryz.prog [] (Instr.loadAt 108 (Value.pointer (some (Addr.mk ad18.block (ad18.off + 4) none)))) w16 (Value.pointer a19) ∧
 ∀ (w20 : World),
 Bel w16 w20 →
 Under [n1] w20 →
 Calls Proofs.Tryz.prog 84
 #[Value.pointer t, Value.pointer a19, Value.agg #[Value.int IntKind.i64 k_0, Value.int IntKind.i64 k_1, Value.int IntKind.i64 k_2, Value.int IntKind.i64 k_3]] w20
 fun (e21 : Ending) (w22 : World) =>
 ∃ (a23 : Option Addr),
 ∃ (b24 : Bool),
 e21 = Ending.returned (Value.tuple #[Value.pointer a23, Value.bool b24]) ∧
 Keeps [n1] w20 w22 ∧
 ∃ (ad25 : Addr),
 n = some ad25 ∧
 OpW Proofs.Tryz.prog (skipS (Instr.storeAt 108 (Value.pointer (some (Addr.mk ad25.block (ad25.off + 4) none))) (Value.pointer a23))) w22
 fun (v26 : Value) (w27 : World) =>
 Keeps [n1] w22 w27 ∧
 Calls Proofs.Tryz.prog 90 #[Value.pointer n] w27 fun (e28 : Ending) (w29 : World) =>
 ∃ (a30 : Option Addr),
 e28 = Ending.returned (Value.pointer a30) ∧ Keeps [n1] w27 w29 ∧ R (Ending.returned (Value.tuple #[Value.pointer a30, Value.bool b24])) w29) ∧
 (decide (x17 < 0) = false →
 (decide (x17 > 0) = true →
 ∃ (ad31 : Addr),
 n = some ad31 ∧
 ∃ (a32 : Option Addr),
 Reads Proofs.Tryz.prog [] (Instr.loadAt 108 (Value.pointer (some (Addr.mk ad31.block (ad31.off + 5) none)))) w16 (Value.pointer a32) ∧
 ∀ (w33 : World),
 Bel w16 w33 →
 Under [n1] w33 →
 Calls Proofs.Tryz.prog 84
 #[Value.pointer t, Value.pointer a32, Value.agg #[Value.int IntKind.i64 k_0, Value.int IntKind.i64 k_1, Value.int IntKind.i64 k_2, Value.int IntKind.i64 k_3]] w33
 fun (e34 : Ending) (w35 : World) =>
 ∃ (a36 : Option Addr),
 ∃ (b37 : Bool),
 e34 = Ending.returned (Value.tuple #[Value.pointer a36, Value.bool b37]) ∧
 Keeps [n1] w33 w35 ∧
 ∃ (ad38 : Addr),
 n = some ad38 ∧
 OpW Proofs.Tryz.prog (skipS (Instr.storeAt 108 (Value.pointer (some (Addr.mk ad38.block (ad38.off + 5) none))) (Value.pointer a36))) w35
 fun (v39 : Value) (w40 : World) =>
 Keeps [n1] w35 w40 ∧
 Calls Proofs.Tryz.prog 90 #[Value.pointer n] w40 fun (e41 : Ending) (w42 : World) =>
 ∃ (a43 : Option Addr),
 e41 = Ending.returned (Value.pointer a43) ∧ Keeps [n1] w40 w42 ∧ R (Ending.returned (Value.tuple #[Value.pointer a43, Value.bool b37])) w42) ∧
 (decide (x17 > 0) = false →
 Calls Proofs.Tryz.prog 90 #[Value.pointer n] w16 fun (e44 : Ending) (w45 : World) =>
 ∃ (a46 : Option Addr), e44 = Ending.returned (Value.pointer a46) ∧ Keeps [n1] w16 w45 ∧ R (Ending.returned (Value.tuple #[Value.pointer a46, Value.bool false])) w45)))
theorem f84_eq (t : Option Addr) (n : Option Addr) (k_0 : Int) (k_1 : Int) (k_2 : Int) (k_3 : Int) (w : World) (R : Ending → World → Prop) : (fnF Go.Proofs.Tryz.prog h84 Go.Proofs.Tryz.f84 [Value.pointer t, Value.pointer n, Value.agg #[Value.int IntKind.i64 k_0, Value.int IntKind.i64 k_1, Value.int IntKind.i64 k_2, Value.int IntKind.i64 k_3]] w R).den = f84_vc t n k_0 k_1 k_2 k_3 w R := by kernel_rfl
theorem f84_calls (t : Option Addr) (n : Option Addr) (k_0 : Int) (k_1 : Int) (k_2 : Int) (k_3 : Int) (w : World) (R : Ending → World → Prop) (h : f84_vc t n k_0 k_1 k_2 k_3 w R) : Calls Go.Proofs.Tryz.prog 84 (List.toArray [Value.pointer t, Value.pointer n, Value.agg #[Value.int IntKind.i64 k_0, Value.int IntKind.i64 k_1, Value.int IntKind.i64 k_2, Value.int IntKind.i64 k_3]]) w R :=
 fn_sound (H := h84) (fn := Go.Proofs.Tryz.f84) (by kernel_rfl) (by kernel_rfl) (by kernel_rfl) ((f84_eq t n k_0 k_1 k_2 k_3 w R).mpr h)

/-! (*manciple/tree.node[manciple/sorter.place]).size -/
def h100 : Hints := ⟨[], [4, 6], [4], [], [], [], [], [], []⟩
def f100_vc (n : Option Addr) (w : World) (R : Ending → World → Prop) : Prop :=
 ∃ (b1 : Bool),
 Gives Proofs.Tryz.prog (binOpS BinOp.eql 108 (Operand.tmp 3) (Operand.const (Value.pointer none)) (Value.pointer n) (Value.pointer none)) (Value.bool b1) ∧
 (b1 = true → R (Ending.returned (Value.int IntKind.i64 0)) w) ∧
 (b1 = false →
 ∃ (ad2 : Addr), n = some ad2 ∧ ∃ (x3 : Int), Reads Proofs.Tryz.prog [] (Instr.loadAt 3 (Value.pointer (some (Addr.mk ad2.block (ad2.off + 6) none)))) w (Value.int IntKind.i64 x3) ∧ R (Ending.returned (Value.int IntKind.i64 x3)) w)
theorem f100_eq (n : Option Addr) (w : World) (R : Ending → World → Prop) : (fnF Go.Proofs.Tryz.prog h100 Go.Proofs.Tryz.f100 [Value.pointer n] w R).den = f100_vc n w R := by kernel_rfl
theorem f100_calls (n : Option Addr) (w : World) (R : Ending → World → Prop) (h : f100_vc n w R) : Calls Go.Proofs.Tryz.prog 100 (List.toArray [Value.pointer n]) w R :=
 fn_sound (H := h100) (fn := Go.Proofs.Tryz.f100) (by kernel_rfl) (by kernel_rfl) (by kernel_rfl) ((f100_eq n w R).mpr h)

/-! (*manciple/tree.node[manciple/sorter.place]).least -/
def h89 : Hints := ⟨[3, 4], [6, 9, 11, 15, 21, 27], [9], [(2, [0, 1, 2, 3, 4, 5, 6, 7, 8, 9]), (5, [0, 2, 1, 3, 4])], [], [], [], [], []⟩
def f89_vc (n : Option Addr) (w : World) (R : Ending → World → Prop) : Prop :=
 ∀ (n1 : Nat),
 w.heap.size ≤ n1 →
 ∃ (ad2 : Addr),
 n = some ad2 ∧
 ∃ (a3 : Option Addr),
 Reads Proofs.Tryz.prog [] (Instr.loadAt 108 (Value.pointer (some (Addr.mk ad2.block (ad2.off + 4) none)))) w (Value.pointer a3) ∧
 ∃ (b4 : Bool),
 Gives Proofs.Tryz.prog (binOpS BinOp.eql 108 (Operand.tmp 8) (Operand.const (Value.pointer none)) (Value.pointer a3) (Value.pointer none)) (Value.bool b4) ∧
 (b4 = true →
 ∃ (ad5 : Addr),
 n = some ad5 ∧
 ∃ (a6 : Option Addr),
 Reads Proofs.Tryz.prog [] (Instr.loadAt 108 (Value.pointer (some (Addr.mk ad5.block (ad5.off + 5) none)))) w (Value.pointer a6) ∧
 ∃ (ad7 : Addr),
 n = some ad7 ∧
 ∃ (x8 : Int),
 ∃ (x9 : Int),
 ∃ (x10 : Int),
 ∃ (x11 : Int),
 Reads Proofs.Tryz.prog [] (Instr.loadAt 81 (Value.pointer (some ad7))) w (Value.agg #[Value.int IntKind.i64 x8, Value.int IntKind.i64 x9, Value.int IntKind.i64 x10, Value.int IntKind.i64 x11]) ∧
 ∀ (w12 : World),
 Evo [n1] w w12 →
 Under [n1] w12 →
 R (Ending.returned (Value.tuple #[Value.pointer a6, Value.agg #[Value.int IntKind.i64 x8, Value.int IntKind.i64 x9, Value.int IntKind.i64 x10, Value.int IntKind.i64 x11]])) w12) ∧
 (b4 = false →
 ∀ (n13 : Nat),
 w.heap.size ≤ n13 →
 ∃ (ad14 : Addr),
 n = some ad14 ∧
 ∃ (a15 : Option Addr),
 Reads Proofs.Tryz.prog [] (Instr.loadAt 108 (Value.pointer (some (Addr.mk ad14.block (ad14.off + 4) none)))) w (Value.pointer a15) ∧
 ∀ (w16 : World),
 Bel w w16 →
 Under [n1, n13] w16 →
 Calls Proofs.Tryz.prog 89 #[Value.pointer a15] w16 fun (e17 : Ending) (w18 : World) =>
 ∃ (a19 : Option Addr),
 ∃ (x20 : Int),
 ∃ (x21 : Int),
 ∃ (x22 : Int),
 ∃ (x23 : Int),
 e17 = Ending.returned (Value.tuple #[Value.pointer a19, Value.agg #[Value.int IntKind.i64 x20, Value.int IntKind.i64 x21, Value.int IntKind.i64 x22, Value.int IntKind.i64 x23]]) ∧
 Keeps [n1, n13] w16 w18 ∧
 ∃ (ad24 : Addr),
 n = some ad24 ∧
 OpW Proofs.Tryz.prog (skipS (Instr.storeAt 108 (Value.pointer (some (Addr.mk ad24.block (ad24.off + 4) none))) (Value.pointer a19))) w18 fun (v25 : Value) (w26 : World) =>
 Keeps [n1, n13] w18 w26 ∧
 ∀ (w27 : World),
 Evo [n13] w26 w27 →
 Under [n1, n13] w27 →
 Calls Proofs.Tryz.prog 90 #[Value.pointer n] w27 fun (e28 : Ending) (w29 : World) =>
 ∃ (a30 : Option Addr),
 e28 = Ending.returned (Value.pointer a30) ∧
 Keeps [n1, n13] w27 w29 ∧
 ∀ (w31 : World),
 Evo [n1] w29 w31 →
 Under [n1, n13] w31 →
 R
 (Ending.returned
 (Value.tuple
 #[Value.pointer a30, Value.agg #[Value.int IntKind.i64 x20, Value.int IntKind.i64 x21, Value.int IntKind.i64 x22, Value.int IntKind.i64 x23]]))
 w31)
theorem f89_eq (n : Option Addr) (w : World) (R : Ending → World → Prop) : (fnF Go.Proofs.Tryz.prog h89 Go.Proofs.Tryz.f89 [Value.pointer n] w R).den = f89_vc n w R := by kernel_rfl
theorem f89_calls (n : Option Addr) (w : World) (R : Ending → World → Prop) (h : f89_vc n w R) : Calls Go.Proofs.Tryz.prog 89 (List.toArray [Value.pointer n]) w R :=
 fn_sound (H := h89) (fn := Go.Proofs.Tryz.f89) (by kernel_rfl) (by kernel_rfl) (by kernel_rfl) ((f89_eq n w R).mpr h)

/-! (*manciple/tree.node[manciple/sorter.place]).even -/
def h90 : Hints := ⟨[], [5, 10, 19, 22, 27, 30, 37, 41, 49, 52, 57, 60, 67, 71], [15, 34, 45, 64], [(1, [0, 1, 2, 3, 5, 6, 7, 8, 4, 9, 10, 11]), (3, [0, 1, 2, 3, 4, 5, 6, 8, 9, 10, 11, 12, 13, 14, 7, 15, 16]), (7, [0, 1, 2, 3, 4, 5, 6, 8, 9, 10, 11, 12, 13, 14, 7, 15, 16])], [], [], [], [], []⟩
def f90_vc (n : Option Addr) (w : World) (R : Ending → World → Prop) : Prop :=
 ∃ (ad1 : Addr),
 n = some ad1 ∧
 ∃ (a2 : Option Addr),
 Reads Proofs.Tryz.prog [] (Instr.loadAt 108 (Value.pointer (some (Addr.mk ad1.block (ad1.off + 4) none)))) w (Value.pointer a2) ∧
 ∃ (ad3 : Addr),
 n = some ad3 ∧
 ∃ (a4 : Option Addr),
 Reads Proofs.Tryz.prog [] (Instr.loadAt 108 (Value.pointer (some (Addr.mk ad3.block (ad3.off + 5) none)))) w (Value.pointer a4) ∧
 ∀ (w5 : World),
 Bel w w5 →
 Calls Proofs.Tryz.prog 96 #[Value.pointer a2] w5 fun (e6 : Ending) (w7 : World) =>
 ∃ (x8 : Int),
 e6 = Ending.returned (Value.int IntKind.i64 x8) ∧
 Reads Proofs.Tryz.prog [] (Instr.loadAt 108 (Value.pointer (some (Addr.mk ad3.block (ad3.off + 5) none)))) w7 (Value.pointer a4) ∧
 Calls Proofs.Tryz.prog 96 #[Value.pointer a4] w7 fun (e9 : Ending) (w10 : World) =>
 ∃ (x11 : Int),
 e9 = Ending.returned (Value.int IntKind.i64 x11) ∧
 (decide (IntKind.i64.wrap (x8 - x11) > 1) = true →
 ∃ (ad12 : Addr),
 n = some ad12 ∧
 ∃ (a13 : Option Addr),
 Reads Proofs.Tryz.prog [] (Instr.loadAt 108 (Value.pointer (some (Addr.mk ad12.block (ad12.off + 4) none)))) w10 (Value.pointer a13) ∧
 ∃ (ad14 : Addr),
 a13 = some ad14 ∧
 ∃ (a15 : Option Addr),
 Reads Proofs.Tryz.prog [] (Instr.loadAt 108 (Value.pointer (some (Addr.mk ad14.block (ad14.off + 4) none)))) w10 (Value.pointer a15) ∧
 ∃ (ad16 : Addr),
 n = some ad16 ∧
 ∃ (a17 : Option Addr),
 Reads Proofs.Tryz.prog [] (Instr.loadAt 108 (Value.pointer (some (Addr.mk ad16.block (ad16.off + 4) none)))) w10 (Value.pointer a17) ∧
 ∃ (ad18 : Addr),
 a17 = some ad18 ∧
 ∃ (a19 : Option Addr),
 Reads Proofs.Tryz.prog [] (Instr.loadAt 108 (Value.pointer (some (Addr.mk ad18.block (ad18.off + 5) none)))) w10 (Value.pointer a19) ∧
 ∀ (w20 : World),
 Bel w10 w20 →
 Calls Proofs.Tryz.prog 96 #[Value.pointer a15] w20 fun (e21 : Ending) (w22 : World) =>
 ∃ (x23 : Int),
 e21 = Ending.returned (Value.int IntKind.i64 x23) ∧
 Reads Proofs.Tryz.prog [] (Instr.loadAt 108 (Value.pointer (some (Addr.mk ad18.block (ad18.off + 5) none)))) w22 (Value.pointer a19) ∧
 Reads Proofs.Tryz.prog [] (Instr.loadAt 108 (Value.pointer (some (Addr.mk ad16.block (ad16.off + 4) none)))) w22 (Value.pointer a17) ∧
 Reads Proofs.Tryz.prog [] (Instr.loadAt 108 (Value.pointer (some (Addr.mk ad12.block (ad12.off + 4) none)))) w22 (Value.pointer a13) ∧
 Calls Proofs.Tryz.prog 96 #[Value.pointer a19] w22 fun (e24 : Ending) (w25 : World) =>
 ∃ (x26 : Int),
 e24 = Ending.returned (Value.int IntKind.i64 x26) ∧
 Reads Proofs.Tryz.prog [] (Instr.loadAt 108 (Value.pointer (some (Addr.mk ad16.block (ad16.off + 4) none)))) w25 (Value.pointer a17) ∧
 Reads Proofs.Tryz.prog [] (Instr.loadAt 108 (Value.pointer (some (Addr.mk ad12.block (ad12.off + 4) none)))) w25 (Value.pointer a13) ∧
 (decide (x23 < x26) = true →
 ∃ (ad27 : Addr),
 n = some ad27 ∧
 ∃ (a28 : Option Addr),
 Reads Proofs.Tryz.prog [] (Instr.loadAt 108 (Value.pointer (some (Addr.mk ad27.block (ad27.off + 4) none)))) w25 (Value.pointer a28) ∧
 Calls Proofs.Tryz.prog 97 #[Value.pointer a28] w25 fun (e29 : Ending) (w30 : World) =>
 ∃ (a31 : Option Addr),
 e29 = Ending.returned (Value.pointer a31) ∧
 ∃ (ad32 : Addr),
 n = some ad32 ∧
 OpW Proofs.Tryz.prog
 (skipS (Instr.storeAt 108 (Value.pointer (some (Addr.mk ad32.block (ad32.off + 4) none))) (Value.pointer a31))) w30
 fun (v33 : Value) (w34 : World) =>
 Calls Proofs.Tryz.prog 98 #[Value.pointer n] w34 fun (e35 : Ending) (w36 : World) =>
 ∃ (a37 : Option Addr), e35 = Ending.returned (Value.pointer a37) ∧ R (Ending.returned (Value.pointer a37)) w36) ∧
 (decide (x23 < x26) = false →
 Calls Proofs.Tryz.prog 98 #[Value.pointer n] w25 fun (e38 : Ending) (w39 : World) =>
 ∃ (a40 : Option Addr), e38 = Ending.returned (Value.pointer a40) ∧ R (Ending.returned (Value.pointer a40)) w39)) ∧
 (decide (IntKind.i64.wrap (x8 - x11) > 1) = false →
 (decide (IntKind.i64.wrap (x8 - x11) < -1) = true →
 ∃ (ad41 : Addr),
 n = some ad41 ∧
 ∃ (a42 : Option Addr),
 Reads Proofs.Tryz.prog [] (Instr.loadAt 108 (Value.pointer (some (Addr.mk ad41.block (ad41.off + 5) none)))) w10 (Value.pointer a42) ∧
 ∃ (ad43 : Addr),
 a42 = some ad43 ∧
 ∃ (a44 : Option Addr),
 Reads Proofs.Tryz.prog [] (Instr.loadAt 108 (Value.pointer (some (Addr.mk ad43.block (ad43.off + 5) none)))) w10 (Value.pointer a44) ∧
 ∃ (ad45 : Addr),
 n = some ad45 ∧
 ∃ (a46 : Option Addr),
 Reads Proofs.Tryz.prog [] (Instr.loadAt 108 (Value.pointer (some (Addr.mk ad45.block (ad45.off + 5) none)))) w10 (Value.pointer a46) ∧
 ∃ (ad47 : Addr),
 a46 = some ad47 ∧
 ∃ (a48 : Option Addr),
 Reads Proofs.Tryz.prog [] (Instr.loadAt 108 (Value.pointer (some (Addr.mk ad47.block (ad47.off + 4) none)))) w10 (Value.pointer a48) ∧
 ∀ (w49 : World),
 Bel w10 w49 →
 Calls Proofs.Tryz.prog 96 #[Value.pointer a44] w49 fun (e50 : Ending) (w51 : World) =>
 ∃ (x52 : Int),
 e50 = Ending.returned (Value.int IntKind.i64 x52) ∧
 Reads Proofs.Tryz.prog [] (Instr.loadAt 108 (Value.pointer (some (Addr.mk ad47.block (ad47.off + 4) none)))) w51 (Value.pointer a48) ∧
 Reads Proofs.Tryz.prog [] (Instr.loadAt 108 (Value.pointer (some (Addr.mk ad45.block (ad45.off + 5) none)))) w51 (Value.pointer a46) ∧
 Reads Proofs.Tryz.prog [] (Instr.loadAt 108 (Value.pointer (some (Addr.mk ad41.block (ad41.off + 5) none)))) w51 (Value.pointer a42) ∧
 Calls Proofs.Tryz.prog 96 #[Value.pointer a48] w51 fun (e53 : Ending) (w54 : World) =>
 ∃ (x55 : Int),
 e53 = Ending.returned (Value.int IntKind.i64 x55) ∧
 Reads Proofs.Tryz.prog [] (Instr.loadAt 108 (Value.pointer (some (Addr.mk ad45.block (ad45.off + 5) none)))) w54 (Value.pointer a46) ∧
 Reads Proofs.Tryz.prog [] (Instr.loadAt 108 (Value.pointer (some (Addr.mk ad41.block (ad41.off + 5) none)))) w54 (Value.pointer a42) ∧
 (decide (x52 < x55) = true →
 ∃ (ad56 : Addr),
 n = some ad56 ∧
 ∃ (a57 : Option Addr),
 Reads Proofs.Tryz.prog [] (Instr.loadAt 108 (Value.pointer (some (Addr.mk ad56.block (ad56.off + 5) none)))) w54
 (Value.pointer a57) ∧
 Calls Proofs.Tryz.prog 98 #[Value.pointer a57] w54 fun (e58 : Ending) (w59 : World) =>
 ∃ (a60 : Option Addr),
 e58 = Ending.returned (Value.pointer a60) ∧
 ∃ (ad61 : Addr),
 n = some ad61 ∧
 OpW Proofs.Tryz.prog
 (skipS (Instr.storeAt 108 (Value.pointer (some (Addr.mk ad61.block (ad61.off + 5) none))) (Value.pointer a60))) w59
 fun (v62 : Value) (w63 : World) =>
 Calls Proofs.Tryz.prog 97 #[Value.pointer n] w63 fun (e64 : Ending) (w65 : World) =>
 ∃ (a66 : Option Addr), e64 = Ending.returned (Value.pointer a66) ∧ R (Ending.returned (Value.pointer a66)) w65) ∧
 (decide (x52 < x55) = false →
 Calls Proofs.Tryz.prog 97 #[Value.pointer n] w54 fun (e67 : Ending) (w68 : World) =>
 ∃ (a69 : Option Addr), e67 = Ending.returned (Value.pointer a69) ∧ R (Ending.returned (Value.pointer a69)) w68)) ∧
 (decide (IntKind.i64.wrap (x8 - x11) < -1) = false →
 Calls Proofs.Tryz.prog 99 #[Value.pointer n] w10 fun (e70 : Ending) (w71 : World) => ∃ (a72 : Option Addr), e70 = Ending.returned (Value.pointer a72) ∧ R (Ending.returned (Value.pointer a72)) w71))
theorem f90_eq (n : Option Addr) (w : World) (R : Ending → World → Prop) : (fnF Go.Proofs.Tryz.prog h90 Go.Proofs.Tryz.f90 [Value.pointer n] w R).den = f90_vc n w R := by kernel_rfl
theorem f90_calls (n : Option Addr) (w : World) (R : Ending → World → Prop) (h : f90_vc n w R) : Calls Go.Proofs.Tryz.prog 90 (List.toArray [Value.pointer n]) w R :=
 fn_sound (H := h90) (fn := Go.Proofs.Tryz.f90) (by kernel_rfl) (by kernel_rfl) (by kernel_rfl) ((f90_eq n w R).mpr h)

/-! (*manciple/tree.node[manciple/sorter.place]).depth -/
def h96 : Hints := ⟨[], [4, 6], [4], [], [], [], [], [], []⟩
def f96_vc (n : Option Addr) (w : World) (R : Ending → World → Prop) : Prop :=
 ∃ (b1 : Bool),
 Gives Proofs.Tryz.prog (binOpS BinOp.eql 108 (Operand.tmp 3) (Operand.const (Value.pointer none)) (Value.pointer n) (Value.pointer none)) (Value.bool b1) ∧
 (b1 = true → R (Ending.returned (Value.int IntKind.i64 0)) w) ∧
 (b1 = false →
 ∃ (ad2 : Addr), n = some ad2 ∧ ∃ (x3 : Int), Reads Proofs.Tryz.prog [] (Instr.loadAt 3 (Value.pointer (some (Addr.mk ad2.block (ad2.off + 7) none)))) w (Value.int IntKind.i64 x3) ∧ R (Ending.returned (Value.int IntKind.i64 x3)) w)
theorem f96_eq (n : Option Addr) (w : World) (R : Ending → World → Prop) : (fnF Go.Proofs.Tryz.prog h96 Go.Proofs.Tryz.f96 [Value.pointer n] w R).den = f96_vc n w R := by kernel_rfl
theorem f96_calls (n : Option Addr) (w : World) (R : Ending → World → Prop) (h : f96_vc n w R) : Calls Go.Proofs.Tryz.prog 96 (List.toArray [Value.pointer n]) w R :=
 fn_sound (H := h96) (fn := Go.Proofs.Tryz.f96) (by kernel_rfl) (by kernel_rfl) (by kernel_rfl) ((f96_eq n w R).mpr h)

/-! (*manciple/tree.node[manciple/sorter.place]).riseRight -/
def h97 : Hints := ⟨[], [5, 11, 15, 17], [], [], [], [], [], [], []⟩
def f97_vc (n : Option Addr) (w : World) (R : Ending → World → Prop) : Prop :=
 ∃ (ad1 : Addr),
 n = some ad1 ∧
 ∃ (a2 : Option Addr),
 Reads Proofs.Tryz.prog [] (Instr.loadAt 108 (Value.pointer (some (Addr.mk ad1.block (ad1.off + 5) none)))) w (Value.pointer a2) ∧
 ∃ (ad3 : Addr),
 a2 = some ad3 ∧
 ∃ (a4 : Option Addr),
 Reads Proofs.Tryz.prog [] (Instr.loadAt 108 (Value.pointer (some (Addr.mk ad3.block (ad3.off + 4) none)))) w (Value.pointer a4) ∧
 ∃ (ad5 : Addr),
 n = some ad5 ∧
 OpW Proofs.Tryz.prog (skipS (Instr.storeAt 108 (Value.pointer (some (Addr.mk ad5.block (ad5.off + 5) none))) (Value.pointer a4))) w fun (v6 : Value) (w7 : World) =>
 ∃ (ad8 : Addr),
 a2 = some ad8 ∧
 OpW Proofs.Tryz.prog (skipS (Instr.storeAt 108 (Value.pointer (some (Addr.mk ad8.block (ad8.off + 4) none))) (Value.pointer n))) w7 fun (v9 : Value) (w10 : World) =>
 Calls Proofs.Tryz.prog 99 #[Value.pointer n] w10 fun (e11 : Ending) (w12 : World) =>
 ∃ (a13 : Option Addr),
 e11 = Ending.returned (Value.pointer a13) ∧
 Calls Proofs.Tryz.prog 99 #[Value.pointer a2] w12 fun (e14 : Ending) (w15 : World) => ∃ (a16 : Option Addr), e14 = Ending.returned (Value.pointer a16) ∧ R (Ending.returned (Value.pointer a16)) w15
theorem f97_eq (n : Option Addr) (w : World) (R : Ending → World → Prop) : (fnF Go.Proofs.Tryz.prog h97 Go.Proofs.Tryz.f97 [Value.pointer n] w R).den = f97_vc n w R := by kernel_rfl
theorem f97_calls (n : Option Addr) (w : World) (R : Ending → World → Prop) (h : f97_vc n w R) : Calls Go.Proofs.Tryz.prog 97 (List.toArray [Value.pointer n]) w R :=
 fn_sound (H := h97) (fn := Go.Proofs.Tryz.f97) (by kernel_rfl) (by kernel_rfl) (by kernel_rfl) ((f97_eq n w R).mpr h)

/-! (*manciple/tree.node[manciple/sorter.place]).riseLeft -/
def h98 : Hints := ⟨[], [5, 11, 15, 17], [], [], [], [], [], [], []⟩
def f98_vc (n : Option Addr) (w : World) (R : Ending → World → Prop) : Prop :=
 ∃ (ad1 : Addr),
 n = some ad1 ∧
 ∃ (a2 : Option Addr),
 Reads Proofs.Tryz.prog [] (Instr.loadAt 108 (Value.pointer (some (Addr.mk ad1.block (ad1.off + 4) none)))) w (Value.pointer a2) ∧
 ∃ (ad3 : Addr),
 a2 = some ad3 ∧
 ∃ (a4 : Option Addr),
 Reads Proofs.Tryz.prog [] (Instr.loadAt 108 (Value.pointer (some (Addr.mk ad3.block (ad3.off + 5) none)))) w (Value.pointer a4) ∧
 ∃ (ad5 : Addr),
 n = some ad5 ∧
 OpW Proofs.Tryz.prog (skipS (Instr.storeAt 108 (Value.pointer (some (Addr.mk ad5.block (ad5.off + 4) none))) (Value.pointer a4))) w fun (v6 : Value) (w7 : World) =>
 ∃ (ad8 : Addr),
 a2 = some ad8 ∧
 OpW Proofs.Tryz.prog (skipS (Instr.storeAt 108 (Value.pointer (some (Addr.mk ad8.block (ad8.off + 5) none))) (Value.pointer n))) w7 fun (v9 : Value) (w10 : World) =>
 Calls Proofs.Tryz.prog 99 #[Value.pointer n] w10 fun (e11 : Ending) (w12 : World) =>
 ∃ (a13 : Option Addr),
 e11 = Ending.returned (Value.pointer a13) ∧
 Calls Proofs.Tryz.prog 99 #[Value.pointer a2] w12 fun (e14 : Ending) (w15 : World) => ∃ (a16 : Option Addr), e14 = Ending.returned (Value.pointer a16) ∧ R (Ending.returned (Value.pointer a16)) w15
theorem f98_eq (n : Option Addr) (w : World) (R : Ending → World → Prop) : (fnF Go.Proofs.Tryz.prog h98 Go.Proofs.Tryz.f98 [Value.pointer n] w R).den = f98_vc n w R := by kernel_rfl
theorem f98_calls (n : Option Addr) (w : World) (R : Ending → World → Prop) (h : f98_vc n w R) : Calls Go.Proofs.Tryz.prog 98 (List.toArray [Value.pointer n]) w R :=
 fn_sound (H := h98) (fn := Go.Proofs.Tryz.f98) (by kernel_rfl) (by kernel_rfl) (by kernel_rfl) ((f98_eq n w R).mpr h)

/-! (*manciple/tree.node[manciple/sorter.place]).set -/
def h99 : Hints := ⟨[], [5, 10, 16, 20, 25, 31], [], [(1, [0, 1, 2, 3, 4, 6, 7, 8, 9, 5, 10, 11, 12, 13, 14, 15]), (2, [0, 1, 2, 3, 4, 6, 7, 8, 9, 5, 10, 11, 12, 13, 14, 15])], [], [], [], [], []⟩
def f99_vc (n : Option Addr) (w : World) (R : Ending → World → Prop) : Prop :=
 ∃ (ad1 : Addr),
 n = some ad1 ∧
 ∃ (a2 : Option Addr),
 Reads Proofs.Tryz.prog [] (Instr.loadAt 108 (Value.pointer (some (Addr.mk ad1.block (ad1.off + 4) none)))) w (Value.pointer a2) ∧
 ∃ (ad3 : Addr),
 n = some ad3 ∧
 ∃ (a4 : Option Addr),
 Reads Proofs.Tryz.prog [] (Instr.loadAt 108 (Value.pointer (some (Addr.mk ad3.block (ad3.off + 5) none)))) w (Value.pointer a4) ∧
 ∀ (w5 : World),
 Bel w w5 →
 Calls Proofs.Tryz.prog 100 #[Value.pointer a2] w5 fun (e6 : Ending) (w7 : World) =>
 ∃ (x8 : Int),
 e6 = Ending.returned (Value.int IntKind.i64 x8) ∧
 Reads Proofs.Tryz.prog [] (Instr.loadAt 108 (Value.pointer (some (Addr.mk ad3.block (ad3.off + 5) none)))) w7 (Value.pointer a4) ∧
 Calls Proofs.Tryz.prog 100 #[Value.pointer a4] w7 fun (e9 : Ending) (w10 : World) =>
 ∃ (x11 : Int),
 e9 = Ending.returned (Value.int IntKind.i64 x11) ∧
 ∃ (ad12 : Addr),
 n = some ad12 ∧
 OpW Proofs.Tryz.prog (skipS (Instr.storeAt 3 (Value.pointer (some (Addr.mk ad12.block (ad12.off + 6) none))) (Value.int IntKind.i64 (IntKind.i64.wrap (IntKind.i64.wrap (x8 + x11) + 1))))) w10
 fun (v13 : Value) (w14 : World) =>
 ∃ (ad15 : Addr),
 n = some ad15 ∧
 ∃ (a16 : Option Addr),
 Reads Proofs.Tryz.prog [] (Instr.loadAt 108 (Value.pointer (some (Addr.mk ad15.block (ad15.off + 4) none)))) w14 (Value.pointer a16) ∧
 ∃ (ad17 : Addr),
 n = some ad17 ∧
 ∃ (a18 : Option Addr),
 Reads Proofs.Tryz.prog [] (Instr.loadAt 108 (Value.pointer (some (Addr.mk ad17.block (ad17.off + 5) none)))) w14 (Value.pointer a18) ∧
 ∀ (w19 : World),
 Bel w14 w19 →
 Calls Proofs.Tryz.prog 96 #[Value.pointer a16] w19 fun (e20 : Ending) (w21 : World) =>
 ∃ (x22 : Int),
 e20 = Ending.returned (Value.int IntKind.i64 x22) ∧
 Reads Proofs.Tryz.prog [] (Instr.loadAt 108 (Value.pointer (some (Addr.mk ad17.block (ad17.off + 5) none)))) w21 (Value.pointer a18) ∧
 Calls Proofs.Tryz.prog 96 #[Value.pointer a18] w21 fun (e23 : Ending) (w24 : World) =>
 ∃ (x25 : Int),
 e23 = Ending.returned (Value.int IntKind.i64 x25) ∧
 ∃ (ad26 : Addr),
 n = some ad26 ∧
 OpW Proofs.Tryz.prog
 (skipS
 (Instr.storeAt 3 (Value.pointer (some (Addr.mk ad26.block (ad26.off + 7) none)))
 (Value.int IntKind.i64 (IntKind.i64.wrap ((if x25 > x22 then x25 else x22) + 1)))))
 w24 fun (v27 : Value) (w28 : World) => R (Ending.returned (Value.pointer n)) w28
theorem f99_eq (n : Option Addr) (w : World) (R : Ending → World → Prop) : (fnF Go.Proofs.Tryz.prog h99 Go.Proofs.Tryz.f99 [Value.pointer n] w R).den = f99_vc n w R := by kernel_rfl
theorem f99_calls (n : Option Addr) (w : World) (R : Ending → World → Prop) (h : f99_vc n w R) : Calls Go.Proofs.Tryz.prog 99 (List.toArray [Value.pointer n]) w R :=
 fn_sound (H := h99) (fn := Go.Proofs.Tryz.f99) (by kernel_rfl) (by kernel_rfl) (by kernel_rfl) ((f99_eq n w R).mpr h)

end Vcz

/- Slices, continued: an element read; a row made; an element stored. -/
namespace Go.Vc
open Go Go.RowKit

section
variable {α : Type} {P : Program} {M : Nat → Prop} {w W W' : World} {gs ds : List Nat} {e : TypeId} {size : Nat} {f : α → List Value} {l : List α} {a : Option Addr} {n c : Nat}

theorem OwnF.sl (h : OwnF w M gs W e size f (.slice a n c) l) (hf : ∀ x ∈ l, (f x).length = size) : SlE W size f l a n c := by
  obtain ⟨a', c', hv, hs⟩ := h.slice hf
  obtain ⟨rfl, rfl, rfl⟩ := Value.slice.inj hv
  exact hs
theorem OwnF.len (h : OwnF w M gs W e size f (.slice a n c) l) : n = l.length := by
  rcases h.row0.2 with ⟨hv, hn⟩ | ⟨g, cap, cur, hv, _⟩
  · rw [hn]; exact (Value.slice.inj hv).2.1
  · exact (Value.slice.inj hv).2.1
theorem OwnF.ptr (h : OwnF w M gs W e size f (.slice a n c) l) (hl : 0 < l.length) : ∃ g cur, a = some ⟨g, 0, none⟩ ∧ 0 ≤ g ∧ W.heap[g]? = some (.cells cur e (0, 0)) ∧ l.length ≤ c ∧ c ≤ maxLen ∧ cur.size = c * size ∧ cur.toList.take (l.length * size) = l.flatMap f := by
  rcases h.row0.2 with ⟨hv, hn⟩ | ⟨g, cap, cur, hv, rest⟩
  · omega
  · obtain ⟨rfl, rfl, rfl⟩ := Value.slice.inj hv
    exact ⟨g, cur, rfl, rest⟩

theorem rd_agg {t te : TypeId} {x : α} {i : Nat} {k : IntKind} (hs : SlE W size f l a n c) (hx : l[i]? = some x) (ht : P.underlying t = some (.slice e)) (hz : pureRun P (sizeOf e) = some size) (hagg : pureRun P (isAgg te) = some true) (hsz : pureRun P (sizeOf te) = some (f x).length) (hd : ∀ d ∈ ds, ∀ b, a = some b → d ≠ b.block) :
    ∃ ad, Gives P (Instr.indexAt t (.slice a n c) (.int k (i : Int))) (.pointer (some ad)) ∧ Reads P ds (Instr.loadAt te (.pointer (some ad))) W (.agg (f x).toArray) := by
  obtain ⟨ad, cs, rfl, hcl, hcs, rfl⟩ := hs.at_ hx
  have hi := (List.getElem?_eq_some_iff.1 hx).1
  refine ⟨_, gives_index ht hz (by rw [hs.1]; exact hi), reads_agg hagg hsz (fun d hm => ?_) hcs⟩
  have hb : (ad.add (i * size)).block = ad.block := by unfold Addr.add; split <;> rfl
  rw [hb]
  exact hd d hm ad rfl

theorem rd_one {t te : TypeId} {x : α} {i : Nat} {k : IntKind} {u : Value} (hs : SlE W size f l a n c) (hx : l[i]? = some x) (hu : f x = [u]) (ht : P.underlying t = some (.slice e)) (hz : pureRun P (sizeOf e) = some size) (hagg : pureRun P (isAgg te) = some false) (hd : ∀ d ∈ ds, ∀ b, a = some b → d ≠ b.block) :
    ∃ ad, Gives P (Instr.indexAt t (.slice a n c) (.int k (i : Int))) (.pointer (some ad)) ∧ Reads P ds (Instr.loadAt te (.pointer (some ad))) W u := by
  obtain ⟨ad, cs, rfl, hcl, hcs, rfl⟩ := hs.at_ hx
  have hi := (List.getElem?_eq_some_iff.1 hx).1
  refine ⟨_, gives_index ht hz (by rw [hs.1]; exact hi), reads_one hagg (fun d hm => ?_) ?_⟩
  · have hb : (ad.add (i * size)).block = ad.block := by unfold Addr.add; split <;> rfl
    rw [hb]
    exact hd d hm ad rfl
  · have := hcs 0 u (by rw [hu]; rfl)
    have ha : (ad.add (i * size)).add 0 = ad.add (i * size) := by
      generalize ad.add (i * size) = q
      unfold Addr.add
      simp
    rwa [ha] at this

theorem flatMap_len (hf : ∀ x ∈ l, (f x).length = size) : (l.flatMap f).length = l.length * size := by
  induction l with
  | nil => simp
  | cons x l ih =>
    rw [List.flatMap_cons, List.length_append, List.length_cons, hf x (List.mem_cons_self ..), ih fun y hy => hf y (List.mem_cons_of_mem _ hy), Nat.add_mul]
    omega

theorem flatMap_set {i : Nat} {y : α} (hf : ∀ x ∈ l, (f x).length = size) (hi : i < l.length) : (l.set i y).flatMap f = (l.flatMap f).take (i * size) ++ f y ++ (l.flatMap f).drop (i * size + size) := by
  induction l generalizing i with
  | nil => simp at hi
  | cons x l ih =>
    have hx := hf x (List.mem_cons_self ..)
    cases i with
    | zero =>
      simp only [List.set_cons_zero, List.flatMap_cons, Nat.zero_mul, List.take_zero, List.nil_append, Nat.zero_add]
      rw [← hx, List.drop_left]
    | succ i =>
      have := ih (i := i) (fun x hx => hf x (List.mem_cons_of_mem _ hx)) (by simpa using hi)
      simp only [List.set_cons_succ, List.flatMap_cons, this]
      have e1 : (i + 1) * size = (f x).length + i * size := by rw [hx, Nat.add_mul]; omega
      rw [e1, List.take_length_add_append, Nat.add_assoc, List.drop_length_add_append]
      simp [List.append_assoc]

theorem take_mid {β : Type} {cur xs y : List β} {L a s : Nat} (h : cur.take L = xs) (hL : xs.length = L) (hy : y.length = s) (ha : a + s ≤ L) :
    (cur.take a ++ y ++ cur.drop (a + s)).take L = xs.take a ++ y ++ xs.drop (a + s) := by
  have hc : cur = xs ++ cur.drop L := by rw [← h, List.take_append_drop]
  have e1 : cur.take a = xs.take a := by rw [← h, List.take_take, Nat.min_eq_left (by omega)]
  have e2 : cur.drop (a + s) = xs.drop (a + s) ++ cur.drop L := by
    rw [hc, List.drop_append_of_le_length (by omega), ← hc]
  rw [e1, e2, ← List.append_assoc]
  have hl : (xs.take a ++ y ++ xs.drop (a + s)).length = L := by
    simp only [List.length_append, List.length_take, List.length_drop, hL]
    omega
  have := List.take_left (l₁ := xs.take a ++ y ++ xs.drop (a + s)) (l₂ := cur.drop L)
  rwa [hl] at this

/-- An element is stored. -/
theorem opw_store {te : TypeId} {i : Nat} {y : α} {x : Value} (hA : AtF w M gs W) (ho : OwnF w M gs W e size f (.slice a n c) l) (hf : ∀ x ∈ l, (f x).length = size) (hi : i < l.length) (hy : x.cells.toList = f y) (hyl : (f y).length = size) (h1 : (f y).all oneCell = true) (hsz : pureRun P (sizeOf te) = some size) {K : Value → World → Prop}
    (h : ∀ w', AtF w M gs w' → Keeps gs W w' → W.grownBy w' (Value.slice a n c).ownBlock → OwnF w M gs w' e size f (.slice a n c) (l.set i y) → K undef w') {ad : Addr} (had : ∀ g, a = some ⟨g, 0, none⟩ → ad = ⟨g, i * size, none⟩) :
    OpW P (skipS (Instr.storeAt te (.pointer (some ad)) x)) W K := by
  obtain ⟨g, cur, rfl, hge, hg, hlc, hcm, hcs, htk⟩ := ho.ptr (by omega)
  have had := had g rfl
  subst had
  have hn := ho.len
  have hle : i * size + size ≤ l.length * size := by
    have := Nat.mul_le_mul_right size (show i + 1 ≤ l.length by omega)
    rw [Nat.add_mul] at this
    omega
  have hle2 : l.length * size ≤ cur.size := by rw [hcs]; exact Nat.mul_le_mul_right _ hlc
  have hcl : cellStore P te cur.toList (i * size) x = some (cur.toList.take (i * size) ++ f y ++ cur.toList.drop (i * size + size)) := by
    unfold cellStore
    rw [hsz]
    simp only [hy, h1]
    have b1 : Nat.beq (f y).length size = true := by rw [hyl]; exact Nat.beq_refl _
    have b2 : Nat.ble (i * size + size) cur.toList.length = true := Nat.ble_eq_true_of_le (by rw [Array.length_toList]; omega)
    rw [b1, b2]
    rfl
  obtain ⟨W', hr, hg', hb, hs1, h2, h3, h4⟩ := run_cellStore (P := P) (t := te) (cells := cur.toList) (by simpa using hg) hcl
  have hgr : W.grownBy W' (some g) := ⟨h2, h3, h4, by omega, fun k _ hk => hb k (fun e => hk (by rw [e]))⟩
  have hsk : (skipS (Instr.storeAt te (.pointer (some ⟨g, i * size, none⟩)) x)).run P W = .ok .skip W' := by
    unfold skipS
    rw [run_bind_ok hr]
    rfl
  unfold OpW
  rw [hsk]
  refine h W' (hA.step (Chg.of_grown hgr (run_drawn hr)) fun k _ hk => ho.mine k hk) (fun g' hm => hgr.block g' (hA.under g' hm) fun e => ho.apart g' hm e.symm) hgr ⟨⟨?_, .inr ⟨g, c, _, ?_, hge, hg', ?_, hcm, ?_, ?_⟩⟩, ho.mine, ho.apart⟩
  · rw [flatMap_set hf hi, List.length_set]
    have := flatMap_len hf
    simp only [List.length_append, List.length_take, List.length_drop, hyl]
    omega
  · rw [List.length_set, hn]
  · rw [List.length_set]; exact hlc
  · simp only [List.size_toArray, List.length_append, List.length_take, List.length_drop, hyl, Array.length_toList]
    omega
  · rw [flatMap_set hf hi, List.length_set]
    exact take_mid htk (by rw [flatMap_len hf]) hyl hle

/-- A slice written out. -/
theorem opw_lit {t e' : TypeId} {len : Nat} {parts : Array (Nat × Value)} {cs : List Value} {K : Value → World → Prop} (hA : AtF w M gs W) (hc : sliceCells P t len parts = some (e', cs))
    (h : ∀ w', AtF w M gs w' → Keeps gs W w' → Bel W w' → (∀ j u, cs[j]? = some u → w'.cell? ((⟨W.heap.size, 0, none⟩ : Addr).add j) = some u) → w'.heap[W.heap.size]? = some (.cells cs.toArray e' (0, 0)) → K (.slice (some ⟨W.heap.size, 0, none⟩) len len) w') : OpW P (valueS (Instr.buildSlice t len parts)) W K := by
  refine opw_buildSlice hc (h _ (hA.call (below_alloc _)) (hA.keeps (below_alloc _)) (below_alloc _) (fun j u hu => ?_) (heap_alloc_new W _))
  rw [addr_add, cell_at (cells := cs) (ty := e') (fr := (0, 0)) (heap_alloc_new W _), Nat.zero_add]
  exact hu

/-- A row made, all zero. -/
theorem opw_make {t : TypeId} {bytes m : Nat} {kl kc : IntKind} {z : α} (he : elemB P t e size bytes = true) (hA : AtF w M gs W) (hz : ∃ i zv, P.info? e = some i ∧ i.zero = some zv ∧ zv.cells.toList = f z) (hb : bytes * m ≤ 281474976710656) (hm : m ≤ maxLen) {K : Value → World → Prop}
    (h : ∀ w', AtF w M gs w' → Keeps gs W w' → OwnF w M gs w' e size f (.slice (some ⟨W.heap.size, 0, none⟩) m m) (List.replicate m z) → W.grownBy w' none → K (.slice (some ⟨W.heap.size, 0, none⟩) m m) w') :
    OpW P (valueS (Instr.makeSlice t (.int kl (m : Int)) (.int kc (m : Int)))) W K := by
  obtain ⟨i, zv, ok⟩ := elemB_ok he
  obtain ⟨i', zv', hi', hz', hf⟩ := hz
  rw [ok.hi] at hi'
  cases hi'
  rw [ok.hz] at hz'
  cases hz'
  obtain ⟨w', hr, ho, hgr⟩ := run_make_full (P := P) W W.heap.size t e i zv size ok.ht ok.hi ok.hz ok.hsize kl kc m (by rw [ok.hby]; exact hb) hm (Nat.le_refl _)
  unfold OpW
  rw [run_valueS hr]
  have hbl : Bel W w' := ⟨⟨hgr.os, hgr.tape, hgr.output, hgr.size, fun k hk => hgr.block k hk (by simp)⟩, run_drawn hr⟩
  refine h w' (hA.call hbl) (hA.keeps hbl) (OwnF.ret hA ho (by rw [List.length_replicate]) ?_) hgr
  have hl : zv.cells.toList.length = size := by rw [Array.length_toList, ok.hzs]
  have hsz := ok.hsz
  apply List.ext_getElem?
  intro j
  have hfz : (f z).length = size := by rw [← hf]; exact hl
  have hfl : ((List.replicate m z).flatMap f).length = m * size := by
    rw [flatMap_len (size := size) (fun x hx => by rw [(List.mem_replicate.1 hx).2]; exact hfz), List.length_replicate]
  by_cases hj : j < m * size
  · have hq : j / size < m := Nat.div_lt_of_lt_mul (by rw [Nat.mul_comm]; exact hj)
    have hp := flatMap_part (l := List.replicate m z) (f := f) (size := size) (fun x hx => by rw [(List.mem_replicate.1 hx).2]; exact hfz) (i := j / size) (x := z) (by rw [List.getElem?_replicate, if_pos hq])
    have hmd : j % size < size := Nat.mod_lt _ hsz
    have hdm : j / size * size + j % size = j := by rw [Nat.mul_comm]; exact Nat.div_add_mod j size
    have e1 : ((List.replicate m z).flatMap f)[j]? = (f z)[j % size]? := by
      rw [← hp, List.getElem?_take, if_pos hmd, List.getElem?_drop, hdm]
    rw [e1, ← hf]
    have hsz0 : zv.cells.size = size := ok.hzs
    have : j % zv.cells.size < zv.cells.size := by rw [hsz0]; exact hmd
    simp [madeCells, hj, hsz0]
    rw [getElem!_pos zv.cells (j % size) (by rw [hsz0]; exact hmd)]
    simp [hmd, hsz0]
  · rw [List.getElem?_eq_none (by rw [Array.length_toList, size_madeCells]; omega), List.getElem?_eq_none (by rw [hfl]; omega)]
end

/-- A contract that returns a new slice. -/
def RetL {α : Type} (P : Program) (fn : FuncId) (args : Array Value) (W : World) (e : TypeId) (size : Nat) (f : α → List Value) (l : List α) : Prop :=
  RetQ P fn args W fun v w' => w'.ownsRow W.heap.size e size v l.length (l.flatMap f)

theorem at_calll {α : Type} {P : Program} {M : Nat → Prop} {w W : World} {gs : List Nat} {fn : FuncId} {args : Array Value} {e : TypeId} {size : Nat} {f : α → List Value} {l : List α} {K : Ending → World → Prop} (hA : AtF w M gs W) (hc : RetL P fn args W e size f l) (hf : ∀ x ∈ l, (f x).length = size)
    (hK : ∀ a c w', AtF w M gs w' → Keeps gs W w' → Bel W w' → OwnF w M gs w' e size f (.slice a l.length c) l → SlE w' size f l a l.length c → K (.returned (.slice a l.length c)) w') : Calls P fn args W K :=
  at_callq hA hc fun v w' hA' hk hb hq => by
    have ho : OwnF w M gs w' e size f v l := OwnF.ret hA hq rfl rfl
    obtain ⟨a, c, rfl, hs⟩ := ho.slice hf
    exact hK a c w' hA' hk hb ho hs
theorem leafl {α : Type} {w W : World} {gs : List Nat} {e : TypeId} {size : Nat} {f : α → List Value} {l l' : List α} {v : Value} {R : Ending → World → Prop} (h : ∀ v w', Bel w w' → w'.ownsRow w.heap.size e size v l.length (l.flatMap f) → R (.returned v) w') (hA : At w gs W) (ho : OwnL w gs W e size f v l') (hl : l' = l) : R (.returned v) W :=
  h v W hA.below (hl ▸ ho.row)
end Go.Vc

/- Strings: bytes to a string, a sum, a byte, a part, a range over the runes. -/
namespace Go.Vc
open Go Go.RowKit

abbrev u8e (x : Int) : List Value := [.int .u8 x]

section
variable {P : Program} {M : Nat → Prop} {w W : World} {gs : List Nat}

theorem one_cells {l : List Int} {k : IntKind} {a : Addr} {n c : Nat} (hs : SlE W 1 (fun x => [Value.int k x]) l (some a) n c) : (loadCells a n).run P W = .ok (l.map (Value.int k)).toArray W := by
  have hl : n = (l.map (Value.int k)).length := by rw [List.length_map]; exact hs.1
  rw [hl]
  refine run_loadCells_list (P := P) W a _ fun j v hv => ?_
  rw [List.getElem?_map] at hv
  cases hx : l[j]? with
  | none => rw [hx] at hv; cases hv
  | some x =>
    rw [hx] at hv
    simp only [Option.map_some, Option.some.injEq] at hv
    subst hv
    obtain ⟨ad, cs, ha, _, hcs, rfl⟩ := hs.at_ hx
    cases ha
    have := hcs 0 _ rfl
    have e : (a.add (j * 1)).add 0 = a.add j := by
      rw [Nat.mul_one]
      generalize a.add j = q
      unfold Addr.add
      simp
    rwa [e] at this

theorem strOfNums_eq (l : List Int) : l.foldl (fun r n => r.push (UInt8.ofNat n.toNat)) ByteArray.empty = strOfNums l := by
  rw [foldl_push_bytes]
  show (⟨#[] ++ _⟩ : ByteArray) = _
  simp [strOfNums]

theorem opw_b2s {src dst e : TypeId} {l : List Int} {a : Option Addr} {n c : Nat} {K : Value → World → Prop} (hs : P.underlying src = some (.slice e)) (he : P.underlying e = some (.int .u8)) (hd : P.underlying dst = some .string) (hl : SlE W 1 u8e l a n c)
    (h : K (.string (strOfNums l)) W) : OpW P (valueS (convert src dst (.slice a n c))) W K := by
  have hr : (convert src dst (.slice a n c)).run P W = .ok (.string (strOfNums l)) W := by
    rw [run_convert_bytes_string W src dst e a n c hs he hd]
    cases a with
    | none =>
      have hc := hl.2.2.2.1 rfl
      have h0 : l = [] := List.eq_nil_of_length_eq_zero (by have := hl.1; have := hl.2.1; omega)
      subst h0
      unfold Conv.bytesToString
      simp [Sem.run_pure]
      rfl
    | some ad =>
      rw [run_bytesToString W ad n c l (one_cells hl), strOfNums_eq]
  unfold OpW
  rw [run_valueS hr]
  exact h

theorem gives_sadd {t : TypeId} {x y : Operand} {a b : ByteArray} (h : a.size + b.size ≤ 9223372036854775807) : Gives P (binOpS .add t x y (.string a) (.string b)) (.string (a ++ b)) := by
  intro W
  unfold binOpS
  rw [run_bind_ok (show (eqGuard .add t x y (.string a) (.string b)).run P W = .ok () W from rfl), binOp_string_add]
  exact run_string_add_sum W a b h

theorem gives_index_str {t : TypeId} {s : ByteArray} {k : IntKind} {i : Nat} (ht : P.underlying t = some .string) (hi : i < s.size) : Gives P (Instr.index t (.string s) (.int k (i : Int))) (.int .u8 ((s[i]'hi).toNat : Int)) := by
  intro W
  have h := run_index_string W t s k i ht
  rw [h]
  simp [hi]

theorem opw_range_str {t : TypeId} {s : ByteArray} {K : Value → World → Prop} (ht : P.underlying t = some .string) (h : K (.pointer (some ⟨W.heap.size, 0, none⟩)) (W.alloc (.stringIter s 0))) : OpW P (valueS (Instr.range t (.string s))) W K := by
  have hr : (Instr.range t (.string s)).run P W = .ok (.pointer (some ⟨W.heap.size, 0, none⟩)) (W.alloc (.stringIter s 0)) := by
    unfold Instr.range
    rw [run_bind_ok (run_underlying ht W)]
    rfl
  unfold OpW
  rw [run_valueS hr]
  exact h

theorem opw_next_str {s : ByteArray} {pos r : Nat} {ty : TypeId} {K : Value → World → Prop} (hr : W.heap[r]? = some (.stringIter s pos))
    (hend : ¬ pos < s.size → K (.tuple #[.bool false]) W)
    (hgo : pos < s.size → K (.tuple #[.bool true, .int .i64 (pos : Int), .int .i32 ((Utf8.decode s pos).1 : Int)]) { W with heap := W.heap.setIfInBounds r (.stringIter s (pos + (Utf8.decode s pos).2)) }) :
    OpW P (valueS (Instr.next (.pointer (some ⟨r, 0, none⟩)) true ty)) W K := by
  have hget : (getObj r).run P W = .ok (.stringIter s pos) W := by
    simp [getObj, Sem.run, hr]
  by_cases hp : pos < s.size
  · have hrun : (Instr.next (.pointer (some ⟨r, 0, none⟩)) true ty).run P W = .ok (.tuple #[.bool true, .int .i64 (pos : Int), .int .i32 ((Utf8.decode s pos).1 : Int)]) { W with heap := W.heap.setIfInBounds r (.stringIter s (pos + (Utf8.decode s pos).2)) } := by
      unfold Instr.next
      simp only
      rw [run_bind_ok hget]
      simp only [hp, if_true]
      have hset : (setObj r (.stringIter s (pos + (Utf8.decode s pos).2))).run P W = .ok () { W with heap := W.heap.setIfInBounds r (.stringIter s (pos + (Utf8.decode s pos).2)) } := by
        simp [setObj, Sem.run, hr]
      rw [run_bind_ok hset]
      rfl
    unfold OpW
    rw [run_valueS hrun]
    exact hgo hp
  · have hrun : (Instr.next (.pointer (some ⟨r, 0, none⟩)) true ty).run P W = .ok (.tuple #[.bool false]) W := by
      unfold Instr.next
      simp only
      rw [run_bind_ok hget]
      simp only [hp, if_false]
      rfl
    unfold OpW
    rw [run_valueS hrun]
    exact hend hp

theorem chg_setObj {r : Nat} {o : Obj} : Chg (fun b => b = r) W { W with heap := W.heap.setIfInBounds r o } :=
  ⟨rfl, rfl, rfl, by simp, fun k _ hk => by
    show (W.heap.setIfInBounds r o)[k]? = _
    rw [Array.getElem?_setIfInBounds_ne (fun e => hk e.symm)], Nat.le_refl _⟩
theorem AtF.setObjF {r : Nat} {o : Obj} (hA : AtF w M gs W) (hr : w.heap.size ≤ r ∨ M r) : AtF w M gs { W with heap := W.heap.setIfInBounds r o } :=
  hA.step chg_setObj fun b _ hb => by subst hb; exact hr
theorem AtF.setObj {r : Nat} {o : Obj} (hA : AtF w M gs W) (hr : w.heap.size ≤ r) : AtF w M gs { W with heap := W.heap.setIfInBounds r o } := hA.setObjF (.inl hr)
theorem keeps_setObj {r : Nat} {o : Obj} (hr : r ∉ gs) : Keeps gs W { W with heap := W.heap.setIfInBounds r o } := fun g hg => by
  show (W.heap.setIfInBounds r o)[g]? = _
  rw [Array.getElem?_setIfInBounds_ne (fun e => hr (by rw [e]; exact hg))]

/-- The front of an own slice. -/
theorem gives_front {t e : TypeId} {size : Nat} {a : Option Addr} {n c m : Nat} {k : IntKind} (ht : P.underlying t = some (.slice e)) (hz : pureRun P (sizeOf e) = some size) (hm : m ≤ c) :
    Gives P (Instr.sliceAt t (.slice a n c) none (some (.int k (m : Int))) none) (.slice a m c) := by
  intro W
  have h1 : (Instr.sliceAt t (.slice a n c) none (some (.int k (m : Int))) none).run P W = (Instr.slice t (.slice a n c) none (some (.int k (m : Int))) none).run P W := run_sliceAt_slice W t _ _ _ _ (by simp [Program.elem, ht])
  rw [h1]
  unfold Instr.slice
  rw [run_bind_ok (run_underlying ht W)]
  simp only
  have hb : (Instr.sliceBounds true n c none (some (.int k (m : Int))) none).run P W = .ok (0, m, c) W := by
    unfold Instr.sliceBounds
    simp only [pure_bind]
    have := run_sliceBound (P := P) W k (m : Int) c .sliceAcap (by omega) (by omega)
    simp only [if_true]
    rw [run_bind_ok this]
    rfl
  rw [run_bind_ok hb]
  simp only
  rw [run_bind_ok (pureRun_run hz W)]
  simp only [Nat.zero_mul, Nat.sub_zero]
  have ha : (if c = 0 then a else Option.map (fun x => x.add 0) a) = a := by
    split
    · rfl
    · cases a with
      | none => rfl
      | some ad => simp [Addr.add]
  rw [ha]
  rfl

theorem ownsRow_front {base e size n m c : Nat} {a : Option Addr} {xs : List Value} (h : W.ownsRow base e size (.slice a n c) n xs) (hm : m ≤ n) : W.ownsRow base e size (.slice a m c) m (xs.take (m * size)) := by
  have hle : m * size ≤ n * size := Nat.mul_le_mul_right _ hm
  refine ⟨by rw [List.length_take, h.1, Nat.min_eq_left hle], ?_⟩
  rcases h.2 with ⟨hv, hn⟩ | ⟨g, cap, cur, hv, hge, hgg, hnc, hcm, hcs, htk⟩
  · subst hn
    have hm0 : m = 0 := by omega
    subst hm0
    exact .inl ⟨hv, rfl⟩
  · obtain ⟨rfl, _, rfl⟩ := Value.slice.inj hv
    exact .inr ⟨g, c, cur, rfl, hge, hgg, by omega, hcm, hcs, by rw [← htk, List.take_take, Nat.min_eq_left hle]⟩

theorem OwnF.front {α : Type} {e : TypeId} {size : Nat} {f : α → List Value} {a : Option Addr} {n c m : Nat} {l : List α} (h : OwnF w M gs W e size f (.slice a n c) l) (hf : ∀ x ∈ l, (f x).length = size) (hm : m ≤ l.length) : OwnF w M gs W e size f (.slice a m c) (l.take m) := by
  have hn := h.len
  subst hn
  have hr := ownsRow_front h.row0 hm
  have e1 : (l.flatMap f).take (m * size) = (l.take m).flatMap f := by
    have h2 : (l.take m).flatMap f ++ (l.drop m).flatMap f = l.flatMap f := by rw [← List.flatMap_append, List.take_append_drop]
    have hl : ((l.take m).flatMap f).length = m * size := by
      rw [flatMap_len (size := size) (fun x hx => hf x (List.mem_of_mem_take hx)), List.length_take, Nat.min_eq_left hm]
    rw [← h2, ← hl, List.take_left]
  refine ⟨?_, fun k hk => h.mine k (by cases a with
    | none => cases hk
    | some ad => exact hk), fun g hg => by have := h.apart g hg; cases a with
    | none => simp [Value.ownBlock]
    | some ad => simpa [Value.ownBlock] using this⟩
  rw [List.length_take, Nat.min_eq_left hm, ← e1]
  exact hr
end
end Go.Vc

/- An element of a slice, and its parts: the places, and what is read there. -/
namespace Go.Vc
open Go Go.RowKit

/-- The cells that lie at a place. -/
def Elt (W : World) (ad : Addr) (cs : List Value) : Prop := ∀ (j : Nat) (v : Value), cs[j]? = some v → W.cell? (ad.add j) = some v

section
variable {P : Program} {W W' : World} {ad : Addr} {cs : List Value} {ds : List Nat}

theorem Elt.below (h : Elt W ad cs) (hb : Bel W W') : Elt W' ad cs := fun j v hv => cell_below hb.below _ _ (h j v hv)
theorem Elt.evo (h : Elt W ad cs) (hb : evoP ds W W') (hd : ∀ d ∈ ds, d ≠ ad.block) : Elt W' ad cs := fun j v hv => evo_cell hb (by
    intro d hdm
    have hbk : (ad.add j).block = ad.block := by unfold Addr.add; split <;> rfl
    rw [hbk]; exact hd d hdm) (h j v hv)

theorem add_block (ad : Addr) (j : Nat) : (ad.add j).block = ad.block := by unfold Addr.add; split <;> rfl
theorem add_pos (ad : Addr) {o : Nat} (h : 0 < o) : ad.add o = ⟨ad.block, ad.off + o, none⟩ := by
  unfold Addr.add
  rw [if_neg (by omega)]

theorem Elt.sub (h : Elt W ad cs) {o : Nat} (ho : 0 < o) : Elt W ⟨ad.block, ad.off + o, none⟩ (cs.drop o) := by
  intro j v hv
  rw [List.getElem?_drop] at hv
  have := h (o + j) v hv
  rw [add_pos ad (by omega)] at this
  rw [addr_add]
  rw [show ad.off + o + j = ad.off + (o + j) by omega]
  exact this

theorem Elt.one {te : TypeId} {v : Value} {r : List Value} (h : Elt W ad (v :: r)) (hagg : pureRun P (isAgg te) = some false) (hd : ∀ d ∈ ds, d ≠ ad.block) : Reads P ds (Instr.loadAt te (.pointer (some ad))) W v :=
  reads_one hagg hd (by have := h 0 v rfl; unfold Addr.add at this; simpa using this)

theorem Elt.agg {te : TypeId} (m : Nat) (h : Elt W ad cs) (hagg : pureRun P (isAgg te) = some true) (hsz : pureRun P (sizeOf te) = some m) (hm : m ≤ cs.length) (hd : ∀ d ∈ ds, d ≠ ad.block) :
    Reads P ds (Instr.loadAt te (.pointer (some ad))) W (.agg (cs.take m).toArray) :=
  reads_agg hagg (by rw [hsz, List.length_take, Nat.min_eq_left hm]) hd (fun j v hv => h j v (by
    rw [List.getElem?_take] at hv
    split at hv
    · exact hv
    · cases hv))

theorem elt_at {α : Type} {t e : TypeId} {size : Nat} {f : α → List Value} {l : List α} {a : Option Addr} {n c : Nat} {x : α} {i : Nat} {k : IntKind} (hs : SlE W size f l a n c) (hx : l[i]? = some x) (ht : P.underlying t = some (.slice e)) (hz : pureRun P (sizeOf e) = some size) :
    ∃ ad, Gives P (Instr.indexAt t (.slice a n c) (.int k (i : Int))) (.pointer (some ad)) ∧ Elt W ad (f x) ∧ ∀ b, a = some b → ad.block = b.block := by
  obtain ⟨b, cs, rfl, hl, hcs, rfl⟩ := hs.at_ hx
  have hi := (List.getElem?_eq_some_iff.1 hx).1
  have hn := hs.1
  exact ⟨b.add (i * size), gives_index ht hz (by omega), hcs, fun b' hb' => by cases hb'; exact add_block _ _⟩

/-- A call by its contract, with the world's growth told besides. -/
theorem at_callb {M : Nat → Prop} {w W : World} {gs : List Nat} {f : FuncId} {args : Array Value} {v : Value} {K : Ending → World → Prop} (hA : AtF w M gs W) (hc : Ret P f args W v) (hK : ∀ w', AtF w M gs w' → Keeps gs W w' → Bel W w' → K (.returned v) w') : Calls P f args W K :=
  hc K fun w' hb => hK w' (hA.call hb) (hA.keeps hb) hb
/-- The own boxes out of sight. -/
theorem AtF.off {M : Nat → Prop} {w W : World} {gs : List Nat} (h : AtF w M gs W) : AtF w M [] W := ⟨h.chg, fun _ h => by cases h⟩

theorem brNB {b : Bool} {A B : Prop} (h : b = false → A) (k : b = true → B) : ((!b) = true → A) ∧ ((!b) = false → B) := ⟨fun e => h (by simpa using e), fun e => k (by simpa using e)⟩

theorem addr_add0 (ad : Addr) : ad.add 0 = ad := by unfold Addr.add; simp
/-- Adding to an address, twice. -/
theorem add_add (a : Addr) (l j : Nat) : (a.add l).add j = a.add (l + j) := by
  by_cases hl : l = 0
  · subst hl
    rw [addr_add0, Nat.zero_add]
  · rw [add_pos a (Nat.pos_of_ne_zero hl), addr_add, add_pos a (by omega)]
    rw [Nat.add_assoc]

/-- The rest of a slice, from a place on. -/
theorem gives_fromX {α : Type} {t e : TypeId} {size : Nat} {Rl : α → List Value → Prop} {l : List α} {a : Option Addr} {n c i : Nat} {k : IntKind} (hs : SlR W size Rl l a n c) (hi : i ≤ n) (ht : P.underlying t = some (.slice e)) (hz : pureRun P (sizeOf e) = some size) :
    Gives P (Instr.sliceAt t (.slice a n c) (some (.int k (i : Int))) none none) (.slice (if c = i then a else a.map (·.add (i * size))) (n - i) (c - i)) ∧ ∀ W' : World, SlR W' size Rl l a n c → SlR W' size Rl (l.drop i) (if c = i then a else a.map (·.add (i * size))) (n - i) (c - i) := by
  have hnc := hs.2.1
  refine ⟨?_, ?_⟩
  · intro W
    have h1 : (Instr.sliceAt t (.slice a n c) (some (.int k (i : Int))) none none).run P W = (Instr.slice t (.slice a n c) (some (.int k (i : Int))) none none).run P W := run_sliceAt_slice W t _ _ _ _ (by simp [Program.elem, ht])
    rw [h1]
    unfold Instr.slice
    rw [run_bind_ok (run_underlying ht W)]
    simp only
    have hb : (Instr.sliceBounds true n c (some (.int k (i : Int))) none none).run P W = .ok (i, n, c) W := by
      unfold Instr.sliceBounds
      simp only [pure_bind]
      have := run_sliceBound (P := P) W k (i : Int) n .sliceB (by omega) (by omega)
      simp only [Option.isSome_none, Bool.false_eq_true, if_false]
      rw [run_bind_ok this]
      rfl
    rw [run_bind_ok hb]
    simp only
    rw [run_bind_ok (pureRun_run hz W)]
    rfl
  · intro W' hs
    obtain ⟨h1, h2, h3, h4, h5⟩ := hs
    refine ⟨by rw [List.length_drop, h1], by omega, by omega, fun h => ?_, fun j x hx => ?_⟩
    · split at h
      · omega
      · cases a with
        | none => have := h4 rfl; omega
        | some ad => cases h
    · rw [List.getElem?_drop] at hx
      obtain ⟨ad', cs, ha, hl, hcs, hr⟩ := h5 _ x hx
      have hlt := (List.getElem?_eq_some_iff.1 hx).1
      subst ha
      refine ⟨ad'.add (i * size), cs, by rw [if_neg (by omega)]; rfl, hl, fun q v hv => ?_, hr⟩
      have := hcs q v hv
      rw [add_add] at this ⊢
      rw [add_add, ← Nat.add_assoc, ← Nat.add_mul]
      exact this
theorem gives_from {α : Type} {t e : TypeId} {size : Nat} {Rl : α → List Value → Prop} {l : List α} {a : Option Addr} {n c i : Nat} {k : IntKind} (hs : SlR W size Rl l a n c) (hi : i ≤ n) (ht : P.underlying t = some (.slice e)) (hz : pureRun P (sizeOf e) = some size) :
    ∃ a', Gives P (Instr.sliceAt t (.slice a n c) (some (.int k (i : Int))) none none) (.slice a' (n - i) (c - i)) ∧ ∀ W' : World, SlR W' size Rl l a n c → SlR W' size Rl (l.drop i) a' (n - i) (c - i) := ⟨_, gives_fromX hs hi ht hz⟩

theorem go_below0_too {M : Nat → Prop} {w W : World} {gs : List Nat} {F : World → Prop} (hA : AtF w M gs W) (h : ∀ W', AtF w M gs W' → Bel W W' → F W') : ∀ W', Bel W W' → F W' := fun W' hb => h W' (hA.call hb) hb

theorem Elt.lt {v : Value} {r : List Value} (h : Elt W ad (v :: r)) : ad.block < W.heap.size := by
  have := World.block_lt_of_cell? W _ (h 0 v rfl)
  rwa [add_block] at this
theorem Elt.far {v : Value} {r : List Value} (h : Elt W ad (v :: r)) (hd : ∀ d ∈ ds, W.heap.size ≤ d) : ∀ d ∈ ds, d ≠ ad.block := fun d hdm he => by
  have := h.lt
  have := hd d hdm
  omega

theorem AtF.sub {M : Nat → Prop} {w W : World} {gs gs' : List Nat} (h : AtF w M gs W) (hs : ∀ g ∈ gs', g ∈ gs) : AtF w M gs' W := ⟨h.chg, fun g hg => h.under g (hs g hg)⟩

theorem SlR.chg {α : Type} {n : Nat} {Rl : α → List Value → Prop} {l : List α} {a : Option Addr} {len cap : Nat} {N : Nat → Prop} (h : SlR W n Rl l a len cap) (hc : Chg N W W') (hn : ∀ b, a = some b → ¬ N b.block) : SlR W' n Rl l a len cap := by
  obtain ⟨h1, h2, h3, h4, h5⟩ := h
  refine ⟨h1, h2, h3, h4, fun i x hx => ?_⟩
  obtain ⟨ad, cs, ha, hl, hcs, hr⟩ := h5 i x hx
  refine ⟨ad, cs, ha, hl, fun j v hv => ?_, hr⟩
  have hc0 := hcs j v hv
  have hlt := World.block_lt_of_cell? W _ hc0
  have hbk : ((ad.add (i * n)).add j).block = ad.block := by rw [add_block, add_block]
  rw [World.cell?_of_block (hc.block _ hlt (by rw [hbk]; exact hn ad ha)), hc0]

theorem no_ds {ad : Addr} : ∀ d ∈ ([] : List Nat), d ≠ ad.block := fun _ h => by cases h
end
end Go.Vc

/- Arrays of the function's own, behind a pointer; a string's bytes; copying. -/
namespace Go.Vc
open Go Go.RowKit

def bytesOf (s : ByteArray) : List Int := s.data.toList.map fun b => (b.toNat : Int)
theorem bytesOf_len (s : ByteArray) : (bytesOf s).length = s.size := by
  rw [bytesOf, List.length_map, Array.length_toList]
  rfl
theorem bytesOf_range {s : ByteArray} {x : Int} (h : x ∈ bytesOf s) : 0 ≤ x ∧ x < 256 := by
  obtain ⟨b, _, rfl⟩ := List.mem_map.1 h
  have := b.toBitVec.isLt
  have e : b.toNat = b.toBitVec.toNat := rfl
  omega
theorem strOfNums_bytesOf (s : ByteArray) : strOfNums (bytesOf s) = s := by
  obtain ⟨d⟩ := s
  show (⟨_⟩ : ByteArray) = ⟨_⟩
  congr 1
  have : ((fun n : Int => UInt8.ofNat n.toNat) ∘ fun b : UInt8 => (b.toNat : Int)) = id := by
    funext b
    simp
  rw [bytesOf, List.map_map, this, List.map_id]

section
variable {P : Program} {M : Nat → Prop} {w W : World} {gs : List Nat}

theorem opw_s2b {src dst e : TypeId} {s : ByteArray} {K : Value → World → Prop} (hA : AtF w M gs W) (hs : P.underlying src = some .string) (hd : P.underlying dst = some (.slice e)) (he : P.underlying e = some (.int .u8)) (hm : s.size ≤ maxLen)
    (h : ∀ a c w', AtF w M gs w' → Keeps gs W w' → Bel W w' → SlE w' 1 u8e (bytesOf s) a s.size c → K (.slice a s.size c) w') : OpW P (valueS (convert src dst (.string s))) W K := by
  have hr := run_bytes_of_string (P := P) W src dst e s hs hd he
  have hb : ∀ (C : Array Value) (fr : Nat × Nat), Bel W (W.drew.alloc (.cells C e fr)) := fun C fr => ⟨((Below.refl _ W).drew).alloc (Nat.le_refl _) _, Nat.le_succ _⟩
  unfold OpW
  rw [run_valueS hr]
  refine h _ _ _ (hA.call (hb _ _)) (hA.keeps (hb _ _)) (hb _ _) ⟨(bytesOf_len s).symm, grownCap_ge _ _ _ _, grownCap_le_maxLen _ _ _ _ hm, fun h => (by cases h), fun i x hx => ⟨_, _, rfl, rfl, fun j v hv => ?_, rfl⟩⟩
  have hi := (List.getElem?_eq_some_iff.1 hx).1
  rw [bytesOf_len] at hi
  have hj : j = 0 := by
    have := (List.getElem?_eq_some_iff.1 hv).1
    simp at this
    omega
  subst hj
  simp at hv
  subst hv
  rw [addr_add_add _ _ _ rfl, addr_add]
  have hcell := heap_alloc_new W.drew (Obj.cells (bytesRow s (grownCap W s.size 0 e)) e ((bytesRow s (grownCap W s.size 0 e)).size, (bytesRow s (grownCap W s.size 0 e)).size + 1))
  have hc := cell_at (W := W.drew.alloc (.cells (bytesRow s (grownCap W s.size 0 e)) e ((bytesRow s (grownCap W s.size 0 e)).size, (bytesRow s (grownCap W s.size 0 e)).size + 1))) (g := W.heap.size) (cells := (bytesRow s (grownCap W s.size 0 e)).toList) (by simpa using hcell) (0 + (i * 1 + 0))
  rw [hc]
  simp only [Nat.zero_add, Nat.mul_one, Nat.add_zero]
  simp only [bytesRow, Array.toList_append, Array.toList_map]
  rw [List.getElem?_append_left (by rw [List.length_map, Array.length_toList]; exact hi)]
  simp only [bytesOf, List.getElem?_map] at hx ⊢
  cases hb : s.data.toList[i]? with
  | none => rw [hb] at hx; cases hx
  | some b =>
    rw [hb] at hx
    simp only [Option.map_some, Option.some.injEq] at hx ⊢
    rw [hx]

/-- The same, with the place told. -/
theorem opw_s2bB {src dst e : TypeId} {s : ByteArray} {K : Value → World → Prop} (hA : AtF w M gs W) (hs : P.underlying src = some .string) (hd : P.underlying dst = some (.slice e)) (he : P.underlying e = some (.int .u8)) (hm : s.size ≤ maxLen)
    (h : ∀ a c w', AtF w M gs w' → Keeps gs W w' → Bel W w' → SlE w' 1 u8e (bytesOf s) a s.size c → (∀ b, a = some b → b.block = W.heap.size) → K (.slice a s.size c) w') : OpW P (valueS (convert src dst (.string s))) W K := by
  have hr := run_bytes_of_string (P := P) W src dst e s hs hd he
  have hb : ∀ (C : Array Value) (fr : Nat × Nat), Bel W (W.drew.alloc (.cells C e fr)) := fun C fr => ⟨((Below.refl _ W).drew).alloc (Nat.le_refl _) _, Nat.le_succ _⟩
  unfold OpW
  rw [run_valueS hr]
  refine h _ _ _ (hA.call (hb _ _)) (hA.keeps (hb _ _)) (hb _ _) ⟨(bytesOf_len s).symm, grownCap_ge _ _ _ _, grownCap_le_maxLen _ _ _ _ hm, fun h => (by cases h), fun i x hx => ⟨_, _, rfl, rfl, fun j v hv => ?_, rfl⟩⟩ (fun b hb => by cases hb; rfl)
  have hi := (List.getElem?_eq_some_iff.1 hx).1
  rw [bytesOf_len] at hi
  have hj : j = 0 := by
    have := (List.getElem?_eq_some_iff.1 hv).1
    simp at this
    omega
  subst hj
  simp at hv
  subst hv
  rw [addr_add_add _ _ _ rfl, addr_add]
  have hcell := heap_alloc_new W.drew (Obj.cells (bytesRow s (grownCap W s.size 0 e)) e ((bytesRow s (grownCap W s.size 0 e)).size, (bytesRow s (grownCap W s.size 0 e)).size + 1))
  have hc := cell_at (W := W.drew.alloc (.cells (bytesRow s (grownCap W s.size 0 e)) e ((bytesRow s (grownCap W s.size 0 e)).size, (bytesRow s (grownCap W s.size 0 e)).size + 1))) (g := W.heap.size) (cells := (bytesRow s (grownCap W s.size 0 e)).toList) (by simpa using hcell) (0 + (i * 1 + 0))
  rw [hc]
  simp only [Nat.zero_add, Nat.mul_one, Nat.add_zero]
  simp only [bytesRow, Array.toList_append, Array.toList_map]
  rw [List.getElem?_append_left (by rw [List.length_map, Array.length_toList]; exact hi)]
  simp only [bytesOf, List.getElem?_map] at hx ⊢
  cases hb : s.data.toList[i]? with
  | none => rw [hb] at hx; cases hx
  | some b =>
    rw [hb] at hx
    simp only [Option.map_some, Option.some.injEq] at hx ⊢
    rw [hx]

/-- An array made, all zero: told as an own slice over it. -/
theorem opw_allocArr {α : Type} {t : TypeId} {f : α → List Value} {n size : Nat} {zv : Value} {z : α} {K : Value → World → Prop} (hA : AtF w M gs W) (hz : pureRun P (zeroValue t) = some zv) (hf : zv.cells.toList = (List.replicate n z).flatMap f) (hfz : (f z).length = size) (hn : n ≤ maxLen)
    (h : ∀ w', AtF w M gs w' → Keeps gs W w' → OwnF w M gs w' t size f (.slice (some ⟨W.heap.size, 0, none⟩) n n) (List.replicate n z) → K (.pointer (some ⟨W.heap.size, 0, none⟩)) w') : OpW P (valueS (Instr.alloc t true (.tuple #[]))) W K := by
  unfold OpW
  rw [run_valueS (run_alloc hz)]
  have hl : zv.cells.size = n * size := by
    rw [← Array.length_toList, hf, flatMap_len (size := size) (fun x hx => by rw [(List.mem_replicate.1 hx).2]; exact hfz), List.length_replicate]
  refine h _ (hA.call (below_alloc _)) (hA.keeps (below_alloc _)) (OwnF.ret hA (n := n) (xs := zv.cells.toList) ⟨by rw [Array.length_toList, hl], .inr ⟨W.heap.size, n, zv.cells, rfl, Nat.le_refl _, heap_alloc_new W _, Nat.le_refl _, hn, hl, ?_⟩⟩ (by rw [List.length_replicate]) hf)
  rw [List.take_of_length_le (by rw [Array.length_toList, hl]; exact Nat.le_refl _)]

theorem gives_index_arr {t e : TypeId} {n m : Nat} {ad : Addr} {i : Nat} {k : IntKind} (ht : P.underlying t = some (.array m e)) (hs : pureRun P (sizeOf e) = some n) (hi : i < m) :
    Gives P (Instr.indexAt t (.pointer (some ad)) (.int k (i : Int))) (.pointer (some (ad.add (i * n)))) := by
  intro W
  have he : P.elem t = e := by simp [Program.elem, ht]
  have hl : P.arrayLen t = m := by simp [Program.arrayLen, ht]
  have hh := run_indexAt_array (P := P) W t ad k i (by rw [he, hl]; exact ht)
  rw [hh, if_pos (by rw [hl]; omega), he]
  have hsz := pureRun_run hs W
  simp only [Int.toNat_natCast]
  rw [hsz]
  rfl

theorem gives_slice_arr {t e : TypeId} {n m : Nat} {ad : Addr} {i : Nat} {k : IntKind} (ht : P.underlying t = some (.array m e)) (hs : pureRun P (sizeOf e) = some n) (hi : i < m) :
    Gives P (Instr.sliceAt t (.pointer (some ad)) (some (.int k (i : Int))) none none) (.slice (some (ad.add (i * n))) (m - i) (m - i)) := by
  intro W
  have he : P.elem t = e := by simp [Program.elem, ht]
  have hl : P.arrayLen t = m := by simp [Program.arrayLen, ht]
  have hh := run_sliceAt_array_l (P := P) W t ad (by rw [he, hl]; exact ht) k (i : Int) (by omega) (by rw [hl]; omega)
  rw [hh, he, pureRun_run hs W, hl]
  simp only [Result.andThen, slicedAt, Int.toNat_natCast]
  rw [if_neg (by omega)]

/-- A part of a slice's data, from a place on. -/
theorem SlR.from_ {α : Type} {n : Nat} {R : α → List Value → Prop} {l : List α} {ad : Addr} {len cap i : Nat} (h : SlR W n R l (some ad) len cap) (hsp : ad.spot = none) (hi : i ≤ len) : SlR W n R (l.drop i) (some (ad.add (i * n))) (len - i) (cap - i) := by
  refine ⟨by rw [List.length_drop, h.1], by have := h.2.1; omega, by have := h.2.2.1; omega, fun h => (by cases h), fun j x hx => ?_⟩
  rw [List.getElem?_drop] at hx
  obtain ⟨ad', cs, ha, hl, hcs, hr⟩ := h.at_ hx
  cases ha
  refine ⟨_, cs, rfl, hl, fun q v hv => ?_, hr⟩
  have := hcs q v hv
  rw [addr_add_add _ _ _ hsp, ← Nat.add_mul]
  exact this

/-- Copying as many elements as there is room for. -/
theorem opw_copy {dT sT ty e : TypeId} {fl : Array Bool} {k : IntKind} {l l2 : List Int} {a a2 : Option Addr} {n c n2 c2 : Nat} {er : TypeId} {K : Value → World → Prop} (hA : AtF w M gs W) (hu : P.underlying dT = some (.slice e)) (hsz : (P.info? e).map (·.size) = some 1)
    (ho : OwnF w M gs W er 1 (fun x => [Value.int k x]) (.slice a n c) l) (hs : SlE W 1 (fun x => [Value.int k x]) l2 a2 n2 c2) (hl : l2.length = l.length)
    (h : ∀ w', AtF w M gs w' → Keeps gs W w' → W.grownBy w' (Value.slice a n c).ownBlock → OwnF w M gs w' er 1 (fun x => [Value.int k x]) (.slice a n c) l2 → K (goInt l.length) w') : OpW P (builtin .copy #[dT, sT] ty fl #[.slice a n c, .slice a2 n2 c2]) W K := by
  have hn := ho.len
  have hn2 := hs.1
  subst hn
  subst hn2
  have hrun : ∃ w', (Builtin.copy_ #[dT, sT] ty #[.slice a l.length c, .slice a2 l2.length c2]).run P W = .ok (goInt l.length) w' ∧ AtF w M gs w' ∧ Keeps gs W w' ∧ W.grownBy w' (Value.slice a l.length c).ownBlock ∧ OwnF w M gs w' er 1 (fun x => [Value.int k x]) (.slice a l.length c) l2 := by
    rcases Nat.eq_zero_or_pos l.length with h0 | hpos
    · have e1 : l = [] := List.eq_nil_of_length_eq_zero h0
      have e2 : l2 = [] := List.eq_nil_of_length_eq_zero (by omega)
      subst e1
      subst e2
      refine ⟨W, ?_, hA, fun _ _ => rfl, ⟨rfl, rfl, rfl, Nat.le_refl _, fun _ _ _ => rfl⟩, ho⟩
      cases hq : P.info? e with
      | none => simp [hq] at hsz
      | some i =>
        cases a <;> cases a2 <;> simp [Builtin.copy_, run_underlying hu, Builtin.lenOf, Builtin.firstCells, sizeOf, typeInfo, hq, storeCells, loadCells, loadCellsFrom]
    · obtain ⟨g, cur, rfl, hge, hg, hlc, hcm, hcs, htk⟩ := ho.ptr hpos
      obtain ⟨ad2, rfl⟩ : ∃ ad2, a2 = some ad2 := by
        cases a2 with
        | some ad2 => exact ⟨ad2, rfl⟩
        | none => have := hs.2.2.2.1 rfl; have := hs.2.1; omega
      have hcells : ∀ j v, (l2.map (Value.int k))[j]? = some v → W.cell? (ad2.add j) = some v := by
        intro j v hv
        rw [List.getElem?_map] at hv
        cases hx : l2[j]? with
        | none => rw [hx] at hv; cases hv
        | some x =>
          rw [hx] at hv
          simp only [Option.map_some, Option.some.injEq] at hv
          subst hv
          obtain ⟨ad, cs, ha, _, hcs, rfl⟩ := hs.at_ hx
          cases ha
          have := hcs 0 _ rfl
          have e : (ad2.add (j * 1)).add 0 = ad2.add j := by
            rw [Nat.mul_one]
            generalize ad2.add j = q
            unfold Addr.add
            simp
          rwa [e] at this
      have hr := run_copy_row (P := P) W dT sT ty e g 0 l.length c ad2 l2.length c2 cur er (l2.map (Value.int k)) hu hsz hg (by rw [List.length_map, hl]; simp) hcells (by rw [List.length_map, hl, hcs]; omega) (by intro v hv; obtain ⟨x, _, rfl⟩ := List.mem_map.1 hv; rfl)
      rw [List.length_map, hl] at hr
      have hgr : W.grownBy (W.setRow g (cur.toList.take 0 ++ l2.map (Value.int k) ++ cur.toList.drop (0 + l.length)).toArray) (some g) := ⟨rfl, rfl, rfl, by simp, fun k _ hk => setRow_other W g k _ (fun e => hk (by rw [e]))⟩
      refine ⟨_, by rw [hl]; exact hr, (hA.step (Chg.of_grown hgr (run_drawn hr)) fun k _ hk => ho.mine k hk), fun g' hm => hgr.block g' (hA.under g' hm) fun e => ho.apart g' hm e.symm, hgr, ⟨⟨?_, .inr ⟨g, c, _, ?_, hge, setRow_heap W g cur _ er _ hg, ?_, hcm, ?_, ?_⟩⟩, ho.mine, ho.apart⟩⟩
      · rw [flatMap_len (size := 1) (fun _ _ => rfl)]
      · rw [hl]
      · rw [hl]; exact hlc
      · simp only [List.size_toArray, List.length_append, List.length_take, List.length_drop, List.length_map, Array.length_toList, hl]
        omega
      · have e1 : l2.flatMap (fun x => [Value.int k x]) = l2.map (Value.int k) := by
          clear hs hl ho hcells hr hgr h
          induction l2 with
          | nil => rfl
          | cons x l ih => rw [List.flatMap_cons, ih]; rfl
        rw [e1]
        simp only [List.take_zero, List.nil_append]
        rw [Nat.mul_one]
        have := List.take_left (l₁ := l2.map (Value.int k)) (l₂ := cur.toList.drop (0 + l.length))
        rwa [List.length_map] at this
  obtain ⟨w', hr, h1, h2, h3, h4⟩ := hrun
  have hb : (builtin .copy #[dT, sT] ty fl #[.slice a l.length c, .slice a2 l2.length c2]).run P W = .ok (.value (goInt l.length)) w' := by
    show (do pure (Next.value (← Builtin.copy_ #[dT, sT] ty #[.slice a l.length c, .slice a2 l2.length c2])) : Sem Next).run P W = _
    rw [run_bind_ok hr]
    rfl
  unfold OpW
  rw [hb]
  exact h w' h1 h2 h3 h4
end
end Go.Vc

/- 'append(l, x)': a row of one element made, and added to an own slice. -/
namespace Go.Vc
open Go Go.RowKit

theorem grown_trans_below {W W' W'' : World} {row : Option Nat} (h : Bel W W') (k : W'.grownBy W'' row) : W.grownBy W'' row :=
  ⟨k.os.trans h.below.os, k.tape.trans h.below.tape, k.output.trans h.below.output, Nat.le_trans h.size k.size, fun b hb hne => (k.block b (Nat.lt_of_lt_of_le hb h.size) hne).trans (h.block hb)⟩

section
variable {α : Type} {P : Program} {M : Nat → Prop} {w W : World} {gs : List Nat} {e e' : TypeId} {size : Nat} {f : α → List Value} {a : Option Addr} {n c : Nat} {l : List α} {t ty : TypeId} {fl : Array Bool} {bytes : Nat} {parts : Array (Nat × Value)} {x : α}

theorem opw_push (hA : AtF w M gs W) (ho : OwnF w M gs W e size f (.slice a n c) l) (x : α) (he : elemB P t e size bytes = true) (hc : sliceCells P t 1 parts = some (e', f x)) (hl : (f x).length = size) (hf : ∀ y ∈ l ++ [x], (f y).length = size)
    (h1 : ∀ u ∈ f x, u.oneCell' = true) (h63 : l.length + 1 ≤ 1099511627776) (hby : bytes ≤ 128) {K : Option Addr → Nat → Nat → World → Prop}
    (h : ∀ a' c' w2, AtF w M gs w2 → OwnF w M gs w2 e size f (.slice a' (l ++ [x]).length c') (l ++ [x]) → W.grownBy w2 (Value.slice a n c).ownBlock → ((Value.slice a' (l ++ [x]).length c').ownBlock = (Value.slice a n c).ownBlock ∨ ∀ k, (Value.slice a' (l ++ [x]).length c').ownBlock = some k → W.heap.size ≤ k) → K a' (l ++ [x]).length c' w2) :
    OpW P (valueS (Instr.buildSlice t 1 parts)) W fun v w1 => ∃ a1 n1 c1, v = .slice a1 n1 c1 ∧ Keeps gs W w1 ∧ OpW P (builtin .append #[t, t] ty fl #[.slice a n c, .slice a1 n1 c1]) w1 fun v w2 => ∃ a2 n2 c2, v = .slice a2 n2 c2 ∧ Keeps gs w1 w2 ∧ K a2 n2 c2 w2 := by
  refine opw_lit hA hc fun w' hA hk hb hcell _ => ⟨_, _, _, rfl, hk, ?_⟩
  refine opw_append1 (bytes := bytes) he hA (ho.call hb) (x := x) hl hcell h1 (by omega) (.inr (by
    have := Nat.mul_le_mul (show l.length + 1 ≤ 1099511627776 by omega) hby
    omega)) fun v' w2 hA hk2 hg ho' hnew => ?_
  obtain ⟨a2, c2, rfl, _⟩ := ho'.slice hf
  refine ⟨_, _, _, rfl, hk2, h _ _ _ hA ho' (grown_trans_below hb hg) (hnew.imp id fun hh k hk => Nat.le_trans hb.size (hh k hk))⟩

theorem opw_push0 (hA : AtF w M gs W) (ho : OwnF w M gs W e size f (.slice a n c) l) (x : α) (he : elemB P t e size bytes = true) (hc : sliceCells P t 1 parts = some (e', f x)) (hl : (f x).length = size) (hf : ∀ y ∈ l ++ [x], (f y).length = size)
    (h1 : ∀ u ∈ f x, u.oneCell' = true) (h63 : l.length + 1 ≤ 1099511627776) (hby : bytes ≤ 128) {K : Option Addr → Nat → Nat → World → Prop}
    (h : ∀ a' c' w2, AtF w M gs w2 → OwnF w M gs w2 e size f (.slice a' (l ++ [x]).length c') (l ++ [x]) → W.grownBy w2 (Value.slice a n c).ownBlock → ((Value.slice a' (l ++ [x]).length c').ownBlock = (Value.slice a n c).ownBlock ∨ ∀ k, (Value.slice a' (l ++ [x]).length c').ownBlock = some k → W.heap.size ≤ k) → K a' (l ++ [x]).length c' w2) :
    OpW P (valueS (Instr.buildSlice t 1 parts)) W fun v w1 => ∃ a1 n1 c1, v = .slice a1 n1 c1 ∧ OpW P (builtin .append #[t, t] ty fl #[.slice a n c, .slice a1 n1 c1]) w1 fun v w2 => ∃ a2 n2 c2, v = .slice a2 n2 c2 ∧ K a2 n2 c2 w2 := by
  refine opw_lit hA hc fun w' hA hk hb hcell _ => ⟨_, _, _, rfl, ?_⟩
  refine opw_append1 (bytes := bytes) he hA (ho.call hb) (x := x) hl hcell h1 (by omega) (.inr (by
    have := Nat.mul_le_mul (show l.length + 1 ≤ 1099511627776 by omega) hby
    omega)) fun v' w2 hA hk2 hg ho' hnew => ?_
  obtain ⟨a2, c2, rfl, _⟩ := ho'.slice hf
  exact ⟨_, _, _, rfl, h _ _ _ hA ho' (grown_trans_below hb hg) (hnew.imp id fun hh k hk => Nat.le_trans hb.size (hh k hk))⟩
end

/-- A contract that returns a new slice and a bool. -/
def RetLB {α : Type} (P : Program) (fn : FuncId) (args : Array Value) (W : World) (e : TypeId) (size : Nat) (f : α → List Value) (l : List α) (ok : Bool) : Prop :=
  RetQ P fn args W fun v w' => ∃ s, v = .tuple #[s, .bool ok] ∧ w'.ownsRow W.heap.size e size s l.length (l.flatMap f)
theorem at_calllb {α : Type} {P : Program} {M : Nat → Prop} {w W : World} {gs : List Nat} {fn : FuncId} {args : Array Value} {e : TypeId} {size : Nat} {f : α → List Value} {l : List α} {ok : Bool} {K : Ending → World → Prop} (hA : AtF w M gs W) (hc : RetLB P fn args W e size f l ok) (hf : ∀ x ∈ l, (f x).length = size)
    (hK : ∀ a c w', AtF w M gs w' → Keeps gs W w' → Bel W w' → OwnF w M gs w' e size f (.slice a l.length c) l → SlE w' size f l a l.length c → K (.returned (.tuple #[.slice a l.length c, .bool ok])) w') : Calls P fn args W K :=
  at_callq hA hc fun v w' hA' hk hb ⟨s, hv, hq⟩ => by
    have ho : OwnF w M gs w' e size f s l := OwnF.ret hA hq rfl rfl
    obtain ⟨a, c, rfl, hs⟩ := ho.slice hf
    subst hv
    exact hK a c w' hA' hk hb ho hs
theorem leaflb {α : Type} {w W : World} {gs : List Nat} {e : TypeId} {size : Nat} {f : α → List Value} {l l' : List α} {v : Value} {ok ok' : Bool} {R : Ending → World → Prop} (h : ∀ v w', Bel w w' → (∃ s, v = .tuple #[s, .bool ok] ∧ w'.ownsRow w.heap.size e size s l.length (l.flatMap f)) → R (.returned v) w') (hA : At w gs W) (ho : OwnL w gs W e size f v l') (hl : l' = l) (hk : ok' = ok) : R (.returned (.tuple #[v, .bool ok'])) W :=
  h _ _ hA.below ⟨v, by rw [hk], hl ▸ ho.row⟩

/-- What is made leaves every old block as it was. -/
theorem opw_alloc_below {P : Program} {t : TypeId} {zv : Value} {W : World} {K : Value → World → Prop} (hz : pureRun P (zeroValue t) = some zv) (h : OpW P (valueS (Instr.alloc t true (.tuple #[]))) W fun v w' => Bel W w' → K v w') :
    OpW P (valueS (Instr.alloc t true (.tuple #[]))) W K := by
  unfold OpW at h ⊢
  rw [run_valueS (run_alloc hz)] at h ⊢
  exact h (below_alloc _)

/-- A slice written out, as an own slice. -/
theorem opw_litL {α : Type} {P : Program} {M : Nat → Prop} {w W : World} {gs : List Nat} {t e' : TypeId} {len size : Nat} {parts : Array (Nat × Value)} {f : α → List Value} {l : List α} {K : Value → World → Prop} (hA : AtF w M gs W) (hl : len = l.length) (hsz : ∀ x ∈ l, (f x).length = size) (hm : len ≤ maxLen) (hc : sliceCells P t len parts = some (e', l.flatMap f))
    (h : ∀ g w', W.heap.size ≤ g → AtF w M gs w' → Keeps gs W w' → Bel W w' → OwnF w M gs w' e' size f (.slice (some ⟨g, 0, none⟩) len len) l → K (.slice (some ⟨g, 0, none⟩) len len) w') : OpW P (valueS (Instr.buildSlice t len parts)) W K := by
  refine opw_lit hA hc fun w' hA' hk hb _ hh => h _ w' (Nat.le_refl _) hA' hk hb (OwnF.ret (n := len) (xs := l.flatMap f) hA ?_ hl rfl)
  have hlf := flatMap_len hsz
  exact ⟨by rw [hlf, hl], .inr ⟨W.heap.size, len, _, rfl, Nat.le_refl _, hh, Nat.le_refl _, hm, by simp [hl, hlf], by rw [List.toList_toArray]; exact List.take_of_length_le (by rw [hlf, hl]; exact Nat.le_refl _)⟩⟩
end Go.Vc

/- Maps of the function's own: entries in the order in which they came; looking up, putting in, taking out. -/
namespace Go.Vc
open Go Go.RowKit

section
variable {κ α : Type} [DecidableEq κ]

def mget (k : κ) : List (κ × α) → Option α
  | [] => none
  | x :: r => if k = x.1 then some x.2 else mget k r
def mset (k : κ) (v : α) : List (κ × α) → List (κ × α)
  | [] => [(k, v)]
  | x :: r => if k = x.1 then (k, v) :: r else x :: mset k v r
def mdel (k : κ) : List (κ × α) → List (κ × α)
  | [] => []
  | x :: r => if k = x.1 then r else x :: mdel k r
/-- The first place of a key. -/
def midx (k : κ) : List (κ × α) → Option Nat
  | [] => none
  | x :: r => if k = x.1 then some 0 else (midx k r).map (· + 1)

theorem midx_lt {k : κ} : ∀ {m : List (κ × α)} {i : Nat}, midx k m = some i → i < m.length
  | [], i, h => by cases h
  | x :: r, i, h => by
    unfold midx at h
    split at h
    · cases h; simp
    · cases hr : midx k r with
      | none => rw [hr] at h; cases h
      | some j =>
        rw [hr] at h
        cases h
        have := midx_lt hr
        simp; omega
theorem mget_idx {k : κ} : ∀ {m : List (κ × α)}, mget k m = (midx k m).bind fun i => (m[i]?).map (·.2)
  | [] => rfl
  | x :: r => by
    unfold mget midx
    split
    · simp
    · rw [mget_idx (m := r)]
      cases midx k r <;> simp

/-! ### The plain laws -/
theorem mget_mset_self (k : κ) (v : α) : ∀ m : List (κ × α), mget k (mset k v m) = some v
  | [] => by simp [mset, mget]
  | x :: r => by
    unfold mset
    split
    · simp [mget]
    · rename_i h
      simp only [mget, if_neg h]
      exact mget_mset_self k v r
theorem mget_mset_ne {k j : κ} (v : α) (h : j ≠ k) : ∀ m : List (κ × α), mget j (mset k v m) = mget j m
  | [] => by simp [mset, mget, h]
  | x :: r => by
    unfold mset
    split
    · rename_i he
      have : ¬ j = x.1 := fun e => h (e.trans he.symm)
      simp [mget, h, this]
    · simp only [mget]
      rw [mget_mset_ne v h r]
theorem mget_mdel_ne {k j : κ} (h : j ≠ k) : ∀ m : List (κ × α), mget j (mdel k m) = mget j m
  | [] => rfl
  | x :: r => by
    unfold mdel
    split
    · rename_i he
      have : ¬ j = x.1 := fun e => h (e.trans he.symm)
      simp [mget, this]
    · simp only [mget]
      rw [mget_mdel_ne h r]
theorem mem_of_mget {k : κ} {v : α} : ∀ {m : List (κ × α)}, mget k m = some v → (k, v) ∈ m
  | [], h => by cases h
  | x :: r, h => by
    unfold mget at h
    split at h
    · rename_i he
      cases h
      rw [he]
      exact List.mem_cons_self ..
    · exact List.mem_cons_of_mem _ (mem_of_mget h)
theorem mget_none {k : κ} : ∀ {m : List (κ × α)}, mget k m = none ↔ k ∉ m.map (·.1)
  | [] => by simp [mget]
  | x :: r => by
    unfold mget
    split
    · rename_i he; simp [he]
    · rename_i he
      rw [mget_none (m := r)]
      simp [he]
theorem mget_of_mem {k : κ} {v : α} : ∀ {m : List (κ × α)}, (m.map (·.1)).Nodup → (k, v) ∈ m → mget k m = some v
  | [], _, h => by cases h
  | x :: r, hn, h => by
    rw [List.map_cons, List.nodup_cons] at hn
    unfold mget
    rcases List.mem_cons.1 h with rfl | h
    · simp
    · rw [if_neg (fun he => hn.1 (by rw [← he]; exact List.mem_map.2 ⟨_, h, rfl⟩))]
      exact mget_of_mem hn.2 h
theorem mset_keys {k : κ} {v : α} : ∀ {m : List (κ × α)}, (mset k v m).map (·.1) = if k ∈ m.map (·.1) then m.map (·.1) else m.map (·.1) ++ [k]
  | [] => by simp [mset]
  | x :: r => by
    unfold mset
    split
    · rename_i he; simp [he]
    · rename_i he
      rw [List.map_cons, mset_keys (m := r)]
      by_cases h : k ∈ r.map (·.1)
      · simp only [h, if_true]
        rw [if_pos (by simp only [List.map_cons, List.mem_cons]; exact .inr h)]
        rfl
      · simp only [h, if_false]
        rw [if_neg (by simp only [List.map_cons, List.mem_cons]; exact fun hh => hh.elim he h)]
        rfl
theorem mdel_keys {k : κ} : ∀ {m : List (κ × α)}, (mdel k m).map (·.1) = (m.map (·.1)).erase k
  | [] => rfl
  | x :: r => by
    unfold mdel
    split
    · rename_i he; simp [he]
    · rename_i he
      rw [List.map_cons, mdel_keys (m := r), List.map_cons, List.erase_cons_tail (by simpa using fun e => he e.symm)]
theorem mset_nodup {k : κ} {v : α} {m : List (κ × α)} (h : (m.map (·.1)).Nodup) : ((mset k v m).map (·.1)).Nodup := by
  rw [mset_keys]
  split
  · exact h
  · rename_i hk
    exact List.nodup_append.2 ⟨h, by simp, fun a ha b hb => by simp at hb; rintro rfl; exact hk (hb ▸ ha)⟩
theorem mdel_nodup {k : κ} {m : List (κ × α)} (h : (m.map (·.1)).Nodup) : ((mdel k m).map (·.1)).Nodup := by
  rw [mdel_keys]
  exact h.erase k
theorem mget_mdel_self {k : κ} {m : List (κ × α)} (h : (m.map (·.1)).Nodup) : mget k (mdel k m) = none := by
  rw [mget_none, mdel_keys]
  exact h.not_mem_erase
theorem mset_length {k : κ} {v : α} : ∀ {m : List (κ × α)}, (mset k v m).length = if (mget k m).isSome then m.length else m.length + 1
  | [] => rfl
  | x :: r => by
    unfold mset mget
    split
    · simp
    · simp only [List.length_cons]
      rw [mset_length (m := r)]
      split <;> rfl
theorem mdel_length {k : κ} : ∀ {m : List (κ × α)}, (mdel k m).length = if (mget k m).isSome then m.length - 1 else m.length
  | [] => rfl
  | x :: r => by
    unfold mdel mget
    split
    · simp
    · simp only [List.length_cons]
      rw [mdel_length (m := r)]
      split
      · rename_i h
        obtain ⟨v, hv⟩ := Option.isSome_iff_exists.1 h
        have := List.length_pos_of_mem (mem_of_mget hv)
        omega
      · rfl
end

/-- What a look-up leaves. -/
def lookV2 {α : Type} (vf : α → Value) (z : Value) : Option α → Value
  | some v => .tuple #[vf v, .bool true]
  | none => .tuple #[z, .bool false]
def lookV1 {α : Type} (vf : α → Value) (z : Value) : Option α → Value
  | some v => vf v
  | none => z
/-! ### Keys -/
structure KeyOk {κ : Type} [DecidableEq κ] (P : Program) (kt : TypeId) (kf : κ → Value) : Prop where
  eq : ∀ k k', eqB P 30 kt (kf k) (kf k') = some (decide (k = k'))
  now : ∀ d, P.underlying kt = some d → ∀ k k' b, Instr.sameNow d (kf k) (kf k') = some b → b = decide (k = k')
  chk : ∀ e k W, (Instr.checkKey e 10000 kt (kf k)).run P W = .ok () W
  bits : ∀ k, Instr.sameBits 10000 (kf k) (kf k) = true
  und : ∃ d, P.underlying kt = some d

section
variable {κ α : Type} {P : Program} {kt : TypeId} {kf : κ → Value} {vf : α → Value}

/-- Entries stand for a list. -/
def EntR (kf : κ → Value) (vf : α → Value) (es : List MapEntry) (m : List (κ × α)) : Prop := es.map (fun e => (e.key, e.val)) = m.map fun x => (kf x.1, vf x.2)

theorem EntR.cons {e : MapEntry} {es : List MapEntry} {x : κ × α} {m : List (κ × α)} (h : EntR kf vf (e :: es) (x :: m)) : e.key = kf x.1 ∧ e.val = vf x.2 ∧ EntR kf vf es m := by
  unfold EntR at h
  simp only [List.map_cons, List.cons.injEq, Prod.mk.injEq] at h
  exact ⟨h.1.1, h.1.2, h.2⟩

theorem findNow_spec [DecidableEq κ] (K : KeyOk P kt kf) {d : TypeDesc} (hd : P.underlying kt = some d) (k : κ) : ∀ (es : List MapEntry) (m : List (κ × α)) (i : Nat) (r : Option (Nat × Value)), EntR kf vf es m → Instr.findNow d (kf k) es i = some r →
    r = (midx k m).bind fun j => (m[j]?).map fun x => (i + j, vf x.2)
  | [], m, i, r, h, hf => by
    have : m = [] := by cases m with
      | nil => rfl
      | cons x m => simp [EntR] at h
    subst this
    simp only [Instr.findNow, Option.some.injEq] at hf
    subst hf
    rfl
  | e :: es, [], i, r, h, hf => by simp [EntR] at h
  | e :: es, x :: m, i, r, h, hf => by
    obtain ⟨h1, h2, h3⟩ := h.cons
    unfold Instr.findNow at hf
    rw [h1] at hf
    cases hs : Instr.sameNow d (kf k) (kf x.1) with
    | none => rw [hs] at hf; cases hf
    | some b =>
      have hb := K.now d hd _ _ _ hs
      rw [hs] at hf
      cases b with
      | true =>
        simp only [Option.some.injEq] at hf
        have he : k = x.1 := by simpa using hb.symm
        subst hf
        simp [midx, he, h2]
      | false =>
        have he : ¬ k = x.1 := by simpa using hb.symm
        have := findNow_spec K hd k es m (i + 1) r h3 hf
        rw [this]
        simp only [midx, if_neg he]
        cases midx k m with
        | none => rfl
        | some j => simp; congr 1; funext y; congr 1; omega

theorem findAsking_run [DecidableEq κ] (K : KeyOk P kt kf) (k : κ) (W : World) : ∀ (es : List MapEntry) (m : List (κ × α)) (i : Nat), EntR kf vf es m →
    (Instr.findAsking kt (kf k) es i).run P W = .ok ((midx k m).bind fun j => (m[j]?).map fun x => (i + j, vf x.2)) W
  | [], m, i, h => by
    have : m = [] := by cases m with
      | nil => rfl
      | cons x m => simp [EntR] at h
    subst this
    rfl
  | e :: es, [], i, h => by simp [EntR] at h
  | e :: es, x :: m, i, h => by
    obtain ⟨h1, h2, h3⟩ := h.cons
    unfold Instr.findAsking
    rw [h1]
    have he : (Op.equal kt (kf k) (kf x.1)).run P W = .ok (decide (k = x.1)) W := eqB_run W 30 10000 kt _ _ _ (K.eq k x.1) (by omega)
    rw [run_bind_ok he]
    by_cases hk : k = x.1
    · simp [hk, midx, h2]
    · simp only [decide_eq_false hk, Bool.false_eq_true, if_false]
      rw [findAsking_run K k W es m (i + 1) h3]
      simp only [midx, if_neg hk]
      cases midx k m with
      | none => rfl
      | some j => simp; congr 1; funext y; congr 1; omega

theorem findKey_run [DecidableEq κ] (K : KeyOk P kt kf) (k : κ) (W : World) {es : List MapEntry} {m : List (κ × α)} (h : EntR kf vf es m) :
    (Instr.findKey kt (kf k) es).run P W = .ok ((midx k m).bind fun j => (m[j]?).map fun x => (j, vf x.2)) W := by
  obtain ⟨d, hd⟩ := K.und
  unfold Instr.findKey
  rw [run_bind_ok (run_underlying hd W)]
  cases hf : Instr.findNow d (kf k) es 0 with
  | some r =>
    have := findNow_spec K hd k es m 0 r h hf
    simp only [Nat.zero_add] at this
    rw [this]
    rfl
  | none =>
    have := findAsking_run K k W es m 0 h
    simp only [Nat.zero_add] at this
    exact this

/-- An own map. -/
structure OwnM (w : World) (M : Nat → Prop) (gs : List Nat) (W : World) (r : Nat) (kf : κ → Value) (vf : α → Value) (m : List (κ × α)) : Prop where
  mine : w.heap.size ≤ r ∨ M r
  apart : r ∉ gs
  obj : ∃ es clock, W.heap[r]? = some (.map es clock) ∧ EntR kf vf es.toList m ∧ (es.toList.map (·.born)).Nodup ∧ ∀ e ∈ es.toList, e.born < clock

variable {w W W' : World} {M N : Nat → Prop} {gs gs' : List Nat} {r : Nat} {m : List (κ × α)}

theorem OwnM.lt (h : OwnM w M gs W r kf vf m) : r < W.heap.size := by
  obtain ⟨es, clock, hr, _⟩ := h.obj
  exact (Array.getElem?_eq_some_iff.1 hr).1
theorem OwnM.chg (h : OwnM w M gs W r kf vf m) (hc : Chg N W W') (hn : ¬ N r) : OwnM w M gs W' r kf vf m := by
  have hl := h.lt
  obtain ⟨es, clock, hr, rest⟩ := h.obj
  exact ⟨h.mine, h.apart, es, clock, by rw [hc.block r hl hn, hr], rest⟩
theorem OwnM.base1 {w' : World} {M' : Nat → Prop} (h : OwnM w M gs W r kf vf m) (hm : w'.heap.size ≤ r ∨ M' r) (ha : r ∉ gs') : OwnM w' M' gs' W r kf vf m := ⟨hm, ha, h.obj⟩
theorem OwnM.base0 {w' : World} (h : OwnM w M gs W r kf vf m) (hm : w'.heap.size ≤ r) : OwnM w' noB [] W r kf vf m := ⟨.inl hm, by simp, h.obj⟩
theorem OwnM.call (h : OwnM w M gs W r kf vf m) (hb : Bel W W') : OwnM w M gs W' r kf vf m := h.chg (N := noB) (Chg.of_below hb) id
theorem OwnM.more (h : OwnM w M gs W r kf vf m) (hg : ∀ g ∈ gs', g ∉ gs → W.heap.size ≤ g) : OwnM w M gs' W r kf vf m :=
  ⟨h.mine, fun hr => by
    by_cases hk : r ∈ gs
    · exact h.apart hk
    · have := hg r hr hk
      have := h.lt
      omega, h.obj⟩
theorem OwnM.evo {ds : List Nat} (h : OwnM w M gs W r kf vf m) (hd : ∀ d ∈ ds, d ∉ gs → W.heap.size ≤ d) (hb : Evo ds W W') : OwnM w M gs W' r kf vf m :=
  h.chg (Chg.of_evo hb) fun hm => by
    by_cases hk : r ∈ gs
    · exact h.apart hk
    · have := hd r hm hk
      have := h.lt
      omega

theorem opw_makeMap {t : TypeId} {K : Value → World → Prop} (hA : AtF w M gs W) (h : ∀ g w', W.heap.size = g → AtF w M gs w' → Keeps gs W w' → Bel W w' → OwnM w M gs w' g kf vf ([] : List (κ × α)) → K (.map (some g)) w') : OpW P (valueS (Instr.makeMap t none)) W K := by
  unfold OpW
  rw [run_valueS (run_makeMap t W)]
  refine h _ _ rfl (hA.call (below_alloc _)) (hA.keeps (below_alloc _)) (below_alloc _) ⟨.inl hA.size, fun hm => ?_, #[], 0, heap_alloc_new W _, rfl, by simp, fun e he => by simp at he⟩
  have := hA.under _ hm
  omega

theorem run_getObj_m {es : Array MapEntry} {clock : Nat} (h : W.heap[r]? = some (.map es clock)) : (getObj r).run P W = .ok (.map es clock) W := by
  simp [getObj, Sem.run, h]
theorem run_setObj_m {es : Array MapEntry} {clock : Nat} (h : W.heap[r]? = some (.map es clock)) (o : Obj) : (setObj r o).run P W = .ok () { W with heap := W.heap.setIfInBounds r o } := by
  simp [setObj, Sem.run, h]

theorem run_lookup_m [DecidableEq κ] {t et : TypeId} {z : Value} (K : KeyOk P kt kf) (ht : P.underlying t = some (.map kt et)) (hz : pureRun P (zeroValue et) = some z) (h : OwnM w M gs W r kf vf m) (k : κ) (ok : Bool) :
    (Instr.lookup t (.map (some r)) (kf k) ok).run P W = .ok (match mget k m with
      | some v => cond ok (.tuple #[vf v, .bool true]) (vf v)
      | none => cond ok (.tuple #[z, .bool false]) z) W := by
  obtain ⟨es, clock, hr, he, _⟩ := h.obj
  unfold Instr.lookup
  rw [run_bind_ok (run_underlying ht W)]
  simp only
  rw [run_bind_ok (run_getObj_m hr)]
  simp only [pure_bind]
  rw [run_bind_ok (K.chk es.isEmpty k W), run_bind_ok (findKey_run K k W he), mget_idx]
  cases hm : midx k m with
  | none =>
    simp only [Option.bind_none]
    rw [run_bind_ok (pureRun_run hz W)]
    cases ok <;> rfl
  | some j =>
    have hj := midx_lt hm
    have hjj : m[j]? = some m[j] := List.getElem?_eq_getElem hj
    simp only [Option.bind_some, hjj, Option.map_some]
    cases ok <;> rfl

/-- Looking up, with a flag. -/
theorem reads_lookup2 [DecidableEq κ] {t et : TypeId} {z : Value} (K : KeyOk P kt kf) (ht : P.underlying t = some (.map kt et)) (hz : pureRun P (zeroValue et) = some z) (h : OwnM w M gs W r kf vf m) (k : κ) {ds : List Nat} (hd : ∀ d ∈ ds, d ≠ r) :
    Reads P ds (Instr.lookup t (.map (some r)) (kf k) true) W (lookV2 vf z (mget k m)) := by
  intro W' hW'
  have h' : OwnM w M gs W' r kf vf m := by
    have hb : W'.heap[r]? = W.heap[r]? := by
      cases ds with
      | nil => exact Bel.block hW' h.lt
      | cons d s => exact Evo.block hW' _ h.lt (fun hm => hd _ hm rfl)
    obtain ⟨es, clock, hr, rest⟩ := h.obj
    exact ⟨h.mine, h.apart, es, clock, by rw [hb, hr], rest⟩
  rw [run_lookup_m K ht hz h' k true]
  cases mget k m <;> rfl
theorem reads_lookup1 [DecidableEq κ] {t et : TypeId} {z : Value} (K : KeyOk P kt kf) (ht : P.underlying t = some (.map kt et)) (hz : pureRun P (zeroValue et) = some z) (h : OwnM w M gs W r kf vf m) (k : κ) {ds : List Nat} (hd : ∀ d ∈ ds, d ≠ r) :
    Reads P ds (Instr.lookup t (.map (some r)) (kf k) false) W (lookV1 vf z (mget k m)) := by
  intro W' hW'
  have h' : OwnM w M gs W' r kf vf m := by
    have hb : W'.heap[r]? = W.heap[r]? := by
      cases ds with
      | nil => exact Bel.block hW' h.lt
      | cons d s => exact Evo.block hW' _ h.lt (fun hm => hd _ hm rfl)
    obtain ⟨es, clock, hr, rest⟩ := h.obj
    exact ⟨h.mine, h.apart, es, clock, by rw [hb, hr], rest⟩
  rw [run_lookup_m K ht hz h' k false]
  cases mget k m <;> rfl

theorem EntR.len {es : List MapEntry} (h : EntR kf vf es m) : es.length = m.length := by
  have := congrArg List.length h
  simpa using this
theorem EntR.at_ : ∀ {es : List MapEntry} {m : List (κ × α)} {i : Nat} {x : κ × α}, EntR kf vf es m → m[i]? = some x → ∃ e, es[i]? = some e ∧ e.key = kf x.1 ∧ e.val = vf x.2
  | es, m, i, x, h, hx => by
    have := congrArg (·[i]?) h
    simp only [List.getElem?_map, hx, Option.map_some] at this
    cases he : es[i]? with
    | none => rw [he] at this; cases this
    | some e =>
      rw [he] at this
      simp at this
      exact ⟨e, rfl, this.1, this.2⟩

theorem mset_at [DecidableEq κ] {k : κ} {v : α} : ∀ {m : List (κ × α)} {j : Nat}, midx k m = some j → mset k v m = m.set j (k, v)
  | [], j, h => by cases h
  | x :: r, j, h => by
    unfold midx at h
    unfold mset
    split at h
    · rename_i he
      cases h
      rw [if_pos he]
      rfl
    · rename_i he
      rw [if_neg he]
      cases hr : midx k r with
      | none => rw [hr] at h; cases h
      | some i =>
        rw [hr] at h
        cases h
        rw [mset_at hr]
        rfl
theorem mset_new [DecidableEq κ] {k : κ} {v : α} : ∀ {m : List (κ × α)}, midx k m = none → mset k v m = m ++ [(k, v)]
  | [], _ => rfl
  | x :: r, h => by
    unfold midx at h
    unfold mset
    split at h
    · cases h
    · rename_i he
      rw [if_neg he]
      cases hr : midx k r with
      | none => rw [mset_new hr]; rfl
      | some i => rw [hr] at h; cases h
theorem mdel_at [DecidableEq κ] {k : κ} : ∀ {m : List (κ × α)} {j : Nat}, midx k m = some j → mdel k m = m.eraseIdx j
  | [], j, h => by cases h
  | x :: r, j, h => by
    unfold midx at h
    unfold mdel
    split at h
    · rename_i he
      cases h
      rw [if_pos he]
      rfl
    · rename_i he
      rw [if_neg he]
      cases hr : midx k r with
      | none => rw [hr] at h; cases h
      | some i =>
        rw [hr] at h
        cases h
        rw [mdel_at hr]
        rfl
theorem mdel_none [DecidableEq κ] {k : κ} : ∀ {m : List (κ × α)}, midx k m = none → mdel k m = m
  | [], _ => rfl
  | x :: r, h => by
    unfold midx at h
    unfold mdel
    split at h
    · cases h
    · rename_i he
      rw [if_neg he]
      cases hr : midx k r with
      | none => rw [mdel_none hr]
      | some i => rw [hr] at h; cases h
theorem midx_key [DecidableEq κ] {k : κ} : ∀ {m : List (κ × α)} {j : Nat}, midx k m = some j → ∃ v, m[j]? = some (k, v)
  | [], j, h => by cases h
  | x :: r, j, h => by
    unfold midx at h
    split at h
    · rename_i he
      cases h
      exact ⟨x.2, by rw [he]; rfl⟩
    · cases hr : midx k r with
      | none => rw [hr] at h; cases h
      | some i =>
        rw [hr] at h
        cases h
        obtain ⟨v, hv⟩ := midx_key hr
        exact ⟨v, by simpa using hv⟩

theorem setObj_heap (h : r < W.heap.size) (o : Obj) : (W.heap.setIfInBounds r o)[r]? = some o := by simp [h]

/-- Putting in. -/
theorem opw_mapUpdate [DecidableEq κ] {t et : TypeId} {k : κ} {v : α} {K : Value → World → Prop} (Ko : KeyOk P kt kf) (ht : P.underlying t = some (.map kt et)) (hA : AtF w M gs W) (ho : OwnM w M gs W r kf vf m)
    (h : ∀ w', AtF w M gs w' → Keeps gs W w' → Chg (fun b => b = r) W w' → OwnM w M gs w' r kf vf (mset k v m) → K undef w') : OpW P (skipS (Instr.mapUpdate t (.map (some r)) (kf k) (vf v))) W K := by
  have hl := ho.lt
  obtain ⟨es, clock, hr, he, hn, hb⟩ := ho.obj
  have fin : ∀ (es' : Array MapEntry) (clock' : Nat), EntR kf vf es'.toList (mset k v m) → (es'.toList.map (·.born)).Nodup → (∀ e ∈ es'.toList, e.born < clock') →
      K undef { W with heap := W.heap.setIfInBounds r (.map es' clock') } := fun es' clock' h1 h2 h3 =>
    h _ (hA.setObjF ho.mine) (keeps_setObj ho.apart) chg_setObj ⟨ho.mine, ho.apart, es', clock', setObj_heap hl _, h1, h2, h3⟩
  have hrun : ∃ es' clock', (Instr.mapUpdate t (.map (some r)) (kf k) (vf v)).run P W = .ok () { W with heap := W.heap.setIfInBounds r (.map es' clock') } ∧ EntR kf vf es'.toList (mset k v m) ∧ (es'.toList.map (·.born)).Nodup ∧ (∀ e ∈ es'.toList, e.born < clock') := by
    unfold Instr.mapUpdate
    rw [run_bind_ok (run_underlying ht W)]
    simp only
    rw [run_bind_ok (run_getObj_m hr)]
    simp only
    rw [run_bind_ok (Ko.chk false k W), run_bind_ok (findKey_run Ko k W he)]
    cases hm : midx k m with
    | none =>
      refine ⟨es.push { key := kf k, val := vf v, born := clock }, clock + 1, run_setObj_m hr _, ?_, ?_, ?_⟩
      · rw [mset_new hm, Array.toList_push]
        unfold EntR at he ⊢
        rw [List.map_append, List.map_append, he]
        rfl
      · rw [Array.toList_push, List.map_append]
        refine List.nodup_append.2 ⟨hn, by simp, fun a ha b hb' => ?_⟩
        simp at hb'
        obtain ⟨e, hem, rfl⟩ := List.mem_map.1 ha
        have := hb e hem
        omega
      · intro e hem
        rw [Array.toList_push] at hem
        rcases List.mem_append.1 hem with h1 | h1
        · have := hb e h1; omega
        · simp at h1; subst h1; simp
    | some j =>
      obtain ⟨v0, hv0⟩ := midx_key hm
      obtain ⟨e0, he0, hk0, _⟩ := EntR.at_ he hv0
      have he0' : es[j]? = some e0 := by simpa using he0
      simp only [Option.bind_some, hv0, Option.map_some, he0', Option.getD_some, hk0]
      have hks : (Instr.keyThatStays (kf k) (kf k)).run P W = .ok (kf k) W := by
        unfold Instr.keyThatStays
        rw [if_pos (Ko.bits k)]
        rfl
      rw [run_bind_ok hks]
      refine ⟨es.modify j fun e => { e with key := kf k, val := vf v }, clock, run_setObj_m hr _, ?_, ?_, ?_⟩
      · rw [mset_at hm]
        unfold EntR at he ⊢
        rw [List.map_set, ← he]
        apply List.ext_getElem?
        intro i
        simp only [List.getElem?_map, Array.getElem?_toList, Array.getElem?_modify, List.getElem?_set, List.length_map, Array.length_toList]
        by_cases hij : j = i
        · subst hij
          have := (Array.getElem?_eq_some_iff.1 he0').1
          simp [this]
        · simp [hij]
      · have : (es.modify j fun e => { e with key := kf k, val := vf v }).toList.map (·.born) = es.toList.map (·.born) := by
          apply List.ext_getElem?
          intro i
          simp only [List.getElem?_map, Array.getElem?_toList, Array.getElem?_modify]
          by_cases hij : j = i
          · subst hij; simp [he0']
          · simp [hij]
        rw [this]
        exact hn
      · intro e hem
        obtain ⟨i, hi⟩ := List.mem_iff_getElem?.1 hem
        simp only [Array.getElem?_toList, Array.getElem?_modify] at hi
        by_cases hij : j = i
        · subst hij
          simp [he0'] at hi
          subst hi
          exact hb e0 (List.mem_of_getElem? he0)
        · simp [hij] at hi
          exact hb e (List.mem_of_getElem? (i := i) (by simpa using hi))
  obtain ⟨es', clock', hr', h1, h2, h3⟩ := hrun
  unfold OpW skipS
  rw [run_bind_ok hr']
  exact fin es' clock' h1 h2 h3

theorem map_eraseIdx' {α β : Type} (f : α → β) : ∀ (l : List α) (i : Nat), (l.eraseIdx i).map f = (l.map f).eraseIdx i
  | [], _ => rfl
  | _ :: _, 0 => rfl
  | x :: l, i + 1 => by simp [map_eraseIdx' f l i]
/-- Taking out. -/
theorem opw_delete [DecidableEq κ] {t et ty : TypeId} {fl : Array Bool} {k : κ} {K : Value → World → Prop} (Ko : KeyOk P kt kf) (ht : P.underlying t = some (.map kt et)) (hA : AtF w M gs W) (ho : OwnM w M gs W r kf vf m) {t2 : TypeId}
    (h : ∀ w', AtF w M gs w' → Keeps gs W w' → Chg (fun b => b = r) W w' → OwnM w M gs w' r kf vf (mdel k m) → K (.tuple #[]) w') : OpW P (builtin .delete #[t, t2] ty fl #[.map (some r), kf k]) W K := by
  have hl := ho.lt
  obtain ⟨es, clock, hr, he, hn, hb⟩ := ho.obj
  have hrun : ∃ es', (Builtin.delete_ #[t, t2] ty #[.map (some r), kf k]).run P W = .ok (.tuple #[]) { W with heap := W.heap.setIfInBounds r (.map es' clock) } ∧ EntR kf vf es'.toList (mdel k m) ∧ (es'.toList.map (·.born)).Nodup ∧ (∀ e ∈ es'.toList, e.born < clock) := by
    unfold Builtin.delete_
    simp only [List.getElem?_toArray, List.getElem?_cons_zero, List.getElem?_cons_succ]
    rw [run_bind_ok (run_underlying ht W)]
    simp only
    rw [run_bind_ok (run_getObj_m hr)]
    simp only
    rw [run_bind_ok (Ko.chk es.isEmpty k W), run_bind_ok (findKey_run Ko k W he)]
    cases hm : midx k m with
    | none =>
      refine ⟨es, ?_, by rw [mdel_none hm]; exact he, hn, hb⟩
      simp only [Option.bind_none]
      rw [run_bind_ok (run_setObj_m hr _)]
      rfl
    | some j =>
      obtain ⟨v0, hv0⟩ := midx_key hm
      simp only [Option.bind_some, hv0, Option.map_some]
      refine ⟨es.eraseIdxIfInBounds j, by rw [run_bind_ok (run_setObj_m hr _)]; rfl, ?_, ?_, ?_⟩
      all_goals
        have hjl : j < es.size := by
          have := midx_lt hm
          have := EntR.len he
          simp at this
          omega
        have hel : (es.eraseIdxIfInBounds j).toList = es.toList.eraseIdx j := by
          simp [Array.eraseIdxIfInBounds, hjl]
      · rw [hel, mdel_at hm]
        unfold EntR at he ⊢
        rw [map_eraseIdx', he, map_eraseIdx']
      · rw [hel, map_eraseIdx']
        exact hn.sublist (List.eraseIdx_sublist ..)
      · intro e hem
        rw [hel] at hem
        exact hb e (List.mem_of_mem_eraseIdx hem)
  obtain ⟨es', hr', h1, h2, h3⟩ := hrun
  have hrun2 : (builtin .delete #[t, t2] ty fl #[.map (some r), kf k]).run P W = .ok (.value (.tuple #[])) { W with heap := W.heap.setIfInBounds r (.map es' clock) } := by
    show (do pure (Next.value (← Builtin.delete_ #[t, t2] ty #[.map (some r), kf k])) : Sem Next).run P W = _
    rw [run_bind_ok hr']
    rfl
  unfold OpW
  rw [hrun2]
  exact h _ (hA.setObjF ho.mine) (keeps_setObj ho.apart) chg_setObj ⟨ho.mine, ho.apart, es', clock, setObj_heap hl _, h1, h2, h3⟩
end
end Go.Vc

/- Keys of maps: integers, strings. -/
namespace Go.Vc
open Go Go.RowKit
theorem toList_eq (t s : ByteArray) : (t.toList == s.toList) = decide (t = s) := by
  by_cases h : t = s
  · subst h; simp
  · have : t.toList ≠ s.toList := fun e => h (by
      rw [ByteArray.toList_eq, ByteArray.toList_eq] at e
      have := Array.ext' e
      cases t; cases s
      simpa using this)
    simp [h, this]
theorem beq_ba (a b : ByteArray) : (a == b) = decide (a = b) := by rw [beq_toListBytes, toList_eq]
theorem keyOk_str {P : Program} {kt : TypeId} (h : P.underlying kt = some .string) : KeyOk P kt Value.string where
  eq := fun k k' => by unfold eqB; rw [h]; simp only; rw [beq_ba]
  now := fun d hd k k' b hb => by rw [h] at hd; cases hd; simp [Instr.sameNow] at hb; rw [← hb, beq_ba]
  chk := fun e k W => MapKept.run_checkKey (k := .string k) h trivial e 9999
  bits := fun k => by unfold Instr.sameBits; rw [beq_ba]; simp
  und := ⟨_, h⟩
theorem keyOk_int {P : Program} {kt : TypeId} {q : IntKind} (h : P.underlying kt = some (.int q)) : KeyOk P kt (Value.int q) where
  eq := fun k k' => by
    unfold eqB; rw [h]
    simp only [decide_true, cond_true, Option.some.injEq]
    rw [Bool.eq_iff_iff]; simp
  now := fun d hd k k' b hb => by
    rw [h] at hd; cases hd; simp [Instr.sameNow] at hb; rw [← hb, Bool.eq_iff_iff]; simp
  chk := fun e k W => MapKept.run_checkKey (k := .int q k) h (by unfold MapKept.IsKey; rfl) e 9999
  bits := fun k => by unfold Instr.sameBits; simp
  und := ⟨_, h⟩
end Go.Vc

/- Structs behind pointers: their fields read and stored; what an own row's block is. -/
namespace Go.Vc
open Go Go.RowKit

section
variable {P : Program} {M N : Nat → Prop} {w W W' : World} {gs : List Nat}

theorem elt_cells {g : Nat} {cells : List Value} {ty : TypeId} (h : W.heap[g]? = some (.cells cells.toArray ty (0, 0))) : Elt W ⟨g, 0, none⟩ cells := by
  intro j v hv
  rw [addr_add, cell_at (cells := cells) (ty := ty) (fr := (0, 0)) h, Nat.zero_add]
  exact hv
/-- A field read. -/
theorem rd_f0 {g : Nat} {v : Value} {r : List Value} {ty te : TypeId} {ds : List Nat} (h : W.heap[g]? = some (.cells (v :: r).toArray ty (0, 0))) (hagg : pureRun P (isAgg te) = some false) (hd : ∀ d ∈ ds, d ≠ g) : Reads P ds (Instr.loadAt te (.pointer (some ⟨g, 0, none⟩))) W v :=
  (elt_cells h).one hagg hd
theorem rd_f {g : Nat} (o : Nat) {v : Value} {r cs : List Value} {ty te : TypeId} {ds : List Nat} (h : W.heap[g]? = some (.cells cs.toArray ty (0, 0))) (hc : cs.drop (o + 1) = v :: r) (hagg : pureRun P (isAgg te) = some false) (hd : ∀ d ∈ ds, d ≠ g) : Reads P ds (Instr.loadAt te (.pointer (some (Addr.mk g (0 + (o + 1)) none)))) W v := by
  have := (elt_cells h).sub (o := o + 1) (by omega)
  rw [hc] at this
  exact this.one hagg hd

theorem opw_storeF {g off : Nat} {cells cells' : List Value} {ty te : TypeId} {v : Value} {K : Value → World → Prop} (hA : AtF w M gs W) (hg : W.heap[g]? = some (.cells cells.toArray ty (0, 0))) (hm : w.heap.size ≤ g ∨ M g) (hap : g ∉ gs) (hc : cellStore P te cells off v = some cells')
    (h : ∀ w', AtF w M gs w' → Keeps gs W w' → Chg (fun b => b = g) W w' → w'.heap[g]? = some (.cells cells'.toArray ty (0, 0)) → K undef w') : OpW P (skipS (Instr.storeAt te (.pointer (some ⟨g, off, none⟩)) v)) W K := by
  obtain ⟨W', hr, hg', hb, hs1, h2, h3, h4⟩ := run_cellStore (P := P) (t := te) hg hc
  have hch : Chg (fun b => b = g) W W' := ⟨h2, h3, h4, by omega, fun k _ hk => hb k hk, run_drawn hr⟩
  have hsk : (skipS (Instr.storeAt te (.pointer (some ⟨g, off, none⟩)) v)).run P W = .ok .skip W' := by
    unfold skipS
    rw [run_bind_ok hr]
    rfl
  unfold OpW
  rw [hsk]
  exact h W' (hA.step hch fun b _ hb => by subst hb; exact hm) (hA.keepsC hch fun x hx e => hap (by subst e; exact hx)) hch hg'

/-- A struct boxed: its block. -/
theorem opw_boxS {t : TypeId} {x : Value} {K : Value → World → Prop} (hA : AtF w M gs W) (h : ∀ g w', W.heap.size = g → AtF w M gs w' → Keeps gs W w' → Bel W w' → w'.heap[g]? = some (.cells x.cells t (0, 0)) → K (.pointer (some ⟨g, 0, none⟩)) w') : OpW P (valueS (Instr.box t x)) W K := by
  have hr : (Instr.box t x).run P W = .ok (.pointer (some ⟨W.heap.size, 0, none⟩)) (W.alloc (.cells x.cells t)) := rfl
  unfold OpW
  rw [run_valueS hr]
  exact h _ _ rfl (hA.call (below_alloc _)) (hA.keeps (below_alloc _)) (below_alloc _) (heap_alloc_new W _)

theorem OwnF.blk {α : Type} {e : TypeId} {size : Nat} {f : α → List Value} {v : Value} {l : List α} (h : OwnF w M gs W e size f v l) {k : Nat} (hk : v.ownBlock = some k) : ∃ cur, W.heap[k]? = some (.cells cur e (0, 0)) := by
  rcases h.row0.2 with ⟨hv, _⟩ | ⟨g, cap, cur, hv, _, hg, _⟩
  · rw [hv] at hk; cases hk
  · rw [hv] at hk
    cases hk
    exact ⟨cur, hg⟩
theorem cells_ne {j k : Nat} {c c' : Array Value} {e e' : TypeId} {fr fr' : Nat × Nat} (h : W.heap[j]? = some (.cells c e fr)) (h' : W.heap[k]? = some (.cells c' e' fr')) (hne : e ≠ e') : j ≠ k := fun hjk => by
  subst hjk
  rw [h] at h'
  cases h'
  exact hne rfl
theorem cells_map {j k : Nat} {c : Array Value} {e : TypeId} {fr : Nat × Nat} {es : Array MapEntry} {cl : Nat} (h : W.heap[j]? = some (.cells c e fr)) (h' : W.heap[k]? = some (.map es cl)) : j ≠ k := fun hjk => by
  subst hjk
  rw [h] at h'
  cases h'
end
end Go.Vc

/- Plain arithmetic: wrapping, masks, the product by quarters. -/
namespace Go.Vc
open Go

theorem wrap_i64 {x : Int} (h1 : -9223372036854775808 ≤ x) (h2 : x ≤ 9223372036854775807) : IntKind.i64.wrap x = x := by
  have e : IntKind.i64.wrap x = if x % 18446744073709551616 ≥ 9223372036854775808 then x % 18446744073709551616 - 18446744073709551616 else x % 18446744073709551616 := by
    simp [IntKind.wrap, IntKind.bits, IntKind.signed]
  rw [e]
  split <;> omega
theorem wrap_u64 (x : Int) : IntKind.u64.wrap x = x % 18446744073709551616 := by
  simp [IntKind.wrap, IntKind.bits, IntKind.signed]
theorem wrap_u64_id {x : Int} (h1 : 0 ≤ x) (h2 : x < 18446744073709551616) : IntKind.u64.wrap x = x := by
  rw [wrap_u64]; omega
theorem wrap_u8 (x : Int) : IntKind.u8.wrap x = x % 256 := by
  simp [IntKind.wrap, IntKind.bits, IntKind.signed]
theorem wrap_u16 (x : Int) : IntKind.u16.wrap x = x % 65536 := by
  simp [IntKind.wrap, IntKind.bits, IntKind.signed]
theorem wrap_u32 (x : Int) : IntKind.u32.wrap x = x % 4294967296 := by
  simp [IntKind.wrap, IntKind.bits, IntKind.signed]
theorem wrap_i32 {x : Int} (h1 : -2147483648 ≤ x) (h2 : x ≤ 2147483647) : IntKind.i32.wrap x = x := by
  have e : IntKind.i32.wrap x = if x % 4294967296 ≥ 2147483648 then x % 4294967296 - 4294967296 else x % 4294967296 := by
    simp [IntKind.wrap, IntKind.bits, IntKind.signed]
  rw [e]
  split <;> omega

theorem and_low32 {x : Int} (h1 : 0 ≤ x) (h2 : x < 18446744073709551616) : ((BitVec.ofInt 64 x &&& BitVec.ofInt 64 4294967295).toNat : Int) = x % 4294967296 := by
  obtain ⟨n, rfl⟩ := Int.eq_ofNat_of_zero_le h1
  have hn : n < 18446744073709551616 := by omega
  have e1 : (BitVec.ofInt 64 (n : Int)).toNat = n := by
    simp
    omega
  have e2 : (BitVec.ofInt 64 4294967295).toNat = 2 ^ 32 - 1 := by decide
  rw [BitVec.toNat_and, e1, e2, Nat.and_two_pow_sub_one_eq_mod]
  omega

theorem mul_lt32 {a b : Int} (ha : 0 ≤ a) (ha' : a < 4294967296) (hb : 0 ≤ b) (hb' : b < 4294967296) : 0 ≤ a * b ∧ a * b ≤ 18446744065119617025 := by
  refine ⟨Int.mul_nonneg ha hb, ?_⟩
  have h1 : a * b ≤ 4294967295 * b := Int.mul_le_mul_of_nonneg_right (by omega) hb
  have h2 : (4294967295 : Int) * b ≤ 4294967295 * 4294967295 := Int.mul_le_mul_of_nonneg_left (by omega) (by omega)
  omega

/-- A product by quarters: with high and low halves. -/
theorem quarters {a b : Int} (ha : 0 ≤ a) (ha' : a < 18446744073709551616) (hb : 0 ≤ b) (hb' : b < 18446744073709551616) :
    ∃ ah al bh bl p q r t : Int, a / 4294967296 = ah ∧ a % 4294967296 = al ∧ b / 4294967296 = bh ∧ b % 4294967296 = bl ∧ ah * bh = p ∧ ah * bl = q ∧ al * bh = r ∧ al * bl = t ∧
      (0 ≤ p ∧ p ≤ 18446744065119617025) ∧ (0 ≤ q ∧ q ≤ 18446744065119617025) ∧ (0 ≤ r ∧ r ≤ 18446744065119617025) ∧ (0 ≤ t ∧ t ≤ 18446744065119617025) ∧ a * b = p * 18446744073709551616 + (q + r) * 4294967296 + t := by
  refine ⟨_, _, _, _, _, _, _, _, rfl, rfl, rfl, rfl, rfl, rfl, rfl, rfl, mul_lt32 ?_ ?_ ?_ ?_, mul_lt32 ?_ ?_ ?_ ?_, mul_lt32 ?_ ?_ ?_ ?_, mul_lt32 ?_ ?_ ?_ ?_, ?_⟩
  all_goals first | omega | skip
  have e1 : a = a / 4294967296 * 4294967296 + a % 4294967296 := by omega
  have e2 : b = b / 4294967296 * 4294967296 + b % 4294967296 := by omega
  generalize a / 4294967296 = x at *
  generalize a % 4294967296 = y at *
  generalize b / 4294967296 = u at *
  generalize b % 4294967296 = v at *
  subst e1
  subst e2
  simp only [Int.add_mul, Int.mul_add]
  have h1 : x * 4294967296 * (u * 4294967296) = x * u * 18446744073709551616 := by
    rw [Int.mul_assoc, Int.mul_left_comm 4294967296 u, ← Int.mul_assoc, show (4294967296 : Int) * 4294967296 = 18446744073709551616 from rfl]
  have h2 : x * 4294967296 * v = x * v * 4294967296 := by rw [Int.mul_right_comm]
  have h3 : y * (u * 4294967296) = y * u * 4294967296 := by rw [Int.mul_assoc]
  rw [h1, h2, h3]
  omega

theorem fdiv_pos (x : Int) {m : Int} (h : 0 ≤ m) : x.fdiv m = x / m := Int.fdiv_eq_ediv_of_nonneg x h

theorem drop_cons {α : Type} {l : List α} {k : Nat} {x : α} (h : l[k]? = some x) : l.drop k = x :: l.drop (k + 1) := by
  obtain ⟨hk, rfl⟩ := List.getElem?_eq_some_iff.1 h
  exact List.drop_eq_getElem_cons hk
end Go.Vc

/- Search trees that keep their sides nearly even. No program in sight. -/
namespace Go.Vc.T

inductive Tr (α : Type) where
  | nil
  | node (l : Tr α) (k : α) (r : Tr α)
namespace Tr
variable {α : Type}
def size : Tr α → Nat
  | nil => 0
  | node l _ r => size l + size r + 1
def height : Tr α → Nat
  | nil => 0
  | node l _ r => max (height l) (height r) + 1
def toL : Tr α → List α
  | nil => []
  | node l k r => toL l ++ k :: toL r
theorem size_len : ∀ t : Tr α, t.size = t.toL.length
  | nil => rfl
  | node l k r => by simp [size, toL, size_len l, size_len r]; omega
theorem height_le : ∀ t : Tr α, t.height ≤ t.size
  | nil => Nat.le_refl _
  | node l k r => by
    have := height_le l
    have := height_le r
    simp only [size, height]
    omega
def riseL : Tr α → α → Tr α → Tr α
  | node a b c, k, r => node a b (node c k r)
  | nil, k, r => node nil k r
def riseR : Tr α → α → Tr α → Tr α
  | l, k, node a b c => node (node l k a) b c
  | l, k, nil => node l k nil
/-- The left side, made ready to rise. -/
def readyL : Tr α → Tr α
  | node a b c => if a.height < c.height then riseR a b c else node a b c
  | nil => nil
def readyR : Tr α → Tr α
  | node a b c => if c.height < a.height then riseL a b c else node a b c
  | nil => nil
def even (l : Tr α) (k : α) (r : Tr α) : Tr α :=
  if l.height > r.height + 1 then riseL (readyL l) k r
  else if r.height > l.height + 1 then riseR l k (readyR r)
  else node l k r
theorem toL_riseL (l : Tr α) (k : α) (r : Tr α) : (riseL l k r).toL = l.toL ++ k :: r.toL := by
  cases l <;> simp [riseL, toL]
theorem toL_riseR (l : Tr α) (k : α) (r : Tr α) : (riseR l k r).toL = l.toL ++ k :: r.toL := by
  cases r <;> simp [riseR, toL]
theorem toL_readyL (l : Tr α) : (readyL l).toL = l.toL := by
  cases l with
  | nil => rfl
  | node a b c =>
    simp only [readyL]
    split
    · rw [toL_riseR]; rfl
    · rfl
theorem toL_readyR (l : Tr α) : (readyR l).toL = l.toL := by
  cases l with
  | nil => rfl
  | node a b c =>
    simp only [readyR]
    split
    · rw [toL_riseL]; rfl
    · rfl
theorem toL_even (l : Tr α) (k : α) (r : Tr α) : (even l k r).toL = l.toL ++ k :: r.toL := by
  unfold even
  split
  · rw [toL_riseL, toL_readyL]
  · split
    · rw [toL_riseR, toL_readyR]
    · rfl

variable (cf : α → α → Int)
def put (x : α) : Tr α → Tr α × Bool
  | nil => (node nil x nil, true)
  | node l k r =>
    if cf x k < 0 then (even (put x l).1 k r, (put x l).2)
    else if cf x k > 0 then (even l k (put x r).1, (put x r).2)
    else (even l k r, false)
/-- The first one taken out. -/
def least : Tr α → α → Tr α → Tr α × α
  | nil, k, r => (r, k)
  | node a b c, k, r => (even (least a b c).1 k r, (least a b c).2)
/-- The two sides of one that is taken out. -/
def dropTop : Tr α → Tr α → Tr α × Bool
  | nil, r => (r, true)
  | node a b c, nil => (node a b c, true)
  | node u v w, node a b c => (even (node u v w) (least a b c).2 (least a b c).1, true)
def drop (x : α) : Tr α → Tr α × Bool
  | nil => (nil, false)
  | node l k r =>
    if cf x k < 0 then (even (drop x l).1 k r, (drop x l).2)
    else if cf x k > 0 then (even l k (drop x r).1, (drop x r).2)
    else dropTop l r
theorem toL_least : ∀ (l : Tr α) (k : α) (r : Tr α), (least l k r).2 :: (least l k r).1.toL = l.toL ++ k :: r.toL
  | nil, k, r => rfl
  | node a b c, k, r => by
    have := toL_least a b c
    simp only [least, toL_even, toL]
    rw [← List.cons_append, this]

/-- An order, as a function tells it. -/
structure Ord (cf : α → α → Int) : Prop where
  eq : ∀ a b, cf a b = 0 ↔ a = b
  flip : ∀ a b, cf a b < 0 ↔ cf b a > 0
  trans : ∀ a b c, cf a b < 0 → cf b c < 0 → cf a c < 0
variable {cf}
abbrev Srt (cf : α → α → Int) (l : List α) : Prop := l.Pairwise fun a b => cf a b < 0
theorem Ord.irrefl (h : Ord cf) (a : α) : ¬ cf a a < 0 := fun e => by
  have := (h.eq a a).2 rfl
  omega
theorem srt_ext (h : Ord cf) {s t : List α} (hs : Srt cf s) (ht : Srt cf t) (hm : ∀ y, y ∈ s ↔ y ∈ t) : s = t := by
  induction s generalizing t with
  | nil =>
    cases t with
    | nil => rfl
    | cons b t => exact absurd ((hm b).2 (by simp)) (by simp)
  | cons a s ih =>
    cases t with
    | nil => exact absurd ((hm a).1 (by simp)) (by simp)
    | cons b t =>
      have hs := List.pairwise_cons.1 hs
      have ht := List.pairwise_cons.1 ht
      have hab : a = b := by
        rcases List.mem_cons.1 ((hm a).1 (by simp)) with e | m
        · exact e
        · rcases List.mem_cons.1 ((hm b).2 (by simp)) with e | m2
          · exact e.symm
          · exact absurd (h.trans _ _ _ (ht.1 a m) (hs.1 b m2)) (h.irrefl _)
      subst hab
      rw [ih hs.2 ht.2 fun y => ?_]
      constructor
      · intro hy
        rcases List.mem_cons.1 ((hm y).1 (by simp [hy])) with e | m
        · subst e; exact absurd (hs.1 y hy) (h.irrefl _)
        · exact m
      · intro hy
        rcases List.mem_cons.1 ((hm y).2 (by simp [hy])) with e | m
        · subst e; exact absurd (ht.1 y hy) (h.irrefl _)
        · exact m
theorem srt_mid {l r : List α} {k : α} : Srt cf (l ++ k :: r) ↔ Srt cf l ∧ Srt cf r ∧ (∀ a ∈ l, cf a k < 0) ∧ (∀ b ∈ r, cf k b < 0) ∧ ∀ a ∈ l, ∀ b ∈ r, cf a b < 0 := by
  unfold Srt
  rw [List.pairwise_append, List.pairwise_cons]
  constructor
  · rintro ⟨h1, ⟨h2, h3⟩, h4⟩
    exact ⟨h1, h3, fun a ha => h4 a ha k (by simp), h2, fun a ha b hb => h4 a ha b (by simp [hb])⟩
  · rintro ⟨h1, h2, h3, h4, h5⟩
    refine ⟨h1, ⟨h4, h2⟩, fun a ha b hb => ?_⟩
    rcases List.mem_cons.1 hb with e | m
    · rw [e]; exact h3 a ha
    · exact h5 a ha b m

theorem put_spec (h : Ord cf) (x : α) : ∀ t : Tr α, Srt cf t.toL → Srt cf (put cf x t).1.toL ∧ (∀ y, y ∈ (put cf x t).1.toL ↔ y = x ∨ y ∈ t.toL) ∧ ((put cf x t).2 = true ↔ x ∉ t.toL)
  | nil, _ => by simp [put, toL]
  | node l k r, hs => by
    obtain ⟨s1, s2, s3, s4, s5⟩ := srt_mid.1 hs
    rw [put]
    split
    · rename_i hlt
      obtain ⟨i1, i2, i3⟩ := put_spec h x l s1
      have hxr : ∀ b ∈ r.toL, cf x b < 0 := fun b hb => h.trans _ _ _ hlt (s4 b hb)
      have hnx : x ≠ k ∧ x ∉ r.toL := ⟨fun e => by rw [(h.eq x k).2 e] at hlt; omega, fun hm => h.irrefl x (hxr x hm)⟩
      simp only [toL_even, toL]
      refine ⟨srt_mid.2 ⟨i1, s2, fun a ha => ?_, s4, fun a ha b hb => ?_⟩, fun y => ?_, ?_⟩
      · rcases (i2 a).1 ha with e | m
        · rw [e]; exact hlt
        · exact s3 a m
      · rcases (i2 a).1 ha with e | m
        · rw [e]; exact hxr b hb
        · exact s5 a m b hb
      · simp only [List.mem_append, List.mem_cons, i2]
        constructor
        · rintro ((e | m) | m)
          · exact .inl e
          · exact .inr (.inl m)
          · exact .inr (.inr m)
        · rintro (e | m | m)
          · exact .inl (.inl e)
          · exact .inl (.inr m)
          · exact .inr m
      · rw [i3]; simp [hnx]
    · rename_i hnlt
      split
      · rename_i hgt
        obtain ⟨i1, i2, i3⟩ := put_spec h x r s2
        have hkx : cf k x < 0 := (h.flip k x).2 hgt
        have hlx : ∀ a ∈ l.toL, cf a x < 0 := fun a ha => h.trans _ _ _ (s3 a ha) hkx
        have hnx : x ≠ k ∧ x ∉ l.toL := ⟨fun e => by rw [(h.eq x k).2 e] at hgt; omega, fun hm => h.irrefl x (hlx x hm)⟩
        simp only [toL_even, toL]
        refine ⟨srt_mid.2 ⟨s1, i1, s3, fun b hb => ?_, fun a ha b hb => ?_⟩, fun y => ?_, ?_⟩
        · rcases (i2 b).1 hb with e | m
          · rw [e]; exact hkx
          · exact s4 b m
        · rcases (i2 b).1 hb with e | m
          · rw [e]; exact hlx a ha
          · exact s5 a ha b m
        · simp only [List.mem_append, List.mem_cons, i2]
          constructor
          · rintro (m | e | e | m)
            · exact .inr (.inl m)
            · exact .inr (.inr (.inl e))
            · exact .inl e
            · exact .inr (.inr (.inr m))
          · rintro (e | m | e | m)
            · exact .inr (.inr (.inl e))
            · exact .inl m
            · exact .inr (.inl e)
            · exact .inr (.inr (.inr m))
        · rw [i3]; simp [hnx]
      · rename_i hngt
        have he : x = k := (h.eq x k).1 (by omega)
        subst he
        simp only [toL_even]
        refine ⟨hs, fun y => ⟨.inr, fun e => ?_⟩, ?_⟩
        · rcases e with e | m
          · rw [e]; simp
          · exact m
        · simp [toL]
theorem drop_spec (h : Ord cf) (x : α) : ∀ t : Tr α, Srt cf t.toL → Srt cf (drop cf x t).1.toL ∧ (∀ y, y ∈ (drop cf x t).1.toL ↔ y ∈ t.toL ∧ y ≠ x) ∧ ((drop cf x t).2 = true ↔ x ∈ t.toL)
  | nil, _ => by simp [drop, toL]
  | node l k r, hs => by
    obtain ⟨s1, s2, s3, s4, s5⟩ := srt_mid.1 hs
    rw [drop]
    split
    · rename_i hlt
      obtain ⟨i1, i2, i3⟩ := drop_spec h x l s1
      have hxr : ∀ b ∈ r.toL, cf x b < 0 := fun b hb => h.trans _ _ _ hlt (s4 b hb)
      have hnx : x ≠ k ∧ x ∉ r.toL := ⟨fun e => by rw [(h.eq x k).2 e] at hlt; omega, fun hm => h.irrefl x (hxr x hm)⟩
      simp only [toL_even, toL]
      refine ⟨srt_mid.2 ⟨i1, s2, fun a ha => s3 a ((i2 a).1 ha).1, s4, fun a ha b hb => s5 a ((i2 a).1 ha).1 b hb⟩, fun y => ?_, ?_⟩
      · simp only [List.mem_append, List.mem_cons, i2]
        constructor
        · rintro (m | e | m)
          · exact ⟨.inl m.1, m.2⟩
          · exact ⟨.inr (.inl e), fun e2 => hnx.1 (e2 ▸ e)⟩
          · exact ⟨.inr (.inr m), fun e2 => hnx.2 (e2 ▸ m)⟩
        · rintro ⟨m | e | m, hne⟩
          · exact .inl ⟨m, hne⟩
          · exact .inr (.inl e)
          · exact .inr (.inr m)
      · rw [i3]; simp [hnx]
    · rename_i hnlt
      split
      · rename_i hgt
        obtain ⟨i1, i2, i3⟩ := drop_spec h x r s2
        have hkx : cf k x < 0 := (h.flip k x).2 hgt
        have hlx : ∀ a ∈ l.toL, cf a x < 0 := fun a ha => h.trans _ _ _ (s3 a ha) hkx
        have hnx : x ≠ k ∧ x ∉ l.toL := ⟨fun e => by rw [(h.eq x k).2 e] at hgt; omega, fun hm => h.irrefl x (hlx x hm)⟩
        simp only [toL_even, toL]
        refine ⟨srt_mid.2 ⟨s1, i1, s3, fun b hb => s4 b ((i2 b).1 hb).1, fun a ha b hb => s5 a ha b ((i2 b).1 hb).1⟩, fun y => ?_, ?_⟩
        · simp only [List.mem_append, List.mem_cons, i2]
          constructor
          · rintro (m | e | m)
            · exact ⟨.inl m, fun e2 => hnx.2 (e2 ▸ m)⟩
            · exact ⟨.inr (.inl e), fun e2 => hnx.1 (e2 ▸ e)⟩
            · exact ⟨.inr (.inr m.1), m.2⟩
          · rintro ⟨m | e | m, hne⟩
            · exact .inl m
            · exact .inr (.inl e)
            · exact .inr (.inr ⟨m, hne⟩)
        · rw [i3]; simp [hnx]
      · rename_i hngt
        have he : x = k := (h.eq x k).1 (by omega)
        subst he
        have hxl : x ∉ l.toL := fun m => h.irrefl x (s3 x m)
        have hxr : x ∉ r.toL := fun m => h.irrefl x (s4 x m)
        have hmem : ∀ {q : List α}, (∀ y, y ∈ q ↔ y ∈ l.toL ∨ y ∈ r.toL) → ∀ y, y ∈ q ↔ y ∈ l.toL ++ x :: r.toL ∧ y ≠ x := fun hq y => by
          rw [hq, List.mem_append, List.mem_cons]
          constructor
          · rintro (m | m)
            · exact ⟨.inl m, fun e => hxl (e ▸ m)⟩
            · exact ⟨.inr (.inr m), fun e => hxr (e ▸ m)⟩
          · rintro ⟨m | e | m, hne⟩
            · exact .inl m
            · exact absurd e hne
            · exact .inr m
        cases l with
        | nil =>
          refine ⟨s2, hmem fun y => by simp [dropTop, toL], ?_⟩
          simp [dropTop, toL]
        | node u v w => cases r with
        | nil =>
          refine ⟨s1, hmem fun y => by simp [dropTop, toL], ?_⟩
          simp [dropTop, toL]
        | node a b c =>
          have hl := toL_least a b c
          have hl : (least a b c).2 :: (least a b c).1.toL = (node a b c).toL := hl
          rw [← hl] at s2 s4 s5 hmem
          have s2 := List.pairwise_cons.1 s2
          simp only [dropTop, toL_even]
          refine ⟨srt_mid.2 ⟨s1, s2.2, fun u hu => s5 u hu _ (by simp), s2.1, fun u hu v hv => s5 u hu v (by simp [hv])⟩, fun y => ?_, by simp [toL]⟩
          have e : ((node u v w).node x (node a b c)).toL = (node u v w).toL ++ x :: (node a b c).toL := rfl
          rw [e, ← hl]
          exact hmem (q := (node u v w).toL ++ (least a b c).2 :: (least a b c).1.toL) (fun y => by simp) y
end Tr
end Go.Vc.T

/- Own text of this claim: ZSt1. -/
set_option maxRecDepth 20000
set_option linter.unusedVariables false
namespace Go.Vc.SZ
open Go Go.Vc Go.RowKit Go.Proofs Go.Vc.T Vcz

/-- A place: a share (a part in a quotient, a weight), and whose it is. -/
structure Pl where
  a : Int
  b : Int
  c : Int
  d : Int
  deriving DecidableEq
abbrev plC (k : Pl) : List Value := [.int .i64 k.a, .int .i64 k.b, .int .i64 k.c, .int .i64 k.d]
abbrev plV (k : Pl) : Value := .agg #[.int .i64 k.a, .int .i64 k.b, .int .i64 k.c, .int .i64 k.d]
abbrev ndC (k : Pl) (l r : Option Addr) (x y : Int) : List Value := [.int .i64 k.a, .int .i64 k.b, .int .i64 k.c, .int .i64 k.d, .pointer l, .pointer r, .int .i64 x, .int .i64 y]
abbrev pt (b : Nat) : Option Addr := some ⟨b, 0, none⟩
abbrev RawN (W : World) (b : Nat) (k : Pl) (l r : Option Addr) (x y : Int) : Prop := W.heap[b]? = some (.cells (ndC k l r x y).toArray 146 (0, 0))

/-- A tree in memory, each node in a block of its own. -/
def Rep (W : World) : Tr Pl → Option Addr → List Nat → Prop
  | .nil, p, bs => p = none ∧ bs = []
  | .node l k r, p, bs => ∃ b pl pr bl br, p = pt b ∧ RawN W b k pl pr ((l.size + r.size + 1 : Nat) : Int) ((max l.height r.height + 1 : Nat) : Int) ∧ Rep W l pl bl ∧ Rep W r pr br ∧ bs = b :: (bl ++ br) ∧ (b :: (bl ++ br)).Nodup
/-- A node with its sides; how many and how deep may be out of date. -/
structure Nd (W : World) (b : Nat) (k : Pl) (pl pr : Option Addr) (l r : Tr Pl) (bl br : List Nat) : Prop where
  raw : ∃ x y : Int, RawN W b k pl pr x y
  rl : Rep W l pl bl
  rr : Rep W r pr br
  nd : (b :: (bl ++ br)).Nodup

section
variable {w W W' : World} {M : Nat → Prop} {gs : List Nat} {b : Nat} {k : Pl} {p pl pr : Option Addr} {t l r : Tr Pl} {bs bl br : List Nat}

theorem Rep.keep : ∀ {t : Tr Pl} {p : Option Addr} {bs : List Nat}, Rep W t p bs → (∀ q ∈ bs, W'.heap[q]? = W.heap[q]?) → Rep W' t p bs
  | .nil, _, _, h, _ => h
  | .node l k r, _, _, ⟨b, pl, pr, bl, br, hp, hr, h1, h2, hb, hn⟩, hc => by
    subst hb
    exact ⟨b, pl, pr, bl, br, hp, by rw [RawN, hc b (by simp)]; exact hr, Rep.keep h1 fun q hq => hc q (by simp [hq]), Rep.keep h2 fun q hq => hc q (by simp [hq]), rfl, hn⟩
theorem Rep.lt : ∀ {t : Tr Pl} {p : Option Addr} {bs : List Nat}, Rep W t p bs → ∀ q ∈ bs, q < W.heap.size
  | .nil, _, _, ⟨_, hb⟩, q, hq => by subst hb; cases hq
  | .node l k r, _, _, ⟨b, pl, pr, bl, br, hp, hr, h1, h2, hb, hn⟩, q, hq => by
    subst hb
    rcases List.mem_cons.1 hq with e | hq
    · subst e; exact (Array.getElem?_eq_some_iff.1 hr).1
    · rcases List.mem_append.1 hq with hq | hq
      · exact Rep.lt h1 q hq
      · exact Rep.lt h2 q hq
theorem Rep.nodup : ∀ {t : Tr Pl} {p : Option Addr} {bs : List Nat}, Rep W t p bs → bs.Nodup
  | .nil, _, _, ⟨_, hb⟩ => by subst hb; exact List.nodup_nil
  | .node _ _ _, _, _, ⟨_, _, _, _, _, _, _, _, _, hb, hn⟩ => by subst hb; exact hn
theorem Rep.call (h : Rep W t p bs) (hb : Bel W W') : Rep W' t p bs := h.keep fun q hq => hb.block (h.lt q hq)
theorem Rep.chg {N : Nat → Prop} (h : Rep W t p bs) (hc : Chg N W W') (hn : ∀ q ∈ bs, ¬ N q) : Rep W' t p bs := h.keep fun q hq => hc.block q (h.lt q hq) (hn q hq)
theorem Nd.blt (h : Nd W b k pl pr l r bl br) : b < W.heap.size := by
  obtain ⟨x, y, hr⟩ := h.raw
  exact (Array.getElem?_eq_some_iff.1 hr).1
theorem Nd.keep (h : Nd W b k pl pr l r bl br) (hc : ∀ q ∈ b :: (bl ++ br), W'.heap[q]? = W.heap[q]?) : Nd W' b k pl pr l r bl br := by
  obtain ⟨x, y, hr⟩ := h.raw
  exact ⟨⟨x, y, by rw [RawN, hc b (by simp)]; exact hr⟩, h.rl.keep fun q hq => hc q (by simp [hq]), h.rr.keep fun q hq => hc q (by simp [hq]), h.nd⟩
theorem Nd.lt (h : Nd W b k pl pr l r bl br) : ∀ q ∈ b :: (bl ++ br), q < W.heap.size := fun q hq => by
  rcases List.mem_cons.1 hq with e | hq
  · subst e; exact h.blt
  · rcases List.mem_append.1 hq with hq | hq
    · exact h.rl.lt q hq
    · exact h.rr.lt q hq
theorem Nd.call (h : Nd W b k pl pr l r bl br) (hb : Bel W W') : Nd W' b k pl pr l r bl br := h.keep fun q hq => hb.block (h.lt q hq)
theorem Rep.node (h : Rep W (.node l k r) p bs) : ∃ b pl pr bl br, p = pt b ∧ bs = b :: (bl ++ br) ∧ Nd W b k pl pr l r bl br := by
  obtain ⟨b, pl, pr, bl, br, hp, hr, h1, h2, hb, hn⟩ := h
  exact ⟨b, pl, pr, bl, br, hp, hb, ⟨_, _, hr⟩, h1, h2, hn⟩

theorem rdL {ds : List Nat} {b : Nat} (h : Nd W b k pl pr l r bl br) (hd : ∀ d ∈ ds, d ≠ b) : Reads Tryz.prog ds (Instr.loadAt 108 (.pointer (some (Addr.mk b (0 + 4) none)))) W (.pointer pl) := by
  obtain ⟨x, y, hr⟩ := h.raw
  exact rd_f 3 hr rfl (by kernel_rfl) hd
theorem rdR {ds : List Nat} {b : Nat} (h : Nd W b k pl pr l r bl br) (hd : ∀ d ∈ ds, d ≠ b) : Reads Tryz.prog ds (Instr.loadAt 108 (.pointer (some (Addr.mk b (0 + 5) none)))) W (.pointer pr) := by
  obtain ⟨x, y, hr⟩ := h.raw
  exact rd_f 4 hr rfl (by kernel_rfl) hd
theorem rdK {ds : List Nat} {b : Nat} (h : Nd W b k pl pr l r bl br) (hd : ∀ d ∈ ds, d ≠ b) : Reads Tryz.prog ds (Instr.loadAt 81 (.pointer (pt b))) W (plV k) := by
  obtain ⟨x, y, hr⟩ := h.raw
  exact (elt_cells hr).agg 4 (by kernel_rfl) (by kernel_rfl) (by simp) hd
theorem nod {b : Nat} : ∀ d ∈ ([] : List Nat), d ≠ b := fun _ h => by cases h
end

theorem c100 {W : World} {t : Tr Pl} {p : Option Addr} {bs : List Nat} (H : Rep W t p bs) : Ret Tryz.prog 100 #[.pointer p] W (.int .i64 (t.size : Int)) := by
  intro R h
  refine f100_calls _ W R ?_
  unfold f100_vc
  cases t with
  | nil =>
    obtain ⟨rfl, _⟩ := H
    exact ⟨true, (fun W => rfl), brB (fun _ => leaf h (At.refl W) rfl) (fun e => by cases e)⟩
  | node l k r =>
    obtain ⟨b, pl, pr, bl, br, rfl, hr, _⟩ := H
    exact ⟨false, (fun W => rfl), brB (fun e => by cases e) (fun _ => ⟨_, rfl, _, rd_f 5 hr rfl (by kernel_rfl) nod, leaf h (At.refl W) rfl⟩)⟩
theorem c96 {W : World} {t : Tr Pl} {p : Option Addr} {bs : List Nat} (H : Rep W t p bs) : Ret Tryz.prog 96 #[.pointer p] W (.int .i64 (t.height : Int)) := by
  intro R h
  refine f96_calls _ W R ?_
  unfold f96_vc
  cases t with
  | nil =>
    obtain ⟨rfl, _⟩ := H
    exact ⟨true, (fun W => rfl), brB (fun _ => leaf h (At.refl W) rfl) (fun e => by cases e)⟩
  | node l k r =>
    obtain ⟨b, pl, pr, bl, br, rfl, hr, _⟩ := H
    exact ⟨false, (fun W => rfl), brB (fun e => by cases e) (fun _ => ⟨_, rfl, _, rd_f 6 hr rfl (by kernel_rfl) nod, leaf h (At.refl W) rfl⟩)⟩

theorem c99 {W : World} {b : Nat} {k : Pl} {pl pr : Option Addr} {l r : Tr Pl} {bl br : List Nat} (H : Nd W b k pl pr l r bl br) (hs : l.size + r.size < 1152921504606846976) :
    RetF Tryz.prog 99 #[.pointer (pt b)] W (fun q => q = b) (fun v W' => v = .pointer (pt b) ∧ Rep W' (.node l k r) (pt b) (b :: (bl ++ br))) := by
  intro R h
  refine f99_calls _ W R ?_
  unfold f99_vc
  have hA : AtF W (fun q => q = b) [] W := AtF.refl W _
  have hnd := H.nd
  have hbl : ∀ q ∈ bl, ¬ q = b := fun q hq e => by subst e; simp [hq] at hnd
  have hbr : ∀ q ∈ br, ¬ q = b := fun q hq e => by subst e; simp [hq] at hnd
  refine ⟨_, rfl, _, rdL H nod, _, rfl, _, rdR H nod, go_below0_too hA fun w5 hA hb => ?_⟩
  have H := H.call hb
  refine at_callb hA (c100 H.rl) fun w7 hA _ hb => ⟨_, rfl, ?_⟩
  have H := H.call hb
  refine ⟨rdR H nod, at_callb hA (c100 H.rr) fun w10 hA _ hb => ⟨_, rfl, _, rfl, ?_⟩⟩
  have H := H.call hb
  have h1 := l.height_le
  have h2 := r.height_le
  have e1 : IntKind.i64.wrap (IntKind.i64.wrap ((l.size : Int) + (r.size : Int)) + 1) = ((l.size + r.size + 1 : Nat) : Int) := by
    rw [wrap_i64 (x := (l.size : Int) + (r.size : Int)) (by omega) (by omega), wrap_i64 (by omega) (by omega)]; rfl
  rw [e1]
  obtain ⟨x, y, hraw⟩ := H.raw
  refine opw_storeF hA hraw (.inr rfl) (by simp) (cells' := ndC k pl pr ((l.size + r.size + 1 : Nat) : Int) y) (by kernel_rfl) fun w14 hA _ hc hb14 => ?_
  have H14 : Nd w14 b k pl pr l r bl br := ⟨⟨_, _, hb14⟩, H.rl.chg hc hbl, H.rr.chg hc hbr, hnd⟩
  refine ⟨_, rfl, _, rdL H14 nod, _, rfl, _, rdR H14 nod, go_below0_too hA fun w19 hA hb => ?_⟩
  have hb19 : RawN w19 b k pl pr ((l.size + r.size + 1 : Nat) : Int) y := by rw [RawN, hb.block H14.blt]; exact hb14
  have H := H14.call hb
  refine at_callb hA (c96 H.rl) fun w21 hA _ hb => ⟨_, rfl, ?_⟩
  have hb21 : RawN w21 b k pl pr ((l.size + r.size + 1 : Nat) : Int) y := by rw [RawN, hb.block H.blt]; exact hb19
  have H := H.call hb
  refine ⟨rdR H nod, at_callb hA (c96 H.rr) fun w24 hA _ hb => ⟨_, rfl, _, rfl, ?_⟩⟩
  have hb24 : RawN w24 b k pl pr ((l.size + r.size + 1 : Nat) : Int) y := by rw [RawN, hb.block H.blt]; exact hb21
  have H := H.call hb
  have e2 : IntKind.i64.wrap ((if (r.height : Int) > (l.height : Int) then (r.height : Int) else (l.height : Int)) + 1) = ((max l.height r.height + 1 : Nat) : Int) := by
    have : (if (r.height : Int) > (l.height : Int) then (r.height : Int) else (l.height : Int)) = ((max l.height r.height : Nat) : Int) := by split <;> omega
    rw [this, wrap_i64 (by omega) (by omega)]; rfl
  rw [e2]
  refine opw_storeF hA hb24 (.inr rfl) (by simp) (cells' := ndC k pl pr ((l.size + r.size + 1 : Nat) : Int) ((max l.height r.height + 1 : Nat) : Int)) (by kernel_rfl) fun w28 hA _ hc hb28 => ?_
  exact leafF h hA ⟨rfl, b, pl, pr, bl, br, rfl, hb28, H.rl.chg hc hbl, H.rr.chg hc hbr, rfl, hnd⟩
end Go.Vc.SZ

/- Own text of this claim: ZSt2. -/
set_option maxRecDepth 20000
set_option linter.unusedVariables false
namespace Go.Vc.SZ
open Go Go.Vc Go.RowKit Go.Proofs Go.Vc.T Vcz

variable {w W W' : World} {M : Nat → Prop} {gs : List Nat}

theorem ne_of {b : Nat} {l : List Nat} (h : b ∉ l) : ∀ q ∈ l, ¬ q = b := fun _ hq e => h (e ▸ hq)
/-- What a function that turns trees leaves: a tree in some of the blocks, or in new ones. -/
def Out (W : World) (bs : List Nat) (t' : Tr Pl) (v : Value) (W' : World) : Prop := ∃ p' bs', v = .pointer p' ∧ Rep W' t' p' bs' ∧ ∀ q ∈ bs', q ∈ bs ∨ W.heap.size ≤ q

theorem c98 {W : World} {b : Nat} {k : Pl} {pl pr : Option Addr} {a m r : Tr Pl} {k2 : Pl} {bl br : List Nat} (H : Nd W b k pl pr (.node a k2 m) r bl br) (hs : a.size + m.size + r.size < 1152921504606846970) :
    RetF Tryz.prog 98 #[.pointer (pt b)] W (fun q => q ∈ b :: (bl ++ br)) (Out W (b :: (bl ++ br)) (Tr.riseL (.node a k2 m) k r)) := by
  intro R h
  refine f98_calls _ W R ?_
  unfold f98_vc
  have hA : AtF W (fun q => q ∈ b :: (bl ++ br)) [] W := AtF.refl W _
  obtain ⟨c, cl, cr, ba, bm, rfl, rfl, Hc⟩ := H.rl.node
  have hnd := H.nd
  obtain ⟨x, y, hraw⟩ := H.raw
  obtain ⟨x2, y2, hraw2⟩ := Hc.raw
  have hbc : b ≠ c := fun e => by subst e; simp at hnd
  have hb1 : b ∉ ba ∧ b ∉ bm ∧ b ∉ br := by simp at hnd; grind
  have hc1 : c ∉ ba ∧ c ∉ bm ∧ c ∉ br := by simp at hnd; grind
  refine ⟨_, rfl, _, rdL H nod, _, rfl, _, rdR Hc nod, _, rfl, ?_⟩
  refine opw_storeF hA hraw (.inr (by simp)) (by simp) (cells' := ndC k cr pr x y) (by kernel_rfl) fun w7 hA _ hc hb7 => ⟨_, rfl, ?_⟩
  have hraw2 : RawN w7 c k2 cl cr x2 y2 := by rw [RawN, hc.block c Hc.blt (fun e => hbc e.symm)]; exact hraw2
  have ra := Hc.rl.chg hc (ne_of hb1.1)
  have rm := Hc.rr.chg hc (ne_of hb1.2.1)
  have rr := H.rr.chg hc (ne_of hb1.2.2)
  refine opw_storeF hA hraw2 (.inr (by simp)) (by simp) (cells' := ndC k2 cl (pt b) x2 y2) (by kernel_rfl) fun w10 hA _ hc hc10 => ?_
  have hb10 : RawN w10 b k cr pr x y := by rw [RawN, hc.block b (Array.getElem?_eq_some_iff.1 hb7).1 hbc]; exact hb7
  have ra := ra.chg hc (ne_of hc1.1)
  have rm := rm.chg hc (ne_of hc1.2.1)
  have rr := rr.chg hc (ne_of hc1.2.2)
  have hnd2 : (b :: (bm ++ br)).Nodup := by simp at hnd ⊢; grind
  have hnd3 : (c :: (ba ++ b :: (bm ++ br))).Nodup := by simp at hnd ⊢; grind
  refine at_callF hA (c99 (W := w10) (b := b) (k := k) (l := m) (r := r) (pl := cr) (pr := pr) (bl := bm) (br := br) ⟨⟨x, y, hb10⟩, rm, rr, hnd2⟩ (by omega)) (fun q _ e => .inr (by rw [e]; simp)) (by simp) fun v w12 hA _ hc ⟨hv, hrep⟩ => ?_
  subst hv
  refine ⟨_, rfl, ?_⟩
  have hc12 : RawN w12 c k2 cl (pt b) x2 y2 := by rw [RawN, hc.block c (Array.getElem?_eq_some_iff.1 hc10).1 (fun e => hbc e.symm)]; exact hc10
  have ra := ra.chg hc (ne_of hb1.1)
  refine at_callF hA (c99 (W := w12) (b := c) (k := k2) (l := a) (r := .node m k r) (pl := cl) (pr := pt b) (bl := ba) (br := b :: (bm ++ br)) ⟨⟨x2, y2, hc12⟩, ra, hrep, hnd3⟩ (by simp only [Tr.size]; omega)) (fun q _ e => .inr (by rw [e]; simp)) (by simp) fun v w15 hA _ hc ⟨hv, hrep⟩ => ?_
  subst hv
  exact ⟨_, rfl, leafF h hA ⟨_, _, rfl, hrep, fun q hq => .inl (by simp at hq ⊢; grind)⟩⟩

theorem c97 {W : World} {b : Nat} {k : Pl} {pl pr : Option Addr} {a m r : Tr Pl} {k2 : Pl} {bl br : List Nat} (H : Nd W b k pl pr r (.node m k2 a) bl br) (hs : a.size + m.size + r.size < 1152921504606846970) :
    RetF Tryz.prog 97 #[.pointer (pt b)] W (fun q => q ∈ b :: (bl ++ br)) (Out W (b :: (bl ++ br)) (Tr.riseR r k (.node m k2 a))) := by
  intro R h
  refine f97_calls _ W R ?_
  unfold f97_vc
  have hA : AtF W (fun q => q ∈ b :: (bl ++ br)) [] W := AtF.refl W _
  obtain ⟨c, cl, cr, bm, ba, rfl, rfl, Hc⟩ := H.rr.node
  have hnd := H.nd
  obtain ⟨x, y, hraw⟩ := H.raw
  obtain ⟨x2, y2, hraw2⟩ := Hc.raw
  have hbc : b ≠ c := fun e => by subst e; simp at hnd
  have hb1 : b ∉ ba ∧ b ∉ bm ∧ b ∉ bl := by simp at hnd; grind
  have hc1 : c ∉ ba ∧ c ∉ bm ∧ c ∉ bl := by simp at hnd; grind
  refine ⟨_, rfl, _, rdR H nod, _, rfl, _, rdL Hc nod, _, rfl, ?_⟩
  refine opw_storeF hA hraw (.inr (by simp)) (by simp) (cells' := ndC k pl cl x y) (by kernel_rfl) fun w7 hA _ hc hb7 => ⟨_, rfl, ?_⟩
  have hraw2 : RawN w7 c k2 cl cr x2 y2 := by rw [RawN, hc.block c Hc.blt (fun e => hbc e.symm)]; exact hraw2
  have ra := Hc.rr.chg hc (ne_of hb1.1)
  have rm := Hc.rl.chg hc (ne_of hb1.2.1)
  have rr := H.rl.chg hc (ne_of hb1.2.2)
  refine opw_storeF hA hraw2 (.inr (by simp)) (by simp) (cells' := ndC k2 (pt b) cr x2 y2) (by kernel_rfl) fun w10 hA _ hc hc10 => ?_
  have hb10 : RawN w10 b k pl cl x y := by rw [RawN, hc.block b (Array.getElem?_eq_some_iff.1 hb7).1 hbc]; exact hb7
  have ra := ra.chg hc (ne_of hc1.1)
  have rm := rm.chg hc (ne_of hc1.2.1)
  have rr := rr.chg hc (ne_of hc1.2.2)
  have hnd2 : (b :: (bl ++ bm)).Nodup := by simp at hnd ⊢; grind
  have hnd3 : (c :: ((b :: (bl ++ bm)) ++ ba)).Nodup := by simp at hnd ⊢; grind
  refine at_callF hA (c99 (W := w10) (b := b) (k := k) (l := r) (r := m) (pl := pl) (pr := cl) (bl := bl) (br := bm) ⟨⟨x, y, hb10⟩, rr, rm, hnd2⟩ (by omega)) (fun q _ e => .inr (by rw [e]; simp)) (by simp) fun v w12 hA _ hc ⟨hv, hrep⟩ => ?_
  subst hv
  refine ⟨_, rfl, ?_⟩
  have hc12 : RawN w12 c k2 (pt b) cr x2 y2 := by rw [RawN, hc.block c (Array.getElem?_eq_some_iff.1 hc10).1 (fun e => hbc e.symm)]; exact hc10
  have ra := ra.chg hc (ne_of hb1.1)
  refine at_callF hA (c99 (W := w12) (b := c) (k := k2) (l := .node r k m) (r := a) (pl := pt b) (pr := cr) (bl := b :: (bl ++ bm)) (br := ba) ⟨⟨x2, y2, hc12⟩, hrep, ra, hnd3⟩ (by simp only [Tr.size]; omega)) (fun q _ e => .inr (by rw [e]; simp)) (by simp) fun v w15 hA _ hc ⟨hv, hrep⟩ => ?_
  subst hv
  exact ⟨_, rfl, leafF h hA ⟨_, _, rfl, hrep, fun q hq => .inl (by simp at hq ⊢; grind)⟩⟩
end Go.Vc.SZ

/- Own text of this claim: ZSt3. -/
set_option maxRecDepth 20000
set_option linter.unusedVariables false
namespace Go.Vc.SZ
open Go Go.Vc Go.RowKit Go.Proofs Go.Vc.T Vcz

variable {w W W' W1 : World} {M : Nat → Prop} {gs : List Nat} {b : Nat} {k : Pl} {p' pl pr : Option Addr} {t l l' r r' : Tr Pl} {bs bs' bl br : List Nat}

theorem nodup_cons_app {b : Nat} {x y : List Nat} : (b :: (x ++ y)).Nodup ↔ b ∉ x ∧ b ∉ y ∧ x.Nodup ∧ y.Nodup ∧ ∀ q ∈ x, q ∉ y := by
  rw [List.nodup_cons, List.nodup_append, List.mem_append]
  constructor
  · rintro ⟨h1, h2, h3, h4⟩
    exact ⟨fun e => h1 (.inl e), fun e => h1 (.inr e), h2, h3, fun q hq hq2 => h4 q hq q hq2 rfl⟩
  · rintro ⟨h1, h2, h3, h4, h5⟩
    exact ⟨fun e => e.elim h1 h2, h3, h4, fun q hq q2 hq2 e => h5 q hq (e ▸ hq2)⟩

theorem Nd.afterL (H : Nd W b k pl pr l r bl br) (hc : Chg (fun q => q ∈ bl) W W1) (hrep : Rep W1 l' p' bs') (hsub : ∀ q ∈ bs', q ∈ bl ∨ W.heap.size ≤ q) : (∃ x y : Int, RawN W1 b k pl pr x y) ∧ Rep W1 r pr br ∧ (b :: (bs' ++ br)).Nodup := by
  obtain ⟨h1, h2, h3, h4, h5⟩ := nodup_cons_app.1 H.nd
  obtain ⟨x, y, hr⟩ := H.raw
  refine ⟨⟨x, y, by rw [RawN, hc.block b H.blt h1]; exact hr⟩, H.rr.chg hc (fun q hq e => h5 q e hq), nodup_cons_app.2 ⟨fun e => ?_, h2, hrep.nodup, h4, fun q hq hq2 => ?_⟩⟩
  · rcases hsub b e with e | e
    · exact h1 e
    · have := H.blt; omega
  · rcases hsub q hq with e | e
    · exact h5 q e hq2
    · have := H.rr.lt q hq2; omega
theorem Nd.afterR (H : Nd W b k pl pr l r bl br) (hc : Chg (fun q => q ∈ br) W W1) (hrep : Rep W1 r' p' bs') (hsub : ∀ q ∈ bs', q ∈ br ∨ W.heap.size ≤ q) : (∃ x y : Int, RawN W1 b k pl pr x y) ∧ Rep W1 l pl bl ∧ (b :: (bl ++ bs')).Nodup := by
  obtain ⟨h1, h2, h3, h4, h5⟩ := nodup_cons_app.1 H.nd
  obtain ⟨x, y, hr⟩ := H.raw
  refine ⟨⟨x, y, by rw [RawN, hc.block b H.blt h2]; exact hr⟩, H.rl.chg hc (fun q hq e => h5 q hq e), nodup_cons_app.2 ⟨h1, fun e => ?_, h3, hrep.nodup, fun q hq hq2 => ?_⟩⟩
  · rcases hsub b e with e | e
    · exact h2 e
    · have := H.blt; omega
  · rcases hsub q hq2 with e | e
    · exact h5 q hq e
    · have := H.rl.lt q hq; omega
theorem opw_setL {K : Value → World → Prop} (hA : AtF w M gs W) (hr : ∃ x y : Int, RawN W b k pl pr x y) (rl : Rep W l p' bl) (rr : Rep W r pr br) (nd : (b :: (bl ++ br)).Nodup) (hm : w.heap.size ≤ b ∨ M b) (hap : b ∉ gs)
    (h : ∀ w', AtF w M gs w' → Keeps gs W w' → Nd w' b k p' pr l r bl br → K undef w') : OpW Tryz.prog (skipS (Instr.storeAt 108 (.pointer (some (Addr.mk b (0 + 4) none))) (.pointer p'))) W K := by
  obtain ⟨x, y, hr⟩ := hr
  obtain ⟨h1, h2, _⟩ := nodup_cons_app.1 nd
  exact opw_storeF hA hr hm hap (cells' := ndC k p' pr x y) (by kernel_rfl) fun w' hA' hk hc hb => h w' hA' hk ⟨⟨x, y, hb⟩, rl.chg hc (ne_of h1), rr.chg hc (ne_of h2), nd⟩
theorem opw_setR {K : Value → World → Prop} (hA : AtF w M gs W) (hr : ∃ x y : Int, RawN W b k pl pr x y) (rl : Rep W l pl bl) (rr : Rep W r p' br) (nd : (b :: (bl ++ br)).Nodup) (hm : w.heap.size ≤ b ∨ M b) (hap : b ∉ gs)
    (h : ∀ w', AtF w M gs w' → Keeps gs W w' → Nd w' b k pl p' l r bl br → K undef w') : OpW Tryz.prog (skipS (Instr.storeAt 108 (.pointer (some (Addr.mk b (0 + 5) none))) (.pointer p'))) W K := by
  obtain ⟨x, y, hr⟩ := hr
  obtain ⟨h1, h2, _⟩ := nodup_cons_app.1 nd
  exact opw_storeF hA hr hm hap (cells' := ndC k pl p' x y) (by kernel_rfl) fun w' hA' hk hc hb => h w' hA' hk ⟨⟨x, y, hb⟩, rl.chg hc (ne_of h1), rr.chg hc (ne_of h2), nd⟩
/-- Last: a call that yields the tree. -/
theorem at_out {P : Program} {f : FuncId} {args : Array Value} {bs0 : List Nat} {K : Ending → World → Prop} (hA : AtF w (fun q => q ∈ bs0) [] W) (hc : RetF P f args W (fun q => q ∈ bs) (Out W bs t)) (hsub : ∀ q ∈ bs, q ∈ bs0 ∨ w.heap.size ≤ q)
    (hK : ∀ p' bs' W', AtF w (fun q => q ∈ bs0) [] W' → Chg (fun q => q ∈ bs) W W' → Rep W' t p' bs' → (∀ q ∈ bs', q ∈ bs ∨ W.heap.size ≤ q) → (∀ q ∈ bs', q ∈ bs0 ∨ w.heap.size ≤ q) → K (.returned (.pointer p')) W') : Calls P f args W K := by
  refine at_callF hA hc (fun q _ hq => (hsub q hq).symm) (by simp) fun v W' hA' _ hch ⟨p', bs', hv, hr, hs⟩ => ?_
  subst hv
  exact hK p' bs' W' hA' hch hr hs fun q hq => (hs q hq).elim (hsub q) fun e => .inr (Nat.le_trans hA.size e)

theorem c90 (H : Nd W b k pl pr l r bl br) (hs : l.size + r.size < 576460752303423488) :
    RetF Tryz.prog 90 #[.pointer (pt b)] W (fun q => q ∈ b :: (bl ++ br)) (Out W (b :: (bl ++ br)) (Tr.even l k r)) := by
  intro R h
  refine f90_calls _ W R ?_
  unfold f90_vc
  have hA : AtF W (fun q => q ∈ b :: (bl ++ br)) [] W := AtF.refl W _
  refine ⟨_, rfl, _, rdL H nod, _, rfl, _, rdR H nod, go_below0_too hA fun w5 hA hb => ?_⟩
  have H := H.call hb
  refine at_callb hA (c96 H.rl) fun w7 hA _ hb => ⟨_, rfl, ?_⟩
  have H := H.call hb
  refine ⟨rdR H nod, at_callb hA (c96 H.rr) fun w10 hA _ hb => ⟨_, rfl, ?_⟩⟩
  have H := H.call hb
  have h1 := l.height_le
  have h2 := r.height_le
  rw [wrap_i64 (x := (l.height : Int) - (r.height : Int)) (by omega) (by omega)]
  refine brD (fun hgt => ?_) (fun hngt => brD (fun hlt => ?_) (fun hnlt => ?_))
  · have hgt' : l.height > r.height + 1 := by omega
    cases l with
    | nil => simp [Tr.height] at hgt'
    | node a k2 c =>
    obtain ⟨b2, al, cl, ba, bc, rfl, rfl, H2⟩ := H.rl.node
    simp only [Tr.size] at hs
    refine ⟨_, rfl, _, rdL H nod, _, rfl, _, rdL H2 nod, _, rfl, _, rdL H nod, _, rfl, _, rdR H2 nod, go_below0_too hA fun w20 hA hb => ?_⟩
    have H := H.call hb
    have H2 := H2.call hb
    refine at_callb hA (c96 H2.rl) fun w22 hA _ hb => ⟨_, rfl, ?_⟩
    have H := H.call hb
    have H2 := H2.call hb
    refine ⟨rdR H2 nod, rdL H nod, rdL H nod, at_callb hA (c96 H2.rr) fun w25 hA _ hb => ⟨_, rfl, rdL (H.call hb) nod, rdL (H.call hb) nod, ?_⟩⟩
    have H := H.call hb
    have H2 := H2.call hb
    have ev : ∀ l', Tr.readyL (.node a k2 c) = l' → Tr.even (.node a k2 c) k r = Tr.riseL l' k r := fun l' e => by rw [Tr.even, if_pos hgt', e]
    refine brD (fun hac => ?_) (fun hnac => ?_)
    · have hac' : a.height < c.height := by omega
      cases c with
      | nil => simp [Tr.height] at hac'
      | node m k3 d =>
      simp only [Tr.size] at hs
      refine ⟨_, rfl, _, rdL H nod, ?_⟩
      refine at_out hA (c97 H2 (by omega)) (fun q hq => .inl (by simp at hq ⊢; grind)) fun p' bs' w30 hA hch hrep hsub hsub0 => ⟨_, rfl, _, rfl, ?_⟩
      obtain ⟨e1, e2, e3⟩ := H.afterL hch hrep hsub
      refine opw_setL hA e1 hrep e2 e3 (.inr (by simp)) (by simp) fun w34 hA _ H3 => ?_
      refine at_out hA (c98 H3 (by simp only [Tr.size]; omega)) (fun q hq => ?_) fun p3 bs3 w36 hA _ hrep3 _ hsub3 => ⟨_, rfl, leafF h hA ⟨_, _, rfl, ?_, hsub3⟩⟩
      · rcases List.mem_cons.1 hq with e | hq
        · exact .inl (by rw [e]; simp)
        · rcases List.mem_append.1 hq with hq | hq
          · exact hsub0 q hq
          · exact .inl (by simp [hq])
      · rw [ev (.node (.node a k2 m) k3 d) (by simp only [Tr.readyL]; rw [if_pos hac']; rfl)]
        exact hrep3
    · refine at_out hA (c98 H (by omega)) (fun q hq => .inl hq) fun p3 bs3 w36 hA _ hrep3 _ hsub3 => ⟨_, rfl, leafF h hA ⟨_, _, rfl, ?_, hsub3⟩⟩
      rw [ev (.node a k2 c) (by simp only [Tr.readyL]; rw [if_neg (by omega)])]
      exact hrep3
  · have hlt' : r.height > l.height + 1 := by omega
    have hng : ¬ l.height > r.height + 1 := by omega
    cases r with
    | nil => simp [Tr.height] at hlt'
    | node c k2 a =>
    obtain ⟨b2, cl, al, bc, ba, rfl, rfl, H2⟩ := H.rr.node
    simp only [Tr.size] at hs
    refine ⟨_, rfl, _, rdR H nod, _, rfl, _, rdR H2 nod, _, rfl, _, rdR H nod, _, rfl, _, rdL H2 nod, go_below0_too hA fun w20 hA hb => ?_⟩
    have H := H.call hb
    have H2 := H2.call hb
    refine at_callb hA (c96 H2.rr) fun w22 hA _ hb => ⟨_, rfl, ?_⟩
    have H := H.call hb
    have H2 := H2.call hb
    refine ⟨rdL H2 nod, rdR H nod, rdR H nod, at_callb hA (c96 H2.rl) fun w25 hA _ hb => ⟨_, rfl, rdR (H.call hb) nod, rdR (H.call hb) nod, ?_⟩⟩
    have H := H.call hb
    have H2 := H2.call hb
    have ev : ∀ r', Tr.readyR (.node c k2 a) = r' → Tr.even l k (.node c k2 a) = Tr.riseR l k r' := fun r' e => by rw [Tr.even, if_neg hng, if_pos hlt', e]
    refine brD (fun hac => ?_) (fun hnac => ?_)
    · have hac' : a.height < c.height := by omega
      cases c with
      | nil => simp [Tr.height] at hac'
      | node d k3 m =>
      simp only [Tr.size] at hs
      refine ⟨_, rfl, _, rdR H nod, ?_⟩
      refine at_out hA (c98 H2 (by omega)) (fun q hq => .inl (by simp at hq ⊢; grind)) fun p' bs' w30 hA hch hrep hsub hsub0 => ⟨_, rfl, _, rfl, ?_⟩
      obtain ⟨e1, e2, e3⟩ := H.afterR hch hrep hsub
      refine opw_setR hA e1 e2 hrep e3 (.inr (by simp)) (by simp) fun w34 hA _ H3 => ?_
      refine at_out hA (c97 H3 (by simp only [Tr.size]; omega)) (fun q hq => ?_) fun p3 bs3 w36 hA _ hrep3 _ hsub3 => ⟨_, rfl, leafF h hA ⟨_, _, rfl, ?_, hsub3⟩⟩
      · rcases List.mem_cons.1 hq with e | hq
        · exact .inl (by rw [e]; simp)
        · rcases List.mem_append.1 hq with hq | hq
          · exact .inl (by simp [hq])
          · exact hsub0 q hq
      · rw [ev (.node d k3 (.node m k2 a)) (by simp only [Tr.readyR]; rw [if_pos hac']; rfl)]
        exact hrep3
    · refine at_out hA (c97 H (by omega)) (fun q hq => .inl hq) fun p3 bs3 w36 hA _ hrep3 _ hsub3 => ⟨_, rfl, leafF h hA ⟨_, _, rfl, ?_, hsub3⟩⟩
      rw [ev (.node c k2 a) (by simp only [Tr.readyR]; rw [if_neg (by omega)])]
      exact hrep3
  · refine at_callF hA (c99 H (by omega)) (fun q _ e => .inr (by rw [e]; simp)) (by simp) fun v w15 hA _ hc ⟨hv, hrep⟩ => ?_
    subst hv
    refine ⟨_, rfl, leafF h hA ⟨_, _, rfl, ?_, fun q hq => .inl hq⟩⟩
    rw [Tr.even, if_neg (by omega), if_neg (by omega)]
    exact hrep
end Go.Vc.SZ

/- Own text of this claim: ZSt4. -/
set_option maxRecDepth 20000
set_option linter.unusedVariables false
namespace Go.Vc.SZ
open Go Go.Vc Go.RowKit Go.Proofs Go.Vc.T Vcz

variable {w W W' W1 : World} {M : Nat → Prop} {gs : List Nat} {b g : Nat} {k : Pl} {p p' pl pr : Option Addr} {t l l' r r' : Tr Pl} {bs bs' bl br : List Nat} {cf : Pl → Pl → Int}

/-- A call of a function's value that returns a value, and changes nothing. -/
def RetI (fv : Value) (args : Array Value) (W : World) (v : Value) : Prop := ∀ K : Value → World → Prop, (∀ w', Bel W w' → K v w') → OpW Tryz.prog (invokeS fv args) W K
theorem opw_invoke {f : FuncId} {first cap args : Array Value} {K : Value → World → Prop} (he : pureRun Tryz.prog (invokeS (.func (.func f) first cap) args) = some (.enter f ((first ++ args) ++ cap))) (h : Calls Tryz.prog f ((first ++ args) ++ cap) W fun e w' => ∃ v, e = .returned v ∧ K v w') : OpW Tryz.prog (invokeS (.func (.func f) first cap) args) W K := by
  unfold OpW
  rw [pureRun_run he W]
  exact h
theorem RetI.of {f : FuncId} {first cap args : Array Value} {v : Value} (he : pureRun Tryz.prog (invokeS (.func (.func f) first cap) args) = some (.enter f ((first ++ args) ++ cap))) (h : Ret Tryz.prog f ((first ++ args) ++ cap) W v) : RetI (.func (.func f) first cap) args W v   := fun _ hK => opw_invoke he (h _ fun w' hb => ⟨v, rfl, hK w' hb⟩)
theorem at_inv {fv : Value} {args : Array Value} {v : Value} {K : Value → World → Prop} (hA : AtF w M gs W) (hc : RetI fv args W v) (hK : ∀ w', AtF w M gs w' → Keeps gs W w' → Bel W w' → K v w') : OpW Tryz.prog (invokeS fv args) W K := hc K fun w' hb => hK w' (hA.call hb) (hA.keeps hb) hb

/-- A function's value. -/
abbrev fnV (f : FuncId) (cap : Array Value) : Value := .func (.func f) #[] cap
/-- The order of places is told by a function. -/
def OrdC (cf : Pl → Pl → Int) : Prop := ∀ (W : World) (a b : Pl), Ret Tryz.prog 30 #[plV a, plV b] W (.int .i64 (cf a b))
theorem OrdC.ask (h : OrdC cf) (W : World) (a b : Pl) : RetI (fnV 30 #[]) #[plV a, plV b] W (.int .i64 (cf a b)) := RetI.of (by kernel_rfl) (h W a b)
/-- A tree's struct, apart from some nodes. -/
structure Ctx (W : World) (g : Nat) (bs : List Nat) : Prop where
  tb : ∃ root, W.heap[g]? = some (.cells ([fnV 30 #[], .pointer root] : List Value).toArray 110 (0, 0))
  gn : g ∉ bs
theorem Ctx.glt (h : Ctx W g bs) : g < W.heap.size := by
  obtain ⟨_, h⟩ := h.tb
  exact (Array.getElem?_eq_some_iff.1 h).1
theorem Ctx.keep (h : Ctx W g bs) (hg : W'.heap[g]? = W.heap[g]?) : Ctx W' g bs := by
  obtain ⟨root, hr⟩ := h.tb
  exact ⟨⟨root, by rw [hg, hr]⟩, h.gn⟩
theorem Ctx.call (h : Ctx W g bs) (hb : Bel W W') : Ctx W' g bs := h.keep (hb.block h.glt)
theorem Ctx.chg (h : Ctx W g bs) (hc : Chg (fun q => q ∈ bs) W W') : Ctx W' g bs := h.keep (hc.block g h.glt h.gn)
theorem Ctx.sub (h : Ctx W g bs) (hs : ∀ q ∈ bs', q ∈ bs) : Ctx W g bs' := ⟨h.tb, fun e => h.gn (hs g e)⟩
theorem Ctx.to (h : Ctx W g bs) (hs : ∀ q ∈ bs', q ∈ bs ∨ W.heap.size ≤ q) : Ctx W g bs' := ⟨h.tb, fun e => (hs g e).elim h.gn fun e => by have := h.glt; omega⟩

theorem size_even (l : Tr Pl) (k : Pl) (r : Tr Pl) : (Tr.even l k r).size = l.size + r.size + 1 := by
  rw [Tr.size_len, Tr.toL_even, List.length_append, List.length_cons, Tr.size_len l, Tr.size_len r]; omega
theorem size_put (x : Pl) : ∀ t : Tr Pl, (Tr.put cf x t).1.size ≤ t.size + 1
  | .nil => by simp [Tr.put, Tr.size]
  | .node l k r => by
    rw [Tr.put]
    have h1 := size_put x l
    have h2 := size_put x r
    split
    · simp only [size_even, Tr.size]; omega
    · split
      · simp only [size_even, Tr.size]; omega
      · simp only [size_even, Tr.size]; omega

/-- Last: a call that yields the tree, with hidden boxes. -/
theorem at_outg {P : Program} {f : FuncId} {args : Array Value} {bs0 : List Nat} {K : Ending → World → Prop} (hA : AtF w (fun q => q ∈ bs0) gs W) (hc : RetF P f args W (fun q => q ∈ bs) (Out W bs t)) (hsub : ∀ q ∈ bs, q ∈ bs0 ∨ w.heap.size ≤ q) (hap : ∀ x ∈ gs, x ∉ bs)
    (hK : ∀ p' bs' W', AtF w (fun q => q ∈ bs0) gs W' → Keeps gs W W' → Chg (fun q => q ∈ bs) W W' → Rep W' t p' bs' → (∀ q ∈ bs', q ∈ bs ∨ W.heap.size ≤ q) → (∀ q ∈ bs', q ∈ bs0 ∨ w.heap.size ≤ q) → K (.returned (.pointer p')) W') : Calls P f args W K := by
  refine at_callF hA hc (fun q _ hq => (hsub q hq).symm) hap fun v W' hA' hk hch ⟨p', bs', hv, hr, hs⟩ => ?_
  subst hv
  exact hK p' bs' W' hA' hk hch hr hs fun q hq => (hs q hq).elim (hsub q) fun e => .inr (Nat.le_trans hA.size e)
/-- What putting and dropping below a node leave. -/
def Out2 (W : World) (bs : List Nat) (t' : Tr Pl × Bool) (v : Value) (W' : World) : Prop := ∃ p' bs', v = .tuple #[.pointer p', .bool t'.2] ∧ Rep W' t'.1 p' bs' ∧ ∀ q ∈ bs', q ∈ bs ∨ W.heap.size ≤ q
theorem at_out2 {P : Program} {f : FuncId} {args : Array Value} {bs0 : List Nat} {t : Tr Pl × Bool} {K : Ending → World → Prop} (hA : AtF w (fun q => q ∈ bs0) gs W) (hc : RetF P f args W (fun q => q ∈ bs) (Out2 W bs t)) (hsub : ∀ q ∈ bs, q ∈ bs0 ∨ w.heap.size ≤ q) (hap : ∀ x ∈ gs, x ∉ bs)
    (hK : ∀ p' bs' W', AtF w (fun q => q ∈ bs0) gs W' → Keeps gs W W' → Chg (fun q => q ∈ bs) W W' → Rep W' t.1 p' bs' → (∀ q ∈ bs', q ∈ bs ∨ W.heap.size ≤ q) → (∀ q ∈ bs', q ∈ bs0 ∨ w.heap.size ≤ q) → (∀ x ∈ gs, x ∉ bs') → K (.returned (.tuple #[.pointer p', .bool t.2])) W') : Calls P f args W K := by
  refine at_callF hA hc (fun q _ hq => (hsub q hq).symm) hap fun v W' hA' hk hch ⟨p', bs', hv, hr, hs⟩ => ?_
  subst hv
  exact hK p' bs' W' hA' hk hch hr hs (fun q hq => (hs q hq).elim (hsub q) fun e => .inr (Nat.le_trans hA.size e)) fun x hx hm => (hs x hm).elim (hap x hx) fun e => by have := hA.under x hx; omega
theorem one_ap {n b : Nat} {bl br : List Nat} (hb : n ≠ b) (hl : n ∉ bl) (hr : n ∉ br) : ∀ x ∈ [n], x ∉ b :: (bl ++ br) := fun x hx hm => by
  rw [List.mem_singleton.1 hx] at hm
  rcases List.mem_cons.1 hm with e | hm
  · exact hb e
  · exact (List.mem_append.1 hm).elim hl hr
theorem one_ne {n : Nat} {bl : List Nat} (hl : n ∉ bl) : ∀ x ∈ [n], x ∉ bl := fun x hx => by rw [List.mem_singleton.1 hx]; exact hl

theorem c84 (hcf : OrdC cf) (x : Pl) : ∀ (t : Tr Pl) (W : World) (p : Option Addr) (bs : List Nat), t.size < 288230376151711744 → Ctx W g bs → Rep W t p bs →
    RetF Tryz.prog 84 #[.pointer (pt g), .pointer p, plV x] W (fun q => q ∈ bs) (Out2 W bs (Tr.put cf x t))
  | .nil, W, p, bs, _, C, H => by
    intro R h
    obtain ⟨rfl, rfl⟩ := H
    refine f84_calls _ _ _ _ _ _ W R ?_
    unfold f84_vc
    have hA : AtF W (fun q => q ∈ ([] : List Nat)) [] W := AtF.refl W _
    refine go_n hA fun n1 h1 => ⟨true, (fun W => rfl), brB (fun _ => ?_) (fun e => by cases e)⟩
    refine go_below hA fun w3 hA3 => opw_boxS hA3 fun b w5 hb hA hk hb2 hblk => ⟨_, rfl, hk, ?_⟩
    have hsz : W.heap.size ≤ b := hb ▸ hA3.size
    exact leafF h hA ⟨pt b, [b], rfl, ⟨b, none, none, [], [], rfl, hblk, ⟨rfl, rfl⟩, ⟨rfl, rfl⟩, rfl, by simp⟩, fun q hq => .inr (by simp at hq; omega)⟩
  | .node l k r, W, p, bs, hs, C, H => by
    intro R h
    have ihl := c84 hcf x l
    have ihr := c84 hcf x r
    obtain ⟨b, pl, pr, bl, br, rfl, rfl, HN⟩ := H.node
    clear H
    have H := HN
    refine f84_calls _ _ _ _ _ _ W R ?_
    unfold f84_vc
    have hA : AtF W (fun q => q ∈ b :: (bl ++ br)) [] W := AtF.refl W _
    simp only [Tr.size] at hs
    have hsl := size_put (cf := cf) x l
    have hsr := size_put (cf := cf) x r
    refine go_n hA fun n1 h1 => ⟨false, (fun W => rfl), brB (fun e => by cases e) (fun _ => ?_)⟩
    obtain ⟨root, htb⟩ := C.tb
    have hnb : n1 ≠ b := fun e => by have := H.blt; omega
    have hnl : n1 ∉ bl := fun e => by have := H.rl.lt n1 e; omega
    have hnr : n1 ∉ br := fun e => by have := H.rr.lt n1 e; omega
    refine ⟨_, rfl, _, rd_f0 htb (by kernel_rfl) nod, _, rfl, _, _, _, _, rdK H nod, go_below_too hA fun w14 hA hb => ?_⟩
    have H := H.call hb
    have C := C.call hb
    refine at_inv hA (hcf.ask w14 x k) fun w16 hA hk hb => ⟨_, rfl, hk, ?_⟩
    have H := H.call hb
    have C := C.call hb
    rw [Tr.put] at h
    refine brD (fun hlt => ?_) (fun hnlt => brD (fun hgt => ?_) (fun hngt => ?_))
    · rw [if_pos hlt] at h
      refine ⟨_, rfl, _, rdL H nod, go_below_too hA fun w20 hA hb => ?_⟩
      have H := H.call hb
      have C := C.call hb
      refine at_out2 hA (ihl w20 pl bl (by omega) (C.sub (by simp; grind)) H.rl) (fun q hq => .inl (by simp [hq])) (one_ne hnl) fun p' bs' w22 hA hk hch hrep hsub hsub0 hap => ⟨_, _, rfl, hk, _, rfl, ?_⟩
      obtain ⟨e1, e2, e3⟩ := H.afterL hch hrep hsub
      refine opw_setL hA e1 hrep e2 e3 (.inr (by simp)) (by simpa using fun e => hnb e.symm) fun w27 hA hk H3 => ⟨hk, ?_⟩
      refine at_outg hA (c90 H3 (by omega)) (fun q hq => ?_) (one_ap hnb (hap n1 (by simp)) hnr) fun p3 bs3 w36 hA hk _ hrep3 _ hsub3 => ⟨_, rfl, hk, leafF h hA ⟨_, _, rfl, hrep3, hsub3⟩⟩
      rcases List.mem_cons.1 hq with e | hq
      · exact .inl (by rw [e]; simp)
      · rcases List.mem_append.1 hq with hq | hq
        · exact hsub0 q hq
        · exact .inl (by simp [hq])
    · rw [if_neg hnlt, if_pos hgt] at h
      refine ⟨_, rfl, _, rdR H nod, go_below_too hA fun w33 hA hb => ?_⟩
      have H := H.call hb
      have C := C.call hb
      refine at_out2 hA (ihr w33 pr br (by omega) (C.sub (by simp; grind)) H.rr) (fun q hq => .inl (by simp [hq])) (one_ne hnr) fun p' bs' w35 hA hk hch hrep hsub hsub0 hap => ⟨_, _, rfl, hk, _, rfl, ?_⟩
      obtain ⟨e1, e2, e3⟩ := H.afterR hch hrep hsub
      refine opw_setR hA e1 e2 hrep e3 (.inr (by simp)) (by simpa using fun e => hnb e.symm) fun w40 hA hk H3 => ⟨hk, ?_⟩
      refine at_outg hA (c90 H3 (by omega)) (fun q hq => ?_) (one_ap hnb hnl (hap n1 (by simp))) fun p3 bs3 w36 hA hk _ hrep3 _ hsub3 => ⟨_, rfl, hk, leafF h hA ⟨_, _, rfl, hrep3, hsub3⟩⟩
      rcases List.mem_cons.1 hq with e | hq
      · exact .inl (by rw [e]; simp)
      · rcases List.mem_append.1 hq with hq | hq
        · exact .inl (by simp [hq])
        · exact hsub0 q hq
    · rw [if_neg hnlt, if_neg hngt] at h
      exact at_outg hA (c90 H (by omega)) (fun q hq => .inl hq) (one_ap hnb hnl hnr) fun p3 bs3 w36 hA hk _ hrep3 _ hsub3 => ⟨_, rfl, hk, leafF h hA ⟨_, _, rfl, hrep3, hsub3⟩⟩
end Go.Vc.SZ

/- Own text of this claim: ZSt5. -/
set_option maxRecDepth 20000
set_option linter.unusedVariables false
namespace Go.Vc.SZ
open Go Go.Vc Go.RowKit Go.Proofs Go.Vc.T Vcz

variable {w W W' W1 : World} {M : Nat → Prop} {gs : List Nat} {b g : Nat} {k : Pl} {p p' pl pr : Option Addr} {t l l' r r' : Tr Pl} {bs bs' bl br : List Nat} {cf : Pl → Pl → Int}

theorem size_least : ∀ (l : Tr Pl) (k : Pl) (r : Tr Pl), (Tr.least l k r).1.size = l.size + r.size := fun l k r => by
  have := congrArg List.length (Tr.toL_least l k r)
  simp only [List.length_cons, List.length_append] at this
  rw [Tr.size_len, Tr.size_len l, Tr.size_len r]
  omega
theorem two_ap {n m b : Nat} {bl br : List Nat} (hb : n ≠ b) (hl : n ∉ bl) (hr : n ∉ br) (kb : m ≠ b) (kl : m ∉ bl) (kr : m ∉ br) : ∀ x ∈ [n, m], x ∉ b :: (bl ++ br) := fun x hx => by
  rcases List.mem_cons.1 hx with e | hx
  · subst e; exact one_ap hb hl hr x (by simp)
  · exact one_ap kb kl kr x hx
theorem one_evo {n : Nat} {bl : List Nat} (hl : n ∉ bl) : ∀ q ∈ bl, ¬ q ∈ [n] := fun q hq e => by rw [List.mem_singleton.1 e] at hq; exact hl hq

theorem c89 : ∀ (l : Tr Pl) (W : World) (b : Nat) (k : Pl) (pl pr : Option Addr) (r : Tr Pl) (bl br : List Nat), l.size + r.size < 288230376151711744 → Nd W b k pl pr l r bl br →
    RetF Tryz.prog 89 #[.pointer (pt b)] W (fun q => q ∈ b :: (bl ++ br)) (fun v W' => ∃ p' bs', v = .tuple #[.pointer p', plV (Tr.least l k r).2] ∧ Rep W' (Tr.least l k r).1 p' bs' ∧ ∀ q ∈ bs', q ∈ b :: (bl ++ br) ∨ W.heap.size ≤ q)
  | .nil, W, b, k, pl, pr, r, bl, br, hs, H => by
    intro R h
    refine f89_calls _ W R ?_
    unfold f89_vc
    have hA : AtF W (fun q => q ∈ b :: (bl ++ br)) [] W := AtF.refl W _
    obtain ⟨e1, e2⟩ := H.rl
    subst e1 e2
    refine go_n hA fun n1 h1 => ?_
    have hnr : n1 ∉ br := fun e => by have := H.rr.lt n1 e; omega
    refine ⟨_, rfl, _, rdL H nod, true, (fun W => rfl), brB (fun _ => ?_) (fun e => by cases e)⟩
    refine ⟨_, rfl, _, rdR H nod, _, rfl, _, _, _, _, rdK H nod, go_evo_too hA (by simpa using h1) fun w8 hA hb => ?_⟩
    exact leafF h hA ⟨_, _, rfl, H.rr.chg (Chg.of_evo hb) (one_evo hnr), fun q hq => .inl (by simp [hq])⟩
  | .node a k2 m, W, b, k, pl, pr, r, bl, br, hs, H => by
    intro R h
    have ih := c89 a
    refine f89_calls _ W R ?_
    unfold f89_vc
    have hA : AtF W (fun q => q ∈ b :: (bl ++ br)) [] W := AtF.refl W _
    obtain ⟨b2, al, ml, ba, bm, e1, e2, H2⟩ := H.rl.node
    subst e1 e2
    simp only [Tr.size] at hs
    have hsz := size_least a k2 m
    refine go_n hA fun n1 h1 => ?_
    refine ⟨_, rfl, _, rdL H nod, false, (fun W => rfl), brB (fun e => by cases e) (fun _ => ?_)⟩
    refine go_n hA fun n13 h13 => ?_
    have hlt := H.lt
    have far : ∀ n, W.heap.size ≤ n → n ≠ b ∧ n ∉ b2 :: (ba ++ bm) ∧ n ∉ br := fun n hn => ⟨fun e => by have := hlt b (by simp); omega, fun e => by have := hlt n (by simp at e ⊢; grind); omega, fun e => by have := hlt n (by simp at e ⊢; grind); omega⟩
    obtain ⟨a1, a2, a3⟩ := far n1 h1
    obtain ⟨d1, d2, d3⟩ := far n13 h13
    refine ⟨_, rfl, _, rdL H nod, go_below_too hA fun w16 hA hb => ?_⟩
    have u1 := hA.under n1 (by simp)
    have u13 := hA.under n13 (by simp)
    have H := H.call hb
    have H2 := H2.call hb
    refine at_callF hA (ih w16 b2 k2 al ml m ba bm (by omega) H2) (fun q _ hq => .inr (by simp at hq ⊢; grind)) (fun x hx => by
      rcases List.mem_cons.1 hx with e | hx
      · rw [e]; exact a2
      · rw [List.mem_singleton.1 hx]; exact d2) fun v w18 hA hk hch ⟨p', bs', hv, hrep, hsub⟩ => ?_
    subst hv
    refine ⟨_, _, _, _, _, rfl, hk, _, rfl, ?_⟩
    obtain ⟨e1, e2, e3⟩ := H.afterL hch hrep hsub
    have a4 : n1 ∉ bs' := fun e => (hsub n1 e).elim a2 fun e => by omega
    have d4 : n13 ∉ bs' := fun e => (hsub n13 e).elim d2 fun e => by omega
    refine opw_setL hA e1 hrep e2 e3 (.inr (by simp)) (by simpa using ⟨fun e => a1 e.symm, fun e => d1 e.symm⟩) fun w26 hA hk H3 => ⟨hk, ?_⟩
    refine go_evo_too hA (by simpa using h13) fun w27 hA hb27 => ?_
    have v1 := hA.under n1 (by simp)
    have H3 := H3.keep fun q hq => (Chg.of_evo hb27).block q (H3.lt q hq) (one_evo (one_ap d1 d4 d3 n13 (by simp)) q hq)
    have hsub0 : ∀ q ∈ bs', q ∈ b :: ((b2 :: (ba ++ bm)) ++ br) ∨ W.heap.size ≤ q := fun q hq => (hsub q hq).imp (fun e => by simp at e ⊢; grind) (fun e => by have := hb.size; omega)
    refine at_outg hA (c90 H3 (by omega)) (fun q hq => ?_) (two_ap a1 a4 a3 d1 d4 d3) fun p3 bs3 w29 hA hk _ hrep3 hs3 hsub3 => ⟨_, rfl, hk, ?_⟩
    · rcases List.mem_cons.1 hq with e | hq
      · exact .inl (by rw [e]; simp)
      · rcases List.mem_append.1 hq with hq | hq
        · exact hsub0 q hq
        · exact .inl (by simp [hq])
    · refine go_evo_too hA (by simpa using h1) fun w31 hA hb31 => ?_
      have a5 : n1 ∉ bs3 := fun e => (hs3 n1 e).elim (one_ap a1 a4 a3 n1 (by simp)) fun e => by omega
      exact leafF h hA ⟨_, _, rfl, hrep3.chg (Chg.of_evo hb31) (one_evo a5), hsub3⟩

theorem opw_setK {k' : Pl} {K : Value → World → Prop} (hA : AtF w M gs W) (H : Nd W b k pl pr l r bl br) (hm : w.heap.size ≤ b ∨ M b) (hap : b ∉ gs)
    (h : ∀ w', AtF w M gs w' → Keeps gs W w' → Nd w' b k' pl pr l r bl br → K undef w') : OpW Tryz.prog (skipS (Instr.storeAt 81 (.pointer (pt b)) (plV k'))) W K := by
  obtain ⟨x, y, hr⟩ := H.raw
  obtain ⟨h1, h2, _⟩ := nodup_cons_app.1 H.nd
  exact opw_storeF hA hr hm hap (cells' := ndC k' pl pr x y) (by kernel_rfl) fun w' hA' hk hc hb => h w' hA' hk ⟨⟨x, y, hb⟩, H.rl.chg hc (ne_of h1), H.rr.chg hc (ne_of h2), H.nd⟩

theorem size_dropTop (l r : Tr Pl) : (Tr.dropTop l r).1.size ≤ l.size + r.size := by
  cases l with
  | nil => simp [Tr.dropTop, Tr.size]
  | node u v w => cases r with
    | nil => simp [Tr.dropTop, Tr.size]
    | node a b c =>
      simp only [Tr.dropTop, size_even, size_least, Tr.size]
      omega
theorem size_drop (x : Pl) : ∀ t : Tr Pl, (Tr.drop cf x t).1.size ≤ t.size
  | .nil => by simp [Tr.drop, Tr.size]
  | .node l k r => by
    rw [Tr.drop]
    have h1 := size_drop x l
    have h2 := size_drop x r
    have h3 := size_dropTop l r
    split
    · simp only [size_even, Tr.size]; omega
    · split
      · simp only [size_even, Tr.size]; omega
      · simp only [Tr.size]; omega

theorem c82 (hcf : OrdC cf) (x : Pl) : ∀ (t : Tr Pl) (W : World) (p : Option Addr) (bs : List Nat), t.size < 288230376151711744 → Ctx W g bs → Rep W t p bs →
    RetF Tryz.prog 82 #[.pointer (pt g), .pointer p, plV x] W (fun q => q ∈ bs) (Out2 W bs (Tr.drop cf x t))
  | .nil, W, p, bs, _, C, H => by
    intro R h
    obtain ⟨rfl, rfl⟩ := H
    refine f82_calls _ _ _ _ _ _ W R ?_
    unfold f82_vc
    have hA : AtF W (fun q => q ∈ ([] : List Nat)) [] W := AtF.refl W _
    exact go_n hA fun n1 h1 => ⟨true, (fun W => rfl), brB (fun _ => go_below hA fun w3 hA => leafF h hA ⟨none, [], rfl, ⟨rfl, rfl⟩, by simp⟩) (fun e => by cases e)⟩
  | .node l k r, W, p, bs, hs, C, H => by
    intro R h
    have ihl := c82 hcf x l
    have ihr := c82 hcf x r
    obtain ⟨b, pl, pr, bl, br, rfl, rfl, HN⟩ := H.node
    clear H
    have H := HN
    refine f82_calls _ _ _ _ _ _ W R ?_
    unfold f82_vc
    have hA : AtF W (fun q => q ∈ b :: (bl ++ br)) [] W := AtF.refl W _
    simp only [Tr.size] at hs
    have hsl := size_drop (cf := cf) x l
    have hsr := size_drop (cf := cf) x r
    refine go_n hA fun n1 h1 => ⟨false, (fun W => rfl), brB (fun e => by cases e) (fun _ => ?_)⟩
    obtain ⟨root, htb⟩ := C.tb
    have hnb : n1 ≠ b := fun e => by have := H.blt; omega
    have hnl : n1 ∉ bl := fun e => by have := H.rl.lt n1 e; omega
    have hnr : n1 ∉ br := fun e => by have := H.rr.lt n1 e; omega
    refine ⟨_, rfl, _, rd_f0 htb (by kernel_rfl) nod, _, rfl, _, _, _, _, rdK H nod, go_below_too hA fun w11 hA hb => ?_⟩
    have H := H.call hb
    have C := C.call hb
    refine at_inv hA (hcf.ask w11 x k) fun w13 hA hk hb => ⟨_, rfl, hk, ?_⟩
    have H := H.call hb
    have C := C.call hb
    have hsz13 := hA.size
    have hu13 : n1 < w13.heap.size := hA.under n1 (by simp)
    rw [Tr.drop] at h
    refine brD (fun hlt => ?_) (fun hnlt => brD (fun hgt => ?_) (fun hngt => ?_))
    · rw [if_pos hlt] at h
      refine ⟨_, rfl, _, rdL H nod, go_below_too hA fun w17 hA hb => ?_⟩
      have H := H.call hb
      have C := C.call hb
      refine at_out2 hA (ihl w17 pl bl (by omega) (C.sub (by simp; grind)) H.rl) (fun q hq => .inl (by simp [hq])) (one_ne hnl) fun p' bs' w22 hA hk hch hrep hsub hsub0 hap => ⟨_, _, rfl, hk, _, rfl, ?_⟩
      obtain ⟨e1, e2, e3⟩ := H.afterL hch hrep hsub
      refine opw_setL hA e1 hrep e2 e3 (.inr (by simp)) (by simpa using fun e => hnb e.symm) fun w27 hA hk H3 => ⟨hk, ?_⟩
      refine at_outg hA (c90 H3 (by omega)) (fun q hq => ?_) (one_ap hnb (hap n1 (by simp)) hnr) fun p3 bs3 w36 hA hk _ hrep3 _ hsub3 => ⟨_, rfl, hk, leafF h hA ⟨_, _, rfl, hrep3, hsub3⟩⟩
      rcases List.mem_cons.1 hq with e | hq
      · exact .inl (by rw [e]; simp)
      · rcases List.mem_append.1 hq with hq | hq
        · exact hsub0 q hq
        · exact .inl (by simp [hq])
    · rw [if_neg hnlt, if_pos hgt] at h
      refine ⟨_, rfl, _, rdR H nod, go_below_too hA fun w30 hA hb => ?_⟩
      have H := H.call hb
      have C := C.call hb
      refine at_out2 hA (ihr w30 pr br (by omega) (C.sub (by simp; grind)) H.rr) (fun q hq => .inl (by simp [hq])) (one_ne hnr) fun p' bs' w35 hA hk hch hrep hsub hsub0 hap => ⟨_, _, rfl, hk, _, rfl, ?_⟩
      obtain ⟨e1, e2, e3⟩ := H.afterR hch hrep hsub
      refine opw_setR hA e1 e2 hrep e3 (.inr (by simp)) (by simpa using fun e => hnb e.symm) fun w40 hA hk H3 => ⟨hk, ?_⟩
      refine at_outg hA (c90 H3 (by omega)) (fun q hq => ?_) (one_ap hnb hnl (hap n1 (by simp))) fun p3 bs3 w36 hA hk _ hrep3 _ hsub3 => ⟨_, rfl, hk, leafF h hA ⟨_, _, rfl, hrep3, hsub3⟩⟩
      rcases List.mem_cons.1 hq with e | hq
      · exact .inl (by rw [e]; simp)
      · rcases List.mem_append.1 hq with hq | hq
        · exact .inl (by simp [hq])
        · exact hsub0 q hq
    · rw [if_neg hnlt, if_neg hngt] at h
      refine ⟨_, rfl, _, rdL H nod, ?_⟩
      cases l with
      | nil =>
        obtain ⟨e1, e2⟩ := H.rl
        subst e1 e2
        exact ⟨true, (fun W => rfl), brB (fun _ => ⟨_, rfl, _, rdR H nod, leafF h hA ⟨_, _, rfl, H.rr, fun q hq => .inl (by simp [hq])⟩⟩) (fun e => by cases e)⟩
      | node u v2 z =>
      obtain ⟨b2, ul, zl, bu, bz, e1, e2, H2⟩ := H.rl.node
      subst e1 e2
      refine ⟨false, (fun W => rfl), brB (fun e => by cases e) (fun _ => ⟨_, rfl, _, rdR H nod, ?_⟩)⟩
      cases r with
      | nil =>
        obtain ⟨e1, e2⟩ := H.rr
        subst e1 e2
        exact ⟨true, (fun W => rfl), brB (fun _ => ⟨_, rfl, _, rdL H nod, leafF h hA ⟨_, _, rfl, H.rl, fun q hq => .inl (by simp at hq ⊢; grind)⟩⟩) (fun e => by cases e)⟩
      | node a2 k2 m2 =>
      obtain ⟨b3, al, ml, ba, bm, e1, e2, H3⟩ := H.rr.node
      subst e1 e2
      simp only [Tr.size] at hs
      have hsz := size_least a2 k2 m2
      refine ⟨false, (fun W => rfl), brB (fun e => by cases e) (fun _ => ⟨_, rfl, _, rdR H nod, ?_⟩)⟩
      refine at_callF hA (c89 a2 w13 b3 k2 al ml m2 ba bm (by omega) H3) (fun q _ hq => .inr (by simp at hq ⊢; grind)) (one_ne hnr) fun v w12 hA hk hch ⟨p', bs', hv, hrep, hsub⟩ => ?_
      subst hv
      refine ⟨_, _, _, _, _, rfl, hk, _, rfl, ?_⟩
      obtain ⟨e1, e2, e3⟩ := H.afterR hch hrep hsub
      have hn' : n1 ∉ bs' := fun e => (hsub n1 e).elim hnr fun e => by omega
      refine opw_setR hA e1 e2 hrep e3 (.inr (by simp)) (by simpa using fun e => hnb e.symm) fun w21 hA hk H4 => ⟨hk, _, rfl, ?_⟩
      refine opw_setK (k' := (Tr.least a2 k2 m2).2) hA H4 (.inr (by simp)) (by simpa using fun e => hnb e.symm) fun w22 hA hk H5 => ⟨hk, ?_⟩
      have hsub0 : ∀ q ∈ bs', q ∈ b :: ((b2 :: (bu ++ bz)) ++ (b3 :: (ba ++ bm))) ∨ W.heap.size ≤ q := fun q hq => (hsub q hq).imp (fun e => by simp at e ⊢; grind) (fun e => by omega)
      refine at_outg hA (c90 H5 (by simp only [Tr.size]; omega)) (fun q hq => ?_) (one_ap hnb hnl hn') fun p3 bs3 w36 hA hk _ hrep3 _ hsub3 => ⟨_, rfl, hk, leafF h hA ⟨_, _, rfl, hrep3, hsub3⟩⟩
      rcases List.mem_cons.1 hq with e | hq
      · exact .inl (by rw [e]; simp)
      · rcases List.mem_append.1 hq with hq | hq
        · exact .inl (by simp at hq ⊢; grind)
        · exact hsub0 q hq
end Go.Vc.SZ

