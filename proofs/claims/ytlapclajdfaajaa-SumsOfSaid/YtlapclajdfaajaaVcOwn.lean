/- Slices of the function's own: rows made since the first world, apart from the own boxes; making, adding, storing, reading. -/
import Derived.Test.YtlapclajdfaajaaVcMem
import Derived.Laws.OwnMore
namespace Go.Vc
open Go Go.RowKit

/-- A slice whose elements lie in memory as 'f' writes them. -/
abbrev SlE {α : Type} (w : World) (n : Nat) (f : α → List Value) (l : List α) (a : Option Addr) (len cap : Nat) : Prop := SlR w n (fun x cs => cs = f x) l a len cap

theorem SlR.imp {α : Type} {w : World} {n : Nat} {R R' : α → List Value → Prop} {l : List α} {a : Option Addr} {len cap : Nat} (h : SlR w n R l a len cap) (hR : ∀ x cs, R x cs → R' x cs) : SlR w n R' l a len cap :=
  h.mono (fun _ _ h => h) hR
theorem SlR.call {α : Type} {w w' : World} {n : Nat} {R : α → List Value → Prop} {l : List α} {a : Option Addr} {len cap : Nat} (h : SlR w n R l a len cap) (hb : Below w.heap.size w w') : SlR w' n R l a len cap :=
  h.mono (cell_below hb) fun _ _ h => h
theorem SlR.each {α : Type} {w : World} {n : Nat} {R : α → List Value → Prop} {l : List α} {a : Option Addr} {len cap : Nat} (h : SlR w n R l a len cap) {x : α} (hx : x ∈ l) : ∃ cs, R x cs := by
  obtain ⟨i, hi, rfl⟩ := List.mem_iff_getElem.1 hx
  obtain ⟨_, cs, _, _, _, hr⟩ := h.at_ (List.getElem?_eq_getElem hi)
  exact ⟨cs, hr⟩
theorem SlR.len_le {α : Type} {w : World} {n : Nat} {R : α → List Value → Prop} {l : List α} {a : Option Addr} {len cap : Nat} (h : SlR w n R l a len cap) : len = l.length ∧ l.length ≤ 9223372036854775807 := ⟨h.1, h.1 ▸ Nat.le_trans h.2.1 h.2.2.1⟩

structure OwnL {α : Type} (w : World) (gs : List Nat) (W : World) (e : TypeId) (size : Nat) (f : α → List Value) (v : Value) (l : List α) : Prop where
  row : W.ownsRow w.heap.size e size v l.length (l.flatMap f)
  apart : ∀ g ∈ gs, v.ownBlock ≠ some g

section
variable {α : Type} {w W W' : World} {gs gs' ds : List Nat} {e : TypeId} {size : Nat} {f : α → List Value} {v : Value} {l : List α}

theorem OwnL.nil : OwnL w gs W e size f (.slice none 0 0) [] := ⟨World.ownsRow_nil .., fun _ _ h => by cases h⟩

theorem OwnL.grown {row : Option Nat} (h : OwnL w gs W e size f v l) (hg : W.grownBy W' row) (hne : v.ownBlock = none ∨ v.ownBlock ≠ row) : OwnL w gs W' e size f v l := ⟨h.row.kept hg hne, h.apart⟩
theorem grown_below (h : Below W.heap.size W W') (row : Option Nat) : W.grownBy W' row := ⟨h.os, h.tape, h.output, h.size, fun k hk _ => h.block k hk⟩
theorem OwnL.call (h : OwnL w gs W e size f v l) (hb : Below W.heap.size W W') : OwnL w gs W' e size f v l :=
  h.grown (grown_below hb none) (by cases v.ownBlock <;> simp)
theorem OwnL.more (h : OwnL w gs W e size f v l) (hg : ∀ g ∈ gs', g ∉ gs → W.heap.size ≤ g) : OwnL w gs' W e size f v l :=
  ⟨h.row, fun g hm hv => by
    by_cases hk : g ∈ gs
    · exact h.apart g hk hv
    · have := (h.row.lt g hv).2
      have := hg g hm hk
      omega⟩
theorem OwnL.evo (h : OwnL w gs W e size f v l) (hd : ∀ d ∈ ds, d ∉ gs → W.heap.size ≤ d) (hb : Evo ds W W') : OwnL w gs W' e size f v l := by
  refine ⟨⟨h.row.1, ?_⟩, h.apart⟩
  rcases h.row.2 with hn | ⟨g, cap, cur, hv, hge, hgg, rest⟩
  · exact .inl hn
  · refine .inr ⟨g, cap, cur, hv, hge, ?_, rest⟩
    have hlt := (Array.getElem?_eq_some_iff.1 hgg).1
    rw [hb.block g hlt ?_, hgg]
    intro hm
    by_cases hk : g ∈ gs
    · exact h.apart g hk (by rw [hv]; rfl)
    · have := hd g hm hk
      omega
/-- A row that a call has made. -/
theorem OwnL.ret {n : Nat} {xs : List Value} (hA : At w gs W) (h : W'.ownsRow W.heap.size e size v n xs) (hn : n = l.length) (hx : xs = l.flatMap f) : OwnL w gs W' e size f v l := by
  subst hn
  subst hx
  refine ⟨⟨h.1, ?_⟩, fun g hg hv => ?_⟩
  · rcases h.2 with hn | ⟨g, cap, cur, hv, hge, rest⟩
    · exact .inl hn
    · exact .inr ⟨g, cap, cur, hv, Nat.le_trans hA.size hge, rest⟩
  · have := (h.lt g hv).1
    have := hA.under g hg
    omega

theorem flatMap_part {l : List α} (hf : ∀ x ∈ l, (f x).length = size) {i : Nat} {x : α} (hx : l[i]? = some x) : ((l.flatMap f).drop (i * size)).take size = f x := by
  induction l generalizing i with
  | nil => simp at hx
  | cons y l ih =>
    cases i with
    | zero =>
      simp at hx
      subst hx
      have := hf y (List.mem_cons_self ..)
      simp only [Nat.zero_mul, List.drop_zero, List.flatMap_cons]
      rw [← this, List.take_left]
    | succ i =>
      have hy := hf y (List.mem_cons_self ..)
      have hx' : l[i]? = some x := by simpa using hx
      rw [← ih (fun x hx => hf x (List.mem_cons_of_mem _ hx)) hx']
      simp only [List.flatMap_cons]
      rw [Nat.add_mul, Nat.one_mul, Nat.add_comm, ← List.drop_drop]
      congr 2
      rw [← hy, List.drop_left]

/-- An own slice reads as its list. -/
theorem OwnL.slice (h : OwnL w gs W e size f v l) (hf : ∀ x ∈ l, (f x).length = size) : ∃ a cap, v = .slice a l.length cap ∧ SlE W size f l a l.length cap := by
  rcases h.row.2 with ⟨hv, hn⟩ | ⟨g, cap, cur, hv, hge, hgg, hnc, hcm, hcs, htk⟩
  · have hl : l = [] := List.eq_nil_of_length_eq_zero hn
    subst hl
    exact ⟨none, 0, hv, rfl, Nat.le_refl _, Nat.zero_le _, fun _ => rfl, fun i x hx => by simp at hx⟩
  · refine ⟨_, cap, hv, rfl, hnc, hcm, fun h => (by cases h), fun i x hx => ⟨_, f x, rfl, hf x (List.mem_of_getElem? hx), fun j u hu => ?_, rfl⟩⟩
    have hlen := hf x (List.mem_of_getElem? hx)
    rw [addr_add_add _ _ _ rfl, addr_add]
    have hj : j < size := by
      have := (List.getElem?_eq_some_iff.1 hu).1
      omega
    rw [← flatMap_part hf hx, List.getElem?_take, if_pos hj, List.getElem?_drop, ← htk, List.getElem?_take] at hu
    split at hu
    · rw [← Array.getElem?_toList]  at *
      have := cell_at (W := W) (g := g) (cells := cur.toList) (ty := e) (fr := (0, 0)) (by simpa using hgg) (0 + i * size + j)
      rw [show (0 : Nat) + (i * size + j) = 0 + i * size + j by omega, this]
      simpa using hu
    · cases hu
end

/-! ### Adding -/
def elemB (P : Program) (t e : TypeId) (size bytes : Nat) : Bool :=
  match P.underlying t with
  | some (.slice e') => Nat.beq e' e && (match P.info? e with
    | some i => Nat.beq i.size size && Nat.beq i.bytes bytes && (match i.zero with
      | some z => Nat.beq z.cells.size size && Nat.blt 0 size
      | none => false)
    | none => false)
  | _ => false

structure ElemOk (P : Program) (t e : TypeId) (size bytes : Nat) (i : TypeInfo) (z : Value) : Prop where
  ht : P.underlying t = some (.slice e)
  hi : P.info? e = some i
  hz : i.zero = some z
  hsize : i.size = size
  hby : i.bytes = bytes
  hzs : z.cells.size = size
  hsz : 0 < size

theorem elemB_ok {P : Program} {t e : TypeId} {size bytes : Nat} (h : elemB P t e size bytes = true) : ∃ i z, ElemOk P t e size bytes i z := by
  unfold elemB at h
  split at h
  · rename_i e' hu
    simp only [Bool.and_eq_true] at h
    obtain ⟨he, h⟩ := h
    have he := Nat.eq_of_beq_eq_true he
    subst he
    split at h
    · rename_i i hi
      simp only [Bool.and_eq_true] at h
      obtain ⟨⟨h1, h2⟩, h3⟩ := h
      split at h3
      · rename_i z hz
        simp only [Bool.and_eq_true] at h3
        refine ⟨i, z, hu, hi, hz, Nat.eq_of_beq_eq_true h1, Nat.eq_of_beq_eq_true h2, Nat.eq_of_beq_eq_true h3.1, ?_⟩
        have := h3.2
        unfold Nat.blt at this
        exact Nat.le_of_ble_eq_true this
      · cases h3
    · cases h
  · cases h

section
variable {P : Program} {w W : World} {gs : List Nat} {e : TypeId} {size : Nat} {v : Value} {n : Nat} {xs : List Value}

theorem run_append_at {t ty : TypeId} {bytes base : Nat} (he : elemB P t e size bytes = true) (hown : W.ownsRow base e size v n xs) (hbase : base ≤ W.heap.size) {a : Addr} {m c : Nat} {news : List Value} (hl : news.length = m * size)
    (hnews : ∀ j u, news[j]? = some u → W.cell? (a.add j) = some u) (h1 : ∀ u ∈ news, u.oneCell' = true) (h63 : n + m ≤ maxLen) (hbytes : (n + m) * bytes ≤ 140737488355328) :
    ∃ v' w', (Builtin.append_ #[t, t] ty #[v, .slice (some a) m c]).run P W = .ok v' w' ∧ w'.ownsRow base e size v' (n + m) (xs ++ news) ∧ W.grownBy w' v.ownBlock ∧ (v'.ownBlock = v.ownBlock ∨ ∀ k, v'.ownBlock = some k → W.heap.size ≤ k) := by
  obtain ⟨i, z, ok⟩ := elemB_ok he
  rcases hown.2 with ⟨rfl, rfl⟩ | ⟨g, cap, cur, rfl, hbg, hg, hnc, hcm, hcs, htake⟩
  · have hxs : xs = [] := List.eq_nil_of_length_eq_zero (by simpa using hown.1)
    subst hxs
    obtain ⟨v', w', hr, ho, hgr, _⟩ := run_append_own (P := P) W W.heap.size t ty e i z size bytes ok.ht ok.hi ok.hz ok.hsize ok.hby ok.hzs ok.hsz _ 0 [] (World.ownsRow_nil W W.heap.size e size) a m c news hl hnews h1 h63 hbytes (Nat.le_refl _)
    refine ⟨v', w', hr, ⟨ho.1, ?_⟩, hgr, .inr fun k hk => (ho.lt k hk).1⟩
    rcases ho.2 with h | ⟨g, cap, cur, hv, hge, rest⟩
    · exact .inl h
    · exact .inr ⟨g, cap, cur, hv, Nat.le_trans hbase hge, rest⟩
  · by_cases hroom : n + m ≤ cap
    · obtain ⟨w', hr, ho, hgr⟩ := run_append_fits (P := P) W base t ty e i size ok.ht ok.hi ok.hsize g n cap xs hown a m c news hl hnews h1 hroom
      exact ⟨_, w', hr, ho, hgr, .inl rfl⟩
    · obtain ⟨v', w', hr, ho, hgr, _⟩ := run_append_own (P := P) W base t ty e i z size bytes ok.ht ok.hi ok.hz ok.hsize ok.hby ok.hzs ok.hsz _ n xs hown a m c news hl hnews h1 h63 hbytes hbase
      have holds : ∀ j u, xs[j]? = some u → W.cell? ((⟨g, 0, none⟩ : Addr).add j) = some u := hown.cells (g := g) rfl
      have hsmall : n + m ≤ 9223372036854775807 := by simp only [maxLen] at h63; omega
      have hr2 := run_append_grow (P := P) W t ty e i z ok.ht ok.hi ok.hz ⟨g, 0, none⟩ n cap xs (by rw [ok.hsize]; exact hown.1) holds a m c news (by rw [ok.hsize]; exact hl) hnews (by omega) (by omega) (growslice_fits (by omega) (by rw [ok.hby]; exact hbytes))
      rw [hr] at hr2
      have hv' : v' = _ := (Result.ok.inj hr2).1
      refine ⟨v', w', hr, ho, hgr, .inr fun k hk => ?_⟩
      rw [hv'] at hk
      simp [Value.ownBlock] at hk
      omega

theorem opw_appendRaw {t ty : TypeId} {fl : Array Bool} {bytes : Nat} (he : elemB P t e size bytes = true) (hA : At w gs W) (hown : W.ownsRow w.heap.size e size v n xs) (hap : ∀ g ∈ gs, v.ownBlock ≠ some g) {a : Addr} {m c : Nat} {news : List Value} (hl : news.length = m * size)
    (hnews : ∀ j u, news[j]? = some u → W.cell? (a.add j) = some u) (h1 : ∀ u ∈ news, u.oneCell' = true) (h63 : n + m ≤ maxLen) (hbytes : (n + m) * bytes ≤ 140737488355328) {K : Value → World → Prop}
    (h : ∀ v' w', At w gs w' → Keeps gs W w' → W.grownBy w' v.ownBlock → w'.ownsRow w.heap.size e size v' (n + m) (xs ++ news) → (∀ g ∈ gs, v'.ownBlock ≠ some g) → (v'.ownBlock = v.ownBlock ∨ ∀ k, v'.ownBlock = some k → W.heap.size ≤ k) → K v' w') :
    OpW P (builtin .append #[t, t] ty fl #[v, .slice (some a) m c]) W K := by
  obtain ⟨v', w', hr, ho, hgr, hb⟩ := run_append_at (ty := ty) he hown hA.size hl hnews h1 h63 hbytes
  have hrun : (builtin .append #[t, t] ty fl #[v, .slice (some a) m c]).run P W = .ok (.value v') w' := by
    show (do pure (Next.value (← Builtin.append_ #[t, t] ty #[v, .slice (some a) m c])) : Sem Next).run P W = _
    rw [run_bind_ok hr]
    rfl
  unfold OpW
  rw [hrun]
  refine h v' w' ⟨hA.below.grown hgr hA.size fun k hk => (hown.lt k hk).1, fun g hg => Nat.lt_of_lt_of_le (hA.under g hg) hgr.size⟩ (fun g hg => hgr.block g (hA.under g hg) fun e => hap g hg e.symm) hgr ho (fun g hg hv => ?_) hb
  rcases hb with hb | hb
  · exact hap g hg (hb ▸ hv)
  · have := hb g hv
    have := hA.under g hg
    omega
end

/-- One element more. -/
theorem opw_append1 {α : Type} {P : Program} {w W : World} {gs : List Nat} {e : TypeId} {size : Nat} {f : α → List Value} {v : Value} {l : List α} {t ty : TypeId} {fl : Array Bool} {bytes : Nat} (he : elemB P t e size bytes = true) (hA : At w gs W) (ho : OwnL w gs W e size f v l) {a : Addr} {c : Nat} {x : α} (hl : (f x).length = size)
    (hnews : ∀ j u, (f x)[j]? = some u → W.cell? (a.add j) = some u) (h1 : ∀ u ∈ f x, u.oneCell' = true) (h63 : l.length + 1 ≤ 70368744177664) (hby : bytes = 1 ∨ (l.length + 1) * bytes ≤ 140737488355328) {K : Value → World → Prop}
    (h : ∀ v' w', At w gs w' → Keeps gs W w' → W.grownBy w' v.ownBlock → OwnL w gs w' e size f v' (l ++ [x]) → (v'.ownBlock = v.ownBlock ∨ ∀ k, v'.ownBlock = some k → W.heap.size ≤ k) → K v' w') :
    OpW P (builtin .append #[t, t] ty fl #[v, .slice (some a) 1 c]) W K := by
  refine opw_appendRaw he hA ho.row ho.apart (m := 1) (by simpa using hl) hnews h1 (by simp only [maxLen]; omega) ?_ fun v' w' hA' hk hg hr hap hb => h v' w' hA' hk hg ⟨?_, hap⟩ hb
  · rcases hby with rfl | h
    · omega
    · exact h
  · simpa using hr

/-- All elements of a slice more. -/
theorem opw_appendS {α : Type} {P : Program} {w W : World} {gs : List Nat} {e : TypeId} {size : Nat} {f : α → List Value} {v : Value} {l l2 : List α} {t ty : TypeId} {fl : Array Bool} {bytes : Nat} (he : elemB P t e size bytes = true) (hA : At w gs W) (ho : OwnL w gs W e size f v l) {a : Option Addr} {len c : Nat} (hs : SlE W size f l2 a len c)
    (hf : ∀ x ∈ l2, (f x).length = size) (h1 : ∀ x ∈ l2, ∀ u ∈ f x, u.oneCell' = true) (h63 : l.length + l2.length ≤ maxLen) (hby : (l.length + l2.length) * bytes ≤ 140737488355328) {K : Value → World → Prop}
    (h : ∀ v' w', At w gs w' → Keeps gs W w' → W.grownBy w' v.ownBlock → OwnL w gs w' e size f v' (l ++ l2) → K v' w') :
    OpW P (builtin .append #[t, t] ty fl #[v, .slice a len c]) W K := by
  obtain ⟨hlen, hlc, hcm, hnone, hat⟩ := hs
  subst hlen
  cases a with
  | none =>
    have hc : c = 0 := hnone rfl
    subst hc
    have h0 : l2 = [] := List.eq_nil_of_length_eq_zero (by omega)
    subst h0
    obtain ⟨i, z, ok⟩ := elemB_ok he
    have hr := run_append_owned_none (P := P) W w.heap.size t ty e i size ok.ht ok.hi v l.length _ ho.row
    have hrun : (builtin .append #[t, t] ty fl #[v, .slice none 0 0]).run P W = .ok (.value v) W := by
      show (do pure (Next.value (← Builtin.append_ #[t, t] ty #[v, .slice none 0 0])) : Sem Next).run P W = _
      rw [run_bind_ok hr]
      rfl
    unfold OpW
    rw [show ([] : List α).length = 0 from rfl, hrun]
    exact h v W hA (fun _ _ => rfl) ⟨rfl, rfl, rfl, Nat.le_refl _, fun _ _ _ => rfl⟩ (by rw [List.append_nil]; exact ho)
  | some ad =>
    have hfl : (l2.flatMap f).length = l2.length * size := by
      clear hat h63 hby h hlc hnone h1
      induction l2 with
      | nil => simp
      | cons x l2 ih =>
        rw [List.flatMap_cons, List.length_append, List.length_cons, hf x (List.mem_cons_self ..), ih fun y hy => hf y (List.mem_cons_of_mem _ hy), Nat.add_mul]
        omega
    have hcells : ∀ j u, (l2.flatMap f)[j]? = some u → W.cell? (ad.add j) = some u := by
      intro j u hu
      have hj := (List.getElem?_eq_some_iff.1 hu).1
      rw [hfl] at hj
      have hsz : 0 < size := by
        rcases Nat.eq_zero_or_pos size with h | h
        · subst h; omega
        · exact h
      have hi : j / size < l2.length := Nat.div_lt_of_lt_mul (by rw [Nat.mul_comm]; exact hj)
      obtain ⟨ad', cs, hae, hcl, hcs, hcf⟩ := hat (j / size) _ (List.getElem?_eq_getElem hi)
      cases hae
      subst hcf
      have hp := flatMap_part hf (List.getElem?_eq_getElem hi)
      have hm : j % size < size := Nat.mod_lt _ hsz
      have hdm : j / size * size + j % size = j := by rw [Nat.mul_comm]; exact Nat.div_add_mod j size
      have hv : (f l2[j / size])[j % size]? = some u := by
        rw [← hp, List.getElem?_take, if_pos hm, List.getElem?_drop, hdm]
        exact hu
      have := hcs _ _ hv
      have hadd : (ad.add (j / size * size)).add (j % size) = ad.add j := by
        rcases Option.eq_none_or_eq_some ad.spot with hsp | ⟨s, hsp⟩
        · rw [addr_add_add _ _ _ hsp, hdm]
        · unfold Addr.add
          obtain ⟨b, o, sp⟩ := ad
          simp only at hsp
          subst hsp
          by_cases h1 : j / size * size = 0
          · rw [h1] at hdm
            rw [Nat.zero_add] at hdm
            simp [h1, hdm]
          · have h3 : j ≠ 0 := by omega
            by_cases h2 : j % size = 0
            · rw [h2] at hdm
              simp [h1, h2, h3]
              omega
            · simp [h1, h2, h3]
              omega
      rw [hadd] at this
      exact this
    refine opw_appendRaw he hA ho.row ho.apart hfl hcells (fun u hu => ?_) h63 hby fun v' w' hA' hk hg hr hap _ => h v' w' hA' hk hg ⟨?_, hap⟩
    · obtain ⟨x, hx, hxu⟩ := List.mem_flatMap.1 hu
      exact h1 x hx u hxu
    · rw [List.length_append, List.flatMap_append]
      exact hr
end Go.Vc
