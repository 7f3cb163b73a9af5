/- Own texts of this claim, laid together: ZQT1, ZQT2, ZQT3, ZQT4, ZQT5, ZQT6, ZQT7, ZdQBld, ZQT8, ZQT9, ZQTa, ZQTd, ZQTe, ZQTf, ZdF4, ZR1, ZQA1, ZQA2, ZQA3, ZQTg, ZQA4, ZQA5, ZQA6, ZQA7, ZQA8, ZQA9, ZQAa, ZR2, ZR3. -/
import Derived.Test.YtfoiddldfdbanaaGreatDoorMgeb5431cb
import Derived.Lib.SmallJoins
import Derived.Lib.ItoaMem
import Derived.Lib.ItoaLen
import Derived.Laws.Cover4
import Derived.Shelf.Strings.BuilderK
import Derived.Shelf.Strings.BuilderRune
import Derived.Test.YtfoiddldfdbanaaGreatDoorProg
import Derived.Lib.Join

/- Tell: tables, numbers, words. -/
set_option maxRecDepth 20000
set_option maxHeartbeats 1000000
set_option linter.unusedVariables false
namespace Go.Vc.ZQ
open Go Go.Vc Go.Vc.V Go.RowKit Go.Proofs Vcqz

variable {w W W' W1 : World} {M N : Nat → Prop} {gs ds : List Nat} {n : Int} {l : List PartT} {a : Option Addr} {ln lc : Nat}

abbrev zro (w : World) : World := { w with drawn := 0 }
theorem at_zro (w : World) (M : Nat → Prop) : AtF (zro w) M [] w := ⟨⟨rfl, rfl, rfl, Nat.le_refl _, fun _ _ _ => rfl, Nat.zero_le _⟩, fun _ h => by cases h⟩
theorem at_callW {f : FuncId} {args : Array Value} {v : Value} {K : Ending → World → Prop} (hA : AtF (zro w) M gs W) (hc : RetW Tryz.prog f args W v) (hK : ∀ w', AtF (zro w) M gs w' → Keeps gs W w' → Below W.heap.size W w' → K (.returned v) w') : Calls Tryz.prog f args W K :=
  hc K fun w' hb => hK w' ⟨⟨hb.os.trans hA.chg.os, hb.tape.trans hA.chg.tape, hb.output.trans hA.chg.output, Nat.le_trans hA.chg.size hb.size, fun b hl hm => (hb.block b (Nat.lt_of_lt_of_le hl hA.chg.size)).trans (hA.chg.block b hl hm), Nat.zero_le _⟩, fun g hg => Nat.lt_of_lt_of_le (hA.under g hg) hb.size⟩ (fun g hg => hb.block g (hA.under g hg)) hb
theorem leafW {R : Ending → World → Prop} {v v' : Value} (h : ∀ w', Below w.heap.size w w' → R (.returned v) w') (hA : At (zro w) gs W) (e : v' = v) : R (.returned v') W := by
  subst e
  exact h W ⟨hA.chg.os, hA.chg.tape, hA.chg.output, hA.chg.size, fun b hb => hA.chg.block b hb id⟩

/-! ### Tables -/
def bs (l : List UInt8) : ByteArray := ⟨l.toArray⟩
def errsL : List ByteArray := [bs [111, 107], bs [102, 111, 114, 109], bs [116, 119, 105, 99, 101], bs [], bs [], bs [], bs [], bs [], bs [], bs [], bs [110, 111, 32, 102, 114, 97, 109, 101, 119, 111, 114, 107], bs [110, 111, 32, 97, 103, 101, 110, 116], bs [110, 111, 32, 111, 102, 102, 101, 114], bs [110, 111, 32, 116, 97, 115, 107], bs [], bs [], bs [], bs [], bs [], bs [], bs [116, 111, 116, 97, 108, 115], bs [114, 111, 108, 101], bs [119, 101, 105, 103, 104, 116], bs [103, 111, 110, 101], bs [111, 119, 110, 101, 114], bs [115, 112, 97, 110], bs [108, 105, 118, 101], bs [102, 111, 114, 101, 105, 103, 110], bs [], bs [], bs [115, 104, 111, 114, 116], bs [109, 111, 115, 116], bs [99, 97, 112], bs [104, 111, 114, 105, 122, 111, 110], bs [105, 100, 115], bs [], bs [], bs [], bs [], bs [], bs [110, 105, 108], bs [97, 114, 103, 117, 109, 101, 110, 116], bs [116, 104, 101, 114, 101], bs [110, 111, 110, 101], bs [116, 101, 120, 116]]
def kindsL : List ByteArray := [bs [], bs [114, 101, 103, 105, 115, 116, 101, 114, 101, 100], bs [108, 101, 102, 116], bs [115, 117, 98, 115, 99, 114, 105, 98, 101, 100], bs [100, 105, 115, 99, 111, 110, 110, 101, 99, 116, 101, 100], bs [103, 111, 110, 101], bs [111, 102, 102, 101, 114, 101, 100], bs [97, 99, 99, 101, 112, 116, 101, 100], bs [100, 101, 99, 108, 105, 110, 101, 100], bs [114, 101, 115, 99, 105, 110, 100, 101, 100], bs [101, 120, 112, 105, 114, 101, 100], bs [108, 111, 115, 116], bs [100, 114, 111, 112, 112, 101, 100], bs [108, 97, 117, 110, 99, 104, 101, 100], bs [107, 105, 108, 108, 101, 100], bs [102, 105, 110, 105, 115, 104, 101, 100], bs [116, 97, 115, 107, 45, 108, 111, 115, 116], bs [116, 97, 115, 107, 45, 100, 114, 111, 112, 112, 101, 100], bs [114, 101, 115, 101, 114, 118, 101, 100], bs [117, 110, 114, 101, 115, 101, 114, 118, 101, 100]]
/-- What the tables hold. -/
structure TabQ (W : World) : Prop where
  errs : Elt W ⟨1, 0, none⟩ (errsL.map Value.string)
  kinds : Elt W ⟨0, 0, none⟩ (kindsL.map Value.string)
  slot : Tab W
  pow : Lib.TabIs Tryz.prog W "internal/strconv.uint64pow10" .u64 Lib.pow10Tab
theorem Elt.low {cs : List Value} {ad : Addr} (h : Elt W ad cs) (hb : Below W.heap.size W W') : Elt W' ad cs := fun j v hv => cell_below hb _ _ (h j v hv)
theorem pow_g : Tryz.prog.globalNamed "internal/strconv.uint64pow10" = some 2 := by kernel_rfl
theorem TabQ.low (h : TabQ W) (hb : Below W.heap.size W W') : TabQ W' :=
  ⟨Elt.low h.errs hb, Elt.low h.kinds hb, Tab.low h.slot hb, Joins.var_stays pow_g h.pow hb (Nat.le_refl _)⟩
theorem TabQ.call (h : TabQ W) (hb : Bel W W') : TabQ W' := h.low hb.below

/-! ### Numbers -/
def numB (n : Int) : ByteArray := bs (Lib.itoa n)
theorem bs_append (a b : List UInt8) : bs a ++ bs b = bs (a ++ b) := by
  unfold bs
  apply ba_ext
  simp
theorem c23 (n : Int) (hn : I64 n) (w : World) (hT : TabQ w) : Ret Tryz.prog 23 #[.int .i64 n] w (.string (numB n)) := by
  intro R h
  refine f23_calls n w R ?_
  unfold f23_vc
  refine (Tryz.strconv_FormatInt_10 n hn.1 hn.2 w hT.pow).mono fun e w' ⟨he, k, os, hw⟩ => ⟨_, he, ?_⟩
  subst hw
  refine h _ ⟨⟨rfl, rfl, rfl, ?_, fun b hb => ?_⟩, ?_⟩
  · show w.heap.size ≤ (w.heap ++ os).size
    simp
  · show (w.heap ++ os)[b]? = w.heap[b]?
    exact Array.getElem?_append_left hb
  · exact Nat.le_add_right _ _
/-! ### The document's numbers -/
theorem str_bs : ∀ (l : List Int), (∀ x ∈ l, 48 ≤ x ∧ x ≤ 57) → strOfNums l = bs (l.map fun x => UInt8.ofNat x.toNat) := fun l _ => by
  unfold strOfNums bs
  apply ba_ext
  simp
theorem dec_digits (u : Nat) : (decL (u : Int) 1).map (fun x => UInt8.ofNat x.toNat) = Lib.decDigits u := by
  rw [decL, Lib.decDigits]
  by_cases h : u < 10
  · rw [if_neg (by omega), dif_pos h]
    have : (48 + (u : Int) % 10).toNat = 48 + u := by omega
    simp [this]
  · rw [if_pos (.inl (by omega)), dif_neg h, List.map_append, decL_one _ _ (by omega), show ((u : Int) / 10) = ((u / 10 : Nat) : Int) by omega, dec_digits (u / 10)]
    have : (48 + (u : Int) % 10).toNat = 48 + u % 10 := by omega
    simp [this]
termination_by u
decreasing_by omega
theorem digits_bs {n : Int} (h : 0 ≤ n) : strOfNums (decL n 1) = bs (Lib.decDigits n.toNat) := by
  rw [str_bs _ (decL_byte n 1 h), ← dec_digits, Int.toNat_of_nonneg h]
theorem dig_split {u : Nat} (h : 10 ≤ u) : Lib.decDigits u = Lib.decDigits (u / 10) ++ Lib.decDigits (u % 10) := by
  conv => lhs; rw [Lib.decDigits, dif_neg (by omega)]
  rw [Lib.decDigits_one (show u % 10 < 10 by omega)]
theorem bs_size (l : List UInt8) : (bs l).size = l.length := by unfold bs; simp [ByteArray.size]
theorem dig_len {u : Nat} (h : u ≤ 9223372036854775807) : (Lib.decDigits u).length ≤ 21 := by
  rw [← Lib.itoa_nonneg]
  exact Lib.itoa_length_le _ (by omega) (by omega)
theorem num_len {n : Int} (hn : I64 n) : (numB n).size ≤ 21 := by
  unfold numB
  rw [bs_size]
  exact Lib.itoa_length_le _ hn.1 hn.2
end Go.Vc.ZQ

/- Tell: vectors, words, errors, kinds. -/
set_option maxRecDepth 20000
set_option maxHeartbeats 1000000
set_option linter.unusedVariables false
namespace Go.Vc.ZQ
open Go Go.Vc Go.Vc.V Go.RowKit Go.Proofs Vcqz

variable {w W W' W1 : World} {M N : Nat → Prop} {gs ds : List Nat} {n : Int} {l : List PartT} {a : Option Addr} {ln lc : Nat} {L : List ByteArray} {wh : List UInt8}

noncomputable def vecT (l : List PartT) : ByteArray := if vecB l = true then vtext l else bs [63]
theorem c25 (hT : TabQ w) (hs : SlE w 3 partE l a ln lc) : RetW Tryz.prog 25 #[.slice a ln lc] w (.string (vecT l)) := by
  intro R h
  refine f25_calls _ _ _ w R ?_
  unfold f25_vc
  refine at_callb (at_zro w noB) (c40 w hs) fun w2 hA _ hb2 => ⟨_, rfl, brNB (fun hv => leafW h hA ?_) fun hv => ?_⟩
  · unfold vecT
    rw [if_neg (by rw [hv]; decide)]
    rfl
  · refine at_callW hA (c60 w2 (hT.call hb2).slot (hs.call hb2)) fun w5 hA _ _ => ⟨_, rfl, leafW h hA ?_⟩
    unfold vecT
    rw [if_pos hv]
theorem brS {t s : ByteArray} {A B : Prop} (h : t = s → A) (k : t ≠ s → B) : ((t.toList == s.toList) = true → A) ∧ ((t.toList == s.toList) = false → B) := by
  rw [toList_beq]
  exact brD h k
theorem brNS {t s : ByteArray} {A B : Prop} (h : t ≠ s → A) (k : t = s → B) : ((!t.toList == s.toList) = true → A) ∧ ((!t.toList == s.toList) = false → B) := by
  rw [toList_beq]
  exact brND h k
/-- The word at a place of a table, or what it is, and its number. -/
def wordT (L : List ByteArray) (n : Int) (wh : List UInt8) : ByteArray := if 0 ≤ n ∧ n < L.length ∧ (L[n.toNat]?).getD (bs []) ≠ bs [] then (L[n.toNat]?).getD (bs []) else bs (wh ++ [32] ++ Lib.itoa n)
theorem c76 (hT : TabQ w) (hn : I64 n) (hs : SlE w 1 strE L a ln lc) (hL : L.length ≤ 1000) (hw : wh.length ≤ 1000) : Ret Tryz.prog 76 #[.slice a ln lc, .int .i64 n, .string (bs wh)] w (.string (wordT L n wh)) := by
  intro R h
  refine f76_calls _ _ _ _ _ w R ?_
  unfold f76_vc
  have hln := hs.1
  have e32 : ByteArray.mk #[32] = bs [32] := rfl
  have e0 : ByteArray.mk #[] = bs [] := rfl
  rw [e32, e0]
  have nl := num_len hn
  have num : (¬ (0 ≤ n ∧ n < L.length ∧ (L[n.toNat]?).getD (bs []) ≠ bs [])) → ∀ {W : World}, At w [] W → ∃ s1, Gives Tryz.prog (binOpS .add 9 (.tmp 22) (.const (.string (bs [32]))) (.string (bs wh)) (.string (bs [32]))) (.string s1) ∧ Calls Tryz.prog 23 #[.int .i64 n] W fun e2 w3 => ∃ s4, e2 = .returned (.string s4) ∧ ∃ s5, Gives Tryz.prog (binOpS .add 9 (.tmp 23) (.tmp 25) (.string s1) (.string s4)) (.string s5) ∧ R (.returned (.string s5)) w3 := by
    intro hno W hA
    refine ⟨_, gives_sadd ?_, at_callb hA (c23 n hn W (hT.call hA.below)) fun w3 hA _ _ => ⟨_, rfl, _, gives_sadd ?_, leaf h hA ?_⟩⟩
    · rw [bs_size, bs_size]
      simp only [List.length_singleton]
      omega
    · rw [bs_append, bs_size, List.length_append]
      simp only [List.length_singleton]
      omega
    · unfold wordT
      rw [if_neg hno]
      unfold numB
      rw [bs_append, bs_append]
  refine brD (fun h1 => num (fun hh => by omega) (At.refl w)) fun h1 => brD (fun h2 => num (fun hh => by omega) (At.refl w)) fun h2 => ?_
  obtain ⟨m, rfl⟩ : ∃ m : Nat, n = (m : Int) := ⟨n.toNat, by omega⟩
  have hm : m < L.length := by omega
  have hg := List.getElem?_eq_getElem hm
  obtain ⟨ad, g1, el, _⟩ := elt_at (P := Tryz.prog) (k := .i64) (t := 66) hs hg (e := 9) (by kernel_rfl) (by kernel_rfl)
  refine ⟨ad, g1, _, el.one (by kernel_rfl) no_ds, brS (fun he => num (fun hh => ?_) (At.refl w)) fun hne => ⟨ad, g1, _, el.one (by kernel_rfl) no_ds, leaf h (At.refl w) ?_⟩⟩
  · refine hh.2.2 ?_
    rw [Int.toNat_natCast, hg]
    exact he
  · unfold wordT
    rw [if_pos ⟨by omega, by omega, by rw [Int.toNat_natCast, hg]; exact hne⟩, Int.toNat_natCast, hg]
    rfl
theorem elt_sl {m : Nat} (hm : L.length = m) {b : Nat} (hb : m ≤ 1000) (h : Elt w ⟨b, 0, none⟩ (L.map Value.string)) : SlE w 1 strE L (some ⟨b, 0, none⟩) m m := by
  refine ⟨hm.symm, Nat.le_refl _, by unfold maxLen; omega, (fun e => by cases e), fun i x hx => ⟨_, strE x, rfl, rfl, fun j v hv => ?_, rfl⟩⟩
  have hj : j = 0 := by
    have := (List.getElem?_eq_some_iff.1 hv).1
    simp at this
    exact this
  subst hj
  simp at hv
  subst hv
  rw [add_add, Nat.mul_one, Nat.add_zero]
  exact h i _ (by rw [List.getElem?_map, hx]; rfl)
def errT (n : Int) : ByteArray := wordT errsL n [101, 114, 114, 111, 114]
def kindT (n : Int) : ByteArray := wordT kindsL n [101, 118, 101, 110, 116]
theorem c55 (hT : TabQ w) (hn : I64 n) : Ret Tryz.prog 55 #[.int .i64 n] w (.string (errT n)) := by
  intro R h
  refine f55_calls n w R ?_
  unfold f55_vc
  refine ⟨some ⟨1, 0, none⟩, 45, 45, fun W => rfl, at_callb (At.refl w) (c76 hT hn (elt_sl (m := 45) rfl (by omega) hT.errs) (by decide) (by decide)) fun w5 hA _ _ => ⟨_, rfl, leaf h hA rfl⟩⟩
theorem c53 (hT : TabQ w) (hn : I64 n) : Ret Tryz.prog 53 #[.int .i64 n] w (.string (kindT n)) := by
  intro R h
  refine f53_calls n w R ?_
  unfold f53_vc
  refine ⟨some ⟨0, 0, none⟩, 20, 20, fun W => rfl, at_callb (At.refl w) (c76 hT hn (elt_sl (m := 20) rfl (by omega) hT.kinds) (by decide) (by decide)) fun w5 hA _ _ => ⟨_, rfl, leaf h hA rfl⟩⟩
/-! ### The document's -/
theorem wordT_in {i : Nat} (hi : i < L.length) (h : L[i] ≠ bs []) : wordT L (i : Int) wh = L[i] := by
  unfold wordT
  rw [if_pos ⟨by omega, by omega, by rw [Int.toNat_natCast, List.getElem?_eq_getElem hi]; exact h⟩, Int.toNat_natCast, List.getElem?_eq_getElem hi]
  rfl
theorem wordT_out (h : ¬ (0 ≤ n ∧ n < L.length ∧ (L[n.toNat]?).getD (bs []) ≠ bs [])) : wordT L n wh = bs (wh ++ [32] ++ Lib.itoa n) := by unfold wordT; rw [if_neg h]
theorem kinds_ne : ∀ i : Fin 20, 1 ≤ i.val → kindsL[i.val]'(by have := i.2; show i.val < 20; omega) ≠ bs [] := by decide
end Go.Vc.ZQ

/- Tell: the document's events and replies. -/
set_option maxRecDepth 20000
set_option maxHeartbeats 2000000
set_option linter.unusedVariables false
namespace Go.Vc.ZQ
open Go Go.Vc Go.Vc.V Go.RowKit Go.Proofs Vcqz

variable {w W W' W1 : World} {M N : Nat → Prop} {gs ds : List Nat} {n : Int} {l : List PartT} {a : Option Addr} {ln lc : Nat} {L : List ByteArray} {wh : List UInt8}

/-- Words, with blanks between. -/
def jnB (L : List ByteArray) : ByteArray := bs (Lib.join (L.map (·.data.toList)) [32])
theorem bs_data (s : ByteArray) : bs s.data.toList = s := ba_ext (by unfold bs; simp)
theorem jnB_one (x : ByteArray) : jnB [x] = x := by
  unfold jnB
  rw [List.map_singleton, Lib.join_one]
  exact bs_data x
theorem jnB_snoc (h : L ≠ []) (x : ByteArray) : jnB (L ++ [x]) = jnB L ++ bs [32] ++ x := by
  cases L with
  | nil => exact absurd rfl h
  | cons y L =>
    unfold jnB
    rw [List.map_append, List.map_cons, List.map_singleton, join_snoc]
    conv => rhs; rw [← bs_data x]
    rw [bs_append, bs_append]
theorem ap_size (a b : ByteArray) : (a ++ b).size = a.size + b.size := ByteArray.size_append
structure Ev where
  k : Int
  fr : Int
  id : Int
  ag : Int
  v : List PartT
structure EvI (e : Ev) : Prop where
  k : I64 e.k
  fr : I64 e.fr
  id : I64 e.id
  ag : I64 e.ag
def inK (k : Int) : Bool := decide (1 ≤ k ∧ k ≤ 19)
def wF (e : Ev) : List ByteArray := if e.k ≥ 3 then [bs [102, 114, 97, 109, 101], numB e.fr] else []
def wI (e : Ev) : List ByteArray := if e.k ≥ 6 ∧ e.k ≤ 17 then [bs [105, 100], numB e.id] else []
def wA (e : Ev) : List ByteArray := if e.k ≥ 6 ∨ e.k ≤ 2 then [bs [97, 103, 101, 110, 116], numB e.ag] else []
noncomputable def wV (e : Ev) : List ByteArray := if e.k ≥ 6 ∨ e.k = 1 then [vecT e.v] else []
noncomputable def evL (e : Ev) : List ByteArray := if inK e.k = true then [kindT e.k] ++ wF e ++ wI e ++ wA e ++ wV e else [kindT e.k]
noncomputable def evT (e : Ev) : ByteArray := jnB (evL e)
theorem vec_size (l : List PartT) : (vecT l).size ≤ 200000 := by
  unfold vecT
  split
  · exact text_small l
  · rw [bs_size]; decide
/-- Two words more. -/
theorem jn_two (h : L ≠ []) (x y : List UInt8) : jnB L ++ bs ([32] ++ x ++ [32]) ++ bs y = jnB (L ++ [bs x, bs y]) := by
  rw [show L ++ [bs x, bs y] = (L ++ [bs x]) ++ [bs y] by simp, jnB_snoc (by simp), jnB_snoc h]
  rw [← bs_append, ← bs_append]
  apply ba_ext
  simp
theorem kind_size {k : Int} (hk : I64 k) : (kindT k).size ≤ 100 := by
  unfold kindT wordT
  split
  · have : ∀ x ∈ kindsL, x.size ≤ 100 := by decide
    cases hx : kindsL[k.toNat]? with
    | none => show (bs []).size ≤ 100; decide
    | some x => exact this x (List.mem_of_getElem? hx)
  · have := Lib.itoa_length_le k hk.1 hk.2
    rw [bs_size]
    simp only [List.length_append, List.length_cons, List.length_nil]
    omega
end Go.Vc.ZQ

/- Tell: the document's reply; few. -/
set_option maxRecDepth 20000
set_option maxHeartbeats 2000000
set_option linter.unusedVariables false
namespace Go.Vc.ZQ
open Go Go.Vc Go.Vc.V Go.RowKit Go.Proofs Vcqz

variable {w W W' W1 : World} {M N : Nat → Prop} {gs ds : List Nat} {n : Int} {l : List PartT} {a : Option Addr} {ln lc : Nat} {L : List ByteArray} {wh : List UInt8}

theorem jnB_sizeN : ∀ (n : Nat) (L : List ByteArray), L.length = n → (jnB L).size ≤ (L.map (·.size)).sum + L.length
  | 0, L, h => by
    rw [List.eq_nil_of_length_eq_zero h]
    decide
  | n + 1, L, h => by
    have hne : L ≠ [] := fun e => by rw [e] at h; cases h
    have e := List.dropLast_concat_getLast hne
    have ih := jnB_sizeN n L.dropLast (by rw [List.length_dropLast, h]; rfl)
    rw [← e]
    by_cases h0 : L.dropLast = []
    · rw [h0, List.nil_append, jnB_one]
      simp
    · rw [jnB_snoc h0, ap_size, ap_size, bs_size, List.map_append, List.sum_append, List.length_append]
      simp only [List.length_singleton, List.map_singleton, List.sum_singleton]
      omega
theorem jnB_size (L : List ByteArray) : (jnB L).size ≤ (L.map (·.size)).sum + L.length := jnB_sizeN _ L rfl
theorem ev_size {e : Ev} (h : EvI e) : (evT e).size ≤ 300000 := by
  have h1 := jnB_size (evL e)
  have k1 := kind_size h.k
  have k2 := num_len h.fr
  have k3 := num_len h.id
  have k4 := num_len h.ag
  have k5 := vec_size e.v
  have z : ∀ l : List UInt8, (bs l).size = l.length := bs_size
  unfold evT
  refine Nat.le_trans h1 ?_
  unfold evL wF wI wA wV
  split
  · split <;> split <;> split <;> split <;> simp [z] <;> omega
  · simp
    omega
abbrev ER := Ev × (Option Addr × Nat × Nat)
abbrev evE (r : ER) : List Value := [.int .i64 r.1.k, .int .i64 r.1.fr, .int .i64 r.1.id, .int .i64 r.1.ag, .slice r.2.1 r.2.2.1 r.2.2.2]
/-- Events in memory. -/
structure Evs (W : World) (rows : List ER) (a : Option Addr) (ln lc : Nat) : Prop where
  sl : SlE W 5 evE rows a ln lc
  ok : ∀ r ∈ rows, EvI r.1 ∧ SlE W 3 partE r.1.v r.2.1 r.2.2.1 r.2.2.2
theorem Evs.low {rows : List ER} (h : Evs W rows a ln lc) (hb : Below W.heap.size W W') : Evs W' rows a ln lc := ⟨h.sl.mono (cell_below hb) fun _ _ h => h, fun r hr => ⟨(h.ok r hr).1, (h.ok r hr).2.mono (cell_below hb) fun _ _ h => h⟩⟩
theorem Evs.call {rows : List ER} (h : Evs W rows a ln lc) (hb : Bel W W') : Evs W' rows a ln lc := h.low hb.below
noncomputable def repT (code : Int) (evs : List Ev) : ByteArray := evs.foldl (fun s e => s ++ bs [59, 32] ++ evT e) (errT code)
theorem rep_snoc (code : Int) (evs : List Ev) (e : Ev) : repT code (evs ++ [e]) = repT code evs ++ bs [59, 32] ++ evT e := by
  unfold repT
  rw [List.foldl_append]
  rfl
theorem err_size {k : Int} (hk : I64 k) : (errT k).size ≤ 100 := by
  unfold errT wordT
  split
  · have : ∀ x ∈ errsL, x.size ≤ 100 := by decide
    cases hx : errsL[k.toNat]? with
    | none => show (bs []).size ≤ 100; decide
    | some x => exact this x (List.mem_of_getElem? hx)
  · have := Lib.itoa_length_le k hk.1 hk.2
    rw [bs_size]
    simp only [List.length_append, List.length_cons, List.length_nil]
    omega
end Go.Vc.ZQ

/- Tell: words put together; an event. -/
set_option maxRecDepth 20000
set_option maxHeartbeats 2000000
set_option linter.unusedVariables false
namespace Go.Vc.ZQ
open Go Go.Vc Go.Vc.V Go.RowKit Go.Proofs Vcqz

variable {w W W' W1 : World} {gs ds : List Nat} {n : Int} {l : List PartT} {a : Option Addr} {ln lc c : Nat} {L M : List ByteArray} {wh : List UInt8} {p3 p15 : Nat} {e : Ev} {va : Option Addr} {vn vc : Nat}

theorem nodQ {q : Nat} : ∀ d ∈ ([] : List Nat), d ≠ q := fun _ h => by cases h
theorem jn_len (L : List ByteArray) : (Lib.join (L.map (·.data.toList)) [32]).length = (jnB L).size := by
  unfold jnB
  rw [bs_size]
theorem c21 {N : Nat → Prop} (ho : OwnF w N gs W 9 1 strE (.slice a L.length c) L) (h0 : L ≠ []) (hl : L.length ≤ 1000000) (hz : (jnB L).size ≤ 1000000000000) : RetW Tryz.prog 21 #[.slice a L.length c] W (.string (jnB L)) := by
  intro R h
  refine f21_calls _ _ _ W R ?_
  unfold f21_vc
  obtain ⟨g, cur, hv, _, hg, hlc, hcm, _, _⟩ := ho.ptr (List.length_pos_iff.2 h0)
  have hsl := ho.sl fun _ _ => rfl
  cases hv
  refine (Tryz.strings_Join g 0 c L (ByteArray.mk #[32]) W (fun j x hx => ?_) (Array.getElem?_eq_some_iff.1 hg).1 (by omega) hlc (by
    have := jn_len L
    show (Lib.join _ [32]).length ≤ _
    omega)).mono fun e w40 ⟨he, hb⟩ => ⟨_, he, ?_⟩
  · obtain ⟨ad, cs, ha, _, hcs, rfl⟩ := hsl.at_ hx
    cases ha
    have := hcs 0 _ rfl
    rw [addr_add_add _ _ _ rfl, addr_add] at this
    simpa using this
  · exact h w40 hb
/-- The words so far, in their box; the event in its. -/
structure Wd (w W : World) (p3 p15 : Nat) (e : Ev) (va : Option Addr) (vn vc : Nat) (L : List ByteArray) (a : Option Addr) (c : Nat) : Prop where
  cc3 : W.heap[p3]? = some (.cells ([.int .i64 e.k, .int .i64 e.fr, .int .i64 e.id, .int .i64 e.ag, .slice va vn vc] : List Value).toArray 56 (0, 0))
  cx15 : W.heap[p15]? = some (.cells ([.slice a L.length c] : List Value).toArray 66 (0, 0))
  row : OwnL w [] W 9 1 strE (.slice a L.length c) L
  ap : ∀ k, (Value.slice a L.length c).ownBlock = some k → k ≠ p3 ∧ k ≠ p15
  new : w.heap.size ≤ p3 ∧ w.heap.size ≤ p15 ∧ p3 ≠ p15
theorem Wd.low (h : Wd w W p3 p15 e va vn vc L a c) (hb : Below W.heap.size W W') : Wd w W' p3 p15 e va vn vc L a c := by
  have k : ∀ {q : Nat} {o : Obj}, W.heap[q]? = some o → W'.heap[q]? = some o := fun hq => (hb.block _ (Array.getElem?_eq_some_iff.1 hq).1).trans hq
  exact ⟨k h.cc3, k h.cx15, h.row.keep fun k hk => hb.block k (h.row.lt k hk), h.ap, h.new⟩
theorem Wd.call (h : Wd w W p3 p15 e va vn vc L a c) (hb : Bel W W') : Wd w W' p3 p15 e va vn vc L a c := h.low hb.below
theorem flat_strQ : ∀ M : List ByteArray, M.flatMap strE = M.map Value.string
  | [] => rfl
  | x :: M => by rw [List.flatMap_cons, flat_strQ M]; rfl
theorem str_ones (M : List ByteArray) : ∀ u ∈ M.flatMap strE, u.oneCell' = true := fun u hu => by
  obtain ⟨s, _, hs⟩ := List.mem_flatMap.1 hu
  exact str_one s u hs
theorem at_put {is : Bool} {ma : Addr} {mc : Nat} {K : Value → World → Prop} (hA : At w [] W) (h : Wd w W p3 p15 e va vn vc L a c) (hs : SlE W 1 strE M (some ma) M.length mc) (hL : L.length ≤ 1000) (hM : M.length ≤ 1000)
    (hK : ∀ W' a' c', At w [] W' → Wd w W' p3 p15 e va vn vc (L ++ (if (is && inK e.k) = true then M else [])) a' c' → K (.tuple #[]) W') : OpW Tryz.prog (invokeS (.func (.func 54) #[] #[.pointer (some ⟨p3, 0, none⟩), .pointer (some ⟨p15, 0, none⟩)]) #[.bool is, .slice (some ma) M.length mc]) W K := by
  refine opw_invoke (by kernel_rfl) ?_
  refine f54_calls is _ _ _ _ _ W _ ?_
  unfold f54_vc
  have no : (is && inK e.k) = false → ∃ v, Ending.returned (Value.tuple #[]) = .returned v ∧ K v W := fun hh => ⟨_, rfl, by
    refine hK W a c hA ?_
    rw [hh]
    simpa using h⟩
  refine brB (fun hi => ⟨_, rd_f0 h.cc3 (by kernel_rfl) nodQ, brD (fun h1 => ⟨_, rd_f0 h.cc3 (by kernel_rfl) nodQ, brD (fun h19 => ?_) fun h19 => no ?_⟩) fun h1 => no ?_⟩) fun hi => no ?_
  · have hin : (is && inK e.k) = true := by
      unfold inK
      rw [hi, Bool.true_and]
      exact decide_eq_true ⟨h1, h19⟩
    rw [hin] at hK
    simp only [if_true] at hK
    refine ⟨_, _, _, rd_f0 h.cx15 (by kernel_rfl) nodQ, ?_⟩
    have hfl : ∀ (M : List ByteArray), (M.flatMap strE).length = M.length := fun M => by rw [flat_strQ, List.length_map]
    refine opw_appendRaw (bytes := 16) (by kernel_rfl) hA h.row.row0 h.row.mine h.row.apart (m := M.length) (news := M.flatMap strE) (by rw [hfl, Nat.mul_one]) (fun j u hu => ?_) (str_ones M) (by unfold maxLen; omega) (by omega) fun v' w7 hA7 hk7 hg7 hr7 hm7 hap7 hnew => ?_
    · have hj : j < M.length := by
        have := (List.getElem?_eq_some_iff.1 hu).1
        rw [hfl] at this
        exact this
      have hx : M[j]? = some M[j] := List.getElem?_eq_getElem hj
      rw [flat_strQ, List.getElem?_map, hx] at hu
      simp only [Option.map_some, Option.some.injEq] at hu
      subst hu
      obtain ⟨ad, cs, ha, _, hcs, rfl⟩ := hs.at_ hx
      cases ha
      have := hcs 0 _ rfl
      rw [add_add, Nat.mul_one, Nat.add_zero] at this
      exact this
    have ho7 : OwnL w [] w7 9 1 strE v' (L ++ M) := ⟨by rw [List.length_append, List.flatMap_append]; exact hr7, hm7, hap7⟩
    obtain ⟨a', c', rfl, _⟩ := ho7.slice fun _ _ => rfl
    have k3 : w7.heap[p3]? = _ := (hg7.block p3 (Array.getElem?_eq_some_iff.1 h.cc3).1 fun e => (h.ap p3 e.symm).1 rfl).trans h.cc3
    have k15 : w7.heap[p15]? = _ := (hg7.block p15 (Array.getElem?_eq_some_iff.1 h.cx15).1 fun e => (h.ap p15 e.symm).2 rfl).trans h.cx15
    have ap7 : ∀ k, (Value.slice a' (L ++ M).length c').ownBlock = some k → k ≠ p3 ∧ k ≠ p15 := fun k hk => by
      rcases hnew with hh | hh
      · exact h.ap k (hh ▸ hk)
      · have h1 := hh k hk
        have h2 := (Array.getElem?_eq_some_iff.1 h.cc3).1
        have h3 := (Array.getElem?_eq_some_iff.1 h.cx15).1
        omega
    refine ⟨_, _, _, rfl, opw_storeF hA7 k15 (.inl h.new.2.1) (by simp) (cells' := [.slice a' (L ++ M).length c']) (by kernel_rfl) fun w12 hA12 hk12 hch12 h12 => ⟨_, rfl, hK w12 a' c' hA12 ⟨(hch12.block p3 (Array.getElem?_eq_some_iff.1 k3).1 h.new.2.2).trans k3, h12, ho7.chg hch12 fun k hk e => (ap7 k hk).2 e, ap7, h.new⟩⟩⟩
  · unfold inK
    rw [decide_eq_false (fun hh => h19 hh.2), Bool.and_false]
  · unfold inK
    rw [decide_eq_false (fun hh => h1 hh.1), Bool.and_false]
  · rw [hi, Bool.false_and]
end Go.Vc.ZQ

/- Tell: an event. -/
set_option maxRecDepth 20000
set_option maxHeartbeats 2000000
set_option linter.unusedVariables false
namespace Go.Vc.ZQ
open Go Go.Vc Go.Vc.V Go.RowKit Go.Proofs Vcqz

variable {w W W' W1 : World} {gs ds : List Nat} {n : Int} {l : List PartT} {a : Option Addr} {ln lc c : Nat} {L M : List ByteArray} {wh : List UInt8} {p3 p15 : Nat} {e : Ev} {va : Option Addr} {vn vc : Nat}

theorem Wd.rk (h : Wd w W p3 p15 e va vn vc L a c) : Reads Tryz.prog [] (Instr.loadAt 3 (.pointer (some ⟨p3, 0, none⟩))) W (.int .i64 e.k) := rd_f0 h.cc3 (by kernel_rfl) nodQ
theorem Wd.rf (h : Wd w W p3 p15 e va vn vc L a c) : Reads Tryz.prog [] (Instr.loadAt 2 (.pointer (some (Addr.mk p3 (0 + 1) none)))) W (.int .i64 e.fr) := rd_f 0 h.cc3 rfl (by kernel_rfl) nodQ
theorem Wd.ri (h : Wd w W p3 p15 e va vn vc L a c) : Reads Tryz.prog [] (Instr.loadAt 2 (.pointer (some (Addr.mk p3 (0 + 2) none)))) W (.int .i64 e.id) := rd_f 1 h.cc3 rfl (by kernel_rfl) nodQ
theorem Wd.ra (h : Wd w W p3 p15 e va vn vc L a c) : Reads Tryz.prog [] (Instr.loadAt 2 (.pointer (some (Addr.mk p3 (0 + 3) none)))) W (.int .i64 e.ag) := rd_f 2 h.cc3 rfl (by kernel_rfl) nodQ
theorem Wd.rv (h : Wd w W p3 p15 e va vn vc L a c) : Reads Tryz.prog [] (Instr.loadAt 43 (.pointer (some (Addr.mk p3 (0 + 4) none)))) W (.slice va vn vc) := rd_f 3 h.cc3 rfl (by kernel_rfl) nodQ
theorem Wd.rw (h : Wd w W p3 p15 e va vn vc L a c) : Reads Tryz.prog [] (Instr.loadAt 66 (.pointer (some ⟨p15, 0, none⟩))) W (.slice a L.length c) := rd_f0 h.cx15 (by kernel_rfl) nodQ
theorem rk_of {x : Int} (h : Wd w W p3 p15 e va vn vc L a c) (hx : x = e.k) : Reads Tryz.prog [] (Instr.loadAt 3 (.pointer (some ⟨p3, 0, none⟩))) W (.int .i64 x) := hx ▸ h.rk
abbrev addL (e : Ev) (is : Bool) (M : List ByteArray) : List ByteArray := if (is && inK e.k) = true then M else []
theorem evL_hi (h : e.k ≥ 6) : [kindT e.k] ++ addL e (decide (e.k ≥ 3)) [bs [102, 114, 97, 109, 101], numB e.fr] ++ addL e (decide (e.k ≤ 17)) [bs [105, 100], numB e.id] ++ addL e true [bs [97, 103, 101, 110, 116], numB e.ag] ++ addL e true [vecT e.v] = evL e := by
  unfold evL addL wF wI wA wV
  cases hin : inK e.k with
  | false => simp
  | true =>
    rw [if_pos (show e.k ≥ 3 by omega), if_pos (show e.k ≥ 6 ∨ e.k ≤ 2 from .inl h), if_pos (show e.k ≥ 6 ∨ e.k = 1 from .inl h)]
    by_cases h17 : e.k ≤ 17
    · rw [if_pos (show e.k ≥ 6 ∧ e.k ≤ 17 from ⟨h, h17⟩)]
      simp [h17, show (3 : Int) ≤ e.k by omega]
    · rw [if_neg (fun hh : e.k ≥ 6 ∧ e.k ≤ 17 => h17 hh.2)]
      simp [h17, show (3 : Int) ≤ e.k by omega]
theorem evL_lo (h : ¬ e.k ≥ 6) : [kindT e.k] ++ addL e (decide (e.k ≥ 3)) [bs [102, 114, 97, 109, 101], numB e.fr] ++ addL e false [bs [105, 100], numB e.id] ++ addL e (decide (e.k ≤ 2)) [bs [97, 103, 101, 110, 116], numB e.ag] ++ addL e (e.k == 1) [vecT e.v] = evL e := by
  unfold evL addL wF wI wA wV
  cases hin : inK e.k with
  | false => simp
  | true =>
    rw [if_neg (fun hh : e.k ≥ 6 ∧ e.k ≤ 17 => h hh.1)]
    have e1 : (e.k ≥ 6 ∨ e.k ≤ 2) ↔ e.k ≤ 2 := ⟨fun hh => hh.resolve_left h, .inr⟩
    have e2 : (e.k ≥ 6 ∨ e.k = 1) ↔ e.k = 1 := ⟨fun hh => hh.resolve_left h, .inr⟩
    simp only [e1, e2]
    simp
theorem c17 (e : Ev) (hI : EvI e) (w : World) (hT : TabQ w) (hv : SlE w 3 partE e.v va vn vc) : RetW Tryz.prog 17 #[.agg #[.int .i64 e.k, .int .i64 e.fr, .int .i64 e.id, .int .i64 e.ag, .slice va vn vc]] w (.string (evT e)) := by
  intro R h
  refine f17_calls _ _ _ _ _ _ _ w R ?_
  unfold f17_vc
  refine opw_boxS (at_zro w noB) fun p3 w2 hp3 hA2 _ hb2 h3 => ⟨_, rfl, _, rd_f0 h3 (by kernel_rfl) nodQ, ?_⟩
  have hT2 := hT.call hb2
  have hv2 := hv.call hb2
  refine at_callb hA2 (c53 hT2 hI.k) fun w6 hA6 _ hb6 => ⟨_, rfl, ?_⟩
  have h36 : w6.heap[p3]? = _ := (hb6.block (Array.getElem?_eq_some_iff.1 h3).1).trans h3
  refine opw_litL (e' := 9) (size := 1) (f := strE) (l := [kindT e.k]) hA6 rfl (fun _ _ => rfl) (by decide) (by kernel_rfl) fun g w9 hg hA9 _ hb9 ho9 => ⟨_, _, _, rfl, ?_⟩
  have h39 : w9.heap[p3]? = _ := (hb9.block (Array.getElem?_eq_some_iff.1 h36).1).trans h36
  refine opw_allocS (t := 66) (zv := .slice none 0 0) [.slice none 0 0] (by kernel_rfl) rfl hA9 fun p15 w14 hp15 hA14 _ hb14 h15 => ⟨_, rfl, ?_⟩
  have h314 : w14.heap[p3]? = _ := (hb14.block (Array.getElem?_eq_some_iff.1 h39).1).trans h39
  have hz2 := hb2.size
  have hz6 := hb6.size
  have hz9 := hb9.size
  have hz14 := hb14.size
  have hl3 := (Array.getElem?_eq_some_iff.1 h3).1
  have hl9 := ho9.lt g rfl
  refine opw_storeF hA14 h15 (.inl (by show w.heap.size ≤ p15; omega)) (by simp) (cells' := [.slice (some ⟨g, 0, none⟩) 1 1]) (by kernel_rfl) fun w17 hA17 _ hch17 h17 => ?_
  have hgb : ∀ k, (Value.slice (some ⟨g, 0, none⟩) 1 1).ownBlock = some k → k = g := fun k hk => by cases hk; rfl
  have hW : Wd (zro w) w17 p3 p15 e va vn vc [kindT e.k] (some ⟨g, 0, none⟩) 1 := ⟨(hch17.block p3 (Array.getElem?_eq_some_iff.1 h314).1 (by omega)).trans h314, h17, (ho9.call hb14).chg hch17 (fun k hk hN => by have := hgb k hk; omega), (fun k hk => by have := hgb k hk; omega), by show w.heap.size ≤ p3; omega, by show w.heap.size ≤ p15; omega, by omega⟩
  have hbz : Below w.heap.size w w17 := ⟨hA17.chg.os, hA17.chg.tape, hA17.chg.output, hA17.chg.size, fun b hb => hA17.chg.block b hb id⟩
  have hT17 := hT.low hbz
  have hv17 : SlE w17 3 partE e.v va vn vc := hv.mono (cell_below hbz) fun _ _ h => h
  refine ⟨_, hW.rk, _, hW.rk, _, hW.rf, fun w21 hb21 => ?_⟩
  refine at_callb (hA17.call hb21) (c23 e.fr hI.fr w21 (hT17.call hb21)) fun w23 hA23 _ hb23 => ⟨_, rfl, (hW.call (hb21.trans hb23)).rk, ?_⟩
  have low : ∀ {W : World}, At (zro w) [] W → TabQ W ∧ SlE W 3 partE e.v va vn vc := fun hA => by
    have hb : Below w.heap.size w _ := ⟨hA.chg.os, hA.chg.tape, hA.chg.output, hA.chg.size, fun b hb => hA.chg.block b hb id⟩
    exact ⟨hT.low hb, hv.mono (cell_below hb) fun _ _ h => h⟩
  have fin : ∀ {W : World} {L : List ByteArray} {a : Option Addr} {c : Nat}, At (zro w) [] W → Wd (zro w) W p3 p15 e va vn vc L a c → L = evL e → Calls Tryz.prog 21 #[.slice a L.length c] W fun e75 w75 => ∃ s76, e75 = .returned (.string s76) ∧ R (.returned (.string s76)) w75 := by
    intro W L a c hA hW hL
    have hne : L ≠ [] := by
      rw [hL]
      unfold evL
      split <;> simp
    have hll : L.length ≤ 1000000 := by
      rw [hL]
      unfold evL wF wI wA wV
      split
      · split <;> split <;> split <;> split <;> simp
      · simp
    have hz : (jnB L).size ≤ 1000000000000 := by
      rw [hL]
      exact Nat.le_trans (ev_size hI) (by omega)
    refine at_callW hA (c21 hW.row hne hll hz) fun w75 hA _ _ => ⟨_, rfl, leafW h hA ?_⟩
    rw [hL]
    rfl
  refine opw_litL (e' := 9) (size := 1) (f := strE) (l := [bs [102, 114, 97, 109, 101], numB e.fr]) hA23 rfl (fun _ _ => rfl) (by decide) (by kernel_rfl) fun g1 w26 hg1 hA26 _ hb26 ho26 => ⟨_, _, _, rfl, (hW.call ((hb21.trans hb23).trans hb26)).rk, ?_⟩
  refine at_put (M := [bs [102, 114, 97, 109, 101], numB e.fr]) (ma := ⟨g1, 0, none⟩) (mc := 2) hA26 (hW.call ((hb21.trans hb23).trans hb26)) (ho26.sl fun _ _ => rfl) (by simp) (by simp) fun w31 a31 cx31 hA31 hW31 => ⟨rfl, hW31.rk, ?_⟩
  have l31 : ([kindT e.k] ++ addL e (decide (e.k ≥ 3)) [bs [102, 114, 97, 109, 101], numB e.fr]).length ≤ 10 := by
    unfold addL; split <;> simp
  refine brD (fun h6 => ?_) fun h6 => ?_
  · refine ⟨_, hW31.rk, _, hW31.ri, ?_⟩
    intro w100 hb100
    refine at_callb (hA31.call hb100) (c23 e.id hI.id w100 ((low hA31).1.call hb100)) fun w101 hA101 _ hb101 => ⟨_, rfl, (hW31.call (hb100.trans hb101)).rk, ?_⟩
    refine opw_litL (e' := 9) (size := 1) (f := strE) (l := [bs [105, 100], numB e.id]) hA101 rfl (fun _ _ => rfl) (by decide) (by kernel_rfl) fun g100 w102 _ hA102 _ hb102 ho102 => ⟨_, _, _, rfl, (hW31.call ((hb100.trans hb101).trans hb102)).rk, ?_⟩
    refine at_put (is := decide (e.k ≤ 17)) (M := [bs [105, 100], numB e.id]) (ma := ⟨g100, 0, none⟩) (mc := 2) hA102 (hW31.call ((hb100.trans hb101).trans hb102)) (ho102.sl fun _ _ => rfl) (by simp only [List.length_append]; repeat' split; all_goals simp) (by simp) fun w44 a44 cx44 hA44 hW44 => ⟨rfl, hW44.rk, ?_⟩
    refine brD (fun _ => ⟨_, hW44.ra, ?_⟩) fun hh => absurd h6 hh
    intro w110 hb110
    refine at_callb (hA44.call hb110) (c23 e.ag hI.ag w110 ((low hA44).1.call hb110)) fun w111 hA111 _ hb111 => ⟨_, rfl, ?_⟩
    refine opw_litL (e' := 9) (size := 1) (f := strE) (l := [bs [97, 103, 101, 110, 116], numB e.ag]) hA111 rfl (fun _ _ => rfl) (by decide) (by kernel_rfl) fun g110 w112 _ hA112 _ hb112 ho112 => ⟨_, _, _, rfl, ?_⟩
    refine at_put (is := true) (M := [bs [97, 103, 101, 110, 116], numB e.ag]) (ma := ⟨g110, 0, none⟩) (mc := 2) hA112 (hW44.call ((hb110.trans hb111).trans hb112)) (ho112.sl fun _ _ => rfl) (by simp only [List.length_append]; repeat' split; all_goals simp) (by simp) fun w56 a56 cx56 hA56 hW56 => ⟨rfl, ?_⟩
    refine brD (fun _ => ⟨_, _, _, hW56.rv, ?_⟩) fun hh => absurd h6 hh
    intro w120 hb120
    refine at_callW (hA56.call hb120) (c25 ((low hA56).1.call hb120) ((low hA56).2.call hb120)) fun w121 hA121 _ hb121 => ⟨_, rfl, ?_⟩
    refine opw_litL (e' := 9) (size := 1) (f := strE) (l := [vecT e.v]) hA121 rfl (fun _ _ => rfl) (by decide) (by kernel_rfl) fun g120 w122 _ hA122 _ hb122 ho122 => ⟨_, _, _, rfl, ?_⟩
    refine at_put (is := true) (M := [vecT e.v]) (ma := ⟨g120, 0, none⟩) (mc := 1) hA122 (((hW56.call hb120).low hb121).call hb122) (ho122.sl fun _ _ => rfl) (by simp only [List.length_append]; repeat' split; all_goals simp) (by simp) fun w70 a70 cx70 hA70 hW70 => ⟨rfl, _, _, _, hW70.rw, fin hA70 hW70 ?_⟩
    exact evL_hi h6
  · refine ⟨_, hW31.ri, ?_⟩
    intro w130 hb130
    refine at_callb (hA31.call hb130) (c23 e.id hI.id w130 ((low hA31).1.call hb130)) fun w131 hA131 _ hb131 => ⟨_, rfl, ?_⟩
    refine opw_litL (e' := 9) (size := 1) (f := strE) (l := [bs [105, 100], numB e.id]) hA131 rfl (fun _ _ => rfl) (by decide) (by kernel_rfl) fun g130 w132 _ hA132 _ hb132 ho132 => ⟨_, _, _, rfl, ?_⟩
    refine at_put (is := false) (M := [bs [105, 100], numB e.id]) (ma := ⟨g130, 0, none⟩) (mc := 2) hA132 (hW31.call ((hb130.trans hb131).trans hb132)) (ho132.sl fun _ _ => rfl) (by simp only [List.length_append]; repeat' split; all_goals simp) (by simp) fun w144 a144 cx144 hA144 hW144 => ⟨rfl, ?_⟩
    refine brD (fun hh => absurd hh h6) fun _ => ⟨_, hW144.rk, _, hW144.ra, ?_⟩
    intro w140 hb140
    refine at_callb (hA144.call hb140) (c23 e.ag hI.ag w140 ((low hA144).1.call hb140)) fun w141 hA141 _ hb141 => ⟨_, rfl, (hW144.call (hb140.trans hb141)).rk, ?_⟩
    refine opw_litL (e' := 9) (size := 1) (f := strE) (l := [bs [97, 103, 101, 110, 116], numB e.ag]) hA141 rfl (fun _ _ => rfl) (by decide) (by kernel_rfl) fun g140 w142 _ hA142 _ hb142 ho142 => ⟨_, _, _, rfl, (hW144.call ((hb140.trans hb141).trans hb142)).rk, ?_⟩
    refine at_put (is := decide (e.k ≤ 2)) (M := [bs [97, 103, 101, 110, 116], numB e.ag]) (ma := ⟨g140, 0, none⟩) (mc := 2) hA142 (hW144.call ((hb140.trans hb141).trans hb142)) (ho142.sl fun _ _ => rfl) (by simp only [List.length_append]; repeat' split; all_goals simp) (by simp) fun w156 a156 cx156 hA156 hW156 => ⟨rfl, hW156.rk, ?_⟩
    refine brD (fun hh => absurd hh h6) fun _ => ⟨_, hW156.rk, _, _, _, hW156.rv, ?_⟩
    intro w150 hb150
    refine at_callW (hA156.call hb150) (c25 ((low hA156).1.call hb150) ((low hA156).2.call hb150)) fun w151 hA151 _ hb151 => ⟨_, rfl, ((hW156.call hb150).low hb151).rk, ?_⟩
    refine opw_litL (e' := 9) (size := 1) (f := strE) (l := [vecT e.v]) hA151 rfl (fun _ _ => rfl) (by decide) (by kernel_rfl) fun g150 w152 _ hA152 _ hb152 ho152 => ⟨_, _, _, rfl, (((hW156.call hb150).low hb151).call hb152).rk, ?_⟩
    refine at_put (is := (e.k == 1)) (M := [vecT e.v]) (ma := ⟨g150, 0, none⟩) (mc := 1) hA152 (((hW156.call hb150).low hb151).call hb152) (ho152.sl fun _ _ => rfl) (by simp only [List.length_append]; repeat' split; all_goals simp) (by simp) fun w170 a170 cx170 hA170 hW170 => ⟨rfl, hW170.rk, _, _, _, hW170.rw, fin hA170 hW170 ?_⟩
    exact evL_lo h6
end Go.Vc.ZQ

/- Tell: a reply; few. -/
set_option maxRecDepth 20000
set_option maxHeartbeats 2000000
set_option linter.unusedVariables false
namespace Go.Vc.ZQ
open Go Go.Vc Go.Vc.V Go.RowKit Go.Proofs Vcqz

variable {w W W' W1 : World} {gs ds : List Nat} {n : Int} {l : List PartT} {a : Option Addr} {ln lc c : Nat} {L M : List ByteArray} {wh : List UInt8} {e : Ev} {va : Option Addr} {vn vc : Nat} {rows : List ER} {code : Int}

abbrev i32E (x : Int) : List Value := [.int .i32 x]
theorem opw_runes {g : Nat} {K : Value → World → Prop} (hs : SlE W 1 i32E [59, 32] (some ⟨g, 0, none⟩) 2 2) (h : K (.string (bs [59, 32])) W) : OpW Tryz.prog (valueS (convert 114 9 (.slice (some ⟨g, 0, none⟩) 2 2))) W K := by
  have hr := run_convert_runes (P := Tryz.prog) W 114 9 21 ⟨g, 0, none⟩ 2 2 [59, 32] (by decide) (by kernel_rfl) (by kernel_rfl) (by kernel_rfl) fun j hj => by
    have hx : ([59, 32] : List Int)[j]? = some (([59, 32] : List Int).getD j 0) := by
      simp at hj
      have : j = 0 ∨ j = 1 := by omega
      rcases this with rfl | rfl <;> rfl
    obtain ⟨ad, cs, ha, _, hcs, rfl⟩ := hs.at_ hx
    cases ha
    have := hcs 0 _ rfl
    rw [add_add, Nat.mul_one, Nat.add_zero] at this
    exact this
  have e : runesBytes (([59, 32] : List Int).take 2) = bs [59, 32] := by decide
  rw [e] at hr
  unfold OpW
  rw [run_valueS hr]
  exact h
theorem cc6 (hc : I64 code) (w : World) (hT : TabQ w) (hE : Evs w rows a ln lc) (hl : rows.length ≤ 30000000000000) : RetW Tryz.prog 18 #[.agg #[.int .i64 code, .slice a ln lc]] w (.string (repT code (rows.map (·.1)))) := by
  intro R h
  refine f18_calls _ _ _ _ w R ?_
  unfold f18_vc
  have hln := hE.sl.1
  have ez := err_size hc
  have low : ∀ {W : World} {gs : List Nat}, At (zro w) gs W → TabQ W ∧ Evs W rows a ln lc := fun hA => by
    have hb : Below w.heap.size w _ := ⟨hA.chg.os, hA.chg.tape, hA.chg.output, hA.chg.size, fun b hb => hA.chg.block b hb id⟩
    exact ⟨hT.low hb, hE.low hb⟩
  refine go_n (at_zro w noB) fun n1 hn1 => go_below_too (at_zro w noB) fun w2 hA hb2 => ?_
  refine at_callb hA (c55 (low hA).1 hc) fun w4 hA hk hb4 => ⟨_, rfl, hk, ?_⟩
  refine ⟨fun s W => At (zro w) [n1] W ∧ ∃ i : Nat, s.2.1 = i ∧ i ≤ ln ∧ s.1 = repT code ((rows.take i).map (·.1)) ∧ s.1.size ≤ 1000 + i * 300002, fun s _ => ln - s.2.1.toNat, ⟨hA, 0, rfl, Nat.zero_le _, rfl, by simp only; omega⟩, ?_⟩
  rintro s8 x9 w10 ⟨hA, i, hi, hil, hs, hz⟩
  simp only at hi hs hz
  subst hi hs
  have hw : IntKind.i64.wrap ((i : Int) + 1) = ((i + 1 : Nat) : Int) := by rw [wrap_i64 (by omega) (by omega)]; omega
  refine brD (fun hlt => ?_) fun hge => ?_
  · have him : i < rows.length := by omega
    obtain ⟨r, hr⟩ : ∃ r, rows[i]? = some r := ⟨_, List.getElem?_eq_getElem him⟩
    have hE10 := (low hA).2
    have hrm := List.mem_of_getElem? hr
    have hI := (hE10.ok r hrm).1
    have evz := ev_size hI
    obtain ⟨ad, g1, el, _⟩ := elt_at (P := Tryz.prog) (k := .i64) (t := 59) hE10.sl hr (e := 56) (by kernel_rfl) (by kernel_rfl)
    have tk : (rows.take (i + 1)).map (·.1) = (rows.take i).map (·.1) ++ [r.1] := by rw [List.take_add_one, hr, Option.toList_some, List.map_append]; rfl
    rw [hw]
    have z1 : (bs [59, 32]).size + (evT r.1).size ≤ 9223372036854775807 := by
      rw [bs_size]
      simp only [List.length_cons, List.length_nil]
      omega
    have z2 : (repT code ((rows.take i).map (·.1))).size + (bs [59, 32] ++ evT r.1).size ≤ 9223372036854775807 := by
      rw [ap_size, bs_size]
      simp only [List.length_cons, List.length_nil]
      omega
    have fin : ∀ {W : World} {gs : List Nat}, At (zro w) gs W → (∀ x ∈ [n1], x ∈ gs) → (At (zro w) [n1] W ∧ ∃ j : Nat, ((i + 1 : Nat) : Int) = j ∧ j ≤ ln ∧ repT code ((rows.take i).map (·.1)) ++ (bs [59, 32] ++ evT r.1) = repT code ((rows.take j).map (·.1)) ∧ (repT code ((rows.take i).map (·.1)) ++ (bs [59, 32] ++ evT r.1)).size ≤ 1000 + j * 300002) := fun hA hg => by
      refine ⟨hA.sub hg, i + 1, rfl, by omega, ?_, ?_⟩
      · rw [tk, rep_snoc, ByteArray.append_assoc]
      · rw [ap_size, ap_size, bs_size]
        simp only [List.length_cons, List.length_nil]
        omega
    have ev : ∀ {W : World} {gs : List Nat} {K : Ending → World → Prop}, At (zro w) gs W → (∀ w', At (zro w) gs w' → Keeps gs W w' → Below W.heap.size W w' → K (.returned (.string (evT r.1))) w') → Calls Tryz.prog 17 #[.agg #[.int .i64 r.1.k, .int .i64 r.1.fr, .int .i64 r.1.id, .int .i64 r.1.ag, .slice r.2.1 r.2.2.1 r.2.2.2]] W K := fun hA hK => at_callW hA (c17 r.1 hI _ (low hA).1 ((low hA).2.ok r hrm).2) hK
    refine ⟨ad, g1, _, _, _, _, _, _, _, el.agg 5 (by kernel_rfl) (by kernel_rfl) (by simp) no_ds, go_n hA fun n19 h19 => ⟨go_evo hA (by simpa using h19) fun w20 hA20 => ?_, go_evo hA (by simpa using h19) fun w42 hA42 => ?_⟩⟩
    · refine opw_litL (e' := 21) (size := 1) (f := i32E) (l := [59, 32]) hA20 rfl (fun _ _ => rfl) (by decide) (by kernel_rfl) fun g w22 _ hA22 hk22 _ ho => ⟨_, _, _, rfl, hk22, ?_, ?_⟩
      · refine opw_runes (ho.sl fun _ _ => rfl) ⟨_, rfl, fun _ _ => rfl, ev hA22 fun w30 hA30 hk30 _ => ⟨_, rfl, hk30, _, gives_sadd z1, _, gives_sadd z2, fin hA30 (by simp), by simp only; omega⟩⟩
      · refine ev hA22 fun w35 hA35 hk35 hb35 => ⟨_, rfl, hk35, opw_runes ((ho.sl fun _ _ => rfl).mono (cell_below hb35) fun _ _ h => h) ⟨_, rfl, fun _ _ => rfl, _, gives_sadd z1, _, gives_sadd z2, fin hA35 (by simp), by simp only; omega⟩⟩
    · refine ev hA42 fun w44 hA44 hk44 _ => ⟨_, rfl, hk44, opw_litL (e' := 21) (size := 1) (f := i32E) (l := [59, 32]) hA44 rfl (fun _ _ => rfl) (by decide) (by kernel_rfl) fun g w47 _ hA47 hk47 _ ho => ⟨_, _, _, rfl, hk47, opw_runes (ho.sl fun _ _ => rfl) ⟨_, rfl, fun _ _ => rfl, _, gives_sadd z1, _, gives_sadd z2, fin hA47 (by simp), by simp only; omega⟩⟩⟩
  · rw [List.take_of_length_le (by omega)]
    exact leafW h hA rfl
end Go.Vc.ZQ

/- The library's builder, at this program: WriteString, WriteRune, String. -/
set_option linter.unusedVariables false
set_option maxRecDepth 20000
namespace Go.Proofs
open Go.Shelf Go.RowKit
theorem Tryz.Q_WriteString (B b : Nat) (bs : List Value) (s : ByteArray) (w : World) (h : Lib.IsBuilderF 65 5 B b bs w) (hlen : bs.length + s.size ≤ 140737488355328) (hBw : B ≤ w.heap.size) :
    Calls Tryz.prog 20 #[.pointer (some ⟨b, 0, none⟩), .string s] w fun e w' => e = .returned (.tuple #[.int .i64 s.size, .nilIface]) ∧ (Lib.BuilderAtF 65 5 B b (.pointer (some ⟨b, 0, none⟩)) (bs ++ Lib.byteCells s.data.toList) w' ∧ Below B w w' ∧ Lib.OthersKept 5 (some b) w w') := Any.Builder_WriteString_k ({ Tryz.lays156 with } : Lays.n166 Tryz.prog Tryz.lays156_ren) Tryz.Builder_Extra_156 B b bs s w h hlen hBw
theorem Tryz.Q_String (B b : Nat) (l : List UInt8) (w : World) (h : Lib.IsBuilderF 65 5 B b (Lib.byteCells l) w) (hBw : B ≤ w.heap.size) :
    Calls Tryz.prog 26 #[.pointer (some ⟨b, 0, none⟩)] w fun e w' => e = .returned (.string ⟨l.toArray⟩) ∧ (Lib.IsBuilderF 65 5 B b (Lib.byteCells l) w' ∧ Below B w w' ∧ Lib.OthersKept 5 (some b) w w') := Any.Builder_String_any_k ({ Tryz.lays156 with } : Lays.n169 Tryz.prog Tryz.lays156_ren) Tryz.Builder_Extra_156 B b l w h hBw
def Tryz.lays168_ren : Go.Shelf.Ren := ⟨fun | 168 => 22 | 240 => 56 | 242 => 58 | 276 => 77 | 278 => 79 | n => n, fun | 9 => 9 | 3 => 3 | 4 => 4 | 0 => 0 | 20 => 20 | 72 => 65 | 70 => 62 | 37 => 63 | 75 => 68 | 164 => 135 | 5 => 5 | 80 => 77 | 21 => 21 | 46 => 145 | 51 => 138 | n => n, fun | n => n⟩
theorem Tryz.lays168 : Go.Proofs.Lays.n168 Tryz.prog Tryz.lays168_ren := {
  mixed := by kernel_rfl
  f168 := Tryz.func22.trans (congrArg some (by kernel_rfl))
  f240 := Tryz.func56.trans (congrArg some (by kernel_rfl))
  f242 := Tryz.func58.trans (congrArg some (by kernel_rfl))
  f276 := Tryz.func77.trans (congrArg some (by kernel_rfl))
  f278 := Tryz.func79.trans (congrArg some (by kernel_rfl))
  t0 := Tryz.underlying0
  a0 := Tryz.isAgg0
  z0 := Tryz.sizeOf0
  v0 := Tryz.zeroValue0
  t3 := Tryz.underlying3
  a3 := Tryz.isAgg3
  z3 := Tryz.sizeOf3
  v3 := Tryz.zeroValue3
  t4 := Tryz.underlying4
  a4 := Tryz.isAgg4
  z4 := Tryz.sizeOf4
  v4 := Tryz.zeroValue4
  t5 := Tryz.underlying5
  a5 := Tryz.isAgg5
  z5 := Tryz.sizeOf5
  v5 := Tryz.zeroValue5
  t9 := Tryz.underlying9
  a9 := Tryz.isAgg9
  z9 := Tryz.sizeOf9
  v9 := Tryz.zeroValue9
  t20 := Tryz.underlying20
  a20 := Tryz.isAgg20
  z20 := Tryz.sizeOf20
  v20 := Tryz.zeroValue20
  t21 := Tryz.underlying21
  a21 := Tryz.isAgg21
  z21 := Tryz.sizeOf21
  v21 := Tryz.zeroValue21
  t37 := Tryz.underlying63
  a37 := Tryz.isAgg63
  z37 := Tryz.sizeOf63
  v37 := Tryz.zeroValue63
  t46 := Tryz.underlying145
  a46 := Tryz.isAgg145
  z46 := Tryz.sizeOf145
  v46 := Tryz.zeroValue145
  t51 := Tryz.underlying138
  a51 := Tryz.isAgg138
  z51 := Tryz.sizeOf138
  v51 := Tryz.zeroValue138
  t70 := Tryz.underlying62
  a70 := Tryz.isAgg62
  z70 := Tryz.sizeOf62
  v70 := Tryz.zeroValue62
  t72 := Tryz.underlying65
  a72 := Tryz.isAgg65
  z72 := Tryz.sizeOf65
  v72 := Tryz.zeroValue65
  t75 := Tryz.underlying68
  a75 := Tryz.isAgg68
  z75 := Tryz.sizeOf68
  v75 := Tryz.zeroValue68
  t164 := Tryz.underlying135
  a164 := Tryz.isAgg135
  z164 := Tryz.sizeOf135
  v164 := Tryz.zeroValue135 }
theorem Tryz.Builder_Extra_168 : Builder.Extra Tryz.prog Tryz.lays168_ren := {
  sizeBuilder := by kernel_rfl
  liesBuilder := by kernel_rfl
  t5 := Tryz.underlying5
  a5 := Tryz.isAgg5
  z5 := Tryz.sizeOf5
  v5 := Tryz.zeroValue5
  infoByte := by kernel_rfl
  cellsByte := by kernel_rfl
  sizeByte := by kernel_rfl
  neB5 := by decide }
theorem Tryz.Q_WriteRune (B b : Nat) (bs : List Value) (r : Int) (hr0 : -2147483648 ≤ r) (hr1 : r ≤ 2147483647) (w : World) (h : Lib.IsBuilderF 65 5 B b bs w) (hlen : bs.length + 4 ≤ 140737488355328) (hBw : B ≤ w.heap.size) :
    Calls Tryz.prog 22 #[.pointer (some ⟨b, 0, none⟩), .int .i32 r] w fun e w' => e = .returned (.tuple #[.int .i64 (Lib.runeCells r).length, .nilIface]) ∧ (Lib.BuilderAtF 65 5 B b (.pointer (some ⟨b, 0, none⟩)) (bs ++ Lib.runeCells r) w' ∧ Below B w w' ∧ Lib.OthersKept 5 (some b) w w') := Any.Builder_WriteRune_k Tryz.lays168 Tryz.Builder_Extra_168 B b bs r hr0 hr1 w h hlen hBw
end Go.Proofs

/- Tell: lines into a builder; an empty book; works. -/
set_option maxRecDepth 20000
set_option maxHeartbeats 2000000
set_option linter.unusedVariables false
namespace Go.Vc.ZQ
open Go Go.Vc Go.Vc.V Go.RowKit Go.Proofs Vcqz

variable {w W W' W1 : World} {gs ds : List Nat} {n : Int} {l : List PartT} {a : Option Addr} {ln lc c : Nat} {L M : List ByteArray} {wh : List UInt8} {e : Ev} {va : Option Addr} {vn vc p : Nat} {s : ByteArray}

theorem bldA_low {T e : TypeId} {B b : Nat} {q : Value} {xs : List Value} (h : Lib.BuilderAtF T e B b q xs W) (hb : Below W.heap.size W W') : Lib.BuilderAtF T e B b q xs W' := by
  have hl := h.lt
  obtain ⟨hB, v, h1, h2, h3⟩ := h
  refine ⟨hB, v, (hb.block b hl).trans h1, h2.kept (row := none) ⟨hb.os, hb.tape, hb.output, hb.size, fun k hk _ => hb.block k hk⟩ ?_, h3⟩
  cases hv : v.ownBlock with
  | none => exact .inl rfl
  | some k => exact .inr (fun e => by cases e)
theorem bld_low {T e : TypeId} {B b : Nat} {xs : List Value} (h : Lib.IsBuilderF T e B b xs W) (hb : Below W.heap.size W W') : Lib.IsBuilderF T e B b xs W' := h.imp (fun h => bldA_low h hb) fun h => bldA_low h hb
/-- A builder, and what it holds. -/
structure Bd (w W : World) (gs : List Nat) (p : Nat) (s : ByteArray) : Prop where
  at_ : At (zro w) gs W
  gl : ∀ g ∈ gs, g < p
  b : Lib.IsBuilderF 65 5 p p (Lib.byteCells s.data.toList) W
  lo : w.heap.size ≤ p
  lt : p < W.heap.size
theorem Bd.low (h : Bd w W gs p s) (hb : Below W.heap.size W W') (hA : At (zro w) gs W') : Bd w W' gs p s := ⟨hA, h.gl, bld_low h.b hb, h.lo, Nat.lt_of_lt_of_le h.lt hb.size⟩
theorem at_low (hA : At (zro w) gs W) (hp : w.heap.size ≤ p) (hpW : p ≤ W.heap.size) (hb : Below p W W') : At (zro w) gs W' :=
  ⟨⟨hb.os.trans hA.chg.os, hb.tape.trans hA.chg.tape, hb.output.trans hA.chg.output, Nat.le_trans hA.chg.size hb.size, fun b hl hm => (hb.block b (Nat.lt_of_lt_of_le hl hp)).trans (hA.chg.block b hl hm), Nat.zero_le _⟩, fun g hg => Nat.lt_of_lt_of_le (hA.under g hg) hb.size⟩
theorem bc_append (a b : ByteArray) : Lib.byteCells a.data.toList ++ Lib.byteCells b.data.toList = Lib.byteCells (a ++ b).data.toList := by
  unfold Lib.byteCells
  rw [← List.map_append]
  congr 1
def nl (s : ByteArray) : ByteArray := s ++ bs [10]
theorem at_line {N : Nat → Prop} {K : Value → World → Prop} (h : Bd w W gs p s) (ho : OwnF (zro w) noB gs W 9 1 strE (.slice a L.length c) L) (h0 : L ≠ []) (hl : L.length ≤ 1000000) (hz : (jnB L).size ≤ 1000000000) (hs : s.size ≤ 100000000000000)
    (hK : ∀ W', Keeps gs W W' → Bd w W' gs p (s ++ nl (jnB L)) → K (.tuple #[]) W') : OpW Tryz.prog (invokeS (.func (.func 19) #[] #[.pointer (some ⟨p, 0, none⟩)]) #[.slice a L.length c]) W K := by
  refine opw_invoke (by kernel_rfl) ?_
  refine f19_calls _ _ _ _ W _ ?_
  unfold f19_vc
  refine at_callW h.at_ (c21 ho h0 hl (by omega)) fun w2 hA2 hk2 hb2 => ⟨_, rfl, ?_⟩
  have h2 := h.low hb2 hA2
  have sz : ∀ t : ByteArray, (Lib.byteCells t.data.toList).length = t.size := fun t => by
    rw [Lib.byteCells_length]
    exact Array.length_toList
  refine (Tryz.Q_WriteString p p _ (jnB L) w2 h2.b (by rw [sz]; omega) (Nat.le_of_lt h2.lt)).mono fun e5 w5 ⟨he, hb, hbl, _⟩ => ⟨_, _, he, ?_⟩
  have hA5 := at_low hA2 h2.lo (Nat.le_of_lt h2.lt) hbl
  have hlt5 := Nat.lt_of_lt_of_le h2.lt hbl.size
  refine (Tryz.Q_WriteRune p p _ 10 (by omega) (by omega) w5 (.inr hb) (by rw [bc_append, sz, ap_size]; omega) (Nat.le_of_lt hlt5)).mono fun e9 w9 ⟨he9, hb9, hbl9, _⟩ => ⟨_, _, he9, _, rfl, ?_⟩
  refine hK w9 (fun g hg => (hbl9.block g (h.gl g hg)).trans ((hbl.block g (h.gl g hg)).trans (hk2 g hg))) ⟨at_low hA5 h2.lo (Nat.le_of_lt hlt5) hbl9, h.gl, .inr ?_, h2.lo, Nat.lt_of_lt_of_le hlt5 hbl9.size⟩
  have er : Lib.runeCells 10 = Lib.byteCells (bs [10]).data.toList := by
    unfold Lib.runeCells
    rw [Lib.encodeRuneZ_one (by omega) (by omega)]
    rfl
  rw [bc_append, er, bc_append] at hb9
  unfold nl
  rw [← ByteArray.append_assoc]
  exact hb9
theorem bd_new (hA : At (zro w) gs W) {K : Value → World → Prop} (h : ∀ W', Keeps gs W W' → Bd w W' gs W.heap.size (bs []) → K (.pointer (some ⟨W.heap.size, 0, none⟩)) W') : OpW Tryz.prog (valueS (Instr.alloc 65 true (.tuple #[]))) W K := by
  have hz : pureRun Tryz.prog (zeroValue 65) = some (.agg #[.pointer none, .slice none 0 0]) := by kernel_rfl
  unfold OpW
  rw [run_valueS (run_alloc hz)]
  refine h _ (hA.keeps (below_alloc _)) ⟨hA.call (below_alloc _), fun g hg => hA.under g hg, ?_, hA.chg.size, by rw [World.size_alloc]; exact Nat.lt_succ_self _⟩
  exact Lib.IsBuilderF.of (Lib.fresh_isBuilder 65 5 W)
theorem end_str {R : Ending → World → Prop} (hR : ∀ w', Below w.heap.size w w' → R (.returned (.string s)) w') (h : Bd w W gs p s) : Calls Tryz.prog 26 #[.pointer (some ⟨p, 0, none⟩)] W fun e w' => ∃ s', e = .returned (.string s') ∧ Keeps gs W w' ∧ R (.returned (.string s')) w' := by
  refine (Tryz.Q_String p p s.data.toList W h.b (Nat.le_of_lt h.lt)).mono fun e w' ⟨he, _, hb, _⟩ => ⟨_, he, fun g hg => hb.block g (h.gl g hg), ?_⟩
  have hA := at_low h.at_ h.lo (Nat.le_of_lt h.lt) hb
  exact leafW hR hA (by rw [show (⟨s.data.toList.toArray⟩ : ByteArray) = s from bs_data s])
end Go.Vc.ZQ

/- Tell: an empty book; works. -/
set_option maxRecDepth 20000
set_option maxHeartbeats 2000000
set_option linter.unusedVariables false
namespace Go.Vc.ZQ
open Go Go.Vc Go.Vc.V Go.RowKit Go.Proofs Vcqz

variable {w W W' W1 : World} {gs ds : List Nat} {n : Int} {l : List PartT} {a : Option Addr} {ln lc c : Nat} {L M : List ByteArray} {wh : List UInt8} {e : Ev} {va : Option Addr} {vn vc p : Nat} {s : ByteArray}

theorem low_of {gs : List Nat} (hA : At (zro w) gs W) : Below w.heap.size w W := ⟨hA.chg.os, hA.chg.tape, hA.chg.output, hA.chg.size, fun b hb => hA.chg.block b hb id⟩
def nowL (now last : Int) : List ByteArray := [bs [110, 111, 119], numB now, bs [108, 97, 115, 116], numB last]
theorem now_size {x y : Int} (hx : I64 x) (hy : I64 y) : (jnB (nowL x y)).size ≤ 100 := by
  have h1 := jnB_size (nowL x y)
  have k1 := num_len hx
  have k2 := num_len hy
  unfold nowL at h1 ⊢
  simp [bs_size] at h1
  omega
theorem c7e (w : World) (hT : TabQ w) : RetW Tryz.prog 7 #[.agg #[.int .i64 0, .int .i64 0, .int .i64 0, .int .i64 0, .int .i64 0, .int .i64 0, .int .i64 0, .int .i64 0, .int .i64 0, .int .i64 0, .int .i64 0, .slice none 0 0, .slice none 0 0, .slice none 0 0, .slice none 0 0, .slice none 0 0]] w (.string (nl (jnB (nowL 0 0)))) := by
  intro R h
  refine f7_calls _ _ _ _ _ _ _ _ _ _ _ _ _ _ _ _ _ _ _ _ _ _ _ _ _ _ w R ?_
  unfold f7_vc
  have i0 : I64 0 := ⟨by omega, by omega⟩
  refine fun n1 hn1 => go_below_too (at_zro w noB) fun w2 hA2 hb2 => ?_
  refine bd_new hA2 fun w4 hk4 hB4 => ⟨_, rfl, hk4, go_below_too hB4.at_ fun w6 hA6 hb6 => ?_⟩
  have hB6 := hB4.low hb6.below hA6
  refine at_callb hA6 (c23 0 i0 w6 (hT.low (low_of hA6))) fun w8 hA8 hk8 hb8 => ⟨_, rfl, hk8, at_callb hA8 (c23 0 i0 w8 (hT.low (low_of hA8))) fun w11 hA11 hk11 hb11 => ⟨_, rfl, hk11, ?_⟩⟩
  have hB11 := (hB6.low hb8.below hA8).low hb11.below hA11
  refine opw_litL (e' := 9) (size := 1) (f := strE) (l := nowL 0 0) hA11 rfl (fun _ _ => rfl) (by decide) (by kernel_rfl) fun g w14 _ hA14 hk14 hb14 ho => ⟨_, _, _, rfl, hk14, ?_⟩
  have hz := now_size i0 i0
  refine at_line (L := nowL 0 0) (N := noB) (hB11.low hb14.below hA14) ho (by unfold nowL; simp) (by unfold nowL; simp) (by omega) (by rw [bs_size]; simp) fun w19 hk19 hB19 => ⟨rfl, hk19, ?_⟩
  have es : bs [] ++ nl (jnB (nowL 0 0)) = nl (jnB (nowL 0 0)) := by
    apply ba_ext
    simp [bs]
  rw [es] at hB19
  have z : ∀ {x : Int}, x = 0 → ¬ x < ((0 : Nat) : Int) := fun h => by omega
  refine ⟨fun s W => s.1 = 0 ∧ Keeps [n1] w19 W ∧ W = w19, fun _ _ => 0, ⟨rfl, fun _ _ => rfl, rfl⟩, ?_⟩
  rintro x1 W1 ⟨h1, _, rfl⟩
  refine brD (fun hh => absurd hh (z h1)) fun _ => ⟨fun s W => s.1 = 0 ∧ W = W1, fun _ _ => 0, ⟨rfl, rfl⟩, ?_⟩
  rintro x2 W2 ⟨h2, rfl⟩
  refine brD (fun hh => absurd hh (z h2)) fun _ => ⟨fun s W => s.1 = 0 ∧ W = W2, fun _ _ => 0, ⟨rfl, rfl⟩, ?_⟩
  rintro x3 W3 ⟨h3, rfl⟩
  refine brD (fun hh => absurd hh (z h3)) fun _ => ⟨fun s W => s.1 = 0 ∧ W = W3, fun _ _ => 0, ⟨rfl, rfl⟩, ?_⟩
  rintro x4 W4 ⟨h4, rfl⟩
  refine brD (fun hh => absurd hh (z h4)) fun _ => ⟨fun s W => s.1 = 0 ∧ W = W4, fun _ _ => 0, ⟨rfl, rfl⟩, ?_⟩
  rintro x5 W5 ⟨h5, rfl⟩
  refine brD (fun hh => absurd hh (z h5)) fun _ => end_str h hB19
/-! ### The examples -/
def ev0 : Ev := ⟨6, 1, 2, 3, [((0 : Int), (0 : Int), (1000 : Int))]⟩
theorem num_d {d : Nat} (h : d < 10) : numB (d : Int) = bs [UInt8.ofNat (48 + d)] := by
  unfold numB
  rw [Lib.itoa_nonneg, Lib.decDigits_one h]
theorem word_cpus : wordB ((0 : Int), (0 : Int), (1000 : Int)) = bs [99, 112, 117, 115, 58, 49] := by
  have e1 : stext 0 0 = bs [99, 112, 117, 115] := by
    unfold stext
    rw [if_pos (by decide), if_pos rfl]
    decide
  have e2 : strOfNums (txtL 1000) = bs [49] := by
    unfold txtL
    rw [if_pos (by omega), if_pos (by decide)]
    have := digits_bs (n := 1000 / 1000) (by omega)
    rw [this, show ((1000 : Int) / 1000).toNat = 1 from rfl, Lib.decDigits_one (by omega)]
    rfl
  unfold wordB
  simp only
  rw [e1, e2]
  decide
theorem vec_cpus : vecT [((0 : Int), (0 : Int), (1000 : Int))] = bs [99, 112, 117, 115, 58, 49] := by
  unfold vecT
  rw [if_pos (by decide)]
  unfold vtext
  rw [if_pos (by decide), if_neg (by simp), List.map_singleton, Lib.join_one, word_cpus]
theorem ev0_str : evT ev0 = bs [111, 102, 102, 101, 114, 101, 100, 32, 102, 114, 97, 109, 101, 32, 49, 32, 105, 100, 32, 50, 32, 97, 103, 101, 110, 116, 32, 51, 32, 99, 112, 117, 115, 58, 49] := by
  have h1 : numB 1 = bs [49] := num_d (d := 1) (by omega)
  have h2 : numB 2 = bs [50] := num_d (d := 2) (by omega)
  have h3 : numB 3 = bs [51] := num_d (d := 3) (by omega)
  have hk : kindT 6 = bs [111, 102, 102, 101, 114, 101, 100] := by
    unfold kindT
    exact wordT_in (i := 6) (by decide) (by decide)
  have he : evL ev0 = [bs [111, 102, 102, 101, 114, 101, 100], bs [102, 114, 97, 109, 101], bs [49], bs [105, 100], bs [50], bs [97, 103, 101, 110, 116], bs [51], bs [99, 112, 117, 115, 58, 49]] := by
    unfold evL wF wI wA wV
    rw [if_pos (by decide), if_pos (by decide), if_pos (by decide), if_pos (by decide), if_pos (by decide)]
    unfold ev0
    simp only
    rw [h1, h2, h3, hk, vec_cpus]
    rfl
  unfold evT
  rw [he]
  decide
theorem rep0_str : repT 10 [] = bs [110, 111, 32, 102, 114, 97, 109, 101, 119, 111, 114, 107] := by
  unfold repT
  rw [List.foldl_nil]
  unfold errT
  exact wordT_in (i := 10) (by decide) (by decide)
theorem book0_str : nl (jnB (nowL 0 0)) = bs [110, 111, 119, 32, 48, 32, 108, 97, 115, 116, 32, 48, 10] := by
  have h0 : numB 0 = bs [48] := num_d (d := 0) (by omega)
  unfold nowL
  rw [h0]
  decide
theorem c6 (w : World) (hT : TabQ w) : RetW Tryz.prog 6 #[] w (.bool true) := by
  intro R h
  refine f6_calls w R ?_
  unfold f6_vc
  have eI : EvI ev0 := ⟨⟨by decide, by decide⟩, ⟨by decide, by decide⟩, ⟨by decide, by decide⟩, ⟨by decide, by decide⟩⟩
  refine opw_litL (e' := 53) (size := 3) (f := partE) (l := [((0 : Int), (0 : Int), (1000 : Int))]) (at_zro w noB) rfl (fun _ _ => rfl) (by decide) (by kernel_rfl) fun g w2 _ hA2 _ hb2 ho => ⟨_, _, _, rfl, ?_⟩
  refine at_callW hA2 (c17 ev0 eI w2 (hT.call hb2) (ho.sl fun _ _ => rfl)) fun w7 hA7 _ hb7 => ⟨_, rfl, ?_⟩
  refine brS (fun _ => ?_) fun hne => absurd ev0_str hne
  have hE : Evs w7 [] none 0 0 := ⟨⟨rfl, Nat.le_refl _, Nat.zero_le _, fun _ => rfl, fun i x hx => by simp at hx⟩, fun r hr => by cases hr⟩
  refine at_callW hA7 (cc6 (code := 10) ⟨by decide, by decide⟩ w7 (hT.low (low_of hA7)) hE (by simp)) fun w10 hA10 _ _ => ⟨_, rfl, ?_⟩
  refine brS (fun _ => ?_) fun hne => absurd rep0_str hne
  refine at_callW hA10 (c7e w10 (hT.low (low_of hA10))) fun w13 hA13 _ _ => ⟨_, rfl, leafW h hA13 ?_⟩
  rw [toList_beq]
  exact congrArg Value.bool (decide_eq_true book0_str)
end Go.Vc.ZQ

/- Tell: few; law 3. -/
set_option maxRecDepth 20000
set_option maxHeartbeats 2000000
set_option linter.unusedVariables false
namespace Go.Vc.ZQ
open Go Go.Vc Go.Vc.V Go.RowKit Go.Proofs Vcqz

variable {w W W' W1 : World} {gs ds : List Nat} {n : Int} {a ra : Option Addr} {ln lc rc : Nat} {rows : List ER} {code : Int}

abbrev RP := Int × (Option Addr × Nat × Nat)
abbrev rpE (r : RP) : List Value := [.int .i64 r.1, .slice r.2.1 r.2.2.1 r.2.2.2]
end Go.Vc.ZQ

/- Tell: a framework's line. -/
set_option maxRecDepth 20000
set_option maxHeartbeats 2000000
set_option linter.unusedVariables false
namespace Go.Vc.ZQ
open Go Go.Vc Go.Vc.V Go.RowKit Go.Proofs Vcqz

variable {w W W' W1 : World} {gs ds : List Nat} {n : Int} {a : Option Addr} {ln lc c : Nat}
structure Fr where
  id : Int
  role : Int
  weight : Int
  up : Bool
  quiet : Bool
  time : Int
  til : Int
structure FrI (f : Fr) : Prop where
  id : I64 f.id
  role : I64 f.role
  weight : I64 f.weight
  til : I64 f.til
def frB (f : Fr) : List ByteArray := [bs [102, 114, 97, 109, 101], numB f.id, bs [114, 111, 108, 101], numB f.role, bs [119, 101, 105, 103, 104, 116], numB f.weight]
def frL (f : Fr) : List ByteArray := frB f ++ (if f.up = true then [bs [117, 112]] else [bs [97, 119, 97, 121], numB f.til]) ++ (if f.quiet = true then [bs [113, 117, 105, 101, 116]] else [])
abbrev frV (f : Fr) : List Value := [.int .i64 f.id, .int .i64 f.role, .int .i64 f.weight, .bool f.up, .bool f.quiet, .int .i64 f.time, .int .i64 f.til]
theorem c24 (f : Fr) (hI : FrI f) (w : World) (hT : TabQ w) {K : Ending → World → Prop} (h : ∀ a c W', Bel w W' → OwnL w [] W' 9 1 strE (.slice a (frL f).length c) (frL f) → K (.returned (.slice a (frL f).length c)) W') : Calls Tryz.prog 24 #[.agg #[.int .i64 f.id, .int .i64 f.role, .int .i64 f.weight, .bool f.up, .bool f.quiet, .int .i64 f.time, .int .i64 f.til]] w K := by
  refine f24_calls _ _ _ _ _ _ _ w K ?_
  unfold f24_vc
  have fin : ∀ {n1 : Nat} {W : World} {L : List ByteArray} {a : Option Addr} {c : Nat}, AtF w noB [n1] W → OwnF w noB [n1] W 9 1 strE (.slice a L.length c) L → L = frL f → K (.returned (.slice a L.length c)) W := fun hA ho e => by
    subst e
    exact h _ _ _ hA.below ⟨ho.row0, ho.mine, fun g hg => by cases hg⟩
  refine fun n1 hn1 => go_below_too (At.refl w) fun w2 hA2 hb2 => ?_
  refine at_callb hA2 (c23 _ hI.id w2 (hT.call hA2.below)) fun w4 hA4 hk4 hb4 => ⟨_, rfl, hk4, ?_⟩
  refine at_callb hA4 (c23 _ hI.role w4 (hT.call hA4.below)) fun w7 hA7 hk7 hb7 => ⟨_, rfl, hk7, ?_⟩
  refine at_callb hA7 (c23 _ hI.weight w7 (hT.call hA7.below)) fun w10 hA10 hk10 hb10 => ⟨_, rfl, hk10, ?_⟩
  refine opw_litL (e' := 9) (size := 1) (f := strE) (l := frB f) hA10 rfl (fun _ _ => rfl) (by decide) (by kernel_rfl) fun g w13 _ hA13 hk13 hb13 ho => ⟨_, _, _, rfl, hk13, ?_⟩
  refine brB (fun hu => ?_) fun hu => ?_
  · refine opw_litL (e' := 9) (size := 1) (f := strE) (l := [bs [117, 112]]) hA13 rfl (fun _ _ => rfl) (by decide) (by kernel_rfl) fun g2 w18 _ hA18 hk18 hb18 ho18 => ⟨_, _, _, rfl, hk18, ?_⟩
    have ho' := ho.keep fun k hk => hb18.below.block k (ho.lt k hk)
    refine opw_appendS (bytes := 16) (by kernel_rfl) hA18 ho' (ho18.sl fun _ _ => rfl) (fun _ _ => rfl) (fun x _ u hu => str_one x u hu) (by simp [frB, maxLen]) (by simp [frB]) fun v23 w23 hA23 hk23 _ ho23 => ?_
    obtain ⟨a23, c21, rfl, _⟩ := ho23.slice fun _ _ => rfl
    refine ⟨_, _, _, rfl, hk23, ?_⟩
    refine brB (fun hq => ?_) fun hq => ?_
    · refine opw_litL (e' := 9) (size := 1) (f := strE) (l := [bs [113, 117, 105, 101, 116]]) hA23 rfl (fun _ _ => rfl) (by decide) (by kernel_rfl) fun g3 wq _ hAq hkq hbq hoq => ⟨_, _, _, rfl, hkq, ?_⟩
      have ho' := ho23.keep fun k hk => hbq.below.block k (ho23.lt k hk)
      refine opw_appendS (bytes := 16) (by kernel_rfl) hAq ho' (hoq.sl fun _ _ => rfl) (fun _ _ => rfl) (fun x _ u hu => str_one x u hu) (by simp [frB, maxLen]) (by simp [frB]) fun vz wz hAz hkz _ hoz => ?_
      obtain ⟨az, cz, rfl, _⟩ := hoz.slice fun _ _ => rfl
      exact ⟨_, _, _, rfl, hkz, fin hAz hoz (by unfold frL; simp only [hu, hq]; rfl)⟩
    · exact fin hA23 ho23 (by unfold frL; simp only [hu, hq]; rfl)
  · refine at_callb hA13 (c23 _ hI.til w13 (hT.call hA13.below)) fun w38 hA38 hk38 hb38 => ⟨_, rfl, hk38, ?_⟩
    have ho38 := ho.keep fun k hk => hb38.below.block k (ho.lt k hk)
    refine opw_litL (e' := 9) (size := 1) (f := strE) (l := [bs [97, 119, 97, 121], numB f.til]) hA38 rfl (fun _ _ => rfl) (by decide) (by kernel_rfl) fun g2 w41 _ hA41 hk41 hb41 ho41 => ⟨_, _, _, rfl, hk41, ?_⟩
    have ho' := ho38.keep fun k hk => hb41.below.block k (ho38.lt k hk)
    refine opw_appendS (bytes := 16) (by kernel_rfl) hA41 ho' (ho41.sl fun _ _ => rfl) (fun _ _ => rfl) (fun x _ u hu => str_one x u hu) (by simp [frB, maxLen]) (by simp [frB]) fun v46 w46 hA46 hk46 _ ho46 => ?_
    obtain ⟨a46, c79, rfl, _⟩ := ho46.slice fun _ _ => rfl
    refine ⟨_, _, _, rfl, hk46, ?_⟩
    refine brB (fun hq => ?_) fun hq => ?_
    · refine opw_litL (e' := 9) (size := 1) (f := strE) (l := [bs [113, 117, 105, 101, 116]]) hA46 rfl (fun _ _ => rfl) (by decide) (by kernel_rfl) fun g3 wq _ hAq hkq hbq hoq => ⟨_, _, _, rfl, hkq, ?_⟩
      have ho' := ho46.keep fun k hk => hbq.below.block k (ho46.lt k hk)
      refine opw_appendS (bytes := 16) (by kernel_rfl) hAq ho' (hoq.sl fun _ _ => rfl) (fun _ _ => rfl) (fun x _ u hu => str_one x u hu) (by simp [frB, maxLen]) (by simp [frB]) fun vz wz hAz hkz _ hoz => ?_
      obtain ⟨az, cz, rfl, _⟩ := hoz.slice fun _ _ => rfl
      exact ⟨_, _, _, rfl, hkz, fin hAz hoz (by unfold frL; simp only [hu, hq]; rfl)⟩
    · exact fin hA46 ho46 (by unfold frL; simp only [hu, hq]; rfl)
end Go.Vc.ZQ

/- Tell: the document's line of a framework. -/
set_option maxRecDepth 20000
set_option maxHeartbeats 2000000
set_option linter.unusedVariables false
namespace Go.Vc.ZQ
open Go Go.Vc Go.Vc.V Go.RowKit Go.Proofs Vcqz

variable {w W W' W1 : World} {gs ds : List Nat} {n : Int} {a : Option Addr} {ln lc c : Nat} {L : List ByteArray}
theorem szm (a : Array UInt8) : (ByteArray.mk a).size = a.size := rfl
theorem jn_first (x : List UInt8) (y : ByteArray) : bs (x ++ [32]) ++ y = jnB [bs x, y] := by
  have := jnB_snoc (L := [bs x]) (by simp) y
  rw [jnB_one, bs_append] at this
  exact this.symm
theorem jn_two' (h : L ≠ []) (x : List UInt8) (y : ByteArray) : jnB L ++ bs ([32] ++ x ++ [32]) ++ y = jnB (L ++ [bs x, y]) := by
  have := jn_two h x y.data.toList
  rwa [bs_data] at this
theorem jn_word (h : L ≠ []) (x : List UInt8) : jnB L ++ bs ([32] ++ x) = jnB (L ++ [bs x]) := by
  rw [jnB_snoc h, ← bs_append, ByteArray.append_assoc]
theorem fr_j (f : Fr) : ByteArray.mk #[102, 114, 97, 109, 101, 32] ++ numB f.id ++ ByteArray.mk #[32, 114, 111, 108, 101, 32] ++ numB f.role ++ ByteArray.mk #[32, 119, 101, 105, 103, 104, 116, 32] ++ numB f.weight = jnB (frB f) := by
  have k1 := jn_first [102, 114, 97, 109, 101] (numB f.id)
  have k2 := jn_two' (L := [bs [102, 114, 97, 109, 101], numB f.id]) (by simp) [114, 111, 108, 101] (numB f.role)
  have k3 := jn_two' (L := [bs [102, 114, 97, 109, 101], numB f.id] ++ [bs [114, 111, 108, 101], numB f.role]) (by simp) [119, 101, 105, 103, 104, 116] (numB f.weight)
  rw [show ByteArray.mk #[102, 114, 97, 109, 101, 32] = bs ([102, 114, 97, 109, 101] ++ [32]) from rfl, show ByteArray.mk #[32, 114, 111, 108, 101, 32] = bs ([32] ++ [114, 111, 108, 101] ++ [32]) from rfl, show ByteArray.mk #[32, 119, 101, 105, 103, 104, 116, 32] = bs ([32] ++ [119, 101, 105, 103, 104, 116] ++ [32]) from rfl, k1, k2, k3]
  rfl
theorem fr_up (f : Fr) : jnB (frB f) ++ ByteArray.mk #[32, 117, 112] = jnB (frB f ++ [bs [117, 112]]) := jn_word (by unfold frB; simp) [117, 112]
theorem fr_away (f : Fr) : jnB (frB f) ++ ByteArray.mk #[32, 97, 119, 97, 121, 32] ++ numB f.til = jnB (frB f ++ [bs [97, 119, 97, 121], numB f.til]) := jn_two' (by unfold frB; simp) [97, 119, 97, 121] (numB f.til)
theorem fr_quiet (h : L ≠ []) : jnB L ++ ByteArray.mk #[32, 113, 117, 105, 101, 116] = jnB (L ++ [bs [113, 117, 105, 101, 116]]) := jn_word h [113, 117, 105, 101, 116]
end Go.Vc.ZQ

/- Tell: a book in memory; Few. -/
set_option maxRecDepth 20000
set_option maxHeartbeats 2000000
set_option linter.unusedVariables false
namespace Go.Vc.ZQ
open Go Go.Vc Go.Vc.V Go.RowKit Go.Proofs Vcqz

variable {w W W' W1 : World} {gs ds : List Nat} {n : Int} {a : Option Addr} {ln lc c : Nat} {L : List ByteArray}
/-- A vector and its slice. -/
abbrev Vs := List PartT × (Option Addr × Nat × Nat)
abbrev vsV (v : Vs) : Value := .slice v.2.1 v.2.2.1 v.2.2.2
def VsR (W : World) (v : Vs) : Prop := SlE W 3 partE v.1 v.2.1 v.2.2.1 v.2.2.2
theorem VsR.low {v : Vs} (h : VsR W v) (hb : Below W.heap.size W W') : VsR W' v := SlR.mono h (cell_below hb) fun _ _ h => h
structure Ag where
  id : Int
  tot : Vs
  fre : Vs
structure Of where
  id : Int
  fr : Int
  ag : Int
  v : Vs
  til : Int
structure Tk where
  fr : Int
  id : Int
  ag : Int
  v : Vs
structure Fi where
  fr : Int
  ag : Int
  til : Int
  v : Vs
abbrev agV (x : Ag) : List Value := [.int .i64 x.id, .slice x.tot.2.1 x.tot.2.2.1 x.tot.2.2.2, .slice x.fre.2.1 x.fre.2.2.1 x.fre.2.2.2]
abbrev ofV (x : Of) : List Value := [.int .i64 x.id, .int .i64 x.fr, .int .i64 x.ag, .slice x.v.2.1 x.v.2.2.1 x.v.2.2.2, .int .i64 x.til]
abbrev tkV (x : Tk) : List Value := [.int .i64 x.fr, .int .i64 x.id, .int .i64 x.ag, .slice x.v.2.1 x.v.2.2.1 x.v.2.2.2]
abbrev fiV (x : Fi) : List Value := [.int .i64 x.fr, .int .i64 x.ag, .int .i64 x.til, .slice x.v.2.1 x.v.2.2.1 x.v.2.2.2]
/-- A row of rows: each of them right. -/
structure Rw {α : Type} (n : Nat) (f : α → List Value) (ok : World → α → Prop) (W : World) (l : List α) (a : Option Addr) (ln lc : Nat) : Prop where
  sl : SlE W n f l a ln lc
  ok : ∀ x ∈ l, ok W x
  few : l.length ≤ 2000000
theorem Rw.low {α : Type} {n : Nat} {f : α → List Value} {ok : World → α → Prop} {l : List α} (h : Rw n f ok W l a ln lc) (hk : ∀ {W W' : World} {x : α}, ok W x → Below W.heap.size W W' → ok W' x) (hb : Below W.heap.size W W') : Rw n f ok W' l a ln lc := ⟨h.sl.mono (cell_below hb) fun _ _ h => h, fun x hx => hk (h.ok x hx) hb, h.few⟩
def frOk (_ : World) (f : Fr) : Prop := FrI f
def agOk (W : World) (x : Ag) : Prop := I64 x.id ∧ VsR W x.tot ∧ VsR W x.fre
def ofOk (W : World) (x : Of) : Prop := (I64 x.id ∧ I64 x.fr ∧ I64 x.ag ∧ I64 x.til) ∧ VsR W x.v
def tkOk (W : World) (x : Tk) : Prop := (I64 x.fr ∧ I64 x.id ∧ I64 x.ag) ∧ VsR W x.v
def fiOk (W : World) (x : Fi) : Prop := (I64 x.fr ∧ I64 x.ag ∧ I64 x.til) ∧ VsR W x.v
theorem frOk.low {x : Fr} (h : frOk W x) (_ : Below W.heap.size W W') : frOk W' x := h
theorem agOk.low {x : Ag} (h : agOk W x) (hb : Below W.heap.size W W') : agOk W' x := ⟨h.1, h.2.1.low hb, h.2.2.low hb⟩
theorem ofOk.low {x : Of} (h : ofOk W x) (hb : Below W.heap.size W W') : ofOk W' x := ⟨h.1, h.2.low hb⟩
theorem tkOk.low {x : Tk} (h : tkOk W x) (hb : Below W.heap.size W W') : tkOk W' x := ⟨h.1, h.2.low hb⟩
theorem fiOk.low {x : Fi} (h : fiOk W x) (hb : Below W.heap.size W W') : fiOk W' x := ⟨h.1, h.2.low hb⟩
abbrev Sl := Option Addr × Nat × Nat
structure Bk where
  now : Int
  last : Int
  fs : List Fr
  ags : List Ag
  os : List Of
  ts : List Tk
  fis : List Fi
/-- A book in memory. -/
structure BkR (W : World) (b : Bk) (s1 s2 s3 s4 s5 : Sl) : Prop where
  now : I64 b.now
  last : I64 b.last
  fs : Rw 7 frV frOk W b.fs s1.1 s1.2.1 s1.2.2
  ags : Rw 3 agV agOk W b.ags s2.1 s2.2.1 s2.2.2
  os : Rw 5 ofV ofOk W b.os s3.1 s3.2.1 s3.2.2
  ts : Rw 4 tkV tkOk W b.ts s4.1 s4.2.1 s4.2.2
  fis : Rw 4 fiV fiOk W b.fis s5.1 s5.2.1 s5.2.2
theorem BkR.low {b : Bk} {s1 s2 s3 s4 s5 : Sl} (h : BkR W b s1 s2 s3 s4 s5) (hb : Below W.heap.size W W') : BkR W' b s1 s2 s3 s4 s5 :=
  ⟨h.now, h.last, h.fs.low frOk.low hb, h.ags.low agOk.low hb, h.os.low ofOk.low hb, h.ts.low tkOk.low hb, h.fis.low fiOk.low hb⟩
theorem c5 {b : Bk} {s1 s2 s3 s4 s5 : Sl} {b0 b1 b2 b3 b4 b5 b6 b7 b8 : Int} (hB : BkR w b s1 s2 s3 s4 s5) : RetQ Tryz.prog 5 #[.agg #[.int .i64 b0, .int .i64 b1, .int .i64 b2, .int .i64 b3, .int .i64 b4, .int .i64 b5, .int .i64 b6, .int .i64 b7, .int .i64 b8, .int .i64 b.now, .int .i64 b.last, .slice s1.1 s1.2.1 s1.2.2, .slice s2.1 s2.2.1 s2.2.2, .slice s3.1 s3.2.1 s3.2.2, .slice s4.1 s4.2.1 s4.2.2, .slice s5.1 s5.2.1 s5.2.2]] w fun v _ => ∃ b, v = .bool b := by
  intro R h
  refine f5_calls _ _ _ _ _ _ _ _ _ _ _ _ _ _ _ _ _ _ _ _ _ _ _ _ _ _ w R ?_
  unfold f5_vc
  have l2 := hB.ags.sl.1
  have l3 := hB.os.sl.1
  have l4 := hB.ts.sl.1
  have l5 := hB.fis.sl.1
  have m2 := hB.ags.few
  have m3 := hB.os.few
  have m4 := hB.ts.few
  have m5 := hB.fis.few
  refine fun n1 hn1 => ⟨fun s W => At w [n1] W ∧ ∃ i : Nat, s.2.1 = i ∧ i ≤ s2.2.1, fun s _ => s2.2.1 - s.2.1.toNat, go_below (At.refl w) fun w4 hA => ⟨hA, 0, rfl, Nat.zero_le _⟩, ?_⟩
  rintro x5 x6 w7 ⟨hA, i, hi, hil⟩
  simp only at hi
  subst hi
  refine brD (fun hlt => ?_) fun hge => ?_
  · obtain ⟨r, hr⟩ : ∃ r, b.ags[i]? = some r := ⟨_, List.getElem?_eq_getElem (by omega)⟩
    have hw : IntKind.i64.wrap ((i : Int) + 1) = ((i + 1 : Nat) : Int) := by rw [wrap_i64 (by omega) (by omega)]; omega
    have hs := (hB.ags.low agOk.low hA.below.below).sl
    obtain ⟨ad, g1, el, _⟩ := elt_at (P := Tryz.prog) (k := .i64) (t := 26) hs hr (e := 45) (by kernel_rfl) (by kernel_rfl)
    rw [hw]
    exact ⟨ad, g1, _, _, _, (el.sub (o := 1) (by decide)).one (by kernel_rfl) no_ds, ad, g1, _, _, _, (el.sub (o := 2) (by decide)).one (by kernel_rfl) no_ds, go_below hA fun w16 hA => ⟨⟨hA, i + 1, rfl, by omega⟩, by simp only; omega⟩⟩
  refine ⟨fun s W => At w [n1] W ∧ ∃ i : Nat, s.2.1 = i ∧ i ≤ s3.2.1, fun s _ => s3.2.1 - s.2.1.toNat, ⟨hA, 0, rfl, Nat.zero_le _⟩, ?_⟩
  rintro x19 x20 w21 ⟨hA, i3, hi, hil3⟩
  simp only at hi
  subst hi
  refine brD (fun hlt => ?_) fun hge => ?_
  · obtain ⟨r, hr⟩ : ∃ r, b.os[i3]? = some r := ⟨_, List.getElem?_eq_getElem (by omega)⟩
    have hw : IntKind.i64.wrap ((i3 : Int) + 1) = ((i3 + 1 : Nat) : Int) := by rw [wrap_i64 (by omega) (by omega)]; omega
    have hs := (hB.os.low ofOk.low hA.below.below).sl
    obtain ⟨ad, g1, el, _⟩ := elt_at (P := Tryz.prog) (k := .i64) (t := 27) hs hr (e := 47) (by kernel_rfl) (by kernel_rfl)
    rw [hw]
    exact ⟨ad, g1, _, _, _, (el.sub (o := 3) (by decide)).one (by kernel_rfl) no_ds, ⟨hA, i3 + 1, rfl, by omega⟩, by simp only; omega⟩
  refine ⟨fun s W => At w [n1] W ∧ ∃ i : Nat, s.2.1 = i ∧ i ≤ s4.2.1, fun s _ => s4.2.1 - s.2.1.toNat, ⟨hA, 0, rfl, Nat.zero_le _⟩, ?_⟩
  rintro x28 x29 w30 ⟨hA, i4, hi, hil4⟩
  simp only at hi
  subst hi
  refine brD (fun hlt => ?_) fun hge => ?_
  · obtain ⟨r, hr⟩ : ∃ r, b.ts[i4]? = some r := ⟨_, List.getElem?_eq_getElem (by omega)⟩
    have hw : IntKind.i64.wrap ((i4 : Int) + 1) = ((i4 + 1 : Nat) : Int) := by rw [wrap_i64 (by omega) (by omega)]; omega
    have hs := (hB.ts.low tkOk.low hA.below.below).sl
    obtain ⟨ad, g1, el, _⟩ := elt_at (P := Tryz.prog) (k := .i64) (t := 28) hs hr (e := 49) (by kernel_rfl) (by kernel_rfl)
    rw [hw]
    exact ⟨ad, g1, _, _, _, (el.sub (o := 3) (by decide)).one (by kernel_rfl) no_ds, ⟨hA, i4 + 1, rfl, by omega⟩, by simp only; omega⟩
  refine ⟨fun s W => At w [n1] W ∧ ∃ i : Nat, s.2.1 = i ∧ i ≤ s5.2.1, fun s _ => s5.2.1 - s.2.1.toNat, ⟨hA, 0, rfl, Nat.zero_le _⟩, ?_⟩
  rintro x37 x38 w39 ⟨hA, i5, hi, hil5⟩
  simp only at hi
  subst hi
  refine brD (fun hlt => ?_) fun hge => leafq h hA ⟨_, rfl⟩
  obtain ⟨r, hr⟩ : ∃ r, b.fis[i5]? = some r := ⟨_, List.getElem?_eq_getElem (by omega)⟩
  have hw : IntKind.i64.wrap ((i5 : Int) + 1) = ((i5 + 1 : Nat) : Int) := by rw [wrap_i64 (by omega) (by omega)]; omega
  have hs := (hB.fis.low fiOk.low hA.below.below).sl
  obtain ⟨ad, g1, el, _⟩ := elt_at (P := Tryz.prog) (k := .i64) (t := 29) hs hr (e := 51) (by kernel_rfl) (by kernel_rfl)
  rw [hw]
  exact ⟨ad, g1, _, _, _, (el.sub (o := 3) (by decide)).one (by kernel_rfl) no_ds, ⟨hA, i5 + 1, rfl, by omega⟩, by simp only; omega⟩
end Go.Vc.ZQ

/- The formulas of functions, printed by a program (VcTool.lean): each is what the generator's formula comes to, by the kernel's reckoning; whoever proves one has the function's contract. -/
set_option maxRecDepth 100000
set_option maxHeartbeats 1000000
set_option linter.unusedVariables false
namespace Vcqz
open Go Go.Vc Go.RowKit
/-! manciple/manciplelaw34.TellApart -/
def h3 : Hints := ⟨[2, 3, 9, 11], [54, 64], [37, 48, 60, 24, 28, 33, 83], [(15, [0, 2, 5, 6, 1, 3, 4, 7, 8, 9, 10, 11, 12])], [], [(9, ⟨[(10, .int .i64)], [(9, .cons (.int .i64) (.cons (.int .i64) (.cons (.int .i64) (.cons (.int .i64) (.cons (.int .i64) (.cons (.int .i64) (.cons (.int .i64) (.cons (.int .i64) (.cons (.int .i64) (.cons (.int .i64) (.cons (.int .i64) (.cons (.sl) (.cons (.sl) (.cons (.sl) (.cons (.sl) (.cons (.sl) (.nil)))))))))))))))))]⟩)], [], [], []⟩
def f3_vc (a_0 : Int) (a_1 : Int) (a_2 : Int) (a_3 : Int) (a_4 : Int) (a_5 : Int) (a_6 : Int) (a_7 : Int) (a_8 : Int) (a_9 : Int) (a_10 : Int) (a_11a : Option Addr) (a_11n : Nat) (a_11c : Nat) (a_12a : Option Addr) (a_12n : Nat) (a_12c : Nat) (a_13a : Option Addr) (a_13n : Nat) (a_13c : Nat) (a_14a : Option Addr) (a_14n : Nat) (a_14c : Nat) (a_15a : Option Addr) (a_15n : Nat) (a_15c : Nat) (b_0 : Int) (b_1 : Int) (b_2 : Int) (b_3 : Int) (b_4 : Int) (b_5 : Int) (b_6 : Int) (b_7 : Int) (b_8 : Int) (b_9 : Int) (b_10 : Int) (b_11a : Option Addr) (b_11n : Nat) (b_11c : Nat) (b_12a : Option Addr) (b_12n : Nat) (b_12c : Nat) (b_13a : Option Addr) (b_13n : Nat) (b_13c : Nat) (b_14a : Option Addr) (b_14n : Nat) (b_14c : Nat) (b_15a : Option Addr) (b_15n : Nat) (b_15c : Nat) (w : World) (R : Ending → World → Prop) : Prop :=
 ∀ (n1 : Nat),
 w.heap.size ≤ n1 →
 ∀ (n2 : Nat),
 w.heap.size ≤ n2 →
 ∀ (w3 : World),
 Bel w w3 →
 Under [n1, n2] w3 →
 Calls Proofs.Tryz.prog 4
 #[Value.agg
 #[Value.int IntKind.i64 a_0, Value.int IntKind.i64 a_1, Value.int IntKind.i64 a_2, Value.int IntKind.i64 a_3, Value.int IntKind.i64 a_4, Value.int IntKind.i64 a_5, Value.int IntKind.i64 a_6, Value.int IntKind.i64 a_7,
 Value.int IntKind.i64 a_8, Value.int IntKind.i64 a_9, Value.int IntKind.i64 a_10, Value.slice a_11a a_11n a_11c, Value.slice a_12a a_12n a_12c, Value.slice a_13a a_13n a_13c, Value.slice a_14a a_14n a_14c,
 Value.slice a_15a a_15n a_15c]]
 w3 fun (e4 : Ending) (w5 : World) =>
 ∃ (x6 : Int),
 ∃ (b7 : Bool),
 e4 = Ending.returned (Value.tuple #[Value.int IntKind.i64 x6, Value.bool b7]) ∧
 Keeps [n1, n2] w3 w5 ∧
 Calls Proofs.Tryz.prog 4
 #[Value.agg
 #[Value.int IntKind.i64 b_0, Value.int IntKind.i64 b_1, Value.int IntKind.i64 b_2, Value.int IntKind.i64 b_3, Value.int IntKind.i64 b_4, Value.int IntKind.i64 b_5, Value.int IntKind.i64 b_6,
 Value.int IntKind.i64 b_7, Value.int IntKind.i64 b_8, Value.int IntKind.i64 b_9, Value.int IntKind.i64 b_10, Value.slice b_11a b_11n b_11c, Value.slice b_12a b_12n b_12c, Value.slice b_13a b_13n b_13c,
 Value.slice b_14a b_14n b_14c, Value.slice b_15a b_15n b_15c]]
 w5 fun (e8 : Ending) (w9 : World) =>
 ∃ (x10 : Int),
 ∃ (b11 : Bool),
 e8 = Ending.returned (Value.tuple #[Value.int IntKind.i64 x10, Value.bool b11]) ∧
 Keeps [n1, n2] w5 w9 ∧
 ((!b7) = true →
 Calls Proofs.Tryz.prog 6 #[] w9 fun (e12 : Ending) (w13 : World) => ∃ (b14 : Bool), e12 = Ending.returned (Value.bool b14) ∧ Keeps [n1, n2] w9 w13 ∧ R (Ending.returned (Value.bool b14)) w13) ∧
 ((!b7) = false →
 ((!b11) = true →
 Calls Proofs.Tryz.prog 6 #[] w9 fun (e15 : Ending) (w16 : World) => ∃ (b17 : Bool), e15 = Ending.returned (Value.bool b17) ∧ Keeps [n1, n2] w9 w16 ∧ R (Ending.returned (Value.bool b17)) w16) ∧
 ((!b11) = false →
 Calls Proofs.Tryz.prog 5
 #[Value.agg
 #[Value.int IntKind.i64 a_0, Value.int IntKind.i64 a_1, Value.int IntKind.i64 a_2, Value.int IntKind.i64 a_3, Value.int IntKind.i64 a_4, Value.int IntKind.i64 a_5, Value.int IntKind.i64 a_6,
 Value.int IntKind.i64 a_7, Value.int IntKind.i64 a_8, Value.int IntKind.i64 a_9, Value.int IntKind.i64 a_10, Value.slice a_11a a_11n a_11c, Value.slice a_12a a_12n a_12c,
 Value.slice a_13a a_13n a_13c, Value.slice a_14a a_14n a_14c, Value.slice a_15a a_15n a_15c]]
 w9 fun (e18 : Ending) (w19 : World) =>
 ∃ (b20 : Bool),
 e18 = Ending.returned (Value.bool b20) ∧
 Keeps [n1, n2] w9 w19 ∧
 ((!b20) = true →
 Calls Proofs.Tryz.prog 6 #[] w19 fun (e21 : Ending) (w22 : World) =>
 ∃ (b23 : Bool), e21 = Ending.returned (Value.bool b23) ∧ Keeps [n1, n2] w19 w22 ∧ R (Ending.returned (Value.bool b23)) w22) ∧
 ((!b20) = false →
 Calls Proofs.Tryz.prog 5
 #[Value.agg
 #[Value.int IntKind.i64 b_0, Value.int IntKind.i64 b_1, Value.int IntKind.i64 b_2, Value.int IntKind.i64 b_3, Value.int IntKind.i64 b_4, Value.int IntKind.i64 b_5,
 Value.int IntKind.i64 b_6, Value.int IntKind.i64 b_7, Value.int IntKind.i64 b_8, Value.int IntKind.i64 b_9, Value.int IntKind.i64 b_10, Value.slice b_11a b_11n b_11c,
 Value.slice b_12a b_12n b_12c, Value.slice b_13a b_13n b_13c, Value.slice b_14a b_14n b_14c, Value.slice b_15a b_15n b_15c]]
 w19 fun (e24 : Ending) (w25 : World) =>
 ∃ (b26 : Bool),
 e24 = Ending.returned (Value.bool b26) ∧
 Keeps [n1, n2] w19 w25 ∧
 ((!b26) = true →
 Calls Proofs.Tryz.prog 6 #[] w25 fun (e27 : Ending) (w28 : World) =>
 ∃ (b29 : Bool), e27 = Ending.returned (Value.bool b29) ∧ Keeps [n1, n2] w25 w28 ∧ R (Ending.returned (Value.bool b29)) w28) ∧
 ((!b26) = false →
 ∀ (n30 : Nat),
 w25.heap.size ≤ n30 →
 ∃ (J31 :
 Int ×
 Int ×
 Int ×
 Int ×
 Int ×
 Int ×
 Int ×
 Int ×
 Int ×
 Int ×
 Int ×
 Int ×
 (Option Addr × Nat × Nat) ×
 (Option Addr × Nat × Nat) × (Option Addr × Nat × Nat) × (Option Addr × Nat × Nat) × (Option Addr × Nat × Nat) × Unit →
 World → Prop),
 ∃ (J32 :
 Int ×
 Int ×
 Int ×
 Int ×
 Int ×
 Int ×
 Int ×
 Int ×
 Int ×
 Int ×
 Int ×
 Int ×
 (Option Addr × Nat × Nat) ×
 (Option Addr × Nat × Nat) × (Option Addr × Nat × Nat) × (Option Addr × Nat × Nat) × (Option Addr × Nat × Nat) × Unit →
 World → Nat),
 (∀ (w33 : World),
 Evo [n30, n30, n30] w25 w33 →
 Under [n1, n2, n30] w33 →
 J31
 (0, a_0, a_1, a_2, a_3, a_4, a_5, a_6, a_7, a_8, b_9, b_10, (none, 0, 0), (b_12a, b_12n, b_12c), (b_13a, b_13n, b_13c), (b_14a, b_14n, b_14c),
 (b_15a, b_15n, b_15c), ())
 w33) ∧
 ∀ (x34 x35 x36 x37 x38 x39 x40 x41 x42 x43 x44 x45 : Int) (a46 : Option Addr) (n47 n48 : Nat) (a49 : Option Addr) (n50 n51 : Nat) (a52 : Option Addr)
 (n53 n54 : Nat) (a55 : Option Addr) (n56 n57 : Nat) (a58 : Option Addr) (n59 n60 : Nat) (w61 : World),
 J31 (x34, x35, x36, x37, x38, x39, x40, x41, x42, x43, x44, x45, (a46, n47, n48), (a49, n50, n51), (a52, n53, n54), (a55, n56, n57), (a58, n59, n60), ()) w61 →
 (decide (x34 < (↑b_11n : Int)) = true →
 ∃ (ad62 : Addr),
 Gives Proofs.Tryz.prog (Instr.indexAt 25 (Value.slice b_11a b_11n b_11c) (Value.int IntKind.i64 x34)) (Value.pointer (some ad62)) ∧
 ∃ (x63 : Int),
 ∃ (x64 : Int),
 ∃ (x65 : Int),
 ∃ (b66 : Bool),
 ∃ (b67 : Bool),
 ∃ (x68 : Int),
 ∃ (x69 : Int),
 Reads Proofs.Tryz.prog [] (Instr.loadAt 37 (Value.pointer (some ad62))) w61
 (Value.agg
 #[Value.int IntKind.i64 x63, Value.int IntKind.i64 x64, Value.int IntKind.i64 x65, Value.bool b66, Value.bool b67,
 Value.int IntKind.i64 x68, Value.int IntKind.i64 x69]) ∧
 ∀ (n70 : Nat),
 w61.heap.size ≤ n70 →
 (decide (x34 < (↑a_11n : Int)) = true →
 ∃ (ad71 : Addr),
 Gives Proofs.Tryz.prog (Instr.indexAt 25 (Value.slice a_11a a_11n a_11c) (Value.int IntKind.i64 x34))
 (Value.pointer (some ad71)) ∧
 ∃ (x72 : Int),
 Reads Proofs.Tryz.prog [n70] (Instr.loadAt 2 (Value.pointer (some (Addr.mk ad71.block (ad71.off + 5) none)))) w61
 (Value.int IntKind.i64 x72) ∧
 ∀ (w73 : World),
 Evo [n70, n70] w61 w73 →
 Under [n1, n2, n30, n70] w73 →
 OpW Proofs.Tryz.prog
 (valueS
 (Instr.buildSlice 25 1
 #[(0,
 Value.agg
 #[Value.int IntKind.i64 x63, Value.int IntKind.i64 x64, Value.int IntKind.i64 x65, Value.bool b66,
 Value.bool b67, Value.int IntKind.i64 x72, Value.int IntKind.i64 x69])]))
 w73 fun (v74 : Value) (w75 : World) =>
 ∃ (a76 : Option Addr),
 ∃ (n77 : Nat),
 ∃ (n78 : Nat),
 v74 = Value.slice a76 n77 n78 ∧
 Keeps [n1, n2, n30, n70] w73 w75 ∧
 OpW Proofs.Tryz.prog
 (builtin Builtin.append #[25, 25] 25 #[false, false]
 #[Value.slice a46 n47 n48, Value.slice a76 n77 n78])
 w75 fun (v79 : Value) (w80 : World) =>
 ∃ (a81 : Option Addr),
 ∃ (n82 : Nat),
 ∃ (n83 : Nat),
 v79 = Value.slice a81 n82 n83 ∧
 Keeps [n1, n2, n30, n70] w75 w80 ∧
 ∀ (w84 : World),
 Evo [n30] w80 w84 →
 Under [n1, n2, n30, n70] w84 →
 J31
 (IntKind.i64.wrap (x34 + 1), x35, x36, x37, x38, x39, x40, x41, x42, x43, x44,
 x45, (a81, n82, n83), (a49, n50, n51), (a52, n53, n54), (a55, n56, n57),
 (a58, n59, n60), ())
 w84 ∧
 J32
 (IntKind.i64.wrap (x34 + 1), x35, x36, x37, x38, x39, x40, x41, x42, x43, x44,
 x45, (a81, n82, n83), (a49, n50, n51), (a52, n53, n54), (a55, n56, n57),
 (a58, n59, n60), ())
 w84 <
 J32
 (x34, x35, x36, x37, x38, x39, x40, x41, x42, x43, x44, x45, (a46, n47, n48),
 (a49, n50, n51), (a52, n53, n54), (a55, n56, n57), (a58, n59, n60), ())
 w61) ∧
 (decide (x34 < (↑a_11n : Int)) = false →
 ∀ (w85 : World),
 Evo [n70] w61 w85 →
 Under [n1, n2, n30, n70] w85 →
 OpW Proofs.Tryz.prog
 (valueS
 (Instr.buildSlice 25 1
 #[(0,
 Value.agg
 #[Value.int IntKind.i64 x63, Value.int IntKind.i64 x64, Value.int IntKind.i64 x65, Value.bool b66,
 Value.bool b67, Value.int IntKind.i64 x68, Value.int IntKind.i64 x69])]))
 w85 fun (v86 : Value) (w87 : World) =>
 ∃ (a88 : Option Addr),
 ∃ (n89 : Nat),
 ∃ (n90 : Nat),
 v86 = Value.slice a88 n89 n90 ∧
 Keeps [n1, n2, n30, n70] w85 w87 ∧
 OpW Proofs.Tryz.prog
 (builtin Builtin.append #[25, 25] 25 #[false, false] #[Value.slice a46 n47 n48, Value.slice a88 n89 n90])
 w87 fun (v91 : Value) (w92 : World) =>
 ∃ (a93 : Option Addr),
 ∃ (n94 : Nat),
 ∃ (n95 : Nat),
 v91 = Value.slice a93 n94 n95 ∧
 Keeps [n1, n2, n30, n70] w87 w92 ∧
 ∀ (w96 : World),
 Evo [n30] w92 w96 →
 Under [n1, n2, n30, n70] w96 →
 J31
 (IntKind.i64.wrap (x34 + 1), x35, x36, x37, x38, x39, x40, x41, x42, x43, x44, x45,
 (a93, n94, n95), (a49, n50, n51), (a52, n53, n54), (a55, n56, n57), (a58, n59, n60),
 ())
 w96 ∧
 J32
 (IntKind.i64.wrap (x34 + 1), x35, x36, x37, x38, x39, x40, x41, x42, x43, x44, x45,
 (a93, n94, n95), (a49, n50, n51), (a52, n53, n54), (a55, n56, n57), (a58, n59, n60),
 ())
 w96 <
 J32
 (x34, x35, x36, x37, x38, x39, x40, x41, x42, x43, x44, x45, (a46, n47, n48),
 (a49, n50, n51), (a52, n53, n54), (a55, n56, n57), (a58, n59, n60), ())
 w61)) ∧
 (decide (x34 < (↑b_11n : Int)) = false →
 ∀ (w97 : World),
 Bel w61 w97 →
 Under [n1, n2, n30] w97 →
 Calls Proofs.Tryz.prog 7
 #[Value.agg
 #[Value.int IntKind.i64 a_0, Value.int IntKind.i64 a_1, Value.int IntKind.i64 a_2, Value.int IntKind.i64 a_3, Value.int IntKind.i64 a_4,
 Value.int IntKind.i64 a_5, Value.int IntKind.i64 a_6, Value.int IntKind.i64 a_7, Value.int IntKind.i64 a_8, Value.int IntKind.i64 a_9,
 Value.int IntKind.i64 a_10, Value.slice a_11a a_11n a_11c, Value.slice a_12a a_12n a_12c, Value.slice a_13a a_13n a_13c,
 Value.slice a_14a a_14n a_14c, Value.slice a_15a a_15n a_15c]]
 w97 fun (e98 : Ending) (w99 : World) =>
 ∃ (s100 : ByteArray),
 e98 = Ending.returned (Value.string s100) ∧
 Keeps [n1, n2, n30] w97 w99 ∧
 Calls Proofs.Tryz.prog 7
 #[Value.agg
 #[Value.int IntKind.i64 b_0, Value.int IntKind.i64 b_1, Value.int IntKind.i64 b_2, Value.int IntKind.i64 b_3, Value.int IntKind.i64 b_4,
 Value.int IntKind.i64 b_5, Value.int IntKind.i64 b_6, Value.int IntKind.i64 b_7, Value.int IntKind.i64 b_8, Value.int IntKind.i64 b_9,
 Value.int IntKind.i64 b_10, Value.slice b_11a b_11n b_11c, Value.slice b_12a b_12n b_12c, Value.slice b_13a b_13n b_13c,
 Value.slice b_14a b_14n b_14c, Value.slice b_15a b_15n b_15c]]
 w99 fun (e101 : Ending) (w102 : World) =>
 ∃ (s103 : ByteArray),
 e101 = Ending.returned (Value.string s103) ∧
 Keeps [n1, n2, n30] w99 w102 ∧
 Calls Proofs.Tryz.prog 8
 #[Value.agg
 #[Value.int IntKind.i64 a_0, Value.int IntKind.i64 a_1, Value.int IntKind.i64 a_2, Value.int IntKind.i64 a_3,
 Value.int IntKind.i64 a_4, Value.int IntKind.i64 a_5, Value.int IntKind.i64 a_6, Value.int IntKind.i64 a_7,
 Value.int IntKind.i64 a_8, Value.int IntKind.i64 a_9, Value.int IntKind.i64 a_10, Value.slice a_11a a_11n a_11c,
 Value.slice a_12a a_12n a_12c, Value.slice a_13a a_13n a_13c, Value.slice a_14a a_14n a_14c, Value.slice a_15a a_15n a_15c],
 Value.agg
 #[Value.int IntKind.i64 x35, Value.int IntKind.i64 x36, Value.int IntKind.i64 x37, Value.int IntKind.i64 x38,
 Value.int IntKind.i64 x39, Value.int IntKind.i64 x40, Value.int IntKind.i64 x41, Value.int IntKind.i64 x42,
 Value.int IntKind.i64 x43, Value.int IntKind.i64 x44, Value.int IntKind.i64 x45, Value.slice a46 n47 n48,
 Value.slice a49 n50 n51, Value.slice a52 n53 n54, Value.slice a55 n56 n57, Value.slice a58 n59 n60]]
 w102 fun (e104 : Ending) (w105 : World) =>
 ∃ (b106 : Bool),
 e104 = Ending.returned (Value.bool b106) ∧
 Keeps [n1, n2, n30] w102 w105 ∧
 (((s100.toList == s103.toList) == b106) = true →
 Calls Proofs.Tryz.prog 6 #[] w105 fun (e107 : Ending) (w108 : World) =>
 ∃ (b109 : Bool),
 e107 = Ending.returned (Value.bool b109) ∧
 Keeps [n1, n2, n30] w105 w108 ∧ R (Ending.returned (Value.bool b109)) w108) ∧
 (((s100.toList == s103.toList) == b106) = false → R (Ending.returned (Value.bool false)) w105))))))
theorem f3_eq (a_0 : Int) (a_1 : Int) (a_2 : Int) (a_3 : Int) (a_4 : Int) (a_5 : Int) (a_6 : Int) (a_7 : Int) (a_8 : Int) (a_9 : Int) (a_10 : Int) (a_11a : Option Addr) (a_11n : Nat) (a_11c : Nat) (a_12a : Option Addr) (a_12n : Nat) (a_12c : Nat) (a_13a : Option Addr) (a_13n : Nat) (a_13c : Nat) (a_14a : Option Addr) (a_14n : Nat) (a_14c : Nat) (a_15a : Option Addr) (a_15n : Nat) (a_15c : Nat) (b_0 : Int) (b_1 : Int) (b_2 : Int) (b_3 : Int) (b_4 : Int) (b_5 : Int) (b_6 : Int) (b_7 : Int) (b_8 : Int) (b_9 : Int) (b_10 : Int) (b_11a : Option Addr) (b_11n : Nat) (b_11c : Nat) (b_12a : Option Addr) (b_12n : Nat) (b_12c : Nat) (b_13a : Option Addr) (b_13n : Nat) (b_13c : Nat) (b_14a : Option Addr) (b_14n : Nat) (b_14c : Nat) (b_15a : Option Addr) (b_15n : Nat) (b_15c : Nat) (w : World) (R : Ending → World → Prop) : (fnF Go.Proofs.Tryz.prog h3 Go.Proofs.Tryz.f3 [Value.agg
 #[Value.int IntKind.i64 a_0, Value.int IntKind.i64 a_1, Value.int IntKind.i64 a_2, Value.int IntKind.i64 a_3, Value.int IntKind.i64 a_4, Value.int IntKind.i64 a_5, Value.int IntKind.i64 a_6, Value.int IntKind.i64 a_7,
 Value.int IntKind.i64 a_8, Value.int IntKind.i64 a_9, Value.int IntKind.i64 a_10, Value.slice a_11a a_11n a_11c, Value.slice a_12a a_12n a_12c, Value.slice a_13a a_13n a_13c, Value.slice a_14a a_14n a_14c,
 Value.slice a_15a a_15n a_15c],
 Value.agg
 #[Value.int IntKind.i64 b_0, Value.int IntKind.i64 b_1, Value.int IntKind.i64 b_2, Value.int IntKind.i64 b_3, Value.int IntKind.i64 b_4, Value.int IntKind.i64 b_5, Value.int IntKind.i64 b_6, Value.int IntKind.i64 b_7,
 Value.int IntKind.i64 b_8, Value.int IntKind.i64 b_9, Value.int IntKind.i64 b_10, Value.slice b_11a b_11n b_11c, Value.slice b_12a b_12n b_12c, Value.slice b_13a b_13n b_13c, Value.slice b_14a b_14n b_14c,
 Value.slice b_15a b_15n b_15c]] w R).den = f3_vc a_0 a_1 a_2 a_3 a_4 a_5 a_6 a_7 a_8 a_9 a_10 a_11a a_11n a_11c a_12a a_12n a_12c a_13a a_13n a_13c a_14a a_14n a_14c a_15a a_15n a_15c b_0 b_1 b_2 b_3 b_4 b_5 b_6 b_7 b_8 b_9 b_10 b_11a b_11n b_11c b_12a b_12n b_12c b_13a b_13n b_13c b_14a b_14n b_14c b_15a b_15n b_15c w R := by kernel_rfl
theorem f3_calls (a_0 : Int) (a_1 : Int) (a_2 : Int) (a_3 : Int) (a_4 : Int) (a_5 : Int) (a_6 : Int) (a_7 : Int) (a_8 : Int) (a_9 : Int) (a_10 : Int) (a_11a : Option Addr) (a_11n : Nat) (a_11c : Nat) (a_12a : Option Addr) (a_12n : Nat) (a_12c : Nat) (a_13a : Option Addr) (a_13n : Nat) (a_13c : Nat) (a_14a : Option Addr) (a_14n : Nat) (a_14c : Nat) (a_15a : Option Addr) (a_15n : Nat) (a_15c : Nat) (b_0 : Int) (b_1 : Int) (b_2 : Int) (b_3 : Int) (b_4 : Int) (b_5 : Int) (b_6 : Int) (b_7 : Int) (b_8 : Int) (b_9 : Int) (b_10 : Int) (b_11a : Option Addr) (b_11n : Nat) (b_11c : Nat) (b_12a : Option Addr) (b_12n : Nat) (b_12c : Nat) (b_13a : Option Addr) (b_13n : Nat) (b_13c : Nat) (b_14a : Option Addr) (b_14n : Nat) (b_14c : Nat) (b_15a : Option Addr) (b_15n : Nat) (b_15c : Nat) (w : World) (R : Ending → World → Prop) (h : f3_vc a_0 a_1 a_2 a_3 a_4 a_5 a_6 a_7 a_8 a_9 a_10 a_11a a_11n a_11c a_12a a_12n a_12c a_13a a_13n a_13c a_14a a_14n a_14c a_15a a_15n a_15c b_0 b_1 b_2 b_3 b_4 b_5 b_6 b_7 b_8 b_9 b_10 b_11a b_11n b_11c b_12a b_12n b_12c b_13a b_13n b_13c b_14a b_14n b_14c b_15a b_15n b_15c w R) : Calls Go.Proofs.Tryz.prog 3 (List.toArray [Value.agg
 #[Value.int IntKind.i64 a_0, Value.int IntKind.i64 a_1, Value.int IntKind.i64 a_2, Value.int IntKind.i64 a_3, Value.int IntKind.i64 a_4, Value.int IntKind.i64 a_5, Value.int IntKind.i64 a_6, Value.int IntKind.i64 a_7,
 Value.int IntKind.i64 a_8, Value.int IntKind.i64 a_9, Value.int IntKind.i64 a_10, Value.slice a_11a a_11n a_11c, Value.slice a_12a a_12n a_12c, Value.slice a_13a a_13n a_13c, Value.slice a_14a a_14n a_14c,
 Value.slice a_15a a_15n a_15c],
 Value.agg
 #[Value.int IntKind.i64 b_0, Value.int IntKind.i64 b_1, Value.int IntKind.i64 b_2, Value.int IntKind.i64 b_3, Value.int IntKind.i64 b_4, Value.int IntKind.i64 b_5, Value.int IntKind.i64 b_6, Value.int IntKind.i64 b_7,
 Value.int IntKind.i64 b_8, Value.int IntKind.i64 b_9, Value.int IntKind.i64 b_10, Value.slice b_11a b_11n b_11c, Value.slice b_12a b_12n b_12c, Value.slice b_13a b_13n b_13c, Value.slice b_14a b_14n b_14c,
 Value.slice b_15a b_15n b_15c]]) w R :=
 fn_sound (H := h3) (fn := Go.Proofs.Tryz.f3) (by kernel_rfl) (by kernel_rfl) (by kernel_rfl) ((f3_eq a_0 a_1 a_2 a_3 a_4 a_5 a_6 a_7 a_8 a_9 a_10 a_11a a_11n a_11c a_12a a_12n a_12c a_13a a_13n a_13c a_14a a_14n a_14c a_15a a_15n a_15c b_0 b_1 b_2 b_3 b_4 b_5 b_6 b_7 b_8 b_9 b_10 b_11a b_11n b_11c b_12a b_12n b_12c b_13a b_13n b_13c b_14a b_14n b_14c b_15a b_15n b_15c w R).mpr h)


/-! manciple/book.Same -/
def h8 : Hints := ⟨[2, 3], [], [35, 14, 21, 28, 42, 50, 58], [], [], [], [], [], []⟩
def f8_vc (a_0 : Int) (a_1 : Int) (a_2 : Int) (a_3 : Int) (a_4 : Int) (a_5 : Int) (a_6 : Int) (a_7 : Int) (a_8 : Int) (a_9 : Int) (a_10 : Int) (a_11a : Option Addr) (a_11n : Nat) (a_11c : Nat) (a_12a : Option Addr) (a_12n : Nat) (a_12c : Nat) (a_13a : Option Addr) (a_13n : Nat) (a_13c : Nat) (a_14a : Option Addr) (a_14n : Nat) (a_14c : Nat) (a_15a : Option Addr) (a_15n : Nat) (a_15c : Nat) (b_0 : Int) (b_1 : Int) (b_2 : Int) (b_3 : Int) (b_4 : Int) (b_5 : Int) (b_6 : Int) (b_7 : Int) (b_8 : Int) (b_9 : Int) (b_10 : Int) (b_11a : Option Addr) (b_11n : Nat) (b_11c : Nat) (b_12a : Option Addr) (b_12n : Nat) (b_12c : Nat) (b_13a : Option Addr) (b_13n : Nat) (b_13c : Nat) (b_14a : Option Addr) (b_14n : Nat) (b_14c : Nat) (b_15a : Option Addr) (b_15n : Nat) (b_15c : Nat) (w : World) (R : Ending → World → Prop) : Prop :=
 ∀ (n1 : Nat),
 w.heap.size ≤ n1 →
 ∀ (n2 : Nat),
 w.heap.size ≤ n2 →
 ((!(a_0 == b_0 && (a_1 == b_1 && (a_2 == b_2 && (a_3 == b_3 && (a_4 == b_4 && (a_5 == b_5 && (a_6 == b_6 && (a_7 == b_7 && (a_8 == b_8 && true))) && true))))))) = true →
 ∀ (w3 : World), Bel w w3 → Under [n1, n2] w3 → R (Ending.returned (Value.bool false)) w3) ∧
 ((!(a_0 == b_0 && (a_1 == b_1 && (a_2 == b_2 && (a_3 == b_3 && (a_4 == b_4 && (a_5 == b_5 && (a_6 == b_6 && (a_7 == b_7 && (a_8 == b_8 && true))) && true))))))) = false →
 ((a_9 != b_9) = true → ∀ (w4 : World), Bel w w4 → Under [n1, n2] w4 → R (Ending.returned (Value.bool false)) w4) ∧
 ((a_9 != b_9) = false →
 ((a_10 != b_10) = true → ∀ (w5 : World), Bel w w5 → Under [n1, n2] w5 → R (Ending.returned (Value.bool false)) w5) ∧
 ((a_10 != b_10) = false →
 ∀ (w6 : World),
 Bel w w6 →
 Under [n1, n2] w6 →
 Calls Proofs.Tryz.prog 33 #[Value.slice a_11a a_11n a_11c, Value.slice b_11a b_11n b_11c] w6 fun (e7 : Ending) (w8 : World) =>
 ∃ (b9 : Bool),
 e7 = Ending.returned (Value.bool b9) ∧
 Keeps [n1, n2] w6 w8 ∧
 ((!b9) = true → R (Ending.returned (Value.bool false)) w8) ∧
 ((!b9) = false →
 Calls Proofs.Tryz.prog 34 #[Value.slice a_12a a_12n a_12c, Value.slice b_12a b_12n b_12c, Value.func (Fn.func 27) #[] #[]] w8 fun (e10 : Ending) (w11 : World) =>
 ∃ (b12 : Bool),
 e10 = Ending.returned (Value.bool b12) ∧
 Keeps [n1, n2] w8 w11 ∧
 (b12 = true →
 Calls Proofs.Tryz.prog 35 #[Value.slice a_13a a_13n a_13c, Value.slice b_13a b_13n b_13c, Value.func (Fn.func 29) #[] #[]] w11 fun (e13 : Ending) (w14 : World) =>
 ∃ (b15 : Bool),
 e13 = Ending.returned (Value.bool b15) ∧
 Keeps [n1, n2] w11 w14 ∧
 (b15 = true →
 Calls Proofs.Tryz.prog 36 #[Value.slice a_14a a_14n a_14c, Value.slice b_14a b_14n b_14c, Value.func (Fn.func 30) #[] #[]] w14 fun (e16 : Ending) (w17 : World) =>
 ∃ (b18 : Bool),
 e16 = Ending.returned (Value.bool b18) ∧
 Keeps [n1, n2] w14 w17 ∧
 (b18 = true →
 Calls Proofs.Tryz.prog 37 #[Value.slice a_15a a_15n a_15c, Value.slice b_15a b_15n b_15c, Value.func (Fn.func 31) #[] #[]] w17 fun (e19 : Ending) (w20 : World) =>
 ∃ (b21 : Bool), e19 = Ending.returned (Value.bool b21) ∧ Keeps [n1, n2] w17 w20 ∧ R (Ending.returned (Value.bool b21)) w20) ∧
 (b18 = false → R (Ending.returned (Value.bool false)) w17)) ∧
 (b15 = false → R (Ending.returned (Value.bool false)) w14)) ∧
 (b12 = false → R (Ending.returned (Value.bool false)) w11)))))
theorem f8_eq (a_0 : Int) (a_1 : Int) (a_2 : Int) (a_3 : Int) (a_4 : Int) (a_5 : Int) (a_6 : Int) (a_7 : Int) (a_8 : Int) (a_9 : Int) (a_10 : Int) (a_11a : Option Addr) (a_11n : Nat) (a_11c : Nat) (a_12a : Option Addr) (a_12n : Nat) (a_12c : Nat) (a_13a : Option Addr) (a_13n : Nat) (a_13c : Nat) (a_14a : Option Addr) (a_14n : Nat) (a_14c : Nat) (a_15a : Option Addr) (a_15n : Nat) (a_15c : Nat) (b_0 : Int) (b_1 : Int) (b_2 : Int) (b_3 : Int) (b_4 : Int) (b_5 : Int) (b_6 : Int) (b_7 : Int) (b_8 : Int) (b_9 : Int) (b_10 : Int) (b_11a : Option Addr) (b_11n : Nat) (b_11c : Nat) (b_12a : Option Addr) (b_12n : Nat) (b_12c : Nat) (b_13a : Option Addr) (b_13n : Nat) (b_13c : Nat) (b_14a : Option Addr) (b_14n : Nat) (b_14c : Nat) (b_15a : Option Addr) (b_15n : Nat) (b_15c : Nat) (w : World) (R : Ending → World → Prop) : (fnF Go.Proofs.Tryz.prog h8 Go.Proofs.Tryz.f8 [Value.agg
 #[Value.int IntKind.i64 a_0, Value.int IntKind.i64 a_1, Value.int IntKind.i64 a_2, Value.int IntKind.i64 a_3, Value.int IntKind.i64 a_4, Value.int IntKind.i64 a_5, Value.int IntKind.i64 a_6, Value.int IntKind.i64 a_7,
 Value.int IntKind.i64 a_8, Value.int IntKind.i64 a_9, Value.int IntKind.i64 a_10, Value.slice a_11a a_11n a_11c, Value.slice a_12a a_12n a_12c, Value.slice a_13a a_13n a_13c, Value.slice a_14a a_14n a_14c,
 Value.slice a_15a a_15n a_15c],
 Value.agg
 #[Value.int IntKind.i64 b_0, Value.int IntKind.i64 b_1, Value.int IntKind.i64 b_2, Value.int IntKind.i64 b_3, Value.int IntKind.i64 b_4, Value.int IntKind.i64 b_5, Value.int IntKind.i64 b_6, Value.int IntKind.i64 b_7,
 Value.int IntKind.i64 b_8, Value.int IntKind.i64 b_9, Value.int IntKind.i64 b_10, Value.slice b_11a b_11n b_11c, Value.slice b_12a b_12n b_12c, Value.slice b_13a b_13n b_13c, Value.slice b_14a b_14n b_14c,
 Value.slice b_15a b_15n b_15c]] w R).den = f8_vc a_0 a_1 a_2 a_3 a_4 a_5 a_6 a_7 a_8 a_9 a_10 a_11a a_11n a_11c a_12a a_12n a_12c a_13a a_13n a_13c a_14a a_14n a_14c a_15a a_15n a_15c b_0 b_1 b_2 b_3 b_4 b_5 b_6 b_7 b_8 b_9 b_10 b_11a b_11n b_11c b_12a b_12n b_12c b_13a b_13n b_13c b_14a b_14n b_14c b_15a b_15n b_15c w R := by kernel_rfl
theorem f8_calls (a_0 : Int) (a_1 : Int) (a_2 : Int) (a_3 : Int) (a_4 : Int) (a_5 : Int) (a_6 : Int) (a_7 : Int) (a_8 : Int) (a_9 : Int) (a_10 : Int) (a_11a : Option Addr) (a_11n : Nat) (a_11c : Nat) (a_12a : Option Addr) (a_12n : Nat) (a_12c : Nat) (a_13a : Option Addr) (a_13n : Nat) (a_13c : Nat) (a_14a : Option Addr) (a_14n : Nat) (a_14c : Nat) (a_15a : Option Addr) (a_15n : Nat) (a_15c : Nat) (b_0 : Int) (b_1 : Int) (b_2 : Int) (b_3 : Int) (b_4 : Int) (b_5 : Int) (b_6 : Int) (b_7 : Int) (b_8 : Int) (b_9 : Int) (b_10 : Int) (b_11a : Option Addr) (b_11n : Nat) (b_11c : Nat) (b_12a : Option Addr) (b_12n : Nat) (b_12c : Nat) (b_13a : Option Addr) (b_13n : Nat) (b_13c : Nat) (b_14a : Option Addr) (b_14n : Nat) (b_14c : Nat) (b_15a : Option Addr) (b_15n : Nat) (b_15c : Nat) (w : World) (R : Ending → World → Prop) (h : f8_vc a_0 a_1 a_2 a_3 a_4 a_5 a_6 a_7 a_8 a_9 a_10 a_11a a_11n a_11c a_12a a_12n a_12c a_13a a_13n a_13c a_14a a_14n a_14c a_15a a_15n a_15c b_0 b_1 b_2 b_3 b_4 b_5 b_6 b_7 b_8 b_9 b_10 b_11a b_11n b_11c b_12a b_12n b_12c b_13a b_13n b_13c b_14a b_14n b_14c b_15a b_15n b_15c w R) : Calls Go.Proofs.Tryz.prog 8 (List.toArray [Value.agg
 #[Value.int IntKind.i64 a_0, Value.int IntKind.i64 a_1, Value.int IntKind.i64 a_2, Value.int IntKind.i64 a_3, Value.int IntKind.i64 a_4, Value.int IntKind.i64 a_5, Value.int IntKind.i64 a_6, Value.int IntKind.i64 a_7,
 Value.int IntKind.i64 a_8, Value.int IntKind.i64 a_9, Value.int IntKind.i64 a_10, Value.slice a_11a a_11n a_11c, Value.slice a_12a a_12n a_12c, Value.slice a_13a a_13n a_13c, Value.slice a_14a a_14n a_14c,
 Value.slice a_15a a_15n a_15c],
 Value.agg
 #[Value.int IntKind.i64 b_0, Value.int IntKind.i64 b_1, Value.int IntKind.i64 b_2, Value.int IntKind.i64 b_3, Value.int IntKind.i64 b_4, Value.int IntKind.i64 b_5, Value.int IntKind.i64 b_6, Value.int IntKind.i64 b_7,
 Value.int IntKind.i64 b_8, Value.int IntKind.i64 b_9, Value.int IntKind.i64 b_10, Value.slice b_11a b_11n b_11c, Value.slice b_12a b_12n b_12c, Value.slice b_13a b_13n b_13c, Value.slice b_14a b_14n b_14c,
 Value.slice b_15a b_15n b_15c]]) w R :=
 fn_sound (H := h8) (fn := Go.Proofs.Tryz.f8) (by kernel_rfl) (by kernel_rfl) (by kernel_rfl) ((f8_eq a_0 a_1 a_2 a_3 a_4 a_5 a_6 a_7 a_8 a_9 a_10 a_11a a_11n a_11c a_12a a_12n a_12c a_13a a_13n a_13c a_14a a_14n a_14c a_15a a_15n a_15c b_0 b_1 b_2 b_3 b_4 b_5 b_6 b_7 b_8 b_9 b_10 b_11a b_11n b_11c b_12a b_12n b_12c b_13a b_13n b_13c b_14a b_14n b_14c b_15a b_15n b_15c w R).mpr h)


/-! manciple/book.Same$1 -/
def h27 : Hints := ⟨[2, 3], [], [10, 17], [], [], [], [], [], []⟩
def f27_vc (x_0 : Int) (x_1a : Option Addr) (x_1n : Nat) (x_1c : Nat) (x_2a : Option Addr) (x_2n : Nat) (x_2c : Nat) (y_0 : Int) (y_1a : Option Addr) (y_1n : Nat) (y_1c : Nat) (y_2a : Option Addr) (y_2n : Nat) (y_2c : Nat) (w : World) (R : Ending → World → Prop) : Prop :=
 ∀ (n1 : Nat),
 w.heap.size ≤ n1 →
 ∀ (n2 : Nat),
 w.heap.size ≤ n2 →
 ((x_0 == y_0) = true →
 ∀ (w3 : World),
 Bel w w3 →
 Under [n1, n2] w3 →
 Calls Proofs.Tryz.prog 28 #[Value.slice x_1a x_1n x_1c, Value.slice y_1a y_1n y_1c] w3 fun (e4 : Ending) (w5 : World) =>
 ∃ (b6 : Bool),
 e4 = Ending.returned (Value.bool b6) ∧
 Keeps [n1, n2] w3 w5 ∧
 (b6 = true →
 Calls Proofs.Tryz.prog 28 #[Value.slice x_2a x_2n x_2c, Value.slice y_2a y_2n y_2c] w5 fun (e7 : Ending) (w8 : World) =>
 ∃ (b9 : Bool), e7 = Ending.returned (Value.bool b9) ∧ Keeps [n1, n2] w5 w8 ∧ R (Ending.returned (Value.bool b9)) w8) ∧
 (b6 = false → R (Ending.returned (Value.bool false)) w5)) ∧
 ((x_0 == y_0) = false → ∀ (w10 : World), Bel w w10 → Under [n1, n2] w10 → R (Ending.returned (Value.bool false)) w10)
theorem f27_eq (x_0 : Int) (x_1a : Option Addr) (x_1n : Nat) (x_1c : Nat) (x_2a : Option Addr) (x_2n : Nat) (x_2c : Nat) (y_0 : Int) (y_1a : Option Addr) (y_1n : Nat) (y_1c : Nat) (y_2a : Option Addr) (y_2n : Nat) (y_2c : Nat) (w : World) (R : Ending → World → Prop) : (fnF Go.Proofs.Tryz.prog h27 Go.Proofs.Tryz.f27 [Value.agg #[Value.int IntKind.i64 x_0, Value.slice x_1a x_1n x_1c, Value.slice x_2a x_2n x_2c], Value.agg #[Value.int IntKind.i64 y_0, Value.slice y_1a y_1n y_1c, Value.slice y_2a y_2n y_2c]] w R).den = f27_vc x_0 x_1a x_1n x_1c x_2a x_2n x_2c y_0 y_1a y_1n y_1c y_2a y_2n y_2c w R := by kernel_rfl
theorem f27_calls (x_0 : Int) (x_1a : Option Addr) (x_1n : Nat) (x_1c : Nat) (x_2a : Option Addr) (x_2n : Nat) (x_2c : Nat) (y_0 : Int) (y_1a : Option Addr) (y_1n : Nat) (y_1c : Nat) (y_2a : Option Addr) (y_2n : Nat) (y_2c : Nat) (w : World) (R : Ending → World → Prop) (h : f27_vc x_0 x_1a x_1n x_1c x_2a x_2n x_2c y_0 y_1a y_1n y_1c y_2a y_2n y_2c w R) : Calls Go.Proofs.Tryz.prog 27 (List.toArray [Value.agg #[Value.int IntKind.i64 x_0, Value.slice x_1a x_1n x_1c, Value.slice x_2a x_2n x_2c], Value.agg #[Value.int IntKind.i64 y_0, Value.slice y_1a y_1n y_1c, Value.slice y_2a y_2n y_2c]]) w R :=
 fn_sound (H := h27) (fn := Go.Proofs.Tryz.f27) (by kernel_rfl) (by kernel_rfl) (by kernel_rfl) ((f27_eq x_0 x_1a x_1n x_1c x_2a x_2n x_2c y_0 y_1a y_1n y_1c y_2a y_2n y_2c w R).mpr h)


/-! manciple/book.Same$2 -/
def h29 : Hints := ⟨[2, 3], [], [10, 17, 24, 31], [], [], [], [], [], []⟩
def f29_vc (x_0 : Int) (x_1 : Int) (x_2 : Int) (x_3a : Option Addr) (x_3n : Nat) (x_3c : Nat) (x_4 : Int) (y_0 : Int) (y_1 : Int) (y_2 : Int) (y_3a : Option Addr) (y_3n : Nat) (y_3c : Nat) (y_4 : Int) (w : World) (R : Ending → World → Prop) : Prop :=
 ∀ (n1 : Nat),
 w.heap.size ≤ n1 →
 ∀ (n2 : Nat),
 w.heap.size ≤ n2 →
 ((x_0 == y_0) = true →
 ((x_1 == y_1) = true →
 ((x_2 == y_2) = true →
 ((x_4 == y_4) = true →
 ∀ (w3 : World),
 Bel w w3 →
 Under [n1, n2] w3 →
 Calls Proofs.Tryz.prog 28 #[Value.slice x_3a x_3n x_3c, Value.slice y_3a y_3n y_3c] w3 fun (e4 : Ending) (w5 : World) =>
 ∃ (b6 : Bool), e4 = Ending.returned (Value.bool b6) ∧ Keeps [n1, n2] w3 w5 ∧ R (Ending.returned (Value.bool b6)) w5) ∧
 ((x_4 == y_4) = false → ∀ (w7 : World), Bel w w7 → Under [n1, n2] w7 → R (Ending.returned (Value.bool false)) w7)) ∧
 ((x_2 == y_2) = false → ∀ (w8 : World), Bel w w8 → Under [n1, n2] w8 → R (Ending.returned (Value.bool false)) w8)) ∧
 ((x_1 == y_1) = false → ∀ (w9 : World), Bel w w9 → Under [n1, n2] w9 → R (Ending.returned (Value.bool false)) w9)) ∧
 ((x_0 == y_0) = false → ∀ (w10 : World), Bel w w10 → Under [n1, n2] w10 → R (Ending.returned (Value.bool false)) w10)
theorem f29_eq (x_0 : Int) (x_1 : Int) (x_2 : Int) (x_3a : Option Addr) (x_3n : Nat) (x_3c : Nat) (x_4 : Int) (y_0 : Int) (y_1 : Int) (y_2 : Int) (y_3a : Option Addr) (y_3n : Nat) (y_3c : Nat) (y_4 : Int) (w : World) (R : Ending → World → Prop) : (fnF Go.Proofs.Tryz.prog h29 Go.Proofs.Tryz.f29 [Value.agg #[Value.int IntKind.i64 x_0, Value.int IntKind.i64 x_1, Value.int IntKind.i64 x_2, Value.slice x_3a x_3n x_3c, Value.int IntKind.i64 x_4],
 Value.agg #[Value.int IntKind.i64 y_0, Value.int IntKind.i64 y_1, Value.int IntKind.i64 y_2, Value.slice y_3a y_3n y_3c, Value.int IntKind.i64 y_4]] w R).den = f29_vc x_0 x_1 x_2 x_3a x_3n x_3c x_4 y_0 y_1 y_2 y_3a y_3n y_3c y_4 w R := by kernel_rfl
theorem f29_calls (x_0 : Int) (x_1 : Int) (x_2 : Int) (x_3a : Option Addr) (x_3n : Nat) (x_3c : Nat) (x_4 : Int) (y_0 : Int) (y_1 : Int) (y_2 : Int) (y_3a : Option Addr) (y_3n : Nat) (y_3c : Nat) (y_4 : Int) (w : World) (R : Ending → World → Prop) (h : f29_vc x_0 x_1 x_2 x_3a x_3n x_3c x_4 y_0 y_1 y_2 y_3a y_3n y_3c y_4 w R) : Calls Go.Proofs.Tryz.prog 29 (List.toArray [Value.agg #[Value.int IntKind.i64 x_0, Value.int IntKind.i64 x_1, Value.int IntKind.i64 x_2, Value.slice x_3a x_3n x_3c, Value.int IntKind.i64 x_4],
 Value.agg #[Value.int IntKind.i64 y_0, Value.int IntKind.i64 y_1, Value.int IntKind.i64 y_2, Value.slice y_3a y_3n y_3c, Value.int IntKind.i64 y_4]]) w R :=
 fn_sound (H := h29) (fn := Go.Proofs.Tryz.f29) (by kernel_rfl) (by kernel_rfl) (by kernel_rfl) ((f29_eq x_0 x_1 x_2 x_3a x_3n x_3c x_4 y_0 y_1 y_2 y_3a y_3n y_3c y_4 w R).mpr h)


/-! manciple/book.Same$3 -/
def h30 : Hints := ⟨[2, 3], [], [10, 17, 24], [], [], [], [], [], []⟩
def f30_vc (x_0 : Int) (x_1 : Int) (x_2 : Int) (x_3a : Option Addr) (x_3n : Nat) (x_3c : Nat) (y_0 : Int) (y_1 : Int) (y_2 : Int) (y_3a : Option Addr) (y_3n : Nat) (y_3c : Nat) (w : World) (R : Ending → World → Prop) : Prop :=
 ∀ (n1 : Nat),
 w.heap.size ≤ n1 →
 ∀ (n2 : Nat),
 w.heap.size ≤ n2 →
 ((x_0 == y_0) = true →
 ((x_1 == y_1) = true →
 ((x_2 == y_2) = true →
 ∀ (w3 : World),
 Bel w w3 →
 Under [n1, n2] w3 →
 Calls Proofs.Tryz.prog 28 #[Value.slice x_3a x_3n x_3c, Value.slice y_3a y_3n y_3c] w3 fun (e4 : Ending) (w5 : World) =>
 ∃ (b6 : Bool), e4 = Ending.returned (Value.bool b6) ∧ Keeps [n1, n2] w3 w5 ∧ R (Ending.returned (Value.bool b6)) w5) ∧
 ((x_2 == y_2) = false → ∀ (w7 : World), Bel w w7 → Under [n1, n2] w7 → R (Ending.returned (Value.bool false)) w7)) ∧
 ((x_1 == y_1) = false → ∀ (w8 : World), Bel w w8 → Under [n1, n2] w8 → R (Ending.returned (Value.bool false)) w8)) ∧
 ((x_0 == y_0) = false → ∀ (w9 : World), Bel w w9 → Under [n1, n2] w9 → R (Ending.returned (Value.bool false)) w9)
theorem f30_eq (x_0 : Int) (x_1 : Int) (x_2 : Int) (x_3a : Option Addr) (x_3n : Nat) (x_3c : Nat) (y_0 : Int) (y_1 : Int) (y_2 : Int) (y_3a : Option Addr) (y_3n : Nat) (y_3c : Nat) (w : World) (R : Ending → World → Prop) : (fnF Go.Proofs.Tryz.prog h30 Go.Proofs.Tryz.f30 [Value.agg #[Value.int IntKind.i64 x_0, Value.int IntKind.i64 x_1, Value.int IntKind.i64 x_2, Value.slice x_3a x_3n x_3c],
 Value.agg #[Value.int IntKind.i64 y_0, Value.int IntKind.i64 y_1, Value.int IntKind.i64 y_2, Value.slice y_3a y_3n y_3c]] w R).den = f30_vc x_0 x_1 x_2 x_3a x_3n x_3c y_0 y_1 y_2 y_3a y_3n y_3c w R := by kernel_rfl
theorem f30_calls (x_0 : Int) (x_1 : Int) (x_2 : Int) (x_3a : Option Addr) (x_3n : Nat) (x_3c : Nat) (y_0 : Int) (y_1 : Int) (y_2 : Int) (y_3a : Option Addr) (y_3n : Nat) (y_3c : Nat) (w : World) (R : Ending → World → Prop) (h : f30_vc x_0 x_1 x_2 x_3a x_3n x_3c y_0 y_1 y_2 y_3a y_3n y_3c w R) : Calls Go.Proofs.Tryz.prog 30 (List.toArray [Value.agg #[Value.int IntKind.i64 x_0, Value.int IntKind.i64 x_1, Value.int IntKind.i64 x_2, Value.slice x_3a x_3n x_3c],
 Value.agg #[Value.int IntKind.i64 y_0, Value.int IntKind.i64 y_1, Value.int IntKind.i64 y_2, Value.slice y_3a y_3n y_3c]]) w R :=
 fn_sound (H := h30) (fn := Go.Proofs.Tryz.f30) (by kernel_rfl) (by kernel_rfl) (by kernel_rfl) ((f30_eq x_0 x_1 x_2 x_3a x_3n x_3c y_0 y_1 y_2 y_3a y_3n y_3c w R).mpr h)


/-! manciple/book.Same$4 -/
def h31 : Hints := ⟨[2, 3], [], [], [], [], [], [], [], []⟩
def f31_vc (x_0 : Int) (x_1 : Int) (x_2 : Int) (x_3a : Option Addr) (x_3n : Nat) (x_3c : Nat) (y_0 : Int) (y_1 : Int) (y_2 : Int) (y_3a : Option Addr) (y_3n : Nat) (y_3c : Nat) (w : World) (R : Ending → World → Prop) : Prop :=
 ∀ (n1 : Nat),
 w.heap.size ≤ n1 →
 ∀ (n2 : Nat),
 w.heap.size ≤ n2 →
 ∀ (w3 : World),
 Bel w w3 →
 Under [n1, n2] w3 →
 Calls Proofs.Tryz.prog 32
 #[Value.agg #[Value.int IntKind.i64 x_0, Value.int IntKind.i64 x_1, Value.int IntKind.i64 x_2, Value.slice x_3a x_3n x_3c],
 Value.agg #[Value.int IntKind.i64 y_0, Value.int IntKind.i64 y_1, Value.int IntKind.i64 y_2, Value.slice y_3a y_3n y_3c]]
 w3 fun (e4 : Ending) (w5 : World) => ∃ (x6 : Int), e4 = Ending.returned (Value.int IntKind.i64 x6) ∧ Keeps [n1, n2] w3 w5 ∧ R (Ending.returned (Value.bool (x6 == 0))) w5
theorem f31_eq (x_0 : Int) (x_1 : Int) (x_2 : Int) (x_3a : Option Addr) (x_3n : Nat) (x_3c : Nat) (y_0 : Int) (y_1 : Int) (y_2 : Int) (y_3a : Option Addr) (y_3n : Nat) (y_3c : Nat) (w : World) (R : Ending → World → Prop) : (fnF Go.Proofs.Tryz.prog h31 Go.Proofs.Tryz.f31 [Value.agg #[Value.int IntKind.i64 x_0, Value.int IntKind.i64 x_1, Value.int IntKind.i64 x_2, Value.slice x_3a x_3n x_3c],
 Value.agg #[Value.int IntKind.i64 y_0, Value.int IntKind.i64 y_1, Value.int IntKind.i64 y_2, Value.slice y_3a y_3n y_3c]] w R).den = f31_vc x_0 x_1 x_2 x_3a x_3n x_3c y_0 y_1 y_2 y_3a y_3n y_3c w R := by kernel_rfl
theorem f31_calls (x_0 : Int) (x_1 : Int) (x_2 : Int) (x_3a : Option Addr) (x_3n : Nat) (x_3c : Nat) (y_0 : Int) (y_1 : Int) (y_2 : Int) (y_3a : Option Addr) (y_3n : Nat) (y_3c : Nat) (w : World) (R : Ending → World → Prop) (h : f31_vc x_0 x_1 x_2 x_3a x_3n x_3c y_0 y_1 y_2 y_3a y_3n y_3c w R) : Calls Go.Proofs.Tryz.prog 31 (List.toArray [Value.agg #[Value.int IntKind.i64 x_0, Value.int IntKind.i64 x_1, Value.int IntKind.i64 x_2, Value.slice x_3a x_3n x_3c],
 Value.agg #[Value.int IntKind.i64 y_0, Value.int IntKind.i64 y_1, Value.int IntKind.i64 y_2, Value.slice y_3a y_3n y_3c]]) w R :=
 fn_sound (H := h31) (fn := Go.Proofs.Tryz.f31) (by kernel_rfl) (by kernel_rfl) (by kernel_rfl) ((f31_eq x_0 x_1 x_2 x_3a x_3n x_3c y_0 y_1 y_2 y_3a y_3n y_3c w R).mpr h)


/-! slices.Equal[[]manciple/api.Frame,manciple/api.Frame] -/
def h33 : Hints := ⟨[], [18, 22], [10, 14, 24], [(6, [0, 1, 2, 3, 4, 5, 6, 7, 8])], [], [(4, ⟨[(13, .int .i64)], []⟩)], [], [], []⟩
def f33_vc (s1a : Option Addr) (s1n : Nat) (s1c : Nat) (s2a : Option Addr) (s2n : Nat) (s2c : Nat) (w : World) (R : Ending → World → Prop) : Prop :=
 (((↑s1n : Int) != (↑s2n : Int)) = true → R (Ending.returned (Value.bool false)) w) ∧
 (((↑s1n : Int) != (↑s2n : Int)) = false →
 ∃ (J1 : Int × Unit → World → Prop),
 ∃ (J2 : Int × Unit → World → Nat),
 J1 (0, ()) w ∧
 ∀ (x3 : Int) (w4 : World),
 J1 (x3, ()) w4 →
 (decide (x3 < (↑s1n : Int)) = true →
 ∃ (ad5 : Addr),
 Gives Proofs.Tryz.prog (Instr.indexAt 25 (Value.slice s1a s1n s1c) (Value.int IntKind.i64 x3)) (Value.pointer (some ad5)) ∧
 ∃ (x6 : Int),
 ∃ (x7 : Int),
 ∃ (x8 : Int),
 ∃ (b9 : Bool),
 ∃ (b10 : Bool),
 ∃ (x11 : Int),
 ∃ (x12 : Int),
 Reads Proofs.Tryz.prog [] (Instr.loadAt 37 (Value.pointer (some ad5))) w4
 (Value.agg #[Value.int IntKind.i64 x6, Value.int IntKind.i64 x7, Value.int IntKind.i64 x8, Value.bool b9, Value.bool b10, Value.int IntKind.i64 x11, Value.int IntKind.i64 x12]) ∧
 ∃ (ad13 : Addr),
 Gives Proofs.Tryz.prog (Instr.indexAt 25 (Value.slice s2a s2n s2c) (Value.int IntKind.i64 x3)) (Value.pointer (some ad13)) ∧
 ∃ (x14 : Int),
 ∃ (x15 : Int),
 ∃ (x16 : Int),
 ∃ (b17 : Bool),
 ∃ (b18 : Bool),
 ∃ (x19 : Int),
 ∃ (x20 : Int),
 Reads Proofs.Tryz.prog [] (Instr.loadAt 37 (Value.pointer (some ad13))) w4
 (Value.agg
 #[Value.int IntKind.i64 x14, Value.int IntKind.i64 x15, Value.int IntKind.i64 x16, Value.bool b17, Value.bool b18, Value.int IntKind.i64 x19, Value.int IntKind.i64 x20]) ∧
 ((!(x6 == x14 && (x7 == x15 && (x8 == x16 && (b9 == b17 && (b10 == b18 && (x11 == x19 && (x12 == x20 && true)))))))) = true →
 ∀ (w21 : World), Bel w4 w21 → R (Ending.returned (Value.bool false)) w21) ∧
 ((!(x6 == x14 && (x7 == x15 && (x8 == x16 && (b9 == b17 && (b10 == b18 && (x11 == x19 && (x12 == x20 && true)))))))) = false →
 ∀ (w22 : World), Bel w4 w22 → J1 (IntKind.i64.wrap (x3 + 1), ()) w22 ∧ J2 (IntKind.i64.wrap (x3 + 1), ()) w22 < J2 (x3, ()) w4)) ∧
 (decide (x3 < (↑s1n : Int)) = false → R (Ending.returned (Value.bool true)) w4))
theorem f33_eq (s1a : Option Addr) (s1n : Nat) (s1c : Nat) (s2a : Option Addr) (s2n : Nat) (s2c : Nat) (w : World) (R : Ending → World → Prop) : (fnF Go.Proofs.Tryz.prog h33 Go.Proofs.Tryz.f33 [Value.slice s1a s1n s1c, Value.slice s2a s2n s2c] w R).den = f33_vc s1a s1n s1c s2a s2n s2c w R := by kernel_rfl
theorem f33_calls (s1a : Option Addr) (s1n : Nat) (s1c : Nat) (s2a : Option Addr) (s2n : Nat) (s2c : Nat) (w : World) (R : Ending → World → Prop) (h : f33_vc s1a s1n s1c s2a s2n s2c w R) : Calls Go.Proofs.Tryz.prog 33 (List.toArray [Value.slice s1a s1n s1c, Value.slice s2a s2n s2c]) w R :=
 fn_sound (H := h33) (fn := Go.Proofs.Tryz.f33) (by kernel_rfl) (by kernel_rfl) (by kernel_rfl) ((f33_eq s1a s1n s1c s2a s2n s2c w R).mpr h)


/-! slices.EqualFunc[[]manciple/api.Agent,[]manciple/api.Agent,manciple/api.Agent,manciple/api.Agent] -/
def h34 : Hints := ⟨[8, 9], [20, 24, 29], [14, 18, 30], [], [], [(4, ⟨[(17, .int .i64)], []⟩)], [], [], []⟩
def f34_vc (s1a : Option Addr) (s1n : Nat) (s1c : Nat) (s2a : Option Addr) (s2n : Nat) (s2c : Nat) (eq : Value) (w : World) (R : Ending → World → Prop) : Prop :=
 (((↑s1n : Int) != (↑s2n : Int)) = true → R (Ending.returned (Value.bool false)) w) ∧
 (((↑s1n : Int) != (↑s2n : Int)) = false →
 ∃ (J1 : Int × Unit → World → Prop),
 ∃ (J2 : Int × Unit → World → Nat),
 J1 (0, ()) w ∧
 ∀ (x3 : Int) (w4 : World),
 J1 (x3, ()) w4 →
 (decide (x3 < (↑s1n : Int)) = true →
 ∃ (ad5 : Addr),
 Gives Proofs.Tryz.prog (Instr.indexAt 26 (Value.slice s1a s1n s1c) (Value.int IntKind.i64 x3)) (Value.pointer (some ad5)) ∧
 ∃ (x6 : Int),
 ∃ (a7 : Option Addr),
 ∃ (n8 : Nat),
 ∃ (n9 : Nat),
 ∃ (a10 : Option Addr),
 ∃ (n11 : Nat),
 ∃ (n12 : Nat),
 Reads Proofs.Tryz.prog [] (Instr.loadAt 45 (Value.pointer (some ad5))) w4 (Value.agg #[Value.int IntKind.i64 x6, Value.slice a7 n8 n9, Value.slice a10 n11 n12]) ∧
 ∀ (n13 : Nat),
 w4.heap.size ≤ n13 →
 ∃ (ad14 : Addr),
 Gives Proofs.Tryz.prog (Instr.indexAt 26 (Value.slice s2a s2n s2c) (Value.int IntKind.i64 x3)) (Value.pointer (some ad14)) ∧
 ∃ (x15 : Int),
 ∃ (a16 : Option Addr),
 ∃ (n17 : Nat),
 ∃ (n18 : Nat),
 ∃ (a19 : Option Addr),
 ∃ (n20 : Nat),
 ∃ (n21 : Nat),
 Reads Proofs.Tryz.prog [n13] (Instr.loadAt 45 (Value.pointer (some ad14))) w4 (Value.agg #[Value.int IntKind.i64 x15, Value.slice a16 n17 n18, Value.slice a19 n20 n21]) ∧
 ∀ (n22 : Nat),
 w4.heap.size ≤ n22 →
 ∀ (w23 : World),
 Evo [n22, n13] w4 w23 →
 Under [n13, n22] w23 →
 OpW Proofs.Tryz.prog
 (invokeS eq
 #[Value.agg #[Value.int IntKind.i64 x6, Value.slice a7 n8 n9, Value.slice a10 n11 n12],
 Value.agg #[Value.int IntKind.i64 x15, Value.slice a16 n17 n18, Value.slice a19 n20 n21]])
 w23 fun (v24 : Value) (w25 : World) =>
 ∃ (b26 : Bool),
 v24 = Value.bool b26 ∧
 Keeps [n13, n22] w23 w25 ∧
 ((!b26) = true → R (Ending.returned (Value.bool false)) w25) ∧
 ((!b26) = false → J1 (IntKind.i64.wrap (x3 + 1), ()) w25 ∧ J2 (IntKind.i64.wrap (x3 + 1), ()) w25 < J2 (x3, ()) w4)) ∧
 (decide (x3 < (↑s1n : Int)) = false → R (Ending.returned (Value.bool true)) w4))
theorem f34_eq (s1a : Option Addr) (s1n : Nat) (s1c : Nat) (s2a : Option Addr) (s2n : Nat) (s2c : Nat) (eq : Value) (w : World) (R : Ending → World → Prop) : (fnF Go.Proofs.Tryz.prog h34 Go.Proofs.Tryz.f34 [Value.slice s1a s1n s1c, Value.slice s2a s2n s2c, eq] w R).den = f34_vc s1a s1n s1c s2a s2n s2c eq w R := by kernel_rfl
theorem f34_calls (s1a : Option Addr) (s1n : Nat) (s1c : Nat) (s2a : Option Addr) (s2n : Nat) (s2c : Nat) (eq : Value) (w : World) (R : Ending → World → Prop) (h : f34_vc s1a s1n s1c s2a s2n s2c eq w R) : Calls Go.Proofs.Tryz.prog 34 (List.toArray [Value.slice s1a s1n s1c, Value.slice s2a s2n s2c, eq]) w R :=
 fn_sound (H := h34) (fn := Go.Proofs.Tryz.f34) (by kernel_rfl) (by kernel_rfl) (by kernel_rfl) ((f34_eq s1a s1n s1c s2a s2n s2c eq w R).mpr h)


/-! slices.EqualFunc[[]manciple/api.Offer,[]manciple/api.Offer,manciple/api.Offer,manciple/api.Offer] -/
def h35 : Hints := ⟨[8, 9], [20, 24, 29], [14, 18, 30], [], [], [(4, ⟨[(17, .int .i64)], []⟩)], [], [], []⟩
def f35_vc (s1a : Option Addr) (s1n : Nat) (s1c : Nat) (s2a : Option Addr) (s2n : Nat) (s2c : Nat) (eq : Value) (w : World) (R : Ending → World → Prop) : Prop :=
 (((↑s1n : Int) != (↑s2n : Int)) = true → R (Ending.returned (Value.bool false)) w) ∧
 (((↑s1n : Int) != (↑s2n : Int)) = false →
 ∃ (J1 : Int × Unit → World → Prop),
 ∃ (J2 : Int × Unit → World → Nat),
 J1 (0, ()) w ∧
 ∀ (x3 : Int) (w4 : World),
 J1 (x3, ()) w4 →
 (decide (x3 < (↑s1n : Int)) = true →
 ∃ (ad5 : Addr),
 Gives Proofs.Tryz.prog (Instr.indexAt 27 (Value.slice s1a s1n s1c) (Value.int IntKind.i64 x3)) (Value.pointer (some ad5)) ∧
 ∃ (x6 : Int),
 ∃ (x7 : Int),
 ∃ (x8 : Int),
 ∃ (a9 : Option Addr),
 ∃ (n10 : Nat),
 ∃ (n11 : Nat),
 ∃ (x12 : Int),
 Reads Proofs.Tryz.prog [] (Instr.loadAt 47 (Value.pointer (some ad5))) w4
 (Value.agg #[Value.int IntKind.i64 x6, Value.int IntKind.i64 x7, Value.int IntKind.i64 x8, Value.slice a9 n10 n11, Value.int IntKind.i64 x12]) ∧
 ∀ (n13 : Nat),
 w4.heap.size ≤ n13 →
 ∃ (ad14 : Addr),
 Gives Proofs.Tryz.prog (Instr.indexAt 27 (Value.slice s2a s2n s2c) (Value.int IntKind.i64 x3)) (Value.pointer (some ad14)) ∧
 ∃ (x15 : Int),
 ∃ (x16 : Int),
 ∃ (x17 : Int),
 ∃ (a18 : Option Addr),
 ∃ (n19 : Nat),
 ∃ (n20 : Nat),
 ∃ (x21 : Int),
 Reads Proofs.Tryz.prog [n13] (Instr.loadAt 47 (Value.pointer (some ad14))) w4
 (Value.agg #[Value.int IntKind.i64 x15, Value.int IntKind.i64 x16, Value.int IntKind.i64 x17, Value.slice a18 n19 n20, Value.int IntKind.i64 x21]) ∧
 ∀ (n22 : Nat),
 w4.heap.size ≤ n22 →
 ∀ (w23 : World),
 Evo [n22, n13] w4 w23 →
 Under [n13, n22] w23 →
 OpW Proofs.Tryz.prog
 (invokeS eq
 #[Value.agg #[Value.int IntKind.i64 x6, Value.int IntKind.i64 x7, Value.int IntKind.i64 x8, Value.slice a9 n10 n11, Value.int IntKind.i64 x12],
 Value.agg #[Value.int IntKind.i64 x15, Value.int IntKind.i64 x16, Value.int IntKind.i64 x17, Value.slice a18 n19 n20, Value.int IntKind.i64 x21]])
 w23 fun (v24 : Value) (w25 : World) =>
 ∃ (b26 : Bool),
 v24 = Value.bool b26 ∧
 Keeps [n13, n22] w23 w25 ∧
 ((!b26) = true → R (Ending.returned (Value.bool false)) w25) ∧
 ((!b26) = false → J1 (IntKind.i64.wrap (x3 + 1), ()) w25 ∧ J2 (IntKind.i64.wrap (x3 + 1), ()) w25 < J2 (x3, ()) w4)) ∧
 (decide (x3 < (↑s1n : Int)) = false → R (Ending.returned (Value.bool true)) w4))
theorem f35_eq (s1a : Option Addr) (s1n : Nat) (s1c : Nat) (s2a : Option Addr) (s2n : Nat) (s2c : Nat) (eq : Value) (w : World) (R : Ending → World → Prop) : (fnF Go.Proofs.Tryz.prog h35 Go.Proofs.Tryz.f35 [Value.slice s1a s1n s1c, Value.slice s2a s2n s2c, eq] w R).den = f35_vc s1a s1n s1c s2a s2n s2c eq w R := by kernel_rfl
theorem f35_calls (s1a : Option Addr) (s1n : Nat) (s1c : Nat) (s2a : Option Addr) (s2n : Nat) (s2c : Nat) (eq : Value) (w : World) (R : Ending → World → Prop) (h : f35_vc s1a s1n s1c s2a s2n s2c eq w R) : Calls Go.Proofs.Tryz.prog 35 (List.toArray [Value.slice s1a s1n s1c, Value.slice s2a s2n s2c, eq]) w R :=
 fn_sound (H := h35) (fn := Go.Proofs.Tryz.f35) (by kernel_rfl) (by kernel_rfl) (by kernel_rfl) ((f35_eq s1a s1n s1c s2a s2n s2c eq w R).mpr h)


/-! slices.EqualFunc[[]manciple/api.Task,[]manciple/api.Task,manciple/api.Task,manciple/api.Task] -/
def h36 : Hints := ⟨[8, 9], [20, 24, 29], [14, 18, 30], [], [], [(4, ⟨[(17, .int .i64)], []⟩)], [], [], []⟩
def f36_vc (s1a : Option Addr) (s1n : Nat) (s1c : Nat) (s2a : Option Addr) (s2n : Nat) (s2c : Nat) (eq : Value) (w : World) (R : Ending → World → Prop) : Prop :=
 (((↑s1n : Int) != (↑s2n : Int)) = true → R (Ending.returned (Value.bool false)) w) ∧
 (((↑s1n : Int) != (↑s2n : Int)) = false →
 ∃ (J1 : Int × Unit → World → Prop),
 ∃ (J2 : Int × Unit → World → Nat),
 J1 (0, ()) w ∧
 ∀ (x3 : Int) (w4 : World),
 J1 (x3, ()) w4 →
 (decide (x3 < (↑s1n : Int)) = true →
 ∃ (ad5 : Addr),
 Gives Proofs.Tryz.prog (Instr.indexAt 28 (Value.slice s1a s1n s1c) (Value.int IntKind.i64 x3)) (Value.pointer (some ad5)) ∧
 ∃ (x6 : Int),
 ∃ (x7 : Int),
 ∃ (x8 : Int),
 ∃ (a9 : Option Addr),
 ∃ (n10 : Nat),
 ∃ (n11 : Nat),
 Reads Proofs.Tryz.prog [] (Instr.loadAt 49 (Value.pointer (some ad5))) w4 (Value.agg #[Value.int IntKind.i64 x6, Value.int IntKind.i64 x7, Value.int IntKind.i64 x8, Value.slice a9 n10 n11]) ∧
 ∀ (n12 : Nat),
 w4.heap.size ≤ n12 →
 ∃ (ad13 : Addr),
 Gives Proofs.Tryz.prog (Instr.indexAt 28 (Value.slice s2a s2n s2c) (Value.int IntKind.i64 x3)) (Value.pointer (some ad13)) ∧
 ∃ (x14 : Int),
 ∃ (x15 : Int),
 ∃ (x16 : Int),
 ∃ (a17 : Option Addr),
 ∃ (n18 : Nat),
 ∃ (n19 : Nat),
 Reads Proofs.Tryz.prog [n12] (Instr.loadAt 49 (Value.pointer (some ad13))) w4
 (Value.agg #[Value.int IntKind.i64 x14, Value.int IntKind.i64 x15, Value.int IntKind.i64 x16, Value.slice a17 n18 n19]) ∧
 ∀ (n20 : Nat),
 w4.heap.size ≤ n20 →
 ∀ (w21 : World),
 Evo [n20, n12] w4 w21 →
 Under [n12, n20] w21 →
 OpW Proofs.Tryz.prog
 (invokeS eq
 #[Value.agg #[Value.int IntKind.i64 x6, Value.int IntKind.i64 x7, Value.int IntKind.i64 x8, Value.slice a9 n10 n11],
 Value.agg #[Value.int IntKind.i64 x14, Value.int IntKind.i64 x15, Value.int IntKind.i64 x16, Value.slice a17 n18 n19]])
 w21 fun (v22 : Value) (w23 : World) =>
 ∃ (b24 : Bool),
 v22 = Value.bool b24 ∧
 Keeps [n12, n20] w21 w23 ∧
 ((!b24) = true → R (Ending.returned (Value.bool false)) w23) ∧
 ((!b24) = false → J1 (IntKind.i64.wrap (x3 + 1), ()) w23 ∧ J2 (IntKind.i64.wrap (x3 + 1), ()) w23 < J2 (x3, ()) w4)) ∧
 (decide (x3 < (↑s1n : Int)) = false → R (Ending.returned (Value.bool true)) w4))
theorem f36_eq (s1a : Option Addr) (s1n : Nat) (s1c : Nat) (s2a : Option Addr) (s2n : Nat) (s2c : Nat) (eq : Value) (w : World) (R : Ending → World → Prop) : (fnF Go.Proofs.Tryz.prog h36 Go.Proofs.Tryz.f36 [Value.slice s1a s1n s1c, Value.slice s2a s2n s2c, eq] w R).den = f36_vc s1a s1n s1c s2a s2n s2c eq w R := by kernel_rfl
theorem f36_calls (s1a : Option Addr) (s1n : Nat) (s1c : Nat) (s2a : Option Addr) (s2n : Nat) (s2c : Nat) (eq : Value) (w : World) (R : Ending → World → Prop) (h : f36_vc s1a s1n s1c s2a s2n s2c eq w R) : Calls Go.Proofs.Tryz.prog 36 (List.toArray [Value.slice s1a s1n s1c, Value.slice s2a s2n s2c, eq]) w R :=
 fn_sound (H := h36) (fn := Go.Proofs.Tryz.f36) (by kernel_rfl) (by kernel_rfl) (by kernel_rfl) ((f36_eq s1a s1n s1c s2a s2n s2c eq w R).mpr h)


/-! slices.EqualFunc[[]manciple/api.Filter,[]manciple/api.Filter,manciple/api.Filter,manciple/api.Filter] -/
def h37 : Hints := ⟨[8, 9], [20, 24, 29], [14, 18, 30], [], [], [(4, ⟨[(17, .int .i64)], []⟩)], [], [], []⟩
def f37_vc (s1a : Option Addr) (s1n : Nat) (s1c : Nat) (s2a : Option Addr) (s2n : Nat) (s2c : Nat) (eq : Value) (w : World) (R : Ending → World → Prop) : Prop :=
 (((↑s1n : Int) != (↑s2n : Int)) = true → R (Ending.returned (Value.bool false)) w) ∧
 (((↑s1n : Int) != (↑s2n : Int)) = false →
 ∃ (J1 : Int × Unit → World → Prop),
 ∃ (J2 : Int × Unit → World → Nat),
 J1 (0, ()) w ∧
 ∀ (x3 : Int) (w4 : World),
 J1 (x3, ()) w4 →
 (decide (x3 < (↑s1n : Int)) = true →
 ∃ (ad5 : Addr),
 Gives Proofs.Tryz.prog (Instr.indexAt 29 (Value.slice s1a s1n s1c) (Value.int IntKind.i64 x3)) (Value.pointer (some ad5)) ∧
 ∃ (x6 : Int),
 ∃ (x7 : Int),
 ∃ (x8 : Int),
 ∃ (a9 : Option Addr),
 ∃ (n10 : Nat),
 ∃ (n11 : Nat),
 Reads Proofs.Tryz.prog [] (Instr.loadAt 51 (Value.pointer (some ad5))) w4 (Value.agg #[Value.int IntKind.i64 x6, Value.int IntKind.i64 x7, Value.int IntKind.i64 x8, Value.slice a9 n10 n11]) ∧
 ∀ (n12 : Nat),
 w4.heap.size ≤ n12 →
 ∃ (ad13 : Addr),
 Gives Proofs.Tryz.prog (Instr.indexAt 29 (Value.slice s2a s2n s2c) (Value.int IntKind.i64 x3)) (Value.pointer (some ad13)) ∧
 ∃ (x14 : Int),
 ∃ (x15 : Int),
 ∃ (x16 : Int),
 ∃ (a17 : Option Addr),
 ∃ (n18 : Nat),
 ∃ (n19 : Nat),
 Reads Proofs.Tryz.prog [n12] (Instr.loadAt 51 (Value.pointer (some ad13))) w4
 (Value.agg #[Value.int IntKind.i64 x14, Value.int IntKind.i64 x15, Value.int IntKind.i64 x16, Value.slice a17 n18 n19]) ∧
 ∀ (n20 : Nat),
 w4.heap.size ≤ n20 →
 ∀ (w21 : World),
 Evo [n20, n12] w4 w21 →
 Under [n12, n20] w21 →
 OpW Proofs.Tryz.prog
 (invokeS eq
 #[Value.agg #[Value.int IntKind.i64 x6, Value.int IntKind.i64 x7, Value.int IntKind.i64 x8, Value.slice a9 n10 n11],
 Value.agg #[Value.int IntKind.i64 x14, Value.int IntKind.i64 x15, Value.int IntKind.i64 x16, Value.slice a17 n18 n19]])
 w21 fun (v22 : Value) (w23 : World) =>
 ∃ (b24 : Bool),
 v22 = Value.bool b24 ∧
 Keeps [n12, n20] w21 w23 ∧
 ((!b24) = true → R (Ending.returned (Value.bool false)) w23) ∧
 ((!b24) = false → J1 (IntKind.i64.wrap (x3 + 1), ()) w23 ∧ J2 (IntKind.i64.wrap (x3 + 1), ()) w23 < J2 (x3, ()) w4)) ∧
 (decide (x3 < (↑s1n : Int)) = false → R (Ending.returned (Value.bool true)) w4))
theorem f37_eq (s1a : Option Addr) (s1n : Nat) (s1c : Nat) (s2a : Option Addr) (s2n : Nat) (s2c : Nat) (eq : Value) (w : World) (R : Ending → World → Prop) : (fnF Go.Proofs.Tryz.prog h37 Go.Proofs.Tryz.f37 [Value.slice s1a s1n s1c, Value.slice s2a s2n s2c, eq] w R).den = f37_vc s1a s1n s1c s2a s2n s2c eq w R := by kernel_rfl
theorem f37_calls (s1a : Option Addr) (s1n : Nat) (s1c : Nat) (s2a : Option Addr) (s2n : Nat) (s2c : Nat) (eq : Value) (w : World) (R : Ending → World → Prop) (h : f37_vc s1a s1n s1c s2a s2n s2c eq w R) : Calls Go.Proofs.Tryz.prog 37 (List.toArray [Value.slice s1a s1n s1c, Value.slice s2a s2n s2c, eq]) w R :=
 fn_sound (H := h37) (fn := Go.Proofs.Tryz.f37) (by kernel_rfl) (by kernel_rfl) (by kernel_rfl) ((f37_eq s1a s1n s1c s2a s2n s2c eq w R).mpr h)

end Vcqz

/- book.Same answers whether two books are alike. -/
set_option maxRecDepth 20000
set_option maxHeartbeats 1000000
set_option linter.unusedVariables false
namespace Go.Vc.ZR
open Go Go.Vc Go.Vc.V Go.RowKit Go.Proofs Vcqz Go.Vc.ZQ

variable {w W W' : World} {gs : List Nat}

theorem succ_z (k : Nat) (h : k < 9223372036854775807) : IntKind.i64.wrap ((k : Int) + 1) = ((k + 1 : Nat) : Int) := by rw [wrap_i64 (by omega) (by omega)]; rfl
abbrev eqV (x y : Vs) : Bool := decide (x.1 = y.1)
def agQ (x y : Ag) : Bool := x.id == y.id && (eqV x.tot y.tot && eqV x.fre y.fre)
def ofQ (x y : Of) : Bool := x.id == y.id && (x.fr == y.fr && (x.ag == y.ag && (x.til == y.til && eqV x.v y.v)))
def tkQ (x y : Tk) : Bool := x.fr == y.fr && (x.id == y.id && (x.ag == y.ag && eqV x.v y.v))
def fiT (x : Fi) : ZW.TkT := (x.fr, x.ag, x.til, x.v.1)
def fiQ (x y : Fi) : Bool := ZW.aF (fiT x) (fiT y) == 0
def frQ (x y : Fr) : Bool := x.id == y.id && (x.role == y.role && (x.weight == y.weight && (x.up == y.up && (x.quiet == y.quiet && (x.time == y.time && (x.til == y.til && true))))))
/-- Two lists are alike, element by element. -/
def eqL {α : Type} (e : α → α → Bool) : List α → List α → Bool
  | [], [] => true
  | x :: l, y :: m => e x y && eqL e l m
  | _, _ => false
theorem eqL_len {α : Type} {e : α → α → Bool} : ∀ {l m : List α}, l.length ≠ m.length → eqL e l m = false
  | [], [], h => absurd rfl h
  | [], _ :: _, _ => rfl
  | _ :: _, [], _ => rfl
  | x :: l, y :: m, h => by rw [eqL, eqL_len (fun hh => h (by simp [hh])), Bool.and_false]
theorem eqL_drop {α : Type} {e : α → α → Bool} {l m : List α} {i : Nat} {x y : α} (hx : l[i]? = some x) (hy : m[i]? = some y) : eqL e (l.drop i) (m.drop i) = (e x y && eqL e (l.drop (i + 1)) (m.drop (i + 1))) := by
  rw [drop_cons hx, drop_cons hy, eqL]
theorem vs_eq {x y : Vs} (hx : VsR W x) (hy : VsR W y) : Ret Tryz.prog 28 #[vsV x, vsV y] W (.bool (eqV x y)) := ZW.c28 W hx hy
theorem vb {v : Vs} (h : VsR W v) (hb : Bel W W') : VsR W' v := h.low hb.below
theorem c27 (x y : Ag) (w : World) (hx : agOk w x) (hy : agOk w y) : Ret Tryz.prog 27 #[.agg (agV x).toArray, .agg (agV y).toArray] w (.bool (agQ x y)) := by
  intro R h
  refine f27_calls _ _ _ _ _ _ _ _ _ _ _ _ _ _ w R ?_
  unfold f27_vc
  have hA := At.refl w
  unfold agQ at h
  refine go_n hA fun n1 h1 => go_n hA fun n2 h2 => ⟨fun e => go_below hA fun w3 hA => ?_, fun e => ?_⟩
  · rw [e] at h
    refine at_callb hA (vs_eq (vb hx.2.1 hA.below) (vb hy.2.1 hA.below)) fun w5 hA hk _ => ⟨_, rfl, hk, brB (fun e => ?_) (fun e => ?_)⟩
    · rw [e] at h
      exact at_callb hA (vs_eq (vb hx.2.2 hA.below) (vb hy.2.2 hA.below)) fun w8 hA hk _ => ⟨_, rfl, hk, leaf h hA rfl⟩
    · rw [e] at h
      exact leaf h hA rfl
  · rw [e] at h
    exact go_below hA fun w10 hA => leaf h hA rfl
theorem c29 (x y : Of) (w : World) (hx : ofOk w x) (hy : ofOk w y) : Ret Tryz.prog 29 #[.agg (ofV x).toArray, .agg (ofV y).toArray] w (.bool (ofQ x y)) := by
  intro R h
  refine f29_calls _ _ _ _ _ _ _ _ _ _ _ _ _ _ w R ?_
  unfold f29_vc
  have hA := At.refl w
  unfold ofQ at h
  refine go_n hA fun n1 h1 => go_n hA fun n2 h2 => ⟨fun e => ⟨fun e2 => ⟨fun e3 => ⟨fun e4 => go_below hA fun w3 hA => ?_, fun e4 => ?_⟩, fun e3 => ?_⟩, fun e2 => ?_⟩, fun e => ?_⟩
  · rw [e, e2, e3, e4] at h
    exact at_callb hA (vs_eq (vb hx.2 hA.below) (vb hy.2 hA.below)) fun w5 hA hk _ => ⟨_, rfl, hk, leaf h hA rfl⟩
  · rw [e, e2, e3, e4] at h
    exact go_below hA fun w10 hA => leaf h hA rfl
  · rw [e, e2, e3] at h
    exact go_below hA fun w10 hA => leaf h hA rfl
  · rw [e, e2] at h
    exact go_below hA fun w10 hA => leaf h hA rfl
  · rw [e] at h
    exact go_below hA fun w10 hA => leaf h hA rfl
theorem c30 (x y : Tk) (w : World) (hx : tkOk w x) (hy : tkOk w y) : Ret Tryz.prog 30 #[.agg (tkV x).toArray, .agg (tkV y).toArray] w (.bool (tkQ x y)) := by
  intro R h
  refine f30_calls _ _ _ _ _ _ _ _ _ _ _ _ w R ?_
  unfold f30_vc
  have hA := At.refl w
  unfold tkQ at h
  refine go_n hA fun n1 h1 => go_n hA fun n2 h2 => ⟨fun e => ⟨fun e2 => ⟨fun e3 => go_below hA fun w3 hA => ?_, fun e3 => ?_⟩, fun e2 => ?_⟩, fun e => ?_⟩
  · rw [e, e2, e3] at h
    exact at_callb hA (vs_eq (vb hx.2 hA.below) (vb hy.2 hA.below)) fun w5 hA hk _ => ⟨_, rfl, hk, leaf h hA rfl⟩
  · rw [e, e2, e3] at h
    exact go_below hA fun w10 hA => leaf h hA rfl
  · rw [e, e2] at h
    exact go_below hA fun w10 hA => leaf h hA rfl
  · rw [e] at h
    exact go_below hA fun w10 hA => leaf h hA rfl
theorem c31 (x y : Fi) (w : World) (hx : fiOk w x) (hy : fiOk w y) : Ret Tryz.prog 31 #[.agg (fiV x).toArray, .agg (fiV y).toArray] w (.bool (fiQ x y)) := by
  intro R h
  refine f31_calls _ _ _ _ _ _ _ _ _ _ _ _ w R ?_
  unfold f31_vc
  have hA := At.refl w
  exact go_n hA fun n1 h1 => go_n hA fun n2 h2 => go_below hA fun w3 hA => at_callb hA (ZW.c32 (fiT x) (fiT y) w3 (vb hx.2 hA.below) (vb hy.2 hA.below)) fun w5 hA hk _ => ⟨_, rfl, hk, leaf h hA rfl⟩
theorem c34 {l1 l2 : List Ag} {a1 a2 : Option Addr} {n1 n2 c1 c2 : Nat} {fv : Value} (e : Ag → Ag → Bool) (W : World) (h1 : ∀ {W'}, Bel W W' → SlE W' 3 agV l1 a1 n1 c1) (h2 : ∀ {W'}, Bel W W' → SlE W' 3 agV l2 a2 n2 c2) (hf : ∀ W' x y, Bel W W' → x ∈ l1 → y ∈ l2 → RetI Tryz.prog fv #[.agg (agV x).toArray, .agg (agV y).toArray] W' (.bool (e x y))) : Ret Tryz.prog 34 #[.slice a1 n1 c1, .slice a2 n2 c2, fv] W (.bool (eqL e l1 l2)) := by
  intro R h
  refine f34_calls _ _ _ _ _ _ _ W R ?_
  unfold f34_vc
  have k1 := (h1 (At.refl W).below).len_le
  have k2 := (h2 (At.refl W).below).len_le
  refine brN (fun hne => ?_) (fun heq => ?_)
  · rw [eqL_len (by omega)] at h
    exact leaf h (At.refl W) rfl
  refine ⟨fun v W' => At W [] W' ∧ ∃ i : Nat, v.1 = i ∧ i ≤ l1.length ∧ eqL e l1 l2 = eqL e (l1.drop i) (l2.drop i), fun v _ => (n1 - v.1).toNat, ⟨At.refl W, 0, rfl, Nat.zero_le _, rfl⟩, ?_⟩
  rintro x3 w4 ⟨hA, i, hi, hil, hx⟩
  simp only at hi
  subst hi
  refine brD (fun hlt => ?_) (fun hge => leaf h hA ?_)
  · obtain ⟨x, hxi⟩ : ∃ x, l1[i]? = some x := ⟨_, List.getElem?_eq_getElem (by omega)⟩
    obtain ⟨y, hyi⟩ : ∃ x, l2[i]? = some x := ⟨_, List.getElem?_eq_getElem (by omega)⟩
    obtain ⟨ad, g1, el, _⟩ := elt_at (P := Tryz.prog) (k := .i64) (t := 26) (h1 hA.below) hxi (e := 45) (by kernel_rfl) (by kernel_rfl)
    obtain ⟨ad2, g2, el2, _⟩ := elt_at (P := Tryz.prog) (k := .i64) (t := 26) (h2 hA.below) hyi (e := 45) (by kernel_rfl) (by kernel_rfl)
    rw [eqL_drop hxi hyi] at hx
    refine ⟨ad, g1, _, _, _, _, _, _, _, el.agg 3 (by kernel_rfl) (by kernel_rfl) (by simp) no_ds, fun n13 h13 => ⟨ad2, g2, _, _, _, _, _, _, _, el2.agg 3 (by kernel_rfl) (by kernel_rfl) (by simp) (el2.far (by simpa using h13)), fun n22 h22 => go_evo hA (by have := hA.size; simp; omega) fun w23 hA => ?_⟩⟩
    refine at_inv hA (hf w23 x y hA.below (List.mem_of_getElem? hxi) (List.mem_of_getElem? hyi)) fun w25 hA hk _ => ⟨_, rfl, hk, brNB (fun e0 => ?_) (fun e1 => ?_)⟩
    · rw [e0, Bool.false_and] at hx
      rw [hx] at h
      exact leaf h hA rfl
    · rw [e1, Bool.true_and] at hx
      rw [succ_z i (by omega)]
      exact ⟨⟨hA.off, i + 1, rfl, by omega, hx⟩, by simp only; omega⟩
  · rw [show i = l1.length by omega, List.drop_length, show l1.length = l2.length by omega, List.drop_length] at hx
    rw [hx]
    rfl
theorem c35 {l1 l2 : List Of} {a1 a2 : Option Addr} {n1 n2 c1 c2 : Nat} {fv : Value} (e : Of → Of → Bool) (W : World) (h1 : ∀ {W'}, Bel W W' → SlE W' 5 ofV l1 a1 n1 c1) (h2 : ∀ {W'}, Bel W W' → SlE W' 5 ofV l2 a2 n2 c2) (hf : ∀ W' x y, Bel W W' → x ∈ l1 → y ∈ l2 → RetI Tryz.prog fv #[.agg (ofV x).toArray, .agg (ofV y).toArray] W' (.bool (e x y))) : Ret Tryz.prog 35 #[.slice a1 n1 c1, .slice a2 n2 c2, fv] W (.bool (eqL e l1 l2)) := by
  intro R h
  refine f35_calls _ _ _ _ _ _ _ W R ?_
  unfold f35_vc
  have k1 := (h1 (At.refl W).below).len_le
  have k2 := (h2 (At.refl W).below).len_le
  refine brN (fun hne => ?_) (fun heq => ?_)
  · rw [eqL_len (by omega)] at h
    exact leaf h (At.refl W) rfl
  refine ⟨fun v W' => At W [] W' ∧ ∃ i : Nat, v.1 = i ∧ i ≤ l1.length ∧ eqL e l1 l2 = eqL e (l1.drop i) (l2.drop i), fun v _ => (n1 - v.1).toNat, ⟨At.refl W, 0, rfl, Nat.zero_le _, rfl⟩, ?_⟩
  rintro x3 w4 ⟨hA, i, hi, hil, hx⟩
  simp only at hi
  subst hi
  refine brD (fun hlt => ?_) (fun hge => leaf h hA ?_)
  · obtain ⟨x, hxi⟩ : ∃ x, l1[i]? = some x := ⟨_, List.getElem?_eq_getElem (by omega)⟩
    obtain ⟨y, hyi⟩ : ∃ x, l2[i]? = some x := ⟨_, List.getElem?_eq_getElem (by omega)⟩
    obtain ⟨ad, g1, el, _⟩ := elt_at (P := Tryz.prog) (k := .i64) (t := 27) (h1 hA.below) hxi (e := 47) (by kernel_rfl) (by kernel_rfl)
    obtain ⟨ad2, g2, el2, _⟩ := elt_at (P := Tryz.prog) (k := .i64) (t := 27) (h2 hA.below) hyi (e := 47) (by kernel_rfl) (by kernel_rfl)
    rw [eqL_drop hxi hyi] at hx
    refine ⟨ad, g1, _, _, _, _, _, _, _, el.agg 5 (by kernel_rfl) (by kernel_rfl) (by simp) no_ds, fun n13 h13 => ⟨ad2, g2, _, _, _, _, _, _, _, el2.agg 5 (by kernel_rfl) (by kernel_rfl) (by simp) (el2.far (by simpa using h13)), fun n22 h22 => go_evo hA (by have := hA.size; simp; omega) fun w23 hA => ?_⟩⟩
    refine at_inv hA (hf w23 x y hA.below (List.mem_of_getElem? hxi) (List.mem_of_getElem? hyi)) fun w25 hA hk _ => ⟨_, rfl, hk, brNB (fun e0 => ?_) (fun e1 => ?_)⟩
    · rw [e0, Bool.false_and] at hx
      rw [hx] at h
      exact leaf h hA rfl
    · rw [e1, Bool.true_and] at hx
      rw [succ_z i (by omega)]
      exact ⟨⟨hA.off, i + 1, rfl, by omega, hx⟩, by simp only; omega⟩
  · rw [show i = l1.length by omega, List.drop_length, show l1.length = l2.length by omega, List.drop_length] at hx
    rw [hx]
    rfl
theorem c36 {l1 l2 : List Tk} {a1 a2 : Option Addr} {n1 n2 c1 c2 : Nat} {fv : Value} (e : Tk → Tk → Bool) (W : World) (h1 : ∀ {W'}, Bel W W' → SlE W' 4 tkV l1 a1 n1 c1) (h2 : ∀ {W'}, Bel W W' → SlE W' 4 tkV l2 a2 n2 c2) (hf : ∀ W' x y, Bel W W' → x ∈ l1 → y ∈ l2 → RetI Tryz.prog fv #[.agg (tkV x).toArray, .agg (tkV y).toArray] W' (.bool (e x y))) : Ret Tryz.prog 36 #[.slice a1 n1 c1, .slice a2 n2 c2, fv] W (.bool (eqL e l1 l2)) := by
  intro R h
  refine f36_calls _ _ _ _ _ _ _ W R ?_
  unfold f36_vc
  have k1 := (h1 (At.refl W).below).len_le
  have k2 := (h2 (At.refl W).below).len_le
  refine brN (fun hne => ?_) (fun heq => ?_)
  · rw [eqL_len (by omega)] at h
    exact leaf h (At.refl W) rfl
  refine ⟨fun v W' => At W [] W' ∧ ∃ i : Nat, v.1 = i ∧ i ≤ l1.length ∧ eqL e l1 l2 = eqL e (l1.drop i) (l2.drop i), fun v _ => (n1 - v.1).toNat, ⟨At.refl W, 0, rfl, Nat.zero_le _, rfl⟩, ?_⟩
  rintro x3 w4 ⟨hA, i, hi, hil, hx⟩
  simp only at hi
  subst hi
  refine brD (fun hlt => ?_) (fun hge => leaf h hA ?_)
  · obtain ⟨x, hxi⟩ : ∃ x, l1[i]? = some x := ⟨_, List.getElem?_eq_getElem (by omega)⟩
    obtain ⟨y, hyi⟩ : ∃ x, l2[i]? = some x := ⟨_, List.getElem?_eq_getElem (by omega)⟩
    obtain ⟨ad, g1, el, _⟩ := elt_at (P := Tryz.prog) (k := .i64) (t := 28) (h1 hA.below) hxi (e := 49) (by kernel_rfl) (by kernel_rfl)
    obtain ⟨ad2, g2, el2, _⟩ := elt_at (P := Tryz.prog) (k := .i64) (t := 28) (h2 hA.below) hyi (e := 49) (by kernel_rfl) (by kernel_rfl)
    rw [eqL_drop hxi hyi] at hx
    refine ⟨ad, g1, _, _, _, _, _, _, el.agg 4 (by kernel_rfl) (by kernel_rfl) (by simp) no_ds, fun n13 h13 => ⟨ad2, g2, _, _, _, _, _, _, el2.agg 4 (by kernel_rfl) (by kernel_rfl) (by simp) (el2.far (by simpa using h13)), fun n22 h22 => go_evo hA (by have := hA.size; simp; omega) fun w23 hA => ?_⟩⟩
    refine at_inv hA (hf w23 x y hA.below (List.mem_of_getElem? hxi) (List.mem_of_getElem? hyi)) fun w25 hA hk _ => ⟨_, rfl, hk, brNB (fun e0 => ?_) (fun e1 => ?_)⟩
    · rw [e0, Bool.false_and] at hx
      rw [hx] at h
      exact leaf h hA rfl
    · rw [e1, Bool.true_and] at hx
      rw [succ_z i (by omega)]
      exact ⟨⟨hA.off, i + 1, rfl, by omega, hx⟩, by simp only; omega⟩
  · rw [show i = l1.length by omega, List.drop_length, show l1.length = l2.length by omega, List.drop_length] at hx
    rw [hx]
    rfl
theorem c37 {l1 l2 : List Fi} {a1 a2 : Option Addr} {n1 n2 c1 c2 : Nat} {fv : Value} (e : Fi → Fi → Bool) (W : World) (h1 : ∀ {W'}, Bel W W' → SlE W' 4 fiV l1 a1 n1 c1) (h2 : ∀ {W'}, Bel W W' → SlE W' 4 fiV l2 a2 n2 c2) (hf : ∀ W' x y, Bel W W' → x ∈ l1 → y ∈ l2 → RetI Tryz.prog fv #[.agg (fiV x).toArray, .agg (fiV y).toArray] W' (.bool (e x y))) : Ret Tryz.prog 37 #[.slice a1 n1 c1, .slice a2 n2 c2, fv] W (.bool (eqL e l1 l2)) := by
  intro R h
  refine f37_calls _ _ _ _ _ _ _ W R ?_
  unfold f37_vc
  have k1 := (h1 (At.refl W).below).len_le
  have k2 := (h2 (At.refl W).below).len_le
  refine brN (fun hne => ?_) (fun heq => ?_)
  · rw [eqL_len (by omega)] at h
    exact leaf h (At.refl W) rfl
  refine ⟨fun v W' => At W [] W' ∧ ∃ i : Nat, v.1 = i ∧ i ≤ l1.length ∧ eqL e l1 l2 = eqL e (l1.drop i) (l2.drop i), fun v _ => (n1 - v.1).toNat, ⟨At.refl W, 0, rfl, Nat.zero_le _, rfl⟩, ?_⟩
  rintro x3 w4 ⟨hA, i, hi, hil, hx⟩
  simp only at hi
  subst hi
  refine brD (fun hlt => ?_) (fun hge => leaf h hA ?_)
  · obtain ⟨x, hxi⟩ : ∃ x, l1[i]? = some x := ⟨_, List.getElem?_eq_getElem (by omega)⟩
    obtain ⟨y, hyi⟩ : ∃ x, l2[i]? = some x := ⟨_, List.getElem?_eq_getElem (by omega)⟩
    obtain ⟨ad, g1, el, _⟩ := elt_at (P := Tryz.prog) (k := .i64) (t := 29) (h1 hA.below) hxi (e := 51) (by kernel_rfl) (by kernel_rfl)
    obtain ⟨ad2, g2, el2, _⟩ := elt_at (P := Tryz.prog) (k := .i64) (t := 29) (h2 hA.below) hyi (e := 51) (by kernel_rfl) (by kernel_rfl)
    rw [eqL_drop hxi hyi] at hx
    refine ⟨ad, g1, _, _, _, _, _, _, el.agg 4 (by kernel_rfl) (by kernel_rfl) (by simp) no_ds, fun n13 h13 => ⟨ad2, g2, _, _, _, _, _, _, el2.agg 4 (by kernel_rfl) (by kernel_rfl) (by simp) (el2.far (by simpa using h13)), fun n22 h22 => go_evo hA (by have := hA.size; simp; omega) fun w23 hA => ?_⟩⟩
    refine at_inv hA (hf w23 x y hA.below (List.mem_of_getElem? hxi) (List.mem_of_getElem? hyi)) fun w25 hA hk _ => ⟨_, rfl, hk, brNB (fun e0 => ?_) (fun e1 => ?_)⟩
    · rw [e0, Bool.false_and] at hx
      rw [hx] at h
      exact leaf h hA rfl
    · rw [e1, Bool.true_and] at hx
      rw [succ_z i (by omega)]
      exact ⟨⟨hA.off, i + 1, rfl, by omega, hx⟩, by simp only; omega⟩
  · rw [show i = l1.length by omega, List.drop_length, show l1.length = l2.length by omega, List.drop_length] at hx
    rw [hx]
    rfl
end Go.Vc.ZR

/- Plain: what is joined by a byte that no word holds reads back. -/
set_option linter.unusedVariables false
namespace Go.Vc.ZQ
/-- Cut at the first c. -/
theorem cut_eq {α : Type} {c : α} {x y r s : List α} (hx : c ∉ x) (hy : c ∉ y) (h : x ++ c :: r = y ++ c :: s) : x = y ∧ r = s := by
  induction x generalizing y with
  | nil =>
    cases y with
    | nil => simpa using h
    | cons b y =>
      simp only [List.nil_append, List.cons_append, List.cons.injEq] at h
      exact absurd (h.1 ▸ List.mem_cons_self ..) hy
  | cons a x ih =>
    cases y with
    | nil =>
      simp only [List.nil_append, List.cons_append, List.cons.injEq] at h
      exact absurd (h.1 ▸ List.mem_cons_self ..) hx
    | cons b y =>
      simp only [List.cons_append, List.cons.injEq] at h
      obtain ⟨e1, e2⟩ := ih (fun hh => hx (List.mem_cons_of_mem _ hh)) (fun hh => hy (List.mem_cons_of_mem _ hh)) h.2
      exact ⟨by rw [h.1, e1], e2⟩
/-- Lines, each with c behind. -/
def lns {α : Type} (c : α) : List (List α) → List α
  | [] => []
  | x :: l => x ++ c :: lns c l
theorem lns_append {α : Type} (c : α) : ∀ l m : List (List α), lns c (l ++ m) = lns c l ++ lns c m
  | [], m => rfl
  | x :: l, m => by
    show x ++ c :: lns c (l ++ m) = (x ++ c :: lns c l) ++ lns c m
    rw [lns_append c l m]
    simp
theorem lns_inj {α : Type} {c : α} : ∀ {l m : List (List α)}, (∀ x ∈ l, c ∉ x) → (∀ x ∈ m, c ∉ x) → lns c l = lns c m → l = m
  | [], [], _, _, _ => rfl
  | [], y :: m, _, _, h => by
    have := congrArg List.length h
    simp [lns] at this
  | x :: l, [], _, _, h => by
    have := congrArg List.length h
    simp [lns] at this
  | x :: l, y :: m, hl, hm, h => by
    obtain ⟨e1, e2⟩ := cut_eq (hl x (List.mem_cons_self ..)) (hm y (List.mem_cons_self ..)) h
    rw [e1, lns_inj (fun z hz => hl z (List.mem_cons_of_mem _ hz)) (fun z hz => hm z (List.mem_cons_of_mem _ hz)) e2]
end Go.Vc.ZQ

/- Plain: joined words read back. -/
set_option linter.unusedVariables false
namespace Go.Vc.ZQ
open Go
theorem lns_join (c : UInt8) : ∀ (x : List UInt8) (r : List (List UInt8)), Lib.join (x :: r) [c] ++ [c] = lns c (x :: r)
  | x, [] => by
    rw [Lib.join_one]
    rfl
  | x, y :: r => by
    have ih := lns_join c y r
    show _ = x ++ c :: lns c (y :: r)
    rw [← ih, Lib.join_cons, Lib.join_cons]
    simp [Lib.joinTail]
theorem join_inj {c : UInt8} {l m : List (List UInt8)} (h1 : l ≠ []) (h2 : m ≠ []) (hl : ∀ x ∈ l, c ∉ x) (hm : ∀ x ∈ m, c ∉ x) (h : Lib.join l [c] = Lib.join m [c]) : l = m := by
  cases l with
  | nil => exact absurd rfl h1
  | cons x l =>
    cases m with
    | nil => exact absurd rfl h2
    | cons y m =>
      refine lns_inj hl hm ?_
      rw [← lns_join, ← lns_join, h]
end Go.Vc.ZQ

/- Plain: a number's text tells it, and holds no blank and no end of line. -/
set_option linter.unusedVariables false
namespace Go.Vc.ZQ
open Go
def valD (l : List UInt8) : Nat := l.foldl (fun a x => a * 10 + (x.toNat - 48)) 0
theorem ofNat_toNat {n : Nat} (h : n < 256) : (UInt8.ofNat n).toNat = n := by
  rw [UInt8.toNat_ofNat']
  omega
theorem valD_dig : ∀ u : Nat, valD (Lib.decDigits u) = u := fun u => by
  induction u using Nat.strongRecOn with
  | _ u ih =>
    rw [Lib.decDigits]
    by_cases h : u < 10
    · rw [dif_pos h]
      show 0 * 10 + ((UInt8.ofNat (48 + u)).toNat - 48) = u
      rw [ofNat_toNat (by omega)]
      omega
    · rw [dif_neg h]
      unfold valD
      rw [List.foldl_append]
      have := ih (u / 10) (by omega)
      unfold valD at this
      rw [this]
      show u / 10 * 10 + ((UInt8.ofNat (48 + u % 10)).toNat - 48) = u
      rw [ofNat_toNat (by omega)]
      omega
theorem dig_byte : ∀ u : Nat, ∀ x ∈ Lib.decDigits u, 48 ≤ x.toNat ∧ x.toNat ≤ 57 := fun u => by
  induction u using Nat.strongRecOn with
  | _ u ih =>
    intro x hx
    rw [Lib.decDigits] at hx
    by_cases h : u < 10
    · rw [dif_pos h] at hx
      rw [List.mem_singleton.1 hx, ofNat_toNat (by omega)]
      omega
    · rw [dif_neg h] at hx
      rcases List.mem_append.1 hx with hx | hx
      · exact ih (u / 10) (by omega) x hx
      · rw [List.mem_singleton.1 hx, ofNat_toNat (by omega)]
        omega
theorem dig_ne (u : Nat) : Lib.decDigits u ≠ [] := by
  rw [Lib.decDigits]
  split <;> simp
theorem dig_head (u v : Nat) (r : List UInt8) (h : Lib.decDigits u = 45 :: r) : False := by
  have := (dig_byte u 45 (by rw [h]; exact List.mem_cons_self ..)).1
  revert this
  decide
theorem itoa_inj {x y : Int} (h : Lib.itoa x = Lib.itoa y) : x = y := by
  unfold Lib.itoa at h
  by_cases hx : x < 0 <;> by_cases hy : y < 0
  · rw [if_pos hx, if_pos hy] at h
    have := congrArg valD (List.cons.inj h).2
    rw [valD_dig, valD_dig] at this
    omega
  · rw [if_pos hx, if_neg hy] at h
    exact (dig_head _ 0 _ h.symm).elim
  · rw [if_neg hx, if_pos hy] at h
    exact (dig_head _ 0 _ h).elim
  · rw [if_neg hx, if_neg hy] at h
    have := congrArg valD h
    rw [valD_dig, valD_dig] at this
    omega
theorem itoa_byte {n : Int} {x : UInt8} (h : x ∈ Lib.itoa n) : 45 ≤ x.toNat := by
  unfold Lib.itoa at h
  split at h
  · rcases List.mem_cons.1 h with rfl | h
    · decide
    · have := (dig_byte _ x h).1
      omega
  · have := (dig_byte _ x h).1
    omega
end Go.Vc.ZQ

/- Tell: the lines of a book. -/
set_option maxRecDepth 20000
set_option maxHeartbeats 2000000
set_option linter.unusedVariables false
namespace Go.Vc.ZQ
open Go Go.Vc Go.Vc.V Go.RowKit Go.Proofs Vcqz

variable {w W W' W1 : World} {gs ds : List Nat} {n : Int} {a : Option Addr} {ln lc c : Nat} {L : List ByteArray}
theorem jn_y (h : L ≠ []) (y : ByteArray) : jnB L ++ bs [32] ++ y = jnB (L ++ [y]) := (jnB_snoc h y).symm
def txt (p : ByteArray) (ls : List (List ByteArray)) : ByteArray := ls.foldl (fun s l => s ++ nl (jnB l)) p
theorem txt_snoc (p : ByteArray) (ls : List (List ByteArray)) (l : List ByteArray) : txt p (ls ++ [l]) = txt p ls ++ nl (jnB l) := by
  unfold txt
  rw [List.foldl_append]
  rfl
theorem take_map {α : Type} {l : List α} {i : Nat} {r : α} (h : l[i]? = some r) (f : α → List ByteArray) : (l.take (i + 1)).map f = (l.take i).map f ++ [f r] := by
  rw [List.take_add_one, h, Option.toList_some, List.map_append]
  rfl
theorem now_j (x y : Int) : ByteArray.mk #[110, 111, 119, 32] ++ numB x ++ ByteArray.mk #[32, 108, 97, 115, 116, 32] ++ numB y ++ ByteArray.mk #[10] = nl (jnB (nowL x y)) := by
  have k1 := jn_first [110, 111, 119] (numB x)
  have k2 := jn_two' (L := [bs [110, 111, 119], numB x]) (by simp) [108, 97, 115, 116] (numB y)
  rw [show ByteArray.mk #[110, 111, 119, 32] = bs ([110, 111, 119] ++ [32]) from rfl, show ByteArray.mk #[32, 108, 97, 115, 116, 32] = bs ([32] ++ [108, 97, 115, 116] ++ [32]) from rfl, k1, k2]
  rfl
noncomputable def agL (x : Ag) : List ByteArray := [bs [97, 103, 101, 110, 116], numB x.id, bs [116, 111, 116, 97, 108], vecT x.tot.1, bs [102, 114, 101, 101], vecT x.fre.1]
theorem ag_j (x : Ag) : ByteArray.mk #[97, 103, 101, 110, 116, 32] ++ numB x.id ++ ByteArray.mk #[32, 116, 111, 116, 97, 108, 32] ++ vecT x.tot.1 ++ ByteArray.mk #[32, 102, 114, 101, 101, 32] ++ vecT x.fre.1 = jnB (agL x) := by
  have k0 := jn_first [97, 103, 101, 110, 116] (numB x.id)
  have k1 := jn_two' (L := [bs [97, 103, 101, 110, 116], numB x.id]) (by simp) [116, 111, 116, 97, 108] (vecT x.tot.1)
  have k2 := jn_two' (L := [bs [97, 103, 101, 110, 116], numB x.id] ++ [bs [116, 111, 116, 97, 108], vecT x.tot.1]) (by simp) [102, 114, 101, 101] (vecT x.fre.1)
  rw [show ByteArray.mk #[97, 103, 101, 110, 116, 32] = bs ([97, 103, 101, 110, 116] ++ [32]) from rfl, show ByteArray.mk #[32, 116, 111, 116, 97, 108, 32] = bs ([32] ++ [116, 111, 116, 97, 108] ++ [32]) from rfl, show ByteArray.mk #[32, 102, 114, 101, 101, 32] = bs ([32] ++ [102, 114, 101, 101] ++ [32]) from rfl, k0, k1, k2]
  rfl
theorem ag_s (s : ByteArray) (x : Ag) : s ++ ByteArray.mk #[97, 103, 101, 110, 116, 32] ++ numB x.id ++ ByteArray.mk #[32, 116, 111, 116, 97, 108, 32] ++ vecT x.tot.1 ++ ByteArray.mk #[32, 102, 114, 101, 101, 32] ++ vecT x.fre.1 ++ ByteArray.mk #[10] = s ++ nl (jnB (agL x)) := by
  rw [← ag_j]
  show _ = s ++ (_ ++ ByteArray.mk #[10])
  simp only [ByteArray.append_assoc]
noncomputable def ofB (x : Of) : List ByteArray := [bs [111, 102, 102, 101, 114], numB x.id, bs [102, 114, 97, 109, 101], numB x.fr, bs [97, 103, 101, 110, 116], numB x.ag, vecT x.v.1]
noncomputable def ofL (x : Of) : List ByteArray := ofB x ++ (if (x.til != 0) = true then [bs [117, 110, 116, 105, 108], numB x.til] else [])
theorem of_j (x : Of) : ByteArray.mk #[111, 102, 102, 101, 114, 32] ++ numB x.id ++ ByteArray.mk #[32, 102, 114, 97, 109, 101, 32] ++ numB x.fr ++ ByteArray.mk #[32, 97, 103, 101, 110, 116, 32] ++ numB x.ag ++ ByteArray.mk #[32] ++ vecT x.v.1 = jnB (ofB x) := by
  have k0 := jn_first [111, 102, 102, 101, 114] (numB x.id)
  have k1 := jn_two' (L := [bs [111, 102, 102, 101, 114], numB x.id]) (by simp) [102, 114, 97, 109, 101] (numB x.fr)
  have k2 := jn_two' (L := [bs [111, 102, 102, 101, 114], numB x.id] ++ [bs [102, 114, 97, 109, 101], numB x.fr]) (by simp) [97, 103, 101, 110, 116] (numB x.ag)
  have k3 := jn_y (L := [bs [111, 102, 102, 101, 114], numB x.id] ++ [bs [102, 114, 97, 109, 101], numB x.fr] ++ [bs [97, 103, 101, 110, 116], numB x.ag]) (by simp) (vecT x.v.1)
  rw [show ByteArray.mk #[111, 102, 102, 101, 114, 32] = bs ([111, 102, 102, 101, 114] ++ [32]) from rfl, show ByteArray.mk #[32, 102, 114, 97, 109, 101, 32] = bs ([32] ++ [102, 114, 97, 109, 101] ++ [32]) from rfl, show ByteArray.mk #[32, 97, 103, 101, 110, 116, 32] = bs ([32] ++ [97, 103, 101, 110, 116] ++ [32]) from rfl, show ByteArray.mk #[32] = bs [32] from rfl, k0, k1, k2, k3]
  rfl
theorem of_u (x : Of) : ByteArray.mk #[111, 102, 102, 101, 114, 32] ++ numB x.id ++ ByteArray.mk #[32, 102, 114, 97, 109, 101, 32] ++ numB x.fr ++ ByteArray.mk #[32, 97, 103, 101, 110, 116, 32] ++ numB x.ag ++ ByteArray.mk #[32] ++ vecT x.v.1 ++ ByteArray.mk #[32, 117, 110, 116, 105, 108, 32] ++ numB x.til = jnB (ofB x ++ [bs [117, 110, 116, 105, 108], numB x.til]) := by
  rw [of_j]
  exact jn_two' (by unfold ofB; simp) [117, 110, 116, 105, 108] (numB x.til)
theorem of_s1 (s : ByteArray) (x : Of) (h : (x.til != 0) = true) : s ++ ByteArray.mk #[111, 102, 102, 101, 114, 32] ++ numB x.id ++ ByteArray.mk #[32, 102, 114, 97, 109, 101, 32] ++ numB x.fr ++ ByteArray.mk #[32, 97, 103, 101, 110, 116, 32] ++ numB x.ag ++ ByteArray.mk #[32] ++ vecT x.v.1 ++ ByteArray.mk #[32, 117, 110, 116, 105, 108, 32] ++ numB x.til ++ ByteArray.mk #[10] = s ++ nl (jnB (ofL x)) := by
  unfold ofL
  rw [if_pos h, ← of_u]
  show _ = s ++ (_ ++ ByteArray.mk #[10])
  simp only [ByteArray.append_assoc]
theorem of_s0 (s : ByteArray) (x : Of) (h : (x.til != 0) = false) : s ++ ByteArray.mk #[111, 102, 102, 101, 114, 32] ++ numB x.id ++ ByteArray.mk #[32, 102, 114, 97, 109, 101, 32] ++ numB x.fr ++ ByteArray.mk #[32, 97, 103, 101, 110, 116, 32] ++ numB x.ag ++ ByteArray.mk #[32] ++ vecT x.v.1 ++ ByteArray.mk #[10] = s ++ nl (jnB (ofL x)) := by
  unfold ofL
  rw [if_neg (by rw [h]; decide), List.append_nil, ← of_j]
  show _ = s ++ (_ ++ ByteArray.mk #[10])
  simp only [ByteArray.append_assoc]
noncomputable def tkL (x : Tk) : List ByteArray := [bs [116, 97, 115, 107], numB x.fr, numB x.id, bs [97, 103, 101, 110, 116], numB x.ag, vecT x.v.1]
theorem tk_j (x : Tk) : ByteArray.mk #[116, 97, 115, 107, 32] ++ numB x.fr ++ ByteArray.mk #[32] ++ numB x.id ++ ByteArray.mk #[32, 97, 103, 101, 110, 116, 32] ++ numB x.ag ++ ByteArray.mk #[32] ++ vecT x.v.1 = jnB (tkL x) := by
  have k0 := jn_first [116, 97, 115, 107] (numB x.fr)
  have k1 := jn_y (L := [bs [116, 97, 115, 107], numB x.fr]) (by simp) (numB x.id)
  have k2 := jn_two' (L := [bs [116, 97, 115, 107], numB x.fr] ++ [numB x.id]) (by simp) [97, 103, 101, 110, 116] (numB x.ag)
  have k3 := jn_y (L := [bs [116, 97, 115, 107], numB x.fr] ++ [numB x.id] ++ [bs [97, 103, 101, 110, 116], numB x.ag]) (by simp) (vecT x.v.1)
  rw [show ByteArray.mk #[116, 97, 115, 107, 32] = bs ([116, 97, 115, 107] ++ [32]) from rfl, show ByteArray.mk #[32] = bs [32] from rfl, show ByteArray.mk #[32, 97, 103, 101, 110, 116, 32] = bs ([32] ++ [97, 103, 101, 110, 116] ++ [32]) from rfl, k0, k1, k2, k3]
  rfl
theorem tk_s (s : ByteArray) (x : Tk) : s ++ ByteArray.mk #[116, 97, 115, 107, 32] ++ numB x.fr ++ ByteArray.mk #[32] ++ numB x.id ++ ByteArray.mk #[32, 97, 103, 101, 110, 116, 32] ++ numB x.ag ++ ByteArray.mk #[32] ++ vecT x.v.1 ++ ByteArray.mk #[10] = s ++ nl (jnB (tkL x)) := by
  rw [← tk_j]
  show _ = s ++ (_ ++ ByteArray.mk #[10])
  simp only [ByteArray.append_assoc]
noncomputable def fiL (x : Fi) : List ByteArray := [bs [102, 105, 108, 116, 101, 114], numB x.fr, bs [97, 103, 101, 110, 116], numB x.ag, bs [117, 110, 116, 105, 108], numB x.til, vecT x.v.1]
theorem fi_j (x : Fi) : ByteArray.mk #[102, 105, 108, 116, 101, 114, 32] ++ numB x.fr ++ ByteArray.mk #[32, 97, 103, 101, 110, 116, 32] ++ numB x.ag ++ ByteArray.mk #[32, 117, 110, 116, 105, 108, 32] ++ numB x.til ++ ByteArray.mk #[32] ++ vecT x.v.1 = jnB (fiL x) := by
  have k0 := jn_first [102, 105, 108, 116, 101, 114] (numB x.fr)
  have k1 := jn_two' (L := [bs [102, 105, 108, 116, 101, 114], numB x.fr]) (by simp) [97, 103, 101, 110, 116] (numB x.ag)
  have k2 := jn_two' (L := [bs [102, 105, 108, 116, 101, 114], numB x.fr] ++ [bs [97, 103, 101, 110, 116], numB x.ag]) (by simp) [117, 110, 116, 105, 108] (numB x.til)
  have k3 := jn_y (L := [bs [102, 105, 108, 116, 101, 114], numB x.fr] ++ [bs [97, 103, 101, 110, 116], numB x.ag] ++ [bs [117, 110, 116, 105, 108], numB x.til]) (by simp) (vecT x.v.1)
  rw [show ByteArray.mk #[102, 105, 108, 116, 101, 114, 32] = bs ([102, 105, 108, 116, 101, 114] ++ [32]) from rfl, show ByteArray.mk #[32, 97, 103, 101, 110, 116, 32] = bs ([32] ++ [97, 103, 101, 110, 116] ++ [32]) from rfl, show ByteArray.mk #[32, 117, 110, 116, 105, 108, 32] = bs ([32] ++ [117, 110, 116, 105, 108] ++ [32]) from rfl, show ByteArray.mk #[32] = bs [32] from rfl, k0, k1, k2, k3]
  rfl
theorem fi_s (s : ByteArray) (x : Fi) : s ++ ByteArray.mk #[102, 105, 108, 116, 101, 114, 32] ++ numB x.fr ++ ByteArray.mk #[32, 97, 103, 101, 110, 116, 32] ++ numB x.ag ++ ByteArray.mk #[32, 117, 110, 116, 105, 108, 32] ++ numB x.til ++ ByteArray.mk #[32] ++ vecT x.v.1 ++ ByteArray.mk #[10] = s ++ nl (jnB (fiL x)) := by
  rw [← fi_j]
  show _ = s ++ (_ ++ ByteArray.mk #[10])
  simp only [ByteArray.append_assoc]
noncomputable def bk0 (b : Bk) : ByteArray := nl (jnB (nowL b.now b.last))
noncomputable def bk1 (b : Bk) : ByteArray := txt (bk0 b) (b.fs.map frL)
noncomputable def bk2 (b : Bk) : ByteArray := txt (bk1 b) (b.ags.map agL)
noncomputable def bk3 (b : Bk) : ByteArray := txt (bk2 b) (b.os.map ofL)
noncomputable def bk4 (b : Bk) : ByteArray := txt (bk3 b) (b.ts.map tkL)
noncomputable def bkT (b : Bk) : ByteArray := txt (bk4 b) (b.fis.map fiL)
theorem ag_z {x : Ag} (h0 : I64 x.id) : (jnB (agL x)).size ≤ 600000 := by
  have hz := jnB_size (agL x)
  have z0 := num_len h0
  have v0 := vec_size x.tot.1
  have v1 := vec_size x.fre.1
  refine Nat.le_trans hz ?_
  unfold agL
  simp [bs_size]
  omega
theorem of_z {x : Of} (h0 : I64 x.id) (h1 : I64 x.fr) (h2 : I64 x.ag) (h3 : I64 x.til) : (jnB (ofL x)).size ≤ 600000 := by
  have hz := jnB_size (ofL x)
  have z0 := num_len h0
  have z1 := num_len h1
  have z2 := num_len h2
  have z3 := num_len h3
  have v0 := vec_size x.v.1
  refine Nat.le_trans hz ?_
  unfold ofL ofB
  split <;> simp [bs_size] <;> omega
theorem tk_z {x : Tk} (h0 : I64 x.fr) (h1 : I64 x.id) (h2 : I64 x.ag) : (jnB (tkL x)).size ≤ 600000 := by
  have hz := jnB_size (tkL x)
  have z0 := num_len h0
  have z1 := num_len h1
  have z2 := num_len h2
  have v0 := vec_size x.v.1
  refine Nat.le_trans hz ?_
  unfold tkL
  simp [bs_size]
  omega
theorem fi_z {x : Fi} (h0 : I64 x.fr) (h1 : I64 x.ag) (h2 : I64 x.til) : (jnB (fiL x)).size ≤ 600000 := by
  have hz := jnB_size (fiL x)
  have z0 := num_len h0
  have z1 := num_len h1
  have z2 := num_len h2
  have v0 := vec_size x.v.1
  refine Nat.le_trans hz ?_
  unfold fiL
  simp [bs_size]
  omega
theorem fr_z {x : Fr} (h : FrI x) : (jnB (frL x)).size ≤ 600000 := by
  have hz := jnB_size (frL x)
  have z0 := num_len h.id
  have z1 := num_len h.role
  have z2 := num_len h.weight
  have z3 := num_len h.til
  refine Nat.le_trans hz ?_
  unfold frL frB
  split <;> split <;> simp [bs_size] <;> omega
theorem nl_size (s : ByteArray) : (nl s).size = s.size + 1 := by
  unfold nl
  rw [ap_size, bs_size]
  rfl
end Go.Vc.ZQ

/- Plain: a vector's text holds no blank and no end of line. -/
set_option linter.unusedVariables false
namespace Go.Vc.ZQ
open Go Go.Vc Go.Vc.V
/-- No byte at most 32. -/
def big (s : ByteArray) : Prop := ∀ x ∈ s.data.toList, 33 ≤ x.toNat
theorem big_app {s t : ByteArray} (hs : big s) (ht : big t) : big (s ++ t) := by
  intro x hx
  rw [show (s ++ t).data.toList = s.data.toList ++ t.data.toList by simp] at hx
  rcases List.mem_append.1 hx with h | h
  · exact hs x h
  · exact ht x h
theorem big_mk {l : List UInt8} (h : ∀ x ∈ l, 33 ≤ x.toNat) : big ⟨l.toArray⟩ := by
  intro x hx
  exact h x (by simpa using hx)
theorem big_nums {l : List Int} (h : ∀ x ∈ l, 33 ≤ x ∧ x ≤ 255) : big (strOfNums l) := by
  intro x hx
  unfold strOfNums at hx
  simp at hx
  obtain ⟨y, hy, rfl⟩ := hx
  have := h y hy
  rw [ofNat_toNat (by omega)]
  omega
theorem big_num (n : Int) : big (numB n) := big_mk fun x hx => by have := itoa_byte hx; omega
theorem strip_mem {l : List Int} {x : Int} (h : x ∈ strip l) : x ∈ l := by
  unfold strip at h
  have := List.dropWhile_sublist (p := (· == (48 : Int))) (l := l.reverse)
  simp at h
  exact List.mem_reverse.1 (this.subset (by simpa using h))
theorem big_txt (n : Int) : big (strOfNums (txtL n)) := by
  refine big_nums fun x hx => ?_
  unfold txtL at hx
  split at hx
  · split at hx
    · have := decL_byte _ _ (by omega) x hx
      omega
    · have hm := strip_mem hx
      rcases List.mem_append.1 hm with hm | hm
      · rcases List.mem_append.1 hm with hm | hm
        · have := decL_byte _ _ (by omega) x hm
          omega
        · rw [List.mem_singleton.1 hm]
          omega
      · have := decL_byte _ _ (by omega) x hm
        omega
  · cases hx
theorem big_nm (k : Int) : big (nmOf k) := by
  unfold nmOf
  split
  · rename_i h
    have : ∀ s ∈ nms, ∀ x ∈ s.data.toList, 33 ≤ x.toNat := by decide
    cases hk : nms[k.toNat]? with
    | none => intro x hx; cases hx
    | some s => exact this s (List.mem_of_getElem? hk)
  · intro x hx
    cases hx
theorem big_dec (n : Int) (h : 0 ≤ n) : big (strOfNums (decL n 1)) := big_nums fun x hx => by
  have := decL_byte _ _ h x hx
  omega
theorem big_stext (k r : Int) : big (stext k r) := by
  unfold stext
  split
  · rename_i h
    split
    · exact big_nm k
    · have hr : 0 ≤ r := by
        unfold slotR at h
        omega
      refine big_app (big_app (big_app (big_nm k) ?_) (big_dec r hr)) ?_
      · intro x hx
        simp at hx
        subst hx
        decide
      · intro x hx
        simp at hx
        subst hx
        decide
  · intro x hx
    cases hx
theorem big_word (p : PartT) : big (wordB p) := by
  unfold wordB
  refine big_app (big_app (big_stext _ _) ?_) (big_txt _)
  intro x hx
  simp at hx
  subst hx
  decide
theorem join_mem {c x : UInt8} : ∀ {l : List (List UInt8)}, x ∈ Lib.join l [c] → x = c ∨ ∃ w ∈ l, x ∈ w
  | [], h => by cases h
  | w :: r, h => by
    rw [Lib.join_cons] at h
    rcases List.mem_append.1 h with h | h
    · exact .inr ⟨w, List.mem_cons_self .., h⟩
    · unfold Lib.joinTail at h
      obtain ⟨y, hy, hx⟩ := List.mem_flatten.1 h
      obtain ⟨z, hz, rfl⟩ := List.mem_map.1 hy
      rcases List.mem_append.1 hx with hx | hx
      · exact .inl (List.mem_singleton.1 hx)
      · exact .inr ⟨z, List.mem_cons_of_mem _ hz, hx⟩
theorem big_vec (l : List PartT) : big (vecT l) := by
  unfold vecT
  by_cases hv : vecB l = true
  · rw [if_pos hv]
    unfold vtext
    rw [if_pos hv]
    split
    · intro x hx
      simp at hx
      subst hx
      decide
    · refine big_mk fun x hx => ?_
      rcases join_mem hx with rfl | ⟨w, hw, hx⟩
      · decide
      · obtain ⟨p, _, rfl⟩ := List.mem_map.1 hw
        exact big_word p x hx
  · rw [if_neg hv]
    refine big_mk (l := [63]) fun x hx => ?_
    rw [List.mem_singleton.1 hx]
    decide
/-! ### Lines -/
theorem jn_inj {L M : List ByteArray} (h1 : L ≠ []) (h2 : M ≠ []) (hL : ∀ s ∈ L, big s) (hM : ∀ s ∈ M, big s) (h : jnB L = jnB M) : L = M := by
  have no : ∀ {N : List ByteArray}, (∀ s ∈ N, big s) → ∀ x ∈ N.map (·.data.toList), (32 : UInt8) ∉ x := fun hN x hx hm => by
    obtain ⟨s, hs, rfl⟩ := List.mem_map.1 hx
    have := hN s hs 32 hm
    revert this
    decide
  have hd : Lib.join (L.map (·.data.toList)) [32] = Lib.join (M.map (·.data.toList)) [32] := by
    have := congrArg (fun s : ByteArray => s.data.toList) h
    simpa [jnB, bs] using this
  have := join_inj (by simpa using h1) (by simpa using h2) (no hL) (no hM) hd
  have back : ∀ N : List ByteArray, (N.map (·.data.toList)).map bs = N := fun N => by
    rw [List.map_map]
    conv => rhs; rw [← List.map_id N]
    exact List.map_congr_left fun s _ => bs_data s
  rw [← back L, this, back M]
theorem jn_no10 {L : List ByteArray} (hL : ∀ s ∈ L, big s) : (10 : UInt8) ∉ (jnB L).data.toList := fun h => by
  have h' : (10 : UInt8) ∈ Lib.join (L.map (·.data.toList)) [32] := by simpa [jnB, bs] using h
  rcases join_mem h' with h | ⟨w, hw, hx⟩
  · revert h
    decide
  · obtain ⟨s, hs, rfl⟩ := List.mem_map.1 hw
    have := hL s hs 10 hx
    revert this
    decide
theorem txt_lns (ls : List (List ByteArray)) : ∀ p : ByteArray, (txt p ls).data.toList = p.data.toList ++ lns 10 (ls.map fun l => (jnB l).data.toList) := by
  induction ls with
  | nil => intro p; simp [txt, lns]
  | cons l ls ih =>
    intro p
    have := ih (p ++ nl (jnB l))
    show (txt (p ++ nl (jnB l)) ls).data.toList = _
    rw [this]
    simp [nl, bs, lns]
end Go.Vc.ZQ

/- Plain: a book's text tells its lines, and they its fields. -/
set_option linter.unusedVariables false
namespace Go.Vc.ZQ
open Go Go.Vc Go.Vc.V
theorem num_inj {x y : Int} (h : numB x = numB y) : x = y := by
  unfold numB at h
  have := congrArg (fun s : ByteArray => s.data.toList) h
  exact itoa_inj (by simpa [bs] using this)
noncomputable def allL (b : Bk) : List (List ByteArray) := [nowL b.now b.last] ++ (b.fs.map frL ++ (b.ags.map agL ++ (b.os.map ofL ++ (b.ts.map tkL ++ b.fis.map fiL))))
theorem txt_app (p : ByteArray) (a b : List (List ByteArray)) : txt (txt p a) b = txt p (a ++ b) := by
  unfold txt
  rw [List.foldl_append]
theorem bkT_all (b : Bk) : bkT b = txt (bs []) (allL b) := by
  have e0 : bk0 b = txt (bs []) [nowL b.now b.last] := by
    unfold bk0 txt
    apply ba_ext
    simp [bs]
  unfold bkT bk4 bk3 bk2 bk1 allL
  rw [e0, txt_app, txt_app, txt_app, txt_app, txt_app]
theorem big_bs {l : List UInt8} (h : ∀ x ∈ l, 33 ≤ x.toNat) : big (bs l) := big_mk h
theorem now_big (x y : Int) : ∀ s ∈ nowL x y, big s := by
  intro s hs
  unfold nowL at hs
  simp only [List.mem_cons, List.not_mem_nil, or_false] at hs
  rcases hs with rfl | rfl | rfl | rfl
  · exact big_bs (by decide)
  · exact big_num _
  · exact big_bs (by decide)
  · exact big_num _
theorem fr_big (f : Fr) : ∀ s ∈ frL f, big s := by
  intro s hs
  unfold frL frB at hs
  rcases List.mem_append.1 hs with hs | hs
  · rcases List.mem_append.1 hs with hs | hs
    · simp only [List.mem_cons, List.not_mem_nil, or_false] at hs
      rcases hs with rfl | rfl | rfl | rfl | rfl | rfl
      · exact big_bs (by decide)
      · exact big_num _
      · exact big_bs (by decide)
      · exact big_num _
      · exact big_bs (by decide)
      · exact big_num _
    · split at hs
      · simp only [List.mem_cons, List.not_mem_nil, or_false] at hs
        subst hs
        exact big_bs (by decide)
      · simp only [List.mem_cons, List.not_mem_nil, or_false] at hs
        rcases hs with rfl | rfl
        · exact big_bs (by decide)
        · exact big_num _
  · split at hs
    · simp only [List.mem_cons, List.not_mem_nil, or_false] at hs
      subst hs
      exact big_bs (by decide)
    · cases hs
theorem ag_big (x : Ag) : ∀ s ∈ agL x, big s := by
  intro s hs
  unfold agL at hs
  simp only [List.mem_cons, List.not_mem_nil, or_false] at hs
  rcases hs with rfl | rfl | rfl | rfl | rfl | rfl
  · exact big_bs (by decide)
  · exact big_num _
  · exact big_bs (by decide)
  · exact big_vec _
  · exact big_bs (by decide)
  · exact big_vec _
theorem of_big (x : Of) : ∀ s ∈ ofL x, big s := by
  intro s hs
  unfold ofL ofB at hs
  rcases List.mem_append.1 hs with hs | hs
  · simp only [List.mem_cons, List.not_mem_nil, or_false] at hs
    rcases hs with rfl | rfl | rfl | rfl | rfl | rfl | rfl
    · exact big_bs (by decide)
    · exact big_num _
    · exact big_bs (by decide)
    · exact big_num _
    · exact big_bs (by decide)
    · exact big_num _
    · exact big_vec _
  · split at hs
    · simp only [List.mem_cons, List.not_mem_nil, or_false] at hs
      rcases hs with rfl | rfl
      · exact big_bs (by decide)
      · exact big_num _
    · cases hs
theorem tk_big (x : Tk) : ∀ s ∈ tkL x, big s := by
  intro s hs
  unfold tkL at hs
  simp only [List.mem_cons, List.not_mem_nil, or_false] at hs
  rcases hs with rfl | rfl | rfl | rfl | rfl | rfl
  · exact big_bs (by decide)
  · exact big_num _
  · exact big_num _
  · exact big_bs (by decide)
  · exact big_num _
  · exact big_vec _
theorem fi_big (x : Fi) : ∀ s ∈ fiL x, big s := by
  intro s hs
  unfold fiL at hs
  simp only [List.mem_cons, List.not_mem_nil, or_false] at hs
  rcases hs with rfl | rfl | rfl | rfl | rfl | rfl | rfl
  · exact big_bs (by decide)
  · exact big_num _
  · exact big_bs (by decide)
  · exact big_num _
  · exact big_bs (by decide)
  · exact big_num _
  · exact big_vec _
theorem all_ok (b : Bk) : ∀ l ∈ allL b, l ≠ [] ∧ ∀ s ∈ l, big s := by
  intro l hl
  unfold allL at hl
  rcases List.mem_append.1 hl with hl | hl
  · rw [List.mem_singleton.1 hl]
    exact ⟨by unfold nowL; simp, now_big _ _⟩
  rcases List.mem_append.1 hl with hl | hl
  · obtain ⟨x, _, rfl⟩ := List.mem_map.1 hl
    exact ⟨by unfold frL frB; simp, fr_big x⟩
  rcases List.mem_append.1 hl with hl | hl
  · obtain ⟨x, _, rfl⟩ := List.mem_map.1 hl
    exact ⟨by unfold agL; simp, ag_big x⟩
  rcases List.mem_append.1 hl with hl | hl
  · obtain ⟨x, _, rfl⟩ := List.mem_map.1 hl
    exact ⟨by unfold ofL ofB; simp, of_big x⟩
  rcases List.mem_append.1 hl with hl | hl
  · obtain ⟨x, _, rfl⟩ := List.mem_map.1 hl
    exact ⟨by unfold tkL; simp, tk_big x⟩
  · obtain ⟨x, _, rfl⟩ := List.mem_map.1 hl
    exact ⟨by unfold fiL; simp, fi_big x⟩
theorem map_jn : ∀ {l m : List (List ByteArray)}, (∀ x ∈ l, x ≠ [] ∧ ∀ s ∈ x, big s) → (∀ x ∈ m, x ≠ [] ∧ ∀ s ∈ x, big s) → l.map (fun x => (jnB x).data.toList) = m.map (fun x => (jnB x).data.toList) → l = m
  | [], [], _, _, _ => rfl
  | [], y :: m, _, _, h => by cases h
  | x :: l, [], _, _, h => by cases h
  | x :: l, y :: m, hl, hm, h => by
    simp only [List.map_cons, List.cons.injEq] at h
    have hx := hl x (List.mem_cons_self ..)
    have hy := hm y (List.mem_cons_self ..)
    have e : jnB x = jnB y := by
      rw [← bs_data (jnB x), h.1, bs_data]
    rw [jn_inj hx.1 hy.1 hx.2 hy.2 e, map_jn (fun z hz => hl z (List.mem_cons_of_mem _ hz)) (fun z hz => hm z (List.mem_cons_of_mem _ hz)) h.2]
/-- Books of one text have the same lines. -/
theorem book_lines {a b : Bk} (h : bkT a = bkT b) : allL a = allL b := by
  rw [bkT_all, bkT_all] at h
  have h1 := congrArg (fun s : ByteArray => s.data.toList) h
  simp only [txt_lns] at h1
  have h2 := List.append_cancel_left h1
  have no : ∀ c : Bk, ∀ x ∈ (allL c).map (fun l => (jnB l).data.toList), (10 : UInt8) ∉ x := fun c x hx => by
    obtain ⟨l, hl, rfl⟩ := List.mem_map.1 hx
    exact jn_no10 (all_ok c l hl).2
  exact map_jn (all_ok a) (all_ok b) (lns_inj (no a) (no b) h2)
end Go.Vc.ZQ

/- Plain: the lines of a book tell its fields. -/
set_option linter.unusedVariables false
namespace Go.Vc.ZQ
open Go Go.Vc Go.Vc.V
theorem split_pred {α : Type} (p : α → Bool) {a a' b b' : List α} (ha : ∀ x ∈ a, p x = true) (ha' : ∀ x ∈ a', p x = true) (hb : ∀ x ∈ b, p x = false) (hb' : ∀ x ∈ b', p x = false) (h : a ++ b = a' ++ b') : a = a' ∧ b = b' := by
  have h1 := congrArg (List.filter p) h
  have f1 : ∀ {l : List α}, (∀ x ∈ l, p x = true) → l.filter p = l := fun hl => List.filter_eq_self.2 hl
  have f0 : ∀ {l : List α}, (∀ x ∈ l, p x = false) → l.filter p = [] := fun hl => List.filter_eq_nil_iff.2 fun x hx => by rw [hl x hx]; decide
  rw [List.filter_append, List.filter_append, f1 ha, f1 ha', f0 hb, f0 hb', List.append_nil, List.append_nil] at h1
  subst h1
  exact ⟨rfl, List.append_cancel_left h⟩
def hdP (w : ByteArray) (l : List ByteArray) : Bool := decide (l.head? = some w)
theorem fr_h (x : Fr) : (frL x).head? = some (bs [102, 114, 97, 109, 101]) := by
  unfold frL frB
  rfl
theorem ag_h (x : Ag) : (agL x).head? = some (bs [97, 103, 101, 110, 116]) := by
  unfold agL
  rfl
theorem of_h (x : Of) : (ofL x).head? = some (bs [111, 102, 102, 101, 114]) := by
  unfold ofL ofB
  rfl
theorem tk_h (x : Tk) : (tkL x).head? = some (bs [116, 97, 115, 107]) := by
  unfold tkL
  rfl
theorem fi_h (x : Fi) : (fiL x).head? = some (bs [102, 105, 108, 116, 101, 114]) := by
  unfold fiL
  rfl
theorem fr_p (x : Fr) : hdP (bs [102, 114, 97, 109, 101]) (frL x) = true := by
  unfold hdP
  rw [fr_h]
  exact decide_eq_true rfl
theorem fr_ag (x : Ag) : hdP (bs [102, 114, 97, 109, 101]) (agL x) = false := by
  unfold hdP
  rw [ag_h]
  decide
theorem fr_of (x : Of) : hdP (bs [102, 114, 97, 109, 101]) (ofL x) = false := by
  unfold hdP
  rw [of_h]
  decide
theorem fr_tk (x : Tk) : hdP (bs [102, 114, 97, 109, 101]) (tkL x) = false := by
  unfold hdP
  rw [tk_h]
  decide
theorem fr_fi (x : Fi) : hdP (bs [102, 114, 97, 109, 101]) (fiL x) = false := by
  unfold hdP
  rw [fi_h]
  decide
theorem ag_p (x : Ag) : hdP (bs [97, 103, 101, 110, 116]) (agL x) = true := by
  unfold hdP
  rw [ag_h]
  exact decide_eq_true rfl
theorem ag_of (x : Of) : hdP (bs [97, 103, 101, 110, 116]) (ofL x) = false := by
  unfold hdP
  rw [of_h]
  decide
theorem ag_tk (x : Tk) : hdP (bs [97, 103, 101, 110, 116]) (tkL x) = false := by
  unfold hdP
  rw [tk_h]
  decide
theorem ag_fi (x : Fi) : hdP (bs [97, 103, 101, 110, 116]) (fiL x) = false := by
  unfold hdP
  rw [fi_h]
  decide
theorem of_p (x : Of) : hdP (bs [111, 102, 102, 101, 114]) (ofL x) = true := by
  unfold hdP
  rw [of_h]
  exact decide_eq_true rfl
theorem of_tk (x : Tk) : hdP (bs [111, 102, 102, 101, 114]) (tkL x) = false := by
  unfold hdP
  rw [tk_h]
  decide
theorem of_fi (x : Fi) : hdP (bs [111, 102, 102, 101, 114]) (fiL x) = false := by
  unfold hdP
  rw [fi_h]
  decide
theorem tk_p (x : Tk) : hdP (bs [116, 97, 115, 107]) (tkL x) = true := by
  unfold hdP
  rw [tk_h]
  exact decide_eq_true rfl
theorem tk_fi (x : Fi) : hdP (bs [116, 97, 115, 107]) (fiL x) = false := by
  unfold hdP
  rw [fi_h]
  decide
theorem mem_map' {α β : Type} {f : α → β} {P : β → Prop} {l : List α} (h : ∀ x, P (f x)) : ∀ y ∈ l.map f, P y := fun y hy => by
  obtain ⟨x, _, rfl⟩ := List.mem_map.1 hy
  exact h x
theorem mem_app {α : Type} {P : α → Prop} {a b : List α} (ha : ∀ y ∈ a, P y) (hb : ∀ y ∈ b, P y) : ∀ y ∈ a ++ b, P y := fun y hy => (List.mem_append.1 hy).elim (ha y) (hb y)
/-- Books of one text have the same lines, list by list. -/
theorem book_parts {a b : Bk} (h : bkT a = bkT b) : (a.now = b.now ∧ a.last = b.last) ∧ a.fs.map frL = b.fs.map frL ∧ a.ags.map agL = b.ags.map agL ∧ a.os.map ofL = b.os.map ofL ∧ a.ts.map tkL = b.ts.map tkL ∧ a.fis.map fiL = b.fis.map fiL := by
  have h0 := book_lines h
  unfold allL at h0
  simp only [List.singleton_append, List.cons.injEq] at h0
  obtain ⟨hn, h0⟩ := h0
  unfold nowL at hn
  simp only [List.cons.injEq, true_and, and_true] at hn
  obtain ⟨e0, h1⟩ := split_pred (hdP (bs [102, 114, 97, 109, 101])) (mem_map' fr_p) (mem_map' fr_p) (mem_app (mem_map' fr_ag) (mem_app (mem_map' fr_of) (mem_app (mem_map' fr_tk) (mem_map' fr_fi)))) (mem_app (mem_map' fr_ag) (mem_app (mem_map' fr_of) (mem_app (mem_map' fr_tk) (mem_map' fr_fi)))) h0
  obtain ⟨e1, h2⟩ := split_pred (hdP (bs [97, 103, 101, 110, 116])) (mem_map' ag_p) (mem_map' ag_p) (mem_app (mem_map' ag_of) (mem_app (mem_map' ag_tk) (mem_map' ag_fi))) (mem_app (mem_map' ag_of) (mem_app (mem_map' ag_tk) (mem_map' ag_fi))) h1
  obtain ⟨e2, h3⟩ := split_pred (hdP (bs [111, 102, 102, 101, 114])) (mem_map' of_p) (mem_map' of_p) (mem_app (mem_map' of_tk) (mem_map' of_fi)) (mem_app (mem_map' of_tk) (mem_map' of_fi)) h2
  obtain ⟨e3, h4⟩ := split_pred (hdP (bs [116, 97, 115, 107])) (mem_map' tk_p) (mem_map' tk_p) (mem_map' tk_fi) (mem_map' tk_fi) h3
  exact ⟨⟨num_inj hn.1, num_inj hn.2⟩, e0, e1, e2, e3, h4⟩
theorem tk_inj {x y : Tk} (h : tkL x = tkL y) : x.fr = y.fr ∧ x.id = y.id ∧ x.ag = y.ag ∧ vecT x.v.1 = vecT y.v.1 := by
  unfold tkL at h
  simp only [List.cons.injEq, true_and, and_true] at h
  exact ⟨num_inj h.1, num_inj h.2.1, num_inj h.2.2.1, h.2.2.2⟩
theorem fi_inj {x y : Fi} (h : fiL x = fiL y) : x.fr = y.fr ∧ x.ag = y.ag ∧ x.til = y.til ∧ vecT x.v.1 = vecT y.v.1 := by
  unfold fiL at h
  simp only [List.cons.injEq, true_and, and_true] at h
  exact ⟨num_inj h.1, num_inj h.2.1, num_inj h.2.2.1, h.2.2.2⟩
theorem ag_inj {x y : Ag} (h : agL x = agL y) : x.id = y.id ∧ vecT x.tot.1 = vecT y.tot.1 ∧ vecT x.fre.1 = vecT y.fre.1 := by
  unfold agL at h
  simp only [List.cons.injEq, true_and, and_true] at h
  exact ⟨num_inj h.1, h.2.1, h.2.2⟩
theorem of_inj {x y : Of} (h : ofL x = ofL y) : x.id = y.id ∧ x.fr = y.fr ∧ x.ag = y.ag ∧ vecT x.v.1 = vecT y.v.1 ∧ x.til = y.til := by
  unfold ofL ofB at h
  simp only [List.cons_append, List.nil_append, List.cons.injEq, true_and] at h
  obtain ⟨h1, h2, h3, h4, h5⟩ := h
  refine ⟨num_inj h1, num_inj h2, num_inj h3, h4, ?_⟩
  by_cases hx : (x.til != 0) = true <;> by_cases hy : (y.til != 0) = true
  · rw [if_pos hx, if_pos hy] at h5
    simp only [List.cons.injEq, true_and, and_true] at h5
    exact num_inj h5
  · rw [if_pos hx, if_neg hy] at h5
    cases h5
  · rw [if_neg hx, if_pos hy] at h5
    cases h5
  · have e1 : x.til = 0 := by simpa using hx
    have e2 : y.til = 0 := by simpa using hy
    rw [e1, e2]
theorem fr_inj {x y : Fr} (h : frL x = frL y) : x.id = y.id ∧ x.role = y.role ∧ x.weight = y.weight ∧ x.up = y.up ∧ x.quiet = y.quiet ∧ (x.up = false → x.til = y.til) := by
  unfold frL frB at h
  simp only [List.cons_append, List.nil_append, List.cons.injEq, true_and] at h
  obtain ⟨h1, h2, h3, h4⟩ := h
  refine ⟨num_inj h1, num_inj h2, num_inj h3, ?_⟩
  have ne : bs [117, 112] ≠ bs [97, 119, 97, 121] := by decide
  cases hx : x.up <;> cases hy : y.up <;> rw [hx, hy] at h4 <;> cases qx : x.quiet <;> cases qy : y.quiet <;> rw [qx, qy] at h4 <;> simp at h4 ⊢ <;> first | exact num_inj h4 | exact absurd h4 ne | exact absurd h4.symm ne | exact absurd h4.1 ne | exact absurd h4.1.symm ne | trivial
end Go.Vc.ZQ

/- Plain: a right vector's text tells its words. -/
set_option linter.unusedVariables false
namespace Go.Vc.ZQ
open Go Go.Vc Go.Vc.V
/-- No comma. -/
def nc (s : ByteArray) : Prop := (44 : UInt8) ∉ s.data.toList
theorem nc_app {s t : ByteArray} (hs : nc s) (ht : nc t) : nc (s ++ t) := by
  intro hx
  rw [show (s ++ t).data.toList = s.data.toList ++ t.data.toList by simp] at hx
  exact (List.mem_append.1 hx).elim hs ht
theorem nc_nums {l : List Int} (h : ∀ x ∈ l, (45 ≤ x ∧ x ≤ 255)) : nc (strOfNums l) := by
  intro hx
  unfold strOfNums at hx
  simp at hx
  obtain ⟨y, hy, e⟩ := hx
  have h1 := h y hy
  have h2 := congrArg UInt8.toNat e
  rw [ofNat_toNat (by omega)] at h2
  have h3 : (44 : UInt8).toNat = 44 := rfl
  omega
theorem nc_txt (n : Int) : nc (strOfNums (txtL n)) := by
  refine nc_nums fun x hx => ?_
  unfold txtL at hx
  split at hx
  · split at hx
    · have := decL_byte _ _ (by omega) x hx
      omega
    · have hm := strip_mem hx
      rcases List.mem_append.1 hm with hm | hm
      · rcases List.mem_append.1 hm with hm | hm
        · have := decL_byte _ _ (by omega) x hm
          omega
        · rw [List.mem_singleton.1 hm]
          omega
      · have := decL_byte _ _ (by omega) x hm
        omega
  · cases hx
theorem nc_nm (k : Int) : nc (nmOf k) := by
  unfold nmOf
  split
  · have : ∀ s ∈ nms, (44 : UInt8) ∉ s.data.toList := by decide
    cases hk : nms[k.toNat]? with
    | none => intro hx; cases hx
    | some s => exact this s (List.mem_of_getElem? hk)
  · intro hx
    cases hx
theorem nc_stext (k r : Int) : nc (stext k r) := by
  unfold stext
  split
  · rename_i h
    split
    · exact nc_nm k
    · have hr : 0 ≤ r := by
        unfold slotR at h
        omega
      exact nc_app (nc_app (nc_app (nc_nm k) (by unfold nc; decide)) (nc_nums fun x hx => by have := decL_byte _ _ hr x hx; omega)) (by unfold nc; decide)
  · intro hx
    cases hx
theorem nc_word (p : PartT) : nc (wordB p) := nc_app (nc_app (nc_stext _ _) (by unfold nc; decide)) (nc_txt _)
theorem word_colon (p : PartT) : (58 : UInt8) ∈ (wordB p).data.toList := by
  unfold wordB
  simp
theorem vec_words {x y : List PartT} (hx : vecB x = true) (hy : vecB y = true) (h : vecT x = vecT y) : x.map wordB = y.map wordB := by
  unfold vecT at h
  rw [if_pos hx, if_pos hy] at h
  unfold vtext at h
  rw [if_pos hx, if_pos hy] at h
  have key : ∀ {z : List PartT}, z ≠ [] → (⟨(Lib.join (z.map fun p => (wordB p).data.toList) [44]).toArray⟩ : ByteArray) ≠ ByteArray.mk #[45] := fun {z} hz he => by
    cases z with
    | nil => exact hz rfl
    | cons p z =>
      have h1 := congrArg (fun s : ByteArray => s.data.toList) he
      simp only [List.map_cons] at h1
      have hm : (58 : UInt8) ∈ Lib.join ((wordB p).data.toList :: z.map fun p => (wordB p).data.toList) [44] := by
        rw [Lib.join_cons]
        exact List.mem_append_left _ (word_colon p)
      rw [show Lib.join ((wordB p).data.toList :: z.map fun p => (wordB p).data.toList) [44] = [45] by simpa using h1] at hm
      revert hm
      decide
  by_cases ex : x = [] <;> by_cases ey : y = []
  · rw [ex, ey]
  · rw [if_pos ex, if_neg ey] at h
    exact (key ey h.symm).elim
  · rw [if_neg ex, if_pos ey] at h
    exact (key ex h).elim
  · rw [if_neg ex, if_neg ey] at h
    have h1 : Lib.join (x.map fun p => (wordB p).data.toList) [44] = Lib.join (y.map fun p => (wordB p).data.toList) [44] := by
      have := congrArg (fun s : ByteArray => s.data.toList) h
      simpa using this
    have no : ∀ z : List PartT, ∀ w ∈ z.map (fun p => (wordB p).data.toList), (44 : UInt8) ∉ w := fun z w hw => by
      obtain ⟨p, _, rfl⟩ := List.mem_map.1 hw
      exact nc_word p
    have h2 := join_inj (by simpa using ex) (by simpa using ey) (no x) (no y) h1
    have back : ∀ z : List PartT, z.map wordB = (z.map fun p => (wordB p).data.toList).map bs := fun z => by
      rw [List.map_map]
      exact List.map_congr_left fun p _ => (bs_data _).symm
    rw [back x, back y, h2]
end Go.Vc.ZQ

/- Plain: an amount's text tells it. -/
set_option linter.unusedVariables false
namespace Go.Vc.ZQ
open Go Go.Vc Go.Vc.V
theorem nums_inj : ∀ {l m : List Int}, (∀ x ∈ l, 0 ≤ x ∧ x ≤ 255) → (∀ x ∈ m, 0 ≤ x ∧ x ≤ 255) → l.map (fun x => UInt8.ofNat x.toNat) = m.map (fun x => UInt8.ofNat x.toNat) → l = m
  | [], [], _, _, _ => rfl
  | [], y :: m, _, _, h => by cases h
  | x :: l, [], _, _, h => by cases h
  | x :: l, y :: m, hl, hm, h => by
    simp only [List.map_cons, List.cons.injEq] at h
    have h1 := hl x (List.mem_cons_self ..)
    have h2 := hm y (List.mem_cons_self ..)
    have e := congrArg UInt8.toNat h.1
    rw [ofNat_toNat (by omega), ofNat_toNat (by omega)] at e
    have e' : x = y := by omega
    rw [e', nums_inj (fun z hz => hl z (List.mem_cons_of_mem _ hz)) (fun z hz => hm z (List.mem_cons_of_mem _ hz)) h.2]
def valI (l : List Int) : Int := l.foldl (fun a x => a * 10 + (x - 48)) 0
theorem valI_dec (n least : Int) (h : 0 ≤ n) : valI (decL n least) = n := by
  rw [decL]
  split
  · have ih := valI_dec (n / 10) (least - 1) (by omega)
    unfold valI at ih ⊢
    rw [List.foldl_append, ih]
    show n / 10 * 10 + (48 + n % 10 - 48) = n
    omega
  · rename_i hc
    show (0 : Int) * 10 + (48 + n % 10 - 48) = n
    omega
termination_by n.toNat + least.toNat
decreasing_by
  rename_i hc
  rcases hc with hc | hc <;> omega
theorem dec3 {m : Int} (h0 : 0 ≤ m) (h1 : m < 1000) : decL m 3 = [48 + m / 10 / 10 % 10, 48 + m / 10 % 10, 48 + m % 10] := by
  rw [decL, if_pos (by omega), decL, if_pos (by omega), decL, if_neg (by omega)]
  rfl
theorem strip_pad (a b c : Int) : (strip [a, b, c] ++ [48, 48, 48]).take 3 = [a, b, c] := by
  unfold strip
  by_cases hc : c = 48 <;> by_cases hb : b = 48 <;> by_cases ha : a = 48 <;> simp [hc, hb, ha]
theorem strip_dot (A D : List Int) : strip (A ++ [46] ++ D) = A ++ 46 :: strip D := by
  unfold strip
  rw [List.reverse_append, List.dropWhile_append]
  split
  · rename_i h
    have : D.reverse.dropWhile (· == (48 : Int)) = [] := by simpa using h
    rw [this]
    simp
  · simp
theorem no46 {n k : Int} (h : 0 ≤ n) : (46 : Int) ∉ decL n k := fun hm => by
  have := decL_byte _ _ h _ hm
  omega
theorem txt_inj {x y : Int} (hx : 0 ≤ x ∧ x ≤ 9007199254740992) (hy : 0 ≤ y ∧ y ≤ 9007199254740992) (h : txtL x = txtL y) : x = y := by
  unfold txtL at h
  rw [if_pos hx, if_pos hy] at h
  have nn : ∀ {z : Int}, (0 ≤ z ∧ z ≤ 9007199254740992) → 0 ≤ z / 1000 := fun hz => by omega
  by_cases ex : x % 1000 = 0 <;> by_cases ey : y % 1000 = 0
  · rw [if_pos ex, if_pos ey] at h
    have := congrArg valI h
    rw [valI_dec _ _ (nn hx), valI_dec _ _ (nn hy)] at this
    omega
  · rw [if_pos ex, if_neg ey, strip_dot] at h
    exact absurd (h ▸ List.mem_append_right _ (List.mem_cons_self ..)) (no46 (k := 1) (nn hx))
  · rw [if_neg ex, if_pos ey, strip_dot] at h
    exact absurd (h.symm ▸ List.mem_append_right _ (List.mem_cons_self ..)) (no46 (k := 1) (nn hy))
  · rw [if_neg ex, if_neg ey, strip_dot, strip_dot] at h
    obtain ⟨h1, h2⟩ := cut_eq (no46 (nn hx)) (no46 (nn hy)) h
    have e1 := congrArg valI h1
    rw [valI_dec _ _ (nn hx), valI_dec _ _ (nn hy)] at e1
    rw [dec3 (by omega) (by omega), dec3 (by omega) (by omega)] at h2
    have h3 := congrArg (fun l : List Int => (l ++ [48, 48, 48]).take 3) h2
    simp only [strip_pad, List.cons.injEq, and_true] at h3
    omega
end Go.Vc.ZQ

/- Plain: a right vector's text tells the vector. -/
set_option linter.unusedVariables false
namespace Go.Vc.ZQ
open Go Go.Vc Go.Vc.V
theorem nums_data (l : List Int) : (strOfNums l).data.toList = l.map (fun x => UInt8.ofNat x.toNat) := by
  unfold strOfNums
  simp
theorem nums_no {c : UInt8} {l : List Int} (h : ∀ x ∈ l, 48 ≤ x ∧ x ≤ 57) (hc : c.toNat < 48 ∨ 57 < c.toNat) : c ∉ (strOfNums l).data.toList := fun hm => by
  rw [nums_data] at hm
  obtain ⟨x, hx, rfl⟩ := List.mem_map.1 hm
  have := h x hx
  rw [ofNat_toNat (by omega)] at hc
  omega
theorem nm_no (k : Int) : (40 : UInt8) ∉ (nmOf k).data.toList ∧ (58 : UInt8) ∉ (nmOf k).data.toList := by
  unfold nmOf
  split
  · have : ∀ s ∈ nms, (40 : UInt8) ∉ s.data.toList ∧ (58 : UInt8) ∉ s.data.toList := by decide
    cases hk : nms[k.toNat]? with
    | none => exact ⟨fun hx => (by cases hx), fun hx => (by cases hx)⟩
    | some s => exact this s (List.mem_of_getElem? hk)
  · exact ⟨fun hx => (by cases hx), fun hx => (by cases hx)⟩
theorem nm_inj {k j : Int} (hk : 0 ≤ k ∧ k < 4) (hj : 0 ≤ j ∧ j < 4) (h : nmOf k = nmOf j) : k = j := by
  have ck : k = 0 ∨ k = 1 ∨ k = 2 ∨ k = 3 := by omega
  have cj : j = 0 ∨ j = 1 ∨ j = 2 ∨ j = 3 := by omega
  rcases ck with rfl | rfl | rfl | rfl <;> rcases cj with rfl | rfl | rfl | rfl <;> first | rfl | (exfalso; revert h; decide)
theorem app_data (s t : ByteArray) : (s ++ t).data.toList = s.data.toList ++ t.data.toList := by simp
theorem st_no {k r : Int} (h : slotR k r) : (58 : UInt8) ∉ (stext k r).data.toList := by
  have hs := h
  unfold slotR at hs
  unfold stext
  rw [if_pos h]
  split
  · exact (nm_no k).2
  · intro hm
    rw [app_data, app_data, app_data] at hm
    rcases List.mem_append.1 hm with hm | hm
    · rcases List.mem_append.1 hm with hm | hm
      · rcases List.mem_append.1 hm with hm | hm
        · exact (nm_no k).2 hm
        · revert hm; decide
      · exact nums_no (decL_byte r 1 (by omega)) (.inr (by decide)) hm
    · revert hm; decide
theorem st_inj {k r j q : Int} (h1 : slotR k r) (h2 : slotR j q) (h : stext k r = stext j q) : k = j ∧ r = q := by
  have a1 := h1
  have a2 := h2
  unfold slotR at a1 a2
  unfold stext at h
  rw [if_pos h1, if_pos h2] at h
  have hd := congrArg (fun s : ByteArray => s.data.toList) h
  have has : ∀ (i p : Int), (40 : UInt8) ∈ (nmOf i ++ ByteArray.mk #[40] ++ strOfNums (decL p 1) ++ ByteArray.mk #[41]).data.toList := fun i p => by simp
  by_cases e1 : r = 0 <;> by_cases e2 : q = 0
  · rw [if_pos e1, if_pos e2] at h
    exact ⟨nm_inj ⟨a1.1, a1.2.1⟩ ⟨a2.1, a2.2.1⟩ h, by omega⟩
  · rw [if_pos e1, if_neg e2] at h
    exact absurd (h ▸ has j q) (nm_no k).1
  · rw [if_neg e1, if_pos e2] at h
    exact absurd (h.symm ▸ has k r) (nm_no j).1
  · rw [if_neg e1, if_neg e2] at h
    have hd := congrArg (fun s : ByteArray => s.data.toList) h
    simp only [app_data, List.append_assoc] at hd
    have hd' : (nmOf k).data.toList ++ 40 :: ((strOfNums (decL r 1)).data.toList ++ [41]) = (nmOf j).data.toList ++ 40 :: ((strOfNums (decL q 1)).data.toList ++ [41]) := hd
    obtain ⟨e3, e4⟩ := cut_eq (nm_no k).1 (nm_no j).1 hd'
    have e5 := List.append_cancel_right e4
    rw [nums_data, nums_data] at e5
    have b1 := decL_byte r 1 (by omega)
    have b2 := decL_byte q 1 (by omega)
    have e6 := nums_inj (fun x hx => by have := b1 x hx; omega) (fun x hx => by have := b2 x hx; omega) e5
    have e7 := congrArg valI e6
    rw [valI_dec _ _ (by omega), valI_dec _ _ (by omega)] at e7
    refine ⟨nm_inj ⟨a1.1, a1.2.1⟩ ⟨a2.1, a2.2.1⟩ ?_, e7⟩
    rw [← bs_data (nmOf k), e3, bs_data]
theorem txt_byte {n : Int} : ∀ x ∈ txtL n, 0 ≤ x ∧ x ≤ 255 := fun x hx => by
  unfold txtL at hx
  split at hx
  · split at hx
    · have := decL_byte _ _ (by omega) x hx
      omega
    · have hm := strip_mem hx
      rcases List.mem_append.1 hm with hm | hm
      · rcases List.mem_append.1 hm with hm | hm
        · have := decL_byte _ _ (by omega) x hm
          omega
        · rw [List.mem_singleton.1 hm]
          omega
      · have := decL_byte _ _ (by omega) x hm
        omega
  · cases hx
theorem word_inj {p q : PartT} (hp : partR p) (hq : partR q) (h : wordB p = wordB q) : p = q := by
  unfold wordB at h
  have hd := congrArg (fun s : ByteArray => s.data.toList) h
  simp only [app_data, List.append_assoc] at hd
  have hd' : (stext p.1 p.2.1).data.toList ++ 58 :: (strOfNums (txtL p.2.2)).data.toList = (stext q.1 q.2.1).data.toList ++ 58 :: (strOfNums (txtL q.2.2)).data.toList := hd
  obtain ⟨e1, e2⟩ := cut_eq (st_no hp.1) (st_no hq.1) hd'
  rw [nums_data, nums_data] at e2
  have e3 := nums_inj txt_byte txt_byte e2
  have e4 := txt_inj ⟨by have := hp.2.1; omega, hp.2.2⟩ ⟨by have := hq.2.1; omega, hq.2.2⟩ e3
  have e5 : stext p.1 p.2.1 = stext q.1 q.2.1 := by rw [← bs_data (stext p.1 p.2.1), e1, bs_data]
  obtain ⟨e6, e7⟩ := st_inj hp.1 hq.1 e5
  obtain ⟨a, b, c⟩ := p
  obtain ⟨a', b', c'⟩ := q
  simp only at e4 e6 e7
  rw [e4, e6, e7]
end Go.Vc.ZQ

/- Plain: right books of one text are alike. -/
set_option linter.unusedVariables false
namespace Go.Vc.ZQ
open Go Go.Vc Go.Vc.V
theorem map_inj_on {α β : Type} {f : α → β} {P : α → Prop} (hf : ∀ x y, P x → P y → f x = f y → x = y) : ∀ {l m : List α}, (∀ x ∈ l, P x) → (∀ x ∈ m, P x) → l.map f = m.map f → l = m
  | [], [], _, _, _ => rfl
  | [], y :: m, _, _, h => by cases h
  | x :: l, [], _, _, h => by cases h
  | x :: l, y :: m, hl, hm, h => by
    simp only [List.map_cons, List.cons.injEq] at h
    rw [hf x y (hl x (List.mem_cons_self ..)) (hm y (List.mem_cons_self ..)) h.1, map_inj_on hf (fun z hz => hl z (List.mem_cons_of_mem _ hz)) (fun z hz => hm z (List.mem_cons_of_mem _ hz)) h.2]
theorem vec_inj {x y : List PartT} (hx : vecB x = true) (hy : vecB y = true) (h : vecT x = vecT y) : x = y :=
  map_inj_on (P := partR) (fun p q hp hq e => word_inj hp hq e) (vecB_iff.1 hx).1 (vecB_iff.1 hy).1 (vec_words hx hy h)
/-- What of a book its text tells. -/
def frC (f : Fr) : Int × Int × Int × Bool × Bool × Int := (f.id, f.role, f.weight, f.up, f.quiet, f.til)
def agC (x : Ag) : Int × List PartT × List PartT := (x.id, x.tot.1, x.fre.1)
def ofC (x : Of) : Int × Int × Int × List PartT × Int := (x.id, x.fr, x.ag, x.v.1, x.til)
def tkC (x : Tk) : Int × Int × Int × List PartT := (x.fr, x.id, x.ag, x.v.1)
def fiC (x : Fi) : Int × Int × Int × List PartT := (x.fr, x.ag, x.til, x.v.1)
/-- A book whose vectors are right, and whose frameworks that are up are so for no time. -/
structure BkOk (b : Bk) : Prop where
  fs : ∀ f ∈ b.fs, f.up = true → f.til = 0
  ags : ∀ x ∈ b.ags, vecB x.tot.1 = true ∧ vecB x.fre.1 = true
  os : ∀ x ∈ b.os, vecB x.v.1 = true
  ts : ∀ x ∈ b.ts, vecB x.v.1 = true
  fis : ∀ x ∈ b.fis, vecB x.v.1 = true
theorem map_of {α β γ : Type} {f : α → β} {g : α → γ} {P : α → Prop} (hf : ∀ x y, P x → P y → f x = f y → g x = g y) : ∀ {l m : List α}, (∀ x ∈ l, P x) → (∀ x ∈ m, P x) → l.map f = m.map f → l.map g = m.map g
  | [], [], _, _, _ => rfl
  | [], y :: m, _, _, h => by cases h
  | x :: l, [], _, _, h => by cases h
  | x :: l, y :: m, hl, hm, h => by
    simp only [List.map_cons, List.cons.injEq] at h ⊢
    exact ⟨hf x y (hl x (List.mem_cons_self ..)) (hm y (List.mem_cons_self ..)) h.1, map_of hf (fun z hz => hl z (List.mem_cons_of_mem _ hz)) (fun z hz => hm z (List.mem_cons_of_mem _ hz)) h.2⟩
theorem book_alike {a b : Bk} (ha : BkOk a) (hb : BkOk b) (h : bkT a = bkT b) : (a.now = b.now ∧ a.last = b.last) ∧ a.fs.map frC = b.fs.map frC ∧ a.ags.map agC = b.ags.map agC ∧ a.os.map ofC = b.os.map ofC ∧ a.ts.map tkC = b.ts.map tkC ∧ a.fis.map fiC = b.fis.map fiC := by
  obtain ⟨h0, h1, h2, h3, h4, h5⟩ := book_parts h
  refine ⟨h0, map_of (P := fun f => f.up = true → f.til = 0) (fun x y px py e => ?_) ha.fs hb.fs h1, map_of (P := fun x => vecB x.tot.1 = true ∧ vecB x.fre.1 = true) (fun x y px py e => ?_) ha.ags hb.ags h2, map_of (P := fun x => vecB x.v.1 = true) (fun x y px py e => ?_) ha.os hb.os h3, map_of (P := fun x => vecB x.v.1 = true) (fun x y px py e => ?_) ha.ts hb.ts h4, map_of (P := fun x => vecB x.v.1 = true) (fun x y px py e => ?_) ha.fis hb.fis h5⟩
  · obtain ⟨e1, e2, e3, e4, e5, e6⟩ := fr_inj e
    have e7 : x.til = y.til := by
      cases hu : x.up with
      | false => exact e6 hu
      | true => rw [px hu, py (e4 ▸ hu)]
    unfold frC
    rw [e1, e2, e3, e4, e5, e7]
  · obtain ⟨e1, e2, e3⟩ := ag_inj e
    unfold agC
    rw [e1, vec_inj px.1 py.1 e2, vec_inj px.2 py.2 e3]
  · obtain ⟨e1, e2, e3, e4, e5⟩ := of_inj e
    unfold ofC
    rw [e1, e2, e3, vec_inj px py e4, e5]
  · obtain ⟨e1, e2, e3, e4⟩ := tk_inj e
    unfold tkC
    rw [e1, e2, e3, vec_inj px py e4]
  · obtain ⟨e1, e2, e3, e4⟩ := fi_inj e
    unfold fiC
    rw [e1, e2, e3, vec_inj px py e4]
/-- Alike books have one text. -/
theorem alike_told {a b : Bk} (h0 : a.now = b.now ∧ a.last = b.last) (h1 : a.fs.map frC = b.fs.map frC) (h2 : a.ags.map agC = b.ags.map agC) (h3 : a.os.map ofC = b.os.map ofC) (h4 : a.ts.map tkC = b.ts.map tkC) (h5 : a.fis.map fiC = b.fis.map fiC) : bkT a = bkT b := by
  have t : ∀ {α : Type} {l : List α}, ∀ x ∈ l, (fun _ : α => True) x := fun _ _ => trivial
  have e1 : a.fs.map frL = b.fs.map frL := map_of (P := fun _ => True) (fun x y _ _ e => by
    simp only [frC, Prod.mk.injEq] at e
    unfold frL frB
    rw [e.1, e.2.1, e.2.2.1, e.2.2.2.1, e.2.2.2.2.1, e.2.2.2.2.2]) t t h1
  have e2 : a.ags.map agL = b.ags.map agL := map_of (P := fun _ => True) (fun x y _ _ e => by
    simp only [agC, Prod.mk.injEq] at e
    unfold agL
    rw [e.1, e.2.1, e.2.2]) t t h2
  have e3 : a.os.map ofL = b.os.map ofL := map_of (P := fun _ => True) (fun x y _ _ e => by
    simp only [ofC, Prod.mk.injEq] at e
    unfold ofL ofB
    rw [e.1, e.2.1, e.2.2.1, e.2.2.2.1, e.2.2.2.2]) t t h3
  have e4 : a.ts.map tkL = b.ts.map tkL := map_of (P := fun _ => True) (fun x y _ _ e => by
    simp only [tkC, Prod.mk.injEq] at e
    unfold tkL
    rw [e.1, e.2.1, e.2.2.1, e.2.2.2]) t t h4
  have e5 : a.fis.map fiL = b.fis.map fiL := map_of (P := fun _ => True) (fun x y _ _ e => by
    simp only [fiC, Prod.mk.injEq] at e
    unfold fiL
    rw [e.1, e.2.1, e.2.2.1, e.2.2.2]) t t h5
  unfold bkT bk4 bk3 bk2 bk1 bk0
  rw [e1, e2, e3, e4, e5, h0.1, h0.2]
end Go.Vc.ZQ

/- book.Same; Few. -/
set_option maxRecDepth 20000
set_option maxHeartbeats 1000000
set_option linter.unusedVariables false
namespace Go.Vc.ZR
open Go Go.Vc Go.Vc.V Go.RowKit Go.Proofs Vcqz Go.Vc.ZQ

variable {w W W' : World} {gs : List Nat}

theorem c33 {l1 l2 : List Fr} {a1 a2 : Option Addr} {n1 n2 c1 c2 : Nat} (W : World) (h1 : SlE W 7 frV l1 a1 n1 c1) (h2 : SlE W 7 frV l2 a2 n2 c2) : Ret Tryz.prog 33 #[.slice a1 n1 c1, .slice a2 n2 c2] W (.bool (eqL frQ l1 l2)) := by
  intro R h
  refine f33_calls _ _ _ _ _ _ W R ?_
  unfold f33_vc
  have k1 := h1.len_le
  have k2 := h2.len_le
  refine brN (fun hne => ?_) (fun heq => ?_)
  · rw [eqL_len (by omega)] at h
    exact leaf h (At.refl W) rfl
  refine ⟨fun v W' => At W [] W' ∧ ∃ i : Nat, v.1 = i ∧ i ≤ l1.length ∧ eqL frQ l1 l2 = eqL frQ (l1.drop i) (l2.drop i), fun v _ => (n1 - v.1).toNat, ⟨At.refl W, 0, rfl, Nat.zero_le _, rfl⟩, ?_⟩
  rintro x3 w4 ⟨hA, i, hi, hil, hx⟩
  simp only at hi
  subst hi
  refine brD (fun hlt => ?_) (fun hge => leaf h hA ?_)
  · obtain ⟨x, hxi⟩ : ∃ x, l1[i]? = some x := ⟨_, List.getElem?_eq_getElem (by omega)⟩
    obtain ⟨y, hyi⟩ : ∃ x, l2[i]? = some x := ⟨_, List.getElem?_eq_getElem (by omega)⟩
    obtain ⟨ad, g1, el, _⟩ := elt_at (P := Tryz.prog) (k := .i64) (t := 25) (h1.call hA.below) hxi (e := 37) (by kernel_rfl) (by kernel_rfl)
    obtain ⟨ad2, g2, el2, _⟩ := elt_at (P := Tryz.prog) (k := .i64) (t := 25) (h2.call hA.below) hyi (e := 37) (by kernel_rfl) (by kernel_rfl)
    rw [eqL_drop hxi hyi] at hx
    refine ⟨ad, g1, _, _, _, _, _, _, _, el.agg 7 (by kernel_rfl) (by kernel_rfl) (by simp) no_ds, ad2, g2, _, _, _, _, _, _, _, el2.agg 7 (by kernel_rfl) (by kernel_rfl) (by simp) no_ds, brNB (b := frQ x y) (fun e0 => ?_) (fun e1 => ?_)⟩
    · rw [e0, Bool.false_and] at hx
      rw [hx] at h
      exact fun w21 hb => leaf h (hA.call hb) rfl
    · rw [e1, Bool.true_and] at hx
      rw [succ_z i (by omega)]
      exact fun w22 hb => ⟨⟨hA.call hb, i + 1, rfl, by omega, hx⟩, by simp only; omega⟩
  · rw [show i = l1.length by omega, List.drop_length, show l1.length = l2.length by omega, List.drop_length] at hx
    rw [hx]
    rfl

/-- A book in memory, of any length. -/
structure BZ (W : World) (A : ZW.BkA) (b : Bk) : Prop where
  nw : A.now = b.now
  ls : A.last = b.last
  hn : I64 b.now
  hl : I64 b.last
  fs : SlE W 7 frV b.fs A.f.1 A.f.2.1 A.f.2.2
  fk : ∀ x ∈ b.fs, frOk W x
  ags : SlE W 3 agV b.ags A.a.1 A.a.2.1 A.a.2.2
  agk : ∀ x ∈ b.ags, agOk W x
  os : SlE W 5 ofV b.os A.o.1 A.o.2.1 A.o.2.2
  ok : ∀ x ∈ b.os, ofOk W x
  ts : SlE W 4 tkV b.ts A.t.1 A.t.2.1 A.t.2.2
  tk : ∀ x ∈ b.ts, tkOk W x
  fis : SlE W 4 fiV b.fis A.l.1 A.l.2.1 A.l.2.2
  fik : ∀ x ∈ b.fis, fiOk W x
variable {A B : ZW.BkA} {a b : Bk}
theorem BZ.low (h : BZ W A b) (hb : Below W.heap.size W W') : BZ W' A b :=
  ⟨h.nw, h.ls, h.hn, h.hl, h.fs.mono (cell_below hb) fun _ _ h => h, fun x hx => (h.fk x hx).low hb, h.ags.mono (cell_below hb) fun _ _ h => h, fun x hx => (h.agk x hx).low hb, h.os.mono (cell_below hb) fun _ _ h => h, fun x hx => (h.ok x hx).low hb, h.ts.mono (cell_below hb) fun _ _ h => h, fun x hx => (h.tk x hx).low hb, h.fis.mono (cell_below hb) fun _ _ h => h, fun x hx => (h.fik x hx).low hb⟩
theorem BZ.bel (h : BZ W A b) (hb : Bel W W') : BZ W' A b := h.low hb.below
theorem map_sl {α β : Type} {n : Nat} {f : α → List Value} {g : α → β} {R : β → List Value → Prop} {l : List α} {a : Option Addr} {len c : Nat} (hs : SlE W n f l a len c) (hR : ∀ x ∈ l, R (g x) (f x)) : SlR W n R (l.map g) a len c := by
  refine ⟨by rw [List.length_map]; exact hs.1, hs.2.1, hs.2.2.1, hs.2.2.2.1, fun i y hy => ?_⟩
  rw [List.getElem?_map] at hy
  cases hx : l[i]? with
  | none => rw [hx] at hy; cases hy
  | some x =>
    rw [hx] at hy
    simp only [Option.map_some, Option.some.injEq] at hy
    subst hy
    obtain ⟨ad, cs, ha, hl, hcs, hr⟩ := hs.at_ hx
    exact ⟨ad, cs, ha, hl, hcs, hr ▸ hR x (List.mem_of_getElem? hx)⟩
/-- What of a book Right speaks of. -/
def dOf (b : Bk) : ZW.BkD := ⟨b.fs.map fun f => (f.id, f.role, f.weight, f.up, f.quiet, f.time, f.til), b.ags.map fun x => (x.id, x.tot.1, x.fre.1), b.os.map fun x => (x.id, x.fr, x.ag, x.v.1, x.til), b.ts.map fun x => (x.fr, x.id, x.ag, x.v.1), b.fis.map fiT⟩
theorem BZ.bk (h : BZ W A b) : ZW.Bk W A (dOf b) :=
  ⟨map_sl (R := fun x cs => cs = ZW.frE x) h.fs fun _ _ => rfl, map_sl h.ags fun x hx => ⟨_, _, _, _, _, _, rfl, (h.agk x hx).2.1, (h.agk x hx).2.2⟩, map_sl h.os fun x hx => ⟨_, _, _, rfl, (h.ok x hx).2⟩, map_sl h.ts fun x hx => ⟨_, _, _, rfl, (h.tk x hx).2⟩, map_sl h.fis fun x hx => ⟨_, _, _, rfl, (h.fik x hx).2⟩⟩
theorem BZ.few (h : BZ W A b) (n1 : b.fs.length ≤ 2000000) (n2 : b.ags.length ≤ 2000000) (n3 : b.os.length ≤ 2000000) (n4 : b.ts.length ≤ 2000000) (n5 : b.fis.length ≤ 2000000) : BkR W b A.f A.a A.o A.t A.l :=
  ⟨h.hn, h.hl, ⟨h.fs, h.fk, n1⟩, ⟨h.ags, h.agk, n2⟩, ⟨h.os, h.ok, n3⟩, ⟨h.ts, h.tk, n4⟩, ⟨h.fis, h.fik, n5⟩⟩
/-- A right book is one whose text tells it. -/
theorem ok_of (h : ZW.RightB (dOf b)) : BkOk b :=
  ⟨fun f hf hu => h.fr.2 _ (List.mem_map.2 ⟨f, hf, rfl⟩) hu, fun x hx => h.ag.2 _ (List.mem_map.2 ⟨x, hx, rfl⟩), fun x hx => h.off _ (List.mem_map.2 ⟨x, hx, rfl⟩), fun x hx => h.tk _ (List.mem_map.2 ⟨x, hx, rfl⟩), fun x hx => h.fl _ (List.mem_map.2 ⟨x, hx, rfl⟩)⟩
def cfQ (A B : ZW.BkA) : Bool := A.cc0 == B.cc0 && (A.cc1 == B.cc1 && (A.cc2 == B.cc2 && (A.cc3 == B.cc3 && (A.cc4 == B.cc4 && (A.cc5 == B.cc5 && (A.cc6 == B.cc6 && (A.cc7 == B.cc7 && (A.cq8 == B.cq8 && true))) && true)))))
def sameL (a b : Bk) : Bool := eqL agQ a.ags b.ags && (eqL ofQ a.os b.os && (eqL tkQ a.ts b.ts && eqL fiQ a.fis b.fis))
def sameQ (A B : ZW.BkA) (a b : Bk) : Bool := cfQ A B && (!(A.now != B.now) && (!(A.last != B.last) && (eqL frQ a.fs b.fs && sameL a b)))
theorem c8 (w : World) (ha : BZ w A a) (hb : BZ w B b) : Ret Tryz.prog 8 #[A.v, B.v] w (.bool (sameQ A B a b)) := by
  intro R h
  refine f8_calls _ _ _ _ _ _ _ _ _ _ _ _ _ _ _ _ _ _ _ _ _ _ _ _ _ _ _ _ _ _ _ _ _ _ _ _ _ _ _ _ _ _ _ _ _ _ _ _ _ _ _ _ w R ?_
  unfold f8_vc
  have hA := At.refl w
  unfold sameQ at h
  refine go_n hA fun n1 h1 => go_n hA fun n2 h2 => brNB (b := cfQ A B) (fun e => ?_) (fun e => ⟨fun e2 => ?_, fun e2 => ⟨fun e3 => ?_, fun e3 => go_below hA fun w6 hA => ?_⟩⟩)
  · rw [e] at h
    exact go_below hA fun w3 hA => leaf h hA rfl
  · rw [e, e2] at h
    exact go_below hA fun w3 hA => leaf h hA rfl
  · rw [e, e2, e3] at h
    exact go_below hA fun w3 hA => leaf h hA rfl
  rw [e, e2, e3] at h
  simp only [Bool.true_and, Bool.not_false] at h
  refine at_callb hA (c33 w6 (ha.bel hA.below).fs (hb.bel hA.below).fs) fun w8 hA hk _ => ⟨_, rfl, hk, brNB (fun e => ?_) (fun e => ?_)⟩
  · rw [e] at h
    exact leaf h hA rfl
  rw [e, Bool.true_and] at h
  unfold sameL at h
  refine at_callb hA (c34 agQ w8 (fun hx => (ha.bel (hA.call hx).below).ags) (fun hx => (hb.bel (hA.call hx).below).ags) fun W' x y hx hm hm' => RetI.of (by kernel_rfl) (c27 x y W' ((ha.bel (hA.call hx).below).agk x hm) ((hb.bel (hA.call hx).below).agk y hm'))) fun w11 hA hk _ => ⟨_, rfl, hk, brB (fun e => ?_) (fun e => ?_)⟩
  · rw [e, Bool.true_and] at h
    refine at_callb hA (c35 ofQ w11 (fun hx => (ha.bel (hA.call hx).below).os) (fun hx => (hb.bel (hA.call hx).below).os) fun W' x y hx hm hm' => RetI.of (by kernel_rfl) (c29 x y W' ((ha.bel (hA.call hx).below).ok x hm) ((hb.bel (hA.call hx).below).ok y hm'))) fun w14 hA hk _ => ⟨_, rfl, hk, brB (fun e => ?_) (fun e => ?_)⟩
    · rw [e, Bool.true_and] at h
      refine at_callb hA (c36 tkQ w14 (fun hx => (ha.bel (hA.call hx).below).ts) (fun hx => (hb.bel (hA.call hx).below).ts) fun W' x y hx hm hm' => RetI.of (by kernel_rfl) (c30 x y W' ((ha.bel (hA.call hx).below).tk x hm) ((hb.bel (hA.call hx).below).tk y hm'))) fun w17 hA hk _ => ⟨_, rfl, hk, brB (fun e => ?_) (fun e => ?_)⟩
      · rw [e, Bool.true_and] at h
        exact at_callb hA (c37 fiQ w17 (fun hx => (ha.bel (hA.call hx).below).fis) (fun hx => (hb.bel (hA.call hx).below).fis) fun W' x y hx hm hm' => RetI.of (by kernel_rfl) (c31 x y W' ((ha.bel (hA.call hx).below).fik x hm) ((hb.bel (hA.call hx).below).fik y hm'))) fun w20 hA hk _ => ⟨_, rfl, hk, leaf h hA rfl⟩
      · rw [e, Bool.false_and] at h
        exact leaf h hA rfl
    · rw [e, Bool.false_and] at h
      exact leaf h hA rfl
  · rw [e, Bool.false_and] at h
    exact leaf h hA rfl
end Go.Vc.ZR

/- Few counts a book of right vectors. -/
set_option maxRecDepth 20000
set_option maxHeartbeats 1000000
set_option linter.unusedVariables false
namespace Go.Vc.ZR
open Go Go.Vc Go.Vc.V Go.RowKit Go.Proofs Vcqz Go.Vc.ZQ

variable {w W W' : World} {gs : List Nat} {A B : ZW.BkA} {a b : Bk}

theorem add_i {m n : Nat} (h : m + n < 9223372036854775807) : IntKind.i64.wrap ((m : Int) + (n : Int)) = ((m + n : Nat) : Int) := by rw [wrap_i64 (by omega) (by omega)]; omega
/-- Lists that a machine can hold. -/
structure Lens (b : Bk) : Prop where
  n1 : b.fs.length ≤ 3000000000000
  n2 : b.ags.length ≤ 3000000000000
  n3 : b.os.length ≤ 3000000000000
  n4 : b.ts.length ≤ 3000000000000
  n5 : b.fis.length ≤ 3000000000000
def lenL (b : Bk) : Nat := b.fs.length + b.ags.length + b.os.length + b.ts.length + b.fis.length
theorem c5 (w : World) (hb : BZ w A b) (ho : BkOk b) (hl : Lens b) : RetQ Tryz.prog 5 #[A.v] w fun v _ => ∃ q, v = .bool q ∧ (q = true → lenL b ≤ 600) := by
  intro R h
  refine f5_calls _ _ _ _ _ _ _ _ _ _ _ _ _ _ _ _ _ _ _ _ _ _ _ _ _ _ w R ?_
  unfold f5_vc
  obtain ⟨n1, n2, n3, n4, n5⟩ := hl
  have e1 := hb.fs.1
  have e2 := hb.ags.1
  have e3 := hb.os.1
  have e4 := hb.ts.1
  have e5 := hb.fis.1
  have hL : lenL b = A.f.2.1 + A.a.2.1 + A.o.2.1 + A.t.2.1 + A.l.2.1 := by rw [e1, e2, e3, e4, e5]; rfl
  intro g1 hg1
  refine ⟨fun s W => At w [g1] W ∧ ∃ i m : Nat, s.1 = m ∧ s.2.1 = i ∧ i ≤ A.a.2.1 ∧ lenL b ≤ m ∧ m ≤ lenL b + 264 * i, fun s _ => A.a.2.1 - s.2.1.toNat, go_below (At.refl w) fun w4 hA => ⟨hA, 0, lenL b, ?_, rfl, Nat.zero_le _, Nat.le_refl _, Nat.le_refl _⟩, ?_⟩
  · simp only
    rw [add_i (by omega), add_i (by omega), add_i (by omega), add_i (by omega), hL]
  rintro x5 x6 w7 ⟨hA, i, m, hm, hi, hil, hm1, hm2⟩
  simp only at hi hm
  subst hi hm
  refine brD (fun hlt => ?_) fun hge => ?_
  · obtain ⟨r, hr⟩ : ∃ r, b.ags[i]? = some r := ⟨_, List.getElem?_eq_getElem (by omega)⟩
    have hrm := List.mem_of_getElem? hr
    obtain ⟨v1, v2⟩ := ho.ags r hrm
    have q1 := ZW.vec_len' v1
    have q2 := ZW.vec_len' v2
    have p1 := (hb.agk r hrm).2.1.1
    have p2 := (hb.agk r hrm).2.2.1
    obtain ⟨ad, k1, el, _⟩ := elt_at (P := Tryz.prog) (k := .i64) (t := 26) (hb.bel hA.below).ags hr (e := 45) (by kernel_rfl) (by kernel_rfl)
    rw [succ_z i (by omega)]
    refine ⟨ad, k1, _, _, _, (el.sub (o := 1) (by decide)).one (by kernel_rfl) no_ds, ad, k1, _, _, _, (el.sub (o := 2) (by decide)).one (by kernel_rfl) no_ds, go_below hA fun w16 hA => ⟨⟨hA, i + 1, m + r.tot.2.2.1 + r.fre.2.2.1, ?_, rfl, by omega, by omega, by omega⟩, by simp only; omega⟩⟩
    simp only
    rw [add_i (by omega), add_i (by omega)]
  refine ⟨fun s W => At w [g1] W ∧ ∃ i m : Nat, s.1 = m ∧ s.2.1 = i ∧ i ≤ A.o.2.1 ∧ lenL b ≤ m ∧ m ≤ lenL b + 264 * (A.a.2.1) + 132 * i, fun s _ => A.o.2.1 - s.2.1.toNat, ⟨hA, 0, m, rfl, rfl, Nat.zero_le _, by omega, by omega⟩, ?_⟩
  rintro x x' w3 ⟨hA, i3, m3, hm, hi, hil3, hm13, hm23⟩
  simp only at hi hm
  subst hi hm
  refine brD (fun hlt => ?_) fun hge3 => ?_
  · obtain ⟨r, hr⟩ : ∃ r, b.os[i3]? = some r := ⟨_, List.getElem?_eq_getElem (by omega)⟩
    have hrm := List.mem_of_getElem? hr
    have q1 := ZW.vec_len' (ho.os r hrm)
    have p1 := (hb.ok r hrm).2.1
    obtain ⟨ad, k1, el, _⟩ := elt_at (P := Tryz.prog) (k := .i64) (t := 27) (hb.bel hA.below).os hr (e := 47) (by kernel_rfl) (by kernel_rfl)
    rw [succ_z i3 (by omega)]
    exact ⟨ad, k1, _, _, _, (el.sub (o := 3) (by decide)).one (by kernel_rfl) no_ds, ⟨hA, i3 + 1, m3 + r.v.2.2.1, add_i (by omega), rfl, by omega, by omega, by omega⟩, by simp only; omega⟩
  refine ⟨fun s W => At w [g1] W ∧ ∃ i m : Nat, s.1 = m ∧ s.2.1 = i ∧ i ≤ A.t.2.1 ∧ lenL b ≤ m ∧ m ≤ lenL b + 264 * (A.a.2.1 + A.o.2.1) + 132 * i, fun s _ => A.t.2.1 - s.2.1.toNat, ⟨hA, 0, m3, rfl, rfl, Nat.zero_le _, by omega, by omega⟩, ?_⟩
  rintro x x' w4 ⟨hA, i4, m4, hm, hi, hil4, hm14, hm24⟩
  simp only at hi hm
  subst hi hm
  refine brD (fun hlt => ?_) fun hge4 => ?_
  · obtain ⟨r, hr⟩ : ∃ r, b.ts[i4]? = some r := ⟨_, List.getElem?_eq_getElem (by omega)⟩
    have hrm := List.mem_of_getElem? hr
    have q1 := ZW.vec_len' (ho.ts r hrm)
    have p1 := (hb.tk r hrm).2.1
    obtain ⟨ad, k1, el, _⟩ := elt_at (P := Tryz.prog) (k := .i64) (t := 28) (hb.bel hA.below).ts hr (e := 49) (by kernel_rfl) (by kernel_rfl)
    rw [succ_z i4 (by omega)]
    exact ⟨ad, k1, _, _, _, (el.sub (o := 3) (by decide)).one (by kernel_rfl) no_ds, ⟨hA, i4 + 1, m4 + r.v.2.2.1, add_i (by omega), rfl, by omega, by omega, by omega⟩, by simp only; omega⟩
  refine ⟨fun s W => At w [g1] W ∧ ∃ i m : Nat, s.1 = m ∧ s.2.1 = i ∧ i ≤ A.l.2.1 ∧ lenL b ≤ m ∧ m ≤ lenL b + 264 * (A.a.2.1 + A.o.2.1 + A.t.2.1) + 132 * i, fun s _ => A.l.2.1 - s.2.1.toNat, ⟨hA, 0, m4, rfl, rfl, Nat.zero_le _, by omega, by omega⟩, ?_⟩
  rintro x x' w5 ⟨hA, i5, m5, hm, hi, hil5, hm15, hm25⟩
  simp only at hi hm
  subst hi hm
  refine brD (fun hlt => ?_) fun hge5 => leafq h hA ⟨_, rfl, fun hq => by have := of_decide_eq_true hq; omega⟩
  · obtain ⟨r, hr⟩ : ∃ r, b.fis[i5]? = some r := ⟨_, List.getElem?_eq_getElem (by omega)⟩
    have hrm := List.mem_of_getElem? hr
    have q1 := ZW.vec_len' (ho.fis r hrm)
    have p1 := (hb.fik r hrm).2.1
    obtain ⟨ad, k1, el, _⟩ := elt_at (P := Tryz.prog) (k := .i64) (t := 29) (hb.bel hA.below).fis hr (e := 51) (by kernel_rfl) (by kernel_rfl)
    rw [succ_z i5 (by omega)]
    exact ⟨ad, k1, _, _, _, (el.sub (o := 3) (by decide)).one (by kernel_rfl) no_ds, ⟨hA, i5 + 1, m5 + r.v.2.2.1, add_i (by omega), rfl, by omega, by omega, by omega⟩, by simp only; omega⟩
/-- Frames with the Times of others. -/
def tmF : Option Fr → Fr → Fr
  | some g, f => { f with time := g.time }
  | none, f => f
def tmL : List Fr → List Fr → List Fr
  | _, [] => []
  | [], f :: fs => f :: fs
  | g :: gs, f :: fs => { f with time := g.time } :: tmL gs fs
theorem tmL_nil (l : List Fr) : tmL [] l = l := by cases l <;> rfl
theorem tmL_get : ∀ (l m : List Fr) (i : Nat), (tmL l m)[i]? = (m[i]?).map fun f => tmF l[i]? f
  | l, [], i => by cases l <;> simp [tmL]
  | [], f :: fs, i => by
    rw [tmL_nil]
    cases h : (f :: fs)[i]? <;> simp [tmF]
  | g :: gs, f :: fs, 0 => by simp [tmL, tmF]
  | g :: gs, f :: fs, i + 1 => by
    rw [tmL, List.getElem?_cons_succ, List.getElem?_cons_succ, List.getElem?_cons_succ, tmL_get gs fs i]
theorem tmL_len : ∀ l m : List Fr, (tmL l m).length = m.length
  | l, [] => by cases l <;> rfl
  | [], f :: fs => rfl
  | g :: gs, f :: fs => by rw [tmL, List.length_cons, List.length_cons, tmL_len gs fs]
theorem tm_take {l m : List Fr} {i : Nat} {f : Fr} (h : m[i]? = some f) : (tmL l m).take (i + 1) = (tmL l m).take i ++ [tmF l[i]? f] := by
  rw [List.take_add_one, tmL_get, h]
  rfl
theorem fr_iff {x y : Fr} : frQ x { y with time := x.time } = true ↔ frC x = frC y := by
  unfold frQ frC
  simp only [Bool.and_eq_true, beq_iff_eq, Prod.mk.injEq, Bool.and_true]
  constructor
  · rintro ⟨h1, h2, h3, h4, h5, _, h7⟩
    exact ⟨h1, h2, h3, h4, h5, h7⟩
  · rintro ⟨h1, h2, h3, h4, h5, h7⟩
    exact ⟨h1, h2, h3, h4, h5, trivial, h7⟩
theorem frs_iff : ∀ {l m : List Fr}, eqL frQ l (tmL l m) = true ↔ l.map frC = m.map frC
  | [], [] => by simp [eqL, tmL]
  | [], f :: fs => by simp [eqL, tmL]
  | g :: gs, [] => by simp [eqL, tmL]
  | g :: gs, f :: fs => by rw [tmL, eqL, Bool.and_eq_true, fr_iff, frs_iff, List.map_cons, List.map_cons, List.cons.injEq]
theorem eqL_iff {α β : Type} {e : α → α → Bool} {f : α → β} (h : ∀ x y, e x y = true ↔ f x = f y) : ∀ {l m : List α}, eqL e l m = true ↔ l.map f = m.map f
  | [], [] => by simp [eqL]
  | [], f :: fs => by simp [eqL]
  | g :: gs, [] => by simp [eqL]
  | g :: gs, f :: fs => by rw [eqL, Bool.and_eq_true, h, eqL_iff h, List.map_cons, List.map_cons, List.cons.injEq]
theorem ag_iff (x y : Ag) : agQ x y = true ↔ agC x = agC y := by
  unfold agQ agC eqV
  simp only [Bool.and_eq_true, beq_iff_eq, Prod.mk.injEq, decide_eq_true_eq]
theorem of_iff (x y : Of) : ofQ x y = true ↔ ofC x = ofC y := by
  unfold ofQ ofC eqV
  simp only [Bool.and_eq_true, beq_iff_eq, Prod.mk.injEq, decide_eq_true_eq]
  constructor
  · rintro ⟨h1, h2, h3, h4, h5⟩
    exact ⟨h1, h2, h3, h5, h4⟩
  · rintro ⟨h1, h2, h3, h4, h5⟩
    exact ⟨h1, h2, h3, h5, h4⟩
theorem tk_iff (x y : Tk) : tkQ x y = true ↔ tkC x = tkC y := by
  unfold tkQ tkC eqV
  simp only [Bool.and_eq_true, beq_iff_eq, Prod.mk.injEq, decide_eq_true_eq]
theorem fi_iff (x y : Fi) : fiQ x y = true ↔ fiC x = fiC y := by
  unfold fiQ fiC
  rw [beq_iff_eq]
  constructor
  · intro h
    exact ZW.aF_eq h
  · intro h
    rw [show fiT x = fiT y from h]
    exact ZW.aF_self _
/-- The document's word and the text's: alike. -/
theorem told {A B : ZW.BkA} {a b b' : Bk} (ha : BkOk a) (hb : BkOk b) (hn : A.now = a.now ∧ A.last = a.last) (hm : B.now = b.now ∧ B.last = b.last) (hc : cfQ A B = true) (hf : b'.fs = tmL a.fs b.fs) (h2 : b'.ags = b.ags) (h3 : b'.os = b.os) (h4 : b'.ts = b.ts) (h5 : b'.fis = b.fis) : sameQ A B a b' = decide (bkT a = bkT b) := by
  rw [Bool.eq_iff_iff, decide_eq_true_eq]
  unfold sameQ sameL
  rw [hc, hf, h2, h3, h4, h5, hn.1, hn.2, hm.1, hm.2]
  simp only [Bool.true_and, Bool.and_eq_true, frs_iff, eqL_iff ag_iff, eqL_iff of_iff, eqL_iff tk_iff, eqL_iff fi_iff, Bool.not_eq_true', bne_eq_false_iff_eq]
  constructor
  · rintro ⟨k1, k2, k3, k4, k5, k6, k7⟩
    exact alike_told ⟨k1, k2⟩ k3 k4 k5 k6 k7
  · intro h
    obtain ⟨⟨k1, k2⟩, k3, k4, k5, k6, k7⟩ := book_alike ha hb h
    exact ⟨k1, k2, k3, k4, k5, k6, k7⟩
end Go.Vc.ZR

