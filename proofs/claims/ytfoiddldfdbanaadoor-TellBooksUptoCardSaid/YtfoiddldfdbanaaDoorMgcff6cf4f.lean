/- Own texts of this claim, laid together: QT3, QT4, VcInv, QT5, QT6, QT7, QBld, QF4, QT8, QT9, QTa, QTd, QTe, QTf, QTg, QTh, QTi, QTj, QTb, VcArg, QTc, QTk. -/
import Derived.Test.YtfoiddldfdbanaaDoorMg17c79a90
import Derived.Laws.Cover4
import Derived.Shelf.Strings.BuilderK
import Derived.Shelf.Strings.BuilderRune
import Derived.Test.YtfoiddldfdbanaaDoorProg
import Derived.Lib.LaidTab
import Derived.OpenShut
import Derived.LaidMore
import Derived.HandedShaped
import Derived.Test.YtfoiddldfdbanaaDoorRows
import Derived.ProofKit
import Derived.SizedLaws
import Derived.ChangeSame
import Derived.Deep.Slices

/- Tell: the document's events and replies. -/
set_option maxRecDepth 20000
set_option maxHeartbeats 2000000
set_option linter.unusedVariables false
namespace Go.Vc.Q
open Go Go.Vc Go.Vc.V Go.RowKit Go.Proofs Vcq

variable {w W W' W1 : World} {M N : Nat → Prop} {gs ds : List Nat} {n : Int} {l : List PartT} {a : Option Addr} {ln lc : Nat} {L : List ByteArray} {wh : List UInt8}

/-- Words, with blanks between. -/
def jnB (L : List ByteArray) : ByteArray := bs (Lib.join (L.map (·.data.toList)) [32])
theorem bs_data (s : ByteArray) : bs s.data.toList = s := ba_ext (by unfold bs; simp)
theorem jnB_one (x : ByteArray) : jnB [x] = x := by
  unfold jnB
  rw [List.map_singleton, Lib.join_one]
  exact bs_data x
theorem jnB_snoc (h : L ≠ []) (x : ByteArray) : jnB (L ++ [x]) = jnB L ++ bs [32] ++ x := by
  cases L with
  | nil => exact absurd rfl h
  | cons y L =>
    unfold jnB
    rw [List.map_append, List.map_cons, List.map_singleton, join_snoc]
    conv => rhs; rw [← bs_data x]
    rw [bs_append, bs_append]
theorem ap_size (a b : ByteArray) : (a ++ b).size = a.size + b.size := ByteArray.size_append
structure Ev where
  k : Int
  fr : Int
  id : Int
  ag : Int
  v : List PartT
structure EvI (e : Ev) : Prop where
  k : I64 e.k
  fr : I64 e.fr
  id : I64 e.id
  ag : I64 e.ag
def inK (k : Int) : Bool := decide (1 ≤ k ∧ k ≤ 19)
def wF (e : Ev) : List ByteArray := if e.k ≥ 3 then [bs [102, 114, 97, 109, 101], numB e.fr] else []
def wI (e : Ev) : List ByteArray := if e.k ≥ 6 ∧ e.k ≤ 17 then [bs [105, 100], numB e.id] else []
def wA (e : Ev) : List ByteArray := if e.k ≥ 6 ∨ e.k ≤ 2 then [bs [97, 103, 101, 110, 116], numB e.ag] else []
noncomputable def wV (e : Ev) : List ByteArray := if e.k ≥ 6 ∨ e.k = 1 then [vecT e.v] else []
noncomputable def evL (e : Ev) : List ByteArray := if inK e.k = true then [kindT e.k] ++ wF e ++ wI e ++ wA e ++ wV e else [kindT e.k]
noncomputable def evT (e : Ev) : ByteArray := jnB (evL e)
theorem vec_size (l : List PartT) : (vecT l).size ≤ 200000 := by
  unfold vecT
  split
  · exact text_small l
  · rw [bs_size]; decide
/-- Two words more. -/
theorem jn_two (h : L ≠ []) (x y : List UInt8) : jnB L ++ bs ([32] ++ x ++ [32]) ++ bs y = jnB (L ++ [bs x, bs y]) := by
  rw [show L ++ [bs x, bs y] = (L ++ [bs x]) ++ [bs y] by simp, jnB_snoc (by simp), jnB_snoc h]
  rw [← bs_append, ← bs_append]
  apply ba_ext
  simp
section
variable (e : Ev) (va : Option Addr) (vn vc n1 : Nat) (R : Ending → World → Prop)
def fVv (s : ByteArray) (W : World) : Prop := ∃ s21, Gives Tryd.prog (binOpS .add 9 (.tmp 61) (.const (.string (bs [32]))) (.string s) (.string (bs [32]))) (.string s21) ∧ Calls Tryd.prog 30 #[.slice va vn vc] W fun e22 w23 => ∃ s24, e22 = .returned (.string s24) ∧ Keeps [n1] W w23 ∧ ∃ s25, Gives Tryd.prog (binOpS .add 9 (.tmp 62) (.tmp 65) (.string s21) (.string s24)) (.string s25) ∧ R (.returned (.string s25)) w23
def fV (s : ByteArray) (W : World) : Prop := ((e.k == 1) = true → fVv va vn vc n1 R s W) ∧ ((e.k == 1) = false → (decide (e.k ≥ 6) = true → fVv va vn vc n1 R s W) ∧ (decide (e.k ≥ 6) = false → R (.returned (.string s)) W))
def fNum (i1 i2 i3 : Nat) (wd : List UInt8) (x : Int) (K : ByteArray → World → Prop) (s : ByteArray) (W : World) : Prop := ∃ s6, Gives Tryd.prog (binOpS .add 9 (.tmp i1) (.const (.string (bs ([32] ++ wd ++ [32])))) (.string s) (.string (bs ([32] ++ wd ++ [32])))) (.string s6) ∧ Calls Tryd.prog 20 #[.int .i64 x] W fun e7 w8 => ∃ s9, e7 = .returned (.string s9) ∧ Keeps [n1] W w8 ∧ ∃ s10, Gives Tryd.prog (binOpS .add 9 (.tmp i2) (.tmp i3) (.string s6) (.string s9)) (.string s10) ∧ K s10 w8
def fA (s : ByteArray) (W : World) : Prop := (decide (e.k ≤ 2) = true → fNum n1 47 48 51 [97, 103, 101, 110, 116] e.ag (fV e va vn vc n1 R) s W) ∧ (decide (e.k ≤ 2) = false → (decide (e.k ≥ 6) = true → fNum n1 47 48 51 [97, 103, 101, 110, 116] e.ag (fV e va vn vc n1 R) s W) ∧ (decide (e.k ≥ 6) = false → fV e va vn vc n1 R s W))
def fI (s : ByteArray) (W : World) : Prop := (decide (e.k ≥ 6) = true → (decide (e.k ≤ 17) = true → fNum n1 33 34 37 [105, 100] e.id (fA e va vn vc n1 R) s W) ∧ (decide (e.k ≤ 17) = false → fA e va vn vc n1 R s W)) ∧ (decide (e.k ≥ 6) = false → fA e va vn vc n1 R s W)
def fF (s : ByteArray) (W : World) : Prop := (decide (e.k ≥ 3) = true → fNum n1 19 20 23 [102, 114, 97, 109, 101] e.fr (fI e va vn vc n1 R) s W) ∧ (decide (e.k ≥ 3) = false → fI e va vn vc n1 R s W)
end
variable {e : Ev} {va : Option Addr} {vn vc n1 : Nat} {R : Ending → World → Prop}
theorem hNum {i1 i2 i3 : Nat} {wd : List UInt8} {x : Int} {K : ByteArray → World → Prop} (hx : I64 x) (hwd : wd.length ≤ 10) (hL : L ≠ []) (hs : (jnB L).size ≤ 1000) (hA : At w [n1] W) (hK : ∀ W', At w [n1] W' → (jnB (L ++ [bs wd, numB x])).size ≤ (jnB L).size + 50 → K (jnB (L ++ [bs wd, numB x])) W') : fNum n1 i1 i2 i3 wd x K (jnB L) W := by
  have nl := num_len hx
  have e1 := jn_two hL wd (Lib.itoa x)
  refine ⟨_, gives_sadd ?_, at_callb hA (c20 x hx W) fun w8 hA hk _ => ⟨_, rfl, hk, _, gives_sadd ?_, ?_⟩⟩
  · rw [bs_size]
    simp only [List.length_append, List.length_singleton]
    omega
  · rw [ap_size, bs_size]
    simp only [List.length_append, List.length_singleton]
    omega
  · unfold numB at hK nl ⊢
    rw [e1]
    refine hK w8 hA ?_
    rw [← e1, ap_size, ap_size, bs_size]
    simp only [List.length_append, List.length_singleton]
    omega
theorem hV (hv : SlE w 3 partE e.v va vn vc) (hL : L ≠ []) (hs : (jnB L).size ≤ 1000) (hA : At w [n1] W) (hR : ∀ W', At w [n1] W' → R (.returned (.string (jnB (L ++ wV e)))) W') : fV e va vn vc n1 R (jnB L) W := by
  have hvv : (e.k ≥ 6 ∨ e.k = 1) → fVv va vn vc n1 R (jnB L) W := fun hh => by
    have hz := vec_size e.v
    refine ⟨_, gives_sadd (by rw [bs_size]; simp only [List.length_singleton]; omega), at_callb hA (c30 W (hv.call hA.below)) fun w23 hA hk _ => ⟨_, rfl, hk, _, gives_sadd (by rw [ap_size, bs_size]; simp only [List.length_singleton]; omega), ?_⟩⟩
    have := hR w23 hA
    unfold wV at this
    rw [if_pos hh, jnB_snoc hL] at this
    exact this
  refine brE (fun h1 => hvv (.inr h1)) fun h1 => brD (fun h6 => hvv (.inl h6)) fun h6 => ?_
  have := hR W hA
  unfold wV at this
  rw [if_neg (fun hh => hh.elim h6 h1), List.append_nil] at this
  exact this
theorem hA_ (hI : EvI e) (hv : SlE w 3 partE e.v va vn vc) (hL : L ≠ []) (hs : (jnB L).size ≤ 900) (hA : At w [n1] W) (hR : ∀ W', At w [n1] W' → R (.returned (.string (jnB (L ++ wA e ++ wV e)))) W') : fA e va vn vc n1 R (jnB L) W := by
  have yes : (e.k ≥ 6 ∨ e.k ≤ 2) → fNum n1 47 48 51 [97, 103, 101, 110, 116] e.ag (fV e va vn vc n1 R) (jnB L) W := fun hh =>
    hNum hI.ag (by decide) hL (by omega) hA fun W' hA hz => hV hv (by simp) (by omega) hA fun W'' hA => by
      have := hR W'' hA
      unfold wA at this
      rw [if_pos hh] at this
      exact this
  refine brD (fun h2 => yes (.inr h2)) fun h2 => brD (fun h6 => yes (.inl h6)) fun h6 => hV hv hL (by omega) hA fun W' hA => ?_
  have := hR W' hA
  unfold wA at this
  rw [if_neg (fun hh => hh.elim h6 h2), List.append_nil] at this
  exact this
theorem hI_ (hI : EvI e) (hv : SlE w 3 partE e.v va vn vc) (hL : L ≠ []) (hs : (jnB L).size ≤ 800) (hA : At w [n1] W) (hR : ∀ W', At w [n1] W' → R (.returned (.string (jnB (L ++ wI e ++ wA e ++ wV e)))) W') : fI e va vn vc n1 R (jnB L) W := by
  have no : ¬ (e.k ≥ 6 ∧ e.k ≤ 17) → fA e va vn vc n1 R (jnB L) W := fun hh => hA_ hI hv hL (by omega) hA fun W' hA => by
    have := hR W' hA
    unfold wI at this
    rw [if_neg hh, List.append_nil] at this
    exact this
  refine brD (fun h6 => brD (fun h17 => hNum hI.id (by decide) hL (by omega) hA fun W' hA hz => hA_ hI hv (by simp) (by omega) hA fun W'' hA => ?_) fun h17 => no (fun hh => h17 hh.2)) fun h6 => no (fun hh => h6 hh.1)
  have := hR W'' hA
  unfold wI at this
  rw [if_pos ⟨h6, h17⟩] at this
  exact this
theorem kind_size {k : Int} (hk : I64 k) : (kindT k).size ≤ 100 := by
  unfold kindT wordT
  split
  · have : ∀ x ∈ kindsL, x.size ≤ 100 := by decide
    cases hx : kindsL[k.toNat]? with
    | none => show (bs []).size ≤ 100; decide
    | some x => exact this x (List.mem_of_getElem? hx)
  · have := Lib.itoa_length_le k hk.1 hk.2
    rw [bs_size]
    simp only [List.length_append, List.length_cons, List.length_nil]
    omega
theorem c18 (e : Ev) (hI : EvI e) (w : World) (hv : SlE w 3 partE e.v a ln lc) : Ret Tryd.prog 18 #[.agg #[.int .i64 e.k, .int .i64 e.fr, .int .i64 e.id, .int .i64 e.ag, .slice a ln lc]] w (.string (evT e)) := by
  intro R h
  refine f18_calls _ _ _ _ _ _ _ w R ?_
  unfold f18_vc
  refine fun n1 hn1 => go_below_too (At.refl w) fun w2 hA hb2 => ?_
  have hkz := kind_size hI.k
  refine at_callb hA (c11 hI.k w2) fun w4 hA hk hb4 => ⟨_, rfl, hk, ?_⟩
  have out : ¬ (1 ≤ e.k ∧ e.k ≤ 19) → R (.returned (.string (kindT e.k))) w4 := fun hh => leaf h hA (by
    unfold evT evL inK
    rw [if_neg (by simpa using hh), jnB_one])
  refine brD (fun h1 => out (by omega)) fun h1 => brD (fun h19 => out (by omega)) fun h19 => ?_
  have e1 : kindT e.k = jnB [kindT e.k] := (jnB_one _).symm
  have fin : ∀ W', At w [n1] W' → R (.returned (.string (jnB ([kindT e.k] ++ wF e ++ wI e ++ wA e ++ wV e)))) W' := fun W' hA => leaf h hA (by
    unfold evT evL inK
    rw [if_pos (by simp; omega)])
  have key : fF e a ln lc n1 R (jnB [kindT e.k]) w4 := by
    refine brD (fun h3 => hNum hI.fr (by decide) (by simp) (by rw [jnB_one]; omega) hA fun W' hA hz => hI_ hI hv (by simp) (by rw [jnB_one] at hz; omega) hA fun W'' hA => ?_) fun h3 => hI_ hI hv (by simp) (by rw [jnB_one]; omega) hA fun W' hA => ?_
    · have := fin W'' hA
      unfold wF at this
      rw [if_pos h3] at this
      exact this
    · have := fin W' hA
      unfold wF at this
      rw [if_neg h3, List.append_nil] at this
      exact this
  rw [e1]
  exact key
end Go.Vc.Q

/- Tell: the document's reply; few. -/
set_option maxRecDepth 20000
set_option maxHeartbeats 2000000
set_option linter.unusedVariables false
namespace Go.Vc.Q
open Go Go.Vc Go.Vc.V Go.RowKit Go.Proofs Vcq

variable {w W W' W1 : World} {M N : Nat → Prop} {gs ds : List Nat} {n : Int} {l : List PartT} {a : Option Addr} {ln lc : Nat} {L : List ByteArray} {wh : List UInt8}

theorem jnB_sizeN : ∀ (n : Nat) (L : List ByteArray), L.length = n → (jnB L).size ≤ (L.map (·.size)).sum + L.length
  | 0, L, h => by
    rw [List.eq_nil_of_length_eq_zero h]
    decide
  | n + 1, L, h => by
    have hne : L ≠ [] := fun e => by rw [e] at h; cases h
    have e := List.dropLast_concat_getLast hne
    have ih := jnB_sizeN n L.dropLast (by rw [List.length_dropLast, h]; rfl)
    rw [← e]
    by_cases h0 : L.dropLast = []
    · rw [h0, List.nil_append, jnB_one]
      simp
    · rw [jnB_snoc h0, ap_size, ap_size, bs_size, List.map_append, List.sum_append, List.length_append]
      simp only [List.length_singleton, List.map_singleton, List.sum_singleton]
      omega
theorem jnB_size (L : List ByteArray) : (jnB L).size ≤ (L.map (·.size)).sum + L.length := jnB_sizeN _ L rfl
theorem ev_size {e : Ev} (h : EvI e) : (evT e).size ≤ 300000 := by
  have h1 := jnB_size (evL e)
  have k1 := kind_size h.k
  have k2 := num_len h.fr
  have k3 := num_len h.id
  have k4 := num_len h.ag
  have k5 := vec_size e.v
  have z : ∀ l : List UInt8, (bs l).size = l.length := bs_size
  unfold evT
  refine Nat.le_trans h1 ?_
  unfold evL wF wI wA wV
  split
  · split <;> split <;> split <;> split <;> simp [z] <;> omega
  · simp
    omega
abbrev ER := Ev × (Option Addr × Nat × Nat)
abbrev evE (r : ER) : List Value := [.int .i64 r.1.k, .int .i64 r.1.fr, .int .i64 r.1.id, .int .i64 r.1.ag, .slice r.2.1 r.2.2.1 r.2.2.2]
/-- Events in memory. -/
structure Evs (W : World) (rows : List ER) (a : Option Addr) (ln lc : Nat) : Prop where
  sl : SlE W 5 evE rows a ln lc
  ok : ∀ r ∈ rows, EvI r.1 ∧ SlE W 3 partE r.1.v r.2.1 r.2.2.1 r.2.2.2
theorem Evs.low {rows : List ER} (h : Evs W rows a ln lc) (hb : Below W.heap.size W W') : Evs W' rows a ln lc := ⟨h.sl.mono (cell_below hb) fun _ _ h => h, fun r hr => ⟨(h.ok r hr).1, (h.ok r hr).2.mono (cell_below hb) fun _ _ h => h⟩⟩
theorem Evs.call {rows : List ER} (h : Evs W rows a ln lc) (hb : Bel W W') : Evs W' rows a ln lc := h.low hb.below
noncomputable def repT (code : Int) (evs : List Ev) : ByteArray := evs.foldl (fun s e => s ++ bs [59, 32] ++ evT e) (errT code)
theorem rep_snoc (code : Int) (evs : List Ev) (e : Ev) : repT code (evs ++ [e]) = repT code evs ++ bs [59, 32] ++ evT e := by
  unfold repT
  rw [List.foldl_append]
  rfl
theorem err_size {k : Int} (hk : I64 k) : (errT k).size ≤ 100 := by
  unfold errT wordT
  split
  · have : ∀ x ∈ errsL, x.size ≤ 100 := by decide
    cases hx : errsL[k.toNat]? with
    | none => show (bs []).size ≤ 100; decide
    | some x => exact this x (List.mem_of_getElem? hx)
  · have := Lib.itoa_length_le k hk.1 hk.2
    rw [bs_size]
    simp only [List.length_append, List.length_cons, List.length_nil]
    omega
theorem c7 {rows : List ER} {code : Int} (hc : I64 code) (w : World) (hE : Evs w rows a ln lc) (hl : rows.length ≤ 30000000000000) : Ret Tryd.prog 7 #[.agg #[.int .i64 code, .slice a ln lc]] w (.string (repT code (rows.map (·.1)))) := by
  intro R h
  refine f7_calls _ _ _ _ w R ?_
  unfold f7_vc
  have hln := hE.sl.1
  have ez := err_size hc
  refine fun n1 hn1 => go_below_too (At.refl w) fun w2 hA hb2 => ?_
  refine at_callb hA (c9 hc w2) fun w4 hA hk hb4 => ⟨_, rfl, hk, ?_⟩
  refine ⟨fun s W => At w [n1] W ∧ ∃ i : Nat, s.2.1 = i ∧ i ≤ ln ∧ s.1 = repT code ((rows.take i).map (·.1)) ∧ s.1.size ≤ 1000 + i * 300002, fun s _ => ln - s.2.1.toNat, ⟨hA, 0, rfl, Nat.zero_le _, rfl, by simp only; omega⟩, ?_⟩
  rintro s8 x9 w10 ⟨hA, i, hi, hil, hs, hz⟩
  simp only at hi hs hz
  subst hi hs
  have hw : IntKind.i64.wrap ((i : Int) + 1) = ((i + 1 : Nat) : Int) := by rw [wrap_i64 (by omega) (by omega)]; omega
  refine brD (fun hlt => ?_) fun hge => ?_
  · have him : i < rows.length := by omega
    obtain ⟨r, hr⟩ : ∃ r, rows[i]? = some r := ⟨_, List.getElem?_eq_getElem him⟩
    have hE10 := hE.call hA.below
    obtain ⟨hI, hv⟩ := hE10.ok r (List.mem_of_getElem? hr)
    have evz := ev_size hI
    obtain ⟨ad, g1, el, _⟩ := elt_at (P := Tryd.prog) (k := .i64) (t := 23) hE10.sl hr (e := 47) (by kernel_rfl) (by kernel_rfl)
    have e59 : ByteArray.mk #[59, 32] = bs [59, 32] := rfl
    have tk : (rows.take (i + 1)).map (·.1) = (rows.take i).map (·.1) ++ [r.1] := by rw [List.take_add_one, hr, Option.toList_some, List.map_append]; rfl
    rw [e59, hw]
    refine ⟨_, gives_sadd ?_, ad, g1, _, _, _, _, _, _, _, el.agg 5 (by kernel_rfl) (by kernel_rfl) (by simp) no_ds, at_callb hA (c18 r.1 hI w10 hv) fun w21 hA hk _ => ⟨_, rfl, hk, _, gives_sadd ?_, ⟨hA, i + 1, rfl, by omega, ?_, ?_⟩, by simp only; omega⟩⟩
    · rw [bs_size]
      simp only [List.length_cons, List.length_nil]
      omega
    · rw [ap_size, bs_size]
      simp only [List.length_cons, List.length_nil]
      omega
    · rw [tk, rep_snoc]
    · simp only [ap_size, bs_size, List.length_cons, List.length_nil]
      omega
  · rw [List.take_of_length_le (by omega)]
    exact leaf h hA rfl
end Go.Vc.Q

/- Calls of functions' values. -/
namespace Go.Vc
open Go Go.RowKit
section
variable {P : Program} {w W : World} {M : Nat → Prop} {gs : List Nat} {fv : Value}

/-- A call of a function's value that returns a value, and changes nothing. -/
def RetI (P : Program) (fv : Value) (args : Array Value) (W : World) (v : Value) : Prop := ∀ K : Value → World → Prop, (∀ w', Bel W w' → K v w') → OpW P (invokeS fv args) W K
theorem opw_invoke {f : FuncId} {first cap args : Array Value} {K : Value → World → Prop} (he : pureRun P (invokeS (.func (.func f) first cap) args) = some (.enter f ((first ++ args) ++ cap))) (h : Calls P f ((first ++ args) ++ cap) W fun e w' => ∃ v, e = .returned v ∧ K v w') : OpW P (invokeS (.func (.func f) first cap) args) W K := by
  unfold OpW
  rw [pureRun_run he W]
  exact h
theorem RetI.of {f : FuncId} {first cap args : Array Value} {v : Value} (he : pureRun P (invokeS (.func (.func f) first cap) args) = some (.enter f ((first ++ args) ++ cap))) (h : Ret P f ((first ++ args) ++ cap) W v) : RetI P (.func (.func f) first cap) args W v := fun _ hK => opw_invoke he (h _ fun w' hb => ⟨v, rfl, hK w' hb⟩)
theorem at_inv {args : Array Value} {v : Value} {K : Value → World → Prop} (hA : AtF w M gs W) (hc : RetI P fv args W v) (hK : ∀ w', AtF w M gs w' → Keeps gs W w' → Bel W w' → K v w') : OpW P (invokeS fv args) W K := hc K fun w' hb => hK w' (hA.call hb) (hA.keeps hb) hb
end
end Go.Vc

/- Tell: words put together; an event. -/
set_option maxRecDepth 20000
set_option maxHeartbeats 2000000
set_option linter.unusedVariables false
namespace Go.Vc.Q
open Go Go.Vc Go.Vc.V Go.RowKit Go.Proofs Vcq

variable {w W W' W1 : World} {gs ds : List Nat} {n : Int} {l : List PartT} {a : Option Addr} {ln lc c : Nat} {L M : List ByteArray} {wh : List UInt8} {p3 p15 : Nat} {e : Ev} {va : Option Addr} {vn vc : Nat}

theorem nodQ {q : Nat} : ∀ d ∈ ([] : List Nat), d ≠ q := fun _ h => by cases h
theorem jn_len (L : List ByteArray) : (Lib.join (L.map (·.data.toList)) [32]).length = (jnB L).size := by
  unfold jnB
  rw [bs_size]
theorem c23 {N : Nat → Prop} (ho : OwnF w N gs W 9 1 strE (.slice a L.length c) L) (h0 : L ≠ []) (hl : L.length ≤ 1000000) (hz : (jnB L).size ≤ 1000000000000) : RetW Tryd.prog 23 #[.slice a L.length c] W (.string (jnB L)) := by
  intro R h
  refine f23_calls _ _ _ W R ?_
  unfold f23_vc
  obtain ⟨g, cur, hv, _, hg, hlc, hcm, _, _⟩ := ho.ptr (List.length_pos_iff.2 h0)
  have hsl := ho.sl fun _ _ => rfl
  cases hv
  refine (Tryd.strings_Join g 0 c L (ByteArray.mk #[32]) W (fun j x hx => ?_) (Array.getElem?_eq_some_iff.1 hg).1 (by omega) hlc (by
    have := jn_len L
    show (Lib.join _ [32]).length ≤ _
    omega)).mono fun e w40 ⟨he, hb⟩ => ⟨_, he, ?_⟩
  · obtain ⟨ad, cs, ha, _, hcs, rfl⟩ := hsl.at_ hx
    cases ha
    have := hcs 0 _ rfl
    rw [addr_add_add _ _ _ rfl, addr_add] at this
    simpa using this
  · exact h w40 hb
/-- The words so far, in their box; the event in its. -/
structure Wd (w W : World) (p3 p15 : Nat) (e : Ev) (va : Option Addr) (vn vc : Nat) (L : List ByteArray) (a : Option Addr) (c : Nat) : Prop where
  c3 : W.heap[p3]? = some (.cells ([.int .i64 e.k, .int .i64 e.fr, .int .i64 e.id, .int .i64 e.ag, .slice va vn vc] : List Value).toArray 47 (0, 0))
  c15 : W.heap[p15]? = some (.cells ([.slice a L.length c] : List Value).toArray 52 (0, 0))
  row : OwnL w [] W 9 1 strE (.slice a L.length c) L
  ap : ∀ k, (Value.slice a L.length c).ownBlock = some k → k ≠ p3 ∧ k ≠ p15
  new : w.heap.size ≤ p3 ∧ w.heap.size ≤ p15 ∧ p3 ≠ p15
theorem Wd.low (h : Wd w W p3 p15 e va vn vc L a c) (hb : Below W.heap.size W W') : Wd w W' p3 p15 e va vn vc L a c := by
  have k : ∀ {q : Nat} {o : Obj}, W.heap[q]? = some o → W'.heap[q]? = some o := fun hq => (hb.block _ (Array.getElem?_eq_some_iff.1 hq).1).trans hq
  exact ⟨k h.c3, k h.c15, h.row.keep fun k hk => hb.block k (h.row.lt k hk), h.ap, h.new⟩
theorem Wd.call (h : Wd w W p3 p15 e va vn vc L a c) (hb : Bel W W') : Wd w W' p3 p15 e va vn vc L a c := h.low hb.below
theorem flat_strQ : ∀ M : List ByteArray, M.flatMap strE = M.map Value.string
  | [] => rfl
  | x :: M => by rw [List.flatMap_cons, flat_strQ M]; rfl
theorem str_ones (M : List ByteArray) : ∀ u ∈ M.flatMap strE, u.oneCell' = true := fun u hu => by
  obtain ⟨s, _, hs⟩ := List.mem_flatMap.1 hu
  exact str_one s u hs
theorem at_put {is : Bool} {ma : Addr} {mc : Nat} {K : Value → World → Prop} (hA : At w [] W) (h : Wd w W p3 p15 e va vn vc L a c) (hs : SlE W 1 strE M (some ma) M.length mc) (hL : L.length ≤ 1000) (hM : M.length ≤ 1000)
    (hK : ∀ W' a' c', At w [] W' → Wd w W' p3 p15 e va vn vc (L ++ (if (is && inK e.k) = true then M else [])) a' c' → K (.tuple #[]) W') : OpW Tryd.prog (invokeS (.func (.func 34) #[] #[.pointer (some ⟨p3, 0, none⟩), .pointer (some ⟨p15, 0, none⟩)]) #[.bool is, .slice (some ma) M.length mc]) W K := by
  refine opw_invoke (by kernel_rfl) ?_
  refine f34_calls is _ _ _ _ _ W _ ?_
  unfold f34_vc
  have no : (is && inK e.k) = false → ∃ v, Ending.returned (Value.tuple #[]) = .returned v ∧ K v W := fun hh => ⟨_, rfl, by
    refine hK W a c hA ?_
    rw [hh]
    simpa using h⟩
  refine brB (fun hi => ⟨_, rd_f0 h.c3 (by kernel_rfl) nodQ, brD (fun h1 => ⟨_, rd_f0 h.c3 (by kernel_rfl) nodQ, brD (fun h19 => ?_) fun h19 => no ?_⟩) fun h1 => no ?_⟩) fun hi => no ?_
  · have hin : (is && inK e.k) = true := by
      unfold inK
      rw [hi, Bool.true_and]
      exact decide_eq_true ⟨h1, h19⟩
    rw [hin] at hK
    simp only [if_true] at hK
    refine ⟨_, _, _, rd_f0 h.c15 (by kernel_rfl) nodQ, ?_⟩
    have hfl : ∀ (M : List ByteArray), (M.flatMap strE).length = M.length := fun M => by rw [flat_strQ, List.length_map]
    refine opw_appendRaw (bytes := 16) (by kernel_rfl) hA h.row.row0 h.row.mine h.row.apart (m := M.length) (news := M.flatMap strE) (by rw [hfl, Nat.mul_one]) (fun j u hu => ?_) (str_ones M) (by unfold maxLen; omega) (by omega) fun v' w7 hA7 hk7 hg7 hr7 hm7 hap7 hnew => ?_
    · have hj : j < M.length := by
        have := (List.getElem?_eq_some_iff.1 hu).1
        rw [hfl] at this
        exact this
      have hx : M[j]? = some M[j] := List.getElem?_eq_getElem hj
      rw [flat_strQ, List.getElem?_map, hx] at hu
      simp only [Option.map_some, Option.some.injEq] at hu
      subst hu
      obtain ⟨ad, cs, ha, _, hcs, rfl⟩ := hs.at_ hx
      cases ha
      have := hcs 0 _ rfl
      rw [add_add, Nat.mul_one, Nat.add_zero] at this
      exact this
    have ho7 : OwnL w [] w7 9 1 strE v' (L ++ M) := ⟨by rw [List.length_append, List.flatMap_append]; exact hr7, hm7, hap7⟩
    obtain ⟨a', c', rfl, _⟩ := ho7.slice fun _ _ => rfl
    have k3 : w7.heap[p3]? = _ := (hg7.block p3 (Array.getElem?_eq_some_iff.1 h.c3).1 fun e => (h.ap p3 e.symm).1 rfl).trans h.c3
    have k15 : w7.heap[p15]? = _ := (hg7.block p15 (Array.getElem?_eq_some_iff.1 h.c15).1 fun e => (h.ap p15 e.symm).2 rfl).trans h.c15
    have ap7 : ∀ k, (Value.slice a' (L ++ M).length c').ownBlock = some k → k ≠ p3 ∧ k ≠ p15 := fun k hk => by
      rcases hnew with hh | hh
      · exact h.ap k (hh ▸ hk)
      · have h1 := hh k hk
        have h2 := (Array.getElem?_eq_some_iff.1 h.c3).1
        have h3 := (Array.getElem?_eq_some_iff.1 h.c15).1
        omega
    refine ⟨_, _, _, rfl, opw_storeF hA7 k15 (.inl h.new.2.1) (by simp) (cells' := [.slice a' (L ++ M).length c']) (by kernel_rfl) fun w12 hA12 hk12 hch12 h12 => ⟨_, rfl, hK w12 a' c' hA12 ⟨(hch12.block p3 (Array.getElem?_eq_some_iff.1 k3).1 h.new.2.2).trans k3, h12, ho7.chg hch12 fun k hk e => (ap7 k hk).2 e, ap7, h.new⟩⟩⟩
  · unfold inK
    rw [decide_eq_false (fun hh => h19 hh.2), Bool.and_false]
  · unfold inK
    rw [decide_eq_false (fun hh => h1 hh.1), Bool.and_false]
  · rw [hi, Bool.false_and]
end Go.Vc.Q

/- Tell: an event. -/
set_option maxRecDepth 20000
set_option maxHeartbeats 2000000
set_option linter.unusedVariables false
namespace Go.Vc.Q
open Go Go.Vc Go.Vc.V Go.RowKit Go.Proofs Vcq

variable {w W W' W1 : World} {gs ds : List Nat} {n : Int} {l : List PartT} {a : Option Addr} {ln lc c : Nat} {L M : List ByteArray} {wh : List UInt8} {p3 p15 : Nat} {e : Ev} {va : Option Addr} {vn vc : Nat}

theorem Wd.rk (h : Wd w W p3 p15 e va vn vc L a c) : Reads Tryd.prog [] (Instr.loadAt 3 (.pointer (some ⟨p3, 0, none⟩))) W (.int .i64 e.k) := rd_f0 h.c3 (by kernel_rfl) nodQ
theorem Wd.rf (h : Wd w W p3 p15 e va vn vc L a c) : Reads Tryd.prog [] (Instr.loadAt 2 (.pointer (some (Addr.mk p3 (0 + 1) none)))) W (.int .i64 e.fr) := rd_f 0 h.c3 rfl (by kernel_rfl) nodQ
theorem Wd.ri (h : Wd w W p3 p15 e va vn vc L a c) : Reads Tryd.prog [] (Instr.loadAt 2 (.pointer (some (Addr.mk p3 (0 + 2) none)))) W (.int .i64 e.id) := rd_f 1 h.c3 rfl (by kernel_rfl) nodQ
theorem Wd.ra (h : Wd w W p3 p15 e va vn vc L a c) : Reads Tryd.prog [] (Instr.loadAt 2 (.pointer (some (Addr.mk p3 (0 + 3) none)))) W (.int .i64 e.ag) := rd_f 2 h.c3 rfl (by kernel_rfl) nodQ
theorem Wd.rv (h : Wd w W p3 p15 e va vn vc L a c) : Reads Tryd.prog [] (Instr.loadAt 45 (.pointer (some (Addr.mk p3 (0 + 4) none)))) W (.slice va vn vc) := rd_f 3 h.c3 rfl (by kernel_rfl) nodQ
theorem Wd.rw (h : Wd w W p3 p15 e va vn vc L a c) : Reads Tryd.prog [] (Instr.loadAt 52 (.pointer (some ⟨p15, 0, none⟩))) W (.slice a L.length c) := rd_f0 h.c15 (by kernel_rfl) nodQ
theorem rk_of {x : Int} (h : Wd w W p3 p15 e va vn vc L a c) (hx : x = e.k) : Reads Tryd.prog [] (Instr.loadAt 3 (.pointer (some ⟨p3, 0, none⟩))) W (.int .i64 x) := hx ▸ h.rk
abbrev addL (e : Ev) (is : Bool) (M : List ByteArray) : List ByteArray := if (is && inK e.k) = true then M else []
theorem evL_hi (h : e.k ≥ 6) : [kindT e.k] ++ addL e (decide (e.k ≥ 3)) [bs [102, 114, 97, 109, 101], numB e.fr] ++ addL e (decide (e.k ≤ 17)) [bs [105, 100], numB e.id] ++ addL e true [bs [97, 103, 101, 110, 116], numB e.ag] ++ addL e true [vecT e.v] = evL e := by
  unfold evL addL wF wI wA wV
  cases hin : inK e.k with
  | false => simp
  | true =>
    rw [if_pos (show e.k ≥ 3 by omega), if_pos (show e.k ≥ 6 ∨ e.k ≤ 2 from .inl h), if_pos (show e.k ≥ 6 ∨ e.k = 1 from .inl h)]
    by_cases h17 : e.k ≤ 17
    · rw [if_pos (show e.k ≥ 6 ∧ e.k ≤ 17 from ⟨h, h17⟩)]
      simp [h17, show (3 : Int) ≤ e.k by omega]
    · rw [if_neg (fun hh : e.k ≥ 6 ∧ e.k ≤ 17 => h17 hh.2)]
      simp [h17, show (3 : Int) ≤ e.k by omega]
theorem evL_lo (h : ¬ e.k ≥ 6) : [kindT e.k] ++ addL e (decide (e.k ≥ 3)) [bs [102, 114, 97, 109, 101], numB e.fr] ++ addL e false [bs [105, 100], numB e.id] ++ addL e (decide (e.k ≤ 2)) [bs [97, 103, 101, 110, 116], numB e.ag] ++ addL e (e.k == 1) [vecT e.v] = evL e := by
  unfold evL addL wF wI wA wV
  cases hin : inK e.k with
  | false => simp
  | true =>
    rw [if_neg (fun hh : e.k ≥ 6 ∧ e.k ≤ 17 => h hh.1)]
    have e1 : (e.k ≥ 6 ∨ e.k ≤ 2) ↔ e.k ≤ 2 := ⟨fun hh => hh.resolve_left h, .inr⟩
    have e2 : (e.k ≥ 6 ∨ e.k = 1) ↔ e.k = 1 := ⟨fun hh => hh.resolve_left h, .inr⟩
    simp only [e1, e2]
    simp
theorem c17 (e : Ev) (hI : EvI e) (w : World) (hT : TabQ w) (hv : SlE w 3 partE e.v va vn vc) : RetW Tryd.prog 17 #[.agg #[.int .i64 e.k, .int .i64 e.fr, .int .i64 e.id, .int .i64 e.ag, .slice va vn vc]] w (.string (evT e)) := by
  intro R h
  refine f17_calls _ _ _ _ _ _ _ w R ?_
  unfold f17_vc
  refine opw_boxS (at_zro w noB) fun p3 w2 hp3 hA2 _ hb2 h3 => ⟨_, rfl, _, rd_f0 h3 (by kernel_rfl) nodQ, ?_⟩
  have hT2 := hT.call hb2
  have hv2 := hv.call hb2
  refine at_callb hA2 (c10 hT2 hI.k) fun w6 hA6 _ hb6 => ⟨_, rfl, ?_⟩
  have h36 : w6.heap[p3]? = _ := (hb6.block (Array.getElem?_eq_some_iff.1 h3).1).trans h3
  refine opw_litL (e' := 9) (size := 1) (f := strE) (l := [kindT e.k]) hA6 rfl (fun _ _ => rfl) (by decide) (by kernel_rfl) fun g w9 hg hA9 _ hb9 ho9 => ⟨_, _, _, rfl, ?_⟩
  have h39 : w9.heap[p3]? = _ := (hb9.block (Array.getElem?_eq_some_iff.1 h36).1).trans h36
  refine opw_allocS (t := 52) (zv := .slice none 0 0) [.slice none 0 0] (by kernel_rfl) rfl hA9 fun p15 w14 hp15 hA14 _ hb14 h15 => ⟨_, rfl, ?_⟩
  have h314 : w14.heap[p3]? = _ := (hb14.block (Array.getElem?_eq_some_iff.1 h39).1).trans h39
  have hz2 := hb2.size
  have hz6 := hb6.size
  have hz9 := hb9.size
  have hz14 := hb14.size
  have hl3 := (Array.getElem?_eq_some_iff.1 h3).1
  have hl9 := ho9.lt g rfl
  refine opw_storeF hA14 h15 (.inl (by show w.heap.size ≤ p15; omega)) (by simp) (cells' := [.slice (some ⟨g, 0, none⟩) 1 1]) (by kernel_rfl) fun w17 hA17 _ hch17 h17 => ?_
  have hgb : ∀ k, (Value.slice (some ⟨g, 0, none⟩) 1 1).ownBlock = some k → k = g := fun k hk => by cases hk; rfl
  have hW : Wd (zro w) w17 p3 p15 e va vn vc [kindT e.k] (some ⟨g, 0, none⟩) 1 := ⟨(hch17.block p3 (Array.getElem?_eq_some_iff.1 h314).1 (by omega)).trans h314, h17, (ho9.call hb14).chg hch17 (fun k hk hN => by have := hgb k hk; omega), (fun k hk => by have := hgb k hk; omega), by show w.heap.size ≤ p3; omega, by show w.heap.size ≤ p15; omega, by omega⟩
  have hbz : Below w.heap.size w w17 := ⟨hA17.chg.os, hA17.chg.tape, hA17.chg.output, hA17.chg.size, fun b hb => hA17.chg.block b hb id⟩
  have hT17 := hT.low hbz
  have hv17 : SlE w17 3 partE e.v va vn vc := hv.mono (cell_below hbz) fun _ _ h => h
  refine ⟨_, hW.rk, _, hW.rk, _, hW.rf, fun w21 hb21 => ?_⟩
  refine at_callb (hA17.call hb21) (c25 e.fr hI.fr w21 (hT17.call hb21)) fun w23 hA23 _ hb23 => ⟨_, rfl, (hW.call (hb21.trans hb23)).rk, ?_⟩
  have low : ∀ {W : World}, At (zro w) [] W → TabQ W ∧ SlE W 3 partE e.v va vn vc := fun hA => by
    have hb : Below w.heap.size w _ := ⟨hA.chg.os, hA.chg.tape, hA.chg.output, hA.chg.size, fun b hb => hA.chg.block b hb id⟩
    exact ⟨hT.low hb, hv.mono (cell_below hb) fun _ _ h => h⟩
  have fin : ∀ {W : World} {L : List ByteArray} {a : Option Addr} {c : Nat}, At (zro w) [] W → Wd (zro w) W p3 p15 e va vn vc L a c → L = evL e → Calls Tryd.prog 23 #[.slice a L.length c] W fun e75 w75 => ∃ s76, e75 = .returned (.string s76) ∧ R (.returned (.string s76)) w75 := by
    intro W L a c hA hW hL
    have hne : L ≠ [] := by
      rw [hL]
      unfold evL
      split <;> simp
    have hll : L.length ≤ 1000000 := by
      rw [hL]
      unfold evL wF wI wA wV
      split
      · split <;> split <;> split <;> split <;> simp
      · simp
    have hz : (jnB L).size ≤ 1000000000000 := by
      rw [hL]
      exact Nat.le_trans (ev_size hI) (by omega)
    refine at_callW hA (c23 hW.row hne hll hz) fun w75 hA _ _ => ⟨_, rfl, leafW h hA ?_⟩
    rw [hL]
    rfl
  refine opw_litL (e' := 9) (size := 1) (f := strE) (l := [bs [102, 114, 97, 109, 101], numB e.fr]) hA23 rfl (fun _ _ => rfl) (by decide) (by kernel_rfl) fun g1 w26 hg1 hA26 _ hb26 ho26 => ⟨_, _, _, rfl, (hW.call ((hb21.trans hb23).trans hb26)).rk, ?_⟩
  refine at_put (M := [bs [102, 114, 97, 109, 101], numB e.fr]) (ma := ⟨g1, 0, none⟩) (mc := 2) hA26 (hW.call ((hb21.trans hb23).trans hb26)) (ho26.sl fun _ _ => rfl) (by simp) (by simp) fun w31 a31 c31 hA31 hW31 => ⟨rfl, hW31.rk, ?_⟩
  have l31 : ([kindT e.k] ++ addL e (decide (e.k ≥ 3)) [bs [102, 114, 97, 109, 101], numB e.fr]).length ≤ 10 := by
    unfold addL; split <;> simp
  refine brD (fun h6 => ?_) fun h6 => ?_
  · refine ⟨_, hW31.rk, _, hW31.ri, ?_⟩
    intro w100 hb100
    refine at_callb (hA31.call hb100) (c25 e.id hI.id w100 ((low hA31).1.call hb100)) fun w101 hA101 _ hb101 => ⟨_, rfl, (hW31.call (hb100.trans hb101)).rk, ?_⟩
    refine opw_litL (e' := 9) (size := 1) (f := strE) (l := [bs [105, 100], numB e.id]) hA101 rfl (fun _ _ => rfl) (by decide) (by kernel_rfl) fun g100 w102 _ hA102 _ hb102 ho102 => ⟨_, _, _, rfl, (hW31.call ((hb100.trans hb101).trans hb102)).rk, ?_⟩
    refine at_put (is := decide (e.k ≤ 17)) (M := [bs [105, 100], numB e.id]) (ma := ⟨g100, 0, none⟩) (mc := 2) hA102 (hW31.call ((hb100.trans hb101).trans hb102)) (ho102.sl fun _ _ => rfl) (by simp only [List.length_append]; repeat' split; all_goals simp) (by simp) fun w44 a44 c44 hA44 hW44 => ⟨rfl, hW44.rk, ?_⟩
    refine brD (fun _ => ⟨_, hW44.ra, ?_⟩) fun hh => absurd h6 hh
    intro w110 hb110
    refine at_callb (hA44.call hb110) (c25 e.ag hI.ag w110 ((low hA44).1.call hb110)) fun w111 hA111 _ hb111 => ⟨_, rfl, ?_⟩
    refine opw_litL (e' := 9) (size := 1) (f := strE) (l := [bs [97, 103, 101, 110, 116], numB e.ag]) hA111 rfl (fun _ _ => rfl) (by decide) (by kernel_rfl) fun g110 w112 _ hA112 _ hb112 ho112 => ⟨_, _, _, rfl, ?_⟩
    refine at_put (is := true) (M := [bs [97, 103, 101, 110, 116], numB e.ag]) (ma := ⟨g110, 0, none⟩) (mc := 2) hA112 (hW44.call ((hb110.trans hb111).trans hb112)) (ho112.sl fun _ _ => rfl) (by simp only [List.length_append]; repeat' split; all_goals simp) (by simp) fun w56 a56 c56 hA56 hW56 => ⟨rfl, ?_⟩
    refine brD (fun _ => ⟨_, _, _, hW56.rv, ?_⟩) fun hh => absurd h6 hh
    intro w120 hb120
    refine at_callW (hA56.call hb120) (c27 ((low hA56).1.call hb120) ((low hA56).2.call hb120)) fun w121 hA121 _ hb121 => ⟨_, rfl, ?_⟩
    refine opw_litL (e' := 9) (size := 1) (f := strE) (l := [vecT e.v]) hA121 rfl (fun _ _ => rfl) (by decide) (by kernel_rfl) fun g120 w122 _ hA122 _ hb122 ho122 => ⟨_, _, _, rfl, ?_⟩
    refine at_put (is := true) (M := [vecT e.v]) (ma := ⟨g120, 0, none⟩) (mc := 1) hA122 (((hW56.call hb120).low hb121).call hb122) (ho122.sl fun _ _ => rfl) (by simp only [List.length_append]; repeat' split; all_goals simp) (by simp) fun w70 a70 c70 hA70 hW70 => ⟨rfl, _, _, _, hW70.rw, fin hA70 hW70 ?_⟩
    exact evL_hi h6
  · refine ⟨_, hW31.ri, ?_⟩
    intro w130 hb130
    refine at_callb (hA31.call hb130) (c25 e.id hI.id w130 ((low hA31).1.call hb130)) fun w131 hA131 _ hb131 => ⟨_, rfl, ?_⟩
    refine opw_litL (e' := 9) (size := 1) (f := strE) (l := [bs [105, 100], numB e.id]) hA131 rfl (fun _ _ => rfl) (by decide) (by kernel_rfl) fun g130 w132 _ hA132 _ hb132 ho132 => ⟨_, _, _, rfl, ?_⟩
    refine at_put (is := false) (M := [bs [105, 100], numB e.id]) (ma := ⟨g130, 0, none⟩) (mc := 2) hA132 (hW31.call ((hb130.trans hb131).trans hb132)) (ho132.sl fun _ _ => rfl) (by simp only [List.length_append]; repeat' split; all_goals simp) (by simp) fun w144 a144 c144 hA144 hW144 => ⟨rfl, ?_⟩
    refine brD (fun hh => absurd hh h6) fun _ => ⟨_, hW144.rk, _, hW144.ra, ?_⟩
    intro w140 hb140
    refine at_callb (hA144.call hb140) (c25 e.ag hI.ag w140 ((low hA144).1.call hb140)) fun w141 hA141 _ hb141 => ⟨_, rfl, (hW144.call (hb140.trans hb141)).rk, ?_⟩
    refine opw_litL (e' := 9) (size := 1) (f := strE) (l := [bs [97, 103, 101, 110, 116], numB e.ag]) hA141 rfl (fun _ _ => rfl) (by decide) (by kernel_rfl) fun g140 w142 _ hA142 _ hb142 ho142 => ⟨_, _, _, rfl, (hW144.call ((hb140.trans hb141).trans hb142)).rk, ?_⟩
    refine at_put (is := decide (e.k ≤ 2)) (M := [bs [97, 103, 101, 110, 116], numB e.ag]) (ma := ⟨g140, 0, none⟩) (mc := 2) hA142 (hW144.call ((hb140.trans hb141).trans hb142)) (ho142.sl fun _ _ => rfl) (by simp only [List.length_append]; repeat' split; all_goals simp) (by simp) fun w156 a156 c156 hA156 hW156 => ⟨rfl, hW156.rk, ?_⟩
    refine brD (fun hh => absurd hh h6) fun _ => ⟨_, hW156.rk, _, _, _, hW156.rv, ?_⟩
    intro w150 hb150
    refine at_callW (hA156.call hb150) (c27 ((low hA156).1.call hb150) ((low hA156).2.call hb150)) fun w151 hA151 _ hb151 => ⟨_, rfl, ((hW156.call hb150).low hb151).rk, ?_⟩
    refine opw_litL (e' := 9) (size := 1) (f := strE) (l := [vecT e.v]) hA151 rfl (fun _ _ => rfl) (by decide) (by kernel_rfl) fun g150 w152 _ hA152 _ hb152 ho152 => ⟨_, _, _, rfl, (((hW156.call hb150).low hb151).call hb152).rk, ?_⟩
    refine at_put (is := (e.k == 1)) (M := [vecT e.v]) (ma := ⟨g150, 0, none⟩) (mc := 1) hA152 (((hW156.call hb150).low hb151).call hb152) (ho152.sl fun _ _ => rfl) (by simp only [List.length_append]; repeat' split; all_goals simp) (by simp) fun w170 a170 c170 hA170 hW170 => ⟨rfl, hW170.rk, _, _, _, hW170.rw, fin hA170 hW170 ?_⟩
    exact evL_lo h6
end Go.Vc.Q

/- Tell: a reply; few. -/
set_option maxRecDepth 20000
set_option maxHeartbeats 2000000
set_option linter.unusedVariables false
namespace Go.Vc.Q
open Go Go.Vc Go.Vc.V Go.RowKit Go.Proofs Vcq

variable {w W W' W1 : World} {gs ds : List Nat} {n : Int} {l : List PartT} {a : Option Addr} {ln lc c : Nat} {L M : List ByteArray} {wh : List UInt8} {e : Ev} {va : Option Addr} {vn vc : Nat} {rows : List ER} {code : Int}

abbrev i32E (x : Int) : List Value := [.int .i32 x]
theorem opw_runes {g : Nat} {K : Value → World → Prop} (hs : SlE W 1 i32E [59, 32] (some ⟨g, 0, none⟩) 2 2) (h : K (.string (bs [59, 32])) W) : OpW Tryd.prog (valueS (convert 49 9 (.slice (some ⟨g, 0, none⟩) 2 2))) W K := by
  have hr := run_convert_runes (P := Tryd.prog) W 49 9 21 ⟨g, 0, none⟩ 2 2 [59, 32] (by decide) (by kernel_rfl) (by kernel_rfl) (by kernel_rfl) fun j hj => by
    have hx : ([59, 32] : List Int)[j]? = some (([59, 32] : List Int).getD j 0) := by
      simp at hj
      have : j = 0 ∨ j = 1 := by omega
      rcases this with rfl | rfl <;> rfl
    obtain ⟨ad, cs, ha, _, hcs, rfl⟩ := hs.at_ hx
    cases ha
    have := hcs 0 _ rfl
    rw [add_add, Nat.mul_one, Nat.add_zero] at this
    exact this
  have e : runesBytes (([59, 32] : List Int).take 2) = bs [59, 32] := by decide
  rw [e] at hr
  unfold OpW
  rw [run_valueS hr]
  exact h
theorem c6 (hc : I64 code) (w : World) (hT : TabQ w) (hE : Evs w rows a ln lc) (hl : rows.length ≤ 30000000000000) : RetW Tryd.prog 6 #[.agg #[.int .i64 code, .slice a ln lc]] w (.string (repT code (rows.map (·.1)))) := by
  intro R h
  refine f6_calls _ _ _ _ w R ?_
  unfold f6_vc
  have hln := hE.sl.1
  have ez := err_size hc
  have low : ∀ {W : World} {gs : List Nat}, At (zro w) gs W → TabQ W ∧ Evs W rows a ln lc := fun hA => by
    have hb : Below w.heap.size w _ := ⟨hA.chg.os, hA.chg.tape, hA.chg.output, hA.chg.size, fun b hb => hA.chg.block b hb id⟩
    exact ⟨hT.low hb, hE.low hb⟩
  refine go_n (at_zro w noB) fun n1 hn1 => go_below_too (at_zro w noB) fun w2 hA hb2 => ?_
  refine at_callb hA (c8 (low hA).1 hc) fun w4 hA hk hb4 => ⟨_, rfl, hk, ?_⟩
  refine ⟨fun s W => At (zro w) [n1] W ∧ ∃ i : Nat, s.2.1 = i ∧ i ≤ ln ∧ s.1 = repT code ((rows.take i).map (·.1)) ∧ s.1.size ≤ 1000 + i * 300002, fun s _ => ln - s.2.1.toNat, ⟨hA, 0, rfl, Nat.zero_le _, rfl, by simp only; omega⟩, ?_⟩
  rintro s8 x9 w10 ⟨hA, i, hi, hil, hs, hz⟩
  simp only at hi hs hz
  subst hi hs
  have hw : IntKind.i64.wrap ((i : Int) + 1) = ((i + 1 : Nat) : Int) := by rw [wrap_i64 (by omega) (by omega)]; omega
  refine brD (fun hlt => ?_) fun hge => ?_
  · have him : i < rows.length := by omega
    obtain ⟨r, hr⟩ : ∃ r, rows[i]? = some r := ⟨_, List.getElem?_eq_getElem him⟩
    have hE10 := (low hA).2
    have hrm := List.mem_of_getElem? hr
    have hI := (hE10.ok r hrm).1
    have evz := ev_size hI
    obtain ⟨ad, g1, el, _⟩ := elt_at (P := Tryd.prog) (k := .i64) (t := 23) hE10.sl hr (e := 47) (by kernel_rfl) (by kernel_rfl)
    have tk : (rows.take (i + 1)).map (·.1) = (rows.take i).map (·.1) ++ [r.1] := by rw [List.take_add_one, hr, Option.toList_some, List.map_append]; rfl
    rw [hw]
    have z1 : (bs [59, 32]).size + (evT r.1).size ≤ 9223372036854775807 := by
      rw [bs_size]
      simp only [List.length_cons, List.length_nil]
      omega
    have z2 : (repT code ((rows.take i).map (·.1))).size + (bs [59, 32] ++ evT r.1).size ≤ 9223372036854775807 := by
      rw [ap_size, bs_size]
      simp only [List.length_cons, List.length_nil]
      omega
    have fin : ∀ {W : World} {gs : List Nat}, At (zro w) gs W → (∀ x ∈ [n1], x ∈ gs) → (At (zro w) [n1] W ∧ ∃ j : Nat, ((i + 1 : Nat) : Int) = j ∧ j ≤ ln ∧ repT code ((rows.take i).map (·.1)) ++ (bs [59, 32] ++ evT r.1) = repT code ((rows.take j).map (·.1)) ∧ (repT code ((rows.take i).map (·.1)) ++ (bs [59, 32] ++ evT r.1)).size ≤ 1000 + j * 300002) := fun hA hg => by
      refine ⟨hA.sub hg, i + 1, rfl, by omega, ?_, ?_⟩
      · rw [tk, rep_snoc, ByteArray.append_assoc]
      · rw [ap_size, ap_size, bs_size]
        simp only [List.length_cons, List.length_nil]
        omega
    have ev : ∀ {W : World} {gs : List Nat} {K : Ending → World → Prop}, At (zro w) gs W → (∀ w', At (zro w) gs w' → Keeps gs W w' → Below W.heap.size W w' → K (.returned (.string (evT r.1))) w') → Calls Tryd.prog 17 #[.agg #[.int .i64 r.1.k, .int .i64 r.1.fr, .int .i64 r.1.id, .int .i64 r.1.ag, .slice r.2.1 r.2.2.1 r.2.2.2]] W K := fun hA hK => at_callW hA (c17 r.1 hI _ (low hA).1 ((low hA).2.ok r hrm).2) hK
    refine ⟨ad, g1, _, _, _, _, _, _, _, el.agg 5 (by kernel_rfl) (by kernel_rfl) (by simp) no_ds, go_n hA fun n19 h19 => ⟨go_evo hA (by simpa using h19) fun w20 hA20 => ?_, go_evo hA (by simpa using h19) fun w42 hA42 => ?_⟩⟩
    · refine opw_litL (e' := 21) (size := 1) (f := i32E) (l := [59, 32]) hA20 rfl (fun _ _ => rfl) (by decide) (by kernel_rfl) fun g w22 _ hA22 hk22 _ ho => ⟨_, _, _, rfl, hk22, ?_, ?_⟩
      · refine opw_runes (ho.sl fun _ _ => rfl) ⟨_, rfl, fun _ _ => rfl, ev hA22 fun w30 hA30 hk30 _ => ⟨_, rfl, hk30, _, gives_sadd z1, _, gives_sadd z2, fin hA30 (by simp), by simp only; omega⟩⟩
      · refine ev hA22 fun w35 hA35 hk35 hb35 => ⟨_, rfl, hk35, opw_runes ((ho.sl fun _ _ => rfl).mono (cell_below hb35) fun _ _ h => h) ⟨_, rfl, fun _ _ => rfl, _, gives_sadd z1, _, gives_sadd z2, fin hA35 (by simp), by simp only; omega⟩⟩
    · refine ev hA42 fun w44 hA44 hk44 _ => ⟨_, rfl, hk44, opw_litL (e' := 21) (size := 1) (f := i32E) (l := [59, 32]) hA44 rfl (fun _ _ => rfl) (by decide) (by kernel_rfl) fun g w47 _ hA47 hk47 _ ho => ⟨_, _, _, rfl, hk47, opw_runes (ho.sl fun _ _ => rfl) ⟨_, rfl, fun _ _ => rfl, _, gives_sadd z1, _, gives_sadd z2, fin hA47 (by simp), by simp only; omega⟩⟩⟩
  · rw [List.take_of_length_le (by omega)]
    exact leafW h hA rfl
end Go.Vc.Q

/- The library's builder, at this program: WriteString, WriteRune, String. -/
set_option linter.unusedVariables false
set_option maxRecDepth 20000
namespace Go.Proofs
open Go.Shelf Go.RowKit
theorem Tryd.Q_WriteString (B b : Nat) (bs : List Value) (s : ByteArray) (w : World) (h : Lib.IsBuilderF 69 5 B b bs w) (hlen : bs.length + s.size ≤ 140737488355328) (hBw : B ≤ w.heap.size) :
    Calls Tryd.prog 22 #[.pointer (some ⟨b, 0, none⟩), .string s] w fun e w' => e = .returned (.tuple #[.int .i64 s.size, .nilIface]) ∧ (Lib.BuilderAtF 69 5 B b (.pointer (some ⟨b, 0, none⟩)) (bs ++ Lib.byteCells s.data.toList) w' ∧ Below B w w' ∧ Lib.OthersKept 5 (some b) w w') := Any.Builder_WriteString_k ({ Tryd.lays156 with } : Lays.n166 Tryd.prog Tryd.lays156_ren) Tryd.Builder_Extra_156 B b bs s w h hlen hBw
theorem Tryd.Q_String (B b : Nat) (l : List UInt8) (w : World) (h : Lib.IsBuilderF 69 5 B b (Lib.byteCells l) w) (hBw : B ≤ w.heap.size) :
    Calls Tryd.prog 28 #[.pointer (some ⟨b, 0, none⟩)] w fun e w' => e = .returned (.string ⟨l.toArray⟩) ∧ (Lib.IsBuilderF 69 5 B b (Lib.byteCells l) w' ∧ Below B w w' ∧ Lib.OthersKept 5 (some b) w w') := Any.Builder_String_any_k ({ Tryd.lays156 with } : Lays.n169 Tryd.prog Tryd.lays156_ren) Tryd.Builder_Extra_156 B b l w h hBw
def Tryd.lays168_ren : Go.Shelf.Ren := ⟨fun | 168 => 24 | 240 => 37 | 242 => 39 | 276 => 44 | 278 => 46 | n => n, fun | 9 => 9 | 3 => 3 | 4 => 4 | 0 => 0 | 20 => 20 | 72 => 69 | 70 => 66 | 37 => 67 | 75 => 71 | 164 => 93 | 5 => 5 | 80 => 81 | 21 => 21 | 46 => 99 | 51 => 96 | n => n, fun | n => n⟩
theorem Tryd.lays168 : Go.Proofs.Lays.n168 Tryd.prog Tryd.lays168_ren := {
  mixed := by kernel_rfl
  f168 := Tryd.func24.trans (congrArg some (by kernel_rfl))
  f240 := Tryd.func37.trans (congrArg some (by kernel_rfl))
  f242 := Tryd.func39.trans (congrArg some (by kernel_rfl))
  f276 := Tryd.func44.trans (congrArg some (by kernel_rfl))
  f278 := Tryd.func46.trans (congrArg some (by kernel_rfl))
  t0 := Tryd.underlying0
  a0 := Tryd.isAgg0
  z0 := Tryd.sizeOf0
  v0 := Tryd.zeroValue0
  t3 := Tryd.underlying3
  a3 := Tryd.isAgg3
  z3 := Tryd.sizeOf3
  v3 := Tryd.zeroValue3
  t4 := Tryd.underlying4
  a4 := Tryd.isAgg4
  z4 := Tryd.sizeOf4
  v4 := Tryd.zeroValue4
  t5 := Tryd.underlying5
  a5 := Tryd.isAgg5
  z5 := Tryd.sizeOf5
  v5 := Tryd.zeroValue5
  t9 := Tryd.underlying9
  a9 := Tryd.isAgg9
  z9 := Tryd.sizeOf9
  v9 := Tryd.zeroValue9
  t20 := Tryd.underlying20
  a20 := Tryd.isAgg20
  z20 := Tryd.sizeOf20
  v20 := Tryd.zeroValue20
  t21 := Tryd.underlying21
  a21 := Tryd.isAgg21
  z21 := Tryd.sizeOf21
  v21 := Tryd.zeroValue21
  t37 := Tryd.underlying67
  a37 := Tryd.isAgg67
  z37 := Tryd.sizeOf67
  v37 := Tryd.zeroValue67
  t46 := Tryd.underlying99
  a46 := Tryd.isAgg99
  z46 := Tryd.sizeOf99
  v46 := Tryd.zeroValue99
  t51 := Tryd.underlying96
  a51 := Tryd.isAgg96
  z51 := Tryd.sizeOf96
  v51 := Tryd.zeroValue96
  t70 := Tryd.underlying66
  a70 := Tryd.isAgg66
  z70 := Tryd.sizeOf66
  v70 := Tryd.zeroValue66
  t72 := Tryd.underlying69
  a72 := Tryd.isAgg69
  z72 := Tryd.sizeOf69
  v72 := Tryd.zeroValue69
  t75 := Tryd.underlying71
  a75 := Tryd.isAgg71
  z75 := Tryd.sizeOf71
  v75 := Tryd.zeroValue71
  t164 := Tryd.underlying93
  a164 := Tryd.isAgg93
  z164 := Tryd.sizeOf93
  v164 := Tryd.zeroValue93 }
theorem Tryd.Builder_Extra_168 : Builder.Extra Tryd.prog Tryd.lays168_ren := {
  sizeBuilder := by kernel_rfl
  liesBuilder := by kernel_rfl
  t5 := Tryd.underlying5
  a5 := Tryd.isAgg5
  z5 := Tryd.sizeOf5
  v5 := Tryd.zeroValue5
  infoByte := by kernel_rfl
  cellsByte := by kernel_rfl
  sizeByte := by kernel_rfl
  neB5 := by decide }
theorem Tryd.Q_WriteRune (B b : Nat) (bs : List Value) (r : Int) (hr0 : -2147483648 ≤ r) (hr1 : r ≤ 2147483647) (w : World) (h : Lib.IsBuilderF 69 5 B b bs w) (hlen : bs.length + 4 ≤ 140737488355328) (hBw : B ≤ w.heap.size) :
    Calls Tryd.prog 24 #[.pointer (some ⟨b, 0, none⟩), .int .i32 r] w fun e w' => e = .returned (.tuple #[.int .i64 (Lib.runeCells r).length, .nilIface]) ∧ (Lib.BuilderAtF 69 5 B b (.pointer (some ⟨b, 0, none⟩)) (bs ++ Lib.runeCells r) w' ∧ Below B w w' ∧ Lib.OthersKept 5 (some b) w w') := Any.Builder_WriteRune_k Tryd.lays168 Tryd.Builder_Extra_168 B b bs r hr0 hr1 w h hlen hBw
end Go.Proofs

/- The formulas of functions, printed by a program (VcTool.lean): each is what the generator's formula comes to, by the kernel's reckoning; whoever proves one has the function's contract. -/
set_option maxRecDepth 100000
set_option maxHeartbeats 1000000
set_option linter.unusedVariables false
namespace Vcq
open Go Go.Vc Go.RowKit
/-! manciple/mancipleref16.Few -/
def h13 : Hints := ⟨[1], [38, 46, 62, 78, 94], [31, 55, 71, 87], [(5, [0, 1, 2, 3, 4, 5, 6, 7, 8, 9, 10, 11, 12, 13, 14, 15, 16, 17])], [], [(3, ⟨[(3, .int .i64), (4, .int .i64)], []⟩), (7, ⟨[(3, .int .i64), (5, .int .i64)], []⟩), (11, ⟨[(3, .int .i64), (6, .int .i64)], []⟩), (15, ⟨[(3, .int .i64), (7, .int .i64)], []⟩)], [], [], []⟩
def f13_vc (b_0 : Int) (b_1 : Int) (b_2 : Int) (b_3 : Int) (b_4 : Int) (b_5 : Int) (b_6 : Int) (b_7 : Int) (b_8 : Int) (b_9 : Int) (b_10 : Int) (b_11a : Option Addr) (b_11n : Nat) (b_11c : Nat) (b_12a : Option Addr) (b_12n : Nat) (b_12c : Nat) (b_13a : Option Addr) (b_13n : Nat) (b_13c : Nat) (b_14a : Option Addr) (b_14n : Nat) (b_14c : Nat) (b_15a : Option Addr) (b_15n : Nat) (b_15c : Nat) (w : World) (R : Ending → World → Prop) : Prop :=
 ∀ (n1 : Nat),
 w.heap.size ≤ n1 →
 ∃ (J2 : Int × Int × Unit → World → Prop),
 ∃ (J3 : Int × Int × Unit → World → Nat),
 (∀ (w4 : World), Bel w w4 → Under [n1] w4 → J2 (IntKind.i64.wrap (IntKind.i64.wrap (IntKind.i64.wrap (IntKind.i64.wrap ((↑b_11n : Int) + (↑b_12n : Int)) + (↑b_13n : Int)) + (↑b_14n : Int)) + (↑b_15n : Int)), 0, ()) w4) ∧
 ∀ (x5 x6 : Int) (w7 : World),
 J2 (x5, x6, ()) w7 →
 (decide (x6 < (↑b_12n : Int)) = true →
 ∃ (ad8 : Addr),
 Gives Proofs.Tryd.prog (Instr.indexAt 37 (Value.slice b_12a b_12n b_12c) (Value.int IntKind.i64 x6)) (Value.pointer (some ad8)) ∧
 ∃ (a9 : Option Addr),
 ∃ (n10 : Nat),
 ∃ (n11 : Nat),
 Reads Proofs.Tryd.prog [] (Instr.loadAt 45 (Value.pointer (some (Addr.mk ad8.block (ad8.off + 1) none)))) w7 (Value.slice a9 n10 n11) ∧
 ∃ (ad12 : Addr),
 Gives Proofs.Tryd.prog (Instr.indexAt 37 (Value.slice b_12a b_12n b_12c) (Value.int IntKind.i64 x6)) (Value.pointer (some ad12)) ∧
 ∃ (a13 : Option Addr),
 ∃ (n14 : Nat),
 ∃ (n15 : Nat),
 Reads Proofs.Tryd.prog [] (Instr.loadAt 45 (Value.pointer (some (Addr.mk ad12.block (ad12.off + 2) none)))) w7 (Value.slice a13 n14 n15) ∧
 ∀ (w16 : World),
 Bel w7 w16 →
 Under [n1] w16 →
 J2 (IntKind.i64.wrap (IntKind.i64.wrap (x5 + (↑n10 : Int)) + (↑n14 : Int)), IntKind.i64.wrap (x6 + 1), ()) w16 ∧
 J3 (IntKind.i64.wrap (IntKind.i64.wrap (x5 + (↑n10 : Int)) + (↑n14 : Int)), IntKind.i64.wrap (x6 + 1), ()) w16 < J3 (x5, x6, ()) w7) ∧
 (decide (x6 < (↑b_12n : Int)) = false →
 ∃ (J17 : Int × Int × Unit → World → Prop),
 ∃ (J18 : Int × Int × Unit → World → Nat),
 J17 (x5, 0, ()) w7 ∧
 ∀ (x19 x20 : Int) (w21 : World),
 J17 (x19, x20, ()) w21 →
 (decide (x20 < (↑b_13n : Int)) = true →
 ∃ (ad22 : Addr),
 Gives Proofs.Tryd.prog (Instr.indexAt 38 (Value.slice b_13a b_13n b_13c) (Value.int IntKind.i64 x20)) (Value.pointer (some ad22)) ∧
 ∃ (a23 : Option Addr),
 ∃ (n24 : Nat),
 ∃ (n25 : Nat),
 Reads Proofs.Tryd.prog [] (Instr.loadAt 45 (Value.pointer (some (Addr.mk ad22.block (ad22.off + 3) none)))) w21 (Value.slice a23 n24 n25) ∧
 J17 (IntKind.i64.wrap (x19 + (↑n24 : Int)), IntKind.i64.wrap (x20 + 1), ()) w21 ∧ J18 (IntKind.i64.wrap (x19 + (↑n24 : Int)), IntKind.i64.wrap (x20 + 1), ()) w21 < J18 (x19, x20, ()) w21) ∧
 (decide (x20 < (↑b_13n : Int)) = false →
 ∃ (J26 : Int × Int × Unit → World → Prop),
 ∃ (J27 : Int × Int × Unit → World → Nat),
 J26 (x19, 0, ()) w21 ∧
 ∀ (x28 x29 : Int) (w30 : World),
 J26 (x28, x29, ()) w30 →
 (decide (x29 < (↑b_14n : Int)) = true →
 ∃ (ad31 : Addr),
 Gives Proofs.Tryd.prog (Instr.indexAt 39 (Value.slice b_14a b_14n b_14c) (Value.int IntKind.i64 x29)) (Value.pointer (some ad31)) ∧
 ∃ (a32 : Option Addr),
 ∃ (n33 : Nat),
 ∃ (n34 : Nat),
 Reads Proofs.Tryd.prog [] (Instr.loadAt 45 (Value.pointer (some (Addr.mk ad31.block (ad31.off + 3) none)))) w30 (Value.slice a32 n33 n34) ∧
 J26 (IntKind.i64.wrap (x28 + (↑n33 : Int)), IntKind.i64.wrap (x29 + 1), ()) w30 ∧
 J27 (IntKind.i64.wrap (x28 + (↑n33 : Int)), IntKind.i64.wrap (x29 + 1), ()) w30 < J27 (x28, x29, ()) w30) ∧
 (decide (x29 < (↑b_14n : Int)) = false →
 ∃ (J35 : Int × Int × Unit → World → Prop),
 ∃ (J36 : Int × Int × Unit → World → Nat),
 J35 (x28, 0, ()) w30 ∧
 ∀ (x37 x38 : Int) (w39 : World),
 J35 (x37, x38, ()) w39 →
 (decide (x38 < (↑b_15n : Int)) = true →
 ∃ (ad40 : Addr),
 Gives Proofs.Tryd.prog (Instr.indexAt 40 (Value.slice b_15a b_15n b_15c) (Value.int IntKind.i64 x38)) (Value.pointer (some ad40)) ∧
 ∃ (a41 : Option Addr),
 ∃ (n42 : Nat),
 ∃ (n43 : Nat),
 Reads Proofs.Tryd.prog [] (Instr.loadAt 45 (Value.pointer (some (Addr.mk ad40.block (ad40.off + 3) none)))) w39 (Value.slice a41 n42 n43) ∧
 J35 (IntKind.i64.wrap (x37 + (↑n42 : Int)), IntKind.i64.wrap (x38 + 1), ()) w39 ∧
 J36 (IntKind.i64.wrap (x37 + (↑n42 : Int)), IntKind.i64.wrap (x38 + 1), ()) w39 < J36 (x37, x38, ()) w39) ∧
 (decide (x38 < (↑b_15n : Int)) = false → R (Ending.returned (Value.bool (decide (x37 ≤ 600)))) w39))))
theorem f13_eq (b_0 : Int) (b_1 : Int) (b_2 : Int) (b_3 : Int) (b_4 : Int) (b_5 : Int) (b_6 : Int) (b_7 : Int) (b_8 : Int) (b_9 : Int) (b_10 : Int) (b_11a : Option Addr) (b_11n : Nat) (b_11c : Nat) (b_12a : Option Addr) (b_12n : Nat) (b_12c : Nat) (b_13a : Option Addr) (b_13n : Nat) (b_13c : Nat) (b_14a : Option Addr) (b_14n : Nat) (b_14c : Nat) (b_15a : Option Addr) (b_15n : Nat) (b_15c : Nat) (w : World) (R : Ending → World → Prop) : (fnF Go.Proofs.Tryd.prog h13 Go.Proofs.Tryd.f13 [Value.agg
 #[Value.int IntKind.i64 b_0, Value.int IntKind.i64 b_1, Value.int IntKind.i64 b_2, Value.int IntKind.i64 b_3, Value.int IntKind.i64 b_4, Value.int IntKind.i64 b_5, Value.int IntKind.i64 b_6, Value.int IntKind.i64 b_7,
 Value.int IntKind.i64 b_8, Value.int IntKind.i64 b_9, Value.int IntKind.i64 b_10, Value.slice b_11a b_11n b_11c, Value.slice b_12a b_12n b_12c, Value.slice b_13a b_13n b_13c, Value.slice b_14a b_14n b_14c,
 Value.slice b_15a b_15n b_15c]] w R).den = f13_vc b_0 b_1 b_2 b_3 b_4 b_5 b_6 b_7 b_8 b_9 b_10 b_11a b_11n b_11c b_12a b_12n b_12c b_13a b_13n b_13c b_14a b_14n b_14c b_15a b_15n b_15c w R := by kernel_rfl
theorem f13_calls (b_0 : Int) (b_1 : Int) (b_2 : Int) (b_3 : Int) (b_4 : Int) (b_5 : Int) (b_6 : Int) (b_7 : Int) (b_8 : Int) (b_9 : Int) (b_10 : Int) (b_11a : Option Addr) (b_11n : Nat) (b_11c : Nat) (b_12a : Option Addr) (b_12n : Nat) (b_12c : Nat) (b_13a : Option Addr) (b_13n : Nat) (b_13c : Nat) (b_14a : Option Addr) (b_14n : Nat) (b_14c : Nat) (b_15a : Option Addr) (b_15n : Nat) (b_15c : Nat) (w : World) (R : Ending → World → Prop) (h : f13_vc b_0 b_1 b_2 b_3 b_4 b_5 b_6 b_7 b_8 b_9 b_10 b_11a b_11n b_11c b_12a b_12n b_12c b_13a b_13n b_13c b_14a b_14n b_14c b_15a b_15n b_15c w R) : Calls Go.Proofs.Tryd.prog 13 (List.toArray [Value.agg
 #[Value.int IntKind.i64 b_0, Value.int IntKind.i64 b_1, Value.int IntKind.i64 b_2, Value.int IntKind.i64 b_3, Value.int IntKind.i64 b_4, Value.int IntKind.i64 b_5, Value.int IntKind.i64 b_6, Value.int IntKind.i64 b_7,
 Value.int IntKind.i64 b_8, Value.int IntKind.i64 b_9, Value.int IntKind.i64 b_10, Value.slice b_11a b_11n b_11c, Value.slice b_12a b_12n b_12c, Value.slice b_13a b_13n b_13c, Value.slice b_14a b_14n b_14c,
 Value.slice b_15a b_15n b_15c]]) w R :=
 fn_sound (H := h13) (fn := Go.Proofs.Tryd.f13) (by kernel_rfl) (by kernel_rfl) (by kernel_rfl) ((f13_eq b_0 b_1 b_2 b_3 b_4 b_5 b_6 b_7 b_8 b_9 b_10 b_11a b_11n b_11c b_12a b_12n b_12c b_13a b_13n b_13c b_14a b_14n b_14c b_15a b_15n b_15c w R).mpr h)

/-! manciple/tell.Book -/
def h14 : Hints := ⟨[1], [25, 31, 36, 43, 56, 63, 89, 96, 112, 119, 135], [30, 42, 62, 80, 95, 118], [(3, [0, 1, 2, 4, 5, 3, 6, 7, 8]), (12, [0, 1, 2, 4, 5, 7, 8, 3, 6, 9, 10, 11]), (17, [0, 1, 3, 4, 6, 7, 9, 10, 2, 5, 8, 11, 12, 13]), (25, [0, 1, 2, 4, 5, 7, 8, 10, 11, 3, 6, 9, 12, 13, 14]), (30, [0, 1, 2, 4, 5, 7, 8, 10, 11, 3, 6, 9, 12, 13, 14])], [], [(5, ⟨[(29, .int .i64)], []⟩), (10, ⟨[(41, .int .i64)], []⟩), (15, ⟨[(61, .int .i64)], []⟩), (23, ⟨[(94, .int .i64)], []⟩), (28, ⟨[(117, .int .i64)], []⟩)], [], [], []⟩
def f14_vc (b_0 : Int) (b_1 : Int) (b_2 : Int) (b_3 : Int) (b_4 : Int) (b_5 : Int) (b_6 : Int) (b_7 : Int) (b_8 : Int) (b_9 : Int) (b_10 : Int) (b_11a : Option Addr) (b_11n : Nat) (b_11c : Nat) (b_12a : Option Addr) (b_12n : Nat) (b_12c : Nat) (b_13a : Option Addr) (b_13n : Nat) (b_13c : Nat) (b_14a : Option Addr) (b_14n : Nat) (b_14c : Nat) (b_15a : Option Addr) (b_15n : Nat) (b_15c : Nat) (w : World) (R : Ending → World → Prop) : Prop :=
 ∀ (n1 : Nat),
 w.heap.size ≤ n1 →
 ∀ (w2 : World),
 Bel w w2 →
 Under [n1] w2 →
 OpW Proofs.Tryd.prog (valueS (Instr.alloc 69 true (Value.tuple #[]))) w2 fun (v3 : Value) (w4 : World) =>
 ∃ (ad5 : Addr),
 v3 = Value.pointer (some ad5) ∧
 Keeps [n1] w2 w4 ∧
 ∀ (w6 : World),
 Bel w4 w6 →
 Under [n1] w6 →
 Calls Proofs.Tryd.prog 25 #[Value.int IntKind.i64 b_9] w6 fun (e7 : Ending) (w8 : World) =>
 ∃ (s9 : ByteArray),
 e7 = Ending.returned (Value.string s9) ∧
 Keeps [n1] w6 w8 ∧
 Calls Proofs.Tryd.prog 25 #[Value.int IntKind.i64 b_10] w8 fun (e10 : Ending) (w11 : World) =>
 ∃ (s12 : ByteArray),
 e10 = Ending.returned (Value.string s12) ∧
 Keeps [n1] w8 w11 ∧
 OpW Proofs.Tryd.prog
 (valueS (Instr.buildSlice 52 4 #[(0, Value.string (ByteArray.mk #[110, 111, 119])), (1, Value.string s9), (2, Value.string (ByteArray.mk #[108, 97, 115, 116])), (3, Value.string s12)])) w11
 fun (v13 : Value) (w14 : World) =>
 ∃ (a15 : Option Addr),
 ∃ (n16 : Nat),
 ∃ (n17 : Nat),
 v13 = Value.slice a15 n16 n17 ∧
 Keeps [n1] w11 w14 ∧
 OpW Proofs.Tryd.prog (invokeS (Value.func (Fn.func 21) #[] #[Value.pointer (some ad5)]) #[Value.slice a15 n16 n17]) w14 fun (v18 : Value) (w19 : World) =>
 v18 = Value.tuple #[] ∧
 Keeps [n1] w14 w19 ∧
 ∃ (J20 : Int × Unit → World → Prop),
 ∃ (J21 : Int × Unit → World → Nat),
 J20 (0, ()) w19 ∧
 ∀ (x22 : Int) (w23 : World),
 J20 (x22, ()) w23 →
 (decide (x22 < (↑b_11n : Int)) = true →
 ∃ (ad24 : Addr),
 Gives Proofs.Tryd.prog (Instr.indexAt 36 (Value.slice b_11a b_11n b_11c) (Value.int IntKind.i64 x22)) (Value.pointer (some ad24)) ∧
 ∃ (x25 : Int),
 ∃ (x26 : Int),
 ∃ (x27 : Int),
 ∃ (b28 : Bool),
 ∃ (b29 : Bool),
 ∃ (x30 : Int),
 ∃ (x31 : Int),
 Reads Proofs.Tryd.prog [] (Instr.loadAt 78 (Value.pointer (some ad24))) w23
 (Value.agg
 #[Value.int IntKind.i64 x25, Value.int IntKind.i64 x26, Value.int IntKind.i64 x27, Value.bool b28, Value.bool b29, Value.int IntKind.i64 x30,
 Value.int IntKind.i64 x31]) ∧
 OpW Proofs.Tryd.prog (valueS (Instr.alloc 78 true (Value.tuple #[]))) w23 fun (v32 : Value) (w33 : World) =>
 ∃ (ad34 : Addr),
 v32 = Value.pointer (some ad34) ∧
 Keeps [n1] w23 w33 ∧
 OpW Proofs.Tryd.prog
 (skipS
 (Instr.storeAt 78 (Value.pointer (some ad34))
 (Value.agg
 #[Value.int IntKind.i64 x25, Value.int IntKind.i64 x26, Value.int IntKind.i64 x27, Value.bool b28, Value.bool b29,
 Value.int IntKind.i64 x30, Value.int IntKind.i64 x31])))
 w33 fun (v35 : Value) (w36 : World) =>
 Keeps [n1] w33 w36 ∧
 ∃ (x37 : Int),
 ∃ (x38 : Int),
 ∃ (x39 : Int),
 ∃ (b40 : Bool),
 ∃ (b41 : Bool),
 ∃ (x42 : Int),
 ∃ (x43 : Int),
 Reads Proofs.Tryd.prog [] (Instr.loadAt 78 (Value.pointer (some ad34))) w36
 (Value.agg
 #[Value.int IntKind.i64 x37, Value.int IntKind.i64 x38, Value.int IntKind.i64 x39, Value.bool b40, Value.bool b41,
 Value.int IntKind.i64 x42, Value.int IntKind.i64 x43]) ∧
 Calls Proofs.Tryd.prog 26
 #[Value.agg
 #[Value.int IntKind.i64 x37, Value.int IntKind.i64 x38, Value.int IntKind.i64 x39, Value.bool b40, Value.bool b41,
 Value.int IntKind.i64 x42, Value.int IntKind.i64 x43]]
 w36 fun (e44 : Ending) (w45 : World) =>
 ∃ (a46 : Option Addr),
 ∃ (n47 : Nat),
 ∃ (n48 : Nat),
 e44 = Ending.returned (Value.slice a46 n47 n48) ∧
 Keeps [n1] w36 w45 ∧
 OpW Proofs.Tryd.prog
 (invokeS (Value.func (Fn.func 21) #[] #[Value.pointer (some ad5)]) #[Value.slice a46 n47 n48]) w45
 fun (v49 : Value) (w50 : World) =>
 v49 = Value.tuple #[] ∧
 Keeps [n1] w45 w50 ∧
 J20 (IntKind.i64.wrap (x22 + 1), ()) w50 ∧
 J21 (IntKind.i64.wrap (x22 + 1), ()) w50 < J21 (x22, ()) w23) ∧
 (decide (x22 < (↑b_11n : Int)) = false →
 ∃ (J51 : Int × Unit → World → Prop),
 ∃ (J52 : Int × Unit → World → Nat),
 J51 (0, ()) w23 ∧
 ∀ (x53 : Int) (w54 : World),
 J51 (x53, ()) w54 →
 (decide (x53 < (↑b_12n : Int)) = true →
 ∃ (ad55 : Addr),
 Gives Proofs.Tryd.prog (Instr.indexAt 37 (Value.slice b_12a b_12n b_12c) (Value.int IntKind.i64 x53)) (Value.pointer (some ad55)) ∧
 ∃ (x56 : Int),
 ∃ (a57 : Option Addr),
 ∃ (n58 : Nat),
 ∃ (n59 : Nat),
 ∃ (a60 : Option Addr),
 ∃ (n61 : Nat),
 ∃ (n62 : Nat),
 Reads Proofs.Tryd.prog [] (Instr.loadAt 59 (Value.pointer (some ad55))) w54
 (Value.agg #[Value.int IntKind.i64 x56, Value.slice a57 n58 n59, Value.slice a60 n61 n62]) ∧
 OpW Proofs.Tryd.prog (valueS (Instr.alloc 59 true (Value.tuple #[]))) w54 fun (v63 : Value) (w64 : World) =>
 ∃ (ad65 : Addr),
 v63 = Value.pointer (some ad65) ∧
 Keeps [n1] w54 w64 ∧
 OpW Proofs.Tryd.prog
 (skipS
 (Instr.storeAt 59 (Value.pointer (some ad65))
 (Value.agg #[Value.int IntKind.i64 x56, Value.slice a57 n58 n59, Value.slice a60 n61 n62])))
 w64 fun (v66 : Value) (w67 : World) =>
 Keeps [n1] w64 w67 ∧
 ∃ (x68 : Int),
 Reads Proofs.Tryd.prog [] (Instr.loadAt 2 (Value.pointer (some ad65))) w67 (Value.int IntKind.i64 x68) ∧
 ∃ (a69 : Option Addr),
 ∃ (n70 : Nat),
 ∃ (n71 : Nat),
 Reads Proofs.Tryd.prog [] (Instr.loadAt 45 (Value.pointer (some (Addr.mk ad65.block (ad65.off + 1) none)))) w67
 (Value.slice a69 n70 n71) ∧
 ∃ (a72 : Option Addr),
 ∃ (n73 : Nat),
 ∃ (n74 : Nat),
 Reads Proofs.Tryd.prog []
 (Instr.loadAt 45 (Value.pointer (some (Addr.mk ad65.block (ad65.off + 2) none)))) w67
 (Value.slice a72 n73 n74) ∧
 ∀ (w75 : World),
 Bel w67 w75 →
 Under [n1] w75 →
 Calls Proofs.Tryd.prog 25 #[Value.int IntKind.i64 x68] w75 fun (e76 : Ending) (w77 : World) =>
 ∃ (s78 : ByteArray),
 e76 = Ending.returned (Value.string s78) ∧
 Keeps [n1] w75 w77 ∧
 Reads Proofs.Tryd.prog []
 (Instr.loadAt 45 (Value.pointer (some (Addr.mk ad65.block (ad65.off + 2) none))))
 w77 (Value.slice a72 n73 n74) ∧
 Reads Proofs.Tryd.prog []
 (Instr.loadAt 45 (Value.pointer (some (Addr.mk ad65.block (ad65.off + 1) none))))
 w77 (Value.slice a69 n70 n71) ∧
 Calls Proofs.Tryd.prog 27 #[Value.slice a69 n70 n71] w77
 fun (e79 : Ending) (w80 : World) =>
 ∃ (s81 : ByteArray),
 e79 = Ending.returned (Value.string s81) ∧
 Keeps [n1] w77 w80 ∧
 Reads Proofs.Tryd.prog []
 (Instr.loadAt 45
 (Value.pointer (some (Addr.mk ad65.block (ad65.off + 2) none))))
 w80 (Value.slice a72 n73 n74) ∧
 Calls Proofs.Tryd.prog 27 #[Value.slice a72 n73 n74] w80
 fun (e82 : Ending) (w83 : World) =>
 ∃ (s84 : ByteArray),
 e82 = Ending.returned (Value.string s84) ∧
 Keeps [n1] w80 w83 ∧
 OpW Proofs.Tryd.prog
 (valueS
 (Instr.buildSlice 52 6
 #[(0,
 Value.string (ByteArray.mk #[97, 103, 101, 110, 116])),
 (1, Value.string s78),
 (2,
 Value.string (ByteArray.mk #[116, 111, 116, 97, 108])),
 (3, Value.string s81),
 (4, Value.string (ByteArray.mk #[102, 114, 101, 101])),
 (5, Value.string s84)]))
 w83 fun (v85 : Value) (w86 : World) =>
 ∃ (a87 : Option Addr),
 ∃ (n88 : Nat),
 ∃ (n89 : Nat),
 v85 = Value.slice a87 n88 n89 ∧
 Keeps [n1] w83 w86 ∧
 OpW Proofs.Tryd.prog
 (invokeS
 (Value.func (Fn.func 21) #[]
 #[Value.pointer (some ad5)])
 #[Value.slice a87 n88 n89])
 w86 fun (v90 : Value) (w91 : World) =>
 v90 = Value.tuple #[] ∧
 Keeps [n1] w86 w91 ∧
 J51 (IntKind.i64.wrap (x53 + 1), ()) w91 ∧
 J52 (IntKind.i64.wrap (x53 + 1), ()) w91 <
 J52 (x53, ()) w54) ∧
 (decide (x53 < (↑b_12n : Int)) = false →
 ∃ (J92 : Int × Unit → World → Prop),
 ∃ (J93 : Int × Unit → World → Nat),
 J92 (0, ()) w54 ∧
 ∀ (x94 : Int) (w95 : World),
 J92 (x94, ()) w95 →
 (decide (x94 < (↑b_13n : Int)) = true →
 ∃ (ad96 : Addr),
 Gives Proofs.Tryd.prog (Instr.indexAt 38 (Value.slice b_13a b_13n b_13c) (Value.int IntKind.i64 x94)) (Value.pointer (some ad96)) ∧
 ∃ (x97 : Int),
 ∃ (x98 : Int),
 ∃ (x99 : Int),
 ∃ (a100 : Option Addr),
 ∃ (n101 : Nat),
 ∃ (n102 : Nat),
 ∃ (x103 : Int),
 Reads Proofs.Tryd.prog [] (Instr.loadAt 61 (Value.pointer (some ad96))) w95
 (Value.agg
 #[Value.int IntKind.i64 x97, Value.int IntKind.i64 x98, Value.int IntKind.i64 x99, Value.slice a100 n101 n102,
 Value.int IntKind.i64 x103]) ∧
 OpW Proofs.Tryd.prog (valueS (Instr.alloc 61 true (Value.tuple #[]))) w95 fun (v104 : Value) (w105 : World) =>
 ∃ (ad106 : Addr),
 v104 = Value.pointer (some ad106) ∧
 Keeps [n1] w95 w105 ∧
 OpW Proofs.Tryd.prog
 (skipS
 (Instr.storeAt 61 (Value.pointer (some ad106))
 (Value.agg
 #[Value.int IntKind.i64 x97, Value.int IntKind.i64 x98, Value.int IntKind.i64 x99,
 Value.slice a100 n101 n102, Value.int IntKind.i64 x103])))
 w105 fun (v107 : Value) (w108 : World) =>
 Keeps [n1] w105 w108 ∧
 ∃ (x109 : Int),
 Reads Proofs.Tryd.prog [] (Instr.loadAt 2 (Value.pointer (some ad106))) w108
 (Value.int IntKind.i64 x109) ∧
 ∃ (x110 : Int),
 Reads Proofs.Tryd.prog []
 (Instr.loadAt 2 (Value.pointer (some (Addr.mk ad106.block (ad106.off + 1) none)))) w108
 (Value.int IntKind.i64 x110) ∧
 ∃ (x111 : Int),
 Reads Proofs.Tryd.prog []
 (Instr.loadAt 2 (Value.pointer (some (Addr.mk ad106.block (ad106.off + 2) none)))) w108
 (Value.int IntKind.i64 x111) ∧
 ∃ (a112 : Option Addr),
 ∃ (n113 : Nat),
 ∃ (n114 : Nat),
 Reads Proofs.Tryd.prog []
 (Instr.loadAt 45 (Value.pointer (some (Addr.mk ad106.block (ad106.off + 3) none))))
 w108 (Value.slice a112 n113 n114) ∧
 ∀ (w115 : World),
 Bel w108 w115 →
 Under [n1] w115 →
 Calls Proofs.Tryd.prog 25 #[Value.int IntKind.i64 x109] w115
 fun (e116 : Ending) (w117 : World) =>
 ∃ (s118 : ByteArray),
 e116 = Ending.returned (Value.string s118) ∧
 Keeps [n1] w115 w117 ∧
 Reads Proofs.Tryd.prog []
 (Instr.loadAt 45
 (Value.pointer (some (Addr.mk ad106.block (ad106.off + 3) none))))
 w117 (Value.slice a112 n113 n114) ∧
 Reads Proofs.Tryd.prog []
 (Instr.loadAt 2
 (Value.pointer (some (Addr.mk ad106.block (ad106.off + 2) none))))
 w117 (Value.int IntKind.i64 x111) ∧
 Reads Proofs.Tryd.prog []
 (Instr.loadAt 2
 (Value.pointer
 (some (Addr.mk ad106.block (ad106.off + 1) none))))
 w117 (Value.int IntKind.i64 x110) ∧
 Calls Proofs.Tryd.prog 25 #[Value.int IntKind.i64 x110] w117
 fun (e119 : Ending) (w120 : World) =>
 ∃ (s121 : ByteArray),
 e119 = Ending.returned (Value.string s121) ∧
 Keeps [n1] w117 w120 ∧
 Reads Proofs.Tryd.prog []
 (Instr.loadAt 45
 (Value.pointer
 (some (Addr.mk ad106.block (ad106.off + 3) none))))
 w120 (Value.slice a112 n113 n114) ∧
 Reads Proofs.Tryd.prog []
 (Instr.loadAt 2
 (Value.pointer
 (some
 (Addr.mk ad106.block (ad106.off + 2) none))))
 w120 (Value.int IntKind.i64 x111) ∧
 Calls Proofs.Tryd.prog 25 #[Value.int IntKind.i64 x111]
 w120 fun (e122 : Ending) (w123 : World) =>
 ∃ (s124 : ByteArray),
 e122 = Ending.returned (Value.string s124) ∧
 Keeps [n1] w120 w123 ∧
 Reads Proofs.Tryd.prog []
 (Instr.loadAt 45
 (Value.pointer
 (some
 (Addr.mk ad106.block (ad106.off + 3)
 none))))
 w123 (Value.slice a112 n113 n114) ∧
 Calls Proofs.Tryd.prog 27
 #[Value.slice a112 n113 n114] w123
 fun (e125 : Ending) (w126 : World) =>
 ∃ (s127 : ByteArray),
 e125 =
 Ending.returned (Value.string s127) ∧
 Keeps [n1] w123 w126 ∧
 OpW Proofs.Tryd.prog
 (valueS
 (Instr.buildSlice 52 7
 #[(0,
 Value.string
 (ByteArray.mk
 #[111, 102, 102, 101,
 114])),
 (1, Value.string s118),
 (2,
 Value.string
 (ByteArray.mk
 #[102, 114, 97, 109,
 101])),
 (3, Value.string s121),
 (4,
 Value.string
 (ByteArray.mk
 #[97, 103, 101, 110,
 116])),
 (5, Value.string s124),
 (6, Value.string s127)]))
 w126
 fun (v128 : Value) (w129 : World) =>
 ∃ (a130 : Option Addr),
 ∃ (n131 : Nat),
 ∃ (n132 : Nat),
 v128 =
 Value.slice a130 n131
 n132 ∧
 Keeps [n1] w126 w129 ∧
 ∃ (x133 : Int),
 Reads Proofs.Tryd.prog
 []
 (Instr.loadAt 2
 (Value.pointer
 (some
 (Addr.mk
 ad106.block
 (ad106.off +
 4)
 none))))
 w129
 (Value.int
 IntKind.i64
 x133) ∧
 ((x133 != 0) = true →
 ∃ (x134 : Int),
 Reads
 Proofs.Tryd.prog
 []
 (Instr.loadAt
 2
 (Value.pointer
 (some
 (Addr.mk
 ad106.block
 (ad106.off +
 4)
 none))))
 w129
 (Value.int
 IntKind.i64
 x134) ∧
 Calls
 Proofs.Tryd.prog
 25
 #[Value.int
 IntKind.i64
 x134]
 w129
 fun
 (e135 :
 Ending)
 (w136 :
 World) =>
 ∃ (s137 :
 ByteArray),
 e135 =
 Ending.returned
 (Value.string
 s137) ∧
 Keeps
 [n1]
 w129
 w136 ∧
 OpW
 Proofs.Tryd.prog
 (valueS
 (Instr.buildSlice
 52
 2
 #[(0,
 Value.string
 (ByteArray.mk
 #[117,
 110,
 116,
 105,
 108])),
 (1,
 Value.string
 s137)]))
 w136
 fun
 (v138 :
 Value)
 (w139 :
 World) =>
 ∃
 (a140
 :
 Option
 Addr),
 ∃
 (n141
 :
 Nat),
 ∃
 (n142
 :
 Nat),
 v138 =
 Value.slice
 a140
 n141
 n142 ∧
 Keeps
 [n1]
 w136
 w139 ∧
 OpW
 Proofs.Tryd.prog
 (builtin
 Builtin.append
 #[52,
 52]
 52
 #[false,
 false]
 #[Value.slice
 a130
 n131
 n132,
 Value.slice
 a140
 n141
 n142])
 w139
 fun
 (v143 :
 Value)
 (w144 :
 World) =>
 ∃
 (a145
 :
 Option
 Addr),
 ∃
 (n146
 :
 Nat),
 ∃
 (n147
 :
 Nat),
 v143 =
 Value.slice
 a145
 n146
 n147 ∧
 Keeps
 [n1]
 w139
 w144 ∧
 OpW
 Proofs.Tryd.prog
 (invokeS
 (Value.func
 (Fn.func
 21)
 #[]
 #[Value.pointer
 (some
 ad5)])
 #[Value.slice
 a145
 n146
 n147])
 w144
 fun
 (v148 :
 Value)
 (w149 :
 World) =>
 v148 =
 Value.tuple
 #[] ∧
 Keeps
 [n1]
 w144
 w149 ∧
 J92
 (IntKind.i64.wrap
 (x94 +
 1),
 ())
 w149 ∧
 J93
 (IntKind.i64.wrap
 (x94 +
 1),
 ())
 w149 <
 J93
 (x94,
 ())
 w95) ∧
 ((x133 != 0) =
 false →
 OpW
 Proofs.Tryd.prog
 (invokeS
 (Value.func
 (Fn.func 21)
 #[]
 #[Value.pointer
 (some
 ad5)])
 #[Value.slice
 a130 n131
 n132])
 w129
 fun
 (v150 : Value)
 (w151 :
 World) =>
 v150 =
 Value.tuple
 #[] ∧
 Keeps [n1]
 w129
 w151 ∧
 J92
 (IntKind.i64.wrap
 (x94 +
 1),
 ())
 w151 ∧
 J93
 (IntKind.i64.wrap
 (x94 +
 1),
 ())
 w151 <
 J93
 (x94,
 ())
 w95)) ∧
 (decide (x94 < (↑b_13n : Int)) = false →
 ∃ (J152 : Int × Unit → World → Prop),
 ∃ (J153 : Int × Unit → World → Nat),
 J152 (0, ()) w95 ∧
 ∀ (x154 : Int) (w155 : World),
 J152 (x154, ()) w155 →
 (decide (x154 < (↑b_14n : Int)) = true →
 ∃ (ad156 : Addr),
 Gives Proofs.Tryd.prog (Instr.indexAt 39 (Value.slice b_14a b_14n b_14c) (Value.int IntKind.i64 x154))
 (Value.pointer (some ad156)) ∧
 ∃ (x157 : Int),
 ∃ (x158 : Int),
 ∃ (x159 : Int),
 ∃ (a160 : Option Addr),
 ∃ (n161 : Nat),
 ∃ (n162 : Nat),
 Reads Proofs.Tryd.prog [] (Instr.loadAt 63 (Value.pointer (some ad156))) w155
 (Value.agg
 #[Value.int IntKind.i64 x157, Value.int IntKind.i64 x158, Value.int IntKind.i64 x159,
 Value.slice a160 n161 n162]) ∧
 OpW Proofs.Tryd.prog (valueS (Instr.alloc 63 true (Value.tuple #[]))) w155
 fun (v163 : Value) (w164 : World) =>
 ∃ (ad165 : Addr),
 v163 = Value.pointer (some ad165) ∧
 Keeps [n1] w155 w164 ∧
 OpW Proofs.Tryd.prog
 (skipS
 (Instr.storeAt 63 (Value.pointer (some ad165))
 (Value.agg
 #[Value.int IntKind.i64 x157, Value.int IntKind.i64 x158, Value.int IntKind.i64 x159,
 Value.slice a160 n161 n162])))
 w164 fun (v166 : Value) (w167 : World) =>
 Keeps [n1] w164 w167 ∧
 ∃ (x168 : Int),
 Reads Proofs.Tryd.prog [] (Instr.loadAt 2 (Value.pointer (some ad165))) w167
 (Value.int IntKind.i64 x168) ∧
 ∃ (x169 : Int),
 Reads Proofs.Tryd.prog []
 (Instr.loadAt 2 (Value.pointer (some (Addr.mk ad165.block (ad165.off + 1) none))))
 w167 (Value.int IntKind.i64 x169) ∧
 ∃ (x170 : Int),
 Reads Proofs.Tryd.prog []
 (Instr.loadAt 2 (Value.pointer (some (Addr.mk ad165.block (ad165.off + 2) none))))
 w167 (Value.int IntKind.i64 x170) ∧
 ∃ (a171 : Option Addr),
 ∃ (n172 : Nat),
 ∃ (n173 : Nat),
 Reads Proofs.Tryd.prog []
 (Instr.loadAt 45
 (Value.pointer (some (Addr.mk ad165.block (ad165.off + 3) none))))
 w167 (Value.slice a171 n172 n173) ∧
 ∀ (w174 : World),
 Bel w167 w174 →
 Under [n1] w174 →
 Calls Proofs.Tryd.prog 25 #[Value.int IntKind.i64 x168] w174
 fun (e175 : Ending) (w176 : World) =>
 ∃ (s177 : ByteArray),
 e175 = Ending.returned (Value.string s177) ∧
 Keeps [n1] w174 w176 ∧
 Reads Proofs.Tryd.prog []
 (Instr.loadAt 45
 (Value.pointer
 (some (Addr.mk ad165.block (ad165.off + 3) none))))
 w176 (Value.slice a171 n172 n173) ∧
 Reads Proofs.Tryd.prog []
 (Instr.loadAt 2
 (Value.pointer
 (some (Addr.mk ad165.block (ad165.off + 2) none))))
 w176 (Value.int IntKind.i64 x170) ∧
 Reads Proofs.Tryd.prog []
 (Instr.loadAt 2
 (Value.pointer
 (some
 (Addr.mk ad165.block (ad165.off + 1) none))))
 w176 (Value.int IntKind.i64 x169) ∧
 Calls Proofs.Tryd.prog 25 #[Value.int IntKind.i64 x169]
 w176 fun (e178 : Ending) (w179 : World) =>
 ∃ (s180 : ByteArray),
 e178 = Ending.returned (Value.string s180) ∧
 Keeps [n1] w176 w179 ∧
 Reads Proofs.Tryd.prog []
 (Instr.loadAt 45
 (Value.pointer
 (some
 (Addr.mk ad165.block (ad165.off + 3)
 none))))
 w179 (Value.slice a171 n172 n173) ∧
 Reads Proofs.Tryd.prog []
 (Instr.loadAt 2
 (Value.pointer
 (some
 (Addr.mk ad165.block (ad165.off + 2)
 none))))
 w179 (Value.int IntKind.i64 x170) ∧
 Calls Proofs.Tryd.prog 25
 #[Value.int IntKind.i64 x170] w179
 fun (e181 : Ending) (w182 : World) =>
 ∃ (s183 : ByteArray),
 e181 =
 Ending.returned
 (Value.string s183) ∧
 Keeps [n1] w179 w182 ∧
 Reads Proofs.Tryd.prog []
 (Instr.loadAt 45
 (Value.pointer
 (some
 (Addr.mk ad165.block
 (ad165.off + 3) none))))
 w182
 (Value.slice a171 n172 n173) ∧
 Calls Proofs.Tryd.prog 27
 #[Value.slice a171 n172 n173]
 w182
 fun (e184 : Ending)
 (w185 : World) =>
 ∃ (s186 : ByteArray),
 e184 =
 Ending.returned
 (Value.string s186) ∧
 Keeps [n1] w182 w185 ∧
 OpW Proofs.Tryd.prog
 (valueS
 (Instr.buildSlice 52 6
 #[(0,
 Value.string
 (ByteArray.mk
 #[116, 97,
 115,
 107])),
 (1,
 Value.string
 s177),
 (2,
 Value.string
 s180),
 (3,
 Value.string
 (ByteArray.mk
 #[97, 103,
 101, 110,
 116])),
 (4,
 Value.string
 s183),
 (5,
 Value.string
 s186)]))
 w185
 fun (v187 : Value)
 (w188 : World) =>
 ∃ (a189 : Option Addr),
 ∃ (n190 : Nat),
 ∃ (n191 : Nat),
 v187 =
 Value.slice
 a189 n190
 n191 ∧
 Keeps [n1] w185
 w188 ∧
 OpW
 Proofs.Tryd.prog
 (invokeS
 (Value.func
 (Fn.func
 21)
 #[]
 #[Value.pointer
 (some
 ad5)])
 #[Value.slice
 a189
 n190
 n191])
 w188
 fun
 (v192 :
 Value)
 (w193 :
 World) =>
 v192 =
 Value.tuple
 #[] ∧
 Keeps [n1]
 w188
 w193 ∧
 J152
 (IntKind.i64.wrap
 (x154 +
 1),
 ())
 w193 ∧
 J153
 (IntKind.i64.wrap
 (x154 +
 1),
 ())
 w193 <
 J153
 (x154,
 ())
 w155) ∧
 (decide (x154 < (↑b_14n : Int)) = false →
 ∃ (J194 : Int × Unit → World → Prop),
 ∃ (J195 : Int × Unit → World → Nat),
 J194 (0, ()) w155 ∧
 ∀ (x196 : Int) (w197 : World),
 J194 (x196, ()) w197 →
 (decide (x196 < (↑b_15n : Int)) = true →
 ∃ (ad198 : Addr),
 Gives Proofs.Tryd.prog (Instr.indexAt 40 (Value.slice b_15a b_15n b_15c) (Value.int IntKind.i64 x196))
 (Value.pointer (some ad198)) ∧
 ∃ (x199 : Int),
 ∃ (x200 : Int),
 ∃ (x201 : Int),
 ∃ (a202 : Option Addr),
 ∃ (n203 : Nat),
 ∃ (n204 : Nat),
 Reads Proofs.Tryd.prog [] (Instr.loadAt 65 (Value.pointer (some ad198))) w197
 (Value.agg
 #[Value.int IntKind.i64 x199, Value.int IntKind.i64 x200, Value.int IntKind.i64 x201,
 Value.slice a202 n203 n204]) ∧
 OpW Proofs.Tryd.prog (valueS (Instr.alloc 65 true (Value.tuple #[]))) w197
 fun (v205 : Value) (w206 : World) =>
 ∃ (ad207 : Addr),
 v205 = Value.pointer (some ad207) ∧
 Keeps [n1] w197 w206 ∧
 OpW Proofs.Tryd.prog
 (skipS
 (Instr.storeAt 65 (Value.pointer (some ad207))
 (Value.agg
 #[Value.int IntKind.i64 x199, Value.int IntKind.i64 x200,
 Value.int IntKind.i64 x201, Value.slice a202 n203 n204])))
 w206 fun (v208 : Value) (w209 : World) =>
 Keeps [n1] w206 w209 ∧
 ∃ (x210 : Int),
 Reads Proofs.Tryd.prog [] (Instr.loadAt 2 (Value.pointer (some ad207))) w209
 (Value.int IntKind.i64 x210) ∧
 ∃ (x211 : Int),
 Reads Proofs.Tryd.prog []
 (Instr.loadAt 2
 (Value.pointer (some (Addr.mk ad207.block (ad207.off + 1) none))))
 w209 (Value.int IntKind.i64 x211) ∧
 ∃ (x212 : Int),
 Reads Proofs.Tryd.prog []
 (Instr.loadAt 2
 (Value.pointer (some (Addr.mk ad207.block (ad207.off + 2) none))))
 w209 (Value.int IntKind.i64 x212) ∧
 ∃ (a213 : Option Addr),
 ∃ (n214 : Nat),
 ∃ (n215 : Nat),
 Reads Proofs.Tryd.prog []
 (Instr.loadAt 45
 (Value.pointer
 (some (Addr.mk ad207.block (ad207.off + 3) none))))
 w209 (Value.slice a213 n214 n215) ∧
 ∀ (w216 : World),
 Bel w209 w216 →
 Under [n1] w216 →
 Calls Proofs.Tryd.prog 25 #[Value.int IntKind.i64 x210]
 w216 fun (e217 : Ending) (w218 : World) =>
 ∃ (s219 : ByteArray),
 e217 = Ending.returned (Value.string s219) ∧
 Keeps [n1] w216 w218 ∧
 Reads Proofs.Tryd.prog []
 (Instr.loadAt 45
 (Value.pointer
 (some
 (Addr.mk ad207.block (ad207.off + 3)
 none))))
 w218 (Value.slice a213 n214 n215) ∧
 Reads Proofs.Tryd.prog []
 (Instr.loadAt 2
 (Value.pointer
 (some
 (Addr.mk ad207.block (ad207.off + 2)
 none))))
 w218 (Value.int IntKind.i64 x212) ∧
 Reads Proofs.Tryd.prog []
 (Instr.loadAt 2
 (Value.pointer
 (some
 (Addr.mk ad207.block
 (ad207.off + 1) none))))
 w218 (Value.int IntKind.i64 x211) ∧
 Calls Proofs.Tryd.prog 25
 #[Value.int IntKind.i64 x211] w218
 fun (e220 : Ending) (w221 : World) =>
 ∃ (s222 : ByteArray),
 e220 =
 Ending.returned
 (Value.string s222) ∧
 Keeps [n1] w218 w221 ∧
 Reads Proofs.Tryd.prog []
 (Instr.loadAt 45
 (Value.pointer
 (some
 (Addr.mk ad207.block
 (ad207.off + 3)
 none))))
 w221
 (Value.slice a213 n214 n215) ∧
 Reads Proofs.Tryd.prog []
 (Instr.loadAt 2
 (Value.pointer
 (some
 (Addr.mk ad207.block
 (ad207.off + 2)
 none))))
 w221
 (Value.int IntKind.i64
 x212) ∧
 Calls Proofs.Tryd.prog 25
 #[Value.int IntKind.i64
 x212]
 w221
 fun (e223 : Ending)
 (w224 : World) =>
 ∃ (s225 : ByteArray),
 e223 =
 Ending.returned
 (Value.string
 s225) ∧
 Keeps [n1] w221 w224 ∧
 Reads Proofs.Tryd.prog
 []
 (Instr.loadAt 45
 (Value.pointer
 (some
 (Addr.mk
 ad207.block
 (ad207.off +
 3)
 none))))
 w224
 (Value.slice a213
 n214 n215) ∧
 Calls
 Proofs.Tryd.prog
 27
 #[Value.slice a213
 n214 n215]
 w224
 fun
 (e226 : Ending)
 (w227 :
 World) =>
 ∃ (s228 :
 ByteArray),
 e226 =
 Ending.returned
 (Value.string
 s228) ∧
 Keeps [n1]
 w224
 w227 ∧
 OpW
 Proofs.Tryd.prog
 (valueS
 (Instr.buildSlice
 52 7
 #[(0,
 Value.string
 (ByteArray.mk
 #[102,
 105,
 108,
 116,
 101,
 114])),
 (1,
 Value.string
 s219),
 (2,
 Value.string
 (ByteArray.mk
 #[97,
 103,
 101,
 110,
 116])),
 (3,
 Value.string
 s222),
 (4,
 Value.string
 (ByteArray.mk
 #[117,
 110,
 116,
 105,
 108])),
 (5,
 Value.string
 s225),
 (6,
 Value.string
 s228)]))
 w227
 fun
 (v229 :
 Value)
 (w230 :
 World) =>
 ∃ (a231 :
 Option
 Addr),
 ∃ (n232
 :
 Nat),
 ∃
 (n233
 :
 Nat),
 v229 =
 Value.slice
 a231
 n232
 n233 ∧
 Keeps
 [n1]
 w227
 w230 ∧
 OpW
 Proofs.Tryd.prog
 (invokeS
 (Value.func
 (Fn.func
 21)
 #[]
 #[Value.pointer
 (some
 ad5)])
 #[Value.slice
 a231
 n232
 n233])
 w230
 fun
 (v234 :
 Value)
 (w235 :
 World) =>
 v234 =
 Value.tuple
 #[] ∧
 Keeps
 [n1]
 w230
 w235 ∧
 J194
 (IntKind.i64.wrap
 (x196 +
 1),
 ())
 w235 ∧
 J195
 (IntKind.i64.wrap
 (x196 +
 1),
 ())
 w235 <
 J195
 (x196,
 ())
 w197) ∧
 (decide (x196 < (↑b_15n : Int)) = false →
 Calls Proofs.Tryd.prog 28 #[Value.pointer (some ad5)] w197 fun (e236 : Ending) (w237 : World) =>
 ∃ (s238 : ByteArray),
 e236 = Ending.returned (Value.string s238) ∧
 Keeps [n1] w197 w237 ∧ R (Ending.returned (Value.string s238)) w237)))))
theorem f14_eq (b_0 : Int) (b_1 : Int) (b_2 : Int) (b_3 : Int) (b_4 : Int) (b_5 : Int) (b_6 : Int) (b_7 : Int) (b_8 : Int) (b_9 : Int) (b_10 : Int) (b_11a : Option Addr) (b_11n : Nat) (b_11c : Nat) (b_12a : Option Addr) (b_12n : Nat) (b_12c : Nat) (b_13a : Option Addr) (b_13n : Nat) (b_13c : Nat) (b_14a : Option Addr) (b_14n : Nat) (b_14c : Nat) (b_15a : Option Addr) (b_15n : Nat) (b_15c : Nat) (w : World) (R : Ending → World → Prop) : (fnF Go.Proofs.Tryd.prog h14 Go.Proofs.Tryd.f14 [Value.agg
 #[Value.int IntKind.i64 b_0, Value.int IntKind.i64 b_1, Value.int IntKind.i64 b_2, Value.int IntKind.i64 b_3, Value.int IntKind.i64 b_4, Value.int IntKind.i64 b_5, Value.int IntKind.i64 b_6, Value.int IntKind.i64 b_7,
 Value.int IntKind.i64 b_8, Value.int IntKind.i64 b_9, Value.int IntKind.i64 b_10, Value.slice b_11a b_11n b_11c, Value.slice b_12a b_12n b_12c, Value.slice b_13a b_13n b_13c, Value.slice b_14a b_14n b_14c,
 Value.slice b_15a b_15n b_15c]] w R).den = f14_vc b_0 b_1 b_2 b_3 b_4 b_5 b_6 b_7 b_8 b_9 b_10 b_11a b_11n b_11c b_12a b_12n b_12c b_13a b_13n b_13c b_14a b_14n b_14c b_15a b_15n b_15c w R := by kernel_rfl
theorem f14_calls (b_0 : Int) (b_1 : Int) (b_2 : Int) (b_3 : Int) (b_4 : Int) (b_5 : Int) (b_6 : Int) (b_7 : Int) (b_8 : Int) (b_9 : Int) (b_10 : Int) (b_11a : Option Addr) (b_11n : Nat) (b_11c : Nat) (b_12a : Option Addr) (b_12n : Nat) (b_12c : Nat) (b_13a : Option Addr) (b_13n : Nat) (b_13c : Nat) (b_14a : Option Addr) (b_14n : Nat) (b_14c : Nat) (b_15a : Option Addr) (b_15n : Nat) (b_15c : Nat) (w : World) (R : Ending → World → Prop) (h : f14_vc b_0 b_1 b_2 b_3 b_4 b_5 b_6 b_7 b_8 b_9 b_10 b_11a b_11n b_11c b_12a b_12n b_12c b_13a b_13n b_13c b_14a b_14n b_14c b_15a b_15n b_15c w R) : Calls Go.Proofs.Tryd.prog 14 (List.toArray [Value.agg
 #[Value.int IntKind.i64 b_0, Value.int IntKind.i64 b_1, Value.int IntKind.i64 b_2, Value.int IntKind.i64 b_3, Value.int IntKind.i64 b_4, Value.int IntKind.i64 b_5, Value.int IntKind.i64 b_6, Value.int IntKind.i64 b_7,
 Value.int IntKind.i64 b_8, Value.int IntKind.i64 b_9, Value.int IntKind.i64 b_10, Value.slice b_11a b_11n b_11c, Value.slice b_12a b_12n b_12c, Value.slice b_13a b_13n b_13c, Value.slice b_14a b_14n b_14c,
 Value.slice b_15a b_15n b_15c]]) w R :=
 fn_sound (H := h14) (fn := Go.Proofs.Tryd.f14) (by kernel_rfl) (by kernel_rfl) (by kernel_rfl) ((f14_eq b_0 b_1 b_2 b_3 b_4 b_5 b_6 b_7 b_8 b_9 b_10 b_11a b_11n b_11c b_12a b_12n b_12c b_13a b_13n b_13c b_14a b_14n b_14c b_15a b_15n b_15c w R).mpr h)

/-! manciple/mancipleref34.Book -/
def h15 : Hints := ⟨[1, 6, 8, 10, 12], [16, 17, 21, 22, 34, 37, 48, 51, 55, 56, 60, 61, 65, 66, 77, 80, 84, 85, 89, 90, 94, 95, 99, 104, 108, 110, 121, 124, 128, 129, 133, 134, 138, 139, 143, 144, 155, 158, 162, 163, 167, 168, 172, 173, 177, 178], [27, 42, 71, 102, 115, 149], [(1, [0, 1, 5, 6, 2, 3, 4, 7, 8, 9, 10]), (10, [0, 1, 2, 3, 7, 8, 12, 13, 4, 5, 6, 9, 10, 11, 14, 15, 16, 17]), (15, [0, 1, 2, 3, 7, 8, 12, 13, 17, 18, 4, 5, 6, 9, 10, 11, 14, 15, 16, 19, 20, 21]), (23, [0, 1, 2, 3, 7, 8, 12, 13, 17, 18, 4, 5, 6, 9, 10, 11, 14, 15, 16, 19, 20, 21, 22]), (28, [0, 1, 2, 3, 7, 8, 12, 13, 17, 18, 4, 5, 6, 9, 10, 11, 14, 15, 16, 19, 20, 21, 22])], [], [(3, ⟨[(3, .str), (4, .int .i64)], []⟩), (7, ⟨[(3, .str), (5, .int .i64)], []⟩), (12, ⟨[(3, .str), (7, .int .i64)], []⟩), (20, ⟨[(3, .str), (9, .int .i64)], []⟩), (25, ⟨[(3, .str), (11, .int .i64)], []⟩)], [], [], []⟩
def f15_vc (b_0 : Int) (b_1 : Int) (b_2 : Int) (b_3 : Int) (b_4 : Int) (b_5 : Int) (b_6 : Int) (b_7 : Int) (b_8 : Int) (b_9 : Int) (b_10 : Int) (b_11a : Option Addr) (b_11n : Nat) (b_11c : Nat) (b_12a : Option Addr) (b_12n : Nat) (b_12c : Nat) (b_13a : Option Addr) (b_13n : Nat) (b_13c : Nat) (b_14a : Option Addr) (b_14n : Nat) (b_14c : Nat) (b_15a : Option Addr) (b_15n : Nat) (b_15c : Nat) (w : World) (R : Ending → World → Prop) : Prop :=
 ∀ (n1 : Nat),
 w.heap.size ≤ n1 →
 ∀ (w2 : World),
 Bel w w2 →
 Under [n1] w2 →
 Calls Proofs.Tryd.prog 20 #[Value.int IntKind.i64 b_9] w2 fun (e3 : Ending) (w4 : World) =>
 ∃ (s5 : ByteArray),
 e3 = Ending.returned (Value.string s5) ∧
 Keeps [n1] w2 w4 ∧
 ∃ (s6 : ByteArray),
 Gives Proofs.Tryd.prog (binOpS BinOp.add 9 (Operand.const (Value.string (ByteArray.mk #[110, 111, 119, 32]))) (Operand.tmp 15) (Value.string (ByteArray.mk #[110, 111, 119, 32])) (Value.string s5)) (Value.string s6) ∧
 ∃ (s7 : ByteArray),
 Gives Proofs.Tryd.prog (binOpS BinOp.add 9 (Operand.tmp 16) (Operand.const (Value.string (ByteArray.mk #[32, 108, 97, 115, 116, 32]))) (Value.string s6) (Value.string (ByteArray.mk #[32, 108, 97, 115, 116, 32])))
 (Value.string s7) ∧
 Calls Proofs.Tryd.prog 20 #[Value.int IntKind.i64 b_10] w4 fun (e8 : Ending) (w9 : World) =>
 ∃ (s10 : ByteArray),
 e8 = Ending.returned (Value.string s10) ∧
 Keeps [n1] w4 w9 ∧
 ∃ (s11 : ByteArray),
 Gives Proofs.Tryd.prog (binOpS BinOp.add 9 (Operand.tmp 17) (Operand.tmp 20) (Value.string s7) (Value.string s10)) (Value.string s11) ∧
 ∃ (s12 : ByteArray),
 Gives Proofs.Tryd.prog (binOpS BinOp.add 9 (Operand.tmp 21) (Operand.const (Value.string (ByteArray.mk #[10]))) (Value.string s11) (Value.string (ByteArray.mk #[10]))) (Value.string s12) ∧
 ∃ (J13 : ByteArray × Int × Unit → World → Prop),
 ∃ (J14 : ByteArray × Int × Unit → World → Nat),
 J13 (s12, 0, ()) w9 ∧
 ∀ (s15 : ByteArray) (x16 : Int) (w17 : World),
 J13 (s15, x16, ()) w17 →
 (decide (x16 < (↑b_11n : Int)) = true →
 ∃ (ad18 : Addr),
 Gives Proofs.Tryd.prog (Instr.indexAt 36 (Value.slice b_11a b_11n b_11c) (Value.int IntKind.i64 x16)) (Value.pointer (some ad18)) ∧
 ∃ (x19 : Int),
 ∃ (x20 : Int),
 ∃ (x21 : Int),
 ∃ (b22 : Bool),
 ∃ (b23 : Bool),
 ∃ (x24 : Int),
 ∃ (x25 : Int),
 Reads Proofs.Tryd.prog [] (Instr.loadAt 78 (Value.pointer (some ad18))) w17
 (Value.agg
 #[Value.int IntKind.i64 x19, Value.int IntKind.i64 x20, Value.int IntKind.i64 x21, Value.bool b22, Value.bool b23, Value.int IntKind.i64 x24,
 Value.int IntKind.i64 x25]) ∧
 Calls Proofs.Tryd.prog 29
 #[Value.agg
 #[Value.int IntKind.i64 x19, Value.int IntKind.i64 x20, Value.int IntKind.i64 x21, Value.bool b22, Value.bool b23, Value.int IntKind.i64 x24,
 Value.int IntKind.i64 x25]]
 w17 fun (e26 : Ending) (w27 : World) =>
 ∃ (s28 : ByteArray),
 e26 = Ending.returned (Value.string s28) ∧
 Keeps [n1] w17 w27 ∧
 ∃ (s29 : ByteArray),
 Gives Proofs.Tryd.prog (binOpS BinOp.add 9 (Operand.tmp 30) (Operand.tmp 36) (Value.string s15) (Value.string s28)) (Value.string s29) ∧
 J13 (s29, IntKind.i64.wrap (x16 + 1), ()) w27 ∧ J14 (s29, IntKind.i64.wrap (x16 + 1), ()) w27 < J14 (s15, x16, ()) w17) ∧
 (decide (x16 < (↑b_11n : Int)) = false →
 ∃ (J30 : ByteArray × Int × Unit → World → Prop),
 ∃ (J31 : ByteArray × Int × Unit → World → Nat),
 J30 (s15, 0, ()) w17 ∧
 ∀ (s32 : ByteArray) (x33 : Int) (w34 : World),
 J30 (s32, x33, ()) w34 →
 (decide (x33 < (↑b_12n : Int)) = true →
 ∃ (ad35 : Addr),
 Gives Proofs.Tryd.prog (Instr.indexAt 37 (Value.slice b_12a b_12n b_12c) (Value.int IntKind.i64 x33)) (Value.pointer (some ad35)) ∧
 ∃ (x36 : Int),
 ∃ (a37 : Option Addr),
 ∃ (n38 : Nat),
 ∃ (n39 : Nat),
 ∃ (a40 : Option Addr),
 ∃ (n41 : Nat),
 ∃ (n42 : Nat),
 Reads Proofs.Tryd.prog [] (Instr.loadAt 59 (Value.pointer (some ad35))) w34
 (Value.agg #[Value.int IntKind.i64 x36, Value.slice a37 n38 n39, Value.slice a40 n41 n42]) ∧
 ∀ (n43 : Nat),
 w34.heap.size ≤ n43 →
 ∃ (s44 : ByteArray),
 Gives Proofs.Tryd.prog
 (binOpS BinOp.add 9 (Operand.tmp 50) (Operand.const (Value.string (ByteArray.mk #[97, 103, 101, 110, 116, 32]))) (Value.string s32)
 (Value.string (ByteArray.mk #[97, 103, 101, 110, 116, 32])))
 (Value.string s44) ∧
 ∀ (w45 : World),
 Evo [n43] w34 w45 →
 Under [n1, n43] w45 →
 Calls Proofs.Tryd.prog 20 #[Value.int IntKind.i64 x36] w45 fun (e46 : Ending) (w47 : World) =>
 ∃ (s48 : ByteArray),
 e46 = Ending.returned (Value.string s48) ∧
 Keeps [n1, n43] w45 w47 ∧
 ∃ (s49 : ByteArray),
 Gives Proofs.Tryd.prog (binOpS BinOp.add 9 (Operand.tmp 51) (Operand.tmp 54) (Value.string s44) (Value.string s48))
 (Value.string s49) ∧
 ∃ (s50 : ByteArray),
 Gives Proofs.Tryd.prog
 (binOpS BinOp.add 9 (Operand.tmp 55) (Operand.const (Value.string (ByteArray.mk #[32, 116, 111, 116, 97, 108, 32])))
 (Value.string s49) (Value.string (ByteArray.mk #[32, 116, 111, 116, 97, 108, 32])))
 (Value.string s50) ∧
 Calls Proofs.Tryd.prog 30 #[Value.slice a37 n38 n39] w47 fun (e51 : Ending) (w52 : World) =>
 ∃ (s53 : ByteArray),
 e51 = Ending.returned (Value.string s53) ∧
 Keeps [n1, n43] w47 w52 ∧
 ∃ (s54 : ByteArray),
 Gives Proofs.Tryd.prog
 (binOpS BinOp.add 9 (Operand.tmp 56) (Operand.tmp 59) (Value.string s50) (Value.string s53))
 (Value.string s54) ∧
 ∃ (s55 : ByteArray),
 Gives Proofs.Tryd.prog
 (binOpS BinOp.add 9 (Operand.tmp 60)
 (Operand.const (Value.string (ByteArray.mk #[32, 102, 114, 101, 101, 32]))) (Value.string s54)
 (Value.string (ByteArray.mk #[32, 102, 114, 101, 101, 32])))
 (Value.string s55) ∧
 Calls Proofs.Tryd.prog 30 #[Value.slice a40 n41 n42] w52 fun (e56 : Ending) (w57 : World) =>
 ∃ (s58 : ByteArray),
 e56 = Ending.returned (Value.string s58) ∧
 Keeps [n1, n43] w52 w57 ∧
 ∃ (s59 : ByteArray),
 Gives Proofs.Tryd.prog
 (binOpS BinOp.add 9 (Operand.tmp 61) (Operand.tmp 64) (Value.string s55)
 (Value.string s58))
 (Value.string s59) ∧
 ∃ (s60 : ByteArray),
 Gives Proofs.Tryd.prog
 (binOpS BinOp.add 9 (Operand.tmp 65)
 (Operand.const (Value.string (ByteArray.mk #[10]))) (Value.string s59)
 (Value.string (ByteArray.mk #[10])))
 (Value.string s60) ∧
 J30 (s60, IntKind.i64.wrap (x33 + 1), ()) w57 ∧
 J31 (s60, IntKind.i64.wrap (x33 + 1), ()) w57 < J31 (s32, x33, ()) w34) ∧
 (decide (x33 < (↑b_12n : Int)) = false →
 ∃ (J61 : ByteArray × Int × Unit → World → Prop),
 ∃ (J62 : ByteArray × Int × Unit → World → Nat),
 J61 (s32, 0, ()) w34 ∧
 ∀ (s63 : ByteArray) (x64 : Int) (w65 : World),
 J61 (s63, x64, ()) w65 →
 (decide (x64 < (↑b_13n : Int)) = true →
 ∃ (ad66 : Addr),
 Gives Proofs.Tryd.prog (Instr.indexAt 38 (Value.slice b_13a b_13n b_13c) (Value.int IntKind.i64 x64)) (Value.pointer (some ad66)) ∧
 ∃ (x67 : Int),
 ∃ (x68 : Int),
 ∃ (x69 : Int),
 ∃ (a70 : Option Addr),
 ∃ (n71 : Nat),
 ∃ (n72 : Nat),
 ∃ (x73 : Int),
 Reads Proofs.Tryd.prog [] (Instr.loadAt 61 (Value.pointer (some ad66))) w65
 (Value.agg
 #[Value.int IntKind.i64 x67, Value.int IntKind.i64 x68, Value.int IntKind.i64 x69, Value.slice a70 n71 n72,
 Value.int IntKind.i64 x73]) ∧
 ∀ (n74 : Nat),
 w65.heap.size ≤ n74 →
 ∃ (s75 : ByteArray),
 Gives Proofs.Tryd.prog
 (binOpS BinOp.add 9 (Operand.tmp 79) (Operand.const (Value.string (ByteArray.mk #[111, 102, 102, 101, 114, 32])))
 (Value.string s63) (Value.string (ByteArray.mk #[111, 102, 102, 101, 114, 32])))
 (Value.string s75) ∧
 ∀ (w76 : World),
 Evo [n74] w65 w76 →
 Under [n1, n74] w76 →
 Calls Proofs.Tryd.prog 20 #[Value.int IntKind.i64 x67] w76 fun (e77 : Ending) (w78 : World) =>
 ∃ (s79 : ByteArray),
 e77 = Ending.returned (Value.string s79) ∧
 Keeps [n1, n74] w76 w78 ∧
 ∃ (s80 : ByteArray),
 Gives Proofs.Tryd.prog
 (binOpS BinOp.add 9 (Operand.tmp 80) (Operand.tmp 83) (Value.string s75) (Value.string s79))
 (Value.string s80) ∧
 ∃ (s81 : ByteArray),
 Gives Proofs.Tryd.prog
 (binOpS BinOp.add 9 (Operand.tmp 84)
 (Operand.const (Value.string (ByteArray.mk #[32, 102, 114, 97, 109, 101, 32]))) (Value.string s80)
 (Value.string (ByteArray.mk #[32, 102, 114, 97, 109, 101, 32])))
 (Value.string s81) ∧
 Calls Proofs.Tryd.prog 20 #[Value.int IntKind.i64 x68] w78 fun (e82 : Ending) (w83 : World) =>
 ∃ (s84 : ByteArray),
 e82 = Ending.returned (Value.string s84) ∧
 Keeps [n1, n74] w78 w83 ∧
 ∃ (s85 : ByteArray),
 Gives Proofs.Tryd.prog
 (binOpS BinOp.add 9 (Operand.tmp 85) (Operand.tmp 88) (Value.string s81) (Value.string s84))
 (Value.string s85) ∧
 ∃ (s86 : ByteArray),
 Gives Proofs.Tryd.prog
 (binOpS BinOp.add 9 (Operand.tmp 89)
 (Operand.const (Value.string (ByteArray.mk #[32, 97, 103, 101, 110, 116, 32])))
 (Value.string s85) (Value.string (ByteArray.mk #[32, 97, 103, 101, 110, 116, 32])))
 (Value.string s86) ∧
 Calls Proofs.Tryd.prog 20 #[Value.int IntKind.i64 x69] w83
 fun (e87 : Ending) (w88 : World) =>
 ∃ (s89 : ByteArray),
 e87 = Ending.returned (Value.string s89) ∧
 Keeps [n1, n74] w83 w88 ∧
 ∃ (s90 : ByteArray),
 Gives Proofs.Tryd.prog
 (binOpS BinOp.add 9 (Operand.tmp 90) (Operand.tmp 93) (Value.string s86)
 (Value.string s89))
 (Value.string s90) ∧
 ∃ (s91 : ByteArray),
 Gives Proofs.Tryd.prog
 (binOpS BinOp.add 9 (Operand.tmp 94)
 (Operand.const (Value.string (ByteArray.mk #[32]))) (Value.string s90)
 (Value.string (ByteArray.mk #[32])))
 (Value.string s91) ∧
 Calls Proofs.Tryd.prog 30 #[Value.slice a70 n71 n72] w88
 fun (e92 : Ending) (w93 : World) =>
 ∃ (s94 : ByteArray),
 e92 = Ending.returned (Value.string s94) ∧
 Keeps [n1, n74] w88 w93 ∧
 ∃ (s95 : ByteArray),
 Gives Proofs.Tryd.prog
 (binOpS BinOp.add 9 (Operand.tmp 95) (Operand.tmp 98)
 (Value.string s91) (Value.string s94))
 (Value.string s95) ∧
 ((x73 != 0) = true →
 ∃ (s96 : ByteArray),
 Gives Proofs.Tryd.prog
 (binOpS BinOp.add 9 (Operand.tmp 103)
 (Operand.const
 (Value.string
 (ByteArray.mk
 #[32, 117, 110, 116, 105, 108, 32])))
 (Value.string s95)
 (Value.string
 (ByteArray.mk
 #[32, 117, 110, 116, 105, 108, 32])))
 (Value.string s96) ∧
 Calls Proofs.Tryd.prog 20 #[Value.int IntKind.i64 x73]
 w93 fun (e97 : Ending) (w98 : World) =>
 ∃ (s99 : ByteArray),
 e97 = Ending.returned (Value.string s99) ∧
 Keeps [n1, n74] w93 w98 ∧
 ∃ (s100 : ByteArray),
 Gives Proofs.Tryd.prog
 (binOpS BinOp.add 9 (Operand.tmp 104)
 (Operand.tmp 107) (Value.string s96)
 (Value.string s99))
 (Value.string s100) ∧
 ∃ (s101 : ByteArray),
 Gives Proofs.Tryd.prog
 (binOpS BinOp.add 9
 (Operand.tmp 109)
 (Operand.const
 (Value.string
 (ByteArray.mk #[10])))
 (Value.string s100)
 (Value.string
 (ByteArray.mk #[10])))
 (Value.string s101) ∧
 J61
 (s101, IntKind.i64.wrap (x64 + 1),
 ())
 w98 ∧
 J62
 (s101,
 IntKind.i64.wrap (x64 + 1),
 ())
 w98 <
 J62 (s63, x64, ()) w65) ∧
 ((x73 != 0) = false →
 ∃ (s102 : ByteArray),
 Gives Proofs.Tryd.prog
 (binOpS BinOp.add 9 (Operand.tmp 109)
 (Operand.const
 (Value.string (ByteArray.mk #[10])))
 (Value.string s95)
 (Value.string (ByteArray.mk #[10])))
 (Value.string s102) ∧
 J61 (s102, IntKind.i64.wrap (x64 + 1), ()) w93 ∧
 J62 (s102, IntKind.i64.wrap (x64 + 1), ()) w93 <
 J62 (s63, x64, ()) w65)) ∧
 (decide (x64 < (↑b_13n : Int)) = false →
 ∃ (J103 : ByteArray × Int × Unit → World → Prop),
 ∃ (J104 : ByteArray × Int × Unit → World → Nat),
 J103 (s63, 0, ()) w65 ∧
 ∀ (s105 : ByteArray) (x106 : Int) (w107 : World),
 J103 (s105, x106, ()) w107 →
 (decide (x106 < (↑b_14n : Int)) = true →
 ∃ (ad108 : Addr),
 Gives Proofs.Tryd.prog (Instr.indexAt 39 (Value.slice b_14a b_14n b_14c) (Value.int IntKind.i64 x106)) (Value.pointer (some ad108)) ∧
 ∃ (x109 : Int),
 ∃ (x110 : Int),
 ∃ (x111 : Int),
 ∃ (a112 : Option Addr),
 ∃ (n113 : Nat),
 ∃ (n114 : Nat),
 Reads Proofs.Tryd.prog [] (Instr.loadAt 63 (Value.pointer (some ad108))) w107
 (Value.agg
 #[Value.int IntKind.i64 x109, Value.int IntKind.i64 x110, Value.int IntKind.i64 x111, Value.slice a112 n113 n114]) ∧
 ∀ (n115 : Nat),
 w107.heap.size ≤ n115 →
 ∃ (s116 : ByteArray),
 Gives Proofs.Tryd.prog
 (binOpS BinOp.add 9 (Operand.tmp 123) (Operand.const (Value.string (ByteArray.mk #[116, 97, 115, 107, 32])))
 (Value.string s105) (Value.string (ByteArray.mk #[116, 97, 115, 107, 32])))
 (Value.string s116) ∧
 ∀ (w117 : World),
 Evo [n115] w107 w117 →
 Under [n1, n115] w117 →
 Calls Proofs.Tryd.prog 20 #[Value.int IntKind.i64 x109] w117 fun (e118 : Ending) (w119 : World) =>
 ∃ (s120 : ByteArray),
 e118 = Ending.returned (Value.string s120) ∧
 Keeps [n1, n115] w117 w119 ∧
 ∃ (s121 : ByteArray),
 Gives Proofs.Tryd.prog
 (binOpS BinOp.add 9 (Operand.tmp 124) (Operand.tmp 127) (Value.string s116) (Value.string s120))
 (Value.string s121) ∧
 ∃ (s122 : ByteArray),
 Gives Proofs.Tryd.prog
 (binOpS BinOp.add 9 (Operand.tmp 128) (Operand.const (Value.string (ByteArray.mk #[32])))
 (Value.string s121) (Value.string (ByteArray.mk #[32])))
 (Value.string s122) ∧
 Calls Proofs.Tryd.prog 20 #[Value.int IntKind.i64 x110] w119
 fun (e123 : Ending) (w124 : World) =>
 ∃ (s125 : ByteArray),
 e123 = Ending.returned (Value.string s125) ∧
 Keeps [n1, n115] w119 w124 ∧
 ∃ (s126 : ByteArray),
 Gives Proofs.Tryd.prog
 (binOpS BinOp.add 9 (Operand.tmp 129) (Operand.tmp 132) (Value.string s122)
 (Value.string s125))
 (Value.string s126) ∧
 ∃ (s127 : ByteArray),
 Gives Proofs.Tryd.prog
 (binOpS BinOp.add 9 (Operand.tmp 133)
 (Operand.const
 (Value.string (ByteArray.mk #[32, 97, 103, 101, 110, 116, 32])))
 (Value.string s126)
 (Value.string (ByteArray.mk #[32, 97, 103, 101, 110, 116, 32])))
 (Value.string s127) ∧
 Calls Proofs.Tryd.prog 20 #[Value.int IntKind.i64 x111] w124
 fun (e128 : Ending) (w129 : World) =>
 ∃ (s130 : ByteArray),
 e128 = Ending.returned (Value.string s130) ∧
 Keeps [n1, n115] w124 w129 ∧
 ∃ (s131 : ByteArray),
 Gives Proofs.Tryd.prog
 (binOpS BinOp.add 9 (Operand.tmp 134) (Operand.tmp 137)
 (Value.string s127) (Value.string s130))
 (Value.string s131) ∧
 ∃ (s132 : ByteArray),
 Gives Proofs.Tryd.prog
 (binOpS BinOp.add 9 (Operand.tmp 138)
 (Operand.const (Value.string (ByteArray.mk #[32])))
 (Value.string s131) (Value.string (ByteArray.mk #[32])))
 (Value.string s132) ∧
 Calls Proofs.Tryd.prog 30 #[Value.slice a112 n113 n114] w129
 fun (e133 : Ending) (w134 : World) =>
 ∃ (s135 : ByteArray),
 e133 = Ending.returned (Value.string s135) ∧
 Keeps [n1, n115] w129 w134 ∧
 ∃ (s136 : ByteArray),
 Gives Proofs.Tryd.prog
 (binOpS BinOp.add 9 (Operand.tmp 139)
 (Operand.tmp 142) (Value.string s132)
 (Value.string s135))
 (Value.string s136) ∧
 ∃ (s137 : ByteArray),
 Gives Proofs.Tryd.prog
 (binOpS BinOp.add 9 (Operand.tmp 143)
 (Operand.const
 (Value.string (ByteArray.mk #[10])))
 (Value.string s136)
 (Value.string (ByteArray.mk #[10])))
 (Value.string s137) ∧
 J103 (s137, IntKind.i64.wrap (x106 + 1), ())
 w134 ∧
 J104 (s137, IntKind.i64.wrap (x106 + 1), ())
 w134 <
 J104 (s105, x106, ()) w107) ∧
 (decide (x106 < (↑b_14n : Int)) = false →
 ∃ (J138 : ByteArray × Int × Unit → World → Prop),
 ∃ (J139 : ByteArray × Int × Unit → World → Nat),
 J138 (s105, 0, ()) w107 ∧
 ∀ (s140 : ByteArray) (x141 : Int) (w142 : World),
 J138 (s140, x141, ()) w142 →
 (decide (x141 < (↑b_15n : Int)) = true →
 ∃ (ad143 : Addr),
 Gives Proofs.Tryd.prog (Instr.indexAt 40 (Value.slice b_15a b_15n b_15c) (Value.int IntKind.i64 x141))
 (Value.pointer (some ad143)) ∧
 ∃ (x144 : Int),
 ∃ (x145 : Int),
 ∃ (x146 : Int),
 ∃ (a147 : Option Addr),
 ∃ (n148 : Nat),
 ∃ (n149 : Nat),
 Reads Proofs.Tryd.prog [] (Instr.loadAt 65 (Value.pointer (some ad143))) w142
 (Value.agg
 #[Value.int IntKind.i64 x144, Value.int IntKind.i64 x145, Value.int IntKind.i64 x146,
 Value.slice a147 n148 n149]) ∧
 ∀ (n150 : Nat),
 w142.heap.size ≤ n150 →
 ∃ (s151 : ByteArray),
 Gives Proofs.Tryd.prog
 (binOpS BinOp.add 9 (Operand.tmp 157)
 (Operand.const (Value.string (ByteArray.mk #[102, 105, 108, 116, 101, 114, 32])))
 (Value.string s140) (Value.string (ByteArray.mk #[102, 105, 108, 116, 101, 114, 32])))
 (Value.string s151) ∧
 ∀ (w152 : World),
 Evo [n150] w142 w152 →
 Under [n1, n150] w152 →
 Calls Proofs.Tryd.prog 20 #[Value.int IntKind.i64 x144] w152
 fun (e153 : Ending) (w154 : World) =>
 ∃ (s155 : ByteArray),
 e153 = Ending.returned (Value.string s155) ∧
 Keeps [n1, n150] w152 w154 ∧
 ∃ (s156 : ByteArray),
 Gives Proofs.Tryd.prog
 (binOpS BinOp.add 9 (Operand.tmp 158) (Operand.tmp 161) (Value.string s151)
 (Value.string s155))
 (Value.string s156) ∧
 ∃ (s157 : ByteArray),
 Gives Proofs.Tryd.prog
 (binOpS BinOp.add 9 (Operand.tmp 162)
 (Operand.const
 (Value.string (ByteArray.mk #[32, 97, 103, 101, 110, 116, 32])))
 (Value.string s156)
 (Value.string (ByteArray.mk #[32, 97, 103, 101, 110, 116, 32])))
 (Value.string s157) ∧
 Calls Proofs.Tryd.prog 20 #[Value.int IntKind.i64 x145] w154
 fun (e158 : Ending) (w159 : World) =>
 ∃ (s160 : ByteArray),
 e158 = Ending.returned (Value.string s160) ∧
 Keeps [n1, n150] w154 w159 ∧
 ∃ (s161 : ByteArray),
 Gives Proofs.Tryd.prog
 (binOpS BinOp.add 9 (Operand.tmp 163) (Operand.tmp 166)
 (Value.string s157) (Value.string s160))
 (Value.string s161) ∧
 ∃ (s162 : ByteArray),
 Gives Proofs.Tryd.prog
 (binOpS BinOp.add 9 (Operand.tmp 167)
 (Operand.const
 (Value.string
 (ByteArray.mk #[32, 117, 110, 116, 105, 108, 32])))
 (Value.string s161)
 (Value.string
 (ByteArray.mk #[32, 117, 110, 116, 105, 108, 32])))
 (Value.string s162) ∧
 Calls Proofs.Tryd.prog 20 #[Value.int IntKind.i64 x146] w159
 fun (e163 : Ending) (w164 : World) =>
 ∃ (s165 : ByteArray),
 e163 = Ending.returned (Value.string s165) ∧
 Keeps [n1, n150] w159 w164 ∧
 ∃ (s166 : ByteArray),
 Gives Proofs.Tryd.prog
 (binOpS BinOp.add 9 (Operand.tmp 168)
 (Operand.tmp 171) (Value.string s162)
 (Value.string s165))
 (Value.string s166) ∧
 ∃ (s167 : ByteArray),
 Gives Proofs.Tryd.prog
 (binOpS BinOp.add 9 (Operand.tmp 172)
 (Operand.const
 (Value.string (ByteArray.mk #[32])))
 (Value.string s166)
 (Value.string (ByteArray.mk #[32])))
 (Value.string s167) ∧
 Calls Proofs.Tryd.prog 30
 #[Value.slice a147 n148 n149] w164
 fun (e168 : Ending) (w169 : World) =>
 ∃ (s170 : ByteArray),
 e168 = Ending.returned (Value.string s170) ∧
 Keeps [n1, n150] w164 w169 ∧
 ∃ (s171 : ByteArray),
 Gives Proofs.Tryd.prog
 (binOpS BinOp.add 9
 (Operand.tmp 173)
 (Operand.tmp 176)
 (Value.string s167)
 (Value.string s170))
 (Value.string s171) ∧
 ∃ (s172 : ByteArray),
 Gives Proofs.Tryd.prog
 (binOpS BinOp.add 9
 (Operand.tmp 177)
 (Operand.const
 (Value.string
 (ByteArray.mk #[10])))
 (Value.string s171)
 (Value.string
 (ByteArray.mk #[10])))
 (Value.string s172) ∧
 J138
 (s172,
 IntKind.i64.wrap
 (x141 + 1),
 ())
 w169 ∧
 J139
 (s172,
 IntKind.i64.wrap
 (x141 + 1),
 ())
 w169 <
 J139 (s140, x141, ())
 w142) ∧
 (decide (x141 < (↑b_15n : Int)) = false → R (Ending.returned (Value.string s140)) w142)))))
theorem f15_eq (b_0 : Int) (b_1 : Int) (b_2 : Int) (b_3 : Int) (b_4 : Int) (b_5 : Int) (b_6 : Int) (b_7 : Int) (b_8 : Int) (b_9 : Int) (b_10 : Int) (b_11a : Option Addr) (b_11n : Nat) (b_11c : Nat) (b_12a : Option Addr) (b_12n : Nat) (b_12c : Nat) (b_13a : Option Addr) (b_13n : Nat) (b_13c : Nat) (b_14a : Option Addr) (b_14n : Nat) (b_14c : Nat) (b_15a : Option Addr) (b_15n : Nat) (b_15c : Nat) (w : World) (R : Ending → World → Prop) : (fnF Go.Proofs.Tryd.prog h15 Go.Proofs.Tryd.f15 [Value.agg
 #[Value.int IntKind.i64 b_0, Value.int IntKind.i64 b_1, Value.int IntKind.i64 b_2, Value.int IntKind.i64 b_3, Value.int IntKind.i64 b_4, Value.int IntKind.i64 b_5, Value.int IntKind.i64 b_6, Value.int IntKind.i64 b_7,
 Value.int IntKind.i64 b_8, Value.int IntKind.i64 b_9, Value.int IntKind.i64 b_10, Value.slice b_11a b_11n b_11c, Value.slice b_12a b_12n b_12c, Value.slice b_13a b_13n b_13c, Value.slice b_14a b_14n b_14c,
 Value.slice b_15a b_15n b_15c]] w R).den = f15_vc b_0 b_1 b_2 b_3 b_4 b_5 b_6 b_7 b_8 b_9 b_10 b_11a b_11n b_11c b_12a b_12n b_12c b_13a b_13n b_13c b_14a b_14n b_14c b_15a b_15n b_15c w R := by kernel_rfl
theorem f15_calls (b_0 : Int) (b_1 : Int) (b_2 : Int) (b_3 : Int) (b_4 : Int) (b_5 : Int) (b_6 : Int) (b_7 : Int) (b_8 : Int) (b_9 : Int) (b_10 : Int) (b_11a : Option Addr) (b_11n : Nat) (b_11c : Nat) (b_12a : Option Addr) (b_12n : Nat) (b_12c : Nat) (b_13a : Option Addr) (b_13n : Nat) (b_13c : Nat) (b_14a : Option Addr) (b_14n : Nat) (b_14c : Nat) (b_15a : Option Addr) (b_15n : Nat) (b_15c : Nat) (w : World) (R : Ending → World → Prop) (h : f15_vc b_0 b_1 b_2 b_3 b_4 b_5 b_6 b_7 b_8 b_9 b_10 b_11a b_11n b_11c b_12a b_12n b_12c b_13a b_13n b_13c b_14a b_14n b_14c b_15a b_15n b_15c w R) : Calls Go.Proofs.Tryd.prog 15 (List.toArray [Value.agg
 #[Value.int IntKind.i64 b_0, Value.int IntKind.i64 b_1, Value.int IntKind.i64 b_2, Value.int IntKind.i64 b_3, Value.int IntKind.i64 b_4, Value.int IntKind.i64 b_5, Value.int IntKind.i64 b_6, Value.int IntKind.i64 b_7,
 Value.int IntKind.i64 b_8, Value.int IntKind.i64 b_9, Value.int IntKind.i64 b_10, Value.slice b_11a b_11n b_11c, Value.slice b_12a b_12n b_12c, Value.slice b_13a b_13n b_13c, Value.slice b_14a b_14n b_14c,
 Value.slice b_15a b_15n b_15c]]) w R :=
 fn_sound (H := h15) (fn := Go.Proofs.Tryd.f15) (by kernel_rfl) (by kernel_rfl) (by kernel_rfl) ((f15_eq b_0 b_1 b_2 b_3 b_4 b_5 b_6 b_7 b_8 b_9 b_10 b_11a b_11n b_11c b_12a b_12n b_12c b_13a b_13n b_13c b_14a b_14n b_14c b_15a b_15n b_15c w R).mpr h)

/-! manciple/tell.Book$1 -/
def h21 : Hints := ⟨[], [], [], [], [], [], [], [], []⟩
def f21_vc (wordsa : Option Addr) (wordsn : Nat) (wordsc : Nat) (cap0 : Value) (w : World) (R : Ending → World → Prop) : Prop :=
 Calls Proofs.Tryd.prog 23 #[Value.slice wordsa wordsn wordsc] w fun (e1 : Ending) (w2 : World) =>
 ∃ (s3 : ByteArray),
 e1 = Ending.returned (Value.string s3) ∧
 Calls Proofs.Tryd.prog 22 #[cap0, Value.string s3] w2 fun (e4 : Ending) (w5 : World) =>
 ∃ (x6 : Int),
 ∃ (v7 : Value),
 e4 = Ending.returned (Value.tuple #[Value.int IntKind.i64 x6, v7]) ∧
 Calls Proofs.Tryd.prog 24 #[cap0, Value.int IntKind.i32 10] w5 fun (e8 : Ending) (w9 : World) =>
 ∃ (x10 : Int), ∃ (v11 : Value), e8 = Ending.returned (Value.tuple #[Value.int IntKind.i64 x10, v11]) ∧ R (Ending.returned (Value.tuple #[])) w9
theorem f21_eq (wordsa : Option Addr) (wordsn : Nat) (wordsc : Nat) (cap0 : Value) (w : World) (R : Ending → World → Prop) : (fnF Go.Proofs.Tryd.prog h21 Go.Proofs.Tryd.f21 [Value.slice wordsa wordsn wordsc, cap0] w R).den = f21_vc wordsa wordsn wordsc cap0 w R := by kernel_rfl
theorem f21_calls (wordsa : Option Addr) (wordsn : Nat) (wordsc : Nat) (cap0 : Value) (w : World) (R : Ending → World → Prop) (h : f21_vc wordsa wordsn wordsc cap0 w R) : Calls Go.Proofs.Tryd.prog 21 (List.toArray [Value.slice wordsa wordsn wordsc, cap0]) w R :=
 fn_sound (H := h21) (fn := Go.Proofs.Tryd.f21) (by kernel_rfl) (by kernel_rfl) (by kernel_rfl) ((f21_eq wordsa wordsn wordsc cap0 w R).mpr h)

/-! manciple/tell.frame -/
def h26 : Hints := ⟨[1], [], [15, 26], [(1, [0, 1, 3, 4, 6, 7, 2, 5, 8, 9, 10])], [], [], [], [], []⟩
def f26_vc (f_0 : Int) (f_1 : Int) (f_2 : Int) (f_3 : Bool) (f_4 : Bool) (f_5 : Int) (f_6 : Int) (w : World) (R : Ending → World → Prop) : Prop :=
 ∀ (n1 : Nat),
 w.heap.size ≤ n1 →
 ∀ (w2 : World),
 Bel w w2 →
 Under [n1] w2 →
 Calls Proofs.Tryd.prog 25 #[Value.int IntKind.i64 f_0] w2 fun (e3 : Ending) (w4 : World) =>
 ∃ (s5 : ByteArray),
 e3 = Ending.returned (Value.string s5) ∧
 Keeps [n1] w2 w4 ∧
 Calls Proofs.Tryd.prog 25 #[Value.int IntKind.i64 f_1] w4 fun (e6 : Ending) (w7 : World) =>
 ∃ (s8 : ByteArray),
 e6 = Ending.returned (Value.string s8) ∧
 Keeps [n1] w4 w7 ∧
 Calls Proofs.Tryd.prog 25 #[Value.int IntKind.i64 f_2] w7 fun (e9 : Ending) (w10 : World) =>
 ∃ (s11 : ByteArray),
 e9 = Ending.returned (Value.string s11) ∧
 Keeps [n1] w7 w10 ∧
 OpW Proofs.Tryd.prog
 (valueS
 (Instr.buildSlice 52 6
 #[(0, Value.string (ByteArray.mk #[102, 114, 97, 109, 101])), (1, Value.string s5), (2, Value.string (ByteArray.mk #[114, 111, 108, 101])), (3, Value.string s8),
 (4, Value.string (ByteArray.mk #[119, 101, 105, 103, 104, 116])), (5, Value.string s11)]))
 w10 fun (v12 : Value) (w13 : World) =>
 ∃ (a14 : Option Addr),
 ∃ (n15 : Nat),
 ∃ (n16 : Nat),
 v12 = Value.slice a14 n15 n16 ∧
 Keeps [n1] w10 w13 ∧
 (f_3 = true →
 OpW Proofs.Tryd.prog (valueS (Instr.buildSlice 52 1 #[(0, Value.string (ByteArray.mk #[117, 112]))])) w13 fun (v17 : Value) (w18 : World) =>
 ∃ (a19 : Option Addr),
 ∃ (n20 : Nat),
 ∃ (n21 : Nat),
 v17 = Value.slice a19 n20 n21 ∧
 Keeps [n1] w13 w18 ∧
 OpW Proofs.Tryd.prog (builtin Builtin.append #[52, 52] 52 #[false, false] #[Value.slice a14 n15 n16, Value.slice a19 n20 n21]) w18 fun (v22 : Value) (w23 : World) =>
 ∃ (a24 : Option Addr),
 ∃ (n25 : Nat),
 ∃ (n26 : Nat),
 v22 = Value.slice a24 n25 n26 ∧
 Keeps [n1] w18 w23 ∧
 (f_4 = true →
 OpW Proofs.Tryd.prog (valueS (Instr.buildSlice 52 1 #[(0, Value.string (ByteArray.mk #[113, 117, 105, 101, 116]))])) w23 fun (v27 : Value) (w28 : World) =>
 ∃ (a29 : Option Addr),
 ∃ (n30 : Nat),
 ∃ (n31 : Nat),
 v27 = Value.slice a29 n30 n31 ∧
 Keeps [n1] w23 w28 ∧
 OpW Proofs.Tryd.prog (builtin Builtin.append #[52, 52] 52 #[false, false] #[Value.slice a24 n25 n26, Value.slice a29 n30 n31]) w28
 fun (v32 : Value) (w33 : World) =>
 ∃ (a34 : Option Addr),
 ∃ (n35 : Nat), ∃ (n36 : Nat), v32 = Value.slice a34 n35 n36 ∧ Keeps [n1] w28 w33 ∧ R (Ending.returned (Value.slice a34 n35 n36)) w33) ∧
 (f_4 = false → R (Ending.returned (Value.slice a24 n25 n26)) w23)) ∧
 (f_3 = false →
 Calls Proofs.Tryd.prog 25 #[Value.int IntKind.i64 f_6] w13 fun (e37 : Ending) (w38 : World) =>
 ∃ (s39 : ByteArray),
 e37 = Ending.returned (Value.string s39) ∧
 Keeps [n1] w13 w38 ∧
 OpW Proofs.Tryd.prog (valueS (Instr.buildSlice 52 2 #[(0, Value.string (ByteArray.mk #[97, 119, 97, 121])), (1, Value.string s39)])) w38 fun (v40 : Value) (w41 : World) =>
 ∃ (a42 : Option Addr),
 ∃ (n43 : Nat),
 ∃ (n44 : Nat),
 v40 = Value.slice a42 n43 n44 ∧
 Keeps [n1] w38 w41 ∧
 OpW Proofs.Tryd.prog (builtin Builtin.append #[52, 52] 52 #[false, false] #[Value.slice a14 n15 n16, Value.slice a42 n43 n44]) w41 fun (v45 : Value) (w46 : World) =>
 ∃ (a47 : Option Addr),
 ∃ (n48 : Nat),
 ∃ (n49 : Nat),
 v45 = Value.slice a47 n48 n49 ∧
 Keeps [n1] w41 w46 ∧
 (f_4 = true →
 OpW Proofs.Tryd.prog (valueS (Instr.buildSlice 52 1 #[(0, Value.string (ByteArray.mk #[113, 117, 105, 101, 116]))])) w46
 fun (v50 : Value) (w51 : World) =>
 ∃ (a52 : Option Addr),
 ∃ (n53 : Nat),
 ∃ (n54 : Nat),
 v50 = Value.slice a52 n53 n54 ∧
 Keeps [n1] w46 w51 ∧
 OpW Proofs.Tryd.prog (builtin Builtin.append #[52, 52] 52 #[false, false] #[Value.slice a47 n48 n49, Value.slice a52 n53 n54]) w51
 fun (v55 : Value) (w56 : World) =>
 ∃ (a57 : Option Addr),
 ∃ (n58 : Nat), ∃ (n59 : Nat), v55 = Value.slice a57 n58 n59 ∧ Keeps [n1] w51 w56 ∧ R (Ending.returned (Value.slice a57 n58 n59)) w56) ∧
 (f_4 = false → R (Ending.returned (Value.slice a47 n48 n49)) w46))
theorem f26_eq (f_0 : Int) (f_1 : Int) (f_2 : Int) (f_3 : Bool) (f_4 : Bool) (f_5 : Int) (f_6 : Int) (w : World) (R : Ending → World → Prop) : (fnF Go.Proofs.Tryd.prog h26 Go.Proofs.Tryd.f26 [Value.agg #[Value.int IntKind.i64 f_0, Value.int IntKind.i64 f_1, Value.int IntKind.i64 f_2, Value.bool f_3, Value.bool f_4, Value.int IntKind.i64 f_5, Value.int IntKind.i64 f_6]] w R).den = f26_vc f_0 f_1 f_2 f_3 f_4 f_5 f_6 w R := by kernel_rfl
theorem f26_calls (f_0 : Int) (f_1 : Int) (f_2 : Int) (f_3 : Bool) (f_4 : Bool) (f_5 : Int) (f_6 : Int) (w : World) (R : Ending → World → Prop) (h : f26_vc f_0 f_1 f_2 f_3 f_4 f_5 f_6 w R) : Calls Go.Proofs.Tryd.prog 26 (List.toArray [Value.agg #[Value.int IntKind.i64 f_0, Value.int IntKind.i64 f_1, Value.int IntKind.i64 f_2, Value.bool f_3, Value.bool f_4, Value.int IntKind.i64 f_5, Value.int IntKind.i64 f_6]]) w R :=
 fn_sound (H := h26) (fn := Go.Proofs.Tryd.f26) (by kernel_rfl) (by kernel_rfl) (by kernel_rfl) ((f26_eq f_0 f_1 f_2 f_3 f_4 f_5 f_6 w R).mpr h)

/-! manciple/manciplelaw34.TellBooks -/
def h4 : Hints := ⟨[1], [], [5, 11], [(3, [0, 2, 1, 3, 4, 5, 6, 7, 8])], [], [], [], [], []⟩
def f4_vc (b_0 : Int) (b_1 : Int) (b_2 : Int) (b_3 : Int) (b_4 : Int) (b_5 : Int) (b_6 : Int) (b_7 : Int) (b_8 : Int) (b_9 : Int) (b_10 : Int) (b_11a : Option Addr) (b_11n : Nat) (b_11c : Nat) (b_12a : Option Addr) (b_12n : Nat) (b_12c : Nat) (b_13a : Option Addr) (b_13n : Nat) (b_13c : Nat) (b_14a : Option Addr) (b_14n : Nat) (b_14c : Nat) (b_15a : Option Addr) (b_15n : Nat) (b_15c : Nat) (w : World) (R : Ending → World → Prop) : Prop :=
 ∀ (n1 : Nat),
 w.heap.size ≤ n1 →
 ∀ (w2 : World),
 Bel w w2 →
 Under [n1] w2 →
 Calls Proofs.Tryd.prog 13
 #[Value.agg
 #[Value.int IntKind.i64 b_0, Value.int IntKind.i64 b_1, Value.int IntKind.i64 b_2, Value.int IntKind.i64 b_3, Value.int IntKind.i64 b_4, Value.int IntKind.i64 b_5, Value.int IntKind.i64 b_6, Value.int IntKind.i64 b_7,
 Value.int IntKind.i64 b_8, Value.int IntKind.i64 b_9, Value.int IntKind.i64 b_10, Value.slice b_11a b_11n b_11c, Value.slice b_12a b_12n b_12c, Value.slice b_13a b_13n b_13c, Value.slice b_14a b_14n b_14c,
 Value.slice b_15a b_15n b_15c]]
 w2 fun (e3 : Ending) (w4 : World) =>
 ∃ (b5 : Bool),
 e3 = Ending.returned (Value.bool b5) ∧
 Keeps [n1] w2 w4 ∧
 ((!b5) = true → R (Ending.returned (Value.bool true)) w4) ∧
 ((!b5) = false →
 ∀ (w6 : World),
 Bel w4 w6 →
 Under [n1] w6 →
 Calls Proofs.Tryd.prog 14
 #[Value.agg
 #[Value.int IntKind.i64 b_0, Value.int IntKind.i64 b_1, Value.int IntKind.i64 b_2, Value.int IntKind.i64 b_3, Value.int IntKind.i64 b_4, Value.int IntKind.i64 b_5, Value.int IntKind.i64 b_6,
 Value.int IntKind.i64 b_7, Value.int IntKind.i64 b_8, Value.int IntKind.i64 b_9, Value.int IntKind.i64 b_10, Value.slice b_11a b_11n b_11c, Value.slice b_12a b_12n b_12c, Value.slice b_13a b_13n b_13c,
 Value.slice b_14a b_14n b_14c, Value.slice b_15a b_15n b_15c]]
 w6 fun (e7 : Ending) (w8 : World) =>
 ∃ (s9 : ByteArray),
 e7 = Ending.returned (Value.string s9) ∧
 Keeps [n1] w6 w8 ∧
 Calls Proofs.Tryd.prog 15
 #[Value.agg
 #[Value.int IntKind.i64 b_0, Value.int IntKind.i64 b_1, Value.int IntKind.i64 b_2, Value.int IntKind.i64 b_3, Value.int IntKind.i64 b_4, Value.int IntKind.i64 b_5, Value.int IntKind.i64 b_6,
 Value.int IntKind.i64 b_7, Value.int IntKind.i64 b_8, Value.int IntKind.i64 b_9, Value.int IntKind.i64 b_10, Value.slice b_11a b_11n b_11c, Value.slice b_12a b_12n b_12c,
 Value.slice b_13a b_13n b_13c, Value.slice b_14a b_14n b_14c, Value.slice b_15a b_15n b_15c]]
 w8 fun (e10 : Ending) (w11 : World) =>
 ∃ (s12 : ByteArray),
 e10 = Ending.returned (Value.string s12) ∧
 Keeps [n1] w8 w11 ∧
 ((s9.toList == s12.toList) = true →
 Calls Proofs.Tryd.prog 12 #[] w11 fun (e13 : Ending) (w14 : World) => ∃ (b15 : Bool), e13 = Ending.returned (Value.bool b15) ∧ Keeps [n1] w11 w14 ∧ R (Ending.returned (Value.bool b15)) w14) ∧
 ((s9.toList == s12.toList) = false → R (Ending.returned (Value.bool false)) w11))
theorem f4_eq (b_0 : Int) (b_1 : Int) (b_2 : Int) (b_3 : Int) (b_4 : Int) (b_5 : Int) (b_6 : Int) (b_7 : Int) (b_8 : Int) (b_9 : Int) (b_10 : Int) (b_11a : Option Addr) (b_11n : Nat) (b_11c : Nat) (b_12a : Option Addr) (b_12n : Nat) (b_12c : Nat) (b_13a : Option Addr) (b_13n : Nat) (b_13c : Nat) (b_14a : Option Addr) (b_14n : Nat) (b_14c : Nat) (b_15a : Option Addr) (b_15n : Nat) (b_15c : Nat) (w : World) (R : Ending → World → Prop) : (fnF Go.Proofs.Tryd.prog h4 Go.Proofs.Tryd.f4 [Value.agg
 #[Value.int IntKind.i64 b_0, Value.int IntKind.i64 b_1, Value.int IntKind.i64 b_2, Value.int IntKind.i64 b_3, Value.int IntKind.i64 b_4, Value.int IntKind.i64 b_5, Value.int IntKind.i64 b_6, Value.int IntKind.i64 b_7,
 Value.int IntKind.i64 b_8, Value.int IntKind.i64 b_9, Value.int IntKind.i64 b_10, Value.slice b_11a b_11n b_11c, Value.slice b_12a b_12n b_12c, Value.slice b_13a b_13n b_13c, Value.slice b_14a b_14n b_14c,
 Value.slice b_15a b_15n b_15c]] w R).den = f4_vc b_0 b_1 b_2 b_3 b_4 b_5 b_6 b_7 b_8 b_9 b_10 b_11a b_11n b_11c b_12a b_12n b_12c b_13a b_13n b_13c b_14a b_14n b_14c b_15a b_15n b_15c w R := by kernel_rfl
theorem f4_calls (b_0 : Int) (b_1 : Int) (b_2 : Int) (b_3 : Int) (b_4 : Int) (b_5 : Int) (b_6 : Int) (b_7 : Int) (b_8 : Int) (b_9 : Int) (b_10 : Int) (b_11a : Option Addr) (b_11n : Nat) (b_11c : Nat) (b_12a : Option Addr) (b_12n : Nat) (b_12c : Nat) (b_13a : Option Addr) (b_13n : Nat) (b_13c : Nat) (b_14a : Option Addr) (b_14n : Nat) (b_14c : Nat) (b_15a : Option Addr) (b_15n : Nat) (b_15c : Nat) (w : World) (R : Ending → World → Prop) (h : f4_vc b_0 b_1 b_2 b_3 b_4 b_5 b_6 b_7 b_8 b_9 b_10 b_11a b_11n b_11c b_12a b_12n b_12c b_13a b_13n b_13c b_14a b_14n b_14c b_15a b_15n b_15c w R) : Calls Go.Proofs.Tryd.prog 4 (List.toArray [Value.agg
 #[Value.int IntKind.i64 b_0, Value.int IntKind.i64 b_1, Value.int IntKind.i64 b_2, Value.int IntKind.i64 b_3, Value.int IntKind.i64 b_4, Value.int IntKind.i64 b_5, Value.int IntKind.i64 b_6, Value.int IntKind.i64 b_7,
 Value.int IntKind.i64 b_8, Value.int IntKind.i64 b_9, Value.int IntKind.i64 b_10, Value.slice b_11a b_11n b_11c, Value.slice b_12a b_12n b_12c, Value.slice b_13a b_13n b_13c, Value.slice b_14a b_14n b_14c,
 Value.slice b_15a b_15n b_15c]]) w R :=
 fn_sound (H := h4) (fn := Go.Proofs.Tryd.f4) (by kernel_rfl) (by kernel_rfl) (by kernel_rfl) ((f4_eq b_0 b_1 b_2 b_3 b_4 b_5 b_6 b_7 b_8 b_9 b_10 b_11a b_11n b_11c b_12a b_12n b_12c b_13a b_13n b_13c b_14a b_14n b_14c b_15a b_15n b_15c w R).mpr h)

end Vcq

/- Tell: lines into a builder; an empty book; works. -/
set_option maxRecDepth 20000
set_option maxHeartbeats 2000000
set_option linter.unusedVariables false
namespace Go.Vc.Q
open Go Go.Vc Go.Vc.V Go.RowKit Go.Proofs Vcq

variable {w W W' W1 : World} {gs ds : List Nat} {n : Int} {l : List PartT} {a : Option Addr} {ln lc c : Nat} {L M : List ByteArray} {wh : List UInt8} {e : Ev} {va : Option Addr} {vn vc p : Nat} {s : ByteArray}

theorem bldA_low {T e : TypeId} {B b : Nat} {q : Value} {xs : List Value} (h : Lib.BuilderAtF T e B b q xs W) (hb : Below W.heap.size W W') : Lib.BuilderAtF T e B b q xs W' := by
  have hl := h.lt
  obtain ⟨hB, v, h1, h2, h3⟩ := h
  refine ⟨hB, v, (hb.block b hl).trans h1, h2.kept (row := none) ⟨hb.os, hb.tape, hb.output, hb.size, fun k hk _ => hb.block k hk⟩ ?_, h3⟩
  cases hv : v.ownBlock with
  | none => exact .inl rfl
  | some k => exact .inr (fun e => by cases e)
theorem bld_low {T e : TypeId} {B b : Nat} {xs : List Value} (h : Lib.IsBuilderF T e B b xs W) (hb : Below W.heap.size W W') : Lib.IsBuilderF T e B b xs W' := h.imp (fun h => bldA_low h hb) fun h => bldA_low h hb
/-- A builder, and what it holds. -/
structure Bd (w W : World) (gs : List Nat) (p : Nat) (s : ByteArray) : Prop where
  at_ : At (zro w) gs W
  gl : ∀ g ∈ gs, g < p
  b : Lib.IsBuilderF 69 5 p p (Lib.byteCells s.data.toList) W
  lo : w.heap.size ≤ p
  lt : p < W.heap.size
theorem Bd.low (h : Bd w W gs p s) (hb : Below W.heap.size W W') (hA : At (zro w) gs W') : Bd w W' gs p s := ⟨hA, h.gl, bld_low h.b hb, h.lo, Nat.lt_of_lt_of_le h.lt hb.size⟩
theorem at_low (hA : At (zro w) gs W) (hp : w.heap.size ≤ p) (hpW : p ≤ W.heap.size) (hb : Below p W W') : At (zro w) gs W' :=
  ⟨⟨hb.os.trans hA.chg.os, hb.tape.trans hA.chg.tape, hb.output.trans hA.chg.output, Nat.le_trans hA.chg.size hb.size, fun b hl hm => (hb.block b (Nat.lt_of_lt_of_le hl hp)).trans (hA.chg.block b hl hm), Nat.zero_le _⟩, fun g hg => Nat.lt_of_lt_of_le (hA.under g hg) hb.size⟩
theorem bc_append (a b : ByteArray) : Lib.byteCells a.data.toList ++ Lib.byteCells b.data.toList = Lib.byteCells (a ++ b).data.toList := by
  unfold Lib.byteCells
  rw [← List.map_append]
  congr 1
def nl (s : ByteArray) : ByteArray := s ++ bs [10]
theorem at_line {N : Nat → Prop} {K : Value → World → Prop} (h : Bd w W gs p s) (ho : OwnF (zro w) noB gs W 9 1 strE (.slice a L.length c) L) (h0 : L ≠ []) (hl : L.length ≤ 1000000) (hz : (jnB L).size ≤ 1000000000) (hs : s.size ≤ 100000000000000)
    (hK : ∀ W', Keeps gs W W' → Bd w W' gs p (s ++ nl (jnB L)) → K (.tuple #[]) W') : OpW Tryd.prog (invokeS (.func (.func 21) #[] #[.pointer (some ⟨p, 0, none⟩)]) #[.slice a L.length c]) W K := by
  refine opw_invoke (by kernel_rfl) ?_
  refine f21_calls _ _ _ _ W _ ?_
  unfold f21_vc
  refine at_callW h.at_ (c23 ho h0 hl (by omega)) fun w2 hA2 hk2 hb2 => ⟨_, rfl, ?_⟩
  have h2 := h.low hb2 hA2
  have sz : ∀ t : ByteArray, (Lib.byteCells t.data.toList).length = t.size := fun t => by
    rw [Lib.byteCells_length]
    exact Array.length_toList
  refine (Tryd.Q_WriteString p p _ (jnB L) w2 h2.b (by rw [sz]; omega) (Nat.le_of_lt h2.lt)).mono fun e5 w5 ⟨he, hb, hbl, _⟩ => ⟨_, _, he, ?_⟩
  have hA5 := at_low hA2 h2.lo (Nat.le_of_lt h2.lt) hbl
  have hlt5 := Nat.lt_of_lt_of_le h2.lt hbl.size
  refine (Tryd.Q_WriteRune p p _ 10 (by omega) (by omega) w5 (.inr hb) (by rw [bc_append, sz, ap_size]; omega) (Nat.le_of_lt hlt5)).mono fun e9 w9 ⟨he9, hb9, hbl9, _⟩ => ⟨_, _, he9, _, rfl, ?_⟩
  refine hK w9 (fun g hg => (hbl9.block g (h.gl g hg)).trans ((hbl.block g (h.gl g hg)).trans (hk2 g hg))) ⟨at_low hA5 h2.lo (Nat.le_of_lt hlt5) hbl9, h.gl, .inr ?_, h2.lo, Nat.lt_of_lt_of_le hlt5 hbl9.size⟩
  have er : Lib.runeCells 10 = Lib.byteCells (bs [10]).data.toList := by
    unfold Lib.runeCells
    rw [Lib.encodeRuneZ_one (by omega) (by omega)]
    rfl
  rw [bc_append, er, bc_append] at hb9
  unfold nl
  rw [← ByteArray.append_assoc]
  exact hb9
theorem bd_new (hA : At (zro w) gs W) {K : Value → World → Prop} (h : ∀ W', Keeps gs W W' → Bd w W' gs W.heap.size (bs []) → K (.pointer (some ⟨W.heap.size, 0, none⟩)) W') : OpW Tryd.prog (valueS (Instr.alloc 69 true (.tuple #[]))) W K := by
  have hz : pureRun Tryd.prog (zeroValue 69) = some (.agg #[.pointer none, .slice none 0 0]) := by kernel_rfl
  unfold OpW
  rw [run_valueS (run_alloc hz)]
  refine h _ (hA.keeps (below_alloc _)) ⟨hA.call (below_alloc _), fun g hg => hA.under g hg, ?_, hA.chg.size, by rw [World.size_alloc]; exact Nat.lt_succ_self _⟩
  exact Lib.IsBuilderF.of (Lib.fresh_isBuilder 69 5 W)
theorem end_str {R : Ending → World → Prop} (hR : ∀ w', Below w.heap.size w w' → R (.returned (.string s)) w') (h : Bd w W gs p s) : Calls Tryd.prog 28 #[.pointer (some ⟨p, 0, none⟩)] W fun e w' => ∃ s', e = .returned (.string s') ∧ Keeps gs W w' ∧ R (.returned (.string s')) w' := by
  refine (Tryd.Q_String p p s.data.toList W h.b (Nat.le_of_lt h.lt)).mono fun e w' ⟨he, _, hb, _⟩ => ⟨_, he, fun g hg => hb.block g (h.gl g hg), ?_⟩
  have hA := at_low h.at_ h.lo (Nat.le_of_lt h.lt) hb
  exact leafW hR hA (by rw [show (⟨s.data.toList.toArray⟩ : ByteArray) = s from bs_data s])
end Go.Vc.Q

/- Tell: an empty book; works. -/
set_option maxRecDepth 20000
set_option maxHeartbeats 2000000
set_option linter.unusedVariables false
namespace Go.Vc.Q
open Go Go.Vc Go.Vc.V Go.RowKit Go.Proofs Vcq

variable {w W W' W1 : World} {gs ds : List Nat} {n : Int} {l : List PartT} {a : Option Addr} {ln lc c : Nat} {L M : List ByteArray} {wh : List UInt8} {e : Ev} {va : Option Addr} {vn vc p : Nat} {s : ByteArray}

theorem low_of {gs : List Nat} (hA : At (zro w) gs W) : Below w.heap.size w W := ⟨hA.chg.os, hA.chg.tape, hA.chg.output, hA.chg.size, fun b hb => hA.chg.block b hb id⟩
def nowL (now last : Int) : List ByteArray := [bs [110, 111, 119], numB now, bs [108, 97, 115, 116], numB last]
theorem now_size {x y : Int} (hx : I64 x) (hy : I64 y) : (jnB (nowL x y)).size ≤ 100 := by
  have h1 := jnB_size (nowL x y)
  have k1 := num_len hx
  have k2 := num_len hy
  unfold nowL at h1 ⊢
  simp [bs_size] at h1
  omega
theorem c14e (w : World) (hT : TabQ w) : RetW Tryd.prog 14 #[.agg #[.int .i64 0, .int .i64 0, .int .i64 0, .int .i64 0, .int .i64 0, .int .i64 0, .int .i64 0, .int .i64 0, .int .i64 0, .int .i64 0, .int .i64 0, .slice none 0 0, .slice none 0 0, .slice none 0 0, .slice none 0 0, .slice none 0 0]] w (.string (nl (jnB (nowL 0 0)))) := by
  intro R h
  refine f14_calls _ _ _ _ _ _ _ _ _ _ _ _ _ _ _ _ _ _ _ _ _ _ _ _ _ _ w R ?_
  unfold f14_vc
  have i0 : I64 0 := ⟨by omega, by omega⟩
  refine fun n1 hn1 => go_below_too (at_zro w noB) fun w2 hA2 hb2 => ?_
  refine bd_new hA2 fun w4 hk4 hB4 => ⟨_, rfl, hk4, go_below_too hB4.at_ fun w6 hA6 hb6 => ?_⟩
  have hB6 := hB4.low hb6.below hA6
  refine at_callb hA6 (c25 0 i0 w6 (hT.low (low_of hA6))) fun w8 hA8 hk8 hb8 => ⟨_, rfl, hk8, at_callb hA8 (c25 0 i0 w8 (hT.low (low_of hA8))) fun w11 hA11 hk11 hb11 => ⟨_, rfl, hk11, ?_⟩⟩
  have hB11 := (hB6.low hb8.below hA8).low hb11.below hA11
  refine opw_litL (e' := 9) (size := 1) (f := strE) (l := nowL 0 0) hA11 rfl (fun _ _ => rfl) (by decide) (by kernel_rfl) fun g w14 _ hA14 hk14 hb14 ho => ⟨_, _, _, rfl, hk14, ?_⟩
  have hz := now_size i0 i0
  refine at_line (L := nowL 0 0) (N := noB) (hB11.low hb14.below hA14) ho (by unfold nowL; simp) (by unfold nowL; simp) (by omega) (by rw [bs_size]; simp) fun w19 hk19 hB19 => ⟨rfl, hk19, ?_⟩
  have es : bs [] ++ nl (jnB (nowL 0 0)) = nl (jnB (nowL 0 0)) := by
    apply ba_ext
    simp [bs]
  rw [es] at hB19
  have z : ∀ {x : Int}, x = 0 → ¬ x < ((0 : Nat) : Int) := fun h => by omega
  refine ⟨fun s W => s.1 = 0 ∧ Keeps [n1] w19 W ∧ W = w19, fun _ _ => 0, ⟨rfl, fun _ _ => rfl, rfl⟩, ?_⟩
  rintro x1 W1 ⟨h1, _, rfl⟩
  refine brD (fun hh => absurd hh (z h1)) fun _ => ⟨fun s W => s.1 = 0 ∧ W = W1, fun _ _ => 0, ⟨rfl, rfl⟩, ?_⟩
  rintro x2 W2 ⟨h2, rfl⟩
  refine brD (fun hh => absurd hh (z h2)) fun _ => ⟨fun s W => s.1 = 0 ∧ W = W2, fun _ _ => 0, ⟨rfl, rfl⟩, ?_⟩
  rintro x3 W3 ⟨h3, rfl⟩
  refine brD (fun hh => absurd hh (z h3)) fun _ => ⟨fun s W => s.1 = 0 ∧ W = W3, fun _ _ => 0, ⟨rfl, rfl⟩, ?_⟩
  rintro x4 W4 ⟨h4, rfl⟩
  refine brD (fun hh => absurd hh (z h4)) fun _ => ⟨fun s W => s.1 = 0 ∧ W = W4, fun _ _ => 0, ⟨rfl, rfl⟩, ?_⟩
  rintro x5 W5 ⟨h5, rfl⟩
  refine brD (fun hh => absurd hh (z h5)) fun _ => end_str h hB19
/-! ### The examples -/
def ev0 : Ev := ⟨6, 1, 2, 3, [((0 : Int), (0 : Int), (1000 : Int))]⟩
theorem num_d {d : Nat} (h : d < 10) : numB (d : Int) = bs [UInt8.ofNat (48 + d)] := by
  unfold numB
  rw [Lib.itoa_nonneg, Lib.decDigits_one h]
theorem word_cpus : wordB ((0 : Int), (0 : Int), (1000 : Int)) = bs [99, 112, 117, 115, 58, 49] := by
  have e1 : stext 0 0 = bs [99, 112, 117, 115] := by
    unfold stext
    rw [if_pos (by decide), if_pos rfl]
    decide
  have e2 : strOfNums (txtL 1000) = bs [49] := by
    unfold txtL
    rw [if_pos (by omega), if_pos (by decide)]
    have := digits_bs (n := 1000 / 1000) (by omega)
    rw [this, show ((1000 : Int) / 1000).toNat = 1 from rfl, Lib.decDigits_one (by omega)]
    rfl
  unfold wordB
  simp only
  rw [e1, e2]
  decide
theorem vec_cpus : vecT [((0 : Int), (0 : Int), (1000 : Int))] = bs [99, 112, 117, 115, 58, 49] := by
  unfold vecT
  rw [if_pos (by decide)]
  unfold vtext
  rw [if_pos (by decide), if_neg (by simp), List.map_singleton, Lib.join_one, word_cpus]
theorem ev0_str : evT ev0 = bs [111, 102, 102, 101, 114, 101, 100, 32, 102, 114, 97, 109, 101, 32, 49, 32, 105, 100, 32, 50, 32, 97, 103, 101, 110, 116, 32, 51, 32, 99, 112, 117, 115, 58, 49] := by
  have h1 : numB 1 = bs [49] := num_d (d := 1) (by omega)
  have h2 : numB 2 = bs [50] := num_d (d := 2) (by omega)
  have h3 : numB 3 = bs [51] := num_d (d := 3) (by omega)
  have hk : kindT 6 = bs [111, 102, 102, 101, 114, 101, 100] := by
    unfold kindT
    exact wordT_in (i := 6) (by decide) (by decide)
  have he : evL ev0 = [bs [111, 102, 102, 101, 114, 101, 100], bs [102, 114, 97, 109, 101], bs [49], bs [105, 100], bs [50], bs [97, 103, 101, 110, 116], bs [51], bs [99, 112, 117, 115, 58, 49]] := by
    unfold evL wF wI wA wV
    rw [if_pos (by decide), if_pos (by decide), if_pos (by decide), if_pos (by decide), if_pos (by decide)]
    unfold ev0
    simp only
    rw [h1, h2, h3, hk, vec_cpus]
    rfl
  unfold evT
  rw [he]
  decide
theorem rep0_str : repT 10 [] = bs [110, 111, 32, 102, 114, 97, 109, 101, 119, 111, 114, 107] := by
  unfold repT
  rw [List.foldl_nil]
  unfold errT
  exact wordT_in (i := 10) (by decide) (by decide)
theorem book0_str : nl (jnB (nowL 0 0)) = bs [110, 111, 119, 32, 48, 32, 108, 97, 115, 116, 32, 48, 10] := by
  have h0 : numB 0 = bs [48] := num_d (d := 0) (by omega)
  unfold nowL
  rw [h0]
  decide
theorem c12 (w : World) (hT : TabQ w) : RetW Tryd.prog 12 #[] w (.bool true) := by
  intro R h
  refine f12_calls w R ?_
  unfold f12_vc
  have eI : EvI ev0 := ⟨⟨by decide, by decide⟩, ⟨by decide, by decide⟩, ⟨by decide, by decide⟩, ⟨by decide, by decide⟩⟩
  refine opw_litL (e' := 57) (size := 3) (f := partE) (l := [((0 : Int), (0 : Int), (1000 : Int))]) (at_zro w noB) rfl (fun _ _ => rfl) (by decide) (by kernel_rfl) fun g w2 _ hA2 _ hb2 ho => ⟨_, _, _, rfl, ?_⟩
  refine at_callW hA2 (c17 ev0 eI w2 (hT.call hb2) (ho.sl fun _ _ => rfl)) fun w7 hA7 _ hb7 => ⟨_, rfl, ?_⟩
  refine brS (fun _ => ?_) fun hne => absurd ev0_str hne
  have hE : Evs w7 [] none 0 0 := ⟨⟨rfl, Nat.le_refl _, Nat.zero_le _, fun _ => rfl, fun i x hx => by simp at hx⟩, fun r hr => by cases hr⟩
  refine at_callW hA7 (c6 (code := 10) ⟨by decide, by decide⟩ w7 (hT.low (low_of hA7)) hE (by simp)) fun w10 hA10 _ _ => ⟨_, rfl, ?_⟩
  refine brS (fun _ => ?_) fun hne => absurd rep0_str hne
  refine at_callW hA10 (c14e w10 (hT.low (low_of hA10))) fun w13 hA13 _ _ => ⟨_, rfl, leafW h hA13 ?_⟩
  rw [toList_beq]
  exact congrArg Value.bool (decide_eq_true book0_str)
end Go.Vc.Q

/- Tell: few; law 3. -/
set_option maxRecDepth 20000
set_option maxHeartbeats 2000000
set_option linter.unusedVariables false
namespace Go.Vc.Q
open Go Go.Vc Go.Vc.V Go.RowKit Go.Proofs Vcq

variable {w W W' W1 : World} {gs ds : List Nat} {n : Int} {a ra : Option Addr} {ln lc rc : Nat} {rows : List ER} {code : Int}

abbrev RP := Int × (Option Addr × Nat × Nat)
abbrev rpE (r : RP) : List Value := [.int .i64 r.1, .slice r.2.1 r.2.2.1 r.2.2.2]
theorem c5 (hs : SlE w 2 rpE [(code, a, ln, lc)] ra 1 rc) (hE : Evs w rows a ln lc) (hl : rows.length ≤ 30000000000000) : RetQ Tryd.prog 5 #[.slice ra 1 rc] w fun v _ => ∃ b, v = .bool b := by
  intro R h
  refine f5_calls _ _ _ w R ?_
  unfold f5_vc
  have hln := hE.sl.1
  refine ⟨fun s W => At w [] W ∧ ∃ i : Nat, s.2.1 = i ∧ i ≤ 1, fun s _ => 1 - s.2.1.toNat, ⟨At.refl w, 0, rfl, by omega⟩, ?_⟩
  rintro x3 x4 w5 ⟨hA, i, hi, hil⟩
  simp only at hi
  subst hi
  refine brD (fun hlt => ?_) fun hge => brD (fun _ => ?_) fun _ => leafq h hA ⟨_, rfl⟩
  · have hi0 : i = 0 := by omega
    subst hi0
    have sl5 := hs.call hA.below
    obtain ⟨ad, g1, el, _⟩ := elt_at (P := Tryd.prog) (k := .i64) (t := 27) sl5 (show ([(code, a, ln, lc)] : List RP)[0]? = some (code, a, ln, lc) from rfl) (e := 25) (by kernel_rfl) (by kernel_rfl)
    refine ⟨ad, g1, _, _, _, (el.sub (o := 1) (by decide)).one (by kernel_rfl) no_ds, ?_⟩
    refine ⟨fun s W => At w [] W ∧ Bel w5 W ∧ ∃ j : Nat, s.2.1 = j ∧ j ≤ ln, fun s _ => ln - s.2.1.toNat, ⟨hA, Bel.refl _, 0, rfl, Nat.zero_le _⟩, ?_⟩
    rintro x12 x13 w14 ⟨hA, hb, j, hj, hjl⟩
    simp only at hj
    subst hj
    have el14 := el.below hb
    have hw : IntKind.i64.wrap ((j : Int) + 1) = ((j + 1 : Nat) : Int) := by rw [wrap_i64 (by omega) (by omega)]; omega
    refine ⟨ad, g1, _, _, _, (el14.sub (o := 1) (by decide)).one (by kernel_rfl) no_ds, brD (fun hlt2 => ?_) fun hge2 => ⟨⟨hA, 1, rfl, Nat.le_refl _⟩, by simp only; decide⟩⟩
    have hlt2 : (j : Int) < (ln : Int) := hlt2
    have hjm : j < rows.length := by omega
    obtain ⟨r, hr⟩ : ∃ r, rows[j]? = some r := ⟨_, List.getElem?_eq_getElem hjm⟩
    have hE14 := hE.call hA.below
    obtain ⟨ad2, g2, el2, _⟩ := elt_at (P := Tryd.prog) (k := .i64) (t := 23) hE14.sl hr (e := 47) (by kernel_rfl) (by kernel_rfl)
    rw [hw]
    refine ⟨ad, g1, _, _, _, (el14.sub (o := 1) (by decide)).one (by kernel_rfl) no_ds, ad2, g2, _, _, _, (el2.sub (o := 4) (by decide)).one (by kernel_rfl) no_ds, ⟨hA, hb, j + 1, rfl, by omega⟩, by simp only; omega⟩
  · have sn : SlE w5 3 partE [] none 0 0 := ⟨rfl, Nat.le_refl _, Nat.zero_le _, fun _ => rfl, fun i x hx => by simp at hx⟩
    exact at_callb hA (c16 w5 sn) fun w28 hA _ _ => ⟨_, rfl, leafq h hA ⟨_, rfl⟩⟩
theorem law3 (hc : I64 code) (hn : I64 n) (w : World) (hT : TabQ w) (hE : Evs w rows a ln lc) (hl : rows.length ≤ 30000000000000) : RetW Tryd.prog 3 #[.agg #[.int .i64 code, .slice a ln lc], .int .i64 n] w (.bool true) := by
  intro R h
  refine f3_calls _ _ _ _ _ w R ?_
  unfold f3_vc
  refine go_n (at_zro w noB) fun n1 hn1 => go_below_too (at_zro w noB) fun w2 hA hb2 => ?_
  refine opw_litL (e' := 25) (size := 2) (f := rpE) (l := [((code, a, ln, lc) : RP)]) hA rfl (fun _ _ => rfl) (by decide) (by kernel_rfl) fun g w4 _ hA hk4 hb4 ho => ⟨_, _, _, rfl, hk4, ?_⟩
  have low : ∀ {W : World} {gs : List Nat}, At (zro w) gs W → TabQ W ∧ Evs W rows a ln lc := fun hA => ⟨hT.low (low_of hA), hE.low (low_of hA)⟩
  refine at_callq hA (c5 (ho.sl fun _ _ => rfl) (low hA).2 hl) fun v w9 hA hk9 _ ⟨b, hv⟩ => ?_
  subst hv
  refine ⟨_, rfl, hk9, brNB (fun _ => leafW h hA rfl) fun _ => go_below hA fun w11 hA => ?_⟩
  refine at_callW hA (c6 hc w11 (low hA).1 (low hA).2 hl) fun w13 hA hk _ => ⟨_, rfl, hk, ?_⟩
  refine at_callb hA (c7 hc w13 (low hA).2 hl) fun w16 hA hk _ => ⟨_, rfl, hk, brS (fun _ => ?_) fun hne => absurd rfl hne⟩
  refine at_callb hA (c8 (low hA).1 hn) fun w19 hA hk _ => ⟨_, rfl, hk, ?_⟩
  refine at_callb hA (c9 hn w19) fun w22 hA hk _ => ⟨_, rfl, hk, brS (fun _ => ?_) fun hne => absurd rfl hne⟩
  refine at_callb hA (c10 (low hA).1 hn) fun w25 hA hk _ => ⟨_, rfl, hk, ?_⟩
  refine at_callb hA (c11 hn w25) fun w28 hA hk _ => ⟨_, rfl, hk, brS (fun _ => ?_) fun hne => absurd rfl hne⟩
  exact at_callW hA (c12 w28 (low hA).1) fun w31 hA hk _ => ⟨_, rfl, hk, leafW h hA rfl⟩
end Go.Vc.Q

/- Tell: a framework's line. -/
set_option maxRecDepth 20000
set_option maxHeartbeats 2000000
set_option linter.unusedVariables false
namespace Go.Vc.Q
open Go Go.Vc Go.Vc.V Go.RowKit Go.Proofs Vcq

variable {w W W' W1 : World} {gs ds : List Nat} {n : Int} {a : Option Addr} {ln lc c : Nat}
structure Fr where
  id : Int
  role : Int
  weight : Int
  up : Bool
  quiet : Bool
  time : Int
  til : Int
structure FrI (f : Fr) : Prop where
  id : I64 f.id
  role : I64 f.role
  weight : I64 f.weight
  til : I64 f.til
def frB (f : Fr) : List ByteArray := [bs [102, 114, 97, 109, 101], numB f.id, bs [114, 111, 108, 101], numB f.role, bs [119, 101, 105, 103, 104, 116], numB f.weight]
def frL (f : Fr) : List ByteArray := frB f ++ (if f.up = true then [bs [117, 112]] else [bs [97, 119, 97, 121], numB f.til]) ++ (if f.quiet = true then [bs [113, 117, 105, 101, 116]] else [])
abbrev frV (f : Fr) : List Value := [.int .i64 f.id, .int .i64 f.role, .int .i64 f.weight, .bool f.up, .bool f.quiet, .int .i64 f.time, .int .i64 f.til]
theorem c26 (f : Fr) (hI : FrI f) (w : World) (hT : TabQ w) {K : Ending → World → Prop} (h : ∀ a c W', Bel w W' → OwnL w [] W' 9 1 strE (.slice a (frL f).length c) (frL f) → K (.returned (.slice a (frL f).length c)) W') : Calls Tryd.prog 26 #[.agg #[.int .i64 f.id, .int .i64 f.role, .int .i64 f.weight, .bool f.up, .bool f.quiet, .int .i64 f.time, .int .i64 f.til]] w K := by
  refine f26_calls _ _ _ _ _ _ _ w K ?_
  unfold f26_vc
  have fin : ∀ {n1 : Nat} {W : World} {L : List ByteArray} {a : Option Addr} {c : Nat}, AtF w noB [n1] W → OwnF w noB [n1] W 9 1 strE (.slice a L.length c) L → L = frL f → K (.returned (.slice a L.length c)) W := fun hA ho e => by
    subst e
    exact h _ _ _ hA.below ⟨ho.row0, ho.mine, fun g hg => by cases hg⟩
  refine fun n1 hn1 => go_below_too (At.refl w) fun w2 hA2 hb2 => ?_
  refine at_callb hA2 (c25 _ hI.id w2 (hT.call hA2.below)) fun w4 hA4 hk4 hb4 => ⟨_, rfl, hk4, ?_⟩
  refine at_callb hA4 (c25 _ hI.role w4 (hT.call hA4.below)) fun w7 hA7 hk7 hb7 => ⟨_, rfl, hk7, ?_⟩
  refine at_callb hA7 (c25 _ hI.weight w7 (hT.call hA7.below)) fun w10 hA10 hk10 hb10 => ⟨_, rfl, hk10, ?_⟩
  refine opw_litL (e' := 9) (size := 1) (f := strE) (l := frB f) hA10 rfl (fun _ _ => rfl) (by decide) (by kernel_rfl) fun g w13 _ hA13 hk13 hb13 ho => ⟨_, _, _, rfl, hk13, ?_⟩
  refine brB (fun hu => ?_) fun hu => ?_
  · refine opw_litL (e' := 9) (size := 1) (f := strE) (l := [bs [117, 112]]) hA13 rfl (fun _ _ => rfl) (by decide) (by kernel_rfl) fun g2 w18 _ hA18 hk18 hb18 ho18 => ⟨_, _, _, rfl, hk18, ?_⟩
    have ho' := ho.keep fun k hk => hb18.below.block k (ho.lt k hk)
    refine opw_appendS (bytes := 16) (by kernel_rfl) hA18 ho' (ho18.sl fun _ _ => rfl) (fun _ _ => rfl) (fun x _ u hu => str_one x u hu) (by simp [frB, maxLen]) (by simp [frB]) fun v23 w23 hA23 hk23 _ ho23 => ?_
    obtain ⟨a23, c23, rfl, _⟩ := ho23.slice fun _ _ => rfl
    refine ⟨_, _, _, rfl, hk23, ?_⟩
    refine brB (fun hq => ?_) fun hq => ?_
    · refine opw_litL (e' := 9) (size := 1) (f := strE) (l := [bs [113, 117, 105, 101, 116]]) hA23 rfl (fun _ _ => rfl) (by decide) (by kernel_rfl) fun g3 wq _ hAq hkq hbq hoq => ⟨_, _, _, rfl, hkq, ?_⟩
      have ho' := ho23.keep fun k hk => hbq.below.block k (ho23.lt k hk)
      refine opw_appendS (bytes := 16) (by kernel_rfl) hAq ho' (hoq.sl fun _ _ => rfl) (fun _ _ => rfl) (fun x _ u hu => str_one x u hu) (by simp [frB, maxLen]) (by simp [frB]) fun vz wz hAz hkz _ hoz => ?_
      obtain ⟨az, cz, rfl, _⟩ := hoz.slice fun _ _ => rfl
      exact ⟨_, _, _, rfl, hkz, fin hAz hoz (by unfold frL; simp only [hu, hq]; rfl)⟩
    · exact fin hA23 ho23 (by unfold frL; simp only [hu, hq]; rfl)
  · refine at_callb hA13 (c25 _ hI.til w13 (hT.call hA13.below)) fun w38 hA38 hk38 hb38 => ⟨_, rfl, hk38, ?_⟩
    have ho38 := ho.keep fun k hk => hb38.below.block k (ho.lt k hk)
    refine opw_litL (e' := 9) (size := 1) (f := strE) (l := [bs [97, 119, 97, 121], numB f.til]) hA38 rfl (fun _ _ => rfl) (by decide) (by kernel_rfl) fun g2 w41 _ hA41 hk41 hb41 ho41 => ⟨_, _, _, rfl, hk41, ?_⟩
    have ho' := ho38.keep fun k hk => hb41.below.block k (ho38.lt k hk)
    refine opw_appendS (bytes := 16) (by kernel_rfl) hA41 ho' (ho41.sl fun _ _ => rfl) (fun _ _ => rfl) (fun x _ u hu => str_one x u hu) (by simp [frB, maxLen]) (by simp [frB]) fun v46 w46 hA46 hk46 _ ho46 => ?_
    obtain ⟨a46, c46, rfl, _⟩ := ho46.slice fun _ _ => rfl
    refine ⟨_, _, _, rfl, hk46, ?_⟩
    refine brB (fun hq => ?_) fun hq => ?_
    · refine opw_litL (e' := 9) (size := 1) (f := strE) (l := [bs [113, 117, 105, 101, 116]]) hA46 rfl (fun _ _ => rfl) (by decide) (by kernel_rfl) fun g3 wq _ hAq hkq hbq hoq => ⟨_, _, _, rfl, hkq, ?_⟩
      have ho' := ho46.keep fun k hk => hbq.below.block k (ho46.lt k hk)
      refine opw_appendS (bytes := 16) (by kernel_rfl) hAq ho' (hoq.sl fun _ _ => rfl) (fun _ _ => rfl) (fun x _ u hu => str_one x u hu) (by simp [frB, maxLen]) (by simp [frB]) fun vz wz hAz hkz _ hoz => ?_
      obtain ⟨az, cz, rfl, _⟩ := hoz.slice fun _ _ => rfl
      exact ⟨_, _, _, rfl, hkz, fin hAz hoz (by unfold frL; simp only [hu, hq]; rfl)⟩
    · exact fin hA46 ho46 (by unfold frL; simp only [hu, hq]; rfl)
end Go.Vc.Q

/- Tell: the document's line of a framework. -/
set_option maxRecDepth 20000
set_option maxHeartbeats 2000000
set_option linter.unusedVariables false
namespace Go.Vc.Q
open Go Go.Vc Go.Vc.V Go.RowKit Go.Proofs Vcq

variable {w W W' W1 : World} {gs ds : List Nat} {n : Int} {a : Option Addr} {ln lc c : Nat} {L : List ByteArray}
theorem szm (a : Array UInt8) : (ByteArray.mk a).size = a.size := rfl
theorem jn_first (x : List UInt8) (y : ByteArray) : bs (x ++ [32]) ++ y = jnB [bs x, y] := by
  have := jnB_snoc (L := [bs x]) (by simp) y
  rw [jnB_one, bs_append] at this
  exact this.symm
theorem jn_two' (h : L ≠ []) (x : List UInt8) (y : ByteArray) : jnB L ++ bs ([32] ++ x ++ [32]) ++ y = jnB (L ++ [bs x, y]) := by
  have := jn_two h x y.data.toList
  rwa [bs_data] at this
theorem jn_word (h : L ≠ []) (x : List UInt8) : jnB L ++ bs ([32] ++ x) = jnB (L ++ [bs x]) := by
  rw [jnB_snoc h, ← bs_append, ByteArray.append_assoc]
theorem fr_j (f : Fr) : ByteArray.mk #[102, 114, 97, 109, 101, 32] ++ numB f.id ++ ByteArray.mk #[32, 114, 111, 108, 101, 32] ++ numB f.role ++ ByteArray.mk #[32, 119, 101, 105, 103, 104, 116, 32] ++ numB f.weight = jnB (frB f) := by
  have k1 := jn_first [102, 114, 97, 109, 101] (numB f.id)
  have k2 := jn_two' (L := [bs [102, 114, 97, 109, 101], numB f.id]) (by simp) [114, 111, 108, 101] (numB f.role)
  have k3 := jn_two' (L := [bs [102, 114, 97, 109, 101], numB f.id] ++ [bs [114, 111, 108, 101], numB f.role]) (by simp) [119, 101, 105, 103, 104, 116] (numB f.weight)
  rw [show ByteArray.mk #[102, 114, 97, 109, 101, 32] = bs ([102, 114, 97, 109, 101] ++ [32]) from rfl, show ByteArray.mk #[32, 114, 111, 108, 101, 32] = bs ([32] ++ [114, 111, 108, 101] ++ [32]) from rfl, show ByteArray.mk #[32, 119, 101, 105, 103, 104, 116, 32] = bs ([32] ++ [119, 101, 105, 103, 104, 116] ++ [32]) from rfl, k1, k2, k3]
  rfl
theorem fr_up (f : Fr) : jnB (frB f) ++ ByteArray.mk #[32, 117, 112] = jnB (frB f ++ [bs [117, 112]]) := jn_word (by unfold frB; simp) [117, 112]
theorem fr_away (f : Fr) : jnB (frB f) ++ ByteArray.mk #[32, 97, 119, 97, 121, 32] ++ numB f.til = jnB (frB f ++ [bs [97, 119, 97, 121], numB f.til]) := jn_two' (by unfold frB; simp) [97, 119, 97, 121] (numB f.til)
theorem fr_quiet (h : L ≠ []) : jnB L ++ ByteArray.mk #[32, 113, 117, 105, 101, 116] = jnB (L ++ [bs [113, 117, 105, 101, 116]]) := jn_word h [113, 117, 105, 101, 116]
theorem c29 (f : Fr) (hI : FrI f) (w : World) : Ret Tryd.prog 29 #[.agg #[.int .i64 f.id, .int .i64 f.role, .int .i64 f.weight, .bool f.up, .bool f.quiet, .int .i64 f.time, .int .i64 f.til]] w (.string (nl (jnB (frL f)))) := by
  intro R h
  refine f29_calls _ _ _ _ _ _ _ w R ?_
  unfold f29_vc
  have z1 := num_len hI.id
  have z2 := num_len hI.role
  have z3 := num_len hI.weight
  have z4 := num_len hI.til
  have fin : ∀ {n1 : Nat} {W : World} {L : List ByteArray} {s : ByteArray}, At w [n1] W → s = jnB L → L = frL f → R (.returned (.string (s ++ ByteArray.mk #[10]))) W := fun hA e1 e2 => by
    subst e1
    subst e2
    exact leaf h hA rfl
  refine fun n1 hn1 => go_below_too (At.refl w) fun w2 hA2 hb2 => ?_
  refine at_callb hA2 (c20 _ hI.id w2) fun w4 hA4 hk4 _ => ⟨_, rfl, hk4, _, gives_sadd (by simp only [szm, List.size_toArray, List.length_cons, List.length_nil]; omega), _, gives_sadd (by simp only [ap_size, szm, List.size_toArray, List.length_cons, List.length_nil]; omega), ?_⟩
  refine at_callb hA4 (c20 _ hI.role w4) fun w9 hA9 hk9 _ => ⟨_, rfl, hk9, _, gives_sadd (by simp only [ap_size, szm, List.size_toArray, List.length_cons, List.length_nil]; omega), _, gives_sadd (by simp only [ap_size, szm, List.size_toArray, List.length_cons, List.length_nil]; omega), ?_⟩
  refine at_callb hA9 (c20 _ hI.weight w9) fun w14 hA14 hk14 _ => ⟨_, rfl, hk14, _, gives_sadd (by simp only [ap_size, szm, List.size_toArray, List.length_cons, List.length_nil]; omega), ?_⟩
  refine brB (fun hu => ⟨_, gives_sadd (by simp only [ap_size, szm, List.size_toArray, List.length_cons, List.length_nil]; omega), brB (fun hq => ⟨_, gives_sadd (by simp only [ap_size, szm, List.size_toArray, List.length_cons, List.length_nil]; omega), _, gives_sadd (by simp only [ap_size, szm, List.size_toArray, List.length_cons, List.length_nil]; omega), fin hA14 (L := frB f ++ [bs [117, 112]] ++ [bs [113, 117, 105, 101, 116]]) ?_ ?_⟩) fun hq => ⟨_, gives_sadd (by simp only [ap_size, szm, List.size_toArray, List.length_cons, List.length_nil]; omega), fin hA14 (L := frB f ++ [bs [117, 112]]) ?_ ?_⟩⟩) fun hu => ⟨_, gives_sadd (by simp only [ap_size, szm, List.size_toArray, List.length_cons, List.length_nil]; omega), at_callb hA14 (c20 _ hI.til w14) fun w23 hA23 hk23 _ => ⟨_, rfl, hk23, _, gives_sadd (by simp only [ap_size, szm, List.size_toArray, List.length_cons, List.length_nil]; omega), brB (fun hq => ⟨_, gives_sadd (by simp only [ap_size, szm, List.size_toArray, List.length_cons, List.length_nil]; omega), _, gives_sadd (by simp only [ap_size, szm, List.size_toArray, List.length_cons, List.length_nil]; omega), fin hA23 (L := frB f ++ [bs [97, 119, 97, 121], numB f.til] ++ [bs [113, 117, 105, 101, 116]]) ?_ ?_⟩) fun hq => ⟨_, gives_sadd (by simp only [ap_size, szm, List.size_toArray, List.length_cons, List.length_nil]; omega), fin hA23 (L := frB f ++ [bs [97, 119, 97, 121], numB f.til]) ?_ ?_⟩⟩⟩
  · rw [fr_j, fr_up, fr_quiet (by simp)]
  · unfold frL
    simp only [hu, hq]
    rfl
  · rw [fr_j, fr_up]
  · unfold frL
    simp only [hu, hq]
    rfl
  · rw [fr_j, fr_away, fr_quiet (by simp)]
  · unfold frL
    simp only [hu, hq]
    rfl
  · rw [fr_j, fr_away]
  · unfold frL
    simp only [hu, hq]
    rfl
end Go.Vc.Q

/- Tell: a book in memory; Few. -/
set_option maxRecDepth 20000
set_option maxHeartbeats 2000000
set_option linter.unusedVariables false
namespace Go.Vc.Q
open Go Go.Vc Go.Vc.V Go.RowKit Go.Proofs Vcq

variable {w W W' W1 : World} {gs ds : List Nat} {n : Int} {a : Option Addr} {ln lc c : Nat} {L : List ByteArray}
/-- A vector and its slice. -/
abbrev Vs := List PartT × (Option Addr × Nat × Nat)
abbrev vsV (v : Vs) : Value := .slice v.2.1 v.2.2.1 v.2.2.2
def VsR (W : World) (v : Vs) : Prop := SlE W 3 partE v.1 v.2.1 v.2.2.1 v.2.2.2
theorem VsR.low {v : Vs} (h : VsR W v) (hb : Below W.heap.size W W') : VsR W' v := SlR.mono h (cell_below hb) fun _ _ h => h
structure Ag where
  id : Int
  tot : Vs
  fre : Vs
structure Of where
  id : Int
  fr : Int
  ag : Int
  v : Vs
  til : Int
structure Tk where
  fr : Int
  id : Int
  ag : Int
  v : Vs
structure Fi where
  fr : Int
  ag : Int
  til : Int
  v : Vs
abbrev agV (x : Ag) : List Value := [.int .i64 x.id, .slice x.tot.2.1 x.tot.2.2.1 x.tot.2.2.2, .slice x.fre.2.1 x.fre.2.2.1 x.fre.2.2.2]
abbrev ofV (x : Of) : List Value := [.int .i64 x.id, .int .i64 x.fr, .int .i64 x.ag, .slice x.v.2.1 x.v.2.2.1 x.v.2.2.2, .int .i64 x.til]
abbrev tkV (x : Tk) : List Value := [.int .i64 x.fr, .int .i64 x.id, .int .i64 x.ag, .slice x.v.2.1 x.v.2.2.1 x.v.2.2.2]
abbrev fiV (x : Fi) : List Value := [.int .i64 x.fr, .int .i64 x.ag, .int .i64 x.til, .slice x.v.2.1 x.v.2.2.1 x.v.2.2.2]
/-- A row of rows: each of them right. -/
structure Rw {α : Type} (n : Nat) (f : α → List Value) (ok : World → α → Prop) (W : World) (l : List α) (a : Option Addr) (ln lc : Nat) : Prop where
  sl : SlE W n f l a ln lc
  ok : ∀ x ∈ l, ok W x
  few : l.length ≤ 2000000
theorem Rw.low {α : Type} {n : Nat} {f : α → List Value} {ok : World → α → Prop} {l : List α} (h : Rw n f ok W l a ln lc) (hk : ∀ {W W' : World} {x : α}, ok W x → Below W.heap.size W W' → ok W' x) (hb : Below W.heap.size W W') : Rw n f ok W' l a ln lc := ⟨h.sl.mono (cell_below hb) fun _ _ h => h, fun x hx => hk (h.ok x hx) hb, h.few⟩
def frOk (_ : World) (f : Fr) : Prop := FrI f
def agOk (W : World) (x : Ag) : Prop := I64 x.id ∧ VsR W x.tot ∧ VsR W x.fre
def ofOk (W : World) (x : Of) : Prop := (I64 x.id ∧ I64 x.fr ∧ I64 x.ag ∧ I64 x.til) ∧ VsR W x.v
def tkOk (W : World) (x : Tk) : Prop := (I64 x.fr ∧ I64 x.id ∧ I64 x.ag) ∧ VsR W x.v
def fiOk (W : World) (x : Fi) : Prop := (I64 x.fr ∧ I64 x.ag ∧ I64 x.til) ∧ VsR W x.v
theorem frOk.low {x : Fr} (h : frOk W x) (_ : Below W.heap.size W W') : frOk W' x := h
theorem agOk.low {x : Ag} (h : agOk W x) (hb : Below W.heap.size W W') : agOk W' x := ⟨h.1, h.2.1.low hb, h.2.2.low hb⟩
theorem ofOk.low {x : Of} (h : ofOk W x) (hb : Below W.heap.size W W') : ofOk W' x := ⟨h.1, h.2.low hb⟩
theorem tkOk.low {x : Tk} (h : tkOk W x) (hb : Below W.heap.size W W') : tkOk W' x := ⟨h.1, h.2.low hb⟩
theorem fiOk.low {x : Fi} (h : fiOk W x) (hb : Below W.heap.size W W') : fiOk W' x := ⟨h.1, h.2.low hb⟩
abbrev Sl := Option Addr × Nat × Nat
structure Bk where
  now : Int
  last : Int
  fs : List Fr
  ags : List Ag
  os : List Of
  ts : List Tk
  fis : List Fi
/-- A book in memory. -/
structure BkR (W : World) (b : Bk) (s1 s2 s3 s4 s5 : Sl) : Prop where
  now : I64 b.now
  last : I64 b.last
  fs : Rw 7 frV frOk W b.fs s1.1 s1.2.1 s1.2.2
  ags : Rw 3 agV agOk W b.ags s2.1 s2.2.1 s2.2.2
  os : Rw 5 ofV ofOk W b.os s3.1 s3.2.1 s3.2.2
  ts : Rw 4 tkV tkOk W b.ts s4.1 s4.2.1 s4.2.2
  fis : Rw 4 fiV fiOk W b.fis s5.1 s5.2.1 s5.2.2
theorem BkR.low {b : Bk} {s1 s2 s3 s4 s5 : Sl} (h : BkR W b s1 s2 s3 s4 s5) (hb : Below W.heap.size W W') : BkR W' b s1 s2 s3 s4 s5 :=
  ⟨h.now, h.last, h.fs.low frOk.low hb, h.ags.low agOk.low hb, h.os.low ofOk.low hb, h.ts.low tkOk.low hb, h.fis.low fiOk.low hb⟩
theorem c13 {b : Bk} {s1 s2 s3 s4 s5 : Sl} {b0 b1 b2 b3 b4 b5 b6 b7 b8 : Int} (hB : BkR w b s1 s2 s3 s4 s5) : RetQ Tryd.prog 13 #[.agg #[.int .i64 b0, .int .i64 b1, .int .i64 b2, .int .i64 b3, .int .i64 b4, .int .i64 b5, .int .i64 b6, .int .i64 b7, .int .i64 b8, .int .i64 b.now, .int .i64 b.last, .slice s1.1 s1.2.1 s1.2.2, .slice s2.1 s2.2.1 s2.2.2, .slice s3.1 s3.2.1 s3.2.2, .slice s4.1 s4.2.1 s4.2.2, .slice s5.1 s5.2.1 s5.2.2]] w fun v _ => ∃ b, v = .bool b := by
  intro R h
  refine f13_calls _ _ _ _ _ _ _ _ _ _ _ _ _ _ _ _ _ _ _ _ _ _ _ _ _ _ w R ?_
  unfold f13_vc
  have l2 := hB.ags.sl.1
  have l3 := hB.os.sl.1
  have l4 := hB.ts.sl.1
  have l5 := hB.fis.sl.1
  have m2 := hB.ags.few
  have m3 := hB.os.few
  have m4 := hB.ts.few
  have m5 := hB.fis.few
  refine fun n1 hn1 => ⟨fun s W => At w [n1] W ∧ ∃ i : Nat, s.2.1 = i ∧ i ≤ s2.2.1, fun s _ => s2.2.1 - s.2.1.toNat, go_below (At.refl w) fun w4 hA => ⟨hA, 0, rfl, Nat.zero_le _⟩, ?_⟩
  rintro x5 x6 w7 ⟨hA, i, hi, hil⟩
  simp only at hi
  subst hi
  refine brD (fun hlt => ?_) fun hge => ?_
  · obtain ⟨r, hr⟩ : ∃ r, b.ags[i]? = some r := ⟨_, List.getElem?_eq_getElem (by omega)⟩
    have hw : IntKind.i64.wrap ((i : Int) + 1) = ((i + 1 : Nat) : Int) := by rw [wrap_i64 (by omega) (by omega)]; omega
    have hs := (hB.ags.low agOk.low hA.below.below).sl
    obtain ⟨ad, g1, el, _⟩ := elt_at (P := Tryd.prog) (k := .i64) (t := 37) hs hr (e := 59) (by kernel_rfl) (by kernel_rfl)
    rw [hw]
    exact ⟨ad, g1, _, _, _, (el.sub (o := 1) (by decide)).one (by kernel_rfl) no_ds, ad, g1, _, _, _, (el.sub (o := 2) (by decide)).one (by kernel_rfl) no_ds, go_below hA fun w16 hA => ⟨⟨hA, i + 1, rfl, by omega⟩, by simp only; omega⟩⟩
  refine ⟨fun s W => At w [n1] W ∧ ∃ i : Nat, s.2.1 = i ∧ i ≤ s3.2.1, fun s _ => s3.2.1 - s.2.1.toNat, ⟨hA, 0, rfl, Nat.zero_le _⟩, ?_⟩
  rintro x19 x20 w21 ⟨hA, i3, hi, hil3⟩
  simp only at hi
  subst hi
  refine brD (fun hlt => ?_) fun hge => ?_
  · obtain ⟨r, hr⟩ : ∃ r, b.os[i3]? = some r := ⟨_, List.getElem?_eq_getElem (by omega)⟩
    have hw : IntKind.i64.wrap ((i3 : Int) + 1) = ((i3 + 1 : Nat) : Int) := by rw [wrap_i64 (by omega) (by omega)]; omega
    have hs := (hB.os.low ofOk.low hA.below.below).sl
    obtain ⟨ad, g1, el, _⟩ := elt_at (P := Tryd.prog) (k := .i64) (t := 38) hs hr (e := 61) (by kernel_rfl) (by kernel_rfl)
    rw [hw]
    exact ⟨ad, g1, _, _, _, (el.sub (o := 3) (by decide)).one (by kernel_rfl) no_ds, ⟨hA, i3 + 1, rfl, by omega⟩, by simp only; omega⟩
  refine ⟨fun s W => At w [n1] W ∧ ∃ i : Nat, s.2.1 = i ∧ i ≤ s4.2.1, fun s _ => s4.2.1 - s.2.1.toNat, ⟨hA, 0, rfl, Nat.zero_le _⟩, ?_⟩
  rintro x28 x29 w30 ⟨hA, i4, hi, hil4⟩
  simp only at hi
  subst hi
  refine brD (fun hlt => ?_) fun hge => ?_
  · obtain ⟨r, hr⟩ : ∃ r, b.ts[i4]? = some r := ⟨_, List.getElem?_eq_getElem (by omega)⟩
    have hw : IntKind.i64.wrap ((i4 : Int) + 1) = ((i4 + 1 : Nat) : Int) := by rw [wrap_i64 (by omega) (by omega)]; omega
    have hs := (hB.ts.low tkOk.low hA.below.below).sl
    obtain ⟨ad, g1, el, _⟩ := elt_at (P := Tryd.prog) (k := .i64) (t := 39) hs hr (e := 63) (by kernel_rfl) (by kernel_rfl)
    rw [hw]
    exact ⟨ad, g1, _, _, _, (el.sub (o := 3) (by decide)).one (by kernel_rfl) no_ds, ⟨hA, i4 + 1, rfl, by omega⟩, by simp only; omega⟩
  refine ⟨fun s W => At w [n1] W ∧ ∃ i : Nat, s.2.1 = i ∧ i ≤ s5.2.1, fun s _ => s5.2.1 - s.2.1.toNat, ⟨hA, 0, rfl, Nat.zero_le _⟩, ?_⟩
  rintro x37 x38 w39 ⟨hA, i5, hi, hil5⟩
  simp only at hi
  subst hi
  refine brD (fun hlt => ?_) fun hge => leafq h hA ⟨_, rfl⟩
  obtain ⟨r, hr⟩ : ∃ r, b.fis[i5]? = some r := ⟨_, List.getElem?_eq_getElem (by omega)⟩
  have hw : IntKind.i64.wrap ((i5 : Int) + 1) = ((i5 + 1 : Nat) : Int) := by rw [wrap_i64 (by omega) (by omega)]; omega
  have hs := (hB.fis.low fiOk.low hA.below.below).sl
  obtain ⟨ad, g1, el, _⟩ := elt_at (P := Tryd.prog) (k := .i64) (t := 40) hs hr (e := 65) (by kernel_rfl) (by kernel_rfl)
  rw [hw]
  exact ⟨ad, g1, _, _, _, (el.sub (o := 3) (by decide)).one (by kernel_rfl) no_ds, ⟨hA, i5 + 1, rfl, by omega⟩, by simp only; omega⟩
end Go.Vc.Q

/- Tell: the lines of a book. -/
set_option maxRecDepth 20000
set_option maxHeartbeats 2000000
set_option linter.unusedVariables false
namespace Go.Vc.Q
open Go Go.Vc Go.Vc.V Go.RowKit Go.Proofs Vcq

variable {w W W' W1 : World} {gs ds : List Nat} {n : Int} {a : Option Addr} {ln lc c : Nat} {L : List ByteArray}
theorem jn_y (h : L ≠ []) (y : ByteArray) : jnB L ++ bs [32] ++ y = jnB (L ++ [y]) := (jnB_snoc h y).symm
def txt (p : ByteArray) (ls : List (List ByteArray)) : ByteArray := ls.foldl (fun s l => s ++ nl (jnB l)) p
theorem txt_snoc (p : ByteArray) (ls : List (List ByteArray)) (l : List ByteArray) : txt p (ls ++ [l]) = txt p ls ++ nl (jnB l) := by
  unfold txt
  rw [List.foldl_append]
  rfl
theorem take_map {α : Type} {l : List α} {i : Nat} {r : α} (h : l[i]? = some r) (f : α → List ByteArray) : (l.take (i + 1)).map f = (l.take i).map f ++ [f r] := by
  rw [List.take_add_one, h, Option.toList_some, List.map_append]
  rfl
theorem now_j (x y : Int) : ByteArray.mk #[110, 111, 119, 32] ++ numB x ++ ByteArray.mk #[32, 108, 97, 115, 116, 32] ++ numB y ++ ByteArray.mk #[10] = nl (jnB (nowL x y)) := by
  have k1 := jn_first [110, 111, 119] (numB x)
  have k2 := jn_two' (L := [bs [110, 111, 119], numB x]) (by simp) [108, 97, 115, 116] (numB y)
  rw [show ByteArray.mk #[110, 111, 119, 32] = bs ([110, 111, 119] ++ [32]) from rfl, show ByteArray.mk #[32, 108, 97, 115, 116, 32] = bs ([32] ++ [108, 97, 115, 116] ++ [32]) from rfl, k1, k2]
  rfl
noncomputable def agL (x : Ag) : List ByteArray := [bs [97, 103, 101, 110, 116], numB x.id, bs [116, 111, 116, 97, 108], vecT x.tot.1, bs [102, 114, 101, 101], vecT x.fre.1]
theorem ag_j (x : Ag) : ByteArray.mk #[97, 103, 101, 110, 116, 32] ++ numB x.id ++ ByteArray.mk #[32, 116, 111, 116, 97, 108, 32] ++ vecT x.tot.1 ++ ByteArray.mk #[32, 102, 114, 101, 101, 32] ++ vecT x.fre.1 = jnB (agL x) := by
  have k0 := jn_first [97, 103, 101, 110, 116] (numB x.id)
  have k1 := jn_two' (L := [bs [97, 103, 101, 110, 116], numB x.id]) (by simp) [116, 111, 116, 97, 108] (vecT x.tot.1)
  have k2 := jn_two' (L := [bs [97, 103, 101, 110, 116], numB x.id] ++ [bs [116, 111, 116, 97, 108], vecT x.tot.1]) (by simp) [102, 114, 101, 101] (vecT x.fre.1)
  rw [show ByteArray.mk #[97, 103, 101, 110, 116, 32] = bs ([97, 103, 101, 110, 116] ++ [32]) from rfl, show ByteArray.mk #[32, 116, 111, 116, 97, 108, 32] = bs ([32] ++ [116, 111, 116, 97, 108] ++ [32]) from rfl, show ByteArray.mk #[32, 102, 114, 101, 101, 32] = bs ([32] ++ [102, 114, 101, 101] ++ [32]) from rfl, k0, k1, k2]
  rfl
theorem ag_s (s : ByteArray) (x : Ag) : s ++ ByteArray.mk #[97, 103, 101, 110, 116, 32] ++ numB x.id ++ ByteArray.mk #[32, 116, 111, 116, 97, 108, 32] ++ vecT x.tot.1 ++ ByteArray.mk #[32, 102, 114, 101, 101, 32] ++ vecT x.fre.1 ++ ByteArray.mk #[10] = s ++ nl (jnB (agL x)) := by
  rw [← ag_j]
  show _ = s ++ (_ ++ ByteArray.mk #[10])
  simp only [ByteArray.append_assoc]
noncomputable def ofB (x : Of) : List ByteArray := [bs [111, 102, 102, 101, 114], numB x.id, bs [102, 114, 97, 109, 101], numB x.fr, bs [97, 103, 101, 110, 116], numB x.ag, vecT x.v.1]
noncomputable def ofL (x : Of) : List ByteArray := ofB x ++ (if (x.til != 0) = true then [bs [117, 110, 116, 105, 108], numB x.til] else [])
theorem of_j (x : Of) : ByteArray.mk #[111, 102, 102, 101, 114, 32] ++ numB x.id ++ ByteArray.mk #[32, 102, 114, 97, 109, 101, 32] ++ numB x.fr ++ ByteArray.mk #[32, 97, 103, 101, 110, 116, 32] ++ numB x.ag ++ ByteArray.mk #[32] ++ vecT x.v.1 = jnB (ofB x) := by
  have k0 := jn_first [111, 102, 102, 101, 114] (numB x.id)
  have k1 := jn_two' (L := [bs [111, 102, 102, 101, 114], numB x.id]) (by simp) [102, 114, 97, 109, 101] (numB x.fr)
  have k2 := jn_two' (L := [bs [111, 102, 102, 101, 114], numB x.id] ++ [bs [102, 114, 97, 109, 101], numB x.fr]) (by simp) [97, 103, 101, 110, 116] (numB x.ag)
  have k3 := jn_y (L := [bs [111, 102, 102, 101, 114], numB x.id] ++ [bs [102, 114, 97, 109, 101], numB x.fr] ++ [bs [97, 103, 101, 110, 116], numB x.ag]) (by simp) (vecT x.v.1)
  rw [show ByteArray.mk #[111, 102, 102, 101, 114, 32] = bs ([111, 102, 102, 101, 114] ++ [32]) from rfl, show ByteArray.mk #[32, 102, 114, 97, 109, 101, 32] = bs ([32] ++ [102, 114, 97, 109, 101] ++ [32]) from rfl, show ByteArray.mk #[32, 97, 103, 101, 110, 116, 32] = bs ([32] ++ [97, 103, 101, 110, 116] ++ [32]) from rfl, show ByteArray.mk #[32] = bs [32] from rfl, k0, k1, k2, k3]
  rfl
theorem of_u (x : Of) : ByteArray.mk #[111, 102, 102, 101, 114, 32] ++ numB x.id ++ ByteArray.mk #[32, 102, 114, 97, 109, 101, 32] ++ numB x.fr ++ ByteArray.mk #[32, 97, 103, 101, 110, 116, 32] ++ numB x.ag ++ ByteArray.mk #[32] ++ vecT x.v.1 ++ ByteArray.mk #[32, 117, 110, 116, 105, 108, 32] ++ numB x.til = jnB (ofB x ++ [bs [117, 110, 116, 105, 108], numB x.til]) := by
  rw [of_j]
  exact jn_two' (by unfold ofB; simp) [117, 110, 116, 105, 108] (numB x.til)
theorem of_s1 (s : ByteArray) (x : Of) (h : (x.til != 0) = true) : s ++ ByteArray.mk #[111, 102, 102, 101, 114, 32] ++ numB x.id ++ ByteArray.mk #[32, 102, 114, 97, 109, 101, 32] ++ numB x.fr ++ ByteArray.mk #[32, 97, 103, 101, 110, 116, 32] ++ numB x.ag ++ ByteArray.mk #[32] ++ vecT x.v.1 ++ ByteArray.mk #[32, 117, 110, 116, 105, 108, 32] ++ numB x.til ++ ByteArray.mk #[10] = s ++ nl (jnB (ofL x)) := by
  unfold ofL
  rw [if_pos h, ← of_u]
  show _ = s ++ (_ ++ ByteArray.mk #[10])
  simp only [ByteArray.append_assoc]
theorem of_s0 (s : ByteArray) (x : Of) (h : (x.til != 0) = false) : s ++ ByteArray.mk #[111, 102, 102, 101, 114, 32] ++ numB x.id ++ ByteArray.mk #[32, 102, 114, 97, 109, 101, 32] ++ numB x.fr ++ ByteArray.mk #[32, 97, 103, 101, 110, 116, 32] ++ numB x.ag ++ ByteArray.mk #[32] ++ vecT x.v.1 ++ ByteArray.mk #[10] = s ++ nl (jnB (ofL x)) := by
  unfold ofL
  rw [if_neg (by rw [h]; decide), List.append_nil, ← of_j]
  show _ = s ++ (_ ++ ByteArray.mk #[10])
  simp only [ByteArray.append_assoc]
noncomputable def tkL (x : Tk) : List ByteArray := [bs [116, 97, 115, 107], numB x.fr, numB x.id, bs [97, 103, 101, 110, 116], numB x.ag, vecT x.v.1]
theorem tk_j (x : Tk) : ByteArray.mk #[116, 97, 115, 107, 32] ++ numB x.fr ++ ByteArray.mk #[32] ++ numB x.id ++ ByteArray.mk #[32, 97, 103, 101, 110, 116, 32] ++ numB x.ag ++ ByteArray.mk #[32] ++ vecT x.v.1 = jnB (tkL x) := by
  have k0 := jn_first [116, 97, 115, 107] (numB x.fr)
  have k1 := jn_y (L := [bs [116, 97, 115, 107], numB x.fr]) (by simp) (numB x.id)
  have k2 := jn_two' (L := [bs [116, 97, 115, 107], numB x.fr] ++ [numB x.id]) (by simp) [97, 103, 101, 110, 116] (numB x.ag)
  have k3 := jn_y (L := [bs [116, 97, 115, 107], numB x.fr] ++ [numB x.id] ++ [bs [97, 103, 101, 110, 116], numB x.ag]) (by simp) (vecT x.v.1)
  rw [show ByteArray.mk #[116, 97, 115, 107, 32] = bs ([116, 97, 115, 107] ++ [32]) from rfl, show ByteArray.mk #[32] = bs [32] from rfl, show ByteArray.mk #[32, 97, 103, 101, 110, 116, 32] = bs ([32] ++ [97, 103, 101, 110, 116] ++ [32]) from rfl, k0, k1, k2, k3]
  rfl
theorem tk_s (s : ByteArray) (x : Tk) : s ++ ByteArray.mk #[116, 97, 115, 107, 32] ++ numB x.fr ++ ByteArray.mk #[32] ++ numB x.id ++ ByteArray.mk #[32, 97, 103, 101, 110, 116, 32] ++ numB x.ag ++ ByteArray.mk #[32] ++ vecT x.v.1 ++ ByteArray.mk #[10] = s ++ nl (jnB (tkL x)) := by
  rw [← tk_j]
  show _ = s ++ (_ ++ ByteArray.mk #[10])
  simp only [ByteArray.append_assoc]
noncomputable def fiL (x : Fi) : List ByteArray := [bs [102, 105, 108, 116, 101, 114], numB x.fr, bs [97, 103, 101, 110, 116], numB x.ag, bs [117, 110, 116, 105, 108], numB x.til, vecT x.v.1]
theorem fi_j (x : Fi) : ByteArray.mk #[102, 105, 108, 116, 101, 114, 32] ++ numB x.fr ++ ByteArray.mk #[32, 97, 103, 101, 110, 116, 32] ++ numB x.ag ++ ByteArray.mk #[32, 117, 110, 116, 105, 108, 32] ++ numB x.til ++ ByteArray.mk #[32] ++ vecT x.v.1 = jnB (fiL x) := by
  have k0 := jn_first [102, 105, 108, 116, 101, 114] (numB x.fr)
  have k1 := jn_two' (L := [bs [102, 105, 108, 116, 101, 114], numB x.fr]) (by simp) [97, 103, 101, 110, 116] (numB x.ag)
  have k2 := jn_two' (L := [bs [102, 105, 108, 116, 101, 114], numB x.fr] ++ [bs [97, 103, 101, 110, 116], numB x.ag]) (by simp) [117, 110, 116, 105, 108] (numB x.til)
  have k3 := jn_y (L := [bs [102, 105, 108, 116, 101, 114], numB x.fr] ++ [bs [97, 103, 101, 110, 116], numB x.ag] ++ [bs [117, 110, 116, 105, 108], numB x.til]) (by simp) (vecT x.v.1)
  rw [show ByteArray.mk #[102, 105, 108, 116, 101, 114, 32] = bs ([102, 105, 108, 116, 101, 114] ++ [32]) from rfl, show ByteArray.mk #[32, 97, 103, 101, 110, 116, 32] = bs ([32] ++ [97, 103, 101, 110, 116] ++ [32]) from rfl, show ByteArray.mk #[32, 117, 110, 116, 105, 108, 32] = bs ([32] ++ [117, 110, 116, 105, 108] ++ [32]) from rfl, show ByteArray.mk #[32] = bs [32] from rfl, k0, k1, k2, k3]
  rfl
theorem fi_s (s : ByteArray) (x : Fi) : s ++ ByteArray.mk #[102, 105, 108, 116, 101, 114, 32] ++ numB x.fr ++ ByteArray.mk #[32, 97, 103, 101, 110, 116, 32] ++ numB x.ag ++ ByteArray.mk #[32, 117, 110, 116, 105, 108, 32] ++ numB x.til ++ ByteArray.mk #[32] ++ vecT x.v.1 ++ ByteArray.mk #[10] = s ++ nl (jnB (fiL x)) := by
  rw [← fi_j]
  show _ = s ++ (_ ++ ByteArray.mk #[10])
  simp only [ByteArray.append_assoc]
noncomputable def bk0 (b : Bk) : ByteArray := nl (jnB (nowL b.now b.last))
noncomputable def bk1 (b : Bk) : ByteArray := txt (bk0 b) (b.fs.map frL)
noncomputable def bk2 (b : Bk) : ByteArray := txt (bk1 b) (b.ags.map agL)
noncomputable def bk3 (b : Bk) : ByteArray := txt (bk2 b) (b.os.map ofL)
noncomputable def bk4 (b : Bk) : ByteArray := txt (bk3 b) (b.ts.map tkL)
noncomputable def bkT (b : Bk) : ByteArray := txt (bk4 b) (b.fis.map fiL)
theorem ag_z {x : Ag} (h0 : I64 x.id) : (jnB (agL x)).size ≤ 600000 := by
  have hz := jnB_size (agL x)
  have z0 := num_len h0
  have v0 := vec_size x.tot.1
  have v1 := vec_size x.fre.1
  refine Nat.le_trans hz ?_
  unfold agL
  simp [bs_size]
  omega
theorem of_z {x : Of} (h0 : I64 x.id) (h1 : I64 x.fr) (h2 : I64 x.ag) (h3 : I64 x.til) : (jnB (ofL x)).size ≤ 600000 := by
  have hz := jnB_size (ofL x)
  have z0 := num_len h0
  have z1 := num_len h1
  have z2 := num_len h2
  have z3 := num_len h3
  have v0 := vec_size x.v.1
  refine Nat.le_trans hz ?_
  unfold ofL ofB
  split <;> simp [bs_size] <;> omega
theorem tk_z {x : Tk} (h0 : I64 x.fr) (h1 : I64 x.id) (h2 : I64 x.ag) : (jnB (tkL x)).size ≤ 600000 := by
  have hz := jnB_size (tkL x)
  have z0 := num_len h0
  have z1 := num_len h1
  have z2 := num_len h2
  have v0 := vec_size x.v.1
  refine Nat.le_trans hz ?_
  unfold tkL
  simp [bs_size]
  omega
theorem fi_z {x : Fi} (h0 : I64 x.fr) (h1 : I64 x.ag) (h2 : I64 x.til) : (jnB (fiL x)).size ≤ 600000 := by
  have hz := jnB_size (fiL x)
  have z0 := num_len h0
  have z1 := num_len h1
  have z2 := num_len h2
  have v0 := vec_size x.v.1
  refine Nat.le_trans hz ?_
  unfold fiL
  simp [bs_size]
  omega
theorem fr_z {x : Fr} (h : FrI x) : (jnB (frL x)).size ≤ 600000 := by
  have hz := jnB_size (frL x)
  have z0 := num_len h.id
  have z1 := num_len h.role
  have z2 := num_len h.weight
  have z3 := num_len h.til
  refine Nat.le_trans hz ?_
  unfold frL frB
  split <;> split <;> simp [bs_size] <;> omega
theorem nl_size (s : ByteArray) : (nl s).size = s.size + 1 := by
  unfold nl
  rw [ap_size, bs_size]
  rfl
end Go.Vc.Q

/- Tell: the document's book. -/
set_option maxRecDepth 20000
set_option maxHeartbeats 4000000
set_option linter.unusedVariables false
namespace Go.Vc.Q
open Go Go.Vc Go.Vc.V Go.RowKit Go.Proofs Vcq

variable {w W W' W1 : World} {gs ds : List Nat} {n : Int} {a : Option Addr} {ln lc c : Nat} {L : List ByteArray}
theorem at_less {n1 n2 : Nat} (h : At w [n1, n2] W) : At w [n1] W := ⟨h.chg, fun g hg => h.under g (by simp at hg ⊢; exact .inl hg)⟩
theorem c15 {b : Bk} {s1 s2 s3 s4 s5 : Sl} {b0 b1 b2 b3 b4 b5 b6 b7 b8 : Int} (hB : BkR w b s1 s2 s3 s4 s5) : Ret Tryd.prog 15 #[.agg #[.int .i64 b0, .int .i64 b1, .int .i64 b2, .int .i64 b3, .int .i64 b4, .int .i64 b5, .int .i64 b6, .int .i64 b7, .int .i64 b8, .int .i64 b.now, .int .i64 b.last, .slice s1.1 s1.2.1 s1.2.2, .slice s2.1 s2.2.1 s2.2.2, .slice s3.1 s3.2.1 s3.2.2, .slice s4.1 s4.2.1 s4.2.2, .slice s5.1 s5.2.1 s5.2.2]] w (.string (bkT b)) := by
  intro R h
  refine f15_calls _ _ _ _ _ _ _ _ _ _ _ _ _ _ _ _ _ _ _ _ _ _ _ _ _ _ w R ?_
  unfold f15_vc
  have y1 := num_len hB.now
  have y2 := num_len hB.last
  have l1 := hB.fs.sl.1
  have m1 := hB.fs.few
  have l2 := hB.ags.sl.1
  have m2 := hB.ags.few
  have l3 := hB.os.sl.1
  have m3 := hB.os.few
  have l4 := hB.ts.sl.1
  have m4 := hB.ts.few
  have l5 := hB.fis.sl.1
  have m5 := hB.fis.few
  refine fun n1 hn1 => go_below_too (At.refl w) fun w2 hA2 _ => ?_
  refine at_callb hA2 (c20 _ hB.now w2) fun w4 hA4 hk4 _ => ⟨_, rfl, hk4, _, gives_sadd (by simp only [szm, List.size_toArray, List.length_cons, List.length_nil]; omega), _, gives_sadd (by simp only [ap_size, szm, List.size_toArray, List.length_cons, List.length_nil]; omega), ?_⟩
  refine at_callb hA4 (c20 _ hB.last w4) fun w9 hA9 hk9 _ => ⟨_, rfl, hk9, _, gives_sadd (by simp only [ap_size, szm, List.size_toArray, List.length_cons, List.length_nil]; omega), _, gives_sadd (by simp only [ap_size, szm, List.size_toArray, List.length_cons, List.length_nil]; omega), ?_⟩
  rw [now_j]
  have q0 : (bk0 b).size ≤ 1000 := by
    have := now_size hB.now hB.last
    unfold bk0
    rw [nl_size]
    omega
  refine ⟨fun s W => At w [n1] W ∧ ∃ i : Nat, s.2.1 = i ∧ i ≤ s1.2.1 ∧ s.1 = txt (bk0 b) ((b.fs.take i).map frL) ∧ s.1.size ≤ 1000 + i * 700000, fun s _ => s1.2.1 - s.2.1.toNat, ⟨hA9, 0, rfl, Nat.zero_le _, rfl, Nat.le_trans q0 (by omega)⟩, ?_⟩
  rintro sk1 x1 wk1 ⟨hA1, i, hi, hil, hs, hz⟩
  simp only at hi hs hz
  subst hi hs
  refine brD (fun hlt => ?_) fun hge => ?_
  · have hw : IntKind.i64.wrap ((i : Int) + 1) = ((i + 1 : Nat) : Int) := by rw [wrap_i64 (by omega) (by omega)]; omega
    obtain ⟨r, hr⟩ : ∃ r, b.fs[i]? = some r := ⟨_, List.getElem?_eq_getElem (by omega)⟩
    have hF := hB.fs.low frOk.low hA1.below.below
    have hI := hB.fs.ok r (List.mem_of_getElem? hr)
    obtain ⟨ad, g1, el, _⟩ := elt_at (P := Tryd.prog) (k := .i64) (t := 36) hF.sl hr (e := 78) (by kernel_rfl) (by kernel_rfl)
    rw [hw]
    have zr := fr_z hI
    have zn := nl_size (jnB (frL r))
    exact ⟨ad, g1, _, _, _, _, _, _, _, el.agg 7 (by kernel_rfl) (by kernel_rfl) (by simp) no_ds, at_callb hA1 (c29 r hI _) fun w27 hA hk _ => ⟨_, rfl, hk, _, gives_sadd (by omega), ⟨hA, i + 1, rfl, by omega, by rw [take_map hr, txt_snoc], by simp only [ap_size]; omega⟩, by simp only; omega⟩⟩
  rw [List.take_of_length_le (show b.fs.length ≤ i by omega)] at hz ⊢
  have q1 : (bk1 b).size ≤ 10000000000000 := by
    unfold bk1
    omega
  refine ⟨fun s W => At w [n1] W ∧ ∃ i : Nat, s.2.1 = i ∧ i ≤ s2.2.1 ∧ s.1 = txt (bk1 b) ((b.ags.take i).map agL) ∧ s.1.size ≤ 10000000000000 + i * 700000, fun s _ => s2.2.1 - s.2.1.toNat, ⟨hA1, 0, rfl, Nat.zero_le _, rfl, Nat.le_trans q1 (by omega)⟩, ?_⟩
  rintro sk2 x2 wk2 ⟨hA2, i, hi, hil, hs, hz⟩
  simp only at hi hs hz
  subst hi hs
  refine brD (fun hlt => ?_) fun hge => ?_
  · have hw : IntKind.i64.wrap ((i : Int) + 1) = ((i + 1 : Nat) : Int) := by rw [wrap_i64 (by omega) (by omega)]; omega
    obtain ⟨r, hr⟩ : ∃ r, b.ags[i]? = some r := ⟨_, List.getElem?_eq_getElem (by omega)⟩
    have hF := hB.ags.low agOk.low hA2.below.below
    have hI := hB.ags.ok r (List.mem_of_getElem? hr)
    obtain ⟨ad, g1, el, _⟩ := elt_at (P := Tryd.prog) (k := .i64) (t := 37) hF.sl hr (e := 59) (by kernel_rfl) (by kernel_rfl)
    rw [hw]
    have z0 := num_len hI.1
    have z1 := vec_size r.tot.1
    have z2 := vec_size r.fre.1
    have zr := ag_z (x := r) hI.1
    have zn := nl_size (jnB (agL r))
    refine ⟨ad, g1, _, _, _, _, _, _, _, el.agg 3 (by kernel_rfl) (by kernel_rfl) (by simp) no_ds, fun n2 hn2 => ⟨_, gives_sadd (by simp only [szm, List.size_toArray, List.length_cons, List.length_nil]; omega), go_evo hA2 (gs' := [n1, n2]) (fun d hd => by simp at hd; subst hd; exact Nat.le_trans hA2.size hn2) fun v0 hV0 => ?_⟩⟩
    refine at_callb hV0 (c20 _ hI.1 v0) fun v1 hV1 hk1 _ => ⟨_, rfl, hk1, _, gives_sadd (by simp only [ap_size, szm, List.size_toArray, List.length_cons, List.length_nil]; omega), _, gives_sadd (by simp only [ap_size, szm, List.size_toArray, List.length_cons, List.length_nil]; omega), ?_⟩
    refine at_callb hV1 (c30 v1 (hI.2.1.low hV1.below.below)) fun v2 hV2 hk2 _ => ⟨_, rfl, hk2, _, gives_sadd (by simp only [ap_size, szm, List.size_toArray, List.length_cons, List.length_nil]; omega), _, gives_sadd (by simp only [ap_size, szm, List.size_toArray, List.length_cons, List.length_nil]; omega), ?_⟩
    refine at_callb hV2 (c30 v2 (hI.2.2.low hV2.below.below)) fun v3 hV3 hk3 _ => ⟨_, rfl, hk3, _, gives_sadd (by simp only [ap_size, szm, List.size_toArray, List.length_cons, List.length_nil]; omega), _, gives_sadd (by simp only [ap_size, szm, List.size_toArray, List.length_cons, List.length_nil]; omega), ⟨at_less hV3, i + 1, rfl, by omega, ?_, ?_⟩, by simp only; omega⟩
    · rw [take_map hr, txt_snoc]
      exact ag_s _ r
    · simp only
      rw [ag_s _ r, ap_size]
      omega
  rw [List.take_of_length_le (show b.ags.length ≤ i by omega)] at hz ⊢
  have q2 : (bk2 b).size ≤ 20000000000000 := by
    unfold bk2
    omega
  refine ⟨fun s W => At w [n1] W ∧ ∃ i : Nat, s.2.1 = i ∧ i ≤ s3.2.1 ∧ s.1 = txt (bk2 b) ((b.os.take i).map ofL) ∧ s.1.size ≤ 20000000000000 + i * 700000, fun s _ => s3.2.1 - s.2.1.toNat, ⟨hA2, 0, rfl, Nat.zero_le _, rfl, Nat.le_trans q2 (by omega)⟩, ?_⟩
  rintro sk3 x3 wk3 ⟨hA3, i, hi, hil, hs, hz⟩
  simp only at hi hs hz
  subst hi hs
  refine brD (fun hlt => ?_) fun hge => ?_
  · have hw : IntKind.i64.wrap ((i : Int) + 1) = ((i + 1 : Nat) : Int) := by rw [wrap_i64 (by omega) (by omega)]; omega
    obtain ⟨r, hr⟩ : ∃ r, b.os[i]? = some r := ⟨_, List.getElem?_eq_getElem (by omega)⟩
    have hF := hB.os.low ofOk.low hA3.below.below
    have hI := hB.os.ok r (List.mem_of_getElem? hr)
    obtain ⟨ad, g1, el, _⟩ := elt_at (P := Tryd.prog) (k := .i64) (t := 38) hF.sl hr (e := 61) (by kernel_rfl) (by kernel_rfl)
    rw [hw]
    have z0 := num_len hI.1.1
    have z1 := num_len hI.1.2.1
    have z2 := num_len hI.1.2.2.1
    have z3 := vec_size r.v.1
    have z9 := num_len hI.1.2.2.2
    have zr := of_z (x := r) hI.1.1 hI.1.2.1 hI.1.2.2.1 hI.1.2.2.2
    have zn := nl_size (jnB (ofL r))
    refine ⟨ad, g1, _, _, _, _, _, _, _, el.agg 5 (by kernel_rfl) (by kernel_rfl) (by simp) no_ds, fun n2 hn2 => ⟨_, gives_sadd (by simp only [szm, List.size_toArray, List.length_cons, List.length_nil]; omega), go_evo hA3 (gs' := [n1, n2]) (fun d hd => by simp at hd; subst hd; exact Nat.le_trans hA3.size hn2) fun v0 hV0 => ?_⟩⟩
    refine at_callb hV0 (c20 _ hI.1.1 v0) fun v1 hV1 hk1 _ => ⟨_, rfl, hk1, _, gives_sadd (by simp only [ap_size, szm, List.size_toArray, List.length_cons, List.length_nil]; omega), _, gives_sadd (by simp only [ap_size, szm, List.size_toArray, List.length_cons, List.length_nil]; omega), ?_⟩
    refine at_callb hV1 (c20 _ hI.1.2.1 v1) fun v2 hV2 hk2 _ => ⟨_, rfl, hk2, _, gives_sadd (by simp only [ap_size, szm, List.size_toArray, List.length_cons, List.length_nil]; omega), _, gives_sadd (by simp only [ap_size, szm, List.size_toArray, List.length_cons, List.length_nil]; omega), ?_⟩
    refine at_callb hV2 (c20 _ hI.1.2.2.1 v2) fun v3 hV3 hk3 _ => ⟨_, rfl, hk3, _, gives_sadd (by simp only [ap_size, szm, List.size_toArray, List.length_cons, List.length_nil]; omega), _, gives_sadd (by simp only [ap_size, szm, List.size_toArray, List.length_cons, List.length_nil]; omega), ?_⟩
    refine at_callb hV3 (c30 v3 (hI.2.low hV3.below.below)) fun v4 hV4 hk4 _ => ⟨_, rfl, hk4, _, gives_sadd (by simp only [ap_size, szm, List.size_toArray, List.length_cons, List.length_nil]; omega), ?_⟩
    refine brB (fun hu => ⟨_, gives_sadd (by simp only [ap_size, szm, List.size_toArray, List.length_cons, List.length_nil]; omega), at_callb hV4 (c20 _ hI.1.2.2.2 v4) fun v9 hV9 hk9 _ => ⟨_, rfl, hk9, _, gives_sadd (by simp only [ap_size, szm, List.size_toArray, List.length_cons, List.length_nil]; omega), _, gives_sadd (by simp only [ap_size, szm, List.size_toArray, List.length_cons, List.length_nil]; omega), ⟨at_less hV9, i + 1, rfl, by omega, ?_, ?_⟩, by simp only; omega⟩⟩) fun hu => ⟨_, gives_sadd (by simp only [ap_size, szm, List.size_toArray, List.length_cons, List.length_nil]; omega), ⟨at_less hV4, i + 1, rfl, by omega, ?_, ?_⟩, by simp only; omega⟩
    · rw [take_map hr, txt_snoc]
      exact of_s1 _ r hu
    · simp only
      rw [of_s1 _ r hu, ap_size]
      omega
    · rw [take_map hr, txt_snoc]
      exact of_s0 _ r hu
    · simp only
      rw [of_s0 _ r hu, ap_size]
      omega
  rw [List.take_of_length_le (show b.os.length ≤ i by omega)] at hz ⊢
  have q3 : (bk3 b).size ≤ 30000000000000 := by
    unfold bk3
    omega
  refine ⟨fun s W => At w [n1] W ∧ ∃ i : Nat, s.2.1 = i ∧ i ≤ s4.2.1 ∧ s.1 = txt (bk3 b) ((b.ts.take i).map tkL) ∧ s.1.size ≤ 30000000000000 + i * 700000, fun s _ => s4.2.1 - s.2.1.toNat, ⟨hA3, 0, rfl, Nat.zero_le _, rfl, Nat.le_trans q3 (by omega)⟩, ?_⟩
  rintro sk4 x4 wk4 ⟨hA4, i, hi, hil, hs, hz⟩
  simp only at hi hs hz
  subst hi hs
  refine brD (fun hlt => ?_) fun hge => ?_
  · have hw : IntKind.i64.wrap ((i : Int) + 1) = ((i + 1 : Nat) : Int) := by rw [wrap_i64 (by omega) (by omega)]; omega
    obtain ⟨r, hr⟩ : ∃ r, b.ts[i]? = some r := ⟨_, List.getElem?_eq_getElem (by omega)⟩
    have hF := hB.ts.low tkOk.low hA4.below.below
    have hI := hB.ts.ok r (List.mem_of_getElem? hr)
    obtain ⟨ad, g1, el, _⟩ := elt_at (P := Tryd.prog) (k := .i64) (t := 39) hF.sl hr (e := 63) (by kernel_rfl) (by kernel_rfl)
    rw [hw]
    have z0 := num_len hI.1.1
    have z1 := num_len hI.1.2.1
    have z2 := num_len hI.1.2.2
    have z3 := vec_size r.v.1
    have zr := tk_z (x := r) hI.1.1 hI.1.2.1 hI.1.2.2
    have zn := nl_size (jnB (tkL r))
    refine ⟨ad, g1, _, _, _, _, _, _, el.agg 4 (by kernel_rfl) (by kernel_rfl) (by simp) no_ds, fun n2 hn2 => ⟨_, gives_sadd (by simp only [szm, List.size_toArray, List.length_cons, List.length_nil]; omega), go_evo hA4 (gs' := [n1, n2]) (fun d hd => by simp at hd; subst hd; exact Nat.le_trans hA4.size hn2) fun v0 hV0 => ?_⟩⟩
    refine at_callb hV0 (c20 _ hI.1.1 v0) fun v1 hV1 hk1 _ => ⟨_, rfl, hk1, _, gives_sadd (by simp only [ap_size, szm, List.size_toArray, List.length_cons, List.length_nil]; omega), _, gives_sadd (by simp only [ap_size, szm, List.size_toArray, List.length_cons, List.length_nil]; omega), ?_⟩
    refine at_callb hV1 (c20 _ hI.1.2.1 v1) fun v2 hV2 hk2 _ => ⟨_, rfl, hk2, _, gives_sadd (by simp only [ap_size, szm, List.size_toArray, List.length_cons, List.length_nil]; omega), _, gives_sadd (by simp only [ap_size, szm, List.size_toArray, List.length_cons, List.length_nil]; omega), ?_⟩
    refine at_callb hV2 (c20 _ hI.1.2.2 v2) fun v3 hV3 hk3 _ => ⟨_, rfl, hk3, _, gives_sadd (by simp only [ap_size, szm, List.size_toArray, List.length_cons, List.length_nil]; omega), _, gives_sadd (by simp only [ap_size, szm, List.size_toArray, List.length_cons, List.length_nil]; omega), ?_⟩
    refine at_callb hV3 (c30 v3 (hI.2.low hV3.below.below)) fun v4 hV4 hk4 _ => ⟨_, rfl, hk4, _, gives_sadd (by simp only [ap_size, szm, List.size_toArray, List.length_cons, List.length_nil]; omega), _, gives_sadd (by simp only [ap_size, szm, List.size_toArray, List.length_cons, List.length_nil]; omega), ⟨at_less hV4, i + 1, rfl, by omega, ?_, ?_⟩, by simp only; omega⟩
    · rw [take_map hr, txt_snoc]
      exact tk_s _ r
    · simp only
      rw [tk_s _ r, ap_size]
      omega
  rw [List.take_of_length_le (show b.ts.length ≤ i by omega)] at hz ⊢
  have q4 : (bk4 b).size ≤ 40000000000000 := by
    unfold bk4
    omega
  refine ⟨fun s W => At w [n1] W ∧ ∃ i : Nat, s.2.1 = i ∧ i ≤ s5.2.1 ∧ s.1 = txt (bk4 b) ((b.fis.take i).map fiL) ∧ s.1.size ≤ 40000000000000 + i * 700000, fun s _ => s5.2.1 - s.2.1.toNat, ⟨hA4, 0, rfl, Nat.zero_le _, rfl, Nat.le_trans q4 (by omega)⟩, ?_⟩
  rintro sk5 x5 wk5 ⟨hA5, i, hi, hil, hs, hz⟩
  simp only at hi hs hz
  subst hi hs
  refine brD (fun hlt => ?_) fun hge => ?_
  · have hw : IntKind.i64.wrap ((i : Int) + 1) = ((i + 1 : Nat) : Int) := by rw [wrap_i64 (by omega) (by omega)]; omega
    obtain ⟨r, hr⟩ : ∃ r, b.fis[i]? = some r := ⟨_, List.getElem?_eq_getElem (by omega)⟩
    have hF := hB.fis.low fiOk.low hA5.below.below
    have hI := hB.fis.ok r (List.mem_of_getElem? hr)
    obtain ⟨ad, g1, el, _⟩ := elt_at (P := Tryd.prog) (k := .i64) (t := 40) hF.sl hr (e := 65) (by kernel_rfl) (by kernel_rfl)
    rw [hw]
    have z0 := num_len hI.1.1
    have z1 := num_len hI.1.2.1
    have z2 := num_len hI.1.2.2
    have z3 := vec_size r.v.1
    have zr := fi_z (x := r) hI.1.1 hI.1.2.1 hI.1.2.2
    have zn := nl_size (jnB (fiL r))
    refine ⟨ad, g1, _, _, _, _, _, _, el.agg 4 (by kernel_rfl) (by kernel_rfl) (by simp) no_ds, fun n2 hn2 => ⟨_, gives_sadd (by simp only [szm, List.size_toArray, List.length_cons, List.length_nil]; omega), go_evo hA5 (gs' := [n1, n2]) (fun d hd => by simp at hd; subst hd; exact Nat.le_trans hA5.size hn2) fun v0 hV0 => ?_⟩⟩
    refine at_callb hV0 (c20 _ hI.1.1 v0) fun v1 hV1 hk1 _ => ⟨_, rfl, hk1, _, gives_sadd (by simp only [ap_size, szm, List.size_toArray, List.length_cons, List.length_nil]; omega), _, gives_sadd (by simp only [ap_size, szm, List.size_toArray, List.length_cons, List.length_nil]; omega), ?_⟩
    refine at_callb hV1 (c20 _ hI.1.2.1 v1) fun v2 hV2 hk2 _ => ⟨_, rfl, hk2, _, gives_sadd (by simp only [ap_size, szm, List.size_toArray, List.length_cons, List.length_nil]; omega), _, gives_sadd (by simp only [ap_size, szm, List.size_toArray, List.length_cons, List.length_nil]; omega), ?_⟩
    refine at_callb hV2 (c20 _ hI.1.2.2 v2) fun v3 hV3 hk3 _ => ⟨_, rfl, hk3, _, gives_sadd (by simp only [ap_size, szm, List.size_toArray, List.length_cons, List.length_nil]; omega), _, gives_sadd (by simp only [ap_size, szm, List.size_toArray, List.length_cons, List.length_nil]; omega), ?_⟩
    refine at_callb hV3 (c30 v3 (hI.2.low hV3.below.below)) fun v4 hV4 hk4 _ => ⟨_, rfl, hk4, _, gives_sadd (by simp only [ap_size, szm, List.size_toArray, List.length_cons, List.length_nil]; omega), _, gives_sadd (by simp only [ap_size, szm, List.size_toArray, List.length_cons, List.length_nil]; omega), ⟨at_less hV4, i + 1, rfl, by omega, ?_, ?_⟩, by simp only; omega⟩
    · rw [take_map hr, txt_snoc]
      exact fi_s _ r
    · simp only
      rw [fi_s _ r, ap_size]
      omega
  rw [List.take_of_length_le (show b.fis.length ≤ i by omega)] at hz ⊢
  have q5 : (bkT b).size ≤ 50000000000000 := by
    unfold bkT
    omega
  exact leaf h hA5 rfl
end Go.Vc.Q

/- Tell: a book. -/
set_option maxRecDepth 20000
set_option maxHeartbeats 4000000
set_option linter.unusedVariables false
namespace Go.Vc.Q
open Go Go.Vc Go.Vc.V Go.RowKit Go.Proofs Vcq

variable {w W W' W1 : World} {gs ds : List Nat} {n : Int} {a : Option Addr} {ln lc c p : Nat} {s : ByteArray} {L : List ByteArray}
theorem Bd.keeps (h : Bd w W gs p s) (hb : Bel W W') : Keeps gs W W' := h.at_.keeps hb
theorem bd25 {x : Int} {K : Ending → World → Prop} (h : Bd w W gs p s) (hT : TabQ w) (hn : I64 x) (hK : ∀ W', Bd w W' gs p s → Keeps gs W W' → Below W.heap.size W W' → K (.returned (.string (numB x))) W') : Calls Tryd.prog 25 #[.int .i64 x] W K :=
  at_callb h.at_ (c25 x hn W (hT.low (low_of h.at_))) fun W' hA hk hb => hK W' (h.low hb.below hA) hk hb.below
theorem bd27 {v : Vs} {K : Ending → World → Prop} (h : Bd w W gs p s) (hT : TabQ w) (hv : VsR w v) (hK : ∀ W', Bd w W' gs p s → Keeps gs W W' → Below W.heap.size W W' → K (.returned (.string (vecT v.1))) W') : Calls Tryd.prog 27 #[.slice v.2.1 v.2.2.1 v.2.2.2] W K :=
  at_callW h.at_ (c27 (hT.low (low_of h.at_)) (hv.low (low_of h.at_))) fun W' hA hk hb => hK W' (h.low hb hA) hk hb
theorem bd_box {t te : TypeId} (zc cs : List Value) {zv v : Value} {K : Addr → World → Prop} (hz : pureRun Tryd.prog (zeroValue t) = some zv) (hc : zv.cells = zc.toArray) (hs : cellStore Tryd.prog te zc 0 v = some cs) (hB : Bd w W gs p s)
    (h : ∀ g w', Bd w w' gs p s → w'.heap[g]? = some (.cells cs.toArray t (0, 0)) → K ⟨g, 0, none⟩ w') :
    OpW Tryd.prog (valueS (Instr.alloc t true (.tuple #[]))) W fun q w' => ∃ ad, q = .pointer (some ad) ∧ Keeps gs W w' ∧ OpW Tryd.prog (skipS (Instr.storeAt te (.pointer (some ad)) v)) w' fun _ w'' => Keeps gs w' w'' ∧ K ad w'' := by
  refine opw_allocS zc hz hc hB.at_ fun g w' hg hA' hk hb hblk => ⟨_, rfl, hk, ?_⟩
  have hg' : ∀ x ∈ gs, x < g := fun x hx => by have := hB.at_.under x hx; omega
  have hlt := hB.at_.chg.size
  refine opw_storeF hA' hblk (.inl (by omega)) (fun hx => Nat.lt_irrefl _ (hg' g hx)) hs fun w2 hA2 hk2 hch hb2 => ⟨hk2, h g w2 (hB.low ?_ hA2) hb2⟩
  have hbb := hb.below
  exact ⟨hch.os.trans hbb.os, hch.tape.trans hbb.tape, hch.output.trans hbb.output, Nat.le_trans hbb.size hch.size, fun b hl => (hch.block b (Nat.lt_of_lt_of_le hl hbb.size) (by omega)).trans (hbb.block b hl)⟩
theorem bx_low {g : Nat} {o : Obj} (h : W.heap[g]? = some o) (hb : Below W.heap.size W W') : W'.heap[g]? = some o := (hb.block _ (Array.getElem?_eq_some_iff.1 h).1).trans h
theorem c14 {b : Bk} {s1 s2 s3 s4 s5 : Sl} {b0 b1 b2 b3 b4 b5 b6 b7 b8 : Int} (w : World) (hT : TabQ w) (hB : BkR w b s1 s2 s3 s4 s5) : RetW Tryd.prog 14 #[.agg #[.int .i64 b0, .int .i64 b1, .int .i64 b2, .int .i64 b3, .int .i64 b4, .int .i64 b5, .int .i64 b6, .int .i64 b7, .int .i64 b8, .int .i64 b.now, .int .i64 b.last, .slice s1.1 s1.2.1 s1.2.2, .slice s2.1 s2.2.1 s2.2.2, .slice s3.1 s3.2.1 s3.2.2, .slice s4.1 s4.2.1 s4.2.2, .slice s5.1 s5.2.1 s5.2.2]] w (.string (bkT b)) := by
  intro R h
  refine f14_calls _ _ _ _ _ _ _ _ _ _ _ _ _ _ _ _ _ _ _ _ _ _ _ _ _ _ w R ?_
  unfold f14_vc
  have hz := now_size hB.now hB.last
  have l1 := hB.fs.sl.1
  have m1 := hB.fs.few
  have l2 := hB.ags.sl.1
  have m2 := hB.ags.few
  have l3 := hB.os.sl.1
  have m3 := hB.os.few
  have l4 := hB.ts.sl.1
  have m4 := hB.ts.few
  have l5 := hB.fis.sl.1
  have m5 := hB.fis.few
  refine fun n1 hn1 => go_below_too (at_zro w noB) fun w2 hA2 hb2 => ?_
  refine bd_new hA2 fun w4 hk4 hB4 => ⟨_, rfl, hk4, go_below_too hB4.at_ fun w6 hA6 hb6 => ?_⟩
  have hB6 := hB4.low hb6.below hA6
  refine bd25 hB6 hT hB.now fun w8 hB8 hk8 _ => ⟨_, rfl, hk8, bd25 hB8 hT hB.last fun w11 hB11 hk11 _ => ⟨_, rfl, hk11, ?_⟩⟩
  refine opw_litL (e' := 9) (size := 1) (f := strE) (l := nowL b.now b.last) hB11.at_ rfl (fun _ _ => rfl) (by decide) (by kernel_rfl) fun g w14 _ hA14 hk14 hb14 ho => ⟨_, _, _, rfl, hk14, ?_⟩
  refine at_line (L := nowL b.now b.last) (N := noB) (hB11.low hb14.below hA14) ho (by unfold nowL; simp) (by unfold nowL; simp) (by omega) (by rw [bs_size]; simp) fun w19 hk19 hB19 => ⟨rfl, hk19, ?_⟩
  have es : bs [] ++ nl (jnB (nowL b.now b.last)) = bk0 b := by
    unfold bk0
    apply ba_ext
    simp [bs]
  rw [es] at hB19
  have q0 : (bk0 b).size ≤ 1000 := by
    unfold bk0
    rw [nl_size]
    omega
  refine ⟨fun s W => ∃ i : Nat, s.1 = i ∧ i ≤ s1.2.1 ∧ Bd w W [n1] w2.heap.size (txt (bk0 b) ((b.fs.take i).map frL)) ∧ (txt (bk0 b) ((b.fs.take i).map frL)).size ≤ 1000 + i * 700000, fun s _ => s1.2.1 - s.1.toNat, ⟨0, rfl, Nat.zero_le _, hB19, Nat.le_trans q0 (by omega)⟩, ?_⟩
  rintro x1 W10 ⟨i, hi, hil, hD1, hz1⟩
  simp only at hi
  subst hi
  refine brD (fun hlt => ?_) fun hge => ?_
  · have hw : IntKind.i64.wrap ((i : Int) + 1) = ((i + 1 : Nat) : Int) := by rw [wrap_i64 (by omega) (by omega)]; omega
    obtain ⟨r, hr⟩ : ∃ r, b.fs[i]? = some r := ⟨_, List.getElem?_eq_getElem (by omega)⟩
    have hF := hB.fs.low frOk.low (low_of hD1.at_)
    have hI := hB.fs.ok r (List.mem_of_getElem? hr)
    obtain ⟨ad, g1, el, _⟩ := elt_at (P := Tryd.prog) (k := .i64) (t := 36) hF.sl hr (e := 78) (by kernel_rfl) (by kernel_rfl)
    have zr := fr_z hI
    have zn := nl_size (jnB (frL r))
    have fin : ∀ W', Bd w W' [n1] w2.heap.size (txt (bk0 b) ((b.fs.take i).map frL) ++ nl (jnB (frL r))) → Bd w W' [n1] w2.heap.size (txt (bk0 b) ((b.fs.take (i + 1)).map frL)) ∧ (txt (bk0 b) ((b.fs.take (i + 1)).map frL)).size ≤ 1000 + (i + 1) * 700000 := fun W' hh => by
      rw [take_map hr, txt_snoc]
      exact ⟨hh, by rw [ap_size]; omega⟩
    rw [hw]
    refine ⟨ad, g1, _, _, _, _, _, _, _, el.agg 7 (by kernel_rfl) (by kernel_rfl) (by simp) no_ds, bd_box (zv := .agg #[.int .i64 0, .int .i64 0, .int .i64 0, .bool false, .bool false, .int .i64 0, .int .i64 0]) [.int .i64 0, .int .i64 0, .int .i64 0, .bool false, .bool false, .int .i64 0, .int .i64 0] (frV r) (by kernel_rfl) rfl (by kernel_rfl) hD1 fun g u0 hU0 bx0 => ?_⟩
    refine ⟨_, _, _, _, _, _, _, (elt_cells bx0).agg 7 (by kernel_rfl) (by kernel_rfl) (by simp) no_ds, c26 r hI u0 (hT.low (low_of hU0.at_)) fun a9 c9 u1 hb1 ho1 => ⟨_, _, _, rfl, hU0.keeps hb1, ?_⟩⟩
    have hsz := hU0.at_.chg.size
    have hA1 : At (zro w) [n1] u1 := hU0.at_.call hb1
    have ho : OwnF (zro w) noB [n1] u1 9 1 strE (.slice a9 (frL r).length c9) (frL r) := ⟨ho1.row0, fun k hk => (ho1.mine k hk).elim (fun hh => .inl (Nat.le_trans hsz hh)) fun hh => hh.elim, fun x hx hh => by
      rcases ho1.mine x hh with h2 | h2
      · have := hU0.at_.under x hx
        omega
      · exact h2⟩
    refine at_line (N := noB) (hU0.low hb1.below hA1) ho (by unfold frL frB; simp) (by unfold frL frB; split <;> split <;> simp) (by omega) (by omega) fun W9 hk9 hD9 => ⟨rfl, hk9, ⟨i + 1, rfl, by omega, fin W9 hD9⟩, by simp only; omega⟩
  rw [List.take_of_length_le (show b.fs.length ≤ i by omega)] at hD1 hz1
  have q1 : (bk1 b).size ≤ 10000000000000 := by
    unfold bk1
    omega
  refine ⟨fun s W => ∃ i : Nat, s.1 = i ∧ i ≤ s2.2.1 ∧ Bd w W [n1] w2.heap.size (txt (bk1 b) ((b.ags.take i).map agL)) ∧ (txt (bk1 b) ((b.ags.take i).map agL)).size ≤ 10000000000000 + i * 700000, fun s _ => s2.2.1 - s.1.toNat, ⟨0, rfl, Nat.zero_le _, hD1, Nat.le_trans q1 (by omega)⟩, ?_⟩
  rintro x2 W20 ⟨i, hi, hil, hD2, hz2⟩
  simp only at hi
  subst hi
  refine brD (fun hlt => ?_) fun hge => ?_
  · have hw : IntKind.i64.wrap ((i : Int) + 1) = ((i + 1 : Nat) : Int) := by rw [wrap_i64 (by omega) (by omega)]; omega
    obtain ⟨r, hr⟩ : ∃ r, b.ags[i]? = some r := ⟨_, List.getElem?_eq_getElem (by omega)⟩
    have hF := hB.ags.low agOk.low (low_of hD2.at_)
    have hI := hB.ags.ok r (List.mem_of_getElem? hr)
    obtain ⟨ad, g1, el, _⟩ := elt_at (P := Tryd.prog) (k := .i64) (t := 37) hF.sl hr (e := 59) (by kernel_rfl) (by kernel_rfl)
    have zr := ag_z (x := r) hI.1
    have zn := nl_size (jnB (agL r))
    have fin : ∀ W', Bd w W' [n1] w2.heap.size (txt (bk1 b) ((b.ags.take i).map agL) ++ nl (jnB (agL r))) → Bd w W' [n1] w2.heap.size (txt (bk1 b) ((b.ags.take (i + 1)).map agL)) ∧ (txt (bk1 b) ((b.ags.take (i + 1)).map agL)).size ≤ 10000000000000 + (i + 1) * 700000 := fun W' hh => by
      rw [take_map hr, txt_snoc]
      exact ⟨hh, by rw [ap_size]; omega⟩
    rw [hw]
    refine ⟨ad, g1, _, _, _, _, _, _, _, el.agg 3 (by kernel_rfl) (by kernel_rfl) (by simp) no_ds, bd_box (zv := .agg #[.int .i64 0, .slice none 0 0, .slice none 0 0]) [.int .i64 0, .slice none 0 0, .slice none 0 0] (agV r) (by kernel_rfl) rfl (by kernel_rfl) hD2 fun g u0 hU0 bx0 => ?_⟩
    refine ⟨_, rd_f0 bx0 (by kernel_rfl) nodQ, _, _, _, rd_f 0 bx0 rfl (by kernel_rfl) nodQ, _, _, _, rd_f 1 bx0 rfl (by kernel_rfl) nodQ, go_below_too hU0.at_ fun v0 hV0 hb0 => ?_⟩
    have hU1 := hU0.low hb0.below hV0
    have bx1 := bx_low bx0 hb0.below
    refine bd25 hU1 hT hI.1 fun u2 hU2 hk2 hb2 => ?_
    have bx2 := bx_low bx1 hb2
    refine ⟨_, rfl, hk2, rd_f 1 bx2 rfl (by kernel_rfl) nodQ, rd_f 0 bx2 rfl (by kernel_rfl) nodQ, ?_⟩
    refine bd27 hU2 hT hI.2.1 fun u3 hU3 hk3 hb3 => ?_
    have bx3 := bx_low bx2 hb3
    refine ⟨_, rfl, hk3, rd_f 1 bx3 rfl (by kernel_rfl) nodQ, ?_⟩
    refine bd27 hU3 hT hI.2.2 fun u4 hU4 hk4 hb4 => ?_
    have bx4 := bx_low bx3 hb4
    refine ⟨_, rfl, hk4, ?_⟩
    refine opw_litL (e' := 9) (size := 1) (f := strE) (l := agL r) hU4.at_ rfl (fun _ _ => rfl) (by decide) (by kernel_rfl) fun g9 u9 _ hA9 hk9 hb9 ho => ⟨_, _, _, rfl, hk9, ?_⟩
    refine at_line (L := agL r) (N := noB) (hU4.low hb9.below hA9) ho (by unfold agL; simp) (by unfold agL; simp) (by omega) (by omega) fun W9 hk9 hD9 => ⟨rfl, hk9, ⟨i + 1, rfl, by omega, fin W9 hD9⟩, by simp only; omega⟩
  rw [List.take_of_length_le (show b.ags.length ≤ i by omega)] at hD2 hz2
  have q2 : (bk2 b).size ≤ 20000000000000 := by
    unfold bk2
    omega
  refine ⟨fun s W => ∃ i : Nat, s.1 = i ∧ i ≤ s3.2.1 ∧ Bd w W [n1] w2.heap.size (txt (bk2 b) ((b.os.take i).map ofL)) ∧ (txt (bk2 b) ((b.os.take i).map ofL)).size ≤ 20000000000000 + i * 700000, fun s _ => s3.2.1 - s.1.toNat, ⟨0, rfl, Nat.zero_le _, hD2, Nat.le_trans q2 (by omega)⟩, ?_⟩
  rintro x3 W30 ⟨i, hi, hil, hD3, hz3⟩
  simp only at hi
  subst hi
  refine brD (fun hlt => ?_) fun hge => ?_
  · have hw : IntKind.i64.wrap ((i : Int) + 1) = ((i + 1 : Nat) : Int) := by rw [wrap_i64 (by omega) (by omega)]; omega
    obtain ⟨r, hr⟩ : ∃ r, b.os[i]? = some r := ⟨_, List.getElem?_eq_getElem (by omega)⟩
    have hF := hB.os.low ofOk.low (low_of hD3.at_)
    have hI := hB.os.ok r (List.mem_of_getElem? hr)
    obtain ⟨ad, g1, el, _⟩ := elt_at (P := Tryd.prog) (k := .i64) (t := 38) hF.sl hr (e := 61) (by kernel_rfl) (by kernel_rfl)
    have zr := of_z (x := r) hI.1.1 hI.1.2.1 hI.1.2.2.1 hI.1.2.2.2
    have zn := nl_size (jnB (ofL r))
    have fin : ∀ W', Bd w W' [n1] w2.heap.size (txt (bk2 b) ((b.os.take i).map ofL) ++ nl (jnB (ofL r))) → Bd w W' [n1] w2.heap.size (txt (bk2 b) ((b.os.take (i + 1)).map ofL)) ∧ (txt (bk2 b) ((b.os.take (i + 1)).map ofL)).size ≤ 20000000000000 + (i + 1) * 700000 := fun W' hh => by
      rw [take_map hr, txt_snoc]
      exact ⟨hh, by rw [ap_size]; omega⟩
    rw [hw]
    refine ⟨ad, g1, _, _, _, _, _, _, _, el.agg 5 (by kernel_rfl) (by kernel_rfl) (by simp) no_ds, bd_box (zv := .agg #[.int .i64 0, .int .i64 0, .int .i64 0, .slice none 0 0, .int .i64 0]) [.int .i64 0, .int .i64 0, .int .i64 0, .slice none 0 0, .int .i64 0] (ofV r) (by kernel_rfl) rfl (by kernel_rfl) hD3 fun g u0 hU0 bx0 => ?_⟩
    refine ⟨_, rd_f0 bx0 (by kernel_rfl) nodQ, _, rd_f 0 bx0 rfl (by kernel_rfl) nodQ, _, rd_f 1 bx0 rfl (by kernel_rfl) nodQ, _, _, _, rd_f 2 bx0 rfl (by kernel_rfl) nodQ, go_below_too hU0.at_ fun v0 hV0 hb0 => ?_⟩
    have hU1 := hU0.low hb0.below hV0
    have bx1 := bx_low bx0 hb0.below
    refine bd25 hU1 hT hI.1.1 fun u2 hU2 hk2 hb2 => ?_
    have bx2 := bx_low bx1 hb2
    refine ⟨_, rfl, hk2, rd_f 2 bx2 rfl (by kernel_rfl) nodQ, rd_f 1 bx2 rfl (by kernel_rfl) nodQ, rd_f 0 bx2 rfl (by kernel_rfl) nodQ, ?_⟩
    refine bd25 hU2 hT hI.1.2.1 fun u3 hU3 hk3 hb3 => ?_
    have bx3 := bx_low bx2 hb3
    refine ⟨_, rfl, hk3, rd_f 2 bx3 rfl (by kernel_rfl) nodQ, rd_f 1 bx3 rfl (by kernel_rfl) nodQ, ?_⟩
    refine bd25 hU3 hT hI.1.2.2.1 fun u4 hU4 hk4 hb4 => ?_
    have bx4 := bx_low bx3 hb4
    refine ⟨_, rfl, hk4, rd_f 2 bx4 rfl (by kernel_rfl) nodQ, ?_⟩
    refine bd27 hU4 hT hI.2 fun u5 hU5 hk5 hb5 => ?_
    have bx5 := bx_low bx4 hb5
    refine ⟨_, rfl, hk5, ?_⟩
    refine opw_litL (e' := 9) (size := 1) (f := strE) (l := ofB r) hU5.at_ rfl (fun _ _ => rfl) (by decide) (by kernel_rfl) fun g9 u9 hg9 hA9 hk9 hb9 ho => ⟨_, _, _, rfl, hk9, ?_⟩
    have hU9 := hU5.low hb9.below hA9
    have bx9 := bx_low bx5 hb9.below
    refine ⟨_, rd_f 3 bx9 rfl (by kernel_rfl) nodQ, brB (fun hu => ⟨_, rd_f 3 bx9 rfl (by kernel_rfl) nodQ, ?_⟩) fun hu => ?_⟩
    · have eL : ofL r = ofB r ++ [bs [117, 110, 116, 105, 108], numB r.til] := by
        unfold ofL
        rw [if_pos hu]
      refine bd25 hU9 hT hI.1.2.2.2 fun u10 hU10 hk10 hb10 => ⟨_, rfl, hk10, ?_⟩
      have ho10 := ho.keep fun k hk => hb10.block k (ho.lt k hk)
      refine opw_litL (e' := 9) (size := 1) (f := strE) (l := [bs [117, 110, 116, 105, 108], numB r.til]) hU10.at_ rfl (fun _ _ => rfl) (by decide) (by kernel_rfl) fun g11 u11 _ hA11 hk11 hb11 ho11 => ⟨_, _, _, rfl, hk11, ?_⟩
      have hU11 := hU10.low hb11.below hA11
      have ho12 := ho10.keep fun k hk => hb11.below.block k (ho10.lt k hk)
      refine opw_appendS (bytes := 16) (by kernel_rfl) hU11.at_ ho12 (ho11.sl fun _ _ => rfl) (fun _ _ => rfl) (fun x _ u hu => str_one x u hu) (by simp [ofB, maxLen]) (by simp [ofB]) fun v13 u13 hA13 hk13 hg13 ho13 => ?_
      obtain ⟨a13, c13, rfl, _⟩ := ho13.slice fun _ _ => rfl
      have b9 := hb9.below
      have b11 := hb11.below
      have z10 := hb10.size
      have z11 := b11.size
      have z9 := b9.size
      have hBl : Below u5.heap.size u5 u13 := ⟨hg13.os.trans (b11.os.trans (hb10.os.trans b9.os)), hg13.tape.trans (b11.tape.trans (hb10.tape.trans b9.tape)), hg13.output.trans (b11.output.trans (hb10.output.trans b9.output)), by have := hg13.size; omega, fun k hk => (hg13.block k (by omega) (fun e => by have e2 : g9 = k := (by first | exact Option.some.inj e | exact (Option.some.inj e).symm); omega)).trans ((b11.block k (by omega)).trans ((hb10.block k (by omega)).trans (b9.block k hk)))⟩
      have hU13 := hU5.low hBl hA13
      rw [← eL] at ho13
      refine ⟨_, _, _, rfl, hk13, ?_⟩
      rw [← eL]
      refine at_line (L := ofL r) (N := noB) hU13 ho13 (by rw [eL]; simp) (by rw [eL]; simp [ofB]) (by omega) (by omega) fun W9 hk9 hD9 => ⟨rfl, hk9, ⟨i + 1, rfl, by omega, fin W9 hD9⟩, by simp only; omega⟩
    · have eL : ofL r = ofB r := by
        unfold ofL
        rw [if_neg (by rw [hu]; decide), List.append_nil]
      rw [eL] at zr zn fin
      refine at_line (L := ofB r) (N := noB) hU9 ho (by unfold ofB; simp) (by unfold ofB; simp) (by omega) (by omega) fun W9 hk9 hD9 => ⟨rfl, hk9, ⟨i + 1, rfl, by omega, fin W9 hD9⟩, by simp only; omega⟩
  rw [List.take_of_length_le (show b.os.length ≤ i by omega)] at hD3 hz3
  have q3 : (bk3 b).size ≤ 30000000000000 := by
    unfold bk3
    omega
  refine ⟨fun s W => ∃ i : Nat, s.1 = i ∧ i ≤ s4.2.1 ∧ Bd w W [n1] w2.heap.size (txt (bk3 b) ((b.ts.take i).map tkL)) ∧ (txt (bk3 b) ((b.ts.take i).map tkL)).size ≤ 30000000000000 + i * 700000, fun s _ => s4.2.1 - s.1.toNat, ⟨0, rfl, Nat.zero_le _, hD3, Nat.le_trans q3 (by omega)⟩, ?_⟩
  rintro x4 W40 ⟨i, hi, hil, hD4, hz4⟩
  simp only at hi
  subst hi
  refine brD (fun hlt => ?_) fun hge => ?_
  · have hw : IntKind.i64.wrap ((i : Int) + 1) = ((i + 1 : Nat) : Int) := by rw [wrap_i64 (by omega) (by omega)]; omega
    obtain ⟨r, hr⟩ : ∃ r, b.ts[i]? = some r := ⟨_, List.getElem?_eq_getElem (by omega)⟩
    have hF := hB.ts.low tkOk.low (low_of hD4.at_)
    have hI := hB.ts.ok r (List.mem_of_getElem? hr)
    obtain ⟨ad, g1, el, _⟩ := elt_at (P := Tryd.prog) (k := .i64) (t := 39) hF.sl hr (e := 63) (by kernel_rfl) (by kernel_rfl)
    have zr := tk_z (x := r) hI.1.1 hI.1.2.1 hI.1.2.2
    have zn := nl_size (jnB (tkL r))
    have fin : ∀ W', Bd w W' [n1] w2.heap.size (txt (bk3 b) ((b.ts.take i).map tkL) ++ nl (jnB (tkL r))) → Bd w W' [n1] w2.heap.size (txt (bk3 b) ((b.ts.take (i + 1)).map tkL)) ∧ (txt (bk3 b) ((b.ts.take (i + 1)).map tkL)).size ≤ 30000000000000 + (i + 1) * 700000 := fun W' hh => by
      rw [take_map hr, txt_snoc]
      exact ⟨hh, by rw [ap_size]; omega⟩
    rw [hw]
    refine ⟨ad, g1, _, _, _, _, _, _, el.agg 4 (by kernel_rfl) (by kernel_rfl) (by simp) no_ds, bd_box (zv := .agg #[.int .i64 0, .int .i64 0, .int .i64 0, .slice none 0 0]) [.int .i64 0, .int .i64 0, .int .i64 0, .slice none 0 0] (tkV r) (by kernel_rfl) rfl (by kernel_rfl) hD4 fun g u0 hU0 bx0 => ?_⟩
    refine ⟨_, rd_f0 bx0 (by kernel_rfl) nodQ, _, rd_f 0 bx0 rfl (by kernel_rfl) nodQ, _, rd_f 1 bx0 rfl (by kernel_rfl) nodQ, _, _, _, rd_f 2 bx0 rfl (by kernel_rfl) nodQ, go_below_too hU0.at_ fun v0 hV0 hb0 => ?_⟩
    have hU1 := hU0.low hb0.below hV0
    have bx1 := bx_low bx0 hb0.below
    refine bd25 hU1 hT hI.1.1 fun u2 hU2 hk2 hb2 => ?_
    have bx2 := bx_low bx1 hb2
    refine ⟨_, rfl, hk2, rd_f 2 bx2 rfl (by kernel_rfl) nodQ, rd_f 1 bx2 rfl (by kernel_rfl) nodQ, rd_f 0 bx2 rfl (by kernel_rfl) nodQ, ?_⟩
    refine bd25 hU2 hT hI.1.2.1 fun u3 hU3 hk3 hb3 => ?_
    have bx3 := bx_low bx2 hb3
    refine ⟨_, rfl, hk3, rd_f 2 bx3 rfl (by kernel_rfl) nodQ, rd_f 1 bx3 rfl (by kernel_rfl) nodQ, ?_⟩
    refine bd25 hU3 hT hI.1.2.2 fun u4 hU4 hk4 hb4 => ?_
    have bx4 := bx_low bx3 hb4
    refine ⟨_, rfl, hk4, rd_f 2 bx4 rfl (by kernel_rfl) nodQ, ?_⟩
    refine bd27 hU4 hT hI.2 fun u5 hU5 hk5 hb5 => ?_
    have bx5 := bx_low bx4 hb5
    refine ⟨_, rfl, hk5, ?_⟩
    refine opw_litL (e' := 9) (size := 1) (f := strE) (l := tkL r) hU5.at_ rfl (fun _ _ => rfl) (by decide) (by kernel_rfl) fun g9 u9 _ hA9 hk9 hb9 ho => ⟨_, _, _, rfl, hk9, ?_⟩
    refine at_line (L := tkL r) (N := noB) (hU5.low hb9.below hA9) ho (by unfold tkL; simp) (by unfold tkL; simp) (by omega) (by omega) fun W9 hk9 hD9 => ⟨rfl, hk9, ⟨i + 1, rfl, by omega, fin W9 hD9⟩, by simp only; omega⟩
  rw [List.take_of_length_le (show b.ts.length ≤ i by omega)] at hD4 hz4
  have q4 : (bk4 b).size ≤ 40000000000000 := by
    unfold bk4
    omega
  refine ⟨fun s W => ∃ i : Nat, s.1 = i ∧ i ≤ s5.2.1 ∧ Bd w W [n1] w2.heap.size (txt (bk4 b) ((b.fis.take i).map fiL)) ∧ (txt (bk4 b) ((b.fis.take i).map fiL)).size ≤ 40000000000000 + i * 700000, fun s _ => s5.2.1 - s.1.toNat, ⟨0, rfl, Nat.zero_le _, hD4, Nat.le_trans q4 (by omega)⟩, ?_⟩
  rintro x5 W50 ⟨i, hi, hil, hD5, hz5⟩
  simp only at hi
  subst hi
  refine brD (fun hlt => ?_) fun hge => ?_
  · have hw : IntKind.i64.wrap ((i : Int) + 1) = ((i + 1 : Nat) : Int) := by rw [wrap_i64 (by omega) (by omega)]; omega
    obtain ⟨r, hr⟩ : ∃ r, b.fis[i]? = some r := ⟨_, List.getElem?_eq_getElem (by omega)⟩
    have hF := hB.fis.low fiOk.low (low_of hD5.at_)
    have hI := hB.fis.ok r (List.mem_of_getElem? hr)
    obtain ⟨ad, g1, el, _⟩ := elt_at (P := Tryd.prog) (k := .i64) (t := 40) hF.sl hr (e := 65) (by kernel_rfl) (by kernel_rfl)
    have zr := fi_z (x := r) hI.1.1 hI.1.2.1 hI.1.2.2
    have zn := nl_size (jnB (fiL r))
    have fin : ∀ W', Bd w W' [n1] w2.heap.size (txt (bk4 b) ((b.fis.take i).map fiL) ++ nl (jnB (fiL r))) → Bd w W' [n1] w2.heap.size (txt (bk4 b) ((b.fis.take (i + 1)).map fiL)) ∧ (txt (bk4 b) ((b.fis.take (i + 1)).map fiL)).size ≤ 40000000000000 + (i + 1) * 700000 := fun W' hh => by
      rw [take_map hr, txt_snoc]
      exact ⟨hh, by rw [ap_size]; omega⟩
    rw [hw]
    refine ⟨ad, g1, _, _, _, _, _, _, el.agg 4 (by kernel_rfl) (by kernel_rfl) (by simp) no_ds, bd_box (zv := .agg #[.int .i64 0, .int .i64 0, .int .i64 0, .slice none 0 0]) [.int .i64 0, .int .i64 0, .int .i64 0, .slice none 0 0] (fiV r) (by kernel_rfl) rfl (by kernel_rfl) hD5 fun g u0 hU0 bx0 => ?_⟩
    refine ⟨_, rd_f0 bx0 (by kernel_rfl) nodQ, _, rd_f 0 bx0 rfl (by kernel_rfl) nodQ, _, rd_f 1 bx0 rfl (by kernel_rfl) nodQ, _, _, _, rd_f 2 bx0 rfl (by kernel_rfl) nodQ, go_below_too hU0.at_ fun v0 hV0 hb0 => ?_⟩
    have hU1 := hU0.low hb0.below hV0
    have bx1 := bx_low bx0 hb0.below
    refine bd25 hU1 hT hI.1.1 fun u2 hU2 hk2 hb2 => ?_
    have bx2 := bx_low bx1 hb2
    refine ⟨_, rfl, hk2, rd_f 2 bx2 rfl (by kernel_rfl) nodQ, rd_f 1 bx2 rfl (by kernel_rfl) nodQ, rd_f 0 bx2 rfl (by kernel_rfl) nodQ, ?_⟩
    refine bd25 hU2 hT hI.1.2.1 fun u3 hU3 hk3 hb3 => ?_
    have bx3 := bx_low bx2 hb3
    refine ⟨_, rfl, hk3, rd_f 2 bx3 rfl (by kernel_rfl) nodQ, rd_f 1 bx3 rfl (by kernel_rfl) nodQ, ?_⟩
    refine bd25 hU3 hT hI.1.2.2 fun u4 hU4 hk4 hb4 => ?_
    have bx4 := bx_low bx3 hb4
    refine ⟨_, rfl, hk4, rd_f 2 bx4 rfl (by kernel_rfl) nodQ, ?_⟩
    refine bd27 hU4 hT hI.2 fun u5 hU5 hk5 hb5 => ?_
    have bx5 := bx_low bx4 hb5
    refine ⟨_, rfl, hk5, ?_⟩
    refine opw_litL (e' := 9) (size := 1) (f := strE) (l := fiL r) hU5.at_ rfl (fun _ _ => rfl) (by decide) (by kernel_rfl) fun g9 u9 _ hA9 hk9 hb9 ho => ⟨_, _, _, rfl, hk9, ?_⟩
    refine at_line (L := fiL r) (N := noB) (hU5.low hb9.below hA9) ho (by unfold fiL; simp) (by unfold fiL; simp) (by omega) (by omega) fun W9 hk9 hD9 => ⟨rfl, hk9, ⟨i + 1, rfl, by omega, fin W9 hD9⟩, by simp only; omega⟩
  rw [List.take_of_length_le (show b.fis.length ≤ i by omega)] at hD5 hz5
  have q5 : (bkT b).size ≤ 50000000000000 := by
    unfold bkT
    omega
  exact end_str h hD5
end Go.Vc.Q

/- Tell: law 4. -/
set_option maxRecDepth 20000
set_option maxHeartbeats 2000000
set_option linter.unusedVariables false
namespace Go.Vc.Q
open Go Go.Vc Go.Vc.V Go.RowKit Go.Proofs Vcq

theorem law4 {b : Bk} {s1 s2 s3 s4 s5 : Sl} {b0 b1 b2 b3 b4 b5 b6 b7 b8 : Int} (w : World) (hT : TabQ w) (hB : BkR w b s1 s2 s3 s4 s5) : RetW Tryd.prog 4 #[.agg #[.int .i64 b0, .int .i64 b1, .int .i64 b2, .int .i64 b3, .int .i64 b4, .int .i64 b5, .int .i64 b6, .int .i64 b7, .int .i64 b8, .int .i64 b.now, .int .i64 b.last, .slice s1.1 s1.2.1 s1.2.2, .slice s2.1 s2.2.1 s2.2.2, .slice s3.1 s3.2.1 s3.2.2, .slice s4.1 s4.2.1 s4.2.2, .slice s5.1 s5.2.1 s5.2.2]] w (.bool true) := by
  intro R h
  refine f4_calls _ _ _ _ _ _ _ _ _ _ _ _ _ _ _ _ _ _ _ _ _ _ _ _ _ _ w R ?_
  unfold f4_vc
  have low : ∀ {W : World} {gs : List Nat}, At (zro w) gs W → TabQ W ∧ BkR W b s1 s2 s3 s4 s5 := fun hA => ⟨hT.low (low_of hA), hB.low (low_of hA)⟩
  refine fun n1 hn1 => go_below_too (at_zro w noB) fun w2 hA hb2 => ?_
  refine at_callq hA (c13 (low hA).2) fun v w4 hA hk _ ⟨q, hv⟩ => ?_
  subst hv
  refine ⟨_, rfl, hk, brNB (fun _ => leafW h hA rfl) fun _ => ?_⟩
  refine go_below hA fun w6 hA => ?_
  refine at_callW hA (c14 w6 (low hA).1 (low hA).2) fun w8 hA hk _ => ⟨_, rfl, hk, ?_⟩
  refine at_callb hA (c15 (low hA).2) fun w11 hA hk _ => ⟨_, rfl, hk, brS (fun _ => ?_) fun hne => absurd rfl hne⟩
  exact at_callW hA (c12 w11 (low hA).1) fun w14 hA hk _ => ⟨_, rfl, hk, leafW h hA rfl⟩
end Go.Vc.Q

/- Tell: the tables, from the laid variables. -/
set_option maxRecDepth 100000
set_option maxHeartbeats 1000000
set_option linter.unusedVariables false
namespace Go.Vc.Q
open Go Go.Vc Go.Vc.V Go.RowKit Go.Proofs Go.Proofs.YtfoiddldfdbanaaDoor

abbrev laidD : List (String × DataW Unit) := [("math/bits.deBruijn32tab", Rows.laid_math_bits_deBruijn32tab), ("math/bits.deBruijn64tab", Rows.laid_math_bits_deBruijn64tab), ("internal/strconv.uint64pow10", Rows.laid_internal_strconv_uint64pow10), ("manciple/slot.table", Rows.laid_manciple_slot_table), ("manciple/tell.kinds", Rows.laid_manciple_tell_kinds), ("manciple/tell.errs", Rows.laid_manciple_tell_errs)]
theorem ba_ofT {s t : ByteArray} (h : s.data.toList = t.data.toList) : s = t := by
  cases s; cases t
  simp only at h
  congr 1
  exact Array.ext' h
/-- A table of texts, read. -/
theorem strs_cells {W : World} {name : String} {g t m : Nat} {ls : List (List UInt8)} {g0 : Nat} {t0 : TypeId} {cs0 : Array Value} {f0 : Nat} {p0 : List MemPlace} (hg : Tryd.prog.globalNamed name = some g) (ht : (Tryd.prog.globals[g]?).map (·.type) = some t) (hu : Tryd.prog.underlying t = some (.array m 9)) (u9 : Tryd.prog.underlying 9 = some .string) (c9 : Tryd.prog.cellsOf 9 = 1) (hm : ls.length = m)
    (hg0 : Tryd.prog.globalNamed name = some g0) (ht0 : (Tryd.prog.globals[g0]?).map (·.type) = some t0) (hv0 : W.var? Tryd.prog name = some cs0) (hd0 : DataW.trod (fun _ => ()) Tryd.prog W 0 (fun _ => true) false f0 t0 cs0.toList = some (DataW.agg (ls.map fun l => .lit (.string l)), p0)) : Elt W ⟨g, 0, none⟩ (ls.map fun l => Value.string (bs l)) := by
  obtain rfl := Option.some.inj (hg.symm.trans hg0)
  obtain rfl := Option.some.inj (ht.symm.trans ht0)
  obtain ⟨xs, m', rfl, hx, hlen, hn, hel⟩ := DataW.trod_array hu hd0
  have hx' : xs.map (·.1) = ls.map fun l => .lit (.string l) := by
    have := (Prod.mk.inj hx).1
    simp only [DataW.agg.injEq] at this
    exact this.symm
  intro j v hv
  have hj : j < ls.length := by
    have := (List.getElem?_eq_some_iff.1 hv).1
    simpa using this
  have hjm : j < m := by omega
  have := hel j hjm
  rw [c9, Nat.mul_one] at this
  have hxi : xs[j]? = some xs[j] := List.getElem?_eq_getElem (by omega)
  rw [hxi] at this
  obtain ⟨s, e1, e2, _⟩ := DataW.trod_string u9 this
  have h2 := congrArg (·[0]?) e1
  simp only [List.getElem?_take, List.getElem?_drop] at h2
  have hc : cs0[j]? = some (.string s) := by simpa using h2
  have hd : (xs.map (·.1))[j]? = some (.lit (.string s.data.toList)) := by rw [List.getElem?_map, hxi, e2]; rfl
  rw [hx', List.getElem?_map, List.getElem?_eq_getElem hj] at hd
  simp only [Option.map_some, Option.some.injEq, DataW.lit.injEq, Lit.string.injEq] at hd
  rw [List.getElem?_map, List.getElem?_eq_getElem hj] at hv
  simp only [Option.map_some, Option.some.injEq] at hv
  have hcell := World.var?_cell hg0 hv0 j
  rw [addr_add]
  simp only [Nat.zero_add]
  rw [hcell, hc, ← hv]
  congr 2
  refine ba_ofT ?_
  unfold bs
  rw [hd]

def errLs : List (List UInt8) := [[111, 107], [102, 111, 114, 109], [116, 119, 105, 99, 101], [], [], [], [], [], [], [], [110, 111, 32, 102, 114, 97, 109, 101, 119, 111, 114, 107], [110, 111, 32, 97, 103, 101, 110, 116], [110, 111, 32, 111, 102, 102, 101, 114], [110, 111, 32, 116, 97, 115, 107], [], [], [], [], [], [], [116, 111, 116, 97, 108, 115], [114, 111, 108, 101], [119, 101, 105, 103, 104, 116], [103, 111, 110, 101], [111, 119, 110, 101, 114], [115, 112, 97, 110], [108, 105, 118, 101], [102, 111, 114, 101, 105, 103, 110], [], [], [115, 104, 111, 114, 116], [109, 111, 115, 116], [99, 97, 112], [104, 111, 114, 105, 122, 111, 110], [105, 100, 115], [], [], [], [], [], [110, 105, 108], [97, 114, 103, 117, 109, 101, 110, 116], [116, 104, 101, 114, 101], [110, 111, 110, 101], [116, 101, 120, 116]]
def kindLs : List (List UInt8) := [[], [114, 101, 103, 105, 115, 116, 101, 114, 101, 100], [108, 101, 102, 116], [115, 117, 98, 115, 99, 114, 105, 98, 101, 100], [100, 105, 115, 99, 111, 110, 110, 101, 99, 116, 101, 100], [103, 111, 110, 101], [111, 102, 102, 101, 114, 101, 100], [97, 99, 99, 101, 112, 116, 101, 100], [100, 101, 99, 108, 105, 110, 101, 100], [114, 101, 115, 99, 105, 110, 100, 101, 100], [101, 120, 112, 105, 114, 101, 100], [108, 111, 115, 116], [100, 114, 111, 112, 112, 101, 100], [108, 97, 117, 110, 99, 104, 101, 100], [107, 105, 108, 108, 101, 100], [102, 105, 110, 105, 115, 104, 101, 100], [116, 97, 115, 107, 45, 108, 111, 115, 116], [116, 97, 115, 107, 45, 100, 114, 111, 112, 112, 101, 100], [114, 101, 115, 101, 114, 118, 101, 100], [117, 110, 114, 101, 115, 101, 114, 118, 101, 100]]
def slotLs : List (List UInt8) := [[99, 112, 117, 115], [109, 101, 109], [100, 105, 115, 107], [103, 112, 117, 115]]
theorem u9q : Tryd.prog.underlying 9 = some .string := by kernel_rfl
theorem c9q : Tryd.prog.cellsOf 9 = 1 := by kernel_rfl
theorem errs_eq : (Rows.laid_manciple_tell_errs : DataW Unit) = .agg (errLs.map fun l => .lit (.string l)) := rfl
theorem kinds_eq : (Rows.laid_manciple_tell_kinds : DataW Unit) = .agg (kindLs.map fun l => .lit (.string l)) := rfl
theorem slot_eq : (Rows.laid_manciple_slot_table : DataW Unit) = .agg (slotLs.map fun l => .lit (.string l)) := rfl
theorem pow_eq : (Rows.laid_internal_strconv_uint64pow10 : DataW Unit) = Lib.tabData .u64 Lib.pow10Tab := rfl
theorem tabQ_of {W : World} (h : laidMetH Tryd.prog laidD W) : TabQ W := by
  rw [MakeChecks.laidMetH_plain _ _ _ (by kernel_rfl)] at h
  obtain ⟨ps, ⟨_, _, _, _, _, _, _, _, _, _, ⟨_, _, _, _, _, _, _, _, _, _, ⟨g2, t2, cs2, f2, p2, q2, hg2, ht2, hv2, hd2, ⟨g3, t3, cs3, f3, p3, q3, hg3, ht3, hv3, hd3, ⟨g4, t4, cs4, f4, p4, q4, hg4, ht4, hv4, hd4, ⟨g5, t5, cs5, f5, p5, q5, hg5, ht5, hv5, hd5, _, _⟩, _⟩, _⟩, _⟩, _⟩, _⟩, _, _⟩ := h
  rw [pow_eq] at hd2
  rw [slot_eq] at hd3
  rw [kinds_eq] at hd4
  rw [errs_eq] at hd5
  refine ⟨?_, ?_, ?_, ?_⟩
  · exact strs_cells (g := 0) (t := 53) (m := errLs.length) (by kernel_rfl) (by kernel_rfl) (by kernel_rfl) u9q c9q rfl hg5 ht5 hv5 hd5
  · exact strs_cells (g := 1) (t := 55) (m := kindLs.length) (by kernel_rfl) (by kernel_rfl) (by kernel_rfl) u9q c9q rfl hg4 ht4 hv4 hd4
  · exact strs_cells (g := 4) (t := 115) (m := slotLs.length) (by kernel_rfl) (by kernel_rfl) (by kernel_rfl) u9q c9q rfl hg3 ht3 hv3 hd3
  · obtain rfl := Option.some.inj (pow_g.symm.trans hg2)
    obtain rfl := Option.some.inj ((show (Tryd.prog.globals[2]?).map (·.type) = some 111 by kernel_rfl).symm.trans ht2)
    unfold Lib.TabIs
    rw [hv2, ← Lib.cells_of_tab (n := Lib.pow10Tab.length) (e := 101) (by kernel_rfl) (by kernel_rfl) (by kernel_rfl) (by kernel_rfl) hd2]
end Go.Vc.Q

/- Arguments of the law, read. -/
namespace Go.Vc
open Go Go.RowKit
theorem i64_bounds' {x : Int} (h1 : IntKind.i64.min ≤ x) (h2 : x ≤ IntKind.i64.max) : -9223372036854775808 ≤ x ∧ x ≤ 9223372036854775807 := by
  have e1 : IntKind.i64.min = -9223372036854775808 := by decide
  have e2 : IntKind.i64.max = 9223372036854775807 := by decide
  omega
theorem int_V {w : World} {x : Int} {v : Value} (h : GT.V w (.int .i64) x v) : v = .int .i64 x ∧ (-9223372036854775808 ≤ x ∧ x ≤ 9223372036854775807) := by
  obtain ⟨h, h1, h2⟩ := h
  simp at h
  exact ⟨h, i64_bounds' h1 h2⟩
theorem str_V {w : World} {x : ByteArray} {v : Value} (h : GT.V w .str x v) : v = .string x ∧ x.size ≤ maxLen := by
  obtain ⟨h, h1⟩ := h
  simp at h
  exact ⟨h, h1⟩
theorem ints_V {w : World} {l : List Int} {v : Value} (h : GT.V w (.sl (.int .i64)) l v) : ∃ a n c, v = .slice a n c ∧ SlE w 1 (fun x => [Value.int .i64 x]) l a n c ∧ ∀ x ∈ l, -9223372036854775808 ≤ x ∧ x ≤ 9223372036854775807 := by
  obtain ⟨a, n, c, hv, hs⟩ := h
  simp at hv
  refine ⟨a, n, c, hv, hs.imp fun _ _ h => h.1, fun x hx => ?_⟩
  obtain ⟨cs, hr⟩ := hs.each hx
  exact i64_bounds' hr.2.1 hr.2.2
end Go.Vc

/- Tell: the reply's argument, read. -/
set_option maxRecDepth 100000
set_option maxHeartbeats 1000000
set_option linter.unusedVariables false
namespace Go.Vc.Q
open Go Go.Vc Go.Vc.V Go.RowKit Go.Proofs Go.Proofs.YtfoiddldfdbanaaDoor Go.ChangeShapes Go.Deep

abbrev iG : GT := .int .i64
abbrev ptG : GT := .st (.pair iG (.pair iG (.pair iG .unit)))
abbrev evG : GT := .st (.pair iG (.pair iG (.pair iG (.pair iG (.pair (.sl ptG) .unit)))))
abbrev repG : GT := .st (.pair iG (.pair (.sl evG) .unit))
abbrev PtA := Int × Int × Int × Unit
def ptOf (x : PtA) : PartT := (x.1, x.2.1, x.2.2.1)
theorem row_M {α β : Type} {w : World} {n : Nat} {R : α → List Value → Prop} {R' : β → List Value → Prop} {k : α → β} {l : List α} {a : Option Addr} {len c : Nat} (hs : SlR w n R l a len c) (hR : ∀ x cs, R x cs → R' (k x) cs) : SlR w n R' (l.map k) a len c := by
  refine ⟨by rw [List.length_map]; exact hs.1, hs.2.1, hs.2.2.1, hs.2.2.2.1, fun i y hy => ?_⟩
  rw [List.getElem?_map] at hy
  cases hx : l[i]? with
  | none => rw [hx] at hy; cases hy
  | some x =>
    rw [hx] at hy
    simp only [Option.map_some, Option.some.injEq] at hy
    subst hy
    obtain ⟨ad, cs, ha, hl, hcs, hr⟩ := hs.at_ hx
    exact ⟨ad, cs, ha, hl, hcs, hR _ _ hr⟩
/-- A row, as a row of what its elements are. -/
theorem row_C {α β : Type} {w : World} {n : Nat} {R : α → List Value → Prop} {R' : β → List Value → Prop} {Q : β → Prop} {l : List α} {a : Option Addr} {len c : Nat} (hs : SlR w n R l a len c) (hR : ∀ x cs, R x cs → ∃ y, R' y cs ∧ Q y) : ∃ L, SlR w n R' L a len c ∧ ∀ y ∈ L, Q y := by
  have h : ∀ i : Fin l.length, ∃ y, (∃ ad cs, a = some ad ∧ cs.length = n ∧ (∀ (j : Nat) (v : Value), cs[j]? = some v → w.cell? ((ad.add (i.1 * n)).add j) = some v) ∧ R' y cs) ∧ Q y := fun i => by
    obtain ⟨ad, cs, ha, hl, hcs, hr⟩ := hs.at_ (List.getElem?_eq_getElem i.2)
    obtain ⟨y, hy, hq⟩ := hR _ _ hr
    exact ⟨y, ⟨ad, cs, ha, hl, hcs, hy⟩, hq⟩
  refine ⟨List.ofFn fun i => Classical.choose (h i), ⟨by rw [List.length_ofFn]; exact hs.1, hs.2.1, hs.2.2.1, hs.2.2.2.1, fun i y hy => ?_⟩, fun y hy => ?_⟩
  · obtain ⟨hi, rfl⟩ := List.getElem?_eq_some_iff.1 hy
    rw [List.getElem_ofFn]
    rw [List.length_ofFn] at hi
    exact (Classical.choose_spec (h ⟨i, hi⟩)).1
  · obtain ⟨i, hi, rfl⟩ := List.getElem_of_mem hy
    rw [List.getElem_ofFn]
    exact (Classical.choose_spec (h _)).2
theorem pt_R {w : World} {x : PtA} {cs : List Value} (h : ptG.R w x cs) : cs = partE (ptOf x) := by
  obtain ⟨c1, c2, rfl, ⟨rfl, _, _⟩, c3, c4, rfl, ⟨rfl, _, _⟩, c5, c6, rfl, ⟨rfl, _, _⟩, rfl⟩ := h
  rfl
theorem ev_R {w : World} {x : evG.T} {cs : List Value} (h : evG.R w x cs) : ∃ y : ER, cs = evE y ∧ (EvI y.1 ∧ SlE w 3 partE y.1.v y.2.1 y.2.2.1 y.2.2.2) := by
  obtain ⟨d1, d2, rfl, ⟨rfl, a1, b1⟩, d3, d4, rfl, ⟨rfl, a2, b2⟩, d5, d6, rfl, ⟨rfl, a3, b3⟩, d7, d8, rfl, ⟨rfl, a4, b4⟩, d9, d10, rfl, ⟨a, n, c, rfl, hs⟩, rfl⟩ := h
  exact ⟨(⟨x.1, x.2.1, x.2.2.1, x.2.2.2.1, x.2.2.2.2.1.map ptOf⟩, (a, n, c)), rfl, ⟨i64_bounds' a1 b1, i64_bounds' a2 b2, i64_bounds' a3 b3, i64_bounds' a4 b4⟩, row_M hs fun _ _ => pt_R⟩
theorem rep_V {w : World} {x : repG.T} {v : Value} (h : GT.V w repG x v) : ∃ code rows a n c, v = .agg #[.int .i64 code, .slice a n c] ∧ I64 code ∧ Evs w rows a n c := by
  obtain ⟨cs, rfl, c1, c2, rfl, ⟨rfl, a1, b1⟩, c3, c4, rfl, ⟨a, n, c, rfl, hs⟩, rfl⟩ := h
  obtain ⟨L, h1, h2⟩ := row_C hs (R' := fun y cs => cs = evE y) (Q := fun y : ER => EvI y.1 ∧ SlE w 3 partE y.1.v y.2.1 y.2.2.1 y.2.2.2) fun _ _ => ev_R
  exact ⟨_, L, a, n, c, rfl, i64_bounds' a1 b1, h1, h2⟩
theorem u25 : ∃ f0 f1 : Field, Tryd.prog.underlying 25 = some (.struct #[f0, f1]) ∧ f0.type = 22 ∧ f1.type = 23 ∧ f1.offset = 1 := ⟨_, _, rfl, rfl, rfl, rfl⟩
theorem rep_len {H : Type} {enc : TypeId × Value → H} {W : World} {base : Nat} {spare : Nat → Bool} {held : Bool} {code : Int} {a : Option Addr} {n c : Nat} {d0 : DataW H} {p0 : List MemPlace} {ts : List TypeId} {ds : List (DataW H)}
    (h : DataW.Trod enc Tryd.prog W base spare held 25 (.agg #[.int .i64 code, .slice a n c]) d0 p0) (hsz : (DataW.weightsEach Tryd.prog (25 :: ts) (d0 :: ds)).all (· ≤ reachBytes) = true) : n ≤ 30000000000000 := by
  obtain ⟨fuel, hz⟩ := h
  obtain ⟨f0, f1, hu, ht0, ht1, ho⟩ := u25
  obtain ⟨y0, y1, m, hd, _, _, h1⟩ := trod_struct2 hu hz
  obtain ⟨rfl, rfl⟩ := Prod.mk.inj hd
  rw [ht1, ho, show Tryd.prog.cellsOf 23 = 1 by kernel_rfl] at h1
  have hcs : ((Value.agg #[.int .i64 code, .slice a n c]).cells.toList.drop 1).take 1 = [.slice a n c] := rfl
  rw [hcs] at h1
  have u23 : Tryd.prog.underlying 23 = some (.slice 47) := by kernel_rfl
  rcases open_slice u23 h1 with ⟨e, _⟩ | ⟨ad, len, cap, m', n', D, Pl, e, _, hl, _, _, hx, _⟩
  · cases e
    omega
  · cases e
    have hm : (n + (m' - n)) * Tryd.prog.bytesOf 47 ∈ DataW.weights Tryd.prog 25 (.agg [y0.1, y1.1]) := by
      rw [hx]
      refine (show ∀ n, n ∈ DataW.weightsEach Tryd.prog [f0.type, f1.type] [y0.1, _] → n ∈ DataW.weights Tryd.prog 25 (.agg [y0.1, _]) from fun n hn => by simp only [DataW.weights, hu]; exact hn) _ (DataW.weights_mem_each (j := 1) rfl rfl _ ?_)
      simp only [DataW.weights, ht1, u23, List.length_map, List.length_range]
      exact List.mem_cons_self ..
    have := List.all_eq_true.1 hsz _ (DataW.weights_mem_each (j := 0) rfl rfl _ hm)
    have hb : Tryd.prog.bytesOf 47 = 56 := by kernel_rfl
    have hr := reachBytes_lt
    simp only [decide_eq_true_eq] at this
    rw [hb] at this
    omega
end Go.Vc.Q

/- Tell: a book's argument, read; its lists' lengths from the bulk. -/
set_option maxRecDepth 100000
set_option maxHeartbeats 1000000
set_option linter.unusedVariables false
namespace Go.Vc.Q
open Go Go.Vc Go.Vc.V Go.RowKit Go.Proofs Go.Proofs.YtfoiddldfdbanaaDoor Go.ChangeShapes Go.Deep

theorem blk_one {H : Type} (d : DataW H) : 1 ≤ Rows.uptoBulk d := by
  cases d with
  | lit l => cases l <;> simp [Rows.uptoBulk]
  | nil => simp [Rows.uptoBulk]
  | ptr d => simp [Rows.uptoBulk]
  | slice elems spare => simp [Rows.uptoBulk]
  | agg parts => simp [Rows.uptoBulk]
  | iface t d => simp [Rows.uptoBulk]
  | map entries => simp [Rows.uptoBulk]
  | held h => simp [Rows.uptoBulk]
theorem blk_mem {H : Type} {d : DataW H} : ∀ {l : List (DataW H)}, d ∈ l → Rows.uptoBulk d ≤ Rows.uptoBulkAll l
  | x :: l, h => by
    simp only [Rows.uptoBulkAll]
    rcases List.mem_cons.1 h with rfl | h
    · omega
    · have := blk_mem h
      omega
theorem blk_len {H : Type} : ∀ l : List (DataW H), l.length ≤ Rows.uptoBulkAll l
  | [] => Nat.zero_le _
  | x :: l => by
    have h1 := blk_one x
    have h2 := blk_len l
    simp only [Rows.uptoBulkAll, List.length_cons]
    omega
/-- A field that is a slice is no longer than the whole's bulk. -/
theorem fld_len {H : Type} {enc : TypeId × Value → H} {W : World} {base : Nat} {spare : Nat → Bool} {held : Bool} {t e : TypeId} {fs : Array Field} {v : Value} {d : DataW H} {p : List MemPlace} {i : Nat} {f : Field} {a : Option Addr} {n c : Nat} (h : DataW.Trod enc Tryd.prog W base spare held t v d p)
    (hu : Tryd.prog.underlying t = some (.struct fs)) (hi : fs[i]? = some f) (hf : Tryd.prog.underlying f.type = some (.slice e)) (hc : (v.cells.toList.drop f.offset).take (Tryd.prog.cellsOf f.type) = [.slice a n c]) : n ≤ Rows.uptoBulk d := by
  obtain ⟨fuel, hz⟩ := h
  obtain ⟨xs, m, _, hd, _, hlen, hall⟩ := DataW.trod_struct hu hz
  obtain ⟨rfl, rfl⟩ := Prod.mk.inj hd
  have h1 := hall i f hi
  rw [hc] at h1
  cases hx : xs[i]? with
  | none =>
    have := (Array.getElem?_eq_some_iff.1 hi).1
    have := List.getElem?_eq_none_iff.1 hx
    omega
  | some y =>
    rw [hx] at h1
    have hm : y.1 ∈ xs.map (·.1) := List.mem_map.2 ⟨y, List.mem_of_getElem? hx, rfl⟩
    have hb := blk_mem hm
    have ha : Rows.uptoBulk (DataW.agg (xs.map (·.1))) = Rows.uptoBulkAll (xs.map (·.1)) + 1 := by simp only [Rows.uptoBulk]
    rcases open_slice hf h1 with ⟨e, _⟩ | ⟨ad, len, cap, m', n', D, Pl, e, _, hl, _, _, hxx, _⟩
    · cases e
      omega
    · cases e
      rw [hxx] at hb
      have hs := blk_len ((List.range n).map D)
      simp only [List.length_map, List.length_range] at hs
      simp only [Rows.uptoBulk] at hb
      omega
end Go.Vc.Q

