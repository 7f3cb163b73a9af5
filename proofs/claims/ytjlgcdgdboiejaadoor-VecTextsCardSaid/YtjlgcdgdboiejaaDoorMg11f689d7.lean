/- Own texts of this claim, laid together: G4, G5, G6, G7, FD6, G8, G9, GArg. -/
import Derived.Test.YtjlgcdgdboiejaaDoorMg256deb39
import Derived.Test.YtjlgcdgdboiejaaDoorProg
import Derived.HandedShaped
import Derived.Shelf.Vars

/- Own text of this claim: G4. -/
set_option maxRecDepth 20000
namespace Go.Vc.VD
open Go Go.Vc Go.Vc.V Go.RowKit Go.Proofs Vcx

/-- A step of reading: a rune, what has been read, the scale. -/
def pstep (c n sc : Int) : Option (Int × Int) :=
  if c = 46 ∧ sc = 0 then some (n, 1000)
  else if c < 48 ∨ c > 57 ∨ sc = 1 then none
  else if n * 10 + (c - 48) > 9007199254740992 then none
  else some (n * 10 + (c - 48), sc / 10)
def pgo (s : ByteArray) : Nat → Nat → Int → Int → Option (Int × Int)
  | 0, _, n, sc => some (n, sc)
  | f + 1, pos, n, sc => if pos < s.size then (match pstep ((Utf8.decode s pos).1 : Int) n sc with
      | some x => pgo s f (pos + (Utf8.decode s pos).2) x.1 x.2
      | none => none) else some (n, sc)
def fin (n sc : Int) : Int × Bool := qtimes n (if sc = 0 then 1000 else sc) 9007199254740992
def qparse (s : ByteArray) : Int × Bool := match pgo s s.size 0 0 0 with
  | none => (0, false)
  | some x => if (fin x.1 x.2).2 = true ∧ strOfNums (txtL (fin x.1 x.2).1) = s then ((fin x.1 x.2).1, true) else (0, false)

def itLeftQ (s : ByteArray) (r : Nat) (W : World) : Nat := match W.heap[r]? with
  | some (.stringIter _ pos) => s.size - pos
  | _ => 0

theorem decode_width (s : ByteArray) (pos : Nat) : 1 ≤ (Utf8.decode s pos).2 := by
  unfold Utf8.decode
  simp only
  repeat' split
  all_goals simp
theorem decode_bound (s : ByteArray) (pos : Nat) : (Utf8.decode s pos).1 < 1114112 := by
  unfold Utf8.decode
  simp only [Utf8.runeError]
  have h : ∀ k, (s.get! (pos + k)).toNat < 256 := fun k => (s.get! (pos + k)).toBitVec.isLt
  have h0 := h 0; have h1 := h 1; have h2 := h 2; have h3 := h 3
  simp only [Nat.add_zero] at *
  repeat' split
  all_goals simp only
  all_goals first | omega | skip
  all_goals (rename_i hv; simp only [Utf8.valid] at hv; simp at hv; omega)

theorem toList_beq (t s : ByteArray) : (t.toList == s.toList) = decide (t = s) := by
  by_cases h : t = s
  · subst h; simp
  · have : t.toList ≠ s.toList := fun e => h (by
      rw [ByteArray.toList_eq, ByteArray.toList_eq] at e
      have := Array.ext' e
      cases t; cases s
      simpa using this)
    simp [h, this]

theorem c53 (s : ByteArray) (w : World) : Ret Tryd.prog 53 #[.string s] w (pairV (qparse s)) := by
  intro R h
  refine f53_calls s w R ?_
  unfold f53_vc
  refine opw_range_str (by kernel_rfl) ⟨_, rfl, ?_⟩
  have hA : At w [] (w.alloc (.stringIter s 0)) := (At.refl w).call (below_alloc _)
  generalize hr : w.heap.size = r
  have hit : (w.alloc (.stringIter s 0)).heap[r]? = some (.stringIter s 0) := by rw [← hr]; exact heap_alloc_new w _
  have hrle : w.heap.size ≤ r := by omega
  refine ⟨fun st W => At w [] W ∧ ∃ (f pos : Nat), W.heap[r]? = some (.stringIter s pos) ∧ s.size - pos ≤ f ∧ (0 ≤ st.1 ∧ st.1 ≤ 9007199254740992) ∧ (0 ≤ st.2.1 ∧ st.2.1 ≤ 1000) ∧ pgo s f pos st.1 st.2.1 = pgo s s.size 0 0 0, fun _ W => itLeftQ s r W, ⟨hA, s.size, 0, hit, by omega, by decide, by decide, rfl⟩, ?_⟩
  clear hA hit
  intro n sc W ⟨hA, f, pos, hit, hf, hn, hsc, hg⟩
  simp only at hn hsc hg
  refine opw_next_str hit (fun hend => ⟨.inl rfl, fun _ => ?_, fun x y hh => by simp at hh⟩) (fun hp => ⟨.inr ⟨(_, _, ()), rfl⟩, fun hh => by simp at hh, fun x y hh => ?_⟩)
  · have hg : some (n, sc) = pgo s s.size 0 0 0 := by
      rw [← hg]
      cases f with
      | zero => rfl
      | succ f => rw [pgo, if_neg hend]
    have tail : ∀ k : Int, k = (if sc = 0 then 1000 else sc) → Calls Tryd.prog 66 #[.int .i64 n, .int .i64 k, .int .i64 9007199254740992] W fun e w12 => ∃ x13 b14, e = .returned (.tuple #[.int .i64 x13, .bool b14]) ∧ ((!b14) = true → R (.returned (.tuple #[.int .i64 0, .bool false])) w12) ∧ ((!b14) = false → Calls Tryd.prog 55 #[.int .i64 x13] w12 fun e w16 => ∃ s17, e = .returned (.string s17) ∧ (((!s17.toList == s.toList) = true → R (.returned (.tuple #[.int .i64 0, .bool false])) w16) ∧ ((!s17.toList == s.toList) = false → R (.returned (.tuple #[.int .i64 x13, .bool true])) w16))) := by
      intro k hk
      have hk' : 0 ≤ k ∧ k ≤ 1000 := by
        rw [hk]
        split <;> omega
      refine at_call hA (c66 n k 9007199254740992 (by omega) (by decide) _) (fun _ hA _ => ⟨_, _, rfl, ?_⟩)
      have hfin : qtimes n k 9007199254740992 = fin n sc := by rw [fin, hk]
      rw [hfin]
      have hpar : qparse s = if (fin n sc).2 = true ∧ strOfNums (txtL (fin n sc).1) = s then ((fin n sc).1, true) else (0, false) := by rw [qparse, ← hg]
      rw [hpar] at h
      refine ⟨fun hb => leaf h hA ?_, fun hb => ?_⟩
      · rw [if_neg (by simp at hb; simp [hb])]
      · simp at hb
        have hI : I64 (fin n sc).1 := by
          rw [← hfin, qtimes]
          split
          · decide
          · rename_i hno
            have hf := times_fits (a := n) (n := k) (most := 9007199254740992) (by decide) (by omega) hno
            rcases hf.2.1 with h1 | h1
            · simp only; omega
            · subst h1
              simp
              decide
        refine at_call hA (c55 _ _ hI) (fun _ hA _ => ⟨_, rfl, ?_⟩)
        have hbeq : ∀ t : ByteArray, (t.toList == s.toList) = decide (t = s) := by
          intro t
          exact toList_beq t s
        refine ⟨fun hc => leaf h hA ?_, fun hc => leaf h hA ?_⟩
        · rw [if_neg (fun hh => by rw [hbeq, decide_eq_true hh.2] at hc; simp at hc)]
        · rw [hbeq] at hc
          simp at hc
          rw [if_pos ⟨hb, hc⟩]
    exact brE (fun h0 => tail _ (by rw [if_pos h0])) (fun h0 => tail _ (by rw [if_neg h0]))
  · have hwd := decode_width s pos
    have hcb := decode_bound s pos
    simp only [Value.tuple.injEq, Array.mk.injEq, List.cons.injEq, Value.int.injEq, true_and, and_true] at hh
    obtain ⟨_, rfl, rfl⟩ : True ∧ (pos : Int) = x ∧ ((Utf8.decode s pos).1 : Int) = y := ⟨trivial, by simpa using hh⟩
    obtain ⟨f', rfl⟩ : ∃ f', f = f' + 1 := ⟨f - 1, by omega⟩
    rw [pgo, if_pos hp] at hg
    have hA' := hA.setObj (o := .stringIter s (pos + (Utf8.decode s pos).2)) hrle
    have hit' : ({ W with heap := W.heap.setIfInBounds r (.stringIter s (pos + (Utf8.decode s pos).2)) } : World).heap[r]? = some (.stringIter s (pos + (Utf8.decode s pos).2)) := by
      have := (Array.getElem?_eq_some_iff.1 hit).1
      show (W.heap.setIfInBounds r _)[r]? = _
      rw [Array.getElem?_setIfInBounds_self_of_lt this]
    generalize hW' : ({ W with heap := W.heap.setIfInBounds r (.stringIter s (pos + (Utf8.decode s pos).2)) } : World) = W' at hA' hit' ⊢
    have hl : itLeftQ s r W' < itLeftQ s r W := by
      simp only [itLeftQ, hit, hit']
      omega
    generalize (Utf8.decode s pos).1 = c at *
    generalize (Utf8.decode s pos).2 = wd at *
    have fail : pstep c n sc = none → R (.returned (.tuple #[.int .i64 0, .bool false])) W' := by
      intro hp
      rw [hp] at hg
      exact leaf h hA' (by rw [qparse, ← hg])
    refine brE (fun h46 => brE (fun h0 => ?_) (fun h0 => ?_)) (fun h46 => ?_)
    · have hp : pstep c n sc = some (n, 1000) := by rw [pstep, if_pos ⟨h46, h0⟩]
      rw [hp] at hg
      exact ⟨⟨hA', f', pos + wd, hit', by omega, hn, by show (0 : Int) ≤ 1000 ∧ (1000 : Int) ≤ 1000; omega, hg⟩, hl⟩
    all_goals
      have hno : ¬ ((c : Int) = 46 ∧ sc = 0) := by omega
      refine brD (fun h1 => fail (by rw [pstep, if_neg hno, if_pos (.inl h1)])) (fun h1 => ?_)
      refine brD (fun h2 => fail (by rw [pstep, if_neg hno, if_pos (.inr (.inl h2))])) (fun h2 => ?_)
      refine brE (fun h3 => fail (by rw [pstep, if_neg hno, if_pos (.inr (.inr h3))])) (fun h3 => ?_)
      rw [wrap_i32 (by omega) (by omega), wrap_i64 (x := (c : Int) - 48) (by omega) (by omega), wrap_i64 (x := n * 10) (by omega) (by omega), wrap_i64 (x := n * 10 + ((c : Int) - 48)) (by omega) (by omega), Int.tdiv_eq_ediv_of_nonneg hsc.1, wrap_i64 (x := sc / 10) (by omega) (by omega)]
      refine brD (fun h4 => fail (by rw [pstep, if_neg hno, if_neg (by omega), if_pos h4])) (fun h4 => ?_)
      have hp : pstep c n sc = some (n * 10 + (c - 48), sc / 10) := by rw [pstep, if_neg hno, if_neg (by omega), if_neg h4]
      rw [hp] at hg
      exact ⟨⟨hA', f', pos + wd, hit', by omega, by show 0 ≤ n * 10 + ((c : Int) - 48) ∧ n * 10 + ((c : Int) - 48) ≤ 9007199254740992; omega, by show 0 ≤ sc / 10 ∧ sc / 10 ≤ 1000; omega, hg⟩, hl⟩
end Go.Vc.VD

/- Own text of this claim: G5. -/
set_option maxRecDepth 20000
namespace Go.Vc.VD
open Go Go.Vc Go.Vc.V Go.RowKit Go.Proofs Vcx

/-! ### What is read -/
theorem bytesOf_append (a b : ByteArray) : bytesOf (a ++ b) = bytesOf a ++ bytesOf b := by
  unfold bytesOf
  rw [ByteArray.data_append, Array.toList_append, List.map_append]
theorem nm_no40 (k : Int) : ∀ x ∈ bytesOf (nmOf k), x ≠ 40 ∧ x ≠ 41 := by
  unfold nmOf
  split
  · rename_i h
    have hc : k = 0 ∨ k = 1 ∨ k = 2 ∨ k = 3 := by omega
    rcases hc with rfl | rfl | rfl | rfl <;> decide
  · decide
theorem kind_nm {k : Int} (h : 0 ≤ k ∧ k < 4) : kindOf (nmOf k) = (k, true) := by
  have hc : k = 0 ∨ k = 1 ∨ k = 2 ∨ k = 3 := by omega
  rcases hc with rfl | rfl | rfl | rfl <;> decide
theorem kind_right {s : ByteArray} (h : (kindOf s).2 = true) : 0 ≤ (kindOf s).1 ∧ (kindOf s).1 < 4 := by
  unfold kindOf at h ⊢
  by_cases h0 : s = sCpus
  · simp [h0]
  · by_cases h1 : s = sMem
    · subst h1; simp [h0]
    · by_cases h2 : s = sDisk
      · subst h2; simp [h0, h1]
      · by_cases h3 : s = sGpus
        · subst h3; simp [h0, h1, h2]
        · simp [h0, h1, h2, h3] at h
theorem mem_bytes {s : ByteArray} {c : UInt8} (h : (c.toNat : Int) ∉ bytesOf s) : c ∉ s.data.toList := fun hm => h (List.mem_map.2 ⟨c, hm, rfl⟩)
theorem pcut_none {s : ByteArray} (h : (40 : Int) ∉ bytesOf s) : pcut s = (s, ByteArray.mk #[], false) := by
  rcases idx_list 40 s.data.toList with ⟨h1, _⟩ | ⟨a, b, h1, _, _⟩
  · rw [pcut, h1, if_neg (by decide)]
  · exact absurd (by rw [h1]; simp) (mem_bytes (c := 40) h)
theorem pcut_at {s a b : ByteArray} (ha : (40 : Int) ∉ bytesOf a) (hs : bytesOf s = bytesOf a ++ 40 :: bytesOf b) : pcut s = (a, b, true) := by
  have hidx : Lib.indexByte s.data.toList 40 = (a.size : Int) := by
    have hl : s.data.toList.map (fun b => (b.toNat : Int)) = a.data.toList.map (fun b => (b.toNat : Int)) ++ 40 :: b.data.toList.map (fun b => (b.toNat : Int)) := hs
    have hlen : a.size = a.data.toList.length := by rw [Array.length_toList]; rfl
    rw [hlen]
    have key : ∀ (l x y : List UInt8), l.map (fun b => (b.toNat : Int)) = x.map (fun b => (b.toNat : Int)) ++ 40 :: y.map (fun b => (b.toNat : Int)) → (40 : UInt8) ∉ x → Lib.indexByte l 40 = (x.length : Int) := by
      intro l
      induction l with
      | nil => intro x y h _; simp at h
      | cons c l ih =>
        intro x y h hx
        cases x with
        | nil =>
          simp only [List.map_nil, List.nil_append, List.map_cons, List.cons.injEq] at h
          have : c = 40 := by
            apply UInt8.toNat_inj.1
            have := h.1
            have e : (40 : UInt8).toNat = 40 := rfl
            omega
          subst this
          rfl
        | cons d x =>
          simp only [List.map_cons, List.cons_append, List.cons.injEq] at h
          have hcd : c = d := by
            apply UInt8.toNat_inj.1
            have := h.1
            omega
          subst hcd
          have hne : ¬ c = 40 := fun e => hx (by rw [e]; simp)
          have := ih x y h.2 (fun hm => hx (List.mem_cons_of_mem _ hm))
          unfold Lib.indexByte
          have hb : (c == 40) = false := by simpa using hne
          rw [hb, this]
          simp only [Bool.false_eq_true, if_false]
          have h2 : ((x.length : Int) == -1) = false := by rw [beq_eq_false_iff_ne]; omega
          rw [h2]
          simp
    exact key _ _ _ hl (mem_bytes (c := 40) ha)
  have hsz : s.size = a.size + (b.size + 1) := by
    have := congrArg List.length hs
    rw [bytesOf_len, List.length_append, List.length_cons, bytesOf_len, bytesOf_len] at this
    exact this
  rw [pcut, hidx, if_pos (by omega)]
  have e1 : s.extract 0 a.size = a := bytes_ext (by
    rw [bytesOf_extract, hs, List.drop_zero, Nat.sub_zero, ← bytesOf_len a, List.take_left])
  have e2 : s.extract (a.size + 1) s.size = b := bytes_ext (by
    rw [bytesOf_extract, hs, hsz, ← bytesOf_len a]
    rw [show (bytesOf a).length + 1 = (bytesOf a ++ [40]).length by simp, show bytesOf a ++ 40 :: bytesOf b = (bytesOf a ++ [40]) ++ bytesOf b by simp, List.drop_left]
    apply List.take_of_length_le
    rw [bytesOf_len]
    simp
    omega)
  simp only [Int.toNat_natCast, e1, e2]

theorem dec_bytes {n : Int} (h : 0 ≤ n) : bytesOf (strOfNums (decL n 1)) = decL n 1 := bytesOf_strOfNums fun x hx => by
  have := decL_byte n 1 h x hx
  omega
theorem parseR_dec {r : Int} (h : 1 ≤ r ∧ r ≤ 32) : parseR (decL r 1 ++ [41]) = r := by
  rw [parseR_snoc]
  have h41 : ∀ x, rstep x 41 = x := fun x => by unfold rstep; rw [if_neg (by omega)]
  rw [h41]
  by_cases h10 : r < 10
  · rw [digit1 (by omega)]
    show rstep 0 (48 + r) = r
    unfold rstep
    rw [if_pos (by omega)]
    omega
  · rw [dec2 (by omega) (by omega)]
    show rstep (rstep 0 (48 + r / 10)) (48 + r % 10) = r
    unfold rstep
    rw [if_pos (by omega), if_pos (by omega)]
    omega

/-- A right slot's text is read as that slot. -/
theorem parse_text {k r : Int} (h : slotR k r) : sparse (stext k r) = (k, r, true) := by
  have h' := h
  unfold slotR at h'
  have hk := kind_nm (k := k) (by omega)
  by_cases h0 : r = 0
  · have ht : stext k r = nmOf k := by rw [stext, if_pos h, if_pos h0]
    have hc := pcut_none (s := nmOf k) (fun hm => (nm_no40 k 40 hm).1 rfl)
    have hp : parseR (bytesOf (ByteArray.mk #[])) = 0 := rfl
    rw [sparse, ht, hc]
    simp only [hk, if_true, hp]
    rw [if_pos (by rw [← h0]; exact ht), h0]
  · have ht : stext k r = nmOf k ++ ByteArray.mk #[40] ++ strOfNums (decL r 1) ++ ByteArray.mk #[41] := by rw [stext, if_pos h, if_neg h0]
    have hb : bytesOf (stext k r) = bytesOf (nmOf k) ++ 40 :: bytesOf (strOfNums (decL r 1) ++ ByteArray.mk #[41]) := by
      rw [ht, bytesOf_append, bytesOf_append, bytesOf_append, bytesOf_append]
      have e40 : bytesOf (ByteArray.mk #[40]) = [40] := rfl
      have e41 : bytesOf (ByteArray.mk #[41]) = [41] := rfl
      rw [e40, e41]
      simp
    have hc := pcut_at (fun hm => (nm_no40 k 40 hm).1 rfl) hb
    have hp : parseR (bytesOf (strOfNums (decL r 1) ++ ByteArray.mk #[41])) = r := by
      rw [bytesOf_append, dec_bytes (by omega), show bytesOf (ByteArray.mk #[41]) = [41] from rfl]
      exact parseR_dec (by omega)
    rw [sparse, hc]
    simp only [hk, if_true, hp]
/-- What is read is a right slot, with that text. -/
theorem parse_ok {s : ByteArray} (h : (sparse s).2.2 = true) : slotR (sparse s).1 (sparse s).2.1 ∧ stext (sparse s).1 (sparse s).2.1 = s := by
  unfold sparse at h ⊢
  by_cases hk : (kindOf (pcut s).1).2 = true
  · rw [if_pos hk] at h ⊢
    by_cases ht : stext (kindOf (pcut s).1).1 (parseR (bytesOf (pcut s).2.1)) = s
    · rw [if_pos ht] at h ⊢
      refine ⟨?_, ht⟩
      by_cases hs : slotR (kindOf (pcut s).1).1 (parseR (bytesOf (pcut s).2.1))
      · exact hs
      · exfalso
        rw [stext, if_neg hs] at ht
        subst ht
        revert hk
        decide
    · rw [if_neg ht] at h
      cases h
  · rw [if_neg hk] at h
    cases h
theorem parse_no {s : ByteArray} (h : (sparse s).2.2 = false) : (sparse s).1 = 0 ∧ (sparse s).2.1 = 0 := by
  unfold sparse at h ⊢
  by_cases hk : (kindOf (pcut s).1).2 = true
  · rw [if_pos hk] at h ⊢
    by_cases ht : stext (kindOf (pcut s).1).1 (parseR (bytesOf (pcut s).2.1)) = s
    · rw [if_pos ht] at h
      cases h
    · rw [if_neg ht]
      exact ⟨rfl, rfl⟩
  · rw [if_neg hk]
    exact ⟨rfl, rfl⟩

end Go.Vc.VD

/- Own text of this claim: G6. -/
set_option maxRecDepth 20000
namespace Go.Vc.VD
open Go Go.Vc Go.Vc.V Go.RowKit Go.Proofs Vcx

/-- The same over a list of signs of one byte each. -/
def plist : List Int → Int → Int → Option (Int × Int)
  | [], n, sc => some (n, sc)
  | c :: r, n, sc => match pstep c n sc with
    | some x => plist r x.1 x.2
    | none => none

theorem strOfNums_get {l : List Int} {i : Nat} {x : Int} (hx : l[i]? = some x) (hi : i < (strOfNums l).size) : (strOfNums l)[i]'hi = UInt8.ofNat x.toNat := by
  have h1 : (strOfNums l)[i]'hi = (strOfNums l).data[i]'hi := rfl
  rw [h1]
  simp only [strOfNums, List.getElem_toArray, List.getElem_map]
  rw [(List.getElem?_eq_some_iff.1 hx).2]

theorem decode_list {l : List Int} {i : Nat} {x : Int} (hx : l[i]? = some x) (h0 : 0 ≤ x ∧ x < 128) : Utf8.decode (strOfNums l) i = (x.toNat, 1) := by
  have hi := (List.getElem?_eq_some_iff.1 hx).1
  have hsz : i < (strOfNums l).size := by rw [strOfNums_size]; exact hi
  have hg := strOfNums_get hx hsz
  have hn : ((strOfNums l)[i]'hsz).toNat = x.toNat := by
    rw [hg]
    simp
    omega
  rw [decode_ascii _ _ hsz (by rw [hn]; omega), hn]

theorem pgo_list {l : List Int} (hl : ∀ x ∈ l, 0 ≤ x ∧ x < 128) : ∀ (f pos : Nat) (n sc : Int), l.length - pos ≤ f → pgo (strOfNums l) f pos n sc = plist (l.drop pos) n sc
  | 0, pos, n, sc, h => by
    rw [List.drop_eq_nil_of_le (by omega)]
    rfl
  | f + 1, pos, n, sc, h => by
    rw [pgo, strOfNums_size]
    by_cases hp : pos < l.length
    · have hx : l[pos]? = some l[pos] := List.getElem?_eq_getElem hp
      have hb := hl _ (List.mem_of_getElem? hx)
      rw [if_pos hp, drop_cons hx, plist, decode_list hx hb]
      have e : ((l[pos].toNat : Nat) : Int) = l[pos] := by omega
      simp only [e]
      cases pstep l[pos] n sc with
      | none => rfl
      | some x => exact pgo_list hl f (pos + 1) _ _ (by omega)
    · rw [if_neg hp, List.drop_eq_nil_of_le (by omega)]
      rfl

theorem plist_dec (m least : Int) (hm : 0 ≤ m ∧ m ≤ 9007199254740992) (rest : List Int) : plist (decL m least ++ rest) 0 0 = plist rest m 0 := by
  rw [decL]
  have hs : ∀ q : Int, 0 ≤ q → q * 10 + m % 10 ≤ 9007199254740992 → pstep (48 + m % 10) q 0 = some (q * 10 + m % 10, 0) := by
    intro q hq hle
    rw [pstep, if_neg (by omega), if_neg (by omega), if_neg (by omega)]
    congr 2
    omega
  split
  · rw [List.append_assoc, plist_dec (m / 10) (least - 1) (by omega)]
    rw [List.singleton_append, plist, hs (m / 10) (by omega) (by omega)]
    simp only
    rw [show m / 10 * 10 + m % 10 = m by omega]
  · rw [List.singleton_append, plist, hs 0 (by omega) (by omega)]
    simp only
    rw [show 0 * 10 + m % 10 = m by omega]
termination_by m.toNat + least.toNat
decreasing_by
  all_goals omega

theorem pstep_digit {d n sc : Int} (hd : 0 ≤ d ∧ d ≤ 9) (hsc : sc ≠ 1) (hle : n * 10 + d ≤ 9007199254740992) : pstep (48 + d) n sc = some (n * 10 + d, sc / 10) := by
  rw [pstep, if_neg (by omega), if_neg (by omega), if_neg (by omega)]
  congr 2
  omega

theorem parse_txt {n : Int} (h : 0 ≤ n ∧ n ≤ 9007199254740992) : qparse (strOfNums (txtL n)) = (n, true) := by
  have hby : ∀ x ∈ txtL n, 0 ≤ x ∧ x < 128 := by
    intro x hx
    rw [txtL, if_pos h] at hx
    split at hx
    · have := decL_byte _ _ (by omega) x hx
      omega
    · rw [strip3 _ (by omega)] at hx
      rcases List.mem_append.1 hx with hx | hx
      · rcases List.mem_append.1 hx with hx | hx
        · have := decL_byte _ _ (by omega) x hx
          omega
        · simp at hx
          omega
      · rw [frac3] at hx
        repeat' split at hx
        all_goals (simp at hx; omega)
  have hgo : ∃ p, pgo (strOfNums (txtL n)) (strOfNums (txtL n)).size 0 0 0 = some p ∧ fin p.1 p.2 = (n, true) := by
    rw [pgo_list hby _ _ _ _ (by rw [strOfNums_size]; omega), List.drop_zero, txtL, if_pos h]
    have hfin : ∀ m sc k : Int, k = (if sc = 0 then 1000 else sc) → 0 ≤ m → 1 ≤ k → m * k = n → k = 1 ∨ k = 10 ∨ k = 100 ∨ k = 1000 → fin m sc = (n, true) := by
      intro m sc k hk hm hk1 hmk hk4
      rw [fin, ← hk, qtimes, if_neg, hmk]
      rintro (h1 | h1 | h1 | ⟨h1, h2⟩)
      · omega
      · omega
      · omega
      · have hd : 9007199254740992 / m < k := h2
        rw [Int.ediv_lt_iff_lt_mul h1] at hd
        rw [Int.mul_comm] at hmk
        omega
    split
    · rename_i h0
      refine ⟨(n / 1000, 0), ?_, hfin (n / 1000) 0 1000 rfl (by omega) (by omega) (by omega) (by omega)⟩
      have := plist_dec (n / 1000) 1 (by omega) []
      rw [List.append_nil] at this
      rw [this]
      rfl
    · rename_i h0
      rw [strip3 _ (by omega), List.append_assoc, plist_dec (n / 1000) 1 (by omega)]
      have h46 : pstep 46 (n / 1000) 0 = some (n / 1000, 1000) := by rw [pstep, if_pos ⟨rfl, rfl⟩]
      rw [List.singleton_append, plist, h46]
      simp only
      generalize hr : n % 1000 = r at *
      generalize hq : n / 1000 = q at *
      have s1 : pstep (48 + r / 100) q 1000 = some (q * 10 + r / 100, 100) := pstep_digit (by omega) (by omega) (by omega)
      have s2 : pstep (48 + r / 10 % 10) (q * 10 + r / 100) 100 = some ((q * 10 + r / 100) * 10 + r / 10 % 10, 10) := pstep_digit (by omega) (by omega) (by omega)
      have s3 : pstep (48 + r % 10) ((q * 10 + r / 100) * 10 + r / 10 % 10) 10 = some (((q * 10 + r / 100) * 10 + r / 10 % 10) * 10 + r % 10, 1) := pstep_digit (by omega) (by omega) (by omega)
      rw [frac3]
      split
      · split
        · exact ⟨_, by rw [plist, s1]; rfl, hfin (q * 10 + r / 100) 100 100 rfl (by omega) (by omega) (by omega) (by omega)⟩
        · exact ⟨_, by rw [plist, s1]; simp only; rw [plist, s2]; rfl, hfin ((q * 10 + r / 100) * 10 + r / 10 % 10) 10 10 rfl (by omega) (by omega) (by omega) (by omega)⟩
      · exact ⟨_, by rw [plist, s1]; simp only; rw [plist, s2]; simp only; rw [plist, s3]; rfl, hfin (((q * 10 + r / 100) * 10 + r / 10 % 10) * 10 + r % 10) 1 1 rfl (by omega) (by omega) (by omega) (by omega)⟩
  obtain ⟨p, hp, hf⟩ := hgo
  rw [qparse, hp]
  simp only
  rw [hf, if_pos ⟨rfl, rfl⟩]

theorem fin_right {n sc : Int} (hn : 0 ≤ n) (h : (fin n sc).2 = true) : 0 ≤ (fin n sc).1 ∧ (fin n sc).1 ≤ 9007199254740992 := by
  unfold fin at *
  generalize (if sc = 0 then 1000 else sc) = k at *
  unfold qtimes at *
  split at h
  · cases h
  · rename_i hno
    rw [if_neg hno]
    refine ⟨Int.mul_nonneg hn (by omega), ?_⟩
    rcases Int.lt_or_eq_of_le hn with ha | ha
    · have h1 : k ≤ 9007199254740992 / n := by omega
      have h2 : n * k ≤ n * (9007199254740992 / n) := Int.mul_le_mul_of_nonneg_left h1 (by omega)
      have h3 := Int.mul_ediv_self_le (x := 9007199254740992) (k := n) (by omega)
      simp only
      omega
    · subst ha
      simp

theorem pgo_nonneg (s : ByteArray) : ∀ (f pos : Nat) (n sc : Int) (x : Int × Int), 0 ≤ n → pgo s f pos n sc = some x → 0 ≤ x.1
  | 0, _, n, sc, x, hn, h => by cases h; exact hn
  | f + 1, pos, n, sc, x, hn, h => by
    rw [pgo] at h
    split at h
    · split at h
      · rename_i y hy
        refine pgo_nonneg s f _ _ _ x ?_ h
        rw [pstep] at hy
        split at hy
        · cases hy; exact hn
        · split at hy
          · cases hy
          · split at hy
            · cases hy
            · cases hy
              simp only
              omega
      · cases h
    · cases h
      exact hn

theorem parse_cases (s : ByteArray) : qparse s = (0, false) ∨ ∃ k : Int, qparse s = (k, true) ∧ (0 ≤ k ∧ k ≤ 9007199254740992) ∧ strOfNums (txtL k) = s := by
  rw [qparse]
  cases hp : pgo s s.size 0 0 0 with
  | none => exact .inl rfl
  | some x =>
    simp only
    split
    · rename_i hc
      exact .inr ⟨_, rfl, fin_right (pgo_nonneg s _ _ _ _ _ (Int.le_refl 0) hp) hc.1, hc.2⟩
    · exact .inl rfl

theorem txt_not {n : Int} (h : ¬ (0 ≤ n ∧ n ≤ 9007199254740992)) : strOfNums (txtL n) = strOfNums [] := by rw [txtL, if_neg h]
theorem parse_empty : qparse (strOfNums []) = (0, false) := by
  rcases parse_cases (strOfNums []) with h | ⟨k, h, hk, ht⟩
  · exact h
  · have hl := congrArg ByteArray.size ht
    rw [strOfNums_size, strOfNums_size, txtL, if_pos hk] at hl
    split at hl
    · rw [decL] at hl
      split at hl <;> simp at hl
    · rw [strip3 _ (by omega)] at hl
      simp at hl

end Go.Vc.VD

/- Words and commas, plainly. -/
set_option maxRecDepth 20000
set_option maxHeartbeats 1000000
namespace Go.Vc.VD
open Go Go.Vc Go.Vc.V Go.RowKit Go.Proofs Vcx

/-! ### One byte looked for -/
theorem idx1 (c : UInt8) : ∀ l : List UInt8, c ∉ l → Lib.index l [c] = -1
  | [], _ => rfl
  | b :: l, h => by
    have ih := idx1 c l fun hm => h (List.mem_cons_of_mem _ hm)
    have hb : b ≠ c := fun e => h (by rw [e]; simp)
    unfold Lib.index
    rw [ih]
    simp [Ne.symm hb]
theorem idx2 (c : UInt8) : ∀ a b : List UInt8, c ∉ a → Lib.index (a ++ c :: b) [c] = (a.length : Int)
  | [], b, _ => by
    show Lib.index (c :: b) [c] = 0
    unfold Lib.index
    simp
  | x :: a, b, h => by
    have ih := idx2 c a b fun hm => h (List.mem_cons_of_mem _ hm)
    have hb : x ≠ c := fun e => h (by rw [e]; simp)
    show Lib.index (x :: (a ++ c :: b)) [c] = _
    unfold Lib.index
    rw [ih]
    simp only [List.isPrefixOf, Bool.and_true, List.length_cons]
    rw [if_neg (by simpa using Ne.symm hb), if_neg (by simp)]
    omega
theorem cut1 {c : UInt8} {a b : List UInt8} (h : c ∉ a) : Lib.cut (a ++ c :: b) [c] = (a, b, true) := by
  unfold Lib.cut
  rw [idx2 c a b h, if_pos (by omega)]
  simp
theorem join_cons2 (c : UInt8) (x y : List UInt8) (r : List (List UInt8)) : Lib.join (x :: y :: r) [c] = x ++ c :: Lib.join (y :: r) [c] := by
  rw [Lib.join_cons, Lib.join_cons]
  simp [Lib.joinTail]
theorem join_snoc (c : UInt8) : ∀ (x : List UInt8) (r : List (List UInt8)) (y : List UInt8), Lib.join (x :: r ++ [y]) [c] = Lib.join (x :: r) [c] ++ [c] ++ y
  | x, r, y => by
    rw [List.cons_append, Lib.join_cons, Lib.join_cons]
    simp [Lib.joinTail]
theorem split_join (c : UInt8) : ∀ (x : List UInt8) (r : List (List UInt8)), (∀ w ∈ x :: r, c ∉ w) → Lib.count (Lib.join (x :: r) [c]) [c] = r.length ∧ Lib.splitK [c] 0 r.length (Lib.join (x :: r) [c]) = x :: r
  | x, [], h => by
    rw [Lib.join_one]
    exact ⟨Lib.count_miss (idx1 c x (h x (by simp))), rfl⟩
  | x, y :: r, h => by
    have ih := split_join c y r fun w hw => h w (List.mem_cons_of_mem _ hw)
    have hx := idx2 c x (Lib.join (y :: r) [c]) (h x (by simp))
    rw [join_cons2]
    have hd : (x ++ c :: Lib.join (y :: r) [c]).drop (x.length + [c].length) = Lib.join (y :: r) [c] := by
      rw [← List.drop_drop, List.drop_left]
      rfl
    refine ⟨?_, ?_⟩
    · rw [Lib.count_hit (by simp) hx, hd, ih.1]
      simp only [List.length_cons]
      omega
    · rw [List.length_cons, Lib.splitK, if_neg (by rw [hx]; simp), hx]
      have e : ((x.length : Int)).toNat = x.length := by omega
      rw [e, hd, ih.2]
      simp

/-! ### Bytes of words -/
theorem no_byte {c : UInt8} (hc : c = 44 ∨ c = 58) (p : PartT) : (44 : UInt8) ∉ (wordB p).data.toList ∧ c ∉ (stext p.1 p.2.1).data.toList := by
  have hs : ∀ k r, ∀ x ∈ bytesOf (stext k r), x ≠ 44 ∧ x ≠ 58 := fun k r => by
    have hn : ∀ x ∈ bytesOf (nmOf k), x ≠ 44 ∧ x ≠ 58 := by
      unfold nmOf
      split
      · rename_i h
        have hc : k = 0 ∨ k = 1 ∨ k = 2 ∨ k = 3 := by omega
        rcases hc with rfl | rfl | rfl | rfl <;> decide
      · decide
    unfold stext
    split
    · rename_i h
      unfold slotR at h
      split
      · exact hn
      · intro x hx
        rw [bytesOf_append, bytesOf_append, bytesOf_append, dec_bytes (by omega)] at hx
        simp only [List.mem_append] at hx
        rcases hx with ((hx | hx) | hx) | hx
        · exact hn x hx
        · have : x = 40 := by simpa [bytesOf] using hx
          omega
        · have := decL_byte r 1 (by omega) x hx
          omega
        · have : x = 41 := by simpa [bytesOf] using hx
          omega
    · intro x hx
      simp [bytesOf] at hx
  have ht : ∀ x ∈ bytesOf (strOfNums (txtL p.2.2)), x ≠ 44 := by
    have hd : ∀ x ∈ txtL p.2.2, x = 46 ∨ (48 ≤ x ∧ x ≤ 57) := by
      unfold txtL
      split
      · rename_i h
        split
        · exact fun x hx => .inr (decL_byte _ _ (by omega) x hx)
        · intro x hx
          unfold strip at hx
          rw [List.mem_reverse] at hx
          have hx := (List.dropWhile_sublist _).subset hx
          rw [List.mem_reverse] at hx
          simp only [List.mem_append, List.mem_singleton] at hx
          rcases hx with (hx | hx) | hx
          · exact .inr (decL_byte _ _ (by omega) x hx)
          · exact .inl hx
          · exact .inr (decL_byte _ _ (by omega) x hx)
      · intro x hx
        cases hx
    intro x hx
    rw [bytesOf_strOfNums fun y hy => by have := hd y hy; omega] at hx
    have := hd x hx
    omega
  refine ⟨mem_bytes (s := wordB p) (c := 44) fun hm => ?_, mem_bytes (s := stext p.1 p.2.1) (c := c) fun hm => ?_⟩
  · unfold wordB at hm
    rw [bytesOf_append, bytesOf_append] at hm
    simp only [List.mem_append] at hm
    rcases hm with (hm | hm) | hm
    · exact (hs _ _ _ hm).1 rfl
    · revert hm
      decide
    · exact ht _ hm rfl
  · have := hs _ _ _ hm
    rcases hc with rfl | rfl
    · exact this.1 rfl
    · exact this.2 rfl

/-! ### Reading -/
def cut58 (b : ByteArray) : ByteArray × ByteArray := (⟨(Lib.cut b.data.toList [58]).1.toArray⟩, ⟨(Lib.cut b.data.toList [58]).2.1.toArray⟩)
noncomputable def wordP (b : ByteArray) : Option PartT := if (sparse (cut58 b).1).2.2 = true ∧ (qparse (cut58 b).2).2 = true then some ((sparse (cut58 b).1).1, (sparse (cut58 b).1).2.1, (qparse (cut58 b).2).1) else none
theorem word_back {p : PartT} (h : partR p) : wordP (wordB p) = some p := by
  have hc : cut58 (wordB p) = (stext p.1 p.2.1, strOfNums (txtL p.2.2)) := by
    have e : (wordB p).data.toList = (stext p.1 p.2.1).data.toList ++ 58 :: (strOfNums (txtL p.2.2)).data.toList := by
      unfold wordB
      rw [ByteArray.data_append, Array.toList_append, ByteArray.data_append, Array.toList_append]
      simp
    unfold cut58
    rw [e, cut1 (no_byte (.inr rfl) p).2]
  unfold partR at h
  unfold wordP
  rw [hc]
  simp only
  rw [parse_text h.1, parse_txt (by omega), if_pos ⟨rfl, rfl⟩]
noncomputable def wordsOf (s : ByteArray) : List ByteArray := Lib.splitB (ByteArray.mk #[44]) 0 (Lib.countB s (ByteArray.mk #[44])) s
open Classical in
noncomputable def vparse (s : ByteArray) : List PartT × Bool :=
  if s = ByteArray.mk #[45] then ([], true)
  else if (∀ b ∈ wordsOf s, (wordP b).isSome = true) ∧ vtext ((wordsOf s).filterMap wordP) = s then ((wordsOf s).filterMap wordP, true) else ([], false)
theorem data_inj : ∀ {a b : List ByteArray}, a.map (fun b => b.data.toList) = b.map (fun b => b.data.toList) → a = b
  | [], [], _ => rfl
  | [], _ :: _, h => by simp at h
  | _ :: _, [], h => by simp at h
  | x :: a, y :: b, h => by
    rw [List.map_cons, List.map_cons, List.cons.injEq] at h
    rw [data_inj h.2]
    congr 1
    obtain ⟨x⟩ := x
    obtain ⟨y⟩ := y
    congr 1
    exact Array.ext' h.1
theorem words_join {x : PartT} {r : List PartT} : wordsOf ⟨(Lib.join ((x :: r).map fun p => (wordB p).data.toList) [44]).toArray⟩ = (x :: r).map wordB := by
  have h := split_join 44 (wordB x).data.toList (r.map fun p => (wordB p).data.toList) fun w hw => by
    rcases List.mem_cons.1 hw with rfl | hw
    · exact (no_byte (.inl rfl) x).1
    · obtain ⟨p, _, rfl⟩ := List.mem_map.1 hw
      exact (no_byte (.inl rfl) p).1
  have hd := Lib.splitB_data (ByteArray.mk #[44]) 0 r.length ⟨(Lib.join ((x :: r).map fun p => (wordB p).data.toList) [44]).toArray⟩
  have hk : Lib.countB (⟨(Lib.join ((x :: r).map fun p => (wordB p).data.toList) [44]).toArray⟩ : ByteArray) (ByteArray.mk #[44]) = r.length := by
    have := h.1
    rw [List.length_map] at this
    exact this
  unfold wordsOf
  rw [hk]
  have e2 : Lib.splitK [44] 0 r.length (Lib.join ((x :: r).map fun p => (wordB p).data.toList) [44]) = (x :: r).map fun p => (wordB p).data.toList := by
    have := h.2
    rw [List.length_map] at this
    exact this
  have e3 : (Lib.splitB (ByteArray.mk #[44]) 0 r.length ⟨(Lib.join ((x :: r).map fun p => (wordB p).data.toList) [44]).toArray⟩).map (fun b => b.data.toList) = ((x :: r).map wordB).map fun b => b.data.toList := by
    rw [hd]
    show Lib.splitK [44] 0 r.length (Lib.join ((x :: r).map fun p => (wordB p).data.toList) [44]) = _
    rw [e2, List.map_map]
    rfl
  exact data_inj e3
theorem text_some {v : List PartT} (h : vecB v = true) (h0 : v ≠ []) : vtext v ≠ ByteArray.mk #[45] ∧ wordsOf (vtext v) = v.map wordB := by
  cases v with
  | nil => exact absurd rfl h0
  | cons x r =>
    have e : vtext (x :: r) = ⟨(Lib.join ((x :: r).map fun p => (wordB p).data.toList) [44]).toArray⟩ := by
      unfold vtext
      rw [if_pos h, if_neg h0]
    have hw : wordsOf (vtext (x :: r)) = (x :: r).map wordB := by rw [e, words_join]
    refine ⟨fun hh => ?_, hw⟩
    have hx : wordsOf (ByteArray.mk #[45]) = [ByteArray.mk #[45]] := by
      unfold wordsOf
      have : Lib.countB (ByteArray.mk #[45]) (ByteArray.mk #[44]) = 0 := by decide
      rw [this]
      rfl
    rw [hh, hx] at hw
    have hc := congrArg (fun l => (l.map fun b : ByteArray => (58 : UInt8) ∈ b.data.toList)[0]?) hw
    simp at hc
    have : (58 : UInt8) ∈ (wordB x).data.toList := by
      unfold wordB
      rw [ByteArray.data_append, Array.toList_append, ByteArray.data_append, Array.toList_append]
      simp
    have h45 : (58 : UInt8) ∈ (ByteArray.mk #[45]).data.toList := by
      have e1 := (List.cons.inj hw).1
      rw [e1]
      exact this
    revert h45
    decide
theorem filterMap_back : ∀ {v : List PartT}, (∀ p ∈ v, partR p) → (v.map wordB).filterMap wordP = v
  | [], _ => rfl
  | p :: v, h => by
    rw [List.map_cons, List.filterMap_cons_some (word_back (h p (by simp))), filterMap_back fun q hq => h q (List.mem_cons_of_mem _ hq)]
theorem back_ok {v : List PartT} (h : vecB v = true) : vparse (vtext v) = (v, true) := by
  have hR := (vecB_iff.1 h).1
  by_cases h0 : v = []
  · subst h0
    have e : vtext [] = ByteArray.mk #[45] := by
      unfold vtext
      rw [if_pos h, if_pos rfl]
    unfold vparse
    rw [if_pos e]
  · obtain ⟨h1, h2⟩ := text_some h h0
    unfold vparse
    rw [if_neg h1, h2, filterMap_back hR, if_pos]
    refine ⟨fun b hb => ?_, rfl⟩
    obtain ⟨p, hp, rfl⟩ := List.mem_map.1 hb
    rw [word_back (hR p hp)]
    rfl
theorem word_empty : wordP (ByteArray.mk #[]) = none := by
  unfold wordP
  rw [if_neg]
  rintro ⟨_, h⟩
  have e : (cut58 (ByteArray.mk #[])).2 = strOfNums [] := by decide
  rw [e, parse_empty] at h
  cases h
theorem parse_none : vparse (ByteArray.mk #[]) = ([], false) := by
  have hx : wordsOf (ByteArray.mk #[]) = [ByteArray.mk #[]] := by
    unfold wordsOf
    have : Lib.countB (ByteArray.mk #[]) (ByteArray.mk #[44]) = 0 := by decide
    rw [this]
    rfl
  unfold vparse
  rw [if_neg (by decide), if_neg]
  rintro ⟨h, _⟩
  have := h (ByteArray.mk #[]) (by rw [hx]; simp)
  rw [word_empty] at this
  cases this
theorem text_wrong {v : List PartT} (h : ¬ vecB v = true) : vtext v = ByteArray.mk #[] := by
  unfold vtext
  rw [if_neg h]
theorem parse_right {s : ByteArray} (h : (vparse s).2 = true) : vecB (vparse s).1 = true ∧ vtext (vparse s).1 = s := by
  by_cases h0 : s = ByteArray.mk #[45]
  · subst h0
    have e : vparse (ByteArray.mk #[45]) = ([], true) := by unfold vparse; rw [if_pos rfl]
    rw [e]
    refine ⟨rfl, ?_⟩
    show vtext [] = _
    unfold vtext
    rw [if_pos (by decide), if_pos rfl]
  · have h2 := h
    unfold vparse at h2
    rw [if_neg h0] at h2
    split at h2
    · rename_i hc
      have e : vparse s = ((wordsOf s).filterMap wordP, true) := by
        unfold vparse
        rw [if_neg h0, if_pos hc]
      rw [e]
      refine ⟨?_, hc.2⟩
      by_cases hv : vecB ((wordsOf s).filterMap wordP) = true
      · exact hv
      · have hs := hc.2
        rw [text_wrong hv] at hs
        rw [← hs, parse_none] at h
        cases h
    · cases h2
theorem parse_not {s : ByteArray} (h : (vparse s).2 = false) : (vparse s).1 = [] := by
  unfold vparse at h ⊢
  split
  · rfl
  · rename_i h0
    rw [if_neg h0] at h
    split
    · rename_i hc
      rw [if_pos hc] at h
      cases h
    · rfl
theorem text_parse (v : List PartT) : (vparse (vtext v)).2 = vecB v := by
  by_cases h : vecB v = true
  · rw [back_ok h, h]
  · rw [text_wrong h, parse_none]
    simpa using h
end Go.Vc.VD

/- The formulas of functions, printed by a program (VcTool.lean): each is what the generator's formula comes to, by the kernel's reckoning; whoever proves one has the function's contract. -/
set_option maxRecDepth 100000
set_option maxHeartbeats 1000000
set_option linter.unusedVariables false
namespace Vcx
open Go Go.Vc Go.RowKit
/-! manciple/manciplelaw05.VecTexts -/
def h8 : Hints := ⟨[], [], [17, 48, 13, 34, 40, 42, 50, 54, 60, 63, 69], [], [], [], [(7, ⟨[], []⟩)], [], []⟩
def f8_vc (va : Option Addr) (vn : Nat) (vc : Nat) (s : ByteArray) (w : World) (R : Ending → World → Prop) : Prop :=
 OpW Proofs.Tryd.prog (valueS (Instr.buildSlice 44 1 #[(0, Value.slice va vn vc)])) w fun (v1 : Value) (w2 : World) =>
 ∃ (a3 : Option Addr),
 ∃ (n4 : Nat),
 ∃ (n5 : Nat),
 v1 = Value.slice a3 n4 n5 ∧
 Calls Proofs.Tryd.prog 9 #[Value.slice a3 n4 n5] w2 fun (e6 : Ending) (w7 : World) =>
 ∃ (b8 : Bool),
 e6 = Ending.returned (Value.bool b8) ∧
 ((!b8) = true → R (Ending.returned (Value.bool true)) w7) ∧
 ((!b8) = false →
 (decide ((↑s.size : Int) > 4000) = true → R (Ending.returned (Value.bool true)) w7) ∧
 (decide ((↑s.size : Int) > 4000) = false →
 Calls Proofs.Tryd.prog 33 #[Value.slice va vn vc] w7 fun (e9 : Ending) (w10 : World) =>
 ∃ (s11 : ByteArray),
 e9 = Ending.returned (Value.string s11) ∧
 Calls Proofs.Tryd.prog 32 #[Value.string s11] w10 fun (e12 : Ending) (w13 : World) =>
 ∃ (a14 : Option Addr),
 ∃ (n15 : Nat),
 ∃ (n16 : Nat),
 ∃ (b17 : Bool),
 e12 = Ending.returned (Value.tuple #[Value.slice a14 n15 n16, Value.bool b17]) ∧
 Calls Proofs.Tryd.prog 32 #[Value.string s] w13 fun (e18 : Ending) (w19 : World) =>
 ∃ (a20 : Option Addr),
 ∃ (n21 : Nat),
 ∃ (n22 : Nat),
 ∃ (b23 : Bool),
 e18 = Ending.returned (Value.tuple #[Value.slice a20 n21 n22, Value.bool b23]) ∧
 ∃ (J24 : Unit → World → Prop),
 (Calls Proofs.Tryd.prog 33 #[Value.slice va vn vc] w19 fun (e25 : Ending) (w26 : World) =>
 ∃ (s27 : ByteArray),
 e25 = Ending.returned (Value.string s27) ∧
 Calls Proofs.Tryd.prog 34 #[Value.slice va vn vc] w26 fun (e28 : Ending) (w29 : World) =>
 ∃ (s30 : ByteArray),
 e28 = Ending.returned (Value.string s30) ∧
 ((!s27.toList == s30.toList) = true → R (Ending.returned (Value.bool false)) w29) ∧
 ((!s27.toList == s30.toList) = false →
 Calls Proofs.Tryd.prog 17 #[Value.slice va vn vc] w29 fun (e31 : Ending) (w32 : World) =>
 ∃ (b33 : Bool),
 e31 = Ending.returned (Value.bool b33) ∧
 ((!b17 == b33) = true → R (Ending.returned (Value.bool false)) w32) ∧
 ((!b17 == b33) = false →
 (b17 = true →
 Calls Proofs.Tryd.prog 16 #[Value.slice a14 n15 n16, Value.slice va vn vc] w32 fun (e34 : Ending) (w35 : World) =>
 ∃ (b36 : Bool),
 e34 = Ending.returned (Value.bool b36) ∧ ((!b36) = true → R (Ending.returned (Value.bool false)) w35) ∧ ((!b36) = false → J24 () w35)) ∧
 (b17 = false → J24 () w32)))) ∧
 ∀ (w37 : World),
 J24 () w37 →
 (b23 = true →
 Calls Proofs.Tryd.prog 17 #[Value.slice a20 n21 n22] w37 fun (e38 : Ending) (w39 : World) =>
 ∃ (b40 : Bool),
 e38 = Ending.returned (Value.bool b40) ∧
 (b40 = true →
 Calls Proofs.Tryd.prog 34 #[Value.slice a20 n21 n22] w39 fun (e41 : Ending) (w42 : World) =>
 ∃ (s43 : ByteArray),
 e41 = Ending.returned (Value.string s43) ∧
 ((s43.toList == s.toList) = true →
 Calls Proofs.Tryd.prog 13 #[] w42 fun (e44 : Ending) (w45 : World) =>
 ∃ (b46 : Bool), e44 = Ending.returned (Value.bool b46) ∧ R (Ending.returned (Value.bool b46)) w45) ∧
 ((s43.toList == s.toList) = false →
 ((!b23) = true →
 (((↑n21 : Int) == 0) = true →
 Calls Proofs.Tryd.prog 13 #[] w42 fun (e47 : Ending) (w48 : World) =>
 ∃ (b49 : Bool), e47 = Ending.returned (Value.bool b49) ∧ R (Ending.returned (Value.bool b49)) w48) ∧
 (((↑n21 : Int) == 0) = false → R (Ending.returned (Value.bool false)) w42)) ∧
 ((!b23) = false → R (Ending.returned (Value.bool false)) w42))) ∧
 (b40 = false →
 ((!b23) = true →
 (((↑n21 : Int) == 0) = true →
 Calls Proofs.Tryd.prog 13 #[] w39 fun (e50 : Ending) (w51 : World) =>
 ∃ (b52 : Bool), e50 = Ending.returned (Value.bool b52) ∧ R (Ending.returned (Value.bool b52)) w51) ∧
 (((↑n21 : Int) == 0) = false → R (Ending.returned (Value.bool false)) w39)) ∧
 ((!b23) = false → R (Ending.returned (Value.bool false)) w39))) ∧
 (b23 = false →
 ((!b23) = true →
 (((↑n21 : Int) == 0) = true →
 Calls Proofs.Tryd.prog 13 #[] w37 fun (e53 : Ending) (w54 : World) =>
 ∃ (b55 : Bool), e53 = Ending.returned (Value.bool b55) ∧ R (Ending.returned (Value.bool b55)) w54) ∧
 (((↑n21 : Int) == 0) = false → R (Ending.returned (Value.bool false)) w37)) ∧
 ((!b23) = false → R (Ending.returned (Value.bool false)) w37))))
theorem f8_eq (va : Option Addr) (vn : Nat) (vc : Nat) (s : ByteArray) (w : World) (R : Ending → World → Prop) : (fnF Go.Proofs.Tryd.prog h8 Go.Proofs.Tryd.f8 [Value.slice va vn vc, Value.string s] w R).den = f8_vc va vn vc s w R := by kernel_rfl
theorem f8_calls (va : Option Addr) (vn : Nat) (vc : Nat) (s : ByteArray) (w : World) (R : Ending → World → Prop) (h : f8_vc va vn vc s w R) : Calls Go.Proofs.Tryd.prog 8 (List.toArray [Value.slice va vn vc, Value.string s]) w R :=
 fn_sound (H := h8) (fn := Go.Proofs.Tryd.f8) (by kernel_rfl) (by kernel_rfl) (by kernel_rfl) ((f8_eq va vn vc s w R).mpr h)

end Vcx

/- vec.Parse, the reference's Text, VecTexts. -/
set_option maxRecDepth 20000
set_option maxHeartbeats 1000000
namespace Go.Vc.VD
open Go Go.Vc Go.Vc.V Go.RowKit Go.Proofs Vcx

variable {w W W' : World} {M : Nat → Prop} {gs : List Nat}

def RetQW (P : Program) (f : FuncId) (args : Array Value) (W : World) (Q : Value → World → Prop) : Prop :=
  ∀ R : Ending → World → Prop, (∀ v w', Below W.heap.size W w' → Q v w' → R (.returned v) w') → Calls P f args W R
/-- The library's own number, in memory. -/
def MaxL (W : World) : Prop := ∃ m, W.cell? ⟨0, 0, none⟩ = some (.int .i64 m)
theorem MaxL.low (h : MaxL W) (hb : Below W.heap.size W W') : MaxL W' := h.imp fun _ h => cell_below hb _ _ h
theorem bel_drewN (w : World) (n : Nat) : Bel w (w.drewN n) := ⟨⟨rfl, rfl, rfl, Nat.le_refl _, fun _ _ => rfl⟩, Nat.le_add_right _ _⟩

theorem split_small (sep : ByteArray) : ∀ (k : Nat) (s : ByteArray), ∀ b ∈ Lib.splitB sep 0 k s, b.size ≤ s.size
  | 0, s, b, hb => by
    rw [Lib.splitB_zero, List.mem_singleton] at hb
    rw [hb]
    exact Nat.le_refl _
  | k + 1, s, b, hb => by
    unfold Lib.splitB at hb
    split at hb
    · rw [List.mem_singleton] at hb
      rw [hb]
      exact Nat.le_refl _
    · rcases List.mem_cons.1 hb with rfl | hb
      · rw [ByteArray.size_extract]
        omega
      · have := split_small sep k _ b hb
        rw [ByteArray.size_extract] at this
        omega
theorem flat_str (l : List ByteArray) : l.flatMap strE = l.map Value.string := by
  induction l with
  | nil => rfl
  | cons x l ih => rw [List.flatMap_cons, ih]; rfl
theorem c50 (s : ByteArray) (w : World) (hs : s.size < 4294967281) (hM : MaxL w) : RetQ Tryd.prog 50 #[.string s, .string (ByteArray.mk #[44])] w fun v w' => ∃ a n c, v = .slice a n c ∧ SlE w' 1 strE (wordsOf s) a n c := by
  intro R h
  obtain ⟨m, hm⟩ := hM
  refine (Tryd.strings_Split s (ByteArray.mk #[44]) m w hs hm (by decide)).mono fun e w' ⟨he, hw⟩ => ?_
  subst he hw
  have hlen : (wordsOf s).length = Lib.countB s (ByteArray.mk #[44]) + 1 := Lib.splitB_all (ByteArray.mk #[44]) (by decide) 0 _ s rfl
  have hle := Lib.countB_le (ByteArray.mk #[44]) (by decide) _ s (Nat.le_refl _)
  refine h _ _ (below_alloc _) ⟨_, _, _, rfl, ?_⟩
  have ho : OwnL w [] (w.alloc (.cells ((wordsOf s).map Value.string).toArray 9)) 9 1 strE (.slice (some ⟨w.heap.size, 0, none⟩) (wordsOf s).length (wordsOf s).length) (wordsOf s) :=
    OwnF.ret (n := (wordsOf s).length) (xs := (wordsOf s).flatMap strE) (At.refl w) ⟨by rw [flat_str]; simp, .inr ⟨w.heap.size, _, _, rfl, Nat.le_refl _, heap_alloc_new _ _, Nat.le_refl _, by simp only [maxLen]; omega, by simp, by rw [flat_str, List.toList_toArray]; exact List.take_of_length_le (by simp)⟩⟩ rfl rfl
  have hsl := ho.sl fun _ _ => rfl
  rw [hlen] at hsl
  exact hsl
theorem c51b (s : ByteArray) (w : World) (hs : s.size < 4294967281) (hM : MaxL w) : RetQ Tryd.prog 51 #[.string s, .string (ByteArray.mk #[58])] w fun v _ => ∃ b, v = .tuple #[.string (cut58 s).1, .string (cut58 s).2, .bool b] := by
  intro R h
  obtain ⟨m, hm⟩ := hM
  refine (Tryd.strings_Cut s (ByteArray.mk #[58]) m w hs hm).mono fun e w' ⟨he, n, hw⟩ => ?_
  subst he hw
  exact h _ _ (bel_drewN w n) ⟨_, rfl⟩
theorem cut_small (s : ByteArray) : (cut58 s).1.size ≤ s.size ∧ (cut58 s).2.size ≤ s.size := by
  have e : ∀ l : List UInt8, (⟨l.toArray⟩ : ByteArray).size = l.length := fun l => by simp [ByteArray.size]
  have hs : s.size = s.data.toList.length := by rw [Array.length_toList]; rfl
  show (⟨(Lib.cut s.data.toList [58]).1.toArray⟩ : ByteArray).size ≤ s.size ∧ (⟨(Lib.cut s.data.toList [58]).2.1.toArray⟩ : ByteArray).size ≤ s.size
  rw [e (Lib.cut s.data.toList [58]).1, e (Lib.cut s.data.toList [58]).2.1, hs]
  unfold Lib.cut
  split
  · simp only [List.length_take, List.length_drop]
    omega
  · simp
theorem text_small (v : List PartT) : (vtext v).size ≤ 200000 := by
  unfold vtext
  split
  · rename_i hv
    split
    · decide
    · have := join_small v
      have hl := vec_len' hv
      have e : ∀ l : List UInt8, (⟨l.toArray⟩ : ByteArray).size = l.length := fun l => by simp [ByteArray.size]
      rw [e]
      omega
  · decide

open Classical in
theorem c32 (s : ByteArray) (w : World) (hT : Tab w) (hM : MaxL w) (hs : s.size < 200001) : RetQW Tryd.prog 32 #[.string s] w fun v w' => ∃ a n c, v = .tuple #[.slice a n c, .bool (vparse s).2] ∧ SlE w' 3 partE (vparse s).1 a n c := by
  intro R h
  refine f32_calls s w R ?_
  unfold f32_vc
  have hnil : ∀ W, SlE W 3 partE [] none 0 0 := fun W => ⟨rfl, Nat.le_refl _, Nat.zero_le _, fun _ => rfl, fun i x hx => by simp at hx⟩
  refine at_callq (At.refl w) (c50 s w (by omega) hM) fun v w2 hA _ hb2 ⟨a3, n4, c5, e, hsl⟩ => ?_
  subst e
  have hn := hsl.1
  have hlw : (wordsOf s).length ≤ 200002 := by
    have hlen : (wordsOf s).length = Lib.countB s (ByteArray.mk #[44]) + 1 := Lib.splitB_all (ByteArray.mk #[44]) (by decide) 0 _ s rfl
    have hle := Lib.countB_le (ByteArray.mk #[44]) (by decide) _ s (Nat.le_refl _)
    omega
  have bad : ∀ {W'}, Below w.heap.size w W' → (∃ b ∈ wordsOf s, wordP b = none) → s ≠ ByteArray.mk #[45] → R (.returned (.tuple #[.slice none 0 0, .bool false])) W' := fun {W'} hb ⟨b, hbm, hbn⟩ h0 => by
    have e : vparse s = ([], false) := by
      unfold vparse
      rw [if_neg h0, if_neg]
      rintro ⟨hh, _⟩
      have := hh b hbm
      rw [hbn] at this
      cases this
    exact h _ _ hb ⟨none, 0, 0, by rw [e], by rw [e]; exact hnil _⟩
  have hT2 := hT.below hb2
  have lowB : ∀ {W' : World} {gs : List Nat}, At w2 gs W' → Below w.heap.size w W' := fun hA => hb2.below.trans (hA.below.below.mono hb2.size)
  have hlen' : (wordsOf s).length = Lib.countB s (ByteArray.mk #[44]) + 1 := Lib.splitB_all (ByteArray.mk #[44]) (by decide) 0 _ s rfl
  refine ⟨_, _, _, rfl, fun v W' => At w2 [] W' ∧ ∃ i : Nat, v.2.1 = i ∧ i ≤ (wordsOf s).length ∧ (i ≠ 0 → s ≠ ByteArray.mk #[45]) ∧ OwnL w2 [] W' 46 3 partE (.slice v.1.1 v.1.2.1 v.1.2.2) (((wordsOf s).take i).filterMap wordP) ∧ ∀ b ∈ (wordsOf s).take i, (wordP b).isSome = true, fun v _ => (n4 - v.2.1).toNat, ⟨At.refl w2, 0, rfl, Nat.zero_le _, fun hh => absurd rfl hh, OwnL.nil, fun b hb => by simp at hb⟩, ?_⟩
  rintro a8 n9 n10 x11 w12 ⟨hA, i, hi, hil, h45, ho, hall⟩
  simp only at hi ho
  subst hi
  refine brD (fun hlt => ?_) (fun hge => ?_)
  · obtain ⟨b, hb⟩ : ∃ x, (wordsOf s)[i]? = some x := ⟨_, List.getElem?_eq_getElem (by omega)⟩
    obtain ⟨ad, g1, r1⟩ := rd_one (P := Tryd.prog) (k := .i64) (t := 63) (te := 9) (e := 9) (ds := []) (hsl.call hA.below) hb rfl (by kernel_rfl) (by kernel_rfl) (by kernel_rfl) (fun _ h => by cases h)
    have hbs : b.size ≤ s.size := split_small _ _ _ b (List.mem_of_getElem? hb)
    refine ⟨ad, g1, _, r1, ?_⟩
    rw [toList_beq s (ByteArray.mk #[45])]
    refine brD (fun he => ?_) (fun hne => ?_)
    · have hi0 : i = 0 := Classical.byContradiction fun hh => h45 hh he
      subst hi0
      refine c33 w12 (hT2.below hA.below) (ho.sl fun _ _ => rfl) _ fun w16 hb16 => ⟨_, rfl, ?_⟩
      have ht : vtext (((wordsOf s).take 0).filterMap wordP) = s := by
        rw [he]
        show vtext [] = _
        unfold vtext
        rw [if_pos (by decide), if_pos rfl]
      have hv : vparse s = ([], true) := by unfold vparse; rw [if_pos he]
      rw [ht]
      refine ⟨fun e => by simp at e, fun _ => ?_⟩
      refine h _ _ ((lowB hA).trans (hb16.mono (Nat.le_trans hb2.size hA.size))) ⟨a8, n9, n10, by rw [hv], ?_⟩
      rw [hv]
      exact SlE.low (ho.sl fun _ _ => rfl) hb16
    · have hM12 : MaxL w12 := hM.low (lowB hA)
      have hcs := cut_small b
      refine at_callq hA (c51b b w12 (by omega) hM12) fun v w19 hA _ hb19 ⟨bb, e⟩ => ?_
      subst e
      refine ⟨_, _, _, rfl, ?_⟩
      refine at_callb hA (c52 (cut58 b).1 (by simp only [maxLen]; omega) w19 (hT2.below hA.below)) fun w24 hA _ hb24 => ⟨_, _, _, rfl, ?_⟩
      intro n28 hn28 w29 hev hun
      have hbel := hev.bel (by simpa using hn28)
      have hsz24 := hA.size
      have hb29 := (hb19.trans hb24).trans hbel
      have hA29 : At w2 [n28] w29 := ⟨(hA.call hbel).chg, hun⟩
      have ho := ho.call hb29
      have ho : OwnL w2 [n28] w29 46 3 partE (.slice a8 n9 n10) (((wordsOf s).take i).filterMap wordP) := ⟨ho.row0, ho.mine, fun g hg e => by
        simp at hg
        subst hg
        obtain ⟨cur, hc⟩ := (‹OwnL w2 [] w12 46 3 partE (.slice a8 n9 n10) (((wordsOf s).take i).filterMap wordP)›).blk e
        have := (Array.getElem?_eq_some_iff.1 hc).1
        have := (hb19.trans hb24).size
        omega⟩
      refine at_callb hA29 (c53 (cut58 b).2 w29) fun w31 hA31 hk31 hb31 => ⟨_, _, rfl, hk31, ?_⟩
      have ho := ho.call hb31
      have hno : ∀ {x : Bool}, x = false → ((sparse (cut58 b).1).2.2 = x ∨ (qparse (cut58 b).2).2 = x) → wordP b = none := fun {x} hx hh => by
        unfold wordP
        rw [if_neg]
        rintro ⟨e1, e2⟩
        subst hx
        rcases hh with hh | hh
        · rw [hh] at e1; cases e1
        · rw [hh] at e2; cases e2
      refine brNB (fun hp => bad (lowB hA31) ⟨b, List.mem_of_getElem? hb, hno rfl (.inl hp)⟩ hne) (fun hp => brNB (fun hq => bad (lowB hA31) ⟨b, List.mem_of_getElem? hb, hno rfl (.inr hq)⟩ hne) (fun hq => ?_))
      have hw : wordP b = some ((sparse (cut58 b).1).1, (sparse (cut58 b).1).2.1, (qparse (cut58 b).2).1) := if_pos ⟨hp, hq⟩
      have htk : ((wordsOf s).take (i + 1)).filterMap wordP = ((wordsOf s).take i).filterMap wordP ++ [((sparse (cut58 b).1).1, (sparse (cut58 b).1).2.1, (qparse (cut58 b).2).1)] := by
        rw [List.take_add_one, hb, List.filterMap_append]
        congr 1
        simp [hw]
      have hle : (((wordsOf s).take i).filterMap wordP).length ≤ i := Nat.le_trans (List.length_filterMap_le ..) (by simp; omega)
      rw [succ_i i (by omega)]
      refine opw_push (f := partE) (e' := 46) (bytes := 24) hA31 ho ((sparse (cut58 b).1).1, (sparse (cut58 b).1).2.1, (qparse (cut58 b).2).1) (by kernel_rfl) (by kernel_rfl) rfl (fun _ _ => rfl) (part_one _) (by omega) (by omega) fun a2 c2 w40 hA40 ho40 hg _ => ?_
      refine ⟨⟨hA40.off, i + 1, rfl, by omega, fun _ => hne, ?_, fun x hx => ?_⟩, by simp only; omega⟩
      · simp only
        rw [htk]
        exact ho40.more (by simp)
      · rw [List.take_add_one, hb] at hx
        rcases List.mem_append.1 hx with hx | hx
        · exact hall x hx
        · simp at hx
          subst hx
          rw [hw]
          rfl
  · have hi' : i = (wordsOf s).length := by omega
    have hlp : 0 < (wordsOf s).length := by rw [hlen']; omega
    have h0 : s ≠ ByteArray.mk #[45] := h45 (by omega)
    rw [hi', List.take_length] at ho hall
    have hsl2 := ho.sl fun _ _ => rfl
    refine c33 w12 (hT2.below hA.below) hsl2 _ fun w45 hb45 => ⟨_, rfl, ?_⟩
    have hbw := (lowB hA).trans (hb45.mono (Nat.le_trans hb2.size hA.size))
    rw [toList_beq]
    refine ⟨fun e => ?_, fun e => ?_⟩
    · have hne : vtext ((wordsOf s).filterMap wordP) ≠ s := by simpa using e
      have hv : vparse s = ([], false) := by
        unfold vparse
        rw [if_neg h0, if_neg fun hh => hne hh.2]
      exact h _ _ hbw ⟨none, 0, 0, by rw [hv], by rw [hv]; exact hnil _⟩
    · have heq : vtext ((wordsOf s).filterMap wordP) = s := by simpa using e
      have hv : vparse s = ((wordsOf s).filterMap wordP, true) := by
        unfold vparse
        rw [if_neg h0, if_pos ⟨hall, heq⟩]
      exact h _ _ hbw ⟨a8, n9, n10, by rw [hv], by rw [hv]; exact SlE.low hsl2 hb45⟩
end Go.Vc.VD

/- The reference's Text; VecTexts. -/
set_option maxRecDepth 20000
set_option maxHeartbeats 1000000
namespace Go.Vc.VD
open Go Go.Vc Go.Vc.V Go.RowKit Go.Proofs Vcx

variable {w W W' : World} {M : Nat → Prop} {gs : List Nat}

noncomputable def jn (l : List PartT) : ByteArray := ⟨(Lib.join (l.map fun p => (wordB p).data.toList) [44]).toArray⟩
theorem ba_ext {a b : ByteArray} (h : a.data.toList = b.data.toList) : a = b := by
  obtain ⟨a⟩ := a
  obtain ⟨b⟩ := b
  congr 1
  exact Array.ext' h
theorem jn_one (p : PartT) : jn [p] = wordB p := ba_ext (by
  show (Lib.join [(wordB p).data.toList] [44]).toArray.toList = _
  rw [Lib.join_one])
theorem jn_snoc {l : List PartT} (h : l ≠ []) (p : PartT) : jn (l ++ [p]) = jn l ++ ByteArray.mk #[44] ++ wordB p := by
  cases l with
  | nil => exact absurd rfl h
  | cons x r =>
    refine ba_ext ?_
    rw [ByteArray.data_append, Array.toList_append, ByteArray.data_append, Array.toList_append]
    show (Lib.join ((x :: r ++ [p]).map fun p => (wordB p).data.toList) [44]).toArray.toList = (Lib.join ((x :: r).map fun p => (wordB p).data.toList) [44]).toArray.toList ++ [44] ++ (wordB p).data.toList
    rw [List.map_append, List.map_cons, List.map_cons, List.map_nil, join_snoc]
theorem jn_size (l : List PartT) : (jn l).size ≤ 1201 * l.length := by
  have := join_small l
  have e : (jn l).size = (Lib.join (l.map fun p => (wordB p).data.toList) [44]).length := by simp [jn, ByteArray.size]
  omega
theorem jn_ne {l : List PartT} (h : l ≠ []) : jn l ≠ ByteArray.mk #[] := by
  cases l with
  | nil => exact absurd rfl h
  | cons x r =>
    intro e
    have h1 := congrArg (fun b : ByteArray => b.data.toList.length) e
    have h2 : (jn (x :: r)).data.toList = (wordB x).data.toList ++ Lib.joinTail [44] (r.map fun p => (wordB p).data.toList) := by
      show (Lib.join ((x :: r).map fun p => (wordB p).data.toList) [44]).toArray.toList = _
      rw [List.map_cons, Lib.join_cons]
    have h3 : (wordB x).data.toList = (stext x.1 x.2.1).data.toList ++ 58 :: (strOfNums (txtL x.2.2)).data.toList := by
      unfold wordB
      rw [ByteArray.data_append, Array.toList_append, ByteArray.data_append, Array.toList_append]
      simp
    simp only [h2, h3] at h1
    simp at h1
theorem text_jn {l : List PartT} (hv : vecB l = true) : vtext l = if l = [] then ByteArray.mk #[45] else jn l := by
  unfold vtext
  rw [if_pos hv]
  rfl

theorem c34 {l : List PartT} {a : Option Addr} {n c : Nat} (w : World) (hs : SlE w 3 partE l a n c) : Ret Tryd.prog 34 #[.slice a n c] w (.string (vtext l)) := by
  intro R h
  refine f34_calls a n c w R ?_
  unfold f34_vc
  have hn := hs.1
  refine at_callb (At.refl w) (c17 w hs) fun w2 hA _ hb2 => ⟨_, rfl, brNB (fun hno => leaf h hA ?_) (fun hv => ?_)⟩
  · rw [text_wrong (by rw [hno]; decide)]
  rw [text_jn hv] at h
  have hlen := vec_len' hv
  refine ⟨fun v W' => At w [] W' ∧ ∃ i : Nat, v.2.1 = i ∧ i ≤ l.length ∧ v.1 = jn (l.take i), fun v _ => (n - v.2.1).toNat, ⟨hA, 0, rfl, Nat.zero_le _, ?_⟩, ?_⟩
  · refine ba_ext ?_
    show [] = (Lib.join [] [44]).toArray.toList
    rw [Lib.join_nil]
  rintro s6 x7 w8 ⟨hA, i, hi, hil, he⟩
  simp only at hi he
  subst hi he
  refine brD (fun hlt => ?_) (fun hge => ?_)
  · obtain ⟨p, hp⟩ : ∃ x, l[i]? = some x := ⟨_, List.getElem?_eq_getElem (by omega)⟩
    obtain ⟨ad, g1, el, _⟩ := elt_at (P := Tryd.prog) (k := .i64) (t := 22) hs hp (e := 46) (by kernel_rfl) (by kernel_rfl)
    have rp : ∀ {W'}, Bel w W' → Reads Tryd.prog [] (Instr.loadAt 46 (.pointer (some ad))) W' (.agg ((partE p).take 3).toArray) := fun hb => (el.below hb).agg 3 (by kernel_rfl) (by kernel_rfl) (by simp) (by simp)
    have ra : ∀ {W'}, Bel w W' → Reads Tryd.prog [] (Instr.loadAt 2 (.pointer (some ⟨ad.block, ad.off + 2, none⟩))) W' (.int .i64 p.2.2) := fun hb => ((el.below hb).sub (o := 2) (by decide)).one (by kernel_rfl) (by simp)
    have hI := part_I hv (List.mem_of_getElem? hp)
    have z0 := jn_size (l.take i)
    have z4 : (l.take i).length ≤ i := by simp; omega
    have z1 := stext_small p.1 p.2.1
    have z2 := txt_small p.2.2
    have z3 : (ByteArray.mk #[58]).size = 1 := rfl
    have z5 : (ByteArray.mk #[44]).size = 1 := rfl
    have htk : l.take (i + 1) = l.take i ++ [p] := by rw [List.take_add_one, hp]; rfl
    rw [succ_i i (by omega)]
    refine brD (fun hpos => ?_) (fun hzero => ?_)
    · have hne : l.take i ≠ [] := fun e => by
        have := congrArg List.length e
        rw [List.length_take, List.length_nil] at this
        omega
      refine ⟨_, gives_sadd (by omega), ad, g1, _, _, _, rp hA.below, ad, g1, _, ra hA.below, ?_⟩
      intro w16 hb16
      refine at_callb (hA.call hb16) (c43 _ _ _ w16) fun w18 hA _ hb18 => ⟨_, _, rfl, ra hA.below, ?_⟩
      refine at_callb hA (c57 _ _ w18) fun w22 hA _ hb22 => ⟨_, rfl, ra hA.below, _, gives_sadd (by rw [ByteArray.size_append]; omega), _, gives_sadd (by rw [ByteArray.size_append, ByteArray.size_append]; omega), ?_⟩
      refine at_callb hA (c58 _ w22 hI) fun w27 hA _ hb27 => ⟨_, rfl, _, gives_sadd (by rw [ByteArray.size_append, ByteArray.size_append, ByteArray.size_append]; omega), ?_⟩
      refine ⟨⟨hA, i + 1, rfl, by omega, ?_⟩, by simp only; omega⟩
      simp only
      rw [htk, jn_snoc hne]
      unfold wordB
      simp only [ByteArray.append_assoc]
    · have h0 : i = 0 := by omega
      subst h0
      refine ⟨ad, g1, _, _, _, rp hA.below, ad, g1, _, ra hA.below, ?_⟩
      intro w36 hb36
      refine at_callb (hA.call hb36) (c43 _ _ _ w36) fun w38 hA _ hb38 => ⟨_, _, rfl, ra hA.below, ?_⟩
      refine at_callb hA (c57 _ _ w38) fun w42 hA _ hb42 => ⟨_, rfl, ra hA.below, _, gives_sadd (by omega), _, gives_sadd (by rw [ByteArray.size_append]; omega), ?_⟩
      refine at_callb hA (c58 _ w42 hI) fun w47 hA _ hb47 => ⟨_, rfl, _, gives_sadd (by rw [ByteArray.size_append, ByteArray.size_append]; omega), ?_⟩
      refine ⟨⟨hA, 0 + 1, rfl, by omega, ?_⟩, by simp only; omega⟩
      simp only
      rw [htk, List.take_zero, List.nil_append, jn_one]
      have e0 : jn [] = ByteArray.empty := ba_ext (by
        show (Lib.join [] [44]).toArray.toList = []
        rw [Lib.join_nil])
      rw [e0, ByteArray.empty_append]
      rfl
  · rw [show i = l.length by omega, List.take_length, toList_beq]
    refine brD (fun he => leaf h hA ?_) (fun hne => leaf h hA ?_)
    · have : l = [] := Classical.byContradiction fun hh => jn_ne hh he
      rw [if_pos this]
    · have : l ≠ [] := fun hh => hne (by
        subst hh
        refine ba_ext ?_
        show (Lib.join [] [44]).toArray.toList = []
        rw [Lib.join_nil])
      rw [if_neg this]

theorem law8 {l : List PartT} {a : Option Addr} {n c : Nat} (s : ByteArray) (W : World) (hT : Tab W) (hM : MaxL W) (hs : SlE W 3 partE l a n c) : RetW Tryd.prog 8 #[.slice a n c, .string s] W (.bool true) := by
  intro R h
  refine f8_calls a n c s W R ?_
  unfold f8_vc
  refine opw_litL (e' := 22) (f := rawS) (size := 1) (l := [((a, n, c) : RawS)]) (At.refl W) rfl (fun _ _ => rfl) (by decide) (by kernel_rfl) fun g1 w2 _ hA _ hb2 ho1 => ⟨_, _, _, rfl, ?_⟩
  have hL : LsR w2 [l] _ _ _ := LsR_of (ho1.sl fun _ _ => rfl) rfl fun i x y hx hy => by
    match i, hx, hy with
    | 0, hx, hy => cases hx; cases hy; exact hs.call hb2
    | i + 1, hx, _ => simp at hx
  refine at_callb hA (c9 w2 hL) fun w7 hA _ hb7 => ⟨_, rfl, brNB (fun _ => h _ hA.below.below) (fun _ => brD (fun _ => h _ hA.below.below) (fun h4 => ?_))⟩
  have tsm := text_small l
  -- the first text
  refine c33 w7 (hT.below hA.below) (hs.call hA.below) _ fun w10 hb10 => ⟨_, rfl, ?_⟩
  have B10 : Below W.heap.size W w10 := hA.below.below.trans (hb10.mono hA.size)
  have z10 : W.heap.size ≤ w10.heap.size := Nat.le_trans hA.size hb10.size
  refine c32 (vtext l) w10 (hT.low B10) (hM.low B10) (by omega) _ fun v w13 hb13 ⟨a14, n15, d16, e, s14⟩ => ?_
  subst e
  have B13 := B10.trans (hb13.mono z10)
  have z13 := Nat.le_trans z10 hb13.size
  refine ⟨_, _, _, _, rfl, ?_⟩
  refine c32 s w13 (hT.low B13) (hM.low B13) (by omega) _ fun v w19 hb19 ⟨a20, n21, d22, e, s20⟩ => ?_
  subst e
  have B19 := B13.trans (hb19.mono z13)
  have z19 := Nat.le_trans z13 hb19.size
  have s14 := SlE.low s14 hb19
  rw [text_parse] at *
  have works : ∀ {W' : World}, Below W.heap.size W W' → W.heap.size ≤ W'.heap.size → Calls Tryd.prog 13 #[] W' fun e w => ∃ b, e = .returned (.bool b) ∧ R (.returned (.bool b)) w := fun {W'} hB hz => c13 W' (hT.low hB) _ fun w' hb => ⟨_, rfl, h _ (hB.trans (hb.mono hz))⟩
  refine ⟨_, _, _, _, rfl, fun _ W' => Below W.heap.size W W' ∧ W.heap.size ≤ W'.heap.size ∧ SlE W' 3 partE (vparse s).1 a20 n21 d22, ?_, ?_⟩
  · refine c33 w19 (hT.low B19) (SlE.low hs B19) _ fun w26 hb26 => ⟨_, rfl, ?_⟩
    have B26 := B19.trans (hb26.mono z19)
    have z26 := Nat.le_trans z19 hb26.size
    have s20 := SlE.low s20 hb26
    have s14 := SlE.low s14 hb26
    refine c34 w26 (SlE.low hs B26) _ fun w29 hb29 => ⟨_, rfl, ?_⟩
    have B29 := B26.trans (hb29.below.mono z26)
    have z29 := Nat.le_trans z26 hb29.size
    refine ⟨fun e => by simp at e, fun _ => ?_⟩
    refine c17 w29 (SlE.low hs B29) _ fun w32 hb32 => ⟨_, rfl, ?_⟩
    have B32 := B29.trans (hb32.below.mono z29)
    have z32 := Nat.le_trans z29 hb32.size
    have s20 := (s20.call hb29).call hb32
    have s14 := (s14.call hb29).call hb32
    refine ⟨fun e => ?_, fun _ => brB (fun hv => ?_) (fun _ => ⟨B32, z32, s20⟩)⟩
    · cases hh : vecB l <;> rw [hh] at e <;> cases e
    · rw [back_ok hv] at s14
      refine c16 w32 s14 (SlE.low hs B32) _ fun w35 hb35 => ⟨_, rfl, brNB (fun e => absurd rfl (of_decide_eq_false e)) (fun _ => ⟨B32.trans (hb35.below.mono z32), Nat.le_trans z32 hb35.size, s20.call hb35⟩)⟩
  rintro w37 ⟨B37, z37, s20⟩
  refine brB (fun hok => ?_) (fun hno => ?_)
  · obtain ⟨hr, ht⟩ := parse_right hok
    refine c17 w37 s20 _ fun w39 hb39 => ⟨_, rfl, brB (fun _ => ?_) (fun e => by rw [hr] at e; cases e)⟩
    have B39 := B37.trans (hb39.below.mono z37)
    have z39 := Nat.le_trans z37 hb39.size
    refine c34 w39 (s20.call hb39) _ fun w42 hb42 => ⟨_, rfl, ?_⟩
    rw [ht]
    refine ⟨fun _ => works (B39.trans (hb42.below.mono z39)) (Nat.le_trans z39 hb42.size), fun e => by simp at e⟩
  · have hnil := parse_not hno
    have hl0 : n21 = 0 := by
      have := s20.1
      rw [hnil] at this
      exact this
    rw [hno]
    refine brNB (fun _ => brE (fun _ => works B37 z37) (fun e => absurd (by rw [hl0]; rfl) e)) (fun e => by cases e)
end Go.Vc.VD

/- VecTexts: three listed variables, the library's number, the row's wrap. -/
set_option maxRecDepth 100000
namespace Go
variable {H : Type} {enc : TypeId × Value → H}
/-- As the kit's wrap for a row that lists variables, the world's shape kept besides. -/
theorem returnsInHanded_of_change_and_shaped {a : Assume} {C : Checked} {os : Os} {f : FuncId} {fn : Func} {s : ChangeSpec} {conds : List PathCond} {apart fresh handsOn again : Bool} {X : World → Array Value → Prop}
    (hX : ∀ (w w' : World) (args : Array Value), w.heap = w'.heap → X w args → X w' args)
    (own : ownKnob C.prog.godebug = none) (started : os.Started) (noInit : C.prog.inits.idxOf? f = none) (hfn : C.prog.funcs[f]? = some fn)
    (witness : ∃ (w : World) (tape : Tape) (i : Input), w.os = os ∧ (w.forCall tape i).Shaped C.prog ∧ i.vars = [] ∧ Input.okWide C.prog (w.forCall tape i) .any w.heap.size f i ∧
      ((s.pre enc C.prog fn conds apart (w.forCall tape i).memory i.args ∧ X (w.forCall tape i).memory i.args) ∧ sizedMet enc C.prog fn (OpenSpec.ofChange s) apart (w.forCall tape i).memory i.args) ∧ a.holds C.prog (lone (Frame.enter C.prog f i.args .normal) [] (w.forCall tape i)))
    (contract : ∀ (W : World) (base : Nat) (args : Array Value) (ds gs : List (DataW H)) (before : List MemPlace),
      (∀ (j : Nat) t v, fn.params[j]? = some t → args[j]? = some v → Value.okWide C.prog W .any base t v) →
      DataW.Whole enc C.prog fn.params.toList s.vars apart W args.toList ds gs before → X W args → W.ShapedOpen C.prog →
      Calls C.prog f args W fun e W' => ∃ v, e = .returned v ∧ s.post enc C.prog fn apart fresh handsOn again W args v W') :
    ReturnsInHanded a C os f .any (fun w args => (s.pre enc C.prog fn conds apart w args ∧ X w args) ∧ sizedMet enc C.prog fn (OpenSpec.ofChange s) apart w args) (s.post enc C.prog fn apart fresh handsOn again) := by
  refine returnsInHanded_of_calls own started noInit witness ?_
  intro w tape i _ hsh _ hok hpre _
  obtain ⟨_, _, _, fn', hfn', _, _, _, _, hval⟩ := hok
  have e : fn' = fn := Option.some.inj (hfn'.symm.trans hfn)
  subst e
  obtain ⟨⟨⟨ds, gs, before, hw, _⟩, hx⟩, _⟩ := hpre
  have hw' := DataW.Whole.of_heap (w' := w.forCall tape i) (by rfl) hw
  refine (contract (w.forCall tape i) w.heap.size i.args ds gs before hval hw' (hX _ _ _ (by rfl) hx) hsh).mono fun e W' ⟨v, he, hp⟩ => ?_
  subst he
  exact ChangeSpec.post_blind hp
end Go
namespace Go.Vc.VD
open Go Go.Vc Go.Vc.V Go.RowKit Go.Proofs Go.Proofs.YtjlgcdgdboiejaaDoor
abbrev laidT : List (String × DataW Unit) := [("unicode/utf8.acceptRanges", Rows.laid_unicode_utf8_acceptRanges), ("manciple/slot.table", Rows.laid_manciple_slot_table), ("unicode/utf8.first", Rows.laid_unicode_utf8_first)]
theorem tab_vars {W : World} {ps : List MemPlace} (h : DataW.LaidVars Tryd.prog W [("manciple/slot.table", Rows.laid_manciple_slot_table), ("unicode/utf8.first", Rows.laid_unicode_utf8_first)] ps) : Tab W := by
  obtain ⟨g0, t0, cs0, f0, p0, q0, hg0, ht0, hv0, hd0, _, _⟩ := h
  exact tab_cells hg0 ht0 hv0 hd0
theorem tab_ofT {W : World} (h : laidMetH Tryd.prog laidT W) : Tab W := by
  rw [MakeChecks.laidMetH_plain _ _ _ (by kernel_rfl)] at h
  obtain ⟨ps, ⟨_, _, _, _, _, q, _, _, _, _, hr, _⟩, _, _⟩ := h
  exact tab_vars hr
theorem max_of {W : World} (h : W.ShapedOpen Tryd.prog) : MaxL W :=
  Go.Proofs.cell_of_shapedOpen_int (zero := #[.int .i64 0]) (t := 3) (g := 0) h (of_decide_eq_true (by kernel_rfl)) (by kernel_rfl) rfl (by kernel_rfl) (by kernel_rfl) Tryd.underlying3
end Go.Vc.VD

