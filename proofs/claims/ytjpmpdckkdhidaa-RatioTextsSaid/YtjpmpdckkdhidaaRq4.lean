/- Own text of this claim: Rq4. -/
import Derived.Test.YtjpmpdckkdhidaaRq3
set_option maxRecDepth 20000
namespace Go.Vc.Q
open Go Go.Vc Go.RowKit Go.Proofs Vca

/-- A step of reading: a rune, what has been read, the scale. -/
def pstep (c n sc : Int) : Option (Int × Int) :=
  if c = 46 ∧ sc = 0 then some (n, 1000)
  else if c < 48 ∨ c > 57 ∨ sc = 1 then none
  else if n * 10 + (c - 48) > 9007199254740992 then none
  else some (n * 10 + (c - 48), sc / 10)
def pgo (s : ByteArray) : Nat → Nat → Int → Int → Option (Int × Int)
  | 0, _, n, sc => some (n, sc)
  | f + 1, pos, n, sc => if pos < s.size then (match pstep ((Utf8.decode s pos).1 : Int) n sc with
      | some x => pgo s f (pos + (Utf8.decode s pos).2) x.1 x.2
      | none => none) else some (n, sc)
def fin (n sc : Int) : Int × Bool := qtimes n (if sc = 0 then 1000 else sc) 9007199254740992
def parse (s : ByteArray) : Int × Bool := match pgo s s.size 0 0 0 with
  | none => (0, false)
  | some x => if (fin x.1 x.2).2 = true ∧ strOfNums (txtL (fin x.1 x.2).1) = s then ((fin x.1 x.2).1, true) else (0, false)

def itLeft (s : ByteArray) (r : Nat) (W : World) : Nat := match W.heap[r]? with
  | some (.stringIter _ pos) => s.size - pos
  | _ => 0

theorem decode_width (s : ByteArray) (pos : Nat) : 1 ≤ (Utf8.decode s pos).2 := by
  unfold Utf8.decode
  simp only
  repeat' split
  all_goals simp
theorem decode_bound (s : ByteArray) (pos : Nat) : (Utf8.decode s pos).1 < 1114112 := by
  unfold Utf8.decode
  simp only [Utf8.runeError]
  have h : ∀ k, (s.get! (pos + k)).toNat < 256 := fun k => (s.get! (pos + k)).toBitVec.isLt
  have h0 := h 0; have h1 := h 1; have h2 := h 2; have h3 := h 3
  simp only [Nat.add_zero] at *
  repeat' split
  all_goals simp only
  all_goals first | omega | skip
  all_goals (rename_i hv; simp only [Utf8.valid] at hv; simp at hv; omega)

theorem toList_beq (t s : ByteArray) : (t.toList == s.toList) = decide (t = s) := by
  by_cases h : t = s
  · subst h; simp
  · have : t.toList ≠ s.toList := fun e => h (by
      rw [ByteArray.toList_eq, ByteArray.toList_eq] at e
      have := Array.ext' e
      cases t; cases s
      simpa using this)
    simp [h, this]

theorem c25 (s : ByteArray) (w : World) : Ret Try.prog 25 #[.string s] w (pairV (parse s)) := by
  intro R h
  refine f25_calls s w R ?_
  unfold f25_vc
  refine opw_range_str (by kernel_rfl) ⟨_, rfl, ?_⟩
  have hA : At w [] (w.alloc (.stringIter s 0)) := (At.refl w).call (below_alloc _)
  generalize hr : w.heap.size = r
  have hit : (w.alloc (.stringIter s 0)).heap[r]? = some (.stringIter s 0) := by rw [← hr]; exact heap_alloc_new w _
  have hrle : w.heap.size ≤ r := by omega
  refine ⟨fun st W => At w [] W ∧ ∃ (f pos : Nat), W.heap[r]? = some (.stringIter s pos) ∧ s.size - pos ≤ f ∧ (0 ≤ st.1 ∧ st.1 ≤ 9007199254740992) ∧ (0 ≤ st.2.1 ∧ st.2.1 ≤ 1000) ∧ pgo s f pos st.1 st.2.1 = pgo s s.size 0 0 0, fun _ W => itLeft s r W, ⟨hA, s.size, 0, hit, by omega, by decide, by decide, rfl⟩, ?_⟩
  clear hA hit
  intro n sc W ⟨hA, f, pos, hit, hf, hn, hsc, hg⟩
  simp only at hn hsc hg
  refine opw_next_str hit (fun hend => ⟨.inl rfl, fun _ => ?_, fun x y hh => by simp at hh⟩) (fun hp => ⟨.inr ⟨(_, _, ()), rfl⟩, fun hh => by simp at hh, fun x y hh => ?_⟩)
  · have hg : some (n, sc) = pgo s s.size 0 0 0 := by
      rw [← hg]
      cases f with
      | zero => rfl
      | succ f => rw [pgo, if_neg hend]
    have tail : ∀ k : Int, k = (if sc = 0 then 1000 else sc) → Calls Try.prog 22 #[.int .i64 n, .int .i64 k, .int .i64 9007199254740992] W fun e w12 => ∃ x13 b14, e = .returned (.tuple #[.int .i64 x13, .bool b14]) ∧ ((!b14) = true → R (.returned (.tuple #[.int .i64 0, .bool false])) w12) ∧ ((!b14) = false → Calls Try.prog 27 #[.int .i64 x13] w12 fun e w16 => ∃ s17, e = .returned (.string s17) ∧ (((!s17.toList == s.toList) = true → R (.returned (.tuple #[.int .i64 0, .bool false])) w16) ∧ ((!s17.toList == s.toList) = false → R (.returned (.tuple #[.int .i64 x13, .bool true])) w16))) := by
      intro k hk
      have hk' : 0 ≤ k ∧ k ≤ 1000 := by
        rw [hk]
        split <;> omega
      refine at_call hA (c22 n k 9007199254740992 (by omega) (by decide) _) (fun _ hA _ => ⟨_, _, rfl, ?_⟩)
      have hfin : qtimes n k 9007199254740992 = fin n sc := by rw [fin, hk]
      rw [hfin]
      have hpar : parse s = if (fin n sc).2 = true ∧ strOfNums (txtL (fin n sc).1) = s then ((fin n sc).1, true) else (0, false) := by rw [parse, ← hg]
      rw [hpar] at h
      refine ⟨fun hb => leaf h hA ?_, fun hb => ?_⟩
      · rw [if_neg (by simp at hb; simp [hb])]
      · simp at hb
        have hI : I64 (fin n sc).1 := by
          rw [← hfin, qtimes]
          split
          · decide
          · rename_i hno
            have hf := times_fits (a := n) (n := k) (most := 9007199254740992) (by decide) (by omega) hno
            rcases hf.2.1 with h1 | h1
            · simp only; omega
            · subst h1
              simp
              decide
        refine at_call hA (c27 _ _ hI) (fun _ hA _ => ⟨_, rfl, ?_⟩)
        have hbeq : ∀ t : ByteArray, (t.toList == s.toList) = decide (t = s) := by
          intro t
          exact toList_beq t s
        refine ⟨fun hc => leaf h hA ?_, fun hc => leaf h hA ?_⟩
        · rw [if_neg (fun hh => by rw [hbeq, decide_eq_true hh.2] at hc; simp at hc)]
        · rw [hbeq] at hc
          simp at hc
          rw [if_pos ⟨hb, hc⟩]
    exact brE (fun h0 => tail _ (by rw [if_pos h0])) (fun h0 => tail _ (by rw [if_neg h0]))
  · have hwd := decode_width s pos
    have hcb := decode_bound s pos
    simp only [Value.tuple.injEq, Array.mk.injEq, List.cons.injEq, Value.int.injEq, true_and, and_true] at hh
    obtain ⟨_, rfl, rfl⟩ : True ∧ (pos : Int) = x ∧ ((Utf8.decode s pos).1 : Int) = y := ⟨trivial, by simpa using hh⟩
    obtain ⟨f', rfl⟩ : ∃ f', f = f' + 1 := ⟨f - 1, by omega⟩
    rw [pgo, if_pos hp] at hg
    have hA' := hA.setObj (o := .stringIter s (pos + (Utf8.decode s pos).2)) hrle
    have hit' : ({ W with heap := W.heap.setIfInBounds r (.stringIter s (pos + (Utf8.decode s pos).2)) } : World).heap[r]? = some (.stringIter s (pos + (Utf8.decode s pos).2)) := by
      have := (Array.getElem?_eq_some_iff.1 hit).1
      show (W.heap.setIfInBounds r _)[r]? = _
      rw [Array.getElem?_setIfInBounds_self_of_lt this]
    generalize hW' : ({ W with heap := W.heap.setIfInBounds r (.stringIter s (pos + (Utf8.decode s pos).2)) } : World) = W' at hA' hit' ⊢
    have hl : itLeft s r W' < itLeft s r W := by
      simp only [itLeft, hit, hit']
      omega
    generalize (Utf8.decode s pos).1 = c at *
    generalize (Utf8.decode s pos).2 = wd at *
    have fail : pstep c n sc = none → R (.returned (.tuple #[.int .i64 0, .bool false])) W' := by
      intro hp
      rw [hp] at hg
      exact leaf h hA' (by rw [parse, ← hg])
    refine brE (fun h46 => brE (fun h0 => ?_) (fun h0 => ?_)) (fun h46 => ?_)
    · have hp : pstep c n sc = some (n, 1000) := by rw [pstep, if_pos ⟨h46, h0⟩]
      rw [hp] at hg
      exact ⟨⟨hA', f', pos + wd, hit', by omega, hn, by show (0 : Int) ≤ 1000 ∧ (1000 : Int) ≤ 1000; omega, hg⟩, hl⟩
    all_goals
      have hno : ¬ ((c : Int) = 46 ∧ sc = 0) := by omega
      refine brD (fun h1 => fail (by rw [pstep, if_neg hno, if_pos (.inl h1)])) (fun h1 => ?_)
      refine brD (fun h2 => fail (by rw [pstep, if_neg hno, if_pos (.inr (.inl h2))])) (fun h2 => ?_)
      refine brE (fun h3 => fail (by rw [pstep, if_neg hno, if_pos (.inr (.inr h3))])) (fun h3 => ?_)
      rw [wrap_i32 (by omega) (by omega), wrap_i64 (x := (c : Int) - 48) (by omega) (by omega), wrap_i64 (x := n * 10) (by omega) (by omega), wrap_i64 (x := n * 10 + ((c : Int) - 48)) (by omega) (by omega), Int.tdiv_eq_ediv_of_nonneg hsc.1, wrap_i64 (x := sc / 10) (by omega) (by omega)]
      refine brD (fun h4 => fail (by rw [pstep, if_neg hno, if_neg (by omega), if_pos h4])) (fun h4 => ?_)
      have hp : pstep c n sc = some (n * 10 + (c - 48), sc / 10) := by rw [pstep, if_neg hno, if_neg (by omega), if_neg h4]
      rw [hp] at hg
      exact ⟨⟨hA', f', pos + wd, hit', by omega, by show 0 ≤ n * 10 + ((c : Int) - 48) ∧ n * 10 + ((c : Int) - 48) ≤ 9007199254740992; omega, by show 0 ≤ sc / 10 ∧ sc / 10 ≤ 1000; omega, hg⟩, hl⟩
end Go.Vc.Q
