/- Keys of maps: integers, strings. -/
import Derived.Test.YtfipbnoidoljoaaVcMap
import Derived.MapKept
namespace Go.Vc
open Go Go.RowKit
theorem toList_eq (t s : ByteArray) : (t.toList == s.toList) = decide (t = s) := by
  by_cases h : t = s
  · subst h; simp
  · have : t.toList ≠ s.toList := fun e => h (by
      rw [ByteArray.toList_eq, ByteArray.toList_eq] at e
      have := Array.ext' e
      cases t; cases s
      simpa using this)
    simp [h, this]
theorem beq_ba (a b : ByteArray) : (a == b) = decide (a = b) := by rw [beq_toListBytes, toList_eq]
theorem keyOk_str {P : Program} {kt : TypeId} (h : P.underlying kt = some .string) : KeyOk P kt Value.string where
  eq := fun k k' => by unfold eqB; rw [h]; simp only; rw [beq_ba]
  now := fun d hd k k' b hb => by rw [h] at hd; cases hd; simp [Instr.sameNow] at hb; rw [← hb, beq_ba]
  chk := fun e k W => MapKept.run_checkKey (k := .string k) h trivial e 9999
  bits := fun k => by unfold Instr.sameBits; rw [beq_ba]; simp
  und := ⟨_, h⟩
theorem keyOk_int {P : Program} {kt : TypeId} {q : IntKind} (h : P.underlying kt = some (.int q)) : KeyOk P kt (Value.int q) where
  eq := fun k k' => by
    unfold eqB; rw [h]
    simp only [decide_true, cond_true, Option.some.injEq]
    rw [Bool.eq_iff_iff]; simp
  now := fun d hd k k' b hb => by
    rw [h] at hd; cases hd; simp [Instr.sameNow] at hb; rw [← hb, Bool.eq_iff_iff]; simp
  chk := fun e k W => MapKept.run_checkKey (k := .int q k) h (by unfold MapKept.IsKey; rfl) e 9999
  bits := fun k => by unfold Instr.sameBits; simp
  und := ⟨_, h⟩
end Go.Vc
