/- Parts of strings. -/
import Derived.Test.YtjpmpdckkdhidaaDoorVcArr
namespace Go.Vc
open Go Go.RowKit
section
variable {P : Program}

theorem bytesOf_extract (s : ByteArray) (a b : Nat) : bytesOf (s.extract a b) = ((bytesOf s).drop a).take (b - a) := by
  obtain ⟨d⟩ := s
  have h : (ByteArray.mk d).extract a b = ByteArray.mk ((d.toList.drop a).take (b - a)).toArray := by
    have := ByteArray.extract_mk d.toList a b
    simpa using this
  rw [h]
  simp only [bytesOf, List.map_take, List.map_drop]

theorem gives_str_to {t : TypeId} {s : ByteArray} {i : Nat} {k : IntKind} (ht : P.underlying t = some .string) (hi : i ≤ s.size) : Gives P (Instr.sliceAt t (.string s) none (some (.int k (i : Int))) none) (.string (s.extract 0 i)) := by
  intro W
  rw [run_sliceAt_string W t _ _ _ _ ht]
  have := run_slice_string_h (P := P) W t s ht k (i : Int) (by omega) (by omega)
  rw [this]
  simp
theorem gives_str_from {t : TypeId} {s : ByteArray} {i : Nat} {k : IntKind} (ht : P.underlying t = some .string) (hi : i ≤ s.size) : Gives P (Instr.sliceAt t (.string s) (some (.int k (i : Int))) none none) (.string (s.extract i s.size)) := by
  intro W
  rw [run_sliceAt_string W t _ _ _ _ ht]
  have := run_slice_string_l (P := P) W t s ht k (i : Int) (by omega) (by omega)
  rw [this]
  simp
end
end Go.Vc
