/- Own text of this claim: Sb6. -/
import Derived.Test.YtlapclajdfaajaaSb5
set_option maxRecDepth 20000
namespace Go.Vc.BT
open Go Go.Vc Go.RowKit Go.Proofs Vcb Go.Vc.BQ
open Go.Vc.B (fracV right c40)

noncomputable def ftext (a b : Int) : ByteArray := if right a b then strOfNums (decL a 1) ++ ByteArray.mk #[47] ++ strOfNums (decL b 1) else ByteArray.mk #[]

theorem dec_small {n : Int} (h : 0 ≤ n ∧ n ≤ 9223372036854775807) : (strOfNums (decL n 1)).size ≤ 19 := by
  rw [strOfNums_size]
  exact decL_short 18 n h.1 (by omega)

theorem c18 (a b : Int) (ha : I64 a) (hb : I64 b) (w : World) : Ret Try.prog 18 #[fracV a b] w (.string (ftext a b)) := by
  intro R h
  refine f18_calls a b w R ?_
  unfold f18_vc
  have hA := At.refl w
  refine go_n hA fun n1 h1 => ?_
  refine go_below hA fun w2 hA => ?_
  refine at_call hA (c40 _ _ _) (fun _ hA hk => ⟨_, rfl, hk, ?_⟩)
  refine brND (fun hr => leaf h hA (by rw [ftext, if_neg hr])) (fun hr => ?_)
  have hr1 := hr.1; have hr2 := hr.2
  have d1 := dec_small (n := a) (by omega)
  have d2 := dec_small (n := b) (by omega)
  refine go_below hA fun w6 hA => ?_
  refine at_call hA (c43 _ _ (by omega)) (fun _ hA hk => ⟨_, rfl, hk, ?_⟩)
  have e1 : (ByteArray.mk #[47]).size = 1 := rfl
  refine ⟨_, gives_sadd (by omega), ?_⟩
  refine at_call hA (c43 _ _ (by omega)) (fun _ hA hk => ⟨_, rfl, hk, ?_⟩)
  refine ⟨_, gives_sadd (by rw [ByteArray.size_append]; omega), ?_⟩
  exact leaf h hA (by rw [ftext, if_pos hr])

end Go.Vc.BT
