/- Own text of this claim: Sl1. -/
import Derived.Test.YtjpmpdckkdhidaaDoorFd1
import Derived.Test.YtjpmpdckkdhidaaDoorVcDec
import Derived.Test.YtjpmpdckkdhidaaDoorSdIx
set_option maxRecDepth 20000
namespace Go.Vc.D
open Go Go.Vc Go.RowKit Go.Proofs Vcd

abbrev slotV (k r : Int) : Value := .agg #[.int .i64 k, .int .i64 r]
def slotR (k r : Int) : Prop := 0 ≤ k ∧ k < 4 ∧ 0 ≤ r ∧ r ≤ 32
instance (k r : Int) : Decidable (slotR k r) := by unfold slotR; infer_instance
def slotC (a b c d : Int) : Int := if a = c ∧ b = d then 0 else if a < c ∨ (a = c ∧ b < d) then -1 else 1

def sCpus : ByteArray := ByteArray.mk #[99, 112, 117, 115]
def sMem : ByteArray := ByteArray.mk #[109, 101, 109]
def sDisk : ByteArray := ByteArray.mk #[100, 105, 115, 107]
def sGpus : ByteArray := ByteArray.mk #[103, 112, 117, 115]
def nms : List ByteArray := [sCpus, sMem, sDisk, sGpus]
/-- The table, in memory. -/
def Tab (W : World) : Prop := Elt W ⟨0, 0, none⟩ (nms.map Value.string)
theorem Tab.below {W W' : World} (h : Tab W) (hb : Below W.heap.size W W') : Tab W' := Elt.below h hb
theorem Tab.at_ {w W : World} {gs : List Nat} (h : Tab w) (hA : At w gs W) : Tab W := h.below hA.below

theorem c7 (k r : Int) (w : World) : Ret Tryd.prog 7 #[slotV k r] w (.bool (decide (slotR k r))) := by
  intro R h
  refine f7_calls k r w R ?_
  unfold f7_vc
  have hA := At.refl w
  refine go_n hA fun n1 h_n1 => ?_
  refine brD (fun h1 => brD (fun h2 => brD (fun h3 => ?_) (fun h3 => ?_)) (fun h2 => ?_)) (fun h1 => ?_)
  all_goals refine go_below hA fun _ hA => leaf h hA ?_
  · rw [show decide (slotR k r) = decide (r ≤ 32) from decide_eq_decide.2 ⟨fun hh => hh.2.2.2, fun hh => ⟨h1, h2, h3, hh⟩⟩]
  · rw [decide_eq_false (show ¬ slotR k r from fun hh => h3 hh.2.2.1)]
  · rw [decide_eq_false (show ¬ slotR k r from fun hh => h2 hh.2.1)]
  · rw [decide_eq_false (show ¬ slotR k r from fun hh => h1 hh.1)]
theorem c14 (k r : Int) (w : World) : Ret Tryd.prog 14 #[slotV k r] w (.bool (decide (slotR k r))) := by
  intro R h
  refine f14_calls k r w R ?_
  unfold f14_vc
  have hA := At.refl w
  refine go_n hA fun n1 h_n1 => ?_
  refine brD (fun h1 => brD (fun h2 => brD (fun h3 => ?_) (fun h3 => ?_)) (fun h2 => ?_)) (fun h1 => ?_)
  all_goals refine go_below hA fun _ hA => leaf h hA ?_
  · rw [show decide (slotR k r) = decide (r ≤ 32) from decide_eq_decide.2 ⟨fun hh => hh.2.2.2, fun hh => ⟨h1, by omega, h3, hh⟩⟩]
  · rw [decide_eq_false (show ¬ slotR k r from fun hh => h3 hh.2.2.1)]
  · rw [decide_eq_false (show ¬ slotR k r from fun hh => h2 (by have := hh.2.1; omega))]
  · rw [decide_eq_false (show ¬ slotR k r from fun hh => h1 hh.1)]

theorem c12 (a b c d : Int) (w : World) : Ret Tryd.prog 12 #[slotV a b, slotV c d] w (.int .i64 (slotC a b c d)) := by
  intro R h
  refine f12_calls a b c d w R ?_
  unfold f12_vc
  have hA := At.refl w
  refine go_n hA fun n1 h_n1 => ?_
  refine go_n hA fun n2 h_n2 => ?_
  refine ⟨fun he => go_below hA fun _ hA => leaf h hA ?_, fun hne => ?_⟩
  · simp at he
    rw [slotC, if_pos he]
  simp at hne
  refine brD (fun h1 => go_below hA fun _ hA => leaf h hA ?_) (fun h1 => brE (fun h2 => brD (fun h3 => go_below hA fun _ hA => leaf h hA ?_) (fun h3 => go_below hA fun _ hA => leaf h hA ?_)) (fun h2 => go_below hA fun _ hA => leaf h hA ?_))
  · rw [slotC, if_neg (by omega), if_pos (.inl h1)]
  · rw [slotC, if_neg (by omega), if_pos (.inr ⟨h2, h3⟩)]
  · rw [slotC, if_neg (fun hh => hne hh.1 hh.2), if_neg (by omega)]
  · rw [slotC, if_neg (fun hh => hne hh.1 hh.2), if_neg (by omega)]
theorem c13 (a b c d : Int) (w : World) : Ret Tryd.prog 13 #[slotV a b, slotV c d] w (.int .i64 (slotC a b c d)) := by
  intro R h
  refine f13_calls a b c d w R ?_
  unfold f13_vc
  have hA := At.refl w
  refine go_n hA fun n1 h_n1 => ?_
  refine go_n hA fun n2 h_n2 => ?_
  have fin : ∀ {x : Int}, slotC a b c d = x → ∀ W, At w [n1, n2] W → R (.returned (.int .i64 x)) W := fun hx W hA => leaf h hA (by rw [hx])
  refine brD (fun h1 => go_below hA fun _ hA => fin (by rw [slotC, if_neg (by omega), if_pos (.inl h1)]) _ hA) (fun h1 => brE (fun h2 => brD (fun h3 => go_below hA fun _ hA => fin (by rw [slotC, if_neg (by omega), if_pos (.inr ⟨h2, h3⟩)]) _ hA) (fun h3 => ?_)) (fun h2 => ?_))
  · refine brE (fun _ => brE (fun h4 => go_below hA fun _ hA => fin (by rw [slotC, if_pos ⟨h2, h4⟩]) _ hA) (fun h4 => go_below hA fun _ hA => fin (by rw [slotC, if_neg (fun hh => h4 hh.2), if_neg (by omega)]) _ hA)) (fun hn => absurd h2 hn)
  · refine brE (fun he => absurd he h2) (fun _ => go_below hA fun _ hA => fin (by rw [slotC, if_neg (fun hh => h2 hh.1), if_neg (by omega)]) _ hA)

theorem c20 (w : World) (hT : Tab w) : Ret Tryd.prog 20 #[] w (.agg #[.string sCpus, .string sMem, .string sDisk, .string sGpus]) := by
  intro R h
  refine f20_calls w R ?_
  unfold f20_vc
  have hA := At.refl w
  refine go_n hA fun n1 h_n1 => ?_
  refine ⟨_, _, _, _, Elt.agg 4 hT (by kernel_rfl) (by kernel_rfl) (by decide) no_ds, ?_⟩
  refine go_evo hA (by intro d hd; simp at hd; omega) fun _ hA => ?_
  exact leaf h hA rfl

/-- A name's kind. -/
def kindOf (s : ByteArray) : Int × Bool := if s = sCpus then (0, true) else if s = sMem then (1, true) else if s = sDisk then (2, true) else if s = sGpus then (3, true) else (0, false)
theorem kind_map (s : ByteArray) : lookV2 (Value.int .i64) (.int .i64 0) (mget s (mset sGpus (3 : Int) (mset sDisk 2 (mset sMem 1 (mset sCpus 0 []))))) = .tuple #[.int .i64 (kindOf s).1, .bool (kindOf s).2] := by
  have e : mset sGpus (3 : Int) (mset sDisk 2 (mset sMem 1 (mset sCpus 0 []))) = [(sCpus, 0), (sMem, 1), (sDisk, 2), (sGpus, 3)] := by decide
  rw [e]
  unfold kindOf
  simp only [mget, lookV2]
  by_cases h0 : s = sCpus
  · simp [h0]
  · by_cases h1 : s = sMem
    · subst h1; simp [h0]
    · by_cases h2 : s = sDisk
      · subst h2; simp [h0, h1]
      · by_cases h3 : s = sGpus
        · subst h3; simp [h0, h1, h2]
        · simp [h0, h1, h2, h3]

theorem c10 (s : ByteArray) (w : World) (hT : Tab w) : Ret Tryd.prog 10 #[.string s] w (.tuple #[.int .i64 (kindOf s).1, .bool (kindOf s).2]) := by
  intro R h
  refine f10_calls s w R ?_
  unfold f10_vc
  have hA := At.refl w
  refine opw_makeMap (kf := Value.string) (vf := Value.int .i64) hA fun g w2 hg hA hk hb ho => ⟨_, rfl, ?_⟩
  refine at_callb hA (c20 _ (hT.at_ hA)) (fun w5 hA hk hb => ⟨_, _, _, _, rfl, ?_⟩)
  have ho := ho.call hb
  have K : KeyOk Tryd.prog 9 Value.string := keyOk_str (by kernel_rfl)
  have ht : Tryd.prog.underlying 45 = some (.map 9 3) := by kernel_rfl
  refine ⟨sCpus, gives_of_pure (by kernel_rfl), opw_mapUpdate (k := sCpus) (v := (0 : Int)) K ht hA ho fun _ hA hk _ ho => ?_⟩
  refine ⟨sMem, gives_of_pure (by kernel_rfl), opw_mapUpdate (k := sMem) (v := (1 : Int)) K ht hA ho fun _ hA hk _ ho => ?_⟩
  refine ⟨sDisk, gives_of_pure (by kernel_rfl), opw_mapUpdate (k := sDisk) (v := (2 : Int)) K ht hA ho fun _ hA hk _ ho => ?_⟩
  refine ⟨sGpus, gives_of_pure (by kernel_rfl), opw_mapUpdate (k := sGpus) (v := (3 : Int)) K ht hA ho fun _ hA hk _ ho => ?_⟩
  have hr := reads_lookup2 (z := .int .i64 0) K ht (by kernel_rfl) ho s (ds := []) (by intro d hd; cases hd)
  rw [kind_map] at hr
  exact ⟨_, _, hr, leaf h hA rfl⟩
end Go.Vc.D
