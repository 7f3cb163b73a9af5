/- Comparing two values of a type whose parts are integers, bools and strings. -/
import Derived.Test.YtjpmpdckkdhidaaVcGo
import Derived.Laws.StructEq
namespace Go.Vc
open Go Go.RowKit

mutual
def eqB (P : Program) : Nat → TypeId → Value → Value → Option Bool
  | 0, _, _, _ => none
  | d + 1, t, x, y => match P.underlying t, x, y with
    | some .bool, .bool a, .bool b => some (a == b)
    | some (.int _), .int k a, .int k' b => cond (decide (k = k')) (some (a == b)) none
    | some .string, .string a, .string b => some (a == b)
    | some (.struct fs), .agg xs, .agg ys => cond (P.stoodInHeld t) none (eqBF P d xs ys fs.toList)
    | _, _, _ => none
def eqBF (P : Program) : Nat → Array Value → Array Value → List Field → Option Bool
  | _, _, _, [] => some true
  | 0, _, _, _ => none
  | d + 1, xs, ys, f :: r => cond (f.name == "_") (eqBF P d xs ys r)
    (match pureRun P (part f.type xs f.offset), pureRun P (part f.type ys f.offset) with
      | some a, some b => match eqB P d f.type a b, eqBF P d xs ys r with
        | some x, some y => some (x && y)
        | _, _ => none
      | _, _ => none)
end

theorem fieldsOf_of {P : Program} {t : TypeId} {fs : Array Field} (h : P.underlying t = some (.struct fs)) : P.fieldsOf t = fs := by
  simp [Program.fieldsOf, h]

mutual
theorem eqB_run {P : Program} (w : World) : ∀ (n d : Nat) (t : TypeId) (x y : Value) (r : Bool), eqB P n t x y = some r → n ≤ d → (Op.equalIn d t x y).run P w = .ok r w
  | 0, _, _, _, _, _, h, _ => by cases h
  | n + 1, 0, _, _, _, _, _, h => by omega
  | n + 1, d + 1, t, x, y, r, h, hd => by
    unfold eqB at h
    split at h
    · rename_i a b hu
      cases h
      exact run_equalIn_bool' w d t a b hu
    · rename_i k k1 a k2 b hu
      by_cases hk : k1 = k2
      · subst hk
        simp at h
        subst h
        exact run_equalIn_int w d t k1 k a b hu
      · simp [hk] at h
    · rename_i a b hu
      cases h
      rw [run_equalIn_string w d t a b hu, beq_toListBytes]
    · rename_i fs xs ys hu
      cases hp : P.stoodInHeld t with
      | true => simp [hp] at h
      | false =>
        simp only [hp, cond_false] at h
        have hf := fieldsOf_of hu
        rw [run_equalIn_agg w d t xs ys (by rw [hf]; exact hu) hp, hf]
        exact eqBF_run w n d xs ys _ r h (by omega)
    · cases h
theorem eqBF_run {P : Program} (w : World) : ∀ (n d : Nat) (xs ys : Array Value) (fs : List Field) (r : Bool), eqBF P n xs ys fs = some r → n ≤ d → (Op.eqFields d xs ys fs).run P w = .ok r w
  | n, d, xs, ys, [], r, h, _ => by
    unfold eqBF at h
    cases h
    simp [Op.eqFields]
  | 0, d, xs, ys, f :: fs, r, h, _ => by
    unfold eqBF at h
    cases h
  | n + 1, d, xs, ys, f :: fs, r, h, hd => by
    unfold eqBF at h
    have hs : f.name ≠ "_" ∨ f.name = "_" := by
      by_cases hn : f.name = "_" <;> simp [hn]
    rcases hs with hn | hn
    · have hnb : (f.name == "_") = false := by simpa using hn
      simp only [hnb, cond_false] at h
      split at h
      · rename_i a b ha hb
        split at h
        · rename_i x y hx hy
          cases h
          simp only [Op.eqFields, Sem.run_bind, Sem.run_ite, if_pos hn, pureRun_run ha, pureRun_run hb, Result.andThen_ok, eqB_run w n d _ _ _ _ hx (by omega)]
          cases x
          · simp
          · simpa using eqBF_run w n d xs ys fs y hy (by omega)
        · cases h
      · cases h
    · have hnb : (f.name == "_") = true := by simpa using hn
      simp only [hnb, cond_true] at h
      simp only [Op.eqFields, hn, ne_eq, not_true, if_false]
      exact eqBF_run w n d xs ys fs r h (by omega)
end

section
variable {P : Program}

theorem gives_eql {t : TypeId} {x y : Operand} {a b : Array Value} {r : Bool} (hg : P.eqGuardType P.depth t = false) (h : eqB P 30 t (.agg a) (.agg b) = some r) : Gives P (binOpS .eql t x y (.agg a) (.agg b)) (.bool r) := by
  intro W
  unfold binOpS
  rw [run_bind_ok (run_eqGuard_agg W .eql t x y a b hg), run_eql_struct, eqB_run W 30 10000 t _ _ r h (by omega)]
  rfl
theorem gives_neq {t : TypeId} {x y : Operand} {a b : Array Value} {r : Bool} (hg : P.eqGuardType P.depth t = false) (h : eqB P 30 t (.agg a) (.agg b) = some r) : Gives P (binOpS .neq t x y (.agg a) (.agg b)) (.bool (!r)) := by
  intro W
  unfold binOpS
  rw [run_bind_ok (run_eqGuard_agg W .neq t x y a b hg), run_neq_struct, eqB_run W 30 10000 t _ _ r h (by omega)]
  rfl

/-! ### Division -/
theorem gives_quo {t : TypeId} {x y : Operand} {k : IntKind} {a b : Int} (hb : b ≠ 0) : Gives P (binOpS .quo t x y (.int k a) (.int k b)) (.int k (k.wrap (a.tdiv b))) := by
  intro W
  unfold binOpS
  rw [run_bind_ok (show (eqGuard .quo t x y (.int k a) (.int k b)).run P W = .ok () W from rfl)]
  simp [binOp, Op.intDiv, hb]
theorem gives_rem {t : TypeId} {x y : Operand} {k : IntKind} {a b : Int} (hb : b ≠ 0) : Gives P (binOpS .rem t x y (.int k a) (.int k b)) (.int k (a.tmod b)) := by
  intro W
  unfold binOpS
  rw [run_bind_ok (show (eqGuard .rem t x y (.int k a) (.int k b)).run P W = .ok () W from rfl)]
  simp [binOp, Op.intDiv, hb]
end
end Go.Vc
