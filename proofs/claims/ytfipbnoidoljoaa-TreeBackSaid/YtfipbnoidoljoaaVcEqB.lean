/- Running what reads and writes nothing; comparing two values whose parts are integers, bools and strings. -/
import Derived.Test.YtfipbnoidoljoaaVcRegion
import Derived.Laws.StructEq
import Derived.ChangeKeysEq
namespace Go.Vc
open Go Go.RowKit

def pureRun {α : Type} (P : Program) : Sem α → Option α
  | .pure a => some a
  | .program k => pureRun P (k P)
  | .mark _ k => pureRun P k
  | .choose q k => cond q.forced (pureRun P (k 0)) none
  | _ => none

theorem pureRun_run {α : Type} {P : Program} : ∀ {s : Sem α} {a : α}, pureRun P s = some a → ∀ w, s.run P w = .ok a w := by
  intro s
  induction s with
  | pure a => intro b h w; simp only [pureRun, Option.some.injEq] at h; subst h; rfl
  | program k ih => intro b h w; simp only [pureRun] at h; simpa [Sem.run] using ih _ h w
  | mark m k ih => intro b h w; simp only [pureRun] at h; simpa [Sem.run] using ih h w
  | choose q k ih =>
    intro b h w
    simp only [pureRun] at h
    cases hq : q.forced with
    | false => simp [hq] at h
    | true =>
      simp only [hq, cond_true] at h
      simpa [Sem.run, hq] using ih 0 h w
  | _ => intro b h; simp [pureRun] at h

theorem viewStore_drawn {p : Program} {w w' : World} {at_ a : Addr} {u : TypeId} {v : Value} {b : Bool} {l : List Addr} (h : w.viewStore p at_ u a v b = .ok (w', l)) : w'.drawn = w.drawn := by
  unfold World.viewStore at h
  simp only [bind, Except.bind, pure, Except.pure] at h
  repeat' (split at h)
  all_goals first
    | (cases h; done)
    | (simp only [Except.ok.injEq, Prod.mk.injEq] at h; obtain ⟨rfl, _⟩ := h; rfl)
theorem ask_drawn {α : Type} : ∀ (m : Ask α) (w : World), w.drawn ≤ (w.ask m).2.drawn := by
  intro m
  induction m with
  | done a => intro w; unfold World.ask; exact Nat.le_refl _
  | ask what range k ih =>
    intro w
    unfold World.ask
    simp only
    split
    · exact ih _ w
    · exact Nat.le_trans (Nat.le_succ _) (ih _ { w with drawn := w.drawn + 1 })
theorem sys_drawn (w : World) (c : Sys) : w.drawn ≤ (w.sys c).2.drawn := by
  have h := ask_drawn (Kernel.perform c w.os) w
  unfold World.sys
  split
  · exact Nat.le_refl _
  · rename_i r os w2 he
    rw [he] at h
    exact h
/-- Running draws on, never back. -/
theorem run_drawn {α : Type} {P : Program} : ∀ {s : Sem α} {w w' : World} {a : α}, s.run P w = .ok a w' → w.drawn ≤ w'.drawn := by
  intro s
  induction s with
  | pure b => intro w w' a h; simp only [Sem.run, Result.ok.injEq] at h; obtain ⟨_, rfl⟩ := h; exact Nat.le_refl _
  | load m ad k ih =>
    intro w w' a h
    simp only [Sem.run] at h
    split at h
    · exact ih _ h
    · split at h
      · exact ih _ h
      · cases h
  | store m ad v k ih =>
    intro w w' a h
    cases v <;> simp only [Sem.run] at h
    case agg => cases h
    case tuple => cases h
    all_goals
      split at h
      · split at h
        · cases h
        · exact Nat.le_trans (Nat.le_of_eq (by rfl)) (ih h)
      · split at h
        · rename_i w2 l hf
          refine Nat.le_trans (Nat.le_of_eq ?_) (ih h)
          unfold World.farStore at hf
          split at hf
          · split at hf
            · rename_i hv
              cases hf
              exact (viewStore_drawn hv).symm
            · cases hf
          · cases hf
        · cases h
  | new o k ih => intro w w' a h; simp only [Sem.run] at h; exact Nat.le_trans (Nat.le_of_eq (by rfl)) (ih _ h)
  | shape r k ih => intro w w' a h; simp only [Sem.run] at h; exact ih _ h
  | freeze ad n k ih =>
    intro w w' a h
    simp only [Sem.run] at h
    refine Nat.le_trans (Nat.le_of_eq ?_) (ih h)
    unfold World.freeze
    split <;> rfl
  | frozen ad k ih => intro w w' a h; simp only [Sem.run] at h; exact ih _ h
  | getObj r k ih =>
    intro w w' a h
    simp only [Sem.run] at h
    split at h
    · cases h
    · exact ih _ h
    · cases h
  | setObj r o k ih =>
    intro w w' a h
    simp only [Sem.run] at h
    split at h
    · cases h
    · exact Nat.le_trans (Nat.le_of_eq (by rfl)) (ih h)
    · cases h
  | choose q k ih =>
    intro w w' a h
    simp only [Sem.run] at h
    split at h
    · exact ih _ h
    · exact Nat.le_trans (Nat.le_succ _) (ih _ h)
  | sys c k ih => intro w w' a h; simp only [Sem.run] at h; exact Nat.le_trans (sys_drawn w c) (ih _ h)
  | program k ih => intro w w' a h; simp only [Sem.run] at h; exact ih _ h
  | mark m k ih => intro w w' a h; simp only [Sem.run] at h; exact ih h
  | halt hh => intro w w' a h; cases h

theorem run_bind_ok {α β : Type} {P : Program} {s : Sem α} {f : α → Sem β} {w w' : World} {a : α} (h : s.run P w = .ok a w') : (s >>= f).run P w = (f a).run P w' := by
  have key : ∀ (s : Sem α) (w : World), s.run P w = .ok a w' → (s.bind f).run P w = (f a).run P w' := by
    intro s
    induction s with
    | pure b => intro w h; simp only [Sem.run, Result.ok.injEq] at h; obtain ⟨rfl, rfl⟩ := h; rfl
    | load m ad k ih =>
      intro w h
      simp only [Sem.run, Sem.bind] at h ⊢
      split at h
      · exact ih _ _ h
      · split at h
        · exact ih _ _ h
        · cases h
    | store m ad v k ih =>
      intro w h
      cases v <;> simp only [Sem.run, Sem.bind] at h ⊢
      case agg => cases h
      case tuple => cases h
      all_goals
        split at h
        · split at h
          · cases h
          · rename_i hf; simp only [hf]; exact ih _ h
        · split at h
          · exact ih _ h
          · cases h
    | new o k ih => intro w h; exact ih _ _ h
    | shape r k ih => intro w h; exact ih _ _ h
    | freeze ad n k ih => intro w h; exact ih _ h
    | frozen ad k ih => intro w h; exact ih _ _ h
    | getObj r k ih =>
      intro w h
      simp only [Sem.run, Sem.bind] at h ⊢
      split at h
      · cases h
      · exact ih _ _ h
      · cases h
    | setObj r o k ih =>
      intro w h
      simp only [Sem.run, Sem.bind] at h ⊢
      split at h
      · cases h
      · exact ih _ h
      · cases h
    | choose q k ih =>
      intro w h
      simp only [Sem.run, Sem.bind] at h ⊢
      split at h
      · rename_i hq; simp only [hq, if_true]; exact ih _ _ h
      · rename_i hq; simp only [hq]; exact ih _ _ h
    | sys c k ih => intro w h; exact ih _ _ h
    | program k ih => intro w h; exact ih _ _ h
    | mark m k ih => intro w h; exact ih _ h
    | halt hh => intro w h; cases h
  exact key s w h

def binOpS (op : BinOp) (t : TypeId) (x y : Operand) (a b : Value) : Sem Value := do
  eqGuard op t x y a b
  binOp op t a b

mutual
def eqB (P : Program) : Nat → TypeId → Value → Value → Option Bool
  | 0, _, _, _ => none
  | d + 1, t, x, y => match P.underlying t, x, y with
    | some .bool, .bool a, .bool b => some (a == b)
    | some (.int _), .int k a, .int k' b => cond (decide (k = k')) (some (a == b)) none
    | some .string, .string a, .string b => some (a == b)
    | some (.struct fs), .agg xs, .agg ys => cond (P.stoodInHeld t) none (eqBF P d xs ys fs.toList)
    | some (.array n e), .agg xs, .agg ys => match P.info? e with
      | some _ => eqBA P d xs ys e (P.cellsOf e) (List.range n)
      | none => none
    | _, _, _ => none
def eqBF (P : Program) : Nat → Array Value → Array Value → List Field → Option Bool
  | _, _, _, [] => some true
  | 0, _, _, _ => none
  | d + 1, xs, ys, f :: r => cond (f.name == "_") (eqBF P d xs ys r)
    (match pureRun P (part f.type xs f.offset), pureRun P (part f.type ys f.offset) with
      | some a, some b => match eqB P d f.type a b, eqBF P d xs ys r with
        | some x, some y => some (x && y)
        | _, _ => none
      | _, _ => none)
def eqBA (P : Program) : Nat → Array Value → Array Value → TypeId → Nat → List Nat → Option Bool
  | _, _, _, _, _, [] => some true
  | 0, _, _, _, _, _ => none
  | d + 1, xs, ys, e, sz, i :: r => match pureRun P (part e xs (i * sz)), pureRun P (part e ys (i * sz)) with
    | some a, some b => match eqB P d e a b, eqBA P d xs ys e sz r with
      | some x, some y => some (x && y)
      | _, _ => none
    | _, _ => none
end

theorem fieldsOf_of {P : Program} {t : TypeId} {fs : Array Field} (h : P.underlying t = some (.struct fs)) : P.fieldsOf t = fs := by
  simp [Program.fieldsOf, h]

mutual
theorem eqB_run {P : Program} (w : World) : ∀ (n d : Nat) (t : TypeId) (x y : Value) (r : Bool), eqB P n t x y = some r → n ≤ d → (Op.equalIn d t x y).run P w = .ok r w
  | 0, _, _, _, _, _, h, _ => by cases h
  | n + 1, 0, _, _, _, _, _, h => by omega
  | n + 1, d + 1, t, x, y, r, h, hd => by
    unfold eqB at h
    split at h
    · rename_i a b hu
      cases h
      exact run_equalIn_bool' w d t a b hu
    · rename_i k k1 a k2 b hu
      by_cases hk : k1 = k2
      · subst hk
        simp at h
        subst h
        exact run_equalIn_int w d t k1 k a b hu
      · simp [hk] at h
    · rename_i a b hu
      cases h
      rw [run_equalIn_string w d t a b hu, beq_toListBytes]
    · rename_i fs xs ys hu
      cases hp : P.stoodInHeld t with
      | true => simp [hp] at h
      | false =>
        simp only [hp, cond_false] at h
        have hf := fieldsOf_of hu
        rw [run_equalIn_agg w d t xs ys (by rw [hf]; exact hu) hp, hf]
        exact eqBF_run w n d xs ys _ r h (by omega)
    · rename_i m e xs ys hu
      split at h
      · rename_i inf hi
        rw [run_equalIn_array w d xs ys hu hi]
        exact eqBA_run w n d xs ys e _ _ r h (by omega)
      · cases h
    · cases h
theorem eqBA_run {P : Program} (w : World) : ∀ (n d : Nat) (xs ys : Array Value) (e : TypeId) (sz : Nat) (is : List Nat) (r : Bool), eqBA P n xs ys e sz is = some r → n ≤ d → (Op.eqItems d e sz xs ys is).run P w = .ok r w
  | n, d, xs, ys, e, sz, [], r, h, _ => by
    unfold eqBA at h
    cases h
    simp [Op.eqItems]
  | 0, d, xs, ys, e, sz, i :: is, r, h, _ => by
    unfold eqBA at h
    cases h
  | n + 1, d, xs, ys, e, sz, i :: is, r, h, hd => by
    unfold eqBA at h
    split at h
    · rename_i a b ha hb
      split at h
      · rename_i x y hx hy
        cases h
        simp only [Op.eqItems, Sem.run_bind, pureRun_run ha, pureRun_run hb, Result.andThen_ok, eqB_run w n d _ _ _ _ hx (by omega)]
        cases x
        · simp
        · simpa using eqBA_run w n d xs ys e sz is y hy (by omega)
      · cases h
    · cases h
theorem eqBF_run {P : Program} (w : World) : ∀ (n d : Nat) (xs ys : Array Value) (fs : List Field) (r : Bool), eqBF P n xs ys fs = some r → n ≤ d → (Op.eqFields d xs ys fs).run P w = .ok r w
  | n, d, xs, ys, [], r, h, _ => by
    unfold eqBF at h
    cases h
    simp [Op.eqFields]
  | 0, d, xs, ys, f :: fs, r, h, _ => by
    unfold eqBF at h
    cases h
  | n + 1, d, xs, ys, f :: fs, r, h, hd => by
    unfold eqBF at h
    have hs : f.name ≠ "_" ∨ f.name = "_" := by
      by_cases hn : f.name = "_" <;> simp [hn]
    rcases hs with hn | hn
    · have hnb : (f.name == "_") = false := by simpa using hn
      simp only [hnb, cond_false] at h
      split at h
      · rename_i a b ha hb
        split at h
        · rename_i x y hx hy
          cases h
          simp only [Op.eqFields, Sem.run_bind, Sem.run_ite, if_pos hn, pureRun_run ha, pureRun_run hb, Result.andThen_ok, eqB_run w n d _ _ _ _ hx (by omega)]
          cases x
          · simp
          · simpa using eqBF_run w n d xs ys fs y hy (by omega)
        · cases h
      · cases h
    · have hnb : (f.name == "_") = true := by simpa using hn
      simp only [hnb, cond_true] at h
      simp only [Op.eqFields, hn, ne_eq, not_true, if_false]
      exact eqBF_run w n d xs ys fs r h (by omega)
end


def aggEq (P : Program) (ρ : Operand → Value) (o : Oper) : Option Value :=
  match o.op with
  | .binOp op t x y _ => match op, ρ x, ρ y with
    | .eql, .agg a, .agg b => cond (P.eqGuardType P.depth t) none (match eqB P 30 t (.agg a) (.agg b) with
      | some r => some (.bool r)
      | none => none)
    | .neq, .agg a, .agg b => cond (P.eqGuardType P.depth t) none (match eqB P 30 t (.agg a) (.agg b) with
      | some r => some (.bool (!r))
      | none => none)
    | _, _, _ => none
  | _ => none

def runQ (P : Program) (ρ : Operand → Value) (o : Oper) : Option Value :=
  match aggEq P ρ o with
  | some v => some v
  | none => match pureRun P (execOp ρ o) with
    | some (.value v) => some v
    | _ => none

section
variable {P : Program}
theorem run_eqlS {t : TypeId} {x y : Operand} {a b : Array Value} {r : Bool} (hg : P.eqGuardType P.depth t = false) (h : eqB P 30 t (.agg a) (.agg b) = some r) (W : World) : (binOpS .eql t x y (.agg a) (.agg b)).run P W = .ok (.bool r) W := by
  unfold binOpS
  rw [run_bind_ok (run_eqGuard_agg W .eql t x y a b hg), run_eql_struct, eqB_run W 30 10000 t _ _ r h (by omega)]
  rfl
theorem run_neqS {t : TypeId} {x y : Operand} {a b : Array Value} {r : Bool} (hg : P.eqGuardType P.depth t = false) (h : eqB P 30 t (.agg a) (.agg b) = some r) (W : World) : (binOpS .neq t x y (.agg a) (.agg b)).run P W = .ok (.bool (!r)) W := by
  unfold binOpS
  rw [run_bind_ok (run_eqGuard_agg W .neq t x y a b hg), run_neq_struct, eqB_run W 30 10000 t _ _ r h (by omega)]
  rfl

theorem aggEq_run {ρ : Operand → Value} {o : Oper} {v : Value} (h : aggEq P ρ o = some v) (W : World) : (execOp ρ o).run P W = .ok (.value v) W := by
  unfold aggEq at h
  split at h
  · rename_i op t x y c ho
    have he : (execOp ρ o).run P W = (do pure (Next.value (← binOpS op t x y (ρ x) (ρ y))) : Sem Next).run P W := by
      simp only [execOp, ho, binOpS, bind_assoc]
    rw [he]
    split at h
    · rename_i a b hx hy
      cases hg : P.eqGuardType P.depth t with
      | true => simp [hg] at h
      | false =>
        simp only [hg, cond_false] at h
        split at h
        · rename_i r hr
          cases h
          rw [hx, hy, run_bind_ok (run_eqlS hg hr W)]
          rfl
        · cases h
    · rename_i a b hx hy
      cases hg : P.eqGuardType P.depth t with
      | true => simp [hg] at h
      | false =>
        simp only [hg, cond_false] at h
        split at h
        · rename_i r hr
          cases h
          rw [hx, hy, run_bind_ok (run_neqS hg hr W)]
          rfl
        · cases h
    · cases h
  · cases h

theorem runQ_run {ρ : Operand → Value} {o : Oper} {v : Value} (h : runQ P ρ o = some v) (W : World) : (execOp ρ o).run P W = .ok (.value v) W := by
  unfold runQ at h
  split at h
  · rename_i u hu
    cases h
    exact aggEq_run hu W
  · split at h
    · rename_i u hu
      cases h
      exact pureRun_run hu W
    · cases h
end
end Go.Vc
