/- Own text of this claim: Su6. -/
import Derived.Test.YtlapclajdfaajaaSu5
import Derived.Test.YtlapclajdfaajaaSu4
import Derived.Test.YtlapclajdfaajaaFbw
set_option maxRecDepth 20000
namespace Go.Vc.B
open Go Go.Vc Go.RowKit Go.Proofs Vcbw

theorem vok_slot {p p' : PartT} (h1 : p.1 = p'.1) (h2 : p.2.1 = p'.2.1) : ∀ l, vok (some p) l = vok (some p') l
  | [] => by rw [vok_nil, vok_nil]
  | q :: r => by
    rw [vok_cons, vok_cons]
    have : okB (some p) q = okB (some p') q := decide_eq_decide.2 (by unfold slt; rw [h1, h2])
    rw [this]
theorem vadd_ok : ∀ (m : Nat) (a b out : List PartT) (o : Option PartT), a.length + b.length ≤ m → vok o a = true → vok o b = true → vadd a b = some out → vok o out = true ∧ ∀ k, sumK k out = sumK k a + sumK k b
  | 0, a, b, out, o, hm, ha, hb, h => by
    have e1 : a = [] := List.eq_nil_of_length_eq_zero (by omega)
    have e2 : b = [] := List.eq_nil_of_length_eq_zero (by omega)
    subst e1 e2
    rw [vadd_nil] at h
    cases h
    exact ⟨vok_nil, fun k => by simp [sumK]⟩
  | m + 1, [], b, out, o, hm, ha, hb, h => by
    rw [vadd_nil] at h
    cases h
    exact ⟨hb, fun k => by simp [sumK]⟩
  | m + 1, p :: a, [], out, o, hm, ha, hb, h => by
    rw [vadd_nil'] at h
    cases h
    exact ⟨ha, fun k => by simp [sumK]⟩
  | m + 1, p :: a, q :: b, out, o, hm, ha, hb, h => by
    simp only [List.length_cons] at hm
    have ha' := ha
    have hb' := hb
    rw [vok_cons] at ha' hb'
    simp only [Bool.and_eq_true, decide_eq_true_eq] at ha' hb'
    obtain ⟨⟨hp, hop⟩, hra⟩ := ha'
    obtain ⟨⟨hq, hoq⟩, hrb⟩ := hb'
    by_cases h1 : slt p q
    · rw [vadd_lt h1] at h
      cases hv : vadd a (q :: b) with
      | none => rw [hv] at h; cases h
      | some out' =>
        rw [hv] at h
        cases h
        obtain ⟨i1, i2⟩ := vadd_ok m a (q :: b) out' (some p) (by simp only [List.length_cons]; omega) hra (by rw [vok_cons]; simp only [Bool.and_eq_true, decide_eq_true_eq]; exact ⟨⟨hq, by simpa [okB] using h1⟩, hrb⟩) hv
        refine ⟨by rw [vok_cons]; simp only [Bool.and_eq_true, decide_eq_true_eq]; exact ⟨⟨hp, hop⟩, i1⟩, fun k => ?_⟩
        have := i2 k
        simp only [sumK] at this ⊢
        omega
    · by_cases h2 : slt q p
      · rw [vadd_gt h1 h2] at h
        cases hv : vadd (p :: a) b with
        | none => rw [hv] at h; cases h
        | some out' =>
          rw [hv] at h
          cases h
          obtain ⟨i1, i2⟩ := vadd_ok m (p :: a) b out' (some q) (by simp only [List.length_cons]; omega) (by rw [vok_cons]; simp only [Bool.and_eq_true, decide_eq_true_eq]; exact ⟨⟨hp, by simpa [okB] using h2⟩, hra⟩) hrb hv
          refine ⟨by rw [vok_cons]; simp only [Bool.and_eq_true, decide_eq_true_eq]; exact ⟨⟨hq, hoq⟩, i1⟩, fun k => ?_⟩
          have := i2 k
          simp only [sumK] at this ⊢
          omega
      · rw [vadd_eq h1 h2] at h
        split at h
        · rename_i hfit
          cases hv : vadd a b with
          | none => rw [hv] at h; cases h
          | some out' =>
            rw [hv] at h
            cases h
            have hs : q.1 = p.1 ∧ q.2.1 = p.2.1 := by unfold slt at h1 h2; omega
            have e1 : ∀ l, vok (some p) l = vok (some ((p.1, p.2.1, p.2.2 + q.2.2) : PartT)) l := vok_slot rfl rfl
            have e2 : ∀ l, vok (some q) l = vok (some ((p.1, p.2.1, p.2.2 + q.2.2) : PartT)) l := vok_slot hs.1 hs.2
            obtain ⟨i1, i2⟩ := vadd_ok m a b out' (some (p.1, p.2.1, p.2.2 + q.2.2)) (by omega) (by rw [← e1]; exact hra) (by rw [← e2]; exact hrb) hv
            have hbp := hp.2
            have hbq := hq.2
            refine ⟨by rw [vok_cons]; simp only [Bool.and_eq_true, decide_eq_true_eq]; exact ⟨⟨⟨hp.1, by simp only; omega⟩, by cases o <;> exact hop⟩, i1⟩, fun k => ?_⟩
            have := i2 k
            simp only [sumK] at this ⊢
            rw [hs.1]
            by_cases hk : p.1 = k
            · simp only [if_pos hk]; omega
            · simp only [if_neg hk]; omega
        · cases h

abbrev Ar4 := Int × Int × Int × Int
abbrev ar4 (x : Ar4) : List Value := [.int .i64 x.1, .int .i64 x.2.1, .int .i64 x.2.2.1, .int .i64 x.2.2.2]
/-- An own array of four, behind its pointer. -/
abbrev OwnA (w : World) (gs : List Nat) (W : World) (ad : Addr) (x : Ar4) : Prop := OwnL w gs W 40 4 ar4 (.slice (some ad) 1 1) [x]
theorem OwnA.elt {w W : World} {gs : List Nat} {ad : Addr} {x : Ar4} (h : OwnA w gs W ad x) : Elt W ad (ar4 x) := by
  obtain ⟨b, cs, hb, hl, hcs, rfl⟩ := (h.sl (by simp)).at_ (i := 0) rfl
  cases hb
  intro j v hv
  have := hcs j v hv
  rwa [Nat.zero_mul, addr_add0] at this
theorem OwnA.rd {w W : World} {gs : List Nat} {ad : Addr} {x : Ar4} (h : OwnA w gs W ad x) : Reads Try.prog [] (Instr.loadAt 40 (.pointer (some ad))) W (arrV x.1 x.2.1 x.2.2.1 x.2.2.2) :=
  Elt.agg 4 h.elt (by kernel_rfl) (by kernel_rfl) (by simp) no_ds
theorem opw_allocA {w W : World} {gs : List Nat} {K : Value → World → Prop} (hA : At w gs W) (h : ∀ g w', W.heap.size = g → At w gs w' → Keeps gs W w' → Below W.heap.size W w' → OwnA w gs w' ⟨g, 0, none⟩ (0, 0, 0, 0) → K (.pointer (some ⟨g, 0, none⟩)) w') : OpW Try.prog (valueS (Instr.alloc 40 true (.tuple #[]))) W K :=
  opw_alloc_below (zv := arrV 0 0 0 0) (by kernel_rfl) (opw_allocArr (n := 1) (size := 4) (f := ar4) (z := (0, 0, 0, 0)) hA (zv := arrV 0 0 0 0) (by kernel_rfl) rfl rfl (by decide) fun w' hA hk ho hb => h _ _ rfl hA hk hb ho)
theorem opw_storeA {w W : World} {gs : List Nat} {g : Nat} {x y : Ar4} {K : Value → World → Prop} (hA : At w gs W) (ho : OwnA w gs W ⟨g, 0, none⟩ x)
    (h : ∀ w', At w gs w' → Keeps gs W w' → W.grownBy w' (some g) → OwnA w gs w' ⟨g, 0, none⟩ y → K undef w') : OpW Try.prog (skipS (Instr.storeAt 40 (.pointer (some ⟨g, 0, none⟩)) (arrV y.1 y.2.1 y.2.2.1 y.2.2.2))) W K :=
  opw_store (y := y) (i := 0) hA ho (by simp) (by simp) rfl rfl rfl (by kernel_rfl) (fun w' hA hk hg ho => h w' hA hk hg ho) (fun g' hg' => by cases hg'; simp)

def ofA (l : List PartT) : Ar4 := if vecB l = true then (sumK 0 l, sumK 1 l, sumK 2 l, sumK 3 l) else (0, 0, 0, 0)
theorem ofV_eq (l : List PartT) : ofV l = arrV (ofA l).1 (ofA l).2.1 (ofA l).2.2.1 (ofA l).2.2.2 := by
  unfold ofV ofA
  split <;> rfl
theorem c33' {l : List PartT} {a : Option Addr} {n c : Nat} (w : World) (hs : SlE w 3 partE l a n c) : Ret Try.prog 33 #[.slice a n c] w (arrV (ofA l).1 (ofA l).2.1 (ofA l).2.2.1 (ofA l).2.2.2) := ofV_eq l ▸ c33 w hs
theorem ofA_at {l : List PartT} (h : vecB l = true) {k : Nat} (hk : k < 4) : (ar4 (ofA l))[k]? = some (.int .i64 (sumK k l)) := by
  rw [ofA, if_pos h]
  have hc : k = 0 ∨ k = 1 ∨ k = 2 ∨ k = 3 := by omega
  rcases hc with rfl | rfl | rfl | rfl <;> rfl

theorem law10 {l1 l2 : List PartT} {aa ba : Option Addr} {an ac bn bc : Nat} (w : World) (h1 : SlE w 3 partE l1 aa an ac) (h2 : SlE w 3 partE l2 ba bn bc) : Ret Try.prog 10 #[.slice aa an ac, .slice ba bn bc] w (.bool true) := by
  intro R h
  refine f10_calls aa an ac ba bn bc w R ?_
  unfold f10_vc
  have hA := At.refl w
  have hn1 := h1.1
  have hn2 := h2.1
  subst hn1 hn2
  refine brD (fun _ => leaf h hA rfl) (fun hla => brD (fun _ => leaf h hA rfl) (fun hlb => ?_))
  refine at_call hA (c33' _ h1) (fun _ hA hk => ?_)
  refine ⟨_, _, _, _, rfl, ?_⟩
  refine opw_allocA hA fun g w8 hg hA hk _ ho => ⟨_, rfl, ?_⟩
  refine opw_storeA (y := ofA l1) hA ho fun w11 hA hk _ ho => ?_
  refine at_callb hA (c34 _ (h1.call hA.below)) (fun w13 hA hk hb => ⟨_, rfl, ?_⟩)
  have ho := ho.call hb
  refine brNB (fun hv => ?_) (fun hv => ?_)
  · refine ⟨_, _, _, _, OwnA.rd ho, ?_⟩
    rw [ofA, if_neg (by rw [hv]; decide)]
    refine ⟨fun _ => ?_, fun hf => by simp at hf⟩
    refine at_call hA (c23 _) (fun _ hA hk => ?_)
    first | refine ⟨_, rfl, ?_⟩ | refine ⟨_, _, rfl, ?_⟩ | refine ⟨_, _, _, rfl, ?_⟩ | refine ⟨_, _, _, _, rfl, ?_⟩ | refine ⟨_, _, _, _, _, rfl, ?_⟩ | refine ⟨_, _, _, _, _, _, rfl, ?_⟩ | refine ⟨_, _, _, _, _, _, _, rfl, ?_⟩ | refine ⟨_, _, _, _, _, _, _, _, rfl, ?_⟩
    exact leaf h hA rfl
  have hat : ∀ {W : World} {gs : List Nat} {i : Nat} {x : PartT}, At w gs W → l1[i]? = some x → ∃ ad, Gives Try.prog (Instr.indexAt 55 (.slice aa l1.length ac) (.int .i64 (i : Int))) (.pointer (some ad)) ∧ Elt W ad (partE x) := fun hA hx => by
    obtain ⟨ad, g, e, _⟩ := elt_at (P := Try.prog) (k := .i64) (t := 55) (h1.call hA.below) hx (e := 59) (by kernel_rfl) (by kernel_rfl)
    exact ⟨ad, g, e⟩
  refine ⟨fun s W => At w [] W ∧ OwnA w [] W ⟨g, 0, none⟩ (ofA l1) ∧ ∃ k : Nat, s.1 = k ∧ k ≤ 4, fun s _ => 4 - s.1.toNat, ⟨hA, ho, 0, rfl, by omega⟩, ?_⟩
  intro i W ⟨hA, ho, k, hi, hk4⟩
  simp only at hi
  subst hi
  refine brD (fun hlt => ?_) (fun hge => ?_)
  · have e2 : IntKind.i64.wrap ((k : Int) + 1) = ((k + 1 : Nat) : Int) := by rw [wrap_i64 (by omega) (by omega)]; rfl
    rw [e2]
    refine ⟨fun s W => At w [] W ∧ OwnA w [] W ⟨g, 0, none⟩ (ofA l1) ∧ ∃ j : Nat, s.2.1 = j ∧ j ≤ l1.length ∧ s.1 = sumK k (l1.take j), fun s _ => l1.length - s.2.1.toNat, ⟨hA, ho, 0, rfl, by omega, by simp [sumK]⟩, ?_⟩
    intro n j' W2 ⟨hA, ho, j, hj, hjl, hnj⟩
    simp only at hj hnj
    subst hj
    have e1 : IntKind.i64.wrap ((j : Int) + 1) = ((j + 1 : Nat) : Int) := by rw [wrap_i64 (by omega) (by omega)]; rfl
    rw [e1]
    refine brD (fun hjlt => ?_) (fun hjge => ?_)
    · obtain ⟨p, hp⟩ : ∃ x, l1[j]? = some x := ⟨_, List.getElem?_eq_getElem (by omega)⟩
      have htk : l1.take (j + 1) = l1.take j ++ [p] := by rw [List.take_add_one, hp]; rfl
      obtain ⟨ad, g1, el⟩ := hat hA hp
      have hb0 := vec_bound (k := k) (by omega) (vok_take l1 none j hv)
      have hpr := (vok_mem l1 none hv p (List.mem_of_getElem? hp)).2
      refine ⟨_, g1, _, el.one (by kernel_rfl) no_ds, brE (fun he => ⟨_, g1, _, (el.sub (o := 2) (by decide)).one (by kernel_rfl) no_ds, ?_⟩) (fun hne => ?_)⟩
      · refine ⟨⟨hA, ho, j + 1, rfl, by omega, ?_⟩, by show l1.length - ((j + 1 : Nat) : Int).toNat < l1.length - (j : Int).toNat; omega⟩
        rw [htk, sumK_append, hnj]
        simp only [sumK, if_pos he]
        rw [wrap_i64 (by omega) (by omega)]
        omega
      · refine ⟨⟨hA, ho, j + 1, rfl, by omega, ?_⟩, by show l1.length - ((j + 1 : Nat) : Int).toNat < l1.length - (j : Int).toNat; omega⟩
        rw [htk, sumK_append, hnj]
        simp only [sumK, if_neg hne]
        omega
    · have hjl2 : j = l1.length := by omega
      subst hjl2
      rw [List.take_length] at hnj
      have hx := OwnA.elt ho k _ (ofA_at hv (by omega))
      refine ⟨_, gives_index_arr (e := 2) (n := 1) (by kernel_rfl) (by kernel_rfl) (by omega : k < 4), _, reads_one (by kernel_rfl) no_ds (by rw [Nat.mul_one]; exact hx), ?_⟩
      refine brN (fun hne => absurd hnj.symm hne) (fun _ => ⟨⟨hA, ho, k + 1, rfl, by omega⟩, by show 4 - ((k + 1 : Nat) : Int).toNat < 4 - (k : Int).toNat; omega⟩)
  refine at_calllb hA (c35 _ (h1.call hA.below) (h2.call hA.below) (by omega) (by omega)) (by simp) fun oa oc w38 hA hk hb hout hsout => ⟨_, _, _, _, rfl, ?_⟩
  have ho := ho.call hb
  obtain ⟨so, s0, s1, s2, s3, hsum⟩ : ∃ so s0 s1 s2 s3, sumA (ofA l1).1 (ofA l1).2.1 (ofA l1).2.2.1 (ofA l1).2.2.2 (ofA l2).1 (ofA l2).2.1 (ofA l2).2.2.1 (ofA l2).2.2.2 = pairA s0 s1 s2 s3 so := by
    obtain ⟨a, b, c, d, o, hh⟩ := sumA_shape (ofA l1).1 (ofA l1).2.1 (ofA l1).2.2.1 (ofA l1).2.2.2 (ofA l2).1 (ofA l2).2.1 (ofA l2).2.2.1 (ofA l2).2.2.2
    exact ⟨o, a, b, c, d, hh⟩
  have c27' : ∀ W, Ret Try.prog 27 #[arrV (ofA l1).1 (ofA l1).2.1 (ofA l1).2.2.1 (ofA l1).2.2.2, arrV (ofA l2).1 (ofA l2).2.1 (ofA l2).2.2.1 (ofA l2).2.2.2] W (pairA s0 s1 s2 s3 so) := fun W => hsum ▸ c27 _ _ _ _ _ _ _ _ W
  -- the second array
  generalize hout0 : (if vecB l1 = true ∧ vecB l2 = true then vout (vadd l1 l2) else []) = out at *
  have apart : ∀ {W W' : World} {g2 : Nat}, OwnL w [] W 59 3 partE (.slice oa out.length oc) out → W.heap.size = g2 → ∀ k, (Value.slice oa out.length oc).ownBlock = some k → k ≠ g2 := fun ho hg k hk => by
    have := (ho.row.lt _ hk).2
    omega
  have stored : ∀ {W : World} {g2 : Nat} {x : Ar4} {J : World → Prop}, At w [] W → OwnA w [] W ⟨g2, 0, none⟩ x → OwnL w [] W 59 3 partE (.slice oa out.length oc) out → (∀ k, (Value.slice oa out.length oc).ownBlock = some k → k ≠ g2) →
      (∀ W', At w [] W' ∧ OwnA w [] W' ⟨g2, 0, none⟩ (s0, s1, s2, s3) ∧ OwnL w [] W' 59 3 partE (.slice oa out.length oc) out → J W') → OpW Try.prog (skipS (Instr.storeAt 40 (.pointer (some ⟨g2, 0, none⟩)) (arrV s0 s1 s2 s3))) W fun _ w' => J w' := by
    intro W g2 x J hA ho hout hne hJ
    refine opw_storeA (y := (s0, s1, s2, s3)) hA ho fun w' hA hk hg ho => hJ _ ⟨hA, ho, hout.grown hg ?_⟩
    cases hb : (Value.slice oa out.length oc).ownBlock with
    | none => exact .inl rfl
    | some k => exact .inr fun e => hne k hb (by cases e; rfl)
  refine ⟨fun s W => s.2.1 = so ∧ At w [] W ∧ OwnA w [] W s.1 (s0, s1, s2, s3) ∧ OwnL w [] W 59 3 partE (.slice oa out.length oc) out, ⟨_, _, _, _, OwnA.rd ho, ⟨?_, ?_⟩⟩, ?_⟩
  · refine go_below0_too hA fun w48 hA hb48 => ?_
    refine at_callb hA (c33' _ (h2.call hA.below)) (fun w50 hA hk hb50 => ⟨_, _, _, _, rfl, OwnA.rd ((ho.call hb48).call hb50), ?_⟩)
    have ho := (ho.call hb48).call hb50
    have hout := (hout.call hb48).call hb50
    refine ⟨?_, ?_⟩
    · refine at_callb hA (c27' _) (fun w56 hA hk hb56 => ⟨_, _, _, _, _, rfl, ?_⟩)
      refine opw_allocA hA fun g2 w63 hg2 hA hk hb63 ho2 => ⟨_, rfl, ?_⟩
      exact stored hA ho2 ((hout.call hb56).call hb63) (apart (W' := w63) (hout.call hb56) hg2) fun W' h => ⟨rfl, h⟩
    · refine opw_allocA hA fun g2 w63 hg2 hA hk hb63 ho2 => ⟨_, rfl, OwnA.rd (ho.call hb63), ?_⟩
      refine at_callb hA (c27' _) (fun w56 hA hk hb56 => ⟨_, _, _, _, _, rfl, ?_⟩)
      exact stored hA (ho2.call hb56) ((hout.call hb63).call hb56) (apart (W' := w63) hout hg2) fun W' h => ⟨rfl, h⟩
  · refine go_below0_too hA fun w79 hA hb79 => ?_
    have ho := ho.call hb79
    have hout := hout.call hb79
    refine opw_allocA hA fun g2 w81 hg2 hA hk hb81 ho2 => ⟨_, rfl, OwnA.rd (ho.call hb81), ?_⟩
    refine at_callb hA (c33' _ (h2.call hA.below)) (fun w84 hA hk hb84 => ⟨_, _, _, _, rfl, OwnA.rd ((ho.call hb81).call hb84), ?_⟩)
    refine at_callb hA (c27' _) (fun w90 hA hk hb90 => ⟨_, _, _, _, _, rfl, ?_⟩)
    exact stored hA ((ho2.call hb84).call hb90) (((hout.call hb81).call hb84).call hb90) (apart (W' := w81) hout hg2) fun W' h => ⟨rfl, h⟩
  rintro ad b W3 ⟨hb, hA, hoA, hout⟩
  simp only at hb hoA
  subst hb
  refine brNB (fun _ => ?_) (fun hok => ?_)
  · refine go_below0 hA fun _ hA => ?_
    refine at_call hA (c23 _) (fun _ hA hk => ?_)
    first | refine ⟨_, rfl, ?_⟩ | refine ⟨_, _, rfl, ?_⟩ | refine ⟨_, _, _, rfl, ?_⟩ | refine ⟨_, _, _, _, rfl, ?_⟩ | refine ⟨_, _, _, _, _, rfl, ?_⟩ | refine ⟨_, _, _, _, _, _, rfl, ?_⟩ | refine ⟨_, _, _, _, _, _, _, rfl, ?_⟩ | refine ⟨_, _, _, _, _, _, _, _, rfl, ?_⟩
    exact leaf h hA rfl
  -- the sum is there
  simp only [Bool.and_eq_true, decide_eq_true_eq] at hok
  obtain ⟨⟨_, hv2⟩, hsome⟩ := hok
  rw [if_pos ⟨hv, hv2⟩] at hout0
  obtain ⟨out', hvadd⟩ := Option.isSome_iff_exists.1 hsome
  have : out' = out := by rw [← hout0, hvadd]; rfl
  subst this
  obtain ⟨hvo, hsk⟩ := vadd_ok _ l1 l2 out' none (Nat.le_refl _) hv hv2 hvadd
  have e1 : ofA l1 = (sumK 0 l1, sumK 1 l1, sumK 2 l1, sumK 3 l1) := if_pos hv
  have e2 : ofA l2 = (sumK 0 l2, sumK 1 l2, sumK 2 l2, sumK 3 l2) := if_pos hv2
  have e3 : ofA out' = (sumK 0 out', sumK 1 out', sumK 2 out', sumK 3 out') := if_pos hvo
  have a0 := vec_bound (k := 0) (by omega) hv
  have a1 := vec_bound (k := 1) (by omega) hv
  have a2 := vec_bound (k := 2) (by omega) hv
  have a3 := vec_bound (k := 3) (by omega) hv
  have b0 := vec_bound (k := 0) (by omega) hv2
  have b1 := vec_bound (k := 1) (by omega) hv2
  have b2 := vec_bound (k := 2) (by omega) hv2
  have b3 := vec_bound (k := 3) (by omega) hv2
  rw [e1, e2] at hsum
  simp only at hsum
  rw [sumA, if_pos (by unfold sumR; omega)] at hsum
  injection hsum with hsum
  simp at hsum
  obtain ⟨⟨rfl, rfl, rfl, rfl⟩, rfl⟩ := hsum
  refine brB (fun _ => ?_) (fun hf => by cases hf)
  refine ⟨_, _, _, _, OwnA.rd hoA, go_below0_too hA fun w101 hA hb101 => ?_⟩
  have hoA := hoA.call hb101
  refine at_callb hA (c33' _ ((hout.call hb101).sl (by simp))) (fun w103 hA hk hb103 => ⟨_, _, _, _, rfl, OwnA.rd (hoA.call hb103), ?_⟩)
  rw [e3]
  simp only [hsk]
  refine ⟨fun _ => ?_, fun hf => by simp at hf⟩
  refine at_callb hA (c23 _) (fun w109 hA hk hb109 => ⟨_, rfl, OwnA.rd ((hoA.call hb103).call hb109), ?_⟩)
  exact leaf h hA rfl
end Go.Vc.B
