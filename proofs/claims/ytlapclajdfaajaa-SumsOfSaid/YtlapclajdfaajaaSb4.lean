/- Own text of this claim: Sb4. -/
import Derived.Test.YtlapclajdfaajaaSb3
set_option maxRecDepth 20000
namespace Go.Vc.B
open Go Go.Vc Go.RowKit Go.Proofs Vcb

abbrev Dig (l : List Int) : Prop := ∀ x ∈ l, 0 ≤ x ∧ x < 65536
def pw : Nat → Int
  | 0 => 1
  | k + 1 => 65536 * pw k
def val : List Int → Int
  | [] => 0
  | d :: r => d + 65536 * val r

theorem pw_pos : ∀ k, 0 < pw k
  | 0 => by decide
  | k + 1 => by have := pw_pos k; simp [pw]; omega
theorem pw_add : ∀ a b, pw (a + b) = pw a * pw b
  | 0, b => by simp [pw]
  | a + 1, b => by rw [Nat.succ_add]; simp only [pw]; rw [pw_add a b, Int.mul_assoc]
theorem val_append : ∀ (a b : List Int), val (a ++ b) = val a + pw a.length * val b
  | [], b => by simp [val, pw]
  | d :: a, b => by
    simp only [List.cons_append, val, List.length_cons, pw]
    rw [val_append a b]
    grind
theorem val_take_succ {l : List Int} {k : Nat} {x : Int} (h : l[k]? = some x) : val (l.take (k + 1)) = val (l.take k) + pw k * x := by
  have hk := (List.getElem?_eq_some_iff.1 h).1
  rw [List.take_add_one, h, val_append, List.length_take, Nat.min_eq_left (by omega)]
  simp [val]
theorem val_set : ∀ {l : List Int} {k : Nat} {x y : Int}, l[k]? = some x → val (l.set k y) = val l + (y - x) * pw k
  | [], k, x, y, h => by simp at h
  | d :: l, 0, x, y, h => by
    simp at h
    subst h
    simp [val, pw]
    omega
  | d :: l, k + 1, x, y, h => by
    simp only [List.set_cons_succ, val, pw]
    rw [val_set (l := l) (k := k) (x := x) (y := y) (by simpa using h)]
    grind
theorem val_nonneg : ∀ {l : List Int}, Dig l → 0 ≤ val l ∧ val l < pw l.length
  | [], _ => by simp [val, pw]
  | d :: l, h => by
    have h1 := h d (List.mem_cons_self ..)
    have h2 := val_nonneg (l := l) fun x hx => h x (List.mem_cons_of_mem _ hx)
    simp only [val, pw, List.length_cons]
    omega
theorem val_dg : ∀ (k : Nat) (x : Int), 0 ≤ x → x < pw k → val (dg k x) = x
  | 0, x, h1, h2 => by simp [pw] at h2; simp [dg, val]; omega
  | k + 1, x, h1, h2 => by
    simp only [pw] at h2
    simp only [dg, val]
    rw [val_dg k (x / 65536) (by omega) (by omega)]
    omega
theorem dg_dig : ∀ (k : Nat) (x : Int), Dig (dg k x)
  | 0, x => by intro y hy; cases hy
  | k + 1, x => by
    intro y hy
    rcases List.mem_cons.1 hy with rfl | hy
    · omega
    · exact dg_dig k _ y hy
theorem val_zeros : ∀ (k : Nat), val (List.replicate k 0) = 0
  | 0 => rfl
  | k + 1 => by rw [List.replicate_succ]; simp [val, val_zeros k]

theorem dig_at {l : List Int} (h : Dig l) {k : Nat} {x : Int} (hx : l[k]? = some x) : 0 ≤ x ∧ x < 65536 := h x (List.mem_of_getElem? hx)
theorem dig_set {l : List Int} (h : Dig l) {k : Nat} {y : Int} (hy : 0 ≤ y ∧ y < 65536) : Dig (l.set k y) := fun x hx => by
  rcases List.mem_or_eq_of_mem_set hx with hx | rfl
  · exact h x hx
  · exact hy

theorem c51 {A B : List Int} {aa ba : Option Addr} {an ac bn bc : Nat} (w : World) (ha : SlE w 1 one A aa an ac) (hb : SlE w 1 one B ba bn bc) (hdA : Dig A) (hdB : Dig B) (hlA : A.length ≤ 1000) (hlB : B.length ≤ 1000) :
    RetQ Try.prog 51 #[.slice aa an ac, .slice ba bn bc] w (fun v w' => ∃ l : List Int, w'.ownsRow w.heap.size 3 1 v l.length (l.flatMap one) ∧ Dig l ∧ l.length = A.length + B.length ∧ val l = val A * val B) := by
  intro R h
  refine f51_calls aa an ac ba bn bc w R ?_
  unfold f51_vc
  have hA := At.refl w
  have ean : an = A.length := ha.1
  have ebn : bn = B.length := hb.1
  subst ean
  subst ebn
  rw [wrap_i64 (by omega) (by omega), show (A.length : Int) + (B.length : Int) = ((A.length + B.length : Nat) : Int) by simp]
  refine opw_make (bytes := 8) (e := 3) (size := 1) (f := one) (z := (0 : Int)) (by kernel_rfl) hA ⟨_, _, rfl, rfl, by kernel_rfl⟩ (by omega) (by simp only [maxLen]; omega) fun w2 hA hk ho hg => ⟨_, _, _, rfl, ?_⟩
  have hold : ∀ {W : World} {l : List Int} {a : Option Addr} {n c : Nat}, At w [] W → SlE w 1 one l a n c → SlE W 1 one l a n c := fun hA hs => hs.call hA.below
  generalize hgm : w.heap.size = gm at ho ⊢
  have hf1 : ∀ l : List Int, ∀ x ∈ l, (one x).length = 1 := fun _ _ _ => rfl
  refine ⟨fun s W => At w [] W ∧ ∃ k : Nat, s.1 = k ∧ k ≤ A.length ∧ ∃ l : List Int, OwnL w [] W 3 1 one (.slice (some ⟨gm, 0, none⟩) (A.length + B.length) (A.length + B.length)) l ∧ Dig l ∧ l.length = A.length + B.length ∧ val l = val (A.take k) * val B ∧ ∀ j x, k + B.length ≤ j → l[j]? = some x → x = 0,
    fun s _ => A.length - s.1.toNat, ⟨hA, 0, rfl, Nat.zero_le _, _, ho, fun x hx => by rw [(List.mem_replicate.1 hx).2]; omega, List.length_replicate, by simp [val, val_zeros], fun j x _ hx => by
      rw [List.getElem?_replicate] at hx; split at hx
      · exact (Option.some.inj hx).symm
      · cases hx⟩, ?_⟩
  intro i W ⟨hA, k, hik, hk, l, ho, hdl, hll, hv, hz⟩
  simp only at hik
  subst hik
  refine brD (fun hlt => ?_) (fun hge => ?_)
  · obtain ⟨A0, hA0⟩ : ∃ x, A[k]? = some x := ⟨_, List.getElem?_eq_getElem (by omega)⟩
    have dA0 := dig_at hdA hA0
    refine ⟨fun s W => At w [] W ∧ 0 ≤ s.1 ∧ s.1 < 65536 ∧ ∃ q : Nat, s.2.1 = q ∧ q ≤ B.length ∧ ∃ l : List Int, OwnL w [] W 3 1 one (.slice (some ⟨gm, 0, none⟩) (A.length + B.length) (A.length + B.length)) l ∧ Dig l ∧ l.length = A.length + B.length ∧ val l + s.1 * pw (k + q) = val (A.take k) * val B + A0 * pw k * val (B.take q) ∧ ∀ j x, k + B.length ≤ j → l[j]? = some x → x = 0,
      fun s _ => B.length - s.2.1.toNat, ⟨hA, by show (0 : Int) ≤ 0; omega, by show (0 : Int) < 65536; omega, 0, rfl, Nat.zero_le _, l, ho, hdl, hll, by simp [hv, val], hz⟩, ?_⟩
    clear ho hdl hll hv hz
    intro ov j W ⟨hA, hov0, hov1, q, hjq, hq, l, ho, hdl, hll, hv, hz⟩
    simp only at hjq hov0 hov1 hv
    subst hjq
    have ekq : IntKind.i64.wrap ((k : Int) + (q : Int)) = ((k + q : Nat) : Int) := by rw [wrap_i64 (by omega) (by omega)]; rfl
    refine brD (fun hlt2 => ?_) (fun hge2 => ?_)
    · obtain ⟨B0, hB0⟩ : ∃ x, B[q]? = some x := ⟨_, List.getElem?_eq_getElem (by omega)⟩
      obtain ⟨L0, hL0⟩ : ∃ x, l[k + q]? = some x := ⟨_, List.getElem?_eq_getElem (by omega)⟩
      have dB0 := dig_at hdB hB0
      have dL0 := dig_at hdl hL0
      rw [ekq]
      obtain ⟨a1, g1, r1⟩ := rd_one (te := 3) (ds := []) (k := .i64) (t := 31) (P := Try.prog) (e := 3) (ho.sl (hf1 _)) hL0 rfl (by kernel_rfl) (by kernel_rfl) (by kernel_rfl) (fun _ h => by cases h)
      obtain ⟨a2, g2, r2⟩ := rd_one (te := 3) (ds := []) (k := .i64) (t := 31) (P := Try.prog) (e := 3) (hold hA ha) hA0 rfl (by kernel_rfl) (by kernel_rfl) (by kernel_rfl) (fun _ h => by cases h)
      obtain ⟨a3, g3, r3⟩ := rd_one (te := 3) (ds := []) (k := .i64) (t := 31) (P := Try.prog) (e := 3) (hold hA hb) hB0 rfl (by kernel_rfl) (by kernel_rfl) (by kernel_rfl) (fun _ h => by cases h)
      have hprod : 0 ≤ A0 * B0 ∧ A0 * B0 ≤ 4294836225 := by
        refine ⟨Int.mul_nonneg dA0.1 dB0.1, ?_⟩
        have h1 : A0 * B0 ≤ 65535 * B0 := Int.mul_le_mul_of_nonneg_right (by omega) dB0.1
        omega
      refine ⟨_, g1, _, r1, _, g2, _, r2, _, g3, _, r3, _, gives_index (e := 3) (n := 1) (by kernel_rfl) (by kernel_rfl) (by omega), ?_⟩
      generalize hm : A0 * B0 = m at *
      have ew : IntKind.i64.wrap (IntKind.i64.wrap (L0 + IntKind.i64.wrap m) + ov) = L0 + m + ov := by
        rw [wrap_i64 (x := m) (by omega) (by omega), wrap_i64 (x := L0 + m) (by omega) (by omega), wrap_i64 (by omega) (by omega)]
      rw [ew, Int.tmod_eq_emod_of_nonneg (by omega), Int.tdiv_eq_ediv_of_nonneg (by omega)]
      have ew2 : IntKind.i64.wrap ((L0 + m + ov) / 65536) = (L0 + m + ov) / 65536 := wrap_i64 (by omega) (by omega)
      have eq1 : IntKind.i64.wrap ((q : Int) + 1) = ((q + 1 : Nat) : Int) := by rw [wrap_i64 (by omega) (by omega)]; rfl
      rw [ew2, eq1]
      intro w22 hb22
      have hA := hA.call hb22
      refine opw_store (y := (L0 + m + ov) % 65536) (i := k + q) hA (ho.call hb22) (hf1 _) (by omega) rfl rfl rfl (by kernel_rfl) (fun w' hA hk hg ho => ?_) (fun g hg => ?_)
      · refine ⟨⟨hA, ?_, ?_, q + 1, rfl, by omega, _, ho, dig_set hdl (by omega), by simpa using hll, ?_, fun j x hj hx => ?_⟩, ?_⟩
        · show (0 : Int) ≤ (L0 + m + ov) / 65536
          omega
        · show (L0 + m + ov) / 65536 < 65536
          omega
        · show val (l.set (k + q) ((L0 + m + ov) % 65536)) + (L0 + m + ov) / 65536 * pw (k + (q + 1)) = _
          rw [val_set hL0, val_take_succ hB0, ← Nat.add_assoc, show pw (k + q + 1) = 65536 * pw (k + q) from rfl]
          have hpa := pw_add k q
          have hdm : L0 + m + ov = 65536 * ((L0 + m + ov) / 65536) + (L0 + m + ov) % 65536 := by omega
          generalize (L0 + m + ov) / 65536 = qq at *
          generalize (L0 + m + ov) % 65536 = rr at *
          subst hm
          rw [hpa] at hv ⊢
          grind
        · rw [List.getElem?_set_ne (by omega)] at hx
          exact hz j x hj hx
        · simp only
          omega
      · cases hg
        rw [addr_add, Nat.zero_add]
    · have hqe : q = B.length := by omega
      subst hqe
      obtain ⟨L0, hL0⟩ : ∃ x, l[k + B.length]? = some x := ⟨_, List.getElem?_eq_getElem (by omega)⟩
      have hL00 := hz _ _ (Nat.le_refl _) hL0
      subst hL00
      rw [ekq]
      refine ⟨_, gives_index (e := 3) (n := 1) (by kernel_rfl) (by kernel_rfl) (by omega), ?_⟩
      refine opw_store (y := ov) (i := k + B.length) hA ho (hf1 _) (by omega) rfl rfl rfl (by kernel_rfl) (fun w' hA hk hg ho => ?_) (fun g hg => ?_)
      · have ek1 : IntKind.i64.wrap ((k : Int) + 1) = ((k + 1 : Nat) : Int) := by rw [wrap_i64 (by omega) (by omega)]; rfl
        rw [ek1]
        refine ⟨⟨hA, k + 1, rfl, by omega, _, ho, dig_set hdl ⟨hov0, hov1⟩, by simpa using hll, ?_, fun j x hj hx => ?_⟩, ?_⟩
        · rw [val_set hL0, val_take_succ hA0]
          rw [List.take_length] at hv
          grind
        · rw [List.getElem?_set_ne (by omega)] at hx
          exact hz j x (by omega) hx
        · simp only
          omega
      · cases hg
        rw [addr_add, Nat.zero_add]
  · have hke : k = A.length := by omega
    subst hke
    rw [List.take_length] at hv
    exact h _ W hA.below ⟨l, ho.row, hdl, hll, hv⟩

theorem val_lt : ∀ {A B : List Int} {k : Nat} {x y : Int}, Dig A → Dig B → A.length = B.length → A[k]? = some x → B[k]? = some y → A.drop (k + 1) = B.drop (k + 1) → (x ≠ y → (x < y ↔ val A < val B)) ∧ (x = y → A.drop k = B.drop k) := by
  intro A B k x y hA hB hl hx hy hd
  have hk := (List.getElem?_eq_some_iff.1 hx).1
  have dx := drop_cons hx
  have dy := drop_cons hy
  refine ⟨fun hne => ?_, fun h => by rw [dx, dy, hd, h]⟩
  have e1 : val A = val (A.take k) + pw k * (x + 65536 * val (A.drop (k + 1))) := by
    conv => lhs; rw [← List.take_append_drop k A, val_append, List.length_take, Nat.min_eq_left (by omega), dx]
    rfl
  have e2 : val B = val (B.take k) + pw k * (y + 65536 * val (A.drop (k + 1))) := by
    conv => lhs; rw [← List.take_append_drop k B, val_append, List.length_take, Nat.min_eq_left (by omega), dy, ← hd]
    rfl
  have b1 := val_nonneg (l := A.take k) fun x hx => hA x (List.mem_of_mem_take hx)
  have b2 := val_nonneg (l := B.take k) fun x hx => hB x (List.mem_of_mem_take hx)
  rw [List.length_take, Nat.min_eq_left (by omega)] at b1 b2
  have hp := pw_pos k
  rw [e1, e2]
  generalize val (A.take k) = s at *
  generalize val (B.take k) = t at *
  generalize val (A.drop (k + 1)) = u at *
  generalize pw k = p at *
  constructor
  · intro hxy
    have := Int.mul_le_mul_of_nonneg_left (show x + 65536 * u + 1 ≤ y + 65536 * u by omega) (show 0 ≤ p by omega)
    rw [Int.mul_add, Int.mul_one] at this
    omega
  · intro hs
    rcases Int.lt_or_le x y with h | h
    · exact h
    · have := Int.mul_le_mul_of_nonneg_left (show y + 65536 * u + 1 ≤ x + 65536 * u by omega) (show 0 ≤ p by omega)
      rw [Int.mul_add, Int.mul_one] at this
      omega

theorem c39 {A B : List Int} {aa ba : Option Addr} {an ac bn bc : Nat} (w : World) (ha : SlE w 1 one A aa an ac) (hb : SlE w 1 one B ba bn bc) (hdA : Dig A) (hdB : Dig B) (hl : A.length = B.length) :
    Ret Try.prog 39 #[.slice aa an ac, .slice ba bn bc] w (.bool (decide (val A < val B))) := by
  intro R h
  refine f39_calls aa an ac ba bn bc w R ?_
  unfold f39_vc
  have hA := At.refl w
  have ean : an = A.length := ha.1
  have hm := ha.len_le.2
  subst ean
  have hold : ∀ {W : World} {l : List Int} {a : Option Addr} {n c : Nat}, At w [] W → SlE w 1 one l a n c → SlE W 1 one l a n c := fun hA hs => hs.call hA.below
  rw [wrap_i64 (by omega) (by omega)]
  refine ⟨fun s W => At w [] W ∧ ∃ k : Nat, s.1 = (k : Int) - 1 ∧ k ≤ A.length ∧ A.drop k = B.drop k, fun s _ => (s.1 + 1).toNat, ⟨hA, A.length, rfl, Nat.le_refl _, by rw [List.drop_length, hl, List.drop_length]⟩, ?_⟩
  intro i W ⟨hA, k, hik, hk, hd⟩
  simp only at hik
  subst hik
  refine brD (fun hge => ?_) (fun hlt => ?_)
  · obtain ⟨j, rfl⟩ : ∃ j, k = j + 1 := ⟨k - 1, by omega⟩
    have ej : ((j + 1 : Nat) : Int) - 1 = (j : Int) := by omega
    rw [ej]
    obtain ⟨x, hx⟩ : ∃ x, A[j]? = some x := ⟨_, List.getElem?_eq_getElem (by omega)⟩
    obtain ⟨y, hy⟩ : ∃ x, B[j]? = some x := ⟨_, List.getElem?_eq_getElem (by omega)⟩
    obtain ⟨a2, g2, r2⟩ := rd_one (te := 3) (ds := []) (k := .i64) (t := 31) (P := Try.prog) (e := 3) (hold hA ha) hx rfl (by kernel_rfl) (by kernel_rfl) (by kernel_rfl) (fun _ h => by cases h)
    obtain ⟨a3, g3, r3⟩ := rd_one (te := 3) (ds := []) (k := .i64) (t := 31) (P := Try.prog) (e := 3) (hold hA hb) hy rfl (by kernel_rfl) (by kernel_rfl) (by kernel_rfl) (fun _ h => by cases h)
    have hv := val_lt hdA hdB hl hx hy hd
    refine ⟨_, g2, _, r2, _, g3, _, r3, brN (fun hne => ?_) (fun he => ?_)⟩
    · refine ⟨_, g2, _, r2, _, g3, _, r3, go_below0 hA fun w13 hA => leaf h hA ?_⟩
      congr 2
      exact decide_eq_decide.2 (hv.1 hne)
    · refine go_below0 hA fun w13 hA => ?_
      rw [wrap_i64 (by omega) (by omega)]
      refine ⟨⟨hA, j, rfl, by omega, hv.2 he⟩, ?_⟩
      simp only
      omega
  · have hk0 : k = 0 := by omega
    subst hk0
    have he : A = B := by simpa using hd
    refine leaf h hA ?_
    subst he
    simp

theorem c41 (a b : Int) (w : World) : Ret Try.prog 41 #[fracV a b] w (.bool (decide (right a b))) := by
  intro R h
  refine f41_calls a b w R ?_
  unfold f41_vc
  have hA := At.refl w
  refine go_n hA fun n1 h1 => ?_
  refine brD (fun ha => ?_) (fun ha => ?_)
  · refine go_below hA fun w2 hA => leaf h hA ?_
    simp only [right, ge_iff_le] at *
    simp [*]
  · refine go_below hA fun w2 hA => leaf h hA ?_
    simp only [right, ge_iff_le] at *
    simp [*]

theorem dig128 {x : Int} (h : 0 ≤ x ∧ x < 18446744073709551616) : Dig (dg 4 x ++ dg 4 0) ∧ val (dg 4 x ++ dg 4 0) = x ∧ (dg 4 x ++ dg 4 0).length = 8 := by
  refine ⟨fun y hy => ?_, ?_, by simp [dg_len]⟩
  · rcases List.mem_append.1 hy with hy | hy
    · exact dg_dig 4 _ y hy
    · exact dg_dig 4 _ y hy
  · rw [val_append, val_dg 4 x h.1 (by have : pw 4 = 18446744073709551616 := by decide
                                       omega), show val (dg 4 0) = 0 by decide]
    omega

theorem c45 (a0 a1 b0 b1 : Int) (h0 : I64 a0) (h1 : I64 a1) (h2 : I64 b0) (h3 : I64 b1) (w : World) : Ret Try.prog 45 #[fracV a0 a1, fracV b0 b1] w (.int .i64 (frCmp a0 a1 b0 b1)) := by
  intro R h
  refine f45_calls a0 a1 b0 b1 w R ?_
  unfold f45_vc
  have hA := At.refl w
  refine go_n hA fun n1 h1 => ?_
  refine go_n hA fun n2 h2 => ?_
  refine go_below hA fun w3 hA => ?_
  refine at_call hA (c41 _ _ _) (fun _ hA hk => ⟨_, rfl, hk, ?_⟩)
  refine brND (fun hr => ?_) (fun hr => ?_)
  · refine leaf h hA ?_
    simp [frCmp, hr]
  refine at_call hA (c41 _ _ _) (fun _ hA hk => ⟨_, rfl, hk, ?_⟩)
  refine brND (fun hs => ?_) (fun hs => ?_)
  · refine leaf h hA ?_
    simp [frCmp, hs]
  refine go_below hA fun w3 hA => ?_
  have g1 := hr.1; have g2 := hr.2; have g3 := hs.1; have g4 := hs.2
  have u0 : 0 ≤ a0 ∧ a0 < 18446744073709551616 := by omega
  have u1 : 0 ≤ a1 ∧ a1 < 18446744073709551616 := by omega
  have u2 : 0 ≤ b0 ∧ b0 < 18446744073709551616 := by omega
  have u3 : 0 ≤ b1 ∧ b1 < 18446744073709551616 := by omega
  rw [wrap_u64_id u0.1 u0.2, wrap_u64_id u1.1 u1.2, wrap_u64_id u2.1 u2.2, wrap_u64_id u3.1 u3.2]
  obtain ⟨p0, v0, l0⟩ := dig128 u0
  obtain ⟨p1, v1, l1⟩ := dig128 u1
  obtain ⟨p2, v2, l2⟩ := dig128 u2
  obtain ⟨p3, v3, l3⟩ := dig128 u3
  refine at_calll hA (c52 0 a0 (by decide) u0 _) (by simp) fun aa ac wa hA hk hb hoa hsa => ⟨_, _, _, rfl, hk, ?_⟩
  refine at_calll hA (c52 0 b1 (by decide) u3 _) (by simp) fun ba bc wb hA hk hb hob hsb => ⟨_, _, _, rfl, hk, ?_⟩
  refine at_callq hA (c51 _ (hsa.call hb) hsb p0 p3 (by omega) (by omega)) fun v wx hA hk hb hq => ?_
  obtain ⟨X, hx, dX, lX, vX⟩ := hq
  have hoX : OwnL w [n1, n2] wx 3 1 one v X := OwnL.ret (by assumption) hx rfl rfl
  obtain ⟨xa, xc, rfl, hsX⟩ := hoX.slice (by simp)
  refine ⟨_, _, _, rfl, hk, ?_⟩
  refine go_below_too hA fun w26 hA hb26 => ?_
  refine at_calll hA (c52 0 b0 (by decide) u2 _) (by simp) fun ca cc wc hA hk hb27 hoc hsc => ⟨_, _, _, rfl, hk, ?_⟩
  refine at_calll hA (c52 0 a1 (by decide) u1 _) (by simp) fun da dc wd hA hk hb28 hod hsd => ⟨_, _, _, rfl, hk, ?_⟩
  refine at_callq hA (c51 _ (hsc.call hb28) hsd p2 p1 (by omega) (by omega)) fun v wy hA hk hb29 hq => ?_
  obtain ⟨Y, hy, dY, lY, vY⟩ := hq
  have hoY : OwnL w [n1, n2] wy 3 1 one v Y := OwnL.ret (by assumption) hy rfl rfl
  obtain ⟨ya, yc, rfl, hsY⟩ := hoY.slice (by simp)
  refine ⟨_, _, _, rfl, hk, ?_⟩
  have hsX' := (((hsX.call hb26).call hb27).call hb28).call hb29
  rw [v0, v3] at vX
  rw [v2, v1] at vY
  refine at_callq (Q := fun v w' => v = .bool (decide (val X < val Y))) hA (fun R h => c39 _ hsX' hsY dX dY (by omega) R fun w' hb => h _ w' hb rfl) (fun v w' hA hk hb hv => ?_)
  subst hv
  refine ⟨_, rfl, hk, ?_⟩
  have e : frCmp a0 a1 b0 b1 = cmpI (val X) (val Y) := by rw [vX, vY, frCmp, if_pos ⟨hr, hs⟩]
  rw [e] at h
  refine brD (fun hlt => ?_) (fun hge => ?_)
  · refine leaf h hA ?_
    rw [cmpI, if_neg (by omega), if_pos hlt]
  · refine at_call hA (c39 _ (hsY.call hb) (hsX'.call hb) dY dX (by omega)) (fun _ hA hk => ⟨_, rfl, hk, ?_⟩)
    refine brD (fun hlt => ?_) (fun hge => ?_)
    · refine leaf h hA ?_
      rw [cmpI, if_neg (by omega), if_neg (by omega)]
    · refine leaf h hA ?_
      rw [cmpI, if_pos (by omega)]
end Go.Vc.B
