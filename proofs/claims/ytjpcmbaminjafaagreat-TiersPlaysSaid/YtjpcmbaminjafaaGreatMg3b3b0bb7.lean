/- Own texts of this claim, laid together: ZSr4, ZSr6, ZSr5, ZSr7, ZFS15, ZSr8, ZSr9, ZSr10, ZTr1, ZTr2, ZTr3, ZTr4, ZTr5, ZTr6, ZTtArg, ZSq1, ZSq2, ZFU6, ZTw1, ZTw2, ZTw3. -/
import Derived.Test.YtjpcmbaminjafaaGreatMg5645d36d
import Derived.Test.YtjpcmbaminjafaaGreatProg

/- Own text of this claim: ZSr4. -/
set_option maxRecDepth 20000
set_option linter.unusedVariables false
namespace Go.Vc.SZ
open Go Go.Vc Go.RowKit Go.Proofs Vcz

abbrev Dig (l : List Int) : Prop := ∀ x ∈ l, 0 ≤ x ∧ x < 65536
def pw : Nat → Int
  | 0 => 1
  | k + 1 => 65536 * pw k
def val : List Int → Int
  | [] => 0
  | d :: r => d + 65536 * val r

theorem pw_pos : ∀ k, 0 < pw k
  | 0 => by decide
  | k + 1 => by have := pw_pos k; simp [pw]; omega
theorem pw_add : ∀ a b, pw (a + b) = pw a * pw b
  | 0, b => by simp [pw]
  | a + 1, b => by rw [Nat.succ_add]; simp only [pw]; rw [pw_add a b, Int.mul_assoc]
theorem val_append : ∀ (a b : List Int), val (a ++ b) = val a + pw a.length * val b
  | [], b => by simp [val, pw]
  | d :: a, b => by
    simp only [List.cons_append, val, List.length_cons, pw]
    rw [val_append a b]
    grind
theorem val_take_succ {l : List Int} {k : Nat} {x : Int} (h : l[k]? = some x) : val (l.take (k + 1)) = val (l.take k) + pw k * x := by
  have hk := (List.getElem?_eq_some_iff.1 h).1
  rw [List.take_add_one, h, val_append, List.length_take, Nat.min_eq_left (by omega)]
  simp [val]
theorem val_set : ∀ {l : List Int} {k : Nat} {x y : Int}, l[k]? = some x → val (l.set k y) = val l + (y - x) * pw k
  | [], k, x, y, h => by simp at h
  | d :: l, 0, x, y, h => by
    simp at h
    subst h
    simp [val, pw]
    omega
  | d :: l, k + 1, x, y, h => by
    simp only [List.set_cons_succ, val, pw]
    rw [val_set (l := l) (k := k) (x := x) (y := y) (by simpa using h)]
    grind
theorem val_nonneg : ∀ {l : List Int}, Dig l → 0 ≤ val l ∧ val l < pw l.length
  | [], _ => by simp [val, pw]
  | d :: l, h => by
    have h1 := h d (List.mem_cons_self ..)
    have h2 := val_nonneg (l := l) fun x hx => h x (List.mem_cons_of_mem _ hx)
    simp only [val, pw, List.length_cons]
    omega
theorem val_dg : ∀ (k : Nat) (x : Int), 0 ≤ x → x < pw k → val (dg k x) = x
  | 0, x, h1, h2 => by simp [pw] at h2; simp [dg, val]; omega
  | k + 1, x, h1, h2 => by
    simp only [pw] at h2
    simp only [dg, val]
    rw [val_dg k (x / 65536) (by omega) (by omega)]
    omega
theorem dg_dig : ∀ (k : Nat) (x : Int), Dig (dg k x)
  | 0, x => by intro y hy; cases hy
  | k + 1, x => by
    intro y hy
    rcases List.mem_cons.1 hy with rfl | hy
    · omega
    · exact dg_dig k _ y hy
theorem val_zeros : ∀ (k : Nat), val (List.replicate k 0) = 0
  | 0 => rfl
  | k + 1 => by rw [List.replicate_succ]; simp [val, val_zeros k]

theorem dig_at {l : List Int} (h : Dig l) {k : Nat} {x : Int} (hx : l[k]? = some x) : 0 ≤ x ∧ x < 65536 := h x (List.mem_of_getElem? hx)
theorem dig_set {l : List Int} (h : Dig l) {k : Nat} {y : Int} (hy : 0 ≤ y ∧ y < 65536) : Dig (l.set k y) := fun x hx => by
  rcases List.mem_or_eq_of_mem_set hx with hx | rfl
  · exact h x hx
  · exact hy

theorem c93 {A B : List Int} {aa ba : Option Addr} {an ac bn bc : Nat} (w : World) (ha : SlE w 1 one A aa an ac) (hb : SlE w 1 one B ba bn bc) (hdA : Dig A) (hdB : Dig B) (hlA : A.length ≤ 1000) (hlB : B.length ≤ 1000) :
    RetQ Tryz.prog 93 #[.slice aa an ac, .slice ba bn bc] w (fun v w' => ∃ l : List Int, w'.ownsRow w.heap.size 3 1 v l.length (l.flatMap one) ∧ Dig l ∧ l.length = A.length + B.length ∧ val l = val A * val B) := by
  intro R h
  refine f93_calls aa an ac ba bn bc w R ?_
  unfold f93_vc
  have hA := At.refl w
  have ean : an = A.length := ha.1
  have ebn : bn = B.length := hb.1
  subst ean
  subst ebn
  rw [wrap_i64 (by omega) (by omega), show (A.length : Int) + (B.length : Int) = ((A.length + B.length : Nat) : Int) by simp]
  refine opw_make (bytes := 8) (e := 3) (size := 1) (f := one) (z := (0 : Int)) (by kernel_rfl) hA ⟨_, _, rfl, rfl, by kernel_rfl⟩ (by omega) (by simp only [maxLen]; omega) fun w2 hA hk ho hg => ⟨_, _, _, rfl, ?_⟩
  have hold : ∀ {W : World} {l : List Int} {a : Option Addr} {n c : Nat}, At w [] W → SlE w 1 one l a n c → SlE W 1 one l a n c := fun hA hs => hs.call hA.below
  generalize hgm : w.heap.size = gm at ho ⊢
  have hf1 : ∀ l : List Int, ∀ x ∈ l, (one x).length = 1 := fun _ _ _ => rfl
  refine ⟨fun s W => At w [] W ∧ ∃ k : Nat, s.1 = k ∧ k ≤ A.length ∧ ∃ l : List Int, OwnL w [] W 3 1 one (.slice (some ⟨gm, 0, none⟩) (A.length + B.length) (A.length + B.length)) l ∧ Dig l ∧ l.length = A.length + B.length ∧ val l = val (A.take k) * val B ∧ ∀ j x, k + B.length ≤ j → l[j]? = some x → x = 0,
    fun s _ => A.length - s.1.toNat, ⟨hA, 0, rfl, Nat.zero_le _, _, ho, fun x hx => by rw [(List.mem_replicate.1 hx).2]; omega, List.length_replicate, by simp [val, val_zeros], fun j x _ hx => by
      rw [List.getElem?_replicate] at hx; split at hx
      · exact (Option.some.inj hx).symm
      · cases hx⟩, ?_⟩
  intro i W ⟨hA, k, hik, hk, l, ho, hdl, hll, hv, hz⟩
  simp only at hik
  subst hik
  refine brD (fun hlt => ?_) (fun hge => ?_)
  · obtain ⟨A0, hA0⟩ : ∃ x, A[k]? = some x := ⟨_, List.getElem?_eq_getElem (by omega)⟩
    have dA0 := dig_at hdA hA0
    refine ⟨fun s W => At w [] W ∧ 0 ≤ s.1 ∧ s.1 < 65536 ∧ ∃ q : Nat, s.2.1 = q ∧ q ≤ B.length ∧ ∃ l : List Int, OwnL w [] W 3 1 one (.slice (some ⟨gm, 0, none⟩) (A.length + B.length) (A.length + B.length)) l ∧ Dig l ∧ l.length = A.length + B.length ∧ val l + s.1 * pw (k + q) = val (A.take k) * val B + A0 * pw k * val (B.take q) ∧ ∀ j x, k + B.length ≤ j → l[j]? = some x → x = 0,
      fun s _ => B.length - s.2.1.toNat, ⟨hA, by show (0 : Int) ≤ 0; omega, by show (0 : Int) < 65536; omega, 0, rfl, Nat.zero_le _, l, ho, hdl, hll, by simp [hv, val], hz⟩, ?_⟩
    clear ho hdl hll hv hz
    intro ov j W ⟨hA, hov0, hov1, q, hjq, hq, l, ho, hdl, hll, hv, hz⟩
    simp only at hjq hov0 hov1 hv
    subst hjq
    have ekq : IntKind.i64.wrap ((k : Int) + (q : Int)) = ((k + q : Nat) : Int) := by rw [wrap_i64 (by omega) (by omega)]; rfl
    refine brD (fun hlt2 => ?_) (fun hge2 => ?_)
    · obtain ⟨B0, hB0⟩ : ∃ x, B[q]? = some x := ⟨_, List.getElem?_eq_getElem (by omega)⟩
      obtain ⟨L0, hL0⟩ : ∃ x, l[k + q]? = some x := ⟨_, List.getElem?_eq_getElem (by omega)⟩
      have dB0 := dig_at hdB hB0
      have dL0 := dig_at hdl hL0
      rw [ekq]
      obtain ⟨a1, g1, r1⟩ := rd_one (te := 3) (ds := []) (k := .i64) (t := 148) (P := Tryz.prog) (e := 3) (ho.sl (hf1 _)) hL0 rfl (by kernel_rfl) (by kernel_rfl) (by kernel_rfl) (fun _ h => by cases h)
      obtain ⟨a2, g2, r2⟩ := rd_one (te := 3) (ds := []) (k := .i64) (t := 148) (P := Tryz.prog) (e := 3) (hold hA ha) hA0 rfl (by kernel_rfl) (by kernel_rfl) (by kernel_rfl) (fun _ h => by cases h)
      obtain ⟨a3, g3, r3⟩ := rd_one (te := 3) (ds := []) (k := .i64) (t := 148) (P := Tryz.prog) (e := 3) (hold hA hb) hB0 rfl (by kernel_rfl) (by kernel_rfl) (by kernel_rfl) (fun _ h => by cases h)
      have hprod : 0 ≤ A0 * B0 ∧ A0 * B0 ≤ 4294836225 := by
        refine ⟨Int.mul_nonneg dA0.1 dB0.1, ?_⟩
        have h1 : A0 * B0 ≤ 65535 * B0 := Int.mul_le_mul_of_nonneg_right (by omega) dB0.1
        omega
      refine ⟨_, g1, _, r1, _, g2, _, r2, _, g3, _, r3, _, gives_index (e := 3) (n := 1) (by kernel_rfl) (by kernel_rfl) (by omega), ?_⟩
      generalize hm : A0 * B0 = m at *
      have ew : IntKind.i64.wrap (IntKind.i64.wrap (L0 + IntKind.i64.wrap m) + ov) = L0 + m + ov := by
        rw [wrap_i64 (x := m) (by omega) (by omega), wrap_i64 (x := L0 + m) (by omega) (by omega), wrap_i64 (by omega) (by omega)]
      rw [ew, Int.tmod_eq_emod_of_nonneg (by omega), Int.tdiv_eq_ediv_of_nonneg (by omega)]
      have ew2 : IntKind.i64.wrap ((L0 + m + ov) / 65536) = (L0 + m + ov) / 65536 := wrap_i64 (by omega) (by omega)
      have eq1 : IntKind.i64.wrap ((q : Int) + 1) = ((q + 1 : Nat) : Int) := by rw [wrap_i64 (by omega) (by omega)]; rfl
      rw [ew2, eq1]
      intro w22 hb22
      have hA := hA.call hb22
      refine opw_store (y := (L0 + m + ov) % 65536) (i := k + q) hA (ho.call hb22) (hf1 _) (by omega) rfl rfl rfl (by kernel_rfl) (fun w' hA hk hg ho => ?_) (fun g hg => ?_)
      · refine ⟨⟨hA, ?_, ?_, q + 1, rfl, by omega, _, ho, dig_set hdl (by omega), by simpa using hll, ?_, fun j x hj hx => ?_⟩, ?_⟩
        · show (0 : Int) ≤ (L0 + m + ov) / 65536
          omega
        · show (L0 + m + ov) / 65536 < 65536
          omega
        · show val (l.set (k + q) ((L0 + m + ov) % 65536)) + (L0 + m + ov) / 65536 * pw (k + (q + 1)) = _
          rw [val_set hL0, val_take_succ hB0, ← Nat.add_assoc, show pw (k + q + 1) = 65536 * pw (k + q) from rfl]
          have hpa := pw_add k q
          have hdm : L0 + m + ov = 65536 * ((L0 + m + ov) / 65536) + (L0 + m + ov) % 65536 := by omega
          generalize (L0 + m + ov) / 65536 = qq at *
          generalize (L0 + m + ov) % 65536 = rr at *
          subst hm
          rw [hpa] at hv ⊢
          grind
        · rw [List.getElem?_set_ne (by omega)] at hx
          exact hz j x hj hx
        · simp only
          omega
      · cases hg
        rw [addr_add, Nat.zero_add]
    · have hqe : q = B.length := by omega
      subst hqe
      obtain ⟨L0, hL0⟩ : ∃ x, l[k + B.length]? = some x := ⟨_, List.getElem?_eq_getElem (by omega)⟩
      have hL00 := hz _ _ (Nat.le_refl _) hL0
      subst hL00
      rw [ekq]
      refine ⟨_, gives_index (e := 3) (n := 1) (by kernel_rfl) (by kernel_rfl) (by omega), ?_⟩
      refine opw_store (y := ov) (i := k + B.length) hA ho (hf1 _) (by omega) rfl rfl rfl (by kernel_rfl) (fun w' hA hk hg ho => ?_) (fun g hg => ?_)
      · have ek1 : IntKind.i64.wrap ((k : Int) + 1) = ((k + 1 : Nat) : Int) := by rw [wrap_i64 (by omega) (by omega)]; rfl
        rw [ek1]
        refine ⟨⟨hA, k + 1, rfl, by omega, _, ho, dig_set hdl ⟨hov0, hov1⟩, by simpa using hll, ?_, fun j x hj hx => ?_⟩, ?_⟩
        · rw [val_set hL0, val_take_succ hA0]
          rw [List.take_length] at hv
          grind
        · rw [List.getElem?_set_ne (by omega)] at hx
          exact hz j x (by omega) hx
        · simp only
          omega
      · cases hg
        rw [addr_add, Nat.zero_add]
  · have hke : k = A.length := by omega
    subst hke
    rw [List.take_length] at hv
    exact h _ W hA.below ⟨l, ho.row, hdl, hll, hv⟩

theorem val_lt : ∀ {A B : List Int} {k : Nat} {x y : Int}, Dig A → Dig B → A.length = B.length → A[k]? = some x → B[k]? = some y → A.drop (k + 1) = B.drop (k + 1) → (x ≠ y → (x < y ↔ val A < val B)) ∧ (x = y → A.drop k = B.drop k) := by
  intro A B k x y hA hB hl hx hy hd
  have hk := (List.getElem?_eq_some_iff.1 hx).1
  have dx := drop_cons hx
  have dy := drop_cons hy
  refine ⟨fun hne => ?_, fun h => by rw [dx, dy, hd, h]⟩
  have e1 : val A = val (A.take k) + pw k * (x + 65536 * val (A.drop (k + 1))) := by
    conv => lhs; rw [← List.take_append_drop k A, val_append, List.length_take, Nat.min_eq_left (by omega), dx]
    rfl
  have e2 : val B = val (B.take k) + pw k * (y + 65536 * val (A.drop (k + 1))) := by
    conv => lhs; rw [← List.take_append_drop k B, val_append, List.length_take, Nat.min_eq_left (by omega), dy, ← hd]
    rfl
  have b1 := val_nonneg (l := A.take k) fun x hx => hA x (List.mem_of_mem_take hx)
  have b2 := val_nonneg (l := B.take k) fun x hx => hB x (List.mem_of_mem_take hx)
  rw [List.length_take, Nat.min_eq_left (by omega)] at b1 b2
  have hp := pw_pos k
  rw [e1, e2]
  generalize val (A.take k) = s at *
  generalize val (B.take k) = t at *
  generalize val (A.drop (k + 1)) = u at *
  generalize pw k = p at *
  constructor
  · intro hxy
    have := Int.mul_le_mul_of_nonneg_left (show x + 65536 * u + 1 ≤ y + 65536 * u by omega) (show 0 ≤ p by omega)
    rw [Int.mul_add, Int.mul_one] at this
    omega
  · intro hs
    rcases Int.lt_or_le x y with h | h
    · exact h
    · have := Int.mul_le_mul_of_nonneg_left (show y + 65536 * u + 1 ≤ x + 65536 * u by omega) (show 0 ≤ p by omega)
      rw [Int.mul_add, Int.mul_one] at this
      omega

theorem c87 {A B : List Int} {aa ba : Option Addr} {an ac bn bc : Nat} (w : World) (ha : SlE w 1 one A aa an ac) (hb : SlE w 1 one B ba bn bc) (hdA : Dig A) (hdB : Dig B) (hl : A.length = B.length) :
    Ret Tryz.prog 87 #[.slice aa an ac, .slice ba bn bc] w (.bool (decide (val A < val B))) := by
  intro R h
  refine f87_calls aa an ac ba bn bc w R ?_
  unfold f87_vc
  have hA := At.refl w
  have ean : an = A.length := ha.1
  have hm := ha.len_le.2
  subst ean
  have hold : ∀ {W : World} {l : List Int} {a : Option Addr} {n c : Nat}, At w [] W → SlE w 1 one l a n c → SlE W 1 one l a n c := fun hA hs => hs.call hA.below
  rw [wrap_i64 (by omega) (by omega)]
  refine ⟨fun s W => At w [] W ∧ ∃ k : Nat, s.1 = (k : Int) - 1 ∧ k ≤ A.length ∧ A.drop k = B.drop k, fun s _ => (s.1 + 1).toNat, ⟨hA, A.length, rfl, Nat.le_refl _, by rw [List.drop_length, hl, List.drop_length]⟩, ?_⟩
  intro i W ⟨hA, k, hik, hk, hd⟩
  simp only at hik
  subst hik
  refine brD (fun hge => ?_) (fun hlt => ?_)
  · obtain ⟨j, rfl⟩ : ∃ j, k = j + 1 := ⟨k - 1, by omega⟩
    have ej : ((j + 1 : Nat) : Int) - 1 = (j : Int) := by omega
    rw [ej]
    obtain ⟨x, hx⟩ : ∃ x, A[j]? = some x := ⟨_, List.getElem?_eq_getElem (by omega)⟩
    obtain ⟨y, hy⟩ : ∃ x, B[j]? = some x := ⟨_, List.getElem?_eq_getElem (by omega)⟩
    obtain ⟨a2, g2, r2⟩ := rd_one (te := 3) (ds := []) (k := .i64) (t := 148) (P := Tryz.prog) (e := 3) (hold hA ha) hx rfl (by kernel_rfl) (by kernel_rfl) (by kernel_rfl) (fun _ h => by cases h)
    obtain ⟨a3, g3, r3⟩ := rd_one (te := 3) (ds := []) (k := .i64) (t := 148) (P := Tryz.prog) (e := 3) (hold hA hb) hy rfl (by kernel_rfl) (by kernel_rfl) (by kernel_rfl) (fun _ h => by cases h)
    have hv := val_lt hdA hdB hl hx hy hd
    refine ⟨_, g2, _, r2, _, g3, _, r3, brN (fun hne => ?_) (fun he => ?_)⟩
    · refine ⟨_, g2, _, r2, _, g3, _, r3, go_below0 hA fun w13 hA => leaf h hA ?_⟩
      congr 2
      exact decide_eq_decide.2 (hv.1 hne)
    · refine go_below0 hA fun w13 hA => ?_
      rw [wrap_i64 (by omega) (by omega)]
      refine ⟨⟨hA, j, rfl, by omega, hv.2 he⟩, ?_⟩
      simp only
      omega
  · have hk0 : k = 0 := by omega
    subst hk0
    have he : A = B := by simpa using hd
    refine leaf h hA ?_
    subst he
    simp

theorem c92 (a b : Int) (w : World) : Ret Tryz.prog 92 #[fracV a b] w (.bool (decide (right a b))) := by
  intro R h
  refine f92_calls a b w R ?_
  unfold f92_vc
  have hA := At.refl w
  refine go_n hA fun n1 h1 => ?_
  refine brD (fun ha => ?_) (fun ha => ?_)
  · refine go_below hA fun w2 hA => leaf h hA ?_
    simp only [right, ge_iff_le] at *
    simp [*]
  · refine go_below hA fun w2 hA => leaf h hA ?_
    simp only [right, ge_iff_le] at *
    simp [*]

theorem dig128 {x : Int} (h : 0 ≤ x ∧ x < 18446744073709551616) : Dig (dg 4 x ++ dg 4 0) ∧ val (dg 4 x ++ dg 4 0) = x ∧ (dg 4 x ++ dg 4 0).length = 8 := by
  refine ⟨fun y hy => ?_, ?_, by simp [dg_len]⟩
  · rcases List.mem_append.1 hy with hy | hy
    · exact dg_dig 4 _ y hy
    · exact dg_dig 4 _ y hy
  · rw [val_append, val_dg 4 x h.1 (by have : pw 4 = 18446744073709551616 := by decide
                                       omega), show val (dg 4 0) = 0 by decide]
    omega

theorem c95 (a0 a1 b0 b1 : Int) (h0 : I64 a0) (h1 : I64 a1) (h2 : I64 b0) (h3 : I64 b1) (w : World) : Ret Tryz.prog 95 #[fracV a0 a1, fracV b0 b1] w (.int .i64 (frCmp a0 a1 b0 b1)) := by
  intro R h
  refine f95_calls a0 a1 b0 b1 w R ?_
  unfold f95_vc
  have hA := At.refl w
  refine go_n hA fun n1 h1 => ?_
  refine go_n hA fun n2 h2 => ?_
  refine go_below hA fun w3 hA => ?_
  refine at_call hA (c92 _ _ _) (fun _ hA hk => ⟨_, rfl, hk, ?_⟩)
  refine brND (fun hr => ?_) (fun hr => ?_)
  · refine leaf h hA ?_
    simp [frCmp, hr]
  refine at_call hA (c92 _ _ _) (fun _ hA hk => ⟨_, rfl, hk, ?_⟩)
  refine brND (fun hs => ?_) (fun hs => ?_)
  · refine leaf h hA ?_
    simp [frCmp, hs]
  refine go_below hA fun w3 hA => ?_
  have g1 := hr.1; have g2 := hr.2; have g3 := hs.1; have g4 := hs.2
  have u0 : 0 ≤ a0 ∧ a0 < 18446744073709551616 := by omega
  have u1 : 0 ≤ a1 ∧ a1 < 18446744073709551616 := by omega
  have u2 : 0 ≤ b0 ∧ b0 < 18446744073709551616 := by omega
  have u3 : 0 ≤ b1 ∧ b1 < 18446744073709551616 := by omega
  rw [wrap_u64_id u0.1 u0.2, wrap_u64_id u1.1 u1.2, wrap_u64_id u2.1 u2.2, wrap_u64_id u3.1 u3.2]
  obtain ⟨p0, v0, l0⟩ := dig128 u0
  obtain ⟨p1, v1, l1⟩ := dig128 u1
  obtain ⟨p2, v2, l2⟩ := dig128 u2
  obtain ⟨p3, v3, l3⟩ := dig128 u3
  refine at_calll hA (c94 0 a0 (by decide) u0 _) (by simp) fun aa ac wa hA hk hb hoa hsa => ⟨_, _, _, rfl, hk, ?_⟩
  refine at_calll hA (c94 0 b1 (by decide) u3 _) (by simp) fun ba bc wb hA hk hb hob hsb => ⟨_, _, _, rfl, hk, ?_⟩
  refine at_callq hA (c93 _ (hsa.call hb) hsb p0 p3 (by omega) (by omega)) fun v wx hA hk hb hq => ?_
  obtain ⟨X, hx, dX, lX, vX⟩ := hq
  have hoX : OwnL w [n1, n2] wx 3 1 one v X := OwnL.ret (by assumption) hx rfl rfl
  obtain ⟨xa, xc, rfl, hsX⟩ := hoX.slice (by simp)
  refine ⟨_, _, _, rfl, hk, ?_⟩
  refine go_below_too hA fun w26 hA hb26 => ?_
  refine at_calll hA (c94 0 b0 (by decide) u2 _) (by simp) fun ca cc wc hA hk hb27 hoc hsc => ⟨_, _, _, rfl, hk, ?_⟩
  refine at_calll hA (c94 0 a1 (by decide) u1 _) (by simp) fun da dc wd hA hk hb28 hod hsd => ⟨_, _, _, rfl, hk, ?_⟩
  refine at_callq hA (c93 _ (hsc.call hb28) hsd p2 p1 (by omega) (by omega)) fun v wy hA hk hb29 hq => ?_
  obtain ⟨Y, hy, dY, lY, vY⟩ := hq
  have hoY : OwnL w [n1, n2] wy 3 1 one v Y := OwnL.ret (by assumption) hy rfl rfl
  obtain ⟨ya, yc, rfl, hsY⟩ := hoY.slice (by simp)
  refine ⟨_, _, _, rfl, hk, ?_⟩
  have hsX' := (((hsX.call hb26).call hb27).call hb28).call hb29
  rw [v0, v3] at vX
  rw [v2, v1] at vY
  refine at_callq (Q := fun v w' => v = .bool (decide (val X < val Y))) hA (fun R h => c87 _ hsX' hsY dX dY (by omega) R fun w' hb => h _ w' hb rfl) (fun v w' hA hk hb hv => ?_)
  subst hv
  refine ⟨_, rfl, hk, ?_⟩
  have e : frCmp a0 a1 b0 b1 = cmpI (val X) (val Y) := by rw [vX, vY, frCmp, if_pos ⟨hr, hs⟩]
  rw [e] at h
  refine brD (fun hlt => ?_) (fun hge => ?_)
  · refine leaf h hA ?_
    rw [cmpI, if_neg (by omega), if_pos hlt]
  · refine at_call hA (c87 _ (hsY.call hb) (hsX'.call hb) dY dX (by omega)) (fun _ hA hk => ⟨_, rfl, hk, ?_⟩)
    refine brD (fun hlt => ?_) (fun hge => ?_)
    · refine leaf h hA ?_
      rw [cmpI, if_neg (by omega), if_neg (by omega)]
    · refine leaf h hA ?_
      rw [cmpI, if_pos (by omega)]
end Go.Vc.SZ

/- Own text of this claim: ZSr6. -/
set_option maxRecDepth 20000
set_option linter.unusedVariables false
namespace Go.Vc.SZ
open Go Go.Vc Go.RowKit Go.Proofs Vcz

theorem c85 (a b c : Int) (w : World) : Ret Tryz.prog 85 #[fracV a b, .int .i64 c] w (.bool (decide (sRight a b c))) := by
  intro R h
  refine f85_calls a b c w R ?_
  unfold f85_vc
  have hA := At.refl w
  refine go_n hA fun n1 h1 => ?_
  refine go_below hA fun w2 hA => ?_
  refine at_call hA (c92 _ _ _) (fun _ hA hk => ⟨_, rfl, hk, ?_⟩)
  refine brD (fun h1 => brD (fun h2 => brD (fun h3 => brD (fun h4 => leaf h hA ?_) (fun h4 => leaf h hA ?_)) (fun h3 => leaf h hA ?_)) (fun h2 => leaf h hA ?_)) (fun h1 => leaf h hA ?_)
  · rw [show decide (sRight a b c) = decide (c ≤ 1000) from decide_eq_decide.2 ⟨fun hh => hh.2.2.2.2, fun hh => ⟨h1, h2, h3, h4, hh⟩⟩]
  · rw [decide_eq_false (show ¬ sRight a b c from fun hh => h4 hh.2.2.2.1)]
  · rw [decide_eq_false (show ¬ sRight a b c from fun hh => h3 hh.2.2.1)]
  · rw [decide_eq_false (show ¬ sRight a b c from fun hh => h2 hh.2.1)]
  · rw [decide_eq_false (show ¬ sRight a b c from fun hh => h1 hh.1)]

end Go.Vc.SZ

/- Own text of this claim: ZSr5. -/
set_option maxRecDepth 20000
set_option linter.unusedVariables false
namespace Go.Vc.SZ
open Go Go.Vc Go.RowKit Go.Proofs Vcz

theorem c86 (a b c : Int) (ha : 0 ≤ a ∧ a < 18446744073709551616) (hb : 0 ≤ b ∧ b < 18446744073709551616) (hc : 0 ≤ c ∧ c < 18446744073709551616) (w : World) :
    RetQ Tryz.prog 86 #[.int .i64 a, .int .i64 b, .int .i64 c] w (fun v w' => ∃ l : List Int, w'.ownsRow w.heap.size 3 1 v l.length (l.flatMap one) ∧ Dig l ∧ l.length = 24 ∧ val l = a * b * c) := by
  intro R h
  refine f86_calls a b c w R ?_
  unfold f86_vc
  have hA := At.refl w
  rw [wrap_u64_id ha.1 ha.2, wrap_u64_id hb.1 hb.2, wrap_u64_id hc.1 hc.2]
  obtain ⟨p0, v0, l0⟩ := dig128 ha
  obtain ⟨p1, v1, l1⟩ := dig128 hb
  obtain ⟨p2, v2, l2⟩ := dig128 hc
  refine at_calll hA (c94 0 a (by decide) ha _) (by simp) fun aa ac wa hA hk hb1 hoa hsa => ⟨_, _, _, rfl, ?_⟩
  refine at_calll hA (c94 0 b (by decide) hb _) (by simp) fun ba bc wb hA hk hb2 hob hsb => ⟨_, _, _, rfl, ?_⟩
  refine at_callq hA (c93 _ (hsa.call hb2) hsb p0 p1 (by omega) (by omega)) fun v wx hA hk hb3 hq => ?_
  obtain ⟨X, hx, dX, lX, vX⟩ := hq
  have hoX : OwnL w [] wx 3 1 one v X := OwnL.ret (by assumption) hx rfl rfl
  obtain ⟨xa, xc, rfl, hsX⟩ := hoX.slice (by simp)
  refine ⟨_, _, _, rfl, ?_⟩
  refine at_calll hA (c94 0 c (by decide) hc _) (by simp) fun ca cc wc hA hk hb4 hoc hsc => ⟨_, _, _, rfl, ?_⟩
  refine at_callq hA (c93 _ (hsX.call hb4) hsc dX p2 (by omega) (by omega)) fun v wy hA hk hb5 hq => ?_
  obtain ⟨Y, hy, dY, lY, vY⟩ := hq
  have hoY : OwnL w [] wy 3 1 one v Y := OwnL.ret (by assumption) hy rfl rfl
  obtain ⟨ya, yc, rfl, hsY⟩ := hoY.slice (by simp)
  refine ⟨_, _, _, rfl, ?_⟩
  refine h _ wy hA.below ⟨Y, hoY.row, dY, by omega, ?_⟩
  rw [vY, vX, v0, v1, v2]

theorem c78 (a0 a1 a2 b0 b1 b2 : Int) (w : World) : Ret Tryz.prog 78 #[fracV a0 a1, .int .i64 a2, fracV b0 b1, .int .i64 b2] w (.int .i64 (sCmp a0 a1 a2 b0 b1 b2)) := by
  intro R h
  refine f78_calls a0 a1 a2 b0 b1 b2 w R ?_
  unfold f78_vc
  have hA := At.refl w
  refine go_n hA fun n1 h1 => ?_
  refine go_n hA fun n2 h2 => ?_
  refine go_below hA fun w3 hA => ?_
  refine at_call hA (c85 _ _ _ _) (fun _ hA hk => ⟨_, rfl, hk, ?_⟩)
  refine brND (fun hr => leaf h hA (by rw [sCmp, if_neg (fun hh => hr hh.1)])) (fun hr => ?_)
  refine at_call hA (c85 _ _ _ _) (fun _ hA hk => ⟨_, rfl, hk, ?_⟩)
  refine brND (fun hs => leaf h hA (by rw [sCmp, if_neg (fun hh => hs hh.2)])) (fun hs => ?_)
  rw [sCmp, if_pos ⟨hr, hs⟩] at h
  obtain ⟨⟨p0, p1⟩, p2, p3, p4, p5⟩ := hr
  obtain ⟨⟨q0, q1⟩, q2, q3, q4, q5⟩ := hs
  refine go_below hA fun w10 hA => ?_
  refine at_callq hA (c86 a0 b1 b2 (by omega) (by omega) (by omega) _) fun v wx hA hk hb3 hq => ?_
  obtain ⟨X, hx, dX, lX, vX⟩ := hq
  have hoX : OwnL w [n1, n2] wx 3 1 one v X := OwnL.ret (by assumption) hx rfl rfl
  obtain ⟨xa, xc, rfl, hsX⟩ := hoX.slice (by simp)
  refine ⟨_, _, _, rfl, hk, ?_⟩
  refine at_callq hA (c86 b0 a1 a2 (by omega) (by omega) (by omega) _) fun v wy hA hk hb4 hq => ?_
  obtain ⟨Y, hy, dY, lY, vY⟩ := hq
  have hoY : OwnL w [n1, n2] wy 3 1 one v Y := OwnL.ret (by assumption) hy rfl rfl
  obtain ⟨ya, yc, rfl, hsY⟩ := hoY.slice (by simp)
  refine ⟨_, _, _, rfl, hk, ?_⟩
  have hsX' := hsX.call hb4
  rw [Int.mul_assoc] at vX vY
  rw [← vX, ← vY] at h
  refine at_callq (Q := fun v w' => v = .bool (decide (val X < val Y))) hA (fun R h => c87 _ hsX' hsY dX dY (by omega) R fun w' hb => h _ w' hb rfl) (fun v w' hA hk hb hv => ?_)
  subst hv
  refine ⟨_, rfl, hk, ?_⟩
  refine brD (fun hlt => ?_) (fun hge => ?_)
  · refine leaf h hA ?_
    rw [cmpI, if_neg (by omega), if_pos hlt]
  · refine at_call hA (c87 _ (hsY.call hb) (hsX'.call hb) dY dX (by omega)) (fun _ hA hk => ⟨_, rfl, hk, ?_⟩)
    refine brD (fun hlt => ?_) (fun hge => ?_)
    · refine leaf h hA ?_
      rw [cmpI, if_neg (by omega), if_neg (by omega)]
    · refine leaf h hA ?_
      rw [cmpI, if_pos (by omega)]
end Go.Vc.SZ

/- Own text of this claim: ZSr7. -/
set_option maxRecDepth 20000
set_option linter.unusedVariables false
namespace Go.Vc.SZ
open Go Go.Vc Go.RowKit Go.Proofs Vcz

theorem c31 (a b c d : Int) (w : World) : Ret Tryz.prog 31 #[arrV a b c d] w (.bool (decide (sumR a b c d))) := by
  intro R h
  refine f31_calls a b c d w R ?_
  unfold f31_vc
  have hA := At.refl w
  refine go_n hA fun n1 h_n1 => ?_
  have no : ¬ sumR a b c d → ∀ W, At w [n1] W → R (.returned (.bool false)) W := fun hn W hA => leaf h hA (by rw [decide_eq_false hn])
  unfold sumR at no
  refine brD (fun h1 => go_below hA fun _ hA => no (by omega) _ hA) (fun h1 => ?_)
  refine brD (fun h2 => go_below hA fun _ hA => no (by omega) _ hA) (fun h2 => ?_)
  refine brD (fun h3 => go_below hA fun _ hA => no (by omega) _ hA) (fun h3 => ?_)
  refine brD (fun h4 => go_below hA fun _ hA => no (by omega) _ hA) (fun h4 => ?_)
  refine brD (fun h5 => go_below hA fun _ hA => no (by omega) _ hA) (fun h5 => ?_)
  refine brD (fun h6 => go_below hA fun _ hA => no (by omega) _ hA) (fun h6 => ?_)
  refine brD (fun h7 => go_below hA fun _ hA => no (by omega) _ hA) (fun h7 => ?_)
  refine brD (fun h8 => go_below hA fun _ hA => no (by omega) _ hA) (fun h8 => ?_)
  refine go_below hA fun _ hA => ?_
  exact leaf h hA (by rw [decide_eq_true (show sumR a b c d by unfold sumR; omega)])

theorem c32 (a0 a1 a2 a3 b0 b1 b2 b3 : Int) (w : World) : Ret Tryz.prog 32 #[arrV a0 a1 a2 a3, arrV b0 b1 b2 b3] w (.bool (decide (sumH a0 a1 a2 a3 b0 b1 b2 b3))) := by
  intro R h
  refine f32_calls a0 a1 a2 a3 b0 b1 b2 b3 w R ?_
  unfold f32_vc
  have hA := At.refl w
  refine go_n hA fun n1 h_n1 => ?_
  refine go_n hA fun n2 h_n2 => ?_
  have no : ¬ sumH a0 a1 a2 a3 b0 b1 b2 b3 → ∀ W, At w [n1, n2] W → R (.returned (.bool false)) W := fun hn W hA => leaf h hA (by rw [decide_eq_false hn])
  refine brD (fun h1 => go_below hA fun _ hA => no (fun hh => by have := hh.1; omega) _ hA) (fun h1 => ?_)
  refine brD (fun h2 => go_below hA fun _ hA => no (fun hh => by have := hh.1; omega) _ hA) (fun h2 => ?_)
  refine brD (fun h3 => go_below hA fun _ hA => no (fun hh => by have := hh.1; omega) _ hA) (fun h3 => ?_)
  refine brD (fun h4 => go_below hA fun _ hA => no (fun hh => by have := hh.1; omega) _ hA) (fun h4 => ?_)
  refine go_below hA fun _ hA => ?_
  refine at_call hA (c31 _ _ _ _ _) (fun _ hA hk => ⟨_, rfl, hk, ?_⟩)
  refine brD (fun ha => ?_) (fun ha => no (fun hh => ha hh.2.1) _ hA)
  refine at_call hA (c31 _ _ _ _ _) (fun _ hA hk => ⟨_, rfl, hk, ?_⟩)
  refine leaf h hA ?_
  rw [show decide (sumH a0 a1 a2 a3 b0 b1 b2 b3) = decide (sumR b0 b1 b2 b3) from decide_eq_decide.2 ⟨fun hh => hh.2.2, fun hh => ⟨by omega, ha, hh⟩⟩]

theorem c15 (a0 a1 a2 a3 b0 b1 b2 b3 : Int) (w : World) : Ret Tryz.prog 15 #[arrV a0 a1 a2 a3, arrV b0 b1 b2 b3] w (sumA a0 a1 a2 a3 b0 b1 b2 b3) := by
  intro R h
  refine f15_calls a0 a1 a2 a3 b0 b1 b2 b3 w R ?_
  unfold f15_vc
  have hA := At.refl w
  refine go_n hA fun n1 h_n1 => ?_
  refine go_n hA fun n2 h_n2 => ?_
  refine go_n hA fun n3 h_n3 => ?_
  refine go_n hA fun n4 h_n4 => ?_
  refine go_below hA fun _ hA => ?_
  refine at_call hA (c31 _ _ _ _ _) (fun _ hA hk => ⟨_, rfl, hk, ?_⟩)
  refine brND (fun hr => go_evo hA (by intro d hd; simp at hd; omega) fun _ hA => leaf h hA (by rw [sumA, if_neg (fun hh => hr hh.1)])) (fun ha => ?_)
  refine at_call hA (c31 _ _ _ _ _) (fun _ hA hk => ⟨_, rfl, hk, ?_⟩)
  refine brND (fun hr => go_evo hA (by intro d hd; simp at hd; omega) fun _ hA => leaf h hA (by rw [sumA, if_neg (fun hh => hr hh.2.1)])) (fun hb => ?_)
  have ha' := ha
  have hb' := hb
  unfold sumR at ha' hb'
  rw [wrap_i64 (x := a0 + b0) (by omega) (by omega), wrap_i64 (x := a1 + b1) (by omega) (by omega), wrap_i64 (x := a2 + b2) (by omega) (by omega), wrap_i64 (x := a3 + b3) (by omega) (by omega)]
  refine go_evo hA (by intro d hd; simp at hd; omega) fun _ hA => ?_
  refine at_call hA (c31 _ _ _ _ _) (fun _ hA hk => ⟨_, rfl, hk, ?_⟩)
  exact brND (fun hr => go_evo hA (by intro d hd; simp at hd; omega) fun _ hA => leaf h hA (by rw [sumA, if_neg (fun hh => hr hh.2.2)])) (fun hc => go_evo hA (by intro d hd; simp at hd; omega) fun _ hA => leaf h hA (by rw [sumA, if_pos ⟨ha, hb, hc⟩]))

theorem c16 (a0 a1 a2 a3 b0 b1 b2 b3 : Int) (w : World) : Ret Tryz.prog 16 #[arrV a0 a1 a2 a3, arrV b0 b1 b2 b3] w (sumS a0 a1 a2 a3 b0 b1 b2 b3) := by
  intro R h
  refine f16_calls a0 a1 a2 a3 b0 b1 b2 b3 w R ?_
  unfold f16_vc
  have hA := At.refl w
  refine go_n hA fun n1 h_n1 => ?_
  refine go_n hA fun n2 h_n2 => ?_
  refine go_n hA fun n3 h_n3 => ?_
  refine go_n hA fun n4 h_n4 => ?_
  refine go_below hA fun _ hA => ?_
  refine at_call hA (c32 _ _ _ _ _ _ _ _ _) (fun _ hA hk => ⟨_, rfl, hk, ?_⟩)
  refine brND (fun hr => go_evo hA (by intro d hd; simp at hd; omega) fun _ hA => leaf h hA (by rw [sumS, if_neg hr])) (fun ha => ?_)
  have ha' := ha
  unfold sumH sumR at ha'
  rw [wrap_i64 (x := a0 - b0) (by omega) (by omega), wrap_i64 (x := a1 - b1) (by omega) (by omega), wrap_i64 (x := a2 - b2) (by omega) (by omega), wrap_i64 (x := a3 - b3) (by omega) (by omega)]
  refine go_evo hA (by intro d hd; simp at hd; omega) fun _ hA => ?_
  exact leaf h hA (by rw [sumS, if_pos ha])

theorem c88 (a0 a1 a2 a3 t0 t1 t2 t3 : Int) (w : World) : Ret Tryz.prog 88 #[arrV a0 a1 a2 a3, arrV t0 t1 t2 t3] w (domV (dom a0 a1 a2 a3 t0 t1 t2 t3)) := by
  intro R h
  refine f88_calls a0 a1 a2 a3 t0 t1 t2 t3 w R ?_
  unfold f88_vc
  have hA := At.refl w
  refine go_n hA fun n1 h_n1 => ?_
  refine go_n hA fun n2 h_n2 => ?_
  refine go_n hA fun n3 h_n3 => ?_
  refine go_n hA fun n4 h_n4 => ?_
  refine go_evo hA (by intro d hd; simp at hd; omega) fun _ hA => ?_
  refine at_call hA (c31 _ _ _ _ _) (fun _ hA hk => ⟨_, rfl, hk, ?_⟩)
  refine brND (fun hr => go_evo hA (by intro d hd; simp at hd; omega) fun _ hA => leaf h hA (by rw [dom, if_neg (fun hh => hr hh.1)])) (fun ha => ?_)
  refine at_call hA (c31 _ _ _ _ _) (fun _ hA hk => ⟨_, rfl, hk, ?_⟩)
  refine brND (fun hr => go_evo hA (by intro d hd; simp at hd; omega) fun _ hA => leaf h hA (by rw [dom, if_neg (fun hh => hr hh.2)])) (fun ht => ?_)
  rw [dom, if_pos ⟨ha, ht⟩] at h
  obtain ⟨p0, p1, p2, p3⟩ := ha
  obtain ⟨q0, q1, q2, q3⟩ := ht
  have k0 : dok (-1, 0, 1) := ⟨by decide, by decide, by decide⟩
  have k1 : dok (dstep ((-1, 0, 1)) 0 a0 t0) := dok_step k0 (by omega) p0 q0
  refine ⟨fun s W => At w [n1, n2, n3, n4] W ∧ (s.1, s.2.1, s.2.2.1) = dstep ((-1, 0, 1)) 0 a0 t0, ?_, ?_⟩
  · refine go_n hA fun m h_m => ?_
    refine brD (fun hp => ⟨fun _ => go_evo hA (by intro d hd; simp at hd; omega) fun _ hA => ⟨⟨hA.chg, fun g hg => hA.under g (by simp at hg ⊢; omega)⟩, by rw [dstep, if_pos ⟨hp, .inl rfl⟩]⟩, fun hf => (by cases hf)⟩) (fun hp => go_evo hA (by intro d hd; simp at hd; omega) fun _ hA => ⟨⟨hA.chg, fun g hg => hA.under g (by simp at hg ⊢; omega)⟩, by rw [dstep, if_neg (fun hh => hp hh.1)]⟩)
  intro x0 y0 z0 W0 ⟨hA, hs⟩
  simp only at hs
  have k2 : dok (dstep (dstep ((-1, 0, 1)) 0 a0 t0) 1 a1 t1) := dok_step k1 (by omega) p1 q1
  refine ⟨fun s W => At w [n1, n2, n3, n4] W ∧ (s.1, s.2.1, s.2.2.1) = dstep (dstep ((-1, 0, 1)) 0 a0 t0) 1 a1 t1, ?_, ?_⟩
  · refine go_n hA fun m h_m => ?_
    refine brD (fun hp => ?_) (fun hp => go_evo hA (by intro d hd; simp at hd; omega) fun _ hA => ⟨⟨hA.chg, fun g hg => hA.under g (by simp at hg ⊢; omega)⟩, by rw [dstep, if_neg (fun hh => hp hh.1), ← hs]⟩)
    have k := k1
    rw [← hs] at k
    simp only [dok] at k
    refine brD (fun hn => go_evo hA (by intro d hd; simp at hd; omega) fun _ hA => ⟨⟨hA.chg, fun g hg => hA.under g (by simp at hg ⊢; omega)⟩, by rw [← hs, dstep, if_pos ⟨hp, .inl (by simp only; omega)⟩]⟩) (fun hn => ?_)
    refine go_evo hA (by intro d hd; simp at hd; omega) fun _ hA => ?_
    refine at_call hA (c95 _ _ _ _ ⟨by omega, by omega⟩ ⟨by omega, by omega⟩ ⟨by omega, by omega⟩ ⟨by omega, by omega⟩ _) (fun _ hA hk => ⟨_, rfl, hk, ?_⟩)
    refine brD (fun hc => go_evo hA (by intro d hd; simp at hd; omega) fun _ hA => ⟨⟨hA.chg, fun g hg => hA.under g (by simp at hg ⊢; omega)⟩, by rw [← hs, dstep, if_pos ⟨hp, .inr hc⟩]⟩) (fun hc => ⟨⟨hA.chg, fun g hg => hA.under g (by simp at hg ⊢; omega)⟩, ?_⟩)
    rw [← hs, dstep, if_neg (fun hh => hh.2.elim (fun h1 => by simp only at h1; omega) hc)]
  intro x1 y1 z1 W1 ⟨hA, hs⟩
  simp only at hs
  have k3 : dok (dstep (dstep (dstep ((-1, 0, 1)) 0 a0 t0) 1 a1 t1) 2 a2 t2) := dok_step k2 (by omega) p2 q2
  refine ⟨fun s W => At w [n1, n2, n3, n4] W ∧ (s.1, s.2.1, s.2.2.1) = dstep (dstep (dstep ((-1, 0, 1)) 0 a0 t0) 1 a1 t1) 2 a2 t2, ?_, ?_⟩
  · refine go_n hA fun m h_m => ?_
    refine brD (fun hp => ?_) (fun hp => go_evo hA (by intro d hd; simp at hd; omega) fun _ hA => ⟨⟨hA.chg, fun g hg => hA.under g (by simp at hg ⊢; omega)⟩, by rw [dstep, if_neg (fun hh => hp hh.1), ← hs]⟩)
    have k := k2
    rw [← hs] at k
    simp only [dok] at k
    refine brD (fun hn => go_evo hA (by intro d hd; simp at hd; omega) fun _ hA => ⟨⟨hA.chg, fun g hg => hA.under g (by simp at hg ⊢; omega)⟩, by rw [← hs, dstep, if_pos ⟨hp, .inl (by simp only; omega)⟩]⟩) (fun hn => ?_)
    refine go_evo hA (by intro d hd; simp at hd; omega) fun _ hA => ?_
    refine at_call hA (c95 _ _ _ _ ⟨by omega, by omega⟩ ⟨by omega, by omega⟩ ⟨by omega, by omega⟩ ⟨by omega, by omega⟩ _) (fun _ hA hk => ⟨_, rfl, hk, ?_⟩)
    refine brD (fun hc => go_evo hA (by intro d hd; simp at hd; omega) fun _ hA => ⟨⟨hA.chg, fun g hg => hA.under g (by simp at hg ⊢; omega)⟩, by rw [← hs, dstep, if_pos ⟨hp, .inr hc⟩]⟩) (fun hc => ⟨⟨hA.chg, fun g hg => hA.under g (by simp at hg ⊢; omega)⟩, ?_⟩)
    rw [← hs, dstep, if_neg (fun hh => hh.2.elim (fun h1 => by simp only at h1; omega) hc)]
  intro x2 y2 z2 W2 ⟨hA, hs⟩
  simp only at hs
  have k4 : dok (dstep (dstep (dstep (dstep ((-1, 0, 1)) 0 a0 t0) 1 a1 t1) 2 a2 t2) 3 a3 t3) := dok_step k3 (by omega) p3 q3
  refine ⟨fun s W => At w [n1, n2, n3, n4] W ∧ (s.1, s.2.1, s.2.2.1) = dstep (dstep (dstep (dstep ((-1, 0, 1)) 0 a0 t0) 1 a1 t1) 2 a2 t2) 3 a3 t3, ?_, ?_⟩
  · refine go_n hA fun m h_m => ?_
    refine brD (fun hp => ?_) (fun hp => go_evo hA (by intro d hd; simp at hd; omega) fun _ hA => ⟨⟨hA.chg, fun g hg => hA.under g (by simp at hg ⊢; omega)⟩, by rw [dstep, if_neg (fun hh => hp hh.1), ← hs]⟩)
    have k := k3
    rw [← hs] at k
    simp only [dok] at k
    refine brD (fun hn => go_evo hA (by intro d hd; simp at hd; omega) fun _ hA => ⟨⟨hA.chg, fun g hg => hA.under g (by simp at hg ⊢; omega)⟩, by rw [← hs, dstep, if_pos ⟨hp, .inl (by simp only; omega)⟩]⟩) (fun hn => ?_)
    refine go_evo hA (by intro d hd; simp at hd; omega) fun _ hA => ?_
    refine at_call hA (c95 _ _ _ _ ⟨by omega, by omega⟩ ⟨by omega, by omega⟩ ⟨by omega, by omega⟩ ⟨by omega, by omega⟩ _) (fun _ hA hk => ⟨_, rfl, hk, ?_⟩)
    refine brD (fun hc => go_evo hA (by intro d hd; simp at hd; omega) fun _ hA => ⟨⟨hA.chg, fun g hg => hA.under g (by simp at hg ⊢; omega)⟩, by rw [← hs, dstep, if_pos ⟨hp, .inr hc⟩]⟩) (fun hc => ⟨⟨hA.chg, fun g hg => hA.under g (by simp at hg ⊢; omega)⟩, ?_⟩)
    rw [← hs, dstep, if_neg (fun hh => hh.2.elim (fun h1 => by simp only at h1; omega) hc)]
  intro x3 y3 z3 W3 ⟨hA, hs⟩
  refine go_evo hA (by intro d hd; simp at hd; omega) fun _ hA => leaf h hA ?_
  rw [← hs]

end Go.Vc.SZ

/- The formulas of functions, printed by a program (VcTool.lean): each is what the generator's formula comes to, by the kernel's reckoning; whoever proves one has the function's contract. -/
set_option maxRecDepth 100000
set_option maxHeartbeats 1000000
set_option linter.unusedVariables false
namespace Vcz
open Go Go.Vc Go.RowKit
/-! (manciple/mancipleref09.M).Order -/
def h46 : Hints := ⟨[1], [32, 40, 45, 54, 66], [12, 19, 26, 48, 61, 35, 57], [(12, [0, 1, 2, 3, 4, 5, 6, 7, 8, 9, 10, 11, 12, 13, 14, 15, 16, 17, 18, 19])], [], [(3, ⟨[(3, .sl), (4, .int .i64)], []⟩), (6, ⟨[(3, .sl), (5, .int .i64)], []⟩), (10, ⟨[(6, .int .i64), (7, .int .i64)], []⟩)], [], [], []⟩
def f46_vc (m_0 : Int) (m_1 : Int) (m_2 : Int) (m_3 : Int) (m_4a : Option Addr) (m_4n : Nat) (m_4c : Nat) (w : World) (R : Ending → World → Prop) : Prop :=
 ∀ (n1 : Nat),
 w.heap.size ≤ n1 →
 ∃ (J2 : (Option Addr × Nat × Nat) × Int × Unit → World → Prop),
 ∃ (J3 : (Option Addr × Nat × Nat) × Int × Unit → World → Nat),
 (∀ (w4 : World), Bel w w4 → Under [n1] w4 → J2 ((none, 0, 0), 0, ()) w4) ∧
 ∀ (a5 : Option Addr) (n6 n7 : Nat) (x8 : Int) (w9 : World),
 J2 ((a5, n6, n7), x8, ()) w9 →
 (decide (x8 < (↑m_4n : Int)) = true →
 ∃ (J10 : (Option Addr × Nat × Nat) × Int × Unit → World → Prop),
 ∃ (J11 : (Option Addr × Nat × Nat) × Int × Unit → World → Nat),
 J10 ((a5, n6, n7), 0, ()) w9 ∧
 ∀ (a12 : Option Addr) (n13 n14 : Nat) (x15 : Int) (w16 : World),
 J10 ((a12, n13, n14), x15, ()) w16 →
 (decide (x15 < (↑m_4n : Int)) = true →
 ∃ (J17 : Int × Int × Unit → World → Prop),
 ∃ (J18 : Int × Int × Unit → World → Nat),
 J17 (0, 0, ()) w16 ∧
 ∀ (x19 x20 : Int) (w21 : World),
 J17 (x19, x20, ()) w21 →
 (decide (x20 < (↑m_4n : Int)) = true →
 ∃ (ad22 : Addr),
 Gives Proofs.Tryz.prog (Instr.indexAt 101 (Value.slice m_4a m_4n m_4c) (Value.int IntKind.i64 x20)) (Value.pointer (some ad22)) ∧
 ∃ (b23 : Bool),
 Reads Proofs.Tryz.prog [] (Instr.loadAt 4 (Value.pointer (some (Addr.mk ad22.block (ad22.off + 6) none)))) w21 (Value.bool b23) ∧
 (b23 = true →
 ∃ (ad24 : Addr),
 Gives Proofs.Tryz.prog (Instr.indexAt 101 (Value.slice m_4a m_4n m_4c) (Value.int IntKind.i64 x20)) (Value.pointer (some ad24)) ∧
 ∃ (x25 : Int),
 ∃ (x26 : Int),
 ∃ (x27 : Int),
 ∃ (x28 : Int),
 ∃ (x29 : Int),
 ∃ (x30 : Int),
 ∃ (b31 : Bool),
 Reads Proofs.Tryz.prog [] (Instr.loadAt 105 (Value.pointer (some ad24))) w21
 (Value.agg
 #[Value.int IntKind.i64 x25, Value.int IntKind.i64 x26, Value.int IntKind.i64 x27, Value.int IntKind.i64 x28, Value.int IntKind.i64 x29,
 Value.int IntKind.i64 x30, Value.bool b31]) ∧
 ∃ (ad32 : Addr),
 Gives Proofs.Tryz.prog (Instr.indexAt 101 (Value.slice m_4a m_4n m_4c) (Value.int IntKind.i64 x15)) (Value.pointer (some ad32)) ∧
 ∃ (x33 : Int),
 ∃ (x34 : Int),
 ∃ (x35 : Int),
 ∃ (x36 : Int),
 ∃ (x37 : Int),
 ∃ (x38 : Int),
 ∃ (b39 : Bool),
 Reads Proofs.Tryz.prog [] (Instr.loadAt 105 (Value.pointer (some ad32))) w21
 (Value.agg
 #[Value.int IntKind.i64 x33, Value.int IntKind.i64 x34, Value.int IntKind.i64 x35, Value.int IntKind.i64 x36, Value.int IntKind.i64 x37,
 Value.int IntKind.i64 x38, Value.bool b39]) ∧
 ∀ (w40 : World),
 Bel w21 w40 →
 Under [n1] w40 →
 Calls Proofs.Tryz.prog 64
 #[Value.agg
 #[Value.int IntKind.i64 m_0, Value.int IntKind.i64 m_1, Value.int IntKind.i64 m_2, Value.int IntKind.i64 m_3,
 Value.slice m_4a m_4n m_4c],
 Value.agg
 #[Value.int IntKind.i64 x25, Value.int IntKind.i64 x26, Value.int IntKind.i64 x27, Value.int IntKind.i64 x28,
 Value.int IntKind.i64 x29, Value.int IntKind.i64 x30, Value.bool b31],
 Value.agg
 #[Value.int IntKind.i64 x33, Value.int IntKind.i64 x34, Value.int IntKind.i64 x35, Value.int IntKind.i64 x36,
 Value.int IntKind.i64 x37, Value.int IntKind.i64 x38, Value.bool b39]]
 w40 fun (e41 : Ending) (w42 : World) =>
 ∃ (b43 : Bool),
 e41 = Ending.returned (Value.bool b43) ∧
 Keeps [n1] w40 w42 ∧
 Reads Proofs.Tryz.prog [] (Instr.loadAt 4 (Value.pointer (some (Addr.mk ad22.block (ad22.off + 6) none)))) w42
 (Value.bool b23) ∧
 (b43 = true →
 J17 (IntKind.i64.wrap (x19 + 1), IntKind.i64.wrap (x20 + 1), ()) w42 ∧
 J18 (IntKind.i64.wrap (x19 + 1), IntKind.i64.wrap (x20 + 1), ()) w42 < J18 (x19, x20, ()) w21) ∧
 (b43 = false →
 J17 (x19, IntKind.i64.wrap (x20 + 1), ()) w42 ∧ J18 (x19, IntKind.i64.wrap (x20 + 1), ()) w42 < J18 (x19, x20, ()) w21)) ∧
 (b23 = false →
 ∀ (w44 : World), Bel w21 w44 → Under [n1] w44 → J17 (x19, IntKind.i64.wrap (x20 + 1), ()) w44 ∧ J18 (x19, IntKind.i64.wrap (x20 + 1), ()) w44 < J18 (x19, x20, ()) w21)) ∧
 (decide (x20 < (↑m_4n : Int)) = false →
 ∃ (ad45 : Addr),
 Gives Proofs.Tryz.prog (Instr.indexAt 101 (Value.slice m_4a m_4n m_4c) (Value.int IntKind.i64 x15)) (Value.pointer (some ad45)) ∧
 ∃ (b46 : Bool),
 Reads Proofs.Tryz.prog [] (Instr.loadAt 4 (Value.pointer (some (Addr.mk ad45.block (ad45.off + 6) none)))) w21 (Value.bool b46) ∧
 (b46 = true →
 ((x19 == x8) = true →
 ∃ (ad47 : Addr),
 Gives Proofs.Tryz.prog (Instr.indexAt 101 (Value.slice m_4a m_4n m_4c) (Value.int IntKind.i64 x15)) (Value.pointer (some ad47)) ∧
 ∃ (x48 : Int),
 Reads Proofs.Tryz.prog [] (Instr.loadAt 2 (Value.pointer (some ad47))) w21 (Value.int IntKind.i64 x48) ∧
 OpW Proofs.Tryz.prog (valueS (Instr.buildSlice 66 1 #[(0, Value.int IntKind.i64 x48)])) w21 fun (v49 : Value) (w50 : World) =>
 ∃ (a51 : Option Addr),
 ∃ (n52 : Nat),
 ∃ (n53 : Nat),
 v49 = Value.slice a51 n52 n53 ∧
 Keeps [n1] w21 w50 ∧
 OpW Proofs.Tryz.prog (builtin Builtin.append #[66, 66] 66 #[false, false] #[Value.slice a12 n13 n14, Value.slice a51 n52 n53]) w50
 fun (v54 : Value) (w55 : World) =>
 ∃ (a56 : Option Addr),
 ∃ (n57 : Nat),
 ∃ (n58 : Nat),
 v54 = Value.slice a56 n57 n58 ∧
 Keeps [n1] w50 w55 ∧
 J10 ((a56, n57, n58), IntKind.i64.wrap (x15 + 1), ()) w55 ∧
 J11 ((a56, n57, n58), IntKind.i64.wrap (x15 + 1), ()) w55 < J11 ((a12, n13, n14), x15, ()) w16) ∧
 ((x19 == x8) = false →
 J10 ((a12, n13, n14), IntKind.i64.wrap (x15 + 1), ()) w21 ∧ J11 ((a12, n13, n14), IntKind.i64.wrap (x15 + 1), ()) w21 < J11 ((a12, n13, n14), x15, ()) w16)) ∧
 (b46 = false → J10 ((a12, n13, n14), IntKind.i64.wrap (x15 + 1), ()) w21 ∧ J11 ((a12, n13, n14), IntKind.i64.wrap (x15 + 1), ()) w21 < J11 ((a12, n13, n14), x15, ()) w16))) ∧
 (decide (x15 < (↑m_4n : Int)) = false → J2 ((a12, n13, n14), IntKind.i64.wrap (x8 + 1), ()) w16 ∧ J3 ((a12, n13, n14), IntKind.i64.wrap (x8 + 1), ()) w16 < J3 ((a5, n6, n7), x8, ()) w9)) ∧
 (decide (x8 < (↑m_4n : Int)) = false → R (Ending.returned (Value.slice a5 n6 n7)) w9)
theorem f46_eq (m_0 : Int) (m_1 : Int) (m_2 : Int) (m_3 : Int) (m_4a : Option Addr) (m_4n : Nat) (m_4c : Nat) (w : World) (R : Ending → World → Prop) : (fnF Go.Proofs.Tryz.prog h46 Go.Proofs.Tryz.f46 [Value.agg #[Value.int IntKind.i64 m_0, Value.int IntKind.i64 m_1, Value.int IntKind.i64 m_2, Value.int IntKind.i64 m_3, Value.slice m_4a m_4n m_4c]] w R).den = f46_vc m_0 m_1 m_2 m_3 m_4a m_4n m_4c w R := by kernel_rfl
theorem f46_calls (m_0 : Int) (m_1 : Int) (m_2 : Int) (m_3 : Int) (m_4a : Option Addr) (m_4n : Nat) (m_4c : Nat) (w : World) (R : Ending → World → Prop) (h : f46_vc m_0 m_1 m_2 m_3 m_4a m_4n m_4c w R) : Calls Go.Proofs.Tryz.prog 46 (List.toArray [Value.agg #[Value.int IntKind.i64 m_0, Value.int IntKind.i64 m_1, Value.int IntKind.i64 m_2, Value.int IntKind.i64 m_3, Value.slice m_4a m_4n m_4c]]) w R :=
 fn_sound (H := h46) (fn := Go.Proofs.Tryz.f46) (by kernel_rfl) (by kernel_rfl) (by kernel_rfl) ((f46_eq m_0 m_1 m_2 m_3 m_4a m_4n m_4c w R).mpr h)

/-! (manciple/mancipleref09.M).Part -/
def h79 : Hints := ⟨[2, 3, 4, 6], [], [], [], [], [], [], [], []⟩
def f79_vc (m_0 : Int) (m_1 : Int) (m_2 : Int) (m_3 : Int) (m_4a : Option Addr) (m_4n : Nat) (m_4c : Nat) (c_0 : Int) (c_1 : Int) (c_2 : Int) (c_3 : Int) (c_4 : Int) (c_5 : Int) (c_6 : Bool) (w : World) (R : Ending → World → Prop) : Prop :=
 ∀ (n1 : Nat),
 w.heap.size ≤ n1 →
 ∀ (n2 : Nat),
 w.heap.size ≤ n2 →
 ∀ (n3 : Nat),
 w.heap.size ≤ n3 →
 ∀ (w4 : World),
 Bel w w4 →
 Under [n1, n2, n3] w4 →
 Calls Proofs.Tryz.prog 88
 #[Value.agg #[Value.int IntKind.i64 c_2, Value.int IntKind.i64 c_3, Value.int IntKind.i64 c_4, Value.int IntKind.i64 c_5],
 Value.agg #[Value.int IntKind.i64 m_0, Value.int IntKind.i64 m_1, Value.int IntKind.i64 m_2, Value.int IntKind.i64 m_3]]
 w4 fun (e5 : Ending) (w6 : World) =>
 ∃ (x7 : Int),
 ∃ (x8 : Int),
 ∃ (x9 : Int),
 e5 = Ending.returned (Value.tuple #[Value.int IntKind.i64 x7, Value.agg #[Value.int IntKind.i64 x8, Value.int IntKind.i64 x9]]) ∧
 Keeps [n1, n2, n3] w4 w6 ∧
 ∀ (n10 : Nat), w6.heap.size ≤ n10 → ∀ (w11 : World), Evo [n3, n10] w6 w11 → Under [n1, n2, n3, n10] w11 → R (Ending.returned (Value.agg #[Value.int IntKind.i64 x8, Value.int IntKind.i64 x9])) w11
theorem f79_eq (m_0 : Int) (m_1 : Int) (m_2 : Int) (m_3 : Int) (m_4a : Option Addr) (m_4n : Nat) (m_4c : Nat) (c_0 : Int) (c_1 : Int) (c_2 : Int) (c_3 : Int) (c_4 : Int) (c_5 : Int) (c_6 : Bool) (w : World) (R : Ending → World → Prop) : (fnF Go.Proofs.Tryz.prog h79 Go.Proofs.Tryz.f79 [Value.agg #[Value.int IntKind.i64 m_0, Value.int IntKind.i64 m_1, Value.int IntKind.i64 m_2, Value.int IntKind.i64 m_3, Value.slice m_4a m_4n m_4c],
 Value.agg #[Value.int IntKind.i64 c_0, Value.int IntKind.i64 c_1, Value.int IntKind.i64 c_2, Value.int IntKind.i64 c_3, Value.int IntKind.i64 c_4, Value.int IntKind.i64 c_5, Value.bool c_6]] w R).den = f79_vc m_0 m_1 m_2 m_3 m_4a m_4n m_4c c_0 c_1 c_2 c_3 c_4 c_5 c_6 w R := by kernel_rfl
theorem f79_calls (m_0 : Int) (m_1 : Int) (m_2 : Int) (m_3 : Int) (m_4a : Option Addr) (m_4n : Nat) (m_4c : Nat) (c_0 : Int) (c_1 : Int) (c_2 : Int) (c_3 : Int) (c_4 : Int) (c_5 : Int) (c_6 : Bool) (w : World) (R : Ending → World → Prop) (h : f79_vc m_0 m_1 m_2 m_3 m_4a m_4n m_4c c_0 c_1 c_2 c_3 c_4 c_5 c_6 w R) : Calls Go.Proofs.Tryz.prog 79 (List.toArray [Value.agg #[Value.int IntKind.i64 m_0, Value.int IntKind.i64 m_1, Value.int IntKind.i64 m_2, Value.int IntKind.i64 m_3, Value.slice m_4a m_4n m_4c],
 Value.agg #[Value.int IntKind.i64 c_0, Value.int IntKind.i64 c_1, Value.int IntKind.i64 c_2, Value.int IntKind.i64 c_3, Value.int IntKind.i64 c_4, Value.int IntKind.i64 c_5, Value.bool c_6]]) w R :=
 fn_sound (H := h79) (fn := Go.Proofs.Tryz.f79) (by kernel_rfl) (by kernel_rfl) (by kernel_rfl) ((f79_eq m_0 m_1 m_2 m_3 m_4a m_4n m_4c c_0 c_1 c_2 c_3 c_4 c_5 c_6 w R).mpr h)

/-! manciple/mancipleref09.Small -/
def h11 : Hints := ⟨[1], [9, 14], [17, 12], [], [(2, 5)], [], [], [], []⟩
def f11_vc (a_0 : Int) (a_1 : Int) (a_2 : Int) (a_3 : Int) (w : World) (R : Ending → World → Prop) : Prop :=
 ∀ (n1 : Nat),
 w.heap.size ≤ n1 →
 (decide (a_0 < 0) = true → ∀ (w2 : World), Bel w w2 → Under [n1] w2 → R (Ending.returned (Value.bool false)) w2) ∧
 (decide (a_0 < 0) = false →
 (decide (a_0 > 9007199254740992) = true → ∀ (w3 : World), Bel w w3 → Under [n1] w3 → R (Ending.returned (Value.bool false)) w3) ∧
 (decide (a_0 > 9007199254740992) = false →
 (decide (a_1 < 0) = true → ∀ (w4 : World), Bel w w4 → Under [n1] w4 → R (Ending.returned (Value.bool false)) w4) ∧
 (decide (a_1 < 0) = false →
 (decide (a_1 > 9007199254740992) = true → ∀ (w5 : World), Bel w w5 → Under [n1] w5 → R (Ending.returned (Value.bool false)) w5) ∧
 (decide (a_1 > 9007199254740992) = false →
 (decide (a_2 < 0) = true → ∀ (w6 : World), Bel w w6 → Under [n1] w6 → R (Ending.returned (Value.bool false)) w6) ∧
 (decide (a_2 < 0) = false →
 (decide (a_2 > 9007199254740992) = true → ∀ (w7 : World), Bel w w7 → Under [n1] w7 → R (Ending.returned (Value.bool false)) w7) ∧
 (decide (a_2 > 9007199254740992) = false →
 (decide (a_3 < 0) = true → ∀ (w8 : World), Bel w w8 → Under [n1] w8 → R (Ending.returned (Value.bool false)) w8) ∧
 (decide (a_3 < 0) = false →
 (decide (a_3 > 9007199254740992) = true → ∀ (w9 : World), Bel w w9 → Under [n1] w9 → R (Ending.returned (Value.bool false)) w9) ∧
 (decide (a_3 > 9007199254740992) = false → ∀ (w10 : World), Bel w w10 → Under [n1] w10 → R (Ending.returned (Value.bool true)) w10))))))))
theorem f11_eq (a_0 : Int) (a_1 : Int) (a_2 : Int) (a_3 : Int) (w : World) (R : Ending → World → Prop) : (fnF Go.Proofs.Tryz.prog h11 Go.Proofs.Tryz.f11 [Value.agg #[Value.int IntKind.i64 a_0, Value.int IntKind.i64 a_1, Value.int IntKind.i64 a_2, Value.int IntKind.i64 a_3]] w R).den = f11_vc a_0 a_1 a_2 a_3 w R := by kernel_rfl
theorem f11_calls (a_0 : Int) (a_1 : Int) (a_2 : Int) (a_3 : Int) (w : World) (R : Ending → World → Prop) (h : f11_vc a_0 a_1 a_2 a_3 w R) : Calls Go.Proofs.Tryz.prog 11 (List.toArray [Value.agg #[Value.int IntKind.i64 a_0, Value.int IntKind.i64 a_1, Value.int IntKind.i64 a_2, Value.int IntKind.i64 a_3]]) w R :=
 fn_sound (H := h11) (fn := Go.Proofs.Tryz.f11) (by kernel_rfl) (by kernel_rfl) (by kernel_rfl) ((f11_eq a_0 a_1 a_2 a_3 w R).mpr h)

/-! (manciple/mancipleref09.M).ahead -/
def h64 : Hints := ⟨[3, 4, 5], [], [21, 24], [(1, [0, 1, 3, 4, 5, 6, 8, 9, 2, 7, 10, 11])], [], [], [], [], []⟩
def f64_vc (m_0 : Int) (m_1 : Int) (m_2 : Int) (m_3 : Int) (m_4a : Option Addr) (m_4n : Nat) (m_4c : Nat) (a_0 : Int) (a_1 : Int) (a_2 : Int) (a_3 : Int) (a_4 : Int) (a_5 : Int) (a_6 : Bool) (b_0 : Int) (b_1 : Int) (b_2 : Int) (b_3 : Int) (b_4 : Int) (b_5 : Int) (b_6 : Bool) (w : World) (R : Ending → World → Prop) : Prop :=
 ∀ (n1 : Nat),
 w.heap.size ≤ n1 →
 ∀ (n2 : Nat),
 w.heap.size ≤ n2 →
 ∀ (n3 : Nat),
 w.heap.size ≤ n3 →
 ∀ (w4 : World),
 Bel w w4 →
 Under [n1, n2, n3] w4 →
 Calls Proofs.Tryz.prog 79
 #[Value.agg #[Value.int IntKind.i64 m_0, Value.int IntKind.i64 m_1, Value.int IntKind.i64 m_2, Value.int IntKind.i64 m_3, Value.slice m_4a m_4n m_4c],
 Value.agg #[Value.int IntKind.i64 a_0, Value.int IntKind.i64 a_1, Value.int IntKind.i64 a_2, Value.int IntKind.i64 a_3, Value.int IntKind.i64 a_4, Value.int IntKind.i64 a_5, Value.bool a_6]]
 w4 fun (e5 : Ending) (w6 : World) =>
 ∃ (x7 : Int),
 ∃ (x8 : Int),
 e5 = Ending.returned (Value.agg #[Value.int IntKind.i64 x7, Value.int IntKind.i64 x8]) ∧
 Keeps [n1, n2, n3] w4 w6 ∧
 Calls Proofs.Tryz.prog 79
 #[Value.agg #[Value.int IntKind.i64 m_0, Value.int IntKind.i64 m_1, Value.int IntKind.i64 m_2, Value.int IntKind.i64 m_3, Value.slice m_4a m_4n m_4c],
 Value.agg #[Value.int IntKind.i64 b_0, Value.int IntKind.i64 b_1, Value.int IntKind.i64 b_2, Value.int IntKind.i64 b_3, Value.int IntKind.i64 b_4, Value.int IntKind.i64 b_5, Value.bool b_6]]
 w6 fun (e9 : Ending) (w10 : World) =>
 ∃ (x11 : Int),
 ∃ (x12 : Int),
 e9 = Ending.returned (Value.agg #[Value.int IntKind.i64 x11, Value.int IntKind.i64 x12]) ∧
 Keeps [n1, n2, n3] w6 w10 ∧
 Calls Proofs.Tryz.prog 78
 #[Value.agg #[Value.int IntKind.i64 x7, Value.int IntKind.i64 x8], Value.int IntKind.i64 a_1, Value.agg #[Value.int IntKind.i64 x11, Value.int IntKind.i64 x12], Value.int IntKind.i64 b_1] w10
 fun (e13 : Ending) (w14 : World) =>
 ∃ (x15 : Int),
 e13 = Ending.returned (Value.int IntKind.i64 x15) ∧
 Keeps [n1, n2, n3] w10 w14 ∧
 (decide (x15 < 0) = true → R (Ending.returned (Value.bool true)) w14) ∧
 (decide (x15 < 0) = false → ((x15 == 0) = true → R (Ending.returned (Value.bool (decide (a_0 < b_0)))) w14) ∧ ((x15 == 0) = false → R (Ending.returned (Value.bool false)) w14))
theorem f64_eq (m_0 : Int) (m_1 : Int) (m_2 : Int) (m_3 : Int) (m_4a : Option Addr) (m_4n : Nat) (m_4c : Nat) (a_0 : Int) (a_1 : Int) (a_2 : Int) (a_3 : Int) (a_4 : Int) (a_5 : Int) (a_6 : Bool) (b_0 : Int) (b_1 : Int) (b_2 : Int) (b_3 : Int) (b_4 : Int) (b_5 : Int) (b_6 : Bool) (w : World) (R : Ending → World → Prop) : (fnF Go.Proofs.Tryz.prog h64 Go.Proofs.Tryz.f64 [Value.agg #[Value.int IntKind.i64 m_0, Value.int IntKind.i64 m_1, Value.int IntKind.i64 m_2, Value.int IntKind.i64 m_3, Value.slice m_4a m_4n m_4c],
 Value.agg #[Value.int IntKind.i64 a_0, Value.int IntKind.i64 a_1, Value.int IntKind.i64 a_2, Value.int IntKind.i64 a_3, Value.int IntKind.i64 a_4, Value.int IntKind.i64 a_5, Value.bool a_6],
 Value.agg #[Value.int IntKind.i64 b_0, Value.int IntKind.i64 b_1, Value.int IntKind.i64 b_2, Value.int IntKind.i64 b_3, Value.int IntKind.i64 b_4, Value.int IntKind.i64 b_5, Value.bool b_6]] w R).den = f64_vc m_0 m_1 m_2 m_3 m_4a m_4n m_4c a_0 a_1 a_2 a_3 a_4 a_5 a_6 b_0 b_1 b_2 b_3 b_4 b_5 b_6 w R := by kernel_rfl
theorem f64_calls (m_0 : Int) (m_1 : Int) (m_2 : Int) (m_3 : Int) (m_4a : Option Addr) (m_4n : Nat) (m_4c : Nat) (a_0 : Int) (a_1 : Int) (a_2 : Int) (a_3 : Int) (a_4 : Int) (a_5 : Int) (a_6 : Bool) (b_0 : Int) (b_1 : Int) (b_2 : Int) (b_3 : Int) (b_4 : Int) (b_5 : Int) (b_6 : Bool) (w : World) (R : Ending → World → Prop) (h : f64_vc m_0 m_1 m_2 m_3 m_4a m_4n m_4c a_0 a_1 a_2 a_3 a_4 a_5 a_6 b_0 b_1 b_2 b_3 b_4 b_5 b_6 w R) : Calls Go.Proofs.Tryz.prog 64 (List.toArray [Value.agg #[Value.int IntKind.i64 m_0, Value.int IntKind.i64 m_1, Value.int IntKind.i64 m_2, Value.int IntKind.i64 m_3, Value.slice m_4a m_4n m_4c],
 Value.agg #[Value.int IntKind.i64 a_0, Value.int IntKind.i64 a_1, Value.int IntKind.i64 a_2, Value.int IntKind.i64 a_3, Value.int IntKind.i64 a_4, Value.int IntKind.i64 a_5, Value.bool a_6],
 Value.agg #[Value.int IntKind.i64 b_0, Value.int IntKind.i64 b_1, Value.int IntKind.i64 b_2, Value.int IntKind.i64 b_3, Value.int IntKind.i64 b_4, Value.int IntKind.i64 b_5, Value.bool b_6]]) w R :=
 fn_sound (H := h64) (fn := Go.Proofs.Tryz.f64) (by kernel_rfl) (by kernel_rfl) (by kernel_rfl) ((f64_eq m_0 m_1 m_2 m_3 m_4a m_4n m_4c a_0 a_1 a_2 a_3 a_4 a_5 a_6 b_0 b_1 b_2 b_3 b_4 b_5 b_6 w R).mpr h)

end Vcz

/- The document's sorter: At, Part, Small, with, without, ahead. -/
set_option maxRecDepth 20000
set_option linter.unusedVariables false
set_option maxHeartbeats 1000000
namespace Go.Vc.SZ
open Go Go.Vc Go.RowKit Go.Proofs Go.Vc.T Vcz

variable {w W W' W1 : World} {M N : Nat → Prop} {gs ds : List Nat} {T n : Ar4} {m m0 m1 : List (Int × Cl)} {id : Int} {c : Cl} {a : Option Addr} {ln lc : Nat}

abbrev rcE (x : Int × Cl) : List Value := [.int .i64 x.1, .int .i64 x.2.w, .int .i64 x.2.s.1, .int .i64 x.2.s.2.1, .int .i64 x.2.s.2.2.1, .int .i64 x.2.s.2.2.2, .bool x.2.aw]
abbrev rcV (x : Int × Cl) : Value := .agg #[.int .i64 x.1, .int .i64 x.2.w, .int .i64 x.2.s.1, .int .i64 x.2.s.2.1, .int .i64 x.2.s.2.2.1, .int .i64 x.2.s.2.2.2, .bool x.2.aw]
abbrev mV (T : Ar4) (s : Value) : Value := .agg #[.int .i64 T.1, .int .i64 T.2.1, .int .i64 T.2.2.1, .int .i64 T.2.2.2, s]
theorem midx_first {α : Type} {k : Int} : ∀ {m : List (Int × α)} {i : Nat} {x : Int × α}, (∀ y ∈ m.take i, y.1 ≠ k) → m[i]? = some x → x.1 = k → midx k m = some i
  | [], i, x, _, h, _ => by simp at h
  | y :: m, 0, x, _, h, e => by
    simp at h
    subst h
    unfold midx
    rw [if_pos e.symm]
  | y :: m, i + 1, x, h1, h, e => by
    unfold midx
    rw [if_neg (fun e2 => h1 y (by simp) e2.symm), midx_first (i := i) (fun z hz => h1 z (by simp [hz])) (by simpa using h) e]
    rfl
theorem midx_no {α : Type} {k : Int} : ∀ {m : List (Int × α)}, (∀ y ∈ m, y.1 ≠ k) → midx k m = none
  | [], _ => rfl
  | y :: m, h => by
    unfold midx
    rw [if_neg (fun e2 => h y (by simp) e2.symm), midx_no fun z hz => h z (by simp [hz])]
    rfl
def atI {α : Type} (k : Int) (m : List (Int × α)) : Int := match midx k m with
  | some i => i
  | none => -1
theorem c79 (w : World) (T : Ar4) (x : Int × Cl) : Ret Tryz.prog 79 #[mV T (.slice a ln lc), rcV x] w (fracV (domT T x.2.s).1 (domT T x.2.s).2) := by
  intro R h
  refine f79_calls _ _ _ _ _ _ _ _ _ _ _ _ _ _ w R ?_
  unfold f79_vc
  have hA := At.refl w
  refine go_n hA fun n1 h1 => go_n hA fun n2 h2 => go_n hA fun n3 h3 => go_below hA fun w4 hA => ?_
  exact at_call hA (c88 _ _ _ _ _ _ _ _ _) fun w6 hA hk => ⟨_, _, _, rfl, hk, go_n hA fun n10 h10 => go_evo hA (by simp; omega) fun w11 hA => leaf h hA rfl⟩
theorem c11 (a : Ar4) (w : World) : Ret Tryz.prog 11 #[arT a] w (.bool (decide (sm4 a))) := by
  intro R h
  refine f11_calls _ _ _ _ w R ?_
  unfold f11_vc
  have hA := At.refl w
  have no : ¬ sm4 a → ∀ W, At w [] W → R (.returned (.bool false)) W := fun hn W hA => leaf h hA (by rw [decide_eq_false hn])
  unfold sm4 at no
  refine go_n hA fun n1 _ => ?_
  refine brD (fun h1 => go_below (gs' := [n1]) hA fun _ hA => no (by omega) _ hA.off) (fun h1 => brD (fun h2 => go_below (gs' := [n1]) hA fun _ hA => no (by omega) _ hA.off) (fun h2 => ?_))
  refine brD (fun h3 => go_below (gs' := [n1]) hA fun _ hA => no (by omega) _ hA.off) (fun h3 => brD (fun h4 => go_below (gs' := [n1]) hA fun _ hA => no (by omega) _ hA.off) (fun h4 => ?_))
  refine brD (fun h5 => go_below (gs' := [n1]) hA fun _ hA => no (by omega) _ hA.off) (fun h5 => brD (fun h6 => go_below (gs' := [n1]) hA fun _ hA => no (by omega) _ hA.off) (fun h6 => ?_))
  refine brD (fun h7 => go_below (gs' := [n1]) hA fun _ hA => no (by omega) _ hA.off) (fun h7 => brD (fun h8 => go_below (gs' := [n1]) hA fun _ hA => no (by omega) _ hA.off) (fun h8 => ?_))
  refine go_below (gs' := [n1]) hA fun _ hA => ?_
  exact leaf h hA (by rw [decide_eq_true (show sm4 a by unfold sm4; omega)])
theorem c64 (w : World) (T : Ar4) (x y : Int × Cl) : Ret Tryz.prog 64 #[mV T (.slice a ln lc), rcV x, rcV y] w (.bool (decide (cfP (plc T x) (plc T y) < 0))) := by
  intro R h
  refine f64_calls _ _ _ _ _ _ _ _ _ _ _ _ _ _ _ _ _ _ _ _ _ w R ?_
  unfold f64_vc
  have hA := At.refl w
  refine go_n hA fun n1 h1 => go_n hA fun n2 h2 => go_n hA fun n3 h3 => go_below hA fun w4 hA => ?_
  refine at_call hA (c79 _ T x) fun w6 hA hk => ⟨_, _, rfl, hk, ?_⟩
  refine at_call hA (c79 _ T y) fun w10 hA hk => ⟨_, _, rfl, hk, ?_⟩
  refine at_call hA (c78 _ _ _ _ _ _ _) fun w14 hA hk => ⟨_, rfl, hk, ?_⟩
  have e : cfP (plc T x) (plc T y) = if sCmp (domT T x.2.s).1 (domT T x.2.s).2 x.2.w (domT T y.2.s).1 (domT T y.2.s).2 y.2.w ≠ 0 then sCmp (domT T x.2.s).1 (domT T x.2.s).2 x.2.w (domT T y.2.s).1 (domT T y.2.s).2 y.2.w else cmpI x.1 y.1 := rfl
  rw [e] at h
  refine brD (fun hlt => leaf h hA ?_) fun hnlt => brE (fun hz => leaf h hA ?_) fun hnz => leaf h hA ?_
  · rw [if_pos (by omega), decide_eq_true hlt]
  · rw [if_neg (fun e => e hz)]
    have : (cmpI x.1 y.1 < 0) = (x.1 < y.1) := propext cmpI_neg
    simp only [this]
  · rw [if_pos hnz, decide_eq_false hnlt]
end Go.Vc.SZ

/- The document's sorter: with, without. -/
set_option maxRecDepth 20000
set_option linter.unusedVariables false
set_option maxHeartbeats 1000000
namespace Go.Vc.SZ
open Go Go.Vc Go.RowKit Go.Proofs Go.Vc.T Vcz

variable {w W W' W1 : World} {M N : Nat → Prop} {gs ds : List Nat} {T n : Ar4} {m m0 m1 : List (Int × Cl)} {id : Int} {c : Cl} {a : Option Addr} {ln lc : Nat}

/-- Returns a sorter of the document, its row new. -/
def RetM (f : FuncId) (args : Array Value) (W : World) (T : Ar4) (l : List (Int × Cl)) : Prop := RetQ Tryz.prog f args W fun v w' => ∃ s, v = mV T s ∧ w'.ownsRow W.heap.size 105 7 s l.length (l.flatMap rcE)
theorem leafM {R : Ending → World → Prop} {l l' : List (Int × Cl)} {v : Value} (h : ∀ v w', Bel w w' → (∃ s, v = mV T s ∧ w'.ownsRow w.heap.size 105 7 s l.length (l.flatMap rcE)) → R (.returned v) w') (hA : At w gs W) (ho : OwnL w gs W 105 7 rcE v l') (hl : l' = l) : R (.returned (mV T v)) W :=
  h _ _ hA.below ⟨v, rfl, hl ▸ ho.row⟩
def withL (at' : Int) (x : Int × Cl) (m : List (Int × Cl)) : List (Int × Cl) := if at' < 0 then m ++ [x] else m.set at'.toNat x
end Go.Vc.SZ

/- The document's sorter: Do. -/
set_option maxRecDepth 20000
set_option linter.unusedVariables false
set_option maxHeartbeats 2000000
namespace Go.Vc.SZ
open Go Go.Vc Go.RowKit Go.Proofs Go.Vc.T Vcz

variable {w W W' W1 : World} {M N : Nat → Prop} {gs ds : List Nat} {T n : Ar4} {m m0 m1 : List (Int × Cl)} {id : Int} {c : Cl} {a : Option Addr} {ln lc : Nat}

/-- What Do returns: the same row, or a new one. -/
def RowQ (w : World) (s0 : Value) (m : List (Int × Cl)) (m' : List (Int × Cl)) (s : Value) (W' : World) : Prop := (s = s0 ∧ m' = m) ∨ W'.ownsRow w.heap.size 105 7 s m'.length (m'.flatMap rcE)
def DoQ (w : World) (s0 : Value) (T : Ar4) (m : List (Int × Cl)) (act : Act) (v : Value) (W' : World) : Prop := ∃ s, v = .tuple #[mV (doD (T, m) act).1.1 s, .int .i64 (doD (T, m) act).2] ∧ RowQ w s0 m (doD (T, m) act).1.2 s W'
theorem fin61 {f : FuncId} {args : Array Value} {n3 : Nat} {l : List (Int × Cl)} {R : Ending → World → Prop} (hA : At w gs W) (hc : RetM f args W T l) (h3 : w.heap.size ≤ n3) (h3g : n3 ∈ gs)
    (hR : ∀ s W', Bel w W' → W'.ownsRow w.heap.size 105 7 s l.length (l.flatMap rcE) → R (.returned (.tuple #[mV T s, .int .i64 0])) W') :
    Calls Tryz.prog f args W fun e w' => ∃ (x1 x2 x3 x4 : Int) (a1 : Option Addr) (n1 cc1 : Nat), e = .returned (.agg #[.int .i64 x1, .int .i64 x2, .int .i64 x3, .int .i64 x4, .slice a1 n1 cc1]) ∧ Keeps gs W w' ∧ ∀ w'', Evo [n3] w' w'' → Under gs w'' → R (.returned (.tuple #[.agg #[.int .i64 x1, .int .i64 x2, .int .i64 x3, .int .i64 x4, .slice a1 n1 cc1], .int .i64 0])) w'' := by
  refine at_callq hA hc fun v w' hA' hk hb ⟨s, hv, hq⟩ => ?_
  subst hv
  have ho : OwnL w gs w' 105 7 rcE s l := OwnF.ret hA hq rfl rfl
  obtain ⟨a1, cc1, rfl, _⟩ := ho.slice fun _ _ => rfl
  refine ⟨_, _, _, _, _, _, _, rfl, hk, fun w'' he hu => ?_⟩
  have hA2 := hA'.evo (gs' := gs) (by simpa using h3) he hu
  exact hR _ _ hA2.below (ho.evo (fun d hd hng => by rw [List.mem_singleton.1 hd] at hng; exact absurd h3g hng) he).row

end Go.Vc.SZ

/- The document's tiers: At, Part, Role, with. -/
set_option maxRecDepth 20000
set_option maxHeartbeats 1000000
set_option linter.unusedVariables false
namespace Go.Vc.SZ
open Go Go.Vc Go.RowKit Go.Proofs Go.Vc.T Vcz

variable {w W W' W1 : World} {M N : Nat → Prop} {gs ds : List Nat} {T n : Ar4} {F G : List Fr} {f : Fr} {h : Fr → Fr} {id r : Int} {a : Option Addr} {ln lc : Nat}

abbrev frE (f : Fr) : List Value := [.int .i64 f.fid, .int .i64 f.w, .int .i64 f.role, .int .i64 f.s.1, .int .i64 f.s.2.1, .int .i64 f.s.2.2.1, .int .i64 f.s.2.2.2, .bool f.aw]
abbrev frV (f : Fr) : Value := .agg #[.int .i64 f.fid, .int .i64 f.w, .int .i64 f.role, .int .i64 f.s.1, .int .i64 f.s.2.1, .int .i64 f.s.2.2.1, .int .i64 f.s.2.2.2, .bool f.aw]
def mF (F : List Fr) : List (Int × Fr) := F.map fun f => (f.fid, f)
theorem fget_idx : ∀ {F : List Fr}, fget F id = mget id (mF F)
  | [] => rfl
  | x :: F => by
    have ih := fget_idx (F := F)
    unfold fget mF at *
    rw [List.find?_cons, List.map_cons, mget]
    by_cases e : x.fid = id
    · rw [if_pos e.symm, show decide (x.fid = id) = true by simp [e]]
    · rw [if_neg (fun h => e h.symm), show decide (x.fid = id) = false by simp [e]]
      exact ih
theorem mF_get {i : Nat} (h : F[i]? = some f) : (mF F)[i]? = some (f.fid, f) := by unfold mF; rw [List.getElem?_map, h]; rfl
theorem fidx_some {i : Nat} (h : midx id (mF F) = some i) : ∃ f, F[i]? = some f ∧ f.fid = id ∧ fget F id = some f := by
  obtain ⟨f, hf⟩ := midx_key h
  have h2 := hf
  unfold mF at h2
  rw [List.getElem?_map] at h2
  cases e : F[i]? with
  | none => rw [e] at h2; cases h2
  | some g =>
    rw [e] at h2
    simp only [Option.map_some, Option.some.injEq, Prod.mk.injEq] at h2
    refine ⟨g, rfl, h2.1, ?_⟩
    rw [fget_idx, mget_idx, h, Option.bind_some, mF_get e]
    rfl
theorem fidx_none (h : midx id (mF F) = none) : fget F id = none := by rw [fget_idx, mget_idx, h]; rfl
theorem upd_set : ∀ {F : List Fr} {i : Nat}, (F.map (·.fid)).Nodup → F[i]? = some f → f.fid = id → updF F id h = F.set i (h f)
  | [], i, _, e, _ => by simp at e
  | x :: F, 0, hn, e, hf => by
    simp at e
    subst e
    rw [List.map_cons, List.nodup_cons] at hn
    have : updF F id h = F := upd_none h fun g hg e => hn.1 (List.mem_map.2 ⟨g, hg, e.trans hf.symm⟩)
    unfold updF at *
    rw [List.map_cons, if_pos hf, this]
    rfl
  | x :: F, i + 1, hn, e, hf => by
    rw [List.map_cons, List.nodup_cons] at hn
    have e : F[i]? = some f := by simpa using e
    have hx : x.fid ≠ id := fun hh => hn.1 (List.mem_map.2 ⟨f, List.mem_of_getElem? e, hf.trans hh.symm⟩)
    have := upd_set (i := i) hn.2 e hf
    unfold updF at *
    rw [List.map_cons, if_neg hx, this]
    rfl
theorem del_erase : ∀ {F : List Fr} {i : Nat}, (F.map (·.fid)).Nodup → F[i]? = some f → f.fid = id → delF F id = F.eraseIdx i
  | [], i, _, e, _ => by simp at e
  | x :: F, 0, hn, e, hf => by
    simp at e
    subst e
    rw [List.map_cons, List.nodup_cons] at hn
    have : delF F id = F := del_none fun g hg e => hn.1 (List.mem_map.2 ⟨g, hg, e.trans hf.symm⟩)
    unfold delF at *
    rw [List.filter_cons, if_neg (by simp [hf]), this]
    rfl
  | x :: F, i + 1, hn, e, hf => by
    rw [List.map_cons, List.nodup_cons] at hn
    have e : F[i]? = some f := by simpa using e
    have hx : x.fid ≠ id := fun hh => hn.1 (List.mem_map.2 ⟨f, List.mem_of_getElem? e, hf.trans hh.symm⟩)
    have := del_erase (i := i) hn.2 e hf
    unfold delF at *
    rw [List.filter_cons, if_pos (by simp [hx]), this]
    rfl
def atF (id : Int) (F : List Fr) : Int := atI id (mF F)
theorem c13 (w : World) (hs : SlE w 8 frE F a ln lc) (hl : F.length < 100000) (id : Int) : Ret Tryz.prog 13 #[mV T (.slice a ln lc), .int .i64 id] w (.int .i64 (atF id F)) := by
  intro R h
  refine f13_calls _ _ _ _ _ _ _ _ w R ?_
  unfold f13_vc
  have hln := hs.1
  refine go_n (At.refl w) fun n1 h1 => ⟨fun s W => At w [n1] W ∧ ∃ i : Nat, s.1 = i ∧ i ≤ ln ∧ ∀ y ∈ (mF F).take i, y.1 ≠ id, fun s _ => ln - s.1.toNat, go_below (At.refl w) fun w4 hA => ⟨hA, 0, rfl, Nat.zero_le _, by simp⟩, ?_⟩
  rintro x5 w6 ⟨hA, i, hi, hil, hno⟩
  simp only at hi
  subst hi
  have hml : (mF F).length = F.length := by unfold mF; rw [List.length_map]
  refine brD (fun hlt => ?_) fun hge => ?_
  · have him : i < F.length := by omega
    have hmi := mF_get (List.getElem?_eq_getElem him)
    obtain ⟨ad, g1, el, _⟩ := elt_at (P := Tryz.prog) (k := .i64) (t := 26) (hs.call hA.below) (List.getElem?_eq_getElem him) (e := 49) (by kernel_rfl) (by kernel_rfl)
    refine ⟨ad, g1, _, el.one (by kernel_rfl) no_ds, brE (fun he => leaf h hA ?_) fun hne => ?_⟩
    · unfold atF atI
      rw [midx_first hno hmi he]
    · have hw : IntKind.i64.wrap ((i : Int) + 1) = ((i + 1 : Nat) : Int) := by rw [wrap_i64 (by omega) (by omega)]; omega
      rw [hw]
      refine ⟨⟨hA, i + 1, rfl, by omega, fun y hy => ?_⟩, by simp only; omega⟩
      rw [List.take_add_one, hmi, List.mem_append] at hy
      rcases hy with hy | hy
      · exact hno y hy
      · simp at hy
        rw [hy]; exact hne
  · refine leaf h hA ?_
    rw [List.take_of_length_le (by omega)] at hno
    unfold atF atI
    rw [midx_no hno]
/-! ### Role -/
theorem agF_take {φ : Fr → Int} (hp : ∀ f ∈ F, 0 ≤ φ f) (i : Nat) (r : Int) : 0 ≤ agF φ r (F.take i) ∧ agF φ r (F.take i) ≤ agF φ r F := by
  have h1 := (agF_le (φ := φ) (r := r) (F := F.take i) fun f hf => hp f (List.mem_of_mem_take hf)).1
  have h2 := (agF_le (φ := φ) (r := r) (F := F.drop i) fun f hf => hp f (List.mem_of_mem_drop hf)).1
  have h3 := agF_append φ r (F.take i) (F.drop i)
  rw [List.take_append_drop] at h3
  omega
theorem isR_app : isR (F ++ G) r = (isR F r || isR G r) := by unfold isR; rw [List.any_append]
theorem sum_snoc (F : List Fr) (f : Fr) (r : Int) : sumF (F ++ [f]) r = if f.role = r then ad4 (sumF F r) f.s else sumF F r := by
  unfold sumF
  simp only [agF_append, agF]
  split
  · unfold ad4; simp
  · simp
abbrev roleV (F : List Fr) (r : Int) : Value := .tuple #[.int .i64 (wF F r), arT (sumF F r), .bool (isR F r)]
theorem c14 (w : World) (hF : FOk F) (hs : SlE w 8 frE F a ln lc) (hl : F.length < 100000) (r : Int) : Ret Tryz.prog 14 #[mV T (.slice a ln lc), .int .i64 r] w (roleV F r) := by
  intro R h
  refine f14_calls _ _ _ _ _ _ _ _ w R ?_
  unfold f14_vc
  have hln := hs.1
  refine go_n (At.refl w) fun n1 h1 => go_n (At.refl w) fun n2 h2 => go_n (At.refl w) fun n3 h3 => ?_
  refine ⟨fun s W => At w [n1, n2, n3] W ∧ ∃ i : Nat, s.2.2.1 = i ∧ i ≤ ln ∧ s.1 = wF (F.take i) r ∧ s.2.1 = isR (F.take i) r ∧ (s.2.2.2.1, s.2.2.2.2.1, s.2.2.2.2.2.1, s.2.2.2.2.2.2.1) = sumF (F.take i) r, fun s _ => ln - s.2.2.1.toNat, go_below (At.refl w) fun w6 hA => ⟨hA, 0, rfl, Nat.zero_le _, rfl, rfl, rfl⟩, ?_⟩
  rintro x7 b8 x9 x10 x11 x12 x13 w14 ⟨hA, i, hi, hil, e7, e8, es⟩
  simp only at hi e7 e8 es
  subst hi e7 e8
  have hw : IntKind.i64.wrap ((i : Int) + 1) = ((i + 1 : Nat) : Int) := by rw [wrap_i64 (by omega) (by omega)]; omega
  refine brD (fun hlt => ?_) fun hge => ?_
  · have him : i < F.length := by omega
    obtain ⟨f, hf⟩ : ∃ f, F[i]? = some f := ⟨_, List.getElem?_eq_getElem him⟩
    have hfm := List.mem_of_getElem? hf
    have tk : F.take (i + 1) = F.take i ++ [f] := by rw [List.take_add_one, hf, Option.toList_some]
    obtain ⟨ad, g1, el0, _⟩ := elt_at (P := Tryz.prog) (k := .i64) (t := 26) hs hf (e := 49) (by kernel_rfl) (by kernel_rfl)
    have el := el0.below hA.below
    rw [hw]
    refine ⟨ad, g1, _, (el.sub (o := 2) (by decide)).one (by kernel_rfl) no_ds, brE (fun he => ?_) fun hne => ?_⟩
    · refine ⟨ad, g1, _, _, _, _, (el.sub (o := 3) (by decide)).agg 4 (by kernel_rfl) (by kernel_rfl) (by simp) no_ds, go_below_too hA fun w22 hA hb22 => ?_⟩
      have p1 := agF_take (φ := (·.s.1)) (fun f hf => (hF.nn f hf).1) (i + 1) r
      have p2 := agF_take (φ := (·.s.2.1)) (fun f hf => (hF.nn f hf).2.1) (i + 1) r
      have p3 := agF_take (φ := (·.s.2.2.1)) (fun f hf => (hF.nn f hf).2.2.1) (i + 1) r
      have p4 := agF_take (φ := (·.s.2.2.2)) (fun f hf => (hF.nn f hf).2.2.2) (i + 1) r
      have q1 := agF_take (φ := (·.s.1)) (fun f hf => (hF.nn f hf).1) i r
      have q2 := agF_take (φ := (·.s.2.1)) (fun f hf => (hF.nn f hf).2.1) i r
      have q3 := agF_take (φ := (·.s.2.2.1)) (fun f hf => (hF.nn f hf).2.2.1) i r
      have q4 := agF_take (φ := (·.s.2.2.2)) (fun f hf => (hF.nn f hf).2.2.2) i r
      have hnn := hF.nn f hfm
      have hsm := hF.sm r
      have hsum := sum_snoc (F.take i) f r
      rw [if_pos he, ← tk] at hsum
      have k1 : (sumF (F.take (i + 1)) r).1 = x10 + f.s.1 := by rw [hsum, ← es]
      have k2 : (sumF (F.take (i + 1)) r).2.1 = x11 + f.s.2.1 := by rw [hsum, ← es]
      have k3 : (sumF (F.take (i + 1)) r).2.2.1 = x12 + f.s.2.2.1 := by rw [hsum, ← es]
      have k4 : (sumF (F.take (i + 1)) r).2.2.2 = x13 + f.s.2.2.2 := by rw [hsum, ← es]
      have j1 : (sumF (F.take i) r).1 = x10 := by rw [← es]
      have j2 : (sumF (F.take i) r).2.1 = x11 := by rw [← es]
      have j3 : (sumF (F.take i) r).2.2.1 = x12 := by rw [← es]
      have j4 : (sumF (F.take i) r).2.2.2 = x13 := by rw [← es]
      unfold sumF at k1 k2 k3 k4 j1 j2 j3 j4
      unfold sm4 sumF at hsm
      simp only at k1 k2 k3 k4 j1 j2 j3 j4 hsm
      refine at_callb hA (c15 _ _ _ _ _ _ _ _ _) fun w24 hA hk hb24 => ?_
      unfold sumA
      rw [if_pos (by unfold sumR; omega)]
      refine ⟨_, _, _, _, _, rfl, hk, ad, g1, _, (((el.below hb22).below hb24).sub (o := 1) (by decide)).one (by kernel_rfl) ((el0.sub (o := 1) (by decide)).far (by simpa using h3)), go_evo hA (by simpa using h3) fun w32 hA => ⟨⟨hA, i + 1, rfl, by omega, ?_, ?_, ?_⟩, by simp only; omega⟩⟩
      · rw [tk, wF_put fun hr => ?_, if_pos he.symm]
        obtain ⟨f', hf', e'⟩ := isR_iff.1 hr
        rw [← e', wF_of (fun a ha b hb => hF.wt a (List.mem_of_mem_take ha) b (List.mem_of_mem_take hb)) hf']
        exact hF.wt f' (List.mem_of_mem_take hf') f hfm e'
      · rw [tk, isR_app]
        simp [isR, he]
      · rw [hsum, ← es]
    · refine ⟨⟨hA, i + 1, rfl, by omega, ?_, ?_, ?_⟩, by simp only; omega⟩
      · rw [tk, wF_put fun hr => ?_, if_neg (fun e => hne e.symm)]
        obtain ⟨f', hf', e'⟩ := isR_iff.1 hr
        rw [← e', wF_of (fun a ha b hb => hF.wt a (List.mem_of_mem_take ha) b (List.mem_of_mem_take hb)) hf']
        exact hF.wt f' (List.mem_of_mem_take hf') f hfm e'
      · rw [tk, isR_app]
        simp [isR, hne]
      · rw [tk, sum_snoc, if_neg hne, ← es]
  · refine go_evo hA (by simpa using h2) fun w33 hA => leaf h hA ?_
    have e : i = F.length := by omega
    rw [e, List.take_length] at es ⊢
    unfold roleV
    rw [← es]
end Go.Vc.SZ

/- The document's tiers: with, put. -/
set_option maxRecDepth 20000
set_option maxHeartbeats 1000000
set_option linter.unusedVariables false
namespace Go.Vc.SZ
open Go Go.Vc Go.RowKit Go.Proofs Go.Vc.T Vcz

variable {w W W' W1 : World} {M N : Nat → Prop} {gs ds : List Nat} {T n : Ar4} {m F : List Fr} {f : Fr} {h : Fr → Fr} {id r : Int} {a : Option Addr} {ln lc : Nat}

/-- Returns a tiers of the document, its row new. -/
def RetN (f : FuncId) (args : Array Value) (W : World) (T : Ar4) (l : List Fr) : Prop := RetQ Tryz.prog f args W fun v w' => ∃ s, v = mV T s ∧ w'.ownsRow W.heap.size 49 8 s l.length (l.flatMap frE)
theorem leafN {R : Ending → World → Prop} {l l' : List Fr} {v : Value} (h : ∀ v w', Bel w w' → (∃ s, v = mV T s ∧ w'.ownsRow w.heap.size 49 8 s l.length (l.flatMap frE)) → R (.returned v) w') (hA : At w gs W) (ho : OwnL w gs W 49 8 frE v l') (hl : l' = l) : R (.returned (mV T v)) W :=
  h _ _ hA.below ⟨v, rfl, hl ▸ ho.row⟩
def withF (at' : Int) (x : Fr) (m : List Fr) : List Fr := if at' < 0 then m ++ [x] else m.set at'.toNat x
theorem c17 (w : World) (T : Ar4) (hs : SlE w 8 frE m a ln lc) (hl : m.length < 100000) (at' : Int) (x : Fr) : RetN 17 #[mV T (.slice a ln lc), .int .i64 at', frV x] w T (withF at' x m) := by
  intro R h
  refine f17_calls _ _ _ _ _ _ _ _ _ _ _ _ _ _ _ _ w R ?_
  unfold f17_vc
  have hln := hs.1
  refine go_n (At.refl w) fun n1 h1 => go_n (At.refl w) fun n2 h2 => go_n (At.refl w) fun n3 h3 => go_n (At.refl w) fun n4 h4 => ?_
  have hQ : ∃ Q : List Fr, Q = (if at' < 0 then m else m.set at'.toNat x) ∧ Q.length = m.length := ⟨_, rfl, by split <;> simp⟩
  obtain ⟨Q, hQ, hQl⟩ := hQ
  refine ⟨fun s W => At w [n1, n2, n3, n4] W ∧ ∃ i : Nat, s.1 = i ∧ i ≤ ln ∧ (s.2.1, s.2.2.1, s.2.2.2.1, s.2.2.2.2.1) = T ∧ OwnL w [n1, n2, n3, n4] W 49 8 frE (.slice s.2.2.2.2.2.1.1 s.2.2.2.2.2.1.2.1 s.2.2.2.2.2.1.2.2) (Q.take i) ∧ s.2.2.2.2.2.1.2.1 = i, fun s _ => ln - s.1.toNat, go_evo (At.refl w) (by simpa using h4) fun w4 hA => ⟨hA, 0, rfl, Nat.zero_le _, rfl, OwnF.nil, rfl⟩, ?_⟩
  rintro x8 x9 x10 x11 x12 a13 n14 n15 w16 ⟨hA, i, hi, hil, hT, ho, hn⟩
  simp only at hi hT ho hn
  subst hi hT
  have hlq : n14 = (Q.take i).length := by rw [List.length_take]; omega
  subst hlq
  have hw : IntKind.i64.wrap ((i : Int) + 1) = ((i + 1 : Nat) : Int) := by rw [wrap_i64 (by omega) (by omega)]; omega
  refine brD (fun hlt => ?_) fun hge => ?_
  · have him : i < m.length := by omega
    have hiq : i < Q.length := by omega
    have tk : ∀ y, Q[i]? = some y → Q.take i ++ [y] = Q.take (i + 1) := fun y hy => by rw [List.take_add_one, hy, Option.toList_some]
    rw [hw]
    have step : ∀ (y : Fr) (W : World) (_ : At w [n1, n2, n3, n4] W) (_ : OwnL w [n1, n2, n3, n4] W 49 8 frE (.slice a13 (Q.take i).length n15) (Q.take i)) (_ : Q[i]? = some y) (K : Option Addr → Nat → Nat → World → Prop), (∀ a' n' c' w2, At w [n1, n2, n3, n4] w2 → OwnL w [n1, n2, n3, n4] w2 49 8 frE (.slice a' n' c') (Q.take (i + 1)) → n' = i + 1 → K a' n' c' w2) → OpW Tryz.prog (valueS (Instr.buildSlice 26 1 #[(0, frV y)])) W fun v w1 => ∃ a1 n1' cc1, v = .slice a1 n1' cc1 ∧ Keeps [n1, n2, n3, n4] W w1 ∧ OpW Tryz.prog (builtin .append #[26, 26] 26 #[false, false] #[.slice a13 (Q.take i).length n15, .slice a1 n1' cc1]) w1 fun v w2 => ∃ a2 n2' cc2, v = .slice a2 n2' cc2 ∧ Keeps [n1, n2, n3, n4] w1 w2 ∧ K a2 n2' cc2 w2 := by
      intro y W hA ho hy K hK
      refine opw_push (e' := 49) (bytes := 64) hA ho y (by kernel_rfl) (by kernel_rfl) rfl (fun _ _ => rfl) (by simp [Value.oneCell']) (by rw [List.length_take]; omega) (by decide) fun a2 cc2 w2 hA ho _ _ => ?_
      rw [tk y hy] at ho
      refine hK a2 _ cc2 w2 hA ?_ (by rw [tk y hy, List.length_take]; omega)
      rw [tk y hy]
      exact ho
    refine brE (fun he => ?_) fun hne => ?_
    · refine step x w16 hA ho (by rw [hQ, if_neg (by omega), ← he]; simp [him]) _ fun a2 n2' cc2 w2 hA ho hn' => go_evo_too hA (by simpa using h4) fun w27 hA hb => ?_
      exact ⟨⟨hA, i + 1, rfl, by omega, rfl, ho.evo (by simp) hb, hn'⟩, by simp only; omega⟩
    · have hqi : Q[i]? = some m[i] := by
        rw [hQ]
        split
        · exact List.getElem?_eq_getElem him
        · rw [List.getElem?_set_ne (by omega)]; exact List.getElem?_eq_getElem him
      obtain ⟨ad, g1, el, _⟩ := elt_at (P := Tryz.prog) (k := .i64) (t := 26) (hs.call hA.below) (List.getElem?_eq_getElem him) (e := 49) (by kernel_rfl) (by kernel_rfl)
      refine ⟨ad, g1, _, _, _, _, _, _, _, _, el.agg 8 (by kernel_rfl) (by kernel_rfl) (by simp) no_ds, go_below_too hA fun w36 hA hb => ?_⟩
      refine step m[i] w36 hA (ho.call hb) hqi _ fun a2 n2' cc2 w2 hA ho hn' => go_evo_too hA (by simpa using h4) fun w27 hA hb => ?_
      exact ⟨⟨hA, i + 1, rfl, by omega, rfl, ho.evo (by simp) hb, hn'⟩, by simp only; omega⟩
  · have hie : i = ln := by omega
    have hQi : Q.take i = Q := List.take_of_length_le (by omega)
    rw [hQi] at ho ⊢
    refine brD (fun hneg => ?_) fun hpos => ?_
    · refine opw_push (e' := 49) (bytes := 64) hA ho x (by kernel_rfl) (by kernel_rfl) rfl (fun _ _ => rfl) (by simp [Value.oneCell']) (by omega) (by decide) fun a2 cc2 w2 hA ho _ _ => ?_
      refine go_evo_too hA (by simp; omega) fun w58 hA hb => leafN h hA (ho.evo (by simp) hb) ?_
      rw [hQ, if_pos hneg, withF, if_pos hneg]
    · refine go_evo_too hA (by simpa using h3) fun w58 hA hb => leafN h hA (ho.evo (by simp) hb) ?_
      rw [hQ, if_neg hpos, withF, if_neg hpos]
/-- What Do returns: the same row, or a new one. -/
def RowN (w : World) (s0 : Value) (m : List Fr) (m' : List Fr) (s : Value) (W' : World) : Prop := (s = s0 ∧ m' = m) ∨ W'.ownsRow w.heap.size 49 8 s m'.length (m'.flatMap frE)
theorem fin69 {f : FuncId} {args : Array Value} {n3 : Nat} {l : List Fr} {R : Ending → World → Prop} (hA : At w gs W) (hc : RetN f args W T l) (h3 : w.heap.size ≤ n3) (h3g : n3 ∈ gs)
    (hR : ∀ s W', Bel w W' → W'.ownsRow w.heap.size 49 8 s l.length (l.flatMap frE) → R (.returned (.tuple #[mV T s, .int .i64 0])) W') :
    Calls Tryz.prog f args W fun e w' => ∃ (x1 x2 x3 x4 : Int) (a1 : Option Addr) (n1 cc1 : Nat), e = .returned (.agg #[.int .i64 x1, .int .i64 x2, .int .i64 x3, .int .i64 x4, .slice a1 n1 cc1]) ∧ Keeps gs W w' ∧ ∀ w'', Evo [n3] w' w'' → Under gs w'' → R (.returned (.tuple #[.agg #[.int .i64 x1, .int .i64 x2, .int .i64 x3, .int .i64 x4, .slice a1 n1 cc1], .int .i64 0])) w'' := by
  refine at_callq hA hc fun v w' hA' hk hb ⟨s, hv, hq⟩ => ?_
  subst hv
  have ho : OwnL w gs w' 49 8 frE s l := OwnF.ret hA hq rfl rfl
  obtain ⟨a1, cc1, rfl, _⟩ := ho.slice fun _ _ => rfl
  refine ⟨_, _, _, _, _, _, _, rfl, hk, fun w'' he hu => ?_⟩
  have hA2 := hA'.evo (gs' := gs) (by simpa using h3) he hu
  exact hR _ _ hA2.below (ho.evo (fun d hd hng => by rw [List.mem_singleton.1 hd] at hng; exact absurd h3g hng) he).row

/-- What a step of the document's returns: an error, and the same row, or a new one. -/
def StepN (w : World) (s0 : Value) (F : List Fr) (q : (Ar4 × List Fr) × Int) (v : Value) (W' : World) : Prop := ∃ s, v = .tuple #[mV q.1.1 s, .int .i64 q.2] ∧ RowN w s0 F q.1.2 s W'
theorem c12 (w : World) (T : Ar4) (hF : FOk F) (hs : SlE w 8 frE F a ln lc) (hl : F.length < 100000) (x : TA) : RetQ Tryz.prog 12 #[mV T (.slice a ln lc), taV x] w (StepN w (.slice a ln lc) F ((T, (putT F x.2.1 x.2.2.1 x.2.2.2.1).1), (putT F x.2.1 x.2.2.1 x.2.2.2.1).2)) := by
  obtain ⟨k, id, rl, wt, nn⟩ := x
  intro R h
  refine f12_calls _ _ _ _ _ _ _ _ _ _ _ _ _ _ _ w R ?_
  unfold f12_vc
  simp only at h
  have hA := At.refl w
  refine go_n hA fun n1 h1 => go_n hA fun n2 h2 => go_n hA fun n3 h3 => ?_
  have ev3 : ∀ d ∈ [n3], w.heap.size ≤ d := by simpa using h3
  have keep : ∀ {gs : List Nat} {W : World} (e : Int), putT F id rl wt = (F, e) → At w gs W → R (.returned (.tuple #[mV T (.slice a ln lc), .int .i64 e])) W := fun e he hA => h _ _ hA.below ⟨_, by rw [he], .inl ⟨rfl, by rw [he]⟩⟩
  have bad : (rl < 1 ∨ rl > 32 ∨ wt < 1 ∨ wt > 1000) → putT F id rl wt = (F, 41) := fun hb => by unfold putT; rw [if_pos hb]
  refine brD (fun e1 => go_evo (gs' := [n1, n2, n3]) hA ev3 fun _ hA => keep 41 (bad (.inl e1)) hA) fun e1 => ?_
  refine brD (fun e2 => go_evo (gs' := [n1, n2, n3]) hA ev3 fun _ hA => keep 41 (bad (.inr (.inl e2))) hA) fun e2 => ?_
  refine brD (fun e3 => go_evo (gs' := [n1, n2, n3]) hA ev3 fun _ hA => keep 41 (bad (.inr (.inr (.inl e3)))) hA) fun e3 => ?_
  refine brD (fun e4 => go_evo (gs' := [n1, n2, n3]) hA ev3 fun _ hA => keep 41 (bad (.inr (.inr (.inr e4)))) hA) fun e4 => ?_
  have good : ¬ (rl < 1 ∨ rl > 32 ∨ wt < 1 ∨ wt > 1000) := fun hb => hb.elim e1 fun hb => hb.elim e2 fun hb => hb.elim e3 e4
  refine go_below_too hA fun w8 hA hb8 => ?_
  refine at_callb hA (c13 _ (hs.call hb8) hl id) fun w10 hA hk hb10 => ⟨_, rfl, hk, ?_⟩
  have hs10 := hs.call hA.below
  refine brD (fun e5 => go_evo (gs' := [n1, n2, n3]) hA ev3 fun _ hA => keep 42 ?_ hA) fun e5 => ?_
  · unfold atF atI at e5
    cases hx : midx id (mF F) with
    | none => rw [hx] at e5; exact absurd e5 (by decide)
    | some i =>
      obtain ⟨f, _, _, hg⟩ := fidx_some hx
      unfold putT
      rw [if_neg good, hg]
  have hx : fget F id = none := by
    unfold atF atI at e5
    cases hx : midx id (mF F) with
    | none => exact fidx_none hx
    | some i => rw [hx] at e5; simp only at e5; omega
  refine at_callb hA (c14 _ hF hs10 hl rl) fun w14 hA hk hb14 => ⟨_, _, _, _, _, _, rfl, hk, go_n hA fun n21 h21 => ?_⟩
  have hs14 := hs10.call hb14
  have neu : putT F id rl wt = (withF (-1) ⟨id, rl, wt, (0, 0, 0, 0), true⟩ F, 0) → ∀ s W', Bel w W' → W'.ownsRow w.heap.size 49 8 s (withF (-1) ⟨id, rl, wt, (0, 0, 0, 0), true⟩ F).length ((withF (-1) ⟨id, rl, wt, (0, 0, 0, 0), true⟩ F).flatMap frE) → R (.returned (.tuple #[mV T s, .int .i64 0])) W' := fun he s W' hb hq => h _ _ hb ⟨s, by rw [he], .inr (by rw [he]; exact hq)⟩
  have ok : ¬ (isR F rl = true ∧ wF F rl ≠ wt) → putT F id rl wt = (withF (-1) ⟨id, rl, wt, (0, 0, 0, 0), true⟩ F, 0) := fun hn => by
    unfold putT
    rw [if_neg good, hx]
    simp only [if_neg hn]
    rfl
  refine brB (fun e6 => brN (fun e7 => go_evo hA (by simp; omega) fun w22 hA => keep 22 ?_ hA) (fun e7 => go_evo_too hA (by simpa using h21) fun w23 hA hb => ?_)) (fun e6 => go_evo_too hA (by simpa using h21) fun w23 hA hb => ?_)
  · unfold putT
    rw [if_neg good, hx]
    simp only [if_pos (show isR F rl = true ∧ wF F rl ≠ wt from ⟨e6, e7⟩)]
  · exact fin69 hA (c17 _ T (hs.call hA.below) hl (-1) ⟨id, rl, wt, (0, 0, 0, 0), true⟩) h3 (by simp) (neu (ok fun hh => hh.2 e7))
  · exact fin69 hA (c17 _ T (hs.call hA.below) hl (-1) ⟨id, rl, wt, (0, 0, 0, 0), true⟩) h3 (by simp) (neu (ok fun hh => by rw [e6] at hh; exact absurd hh.1 (by decide)))
end Go.Vc.SZ

/- The document's tiers: Do. -/
set_option maxRecDepth 20000
set_option maxHeartbeats 2000000
set_option linter.unusedVariables false
namespace Go.Vc.SZ
open Go Go.Vc Go.RowKit Go.Proofs Go.Vc.T Vcz

variable {w W W' W1 : World} {M N : Nat → Prop} {gs ds : List Nat} {T n : Ar4} {m F : List Fr} {f : Fr} {h : Fr → Fr} {id r : Int} {a : Option Addr} {ln lc : Nat}

/-- Behind a step, its row as one of the caller's. -/
theorem RowN.own {s0 s : Value} {F' : List Fr} (hA : At w gs W) (hq : RowN W s0 F F' s W') : (s = s0 ∧ F' = F) ∨ OwnL w gs W' 49 8 frE s F' := by
  rcases hq with h | h
  · exact .inl h
  · exact .inr (OwnF.ret hA h rfl rfl)
theorem wake_at {on : Bool} {i : Nat} (hn : (F.map (·.fid)).Nodup) (hi : F[i]? = some f) (hf : f.fid = id) (hg : fget F id = some f) : wakeT F id on = (withF (i : Int) ⟨f.fid, f.role, f.w, f.s, on⟩ F, 0) := by
  unfold wakeT withF
  rw [hg, if_neg (by omega)]
  simp only [Int.toNat_natCast]
  rw [upd_set hn hi hf]
theorem giv_at {n : Ar4} {i : Nat} (hn : (F.map (·.fid)).Nodup) (hi : F[i]? = some f) (hf : f.fid = id) (hg : fget F id = some f) (ha : (sR4 (sumF F f.role) ∧ sR4 n ∧ sR4 (ad4 (sumF F f.role) n)) ∧ sm4 (ad4 (sumF F f.role) n)) : giveT F id n = (withF (i : Int) ⟨f.fid, f.role, f.w, ad4 f.s n, f.aw⟩ F, 0) := by
  unfold giveT withF
  rw [hg]
  simp only
  unfold addD
  rw [if_pos ha.1, if_neg (by omega)]
  simp only [if_pos ha.2, Int.toNat_natCast]
  rw [upd_set hn hi hf]
theorem giv_no {n : Ar4} (hg : fget F id = some f) (ha : ¬ ((sR4 (sumF F f.role) ∧ sR4 n ∧ sR4 (ad4 (sumF F f.role) n)) ∧ sm4 (ad4 (sumF F f.role) n))) : giveT F id n = (F, 41) := by
  unfold giveT
  rw [hg]
  simp only
  unfold addD
  by_cases h1 : sR4 (sumF F f.role) ∧ sR4 n ∧ sR4 (ad4 (sumF F f.role) n)
  · rw [if_pos h1]
    simp only
    rw [if_neg fun h2 => ha ⟨h1, h2⟩]
  · rw [if_neg h1]
/-- What a role may have more, each of its frameworks may. -/
theorem giv_own {n : Ar4} (hF : FOk F) (hf : f ∈ F) (ha : (sR4 (sumF F f.role) ∧ sR4 n ∧ sR4 (ad4 (sumF F f.role) n)) ∧ sm4 (ad4 (sumF F f.role) n)) : (sR4 f.s ∧ sR4 n ∧ sR4 (ad4 f.s n)) ∧ sm4 (ad4 f.s n) := by
  have hp := hF.part hf
  have hn := hF.nn f hf
  unfold sR4 sumR sm4 ad4 at *
  simp only at *
  omega
theorem c5 (w : World) (T : Ar4) (hF : FOk F) (hs : SlE w 8 frE F a ln lc) (hl : F.length < 100000) (act : TA) : RetQ Tryz.prog 5 #[mV T (.slice a ln lc), taV act] w (StepN w (.slice a ln lc) F (doT (T, F) act)) := by
  obtain ⟨k, id, rl, wt, nn⟩ := act
  intro R h
  refine f5_calls _ _ _ _ _ _ _ _ _ _ _ _ _ _ _ w R ?_
  unfold f5_vc
  have hA := At.refl w
  have hln := hs.1
  refine go_n hA fun n1 h1 => go_n hA fun n2 h2 => go_n hA fun n3 h3 => ?_
  have keep : ∀ {gs : List Nat} {W : World} (T' : Ar4) (e : Int), doT (T, F) (k, id, rl, wt, nn) = ((T', F), e) → At w gs W → R (.returned (.tuple #[mV T' (.slice a ln lc), .int .i64 e])) W := fun T' e he hA => h _ _ hA.below ⟨_, by rw [he], .inl ⟨rfl, by rw [he]⟩⟩
  have neu : ∀ (l : List Fr), doT (T, F) (k, id, rl, wt, nn) = ((T, l), 0) → ∀ s W', Bel w W' → W'.ownsRow w.heap.size 49 8 s l.length (l.flatMap frE) → R (.returned (.tuple #[mV T s, .int .i64 0])) W' := fun l he s W' hb hq => h _ _ hb ⟨s, by rw [he], .inr (by rw [he]; exact hq)⟩
  have ev3 : ∀ d ∈ [n3], w.heap.size ≤ d := by simpa using h3
  refine brE (fun e0 => go_below (gs' := [n1, n2, n3]) hA fun w4 hA => ?_) fun e0 => brE (fun e1 => go_below_too (gs' := [n1, n2, n3]) hA fun w10 hA hb10 => ?_) fun e1 => go_below_too (gs' := [n1, n2, n3]) hA fun w22 hA hb22 => ?_
  · refine at_call hA (c11 nn _) fun w9 hA hk => ⟨_, rfl, hk, brND (fun hn => go_evo hA ev3 fun w11 hA => keep T 41 ?_ hA) fun hp => go_evo hA ev3 fun w12 hA => keep nn 0 ?_ hA⟩
    · unfold doT; simp only [if_pos e0, if_neg hn]
    · unfold doT; simp only [if_pos e0, if_pos hp]
  · refine at_callq hA (c12 _ T hF (hs.call hb10) hl (k, id, rl, wt, nn)) fun v w12 hA2 hk hb12 ⟨s, hv, hq⟩ => ?_
    subst hv
    have ed : doT (T, F) (k, id, rl, wt, nn) = ((T, (putT F id rl wt).1), (putT F id rl wt).2) := by unfold doT; simp only [if_neg e0, if_pos e1]
    rcases hq.own hA with ⟨hse, hFe⟩ | ho
    · simp only at hse hFe
      subst hse
      refine ⟨_, _, _, _, _, _, _, _, rfl, hk, go_evo hA2 ev3 fun w21 hA => h _ _ hA.below ⟨_, by rw [ed], .inl ⟨rfl, by rw [ed]; exact hFe⟩⟩⟩
    · obtain ⟨a1, cp, rfl, _⟩ := ho.slice fun _ _ => rfl
      refine ⟨_, _, _, _, _, _, _, _, rfl, hk, go_evo_too hA2 ev3 fun w21 hA hb => h _ _ hA.below ⟨_, by rw [ed], .inr ?_⟩⟩
      rw [ed]
      exact (ho.evo (by simp) hb).row
  refine at_callb hA (c13 _ (hs.call hb22) hl id) fun w24 hA hk hb24 => ⟨_, rfl, hk, ?_⟩
  have hs24 := hs.call hA.below
  refine brD (fun hneg => go_evo hA ev3 fun w14 hA => keep T 43 ?_ hA) fun hneg => ?_
  · have hx : fget F id = none := by
      unfold atF atI at hneg
      cases hx : midx id (mF F) with
      | none => exact fidx_none hx
      | some i => rw [hx] at hneg; simp only at hneg; omega
    unfold doT dropT wakeT giveT takeT
    simp only [if_neg e0, if_neg e1, hx, ite_self]
  obtain ⟨i, hx⟩ : ∃ i, midx id (mF F) = some i := by
    unfold atF atI at hneg
    cases hx : midx id (mF F) with
    | none => rw [hx] at hneg; exact absurd (by decide) hneg
    | some i => exact ⟨i, rfl⟩
  obtain ⟨f, hfi, hfid, hg⟩ := fidx_some hx
  have hfm := List.mem_of_getElem? hfi
  have e7 : atF id F = (i : Int) := by unfold atF atI; rw [hx]
  rw [e7]
  obtain ⟨ad, g1, el, _⟩ := elt_at (P := Tryz.prog) (k := .i64) (t := 26) hs24 hfi (e := 49) (by kernel_rfl) (by kernel_rfl)
  refine ⟨ad, g1, _, _, _, _, _, _, _, _, el.agg 8 (by kernel_rfl) (by kernel_rfl) (by simp) no_ds, go_n hA fun n36 h36 => ?_⟩
  have ev : ∀ d ∈ [n36], w.heap.size ≤ d := by simpa using h36
  have ev2 : ∀ d ∈ [n36, n36], w.heap.size ≤ d := by simpa using h36
  refine brE (fun e2 => go_n hA fun n37 h37 => ?_) fun e2 => ?_
  · -- dropped
    have ed : doT (T, F) (k, id, rl, wt, nn) = ((T, F.eraseIdx i), 0) := by
      unfold doT dropT
      simp only [if_neg e0, if_neg e1, if_pos e2, hg, del_erase hF.nd hfi hfid]
    refine ⟨fun s W => At w [n1, n2, n3, n36, n37] W ∧ ∃ j : Nat, s.1 = j ∧ j ≤ ln ∧ (s.2.1, s.2.2.1, s.2.2.2.1, s.2.2.2.2.1) = T ∧ OwnL w [n1, n2, n3, n36, n37] W 49 8 frE (.slice s.2.2.2.2.2.1.1 s.2.2.2.2.2.1.2.1 s.2.2.2.2.2.1.2.2) ((F.take j).eraseIdx i) ∧ s.2.2.2.2.2.1.2.1 = ((F.take j).eraseIdx i).length, fun s _ => ln - s.1.toNat, go_evo hA (by simp; omega) fun w4 hA => ⟨hA, 0, rfl, Nat.zero_le _, rfl, by simpa using OwnF.nil, by simp⟩, ?_⟩
    rintro x8 x9 x10 x11 x12 a13 n14 n15 w16 ⟨hA, j, hj, hil, hT, ho, hn⟩
    simp only at hj hT ho hn
    subst hj hT hn
    have hw : IntKind.i64.wrap ((j : Int) + 1) = ((j + 1 : Nat) : Int) := by rw [wrap_i64 (by omega) (by omega)]; omega
    have hel : ((F.take j).eraseIdx i).length ≤ j := by
      rw [List.length_eraseIdx, List.length_take]
      split <;> omega
    refine brD (fun hlt => ?_) fun hge => ?_
    · have him : j < F.length := by omega
      have htk : (F.take j).length = j := by rw [List.length_take]; omega
      have htk1 : F.take (j + 1) = F.take j ++ [F[j]] := by rw [List.take_add_one, List.getElem?_eq_getElem him, Option.toList_some]
      rw [hw]
      refine brN (fun hne => ?_) fun he => ?_
      · obtain ⟨ad, g1, el, _⟩ := elt_at (P := Tryz.prog) (k := .i64) (t := 26) (hs.call hA.below) (List.getElem?_eq_getElem him) (e := 49) (by kernel_rfl) (by kernel_rfl)
        refine ⟨ad, g1, _, _, _, _, _, _, _, _, el.agg 8 (by kernel_rfl) (by kernel_rfl) (by simp) no_ds, go_below_too hA fun w36 hA hb => ?_⟩
        refine opw_push (e' := 49) (bytes := 64) hA (ho.call hb) F[j] (by kernel_rfl) (by kernel_rfl) rfl (fun _ _ => rfl) (by simp [Value.oneCell']) (by omega) (by decide) fun a2 cc2 w2 hA ho _ _ => ?_
        have e : (F.take j).eraseIdx i ++ [F[j]] = (F.take (j + 1)).eraseIdx i := by
          rw [htk1]
          by_cases hk : i < j
          · rw [List.eraseIdx_append_of_lt_length (by omega)]
          · rw [List.eraseIdx_of_length_le (by omega), List.eraseIdx_of_length_le (by simp; omega)]
        rw [e] at ho ⊢
        refine go_evo_too hA (by simpa using h37) fun w27 hA hb => ?_
        exact ⟨⟨hA, j + 1, rfl, by omega, rfl, ho.evo (by simp) hb, rfl⟩, by simp only; omega⟩
      · have hik : j = i := by omega
        subst hik
        have e : (F.take j).eraseIdx j = (F.take (j + 1)).eraseIdx j := by
          rw [htk1, List.eraseIdx_append_of_length_le (by omega), List.eraseIdx_of_length_le (by omega), htk, Nat.sub_self]
          simp
        rw [e] at ho ⊢
        exact ⟨⟨hA, j + 1, rfl, by omega, rfl, ho, rfl⟩, by simp only; omega⟩
    · have hQi : F.take j = F := List.take_of_length_le (by omega)
      rw [hQi] at ho ⊢
      exact go_evo_too hA ev3 fun w58 hA hb => neu _ ed _ _ hA.below (ho.evo (by simp) hb).row
  have hn3 : n3 ∈ [n1, n2, n3] := by simp
  refine brE (fun e3 => go_evo hA ev2 fun w36 hA => ?_) fun e3 => ?_
  · refine fin69 hA (c17 _ T (hs.call hA.below) hl i ⟨f.fid, f.role, f.w, f.s, true⟩) h3 (by simp) (neu _ ?_)
    unfold doT
    simp only [if_neg e0, if_neg e1, if_neg e2, if_pos e3, wake_at hF.nd hfi hfid hg]
  refine brE (fun e4 => go_evo hA ev2 fun w36 hA => ?_) fun e4 => ?_
  · refine fin69 hA (c17 _ T (hs.call hA.below) hl i ⟨f.fid, f.role, f.w, f.s, false⟩) h3 (by simp) (neu _ ?_)
    unfold doT
    simp only [if_neg e0, if_neg e1, if_neg e2, if_neg e3, if_pos e4, wake_at hF.nd hfi hfid hg]
  refine brE (fun e5 => go_evo hA ev fun w94 hA => ?_) fun e5 => go_evo hA ev fun w94 hA => ?_
  · refine at_call hA (c14 _ hF (hs.call hA.below) hl f.role) fun w96 hA hk => ⟨_, _, _, _, _, _, rfl, hk, go_n hA fun n103 h103 => go_evo hA (by simpa using h103) fun w104 hA => ?_⟩
    have gd : ∀ q, giveT F id nn = q → doT (T, F) (k, id, rl, wt, nn) = ((T, q.1), q.2) := fun q hq => by
      unfold doT
      simp only [if_neg e0, if_neg e1, if_neg e2, if_neg e3, if_neg e4, if_pos e5, hq]
    have no : ∀ {gs : List Nat} {W : World}, ¬ ((sR4 (sumF F f.role) ∧ sR4 nn ∧ sR4 (ad4 (sumF F f.role) nn)) ∧ sm4 (ad4 (sumF F f.role) nn)) → At w gs W → R (.returned (.tuple #[mV T (.slice a ln lc), .int .i64 41])) W := fun hh hA => keep T 41 (gd _ (giv_no hg hh)) hA
    refine at_call hA (c15 _ _ _ _ _ _ _ _ _) fun w106 hA hk => ?_
    by_cases hown : sR4 f.s ∧ sR4 nn ∧ sR4 (ad4 f.s nn)
    · unfold sumA
      simp only [if_pos hown]
      refine ⟨_, _, _, _, _, rfl, hk, go_n hA fun n112 h112 => go_evo hA (by simpa using h112) fun w113 hA => ?_⟩
      refine at_call hA (c15 _ _ _ _ _ _ _ _ _) fun w115 hA hk => ?_
      by_cases hall : sR4 (sumF F f.role) ∧ sR4 nn ∧ sR4 (ad4 (sumF F f.role) nn)
      · unfold sumA
        simp only [if_pos hall]
        refine ⟨_, _, _, _, _, rfl, hk, go_n hA fun n121 h121 => brB (fun e => by cases e) fun _ => brB (fun e => by cases e) fun _ => go_evo hA (by simpa using h121) fun w124 hA => ?_⟩
        refine at_call hA (c11 (ad4 f.s nn) _) fun w126 hA hk => ⟨_, rfl, hk, brND (fun hn => go_evo hA ev3 fun w72 hA => no (fun hh => hn (giv_own hF hfm hh).2) hA) fun hp => ?_⟩
        refine at_call hA (c11 (ad4 (sumF F f.role) nn) _) fun w130 hA hk => ⟨_, rfl, hk, brND (fun hn => go_evo hA ev3 fun w72 hA => no (fun hh => hn hh.2) hA) fun hp2 => go_evo hA ev fun w133 hA => ?_⟩
        refine fin69 hA (c17 _ T (hs.call hA.below) hl i ⟨f.fid, f.role, f.w, ad4 f.s nn, f.aw⟩) h3 (by simp) (neu _ ?_)
        rw [gd _ (giv_at hF.nd hfi hfid hg ⟨hall, hp2⟩)]
      · unfold sumA
        simp only [if_neg hall]
        exact ⟨_, _, _, _, _, rfl, hk, go_n hA fun n121 h121 => brB (fun e => by cases e) fun _ => brB (fun _ => go_evo hA (by simp; omega) fun w122 hA => no (fun hh => hall hh.1) hA) fun e => by cases e⟩
    · unfold sumA
      simp only [if_neg hown]
      refine ⟨_, _, _, _, _, rfl, hk, go_n hA fun n112 h112 => go_evo hA (by simpa using h112) fun w113 hA => ?_⟩
      refine at_call hA (c15 _ _ _ _ _ _ _ _ _) fun w115 hA hk => ?_
      have fin : ∀ (x1 x2 x3 x4 : Int) (b : Bool), ∃ (x116 x117 x118 x119 : Int) (b120 : Bool), Ending.returned (pairA x1 x2 x3 x4 b) = Ending.returned (pairA x116 x117 x118 x119 b120) := fun x1 x2 x3 x4 b => ⟨_, _, _, _, _, rfl⟩
      by_cases hall : sR4 (sumF F f.role) ∧ sR4 nn ∧ sR4 (ad4 (sumF F f.role) nn)
      · unfold sumA
        simp only [if_pos hall]
        exact ⟨_, _, _, _, _, rfl, hk, go_n hA fun n121 h121 => brB (fun _ => go_evo hA (by simp; omega) fun w122 hA => no (fun hh => hown (giv_own hF hfm hh).1) hA) fun e => by cases e⟩
      · unfold sumA
        simp only [if_neg hall]
        exact ⟨_, _, _, _, _, rfl, hk, go_n hA fun n121 h121 => brB (fun _ => go_evo hA (by simp; omega) fun w122 hA => no (fun hh => hall hh.1) hA) fun e => by cases e⟩
  · refine at_call hA (c16 _ _ _ _ _ _ _ _ _) fun w60 hA hk => ?_
    have gd : ∀ q, takeT F id nn = q → doT (T, F) (k, id, rl, wt, nn) = ((T, q.1), q.2) := fun q hq => by
      unfold doT
      simp only [if_neg e0, if_neg e1, if_neg e2, if_neg e3, if_neg e4, if_neg e5, hq]
    by_cases hsm : sH4 f.s nn
    · have ef : takeT F id nn = (withF (i : Int) ⟨f.fid, f.role, f.w, sb4 f.s nn, f.aw⟩ F, 0) := by
        unfold takeT withF
        rw [hg]
        unfold subD
        simp only [if_pos hsm]
        rw [if_neg (by omega), Int.toNat_natCast, upd_set hF.nd hfi hfid]
      unfold sumS
      simp only [if_pos hsm]
      refine ⟨_, _, _, _, _, rfl, hk, go_n hA fun n66 h66 => brB (fun e => by cases e) fun _ => go_evo hA (by simp; omega) fun w68 hA => ?_⟩
      refine fin69 hA (c17 _ T (hs.call hA.below) hl i ⟨f.fid, f.role, f.w, sb4 f.s nn, f.aw⟩) h3 (by simp) (neu _ ?_)
      rw [gd _ ef]
    · have ef : takeT F id nn = (F, 30) := by unfold takeT subD; rw [hg]; simp only [if_neg hsm]
      unfold sumS
      simp only [if_neg hsm]
      refine ⟨_, _, _, _, _, rfl, hk, go_n hA fun n66 h66 => brB (fun _ => go_evo hA (by simp; omega) fun w68 hA => keep T 30 ?_ hA) fun e => by cases e⟩
      rw [gd _ ef]
end Go.Vc.SZ

/- Tiers: works; walks where only Below is known. -/
set_option maxRecDepth 20000
set_option maxHeartbeats 2000000
set_option linter.unusedVariables false
namespace Go.Vc.SZ
open Go Go.Vc Go.RowKit Go.Proofs Go.Vc.T Vcz

variable {w W W' W1 : World} {M N B : Nat → Prop} {gs ds : List Nat} {g : Nat} {T n : Ar4} {m F : List Fr} {f : Fr} {h : Fr → Fr} {id r : Int} {a : Option Addr} {ln lc : Nat}

/-- The same world, nothing drawn: what only Below is known of is a change of it. -/
abbrev zro (w : World) : World := { w with drawn := 0 }
theorem at_zro (w : World) (M : Nat → Prop) : AtF (zro w) M [] w := ⟨⟨rfl, rfl, rfl, Nat.le_refl _, fun _ _ _ => rfl, Nat.zero_le _⟩, fun _ h => by cases h⟩
/-- A call of which only Below is known. -/
def RetW (f : FuncId) (args : Array Value) (W : World) (v : Value) : Prop := ∀ R : Ending → World → Prop, (∀ w', Below W.heap.size W w' → R (.returned v) w') → Calls Tryz.prog f args W R
theorem at_callW {f : FuncId} {args : Array Value} {v : Value} {K : Ending → World → Prop} (hA : AtF (zro w) M gs W) (hc : RetW f args W v) (hK : ∀ w', AtF (zro w) M gs w' → Keeps gs W w' → Below W.heap.size W w' → K (.returned v) w') : Calls Tryz.prog f args W K :=
  hc K fun w' hb => hK w' ⟨⟨hb.os.trans hA.chg.os, hb.tape.trans hA.chg.tape, hb.output.trans hA.chg.output, Nat.le_trans hA.chg.size hb.size, fun b hl hm => (hb.block b (Nat.lt_of_lt_of_le hl hA.chg.size)).trans (hA.chg.block b hl hm), Nat.zero_le _⟩, fun g hg => Nat.lt_of_lt_of_le (hA.under g hg) hb.size⟩ (fun g hg => hb.block g (hA.under g hg)) hb
theorem leafW {R : Ending → World → Prop} {v v' : Value} (h : ∀ w', Below w.heap.size w w' → R (.returned v) w') (hA : At (zro w) gs W) (e : v' = v) : R (.returned v') W := by
  subst e
  exact h W ⟨hA.chg.os, hA.chg.tape, hA.chg.output, hA.chg.size, fun b hb => hA.chg.block b hb id⟩
theorem TiX.bel (h : TiX W B g T F) (hb : Below W.heap.size W W') : TiX W' B g T F :=
  ((h.mono (B0 := fun b => B b ∧ b < W.heap.size) fun b hl hb => ⟨hb, hl⟩).keep (Stay.of hb.size fun b hB _ => hb.block b hB.2)).mono fun b _ hB => hB.1
/-- Tiers whose blocks are all new. -/
abbrev TiO (w W : World) (g : Nat) (T : Ar4) (F : List Fr) : Prop := TiX W (fun b => w.heap.size ≤ b ∧ b < W.heap.size) g T F
theorem TiO.call (h : TiO w W g T F) (hb : Bel W W') : TiO w W' g T F := (TiX.call h hb).mono fun b hl hx => ⟨hx.1, hl⟩
theorem TiO.bel (h : TiO w W g T F) (hb : Below W.heap.size W W') : TiO w W' g T F := (TiX.bel h hb).mono fun b hl hx => ⟨hx.1, hl⟩
theorem TiO.of (h : TiX W' (fun b => (w.heap.size ≤ b ∧ b < W.heap.size) ∨ W.heap.size ≤ b) g T F) (hs : w.heap.size ≤ W.heap.size) : TiO w W' g T F := h.mono fun b hl hx => ⟨hx.elim (fun e => e.1) fun e => Nat.le_trans hs e, hl⟩
theorem TiO.evo (h : TiO w W g T F) (he : Evo ds W W') (hd : ∀ d ∈ ds, d < w.heap.size ∨ W.heap.size ≤ d) : TiO w W' g T F := (TiX.evo h he fun d hm hb => by
  have := hd d hm
  omega).mono fun b hl hx => ⟨hx.1, hl⟩
theorem at_tt {f : FuncId} {args : Array Value} {q : List Fr × Int} {K : Ending → World → Prop} (hA : At w gs W) (hg : ∀ g ∈ gs, W.heap.size ≤ g ∨ g < w.heap.size) (hc : RetF Tryz.prog f args W (fun b => w.heap.size ≤ b ∧ b < W.heap.size) (TxQ W (fun b => w.heap.size ≤ b ∧ b < W.heap.size) g T q))
    (hK : ∀ W', At w gs W' → TiO w W' g T q.1 → K (.returned (.int .i64 q.2)) W') : Calls Tryz.prog f args W K := by
  refine at_callF hA hc (fun b _ hb => .inl hb.1) (fun g hm hb => by have := hg g hm; omega) fun v w5 hA2 _ _ hq => ?_
  have hv := hq.1
  subst hv
  exact hK w5 hA2 (TiO.of hq.2 hA.size)
/-! ### The example -/
abbrev F3 : List Fr := [⟨1, 5, 1, (3, 0, 0, 0), true⟩, ⟨2, 5, 1, (0, 0, 0, 0), true⟩, ⟨3, 4, 1, (2, 0, 0, 0), true⟩]
abbrev T10 : Ar4 := (10, 0, 0, 0)
theorem lessF {a b c d : Int} (h : 0 ≤ a ∧ a < b ∧ b ≤ 1000) : cfP ⟨a, 10, 1, c⟩ ⟨b, 10, 1, d⟩ < 0 := by
  have : sCmp a 10 1 b 10 1 = -1 := by
    unfold sCmp cmpI
    rw [if_pos ⟨⟨⟨by omega, by omega⟩, by omega, by omega, by omega, by omega⟩, ⟨by omega, by omega⟩, by omega, by omega, by omega, by omega⟩]
    rw [if_neg (by omega), if_pos (by omega)]
  simp only [cfP, this]
  rw [if_pos (by decide)]
  decide
theorem plc10 {x : Int × Cl} {s : Int} (hs : x.2.s = (s, 0, 0, 0)) (hx : 0 ≤ s ∧ s ≤ 1000) : plc T10 x = ⟨s, 10, x.2.w, x.1⟩ := by
  unfold plc
  rw [hs, dom10 s hx]
theorem ord_two {x y : Int × Cl} {s t : Int} (hg : Good T10 [x, y]) (hx : x.2.s = (s, 0, 0, 0)) (hy : y.2.s = (t, 0, 0, 0)) (hw : x.2.w = 1 ∧ y.2.w = 1) (ha : x.2.aw = true ∧ y.2.aw = true) (h : 0 ≤ s ∧ s < t ∧ t ≤ 1000) : (ordL T10 [x, y]).map Pl.d = [x.1, y.1] := by
  have e : ordL T10 [x, y] = [⟨s, 10, 1, x.1⟩, ⟨t, 10, 1, y.1⟩] := by
    have p1 := plc10 hx (by omega)
    have p2 := plc10 hy (by omega)
    rw [hw.1] at p1
    rw [hw.2] at p2
    refine ord_of hg ⟨?_, fun z => ?_⟩
    · unfold Tr.Srt
      refine List.pairwise_cons.2 ⟨fun z hz => ?_, by simp⟩
      rw [List.mem_singleton.1 hz]
      exact lessF h
    · constructor
      · intro hz
        simp at hz
        rcases hz with rfl | rfl
        · exact ⟨x, by simp, ha.1, p1.symm⟩
        · exact ⟨y, by simp, ha.2, p2.symm⟩
      · rintro ⟨q, hq, _, rfl⟩
        simp at hq
        rcases hq with rfl | rfl
        · rw [p1]; simp
        · rw [p2]; simp
  rw [e]
  rfl
theorem ord_one {x : Int × Cl} {s : Int} (hg : Good T10 [x]) (hx : x.2.s = (s, 0, 0, 0)) (hw : x.2.w = 1) (ha : x.2.aw = true) (h : 0 ≤ s ∧ s ≤ 1000) : (ordL T10 [x]).map Pl.d = [x.1] := by
  have e : ordL T10 [x] = [⟨s, 10, 1, x.1⟩] := by
    have p1 := plc10 hx h
    rw [hw] at p1
    refine ord_of hg ⟨by unfold Tr.Srt; simp, fun z => ?_⟩
    constructor
    · intro hz
      simp at hz
      subst hz
      exact ⟨x, by simp, ha, p1.symm⟩
    · rintro ⟨q, hq, _, rfl⟩
      simp at hq
      subst hq
      rw [p1]; simp
  rw [e]
  rfl
theorem all3 : allL F3 = [(4, ⟨1, (2, 0, 0, 0), true⟩), (5, ⟨1, (3, 0, 0, 0), true⟩)] := by rfl
theorem walk3 : walkL T10 F3 = [(4, 3), (5, 2), (5, 1)] := by
  have hT : sm4 T10 := by decide
  have g1 : Good T10 [((4 : Int), (⟨1, (2, 0, 0, 0), true⟩ : Cl)), (5, ⟨1, (3, 0, 0, 0), true⟩)] := ⟨by simp, by
    intro x hx
    simp at hx
    rcases hx with rfl | rfl
    · exact ⟨by decide, by decide, by decide⟩
    · exact ⟨by decide, by decide, by decide⟩, hT⟩
  have g2 : Good T10 [((3 : Int), (⟨1, (2, 0, 0, 0), true⟩ : Cl))] := ⟨by simp, by
    intro x hx
    simp at hx
    subst hx
    exact ⟨by decide, by decide, by decide⟩, hT⟩
  have g3 : Good T10 [((2 : Int), (⟨1, (0, 0, 0, 0), true⟩ : Cl)), (1, ⟨1, (3, 0, 0, 0), true⟩)] := ⟨by simp, by
    intro x hx
    simp at hx
    rcases hx with rfl | rfl
    · exact ⟨by decide, by decide, by decide⟩
    · exact ⟨by decide, by decide, by decide⟩, hT⟩
  have e1 : RL T10 F3 = [4, 5] := by
    unfold RL
    rw [all3]
    exact ord_two g1 rfl rfl ⟨rfl, rfl⟩ ⟨rfl, rfl⟩ (by omega)
  have e2 : OL T10 F3 4 = [3] := ord_one g2 rfl rfl rfl (by omega)
  have e3 : OL T10 F3 5 = [2, 1] := by
    have k1 := ord_two g3 rfl rfl ⟨rfl, rfl⟩ ⟨rfl, rfl⟩ (by omega : (0 : Int) ≤ 0 ∧ (0 : Int) < 3 ∧ (3 : Int) ≤ 1000)
    have g4 : Good T10 [((1 : Int), (⟨1, (3, 0, 0, 0), true⟩ : Cl)), (2, ⟨1, (0, 0, 0, 0), true⟩)] := ⟨by simp, by
      intro x hx
      simp at hx
      rcases hx with rfl | rfl
      · exact ⟨by decide, by decide, by decide⟩
      · exact ⟨by decide, by decide, by decide⟩, hT⟩
    have : ordL T10 [((1 : Int), (⟨1, (3, 0, 0, 0), true⟩ : Cl)), (2, ⟨1, (0, 0, 0, 0), true⟩)] = ordL T10 [((2 : Int), (⟨1, (0, 0, 0, 0), true⟩ : Cl)), (1, ⟨1, (3, 0, 0, 0), true⟩)] := by
      unfold ordL
      congr 1
      funext l
      unfold IsOrd
      have : ∀ y, (∃ x ∈ [((1 : Int), (⟨1, (3, 0, 0, 0), true⟩ : Cl)), (2, ⟨1, (0, 0, 0, 0), true⟩)], x.2.aw = true ∧ y = plc T10 x) ↔ (∃ x ∈ [((2 : Int), (⟨1, (0, 0, 0, 0), true⟩ : Cl)), (1, ⟨1, (3, 0, 0, 0), true⟩)], x.2.aw = true ∧ y = plc T10 x) := fun y => by
        constructor
        · rintro ⟨x, hx, r⟩
          exact ⟨x, by simp at hx ⊢; exact hx.symm, r⟩
        · rintro ⟨x, hx, r⟩
          exact ⟨x, by simp at hx ⊢; exact hx.symm, r⟩
      simp only [this]
    unfold OL
    show (ordL T10 [((1 : Int), (⟨1, (3, 0, 0, 0), true⟩ : Cl)), (2, ⟨1, (0, 0, 0, 0), true⟩)]).map Pl.d = _
    rw [this]
    exact k1
  unfold walkL
  rw [e1]
  simp [e2, e3]
end Go.Vc.SZ

/- Tiers: works. -/
set_option maxRecDepth 20000
set_option maxHeartbeats 2000000
set_option linter.unusedVariables false
namespace Go.Vc.SZ
open Go Go.Vc Go.RowKit Go.Proofs Go.Vc.T Vcz

variable {w W W' W1 : World} {M N B : Nat → Prop} {gs ds : List Nat} {g : Nat} {T n : Ar4} {m F : List Fr} {f : Fr} {h : Fr → Fr} {id r : Int} {a : Option Addr} {ln lc : Nat}

theorem c9 (w : World) : RetW 9 #[] w (.bool true) := by
  intro R h
  refine f9_calls w R ?_
  unfold f9_vc
  refine at_callq (at_zro w noB) (c4 w) fun v w2 hA _ _ ⟨g, hv, hX⟩ => ?_
  subst hv
  have hX : TiO (zro w) w2 g (0, 0, 0, 0) [] := hX.mono fun b hl hb => ⟨hb, hl⟩
  have hs : sm4 T10 := by decide
  refine ⟨_, rfl, at_callF hA (c18x hX (by decide) T10) (fun b _ hb => .inl hb.1) (by simp) fun v w5 hA5 _ _ hq => ?_⟩
  rw [if_pos hs] at hq
  obtain ⟨hv, hX⟩ := hq
  subst hv
  have hX : TiO (zro w) w5 g T10 [] := TiO.of hX hA.chg.size
  refine ⟨_, rfl, brE (fun _ => ?_) fun e => absurd rfl e⟩
  refine at_tt hA5 (by simp) (c19x hX (by decide) 1 5 1) fun w8 hA8 hX => ⟨_, rfl, brE (fun _ => ?_) fun e => absurd (by decide) e⟩
  have hX : TiO (zro w) w8 g T10 [⟨1, 5, 1, (0, 0, 0, 0), true⟩] := hX
  refine at_tt hA8 (by simp) (c19x hX (by simp) 2 5 1) fun w11 hA11 hX => ⟨_, rfl, brE (fun _ => ?_) fun e => absurd (by decide) e⟩
  have hX : TiO (zro w) w11 g T10 [⟨1, 5, 1, (0, 0, 0, 0), true⟩, ⟨2, 5, 1, (0, 0, 0, 0), true⟩] := hX
  refine at_tt hA11 (by simp) (c19x hX (by simp) 3 4 1) fun w14 hA14 hX => ⟨_, rfl, brE (fun _ => ?_) fun e => absurd (by decide) e⟩
  have hX : TiO (zro w) w14 g T10 [⟨1, 5, 1, (0, 0, 0, 0), true⟩, ⟨2, 5, 1, (0, 0, 0, 0), true⟩, ⟨3, 4, 1, (0, 0, 0, 0), true⟩] := hX
  refine at_tt hA14 (by simp) (c22x hX 1 (by simp) (3, 0, 0, 0)) fun w17 hA17 hX => ⟨_, rfl, brE (fun _ => ?_) fun e => absurd (by decide) e⟩
  have hX : TiO (zro w) w17 g T10 [⟨1, 5, 1, (3, 0, 0, 0), true⟩, ⟨2, 5, 1, (0, 0, 0, 0), true⟩, ⟨3, 4, 1, (0, 0, 0, 0), true⟩] := hX
  refine at_tt hA17 (by simp) (c22x hX 3 (by simp) (2, 0, 0, 0)) fun w20 hA20 hX => ⟨_, rfl, ?_⟩
  have hX : TiO (zro w) w20 g T10 F3 := hX
  refine opw_litL (t := 66) (e' := 2) (size := 1) (f := i1E) (l := [(1 : Int), 2]) hA20 rfl (fun _ _ => rfl) (by decide) (by kernel_rfl) fun q w23 hq hA23 _ hb23 ho => ⟨_, _, _, rfl, ?_⟩
  have hX := TiO.call hX hb23
  have s23 := ho.sl fun _ _ => rfl
  refine at_callW hA23 (fun R h => c27x hX (by simp) s23 (by decide) R h) fun w28 hA28 _ hb28 => ?_
  rw [walk3]
  refine ⟨_, _, rfl, ?_⟩
  have hX := TiO.bel hX hb28
  refine opw_litL (t := 66) (e' := 2) (size := 1) (f := i1E) (l := [(1 : Int), 3]) hA28 rfl (fun _ _ => rfl) (by decide) (by kernel_rfl) fun q2 w32 hq2 hA32 _ hb32 ho2 => ⟨_, _, _, rfl, ?_⟩
  have hX := TiO.call hX hb32
  have s32 := ho2.sl fun _ _ => rfl
  refine at_callW hA32 (fun R h => c27x hX (by simp) s32 (by decide) R h) fun w37 hA37 _ hb37 => ?_
  rw [walk3]
  refine ⟨_, _, rfl, ?_⟩
  have hX := TiO.bel hX hb37
  have hc34 := c28x hX 5
  rw [show mget 5 (allL F3) = some ⟨1, (3, 0, 0, 0), true⟩ from rfl, shaV, dom10 3 (by omega)] at hc34
  refine at_callb hA37 hc34 fun w41 hA41 _ hb41 => ⟨_, _, _, _, rfl, fun n46 h46 => ?_⟩
  have hX := TiO.call hX hb41
  refine brE (fun _ => brE (fun _ => brB (fun _ => brE (fun _ => brB (fun _ => brB (fun _ => ⟨fun _ w47 he hu => ?_, fun e => by simp at e⟩) fun e => by cases e) fun e => by cases e) fun e => absurd (by decide) e) fun e => by cases e) fun e => absurd (by decide) e) fun e => absurd (by decide) e
  have hA47 := hA41.evo (gs' := [n46]) (by simp; exact Nat.le_trans hA41.chg.size h46) he hu
  have hX : TiX w47 (fun b => (zro w).heap.size ≤ b ∧ b < w41.heap.size) g T10 F3 := TiX.evo hX he (fun d hd hb => by simp at hd; omega)
  refine at_callF hA47 (c19x hX (by simp) 4 5 2) (fun b _ hb => .inl hb.1) (fun x hx hb => by simp at hx; omega) fun v w49 hA49 hk _ hq => ?_
  obtain ⟨hv, _⟩ := hq
  subst hv
  exact ⟨_, rfl, hk, leafW h hA49 rfl⟩
end Go.Vc.SZ

/- Law 6: tiers tell what was put in, given and taken. -/
set_option maxRecDepth 20000
set_option maxHeartbeats 4000000
set_option linter.unusedVariables false
namespace Go.Vc.SZ
open Go Go.Vc Go.RowKit Go.Proofs Go.Vc.T Vcz

variable {w W W' W1 : World} {M N B : Nat → Prop} {gs ds : List Nat} {g : Nat} {T n : Ar4} {m F : List Fr} {f : Fr} {h : Fr → Fr} {id r : Int} {a : Option Addr} {ln lc : Nat}

/-- What holds between acts. -/
structure PlT (w W : World) (g n4 : Nat) (T : Ar4) (F : List Fr) (s : Value) (B : Nat → Prop) : Prop where
  so : TiX W B g T F
  low : ∀ b, B b → w.heap.size ≤ b ∧ b < W.heap.size
  nB : ¬ B n4
  row : OwnL w [n4] W 49 8 frE s F
  ap : ∀ k, s.ownBlock = some k → ¬ B k
theorem OwnL.gsT {α : Type} {gs gs' : List Nat} {e : TypeId} {size : Nat} {f : α → List Value} {v : Value} {l : List α} (h : OwnL w gs W e size f v l) (hg : ∀ x ∈ gs', v.ownBlock ≠ some x) : OwnL w gs' W e size f v l := OwnF.base h (fun k hk => h.mine k hk) hg
abbrev taE (a : TA) : List Value := [.int .i64 a.1, .int .i64 a.2.1, .int .i64 a.2.2.1, .int .i64 a.2.2.2.1, .int .i64 a.2.2.2.2.1, .int .i64 a.2.2.2.2.2.1, .int .i64 a.2.2.2.2.2.2.1, .int .i64 a.2.2.2.2.2.2.2]
theorem all_getR (hF : FOk F) (r : Int) : mget r (allL F) = if isR F r = true then some (rcl F r) else none := by
  rw [all_get]
  by_cases h : isR F r = true
  · obtain ⟨f, hf, rfl⟩ := isR_iff.1 h
    rw [if_pos ⟨(hF.ok f hf).1, h⟩, if_pos h]
  · rw [if_neg (fun hh => h hh.2), if_neg h]
theorem wF_none (h : ¬ isR F r = true) : wF F r = 0 := by
  unfold wF
  rw [List.find?_eq_none.2 (fun f hf => by
    intro hh
    exact h (isR_iff.2 ⟨f, hf, by simpa using hh⟩))]
  rfl
theorem atF_none (h : fget F id = none) : atF id F = -1 := by
  unfold atF atI
  cases hx : midx id (mF F) with
  | none => rfl
  | some i =>
    obtain ⟨f, _, _, hg⟩ := fidx_some hx
    rw [h] at hg
    cases hg
theorem atF_some (h : fget F id = some f) : ∃ i : Nat, atF id F = i ∧ F[i]? = some f := by
  unfold atF atI
  cases hx : midx id (mF F) with
  | none => rw [fidx_none hx] at h; cases h
  | some i =>
    obtain ⟨f', h1, _, hg⟩ := fidx_some hx
    rw [h] at hg
    cases hg
    exact ⟨i, rfl, h1⟩
theorem doT_len' (s : TS) (a : TA) : (doT s a).1.2.length ≤ s.2.length + 1 := doT_len s a
/-- One act, by both. -/
theorem act_row {s : Value} {x : TA} {n4 : Nat} {v : Value} {w26 w28 : World} (hA26 : At w [n4] w26) (hlow : ∀ b, B b → w.heap.size ≤ b ∧ b < w26.heap.size) (hn4 : n4 < w26.heap.size) (hrow : OwnL w [n4] w26 49 8 frE s F) (hap : ∀ k, s.ownBlock = some k → ¬ B k) (hb28 : Bel w26 w28) (hq : StepN w26 s F (doT (T, F) x) v w28) :
    ∃ a' c' , v = .tuple #[mV (doT (T, F) x).1.1 (.slice a' (doT (T, F) x).1.2.length c'), .int .i64 (doT (T, F) x).2] ∧ OwnL w [] w28 49 8 frE (.slice a' (doT (T, F) x).1.2.length c') (doT (T, F) x).1.2 ∧ ∀ k, (Value.slice a' (doT (T, F) x).1.2.length c').ownBlock = some k → ((¬ B k) ∧ k ≠ n4 ∧ k < w28.heap.size) := by
  obtain ⟨s', hv, hq⟩ := hq
  have hs28 := hb28.size
  have hrow' : OwnL w [] w28 49 8 frE s' (doT (T, F) x).1.2 ∧ ∀ k, s'.ownBlock = some k → ((¬ B k) ∧ k ≠ n4 ∧ k < w28.heap.size) := by
    rcases hq with ⟨e1, e2⟩ | hq
    · rw [e1, e2]
      exact ⟨OwnL.gsT (hrow.call hb28) (by simp), fun k hk => ⟨hap k hk, fun e => hrow.apart n4 (by simp) (e ▸ hk), by have := hrow.lt k hk; omega⟩⟩
    · have ho : OwnL w [] w28 49 8 frE s' (doT (T, F) x).1.2 := OwnF.ret hA26.off hq rfl rfl
      refine ⟨ho, fun k hk => ⟨fun e => ?_, ?_, ho.lt k hk⟩⟩
      · have := (hq.lt k hk).1
        have := hlow k e
        omega
      · have := (hq.lt k hk).1
        omega
  obtain ⟨hrow', hap'⟩ := hrow'
  obtain ⟨a33, c14, e33, _⟩ := hrow'.slice fun _ _ => rfl
  subst e33
  exact ⟨_, _, hv, hrow', hap'⟩
end Go.Vc.SZ

/- The arguments of tiers' laws, read. -/
set_option maxRecDepth 20000
set_option linter.unusedVariables false
namespace Go.Vc.SZ
open Go Go.Vc Go.RowKit
abbrev taG : GT := .st (.pair iG (.pair iG (.pair iG (.pair iG (.pair a4G .unit)))))
def taOf (x : Int × Int × Int × Int × A4A × Unit) : TA := (x.1, x.2.1, x.2.2.1, x.2.2.2.1, a4Of x.2.2.2.2.1)
theorem ta_R {w : World} {x : taG.T} {cs : List Value} (h : taG.R w x cs) : cs = taE (taOf x) := by
  obtain ⟨cc1, cc2, rfl, ⟨rfl, _, _⟩, cc3, cc4, rfl, ⟨rfl, _, _⟩, cc5, cc6, rfl, ⟨rfl, _, _⟩, e5, e6, rfl, ⟨rfl, _, _⟩, cc7, c10, rfl, hm, rfl⟩ := h
  obtain ⟨d1, d2, rfl, ⟨rfl, _, _⟩, d3, d4, rfl, ⟨rfl, _, _⟩, d5, d6, rfl, ⟨rfl, _, _⟩, d7, d8, rfl, ⟨rfl, _, _⟩, rfl⟩ := hm
  rfl
theorem tas_V {w : World} {l : (GT.sl taG).T} {v : Value} (h : GT.V w (.sl taG) l v) : ∃ L a n c, v = .slice a n c ∧ SlE w 8 taE L a n c := by
  obtain ⟨a, n, c, hv, hs⟩ := h
  simp at hv
  exact ⟨_, a, n, c, hv, row_M (k := taOf) hs fun _ _ h => ta_R h⟩
theorem intsT_V {w : World} {l : (GT.sl iG).T} {v : Value} (h : GT.V w (.sl iG) l v) : ∃ L a n c, v = .slice a n c ∧ SlE w 1 i1E L a n c := by
  obtain ⟨a, n, c, hv, hs⟩ := h
  simp at hv
  exact ⟨_, a, n, c, hv, row_M (k := fun x => x) hs fun _ _ ⟨h, _, _⟩ => h⟩
end Go.Vc.SZ

/- Counting who stands ahead gives the order, plainly. -/
set_option maxRecDepth 20000
set_option linter.unusedVariables false
namespace Go.Vc.SZ
open Go Go.Vc Go.Vc.T

variable {T : Ar4} {m : List (Int × Cl)}
noncomputable def ahB (T : Ar4) (y z : Int × Cl) : Bool := z.2.aw && decide (cfP (plc T z) (plc T y) < 0)
noncomputable def cntA (T : Ar4) (m : List (Int × Cl)) (y : Int × Cl) : Nat := m.countP (ahB T y)
noncomputable def pkB (T : Ar4) (m : List (Int × Cl)) (k : Nat) (y : Int × Cl) : Bool := y.2.aw && decide (cntA T m y = k)
noncomputable def rowN (T : Ar4) (m : List (Int × Cl)) (k : Nat) : List Int := (m.filter (pkB T m k)).map (·.1)
noncomputable def ordN (T : Ar4) (m : List (Int × Cl)) : Nat → List Int
  | 0 => []
  | k + 1 => ordN T m k ++ rowN T m k
theorem countP_srt {S : Pl → Prop} (h : Tr.OrdOn S cfP) {o : List Pl} (hS : ∀ y ∈ o, S y) (hs : Tr.Srt cfP o) {j : Nat} (hj : j < o.length) : o.countP (fun p => decide (cfP p o[j] < 0)) = j := by
  have hp := List.pairwise_iff_getElem.1 hs
  have e : o = o.take j ++ o.drop j := (List.take_append_drop j o).symm
  have h1 : (o.take j).countP (fun p => decide (cfP p o[j] < 0)) = (o.take j).length := by
    rw [List.countP_eq_length]
    intro p hm
    obtain ⟨i, hi, rfl⟩ := List.getElem_of_mem hm
    rw [List.length_take] at hi
    rw [List.getElem_take]
    exact decide_eq_true (hp i j (by omega) hj (by omega))
  have h2 : (o.drop j).countP (fun p => decide (cfP p o[j] < 0)) = 0 := by
    rw [List.countP_eq_zero]
    intro p hm
    obtain ⟨i, hi, rfl⟩ := List.getElem_of_mem hm
    rw [List.length_drop] at hi
    rw [List.getElem_drop]
    have hSj := hS _ (List.getElem_mem hj)
    have hSi := hS _ (List.getElem_mem (show j + i < o.length by omega))
    simp only [decide_eq_true_eq]
    intro hlt
    by_cases h0 : i = 0
    · subst h0
      exact h.irrefl _ hSj hlt
    · have := hp j (j + i) hj (by omega) (by omega)
      exact h.irrefl _ hSj (h.trans _ _ _ hSj hSi hSj this hlt)
  have h3 := congrArg (List.countP (fun p => decide (cfP p o[j] < 0))) e
  rw [List.countP_append, h1, h2, List.length_take] at h3
  omega
theorem list_one {α : Type} {l : List α} {v : α} (hn : l.Nodup) (ha : ∀ y ∈ l, y = v) (hm : v ∈ l) : l = [v] := by
  cases l with
  | nil => cases hm
  | cons a l =>
    have e := ha a (by simp)
    subst e
    cases l with
    | nil => rfl
    | cons b l =>
      have e := ha b (by simp)
      subst e
      simp at hn
theorem plc_inj (hg : Good T m) {x y : Int × Cl} (hx : x ∈ m) (hy : y ∈ m) (e : plc T x = plc T y) : x = y := nd_eq hg.nd hx hy (congrArg Pl.d e)
theorem nodup_m (hg : Good T m) : m.Nodup := List.Pairwise.of_map (·.1) (fun _ _ h e => h (congrArg _ e)) hg.nd
theorem cnt_at (hg : Good T m) {o : List Pl} (ho : IsOrd T m o) {y : Int × Cl} (hy : y ∈ m) {j : Nat} (hj : j < o.length) (e : plc T y = o[j]) : cntA T m y = j := by
  have hS : ∀ p ∈ o, SP T m p := fun p hp => by
    obtain ⟨x, hx, _, e⟩ := (ho.2 p).1 hp
    exact ⟨x, hx, e⟩
  have hA : ((m.filter (·.2.aw)).map (plc T)).Perm o := by
    refine (List.perm_ext_iff_of_nodup ?_ (srt_nodup hg.ps.ord hS ho.1)).2 fun p => ?_
    · refine List.Pairwise.map _ (R := fun a b => a ∈ m ∧ b ∈ m ∧ a ≠ b) (fun a b h e => h.2.2 (plc_inj hg h.1 h.2.1 e)) ?_
      have hn := (nodup_m hg).filter (·.2.aw)
      exact List.Pairwise.imp_of_mem (fun ha hb h => ⟨(List.mem_filter.1 ha).1, (List.mem_filter.1 hb).1, h⟩) hn
    · rw [ho.2, List.mem_map]
      constructor
      · rintro ⟨x, hx, rfl⟩
        exact ⟨x, (List.mem_filter.1 hx).1, (List.mem_filter.1 hx).2, rfl⟩
      · rintro ⟨x, hx, ha, rfl⟩
        exact ⟨x, List.mem_filter.2 ⟨hx, ha⟩, rfl⟩
  have h1 := hA.countP_eq (fun p => decide (cfP p o[j] < 0))
  rw [countP_srt hg.ps.ord hS ho.1 hj, List.countP_map, List.countP_filter] at h1
  rw [← h1]
  unfold cntA ahB
  congr 1
  funext z
  simp only [Function.comp, e]
  rw [Bool.and_comm]
theorem rowN_at (hg : Good T m) {o : List Pl} (ho : IsOrd T m o) (k : Nat) : rowN T m k = if h : k < o.length then [o[k].d] else [] := by
  have key : ∀ y ∈ m.filter (pkB T m k), ∃ h : k < o.length, plc T y = o[k] := fun y hy => by
    obtain ⟨hm, hp⟩ := List.mem_filter.1 hy
    unfold pkB at hp
    simp only [Bool.and_eq_true, decide_eq_true_eq] at hp
    obtain ⟨j, hj, e⟩ := List.getElem_of_mem ((ho.2 (plc T y)).2 ⟨y, hm, hp.1, rfl⟩)
    have := cnt_at hg ho hm hj e.symm
    have hjk : j = k := by omega
    subst hjk
    exact ⟨hj, e.symm⟩
  unfold rowN
  split
  · rename_i hk
    obtain ⟨x, hx, ha, e⟩ := (ho.2 o[k]).1 (List.getElem_mem hk)
    have hxm : x ∈ m.filter (pkB T m k) := List.mem_filter.2 ⟨hx, by
      unfold pkB
      simp only [Bool.and_eq_true, decide_eq_true_eq]
      exact ⟨ha, cnt_at hg ho hx hk e.symm⟩⟩
    have e1 : m.filter (pkB T m k) = [x] := list_one ((nodup_m hg).filter _) (fun y hy => by
      obtain ⟨_, e2⟩ := key y hy
      exact plc_inj hg (List.mem_filter.1 hy).1 hx (e2.trans e)) hxm
    rw [e1, e]
    rfl
  · rename_i hk
    cases h : m.filter (pkB T m k) with
    | nil => rfl
    | cons y l =>
      obtain ⟨hk', _⟩ := key y (by rw [h]; simp)
      exact absurd hk' hk
theorem ordN_take (hg : Good T m) {o : List Pl} (ho : IsOrd T m o) : ∀ k, ordN T m k = (o.take k).map Pl.d
  | 0 => rfl
  | k + 1 => by
    rw [ordN, ordN_take hg ho k, rowN_at hg ho k, List.take_add_one]
    split
    · rename_i hk
      rw [List.getElem?_eq_getElem hk, Option.toList_some, List.map_append]; rfl
    · rename_i hk
      rw [List.getElem?_eq_none (by omega)]
      simp
theorem ordN_all (hg : Good T m) (ho : IsOrd T m (ordL T m)) (hl : (ordL T m).length ≤ m.length) : ordN T m m.length = (ordL T m).map Pl.d := by
  rw [ordN_take hg ho, List.take_of_length_le hl]
end Go.Vc.SZ

/- The document's order. -/
set_option maxRecDepth 20000
set_option linter.unusedVariables false
set_option maxHeartbeats 1000000
namespace Go.Vc.SZ
open Go Go.Vc Go.RowKit Go.Proofs Go.Vc.T Vcz

variable {w W W' W1 : World} {M N : Nat → Prop} {gs ds : List Nat} {T n : Ar4} {m m0 m1 : List (Int × Cl)} {id : Int} {c : Cl} {a : Option Addr} {ln lc : Nat}

theorem c46 (w : World) (T : Ar4) (hs : SlE w 7 rcE m a ln lc) (hl : m.length < 100000) : RetL Tryz.prog 46 #[mV T (.slice a ln lc)] w 2 1 i1E (ordN T m m.length) := by
  intro R h
  refine f46_calls _ _ _ _ _ _ _ w R ?_
  unfold f46_vc
  have hln := hs.1
  refine go_n (At.refl w) fun n1 h1 => ?_
  refine ⟨fun s W => At w [n1] W ∧ ∃ K : Nat, s.2.1 = K ∧ K ≤ ln ∧ OwnL w [n1] W 2 1 i1E (.slice s.1.1 s.1.2.1 s.1.2.2) (ordN T m K) ∧ s.1.2.1 = (ordN T m K).length ∧ (ordN T m K).length ≤ K * 100000, fun s _ => ln - s.2.1.toNat, go_below (At.refl w) fun w4 hA => ⟨hA, 0, rfl, Nat.zero_le _, OwnF.nil, rfl, Nat.le_refl _⟩, ?_⟩
  rintro a5 n6 n7 x8 w9 ⟨hA, K, hK, hKl, ho, hn, hb⟩
  simp only at hK ho hn
  subst hK hn
  refine brD (fun hlt => ?_) fun hge => ?_
  · refine ⟨fun s W => At w [n1] W ∧ ∃ i : Nat, s.2.1 = i ∧ i ≤ ln ∧ OwnL w [n1] W 2 1 i1E (.slice s.1.1 s.1.2.1 s.1.2.2) (ordN T m K ++ ((m.take i).filter (pkB T m K)).map (·.1)) ∧ s.1.2.1 = (ordN T m K ++ ((m.take i).filter (pkB T m K)).map (·.1)).length ∧ (ordN T m K ++ ((m.take i).filter (pkB T m K)).map (·.1)).length ≤ K * 100000 + i, fun s _ => ln - s.2.1.toNat, ⟨hA, 0, rfl, Nat.zero_le _, by simpa using ho, by simp, by simpa using hb⟩, ?_⟩
    rintro a12 n13 n14 x15 w16 ⟨hA, i, hi, hil, ho, hn, hb⟩
    simp only at hi ho hn
    subst hi hn
    refine brD (fun hlt2 => ?_) fun hge2 => ?_
    · have him : i < m.length := by omega
      have hgi := List.getElem?_eq_getElem him
      refine ⟨fun s W => At w [n1] W ∧ ∃ k : Nat, s.2.1 = k ∧ k ≤ ln ∧ s.1 = ((m.take k).countP (ahB T m[i]) : Nat) ∧ (m.take k).countP (ahB T m[i]) ≤ k ∧ OwnL w [n1] W 2 1 i1E (.slice a12 (ordN T m K ++ ((m.take i).filter (pkB T m K)).map (·.1)).length n14) (ordN T m K ++ ((m.take i).filter (pkB T m K)).map (·.1)), fun s _ => ln - s.2.1.toNat, ⟨hA, 0, rfl, Nat.zero_le _, by simp, by simp, ho⟩, ?_⟩
      rintro x19 x20 w21 ⟨hA, k, hk, hkl, hx, hck, ho⟩
      simp only at hk hx
      subst hk hx
      have hslA := hs.call hA.below
      obtain ⟨adi, gi, eli, _⟩ := elt_at (P := Tryz.prog) (k := .i64) (t := 101) hslA hgi (e := 105) (by kernel_rfl) (by kernel_rfl)
      refine brD (fun hlt3 => ?_) fun hge3 => ?_
      · have hkm : k < m.length := by omega
        have hgk := List.getElem?_eq_getElem hkm
        obtain ⟨adk, gk, elk, _⟩ := elt_at (P := Tryz.prog) (k := .i64) (t := 101) hslA hgk (e := 105) (by kernel_rfl) (by kernel_rfl)
        have htk : (m.take (k + 1)).countP (ahB T m[i]) = (m.take k).countP (ahB T m[i]) + (if ahB T m[i] m[k] then 1 else 0) := by
          rw [List.take_add_one, hgk, Option.toList_some, List.countP_append, List.countP_singleton]
        have hw : IntKind.i64.wrap ((k : Int) + 1) = ((k + 1 : Nat) : Int) := by rw [wrap_i64 (by omega) (by omega)]; omega
        have hw2 : IntKind.i64.wrap (((m.take k).countP (ahB T m[i]) : Nat) + (1 : Int)) = (((m.take k).countP (ahB T m[i]) + 1 : Nat) : Int) := by rw [wrap_i64 (by omega) (by omega)]; omega
        rw [hw, hw2]
        have rb : ∀ {W : World}, Elt W adk (rcE m[k]) → Reads Tryz.prog [] (Instr.loadAt 4 (.pointer (some (Addr.mk adk.block (adk.off + 6) none)))) W (.bool m[k].2.aw) := fun el => (el.sub (o := 6) (by decide)).one (by kernel_rfl) no_ds
        refine ⟨adk, gk, _, rb elk, brB (fun hb1 => ?_) fun hb1 => go_below_too hA fun w44 hA hb44 => ?_⟩
        · refine ⟨adk, gk, _, _, _, _, _, _, _, elk.agg 7 (by kernel_rfl) (by kernel_rfl) (by simp) no_ds, adi, gi, _, _, _, _, _, _, _, eli.agg 7 (by kernel_rfl) (by kernel_rfl) (by simp) no_ds, go_below_too hA fun w40 hA hb40 => ?_⟩
          refine at_callb hA (c64 _ T m[k] m[i]) fun w42 hA hk42 hb42 => ⟨_, rfl, hk42, rb ((elk.below hb40).below hb42), ?_⟩
          have ho := (ho.call hb40).call hb42
          have e0 : ahB T m[i] m[k] = decide (cfP (plc T m[k]) (plc T m[i]) < 0) := by unfold ahB; rw [hb1]; rfl
          refine brD (fun hc => ?_) fun hc => ?_
          · rw [e0, if_pos (decide_eq_true hc)] at htk
            exact ⟨⟨hA, k + 1, rfl, by omega, by rw [htk], by omega, ho⟩, by simp only; omega⟩
          · rw [e0, if_neg (by simpa using hc)] at htk
            exact ⟨⟨hA, k + 1, rfl, by omega, by rw [htk]; rfl, by omega, ho⟩, by simp only; omega⟩
        · have e0 : ahB T m[i] m[k] = false := by unfold ahB; rw [hb1]; rfl
          rw [e0] at htk
          exact ⟨⟨hA, k + 1, rfl, by omega, by rw [htk]; simp, by simp at htk; omega, ho.call hb44⟩, by simp only; omega⟩
      · have hkl2 : m.take k = m := List.take_of_length_le (by omega)
        rw [hkl2] at hck ⊢
        have hw : IntKind.i64.wrap ((i : Int) + 1) = ((i + 1 : Nat) : Int) := by rw [wrap_i64 (by omega) (by omega)]; omega
        rw [hw]
        have htk : (m.take (i + 1)).filter (pkB T m K) = (m.take i).filter (pkB T m K) ++ (if pkB T m K m[i] then [m[i]] else []) := by
          rw [List.take_add_one, hgi, Option.toList_some, List.filter_append, List.filter_cons, List.filter_nil]
        have nopick : pkB T m K m[i] = false → ordN T m K ++ ((m.take (i + 1)).filter (pkB T m K)).map (·.1) = ordN T m K ++ ((m.take i).filter (pkB T m K)).map (·.1) := fun e => by rw [htk, e]; simp
        have stay : pkB T m K m[i] = false → ∀ W, At w [n1] W → OwnL w [n1] W 2 1 i1E (.slice a12 (ordN T m K ++ ((m.take i).filter (pkB T m K)).map (·.1)).length n14) (ordN T m K ++ ((m.take i).filter (pkB T m K)).map (·.1)) → At w [n1] W ∧ ∃ j : Nat, ((i + 1 : Nat) : Int) = j ∧ j ≤ ln ∧ OwnL w [n1] W 2 1 i1E (.slice a12 (ordN T m K ++ ((m.take i).filter (pkB T m K)).map (·.1)).length n14) (ordN T m K ++ ((m.take j).filter (pkB T m K)).map (·.1)) ∧ (ordN T m K ++ ((m.take i).filter (pkB T m K)).map (·.1)).length = (ordN T m K ++ ((m.take j).filter (pkB T m K)).map (·.1)).length ∧ (ordN T m K ++ ((m.take j).filter (pkB T m K)).map (·.1)).length ≤ K * 100000 + j := fun e W hA ho => ⟨hA, i + 1, rfl, by omega, by rw [nopick e]; exact ho, by rw [nopick e], by rw [nopick e]; omega⟩
        refine ⟨adi, gi, _, (eli.sub (o := 6) (by decide)).one (by kernel_rfl) no_ds, brB (fun hb1 => ?_) fun hb1 => ?_⟩
        · refine brE (fun he => ?_) fun hne => ?_
          · have hp : pkB T m K m[i] = true := by
              unfold pkB cntA
              rw [hb1]
              simp only [Bool.true_and, decide_eq_true_eq]
              omega
            have e3 : ordN T m K ++ ((m.take i).filter (pkB T m K)).map (·.1) ++ [m[i].1] = ordN T m K ++ ((m.take (i + 1)).filter (pkB T m K)).map (·.1) := by
              rw [htk, hp]; simp
            refine ⟨adi, gi, _, eli.one (by kernel_rfl) no_ds, ?_⟩
            refine opw_push (e' := 2) (bytes := 8) hA ho m[i].1 (by kernel_rfl) (by kernel_rfl) rfl (fun _ _ => rfl) (by simp [Value.oneCell']) (by omega) (by decide) fun a2 cc2 w55 hA ho _ _ => ?_
            have hlen := congrArg List.length e3
            rw [List.length_append, List.length_singleton] at hlen
            rw [e3] at ho ⊢
            exact ⟨⟨hA, i + 1, rfl, by omega, ho, rfl, by omega⟩, by simp only; omega⟩
          · have hp : pkB T m K m[i] = false := by
              unfold pkB cntA
              rw [hb1]
              simp only [Bool.true_and, decide_eq_false_iff_not]
              omega
            exact ⟨stay hp w21 hA ho, by simp only; omega⟩
        · have hp : pkB T m K m[i] = false := by
            unfold pkB
            rw [hb1]; rfl
          exact ⟨stay hp w21 hA ho, by simp only; omega⟩
    · have hw : IntKind.i64.wrap ((K : Int) + 1) = ((K + 1 : Nat) : Int) := by rw [wrap_i64 (by omega) (by omega)]; omega
      rw [hw]
      have hie : m.take i = m := List.take_of_length_le (by omega)
      rw [hie] at ho hb ⊢
      exact ⟨⟨hA, K + 1, rfl, by omega, ho, rfl, by simp only [ordN, rowN] at hb ⊢; omega⟩, by simp only; omega⟩
  · have hKe : K = m.length := by omega
    subst hKe
    exact leafl h hA ho rfl
end Go.Vc.SZ

/- The formulas of functions, printed by a program (VcTool.lean): each is what the generator's formula comes to, by the kernel's reckoning; whoever proves one has the function's contract. -/
set_option maxRecDepth 100000
set_option maxHeartbeats 1000000
set_option linter.unusedVariables false
namespace Vcz
open Go Go.Vc Go.RowKit
/-! (manciple/mancipleref10.M).Walk -/
def h8 : Hints := ⟨[1], [19, 31, 35], [13, 25], [(6, [0, 1, 2, 3, 4, 5, 6]), (10, [0, 1, 2, 3, 4, 5, 6, 7, 8, 9, 10, 11, 12])], [], [(4, ⟨[(3, .sl), (5, .int .i64)], []⟩), (8, ⟨[(3, .sl), (7, .int .i64)], []⟩)], [], [], []⟩
def f8_vc (m_0 : Int) (m_1 : Int) (m_2 : Int) (m_3 : Int) (m_4a : Option Addr) (m_4n : Nat) (m_4c : Nat) (w : World) (R : Ending → World → Prop) : Prop :=
 ∀ (n1 : Nat),
 w.heap.size ≤ n1 →
 ∀ (w2 : World),
 Bel w w2 →
 Under [n1] w2 →
 Calls Proofs.Tryz.prog 25 #[Value.agg #[Value.int IntKind.i64 m_0, Value.int IntKind.i64 m_1, Value.int IntKind.i64 m_2, Value.int IntKind.i64 m_3, Value.slice m_4a m_4n m_4c]] w2 fun (e3 : Ending) (w4 : World) =>
 ∃ (a5 : Option Addr),
 ∃ (n6 : Nat),
 ∃ (n7 : Nat),
 e3 = Ending.returned (Value.slice a5 n6 n7) ∧
 Keeps [n1] w2 w4 ∧
 ∃ (J8 : (Option Addr × Nat × Nat) × Int × Unit → World → Prop),
 ∃ (J9 : (Option Addr × Nat × Nat) × Int × Unit → World → Nat),
 J8 ((none, 0, 0), 0, ()) w4 ∧
 ∀ (a10 : Option Addr) (n11 n12 : Nat) (x13 : Int) (w14 : World),
 J8 ((a10, n11, n12), x13, ()) w14 →
 (decide (x13 < (↑n6 : Int)) = true →
 ∃ (ad15 : Addr),
 Gives Proofs.Tryz.prog (Instr.indexAt 66 (Value.slice a5 n6 n7) (Value.int IntKind.i64 x13)) (Value.pointer (some ad15)) ∧
 ∃ (x16 : Int),
 Reads Proofs.Tryz.prog [] (Instr.loadAt 2 (Value.pointer (some ad15))) w14 (Value.int IntKind.i64 x16) ∧
 ∀ (w17 : World),
 Bel w14 w17 →
 Under [n1] w17 →
 Calls Proofs.Tryz.prog 26
 #[Value.agg #[Value.int IntKind.i64 m_0, Value.int IntKind.i64 m_1, Value.int IntKind.i64 m_2, Value.int IntKind.i64 m_3, Value.slice m_4a m_4n m_4c], Value.int IntKind.i64 x16] w17
 fun (e18 : Ending) (w19 : World) =>
 ∃ (a20 : Option Addr),
 ∃ (n21 : Nat),
 ∃ (n22 : Nat),
 e18 = Ending.returned (Value.slice a20 n21 n22) ∧
 Keeps [n1] w17 w19 ∧
 ∃ (J23 : (Option Addr × Nat × Nat) × Int × Unit → World → Prop),
 ∃ (J24 : (Option Addr × Nat × Nat) × Int × Unit → World → Nat),
 J23 ((a10, n11, n12), 0, ()) w19 ∧
 ∀ (a25 : Option Addr) (n26 n27 : Nat) (x28 : Int) (w29 : World),
 J23 ((a25, n26, n27), x28, ()) w29 →
 (decide (x28 < (↑n21 : Int)) = true →
 ∃ (ad30 : Addr),
 Gives Proofs.Tryz.prog (Instr.indexAt 66 (Value.slice a5 n6 n7) (Value.int IntKind.i64 x13)) (Value.pointer (some ad30)) ∧
 ∃ (x31 : Int),
 Reads Proofs.Tryz.prog [] (Instr.loadAt 2 (Value.pointer (some ad30))) w29 (Value.int IntKind.i64 x31) ∧
 ∃ (ad32 : Addr),
 Gives Proofs.Tryz.prog (Instr.indexAt 66 (Value.slice a20 n21 n22) (Value.int IntKind.i64 x28)) (Value.pointer (some ad32)) ∧
 ∃ (x33 : Int),
 Reads Proofs.Tryz.prog [] (Instr.loadAt 2 (Value.pointer (some ad32))) w29 (Value.int IntKind.i64 x33) ∧
 ∀ (w34 : World),
 Bel w29 w34 →
 Under [n1] w34 →
 OpW Proofs.Tryz.prog (valueS (Instr.buildSlice 35 1 #[(0, Value.agg #[Value.int IntKind.i64 x31, Value.int IntKind.i64 x33])])) w34
 fun (v35 : Value) (w36 : World) =>
 ∃ (a37 : Option Addr),
 ∃ (n38 : Nat),
 ∃ (n39 : Nat),
 v35 = Value.slice a37 n38 n39 ∧
 Keeps [n1] w34 w36 ∧
 Reads Proofs.Tryz.prog [] (Instr.loadAt 2 (Value.pointer (some ad32))) w36 (Value.int IntKind.i64 x33) ∧
 Reads Proofs.Tryz.prog [] (Instr.loadAt 2 (Value.pointer (some ad30))) w36 (Value.int IntKind.i64 x31) ∧
 OpW Proofs.Tryz.prog (builtin Builtin.append #[35, 35] 35 #[false, false] #[Value.slice a25 n26 n27, Value.slice a37 n38 n39])
 w36 fun (v40 : Value) (w41 : World) =>
 ∃ (a42 : Option Addr),
 ∃ (n43 : Nat),
 ∃ (n44 : Nat),
 v40 = Value.slice a42 n43 n44 ∧
 Keeps [n1] w36 w41 ∧
 Reads Proofs.Tryz.prog [] (Instr.loadAt 2 (Value.pointer (some ad32))) w41 (Value.int IntKind.i64 x33) ∧
 Reads Proofs.Tryz.prog [] (Instr.loadAt 2 (Value.pointer (some ad30))) w41 (Value.int IntKind.i64 x31) ∧
 J23 ((a42, n43, n44), IntKind.i64.wrap (x28 + 1), ()) w41 ∧
 J24 ((a42, n43, n44), IntKind.i64.wrap (x28 + 1), ()) w41 < J24 ((a25, n26, n27), x28, ()) w29) ∧
 (decide (x28 < (↑n21 : Int)) = false →
 J8 ((a25, n26, n27), IntKind.i64.wrap (x13 + 1), ()) w29 ∧ J9 ((a25, n26, n27), IntKind.i64.wrap (x13 + 1), ()) w29 < J9 ((a10, n11, n12), x13, ()) w14)) ∧
 (decide (x13 < (↑n6 : Int)) = false → R (Ending.returned (Value.slice a10 n11 n12)) w14)
theorem f8_eq (m_0 : Int) (m_1 : Int) (m_2 : Int) (m_3 : Int) (m_4a : Option Addr) (m_4n : Nat) (m_4c : Nat) (w : World) (R : Ending → World → Prop) : (fnF Go.Proofs.Tryz.prog h8 Go.Proofs.Tryz.f8 [Value.agg #[Value.int IntKind.i64 m_0, Value.int IntKind.i64 m_1, Value.int IntKind.i64 m_2, Value.int IntKind.i64 m_3, Value.slice m_4a m_4n m_4c]] w R).den = f8_vc m_0 m_1 m_2 m_3 m_4a m_4n m_4c w R := by kernel_rfl
theorem f8_calls (m_0 : Int) (m_1 : Int) (m_2 : Int) (m_3 : Int) (m_4a : Option Addr) (m_4n : Nat) (m_4c : Nat) (w : World) (R : Ending → World → Prop) (h : f8_vc m_0 m_1 m_2 m_3 m_4a m_4n m_4c w R) : Calls Go.Proofs.Tryz.prog 8 (List.toArray [Value.agg #[Value.int IntKind.i64 m_0, Value.int IntKind.i64 m_1, Value.int IntKind.i64 m_2, Value.int IntKind.i64 m_3, Value.slice m_4a m_4n m_4c]]) w R :=
 fn_sound (H := h8) (fn := Go.Proofs.Tryz.f8) (by kernel_rfl) (by kernel_rfl) (by kernel_rfl) ((f8_eq m_0 m_1 m_2 m_3 m_4a m_4n m_4c w R).mpr h)

/-! (manciple/mancipleref10.M).Roles -/
def h25 : Hints := ⟨[1, 3, 6], [36, 45], [14, 28, 50, 32, 41], [], [], [(3, ⟨[(4, .int .i64)], [(3, .cons (.int .i64) (.cons (.int .i64) (.cons (.int .i64) (.cons (.int .i64) (.cons (.sl) (.nil))))))]⟩), (8, ⟨[(8, .bool), (9, .int .i64)], []⟩)], [], [], []⟩
def f25_vc (m_0 : Int) (m_1 : Int) (m_2 : Int) (m_3 : Int) (m_4a : Option Addr) (m_4n : Nat) (m_4c : Nat) (w : World) (R : Ending → World → Prop) : Prop :=
 ∀ (n1 : Nat),
 w.heap.size ≤ n1 →
 ∀ (n2 : Nat),
 w.heap.size ≤ n2 →
 ∃ (J3 : Int × Int × Int × Int × Int × (Option Addr × Nat × Nat) × Unit → World → Prop),
 ∃ (J4 : Int × Int × Int × Int × Int × (Option Addr × Nat × Nat) × Unit → World → Nat),
 (∀ (w5 : World), Evo [n2] w w5 → Under [n1, n2] w5 → J3 (1, m_0, m_1, m_2, m_3, (none, 0, 0), ()) w5) ∧
 ∀ (x6 x7 x8 x9 x10 : Int) (a11 : Option Addr) (n12 n13 : Nat) (w14 : World),
 J3 (x6, x7, x8, x9, x10, (a11, n12, n13), ()) w14 →
 (decide (x6 ≤ 32) = true →
 Calls Proofs.Tryz.prog 14 #[Value.agg #[Value.int IntKind.i64 m_0, Value.int IntKind.i64 m_1, Value.int IntKind.i64 m_2, Value.int IntKind.i64 m_3, Value.slice m_4a m_4n m_4c], Value.int IntKind.i64 x6] w14
 fun (e15 : Ending) (w16 : World) =>
 ∃ (x17 : Int),
 ∃ (x18 : Int),
 ∃ (x19 : Int),
 ∃ (x20 : Int),
 ∃ (x21 : Int),
 ∃ (b22 : Bool),
 e15 = Ending.returned (Value.tuple #[Value.int IntKind.i64 x17, Value.agg #[Value.int IntKind.i64 x18, Value.int IntKind.i64 x19, Value.int IntKind.i64 x20, Value.int IntKind.i64 x21], Value.bool b22]) ∧
 Keeps [n1, n2] w14 w16 ∧
 ∀ (n23 : Nat),
 w16.heap.size ≤ n23 →
 ∃ (J24 : Bool × Int × Unit → World → Prop),
 ∃ (J25 : Bool × Int × Unit → World → Nat),
 (∀ (w26 : World), Evo [n23] w16 w26 → Under [n1, n2, n23] w26 → J24 (false, 0, ()) w26) ∧
 ∀ (b27 : Bool) (x28 : Int) (w29 : World),
 J24 (b27, x28, ()) w29 →
 (decide (x28 < (↑m_4n : Int)) = true →
 (b27 = true → J24 (true, IntKind.i64.wrap (x28 + 1), ()) w29 ∧ J25 (true, IntKind.i64.wrap (x28 + 1), ()) w29 < J25 (b27, x28, ()) w29) ∧
 (b27 = false →
 ∃ (ad30 : Addr),
 Gives Proofs.Tryz.prog (Instr.indexAt 26 (Value.slice m_4a m_4n m_4c) (Value.int IntKind.i64 x28)) (Value.pointer (some ad30)) ∧
 ∃ (x31 : Int),
 Reads Proofs.Tryz.prog [] (Instr.loadAt 3 (Value.pointer (some (Addr.mk ad30.block (ad30.off + 2) none)))) w29 (Value.int IntKind.i64 x31) ∧
 ((x31 == x6) = true →
 ∃ (ad32 : Addr),
 Gives Proofs.Tryz.prog (Instr.indexAt 26 (Value.slice m_4a m_4n m_4c) (Value.int IntKind.i64 x28)) (Value.pointer (some ad32)) ∧
 ∃ (b33 : Bool),
 Reads Proofs.Tryz.prog [] (Instr.loadAt 4 (Value.pointer (some (Addr.mk ad32.block (ad32.off + 7) none)))) w29 (Value.bool b33) ∧
 J24 (b33, IntKind.i64.wrap (x28 + 1), ()) w29 ∧ J25 (b33, IntKind.i64.wrap (x28 + 1), ()) w29 < J25 (b27, x28, ()) w29) ∧
 ((x31 == x6) = false → J24 (false, IntKind.i64.wrap (x28 + 1), ()) w29 ∧ J25 (false, IntKind.i64.wrap (x28 + 1), ()) w29 < J25 (b27, x28, ()) w29))) ∧
 (decide (x28 < (↑m_4n : Int)) = false →
 (b22 = true →
 OpW Proofs.Tryz.prog
 (valueS
 (Instr.buildSlice 101 1
 #[(0,
 Value.agg
 #[Value.int IntKind.i64 x6, Value.int IntKind.i64 x17, Value.int IntKind.i64 x18, Value.int IntKind.i64 x19, Value.int IntKind.i64 x20, Value.int IntKind.i64 x21,
 Value.bool b27])]))
 w29 fun (v34 : Value) (w35 : World) =>
 ∃ (a36 : Option Addr),
 ∃ (n37 : Nat),
 ∃ (n38 : Nat),
 v34 = Value.slice a36 n37 n38 ∧
 Keeps [n1, n2, n23] w29 w35 ∧
 OpW Proofs.Tryz.prog (builtin Builtin.append #[101, 101] 101 #[false, false] #[Value.slice a11 n12 n13, Value.slice a36 n37 n38]) w35
 fun (v39 : Value) (w40 : World) =>
 ∃ (a41 : Option Addr),
 ∃ (n42 : Nat),
 ∃ (n43 : Nat),
 v39 = Value.slice a41 n42 n43 ∧
 Keeps [n1, n2, n23] w35 w40 ∧
 ∀ (w44 : World),
 Evo [n2] w40 w44 →
 Under [n1, n2, n23] w44 →
 J3 (IntKind.i64.wrap (x6 + 1), x7, x8, x9, x10, (a41, n42, n43), ()) w44 ∧
 J4 (IntKind.i64.wrap (x6 + 1), x7, x8, x9, x10, (a41, n42, n43), ()) w44 < J4 (x6, x7, x8, x9, x10, (a11, n12, n13), ()) w14) ∧
 (b22 = false →
 J3 (IntKind.i64.wrap (x6 + 1), x7, x8, x9, x10, (a11, n12, n13), ()) w29 ∧
 J4 (IntKind.i64.wrap (x6 + 1), x7, x8, x9, x10, (a11, n12, n13), ()) w29 < J4 (x6, x7, x8, x9, x10, (a11, n12, n13), ()) w14))) ∧
 (decide (x6 ≤ 32) = false →
 Calls Proofs.Tryz.prog 46 #[Value.agg #[Value.int IntKind.i64 x7, Value.int IntKind.i64 x8, Value.int IntKind.i64 x9, Value.int IntKind.i64 x10, Value.slice a11 n12 n13]] w14 fun (e45 : Ending) (w46 : World) =>
 ∃ (a47 : Option Addr), ∃ (n48 : Nat), ∃ (n49 : Nat), e45 = Ending.returned (Value.slice a47 n48 n49) ∧ Keeps [n1, n2] w14 w46 ∧ R (Ending.returned (Value.slice a47 n48 n49)) w46)
theorem f25_eq (m_0 : Int) (m_1 : Int) (m_2 : Int) (m_3 : Int) (m_4a : Option Addr) (m_4n : Nat) (m_4c : Nat) (w : World) (R : Ending → World → Prop) : (fnF Go.Proofs.Tryz.prog h25 Go.Proofs.Tryz.f25 [Value.agg #[Value.int IntKind.i64 m_0, Value.int IntKind.i64 m_1, Value.int IntKind.i64 m_2, Value.int IntKind.i64 m_3, Value.slice m_4a m_4n m_4c]] w R).den = f25_vc m_0 m_1 m_2 m_3 m_4a m_4n m_4c w R := by kernel_rfl
theorem f25_calls (m_0 : Int) (m_1 : Int) (m_2 : Int) (m_3 : Int) (m_4a : Option Addr) (m_4n : Nat) (m_4c : Nat) (w : World) (R : Ending → World → Prop) (h : f25_vc m_0 m_1 m_2 m_3 m_4a m_4n m_4c w R) : Calls Go.Proofs.Tryz.prog 25 (List.toArray [Value.agg #[Value.int IntKind.i64 m_0, Value.int IntKind.i64 m_1, Value.int IntKind.i64 m_2, Value.int IntKind.i64 m_3, Value.slice m_4a m_4n m_4c]]) w R :=
 fn_sound (H := h25) (fn := Go.Proofs.Tryz.f25) (by kernel_rfl) (by kernel_rfl) (by kernel_rfl) ((f25_eq m_0 m_1 m_2 m_3 m_4a m_4n m_4c w R).mpr h)

/-! (manciple/mancipleref10.M).Own -/
def h26 : Hints := ⟨[2, 5, 7], [21], [15, 26], [], [], [(3, ⟨[(6, .int .i64)], [(5, .cons (.int .i64) (.cons (.int .i64) (.cons (.int .i64) (.cons (.int .i64) (.cons (.sl) (.nil))))))]⟩)], [], [], []⟩
def f26_vc (m_0 : Int) (m_1 : Int) (m_2 : Int) (m_3 : Int) (m_4a : Option Addr) (m_4n : Nat) (m_4c : Nat) (role : Int) (w : World) (R : Ending → World → Prop) : Prop :=
 ∀ (n1 : Nat),
 w.heap.size ≤ n1 →
 ∀ (n2 : Nat),
 w.heap.size ≤ n2 →
 ∃ (J3 : Int × Int × Int × Int × Int × (Option Addr × Nat × Nat) × Unit → World → Prop),
 ∃ (J4 : Int × Int × Int × Int × Int × (Option Addr × Nat × Nat) × Unit → World → Nat),
 (∀ (w5 : World), Evo [n2] w w5 → Under [n1, n2] w5 → J3 (0, m_0, m_1, m_2, m_3, (none, 0, 0), ()) w5) ∧
 ∀ (x6 x7 x8 x9 x10 : Int) (a11 : Option Addr) (n12 n13 : Nat) (w14 : World),
 J3 (x6, x7, x8, x9, x10, (a11, n12, n13), ()) w14 →
 (decide (x6 < (↑m_4n : Int)) = true →
 ∃ (ad15 : Addr),
 Gives Proofs.Tryz.prog (Instr.indexAt 26 (Value.slice m_4a m_4n m_4c) (Value.int IntKind.i64 x6)) (Value.pointer (some ad15)) ∧
 ∃ (x16 : Int),
 ∃ (x17 : Int),
 ∃ (x18 : Int),
 ∃ (x19 : Int),
 ∃ (x20 : Int),
 ∃ (x21 : Int),
 ∃ (x22 : Int),
 ∃ (b23 : Bool),
 Reads Proofs.Tryz.prog [] (Instr.loadAt 49 (Value.pointer (some ad15))) w14
 (Value.agg
 #[Value.int IntKind.i64 x16, Value.int IntKind.i64 x17, Value.int IntKind.i64 x18, Value.int IntKind.i64 x19, Value.int IntKind.i64 x20, Value.int IntKind.i64 x21, Value.int IntKind.i64 x22,
 Value.bool b23]) ∧
 ∀ (n24 : Nat),
 w14.heap.size ≤ n24 →
 ((x18 == role) = true →
 ∀ (w25 : World),
 Evo [n24] w14 w25 →
 Under [n1, n2, n24] w25 →
 OpW Proofs.Tryz.prog
 (valueS
 (Instr.buildSlice 101 1
 #[(0,
 Value.agg
 #[Value.int IntKind.i64 x16, Value.int IntKind.i64 1, Value.int IntKind.i64 x19, Value.int IntKind.i64 x20, Value.int IntKind.i64 x21, Value.int IntKind.i64 x22,
 Value.bool b23])]))
 w25 fun (v26 : Value) (w27 : World) =>
 ∃ (a28 : Option Addr),
 ∃ (n29 : Nat),
 ∃ (n30 : Nat),
 v26 = Value.slice a28 n29 n30 ∧
 Keeps [n1, n2, n24] w25 w27 ∧
 OpW Proofs.Tryz.prog (builtin Builtin.append #[101, 101] 101 #[false, false] #[Value.slice a11 n12 n13, Value.slice a28 n29 n30]) w27 fun (v31 : Value) (w32 : World) =>
 ∃ (a33 : Option Addr),
 ∃ (n34 : Nat),
 ∃ (n35 : Nat),
 v31 = Value.slice a33 n34 n35 ∧
 Keeps [n1, n2, n24] w27 w32 ∧
 ∀ (w36 : World),
 Evo [n2] w32 w36 →
 Under [n1, n2, n24] w36 →
 J3 (IntKind.i64.wrap (x6 + 1), x7, x8, x9, x10, (a33, n34, n35), ()) w36 ∧
 J4 (IntKind.i64.wrap (x6 + 1), x7, x8, x9, x10, (a33, n34, n35), ()) w36 < J4 (x6, x7, x8, x9, x10, (a11, n12, n13), ()) w14) ∧
 ((x18 == role) = false →
 ∀ (w37 : World),
 Evo [n24] w14 w37 →
 Under [n1, n2, n24] w37 →
 J3 (IntKind.i64.wrap (x6 + 1), x7, x8, x9, x10, (a11, n12, n13), ()) w37 ∧
 J4 (IntKind.i64.wrap (x6 + 1), x7, x8, x9, x10, (a11, n12, n13), ()) w37 < J4 (x6, x7, x8, x9, x10, (a11, n12, n13), ()) w14)) ∧
 (decide (x6 < (↑m_4n : Int)) = false →
 Calls Proofs.Tryz.prog 46 #[Value.agg #[Value.int IntKind.i64 x7, Value.int IntKind.i64 x8, Value.int IntKind.i64 x9, Value.int IntKind.i64 x10, Value.slice a11 n12 n13]] w14 fun (e38 : Ending) (w39 : World) =>
 ∃ (a40 : Option Addr), ∃ (n41 : Nat), ∃ (n42 : Nat), e38 = Ending.returned (Value.slice a40 n41 n42) ∧ Keeps [n1, n2] w14 w39 ∧ R (Ending.returned (Value.slice a40 n41 n42)) w39)
theorem f26_eq (m_0 : Int) (m_1 : Int) (m_2 : Int) (m_3 : Int) (m_4a : Option Addr) (m_4n : Nat) (m_4c : Nat) (role : Int) (w : World) (R : Ending → World → Prop) : (fnF Go.Proofs.Tryz.prog h26 Go.Proofs.Tryz.f26 [Value.agg #[Value.int IntKind.i64 m_0, Value.int IntKind.i64 m_1, Value.int IntKind.i64 m_2, Value.int IntKind.i64 m_3, Value.slice m_4a m_4n m_4c], Value.int IntKind.i64 role] w R).den = f26_vc m_0 m_1 m_2 m_3 m_4a m_4n m_4c role w R := by kernel_rfl
theorem f26_calls (m_0 : Int) (m_1 : Int) (m_2 : Int) (m_3 : Int) (m_4a : Option Addr) (m_4n : Nat) (m_4c : Nat) (role : Int) (w : World) (R : Ending → World → Prop) (h : f26_vc m_0 m_1 m_2 m_3 m_4a m_4n m_4c role w R) : Calls Go.Proofs.Tryz.prog 26 (List.toArray [Value.agg #[Value.int IntKind.i64 m_0, Value.int IntKind.i64 m_1, Value.int IntKind.i64 m_2, Value.int IntKind.i64 m_3, Value.slice m_4a m_4n m_4c], Value.int IntKind.i64 role]) w R :=
 fn_sound (H := h26) (fn := Go.Proofs.Tryz.f26) (by kernel_rfl) (by kernel_rfl) (by kernel_rfl) ((f26_eq m_0 m_1 m_2 m_3 m_4a m_4n m_4c role w R).mpr h)

/-! manciple/manciplelaw10.TiersPlays -/
def h3 : Hints := ⟨[4, 6], [23, 31], [10, 16, 35, 41], [], [], [(6, ⟨[(5, .int .i64)], [(4, .cons (.int .i64) (.cons (.int .i64) (.cons (.int .i64) (.cons (.int .i64) (.cons (.sl) (.nil))))))]⟩)], [], [], [(8, (.op 0 (.op 1 (.op 2 (.op 3 (.op 4 (.alt (.op 5 (.op 6 (.op 7 (.op 8 (.op 9 (.op 10 (.op 11 .nil))))))) (.op 9 (.op 5 (.op 6 (.op 7 (.op 8 (.op 10 (.op 11 .nil))))))))))))))]⟩
def f3_vc (la : Option Addr) (ln : Nat) (lc : Nat) (w : World) (R : Ending → World → Prop) : Prop :=
 (decide ((↑ln : Int) > 50) = true → R (Ending.returned (Value.bool true)) w) ∧
 (decide ((↑ln : Int) > 50) = false →
 Calls Proofs.Tryz.prog 4 #[] w fun (e1 : Ending) (w2 : World) =>
 ∃ (a3 : Option Addr),
 e1 = Ending.returned (Value.pointer a3) ∧
 ∀ (n4 : Nat),
 w2.heap.size ≤ n4 →
 ∃ (J5 : Int × Int × Int × Int × Int × (Option Addr × Nat × Nat) × Unit → World → Prop),
 ∃ (J6 : Int × Int × Int × Int × Int × (Option Addr × Nat × Nat) × Unit → World → Nat),
 (∀ (w7 : World), Evo [n4] w2 w7 → Under [n4] w7 → J5 (0, 0, 0, 0, 0, (none, 0, 0), ()) w7) ∧
 ∀ (x8 x9 x10 x11 x12 : Int) (a13 : Option Addr) (n14 n15 : Nat) (w16 : World),
 J5 (x8, x9, x10, x11, x12, (a13, n14, n15), ()) w16 →
 (decide (x8 < (↑ln : Int)) = true →
 ∃ (ad17 : Addr),
 Gives Proofs.Tryz.prog (Instr.indexAt 22 (Value.slice la ln lc) (Value.int IntKind.i64 x8)) (Value.pointer (some ad17)) ∧
 ∃ (x18 : Int),
 ∃ (x19 : Int),
 ∃ (x20 : Int),
 ∃ (x21 : Int),
 ∃ (x22 : Int),
 ∃ (x23 : Int),
 ∃ (x24 : Int),
 ∃ (x25 : Int),
 Reads Proofs.Tryz.prog [] (Instr.loadAt 32 (Value.pointer (some ad17))) w16
 (Value.agg
 #[Value.int IntKind.i64 x18, Value.int IntKind.i64 x19, Value.int IntKind.i64 x20, Value.int IntKind.i64 x21, Value.int IntKind.i64 x22, Value.int IntKind.i64 x23,
 Value.int IntKind.i64 x24, Value.int IntKind.i64 x25]) ∧
 (∀ (w26 : World),
 Bel w16 w26 →
 Under [n4] w26 →
 Calls Proofs.Tryz.prog 5
 #[Value.agg #[Value.int IntKind.i64 x9, Value.int IntKind.i64 x10, Value.int IntKind.i64 x11, Value.int IntKind.i64 x12, Value.slice a13 n14 n15],
 Value.agg
 #[Value.int IntKind.i64 x18, Value.int IntKind.i64 x19, Value.int IntKind.i64 x20, Value.int IntKind.i64 x21, Value.int IntKind.i64 x22, Value.int IntKind.i64 x23,
 Value.int IntKind.i64 x24, Value.int IntKind.i64 x25]]
 w26 fun (e27 : Ending) (w28 : World) =>
 ∃ (x29 : Int),
 ∃ (x30 : Int),
 ∃ (x31 : Int),
 ∃ (x32 : Int),
 ∃ (a33 : Option Addr),
 ∃ (n34 : Nat),
 ∃ (n35 : Nat),
 ∃ (x36 : Int),
 e27 =
 Ending.returned
 (Value.tuple
 #[Value.agg #[Value.int IntKind.i64 x29, Value.int IntKind.i64 x30, Value.int IntKind.i64 x31, Value.int IntKind.i64 x32, Value.slice a33 n34 n35],
 Value.int IntKind.i64 x36]) ∧
 Keeps [n4] w26 w28 ∧
 ∀ (n37 : Nat),
 w28.heap.size ≤ n37 →
 ∃ (ad38 : Addr),
 Gives Proofs.Tryz.prog (Instr.indexAt 22 (Value.slice la ln lc) (Value.int IntKind.i64 x8)) (Value.pointer (some ad38)) ∧
 ∃ (x39 : Int),
 ∃ (x40 : Int),
 ∃ (x41 : Int),
 ∃ (x42 : Int),
 ∃ (x43 : Int),
 ∃ (x44 : Int),
 ∃ (x45 : Int),
 ∃ (x46 : Int),
 Reads Proofs.Tryz.prog [n37] (Instr.loadAt 32 (Value.pointer (some ad38))) w28
 (Value.agg
 #[Value.int IntKind.i64 x39, Value.int IntKind.i64 x40, Value.int IntKind.i64 x41, Value.int IntKind.i64 x42,
 Value.int IntKind.i64 x43, Value.int IntKind.i64 x44, Value.int IntKind.i64 x45, Value.int IntKind.i64 x46]) ∧
 ∀ (w47 : World),
 Evo [n37] w28 w47 →
 Under [n4, n37] w47 →
 Calls Proofs.Tryz.prog 6
 #[Value.pointer a3,
 Value.agg
 #[Value.int IntKind.i64 x39, Value.int IntKind.i64 x40, Value.int IntKind.i64 x41, Value.int IntKind.i64 x42,
 Value.int IntKind.i64 x43, Value.int IntKind.i64 x44, Value.int IntKind.i64 x45, Value.int IntKind.i64 x46]]
 w47 fun (e48 : Ending) (w49 : World) =>
 ∃ (x50 : Int),
 e48 = Ending.returned (Value.int IntKind.i64 x50) ∧
 Keeps [n4, n37] w47 w49 ∧
 ((x50 != x36) = true → R (Ending.returned (Value.bool false)) w49) ∧
 ((x50 != x36) = false →
 ∀ (w51 : World),
 Evo [n4] w49 w51 →
 Under [n4, n37] w51 →
 Calls Proofs.Tryz.prog 8
 #[Value.agg
 #[Value.int IntKind.i64 x29, Value.int IntKind.i64 x30, Value.int IntKind.i64 x31,
 Value.int IntKind.i64 x32, Value.slice a33 n34 n35]]
 w51 fun (e52 : Ending) (w53 : World) =>
 ∃ (a54 : Option Addr),
 ∃ (n55 : Nat),
 ∃ (n56 : Nat),
 e52 = Ending.returned (Value.slice a54 n55 n56) ∧
 Keeps [n4, n37] w51 w53 ∧
 Calls Proofs.Tryz.prog 7 #[Value.pointer a3, Value.slice a54 n55 n56] w53
 fun (e57 : Ending) (w58 : World) =>
 ∃ (b59 : Bool),
 e57 = Ending.returned (Value.bool b59) ∧
 Keeps [n4, n37] w53 w58 ∧
 ((!b59) = true → R (Ending.returned (Value.bool false)) w58) ∧
 ((!b59) = false →
 J5 (IntKind.i64.wrap (x8 + 1), x29, x30, x31, x32, (a33, n34, n35), ()) w58 ∧
 J6 (IntKind.i64.wrap (x8 + 1), x29, x30, x31, x32, (a33, n34, n35), ()) w58 <
 J6 (x8, x9, x10, x11, x12, (a13, n14, n15), ()) w16))) ∧
 ∀ (n60 : Nat),
 w16.heap.size ≤ n60 →
 Reads Proofs.Tryz.prog [] (Instr.loadAt 32 (Value.pointer (some ad17))) w16
 (Value.agg
 #[Value.int IntKind.i64 x18, Value.int IntKind.i64 x19, Value.int IntKind.i64 x20, Value.int IntKind.i64 x21, Value.int IntKind.i64 x22, Value.int IntKind.i64 x23,
 Value.int IntKind.i64 x24, Value.int IntKind.i64 x25]) ∧
 ∀ (w61 : World),
 Bel w16 w61 →
 Under [n4, n60] w61 →
 Calls Proofs.Tryz.prog 5
 #[Value.agg #[Value.int IntKind.i64 x9, Value.int IntKind.i64 x10, Value.int IntKind.i64 x11, Value.int IntKind.i64 x12, Value.slice a13 n14 n15],
 Value.agg
 #[Value.int IntKind.i64 x18, Value.int IntKind.i64 x19, Value.int IntKind.i64 x20, Value.int IntKind.i64 x21, Value.int IntKind.i64 x22, Value.int IntKind.i64 x23,
 Value.int IntKind.i64 x24, Value.int IntKind.i64 x25]]
 w61 fun (e62 : Ending) (w63 : World) =>
 ∃ (x64 : Int),
 ∃ (x65 : Int),
 ∃ (x66 : Int),
 ∃ (x67 : Int),
 ∃ (a68 : Option Addr),
 ∃ (n69 : Nat),
 ∃ (n70 : Nat),
 ∃ (x71 : Int),
 e62 =
 Ending.returned
 (Value.tuple
 #[Value.agg #[Value.int IntKind.i64 x64, Value.int IntKind.i64 x65, Value.int IntKind.i64 x66, Value.int IntKind.i64 x67, Value.slice a68 n69 n70],
 Value.int IntKind.i64 x71]) ∧
 Keeps [n4, n60] w61 w63 ∧
 ∃ (ad72 : Addr),
 Gives Proofs.Tryz.prog (Instr.indexAt 22 (Value.slice la ln lc) (Value.int IntKind.i64 x8)) (Value.pointer (some ad72)) ∧
 ∃ (x73 : Int),
 ∃ (x74 : Int),
 ∃ (x75 : Int),
 ∃ (x76 : Int),
 ∃ (x77 : Int),
 ∃ (x78 : Int),
 ∃ (x79 : Int),
 ∃ (x80 : Int),
 Reads Proofs.Tryz.prog [n60] (Instr.loadAt 32 (Value.pointer (some ad72))) w63
 (Value.agg
 #[Value.int IntKind.i64 x73, Value.int IntKind.i64 x74, Value.int IntKind.i64 x75, Value.int IntKind.i64 x76,
 Value.int IntKind.i64 x77, Value.int IntKind.i64 x78, Value.int IntKind.i64 x79, Value.int IntKind.i64 x80]) ∧
 ∀ (w81 : World),
 Evo [n60] w63 w81 →
 Under [n4, n60] w81 →
 Calls Proofs.Tryz.prog 6
 #[Value.pointer a3,
 Value.agg
 #[Value.int IntKind.i64 x73, Value.int IntKind.i64 x74, Value.int IntKind.i64 x75, Value.int IntKind.i64 x76,
 Value.int IntKind.i64 x77, Value.int IntKind.i64 x78, Value.int IntKind.i64 x79, Value.int IntKind.i64 x80]]
 w81 fun (e82 : Ending) (w83 : World) =>
 ∃ (x84 : Int),
 e82 = Ending.returned (Value.int IntKind.i64 x84) ∧
 Keeps [n4, n60] w81 w83 ∧
 ((x84 != x71) = true → R (Ending.returned (Value.bool false)) w83) ∧
 ((x84 != x71) = false →
 ∀ (w85 : World),
 Evo [n4] w83 w85 →
 Under [n4, n60] w85 →
 Calls Proofs.Tryz.prog 8
 #[Value.agg
 #[Value.int IntKind.i64 x64, Value.int IntKind.i64 x65, Value.int IntKind.i64 x66,
 Value.int IntKind.i64 x67, Value.slice a68 n69 n70]]
 w85 fun (e86 : Ending) (w87 : World) =>
 ∃ (a88 : Option Addr),
 ∃ (n89 : Nat),
 ∃ (n90 : Nat),
 e86 = Ending.returned (Value.slice a88 n89 n90) ∧
 Keeps [n4, n60] w85 w87 ∧
 Calls Proofs.Tryz.prog 7 #[Value.pointer a3, Value.slice a88 n89 n90] w87
 fun (e91 : Ending) (w92 : World) =>
 ∃ (b93 : Bool),
 e91 = Ending.returned (Value.bool b93) ∧
 Keeps [n4, n60] w87 w92 ∧
 ((!b93) = true → R (Ending.returned (Value.bool false)) w92) ∧
 ((!b93) = false →
 J5 (IntKind.i64.wrap (x8 + 1), x64, x65, x66, x67, (a68, n69, n70), ()) w92 ∧
 J6 (IntKind.i64.wrap (x8 + 1), x64, x65, x66, x67, (a68, n69, n70), ()) w92 <
 J6 (x8, x9, x10, x11, x12, (a13, n14, n15), ()) w16))) ∧
 (decide (x8 < (↑ln : Int)) = false →
 Calls Proofs.Tryz.prog 9 #[] w16 fun (e94 : Ending) (w95 : World) => ∃ (b96 : Bool), e94 = Ending.returned (Value.bool b96) ∧ Keeps [n4] w16 w95 ∧ R (Ending.returned (Value.bool b96)) w95))
theorem f3_eq (la : Option Addr) (ln : Nat) (lc : Nat) (w : World) (R : Ending → World → Prop) : (fnF Go.Proofs.Tryz.prog h3 Go.Proofs.Tryz.f3 [Value.slice la ln lc] w R).den = f3_vc la ln lc w R := by kernel_rfl
theorem f3_calls (la : Option Addr) (ln : Nat) (lc : Nat) (w : World) (R : Ending → World → Prop) (h : f3_vc la ln lc w R) : Calls Go.Proofs.Tryz.prog 3 (List.toArray [Value.slice la ln lc]) w R :=
 fn_sound (H := h3) (fn := Go.Proofs.Tryz.f3) (by kernel_rfl) (by kernel_rfl) (by kernel_rfl) ((f3_eq la ln lc w R).mpr h)

end Vcz

/- The document's tiers: Own, Roles, Walk. -/
set_option maxRecDepth 20000
set_option maxHeartbeats 2000000
set_option linter.unusedVariables false
namespace Go.Vc.SZ
open Go Go.Vc Go.RowKit Go.Proofs Go.Vc.T Vcz

variable {w W W' W1 : World} {M N B : Nat → Prop} {gs ds : List Nat} {g : Nat} {T n : Ar4} {m F : List Fr} {f : Fr} {h : Fr → Fr} {id r : Int} {a : Option Addr} {ln lc : Nat} {ad : Addr} {cs : List Value}

theorem cnt_pos : 0 < cntF F r ↔ ∃ f ∈ F, f.role = r ∧ f.aw = true := by
  unfold cntF
  induction F with
  | nil => simp [agF]
  | cons x F ih =>
    have hn : 0 ≤ agF one1 r F := (cnt_range r F).1
    rw [agF]
    constructor
    · intro h
      by_cases e : x.role = r ∧ x.aw = true
      · exact ⟨x, by simp, e⟩
      · have : 0 < agF one1 r F := by
          unfold one1 at h
          unfold one1
          by_cases e1 : x.role = r
          · have e2 : x.aw = false := by
              cases hx : x.aw with
              | false => rfl
              | true => exact absurd ⟨e1, hx⟩ e
            rw [if_pos e1, e2] at h
            simpa using h
          · rw [if_neg e1] at h
            simpa using h
        obtain ⟨f, hf, h2⟩ := ih.1 this
        exact ⟨f, by simp [hf], h2⟩
    · rintro ⟨f, hf, h1, h2⟩
      rcases List.mem_cons.1 hf with rfl | hf
      · rw [if_pos h1]
        unfold one1 at *
        rw [h2]
        simp
        omega
      · have := ih.2 ⟨f, hf, h1, h2⟩
        split
        · unfold one1 at *
          split <;> omega
        · omega
/-- Two orders, as the sorters have them. -/
structure OrdG (T : Ar4) (F : List Fr) : Prop where
  ok : FOk F
  all : Good T (allL F) ∧ IsOrd T (allL F) (ordL T (allL F)) ∧ (ordL T (allL F)).length ≤ (allL F).length
  own : ∀ r, isR F r = true → Good T (ownL F r) ∧ IsOrd T (ownL F r) (ordL T (ownL F r)) ∧ (ordL T (ownL F r)).length ≤ (ownL F r).length
theorem TiX.ordG (h : TiX W B g T F) : OrdG T F := by
  obtain ⟨B', p, mr, mf, hsub, hT, hr, hm⟩ := h.ex
  refine ⟨h.ok, ⟨hT.all.good, hT.all.is⟩, fun r hr' => ?_⟩
  obtain ⟨f, hf, rfl⟩ := isR_iff.1 hr'
  obtain ⟨gr, hy⟩ := hr.of hf
  exact ⟨(hT.own _ _ hy).good, (hT.own _ _ hy).is⟩
theorem own_take {i : Nat} (h : F[i]? = some f) : ownL (F.take (i + 1)) r = ownL (F.take i) r ++ (if f.role = r then [(f.fid, clF f)] else []) := by
  unfold ownL
  rw [List.take_add_one, h, Option.toList_some, List.filter_append, List.map_append]
  congr 1
  by_cases e : f.role = r
  · simp [e]
  · simp [e]
theorem c26 (w : World) (hG : OrdG T F) (hs : SlE w 8 frE F a ln lc) (hl : F.length ≤ 1000) (hr : isR F r = true) : RetL Tryz.prog 26 #[mV T (.slice a ln lc), .int .i64 r] w 2 1 i1E (OL T F r) := by
  intro R h
  refine f26_calls _ _ _ _ _ _ _ _ w R ?_
  unfold f26_vc
  have hln := hs.1
  refine go_n (At.refl w) fun n1 h1 => go_n (At.refl w) fun n2 h2 => ?_
  refine ⟨fun s W => At w [n1, n2] W ∧ ∃ i : Nat, s.1 = i ∧ i ≤ ln ∧ (s.2.1, s.2.2.1, s.2.2.2.1, s.2.2.2.2.1) = T ∧ OwnL w [n1, n2] W 105 7 rcE (.slice s.2.2.2.2.2.1.1 s.2.2.2.2.2.1.2.1 s.2.2.2.2.2.1.2.2) (ownL (F.take i) r) ∧ s.2.2.2.2.2.1.2.1 = (ownL (F.take i) r).length, fun s _ => ln - s.1.toNat, go_evo (At.refl w) (by simpa using h2) fun w4 hA => ⟨hA, 0, rfl, Nat.zero_le _, rfl, OwnF.nil, rfl⟩, ?_⟩
  rintro x6 x7 x8 x9 x10 a11 n12 n13 w14 ⟨hA, i, hi, hil, hT, ho, hn⟩
  simp only at hi hT ho hn
  subst hi hT hn
  have hw : IntKind.i64.wrap ((i : Int) + 1) = ((i + 1 : Nat) : Int) := by rw [wrap_i64 (by omega) (by omega)]; omega
  refine brD (fun hlt => ?_) fun hge => ?_
  · have him : i < F.length := by omega
    obtain ⟨f, hf⟩ : ∃ f, F[i]? = some f := ⟨_, List.getElem?_eq_getElem him⟩
    have tk := own_take (r := r) hf
    have hol := own_len (F.take i) r
    rw [List.length_take] at hol
    obtain ⟨ad, g1, el, _⟩ := elt_at (P := Tryz.prog) (k := .i64) (t := 26) (hs.call hA.below) hf (e := 49) (by kernel_rfl) (by kernel_rfl)
    rw [hw]
    refine ⟨ad, g1, _, _, _, _, _, _, _, _, el.agg 8 (by kernel_rfl) (by kernel_rfl) (by simp) no_ds, fun n24 h24 => brE (fun he => go_evo_too hA (by have := hA.size; simp; omega) fun w25 hA he25 => ?_) fun hne => go_evo_too hA (by have := hA.size; simp; omega) fun w37 hA he37 => ?_⟩
    · have hb25 := he25.bel (by simpa using h24)
      have ho25 : OwnL w [n1, n2, n24] w25 105 7 rcE _ _ := OwnL.gsT (ho.call hb25) (fun x hx e => by
        rcases List.mem_cons.1 hx with rfl | hx
        · exact ho.apart _ (by simp) e
        rcases List.mem_cons.1 hx with rfl | hx
        · exact ho.apart _ (by simp) e
        · have := ho.lt x e
          rw [List.mem_singleton.1 hx] at this
          omega)
      rw [if_pos he] at tk
      refine opw_push (e' := 105) (bytes := 56) hA ho25 (f.fid, clF f) (by kernel_rfl) (by kernel_rfl) rfl (fun _ _ => rfl) (by simp [Value.oneCell']) (by omega) (by decide) fun a2 c2 w2 hA ho _ _ => ?_
      rw [← tk] at ho ⊢
      refine go_evo_too hA (by simpa using h2) fun w36 hA hb => ?_
      exact ⟨⟨hA.sub (by simp), i + 1, rfl, by omega, rfl, OwnL.gsT (ho.evo (by simp) hb) (fun x hx => ho.apart x (by simp at hx ⊢; omega)), rfl⟩, by simp only; omega⟩
    · have hb37 := he37.bel (by simpa using h24)
      rw [if_neg hne, List.append_nil] at tk
      refine ⟨⟨hA.sub (by simp), i + 1, rfl, by omega, rfl, ?_, ?_⟩, by simp only; omega⟩
      · rw [tk]; exact ho.call hb37
      · rw [tk]
  · have hie : F.take i = F := List.take_of_length_le (by omega)
    rw [hie] at ho ⊢
    have hol := own_len F r
    obtain ⟨g1, g2, g3⟩ := hG.own r hr
    obtain ⟨_, _, e, hsl⟩ := ho.slice fun _ _ => rfl
    cases e
    have hc := c46 w14 (x7, x8, x9, x10) hsl (by omega)
    rw [ordN_all g1 g2 g3] at hc
    exact at_calll hA hc (fun _ _ => rfl) fun a40 c42 w39 hA hk _ ho _ => ⟨_, _, _, rfl, hk, leafl h hA ho rfl⟩
def allT (F : List Fr) (i : Nat) : List (Int × Cl) := ((rolesU.take i).filter fun r => isR F r).map fun r => (r, rcl F r)
theorem rolesU_at {i : Nat} (h : i < 32) : rolesU[i]? = some ((i : Int) + 1) := by
  unfold rolesU
  rw [List.getElem?_map, List.getElem?_range h]
  rfl
theorem allT_take {i : Nat} (h : i < 32) : allT F (i + 1) = allT F i ++ (if isR F ((i : Int) + 1) = true then [((i : Int) + 1, rcl F ((i : Int) + 1))] else []) := by
  unfold allT
  rw [List.take_add_one, rolesU_at h, Option.toList_some, List.filter_append, List.map_append]
  congr 1
  by_cases e : isR F ((i : Int) + 1) = true
  · simp [e]
  · simp [e]
theorem aw_any (r : Int) : decide (0 < cntF F r) = F.any fun f => decide (f.role = r) && f.aw := by
  rw [Bool.eq_iff_iff, decide_eq_true_eq, cnt_pos, List.any_eq_true]
  simp
theorem any_step {p : Fr → Bool} {j : Nat} (h : F[j]? = some f) : (F.take (j + 1)).any p = ((F.take j).any p || p f) := by
  rw [List.take_add_one, h, Option.toList_some, List.any_append]
  simp
theorem c25 (w : World) (hG : OrdG T F) (hs : SlE w 8 frE F a ln lc) (hl : F.length ≤ 1000) : RetL Tryz.prog 25 #[mV T (.slice a ln lc)] w 2 1 i1E (RL T F) := by
  intro R h
  refine f25_calls _ _ _ _ _ _ _ w R ?_
  unfold f25_vc
  have hln := hs.1
  refine go_n (At.refl w) fun n1 h1 => go_n (At.refl w) fun n2 h2 => ?_
  refine ⟨fun s W => At w [n1, n2] W ∧ ∃ i : Nat, s.1 = (i : Int) + 1 ∧ i ≤ 32 ∧ (s.2.1, s.2.2.1, s.2.2.2.1, s.2.2.2.2.1) = T ∧ OwnL w [n1, n2] W 105 7 rcE (.slice s.2.2.2.2.2.1.1 s.2.2.2.2.2.1.2.1 s.2.2.2.2.2.1.2.2) (allT F i) ∧ s.2.2.2.2.2.1.2.1 = (allT F i).length, fun s _ => 33 - s.1.toNat, go_evo (At.refl w) (by simpa using h2) fun w4 hA => ⟨hA, 0, rfl, Nat.zero_le _, rfl, OwnF.nil, rfl⟩, ?_⟩
  rintro x6 x7 x8 x9 x10 a11 n12 n13 w14 ⟨hA, i, hi, hil, hT, ho, hn⟩
  simp only at hi hT ho hn
  subst hi hT hn
  have hw : IntKind.i64.wrap ((i : Int) + 1 + 1) = ((i + 1 : Nat) : Int) + 1 := by rw [wrap_i64 (by omega) (by omega)]; omega
  have hal : (allT F i).length ≤ 32 := by
    unfold allT
    rw [List.length_map]
    refine Nat.le_trans (List.length_filter_le ..) ?_
    rw [List.length_take]
    omega
  refine brD (fun hlt => ?_) fun hge => ?_
  · have hi32 : i < 32 := by omega
    have tk := allT_take (F := F) hi32
    rw [hw]
    refine at_callb hA (c14 _ hG.ok (hs.call hA.below) (by omega) ((i : Int) + 1)) fun w16 hA hk hb16 => ⟨_, _, _, _, _, _, rfl, hk, fun n23 h23 => ?_⟩
    have ho16 := ho.call hb16
    refine ⟨fun s W => At w [n1, n2, n23] W ∧ OwnL w [n1, n2, n23] W 105 7 rcE (.slice a11 (allT F i).length n13) (allT F i) ∧ ∃ j : Nat, s.2.1 = j ∧ j ≤ ln ∧ s.1 = (F.take j).any (fun f => decide (f.role = (i : Int) + 1) && f.aw), fun s _ => ln - s.2.1.toNat, go_evo_too hA (by have := hA.size; simp; omega) fun w26 hA he26 => ⟨hA, ?_, 0, rfl, Nat.zero_le _, rfl⟩, ?_⟩
    · exact OwnL.gsT (ho16.call (he26.bel (by simpa using h23))) (fun x hx e => by
        rcases List.mem_cons.1 hx with rfl | hx
        · exact ho.apart _ (by simp) e
        rcases List.mem_cons.1 hx with rfl | hx
        · exact ho.apart _ (by simp) e
        · have := ho16.lt x e
          rw [List.mem_singleton.1 hx] at this
          omega)
    rintro b27 x28 w29 ⟨hA, ho, j, hj, hjl, hb⟩
    simp only at hj hb
    subst hj hb
    have hw2 : IntKind.i64.wrap ((j : Int) + 1) = ((j + 1 : Nat) : Int) := by rw [wrap_i64 (by omega) (by omega)]; omega
    refine brD (fun hlt2 => ?_) fun hge2 => ?_
    · have hjm : j < F.length := by omega
      obtain ⟨f, hf⟩ : ∃ f, F[j]? = some f := ⟨_, List.getElem?_eq_getElem hjm⟩
      have st := any_step (p := fun f => decide (f.role = (i : Int) + 1) && f.aw) hf
      rw [hw2]
      refine brB (fun hb => ⟨⟨hA, ho, j + 1, rfl, by omega, ?_⟩, by simp only; omega⟩) fun hb => ?_
      · rw [st, hb]; rfl
      · obtain ⟨ad, g1, el, _⟩ := elt_at (P := Tryz.prog) (k := .i64) (t := 26) (hs.call hA.below) hf (e := 49) (by kernel_rfl) (by kernel_rfl)
        refine ⟨ad, g1, _, (el.sub (o := 2) (by decide)).one (by kernel_rfl) no_ds, brE (fun he => ⟨ad, g1, _, (el.sub (o := 7) (by decide)).one (by kernel_rfl) no_ds, ⟨hA, ho, j + 1, rfl, by omega, ?_⟩, by simp only; omega⟩) fun hne => ⟨⟨hA, ho, j + 1, rfl, by omega, ?_⟩, by simp only; omega⟩⟩
        · rw [st, hb, decide_eq_true he]; simp
        · rw [st, hb, decide_eq_false hne]; simp
    · have hjn : F.take j = F := List.take_of_length_le (by omega)
      rw [hjn, ← aw_any]
      refine brB (fun hr => ?_) fun hr => ?_
      · rw [if_pos hr] at tk
        refine opw_push (e' := 105) (bytes := 56) hA ho ((i : Int) + 1, rcl F ((i : Int) + 1)) (by kernel_rfl) (by kernel_rfl) rfl (fun _ _ => rfl) (by simp [Value.oneCell']) (by omega) (by decide) fun a2 c2 w2 hA ho _ _ => ?_
        rw [← tk] at ho ⊢
        refine go_evo_too hA (by simpa using h2) fun w36 hA hb => ?_
        exact ⟨⟨hA.sub (by simp), i + 1, rfl, by omega, rfl, OwnL.gsT (ho.evo (by simp) hb) (fun x hx => ho.apart x (by simp at hx ⊢; omega)), rfl⟩, by simp only; omega⟩
      · rw [if_neg (by rw [hr]; decide), List.append_nil] at tk
        refine ⟨⟨hA.sub (by simp), i + 1, rfl, by omega, rfl, ?_, ?_⟩, by simp only; omega⟩
        · rw [tk]
          exact OwnL.gsT ho (fun x hx => ho.apart x (by simp at hx ⊢; omega))
        · rw [tk]
  · have hie : allT F i = allL F := by
      unfold allT allL
      rw [List.take_of_length_le (by unfold rolesU; simp; omega)]
    rw [hie] at ho ⊢
    have hol := all_len F
    obtain ⟨g1, g2, g3⟩ := hG.all
    obtain ⟨_, _, e, hsl⟩ := ho.slice fun _ _ => rfl
    cases e
    have hc := c46 w14 (x7, x8, x9, x10) hsl (by omega)
    rw [ordN_all g1 g2 g3] at hc
    exact at_calll hA hc (fun _ _ => rfl) fun a40 c42 w39 hA hk _ ho _ => ⟨_, _, _, rfl, hk, leafl h hA ho rfl⟩
end Go.Vc.SZ

/- The document's tiers: Walk. -/
set_option maxRecDepth 20000
set_option maxHeartbeats 2000000
set_option linter.unusedVariables false
namespace Go.Vc.SZ
open Go Go.Vc Go.RowKit Go.Proofs Go.Vc.T Vcz

variable {w W W' W1 : World} {M N B : Nat → Prop} {gs ds : List Nat} {g : Nat} {T n : Ar4} {m F : List Fr} {f : Fr} {h : Fr → Fr} {id r : Int} {a : Option Addr} {ln lc : Nat} {ad : Addr} {cs : List Value}

theorem Elt.grown {row : Option Nat} {v : Value} {c : List Value} (h : Elt W ad (v :: c)) (hg : W.grownBy W' row) (hne : row ≠ some ad.block) : Elt W' ad (v :: c) := fun j u hu => by
  have h1 := h j u hu
  have e : W'.heap[(ad.add j).block]? = W.heap[(ad.add j).block]? := by
    rw [add_block]
    exact hg.block _ h.lt (fun e => hne e.symm)
  unfold World.cell? at *
  rw [e]
  exact h1
/-- A row that grows, apart from another. -/
theorem apart_grown {α : Type} {e : TypeId} {size : Nat} {fn : α → List Value} {l : List α} {v : Value} {row : Option Nat} (h : OwnL w gs W e size fn v l) (hg : W.grownBy W' row) (hap : ∀ k, row = some k → v.ownBlock ≠ some k) : OwnL w gs W' e size fn v l := OwnF.grown h hg (by
  cases hv : v.ownBlock with
  | none => exact .inl rfl
  | some k => exact .inr (fun e => hap k e.symm hv))
theorem c8 (w : World) (hG : OrdG T F) (hO : ∀ r ∈ RL T F, isR F r = true) (hs : SlE w 8 frE F a ln lc) (hl : F.length ≤ 1000) : RetL Tryz.prog 8 #[mV T (.slice a ln lc)] w 65 2 prE (walkL T F) := by
  intro R h
  refine f8_calls _ _ _ _ _ _ _ w R ?_
  unfold f8_vc
  have hRl : (RL T F).length ≤ 32 := by
    unfold RL
    rw [List.length_map]
    exact Nat.le_trans hG.all.2.2 (all_len F)
  refine go_n (At.refl w) fun n1 h1 => go_below_too (At.refl w) fun w2 hA hb2 => ?_
  refine at_calll hA (c25 w2 hG (hs.call hb2) hl) (fun _ _ => rfl) fun a5 c5 w4 hA hk hb4 hoR _ => ⟨_, _, _, rfl, hk, ?_⟩
  refine ⟨fun s W => At w [n1] W ∧ OwnL w [n1] W 2 1 i1E (.slice a5 (RL T F).length c5) (RL T F) ∧ ∃ i : Nat, s.2.1 = i ∧ i ≤ (RL T F).length ∧ OwnL w [n1] W 65 2 prE (.slice s.1.1 s.1.2.1 s.1.2.2) (((RL T F).take i).flatMap fun r => (OL T F r).map fun id => (r, id)) ∧ s.1.2.1 = (((RL T F).take i).flatMap fun r => (OL T F r).map fun id => (r, id)).length ∧ (((RL T F).take i).flatMap fun r => (OL T F r).map fun id => (r, id)).length ≤ i * 1000 ∧ ∀ k, (Value.slice s.1.1 s.1.2.1 s.1.2.2).ownBlock = some k → (Value.slice a5 (RL T F).length c5).ownBlock ≠ some k, fun s _ => (RL T F).length - s.2.1.toNat, ⟨hA, hoR, 0, rfl, Nat.zero_le _, OwnF.nil, rfl, by simp, fun k hk => by cases hk⟩, ?_⟩
  rintro a10 n11 n12 x13 w14 ⟨hA, hoR, i, hi, hil, ho, hn, hbd, hap⟩
  simp only at hi ho hn hap
  subst hi hn
  refine brD (fun hlt => ?_) fun hge => ?_
  · have him : i < (RL T F).length := by omega
    obtain ⟨r, hr⟩ : ∃ r, (RL T F)[i]? = some r := ⟨_, List.getElem?_eq_getElem him⟩
    have hrR := hO r (List.mem_of_getElem? hr)
    have tk : ((RL T F).take (i + 1)).flatMap (fun r => (OL T F r).map fun id => (r, id)) = (((RL T F).take i).flatMap fun r => (OL T F r).map fun id => (r, id)) ++ (OL T F r).map fun id => (r, id) := by
      rw [List.take_add_one, hr, Option.toList_some, List.flatMap_append, List.flatMap_cons, List.flatMap_nil, List.append_nil]
    have hOl : (OL T F r).length ≤ 1000 := by
      unfold OL
      rw [List.length_map]
      exact Nat.le_trans (hG.own r hrR).2.2 (Nat.le_trans (own_len F r) hl)
    obtain ⟨_, _, e5, hslR⟩ := hoR.slice fun _ _ => rfl
    cases e5
    obtain ⟨ad, g1, el, had⟩ := elt_at (P := Tryz.prog) (k := .i64) (t := 66) hslR hr (e := 2) (by kernel_rfl) (by kernel_rfl)
    refine ⟨ad, g1, _, el.one (by kernel_rfl) no_ds, go_below_too hA fun w17 hA hb17 => ?_⟩
    have hA17 := hA
    refine at_callq hA (c26 w17 hG (hs.call hA.below) hl hrR) fun v w19 hA hk hb19 hq => ?_
    have hoO : OwnL w [n1] w19 2 1 i1E v (OL T F r) := OwnF.ret hA17 hq rfl rfl
    obtain ⟨a20, c22, rfl, _⟩ := hoO.slice fun _ _ => rfl
    have ho17 := ho.call hb17
    refine ⟨_, _, _, rfl, hk, ?_⟩
    have el19 := (el.below hb17).below hb19
    refine ⟨fun s W => At w [n1] W ∧ OwnL w [n1] W 2 1 i1E (.slice a5 (RL T F).length c5) (RL T F) ∧ OwnL w [n1] W 2 1 i1E (.slice a20 (OL T F r).length c22) (OL T F r) ∧ Elt W ad (i1E r) ∧ ∃ j : Nat, s.2.1 = j ∧ j ≤ (OL T F r).length ∧ OwnL w [n1] W 65 2 prE (.slice s.1.1 s.1.2.1 s.1.2.2) ((((RL T F).take i).flatMap fun r => (OL T F r).map fun id => (r, id)) ++ ((OL T F r).take j).map fun id => (r, id)) ∧ s.1.2.1 = ((((RL T F).take i).flatMap fun r => (OL T F r).map fun id => (r, id)) ++ ((OL T F r).take j).map fun id => (r, id)).length ∧ (∀ k, (Value.slice s.1.1 s.1.2.1 s.1.2.2).ownBlock = some k → (Value.slice a5 (RL T F).length c5).ownBlock ≠ some k) ∧ ∀ k, (Value.slice s.1.1 s.1.2.1 s.1.2.2).ownBlock = some k → (Value.slice a20 (OL T F r).length c22).ownBlock ≠ some k, fun s _ => (OL T F r).length - s.2.1.toNat, ⟨hA, (hoR.call hb17).call hb19, hoO, el19, 0, rfl, Nat.zero_le _, by simpa using ho17.call hb19, by simp, hap, fun k hk e => ?_⟩, ?_⟩
    · have h1 := ho17.lt k hk
      have h2 := (hq.lt k e).1
      omega
    rintro a25 n26 n27 x28 w29 ⟨hA, hoR, hoO, elr, j, hj, hjl, ho, hn, hap, hap2⟩
    simp only at hj ho hn hap hap2
    subst hj hn
    have hw : IntKind.i64.wrap ((j : Int) + 1) = ((j + 1 : Nat) : Int) := by rw [wrap_i64 (by omega) (by omega)]; omega
    refine brD (fun hlt2 => ?_) fun hge2 => ?_
    · have hjm : j < (OL T F r).length := by omega
      obtain ⟨id, hid⟩ : ∃ id, (OL T F r)[j]? = some id := ⟨_, List.getElem?_eq_getElem hjm⟩
      have tkj : ((((RL T F).take i).flatMap fun r => (OL T F r).map fun id => (r, id)) ++ ((OL T F r).take j).map fun id => (r, id)) ++ [(r, id)] = (((RL T F).take i).flatMap fun r => (OL T F r).map fun id => (r, id)) ++ ((OL T F r).take (j + 1)).map fun id => (r, id) := by
        rw [List.take_add_one, hid, Option.toList_some, List.map_append, List.append_assoc]
        rfl
      have hlen : ((((RL T F).take i).flatMap fun r => (OL T F r).map fun id => (r, id)) ++ ((OL T F r).take j).map fun id => (r, id)).length ≤ 40000 := by
        rw [List.length_append, List.length_map, List.length_take]
        omega
      obtain ⟨_, _, e20, hslO⟩ := hoO.slice fun _ _ => rfl
      cases e20
      obtain ⟨ad2, g2, el2, had2⟩ := elt_at (P := Tryz.prog) (k := .i64) (t := 66) hslO hid (e := 2) (by kernel_rfl) (by kernel_rfl)
      rw [hw]
      refine ⟨ad, g1, _, elr.one (by kernel_rfl) no_ds, ad2, g2, _, el2.one (by kernel_rfl) no_ds, go_below_too hA fun w34 hA hb34 => ?_⟩
      have ho := ho.call hb34
      have hoR := hoR.call hb34
      have hoO := hoO.call hb34
      have elr := elr.below hb34
      have el2 := el2.below hb34
      refine opw_lit (P := Tryz.prog) (t := 35) (e' := 65) (cs := prE (r, id)) hA (by kernel_rfl) fun w36 hA hk hb36 hcell _ => ⟨_, _, _, rfl, hk, (el2.below hb36).one (by kernel_rfl) no_ds, (elr.below hb36).one (by kernel_rfl) no_ds, ?_⟩
      refine opw_append1 (bytes := 16) (by kernel_rfl) hA (ho.call hb36) (x := (r, id)) rfl hcell (by simp [Value.oneCell']) (by omega) (.inr (by omega)) fun v' w41 hA hk2 hg ho' hnew => ?_
      obtain ⟨a2, c2, rfl, _⟩ := ho'.slice fun _ _ => rfl
      rw [tkj] at ho' hnew ⊢
      have nR : (Value.slice a25 ((((RL T F).take i).flatMap fun r => (OL T F r).map fun id => (r, id)) ++ ((OL T F r).take j).map fun id => (r, id)).length n27).ownBlock ≠ some ad.block := fun e => by
        refine hap _ e ?_
        cases a5 with
        | none =>
          have := hoR.slice fun _ _ => rfl
          rcases hoR.row0.2 with ⟨hv, hn⟩ | ⟨_, _, _, hv, _⟩
          · omega
          · cases hv
        | some b => rw [had b rfl]; rfl
      have nO : (Value.slice a25 ((((RL T F).take i).flatMap fun r => (OL T F r).map fun id => (r, id)) ++ ((OL T F r).take j).map fun id => (r, id)).length n27).ownBlock ≠ some ad2.block := fun e => by
        refine hap2 _ e ?_
        cases a20 with
        | none =>
          rcases hoO.row0.2 with ⟨hv, hn⟩ | ⟨_, _, _, hv, _⟩
          · omega
          · cases hv
        | some b => rw [had2 b rfl]; rfl
      refine ⟨_, _, _, rfl, hk2, (Elt.grown (el2.below hb36) hg nO).one (by kernel_rfl) no_ds, (Elt.grown (elr.below hb36) hg nR).one (by kernel_rfl) no_ds, ⟨hA, apart_grown (hoR.call hb36) hg (fun k hk => hap k hk), apart_grown (hoO.call hb36) hg (fun k hk => hap2 k hk), Elt.grown (elr.below hb36) hg nR, j + 1, rfl, by omega, ho', rfl, fun k hk e => ?_, fun k hk e => ?_⟩, by simp only; omega⟩
      · rcases hnew with hh | hh
        · exact hap k (hh ▸ hk) e
        · have h1 := hh k hk
          have h2 := (hoR.call hb36).lt k e
          omega
      · rcases hnew with hh | hh
        · exact hap2 k (hh ▸ hk) e
        · have h1 := hh k hk
          have h2 := (hoO.call hb36).lt k e
          omega
    · have hjn : (OL T F r).take j = OL T F r := List.take_of_length_le (by omega)
      have hwi : IntKind.i64.wrap ((i : Int) + 1) = ((i + 1 : Nat) : Int) := by rw [wrap_i64 (by omega) (by omega)]; omega
      rw [hjn, ← tk] at ho ⊢
      rw [hwi]
      refine ⟨⟨hA, hoR, i + 1, rfl, by omega, ho, rfl, ?_, fun k hk => hap k (by rw [hjn, ← tk]; exact hk)⟩, by simp only; omega⟩
      rw [tk, List.length_append, List.length_map]
      omega
  · have hie : (RL T F).take i = RL T F := List.take_of_length_le (by omega)
    rw [hie] at ho ⊢
    exact leafl h hA ho rfl
end Go.Vc.SZ

/- Law 3: tiers play as the document's. -/
set_option maxRecDepth 20000
set_option maxHeartbeats 4000000
set_option linter.unusedVariables false
namespace Go.Vc.SZ
open Go Go.Vc Go.RowKit Go.Proofs Go.Vc.T Vcz

variable {w W W' W1 : World} {M N B : Nat → Prop} {gs ds : List Nat} {g : Nat} {T n : Ar4} {m F : List Fr} {f : Fr} {h : Fr → Fr} {id r : Int} {a : Option Addr} {ln lc : Nat}

theorem OwnF.bel {α : Type} {e : TypeId} {size : Nat} {fn : α → List Value} {l : List α} {v : Value} (h : OwnF w M gs W e size fn v l) (hb : Below W.heap.size W W') : OwnF w M gs W' e size fn v l := h.keep fun k hk => hb.block k (h.lt k hk)
theorem ordG_R (h : OrdG T F) : ∀ r ∈ RL T F, isR F r = true := fun r hr => (mem_RL h.all.2.1 hr).2
/-- One act, by both: where its row lies. -/
theorem act_rowG {s : Value} {x : TA} {v : Value} {w26 w28 : World} (hA26 : At w gs w26) (hlow : ∀ b, B b → w.heap.size ≤ b ∧ b < w26.heap.size) (hrow : OwnL w gs w26 49 8 frE s F) (hap : ∀ k, s.ownBlock = some k → ¬ B k) (hb28 : Bel w26 w28) (hq : StepN w26 s F (doT (T, F) x) v w28) :
    ∃ a' c' , v = .tuple #[mV (doT (T, F) x).1.1 (.slice a' (doT (T, F) x).1.2.length c'), .int .i64 (doT (T, F) x).2] ∧ OwnL w gs w28 49 8 frE (.slice a' (doT (T, F) x).1.2.length c') (doT (T, F) x).1.2 ∧ ∀ k, (Value.slice a' (doT (T, F) x).1.2.length c').ownBlock = some k → ¬ B k := by
  obtain ⟨s', hv, hq⟩ := hq
  have hs28 := hb28.size
  have hrow' : OwnL w gs w28 49 8 frE s' (doT (T, F) x).1.2 ∧ ∀ k, s'.ownBlock = some k → ¬ B k := by
    rcases hq with ⟨e1, e2⟩ | hq
    · rw [e1, e2]
      exact ⟨hrow.call hb28, fun k hk => hap k hk⟩
    · have ho : OwnL w gs w28 49 8 frE s' (doT (T, F) x).1.2 := OwnF.ret hA26 hq rfl rfl
      refine ⟨ho, fun k hk e => ?_⟩
      have := (hq.lt k hk).1
      have := hlow k e
      omega
  obtain ⟨hrow', hap'⟩ := hrow'
  obtain ⟨a33, c35, e33, _⟩ := hrow'.slice fun _ _ => rfl
  subst e33
  exact ⟨_, _, hv, hrow', hap'⟩
theorem law3 {L : List TA} {la : Option Addr} {ln lc : Nat} (w : World) (hL : SlE w 8 taE L la ln lc) : RetW 3 #[.slice la ln lc] w (.bool true) := by
  intro R h
  have hLz : SlE (zro w) 8 taE L la ln lc := hL
  refine f3_calls _ _ _ w R ?_
  unfold f3_vc
  refine brD (fun _ => leafW h (at_zro w noB) rfl) fun hle => ?_
  refine at_callq (at_zro w noB) (c4 w) fun v w2 hA _ hb2 ⟨g, hv, hX⟩ => ?_
  subst hv
  have hX : TiO (zro w) w2 g (0, 0, 0, 0) [] := hX.mono fun b hl hb => ⟨hb, hl⟩
  have hln := hL.1
  refine ⟨_, rfl, fun n4 h4 => ?_⟩
  have hw2 : w.heap.size ≤ w2.heap.size := hA.chg.size
  refine ⟨fun s W => At (zro w) [n4] W ∧ ∃ (i : Nat) (T : Ar4) (F : List Fr) (B : Nat → Prop), s.1 = i ∧ i ≤ ln ∧ F.length ≤ i ∧ (s.2.1, s.2.2.1, s.2.2.2.1, s.2.2.2.2.1) = T ∧ PlT (zro w) W g n4 T F (.slice s.2.2.2.2.2.1.1 s.2.2.2.2.2.1.2.1 s.2.2.2.2.2.1.2.2) B, fun s _ => ln - s.1.toNat, fun w7 he hu => ?_, ?_⟩
  · have hb := he.bel (by simpa using h4)
    exact ⟨⟨(hA.call hb).chg, hu⟩, 0, _, [], _, rfl, Nat.zero_le _, Nat.le_refl _, rfl, TiX.call hX hb, fun b hb' => ⟨hb'.1, Nat.lt_of_lt_of_le hb'.2 hb.size⟩, fun e => by omega, OwnF.nil, fun k hk => by cases hk⟩
  rintro x8 x9 x10 x11 x12 a13 n14 n15 w16 ⟨hA, i, T, F, B, hi, hil, hml, hT, hP⟩
  simp only at hi hT hP
  subst hi hT
  generalize hTT : ((x9, x10, x11, x12) : Ar4) = T at hP
  have t1 : x9 = T.1 := by rw [← hTT]
  have t2 : x10 = T.2.1 := by rw [← hTT]
  have t3 : x11 = T.2.2.1 := by rw [← hTT]
  have t4 : x12 = T.2.2.2 := by rw [← hTT]
  subst t1 t2 t3 t4
  clear hTT
  obtain ⟨hX, hlow, hnB, hrow, hap⟩ := hP
  have hlow : ∀ b, B b → w.heap.size ≤ b ∧ b < w16.heap.size := hlow
  obtain ⟨a13', c13', e13, hsl⟩ := hrow.slice fun _ _ => rfl
  cases e13
  have hu4 := hA.under n4 (by simp)
  have hA16 := hA
  have hzs : (zro w).heap.size = w.heap.size := rfl
  have hFok := hX.ok
  have hw16 : w.heap.size ≤ w16.heap.size := hA.chg.size
  refine brD (fun hlt => ?_) fun hge => ?_
  · have hiL : i < L.length := by omega
    have hgL := List.getElem?_eq_getElem hiL
    have hmd := doT_len (T, F) L[i]
    simp only at hmd
    obtain ⟨ad, g1, el0, _⟩ := elt_at (P := Tryz.prog) (k := .i64) (t := 22) hLz hgL (e := 32) (by kernel_rfl) (by kernel_rfl)
    have hw : IntKind.i64.wrap ((i : Int) + 1) = ((i + 1 : Nat) : Int) := by rw [wrap_i64 (by omega) (by omega)]; omega
    refine ⟨ad, g1, _, _, _, _, _, _, _, _, (el0.below hA.below).agg 8 (by kernel_rfl) (by kernel_rfl) (by simp) no_ds, ?_, ?_⟩
    · refine go_below_too hA fun w26 hA hb26 => ?_
      have hs26 := hb26.size
      have hA26 := hA
      refine at_callq hA (c5 _ T hFok (hsl.call hb26) (by omega) L[i]) fun v w28 hA2 hk28 hb28 hq => ?_
      obtain ⟨a', c', hv, hrow', hap'⟩ := act_rowG hA26 (fun b hb => by have := hlow b hb; omega) (hrow.call hb26) hap hb28 hq
      subst hv
      have hs28 := hb28.size
      refine ⟨_, _, _, _, _, _, _, _, rfl, hk28, fun nx hx => ?_⟩
      have el28 := el0.below hA2.below
      refine ⟨ad, g1, _, _, _, _, _, _, _, _, el28.agg 8 (by kernel_rfl) (by kernel_rfl) (by simp) (el28.far (by simpa using hx)), go_evo_too hA2 (by simp; omega) fun w47 hA he => ?_⟩
      have hxB : ¬ B nx := fun e => by have := hlow nx e; omega
      have hrow47 : OwnL (zro w) [n4, nx] w47 49 8 frE _ _ := OwnL.gsT (hrow'.call (he.bel (by simpa using hx))) (fun y hy e => by
        rcases List.mem_cons.1 hy with rfl | hy
        · exact hrow'.apart _ (by simp) e
        · have := hrow'.lt y e
          rw [List.mem_singleton.1 hy] at this
          omega)
      have hX47 : TiX w47 B g T F := ((hX.call hb26).call hb28).call (he.bel (by simpa using hx))
      have hs47 := he.size
      refine at_callF hA (c6 hX47 (by omega) L[i]) (fun b _ hb => .inl (hlow b hb).1) (fun y hy hb => by
        simp at hy
        rcases hy with rfl | rfl
        · exact hnB hb
        · exact hxB hb) fun v w49 hA hk hch ⟨hv, hX49⟩ => ?_
      subst hv
      refine ⟨_, rfl, hk, brN (fun e => absurd rfl e) fun _ => ?_⟩
      have hs49 := hch.size
      have hrow49 : OwnL (zro w) [n4, nx] w49 49 8 frE _ _ := hrow47.chg hch fun k hk hB => hap' k hk hB
      have hX49 : TiX w49 (fun b => (B b ∨ w47.heap.size ≤ b) ∧ b < w49.heap.size) g _ _ := hX49.mono fun b hl hb => ⟨hb, hl⟩
      refine go_evo_too hA (by simp; omega) fun w51 hA he51 => ?_
      have hX51 := hX49.evo he51 fun d hd hB => by
        rw [List.mem_singleton.1 hd] at hB ⊢
        rcases hB.1 with e | e
        · exact absurd e hnB
        · omega
      have hrow51 := hrow49.evo (by simp) he51
      obtain ⟨_, _, e51, hsl51⟩ := hrow51.slice fun _ _ => rfl
      cases e51
      have hs51 := he51.size
      have hG := hX51.ordG
      refine at_calll hA (c8 w51 hG (ordG_R hG) hsl51 (by omega)) (fun _ _ => rfl) fun a54 c56 w53 hA hk hb53 _ hsl53 => ⟨_, _, _, rfl, hk, ?_⟩
      have hX53 := hX51.call hb53
      refine at_callW hA (fun R hR => c7x hX53 (by omega) hsl53 R hR) fun w58 hA hk hb58 => ⟨_, rfl, hk, ⟨fun e => by simp at e, fun _ => ?_⟩⟩
      have hX58 := hX53.bel hb58
      have hrow58 := OwnF.bel (hrow51.call hb53) hb58
      have hs53 := hb53.size
      have hs58 := hb58.size
      rw [hw]
      refine ⟨⟨hA.sub (by simp), i + 1, _, _, fun b => (B b ∨ w47.heap.size ≤ b) ∧ b < w49.heap.size, rfl, by omega, ?_, rfl, ⟨hX58, fun b hb => ⟨?_, ?_⟩, fun e => ?_, OwnL.gsT hrow58 (fun x hx => hrow58.apart x (by simp at hx ⊢; exact .inl hx)), fun k hk hB => ?_⟩⟩, by simp only; omega⟩
      · omega
      · rcases hb.1 with h | h
        · exact (hlow b h).1
        · show w.heap.size ≤ b
          omega
      · have := hb.2
        omega
      · rcases e.1 with h | h
        · exact hnB h
        · omega
      · have h1 := hap' k hk
        have h2 := hrow'.lt k hk
        rcases hB.1 with h | h
        · exact h1 h
        · omega
    · refine fun nx hx => ⟨(el0.below hA.below).agg 8 (by kernel_rfl) (by kernel_rfl) (by simp) no_ds, go_below_too hA fun w61 hA hb26 => ?_⟩
      have hs26 := hb26.size
      have hA26 := hA
      have hxu := hA.under nx (by simp)
      refine at_callq hA (c5 _ T hFok (hsl.call hb26) (by omega) L[i]) fun v w28 hA2 hk28 hb28 hq => ?_
      have hrow61 : OwnL (zro w) [n4, nx] w61 49 8 frE _ _ := OwnL.gsT (hrow.call hb26) (fun y hy e => by
        rcases List.mem_cons.1 hy with rfl | hy
        · exact hrow.apart _ (by simp) e
        · have := hrow.lt y e
          rw [List.mem_singleton.1 hy] at this
          omega)
      obtain ⟨a', c', hv, hrow', hap'⟩ := act_rowG hA26 (fun b hb => by have := hlow b hb; omega) hrow61 hap hb28 hq
      subst hv
      have hs28 := hb28.size
      have el28 := el0.below hA2.below
      have hxB : ¬ B nx := fun e => by have := hlow nx e; omega
      refine ⟨_, _, _, _, _, _, _, _, rfl, hk28, ad, g1, _, _, _, _, _, _, _, _, el28.agg 8 (by kernel_rfl) (by kernel_rfl) (by simp) (el0.far (by simp; omega)), go_evo_too hA2 (by simp; omega) fun w47 hA he => ?_⟩
      have hrow47 : OwnL (zro w) [n4, nx] w47 49 8 frE _ _ := hrow'.evo (by simp) he
      have hX47 : TiX w47 B g T F := ((hX.call hb26).call hb28).evo he fun d hd hB => by
        rw [List.mem_singleton.1 hd] at hB
        exact absurd hB hxB
      have hs47 := he.size
      refine at_callF hA (c6 hX47 (by omega) L[i]) (fun b _ hb => .inl (hlow b hb).1) (fun y hy hb => by
        simp at hy
        rcases hy with rfl | rfl
        · exact hnB hb
        · exact hxB hb) fun v w49 hA hk hch ⟨hv, hX49⟩ => ?_
      subst hv
      refine ⟨_, rfl, hk, brN (fun e => absurd rfl e) fun _ => ?_⟩
      have hs49 := hch.size
      have hrow49 : OwnL (zro w) [n4, nx] w49 49 8 frE _ _ := hrow47.chg hch fun k hk hB => hap' k hk hB
      have hX49 : TiX w49 (fun b => (B b ∨ w47.heap.size ≤ b) ∧ b < w49.heap.size) g _ _ := hX49.mono fun b hl hb => ⟨hb, hl⟩
      refine go_evo_too hA (by simp; omega) fun w51 hA he51 => ?_
      have hX51 := hX49.evo he51 fun d hd hB => by
        rw [List.mem_singleton.1 hd] at hB ⊢
        rcases hB.1 with e | e
        · exact absurd e hnB
        · omega
      have hrow51 := hrow49.evo (by simp) he51
      obtain ⟨_, _, e51, hsl51⟩ := hrow51.slice fun _ _ => rfl
      cases e51
      have hs51 := he51.size
      have hG := hX51.ordG
      refine at_calll hA (c8 w51 hG (ordG_R hG) hsl51 (by omega)) (fun _ _ => rfl) fun a54 c56 w53 hA hk hb53 _ hsl53 => ⟨_, _, _, rfl, hk, ?_⟩
      have hX53 := hX51.call hb53
      refine at_callW hA (fun R hR => c7x hX53 (by omega) hsl53 R hR) fun w58 hA hk hb58 => ⟨_, rfl, hk, ⟨fun e => by simp at e, fun _ => ?_⟩⟩
      have hX58 := hX53.bel hb58
      have hrow58 := OwnF.bel (hrow51.call hb53) hb58
      have hs53 := hb53.size
      have hs58 := hb58.size
      rw [hw]
      refine ⟨⟨hA.sub (by simp), i + 1, _, _, fun b => (B b ∨ w47.heap.size ≤ b) ∧ b < w49.heap.size, rfl, by omega, ?_, rfl, ⟨hX58, fun b hb => ⟨?_, ?_⟩, fun e => ?_, OwnL.gsT hrow58 (fun x hx => hrow58.apart x (by simp at hx ⊢; exact .inl hx)), fun k hk hB => ?_⟩⟩, by simp only; omega⟩
      · omega
      · rcases hb.1 with h | h
        · exact (hlow b h).1
        · show w.heap.size ≤ b
          omega
      · have := hb.2
        omega
      · rcases e.1 with h | h
        · exact hnB h
        · omega
      · have h1 := hap' k hk
        have h2 := hrow'.lt k hk
        rcases hB.1 with h | h
        · exact h1 h
        · omega
  · exact at_callW hA (c9 _) fun w95 hA hk _ => ⟨_, rfl, hk, leafW h hA rfl⟩
end Go.Vc.SZ

