/- Own text of this claim: Su3. -/
import Derived.Test.YtlapclajdfaajaaSu2
import Derived.Test.YtlapclajdfaajaaVcArr
set_option maxRecDepth 20000
namespace Go.Vc.B
open Go Go.Vc Go.RowKit Go.Proofs Vcb Vcbu

theorem arr_elt {W : World} {l : List Int} {ad : Addr} {n c : Nat} (hs : SlE W 1 one l (some ad) n c) (hsp : ad.spot = none) : Elt W ad (l.map fun x => Value.int .i64 x) := by
  intro j v hv
  rw [List.getElem?_map] at hv
  cases hx : l[j]? with
  | none => rw [hx] at hv; cases hv
  | some x =>
    rw [hx] at hv
    cases hv
    obtain ⟨ad', cs, ha, hl, hcs, rfl⟩ := hs.at_ hx
    cases ha
    have := hcs 0 _ rfl
    rw [addr_add_add _ _ _ hsp] at this
    simpa using this

/-- How much of a kind. -/
def sumK (k : Int) : List PartT → Int
  | [] => 0
  | p :: r => (if p.1 = k then p.2.2 else 0) + sumK k r
theorem sumK_append (k : Int) : ∀ (a b : List PartT), sumK k (a ++ b) = sumK k a + sumK k b
  | [], b => by simp [sumK]
  | p :: a, b => by simp only [List.cons_append, sumK, sumK_append k a b]; omega
theorem vok_bound {k : Int} (hk : 0 ≤ k ∧ k < 4) : ∀ (l : List PartT) (q : PartT), vok (some q) l = true → 0 ≤ sumK k l ∧ sumK k l ≤ (if q.1 < k then 33 else if q.1 = k then 32 - q.2.1 else 0) * 9007199254740992 ∨ ¬ slotR q.1 q.2.1
  | [], q, _ => by
    unfold sumK slotR
    split
    · omega
    · split <;> omega
  | p :: r, q, h => by
    have h' := h
    rw [vok_cons] at h'
    simp only [okB, Bool.and_eq_true, decide_eq_true_eq] at h'
    obtain ⟨⟨hp, hlt⟩, hr⟩ := h'
    have ih := vok_bound hk r p hr
    obtain ⟨hs, h1, h2⟩ := hp
    have ih := ih.resolve_right (fun hn => hn hs)
    unfold slotR at hs ⊢
    unfold slt at hlt
    unfold sumK
    by_cases c1 : p.1 < k
    · rw [if_pos c1] at ih
      rw [if_neg (by omega), if_pos (by omega)]
      omega
    · rw [if_neg c1] at ih
      by_cases c2 : p.1 = k
      · rw [if_pos c2] at ih
        rw [if_pos c2]
        by_cases c3 : q.1 < k
        · rw [if_pos c3]; omega
        · rw [if_neg c3, if_pos (by omega)]; omega
      · rw [if_neg c2] at ih
        rw [if_neg c2]
        by_cases c3 : q.1 < k
        · rw [if_pos c3]; omega
        · rw [if_neg c3]
          by_cases c4 : q.1 = k
          · rw [if_pos c4]; omega
          · rw [if_neg c4]; omega
theorem vec_bound {k : Int} (hk : 0 ≤ k ∧ k < 4) {l : List PartT} (h : vecB l = true) : 0 ≤ sumK k l ∧ sumK k l ≤ 297237575406452736 := by
  cases l with
  | nil => simp [sumK]
  | cons p r =>
    have h' := h
    rw [vecB, vok_cons] at h'
    simp only [okB, Bool.and_true, Bool.and_eq_true, decide_eq_true_eq] at h'
    obtain ⟨hp, hr⟩ := h'
    obtain ⟨hs, h1, h2⟩ := hp
    have ih := (vok_bound hk r p hr).resolve_right (fun hn => hn hs)
    unfold slotR at hs
    unfold sumK
    by_cases c1 : p.1 < k
    · rw [if_pos c1] at ih; rw [if_neg (by omega)]; omega
    · rw [if_neg c1] at ih
      by_cases c2 : p.1 = k
      · rw [if_pos c2] at ih; rw [if_pos c2]; omega
      · rw [if_neg c2] at ih; rw [if_neg c2]; omega
theorem vok_take : ∀ (l : List PartT) (o : Option PartT) (n : Nat), vok o l = true → vok o (l.take n) = true
  | [], o, n, _ => by rw [List.take_nil]; exact vok_nil
  | p :: r, o, 0, _ => by rw [List.take_zero]; exact vok_nil
  | p :: r, o, n + 1, h => by
    rw [vok_cons, Bool.and_eq_true] at h
    rw [List.take_succ_cons, vok_cons, Bool.and_eq_true]
    exact ⟨h.1, vok_take r (some p) n h.2⟩
theorem vok_mem : ∀ (l : List PartT) (o : Option PartT), vok o l = true → ∀ p ∈ l, partR p
  | [], _, _, p, hp => by cases hp
  | q :: r, o, h, p, hp => by
    rw [vok_cons] at h
    simp only [Bool.and_eq_true, decide_eq_true_eq] at h
    rcases List.mem_cons.1 hp with rfl | hp
    · exact h.1.1
    · exact vok_mem r _ h.2 p hp

def sumL (l : List PartT) : List Int := [sumK 0 l, sumK 1 l, sumK 2 l, sumK 3 l]
/-- One part more. -/
theorem sumL_snoc {l : List PartT} {p : PartT} {k : Nat} (hp : p.1 = k) (hk : k < 4) : sumL (l ++ [p]) = (sumL l).set k (sumK p.1 l + p.2.2) ∧ (sumL l)[k]? = some (sumK p.1 l) := by
  have e : ∀ j : Int, sumK j (l ++ [p]) = sumK j l + (if p.1 = j then p.2.2 else 0) := fun j => by rw [sumK_append]; simp [sumK]
  have hc : k = 0 ∨ k = 1 ∨ k = 2 ∨ k = 3 := by omega
  unfold sumL
  simp only [e, hp]
  rcases hc with rfl | rfl | rfl | rfl <;> simp

def ofV (l : List PartT) : Value := if vecB l = true then arrV (sumK 0 l) (sumK 1 l) (sumK 2 l) (sumK 3 l) else arrV 0 0 0 0

theorem c33 {l : List PartT} {a : Option Addr} {n c : Nat} (w : World) (hs : SlE w 3 partE l a n c) : Ret Try.prog 33 #[.slice a n c] w (ofV l) := by
  intro R h
  refine f33_calls a n c w R ?_
  unfold f33_vc
  have hA := At.refl w
  have hn := hs.1
  subst hn
  have hlen := hs.len_le.2
  refine go_n hA fun n1 h_n1 => ?_
  refine go_below hA fun w2 hA => ?_
  refine opw_allocArr (n := 4) (size := 1) (f := one) (z := (0 : Int)) hA (zv := arrV 0 0 0 0) (by kernel_rfl) rfl rfl (by decide) fun w4 hA hk ho => ⟨_, rfl, hk, ?_⟩
  generalize hg : w2.heap.size = g at ho
  refine at_callb hA (c34 _ (hs.call hA.below)) (fun w7 hA hk hb => ⟨_, rfl, hk, ?_⟩)
  have ho := ho.call hb
  have rdA : ∀ {W : World} {gs : List Nat} {x0 x1 x2 x3 : Int}, OwnL w gs W 40 1 one (.slice (some ⟨g, 0, none⟩) 4 4) [x0, x1, x2, x3] → Reads Try.prog [] (Instr.loadAt 40 (.pointer (some ⟨g, 0, none⟩))) W (arrV x0 x1 x2 x3) := fun ho =>
    Elt.agg 4 (arr_elt (ho.sl (by simp)) rfl) (by kernel_rfl) (by kernel_rfl) (by simp) no_ds
  refine brNB (fun hno => ⟨_, _, _, _, rdA ho, ?_⟩) (fun hv => ?_)
  · refine go_evo hA (by intro d hd; simp at hd; omega) fun _ hA => ?_
    exact leaf h hA (by rw [ofV, if_neg (by rw [hno]; decide)])
  have hat : ∀ {W : World} {gs : List Nat} {i : Nat} {x : PartT}, At w gs W → l[i]? = some x → ∃ ad, Gives Try.prog (Instr.indexAt 55 (.slice a l.length c) (.int .i64 (i : Int))) (.pointer (some ad)) ∧ Reads Try.prog [] (Instr.loadAt 59 (.pointer (some ad))) W (partV x) := fun hA hx =>
    rd_agg (f := partE) (hs.call hA.below) hx (e := 59) (by kernel_rfl) (by kernel_rfl) (by kernel_rfl) (by kernel_rfl) (fun _ h => by cases h)
  refine ⟨fun s W => At w [n1] W ∧ ∃ k : Nat, s.1 = k ∧ k ≤ l.length ∧ OwnL w [n1] W 40 1 one (.slice (some ⟨g, 0, none⟩) 4 4) (sumL (l.take k)), fun s _ => l.length - s.1.toNat, ⟨hA, 0, rfl, Nat.zero_le _, ho⟩, ?_⟩
  intro i W ⟨hA, k, hi, hk, ho⟩
  simp only at hi
  subst hi
  refine brD (fun hlt => ?_) (fun hge => ?_)
  · obtain ⟨p, hp⟩ : ∃ x, l[k]? = some x := ⟨_, List.getElem?_eq_getElem (by omega)⟩
    obtain ⟨ad, g1, r1⟩ := hat hA hp
    have e1 : IntKind.i64.wrap ((k : Int) + 1) = ((k + 1 : Nat) : Int) := by rw [wrap_i64 (by omega) (by omega)]; rfl
    rw [e1]
    refine ⟨_, g1, _, _, _, r1, fun n22 hn22 => ?_⟩
    have hpr := vok_mem l none hv p (List.mem_of_getElem? hp)
    have hsl : 0 ≤ p.1 ∧ p.1 < 4 := ⟨hpr.1.1, hpr.1.2.1⟩
    obtain ⟨kk, hkk⟩ : ∃ kk : Nat, p.1 = kk := ⟨p.1.toNat, by omega⟩
    have hkk4 : kk < 4 := by omega
    obtain ⟨hset, hget⟩ := sumL_snoc (l := l.take k) hkk hkk4
    have htk : l.take k ++ [p] = l.take (k + 1) := by rw [List.take_add_one, hp]; rfl
    rw [htk] at hset
    have hb0 := vec_bound (k := p.1) hsl (vok_take l none k hv)
    have hb1 := hpr.2
    have hx : Reads Try.prog [n22] (Instr.loadAt 2 (.pointer (some (Addr.add ⟨g, 0, none⟩ (kk * 1))))) W (.int .i64 (sumK p.1 (l.take k))) := by
      obtain ⟨ad', cs, ha, hl, hcs, rfl⟩ := (ho.sl (by simp)).at_ hget
      cases ha
      refine reads_one (by kernel_rfl) (fun d hd => ?_) (by have := hcs 0 _ rfl; rw [addr_add0] at this; exact this)
      simp at hd
      subst hd
      rw [add_block]
      have := World.block_lt_of_cell? W _ (hcs 0 _ rfl)
      rw [add_block, add_block] at this
      simp only at this ⊢
      omega
    have hgx : Gives Try.prog (Instr.indexAt 40 (.pointer (some ⟨g, 0, none⟩)) (.int .i64 p.1)) (.pointer (some (Addr.add ⟨g, 0, none⟩ (kk * 1)))) := by
      rw [hkk]
      exact gives_index_arr (e := 2) (by kernel_rfl) (by kernel_rfl) hkk4
    refine ⟨_, hgx, _, hx, _, hgx, ?_⟩
    have hsz := hA.size
    refine go_evo_too hA (by intro d hd; simp at hd; omega) fun w26 hA26 hev => ?_
    have ho26 := (ho.more (gs' := [n1, n22]) (by intro g' h1 h2; simp at h1 h2; omega)).evo (by intro d hd h2; simp at hd h2; omega) hev
    rw [wrap_i64 (by omega) (by omega)]
    refine opw_store (y := sumK p.1 (l.take k) + p.2.2) (i := kk) hA26 ho26 (by simp) (by simpa [sumL] using hkk4) rfl rfl rfl (by kernel_rfl) (fun w28 hA28 hk28 _ ho28 => ⟨hk28, ⟨⟨hA28.below, fun g hg => hA28.under g (by simp at hg ⊢; omega)⟩, k + 1, rfl, by omega, ?_⟩, by show l.length - ((k + 1 : Nat) : Int).toNat < l.length - (k : Int).toNat; omega⟩) (fun g' hg' => by cases hg'; exact addr_add _ _ _ ▸ (by simp))
    rw [← hset] at ho28
    exact ho28.more (by intro g' h1 h2; simp at h1 h2; omega)
  · have hke : k = l.length := by omega
    subst hke
    rw [List.take_length] at ho
    refine ⟨_, _, _, _, rdA ho, ?_⟩
    refine go_evo hA (by intro d hd; simp at hd; omega) fun _ hA => ?_
    exact leaf h hA (by rw [ofV, if_pos hv])
end Go.Vc.B
