/- Own text of this claim: Td1. -/
import Derived.Test.YtfipbnoidoljoaaFd1
import Derived.Test.YtfipbnoidoljoaaVcStore
import Derived.Test.YtfipbnoidoljoaaVcMath
import Derived.Test.YtfipbnoidoljoaaTrM
set_option maxRecDepth 20000
namespace Go.Vc.T
open Go Go.Vc Go.RowKit Go.Proofs Vcd1

abbrev ndC (k : Int) (l r : Option Addr) (x y : Int) : List Value := [.int .i64 k, .pointer l, .pointer r, .int .i64 x, .int .i64 y]
abbrev pt (b : Nat) : Option Addr := some ⟨b, 0, none⟩
abbrev RawN (W : World) (b : Nat) (k : Int) (l r : Option Addr) (x y : Int) : Prop := W.heap[b]? = some (.cells (ndC k l r x y).toArray 116 (0, 0))

/-- A tree in memory, each node in a block of its own. -/
def Rep (W : World) : Tr Int → Option Addr → List Nat → Prop
  | .nil, p, bs => p = none ∧ bs = []
  | .node l k r, p, bs => ∃ b pl pr bl br, p = pt b ∧ RawN W b k pl pr ((l.size + r.size + 1 : Nat) : Int) ((max l.height r.height + 1 : Nat) : Int) ∧ Rep W l pl bl ∧ Rep W r pr br ∧ bs = b :: (bl ++ br) ∧ (b :: (bl ++ br)).Nodup
/-- A node with its sides; how many and how deep may be out of date. -/
structure Nd (W : World) (b : Nat) (k : Int) (pl pr : Option Addr) (l r : Tr Int) (bl br : List Nat) : Prop where
  raw : ∃ x y : Int, RawN W b k pl pr x y
  rl : Rep W l pl bl
  rr : Rep W r pr br
  nd : (b :: (bl ++ br)).Nodup

section
variable {w W W' : World} {M : Nat → Prop} {gs : List Nat} {b : Nat} {k : Int} {p pl pr : Option Addr} {t l r : Tr Int} {bs bl br : List Nat}

theorem Rep.keep : ∀ {t : Tr Int} {p : Option Addr} {bs : List Nat}, Rep W t p bs → (∀ q ∈ bs, W'.heap[q]? = W.heap[q]?) → Rep W' t p bs
  | .nil, _, _, h, _ => h
  | .node l k r, _, _, ⟨b, pl, pr, bl, br, hp, hr, h1, h2, hb, hn⟩, hc => by
    subst hb
    exact ⟨b, pl, pr, bl, br, hp, by rw [RawN, hc b (by simp)]; exact hr, Rep.keep h1 fun q hq => hc q (by simp [hq]), Rep.keep h2 fun q hq => hc q (by simp [hq]), rfl, hn⟩
theorem Rep.lt : ∀ {t : Tr Int} {p : Option Addr} {bs : List Nat}, Rep W t p bs → ∀ q ∈ bs, q < W.heap.size
  | .nil, _, _, ⟨_, hb⟩, q, hq => by subst hb; cases hq
  | .node l k r, _, _, ⟨b, pl, pr, bl, br, hp, hr, h1, h2, hb, hn⟩, q, hq => by
    subst hb
    rcases List.mem_cons.1 hq with e | hq
    · subst e; exact (Array.getElem?_eq_some_iff.1 hr).1
    · rcases List.mem_append.1 hq with hq | hq
      · exact Rep.lt h1 q hq
      · exact Rep.lt h2 q hq
theorem Rep.nodup : ∀ {t : Tr Int} {p : Option Addr} {bs : List Nat}, Rep W t p bs → bs.Nodup
  | .nil, _, _, ⟨_, hb⟩ => by subst hb; exact List.nodup_nil
  | .node _ _ _, _, _, ⟨_, _, _, _, _, _, _, _, _, hb, hn⟩ => by subst hb; exact hn
theorem Rep.call (h : Rep W t p bs) (hb : Bel W W') : Rep W' t p bs := h.keep fun q hq => hb.block (h.lt q hq)
theorem Rep.chg {N : Nat → Prop} (h : Rep W t p bs) (hc : Chg N W W') (hn : ∀ q ∈ bs, ¬ N q) : Rep W' t p bs := h.keep fun q hq => hc.block q (h.lt q hq) (hn q hq)
theorem Nd.blt (h : Nd W b k pl pr l r bl br) : b < W.heap.size := by
  obtain ⟨x, y, hr⟩ := h.raw
  exact (Array.getElem?_eq_some_iff.1 hr).1
theorem Nd.keep (h : Nd W b k pl pr l r bl br) (hc : ∀ q ∈ b :: (bl ++ br), W'.heap[q]? = W.heap[q]?) : Nd W' b k pl pr l r bl br := by
  obtain ⟨x, y, hr⟩ := h.raw
  exact ⟨⟨x, y, by rw [RawN, hc b (by simp)]; exact hr⟩, h.rl.keep fun q hq => hc q (by simp [hq]), h.rr.keep fun q hq => hc q (by simp [hq]), h.nd⟩
theorem Nd.lt (h : Nd W b k pl pr l r bl br) : ∀ q ∈ b :: (bl ++ br), q < W.heap.size := fun q hq => by
  rcases List.mem_cons.1 hq with e | hq
  · subst e; exact h.blt
  · rcases List.mem_append.1 hq with hq | hq
    · exact h.rl.lt q hq
    · exact h.rr.lt q hq
theorem Nd.call (h : Nd W b k pl pr l r bl br) (hb : Bel W W') : Nd W' b k pl pr l r bl br := h.keep fun q hq => hb.block (h.lt q hq)
theorem Rep.node (h : Rep W (.node l k r) p bs) : ∃ b pl pr bl br, p = pt b ∧ bs = b :: (bl ++ br) ∧ Nd W b k pl pr l r bl br := by
  obtain ⟨b, pl, pr, bl, br, hp, hr, h1, h2, hb, hn⟩ := h
  exact ⟨b, pl, pr, bl, br, hp, hb, ⟨_, _, hr⟩, h1, h2, hn⟩

theorem rdL {ds : List Nat} {b : Nat} (h : Nd W b k pl pr l r bl br) (hd : ∀ d ∈ ds, d ≠ b) : Reads Try.prog ds (Instr.loadAt 43 (.pointer (some (Addr.mk b (0 + 1) none)))) W (.pointer pl) := by
  obtain ⟨x, y, hr⟩ := h.raw
  exact rd_f 0 hr rfl (by kernel_rfl) hd
theorem rdR {ds : List Nat} {b : Nat} (h : Nd W b k pl pr l r bl br) (hd : ∀ d ∈ ds, d ≠ b) : Reads Try.prog ds (Instr.loadAt 43 (.pointer (some (Addr.mk b (0 + 2) none)))) W (.pointer pr) := by
  obtain ⟨x, y, hr⟩ := h.raw
  exact rd_f 1 hr rfl (by kernel_rfl) hd
theorem rdK {ds : List Nat} {b : Nat} (h : Nd W b k pl pr l r bl br) (hd : ∀ d ∈ ds, d ≠ b) : Reads Try.prog ds (Instr.loadAt 3 (.pointer (pt b))) W (.int .i64 k) := by
  obtain ⟨x, y, hr⟩ := h.raw
  exact rd_f0 hr (by kernel_rfl) hd
theorem nod {b : Nat} : ∀ d ∈ ([] : List Nat), d ≠ b := fun _ h => by cases h
end

theorem c63 {W : World} {t : Tr Int} {p : Option Addr} {bs : List Nat} (H : Rep W t p bs) : Ret Try.prog 63 #[.pointer p] W (.int .i64 (t.size : Int)) := by
  intro R h
  refine f63_calls _ W R ?_
  unfold f63_vc
  cases t with
  | nil =>
    obtain ⟨rfl, _⟩ := H
    exact ⟨true, (fun W => rfl), brB (fun _ => leaf h (At.refl W) rfl) (fun e => by cases e)⟩
  | node l k r =>
    obtain ⟨b, pl, pr, bl, br, rfl, hr, _⟩ := H
    exact ⟨false, (fun W => rfl), brB (fun e => by cases e) (fun _ => ⟨_, rfl, _, rd_f 2 hr rfl (by kernel_rfl) nod, leaf h (At.refl W) rfl⟩)⟩
theorem c128 {W : World} {t : Tr Int} {p : Option Addr} {bs : List Nat} (H : Rep W t p bs) : Ret Try.prog 128 #[.pointer p] W (.int .i64 (t.height : Int)) := by
  intro R h
  refine f128_calls _ W R ?_
  unfold f128_vc
  cases t with
  | nil =>
    obtain ⟨rfl, _⟩ := H
    exact ⟨true, (fun W => rfl), brB (fun _ => leaf h (At.refl W) rfl) (fun e => by cases e)⟩
  | node l k r =>
    obtain ⟨b, pl, pr, bl, br, rfl, hr, _⟩ := H
    exact ⟨false, (fun W => rfl), brB (fun e => by cases e) (fun _ => ⟨_, rfl, _, rd_f 3 hr rfl (by kernel_rfl) nod, leaf h (At.refl W) rfl⟩)⟩

theorem c131 {W : World} {b : Nat} {k : Int} {pl pr : Option Addr} {l r : Tr Int} {bl br : List Nat} (H : Nd W b k pl pr l r bl br) (hs : l.size + r.size < 1152921504606846976) :
    RetF Try.prog 131 #[.pointer (pt b)] W (fun q => q = b) (fun v W' => v = .pointer (pt b) ∧ Rep W' (.node l k r) (pt b) (b :: (bl ++ br))) := by
  intro R h
  refine f131_calls _ W R ?_
  unfold f131_vc
  have hA : AtF W (fun q => q = b) [] W := AtF.refl W _
  have hnd := H.nd
  have hbl : ∀ q ∈ bl, ¬ q = b := fun q hq e => by subst e; simp [hq] at hnd
  have hbr : ∀ q ∈ br, ¬ q = b := fun q hq e => by subst e; simp [hq] at hnd
  refine ⟨_, rfl, _, rdL H nod, _, rfl, _, rdR H nod, go_below0_too hA fun w5 hA hb => ?_⟩
  have H := H.call hb
  refine at_callb hA (c63 H.rl) fun w7 hA _ hb => ⟨_, rfl, ?_⟩
  have H := H.call hb
  refine ⟨rdR H nod, at_callb hA (c63 H.rr) fun w10 hA _ hb => ⟨_, rfl, _, rfl, ?_⟩⟩
  have H := H.call hb
  have h1 := l.height_le
  have h2 := r.height_le
  have e1 : IntKind.i64.wrap (IntKind.i64.wrap ((l.size : Int) + (r.size : Int)) + 1) = ((l.size + r.size + 1 : Nat) : Int) := by
    rw [wrap_i64 (x := (l.size : Int) + (r.size : Int)) (by omega) (by omega), wrap_i64 (by omega) (by omega)]; rfl
  rw [e1]
  obtain ⟨x, y, hraw⟩ := H.raw
  refine opw_storeF hA hraw (.inr rfl) (by simp) (cells' := ndC k pl pr ((l.size + r.size + 1 : Nat) : Int) y) (by kernel_rfl) fun w14 hA _ hc hb14 => ?_
  have H14 : Nd w14 b k pl pr l r bl br := ⟨⟨_, _, hb14⟩, H.rl.chg hc hbl, H.rr.chg hc hbr, hnd⟩
  refine ⟨_, rfl, _, rdL H14 nod, _, rfl, _, rdR H14 nod, go_below0_too hA fun w19 hA hb => ?_⟩
  have hb19 : RawN w19 b k pl pr ((l.size + r.size + 1 : Nat) : Int) y := by rw [RawN, hb.block H14.blt]; exact hb14
  have H := H14.call hb
  refine at_callb hA (c128 H.rl) fun w21 hA _ hb => ⟨_, rfl, ?_⟩
  have hb21 : RawN w21 b k pl pr ((l.size + r.size + 1 : Nat) : Int) y := by rw [RawN, hb.block H.blt]; exact hb19
  have H := H.call hb
  refine ⟨rdR H nod, at_callb hA (c128 H.rr) fun w24 hA _ hb => ⟨_, rfl, _, rfl, ?_⟩⟩
  have hb24 : RawN w24 b k pl pr ((l.size + r.size + 1 : Nat) : Int) y := by rw [RawN, hb.block H.blt]; exact hb21
  have H := H.call hb
  have e2 : IntKind.i64.wrap ((if (r.height : Int) > (l.height : Int) then (r.height : Int) else (l.height : Int)) + 1) = ((max l.height r.height + 1 : Nat) : Int) := by
    have : (if (r.height : Int) > (l.height : Int) then (r.height : Int) else (l.height : Int)) = ((max l.height r.height : Nat) : Int) := by split <;> omega
    rw [this, wrap_i64 (by omega) (by omega)]; rfl
  rw [e2]
  refine opw_storeF hA hb24 (.inr rfl) (by simp) (cells' := ndC k pl pr ((l.size + r.size + 1 : Nat) : Int) ((max l.height r.height + 1 : Nat) : Int)) (by kernel_rfl) fun w28 hA _ hc hb28 => ?_
  exact leafF h hA ⟨rfl, b, pl, pr, bl, br, rfl, hb28, H.rl.chg hc hbl, H.rr.chg hc hbr, rfl, hnd⟩
end Go.Vc.T
