/- Own text of this claim: Hp5. -/
import Derived.Test.YtkbjdkkpjjlbeaaHp4
set_option maxRecDepth 20000
namespace Go.Vc.H
open Go Go.Vc Go.RowKit Go.Proofs Vcc

variable {w W W' : World} {M : Nat → Prop} {gs : List Nat} {g c r : Nat} {a : Option Addr} {l pl : List It} {st : Int}

/-- Rise, then sink, from a place of the key's own on. -/
theorem at_settle {key : Int} {V : Value} {x : It} {i : Nat} {R : Ending → World → Prop} (hA : AtF w M gs W) (hx : l[i]? = some x) (hk : x.1 = key) (hU : Up l i) (hP : PlOk l pl) (hl : l.length < 1099511627776) (hs : 0 ≤ st ∧ st < 2305843009213693952 + 8796093022208) (H : HpR w M gs W g a c r l pl st)
    (hR : ∀ a' c' l' pl' st' W', AtF w M gs W' → Same l l' → PlOk l' pl' → Heap l' → st ≤ st' → st' ≤ st + 2 * lev (l.length - 1) → HpR w M gs W' g a' c' r l' pl' st' → R (.returned V) W') :
    Calls Try.prog 34 #[hpV g, .int .i64 (i : Int)] W fun e w1 => e = .returned (.tuple #[]) ∧ ∃ ad : Addr, some (Addr.mk g 0 none) = some ad ∧ ∃ r43 : Option Nat, Reads Try.prog [] (Instr.loadAt 37 (.pointer (some (Addr.mk ad.block (ad.off + 1) none)))) w1 (.map r43) ∧ ∃ x44 : Int, Reads Try.prog [] (Instr.lookup 37 (.map r43) (.int .i64 key) false) w1 (.int .i64 x44) ∧ Calls Try.prog 35 #[hpV g, .int .i64 x44] w1 fun e w2 => e = .returned (.tuple #[]) ∧ R (.returned V) w2 := by
  subst hk
  have hil := (List.getElem?_eq_some_iff.1 hx).1
  refine at_hp hA H (c34 i x hx hU hP hl (by omega) H.entry) fun a1 c1 l1 pl1 st1 w1 hA _ _ hΦ H1 _ => ⟨rfl, ?_⟩
  obtain ⟨j, n, hS, hP1, hD, hj, hn, rfl⟩ := hΦ
  have hlook := reads_lookup1 K2 t37 z2 H1.map x.1 (ds := []) (by simp)
  rw [hP1.fwd j x hj] at hlook
  refine ⟨_, rfl, _, H1.rdM nog, _, hlook, ?_⟩
  have hlm := lev_mono (l.length - 1) i (by omega)
  have := lev_le (l.length - 1)
  have hS1 := hS.1
  refine at_hp hA H1 (c35 j x hj hD hP1 (by omega) (by omega) H1.entry) fun a2 c2 l2 pl2 st2 w2 hA _ _ hΦ H2 _ => ⟨rfl, ?_⟩
  obtain ⟨n2, hS2, hP2, hH2, hn2, rfl⟩ := hΦ
  rw [hS1] at hn2
  exact hR _ _ _ _ _ _ hA (hS.trans hS2) hP2 hH2 (by omega) (by omega) H2

/-- What putting leaves. -/
def PutP (k t : Int) (l : List It) (st : Int) (l' pl' : List It) (st' : Int) : Prop :=
  Heap l' ∧ PlOk l' pl' ∧ l'.length ≤ l.length + 1 ∧ (∀ y, y ∈ l' ↔ y = (k, t) ∨ (y ∈ l ∧ y.1 ≠ k)) ∧ st ≤ st' ∧ st' ≤ st + 2 * lev (l'.length - 1)

theorem c10 (k t : Int) (I : Inv l pl st) (H : HpR W (fpH g a r) [] W g a c r l pl st) :
    RetF Try.prog 10 #[hpV g, .int .i64 k, .int .i64 t] W (fpH g a r) (fun v W' => v = .bool (!(mget k pl).isSome) ∧ ∃ l' pl' st', PutP k t l st l' pl' st' ∧ HpPost W g a r W' l' pl' st') := by
  intro R h
  refine f10_calls _ _ _ W R ?_
  unfold f10_vc
  have hA : AtF W (fpH g a r) [] W := AtF.refl W _
  have i1 := I.len
  have i2 := I.st0
  have i3 := I.st1
  refine at_callb hA (c32 H) fun w2 hA _ hb => ⟨_, rfl, brB (fun e => by cases e) (fun _ => ?_)⟩
  have H := H.call hb
  have hlook := reads_lookup2 K2 t37 z2 H.map k (ds := []) (by simp)
  cases hm : mget k pl with
  | none =>
    rw [hm] at hlook
    refine ⟨_, rfl, _, H.rdM nog, _, _, hlook, brB (fun _ => ?_) (fun e => by cases e)⟩
    refine ⟨_, rfl, _, _, _, H.rdI nog, _, rfl, _, _, _, H.rdI nog, ?_⟩
    refine opw_push0 (bytes := 16) (e' := 80) hA H.items ((0, 0) : It) (by kernel_rfl) (by kernel_rfl) rfl (fun _ _ => rfl) (by simp [Value.oneCell']) (by omega) (by decide) fun a' c' w3 hA hi hg hown => ⟨_, rfl, ?_⟩
    have hgb : w3.heap[g]? = some (.cells (hpC a l.length c r st).toArray 39 (0, 0)) := by
      rw [hg.block g (H.lt g (.inl rfl)) (fun e => H.gi (e.symm))]
      exact H.blk
    have hmap : OwnM W (fpH g a r) [] w3 r (Value.int .i64) (Value.int .i64) pl := by
      obtain ⟨es, cl, hr, rest⟩ := H.map.obj
      exact ⟨H.map.mine, H.map.apart, es, cl, by rw [hg.block r H.map.lt (fun e => H.ri (e.symm))]; exact hr, rest⟩
    refine opw_items hA hgb H.mine H.apart hi rfl hmap fun w4 hA _ H => ?_
    refine at_hp hA H (c33 (k, t) l.length (by simp) H.entry) fun a2 c2 l2 pl2 st2 w5 hA _ _ hΦ H _ => ⟨rfl, ?_⟩
    obtain ⟨rfl, rfl, e3⟩ := hΦ
    rw [e3] at H
    have hlen : ((l ++ [((0, 0) : It)]).set l.length (k, t)).length = l.length + 1 := by simp
    refine at_settle hA (x := (k, t)) (by simp) rfl (up_push (k, t) (0, 0) I.heap) (plok_new (x := (k, t)) I.pl hm) (by omega) (by omega) H fun a' c' l' pl' st' W' hA hS hP hH h1 h2 H => ?_
    refine leafF h hA ⟨by rw [hm]; rfl, l', pl', st', ⟨hH, hP, ?_, fun y => (hS.2 y).trans (mem_new (x := (k, t)) I.pl hm y), h1, ?_⟩, a', c', H⟩
    · rw [hS.1, hlen]; exact Nat.le_refl _
    · rw [hS.1]; exact h2
  | some v =>
    rw [hm] at hlook
    obtain ⟨i, t0, rfl, hi⟩ := I.pl.some_of hm
    have hil := (List.getElem?_eq_some_iff.1 hi).1
    refine ⟨_, rfl, _, H.rdM nog, _, _, hlook, brB (fun e => by cases e) (fun _ => ?_)⟩
    refine at_hp hA H (c33 (k, t) i hil H.entry) fun a2 c2 l2 pl2 st2 w5 hA _ _ hΦ H _ => ⟨rfl, ?_⟩
    obtain ⟨rfl, rfl, e3⟩ := hΦ
    rw [e3] at H
    refine at_settle hA (x := (k, t)) (by simp [hil]) rfl (up_set (k, t) I.heap) (plok_old (x := (k, t)) I.pl hi hm) (by rw [List.length_set]; omega) (by omega) H fun a' c' l' pl' st' W' hA hS hP hH h1 h2 H => ?_
    refine leafF h hA ⟨by rw [hm]; rfl, l', pl', st', ⟨hH, hP, ?_, fun y => (hS.2 y).trans (mem_old (x := (k, t)) I.pl hi y), h1, ?_⟩, a', c', H⟩
    · rw [hS.1, List.length_set]; omega
    · rw [hS.1]; exact h2

/-- What dropping leaves. -/
def DropP (k : Int) (l : List It) (st : Int) (l' pl' : List It) (st' : Int) : Prop :=
  Heap l' ∧ PlOk l' pl' ∧ l'.length ≤ l.length ∧ (∀ y, y ∈ l' ↔ y ∈ l ∧ y.1 ≠ k) ∧ st ≤ st' ∧ st' ≤ st + 2 * lev (l.length - 1) ∧ ((∃ y ∈ l, y.1 = k) → l'.length < l.length)

theorem c14 (k : Int) (I : Inv l pl st) (H : HpR W (fpH g a r) [] W g a c r l pl st) :
    RetF Try.prog 14 #[hpV g, .int .i64 k] W (fpH g a r) (fun v W' => v = .bool (mget k pl).isSome ∧ ∃ l' pl' st', DropP k l st l' pl' st' ∧ HpPost W g a r W' l' pl' st') := by
  intro R h
  refine f14_calls _ _ W R ?_
  unfold f14_vc
  have hA : AtF W (fpH g a r) [] W := AtF.refl W _
  have i1 := I.len
  have i2 := I.st0
  have i3 := I.st1
  refine at_callb hA (c32 H) fun w2 hA _ hb => ⟨_, rfl, brB (fun e => by cases e) (fun _ => ?_)⟩
  have H := H.call hb
  have hlook := reads_lookup2 K2 t37 z2 H.map k (ds := []) (by simp)
  cases hm : mget k pl with
  | none =>
    rw [hm] at hlook
    refine ⟨_, rfl, _, H.rdM nog, _, _, hlook, brB (fun _ => ?_) (fun e => by cases e)⟩
    exact leafF h hA ⟨by rw [hm]; rfl, l, pl, st, ⟨I.heap, I.pl, Nat.le_refl _, fun y => ⟨fun hy => ⟨hy, I.pl.none_of hm y hy⟩, (·.1)⟩, by omega, by omega, fun ⟨y, hy, e⟩ => absurd e (I.pl.none_of hm y hy)⟩, a, c, H⟩
  | some v =>
    rw [hm] at hlook
    obtain ⟨i, t0, rfl, hi⟩ := I.pl.some_of hm
    have hil := (List.getElem?_eq_some_iff.1 hi).1
    have en : IntKind.i64.wrap ((l.length : Int) - 1) = ((l.length - 1 : Nat) : Int) := by
      rw [wrap_i64 (by omega) (by omega)]; omega
    obtain ⟨y, hy⟩ : ∃ y, l[l.length - 1]? = some y := ⟨_, List.getElem?_eq_getElem (by omega)⟩
    obtain ⟨ad, g1, r1, -⟩ := H.item (ds := []) hy (by simp)
    refine ⟨_, rfl, _, H.rdM nog, _, _, hlook, brB (fun e => by cases e) (fun _ => ?_)⟩
    refine ⟨_, rfl, _, _, _, H.rdI nog, _, rfl, _, _, _, H.rdI nog, _, (by rw [en]; exact g1), _, _, r1, ?_⟩
    refine fun n1 hn1 => ⟨r1, H.rdI nog, H.rdI nog, ?_⟩
    have hsz := hA.size
    have hd : ∀ d ∈ [n1], d ≠ g := by
      have := H.lt g (.inl rfl)
      simp; omega
    obtain ⟨gi, cur, rfl, _, _, hlc, _⟩ := H.items.ptr (by omega)
    refine ⟨_, rfl, _, _, _, H.rdI hd, _, rfl, _, _, _, H.rdI hd, _, _, _, (by rw [en]; exact gives_to (e := 80) (size := 2) (by omega) hlc (by kernel_rfl) (by kernel_rfl)), _, rfl, ?_⟩
    refine go_evo_too hA (by intro d hd; simp at hd; omega) fun w3 hA hev => ?_
    have H := (H.more (gs' := [n1]) (by intro q hq _; simp at hq; omega)).evo (by intro d hd hn; simp at hd hn; omega) hev
    refine opw_items hA H.blk H.mine H.apart (OwnF.take (l.length - 1) H.items (by omega) (fun _ _ => rfl)) (by simp) H.map fun w4 hA hk4 H => ⟨hk4, _, rfl, _, H.rdM nog, ?_⟩
    refine opw_delete K2 t37 hA H.map fun w5 hA hk5 hc5 hm5 => ⟨rfl, hk5, ?_⟩
    have H : HpR W (fpH g (some ⟨gi, 0, none⟩) r) [n1] w5 g (some ⟨gi, 0, none⟩) c r (l.take (l.length - 1)) (mdel k pl) st := ⟨by rw [hc5.block g (H.lt g (.inl rfl)) H.gr]; exact H.blk, H.mine, H.apart, H.items.chg hc5 (fun k hk e => H.ri (by rw [← e]; exact hk)), hm5⟩
    refine brN (fun hne => ?_) (fun he => ?_)
    · have hne' : i < l.length - 1 := by
        have : i ≠ l.length - 1 := fun e => by
          subst e
          rw [hi] at hy
          cases hy
          exact hne rfl
        omega
      refine at_hp hA H (c33 y i (by rw [List.length_take]; omega) H.entry) fun a6 c6 l6 pl6 st6 w6 hA hk6 _ hΦ H _ => ⟨rfl, hk6, ?_⟩
      obtain ⟨rfl, rfl, e3⟩ := hΦ
      rw [e3] at H
      have hlen : ((l.take (l.length - 1)).set i y).length = l.length - 1 := by simp
      have hP := plok_mid I.pl hi hy hne'
      have hx : ((l.take (l.length - 1)).set i y)[i]? = some y := by simp [List.getElem?_set]; omega
      refine at_hp hA H (c34 i y hx (up_set y (heap_take _ I.heap)) hP (by omega) (by omega) H.entry) fun a1 c1 l1 pl1 st1 w1 hA hk7 _ hΦ H1 _ => ⟨rfl, hk7, ?_⟩
      obtain ⟨j, n, hS, hP1, hD, hj, hn, rfl⟩ := hΦ
      have hlook := reads_lookup1 K2 t37 z2 H1.map y.1 (ds := []) (by simp)
      rw [hP1.fwd j y hj] at hlook
      refine ⟨_, rfl, _, H1.rdM nog, _, hlook, ?_⟩
      refine go_below_too hA fun w8 hA hb8 => ?_
      have H1 := H1.call hb8
      have hlm := lev_mono (l.length - 1) i (by omega)
      have := lev_le (l.length - 1)
      have hS1 := hS.1
      refine at_hp hA H1 (c35 j y hj hD hP1 (by omega) (by omega) H1.entry) fun a2 c2 l2 pl2 st2 w2 hA hk9 _ hΦ H2 _ => ⟨rfl, hk9, H2.rdM nog, ?_⟩
      obtain ⟨n2, hS2, hP2, hH2, hn2, rfl⟩ := hΦ
      have hlm2 := lev_mono (l.length - 1) (l1.length - 1) (by omega)
      refine leafF h hA ⟨by rw [hm]; rfl, l2, pl2, _, ⟨hH2, hP2, ?_, fun z => ((hS.trans hS2).2 z).trans (mem_mid I.pl hi hy hne' z), by omega, by omega, fun _ => ?_⟩, _, _, H2.more (by simp)⟩
      · rw [hS2.1, hS.1, hlen]; omega
      · rw [hS2.1, hS.1, hlen]; omega
    · have e : y.1 = k := he
      refine leafF h hA ⟨by rw [hm]; rfl, _, _, _, ⟨heap_take _ I.heap, (by rw [← e]; exact plok_last I.pl hy), by rw [List.length_take]; omega, fun z => (by rw [← e]; exact mem_last I.pl hy z), by omega, by omega, fun _ => by rw [List.length_take]; omega⟩, _, _, H.more (by simp)⟩
end Go.Vc.H
