/- Own text of this claim: Hp2. -/
import Derived.Test.YtkbjdkkpjjlbeaaHp1
import Derived.Test.YtkbjdkkpjjlbeaaVcMath
set_option maxRecDepth 20000
namespace Go.Vc.H
open Go Go.Vc Go.RowKit Go.Proofs Vcc

variable {w W W' : World} {M : Nat → Prop} {gs : List Nat} {g c r : Nat} {a : Option Addr} {l pl : List It} {st : Int}

/-- The count of steps set. -/
theorem opw_st {v : Int} {K : Value → World → Prop} (hA : AtF w M gs W) (H : HpR w M gs W g a c r l pl st)
    (h : ∀ w', AtF w M gs w' → Keeps gs W w' → HpR w M gs w' g a c r l pl v → K undef w') : OpW Try.prog (skipS (Instr.storeAt 3 (.pointer (some ⟨g, 0 + 2, none⟩)) (.int .i64 v))) W K := by
  refine opw_storeF hA H.blk H.mine H.apart (cells' := hpC a l.length c r v) (by kernel_rfl) fun w' hA' hk hc hb => h w' hA' hk ⟨hb, H.mine, H.apart, H.items.chg hc (fun k hk' e => H.gi (by rw [← e]; exact hk')), H.map.chg hc (fun e => H.gr e.symm)⟩

theorem c49 (i k : Nat) (x y : It) (hi : l[i]? = some x) (hk : l[k]? = some y) (hs : 0 ≤ st ∧ st + 1 < 9223372036854775808) (H : HpR W (fpH g a r) [] W g a c r l pl st) :
    RetF Try.prog 49 #[hpV g, .int .i64 (i : Int), .int .i64 (k : Int)] W (fpH g a r) (fun v W' => v = .tuple #[] ∧ ∃ l' pl' st', (l' = swapL l i k x y ∧ pl' = mset x.1 (k : Int) (mset y.1 (i : Int) pl) ∧ st' = st + 1) ∧ HpPost W g a r W' l' pl' st') := by
  intro R h
  refine f49_calls _ _ _ W R ?_
  unfold f49_vc
  have hA : AtF W (fpH g a r) [] W := AtF.refl W _
  have hil := (List.getElem?_eq_some_iff.1 hi).1
  have hkl := (List.getElem?_eq_some_iff.1 hk).1
  have key : ∀ (gs : List Nat) (w5 : World), AtF W (fpH g a r) gs w5 → HpR W (fpH g a r) gs w5 g a c r l pl st → Calls Try.prog 33 #[hpV g, .int .i64 (i : Int), .agg #[.int .i64 y.1, .int .i64 y.2]] w5 fun e w1 => e = .returned (.tuple #[]) ∧ Keeps gs w5 w1 ∧ Calls Try.prog 33 #[hpV g, .int .i64 (k : Int), .agg #[.int .i64 x.1, .int .i64 x.2]] w1 fun e w2 => e = .returned (.tuple #[]) ∧ Keeps gs w1 w2 ∧ ∃ ad : Addr, some ⟨g, 0, none⟩ = some ad ∧ ∃ x23 : Int, Reads Try.prog [] (Instr.loadAt 3 (.pointer (some (Addr.mk ad.block (ad.off + 2) none)))) w2 (.int .i64 x23) ∧ ∃ ad24 : Addr, some ⟨g, 0, none⟩ = some ad24 ∧ OpW Try.prog (skipS (Instr.storeAt 3 (.pointer (some (Addr.mk ad24.block (ad24.off + 2) none))) (.int .i64 (IntKind.i64.wrap (x23 + 1))))) w2 fun _ w3 => Keeps gs w2 w3 ∧ R (.returned (.tuple #[])) w3 := by
    intro gs w5 hA H
    refine at_hp hA H (c33 y i hil H.entry) fun a1 c1 l1 pl1 st1 w1 hA hk1 _ hΦ H1 _ => ⟨rfl, hk1, ?_⟩
    obtain ⟨rfl, rfl, rfl⟩ := hΦ
    refine at_hp hA H1 (c33 x k (by rw [List.length_set]; exact hkl) H1.entry) fun a2 c2 l2 pl2 st2 w2 hA hk2 _ hΦ H2 _ => ⟨rfl, hk2, ?_⟩
    obtain ⟨rfl, rfl, rfl⟩ := hΦ
    refine ⟨_, rfl, _, H2.rdS nog, _, rfl, opw_st hA H2 fun w3 hA hk3 H3 => ⟨hk3, ?_⟩⟩
    rw [wrap_i64 (by omega) (by omega)] at H3
    exact leafF h hA ⟨rfl, _, _, _, ⟨rfl, rfl, rfl⟩, _, _, H3.more (by simp)⟩
  obtain ⟨ad1, g1, r1, -⟩ := H.item (ds := []) hi (by simp)
  obtain ⟨ad2, g2, r2, -⟩ := H.item (ds := []) hk (by simp)
  refine ⟨_, rfl, _, _, _, H.rdI nog, _, g1, _, _, r1, _, rfl, _, _, _, H.rdI nog, _, g2, _, _, r2, ?_, ?_⟩
  all_goals
    refine go_n hA fun n1 h1 => ⟨r2, H.rdI nog, r1, H.rdI nog, ?_⟩
    refine go_n hA fun n2 h2 => ?_
    have rr : ∀ n, W.heap.size ≤ n → Reads Try.prog [n] (Instr.loadAt 80 (.pointer (some ad2))) W (.agg #[.int .i64 y.1, .int .i64 y.2]) ∧ Reads Try.prog [n] (Instr.loadAt 36 (hpV g)) W (.slice a l.length c) := by
      intro n hn
      obtain ⟨ad2', g2', r2', -⟩ := H.item (ds := [n]) hk (by simpa using hn)
      obtain rfl : ad2' = ad2 := by
        have := (g2' W).symm.trans (g2 W)
        simpa using this
      refine ⟨r2', H.rdI fun d hd => ?_⟩
      have := H.lt g (.inl rfl)
      simp at hd
      omega
    refine ⟨r2, H.rdI nog, r1, H.rdI nog, (rr _ (by assumption)).1, (rr _ (by assumption)).2, ?_⟩
    refine go_evo_too hA (by intro d hd; simp at hd; omega) fun w5 hA hev => ?_
    exact key _ w5 hA ((H.more (by intro q hq _; simp at hq; omega)).evo (by intro d hd hn; simp at hd hn; omega) hev)
end Go.Vc.H
