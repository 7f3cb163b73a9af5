/- Own texts of this claim, laid together: X10, X11. -/
import Derived.Test.YtcmojiajjlamiaaMg48a8725b

/- book.Right's parts: the ledger. -/
set_option maxRecDepth 20000
set_option maxHeartbeats 1000000
namespace Go.Vc.W
open Go Go.Vc Go.Vc.V Go.RowKit Go.Proofs Vcw Vcxa

variable {w W W' : World} {M : Nat → Prop} {gs : List Nat} {g q r : Nat}

theorem KI : KeyOk Try.prog 2 (Value.int .i64) := keyOk_int (by kernel_rfl)
theorem t109 : Try.prog.underlying 109 = some (.map 2 33) := by kernel_rfl
theorem z109 : pureRun Try.prog (zeroValue 33) = some (.slice none 0 0) := by kernel_rfl
abbrev SlV := (Option Addr × Nat × Nat) × List PartT
abbrev sv (x : SlV) : Value := .slice x.1.1 x.1.2.1 x.1.2.2
abbrev ElR (W : World) (x : SlV) : Prop := OwnF W (fun _ => True) [] W 66 3 partE (sv x) x.2
/-- The ledger's boxes: the map's, the bool's, the map itself, whose rows lie in blocks of parts. -/
structure Led (W : World) (g q r : Nat) (m : List (Int × SlV)) : Prop where
  tb : W.heap[g]? = some (.cells ([.map (some r)] : List Value).toArray 109 (0, 0))
  bb : ∃ b, W.heap[q]? = some (.cells ([.bool b] : List Value).toArray 4 (0, 0))
  mp : OwnM W (fun _ => True) [] W r (Value.int .i64) sv m
  el : ∀ k x, mget k m = some x → ElR W x
theorem ElR.re {x : SlV} (h : ElR W x) (hk : ∀ k, (sv x).ownBlock = some k → W'.heap[k]? = W.heap[k]?) : ElR W' x := (h.keep hk).base (fun _ _ => .inr trivial) (fun _ h => by cases h)
theorem Led.call {m : List (Int × SlV)} (h : Led W g q r m) (hb : Bel W W') : Led W' g q r m := by
  obtain ⟨b, hq⟩ := h.bb
  refine ⟨(hb.block (Array.getElem?_eq_some_iff.1 h.tb).1).trans h.tb, ⟨b, (hb.block (Array.getElem?_eq_some_iff.1 hq).1).trans hq⟩, ⟨.inr trivial, (fun e => by cases e), ?_⟩, fun k x hx => (h.el k x hx).re fun k' hk' => hb.block ((h.el k x hx).lt k' hk')⟩
  exact (h.mp.call hb).obj
theorem c83 {m : List (Int × SlV)} {v : List PartT} {a : Option Addr} {n c : Nat} (agent : Int) (h : Led W g q r m) (hv : SlE W 3 partE v a n c) : RetF Try.prog 83 #[.int .i64 agent, .slice a n c, .pointer (some ⟨g, 0, none⟩), .pointer (some ⟨q, 0, none⟩)] W (fun b => b = r ∨ b = q) fun u W' => u = .tuple #[] ∧ ∃ m', Led W' g q r m' := by
  intro R hR
  refine f83_calls _ _ _ _ _ _ W R ?_
  unfold f83_vc
  have hA : AtF W (fun b => b = r ∨ b = q) [] W := AtF.refl W _
  have hl := reads_lookup1 (z := .slice none 0 0) KI t109 z109 h.mp agent (ds := []) (by intro d hd; cases hd)
  obtain ⟨s, hs1, hs2⟩ : ∃ s : SlV, Reads Try.prog [] (Instr.lookup 109 (.map (some r)) (.int .i64 agent) false) W (sv s) ∧ SlE W 3 partE s.2 s.1.1 s.1.2.1 s.1.2.2 := by
    cases e : mget agent m with
    | none => rw [e] at hl; exact ⟨((none, 0, 0), []), hl, OwnL.nil.sl (w := W) (gs := []) (e := 66) (by simp)⟩
    | some x => rw [e] at hl; exact ⟨x, hl, (h.el _ _ e).sl (fun _ _ => rfl)⟩
  refine ⟨_, rd_f0 h.tb (by kernel_rfl) (by simp), _, _, _, hs1, ?_⟩
  obtain ⟨L, ok, hc⟩ : ∃ L ok, RetLB Try.prog 84 #[.slice s.1.1 s.1.2.1 s.1.2.2, .slice a n c] W 66 3 partE L ok := ⟨_, _, c102e W hs2 hv⟩
  refine at_calllb hA hc (fun _ _ => rfl) fun a7 c9 w6 hA hk hb6 ho _ => ⟨_, _, _, _, rfl, ?_⟩
  have h6 := h.call hb6
  obtain ⟨b12, hq6⟩ := h6.bb
  have hgq : g ≠ q := cells_ne h6.tb hq6 (by decide)
  obtain ⟨es, cl, hr6, _⟩ := h6.mp.obj
  have hgr : g ≠ r := cells_map h6.tb hr6
  have hqr : q ≠ r := cells_map hq6 hr6
  have fin : ∀ (b : Bool), OpW Try.prog (skipS (Instr.mapUpdate 109 (.map (some r)) (.int .i64 agent) (.slice a7 L.length c9))) w6 fun _ w14 => OpW Try.prog (skipS (Instr.storeAt 4 (.pointer (some ⟨q, 0, none⟩)) (.bool b))) w14 fun _ w16 => R (.returned (.tuple #[])) w16 := fun b => by
    refine opw_mapUpdate (kf := Value.int .i64) (vf := sv) (k := agent) (v := ((a7, L.length, c9), L)) (kt := 2) (et := 33) KI t109 hA (⟨.inr (.inl rfl), (fun e => by cases e), h6.mp.obj⟩ : OwnM W (fun b => b = r ∨ b = q) [] w6 r (Value.int .i64) sv m) fun w14 hA14 _ hch14 ho14 => ?_
    have hq14 : w14.heap[q]? = some (.cells ([.bool b12] : List Value).toArray 4 (0, 0)) := (hch14.block q (Array.getElem?_eq_some_iff.1 hq6).1 hqr).trans hq6
    have hg14 : w14.heap[g]? = some (.cells ([.map (some r)] : List Value).toArray 109 (0, 0)) := (hch14.block g (Array.getElem?_eq_some_iff.1 h6.tb).1 hgr).trans h6.tb
    refine opw_storeF hA14 hq14 (.inr (.inr rfl)) (by simp) (cells' := [.bool b]) (by kernel_rfl) fun w16 hA16 _ hch16 hq16 => ?_
    obtain ⟨es14, cl14, hr14, rest14⟩ := ho14.obj
    refine hR _ _ hA16.chg ⟨rfl, _, (hch16.block g (Array.getElem?_eq_some_iff.1 hg14).1 hgq).trans hg14, ⟨b, hq16⟩, ⟨.inr trivial, (fun e => by cases e), es14, cl14, (hch16.block r (Array.getElem?_eq_some_iff.1 hr14).1 (Ne.symm hqr)).trans hr14, rest14⟩, fun k x hx => ?_⟩
    have key : ∀ {x : SlV}, ElR w6 x → ElR w16 x := fun hx => hx.re fun k' hk' => by
      obtain ⟨cur, hcur⟩ := hx.blk hk'
      have hl := (Array.getElem?_eq_some_iff.1 hcur).1
      have e1 := hch14.block k' hl (cells_map hcur hr6)
      rw [hch16.block k' (Nat.lt_of_lt_of_le hl hch14.size) (cells_ne hcur hq6 (by decide)), e1]
    by_cases hka : k = agent
    · subst hka
      rw [mget_mset_self] at hx
      cases hx
      exact key (ho.base (fun _ _ => .inr trivial) (fun _ h => by cases h))
    · rw [mget_mset_ne _ hka] at hx
      exact key (h6.el k x hx)
  refine ⟨_, rd_f0 h6.tb (by kernel_rfl) (by simp), b12, rd_f0 hq6 (by kernel_rfl) (by simp), brB (fun _ => fin _) (fun _ => fin _)⟩
theorem c86 {m : List (Int × SlV)} {a1 a2 : Option Addr} {n1 c1 n2 c2 : Nat} {l1 : List PartT} (x : Int) (h : Led W g q r m) (h1 : SlE W 3 partE l1 a1 n1 c1) : RetBool 86 #[.agg #[.int .i64 x, .slice a1 n1 c1, .slice a2 n2 c2], .pointer (some ⟨g, 0, none⟩)] W := by
  intro R hR
  refine f86_calls _ _ _ _ _ _ _ _ W R ?_
  unfold f86_vc
  intro n1 hn1
  have hl := reads_lookup1 (z := .slice none 0 0) KI t109 z109 h.mp x (ds := []) (by intro d hd; cases hd)
  obtain ⟨s, hs1, hs2⟩ : ∃ s : SlV, Reads Try.prog [] (Instr.lookup 109 (.map (some r)) (.int .i64 x) false) W (sv s) ∧ SlE W 3 partE s.2 s.1.1 s.1.2.1 s.1.2.2 := by
    cases e : mget x m with
    | none => rw [e] at hl; exact ⟨((none, 0, 0), []), hl, OwnL.nil.sl (w := W) (gs := []) (e := 66) (by simp)⟩
    | some y => rw [e] at hl; exact ⟨y, hl, (h.el _ _ e).sl (fun _ _ => rfl)⟩
  refine ⟨_, rd_f0 h.tb (by kernel_rfl) (by simp), _, _, _, hs1, fun w6 hb6 hu6 => ?_⟩
  have hA : At W [n1] w6 := ⟨((At.refl W).call hb6).chg, hu6⟩
  exact at_callb hA (c87 w6 (hs2.call hb6) (h1.call hb6)) fun w8 hA hk _ => ⟨_, rfl, hk, hR _ _ hA.below ⟨_, rfl⟩⟩
/-- A call of a function's value that returns some bool. -/
def RetIB (fv : Value) (args : Array Value) (W : World) : Prop := ∀ K : Value → World → Prop, (∀ b w', Bel W w' → K (.bool b) w') → OpW Try.prog (invokeS fv args) W K
theorem RetIB.of {f : FuncId} {first cap args : Array Value} (he : pureRun Try.prog (invokeS (.func (.func f) first cap) args) = some (.enter f ((first ++ args) ++ cap))) (h : RetBool f ((first ++ args) ++ cap) W) : RetIB (.func (.func f) first cap) args W := fun _ hK => opw_invoke he (h _ fun v w' hb ⟨b, e⟩ => ⟨v, rfl, e ▸ hK b w' hb⟩)
theorem c61q {l : List AgT} {a : Option Addr} {n c : Nat} {fv : Value} (W : World) (hs : ∀ {W'}, Bel W W' → SlR W' 3 (agR W') l a n c) (hf : ∀ W' x a1 n1 c1 a2 n2 c2 (l1 : List PartT), Bel W W' → SlE W' 3 partE l1 a1 n1 c1 → RetIB fv #[.agg #[.int .i64 x, .slice a1 n1 c1, .slice a2 n2 c2]] W') : RetQ Try.prog 61 #[.slice a n c, fv] W fun v _ => ∃ k, v = .int .i64 k := by
  intro R h
  refine f61_calls a n c fv W R ?_
  unfold f61_vc
  have hn := (hs (At.refl W).below).len_le
  refine ⟨fun v W' => At W [] W' ∧ ∃ i : Nat, v.1 = i ∧ i ≤ l.length, fun v _ => (n - v.1).toNat, ⟨At.refl W, 0, rfl, Nat.zero_le _⟩, ?_⟩
  rintro x3 w4 ⟨hA, i, hi, hil⟩
  simp only at hi
  subst hi
  refine brD (fun hlt => ?_) (fun hge => h _ _ hA.below ⟨_, rfl⟩)
  obtain ⟨f, hfi⟩ : ∃ x, l[i]? = some x := ⟨_, List.getElem?_eq_getElem (by omega)⟩
  obtain ⟨ad, cs, g1, el, _, _, _, _, _, _, rfl, s1, _⟩ := rel_at (t := 26) (hs hA.below) hfi (e := 56) (by kernel_rfl) (by kernel_rfl)
  refine ⟨ad, g1, _, _, _, _, _, _, _, el.agg 3 (by kernel_rfl) (by kernel_rfl) (by simp) (by simp), ?_⟩
  refine hf w4 f.1 _ _ _ _ _ _ _ hA.below s1 _ fun b w' hb => ⟨_, rfl, ?_⟩
  have hA := hA.call hb
  refine brB (fun he => h _ _ hA.below ⟨_, rfl⟩) (fun hne => ?_)
  rw [succ_i i (by omega)]
  exact ⟨⟨hA, i + 1, rfl, by omega⟩, by simp only; omega⟩
theorem c57 {b : BkA} {d : BkD} (w : World) (hb : Bk w b d) : RetBool 57 #[b.v] w := by
  intro R h
  refine f57_calls _ _ _ _ _ _ _ _ _ _ _ _ _ _ _ _ _ _ _ _ _ _ _ _ _ _ w R ?_
  unfold f57_vc
  have hna := hb.ag.len_le
  have hno := hb.off.len_le
  have hnt := hb.tk.len_le
  have out : ∀ (x : Bool) {gs w'}, At w gs w' → R (.returned (.bool x)) w' := fun x _ w' hA => h _ _ hA.below ⟨x, rfl⟩
  intro n1 hn1 w2 hb2 hu2
  have hA : At w [n1] w2 := ⟨((At.refl w).call hb2).chg, hu2⟩
  refine opw_makeMap (kf := Value.int .i64) (vf := sv) hA fun r w4 hr hA4 hk hb4 ho4 => ⟨_, rfl, hk, ?_⟩
  refine opw_allocS [.map none] (zv := .map none) (by kernel_rfl) rfl hA4 fun g w7 hg hA7 hk hb7 hgb => ⟨_, rfl, hk, ?_⟩
  have fresh : ∀ {W : World} {p : Nat}, At w [n1] W → W.heap.size = p → p ∉ [n1] := fun hA hp hx => by have := hA.under _ hx; omega
  have hgn := fresh hA4 hg
  refine opw_storeF hA7 hgb (.inl (by have := hA4.size; omega)) hgn (cells' := [.map (some r)]) (by kernel_rfl) fun w10 hA10 hk hch10 hgb => ⟨hk, ?_⟩
  refine opw_allocS [.bool false] (zv := .bool false) (by kernel_rfl) rfl hA10 fun q w12 hq hA12 hk hb12 hqb => ⟨_, rfl, hk, ?_⟩
  have hqn := fresh hA10 hq
  refine opw_storeF hA12 hqb (.inl (by have := hA10.size; omega)) hqn (cells' := [.bool true]) (by kernel_rfl) fun w15 hA15 hk hch15 hqb => ⟨hk, ?_⟩
  have hgl := (Array.getElem?_eq_some_iff.1 hgb).1
  have hrl := ho4.lt
  have hgb15 : w15.heap[g]? = some (.cells ([.map (some r)] : List Value).toArray 109 (0, 0)) := (hch15.block g (Nat.lt_of_lt_of_le hgl hb12.size) (by omega)).trans ((hb12.block hgl).trans hgb)
  have led0 : Led w15 g q r [] := by
    refine ⟨hgb15, ⟨true, hqb⟩, ⟨.inr trivial, (fun e => by cases e), ?_⟩, fun k x hx => by cases hx⟩
    have e7 := ho4.call hb7
    have e10 := e7.chg hch10 (by omega)
    have e12 := e10.call hb12
    exact (e12.chg hch15 (by have := hb4.size; have := hb7.size; have := hch10.size; omega)).obj
  have hrw : w.heap.size ≤ r := by have := hA.size; omega
  have hqw : w.heap.size ≤ q := by have := hA10.size; omega
  have hrn : r ∉ [n1] := ho4.apart
  -- one call of add
  have step : ∀ {W : World} {gs : List Nat} {m : List (Int × SlV)} {v : List PartT} {a : Option Addr} {n c : Nat} (agent : Int) {K : Value → World → Prop}, At w gs W → r ∉ gs → q ∉ gs → Led W g q r m → SlE W 3 partE v a n c → (∀ w' m', At w gs w' → Keeps gs W w' → Led w' g q r m' → K (.tuple #[]) w') → OpW Try.prog (invokeS (.func (.func 83) #[] #[.pointer (some ⟨g, 0, none⟩), .pointer (some ⟨q, 0, none⟩)]) #[.int .i64 agent, .slice a n c]) W K := by
    intro W gs m v a n c agent K hA hr hq hl hv hK
    refine opw_invoke (by kernel_rfl) ?_
    refine at_callF hA (c83 agent hl hv) (fun b _ hx => .inl (by rcases hx with rfl | rfl <;> assumption)) (fun y hy hx => by rcases hx with rfl | rfl <;> contradiction) fun u w' hA hk _ ⟨e, m', hl'⟩ => ⟨_, rfl, ?_⟩
    subst e
    exact hK w' m' hA hk hl'
  have ext : ∀ {n : Nat} {W : World} {m : List (Int × SlV)}, Led W g q r m → W.heap.size ≤ n → r ∉ [n1, n] ∧ q ∉ [n1, n] := fun {n W m} hl hn => by
    obtain ⟨es, cl, hr', _⟩ := hl.mp.obj
    obtain ⟨b, hq'⟩ := hl.bb
    have h1 := (Array.getElem?_eq_some_iff.1 hr').1
    have h2 := (Array.getElem?_eq_some_iff.1 hq').1
    constructor
    · intro hx
      rcases List.mem_cons.1 hx with e | e
      · exact hrn (by simp [e])
      · have : r = n := by simpa using e
        omega
    · intro hx
      rcases List.mem_cons.1 hx with e | e
      · exact hqn (by simp [e])
      · have : q = n := by simpa using e
        omega
  refine ⟨fun v W' => (At w [n1] W' ∧ ∃ m, Led W' g q r m) ∧ ∃ i : Nat, v.1 = i ∧ i ≤ d.ags.length, fun v _ => (b.a.2.1 - v.1).toNat, ⟨⟨hA15, _, led0⟩, 0, rfl, Nat.zero_le _⟩, ?_⟩
  rintro x18 w19 ⟨⟨hA, m, hl⟩, i, hi, hil⟩
  simp only at hi
  subst hi
  refine brD (fun hlt => ?_) (fun _ => ?_)
  · obtain ⟨p, hp⟩ : ∃ x, d.ags[i]? = some x := ⟨_, List.getElem?_eq_getElem (by omega)⟩
    obtain ⟨ad, cs, g1, el, a1, m1, c1, a2, m2, c2, rfl, s1, s2⟩ := rel_at (t := 26) (hb.call hA.below).ag hp (e := 56) (by kernel_rfl) (by kernel_rfl)
    refine ⟨ad, g1, _, _, _, _, _, _, _, el.agg 3 (by kernel_rfl) (by kernel_rfl) (by simp) (by simp), fun n28 hn28 w29 he hu => ?_⟩
    obtain ⟨x1, x2⟩ := ext hl hn28
    have hb29 := he.bel (by intro x hx; simp at hx; omega)
    have hsz := hA.size
    have hA := hA.evo (gs' := [n1, n28]) (by simp; omega) he hu
    refine step p.1 hA x1 x2 (hl.call hb29) (s2.call hb29) fun w31 m' hA hk hl => ⟨rfl, hk, ?_⟩
    rw [succ_i i (by omega)]
    exact ⟨⟨⟨hA.sub (by simp), m', hl⟩, i + 1, rfl, by omega⟩, by simp only; omega⟩
  refine ⟨fun v W' => (At w [n1] W' ∧ ∃ m, Led W' g q r m) ∧ ∃ i : Nat, v.1 = i ∧ i ≤ d.ofs.length, fun v _ => (b.o.2.1 - v.1).toNat, ⟨⟨hA, _, hl⟩, 0, rfl, Nat.zero_le _⟩, ?_⟩
  rintro x34 w35 ⟨⟨hA, m, hl⟩, i, hi, hil⟩
  simp only at hi
  subst hi
  refine brD (fun hlt => ?_) (fun _ => ?_)
  · obtain ⟨p, hp⟩ : ∃ x, d.ofs[i]? = some x := ⟨_, List.getElem?_eq_getElem (by omega)⟩
    obtain ⟨ad, cs, g1, el, a1, m1, c1, rfl, s1⟩ := rel_at (t := 27) (hb.call hA.below).off hp (e := 58) (by kernel_rfl) (by kernel_rfl)
    refine ⟨ad, g1, _, _, _, _, _, _, _, el.agg 5 (by kernel_rfl) (by kernel_rfl) (by simp) (by simp), fun n28 hn28 w29 he hu => ?_⟩
    obtain ⟨x1, x2⟩ := ext hl hn28
    have hb29 := he.bel (by intro x hx; simp at hx; omega)
    have hsz := hA.size
    have hA := hA.evo (gs' := [n1, n28]) (by simp; omega) he hu
    refine step p.2.2.1 hA x1 x2 (hl.call hb29) (s1.call hb29) fun w31 m' hA hk hl => ⟨rfl, hk, ?_⟩
    rw [succ_i i (by omega)]
    exact ⟨⟨⟨hA.sub (by simp), m', hl⟩, i + 1, rfl, by omega⟩, by simp only; omega⟩
  refine ⟨fun v W' => (At w [n1] W' ∧ ∃ m, Led W' g q r m) ∧ ∃ i : Nat, v.1 = i ∧ i ≤ d.tks.length, fun v _ => (b.t.2.1 - v.1).toNat, ⟨⟨hA, _, hl⟩, 0, rfl, Nat.zero_le _⟩, ?_⟩
  rintro x50 w51 ⟨⟨hA, m, hl⟩, i, hi, hil⟩
  simp only at hi
  subst hi
  refine brD (fun hlt => ?_) (fun _ => ?_)
  · obtain ⟨p, hp⟩ : ∃ x, d.tks[i]? = some x := ⟨_, List.getElem?_eq_getElem (by omega)⟩
    obtain ⟨ad, cs, g1, el, a1, m1, c1, rfl, s1⟩ := rel_at (t := 28) (hb.call hA.below).tk hp (e := 60) (by kernel_rfl) (by kernel_rfl)
    refine ⟨ad, g1, _, _, _, _, _, _, el.agg 4 (by kernel_rfl) (by kernel_rfl) (by simp) (by simp), fun n28 hn28 w29 he hu => ?_⟩
    obtain ⟨x1, x2⟩ := ext hl hn28
    have hb29 := he.bel (by intro x hx; simp at hx; omega)
    have hsz := hA.size
    have hA := hA.evo (gs' := [n1, n28]) (by simp; omega) he hu
    refine step p.2.2.1 hA x1 x2 (hl.call hb29) (s1.call hb29) fun w31 m' hA hk hl => ⟨rfl, hk, ?_⟩
    rw [succ_i i (by omega)]
    exact ⟨⟨⟨hA.sub (by simp), m', hl⟩, i + 1, rfl, by omega⟩, by simp only; omega⟩
  obtain ⟨b63, hq51⟩ := hl.bb
  refine ⟨b63, rd_f0 hq51 (by kernel_rfl) (by simp), brB (fun _ => ?_) (fun _ => out _ hA)⟩
  have c85 : RetBool 85 #[.slice b.a.1 b.a.2.1 b.a.2.2, .func (.func 86) #[] #[.pointer (some ⟨g, 0, none⟩)]] w51 := by
    intro R' h'
    refine f85_calls _ _ _ _ w51 R' ?_
    unfold f85_vc
    refine at_callq (At.refl w51) (c61q w51 (fun hbb => ((hb.call hA.below).call hbb).ag) fun W' x a1 n1 c1 a2 n2 c2 l1 hb' hs => RetIB.of (by kernel_rfl) (c86 x (hl.call hb') hs)) fun v w2 hA2 _ _ ⟨k, e⟩ => ?_
    subst e
    exact ⟨_, rfl, h' _ _ hA2.below ⟨_, rfl⟩⟩
  refine at_callq hA c85 fun v w65 hA hk _ ⟨x, e⟩ => ?_
  subst e
  exact ⟨_, rfl, hk, out _ hA⟩
end Go.Vc.W

/- book.Right; ViewGrows. -/
set_option maxRecDepth 20000
set_option maxHeartbeats 1000000
namespace Go.Vc.W
open Go Go.Vc Go.Vc.V Go.RowKit Go.Proofs Vcw Vcxa

variable {w W W' : World} {M : Nat → Prop} {gs : List Nat}

/-- What a right book has. -/
structure RightB (d : BkD) : Prop where
  fr : frOk d.frs
  ag : agOk d.ags
  off : ∀ t ∈ d.ofs, vecB t.2.2.2.1 = true
  tk : ∀ t ∈ d.tks, vecB t.2.2.2 = true
  fl : ∀ t ∈ d.fls, vecB t.2.2.2 = true
theorem RightB.fit {d : BkD} (h : RightB d) : Fit d := ⟨h.fr.1, fun a ha => (h.ag.2 a ha).2⟩
theorem c24 {b : BkA} {d : BkD} (w : World) (hb : Bk w b d) : RetQ Try.prog 24 #[b.v] w fun v _ => ∃ n x, v = .tuple #[.int .i64 n, .bool x] ∧ (x = true → RightB d) := by
  intro R h
  refine f24_calls _ _ _ _ _ _ _ _ _ _ _ _ _ _ _ _ _ _ _ _ _ _ _ _ _ _ w R ?_
  unfold f24_vc
  intro n1 hn1 n2 hn2 n3 hn3 w4 he4 hu4
  have hA := (At.refl w).evo (gs' := [n1, n2, n3]) (by simp; omega) he4 hu4
  have out : ∀ (k : Int) {gs w'}, At w gs w' → R (.returned (.tuple #[.int .i64 k, .bool false])) w' := fun k _ w' hA => h _ _ hA.below ⟨_, _, rfl, fun e => by cases e⟩
  have step : ∀ {W : World} {gs : List Nat} {f : FuncId} {F : Prop} {K : Value → World → Prop}, At w gs W → pureRun Try.prog (invokeS (.func (.func f) #[b.v] #[]) #[]) = some (.enter f ((#[b.v] ++ #[]) ++ #[])) → RetB f #[b.v] W F → (∀ w' x, At w gs w' → Keeps gs W w' → (x = true → F) → K (.bool x) w') → OpW Try.prog (invokeS (.func (.func f) #[b.v] #[]) #[]) W K := by
    intro W gs f F K hA he hc hK
    refine opw_invoke he ?_
    refine at_callq hA hc fun v w' hA hk _ ⟨x, e, hx⟩ => ⟨v, rfl, ?_⟩
    subst e
    exact hK w' x hA hk hx
  have boolB : ∀ {f : FuncId} {W : World}, RetBool f #[b.v] W → RetB f #[b.v] W True := fun hc R hR => hc R fun v w' hb ⟨x, e⟩ => hR v w' hb ⟨x, e, fun _ => trivial⟩
  refine step hA (by kernel_rfl) (boolB (c50 b w4)) fun w6 x1 hA hk _ => ⟨_, rfl, hk, brNB (fun _ => out _ hA) (fun _ => ?_)⟩
  refine step hA (by kernel_rfl) (c51 w6 (hb.call hA.below)) fun w9 x2 hA hk h51 => ⟨_, rfl, hk, brNB (fun _ => out _ hA) (fun e2 => ?_)⟩
  refine step hA (by kernel_rfl) (c52 w9 (hb.call hA.below)) fun w12 x3 hA hk h52 => ⟨_, rfl, hk, brNB (fun _ => out _ hA) (fun e3 => ?_)⟩
  refine step hA (by kernel_rfl) (boolB (c53 w12 (hb.call hA.below))) fun w15 x4 hA hk _ => ⟨_, rfl, hk, brNB (fun _ => out _ hA) (fun _ => ?_)⟩
  refine step hA (by kernel_rfl) (c54 w15 (hb.call hA.below)) fun w18 x5 hA hk h54 => ⟨_, rfl, hk, brNB (fun _ => out _ hA) (fun e5 => ?_)⟩
  refine step hA (by kernel_rfl) (c55 w18 (hb.call hA.below)) fun w21 x6 hA hk h55 => ⟨_, rfl, hk, brNB (fun _ => out _ hA) (fun e6 => ?_)⟩
  refine step hA (by kernel_rfl) (c56 w21 (hb.call hA.below)) fun w24 x7 hA hk h56 => ⟨_, rfl, hk, brNB (fun _ => out _ hA) (fun e7 => ?_)⟩
  refine step hA (by kernel_rfl) (boolB (c57 w24 (hb.call hA.below))) fun w27 x8 hA hk _ => ⟨_, rfl, hk, brNB (fun _ => out _ hA) (fun _ => ?_)⟩
  exact h _ _ hA.below ⟨_, _, rfl, fun _ => ⟨h51 e2, h52 e3, h54 e5, h55 e6, h56 e7⟩⟩

theorem frame_at3 {b : BkA} {d : BkD} (hb : Bk w b d) {id : Int} (h : ¬ ixOf (·.1) id d.frs 0 < 0) : ∃ ad f j, ixOf (·.1) id d.frs 0 = ((j : Nat) : Int) ∧ d.frs[j]? = some f ∧ Gives Try.prog (Instr.indexAt 25 (.slice b.f.1 b.f.2.1 b.f.2.2) (.int .i64 (ixOf (·.1) id d.frs 0))) (.pointer (some ad)) ∧ Elt w ad (frE f) ∧ openAt d (ixOf (·.1) id d.frs 0) = (f.2.2.2.1 && !f.2.2.2.2.1) := by
  rcases ixOf_range (k := fun x : FrT => x.1) (id := id) d.frs 0 with hneg | ⟨j, hj, _, hjl⟩
  · exact absurd hneg h
  obtain ⟨f, hf⟩ : ∃ x, d.frs[j]? = some x := ⟨_, List.getElem?_eq_getElem (by omega)⟩
  obtain ⟨ad, g1, el, _⟩ := elt_at (P := Try.prog) (k := .i64) (t := 25) hb.fr hf (e := 48) (by kernel_rfl) (by kernel_rfl)
  rw [hj]
  exact ⟨ad, f, j, rfl, hf, g1, el, by unfold openAt; rw [Int.toNat_natCast, hf]; rfl⟩
theorem elig_open {b : BkA} {d : BkD} {frame agent pass : Int} (h : eligS b d frame agent pass = true) : openAt d (ixOf (·.1) frame d.frs 0) = true := by
  unfold eligS at h
  simp only [Bool.and_eq_true] at h
  exact h.2.2

theorem law5 {b : BkA} {d : BkD} (frame agent : Int) (w : World) (hb : Bk w b d) : Ret Try.prog 5 #[b.v, .int .i64 frame, .int .i64 agent] w (.bool true) := by
  intro R h
  refine f5_calls _ _ _ _ _ _ _ _ _ _ _ _ _ _ _ _ _ _ _ _ _ _ _ _ _ _ frame agent w R ?_
  unfold f5_vc
  have wk : ∀ {W : World} {gs : List Nat}, At w gs W → Calls Try.prog 8 #[] W fun e w' => ∃ b', e = .returned (.bool b') ∧ Keeps gs W w' ∧ R (.returned (.bool b')) w' := fun hA => at_callb hA (c8 _) fun w' hA hk _ => ⟨_, rfl, hk, leaf h hA rfl⟩
  have hfl := hb.fr.len_le
  intro n1 hn1 w2 hb2 hu2
  have hA : At w [n1] w2 := ⟨((At.refl w).call hb2).chg, hu2⟩
  refine at_callq hA (c24 w2 (hb.call hA.below)) fun v w4 hA hk _ ⟨n, x, e, hx⟩ => ?_
  subst e
  refine ⟨_, _, rfl, hk, brNB (fun _ => wk hA) (fun hxx => brD (fun _ => wk hA) (fun _ => brD (fun _ => wk hA) (fun h60 w16 hb16 hu16 => ?_)))⟩
  have hF := (hx hxx).fit
  have hA : At w [n1] w16 := ⟨(hA.call hb16).chg, hu16⟩
  refine at_calll hA (c11 frame agent 1 w16 (hb.call hA.below)) (fun _ _ => rfl) fun a19 d21 w18 hA hk _ ho1 _ => ⟨_, _, _, rfl, hk, ?_⟩
  refine at_calll hA (c11 frame agent 2 w18 (hb.call hA.below)) (fun _ _ => rfl) fun a24 d26 w23 hA hk hb23 ho2 _ => ⟨_, _, _, rfl, hk, ?_⟩
  have s1 := (ho1.sl (fun _ _ => rfl)).call hb23
  have s2 := ho2.sl (fun _ _ => rfl)
  have hle : (d.frs.length : Int) ≤ 60 := by omega
  refine ⟨fun _ W' => At w [n1] W' ∧ Bel w23 W', ⟨fun x W' => (At w [n1] W' ∧ Bel w23 W') ∧ x.1 = false, ?_, ?_⟩, ?_⟩
  · refine at_callb hA (c25 w23 s2 s1) fun w30 hA hk hb30 => ⟨_, rfl, hk, brNB (fun hn => ?_) (fun _ => ?_)⟩
    · exact absurd (hn.symm.trans (have_holds hF frame agent)) (by simp)
    · refine at_callb hA (c12 frame agent w30 (hb.call hA.below) (s2.call hb30)) fun w33 hA hk hb33 => ⟨_, rfl, hk, brB (fun hbl => ?_) (fun _ => ⟨⟨hA, hb30.trans hb33⟩, rfl⟩)⟩
      refine at_callb hA (c12 frame agent w33 (hb.call hA.below) ((s1.call hb30).call hb33)) fun w36 hA hk hb36 => ⟨_, rfl, hk, ⟨hA, (hb30.trans hb33).trans hb36⟩, ?_⟩
      rw [blocked_grows hF frame agent hbl]
      rfl
  · rintro b38 w39 ⟨hA, e⟩
    simp only at e
    exact brB (fun hx => absurd (hx.symm.trans e) (by simp)) (fun _ => hA)
  rintro w40 ⟨hA, hb40⟩
  have s1 := s1.call hb40
  refine at_callb hA (c26 frame w40 (hb.call hA.below)) fun w42 hA hk hb42 => ⟨_, rfl, hk, brD (fun hge => ?_) (fun _ => ?_)⟩
  · rcases ixOf_range (k := fun x : FrT => x.1) (id := frame) d.frs 0 with hneg | ⟨j, hj, _, hjl⟩ <;> omega
  have s1 := s1.call hb42
  refine ⟨fun v W' => (At w [n1] W' ∧ Bel w42 W') ∧ ∃ k : Nat, v.1 = k ∧ k ≤ 3, fun v _ => ((3 : Int) - v.1).toNat, ⟨⟨hA, (At.refl w42).below⟩, 1, rfl, by omega⟩, ?_⟩
  rintro x46 w47 ⟨⟨hA, hb47⟩, k, hk, hk3⟩
  simp only at hk
  subst hk
  refine brD (fun hle2 => ?_) (fun _ => ?_)
  · refine ⟨fun _ W' => At w [n1] W' ∧ Bel w42 W', ⟨fun x W' => (At w [n1] W' ∧ Bel w42 W') ∧ x.1 = false, ?_, ?_⟩, ?_⟩
    · refine at_callb hA (c20 frame agent k w47 (hb.call hA.below)) fun w51 hA hk hb51 => ⟨_, rfl, hk, brB (fun hel => ?_) (fun _ => ⟨⟨hA, hb47.trans hb51⟩, rfl⟩)⟩
      have hix := have_ix (elig_have hel)
      have hop := elig_open hel
      obtain ⟨ad, f, j, hj, hf, g1, el, hopen⟩ := frame_at3 (hb.call hA.below) hix
      rw [hopen, Bool.and_eq_true] at hop
      refine brD (fun hn => absurd hn hix) (fun _ => ⟨ad, g1, _, (el.sub (o := 3) (by decide)).one (by kernel_rfl) (by simp), brNB (fun hn => ?_) (fun _ => ⟨ad, g1, _, (el.sub (o := 4) (by decide)).one (by kernel_rfl) (by simp), brB (fun hn => ?_) (fun _ => ?_)⟩)⟩)
      · exact absurd (hn.symm.trans hop.1) (by simp)
      · rw [hn] at hop
        exact absurd hop.2 (by simp)
      · refine at_callb hA (c27 agent w51 (hb.call hA.below)) fun w58 hA hk hb58 => ⟨_, rfl, hk, ⟨hA, (hb47.trans hb51).trans hb58⟩, ?_⟩
        exact decide_eq_false (have_ags (elig_have hel))
    · rintro b60 w61 ⟨hA, e⟩
      simp only at e
      exact brB (fun hx => absurd (hx.symm.trans e) (by simp)) (fun _ => hA)
    · rintro w62 hA
      rw [succ_i k (by omega)]
      exact ⟨⟨hA, k + 1, rfl, by omega⟩, by simp only; omega⟩
  refine ⟨fun v W' => (At w [n1] W' ∧ Bel w42 W') ∧ ∃ k : Nat, v.1 = k ∧ k ≤ d.frs.length, fun v _ => (b.f.2.1 - v.1).toNat, ⟨⟨hA, hb47⟩, 0, rfl, Nat.zero_le _⟩, ?_⟩
  rintro x65 w66 ⟨⟨hA, hb66⟩, k, hk, hkl⟩
  simp only at hk
  subst hk
  refine brD (fun hlt => ?_) (fun _ => ?_)
  · refine ⟨fun _ W' => At w [n1] W' ∧ Bel w42 W', ⟨fun x W' => (At w [n1] W' ∧ Bel w42 W') ∧ x.1 = false, ?_, ?_⟩, ?_⟩
    · refine brD (fun hix => ?_) (fun _ w87 hb87 hu87 => ⟨⟨⟨(hA.call hb87).chg, hu87⟩, hb66.trans hb87⟩, rfl⟩)
      obtain ⟨p, hp⟩ : ∃ x, d.frs[k]? = some x := ⟨_, List.getElem?_eq_getElem (by omega)⟩
      obtain ⟨ad1, g1, el1, _⟩ := elt_at (P := Try.prog) (k := .i64) (t := 25) (hb.fr.call hA.below) hp (e := 48) (by kernel_rfl) (by kernel_rfl)
      obtain ⟨ad2, f, j, hj, hf, g2, el2, _⟩ := frame_at3 (hb.call hA.below) (id := frame) (by omega)
      have r1 : ∀ {W'}, Bel w66 W' → Reads Try.prog [] (Instr.loadAt 3 (.pointer (some ⟨ad1.block, ad1.off + 1, none⟩))) W' (.int .i64 p.2.1) := fun hb => ((el1.below hb).sub (o := 1) (by decide)).one (by kernel_rfl) (by simp)
      have r2 : ∀ {W'}, Bel w66 W' → Reads Try.prog [] (Instr.loadAt 3 (.pointer (some ⟨ad2.block, ad2.off + 1, none⟩))) W' (.int .i64 f.2.1) := fun hb => ((el2.below hb).sub (o := 1) (by decide)).one (by kernel_rfl) (by simp)
      refine ⟨ad1, g1, _, r1 (At.refl w66).below, ad2, g2, _, r2 (At.refl w66).below, brN (fun hne => ?_) (fun _ w86 hb86 hu86 => ⟨⟨⟨(hA.call hb86).chg, hu86⟩, hb66.trans hb86⟩, rfl⟩)⟩
      refine ⟨ad1, g1, _, el1.one (by kernel_rfl) (by simp), fun w75 hb75 hu75 => ?_⟩
      have hA : At w [n1] w75 := ⟨(hA.call hb75).chg, hu75⟩
      refine at_calll hA (c11 p.1 agent 1 w75 (hb.call hA.below)) (fun _ _ => rfl) fun a78 d80 w77 hA hk hb77 ho3 _ => ⟨_, _, _, rfl, hk, r2 (hb75.trans hb77), r1 (hb75.trans hb77), ?_⟩
      refine at_calll hA (c28 w77 (((s1.call hb66).call hb75).call hb77) (ho3.sl (fun _ _ => rfl))) (fun _ _ => rfl) fun a83 d85 w82 hA hk hb82 ho4 _ => ⟨_, _, _, rfl, hk, r2 ((hb75.trans hb77).trans hb82), r1 ((hb75.trans hb77).trans hb82), ⟨hA, ((hb66.trans hb75).trans hb77).trans hb82⟩, ?_⟩
      rw [least_none hF agent frame hp hj hf hne]
      rfl
    · rintro b88 w89 ⟨hA, e⟩
      simp only at e
      exact brB (fun hx => absurd (hx.symm.trans e) (by simp)) (fun _ => hA)
    · rintro w90 hA
      rw [succ_i k (by omega)]
      exact ⟨⟨hA, k + 1, rfl, by omega⟩, by simp only; omega⟩
  refine at_callb hA (c22 agent w66 (hb.call hA.below) (by omega)) fun w92 hA hk _ => ⟨_, rfl, hk, brNB (fun _ => wk hA) (fun hq => ?_)⟩
  have hq := of_decide_eq_true hq
  refine at_callb hA (c20 frame agent 1 w92 (hb.call hA.below)) fun w98 hA hk _ => ⟨_, rfl, hk, brNB (fun _ => ?_) (fun hel => absurd hq.1 (elig_those hel))⟩
  exact at_callb hA (c20 frame agent 2 w98 (hb.call hA.below)) fun w101 hA hk _ => ⟨_, rfl, hk, brNB (fun _ => wk hA) (fun hel => absurd hq.2 (elig_those hel))⟩
end Go.Vc.W

