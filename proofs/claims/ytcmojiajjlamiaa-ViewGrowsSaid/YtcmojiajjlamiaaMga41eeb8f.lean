/- Own texts of this claim, laid together: VcMap2, VcRange, W2, W3, W4, W5, FV2, W6, W7, W8, W9, Wa, Wb, Wc. -/
import Derived.Test.YtcmojiajjlamiaaMg6e647260
import Derived.Maps.RangeRun
import Derived.Test.YtcmojiajjlamiaaProg

/- A map's entry made, then filled: two steps that are a set. -/
namespace Go.Vc
open Go Go.RowKit

section
variable {κ α : Type} {P : Program} {w W : World} {M : Nat → Prop} {gs : List Nat} {r : Nat} {kt : TypeId} {kf : κ → Value} {vf : α → Value} {m : List (κ × α)}

/-- An own map with an entry that is to be filled. -/
structure OwnE (w : World) (M : Nat → Prop) (gs : List Nat) (W : World) (r : Nat) (kf : κ → Value) (vf : α → Value) (m : List (κ × α)) (j : Nat) (k : κ) (stamp : Nat) : Prop where
  mine : w.heap.size ≤ r ∨ M r
  apart : r ∉ gs
  obj : ∃ (es : Array MapEntry) (clock : Nat), W.heap[r]? = some (.map es clock) ∧ EntR kf vf es.toList m ∧ (es.toList.map (·.born)).Nodup ∧ (∀ e ∈ es.toList, e.born < clock) ∧ ∃ e, es[j]? = some e ∧ e.born = stamp
  key : ∃ v, m[j]? = some (k, v)
theorem OwnE.lt {j : Nat} {k : κ} {stamp : Nat} (h : OwnE w M gs W r kf vf m j k stamp) : r < W.heap.size := by
  obtain ⟨es, clock, hr, _⟩ := h.obj
  exact (Array.getElem?_eq_some_iff.1 hr).1

theorem opw_mapEntry [DecidableEq κ] {t et : TypeId} {k : κ} {z : α} {K : Value → World → Prop} (Ko : KeyOk P kt kf) (ht : P.underlying t = some (.map kt et)) (hz : pureRun P (zeroValue et) = some (vf z)) (hA : AtF w M gs W) (ho : OwnM w M gs W r kf vf m)
    (h : ∀ w' m1 j v0 stamp, AtF w M gs w' → Keeps gs W w' → Chg (fun b => b = r) W w' → OwnE w M gs w' r kf vf m1 j k stamp → (∀ v, m1.set j (k, v) = mset k v m) → K (.tuple #[vf v0, .int .i64 (stamp : Int)]) w') : OpW P (valueS (Instr.mapEntry t (.map (some r)) (kf k))) W K := by
  have hl := ho.lt
  obtain ⟨es, clock, hr, he, hn, hb⟩ := ho.obj
  unfold OpW
  cases hm : midx k m with
  | none =>
    have hrun : (Instr.mapEntry t (.map (some r)) (kf k)).run P W = .ok (.tuple #[vf z, .int .i64 (clock : Int)]) { W with heap := W.heap.setIfInBounds r (.map (es.push { key := kf k, val := vf z, born := clock }) (clock + 1)) } := by
      unfold Instr.mapEntry
      rw [run_bind_ok (run_underlying ht W)]
      simp only
      rw [run_bind_ok (run_getObj_m hr)]
      simp only
      rw [run_bind_ok (Ko.chk false k W), run_bind_ok (findKey_run Ko k W he), hm]
      simp only [Option.bind_none]
      rw [run_bind_ok (pureRun_run hz W), run_bind_ok (run_setObj_m hr _)]
      rfl
    rw [run_valueS hrun]
    have hlen := EntR.len he
    refine h _ (m ++ [(k, z)]) m.length z clock (hA.setObjF ho.mine) (keeps_setObj ho.apart) chg_setObj ⟨ho.mine, ho.apart, ⟨_, _, setObj_heap hl _, ?_, ?_, ?_, ⟨{ key := kf k, val := vf z, born := clock }, ?_, rfl⟩⟩, ⟨z, by simp⟩⟩ fun v => by rw [mset_new hm]; simp
    · rw [Array.toList_push]
      unfold EntR at he ⊢
      rw [List.map_append, List.map_append, he]
      rfl
    · rw [Array.toList_push, List.map_append]
      refine List.nodup_append.2 ⟨hn, by simp, fun a ha b hb' => ?_⟩
      simp at hb'
      obtain ⟨e, hem, rfl⟩ := List.mem_map.1 ha
      have := hb e hem
      omega
    · intro e hem
      rw [Array.toList_push] at hem
      rcases List.mem_append.1 hem with h1 | h1
      · have := hb e h1; omega
      · simp at h1; subst h1; simp
    · rw [← hlen, Array.length_toList]; simp
  | some j =>
    obtain ⟨v0, hv0⟩ := midx_key hm
    obtain ⟨e0, he0, hk0, hv00⟩ := EntR.at_ he hv0
    have he0' : es[j]? = some e0 := by simpa using he0
    have hks : (Instr.keyThatStays (kf k) (kf k)).run P W = .ok (kf k) W := by
      unfold Instr.keyThatStays
      rw [if_pos (Ko.bits k)]
      rfl
    have hrun : (Instr.mapEntry t (.map (some r)) (kf k)).run P W = .ok (.tuple #[vf v0, .int .i64 (e0.born : Int)]) { W with heap := W.heap.setIfInBounds r (.map (es.modify j fun e => { e with key := kf k }) clock) } := by
      unfold Instr.mapEntry
      rw [run_bind_ok (run_underlying ht W)]
      simp only
      rw [run_bind_ok (run_getObj_m hr)]
      simp only
      rw [run_bind_ok (Ko.chk false k W), run_bind_ok (findKey_run Ko k W he), hm]
      simp only [Option.bind_some, hv0, Option.map_some, he0', Option.getD_some, hk0]
      rw [run_bind_ok hks, run_bind_ok (run_setObj_m hr _)]
      rfl
    have hmod : es.modify j (fun e => { e with key := kf k }) = es := by
      apply Array.ext_getElem?
      intro i
      rw [Array.getElem?_modify]
      split
      · rename_i hij
        subst hij
        rw [he0']
        simp only [Option.map_some, Option.some.injEq]
        rw [← hk0]
      · rfl
    rw [run_valueS hrun, hmod]
    exact h _ m j v0 e0.born (hA.setObjF ho.mine) (keeps_setObj ho.apart) chg_setObj ⟨ho.mine, ho.apart, ⟨_, _, setObj_heap hl _, he, hn, hb, ⟨e0, he0', rfl⟩⟩, ⟨v0, hv0⟩⟩ fun v => (mset_at hm).symm

theorem opw_entryStore {t : TypeId} {k : κ} {j stamp : Nat} {v : α} {K : Value → World → Prop} (hA : AtF w M gs W) (ho : OwnE w M gs W r kf vf m j k stamp)
    (h : ∀ w', AtF w M gs w' → Keeps gs W w' → Chg (fun b => b = r) W w' → OwnM w M gs w' r kf vf (m.set j (k, v)) → K undef w') : OpW P (skipS (Instr.entryStore t (.map (some r)) (.int .i64 (stamp : Int)) (vf v))) W K := by
  have hl := ho.lt
  obtain ⟨es, clock, hr, he, hn, hb, e0, he0, hst⟩ := ho.obj
  obtain ⟨v0, hv0⟩ := ho.key
  obtain ⟨e1, he1, hk1, _⟩ := EntR.at_ he hv0
  have he1' : es[j]? = some e1 := by simpa using he1
  rw [he0] at he1'
  cases he1'
  have hjl := (Array.getElem?_eq_some_iff.1 he0).1
  have hfind : es.findIdx? (fun e => (e.born : Int) == (stamp : Int)) = some j := by
    rw [Array.findIdx?_eq_some_iff_getElem]
    refine ⟨hjl, ?_, fun q hq => ?_⟩
    · have := (Array.getElem?_eq_some_iff.1 he0).2
      simp [this, hst]
    · have hql : q < es.size := by omega
      have h2 : (es.toList.map (·.born))[q]'(by simpa using hql) ≠ (es.toList.map (·.born))[j]'(by simpa using hjl) := (List.pairwise_iff_getElem.1 hn) q j (by simpa using hql) (by simpa using hjl) hq
      have h3 := (Array.getElem?_eq_some_iff.1 he0).2
      simp only [List.getElem_map, Array.getElem_toList, h3, hst] at h2
      simp only [beq_iff_eq]
      intro e
      exact h2 (by omega)
  have hrun : (Instr.entryStore t (.map (some r)) (.int .i64 (stamp : Int)) (vf v)).run P W = .ok () { W with heap := W.heap.setIfInBounds r (.map (es.modify j fun e => { e with val := vf v }) clock) } := by
    unfold Instr.entryStore
    simp only
    rw [run_bind_ok (run_getObj_m hr)]
    simp only
    have hi : (asInt (.int .i64 (stamp : Int))).run P W = .ok (stamp : Int) W := rfl
    rw [run_bind_ok hi]
    simp only [hfind]
    exact run_setObj_m hr _
  unfold OpW skipS
  rw [run_bind_ok hrun]
  refine h _ (hA.setObjF ho.mine) (keeps_setObj ho.apart) chg_setObj ⟨ho.mine, ho.apart, _, clock, setObj_heap hl _, ?_, ?_, ?_⟩
  · unfold EntR at he ⊢
    rw [List.map_set, ← he]
    apply List.ext_getElem?
    intro i
    simp only [List.getElem?_map, Array.getElem?_toList, Array.getElem?_modify, List.getElem?_set, List.length_map, Array.length_toList]
    by_cases hij : j = i
    · subst hij
      have h3 := (Array.getElem?_eq_some_iff.1 he0).2
      simp [hjl, h3, hk1]
    · simp [hij]
  · have : (es.modify j fun e => { e with val := vf v }).toList.map (·.born) = es.toList.map (·.born) := by
      apply List.ext_getElem?
      intro i
      simp only [List.getElem?_map, Array.getElem?_toList, Array.getElem?_modify]
      by_cases hij : j = i
      · subst hij; simp [he0]
      · simp [hij]
    rw [this]
    exact hn
  · intro e hem
    obtain ⟨i, hi⟩ := List.mem_iff_getElem?.1 hem
    simp only [Array.getElem?_toList, Array.getElem?_modify] at hi
    by_cases hij : j = i
    · subst hij
      simp [he0] at hi
      subst hi
      exact hb e0 (List.mem_of_getElem? (i := j) (by simpa using he0))
    · simp [hij] at hi
      exact hb e (List.mem_of_getElem? (i := i) (by simpa using hi))
end
end Go.Vc

/- A range over a map: its iterator, the next round, the entry. -/
namespace Go.Vc
open Go Go.RowKit

theorem EntR_split {κ α : Type} {kf : κ → Value} {vf : α → Value} {A B : List MapEntry} {e : MapEntry} {rest : List (κ × α)} (h : EntR kf vf (A ++ e :: B) rest) :
    ∃ r1 x r2, rest = r1 ++ x :: r2 ∧ EntR kf vf (A ++ B) (r1 ++ r2) ∧ e.key = kf x.1 ∧ e.val = vf x.2 := by
  unfold EntR at h
  rw [List.map_append, List.map_cons] at h
  obtain ⟨r1, r', rfl, h1, h2⟩ := List.map_eq_append_iff.1 h.symm
  obtain ⟨x, r2, rfl, h3, h4⟩ := List.map_eq_cons_iff.1 h2
  refine ⟨r1, x, r2, rfl, ?_, (Prod.mk.inj h3).1.symm, (Prod.mk.inj h3).2.symm⟩
  unfold EntR
  rw [List.map_append, List.map_append, h1, h4]

theorem leftOf_push {es : Array MapEntry} {seen : Array Nat} {A B : List MapEntry} {e : MapEntry} (hn : (es.toList.map (·.born)).Nodup) (h : (leftOf es seen).toList = A ++ e :: B) :
    (leftOf es (seen.push e.born)).toList = A ++ B := by
  have h1 : (leftOf es (seen.push e.born)).toList = ((leftOf es seen).toList).filter (fun x => x.born != e.born) := by
    unfold leftOf
    rw [Array.toList_filter, Array.toList_filter, List.filter_filter]
    congr 1
    funext x
    by_cases hx : x.born = e.born
    · simp [hx]
    · simp [hx]
  have h2 : ((A ++ e :: B).map (·.born)).Nodup := by
    rw [← h]
    unfold leftOf
    rw [Array.toList_filter]
    exact hn.sublist (List.filter_sublist.map _)
  rw [h1, h, List.filter_append, List.filter_cons]
  rw [List.map_append, List.map_cons, List.nodup_append] at h2
  obtain ⟨h3, h4, h5⟩ := h2
  rw [List.nodup_cons] at h4
  have eA : A.filter (fun x => x.born != e.born) = A := List.filter_eq_self.2 fun x hx => by
    have := h5 x.born (List.mem_map.2 ⟨x, hx, rfl⟩) e.born (List.mem_cons_self ..)
    simpa using this
  have eB : B.filter (fun x => x.born != e.born) = B := List.filter_eq_self.2 fun x hx => by
    have : x.born ≠ e.born := fun he => h4.1 (he ▸ List.mem_map.2 ⟨x, hx, rfl⟩)
    simpa using this
  rw [eA, eB]
  simp

section
variable {κ α : Type} {P : Program} {w W W' : World} {M N : Nat → Prop} {gs gs' ds : List Nat} {q r : Nat} {kf : κ → Value} {vf : α → Value} {m rest : List (κ × α)} {cur : Option (κ × α)}

/-- An iterator over a map: what is left to come, and the entry at hand. -/
structure Itr (w : World) (M : Nat → Prop) (gs : List Nat) (W : World) (q r : Nat) (kf : κ → Value) (vf : α → Value) (m rest : List (κ × α)) (cur : Option (κ × α)) : Prop where
  mine : w.heap.size ≤ q ∨ M q
  apart : q ∉ gs
  obj : ∃ (es : Array MapEntry) (clock since c0 : Nat) (seen : Array Nat), W.heap[r]? = some (.map es clock) ∧ EntR kf vf es.toList m ∧ (es.toList.map (·.born)).Nodup ∧ (∀ e ∈ es.toList, e.born < clock) ∧
    W.heap[q]? = some (.mapIter (some r) since seen c0) ∧ (∀ e ∈ es.toList, e.born < since) ∧ since ≤ c0 ∧ since ≤ clock ∧ EntR kf vf (leftOf es seen).toList rest ∧
    (∀ x, cur = some x → c0 = clock ∧ ∃ e ∈ es.toList, seen.back? = some e.born ∧ e.key = kf x.1 ∧ e.val = vf x.2)

theorem Itr.lts (h : Itr w M gs W q r kf vf m rest cur) : q < W.heap.size ∧ r < W.heap.size ∧ q ≠ r := by
  obtain ⟨es, clock, since, c0, seen, h1, _, _, _, h2, _⟩ := h.obj
  refine ⟨(Array.getElem?_eq_some_iff.1 h2).1, (Array.getElem?_eq_some_iff.1 h1).1, fun e => ?_⟩
  subst e
  rw [h1] at h2
  cases h2
theorem Itr.keep (h : Itr w M gs W q r kf vf m rest cur) (hq : W'.heap[q]? = W.heap[q]?) (hr : W'.heap[r]? = W.heap[r]?) : Itr w M gs W' q r kf vf m rest cur := by
  obtain ⟨es, clock, since, c0, seen, h1, h2, h3, h4, h5, h6⟩ := h.obj
  exact ⟨h.mine, h.apart, es, clock, since, c0, seen, by rw [hr]; exact h1, h2, h3, h4, by rw [hq]; exact h5, h6⟩
theorem Itr.chg (h : Itr w M gs W q r kf vf m rest cur) (hc : Chg N W W') (hq : ¬ N q) (hr : ¬ N r) : Itr w M gs W' q r kf vf m rest cur :=
  h.keep (hc.block q h.lts.1 hq) (hc.block r h.lts.2.1 hr)
theorem Itr.call (h : Itr w M gs W q r kf vf m rest cur) (hb : Bel W W') : Itr w M gs W' q r kf vf m rest cur := h.keep (hb.block h.lts.1) (hb.block h.lts.2.1)
theorem Itr.more (h : Itr w M gs W q r kf vf m rest cur) (hg : ∀ g ∈ gs', g ∉ gs → W.heap.size ≤ g) : Itr w M gs' W q r kf vf m rest cur :=
  ⟨h.mine, fun hr => by
    by_cases hk : q ∈ gs
    · exact h.apart hk
    · have := hg q hr hk
      have := h.lts.1
      omega, h.obj⟩
theorem Itr.evo (h : Itr w M gs W q r kf vf m rest cur) (hd : ∀ d ∈ ds, d ≠ q ∧ d ≠ r) (hb : Evo ds W W') : Itr w M gs W' q r kf vf m rest cur :=
  h.chg (Chg.of_evo hb) (fun hm => (hd q hm).1 rfl) (fun hm => (hd r hm).2 rfl)
theorem Itr.ownM (h : Itr w M gs W q r kf vf m rest cur) {w0 : World} {M0 : Nat → Prop} {gs0 : List Nat} (hm : w0.heap.size ≤ r ∨ M0 r) (ha : r ∉ gs0) : OwnM w0 M0 gs0 W r kf vf m := by
  obtain ⟨es, clock, since, c0, seen, h1, h2, h3, h4, _⟩ := h.obj
  exact ⟨hm, ha, es, clock, h1, h2, h3, h4⟩

/-- How many entries are left to come. -/
def itLeft (W : World) (q r : Nat) : Nat := match W.heap[q]?, W.heap[r]? with
  | some (.mapIter _ _ seen _), some (.map es _) => (leftOf es seen).size
  | _, _ => 0
theorem Itr.left (h : Itr w M gs W q r kf vf m rest cur) : itLeft W q r = rest.length := by
  obtain ⟨es, clock, since, c0, seen, h1, h2, h3, h4, h5, _, _, _, h6, _⟩ := h.obj
  unfold itLeft
  rw [h1, h5]
  simp only
  have := congrArg List.length h6
  simpa using this
theorem Itr.base {w' : World} {M' : Nat → Prop} (h : Itr w M gs W q r kf vf m rest cur) (hm : w'.heap.size ≤ q ∨ M' q) (ha : q ∉ gs') : Itr w' M' gs' W q r kf vf m rest cur := ⟨hm, ha, h.obj⟩
theorem Evo.bel (h : Evo ds W W') (hd : ∀ d ∈ ds, W.heap.size ≤ d) : Bel W W' := ⟨⟨h.os, h.tape, h.output, h.size, fun b hb => h.block b hb fun hm => by have := hd b hm; omega⟩, h.drawn⟩

theorem opw_range {t kt et : TypeId} {w0 : World} {M0 : Nat → Prop} {gs0 : List Nat} {K : Value → World → Prop} (ht : P.underlying t = some (.map kt et)) (hA : AtF w M gs W) (ho : OwnM w0 M0 gs0 W r kf vf m)
    (h : ∀ q w', W.heap.size = q → AtF w M gs w' → Keeps gs W w' → Bel W w' → Itr w M gs w' q r kf vf m m none → K (.pointer (some ⟨q, 0, none⟩)) w') : OpW P (valueS (Instr.range t (.map (some r)))) W K := by
  have hl := ho.lt
  obtain ⟨es, clock, hr, he, hn, hb⟩ := ho.obj
  unfold OpW
  rw [run_valueS (run_range_map (P := P) W t kt et r es clock ht hr)]
  refine h _ _ rfl (hA.call (below_alloc _)) (hA.keeps (below_alloc _)) (below_alloc _) ⟨.inl hA.size, fun hm => ?_, es, clock, clock, clock, #[], ?_, he, hn, hb, heap_alloc_new W _, hb, Nat.le_refl _, Nat.le_refl _, ?_, fun x hx => by cases hx⟩
  · have := hA.under _ hm
    omega
  · rw [heap_alloc_old W _ hl, hr]
  · have : leftOf es #[] = es := by unfold leftOf; simp
    rw [this]
    exact he

theorem opw_next {ty : TypeId} {K : Value → World → Prop} (hA : AtF w M gs W) (hi : Itr w M gs W q r kf vf m rest cur) (h0 : rest = [] → K (.tuple #[.bool false]) W)
    (h1 : ∀ x r1 r2 w', rest = r1 ++ x :: r2 → AtF w M gs w' → Keeps gs W w' → Chg (fun b => b = q) W w' → Itr w M gs w' q r kf vf m (r1 ++ r2) (some x) → K (.tuple #[.bool true, kf x.1, vf x.2]) w') :
    OpW P (valueS (Instr.next (.pointer (some ⟨q, 0, none⟩)) false ty)) W K := by
  have hlt := hi.lts
  obtain ⟨es, clock, since, c0, seen, e1, e2, e3, e4, e5, e6, e7, e8, e9, _⟩ := hi.obj
  rcases run_next_at (P := P) W ty q r since c0 seen es clock e5 e1 e6 e7 with ⟨hz, hrun⟩ | ⟨e, hel, w1, hw1, hrun⟩
  · unfold OpW
    rw [run_valueS hrun]
    refine h0 ?_
    have : (leftOf es seen).toList = [] := List.eq_nil_of_length_eq_zero (by simpa using hz)
    rw [this] at e9
    unfold EntR at e9
    exact List.map_eq_nil_iff.1 e9.symm
  · obtain ⟨A, B, hAB⟩ := List.append_of_mem hel
    have hps := leftOf_push e3 hAB
    rw [hAB] at e9
    obtain ⟨x, r1, r2, hr0, he0, hk, hv⟩ : ∃ x r1 r2, rest = r1 ++ x :: r2 ∧ EntR kf vf (A ++ B) (r1 ++ r2) ∧ e.key = kf x.1 ∧ e.val = vf x.2 := by
      obtain ⟨r1, x, r2, a, b, c, d⟩ := EntR_split e9
      exact ⟨x, r1, r2, a, b, c, d⟩
    have hmem : e ∈ es.toList := by
      unfold leftOf at hel
      rw [Array.toList_filter] at hel
      exact (List.mem_filter.1 hel).1
    have hh : w1.heap = W.heap ∧ w1.os = W.os ∧ w1.tape = W.tape ∧ w1.output = W.output ∧ W.drawn ≤ w1.drawn := by
      rcases hw1 with rfl | rfl
      · exact ⟨rfl, rfl, rfl, rfl, Nat.le_refl _⟩
      · exact ⟨rfl, rfl, rfl, rfl, Nat.le_succ _⟩
    obtain ⟨a1, a2, a3, a4, a5⟩ := hh
    have hch : Chg (fun b => b = q) W (Go.ChangeMaps.setBlock w1 q (.mapIter (some r) since (seen.push e.born) clock)) :=
      ⟨a2, a3, a4, by simp [Go.ChangeMaps.setBlock, a1], fun b _ hb => by simp [Go.ChangeMaps.setBlock, a1, Ne.symm hb], a5⟩
    unfold OpW
    rw [run_valueS hrun, hk, hv]
    refine h1 x r1 r2 _ hr0 (hA.step hch fun b _ hb => hb ▸ hi.mine) (hA.keepsC hch fun g hg hb => hi.apart (hb ▸ hg)) hch ⟨hi.mine, hi.apart, es, clock, since, clock, seen.push e.born, ?_, e2, e3, e4, ?_, e6, e8, e8, ?_, fun y hy => ?_⟩
    · rw [hch.block r hlt.2.1 (Ne.symm hlt.2.2), e1]
    · have : q < w1.heap.size := by rw [a1]; exact hlt.1
      simp [Go.ChangeMaps.setBlock, this]
    · rw [hps]; exact he0
    · cases hy
      exact ⟨rfl, e, hmem, by simp, hk, hv⟩

theorem opw_entry {x : κ × α} {K : Value → World → Prop} (hi : Itr w M gs W q r kf vf m rest (some x)) (h : K (.tuple #[kf x.1, vf x.2]) W) : OpW P (valueS (Instr.entry (.pointer (some ⟨q, 0, none⟩)))) W K := by
  obtain ⟨es, clock, since, c0, seen, e1, e2, e3, e4, e5, e6, e7, e8, e9, e10⟩ := hi.obj
  obtain ⟨rfl, e, hem, hback, hk, hv⟩ := e10 x rfl
  obtain ⟨s, rfl⟩ := Array.back?_eq_some_iff.1 hback
  unfold OpW
  rw [run_valueS (run_entry_at (P := P) W q r since s es c0 e e5 e1 hem e3), hk, hv]
  exact h
end
end Go.Vc

/- vec.Copy, Same, Sub, Holds, Only. -/
set_option maxRecDepth 20000
namespace Go.Vc.W
open Go Go.Vc Go.Vc.V Go.RowKit Go.Proofs Vcw

theorem succ_i (k : Nat) (h : k < 9223372036854775807) : IntKind.i64.wrap ((k : Int) + 1) = ((k + 1 : Nat) : Int) := by rw [wrap_i64 (by omega) (by omega)]; rfl
theorem part_len (x : PartT) : (partE x).length = 3 := rfl
theorem part_one (x : PartT) : ∀ u ∈ partE x, u.oneCell' = true := fun u hu => by
  simp at hu
  rcases hu with rfl | rfl | rfl <;> rfl
theorem part_cond (x y : PartT) : (x.1 == y.1 && (x.2.1 == y.2.1 && (x.2.2 == y.2.2 && true))) = decide (x = y) := by
  obtain ⟨a, b, c⟩ := x
  obtain ⟨a', b', c'⟩ := y
  rw [Bool.eq_iff_iff]
  simp
theorem slot_cond (x y : PartT) : (x.1 == y.1 && (x.2.1 == y.2.1 && true)) = decide (slotOf x = slotOf y) := by
  obtain ⟨a, b, c⟩ := x
  obtain ⟨a', b', c'⟩ := y
  rw [Bool.eq_iff_iff]
  simp [slotOf]

theorem c99 {l1 l2 : List PartT} {aa ba : Option Addr} {an ac bn bc : Nat} (w : World) (h1 : SlE w 3 partE l1 aa an ac) (h2 : SlE w 3 partE l2 ba bn bc) : Ret Try.prog 99 #[.slice aa an ac, .slice ba bn bc] w (.bool (decide (l1 = l2))) := by
  intro R h
  refine f99_calls aa an ac ba bn bc w R ?_
  unfold f99_vc
  have hn1 := h1.len_le
  have hn2 := h2.len_le
  refine brN (fun hne => leaf h (At.refl w) ?_) (fun he => ?_)
  · rw [decide_eq_false]
    rintro rfl
    exact hne (by rw [hn1.1, hn2.1])
  have he' : an = bn := by omega
  refine ⟨fun v w4 => ∃ i : Nat, v.1 = i ∧ At w [] w4 ∧ (∀ q, q < i → l1[q]? = l2[q]?), fun v _ => (an - v.1).toNat, ⟨0, rfl, At.refl w, fun q hq => by omega⟩, ?_⟩
  rintro x3 w4 ⟨i, hi, hA, hmin⟩
  simp only at hi
  subst hi
  refine brD (fun hlt => ?_) (fun hge => leaf h hA ?_)
  · obtain ⟨x, hx⟩ : ∃ x, l1[i]? = some x := ⟨_, List.getElem?_eq_getElem (by omega)⟩
    obtain ⟨y, hy⟩ : ∃ x, l2[i]? = some x := ⟨_, List.getElem?_eq_getElem (by omega)⟩
    obtain ⟨ad, g1, el, _⟩ := elt_at (P := Try.prog) (k := .i64) (t := 33) (h1.call hA.below) hx (e := 66) (by kernel_rfl) (by kernel_rfl)
    obtain ⟨ad2, g2, el2, _⟩ := elt_at (P := Try.prog) (k := .i64) (t := 33) (h2.call hA.below) hy (e := 66) (by kernel_rfl) (by kernel_rfl)
    refine ⟨ad, g1, _, _, _, el.agg 3 (by kernel_rfl) (by kernel_rfl) (by simp) (by simp), ad2, g2, _, _, _, el2.agg 3 (by kernel_rfl) (by kernel_rfl) (by simp) (by simp), ?_⟩
    rw [part_cond x y]
    refine brND (fun hne => go_below0 hA fun w13 hA => leaf h hA ?_) (fun he => go_below0 hA fun w14 hA => ?_)
    · rw [decide_eq_false]
      rintro rfl
      rw [hx] at hy
      exact hne (Option.some.inj hy)
    · rw [succ_i i (by omega)]
      refine ⟨⟨i + 1, rfl, hA, fun q hq => ?_⟩, by simp only; omega⟩
      by_cases hqi : q = i
      · subst hqi
        rw [hx, hy, he]
      · exact hmin q (by omega)
  · rw [decide_eq_true]
    apply List.ext_getElem?
    intro q
    by_cases hq : q < i
    · exact hmin q hq
    · rw [List.getElem?_eq_none (by omega), List.getElem?_eq_none (by omega)]
theorem c10 {l1 l2 : List PartT} {aa ba : Option Addr} {an ac bn bc : Nat} (w : World) (h1 : SlE w 3 partE l1 aa an ac) (h2 : SlE w 3 partE l2 ba bn bc) : Ret Try.prog 10 #[.slice aa an ac, .slice ba bn bc] w (.bool (decide (l1 = l2))) := by
  intro R h
  refine f10_calls aa an ac ba bn bc w R ?_
  unfold f10_vc
  have hn1 := h1.len_le
  have hn2 := h2.len_le
  refine brN (fun hne => leaf h (At.refl w) ?_) (fun he => ?_)
  · rw [decide_eq_false]
    rintro rfl
    exact hne (by rw [hn1.1, hn2.1])
  have he' : an = bn := by omega
  refine ⟨fun v w4 => ∃ i : Nat, v.1 = i ∧ At w [] w4 ∧ (∀ q, q < i → l1[q]? = l2[q]?), fun v _ => (an - v.1).toNat, ⟨0, rfl, At.refl w, fun q hq => by omega⟩, ?_⟩
  rintro x3 w4 ⟨i, hi, hA, hmin⟩
  simp only at hi
  subst hi
  refine brD (fun hlt => ?_) (fun hge => leaf h hA ?_)
  · obtain ⟨x, hx⟩ : ∃ x, l1[i]? = some x := ⟨_, List.getElem?_eq_getElem (by omega)⟩
    obtain ⟨y, hy⟩ : ∃ x, l2[i]? = some x := ⟨_, List.getElem?_eq_getElem (by omega)⟩
    obtain ⟨ad, g1, el, _⟩ := elt_at (P := Try.prog) (k := .i64) (t := 33) (h1.call hA.below) hx (e := 66) (by kernel_rfl) (by kernel_rfl)
    obtain ⟨ad2, g2, el2, _⟩ := elt_at (P := Try.prog) (k := .i64) (t := 33) (h2.call hA.below) hy (e := 66) (by kernel_rfl) (by kernel_rfl)
    refine ⟨ad, g1, _, _, _, el.agg 3 (by kernel_rfl) (by kernel_rfl) (by simp) (by simp), ad2, g2, _, _, _, el2.agg 3 (by kernel_rfl) (by kernel_rfl) (by simp) (by simp), ?_⟩
    rw [part_cond x y]
    refine brND (fun hne => go_below0 hA fun w13 hA => leaf h hA ?_) (fun he => go_below0 hA fun w14 hA => ?_)
    · rw [decide_eq_false]
      rintro rfl
      rw [hx] at hy
      exact hne (Option.some.inj hy)
    · rw [succ_i i (by omega)]
      refine ⟨⟨i + 1, rfl, hA, fun q hq => ?_⟩, by simp only; omega⟩
      by_cases hqi : q = i
      · subst hqi
        rw [hx, hy, he]
      · exact hmin q (by omega)
  · rw [decide_eq_true]
    apply List.ext_getElem?
    intro q
    by_cases hq : q < i
    · exact hmin q hq
    · rw [List.getElem?_eq_none (by omega), List.getElem?_eq_none (by omega)]
theorem c87 {l1 l2 : List PartT} {aa ba : Option Addr} {an ac bn bc : Nat} (w : World) (h1 : SlE w 3 partE l1 aa an ac) (h2 : SlE w 3 partE l2 ba bn bc) : Ret Try.prog 87 #[.slice aa an ac, .slice ba bn bc] w (.bool (decide (l1 = l2))) := by
  intro R h
  refine f87_calls aa an ac ba bn bc w R ?_
  unfold f87_vc
  exact at_callb (At.refl w) (c99 w h1 h2) fun w2 hA _ _ => ⟨_, rfl, leaf h hA rfl⟩

/-! ### Sub -/
theorem vsub_len : ∀ (a b c : List PartT), vsub a b = some c → c.length ≤ a.length
  | [], [], c, h => by rw [vsub] at h; cases h; simp
  | [], _ :: _, c, h => by rw [vsub] at h; cases h
  | p :: a, [], c, h => by
    rw [vsub] at h
    cases hv : vsub a [] with
    | none => rw [hv] at h; cases h
    | some d => rw [hv] at h; cases h; have := vsub_len a [] d hv; simp; omega
  | p :: a, q :: b, c, h => by
    rw [vsub] at h
    split at h
    · split at h
      · split at h
        · cases hv : vsub a b with
          | none => rw [hv] at h; cases h
          | some d => rw [hv] at h; cases h; have := vsub_len a b d hv; simp; omega
        · have := vsub_len a b c h; simp; omega
      · cases h
    · cases hv : vsub a (q :: b) with
      | none => rw [hv] at h; cases h
      | some d => rw [hv] at h; cases h; have := vsub_len a (q :: b) d hv; simp; omega

def rank (p : PartT) : Nat := (33 * p.1 + p.2.1).toNat
theorem sorted_len : ∀ (l : List PartT) (lo : Nat), l.Pairwise slt → (∀ p ∈ l, partR p) → (∀ p ∈ l, lo ≤ rank p) → l.length ≤ 132 - lo
  | [], _, _, _, _ => Nat.zero_le _
  | p :: l, lo, h, hR, hlo => by
    have h := List.pairwise_cons.1 h
    have hp := hR p (by simp)
    have hlp := hlo p (by simp)
    have ih := sorted_len l (rank p + 1) h.2 (fun q hq => hR q (by simp [hq])) fun q hq => by
      have h1 := h.1 q hq
      have h2 := hR q (by simp [hq])
      unfold rank slt partR slotR at *
      omega
    unfold rank partR slotR at *
    simp only [List.length_cons]
    omega
theorem vec_len' {l : List PartT} (h : vecB l = true) : l.length ≤ 132 := sorted_len l 0 (vecB_iff.1 h).2 (vecB_iff.1 h).1 fun _ _ => Nat.zero_le _
theorem c58 {l1 l2 : List PartT} {aa ba : Option Addr} {an ac bn bc : Nat} (w : World) (h1 : SlE w 3 partE l1 aa an ac) (h2 : SlE w 3 partE l2 ba bn bc) :
    RetLB Try.prog 58 #[.slice aa an ac, .slice ba bn bc] w 66 3 partE (if vecB l1 = true ∧ vecB l2 = true then vout (vsub l1 l2) else []) (decide (vecB l1 = true ∧ vecB l2 = true) && (vsub l1 l2).isSome) := by
  intro R h
  refine f58_calls aa an ac ba bn bc w R ?_
  unfold f58_vc
  have hA := At.refl w
  have hn1 := h1.1
  refine at_callb hA (c63 w h1) fun w2 hA _ hb2 => ⟨_, rfl, brNB (fun hn => leaflb h hA OwnL.nil (by rw [if_neg (by rw [hn]; simp)]) (by rw [hn]; rfl)) (fun hv1 => ?_)⟩
  refine at_callb hA (c63 w2 (h2.call hb2)) fun w5 hA _ hb5 => ⟨_, rfl, brNB (fun hn => leaflb h hA OwnL.nil (by rw [if_neg (by rw [hn]; simp)]) (by rw [hn]; simp)) (fun hv2 => ?_)⟩
  have hl1 := vec_len' hv1
  rw [if_pos ⟨hv1, hv2⟩, decide_eq_true ⟨hv1, hv2⟩, Bool.true_and] at h
  have hp1 := (vecB_iff.1 hv1).1
  have hp2 := (vecB_iff.1 hv2).1
  refine ⟨fun v W => At w [] W ∧ ∃ (i : Nat) (b out : List PartT), v.2.2.1 = i ∧ i ≤ l1.length ∧ SlE w 3 partE b v.1.1 v.1.2.1 v.1.2.2 ∧ OwnL w [] W 66 3 partE (.slice v.2.1.1 v.2.1.2.1 v.2.1.2.2) out ∧ out.length ≤ i ∧ (∀ p ∈ b, partR p) ∧ (vsub (l1.drop i) b).map (out ++ ·) = vsub l1 l2, fun v _ => (l1.length - v.2.2.1).toNat,
    ⟨hA, 0, l2, [], rfl, Nat.zero_le _, h2, OwnL.nil, by simp, hp2, by simp⟩, ?_⟩
  rintro a9 n10 n11 a12 n13 n14 x15 w16 ⟨hA, i, b, out, hi, hil, hb, ho, hol, hpb, hg⟩
  simp only at hi hb ho
  subst hi
  have hnb := hb.1
  have hno := ho.len
  subst hnb hno
  refine brD (fun hlt => ?_) (fun hge => ?_)
  · obtain ⟨p, hp⟩ : ∃ x, l1[i]? = some x := ⟨_, List.getElem?_eq_getElem (by omega)⟩
    have hpr := hp1 p (List.mem_of_getElem? hp)
    rw [drop_cons hp] at hg
    obtain ⟨ad, g1, el, _⟩ := elt_at (P := Try.prog) (k := .i64) (t := 33) (h1.call hA.below) hp (e := 66) (by kernel_rfl) (by kernel_rfl)
    refine ⟨fun v W => At w [] W ∧ ∃ (b' out' : List PartT), SlE w 3 partE b' v.1.1 v.1.2.1 v.1.2.2 ∧ OwnL w [] W 66 3 partE (.slice v.2.1.1 v.2.1.2.1 v.2.1.2.2) out' ∧ out'.length ≤ i + 1 ∧ (∀ p ∈ b', partR p) ∧ (vsub (l1.drop (i + 1)) b').map (out' ++ ·) = vsub l1 l2, ⟨⟨ad, g1, _, _, _, el.agg 3 (by kernel_rfl) (by kernel_rfl) (by simp) (by simp), ?_⟩, ?_⟩⟩
    · intro n22 hn22
      refine ⟨fun v W => At w [n22] W ∧ OwnL w [n22] W 66 3 partE (.slice a12 out.length n14) out ∧ v.2.1 = p.1 ∧ v.2.2.1 = p.2.1 ∧ ∃ b' : List PartT, SlE w 3 partE b' v.1.1 v.1.2.1 v.1.2.2 ∧ (∀ p ∈ b', partR p) ∧ 0 ≤ v.2.2.2.1 ∧ (if 0 < v.2.2.2.1 then (vsub (l1.drop (i + 1)) b').map (out ++ [(p.1, p.2.1, v.2.2.2.1)] ++ ·) else (vsub (l1.drop (i + 1)) b').map (out ++ ·)) = vsub l1 l2, ⟨⟨?_, ?_⟩, ?_⟩⟩
      · intro hb0
        have hb0 : 0 < b.length := by simpa using hb0
        obtain ⟨q, t, rfl⟩ : ∃ q t, b = q :: t := by
          cases b with
          | nil => simp at hb0
          | cons q t => exact ⟨q, t, rfl⟩
        have hqr := hpb q (by simp)
        obtain ⟨ad2, g2, el2, _⟩ := elt_at (P := Try.prog) (k := .i64) (t := 33) (i := 0) (hb.call hA.below) rfl (e := 66) (by kernel_rfl) (by kernel_rfl)
        refine ⟨ad2, g2, _, _, _, el2.agg 3 (by kernel_rfl) (by kernel_rfl) (by simp) (el2.far (by simpa using hn22)), ?_⟩
        intro w28 hev hun
        have hbel := hev.bel (by simpa using hn22)
        have ho28 : OwnL w [n22] w28 66 3 partE (.slice a12 out.length n14) out := (ho.more (gs' := [n22]) (by intro g h1 _; simp at h1; omega)).call hbel
        have hA28 : At w [n22] w28 := ⟨(hA.call hbel).chg, hun⟩
        refine at_callb hA28 (c65 _ _ _ w28) fun w30 hA hk hb30 => ⟨_, _, rfl, hk, ?_⟩
        refine at_callb hA (c65 _ _ _ w30) fun w34 hA hk hb34 => ⟨_, _, rfl, hk, ?_⟩
        have ho34 := (ho28.call hb30).call hb34
        rw [slot_cond q p]
        refine brD (fun he => ?_) (fun hne => ?_)
        · obtain ⟨ad3, g3, el3, _⟩ := elt_at (P := Try.prog) (k := .i64) (t := 33) (i := 0) (hb.call hA.below) rfl (e := 66) (by kernel_rfl) (by kernel_rfl)
          refine ⟨ad3, g3, _, (el3.sub (o := 2) (by decide)).one (by kernel_rfl) (by simp), go_below_too hA fun w39 hA hb39 => ?_⟩
          refine at_callb hA (c88 p.2.2 q.2.2 (by have := hpr.2; unfold I64; omega) w39) fun w41 hA hk hb41 => ?_
          unfold qsub
          have hq0 := hqr.2
          by_cases hle : q.2.2 ≤ p.2.2
          · rw [if_neg (by omega)]
            refine ⟨_, _, rfl, hk, brB (fun e => by cases e) (fun _ => ?_)⟩
            obtain ⟨a', g4, k4⟩ := gives_from (P := Try.prog) (t := 33) (e := 66) (k := .i64) (i := 1) hb (by simp) (by kernel_rfl) (by kernel_rfl)
            have s4 := k4 w hb
            rw [List.drop_one, List.tail_cons] at s4
            refine ⟨_, _, _, g4, ?_⟩
            intro w47 hev hun
            have hsz := hA.size
            refine ⟨⟨(hA.evo (gs' := [n22]) (by intro d hd; simp at hd; have := ‹At w [] w16›.size; omega) hev hun).chg, hun⟩, ?_, rfl, rfl, t, s4, fun x hx => hpb x (by simp [hx]), by simp only; omega, ?_⟩
            · exact ((ho34.call hb39).call hb41).evo (by intro d hd h2; simp at hd h2; omega) hev
            · simp only
              rw [vsub, if_pos he, if_pos hle] at hg
              rw [← hg]
              split
              · rw [map_append]
              · rfl
          · rw [if_pos (by omega)]
            refine ⟨_, _, rfl, hk, brB (fun _ => ?_) (fun e => by cases e)⟩
            have : vsub l1 l2 = none := by rw [← hg, vsub, if_pos he, if_neg hle]; rfl
            exact leaflb h hA OwnL.nil (by rw [this]; rfl) (by rw [this]; rfl)
        · have hp0 := hpr.2
          refine ⟨hA, ho34, rfl, rfl, q :: t, hb, hpb, by simp only; omega, ?_⟩
          simp only
          rw [if_pos (by omega)]
          rw [vsub, if_neg hne] at hg
          rw [← hg, map_append]
      · intro hb0
        have hb0 : b = [] := List.eq_nil_of_length_eq_zero (by simpa using hb0)
        subst hb0
        intro w48 hev hun
        have hbel := hev.bel (by simpa using hn22)
        have hp0 := hpr.2
        refine ⟨⟨(hA.call hbel).chg, hun⟩, (ho.more (gs' := [n22]) (by intro g h1 _; simp at h1; omega)).call hbel, rfl, rfl, [], hb, by simp, by simp only; omega, ?_⟩
        simp only
        rw [if_pos (by omega)]
        rw [vsub] at hg
        rw [← hg, map_append]
      · rintro a49 n50 n51 x52 x53 x54 w55 ⟨hA, ho, e1, e2, b', hb', hpb', hx0, hg'⟩
        simp only at e1 e2 hb' hx0 hg'
        subst e1 e2
        refine brD (fun hpos => ?_) (fun hz => ?_)
        · rw [if_pos hpos] at hg'
          refine opw_push (e' := 66) (bytes := 24) hA ho (p.1, p.2.1, x54) (by kernel_rfl) (by kernel_rfl) rfl (fun _ _ => rfl) (part_one _) (by omega) (by decide) fun a2 c2 w62 hA ho _ _ => ⟨hA.off, b', _, hb', ho.more (by simp), by simp; omega, hpb', hg'⟩
        · rw [if_neg hz] at hg'
          exact ⟨hA.off, b', out, hb', ho.more (by simp), by omega, hpb', hg'⟩
    · rintro a66 n67 n68 a69 n70 n71 w72 ⟨hA, b', out', hb', ho', hol', hpb', hg'⟩
      rw [succ_i i (by omega)]
      exact ⟨⟨hA, i + 1, b', out', rfl, by omega, hb', ho', hol', hpb', hg'⟩, by simp only; omega⟩
  · rw [List.drop_of_length_le (by omega)] at hg
    refine brD (fun hpos => ?_) (fun hz => ?_)
    · obtain ⟨q, t, rfl⟩ : ∃ q t, b = q :: t := by
        cases b with
        | nil => simp at hpos
        | cons q t => exact ⟨q, t, rfl⟩
      have : vsub l1 l2 = none := by rw [← hg, vsub]; rfl
      exact leaflb h hA OwnL.nil (by rw [this]; rfl) (by rw [this]; rfl)
    · have hb0 : b = [] := List.eq_nil_of_length_eq_zero (by omega)
      subst hb0
      rw [vsub] at hg
      have : vsub l1 l2 = some out := by rw [← hg]; simp
      exact leaflb h hA ho (by rw [this]; rfl) (by rw [this]; rfl)

theorem c25 {l1 l2 : List PartT} {aa ba : Option Addr} {an ac bn bc : Nat} (w : World) (h1 : SlE w 3 partE l1 aa an ac) (h2 : SlE w 3 partE l2 ba bn bc) : Ret Try.prog 25 #[.slice aa an ac, .slice ba bn bc] w (.bool (decide (vecB l1 = true ∧ vecB l2 = true) && (vsub l1 l2).isSome)) := by
  intro R h
  refine f25_calls aa an ac ba bn bc w R ?_
  unfold f25_vc
  exact at_calllb (At.refl w) (c58 w h1 h2) (fun _ _ => rfl) fun a c w2 hA _ _ _ _ => ⟨_, _, _, _, rfl, leaf h hA rfl⟩

/-! ### Only -/
theorem c94 {l : List Int} {a : Option Addr} {n c : Nat} (v : Int) (w : World) (hs : SlE w 1 one l a n c) : RetQ Try.prog 94 #[.slice a n c, .int .i64 v] w fun u _ => ∃ i : Int, u = .int .i64 i ∧ (i ≥ 0 ↔ v ∈ l) := by
  intro R h
  refine f94_calls a n c v w R ?_
  unfold f94_vc
  have hn := hs.len_le
  refine ⟨fun s W => At w [] W ∧ ∃ k : Nat, s.1 = k ∧ k ≤ l.length ∧ ∀ q, q < k → ∀ y, l[q]? = some y → y ≠ v, fun s _ => (n - s.1).toNat, ⟨At.refl w, 0, rfl, Nat.zero_le _, fun q hq => by omega⟩, ?_⟩
  rintro x3 w4 ⟨hA, k, hk, hkl, hmin⟩
  simp only at hk
  subst hk
  refine brD (fun hlt => ?_) (fun hge => ?_)
  · obtain ⟨x, hx⟩ : ∃ x, l[k]? = some x := ⟨_, List.getElem?_eq_getElem (by omega)⟩
    obtain ⟨ad, g1, r1⟩ := rd_one (te := 3) (ds := []) (k := .i64) (t := 68) (P := Try.prog) (e := 3) (hs.call hA.below) hx rfl (by kernel_rfl) (by kernel_rfl) (by kernel_rfl) (fun _ h => by cases h)
    refine ⟨ad, g1, _, r1, brE (fun he => leafq h hA ⟨_, rfl, ?_⟩) (fun hne => ?_)⟩
    · exact ⟨fun _ => by rw [he]; exact List.mem_of_getElem? hx, fun _ => by omega⟩
    · rw [succ_i k (by omega)]
      refine ⟨⟨hA, k + 1, rfl, by omega, fun q hq y hy => ?_⟩, by simp only; omega⟩
      by_cases hqk : q = k
      · subst hqk
        rw [hx] at hy
        cases hy
        exact fun e => hne e.symm
      · exact hmin q (by omega) y hy
  · refine leafq h hA ⟨_, rfl, ⟨fun hh => by omega, fun hm => ?_⟩⟩
    obtain ⟨q, hq⟩ := List.mem_iff_getElem?.1 hm
    have := (List.getElem?_eq_some_iff.1 hq).1
    exact absurd rfl (hmin q (by omega) v hq)
theorem c71 {l : List Int} {a : Option Addr} {n c : Nat} (v : Int) (w : World) (hs : SlE w 1 one l a n c) : Ret Try.prog 71 #[.slice a n c, .int .i64 v] w (.bool (decide (v ∈ l))) := by
  intro R h
  refine f71_calls a n c v w R ?_
  unfold f71_vc
  refine at_callq (At.refl w) (c94 v w hs) fun u w2 hA _ _ ⟨i, e, hi⟩ => ?_
  subst e
  exact ⟨_, rfl, leaf h hA (congrArg (fun b => Ending.returned (.bool b)) (decide_eq_decide.2 hi))⟩
/-- What is of some roles. -/
def onlyL (l : List PartT) (roles : List Int) : List PartT := if vecB l = true then l.filter fun p => decide (p.2.1 ∈ roles) else []
theorem c40 {l : List PartT} {roles : List Int} {a ra : Option Addr} {n c rn rc : Nat} (w : World) (hs : SlE w 3 partE l a n c) (hr : SlE w 1 one roles ra rn rc) : RetL Try.prog 40 #[.slice a n c, .slice ra rn rc] w 66 3 partE (onlyL l roles) := by
  intro R h
  refine f40_calls a n c ra rn rc w R ?_
  unfold f40_vc
  have hn := hs.len_le.1
  have hnn := hs.len_le.2
  refine ⟨fun v W => At w [] W ∧ ∃ i : Nat, v.2.1 = i ∧ i ≤ l.length ∧ OwnL w [] W 66 3 partE (.slice v.1.1 v.1.2.1 v.1.2.2) (if vecB l = true then (l.take i).filter fun p => decide (p.2.1 ∈ roles) else []), fun v _ => (n - v.2.1).toNat, ⟨At.refl w, 0, rfl, Nat.zero_le _, by simp only [List.take_zero, List.filter_nil, ite_self]; exact OwnL.nil⟩, ?_⟩
  rintro a3 n4 n5 x6 w7 ⟨hA, i, hi, hil, ho⟩
  simp only at hi ho
  subst hi
  refine brD (fun hlt => ?_) (fun hge => leafl h hA ho ?_)
  · obtain ⟨p, hp⟩ : ∃ x, l[i]? = some x := ⟨_, List.getElem?_eq_getElem (by omega)⟩
    obtain ⟨ad, g1, el, _⟩ := elt_at (P := Try.prog) (k := .i64) (t := 33) (hs.call hA.below) hp (e := 66) (by kernel_rfl) (by kernel_rfl)
    have htk : l.take (i + 1) = l.take i ++ [p] := by rw [List.take_add_one, hp]; rfl
    refine ⟨ad, g1, _, _, _, el.agg 3 (by kernel_rfl) (by kernel_rfl) (by simp) (by simp), ?_⟩
    intro n12 hn12 w13 hev hun
    have hbel := hev.bel (by simpa using hn12)
    have hA : At w [n12] w13 := ⟨(hA.call hbel).chg, hun⟩
    have ho := (ho.more (gs' := [n12]) (by intro g h1 _; simp at h1; omega)).call hbel
    refine at_callb hA (c71 p.2.1 w13 (hr.call hA.below)) fun w15 hA hk hb => ⟨_, rfl, hk, ?_⟩
    have ho := ho.call hb
    have hol : ((l.take i).filter fun p => decide (p.2.1 ∈ roles)).length ≤ i := Nat.le_trans (List.length_filter_le ..) (by simp; omega)
    rw [succ_i i (by omega)]
    refine brD (fun hm => ?_) (fun hm => ?_)
    · refine at_callb hA (c63 w15 (hs.call hA.below)) fun w18 hA hk hb => ⟨_, rfl, hk, ?_⟩
      have ho := ho.call hb
      refine brB (fun hv => ?_) (fun hv => ?_)
      · have hl := vec_len' hv
        rw [if_pos hv] at ho
        refine opw_push (e' := 66) (bytes := 24) hA ho p (by kernel_rfl) (by kernel_rfl) rfl (fun _ _ => rfl) (part_one _) (by omega) (by decide) fun a2 c2 w26 hA ho _ _ => ?_
        refine ⟨⟨hA.off, i + 1, rfl, by omega, ?_⟩, by simp only; omega⟩
        simp only
        rw [if_pos hv, htk, List.filter_append, List.filter_cons, if_pos (by simpa using hm)]
        exact ho.more (by simp)
      · have hv' : ¬ vecB l = true := by rw [hv]; decide
        rw [if_neg hv'] at ho
        refine ⟨⟨hA.off, i + 1, rfl, by omega, ?_⟩, by simp only; omega⟩
        simp only
        rw [if_neg hv']
        exact ho.more (by simp)
    · refine ⟨⟨hA.off, i + 1, rfl, by omega, ?_⟩, by simp only; omega⟩
      simp only
      have e : (l.take i ++ [p]).filter (fun p => decide (p.2.1 ∈ roles)) = (l.take i).filter fun p => decide (p.2.1 ∈ roles) := by
        rw [List.filter_append, List.filter_cons_of_neg (by simpa using hm), List.filter_nil, List.append_nil]
      rw [htk, e]
      exact ho.more (by simp)
  · unfold onlyL
    rw [List.take_of_length_le (by omega)]
end Go.Vc.W

/- vec.Get, Text, Least; what works at all. -/
set_option maxRecDepth 20000
set_option maxHeartbeats 1000000
namespace Go.Vc.W
open Go Go.Vc Go.Vc.V Go.RowKit Go.Proofs Vcw

variable {w W W' : World} {M : Nat → Prop} {gs : List Nat}

theorem c64 {l : List PartT} {a : Option Addr} {n c : Nat} (k r : Int) (w : World) (hs : SlE w 3 partE l a n c) : Ret Try.prog 64 #[.slice a n c, slotV k r] w (.int .i64 (amt (k, r) l)) := by
  intro R h
  refine f64_calls a n c k r w R ?_
  unfold f64_vc
  have hn := hs.1
  have hmx := hs.len_le
  intro n1 hn1
  refine ⟨fun v W' => At w [] W' ∧ ∃ i : Nat, v.1 = i ∧ i ≤ l.length ∧ amt (k, r) (l.drop i) = amt (k, r) l, fun v _ => (n - v.1).toNat, ⟨fun w4 hb _ => ⟨(At.refl w).call hb, 0, rfl, Nat.zero_le _, rfl⟩, ?_⟩⟩
  rintro x5 w6 ⟨hA, i, hi, hil, hd⟩
  simp only at hi
  subst hi
  refine brD (fun hlt => ?_) (fun hge => leaf h hA ?_)
  · obtain ⟨p, hp⟩ : ∃ x, l[i]? = some x := ⟨_, List.getElem?_eq_getElem (by omega)⟩
    obtain ⟨ad, g1, el, _⟩ := elt_at (P := Try.prog) (k := .i64) (t := 33) (hs.call hA.below) hp (e := 66) (by kernel_rfl) (by kernel_rfl)
    rw [drop_cons hp, amt] at hd
    refine ⟨ad, g1, _, _, _, el.agg 3 (by kernel_rfl) (by kernel_rfl) (by simp) (by simp), ?_⟩
    intro n11 hn11 w12 hev hun
    have hbel := hev.bel (by simpa using hn11)
    refine at_callb (gs := [n1, n11]) ⟨(hA.call hbel).chg, hun⟩ (c65 _ _ _ w12) fun w14 hA hk hb14 => ⟨_, _, rfl, hk, ?_⟩
    have hcond : (p.1 == k && (p.2.1 == r && true)) = decide (slotOf p = (k, r)) := by
      rw [Bool.eq_iff_iff]
      simp [slotOf]
    rw [hcond]
    refine brD (fun he => leaf h hA ?_) (fun hne => ?_)
    · rw [if_pos he] at hd
      rw [hd]
    · rw [if_neg hne] at hd
      rw [succ_i i (by omega)]
      exact ⟨⟨hA.off, i + 1, rfl, by omega, hd⟩, by simp only; omega⟩
  · rw [show i = l.length by omega, List.drop_length, amt] at hd
    rw [← hd]

/-! ### Text -/
theorem part_I {l : List PartT} (hv : vecB l = true) {p : PartT} (hp : p ∈ l) : I64 p.2.2 := by
  have := ((vecB_iff.1 hv).1 p hp).2
  unfold I64
  omega

end Go.Vc.W

/- vec.Least; few; what works at all. -/
set_option maxRecDepth 20000
set_option maxHeartbeats 1000000
namespace Go.Vc.W
open Go Go.Vc Go.Vc.V Go.RowKit Go.Proofs Vcw

variable {w W W' : World} {M : Nat → Prop} {gs : List Nat}

def mn (x y : Int) : Int := if y < x then y else x
def least1 (b : List PartT) (p : PartT) : Option PartT := if 0 < mn p.2.2 (amt (slotOf p) b) then some (p.1, p.2.1, mn p.2.2 (amt (slotOf p) b)) else none
def leastL (a b : List PartT) : List PartT := if vecB a = true ∧ vecB b = true then a.filterMap (least1 b) else []
theorem c28 {l1 l2 : List PartT} {aa ba : Option Addr} {an ac bn bc : Nat} (w : World) (h1 : SlE w 3 partE l1 aa an ac) (h2 : SlE w 3 partE l2 ba bn bc) : RetL Try.prog 28 #[.slice aa an ac, .slice ba bn bc] w 66 3 partE (leastL l1 l2) := by
  intro R h
  refine f28_calls aa an ac ba bn bc w R ?_
  unfold f28_vc
  have hn := h1.1
  refine at_callb (At.refl w) (c63 w h1) fun w2 hA _ hb2 => ⟨_, rfl, brNB (fun hno => ?_) (fun hv1 => ?_)⟩
  · exact leafl h hA OwnL.nil (by rw [leastL, if_neg (fun hh => by rw [hno] at hh; cases hh.1)])
  refine at_callb hA (c63 w2 (h2.call hb2)) fun w5 hA _ hb5 => ⟨_, rfl, brNB (fun hno => ?_) (fun hv2 => ?_)⟩
  · exact leafl h hA OwnL.nil (by rw [leastL, if_neg (fun hh => by rw [hno] at hh; cases hh.2)])
  have hlen := vec_len' hv1
  refine ⟨fun v W' => At w [] W' ∧ ∃ i : Nat, v.2.1 = i ∧ i ≤ l1.length ∧ OwnL w [] W' 66 3 partE (.slice v.1.1 v.1.2.1 v.1.2.2) ((l1.take i).filterMap (least1 l2)), fun v _ => (an - v.2.1).toNat, ⟨hA, 0, rfl, Nat.zero_le _, OwnL.nil⟩, ?_⟩
  rintro a9 n10 n11 x12 w13 ⟨hA, i, hi, hil, ho⟩
  simp only at hi ho
  subst hi
  have hsz13 := hA.size
  refine brD (fun hlt => ?_) (fun hge => ?_)
  · obtain ⟨p, hp⟩ : ∃ x, l1[i]? = some x := ⟨_, List.getElem?_eq_getElem (by omega)⟩
    obtain ⟨ad, g1, el, _⟩ := elt_at (P := Try.prog) (k := .i64) (t := 33) (h1.call hA.below) hp (e := 66) (by kernel_rfl) (by kernel_rfl)
    refine ⟨ad, g1, _, _, _, el.agg 3 (by kernel_rfl) (by kernel_rfl) (by simp) (by simp), ?_⟩
    intro n18 hn18 w19 hev hun
    have hbel := hev.bel (by simpa using hn18)
    have hA : At w [n18] w19 := ⟨(hA.call hbel).chg, hun⟩
    have ho := (ho.more (gs' := [n18]) (by intro g h1 _; simp at h1; omega)).call hbel
    have htk : (l1.take (i + 1)).filterMap (least1 l2) = (l1.take i).filterMap (least1 l2) ++ (least1 l2 p).toList := by
      rw [List.take_add_one, hp, List.filterMap_append]
      congr 1
    have hle : ((l1.take i).filterMap (least1 l2)).length ≤ i := Nat.le_trans (List.length_filterMap_le ..) (by simp; omega)
    refine at_callb hA (c65 _ _ _ w19) fun w21 hA hk hb21 => ⟨_, _, rfl, hk, ?_⟩
    refine at_callb hA (c64 _ _ w21 (h2.call hA.below)) fun w25 hA hk hb25 => ⟨_, rfl, hk, ?_⟩
    have ho := (ho.call hb21).call hb25
    rw [succ_i i (by omega)]
    have e : (if amt (p.1, p.2.1) l2 < p.2.2 then amt (p.1, p.2.1) l2 else p.2.2) = mn p.2.2 (amt (slotOf p) l2) := rfl
    rw [e]
    refine brD (fun hpos => ?_) (fun hno => ?_)
    · intro w27 hev hun
      have hA := hA.evo (by intro d hd; simp at hd; omega) hev hun
      have ho := ho.evo (fun d hd hn => absurd hd hn) hev
      have e1 : least1 l2 p = some (p.1, p.2.1, mn p.2.2 (amt (slotOf p) l2)) := if_pos hpos
      rw [e1] at htk
      refine opw_push (f := partE) (e' := 66) (bytes := 24) hA ho (p.1, p.2.1, mn p.2.2 (amt (slotOf p) l2)) (by kernel_rfl) (by kernel_rfl) rfl (fun _ _ => rfl) (part_one _) (by omega) (by omega) fun a2 c2 w35 hA ho _ _ => ?_
      refine ⟨⟨hA.off, i + 1, rfl, by omega, ?_⟩, by simp only; omega⟩
      simp only
      rw [htk]
      exact ho.more (by simp)
    · intro w38 hev hun
      have hA := hA.evo (by intro d hd; simp at hd; omega) hev hun
      have ho := ho.evo (fun d hd hn => absurd hd hn) hev
      have e1 : least1 l2 p = none := if_neg hno
      rw [e1] at htk
      refine ⟨⟨hA.off, i + 1, rfl, by omega, ?_⟩, by simp only; omega⟩
      simp only
      rw [htk]
      simpa using ho.more (gs' := []) (by simp)
  · rw [show i = l1.length by omega, List.take_length] at ho
    exact leafl h hA ho (by rw [leastL, if_pos ⟨hv1, hv2⟩])

/-! ### Few -/
/-! ### What works -/
end Go.Vc.W

/- VecOrder, VecBack. -/
set_option maxRecDepth 20000
set_option maxHeartbeats 1000000
namespace Go.Vc.W
open Go Go.Vc Go.Vc.V Go.RowKit Go.Proofs Vcw

variable {w W W' : World} {M : Nat → Prop} {gs : List Nat}

def holdsB (a b : List PartT) : Bool := decide (vecB a = true ∧ vecB b = true) && (vsub a b).isSome
theorem holds_iff {a b : List PartT} : holdsB a b = true ↔ vecB a = true ∧ vecB b = true ∧ ∀ s, amt s b ≤ amt s a := by
  unfold holdsB
  rw [Bool.and_eq_true, decide_eq_true_eq]
  constructor
  · rintro ⟨⟨h1, h2⟩, h3⟩
    exact ⟨h1, h2, (vsub_iff h1 h2).1 h3⟩
  · rintro ⟨h1, h2, h3⟩
    exact ⟨⟨h1, h2⟩, (vsub_iff h1 h2).2 h3⟩
theorem holds_self (a : List PartT) : holdsB a a = vecB a := by
  rw [Bool.eq_iff_iff, holds_iff]
  exact ⟨fun h => h.1, fun h => ⟨h, h, fun _ => Int.le_refl _⟩⟩
theorem holds_anti {a b : List PartT} (h : holdsB a b = true) (k : holdsB b a = true) : a = b := by
  have h := holds_iff.1 h
  have k := holds_iff.1 k
  exact vec_ext h.1 k.1 fun s => by have := h.2.2 s; have := k.2.2 s; omega
theorem holds_trans {a b c : List PartT} (h : holdsB a b = true) (k : holdsB b c = true) : holdsB a c = true := by
  have h := holds_iff.1 h
  have k := holds_iff.1 k
  exact holds_iff.2 ⟨h.1, k.2.1, fun s => by have := h.2.2 s; have := k.2.2 s; omega⟩
/-! ### The least of two -/
theorem least1_key {b : List PartT} {p q : PartT} (h : least1 b p = some q) : slotOf q = slotOf p ∧ q.2.2 = mn p.2.2 (amt (slotOf p) b) ∧ 0 < q.2.2 := by
  unfold least1 at h
  split at h
  · cases h
    exact ⟨rfl, rfl, by assumption⟩
  · cases h
theorem least_vec {a b : List PartT} (ha : vecB a = true) : vecB (a.filterMap (least1 b)) = true := by
  have wa := vecB_iff.1 ha
  rw [vecB_iff]
  refine ⟨fun q hq => ?_, ?_⟩
  · obtain ⟨p, hp, hl⟩ := List.mem_filterMap.1 hq
    obtain ⟨e1, e2, e3⟩ := least1_key hl
    have hr := wa.1 p hp
    have e4 : q.1 = p.1 ∧ q.2.1 = p.2.1 := by simpa [slotOf] using e1
    unfold partR at *
    rw [e4.1, e4.2]
    refine ⟨hr.1, by omega, ?_⟩
    rw [e2]
    unfold mn
    split <;> omega
  · rw [List.pairwise_filterMap]
    refine wa.2.imp fun {p q} hlt x hx y hy => ?_
    have e1 := (least1_key hx).1
    have e2 := (least1_key hy).1
    simp only [slotOf, Prod.mk.injEq] at e1 e2
    unfold slt at *
    rw [e1.1, e1.2, e2.1, e2.2]
    exact hlt
theorem least_amt {b : List PartT} (hb : vecB b = true) (s : Sl) : ∀ {a : List PartT}, (∀ p ∈ a, partR p) → a.Pairwise slt → amt s (a.filterMap (least1 b)) = mn (amt s a) (amt s b)
  | [], _, _ => by
    have := (amt_nonneg (s := s) (vecB_iff.1 hb).1).1
    show (0 : Int) = mn 0 (amt s b)
    unfold mn
    rw [if_neg (by omega)]
  | p :: r, ha, hp => by
    have hb0 := (amt_nonneg (s := s) (vecB_iff.1 hb).1).1
    have hpw := List.pairwise_cons.1 hp
    have ih := least_amt hb s (fun q hq => ha q (List.mem_cons_of_mem _ hq)) hpw.2
    have hpr := (ha p (by simp)).2
    rw [amt]
    by_cases he : slotOf p = s
    · rw [if_pos he]
      cases hl : least1 b p with
      | some q =>
        obtain ⟨e1, e2, _⟩ := least1_key hl
        rw [List.filterMap_cons_some hl, amt, if_pos (e1.trans he), e2, he]
      | none =>
        have hn : ¬ 0 < mn p.2.2 (amt (slotOf p) b) := fun hpos => by
          unfold least1 at hl
          rw [if_pos hpos] at hl
          cases hl
        rw [List.filterMap_cons_none hl, ih]
        have h0 : amt s r = 0 := amt_none fun q hq e => slt_ne (hpw.1 q hq) (e.trans he.symm)
        rw [h0]
        rw [he] at hn
        unfold mn at *
        split <;> split <;> (try split at hn) <;> omega
    · rw [if_neg he]
      cases hl : least1 b p with
      | some q =>
        obtain ⟨e1, _, _⟩ := least1_key hl
        rw [List.filterMap_cons_some hl, amt, if_neg (fun e => he (e1.symm.trans e)), ih]
      | none => rw [List.filterMap_cons_none hl, ih]
theorem leastL_vec {a b : List PartT} (ha : vecB a = true) (hb : vecB b = true) : vecB (leastL a b) = true ∧ ∀ s, amt s (leastL a b) = mn (amt s a) (amt s b) := by
  unfold leastL
  rw [if_pos ⟨ha, hb⟩]
  exact ⟨least_vec ha, fun s => least_amt hb s (vecB_iff.1 ha).1 (vecB_iff.1 ha).2⟩
theorem least_comm {a b : List PartT} (ha : vecB a = true) (hb : vecB b = true) : leastL a b = leastL b a := by
  have h1 := leastL_vec ha hb
  have h2 := leastL_vec hb ha
  exact vec_ext h1.1 h2.1 fun s => by
    rw [h1.2, h2.2]
    unfold mn
    split <;> split <;> omega
def addL (a b : List PartT) : List PartT × Bool := (if vecB a = true ∧ vecB b = true then vout (vadd a b) else [], decide (vecB a = true ∧ vecB b = true) && (vadd a b).isSome)
theorem add_comm' (a b : List PartT) : addL a b = addL b a := by
  by_cases h : vecB a = true ∧ vecB b = true
  · have key : ∀ {a b : List PartT}, vecB a = true → vecB b = true → ∀ c, vadd a b = some c → vadd b a = some c := fun {a b} ha hb c hc => by
      have h1 := vadd_amt ha hb hc
      have h2 : (vadd b a).isSome = true := (vadd_iff hb ha).2 fun s => by
        have := h1.2.1 s
        have := (amt_nonneg (s := s) (vecB_iff.1 h1.1).1).2
        simp only [topQ]
        omega
      obtain ⟨d, hd⟩ := Option.isSome_iff_exists.1 h2
      have h3 := vadd_amt hb ha hd
      rw [hd, vec_ext h3.1 h1.1 fun s => by rw [h3.2.1, h1.2.1]; omega]
    have e : vadd a b = vadd b a := by
      cases hab : vadd a b with
      | some c => rw [key h.1 h.2 c hab]
      | none =>
        cases hba : vadd b a with
        | none => rfl
        | some c =>
          rw [key h.2 h.1 c hba] at hab
          cases hab
    unfold addL
    rw [if_pos h, if_pos h.symm, decide_eq_true h, decide_eq_true h.symm, e]
  · unfold addL
    rw [if_neg h, if_neg fun k => h k.symm, decide_eq_false h, decide_eq_false fun k => h k.symm]
    rfl
theorem least_rest {a b x y : List PartT} (ha : vecB a = true) (hb : vecB b = true) (hx : vsub a (leastL a b) = some x) (hy : vsub b (leastL a b) = some y) : leastL x y = [] := by
  have hl := leastL_vec ha hb
  have h1 := vsub_amt ha hl.1 hx
  have h2 := vsub_amt hb hl.1 hy
  have h3 := leastL_vec h1.1 h2.1
  exact vec_ext h3.1 rfl fun s => by
    rw [h3.2, h1.2.1, h2.2.1, hl.2, amt]
    unfold mn
    split <;> split <;> omega
end Go.Vc.W

/- The formulas of functions, printed by a program (VcTool.lean): each is what the generator's formula comes to, by the kernel's reckoning; whoever proves one has the function's contract. -/
set_option maxRecDepth 100000
set_option maxHeartbeats 1000000
set_option linter.unusedVariables false
namespace Vcw
open Go Go.Vc Go.RowKit
/-! manciple/mancipleref05.Right -/
def h14 : Hints := ⟨[], [12, 20, 28, 40, 45], [7, 51, 17, 25, 33, 36], [(4, [0, 1, 2, 3, 4, 5, 6, 7, 8, 9, 10, 11, 12, 13, 14, 15, 16, 17, 18, 19, 20, 21, 22, 23, 24, 25, 26, 27, 28, 29, 30, 31, 33, 34, 35, 36, 32, 37, 38, 39, 40, 41])], [], [(2, ⟨[(3, .int .i64)], []⟩)], [], [], []⟩
def f14_vc (va : Option Addr) (vn : Nat) (vc : Nat) (w : World) (R : Ending → World → Prop) : Prop :=
 ∃ (J1 : Int × Unit → World → Prop),
 ∃ (J2 : Int × Unit → World → Nat),
 J1 (0, ()) w ∧
 ∀ (x3 : Int) (w4 : World),
 J1 (x3, ()) w4 →
 (decide (x3 < (↑vn : Int)) = true →
 ∃ (ad5 : Addr),
 Gives Proofs.Try.prog (Instr.indexAt 33 (Value.slice va vn vc) (Value.int IntKind.i64 x3)) (Value.pointer (some ad5)) ∧
 ∃ (x6 : Int),
 ∃ (x7 : Int),
 ∃ (x8 : Int),
 Reads Proofs.Try.prog [] (Instr.loadAt 66 (Value.pointer (some ad5))) w4 (Value.agg #[Value.int IntKind.i64 x6, Value.int IntKind.i64 x7, Value.int IntKind.i64 x8]) ∧
 ∀ (w9 : World),
 Bel w4 w9 →
 Calls Proofs.Try.prog 45 #[Value.agg #[Value.int IntKind.i64 x6, Value.int IntKind.i64 x7, Value.int IntKind.i64 x8]] w9 fun (e10 : Ending) (w11 : World) =>
 ∃ (x12 : Int),
 ∃ (x13 : Int),
 e10 = Ending.returned (Value.agg #[Value.int IntKind.i64 x12, Value.int IntKind.i64 x13]) ∧
 Calls Proofs.Try.prog 44 #[Value.agg #[Value.int IntKind.i64 x12, Value.int IntKind.i64 x13]] w11 fun (e14 : Ending) (w15 : World) =>
 ∃ (b16 : Bool),
 e14 = Ending.returned (Value.bool b16) ∧
 ((!b16) = true → R (Ending.returned (Value.bool false)) w15) ∧
 ((!b16) = false →
 ∃ (ad17 : Addr),
 Gives Proofs.Try.prog (Instr.indexAt 33 (Value.slice va vn vc) (Value.int IntKind.i64 x3)) (Value.pointer (some ad17)) ∧
 ∃ (x18 : Int),
 Reads Proofs.Try.prog [] (Instr.loadAt 2 (Value.pointer (some (Addr.mk ad17.block (ad17.off + 2) none)))) w15 (Value.int IntKind.i64 x18) ∧
 (decide (x18 < 1) = true → R (Ending.returned (Value.bool false)) w15) ∧
 (decide (x18 < 1) = false →
 ∃ (ad19 : Addr),
 Gives Proofs.Try.prog (Instr.indexAt 33 (Value.slice va vn vc) (Value.int IntKind.i64 x3)) (Value.pointer (some ad19)) ∧
 ∃ (x20 : Int),
 Reads Proofs.Try.prog [] (Instr.loadAt 2 (Value.pointer (some (Addr.mk ad19.block (ad19.off + 2) none)))) w15 (Value.int IntKind.i64 x20) ∧
 (decide (x20 > 9007199254740992) = true → R (Ending.returned (Value.bool false)) w15) ∧
 (decide (x20 > 9007199254740992) = false →
 (decide (x3 > 0) = true →
 ∃ (ad21 : Addr),
 Gives Proofs.Try.prog (Instr.indexAt 33 (Value.slice va vn vc) (Value.int IntKind.i64 (IntKind.i64.wrap (x3 - 1)))) (Value.pointer (some ad21)) ∧
 ∃ (x22 : Int),
 ∃ (x23 : Int),
 ∃ (x24 : Int),
 Reads Proofs.Try.prog [] (Instr.loadAt 66 (Value.pointer (some ad21))) w15
 (Value.agg #[Value.int IntKind.i64 x22, Value.int IntKind.i64 x23, Value.int IntKind.i64 x24]) ∧
 ∃ (ad25 : Addr),
 Gives Proofs.Try.prog (Instr.indexAt 33 (Value.slice va vn vc) (Value.int IntKind.i64 x3)) (Value.pointer (some ad25)) ∧
 ∃ (x26 : Int),
 ∃ (x27 : Int),
 ∃ (x28 : Int),
 Reads Proofs.Try.prog [] (Instr.loadAt 66 (Value.pointer (some ad25))) w15
 (Value.agg #[Value.int IntKind.i64 x26, Value.int IntKind.i64 x27, Value.int IntKind.i64 x28]) ∧
 Calls Proofs.Try.prog 45 #[Value.agg #[Value.int IntKind.i64 x22, Value.int IntKind.i64 x23, Value.int IntKind.i64 x24]] w15
 fun (e29 : Ending) (w30 : World) =>
 ∃ (x31 : Int),
 ∃ (x32 : Int),
 e29 = Ending.returned (Value.agg #[Value.int IntKind.i64 x31, Value.int IntKind.i64 x32]) ∧
 Reads Proofs.Try.prog [] (Instr.loadAt 66 (Value.pointer (some ad25))) w30
 (Value.agg #[Value.int IntKind.i64 x26, Value.int IntKind.i64 x27, Value.int IntKind.i64 x28]) ∧
 Reads Proofs.Try.prog [] (Instr.loadAt 2 (Value.pointer (some (Addr.mk ad19.block (ad19.off + 2) none)))) w30
 (Value.int IntKind.i64 x20) ∧
 Reads Proofs.Try.prog [] (Instr.loadAt 2 (Value.pointer (some (Addr.mk ad17.block (ad17.off + 2) none)))) w30
 (Value.int IntKind.i64 x18) ∧
 Calls Proofs.Try.prog 45 #[Value.agg #[Value.int IntKind.i64 x26, Value.int IntKind.i64 x27, Value.int IntKind.i64 x28]] w30
 fun (e33 : Ending) (w34 : World) =>
 ∃ (x35 : Int),
 ∃ (x36 : Int),
 e33 = Ending.returned (Value.agg #[Value.int IntKind.i64 x35, Value.int IntKind.i64 x36]) ∧
 Reads Proofs.Try.prog [] (Instr.loadAt 2 (Value.pointer (some (Addr.mk ad19.block (ad19.off + 2) none)))) w34
 (Value.int IntKind.i64 x20) ∧
 Reads Proofs.Try.prog [] (Instr.loadAt 2 (Value.pointer (some (Addr.mk ad17.block (ad17.off + 2) none)))) w34
 (Value.int IntKind.i64 x18) ∧
 Calls Proofs.Try.prog 46
 #[Value.agg #[Value.int IntKind.i64 x31, Value.int IntKind.i64 x32],
 Value.agg #[Value.int IntKind.i64 x35, Value.int IntKind.i64 x36]]
 w34 fun (e37 : Ending) (w38 : World) =>
 ∃ (x39 : Int),
 e37 = Ending.returned (Value.int IntKind.i64 x39) ∧
 Reads Proofs.Try.prog [] (Instr.loadAt 2 (Value.pointer (some (Addr.mk ad19.block (ad19.off + 2) none))))
 w38 (Value.int IntKind.i64 x20) ∧
 Reads Proofs.Try.prog [] (Instr.loadAt 2 (Value.pointer (some (Addr.mk ad17.block (ad17.off + 2) none))))
 w38 (Value.int IntKind.i64 x18) ∧
 (decide (x39 ≥ 0) = true → R (Ending.returned (Value.bool false)) w38) ∧
 (decide (x39 ≥ 0) = false →
 J1 (IntKind.i64.wrap (x3 + 1), ()) w38 ∧ J2 (IntKind.i64.wrap (x3 + 1), ()) w38 < J2 (x3, ()) w4)) ∧
 (decide (x3 > 0) = false → J1 (IntKind.i64.wrap (x3 + 1), ()) w15 ∧ J2 (IntKind.i64.wrap (x3 + 1), ()) w15 < J2 (x3, ()) w4))))) ∧
 (decide (x3 < (↑vn : Int)) = false → R (Ending.returned (Value.bool true)) w4)
theorem f14_eq (va : Option Addr) (vn : Nat) (vc : Nat) (w : World) (R : Ending → World → Prop) : (fnF Go.Proofs.Try.prog h14 Go.Proofs.Try.f14 [Value.slice va vn vc] w R).den = f14_vc va vn vc w R := by kernel_rfl
theorem f14_calls (va : Option Addr) (vn : Nat) (vc : Nat) (w : World) (R : Ending → World → Prop) (h : f14_vc va vn vc w R) : Calls Go.Proofs.Try.prog 14 (List.toArray [Value.slice va vn vc]) w R :=
 fn_sound (H := h14) (fn := Go.Proofs.Try.f14) (by kernel_rfl) (by kernel_rfl) (by kernel_rfl) ((f14_eq va vn vc w R).mpr h)


/-! manciple/mancipleref05.Only -/
def h39 : Hints := ⟨[], [20, 28, 37], [11, 15, 33, 25], [], [], [(5, ⟨[(7, .sl), (8, .int .i64)], []⟩)], [], [], []⟩
def f39_vc (va : Option Addr) (vn : Nat) (vc : Nat) (r : Int) (q : Int) (w : World) (R : Ending → World → Prop) : Prop :=
 Calls Proofs.Try.prog 14 #[Value.slice va vn vc] w fun (e1 : Ending) (w2 : World) =>
 ∃ (b3 : Bool),
 e1 = Ending.returned (Value.bool b3) ∧
 ((!b3) = true → R (Ending.returned (Value.slice none 0 0)) w2) ∧
 ((!b3) = false →
 ∃ (J4 : (Option Addr × Nat × Nat) × Int × Unit → World → Prop),
 ∃ (J5 : (Option Addr × Nat × Nat) × Int × Unit → World → Nat),
 J4 ((none, 0, 0), 0, ()) w2 ∧
 ∀ (a6 : Option Addr) (n7 n8 : Nat) (x9 : Int) (w10 : World),
 J4 ((a6, n7, n8), x9, ()) w10 →
 (decide (x9 < (↑vn : Int)) = true →
 ∃ (ad11 : Addr),
 Gives Proofs.Try.prog (Instr.indexAt 33 (Value.slice va vn vc) (Value.int IntKind.i64 x9)) (Value.pointer (some ad11)) ∧
 ∃ (x12 : Int),
 Reads Proofs.Try.prog [] (Instr.loadAt 3 (Value.pointer (some (Addr.mk ad11.block (ad11.off + 1) none)))) w10 (Value.int IntKind.i64 x12) ∧
 ((x12 == r) = true →
 ∃ (ad13 : Addr),
 Gives Proofs.Try.prog (Instr.indexAt 33 (Value.slice va vn vc) (Value.int IntKind.i64 x9)) (Value.pointer (some ad13)) ∧
 ∃ (x14 : Int),
 ∃ (x15 : Int),
 ∃ (x16 : Int),
 Reads Proofs.Try.prog [] (Instr.loadAt 66 (Value.pointer (some ad13))) w10 (Value.agg #[Value.int IntKind.i64 x14, Value.int IntKind.i64 x15, Value.int IntKind.i64 x16]) ∧
 OpW Proofs.Try.prog (valueS (Instr.buildSlice 33 1 #[(0, Value.agg #[Value.int IntKind.i64 x14, Value.int IntKind.i64 x15, Value.int IntKind.i64 x16])])) w10 fun (v17 : Value) (w18 : World) =>
 ∃ (a19 : Option Addr),
 ∃ (n20 : Nat),
 ∃ (n21 : Nat),
 v17 = Value.slice a19 n20 n21 ∧
 OpW Proofs.Try.prog (builtin Builtin.append #[33, 33] 33 #[false, false] #[Value.slice a6 n7 n8, Value.slice a19 n20 n21]) w18 fun (v22 : Value) (w23 : World) =>
 ∃ (a24 : Option Addr),
 ∃ (n25 : Nat),
 ∃ (n26 : Nat),
 v22 = Value.slice a24 n25 n26 ∧
 J4 ((a24, n25, n26), IntKind.i64.wrap (x9 + 1), ()) w23 ∧ J5 ((a24, n25, n26), IntKind.i64.wrap (x9 + 1), ()) w23 < J5 ((a6, n7, n8), x9, ()) w10) ∧
 ((x12 == r) = false →
 ∃ (ad27 : Addr),
 Gives Proofs.Try.prog (Instr.indexAt 33 (Value.slice va vn vc) (Value.int IntKind.i64 x9)) (Value.pointer (some ad27)) ∧
 ∃ (x28 : Int),
 Reads Proofs.Try.prog [] (Instr.loadAt 3 (Value.pointer (some (Addr.mk ad27.block (ad27.off + 1) none)))) w10 (Value.int IntKind.i64 x28) ∧
 ((x28 == q) = true →
 ∃ (ad29 : Addr),
 Gives Proofs.Try.prog (Instr.indexAt 33 (Value.slice va vn vc) (Value.int IntKind.i64 x9)) (Value.pointer (some ad29)) ∧
 ∃ (x30 : Int),
 ∃ (x31 : Int),
 ∃ (x32 : Int),
 Reads Proofs.Try.prog [] (Instr.loadAt 66 (Value.pointer (some ad29))) w10 (Value.agg #[Value.int IntKind.i64 x30, Value.int IntKind.i64 x31, Value.int IntKind.i64 x32]) ∧
 OpW Proofs.Try.prog (valueS (Instr.buildSlice 33 1 #[(0, Value.agg #[Value.int IntKind.i64 x30, Value.int IntKind.i64 x31, Value.int IntKind.i64 x32])])) w10
 fun (v33 : Value) (w34 : World) =>
 ∃ (a35 : Option Addr),
 ∃ (n36 : Nat),
 ∃ (n37 : Nat),
 v33 = Value.slice a35 n36 n37 ∧
 OpW Proofs.Try.prog (builtin Builtin.append #[33, 33] 33 #[false, false] #[Value.slice a6 n7 n8, Value.slice a35 n36 n37]) w34 fun (v38 : Value) (w39 : World) =>
 ∃ (a40 : Option Addr),
 ∃ (n41 : Nat),
 ∃ (n42 : Nat),
 v38 = Value.slice a40 n41 n42 ∧
 J4 ((a40, n41, n42), IntKind.i64.wrap (x9 + 1), ()) w39 ∧ J5 ((a40, n41, n42), IntKind.i64.wrap (x9 + 1), ()) w39 < J5 ((a6, n7, n8), x9, ()) w10) ∧
 ((x28 == q) = false → J4 ((a6, n7, n8), IntKind.i64.wrap (x9 + 1), ()) w10 ∧ J5 ((a6, n7, n8), IntKind.i64.wrap (x9 + 1), ()) w10 < J5 ((a6, n7, n8), x9, ()) w10))) ∧
 (decide (x9 < (↑vn : Int)) = false → R (Ending.returned (Value.slice a6 n7 n8)) w10))
theorem f39_eq (va : Option Addr) (vn : Nat) (vc : Nat) (r : Int) (q : Int) (w : World) (R : Ending → World → Prop) : (fnF Go.Proofs.Try.prog h39 Go.Proofs.Try.f39 [Value.slice va vn vc, Value.int IntKind.i64 r, Value.int IntKind.i64 q] w R).den = f39_vc va vn vc r q w R := by kernel_rfl
theorem f39_calls (va : Option Addr) (vn : Nat) (vc : Nat) (r : Int) (q : Int) (w : World) (R : Ending → World → Prop) (h : f39_vc va vn vc r q w R) : Calls Go.Proofs.Try.prog 39 (List.toArray [Value.slice va vn vc, Value.int IntKind.i64 r, Value.int IntKind.i64 q]) w R :=
 fn_sound (H := h39) (fn := Go.Proofs.Try.f39) (by kernel_rfl) (by kernel_rfl) (by kernel_rfl) ((f39_eq va vn vc r q w R).mpr h)


/-! manciple/mancipleref05.Holds -/
def h43 : Hints := ⟨[], [15, 21], [9, 24, 27], [(4, [0, 1, 2, 3, 4, 7, 8, 9, 10, 11, 5, 6, 12])], [], [(2, ⟨[(5, .int .i64)], []⟩)], [], [], []⟩
def f43_vc (aa : Option Addr) (an : Nat) (ac : Nat) (ba : Option Addr) (bn : Nat) (bc : Nat) (w : World) (R : Ending → World → Prop) : Prop :=
 ∃ (J1 : Int × Unit → World → Prop),
 ∃ (J2 : Int × Unit → World → Nat),
 J1 (0, ()) w ∧
 ∀ (x3 : Int) (w4 : World),
 J1 (x3, ()) w4 →
 (decide (x3 < (↑bn : Int)) = true →
 ∃ (ad5 : Addr),
 Gives Proofs.Try.prog (Instr.indexAt 33 (Value.slice ba bn bc) (Value.int IntKind.i64 x3)) (Value.pointer (some ad5)) ∧
 ∃ (x6 : Int),
 ∃ (x7 : Int),
 ∃ (x8 : Int),
 Reads Proofs.Try.prog [] (Instr.loadAt 66 (Value.pointer (some ad5))) w4 (Value.agg #[Value.int IntKind.i64 x6, Value.int IntKind.i64 x7, Value.int IntKind.i64 x8]) ∧
 ∃ (ad9 : Addr),
 Gives Proofs.Try.prog (Instr.indexAt 33 (Value.slice ba bn bc) (Value.int IntKind.i64 x3)) (Value.pointer (some ad9)) ∧
 ∃ (x10 : Int),
 Reads Proofs.Try.prog [] (Instr.loadAt 2 (Value.pointer (some (Addr.mk ad9.block (ad9.off + 2) none)))) w4 (Value.int IntKind.i64 x10) ∧
 ∀ (w11 : World),
 Bel w4 w11 →
 Calls Proofs.Try.prog 45 #[Value.agg #[Value.int IntKind.i64 x6, Value.int IntKind.i64 x7, Value.int IntKind.i64 x8]] w11 fun (e12 : Ending) (w13 : World) =>
 ∃ (x14 : Int),
 ∃ (x15 : Int),
 e12 = Ending.returned (Value.agg #[Value.int IntKind.i64 x14, Value.int IntKind.i64 x15]) ∧
 Reads Proofs.Try.prog [] (Instr.loadAt 2 (Value.pointer (some (Addr.mk ad9.block (ad9.off + 2) none)))) w13 (Value.int IntKind.i64 x10) ∧
 Calls Proofs.Try.prog 73 #[Value.slice aa an ac, Value.agg #[Value.int IntKind.i64 x14, Value.int IntKind.i64 x15]] w13 fun (e16 : Ending) (w17 : World) =>
 ∃ (x18 : Int),
 e16 = Ending.returned (Value.int IntKind.i64 x18) ∧
 Reads Proofs.Try.prog [] (Instr.loadAt 2 (Value.pointer (some (Addr.mk ad9.block (ad9.off + 2) none)))) w17 (Value.int IntKind.i64 x10) ∧
 (decide (x18 < x10) = true → R (Ending.returned (Value.bool false)) w17) ∧
 (decide (x18 < x10) = false → J1 (IntKind.i64.wrap (x3 + 1), ()) w17 ∧ J2 (IntKind.i64.wrap (x3 + 1), ()) w17 < J2 (x3, ()) w4)) ∧
 (decide (x3 < (↑bn : Int)) = false →
 Calls Proofs.Try.prog 14 #[Value.slice aa an ac] w4 fun (e19 : Ending) (w20 : World) =>
 ∃ (b21 : Bool),
 e19 = Ending.returned (Value.bool b21) ∧
 (b21 = true → Calls Proofs.Try.prog 14 #[Value.slice ba bn bc] w20 fun (e22 : Ending) (w23 : World) => ∃ (b24 : Bool), e22 = Ending.returned (Value.bool b24) ∧ R (Ending.returned (Value.bool b24)) w23) ∧
 (b21 = false → R (Ending.returned (Value.bool false)) w20))
theorem f43_eq (aa : Option Addr) (an : Nat) (ac : Nat) (ba : Option Addr) (bn : Nat) (bc : Nat) (w : World) (R : Ending → World → Prop) : (fnF Go.Proofs.Try.prog h43 Go.Proofs.Try.f43 [Value.slice aa an ac, Value.slice ba bn bc] w R).den = f43_vc aa an ac ba bn bc w R := by kernel_rfl
theorem f43_calls (aa : Option Addr) (an : Nat) (ac : Nat) (ba : Option Addr) (bn : Nat) (bc : Nat) (w : World) (R : Ending → World → Prop) (h : f43_vc aa an ac ba bn bc w R) : Calls Go.Proofs.Try.prog 43 (List.toArray [Value.slice aa an ac, Value.slice ba bn bc]) w R :=
 fn_sound (H := h43) (fn := Go.Proofs.Try.f43) (by kernel_rfl) (by kernel_rfl) (by kernel_rfl) ((f43_eq aa an ac ba bn bc w R).mpr h)


/-! manciple/mancipleref04.Right -/
def h44 : Hints := ⟨[1], [], [6, 11, 16], [], [], [], [], [], []⟩
def f44_vc (s_0 : Int) (s_1 : Int) (w : World) (R : Ending → World → Prop) : Prop :=
 ∀ (n1 : Nat),
 w.heap.size ≤ n1 →
 (decide (s_0 ≥ 0) = true →
 (decide (s_0 ≤ 3) = true →
 (decide (s_1 ≥ 0) = true → ∀ (w2 : World), Bel w w2 → Under [n1] w2 → R (Ending.returned (Value.bool (decide (s_1 ≤ 32)))) w2) ∧
 (decide (s_1 ≥ 0) = false → ∀ (w3 : World), Bel w w3 → Under [n1] w3 → R (Ending.returned (Value.bool false)) w3)) ∧
 (decide (s_0 ≤ 3) = false → ∀ (w4 : World), Bel w w4 → Under [n1] w4 → R (Ending.returned (Value.bool false)) w4)) ∧
 (decide (s_0 ≥ 0) = false → ∀ (w5 : World), Bel w w5 → Under [n1] w5 → R (Ending.returned (Value.bool false)) w5)
theorem f44_eq (s_0 : Int) (s_1 : Int) (w : World) (R : Ending → World → Prop) : (fnF Go.Proofs.Try.prog h44 Go.Proofs.Try.f44 [Value.agg #[Value.int IntKind.i64 s_0, Value.int IntKind.i64 s_1]] w R).den = f44_vc s_0 s_1 w R := by kernel_rfl
theorem f44_calls (s_0 : Int) (s_1 : Int) (w : World) (R : Ending → World → Prop) (h : f44_vc s_0 s_1 w R) : Calls Go.Proofs.Try.prog 44 (List.toArray [Value.agg #[Value.int IntKind.i64 s_0, Value.int IntKind.i64 s_1]]) w R :=
 fn_sound (H := h44) (fn := Go.Proofs.Try.f44) (by kernel_rfl) (by kernel_rfl) (by kernel_rfl) ((f44_eq s_0 s_1 w R).mpr h)


/-! manciple/mancipleref05.slot -/
def h45 : Hints := ⟨[1, 2], [], [], [], [], [], [], [], []⟩
def f45_vc (p_0 : Int) (p_1 : Int) (p_2 : Int) (w : World) (R : Ending → World → Prop) : Prop :=
 ∀ (n1 : Nat), w.heap.size ≤ n1 → ∀ (n2 : Nat), w.heap.size ≤ n2 → ∀ (w3 : World), Evo [n2] w w3 → Under [n1, n2] w3 → R (Ending.returned (Value.agg #[Value.int IntKind.i64 p_0, Value.int IntKind.i64 p_1])) w3
theorem f45_eq (p_0 : Int) (p_1 : Int) (p_2 : Int) (w : World) (R : Ending → World → Prop) : (fnF Go.Proofs.Try.prog h45 Go.Proofs.Try.f45 [Value.agg #[Value.int IntKind.i64 p_0, Value.int IntKind.i64 p_1, Value.int IntKind.i64 p_2]] w R).den = f45_vc p_0 p_1 p_2 w R := by kernel_rfl
theorem f45_calls (p_0 : Int) (p_1 : Int) (p_2 : Int) (w : World) (R : Ending → World → Prop) (h : f45_vc p_0 p_1 p_2 w R) : Calls Go.Proofs.Try.prog 45 (List.toArray [Value.agg #[Value.int IntKind.i64 p_0, Value.int IntKind.i64 p_1, Value.int IntKind.i64 p_2]]) w R :=
 fn_sound (H := h45) (fn := Go.Proofs.Try.f45) (by kernel_rfl) (by kernel_rfl) (by kernel_rfl) ((f45_eq p_0 p_1 p_2 w R).mpr h)


/-! manciple/mancipleref04.Cmp -/
def h46 : Hints := ⟨[2, 3], [], [23, 35, 10, 16, 29], [], [], [], [], [], []⟩
def f46_vc (a_0 : Int) (a_1 : Int) (b_0 : Int) (b_1 : Int) (w : World) (R : Ending → World → Prop) : Prop :=
 ∀ (n1 : Nat),
 w.heap.size ≤ n1 →
 ∀ (n2 : Nat),
 w.heap.size ≤ n2 →
 (decide (a_0 < b_0) = true → ∀ (w3 : World), Bel w w3 → Under [n1, n2] w3 → R (Ending.returned (Value.int IntKind.i64 (-1))) w3) ∧
 (decide (a_0 < b_0) = false →
 ((a_0 == b_0) = true →
 (decide (a_1 < b_1) = true → ∀ (w4 : World), Bel w w4 → Under [n1, n2] w4 → R (Ending.returned (Value.int IntKind.i64 (-1))) w4) ∧
 (decide (a_1 < b_1) = false →
 ((a_0 == b_0) = true →
 ((a_1 == b_1) = true → ∀ (w5 : World), Bel w w5 → Under [n1, n2] w5 → R (Ending.returned (Value.int IntKind.i64 0)) w5) ∧
 ((a_1 == b_1) = false → ∀ (w6 : World), Bel w w6 → Under [n1, n2] w6 → R (Ending.returned (Value.int IntKind.i64 1)) w6)) ∧
 ((a_0 == b_0) = false → ∀ (w7 : World), Bel w w7 → Under [n1, n2] w7 → R (Ending.returned (Value.int IntKind.i64 1)) w7))) ∧
 ((a_0 == b_0) = false →
 ((a_0 == b_0) = true →
 ((a_1 == b_1) = true → ∀ (w8 : World), Bel w w8 → Under [n1, n2] w8 → R (Ending.returned (Value.int IntKind.i64 0)) w8) ∧
 ((a_1 == b_1) = false → ∀ (w9 : World), Bel w w9 → Under [n1, n2] w9 → R (Ending.returned (Value.int IntKind.i64 1)) w9)) ∧
 ((a_0 == b_0) = false → ∀ (w10 : World), Bel w w10 → Under [n1, n2] w10 → R (Ending.returned (Value.int IntKind.i64 1)) w10)))
theorem f46_eq (a_0 : Int) (a_1 : Int) (b_0 : Int) (b_1 : Int) (w : World) (R : Ending → World → Prop) : (fnF Go.Proofs.Try.prog h46 Go.Proofs.Try.f46 [Value.agg #[Value.int IntKind.i64 a_0, Value.int IntKind.i64 a_1], Value.agg #[Value.int IntKind.i64 b_0, Value.int IntKind.i64 b_1]] w R).den = f46_vc a_0 a_1 b_0 b_1 w R := by kernel_rfl
theorem f46_calls (a_0 : Int) (a_1 : Int) (b_0 : Int) (b_1 : Int) (w : World) (R : Ending → World → Prop) (h : f46_vc a_0 a_1 b_0 b_1 w R) : Calls Go.Proofs.Try.prog 46 (List.toArray [Value.agg #[Value.int IntKind.i64 a_0, Value.int IntKind.i64 a_1], Value.agg #[Value.int IntKind.i64 b_0, Value.int IntKind.i64 b_1]]) w R :=
 fn_sound (H := h46) (fn := Go.Proofs.Try.f46) (by kernel_rfl) (by kernel_rfl) (by kernel_rfl) ((f46_eq a_0 a_1 b_0 b_1 w R).mpr h)


/-! manciple/mancipleref05.Add -/
def h70 : Hints := ⟨[], [], [13, 9], [], [], [], [], [], []⟩
def f70_vc (aa : Option Addr) (an : Nat) (ac : Nat) (ba : Option Addr) (bn : Nat) (bc : Nat) (w : World) (R : Ending → World → Prop) : Prop :=
 Calls Proofs.Try.prog 14 #[Value.slice aa an ac] w fun (e1 : Ending) (w2 : World) =>
 ∃ (b3 : Bool),
 e1 = Ending.returned (Value.bool b3) ∧
 ((!b3) = true → R (Ending.returned (Value.tuple #[Value.slice none 0 0, Value.bool false])) w2) ∧
 ((!b3) = false →
 Calls Proofs.Try.prog 14 #[Value.slice ba bn bc] w2 fun (e4 : Ending) (w5 : World) =>
 ∃ (b6 : Bool),
 e4 = Ending.returned (Value.bool b6) ∧
 ((!b6) = true → R (Ending.returned (Value.tuple #[Value.slice none 0 0, Value.bool false])) w5) ∧
 ((!b6) = false →
 OpW Proofs.Try.prog (valueS (Instr.buildSlice 33 0 #[])) w5 fun (v7 : Value) (w8 : World) =>
 ∃ (a9 : Option Addr),
 ∃ (n10 : Nat),
 ∃ (n11 : Nat),
 v7 = Value.slice a9 n10 n11 ∧
 OpW Proofs.Try.prog (builtin Builtin.append #[33, 33] 33 #[false, false] #[Value.slice a9 n10 n11, Value.slice aa an ac]) w8 fun (v12 : Value) (w13 : World) =>
 ∃ (a14 : Option Addr),
 ∃ (n15 : Nat),
 ∃ (n16 : Nat),
 v12 = Value.slice a14 n15 n16 ∧
 OpW Proofs.Try.prog (builtin Builtin.append #[33, 33] 33 #[false, false] #[Value.slice a14 n15 n16, Value.slice ba bn bc]) w13 fun (v17 : Value) (w18 : World) =>
 ∃ (a19 : Option Addr),
 ∃ (n20 : Nat),
 ∃ (n21 : Nat),
 v17 = Value.slice a19 n20 n21 ∧
 Calls Proofs.Try.prog 93 #[Value.slice a19 n20 n21] w18 fun (e22 : Ending) (w23 : World) =>
 ∃ (a24 : Option Addr),
 ∃ (n25 : Nat),
 ∃ (n26 : Nat),
 ∃ (b27 : Bool), e22 = Ending.returned (Value.tuple #[Value.slice a24 n25 n26, Value.bool b27]) ∧ R (Ending.returned (Value.tuple #[Value.slice a24 n25 n26, Value.bool b27])) w23))
theorem f70_eq (aa : Option Addr) (an : Nat) (ac : Nat) (ba : Option Addr) (bn : Nat) (bc : Nat) (w : World) (R : Ending → World → Prop) : (fnF Go.Proofs.Try.prog h70 Go.Proofs.Try.f70 [Value.slice aa an ac, Value.slice ba bn bc] w R).den = f70_vc aa an ac ba bn bc w R := by kernel_rfl
theorem f70_calls (aa : Option Addr) (an : Nat) (ac : Nat) (ba : Option Addr) (bn : Nat) (bc : Nat) (w : World) (R : Ending → World → Prop) (h : f70_vc aa an ac ba bn bc w R) : Calls Go.Proofs.Try.prog 70 (List.toArray [Value.slice aa an ac, Value.slice ba bn bc]) w R :=
 fn_sound (H := h70) (fn := Go.Proofs.Try.f70) (by kernel_rfl) (by kernel_rfl) (by kernel_rfl) ((f70_eq aa an ac ba bn bc w R).mpr h)


/-! manciple/mancipleref05.Get -/
def h73 : Hints := ⟨[3], [14, 21], [9, 18], [(4, [0, 1, 2, 3, 5, 4, 6])], [], [(2, ⟨[(5, .int .i64)], []⟩)], [], [], []⟩
def f73_vc (va : Option Addr) (vn : Nat) (vc : Nat) (s_0 : Int) (s_1 : Int) (w : World) (R : Ending → World → Prop) : Prop :=
 ∀ (n1 : Nat),
 w.heap.size ≤ n1 →
 ∃ (J2 : Int × Unit → World → Prop),
 ∃ (J3 : Int × Unit → World → Nat),
 (∀ (w4 : World), Bel w w4 → Under [n1] w4 → J2 (0, ()) w4) ∧
 ∀ (x5 : Int) (w6 : World),
 J2 (x5, ()) w6 →
 (decide (x5 < (↑vn : Int)) = true →
 ∃ (ad7 : Addr),
 Gives Proofs.Try.prog (Instr.indexAt 33 (Value.slice va vn vc) (Value.int IntKind.i64 x5)) (Value.pointer (some ad7)) ∧
 ∃ (x8 : Int),
 ∃ (x9 : Int),
 ∃ (x10 : Int),
 Reads Proofs.Try.prog [] (Instr.loadAt 66 (Value.pointer (some ad7))) w6 (Value.agg #[Value.int IntKind.i64 x8, Value.int IntKind.i64 x9, Value.int IntKind.i64 x10]) ∧
 ∀ (w11 : World),
 Bel w6 w11 →
 Under [n1] w11 →
 Calls Proofs.Try.prog 45 #[Value.agg #[Value.int IntKind.i64 x8, Value.int IntKind.i64 x9, Value.int IntKind.i64 x10]] w11 fun (e12 : Ending) (w13 : World) =>
 ∃ (x14 : Int),
 ∃ (x15 : Int),
 e12 = Ending.returned (Value.agg #[Value.int IntKind.i64 x14, Value.int IntKind.i64 x15]) ∧
 Keeps [n1] w11 w13 ∧
 ((x14 == s_0 && (x15 == s_1 && true)) = true →
 ∃ (ad16 : Addr),
 Gives Proofs.Try.prog (Instr.indexAt 33 (Value.slice va vn vc) (Value.int IntKind.i64 x5)) (Value.pointer (some ad16)) ∧
 ∃ (x17 : Int),
 Reads Proofs.Try.prog [] (Instr.loadAt 2 (Value.pointer (some (Addr.mk ad16.block (ad16.off + 2) none)))) w13 (Value.int IntKind.i64 x17) ∧
 R (Ending.returned (Value.int IntKind.i64 x17)) w13) ∧
 ((x14 == s_0 && (x15 == s_1 && true)) = false → J2 (IntKind.i64.wrap (x5 + 1), ()) w13 ∧ J3 (IntKind.i64.wrap (x5 + 1), ()) w13 < J3 (x5, ()) w6)) ∧
 (decide (x5 < (↑vn : Int)) = false → R (Ending.returned (Value.int IntKind.i64 0)) w6)
theorem f73_eq (va : Option Addr) (vn : Nat) (vc : Nat) (s_0 : Int) (s_1 : Int) (w : World) (R : Ending → World → Prop) : (fnF Go.Proofs.Try.prog h73 Go.Proofs.Try.f73 [Value.slice va vn vc, Value.agg #[Value.int IntKind.i64 s_0, Value.int IntKind.i64 s_1]] w R).den = f73_vc va vn vc s_0 s_1 w R := by kernel_rfl
theorem f73_calls (va : Option Addr) (vn : Nat) (vc : Nat) (s_0 : Int) (s_1 : Int) (w : World) (R : Ending → World → Prop) (h : f73_vc va vn vc s_0 s_1 w R) : Calls Go.Proofs.Try.prog 73 (List.toArray [Value.slice va vn vc, Value.agg #[Value.int IntKind.i64 s_0, Value.int IntKind.i64 s_1]]) w R :=
 fn_sound (H := h73) (fn := Go.Proofs.Try.f73) (by kernel_rfl) (by kernel_rfl) (by kernel_rfl) ((f73_eq va vn vc s_0 s_1 w R).mpr h)


/-! manciple/mancipleref05.Of -/
def h93 : Hints := ⟨[], [20, 40, 45, 51, 66], [15, 24, 29, 35, 47, 62], [(15, [0, 1, 2, 3, 5, 6, 7, 8, 4, 9])], [], [(2, ⟨[(4, .int .i64)], []⟩), (9, ⟨[(6, .sl), (7, .int .i64)], []⟩), (13, ⟨[(8, .sl), (9, .int .i64)], []⟩)], [], [], []⟩
def f93_vc (la : Option Addr) (ln : Nat) (lc : Nat) (w : World) (R : Ending → World → Prop) : Prop :=
 ∃ (J1 : Int × Unit → World → Prop),
 ∃ (J2 : Int × Unit → World → Nat),
 J1 (0, ()) w ∧
 ∀ (x3 : Int) (w4 : World),
 J1 (x3, ()) w4 →
 (decide (x3 < (↑ln : Int)) = true →
 ∃ (ad5 : Addr),
 Gives Proofs.Try.prog (Instr.indexAt 33 (Value.slice la ln lc) (Value.int IntKind.i64 x3)) (Value.pointer (some ad5)) ∧
 ∃ (x6 : Int),
 ∃ (x7 : Int),
 ∃ (x8 : Int),
 Reads Proofs.Try.prog [] (Instr.loadAt 66 (Value.pointer (some ad5))) w4 (Value.agg #[Value.int IntKind.i64 x6, Value.int IntKind.i64 x7, Value.int IntKind.i64 x8]) ∧
 Calls Proofs.Try.prog 45 #[Value.agg #[Value.int IntKind.i64 x6, Value.int IntKind.i64 x7, Value.int IntKind.i64 x8]] w4 fun (e9 : Ending) (w10 : World) =>
 ∃ (x11 : Int),
 ∃ (x12 : Int),
 e9 = Ending.returned (Value.agg #[Value.int IntKind.i64 x11, Value.int IntKind.i64 x12]) ∧
 Calls Proofs.Try.prog 44 #[Value.agg #[Value.int IntKind.i64 x11, Value.int IntKind.i64 x12]] w10 fun (e13 : Ending) (w14 : World) =>
 ∃ (b15 : Bool),
 e13 = Ending.returned (Value.bool b15) ∧
 ((!b15) = true → R (Ending.returned (Value.tuple #[Value.slice none 0 0, Value.bool false])) w14) ∧
 ((!b15) = false → J1 (IntKind.i64.wrap (x3 + 1), ()) w14 ∧ J2 (IntKind.i64.wrap (x3 + 1), ()) w14 < J2 (x3, ()) w4)) ∧
 (decide (x3 < (↑ln : Int)) = false →
 Calls Proofs.Try.prog 101 #[] w4 fun (e16 : Ending) (w17 : World) =>
 ∃ (a18 : Option Addr),
 ∃ (n19 : Nat),
 ∃ (n20 : Nat),
 e16 = Ending.returned (Value.slice a18 n19 n20) ∧
 ∃ (J21 : (Option Addr × Nat × Nat) × Int × Unit → World → Prop),
 ∃ (J22 : (Option Addr × Nat × Nat) × Int × Unit → World → Nat),
 J21 ((none, 0, 0), 0, ()) w17 ∧
 ∀ (a23 : Option Addr) (n24 n25 : Nat) (x26 : Int) (w27 : World),
 J21 ((a23, n24, n25), x26, ()) w27 →
 (decide (x26 < (↑n19 : Int)) = true →
 ∃ (J28 : (Option Addr × Nat × Nat) × Int × Unit → World → Prop),
 ∃ (J29 : (Option Addr × Nat × Nat) × Int × Unit → World → Nat),
 J28 ((none, 0, 0), 0, ()) w27 ∧
 ∀ (a30 : Option Addr) (n31 n32 : Nat) (x33 : Int) (w34 : World),
 J28 ((a30, n31, n32), x33, ()) w34 →
 (decide (x33 < (↑ln : Int)) = true →
 ∃ (ad35 : Addr),
 Gives Proofs.Try.prog (Instr.indexAt 33 (Value.slice la ln lc) (Value.int IntKind.i64 x33)) (Value.pointer (some ad35)) ∧
 ∃ (x36 : Int),
 ∃ (x37 : Int),
 ∃ (x38 : Int),
 Reads Proofs.Try.prog [] (Instr.loadAt 66 (Value.pointer (some ad35))) w34 (Value.agg #[Value.int IntKind.i64 x36, Value.int IntKind.i64 x37, Value.int IntKind.i64 x38]) ∧
 ∃ (ad39 : Addr),
 Gives Proofs.Try.prog (Instr.indexAt 118 (Value.slice a18 n19 n20) (Value.int IntKind.i64 x26)) (Value.pointer (some ad39)) ∧
 ∃ (x40 : Int),
 ∃ (x41 : Int),
 Reads Proofs.Try.prog [] (Instr.loadAt 74 (Value.pointer (some ad39))) w34 (Value.agg #[Value.int IntKind.i64 x40, Value.int IntKind.i64 x41]) ∧
 ∀ (w42 : World),
 Bel w34 w42 →
 Calls Proofs.Try.prog 45 #[Value.agg #[Value.int IntKind.i64 x36, Value.int IntKind.i64 x37, Value.int IntKind.i64 x38]] w42 fun (e43 : Ending) (w44 : World) =>
 ∃ (x45 : Int),
 ∃ (x46 : Int),
 e43 = Ending.returned (Value.agg #[Value.int IntKind.i64 x45, Value.int IntKind.i64 x46]) ∧
 Reads Proofs.Try.prog [] (Instr.loadAt 74 (Value.pointer (some ad39))) w44 (Value.agg #[Value.int IntKind.i64 x40, Value.int IntKind.i64 x41]) ∧
 ((x45 == x40 && (x46 == x41 && true)) = true →
 ∃ (ad47 : Addr),
 Gives Proofs.Try.prog (Instr.indexAt 33 (Value.slice la ln lc) (Value.int IntKind.i64 x33)) (Value.pointer (some ad47)) ∧
 ∃ (x48 : Int),
 Reads Proofs.Try.prog [] (Instr.loadAt 2 (Value.pointer (some (Addr.mk ad47.block (ad47.off + 2) none)))) w44 (Value.int IntKind.i64 x48) ∧
 OpW Proofs.Try.prog (valueS (Instr.buildSlice 43 1 #[(0, Value.int IntKind.i64 x48)])) w44 fun (v49 : Value) (w50 : World) =>
 ∃ (a51 : Option Addr),
 ∃ (n52 : Nat),
 ∃ (n53 : Nat),
 v49 = Value.slice a51 n52 n53 ∧
 OpW Proofs.Try.prog (builtin Builtin.append #[43, 43] 43 #[false, false] #[Value.slice a30 n31 n32, Value.slice a51 n52 n53]) w50
 fun (v54 : Value) (w55 : World) =>
 ∃ (a56 : Option Addr),
 ∃ (n57 : Nat),
 ∃ (n58 : Nat),
 v54 = Value.slice a56 n57 n58 ∧
 J28 ((a56, n57, n58), IntKind.i64.wrap (x33 + 1), ()) w55 ∧
 J29 ((a56, n57, n58), IntKind.i64.wrap (x33 + 1), ()) w55 < J29 ((a30, n31, n32), x33, ()) w34) ∧
 ((x45 == x40 && (x46 == x41 && true)) = false →
 J28 ((a30, n31, n32), IntKind.i64.wrap (x33 + 1), ()) w44 ∧
 J29 ((a30, n31, n32), IntKind.i64.wrap (x33 + 1), ()) w44 < J29 ((a30, n31, n32), x33, ()) w34)) ∧
 (decide (x33 < (↑ln : Int)) = false →
 Calls Proofs.Try.prog 102 #[Value.int IntKind.i64 9007199254740992, Value.slice a30 n31 n32] w34 fun (e59 : Ending) (w60 : World) =>
 ∃ (x61 : Int),
 ∃ (b62 : Bool),
 e59 = Ending.returned (Value.tuple #[Value.int IntKind.i64 x61, Value.bool b62]) ∧
 ((!b62) = true → R (Ending.returned (Value.tuple #[Value.slice none 0 0, Value.bool false])) w60) ∧
 ((!b62) = false →
 ∃ (ad63 : Addr),
 Gives Proofs.Try.prog (Instr.indexAt 118 (Value.slice a18 n19 n20) (Value.int IntKind.i64 x26)) (Value.pointer (some ad63)) ∧
 ∃ (x64 : Int),
 ∃ (x65 : Int),
 Reads Proofs.Try.prog [] (Instr.loadAt 74 (Value.pointer (some ad63))) w60 (Value.agg #[Value.int IntKind.i64 x64, Value.int IntKind.i64 x65]) ∧
 Calls Proofs.Try.prog 103 #[Value.slice a23 n24 n25, Value.agg #[Value.int IntKind.i64 x64, Value.int IntKind.i64 x65], Value.int IntKind.i64 x61] w60
 fun (e66 : Ending) (w67 : World) =>
 ∃ (a68 : Option Addr),
 ∃ (n69 : Nat),
 ∃ (n70 : Nat),
 e66 = Ending.returned (Value.slice a68 n69 n70) ∧
 J21 ((a68, n69, n70), IntKind.i64.wrap (x26 + 1), ()) w67 ∧
 J22 ((a68, n69, n70), IntKind.i64.wrap (x26 + 1), ()) w67 < J22 ((a23, n24, n25), x26, ()) w27))) ∧
 (decide (x26 < (↑n19 : Int)) = false → R (Ending.returned (Value.tuple #[Value.slice a23 n24 n25, Value.bool true])) w27))
theorem f93_eq (la : Option Addr) (ln : Nat) (lc : Nat) (w : World) (R : Ending → World → Prop) : (fnF Go.Proofs.Try.prog h93 Go.Proofs.Try.f93 [Value.slice la ln lc] w R).den = f93_vc la ln lc w R := by kernel_rfl
theorem f93_calls (la : Option Addr) (ln : Nat) (lc : Nat) (w : World) (R : Ending → World → Prop) (h : f93_vc la ln lc w R) : Calls Go.Proofs.Try.prog 93 (List.toArray [Value.slice la ln lc]) w R :=
 fn_sound (H := h93) (fn := Go.Proofs.Try.f93) (by kernel_rfl) (by kernel_rfl) (by kernel_rfl) ((f93_eq la ln lc w R).mpr h)


/-! manciple/mancipleref04.All -/
def h101 : Hints := ⟨[], [], [5, 9], [], [], [(3, ⟨[(1, .sl), (2, .int .i64)], []⟩), (6, ⟨[(1, .sl), (3, .int .i64)], []⟩)], [], [], []⟩
def f101_vc  (w : World) (R : Ending → World → Prop) : Prop :=
 ∃ (J1 : (Option Addr × Nat × Nat) × Int × Unit → World → Prop),
 ∃ (J2 : (Option Addr × Nat × Nat) × Int × Unit → World → Nat),
 J1 ((none, 0, 0), 0, ()) w ∧
 ∀ (a3 : Option Addr) (n4 n5 : Nat) (x6 : Int) (w7 : World),
 J1 ((a3, n4, n5), x6, ()) w7 →
 (decide (x6 < 4) = true →
 ∃ (J8 : (Option Addr × Nat × Nat) × Int × Unit → World → Prop),
 ∃ (J9 : (Option Addr × Nat × Nat) × Int × Unit → World → Nat),
 J8 ((a3, n4, n5), 0, ()) w7 ∧
 ∀ (a10 : Option Addr) (n11 n12 : Nat) (x13 : Int) (w14 : World),
 J8 ((a10, n11, n12), x13, ()) w14 →
 (decide (x13 ≤ 32) = true →
 OpW Proofs.Try.prog (valueS (Instr.buildSlice 118 1 #[(0, Value.agg #[Value.int IntKind.i64 x6, Value.int IntKind.i64 x13])])) w14 fun (v15 : Value) (w16 : World) =>
 ∃ (a17 : Option Addr),
 ∃ (n18 : Nat),
 ∃ (n19 : Nat),
 v15 = Value.slice a17 n18 n19 ∧
 OpW Proofs.Try.prog (builtin Builtin.append #[118, 118] 118 #[false, false] #[Value.slice a10 n11 n12, Value.slice a17 n18 n19]) w16 fun (v20 : Value) (w21 : World) =>
 ∃ (a22 : Option Addr),
 ∃ (n23 : Nat),
 ∃ (n24 : Nat),
 v20 = Value.slice a22 n23 n24 ∧ J8 ((a22, n23, n24), IntKind.i64.wrap (x13 + 1), ()) w21 ∧ J9 ((a22, n23, n24), IntKind.i64.wrap (x13 + 1), ()) w21 < J9 ((a10, n11, n12), x13, ()) w14) ∧
 (decide (x13 ≤ 32) = false → J1 ((a10, n11, n12), IntKind.i64.wrap (x6 + 1), ()) w14 ∧ J2 ((a10, n11, n12), IntKind.i64.wrap (x6 + 1), ()) w14 < J2 ((a3, n4, n5), x6, ()) w7)) ∧
 (decide (x6 < 4) = false → R (Ending.returned (Value.slice a3 n4 n5)) w7)
theorem f101_eq  (w : World) (R : Ending → World → Prop) : (fnF Go.Proofs.Try.prog h101 Go.Proofs.Try.f101 [] w R).den = f101_vc  w R := by kernel_rfl
theorem f101_calls  (w : World) (R : Ending → World → Prop) (h : f101_vc  w R) : Calls Go.Proofs.Try.prog 101 (List.toArray []) w R :=
 fn_sound (H := h101) (fn := Go.Proofs.Try.f101) (by kernel_rfl) (by kernel_rfl) (by kernel_rfl) ((f101_eq  w R).mpr h)


/-! manciple/mancipleref03.Sum -/
def h102 : Hints := ⟨[], [17, 27, 35], [12, 31, 39, 20, 24], [], [], [(3, ⟨[(6, .int .i64), (7, .int .i64)], []⟩)], [], [], []⟩
def f102_vc (most : Int) (la : Option Addr) (ln : Nat) (lc : Nat) (w : World) (R : Ending → World → Prop) : Prop :=
 ∃ (J1 : Int × Int × Unit → World → Prop),
 ∃ (J2 : Int × Int × Unit → World → Nat),
 J1 (most, 0, ()) w ∧
 ∀ (x3 x4 : Int) (w5 : World),
 J1 (x3, x4, ()) w5 →
 (decide (x4 < (↑ln : Int)) = true →
 ∃ (ad6 : Addr),
 Gives Proofs.Try.prog (Instr.indexAt 43 (Value.slice la ln lc) (Value.int IntKind.i64 x4)) (Value.pointer (some ad6)) ∧
 ∃ (x7 : Int),
 Reads Proofs.Try.prog [] (Instr.loadAt 2 (Value.pointer (some ad6))) w5 (Value.int IntKind.i64 x7) ∧
 (decide (x7 < 0) = true → R (Ending.returned (Value.tuple #[Value.int IntKind.i64 0, Value.bool false])) w5) ∧
 (decide (x7 < 0) = false →
 (decide (x3 < 0) = true → R (Ending.returned (Value.tuple #[Value.int IntKind.i64 0, Value.bool false])) w5) ∧
 (decide (x3 < 0) = false →
 ∃ (ad8 : Addr),
 Gives Proofs.Try.prog (Instr.indexAt 43 (Value.slice la ln lc) (Value.int IntKind.i64 x4)) (Value.pointer (some ad8)) ∧
 ∃ (x9 : Int),
 Reads Proofs.Try.prog [] (Instr.loadAt 2 (Value.pointer (some ad8))) w5 (Value.int IntKind.i64 x9) ∧
 (decide (x9 > x3) = true → R (Ending.returned (Value.tuple #[Value.int IntKind.i64 0, Value.bool false])) w5) ∧
 (decide (x9 > x3) = false →
 ∃ (ad10 : Addr),
 Gives Proofs.Try.prog (Instr.indexAt 43 (Value.slice la ln lc) (Value.int IntKind.i64 x4)) (Value.pointer (some ad10)) ∧
 ∃ (x11 : Int),
 Reads Proofs.Try.prog [] (Instr.loadAt 2 (Value.pointer (some ad10))) w5 (Value.int IntKind.i64 x11) ∧
 J1 (IntKind.i64.wrap (x3 - x11), IntKind.i64.wrap (x4 + 1), ()) w5 ∧ J2 (IntKind.i64.wrap (x3 - x11), IntKind.i64.wrap (x4 + 1), ()) w5 < J2 (x3, x4, ()) w5)))) ∧
 (decide (x4 < (↑ln : Int)) = false →
 (decide (most < 0) = true → R (Ending.returned (Value.tuple #[Value.int IntKind.i64 0, Value.bool false])) w5) ∧
 (decide (most < 0) = false → R (Ending.returned (Value.tuple #[Value.int IntKind.i64 (IntKind.i64.wrap (most - x3)), Value.bool true])) w5))
theorem f102_eq (most : Int) (la : Option Addr) (ln : Nat) (lc : Nat) (w : World) (R : Ending → World → Prop) : (fnF Go.Proofs.Try.prog h102 Go.Proofs.Try.f102 [Value.int IntKind.i64 most, Value.slice la ln lc] w R).den = f102_vc most la ln lc w R := by kernel_rfl
theorem f102_calls (most : Int) (la : Option Addr) (ln : Nat) (lc : Nat) (w : World) (R : Ending → World → Prop) (h : f102_vc most la ln lc w R) : Calls Go.Proofs.Try.prog 102 (List.toArray [Value.int IntKind.i64 most, Value.slice la ln lc]) w R :=
 fn_sound (H := h102) (fn := Go.Proofs.Try.f102) (by kernel_rfl) (by kernel_rfl) (by kernel_rfl) ((f102_eq most la ln lc w R).mpr h)


/-! manciple/mancipleref05.with -/
def h103 : Hints := ⟨[4], [], [8], [], [], [], [], [], []⟩
def f103_vc (va : Option Addr) (vn : Nat) (vc : Nat) (s_0 : Int) (s_1 : Int) (n : Int) (w : World) (R : Ending → World → Prop) : Prop :=
 ∀ (n1 : Nat),
 w.heap.size ≤ n1 →
 ((n == 0) = true → ∀ (w2 : World), Bel w w2 → Under [n1] w2 → R (Ending.returned (Value.slice va vn vc)) w2) ∧
 ((n == 0) = false →
 ∀ (w3 : World),
 Bel w w3 →
 Under [n1] w3 →
 OpW Proofs.Try.prog (valueS (Instr.buildSlice 33 1 #[(0, Value.agg #[Value.int IntKind.i64 s_0, Value.int IntKind.i64 s_1, Value.int IntKind.i64 n])])) w3 fun (v4 : Value) (w5 : World) =>
 ∃ (a6 : Option Addr),
 ∃ (n7 : Nat),
 ∃ (n8 : Nat),
 v4 = Value.slice a6 n7 n8 ∧
 Keeps [n1] w3 w5 ∧
 OpW Proofs.Try.prog (builtin Builtin.append #[33, 33] 33 #[false, false] #[Value.slice va vn vc, Value.slice a6 n7 n8]) w5 fun (v9 : Value) (w10 : World) =>
 ∃ (a11 : Option Addr), ∃ (n12 : Nat), ∃ (n13 : Nat), v9 = Value.slice a11 n12 n13 ∧ Keeps [n1] w5 w10 ∧ R (Ending.returned (Value.slice a11 n12 n13)) w10)
theorem f103_eq (va : Option Addr) (vn : Nat) (vc : Nat) (s_0 : Int) (s_1 : Int) (n : Int) (w : World) (R : Ending → World → Prop) : (fnF Go.Proofs.Try.prog h103 Go.Proofs.Try.f103 [Value.slice va vn vc, Value.agg #[Value.int IntKind.i64 s_0, Value.int IntKind.i64 s_1], Value.int IntKind.i64 n] w R).den = f103_vc va vn vc s_0 s_1 n w R := by kernel_rfl
theorem f103_calls (va : Option Addr) (vn : Nat) (vc : Nat) (s_0 : Int) (s_1 : Int) (n : Int) (w : World) (R : Ending → World → Prop) (h : f103_vc va vn vc s_0 s_1 n w R) : Calls Go.Proofs.Try.prog 103 (List.toArray [Value.slice va vn vc, Value.agg #[Value.int IntKind.i64 s_0, Value.int IntKind.i64 s_1], Value.int IntKind.i64 n]) w R :=
 fn_sound (H := h103) (fn := Go.Proofs.Try.f103) (by kernel_rfl) (by kernel_rfl) (by kernel_rfl) ((f103_eq va vn vc s_0 s_1 n w R).mpr h)


/-! manciple/mancipleref13.Right -/
def h29 : Hints := ⟨[], [11], [6, 15, 20, 26, 32, 38, 43], [], [], [(3, ⟨[(4, .int .i64)], []⟩)], [], [], []⟩
def f29_vc (c_0 : Int) (c_1 : Int) (c_2 : Int) (c_3 : Int) (c_4 : Int) (c_5 : Int) (c_6 : Int) (c_7 : Int) (c_8 : Int) (w : World) (R : Ending → World → Prop) : Prop :=
 OpW Proofs.Try.prog
 (valueS
 (Instr.box 24
 (Value.agg
 #[Value.int IntKind.i64 c_0, Value.int IntKind.i64 c_1, Value.int IntKind.i64 c_2, Value.int IntKind.i64 c_3, Value.int IntKind.i64 c_4, Value.int IntKind.i64 c_5, Value.int IntKind.i64 c_6, Value.int IntKind.i64 c_7,
 Value.int IntKind.i64 c_8])))
 w fun (v1 : Value) (w2 : World) =>
 ∃ (ad3 : Addr),
 v1 = Value.pointer (some ad3) ∧
 ∃ (J4 : Int × Unit → World → Prop),
 ∃ (J5 : Int × Unit → World → Nat),
 J4 (0, ()) w2 ∧
 ∀ (x6 : Int) (w7 : World),
 J4 (x6, ()) w7 →
 (decide (x6 < 4) = true →
 ∃ (ad8 : Addr),
 Gives Proofs.Try.prog (Instr.indexAt 22 (Value.pointer (some (Addr.mk ad3.block (ad3.off + 5) none))) (Value.int IntKind.i64 x6)) (Value.pointer (some ad8)) ∧
 ∃ (x9 : Int),
 Reads Proofs.Try.prog [] (Instr.loadAt 2 (Value.pointer (some ad8))) w7 (Value.int IntKind.i64 x9) ∧
 Calls Proofs.Try.prog 66 #[Value.int IntKind.i64 x9, Value.int IntKind.i64 0, Value.int IntKind.i64 9007199254740992] w7 fun (e10 : Ending) (w11 : World) =>
 ∃ (b12 : Bool),
 e10 = Ending.returned (Value.bool b12) ∧
 ((!b12) = true → R (Ending.returned (Value.bool false)) w11) ∧ ((!b12) = false → J4 (IntKind.i64.wrap (x6 + 1), ()) w11 ∧ J5 (IntKind.i64.wrap (x6 + 1), ()) w11 < J5 (x6, ()) w7)) ∧
 (decide (x6 < 4) = false →
 ∃ (x13 : Int),
 Reads Proofs.Try.prog [] (Instr.loadAt 2 (Value.pointer (some ad3))) w7 (Value.int IntKind.i64 x13) ∧
 Calls Proofs.Try.prog 66 #[Value.int IntKind.i64 x13, Value.int IntKind.i64 0, Value.int IntKind.i64 9007199254740992] w7 fun (e14 : Ending) (w15 : World) =>
 ∃ (b16 : Bool),
 e14 = Ending.returned (Value.bool b16) ∧
 (b16 = true →
 ∃ (x17 : Int),
 Reads Proofs.Try.prog [] (Instr.loadAt 2 (Value.pointer (some (Addr.mk ad3.block (ad3.off + 1) none)))) w15 (Value.int IntKind.i64 x17) ∧
 Calls Proofs.Try.prog 66 #[Value.int IntKind.i64 x17, Value.int IntKind.i64 1, Value.int IntKind.i64 9007199254740992] w15 fun (e18 : Ending) (w19 : World) =>
 ∃ (b20 : Bool),
 e18 = Ending.returned (Value.bool b20) ∧
 (b20 = true →
 ∃ (x21 : Int),
 Reads Proofs.Try.prog [] (Instr.loadAt 2 (Value.pointer (some (Addr.mk ad3.block (ad3.off + 2) none)))) w19 (Value.int IntKind.i64 x21) ∧
 Calls Proofs.Try.prog 66 #[Value.int IntKind.i64 x21, Value.int IntKind.i64 0, Value.int IntKind.i64 9007199254740992] w19 fun (e22 : Ending) (w23 : World) =>
 ∃ (b24 : Bool),
 e22 = Ending.returned (Value.bool b24) ∧
 (b24 = true →
 ∃ (x25 : Int),
 Reads Proofs.Try.prog [] (Instr.loadAt 2 (Value.pointer (some (Addr.mk ad3.block (ad3.off + 3) none)))) w23 (Value.int IntKind.i64 x25) ∧
 Calls Proofs.Try.prog 66 #[Value.int IntKind.i64 x25, Value.int IntKind.i64 0, Value.int IntKind.i64 9007199254740992] w23 fun (e26 : Ending) (w27 : World) =>
 ∃ (b28 : Bool),
 e26 = Ending.returned (Value.bool b28) ∧
 (b28 = true →
 ∃ (x29 : Int),
 Reads Proofs.Try.prog [] (Instr.loadAt 3 (Value.pointer (some (Addr.mk ad3.block (ad3.off + 4) none)))) w27 (Value.int IntKind.i64 x29) ∧
 (decide (x29 ≥ 1) = true →
 ∃ (x30 : Int),
 Reads Proofs.Try.prog [] (Instr.loadAt 3 (Value.pointer (some (Addr.mk ad3.block (ad3.off + 4) none)))) w27 (Value.int IntKind.i64 x30) ∧
 R (Ending.returned (Value.bool (decide (x30 ≤ 4096)))) w27) ∧
 (decide (x29 ≥ 1) = false → R (Ending.returned (Value.bool false)) w27)) ∧
 (b28 = false → R (Ending.returned (Value.bool false)) w27)) ∧
 (b24 = false → R (Ending.returned (Value.bool false)) w23)) ∧
 (b20 = false → R (Ending.returned (Value.bool false)) w19)) ∧
 (b16 = false → R (Ending.returned (Value.bool false)) w15))
theorem f29_eq (c_0 : Int) (c_1 : Int) (c_2 : Int) (c_3 : Int) (c_4 : Int) (c_5 : Int) (c_6 : Int) (c_7 : Int) (c_8 : Int) (w : World) (R : Ending → World → Prop) : (fnF Go.Proofs.Try.prog h29 Go.Proofs.Try.f29 [Value.agg
 #[Value.int IntKind.i64 c_0, Value.int IntKind.i64 c_1, Value.int IntKind.i64 c_2, Value.int IntKind.i64 c_3, Value.int IntKind.i64 c_4, Value.int IntKind.i64 c_5, Value.int IntKind.i64 c_6, Value.int IntKind.i64 c_7,
 Value.int IntKind.i64 c_8]] w R).den = f29_vc c_0 c_1 c_2 c_3 c_4 c_5 c_6 c_7 c_8 w R := by kernel_rfl
theorem f29_calls (c_0 : Int) (c_1 : Int) (c_2 : Int) (c_3 : Int) (c_4 : Int) (c_5 : Int) (c_6 : Int) (c_7 : Int) (c_8 : Int) (w : World) (R : Ending → World → Prop) (h : f29_vc c_0 c_1 c_2 c_3 c_4 c_5 c_6 c_7 c_8 w R) : Calls Go.Proofs.Try.prog 29 (List.toArray [Value.agg
 #[Value.int IntKind.i64 c_0, Value.int IntKind.i64 c_1, Value.int IntKind.i64 c_2, Value.int IntKind.i64 c_3, Value.int IntKind.i64 c_4, Value.int IntKind.i64 c_5, Value.int IntKind.i64 c_6, Value.int IntKind.i64 c_7,
 Value.int IntKind.i64 c_8]]) w R :=
 fn_sound (H := h29) (fn := Go.Proofs.Try.f29) (by kernel_rfl) (by kernel_rfl) (by kernel_rfl) ((f29_eq c_0 c_1 c_2 c_3 c_4 c_5 c_6 c_7 c_8 w R).mpr h)


/-! manciple/mancipleref13.within -/
def h66 : Hints := ⟨[], [], [10], [], [], [], [], [], []⟩
def f66_vc (n : Int) (lo : Int) (hi : Int) (w : World) (R : Ending → World → Prop) : Prop :=
 (decide (n ≥ lo) = true → R (Ending.returned (Value.bool (decide (n ≤ hi)))) w) ∧ (decide (n ≥ lo) = false → R (Ending.returned (Value.bool false)) w)
theorem f66_eq (n : Int) (lo : Int) (hi : Int) (w : World) (R : Ending → World → Prop) : (fnF Go.Proofs.Try.prog h66 Go.Proofs.Try.f66 [Value.int IntKind.i64 n, Value.int IntKind.i64 lo, Value.int IntKind.i64 hi] w R).den = f66_vc n lo hi w R := by kernel_rfl
theorem f66_calls (n : Int) (lo : Int) (hi : Int) (w : World) (R : Ending → World → Prop) (h : f66_vc n lo hi w R) : Calls Go.Proofs.Try.prog 66 (List.toArray [Value.int IntKind.i64 n, Value.int IntKind.i64 lo, Value.int IntKind.i64 hi]) w R :=
 fn_sound (H := h66) (fn := Go.Proofs.Try.f66) (by kernel_rfl) (by kernel_rfl) (by kernel_rfl) ((f66_eq n lo hi w R).mpr h)


/-! manciple/mancipleref16.id -/
def h67 : Hints := ⟨[], [], [5], [], [], [], [], [], []⟩
def f67_vc (n : Int) (w : World) (R : Ending → World → Prop) : Prop :=
 (decide (n ≥ 1) = true → R (Ending.returned (Value.bool (decide (n ≤ 9007199254740992)))) w) ∧ (decide (n ≥ 1) = false → R (Ending.returned (Value.bool false)) w)
theorem f67_eq (n : Int) (w : World) (R : Ending → World → Prop) : (fnF Go.Proofs.Try.prog h67 Go.Proofs.Try.f67 [Value.int IntKind.i64 n] w R).den = f67_vc n w R := by kernel_rfl
theorem f67_calls (n : Int) (w : World) (R : Ending → World → Prop) (h : f67_vc n w R) : Calls Go.Proofs.Try.prog 67 (List.toArray [Value.int IntKind.i64 n]) w R :=
 fn_sound (H := h67) (fn := Go.Proofs.Try.f67) (by kernel_rfl) (by kernel_rfl) (by kernel_rfl) ((f67_eq n w R).mpr h)


/-! manciple/mancipleref16.own -/
def h68 : Hints := ⟨[], [14, 21], [9, 26, 18, 30], [], [], [(2, ⟨[(5, .int .i64)], []⟩)], [], [], []⟩
def f68_vc (va : Option Addr) (vn : Nat) (vc : Nat) (role : Int) (w : World) (R : Ending → World → Prop) : Prop :=
 ∃ (J1 : Int × Unit → World → Prop),
 ∃ (J2 : Int × Unit → World → Nat),
 J1 (0, ()) w ∧
 ∀ (x3 : Int) (w4 : World),
 J1 (x3, ()) w4 →
 (decide (x3 < (↑vn : Int)) = true →
 ∃ (ad5 : Addr),
 Gives Proofs.Try.prog (Instr.indexAt 33 (Value.slice va vn vc) (Value.int IntKind.i64 x3)) (Value.pointer (some ad5)) ∧
 ∃ (x6 : Int),
 Reads Proofs.Try.prog [] (Instr.loadAt 3 (Value.pointer (some (Addr.mk ad5.block (ad5.off + 1) none)))) w4 (Value.int IntKind.i64 x6) ∧
 ((x6 != 0) = true →
 ∃ (ad7 : Addr),
 Gives Proofs.Try.prog (Instr.indexAt 33 (Value.slice va vn vc) (Value.int IntKind.i64 x3)) (Value.pointer (some ad7)) ∧
 ∃ (x8 : Int),
 Reads Proofs.Try.prog [] (Instr.loadAt 3 (Value.pointer (some (Addr.mk ad7.block (ad7.off + 1) none)))) w4 (Value.int IntKind.i64 x8) ∧
 ((x8 != role) = true → R (Ending.returned (Value.bool false)) w4) ∧ ((x8 != role) = false → J1 (IntKind.i64.wrap (x3 + 1), ()) w4 ∧ J2 (IntKind.i64.wrap (x3 + 1), ()) w4 < J2 (x3, ()) w4)) ∧
 ((x6 != 0) = false → J1 (IntKind.i64.wrap (x3 + 1), ()) w4 ∧ J2 (IntKind.i64.wrap (x3 + 1), ()) w4 < J2 (x3, ()) w4)) ∧
 (decide (x3 < (↑vn : Int)) = false →
 (decide ((↑vn : Int) > 0) = true → Calls Proofs.Try.prog 14 #[Value.slice va vn vc] w4 fun (e9 : Ending) (w10 : World) => ∃ (b11 : Bool), e9 = Ending.returned (Value.bool b11) ∧ R (Ending.returned (Value.bool b11)) w10) ∧
 (decide ((↑vn : Int) > 0) = false → R (Ending.returned (Value.bool false)) w4))
theorem f68_eq (va : Option Addr) (vn : Nat) (vc : Nat) (role : Int) (w : World) (R : Ending → World → Prop) : (fnF Go.Proofs.Try.prog h68 Go.Proofs.Try.f68 [Value.slice va vn vc, Value.int IntKind.i64 role] w R).den = f68_vc va vn vc role w R := by kernel_rfl
theorem f68_calls (va : Option Addr) (vn : Nat) (vc : Nat) (role : Int) (w : World) (R : Ending → World → Prop) (h : f68_vc va vn vc role w R) : Calls Go.Proofs.Try.prog 68 (List.toArray [Value.slice va vn vc, Value.int IntKind.i64 role]) w R :=
 fn_sound (H := h68) (fn := Go.Proofs.Try.f68) (by kernel_rfl) (by kernel_rfl) (by kernel_rfl) ((f68_eq va vn vc role w R).mpr h)


/-! manciple/mancipleref16.Ahead -/
def h69 : Hints := ⟨[2, 3], [], [9, 19, 30, 36], [], [], [], [], [], []⟩
def f69_vc (x_0 : Int) (x_1 : Int) (x_2 : Int) (x_3a : Option Addr) (x_3n : Nat) (x_3c : Nat) (y_0 : Int) (y_1 : Int) (y_2 : Int) (y_3a : Option Addr) (y_3n : Nat) (y_3c : Nat) (w : World) (R : Ending → World → Prop) : Prop :=
 ∀ (n1 : Nat),
 w.heap.size ≤ n1 →
 ∀ (n2 : Nat),
 w.heap.size ≤ n2 →
 ((x_0 != y_0) = true → ∀ (w3 : World), Bel w w3 → Under [n1, n2] w3 → R (Ending.returned (Value.bool (decide (x_0 < y_0)))) w3) ∧
 ((x_0 != y_0) = false →
 ((x_1 != y_1) = true → ∀ (w4 : World), Bel w w4 → Under [n1, n2] w4 → R (Ending.returned (Value.bool (decide (x_1 < y_1)))) w4) ∧
 ((x_1 != y_1) = false →
 (decide (x_2 < y_2) = true → ∀ (w5 : World), Bel w w5 → Under [n1, n2] w5 → R (Ending.returned (Value.bool true)) w5) ∧
 (decide (x_2 < y_2) = false →
 ((x_2 == y_2) = true →
 ∀ (w6 : World),
 Bel w w6 →
 Under [n1, n2] w6 →
 Calls Proofs.Try.prog 92 #[Value.slice x_3a x_3n x_3c, Value.slice y_3a y_3n y_3c] w6 fun (e7 : Ending) (w8 : World) =>
 ∃ (x9 : Int), e7 = Ending.returned (Value.int IntKind.i64 x9) ∧ Keeps [n1, n2] w6 w8 ∧ R (Ending.returned (Value.bool (decide (x9 < 0)))) w8) ∧
 ((x_2 == y_2) = false → ∀ (w10 : World), Bel w w10 → Under [n1, n2] w10 → R (Ending.returned (Value.bool false)) w10))))
theorem f69_eq (x_0 : Int) (x_1 : Int) (x_2 : Int) (x_3a : Option Addr) (x_3n : Nat) (x_3c : Nat) (y_0 : Int) (y_1 : Int) (y_2 : Int) (y_3a : Option Addr) (y_3n : Nat) (y_3c : Nat) (w : World) (R : Ending → World → Prop) : (fnF Go.Proofs.Try.prog h69 Go.Proofs.Try.f69 [Value.agg #[Value.int IntKind.i64 x_0, Value.int IntKind.i64 x_1, Value.int IntKind.i64 x_2, Value.slice x_3a x_3n x_3c],
 Value.agg #[Value.int IntKind.i64 y_0, Value.int IntKind.i64 y_1, Value.int IntKind.i64 y_2, Value.slice y_3a y_3n y_3c]] w R).den = f69_vc x_0 x_1 x_2 x_3a x_3n x_3c y_0 y_1 y_2 y_3a y_3n y_3c w R := by kernel_rfl
theorem f69_calls (x_0 : Int) (x_1 : Int) (x_2 : Int) (x_3a : Option Addr) (x_3n : Nat) (x_3c : Nat) (y_0 : Int) (y_1 : Int) (y_2 : Int) (y_3a : Option Addr) (y_3n : Nat) (y_3c : Nat) (w : World) (R : Ending → World → Prop) (h : f69_vc x_0 x_1 x_2 x_3a x_3n x_3c y_0 y_1 y_2 y_3a y_3n y_3c w R) : Calls Go.Proofs.Try.prog 69 (List.toArray [Value.agg #[Value.int IntKind.i64 x_0, Value.int IntKind.i64 x_1, Value.int IntKind.i64 x_2, Value.slice x_3a x_3n x_3c],
 Value.agg #[Value.int IntKind.i64 y_0, Value.int IntKind.i64 y_1, Value.int IntKind.i64 y_2, Value.slice y_3a y_3n y_3c]]) w R :=
 fn_sound (H := h69) (fn := Go.Proofs.Try.f69) (by kernel_rfl) (by kernel_rfl) (by kernel_rfl) ((f69_eq x_0 x_1 x_2 x_3a x_3n x_3c y_0 y_1 y_2 y_3a y_3n y_3c w R).mpr h)


/-! manciple/mancipleref16.Order -/
def h92 : Hints := ⟨[], [20, 24, 30, 34], [15, 27, 41, 46, 10], [(4, [0, 1, 2, 3, 4, 5, 6, 7, 8, 9]), (5, [0, 1, 2, 3, 4, 5, 6, 7, 8, 9])], [], [(2, ⟨[(5, .int .i64)], []⟩)], [], [], []⟩
def f92_vc (aa : Option Addr) (an : Nat) (ac : Nat) (ba : Option Addr) (bn : Nat) (bc : Nat) (w : World) (R : Ending → World → Prop) : Prop :=
 ∃ (J1 : Int × Unit → World → Prop),
 ∃ (J2 : Int × Unit → World → Nat),
 J1 (0, ()) w ∧
 ∀ (x3 : Int) (w4 : World),
 J1 (x3, ()) w4 →
 (decide (x3 < (↑an : Int)) = true →
 (decide (x3 < (↑bn : Int)) = true →
 ∃ (ad5 : Addr),
 Gives Proofs.Try.prog (Instr.indexAt 33 (Value.slice aa an ac) (Value.int IntKind.i64 x3)) (Value.pointer (some ad5)) ∧
 ∃ (x6 : Int),
 ∃ (x7 : Int),
 ∃ (x8 : Int),
 Reads Proofs.Try.prog [] (Instr.loadAt 66 (Value.pointer (some ad5))) w4 (Value.agg #[Value.int IntKind.i64 x6, Value.int IntKind.i64 x7, Value.int IntKind.i64 x8]) ∧
 ∃ (ad9 : Addr),
 Gives Proofs.Try.prog (Instr.indexAt 33 (Value.slice ba bn bc) (Value.int IntKind.i64 x3)) (Value.pointer (some ad9)) ∧
 ∃ (x10 : Int),
 ∃ (x11 : Int),
 ∃ (x12 : Int),
 Reads Proofs.Try.prog [] (Instr.loadAt 66 (Value.pointer (some ad9))) w4 (Value.agg #[Value.int IntKind.i64 x10, Value.int IntKind.i64 x11, Value.int IntKind.i64 x12]) ∧
 ∀ (w13 : World),
 Bel w4 w13 →
 Calls Proofs.Try.prog 100
 #[Value.agg #[Value.int IntKind.i64 x6, Value.int IntKind.i64 x7, Value.int IntKind.i64 x8], Value.agg #[Value.int IntKind.i64 x10, Value.int IntKind.i64 x11, Value.int IntKind.i64 x12]] w13
 fun (e14 : Ending) (w15 : World) =>
 ∃ (x16 : Int),
 e14 = Ending.returned (Value.int IntKind.i64 x16) ∧
 ((x16 != 0) = true →
 ∃ (ad17 : Addr),
 Gives Proofs.Try.prog (Instr.indexAt 33 (Value.slice aa an ac) (Value.int IntKind.i64 x3)) (Value.pointer (some ad17)) ∧
 ∃ (x18 : Int),
 ∃ (x19 : Int),
 ∃ (x20 : Int),
 Reads Proofs.Try.prog [] (Instr.loadAt 66 (Value.pointer (some ad17))) w15 (Value.agg #[Value.int IntKind.i64 x18, Value.int IntKind.i64 x19, Value.int IntKind.i64 x20]) ∧
 ∃ (ad21 : Addr),
 Gives Proofs.Try.prog (Instr.indexAt 33 (Value.slice ba bn bc) (Value.int IntKind.i64 x3)) (Value.pointer (some ad21)) ∧
 ∃ (x22 : Int),
 ∃ (x23 : Int),
 ∃ (x24 : Int),
 Reads Proofs.Try.prog [] (Instr.loadAt 66 (Value.pointer (some ad21))) w15
 (Value.agg #[Value.int IntKind.i64 x22, Value.int IntKind.i64 x23, Value.int IntKind.i64 x24]) ∧
 ∀ (w25 : World),
 Bel w15 w25 →
 Calls Proofs.Try.prog 100
 #[Value.agg #[Value.int IntKind.i64 x18, Value.int IntKind.i64 x19, Value.int IntKind.i64 x20],
 Value.agg #[Value.int IntKind.i64 x22, Value.int IntKind.i64 x23, Value.int IntKind.i64 x24]]
 w25 fun (e26 : Ending) (w27 : World) =>
 ∃ (x28 : Int), e26 = Ending.returned (Value.int IntKind.i64 x28) ∧ R (Ending.returned (Value.int IntKind.i64 x28)) w27) ∧
 ((x16 != 0) = false → J1 (IntKind.i64.wrap (x3 + 1), ()) w15 ∧ J2 (IntKind.i64.wrap (x3 + 1), ()) w15 < J2 (x3, ()) w4)) ∧
 (decide (x3 < (↑bn : Int)) = false →
 (decide ((↑an : Int) < (↑bn : Int)) = true → R (Ending.returned (Value.int IntKind.i64 (-1))) w4) ∧
 (decide ((↑an : Int) < (↑bn : Int)) = false →
 (decide ((↑an : Int) > (↑bn : Int)) = true → R (Ending.returned (Value.int IntKind.i64 1)) w4) ∧ (decide ((↑an : Int) > (↑bn : Int)) = false → R (Ending.returned (Value.int IntKind.i64 0)) w4)))) ∧
 (decide (x3 < (↑an : Int)) = false →
 (decide ((↑an : Int) < (↑bn : Int)) = true → R (Ending.returned (Value.int IntKind.i64 (-1))) w4) ∧
 (decide ((↑an : Int) < (↑bn : Int)) = false →
 (decide ((↑an : Int) > (↑bn : Int)) = true → R (Ending.returned (Value.int IntKind.i64 1)) w4) ∧ (decide ((↑an : Int) > (↑bn : Int)) = false → R (Ending.returned (Value.int IntKind.i64 0)) w4)))
theorem f92_eq (aa : Option Addr) (an : Nat) (ac : Nat) (ba : Option Addr) (bn : Nat) (bc : Nat) (w : World) (R : Ending → World → Prop) : (fnF Go.Proofs.Try.prog h92 Go.Proofs.Try.f92 [Value.slice aa an ac, Value.slice ba bn bc] w R).den = f92_vc aa an ac ba bn bc w R := by kernel_rfl
theorem f92_calls (aa : Option Addr) (an : Nat) (ac : Nat) (ba : Option Addr) (bn : Nat) (bc : Nat) (w : World) (R : Ending → World → Prop) (h : f92_vc aa an ac ba bn bc w R) : Calls Go.Proofs.Try.prog 92 (List.toArray [Value.slice aa an ac, Value.slice ba bn bc]) w R :=
 fn_sound (H := h92) (fn := Go.Proofs.Try.f92) (by kernel_rfl) (by kernel_rfl) (by kernel_rfl) ((f92_eq aa an ac ba bn bc w R).mpr h)


/-! manciple/mancipleref16.part -/
def h100 : Hints := ⟨[2, 3], [], [7, 40, 13, 19, 25, 31], [], [], [], [], [], []⟩
def f100_vc (a_0 : Int) (a_1 : Int) (a_2 : Int) (b_0 : Int) (b_1 : Int) (b_2 : Int) (w : World) (R : Ending → World → Prop) : Prop :=
 ∀ (n1 : Nat),
 w.heap.size ≤ n1 →
 ∀ (n2 : Nat),
 w.heap.size ≤ n2 →
 ((a_0 == b_0 && (a_1 == b_1 && (a_2 == b_2 && true))) = true → ∀ (w3 : World), Bel w w3 → Under [n1, n2] w3 → R (Ending.returned (Value.int IntKind.i64 0)) w3) ∧
 ((a_0 == b_0 && (a_1 == b_1 && (a_2 == b_2 && true))) = false →
 (decide (a_0 < b_0) = true → ∀ (w4 : World), Bel w w4 → Under [n1, n2] w4 → R (Ending.returned (Value.int IntKind.i64 (-1))) w4) ∧
 (decide (a_0 < b_0) = false →
 ((a_0 == b_0) = true →
 (decide (a_1 < b_1) = true → ∀ (w5 : World), Bel w w5 → Under [n1, n2] w5 → R (Ending.returned (Value.int IntKind.i64 (-1))) w5) ∧
 (decide (a_1 < b_1) = false →
 ((a_1 == b_1) = true →
 (decide (a_2 < b_2) = true → ∀ (w6 : World), Bel w w6 → Under [n1, n2] w6 → R (Ending.returned (Value.int IntKind.i64 (-1))) w6) ∧
 (decide (a_2 < b_2) = false → ∀ (w7 : World), Bel w w7 → Under [n1, n2] w7 → R (Ending.returned (Value.int IntKind.i64 1)) w7)) ∧
 ((a_1 == b_1) = false → ∀ (w8 : World), Bel w w8 → Under [n1, n2] w8 → R (Ending.returned (Value.int IntKind.i64 1)) w8))) ∧
 ((a_0 == b_0) = false → ∀ (w9 : World), Bel w w9 → Under [n1, n2] w9 → R (Ending.returned (Value.int IntKind.i64 1)) w9)))
theorem f100_eq (a_0 : Int) (a_1 : Int) (a_2 : Int) (b_0 : Int) (b_1 : Int) (b_2 : Int) (w : World) (R : Ending → World → Prop) : (fnF Go.Proofs.Try.prog h100 Go.Proofs.Try.f100 [Value.agg #[Value.int IntKind.i64 a_0, Value.int IntKind.i64 a_1, Value.int IntKind.i64 a_2], Value.agg #[Value.int IntKind.i64 b_0, Value.int IntKind.i64 b_1, Value.int IntKind.i64 b_2]] w R).den = f100_vc a_0 a_1 a_2 b_0 b_1 b_2 w R := by kernel_rfl
theorem f100_calls (a_0 : Int) (a_1 : Int) (a_2 : Int) (b_0 : Int) (b_1 : Int) (b_2 : Int) (w : World) (R : Ending → World → Prop) (h : f100_vc a_0 a_1 a_2 b_0 b_1 b_2 w R) : Calls Go.Proofs.Try.prog 100 (List.toArray [Value.agg #[Value.int IntKind.i64 a_0, Value.int IntKind.i64 a_1, Value.int IntKind.i64 a_2], Value.agg #[Value.int IntKind.i64 b_0, Value.int IntKind.i64 b_1, Value.int IntKind.i64 b_2]]) w R :=
 fn_sound (H := h100) (fn := Go.Proofs.Try.f100) (by kernel_rfl) (by kernel_rfl) (by kernel_rfl) ((f100_eq a_0 a_1 a_2 b_0 b_1 b_2 w R).mpr h)


/-! manciple/mancipleref06.Of -/
def h49 : Hints := ⟨[2], [17, 22, 25, 29, 33], [7, 12], [(7, [0, 1, 2, 3, 4, 5, 6, 7, 8, 9, 10, 11, 12, 13, 14, 15, 16, 17, 18, 19])], [], [(5, ⟨[(4, .int .i64)], []⟩)], [], [], []⟩
def f49_vc (va : Option Addr) (vn : Nat) (vc : Nat) (w : World) (R : Ending → World → Prop) : Prop :=
 ∀ (n1 : Nat),
 w.heap.size ≤ n1 →
 ∀ (w2 : World),
 Bel w w2 →
 Under [n1] w2 →
 OpW Proofs.Try.prog (valueS (Instr.alloc 22 true (Value.tuple #[]))) w2 fun (v3 : Value) (w4 : World) =>
 ∃ (ad5 : Addr),
 v3 = Value.pointer (some ad5) ∧
 Keeps [n1] w2 w4 ∧
 Calls Proofs.Try.prog 14 #[Value.slice va vn vc] w4 fun (e6 : Ending) (w7 : World) =>
 ∃ (b8 : Bool),
 e6 = Ending.returned (Value.bool b8) ∧
 Keeps [n1] w4 w7 ∧
 ((!b8) = true →
 ∃ (x9 : Int),
 ∃ (x10 : Int),
 ∃ (x11 : Int),
 ∃ (x12 : Int),
 Reads Proofs.Try.prog [] (Instr.loadAt 22 (Value.pointer (some ad5))) w7 (Value.agg #[Value.int IntKind.i64 x9, Value.int IntKind.i64 x10, Value.int IntKind.i64 x11, Value.int IntKind.i64 x12]) ∧
 ∀ (w13 : World), Evo [n1] w7 w13 → Under [n1] w13 → R (Ending.returned (Value.agg #[Value.int IntKind.i64 x9, Value.int IntKind.i64 x10, Value.int IntKind.i64 x11, Value.int IntKind.i64 x12])) w13) ∧
 ((!b8) = false →
 ∃ (J14 : Int × Unit → World → Prop),
 ∃ (J15 : Int × Unit → World → Nat),
 J14 (0, ()) w7 ∧
 ∀ (x16 : Int) (w17 : World),
 J14 (x16, ()) w17 →
 (decide (x16 < (↑vn : Int)) = true →
 ∃ (ad18 : Addr),
 Gives Proofs.Try.prog (Instr.indexAt 33 (Value.slice va vn vc) (Value.int IntKind.i64 x16)) (Value.pointer (some ad18)) ∧
 ∃ (x19 : Int),
 Reads Proofs.Try.prog [] (Instr.loadAt 3 (Value.pointer (some ad18))) w17 (Value.int IntKind.i64 x19) ∧
 ∃ (ad20 : Addr),
 Gives Proofs.Try.prog (Instr.indexAt 33 (Value.slice va vn vc) (Value.int IntKind.i64 x16)) (Value.pointer (some ad20)) ∧
 ∃ (x21 : Int),
 Reads Proofs.Try.prog [] (Instr.loadAt 3 (Value.pointer (some ad20))) w17 (Value.int IntKind.i64 x21) ∧
 ∃ (ad22 : Addr),
 Gives Proofs.Try.prog (Instr.indexAt 22 (Value.pointer (some ad5)) (Value.int IntKind.i64 x21)) (Value.pointer (some ad22)) ∧
 ∃ (x23 : Int),
 Reads Proofs.Try.prog [] (Instr.loadAt 2 (Value.pointer (some ad22))) w17 (Value.int IntKind.i64 x23) ∧
 ∃ (ad24 : Addr),
 Gives Proofs.Try.prog (Instr.indexAt 33 (Value.slice va vn vc) (Value.int IntKind.i64 x16)) (Value.pointer (some ad24)) ∧
 ∃ (x25 : Int),
 Reads Proofs.Try.prog [] (Instr.loadAt 2 (Value.pointer (some (Addr.mk ad24.block (ad24.off + 2) none)))) w17 (Value.int IntKind.i64 x25) ∧
 ∃ (ad26 : Addr),
 Gives Proofs.Try.prog (Instr.indexAt 22 (Value.pointer (some ad5)) (Value.int IntKind.i64 x19)) (Value.pointer (some ad26)) ∧
 ∀ (w27 : World),
 Bel w17 w27 →
 Under [n1] w27 →
 OpW Proofs.Try.prog (skipS (Instr.storeAt 2 (Value.pointer (some ad26)) (Value.int IntKind.i64 (IntKind.i64.wrap (x23 + x25))))) w27
 fun (v28 : Value) (w29 : World) =>
 Keeps [n1] w27 w29 ∧ J14 (IntKind.i64.wrap (x16 + 1), ()) w29 ∧ J15 (IntKind.i64.wrap (x16 + 1), ()) w29 < J15 (x16, ()) w17) ∧
 (decide (x16 < (↑vn : Int)) = false →
 ∃ (x30 : Int),
 ∃ (x31 : Int),
 ∃ (x32 : Int),
 ∃ (x33 : Int),
 Reads Proofs.Try.prog [] (Instr.loadAt 22 (Value.pointer (some ad5))) w17
 (Value.agg #[Value.int IntKind.i64 x30, Value.int IntKind.i64 x31, Value.int IntKind.i64 x32, Value.int IntKind.i64 x33]) ∧
 ∀ (w34 : World),
 Evo [n1] w17 w34 → Under [n1] w34 → R (Ending.returned (Value.agg #[Value.int IntKind.i64 x30, Value.int IntKind.i64 x31, Value.int IntKind.i64 x32, Value.int IntKind.i64 x33])) w34))
theorem f49_eq (va : Option Addr) (vn : Nat) (vc : Nat) (w : World) (R : Ending → World → Prop) : (fnF Go.Proofs.Try.prog h49 Go.Proofs.Try.f49 [Value.slice va vn vc] w R).den = f49_vc va vn vc w R := by kernel_rfl
theorem f49_calls (va : Option Addr) (vn : Nat) (vc : Nat) (w : World) (R : Ending → World → Prop) (h : f49_vc va vn vc w R) : Calls Go.Proofs.Try.prog 49 (List.toArray [Value.slice va vn vc]) w R :=
 fn_sound (H := h49) (fn := Go.Proofs.Try.f49) (by kernel_rfl) (by kernel_rfl) (by kernel_rfl) ((f49_eq va vn vc w R).mpr h)


/-! manciple/sums.Of -/
def h47 : Hints := ⟨[2, 5], [14, 18, 23], [8, 13], [(7, [0, 1, 2, 3, 4, 5, 6, 7, 8])], [], [(5, ⟨[(12, .int .i64)], []⟩)], [], [], []⟩
def f47_vc (va : Option Addr) (vn : Nat) (vc : Nat) (w : World) (R : Ending → World → Prop) : Prop :=
 ∀ (n1 : Nat),
 w.heap.size ≤ n1 →
 ∀ (w2 : World),
 Bel w w2 →
 Under [n1] w2 →
 OpW Proofs.Try.prog (valueS (Instr.alloc 77 true (Value.tuple #[]))) w2 fun (v3 : Value) (w4 : World) =>
 ∃ (ad5 : Addr),
 v3 = Value.pointer (some ad5) ∧
 Keeps [n1] w2 w4 ∧
 Calls Proofs.Try.prog 63 #[Value.slice va vn vc] w4 fun (e6 : Ending) (w7 : World) =>
 ∃ (b8 : Bool),
 e6 = Ending.returned (Value.bool b8) ∧
 Keeps [n1] w4 w7 ∧
 ((!b8) = true →
 ∃ (x9 : Int),
 ∃ (x10 : Int),
 ∃ (x11 : Int),
 ∃ (x12 : Int),
 Reads Proofs.Try.prog [] (Instr.loadAt 77 (Value.pointer (some ad5))) w7 (Value.agg #[Value.int IntKind.i64 x9, Value.int IntKind.i64 x10, Value.int IntKind.i64 x11, Value.int IntKind.i64 x12]) ∧
 ∀ (w13 : World), Evo [n1] w7 w13 → Under [n1] w13 → R (Ending.returned (Value.agg #[Value.int IntKind.i64 x9, Value.int IntKind.i64 x10, Value.int IntKind.i64 x11, Value.int IntKind.i64 x12])) w13) ∧
 ((!b8) = false →
 ∃ (J14 : Int × Unit → World → Prop),
 ∃ (J15 : Int × Unit → World → Nat),
 J14 (0, ()) w7 ∧
 ∀ (x16 : Int) (w17 : World),
 J14 (x16, ()) w17 →
 (decide (x16 < (↑vn : Int)) = true →
 ∃ (ad18 : Addr),
 Gives Proofs.Try.prog (Instr.indexAt 33 (Value.slice va vn vc) (Value.int IntKind.i64 x16)) (Value.pointer (some ad18)) ∧
 ∃ (x19 : Int),
 ∃ (x20 : Int),
 ∃ (x21 : Int),
 Reads Proofs.Try.prog [] (Instr.loadAt 66 (Value.pointer (some ad18))) w17 (Value.agg #[Value.int IntKind.i64 x19, Value.int IntKind.i64 x20, Value.int IntKind.i64 x21]) ∧
 ∀ (n22 : Nat),
 w17.heap.size ≤ n22 →
 ∃ (ad23 : Addr),
 Gives Proofs.Try.prog (Instr.indexAt 77 (Value.pointer (some ad5)) (Value.int IntKind.i64 x19)) (Value.pointer (some ad23)) ∧
 ∃ (x24 : Int),
 Reads Proofs.Try.prog [n22] (Instr.loadAt 2 (Value.pointer (some ad23))) w17 (Value.int IntKind.i64 x24) ∧
 ∃ (ad25 : Addr),
 Gives Proofs.Try.prog (Instr.indexAt 77 (Value.pointer (some ad5)) (Value.int IntKind.i64 x19)) (Value.pointer (some ad25)) ∧
 ∀ (w26 : World),
 Evo [n22] w17 w26 →
 Under [n1, n22] w26 →
 OpW Proofs.Try.prog (skipS (Instr.storeAt 2 (Value.pointer (some ad25)) (Value.int IntKind.i64 (IntKind.i64.wrap (x24 + x21))))) w26
 fun (v27 : Value) (w28 : World) =>
 Keeps [n1, n22] w26 w28 ∧ J14 (IntKind.i64.wrap (x16 + 1), ()) w28 ∧ J15 (IntKind.i64.wrap (x16 + 1), ()) w28 < J15 (x16, ()) w17) ∧
 (decide (x16 < (↑vn : Int)) = false →
 ∃ (x29 : Int),
 ∃ (x30 : Int),
 ∃ (x31 : Int),
 ∃ (x32 : Int),
 Reads Proofs.Try.prog [] (Instr.loadAt 77 (Value.pointer (some ad5))) w17
 (Value.agg #[Value.int IntKind.i64 x29, Value.int IntKind.i64 x30, Value.int IntKind.i64 x31, Value.int IntKind.i64 x32]) ∧
 ∀ (w33 : World),
 Evo [n1] w17 w33 → Under [n1] w33 → R (Ending.returned (Value.agg #[Value.int IntKind.i64 x29, Value.int IntKind.i64 x30, Value.int IntKind.i64 x31, Value.int IntKind.i64 x32])) w33))
theorem f47_eq (va : Option Addr) (vn : Nat) (vc : Nat) (w : World) (R : Ending → World → Prop) : (fnF Go.Proofs.Try.prog h47 Go.Proofs.Try.f47 [Value.slice va vn vc] w R).den = f47_vc va vn vc w R := by kernel_rfl
theorem f47_calls (va : Option Addr) (vn : Nat) (vc : Nat) (w : World) (R : Ending → World → Prop) (h : f47_vc va vn vc w R) : Calls Go.Proofs.Try.prog 47 (List.toArray [Value.slice va vn vc]) w R :=
 fn_sound (H := h47) (fn := Go.Proofs.Try.f47) (by kernel_rfl) (by kernel_rfl) (by kernel_rfl) ((f47_eq va vn vc w R).mpr h)


/-! (manciple/sums.Sums).Holds -/
def h48 : Hints := ⟨[], [10, 13], [7, 15, 19], [(4, [0, 1, 2, 3, 4, 5, 6])], [], [(2, ⟨[(6, .int .i64)], []⟩)], [], [], []⟩
def f48_vc (a_0 : Int) (a_1 : Int) (a_2 : Int) (a_3 : Int) (b_0 : Int) (b_1 : Int) (b_2 : Int) (b_3 : Int) (w : World) (R : Ending → World → Prop) : Prop :=
 OpW Proofs.Try.prog (valueS (Instr.box 77 (Value.agg #[Value.int IntKind.i64 a_0, Value.int IntKind.i64 a_1, Value.int IntKind.i64 a_2, Value.int IntKind.i64 a_3]))) w fun (v1 : Value) (w2 : World) =>
 ∃ (ad3 : Addr),
 v1 = Value.pointer (some ad3) ∧
 OpW Proofs.Try.prog (valueS (Instr.box 77 (Value.agg #[Value.int IntKind.i64 b_0, Value.int IntKind.i64 b_1, Value.int IntKind.i64 b_2, Value.int IntKind.i64 b_3]))) w2 fun (v4 : Value) (w5 : World) =>
 ∃ (ad6 : Addr),
 v4 = Value.pointer (some ad6) ∧
 ∃ (J7 : Int × Unit → World → Prop),
 ∃ (J8 : Int × Unit → World → Nat),
 J7 (0, ()) w5 ∧
 ∀ (x9 : Int) (w10 : World),
 J7 (x9, ()) w10 →
 (decide (x9 < 4) = true →
 ∃ (ad11 : Addr),
 Gives Proofs.Try.prog (Instr.indexAt 77 (Value.pointer (some ad3)) (Value.int IntKind.i64 x9)) (Value.pointer (some ad11)) ∧
 ∃ (x12 : Int),
 Reads Proofs.Try.prog [] (Instr.loadAt 2 (Value.pointer (some ad11))) w10 (Value.int IntKind.i64 x12) ∧
 ∃ (ad13 : Addr),
 Gives Proofs.Try.prog (Instr.indexAt 77 (Value.pointer (some ad6)) (Value.int IntKind.i64 x9)) (Value.pointer (some ad13)) ∧
 ∃ (x14 : Int),
 Reads Proofs.Try.prog [] (Instr.loadAt 2 (Value.pointer (some ad13))) w10 (Value.int IntKind.i64 x14) ∧
 (decide (x12 < x14) = true → ∀ (w15 : World), Bel w10 w15 → R (Ending.returned (Value.bool false)) w15) ∧
 (decide (x12 < x14) = false → ∀ (w16 : World), Bel w10 w16 → J7 (IntKind.i64.wrap (x9 + 1), ()) w16 ∧ J8 (IntKind.i64.wrap (x9 + 1), ()) w16 < J8 (x9, ()) w10)) ∧
 (decide (x9 < 4) = false →
 ∃ (x17 : Int),
 ∃ (x18 : Int),
 ∃ (x19 : Int),
 ∃ (x20 : Int),
 Reads Proofs.Try.prog [] (Instr.loadAt 77 (Value.pointer (some ad3))) w10 (Value.agg #[Value.int IntKind.i64 x17, Value.int IntKind.i64 x18, Value.int IntKind.i64 x19, Value.int IntKind.i64 x20]) ∧
 Calls Proofs.Try.prog 74 #[Value.agg #[Value.int IntKind.i64 x17, Value.int IntKind.i64 x18, Value.int IntKind.i64 x19, Value.int IntKind.i64 x20]] w10 fun (e21 : Ending) (w22 : World) =>
 ∃ (b23 : Bool),
 e21 = Ending.returned (Value.bool b23) ∧
 (b23 = true →
 ∃ (x24 : Int),
 ∃ (x25 : Int),
 ∃ (x26 : Int),
 ∃ (x27 : Int),
 Reads Proofs.Try.prog [] (Instr.loadAt 77 (Value.pointer (some ad6))) w22
 (Value.agg #[Value.int IntKind.i64 x24, Value.int IntKind.i64 x25, Value.int IntKind.i64 x26, Value.int IntKind.i64 x27]) ∧
 Calls Proofs.Try.prog 74 #[Value.agg #[Value.int IntKind.i64 x24, Value.int IntKind.i64 x25, Value.int IntKind.i64 x26, Value.int IntKind.i64 x27]] w22
 fun (e28 : Ending) (w29 : World) => ∃ (b30 : Bool), e28 = Ending.returned (Value.bool b30) ∧ R (Ending.returned (Value.bool b30)) w29) ∧
 (b23 = false → R (Ending.returned (Value.bool false)) w22))
theorem f48_eq (a_0 : Int) (a_1 : Int) (a_2 : Int) (a_3 : Int) (b_0 : Int) (b_1 : Int) (b_2 : Int) (b_3 : Int) (w : World) (R : Ending → World → Prop) : (fnF Go.Proofs.Try.prog h48 Go.Proofs.Try.f48 [Value.agg #[Value.int IntKind.i64 a_0, Value.int IntKind.i64 a_1, Value.int IntKind.i64 a_2, Value.int IntKind.i64 a_3],
 Value.agg #[Value.int IntKind.i64 b_0, Value.int IntKind.i64 b_1, Value.int IntKind.i64 b_2, Value.int IntKind.i64 b_3]] w R).den = f48_vc a_0 a_1 a_2 a_3 b_0 b_1 b_2 b_3 w R := by kernel_rfl
theorem f48_calls (a_0 : Int) (a_1 : Int) (a_2 : Int) (a_3 : Int) (b_0 : Int) (b_1 : Int) (b_2 : Int) (b_3 : Int) (w : World) (R : Ending → World → Prop) (h : f48_vc a_0 a_1 a_2 a_3 b_0 b_1 b_2 b_3 w R) : Calls Go.Proofs.Try.prog 48 (List.toArray [Value.agg #[Value.int IntKind.i64 a_0, Value.int IntKind.i64 a_1, Value.int IntKind.i64 a_2, Value.int IntKind.i64 a_3],
 Value.agg #[Value.int IntKind.i64 b_0, Value.int IntKind.i64 b_1, Value.int IntKind.i64 b_2, Value.int IntKind.i64 b_3]]) w R :=
 fn_sound (H := h48) (fn := Go.Proofs.Try.f48) (by kernel_rfl) (by kernel_rfl) (by kernel_rfl) ((f48_eq a_0 a_1 a_2 a_3 b_0 b_1 b_2 b_3 w R).mpr h)

end Vcw

/- Own text of this claim: W6. -/
set_option maxRecDepth 20000
namespace Go.Vc.W
open Go Go.Vc Go.Vc.V Go.RowKit Go.Proofs Vcw

abbrev slE (x : Int × Int) : List Value := [.int .i64 x.1, .int .i64 x.2]
def allR (k : Nat) (n : Nat) : List (Int × Int) := (List.range n).map fun r : Nat => ((k : Int), (r : Int))
def allK : Nat → List (Int × Int)
  | 0 => []
  | k + 1 => allK k ++ allR k 33
theorem allR_len (k n : Nat) : (allR k n).length = n := by simp [allR]
theorem allK_len : ∀ k, (allK k).length = 33 * k
  | 0 => rfl
  | k + 1 => by rw [allK, List.length_append, allK_len k, allR_len]; omega
theorem allK_mem : ∀ {k : Nat} {x : Int × Int}, x ∈ allK k ↔ (0 ≤ x.1 ∧ x.1 < k ∧ 0 ≤ x.2 ∧ x.2 ≤ 32)
  | 0, x => by simp [allK]; omega
  | k + 1, x => by
    rw [allK, List.mem_append, allK_mem (k := k)]
    have : x ∈ allR k 33 ↔ (x.1 = k ∧ 0 ≤ x.2 ∧ x.2 ≤ 32) := by
      unfold allR
      rw [List.mem_map]
      constructor
      · rintro ⟨r, hr, rfl⟩
        have := List.mem_range.1 hr
        exact ⟨rfl, by simp only; omega, by simp only; omega⟩
      · rintro ⟨h1, h2, h3⟩
        refine ⟨x.2.toNat, List.mem_range.2 (by omega), ?_⟩
        obtain ⟨x1, x2⟩ := x
        simp only at h1 h2 h3 ⊢
        rw [h1, Int.toNat_of_nonneg h2]
    rw [this]
    omega
theorem all_mem {x : Int × Int} : x ∈ allK 4 ↔ slotR x.1 x.2 := by
  rw [allK_mem]
  unfold slotR
  omega

theorem c101 (w : World) : RetL Try.prog 101 #[] w 74 2 slE (allK 4) := by
  intro R h
  refine f101_calls w R ?_
  unfold f101_vc
  have hA := At.refl w
  refine ⟨fun s W => At w [] W ∧ ∃ k : Nat, s.2.1 = k ∧ k ≤ 4 ∧ OwnL w [] W 74 2 slE (.slice s.1.1 s.1.2.1 s.1.2.2) (allK k), fun s _ => 4 - s.2.1.toNat, ⟨hA, 0, rfl, by omega, OwnL.nil⟩, ?_⟩
  rintro a3 n4 n5 i W ⟨hA, k, hi, hk, ho⟩
  simp only at hi ho
  subst hi
  refine brD (fun hlt => ?_) (fun hge => ?_)
  · have e1 : IntKind.i64.wrap ((k : Int) + 1) = ((k + 1 : Nat) : Int) := by rw [wrap_i64 (by omega) (by omega)]; rfl
    rw [e1]
    refine ⟨fun s W => At w [] W ∧ ∃ r : Nat, s.2.1 = r ∧ r ≤ 33 ∧ OwnL w [] W 74 2 slE (.slice s.1.1 s.1.2.1 s.1.2.2) (allK k ++ allR k r), fun s _ => 33 - s.2.1.toNat, ⟨hA, 0, rfl, by omega, by simpa [allR] using ho⟩, ?_⟩
    rintro a10 n11 n12 j W ⟨hA, r, hj, hr, ho⟩
    simp only at hj ho
    subst hj
    have hlen := allK_len k
    refine brD (fun hlt2 => ?_) (fun hge2 => ?_)
    · have e2 : IntKind.i64.wrap ((r : Int) + 1) = ((r + 1 : Nat) : Int) := by rw [wrap_i64 (by omega) (by omega)]; rfl
      rw [e2]
      refine opw_push0 (e' := 74) (bytes := 16) hA ho ((k : Int), (r : Int)) (by kernel_rfl) (by kernel_rfl) rfl (fun _ _ => rfl) (fun u hu => by simp at hu; rcases hu with rfl | rfl <;> rfl) (by rw [List.length_append, hlen, allR_len]; omega) (by decide) fun a2 c2 w21 hA ho _ _ => ⟨⟨hA, r + 1, rfl, by omega, ?_⟩, by show 33 - ((r + 1 : Nat) : Int).toNat < 33 - (r : Int).toNat; omega⟩
      have : allR k (r + 1) = allR k r ++ [((k : Int), (r : Int))] := by unfold allR; rw [List.range_succ, List.map_append]; rfl
      rw [this, ← List.append_assoc]
      exact ho
    · have hr33 : r = 33 := by omega
      subst hr33
      exact ⟨⟨hA, k + 1, rfl, by omega, ho⟩, by show 4 - ((k + 1 : Nat) : Int).toNat < 4 - (k : Int).toNat; omega⟩
  · have hk4 : k = 4 := by omega
    subst hk4
    exact leafl h hA ho rfl

end Go.Vc.W

/- Own text of this claim: W7. -/
set_option maxRecDepth 20000
namespace Go.Vc.W
open Go Go.Vc Go.Vc.V Go.RowKit Go.Proofs Vcw

theorem c102 {most : Int} {l : List Int} {a : Option Addr} {n c : Nat} (w : World) (hm : I64 most) (hs : SlE w 1 one l a n c) (hI : ∀ x ∈ l, I64 x) : Ret Try.prog 102 #[.int .i64 most, .slice a n c] w (pairV (qsum most l)) := by
  intro R h
  refine f102_calls most a n c w R ?_
  unfold f102_vc
  have hA := At.refl w
  have hlen := hs.len_le
  have hn := hlen.1
  subst hn
  refine ⟨fun s W => At w [] W ∧ ∃ k : Nat, s.2.1 = k ∧ k ≤ l.length ∧ ((most < 0 ∧ s.1 = most) ∨ (0 ≤ most ∧ 0 ≤ s.1 ∧ s.1 ≤ most ∧ qgo most (most - s.1) (l.drop k) = qgo most 0 l)), fun s _ => l.length - s.2.1.toNat, ⟨hA, 0, rfl, Nat.zero_le _, ?_⟩, ?_⟩
  · rcases Int.lt_or_le most 0 with h | h
    · exact .inl ⟨h, rfl⟩
    · exact .inr ⟨h, h, Int.le_refl _, by simp⟩
  intro s i W ⟨hA, k, hik, hk, hb⟩
  simp only at hik hb
  subst hik
  refine brD (fun hlt => ?_) (fun hge => ?_)
  · obtain ⟨x, hx⟩ : ∃ x, l[k]? = some x := ⟨_, List.getElem?_eq_getElem (by omega)⟩
    have hIx := hI x (List.mem_of_getElem? hx)
    obtain ⟨ad, g1, r1⟩ := rd_one (te := 2) (ds := []) (k := .i64) (t := 43) (P := Try.prog) (e := 2) (hs.call hA.below) hx rfl (by kernel_rfl) (by kernel_rfl) (by kernel_rfl) (fun _ h => by cases h)
    refine ⟨_, g1, _, r1, ?_⟩
    rcases hb with ⟨hneg, rfl⟩ | ⟨h0, h1, h2, hg⟩
    · rw [qsum, if_pos hneg] at h
      refine brD (fun _ => leaf h hA rfl) (fun _ => brD (fun _ => leaf h hA rfl) (fun hh => absurd hneg hh))
    · rw [qsum, if_neg (by omega)] at h
      rw [drop_cons hx, qgo] at hg
      refine brD (fun h1 => ?_) (fun h1 => ?_)
      · rw [if_pos (.inl h1)] at hg
        exact leaf h hA (by rw [← hg])
      · refine brD (fun h2 => by omega) (fun h2 => ⟨_, g1, _, r1, brD (fun h3 => ?_) (fun h3 => ⟨_, g1, _, r1, ?_⟩)⟩)
        · rw [if_pos (.inr (by omega))] at hg
          exact leaf h hA (by rw [← hg])
        · rw [if_neg (by omega)] at hg
          rw [wrap_i64 (x := (k : Int) + 1) (by omega) (by omega), wrap_i64 (x := s - x) (by omega) (by omega)]
          refine ⟨⟨hA, k + 1, rfl, by omega, .inr ⟨h0, ?_, ?_, ?_⟩⟩, by simp only; omega⟩
          · show 0 ≤ s - x
            omega
          · show s - x ≤ most
            omega
          · rw [← hg]
            show qgo most (most - (s - x)) _ = _
            rw [show most - (s - x) = most - s + x by omega]
  · have hke : k = l.length := by omega
    subst hke
    rcases hb with ⟨hneg, rfl⟩ | ⟨h0, h1, h2, hg⟩
    · rw [qsum, if_pos hneg] at h
      exact brD (fun _ => leaf h hA rfl) (fun hh => absurd hneg hh)
    · rw [qsum, if_neg (by omega)] at h
      rw [List.drop_length, qgo] at hg
      refine brD (fun _ => by omega) (fun _ => leaf h hA ?_)
      rw [← hg, wrap_i64 (by omega) (by omega)]

end Go.Vc.W

/- Own text of this claim: W8. -/
set_option maxRecDepth 20000
namespace Go.Vc.W
open Go Go.Vc Go.Vc.V Go.RowKit Go.Proofs Vcw

theorem c44 (k r : Int) (w : World) : Ret Try.prog 44 #[slotV k r] w (.bool (decide (slotR k r))) := by
  intro R h
  refine f44_calls k r w R ?_
  unfold f44_vc
  have hA := At.refl w
  refine go_n hA fun n1 h_n1 => ?_
  refine brD (fun h1 => brD (fun h2 => brD (fun h3 => ?_) (fun h3 => ?_)) (fun h2 => ?_)) (fun h1 => ?_)
  all_goals refine go_below hA fun _ hA => leaf h hA ?_
  · rw [show decide (slotR k r) = decide (r ≤ 32) from decide_eq_decide.2 ⟨fun hh => hh.2.2.2, fun hh => ⟨h1, by omega, h3, hh⟩⟩]
  · rw [decide_eq_false (show ¬ slotR k r from fun hh => h3 hh.2.2.1)]
  · rw [decide_eq_false (show ¬ slotR k r from fun hh => h2 (by have := hh.2.1; omega))]
  · rw [decide_eq_false (show ¬ slotR k r from fun hh => h1 hh.1)]

theorem c46 (a b c d : Int) (w : World) : Ret Try.prog 46 #[slotV a b, slotV c d] w (.int .i64 (slotC a b c d)) := by
  intro R h
  refine f46_calls a b c d w R ?_
  unfold f46_vc
  have hA := At.refl w
  refine go_n hA fun n1 h_n1 => ?_
  refine go_n hA fun n2 h_n2 => ?_
  have fin : ∀ {x : Int}, slotC a b c d = x → ∀ W, At w [n1, n2] W → R (.returned (.int .i64 x)) W := fun hx W hA => leaf h hA (by rw [hx])
  refine brD (fun h1 => go_below hA fun _ hA => fin (by rw [slotC, if_neg (by omega), if_pos (.inl h1)]) _ hA) (fun h1 => brE (fun h2 => brD (fun h3 => go_below hA fun _ hA => fin (by rw [slotC, if_neg (by omega), if_pos (.inr ⟨h2, h3⟩)]) _ hA) (fun h3 => ?_)) (fun h2 => ?_))
  · refine brE (fun _ => brE (fun h4 => go_below hA fun _ hA => fin (by rw [slotC, if_pos ⟨h2, h4⟩]) _ hA) (fun h4 => go_below hA fun _ hA => fin (by rw [slotC, if_neg (fun hh => h4 hh.2), if_neg (by omega)]) _ hA)) (fun hn => absurd h2 hn)
  · refine brE (fun he => absurd he h2) (fun _ => go_below hA fun _ hA => fin (by rw [slotC, if_neg (fun hh => h2 hh.1), if_neg (by omega)]) _ hA)

end Go.Vc.W

/- The reference's Right, Get, with, Only, Holds, Least, Sub. -/
set_option maxRecDepth 20000
set_option maxHeartbeats 1000000
namespace Go.Vc.W
open Go Go.Vc Go.Vc.V Go.RowKit Go.Proofs Vcw

variable {w W W' : World} {M : Nat → Prop} {gs : List Nat}

theorem c45 (a b c : Int) (w : World) : Ret Try.prog 45 #[.agg #[.int .i64 a, .int .i64 b, .int .i64 c]] w (slotV a b) := by
  intro R h
  refine f45_calls a b c w R ?_
  unfold f45_vc
  intro n1 h1 n2 h2 w' hev _
  exact h _ (Chg.below ((Chg.of_evo hev).mono fun b hb hm => by simp at hm; omega))

theorem c14 {l : List PartT} {a : Option Addr} {n c : Nat} (w : World) (hs : SlE w 3 partE l a n c) : Ret Try.prog 14 #[.slice a n c] w (.bool (vecB l)) := by
  intro R h
  refine f14_calls a n c w R ?_
  unfold f14_vc
  have hn := hs.1
  have hlen := hs.len_le.2
  refine ⟨fun s W => At w [] W ∧ ∃ k : Nat, s.1 = k ∧ k ≤ l.length ∧ vok (if k = 0 then none else l[k - 1]?) (l.drop k) = vecB l, fun s _ => (n - s.1).toNat, ⟨At.refl w, 0, rfl, Nat.zero_le _, rfl⟩, ?_⟩
  rintro x3 w4 ⟨hA, k, hi, hk, hv⟩
  simp only at hi
  subst hi
  refine brD (fun hlt => ?_) (fun hge => leaf h hA ?_)
  · obtain ⟨p, hp⟩ : ∃ x, l[k]? = some x := ⟨_, List.getElem?_eq_getElem (by omega)⟩
    obtain ⟨ad, g1, el, _⟩ := elt_at (P := Try.prog) (k := .i64) (t := 33) (hs.call hA.below) hp (e := 66) (by kernel_rfl) (by kernel_rfl)
    rw [vok_step hp] at hv
    rw [succ_i k (by omega)]
    refine ⟨ad, g1, _, _, _, el.agg 3 (by kernel_rfl) (by kernel_rfl) (by simp) (by simp), ?_⟩
    intro w9 hb9
    refine at_callb (hA.call hb9) (c45 _ _ _ w9) fun w11 hA _ hb11 => ⟨_, _, rfl, ?_⟩
    refine at_callb hA (c44 _ _ w11) fun w15 hA _ hb15 => ⟨_, rfl, brND (fun h1 => leaf h hA ?_) (fun h1 => ?_)⟩
    · rw [← hv, decide_eq_false (show ¬ partR p from fun hh => h1 hh.1)]
      rfl
    have el := el.below ((hb9.trans hb11).trans hb15)
    have ra : ∀ {W'}, Bel w15 W' → Reads Try.prog [] (Instr.loadAt 2 (.pointer (some ⟨ad.block, ad.off + 2, none⟩))) W' (.int .i64 p.2.2) := fun hb => ((el.below hb).sub (o := 2) (by decide)).one (by kernel_rfl) (by simp)
    have b0 := (At.refl w15).below
    refine ⟨ad, g1, _, ra b0, brD (fun h2 => leaf h hA ?_) (fun h2 => ⟨ad, g1, _, ra b0, brD (fun h3 => leaf h hA ?_) (fun h3 => ?_)⟩)⟩
    · rw [← hv, decide_eq_false (show ¬ partR p from fun hh => by have := hh.2.1; omega)]
      rfl
    · rw [← hv, decide_eq_false (show ¬ partR p from fun hh => by have := hh.2.2; omega)]
      rfl
    have hR : partR p := ⟨h1, by omega, by omega⟩
    rw [decide_eq_true hR, Bool.true_and] at hv
    refine brD (fun h4 => ?_) (fun h4 => ?_)
    · obtain ⟨q, hq⟩ : ∃ x, l[k - 1]? = some x := ⟨_, List.getElem?_eq_getElem (by omega)⟩
      obtain ⟨ad2, g2, el2, _⟩ := elt_at (P := Try.prog) (k := .i64) (t := 33) (hs.call hA.below) hq (e := 66) (by kernel_rfl) (by kernel_rfl)
      have e2 : IntKind.i64.wrap ((k : Int) - 1) = ((k - 1 : Nat) : Int) := by rw [wrap_i64 (by omega) (by omega)]; omega
      rw [e2]
      have rp : ∀ {W'}, Bel w15 W' → Reads Try.prog [] (Instr.loadAt 66 (.pointer (some ad))) W' (.agg ((partE p).take 3).toArray) := fun hb => (el.below hb).agg 3 (by kernel_rfl) (by kernel_rfl) (by simp) (by simp)
      refine ⟨ad2, g2, _, _, _, el2.agg 3 (by kernel_rfl) (by kernel_rfl) (by simp) (by simp), ad, g1, _, _, _, rp b0, ?_⟩
      refine at_callb hA (c45 _ _ _ w15) fun w30 hA _ hb30 => ⟨_, _, rfl, rp hb30, ra hb30, ra hb30, ?_⟩
      refine at_callb hA (c45 _ _ _ w30) fun w34 hA _ hb34 => ⟨_, _, rfl, ra (hb30.trans hb34), ra (hb30.trans hb34), ?_⟩
      refine at_callb hA (c46 _ _ _ _ w34) fun w38 hA _ hb38 => ⟨_, rfl, ra ((hb30.trans hb34).trans hb38), ra ((hb30.trans hb34).trans hb38), ?_⟩
      rw [if_neg (show ¬ k = 0 by omega), hq] at hv
      refine brD (fun h5 => leaf h hA ?_) (fun h5 => ?_)
      · rw [slotC_ge] at h5
        rw [← hv]
        simp [okB, h5]
      · rw [slotC_ge] at h5
        refine ⟨⟨hA, k + 1, rfl, by omega, ?_⟩, by simp only; omega⟩
        rw [if_neg (by omega), show k + 1 - 1 = k by omega, hp, ← hv]
        simp only [Classical.not_not] at h5
        simp [okB, h5]
    · rw [if_pos (show k = 0 by omega)] at hv
      refine ⟨⟨hA, k + 1, rfl, by omega, ?_⟩, by simp only; omega⟩
      rw [if_neg (by omega), show k + 1 - 1 = k by omega, hp, ← hv]
      simp [okB]
  · rw [show k = l.length by omega, List.drop_length, vok_nil] at hv
    rw [← hv]

theorem c73 {l : List PartT} {a : Option Addr} {n c : Nat} (k r : Int) (w : World) (hs : SlE w 3 partE l a n c) : Ret Try.prog 73 #[.slice a n c, slotV k r] w (.int .i64 (amt (k, r) l)) := by
  intro R h
  refine f73_calls a n c k r w R ?_
  unfold f73_vc
  have hn := hs.1
  have hmx := hs.len_le
  intro n1 hn1
  refine ⟨fun v W' => At w [n1] W' ∧ ∃ i : Nat, v.1 = i ∧ i ≤ l.length ∧ amt (k, r) (l.drop i) = amt (k, r) l, fun v _ => (n - v.1).toNat, ⟨fun w4 hb hu => ⟨⟨((At.refl w).call hb).chg, hu⟩, 0, rfl, Nat.zero_le _, rfl⟩, ?_⟩⟩
  rintro x5 w6 ⟨hA, i, hi, hil, hd⟩
  simp only at hi
  subst hi
  refine brD (fun hlt => ?_) (fun hge => leaf h hA ?_)
  · obtain ⟨p, hp⟩ : ∃ x, l[i]? = some x := ⟨_, List.getElem?_eq_getElem (by omega)⟩
    obtain ⟨ad, g1, el, _⟩ := elt_at (P := Try.prog) (k := .i64) (t := 33) (hs.call hA.below) hp (e := 66) (by kernel_rfl) (by kernel_rfl)
    rw [drop_cons hp, amt] at hd
    refine ⟨ad, g1, _, _, _, el.agg 3 (by kernel_rfl) (by kernel_rfl) (by simp) (by simp), ?_⟩
    intro w11 hb11 hun
    refine at_callb (gs := [n1]) ⟨(hA.call hb11).chg, hun⟩ (c45 _ _ _ w11) fun w13 hA hk hb13 => ⟨_, _, rfl, hk, ?_⟩
    have hcond : (p.1 == k && (p.2.1 == r && true)) = decide (slotOf p = (k, r)) := by
      rw [Bool.eq_iff_iff]
      simp [slotOf]
    rw [hcond]
    refine brD (fun he => ⟨ad, g1, _, ((el.below (hb11.trans hb13)).sub (o := 2) (by decide)).one (by kernel_rfl) (by simp), leaf h hA ?_⟩) (fun hne => ?_)
    · rw [if_pos he] at hd
      rw [hd]
    · rw [if_neg hne] at hd
      rw [succ_i i (by omega)]
      exact ⟨⟨hA, i + 1, rfl, by omega, hd⟩, by simp only; omega⟩
  · rw [show i = l.length by omega, List.drop_length, amt] at hd
    rw [← hd]

def withL (k r x : Int) : List PartT := if x = 0 then [] else [(k, r, x)]
theorem at_with {gs : List Nat} {l : List PartT} {a : Option Addr} {n c : Nat} {K : Ending → World → Prop} (hA : At w gs W) (ho : OwnL w gs W 66 3 partE (.slice a n c) l) (k r x : Int) (hl : l.length ≤ 1000000) (hK : ∀ a' n' c' w', At w gs w' → Keeps gs W w' → OwnL w gs w' 66 3 partE (.slice a' n' c') (l ++ withL k r x) → W.grownBy w' (Value.slice a n c).ownBlock → K (.returned (.slice a' n' c')) w') : Calls Try.prog 103 #[.slice a n c, slotV k r, .int .i64 x] W K := by
  refine f103_calls a n c k r x W K ?_
  unfold f103_vc
  intro n1 hn1
  refine brE (fun h0 => ?_) (fun h0 => ?_)
  · intro w2 hb hun
    refine hK _ _ _ _ (hA.call hb) (fun g hg => hb.block (hA.under g hg)) ?_ (grown_below hb _)
    rw [withL, if_pos h0, List.append_nil]
    exact ho.call hb
  · intro w3 hb hun
    have hA3 : AtF W (fun b => (Value.slice a n c).ownBlock = some b) [n1] w3 := ⟨Chg.of_below hb, hun⟩
    have ho3 : OwnF W (fun b => (Value.slice a n c).ownBlock = some b) [n1] w3 66 3 partE (.slice a n c) l := (ho.call hb).base (fun k hk => .inr hk) (fun g hg e => by
      simp at hg
      have := ho.lt g e
      omega)
    refine opw_push (f := partE) (e' := 66) (bytes := 24) hA3 ho3 (k, r, x) (by kernel_rfl) (by kernel_rfl) rfl (fun _ _ => rfl) (part_one _) (by omega) (by omega) fun a2 c2 w10 hA10 ho10 hg _ => ?_
    have hmine : ∀ b, (Value.slice a2 (l ++ [(k, r, x)]).length c2).ownBlock = some b → W.heap.size ≤ b ∨ (Value.slice a n c).ownBlock = some b := ho10.mine
    refine hK _ _ _ w10 (hA.step hA10.chg fun b _ hM => ho.mine b hM) (fun g hg => hA10.chg.block g (hA.under g hg) fun e => ho.apart g hg e) ?_ (grown_trans_below hb hg)
    rw [withL, if_neg h0]
    refine ho10.base (fun b hb => ?_) (fun g hg e => ?_)
    · rcases hmine b hb with h | h
      · exact .inl (Nat.le_trans hA.size h)
      · exact ho.mine b h
    · rcases hmine g e with h | h
      · have := hA.under g hg
        omega
      · exact ho.apart g hg h
end Go.Vc.W

/- The reference's Only, Holds, Least, Sub. -/
set_option maxRecDepth 20000
set_option maxHeartbeats 1000000
namespace Go.Vc.W
open Go Go.Vc Go.Vc.V Go.RowKit Go.Proofs Vcw

variable {w W W' : World} {M : Nat → Prop} {gs : List Nat}

def only2 (l : List PartT) (r q : Int) : List PartT := if vecB l = true then l.filter fun p => decide (p.2.1 = r ∨ p.2.1 = q) else []
theorem c39 {l : List PartT} {a : Option Addr} {n c : Nat} (r q : Int) (w : World) (hs : SlE w 3 partE l a n c) : RetL Try.prog 39 #[.slice a n c, .int .i64 r, .int .i64 q] w 66 3 partE (only2 l r q) := by
  intro R h
  refine f39_calls a n c r q w R ?_
  unfold f39_vc
  have hn := hs.1
  refine at_callb (At.refl w) (c14 w hs) fun w2 hA _ hb2 => ⟨_, rfl, brNB (fun hno => ?_) (fun hv => ?_)⟩
  · exact leafl h hA OwnL.nil (by rw [only2, if_neg (by rw [hno]; decide)])
  have hlen := vec_len' hv
  refine ⟨fun v W' => At w [] W' ∧ ∃ i : Nat, v.2.1 = i ∧ i ≤ l.length ∧ OwnL w [] W' 66 3 partE (.slice v.1.1 v.1.2.1 v.1.2.2) ((l.take i).filter fun p => decide (p.2.1 = r ∨ p.2.1 = q)), fun v _ => (n - v.2.1).toNat, ⟨hA, 0, rfl, Nat.zero_le _, OwnL.nil⟩, ?_⟩
  rintro a6 n7 n8 x9 w10 ⟨hA, i, hi, hil, ho⟩
  simp only at hi ho
  subst hi
  refine brD (fun hlt => ?_) (fun hge => ?_)
  · obtain ⟨p, hp⟩ : ∃ x, l[i]? = some x := ⟨_, List.getElem?_eq_getElem (by omega)⟩
    obtain ⟨ad, g1, el, _⟩ := elt_at (P := Try.prog) (k := .i64) (t := 33) (hs.call hA.below) hp (e := 66) (by kernel_rfl) (by kernel_rfl)
    have htk : ((l.take (i + 1)).filter fun p : PartT => decide (p.2.1 = r ∨ p.2.1 = q)) = ((l.take i).filter fun p => decide (p.2.1 = r ∨ p.2.1 = q)) ++ if p.2.1 = r ∨ p.2.1 = q then [p] else [] := by
      rw [List.take_add_one, hp, List.filter_append]
      congr 1
      by_cases hc : p.2.1 = r ∨ p.2.1 = q <;> simp [hc]
    have hle : ((l.take i).filter fun p : PartT => decide (p.2.1 = r ∨ p.2.1 = q)).length ≤ i := Nat.le_trans (List.length_filter_le ..) (by simp; omega)
    rw [succ_i i (by omega)]
    have r46 := el.agg (P := Try.prog) (ds := []) (te := 66) 3 (by kernel_rfl) (by kernel_rfl) (by simp) (by simp)
    have r3 := (el.sub (o := 1) (by decide)).one (P := Try.prog) (ds := []) (te := 3) (by kernel_rfl) (by simp)
    refine ⟨ad, g1, _, r3, brE (fun hr => ⟨ad, g1, _, _, _, r46, ?_⟩) (fun hr => ⟨ad, g1, _, r3, brE (fun hq => ⟨ad, g1, _, _, _, r46, ?_⟩) (fun hq => ?_)⟩)⟩
    · rw [if_pos (.inl hr)] at htk
      refine opw_push0 (f := partE) (e' := 66) (bytes := 24) hA ho p (by kernel_rfl) (by kernel_rfl) rfl (fun _ _ => rfl) (part_one _) (by omega) (by omega) fun a2 c2 w23 hA ho _ _ => ⟨⟨hA, i + 1, rfl, by omega, ?_⟩, by simp only; omega⟩
      simp only
      rw [htk]
      exact ho
    · rw [if_pos (.inr hq)] at htk
      refine opw_push0 (f := partE) (e' := 66) (bytes := 24) hA ho p (by kernel_rfl) (by kernel_rfl) rfl (fun _ _ => rfl) (part_one _) (by omega) (by omega) fun a2 c2 w23 hA ho _ _ => ⟨⟨hA, i + 1, rfl, by omega, ?_⟩, by simp only; omega⟩
      simp only
      rw [htk]
      exact ho
    · rw [if_neg (fun hh => hh.elim hr hq), List.append_nil] at htk
      refine ⟨⟨hA, i + 1, rfl, by omega, ?_⟩, by simp only; omega⟩
      simp only
      rw [htk]
      exact ho
  · rw [show i = l.length by omega, List.take_length] at ho
    exact leafl h hA ho (by rw [only2, if_pos hv])

theorem c43 {l1 l2 : List PartT} {aa ba : Option Addr} {an ac bn bc : Nat} (w : World) (h1 : SlE w 3 partE l1 aa an ac) (h2 : SlE w 3 partE l2 ba bn bc) : Ret Try.prog 43 #[.slice aa an ac, .slice ba bn bc] w (.bool (holdsB l1 l2)) := by
  intro R h
  refine f43_calls aa an ac ba bn bc w R ?_
  unfold f43_vc
  have hn := h2.1
  have hmx := h2.len_le
  refine ⟨fun v W' => At w [] W' ∧ ∃ i : Nat, v.1 = i ∧ i ≤ l2.length ∧ ∀ j p, j < i → l2[j]? = some p → p.2.2 ≤ amt (slotOf p) l1, fun v _ => (bn - v.1).toNat, ⟨At.refl w, 0, rfl, Nat.zero_le _, fun j p hj => by omega⟩, ?_⟩
  rintro x3 w4 ⟨hA, i, hi, hil, hall⟩
  simp only at hi
  subst hi
  refine brD (fun hlt => ?_) (fun hge => ?_)
  · obtain ⟨p, hp⟩ : ∃ x, l2[i]? = some x := ⟨_, List.getElem?_eq_getElem (by omega)⟩
    obtain ⟨ad, g1, el, _⟩ := elt_at (P := Try.prog) (k := .i64) (t := 33) (h2.call hA.below) hp (e := 66) (by kernel_rfl) (by kernel_rfl)
    rw [succ_i i (by omega)]
    have ra : ∀ {W'}, Bel w4 W' → Reads Try.prog [] (Instr.loadAt 2 (.pointer (some ⟨ad.block, ad.off + 2, none⟩))) W' (.int .i64 p.2.2) := fun hb => ((el.below hb).sub (o := 2) (by decide)).one (by kernel_rfl) (by simp)
    refine ⟨ad, g1, _, _, _, el.agg 3 (by kernel_rfl) (by kernel_rfl) (by simp) (by simp), ad, g1, _, ra (At.refl w4).below, ?_⟩
    intro w11 hb11
    refine at_callb (hA.call hb11) (c45 _ _ _ w11) fun w13 hA _ hb13 => ⟨_, _, rfl, ra (hb11.trans hb13), ?_⟩
    refine at_callb hA (c73 _ _ w13 (h1.call hA.below)) fun w17 hA _ hb17 => ⟨_, rfl, ra ((hb11.trans hb13).trans hb17), brD (fun hl => leaf h hA ?_) (fun hl => ⟨⟨hA, i + 1, rfl, by omega, fun j q hj hq => ?_⟩, by simp only; omega⟩)⟩
    · cases hh : holdsB l1 l2 with
      | false => rfl
      | true =>
        have hh := holds_iff.1 hh
        have := hh.2.2 (slotOf p)
        rw [amt_mem (vecB_iff.1 hh.2.1).2 (List.mem_of_getElem? hp)] at this
        have e : slotOf p = (p.1, p.2.1) := rfl
        rw [e] at this
        omega
    · by_cases hji : j = i
      · subst hji
        rw [hp] at hq
        cases hq
        have e : slotOf p = (p.1, p.2.1) := rfl
        rw [e]
        omega
      · exact hall j q (by omega) hq
  · have hie : i = l2.length := by omega
    subst hie
    refine at_callb hA (c14 w4 (h1.call hA.below)) fun w20 hA _ hb20 => ⟨_, rfl, brB (fun hv1 => ?_) (fun hv1 => leaf h hA ?_)⟩
    · refine at_callb hA (c14 w20 (h2.call hA.below)) fun w23 hA _ hb23 => ⟨_, rfl, leaf h hA ?_⟩
      refine congrArg (fun b => Ending.returned (.bool b)) ?_
      rw [Bool.eq_iff_iff, holds_iff]
      refine ⟨fun hv2 => ⟨hv1, hv2, fun s => ?_⟩, fun hh => hh.2.1⟩
      by_cases h0 : amt s l2 = 0
      · rw [h0]
        exact (amt_nonneg (vecB_iff.1 hv1).1).1
      · have hm := mem_amt h0
        obtain ⟨j, hj⟩ := List.mem_iff_getElem?.1 hm
        have := hall j _ (List.getElem?_eq_some_iff.1 hj).1 hj
        exact this
    · refine congrArg (fun b => Ending.returned (.bool b)) ?_
      cases hh : holdsB l1 l2 with
      | false => rfl
      | true =>
        rw [(holds_iff.1 hh).1] at hv1
        cases hv1

/-! ### Amounts turned -/
def map1 (f : Sl → Int → Int) (p : PartT) : Option PartT := if f (slotOf p) p.2.2 = 0 then none else some (p.1, p.2.1, f (slotOf p) p.2.2)
theorem map1_toList (f : Sl → Int → Int) (p : PartT) : (map1 f p).toList = withL p.1 p.2.1 (f (slotOf p) p.2.2) := by
  unfold map1 withL
  split <;> rfl
theorem map1_vec {f : Sl → Int → Int} {a : List PartT} (ha : vecB a = true) (hf : ∀ p ∈ a, 0 ≤ f (slotOf p) p.2.2 ∧ f (slotOf p) p.2.2 ≤ p.2.2) : vecB (a.filterMap (map1 f)) = true := by
  have wa := vecB_iff.1 ha
  have key : ∀ {p q : PartT}, map1 f p = some q → slotOf q = slotOf p ∧ q.2.2 = f (slotOf p) p.2.2 ∧ q.2.2 ≠ 0 := fun {p q} h => by
    unfold map1 at h
    split at h
    · cases h
    · cases h
      exact ⟨rfl, rfl, by assumption⟩
  rw [vecB_iff]
  refine ⟨fun q hq => ?_, ?_⟩
  · obtain ⟨p, hp, hl⟩ := List.mem_filterMap.1 hq
    obtain ⟨e1, e2, e3⟩ := key hl
    have hr := wa.1 p hp
    have hb := hf p hp
    have e4 : q.1 = p.1 ∧ q.2.1 = p.2.1 := by simpa [slotOf] using e1
    unfold partR at *
    rw [e4.1, e4.2]
    exact ⟨hr.1, by omega, by omega⟩
  · rw [List.pairwise_filterMap]
    refine wa.2.imp fun {p q} hlt x hx y hy => ?_
    have e1 := (key hx).1
    have e2 := (key hy).1
    simp only [slotOf, Prod.mk.injEq] at e1 e2
    unfold slt at *
    rw [e1.1, e1.2, e2.1, e2.2]
    exact hlt
theorem map1_amt {f : Sl → Int → Int} (s : Sl) : ∀ {a : List PartT}, (∀ p ∈ a, partR p) → a.Pairwise slt → amt s (a.filterMap (map1 f)) = if amt s a = 0 then 0 else f s (amt s a)
  | [], _, _ => rfl
  | p :: r, ha, hp => by
    have hpw := List.pairwise_cons.1 hp
    have ih := map1_amt (f := f) s (fun q hq => ha q (List.mem_cons_of_mem _ hq)) hpw.2
    have hpr := (ha p (by simp)).2
    by_cases he : slotOf p = s
    · have e0 : amt s (p :: r) = p.2.2 := by rw [amt, if_pos he]
      rw [e0, if_neg (by omega)]
      by_cases h0 : f (slotOf p) p.2.2 = 0
      · have hl : map1 f p = none := if_pos h0
        rw [List.filterMap_cons_none hl, ih, amt_none fun q hq e => slt_ne (hpw.1 q hq) (e.trans he.symm), if_pos rfl, ← he, h0]
      · have hl : map1 f p = some (p.1, p.2.1, f (slotOf p) p.2.2) := if_neg h0
        rw [List.filterMap_cons_some hl, amt, if_pos he, ← he]
    · have e0 : amt s (p :: r) = amt s r := by rw [amt, if_neg he]
      rw [e0]
      by_cases h0 : f (slotOf p) p.2.2 = 0
      · have hl : map1 f p = none := if_pos h0
        rw [List.filterMap_cons_none hl, ih]
      · have hl : map1 f p = some (p.1, p.2.1, f (slotOf p) p.2.2) := if_neg h0
        rw [List.filterMap_cons_some hl, amt, if_neg he, ih]
theorem filterMap_same {α β : Type} {f g : α → Option β} : ∀ {l : List α}, (∀ x ∈ l, f x = g x) → l.filterMap f = l.filterMap g
  | [], _ => rfl
  | x :: r, h => by
    have ih := filterMap_same (f := f) (g := g) fun y hy => h y (List.mem_cons_of_mem _ hy)
    have hx := h x (by simp)
    cases e : g x with
    | none => rw [List.filterMap_cons_none (hx.trans e), List.filterMap_cons_none e, ih]
    | some y => rw [List.filterMap_cons_some (hx.trans e), List.filterMap_cons_some e, ih]
theorem least_map {a b : List PartT} (ha : vecB a = true) (hb : vecB b = true) : a.filterMap (map1 fun s x => mn x (amt s b)) = a.filterMap (least1 b) := by
  refine filterMap_same fun p hp => ?_
  have h0 := (amt_nonneg (s := slotOf p) (vecB_iff.1 hb).1).1
  have hr := ((vecB_iff.1 ha).1 p hp).2
  have h1 : 0 ≤ mn p.2.2 (amt (slotOf p) b) := by unfold mn; split <;> omega
  unfold map1 least1
  by_cases h : mn p.2.2 (amt (slotOf p) b) = 0
  · rw [if_pos h, if_neg (by omega)]
  · rw [if_neg h, if_pos (by omega)]
theorem sub_map {a b c : List PartT} (h : holdsB a b = true) (hc : vsub a b = some c) : a.filterMap (map1 fun s x => x - amt s b) = c := by
  have h := holds_iff.1 h
  have hs := vsub_amt h.1 h.2.1 hc
  have wa := vecB_iff.1 h.1
  refine vec_ext (map1_vec h.1 fun p hp => ?_) hs.1 fun s => ?_
  · have := h.2.2 (slotOf p)
    rw [amt_mem wa.2 hp] at this
    have := (amt_nonneg (s := slotOf p) (vecB_iff.1 h.2.1).1).1
    omega
  · rw [map1_amt s wa.1 wa.2, hs.2.1]
    have := h.2.2 s
    have := (amt_nonneg (s := s) (vecB_iff.1 h.2.1).1).1
    split <;> omega

end Go.Vc.W

/- The reference's Of, Add, Move. -/
set_option maxRecDepth 20000
set_option maxHeartbeats 1000000
namespace Go.Vc.W
open Go Go.Vc Go.Vc.V Go.RowKit Go.Proofs Vcw

variable {w W W' : World} {M : Nat → Prop} {gs : List Nat}

theorem all_eq : allK 4 = V.allS := by decide +kernel
def own (s : Sl) (l : List PartT) : List Int := (l.filter fun p => decide (slotOf p = s)).map (·.2.2)
theorem own_sum (s : Sl) : ∀ l : List PartT, (own s l).sum = tot s l
  | [] => rfl
  | p :: l => by
    have ih := own_sum s l
    unfold own at *
    rw [tot]
    by_cases h : slotOf p = s
    · simp [h, ih]
    · simp [h, ih]
theorem sum_nn : ∀ {l : List Int}, (∀ x ∈ l, 0 ≤ x) → 0 ≤ l.sum
  | [], _ => Int.le_refl _
  | x :: l, h => by
    have := sum_nn fun y hy => h y (List.mem_cons_of_mem x hy)
    have := h x (by simp)
    simp only [List.sum_cons]
    omega
theorem qgo_sum (most : Int) : ∀ (l : List Int) (acc : Int), acc ≤ most → qgo most acc l = if (∀ x ∈ l, 0 ≤ x) ∧ acc + l.sum ≤ most then (acc + l.sum, true) else (0, false)
  | [], acc, h => by simp [qgo, h]
  | x :: l, acc, h => by
    rw [qgo]
    by_cases hx : x < 0 ∨ x > most - acc
    · rw [if_pos hx, if_neg]
      rintro ⟨h1, h2⟩
      have hx0 := h1 x (by simp)
      have := sum_nn fun y hy => h1 y (List.mem_cons_of_mem x hy)
      simp only [List.sum_cons] at h2
      omega
    · rw [if_neg hx, qgo_sum most l (acc + x) (by omega)]
      have e : (∀ y ∈ x :: l, 0 ≤ y) ↔ ∀ y ∈ l, 0 ≤ y := ⟨fun hh y hy => hh y (List.mem_cons_of_mem _ hy), fun hh y hy => by
        rcases List.mem_cons.1 hy with rfl | hy
        · omega
        · exact hh y hy⟩
      have e2 : acc + (x :: l).sum = acc + x + l.sum := by simp only [List.sum_cons]; omega
      rw [e2]
      simp only [e]
/-- Is there an amount of a slot? -/
def okS (s : Sl) (l : List PartT) : Prop := (∀ p ∈ l, slotOf p = s → 0 ≤ p.2.2) ∧ tot s l ≤ topQ
theorem sum_own (s : Sl) (l : List PartT) : qsum 9007199254740992 (own s l) = if (∀ x ∈ own s l, 0 ≤ x) ∧ tot s l ≤ topQ then (tot s l, true) else (0, false) := by
  unfold qsum
  rw [if_neg (by decide), qgo_sum _ _ _ (by decide), own_sum, Int.zero_add]
theorem own_nonneg {s : Sl} {l : List PartT} : (∀ x ∈ own s l, 0 ≤ x) ↔ ∀ p ∈ l, slotOf p = s → 0 ≤ p.2.2 := by
  unfold own
  constructor
  · intro h p hp hs
    exact h _ (List.mem_map.2 ⟨p, List.mem_filter.2 ⟨hp, decide_eq_true hs⟩, rfl⟩)
  · intro h x hx
    obtain ⟨p, hp, rfl⟩ := List.mem_map.1 hx
    obtain ⟨h1, h2⟩ := List.mem_filter.1 hp
    exact h p h1 (of_decide_eq_true h2)
theorem vof_no {l : List PartT} {s : Sl} (h : ¬ okS s l) : vof l = none := by
  unfold vof
  rw [if_neg]
  rintro ⟨h1, h2⟩
  exact h ⟨fun p hp _ => (h1 p hp).2, tot_le h2 s⟩
theorem vof_slot {l : List PartT} {p : PartT} (hp : p ∈ l) (h : ¬ slotR p.1 p.2.1) : vof l = none := by
  unfold vof
  rw [if_neg]
  rintro ⟨h1, _⟩
  exact h (h1 p hp).1
theorem vof_good {l : List PartT} (h1 : ∀ p ∈ l, slotR p.1 p.2.1) (h2 : ∀ s ∈ V.allS, okS s l) : vof l = some (canon l) := by
  have h2 : ∀ p ∈ l, okS (slotOf p) l := fun p hp => h2 _ (mem_allS.2 (h1 p hp))
  unfold vof
  rw [if_pos ⟨fun p hp => ⟨h1 p hp, (h2 p hp).1 p hp rfl⟩, fun p hp => (h2 p hp).2⟩]
def canS (l : List PartT) (s : Sl) : Option PartT := if 0 < tot s l then some (s.1, s.2, tot s l) else none
theorem canS_list {l : List PartT} {s : Sl} (h : 0 ≤ tot s l) : (canS l s).toList = withL s.1 s.2 (tot s l) := by
  unfold canS withL
  by_cases h0 : tot s l = 0
  · rw [if_neg (by omega), if_pos h0]
    rfl
  · rw [if_pos (by omega), if_neg h0]
    rfl
theorem totS_nonneg {s : Sl} : ∀ {l : List PartT}, (∀ p ∈ l, slotOf p = s → 0 ≤ p.2.2) → 0 ≤ tot s l
  | [], _ => Int.le_refl _
  | p :: l, h => by
    have := totS_nonneg (s := s) fun q hq => h q (List.mem_cons_of_mem _ hq)
    have hp := h p (by simp)
    rw [tot]
    split
    · have := hp (by assumption)
      omega
    · omega

theorem c93 {l : List PartT} {a : Option Addr} {n c : Nat} (w : World) (hs : SlE w 3 partE l a n c) (hl : l.length ≤ 1000000) (hI : ∀ p ∈ l, I64 p.2.2) : RetLB Try.prog 93 #[.slice a n c] w 66 3 partE (vout (vof l)) (vof l).isSome := by
  intro R h
  refine f93_calls a n c w R ?_
  unfold f93_vc
  have hn := hs.1
  refine ⟨fun v W' => At w [] W' ∧ ∃ i : Nat, v.1 = i ∧ i ≤ l.length ∧ ∀ p ∈ l.take i, slotR p.1 p.2.1, fun v _ => (n - v.1).toNat, ⟨At.refl w, 0, rfl, Nat.zero_le _, fun p hp => by simp at hp⟩, ?_⟩
  rintro x3 w4 ⟨hA, i, hi, hil, hall⟩
  simp only at hi
  subst hi
  refine brD (fun hlt => ?_) (fun hge => ?_)
  · obtain ⟨p, hp⟩ : ∃ x, l[i]? = some x := ⟨_, List.getElem?_eq_getElem (by omega)⟩
    obtain ⟨ad, g1, el, _⟩ := elt_at (P := Try.prog) (k := .i64) (t := 33) (hs.call hA.below) hp (e := 66) (by kernel_rfl) (by kernel_rfl)
    rw [succ_i i (by omega)]
    refine ⟨ad, g1, _, _, _, el.agg 3 (by kernel_rfl) (by kernel_rfl) (by simp) (by simp), ?_⟩
    refine at_callb hA (c45 _ _ _ w4) fun w10 hA _ hb10 => ⟨_, _, rfl, ?_⟩
    refine at_callb hA (c44 _ _ w10) fun w14 hA _ hb14 => ⟨_, rfl, brND (fun hno => ?_) (fun hyes => ⟨⟨hA, i + 1, rfl, by omega, fun q hq => ?_⟩, by simp only; omega⟩)⟩
    · have e := vof_slot (List.mem_of_getElem? hp) hno
      exact leaflb h hA OwnL.nil (by rw [e]; rfl) (by rw [e]; rfl)
    · rw [List.take_add_one, hp] at hq
      rcases List.mem_append.1 hq with hq | hq
      · exact hall q hq
      · simp at hq
        subst hq
        exact hyes
  rw [show i = l.length by omega, List.take_length] at hall
  refine at_calll hA (c101 w4) (fun _ _ => rfl) fun a18 d20 w17 hA17 _ hb17 _ s18 => ⟨_, _, _, rfl, ?_⟩
  rw [all_eq] at s18 ⊢
  have hal : V.allS.length = 132 := by decide +kernel
  have hs17 := (hs.call hA.below).call hb17
  have fin : ∀ {W' : World} {v : Value} {l' : List PartT} {ok : Bool}, At w17 [] W' → OwnL w17 [] W' 66 3 partE v l' → vout (vof l) = l' → (vof l).isSome = ok → R (.returned (.tuple #[v, .bool ok])) W' := fun {W' v l' ok} hA' ho e1 e2 => by
    subst e1 e2
    exact h _ _ (hA17.below.trans hA'.below) ⟨_, rfl, ownsRow_raise ho.row fun k hk => Nat.le_trans hA17.size ((ho.mine k hk).resolve_right id)⟩
  refine ⟨fun v W' => At w17 [] W' ∧ ∃ k : Nat, v.2.1 = k ∧ k ≤ 132 ∧ OwnL w17 [] W' 66 3 partE (.slice v.1.1 v.1.2.1 v.1.2.2) ((V.allS.take k).filterMap (canS l)) ∧ ∀ s ∈ V.allS.take k, okS s l, fun v _ => (132 - v.2.1).toNat, ⟨At.refl w17, 0, rfl, Nat.zero_le _, OwnL.nil, fun s hs => by simp at hs⟩, ?_⟩
  rintro a23 n24 n25 x26 w27 ⟨hA27, k, hk, hk132, ho, hok⟩
  simp only at hk ho
  subst hk
  refine brD (fun hlt2 => ?_) (fun hge2 => ?_)
  · obtain ⟨s, hsk⟩ : ∃ x, V.allS[k]? = some x := ⟨_, List.getElem?_eq_getElem (by omega)⟩
    have hrd : ∀ {W' : World}, Bel w17 W' → ∃ ad, Gives Try.prog (Instr.indexAt 118 (.slice a18 V.allS.length d20) (.int .i64 (k : Int))) (.pointer (some ad)) ∧ ∀ {W'' : World}, Bel W' W'' → Reads Try.prog [] (Instr.loadAt 74 (.pointer (some ad))) W'' (slotV s.1 s.2) := fun {W'} hb => by
      obtain ⟨ad, g1, el, _⟩ := elt_at (P := Try.prog) (k := .i64) (t := 118) (s18.call hb) hsk (e := 74) (by kernel_rfl) (by kernel_rfl)
      exact ⟨ad, g1, fun hb2 => (el.below hb2).agg 2 (by kernel_rfl) (by kernel_rfl) (by simp) (by simp)⟩
    refine ⟨fun v W' => At w27 [] W' ∧ ∃ j : Nat, v.2.1 = j ∧ j ≤ l.length ∧ OwnL w27 [] W' 2 1 one (.slice v.1.1 v.1.2.1 v.1.2.2) (own s (l.take j)), fun v _ => (n - v.2.1).toNat, ⟨At.refl w27, 0, rfl, Nat.zero_le _, OwnL.nil⟩, ?_⟩
    rintro a30 n31 n32 x33 w34 ⟨hA34, j, hj, hjl, hoj⟩
    simp only at hj hoj
    subst hj
    have b34 := hA27.below.trans hA34.below
    refine brD (fun hlt3 => ?_) (fun hge3 => ?_)
    · obtain ⟨p, hp⟩ : ∃ x, l[j]? = some x := ⟨_, List.getElem?_eq_getElem (by omega)⟩
      obtain ⟨ad, g1, el, _⟩ := elt_at (P := Try.prog) (k := .i64) (t := 33) (hs17.call b34) hp (e := 66) (by kernel_rfl) (by kernel_rfl)
      obtain ⟨ad2, g2, r2⟩ := hrd b34
      have htk : own s (l.take (j + 1)) = own s (l.take j) ++ if slotOf p = s then [p.2.2] else [] := by
        unfold own
        rw [List.take_add_one, hp, List.filter_append, List.map_append]
        congr 1
        by_cases hc : slotOf p = s <;> simp [hc]
      have hle : (own s (l.take j)).length ≤ j := by
        unfold own
        rw [List.length_map]
        exact Nat.le_trans (List.length_filter_le ..) (by simp; omega)
      rw [succ_i j (by omega)]
      refine ⟨ad, g1, _, _, _, el.agg 3 (by kernel_rfl) (by kernel_rfl) (by simp) (by simp), ad2, g2, _, _, r2 (At.refl w34).below, ?_⟩
      intro w42 hb42
      refine at_callb (hA34.call hb42) (c45 _ _ _ w42) fun w44 hA44 _ hb44 => ⟨_, _, rfl, r2 (hb42.trans hb44), ?_⟩
      have hcond : (p.1 == s.1 && (p.2.1 == s.2 && true)) = decide (slotOf p = s) := by
        rw [Bool.eq_iff_iff]
        obtain ⟨s1, s2⟩ := s
        simp [slotOf]
      rw [hcond]
      have hoj := hoj.call (hb42.trans hb44)
      refine brD (fun he => ?_) (fun hne => ?_)
      · rw [if_pos he] at htk
        refine ⟨ad, g1, _, ((el.below (hb42.trans hb44)).sub (o := 2) (by decide)).one (by kernel_rfl) (by simp), ?_⟩
        refine opw_push0 (f := one) (e' := 2) (bytes := 8) hA44 hoj p.2.2 (by kernel_rfl) (by kernel_rfl) rfl (fun _ _ => rfl) (fun u hu => by simp at hu; subst hu; rfl) (by omega) (by omega) fun a2 c2 w55 hA ho _ _ => ⟨⟨hA, j + 1, rfl, by omega, ?_⟩, by simp only; omega⟩
        simp only
        rw [htk]
        exact ho
      · rw [if_neg hne, List.append_nil] at htk
        refine ⟨⟨hA44, j + 1, rfl, by omega, ?_⟩, by simp only; omega⟩
        simp only
        rw [htk]
        exact hoj
    · rw [show j = l.length by omega, List.take_length] at hoj
      have hn31 := hoj.len
      subst hn31
      have hIo : ∀ x ∈ own s l, I64 x := fun x hx => by
        unfold own at hx
        obtain ⟨p, hp, rfl⟩ := List.mem_map.1 hx
        exact hI p (List.mem_filter.1 hp).1
      refine at_callb hA34 (c102 (most := 9007199254740992) w34 (by unfold I64; omega) (hoj.sl fun _ _ => rfl) hIo) fun w60 hA60 _ hb60 => ⟨_, _, rfl, ?_⟩
      have hA60' : At w17 [] w60 := hA27.call (hA34.below.trans hb60)
      rw [sum_own]
      by_cases hgood : (∀ x ∈ own s l, 0 ≤ x) ∧ tot s l ≤ topQ
      · rw [if_pos hgood]
        have hos : okS s l := ⟨own_nonneg.1 hgood.1, hgood.2⟩
        obtain ⟨ad2, g2, r2⟩ := hrd hA60'.below
        refine brNB (fun e => by cases e) (fun _ => ⟨ad2, g2, _, _, r2 (At.refl w60).below, ?_⟩)
        have htk : (V.allS.take (k + 1)).filterMap (canS l) = (V.allS.take k).filterMap (canS l) ++ withL s.1 s.2 (tot s l) := by
          rw [List.take_add_one, hsk, List.filterMap_append]
          congr 1
          rw [← canS_list (totS_nonneg hos.1)]
          unfold canS
          split <;> simp [*]
        have hle : ((V.allS.take k).filterMap (canS l)).length ≤ k := Nat.le_trans (List.length_filterMap_le ..) (by simp; omega)
        refine at_with hA60' (ho.call (hA34.below.trans hb60)) s.1 s.2 (tot s l) (by omega) fun a' n' c' w67 hA67 _ ho67 _ => ⟨_, _, _, rfl, ?_⟩
        rw [succ_i k (by omega)]
        refine ⟨⟨hA67, k + 1, rfl, by omega, ?_, fun t ht => ?_⟩, by simp only; omega⟩
        · simp only
          rw [htk]
          exact ho67
        · rw [List.take_add_one, hsk] at ht
          rcases List.mem_append.1 ht with ht | ht
          · exact hok t ht
          · simp at ht
            subst ht
            exact hos
      · rw [if_neg hgood]
        have hbad : ¬ okS s l := fun hh => hgood ⟨own_nonneg.2 hh.1, hh.2⟩
        have e := vof_no hbad
        refine brNB (fun _ => fin hA60' OwnL.nil (by rw [e]; rfl) (by rw [e]; rfl)) (fun e => by cases e)
  · have hk' : k = 132 := by omega
    subst hk'
    rw [show (132 : Nat) = V.allS.length from hal.symm, List.take_length] at ho hok
    have e := vof_good hall hok
    exact fin hA27 ho (by rw [e]; rfl) (by rw [e]; rfl)

/-! ### Add, Move -/
theorem vof_append {a b : List PartT} (ha : vecB a = true) (hb : vecB b = true) : vof (a ++ b) = vadd a b := by
  have wa := vecB_iff.1 ha
  have wb := vecB_iff.1 hb
  have ht : ∀ s, tot s (a ++ b) = amt s a + amt s b := fun s => by rw [tot_append, amt_tot wa.2, amt_tot wb.2]
  have key : (vof (a ++ b)).isSome = true ↔ (vadd a b).isSome = true := by
    rw [vadd_iff ha hb]
    constructor
    · intro h s
      obtain ⟨c, hc⟩ := Option.isSome_iff_exists.1 h
      have hcc := vof_some hc
      rw [← ht, ← hcc.2.1 s]
      exact (amt_nonneg (vecB_iff.1 hcc.1).1).2
    · intro h
      unfold vof
      rw [if_pos]
      · rfl
      · refine ⟨fun p hp => ?_, fun p _ => by rw [ht]; exact h _⟩
        have hr : partR p := by
          rcases List.mem_append.1 hp with hp | hp
          · exact wa.1 p hp
          · exact wb.1 p hp
        exact ⟨hr.1, by have := hr.2; omega⟩
  cases hv : vadd a b with
  | none =>
    cases ho : vof (a ++ b) with
    | none => rfl
    | some c =>
      rw [ho, hv] at key
      simp at key
  | some c =>
    have hs : (vof (a ++ b)).isSome = true := key.2 (by rw [hv]; rfl)
    obtain ⟨d, hd⟩ := Option.isSome_iff_exists.1 hs
    have h1 := vof_some hd
    have h2 := vadd_amt ha hb hv
    rw [hd, vec_ext h1.1 h2.1 fun s => by rw [h1.2.1, h2.2.1, ht]]
theorem c70 {l1 l2 : List PartT} {aa ba : Option Addr} {an ac bn bc : Nat} (w : World) (h1 : SlE w 3 partE l1 aa an ac) (h2 : SlE w 3 partE l2 ba bn bc) : RetLB Try.prog 70 #[.slice aa an ac, .slice ba bn bc] w 66 3 partE (if vecB l1 = true ∧ vecB l2 = true then vout (vadd l1 l2) else []) (decide (vecB l1 = true ∧ vecB l2 = true) && (vadd l1 l2).isSome) := by
  intro R h
  refine f70_calls aa an ac ba bn bc w R ?_
  unfold f70_vc
  have no : ∀ {W' : World}, At w [] W' → ¬ (vecB l1 = true ∧ vecB l2 = true) → R (.returned (.tuple #[.slice none 0 0, .bool false])) W' := fun hA hn => leaflb h hA OwnL.nil (by rw [if_neg hn]) (by rw [decide_eq_false hn]; rfl)
  refine at_callb (At.refl w) (c14 w h1) fun w2 hA _ hb2 => ⟨_, rfl, brNB (fun hno => no hA fun hh => by rw [hno] at hh; cases hh.1) (fun hv1 => ?_)⟩
  refine at_callb hA (c14 w2 (h2.call hb2)) fun w5 hA _ hb5 => ⟨_, rfl, brNB (fun hno => no hA fun hh => by rw [hno] at hh; cases hh.2) (fun hv2 => ?_)⟩
  have hl1 := vec_len' hv1
  have hl2 := vec_len' hv2
  refine opw_litL (e' := 66) (f := partE) (size := 3) (l := []) hA rfl (fun _ _ => rfl) (by decide) (by kernel_rfl) fun g1 w8 _ hA _ hb8 ho => ⟨_, _, _, rfl, ?_⟩
  refine opw_appendS (bytes := 24) (by kernel_rfl) hA ho (h1.call hA.below) (fun _ _ => rfl) (fun x _ => part_one x) (by simp only [maxLen, List.length_nil]; omega) (by simp only [List.length_nil]; omega) fun v13 w13 hA _ _ ho => ?_
  obtain ⟨a14, d14, rfl, _⟩ := ho.slice fun _ _ => rfl
  refine ⟨_, _, _, rfl, ?_⟩
  refine opw_appendS (bytes := 24) (by kernel_rfl) hA ho (h2.call hA.below) (fun _ _ => rfl) (fun x _ => part_one x) (by simp only [maxLen, List.nil_append]; omega) (by simp only [List.nil_append]; omega) fun v18 w18 hA _ _ ho => ?_
  obtain ⟨a19, d19, rfl, s19⟩ := ho.slice fun _ _ => rfl
  refine ⟨_, _, _, rfl, ?_⟩
  rw [List.nil_append] at s19 ⊢
  refine at_calllb hA (c93 w18 s19 (by rw [List.length_append]; omega) (fun p hp => ?_)) (fun _ _ => rfl) fun a24 d24 w23 hA _ _ ho _ => ⟨_, _, _, _, rfl, ?_⟩
  · rcases List.mem_append.1 hp with hp | hp
    · exact part_I hv1 hp
    · exact part_I hv2 hp
  rw [vof_append hv1 hv2] at ho ⊢
  exact leaflb h hA ho (by rw [if_pos ⟨hv1, hv2⟩]) (by rw [decide_eq_true ⟨hv1, hv2⟩]; rfl)
end Go.Vc.W

/- Rule's parts that answer at all: numbers, filters, a configuration. -/
set_option maxRecDepth 20000
set_option maxHeartbeats 1000000
namespace Go.Vc.W
open Go Go.Vc Go.Vc.V Go.RowKit Go.Proofs Vcw

variable {w W W' : World} {M : Nat → Prop} {gs : List Nat}

/-- A contract that tells only that a bool comes back. -/
abbrev RetBool (fn : FuncId) (args : Array Value) (W : World) : Prop := RetQ Try.prog fn args W fun v _ => ∃ b, v = .bool b
theorem c66 (n lo hi : Int) (w : World) : Ret Try.prog 66 #[.int .i64 n, .int .i64 lo, .int .i64 hi] w (.bool (decide (lo ≤ n ∧ n ≤ hi))) := by
  intro R h
  refine f66_calls n lo hi w R ?_
  unfold f66_vc
  refine brD (fun h1 => leaf h (At.refl w) ?_) (fun h1 => leaf h (At.refl w) ?_)
  · rw [show decide (lo ≤ n ∧ n ≤ hi) = decide (n ≤ hi) from decide_eq_decide.2 ⟨fun hh => hh.2, fun hh => ⟨h1, hh⟩⟩]
  · rw [decide_eq_false fun hh => h1 hh.1]
theorem c67 (n : Int) (w : World) : Ret Try.prog 67 #[.int .i64 n] w (.bool (decide (1 ≤ n ∧ n ≤ 9007199254740992))) := by
  intro R h
  refine f67_calls n w R ?_
  unfold f67_vc
  refine brD (fun h1 => leaf h (At.refl w) ?_) (fun h1 => leaf h (At.refl w) ?_)
  · rw [show decide (1 ≤ n ∧ n ≤ 9007199254740992) = decide (n ≤ 9007199254740992) from decide_eq_decide.2 ⟨fun hh => hh.2, fun hh => ⟨h1, hh⟩⟩]
  · rw [decide_eq_false fun hh => h1 hh.1]
theorem c100 (a0 a1 a2 b0 b1 b2 : Int) (w : World) : RetQ Try.prog 100 #[.agg #[.int .i64 a0, .int .i64 a1, .int .i64 a2], .agg #[.int .i64 b0, .int .i64 b1, .int .i64 b2]] w fun v _ => ∃ n, v = .int .i64 n := by
  intro R h
  refine f100_calls a0 a1 a2 b0 b1 b2 w R ?_
  unfold f100_vc
  intro n1 _ n2 _
  have out : ∀ n : Int, ∀ w', Bel w w' → Under [n1, n2] w' → R (.returned (.int .i64 n)) w' := fun n w' hb _ => h _ _ hb ⟨n, rfl⟩
  refine ⟨fun _ => out _, fun _ => brD (fun _ => out _) (fun _ => brE (fun _ => brD (fun _ => out _) (fun _ => brE (fun _ => brD (fun _ => out _) (fun _ => out _)) (fun _ => out _))) (fun _ => out _))⟩
theorem c92 {l1 l2 : List PartT} {aa ba : Option Addr} {an ac bn bc : Nat} (w : World) (h1 : SlE w 3 partE l1 aa an ac) (h2 : SlE w 3 partE l2 ba bn bc) : RetQ Try.prog 92 #[.slice aa an ac, .slice ba bn bc] w fun v _ => ∃ n, v = .int .i64 n := by
  intro R h
  refine f92_calls aa an ac ba bn bc w R ?_
  unfold f92_vc
  have hn1 := h1.len_le
  have hn2 := h2.len_le
  have out : ∀ (n : Int) {w'}, At w [] w' → R (.returned (.int .i64 n)) w' := fun n w' hA => h _ _ hA.below ⟨n, rfl⟩
  refine ⟨fun v W' => At w [] W' ∧ ∃ i : Nat, v.1 = i ∧ i ≤ l1.length, fun v _ => (an - v.1).toNat, ⟨At.refl w, 0, rfl, Nat.zero_le _⟩, ?_⟩
  rintro x3 w4 ⟨hA, i, hi, hil⟩
  simp only at hi
  subst hi
  have tail : (decide ((an : Int) < (bn : Int)) = true → R (.returned (.int .i64 (-1))) w4) ∧ (decide ((an : Int) < (bn : Int)) = false → (decide ((an : Int) > (bn : Int)) = true → R (.returned (.int .i64 1)) w4) ∧ (decide ((an : Int) > (bn : Int)) = false → R (.returned (.int .i64 0)) w4)) := ⟨fun _ => out _ hA, fun _ => ⟨fun _ => out _ hA, fun _ => out _ hA⟩⟩
  refine brD (fun hlt => brD (fun hlt2 => ?_) (fun _ => tail)) (fun _ => tail)
  obtain ⟨p, hp⟩ : ∃ x, l1[i]? = some x := ⟨_, List.getElem?_eq_getElem (by omega)⟩
  obtain ⟨q, hq⟩ : ∃ x, l2[i]? = some x := ⟨_, List.getElem?_eq_getElem (by omega)⟩
  obtain ⟨ad, g1, el, _⟩ := elt_at (P := Try.prog) (k := .i64) (t := 33) h1 hp (e := 66) (by kernel_rfl) (by kernel_rfl)
  obtain ⟨ad2, g2, el2, _⟩ := elt_at (P := Try.prog) (k := .i64) (t := 33) h2 hq (e := 66) (by kernel_rfl) (by kernel_rfl)
  have rp : ∀ {W'}, Bel w W' → Reads Try.prog [] (Instr.loadAt 66 (.pointer (some ad))) W' (.agg ((partE p).take 3).toArray) := fun hb => (el.below hb).agg 3 (by kernel_rfl) (by kernel_rfl) (by simp) (by simp)
  have rq : ∀ {W'}, Bel w W' → Reads Try.prog [] (Instr.loadAt 66 (.pointer (some ad2))) W' (.agg ((partE q).take 3).toArray) := fun hb => (el2.below hb).agg 3 (by kernel_rfl) (by kernel_rfl) (by simp) (by simp)
  refine ⟨ad, g1, _, _, _, rp hA.below, ad2, g2, _, _, _, rq hA.below, ?_⟩
  intro w13 hb13
  refine at_callq (hA.call hb13) (c100 _ _ _ _ _ _ w13) fun v w15 hA _ hb15 ⟨n, e⟩ => ?_
  subst e
  refine ⟨_, rfl, brN (fun _ => ⟨ad, g1, _, _, _, rp hA.below, ad2, g2, _, _, _, rq hA.below, ?_⟩) (fun _ => ?_)⟩
  · intro w25 hb25
    refine at_callq (hA.call hb25) (c100 _ _ _ _ _ _ w25) fun v w27 hA _ _ ⟨n, e⟩ => ?_
    subst e
    exact ⟨_, rfl, out _ hA⟩
  · rw [succ_i i (by omega)]
    exact ⟨⟨hA, i + 1, rfl, by omega⟩, by simp only; omega⟩
theorem c69 {l1 l2 : List PartT} {aa ba : Option Addr} {an ac bn bc : Nat} (x0 x1 x2 y0 y1 y2 : Int) (w : World) (h1 : SlE w 3 partE l1 aa an ac) (h2 : SlE w 3 partE l2 ba bn bc) : RetBool 69 #[.agg #[.int .i64 x0, .int .i64 x1, .int .i64 x2, .slice aa an ac], .agg #[.int .i64 y0, .int .i64 y1, .int .i64 y2, .slice ba bn bc]] w := by
  intro R h
  refine f69_calls x0 x1 x2 aa an ac y0 y1 y2 ba bn bc w R ?_
  unfold f69_vc
  intro n1 _ n2 _
  have out : ∀ b : Bool, ∀ w', Bel w w' → Under [n1, n2] w' → R (.returned (.bool b)) w' := fun b w' hb _ => h _ _ hb ⟨b, rfl⟩
  refine brN (fun _ => out _) (fun _ => brN (fun _ => out _) (fun _ => brD (fun _ => out _) (fun _ => brE (fun _ => ?_) (fun _ => out _))))
  intro w6 hb6 hun
  have hA : At w [n1, n2] w6 := ⟨((At.refl w).call hb6).chg, hun⟩
  refine at_callq hA (c92 w6 (h1.call hb6) (h2.call hb6)) fun v w8 hA hk _ ⟨n, e⟩ => ?_
  subst e
  exact ⟨_, rfl, hk, h _ _ hA.below ⟨_, rfl⟩⟩
theorem c68 {l : List PartT} {a : Option Addr} {n c : Nat} (role : Int) (w : World) (hs : SlE w 3 partE l a n c) : RetBool 68 #[.slice a n c, .int .i64 role] w := by
  intro R h
  refine f68_calls a n c role w R ?_
  unfold f68_vc
  have hn := hs.len_le
  have out : ∀ (b : Bool) {w'}, At w [] w' → R (.returned (.bool b)) w' := fun n w' hA => h _ _ hA.below ⟨n, rfl⟩
  refine ⟨fun v W' => At w [] W' ∧ ∃ i : Nat, v.1 = i ∧ i ≤ l.length, fun v _ => (n - v.1).toNat, ⟨At.refl w, 0, rfl, Nat.zero_le _⟩, ?_⟩
  rintro x3 w4 ⟨hA, i, hi, hil⟩
  simp only at hi
  subst hi
  refine brD (fun hlt => ?_) (fun _ => brD (fun _ => ?_) (fun _ => out _ hA))
  · obtain ⟨p, hp⟩ : ∃ x, l[i]? = some x := ⟨_, List.getElem?_eq_getElem (by omega)⟩
    obtain ⟨ad, g1, el, _⟩ := elt_at (P := Try.prog) (k := .i64) (t := 33) hs hp (e := 66) (by kernel_rfl) (by kernel_rfl)
    have rr : Reads Try.prog [] (Instr.loadAt 3 (.pointer (some ⟨ad.block, ad.off + 1, none⟩))) w4 (.int .i64 p.2.1) := ((el.below hA.below).sub (o := 1) (by decide)).one (by kernel_rfl) (by simp)
    rw [succ_i i (by omega)]
    have nx : (At w [] w4 ∧ ∃ j : Nat, ((i + 1 : Nat) : Int) = j ∧ j ≤ l.length) ∧ ((n : Int) - ((i + 1 : Nat) : Int)).toNat < ((n : Int) - (i : Int)).toNat := ⟨⟨hA, i + 1, rfl, by omega⟩, by omega⟩
    exact ⟨ad, g1, _, rr, brN (fun _ => ⟨ad, g1, _, rr, brN (fun _ => out _ hA) (fun _ => nx)⟩) (fun _ => nx)⟩
  · exact at_callb hA (c14 w4 (hs.call hA.below)) fun w10 hA _ _ => ⟨_, rfl, out _ hA⟩
end Go.Vc.W

