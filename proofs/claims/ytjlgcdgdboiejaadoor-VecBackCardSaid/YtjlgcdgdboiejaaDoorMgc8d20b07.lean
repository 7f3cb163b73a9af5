/- Own texts of this claim, laid together: E3, StShelf, E4, E5, FD4, E6, E7, VcArg, DArg. -/
import Derived.Test.YtjlgcdgdboiejaaDoorMg1f22accb
import Derived.Shelf.Strings.OnBuilder
import Derived.Shelf.Strings.Cut
import Derived.Shelf.Strings.Split
import Derived.Test.YtjlgcdgdboiejaaDoorProg
import Derived.ProofKit
import Derived.OpenShut
import Derived.LaidMore
import Derived.Test.YtjlgcdgdboiejaaDoorRows

/- Own text of this claim: E3. -/
set_option maxRecDepth 20000
namespace Go.Vc.VD
open Go Go.Vc Go.Vc.V Go.RowKit Go.Proofs Vcx

abbrev strE (s : ByteArray) : List Value := [.string s]

def nmOf (k : Int) : ByteArray := if 0 ≤ k ∧ k < 4 then (nms[k.toNat]?).getD (ByteArray.mk #[]) else ByteArray.mk #[]
theorem nm_at {k : Nat} (h : k < 4) : nms[k]? = some (nmOf k) := by
  unfold nmOf
  rw [if_pos (by omega)]
  have hc : k = 0 ∨ k = 1 ∨ k = 2 ∨ k = 3 := by omega
  rcases hc with rfl | rfl | rfl | rfl <;> rfl
theorem nm_small (k : Int) : (nmOf k).size ≤ 4 := by
  unfold nmOf
  split
  · rename_i h
    have hc : k = 0 ∨ k = 1 ∨ k = 2 ∨ k = 3 := by omega
    rcases hc with rfl | rfl | rfl | rfl <;> decide
  · decide

theorem c67 (k : Int) (w : World) (hT : Tab w) : Ret Tryd.prog 67 #[.int .i64 k] w (.string (nmOf k)) := by
  intro R h
  refine f67_calls k w R ?_
  unfold f67_vc
  have hA := At.refl w
  refine at_call hA (c81 _ hT) (fun w2 hA hk => ⟨_, _, _, _, rfl, ?_⟩)
  refine opw_allocArr (n := 1) (size := 4) (f := fun x : ByteArray × ByteArray × ByteArray × ByteArray => [.string x.1, .string x.2.1, .string x.2.2.1, .string x.2.2.2]) (z := (ByteArray.mk #[], ByteArray.mk #[], ByteArray.mk #[], ByteArray.mk #[])) hA (zv := .agg #[.string (ByteArray.mk #[]), .string (ByteArray.mk #[]), .string (ByteArray.mk #[]), .string (ByteArray.mk #[])]) (by kernel_rfl) rfl rfl (by decide) fun w8 hA hk ho => ⟨_, rfl, ?_⟩
  generalize hg : w2.heap.size = g at ho ⊢
  refine opw_store (y := (sCpus, sMem, sDisk, sGpus)) (i := 0) hA ho (fun _ _ => rfl) (by simp) rfl rfl rfl (by kernel_rfl) (fun w11 hA _ _ ho => ?_) (fun g' hg' => by cases hg'; simp)
  refine brD (fun hlt => leaf h hA ?_) (fun hge => brD (fun hgt => leaf h hA ?_) (fun hle => ?_))
  · rw [nmOf, if_neg (by omega)]
  · rw [nmOf, if_neg (by omega)]
  obtain ⟨q, rfl⟩ : ∃ q : Nat, k = q := ⟨k.toNat, by omega⟩
  obtain ⟨b, cs, hb, hl, hcs, rfl⟩ := (ho.sl (fun _ _ => rfl)).at_ (i := 0) rfl
  cases hb
  have hcell : w11.cell? (Addr.add ⟨g, 0, none⟩ (q * 1)) = some (.string (nmOf q)) := by
    have hx : [Value.string sCpus, .string sMem, .string sDisk, .string sGpus][q]? = some (.string (nmOf q)) := by
      have := nm_at (k := q) (by omega)
      have h2 := congrArg (Option.map Value.string) this
      rw [← List.getElem?_map] at h2
      exact h2
    have := hcs q _ hx
    rw [Nat.zero_mul, addr_add0] at this
    rwa [Nat.mul_one]
  exact ⟨_, gives_index_arr (e := 9) (n := 1) (by kernel_rfl) (by kernel_rfl) (by omega : q < 4), _, reads_one (by kernel_rfl) no_ds hcell, leaf h hA rfl⟩

theorem c68 (n : Int) (h0 : 0 ≤ n) (h1 : n ≤ 9223372036854775807) (w : World) : Ret Tryd.prog 68 #[.int .i64 n] w (.string (strOfNums (decL n 1))) := by
  intro R h
  refine f68_calls n w R ?_
  unfold f68_vc
  have hA := At.refl w
  refine brD (fun hlt => ?_) (fun hge => ?_)
  · have e : IntKind.u8.wrap (IntKind.i64.wrap (48 + n)) = 48 + n := by
      rw [wrap_i64 (by omega) (by omega), wrap_u8]
      omega
    rw [e]
    refine opw_bytes0 (e := 5) (l := [48 + n]) hA rfl (by decide) (by kernel_rfl) (by kernel_rfl) (by kernel_rfl) (by kernel_rfl) fun w' hA _ => leaf h hA (by rw [digit1 ⟨h0, by omega⟩])
  · rw [Int.tdiv_eq_ediv_of_nonneg h0, Int.tmod_eq_emod_of_nonneg h0, wrap_i64 (x := n / 10) (by omega) (by omega)]
    refine at_call hA (c68 (n / 10) (by omega) (by omega) _) (fun _ hA hk => ⟨_, rfl, ?_⟩)
    refine at_call hA (c68 (n % 10) (by omega) (by omega) _) (fun _ hA hk => ⟨_, rfl, ?_⟩)
    have d1 := dec_small (n := n / 10) (by omega)
    have d2 := dec_small (n := n % 10) (by omega)
    refine ⟨_, gives_sadd (by omega), ?_⟩
    refine leaf h hA ?_
    rw [strOfNums_append, digit1 (d := n % 10) (by omega), decL.eq_def n 1, if_pos (.inl (by omega)), decL_one _ (1 - 1) (by omega)]
termination_by n.toNat
decreasing_by
  all_goals omega

noncomputable def stext (k r : Int) : ByteArray := if slotR k r then (if r = 0 then nmOf k else nmOf k ++ ByteArray.mk #[40] ++ strOfNums (decL r 1) ++ ByteArray.mk #[41]) else ByteArray.mk #[]

theorem c54 (k r : Int) (w : World) (hT : Tab w) : Ret Tryd.prog 54 #[slotV k r] w (.string (stext k r)) := by
  intro R h
  refine f54_calls k r w R ?_
  unfold f54_vc
  have hA := At.refl w
  refine go_n hA fun n1 h_n1 => ?_
  refine go_below hA fun _ hA => ?_
  refine at_call hA (c35 _ _ _) (fun _ hA hk => ?_)
  first | refine ⟨_, rfl, hk, ?_⟩ | refine ⟨_, _, rfl, hk, ?_⟩ | refine ⟨_, _, _, rfl, hk, ?_⟩ | refine ⟨_, _, _, _, rfl, hk, ?_⟩ | refine ⟨_, _, _, _, _, rfl, hk, ?_⟩ | refine ⟨_, _, _, _, _, _, rfl, hk, ?_⟩ | refine ⟨_, _, _, _, _, _, _, rfl, hk, ?_⟩ | refine ⟨_, _, _, _, _, _, _, _, rfl, hk, ?_⟩
  refine brND (fun hn => leaf h hA (by rw [stext, if_neg hn])) (fun hs => ?_)
  have hs' := hs
  unfold slotR at hs'
  refine brE (fun h0 => ?_) (fun h0 => ?_)
  · refine at_call hA (c67 _ _ (hT.at_ hA)) (fun _ hA hk => ?_)
    first | refine ⟨_, rfl, hk, ?_⟩ | refine ⟨_, _, rfl, hk, ?_⟩ | refine ⟨_, _, _, rfl, hk, ?_⟩ | refine ⟨_, _, _, _, rfl, hk, ?_⟩ | refine ⟨_, _, _, _, _, rfl, hk, ?_⟩ | refine ⟨_, _, _, _, _, _, rfl, hk, ?_⟩ | refine ⟨_, _, _, _, _, _, _, rfl, hk, ?_⟩ | refine ⟨_, _, _, _, _, _, _, _, rfl, hk, ?_⟩
    exact leaf h hA (by rw [stext, if_pos hs, if_pos h0])
  refine go_below hA fun _ hA => ?_
  refine at_call hA (c67 _ _ (hT.at_ hA)) (fun _ hA hk => ?_)
  first | refine ⟨_, rfl, hk, ?_⟩ | refine ⟨_, _, rfl, hk, ?_⟩ | refine ⟨_, _, _, rfl, hk, ?_⟩ | refine ⟨_, _, _, _, rfl, hk, ?_⟩ | refine ⟨_, _, _, _, _, rfl, hk, ?_⟩ | refine ⟨_, _, _, _, _, _, rfl, hk, ?_⟩ | refine ⟨_, _, _, _, _, _, _, rfl, hk, ?_⟩ | refine ⟨_, _, _, _, _, _, _, _, rfl, hk, ?_⟩
  have s1 := nm_small k
  have s2 : (ByteArray.mk #[40]).size = 1 := rfl
  have s3 : (ByteArray.mk #[41]).size = 1 := rfl
  have d1 := dec_small (n := r) (by omega)
  refine ⟨_, gives_sadd (by omega), ?_⟩
  refine at_call hA (c68 r (by omega) (by omega) _) (fun _ hA hk => ?_)
  first | refine ⟨_, rfl, hk, ?_⟩ | refine ⟨_, _, rfl, hk, ?_⟩ | refine ⟨_, _, _, rfl, hk, ?_⟩ | refine ⟨_, _, _, _, rfl, hk, ?_⟩ | refine ⟨_, _, _, _, _, rfl, hk, ?_⟩ | refine ⟨_, _, _, _, _, _, rfl, hk, ?_⟩ | refine ⟨_, _, _, _, _, _, _, rfl, hk, ?_⟩ | refine ⟨_, _, _, _, _, _, _, _, rfl, hk, ?_⟩
  refine ⟨_, gives_sadd (by rw [ByteArray.size_append]; omega), _, gives_sadd (by rw [ByteArray.size_append, ByteArray.size_append]; omega), ?_⟩
  exact leaf h hA (by rw [stext, if_pos hs, if_neg h0])

theorem dec2 {r : Int} (h1 : 10 ≤ r) (h2 : r < 100) : decL r 1 = [48 + r / 10, 48 + r % 10] := by
  rw [decL, if_pos (.inl h1), decL_one _ _ (by omega), digit1 (by omega)]
  rfl

theorem pack_num : ∀ (k : Fin 4) (r : Fin 33), IntKind.u16.wrap (↑(BitVec.ofInt 16 (IntKind.u16.wrap (IntKind.u16.wrap (r.val : Int) * 4)) ||| BitVec.ofInt 16 (IntKind.u16.wrap (k.val : Int))).toNat : Int) = 4 * (r.val : Int) + k.val := by decide +kernel
def pack (k r : Int) : Int := if slotR k r then 4 * r + k else 0
theorem and3 {n : Int} (h0 : 0 ≤ n) (h1 : n < 65536) : ((BitVec.ofInt 16 n &&& BitVec.ofInt 16 3).toNat : Int) = n % 4 := by
  obtain ⟨m, rfl⟩ : ∃ m : Nat, n = m := ⟨n.toNat, by omega⟩
  have e3 : (BitVec.ofInt 16 3 : BitVec 16) = BitVec.ofNat 16 3 := rfl
  have em : (BitVec.ofInt 16 (m : Int) : BitVec 16) = BitVec.ofNat 16 m := by simp
  rw [e3, em, BitVec.toNat_and, BitVec.toNat_ofNat, BitVec.toNat_ofNat, Nat.mod_eq_of_lt (by omega : m < 2 ^ 16)]
  have := Nat.and_two_pow_sub_one_eq_mod m 2
  rw [show (3 % 2 ^ 16 : Nat) = 2 ^ 2 - 1 by decide, this]
  omega
end Go.Vc.VD

/-
  DERIVED: THE SHELF's CONTRACTS AT THIS DUMP, IN PLAIN WORDS (tools/lay-plain.mjs out of 'StShelf0.lean', which tools/lay-shelf.mjs wrote): THE SAME DECLARATIONS UNDER THE SAME NAMES: 'import', 'namespace', 'open', 'def', 'theorem' AND NOTHING ELSE: no command of the shelf's: FOR A HAND-IN. Each laying: the table of numbers ('.._ren') and one theorem, a field a fact of the dump's own or the kernel's comparison; each contract: ONE APPLICATION.
-/
namespace Go.Proofs
open Go.Shelf
def Tryd.lays156_ren : Go.Shelf.Ren := ⟨fun | 156 => 56 | 165 => 70 | 166 => 71 | 169 => 72 | 240 => 82 | 241 => 83 | 276 => 101 | 277 => 102 | n => n, fun | 31 => 63 | 9 => 9 | 3 => 3 | 4 => 4 | 0 => 0 | 20 => 20 | 72 => 85 | 76 => 89 | 70 => 83 | 37 => 80 | 75 => 88 | 127 => 101 | 164 => 118 | 5 => 5 | 80 => 91 | n => n, fun | n => n⟩
theorem Tryd.lays156 : Go.Proofs.Lays.n156 Tryd.prog Tryd.lays156_ren := {
  mixed := by kernel_rfl
  f156 := Tryd.func56.trans (congrArg some (by kernel_rfl))
  f165 := Tryd.func70.trans (congrArg some (by kernel_rfl))
  f166 := Tryd.func71.trans (congrArg some (by kernel_rfl))
  f169 := Tryd.func72.trans (congrArg some (by kernel_rfl))
  f240 := Tryd.func82.trans (congrArg some (by kernel_rfl))
  f241 := Tryd.func83.trans (congrArg some (by kernel_rfl))
  f276 := Tryd.func101.trans (congrArg some (by kernel_rfl))
  f277 := Tryd.func102.trans (congrArg some (by kernel_rfl))
  t0 := Tryd.underlying0
  a0 := Tryd.isAgg0
  z0 := Tryd.sizeOf0
  v0 := Tryd.zeroValue0
  t3 := Tryd.underlying3
  a3 := Tryd.isAgg3
  z3 := Tryd.sizeOf3
  v3 := Tryd.zeroValue3
  t4 := Tryd.underlying4
  a4 := Tryd.isAgg4
  z4 := Tryd.sizeOf4
  v4 := Tryd.zeroValue4
  t9 := Tryd.underlying9
  a9 := Tryd.isAgg9
  z9 := Tryd.sizeOf9
  v9 := Tryd.zeroValue9
  t20 := Tryd.underlying20
  a20 := Tryd.isAgg20
  z20 := Tryd.sizeOf20
  v20 := Tryd.zeroValue20
  t31 := Tryd.underlying63
  a31 := Tryd.isAgg63
  z31 := Tryd.sizeOf63
  v31 := Tryd.zeroValue63
  t37 := Tryd.underlying80
  a37 := Tryd.isAgg80
  z37 := Tryd.sizeOf80
  v37 := Tryd.zeroValue80
  t70 := Tryd.underlying83
  a70 := Tryd.isAgg83
  z70 := Tryd.sizeOf83
  v70 := Tryd.zeroValue83
  t72 := Tryd.underlying85
  a72 := Tryd.isAgg85
  z72 := Tryd.sizeOf85
  v72 := Tryd.zeroValue85
  t75 := Tryd.underlying88
  a75 := Tryd.isAgg88
  z75 := Tryd.sizeOf88
  v75 := Tryd.zeroValue88
  t76 := Tryd.underlying89
  a76 := Tryd.isAgg89
  z76 := Tryd.sizeOf89
  v76 := Tryd.zeroValue89
  t127 := Tryd.underlying101
  a127 := Tryd.isAgg101
  z127 := Tryd.sizeOf101
  v127 := Tryd.zeroValue101
  t164 := Tryd.underlying118
  a164 := Tryd.isAgg118
  z164 := Tryd.sizeOf118
  v164 := Tryd.zeroValue118 }
theorem Tryd.Builder_Extra_156 : Builder.Extra Tryd.prog Tryd.lays156_ren := {
  sizeBuilder := by kernel_rfl
  liesBuilder := by kernel_rfl
  t5 := Tryd.underlying5
  a5 := Tryd.isAgg5
  z5 := Tryd.sizeOf5
  v5 := Tryd.zeroValue5
  infoByte := by kernel_rfl
  cellsByte := by kernel_rfl
  sizeByte := by kernel_rfl
  neB5 := by decide }
open Go.RowKit in
/-- No element: the empty string; the world is as it was. (Whatever the slice's address and capacity: a nil slice too.) (LAID: no walk: one application.) -/
theorem Tryd.strings_Join_none (a : Option Addr) (c : Nat) (sep : ByteArray) (w : World) :
    Calls Tryd.prog 56 #[.slice a 0 c, .string sep] w fun e w' => e = .returned (.string ⟨#[]⟩) ∧ w' = w := Any.strings_Join_none Tryd.lays156 Tryd.Builder_Extra_156 a c sep w
open Go.RowKit in
/-- strings.Join: "Join concatenates the elements of its first argument to create a single string. The separator string sep is placed between elements in the resulting string.": HOWEVER MANY ELEMENTS. Below the heap's end the world is as it was. (LAID: no walk: one application.) -/
theorem Tryd.strings_Join (bk o c : Nat) (xs : List ByteArray) (sep : ByteArray) (w : World) (hcells : ∀ (j : Nat) x, xs[j]? = some x → w.cell? ⟨bk, o + j, none⟩ = some (.string x)) (hbk : bk < w.heap.size) (hN : xs.length ≤ 140737488355328) (hcap : xs.length ≤ c) (hlen : (Lib.join (xs.map (·.data.toList)) sep.data.toList).length ≤ 140737488355328) :
    Calls Tryd.prog 56 #[.slice (some ⟨bk, o, none⟩) xs.length c, .string sep] w fun e w' => e = .returned (.string ⟨(Lib.join (xs.map (·.data.toList)) sep.data.toList).toArray⟩) ∧ Below w.heap.size w w' := Any.strings_Join Tryd.lays156 Tryd.Builder_Extra_156 bk o c xs sep w hcells hbk hN hcap hlen
def Tryd.lays145_ren : Go.Shelf.Ren := ⟨fun | 145 => 51 | 220 => 64 | 219 => 80 | 217 => 97 | 225 => 98 | 224 => 99 | 267 => 100 | 266 => 109 | 314 => 110 | n => n, fun | 9 => 9 | 4 => 4 | 59 => 65 | 3 => 3 | 5 => 5 | 46 => 95 | 146 => 127 | 51 => 110 | n => n, fun | 1 => 0 | n => n⟩
theorem Tryd.lays145 : Go.Proofs.Lays.n145 Tryd.prog Tryd.lays145_ren := {
  mixed := by kernel_rfl
  f145 := Tryd.func51.trans (congrArg some (by kernel_rfl))
  f217 := Tryd.func97.trans (congrArg some (by kernel_rfl))
  f219 := Tryd.func80.trans (congrArg some (by kernel_rfl))
  f220 := Tryd.func64.trans (congrArg some (by kernel_rfl))
  f224 := Tryd.func99.trans (congrArg some (by kernel_rfl))
  f225 := Tryd.func98.trans (congrArg some (by kernel_rfl))
  f266 := Tryd.func109.trans (congrArg some (by kernel_rfl))
  f267 := Tryd.func100.trans (congrArg some (by kernel_rfl))
  f314 := Tryd.func110.trans (congrArg some (by kernel_rfl))
  t3 := Tryd.underlying3
  a3 := Tryd.isAgg3
  z3 := Tryd.sizeOf3
  v3 := Tryd.zeroValue3
  t4 := Tryd.underlying4
  a4 := Tryd.isAgg4
  z4 := Tryd.sizeOf4
  v4 := Tryd.zeroValue4
  t5 := Tryd.underlying5
  a5 := Tryd.isAgg5
  z5 := Tryd.sizeOf5
  v5 := Tryd.zeroValue5
  t9 := Tryd.underlying9
  a9 := Tryd.isAgg9
  z9 := Tryd.sizeOf9
  v9 := Tryd.zeroValue9
  t46 := Tryd.underlying95
  a46 := Tryd.isAgg95
  z46 := Tryd.sizeOf95
  v46 := Tryd.zeroValue95
  t51 := Tryd.underlying110
  a51 := Tryd.isAgg110
  z51 := Tryd.sizeOf110
  v51 := Tryd.zeroValue110
  t59 := Tryd.underlying65
  a59 := Tryd.isAgg65
  z59 := Tryd.sizeOf65
  v59 := Tryd.zeroValue65
  t146 := Tryd.underlying127
  a146 := Tryd.isAgg127
  z146 := Tryd.sizeOf127
  v146 := Tryd.zeroValue127
  g1 := by kernel_rfl }
open Go.RowKit Go.Lib in
/-- strings.Cut: "Cut slices s around the first instance of sep, returning the text before and after sep. The found result reports whether sep appears in s. If sep does not appear in s, cut returns s, "", false.": IT RETURNS 'Lib.cut s sep'; the world is as it was but for the count of draws. (LAID: no walk: one application.) -/
theorem Tryd.strings_Cut (s sep : ByteArray) (m : Int) (w : World) (hs : s.size < 4294967281) (hm : w.cell? ⟨0, 0, none⟩ = some (.int .i64 m)) :
    Calls Tryd.prog 51 #[.string s, .string sep] w fun e w' => e = .returned (.tuple #[.string ⟨(Lib.cut s.data.toList sep.data.toList).1.toArray⟩, .string ⟨(Lib.cut s.data.toList sep.data.toList).2.1.toArray⟩, .bool (Lib.cut s.data.toList sep.data.toList).2.2]) ∧ ∃ n, w' = w.drewN n := Any.strings_Cut Tryd.lays145 s sep m w hs hm
def Tryd.lays146_ren : Go.Shelf.Ren := ⟨fun | 146 => 50 | 221 => 63 | 268 => 77 | 138 => 78 | 143 => 79 | 195 => 94 | 197 => 95 | 218 => 96 | 219 => 80 | 260 => 108 | 217 => 97 | 225 => 98 | 224 => 99 | 267 => 100 | 266 => 109 | 314 => 110 | n => n, fun | 9 => 9 | 31 => 63 | 3 => 3 | 4 => 4 | 0 => 0 | 105 => 114 | 21 => 21 | 5 => 5 | 46 => 95 | 119 => 132 | 139 => 135 | 138 => 134 | 146 => 127 | 51 => 110 | n => n, fun | 1 => 0 | 3 => 2 | 4 => 3 | n => n⟩
theorem Tryd.lays146 : Go.Proofs.Lays.n146 Tryd.prog Tryd.lays146_ren := {
  mixed := by kernel_rfl
  f138 := Tryd.func78.trans (congrArg some (by kernel_rfl))
  f143 := Tryd.func79.trans (congrArg some (by kernel_rfl))
  f146 := Tryd.func50.trans (congrArg some (by kernel_rfl))
  f195 := Tryd.func94.trans (congrArg some (by kernel_rfl))
  f197 := Tryd.func95.trans (congrArg some (by kernel_rfl))
  f217 := Tryd.func97.trans (congrArg some (by kernel_rfl))
  f218 := Tryd.func96.trans (congrArg some (by kernel_rfl))
  f219 := Tryd.func80.trans (congrArg some (by kernel_rfl))
  f221 := Tryd.func63.trans (congrArg some (by kernel_rfl))
  f224 := Tryd.func99.trans (congrArg some (by kernel_rfl))
  f225 := Tryd.func98.trans (congrArg some (by kernel_rfl))
  f260 := Tryd.func108.trans (congrArg some (by kernel_rfl))
  f266 := Tryd.func109.trans (congrArg some (by kernel_rfl))
  f267 := Tryd.func100.trans (congrArg some (by kernel_rfl))
  f268 := Tryd.func77.trans (congrArg some (by kernel_rfl))
  f314 := Tryd.func110.trans (congrArg some (by kernel_rfl))
  t0 := Tryd.underlying0
  a0 := Tryd.isAgg0
  z0 := Tryd.sizeOf0
  v0 := Tryd.zeroValue0
  t3 := Tryd.underlying3
  a3 := Tryd.isAgg3
  z3 := Tryd.sizeOf3
  v3 := Tryd.zeroValue3
  t4 := Tryd.underlying4
  a4 := Tryd.isAgg4
  z4 := Tryd.sizeOf4
  v4 := Tryd.zeroValue4
  t5 := Tryd.underlying5
  a5 := Tryd.isAgg5
  z5 := Tryd.sizeOf5
  v5 := Tryd.zeroValue5
  t9 := Tryd.underlying9
  a9 := Tryd.isAgg9
  z9 := Tryd.sizeOf9
  v9 := Tryd.zeroValue9
  t21 := Tryd.underlying21
  a21 := Tryd.isAgg21
  z21 := Tryd.sizeOf21
  v21 := Tryd.zeroValue21
  t31 := Tryd.underlying63
  a31 := Tryd.isAgg63
  z31 := Tryd.sizeOf63
  v31 := Tryd.zeroValue63
  t46 := Tryd.underlying95
  a46 := Tryd.isAgg95
  z46 := Tryd.sizeOf95
  v46 := Tryd.zeroValue95
  t51 := Tryd.underlying110
  a51 := Tryd.isAgg110
  z51 := Tryd.sizeOf110
  v51 := Tryd.zeroValue110
  t105 := Tryd.underlying114
  a105 := Tryd.isAgg114
  z105 := Tryd.sizeOf114
  v105 := Tryd.zeroValue114
  t119 := Tryd.underlying132
  a119 := Tryd.isAgg132
  z119 := Tryd.sizeOf132
  t138 := Tryd.underlying134
  a138 := Tryd.isAgg134
  z138 := Tryd.sizeOf134
  v138 := Tryd.zeroValue134
  t139 := Tryd.underlying135
  a139 := Tryd.isAgg135
  z139 := Tryd.sizeOf135
  v139 := Tryd.zeroValue135
  t146 := Tryd.underlying127
  a146 := Tryd.isAgg127
  z146 := Tryd.sizeOf127
  v146 := Tryd.zeroValue127
  g1 := by kernel_rfl
  g3 := by kernel_rfl
  g4 := by kernel_rfl }
open Go.RowKit Go.Lib in
/-- strings.Split. (LAID: no walk: one application.) -/
theorem Tryd.strings_Split (s sep : ByteArray) (m : Int) (w : World) (hs : s.size < 4294967281) (hm : w.cell? ⟨0, 0, none⟩ = some (.int .i64 m)) (h1 : 1 ≤ sep.size) :
    Calls Tryd.prog 50 #[.string s, .string sep] w fun e w' =>
      e = .returned (.slice (some ⟨w.heap.size, 0, none⟩) (Lib.countB s sep + 1) (Lib.countB s sep + 1)) ∧ w' = w.alloc (.cells ((Lib.splitB sep 0 (Lib.countB s sep) s).map Value.string).toArray 9) := Any.strings_Split Tryd.lays146 (by kernel_rfl) s sep m w hs hm h1
end Go.Proofs

/- vec.Get, Text, Least; what works at all. -/
set_option maxRecDepth 20000
set_option maxHeartbeats 1000000
namespace Go.Vc.VD
open Go Go.Vc Go.Vc.V Go.RowKit Go.Proofs Vcx

variable {w W W' : World} {M : Nat → Prop} {gs : List Nat}

/-- A contract that draws no one knows how often. -/
def RetW (P : Program) (f : FuncId) (args : Array Value) (W : World) (v : Value) : Prop :=
  ∀ R : Ending → World → Prop, (∀ w', Below W.heap.size W w' → R (.returned v) w') → Calls P f args W R
theorem SlE.low {α : Type} {n : Nat} {f : α → List Value} {l : List α} {a : Option Addr} {len c : Nat} (h : SlE W n f l a len c) (hb : Below W.heap.size W W') : SlE W' n f l a len c := h.mono (cell_below hb) fun _ _ h => h
theorem Tab.low (h : Tab W) (hb : Below W.heap.size W W') : Tab W' := fun j v hv => cell_below hb _ _ (h j v hv)

theorem c18 {l : List PartT} {a : Option Addr} {n c : Nat} (k r : Int) (w : World) (hs : SlE w 3 partE l a n c) : Ret Tryd.prog 18 #[.slice a n c, slotV k r] w (.int .i64 (amt (k, r) l)) := by
  intro R h
  refine f18_calls a n c k r w R ?_
  unfold f18_vc
  have hn := hs.1
  have hmx := hs.len_le
  intro n1 hn1
  refine ⟨fun v W' => At w [] W' ∧ ∃ i : Nat, v.1 = i ∧ i ≤ l.length ∧ amt (k, r) (l.drop i) = amt (k, r) l, fun v _ => (n - v.1).toNat, ⟨fun w4 hb _ => ⟨(At.refl w).call hb, 0, rfl, Nat.zero_le _, rfl⟩, ?_⟩⟩
  rintro x5 w6 ⟨hA, i, hi, hil, hd⟩
  simp only at hi
  subst hi
  refine brD (fun hlt => ?_) (fun hge => leaf h hA ?_)
  · obtain ⟨p, hp⟩ : ∃ x, l[i]? = some x := ⟨_, List.getElem?_eq_getElem (by omega)⟩
    obtain ⟨ad, g1, el, _⟩ := elt_at (P := Tryd.prog) (k := .i64) (t := 22) (hs.call hA.below) hp (e := 46) (by kernel_rfl) (by kernel_rfl)
    rw [drop_cons hp, amt] at hd
    refine ⟨ad, g1, _, _, _, el.agg 3 (by kernel_rfl) (by kernel_rfl) (by simp) (by simp), ?_⟩
    intro n11 hn11 w12 hev hun
    have hbel := hev.bel (by simpa using hn11)
    refine at_callb (gs := [n1, n11]) ⟨(hA.call hbel).chg, hun⟩ (c36 _ _ _ w12) fun w14 hA hk hb14 => ⟨_, _, rfl, hk, ?_⟩
    have hcond : (p.1 == k && (p.2.1 == r && true)) = decide (slotOf p = (k, r)) := by
      rw [Bool.eq_iff_iff]
      simp [slotOf]
    rw [hcond]
    refine brD (fun he => leaf h hA ?_) (fun hne => ?_)
    · rw [if_pos he] at hd
      rw [hd]
    · rw [if_neg hne] at hd
      rw [succ_i i (by omega)]
      exact ⟨⟨hA.off, i + 1, rfl, by omega, hd⟩, by simp only; omega⟩
  · rw [show i = l.length by omega, List.drop_length, amt] at hd
    rw [← hd]

/-! ### Text -/
def rank (p : PartT) : Nat := (33 * p.1 + p.2.1).toNat
theorem sorted_len : ∀ (l : List PartT) (lo : Nat), l.Pairwise slt → (∀ p ∈ l, partR p) → (∀ p ∈ l, lo ≤ rank p) → l.length ≤ 132 - lo
  | [], _, _, _, _ => Nat.zero_le _
  | p :: l, lo, h, hR, hlo => by
    have h := List.pairwise_cons.1 h
    have hp := hR p (by simp)
    have hlp := hlo p (by simp)
    have ih := sorted_len l (rank p + 1) h.2 (fun q hq => hR q (by simp [hq])) fun q hq => by
      have h1 := h.1 q hq
      have h2 := hR q (by simp [hq])
      unfold rank slt partR slotR at *
      omega
    unfold rank partR slotR at *
    simp only [List.length_cons]
    omega
theorem vec_len' {l : List PartT} (h : vecB l = true) : l.length ≤ 132 := sorted_len l 0 (vecB_iff.1 h).2 (vecB_iff.1 h).1 fun _ _ => Nat.zero_le _
noncomputable def wordB (p : PartT) : ByteArray := stext p.1 p.2.1 ++ ByteArray.mk #[58] ++ strOfNums (txtL p.2.2)
noncomputable def vtext (l : List PartT) : ByteArray := if vecB l = true then (if l = [] then ByteArray.mk #[45] else ⟨(Lib.join (l.map fun p => (wordB p).data.toList) [44]).toArray⟩) else ByteArray.mk #[]
theorem stext_small (k r : Int) : (stext k r).size ≤ 40 := by
  unfold stext
  split
  · rename_i h
    unfold slotR at h
    have := nm_small k
    split
    · omega
    · have d1 := dec_small (n := r) (by omega)
      have s2 : (ByteArray.mk #[40]).size = 1 := rfl
      have s3 : (ByteArray.mk #[41]).size = 1 := rfl
      rw [ByteArray.size_append, ByteArray.size_append, ByteArray.size_append]
      omega
  · decide
theorem strip_le (l : List Int) : (strip l).length ≤ l.length := by
  unfold strip
  rw [List.length_reverse]
  exact Nat.le_trans (List.Sublist.length_le (List.dropWhile_sublist _)) (by simp)
theorem txt_small (n : Int) : (strOfNums (txtL n)).size ≤ 1100 := by
  have e : ∀ l : List Int, (strOfNums l).size = l.length := fun l => by simp [strOfNums, ByteArray.size]
  rw [e]
  unfold txtL
  split
  · rename_i h
    have h1 := decL_short 12 (n / 1000) (by omega) (by omega)
    have h2 := decL_len (n % 1000) 3
    split
    · omega
    · refine Nat.le_trans (strip_le _) ?_
      simp only [List.length_append, List.length_cons, List.length_nil]
      omega
  · simp
theorem word_small (p : PartT) : (wordB p).size ≤ 1200 := by
  have h1 := stext_small p.1 p.2.1
  have h2 := txt_small p.2.2
  have s2 : (ByteArray.mk #[58]).size = 1 := rfl
  unfold wordB
  rw [ByteArray.size_append, ByteArray.size_append]
  omega
theorem lens_small : ∀ l : List PartT, Lib.lens (l.map fun p => (wordB p).data.toList) ≤ 1200 * l.length
  | [] => by simp [Lib.lens]
  | p :: l => by
    have ih := lens_small l
    have := word_small p
    have e : (wordB p).data.toList.length = (wordB p).size := by rw [Array.length_toList]; rfl
    unfold Lib.lens at *
    simp only [List.map_cons, List.sum_cons, List.length_cons, e]
    omega
theorem join_small (l : List PartT) : (Lib.join (l.map fun p => (wordB p).data.toList) [44]).length ≤ 1201 * l.length := by
  cases l with
  | nil => simp [Lib.join_nil]
  | cons p l =>
    have := lens_small (p :: l)
    rw [List.map_cons] at this ⊢
    rw [Lib.join_length]
    simp only [List.length_map, List.length_cons, List.length_nil] at *
    omega
theorem str_one (s : ByteArray) : ∀ u ∈ strE s, u.oneCell' = true := fun u hu => by
  simp at hu
  subst hu
  rfl
theorem part_I {l : List PartT} (hv : vecB l = true) {p : PartT} (hp : p ∈ l) : I64 p.2.2 := by
  have := ((vecB_iff.1 hv).1 p hp).2
  unfold I64
  omega

theorem c33 {l : List PartT} {a : Option Addr} {n c : Nat} (w : World) (hT : Tab w) (hs : SlE w 3 partE l a n c) : RetW Tryd.prog 33 #[.slice a n c] w (.string (vtext l)) := by
  intro R h
  refine f33_calls a n c w R ?_
  unfold f33_vc
  have hn := hs.1
  refine at_callb (At.refl w) (c11 w hs) fun w2 hA _ hb2 => ⟨_, rfl, brNB (fun hno => ?_) (fun hv => ?_)⟩
  · have := h w2 hA.below.below
    rwa [vtext, if_neg (by rw [hno]; decide)] at this
  rw [vtext, if_pos hv] at h
  have hlen := vec_len' hv
  refine ⟨fun v W' => At w [] W' ∧ ∃ i : Nat, v.2.1 = i ∧ i ≤ l.length ∧ OwnL w [] W' 9 1 strE (.slice v.1.1 v.1.2.1 v.1.2.2) ((l.take i).map wordB), fun v _ => (n - v.2.1).toNat, ⟨hA, 0, rfl, Nat.zero_le _, OwnL.nil⟩, ?_⟩
  rintro a6 n7 n8 x9 w10 ⟨hA, i, hi, hil, ho⟩
  simp only at hi ho
  subst hi
  refine brD (fun hlt => ?_) (fun hge => ?_)
  · obtain ⟨p, hp⟩ : ∃ x, l[i]? = some x := ⟨_, List.getElem?_eq_getElem (by omega)⟩
    obtain ⟨ad, g1, el, _⟩ := elt_at (P := Tryd.prog) (k := .i64) (t := 22) (hs.call hA.below) hp (e := 46) (by kernel_rfl) (by kernel_rfl)
    refine ⟨ad, g1, _, _, _, el.agg 3 (by kernel_rfl) (by kernel_rfl) (by simp) (by simp), ?_⟩
    intro n15 hn15 w16 hev hun
    have hbel := hev.bel (by simpa using hn15)
    have hA : At w [n15] w16 := ⟨(hA.call hbel).chg, hun⟩
    have ho := (ho.more (gs' := [n15]) (by intro g h1 _; simp at h1; omega)).call hbel
    have z1 := stext_small p.1 p.2.1
    have z2 := txt_small p.2.2
    have z3 : (ByteArray.mk #[58]).size = 1 := rfl
    refine at_callb hA (c36 _ _ _ w16) fun w18 hA hk hb18 => ⟨_, _, rfl, hk, ?_⟩
    refine at_callb hA (c54 _ _ w18 (hT.below hA.below)) fun w22 hA hk hb22 => ⟨_, rfl, hk, _, gives_sadd (by omega), ?_⟩
    refine at_callb hA (c55 _ w22 (part_I hv (List.mem_of_getElem? hp))) fun w26 hA hk hb26 => ⟨_, rfl, hk, _, gives_sadd (by rw [ByteArray.size_append]; omega), ?_⟩
    rw [succ_i i (by omega)]
    refine opw_push (f := strE) (e' := 9) (bytes := 16) hA (((ho.call hb18).call hb22).call hb26) (wordB p) (by kernel_rfl) (by kernel_rfl) rfl (fun _ _ => rfl) (str_one _) (by simp; omega) (by omega) fun a2 c2 w35 hA ho _ _ => ?_
    have htk : (l.take (i + 1)).map wordB = (l.take i).map wordB ++ [wordB p] := by
      rw [List.take_add_one, hp, List.map_append]
      rfl
    rw [← htk] at ho
    refine ⟨⟨hA.off, i + 1, rfl, by omega, ?_⟩, by simp only; omega⟩
    have e : ((l.take i).map wordB ++ [wordB p]).length = ((l.take (i + 1)).map wordB).length := by rw [htk]
    simp only
    rw [e]
    exact ho.more (by simp)
  · rw [show i = l.length by omega, List.take_length] at ho
    have hno := ho.len
    rw [List.length_map] at hno
    refine brE (fun h0 => ?_) (fun h0 => ?_)
    · have hl0 : l = [] := List.eq_nil_of_length_eq_zero (by omega)
      have := h w10 hA.below.below
      rwa [if_pos hl0] at this
    · have hl0 : l ≠ [] := fun e => h0 (by rw [hno, e]; rfl)
      rw [if_neg hl0] at h
      have hlp : 0 < (l.map wordB).length := by rw [List.length_map]; exact List.length_pos_iff.2 hl0
      obtain ⟨g, cur, rfl, _, hg, hlc, hcm, _, _⟩ := ho.ptr hlp
      have hsl := ho.sl fun _ _ => rfl
      have e7 : n7 = (l.map wordB).length := by rw [List.length_map]; exact hno
      subst e7
      have hem : (l.map wordB).map (fun x => x.data.toList) = l.map fun p => (wordB p).data.toList := by rw [List.map_map]; rfl
      have hjs := join_small l
      refine (Tryd.strings_Join g 0 n8 (l.map wordB) (ByteArray.mk #[44]) w10 (fun j x hx => ?_) (Array.getElem?_eq_some_iff.1 hg).1 (by rw [List.length_map]; omega) hlc (by rw [hem]; show (Lib.join _ [44]).length ≤ _; omega)).mono fun e w40 ⟨he, hb⟩ => ⟨_, he, ?_⟩
      · obtain ⟨ad, cs, ha, _, hcs, rfl⟩ := hsl.at_ hx
        cases ha
        have := hcs 0 _ rfl
        rw [addr_add_add _ _ _ rfl, addr_add] at this
        simpa using this
      · rw [hem]
        exact h w40 (hA.below.below.trans (hb.mono hA.size))
end Go.Vc.VD

/- vec.Least; few; what works at all. -/
set_option maxRecDepth 20000
set_option maxHeartbeats 1000000
namespace Go.Vc.VD
open Go Go.Vc Go.Vc.V Go.RowKit Go.Proofs Vcx

variable {w W W' : World} {M : Nat → Prop} {gs : List Nat}

def mn (x y : Int) : Int := if y < x then y else x
def least1 (b : List PartT) (p : PartT) : Option PartT := if 0 < mn p.2.2 (amt (slotOf p) b) then some (p.1, p.2.1, mn p.2.2 (amt (slotOf p) b)) else none
def leastL (a b : List PartT) : List PartT := if vecB a = true ∧ vecB b = true then a.filterMap (least1 b) else []
theorem c29 {l1 l2 : List PartT} {aa ba : Option Addr} {an ac bn bc : Nat} (w : World) (h1 : SlE w 3 partE l1 aa an ac) (h2 : SlE w 3 partE l2 ba bn bc) : RetL Tryd.prog 29 #[.slice aa an ac, .slice ba bn bc] w 46 3 partE (leastL l1 l2) := by
  intro R h
  refine f29_calls aa an ac ba bn bc w R ?_
  unfold f29_vc
  have hn := h1.1
  refine at_callb (At.refl w) (c11 w h1) fun w2 hA _ hb2 => ⟨_, rfl, brNB (fun hno => ?_) (fun hv1 => ?_)⟩
  · exact leafl h hA OwnL.nil (by rw [leastL, if_neg (fun hh => by rw [hno] at hh; cases hh.1)])
  refine at_callb hA (c11 w2 (h2.call hb2)) fun w5 hA _ hb5 => ⟨_, rfl, brNB (fun hno => ?_) (fun hv2 => ?_)⟩
  · exact leafl h hA OwnL.nil (by rw [leastL, if_neg (fun hh => by rw [hno] at hh; cases hh.2)])
  have hlen := vec_len' hv1
  refine ⟨fun v W' => At w [] W' ∧ ∃ i : Nat, v.2.1 = i ∧ i ≤ l1.length ∧ OwnL w [] W' 46 3 partE (.slice v.1.1 v.1.2.1 v.1.2.2) ((l1.take i).filterMap (least1 l2)), fun v _ => (an - v.2.1).toNat, ⟨hA, 0, rfl, Nat.zero_le _, OwnL.nil⟩, ?_⟩
  rintro a9 n10 n11 x12 w13 ⟨hA, i, hi, hil, ho⟩
  simp only at hi ho
  subst hi
  have hsz13 := hA.size
  refine brD (fun hlt => ?_) (fun hge => ?_)
  · obtain ⟨p, hp⟩ : ∃ x, l1[i]? = some x := ⟨_, List.getElem?_eq_getElem (by omega)⟩
    obtain ⟨ad, g1, el, _⟩ := elt_at (P := Tryd.prog) (k := .i64) (t := 22) (h1.call hA.below) hp (e := 46) (by kernel_rfl) (by kernel_rfl)
    refine ⟨ad, g1, _, _, _, el.agg 3 (by kernel_rfl) (by kernel_rfl) (by simp) (by simp), ?_⟩
    intro n18 hn18 w19 hev hun
    have hbel := hev.bel (by simpa using hn18)
    have hA : At w [n18] w19 := ⟨(hA.call hbel).chg, hun⟩
    have ho := (ho.more (gs' := [n18]) (by intro g h1 _; simp at h1; omega)).call hbel
    have htk : (l1.take (i + 1)).filterMap (least1 l2) = (l1.take i).filterMap (least1 l2) ++ (least1 l2 p).toList := by
      rw [List.take_add_one, hp, List.filterMap_append]
      congr 1
    have hle : ((l1.take i).filterMap (least1 l2)).length ≤ i := Nat.le_trans (List.length_filterMap_le ..) (by simp; omega)
    refine at_callb hA (c36 _ _ _ w19) fun w21 hA hk hb21 => ⟨_, _, rfl, hk, ?_⟩
    refine at_callb hA (c18 _ _ w21 (h2.call hA.below)) fun w25 hA hk hb25 => ⟨_, rfl, hk, ?_⟩
    have ho := (ho.call hb21).call hb25
    rw [succ_i i (by omega)]
    have e : (if amt (p.1, p.2.1) l2 < p.2.2 then amt (p.1, p.2.1) l2 else p.2.2) = mn p.2.2 (amt (slotOf p) l2) := rfl
    rw [e]
    refine brD (fun hpos => ?_) (fun hno => ?_)
    · intro w27 hev hun
      have hA := hA.evo (by intro d hd; simp at hd; omega) hev hun
      have ho := ho.evo (fun d hd hn => absurd hd hn) hev
      have e1 : least1 l2 p = some (p.1, p.2.1, mn p.2.2 (amt (slotOf p) l2)) := if_pos hpos
      rw [e1] at htk
      refine opw_push (f := partE) (e' := 46) (bytes := 24) hA ho (p.1, p.2.1, mn p.2.2 (amt (slotOf p) l2)) (by kernel_rfl) (by kernel_rfl) rfl (fun _ _ => rfl) (part_one _) (by omega) (by omega) fun a2 c2 w35 hA ho _ _ => ?_
      refine ⟨⟨hA.off, i + 1, rfl, by omega, ?_⟩, by simp only; omega⟩
      simp only
      rw [htk]
      exact ho.more (by simp)
    · intro w38 hev hun
      have hA := hA.evo (by intro d hd; simp at hd; omega) hev hun
      have ho := ho.evo (fun d hd hn => absurd hd hn) hev
      have e1 : least1 l2 p = none := if_neg hno
      rw [e1] at htk
      refine ⟨⟨hA.off, i + 1, rfl, by omega, ?_⟩, by simp only; omega⟩
      simp only
      rw [htk]
      simpa using ho.more (gs' := []) (by simp)
  · rw [show i = l1.length by omega, List.take_length] at ho
    exact leafl h hA ho (by rw [leastL, if_pos ⟨hv1, hv2⟩])

/-! ### Few -/
abbrev LsR (W : World) (ls : List (List PartT)) (a : Option Addr) (n c : Nat) : Prop := SlR W 1 (fun l cs => ∃ a n c, cs = [Value.slice a n c] ∧ SlE W 3 partE l a n c) ls a n c
def fewL (ls : List (List PartT)) : Bool := ls.all fun l => decide (l.length ≤ 150)
theorem all_take {α : Type} {p : α → Bool} {l : List α} {i : Nat} {x : α} (hx : l[i]? = some x) : (l.take (i + 1)).all p = ((l.take i).all p && p x) := by
  rw [List.take_add_one, hx, List.all_append]; simp
theorem c9 {ls : List (List PartT)} {a : Option Addr} {n c : Nat} (w : World) (hs : LsR w ls a n c) : Ret Tryd.prog 9 #[.slice a n c] w (.bool (fewL ls)) := by
  intro R h
  refine f9_calls a n c w R ?_
  unfold f9_vc
  have hn := hs.1
  have hmx := hs.2.1
  have hmx2 := hs.2.2.1
  simp only [maxLen] at hmx2
  refine ⟨fun v W' => At w [] W' ∧ ∃ i : Nat, v.1 = i ∧ i ≤ ls.length ∧ fewL (ls.take i) = true, fun v _ => (n - v.1).toNat, ⟨At.refl w, 0, rfl, Nat.zero_le _, rfl⟩, ?_⟩
  rintro x3 w4 ⟨hA, i, hi, hil, hf⟩
  simp only at hi
  subst hi
  refine brD (fun hlt => ?_) (fun hge => leaf h hA ?_)
  · obtain ⟨l, hl⟩ : ∃ x, ls[i]? = some x := ⟨_, List.getElem?_eq_getElem (by omega)⟩
    obtain ⟨b, cs, rfl, _, hcs, a', n', c', rfl, hsl⟩ := hs.at_ hl
    have hnl := hsl.1
    have hel : Elt w4 (b.add (i * 1)) [Value.slice a' n' c'] := Elt.below (fun j v hv => hcs j v hv) hA.below
    have htk : fewL (ls.take (i + 1)) = (fewL (ls.take i) && decide (l.length ≤ 150)) := all_take hl
    refine ⟨_, gives_index (e := 22) (n := 1) (by kernel_rfl) (by kernel_rfl) (by omega), _, _, _, hel.one (by kernel_rfl) (by simp), ?_⟩
    rw [succ_i i (by omega)]
    refine brD (fun hb => leaf h hA ?_) (fun hb => ⟨⟨hA, i + 1, rfl, by omega, ?_⟩, by simp only; omega⟩)
    · have : fewL ls = false := by
        cases e : fewL ls with
        | false => rfl
        | true =>
          have := List.all_eq_true.1 e l (List.mem_of_getElem? hl)
          simp only [decide_eq_true_eq] at this
          omega
      rw [this]
    · rw [htk, hf, Bool.true_and]
      exact decide_eq_true (by omega)
  · rw [show i = ls.length by omega, List.take_length] at hf
    rw [hf]
abbrev RawS := Option Addr × Nat × Nat
abbrev rawS (x : RawS) : List Value := [.slice x.1 x.2.1 x.2.2]
theorem LsR_of {raws : List RawS} {ls : List (List PartT)} {a : Option Addr} {n c : Nat} (hs : SlE W 1 rawS raws a n c) (hl : raws.length = ls.length) (hm : ∀ (i : Nat) x y, raws[i]? = some x → ls[i]? = some y → SlE W 3 partE y x.1 x.2.1 x.2.2) : LsR W ls a n c := by
  refine ⟨by rw [← hl]; exact hs.1, hs.2.1, hs.2.2.1, hs.2.2.2.1, fun i y hy => ?_⟩
  obtain ⟨x, hx⟩ : ∃ x, raws[i]? = some x := ⟨_, List.getElem?_eq_getElem (by have := (List.getElem?_eq_some_iff.1 hy).1; omega)⟩
  obtain ⟨ad, cs, ha, hlc, hcs, rfl⟩ := hs.at_ hx
  exact ⟨ad, _, ha, hlc, hcs, _, _, _, rfl, hm i x y hx hy⟩

/-! ### What works -/
def wa : List PartT := [(0, 0, 1000), (1, 0, 3000)]
def wb : List PartT := [(0, 3, 1000), (1, 3, 3000)]
theorem w_of : vof [(0, 0, 500), (1, 0, 3000), (0, 0, 500)] = some wa := by decide +kernel
theorem w_move : vmove wa 0 3 = some wb := by decide +kernel
theorem nm0 : nmOf 0 = sCpus := by decide
theorem nm1 : nmOf 1 = sMem := by decide
theorem tx1 : txtL 1000 = [49] := by
  unfold txtL
  rw [if_pos (by decide), if_pos (by decide)]
  exact digit1 (d := 1) (by decide)
theorem tx3 : txtL 3000 = [51] := by
  unfold txtL
  rw [if_pos (by decide), if_pos (by decide)]
  exact digit1 (d := 3) (by decide)
theorem w_ta : vtext wa = ByteArray.mk #[99, 112, 117, 115, 58, 49, 44, 109, 101, 109, 58, 51] := by
  unfold vtext wa
  rw [if_pos (by decide), if_neg (by decide)]
  simp only [List.map_cons, List.map_nil, wordB, stext, tx1, tx3]
  rw [if_pos (by decide), if_pos trivial, if_pos (by decide), if_pos trivial, nm0, nm1]
  decide
theorem w_tb : vtext wb = ByteArray.mk #[99, 112, 117, 115, 40, 51, 41, 58, 49, 44, 109, 101, 109, 40, 51, 41, 58, 51] := by
  unfold vtext wb
  rw [if_pos (by decide), if_neg (by decide)]
  simp only [List.map_cons, List.map_nil, wordB, stext, tx1, tx3]
  rw [if_pos (by decide), if_neg (by decide), if_pos (by decide), if_neg (by decide), nm0, nm1, digit1 (d := 3) (by decide)]
  decide
theorem c13 (w : World) (hT : Tab w) : RetW Tryd.prog 13 #[] w (.bool true) := by
  intro R h
  refine f13_calls w R ?_
  unfold f13_vc
  refine opw_litL (e' := 46) (f := partE) (size := 3) (l := [(0, 0, 500), (1, 0, 3000), (0, 0, 500)]) (At.refl w) rfl (fun _ _ => rfl) (by decide) (by kernel_rfl) fun g1 w2 _ hA _ hb2 ho1 => ⟨_, _, _, rfl, ?_⟩
  refine at_calllb hA (c14 w2 (ho1.sl fun _ _ => rfl) (by decide) (fun p hp => ?_)) (fun _ _ => rfl) fun a8 d8 w7 hA _ hb7 _ s8 => ⟨_, _, _, _, rfl, ?_⟩
  · simp at hp
    unfold I64
    rcases hp with rfl | rfl | rfl <;> decide
  rw [w_of] at s8 ⊢
  have s8 : SlE w7 3 partE wa a8 2 d8 := s8
  refine at_calllb hA (c21 0 3 w7 s8 (by decide)) (fun _ _ => rfl) fun a14 d14 w13 hA _ hb13 _ s14 => ⟨_, _, _, _, rfl, ?_⟩
  rw [w_move] at s14 ⊢
  have s14 : SlE w13 3 partE wb a14 2 d14 := s14
  have s8 := s8.call hb13
  refine brB (fun _ => ?_) (fun e => by cases e)
  refine c33 w13 (hT.below hA.below) s8 _ fun w19 hb19 => ⟨_, rfl, ?_⟩
  rw [w_ta]
  refine ⟨fun _ => brB (fun _ => ?_) (fun e => by cases e), fun e => by simp at e⟩
  refine c33 w19 ((hT.below hA.below).low hb19) (SlE.low s14 hb19) _ fun w22 hb22 => ⟨_, rfl, ?_⟩
  rw [w_tb]
  refine ⟨fun _ => ?_, fun e => by simp at e⟩
  have s8 := SlE.low (SlE.low s8 hb19) hb22
  have s14 := SlE.low (SlE.low s14 hb19) hb22
  have hbw : Below w.heap.size w w22 := (hA.below.below.trans (hb19.mono hA.size)).trans (hb22.mono (Nat.le_trans hA.size hb19.size))
  refine c10 w22 s8 s8 (by decide) _ fun w25 hb25 => ⟨_, rfl, brB (fun _ => ?_) (fun e => ?_)⟩
  · refine c10 w25 (s14.call hb25) (s8.call hb25) (by decide) _ fun w28 hb28 => ⟨_, rfl, ?_⟩
    have := h w28 ((hbw.trans (hb25.below.mono (Nat.le_trans hA.size (Nat.le_trans hb19.size hb22.size)))).trans (hb28.below.mono (Nat.le_trans hA.size (Nat.le_trans hb19.size (Nat.le_trans hb22.size hb25.size)))))
    exact this
  · exact absurd e (by decide)
end Go.Vc.VD

/- The formulas of functions, printed by a program (VcTool.lean): each is what the generator's formula comes to, by the kernel's reckoning; whoever proves one has the function's contract. -/
set_option maxRecDepth 100000
set_option maxHeartbeats 1000000
set_option linter.unusedVariables false
namespace Vcx
open Go Go.Vc Go.RowKit
/-! manciple/manciplelaw05.VecOrder -/
def h3 : Hints := ⟨[], [], [12, 34, 19, 23, 28, 39, 45, 50], [], [], [], [(5, ⟨[], []⟩)], [], []⟩
def f3_vc (aa : Option Addr) (an : Nat) (ac : Nat) (ba : Option Addr) (bn : Nat) (bc : Nat) (ca : Option Addr) (cn : Nat) (cc : Nat) (w : World) (R : Ending → World → Prop) : Prop :=
 OpW Proofs.Tryd.prog (valueS (Instr.buildSlice 44 3 #[(0, Value.slice aa an ac), (1, Value.slice ba bn bc), (2, Value.slice ca cn cc)])) w fun (v1 : Value) (w2 : World) =>
 ∃ (a3 : Option Addr),
 ∃ (n4 : Nat),
 ∃ (n5 : Nat),
 v1 = Value.slice a3 n4 n5 ∧
 Calls Proofs.Tryd.prog 9 #[Value.slice a3 n4 n5] w2 fun (e6 : Ending) (w7 : World) =>
 ∃ (b8 : Bool),
 e6 = Ending.returned (Value.bool b8) ∧
 ((!b8) = true → R (Ending.returned (Value.bool true)) w7) ∧
 ((!b8) = false →
 ∃ (J9 : Unit → World → Prop),
 (Calls Proofs.Tryd.prog 10 #[Value.slice aa an ac, Value.slice aa an ac] w7 fun (e10 : Ending) (w11 : World) =>
 ∃ (b12 : Bool),
 e10 = Ending.returned (Value.bool b12) ∧
 Calls Proofs.Tryd.prog 11 #[Value.slice aa an ac] w11 fun (e13 : Ending) (w14 : World) =>
 ∃ (b15 : Bool),
 e13 = Ending.returned (Value.bool b15) ∧
 ((!b12 == b15) = true → R (Ending.returned (Value.bool false)) w14) ∧
 ((!b12 == b15) = false →
 Calls Proofs.Tryd.prog 10 #[Value.slice aa an ac, Value.slice ba bn bc] w14 fun (e16 : Ending) (w17 : World) =>
 ∃ (b18 : Bool),
 e16 = Ending.returned (Value.bool b18) ∧
 (b18 = true →
 Calls Proofs.Tryd.prog 10 #[Value.slice ba bn bc, Value.slice aa an ac] w17 fun (e19 : Ending) (w20 : World) =>
 ∃ (b21 : Bool),
 e19 = Ending.returned (Value.bool b21) ∧
 (b21 = true →
 Calls Proofs.Tryd.prog 12 #[Value.slice aa an ac, Value.slice ba bn bc] w20 fun (e22 : Ending) (w23 : World) =>
 ∃ (b24 : Bool), e22 = Ending.returned (Value.bool b24) ∧ ((!b24) = true → R (Ending.returned (Value.bool false)) w23) ∧ ((!b24) = false → J9 () w23)) ∧
 (b21 = false → J9 () w20)) ∧
 (b18 = false → J9 () w17))) ∧
 ∀ (w25 : World),
 J9 () w25 →
 Calls Proofs.Tryd.prog 10 #[Value.slice aa an ac, Value.slice ba bn bc] w25 fun (e26 : Ending) (w27 : World) =>
 ∃ (b28 : Bool),
 e26 = Ending.returned (Value.bool b28) ∧
 ((!b28) = true → Calls Proofs.Tryd.prog 13 #[] w27 fun (e29 : Ending) (w30 : World) => ∃ (b31 : Bool), e29 = Ending.returned (Value.bool b31) ∧ R (Ending.returned (Value.bool b31)) w30) ∧
 ((!b28) = false →
 Calls Proofs.Tryd.prog 10 #[Value.slice ba bn bc, Value.slice ca cn cc] w27 fun (e32 : Ending) (w33 : World) =>
 ∃ (b34 : Bool),
 e32 = Ending.returned (Value.bool b34) ∧
 ((!b34) = true → Calls Proofs.Tryd.prog 13 #[] w33 fun (e35 : Ending) (w36 : World) => ∃ (b37 : Bool), e35 = Ending.returned (Value.bool b37) ∧ R (Ending.returned (Value.bool b37)) w36) ∧
 ((!b34) = false →
 Calls Proofs.Tryd.prog 10 #[Value.slice aa an ac, Value.slice ca cn cc] w33 fun (e38 : Ending) (w39 : World) =>
 ∃ (b40 : Bool),
 e38 = Ending.returned (Value.bool b40) ∧
 (b40 = true → Calls Proofs.Tryd.prog 13 #[] w39 fun (e41 : Ending) (w42 : World) => ∃ (b43 : Bool), e41 = Ending.returned (Value.bool b43) ∧ R (Ending.returned (Value.bool b43)) w42) ∧
 (b40 = false → R (Ending.returned (Value.bool false)) w39))))
theorem f3_eq (aa : Option Addr) (an : Nat) (ac : Nat) (ba : Option Addr) (bn : Nat) (bc : Nat) (ca : Option Addr) (cn : Nat) (cc : Nat) (w : World) (R : Ending → World → Prop) : (fnF Go.Proofs.Tryd.prog h3 Go.Proofs.Tryd.f3 [Value.slice aa an ac, Value.slice ba bn bc, Value.slice ca cn cc] w R).den = f3_vc aa an ac ba bn bc ca cn cc w R := by kernel_rfl
theorem f3_calls (aa : Option Addr) (an : Nat) (ac : Nat) (ba : Option Addr) (bn : Nat) (bc : Nat) (ca : Option Addr) (cn : Nat) (cc : Nat) (w : World) (R : Ending → World → Prop) (h : f3_vc aa an ac ba bn bc ca cn cc w R) : Calls Go.Proofs.Tryd.prog 3 (List.toArray [Value.slice aa an ac, Value.slice ba bn bc, Value.slice ca cn cc]) w R :=
 fn_sound (H := h3) (fn := Go.Proofs.Tryd.f3) (by kernel_rfl) (by kernel_rfl) (by kernel_rfl) ((f3_eq aa an ac ba bn bc ca cn cc w R).mpr h)


/-! manciple/manciplelaw05.VecOf -/
def h4 : Hints := ⟨[5], [], [15, 29, 34, 41, 50, 59, 65], [(5, [0, 1, 2, 3, 4, 5, 6, 7, 8, 9, 11, 10, 12, 13, 14, 15, 16, 17, 19, 20, 18, 21, 22, 23, 24, 25, 26, 28, 29, 27, 30, 31, 32, 33, 34, 36, 35, 37, 38, 39, 40, 41, 42])], [], [], [], [], []⟩
def f4_vc (la : Option Addr) (ln : Nat) (lc : Nat) (va : Option Addr) (vn : Nat) (vc : Nat) (s_0 : Int) (s_1 : Int) (w : World) (R : Ending → World → Prop) : Prop :=
 ∀ (n1 : Nat),
 w.heap.size ≤ n1 →
 ∀ (w2 : World),
 Bel w w2 →
 Under [n1] w2 →
 OpW Proofs.Tryd.prog (valueS (Instr.buildSlice 44 2 #[(0, Value.slice la ln lc), (1, Value.slice va vn vc)])) w2 fun (v3 : Value) (w4 : World) =>
 ∃ (a5 : Option Addr),
 ∃ (n6 : Nat),
 ∃ (n7 : Nat),
 v3 = Value.slice a5 n6 n7 ∧
 Keeps [n1] w2 w4 ∧
 Calls Proofs.Tryd.prog 9 #[Value.slice a5 n6 n7] w4 fun (e8 : Ending) (w9 : World) =>
 ∃ (b10 : Bool),
 e8 = Ending.returned (Value.bool b10) ∧
 Keeps [n1] w4 w9 ∧
 ((!b10) = true → R (Ending.returned (Value.bool true)) w9) ∧
 ((!b10) = false →
 Calls Proofs.Tryd.prog 14 #[Value.slice la ln lc] w9 fun (e11 : Ending) (w12 : World) =>
 ∃ (a13 : Option Addr),
 ∃ (n14 : Nat),
 ∃ (n15 : Nat),
 ∃ (b16 : Bool),
 e11 = Ending.returned (Value.tuple #[Value.slice a13 n14 n15, Value.bool b16]) ∧
 Keeps [n1] w9 w12 ∧
 Calls Proofs.Tryd.prog 15 #[Value.slice la ln lc] w12 fun (e17 : Ending) (w18 : World) =>
 ∃ (a19 : Option Addr),
 ∃ (n20 : Nat),
 ∃ (n21 : Nat),
 ∃ (b22 : Bool),
 e17 = Ending.returned (Value.tuple #[Value.slice a19 n20 n21, Value.bool b22]) ∧
 Keeps [n1] w12 w18 ∧
 ∀ (w23 : World),
 Bel w18 w23 →
 Under [n1] w23 →
 Calls Proofs.Tryd.prog 16 #[Value.slice a13 n14 n15, Value.slice a19 n20 n21] w23 fun (e24 : Ending) (w25 : World) =>
 ∃ (b26 : Bool),
 e24 = Ending.returned (Value.bool b26) ∧
 Keeps [n1] w23 w25 ∧
 (b26 = true →
 ((b16 == b22) = true →
 Calls Proofs.Tryd.prog 11 #[Value.slice va vn vc] w25 fun (e27 : Ending) (w28 : World) =>
 ∃ (b29 : Bool),
 e27 = Ending.returned (Value.bool b29) ∧
 Keeps [n1] w25 w28 ∧
 Calls Proofs.Tryd.prog 17 #[Value.slice va vn vc] w28 fun (e30 : Ending) (w31 : World) =>
 ∃ (b32 : Bool),
 e30 = Ending.returned (Value.bool b32) ∧
 Keeps [n1] w28 w31 ∧
 ((b29 == b32) = true →
 Calls Proofs.Tryd.prog 18 #[Value.slice va vn vc, Value.agg #[Value.int IntKind.i64 s_0, Value.int IntKind.i64 s_1]] w31
 fun (e33 : Ending) (w34 : World) =>
 ∃ (x35 : Int),
 e33 = Ending.returned (Value.int IntKind.i64 x35) ∧
 Keeps [n1] w31 w34 ∧
 Calls Proofs.Tryd.prog 19 #[Value.slice va vn vc, Value.agg #[Value.int IntKind.i64 s_0, Value.int IntKind.i64 s_1]] w34
 fun (e36 : Ending) (w37 : World) =>
 ∃ (x38 : Int),
 e36 = Ending.returned (Value.int IntKind.i64 x38) ∧
 Keeps [n1] w34 w37 ∧
 ((x35 == x38) = true →
 Calls Proofs.Tryd.prog 12 #[Value.slice la ln lc, Value.slice va vn vc] w37 fun (e39 : Ending) (w40 : World) =>
 ∃ (b41 : Bool),
 e39 = Ending.returned (Value.bool b41) ∧
 Keeps [n1] w37 w40 ∧
 Calls Proofs.Tryd.prog 16 #[Value.slice la ln lc, Value.slice va vn vc] w40
 fun (e42 : Ending) (w43 : World) =>
 ∃ (b44 : Bool),
 e42 = Ending.returned (Value.bool b44) ∧
 Keeps [n1] w40 w43 ∧
 ((b41 == b44) = true →
 Calls Proofs.Tryd.prog 20 #[Value.slice va vn vc] w43 fun (e45 : Ending) (w46 : World) =>
 ∃ (a47 : Option Addr),
 ∃ (n48 : Nat),
 ∃ (n49 : Nat),
 e45 = Ending.returned (Value.slice a47 n48 n49) ∧
 Keeps [n1] w43 w46 ∧
 Calls Proofs.Tryd.prog 16 #[Value.slice a47 n48 n49, Value.slice va vn vc] w46
 fun (e50 : Ending) (w51 : World) =>
 ∃ (b52 : Bool),
 e50 = Ending.returned (Value.bool b52) ∧
 Keeps [n1] w46 w51 ∧
 (b52 = true →
 Calls Proofs.Tryd.prog 13 #[] w51 fun (e53 : Ending) (w54 : World) =>
 ∃ (b55 : Bool),
 e53 = Ending.returned (Value.bool b55) ∧
 Keeps [n1] w51 w54 ∧ R (Ending.returned (Value.bool b55)) w54) ∧
 (b52 = false → R (Ending.returned (Value.bool false)) w51)) ∧
 ((b41 == b44) = false → R (Ending.returned (Value.bool false)) w43)) ∧
 ((x35 == x38) = false → R (Ending.returned (Value.bool false)) w37)) ∧
 ((b29 == b32) = false → R (Ending.returned (Value.bool false)) w31)) ∧
 ((b16 == b22) = false → R (Ending.returned (Value.bool false)) w25)) ∧
 (b26 = false → R (Ending.returned (Value.bool false)) w25))
theorem f4_eq (la : Option Addr) (ln : Nat) (lc : Nat) (va : Option Addr) (vn : Nat) (vc : Nat) (s_0 : Int) (s_1 : Int) (w : World) (R : Ending → World → Prop) : (fnF Go.Proofs.Tryd.prog h4 Go.Proofs.Tryd.f4 [Value.slice la ln lc, Value.slice va vn vc, Value.agg #[Value.int IntKind.i64 s_0, Value.int IntKind.i64 s_1]] w R).den = f4_vc la ln lc va vn vc s_0 s_1 w R := by kernel_rfl
theorem f4_calls (la : Option Addr) (ln : Nat) (lc : Nat) (va : Option Addr) (vn : Nat) (vc : Nat) (s_0 : Int) (s_1 : Int) (w : World) (R : Ending → World → Prop) (h : f4_vc la ln lc va vn vc s_0 s_1 w R) : Calls Go.Proofs.Tryd.prog 4 (List.toArray [Value.slice la ln lc, Value.slice va vn vc, Value.agg #[Value.int IntKind.i64 s_0, Value.int IntKind.i64 s_1]]) w R :=
 fn_sound (H := h4) (fn := Go.Proofs.Tryd.f4) (by kernel_rfl) (by kernel_rfl) (by kernel_rfl) ((f4_eq la ln lc va vn vc s_0 s_1 w R).mpr h)


/-! manciple/manciplelaw05.VecMoves -/
def h5 : Hints := ⟨[], [], [14, 32, 37, 49, 60, 66], [], [], [], [], [], []⟩
def f5_vc (va : Option Addr) (vn : Nat) (vc : Nat) (from' : Int) (to' : Int) (w : World) (R : Ending → World → Prop) : Prop :=
 OpW Proofs.Tryd.prog (valueS (Instr.buildSlice 44 1 #[(0, Value.slice va vn vc)])) w fun (v1 : Value) (w2 : World) =>
 ∃ (a3 : Option Addr),
 ∃ (n4 : Nat),
 ∃ (n5 : Nat),
 v1 = Value.slice a3 n4 n5 ∧
 Calls Proofs.Tryd.prog 9 #[Value.slice a3 n4 n5] w2 fun (e6 : Ending) (w7 : World) =>
 ∃ (b8 : Bool),
 e6 = Ending.returned (Value.bool b8) ∧
 ((!b8) = true → R (Ending.returned (Value.bool true)) w7) ∧
 ((!b8) = false →
 Calls Proofs.Tryd.prog 21 #[Value.slice va vn vc, Value.int IntKind.i64 from', Value.int IntKind.i64 to'] w7 fun (e9 : Ending) (w10 : World) =>
 ∃ (a11 : Option Addr),
 ∃ (n12 : Nat),
 ∃ (n13 : Nat),
 ∃ (b14 : Bool),
 e9 = Ending.returned (Value.tuple #[Value.slice a11 n12 n13, Value.bool b14]) ∧
 Calls Proofs.Tryd.prog 22 #[Value.slice va vn vc, Value.int IntKind.i64 from', Value.int IntKind.i64 to'] w10 fun (e15 : Ending) (w16 : World) =>
 ∃ (a17 : Option Addr),
 ∃ (n18 : Nat),
 ∃ (n19 : Nat),
 ∃ (b20 : Bool),
 e15 = Ending.returned (Value.tuple #[Value.slice a17 n18 n19, Value.bool b20]) ∧
 Calls Proofs.Tryd.prog 16 #[Value.slice a11 n12 n13, Value.slice a17 n18 n19] w16 fun (e21 : Ending) (w22 : World) =>
 ∃ (b23 : Bool),
 e21 = Ending.returned (Value.bool b23) ∧
 (b23 = true →
 ((b14 == b20) = true →
 OpW Proofs.Tryd.prog (valueS (Instr.buildSlice 60 2 #[(0, Value.int IntKind.i64 from'), (1, Value.int IntKind.i64 to')])) w22 fun (v24 : Value) (w25 : World) =>
 ∃ (a26 : Option Addr),
 ∃ (n27 : Nat),
 ∃ (n28 : Nat),
 v24 = Value.slice a26 n27 n28 ∧
 Calls Proofs.Tryd.prog 23 #[Value.slice va vn vc, Value.slice a26 n27 n28] w25 fun (e29 : Ending) (w30 : World) =>
 ∃ (a31 : Option Addr),
 ∃ (n32 : Nat),
 ∃ (n33 : Nat),
 e29 = Ending.returned (Value.slice a31 n32 n33) ∧
 Calls Proofs.Tryd.prog 24 #[Value.slice va vn vc, Value.int IntKind.i64 from', Value.int IntKind.i64 to'] w30 fun (e34 : Ending) (w35 : World) =>
 ∃ (a36 : Option Addr),
 ∃ (n37 : Nat),
 ∃ (n38 : Nat),
 e34 = Ending.returned (Value.slice a36 n37 n38) ∧
 Calls Proofs.Tryd.prog 16 #[Value.slice a31 n32 n33, Value.slice a36 n37 n38] w35 fun (e39 : Ending) (w40 : World) =>
 ∃ (b41 : Bool),
 e39 = Ending.returned (Value.bool b41) ∧
 (b41 = true →
 OpW Proofs.Tryd.prog (valueS (Instr.buildSlice 60 1 #[(0, Value.int IntKind.i64 to')])) w40 fun (v42 : Value) (w43 : World) =>
 ∃ (a44 : Option Addr),
 ∃ (n45 : Nat),
 ∃ (n46 : Nat),
 v42 = Value.slice a44 n45 n46 ∧
 Calls Proofs.Tryd.prog 23 #[Value.slice va vn vc, Value.slice a44 n45 n46] w43 fun (e47 : Ending) (w48 : World) =>
 ∃ (a49 : Option Addr),
 ∃ (n50 : Nat),
 ∃ (n51 : Nat),
 e47 = Ending.returned (Value.slice a49 n50 n51) ∧
 Calls Proofs.Tryd.prog 24 #[Value.slice va vn vc, Value.int IntKind.i64 to', Value.int IntKind.i64 to'] w48
 fun (e52 : Ending) (w53 : World) =>
 ∃ (a54 : Option Addr),
 ∃ (n55 : Nat),
 ∃ (n56 : Nat),
 e52 = Ending.returned (Value.slice a54 n55 n56) ∧
 Calls Proofs.Tryd.prog 16 #[Value.slice a49 n50 n51, Value.slice a54 n55 n56] w53
 fun (e57 : Ending) (w58 : World) =>
 ∃ (b59 : Bool),
 e57 = Ending.returned (Value.bool b59) ∧
 (b59 = true →
 Calls Proofs.Tryd.prog 23 #[Value.slice va vn vc, Value.slice none 0 0] w58
 fun (e60 : Ending) (w61 : World) =>
 ∃ (a62 : Option Addr),
 ∃ (n63 : Nat),
 ∃ (n64 : Nat),
 e60 = Ending.returned (Value.slice a62 n63 n64) ∧
 (((↑n63 : Int) == 0) = true →
 Calls Proofs.Tryd.prog 13 #[] w61 fun (e65 : Ending) (w66 : World) =>
 ∃ (b67 : Bool),
 e65 = Ending.returned (Value.bool b67) ∧ R (Ending.returned (Value.bool b67)) w66) ∧
 (((↑n63 : Int) == 0) = false → R (Ending.returned (Value.bool false)) w61)) ∧
 (b59 = false → R (Ending.returned (Value.bool false)) w58)) ∧
 (b41 = false → R (Ending.returned (Value.bool false)) w40)) ∧
 ((b14 == b20) = false → R (Ending.returned (Value.bool false)) w22)) ∧
 (b23 = false → R (Ending.returned (Value.bool false)) w22))
theorem f5_eq (va : Option Addr) (vn : Nat) (vc : Nat) (from' : Int) (to' : Int) (w : World) (R : Ending → World → Prop) : (fnF Go.Proofs.Tryd.prog h5 Go.Proofs.Tryd.f5 [Value.slice va vn vc, Value.int IntKind.i64 from', Value.int IntKind.i64 to'] w R).den = f5_vc va vn vc from' to' w R := by kernel_rfl
theorem f5_calls (va : Option Addr) (vn : Nat) (vc : Nat) (from' : Int) (to' : Int) (w : World) (R : Ending → World → Prop) (h : f5_vc va vn vc from' to' w R) : Calls Go.Proofs.Tryd.prog 5 (List.toArray [Value.slice va vn vc, Value.int IntKind.i64 from', Value.int IntKind.i64 to']) w R :=
 fn_sound (H := h5) (fn := Go.Proofs.Tryd.f5) (by kernel_rfl) (by kernel_rfl) (by kernel_rfl) ((f5_eq va vn vc from' to' w R).mpr h)


/-! manciple/manciplelaw05.VecSums -/
def h6 : Hints := ⟨[], [], [17, 45, 50, 55, 60, 69, 78], [], [], [], [], [], []⟩
def f6_vc (aa : Option Addr) (an : Nat) (ac : Nat) (ba : Option Addr) (bn : Nat) (bc : Nat) (w : World) (R : Ending → World → Prop) : Prop :=
 OpW Proofs.Tryd.prog (valueS (Instr.buildSlice 44 2 #[(0, Value.slice aa an ac), (1, Value.slice ba bn bc)])) w fun (v1 : Value) (w2 : World) =>
 ∃ (a3 : Option Addr),
 ∃ (n4 : Nat),
 ∃ (n5 : Nat),
 v1 = Value.slice a3 n4 n5 ∧
 Calls Proofs.Tryd.prog 9 #[Value.slice a3 n4 n5] w2 fun (e6 : Ending) (w7 : World) =>
 ∃ (b8 : Bool),
 e6 = Ending.returned (Value.bool b8) ∧
 ((!b8) = true → R (Ending.returned (Value.bool true)) w7) ∧
 ((!b8) = false →
 Calls Proofs.Tryd.prog 25 #[Value.slice aa an ac, Value.slice ba bn bc] w7 fun (e9 : Ending) (w10 : World) =>
 ∃ (a11 : Option Addr),
 ∃ (n12 : Nat),
 ∃ (n13 : Nat),
 ∃ (b14 : Bool),
 e9 = Ending.returned (Value.tuple #[Value.slice a11 n12 n13, Value.bool b14]) ∧
 Calls Proofs.Tryd.prog 26 #[Value.slice aa an ac, Value.slice ba bn bc] w10 fun (e15 : Ending) (w16 : World) =>
 ∃ (a17 : Option Addr),
 ∃ (n18 : Nat),
 ∃ (n19 : Nat),
 ∃ (b20 : Bool),
 e15 = Ending.returned (Value.tuple #[Value.slice a17 n18 n19, Value.bool b20]) ∧
 Calls Proofs.Tryd.prog 27 #[Value.slice aa an ac, Value.slice ba bn bc] w16 fun (e21 : Ending) (w22 : World) =>
 ∃ (a23 : Option Addr),
 ∃ (n24 : Nat),
 ∃ (n25 : Nat),
 ∃ (b26 : Bool),
 e21 = Ending.returned (Value.tuple #[Value.slice a23 n24 n25, Value.bool b26]) ∧
 Calls Proofs.Tryd.prog 28 #[Value.slice aa an ac, Value.slice ba bn bc] w22 fun (e27 : Ending) (w28 : World) =>
 ∃ (a29 : Option Addr),
 ∃ (n30 : Nat),
 ∃ (n31 : Nat),
 ∃ (b32 : Bool),
 e27 = Ending.returned (Value.tuple #[Value.slice a29 n30 n31, Value.bool b32]) ∧
 Calls Proofs.Tryd.prog 16 #[Value.slice a11 n12 n13, Value.slice a17 n18 n19] w28 fun (e33 : Ending) (w34 : World) =>
 ∃ (b35 : Bool),
 e33 = Ending.returned (Value.bool b35) ∧
 (b35 = true →
 ((b14 == b20) = true →
 Calls Proofs.Tryd.prog 16 #[Value.slice a23 n24 n25, Value.slice a29 n30 n31] w34 fun (e36 : Ending) (w37 : World) =>
 ∃ (b38 : Bool),
 e36 = Ending.returned (Value.bool b38) ∧
 (b38 = true →
 ((b26 == b32) = true →
 Calls Proofs.Tryd.prog 29 #[Value.slice aa an ac, Value.slice ba bn bc] w37 fun (e39 : Ending) (w40 : World) =>
 ∃ (a41 : Option Addr),
 ∃ (n42 : Nat),
 ∃ (n43 : Nat),
 e39 = Ending.returned (Value.slice a41 n42 n43) ∧
 Calls Proofs.Tryd.prog 30 #[Value.slice aa an ac, Value.slice ba bn bc] w40 fun (e44 : Ending) (w45 : World) =>
 ∃ (a46 : Option Addr),
 ∃ (n47 : Nat),
 ∃ (n48 : Nat),
 e44 = Ending.returned (Value.slice a46 n47 n48) ∧
 Calls Proofs.Tryd.prog 16 #[Value.slice a41 n42 n43, Value.slice a46 n47 n48] w45 fun (e49 : Ending) (w50 : World) =>
 ∃ (b51 : Bool),
 e49 = Ending.returned (Value.bool b51) ∧
 (b51 = true →
 Calls Proofs.Tryd.prog 10 #[Value.slice aa an ac, Value.slice ba bn bc] w50 fun (e52 : Ending) (w53 : World) =>
 ∃ (b54 : Bool),
 e52 = Ending.returned (Value.bool b54) ∧
 Calls Proofs.Tryd.prog 31 #[Value.slice aa an ac, Value.slice ba bn bc] w53
 fun (e55 : Ending) (w56 : World) =>
 ∃ (b57 : Bool),
 e55 = Ending.returned (Value.bool b57) ∧
 ((b54 == b57) = true →
 Calls Proofs.Tryd.prog 13 #[] w56 fun (e58 : Ending) (w59 : World) =>
 ∃ (b60 : Bool),
 e58 = Ending.returned (Value.bool b60) ∧ R (Ending.returned (Value.bool b60)) w59) ∧
 ((b54 == b57) = false → R (Ending.returned (Value.bool false)) w56)) ∧
 (b51 = false → R (Ending.returned (Value.bool false)) w50)) ∧
 ((b26 == b32) = false → R (Ending.returned (Value.bool false)) w37)) ∧
 (b38 = false → R (Ending.returned (Value.bool false)) w37)) ∧
 ((b14 == b20) = false → R (Ending.returned (Value.bool false)) w34)) ∧
 (b35 = false → R (Ending.returned (Value.bool false)) w34))
theorem f6_eq (aa : Option Addr) (an : Nat) (ac : Nat) (ba : Option Addr) (bn : Nat) (bc : Nat) (w : World) (R : Ending → World → Prop) : (fnF Go.Proofs.Tryd.prog h6 Go.Proofs.Tryd.f6 [Value.slice aa an ac, Value.slice ba bn bc] w R).den = f6_vc aa an ac ba bn bc w R := by kernel_rfl
theorem f6_calls (aa : Option Addr) (an : Nat) (ac : Nat) (ba : Option Addr) (bn : Nat) (bc : Nat) (w : World) (R : Ending → World → Prop) (h : f6_vc aa an ac ba bn bc w R) : Calls Go.Proofs.Tryd.prog 6 (List.toArray [Value.slice aa an ac, Value.slice ba bn bc]) w R :=
 fn_sound (H := h6) (fn := Go.Proofs.Tryd.f6) (by kernel_rfl) (by kernel_rfl) (by kernel_rfl) ((f6_eq aa an ac ba bn bc w R).mpr h)


/-! manciple/manciplelaw05.VecBack -/
def h7 : Hints := ⟨[], [], [20, 41, 42, 67, 75, 36, 51, 57, 63, 71, 78, 85, 104, 107, 114, 121], [], [], [], [(11, ⟨[], []⟩), (13, ⟨[], []⟩), (12, ⟨[(75, .bool)], []⟩)], [], []⟩
def f7_vc (aa : Option Addr) (an : Nat) (ac : Nat) (ba : Option Addr) (bn : Nat) (bc : Nat) (w : World) (R : Ending → World → Prop) : Prop :=
 OpW Proofs.Tryd.prog (valueS (Instr.buildSlice 44 2 #[(0, Value.slice aa an ac), (1, Value.slice ba bn bc)])) w fun (v1 : Value) (w2 : World) =>
 ∃ (a3 : Option Addr),
 ∃ (n4 : Nat),
 ∃ (n5 : Nat),
 v1 = Value.slice a3 n4 n5 ∧
 Calls Proofs.Tryd.prog 9 #[Value.slice a3 n4 n5] w2 fun (e6 : Ending) (w7 : World) =>
 ∃ (b8 : Bool),
 e6 = Ending.returned (Value.bool b8) ∧
 ((!b8) = true → R (Ending.returned (Value.bool true)) w7) ∧
 ((!b8) = false →
 Calls Proofs.Tryd.prog 25 #[Value.slice aa an ac, Value.slice ba bn bc] w7 fun (e9 : Ending) (w10 : World) =>
 ∃ (a11 : Option Addr),
 ∃ (n12 : Nat),
 ∃ (n13 : Nat),
 ∃ (b14 : Bool),
 e9 = Ending.returned (Value.tuple #[Value.slice a11 n12 n13, Value.bool b14]) ∧
 Calls Proofs.Tryd.prog 25 #[Value.slice ba bn bc, Value.slice aa an ac] w10 fun (e15 : Ending) (w16 : World) =>
 ∃ (a17 : Option Addr),
 ∃ (n18 : Nat),
 ∃ (n19 : Nat),
 ∃ (b20 : Bool),
 e15 = Ending.returned (Value.tuple #[Value.slice a17 n18 n19, Value.bool b20]) ∧
 ((!b14 == b20) = true → R (Ending.returned (Value.bool false)) w16) ∧
 ((!b14 == b20) = false →
 Calls Proofs.Tryd.prog 12 #[Value.slice a11 n12 n13, Value.slice a17 n18 n19] w16 fun (e21 : Ending) (w22 : World) =>
 ∃ (b23 : Bool),
 e21 = Ending.returned (Value.bool b23) ∧
 ((!b23) = true → R (Ending.returned (Value.bool false)) w22) ∧
 ((!b23) = false →
 ∃ (J24 : Unit → World → Prop),
 ((b14 = true →
 Calls Proofs.Tryd.prog 27 #[Value.slice a11 n12 n13, Value.slice ba bn bc] w22 fun (e25 : Ending) (w26 : World) =>
 ∃ (a27 : Option Addr),
 ∃ (n28 : Nat),
 ∃ (n29 : Nat),
 ∃ (b30 : Bool),
 e25 = Ending.returned (Value.tuple #[Value.slice a27 n28 n29, Value.bool b30]) ∧
 ((!b30) = true → R (Ending.returned (Value.bool false)) w26) ∧
 ((!b30) = false →
 Calls Proofs.Tryd.prog 12 #[Value.slice a27 n28 n29, Value.slice aa an ac] w26 fun (e31 : Ending) (w32 : World) =>
 ∃ (b33 : Bool),
 e31 = Ending.returned (Value.bool b33) ∧
 ((!b33) = true → R (Ending.returned (Value.bool false)) w32) ∧
 ((!b33) = false →
 Calls Proofs.Tryd.prog 10 #[Value.slice a11 n12 n13, Value.slice aa an ac] w32 fun (e34 : Ending) (w35 : World) =>
 ∃ (b36 : Bool),
 e34 = Ending.returned (Value.bool b36) ∧
 ((!b36) = true → R (Ending.returned (Value.bool false)) w35) ∧
 ((!b36) = false →
 Calls Proofs.Tryd.prog 11 #[Value.slice a11 n12 n13] w35 fun (e37 : Ending) (w38 : World) =>
 ∃ (b39 : Bool),
 e37 = Ending.returned (Value.bool b39) ∧
 ((!b39) = true → R (Ending.returned (Value.bool false)) w38) ∧ ((!b39) = false → J24 () w38))))) ∧
 (b14 = false → J24 () w22)) ∧
 ∀ (w40 : World),
 J24 () w40 →
 ∃ (J41 : Unit → World → Prop),
 (∃ (J42 : Bool × Unit → World → Prop),
 (Calls Proofs.Tryd.prog 11 #[Value.slice aa an ac] w40 fun (e43 : Ending) (w44 : World) =>
 ∃ (b45 : Bool),
 e43 = Ending.returned (Value.bool b45) ∧
 ((!b45) = true → J42 (true, ()) w44) ∧
 ((!b45) = false →
 Calls Proofs.Tryd.prog 11 #[Value.slice ba bn bc] w44 fun (e46 : Ending) (w47 : World) =>
 ∃ (b48 : Bool), e46 = Ending.returned (Value.bool b48) ∧ J42 (!b48, ()) w47)) ∧
 ∀ (b49 : Bool) (w50 : World),
 J42 (b49, ()) w50 →
 (b49 = true →
 ((!b14) = true →
 Calls Proofs.Tryd.prog 29 #[Value.slice aa an ac, Value.slice ba bn bc] w50 fun (e51 : Ending) (w52 : World) =>
 ∃ (a53 : Option Addr),
 ∃ (n54 : Nat),
 ∃ (n55 : Nat),
 e51 = Ending.returned (Value.slice a53 n54 n55) ∧
 (((↑n54 : Int) == 0) = true →
 Calls Proofs.Tryd.prog 13 #[] w52 fun (e56 : Ending) (w57 : World) =>
 ∃ (b58 : Bool), e56 = Ending.returned (Value.bool b58) ∧ R (Ending.returned (Value.bool b58)) w57) ∧
 (((↑n54 : Int) == 0) = false → R (Ending.returned (Value.bool false)) w52)) ∧
 ((!b14) = false → R (Ending.returned (Value.bool false)) w50)) ∧
 (b49 = false → J41 () w50)) ∧
 ∀ (w59 : World),
 J41 () w59 →
 Calls Proofs.Tryd.prog 29 #[Value.slice aa an ac, Value.slice ba bn bc] w59 fun (e60 : Ending) (w61 : World) =>
 ∃ (a62 : Option Addr),
 ∃ (n63 : Nat),
 ∃ (n64 : Nat),
 e60 = Ending.returned (Value.slice a62 n63 n64) ∧
 Calls Proofs.Tryd.prog 27 #[Value.slice aa an ac, Value.slice a62 n63 n64] w61 fun (e65 : Ending) (w66 : World) =>
 ∃ (a67 : Option Addr),
 ∃ (n68 : Nat),
 ∃ (n69 : Nat),
 ∃ (b70 : Bool),
 e65 = Ending.returned (Value.tuple #[Value.slice a67 n68 n69, Value.bool b70]) ∧
 Calls Proofs.Tryd.prog 27 #[Value.slice ba bn bc, Value.slice a62 n63 n64] w66 fun (e71 : Ending) (w72 : World) =>
 ∃ (a73 : Option Addr),
 ∃ (n74 : Nat),
 ∃ (n75 : Nat),
 ∃ (b76 : Bool),
 e71 = Ending.returned (Value.tuple #[Value.slice a73 n74 n75, Value.bool b76]) ∧
 (b70 = true →
 (b76 = true →
 Calls Proofs.Tryd.prog 29 #[Value.slice a67 n68 n69, Value.slice a73 n74 n75] w72 fun (e77 : Ending) (w78 : World) =>
 ∃ (a79 : Option Addr),
 ∃ (n80 : Nat),
 ∃ (n81 : Nat),
 e77 = Ending.returned (Value.slice a79 n80 n81) ∧
 (((↑n80 : Int) == 0) = true →
 Calls Proofs.Tryd.prog 29 #[Value.slice ba bn bc, Value.slice aa an ac] w78
 fun (e82 : Ending) (w83 : World) =>
 ∃ (a84 : Option Addr),
 ∃ (n85 : Nat),
 ∃ (n86 : Nat),
 e82 = Ending.returned (Value.slice a84 n85 n86) ∧
 Calls Proofs.Tryd.prog 12 #[Value.slice a62 n63 n64, Value.slice a84 n85 n86] w83
 fun (e87 : Ending) (w88 : World) =>
 ∃ (b89 : Bool),
 e87 = Ending.returned (Value.bool b89) ∧
 (b89 = true →
 Calls Proofs.Tryd.prog 13 #[] w88 fun (e90 : Ending) (w91 : World) =>
 ∃ (b92 : Bool),
 e90 = Ending.returned (Value.bool b92) ∧ R (Ending.returned (Value.bool b92)) w91) ∧
 (b89 = false → R (Ending.returned (Value.bool false)) w88)) ∧
 (((↑n80 : Int) == 0) = false → R (Ending.returned (Value.bool false)) w78)) ∧
 (b76 = false → R (Ending.returned (Value.bool false)) w72)) ∧
 (b70 = false → R (Ending.returned (Value.bool false)) w72))))
theorem f7_eq (aa : Option Addr) (an : Nat) (ac : Nat) (ba : Option Addr) (bn : Nat) (bc : Nat) (w : World) (R : Ending → World → Prop) : (fnF Go.Proofs.Tryd.prog h7 Go.Proofs.Tryd.f7 [Value.slice aa an ac, Value.slice ba bn bc] w R).den = f7_vc aa an ac ba bn bc w R := by kernel_rfl
theorem f7_calls (aa : Option Addr) (an : Nat) (ac : Nat) (ba : Option Addr) (bn : Nat) (bc : Nat) (w : World) (R : Ending → World → Prop) (h : f7_vc aa an ac ba bn bc w R) : Calls Go.Proofs.Tryd.prog 7 (List.toArray [Value.slice aa an ac, Value.slice ba bn bc]) w R :=
 fn_sound (H := h7) (fn := Go.Proofs.Tryd.f7) (by kernel_rfl) (by kernel_rfl) (by kernel_rfl) ((f7_eq aa an ac ba bn bc w R).mpr h)

end Vcx

/- VecOrder, VecBack. -/
set_option maxRecDepth 20000
set_option maxHeartbeats 1000000
namespace Go.Vc.VD
open Go Go.Vc Go.Vc.V Go.RowKit Go.Proofs Vcx

variable {w W W' : World} {M : Nat → Prop} {gs : List Nat}

def holdsB (a b : List PartT) : Bool := decide (vecB a = true ∧ vecB b = true) && (vsub a b).isSome
theorem holds_iff {a b : List PartT} : holdsB a b = true ↔ vecB a = true ∧ vecB b = true ∧ ∀ s, amt s b ≤ amt s a := by
  unfold holdsB
  rw [Bool.and_eq_true, decide_eq_true_eq]
  constructor
  · rintro ⟨⟨h1, h2⟩, h3⟩
    exact ⟨h1, h2, (vsub_iff h1 h2).1 h3⟩
  · rintro ⟨h1, h2, h3⟩
    exact ⟨⟨h1, h2⟩, (vsub_iff h1 h2).2 h3⟩
theorem holds_self (a : List PartT) : holdsB a a = vecB a := by
  rw [Bool.eq_iff_iff, holds_iff]
  exact ⟨fun h => h.1, fun h => ⟨h, h, fun _ => Int.le_refl _⟩⟩
theorem holds_anti {a b : List PartT} (h : holdsB a b = true) (k : holdsB b a = true) : a = b := by
  have h := holds_iff.1 h
  have k := holds_iff.1 k
  exact vec_ext h.1 k.1 fun s => by have := h.2.2 s; have := k.2.2 s; omega
theorem holds_trans {a b c : List PartT} (h : holdsB a b = true) (k : holdsB b c = true) : holdsB a c = true := by
  have h := holds_iff.1 h
  have k := holds_iff.1 k
  exact holds_iff.2 ⟨h.1, k.2.1, fun s => by have := h.2.2 s; have := k.2.2 s; omega⟩
theorem few_mem {ls : List (List PartT)} (h : fewL ls = true) : ∀ l ∈ ls, l.length ≤ 150 := fun l hl => by
  have := List.all_eq_true.1 h l hl
  simpa using this

theorem law3 {la lb lc : List PartT} {aa ba ca : Option Addr} {an ac bn bc cn cc : Nat} (W : World) (hT : Tab W) (h1 : SlE W 3 partE la aa an ac) (h2 : SlE W 3 partE lb ba bn bc) (h3 : SlE W 3 partE lc ca cn cc) : RetW Tryd.prog 3 #[.slice aa an ac, .slice ba bn bc, .slice ca cn cc] W (.bool true) := by
  intro R h
  refine f3_calls _ _ _ _ _ _ _ _ _ W R ?_
  unfold f3_vc
  refine opw_litL (e' := 22) (f := rawS) (size := 1) (l := [((aa, an, ac) : RawS), (ba, bn, bc), (ca, cn, cc)]) (At.refl W) rfl (fun _ _ => rfl) (by decide) (by kernel_rfl) fun g1 w2 _ hA _ hb2 ho1 => ⟨_, _, _, rfl, ?_⟩
  have hL : LsR w2 [la, lb, lc] _ _ _ := LsR_of (ho1.sl fun _ _ => rfl) rfl fun i x y hx hy => by
    match i, hx, hy with
    | 0, hx, hy => cases hx; cases hy; exact h1.call hb2
    | 1, hx, hy => cases hx; cases hy; exact h2.call hb2
    | 2, hx, hy => cases hx; cases hy; exact h3.call hb2
    | i + 3, hx, _ => simp at hx
  refine at_callb hA (c9 w2 hL) fun w7 hA _ hb7 => ⟨_, rfl, brNB (fun _ => h _ hA.below.below) (fun hf => ?_)⟩
  have hfw := few_mem hf
  have ha := hfw la (by simp)
  have hb := hfw lb (by simp)
  have hold : ∀ {W' : World} {l1 l2 : List PartT} {a1 a2 : Option Addr} {n1 n2 k1 k2 : Nat}, SlE W' 3 partE l1 a1 n1 k1 → SlE W' 3 partE l2 a2 n2 k2 → l1.length ≤ 150 → Ret Tryd.prog 10 #[.slice a1 n1 k1, .slice a2 n2 k2] W' (.bool (holdsB l1 l2)) := fun s1 s2 hl => c10 _ s1 s2 (by omega)
  have works : ∀ {W' : World}, AtF W noB [] W' → Calls Tryd.prog 13 #[] W' fun e w => ∃ b, e = .returned (.bool b) ∧ R (.returned (.bool b)) w := fun {W'} hA => c13 W' (hT.below hA.below) _ fun w' hb => ⟨_, rfl, h _ (hA.below.below.trans (hb.mono hA.size))⟩
  refine ⟨fun _ W' => AtF W noB [] W', ?_, ?_⟩
  · refine at_callb hA (hold (h1.call hA.below) (h1.call hA.below) ha) fun w11 hA _ _ => ⟨_, rfl, ?_⟩
    refine at_callb hA (c11 w11 (h1.call hA.below)) fun w14 hA _ _ => ⟨_, rfl, ?_⟩
    rw [holds_self]
    refine ⟨fun e => ?_, fun _ => ?_⟩
    · cases h : vecB la <;> rw [h] at e <;> cases e
    refine at_callb hA (hold (h1.call hA.below) (h2.call hA.below) ha) fun w17 hA _ _ => ⟨_, rfl, brB (fun hab => ?_) (fun _ => hA)⟩
    refine at_callb hA (hold (h2.call hA.below) (h1.call hA.below) hb) fun w20 hA _ _ => ⟨_, rfl, brB (fun hba => ?_) (fun _ => hA)⟩
    refine at_callb hA (c12 w20 (h1.call hA.below) (h2.call hA.below)) fun w23 hA _ _ => ⟨_, rfl, brNB (fun hne => ?_) (fun _ => hA)⟩
    exact absurd (holds_anti hab hba) (of_decide_eq_false hne)
  rintro w25 hA
  refine at_callb hA (hold (h1.call hA.below) (h2.call hA.below) ha) fun w27 hA _ _ => ⟨_, rfl, brNB (fun _ => works hA) (fun hab => ?_)⟩
  refine at_callb hA (hold (h2.call hA.below) (h3.call hA.below) hb) fun w33 hA _ _ => ⟨_, rfl, brNB (fun _ => works hA) (fun hbc => ?_)⟩
  refine at_callb hA (hold (h1.call hA.below) (h3.call hA.below) ha) fun w39 hA _ _ => ⟨_, rfl, brB (fun _ => works hA) (fun hno => ?_)⟩
  rw [holds_trans hab hbc] at hno
  cases hno

/-! ### The least of two -/
theorem least1_key {b : List PartT} {p q : PartT} (h : least1 b p = some q) : slotOf q = slotOf p ∧ q.2.2 = mn p.2.2 (amt (slotOf p) b) ∧ 0 < q.2.2 := by
  unfold least1 at h
  split at h
  · cases h
    exact ⟨rfl, rfl, by assumption⟩
  · cases h
theorem least_vec {a b : List PartT} (ha : vecB a = true) : vecB (a.filterMap (least1 b)) = true := by
  have wa := vecB_iff.1 ha
  rw [vecB_iff]
  refine ⟨fun q hq => ?_, ?_⟩
  · obtain ⟨p, hp, hl⟩ := List.mem_filterMap.1 hq
    obtain ⟨e1, e2, e3⟩ := least1_key hl
    have hr := wa.1 p hp
    have e4 : q.1 = p.1 ∧ q.2.1 = p.2.1 := by simpa [slotOf] using e1
    unfold partR at *
    rw [e4.1, e4.2]
    refine ⟨hr.1, by omega, ?_⟩
    rw [e2]
    unfold mn
    split <;> omega
  · rw [List.pairwise_filterMap]
    refine wa.2.imp fun {p q} hlt x hx y hy => ?_
    have e1 := (least1_key hx).1
    have e2 := (least1_key hy).1
    simp only [slotOf, Prod.mk.injEq] at e1 e2
    unfold slt at *
    rw [e1.1, e1.2, e2.1, e2.2]
    exact hlt
theorem least_amt {b : List PartT} (hb : vecB b = true) (s : Sl) : ∀ {a : List PartT}, (∀ p ∈ a, partR p) → a.Pairwise slt → amt s (a.filterMap (least1 b)) = mn (amt s a) (amt s b)
  | [], _, _ => by
    have := (amt_nonneg (s := s) (vecB_iff.1 hb).1).1
    show (0 : Int) = mn 0 (amt s b)
    unfold mn
    rw [if_neg (by omega)]
  | p :: r, ha, hp => by
    have hb0 := (amt_nonneg (s := s) (vecB_iff.1 hb).1).1
    have hpw := List.pairwise_cons.1 hp
    have ih := least_amt hb s (fun q hq => ha q (List.mem_cons_of_mem _ hq)) hpw.2
    have hpr := (ha p (by simp)).2
    rw [amt]
    by_cases he : slotOf p = s
    · rw [if_pos he]
      cases hl : least1 b p with
      | some q =>
        obtain ⟨e1, e2, _⟩ := least1_key hl
        rw [List.filterMap_cons_some hl, amt, if_pos (e1.trans he), e2, he]
      | none =>
        have hn : ¬ 0 < mn p.2.2 (amt (slotOf p) b) := fun hpos => by
          unfold least1 at hl
          rw [if_pos hpos] at hl
          cases hl
        rw [List.filterMap_cons_none hl, ih]
        have h0 : amt s r = 0 := amt_none fun q hq e => slt_ne (hpw.1 q hq) (e.trans he.symm)
        rw [h0]
        rw [he] at hn
        unfold mn at *
        split <;> split <;> (try split at hn) <;> omega
    · rw [if_neg he]
      cases hl : least1 b p with
      | some q =>
        obtain ⟨e1, _, _⟩ := least1_key hl
        rw [List.filterMap_cons_some hl, amt, if_neg (fun e => he (e1.symm.trans e)), ih]
      | none => rw [List.filterMap_cons_none hl, ih]
theorem leastL_vec {a b : List PartT} (ha : vecB a = true) (hb : vecB b = true) : vecB (leastL a b) = true ∧ ∀ s, amt s (leastL a b) = mn (amt s a) (amt s b) := by
  unfold leastL
  rw [if_pos ⟨ha, hb⟩]
  exact ⟨least_vec ha, fun s => least_amt hb s (vecB_iff.1 ha).1 (vecB_iff.1 ha).2⟩
theorem least_comm {a b : List PartT} (ha : vecB a = true) (hb : vecB b = true) : leastL a b = leastL b a := by
  have h1 := leastL_vec ha hb
  have h2 := leastL_vec hb ha
  exact vec_ext h1.1 h2.1 fun s => by
    rw [h1.2, h2.2]
    unfold mn
    split <;> split <;> omega
def addL (a b : List PartT) : List PartT × Bool := (if vecB a = true ∧ vecB b = true then vout (vadd a b) else [], decide (vecB a = true ∧ vecB b = true) && (vadd a b).isSome)
theorem add_comm' (a b : List PartT) : addL a b = addL b a := by
  by_cases h : vecB a = true ∧ vecB b = true
  · have key : ∀ {a b : List PartT}, vecB a = true → vecB b = true → ∀ c, vadd a b = some c → vadd b a = some c := fun {a b} ha hb c hc => by
      have h1 := vadd_amt ha hb hc
      have h2 : (vadd b a).isSome = true := (vadd_iff hb ha).2 fun s => by
        have := h1.2.1 s
        have := (amt_nonneg (s := s) (vecB_iff.1 h1.1).1).2
        simp only [topQ]
        omega
      obtain ⟨d, hd⟩ := Option.isSome_iff_exists.1 h2
      have h3 := vadd_amt hb ha hd
      rw [hd, vec_ext h3.1 h1.1 fun s => by rw [h3.2.1, h1.2.1]; omega]
    have e : vadd a b = vadd b a := by
      cases hab : vadd a b with
      | some c => rw [key h.1 h.2 c hab]
      | none =>
        cases hba : vadd b a with
        | none => rfl
        | some c =>
          rw [key h.2 h.1 c hba] at hab
          cases hab
    unfold addL
    rw [if_pos h, if_pos h.symm, decide_eq_true h, decide_eq_true h.symm, e]
  · unfold addL
    rw [if_neg h, if_neg fun k => h k.symm, decide_eq_false h, decide_eq_false fun k => h k.symm]
    rfl
theorem least_rest {a b x y : List PartT} (ha : vecB a = true) (hb : vecB b = true) (hx : vsub a (leastL a b) = some x) (hy : vsub b (leastL a b) = some y) : leastL x y = [] := by
  have hl := leastL_vec ha hb
  have h1 := vsub_amt ha hl.1 hx
  have h2 := vsub_amt hb hl.1 hy
  have h3 := leastL_vec h1.1 h2.1
  exact vec_ext h3.1 rfl fun s => by
    rw [h3.2, h1.2.1, h2.2.1, hl.2, amt]
    unfold mn
    split <;> split <;> omega
end Go.Vc.VD

/- VecBack: the walk. -/
set_option maxRecDepth 20000
set_option maxHeartbeats 1000000
namespace Go.Vc.VD
open Go Go.Vc Go.Vc.V Go.RowKit Go.Proofs Vcx

variable {w W W' : World} {M : Nat → Prop} {gs : List Nat}

theorem law7 {la lb : List PartT} {aa ba : Option Addr} {an ac bn bc : Nat} (W : World) (hT : Tab W) (h1 : SlE W 3 partE la aa an ac) (h2 : SlE W 3 partE lb ba bn bc) : RetW Tryd.prog 7 #[.slice aa an ac, .slice ba bn bc] W (.bool true) := by
  intro R h
  refine f7_calls _ _ _ _ _ _ W R ?_
  unfold f7_vc
  refine opw_litL (e' := 22) (f := rawS) (size := 1) (l := [((aa, an, ac) : RawS), (ba, bn, bc)]) (At.refl W) rfl (fun _ _ => rfl) (by decide) (by kernel_rfl) fun g1 w2 _ hA _ hb2 ho1 => ⟨_, _, _, rfl, ?_⟩
  have hL : LsR w2 [la, lb] _ _ _ := LsR_of (ho1.sl fun _ _ => rfl) rfl fun i x y hx hy => by
    match i, hx, hy with
    | 0, hx, hy => cases hx; cases hy; exact h1.call hb2
    | 1, hx, hy => cases hx; cases hy; exact h2.call hb2
    | i + 2, hx, _ => simp at hx
  refine at_callb hA (c9 w2 hL) fun w7 hA _ hb7 => ⟨_, rfl, brNB (fun _ => h _ hA.below.below) (fun hf => ?_)⟩
  have hfw := few_mem hf
  have ha := hfw la (by simp)
  have hb := hfw lb (by simp)
  have works : ∀ {W' : World}, AtF W noB [] W' → Calls Tryd.prog 13 #[] W' fun e w => ∃ b, e = .returned (.bool b) ∧ R (.returned (.bool b)) w := fun {W'} hA => c13 W' (hT.below hA.below) _ fun w' hb => ⟨_, rfl, h _ (hA.below.below.trans (hb.mono hA.size))⟩
  refine at_calllb hA (c25 w7 (h1.call hA.below) (h2.call hA.below) (by omega) (by omega)) (fun _ _ => rfl) fun a11 d11 w10 hA _ hb10 _ s11 => ⟨_, _, _, _, rfl, ?_⟩
  refine at_calllb hA (c25 w10 (h2.call hA.below) (h1.call hA.below) (by omega) (by omega)) (fun _ _ => rfl) fun a17 d17 w16 hA _ hb16 _ s17 => ⟨_, _, _, _, rfl, ?_⟩
  have hcm := add_comm' la lb
  have s11 := s11.call hb16
  have hc1 := congrArg Prod.fst hcm
  have hc2 := congrArg Prod.snd hcm
  simp only [addL] at hc1 hc2
  rw [← hc1] at s17 ⊢
  rw [← hc2]
  clear hcm hc1 hc2
  refine ⟨fun e => ?_, fun _ => ?_⟩
  · generalize (decide (vecB la = true ∧ vecB lb = true) && (vadd la lb).isSome) = x at e
    cases x <;> cases e
  refine at_callb hA (c12 w16 s11 s17) fun w22 hA _ hb22 => ⟨_, rfl, brNB (fun hne => ?_) (fun _ => ?_)⟩
  · exact absurd rfl (of_decide_eq_false hne)
  refine ⟨fun _ W' => AtF W noB [] W', brB (fun hok => ?_) (fun _ => hA), ?_⟩
  · rw [Bool.and_eq_true, decide_eq_true_eq] at hok
    obtain ⟨⟨hva, hvb⟩, hadd⟩ := hok
    obtain ⟨c, hc⟩ := Option.isSome_iff_exists.1 hadd
    have hcc := vadd_amt hva hvb hc
    rw [if_pos ⟨hva, hvb⟩, hc] at s11 ⊢
    have s11 : SlE w16 3 partE c a11 c.length d11 := s11
    have hcl := vec_len' hcc.1
    have hsub : (vsub c lb).isSome = true := (vsub_iff hcc.1 hvb).2 fun s => by
      have := hcc.2.1 s
      have := (amt_nonneg (s := s) (vecB_iff.1 hva).1).1
      omega
    obtain ⟨d, hd⟩ := Option.isSome_iff_exists.1 hsub
    have hdd := vsub_amt hcc.1 hvb hd
    have hda : d = la := vec_ext hdd.1 hva fun s => by rw [hdd.2.1, hcc.2.1]; omega
    refine at_calllb hA (c27 w22 (s11.call hb22) (h2.call hA.below) (by omega)) (fun _ _ => rfl) fun a27 d27 w26 hA _ hb26 _ s27 => ⟨_, _, _, _, rfl, brNB (fun hno => ?_) (fun _ => ?_)⟩
    · rw [decide_eq_true ⟨hcc.1, hvb⟩, hsub] at hno
      cases hno
    rw [if_pos ⟨hcc.1, hvb⟩, hd] at s27 ⊢
    have s27 : SlE w26 3 partE d a27 d.length d27 := s27
    refine at_callb hA (c12 w26 s27 (h1.call hA.below)) fun w32 hA _ hb32 => ⟨_, rfl, brNB (fun hne => ?_) (fun _ => ?_)⟩
    · exact absurd hda (of_decide_eq_false hne)
    refine at_callb hA (c10 w32 (((s11.call hb22).call hb26).call hb32) (h1.call hA.below) (by omega)) fun w35 hA _ hb35 => ⟨_, rfl, brNB (fun hno => ?_) (fun _ => ?_)⟩
    · have : holdsB c la = true := holds_iff.2 ⟨hcc.1, hva, fun s => by
        have := hcc.2.1 s
        have := (amt_nonneg (s := s) (vecB_iff.1 hvb).1).1
        omega⟩
      rw [holdsB, hno] at this
      cases this
    refine at_callb hA (c11 w35 ((((s11.call hb22).call hb26).call hb32).call hb35)) fun w38 hA _ _ => ⟨_, rfl, brNB (fun hno => ?_) (fun _ => hA)⟩
    rw [hcc.1] at hno
    cases hno
  rintro w40 hA
  have nok : ¬ (vecB la = true ∧ vecB lb = true) → (decide (vecB la = true ∧ vecB lb = true) && (vadd la lb).isSome) = false := fun hn => by rw [decide_eq_false hn]; rfl
  refine ⟨fun _ W' => AtF W noB [] W' ∧ vecB la = true ∧ vecB lb = true, ⟨fun x W' => AtF W noB [] W' ∧ (x.1 = true → ¬ (vecB la = true ∧ vecB lb = true)) ∧ (x.1 = false → vecB la = true ∧ vecB lb = true), ?_, ?_⟩, ?_⟩
  · refine at_callb hA (c11 w40 (h1.call hA.below)) fun w44 hA _ _ => ⟨_, rfl, brNB (fun hno => ⟨hA, fun _ hh => ?_, fun e => by cases e⟩) (fun hva => ?_)⟩
    · rw [hno] at hh
      cases hh.1
    refine at_callb hA (c11 w44 (h2.call hA.below)) fun w47 hA _ _ => ⟨_, rfl, hA, fun e hh => ?_, fun e => ⟨hva, ?_⟩⟩
    · rw [hh.2] at e
      cases e
    · simpa using e
  · rintro b49 w50 ⟨hA, hno, hyes⟩
    refine brB (fun hb49 => ?_) (fun hb49 => ⟨hA, hyes hb49⟩)
    have hn := hno hb49
    rw [nok hn]
    refine brNB (fun _ => ?_) (fun e => by cases e)
    refine at_calll hA (c29 w50 (h1.call hA.below) (h2.call hA.below)) (fun _ _ => rfl) fun a53 d53 w52 hA _ _ _ _ => ⟨_, _, _, rfl, brE (fun _ => works hA) (fun hne => ?_)⟩
    rw [leastL, if_neg hn] at hne
    exact absurd rfl hne
  rintro w59 ⟨hA, hva, hvb⟩
  have hl := leastL_vec hva hvb
  have hll := vec_len' hl.1
  have hs1 : (vsub la (leastL la lb)).isSome = true := (vsub_iff hva hl.1).2 fun s => by rw [hl.2]; unfold mn; split <;> omega
  have hs2 : (vsub lb (leastL la lb)).isSome = true := (vsub_iff hvb hl.1).2 fun s => by rw [hl.2]; unfold mn; split <;> omega
  obtain ⟨x, hx⟩ := Option.isSome_iff_exists.1 hs1
  obtain ⟨y, hy⟩ := Option.isSome_iff_exists.1 hs2
  refine at_calll hA (c29 w59 (h1.call hA.below) (h2.call hA.below)) (fun _ _ => rfl) fun a62 d62 w61 hA _ hb61 _ s62 => ⟨_, _, _, rfl, ?_⟩
  refine at_calllb hA (c27 w61 (h1.call hA.below) s62 (by omega)) (fun _ _ => rfl) fun a67 d67 w66 hA _ hb66 _ s67 => ⟨_, _, _, _, rfl, ?_⟩
  refine at_calllb hA (c27 w66 (h2.call hA.below) (s62.call hb66) (by omega)) (fun _ _ => rfl) fun a73 d73 w72 hA _ hb72 _ s73 => ⟨_, _, _, _, rfl, ?_⟩
  rw [if_pos ⟨hva, hl.1⟩, hx] at s67 ⊢
  rw [if_pos ⟨hvb, hl.1⟩, hy] at s73 ⊢
  refine brB (fun _ => brB (fun _ => ?_) (fun e => ?_)) (fun e => ?_)
  · have s67 : SlE w66 3 partE x a67 x.length d67 := s67
    have s73 : SlE w72 3 partE y a73 y.length d73 := s73
    refine at_calll hA (c29 w72 (s67.call hb72) s73) (fun _ _ => rfl) fun a79 d79 w78 hA _ hb78 _ _ => ⟨_, _, _, rfl, brE (fun _ => ?_) (fun hne => ?_)⟩
    · refine at_calll hA (c29 w78 (h2.call hA.below) (h1.call hA.below)) (fun _ _ => rfl) fun a84 d84 w83 hA _ hb83 _ s84 => ⟨_, _, _, rfl, ?_⟩
      refine at_callb hA (c12 w83 ((((s62.call hb66).call hb72).call hb78).call hb83) s84) fun w88 hA _ _ => ⟨_, rfl, brB (fun _ => works hA) (fun hne => ?_)⟩
      exact absurd (least_comm hva hvb) (of_decide_eq_false hne)
    · exact absurd (by rw [least_rest hva hvb hx hy]; rfl) hne
  · rw [decide_eq_true ⟨hvb, hl.1⟩] at e
    cases e
  · rw [decide_eq_true ⟨hva, hl.1⟩] at e
    cases e
end Go.Vc.VD

/- Arguments of the law, read. -/
namespace Go.Vc
open Go Go.RowKit
theorem i64_bounds' {x : Int} (h1 : IntKind.i64.min ≤ x) (h2 : x ≤ IntKind.i64.max) : -9223372036854775808 ≤ x ∧ x ≤ 9223372036854775807 := by
  have e1 : IntKind.i64.min = -9223372036854775808 := by decide
  have e2 : IntKind.i64.max = 9223372036854775807 := by decide
  omega
theorem int_V {w : World} {x : Int} {v : Value} (h : GT.V w (.int .i64) x v) : v = .int .i64 x ∧ (-9223372036854775808 ≤ x ∧ x ≤ 9223372036854775807) := by
  obtain ⟨h, h1, h2⟩ := h
  simp at h
  exact ⟨h, i64_bounds' h1 h2⟩
theorem str_V {w : World} {x : ByteArray} {v : Value} (h : GT.V w .str x v) : v = .string x ∧ x.size ≤ maxLen := by
  obtain ⟨h, h1⟩ := h
  simp at h
  exact ⟨h, h1⟩
theorem ints_V {w : World} {l : List Int} {v : Value} (h : GT.V w (.sl (.int .i64)) l v) : ∃ a n c, v = .slice a n c ∧ SlE w 1 (fun x => [Value.int .i64 x]) l a n c ∧ ∀ x ∈ l, -9223372036854775808 ≤ x ∧ x ≤ 9223372036854775807 := by
  obtain ⟨a, n, c, hv, hs⟩ := h
  simp at hv
  refine ⟨a, n, c, hv, hs.imp fun _ _ h => h.1, fun x hx => ?_⟩
  obtain ⟨cs, hr⟩ := hs.each hx
  exact i64_bounds' hr.2.1 hr.2.2
end Go.Vc

/- The door's table; the arguments of the laws of vectors, read. -/
set_option maxRecDepth 100000
namespace Go.Vc.VD
open Go Go.Vc Go.Vc.V Go.RowKit Go.Proofs Go.Proofs.YtjlgcdgdboiejaaDoor

abbrev laidD : List (String × DataW Unit) := [("manciple/slot.table", Rows.laid_manciple_slot_table)]
theorem gTab : Tryd.prog.globalNamed "manciple/slot.table" = some 1 := by kernel_rfl
theorem tTab : (Tryd.prog.globals[1]?).map (·.type) = some 99 := by kernel_rfl
theorem u46 : Tryd.prog.underlying 99 = some (.array 4 9) := by kernel_rfl
theorem u9 : Tryd.prog.underlying 9 = some .string := by kernel_rfl
theorem ba_of {s t : ByteArray} (h : s.data.toList = t.data.toList) : s = t := by
  cases s; cases t
  simp only at h
  congr 1
  exact Array.ext' h
theorem tab_of {W : World} (h : laidMetH Tryd.prog laidD W) : Tab W := by
  rw [MakeChecks.laidMetH_plain _ _ _ (by kernel_rfl)] at h
  obtain ⟨ps, ⟨g0, t0, cs0, f0, p0, q0, hg0, ht0, hv0, hd0, _, _⟩, _, _⟩ := h
  obtain rfl := Option.some.inj (gTab.symm.trans hg0)
  obtain rfl := Option.some.inj (tTab.symm.trans ht0)
  obtain ⟨xs, m, rfl, hx, hlen, hn, hel⟩ := DataW.trod_array u46 hd0
  have c9 : Tryd.prog.cellsOf 9 = 1 := by kernel_rfl
  have c46 : Tryd.prog.cellsOf 99 = 4 := by kernel_rfl
  rw [c46] at hlen
  have hel' : ∀ i, i < 4 → ∃ s : ByteArray, cs0[i]? = some (.string s) ∧ (xs.map (·.1))[i]? = some (.lit (.string s.data.toList)) := by
    intro i hi
    have := hel i hi
    rw [c9, Nat.mul_one] at this
    have hxi : xs[i]? = some xs[i] := List.getElem?_eq_getElem (by omega)
    rw [hxi] at this
    obtain ⟨s, e1, e2, _⟩ := DataW.trod_string u9 this
    refine ⟨s, ?_, by rw [List.getElem?_map, hxi, e2]; rfl⟩
    have h2 := congrArg (·[0]?) e1
    simp only [List.getElem?_take, List.getElem?_drop] at h2
    simpa using h2
  have hx' : xs.map (·.1) = [.lit (.string [99, 112, 117, 115]), .lit (.string [109, 101, 109]), .lit (.string [100, 105, 115, 107]), .lit (.string [103, 112, 117, 115])] := by
    have := (Prod.mk.inj hx).1
    simp only [Rows.laid_manciple_slot_table, DataW.agg.injEq] at this
    exact this.symm
  intro j v hv
  have hj : j < 4 := (List.getElem?_eq_some_iff.1 hv).1
  obtain ⟨s, hs, hd⟩ := hel' j hj
  have hcell := World.var?_cell hg0 hv0 j
  rw [addr_add]
  simp only [Nat.zero_add]
  rw [show W.cell? ⟨1, j, none⟩ = some (.string s) by rw [hcell]; exact hs]
  rw [hx'] at hd
  have hc : j = 0 ∨ j = 1 ∨ j = 2 ∨ j = 3 := by omega
  rcases hc with rfl | rfl | rfl | rfl
  all_goals
    simp only [List.getElem?_cons_zero, List.getElem?_cons_succ, Option.some.injEq, DataW.lit.injEq, Lit.string.injEq] at hd
    rw [← hv]
    congr 2
    exact ba_of (by rw [← hd]; rfl)

abbrev ptG : GT := .st (.pair (.int .i64) (.pair (.int .i64) (.pair (.int .i64) .unit)))
abbrev PtA := Int × Int × Int × Unit
def ptOf (x : PtA) : PartT := (x.1, x.2.1, x.2.2.1)
theorem row_M {α β : Type} {w : World} {n : Nat} {R : α → List Value → Prop} {R' : β → List Value → Prop} {k : α → β} {l : List α} {a : Option Addr} {len c : Nat} (hs : SlR w n R l a len c) (hR : ∀ x cs, R x cs → R' (k x) cs) : SlR w n R' (l.map k) a len c := by
  refine ⟨by rw [List.length_map]; exact hs.1, hs.2.1, hs.2.2.1, hs.2.2.2.1, fun i y hy => ?_⟩
  rw [List.getElem?_map] at hy
  cases hx : l[i]? with
  | none => rw [hx] at hy; cases hy
  | some x =>
    rw [hx] at hy
    simp only [Option.map_some, Option.some.injEq] at hy
    subst hy
    obtain ⟨ad, cs, ha, hl, hcs, hr⟩ := hs.at_ hx
    exact ⟨ad, cs, ha, hl, hcs, hR _ _ hr⟩
theorem pt_R {w : World} {x : PtA} {cs : List Value} (h : ptG.R w x cs) : cs = partE (ptOf x) := by
  obtain ⟨c1, c2, rfl, ⟨rfl, _, _⟩, c3, c4, rfl, ⟨rfl, _, _⟩, c5, c6, rfl, ⟨rfl, _, _⟩, rfl⟩ := h
  rfl
theorem pts_V {w : World} {l : List PtA} {v : Value} (h : GT.V w (.sl ptG) l v) : ∃ a n c, v = .slice a n c ∧ SlE w 3 partE (l.map ptOf) a n c := by
  obtain ⟨a, n, c, hv, hs⟩ := h
  simp at hv
  exact ⟨a, n, c, hv, row_M hs fun _ _ => pt_R⟩
end Go.Vc.VD

