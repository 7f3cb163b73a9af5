/- Own texts of this claim, laid together: E3, StShelf, E4, E5, FD4, E6, E7, E8a, E8b, E8, E9, E10, E11, VcArg, DArg, FD5, StShelf2, G1a, G1b, VcStr2, G2, G3, G4a. -/
import Derived.Test.YtjlgcdgdboiejaaDoorMg1f22accb
import Derived.Shelf.Strings.OnBuilder
import Derived.Shelf.Strings.Cut
import Derived.Shelf.Strings.Split
import Derived.Test.YtjlgcdgdboiejaaDoorProg
import Derived.ProofKit
import Derived.OpenShut
import Derived.LaidMore
import Derived.Test.YtjlgcdgdboiejaaDoorRows
import Derived.Shelf.Strings.Search1
import Derived.Shelf.Strings.Search2
import Derived.Shelf.Strings.Search3

/- Own text of this claim: E3. -/
set_option maxRecDepth 20000
namespace Go.Vc.VD
open Go Go.Vc Go.Vc.V Go.RowKit Go.Proofs Vcx

abbrev strE (s : ByteArray) : List Value := [.string s]

def nmOf (k : Int) : ByteArray := if 0 ≤ k ∧ k < 4 then (nms[k.toNat]?).getD (ByteArray.mk #[]) else ByteArray.mk #[]
theorem nm_at {k : Nat} (h : k < 4) : nms[k]? = some (nmOf k) := by
  unfold nmOf
  rw [if_pos (by omega)]
  have hc : k = 0 ∨ k = 1 ∨ k = 2 ∨ k = 3 := by omega
  rcases hc with rfl | rfl | rfl | rfl <;> rfl
theorem nm_small (k : Int) : (nmOf k).size ≤ 4 := by
  unfold nmOf
  split
  · rename_i h
    have hc : k = 0 ∨ k = 1 ∨ k = 2 ∨ k = 3 := by omega
    rcases hc with rfl | rfl | rfl | rfl <;> decide
  · decide

theorem c67 (k : Int) (w : World) (hT : Tab w) : Ret Tryd.prog 67 #[.int .i64 k] w (.string (nmOf k)) := by
  intro R h
  refine f67_calls k w R ?_
  unfold f67_vc
  have hA := At.refl w
  refine at_call hA (c81 _ hT) (fun w2 hA hk => ⟨_, _, _, _, rfl, ?_⟩)
  refine opw_allocArr (n := 1) (size := 4) (f := fun x : ByteArray × ByteArray × ByteArray × ByteArray => [.string x.1, .string x.2.1, .string x.2.2.1, .string x.2.2.2]) (z := (ByteArray.mk #[], ByteArray.mk #[], ByteArray.mk #[], ByteArray.mk #[])) hA (zv := .agg #[.string (ByteArray.mk #[]), .string (ByteArray.mk #[]), .string (ByteArray.mk #[]), .string (ByteArray.mk #[])]) (by kernel_rfl) rfl rfl (by decide) fun w8 hA hk ho => ⟨_, rfl, ?_⟩
  generalize hg : w2.heap.size = g at ho ⊢
  refine opw_store (y := (sCpus, sMem, sDisk, sGpus)) (i := 0) hA ho (fun _ _ => rfl) (by simp) rfl rfl rfl (by kernel_rfl) (fun w11 hA _ _ ho => ?_) (fun g' hg' => by cases hg'; simp)
  refine brD (fun hlt => leaf h hA ?_) (fun hge => brD (fun hgt => leaf h hA ?_) (fun hle => ?_))
  · rw [nmOf, if_neg (by omega)]
  · rw [nmOf, if_neg (by omega)]
  obtain ⟨q, rfl⟩ : ∃ q : Nat, k = q := ⟨k.toNat, by omega⟩
  obtain ⟨b, cs, hb, hl, hcs, rfl⟩ := (ho.sl (fun _ _ => rfl)).at_ (i := 0) rfl
  cases hb
  have hcell : w11.cell? (Addr.add ⟨g, 0, none⟩ (q * 1)) = some (.string (nmOf q)) := by
    have hx : [Value.string sCpus, .string sMem, .string sDisk, .string sGpus][q]? = some (.string (nmOf q)) := by
      have := nm_at (k := q) (by omega)
      have h2 := congrArg (Option.map Value.string) this
      rw [← List.getElem?_map] at h2
      exact h2
    have := hcs q _ hx
    rw [Nat.zero_mul, addr_add0] at this
    rwa [Nat.mul_one]
  exact ⟨_, gives_index_arr (e := 9) (n := 1) (by kernel_rfl) (by kernel_rfl) (by omega : q < 4), _, reads_one (by kernel_rfl) no_ds hcell, leaf h hA rfl⟩

theorem c68 (n : Int) (h0 : 0 ≤ n) (h1 : n ≤ 9223372036854775807) (w : World) : Ret Tryd.prog 68 #[.int .i64 n] w (.string (strOfNums (decL n 1))) := by
  intro R h
  refine f68_calls n w R ?_
  unfold f68_vc
  have hA := At.refl w
  refine brD (fun hlt => ?_) (fun hge => ?_)
  · have e : IntKind.u8.wrap (IntKind.i64.wrap (48 + n)) = 48 + n := by
      rw [wrap_i64 (by omega) (by omega), wrap_u8]
      omega
    rw [e]
    refine opw_bytes0 (e := 5) (l := [48 + n]) hA rfl (by decide) (by kernel_rfl) (by kernel_rfl) (by kernel_rfl) (by kernel_rfl) fun w' hA _ => leaf h hA (by rw [digit1 ⟨h0, by omega⟩])
  · rw [Int.tdiv_eq_ediv_of_nonneg h0, Int.tmod_eq_emod_of_nonneg h0, wrap_i64 (x := n / 10) (by omega) (by omega)]
    refine at_call hA (c68 (n / 10) (by omega) (by omega) _) (fun _ hA hk => ⟨_, rfl, ?_⟩)
    refine at_call hA (c68 (n % 10) (by omega) (by omega) _) (fun _ hA hk => ⟨_, rfl, ?_⟩)
    have d1 := dec_small (n := n / 10) (by omega)
    have d2 := dec_small (n := n % 10) (by omega)
    refine ⟨_, gives_sadd (by omega), ?_⟩
    refine leaf h hA ?_
    rw [strOfNums_append, digit1 (d := n % 10) (by omega), decL.eq_def n 1, if_pos (.inl (by omega)), decL_one _ (1 - 1) (by omega)]
termination_by n.toNat
decreasing_by
  all_goals omega

noncomputable def stext (k r : Int) : ByteArray := if slotR k r then (if r = 0 then nmOf k else nmOf k ++ ByteArray.mk #[40] ++ strOfNums (decL r 1) ++ ByteArray.mk #[41]) else ByteArray.mk #[]

theorem c54 (k r : Int) (w : World) (hT : Tab w) : Ret Tryd.prog 54 #[slotV k r] w (.string (stext k r)) := by
  intro R h
  refine f54_calls k r w R ?_
  unfold f54_vc
  have hA := At.refl w
  refine go_n hA fun n1 h_n1 => ?_
  refine go_below hA fun _ hA => ?_
  refine at_call hA (c35 _ _ _) (fun _ hA hk => ?_)
  first | refine ⟨_, rfl, hk, ?_⟩ | refine ⟨_, _, rfl, hk, ?_⟩ | refine ⟨_, _, _, rfl, hk, ?_⟩ | refine ⟨_, _, _, _, rfl, hk, ?_⟩ | refine ⟨_, _, _, _, _, rfl, hk, ?_⟩ | refine ⟨_, _, _, _, _, _, rfl, hk, ?_⟩ | refine ⟨_, _, _, _, _, _, _, rfl, hk, ?_⟩ | refine ⟨_, _, _, _, _, _, _, _, rfl, hk, ?_⟩
  refine brND (fun hn => leaf h hA (by rw [stext, if_neg hn])) (fun hs => ?_)
  have hs' := hs
  unfold slotR at hs'
  refine brE (fun h0 => ?_) (fun h0 => ?_)
  · refine at_call hA (c67 _ _ (hT.at_ hA)) (fun _ hA hk => ?_)
    first | refine ⟨_, rfl, hk, ?_⟩ | refine ⟨_, _, rfl, hk, ?_⟩ | refine ⟨_, _, _, rfl, hk, ?_⟩ | refine ⟨_, _, _, _, rfl, hk, ?_⟩ | refine ⟨_, _, _, _, _, rfl, hk, ?_⟩ | refine ⟨_, _, _, _, _, _, rfl, hk, ?_⟩ | refine ⟨_, _, _, _, _, _, _, rfl, hk, ?_⟩ | refine ⟨_, _, _, _, _, _, _, _, rfl, hk, ?_⟩
    exact leaf h hA (by rw [stext, if_pos hs, if_pos h0])
  refine go_below hA fun _ hA => ?_
  refine at_call hA (c67 _ _ (hT.at_ hA)) (fun _ hA hk => ?_)
  first | refine ⟨_, rfl, hk, ?_⟩ | refine ⟨_, _, rfl, hk, ?_⟩ | refine ⟨_, _, _, rfl, hk, ?_⟩ | refine ⟨_, _, _, _, rfl, hk, ?_⟩ | refine ⟨_, _, _, _, _, rfl, hk, ?_⟩ | refine ⟨_, _, _, _, _, _, rfl, hk, ?_⟩ | refine ⟨_, _, _, _, _, _, _, rfl, hk, ?_⟩ | refine ⟨_, _, _, _, _, _, _, _, rfl, hk, ?_⟩
  have s1 := nm_small k
  have s2 : (ByteArray.mk #[40]).size = 1 := rfl
  have s3 : (ByteArray.mk #[41]).size = 1 := rfl
  have d1 := dec_small (n := r) (by omega)
  refine ⟨_, gives_sadd (by omega), ?_⟩
  refine at_call hA (c68 r (by omega) (by omega) _) (fun _ hA hk => ?_)
  first | refine ⟨_, rfl, hk, ?_⟩ | refine ⟨_, _, rfl, hk, ?_⟩ | refine ⟨_, _, _, rfl, hk, ?_⟩ | refine ⟨_, _, _, _, rfl, hk, ?_⟩ | refine ⟨_, _, _, _, _, rfl, hk, ?_⟩ | refine ⟨_, _, _, _, _, _, rfl, hk, ?_⟩ | refine ⟨_, _, _, _, _, _, _, rfl, hk, ?_⟩ | refine ⟨_, _, _, _, _, _, _, _, rfl, hk, ?_⟩
  refine ⟨_, gives_sadd (by rw [ByteArray.size_append]; omega), _, gives_sadd (by rw [ByteArray.size_append, ByteArray.size_append]; omega), ?_⟩
  exact leaf h hA (by rw [stext, if_pos hs, if_neg h0])

theorem dec2 {r : Int} (h1 : 10 ≤ r) (h2 : r < 100) : decL r 1 = [48 + r / 10, 48 + r % 10] := by
  rw [decL, if_pos (.inl h1), decL_one _ _ (by omega), digit1 (by omega)]
  rfl

theorem pack_num : ∀ (k : Fin 4) (r : Fin 33), IntKind.u16.wrap (↑(BitVec.ofInt 16 (IntKind.u16.wrap (IntKind.u16.wrap (r.val : Int) * 4)) ||| BitVec.ofInt 16 (IntKind.u16.wrap (k.val : Int))).toNat : Int) = 4 * (r.val : Int) + k.val := by decide +kernel
def pack (k r : Int) : Int := if slotR k r then 4 * r + k else 0
theorem and3 {n : Int} (h0 : 0 ≤ n) (h1 : n < 65536) : ((BitVec.ofInt 16 n &&& BitVec.ofInt 16 3).toNat : Int) = n % 4 := by
  obtain ⟨m, rfl⟩ : ∃ m : Nat, n = m := ⟨n.toNat, by omega⟩
  have e3 : (BitVec.ofInt 16 3 : BitVec 16) = BitVec.ofNat 16 3 := rfl
  have em : (BitVec.ofInt 16 (m : Int) : BitVec 16) = BitVec.ofNat 16 m := by simp
  rw [e3, em, BitVec.toNat_and, BitVec.toNat_ofNat, BitVec.toNat_ofNat, Nat.mod_eq_of_lt (by omega : m < 2 ^ 16)]
  have := Nat.and_two_pow_sub_one_eq_mod m 2
  rw [show (3 % 2 ^ 16 : Nat) = 2 ^ 2 - 1 by decide, this]
  omega
end Go.Vc.VD

/-
  DERIVED: THE SHELF's CONTRACTS AT THIS DUMP, IN PLAIN WORDS (tools/lay-plain.mjs out of 'StShelf0.lean', which tools/lay-shelf.mjs wrote): THE SAME DECLARATIONS UNDER THE SAME NAMES: 'import', 'namespace', 'open', 'def', 'theorem' AND NOTHING ELSE: no command of the shelf's: FOR A HAND-IN. Each laying: the table of numbers ('.._ren') and one theorem, a field a fact of the dump's own or the kernel's comparison; each contract: ONE APPLICATION.
-/
namespace Go.Proofs
open Go.Shelf
def Tryd.lays156_ren : Go.Shelf.Ren := ⟨fun | 156 => 56 | 165 => 70 | 166 => 71 | 169 => 72 | 240 => 82 | 241 => 83 | 276 => 101 | 277 => 102 | n => n, fun | 31 => 63 | 9 => 9 | 3 => 3 | 4 => 4 | 0 => 0 | 20 => 20 | 72 => 85 | 76 => 89 | 70 => 83 | 37 => 80 | 75 => 88 | 127 => 101 | 164 => 118 | 5 => 5 | 80 => 91 | n => n, fun | n => n⟩
theorem Tryd.lays156 : Go.Proofs.Lays.n156 Tryd.prog Tryd.lays156_ren := {
  mixed := by kernel_rfl
  f156 := Tryd.func56.trans (congrArg some (by kernel_rfl))
  f165 := Tryd.func70.trans (congrArg some (by kernel_rfl))
  f166 := Tryd.func71.trans (congrArg some (by kernel_rfl))
  f169 := Tryd.func72.trans (congrArg some (by kernel_rfl))
  f240 := Tryd.func82.trans (congrArg some (by kernel_rfl))
  f241 := Tryd.func83.trans (congrArg some (by kernel_rfl))
  f276 := Tryd.func101.trans (congrArg some (by kernel_rfl))
  f277 := Tryd.func102.trans (congrArg some (by kernel_rfl))
  t0 := Tryd.underlying0
  a0 := Tryd.isAgg0
  z0 := Tryd.sizeOf0
  v0 := Tryd.zeroValue0
  t3 := Tryd.underlying3
  a3 := Tryd.isAgg3
  z3 := Tryd.sizeOf3
  v3 := Tryd.zeroValue3
  t4 := Tryd.underlying4
  a4 := Tryd.isAgg4
  z4 := Tryd.sizeOf4
  v4 := Tryd.zeroValue4
  t9 := Tryd.underlying9
  a9 := Tryd.isAgg9
  z9 := Tryd.sizeOf9
  v9 := Tryd.zeroValue9
  t20 := Tryd.underlying20
  a20 := Tryd.isAgg20
  z20 := Tryd.sizeOf20
  v20 := Tryd.zeroValue20
  t31 := Tryd.underlying63
  a31 := Tryd.isAgg63
  z31 := Tryd.sizeOf63
  v31 := Tryd.zeroValue63
  t37 := Tryd.underlying80
  a37 := Tryd.isAgg80
  z37 := Tryd.sizeOf80
  v37 := Tryd.zeroValue80
  t70 := Tryd.underlying83
  a70 := Tryd.isAgg83
  z70 := Tryd.sizeOf83
  v70 := Tryd.zeroValue83
  t72 := Tryd.underlying85
  a72 := Tryd.isAgg85
  z72 := Tryd.sizeOf85
  v72 := Tryd.zeroValue85
  t75 := Tryd.underlying88
  a75 := Tryd.isAgg88
  z75 := Tryd.sizeOf88
  v75 := Tryd.zeroValue88
  t76 := Tryd.underlying89
  a76 := Tryd.isAgg89
  z76 := Tryd.sizeOf89
  v76 := Tryd.zeroValue89
  t127 := Tryd.underlying101
  a127 := Tryd.isAgg101
  z127 := Tryd.sizeOf101
  v127 := Tryd.zeroValue101
  t164 := Tryd.underlying118
  a164 := Tryd.isAgg118
  z164 := Tryd.sizeOf118
  v164 := Tryd.zeroValue118 }
theorem Tryd.Builder_Extra_156 : Builder.Extra Tryd.prog Tryd.lays156_ren := {
  sizeBuilder := by kernel_rfl
  liesBuilder := by kernel_rfl
  t5 := Tryd.underlying5
  a5 := Tryd.isAgg5
  z5 := Tryd.sizeOf5
  v5 := Tryd.zeroValue5
  infoByte := by kernel_rfl
  cellsByte := by kernel_rfl
  sizeByte := by kernel_rfl
  neB5 := by decide }
open Go.RowKit in
/-- No element: the empty string; the world is as it was. (Whatever the slice's address and capacity: a nil slice too.) (LAID: no walk: one application.) -/
theorem Tryd.strings_Join_none (a : Option Addr) (c : Nat) (sep : ByteArray) (w : World) :
    Calls Tryd.prog 56 #[.slice a 0 c, .string sep] w fun e w' => e = .returned (.string ⟨#[]⟩) ∧ w' = w := Any.strings_Join_none Tryd.lays156 Tryd.Builder_Extra_156 a c sep w
open Go.RowKit in
/-- strings.Join: "Join concatenates the elements of its first argument to create a single string. The separator string sep is placed between elements in the resulting string.": HOWEVER MANY ELEMENTS. Below the heap's end the world is as it was. (LAID: no walk: one application.) -/
theorem Tryd.strings_Join (bk o c : Nat) (xs : List ByteArray) (sep : ByteArray) (w : World) (hcells : ∀ (j : Nat) x, xs[j]? = some x → w.cell? ⟨bk, o + j, none⟩ = some (.string x)) (hbk : bk < w.heap.size) (hN : xs.length ≤ 140737488355328) (hcap : xs.length ≤ c) (hlen : (Lib.join (xs.map (·.data.toList)) sep.data.toList).length ≤ 140737488355328) :
    Calls Tryd.prog 56 #[.slice (some ⟨bk, o, none⟩) xs.length c, .string sep] w fun e w' => e = .returned (.string ⟨(Lib.join (xs.map (·.data.toList)) sep.data.toList).toArray⟩) ∧ Below w.heap.size w w' := Any.strings_Join Tryd.lays156 Tryd.Builder_Extra_156 bk o c xs sep w hcells hbk hN hcap hlen
def Tryd.lays145_ren : Go.Shelf.Ren := ⟨fun | 145 => 51 | 220 => 64 | 219 => 80 | 217 => 97 | 225 => 98 | 224 => 99 | 267 => 100 | 266 => 109 | 314 => 110 | n => n, fun | 9 => 9 | 4 => 4 | 59 => 65 | 3 => 3 | 5 => 5 | 46 => 95 | 146 => 127 | 51 => 110 | n => n, fun | 1 => 0 | n => n⟩
theorem Tryd.lays145 : Go.Proofs.Lays.n145 Tryd.prog Tryd.lays145_ren := {
  mixed := by kernel_rfl
  f145 := Tryd.func51.trans (congrArg some (by kernel_rfl))
  f217 := Tryd.func97.trans (congrArg some (by kernel_rfl))
  f219 := Tryd.func80.trans (congrArg some (by kernel_rfl))
  f220 := Tryd.func64.trans (congrArg some (by kernel_rfl))
  f224 := Tryd.func99.trans (congrArg some (by kernel_rfl))
  f225 := Tryd.func98.trans (congrArg some (by kernel_rfl))
  f266 := Tryd.func109.trans (congrArg some (by kernel_rfl))
  f267 := Tryd.func100.trans (congrArg some (by kernel_rfl))
  f314 := Tryd.func110.trans (congrArg some (by kernel_rfl))
  t3 := Tryd.underlying3
  a3 := Tryd.isAgg3
  z3 := Tryd.sizeOf3
  v3 := Tryd.zeroValue3
  t4 := Tryd.underlying4
  a4 := Tryd.isAgg4
  z4 := Tryd.sizeOf4
  v4 := Tryd.zeroValue4
  t5 := Tryd.underlying5
  a5 := Tryd.isAgg5
  z5 := Tryd.sizeOf5
  v5 := Tryd.zeroValue5
  t9 := Tryd.underlying9
  a9 := Tryd.isAgg9
  z9 := Tryd.sizeOf9
  v9 := Tryd.zeroValue9
  t46 := Tryd.underlying95
  a46 := Tryd.isAgg95
  z46 := Tryd.sizeOf95
  v46 := Tryd.zeroValue95
  t51 := Tryd.underlying110
  a51 := Tryd.isAgg110
  z51 := Tryd.sizeOf110
  v51 := Tryd.zeroValue110
  t59 := Tryd.underlying65
  a59 := Tryd.isAgg65
  z59 := Tryd.sizeOf65
  v59 := Tryd.zeroValue65
  t146 := Tryd.underlying127
  a146 := Tryd.isAgg127
  z146 := Tryd.sizeOf127
  v146 := Tryd.zeroValue127
  g1 := by kernel_rfl }
open Go.RowKit Go.Lib in
/-- strings.Cut: "Cut slices s around the first instance of sep, returning the text before and after sep. The found result reports whether sep appears in s. If sep does not appear in s, cut returns s, "", false.": IT RETURNS 'Lib.cut s sep'; the world is as it was but for the count of draws. (LAID: no walk: one application.) -/
theorem Tryd.strings_Cut (s sep : ByteArray) (m : Int) (w : World) (hs : s.size < 4294967281) (hm : w.cell? ⟨0, 0, none⟩ = some (.int .i64 m)) :
    Calls Tryd.prog 51 #[.string s, .string sep] w fun e w' => e = .returned (.tuple #[.string ⟨(Lib.cut s.data.toList sep.data.toList).1.toArray⟩, .string ⟨(Lib.cut s.data.toList sep.data.toList).2.1.toArray⟩, .bool (Lib.cut s.data.toList sep.data.toList).2.2]) ∧ ∃ n, w' = w.drewN n := Any.strings_Cut Tryd.lays145 s sep m w hs hm
def Tryd.lays146_ren : Go.Shelf.Ren := ⟨fun | 146 => 50 | 221 => 63 | 268 => 77 | 138 => 78 | 143 => 79 | 195 => 94 | 197 => 95 | 218 => 96 | 219 => 80 | 260 => 108 | 217 => 97 | 225 => 98 | 224 => 99 | 267 => 100 | 266 => 109 | 314 => 110 | n => n, fun | 9 => 9 | 31 => 63 | 3 => 3 | 4 => 4 | 0 => 0 | 105 => 114 | 21 => 21 | 5 => 5 | 46 => 95 | 119 => 132 | 139 => 135 | 138 => 134 | 146 => 127 | 51 => 110 | n => n, fun | 1 => 0 | 3 => 2 | 4 => 3 | n => n⟩
theorem Tryd.lays146 : Go.Proofs.Lays.n146 Tryd.prog Tryd.lays146_ren := {
  mixed := by kernel_rfl
  f138 := Tryd.func78.trans (congrArg some (by kernel_rfl))
  f143 := Tryd.func79.trans (congrArg some (by kernel_rfl))
  f146 := Tryd.func50.trans (congrArg some (by kernel_rfl))
  f195 := Tryd.func94.trans (congrArg some (by kernel_rfl))
  f197 := Tryd.func95.trans (congrArg some (by kernel_rfl))
  f217 := Tryd.func97.trans (congrArg some (by kernel_rfl))
  f218 := Tryd.func96.trans (congrArg some (by kernel_rfl))
  f219 := Tryd.func80.trans (congrArg some (by kernel_rfl))
  f221 := Tryd.func63.trans (congrArg some (by kernel_rfl))
  f224 := Tryd.func99.trans (congrArg some (by kernel_rfl))
  f225 := Tryd.func98.trans (congrArg some (by kernel_rfl))
  f260 := Tryd.func108.trans (congrArg some (by kernel_rfl))
  f266 := Tryd.func109.trans (congrArg some (by kernel_rfl))
  f267 := Tryd.func100.trans (congrArg some (by kernel_rfl))
  f268 := Tryd.func77.trans (congrArg some (by kernel_rfl))
  f314 := Tryd.func110.trans (congrArg some (by kernel_rfl))
  t0 := Tryd.underlying0
  a0 := Tryd.isAgg0
  z0 := Tryd.sizeOf0
  v0 := Tryd.zeroValue0
  t3 := Tryd.underlying3
  a3 := Tryd.isAgg3
  z3 := Tryd.sizeOf3
  v3 := Tryd.zeroValue3
  t4 := Tryd.underlying4
  a4 := Tryd.isAgg4
  z4 := Tryd.sizeOf4
  v4 := Tryd.zeroValue4
  t5 := Tryd.underlying5
  a5 := Tryd.isAgg5
  z5 := Tryd.sizeOf5
  v5 := Tryd.zeroValue5
  t9 := Tryd.underlying9
  a9 := Tryd.isAgg9
  z9 := Tryd.sizeOf9
  v9 := Tryd.zeroValue9
  t21 := Tryd.underlying21
  a21 := Tryd.isAgg21
  z21 := Tryd.sizeOf21
  v21 := Tryd.zeroValue21
  t31 := Tryd.underlying63
  a31 := Tryd.isAgg63
  z31 := Tryd.sizeOf63
  v31 := Tryd.zeroValue63
  t46 := Tryd.underlying95
  a46 := Tryd.isAgg95
  z46 := Tryd.sizeOf95
  v46 := Tryd.zeroValue95
  t51 := Tryd.underlying110
  a51 := Tryd.isAgg110
  z51 := Tryd.sizeOf110
  v51 := Tryd.zeroValue110
  t105 := Tryd.underlying114
  a105 := Tryd.isAgg114
  z105 := Tryd.sizeOf114
  v105 := Tryd.zeroValue114
  t119 := Tryd.underlying132
  a119 := Tryd.isAgg132
  z119 := Tryd.sizeOf132
  t138 := Tryd.underlying134
  a138 := Tryd.isAgg134
  z138 := Tryd.sizeOf134
  v138 := Tryd.zeroValue134
  t139 := Tryd.underlying135
  a139 := Tryd.isAgg135
  z139 := Tryd.sizeOf135
  v139 := Tryd.zeroValue135
  t146 := Tryd.underlying127
  a146 := Tryd.isAgg127
  z146 := Tryd.sizeOf127
  v146 := Tryd.zeroValue127
  g1 := by kernel_rfl
  g3 := by kernel_rfl
  g4 := by kernel_rfl }
open Go.RowKit Go.Lib in
/-- strings.Split. (LAID: no walk: one application.) -/
theorem Tryd.strings_Split (s sep : ByteArray) (m : Int) (w : World) (hs : s.size < 4294967281) (hm : w.cell? ⟨0, 0, none⟩ = some (.int .i64 m)) (h1 : 1 ≤ sep.size) :
    Calls Tryd.prog 50 #[.string s, .string sep] w fun e w' =>
      e = .returned (.slice (some ⟨w.heap.size, 0, none⟩) (Lib.countB s sep + 1) (Lib.countB s sep + 1)) ∧ w' = w.alloc (.cells ((Lib.splitB sep 0 (Lib.countB s sep) s).map Value.string).toArray 9) := Any.strings_Split Tryd.lays146 (by kernel_rfl) s sep m w hs hm h1
end Go.Proofs

/- vec.Get, Text, Least; what works at all. -/
set_option maxRecDepth 20000
set_option maxHeartbeats 1000000
namespace Go.Vc.VD
open Go Go.Vc Go.Vc.V Go.RowKit Go.Proofs Vcx

variable {w W W' : World} {M : Nat → Prop} {gs : List Nat}

/-- A contract that draws no one knows how often. -/
def RetW (P : Program) (f : FuncId) (args : Array Value) (W : World) (v : Value) : Prop :=
  ∀ R : Ending → World → Prop, (∀ w', Below W.heap.size W w' → R (.returned v) w') → Calls P f args W R
theorem SlE.low {α : Type} {n : Nat} {f : α → List Value} {l : List α} {a : Option Addr} {len c : Nat} (h : SlE W n f l a len c) (hb : Below W.heap.size W W') : SlE W' n f l a len c := h.mono (cell_below hb) fun _ _ h => h
theorem Tab.low (h : Tab W) (hb : Below W.heap.size W W') : Tab W' := fun j v hv => cell_below hb _ _ (h j v hv)

theorem c18 {l : List PartT} {a : Option Addr} {n c : Nat} (k r : Int) (w : World) (hs : SlE w 3 partE l a n c) : Ret Tryd.prog 18 #[.slice a n c, slotV k r] w (.int .i64 (amt (k, r) l)) := by
  intro R h
  refine f18_calls a n c k r w R ?_
  unfold f18_vc
  have hn := hs.1
  have hmx := hs.len_le
  intro n1 hn1
  refine ⟨fun v W' => At w [] W' ∧ ∃ i : Nat, v.1 = i ∧ i ≤ l.length ∧ amt (k, r) (l.drop i) = amt (k, r) l, fun v _ => (n - v.1).toNat, ⟨fun w4 hb _ => ⟨(At.refl w).call hb, 0, rfl, Nat.zero_le _, rfl⟩, ?_⟩⟩
  rintro x5 w6 ⟨hA, i, hi, hil, hd⟩
  simp only at hi
  subst hi
  refine brD (fun hlt => ?_) (fun hge => leaf h hA ?_)
  · obtain ⟨p, hp⟩ : ∃ x, l[i]? = some x := ⟨_, List.getElem?_eq_getElem (by omega)⟩
    obtain ⟨ad, g1, el, _⟩ := elt_at (P := Tryd.prog) (k := .i64) (t := 22) (hs.call hA.below) hp (e := 46) (by kernel_rfl) (by kernel_rfl)
    rw [drop_cons hp, amt] at hd
    refine ⟨ad, g1, _, _, _, el.agg 3 (by kernel_rfl) (by kernel_rfl) (by simp) (by simp), ?_⟩
    intro n11 hn11 w12 hev hun
    have hbel := hev.bel (by simpa using hn11)
    refine at_callb (gs := [n1, n11]) ⟨(hA.call hbel).chg, hun⟩ (c36 _ _ _ w12) fun w14 hA hk hb14 => ⟨_, _, rfl, hk, ?_⟩
    have hcond : (p.1 == k && (p.2.1 == r && true)) = decide (slotOf p = (k, r)) := by
      rw [Bool.eq_iff_iff]
      simp [slotOf]
    rw [hcond]
    refine brD (fun he => leaf h hA ?_) (fun hne => ?_)
    · rw [if_pos he] at hd
      rw [hd]
    · rw [if_neg hne] at hd
      rw [succ_i i (by omega)]
      exact ⟨⟨hA.off, i + 1, rfl, by omega, hd⟩, by simp only; omega⟩
  · rw [show i = l.length by omega, List.drop_length, amt] at hd
    rw [← hd]

/-! ### Text -/
def rank (p : PartT) : Nat := (33 * p.1 + p.2.1).toNat
theorem sorted_len : ∀ (l : List PartT) (lo : Nat), l.Pairwise slt → (∀ p ∈ l, partR p) → (∀ p ∈ l, lo ≤ rank p) → l.length ≤ 132 - lo
  | [], _, _, _, _ => Nat.zero_le _
  | p :: l, lo, h, hR, hlo => by
    have h := List.pairwise_cons.1 h
    have hp := hR p (by simp)
    have hlp := hlo p (by simp)
    have ih := sorted_len l (rank p + 1) h.2 (fun q hq => hR q (by simp [hq])) fun q hq => by
      have h1 := h.1 q hq
      have h2 := hR q (by simp [hq])
      unfold rank slt partR slotR at *
      omega
    unfold rank partR slotR at *
    simp only [List.length_cons]
    omega
theorem vec_len' {l : List PartT} (h : vecB l = true) : l.length ≤ 132 := sorted_len l 0 (vecB_iff.1 h).2 (vecB_iff.1 h).1 fun _ _ => Nat.zero_le _
noncomputable def wordB (p : PartT) : ByteArray := stext p.1 p.2.1 ++ ByteArray.mk #[58] ++ strOfNums (txtL p.2.2)
noncomputable def vtext (l : List PartT) : ByteArray := if vecB l = true then (if l = [] then ByteArray.mk #[45] else ⟨(Lib.join (l.map fun p => (wordB p).data.toList) [44]).toArray⟩) else ByteArray.mk #[]
theorem stext_small (k r : Int) : (stext k r).size ≤ 40 := by
  unfold stext
  split
  · rename_i h
    unfold slotR at h
    have := nm_small k
    split
    · omega
    · have d1 := dec_small (n := r) (by omega)
      have s2 : (ByteArray.mk #[40]).size = 1 := rfl
      have s3 : (ByteArray.mk #[41]).size = 1 := rfl
      rw [ByteArray.size_append, ByteArray.size_append, ByteArray.size_append]
      omega
  · decide
theorem strip_le (l : List Int) : (strip l).length ≤ l.length := by
  unfold strip
  rw [List.length_reverse]
  exact Nat.le_trans (List.Sublist.length_le (List.dropWhile_sublist _)) (by simp)
theorem txt_small (n : Int) : (strOfNums (txtL n)).size ≤ 1100 := by
  have e : ∀ l : List Int, (strOfNums l).size = l.length := fun l => by simp [strOfNums, ByteArray.size]
  rw [e]
  unfold txtL
  split
  · rename_i h
    have h1 := decL_short 12 (n / 1000) (by omega) (by omega)
    have h2 := decL_len (n % 1000) 3
    split
    · omega
    · refine Nat.le_trans (strip_le _) ?_
      simp only [List.length_append, List.length_cons, List.length_nil]
      omega
  · simp
theorem word_small (p : PartT) : (wordB p).size ≤ 1200 := by
  have h1 := stext_small p.1 p.2.1
  have h2 := txt_small p.2.2
  have s2 : (ByteArray.mk #[58]).size = 1 := rfl
  unfold wordB
  rw [ByteArray.size_append, ByteArray.size_append]
  omega
theorem lens_small : ∀ l : List PartT, Lib.lens (l.map fun p => (wordB p).data.toList) ≤ 1200 * l.length
  | [] => by simp [Lib.lens]
  | p :: l => by
    have ih := lens_small l
    have := word_small p
    have e : (wordB p).data.toList.length = (wordB p).size := by rw [Array.length_toList]; rfl
    unfold Lib.lens at *
    simp only [List.map_cons, List.sum_cons, List.length_cons, e]
    omega
theorem join_small (l : List PartT) : (Lib.join (l.map fun p => (wordB p).data.toList) [44]).length ≤ 1201 * l.length := by
  cases l with
  | nil => simp [Lib.join_nil]
  | cons p l =>
    have := lens_small (p :: l)
    rw [List.map_cons] at this ⊢
    rw [Lib.join_length]
    simp only [List.length_map, List.length_cons, List.length_nil] at *
    omega
theorem str_one (s : ByteArray) : ∀ u ∈ strE s, u.oneCell' = true := fun u hu => by
  simp at hu
  subst hu
  rfl
theorem part_I {l : List PartT} (hv : vecB l = true) {p : PartT} (hp : p ∈ l) : I64 p.2.2 := by
  have := ((vecB_iff.1 hv).1 p hp).2
  unfold I64
  omega

theorem c33 {l : List PartT} {a : Option Addr} {n c : Nat} (w : World) (hT : Tab w) (hs : SlE w 3 partE l a n c) : RetW Tryd.prog 33 #[.slice a n c] w (.string (vtext l)) := by
  intro R h
  refine f33_calls a n c w R ?_
  unfold f33_vc
  have hn := hs.1
  refine at_callb (At.refl w) (c11 w hs) fun w2 hA _ hb2 => ⟨_, rfl, brNB (fun hno => ?_) (fun hv => ?_)⟩
  · have := h w2 hA.below.below
    rwa [vtext, if_neg (by rw [hno]; decide)] at this
  rw [vtext, if_pos hv] at h
  have hlen := vec_len' hv
  refine ⟨fun v W' => At w [] W' ∧ ∃ i : Nat, v.2.1 = i ∧ i ≤ l.length ∧ OwnL w [] W' 9 1 strE (.slice v.1.1 v.1.2.1 v.1.2.2) ((l.take i).map wordB), fun v _ => (n - v.2.1).toNat, ⟨hA, 0, rfl, Nat.zero_le _, OwnL.nil⟩, ?_⟩
  rintro a6 n7 n8 x9 w10 ⟨hA, i, hi, hil, ho⟩
  simp only at hi ho
  subst hi
  refine brD (fun hlt => ?_) (fun hge => ?_)
  · obtain ⟨p, hp⟩ : ∃ x, l[i]? = some x := ⟨_, List.getElem?_eq_getElem (by omega)⟩
    obtain ⟨ad, g1, el, _⟩ := elt_at (P := Tryd.prog) (k := .i64) (t := 22) (hs.call hA.below) hp (e := 46) (by kernel_rfl) (by kernel_rfl)
    refine ⟨ad, g1, _, _, _, el.agg 3 (by kernel_rfl) (by kernel_rfl) (by simp) (by simp), ?_⟩
    intro n15 hn15 w16 hev hun
    have hbel := hev.bel (by simpa using hn15)
    have hA : At w [n15] w16 := ⟨(hA.call hbel).chg, hun⟩
    have ho := (ho.more (gs' := [n15]) (by intro g h1 _; simp at h1; omega)).call hbel
    have z1 := stext_small p.1 p.2.1
    have z2 := txt_small p.2.2
    have z3 : (ByteArray.mk #[58]).size = 1 := rfl
    refine at_callb hA (c36 _ _ _ w16) fun w18 hA hk hb18 => ⟨_, _, rfl, hk, ?_⟩
    refine at_callb hA (c54 _ _ w18 (hT.below hA.below)) fun w22 hA hk hb22 => ⟨_, rfl, hk, _, gives_sadd (by omega), ?_⟩
    refine at_callb hA (c55 _ w22 (part_I hv (List.mem_of_getElem? hp))) fun w26 hA hk hb26 => ⟨_, rfl, hk, _, gives_sadd (by rw [ByteArray.size_append]; omega), ?_⟩
    rw [succ_i i (by omega)]
    refine opw_push (f := strE) (e' := 9) (bytes := 16) hA (((ho.call hb18).call hb22).call hb26) (wordB p) (by kernel_rfl) (by kernel_rfl) rfl (fun _ _ => rfl) (str_one _) (by simp; omega) (by omega) fun a2 c2 w35 hA ho _ _ => ?_
    have htk : (l.take (i + 1)).map wordB = (l.take i).map wordB ++ [wordB p] := by
      rw [List.take_add_one, hp, List.map_append]
      rfl
    rw [← htk] at ho
    refine ⟨⟨hA.off, i + 1, rfl, by omega, ?_⟩, by simp only; omega⟩
    have e : ((l.take i).map wordB ++ [wordB p]).length = ((l.take (i + 1)).map wordB).length := by rw [htk]
    simp only
    rw [e]
    exact ho.more (by simp)
  · rw [show i = l.length by omega, List.take_length] at ho
    have hno := ho.len
    rw [List.length_map] at hno
    refine brE (fun h0 => ?_) (fun h0 => ?_)
    · have hl0 : l = [] := List.eq_nil_of_length_eq_zero (by omega)
      have := h w10 hA.below.below
      rwa [if_pos hl0] at this
    · have hl0 : l ≠ [] := fun e => h0 (by rw [hno, e]; rfl)
      rw [if_neg hl0] at h
      have hlp : 0 < (l.map wordB).length := by rw [List.length_map]; exact List.length_pos_iff.2 hl0
      obtain ⟨g, cur, rfl, _, hg, hlc, hcm, _, _⟩ := ho.ptr hlp
      have hsl := ho.sl fun _ _ => rfl
      have e7 : n7 = (l.map wordB).length := by rw [List.length_map]; exact hno
      subst e7
      have hem : (l.map wordB).map (fun x => x.data.toList) = l.map fun p => (wordB p).data.toList := by rw [List.map_map]; rfl
      have hjs := join_small l
      refine (Tryd.strings_Join g 0 n8 (l.map wordB) (ByteArray.mk #[44]) w10 (fun j x hx => ?_) (Array.getElem?_eq_some_iff.1 hg).1 (by rw [List.length_map]; omega) hlc (by rw [hem]; show (Lib.join _ [44]).length ≤ _; omega)).mono fun e w40 ⟨he, hb⟩ => ⟨_, he, ?_⟩
      · obtain ⟨ad, cs, ha, _, hcs, rfl⟩ := hsl.at_ hx
        cases ha
        have := hcs 0 _ rfl
        rw [addr_add_add _ _ _ rfl, addr_add] at this
        simpa using this
      · rw [hem]
        exact h w40 (hA.below.below.trans (hb.mono hA.size))
end Go.Vc.VD

/- vec.Least; few; what works at all. -/
set_option maxRecDepth 20000
set_option maxHeartbeats 1000000
namespace Go.Vc.VD
open Go Go.Vc Go.Vc.V Go.RowKit Go.Proofs Vcx

variable {w W W' : World} {M : Nat → Prop} {gs : List Nat}

def mn (x y : Int) : Int := if y < x then y else x
def least1 (b : List PartT) (p : PartT) : Option PartT := if 0 < mn p.2.2 (amt (slotOf p) b) then some (p.1, p.2.1, mn p.2.2 (amt (slotOf p) b)) else none
def leastL (a b : List PartT) : List PartT := if vecB a = true ∧ vecB b = true then a.filterMap (least1 b) else []
theorem c29 {l1 l2 : List PartT} {aa ba : Option Addr} {an ac bn bc : Nat} (w : World) (h1 : SlE w 3 partE l1 aa an ac) (h2 : SlE w 3 partE l2 ba bn bc) : RetL Tryd.prog 29 #[.slice aa an ac, .slice ba bn bc] w 46 3 partE (leastL l1 l2) := by
  intro R h
  refine f29_calls aa an ac ba bn bc w R ?_
  unfold f29_vc
  have hn := h1.1
  refine at_callb (At.refl w) (c11 w h1) fun w2 hA _ hb2 => ⟨_, rfl, brNB (fun hno => ?_) (fun hv1 => ?_)⟩
  · exact leafl h hA OwnL.nil (by rw [leastL, if_neg (fun hh => by rw [hno] at hh; cases hh.1)])
  refine at_callb hA (c11 w2 (h2.call hb2)) fun w5 hA _ hb5 => ⟨_, rfl, brNB (fun hno => ?_) (fun hv2 => ?_)⟩
  · exact leafl h hA OwnL.nil (by rw [leastL, if_neg (fun hh => by rw [hno] at hh; cases hh.2)])
  have hlen := vec_len' hv1
  refine ⟨fun v W' => At w [] W' ∧ ∃ i : Nat, v.2.1 = i ∧ i ≤ l1.length ∧ OwnL w [] W' 46 3 partE (.slice v.1.1 v.1.2.1 v.1.2.2) ((l1.take i).filterMap (least1 l2)), fun v _ => (an - v.2.1).toNat, ⟨hA, 0, rfl, Nat.zero_le _, OwnL.nil⟩, ?_⟩
  rintro a9 n10 n11 x12 w13 ⟨hA, i, hi, hil, ho⟩
  simp only at hi ho
  subst hi
  have hsz13 := hA.size
  refine brD (fun hlt => ?_) (fun hge => ?_)
  · obtain ⟨p, hp⟩ : ∃ x, l1[i]? = some x := ⟨_, List.getElem?_eq_getElem (by omega)⟩
    obtain ⟨ad, g1, el, _⟩ := elt_at (P := Tryd.prog) (k := .i64) (t := 22) (h1.call hA.below) hp (e := 46) (by kernel_rfl) (by kernel_rfl)
    refine ⟨ad, g1, _, _, _, el.agg 3 (by kernel_rfl) (by kernel_rfl) (by simp) (by simp), ?_⟩
    intro n18 hn18 w19 hev hun
    have hbel := hev.bel (by simpa using hn18)
    have hA : At w [n18] w19 := ⟨(hA.call hbel).chg, hun⟩
    have ho := (ho.more (gs' := [n18]) (by intro g h1 _; simp at h1; omega)).call hbel
    have htk : (l1.take (i + 1)).filterMap (least1 l2) = (l1.take i).filterMap (least1 l2) ++ (least1 l2 p).toList := by
      rw [List.take_add_one, hp, List.filterMap_append]
      congr 1
    have hle : ((l1.take i).filterMap (least1 l2)).length ≤ i := Nat.le_trans (List.length_filterMap_le ..) (by simp; omega)
    refine at_callb hA (c36 _ _ _ w19) fun w21 hA hk hb21 => ⟨_, _, rfl, hk, ?_⟩
    refine at_callb hA (c18 _ _ w21 (h2.call hA.below)) fun w25 hA hk hb25 => ⟨_, rfl, hk, ?_⟩
    have ho := (ho.call hb21).call hb25
    rw [succ_i i (by omega)]
    have e : (if amt (p.1, p.2.1) l2 < p.2.2 then amt (p.1, p.2.1) l2 else p.2.2) = mn p.2.2 (amt (slotOf p) l2) := rfl
    rw [e]
    refine brD (fun hpos => ?_) (fun hno => ?_)
    · intro w27 hev hun
      have hA := hA.evo (by intro d hd; simp at hd; omega) hev hun
      have ho := ho.evo (fun d hd hn => absurd hd hn) hev
      have e1 : least1 l2 p = some (p.1, p.2.1, mn p.2.2 (amt (slotOf p) l2)) := if_pos hpos
      rw [e1] at htk
      refine opw_push (f := partE) (e' := 46) (bytes := 24) hA ho (p.1, p.2.1, mn p.2.2 (amt (slotOf p) l2)) (by kernel_rfl) (by kernel_rfl) rfl (fun _ _ => rfl) (part_one _) (by omega) (by omega) fun a2 c2 w35 hA ho _ _ => ?_
      refine ⟨⟨hA.off, i + 1, rfl, by omega, ?_⟩, by simp only; omega⟩
      simp only
      rw [htk]
      exact ho.more (by simp)
    · intro w38 hev hun
      have hA := hA.evo (by intro d hd; simp at hd; omega) hev hun
      have ho := ho.evo (fun d hd hn => absurd hd hn) hev
      have e1 : least1 l2 p = none := if_neg hno
      rw [e1] at htk
      refine ⟨⟨hA.off, i + 1, rfl, by omega, ?_⟩, by simp only; omega⟩
      simp only
      rw [htk]
      simpa using ho.more (gs' := []) (by simp)
  · rw [show i = l1.length by omega, List.take_length] at ho
    exact leafl h hA ho (by rw [leastL, if_pos ⟨hv1, hv2⟩])

/-! ### Few -/
abbrev LsR (W : World) (ls : List (List PartT)) (a : Option Addr) (n c : Nat) : Prop := SlR W 1 (fun l cs => ∃ a n c, cs = [Value.slice a n c] ∧ SlE W 3 partE l a n c) ls a n c
def fewL (ls : List (List PartT)) : Bool := ls.all fun l => decide (l.length ≤ 150)
theorem all_take {α : Type} {p : α → Bool} {l : List α} {i : Nat} {x : α} (hx : l[i]? = some x) : (l.take (i + 1)).all p = ((l.take i).all p && p x) := by
  rw [List.take_add_one, hx, List.all_append]; simp
theorem c9 {ls : List (List PartT)} {a : Option Addr} {n c : Nat} (w : World) (hs : LsR w ls a n c) : Ret Tryd.prog 9 #[.slice a n c] w (.bool (fewL ls)) := by
  intro R h
  refine f9_calls a n c w R ?_
  unfold f9_vc
  have hn := hs.1
  have hmx := hs.2.1
  have hmx2 := hs.2.2.1
  simp only [maxLen] at hmx2
  refine ⟨fun v W' => At w [] W' ∧ ∃ i : Nat, v.1 = i ∧ i ≤ ls.length ∧ fewL (ls.take i) = true, fun v _ => (n - v.1).toNat, ⟨At.refl w, 0, rfl, Nat.zero_le _, rfl⟩, ?_⟩
  rintro x3 w4 ⟨hA, i, hi, hil, hf⟩
  simp only at hi
  subst hi
  refine brD (fun hlt => ?_) (fun hge => leaf h hA ?_)
  · obtain ⟨l, hl⟩ : ∃ x, ls[i]? = some x := ⟨_, List.getElem?_eq_getElem (by omega)⟩
    obtain ⟨b, cs, rfl, _, hcs, a', n', c', rfl, hsl⟩ := hs.at_ hl
    have hnl := hsl.1
    have hel : Elt w4 (b.add (i * 1)) [Value.slice a' n' c'] := Elt.below (fun j v hv => hcs j v hv) hA.below
    have htk : fewL (ls.take (i + 1)) = (fewL (ls.take i) && decide (l.length ≤ 150)) := all_take hl
    refine ⟨_, gives_index (e := 22) (n := 1) (by kernel_rfl) (by kernel_rfl) (by omega), _, _, _, hel.one (by kernel_rfl) (by simp), ?_⟩
    rw [succ_i i (by omega)]
    refine brD (fun hb => leaf h hA ?_) (fun hb => ⟨⟨hA, i + 1, rfl, by omega, ?_⟩, by simp only; omega⟩)
    · have : fewL ls = false := by
        cases e : fewL ls with
        | false => rfl
        | true =>
          have := List.all_eq_true.1 e l (List.mem_of_getElem? hl)
          simp only [decide_eq_true_eq] at this
          omega
      rw [this]
    · rw [htk, hf, Bool.true_and]
      exact decide_eq_true (by omega)
  · rw [show i = ls.length by omega, List.take_length] at hf
    rw [hf]
abbrev RawS := Option Addr × Nat × Nat
abbrev rawS (x : RawS) : List Value := [.slice x.1 x.2.1 x.2.2]
theorem LsR_of {raws : List RawS} {ls : List (List PartT)} {a : Option Addr} {n c : Nat} (hs : SlE W 1 rawS raws a n c) (hl : raws.length = ls.length) (hm : ∀ (i : Nat) x y, raws[i]? = some x → ls[i]? = some y → SlE W 3 partE y x.1 x.2.1 x.2.2) : LsR W ls a n c := by
  refine ⟨by rw [← hl]; exact hs.1, hs.2.1, hs.2.2.1, hs.2.2.2.1, fun i y hy => ?_⟩
  obtain ⟨x, hx⟩ : ∃ x, raws[i]? = some x := ⟨_, List.getElem?_eq_getElem (by have := (List.getElem?_eq_some_iff.1 hy).1; omega)⟩
  obtain ⟨ad, cs, ha, hlc, hcs, rfl⟩ := hs.at_ hx
  exact ⟨ad, _, ha, hlc, hcs, _, _, _, rfl, hm i x y hx hy⟩

/-! ### What works -/
def wa : List PartT := [(0, 0, 1000), (1, 0, 3000)]
def wb : List PartT := [(0, 3, 1000), (1, 3, 3000)]
theorem w_of : vof [(0, 0, 500), (1, 0, 3000), (0, 0, 500)] = some wa := by decide +kernel
theorem w_move : vmove wa 0 3 = some wb := by decide +kernel
theorem nm0 : nmOf 0 = sCpus := by decide
theorem nm1 : nmOf 1 = sMem := by decide
theorem tx1 : txtL 1000 = [49] := by
  unfold txtL
  rw [if_pos (by decide), if_pos (by decide)]
  exact digit1 (d := 1) (by decide)
theorem tx3 : txtL 3000 = [51] := by
  unfold txtL
  rw [if_pos (by decide), if_pos (by decide)]
  exact digit1 (d := 3) (by decide)
theorem w_ta : vtext wa = ByteArray.mk #[99, 112, 117, 115, 58, 49, 44, 109, 101, 109, 58, 51] := by
  unfold vtext wa
  rw [if_pos (by decide), if_neg (by decide)]
  simp only [List.map_cons, List.map_nil, wordB, stext, tx1, tx3]
  rw [if_pos (by decide), if_pos trivial, if_pos (by decide), if_pos trivial, nm0, nm1]
  decide
theorem w_tb : vtext wb = ByteArray.mk #[99, 112, 117, 115, 40, 51, 41, 58, 49, 44, 109, 101, 109, 40, 51, 41, 58, 51] := by
  unfold vtext wb
  rw [if_pos (by decide), if_neg (by decide)]
  simp only [List.map_cons, List.map_nil, wordB, stext, tx1, tx3]
  rw [if_pos (by decide), if_neg (by decide), if_pos (by decide), if_neg (by decide), nm0, nm1, digit1 (d := 3) (by decide)]
  decide
theorem c13 (w : World) (hT : Tab w) : RetW Tryd.prog 13 #[] w (.bool true) := by
  intro R h
  refine f13_calls w R ?_
  unfold f13_vc
  refine opw_litL (e' := 46) (f := partE) (size := 3) (l := [(0, 0, 500), (1, 0, 3000), (0, 0, 500)]) (At.refl w) rfl (fun _ _ => rfl) (by decide) (by kernel_rfl) fun g1 w2 _ hA _ hb2 ho1 => ⟨_, _, _, rfl, ?_⟩
  refine at_calllb hA (c14 w2 (ho1.sl fun _ _ => rfl) (by decide) (fun p hp => ?_)) (fun _ _ => rfl) fun a8 d8 w7 hA _ hb7 _ s8 => ⟨_, _, _, _, rfl, ?_⟩
  · simp at hp
    unfold I64
    rcases hp with rfl | rfl | rfl <;> decide
  rw [w_of] at s8 ⊢
  have s8 : SlE w7 3 partE wa a8 2 d8 := s8
  refine at_calllb hA (c21 0 3 w7 s8 (by decide)) (fun _ _ => rfl) fun a14 d14 w13 hA _ hb13 _ s14 => ⟨_, _, _, _, rfl, ?_⟩
  rw [w_move] at s14 ⊢
  have s14 : SlE w13 3 partE wb a14 2 d14 := s14
  have s8 := s8.call hb13
  refine brB (fun _ => ?_) (fun e => by cases e)
  refine c33 w13 (hT.below hA.below) s8 _ fun w19 hb19 => ⟨_, rfl, ?_⟩
  rw [w_ta]
  refine ⟨fun _ => brB (fun _ => ?_) (fun e => by cases e), fun e => by simp at e⟩
  refine c33 w19 ((hT.below hA.below).low hb19) (SlE.low s14 hb19) _ fun w22 hb22 => ⟨_, rfl, ?_⟩
  rw [w_tb]
  refine ⟨fun _ => ?_, fun e => by simp at e⟩
  have s8 := SlE.low (SlE.low s8 hb19) hb22
  have s14 := SlE.low (SlE.low s14 hb19) hb22
  have hbw : Below w.heap.size w w22 := (hA.below.below.trans (hb19.mono hA.size)).trans (hb22.mono (Nat.le_trans hA.size hb19.size))
  refine c10 w22 s8 s8 (by decide) _ fun w25 hb25 => ⟨_, rfl, brB (fun _ => ?_) (fun e => ?_)⟩
  · refine c10 w25 (s14.call hb25) (s8.call hb25) (by decide) _ fun w28 hb28 => ⟨_, rfl, ?_⟩
    have := h w28 ((hbw.trans (hb25.below.mono (Nat.le_trans hA.size (Nat.le_trans hb19.size hb22.size)))).trans (hb28.below.mono (Nat.le_trans hA.size (Nat.le_trans hb19.size (Nat.le_trans hb22.size hb25.size)))))
    exact this
  · exact absurd e (by decide)
end Go.Vc.VD

/- The formulas of functions, printed by a program (VcTool.lean): each is what the generator's formula comes to, by the kernel's reckoning; whoever proves one has the function's contract. -/
set_option maxRecDepth 100000
set_option maxHeartbeats 1000000
set_option linter.unusedVariables false
namespace Vcx
open Go Go.Vc Go.RowKit
/-! manciple/manciplelaw05.VecOrder -/
def h3 : Hints := ⟨[], [], [12, 34, 19, 23, 28, 39, 45, 50], [], [], [], [(5, ⟨[], []⟩)], [], []⟩
def f3_vc (aa : Option Addr) (an : Nat) (ac : Nat) (ba : Option Addr) (bn : Nat) (bc : Nat) (ca : Option Addr) (cn : Nat) (cc : Nat) (w : World) (R : Ending → World → Prop) : Prop :=
 OpW Proofs.Tryd.prog (valueS (Instr.buildSlice 44 3 #[(0, Value.slice aa an ac), (1, Value.slice ba bn bc), (2, Value.slice ca cn cc)])) w fun (v1 : Value) (w2 : World) =>
 ∃ (a3 : Option Addr),
 ∃ (n4 : Nat),
 ∃ (n5 : Nat),
 v1 = Value.slice a3 n4 n5 ∧
 Calls Proofs.Tryd.prog 9 #[Value.slice a3 n4 n5] w2 fun (e6 : Ending) (w7 : World) =>
 ∃ (b8 : Bool),
 e6 = Ending.returned (Value.bool b8) ∧
 ((!b8) = true → R (Ending.returned (Value.bool true)) w7) ∧
 ((!b8) = false →
 ∃ (J9 : Unit → World → Prop),
 (Calls Proofs.Tryd.prog 10 #[Value.slice aa an ac, Value.slice aa an ac] w7 fun (e10 : Ending) (w11 : World) =>
 ∃ (b12 : Bool),
 e10 = Ending.returned (Value.bool b12) ∧
 Calls Proofs.Tryd.prog 11 #[Value.slice aa an ac] w11 fun (e13 : Ending) (w14 : World) =>
 ∃ (b15 : Bool),
 e13 = Ending.returned (Value.bool b15) ∧
 ((!b12 == b15) = true → R (Ending.returned (Value.bool false)) w14) ∧
 ((!b12 == b15) = false →
 Calls Proofs.Tryd.prog 10 #[Value.slice aa an ac, Value.slice ba bn bc] w14 fun (e16 : Ending) (w17 : World) =>
 ∃ (b18 : Bool),
 e16 = Ending.returned (Value.bool b18) ∧
 (b18 = true →
 Calls Proofs.Tryd.prog 10 #[Value.slice ba bn bc, Value.slice aa an ac] w17 fun (e19 : Ending) (w20 : World) =>
 ∃ (b21 : Bool),
 e19 = Ending.returned (Value.bool b21) ∧
 (b21 = true →
 Calls Proofs.Tryd.prog 12 #[Value.slice aa an ac, Value.slice ba bn bc] w20 fun (e22 : Ending) (w23 : World) =>
 ∃ (b24 : Bool), e22 = Ending.returned (Value.bool b24) ∧ ((!b24) = true → R (Ending.returned (Value.bool false)) w23) ∧ ((!b24) = false → J9 () w23)) ∧
 (b21 = false → J9 () w20)) ∧
 (b18 = false → J9 () w17))) ∧
 ∀ (w25 : World),
 J9 () w25 →
 Calls Proofs.Tryd.prog 10 #[Value.slice aa an ac, Value.slice ba bn bc] w25 fun (e26 : Ending) (w27 : World) =>
 ∃ (b28 : Bool),
 e26 = Ending.returned (Value.bool b28) ∧
 ((!b28) = true → Calls Proofs.Tryd.prog 13 #[] w27 fun (e29 : Ending) (w30 : World) => ∃ (b31 : Bool), e29 = Ending.returned (Value.bool b31) ∧ R (Ending.returned (Value.bool b31)) w30) ∧
 ((!b28) = false →
 Calls Proofs.Tryd.prog 10 #[Value.slice ba bn bc, Value.slice ca cn cc] w27 fun (e32 : Ending) (w33 : World) =>
 ∃ (b34 : Bool),
 e32 = Ending.returned (Value.bool b34) ∧
 ((!b34) = true → Calls Proofs.Tryd.prog 13 #[] w33 fun (e35 : Ending) (w36 : World) => ∃ (b37 : Bool), e35 = Ending.returned (Value.bool b37) ∧ R (Ending.returned (Value.bool b37)) w36) ∧
 ((!b34) = false →
 Calls Proofs.Tryd.prog 10 #[Value.slice aa an ac, Value.slice ca cn cc] w33 fun (e38 : Ending) (w39 : World) =>
 ∃ (b40 : Bool),
 e38 = Ending.returned (Value.bool b40) ∧
 (b40 = true → Calls Proofs.Tryd.prog 13 #[] w39 fun (e41 : Ending) (w42 : World) => ∃ (b43 : Bool), e41 = Ending.returned (Value.bool b43) ∧ R (Ending.returned (Value.bool b43)) w42) ∧
 (b40 = false → R (Ending.returned (Value.bool false)) w39))))
theorem f3_eq (aa : Option Addr) (an : Nat) (ac : Nat) (ba : Option Addr) (bn : Nat) (bc : Nat) (ca : Option Addr) (cn : Nat) (cc : Nat) (w : World) (R : Ending → World → Prop) : (fnF Go.Proofs.Tryd.prog h3 Go.Proofs.Tryd.f3 [Value.slice aa an ac, Value.slice ba bn bc, Value.slice ca cn cc] w R).den = f3_vc aa an ac ba bn bc ca cn cc w R := by kernel_rfl
theorem f3_calls (aa : Option Addr) (an : Nat) (ac : Nat) (ba : Option Addr) (bn : Nat) (bc : Nat) (ca : Option Addr) (cn : Nat) (cc : Nat) (w : World) (R : Ending → World → Prop) (h : f3_vc aa an ac ba bn bc ca cn cc w R) : Calls Go.Proofs.Tryd.prog 3 (List.toArray [Value.slice aa an ac, Value.slice ba bn bc, Value.slice ca cn cc]) w R :=
 fn_sound (H := h3) (fn := Go.Proofs.Tryd.f3) (by kernel_rfl) (by kernel_rfl) (by kernel_rfl) ((f3_eq aa an ac ba bn bc ca cn cc w R).mpr h)


/-! manciple/manciplelaw05.VecOf -/
def h4 : Hints := ⟨[5], [], [15, 29, 34, 41, 50, 59, 65], [(5, [0, 1, 2, 3, 4, 5, 6, 7, 8, 9, 11, 10, 12, 13, 14, 15, 16, 17, 19, 20, 18, 21, 22, 23, 24, 25, 26, 28, 29, 27, 30, 31, 32, 33, 34, 36, 35, 37, 38, 39, 40, 41, 42])], [], [], [], [], []⟩
def f4_vc (la : Option Addr) (ln : Nat) (lc : Nat) (va : Option Addr) (vn : Nat) (vc : Nat) (s_0 : Int) (s_1 : Int) (w : World) (R : Ending → World → Prop) : Prop :=
 ∀ (n1 : Nat),
 w.heap.size ≤ n1 →
 ∀ (w2 : World),
 Bel w w2 →
 Under [n1] w2 →
 OpW Proofs.Tryd.prog (valueS (Instr.buildSlice 44 2 #[(0, Value.slice la ln lc), (1, Value.slice va vn vc)])) w2 fun (v3 : Value) (w4 : World) =>
 ∃ (a5 : Option Addr),
 ∃ (n6 : Nat),
 ∃ (n7 : Nat),
 v3 = Value.slice a5 n6 n7 ∧
 Keeps [n1] w2 w4 ∧
 Calls Proofs.Tryd.prog 9 #[Value.slice a5 n6 n7] w4 fun (e8 : Ending) (w9 : World) =>
 ∃ (b10 : Bool),
 e8 = Ending.returned (Value.bool b10) ∧
 Keeps [n1] w4 w9 ∧
 ((!b10) = true → R (Ending.returned (Value.bool true)) w9) ∧
 ((!b10) = false →
 Calls Proofs.Tryd.prog 14 #[Value.slice la ln lc] w9 fun (e11 : Ending) (w12 : World) =>
 ∃ (a13 : Option Addr),
 ∃ (n14 : Nat),
 ∃ (n15 : Nat),
 ∃ (b16 : Bool),
 e11 = Ending.returned (Value.tuple #[Value.slice a13 n14 n15, Value.bool b16]) ∧
 Keeps [n1] w9 w12 ∧
 Calls Proofs.Tryd.prog 15 #[Value.slice la ln lc] w12 fun (e17 : Ending) (w18 : World) =>
 ∃ (a19 : Option Addr),
 ∃ (n20 : Nat),
 ∃ (n21 : Nat),
 ∃ (b22 : Bool),
 e17 = Ending.returned (Value.tuple #[Value.slice a19 n20 n21, Value.bool b22]) ∧
 Keeps [n1] w12 w18 ∧
 ∀ (w23 : World),
 Bel w18 w23 →
 Under [n1] w23 →
 Calls Proofs.Tryd.prog 16 #[Value.slice a13 n14 n15, Value.slice a19 n20 n21] w23 fun (e24 : Ending) (w25 : World) =>
 ∃ (b26 : Bool),
 e24 = Ending.returned (Value.bool b26) ∧
 Keeps [n1] w23 w25 ∧
 (b26 = true →
 ((b16 == b22) = true →
 Calls Proofs.Tryd.prog 11 #[Value.slice va vn vc] w25 fun (e27 : Ending) (w28 : World) =>
 ∃ (b29 : Bool),
 e27 = Ending.returned (Value.bool b29) ∧
 Keeps [n1] w25 w28 ∧
 Calls Proofs.Tryd.prog 17 #[Value.slice va vn vc] w28 fun (e30 : Ending) (w31 : World) =>
 ∃ (b32 : Bool),
 e30 = Ending.returned (Value.bool b32) ∧
 Keeps [n1] w28 w31 ∧
 ((b29 == b32) = true →
 Calls Proofs.Tryd.prog 18 #[Value.slice va vn vc, Value.agg #[Value.int IntKind.i64 s_0, Value.int IntKind.i64 s_1]] w31
 fun (e33 : Ending) (w34 : World) =>
 ∃ (x35 : Int),
 e33 = Ending.returned (Value.int IntKind.i64 x35) ∧
 Keeps [n1] w31 w34 ∧
 Calls Proofs.Tryd.prog 19 #[Value.slice va vn vc, Value.agg #[Value.int IntKind.i64 s_0, Value.int IntKind.i64 s_1]] w34
 fun (e36 : Ending) (w37 : World) =>
 ∃ (x38 : Int),
 e36 = Ending.returned (Value.int IntKind.i64 x38) ∧
 Keeps [n1] w34 w37 ∧
 ((x35 == x38) = true →
 Calls Proofs.Tryd.prog 12 #[Value.slice la ln lc, Value.slice va vn vc] w37 fun (e39 : Ending) (w40 : World) =>
 ∃ (b41 : Bool),
 e39 = Ending.returned (Value.bool b41) ∧
 Keeps [n1] w37 w40 ∧
 Calls Proofs.Tryd.prog 16 #[Value.slice la ln lc, Value.slice va vn vc] w40
 fun (e42 : Ending) (w43 : World) =>
 ∃ (b44 : Bool),
 e42 = Ending.returned (Value.bool b44) ∧
 Keeps [n1] w40 w43 ∧
 ((b41 == b44) = true →
 Calls Proofs.Tryd.prog 20 #[Value.slice va vn vc] w43 fun (e45 : Ending) (w46 : World) =>
 ∃ (a47 : Option Addr),
 ∃ (n48 : Nat),
 ∃ (n49 : Nat),
 e45 = Ending.returned (Value.slice a47 n48 n49) ∧
 Keeps [n1] w43 w46 ∧
 Calls Proofs.Tryd.prog 16 #[Value.slice a47 n48 n49, Value.slice va vn vc] w46
 fun (e50 : Ending) (w51 : World) =>
 ∃ (b52 : Bool),
 e50 = Ending.returned (Value.bool b52) ∧
 Keeps [n1] w46 w51 ∧
 (b52 = true →
 Calls Proofs.Tryd.prog 13 #[] w51 fun (e53 : Ending) (w54 : World) =>
 ∃ (b55 : Bool),
 e53 = Ending.returned (Value.bool b55) ∧
 Keeps [n1] w51 w54 ∧ R (Ending.returned (Value.bool b55)) w54) ∧
 (b52 = false → R (Ending.returned (Value.bool false)) w51)) ∧
 ((b41 == b44) = false → R (Ending.returned (Value.bool false)) w43)) ∧
 ((x35 == x38) = false → R (Ending.returned (Value.bool false)) w37)) ∧
 ((b29 == b32) = false → R (Ending.returned (Value.bool false)) w31)) ∧
 ((b16 == b22) = false → R (Ending.returned (Value.bool false)) w25)) ∧
 (b26 = false → R (Ending.returned (Value.bool false)) w25))
theorem f4_eq (la : Option Addr) (ln : Nat) (lc : Nat) (va : Option Addr) (vn : Nat) (vc : Nat) (s_0 : Int) (s_1 : Int) (w : World) (R : Ending → World → Prop) : (fnF Go.Proofs.Tryd.prog h4 Go.Proofs.Tryd.f4 [Value.slice la ln lc, Value.slice va vn vc, Value.agg #[Value.int IntKind.i64 s_0, Value.int IntKind.i64 s_1]] w R).den = f4_vc la ln lc va vn vc s_0 s_1 w R := by kernel_rfl
theorem f4_calls (la : Option Addr) (ln : Nat) (lc : Nat) (va : Option Addr) (vn : Nat) (vc : Nat) (s_0 : Int) (s_1 : Int) (w : World) (R : Ending → World → Prop) (h : f4_vc la ln lc va vn vc s_0 s_1 w R) : Calls Go.Proofs.Tryd.prog 4 (List.toArray [Value.slice la ln lc, Value.slice va vn vc, Value.agg #[Value.int IntKind.i64 s_0, Value.int IntKind.i64 s_1]]) w R :=
 fn_sound (H := h4) (fn := Go.Proofs.Tryd.f4) (by kernel_rfl) (by kernel_rfl) (by kernel_rfl) ((f4_eq la ln lc va vn vc s_0 s_1 w R).mpr h)


/-! manciple/manciplelaw05.VecMoves -/
def h5 : Hints := ⟨[], [], [14, 32, 37, 49, 60, 66], [], [], [], [], [], []⟩
def f5_vc (va : Option Addr) (vn : Nat) (vc : Nat) (from' : Int) (to' : Int) (w : World) (R : Ending → World → Prop) : Prop :=
 OpW Proofs.Tryd.prog (valueS (Instr.buildSlice 44 1 #[(0, Value.slice va vn vc)])) w fun (v1 : Value) (w2 : World) =>
 ∃ (a3 : Option Addr),
 ∃ (n4 : Nat),
 ∃ (n5 : Nat),
 v1 = Value.slice a3 n4 n5 ∧
 Calls Proofs.Tryd.prog 9 #[Value.slice a3 n4 n5] w2 fun (e6 : Ending) (w7 : World) =>
 ∃ (b8 : Bool),
 e6 = Ending.returned (Value.bool b8) ∧
 ((!b8) = true → R (Ending.returned (Value.bool true)) w7) ∧
 ((!b8) = false →
 Calls Proofs.Tryd.prog 21 #[Value.slice va vn vc, Value.int IntKind.i64 from', Value.int IntKind.i64 to'] w7 fun (e9 : Ending) (w10 : World) =>
 ∃ (a11 : Option Addr),
 ∃ (n12 : Nat),
 ∃ (n13 : Nat),
 ∃ (b14 : Bool),
 e9 = Ending.returned (Value.tuple #[Value.slice a11 n12 n13, Value.bool b14]) ∧
 Calls Proofs.Tryd.prog 22 #[Value.slice va vn vc, Value.int IntKind.i64 from', Value.int IntKind.i64 to'] w10 fun (e15 : Ending) (w16 : World) =>
 ∃ (a17 : Option Addr),
 ∃ (n18 : Nat),
 ∃ (n19 : Nat),
 ∃ (b20 : Bool),
 e15 = Ending.returned (Value.tuple #[Value.slice a17 n18 n19, Value.bool b20]) ∧
 Calls Proofs.Tryd.prog 16 #[Value.slice a11 n12 n13, Value.slice a17 n18 n19] w16 fun (e21 : Ending) (w22 : World) =>
 ∃ (b23 : Bool),
 e21 = Ending.returned (Value.bool b23) ∧
 (b23 = true →
 ((b14 == b20) = true →
 OpW Proofs.Tryd.prog (valueS (Instr.buildSlice 60 2 #[(0, Value.int IntKind.i64 from'), (1, Value.int IntKind.i64 to')])) w22 fun (v24 : Value) (w25 : World) =>
 ∃ (a26 : Option Addr),
 ∃ (n27 : Nat),
 ∃ (n28 : Nat),
 v24 = Value.slice a26 n27 n28 ∧
 Calls Proofs.Tryd.prog 23 #[Value.slice va vn vc, Value.slice a26 n27 n28] w25 fun (e29 : Ending) (w30 : World) =>
 ∃ (a31 : Option Addr),
 ∃ (n32 : Nat),
 ∃ (n33 : Nat),
 e29 = Ending.returned (Value.slice a31 n32 n33) ∧
 Calls Proofs.Tryd.prog 24 #[Value.slice va vn vc, Value.int IntKind.i64 from', Value.int IntKind.i64 to'] w30 fun (e34 : Ending) (w35 : World) =>
 ∃ (a36 : Option Addr),
 ∃ (n37 : Nat),
 ∃ (n38 : Nat),
 e34 = Ending.returned (Value.slice a36 n37 n38) ∧
 Calls Proofs.Tryd.prog 16 #[Value.slice a31 n32 n33, Value.slice a36 n37 n38] w35 fun (e39 : Ending) (w40 : World) =>
 ∃ (b41 : Bool),
 e39 = Ending.returned (Value.bool b41) ∧
 (b41 = true →
 OpW Proofs.Tryd.prog (valueS (Instr.buildSlice 60 1 #[(0, Value.int IntKind.i64 to')])) w40 fun (v42 : Value) (w43 : World) =>
 ∃ (a44 : Option Addr),
 ∃ (n45 : Nat),
 ∃ (n46 : Nat),
 v42 = Value.slice a44 n45 n46 ∧
 Calls Proofs.Tryd.prog 23 #[Value.slice va vn vc, Value.slice a44 n45 n46] w43 fun (e47 : Ending) (w48 : World) =>
 ∃ (a49 : Option Addr),
 ∃ (n50 : Nat),
 ∃ (n51 : Nat),
 e47 = Ending.returned (Value.slice a49 n50 n51) ∧
 Calls Proofs.Tryd.prog 24 #[Value.slice va vn vc, Value.int IntKind.i64 to', Value.int IntKind.i64 to'] w48
 fun (e52 : Ending) (w53 : World) =>
 ∃ (a54 : Option Addr),
 ∃ (n55 : Nat),
 ∃ (n56 : Nat),
 e52 = Ending.returned (Value.slice a54 n55 n56) ∧
 Calls Proofs.Tryd.prog 16 #[Value.slice a49 n50 n51, Value.slice a54 n55 n56] w53
 fun (e57 : Ending) (w58 : World) =>
 ∃ (b59 : Bool),
 e57 = Ending.returned (Value.bool b59) ∧
 (b59 = true →
 Calls Proofs.Tryd.prog 23 #[Value.slice va vn vc, Value.slice none 0 0] w58
 fun (e60 : Ending) (w61 : World) =>
 ∃ (a62 : Option Addr),
 ∃ (n63 : Nat),
 ∃ (n64 : Nat),
 e60 = Ending.returned (Value.slice a62 n63 n64) ∧
 (((↑n63 : Int) == 0) = true →
 Calls Proofs.Tryd.prog 13 #[] w61 fun (e65 : Ending) (w66 : World) =>
 ∃ (b67 : Bool),
 e65 = Ending.returned (Value.bool b67) ∧ R (Ending.returned (Value.bool b67)) w66) ∧
 (((↑n63 : Int) == 0) = false → R (Ending.returned (Value.bool false)) w61)) ∧
 (b59 = false → R (Ending.returned (Value.bool false)) w58)) ∧
 (b41 = false → R (Ending.returned (Value.bool false)) w40)) ∧
 ((b14 == b20) = false → R (Ending.returned (Value.bool false)) w22)) ∧
 (b23 = false → R (Ending.returned (Value.bool false)) w22))
theorem f5_eq (va : Option Addr) (vn : Nat) (vc : Nat) (from' : Int) (to' : Int) (w : World) (R : Ending → World → Prop) : (fnF Go.Proofs.Tryd.prog h5 Go.Proofs.Tryd.f5 [Value.slice va vn vc, Value.int IntKind.i64 from', Value.int IntKind.i64 to'] w R).den = f5_vc va vn vc from' to' w R := by kernel_rfl
theorem f5_calls (va : Option Addr) (vn : Nat) (vc : Nat) (from' : Int) (to' : Int) (w : World) (R : Ending → World → Prop) (h : f5_vc va vn vc from' to' w R) : Calls Go.Proofs.Tryd.prog 5 (List.toArray [Value.slice va vn vc, Value.int IntKind.i64 from', Value.int IntKind.i64 to']) w R :=
 fn_sound (H := h5) (fn := Go.Proofs.Tryd.f5) (by kernel_rfl) (by kernel_rfl) (by kernel_rfl) ((f5_eq va vn vc from' to' w R).mpr h)


/-! manciple/manciplelaw05.VecSums -/
def h6 : Hints := ⟨[], [], [17, 45, 50, 55, 60, 69, 78], [], [], [], [], [], []⟩
def f6_vc (aa : Option Addr) (an : Nat) (ac : Nat) (ba : Option Addr) (bn : Nat) (bc : Nat) (w : World) (R : Ending → World → Prop) : Prop :=
 OpW Proofs.Tryd.prog (valueS (Instr.buildSlice 44 2 #[(0, Value.slice aa an ac), (1, Value.slice ba bn bc)])) w fun (v1 : Value) (w2 : World) =>
 ∃ (a3 : Option Addr),
 ∃ (n4 : Nat),
 ∃ (n5 : Nat),
 v1 = Value.slice a3 n4 n5 ∧
 Calls Proofs.Tryd.prog 9 #[Value.slice a3 n4 n5] w2 fun (e6 : Ending) (w7 : World) =>
 ∃ (b8 : Bool),
 e6 = Ending.returned (Value.bool b8) ∧
 ((!b8) = true → R (Ending.returned (Value.bool true)) w7) ∧
 ((!b8) = false →
 Calls Proofs.Tryd.prog 25 #[Value.slice aa an ac, Value.slice ba bn bc] w7 fun (e9 : Ending) (w10 : World) =>
 ∃ (a11 : Option Addr),
 ∃ (n12 : Nat),
 ∃ (n13 : Nat),
 ∃ (b14 : Bool),
 e9 = Ending.returned (Value.tuple #[Value.slice a11 n12 n13, Value.bool b14]) ∧
 Calls Proofs.Tryd.prog 26 #[Value.slice aa an ac, Value.slice ba bn bc] w10 fun (e15 : Ending) (w16 : World) =>
 ∃ (a17 : Option Addr),
 ∃ (n18 : Nat),
 ∃ (n19 : Nat),
 ∃ (b20 : Bool),
 e15 = Ending.returned (Value.tuple #[Value.slice a17 n18 n19, Value.bool b20]) ∧
 Calls Proofs.Tryd.prog 27 #[Value.slice aa an ac, Value.slice ba bn bc] w16 fun (e21 : Ending) (w22 : World) =>
 ∃ (a23 : Option Addr),
 ∃ (n24 : Nat),
 ∃ (n25 : Nat),
 ∃ (b26 : Bool),
 e21 = Ending.returned (Value.tuple #[Value.slice a23 n24 n25, Value.bool b26]) ∧
 Calls Proofs.Tryd.prog 28 #[Value.slice aa an ac, Value.slice ba bn bc] w22 fun (e27 : Ending) (w28 : World) =>
 ∃ (a29 : Option Addr),
 ∃ (n30 : Nat),
 ∃ (n31 : Nat),
 ∃ (b32 : Bool),
 e27 = Ending.returned (Value.tuple #[Value.slice a29 n30 n31, Value.bool b32]) ∧
 Calls Proofs.Tryd.prog 16 #[Value.slice a11 n12 n13, Value.slice a17 n18 n19] w28 fun (e33 : Ending) (w34 : World) =>
 ∃ (b35 : Bool),
 e33 = Ending.returned (Value.bool b35) ∧
 (b35 = true →
 ((b14 == b20) = true →
 Calls Proofs.Tryd.prog 16 #[Value.slice a23 n24 n25, Value.slice a29 n30 n31] w34 fun (e36 : Ending) (w37 : World) =>
 ∃ (b38 : Bool),
 e36 = Ending.returned (Value.bool b38) ∧
 (b38 = true →
 ((b26 == b32) = true →
 Calls Proofs.Tryd.prog 29 #[Value.slice aa an ac, Value.slice ba bn bc] w37 fun (e39 : Ending) (w40 : World) =>
 ∃ (a41 : Option Addr),
 ∃ (n42 : Nat),
 ∃ (n43 : Nat),
 e39 = Ending.returned (Value.slice a41 n42 n43) ∧
 Calls Proofs.Tryd.prog 30 #[Value.slice aa an ac, Value.slice ba bn bc] w40 fun (e44 : Ending) (w45 : World) =>
 ∃ (a46 : Option Addr),
 ∃ (n47 : Nat),
 ∃ (n48 : Nat),
 e44 = Ending.returned (Value.slice a46 n47 n48) ∧
 Calls Proofs.Tryd.prog 16 #[Value.slice a41 n42 n43, Value.slice a46 n47 n48] w45 fun (e49 : Ending) (w50 : World) =>
 ∃ (b51 : Bool),
 e49 = Ending.returned (Value.bool b51) ∧
 (b51 = true →
 Calls Proofs.Tryd.prog 10 #[Value.slice aa an ac, Value.slice ba bn bc] w50 fun (e52 : Ending) (w53 : World) =>
 ∃ (b54 : Bool),
 e52 = Ending.returned (Value.bool b54) ∧
 Calls Proofs.Tryd.prog 31 #[Value.slice aa an ac, Value.slice ba bn bc] w53
 fun (e55 : Ending) (w56 : World) =>
 ∃ (b57 : Bool),
 e55 = Ending.returned (Value.bool b57) ∧
 ((b54 == b57) = true →
 Calls Proofs.Tryd.prog 13 #[] w56 fun (e58 : Ending) (w59 : World) =>
 ∃ (b60 : Bool),
 e58 = Ending.returned (Value.bool b60) ∧ R (Ending.returned (Value.bool b60)) w59) ∧
 ((b54 == b57) = false → R (Ending.returned (Value.bool false)) w56)) ∧
 (b51 = false → R (Ending.returned (Value.bool false)) w50)) ∧
 ((b26 == b32) = false → R (Ending.returned (Value.bool false)) w37)) ∧
 (b38 = false → R (Ending.returned (Value.bool false)) w37)) ∧
 ((b14 == b20) = false → R (Ending.returned (Value.bool false)) w34)) ∧
 (b35 = false → R (Ending.returned (Value.bool false)) w34))
theorem f6_eq (aa : Option Addr) (an : Nat) (ac : Nat) (ba : Option Addr) (bn : Nat) (bc : Nat) (w : World) (R : Ending → World → Prop) : (fnF Go.Proofs.Tryd.prog h6 Go.Proofs.Tryd.f6 [Value.slice aa an ac, Value.slice ba bn bc] w R).den = f6_vc aa an ac ba bn bc w R := by kernel_rfl
theorem f6_calls (aa : Option Addr) (an : Nat) (ac : Nat) (ba : Option Addr) (bn : Nat) (bc : Nat) (w : World) (R : Ending → World → Prop) (h : f6_vc aa an ac ba bn bc w R) : Calls Go.Proofs.Tryd.prog 6 (List.toArray [Value.slice aa an ac, Value.slice ba bn bc]) w R :=
 fn_sound (H := h6) (fn := Go.Proofs.Tryd.f6) (by kernel_rfl) (by kernel_rfl) (by kernel_rfl) ((f6_eq aa an ac ba bn bc w R).mpr h)


/-! manciple/manciplelaw05.VecBack -/
def h7 : Hints := ⟨[], [], [20, 41, 42, 67, 75, 36, 51, 57, 63, 71, 78, 85, 104, 107, 114, 121], [], [], [], [(11, ⟨[], []⟩), (13, ⟨[], []⟩), (12, ⟨[(75, .bool)], []⟩)], [], []⟩
def f7_vc (aa : Option Addr) (an : Nat) (ac : Nat) (ba : Option Addr) (bn : Nat) (bc : Nat) (w : World) (R : Ending → World → Prop) : Prop :=
 OpW Proofs.Tryd.prog (valueS (Instr.buildSlice 44 2 #[(0, Value.slice aa an ac), (1, Value.slice ba bn bc)])) w fun (v1 : Value) (w2 : World) =>
 ∃ (a3 : Option Addr),
 ∃ (n4 : Nat),
 ∃ (n5 : Nat),
 v1 = Value.slice a3 n4 n5 ∧
 Calls Proofs.Tryd.prog 9 #[Value.slice a3 n4 n5] w2 fun (e6 : Ending) (w7 : World) =>
 ∃ (b8 : Bool),
 e6 = Ending.returned (Value.bool b8) ∧
 ((!b8) = true → R (Ending.returned (Value.bool true)) w7) ∧
 ((!b8) = false →
 Calls Proofs.Tryd.prog 25 #[Value.slice aa an ac, Value.slice ba bn bc] w7 fun (e9 : Ending) (w10 : World) =>
 ∃ (a11 : Option Addr),
 ∃ (n12 : Nat),
 ∃ (n13 : Nat),
 ∃ (b14 : Bool),
 e9 = Ending.returned (Value.tuple #[Value.slice a11 n12 n13, Value.bool b14]) ∧
 Calls Proofs.Tryd.prog 25 #[Value.slice ba bn bc, Value.slice aa an ac] w10 fun (e15 : Ending) (w16 : World) =>
 ∃ (a17 : Option Addr),
 ∃ (n18 : Nat),
 ∃ (n19 : Nat),
 ∃ (b20 : Bool),
 e15 = Ending.returned (Value.tuple #[Value.slice a17 n18 n19, Value.bool b20]) ∧
 ((!b14 == b20) = true → R (Ending.returned (Value.bool false)) w16) ∧
 ((!b14 == b20) = false →
 Calls Proofs.Tryd.prog 12 #[Value.slice a11 n12 n13, Value.slice a17 n18 n19] w16 fun (e21 : Ending) (w22 : World) =>
 ∃ (b23 : Bool),
 e21 = Ending.returned (Value.bool b23) ∧
 ((!b23) = true → R (Ending.returned (Value.bool false)) w22) ∧
 ((!b23) = false →
 ∃ (J24 : Unit → World → Prop),
 ((b14 = true →
 Calls Proofs.Tryd.prog 27 #[Value.slice a11 n12 n13, Value.slice ba bn bc] w22 fun (e25 : Ending) (w26 : World) =>
 ∃ (a27 : Option Addr),
 ∃ (n28 : Nat),
 ∃ (n29 : Nat),
 ∃ (b30 : Bool),
 e25 = Ending.returned (Value.tuple #[Value.slice a27 n28 n29, Value.bool b30]) ∧
 ((!b30) = true → R (Ending.returned (Value.bool false)) w26) ∧
 ((!b30) = false →
 Calls Proofs.Tryd.prog 12 #[Value.slice a27 n28 n29, Value.slice aa an ac] w26 fun (e31 : Ending) (w32 : World) =>
 ∃ (b33 : Bool),
 e31 = Ending.returned (Value.bool b33) ∧
 ((!b33) = true → R (Ending.returned (Value.bool false)) w32) ∧
 ((!b33) = false →
 Calls Proofs.Tryd.prog 10 #[Value.slice a11 n12 n13, Value.slice aa an ac] w32 fun (e34 : Ending) (w35 : World) =>
 ∃ (b36 : Bool),
 e34 = Ending.returned (Value.bool b36) ∧
 ((!b36) = true → R (Ending.returned (Value.bool false)) w35) ∧
 ((!b36) = false →
 Calls Proofs.Tryd.prog 11 #[Value.slice a11 n12 n13] w35 fun (e37 : Ending) (w38 : World) =>
 ∃ (b39 : Bool),
 e37 = Ending.returned (Value.bool b39) ∧
 ((!b39) = true → R (Ending.returned (Value.bool false)) w38) ∧ ((!b39) = false → J24 () w38))))) ∧
 (b14 = false → J24 () w22)) ∧
 ∀ (w40 : World),
 J24 () w40 →
 ∃ (J41 : Unit → World → Prop),
 (∃ (J42 : Bool × Unit → World → Prop),
 (Calls Proofs.Tryd.prog 11 #[Value.slice aa an ac] w40 fun (e43 : Ending) (w44 : World) =>
 ∃ (b45 : Bool),
 e43 = Ending.returned (Value.bool b45) ∧
 ((!b45) = true → J42 (true, ()) w44) ∧
 ((!b45) = false →
 Calls Proofs.Tryd.prog 11 #[Value.slice ba bn bc] w44 fun (e46 : Ending) (w47 : World) =>
 ∃ (b48 : Bool), e46 = Ending.returned (Value.bool b48) ∧ J42 (!b48, ()) w47)) ∧
 ∀ (b49 : Bool) (w50 : World),
 J42 (b49, ()) w50 →
 (b49 = true →
 ((!b14) = true →
 Calls Proofs.Tryd.prog 29 #[Value.slice aa an ac, Value.slice ba bn bc] w50 fun (e51 : Ending) (w52 : World) =>
 ∃ (a53 : Option Addr),
 ∃ (n54 : Nat),
 ∃ (n55 : Nat),
 e51 = Ending.returned (Value.slice a53 n54 n55) ∧
 (((↑n54 : Int) == 0) = true →
 Calls Proofs.Tryd.prog 13 #[] w52 fun (e56 : Ending) (w57 : World) =>
 ∃ (b58 : Bool), e56 = Ending.returned (Value.bool b58) ∧ R (Ending.returned (Value.bool b58)) w57) ∧
 (((↑n54 : Int) == 0) = false → R (Ending.returned (Value.bool false)) w52)) ∧
 ((!b14) = false → R (Ending.returned (Value.bool false)) w50)) ∧
 (b49 = false → J41 () w50)) ∧
 ∀ (w59 : World),
 J41 () w59 →
 Calls Proofs.Tryd.prog 29 #[Value.slice aa an ac, Value.slice ba bn bc] w59 fun (e60 : Ending) (w61 : World) =>
 ∃ (a62 : Option Addr),
 ∃ (n63 : Nat),
 ∃ (n64 : Nat),
 e60 = Ending.returned (Value.slice a62 n63 n64) ∧
 Calls Proofs.Tryd.prog 27 #[Value.slice aa an ac, Value.slice a62 n63 n64] w61 fun (e65 : Ending) (w66 : World) =>
 ∃ (a67 : Option Addr),
 ∃ (n68 : Nat),
 ∃ (n69 : Nat),
 ∃ (b70 : Bool),
 e65 = Ending.returned (Value.tuple #[Value.slice a67 n68 n69, Value.bool b70]) ∧
 Calls Proofs.Tryd.prog 27 #[Value.slice ba bn bc, Value.slice a62 n63 n64] w66 fun (e71 : Ending) (w72 : World) =>
 ∃ (a73 : Option Addr),
 ∃ (n74 : Nat),
 ∃ (n75 : Nat),
 ∃ (b76 : Bool),
 e71 = Ending.returned (Value.tuple #[Value.slice a73 n74 n75, Value.bool b76]) ∧
 (b70 = true →
 (b76 = true →
 Calls Proofs.Tryd.prog 29 #[Value.slice a67 n68 n69, Value.slice a73 n74 n75] w72 fun (e77 : Ending) (w78 : World) =>
 ∃ (a79 : Option Addr),
 ∃ (n80 : Nat),
 ∃ (n81 : Nat),
 e77 = Ending.returned (Value.slice a79 n80 n81) ∧
 (((↑n80 : Int) == 0) = true →
 Calls Proofs.Tryd.prog 29 #[Value.slice ba bn bc, Value.slice aa an ac] w78
 fun (e82 : Ending) (w83 : World) =>
 ∃ (a84 : Option Addr),
 ∃ (n85 : Nat),
 ∃ (n86 : Nat),
 e82 = Ending.returned (Value.slice a84 n85 n86) ∧
 Calls Proofs.Tryd.prog 12 #[Value.slice a62 n63 n64, Value.slice a84 n85 n86] w83
 fun (e87 : Ending) (w88 : World) =>
 ∃ (b89 : Bool),
 e87 = Ending.returned (Value.bool b89) ∧
 (b89 = true →
 Calls Proofs.Tryd.prog 13 #[] w88 fun (e90 : Ending) (w91 : World) =>
 ∃ (b92 : Bool),
 e90 = Ending.returned (Value.bool b92) ∧ R (Ending.returned (Value.bool b92)) w91) ∧
 (b89 = false → R (Ending.returned (Value.bool false)) w88)) ∧
 (((↑n80 : Int) == 0) = false → R (Ending.returned (Value.bool false)) w78)) ∧
 (b76 = false → R (Ending.returned (Value.bool false)) w72)) ∧
 (b70 = false → R (Ending.returned (Value.bool false)) w72))))
theorem f7_eq (aa : Option Addr) (an : Nat) (ac : Nat) (ba : Option Addr) (bn : Nat) (bc : Nat) (w : World) (R : Ending → World → Prop) : (fnF Go.Proofs.Tryd.prog h7 Go.Proofs.Tryd.f7 [Value.slice aa an ac, Value.slice ba bn bc] w R).den = f7_vc aa an ac ba bn bc w R := by kernel_rfl
theorem f7_calls (aa : Option Addr) (an : Nat) (ac : Nat) (ba : Option Addr) (bn : Nat) (bc : Nat) (w : World) (R : Ending → World → Prop) (h : f7_vc aa an ac ba bn bc w R) : Calls Go.Proofs.Tryd.prog 7 (List.toArray [Value.slice aa an ac, Value.slice ba bn bc]) w R :=
 fn_sound (H := h7) (fn := Go.Proofs.Tryd.f7) (by kernel_rfl) (by kernel_rfl) (by kernel_rfl) ((f7_eq aa an ac ba bn bc w R).mpr h)

end Vcx

/- VecOrder, VecBack. -/
set_option maxRecDepth 20000
set_option maxHeartbeats 1000000
namespace Go.Vc.VD
open Go Go.Vc Go.Vc.V Go.RowKit Go.Proofs Vcx

variable {w W W' : World} {M : Nat → Prop} {gs : List Nat}

def holdsB (a b : List PartT) : Bool := decide (vecB a = true ∧ vecB b = true) && (vsub a b).isSome
theorem holds_iff {a b : List PartT} : holdsB a b = true ↔ vecB a = true ∧ vecB b = true ∧ ∀ s, amt s b ≤ amt s a := by
  unfold holdsB
  rw [Bool.and_eq_true, decide_eq_true_eq]
  constructor
  · rintro ⟨⟨h1, h2⟩, h3⟩
    exact ⟨h1, h2, (vsub_iff h1 h2).1 h3⟩
  · rintro ⟨h1, h2, h3⟩
    exact ⟨⟨h1, h2⟩, (vsub_iff h1 h2).2 h3⟩
theorem holds_self (a : List PartT) : holdsB a a = vecB a := by
  rw [Bool.eq_iff_iff, holds_iff]
  exact ⟨fun h => h.1, fun h => ⟨h, h, fun _ => Int.le_refl _⟩⟩
theorem holds_anti {a b : List PartT} (h : holdsB a b = true) (k : holdsB b a = true) : a = b := by
  have h := holds_iff.1 h
  have k := holds_iff.1 k
  exact vec_ext h.1 k.1 fun s => by have := h.2.2 s; have := k.2.2 s; omega
theorem holds_trans {a b c : List PartT} (h : holdsB a b = true) (k : holdsB b c = true) : holdsB a c = true := by
  have h := holds_iff.1 h
  have k := holds_iff.1 k
  exact holds_iff.2 ⟨h.1, k.2.1, fun s => by have := h.2.2 s; have := k.2.2 s; omega⟩
theorem few_mem {ls : List (List PartT)} (h : fewL ls = true) : ∀ l ∈ ls, l.length ≤ 150 := fun l hl => by
  have := List.all_eq_true.1 h l hl
  simpa using this

theorem law3 {la lb lc : List PartT} {aa ba ca : Option Addr} {an ac bn bc cn cc : Nat} (W : World) (hT : Tab W) (h1 : SlE W 3 partE la aa an ac) (h2 : SlE W 3 partE lb ba bn bc) (h3 : SlE W 3 partE lc ca cn cc) : RetW Tryd.prog 3 #[.slice aa an ac, .slice ba bn bc, .slice ca cn cc] W (.bool true) := by
  intro R h
  refine f3_calls _ _ _ _ _ _ _ _ _ W R ?_
  unfold f3_vc
  refine opw_litL (e' := 22) (f := rawS) (size := 1) (l := [((aa, an, ac) : RawS), (ba, bn, bc), (ca, cn, cc)]) (At.refl W) rfl (fun _ _ => rfl) (by decide) (by kernel_rfl) fun g1 w2 _ hA _ hb2 ho1 => ⟨_, _, _, rfl, ?_⟩
  have hL : LsR w2 [la, lb, lc] _ _ _ := LsR_of (ho1.sl fun _ _ => rfl) rfl fun i x y hx hy => by
    match i, hx, hy with
    | 0, hx, hy => cases hx; cases hy; exact h1.call hb2
    | 1, hx, hy => cases hx; cases hy; exact h2.call hb2
    | 2, hx, hy => cases hx; cases hy; exact h3.call hb2
    | i + 3, hx, _ => simp at hx
  refine at_callb hA (c9 w2 hL) fun w7 hA _ hb7 => ⟨_, rfl, brNB (fun _ => h _ hA.below.below) (fun hf => ?_)⟩
  have hfw := few_mem hf
  have ha := hfw la (by simp)
  have hb := hfw lb (by simp)
  have hold : ∀ {W' : World} {l1 l2 : List PartT} {a1 a2 : Option Addr} {n1 n2 k1 k2 : Nat}, SlE W' 3 partE l1 a1 n1 k1 → SlE W' 3 partE l2 a2 n2 k2 → l1.length ≤ 150 → Ret Tryd.prog 10 #[.slice a1 n1 k1, .slice a2 n2 k2] W' (.bool (holdsB l1 l2)) := fun s1 s2 hl => c10 _ s1 s2 (by omega)
  have works : ∀ {W' : World}, AtF W noB [] W' → Calls Tryd.prog 13 #[] W' fun e w => ∃ b, e = .returned (.bool b) ∧ R (.returned (.bool b)) w := fun {W'} hA => c13 W' (hT.below hA.below) _ fun w' hb => ⟨_, rfl, h _ (hA.below.below.trans (hb.mono hA.size))⟩
  refine ⟨fun _ W' => AtF W noB [] W', ?_, ?_⟩
  · refine at_callb hA (hold (h1.call hA.below) (h1.call hA.below) ha) fun w11 hA _ _ => ⟨_, rfl, ?_⟩
    refine at_callb hA (c11 w11 (h1.call hA.below)) fun w14 hA _ _ => ⟨_, rfl, ?_⟩
    rw [holds_self]
    refine ⟨fun e => ?_, fun _ => ?_⟩
    · cases h : vecB la <;> rw [h] at e <;> cases e
    refine at_callb hA (hold (h1.call hA.below) (h2.call hA.below) ha) fun w17 hA _ _ => ⟨_, rfl, brB (fun hab => ?_) (fun _ => hA)⟩
    refine at_callb hA (hold (h2.call hA.below) (h1.call hA.below) hb) fun w20 hA _ _ => ⟨_, rfl, brB (fun hba => ?_) (fun _ => hA)⟩
    refine at_callb hA (c12 w20 (h1.call hA.below) (h2.call hA.below)) fun w23 hA _ _ => ⟨_, rfl, brNB (fun hne => ?_) (fun _ => hA)⟩
    exact absurd (holds_anti hab hba) (of_decide_eq_false hne)
  rintro w25 hA
  refine at_callb hA (hold (h1.call hA.below) (h2.call hA.below) ha) fun w27 hA _ _ => ⟨_, rfl, brNB (fun _ => works hA) (fun hab => ?_)⟩
  refine at_callb hA (hold (h2.call hA.below) (h3.call hA.below) hb) fun w33 hA _ _ => ⟨_, rfl, brNB (fun _ => works hA) (fun hbc => ?_)⟩
  refine at_callb hA (hold (h1.call hA.below) (h3.call hA.below) ha) fun w39 hA _ _ => ⟨_, rfl, brB (fun _ => works hA) (fun hno => ?_)⟩
  rw [holds_trans hab hbc] at hno
  cases hno

/-! ### The least of two -/
theorem least1_key {b : List PartT} {p q : PartT} (h : least1 b p = some q) : slotOf q = slotOf p ∧ q.2.2 = mn p.2.2 (amt (slotOf p) b) ∧ 0 < q.2.2 := by
  unfold least1 at h
  split at h
  · cases h
    exact ⟨rfl, rfl, by assumption⟩
  · cases h
theorem least_vec {a b : List PartT} (ha : vecB a = true) : vecB (a.filterMap (least1 b)) = true := by
  have wa := vecB_iff.1 ha
  rw [vecB_iff]
  refine ⟨fun q hq => ?_, ?_⟩
  · obtain ⟨p, hp, hl⟩ := List.mem_filterMap.1 hq
    obtain ⟨e1, e2, e3⟩ := least1_key hl
    have hr := wa.1 p hp
    have e4 : q.1 = p.1 ∧ q.2.1 = p.2.1 := by simpa [slotOf] using e1
    unfold partR at *
    rw [e4.1, e4.2]
    refine ⟨hr.1, by omega, ?_⟩
    rw [e2]
    unfold mn
    split <;> omega
  · rw [List.pairwise_filterMap]
    refine wa.2.imp fun {p q} hlt x hx y hy => ?_
    have e1 := (least1_key hx).1
    have e2 := (least1_key hy).1
    simp only [slotOf, Prod.mk.injEq] at e1 e2
    unfold slt at *
    rw [e1.1, e1.2, e2.1, e2.2]
    exact hlt
theorem least_amt {b : List PartT} (hb : vecB b = true) (s : Sl) : ∀ {a : List PartT}, (∀ p ∈ a, partR p) → a.Pairwise slt → amt s (a.filterMap (least1 b)) = mn (amt s a) (amt s b)
  | [], _, _ => by
    have := (amt_nonneg (s := s) (vecB_iff.1 hb).1).1
    show (0 : Int) = mn 0 (amt s b)
    unfold mn
    rw [if_neg (by omega)]
  | p :: r, ha, hp => by
    have hb0 := (amt_nonneg (s := s) (vecB_iff.1 hb).1).1
    have hpw := List.pairwise_cons.1 hp
    have ih := least_amt hb s (fun q hq => ha q (List.mem_cons_of_mem _ hq)) hpw.2
    have hpr := (ha p (by simp)).2
    rw [amt]
    by_cases he : slotOf p = s
    · rw [if_pos he]
      cases hl : least1 b p with
      | some q =>
        obtain ⟨e1, e2, _⟩ := least1_key hl
        rw [List.filterMap_cons_some hl, amt, if_pos (e1.trans he), e2, he]
      | none =>
        have hn : ¬ 0 < mn p.2.2 (amt (slotOf p) b) := fun hpos => by
          unfold least1 at hl
          rw [if_pos hpos] at hl
          cases hl
        rw [List.filterMap_cons_none hl, ih]
        have h0 : amt s r = 0 := amt_none fun q hq e => slt_ne (hpw.1 q hq) (e.trans he.symm)
        rw [h0]
        rw [he] at hn
        unfold mn at *
        split <;> split <;> (try split at hn) <;> omega
    · rw [if_neg he]
      cases hl : least1 b p with
      | some q =>
        obtain ⟨e1, _, _⟩ := least1_key hl
        rw [List.filterMap_cons_some hl, amt, if_neg (fun e => he (e1.symm.trans e)), ih]
      | none => rw [List.filterMap_cons_none hl, ih]
theorem leastL_vec {a b : List PartT} (ha : vecB a = true) (hb : vecB b = true) : vecB (leastL a b) = true ∧ ∀ s, amt s (leastL a b) = mn (amt s a) (amt s b) := by
  unfold leastL
  rw [if_pos ⟨ha, hb⟩]
  exact ⟨least_vec ha, fun s => least_amt hb s (vecB_iff.1 ha).1 (vecB_iff.1 ha).2⟩
theorem least_comm {a b : List PartT} (ha : vecB a = true) (hb : vecB b = true) : leastL a b = leastL b a := by
  have h1 := leastL_vec ha hb
  have h2 := leastL_vec hb ha
  exact vec_ext h1.1 h2.1 fun s => by
    rw [h1.2, h2.2]
    unfold mn
    split <;> split <;> omega
def addL (a b : List PartT) : List PartT × Bool := (if vecB a = true ∧ vecB b = true then vout (vadd a b) else [], decide (vecB a = true ∧ vecB b = true) && (vadd a b).isSome)
theorem add_comm' (a b : List PartT) : addL a b = addL b a := by
  by_cases h : vecB a = true ∧ vecB b = true
  · have key : ∀ {a b : List PartT}, vecB a = true → vecB b = true → ∀ c, vadd a b = some c → vadd b a = some c := fun {a b} ha hb c hc => by
      have h1 := vadd_amt ha hb hc
      have h2 : (vadd b a).isSome = true := (vadd_iff hb ha).2 fun s => by
        have := h1.2.1 s
        have := (amt_nonneg (s := s) (vecB_iff.1 h1.1).1).2
        simp only [topQ]
        omega
      obtain ⟨d, hd⟩ := Option.isSome_iff_exists.1 h2
      have h3 := vadd_amt hb ha hd
      rw [hd, vec_ext h3.1 h1.1 fun s => by rw [h3.2.1, h1.2.1]; omega]
    have e : vadd a b = vadd b a := by
      cases hab : vadd a b with
      | some c => rw [key h.1 h.2 c hab]
      | none =>
        cases hba : vadd b a with
        | none => rfl
        | some c =>
          rw [key h.2 h.1 c hba] at hab
          cases hab
    unfold addL
    rw [if_pos h, if_pos h.symm, decide_eq_true h, decide_eq_true h.symm, e]
  · unfold addL
    rw [if_neg h, if_neg fun k => h k.symm, decide_eq_false h, decide_eq_false fun k => h k.symm]
    rfl
theorem least_rest {a b x y : List PartT} (ha : vecB a = true) (hb : vecB b = true) (hx : vsub a (leastL a b) = some x) (hy : vsub b (leastL a b) = some y) : leastL x y = [] := by
  have hl := leastL_vec ha hb
  have h1 := vsub_amt ha hl.1 hx
  have h2 := vsub_amt hb hl.1 hy
  have h3 := leastL_vec h1.1 h2.1
  exact vec_ext h3.1 rfl fun s => by
    rw [h3.2, h1.2.1, h2.2.1, hl.2, amt]
    unfold mn
    split <;> split <;> omega
end Go.Vc.VD

/- VecBack: the walk. -/
set_option maxRecDepth 20000
set_option maxHeartbeats 1000000
namespace Go.Vc.VD
open Go Go.Vc Go.Vc.V Go.RowKit Go.Proofs Vcx

variable {w W W' : World} {M : Nat → Prop} {gs : List Nat}

theorem law7 {la lb : List PartT} {aa ba : Option Addr} {an ac bn bc : Nat} (W : World) (hT : Tab W) (h1 : SlE W 3 partE la aa an ac) (h2 : SlE W 3 partE lb ba bn bc) : RetW Tryd.prog 7 #[.slice aa an ac, .slice ba bn bc] W (.bool true) := by
  intro R h
  refine f7_calls _ _ _ _ _ _ W R ?_
  unfold f7_vc
  refine opw_litL (e' := 22) (f := rawS) (size := 1) (l := [((aa, an, ac) : RawS), (ba, bn, bc)]) (At.refl W) rfl (fun _ _ => rfl) (by decide) (by kernel_rfl) fun g1 w2 _ hA _ hb2 ho1 => ⟨_, _, _, rfl, ?_⟩
  have hL : LsR w2 [la, lb] _ _ _ := LsR_of (ho1.sl fun _ _ => rfl) rfl fun i x y hx hy => by
    match i, hx, hy with
    | 0, hx, hy => cases hx; cases hy; exact h1.call hb2
    | 1, hx, hy => cases hx; cases hy; exact h2.call hb2
    | i + 2, hx, _ => simp at hx
  refine at_callb hA (c9 w2 hL) fun w7 hA _ hb7 => ⟨_, rfl, brNB (fun _ => h _ hA.below.below) (fun hf => ?_)⟩
  have hfw := few_mem hf
  have ha := hfw la (by simp)
  have hb := hfw lb (by simp)
  have works : ∀ {W' : World}, AtF W noB [] W' → Calls Tryd.prog 13 #[] W' fun e w => ∃ b, e = .returned (.bool b) ∧ R (.returned (.bool b)) w := fun {W'} hA => c13 W' (hT.below hA.below) _ fun w' hb => ⟨_, rfl, h _ (hA.below.below.trans (hb.mono hA.size))⟩
  refine at_calllb hA (c25 w7 (h1.call hA.below) (h2.call hA.below) (by omega) (by omega)) (fun _ _ => rfl) fun a11 d11 w10 hA _ hb10 _ s11 => ⟨_, _, _, _, rfl, ?_⟩
  refine at_calllb hA (c25 w10 (h2.call hA.below) (h1.call hA.below) (by omega) (by omega)) (fun _ _ => rfl) fun a17 d17 w16 hA _ hb16 _ s17 => ⟨_, _, _, _, rfl, ?_⟩
  have hcm := add_comm' la lb
  have s11 := s11.call hb16
  have hc1 := congrArg Prod.fst hcm
  have hc2 := congrArg Prod.snd hcm
  simp only [addL] at hc1 hc2
  rw [← hc1] at s17 ⊢
  rw [← hc2]
  clear hcm hc1 hc2
  refine ⟨fun e => ?_, fun _ => ?_⟩
  · generalize (decide (vecB la = true ∧ vecB lb = true) && (vadd la lb).isSome) = x at e
    cases x <;> cases e
  refine at_callb hA (c12 w16 s11 s17) fun w22 hA _ hb22 => ⟨_, rfl, brNB (fun hne => ?_) (fun _ => ?_)⟩
  · exact absurd rfl (of_decide_eq_false hne)
  refine ⟨fun _ W' => AtF W noB [] W', brB (fun hok => ?_) (fun _ => hA), ?_⟩
  · rw [Bool.and_eq_true, decide_eq_true_eq] at hok
    obtain ⟨⟨hva, hvb⟩, hadd⟩ := hok
    obtain ⟨c, hc⟩ := Option.isSome_iff_exists.1 hadd
    have hcc := vadd_amt hva hvb hc
    rw [if_pos ⟨hva, hvb⟩, hc] at s11 ⊢
    have s11 : SlE w16 3 partE c a11 c.length d11 := s11
    have hcl := vec_len' hcc.1
    have hsub : (vsub c lb).isSome = true := (vsub_iff hcc.1 hvb).2 fun s => by
      have := hcc.2.1 s
      have := (amt_nonneg (s := s) (vecB_iff.1 hva).1).1
      omega
    obtain ⟨d, hd⟩ := Option.isSome_iff_exists.1 hsub
    have hdd := vsub_amt hcc.1 hvb hd
    have hda : d = la := vec_ext hdd.1 hva fun s => by rw [hdd.2.1, hcc.2.1]; omega
    refine at_calllb hA (c27 w22 (s11.call hb22) (h2.call hA.below) (by omega)) (fun _ _ => rfl) fun a27 d27 w26 hA _ hb26 _ s27 => ⟨_, _, _, _, rfl, brNB (fun hno => ?_) (fun _ => ?_)⟩
    · rw [decide_eq_true ⟨hcc.1, hvb⟩, hsub] at hno
      cases hno
    rw [if_pos ⟨hcc.1, hvb⟩, hd] at s27 ⊢
    have s27 : SlE w26 3 partE d a27 d.length d27 := s27
    refine at_callb hA (c12 w26 s27 (h1.call hA.below)) fun w32 hA _ hb32 => ⟨_, rfl, brNB (fun hne => ?_) (fun _ => ?_)⟩
    · exact absurd hda (of_decide_eq_false hne)
    refine at_callb hA (c10 w32 (((s11.call hb22).call hb26).call hb32) (h1.call hA.below) (by omega)) fun w35 hA _ hb35 => ⟨_, rfl, brNB (fun hno => ?_) (fun _ => ?_)⟩
    · have : holdsB c la = true := holds_iff.2 ⟨hcc.1, hva, fun s => by
        have := hcc.2.1 s
        have := (amt_nonneg (s := s) (vecB_iff.1 hvb).1).1
        omega⟩
      rw [holdsB, hno] at this
      cases this
    refine at_callb hA (c11 w35 ((((s11.call hb22).call hb26).call hb32).call hb35)) fun w38 hA _ _ => ⟨_, rfl, brNB (fun hno => ?_) (fun _ => hA)⟩
    rw [hcc.1] at hno
    cases hno
  rintro w40 hA
  have nok : ¬ (vecB la = true ∧ vecB lb = true) → (decide (vecB la = true ∧ vecB lb = true) && (vadd la lb).isSome) = false := fun hn => by rw [decide_eq_false hn]; rfl
  refine ⟨fun _ W' => AtF W noB [] W' ∧ vecB la = true ∧ vecB lb = true, ⟨fun x W' => AtF W noB [] W' ∧ (x.1 = true → ¬ (vecB la = true ∧ vecB lb = true)) ∧ (x.1 = false → vecB la = true ∧ vecB lb = true), ?_, ?_⟩, ?_⟩
  · refine at_callb hA (c11 w40 (h1.call hA.below)) fun w44 hA _ _ => ⟨_, rfl, brNB (fun hno => ⟨hA, fun _ hh => ?_, fun e => by cases e⟩) (fun hva => ?_)⟩
    · rw [hno] at hh
      cases hh.1
    refine at_callb hA (c11 w44 (h2.call hA.below)) fun w47 hA _ _ => ⟨_, rfl, hA, fun e hh => ?_, fun e => ⟨hva, ?_⟩⟩
    · rw [hh.2] at e
      cases e
    · simpa using e
  · rintro b49 w50 ⟨hA, hno, hyes⟩
    refine brB (fun hb49 => ?_) (fun hb49 => ⟨hA, hyes hb49⟩)
    have hn := hno hb49
    rw [nok hn]
    refine brNB (fun _ => ?_) (fun e => by cases e)
    refine at_calll hA (c29 w50 (h1.call hA.below) (h2.call hA.below)) (fun _ _ => rfl) fun a53 d53 w52 hA _ _ _ _ => ⟨_, _, _, rfl, brE (fun _ => works hA) (fun hne => ?_)⟩
    rw [leastL, if_neg hn] at hne
    exact absurd rfl hne
  rintro w59 ⟨hA, hva, hvb⟩
  have hl := leastL_vec hva hvb
  have hll := vec_len' hl.1
  have hs1 : (vsub la (leastL la lb)).isSome = true := (vsub_iff hva hl.1).2 fun s => by rw [hl.2]; unfold mn; split <;> omega
  have hs2 : (vsub lb (leastL la lb)).isSome = true := (vsub_iff hvb hl.1).2 fun s => by rw [hl.2]; unfold mn; split <;> omega
  obtain ⟨x, hx⟩ := Option.isSome_iff_exists.1 hs1
  obtain ⟨y, hy⟩ := Option.isSome_iff_exists.1 hs2
  refine at_calll hA (c29 w59 (h1.call hA.below) (h2.call hA.below)) (fun _ _ => rfl) fun a62 d62 w61 hA _ hb61 _ s62 => ⟨_, _, _, rfl, ?_⟩
  refine at_calllb hA (c27 w61 (h1.call hA.below) s62 (by omega)) (fun _ _ => rfl) fun a67 d67 w66 hA _ hb66 _ s67 => ⟨_, _, _, _, rfl, ?_⟩
  refine at_calllb hA (c27 w66 (h2.call hA.below) (s62.call hb66) (by omega)) (fun _ _ => rfl) fun a73 d73 w72 hA _ hb72 _ s73 => ⟨_, _, _, _, rfl, ?_⟩
  rw [if_pos ⟨hva, hl.1⟩, hx] at s67 ⊢
  rw [if_pos ⟨hvb, hl.1⟩, hy] at s73 ⊢
  refine brB (fun _ => brB (fun _ => ?_) (fun e => ?_)) (fun e => ?_)
  · have s67 : SlE w66 3 partE x a67 x.length d67 := s67
    have s73 : SlE w72 3 partE y a73 y.length d73 := s73
    refine at_calll hA (c29 w72 (s67.call hb72) s73) (fun _ _ => rfl) fun a79 d79 w78 hA _ hb78 _ _ => ⟨_, _, _, rfl, brE (fun _ => ?_) (fun hne => ?_)⟩
    · refine at_calll hA (c29 w78 (h2.call hA.below) (h1.call hA.below)) (fun _ _ => rfl) fun a84 d84 w83 hA _ hb83 _ s84 => ⟨_, _, _, rfl, ?_⟩
      refine at_callb hA (c12 w83 ((((s62.call hb66).call hb72).call hb78).call hb83) s84) fun w88 hA _ _ => ⟨_, rfl, brB (fun _ => works hA) (fun hne => ?_)⟩
      exact absurd (least_comm hva hvb) (of_decide_eq_false hne)
    · exact absurd (by rw [least_rest hva hvb hx hy]; rfl) hne
  · rw [decide_eq_true ⟨hvb, hl.1⟩] at e
    cases e
  · rw [decide_eq_true ⟨hva, hl.1⟩] at e
    cases e
end Go.Vc.VD

/- Own text of this claim: E8a. -/
set_option maxRecDepth 20000
namespace Go.Vc.VD
open Go Go.Vc Go.Vc.V Go.RowKit Go.Proofs Vcx

abbrev slE (x : Int × Int) : List Value := [.int .i64 x.1, .int .i64 x.2]
def allR (k : Nat) (n : Nat) : List (Int × Int) := (List.range n).map fun r : Nat => ((k : Int), (r : Int))
def allK : Nat → List (Int × Int)
  | 0 => []
  | k + 1 => allK k ++ allR k 33
theorem allR_len (k n : Nat) : (allR k n).length = n := by simp [allR]
theorem allK_len : ∀ k, (allK k).length = 33 * k
  | 0 => rfl
  | k + 1 => by rw [allK, List.length_append, allK_len k, allR_len]; omega
theorem allK_mem : ∀ {k : Nat} {x : Int × Int}, x ∈ allK k ↔ (0 ≤ x.1 ∧ x.1 < k ∧ 0 ≤ x.2 ∧ x.2 ≤ 32)
  | 0, x => by simp [allK]; omega
  | k + 1, x => by
    rw [allK, List.mem_append, allK_mem (k := k)]
    have : x ∈ allR k 33 ↔ (x.1 = k ∧ 0 ≤ x.2 ∧ x.2 ≤ 32) := by
      unfold allR
      rw [List.mem_map]
      constructor
      · rintro ⟨r, hr, rfl⟩
        have := List.mem_range.1 hr
        exact ⟨rfl, by simp only; omega, by simp only; omega⟩
      · rintro ⟨h1, h2, h3⟩
        refine ⟨x.2.toNat, List.mem_range.2 (by omega), ?_⟩
        obtain ⟨x1, x2⟩ := x
        simp only at h1 h2 h3 ⊢
        rw [h1, Int.toNat_of_nonneg h2]
    rw [this]
    omega
theorem all_mem {x : Int × Int} : x ∈ allK 4 ↔ slotR x.1 x.2 := by
  rw [allK_mem]
  unfold slotR
  omega

theorem c44 (w : World) : RetL Tryd.prog 44 #[] w 29 2 slE (allK 4) := by
  intro R h
  refine f44_calls w R ?_
  unfold f44_vc
  have hA := At.refl w
  refine ⟨fun s W => At w [] W ∧ ∃ k : Nat, s.2.1 = k ∧ k ≤ 4 ∧ OwnL w [] W 29 2 slE (.slice s.1.1 s.1.2.1 s.1.2.2) (allK k), fun s _ => 4 - s.2.1.toNat, ⟨hA, 0, rfl, by omega, OwnL.nil⟩, ?_⟩
  rintro a3 n4 n5 i W ⟨hA, k, hi, hk, ho⟩
  simp only at hi ho
  subst hi
  refine brD (fun hlt => ?_) (fun hge => ?_)
  · have e1 : IntKind.i64.wrap ((k : Int) + 1) = ((k + 1 : Nat) : Int) := by rw [wrap_i64 (by omega) (by omega)]; rfl
    rw [e1]
    refine ⟨fun s W => At w [] W ∧ ∃ r : Nat, s.2.1 = r ∧ r ≤ 33 ∧ OwnL w [] W 29 2 slE (.slice s.1.1 s.1.2.1 s.1.2.2) (allK k ++ allR k r), fun s _ => 33 - s.2.1.toNat, ⟨hA, 0, rfl, by omega, by simpa [allR] using ho⟩, ?_⟩
    rintro a10 n11 n12 j W ⟨hA, r, hj, hr, ho⟩
    simp only at hj ho
    subst hj
    have hlen := allK_len k
    refine brD (fun hlt2 => ?_) (fun hge2 => ?_)
    · have e2 : IntKind.i64.wrap ((r : Int) + 1) = ((r + 1 : Nat) : Int) := by rw [wrap_i64 (by omega) (by omega)]; rfl
      rw [e2]
      refine opw_push0 (e' := 29) (bytes := 16) hA ho ((k : Int), (r : Int)) (by kernel_rfl) (by kernel_rfl) rfl (fun _ _ => rfl) (fun u hu => by simp at hu; rcases hu with rfl | rfl <;> rfl) (by rw [List.length_append, hlen, allR_len]; omega) (by decide) fun a2 c2 w21 hA ho _ _ => ⟨⟨hA, r + 1, rfl, by omega, ?_⟩, by show 33 - ((r + 1 : Nat) : Int).toNat < 33 - (r : Int).toNat; omega⟩
      have : allR k (r + 1) = allR k r ++ [((k : Int), (r : Int))] := by unfold allR; rw [List.range_succ, List.map_append]; rfl
      rw [this, ← List.append_assoc]
      exact ho
    · have hr33 : r = 33 := by omega
      subst hr33
      exact ⟨⟨hA, k + 1, rfl, by omega, ho⟩, by show 4 - ((k + 1 : Nat) : Int).toNat < 4 - (k : Int).toNat; omega⟩
  · have hk4 : k = 4 := by omega
    subst hk4
    exact leafl h hA ho rfl

end Go.Vc.VD

/- Own text of this claim: E8b. -/
set_option maxRecDepth 20000
namespace Go.Vc.VD
open Go Go.Vc Go.Vc.V Go.RowKit Go.Proofs Vcx

theorem c45 {most : Int} {l : List Int} {a : Option Addr} {n c : Nat} (w : World) (hm : I64 most) (hs : SlE w 1 one l a n c) (hI : ∀ x ∈ l, I64 x) : Ret Tryd.prog 45 #[.int .i64 most, .slice a n c] w (pairV (qsum most l)) := by
  intro R h
  refine f45_calls most a n c w R ?_
  unfold f45_vc
  have hA := At.refl w
  have hlen := hs.len_le
  have hn := hlen.1
  subst hn
  refine ⟨fun s W => At w [] W ∧ ∃ k : Nat, s.2.1 = k ∧ k ≤ l.length ∧ ((most < 0 ∧ s.1 = most) ∨ (0 ≤ most ∧ 0 ≤ s.1 ∧ s.1 ≤ most ∧ qgo most (most - s.1) (l.drop k) = qgo most 0 l)), fun s _ => l.length - s.2.1.toNat, ⟨hA, 0, rfl, Nat.zero_le _, ?_⟩, ?_⟩
  · rcases Int.lt_or_le most 0 with h | h
    · exact .inl ⟨h, rfl⟩
    · exact .inr ⟨h, h, Int.le_refl _, by simp⟩
  intro s i W ⟨hA, k, hik, hk, hb⟩
  simp only at hik hb
  subst hik
  refine brD (fun hlt => ?_) (fun hge => ?_)
  · obtain ⟨x, hx⟩ : ∃ x, l[k]? = some x := ⟨_, List.getElem?_eq_getElem (by omega)⟩
    have hIx := hI x (List.mem_of_getElem? hx)
    obtain ⟨ad, g1, r1⟩ := rd_one (te := 2) (ds := []) (k := .i64) (t := 57) (P := Tryd.prog) (e := 2) (hs.call hA.below) hx rfl (by kernel_rfl) (by kernel_rfl) (by kernel_rfl) (fun _ h => by cases h)
    refine ⟨_, g1, _, r1, ?_⟩
    rcases hb with ⟨hneg, rfl⟩ | ⟨h0, h1, h2, hg⟩
    · rw [qsum, if_pos hneg] at h
      refine brD (fun _ => leaf h hA rfl) (fun _ => brD (fun _ => leaf h hA rfl) (fun hh => absurd hneg hh))
    · rw [qsum, if_neg (by omega)] at h
      rw [drop_cons hx, qgo] at hg
      refine brD (fun h1 => ?_) (fun h1 => ?_)
      · rw [if_pos (.inl h1)] at hg
        exact leaf h hA (by rw [← hg])
      · refine brD (fun h2 => by omega) (fun h2 => ⟨_, g1, _, r1, brD (fun h3 => ?_) (fun h3 => ⟨_, g1, _, r1, ?_⟩)⟩)
        · rw [if_pos (.inr (by omega))] at hg
          exact leaf h hA (by rw [← hg])
        · rw [if_neg (by omega)] at hg
          rw [wrap_i64 (x := (k : Int) + 1) (by omega) (by omega), wrap_i64 (x := s - x) (by omega) (by omega)]
          refine ⟨⟨hA, k + 1, rfl, by omega, .inr ⟨h0, ?_, ?_, ?_⟩⟩, by simp only; omega⟩
          · show 0 ≤ s - x
            omega
          · show s - x ≤ most
            omega
          · rw [← hg]
            show qgo most (most - (s - x)) _ = _
            rw [show most - (s - x) = most - s + x by omega]
  · have hke : k = l.length := by omega
    subst hke
    rcases hb with ⟨hneg, rfl⟩ | ⟨h0, h1, h2, hg⟩
    · rw [qsum, if_pos hneg] at h
      exact brD (fun _ => leaf h hA rfl) (fun hh => absurd hneg hh)
    · rw [qsum, if_neg (by omega)] at h
      rw [List.drop_length, qgo] at hg
      refine brD (fun _ => by omega) (fun _ => leaf h hA ?_)
      rw [← hg, wrap_i64 (by omega) (by omega)]

end Go.Vc.VD

/- The reference's Right, Get, with, Only, Holds, Least, Sub. -/
set_option maxRecDepth 20000
set_option maxHeartbeats 1000000
namespace Go.Vc.VD
open Go Go.Vc Go.Vc.V Go.RowKit Go.Proofs Vcx

variable {w W W' : World} {M : Nat → Prop} {gs : List Nat}

theorem c43 (a b c : Int) (w : World) : Ret Tryd.prog 43 #[.agg #[.int .i64 a, .int .i64 b, .int .i64 c]] w (slotV a b) := by
  intro R h
  refine f43_calls a b c w R ?_
  unfold f43_vc
  intro n1 h1 n2 h2 w' hev _
  exact h _ (Chg.below ((Chg.of_evo hev).mono fun b hb hm => by simp at hm; omega))

theorem c17 {l : List PartT} {a : Option Addr} {n c : Nat} (w : World) (hs : SlE w 3 partE l a n c) : Ret Tryd.prog 17 #[.slice a n c] w (.bool (vecB l)) := by
  intro R h
  refine f17_calls a n c w R ?_
  unfold f17_vc
  have hn := hs.1
  have hlen := hs.len_le.2
  refine ⟨fun s W => At w [] W ∧ ∃ k : Nat, s.1 = k ∧ k ≤ l.length ∧ vok (if k = 0 then none else l[k - 1]?) (l.drop k) = vecB l, fun s _ => (n - s.1).toNat, ⟨At.refl w, 0, rfl, Nat.zero_le _, rfl⟩, ?_⟩
  rintro x3 w4 ⟨hA, k, hi, hk, hv⟩
  simp only at hi
  subst hi
  refine brD (fun hlt => ?_) (fun hge => leaf h hA ?_)
  · obtain ⟨p, hp⟩ : ∃ x, l[k]? = some x := ⟨_, List.getElem?_eq_getElem (by omega)⟩
    obtain ⟨ad, g1, el, _⟩ := elt_at (P := Tryd.prog) (k := .i64) (t := 22) (hs.call hA.below) hp (e := 46) (by kernel_rfl) (by kernel_rfl)
    rw [vok_step hp] at hv
    rw [succ_i k (by omega)]
    refine ⟨ad, g1, _, _, _, el.agg 3 (by kernel_rfl) (by kernel_rfl) (by simp) (by simp), ?_⟩
    intro w9 hb9
    refine at_callb (hA.call hb9) (c43 _ _ _ w9) fun w11 hA _ hb11 => ⟨_, _, rfl, ?_⟩
    refine at_callb hA (c42 _ _ w11) fun w15 hA _ hb15 => ⟨_, rfl, brND (fun h1 => leaf h hA ?_) (fun h1 => ?_)⟩
    · rw [← hv, decide_eq_false (show ¬ partR p from fun hh => h1 hh.1)]
      rfl
    have el := el.below ((hb9.trans hb11).trans hb15)
    have ra : ∀ {W'}, Bel w15 W' → Reads Tryd.prog [] (Instr.loadAt 2 (.pointer (some ⟨ad.block, ad.off + 2, none⟩))) W' (.int .i64 p.2.2) := fun hb => ((el.below hb).sub (o := 2) (by decide)).one (by kernel_rfl) (by simp)
    have b0 := (At.refl w15).below
    refine ⟨ad, g1, _, ra b0, brD (fun h2 => leaf h hA ?_) (fun h2 => ⟨ad, g1, _, ra b0, brD (fun h3 => leaf h hA ?_) (fun h3 => ?_)⟩)⟩
    · rw [← hv, decide_eq_false (show ¬ partR p from fun hh => by have := hh.2.1; omega)]
      rfl
    · rw [← hv, decide_eq_false (show ¬ partR p from fun hh => by have := hh.2.2; omega)]
      rfl
    have hR : partR p := ⟨h1, by omega, by omega⟩
    rw [decide_eq_true hR, Bool.true_and] at hv
    refine brD (fun h4 => ?_) (fun h4 => ?_)
    · obtain ⟨q, hq⟩ : ∃ x, l[k - 1]? = some x := ⟨_, List.getElem?_eq_getElem (by omega)⟩
      obtain ⟨ad2, g2, el2, _⟩ := elt_at (P := Tryd.prog) (k := .i64) (t := 22) (hs.call hA.below) hq (e := 46) (by kernel_rfl) (by kernel_rfl)
      have e2 : IntKind.i64.wrap ((k : Int) - 1) = ((k - 1 : Nat) : Int) := by rw [wrap_i64 (by omega) (by omega)]; omega
      rw [e2]
      have rp : ∀ {W'}, Bel w15 W' → Reads Tryd.prog [] (Instr.loadAt 46 (.pointer (some ad))) W' (.agg ((partE p).take 3).toArray) := fun hb => (el.below hb).agg 3 (by kernel_rfl) (by kernel_rfl) (by simp) (by simp)
      refine ⟨ad2, g2, _, _, _, el2.agg 3 (by kernel_rfl) (by kernel_rfl) (by simp) (by simp), ad, g1, _, _, _, rp b0, ?_⟩
      refine at_callb hA (c43 _ _ _ w15) fun w30 hA _ hb30 => ⟨_, _, rfl, rp hb30, ra hb30, ra hb30, ?_⟩
      refine at_callb hA (c43 _ _ _ w30) fun w34 hA _ hb34 => ⟨_, _, rfl, ra (hb30.trans hb34), ra (hb30.trans hb34), ?_⟩
      refine at_callb hA (c47 _ _ _ _ w34) fun w38 hA _ hb38 => ⟨_, rfl, ra ((hb30.trans hb34).trans hb38), ra ((hb30.trans hb34).trans hb38), ?_⟩
      rw [if_neg (show ¬ k = 0 by omega), hq] at hv
      refine brD (fun h5 => leaf h hA ?_) (fun h5 => ?_)
      · rw [slotC_ge] at h5
        rw [← hv]
        simp [okB, h5]
      · rw [slotC_ge] at h5
        refine ⟨⟨hA, k + 1, rfl, by omega, ?_⟩, by simp only; omega⟩
        rw [if_neg (by omega), show k + 1 - 1 = k by omega, hp, ← hv]
        simp only [Classical.not_not] at h5
        simp [okB, h5]
    · rw [if_pos (show k = 0 by omega)] at hv
      refine ⟨⟨hA, k + 1, rfl, by omega, ?_⟩, by simp only; omega⟩
      rw [if_neg (by omega), show k + 1 - 1 = k by omega, hp, ← hv]
      simp [okB]
  · rw [show k = l.length by omega, List.drop_length, vok_nil] at hv
    rw [← hv]

theorem c19 {l : List PartT} {a : Option Addr} {n c : Nat} (k r : Int) (w : World) (hs : SlE w 3 partE l a n c) : Ret Tryd.prog 19 #[.slice a n c, slotV k r] w (.int .i64 (amt (k, r) l)) := by
  intro R h
  refine f19_calls a n c k r w R ?_
  unfold f19_vc
  have hn := hs.1
  have hmx := hs.len_le
  intro n1 hn1
  refine ⟨fun v W' => At w [n1] W' ∧ ∃ i : Nat, v.1 = i ∧ i ≤ l.length ∧ amt (k, r) (l.drop i) = amt (k, r) l, fun v _ => (n - v.1).toNat, ⟨fun w4 hb hu => ⟨⟨((At.refl w).call hb).chg, hu⟩, 0, rfl, Nat.zero_le _, rfl⟩, ?_⟩⟩
  rintro x5 w6 ⟨hA, i, hi, hil, hd⟩
  simp only at hi
  subst hi
  refine brD (fun hlt => ?_) (fun hge => leaf h hA ?_)
  · obtain ⟨p, hp⟩ : ∃ x, l[i]? = some x := ⟨_, List.getElem?_eq_getElem (by omega)⟩
    obtain ⟨ad, g1, el, _⟩ := elt_at (P := Tryd.prog) (k := .i64) (t := 22) (hs.call hA.below) hp (e := 46) (by kernel_rfl) (by kernel_rfl)
    rw [drop_cons hp, amt] at hd
    refine ⟨ad, g1, _, _, _, el.agg 3 (by kernel_rfl) (by kernel_rfl) (by simp) (by simp), ?_⟩
    intro w11 hb11 hun
    refine at_callb (gs := [n1]) ⟨(hA.call hb11).chg, hun⟩ (c43 _ _ _ w11) fun w13 hA hk hb13 => ⟨_, _, rfl, hk, ?_⟩
    have hcond : (p.1 == k && (p.2.1 == r && true)) = decide (slotOf p = (k, r)) := by
      rw [Bool.eq_iff_iff]
      simp [slotOf]
    rw [hcond]
    refine brD (fun he => ⟨ad, g1, _, ((el.below (hb11.trans hb13)).sub (o := 2) (by decide)).one (by kernel_rfl) (by simp), leaf h hA ?_⟩) (fun hne => ?_)
    · rw [if_pos he] at hd
      rw [hd]
    · rw [if_neg hne] at hd
      rw [succ_i i (by omega)]
      exact ⟨⟨hA, i + 1, rfl, by omega, hd⟩, by simp only; omega⟩
  · rw [show i = l.length by omega, List.drop_length, amt] at hd
    rw [← hd]

def withL (k r x : Int) : List PartT := if x = 0 then [] else [(k, r, x)]
theorem at_with {gs : List Nat} {l : List PartT} {a : Option Addr} {n c : Nat} {K : Ending → World → Prop} (hA : At w gs W) (ho : OwnL w gs W 46 3 partE (.slice a n c) l) (k r x : Int) (hl : l.length ≤ 1000000) (hK : ∀ a' n' c' w', At w gs w' → Keeps gs W w' → OwnL w gs w' 46 3 partE (.slice a' n' c') (l ++ withL k r x) → W.grownBy w' (Value.slice a n c).ownBlock → K (.returned (.slice a' n' c')) w') : Calls Tryd.prog 46 #[.slice a n c, slotV k r, .int .i64 x] W K := by
  refine f46_calls a n c k r x W K ?_
  unfold f46_vc
  intro n1 hn1
  refine brE (fun h0 => ?_) (fun h0 => ?_)
  · intro w2 hb hun
    refine hK _ _ _ _ (hA.call hb) (fun g hg => hb.block (hA.under g hg)) ?_ (grown_below hb _)
    rw [withL, if_pos h0, List.append_nil]
    exact ho.call hb
  · intro w3 hb hun
    have hA3 : AtF W (fun b => (Value.slice a n c).ownBlock = some b) [n1] w3 := ⟨Chg.of_below hb, hun⟩
    have ho3 : OwnF W (fun b => (Value.slice a n c).ownBlock = some b) [n1] w3 46 3 partE (.slice a n c) l := (ho.call hb).base (fun k hk => .inr hk) (fun g hg e => by
      simp at hg
      have := ho.lt g e
      omega)
    refine opw_push (f := partE) (e' := 46) (bytes := 24) hA3 ho3 (k, r, x) (by kernel_rfl) (by kernel_rfl) rfl (fun _ _ => rfl) (part_one _) (by omega) (by omega) fun a2 c2 w10 hA10 ho10 hg _ => ?_
    have hmine : ∀ b, (Value.slice a2 (l ++ [(k, r, x)]).length c2).ownBlock = some b → W.heap.size ≤ b ∨ (Value.slice a n c).ownBlock = some b := ho10.mine
    refine hK _ _ _ w10 (hA.step hA10.chg fun b _ hM => ho.mine b hM) (fun g hg => hA10.chg.block g (hA.under g hg) fun e => ho.apart g hg e) ?_ (grown_trans_below hb hg)
    rw [withL, if_neg h0]
    refine ho10.base (fun b hb => ?_) (fun g hg e => ?_)
    · rcases hmine b hb with h | h
      · exact .inl (Nat.le_trans hA.size h)
      · exact ho.mine b h
    · rcases hmine g e with h | h
      · have := hA.under g hg
        omega
      · exact ho.apart g hg h
end Go.Vc.VD

/- The reference's Only, Holds, Least, Sub. -/
set_option maxRecDepth 20000
set_option maxHeartbeats 1000000
namespace Go.Vc.VD
open Go Go.Vc Go.Vc.V Go.RowKit Go.Proofs Vcx

variable {w W W' : World} {M : Nat → Prop} {gs : List Nat}

def only2 (l : List PartT) (r q : Int) : List PartT := if vecB l = true then l.filter fun p => decide (p.2.1 = r ∨ p.2.1 = q) else []
theorem c24 {l : List PartT} {a : Option Addr} {n c : Nat} (r q : Int) (w : World) (hs : SlE w 3 partE l a n c) : RetL Tryd.prog 24 #[.slice a n c, .int .i64 r, .int .i64 q] w 46 3 partE (only2 l r q) := by
  intro R h
  refine f24_calls a n c r q w R ?_
  unfold f24_vc
  have hn := hs.1
  refine at_callb (At.refl w) (c17 w hs) fun w2 hA _ hb2 => ⟨_, rfl, brNB (fun hno => ?_) (fun hv => ?_)⟩
  · exact leafl h hA OwnL.nil (by rw [only2, if_neg (by rw [hno]; decide)])
  have hlen := vec_len' hv
  refine ⟨fun v W' => At w [] W' ∧ ∃ i : Nat, v.2.1 = i ∧ i ≤ l.length ∧ OwnL w [] W' 46 3 partE (.slice v.1.1 v.1.2.1 v.1.2.2) ((l.take i).filter fun p => decide (p.2.1 = r ∨ p.2.1 = q)), fun v _ => (n - v.2.1).toNat, ⟨hA, 0, rfl, Nat.zero_le _, OwnL.nil⟩, ?_⟩
  rintro a6 n7 n8 x9 w10 ⟨hA, i, hi, hil, ho⟩
  simp only at hi ho
  subst hi
  refine brD (fun hlt => ?_) (fun hge => ?_)
  · obtain ⟨p, hp⟩ : ∃ x, l[i]? = some x := ⟨_, List.getElem?_eq_getElem (by omega)⟩
    obtain ⟨ad, g1, el, _⟩ := elt_at (P := Tryd.prog) (k := .i64) (t := 22) (hs.call hA.below) hp (e := 46) (by kernel_rfl) (by kernel_rfl)
    have htk : ((l.take (i + 1)).filter fun p : PartT => decide (p.2.1 = r ∨ p.2.1 = q)) = ((l.take i).filter fun p => decide (p.2.1 = r ∨ p.2.1 = q)) ++ if p.2.1 = r ∨ p.2.1 = q then [p] else [] := by
      rw [List.take_add_one, hp, List.filter_append]
      congr 1
      by_cases hc : p.2.1 = r ∨ p.2.1 = q <;> simp [hc]
    have hle : ((l.take i).filter fun p : PartT => decide (p.2.1 = r ∨ p.2.1 = q)).length ≤ i := Nat.le_trans (List.length_filter_le ..) (by simp; omega)
    rw [succ_i i (by omega)]
    have r46 := el.agg (P := Tryd.prog) (ds := []) (te := 46) 3 (by kernel_rfl) (by kernel_rfl) (by simp) (by simp)
    have r3 := (el.sub (o := 1) (by decide)).one (P := Tryd.prog) (ds := []) (te := 3) (by kernel_rfl) (by simp)
    refine ⟨ad, g1, _, r3, brE (fun hr => ⟨ad, g1, _, _, _, r46, ?_⟩) (fun hr => ⟨ad, g1, _, r3, brE (fun hq => ⟨ad, g1, _, _, _, r46, ?_⟩) (fun hq => ?_)⟩)⟩
    · rw [if_pos (.inl hr)] at htk
      refine opw_push0 (f := partE) (e' := 46) (bytes := 24) hA ho p (by kernel_rfl) (by kernel_rfl) rfl (fun _ _ => rfl) (part_one _) (by omega) (by omega) fun a2 c2 w23 hA ho _ _ => ⟨⟨hA, i + 1, rfl, by omega, ?_⟩, by simp only; omega⟩
      simp only
      rw [htk]
      exact ho
    · rw [if_pos (.inr hq)] at htk
      refine opw_push0 (f := partE) (e' := 46) (bytes := 24) hA ho p (by kernel_rfl) (by kernel_rfl) rfl (fun _ _ => rfl) (part_one _) (by omega) (by omega) fun a2 c2 w23 hA ho _ _ => ⟨⟨hA, i + 1, rfl, by omega, ?_⟩, by simp only; omega⟩
      simp only
      rw [htk]
      exact ho
    · rw [if_neg (fun hh => hh.elim hr hq), List.append_nil] at htk
      refine ⟨⟨hA, i + 1, rfl, by omega, ?_⟩, by simp only; omega⟩
      simp only
      rw [htk]
      exact ho
  · rw [show i = l.length by omega, List.take_length] at ho
    exact leafl h hA ho (by rw [only2, if_pos hv])

theorem c31 {l1 l2 : List PartT} {aa ba : Option Addr} {an ac bn bc : Nat} (w : World) (h1 : SlE w 3 partE l1 aa an ac) (h2 : SlE w 3 partE l2 ba bn bc) : Ret Tryd.prog 31 #[.slice aa an ac, .slice ba bn bc] w (.bool (holdsB l1 l2)) := by
  intro R h
  refine f31_calls aa an ac ba bn bc w R ?_
  unfold f31_vc
  have hn := h2.1
  have hmx := h2.len_le
  refine ⟨fun v W' => At w [] W' ∧ ∃ i : Nat, v.1 = i ∧ i ≤ l2.length ∧ ∀ j p, j < i → l2[j]? = some p → p.2.2 ≤ amt (slotOf p) l1, fun v _ => (bn - v.1).toNat, ⟨At.refl w, 0, rfl, Nat.zero_le _, fun j p hj => by omega⟩, ?_⟩
  rintro x3 w4 ⟨hA, i, hi, hil, hall⟩
  simp only at hi
  subst hi
  refine brD (fun hlt => ?_) (fun hge => ?_)
  · obtain ⟨p, hp⟩ : ∃ x, l2[i]? = some x := ⟨_, List.getElem?_eq_getElem (by omega)⟩
    obtain ⟨ad, g1, el, _⟩ := elt_at (P := Tryd.prog) (k := .i64) (t := 22) (h2.call hA.below) hp (e := 46) (by kernel_rfl) (by kernel_rfl)
    rw [succ_i i (by omega)]
    have ra : ∀ {W'}, Bel w4 W' → Reads Tryd.prog [] (Instr.loadAt 2 (.pointer (some ⟨ad.block, ad.off + 2, none⟩))) W' (.int .i64 p.2.2) := fun hb => ((el.below hb).sub (o := 2) (by decide)).one (by kernel_rfl) (by simp)
    refine ⟨ad, g1, _, _, _, el.agg 3 (by kernel_rfl) (by kernel_rfl) (by simp) (by simp), ad, g1, _, ra (At.refl w4).below, ?_⟩
    intro w11 hb11
    refine at_callb (hA.call hb11) (c43 _ _ _ w11) fun w13 hA _ hb13 => ⟨_, _, rfl, ra (hb11.trans hb13), ?_⟩
    refine at_callb hA (c19 _ _ w13 (h1.call hA.below)) fun w17 hA _ hb17 => ⟨_, rfl, ra ((hb11.trans hb13).trans hb17), brD (fun hl => leaf h hA ?_) (fun hl => ⟨⟨hA, i + 1, rfl, by omega, fun j q hj hq => ?_⟩, by simp only; omega⟩)⟩
    · cases hh : holdsB l1 l2 with
      | false => rfl
      | true =>
        have hh := holds_iff.1 hh
        have := hh.2.2 (slotOf p)
        rw [amt_mem (vecB_iff.1 hh.2.1).2 (List.mem_of_getElem? hp)] at this
        have e : slotOf p = (p.1, p.2.1) := rfl
        rw [e] at this
        omega
    · by_cases hji : j = i
      · subst hji
        rw [hp] at hq
        cases hq
        have e : slotOf p = (p.1, p.2.1) := rfl
        rw [e]
        omega
      · exact hall j q (by omega) hq
  · have hie : i = l2.length := by omega
    subst hie
    refine at_callb hA (c17 w4 (h1.call hA.below)) fun w20 hA _ hb20 => ⟨_, rfl, brB (fun hv1 => ?_) (fun hv1 => leaf h hA ?_)⟩
    · refine at_callb hA (c17 w20 (h2.call hA.below)) fun w23 hA _ hb23 => ⟨_, rfl, leaf h hA ?_⟩
      refine congrArg (fun b => Ending.returned (.bool b)) ?_
      rw [Bool.eq_iff_iff, holds_iff]
      refine ⟨fun hv2 => ⟨hv1, hv2, fun s => ?_⟩, fun hh => hh.2.1⟩
      by_cases h0 : amt s l2 = 0
      · rw [h0]
        exact (amt_nonneg (vecB_iff.1 hv1).1).1
      · have hm := mem_amt h0
        obtain ⟨j, hj⟩ := List.mem_iff_getElem?.1 hm
        have := hall j _ (List.getElem?_eq_some_iff.1 hj).1 hj
        exact this
    · refine congrArg (fun b => Ending.returned (.bool b)) ?_
      cases hh : holdsB l1 l2 with
      | false => rfl
      | true =>
        rw [(holds_iff.1 hh).1] at hv1
        cases hv1

/-! ### Amounts turned -/
def map1 (f : Sl → Int → Int) (p : PartT) : Option PartT := if f (slotOf p) p.2.2 = 0 then none else some (p.1, p.2.1, f (slotOf p) p.2.2)
theorem map1_toList (f : Sl → Int → Int) (p : PartT) : (map1 f p).toList = withL p.1 p.2.1 (f (slotOf p) p.2.2) := by
  unfold map1 withL
  split <;> rfl
theorem map1_vec {f : Sl → Int → Int} {a : List PartT} (ha : vecB a = true) (hf : ∀ p ∈ a, 0 ≤ f (slotOf p) p.2.2 ∧ f (slotOf p) p.2.2 ≤ p.2.2) : vecB (a.filterMap (map1 f)) = true := by
  have wa := vecB_iff.1 ha
  have key : ∀ {p q : PartT}, map1 f p = some q → slotOf q = slotOf p ∧ q.2.2 = f (slotOf p) p.2.2 ∧ q.2.2 ≠ 0 := fun {p q} h => by
    unfold map1 at h
    split at h
    · cases h
    · cases h
      exact ⟨rfl, rfl, by assumption⟩
  rw [vecB_iff]
  refine ⟨fun q hq => ?_, ?_⟩
  · obtain ⟨p, hp, hl⟩ := List.mem_filterMap.1 hq
    obtain ⟨e1, e2, e3⟩ := key hl
    have hr := wa.1 p hp
    have hb := hf p hp
    have e4 : q.1 = p.1 ∧ q.2.1 = p.2.1 := by simpa [slotOf] using e1
    unfold partR at *
    rw [e4.1, e4.2]
    exact ⟨hr.1, by omega, by omega⟩
  · rw [List.pairwise_filterMap]
    refine wa.2.imp fun {p q} hlt x hx y hy => ?_
    have e1 := (key hx).1
    have e2 := (key hy).1
    simp only [slotOf, Prod.mk.injEq] at e1 e2
    unfold slt at *
    rw [e1.1, e1.2, e2.1, e2.2]
    exact hlt
theorem map1_amt {f : Sl → Int → Int} (s : Sl) : ∀ {a : List PartT}, (∀ p ∈ a, partR p) → a.Pairwise slt → amt s (a.filterMap (map1 f)) = if amt s a = 0 then 0 else f s (amt s a)
  | [], _, _ => rfl
  | p :: r, ha, hp => by
    have hpw := List.pairwise_cons.1 hp
    have ih := map1_amt (f := f) s (fun q hq => ha q (List.mem_cons_of_mem _ hq)) hpw.2
    have hpr := (ha p (by simp)).2
    by_cases he : slotOf p = s
    · have e0 : amt s (p :: r) = p.2.2 := by rw [amt, if_pos he]
      rw [e0, if_neg (by omega)]
      by_cases h0 : f (slotOf p) p.2.2 = 0
      · have hl : map1 f p = none := if_pos h0
        rw [List.filterMap_cons_none hl, ih, amt_none fun q hq e => slt_ne (hpw.1 q hq) (e.trans he.symm), if_pos rfl, ← he, h0]
      · have hl : map1 f p = some (p.1, p.2.1, f (slotOf p) p.2.2) := if_neg h0
        rw [List.filterMap_cons_some hl, amt, if_pos he, ← he]
    · have e0 : amt s (p :: r) = amt s r := by rw [amt, if_neg he]
      rw [e0]
      by_cases h0 : f (slotOf p) p.2.2 = 0
      · have hl : map1 f p = none := if_pos h0
        rw [List.filterMap_cons_none hl, ih]
      · have hl : map1 f p = some (p.1, p.2.1, f (slotOf p) p.2.2) := if_neg h0
        rw [List.filterMap_cons_some hl, amt, if_neg he, ih]
theorem filterMap_same {α β : Type} {f g : α → Option β} : ∀ {l : List α}, (∀ x ∈ l, f x = g x) → l.filterMap f = l.filterMap g
  | [], _ => rfl
  | x :: r, h => by
    have ih := filterMap_same (f := f) (g := g) fun y hy => h y (List.mem_cons_of_mem _ hy)
    have hx := h x (by simp)
    cases e : g x with
    | none => rw [List.filterMap_cons_none (hx.trans e), List.filterMap_cons_none e, ih]
    | some y => rw [List.filterMap_cons_some (hx.trans e), List.filterMap_cons_some e, ih]
theorem least_map {a b : List PartT} (ha : vecB a = true) (hb : vecB b = true) : a.filterMap (map1 fun s x => mn x (amt s b)) = a.filterMap (least1 b) := by
  refine filterMap_same fun p hp => ?_
  have h0 := (amt_nonneg (s := slotOf p) (vecB_iff.1 hb).1).1
  have hr := ((vecB_iff.1 ha).1 p hp).2
  have h1 : 0 ≤ mn p.2.2 (amt (slotOf p) b) := by unfold mn; split <;> omega
  unfold map1 least1
  by_cases h : mn p.2.2 (amt (slotOf p) b) = 0
  · rw [if_pos h, if_neg (by omega)]
  · rw [if_neg h, if_pos (by omega)]
theorem sub_map {a b c : List PartT} (h : holdsB a b = true) (hc : vsub a b = some c) : a.filterMap (map1 fun s x => x - amt s b) = c := by
  have h := holds_iff.1 h
  have hs := vsub_amt h.1 h.2.1 hc
  have wa := vecB_iff.1 h.1
  refine vec_ext (map1_vec h.1 fun p hp => ?_) hs.1 fun s => ?_
  · have := h.2.2 (slotOf p)
    rw [amt_mem wa.2 hp] at this
    have := (amt_nonneg (s := slotOf p) (vecB_iff.1 h.2.1).1).1
    omega
  · rw [map1_amt s wa.1 wa.2, hs.2.1]
    have := h.2.2 s
    have := (amt_nonneg (s := s) (vecB_iff.1 h.2.1).1).1
    split <;> omega

theorem c30 {l1 l2 : List PartT} {aa ba : Option Addr} {an ac bn bc : Nat} (w : World) (h1 : SlE w 3 partE l1 aa an ac) (h2 : SlE w 3 partE l2 ba bn bc) : RetL Tryd.prog 30 #[.slice aa an ac, .slice ba bn bc] w 46 3 partE (leastL l1 l2) := by
  intro R h
  refine f30_calls aa an ac ba bn bc w R ?_
  unfold f30_vc
  have hn := h1.1
  refine at_callb (At.refl w) (c17 w h1) fun w2 hA _ hb2 => ⟨_, rfl, brNB (fun hno => ?_) (fun hv1 => ?_)⟩
  · exact leafl h hA OwnL.nil (by rw [leastL, if_neg (fun hh => by rw [hno] at hh; cases hh.1)])
  refine at_callb hA (c17 w2 (h2.call hb2)) fun w5 hA _ hb5 => ⟨_, rfl, brNB (fun hno => ?_) (fun hv2 => ?_)⟩
  · exact leafl h hA OwnL.nil (by rw [leastL, if_neg (fun hh => by rw [hno] at hh; cases hh.2)])
  have hlen := vec_len' hv1
  refine ⟨fun v W' => At w [] W' ∧ ∃ i : Nat, v.2.1 = i ∧ i ≤ l1.length ∧ OwnL w [] W' 46 3 partE (.slice v.1.1 v.1.2.1 v.1.2.2) ((l1.take i).filterMap (map1 fun s x => mn x (amt s l2))), fun v _ => (an - v.2.1).toNat, ⟨hA, 0, rfl, Nat.zero_le _, OwnL.nil⟩, ?_⟩
  rintro a9 n10 n11 x12 w13 ⟨hA, i, hi, hil, ho⟩
  simp only at hi ho
  subst hi
  refine brD (fun hlt => ?_) (fun hge => ?_)
  · obtain ⟨p, hp⟩ : ∃ x, l1[i]? = some x := ⟨_, List.getElem?_eq_getElem (by omega)⟩
    obtain ⟨ad, g1, el, _⟩ := elt_at (P := Tryd.prog) (k := .i64) (t := 22) h1 hp (e := 46) (by kernel_rfl) (by kernel_rfl)
    have htk : (l1.take (i + 1)).filterMap (map1 fun s x => mn x (amt s l2)) = (l1.take i).filterMap (map1 fun s x => mn x (amt s l2)) ++ withL p.1 p.2.1 (mn p.2.2 (amt (slotOf p) l2)) := by
      rw [List.take_add_one, hp, List.filterMap_append]
      congr 1
      exact map1_toList _ p
    have hle : ((l1.take i).filterMap (map1 fun s x => mn x (amt s l2))).length ≤ i := Nat.le_trans (List.length_filterMap_le ..) (by simp; omega)
    rw [succ_i i (by omega)]
    have rp : ∀ {W'}, Bel w W' → Reads Tryd.prog [] (Instr.loadAt 46 (.pointer (some ad))) W' (.agg ((partE p).take 3).toArray) := fun hb => (el.below hb).agg 3 (by kernel_rfl) (by kernel_rfl) (by simp) (by simp)
    have ra : ∀ {W'}, Bel w W' → Reads Tryd.prog [] (Instr.loadAt 2 (.pointer (some ⟨ad.block, ad.off + 2, none⟩))) W' (.int .i64 p.2.2) := fun hb => ((el.below hb).sub (o := 2) (by decide)).one (by kernel_rfl) (by simp)
    refine ⟨ad, g1, _, _, _, rp hA.below, ad, g1, _, ra hA.below, ad, g1, _, _, _, rp hA.below, ?_⟩
    intro w24 hb24
    refine at_callb (hA.call hb24) (c43 _ _ _ w24) fun w26 hA _ hb26 => ⟨_, _, rfl, rp hA.below, ra hA.below, ?_⟩
    refine at_callb hA (c43 _ _ _ w26) fun w30 hA _ hb30 => ⟨_, _, rfl, ra hA.below, ?_⟩
    refine at_callb hA (c19 _ _ w30 (h2.call hA.below)) fun w34 hA _ hb34 => ⟨_, rfl, ra hA.below, ?_⟩
    have hb := ((hb24.trans hb26).trans hb30).trans hb34
    refine at_with hA (ho.call hb) p.1 p.2.1 (mn p.2.2 (amt (slotOf p) l2)) (by omega) fun a' n' c' w37 hA _ ho _ => ⟨_, _, _, rfl, ra hA.below, ⟨hA, i + 1, rfl, by omega, ?_⟩, by simp only; omega⟩
    simp only
    rw [htk]
    exact ho
  · rw [show i = l1.length by omega, List.take_length] at ho
    exact leafl h hA ho (by rw [leastL, if_pos ⟨hv1, hv2⟩, least_map hv1 hv2])

theorem c28 {l1 l2 : List PartT} {aa ba : Option Addr} {an ac bn bc : Nat} (w : World) (h1 : SlE w 3 partE l1 aa an ac) (h2 : SlE w 3 partE l2 ba bn bc) : RetLB Tryd.prog 28 #[.slice aa an ac, .slice ba bn bc] w 46 3 partE (if vecB l1 = true ∧ vecB l2 = true then vout (vsub l1 l2) else []) (decide (vecB l1 = true ∧ vecB l2 = true) && (vsub l1 l2).isSome) := by
  intro R h
  refine f28_calls aa an ac ba bn bc w R ?_
  unfold f28_vc
  have hn := h1.1
  refine at_callb (At.refl w) (c31 w h1 h2) fun w2 hA _ hb2 => ⟨_, rfl, brNB (fun hno => ?_) (fun hyes => ?_)⟩
  · refine leaflb h hA OwnL.nil ?_ hno.symm
    split
    · rename_i hv
      rw [holdsB, decide_eq_true hv, Bool.true_and] at hno
      have : vsub l1 l2 = none := by simpa using hno
      rw [this]
      rfl
    · rfl
  have hh := holds_iff.1 hyes
  have hlen := vec_len' hh.1
  have hsome : (vsub l1 l2).isSome = true := (vsub_iff hh.1 hh.2.1).2 hh.2.2
  obtain ⟨d, hd⟩ := Option.isSome_iff_exists.1 hsome
  have hmap := sub_map hyes hd
  refine ⟨fun v W' => At w [] W' ∧ ∃ i : Nat, v.2.1 = i ∧ i ≤ l1.length ∧ OwnL w [] W' 46 3 partE (.slice v.1.1 v.1.2.1 v.1.2.2) ((l1.take i).filterMap (map1 fun s x => x - amt s l2)), fun v _ => (an - v.2.1).toNat, ⟨hA, 0, rfl, Nat.zero_le _, OwnL.nil⟩, ?_⟩
  rintro a9 n10 n11 x12 w13 ⟨hA, i, hi, hil, ho⟩
  simp only at hi ho
  subst hi
  refine brD (fun hlt => ?_) (fun hge => ?_)
  · obtain ⟨p, hp⟩ : ∃ x, l1[i]? = some x := ⟨_, List.getElem?_eq_getElem (by omega)⟩
    obtain ⟨ad, g1, el, _⟩ := elt_at (P := Tryd.prog) (k := .i64) (t := 22) h1 hp (e := 46) (by kernel_rfl) (by kernel_rfl)
    have htk : (l1.take (i + 1)).filterMap (map1 fun s x => x - amt s l2) = (l1.take i).filterMap (map1 fun s x => x - amt s l2) ++ withL p.1 p.2.1 (p.2.2 - amt (slotOf p) l2) := by
      rw [List.take_add_one, hp, List.filterMap_append]
      congr 1
      exact map1_toList _ p
    have hle : ((l1.take i).filterMap (map1 fun s x => x - amt s l2)).length ≤ i := Nat.le_trans (List.length_filterMap_le ..) (by simp; omega)
    rw [succ_i i (by omega)]
    have rp : ∀ {W'}, Bel w W' → Reads Tryd.prog [] (Instr.loadAt 46 (.pointer (some ad))) W' (.agg ((partE p).take 3).toArray) := fun hb => (el.below hb).agg 3 (by kernel_rfl) (by kernel_rfl) (by simp) (by simp)
    have ra : ∀ {W'}, Bel w W' → Reads Tryd.prog [] (Instr.loadAt 2 (.pointer (some ⟨ad.block, ad.off + 2, none⟩))) W' (.int .i64 p.2.2) := fun hb => ((el.below hb).sub (o := 2) (by decide)).one (by kernel_rfl) (by simp)
    refine ⟨ad, g1, _, _, _, rp hA.below, ad, g1, _, ra hA.below, ad, g1, _, _, _, rp hA.below, ?_⟩
    intro w24 hb24
    refine at_callb (hA.call hb24) (c43 _ _ _ w24) fun w26 hA _ hb26 => ⟨_, _, rfl, rp hA.below, ra hA.below, ?_⟩
    refine at_callb hA (c43 _ _ _ w26) fun w30 hA _ hb30 => ⟨_, _, rfl, ra hA.below, ?_⟩
    refine at_callb hA (c19 _ _ w30 (h2.call hA.below)) fun w34 hA _ hb34 => ⟨_, rfl, ra hA.below, ?_⟩
    have hb := ((hb24.trans hb26).trans hb30).trans hb34
    have hI := part_I hh.1 (List.mem_of_getElem? hp)
    unfold I64 at hI
    have hA2 := amt_nonneg (s := (p.1, p.2.1)) (vecB_iff.1 hh.2.1).1
    have hpr := ((vecB_iff.1 hh.1).1 p (List.mem_of_getElem? hp)).2
    rw [wrap_i64 (x := p.2.2 - amt (p.1, p.2.1) l2) (by omega) (by omega)]
    refine at_with hA (ho.call hb) p.1 p.2.1 (p.2.2 - amt (slotOf p) l2) (by omega) fun a' n' c' w37 hA _ ho _ => ⟨_, _, _, rfl, ra hA.below, ⟨hA, i + 1, rfl, by omega, ?_⟩, by simp only; omega⟩
    simp only
    rw [htk]
    exact ho
  · rw [show i = l1.length by omega, List.take_length, hmap] at ho
    refine leaflb h hA ho (by rw [if_pos ⟨hh.1, hh.2.1⟩, hd]; rfl) (by rw [decide_eq_true ⟨hh.1, hh.2.1⟩, hd]; rfl)
end Go.Vc.VD

/- The reference's Of, Add, Move. -/
set_option maxRecDepth 20000
set_option maxHeartbeats 1000000
namespace Go.Vc.VD
open Go Go.Vc Go.Vc.V Go.RowKit Go.Proofs Vcx

variable {w W W' : World} {M : Nat → Prop} {gs : List Nat}

theorem all_eq : allK 4 = V.allS := by decide +kernel
def own (s : Sl) (l : List PartT) : List Int := (l.filter fun p => decide (slotOf p = s)).map (·.2.2)
theorem own_sum (s : Sl) : ∀ l : List PartT, (own s l).sum = tot s l
  | [] => rfl
  | p :: l => by
    have ih := own_sum s l
    unfold own at *
    rw [tot]
    by_cases h : slotOf p = s
    · simp [h, ih]
    · simp [h, ih]
theorem sum_nn : ∀ {l : List Int}, (∀ x ∈ l, 0 ≤ x) → 0 ≤ l.sum
  | [], _ => Int.le_refl _
  | x :: l, h => by
    have := sum_nn fun y hy => h y (List.mem_cons_of_mem x hy)
    have := h x (by simp)
    simp only [List.sum_cons]
    omega
theorem qgo_sum (most : Int) : ∀ (l : List Int) (acc : Int), acc ≤ most → qgo most acc l = if (∀ x ∈ l, 0 ≤ x) ∧ acc + l.sum ≤ most then (acc + l.sum, true) else (0, false)
  | [], acc, h => by simp [qgo, h]
  | x :: l, acc, h => by
    rw [qgo]
    by_cases hx : x < 0 ∨ x > most - acc
    · rw [if_pos hx, if_neg]
      rintro ⟨h1, h2⟩
      have hx0 := h1 x (by simp)
      have := sum_nn fun y hy => h1 y (List.mem_cons_of_mem x hy)
      simp only [List.sum_cons] at h2
      omega
    · rw [if_neg hx, qgo_sum most l (acc + x) (by omega)]
      have e : (∀ y ∈ x :: l, 0 ≤ y) ↔ ∀ y ∈ l, 0 ≤ y := ⟨fun hh y hy => hh y (List.mem_cons_of_mem _ hy), fun hh y hy => by
        rcases List.mem_cons.1 hy with rfl | hy
        · omega
        · exact hh y hy⟩
      have e2 : acc + (x :: l).sum = acc + x + l.sum := by simp only [List.sum_cons]; omega
      rw [e2]
      simp only [e]
/-- Is there an amount of a slot? -/
def okS (s : Sl) (l : List PartT) : Prop := (∀ p ∈ l, slotOf p = s → 0 ≤ p.2.2) ∧ tot s l ≤ topQ
theorem sum_own (s : Sl) (l : List PartT) : qsum 9007199254740992 (own s l) = if (∀ x ∈ own s l, 0 ≤ x) ∧ tot s l ≤ topQ then (tot s l, true) else (0, false) := by
  unfold qsum
  rw [if_neg (by decide), qgo_sum _ _ _ (by decide), own_sum, Int.zero_add]
theorem own_nonneg {s : Sl} {l : List PartT} : (∀ x ∈ own s l, 0 ≤ x) ↔ ∀ p ∈ l, slotOf p = s → 0 ≤ p.2.2 := by
  unfold own
  constructor
  · intro h p hp hs
    exact h _ (List.mem_map.2 ⟨p, List.mem_filter.2 ⟨hp, decide_eq_true hs⟩, rfl⟩)
  · intro h x hx
    obtain ⟨p, hp, rfl⟩ := List.mem_map.1 hx
    obtain ⟨h1, h2⟩ := List.mem_filter.1 hp
    exact h p h1 (of_decide_eq_true h2)
theorem vof_no {l : List PartT} {s : Sl} (h : ¬ okS s l) : vof l = none := by
  unfold vof
  rw [if_neg]
  rintro ⟨h1, h2⟩
  exact h ⟨fun p hp _ => (h1 p hp).2, tot_le h2 s⟩
theorem vof_slot {l : List PartT} {p : PartT} (hp : p ∈ l) (h : ¬ slotR p.1 p.2.1) : vof l = none := by
  unfold vof
  rw [if_neg]
  rintro ⟨h1, _⟩
  exact h (h1 p hp).1
theorem vof_good {l : List PartT} (h1 : ∀ p ∈ l, slotR p.1 p.2.1) (h2 : ∀ s ∈ V.allS, okS s l) : vof l = some (canon l) := by
  have h2 : ∀ p ∈ l, okS (slotOf p) l := fun p hp => h2 _ (mem_allS.2 (h1 p hp))
  unfold vof
  rw [if_pos ⟨fun p hp => ⟨h1 p hp, (h2 p hp).1 p hp rfl⟩, fun p hp => (h2 p hp).2⟩]
def canS (l : List PartT) (s : Sl) : Option PartT := if 0 < tot s l then some (s.1, s.2, tot s l) else none
theorem canS_list {l : List PartT} {s : Sl} (h : 0 ≤ tot s l) : (canS l s).toList = withL s.1 s.2 (tot s l) := by
  unfold canS withL
  by_cases h0 : tot s l = 0
  · rw [if_neg (by omega), if_pos h0]
    rfl
  · rw [if_pos (by omega), if_neg h0]
    rfl
theorem totS_nonneg {s : Sl} : ∀ {l : List PartT}, (∀ p ∈ l, slotOf p = s → 0 ≤ p.2.2) → 0 ≤ tot s l
  | [], _ => Int.le_refl _
  | p :: l, h => by
    have := totS_nonneg (s := s) fun q hq => h q (List.mem_cons_of_mem _ hq)
    have hp := h p (by simp)
    rw [tot]
    split
    · have := hp (by assumption)
      omega
    · omega

theorem c15 {l : List PartT} {a : Option Addr} {n c : Nat} (w : World) (hs : SlE w 3 partE l a n c) (hl : l.length ≤ 1000000) (hI : ∀ p ∈ l, I64 p.2.2) : RetLB Tryd.prog 15 #[.slice a n c] w 46 3 partE (vout (vof l)) (vof l).isSome := by
  intro R h
  refine f15_calls a n c w R ?_
  unfold f15_vc
  have hn := hs.1
  refine ⟨fun v W' => At w [] W' ∧ ∃ i : Nat, v.1 = i ∧ i ≤ l.length ∧ ∀ p ∈ l.take i, slotR p.1 p.2.1, fun v _ => (n - v.1).toNat, ⟨At.refl w, 0, rfl, Nat.zero_le _, fun p hp => by simp at hp⟩, ?_⟩
  rintro x3 w4 ⟨hA, i, hi, hil, hall⟩
  simp only at hi
  subst hi
  refine brD (fun hlt => ?_) (fun hge => ?_)
  · obtain ⟨p, hp⟩ : ∃ x, l[i]? = some x := ⟨_, List.getElem?_eq_getElem (by omega)⟩
    obtain ⟨ad, g1, el, _⟩ := elt_at (P := Tryd.prog) (k := .i64) (t := 22) (hs.call hA.below) hp (e := 46) (by kernel_rfl) (by kernel_rfl)
    rw [succ_i i (by omega)]
    refine ⟨ad, g1, _, _, _, el.agg 3 (by kernel_rfl) (by kernel_rfl) (by simp) (by simp), ?_⟩
    refine at_callb hA (c43 _ _ _ w4) fun w10 hA _ hb10 => ⟨_, _, rfl, ?_⟩
    refine at_callb hA (c42 _ _ w10) fun w14 hA _ hb14 => ⟨_, rfl, brND (fun hno => ?_) (fun hyes => ⟨⟨hA, i + 1, rfl, by omega, fun q hq => ?_⟩, by simp only; omega⟩)⟩
    · have e := vof_slot (List.mem_of_getElem? hp) hno
      exact leaflb h hA OwnL.nil (by rw [e]; rfl) (by rw [e]; rfl)
    · rw [List.take_add_one, hp] at hq
      rcases List.mem_append.1 hq with hq | hq
      · exact hall q hq
      · simp at hq
        subst hq
        exact hyes
  rw [show i = l.length by omega, List.take_length] at hall
  refine at_calll hA (c44 w4) (fun _ _ => rfl) fun a18 d20 w17 hA17 _ hb17 _ s18 => ⟨_, _, _, rfl, ?_⟩
  rw [all_eq] at s18 ⊢
  have hal : V.allS.length = 132 := by decide +kernel
  have hs17 := (hs.call hA.below).call hb17
  have fin : ∀ {W' : World} {v : Value} {l' : List PartT} {ok : Bool}, At w17 [] W' → OwnL w17 [] W' 46 3 partE v l' → vout (vof l) = l' → (vof l).isSome = ok → R (.returned (.tuple #[v, .bool ok])) W' := fun {W' v l' ok} hA' ho e1 e2 => by
    subst e1 e2
    exact h _ _ (hA17.below.trans hA'.below) ⟨_, rfl, ownsRow_raise ho.row fun k hk => Nat.le_trans hA17.size ((ho.mine k hk).resolve_right id)⟩
  refine ⟨fun v W' => At w17 [] W' ∧ ∃ k : Nat, v.2.1 = k ∧ k ≤ 132 ∧ OwnL w17 [] W' 46 3 partE (.slice v.1.1 v.1.2.1 v.1.2.2) ((V.allS.take k).filterMap (canS l)) ∧ ∀ s ∈ V.allS.take k, okS s l, fun v _ => (132 - v.2.1).toNat, ⟨At.refl w17, 0, rfl, Nat.zero_le _, OwnL.nil, fun s hs => by simp at hs⟩, ?_⟩
  rintro a23 n24 n25 x26 w27 ⟨hA27, k, hk, hk132, ho, hok⟩
  simp only at hk ho
  subst hk
  refine brD (fun hlt2 => ?_) (fun hge2 => ?_)
  · obtain ⟨s, hsk⟩ : ∃ x, V.allS[k]? = some x := ⟨_, List.getElem?_eq_getElem (by omega)⟩
    have hrd : ∀ {W' : World}, Bel w17 W' → ∃ ad, Gives Tryd.prog (Instr.indexAt 55 (.slice a18 V.allS.length d20) (.int .i64 (k : Int))) (.pointer (some ad)) ∧ ∀ {W'' : World}, Bel W' W'' → Reads Tryd.prog [] (Instr.loadAt 29 (.pointer (some ad))) W'' (slotV s.1 s.2) := fun {W'} hb => by
      obtain ⟨ad, g1, el, _⟩ := elt_at (P := Tryd.prog) (k := .i64) (t := 55) (s18.call hb) hsk (e := 29) (by kernel_rfl) (by kernel_rfl)
      exact ⟨ad, g1, fun hb2 => (el.below hb2).agg 2 (by kernel_rfl) (by kernel_rfl) (by simp) (by simp)⟩
    refine ⟨fun v W' => At w27 [] W' ∧ ∃ j : Nat, v.2.1 = j ∧ j ≤ l.length ∧ OwnL w27 [] W' 2 1 one (.slice v.1.1 v.1.2.1 v.1.2.2) (own s (l.take j)), fun v _ => (n - v.2.1).toNat, ⟨At.refl w27, 0, rfl, Nat.zero_le _, OwnL.nil⟩, ?_⟩
    rintro a30 n31 n32 x33 w34 ⟨hA34, j, hj, hjl, hoj⟩
    simp only at hj hoj
    subst hj
    have b34 := hA27.below.trans hA34.below
    refine brD (fun hlt3 => ?_) (fun hge3 => ?_)
    · obtain ⟨p, hp⟩ : ∃ x, l[j]? = some x := ⟨_, List.getElem?_eq_getElem (by omega)⟩
      obtain ⟨ad, g1, el, _⟩ := elt_at (P := Tryd.prog) (k := .i64) (t := 22) (hs17.call b34) hp (e := 46) (by kernel_rfl) (by kernel_rfl)
      obtain ⟨ad2, g2, r2⟩ := hrd b34
      have htk : own s (l.take (j + 1)) = own s (l.take j) ++ if slotOf p = s then [p.2.2] else [] := by
        unfold own
        rw [List.take_add_one, hp, List.filter_append, List.map_append]
        congr 1
        by_cases hc : slotOf p = s <;> simp [hc]
      have hle : (own s (l.take j)).length ≤ j := by
        unfold own
        rw [List.length_map]
        exact Nat.le_trans (List.length_filter_le ..) (by simp; omega)
      rw [succ_i j (by omega)]
      refine ⟨ad, g1, _, _, _, el.agg 3 (by kernel_rfl) (by kernel_rfl) (by simp) (by simp), ad2, g2, _, _, r2 (At.refl w34).below, ?_⟩
      intro w42 hb42
      refine at_callb (hA34.call hb42) (c43 _ _ _ w42) fun w44 hA44 _ hb44 => ⟨_, _, rfl, r2 (hb42.trans hb44), ?_⟩
      have hcond : (p.1 == s.1 && (p.2.1 == s.2 && true)) = decide (slotOf p = s) := by
        rw [Bool.eq_iff_iff]
        obtain ⟨s1, s2⟩ := s
        simp [slotOf]
      rw [hcond]
      have hoj := hoj.call (hb42.trans hb44)
      refine brD (fun he => ?_) (fun hne => ?_)
      · rw [if_pos he] at htk
        refine ⟨ad, g1, _, ((el.below (hb42.trans hb44)).sub (o := 2) (by decide)).one (by kernel_rfl) (by simp), ?_⟩
        refine opw_push0 (f := one) (e' := 2) (bytes := 8) hA44 hoj p.2.2 (by kernel_rfl) (by kernel_rfl) rfl (fun _ _ => rfl) (fun u hu => by simp at hu; subst hu; rfl) (by omega) (by omega) fun a2 c2 w55 hA ho _ _ => ⟨⟨hA, j + 1, rfl, by omega, ?_⟩, by simp only; omega⟩
        simp only
        rw [htk]
        exact ho
      · rw [if_neg hne, List.append_nil] at htk
        refine ⟨⟨hA44, j + 1, rfl, by omega, ?_⟩, by simp only; omega⟩
        simp only
        rw [htk]
        exact hoj
    · rw [show j = l.length by omega, List.take_length] at hoj
      have hn31 := hoj.len
      subst hn31
      have hIo : ∀ x ∈ own s l, I64 x := fun x hx => by
        unfold own at hx
        obtain ⟨p, hp, rfl⟩ := List.mem_map.1 hx
        exact hI p (List.mem_filter.1 hp).1
      refine at_callb hA34 (c45 (most := 9007199254740992) w34 (by unfold I64; omega) (hoj.sl fun _ _ => rfl) hIo) fun w60 hA60 _ hb60 => ⟨_, _, rfl, ?_⟩
      have hA60' : At w17 [] w60 := hA27.call (hA34.below.trans hb60)
      rw [sum_own]
      by_cases hgood : (∀ x ∈ own s l, 0 ≤ x) ∧ tot s l ≤ topQ
      · rw [if_pos hgood]
        have hos : okS s l := ⟨own_nonneg.1 hgood.1, hgood.2⟩
        obtain ⟨ad2, g2, r2⟩ := hrd hA60'.below
        refine brNB (fun e => by cases e) (fun _ => ⟨ad2, g2, _, _, r2 (At.refl w60).below, ?_⟩)
        have htk : (V.allS.take (k + 1)).filterMap (canS l) = (V.allS.take k).filterMap (canS l) ++ withL s.1 s.2 (tot s l) := by
          rw [List.take_add_one, hsk, List.filterMap_append]
          congr 1
          rw [← canS_list (totS_nonneg hos.1)]
          unfold canS
          split <;> simp [*]
        have hle : ((V.allS.take k).filterMap (canS l)).length ≤ k := Nat.le_trans (List.length_filterMap_le ..) (by simp; omega)
        refine at_with hA60' (ho.call (hA34.below.trans hb60)) s.1 s.2 (tot s l) (by omega) fun a' n' c' w67 hA67 _ ho67 _ => ⟨_, _, _, rfl, ?_⟩
        rw [succ_i k (by omega)]
        refine ⟨⟨hA67, k + 1, rfl, by omega, ?_, fun t ht => ?_⟩, by simp only; omega⟩
        · simp only
          rw [htk]
          exact ho67
        · rw [List.take_add_one, hsk] at ht
          rcases List.mem_append.1 ht with ht | ht
          · exact hok t ht
          · simp at ht
            subst ht
            exact hos
      · rw [if_neg hgood]
        have hbad : ¬ okS s l := fun hh => hgood ⟨own_nonneg.2 hh.1, hh.2⟩
        have e := vof_no hbad
        refine brNB (fun _ => fin hA60' OwnL.nil (by rw [e]; rfl) (by rw [e]; rfl)) (fun e => by cases e)
  · have hk' : k = 132 := by omega
    subst hk'
    rw [show (132 : Nat) = V.allS.length from hal.symm, List.take_length] at ho hok
    have e := vof_good hall hok
    exact fin hA27 ho (by rw [e]; rfl) (by rw [e]; rfl)

/-! ### Add, Move -/
theorem vof_append {a b : List PartT} (ha : vecB a = true) (hb : vecB b = true) : vof (a ++ b) = vadd a b := by
  have wa := vecB_iff.1 ha
  have wb := vecB_iff.1 hb
  have ht : ∀ s, tot s (a ++ b) = amt s a + amt s b := fun s => by rw [tot_append, amt_tot wa.2, amt_tot wb.2]
  have key : (vof (a ++ b)).isSome = true ↔ (vadd a b).isSome = true := by
    rw [vadd_iff ha hb]
    constructor
    · intro h s
      obtain ⟨c, hc⟩ := Option.isSome_iff_exists.1 h
      have hcc := vof_some hc
      rw [← ht, ← hcc.2.1 s]
      exact (amt_nonneg (vecB_iff.1 hcc.1).1).2
    · intro h
      unfold vof
      rw [if_pos]
      · rfl
      · refine ⟨fun p hp => ?_, fun p _ => by rw [ht]; exact h _⟩
        have hr : partR p := by
          rcases List.mem_append.1 hp with hp | hp
          · exact wa.1 p hp
          · exact wb.1 p hp
        exact ⟨hr.1, by have := hr.2; omega⟩
  cases hv : vadd a b with
  | none =>
    cases ho : vof (a ++ b) with
    | none => rfl
    | some c =>
      rw [ho, hv] at key
      simp at key
  | some c =>
    have hs : (vof (a ++ b)).isSome = true := key.2 (by rw [hv]; rfl)
    obtain ⟨d, hd⟩ := Option.isSome_iff_exists.1 hs
    have h1 := vof_some hd
    have h2 := vadd_amt ha hb hv
    rw [hd, vec_ext h1.1 h2.1 fun s => by rw [h1.2.1, h2.2.1, ht]]
theorem c26 {l1 l2 : List PartT} {aa ba : Option Addr} {an ac bn bc : Nat} (w : World) (h1 : SlE w 3 partE l1 aa an ac) (h2 : SlE w 3 partE l2 ba bn bc) : RetLB Tryd.prog 26 #[.slice aa an ac, .slice ba bn bc] w 46 3 partE (if vecB l1 = true ∧ vecB l2 = true then vout (vadd l1 l2) else []) (decide (vecB l1 = true ∧ vecB l2 = true) && (vadd l1 l2).isSome) := by
  intro R h
  refine f26_calls aa an ac ba bn bc w R ?_
  unfold f26_vc
  have no : ∀ {W' : World}, At w [] W' → ¬ (vecB l1 = true ∧ vecB l2 = true) → R (.returned (.tuple #[.slice none 0 0, .bool false])) W' := fun hA hn => leaflb h hA OwnL.nil (by rw [if_neg hn]) (by rw [decide_eq_false hn]; rfl)
  refine at_callb (At.refl w) (c17 w h1) fun w2 hA _ hb2 => ⟨_, rfl, brNB (fun hno => no hA fun hh => by rw [hno] at hh; cases hh.1) (fun hv1 => ?_)⟩
  refine at_callb hA (c17 w2 (h2.call hb2)) fun w5 hA _ hb5 => ⟨_, rfl, brNB (fun hno => no hA fun hh => by rw [hno] at hh; cases hh.2) (fun hv2 => ?_)⟩
  have hl1 := vec_len' hv1
  have hl2 := vec_len' hv2
  refine opw_litL (e' := 46) (f := partE) (size := 3) (l := []) hA rfl (fun _ _ => rfl) (by decide) (by kernel_rfl) fun g1 w8 _ hA _ hb8 ho => ⟨_, _, _, rfl, ?_⟩
  refine opw_appendS (bytes := 24) (by kernel_rfl) hA ho (h1.call hA.below) (fun _ _ => rfl) (fun x _ => part_one x) (by simp only [maxLen, List.length_nil]; omega) (by simp only [List.length_nil]; omega) fun v13 w13 hA _ _ ho => ?_
  obtain ⟨a14, d14, rfl, _⟩ := ho.slice fun _ _ => rfl
  refine ⟨_, _, _, rfl, ?_⟩
  refine opw_appendS (bytes := 24) (by kernel_rfl) hA ho (h2.call hA.below) (fun _ _ => rfl) (fun x _ => part_one x) (by simp only [maxLen, List.nil_append]; omega) (by simp only [List.nil_append]; omega) fun v18 w18 hA _ _ ho => ?_
  obtain ⟨a19, d19, rfl, s19⟩ := ho.slice fun _ _ => rfl
  refine ⟨_, _, _, rfl, ?_⟩
  rw [List.nil_append] at s19 ⊢
  refine at_calllb hA (c15 w18 s19 (by rw [List.length_append]; omega) (fun p hp => ?_)) (fun _ _ => rfl) fun a24 d24 w23 hA _ _ ho _ => ⟨_, _, _, _, rfl, ?_⟩
  · rcases List.mem_append.1 hp with hp | hp
    · exact part_I hv1 hp
    · exact part_I hv2 hp
  rw [vof_append hv1 hv2] at ho ⊢
  exact leaflb h hA ho (by rw [if_pos ⟨hv1, hv2⟩]) (by rw [decide_eq_true ⟨hv1, hv2⟩]; rfl)
theorem c22 {l : List PartT} {a : Option Addr} {n c : Nat} (f t : Int) (w : World) (hs : SlE w 3 partE l a n c) : RetLB Tryd.prog 22 #[.slice a n c, .int .i64 f, .int .i64 t] w 46 3 partE (vout (vmove l f t)) (vmove l f t).isSome := by
  intro R h
  refine f22_calls a n c f t w R ?_
  unfold f22_vc
  have hn := hs.1
  have no : ∀ {W' : World}, At w [] W' → ¬ (vecB l = true ∧ slotR 0 f ∧ slotR 0 t) → R (.returned (.tuple #[.slice none 0 0, .bool false])) W' := fun hA hn => by
    have e : vmove l f t = none := if_neg hn
    exact leaflb h hA OwnL.nil (by rw [e]; rfl) (by rw [e]; rfl)
  refine at_callb (At.refl w) (c17 w hs) fun w2 hA _ hb2 => ⟨_, rfl, brNB (fun hno => no hA fun hh => by rw [hno] at hh; cases hh.1) (fun hv => ?_)⟩
  have hlen := vec_len' hv
  unfold slotR at no
  refine brD (fun hx => no hA fun hh => by omega) (fun h1 => brD (fun hx => no hA fun hh => by omega) (fun h2 => brD (fun hx => no hA fun hh => by omega) (fun h3 => brD (fun hx => no hA fun hh => by omega) (fun h4 => ?_))))
  have e : vmove l f t = vof (l.map (mvP f t)) := if_pos ⟨hv, by unfold slotR; omega, by unfold slotR; omega⟩
  refine ⟨fun v W' => At w [] W' ∧ ∃ i : Nat, v.2.1 = i ∧ i ≤ l.length ∧ OwnL w [] W' 46 3 partE (.slice v.1.1 v.1.2.1 v.1.2.2) ((l.take i).map (mvP f t)), fun v _ => (n - v.2.1).toNat, ⟨hA, 0, rfl, Nat.zero_le _, OwnL.nil⟩, ?_⟩
  rintro a6 n7 n8 x9 w10 ⟨hA, i, hi, hil, ho⟩
  simp only at hi ho
  subst hi
  refine brD (fun hlt => ?_) (fun hge => ?_)
  · obtain ⟨p, hp⟩ : ∃ x, l[i]? = some x := ⟨_, List.getElem?_eq_getElem (by omega)⟩
    obtain ⟨ad, g1, el, _⟩ := elt_at (P := Tryd.prog) (k := .i64) (t := 22) (hs.call hA.below) hp (e := 46) (by kernel_rfl) (by kernel_rfl)
    have htk : (l.take (i + 1)).map (mvP f t) = (l.take i).map (mvP f t) ++ [mvP f t p] := by
      rw [List.take_add_one, hp, List.map_append]
      rfl
    have hle : ((l.take i).map (mvP f t)).length ≤ i := by simp; omega
    rw [succ_i i (by omega)]
    have hsz10 := hA.size
    refine ⟨ad, g1, _, _, _, el.agg 3 (by kernel_rfl) (by kernel_rfl) (by simp) (by simp), ?_⟩
    intro n15 hn15
    have ho := ho.more (gs' := [n15]) (by intro g h1 _; simp at h1; omega)
    refine brE (fun hr => ?_) (fun hr => ?_)
    · intro w16 hev hun
      have hbel := hev.bel (by intro d hd; simp at hd; omega)
      have hm : mvP f t p = (p.1, t, p.2.2) := if_pos hr
      refine opw_push (f := partE) (e' := 46) (bytes := 24) (gs := [n15]) ⟨(hA.call hbel).chg, hun⟩ (ho.call hbel) (mvP f t p) (by kernel_rfl) (by rw [hm]; kernel_rfl) rfl (fun _ _ => rfl) (part_one _) (by omega) (by omega) fun a2 c2 w23 hA ho _ _ => ⟨⟨hA.off, i + 1, rfl, by omega, ?_⟩, by simp only; omega⟩
      simp only
      rw [htk]
      exact ho.more (by simp)
    · intro w27 hev hun
      have hbel := hev.bel (by intro d hd; simp at hd; omega)
      have hm : mvP f t p = p := if_neg hr
      refine opw_push (f := partE) (e' := 46) (bytes := 24) (gs := [n15]) ⟨(hA.call hbel).chg, hun⟩ (ho.call hbel) (mvP f t p) (by kernel_rfl) (by rw [hm]; kernel_rfl) rfl (fun _ _ => rfl) (part_one _) (by omega) (by omega) fun a2 c2 w23 hA ho _ _ => ⟨⟨hA.off, i + 1, rfl, by omega, ?_⟩, by simp only; omega⟩
      simp only
      rw [htk]
      exact ho.more (by simp)
  · rw [show i = l.length by omega, List.take_length] at ho
    have hlm : (l.map (mvP f t)).length = l.length := List.length_map ..
    have hn7 := ho.len
    subst hn7
    refine at_calllb hA (c15 w10 (ho.sl fun _ _ => rfl) (by omega) (fun q hq => ?_)) (fun _ _ => rfl) fun a40 d40 w39 hA _ _ ho _ => ⟨_, _, _, _, rfl, ?_⟩
    · obtain ⟨p, hp, rfl⟩ := List.mem_map.1 hq
      have := part_I hv hp
      unfold mvP
      split <;> exact this
    rw [← e] at ho ⊢
    exact leaflb h hA ho rfl rfl
end Go.Vc.VD

/- VecOf, VecMoves, VecSums: the walks. -/
set_option maxRecDepth 20000
set_option maxHeartbeats 1000000
namespace Go.Vc.VD
open Go Go.Vc Go.Vc.V Go.RowKit Go.Proofs Vcx

variable {w W W' : World} {M : Nat → Prop} {gs : List Nat}

theorem law6 {la lb : List PartT} {aa ba : Option Addr} {an ac bn bc : Nat} (W : World) (hT : Tab W) (h1 : SlE W 3 partE la aa an ac) (h2 : SlE W 3 partE lb ba bn bc) : RetW Tryd.prog 6 #[.slice aa an ac, .slice ba bn bc] W (.bool true) := by
  intro R h
  refine f6_calls _ _ _ _ _ _ W R ?_
  unfold f6_vc
  refine opw_litL (e' := 22) (f := rawS) (size := 1) (l := [((aa, an, ac) : RawS), (ba, bn, bc)]) (At.refl W) rfl (fun _ _ => rfl) (by decide) (by kernel_rfl) fun g1 w2 _ hA _ hb2 ho1 => ⟨_, _, _, rfl, ?_⟩
  have hL : LsR w2 [la, lb] _ _ _ := LsR_of (ho1.sl fun _ _ => rfl) rfl fun i x y hx hy => by
    match i, hx, hy with
    | 0, hx, hy => cases hx; cases hy; exact h1.call hb2
    | 1, hx, hy => cases hx; cases hy; exact h2.call hb2
    | i + 2, hx, _ => simp at hx
  refine at_callb hA (c9 w2 hL) fun w7 hA _ hb7 => ⟨_, rfl, brNB (fun _ => h _ hA.below.below) (fun hf => ?_)⟩
  have hfw := few_mem hf
  have ha := hfw la (by simp)
  have hb := hfw lb (by simp)
  have works : ∀ {W' : World}, AtF W noB [] W' → Calls Tryd.prog 13 #[] W' fun e w => ∃ b, e = .returned (.bool b) ∧ R (.returned (.bool b)) w := fun {W'} hA => c13 W' (hT.below hA.below) _ fun w' hb => ⟨_, rfl, h _ (hA.below.below.trans (hb.mono hA.size))⟩
  refine at_calllb hA (c25 w7 (h1.call hA.below) (h2.call hA.below) (by omega) (by omega)) (fun _ _ => rfl) fun a11 d11 w10 hA _ hb10 _ s11 => ⟨_, _, _, _, rfl, ?_⟩
  refine at_calllb hA (c26 w10 (h1.call hA.below) (h2.call hA.below)) (fun _ _ => rfl) fun a17 d17 w16 hA _ hb16 _ s17 => ⟨_, _, _, _, rfl, ?_⟩
  refine at_calllb hA (c27 w16 (h1.call hA.below) (h2.call hA.below) (by omega)) (fun _ _ => rfl) fun a23 d23 w22 hA _ hb22 _ s23 => ⟨_, _, _, _, rfl, ?_⟩
  refine at_calllb hA (c28 w22 (h1.call hA.below) (h2.call hA.below)) (fun _ _ => rfl) fun a29 d29 w28 hA _ hb28 _ s29 => ⟨_, _, _, _, rfl, ?_⟩
  refine at_callb hA (c16 w28 (((s11.call hb16).call hb22).call hb28) ((s17.call hb22).call hb28)) fun w34 hA _ hb34 => ⟨_, rfl, brB (fun _ => brE (fun _ => ?_) (fun e => absurd rfl e)) (fun e => absurd rfl (of_decide_eq_false e))⟩
  refine at_callb hA (c16 w34 ((s23.call hb28).call hb34) (s29.call hb34)) fun w37 hA _ hb37 => ⟨_, rfl, brB (fun _ => brE (fun _ => ?_) (fun e => absurd rfl e)) (fun e => absurd rfl (of_decide_eq_false e))⟩
  refine at_calll hA (c29 w37 (h1.call hA.below) (h2.call hA.below)) (fun _ _ => rfl) fun a41 d41 w40 hA _ hb40 _ s41 => ⟨_, _, _, rfl, ?_⟩
  refine at_calll hA (c30 w40 (h1.call hA.below) (h2.call hA.below)) (fun _ _ => rfl) fun a46 d46 w45 hA _ hb45 _ s46 => ⟨_, _, _, rfl, ?_⟩
  refine at_callb hA (c16 w45 (s41.call hb45) s46) fun w50 hA _ hb50 => ⟨_, rfl, brB (fun _ => ?_) (fun e => absurd rfl (of_decide_eq_false e))⟩
  refine at_callb hA (c10 w50 (h1.call hA.below) (h2.call hA.below) (by omega)) fun w53 hA _ hb53 => ⟨_, rfl, ?_⟩
  refine at_callb hA (c31 w53 (h1.call hA.below) (h2.call hA.below)) fun w56 hA _ hb56 => ⟨_, rfl, brE (fun _ => works hA) (fun e => absurd rfl e)⟩

theorem law5 {l : List PartT} {a : Option Addr} {n c : Nat} (f t : Int) (W : World) (hT : Tab W) (hs : SlE W 3 partE l a n c) : RetW Tryd.prog 5 #[.slice a n c, .int .i64 f, .int .i64 t] W (.bool true) := by
  intro R h
  refine f5_calls _ _ _ f t W R ?_
  unfold f5_vc
  refine opw_litL (e' := 22) (f := rawS) (size := 1) (l := [((a, n, c) : RawS)]) (At.refl W) rfl (fun _ _ => rfl) (by decide) (by kernel_rfl) fun g1 w2 _ hA _ hb2 ho1 => ⟨_, _, _, rfl, ?_⟩
  have hL : LsR w2 [l] _ _ _ := LsR_of (ho1.sl fun _ _ => rfl) rfl fun i x y hx hy => by
    match i, hx, hy with
    | 0, hx, hy => cases hx; cases hy; exact hs.call hb2
    | i + 1, hx, _ => simp at hx
  refine at_callb hA (c9 w2 hL) fun w7 hA _ hb7 => ⟨_, rfl, brNB (fun _ => h _ hA.below.below) (fun hf => ?_)⟩
  have hfw := few_mem hf
  have ha := hfw l (by simp)
  have works : ∀ {W' : World}, AtF W noB [] W' → Calls Tryd.prog 13 #[] W' fun e w => ∃ b, e = .returned (.bool b) ∧ R (.returned (.bool b)) w := fun {W'} hA => c13 W' (hT.below hA.below) _ fun w' hb => ⟨_, rfl, h _ (hA.below.below.trans (hb.mono hA.size))⟩
  have o1 : onlyL l [f, t] = only2 l f t := by
    unfold onlyL only2
    simp only [List.mem_cons, List.not_mem_nil, or_false]
  have o2 : onlyL l [t] = only2 l t t := by
    unfold onlyL only2
    simp only [List.mem_cons, List.not_mem_nil, or_false, or_self]
  have o3 : onlyL l [] = [] := by
    unfold onlyL
    simp
  refine at_calllb hA (c21 f t w7 (hs.call hA.below) (by omega)) (fun _ _ => rfl) fun a11 d11 w10 hA _ hb10 _ s11 => ⟨_, _, _, _, rfl, ?_⟩
  refine at_calllb hA (c22 f t w10 (hs.call hA.below)) (fun _ _ => rfl) fun a17 d17 w16 hA _ hb16 _ s17 => ⟨_, _, _, _, rfl, ?_⟩
  refine at_callb hA (c16 w16 (s11.call hb16) s17) fun w22 hA _ hb22 => ⟨_, rfl, brB (fun _ => brE (fun _ => ?_) (fun e => absurd rfl e)) (fun e => absurd rfl (of_decide_eq_false e))⟩
  refine opw_litL (e' := 3) (f := one) (size := 1) (l := [f, t]) hA rfl (fun _ _ => rfl) (by decide) (by kernel_rfl) fun g2 w25 _ hA _ hb25 ho2 => ⟨_, _, _, rfl, ?_⟩
  refine at_calll hA (c23 w25 (hs.call hA.below) (ho2.sl fun _ _ => rfl) (by omega)) (fun _ _ => rfl) fun a31 d31 w30 hA _ hb30 _ s31 => ⟨_, _, _, rfl, ?_⟩
  refine at_calll hA (c24 f t w30 (hs.call hA.below)) (fun _ _ => rfl) fun a36 d36 w35 hA _ hb35 _ s36 => ⟨_, _, _, rfl, ?_⟩
  refine at_callb hA (c16 w35 (s31.call hb35) s36) fun w40 hA _ hb40 => ⟨_, rfl, brB (fun _ => ?_) (fun e => absurd o1 (of_decide_eq_false e))⟩
  refine opw_litL (e' := 3) (f := one) (size := 1) (l := [t]) hA rfl (fun _ _ => rfl) (by decide) (by kernel_rfl) fun g3 w43 _ hA _ hb43 ho3 => ⟨_, _, _, rfl, ?_⟩
  refine at_calll hA (c23 w43 (hs.call hA.below) (ho3.sl fun _ _ => rfl) (by omega)) (fun _ _ => rfl) fun a49 d49 w48 hA _ hb48 _ s49 => ⟨_, _, _, rfl, ?_⟩
  refine at_calll hA (c24 t t w48 (hs.call hA.below)) (fun _ _ => rfl) fun a54 d54 w53 hA _ hb53 _ s54 => ⟨_, _, _, rfl, ?_⟩
  refine at_callb hA (c16 w53 (s49.call hb53) s54) fun w58 hA _ hb58 => ⟨_, rfl, brB (fun _ => ?_) (fun e => absurd o2 (of_decide_eq_false e))⟩
  have hnil : SlE w58 1 one [] none 0 0 := ⟨rfl, Nat.le_refl _, Nat.zero_le _, fun _ => rfl, fun i x hx => by simp at hx⟩
  refine at_calll hA (c23 w58 (hs.call hA.below) hnil (by omega)) (fun _ _ => rfl) fun a62 d62 w61 hA _ hb61 _ _ => ⟨_, _, _, rfl, brE (fun _ => works hA) (fun e => absurd (by rw [o3]; rfl) e)⟩

theorem law4 {l v : List PartT} {a b : Option Addr} {n c m d : Nat} (k r : Int) (W : World) (hT : Tab W) (h1 : SlE W 3 partE l a n c) (h2 : SlE W 3 partE v b m d) (hI : ∀ p ∈ l, I64 p.2.2) : RetW Tryd.prog 4 #[.slice a n c, .slice b m d, slotV k r] W (.bool true) := by
  intro R h
  refine f4_calls _ _ _ _ _ _ k r W R ?_
  unfold f4_vc
  intro n1 hn1 w2' hb2' hun2'
  have hA : At W [n1] w2' := ⟨((At.refl W).call hb2').chg, hun2'⟩
  refine opw_litL (e' := 22) (f := rawS) (size := 1) (l := [((a, n, c) : RawS), (b, m, d)]) hA rfl (fun _ _ => rfl) (by decide) (by kernel_rfl) fun g1 w2 _ hA hk hb2 ho1 => ⟨_, _, _, rfl, hk, ?_⟩
  have hL : LsR w2 [l, v] _ _ _ := LsR_of (ho1.sl fun _ _ => rfl) rfl fun i x y hx hy => by
    match i, hx, hy with
    | 0, hx, hy => cases hx; cases hy; exact h1.call hA.below
    | 1, hx, hy => cases hx; cases hy; exact h2.call hA.below
    | i + 2, hx, _ => simp at hx
  refine at_callb hA (c9 w2 hL) fun w7 hA hk hb7 => ⟨_, rfl, hk, brNB (fun _ => h _ hA.below.below) (fun hf => ?_)⟩
  have hfw := few_mem hf
  have ha := hfw l (by simp)
  have hb := hfw v (by simp)
  have works : ∀ {W' : World}, AtF W noB [n1] W' → Calls Tryd.prog 13 #[] W' fun e w => ∃ b, e = .returned (.bool b) ∧ Keeps [n1] W' w ∧ R (.returned (.bool b)) w := fun {W'} hA => c13 W' (hT.below hA.below) _ fun w' hb => ⟨_, rfl, fun g hg => hb.block g (hA.under g hg), h _ (hA.below.below.trans (hb.mono hA.size))⟩
  refine at_calllb hA (c14 w7 (h1.call hA.below) (by omega) hI) (fun _ _ => rfl) fun a13 d13 w12 hA hk hb12 _ s13 => ⟨_, _, _, _, rfl, hk, ?_⟩
  refine at_calllb hA (c15 w12 (h1.call hA.below) (by omega) hI) (fun _ _ => rfl) fun a19 d19 w18 hA hk hb18 _ s19 => ⟨_, _, _, _, rfl, hk, ?_⟩
  intro w23 hb23 hun23
  have hA : At W [n1] w23 := ⟨(hA.call hb23).chg, hun23⟩
  refine at_callb hA (c16 w23 ((s13.call hb18).call hb23) (s19.call hb23)) fun w25 hA hk hb25 => ⟨_, rfl, hk, brB (fun _ => brE (fun _ => ?_) (fun e => absurd rfl e)) (fun e => absurd rfl (of_decide_eq_false e))⟩
  refine at_callb hA (c11 w25 (h2.call hA.below)) fun w28 hA hk _ => ⟨_, rfl, hk, ?_⟩
  refine at_callb hA (c17 w28 (h2.call hA.below)) fun w31 hA hk _ => ⟨_, rfl, hk, brE (fun _ => ?_) (fun e => absurd rfl e)⟩
  refine at_callb hA (c18 k r w31 (h2.call hA.below)) fun w34 hA hk _ => ⟨_, rfl, hk, ?_⟩
  refine at_callb hA (c19 k r w34 (h2.call hA.below)) fun w37 hA hk _ => ⟨_, rfl, hk, brE (fun _ => ?_) (fun e => absurd rfl e)⟩
  refine at_callb hA (c12 w37 (h1.call hA.below) (h2.call hA.below)) fun w40 hA hk _ => ⟨_, rfl, hk, ?_⟩
  refine at_callb hA (c16 w40 (h1.call hA.below) (h2.call hA.below)) fun w43 hA hk _ => ⟨_, rfl, hk, brE (fun _ => ?_) (fun e => absurd rfl e)⟩
  refine at_calll hA (c20 w43 (h2.call hA.below) (by omega)) (fun _ _ => rfl) fun a47 d47 w46 hA hk hb46 _ s47 => ⟨_, _, _, rfl, hk, ?_⟩
  refine at_callb hA (c16 w46 s47 (h2.call hA.below)) fun w51 hA hk _ => ⟨_, rfl, hk, brB (fun _ => ?_) (fun e => absurd rfl (of_decide_eq_false e))⟩
  exact works hA
end Go.Vc.VD

/- Arguments of the law, read. -/
namespace Go.Vc
open Go Go.RowKit
theorem i64_bounds' {x : Int} (h1 : IntKind.i64.min ≤ x) (h2 : x ≤ IntKind.i64.max) : -9223372036854775808 ≤ x ∧ x ≤ 9223372036854775807 := by
  have e1 : IntKind.i64.min = -9223372036854775808 := by decide
  have e2 : IntKind.i64.max = 9223372036854775807 := by decide
  omega
theorem int_V {w : World} {x : Int} {v : Value} (h : GT.V w (.int .i64) x v) : v = .int .i64 x ∧ (-9223372036854775808 ≤ x ∧ x ≤ 9223372036854775807) := by
  obtain ⟨h, h1, h2⟩ := h
  simp at h
  exact ⟨h, i64_bounds' h1 h2⟩
theorem str_V {w : World} {x : ByteArray} {v : Value} (h : GT.V w .str x v) : v = .string x ∧ x.size ≤ maxLen := by
  obtain ⟨h, h1⟩ := h
  simp at h
  exact ⟨h, h1⟩
theorem ints_V {w : World} {l : List Int} {v : Value} (h : GT.V w (.sl (.int .i64)) l v) : ∃ a n c, v = .slice a n c ∧ SlE w 1 (fun x => [Value.int .i64 x]) l a n c ∧ ∀ x ∈ l, -9223372036854775808 ≤ x ∧ x ≤ 9223372036854775807 := by
  obtain ⟨a, n, c, hv, hs⟩ := h
  simp at hv
  refine ⟨a, n, c, hv, hs.imp fun _ _ h => h.1, fun x hx => ?_⟩
  obtain ⟨cs, hr⟩ := hs.each hx
  exact i64_bounds' hr.2.1 hr.2.2
end Go.Vc

/- The door's table; the arguments of the laws of vectors, read. -/
set_option maxRecDepth 100000
namespace Go.Vc.VD
open Go Go.Vc Go.Vc.V Go.RowKit Go.Proofs Go.Proofs.YtjlgcdgdboiejaaDoor

abbrev laidD : List (String × DataW Unit) := [("manciple/slot.table", Rows.laid_manciple_slot_table)]
theorem gTab : Tryd.prog.globalNamed "manciple/slot.table" = some 1 := by kernel_rfl
theorem tTab : (Tryd.prog.globals[1]?).map (·.type) = some 99 := by kernel_rfl
theorem u46 : Tryd.prog.underlying 99 = some (.array 4 9) := by kernel_rfl
theorem u9 : Tryd.prog.underlying 9 = some .string := by kernel_rfl
theorem ba_of {s t : ByteArray} (h : s.data.toList = t.data.toList) : s = t := by
  cases s; cases t
  simp only at h
  congr 1
  exact Array.ext' h
theorem tab_cells {W : World} {g0 : Nat} {t0 : TypeId} {cs0 : Array Value} {f0 : Nat} {p0 : List MemPlace} (hg0 : Tryd.prog.globalNamed "manciple/slot.table" = some g0) (ht0 : (Tryd.prog.globals[g0]?).map (·.type) = some t0) (hv0 : W.var? Tryd.prog "manciple/slot.table" = some cs0) (hd0 : DataW.trod (fun _ => ()) Tryd.prog W 0 (fun _ => true) false f0 t0 cs0.toList = some (Rows.laid_manciple_slot_table, p0)) : Tab W := by
  obtain rfl := Option.some.inj (gTab.symm.trans hg0)
  obtain rfl := Option.some.inj (tTab.symm.trans ht0)
  obtain ⟨xs, m, rfl, hx, hlen, hn, hel⟩ := DataW.trod_array u46 hd0
  have c9 : Tryd.prog.cellsOf 9 = 1 := by kernel_rfl
  have c46 : Tryd.prog.cellsOf 99 = 4 := by kernel_rfl
  rw [c46] at hlen
  have hel' : ∀ i, i < 4 → ∃ s : ByteArray, cs0[i]? = some (.string s) ∧ (xs.map (·.1))[i]? = some (.lit (.string s.data.toList)) := by
    intro i hi
    have := hel i hi
    rw [c9, Nat.mul_one] at this
    have hxi : xs[i]? = some xs[i] := List.getElem?_eq_getElem (by omega)
    rw [hxi] at this
    obtain ⟨s, e1, e2, _⟩ := DataW.trod_string u9 this
    refine ⟨s, ?_, by rw [List.getElem?_map, hxi, e2]; rfl⟩
    have h2 := congrArg (·[0]?) e1
    simp only [List.getElem?_take, List.getElem?_drop] at h2
    simpa using h2
  have hx' : xs.map (·.1) = [.lit (.string [99, 112, 117, 115]), .lit (.string [109, 101, 109]), .lit (.string [100, 105, 115, 107]), .lit (.string [103, 112, 117, 115])] := by
    have := (Prod.mk.inj hx).1
    simp only [Rows.laid_manciple_slot_table, DataW.agg.injEq] at this
    exact this.symm
  intro j v hv
  have hj : j < 4 := (List.getElem?_eq_some_iff.1 hv).1
  obtain ⟨s, hs, hd⟩ := hel' j hj
  have hcell := World.var?_cell hg0 hv0 j
  rw [addr_add]
  simp only [Nat.zero_add]
  rw [show W.cell? ⟨1, j, none⟩ = some (.string s) by rw [hcell]; exact hs]
  rw [hx'] at hd
  have hc : j = 0 ∨ j = 1 ∨ j = 2 ∨ j = 3 := by omega
  rcases hc with rfl | rfl | rfl | rfl
  all_goals
    simp only [List.getElem?_cons_zero, List.getElem?_cons_succ, Option.some.injEq, DataW.lit.injEq, Lit.string.injEq] at hd
    rw [← hv]
    congr 2
    exact ba_of (by rw [← hd]; rfl)

theorem tab_of {W : World} (h : laidMetH Tryd.prog laidD W) : Tab W := by
  rw [MakeChecks.laidMetH_plain _ _ _ (by kernel_rfl)] at h
  obtain ⟨ps, ⟨g0, t0, cs0, f0, p0, q0, hg0, ht0, hv0, hd0, _, _⟩, _, _⟩ := h
  exact tab_cells hg0 ht0 hv0 hd0

abbrev ptG : GT := .st (.pair (.int .i64) (.pair (.int .i64) (.pair (.int .i64) .unit)))
abbrev PtA := Int × Int × Int × Unit
def ptOf (x : PtA) : PartT := (x.1, x.2.1, x.2.2.1)
theorem row_M {α β : Type} {w : World} {n : Nat} {R : α → List Value → Prop} {R' : β → List Value → Prop} {k : α → β} {l : List α} {a : Option Addr} {len c : Nat} (hs : SlR w n R l a len c) (hR : ∀ x cs, R x cs → R' (k x) cs) : SlR w n R' (l.map k) a len c := by
  refine ⟨by rw [List.length_map]; exact hs.1, hs.2.1, hs.2.2.1, hs.2.2.2.1, fun i y hy => ?_⟩
  rw [List.getElem?_map] at hy
  cases hx : l[i]? with
  | none => rw [hx] at hy; cases hy
  | some x =>
    rw [hx] at hy
    simp only [Option.map_some, Option.some.injEq] at hy
    subst hy
    obtain ⟨ad, cs, ha, hl, hcs, hr⟩ := hs.at_ hx
    exact ⟨ad, cs, ha, hl, hcs, hR _ _ hr⟩
theorem pt_R {w : World} {x : PtA} {cs : List Value} (h : ptG.R w x cs) : cs = partE (ptOf x) := by
  obtain ⟨c1, c2, rfl, ⟨rfl, _, _⟩, c3, c4, rfl, ⟨rfl, _, _⟩, c5, c6, rfl, ⟨rfl, _, _⟩, rfl⟩ := h
  rfl
theorem pts_V {w : World} {l : List PtA} {v : Value} (h : GT.V w (.sl ptG) l v) : ∃ a n c, v = .slice a n c ∧ SlE w 3 partE (l.map ptOf) a n c := by
  obtain ⟨a, n, c, hv, hs⟩ := h
  simp at hv
  exact ⟨a, n, c, hv, row_M hs fun _ _ => pt_R⟩
theorem pts_VI {w : World} {l : List PtA} {v : Value} (h : GT.V w (.sl ptG) l v) : ∃ a n c, v = .slice a n c ∧ SlE w 3 partE (l.map ptOf) a n c ∧ ∀ p ∈ l.map ptOf, I64 p.2.2 := by
  obtain ⟨a, n, c, hv, hs⟩ := h
  simp at hv
  refine ⟨a, n, c, hv, row_M hs fun _ _ => pt_R, fun p hp => ?_⟩
  obtain ⟨x, hx, rfl⟩ := List.mem_map.1 hp
  obtain ⟨cs, c1, c2, _, _, c3, c4, _, _, c5, c6, _, ⟨_, h1, h2⟩, _⟩ := hs.each hx
  exact i64_bounds' h1 h2
abbrev slG : GT := .st (.pair (.int .i64) (.pair (.int .i64) .unit))
abbrev SlA := Int × Int × Unit
theorem sl_V {w : World} {x : SlA} {v : Value} (h : GT.V w slG x v) : v = slotV x.1 x.2.1 := by
  obtain ⟨cs, rfl, c1, c2, rfl, ⟨rfl, _, _⟩, c3, c4, rfl, ⟨rfl, _, _⟩, rfl⟩ := h
  rfl
end Go.Vc.VD

/- The formulas of functions, printed by a program (VcTool.lean): each is what the generator's formula comes to, by the kernel's reckoning; whoever proves one has the function's contract. -/
set_option maxRecDepth 100000
set_option maxHeartbeats 1000000
set_option linter.unusedVariables false
namespace Vcx
open Go Go.Vc Go.RowKit
/-! manciple/vec.Parse -/
def h32 : Hints := ⟨[10], [19], [18, 22, 44, 58, 41], [], [], [(3, ⟨[(4, .sl), (17, .int .i64)], []⟩)], [], [], []⟩
def f32_vc (s : ByteArray) (w : World) (R : Ending → World → Prop) : Prop :=
 Calls Proofs.Tryd.prog 50 #[Value.string s, Value.string (ByteArray.mk #[44])] w fun (e1 : Ending) (w2 : World) =>
 ∃ (a3 : Option Addr),
 ∃ (n4 : Nat),
 ∃ (n5 : Nat),
 e1 = Ending.returned (Value.slice a3 n4 n5) ∧
 ∃ (J6 : (Option Addr × Nat × Nat) × Int × Unit → World → Prop),
 ∃ (J7 : (Option Addr × Nat × Nat) × Int × Unit → World → Nat),
 J6 ((none, 0, 0), 0, ()) w2 ∧
 ∀ (a8 : Option Addr) (n9 n10 : Nat) (x11 : Int) (w12 : World),
 J6 ((a8, n9, n10), x11, ()) w12 →
 (decide (x11 < (↑n4 : Int)) = true →
 ∃ (ad13 : Addr),
 Gives Proofs.Tryd.prog (Instr.indexAt 63 (Value.slice a3 n4 n5) (Value.int IntKind.i64 x11)) (Value.pointer (some ad13)) ∧
 ∃ (s14 : ByteArray),
 Reads Proofs.Tryd.prog [] (Instr.loadAt 9 (Value.pointer (some ad13))) w12 (Value.string s14) ∧
 ((s.toList == (ByteArray.mk #[45]).toList) = true →
 Calls Proofs.Tryd.prog 33 #[Value.slice a8 n9 n10] w12 fun (e15 : Ending) (w16 : World) =>
 ∃ (s17 : ByteArray),
 e15 = Ending.returned (Value.string s17) ∧
 ((!s17.toList == s.toList) = true → R (Ending.returned (Value.tuple #[Value.slice none 0 0, Value.bool false])) w16) ∧
 ((!s17.toList == s.toList) = false → R (Ending.returned (Value.tuple #[Value.slice a8 n9 n10, Value.bool true])) w16)) ∧
 ((s.toList == (ByteArray.mk #[45]).toList) = false →
 Calls Proofs.Tryd.prog 51 #[Value.string s14, Value.string (ByteArray.mk #[58])] w12 fun (e18 : Ending) (w19 : World) =>
 ∃ (s20 : ByteArray),
 ∃ (s21 : ByteArray),
 ∃ (b22 : Bool),
 e18 = Ending.returned (Value.tuple #[Value.string s20, Value.string s21, Value.bool b22]) ∧
 Calls Proofs.Tryd.prog 52 #[Value.string s20] w19 fun (e23 : Ending) (w24 : World) =>
 ∃ (x25 : Int),
 ∃ (x26 : Int),
 ∃ (b27 : Bool),
 e23 = Ending.returned (Value.tuple #[Value.agg #[Value.int IntKind.i64 x25, Value.int IntKind.i64 x26], Value.bool b27]) ∧
 ∀ (n28 : Nat),
 w24.heap.size ≤ n28 →
 ∀ (w29 : World),
 Evo [n28] w24 w29 →
 Under [n28] w29 →
 Calls Proofs.Tryd.prog 53 #[Value.string s21] w29 fun (e30 : Ending) (w31 : World) =>
 ∃ (x32 : Int),
 ∃ (b33 : Bool),
 e30 = Ending.returned (Value.tuple #[Value.int IntKind.i64 x32, Value.bool b33]) ∧
 Keeps [n28] w29 w31 ∧
 ((!b27) = true → R (Ending.returned (Value.tuple #[Value.slice none 0 0, Value.bool false])) w31) ∧
 ((!b27) = false →
 ((!b33) = true → R (Ending.returned (Value.tuple #[Value.slice none 0 0, Value.bool false])) w31) ∧
 ((!b33) = false →
 OpW Proofs.Tryd.prog (valueS (Instr.buildSlice 22 1 #[(0, Value.agg #[Value.int IntKind.i64 x25, Value.int IntKind.i64 x26, Value.int IntKind.i64 x32])]))
 w31 fun (v34 : Value) (w35 : World) =>
 ∃ (a36 : Option Addr),
 ∃ (n37 : Nat),
 ∃ (n38 : Nat),
 v34 = Value.slice a36 n37 n38 ∧
 Keeps [n28] w31 w35 ∧
 OpW Proofs.Tryd.prog (builtin Builtin.append #[22, 22] 22 #[false, false] #[Value.slice a8 n9 n10, Value.slice a36 n37 n38]) w35
 fun (v39 : Value) (w40 : World) =>
 ∃ (a41 : Option Addr),
 ∃ (n42 : Nat),
 ∃ (n43 : Nat),
 v39 = Value.slice a41 n42 n43 ∧
 Keeps [n28] w35 w40 ∧
 J6 ((a41, n42, n43), IntKind.i64.wrap (x11 + 1), ()) w40 ∧
 J7 ((a41, n42, n43), IntKind.i64.wrap (x11 + 1), ()) w40 < J7 ((a8, n9, n10), x11, ()) w12)))) ∧
 (decide (x11 < (↑n4 : Int)) = false →
 Calls Proofs.Tryd.prog 33 #[Value.slice a8 n9 n10] w12 fun (e44 : Ending) (w45 : World) =>
 ∃ (s46 : ByteArray),
 e44 = Ending.returned (Value.string s46) ∧
 ((!s46.toList == s.toList) = true → R (Ending.returned (Value.tuple #[Value.slice none 0 0, Value.bool false])) w45) ∧
 ((!s46.toList == s.toList) = false → R (Ending.returned (Value.tuple #[Value.slice a8 n9 n10, Value.bool true])) w45))
theorem f32_eq (s : ByteArray) (w : World) (R : Ending → World → Prop) : (fnF Go.Proofs.Tryd.prog h32 Go.Proofs.Tryd.f32 [Value.string s] w R).den = f32_vc s w R := by kernel_rfl
theorem f32_calls (s : ByteArray) (w : World) (R : Ending → World → Prop) (h : f32_vc s w R) : Calls Go.Proofs.Tryd.prog 32 (List.toArray [Value.string s]) w R :=
 fn_sound (H := h32) (fn := Go.Proofs.Tryd.f32) (by kernel_rfl) (by kernel_rfl) (by kernel_rfl) ((f32_eq s w R).mpr h)


/-! manciple/mancipleref05.Text -/
def h34 : Hints := ⟨[], [17, 21, 25, 26, 29, 33], [7, 11, 15, 35], [(9, [0, 1, 2, 3, 4, 9, 10, 11, 12, 13, 5, 6, 7, 8, 14, 15, 16])], [], [(5, ⟨[(3, .str), (4, .int .i64)], []⟩)], [], [], []⟩
def f34_vc (va : Option Addr) (vn : Nat) (vc : Nat) (w : World) (R : Ending → World → Prop) : Prop :=
 Calls Proofs.Tryd.prog 17 #[Value.slice va vn vc] w fun (e1 : Ending) (w2 : World) =>
 ∃ (b3 : Bool),
 e1 = Ending.returned (Value.bool b3) ∧
 ((!b3) = true → R (Ending.returned (Value.string (ByteArray.mk #[]))) w2) ∧
 ((!b3) = false →
 ∃ (J4 : ByteArray × Int × Unit → World → Prop),
 ∃ (J5 : ByteArray × Int × Unit → World → Nat),
 J4 (ByteArray.mk #[], 0, ()) w2 ∧
 ∀ (s6 : ByteArray) (x7 : Int) (w8 : World),
 J4 (s6, x7, ()) w8 →
 (decide (x7 < (↑vn : Int)) = true →
 (decide (x7 > 0) = true →
 ∃ (s9 : ByteArray),
 Gives Proofs.Tryd.prog (binOpS BinOp.add 9 (Operand.tmp 16) (Operand.const (Value.string (ByteArray.mk #[44]))) (Value.string s6) (Value.string (ByteArray.mk #[44]))) (Value.string s9) ∧
 ∃ (ad10 : Addr),
 Gives Proofs.Tryd.prog (Instr.indexAt 22 (Value.slice va vn vc) (Value.int IntKind.i64 x7)) (Value.pointer (some ad10)) ∧
 ∃ (x11 : Int),
 ∃ (x12 : Int),
 ∃ (x13 : Int),
 Reads Proofs.Tryd.prog [] (Instr.loadAt 46 (Value.pointer (some ad10))) w8 (Value.agg #[Value.int IntKind.i64 x11, Value.int IntKind.i64 x12, Value.int IntKind.i64 x13]) ∧
 ∃ (ad14 : Addr),
 Gives Proofs.Tryd.prog (Instr.indexAt 22 (Value.slice va vn vc) (Value.int IntKind.i64 x7)) (Value.pointer (some ad14)) ∧
 ∃ (x15 : Int),
 Reads Proofs.Tryd.prog [] (Instr.loadAt 2 (Value.pointer (some (Addr.mk ad14.block (ad14.off + 2) none)))) w8 (Value.int IntKind.i64 x15) ∧
 ∀ (w16 : World),
 Bel w8 w16 →
 Calls Proofs.Tryd.prog 43 #[Value.agg #[Value.int IntKind.i64 x11, Value.int IntKind.i64 x12, Value.int IntKind.i64 x13]] w16 fun (e17 : Ending) (w18 : World) =>
 ∃ (x19 : Int),
 ∃ (x20 : Int),
 e17 = Ending.returned (Value.agg #[Value.int IntKind.i64 x19, Value.int IntKind.i64 x20]) ∧
 Reads Proofs.Tryd.prog [] (Instr.loadAt 2 (Value.pointer (some (Addr.mk ad14.block (ad14.off + 2) none)))) w18 (Value.int IntKind.i64 x15) ∧
 Calls Proofs.Tryd.prog 57 #[Value.agg #[Value.int IntKind.i64 x19, Value.int IntKind.i64 x20]] w18 fun (e21 : Ending) (w22 : World) =>
 ∃ (s23 : ByteArray),
 e21 = Ending.returned (Value.string s23) ∧
 Reads Proofs.Tryd.prog [] (Instr.loadAt 2 (Value.pointer (some (Addr.mk ad14.block (ad14.off + 2) none)))) w22 (Value.int IntKind.i64 x15) ∧
 ∃ (s24 : ByteArray),
 Gives Proofs.Tryd.prog (binOpS BinOp.add 9 (Operand.tmp 18) (Operand.tmp 24) (Value.string s9) (Value.string s23)) (Value.string s24) ∧
 ∃ (s25 : ByteArray),
 Gives Proofs.Tryd.prog
 (binOpS BinOp.add 9 (Operand.tmp 25) (Operand.const (Value.string (ByteArray.mk #[58]))) (Value.string s24) (Value.string (ByteArray.mk #[58])))
 (Value.string s25) ∧
 Calls Proofs.Tryd.prog 58 #[Value.int IntKind.i64 x15] w22 fun (e26 : Ending) (w27 : World) =>
 ∃ (s28 : ByteArray),
 e26 = Ending.returned (Value.string s28) ∧
 ∃ (s29 : ByteArray),
 Gives Proofs.Tryd.prog (binOpS BinOp.add 9 (Operand.tmp 26) (Operand.tmp 32) (Value.string s25) (Value.string s28)) (Value.string s29) ∧
 J4 (s29, IntKind.i64.wrap (x7 + 1), ()) w27 ∧ J5 (s29, IntKind.i64.wrap (x7 + 1), ()) w27 < J5 (s6, x7, ()) w8) ∧
 (decide (x7 > 0) = false →
 ∃ (ad30 : Addr),
 Gives Proofs.Tryd.prog (Instr.indexAt 22 (Value.slice va vn vc) (Value.int IntKind.i64 x7)) (Value.pointer (some ad30)) ∧
 ∃ (x31 : Int),
 ∃ (x32 : Int),
 ∃ (x33 : Int),
 Reads Proofs.Tryd.prog [] (Instr.loadAt 46 (Value.pointer (some ad30))) w8 (Value.agg #[Value.int IntKind.i64 x31, Value.int IntKind.i64 x32, Value.int IntKind.i64 x33]) ∧
 ∃ (ad34 : Addr),
 Gives Proofs.Tryd.prog (Instr.indexAt 22 (Value.slice va vn vc) (Value.int IntKind.i64 x7)) (Value.pointer (some ad34)) ∧
 ∃ (x35 : Int),
 Reads Proofs.Tryd.prog [] (Instr.loadAt 2 (Value.pointer (some (Addr.mk ad34.block (ad34.off + 2) none)))) w8 (Value.int IntKind.i64 x35) ∧
 ∀ (w36 : World),
 Bel w8 w36 →
 Calls Proofs.Tryd.prog 43 #[Value.agg #[Value.int IntKind.i64 x31, Value.int IntKind.i64 x32, Value.int IntKind.i64 x33]] w36 fun (e37 : Ending) (w38 : World) =>
 ∃ (x39 : Int),
 ∃ (x40 : Int),
 e37 = Ending.returned (Value.agg #[Value.int IntKind.i64 x39, Value.int IntKind.i64 x40]) ∧
 Reads Proofs.Tryd.prog [] (Instr.loadAt 2 (Value.pointer (some (Addr.mk ad34.block (ad34.off + 2) none)))) w38 (Value.int IntKind.i64 x35) ∧
 Calls Proofs.Tryd.prog 57 #[Value.agg #[Value.int IntKind.i64 x39, Value.int IntKind.i64 x40]] w38 fun (e41 : Ending) (w42 : World) =>
 ∃ (s43 : ByteArray),
 e41 = Ending.returned (Value.string s43) ∧
 Reads Proofs.Tryd.prog [] (Instr.loadAt 2 (Value.pointer (some (Addr.mk ad34.block (ad34.off + 2) none)))) w42 (Value.int IntKind.i64 x35) ∧
 ∃ (s44 : ByteArray),
 Gives Proofs.Tryd.prog (binOpS BinOp.add 9 (Operand.tmp 18) (Operand.tmp 24) (Value.string s6) (Value.string s43)) (Value.string s44) ∧
 ∃ (s45 : ByteArray),
 Gives Proofs.Tryd.prog
 (binOpS BinOp.add 9 (Operand.tmp 25) (Operand.const (Value.string (ByteArray.mk #[58]))) (Value.string s44) (Value.string (ByteArray.mk #[58])))
 (Value.string s45) ∧
 Calls Proofs.Tryd.prog 58 #[Value.int IntKind.i64 x35] w42 fun (e46 : Ending) (w47 : World) =>
 ∃ (s48 : ByteArray),
 e46 = Ending.returned (Value.string s48) ∧
 ∃ (s49 : ByteArray),
 Gives Proofs.Tryd.prog (binOpS BinOp.add 9 (Operand.tmp 26) (Operand.tmp 32) (Value.string s45) (Value.string s48)) (Value.string s49) ∧
 J4 (s49, IntKind.i64.wrap (x7 + 1), ()) w47 ∧ J5 (s49, IntKind.i64.wrap (x7 + 1), ()) w47 < J5 (s6, x7, ()) w8)) ∧
 (decide (x7 < (↑vn : Int)) = false →
 ((s6.toList == (ByteArray.mk #[]).toList) = true → R (Ending.returned (Value.string (ByteArray.mk #[45]))) w8) ∧ ((s6.toList == (ByteArray.mk #[]).toList) = false → R (Ending.returned (Value.string s6)) w8)))
theorem f34_eq (va : Option Addr) (vn : Nat) (vc : Nat) (w : World) (R : Ending → World → Prop) : (fnF Go.Proofs.Tryd.prog h34 Go.Proofs.Tryd.f34 [Value.slice va vn vc] w R).den = f34_vc va vn vc w R := by kernel_rfl
theorem f34_calls (va : Option Addr) (vn : Nat) (vc : Nat) (w : World) (R : Ending → World → Prop) (h : f34_vc va vn vc w R) : Calls Go.Proofs.Tryd.prog 34 (List.toArray [Value.slice va vn vc]) w R :=
 fn_sound (H := h34) (fn := Go.Proofs.Tryd.f34) (by kernel_rfl) (by kernel_rfl) (by kernel_rfl) ((f34_eq va vn vc w R).mpr h)


/-! strings.Cut -/
def h51 : Hints := ⟨[], [], [], [], [], [], [], [], []⟩
def f51_vc (s : ByteArray) (sep : ByteArray) (w : World) (R : Ending → World → Prop) : Prop :=
 Calls Proofs.Tryd.prog 64 #[Value.string s, Value.string sep] w fun (e1 : Ending) (w2 : World) =>
 ∃ (s3 : ByteArray), ∃ (s4 : ByteArray), ∃ (b5 : Bool), e1 = Ending.returned (Value.tuple #[Value.string s3, Value.string s4, Value.bool b5]) ∧ R (Ending.returned (Value.tuple #[Value.string s3, Value.string s4, Value.bool b5])) w2
theorem f51_eq (s : ByteArray) (sep : ByteArray) (w : World) (R : Ending → World → Prop) : (fnF Go.Proofs.Tryd.prog h51 Go.Proofs.Tryd.f51 [Value.string s, Value.string sep] w R).den = f51_vc s sep w R := by kernel_rfl
theorem f51_calls (s : ByteArray) (sep : ByteArray) (w : World) (R : Ending → World → Prop) (h : f51_vc s sep w R) : Calls Go.Proofs.Tryd.prog 51 (List.toArray [Value.string s, Value.string sep]) w R :=
 fn_sound (H := h51) (fn := Go.Proofs.Tryd.f51) (by kernel_rfl) (by kernel_rfl) (by kernel_rfl) ((f51_eq s sep w R).mpr h)


/-! manciple/slot.Parse -/
def h52 : Hints := ⟨[2, 9], [33], [24, 32, 45, 58, 37, 41], [], [], [(7, ⟨[(31, .int .i64)], [(9, .cons (.int .i64) (.cons (.int .i64) (.nil)))]⟩)], [], [], []⟩
def f52_vc (s : ByteArray) (w : World) (R : Ending → World → Prop) : Prop :=
 ∀ (n1 : Nat),
 w.heap.size ≤ n1 →
 ∀ (w2 : World),
 Bel w w2 →
 Under [n1] w2 →
 Calls Proofs.Tryd.prog 51 #[Value.string s, Value.string (ByteArray.mk #[40])] w2 fun (e3 : Ending) (w4 : World) =>
 ∃ (s5 : ByteArray),
 ∃ (s6 : ByteArray),
 ∃ (b7 : Bool),
 e3 = Ending.returned (Value.tuple #[Value.string s5, Value.string s6, Value.bool b7]) ∧
 Keeps [n1] w2 w4 ∧
 Calls Proofs.Tryd.prog 65 #[Value.string s5] w4 fun (e8 : Ending) (w9 : World) =>
 ∃ (x10 : Int),
 ∃ (b11 : Bool),
 e8 = Ending.returned (Value.tuple #[Value.int IntKind.i64 x10, Value.bool b11]) ∧
 Keeps [n1] w4 w9 ∧
 ((!b11) = true → ∀ (w12 : World), Evo [n1] w9 w12 → Under [n1] w12 → R (Ending.returned (Value.tuple #[Value.agg #[Value.int IntKind.i64 0, Value.int IntKind.i64 0], Value.bool false])) w12) ∧
 ((!b11) = false →
 ∀ (n13 : Nat),
 w9.heap.size ≤ n13 →
 ∀ (w14 : World),
 Evo [n13] w9 w14 →
 Under [n1, n13] w14 →
 OpW Proofs.Tryd.prog (valueS (convert 9 80 (Value.string s6))) w14 fun (v15 : Value) (w16 : World) =>
 ∃ (a17 : Option Addr),
 ∃ (n18 : Nat),
 ∃ (n19 : Nat),
 v15 = Value.slice a17 n18 n19 ∧
 Keeps [n1, n13] w14 w16 ∧
 ∃ (J20 : Int × Int × Int × Unit → World → Prop),
 ∃ (J21 : Int × Int × Int × Unit → World → Nat),
 J20 (0, x10, 0, ()) w16 ∧
 ∀ (x22 x23 x24 : Int) (w25 : World),
 J20 (x22, x23, x24, ()) w25 →
 (decide (x22 < (↑n18 : Int)) = true →
 ∃ (ad26 : Addr),
 Gives Proofs.Tryd.prog (Instr.indexAt 80 (Value.slice a17 n18 n19) (Value.int IntKind.i64 x22)) (Value.pointer (some ad26)) ∧
 ∃ (x27 : Int),
 Reads Proofs.Tryd.prog [] (Instr.loadAt 5 (Value.pointer (some ad26))) w25 (Value.int IntKind.u8 x27) ∧
 (decide (x27 ≥ 48) = true →
 (decide (x27 ≤ 57) = true →
 (decide (x24 ≤ 32) = true →
 ∀ (w28 : World),
 Evo [n13] w25 w28 →
 Under [n1, n13] w28 →
 J20 (IntKind.i64.wrap (x22 + 1), x23, IntKind.i64.wrap (IntKind.i64.wrap (x24 * 10) + IntKind.i64.wrap (IntKind.u8.wrap (x27 - 48))), ())
 w28 ∧
 J21 (IntKind.i64.wrap (x22 + 1), x23, IntKind.i64.wrap (IntKind.i64.wrap (x24 * 10) + IntKind.i64.wrap (IntKind.u8.wrap (x27 - 48))), ())
 w28 <
 J21 (x22, x23, x24, ()) w25) ∧
 (decide (x24 ≤ 32) = false →
 J20 (IntKind.i64.wrap (x22 + 1), x23, x24, ()) w25 ∧ J21 (IntKind.i64.wrap (x22 + 1), x23, x24, ()) w25 < J21 (x22, x23, x24, ()) w25)) ∧
 (decide (x27 ≤ 57) = false →
 J20 (IntKind.i64.wrap (x22 + 1), x23, x24, ()) w25 ∧ J21 (IntKind.i64.wrap (x22 + 1), x23, x24, ()) w25 < J21 (x22, x23, x24, ()) w25)) ∧
 (decide (x27 ≥ 48) = false →
 J20 (IntKind.i64.wrap (x22 + 1), x23, x24, ()) w25 ∧ J21 (IntKind.i64.wrap (x22 + 1), x23, x24, ()) w25 < J21 (x22, x23, x24, ()) w25)) ∧
 (decide (x22 < (↑n18 : Int)) = false →
 Calls Proofs.Tryd.prog 54 #[Value.agg #[Value.int IntKind.i64 x23, Value.int IntKind.i64 x24]] w25 fun (e29 : Ending) (w30 : World) =>
 ∃ (s31 : ByteArray),
 e29 = Ending.returned (Value.string s31) ∧
 Keeps [n1, n13] w25 w30 ∧
 ((!s31.toList == s.toList) = true →
 ∀ (w32 : World),
 Evo [n1] w30 w32 →
 Under [n1, n13] w32 → R (Ending.returned (Value.tuple #[Value.agg #[Value.int IntKind.i64 0, Value.int IntKind.i64 0], Value.bool false])) w32) ∧
 ((!s31.toList == s.toList) = false →
 ∀ (w33 : World),
 Evo [n1] w30 w33 →
 Under [n1, n13] w33 → R (Ending.returned (Value.tuple #[Value.agg #[Value.int IntKind.i64 x23, Value.int IntKind.i64 x24], Value.bool true])) w33)))
theorem f52_eq (s : ByteArray) (w : World) (R : Ending → World → Prop) : (fnF Go.Proofs.Tryd.prog h52 Go.Proofs.Tryd.f52 [Value.string s] w R).den = f52_vc s w R := by kernel_rfl
theorem f52_calls (s : ByteArray) (w : World) (R : Ending → World → Prop) (h : f52_vc s w R) : Calls Go.Proofs.Tryd.prog 52 (List.toArray [Value.string s]) w R :=
 fn_sound (H := h52) (fn := Go.Proofs.Tryd.f52) (by kernel_rfl) (by kernel_rfl) (by kernel_rfl) ((f52_eq s w R).mpr h)


/-! manciple/quant.Parse -/
def h53 : Hints := ⟨[], [], [14, 21, 41, 43, 57, 17, 24, 28, 52], [], [], [(3, ⟨[(4, .int .i64), (5, .int .i64)], []⟩)], [], [(11, .cons (.int .i64) (.cons (.int .i32) (.nil)))], []⟩
def f53_vc (s : ByteArray) (w : World) (R : Ending → World → Prop) : Prop :=
 OpW Proofs.Tryd.prog (valueS (Instr.range 9 (Value.string s))) w fun (v1 : Value) (w2 : World) =>
 ∃ (ad3 : Addr),
 v1 = Value.pointer (some ad3) ∧
 ∃ (J4 : Int × Int × Unit → World → Prop),
 ∃ (J5 : Int × Int × Unit → World → Nat),
 J4 (0, 0, ()) w2 ∧
 ∀ (x6 x7 : Int) (w8 : World),
 J4 (x6, x7, ()) w8 →
 OpW Proofs.Tryd.prog (valueS (Instr.next (Value.pointer (some ad3)) true 0)) w8 fun (v9 : Value) (w10 : World) =>
 (v9 = Value.tuple #[Value.bool false] ∨
 ∃ (x :
 (nextShape (Hints.mk [] [] [14, 21, 41, 43, 57, 17, 24, 28, 52] [] [] [(3, LH.mk [(4, Sh.int IntKind.i64), (5, Sh.int IntKind.i64)] [])] [] [(11, (Sh.int IntKind.i64).cons ((Sh.int IntKind.i32).cons Sh.nil))] [])
 #[Oper.mk (some 11) (Op.next (Operand.tmp 10) true) 0 "quant.go:76" #[] none, Oper.mk (some 12) (Op.extract (Operand.tmp 11) 0) 4 "quant.go:76" #[Edge.mk 0 Ground.data] none][0]).T),
 v9 = Value.tuple #[Value.bool true, Value.int IntKind.i64 x.fst, Value.int IntKind.i32 x.snd.fst]) ∧
 (v9 = Value.tuple #[Value.bool false] →
 ((x7 == 0) = true →
 Calls Proofs.Tryd.prog 66 #[Value.int IntKind.i64 x6, Value.int IntKind.i64 1000, Value.int IntKind.i64 9007199254740992] w10 fun (e11 : Ending) (w12 : World) =>
 ∃ (x13 : Int),
 ∃ (b14 : Bool),
 e11 = Ending.returned (Value.tuple #[Value.int IntKind.i64 x13, Value.bool b14]) ∧
 ((!b14) = true → R (Ending.returned (Value.tuple #[Value.int IntKind.i64 0, Value.bool false])) w12) ∧
 ((!b14) = false →
 Calls Proofs.Tryd.prog 55 #[Value.int IntKind.i64 x13] w12 fun (e15 : Ending) (w16 : World) =>
 ∃ (s17 : ByteArray),
 e15 = Ending.returned (Value.string s17) ∧
 ((!s17.toList == s.toList) = true → R (Ending.returned (Value.tuple #[Value.int IntKind.i64 0, Value.bool false])) w16) ∧
 ((!s17.toList == s.toList) = false → R (Ending.returned (Value.tuple #[Value.int IntKind.i64 x13, Value.bool true])) w16))) ∧
 ((x7 == 0) = false →
 Calls Proofs.Tryd.prog 66 #[Value.int IntKind.i64 x6, Value.int IntKind.i64 x7, Value.int IntKind.i64 9007199254740992] w10 fun (e18 : Ending) (w19 : World) =>
 ∃ (x20 : Int),
 ∃ (b21 : Bool),
 e18 = Ending.returned (Value.tuple #[Value.int IntKind.i64 x20, Value.bool b21]) ∧
 ((!b21) = true → R (Ending.returned (Value.tuple #[Value.int IntKind.i64 0, Value.bool false])) w19) ∧
 ((!b21) = false →
 Calls Proofs.Tryd.prog 55 #[Value.int IntKind.i64 x20] w19 fun (e22 : Ending) (w23 : World) =>
 ∃ (s24 : ByteArray),
 e22 = Ending.returned (Value.string s24) ∧
 ((!s24.toList == s.toList) = true → R (Ending.returned (Value.tuple #[Value.int IntKind.i64 0, Value.bool false])) w23) ∧
 ((!s24.toList == s.toList) = false → R (Ending.returned (Value.tuple #[Value.int IntKind.i64 x20, Value.bool true])) w23)))) ∧
 ∀ (x25 x26 : Int),
 v9 = Value.tuple #[Value.bool true, Value.int IntKind.i64 x25, Value.int IntKind.i32 x26] →
 ((x26 == 46) = true →
 ((x7 == 0) = true → J4 (x6, 1000, ()) w10 ∧ J5 (x6, 1000, ()) w10 < J5 (x6, x7, ()) w8) ∧
 ((x7 == 0) = false →
 (decide (x26 < 48) = true → R (Ending.returned (Value.tuple #[Value.int IntKind.i64 0, Value.bool false])) w10) ∧
 (decide (x26 < 48) = false →
 (decide (x26 > 57) = true → R (Ending.returned (Value.tuple #[Value.int IntKind.i64 0, Value.bool false])) w10) ∧
 (decide (x26 > 57) = false →
 ((x7 == 1) = true → R (Ending.returned (Value.tuple #[Value.int IntKind.i64 0, Value.bool false])) w10) ∧
 ((x7 == 1) = false →
 (decide (IntKind.i64.wrap (IntKind.i64.wrap (x6 * 10) + IntKind.i64.wrap (IntKind.i32.wrap (x26 - 48))) > 9007199254740992) = true →
 R (Ending.returned (Value.tuple #[Value.int IntKind.i64 0, Value.bool false])) w10) ∧
 (decide (IntKind.i64.wrap (IntKind.i64.wrap (x6 * 10) + IntKind.i64.wrap (IntKind.i32.wrap (x26 - 48))) > 9007199254740992) = false →
 J4 (IntKind.i64.wrap (IntKind.i64.wrap (x6 * 10) + IntKind.i64.wrap (IntKind.i32.wrap (x26 - 48))), IntKind.i64.wrap (x7.tdiv 10), ()) w10 ∧
 J5 (IntKind.i64.wrap (IntKind.i64.wrap (x6 * 10) + IntKind.i64.wrap (IntKind.i32.wrap (x26 - 48))), IntKind.i64.wrap (x7.tdiv 10), ()) w10 < J5 (x6, x7, ()) w8)))))) ∧
 ((x26 == 46) = false →
 (decide (x26 < 48) = true → R (Ending.returned (Value.tuple #[Value.int IntKind.i64 0, Value.bool false])) w10) ∧
 (decide (x26 < 48) = false →
 (decide (x26 > 57) = true → R (Ending.returned (Value.tuple #[Value.int IntKind.i64 0, Value.bool false])) w10) ∧
 (decide (x26 > 57) = false →
 ((x7 == 1) = true → R (Ending.returned (Value.tuple #[Value.int IntKind.i64 0, Value.bool false])) w10) ∧
 ((x7 == 1) = false →
 (decide (IntKind.i64.wrap (IntKind.i64.wrap (x6 * 10) + IntKind.i64.wrap (IntKind.i32.wrap (x26 - 48))) > 9007199254740992) = true →
 R (Ending.returned (Value.tuple #[Value.int IntKind.i64 0, Value.bool false])) w10) ∧
 (decide (IntKind.i64.wrap (IntKind.i64.wrap (x6 * 10) + IntKind.i64.wrap (IntKind.i32.wrap (x26 - 48))) > 9007199254740992) = false →
 J4 (IntKind.i64.wrap (IntKind.i64.wrap (x6 * 10) + IntKind.i64.wrap (IntKind.i32.wrap (x26 - 48))), IntKind.i64.wrap (x7.tdiv 10), ()) w10 ∧
 J5 (IntKind.i64.wrap (IntKind.i64.wrap (x6 * 10) + IntKind.i64.wrap (IntKind.i32.wrap (x26 - 48))), IntKind.i64.wrap (x7.tdiv 10), ()) w10 < J5 (x6, x7, ()) w8)))))
theorem f53_eq (s : ByteArray) (w : World) (R : Ending → World → Prop) : (fnF Go.Proofs.Tryd.prog h53 Go.Proofs.Tryd.f53 [Value.string s] w R).den = f53_vc s w R := by kernel_rfl
theorem f53_calls (s : ByteArray) (w : World) (R : Ending → World → Prop) (h : f53_vc s w R) : Calls Go.Proofs.Tryd.prog 53 (List.toArray [Value.string s]) w R :=
 fn_sound (H := h53) (fn := Go.Proofs.Tryd.f53) (by kernel_rfl) (by kernel_rfl) (by kernel_rfl) ((f53_eq s w R).mpr h)


/-! manciple/mancipleref04.Text -/
def h57 : Hints := ⟨[1], [10, 20, 27, 28, 30, 43, 44], [6, 14, 18], [(3, [1, 2, 0, 3, 4, 5])], [], [], [], [], []⟩
def f57_vc (s_0 : Int) (s_1 : Int) (w : World) (R : Ending → World → Prop) : Prop :=
 ∀ (n1 : Nat),
 w.heap.size ≤ n1 →
 ∀ (w2 : World),
 Bel w w2 →
 Under [n1] w2 →
 Calls Proofs.Tryd.prog 42 #[Value.agg #[Value.int IntKind.i64 s_0, Value.int IntKind.i64 s_1]] w2 fun (e3 : Ending) (w4 : World) =>
 ∃ (b5 : Bool),
 e3 = Ending.returned (Value.bool b5) ∧
 Keeps [n1] w2 w4 ∧
 ((!b5) = true → R (Ending.returned (Value.string (ByteArray.mk #[]))) w4) ∧
 ((!b5) = false →
 ∀ (w6 : World),
 Bel w4 w6 →
 Under [n1] w6 →
 Calls Proofs.Tryd.prog 73 #[] w6 fun (e7 : Ending) (w8 : World) =>
 ∃ (a9 : Option Addr),
 ∃ (n10 : Nat),
 ∃ (n11 : Nat),
 e7 = Ending.returned (Value.slice a9 n10 n11) ∧
 Keeps [n1] w6 w8 ∧
 ∃ (ad12 : Addr),
 Gives Proofs.Tryd.prog (Instr.indexAt 63 (Value.slice a9 n10 n11) (Value.int IntKind.i64 s_0)) (Value.pointer (some ad12)) ∧
 ∃ (s13 : ByteArray),
 Reads Proofs.Tryd.prog [] (Instr.loadAt 9 (Value.pointer (some ad12))) w8 (Value.string s13) ∧
 ((s_1 == 0) = true → R (Ending.returned (Value.string s13)) w8) ∧
 ((s_1 == 0) = false →
 (decide (s_1 < 10) = true →
 ∃ (s14 : ByteArray),
 Gives Proofs.Tryd.prog (binOpS BinOp.add 9 (Operand.tmp 19) (Operand.const (Value.string (ByteArray.mk #[40]))) (Value.string s13) (Value.string (ByteArray.mk #[40])))
 (Value.string s14) ∧
 OpW Proofs.Tryd.prog (valueS (Instr.buildSlice 80 1 #[(0, Value.int IntKind.u8 (IntKind.u8.wrap (IntKind.i64.wrap (48 + s_1))))])) w8 fun (v15 : Value) (w16 : World) =>
 ∃ (a17 : Option Addr),
 ∃ (n18 : Nat),
 ∃ (n19 : Nat),
 v15 = Value.slice a17 n18 n19 ∧
 Keeps [n1] w8 w16 ∧
 OpW Proofs.Tryd.prog (valueS (convert 80 9 (Value.slice a17 n18 n19))) w16 fun (v20 : Value) (w21 : World) =>
 ∃ (s22 : ByteArray),
 v20 = Value.string s22 ∧
 Keeps [n1] w16 w21 ∧
 ∃ (s23 : ByteArray),
 Gives Proofs.Tryd.prog (binOpS BinOp.add 9 (Operand.tmp 20) (Operand.tmp 26) (Value.string s14) (Value.string s22)) (Value.string s23) ∧
 ∃ (s24 : ByteArray),
 Gives Proofs.Tryd.prog
 (binOpS BinOp.add 9 (Operand.tmp 27) (Operand.const (Value.string (ByteArray.mk #[41]))) (Value.string s23) (Value.string (ByteArray.mk #[41])))
 (Value.string s24) ∧
 R (Ending.returned (Value.string s24)) w21) ∧
 (decide (s_1 < 10) = false →
 ∃ (s25 : ByteArray),
 Gives Proofs.Tryd.prog (binOpS BinOp.add 9 (Operand.tmp 29) (Operand.const (Value.string (ByteArray.mk #[40]))) (Value.string s13) (Value.string (ByteArray.mk #[40])))
 (Value.string s25) ∧
 OpW Proofs.Tryd.prog
 (valueS
 (Instr.buildSlice 80 2
 #[(0, Value.int IntKind.u8 (IntKind.u8.wrap (IntKind.i64.wrap (48 + IntKind.i64.wrap (s_1.tdiv 10))))),
 (1, Value.int IntKind.u8 (IntKind.u8.wrap (IntKind.i64.wrap (48 + s_1.tmod 10))))]))
 w8 fun (v26 : Value) (w27 : World) =>
 ∃ (a28 : Option Addr),
 ∃ (n29 : Nat),
 ∃ (n30 : Nat),
 v26 = Value.slice a28 n29 n30 ∧
 Keeps [n1] w8 w27 ∧
 OpW Proofs.Tryd.prog (valueS (convert 80 9 (Value.slice a28 n29 n30))) w27 fun (v31 : Value) (w32 : World) =>
 ∃ (s33 : ByteArray),
 v31 = Value.string s33 ∧
 Keeps [n1] w27 w32 ∧
 ∃ (s34 : ByteArray),
 Gives Proofs.Tryd.prog (binOpS BinOp.add 9 (Operand.tmp 30) (Operand.tmp 42) (Value.string s25) (Value.string s33)) (Value.string s34) ∧
 ∃ (s35 : ByteArray),
 Gives Proofs.Tryd.prog
 (binOpS BinOp.add 9 (Operand.tmp 43) (Operand.const (Value.string (ByteArray.mk #[41]))) (Value.string s34) (Value.string (ByteArray.mk #[41])))
 (Value.string s35) ∧
 R (Ending.returned (Value.string s35)) w32)))
theorem f57_eq (s_0 : Int) (s_1 : Int) (w : World) (R : Ending → World → Prop) : (fnF Go.Proofs.Tryd.prog h57 Go.Proofs.Tryd.f57 [Value.agg #[Value.int IntKind.i64 s_0, Value.int IntKind.i64 s_1]] w R).den = f57_vc s_0 s_1 w R := by kernel_rfl
theorem f57_calls (s_0 : Int) (s_1 : Int) (w : World) (R : Ending → World → Prop) (h : f57_vc s_0 s_1 w R) : Calls Go.Proofs.Tryd.prog 57 (List.toArray [Value.agg #[Value.int IntKind.i64 s_0, Value.int IntKind.i64 s_1]]) w R :=
 fn_sound (H := h57) (fn := Go.Proofs.Tryd.f57) (by kernel_rfl) (by kernel_rfl) (by kernel_rfl) ((f57_eq s_0 s_1 w R).mpr h)


/-! manciple/mancipleref03.Text -/
def h58 : Hints := ⟨[], [21, 29, 31, 34], [11, 18, 23, 8], [], [], [(9, ⟨[(3, .str), (4, .int .i64), (5, .int .i64)], []⟩)], [], [], []⟩
def f58_vc (n : Int) (w : World) (R : Ending → World → Prop) : Prop :=
 (decide (n < 0) = true → R (Ending.returned (Value.string (ByteArray.mk #[]))) w) ∧
 (decide (n < 0) = false →
 (decide (n > 9007199254740992) = true → R (Ending.returned (Value.string (ByteArray.mk #[]))) w) ∧
 (decide (n > 9007199254740992) = false →
 Calls Proofs.Tryd.prog 74 #[Value.int IntKind.i64 (IntKind.i64.wrap (n.tdiv 1000))] w fun (e1 : Ending) (w2 : World) =>
 ∃ (s3 : ByteArray),
 e1 = Ending.returned (Value.string s3) ∧
 ((n.tmod 1000 == 0) = true → R (Ending.returned (Value.string s3)) w2) ∧
 ((n.tmod 1000 == 0) = false →
 ∃ (s4 : ByteArray),
 Gives Proofs.Tryd.prog (binOpS BinOp.add 9 (Operand.tmp 20) (Operand.const (Value.string (ByteArray.mk #[46]))) (Value.string s3) (Value.string (ByteArray.mk #[46]))) (Value.string s4) ∧
 ∃ (J5 : ByteArray × Int × Int × Unit → World → Prop),
 ∃ (J6 : ByteArray × Int × Int × Unit → World → Nat),
 J5 (s4, n.tmod 1000, 100, ()) w2 ∧
 ∀ (s7 : ByteArray) (x8 x9 : Int) (w10 : World),
 J5 (s7, x8, x9, ()) w10 →
 (decide (x8 > 0) = true →
 ∃ (x11 : Int),
 Gives Proofs.Tryd.prog (binOpS BinOp.quo 2 (Operand.tmp 27) (Operand.tmp 28) (Value.int IntKind.i64 x8) (Value.int IntKind.i64 x9)) (Value.int IntKind.i64 x11) ∧
 Calls Proofs.Tryd.prog 74 #[Value.int IntKind.i64 x11] w10 fun (e12 : Ending) (w13 : World) =>
 ∃ (s14 : ByteArray),
 e12 = Ending.returned (Value.string s14) ∧
 ∃ (s15 : ByteArray),
 Gives Proofs.Tryd.prog (binOpS BinOp.add 9 (Operand.tmp 26) (Operand.tmp 30) (Value.string s7) (Value.string s14)) (Value.string s15) ∧
 ∃ (x16 : Int),
 Gives Proofs.Tryd.prog (binOpS BinOp.rem 2 (Operand.tmp 32) (Operand.tmp 33) (Value.int IntKind.i64 x8) (Value.int IntKind.i64 x9)) (Value.int IntKind.i64 x16) ∧
 J5 (s15, x16, IntKind.i64.wrap (x9.tdiv 10), ()) w13 ∧ J6 (s15, x16, IntKind.i64.wrap (x9.tdiv 10), ()) w13 < J6 (s7, x8, x9, ()) w10) ∧
 (decide (x8 > 0) = false → R (Ending.returned (Value.string s7)) w10))))
theorem f58_eq (n : Int) (w : World) (R : Ending → World → Prop) : (fnF Go.Proofs.Tryd.prog h58 Go.Proofs.Tryd.f58 [Value.int IntKind.i64 n] w R).den = f58_vc n w R := by kernel_rfl
theorem f58_calls (n : Int) (w : World) (R : Ending → World → Prop) (h : f58_vc n w R) : Calls Go.Proofs.Tryd.prog 58 (List.toArray [Value.int IntKind.i64 n]) w R :=
 fn_sound (H := h58) (fn := Go.Proofs.Tryd.f58) (by kernel_rfl) (by kernel_rfl) (by kernel_rfl) ((f58_eq n w R).mpr h)


/-! internal/stringslite.Cut -/
def h64 : Hints := ⟨[], [15, 21], [12], [(3, [0, 1, 2, 3, 4, 5, 6, 7, 8, 9, 10, 11])], [], [], [], [], []⟩
def f64_vc (s : ByteArray) (sep : ByteArray) (w : World) (R : Ending → World → Prop) : Prop :=
 Calls Proofs.Tryd.prog 80 #[Value.string s, Value.string sep] w fun (e1 : Ending) (w2 : World) =>
 ∃ (x3 : Int),
 e1 = Ending.returned (Value.int IntKind.i64 x3) ∧
 (decide (x3 ≥ 0) = true →
 ∃ (s4 : ByteArray),
 Gives Proofs.Tryd.prog (Instr.sliceAt 9 (Value.string s) none (some (Value.int IntKind.i64 x3)) none) (Value.string s4) ∧
 ∃ (s5 : ByteArray),
 Gives Proofs.Tryd.prog (Instr.sliceAt 9 (Value.string s) (some (Value.int IntKind.i64 (IntKind.i64.wrap (x3 + (↑sep.size : Int))))) none none) (Value.string s5) ∧
 ∀ (w6 : World), Bel w2 w6 → R (Ending.returned (Value.tuple #[Value.string s4, Value.string s5, Value.bool true])) w6) ∧
 (decide (x3 ≥ 0) = false → R (Ending.returned (Value.tuple #[Value.string s, Value.string (ByteArray.mk #[]), Value.bool false])) w2)
theorem f64_eq (s : ByteArray) (sep : ByteArray) (w : World) (R : Ending → World → Prop) : (fnF Go.Proofs.Tryd.prog h64 Go.Proofs.Tryd.f64 [Value.string s, Value.string sep] w R).den = f64_vc s sep w R := by kernel_rfl
theorem f64_calls (s : ByteArray) (sep : ByteArray) (w : World) (R : Ending → World → Prop) (h : f64_vc s sep w R) : Calls Go.Proofs.Tryd.prog 64 (List.toArray [Value.string s, Value.string sep]) w R :=
 fn_sound (H := h64) (fn := Go.Proofs.Tryd.f64) (by kernel_rfl) (by kernel_rfl) (by kernel_rfl) ((f64_eq s sep w R).mpr h)


/-! manciple/slot.Kind -/
def h65 : Hints := ⟨[], [14], [], [], [(3, 5)], [], [], [], []⟩
def f65_vc (name : ByteArray) (w : World) (R : Ending → World → Prop) : Prop :=
 OpW Proofs.Tryd.prog (valueS (Instr.makeMap 98 none)) w fun (v1 : Value) (w2 : World) =>
 ∃ (r3 : Option Nat),
 v1 = Value.map r3 ∧
 Calls Proofs.Tryd.prog 81 #[] w2 fun (e4 : Ending) (w5 : World) =>
 ∃ (s6 : ByteArray),
 ∃ (s7 : ByteArray),
 ∃ (s8 : ByteArray),
 ∃ (s9 : ByteArray),
 e4 = Ending.returned (Value.agg #[Value.string s6, Value.string s7, Value.string s8, Value.string s9]) ∧
 ∃ (s10 : ByteArray),
 Gives Proofs.Tryd.prog (Instr.index 99 (Value.agg #[Value.string s6, Value.string s7, Value.string s8, Value.string s9]) (Value.int IntKind.i64 0)) (Value.string s10) ∧
 OpW Proofs.Tryd.prog (skipS (Instr.mapUpdate 98 (Value.map r3) (Value.string s10) (Value.int IntKind.i64 0))) w5 fun (v11 : Value) (w12 : World) =>
 ∃ (s13 : ByteArray),
 Gives Proofs.Tryd.prog (Instr.index 99 (Value.agg #[Value.string s6, Value.string s7, Value.string s8, Value.string s9]) (Value.int IntKind.i64 1)) (Value.string s13) ∧
 OpW Proofs.Tryd.prog (skipS (Instr.mapUpdate 98 (Value.map r3) (Value.string s13) (Value.int IntKind.i64 1))) w12 fun (v14 : Value) (w15 : World) =>
 ∃ (s16 : ByteArray),
 Gives Proofs.Tryd.prog (Instr.index 99 (Value.agg #[Value.string s6, Value.string s7, Value.string s8, Value.string s9]) (Value.int IntKind.i64 2)) (Value.string s16) ∧
 OpW Proofs.Tryd.prog (skipS (Instr.mapUpdate 98 (Value.map r3) (Value.string s16) (Value.int IntKind.i64 2))) w15 fun (v17 : Value) (w18 : World) =>
 ∃ (s19 : ByteArray),
 Gives Proofs.Tryd.prog (Instr.index 99 (Value.agg #[Value.string s6, Value.string s7, Value.string s8, Value.string s9]) (Value.int IntKind.i64 3)) (Value.string s19) ∧
 OpW Proofs.Tryd.prog (skipS (Instr.mapUpdate 98 (Value.map r3) (Value.string s19) (Value.int IntKind.i64 3))) w18 fun (v20 : Value) (w21 : World) =>
 ∃ (x22 : Int),
 ∃ (b23 : Bool),
 Reads Proofs.Tryd.prog [] (Instr.lookup 98 (Value.map r3) (Value.string name) true) w21 (Value.tuple #[Value.int IntKind.i64 x22, Value.bool b23]) ∧
 R (Ending.returned (Value.tuple #[Value.int IntKind.i64 x22, Value.bool b23])) w21
theorem f65_eq (name : ByteArray) (w : World) (R : Ending → World → Prop) : (fnF Go.Proofs.Tryd.prog h65 Go.Proofs.Tryd.f65 [Value.string name] w R).den = f65_vc name w R := by kernel_rfl
theorem f65_calls (name : ByteArray) (w : World) (R : Ending → World → Prop) (h : f65_vc name w R) : Calls Go.Proofs.Tryd.prog 65 (List.toArray [Value.string name]) w R :=
 fn_sound (H := h65) (fn := Go.Proofs.Tryd.f65) (by kernel_rfl) (by kernel_rfl) (by kernel_rfl) ((f65_eq name w R).mpr h)


/-! manciple/mancipleref04.Names -/
def h73 : Hints := ⟨[], [], [], [], [], [], [], [], []⟩
def f73_vc  (w : World) (R : Ending → World → Prop) : Prop :=
 OpW Proofs.Tryd.prog
 (valueS
 (Instr.buildSlice 63 4
 #[(0, Value.string (ByteArray.mk #[99, 112, 117, 115])), (1, Value.string (ByteArray.mk #[109, 101, 109])), (2, Value.string (ByteArray.mk #[100, 105, 115, 107])), (3, Value.string (ByteArray.mk #[103, 112, 117, 115]))]))
 w fun (v1 : Value) (w2 : World) => ∃ (a3 : Option Addr), ∃ (n4 : Nat), ∃ (n5 : Nat), v1 = Value.slice a3 n4 n5 ∧ R (Ending.returned (Value.slice a3 n4 n5)) w2
theorem f73_eq  (w : World) (R : Ending → World → Prop) : (fnF Go.Proofs.Tryd.prog h73 Go.Proofs.Tryd.f73 [] w R).den = f73_vc  w R := by kernel_rfl
theorem f73_calls  (w : World) (R : Ending → World → Prop) (h : f73_vc  w R) : Calls Go.Proofs.Tryd.prog 73 (List.toArray []) w R :=
 fn_sound (H := h73) (fn := Go.Proofs.Tryd.f73) (by kernel_rfl) (by kernel_rfl) (by kernel_rfl) ((f73_eq  w R).mpr h)


/-! manciple/mancipleref02.Digits -/
def h74 : Hints := ⟨[], [15], [5], [], [], [(3, ⟨[(0, .int .i64), (3, .str), (4, .bool)], []⟩)], [], [], []⟩
def f74_vc (n : Int) (w : World) (R : Ending → World → Prop) : Prop :=
 ∃ (J1 : Int × ByteArray × Bool × Unit → World → Prop),
 ∃ (J2 : Int × ByteArray × Bool × Unit → World → Nat),
 J1 (n, ByteArray.mk #[], true, ()) w ∧
 ∀ (x3 : Int) (s4 : ByteArray) (b5 : Bool) (w6 : World),
 J1 (x3, s4, b5, ()) w6 →
 (b5 = true →
 OpW Proofs.Tryd.prog (valueS (Instr.buildSlice 80 1 #[(0, Value.int IntKind.u8 (IntKind.u8.wrap (IntKind.i64.wrap (48 + x3.tmod 10))))])) w6 fun (v7 : Value) (w8 : World) =>
 ∃ (a9 : Option Addr),
 ∃ (n10 : Nat),
 ∃ (n11 : Nat),
 v7 = Value.slice a9 n10 n11 ∧
 OpW Proofs.Tryd.prog (valueS (convert 80 9 (Value.slice a9 n10 n11))) w8 fun (v12 : Value) (w13 : World) =>
 ∃ (s14 : ByteArray),
 v12 = Value.string s14 ∧
 ∃ (s15 : ByteArray),
 Gives Proofs.Tryd.prog (binOpS BinOp.add 9 (Operand.tmp 13) (Operand.tmp 14) (Value.string s14) (Value.string s4)) (Value.string s15) ∧
 J1 (IntKind.i64.wrap (x3.tdiv 10), s15, decide (IntKind.i64.wrap (x3.tdiv 10) > 0), ()) w13 ∧
 J2 (IntKind.i64.wrap (x3.tdiv 10), s15, decide (IntKind.i64.wrap (x3.tdiv 10) > 0), ()) w13 < J2 (x3, s4, b5, ()) w6) ∧
 (b5 = false → R (Ending.returned (Value.string s4)) w6)
theorem f74_eq (n : Int) (w : World) (R : Ending → World → Prop) : (fnF Go.Proofs.Tryd.prog h74 Go.Proofs.Tryd.f74 [Value.int IntKind.i64 n] w R).den = f74_vc n w R := by kernel_rfl
theorem f74_calls (n : Int) (w : World) (R : Ending → World → Prop) (h : f74_vc n w R) : Calls Go.Proofs.Tryd.prog 74 (List.toArray [Value.int IntKind.i64 n]) w R :=
 fn_sound (H := h74) (fn := Go.Proofs.Tryd.f74) (by kernel_rfl) (by kernel_rfl) (by kernel_rfl) ((f74_eq n w R).mpr h)

end Vcx

/-
  DERIVED: THE SHELF's CONTRACTS AT THIS DUMP, IN PLAIN WORDS (tools/lay-plain.mjs out of 'StShelf0.lean', which tools/lay-shelf.mjs wrote): THE SAME DECLARATIONS UNDER THE SAME NAMES: 'import', 'namespace', 'open', 'def', 'theorem' AND NOTHING ELSE: no command of the shelf's: FOR A HAND-IN. Each laying: the table of numbers ('.._ren') and one theorem, a field a fact of the dump's own or the kernel's comparison; each contract: ONE APPLICATION.
-/
namespace Go.Proofs
open Go.Shelf
def Tryd.lays219_ren : Go.Shelf.Ren := ⟨fun | 219 => 80 | 217 => 97 | 225 => 98 | 224 => 99 | 267 => 100 | 266 => 109 | 314 => 110 | n => n, fun | 9 => 9 | 3 => 3 | 4 => 4 | 5 => 5 | 46 => 95 | 146 => 127 | 51 => 110 | n => n, fun | 1 => 0 | n => n⟩
theorem Tryd.lays219 : Go.Proofs.Lays.n219 Tryd.prog Tryd.lays219_ren := {
  mixed := by kernel_rfl
  f217 := Tryd.func97.trans (congrArg some (by kernel_rfl))
  f219 := Tryd.func80.trans (congrArg some (by kernel_rfl))
  f224 := Tryd.func99.trans (congrArg some (by kernel_rfl))
  f225 := Tryd.func98.trans (congrArg some (by kernel_rfl))
  f266 := Tryd.func109.trans (congrArg some (by kernel_rfl))
  f267 := Tryd.func100.trans (congrArg some (by kernel_rfl))
  f314 := Tryd.func110.trans (congrArg some (by kernel_rfl))
  t3 := Tryd.underlying3
  a3 := Tryd.isAgg3
  z3 := Tryd.sizeOf3
  v3 := Tryd.zeroValue3
  t4 := Tryd.underlying4
  a4 := Tryd.isAgg4
  z4 := Tryd.sizeOf4
  v4 := Tryd.zeroValue4
  t5 := Tryd.underlying5
  a5 := Tryd.isAgg5
  z5 := Tryd.sizeOf5
  v5 := Tryd.zeroValue5
  t9 := Tryd.underlying9
  a9 := Tryd.isAgg9
  z9 := Tryd.sizeOf9
  v9 := Tryd.zeroValue9
  t46 := Tryd.underlying95
  a46 := Tryd.isAgg95
  z46 := Tryd.sizeOf95
  v46 := Tryd.zeroValue95
  t51 := Tryd.underlying110
  a51 := Tryd.isAgg110
  z51 := Tryd.sizeOf110
  v51 := Tryd.zeroValue110
  t146 := Tryd.underlying127
  a146 := Tryd.isAgg127
  z146 := Tryd.sizeOf127
  v146 := Tryd.zeroValue127
  g1 := by kernel_rfl }
open Go.RowKit Go.Lib in
/-- internal/stringslite.Index (what strings.Index calls) AT A substr OF ONE BYTE c: IT RETURNS 'Lib.indexByte s c'; the world is as it was. (LAID: no walk: one application.) -/
theorem Tryd.stringslite_Index_one (s : ByteArray) (c : UInt8) (w : World) :
    Calls Tryd.prog 80 #[.string s, .string ⟨#[c]⟩] w fun e w' => e = .returned (.int .i64 (Lib.indexByte s.data.toList c)) ∧ w' = w := Any.stringslite_Index_one Tryd.lays219 s c w
end Go.Proofs

/- Own text of this claim: G1a. -/
set_option maxRecDepth 20000
namespace Go.Vc.VD
open Go Go.Vc Go.Vc.V Go.RowKit Go.Proofs Vcx

/-- A name's kind. -/
def kindOf (s : ByteArray) : Int × Bool := if s = sCpus then (0, true) else if s = sMem then (1, true) else if s = sDisk then (2, true) else if s = sGpus then (3, true) else (0, false)
theorem kind_map (s : ByteArray) : lookV2 (Value.int .i64) (.int .i64 0) (mget s (mset sGpus (3 : Int) (mset sDisk 2 (mset sMem 1 (mset sCpus 0 []))))) = .tuple #[.int .i64 (kindOf s).1, .bool (kindOf s).2] := by
  have e : mset sGpus (3 : Int) (mset sDisk 2 (mset sMem 1 (mset sCpus 0 []))) = [(sCpus, 0), (sMem, 1), (sDisk, 2), (sGpus, 3)] := by decide
  rw [e]
  unfold kindOf
  simp only [mget, lookV2]
  by_cases h0 : s = sCpus
  · simp [h0]
  · by_cases h1 : s = sMem
    · subst h1; simp [h0]
    · by_cases h2 : s = sDisk
      · subst h2; simp [h0, h1]
      · by_cases h3 : s = sGpus
        · subst h3; simp [h0, h1, h2]
        · simp [h0, h1, h2, h3]

theorem c65 (s : ByteArray) (w : World) (hT : Tab w) : Ret Tryd.prog 65 #[.string s] w (.tuple #[.int .i64 (kindOf s).1, .bool (kindOf s).2]) := by
  intro R h
  refine f65_calls s w R ?_
  unfold f65_vc
  have hA := At.refl w
  refine opw_makeMap (kf := Value.string) (vf := Value.int .i64) hA fun g w2 hg hA hk hb ho => ⟨_, rfl, ?_⟩
  refine at_callb hA (c81 _ (hT.at_ hA)) (fun w5 hA hk hb => ⟨_, _, _, _, rfl, ?_⟩)
  have ho := ho.call hb
  have K : KeyOk Tryd.prog 9 Value.string := keyOk_str (by kernel_rfl)
  have ht : Tryd.prog.underlying 98 = some (.map 9 3) := by kernel_rfl
  refine ⟨sCpus, gives_of_pure (by kernel_rfl), opw_mapUpdate (k := sCpus) (v := (0 : Int)) K ht hA ho fun _ hA hk _ ho => ?_⟩
  refine ⟨sMem, gives_of_pure (by kernel_rfl), opw_mapUpdate (k := sMem) (v := (1 : Int)) K ht hA ho fun _ hA hk _ ho => ?_⟩
  refine ⟨sDisk, gives_of_pure (by kernel_rfl), opw_mapUpdate (k := sDisk) (v := (2 : Int)) K ht hA ho fun _ hA hk _ ho => ?_⟩
  refine ⟨sGpus, gives_of_pure (by kernel_rfl), opw_mapUpdate (k := sGpus) (v := (3 : Int)) K ht hA ho fun _ hA hk _ ho => ?_⟩
  have hr := reads_lookup2 (z := .int .i64 0) K ht (by kernel_rfl) ho s (ds := []) (by intro d hd; cases hd)
  rw [kind_map] at hr
  exact ⟨_, _, hr, leaf h hA rfl⟩
end Go.Vc.VD

/- Own text of this claim: G1b. -/
set_option maxRecDepth 20000
namespace Go.Vc.VD
open Go Go.Vc Go.Vc.V Go.RowKit Go.Proofs Vcx

theorem c73 (w : World) : RetL Tryd.prog 73 #[] w 9 1 strE nms := by
  intro R h
  refine f73_calls w R ?_
  unfold f73_vc
  have hA := At.refl w
  refine opw_litL (e' := 9) (f := strE) (l := nms) (size := 1) hA rfl (fun _ _ => rfl) (by decide) (by kernel_rfl) fun g w' _ hA _ _ ho => ⟨_, _, _, rfl, ?_⟩
  exact leafl h hA ho rfl

theorem c57 (k r : Int) (w : World) : Ret Tryd.prog 57 #[slotV k r] w (.string (stext k r)) := by
  intro R h
  refine f57_calls k r w R ?_
  unfold f57_vc
  have hA := At.refl w
  refine go_n hA fun n1 h_n1 => ?_
  refine go_below hA fun _ hA => ?_
  refine at_call hA (c42 _ _ _) (fun _ hA hk => ?_)
  first | refine ⟨_, rfl, hk, ?_⟩ | refine ⟨_, _, rfl, hk, ?_⟩ | refine ⟨_, _, _, rfl, hk, ?_⟩ | refine ⟨_, _, _, _, rfl, hk, ?_⟩ | refine ⟨_, _, _, _, _, rfl, hk, ?_⟩ | refine ⟨_, _, _, _, _, _, rfl, hk, ?_⟩ | refine ⟨_, _, _, _, _, _, _, rfl, hk, ?_⟩ | refine ⟨_, _, _, _, _, _, _, _, rfl, hk, ?_⟩
  refine brND (fun hn => leaf h hA (by rw [stext, if_neg hn])) (fun hs => ?_)
  have hs' := hs
  unfold slotR at hs'
  refine go_below hA fun _ hA => ?_
  refine at_calll hA (c73 _) (fun _ _ => rfl) fun a c w8 hA hk hb ho hsl => ⟨_, _, _, rfl, hk, ?_⟩
  obtain ⟨q, rfl⟩ : ∃ q : Nat, k = q := ⟨k.toNat, by omega⟩
  obtain ⟨ad, g1, r1⟩ := rd_one (te := 9) (ds := []) (k := .i64) (t := 63) (P := Tryd.prog) (e := 9) hsl (nm_at (k := q) (by omega)) rfl (by kernel_rfl) (by kernel_rfl) (by kernel_rfl) (fun _ h => by cases h)
  refine ⟨_, g1, _, r1, brE (fun h0 => leaf h hA (by rw [stext, if_pos hs, if_pos h0])) (fun h0 => ?_)⟩
  have s1 := nm_small q
  have s2 : (ByteArray.mk #[40]).size = 1 := rfl
  have s3 : (ByteArray.mk #[41]).size = 1 := rfl
  have d1 := dec_small (n := r) (by omega)
  have fin : ∀ {l : List Int} W, decL r 1 = l → At w [n1] W → ∃ s, Gives Tryd.prog (binOpS .add 9 (.tmp 0) (.tmp 0) (.string (nmOf q ++ ByteArray.mk #[40])) (.string (strOfNums l))) (.string s) ∧ ∃ s2, Gives Tryd.prog (binOpS .add 9 (.tmp 0) (.const (.string (ByteArray.mk #[41]))) (.string s) (.string (ByteArray.mk #[41]))) (.string s2) ∧ R (.returned (.string s2)) W := by
    intro l W hl hA
    subst hl
    exact ⟨_, gives_sadd (by rw [ByteArray.size_append]; omega), _, gives_sadd (by rw [ByteArray.size_append, ByteArray.size_append]; omega), leaf h hA (by rw [stext, if_pos hs, if_neg h0])⟩
  refine brD (fun hlt => ?_) (fun hge => ?_)
  · have e : IntKind.u8.wrap (IntKind.i64.wrap (48 + r)) = 48 + r := by
      rw [wrap_i64 (by omega) (by omega), wrap_u8]
      omega
    rw [e]
    refine ⟨_, gives_sadd (by omega), ?_⟩
    refine opw_litL (f := u8e) (l := [48 + r]) (size := 1) (e' := 5) hA rfl (fun _ _ => rfl) (by decide) (by kernel_rfl) fun g w' _ hA hk _ ho => ⟨_, _, _, rfl, hk, ?_⟩
    refine opw_b2s (e := 5) (by kernel_rfl) (by kernel_rfl) (by kernel_rfl) (ho.sl (by simp)) ⟨_, rfl, fun _ _ => rfl, ?_⟩
    obtain ⟨s, g1, s2, g2, hr⟩ := fin w' (digit1 (d := r) (by omega)) hA
    exact ⟨s, g1, s2, g2, hr⟩
  · rw [Int.tdiv_eq_ediv_of_nonneg (by omega), Int.tmod_eq_emod_of_nonneg (by omega)]
    have e : IntKind.u8.wrap (IntKind.i64.wrap (48 + IntKind.i64.wrap (r / 10))) = 48 + r / 10 := by
      rw [wrap_i64 (x := r / 10) (by omega) (by omega), wrap_i64 (by omega) (by omega), wrap_u8]
      omega
    have e2 : IntKind.u8.wrap (IntKind.i64.wrap (48 + r % 10)) = 48 + r % 10 := by
      rw [wrap_i64 (by omega) (by omega), wrap_u8]
      omega
    rw [e, e2]
    refine ⟨_, gives_sadd (by omega), ?_⟩
    refine opw_litL (f := u8e) (l := [48 + r / 10, 48 + r % 10]) (size := 1) (e' := 5) hA rfl (fun _ _ => rfl) (by decide) (by kernel_rfl) fun g w' _ hA hk _ ho => ⟨_, _, _, rfl, hk, ?_⟩
    refine opw_b2s (e := 5) (by kernel_rfl) (by kernel_rfl) (by kernel_rfl) (ho.sl (by simp)) ⟨_, rfl, fun _ _ => rfl, ?_⟩
    obtain ⟨s, g1, s2, g2, hr⟩ := fin w' (dec2 (r := r) (by omega) (by omega)) hA
    exact ⟨s, g1, s2, g2, hr⟩

end Go.Vc.VD

/- Parts of strings. -/
namespace Go.Vc
open Go Go.RowKit
section
variable {P : Program}

theorem bytesOf_extract (s : ByteArray) (a b : Nat) : bytesOf (s.extract a b) = ((bytesOf s).drop a).take (b - a) := by
  obtain ⟨d⟩ := s
  have h : (ByteArray.mk d).extract a b = ByteArray.mk ((d.toList.drop a).take (b - a)).toArray := by
    have := ByteArray.extract_mk d.toList a b
    simpa using this
  rw [h]
  simp only [bytesOf, List.map_take, List.map_drop]

theorem gives_str_to {t : TypeId} {s : ByteArray} {i : Nat} {k : IntKind} (ht : P.underlying t = some .string) (hi : i ≤ s.size) : Gives P (Instr.sliceAt t (.string s) none (some (.int k (i : Int))) none) (.string (s.extract 0 i)) := by
  intro W
  rw [run_sliceAt_string W t _ _ _ _ ht]
  have := run_slice_string_h (P := P) W t s ht k (i : Int) (by omega) (by omega)
  rw [this]
  simp
theorem gives_str_from {t : TypeId} {s : ByteArray} {i : Nat} {k : IntKind} (ht : P.underlying t = some .string) (hi : i ≤ s.size) : Gives P (Instr.sliceAt t (.string s) (some (.int k (i : Int))) none none) (.string (s.extract i s.size)) := by
  intro W
  rw [run_sliceAt_string W t _ _ _ _ ht]
  have := run_slice_string_l (P := P) W t s ht k (i : Int) (by omega) (by omega)
  rw [this]
  simp
end
end Go.Vc

/- Own text of this claim: G2. -/
set_option maxRecDepth 20000
namespace Go.Vc.VD
open Go Go.Vc Go.Vc.V Go.RowKit Go.Proofs Vcx

/-! ### The index of a byte -/
theorem idx_list (c : UInt8) : ∀ l : List UInt8, (Lib.indexByte l c = -1 ∧ c ∉ l) ∨ ∃ a b, l = a ++ c :: b ∧ c ∉ a ∧ Lib.indexByte l c = (a.length : Int)
  | [] => .inl ⟨rfl, by simp⟩
  | x :: l => by
    unfold Lib.indexByte
    by_cases h : x = c
    · subst h
      exact .inr ⟨[], l, rfl, by simp, by simp⟩
    · have hb : (x == c) = false := by simpa using h
      rw [hb]
      simp only [Bool.false_eq_true, if_false]
      rcases idx_list c l with ⟨h1, h2⟩ | ⟨a, b, rfl, h2, h3⟩
      · rw [h1]
        exact .inl ⟨by simp, by simp [h2]; exact fun e => h e.symm⟩
      · rw [h3]
        refine .inr ⟨x :: a, b, rfl, by simp [h2]; exact fun e => h e.symm, ?_⟩
        have : ((a.length : Int) == -1) = false := by
          rw [beq_eq_false_iff_ne]; omega
        rw [this]
        simp

/-- A string parted at the first '('. -/
def pcut (s : ByteArray) : ByteArray × ByteArray × Bool :=
  if 0 ≤ Lib.indexByte s.data.toList 40 then (s.extract 0 (Lib.indexByte s.data.toList 40).toNat, s.extract ((Lib.indexByte s.data.toList 40).toNat + 1) s.size, true) else (s, ByteArray.mk #[], false)
theorem idx_lt (s : ByteArray) : Lib.indexByte s.data.toList 40 < s.size := by
  have hs : s.size = s.data.toList.length := by rw [Array.length_toList]; rfl
  rcases idx_list 40 s.data.toList with ⟨h1, _⟩ | ⟨a, b, h1, _, h3⟩
  · rw [h1]; omega
  · rw [h3, hs]
    have := congrArg List.length h1
    simp at this ⊢
    omega

theorem c80 (s : ByteArray) (w : World) : Ret Tryd.prog 80 #[.string s, .string (ByteArray.mk #[40])] w (.int .i64 (Lib.indexByte s.data.toList 40)) := fun R h =>
  (Tryd.stringslite_Index_one s 40 w).mono fun e w' ⟨he, hw⟩ => by subst he hw; exact h _ (Bel.refl _)

theorem c64 (s : ByteArray) (hs : s.size ≤ 9223372036854775807) (w : World) : Ret Tryd.prog 64 #[.string s, .string (ByteArray.mk #[40])] w (.tuple #[.string (pcut s).1, .string (pcut s).2.1, .bool (pcut s).2.2]) := by
  intro R h
  refine f64_calls s (ByteArray.mk #[40]) w R ?_
  unfold f64_vc
  have hA := At.refl w
  refine at_call hA (c80 _ _) (fun _ hA hk => ?_)
  first | refine ⟨_, rfl, ?_⟩ | refine ⟨_, _, rfl, ?_⟩ | refine ⟨_, _, _, rfl, ?_⟩ | refine ⟨_, _, _, _, rfl, ?_⟩ | refine ⟨_, _, _, _, _, rfl, ?_⟩ | refine ⟨_, _, _, _, _, _, rfl, ?_⟩ | refine ⟨_, _, _, _, _, _, _, rfl, ?_⟩ | refine ⟨_, _, _, _, _, _, _, _, rfl, ?_⟩
  have hlt := idx_lt s
  refine brD (fun hge => ?_) (fun hn => leaf h hA (by rw [pcut, if_neg hn]))
  obtain ⟨i, hi⟩ : ∃ i : Nat, Lib.indexByte s.data.toList 40 = i := ⟨_, (Int.toNat_of_nonneg hge).symm⟩
  have hp : pcut s = (s.extract 0 i, s.extract (i + 1) s.size, true) := by
    rw [pcut, if_pos hge, hi, Int.toNat_natCast]
  rw [hp] at h
  rw [hi] at hlt ⊢
  have e1 : IntKind.i64.wrap ((i : Int) + ((ByteArray.mk #[40]).size : Int)) = ((i + 1 : Nat) : Int) := by
    have : (ByteArray.mk #[40]).size = 1 := rfl
    rw [this, wrap_i64 (by omega) (by omega)]; rfl
  rw [e1]
  refine ⟨_, gives_str_to (by kernel_rfl) (by omega), _, gives_str_from (by kernel_rfl) (by omega), ?_⟩
  refine go_below0 hA fun _ hA => leaf h hA rfl

theorem c51 (s : ByteArray) (hs : s.size ≤ 9223372036854775807) (w : World) : Ret Tryd.prog 51 #[.string s, .string (ByteArray.mk #[40])] w (.tuple #[.string (pcut s).1, .string (pcut s).2.1, .bool (pcut s).2.2]) := by
  intro R h
  refine f51_calls s (ByteArray.mk #[40]) w R ?_
  unfold f51_vc
  have hA := At.refl w
  refine at_call hA (c64 _ hs _) (fun _ hA hk => ?_)
  first | refine ⟨_, rfl, ?_⟩ | refine ⟨_, _, rfl, ?_⟩ | refine ⟨_, _, _, rfl, ?_⟩ | refine ⟨_, _, _, _, rfl, ?_⟩ | refine ⟨_, _, _, _, _, rfl, ?_⟩ | refine ⟨_, _, _, _, _, _, rfl, ?_⟩ | refine ⟨_, _, _, _, _, _, _, rfl, ?_⟩ | refine ⟨_, _, _, _, _, _, _, _, rfl, ?_⟩
  exact leaf h hA rfl

/-! ### Reading a slot -/
def rstep (r c : Int) : Int := if 48 ≤ c ∧ c ≤ 57 ∧ r ≤ 32 then r * 10 + (c - 48) else r
def parseR (l : List Int) : Int := l.foldl rstep 0
theorem rstep_range {r c : Int} (h : 0 ≤ r ∧ r ≤ 329) : 0 ≤ rstep r c ∧ rstep r c ≤ 329 := by
  unfold rstep
  split <;> omega
theorem parseR_range (l : List Int) : 0 ≤ parseR l ∧ parseR l ≤ 329 := by
  have : ∀ (l : List Int) (r : Int), 0 ≤ r ∧ r ≤ 329 → 0 ≤ l.foldl rstep r ∧ l.foldl rstep r ≤ 329 := by
    intro l
    induction l with
    | nil => intro r h; exact h
    | cons c l ih => intro r h; exact ih _ (rstep_range h)
  exact this l 0 (by omega)
theorem parseR_snoc (l : List Int) (c : Int) : parseR (l ++ [c]) = rstep (parseR l) c := by
  unfold parseR
  rw [List.foldl_append]
  rfl

noncomputable def sparse (s : ByteArray) : Int × Int × Bool :=
  if (kindOf (pcut s).1).2 = true then (if stext (kindOf (pcut s).1).1 (parseR (bytesOf (pcut s).2.1)) = s then ((kindOf (pcut s).1).1, parseR (bytesOf (pcut s).2.1), true) else (0, 0, false)) else (0, 0, false)

theorem pcut_small (s : ByteArray) : (pcut s).2.1.size ≤ s.size := by
  unfold pcut
  split
  · simp only [ByteArray.size_extract]; omega
  · exact Nat.zero_le _

theorem c52 (s : ByteArray) (hs : s.size ≤ maxLen) (w : World) (hT : Tab w) : Ret Tryd.prog 52 #[.string s] w (.tuple #[slotV (sparse s).1 (sparse s).2.1, .bool (sparse s).2.2]) := by
  intro R h
  refine f52_calls s w R ?_
  unfold f52_vc
  have hA := At.refl w
  have hs' : s.size ≤ 9223372036854775807 := by unfold maxLen at hs; omega
  refine go_n hA fun n1 h_n1 => ?_
  refine go_below hA fun _ hA => ?_
  refine at_call hA (c51 _ hs' _) (fun _ hA hk => ?_)
  first | refine ⟨_, rfl, hk, ?_⟩ | refine ⟨_, _, rfl, hk, ?_⟩ | refine ⟨_, _, _, rfl, hk, ?_⟩ | refine ⟨_, _, _, _, rfl, hk, ?_⟩ | refine ⟨_, _, _, _, _, rfl, hk, ?_⟩ | refine ⟨_, _, _, _, _, _, rfl, hk, ?_⟩ | refine ⟨_, _, _, _, _, _, _, rfl, hk, ?_⟩ | refine ⟨_, _, _, _, _, _, _, _, rfl, hk, ?_⟩
  refine at_call hA (c65 _ _ (hT.at_ hA)) (fun _ hA hk => ?_)
  first | refine ⟨_, rfl, hk, ?_⟩ | refine ⟨_, _, rfl, hk, ?_⟩ | refine ⟨_, _, _, rfl, hk, ?_⟩ | refine ⟨_, _, _, _, rfl, hk, ?_⟩ | refine ⟨_, _, _, _, _, rfl, hk, ?_⟩ | refine ⟨_, _, _, _, _, _, rfl, hk, ?_⟩ | refine ⟨_, _, _, _, _, _, _, rfl, hk, ?_⟩ | refine ⟨_, _, _, _, _, _, _, _, rfl, hk, ?_⟩
  refine brNB (fun hno => ?_) (fun hok => ?_)
  · refine go_evo hA (by intro d hd; simp at hd; omega) fun _ hA => ?_
    exact leaf h hA (by rw [sparse, if_neg (by rw [hno]; decide)])
  rw [sparse, if_pos hok] at h
  refine go_n hA fun n13 h_n13 => ?_
  refine go_evo hA (by intro d hd; simp at hd; omega) fun _ hA => ?_
  refine opw_s2bB hA (e := 5) (by kernel_rfl) (by kernel_rfl) (by kernel_rfl) (Nat.le_trans (pcut_small s) hs) fun a c w16 hA16 hk hb hsl hbk => ⟨_, _, _, rfl, hk, ?_⟩
  have hn13 : ∀ b, a = some b → b.block ≠ n13 := fun b hb' => by
    have := hbk b hb'
    have := hA.under n13 (by simp)
    omega
  have hA := hA16
  have hlen := hsl.1
  have hps := pcut_small s
  generalize hrest : (pcut s).2.1 = rest at *
  generalize (kindOf (pcut s).1).1 = kd at *
  refine ⟨fun x W => At w [n1, n13] W ∧ SlE W 1 u8e (bytesOf rest) a rest.size c ∧ ∃ k : Nat, x.1 = k ∧ k ≤ rest.size ∧ x.2.1 = kd ∧ x.2.2.1 = parseR ((bytesOf rest).take k), fun x _ => rest.size - x.1.toNat, ⟨hA, hsl, 0, rfl, by omega, rfl, rfl⟩, ?_⟩
  rintro i kd' rl W ⟨hA, hbw, k, hi, hk, hkd, hrl⟩
  simp only at hi hkd hrl
  subst hi hkd hrl
  have hlr := (bytesOf_len rest)
  have hm : k < rest.size → rest.size - ((k + 1 : Nat) : Int).toNat < rest.size - (k : Int).toNat := fun h => by omega
  refine brD (fun hlt => ?_) (fun hge => ?_)
  · have e1 : IntKind.i64.wrap ((k : Int) + 1) = ((k + 1 : Nat) : Int) := by rw [wrap_i64 (by omega) (by omega)]; rfl
    rw [e1]
    obtain ⟨c0, hc0⟩ : ∃ c0, (bytesOf rest)[k]? = some c0 := ⟨_, List.getElem?_eq_getElem (by omega)⟩
    have hcr := bytesOf_range (List.mem_of_getElem? hc0)
    obtain ⟨ad, g1, r1⟩ := rd_one (te := 5) (ds := []) (k := .i64) (t := 80) (P := Tryd.prog) (e := 5) hbw hc0 rfl (by kernel_rfl) (by kernel_rfl) (by kernel_rfl) (fun _ h => by cases h)
    have ht : (bytesOf rest).take (k + 1) = (bytesOf rest).take k ++ [c0] := by rw [List.take_add_one, hc0]; rfl
    have hr := parseR_range ((bytesOf rest).take k)
    have hstep : parseR ((bytesOf rest).take (k + 1)) = rstep (parseR ((bytesOf rest).take k)) c0 := by rw [ht, parseR_snoc]
    refine ⟨_, g1, _, r1, ?_⟩
    refine brD (fun h1 => brD (fun h2 => brD (fun h3 => ?_) (fun h3 => ?_)) (fun h2 => ?_)) (fun h1 => ?_)
    · refine go_evo_too hA (by intro d hd; simp at hd; omega) fun w28 hA28 hev => ⟨⟨hA28, hbw.chg (Chg.of_evo hev) (fun b hb' hm => hn13 b hb' (by simpa using hm)), k + 1, rfl, by omega, rfl, ?_⟩, hm (by omega)⟩
      show IntKind.i64.wrap _ = _
      rw [hstep, rstep, if_pos ⟨h1, h2, h3⟩, wrap_u8, wrap_i64 (x := parseR ((bytesOf rest).take k) * 10) (by omega) (by omega), wrap_i64 (x := (c0 - 48) % 256) (by omega) (by omega), wrap_i64 (by omega) (by omega)]
      omega
    · exact ⟨⟨hA, hbw, k + 1, rfl, by omega, rfl, by rw [hstep, rstep, if_neg (fun hh => h3 hh.2.2)]⟩, hm (by omega)⟩
    · exact ⟨⟨hA, hbw, k + 1, rfl, by omega, rfl, by rw [hstep, rstep, if_neg (fun hh => h2 hh.2.1)]⟩, hm (by omega)⟩
    · exact ⟨⟨hA, hbw, k + 1, rfl, by omega, rfl, by rw [hstep, rstep, if_neg (fun hh => h1 hh.1)]⟩, hm (by omega)⟩
  · have hke : k = rest.size := by omega
    subst hke
    rw [List.take_of_length_le (by omega)]
    refine at_call hA (c54 _ _ _ (hT.at_ hA)) (fun _ hA hk => ?_)
    first | refine ⟨_, rfl, hk, ?_⟩ | refine ⟨_, _, rfl, hk, ?_⟩ | refine ⟨_, _, _, rfl, hk, ?_⟩ | refine ⟨_, _, _, _, rfl, hk, ?_⟩ | refine ⟨_, _, _, _, _, rfl, hk, ?_⟩ | refine ⟨_, _, _, _, _, _, rfl, hk, ?_⟩ | refine ⟨_, _, _, _, _, _, _, rfl, hk, ?_⟩ | refine ⟨_, _, _, _, _, _, _, _, rfl, hk, ?_⟩
    rw [toList_eq]
    refine brND (fun hne => ?_) (fun heq => ?_)
    · refine go_evo hA (by intro d hd; simp at hd; omega) fun _ hA => ?_
      exact leaf h hA (by rw [if_neg hne])
    · refine go_evo hA (by intro d hd; simp at hd; omega) fun _ hA => ?_
      exact leaf h hA (by rw [if_pos heq])
end Go.Vc.VD

/- Own text of this claim: G3. -/
set_option maxRecDepth 20000
namespace Go.Vc.VD
open Go Go.Vc Go.Vc.V Go.RowKit Go.Proofs Vcx

/-- Digits by the reference: put in front, one by one. -/
theorem c74 (n : Int) (w : World) (hn : 0 ≤ n ∧ n ≤ 9223372036854775807) : Ret Tryd.prog 74 #[.int .i64 n] w (.string (strOfNums (decL n 1))) := by
  intro R h
  refine f74_calls n w R ?_
  unfold f74_vc
  have hA := At.refl w
  have hlen := decL_short 18 n hn.1 (by omega)
  refine ⟨fun s W => At w [] W ∧ ∃ t : List Int, s.2.1 = strOfNums t ∧ (0 ≤ s.1 ∧ s.1 ≤ n) ∧ (if s.2.2.1 = true then decL s.1 1 ++ t = decL n 1 else t = decL n 1), fun s _ => if s.2.2.1 = true then s.1.toNat + 1 else 0, ⟨hA, [], rfl, by show 0 ≤ n ∧ n ≤ n; omega, by simp⟩, ?_⟩
  intro x s b W ⟨hA, t, hs, hx, ht⟩
  simp only at hs hx ht
  subst hs
  refine brB (fun hb => ?_) (fun hb => ?_)
  · rw [if_pos hb] at ht
    rw [u8_digit hx.1, Int.tdiv_eq_ediv_of_nonneg hx.1, wrap_i64 (by omega) (by omega)]
    refine opw_lit hA (e' := 5) (cs := u8e (48 + x % 10)) (by kernel_rfl) fun w' hA hk hbw hc hh => ⟨_, _, _, rfl, ?_⟩
    have ho : OwnL w [] w' 5 1 u8e (.slice (some ⟨W.heap.size, 0, none⟩) 1 1) [48 + x % 10] :=
      ⟨⟨rfl, .inr ⟨_, 1, _, rfl, Nat.zero_le _, hh, Nat.le_refl _, by decide, rfl, rfl⟩⟩, fun k hk => .inl (by cases hk; exact (by assumption : At w [] W).size), fun _ h => by cases h⟩
    refine opw_b2s (e := 5) (by kernel_rfl) (by kernel_rfl) (by kernel_rfl) (ho.sl (by simp)) ⟨_, rfl, ?_⟩
    have hsz : (strOfNums [48 + x % 10]).size + (strOfNums t).size ≤ 9223372036854775807 := by
      rw [strOfNums_size, strOfNums_size]
      have := congrArg List.length ht
      rw [List.length_append] at this
      simp
      omega
    refine ⟨_, gives_sadd hsz, ?_⟩
    rw [strOfNums_append]
    have hst : (if 0 < x / 10 then decL (x / 10) 1 ++ ([48 + x % 10] ++ t) = decL n 1 else [48 + x % 10] ++ t = decL n 1) := by
      rw [decL] at ht
      by_cases h10 : 10 ≤ x
      · rw [if_pos (.inl h10), decL_one _ (1 - 1) (by omega)] at ht
        rw [if_pos (by omega), ← ht, List.append_assoc]
      · rw [if_neg (by omega)] at ht
        rw [if_neg (by omega), ← ht]
    refine ⟨⟨hA, _, rfl, by show 0 ≤ x / 10 ∧ x / 10 ≤ n; omega, ?_⟩, ?_⟩
    · simp only [decide_eq_true_eq]
      exact hst
    · simp only [decide_eq_true_eq, hb, if_true]
      split <;> omega
  · rw [if_neg (by simp [hb])] at ht
    subst ht
    exact leaf h hA rfl

theorem decL3 {r : Int} (h : 0 ≤ r ∧ r < 1000) : decL r 3 = [48 + r / 100, 48 + r / 10 % 10, 48 + r % 10] := by
  rw [decL, if_pos (.inr (by omega)), decL, if_pos (.inr (by omega)), decL, if_neg (by omega)]
  have e1 : r / 10 / 10 % 10 = r / 100 := by omega
  rw [e1]
  rfl

/-- What is behind the point. -/
def frac3 (r : Int) : List Int := if r % 10 = 0 then (if r / 10 % 10 = 0 then [48 + r / 100] else [48 + r / 100, 48 + r / 10 % 10]) else [48 + r / 100, 48 + r / 10 % 10, 48 + r % 10]
theorem strip3 (l : List Int) {r : Int} (h : 0 < r ∧ r < 1000) : strip (l ++ decL r 3) = l ++ frac3 r := by
  rw [decL3 (by omega), frac3]
  have e3 : l ++ [48 + r / 100, 48 + r / 10 % 10, 48 + r % 10] = (l ++ [48 + r / 100, 48 + r / 10 % 10]) ++ [48 + r % 10] := by simp
  have e2 : l ++ [48 + r / 100, 48 + r / 10 % 10] = (l ++ [48 + r / 100]) ++ [48 + r / 10 % 10] := by simp
  rw [e3]
  by_cases h1 : r % 10 = 0
  · rw [if_pos h1, h1, show (48 : Int) + 0 = 48 from rfl, strip_snoc, e2]
    by_cases h2 : r / 10 % 10 = 0
    · rw [if_pos h2, h2, show (48 : Int) + 0 = 48 from rfl, strip_snoc, strip_keep _ (by omega)]
    · rw [if_neg h2, strip_keep _ (by omega)]
      simp
  · rw [if_neg h1, strip_keep _ (by omega)]
    simp

theorem c58 (n : Int) (w : World) (hn : I64 n) : Ret Tryd.prog 58 #[.int .i64 n] w (.string (strOfNums (txtL n))) := by
  intro R h
  refine f58_calls n w R ?_
  unfold f58_vc
  have hA := At.refl w
  refine brD (fun h1 => leaf h hA (by rw [txtL, if_neg (by omega)]; rfl)) (fun h1 => ?_)
  refine brD (fun h2 => leaf h hA (by rw [txtL, if_neg (by omega)]; rfl)) (fun h2 => ?_)
  rw [txtL, if_pos (by omega)] at h
  rw [Int.tdiv_eq_ediv_of_nonneg (by omega), Int.tmod_eq_emod_of_nonneg (by omega), wrap_i64 (by omega) (by omega)]
  refine at_call hA (c74 _ _ (by omega)) (fun _ hA hk => ⟨_, rfl, ?_⟩)
  have hlen := decL_len (n / 1000) 1
  refine brE (fun h0 => ?_) (fun h0 => ?_)
  · rw [if_pos h0] at h
    exact leaf h hA rfl
  · rw [if_neg h0] at h
    have hdot : (ByteArray.mk #[46]) = strOfNums [46] := rfl
    rw [hdot]
    refine ⟨_, gives_sadd (by rw [strOfNums_size, strOfNums_size]; simp; omega), ?_⟩
    rw [strOfNums_append]
    generalize hp : decL (n / 1000) 1 ++ [46] = p at *
    have hpl : p.length ≤ 70368744177000 := by rw [← hp]; simp; omega
    have hr : 0 < n % 1000 ∧ n % 1000 < 1000 := by omega
    rw [strip3 _ hr] at h
    generalize n % 1000 = r at *
    -- after i rounds: what is left, and what has been put behind the point
    refine ⟨fun s W => At w [] W ∧ ∃ t : List Int, s.1 = strOfNums (p ++ t) ∧ ((s.2.1 = r ∧ s.2.2.1 = 100 ∧ t = []) ∨ (s.2.1 = r % 100 ∧ s.2.2.1 = 10 ∧ t = [48 + r / 100]) ∨ (s.2.1 = r % 10 ∧ s.2.2.1 = 1 ∧ t = [48 + r / 100, 48 + r / 10 % 10] ∧ r % 100 ≠ 0) ∨ (s.2.1 = 0 ∧ s.2.2.1 = 0 ∧ t = [48 + r / 100, 48 + r / 10 % 10, 48 + r % 10] ∧ r % 10 ≠ 0)), fun s _ => s.2.2.1.toNat, ⟨hA, [], by simp, .inl ⟨rfl, rfl, rfl⟩⟩, ?_⟩
    intro s x k W ⟨hA, t, hs, hst⟩
    simp only at hs hst
    subst hs
    have round : ∀ {x k : Int} {t : List Int}, 0 < x → 0 < k → k ≤ 100 → x / k < 10 → x < 1000 → t.length ≤ 3 → ∀ {w0 : World}, At w [] w0 → (∀ w', At w [] w' → (At w [] w' ∧ ∃ t' : List Int, strOfNums (p ++ (t ++ [48 + x / k])) = strOfNums (p ++ t') ∧ ((x % k = r ∧ k / 10 = 100 ∧ t' = []) ∨ (x % k = r % 100 ∧ k / 10 = 10 ∧ t' = [48 + r / 100]) ∨ (x % k = r % 10 ∧ k / 10 = 1 ∧ t' = [48 + r / 100, 48 + r / 10 % 10] ∧ r % 100 ≠ 0) ∨ (x % k = 0 ∧ k / 10 = 0 ∧ t' = [48 + r / 100, 48 + r / 10 % 10, 48 + r % 10] ∧ r % 10 ≠ 0)))) →
        ∃ x11, Gives Tryd.prog (binOpS BinOp.quo 2 (Operand.tmp 27) (Operand.tmp 28) (.int .i64 x) (.int .i64 k)) (.int .i64 x11) ∧ Calls Tryd.prog 74 #[.int .i64 x11] w0 fun e w13 => ∃ s14, e = .returned (.string s14) ∧ ∃ s15, Gives Tryd.prog (binOpS BinOp.add 9 (Operand.tmp 26) (Operand.tmp 30) (.string (strOfNums (p ++ t))) (.string s14)) (.string s15) ∧ ∃ x16, Gives Tryd.prog (binOpS BinOp.rem 2 (Operand.tmp 32) (Operand.tmp 33) (.int .i64 x) (.int .i64 k)) (.int .i64 x16) ∧
          (At w [] w13 ∧ ∃ t' : List Int, s15 = strOfNums (p ++ t') ∧ ((x16 = r ∧ IntKind.i64.wrap (k.tdiv 10) = 100 ∧ t' = []) ∨ (x16 = r % 100 ∧ IntKind.i64.wrap (k.tdiv 10) = 10 ∧ t' = [48 + r / 100]) ∨ (x16 = r % 10 ∧ IntKind.i64.wrap (k.tdiv 10) = 1 ∧ t' = [48 + r / 100, 48 + r / 10 % 10] ∧ r % 100 ≠ 0) ∨ (x16 = 0 ∧ IntKind.i64.wrap (k.tdiv 10) = 0 ∧ t' = [48 + r / 100, 48 + r / 10 % 10, 48 + r % 10] ∧ r % 10 ≠ 0))) ∧ (IntKind.i64.wrap (k.tdiv 10)).toNat < k.toNat := by
      intro x k t hx hk hk2 hd hx2 ht w0 hA hfin
      have l0 : 0 ≤ x / k := Int.ediv_nonneg (by omega) (by omega)
      refine ⟨_, gives_quo (by omega), ?_⟩
      rw [Int.tdiv_eq_ediv_of_nonneg (by omega), wrap_i64 (by omega) (by omega)]
      refine at_call hA (c74 _ _ (by omega)) (fun w13 hA _ => ⟨_, rfl, _, gives_sadd (by rw [strOfNums_size, strOfNums_size, digit1 ⟨l0, hd⟩]; simp; omega), _, gives_rem (by omega), ?_⟩)
      rw [digit1 ⟨l0, hd⟩, strOfNums_append, List.append_assoc, Int.tmod_eq_emod_of_nonneg (by omega), Int.tdiv_eq_ediv_of_nonneg (by omega), wrap_i64 (x := k / 10) (by omega) (by omega)]
      exact ⟨hfin w13 hA, by omega⟩
    refine brD (fun hpos => ?_) (fun hneg => ?_)
    · rcases hst with ⟨rfl, rfl, rfl⟩ | ⟨rfl, rfl, rfl⟩ | ⟨rfl, rfl, rfl, hne⟩ | ⟨rfl, rfl, rfl, hne⟩
      · refine round hpos (by omega) (by omega) (by omega) (by omega) (by simp) hA fun w' hA => ⟨hA, _, rfl, .inr (.inl ⟨rfl, rfl, rfl⟩)⟩
      · refine round hpos (by omega) (by omega) (by omega) (by omega) (by simp) hA fun w' hA => ⟨hA, _, rfl, .inr (.inr (.inl ⟨by omega, rfl, ?_, by omega⟩))⟩
        rw [show r % 100 / 10 = r / 10 % 10 by omega]
        rfl
      · refine round hpos (by omega) (by omega) (by omega) (by omega) (by simp) hA fun w' hA => ⟨hA, _, rfl, .inr (.inr (.inr ⟨by omega, rfl, ?_, by omega⟩))⟩
        rw [show r % 10 / 1 = r % 10 by omega]
        rfl
      · omega
    · refine leaf h hA ?_
      rcases hst with ⟨rfl, rfl, rfl⟩ | ⟨rfl, rfl, rfl⟩ | ⟨rfl, rfl, rfl, hne⟩ | ⟨rfl, rfl, rfl, hne⟩
      · omega
      · rw [frac3, if_pos (by omega), if_pos (by omega)]
      · rw [frac3, if_pos (by omega), if_neg (by omega)]
      · rw [frac3, if_neg hne]
end Go.Vc.VD

/- Own text of this claim: G4a. -/
set_option maxRecDepth 20000
namespace Go.Vc.VD
open Go Go.Vc Go.Vc.V Go.RowKit Go.Proofs Vcx

def qtimes (a n most : Int) : Int × Bool := if a < 0 ∨ n < 0 ∨ most < 0 ∨ (a > 0 ∧ n > most / a) then (0, false) else (a * n, true)

theorem times_fits {a n most : Int} (hm : I64 most) (hn : I64 n) (h : ¬ (a < 0 ∨ n < 0 ∨ most < 0 ∨ (a > 0 ∧ n > most / a))) : 0 ≤ a * n ∧ (a * n ≤ most ∨ a = 0) ∧ IntKind.i64.wrap (a * n) = a * n := by
  have h0 : 0 ≤ a * n := Int.mul_nonneg (by omega) (by omega)
  rcases Int.lt_or_eq_of_le (show 0 ≤ a by omega) with ha | ha
  · have h1 : n ≤ most / a := by omega
    have h2 : a * n ≤ a * (most / a) := Int.mul_le_mul_of_nonneg_left h1 (by omega)
    have h3 := Int.mul_ediv_self_le (x := most) (k := a) (by omega)
    exact ⟨h0, .inl (by omega), wrap_i64 (by omega) (by omega)⟩
  · subst ha
    simp
    decide

theorem c66 (a n most : Int) (hn : I64 n) (hm : I64 most) (w : World) : Ret Tryd.prog 66 #[.int .i64 a, .int .i64 n, .int .i64 most] w (pairV (qtimes a n most)) := by
  intro R h
  refine f66_calls a n most w R ?_
  unfold f66_vc
  have hA := At.refl w
  unfold qtimes at h
  refine brD (fun h1 => leaf h hA (by rw [if_pos (.inl h1)])) (fun h1 => ?_)
  refine brD (fun h2 => leaf h hA (by rw [if_pos (.inr (.inl h2))])) (fun h2 => ?_)
  refine brD (fun h3 => leaf h hA (by rw [if_pos (.inr (.inr (.inl h3)))])) (fun h3 => ?_)
  refine brD (fun h4 => ⟨_, gives_quo (by omega), ?_⟩) (fun h4 => ?_)
  · have l1 := Int.ediv_nonneg (show 0 ≤ most by omega) (show 0 ≤ a by omega)
    have l2 := Int.ediv_le_self (a := most) a (by omega)
    rw [Int.tdiv_eq_ediv_of_nonneg (by omega), wrap_i64 (x := most / a) (by omega) (by omega)]
    refine brD (fun h5 => leaf h hA (by rw [if_pos (.inr (.inr (.inr ⟨h4, h5⟩)))])) (fun h5 => ?_)
    have hno : ¬ (a < 0 ∨ n < 0 ∨ most < 0 ∨ (a > 0 ∧ n > most / a)) := by omega
    exact leaf h hA (by rw [if_neg hno, (times_fits hm hn hno).2.2])
  · have hno : ¬ (a < 0 ∨ n < 0 ∨ most < 0 ∨ (a > 0 ∧ n > most / a)) := by omega
    exact leaf h hA (by rw [if_neg hno, (times_fits hm hn hno).2.2])

end Go.Vc.VD

