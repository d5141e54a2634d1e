/- Several texts in one: Shelf, IntMem, WarpAt. -/
import Derived.Shelf.Sort.Plain
import Derived.Shelf.Slices.CompactI
import Derived.Shelf.Slices.In.SortNone
import Derived.Ground.Names2Prog
import Derived.Ground.NamesProg
import Derived.Shelf.SlSortCmp.WholeK
import Derived.Shelf.SlSortCmp.NoneTotal
import Derived.Ground.SlsfProg
import Derived.Test.YtdpibehpmghghaaGreatProg
import Derived.Test.YtdpibehpmghghaaGreatBd3704f51cb5
import Derived.Test.YtdpibehpmghghaaGreatBdbca928d534
import Derived.Test.YtdpibehpmghghaaGreatBd6068468490
import Derived.Test.YtdpibehpmghghaaGreatBd0a10e81a0b
/-
  DERIVED: THE SHELF's CONTRACTS AT THIS DUMP, IN PLAIN WORDS (tools/lay-plain.mjs out of 'TryShelfB.lean', which tools/lay-shelf.mjs wrote): THE SAME DECLARATIONS UNDER THE SAME NAMES: 'import', 'namespace', 'open', 'def', 'theorem' AND NOTHING ELSE: no command of the shelf's: FOR A HAND-IN. Each laying: the table of numbers ('.._ren') and one theorem, a field a fact of the dump's own or the kernel's comparison; each contract: ONE APPLICATION.
-/
namespace Go.Proofs
open Go.Shelf
def Tryz.lays189_ren : Go.Shelf.Ren := ⟨fun | 189 => 86 | 125 => 111 | 257 => 110 | 128 => 129 | 129 => 130 | 294 => 120 | 295 => 121 | 296 => 122 | 297 => 123 | 298 => 124 | 299 => 125 | 216 => 126 | 300 => 127 | 301 => 128 | 328 => 136 | 329 => 137 | 330 => 138 | 331 => 139 | 332 => 140 | 215 => 141 | 343 => 156 | n => n, fun | 28 => 38 | 3 => 3 | 46 => 160 | 0 => 0 | 51 => 126 | 53 => 123 | 4 => 4 | 183 => 196 | 182 => 195 | 131 => 43 | 5 => 5 | 9 => 9 | 218 => 210 | 222 => 213 | 228 => 228 | 229 => 137 | n => n, fun | n => n⟩
theorem Tryz.lays189 : Go.Proofs.Lays.n189 Tryz.prog Tryz.lays189_ren := {
  mixed := by kernel_rfl
  f125 := Tryz.func111.trans (congrArg some (by kernel_rfl))
  f128 := Tryz.func129.trans (congrArg some (by kernel_rfl))
  f129 := Tryz.func130.trans (congrArg some (by kernel_rfl))
  f189 := Tryz.func86.trans (congrArg some (by kernel_rfl))
  f215 := Tryz.func141.trans (congrArg some (by kernel_rfl))
  f216 := Tryz.func126.trans (congrArg some (by kernel_rfl))
  f257 := Tryz.func110.trans (congrArg some (by kernel_rfl))
  f294 := Tryz.func120.trans (congrArg some (by kernel_rfl))
  f295 := Tryz.func121.trans (congrArg some (by kernel_rfl))
  f296 := Tryz.func122.trans (congrArg some (by kernel_rfl))
  f297 := Tryz.func123.trans (congrArg some (by kernel_rfl))
  f298 := Tryz.func124.trans (congrArg some (by kernel_rfl))
  f299 := Tryz.func125.trans (congrArg some (by kernel_rfl))
  f300 := Tryz.func127.trans (congrArg some (by kernel_rfl))
  f301 := Tryz.func128.trans (congrArg some (by kernel_rfl))
  f328 := Tryz.func136.trans (congrArg some (by kernel_rfl))
  f329 := Tryz.func137.trans (congrArg some (by kernel_rfl))
  f330 := Tryz.func138.trans (congrArg some (by kernel_rfl))
  f331 := Tryz.func139.trans (congrArg some (by kernel_rfl))
  f332 := Tryz.func140.trans (congrArg some (by kernel_rfl))
  f343 := Tryz.func156.trans (congrArg some (by kernel_rfl))
  t0 := Tryz.underlying0
  a0 := Tryz.isAgg0
  z0 := Tryz.sizeOf0
  v0 := Tryz.zeroValue0
  t3 := Tryz.underlying3
  a3 := Tryz.isAgg3
  z3 := Tryz.sizeOf3
  v3 := Tryz.zeroValue3
  t4 := Tryz.underlying4
  a4 := Tryz.isAgg4
  z4 := Tryz.sizeOf4
  v4 := Tryz.zeroValue4
  t5 := Tryz.underlying5
  a5 := Tryz.isAgg5
  z5 := Tryz.sizeOf5
  v5 := Tryz.zeroValue5
  t9 := Tryz.underlying9
  a9 := Tryz.isAgg9
  z9 := Tryz.sizeOf9
  v9 := Tryz.zeroValue9
  t28 := Tryz.underlying38
  a28 := Tryz.isAgg38
  z28 := Tryz.sizeOf38
  v28 := Tryz.zeroValue38
  t46 := Tryz.underlying160
  a46 := Tryz.isAgg160
  z46 := Tryz.sizeOf160
  v46 := Tryz.zeroValue160
  t51 := Tryz.underlying126
  a51 := Tryz.isAgg126
  z51 := Tryz.sizeOf126
  v51 := Tryz.zeroValue126
  t53 := Tryz.underlying123
  a53 := Tryz.isAgg123
  z53 := Tryz.sizeOf123
  v53 := Tryz.zeroValue123
  t131 := Tryz.underlying43
  a131 := Tryz.isAgg43
  z131 := Tryz.sizeOf43
  v131 := Tryz.zeroValue43
  t182 := Tryz.underlying195
  a182 := Tryz.isAgg195
  z182 := Tryz.sizeOf195
  v182 := Tryz.zeroValue195
  t183 := Tryz.underlying196
  a183 := Tryz.isAgg196
  z183 := Tryz.sizeOf196
  v183 := Tryz.zeroValue196
  t218 := Tryz.underlying210
  a218 := Tryz.isAgg210
  z218 := Tryz.sizeOf210
  v218 := Tryz.zeroValue210
  t222 := Tryz.underlying213
  a222 := Tryz.isAgg213
  z222 := Tryz.sizeOf213
  v222 := Tryz.zeroValue213
  t228 := Tryz.underlying228
  a228 := Tryz.isAgg228
  z228 := Tryz.sizeOf228
  v228 := Tryz.zeroValue228
  t229 := Tryz.underlying137
  a229 := Tryz.isAgg137
  z229 := Tryz.sizeOf137
  v229 := Tryz.zeroValue137 }
open Go.Sort Go.RowKit in
theorem Tryz.slices_Sort_int (blk off cap : Nat) (zs : List Int) (w : World) (hH : Holds (Value.int .i64) w blk off zs.toArray) (hblk : blk < w.heap.size) (hsz : zs.length < 4611686018427387904) :
    Calls Tryz.prog 86 #[.slice (some ⟨blk, off, none⟩) zs.length cap] w fun e w' =>
      e = .returned (.tuple #[]) ∧ ∃ n os, w' = grow (putRow (Value.int .i64) (Sort.ahead w n) blk off (zs.mergeSort fun x y => decide (x ≤ y)).toArray) os := Any.slices_Sort_int Tryz.lays189 blk off cap zs w hH hblk hsz
def Tryz.laysNm220_ren : Go.Shelf.Ren := ⟨fun | 20 => 87 | n => n, fun | 22 => 38 | 3 => 3 | 4 => 4 | 0 => 0 | n => n, fun | n => n⟩
theorem Tryz.laysNm220 : Go.Proofs.Lays2.n20 Tryz.prog Tryz.laysNm220_ren := {
  mixed := by kernel_rfl
  f20 := Tryz.func87.trans (congrArg some (by kernel_rfl))
  t0 := Tryz.underlying0
  a0 := Tryz.isAgg0
  z0 := Tryz.sizeOf0
  v0 := Tryz.zeroValue0
  t3 := Tryz.underlying3
  a3 := Tryz.isAgg3
  z3 := Tryz.sizeOf3
  v3 := Tryz.zeroValue3
  t4 := Tryz.underlying4
  a4 := Tryz.isAgg4
  z4 := Tryz.sizeOf4
  v4 := Tryz.zeroValue4
  t22 := Tryz.underlying38
  a22 := Tryz.isAgg38
  z22 := Tryz.sizeOf38
  v22 := Tryz.zeroValue38
  i3 := by kernel_rfl }
open Go.RowKit Go.Lib Go.Sort in
/-- slices.Compact at []int, over an array: the library's two loops are walked. (LAID: no walk: one application.) -/
theorem Tryz.slices_Compact_int_arr (blk off cap : Nat) (d : Array Int) (w : World) (hH : Holds encI w blk off d) (hsz : d.size ≤ 9223372036854775807) (hcap : d.size ≤ cap) :
    Calls Tryz.prog 87 #[.slice (some ⟨blk, off, none⟩) d.size cap] w fun e w' => e = .returned (.slice (some ⟨blk, off, none⟩) (compactUpTo d d.size).length cap) ∧ ∃ q, w' = putRow encI (Sort.ahead w q) blk off (compactUpTo d d.size ++ List.replicate (d.size - (compactUpTo d d.size).length) 0).toArray := Any.slices_Compact_int_arr Tryz.laysNm220 blk off cap d w hH hsz hcap
open Go.RowKit Go.Lib Go.Sort in
/-- slices.Compact at []int: "Compact replaces consecutive runs of equal elements with a single copy. This is like the uniq command found on Unix. Compact modifies the contents of the slice s and returns the modified slice, which may have a smaller length. Compact zeroes the elements between the new length and the original length. The result preserves the nilness of s.": IT RETURNS THE SLICE CUT TO 'Lib.compact zs'; ITS CELLS HOLD 'Lib.compact zs', THEN ZERO VALUES up to the old length; all else is as it was, but for the count of draws. IN THE WORDS OF slices.Sort's CONTRACT ('Holds', 'putRow'): so the everyday 'slices.Sort(xs); xs = slices.Compact(xs)' goes from the one contract to the other. It asks 'zs.length ≤ cap' (every slice's: the reslicing 's[:k]' looks at it). Length 0, nil: '.._empty'. (LAID: no walk: one application.) -/
theorem Tryz.slices_Compact_int (blk off cap : Nat) (zs : List Int) (w : World) (hH : Holds (Value.int .i64) w blk off zs.toArray) (hsz : zs.length ≤ 9223372036854775807) (hcap : zs.length ≤ cap) :
    Calls Tryz.prog 87 #[.slice (some ⟨blk, off, none⟩) zs.length cap] w fun e w' => e = .returned (.slice (some ⟨blk, off, none⟩) (Lib.compact zs).length cap) ∧ ∃ q, w' = putRow (Value.int .i64) (Sort.ahead w q) blk off (Lib.compact zs ++ List.replicate (zs.length - (Lib.compact zs).length) 0).toArray := Any.slices_Compact_int Tryz.laysNm220 blk off cap zs w hH hsz hcap
open Go.RowKit Go.Lib Go.Sort in
/-- The same at a slice of length 0, a nil one too: it comes back as it is. (LAID: no walk: one application.) -/
theorem Tryz.slices_Compact_int_empty (a : Option Addr) (cap : Nat) (w : World) :
    Calls Tryz.prog 87 #[.slice a 0 cap] w fun e w' => e = .returned (.slice a 0 cap) ∧ w' = w := Any.slices_Compact_int_empty Tryz.laysNm220 a cap w
open Go.RowKit Go.Sort in
/-- .. and plain. (LAID: no walk: one application.) -/
theorem Tryz.slices_Sort_int_none (p : Option Addr) (cap : Nat) (w : World) :
    Calls Tryz.prog 86 #[.slice p 0 cap] w fun e w' => e = .returned (.tuple #[]) ∧ w' = w := Any.slices_Sort_int_none Tryz.lays189 p cap w
def Tryz.sortIvl_ren : Go.Shelf.Ren := ⟨fun | 6 => 162 | 15 => 111 | 14 => 165 | 28 => 129 | 29 => 130 | 20 => 166 | 21 => 167 | 22 => 168 | 23 => 169 | 24 => 170 | 25 => 171 | 26 => 172 | 27 => 173 | 46 => 174 | 47 => 137 | 48 => 138 | 49 => 175 | 50 => 176 | 57 => 177 | n => n, fun | 22 => 22 | 24 => 107 | 25 => 234 | 3 => 3 | 39 => 160 | 0 => 0 | 53 => 126 | 55 => 123 | 4 => 4 | 46 => 196 | 45 => 195 | 50 => 43 | 5 => 5 | 9 => 9 | 66 => 210 | 70 => 213 | 76 => 228 | 77 => 137 | n => n, fun | n => n⟩
theorem Tryz.sortIvl : Go.Proofs.SlLaysF0.n6 Tryz.prog Tryz.sortIvl_ren := {
  mixed := by kernel_rfl
  f6 := ⟨Tryz.f162.name, by decide, Tryz.func162.trans (congrArg some (by kernel_rfl))⟩
  f14 := ⟨Tryz.f165.name, by decide, Tryz.func165.trans (congrArg some (by kernel_rfl))⟩
  f15 := Tryz.func111.trans (congrArg some (by kernel_rfl))
  f20 := ⟨Tryz.f166.name, by decide, Tryz.func166.trans (congrArg some (by kernel_rfl))⟩
  f21 := ⟨Tryz.f167.name, by decide, Tryz.func167.trans (congrArg some (by kernel_rfl))⟩
  f22 := ⟨Tryz.f168.name, by decide, Tryz.func168.trans (congrArg some (by kernel_rfl))⟩
  f23 := ⟨Tryz.f169.name, by decide, Tryz.func169.trans (congrArg some (by kernel_rfl))⟩
  f24 := ⟨Tryz.f170.name, by decide, Tryz.func170.trans (congrArg some (by kernel_rfl))⟩
  f25 := ⟨Tryz.f171.name, by decide, Tryz.func171.trans (congrArg some (by kernel_rfl))⟩
  f26 := ⟨Tryz.f172.name, by decide, Tryz.func172.trans (congrArg some (by kernel_rfl))⟩
  f27 := ⟨Tryz.f173.name, by decide, Tryz.func173.trans (congrArg some (by kernel_rfl))⟩
  f28 := Tryz.func129.trans (congrArg some (by kernel_rfl))
  f29 := Tryz.func130.trans (congrArg some (by kernel_rfl))
  f46 := ⟨Tryz.f174.name, by decide, Tryz.func174.trans (congrArg some (by kernel_rfl))⟩
  f47 := Tryz.func137.trans (congrArg some (by kernel_rfl))
  f48 := Tryz.func138.trans (congrArg some (by kernel_rfl))
  f49 := ⟨Tryz.f175.name, by decide, Tryz.func175.trans (congrArg some (by kernel_rfl))⟩
  f50 := ⟨Tryz.f176.name, by decide, Tryz.func176.trans (congrArg some (by kernel_rfl))⟩
  f57 := ⟨Tryz.f177.name, by decide, Tryz.func177.trans (congrArg some (by kernel_rfl))⟩
  t0 := Tryz.underlying0
  a0 := Tryz.isAgg0
  z0 := Tryz.sizeOf0
  v0 := Tryz.zeroValue0
  t3 := Tryz.underlying3
  a3 := Tryz.isAgg3
  z3 := Tryz.sizeOf3
  v3 := Tryz.zeroValue3
  t4 := Tryz.underlying4
  a4 := Tryz.isAgg4
  z4 := Tryz.sizeOf4
  v4 := Tryz.zeroValue4
  t5 := Tryz.underlying5
  a5 := Tryz.isAgg5
  z5 := Tryz.sizeOf5
  v5 := Tryz.zeroValue5
  t9 := Tryz.underlying9
  a9 := Tryz.isAgg9
  z9 := Tryz.sizeOf9
  v9 := Tryz.zeroValue9
  t22 := Tryz.underlying22
  a22 := Tryz.isAgg22
  z22 := Tryz.sizeOf22
  v22 := Tryz.zeroValue22
  t25 := Tryz.underlying234
  a25 := Tryz.isAgg234
  z25 := Tryz.sizeOf234
  v25 := Tryz.zeroValue234
  t39 := Tryz.underlying160
  a39 := Tryz.isAgg160
  z39 := Tryz.sizeOf160
  v39 := Tryz.zeroValue160
  t45 := Tryz.underlying195
  a45 := Tryz.isAgg195
  z45 := Tryz.sizeOf195
  v45 := Tryz.zeroValue195
  t46 := Tryz.underlying196
  a46 := Tryz.isAgg196
  z46 := Tryz.sizeOf196
  v46 := Tryz.zeroValue196
  t50 := Tryz.underlying43
  a50 := Tryz.isAgg43
  z50 := Tryz.sizeOf43
  v50 := Tryz.zeroValue43
  t53 := Tryz.underlying126
  a53 := Tryz.isAgg126
  z53 := Tryz.sizeOf126
  v53 := Tryz.zeroValue126
  t55 := Tryz.underlying123
  a55 := Tryz.isAgg123
  z55 := Tryz.sizeOf123
  v55 := Tryz.zeroValue123
  t66 := Tryz.underlying210
  a66 := Tryz.isAgg210
  z66 := Tryz.sizeOf210
  v66 := Tryz.zeroValue210
  t70 := Tryz.underlying213
  a70 := Tryz.isAgg213
  z70 := Tryz.sizeOf213
  v70 := Tryz.zeroValue213
  t76 := Tryz.underlying228
  a76 := Tryz.isAgg228
  z76 := Tryz.sizeOf228
  v76 := Tryz.zeroValue228
  t77 := Tryz.underlying137
  a77 := Tryz.isAgg137
  z77 := Tryz.sizeOf137
  v77 := Tryz.zeroValue137 }
end Go.Proofs
/- Lists of ints that a call owns; how they are sorted. -/
namespace Go.Proofs.YtdpibehpmghghaaGreat
open Go.RowKit Go.Sort

def intEnc (n : Int) : List Value := [.int .i64 n]
theorem intEnc_len (x : Int) : (intEnc x).length = 1 := rfl
theorem int_one1 {a : Int} : ∀ u ∈ (#[.int .i64 a] : Array Value).toList, u.oneCell' = true := by simp [Value.oneCell']
theorem int_one2 {a b : Int} : ∀ u ∈ (#[.int .i64 a, .int .i64 b] : Array Value).toList, u.oneCell' = true := by simp [Value.oneCell']
theorem info_int1 : (Tryz.prog.info? 3).map (fun i => (i.zero, i.size, i.bytes)) = some (some (.int .i64 0), 1, 8) := by kernel_rfl
theorem info_int2 : ∃ i, Tryz.prog.info? 3 = some i ∧ i.zero = some (.int .i64 0) ∧ i.size = 1 ∧ i.bytes = 8 := by
  obtain ⟨i0, hi, hzz⟩ := Option.map_eq_some_iff.1 info_int1
  simp only [Prod.mk.injEq] at hzz
  exact ⟨i0, hi, hzz.1, hzz.2.1, hzz.2.2⟩
structure IntsAt (w : World) (A : Option Addr) (c : Nat) (l : List Int) : Prop where
  lc : l.length ≤ c
  cm : c ≤ maxLen
  sl : SlAt RInt 1 w A l
section
variable {w w' : World} {A : Option Addr} {c k base g n : Nat} {l : List Int} {v : Value}
theorem IntsAt.ext (h : IntsAt w A c l) (hb : Below w.heap.size w w') : IntsAt w' A c l := ⟨h.lc, h.cm, h.sl.ext RInt.stable hb⟩
theorem IntsAt.len (h : IntsAt w A c l) : l.length ≤ 9223372036854775807 := Nat.le_trans h.lc h.cm
theorem IntsAt.get (h : IntsAt w A c l) {x : Int} (hx : l[k]? = some x) : ∃ b off, A = some ⟨b, off, none⟩ ∧ b < w.heap.size ∧ w.cell? ⟨b, off + k, none⟩ = some (.int .i64 x) := by
  obtain ⟨b, off, hS⟩ := h.sl
  obtain ⟨h1, h2, h3, _⟩ := hS k x hx
  rw [Nat.mul_one] at h3
  exact ⟨b, off, h1, h2, h3⟩
theorem IntsAt.i64 (h : IntsAt w A c l) : ∀ x, x ∈ l → I64 x := fun x hx => by
  obtain ⟨k, hk⟩ := List.getElem?_of_mem hx
  obtain ⟨b, off, hS⟩ := h.sl
  exact (hS k x hk).2.2.2
theorem own_ints (h : Own intEnc 1 w base 3 v l) (hi : ∀ x, x ∈ l → I64 x) : ∃ A c, v = .slice A l.length c ∧ IntsAt w A c l := by
  obtain ⟨A, c, hv, hS⟩ := Own.slAt (R := RInt) (enc := intEnc) (fun _ => rfl) (fun x hx b o hc => ⟨by have := hc 0 _ rfl; simpa using this, hi x hx⟩) h
  subst hv
  exact ⟨A, c, rfl, h.room.1, h.room.2, hS⟩
theorem IntsAt.flat {b off : Nat} (h : IntsAt w (some ⟨b, off, none⟩) c l) : ∀ (j : Nat) u, (l.flatMap intEnc)[j]? = some u → w.cell? ⟨b, off + j, none⟩ = some u := fun j u hu => by
  have hj : j < l.length := by have := lt_of_get hu; rw [flat_length intEnc_len] at this; omega
  obtain ⟨x, hx⟩ := get_lt hj
  obtain ⟨b', off', e, _, h0⟩ := h.get hx
  obtain ⟨rfl, rfl⟩ : b = b' ∧ off = off' := by simpa using e
  have h4 := flat_at intEnc_len hx (show 0 < 1 by decide)
  rw [Nat.mul_one, Nat.add_zero, hu] at h4
  rw [h0, h4]
  rfl
theorem ints_one (l : List Int) : ∀ u ∈ l.flatMap intEnc, u.oneCell' = true := fun u hu => by
  obtain ⟨x, _, hx⟩ := List.mem_flatMap.1 hu
  simp only [intEnc, List.mem_cons, List.not_mem_nil, or_false] at hx
  rw [hx]; rfl
theorem flatK_int (d : Array Int) (t : Nat) (h : t < d.size) : (flatK intEnc 1 d)[t]! = .int .i64 d[t]! := by
  rw [get_flatK _ _ _ _ (by omega), Nat.div_one, Nat.mod_one]
  rfl
theorem holds_int {d : Array Int} (h : HoldsK intEnc 1 w g 0 d) : Holds (Value.int .i64) w g 0 d := fun j hj => by
  have := h j (by rw [size_flatK]; omega)
  rw [flatK_int d j hj] at this
  exact this
theorem putRow_int (d : Array Int) : putRow (Value.int .i64) w g 0 d = putRowK intEnc 1 w g 0 d := by
  unfold putRowK putRow
  congr 1
  funext c
  unfold putCells
  refine Array.ext (by simp) fun i h1 h2 => ?_
  simp only [Array.getElem_mapIdx, Nat.zero_le, true_and, Nat.zero_add, Nat.sub_zero, size_flatK, Nat.mul_one, id]
  by_cases hi : i < d.size
  · rw [if_pos hi, if_pos hi, flatK_int d i hi]
  · rw [if_neg hi, if_neg hi]
end
def SortedOut (l : List Int) (v : Value) (w : World) (base : Nat) (e : Ending) (w' : World) : Prop := e = .returned (.tuple #[]) ∧ ∃ r, (∀ x, x ∈ r ↔ x ∈ l) ∧ r.length = l.length ∧ r.Pairwise (· ≤ ·) ∧ Own intEnc 1 w' base 3 v r ∧ Below base w w'
theorem sortInts_any (v : Value) (l : List Int) (w : World) (base : Nat) (hown : Own intEnc 1 w base 3 v l) (hbase : base ≤ w.heap.size) (hl : l.length ≤ 100000) :
    Calls Tryz.prog 86 #[v] w (SortedOut l v w base) := by
  rcases hown.2 with ⟨hv, h0⟩ | ⟨g, cap, cur, hv, hg, hh, _⟩
  · rw [hv]
    have h0' : l = [] := List.eq_nil_of_length_eq_zero h0
    refine (Tryz.slices_Sort_int_none none 0 w).mono fun e w' ⟨he, hw⟩ => ⟨he, [], by simp [h0'], by simp [h0'], by simp, by subst hw; rw [← hv, ← h0']; exact hown, by rw [hw]; exact Below.refl _ _⟩
  · have hlt : g < w.heap.size := by
      rcases Nat.lt_or_ge g w.heap.size with hlt | hge
      · exact hlt
      · rw [Array.getElem?_eq_none hge] at hh; cases hh
    rw [hv] at hown ⊢
    have hH := holds_int (hown.holdsK (sz := 1) (fun _ => rfl) (by decide))
    refine (Tryz.slices_Sort_int g 0 cap l w hH hlt (by omega)).mono fun e w' ⟨he, n, os, hw⟩ => ?_
    have hsz : (l.mergeSort fun x y => decide (x ≤ y)).length = l.length := List.length_mergeSort _
    refine ⟨he, l.mergeSort fun x y => decide (x ≤ y), fun x => List.mem_mergeSort, hsz, ?_, ?_, ?_⟩
    · have h1 := List.pairwise_mergeSort (le := fun x y : Int => decide (x ≤ y)) (fun a b c h1 h2 => by simp at *; omega) (fun a b => by simp; omega) l
      exact h1.imp fun h => by simpa using h
    · rw [hw, putRow_int]
      exact hown.sortWorld (sz := 1) (m := n) (os := os) (fun _ => rfl) (by decide) hsz
    · rw [hw, putRow_int]
      exact below_sort hg hbase
end Go.Proofs.YtdpibehpmghghaaGreat
/- The walk of warp.at: what is there at a time. -/
namespace Go.Proofs.YtdpibehpmghghaaGreat
open Go.RowKit Go.Shelf

/-- A result that lies in a cell of its own. -/
theorem results_cellS {fn : Func} {p : Tmp} {ty : TypeId} (h : fn.results = #[.cell p ty]) (tmps : Array Value) (P : Program) (w : World) (b : Nat) (t : TypeId) (cs : Array Value) {d : _} (hp : tmps.getD p undef = .pointer (some ⟨b, 0, none⟩)) (hb : Blk w b t cs)
    (hu : P.underlying ty = some (.struct d)) (hi : (P.info? ty).map (·.size) = some cs.size) : (results fn tmps).run P w = .ok (.agg cs) w := by
  have hl := run_loadVar_row (P := P) w b t ty cs (0, 0) (.struct d) hb hu rfl hi
  have hp2 : tmps[p]?.getD undef = .pointer (some ⟨b, 0, none⟩) := by rw [← hp]; simp
  simp only [results, h]
  simp [Sem.run_bind, Result.andThen, hp2, asAddr, hl]
theorem info_moment : (Tryz.prog.info? 218).map (·.size) = some 3 := by kernel_rfl
def momC (A : Option Addr) (n c : Nat) (o : Option Int) : Array Value := #[.slice A n c, .int .i64 (o.getD 0), .bool o.isSome]
def momV (A : Option Addr) (n c : Nat) (o : Option Int) : Value := .agg (momC A n c o)
theorem which_i64 {l : List PieceD} {t : Int} {n : Nat} (hl : n ≤ 1000000) : ∀ x, x ∈ whichK l t n → I64 x := fun x hx => by
  obtain ⟨h1, h2, _⟩ := mem_whichK hx
  unfold I64
  omega
/-- What a call owns lies in a block of its own. -/
theorem own_fresh' {α : Type} {enc : α → List Value} {k : Nat} {w : World} {base : Nat} {t : TypeId} {A : Option Addr} {n c : Nat} {l : List α} (h : Own enc k w base t (.slice A n c) l) : ∀ b, A = some b → base ≤ b.block := by
  rintro b rfl
  rcases h.2 with ⟨h2, _⟩ | ⟨g, cap, cur, hv, hg, _⟩
  · simp at h2
  · simp only [Value.slice.injEq, Option.some.injEq] at hv
    rw [hv.1]; exact hg
theorem ints_keep {w w' : World} {A : Option Addr} {c B : Nat} {l : List Int} (h : IntsAt w A c l) (hf : ∀ b, A = some b → B ≤ b.block) (hs : w.heap.size ≤ w'.heap.size) (hk : ∀ k, B ≤ k → k < w.heap.size → w'.heap[k]? = w.heap[k]?) : IntsAt w' A c l := by
  obtain ⟨x, off, hS⟩ := h.sl
  refine ⟨h.lc, h.cm, x, off, fun i y hy => ?_⟩
  obtain ⟨h1, h2, h3, h4⟩ := hS i y hy
  exact ⟨h1, Nat.lt_of_lt_of_le h2 hs, (World.cell?_of_block (w := w) (hk x (hf _ h1) h2)).trans h3, h4⟩
theorem Own.set_far {α : Type} {enc : α → List Value} {k : Nat} {w : World} {base g : Nat} {e t : TypeId} {v : Value} {l : List α} {cs : Array Value} (h : Own enc k w base e v l) (hB : Blk w g t cs) (ht : t ≠ e) (i : Nat) (u : Value) : Own enc k (w.setCell ⟨g, i, none⟩ u) base e v l :=
  h.keep fun b cs' hb => hb.far (by
    rintro rfl
    unfold Blk at hb hB
    rw [hB] at hb
    cases hb
    exact ht rfl) u
def AtOut (state l : List PieceD) (t : Int) (w : World) (e : Ending) (w' : World) : Prop := ∃ A c base, e = .returned (momV A (whichL l t).length c (atM state t)) ∧ Own intEnc 1 w' base 3 (.slice A (whichL l t).length c) (whichL l t) ∧ w.heap.size ≤ base ∧ Below w.heap.size w w'

set_option maxRecDepth 100000 in
set_option maxHeartbeats 4000000 in
theorem warpAt_any (A B : Option Addr) (c d : Nat) (state l : List PieceD) (t : Int) (w : World) (hA : PiecesAt w A c state) (hB : PiecesAt w B d l) (hl : l.length ≤ 1000) :
    Calls Tryz.prog 146 #[.slice A state.length c, .slice B l.length d, .int .i64 t] w (AtOut state l t w) := by
  obtain ⟨i0, hi, hz0, hz1, hz2⟩ := info_int2
  have m1 := hA.len
  have m2 := hB.len
  have HA := Lib.hid hA; have HB := Lib.hid hB
  clear hA hB
  go_enter Tryz.func146, Tryz.ntmps146
  go_wp2_with fail
  obtain ⟨w0, hw0⟩ : ∃ w0, w0 = ((w.alloc (Obj.cells #[.slice none 0 0, .int .i64 0, .bool false] 218)).alloc (Obj.cells #[.slice none 0 0, .int .i64 0, .bool false] 218)) := ⟨_, rfl⟩
  have hb0 : Below w.heap.size w w0 := by rw [hw0]; go_grown
  have Br : Blk w0 w.heap.size 218 #[.slice none 0 0, .int .i64 0, .bool false] := by rw [hw0]; exact (Blk.new _ _ _).alloc _
  have Bm : Blk w0 (w.heap.size + 1) 218 #[.slice none 0 0, .int .i64 0, .bool false] := by rw [hw0]; exact Blk.new_ (by simp)
  have hz0w : w.heap.size + 2 = w0.heap.size := by rw [hw0]; simp
  rw [← hw0]
  clear hw0
  go_loopw [12] (fun x wr => ∃ (k : Nat) (v' : Value), k ≤ l.length ∧ x = .int .i64 k ∧ Blk wr (w.heap.size + 1) 218 #[v', .int .i64 0, .bool false] ∧ Own intEnc 1 wr w0.heap.size 3 v' (whichK l t k) ∧ Below (w.heap.size + 1) w0 wr ∧ w0.heap.size ≤ wr.heap.size) (fun x _ => l.length - (intOf x).toNat)
  case atStart => exact ⟨0, _, Nat.zero_le _, rfl, Bm, Own.nil, Below.refl _ _, Nat.le_refl _⟩
  case round =>
    clear Bm
    obtain ⟨k, v', hk, rfl, Bm, hO, hb, hzr⟩ := hrel
    have Br := Br.below hb (by omega)
    have hbw : Below w.heap.size w wr := hb0.trans (hb.mono (by omega))
    by_cases hlt : k < l.length
    case neg =>
      obtain rfl : k = l.length := by omega
      obtain ⟨Aw, cw, rfl⟩ := hO.form
      have HIW : Hid (Own intEnc 1 wr w0.heap.size 3 (.slice Aw (whichL l t).length cw) (whichL l t)) := Lib.hid hO
      have hAt := imapAt_any A c state t wr (HA.out.ext hbw)
      obtain ⟨N, hN⟩ : ∃ N, (whichK l t l.length).length = N := ⟨_, rfl⟩
      have HN : Hid ((whichL l t).length = N) := Lib.hid hN
      rw [hN] at Bm
      clear hO hN
      go_wp2_with fail
      refine hAt.mono ?_
      rintro e w1 ⟨rfl, hb1⟩
      have Bm1 := Bm.ext hb1
      have Br1 := Br.ext hb1
      obtain ⟨f1, f2, f3⟩ := Bm1.facts
      obtain ⟨g1, g2, g3⟩ := Br1.facts
      have HIW := Lib.hid (HIW.out.ext hb1)
      have hbw1 := ext_trans hbw hb1
      clear hAt Br Bm hb hbw hb1
      unfold atV
      obtain ⟨sv, hsv⟩ : ∃ x, (atM state t).getD 0 = x := ⟨_, rfl⟩
      obtain ⟨sb, hsb⟩ : ∃ x, (atM state t).isSome = x := ⟨_, rfl⟩
      rw [hsv, hsb]
      have HV := Lib.hid (And.intro hsv hsb)
      clear hsv hsb
      go_wp2_with fail
      have hne : w.heap.size ≠ w.heap.size + 1 := by omega
      have BR := (((((Br1.far (p := ⟨w.heap.size + 1, 1, none⟩) hne (.int .i64 sv)).far (p := ⟨w.heap.size + 1, 2, none⟩) hne (.bool sb)).set_ 0 (.slice Aw N cw)).set_ 1 (.int .i64 sv)).set_ 2 (.bool sb))
      refine bodyPost_ret (v := momV Aw N cw (atM state t)) ?_ rfl ?_
      · rw [show momV Aw N cw (atM state t) = .agg (((#[Value.slice none 0 0, .int .i64 0, .bool false].setIfInBounds 0 (.slice Aw N cw)).setIfInBounds 1 (.int .i64 sv)).setIfInBounds 2 (.bool sb)) from by unfold momV momC; rw [HV.out.1, HV.out.2]; rfl]
        exact results_cellS rfl _ _ _ w.heap.size 218 _ rfl BR Tryz.underlying218 (by simpa using info_moment)
      · refine ⟨Aw, cw, w0.heap.size, by rw [HN.out], ?_, by omega, ?_⟩
        · have b1 := Bm1.set_ 1 (.int .i64 sv)
          have b2 := b1.set_ 2 (.bool sb)
          have r2 := (Br1.far (p := ⟨w.heap.size + 1, 1, none⟩) hne (.int .i64 sv)).far (p := ⟨w.heap.size + 1, 2, none⟩) hne (.bool sb)
          have r3 := r2.set_ 0 (.slice Aw N cw)
          have r4 := r3.set_ 1 (.int .i64 sv)
          exact ((((HIW.out.set_far Bm1 (by decide) _ _).set_far b1 (by decide) _ _).set_far r2 (by decide) _ _).set_far r3 (by decide) _ _).set_far r4 (by decide) _ _
        · exact ((((hbw1.setCell (by simp) _).setCell (by simp) _).setCell (by simp) _).setCell (by simp) _).setCell (by simp) _
    case pos =>
      obtain ⟨x, hx⟩ := get_lt hlt
      obtain ⟨b, off, rfl, hb0', x0, x1, x2⟩ := (HB.out.ext hbw).get hx
      have HX := Lib.hid hx
      have hcl : (whichK l t k).length + 1 ≤ 1000000 := by have := which_len (l := l) (t := t) (n := k); omega
      clear hx
      by_cases h1 : x.f ≤ t
      case neg =>
        have hd1 : decide (x.f ≤ t) = false := by simpa using h1
        have HN : Hid (whichK l t (k + 1) = whichK l t k) := Lib.hid (by rw [whichK_succ HX.out, show inP x t = false by simp [inP]; omega]; simp)
        clear h1
        go_wp2_with fail
        go_roundw
        case rel => exact ⟨k + 1, v', by omega, by go_num, Bm.alloc _, by rw [HN.out]; exact hO.alloc _, hb.alloc (by omega) _, by simp; omega⟩
        case measure => simp [intOf]; omega
      case pos =>
      have hd1 : decide (x.f ≤ t) = true := by simpa using h1
      by_cases h2 : t < x.t
      case neg =>
        have hd2 : decide (t < x.t) = false := by simpa using h2
        have HN : Hid (whichK l t (k + 1) = whichK l t k) := Lib.hid (by rw [whichK_succ HX.out, show inP x t = false by simp [inP]; omega]; simp)
        clear h1 h2
        go_wp2_with fail
        go_roundw
        case rel => exact ⟨k + 1, v', by omega, by go_num, Bm.alloc _, by rw [HN.out]; exact hO.alloc _, hb.alloc (by omega) _, by simp; omega⟩
        case measure => simp [intOf]; omega
      case pos =>
        have hd2 : decide (t < x.t) = true := by simpa using h2
        have HN : Hid (whichK l t (k + 1) = whichK l t k ++ [(k : Int)]) := Lib.hid (by rw [whichK_succ HX.out, show inP x t = true by simp [inP]; omega]; simp)
        obtain ⟨acc, hacc⟩ : ∃ acc, acc = whichK l t k := ⟨_, rfl⟩
        have HACC := Lib.hid hacc
        rw [← hacc] at hO hcl
        have Bma := Bm.alloc (Obj.cells #[.int .i64 x.f, .int .i64 x.t, .int .i64 x.v] 147)
        obtain ⟨f1, f2, f3⟩ := Bma.facts
        clear h1 h2 hacc
        go_wp2_with (at_builtin; refine wpList_append_lie (enc := intEnc) rfl (.tmp 28) (.tmp 30) 38 rfl w0.heap.size 3 i0 _ 1 8 Tryz.underlying38 hi hz0 hz1 hz2 rfl (by decide) v' acc (k : Int) rfl (hO.alloc _) #[.int .i64 k] rfl (wr.heap.size + 1) (by simp) rfl rfl int_one1 hcl (by decide) (by simp; omega) ?_; intro gn cap w6 hown6 hb8 hkp hgn; have Bm6 := hkp _ _ _ Bma ((hO.alloc _).other Bma (by decide)); obtain ⟨e1, e2, e3⟩ := Bm6.facts)
        go_roundw
        case rel =>
          have hb9 : Below (w.heap.size + 1) w0 w6 := (hb.alloc (by omega) _).trans (hb8.mono (by omega))
          have hz9 := hb8.size
          exact ⟨k + 1, .slice (some ⟨gn, 0, none⟩) (acc.length + 1) cap, by omega, by go_num, Bm6.set_ 0 _, by rw [HN.out, ← HACC.out]; exact hown6.set_far Bm6 (by decide) _ _, hb9.setCell (Nat.le_refl _) _, by simp at hz9 ⊢; omega⟩
        case measure => simp [intOf]; omega
end Go.Proofs.YtdpibehpmghghaaGreat
