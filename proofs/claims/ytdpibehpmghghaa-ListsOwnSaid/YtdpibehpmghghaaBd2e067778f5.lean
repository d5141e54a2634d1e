/- Several texts in one: Shelf, IntMem, Bounds, Head, Held, Two. -/
import Derived.Shelf.Sort.Plain
import Derived.Shelf.Slices.CompactI
import Derived.Shelf.Slices.In.SortNone
import Derived.Ground.Names2Prog
import Derived.Ground.NamesProg
import Derived.Shelf.SlSortCmp.WholeK
import Derived.Shelf.SlSortCmp.NoneTotal
import Derived.Ground.SlsfProg
import Derived.Maps.AppendAt
import Derived.Lib.BufferMore
import Derived.BigQuiet
import Derived.OrdersHeld
import Derived.StillTail
import Derived.Deep.RegionHeld3
import Derived.Test.YtdpibehpmghghaaProg
import Derived.Test.YtdpibehpmghghaaBdbf1197d85f
import Derived.Test.YtdpibehpmghghaaBdb890da3d74
import Derived.Test.YtdpibehpmghghaaBd275faa1e04
import Derived.Test.YtdpibehpmghghaaBdc6095d8af4
import Derived.Test.YtdpibehpmghghaaBd8ac4136243
/-
  DERIVED: THE SHELF's CONTRACTS AT THIS DUMP, IN PLAIN WORDS (tools/lay-plain.mjs out of 'TryShelfB.lean', which tools/lay-shelf.mjs wrote): THE SAME DECLARATIONS UNDER THE SAME NAMES: 'import', 'namespace', 'open', 'def', 'theorem' AND NOTHING ELSE: no command of the shelf's: FOR A HAND-IN. Each laying: the table of numbers ('.._ren') and one theorem, a field a fact of the dump's own or the kernel's comparison; each contract: ONE APPLICATION.
-/
namespace Go.Proofs
open Go.Shelf
def Try.lays189_ren : Go.Shelf.Ren := ⟨fun | 189 => 64 | 125 => 70 | 257 => 72 | 128 => 85 | 129 => 86 | 294 => 87 | 295 => 88 | 296 => 89 | 297 => 90 | 298 => 91 | 299 => 92 | 216 => 93 | 300 => 94 | 301 => 95 | 328 => 104 | 329 => 100 | 330 => 101 | 331 => 105 | 332 => 106 | 215 => 107 | 343 => 111 | n => n, fun | 28 => 66 | 3 => 3 | 46 => 109 | 0 => 0 | 51 => 128 | 53 => 130 | 4 => 4 | 183 => 122 | 182 => 121 | 131 => 68 | 5 => 5 | 9 => 9 | 218 => 145 | 222 => 149 | 228 => 156 | 229 => 157 | n => n, fun | n => n⟩
theorem Try.lays189 : Go.Proofs.Lays.n189 Try.prog Try.lays189_ren := {
  mixed := by kernel_rfl
  f125 := Try.func70.trans (congrArg some (by kernel_rfl))
  f128 := Try.func85.trans (congrArg some (by kernel_rfl))
  f129 := Try.func86.trans (congrArg some (by kernel_rfl))
  f189 := Try.func64.trans (congrArg some (by kernel_rfl))
  f215 := Try.func107.trans (congrArg some (by kernel_rfl))
  f216 := Try.func93.trans (congrArg some (by kernel_rfl))
  f257 := Try.func72.trans (congrArg some (by kernel_rfl))
  f294 := Try.func87.trans (congrArg some (by kernel_rfl))
  f295 := Try.func88.trans (congrArg some (by kernel_rfl))
  f296 := Try.func89.trans (congrArg some (by kernel_rfl))
  f297 := Try.func90.trans (congrArg some (by kernel_rfl))
  f298 := Try.func91.trans (congrArg some (by kernel_rfl))
  f299 := Try.func92.trans (congrArg some (by kernel_rfl))
  f300 := Try.func94.trans (congrArg some (by kernel_rfl))
  f301 := Try.func95.trans (congrArg some (by kernel_rfl))
  f328 := Try.func104.trans (congrArg some (by kernel_rfl))
  f329 := Try.func100.trans (congrArg some (by kernel_rfl))
  f330 := Try.func101.trans (congrArg some (by kernel_rfl))
  f331 := Try.func105.trans (congrArg some (by kernel_rfl))
  f332 := Try.func106.trans (congrArg some (by kernel_rfl))
  f343 := Try.func111.trans (congrArg some (by kernel_rfl))
  t0 := Try.underlying0
  a0 := Try.isAgg0
  z0 := Try.sizeOf0
  v0 := Try.zeroValue0
  t3 := Try.underlying3
  a3 := Try.isAgg3
  z3 := Try.sizeOf3
  v3 := Try.zeroValue3
  t4 := Try.underlying4
  a4 := Try.isAgg4
  z4 := Try.sizeOf4
  v4 := Try.zeroValue4
  t5 := Try.underlying5
  a5 := Try.isAgg5
  z5 := Try.sizeOf5
  v5 := Try.zeroValue5
  t9 := Try.underlying9
  a9 := Try.isAgg9
  z9 := Try.sizeOf9
  v9 := Try.zeroValue9
  t28 := Try.underlying66
  a28 := Try.isAgg66
  z28 := Try.sizeOf66
  v28 := Try.zeroValue66
  t46 := Try.underlying109
  a46 := Try.isAgg109
  z46 := Try.sizeOf109
  v46 := Try.zeroValue109
  t51 := Try.underlying128
  a51 := Try.isAgg128
  z51 := Try.sizeOf128
  v51 := Try.zeroValue128
  t53 := Try.underlying130
  a53 := Try.isAgg130
  z53 := Try.sizeOf130
  v53 := Try.zeroValue130
  t131 := Try.underlying68
  a131 := Try.isAgg68
  z131 := Try.sizeOf68
  v131 := Try.zeroValue68
  t182 := Try.underlying121
  a182 := Try.isAgg121
  z182 := Try.sizeOf121
  v182 := Try.zeroValue121
  t183 := Try.underlying122
  a183 := Try.isAgg122
  z183 := Try.sizeOf122
  v183 := Try.zeroValue122
  t218 := Try.underlying145
  a218 := Try.isAgg145
  z218 := Try.sizeOf145
  v218 := Try.zeroValue145
  t222 := Try.underlying149
  a222 := Try.isAgg149
  z222 := Try.sizeOf149
  v222 := Try.zeroValue149
  t228 := Try.underlying156
  a228 := Try.isAgg156
  z228 := Try.sizeOf156
  v228 := Try.zeroValue156
  t229 := Try.underlying157
  a229 := Try.isAgg157
  z229 := Try.sizeOf157
  v229 := Try.zeroValue157 }
open Go.Sort Go.RowKit in
theorem Try.slices_Sort_int (blk off cap : Nat) (zs : List Int) (w : World) (hH : Holds (Value.int .i64) w blk off zs.toArray) (hblk : blk < w.heap.size) (hsz : zs.length < 4611686018427387904) :
    Calls Try.prog 64 #[.slice (some ⟨blk, off, none⟩) zs.length cap] w fun e w' =>
      e = .returned (.tuple #[]) ∧ ∃ n os, w' = grow (putRow (Value.int .i64) (Sort.ahead w n) blk off (zs.mergeSort fun x y => decide (x ≤ y)).toArray) os := Any.slices_Sort_int Try.lays189 blk off cap zs w hH hblk hsz
def Try.laysNm220_ren : Go.Shelf.Ren := ⟨fun | 20 => 65 | n => n, fun | 22 => 66 | 3 => 3 | 4 => 4 | 0 => 0 | n => n, fun | n => n⟩
theorem Try.laysNm220 : Go.Proofs.Lays2.n20 Try.prog Try.laysNm220_ren := {
  mixed := by kernel_rfl
  f20 := Try.func65.trans (congrArg some (by kernel_rfl))
  t0 := Try.underlying0
  a0 := Try.isAgg0
  z0 := Try.sizeOf0
  v0 := Try.zeroValue0
  t3 := Try.underlying3
  a3 := Try.isAgg3
  z3 := Try.sizeOf3
  v3 := Try.zeroValue3
  t4 := Try.underlying4
  a4 := Try.isAgg4
  z4 := Try.sizeOf4
  v4 := Try.zeroValue4
  t22 := Try.underlying66
  a22 := Try.isAgg66
  z22 := Try.sizeOf66
  v22 := Try.zeroValue66
  i3 := by kernel_rfl }
open Go.RowKit Go.Lib Go.Sort in
/-- slices.Compact at []int, over an array: the library's two loops are walked. (LAID: no walk: one application.) -/
theorem Try.slices_Compact_int_arr (blk off cap : Nat) (d : Array Int) (w : World) (hH : Holds encI w blk off d) (hsz : d.size ≤ 9223372036854775807) (hcap : d.size ≤ cap) :
    Calls Try.prog 65 #[.slice (some ⟨blk, off, none⟩) d.size cap] w fun e w' => e = .returned (.slice (some ⟨blk, off, none⟩) (compactUpTo d d.size).length cap) ∧ ∃ q, w' = putRow encI (Sort.ahead w q) blk off (compactUpTo d d.size ++ List.replicate (d.size - (compactUpTo d d.size).length) 0).toArray := Any.slices_Compact_int_arr Try.laysNm220 blk off cap d w hH hsz hcap
open Go.RowKit Go.Lib Go.Sort in
/-- slices.Compact at []int: "Compact replaces consecutive runs of equal elements with a single copy. This is like the uniq command found on Unix. Compact modifies the contents of the slice s and returns the modified slice, which may have a smaller length. Compact zeroes the elements between the new length and the original length. The result preserves the nilness of s.": IT RETURNS THE SLICE CUT TO 'Lib.compact zs'; ITS CELLS HOLD 'Lib.compact zs', THEN ZERO VALUES up to the old length; all else is as it was, but for the count of draws. IN THE WORDS OF slices.Sort's CONTRACT ('Holds', 'putRow'): so the everyday 'slices.Sort(xs); xs = slices.Compact(xs)' goes from the one contract to the other. It asks 'zs.length ≤ cap' (every slice's: the reslicing 's[:k]' looks at it). Length 0, nil: '.._empty'. (LAID: no walk: one application.) -/
theorem Try.slices_Compact_int (blk off cap : Nat) (zs : List Int) (w : World) (hH : Holds (Value.int .i64) w blk off zs.toArray) (hsz : zs.length ≤ 9223372036854775807) (hcap : zs.length ≤ cap) :
    Calls Try.prog 65 #[.slice (some ⟨blk, off, none⟩) zs.length cap] w fun e w' => e = .returned (.slice (some ⟨blk, off, none⟩) (Lib.compact zs).length cap) ∧ ∃ q, w' = putRow (Value.int .i64) (Sort.ahead w q) blk off (Lib.compact zs ++ List.replicate (zs.length - (Lib.compact zs).length) 0).toArray := Any.slices_Compact_int Try.laysNm220 blk off cap zs w hH hsz hcap
open Go.RowKit Go.Lib Go.Sort in
/-- The same at a slice of length 0, a nil one too: it comes back as it is. (LAID: no walk: one application.) -/
theorem Try.slices_Compact_int_empty (a : Option Addr) (cap : Nat) (w : World) :
    Calls Try.prog 65 #[.slice a 0 cap] w fun e w' => e = .returned (.slice a 0 cap) ∧ w' = w := Any.slices_Compact_int_empty Try.laysNm220 a cap w
open Go.RowKit Go.Sort in
/-- .. and plain. (LAID: no walk: one application.) -/
theorem Try.slices_Sort_int_none (p : Option Addr) (cap : Nat) (w : World) :
    Calls Try.prog 64 #[.slice p 0 cap] w fun e w' => e = .returned (.tuple #[]) ∧ w' = w := Any.slices_Sort_int_none Try.lays189 p cap w
def Try.sortIvl_ren : Go.Shelf.Ren := ⟨fun | 6 => 56 | 15 => 70 | 14 => 69 | 28 => 85 | 29 => 86 | 20 => 77 | 21 => 78 | 22 => 79 | 23 => 80 | 24 => 81 | 25 => 82 | 26 => 83 | 27 => 84 | 46 => 99 | 47 => 100 | 48 => 101 | 49 => 102 | 50 => 103 | 57 => 110 | n => n, fun | 22 => 22 | 24 => 29 | 25 => 83 | 3 => 3 | 39 => 109 | 0 => 0 | 53 => 128 | 55 => 130 | 4 => 4 | 46 => 122 | 45 => 121 | 50 => 68 | 5 => 5 | 9 => 9 | 66 => 145 | 70 => 149 | 76 => 156 | 77 => 157 | n => n, fun | n => n⟩
theorem Try.sortIvl : Go.Proofs.SlLaysF0.n6 Try.prog Try.sortIvl_ren := {
  mixed := by kernel_rfl
  f6 := ⟨Try.f56.name, by decide, Try.func56.trans (congrArg some (by kernel_rfl))⟩
  f14 := ⟨Try.f69.name, by decide, Try.func69.trans (congrArg some (by kernel_rfl))⟩
  f15 := Try.func70.trans (congrArg some (by kernel_rfl))
  f20 := ⟨Try.f77.name, by decide, Try.func77.trans (congrArg some (by kernel_rfl))⟩
  f21 := ⟨Try.f78.name, by decide, Try.func78.trans (congrArg some (by kernel_rfl))⟩
  f22 := ⟨Try.f79.name, by decide, Try.func79.trans (congrArg some (by kernel_rfl))⟩
  f23 := ⟨Try.f80.name, by decide, Try.func80.trans (congrArg some (by kernel_rfl))⟩
  f24 := ⟨Try.f81.name, by decide, Try.func81.trans (congrArg some (by kernel_rfl))⟩
  f25 := ⟨Try.f82.name, by decide, Try.func82.trans (congrArg some (by kernel_rfl))⟩
  f26 := ⟨Try.f83.name, by decide, Try.func83.trans (congrArg some (by kernel_rfl))⟩
  f27 := ⟨Try.f84.name, by decide, Try.func84.trans (congrArg some (by kernel_rfl))⟩
  f28 := Try.func85.trans (congrArg some (by kernel_rfl))
  f29 := Try.func86.trans (congrArg some (by kernel_rfl))
  f46 := ⟨Try.f99.name, by decide, Try.func99.trans (congrArg some (by kernel_rfl))⟩
  f47 := Try.func100.trans (congrArg some (by kernel_rfl))
  f48 := Try.func101.trans (congrArg some (by kernel_rfl))
  f49 := ⟨Try.f102.name, by decide, Try.func102.trans (congrArg some (by kernel_rfl))⟩
  f50 := ⟨Try.f103.name, by decide, Try.func103.trans (congrArg some (by kernel_rfl))⟩
  f57 := ⟨Try.f110.name, by decide, Try.func110.trans (congrArg some (by kernel_rfl))⟩
  t0 := Try.underlying0
  a0 := Try.isAgg0
  z0 := Try.sizeOf0
  v0 := Try.zeroValue0
  t3 := Try.underlying3
  a3 := Try.isAgg3
  z3 := Try.sizeOf3
  v3 := Try.zeroValue3
  t4 := Try.underlying4
  a4 := Try.isAgg4
  z4 := Try.sizeOf4
  v4 := Try.zeroValue4
  t5 := Try.underlying5
  a5 := Try.isAgg5
  z5 := Try.sizeOf5
  v5 := Try.zeroValue5
  t9 := Try.underlying9
  a9 := Try.isAgg9
  z9 := Try.sizeOf9
  v9 := Try.zeroValue9
  t22 := Try.underlying22
  a22 := Try.isAgg22
  z22 := Try.sizeOf22
  v22 := Try.zeroValue22
  t25 := Try.underlying83
  a25 := Try.isAgg83
  z25 := Try.sizeOf83
  v25 := Try.zeroValue83
  t39 := Try.underlying109
  a39 := Try.isAgg109
  z39 := Try.sizeOf109
  v39 := Try.zeroValue109
  t45 := Try.underlying121
  a45 := Try.isAgg121
  z45 := Try.sizeOf121
  v45 := Try.zeroValue121
  t46 := Try.underlying122
  a46 := Try.isAgg122
  z46 := Try.sizeOf122
  v46 := Try.zeroValue122
  t50 := Try.underlying68
  a50 := Try.isAgg68
  z50 := Try.sizeOf68
  v50 := Try.zeroValue68
  t53 := Try.underlying128
  a53 := Try.isAgg128
  z53 := Try.sizeOf128
  v53 := Try.zeroValue128
  t55 := Try.underlying130
  a55 := Try.isAgg130
  z55 := Try.sizeOf130
  v55 := Try.zeroValue130
  t66 := Try.underlying145
  a66 := Try.isAgg145
  z66 := Try.sizeOf145
  v66 := Try.zeroValue145
  t70 := Try.underlying149
  a70 := Try.isAgg149
  z70 := Try.sizeOf149
  v70 := Try.zeroValue149
  t76 := Try.underlying156
  a76 := Try.isAgg156
  z76 := Try.sizeOf156
  v76 := Try.zeroValue156
  t77 := Try.underlying157
  a77 := Try.isAgg157
  z77 := Try.sizeOf157
  v77 := Try.zeroValue157 }
end Go.Proofs
/- Lists of ints that a call owns; how they are sorted. -/
namespace Go.Proofs.Ytdpibehpmghghaa
open Go.RowKit Go.Sort

def intEnc (n : Int) : List Value := [.int .i64 n]
theorem intEnc_len (x : Int) : (intEnc x).length = 1 := rfl
theorem int_one1 {a : Int} : ∀ u ∈ (#[.int .i64 a] : Array Value).toList, u.oneCell' = true := by simp [Value.oneCell']
theorem int_one2 {a b : Int} : ∀ u ∈ (#[.int .i64 a, .int .i64 b] : Array Value).toList, u.oneCell' = true := by simp [Value.oneCell']
theorem info_int1 : (Try.prog.info? 3).map (fun i => (i.zero, i.size, i.bytes)) = some (some (.int .i64 0), 1, 8) := by kernel_rfl
theorem info_int2 : ∃ i, Try.prog.info? 3 = some i ∧ i.zero = some (.int .i64 0) ∧ i.size = 1 ∧ i.bytes = 8 := by
  obtain ⟨i0, hi, hzz⟩ := Option.map_eq_some_iff.1 info_int1
  simp only [Prod.mk.injEq] at hzz
  exact ⟨i0, hi, hzz.1, hzz.2.1, hzz.2.2⟩
structure IntsAt (w : World) (A : Option Addr) (c : Nat) (l : List Int) : Prop where
  lc : l.length ≤ c
  cm : c ≤ maxLen
  sl : SlAt RInt 1 w A l
section
variable {w w' : World} {A : Option Addr} {c k base g n : Nat} {l : List Int} {v : Value}
theorem IntsAt.ext (h : IntsAt w A c l) (hb : Below w.heap.size w w') : IntsAt w' A c l := ⟨h.lc, h.cm, h.sl.ext RInt.stable hb⟩
theorem IntsAt.len (h : IntsAt w A c l) : l.length ≤ 9223372036854775807 := Nat.le_trans h.lc h.cm
theorem IntsAt.get (h : IntsAt w A c l) {x : Int} (hx : l[k]? = some x) : ∃ b off, A = some ⟨b, off, none⟩ ∧ b < w.heap.size ∧ w.cell? ⟨b, off + k, none⟩ = some (.int .i64 x) := by
  obtain ⟨b, off, hS⟩ := h.sl
  obtain ⟨h1, h2, h3, _⟩ := hS k x hx
  rw [Nat.mul_one] at h3
  exact ⟨b, off, h1, h2, h3⟩
theorem IntsAt.i64 (h : IntsAt w A c l) : ∀ x, x ∈ l → I64 x := fun x hx => by
  obtain ⟨k, hk⟩ := List.getElem?_of_mem hx
  obtain ⟨b, off, hS⟩ := h.sl
  exact (hS k x hk).2.2.2
theorem own_ints (h : Own intEnc 1 w base 3 v l) (hi : ∀ x, x ∈ l → I64 x) : ∃ A c, v = .slice A l.length c ∧ IntsAt w A c l := by
  obtain ⟨A, c, hv, hS⟩ := Own.slAt (R := RInt) (enc := intEnc) (fun _ => rfl) (fun x hx b o hc => ⟨by have := hc 0 _ rfl; simpa using this, hi x hx⟩) h
  subst hv
  exact ⟨A, c, rfl, h.room.1, h.room.2, hS⟩
theorem IntsAt.flat {b off : Nat} (h : IntsAt w (some ⟨b, off, none⟩) c l) : ∀ (j : Nat) u, (l.flatMap intEnc)[j]? = some u → w.cell? ⟨b, off + j, none⟩ = some u := fun j u hu => by
  have hj : j < l.length := by have := lt_of_get hu; rw [flat_length intEnc_len] at this; omega
  obtain ⟨x, hx⟩ := get_lt hj
  obtain ⟨b', off', e, _, h0⟩ := h.get hx
  obtain ⟨rfl, rfl⟩ : b = b' ∧ off = off' := by simpa using e
  have h4 := flat_at intEnc_len hx (show 0 < 1 by decide)
  rw [Nat.mul_one, Nat.add_zero, hu] at h4
  rw [h0, h4]
  rfl
theorem ints_one (l : List Int) : ∀ u ∈ l.flatMap intEnc, u.oneCell' = true := fun u hu => by
  obtain ⟨x, _, hx⟩ := List.mem_flatMap.1 hu
  simp only [intEnc, List.mem_cons, List.not_mem_nil, or_false] at hx
  rw [hx]; rfl
theorem flatK_int (d : Array Int) (t : Nat) (h : t < d.size) : (flatK intEnc 1 d)[t]! = .int .i64 d[t]! := by
  rw [get_flatK _ _ _ _ (by omega), Nat.div_one, Nat.mod_one]
  rfl
theorem holds_int {d : Array Int} (h : HoldsK intEnc 1 w g 0 d) : Holds (Value.int .i64) w g 0 d := fun j hj => by
  have := h j (by rw [size_flatK]; omega)
  rw [flatK_int d j hj] at this
  exact this
theorem putRow_int (d : Array Int) : putRow (Value.int .i64) w g 0 d = putRowK intEnc 1 w g 0 d := by
  unfold putRowK putRow
  congr 1
  funext c
  unfold putCells
  refine Array.ext (by simp) fun i h1 h2 => ?_
  simp only [Array.getElem_mapIdx, Nat.zero_le, true_and, Nat.zero_add, Nat.sub_zero, size_flatK, Nat.mul_one, id]
  by_cases hi : i < d.size
  · rw [if_pos hi, if_pos hi, flatK_int d i hi]
  · rw [if_neg hi, if_neg hi]
end
def SortedOut (l : List Int) (v : Value) (w : World) (base : Nat) (e : Ending) (w' : World) : Prop := e = .returned (.tuple #[]) ∧ ∃ r, (∀ x, x ∈ r ↔ x ∈ l) ∧ r.length = l.length ∧ r.Pairwise (· ≤ ·) ∧ Own intEnc 1 w' base 3 v r ∧ Below base w w'
theorem sortInts_any (v : Value) (l : List Int) (w : World) (base : Nat) (hown : Own intEnc 1 w base 3 v l) (hbase : base ≤ w.heap.size) (hl : l.length ≤ 100000) :
    Calls Try.prog 64 #[v] w (SortedOut l v w base) := by
  rcases hown.2 with ⟨hv, h0⟩ | ⟨g, cap, cur, hv, hg, hh, _⟩
  · rw [hv]
    have h0' : l = [] := List.eq_nil_of_length_eq_zero h0
    refine (Try.slices_Sort_int_none none 0 w).mono fun e w' ⟨he, hw⟩ => ⟨he, [], by simp [h0'], by simp [h0'], by simp, by subst hw; rw [← hv, ← h0']; exact hown, by rw [hw]; exact Below.refl _ _⟩
  · have hlt : g < w.heap.size := by
      rcases Nat.lt_or_ge g w.heap.size with hlt | hge
      · exact hlt
      · rw [Array.getElem?_eq_none hge] at hh; cases hh
    rw [hv] at hown ⊢
    have hH := holds_int (hown.holdsK (sz := 1) (fun _ => rfl) (by decide))
    refine (Try.slices_Sort_int g 0 cap l w hH hlt (by omega)).mono fun e w' ⟨he, n, os, hw⟩ => ?_
    have hsz : (l.mergeSort fun x y => decide (x ≤ y)).length = l.length := List.length_mergeSort _
    refine ⟨he, l.mergeSort fun x y => decide (x ≤ y), fun x => List.mem_mergeSort, hsz, ?_, ?_, ?_⟩
    · have h1 := List.pairwise_mergeSort (le := fun x y : Int => decide (x ≤ y)) (fun a b c h1 h2 => by simp at *; omega) (fun a b => by simp; omega) l
      exact h1.imp fun h => by simpa using h
    · rw [hw, putRow_int]
      exact hown.sortWorld (sz := 1) (m := n) (os := os) (fun _ => rfl) (by decide) hsz
    · rw [hw, putRow_int]
      exact below_sort hg hbase
end Go.Proofs.Ytdpibehpmghghaa
/- The walk of the document's bounds: sorted, each once. -/
namespace Go.Proofs.Ytdpibehpmghghaa
open Go.RowKit

/-- While the sorted row is made shorter in its place. -/
structure CompInv (S m : List Int) (i k : Nat) : Prop where
  len : m.length = S.length
  uniq : Uniq S i (m.take k)
  ki : k ≤ i
  il : i ≤ S.length
  rest : ∀ j x, i ≤ j → S[j]? = some x → m[j]? = some x
section
variable {S m : List Int} {i k : Nat} {x z : Int}
theorem CompInv.start : CompInv S S 0 0 := ⟨rfl, by simpa using Uniq.start, Nat.le_refl _, Nat.zero_le _, fun _ _ _ h => h⟩
theorem CompInv.klen (h : CompInv S m i k) : (m.take k).length = k := by
  have := h.ki; have := h.il; have := h.len
  rw [List.length_take]; omega
theorem CompInv.put (h : CompInv S m i k) (hs : S.Pairwise (· ≤ ·)) (hx : S[i]? = some x) (hz : i = 0 ∨ ∃ z, m[k - 1]? = some z ∧ z ≠ x) : CompInv S (m.set k x) (i + 1) (k + 1) := by
  have hil := lt_of_get hx
  have hki := h.ki
  have hkm : k < m.length := by rw [h.len]; omega
  have e : (m.set k x).take (k + 1) = m.take k ++ [x] := by
    rw [List.take_add_one, List.getElem?_set_self hkm, List.take_set_of_le (Nat.le_refl _)]
    rfl
  refine ⟨by rw [List.length_set]; exact h.len, ?_, by omega, by omega, fun j y hj hy => ?_⟩
  · rw [e]
    rcases hz with rfl | ⟨z, hz, hne⟩
    · obtain rfl : k = 0 := by omega
      simpa using Uniq.first hx
    · have hk0 : 0 < k := by
        rcases Nat.eq_zero_or_pos k with h0 | h0
        · exfalso
          subst h0
          have h1 := h.uniq.pos
          by_cases hi0 : 0 < i
          · have := h1 hi0 (by omega)
            simp at this
          · obtain rfl : i = 0 := by omega
            have h2 := h.rest 0 x (Nat.le_refl _) hx
            simp only [Nat.zero_sub] at hz
            rw [h2] at hz
            exact hne (by simpa using hz.symm)
        · exact h0
      have e2 : m.take k = m.take (k - 1) ++ [z] := by
        have h3 : k = (k - 1) + 1 := by omega
        conv => lhs; rw [h3, List.take_add_one, hz]
        rfl
      have hu := h.uniq
      rw [e2] at hu ⊢
      exact hu.new hs hx hne
  · rw [List.getElem?_set_ne (by omega)]
    exact h.rest j y (by omega) hy
theorem CompInv.skip (h : CompInv S m i k) (hx : S[i]? = some x) (hi : i ≠ 0) (hz : m[k - 1]? = some x) : CompInv S m (i + 1) k := by
  have hil := lt_of_get hx
  have hki := h.ki
  have hk0 : 0 < k := by
    have := h.uniq.pos (by omega) (by omega)
    rw [h.klen] at this
    exact this
  refine ⟨h.len, ?_, by omega, by omega, fun j y hj hy => h.rest j y (by omega) hy⟩
  have e2 : m.take k = m.take (k - 1) ++ [x] := by
    have h3 : k = (k - 1) + 1 := by omega
    conv => lhs; rw [h3, List.take_add_one, hz]
    rfl
  have hu := h.uniq
  rw [e2] at hu ⊢
  exact hu.same hx
theorem CompInv.kpos (h : CompInv S m i k) (hi : i ≠ 0) (hl : i < S.length) : 0 < k := by
  have := h.uniq.pos (by omega) (by omega)
  rw [h.klen] at this
  exact this
end
/-- Its beginning alone. -/
theorem Own.cut {α : Type} {enc : α → List Value} {sz : Nat} {w : World} {base n c k : Nat} {e : TypeId} {A : Option Addr} {m : List α} (hk : ∀ x, (enc x).length = sz) (hs : 0 < sz) (h : Own enc sz w base e (.slice A n c) m) (hkn : k ≤ n) : Own enc sz w base e (.slice A k c) (m.take k) := by
  rcases h.2 with ⟨h1, h2⟩ | ⟨g, cap, cur, hv, _⟩
  · simp only [Value.slice.injEq] at h1
    obtain ⟨rfl, rfl, rfl⟩ := h1
    obtain rfl : k = 0 := by omega
    exact Own.nil
  · simp only [Value.slice.injEq] at hv
    obtain ⟨rfl, rfl, rfl⟩ := hv
    obtain ⟨_, hg, hmc, hcm, cs, hB, hcs, hr⟩ := h.cells hk
    have hl : (m.take k).length = k := by rw [List.length_take]; omega
    have h2 := Own.of_cells (m := m.take k) hk hs hB hg (by rw [hl]; omega) hcm hcs (hr.take k)
    rwa [hl] at h2
/-- What a call owns lies in a block of its own. -/
theorem own_fresh {α : Type} {enc : α → List Value} {k : Nat} {w : World} {base : Nat} {t : TypeId} {A : Option Addr} {n c : Nat} {l : List α} (h : Own enc k w base t (.slice A n c) l) : ∀ b, A = some b → base ≤ b.block := by
  rintro b rfl
  rcases h.2 with ⟨h2, _⟩ | ⟨g, cap, cur, hv, hg, _⟩
  · simp at h2
  · simp only [Value.slice.injEq, Option.some.injEq] at hv
    rw [hv.1]; exact hg
def BoundsF (l : List Int) (w : World) (e : Ending) (w' : World) : Prop := ∃ A c D, Hid (D.Pairwise (· < ·) ∧ (∀ x, x ∈ D ↔ x ∈ l) ∧ D.length ≤ l.length) ∧ (∀ b, A = some b → w.heap.size ≤ b.block) ∧ e = .returned (.slice A D.length c) ∧ IntsAt w' A c D ∧ Below w.heap.size w w'
/-- The bounds of a list. -/
def BoundsOut (l : List Int) (w : World) (e : Ending) (w' : World) : Prop := ∃ A c D, Hid (D.Pairwise (· < ·) ∧ (∀ x, x ∈ D ↔ x ∈ l) ∧ D.length ≤ l.length) ∧ e = .returned (.slice A D.length c) ∧ IntsAt w' A c D ∧ Below w.heap.size w w'

end Go.Proofs.Ytdpibehpmghghaa
/- A region that draws its order and ends in an operation that waits for all others: a condition on the world is kept up to that last operation alone. -/
namespace Go.Proofs.Ytdpibehpmghghaa
open Go Go.RowKit

section
variable {P : Program} {ops : Array Oper} {Q : Exit → Act → World → Prop} {md : Region.Mode} {S : World → Prop}
/-- Whatever order is picked: behind each of the first n operations S holds. -/
def WpN (P : Program) (md : Region.Mode) (ops : Array Oper) (Q : Exit → Act → World → Prop) (S : World → Prop) (n : Nat) : Nat → Array Bool → Act → World → Prop
  | 0, listed, a, w => Region.ready md ops listed = [] ∧ Q .normal a w
  | f + 1, listed, a, w => (Region.ready md ops listed = [] → Q .normal a w) ∧
      ∀ i ∈ Region.ready md ops listed, wpOp P ops Q i (fun a' w' => (i < n → S w') ∧ WpN P md ops Q S n f (listed.setIfInBounds i true) a' w') a w
theorem WpN.any {n : Nat} : ∀ (f : Nat) (listed : Array Bool) (a : Act) (w : World), WpN P md ops Q S n f listed a w → wpAny P md ops Q f listed a w
  | 0, _, _, _, h => h
  | f + 1, _, _, _, h => ⟨h.1, fun i hi => wpOp_mono (fun _ _ h' => h'.2.any f _ _ _) (h.2 i hi)⟩
theorem WpN.first {n i : Nat} {oi : Oper} {v : Value} (hi : ops[i]? = some oi) (hsel : ∀ (j : Nat) (o : Oper) cs b, ops[j]? = some o → o.op ≠ .select cs b)
    (hQ : ∀ c a w, Q (.panic c) (a.put oi.dst v) w → Q (.panic c) a w) (hs : Region.sinkB md ops n = true) (hc : Region.chainB md ops n = true) (hn : n < ops.size) (hin : i < n) (f : Nat) :
    ∀ (listed : Array Bool) (a : Act) (w : World), HeadInv md ops n listed →
      (∀ j oj, ops[j]? = some oj → j ≠ i → listed.getD j true = false → (∀ e ∈ oj.after, Region.binds md e = true → e.on ≠ i) → oi.apart ops oj = true) →
      i ∈ Region.ready md ops listed → YieldsIf P ops S oi v a → S w → WpN P md ops Q S n f (listed.setIfInBounds i true) (a.put oi.dst v) w → WpN P md ops Q S n (f + 1) listed a w := by
  induction f with
  | zero =>
    intro listed a w inv _ hr hy hS H
    refine ⟨fun h => (by rw [h] at hr; cases hr), fun j hj => ?_⟩
    by_cases hji : j = i
    · subst hji; exact hy.wpOp hi hS ⟨fun _ => hS, H⟩
    · have h1 := ready_mono hj hji
      rw [H.1] at h1
      cases h1
  | succ f ih =>
    intro listed a w inv hfree hr hy hS H
    have hun := (mem_ready.1 hr).1
    refine ⟨fun h => (by rw [h] at hr; cases hr), fun j hj => ?_⟩
    have hjn : j < n := by
      rcases Nat.lt_or_ge j n with h | h
      · exact h
      · exact absurd hj (tail_waits hs hc hn inv _ i rfl hin hun j h)
    by_cases hji : j = i
    · subst hji; exact hy.wpOp hi hS ⟨fun _ => hS, H⟩
    · obtain ⟨hjun, oj, hoj, hall⟩ := mem_ready.1 hj
      have hnot : ∀ e ∈ oj.after, Region.binds md e = true → e.on ≠ i := fun e he hb heq => by
        have h2 := hall e he hb
        rw [heq, getD_both hun] at h2
        cases h2
      have h2 := wpOp_putIf hoj (hfree j oj hoj hji hjun hnot) (fun cs b => hsel i oi cs b hi) (fun cs b => hsel j oj cs b hoj) hQ hy (H.2 j (ready_mono hj hji))
      refine wpOp_mono (fun a' w' h3 => ⟨h3.2.1, ih (listed.setIfInBounds j true) a' w' (inv.set hj hjn) (fun k ok hk hki hu hno => hfree k ok hk hki ?_ hno) (ready_mono hr (Ne.symm hji)) h3.1 (h3.2.1 hjn) ?_⟩) h2
      · by_cases hjk : j = k
        · subst hjk; exact hjun
        · rw [getD_set_ne true hjk] at hu; exact hu
      · rw [Array.setIfInBounds_comm _ _ hji]
        exact h3.2.2
/-- The numbers that are listed, and that the rest is as it must be: one closed fact. -/
def headB (md : Region.Mode) (ops : Array Oper) (n : Nat) (listed : Array Bool) : Bool :=
  decide (listed.size = ops.size) && (List.range ops.size).all fun j => (decide (j < n) || !listed.getD j true) && (!listed.getD j false || match ops[j]? with
    | some oj => oj.after.all fun e => !Region.binds md e || listed.getD e.on false
    | none => true)
theorem headB_inv {n : Nat} {listed : Array Bool} (h : headB md ops n listed = true) : HeadInv md ops n listed := by
  simp only [headB, Bool.and_eq_true, decide_eq_true_eq, List.all_eq_true, List.mem_range] at h
  obtain ⟨h1, h2⟩ := h
  refine ⟨h1, fun j oj hj hl e he hb => ?_, fun t ht ht' => ?_⟩
  · have h3 := (h2 j (Array.getElem?_eq_some_iff.1 hj).1).2
    rw [hl, hj] at h3
    simp only [Bool.not_true, Bool.false_or] at h3
    have h4 := Array.all_eq_true'.1 h3 e he
    simpa [hb] using h4
  · have h3 := (h2 t ht').1
    simp only [Bool.or_eq_true, decide_eq_true_eq, Bool.not_eq_true'] at h3
    rcases h3 with h3 | h3
    · omega
    · exact h3
/-- Take number i first. -/
theorem WpN.take {n i : Nat} {oi : Oper} {v : Value} {f : Nat} {listed : Array Bool} {a : Act} {w : World} (hi : ops[i]? = some oi)
    (hB : (Region.noSelect ops && Region.free md ops listed i && (Region.ready md ops listed).contains i && Region.sinkB md ops n && Region.chainB md ops n && decide (n < ops.size) && decide (i < n) && headB md ops n listed) = true)
    (hQ : ∀ c a w, Q (.panic c) (a.put oi.dst v) w → Q (.panic c) a w) (hy : YieldsIf P ops S oi v a) (hS : S w)
    (h : WpN P md ops Q S n f (listed.setIfInBounds i true) (a.put oi.dst v) w) : WpN P md ops Q S n (f + 1) listed a w := by
  simp only [Bool.and_eq_true, decide_eq_true_eq] at hB
  obtain ⟨⟨⟨⟨⟨⟨⟨b1, b2⟩, b3⟩, b4⟩, b5⟩, b6⟩, b7⟩, b8⟩ := hB
  exact WpN.first hi (Region.noSelect_spec b1) hQ b4 b5 b6 b7 f listed a w (headB_inv b8) (Region.free_spec hi b2) (by simpa using b3) hy hS h
/-- One alone may come up. -/
theorem WpN.one {n i : Nat} {oi : Oper} {f : Nat} {listed : Array Bool} {a : Act} {w : World} (hi : ops[i]? = some oi) (hr : (Region.ready md ops listed == [i] && Region.wanted oi (yielded ops a.tmps)) = true)
    (h : ∀ K : Act → World → Prop, Hid (∀ a' w', ((i < n → S w') ∧ WpN P md ops Q S n f (listed.setIfInBounds i true) a' w') → K a' w') → Oper.wp P oi a w K Q) : WpN P md ops Q S n (f + 1) listed a w := by
  simp only [Bool.and_eq_true, beq_iff_eq] at hr
  obtain ⟨hr, hw⟩ := hr
  refine ⟨fun h0 => (by rw [h0] at hr; cases hr), fun j hj => ?_⟩
  rw [hr] at hj
  obtain rfl : j = i := by simpa using hj
  unfold wpOp
  simp only [hi, hw, if_true]
  exact .inl (h _ (Lib.hid fun _ _ h => h))
theorem WpN.done {n : Nat} {listed : Array Bool} {a : Act} {w : World} (hr : Region.ready md ops listed = []) (h : Q .normal a w) : ∀ f, WpN P md ops Q S n f listed a w
  | 0 => ⟨hr, h⟩
  | _ + 1 => ⟨fun _ => h, by rw [hr]; simp⟩
theorem WpN.begin {id : Nat} {a : Act} {w : World} (n : Nat) (hm : P.follows .mixedOrders = true) (h : WpN P .any ops Q S n ops.size (Array.replicate ops.size false) a w.drew) : (Code.region id ops true).wp P Q a w :=
  wp_region_any hm (h.any _ _ _ _)
end
end Go.Proofs.Ytdpibehpmghghaa
/- A region that draws its order and keeps a condition, step by step: one operation alone may come up; the way a guard that is false goes. -/
namespace Go.Proofs.Ytdpibehpmghghaa
open Go Go.RowKit

section
variable {P : Program} {ops : Array Oper} {Q : Exit → Act → World → Prop} {md : Region.Mode} {S : World → Prop}
theorem anyH_take {i : Nat} {oi : Oper} {v : Value} {f : Nat} {listed : Array Bool} {a : Act} {w : World} {d : Nat} (hi : ops[i]? = some oi) (hd : oi.dst = some d)
    (hB : (Region.noSelect ops && Region.free md ops listed i && (Region.ready md ops listed).contains i) = true)
    (hQ : ∀ c a w, Q (.panic c) (a.put (some d) v) w → Q (.panic c) a w) (hy : YieldsIf P ops S oi v a) (hS : S w)
    (h : wpAnyH P md ops Q S f (listed.setIfInBounds i true) (a.put (some d) v) w) : wpAnyH P md ops Q S (f + 1) listed a w := by
  simp only [Bool.and_eq_true] at hB
  obtain ⟨⟨b1, b2⟩, b3⟩ := hB
  rw [← hd] at hQ h
  exact wpAnyH_take hi b1 b2 b3 hQ hy hS h
/-- As WpN.take, the slot given outright. -/
theorem WpN.takeD {n i : Nat} {oi : Oper} {v : Value} {f : Nat} {listed : Array Bool} {a : Act} {w : World} {d : Nat} (hi : ops[i]? = some oi) (hd : oi.dst = some d)
    (hB : (Region.noSelect ops && Region.free md ops listed i && (Region.ready md ops listed).contains i && Region.sinkB md ops n && Region.chainB md ops n && decide (n < ops.size) && decide (i < n) && headB md ops n listed) = true)
    (hQ : ∀ c a w, Q (.panic c) (a.put (some d) v) w → Q (.panic c) a w) (hy : YieldsIf P ops S oi v a) (hS : S w)
    (h : WpN P md ops Q S n f (listed.setIfInBounds i true) (a.put (some d) v) w) : WpN P md ops Q S n (f + 1) listed a w := by
  rw [← hd] at hQ h
  exact WpN.take hi hB hQ hy hS h
/-- One alone may come up. -/
theorem anyH_one {i : Nat} {oi : Oper} {f : Nat} {listed : Array Bool} {a : Act} {w : World} (hi : ops[i]? = some oi) (hr : (Region.ready md ops listed == [i] && Region.wanted oi (yielded ops a.tmps)) = true)
    (h : ∀ K : Act → World → Prop, Hid (∀ a' w', (S w' ∧ wpAnyH P md ops Q S f (listed.setIfInBounds i true) a' w') → K a' w') → Oper.wp P oi a w K Q) : wpAnyH P md ops Q S (f + 1) listed a w := by
  simp only [Bool.and_eq_true, beq_iff_eq] at hr
  obtain ⟨hr, hw⟩ := hr
  refine ⟨fun h0 => (by rw [h0] at hr; cases hr), fun j hj => ?_⟩
  rw [hr] at hj
  obtain rfl : j = i := by simpa using hj
  unfold wpOp
  simp only [hi, hw, if_true]
  exact .inl (h _ (Lib.hid fun _ _ h => h))
end
end Go.Proofs.Ytdpibehpmghghaa
/- Two operations may come up, in whichever order. -/
namespace Go.Proofs.Ytdpibehpmghghaa
open Go Go.RowKit

section
variable {P : Program} {ops : Array Oper} {Q : Exit → Act → World → Prop} {md : Region.Mode} {S : World → Prop}
theorem WpN.two {n i j : Nat} {oi oj : Oper} {f : Nat} {listed : Array Bool} {a : Act} {w : World} (hi : ops[i]? = some oi) (hj : ops[j]? = some oj)
    (hr : (Region.ready md ops listed == [i, j] && Region.wanted oi (yielded ops a.tmps) && Region.wanted oj (yielded ops a.tmps)) = true)
    (h1 : ∀ K : Act → World → Prop, Hid (∀ a' w', ((i < n → S w') ∧ WpN P md ops Q S n f (listed.setIfInBounds i true) a' w') → K a' w') → Oper.wp P oi a w K Q)
    (h2 : ∀ K : Act → World → Prop, Hid (∀ a' w', ((j < n → S w') ∧ WpN P md ops Q S n f (listed.setIfInBounds j true) a' w') → K a' w') → Oper.wp P oj a w K Q) : WpN P md ops Q S n (f + 1) listed a w := by
  simp only [Bool.and_eq_true, beq_iff_eq] at hr
  obtain ⟨⟨hr, hwi⟩, hwj⟩ := hr
  refine ⟨fun h0 => (by rw [h0] at hr; cases hr), fun k hk => ?_⟩
  rw [hr] at hk
  have hk : k = i ∨ k = j := by simpa using hk
  unfold wpOp
  rcases hk with rfl | rfl
  · simp only [hi, hwi, if_true]
    exact .inl (h1 _ (Lib.hid fun _ _ h => h))
  · simp only [hj, hwj, if_true]
    exact .inl (h2 _ (Lib.hid fun _ _ h => h))
end
/-- One own list is put behind another one. -/
theorem wp_append_two {P : Program} {o : Oper} {a : Act} {K : Act → World → Prop} {Q : Exit → Act → World → Prop} {w : World} {α : Type} {enc : α → List Value} (s x : Operand) (t : TypeId)
    (ho : o.op = .call { callee := .builtin .append, args := #[s, x], argTypes := #[t, t] })
    (base base2 : Nat) (e : TypeId) (i : TypeInfo) (z : Value) (size bytes : Nat) (ht : P.underlying t = some (.slice e)) (hi : P.info? e = some i) (hz : i.zero = some z)
    (hsize : i.size = size) (hby : i.bytes = bytes) (hzs : z.cells.size = size) (hsz : 0 < size)
    (v v2 : Value) (l l2 : List α) (hs : a.eval s = v) (hx : a.eval x = v2) (hown : Own enc size w base e v l) (hown2 : Own enc size w base2 e v2 l2) (h1 : ∀ u ∈ l2.flatMap enc, u.oneCell' = true)
    (h63 : l.length + l2.length ≤ 1000000) (hby2 : bytes ≤ 1000) (hbase : base ≤ w.heap.size)
    (h : ∀ v' w', Own enc size w' base e v' (l ++ l2) → Below base w w' → K (a.put o.dst v') w') : Oper.wp P o a w K Q := by
  have hb2 : (l.length + l2.length) * bytes ≤ 140737488355328 := Nat.le_trans (Nat.mul_le_mul h63 hby2) (by decide)
  rcases hown2.2 with ⟨hv2, h0⟩ | ⟨g, cap, cur, hv2, _⟩
  · have e2 : l2 = [] := List.eq_nil_of_length_eq_zero h0
    obtain ⟨A, c, rfl⟩ := hown.form
    have hr := run_append_nothing (P := P) w t e o.type i ht hi A l.length c 0 hown.room.1
    unfold Oper.wp execOp
    simp only [ho, resolve, invoke, builtin, Sem.run_bind, Sem.run_pure, Result.andThen_ok, List.map_toArray, List.map_cons, List.map_nil, hs, hx, hv2, hr]
    exact h _ _ (by rw [e2, List.append_nil]; exact hown) (Below.refl _ _)
  · have hnews : ∀ j u, (l2.flatMap enc)[j]? = some u → w.cell? ((⟨g, 0, none⟩ : Addr).add j) = some u := by
      have h3 := hown2
      rw [hv2] at h3
      exact World.ownsRow.cells h3 (g := g) rfl
    obtain ⟨v', w', hr, k2, k3, _, _⟩ := run_append_own_at (P := P) w base t o.type e i z size bytes ht hi hz hsize hby hzs hsz v l.length (l.flatMap enc) hown ⟨g, 0, none⟩ l2.length cap (l2.flatMap enc) hown2.1 hnews h1 (by unfold maxLen; omega) hb2 hbase
    unfold Oper.wp execOp
    simp only [ho, resolve, invoke, builtin, Sem.run_bind, Sem.run_pure, Result.andThen_ok, List.map_toArray, List.map_cons, List.map_nil, hs, hx, hv2, hr]
    refine h _ _ ?_ ((Below.refl base w).grown k3 hbase fun k hk => (World.ownsRow.lt hown k hk).1)
    unfold Own
    rw [List.flatMap_append, List.length_append]
    exact k2
end Go.Proofs.Ytdpibehpmghghaa
