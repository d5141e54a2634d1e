/- Several texts in one: Shelf, IntMem, Bounds. -/
import Derived.Shelf.Sort.Plain
import Derived.Shelf.Slices.CompactI
import Derived.Shelf.Slices.In.SortNone
import Derived.Ground.Names2Prog
import Derived.Ground.NamesProg
import Derived.Shelf.SlSortCmp.WholeK
import Derived.Shelf.SlSortCmp.NoneTotal
import Derived.Ground.SlsfProg
import Derived.Maps.AppendAt
import Derived.Lib.BufferMore
import Derived.BigQuiet
import Derived.Test.YtdpibehpmghghaaProg
import Derived.Test.YtdpibehpmghghaaBd20f32e1654
import Derived.Test.YtdpibehpmghghaaBddaaa0efefd
import Derived.Test.YtdpibehpmghghaaBd34a084e1f0
import Derived.Test.YtdpibehpmghghaaBd337a1d090e
/-
  DERIVED: THE SHELF's CONTRACTS AT THIS DUMP, IN PLAIN WORDS (tools/lay-plain.mjs out of 'TryShelfB.lean', which tools/lay-shelf.mjs wrote): THE SAME DECLARATIONS UNDER THE SAME NAMES: 'import', 'namespace', 'open', 'def', 'theorem' AND NOTHING ELSE: no command of the shelf's: FOR A HAND-IN. Each laying: the table of numbers ('.._ren') and one theorem, a field a fact of the dump's own or the kernel's comparison; each contract: ONE APPLICATION.
-/
namespace Go.Proofs
open Go.Shelf
def Try.lays189_ren : Go.Shelf.Ren := ⟨fun | 189 => 64 | 125 => 70 | 257 => 72 | 128 => 85 | 129 => 86 | 294 => 87 | 295 => 88 | 296 => 89 | 297 => 90 | 298 => 91 | 299 => 92 | 216 => 93 | 300 => 94 | 301 => 95 | 328 => 104 | 329 => 100 | 330 => 101 | 331 => 105 | 332 => 106 | 215 => 107 | 343 => 111 | n => n, fun | 28 => 66 | 3 => 3 | 46 => 109 | 0 => 0 | 51 => 128 | 53 => 130 | 4 => 4 | 183 => 122 | 182 => 121 | 131 => 68 | 5 => 5 | 9 => 9 | 218 => 145 | 222 => 149 | 228 => 156 | 229 => 157 | n => n, fun | n => n⟩
theorem Try.lays189 : Go.Proofs.Lays.n189 Try.prog Try.lays189_ren := {
  mixed := by kernel_rfl
  f125 := Try.func70.trans (congrArg some (by kernel_rfl))
  f128 := Try.func85.trans (congrArg some (by kernel_rfl))
  f129 := Try.func86.trans (congrArg some (by kernel_rfl))
  f189 := Try.func64.trans (congrArg some (by kernel_rfl))
  f215 := Try.func107.trans (congrArg some (by kernel_rfl))
  f216 := Try.func93.trans (congrArg some (by kernel_rfl))
  f257 := Try.func72.trans (congrArg some (by kernel_rfl))
  f294 := Try.func87.trans (congrArg some (by kernel_rfl))
  f295 := Try.func88.trans (congrArg some (by kernel_rfl))
  f296 := Try.func89.trans (congrArg some (by kernel_rfl))
  f297 := Try.func90.trans (congrArg some (by kernel_rfl))
  f298 := Try.func91.trans (congrArg some (by kernel_rfl))
  f299 := Try.func92.trans (congrArg some (by kernel_rfl))
  f300 := Try.func94.trans (congrArg some (by kernel_rfl))
  f301 := Try.func95.trans (congrArg some (by kernel_rfl))
  f328 := Try.func104.trans (congrArg some (by kernel_rfl))
  f329 := Try.func100.trans (congrArg some (by kernel_rfl))
  f330 := Try.func101.trans (congrArg some (by kernel_rfl))
  f331 := Try.func105.trans (congrArg some (by kernel_rfl))
  f332 := Try.func106.trans (congrArg some (by kernel_rfl))
  f343 := Try.func111.trans (congrArg some (by kernel_rfl))
  t0 := Try.underlying0
  a0 := Try.isAgg0
  z0 := Try.sizeOf0
  v0 := Try.zeroValue0
  t3 := Try.underlying3
  a3 := Try.isAgg3
  z3 := Try.sizeOf3
  v3 := Try.zeroValue3
  t4 := Try.underlying4
  a4 := Try.isAgg4
  z4 := Try.sizeOf4
  v4 := Try.zeroValue4
  t5 := Try.underlying5
  a5 := Try.isAgg5
  z5 := Try.sizeOf5
  v5 := Try.zeroValue5
  t9 := Try.underlying9
  a9 := Try.isAgg9
  z9 := Try.sizeOf9
  v9 := Try.zeroValue9
  t28 := Try.underlying66
  a28 := Try.isAgg66
  z28 := Try.sizeOf66
  v28 := Try.zeroValue66
  t46 := Try.underlying109
  a46 := Try.isAgg109
  z46 := Try.sizeOf109
  v46 := Try.zeroValue109
  t51 := Try.underlying128
  a51 := Try.isAgg128
  z51 := Try.sizeOf128
  v51 := Try.zeroValue128
  t53 := Try.underlying130
  a53 := Try.isAgg130
  z53 := Try.sizeOf130
  v53 := Try.zeroValue130
  t131 := Try.underlying68
  a131 := Try.isAgg68
  z131 := Try.sizeOf68
  v131 := Try.zeroValue68
  t182 := Try.underlying121
  a182 := Try.isAgg121
  z182 := Try.sizeOf121
  v182 := Try.zeroValue121
  t183 := Try.underlying122
  a183 := Try.isAgg122
  z183 := Try.sizeOf122
  v183 := Try.zeroValue122
  t218 := Try.underlying145
  a218 := Try.isAgg145
  z218 := Try.sizeOf145
  v218 := Try.zeroValue145
  t222 := Try.underlying149
  a222 := Try.isAgg149
  z222 := Try.sizeOf149
  v222 := Try.zeroValue149
  t228 := Try.underlying156
  a228 := Try.isAgg156
  z228 := Try.sizeOf156
  v228 := Try.zeroValue156
  t229 := Try.underlying157
  a229 := Try.isAgg157
  z229 := Try.sizeOf157
  v229 := Try.zeroValue157 }
open Go.Sort Go.RowKit in
theorem Try.slices_Sort_int (blk off cap : Nat) (zs : List Int) (w : World) (hH : Holds (Value.int .i64) w blk off zs.toArray) (hblk : blk < w.heap.size) (hsz : zs.length < 4611686018427387904) :
    Calls Try.prog 64 #[.slice (some ⟨blk, off, none⟩) zs.length cap] w fun e w' =>
      e = .returned (.tuple #[]) ∧ ∃ n os, w' = grow (putRow (Value.int .i64) (Sort.ahead w n) blk off (zs.mergeSort fun x y => decide (x ≤ y)).toArray) os := Any.slices_Sort_int Try.lays189 blk off cap zs w hH hblk hsz
def Try.laysNm220_ren : Go.Shelf.Ren := ⟨fun | 20 => 65 | n => n, fun | 22 => 66 | 3 => 3 | 4 => 4 | 0 => 0 | n => n, fun | n => n⟩
theorem Try.laysNm220 : Go.Proofs.Lays2.n20 Try.prog Try.laysNm220_ren := {
  mixed := by kernel_rfl
  f20 := Try.func65.trans (congrArg some (by kernel_rfl))
  t0 := Try.underlying0
  a0 := Try.isAgg0
  z0 := Try.sizeOf0
  v0 := Try.zeroValue0
  t3 := Try.underlying3
  a3 := Try.isAgg3
  z3 := Try.sizeOf3
  v3 := Try.zeroValue3
  t4 := Try.underlying4
  a4 := Try.isAgg4
  z4 := Try.sizeOf4
  v4 := Try.zeroValue4
  t22 := Try.underlying66
  a22 := Try.isAgg66
  z22 := Try.sizeOf66
  v22 := Try.zeroValue66
  i3 := by kernel_rfl }
open Go.RowKit Go.Lib Go.Sort in
/-- slices.Compact at []int, over an array: the library's two loops are walked. (LAID: no walk: one application.) -/
theorem Try.slices_Compact_int_arr (blk off cap : Nat) (d : Array Int) (w : World) (hH : Holds encI w blk off d) (hsz : d.size ≤ 9223372036854775807) (hcap : d.size ≤ cap) :
    Calls Try.prog 65 #[.slice (some ⟨blk, off, none⟩) d.size cap] w fun e w' => e = .returned (.slice (some ⟨blk, off, none⟩) (compactUpTo d d.size).length cap) ∧ ∃ q, w' = putRow encI (Sort.ahead w q) blk off (compactUpTo d d.size ++ List.replicate (d.size - (compactUpTo d d.size).length) 0).toArray := Any.slices_Compact_int_arr Try.laysNm220 blk off cap d w hH hsz hcap
open Go.RowKit Go.Lib Go.Sort in
/-- slices.Compact at []int: "Compact replaces consecutive runs of equal elements with a single copy. This is like the uniq command found on Unix. Compact modifies the contents of the slice s and returns the modified slice, which may have a smaller length. Compact zeroes the elements between the new length and the original length. The result preserves the nilness of s.": IT RETURNS THE SLICE CUT TO 'Lib.compact zs'; ITS CELLS HOLD 'Lib.compact zs', THEN ZERO VALUES up to the old length; all else is as it was, but for the count of draws. IN THE WORDS OF slices.Sort's CONTRACT ('Holds', 'putRow'): so the everyday 'slices.Sort(xs); xs = slices.Compact(xs)' goes from the one contract to the other. It asks 'zs.length ≤ cap' (every slice's: the reslicing 's[:k]' looks at it). Length 0, nil: '.._empty'. (LAID: no walk: one application.) -/
theorem Try.slices_Compact_int (blk off cap : Nat) (zs : List Int) (w : World) (hH : Holds (Value.int .i64) w blk off zs.toArray) (hsz : zs.length ≤ 9223372036854775807) (hcap : zs.length ≤ cap) :
    Calls Try.prog 65 #[.slice (some ⟨blk, off, none⟩) zs.length cap] w fun e w' => e = .returned (.slice (some ⟨blk, off, none⟩) (Lib.compact zs).length cap) ∧ ∃ q, w' = putRow (Value.int .i64) (Sort.ahead w q) blk off (Lib.compact zs ++ List.replicate (zs.length - (Lib.compact zs).length) 0).toArray := Any.slices_Compact_int Try.laysNm220 blk off cap zs w hH hsz hcap
open Go.RowKit Go.Lib Go.Sort in
/-- The same at a slice of length 0, a nil one too: it comes back as it is. (LAID: no walk: one application.) -/
theorem Try.slices_Compact_int_empty (a : Option Addr) (cap : Nat) (w : World) :
    Calls Try.prog 65 #[.slice a 0 cap] w fun e w' => e = .returned (.slice a 0 cap) ∧ w' = w := Any.slices_Compact_int_empty Try.laysNm220 a cap w
open Go.RowKit Go.Sort in
/-- .. and plain. (LAID: no walk: one application.) -/
theorem Try.slices_Sort_int_none (p : Option Addr) (cap : Nat) (w : World) :
    Calls Try.prog 64 #[.slice p 0 cap] w fun e w' => e = .returned (.tuple #[]) ∧ w' = w := Any.slices_Sort_int_none Try.lays189 p cap w
def Try.sortIvl_ren : Go.Shelf.Ren := ⟨fun | 6 => 56 | 15 => 70 | 14 => 69 | 28 => 85 | 29 => 86 | 20 => 77 | 21 => 78 | 22 => 79 | 23 => 80 | 24 => 81 | 25 => 82 | 26 => 83 | 27 => 84 | 46 => 99 | 47 => 100 | 48 => 101 | 49 => 102 | 50 => 103 | 57 => 110 | n => n, fun | 22 => 22 | 24 => 29 | 25 => 83 | 3 => 3 | 39 => 109 | 0 => 0 | 53 => 128 | 55 => 130 | 4 => 4 | 46 => 122 | 45 => 121 | 50 => 68 | 5 => 5 | 9 => 9 | 66 => 145 | 70 => 149 | 76 => 156 | 77 => 157 | n => n, fun | n => n⟩
theorem Try.sortIvl : Go.Proofs.SlLaysF0.n6 Try.prog Try.sortIvl_ren := {
  mixed := by kernel_rfl
  f6 := ⟨Try.f56.name, by decide, Try.func56.trans (congrArg some (by kernel_rfl))⟩
  f14 := ⟨Try.f69.name, by decide, Try.func69.trans (congrArg some (by kernel_rfl))⟩
  f15 := Try.func70.trans (congrArg some (by kernel_rfl))
  f20 := ⟨Try.f77.name, by decide, Try.func77.trans (congrArg some (by kernel_rfl))⟩
  f21 := ⟨Try.f78.name, by decide, Try.func78.trans (congrArg some (by kernel_rfl))⟩
  f22 := ⟨Try.f79.name, by decide, Try.func79.trans (congrArg some (by kernel_rfl))⟩
  f23 := ⟨Try.f80.name, by decide, Try.func80.trans (congrArg some (by kernel_rfl))⟩
  f24 := ⟨Try.f81.name, by decide, Try.func81.trans (congrArg some (by kernel_rfl))⟩
  f25 := ⟨Try.f82.name, by decide, Try.func82.trans (congrArg some (by kernel_rfl))⟩
  f26 := ⟨Try.f83.name, by decide, Try.func83.trans (congrArg some (by kernel_rfl))⟩
  f27 := ⟨Try.f84.name, by decide, Try.func84.trans (congrArg some (by kernel_rfl))⟩
  f28 := Try.func85.trans (congrArg some (by kernel_rfl))
  f29 := Try.func86.trans (congrArg some (by kernel_rfl))
  f46 := ⟨Try.f99.name, by decide, Try.func99.trans (congrArg some (by kernel_rfl))⟩
  f47 := Try.func100.trans (congrArg some (by kernel_rfl))
  f48 := Try.func101.trans (congrArg some (by kernel_rfl))
  f49 := ⟨Try.f102.name, by decide, Try.func102.trans (congrArg some (by kernel_rfl))⟩
  f50 := ⟨Try.f103.name, by decide, Try.func103.trans (congrArg some (by kernel_rfl))⟩
  f57 := ⟨Try.f110.name, by decide, Try.func110.trans (congrArg some (by kernel_rfl))⟩
  t0 := Try.underlying0
  a0 := Try.isAgg0
  z0 := Try.sizeOf0
  v0 := Try.zeroValue0
  t3 := Try.underlying3
  a3 := Try.isAgg3
  z3 := Try.sizeOf3
  v3 := Try.zeroValue3
  t4 := Try.underlying4
  a4 := Try.isAgg4
  z4 := Try.sizeOf4
  v4 := Try.zeroValue4
  t5 := Try.underlying5
  a5 := Try.isAgg5
  z5 := Try.sizeOf5
  v5 := Try.zeroValue5
  t9 := Try.underlying9
  a9 := Try.isAgg9
  z9 := Try.sizeOf9
  v9 := Try.zeroValue9
  t22 := Try.underlying22
  a22 := Try.isAgg22
  z22 := Try.sizeOf22
  v22 := Try.zeroValue22
  t25 := Try.underlying83
  a25 := Try.isAgg83
  z25 := Try.sizeOf83
  v25 := Try.zeroValue83
  t39 := Try.underlying109
  a39 := Try.isAgg109
  z39 := Try.sizeOf109
  v39 := Try.zeroValue109
  t45 := Try.underlying121
  a45 := Try.isAgg121
  z45 := Try.sizeOf121
  v45 := Try.zeroValue121
  t46 := Try.underlying122
  a46 := Try.isAgg122
  z46 := Try.sizeOf122
  v46 := Try.zeroValue122
  t50 := Try.underlying68
  a50 := Try.isAgg68
  z50 := Try.sizeOf68
  v50 := Try.zeroValue68
  t53 := Try.underlying128
  a53 := Try.isAgg128
  z53 := Try.sizeOf128
  v53 := Try.zeroValue128
  t55 := Try.underlying130
  a55 := Try.isAgg130
  z55 := Try.sizeOf130
  v55 := Try.zeroValue130
  t66 := Try.underlying145
  a66 := Try.isAgg145
  z66 := Try.sizeOf145
  v66 := Try.zeroValue145
  t70 := Try.underlying149
  a70 := Try.isAgg149
  z70 := Try.sizeOf149
  v70 := Try.zeroValue149
  t76 := Try.underlying156
  a76 := Try.isAgg156
  z76 := Try.sizeOf156
  v76 := Try.zeroValue156
  t77 := Try.underlying157
  a77 := Try.isAgg157
  z77 := Try.sizeOf157
  v77 := Try.zeroValue157 }
end Go.Proofs
/- Lists of ints that a call owns; how they are sorted. -/
namespace Go.Proofs.Ytdpibehpmghghaa
open Go.RowKit Go.Sort

def intEnc (n : Int) : List Value := [.int .i64 n]
theorem intEnc_len (x : Int) : (intEnc x).length = 1 := rfl
theorem int_one1 {a : Int} : ∀ u ∈ (#[.int .i64 a] : Array Value).toList, u.oneCell' = true := by simp [Value.oneCell']
theorem int_one2 {a b : Int} : ∀ u ∈ (#[.int .i64 a, .int .i64 b] : Array Value).toList, u.oneCell' = true := by simp [Value.oneCell']
theorem info_int1 : (Try.prog.info? 3).map (fun i => (i.zero, i.size, i.bytes)) = some (some (.int .i64 0), 1, 8) := by kernel_rfl
theorem info_int2 : ∃ i, Try.prog.info? 3 = some i ∧ i.zero = some (.int .i64 0) ∧ i.size = 1 ∧ i.bytes = 8 := by
  obtain ⟨i0, hi, hzz⟩ := Option.map_eq_some_iff.1 info_int1
  simp only [Prod.mk.injEq] at hzz
  exact ⟨i0, hi, hzz.1, hzz.2.1, hzz.2.2⟩
structure IntsAt (w : World) (A : Option Addr) (c : Nat) (l : List Int) : Prop where
  lc : l.length ≤ c
  cm : c ≤ maxLen
  sl : SlAt RInt 1 w A l
section
variable {w w' : World} {A : Option Addr} {c k base g n : Nat} {l : List Int} {v : Value}
theorem IntsAt.ext (h : IntsAt w A c l) (hb : Below w.heap.size w w') : IntsAt w' A c l := ⟨h.lc, h.cm, h.sl.ext RInt.stable hb⟩
theorem IntsAt.len (h : IntsAt w A c l) : l.length ≤ 9223372036854775807 := Nat.le_trans h.lc h.cm
theorem IntsAt.get (h : IntsAt w A c l) {x : Int} (hx : l[k]? = some x) : ∃ b off, A = some ⟨b, off, none⟩ ∧ b < w.heap.size ∧ w.cell? ⟨b, off + k, none⟩ = some (.int .i64 x) := by
  obtain ⟨b, off, hS⟩ := h.sl
  obtain ⟨h1, h2, h3, _⟩ := hS k x hx
  rw [Nat.mul_one] at h3
  exact ⟨b, off, h1, h2, h3⟩
theorem IntsAt.i64 (h : IntsAt w A c l) : ∀ x, x ∈ l → I64 x := fun x hx => by
  obtain ⟨k, hk⟩ := List.getElem?_of_mem hx
  obtain ⟨b, off, hS⟩ := h.sl
  exact (hS k x hk).2.2.2
theorem own_ints (h : Own intEnc 1 w base 3 v l) (hi : ∀ x, x ∈ l → I64 x) : ∃ A c, v = .slice A l.length c ∧ IntsAt w A c l := by
  obtain ⟨A, c, hv, hS⟩ := Own.slAt (R := RInt) (enc := intEnc) (fun _ => rfl) (fun x hx b o hc => ⟨by have := hc 0 _ rfl; simpa using this, hi x hx⟩) h
  subst hv
  exact ⟨A, c, rfl, h.room.1, h.room.2, hS⟩
theorem IntsAt.flat {b off : Nat} (h : IntsAt w (some ⟨b, off, none⟩) c l) : ∀ (j : Nat) u, (l.flatMap intEnc)[j]? = some u → w.cell? ⟨b, off + j, none⟩ = some u := fun j u hu => by
  have hj : j < l.length := by have := lt_of_get hu; rw [flat_length intEnc_len] at this; omega
  obtain ⟨x, hx⟩ := get_lt hj
  obtain ⟨b', off', e, _, h0⟩ := h.get hx
  obtain ⟨rfl, rfl⟩ : b = b' ∧ off = off' := by simpa using e
  have h4 := flat_at intEnc_len hx (show 0 < 1 by decide)
  rw [Nat.mul_one, Nat.add_zero, hu] at h4
  rw [h0, h4]
  rfl
theorem ints_one (l : List Int) : ∀ u ∈ l.flatMap intEnc, u.oneCell' = true := fun u hu => by
  obtain ⟨x, _, hx⟩ := List.mem_flatMap.1 hu
  simp only [intEnc, List.mem_cons, List.not_mem_nil, or_false] at hx
  rw [hx]; rfl
theorem flatK_int (d : Array Int) (t : Nat) (h : t < d.size) : (flatK intEnc 1 d)[t]! = .int .i64 d[t]! := by
  rw [get_flatK _ _ _ _ (by omega), Nat.div_one, Nat.mod_one]
  rfl
theorem holds_int {d : Array Int} (h : HoldsK intEnc 1 w g 0 d) : Holds (Value.int .i64) w g 0 d := fun j hj => by
  have := h j (by rw [size_flatK]; omega)
  rw [flatK_int d j hj] at this
  exact this
theorem putRow_int (d : Array Int) : putRow (Value.int .i64) w g 0 d = putRowK intEnc 1 w g 0 d := by
  unfold putRowK putRow
  congr 1
  funext c
  unfold putCells
  refine Array.ext (by simp) fun i h1 h2 => ?_
  simp only [Array.getElem_mapIdx, Nat.zero_le, true_and, Nat.zero_add, Nat.sub_zero, size_flatK, Nat.mul_one, id]
  by_cases hi : i < d.size
  · rw [if_pos hi, if_pos hi, flatK_int d i hi]
  · rw [if_neg hi, if_neg hi]
end
def SortedOut (l : List Int) (v : Value) (w : World) (base : Nat) (e : Ending) (w' : World) : Prop := e = .returned (.tuple #[]) ∧ ∃ r, (∀ x, x ∈ r ↔ x ∈ l) ∧ r.length = l.length ∧ r.Pairwise (· ≤ ·) ∧ Own intEnc 1 w' base 3 v r ∧ Below base w w'
theorem sortInts_any (v : Value) (l : List Int) (w : World) (base : Nat) (hown : Own intEnc 1 w base 3 v l) (hbase : base ≤ w.heap.size) (hl : l.length ≤ 100000) :
    Calls Try.prog 64 #[v] w (SortedOut l v w base) := by
  rcases hown.2 with ⟨hv, h0⟩ | ⟨g, cap, cur, hv, hg, hh, _⟩
  · rw [hv]
    have h0' : l = [] := List.eq_nil_of_length_eq_zero h0
    refine (Try.slices_Sort_int_none none 0 w).mono fun e w' ⟨he, hw⟩ => ⟨he, [], by simp [h0'], by simp [h0'], by simp, by subst hw; rw [← hv, ← h0']; exact hown, by rw [hw]; exact Below.refl _ _⟩
  · have hlt : g < w.heap.size := by
      rcases Nat.lt_or_ge g w.heap.size with hlt | hge
      · exact hlt
      · rw [Array.getElem?_eq_none hge] at hh; cases hh
    rw [hv] at hown ⊢
    have hH := holds_int (hown.holdsK (sz := 1) (fun _ => rfl) (by decide))
    refine (Try.slices_Sort_int g 0 cap l w hH hlt (by omega)).mono fun e w' ⟨he, n, os, hw⟩ => ?_
    have hsz : (l.mergeSort fun x y => decide (x ≤ y)).length = l.length := List.length_mergeSort _
    refine ⟨he, l.mergeSort fun x y => decide (x ≤ y), fun x => List.mem_mergeSort, hsz, ?_, ?_, ?_⟩
    · have h1 := List.pairwise_mergeSort (le := fun x y : Int => decide (x ≤ y)) (fun a b c h1 h2 => by simp at *; omega) (fun a b => by simp; omega) l
      exact h1.imp fun h => by simpa using h
    · rw [hw, putRow_int]
      exact hown.sortWorld (sz := 1) (m := n) (os := os) (fun _ => rfl) (by decide) hsz
    · rw [hw, putRow_int]
      exact below_sort hg hbase
end Go.Proofs.Ytdpibehpmghghaa
/- The walk of the document's bounds: sorted, each once. -/
namespace Go.Proofs.Ytdpibehpmghghaa
open Go.RowKit

/-- While the sorted row is made shorter in its place. -/
structure CompInv (S m : List Int) (i k : Nat) : Prop where
  len : m.length = S.length
  uniq : Uniq S i (m.take k)
  ki : k ≤ i
  il : i ≤ S.length
  rest : ∀ j x, i ≤ j → S[j]? = some x → m[j]? = some x
section
variable {S m : List Int} {i k : Nat} {x z : Int}
theorem CompInv.start : CompInv S S 0 0 := ⟨rfl, by simpa using Uniq.start, Nat.le_refl _, Nat.zero_le _, fun _ _ _ h => h⟩
theorem CompInv.klen (h : CompInv S m i k) : (m.take k).length = k := by
  have := h.ki; have := h.il; have := h.len
  rw [List.length_take]; omega
theorem CompInv.put (h : CompInv S m i k) (hs : S.Pairwise (· ≤ ·)) (hx : S[i]? = some x) (hz : i = 0 ∨ ∃ z, m[k - 1]? = some z ∧ z ≠ x) : CompInv S (m.set k x) (i + 1) (k + 1) := by
  have hil := lt_of_get hx
  have hki := h.ki
  have hkm : k < m.length := by rw [h.len]; omega
  have e : (m.set k x).take (k + 1) = m.take k ++ [x] := by
    rw [List.take_add_one, List.getElem?_set_self hkm, List.take_set_of_le (Nat.le_refl _)]
    rfl
  refine ⟨by rw [List.length_set]; exact h.len, ?_, by omega, by omega, fun j y hj hy => ?_⟩
  · rw [e]
    rcases hz with rfl | ⟨z, hz, hne⟩
    · obtain rfl : k = 0 := by omega
      simpa using Uniq.first hx
    · have hk0 : 0 < k := by
        rcases Nat.eq_zero_or_pos k with h0 | h0
        · exfalso
          subst h0
          have h1 := h.uniq.pos
          by_cases hi0 : 0 < i
          · have := h1 hi0 (by omega)
            simp at this
          · obtain rfl : i = 0 := by omega
            have h2 := h.rest 0 x (Nat.le_refl _) hx
            simp only [Nat.zero_sub] at hz
            rw [h2] at hz
            exact hne (by simpa using hz.symm)
        · exact h0
      have e2 : m.take k = m.take (k - 1) ++ [z] := by
        have h3 : k = (k - 1) + 1 := by omega
        conv => lhs; rw [h3, List.take_add_one, hz]
        rfl
      have hu := h.uniq
      rw [e2] at hu ⊢
      exact hu.new hs hx hne
  · rw [List.getElem?_set_ne (by omega)]
    exact h.rest j y (by omega) hy
theorem CompInv.skip (h : CompInv S m i k) (hx : S[i]? = some x) (hi : i ≠ 0) (hz : m[k - 1]? = some x) : CompInv S m (i + 1) k := by
  have hil := lt_of_get hx
  have hki := h.ki
  have hk0 : 0 < k := by
    have := h.uniq.pos (by omega) (by omega)
    rw [h.klen] at this
    exact this
  refine ⟨h.len, ?_, by omega, by omega, fun j y hj hy => h.rest j y (by omega) hy⟩
  have e2 : m.take k = m.take (k - 1) ++ [x] := by
    have h3 : k = (k - 1) + 1 := by omega
    conv => lhs; rw [h3, List.take_add_one, hz]
    rfl
  have hu := h.uniq
  rw [e2] at hu ⊢
  exact hu.same hx
theorem CompInv.kpos (h : CompInv S m i k) (hi : i ≠ 0) (hl : i < S.length) : 0 < k := by
  have := h.uniq.pos (by omega) (by omega)
  rw [h.klen] at this
  exact this
end
/-- Its beginning alone. -/
theorem Own.cut {α : Type} {enc : α → List Value} {sz : Nat} {w : World} {base n c k : Nat} {e : TypeId} {A : Option Addr} {m : List α} (hk : ∀ x, (enc x).length = sz) (hs : 0 < sz) (h : Own enc sz w base e (.slice A n c) m) (hkn : k ≤ n) : Own enc sz w base e (.slice A k c) (m.take k) := by
  rcases h.2 with ⟨h1, h2⟩ | ⟨g, cap, cur, hv, _⟩
  · simp only [Value.slice.injEq] at h1
    obtain ⟨rfl, rfl, rfl⟩ := h1
    obtain rfl : k = 0 := by omega
    exact Own.nil
  · simp only [Value.slice.injEq] at hv
    obtain ⟨rfl, rfl, rfl⟩ := hv
    obtain ⟨_, hg, hmc, hcm, cs, hB, hcs, hr⟩ := h.cells hk
    have hl : (m.take k).length = k := by rw [List.length_take]; omega
    have h2 := Own.of_cells (m := m.take k) hk hs hB hg (by rw [hl]; omega) hcm hcs (hr.take k)
    rwa [hl] at h2
/-- What a call owns lies in a block of its own. -/
theorem own_fresh {α : Type} {enc : α → List Value} {k : Nat} {w : World} {base : Nat} {t : TypeId} {A : Option Addr} {n c : Nat} {l : List α} (h : Own enc k w base t (.slice A n c) l) : ∀ b, A = some b → base ≤ b.block := by
  rintro b rfl
  rcases h.2 with ⟨h2, _⟩ | ⟨g, cap, cur, hv, hg, _⟩
  · simp at h2
  · simp only [Value.slice.injEq, Option.some.injEq] at hv
    rw [hv.1]; exact hg
def BoundsF (l : List Int) (w : World) (e : Ending) (w' : World) : Prop := ∃ A c D, Hid (D.Pairwise (· < ·) ∧ (∀ x, x ∈ D ↔ x ∈ l) ∧ D.length ≤ l.length) ∧ (∀ b, A = some b → w.heap.size ≤ b.block) ∧ e = .returned (.slice A D.length c) ∧ IntsAt w' A c D ∧ Below w.heap.size w w'
/-- The bounds of a list. -/
def BoundsOut (l : List Int) (w : World) (e : Ending) (w' : World) : Prop := ∃ A c D, Hid (D.Pairwise (· < ·) ∧ (∀ x, x ∈ D ↔ x ∈ l) ∧ D.length ≤ l.length) ∧ e = .returned (.slice A D.length c) ∧ IntsAt w' A c D ∧ Below w.heap.size w w'

end Go.Proofs.Ytdpibehpmghghaa
