/- Several texts in one: RowMem, Shelf, IntMem, WarpAt. -/
import Derived.Lib.SliceRun
import Derived.Shelf.Sort.Plain
import Derived.Shelf.Slices.CompactI
import Derived.Shelf.Slices.In.SortNone
import Derived.Ground.Names2Prog
import Derived.Ground.NamesProg
import Derived.Shelf.SlSortCmp.WholeK
import Derived.Shelf.SlSortCmp.NoneTotal
import Derived.Ground.SlsfProg
import Derived.Test.YtjcimdpldlamfaaGreatDoorProg
import Derived.Test.YtjcimdpldlamfaaGreatDoorBd4452353c6b
import Derived.Test.YtjcimdpldlamfaaGreatDoorBd2f7b3eaff4
import Derived.Test.YtjcimdpldlamfaaGreatDoorBd0848e2b72a
import Derived.Test.YtjcimdpldlamfaaGreatDoorBd1aa46607c4
/- A list in a block of its own: cell by cell. -/
namespace Go.Proofs.YtjcimdpldlamfaaGreatDoor
open Go.RowKit

section
variable {α : Type} {enc : α → List Value} {sz : Nat} {w w' : World} {base g c n i : Nat} {t e : TypeId} {m : List α} {x y : α} {cs : Array Value}
/-- Cell by cell: what the block's cells are. -/
def RowC (enc : α → List Value) (sz : Nat) (cs : Array Value) (m : List α) : Prop := ∀ (k : Nat) (x : α), m[k]? = some x → ∀ j, j < sz → cs[k * sz + j]? = (enc x)[j]?
theorem Own.cells (hk : ∀ x, (enc x).length = sz) (h : Own enc sz w base e (.slice (some ⟨g, 0, none⟩) n c) m) :
  n = m.length ∧ base ≤ g ∧ m.length ≤ c ∧ c ≤ maxLen ∧ ∃ cs, Blk w g e cs ∧ cs.size = c * sz ∧ RowC enc sz cs m := by
 rcases h.2 with ⟨h1, _⟩ | ⟨g', cap', cur, hv, hg, hh, hnc, hcm, hcs, htake⟩
 ·simp at h1
 ·simp only [Value.slice.injEq, Option.some.injEq, Addr.mk.injEq, and_true] at hv
  obtain ⟨rfl, rfl, rfl⟩ := hv
  refine ⟨rfl, hg, hnc, hcm, cur, hh, hcs, fun k x hx j hj => ?_⟩
  have hl := lt_of_get hx
  have h2 := flat_at hk hx hj
  rw [← htake] at h2
  have hlt : k * sz + j < m.length * sz := by
   have := Nat.mul_le_mul_right sz (show k + 1 ≤ m.length from hl)
   rw [Nat.succ_mul] at this
   omega
  rw [List.getElem?_take_of_lt hlt] at h2
  rw [← h2]
  simp
theorem Own.of_cells (hk : ∀ x, (enc x).length = sz) (hs : 0 < sz) (hB : Blk w g e cs) (hg : base ≤ g) (h1 : m.length ≤ c) (h2 : c ≤ maxLen) (hcs : cs.size = c * sz) (hc : RowC enc sz cs m) :
  Own enc sz w base e (.slice (some ⟨g, 0, none⟩) m.length c) m := by
 refine ⟨flat_length hk m, .inr ⟨g, c, cs, rfl, hg, hB, h1, h2, hcs, ?_⟩⟩
 refine List.ext_getElem? fun t => ?_
 by_cases ht : t < m.length * sz
 ·rw [List.getElem?_take_of_lt ht]
  have hq : t / sz < m.length := Nat.div_lt_of_lt_mul (by rwa [Nat.mul_comm])
  have hr : t % sz < sz := Nat.mod_lt _ hs
  obtain ⟨x, hx⟩ := get_lt hq
  have h3 := hc _ x hx _ hr
  have h4 := flat_at hk hx hr
  rw [Nat.div_add_mod' t sz] at h3 h4
  rw [h4, ← h3]
  simp
 ·rw [List.getElem?_eq_none (by simp; omega), List.getElem?_eq_none (by rw [flat_length hk]; omega)]
theorem RowC.take (h : RowC enc sz cs m) (i : Nat) : RowC enc sz cs (m.take i) := fun k x hx j hj => h k x (by
 by_cases hi : k < i
 ·rwa [List.getElem?_take_of_lt hi] at hx
 ·rw [List.getElem?_take_eq_none (by omega)] at hx; cases hx) j hj
/-- One element is put over. -/
theorem RowC.set {cs' : Array Value} (h : RowC enc sz cs m) (hi : i < m.length) (hs : ∀ t, t < i * sz ∨ i * sz + sz ≤ t → cs'[t]? = cs[t]?) (hx : ∀ j, j < sz → cs'[i * sz + j]? = (enc x)[j]?) : RowC enc sz cs' (m.set i x) := fun k y hy j hj => by
 by_cases hki : i = k
 ·subst hki
  rw [List.getElem?_set_self hi] at hy
  obtain rfl : x = y := by simpa using hy
  exact hx j hj
 ·rw [List.getElem?_set_ne hki] at hy
  rw [hs _ (by
   rcases Nat.lt_or_gt_of_ne hki with h1 | h1
   ·right
    have := Nat.mul_le_mul_right sz (show i + 1 ≤ k from h1)
    rw [Nat.succ_mul] at this
    omega
   ·left
    have := Nat.mul_le_mul_right sz (show k + 1 ≤ i from h1)
    rw [Nat.succ_mul] at this
    omega)]
  exact h k y hy j hj
/-- A row of stores: what lies ahead of it stays. -/
theorem Blk.setCells : ∀ (vs : List Value) (o : Nat) {w : World} {cs : Array Value}, Blk w g t cs → ∃ cs', Blk (w.setCells g o vs) g t cs' ∧ cs'.size = cs.size ∧ ∀ i, i < o → cs'[i]? = cs[i]?
 | [], o, w, cs, h => ⟨cs, h, rfl, fun _ _ => rfl⟩
 | v :: vs, o, w, cs, h => by
  obtain ⟨cs', h1, h2, h3⟩ := Blk.setCells vs (o + 1) (h.set_ o v)
  refine ⟨cs', h1, by rw [h2]; simp, fun i hi => ?_⟩
  rw [h3 i (by omega), Array.getElem?_setIfInBounds_ne (by omega)]
theorem below_setCells {B : Nat} (hB : B ≤ g) : ∀ (vs : List Value) (o : Nat) {w w' : World}, Below B w w' → Below B w (w'.setCells g o vs)
 | [], _, _, _, h => h
 | v :: vs, o, _, w', h => below_setCells hB vs (o + 1) (h.setCell hB v)
theorem zeroCells_size (zs : Array Value) (n : Nat) : (Builtin.zeroCells zs n).size = n * zs.size := by simp [Builtin.zeroCells]
/-- 'clear(s)', s a slice of n > 0 elements. -/
theorem run_clear_row {P : Program} (w : World) (t e ty : TypeId) (z : Value) (ht : P.underlying t = some (.slice e)) (hv : ∀ w, (zeroValue e).run P w = .ok z w) (h1 : ∀ v ∈ z.cells.toList, v.oneCell' = true) (b o n c : Nat) (hn : 0 < n)
  (hc : ∀ j, j < n * z.cells.size → (w.cell? ⟨b, o + j, none⟩).isSome = true) (hf : ∀ j, j < n * z.cells.size → w.frozen? ⟨b, o + j, none⟩ = false) :
  (Builtin.clear_ #[t] ty #[.slice (some ⟨b, o, none⟩) n c]).run P w = .ok (.tuple #[]) (w.setCells b o (Builtin.zeroCells z.cells n).toList) := by
 have hst := run_storeCells_cells (P := P) b o (Builtin.zeroCells z.cells n).toList 0 w (by simpa [zeroCells_size] using hc) (by simpa [zeroCells_size] using hf) (by
  intro v hv'
  obtain ⟨i, hi, rfl⟩ := List.mem_iff_getElem.1 hv'
  have hlt : i < n * z.cells.size := by simpa [zeroCells_size] using hi
  have hpos : 0 < z.cells.size := by
   rcases Nat.eq_zero_or_pos z.cells.size with h0 | h0
   ·rw [h0] at hlt; omega
   ·exact h0
  have e1 : (Builtin.zeroCells z.cells n).toList[i] ∈ z.cells.toList := by
   simp only [Builtin.zeroCells, Array.toList_map, List.getElem_map]
   have hm : i % z.cells.size < z.cells.size := Nat.mod_lt _ hpos
   simp [hm]
  exact h1 _ e1)
 simp only [Nat.add_zero] at hst
 obtain ⟨m, rfl⟩ : ∃ m, n = m + 1 := ⟨n - 1, by omega⟩
 simp [Builtin.clear_, run_underlying ht, hv, hst]
end
/-- Nothing is appended. -/
theorem run_append_nothing {P : Program} (w : World) (t e ty : TypeId) (i : TypeInfo) (ht : P.underlying t = some (.slice e)) (hi : P.info? e = some i) (b : Option Addr) (n c d : Nat) (hn : n ≤ c) :
  (Builtin.append_ #[t, t] ty #[.slice b n c, .slice none 0 d]).run P w = .ok (.slice b n c) w := by
 cases b <;> simp [Builtin.append_, run_underlying ht, sizeOf, typeInfo, hi, Builtin.lenOf, Builtin.firstCells, storeCells, hn]
theorem wpList_append_nothing {P : Program} {ops : Array Oper} {rest : List Oper} {o : Oper} {a : Act} {Q : Exit → Act → World → Prop} {w : World} (hgd : o.guard = none) (s x : Operand) (t : TypeId)
  (ho : o.op = .call { callee := .builtin .append, args := #[s, x], argTypes := #[t, t] }) (e : TypeId) (i : TypeInfo) (ht : P.underlying t = some (.slice e)) (hi : P.info? e = some i) (b : Option Addr) (n c d : Nat)
  (hs : a.eval s = .slice b n c) (hx : a.eval x = .slice none 0 d) (hn : n ≤ c) (h : wpList P ops Q rest (a.put o.dst (.slice b n c)) w) : wpList P ops Q (o :: rest) a w := by
 refine wpList_plain hgd fun K hK => ?_
 have hr := run_append_nothing (P := P) w t e o.type i ht hi b n c d hn
 unfold Oper.wp execOp
 simp only [ho, resolve, invoke, builtin, Sem.run_bind, Sem.run_pure, Result.andThen_ok, List.map_toArray, List.map_cons, List.map_nil, hs, hx, hr]
 exact hK _ _ h
end Go.Proofs.YtjcimdpldlamfaaGreatDoor
/-
 DERIVED: THE SHELF's CONTRACTS AT THIS DUMP, IN PLAIN WORDS (tools/lay-plain.mjs out of 'TryShelfB.lean', which tools/lay-shelf.mjs wrote): THE SAME DECLARATIONS UNDER THE SAME NAMES: 'import', 'namespace', 'open', 'def', 'theorem' AND NOTHING ELSE: no command of the shelf's: FOR A HAND-IN. Each laying: the table of numbers ('.._ren') and one theorem, a field a fact of the dump's own or the kernel's comparison; each contract: ONE APPLICATION.
-/
namespace Go.Proofs
open Go.Shelf
def Tryz.lays189_ren : Go.Shelf.Ren := ⟨fun | 189 => 185 | 125 => 197 | 257 => 196 | 128 => 214 | 129 => 155 | 294 => 205 | 295 => 206 | 296 => 207 | 297 => 208 | 298 => 209 | 299 => 210 | 216 => 211 | 300 => 212 | 301 => 213 | 328 => 216 | 329 => 217 | 330 => 218 | 331 => 219 | 332 => 220 | 215 => 221 | 343 => 230 | n => n, fun | 28 => 55 | 3 => 3 | 46 => 92 | 0 => 0 | 51 => 150 | 53 => 176 | 4 => 4 | 183 => 268 | 182 => 267 | 131 => 201 | 5 => 5 | 9 => 9 | 218 => 275 | 222 => 279 | 228 => 286 | 229 => 172 | n => n, fun | n => n⟩
theorem Tryz.lays189 : Go.Proofs.Lays.n189 Tryz.prog Tryz.lays189_ren := {
 mixed := by kernel_rfl
 f125 := Tryz.func197.trans (congrArg some (by kernel_rfl))
 f128 := Tryz.func214.trans (congrArg some (by kernel_rfl))
 f129 := Tryz.func155.trans (congrArg some (by kernel_rfl))
 f189 := Tryz.func185.trans (congrArg some (by kernel_rfl))
 f215 := Tryz.func221.trans (congrArg some (by kernel_rfl))
 f216 := Tryz.func211.trans (congrArg some (by kernel_rfl))
 f257 := Tryz.func196.trans (congrArg some (by kernel_rfl))
 f294 := Tryz.func205.trans (congrArg some (by kernel_rfl))
 f295 := Tryz.func206.trans (congrArg some (by kernel_rfl))
 f296 := Tryz.func207.trans (congrArg some (by kernel_rfl))
 f297 := Tryz.func208.trans (congrArg some (by kernel_rfl))
 f298 := Tryz.func209.trans (congrArg some (by kernel_rfl))
 f299 := Tryz.func210.trans (congrArg some (by kernel_rfl))
 f300 := Tryz.func212.trans (congrArg some (by kernel_rfl))
 f301 := Tryz.func213.trans (congrArg some (by kernel_rfl))
 f328 := Tryz.func216.trans (congrArg some (by kernel_rfl))
 f329 := Tryz.func217.trans (congrArg some (by kernel_rfl))
 f330 := Tryz.func218.trans (congrArg some (by kernel_rfl))
 f331 := Tryz.func219.trans (congrArg some (by kernel_rfl))
 f332 := Tryz.func220.trans (congrArg some (by kernel_rfl))
 f343 := Tryz.func230.trans (congrArg some (by kernel_rfl))
 t0 := Tryz.underlying0
 a0 := Tryz.isAgg0
 z0 := Tryz.sizeOf0
 v0 := Tryz.zeroValue0
 t3 := Tryz.underlying3
 a3 := Tryz.isAgg3
 z3 := Tryz.sizeOf3
 v3 := Tryz.zeroValue3
 t4 := Tryz.underlying4
 a4 := Tryz.isAgg4
 z4 := Tryz.sizeOf4
 v4 := Tryz.zeroValue4
 t5 := Tryz.underlying5
 a5 := Tryz.isAgg5
 z5 := Tryz.sizeOf5
 v5 := Tryz.zeroValue5
 t9 := Tryz.underlying9
 a9 := Tryz.isAgg9
 z9 := Tryz.sizeOf9
 v9 := Tryz.zeroValue9
 t28 := Tryz.underlying55
 a28 := Tryz.isAgg55
 z28 := Tryz.sizeOf55
 v28 := Tryz.zeroValue55
 t46 := Tryz.underlying92
 a46 := Tryz.isAgg92
 z46 := Tryz.sizeOf92
 v46 := Tryz.zeroValue92
 t51 := Tryz.underlying150
 a51 := Tryz.isAgg150
 z51 := Tryz.sizeOf150
 v51 := Tryz.zeroValue150
 t53 := Tryz.underlying176
 a53 := Tryz.isAgg176
 z53 := Tryz.sizeOf176
 v53 := Tryz.zeroValue176
 t131 := Tryz.underlying201
 a131 := Tryz.isAgg201
 z131 := Tryz.sizeOf201
 v131 := Tryz.zeroValue201
 t182 := Tryz.underlying267
 a182 := Tryz.isAgg267
 z182 := Tryz.sizeOf267
 v182 := Tryz.zeroValue267
 t183 := Tryz.underlying268
 a183 := Tryz.isAgg268
 z183 := Tryz.sizeOf268
 v183 := Tryz.zeroValue268
 t218 := Tryz.underlying275
 a218 := Tryz.isAgg275
 z218 := Tryz.sizeOf275
 v218 := Tryz.zeroValue275
 t222 := Tryz.underlying279
 a222 := Tryz.isAgg279
 z222 := Tryz.sizeOf279
 v222 := Tryz.zeroValue279
 t228 := Tryz.underlying286
 a228 := Tryz.isAgg286
 z228 := Tryz.sizeOf286
 v228 := Tryz.zeroValue286
 t229 := Tryz.underlying172
 a229 := Tryz.isAgg172
 z229 := Tryz.sizeOf172
 v229 := Tryz.zeroValue172 }
open Go.Sort Go.RowKit in
theorem Tryz.slices_Sort_int (blk off cap : Nat) (zs : List Int) (w : World) (hH : Holds (Value.int .i64) w blk off zs.toArray) (hblk : blk < w.heap.size) (hsz : zs.length < 4611686018427387904) :
  Calls Tryz.prog 185 #[.slice (some ⟨blk, off, none⟩) zs.length cap] w fun e w' =>
   e = .returned (.tuple #[]) ∧ ∃ n os, w' = grow (putRow (Value.int .i64) (Sort.ahead w n) blk off (zs.mergeSort fun x y => decide (x ≤ y)).toArray) os := Any.slices_Sort_int Tryz.lays189 blk off cap zs w hH hblk hsz
def Tryz.laysNm220_ren : Go.Shelf.Ren := ⟨fun | 20 => 186 | n => n, fun | 22 => 55 | 3 => 3 | 4 => 4 | 0 => 0 | n => n, fun | n => n⟩
theorem Tryz.laysNm220 : Go.Proofs.Lays2.n20 Tryz.prog Tryz.laysNm220_ren := {
 mixed := by kernel_rfl
 f20 := Tryz.func186.trans (congrArg some (by kernel_rfl))
 t0 := Tryz.underlying0
 a0 := Tryz.isAgg0
 z0 := Tryz.sizeOf0
 v0 := Tryz.zeroValue0
 t3 := Tryz.underlying3
 a3 := Tryz.isAgg3
 z3 := Tryz.sizeOf3
 v3 := Tryz.zeroValue3
 t4 := Tryz.underlying4
 a4 := Tryz.isAgg4
 z4 := Tryz.sizeOf4
 v4 := Tryz.zeroValue4
 t22 := Tryz.underlying55
 a22 := Tryz.isAgg55
 z22 := Tryz.sizeOf55
 v22 := Tryz.zeroValue55
 i3 := by kernel_rfl }
open Go.RowKit Go.Lib Go.Sort in
/-- slices.Compact at []int: "Compact replaces consecutive runs of equal elements with a single copy. This is like the uniq command found on Unix. Compact modifies the contents of the slice s and returns the modified slice, which may have a smaller length. Compact zeroes the elements between the new length and the original length. The result preserves the nilness of s.": IT RETURNS THE SLICE CUT TO 'Lib.compact zs'; ITS CELLS HOLD 'Lib.compact zs', THEN ZERO VALUES up to the old length; all else is as it was, but for the count of draws. IN THE WORDS OF slices.Sort's CONTRACT ('Holds', 'putRow'): so the everyday 'slices.Sort(xs); xs = slices.Compact(xs)' goes from the one contract to the other. It asks 'zs.length ≤ cap' (every slice's: the reslicing 's[:k]' looks at it). Length 0, nil: '.._empty'. (LAID: no walk: one application.) -/
theorem Tryz.slices_Compact_int (blk off cap : Nat) (zs : List Int) (w : World) (hH : Holds (Value.int .i64) w blk off zs.toArray) (hsz : zs.length ≤ 9223372036854775807) (hcap : zs.length ≤ cap) :
  Calls Tryz.prog 186 #[.slice (some ⟨blk, off, none⟩) zs.length cap] w fun e w' => e = .returned (.slice (some ⟨blk, off, none⟩) (Lib.compact zs).length cap) ∧ ∃ q, w' = putRow (Value.int .i64) (Sort.ahead w q) blk off (Lib.compact zs ++ List.replicate (zs.length - (Lib.compact zs).length) 0).toArray := Any.slices_Compact_int Tryz.laysNm220 blk off cap zs w hH hsz hcap
open Go.RowKit Go.Lib Go.Sort in
/-- The same at a slice of length 0, a nil one too: it comes back as it is. (LAID: no walk: one application.) -/
theorem Tryz.slices_Compact_int_empty (a : Option Addr) (cap : Nat) (w : World) :
  Calls Tryz.prog 186 #[.slice a 0 cap] w fun e w' => e = .returned (.slice a 0 cap) ∧ w' = w := Any.slices_Compact_int_empty Tryz.laysNm220 a cap w
open Go.RowKit Go.Sort in
/-- .. and plain. (LAID: no walk: one application.) -/
theorem Tryz.slices_Sort_int_none (p : Option Addr) (cap : Nat) (w : World) :
  Calls Tryz.prog 185 #[.slice p 0 cap] w fun e w' => e = .returned (.tuple #[]) ∧ w' = w := Any.slices_Sort_int_none Tryz.lays189 p cap w
def Tryz.sortIvl_ren : Go.Shelf.Ren := ⟨fun | 6 => 202 | 15 => 197 | 14 => 215 | 28 => 214 | 29 => 155 | 20 => 222 | 21 => 223 | 22 => 224 | 23 => 225 | 24 => 226 | 25 => 227 | 26 => 228 | 27 => 229 | 46 => 231 | 47 => 217 | 48 => 218 | 49 => 232 | 50 => 233 | 57 => 234 | n => n, fun | 22 => 65 | 24 => 94 | 25 => 264 | 3 => 3 | 39 => 92 | 0 => 0 | 53 => 150 | 55 => 176 | 4 => 4 | 46 => 268 | 45 => 267 | 50 => 201 | 5 => 5 | 9 => 9 | 66 => 275 | 70 => 279 | 76 => 286 | 77 => 172 | n => n, fun | n => n⟩
theorem Tryz.sortIvl : Go.Proofs.SlLaysF0.n6 Tryz.prog Tryz.sortIvl_ren := {
 mixed := by kernel_rfl
 f6 := ⟨Tryz.f202.name, by decide, Tryz.func202.trans (congrArg some (by kernel_rfl))⟩
 f14 := ⟨Tryz.f215.name, by decide, Tryz.func215.trans (congrArg some (by kernel_rfl))⟩
 f15 := Tryz.func197.trans (congrArg some (by kernel_rfl))
 f20 := ⟨Tryz.f222.name, by decide, Tryz.func222.trans (congrArg some (by kernel_rfl))⟩
 f21 := ⟨Tryz.f223.name, by decide, Tryz.func223.trans (congrArg some (by kernel_rfl))⟩
 f22 := ⟨Tryz.f224.name, by decide, Tryz.func224.trans (congrArg some (by kernel_rfl))⟩
 f23 := ⟨Tryz.f225.name, by decide, Tryz.func225.trans (congrArg some (by kernel_rfl))⟩
 f24 := ⟨Tryz.f226.name, by decide, Tryz.func226.trans (congrArg some (by kernel_rfl))⟩
 f25 := ⟨Tryz.f227.name, by decide, Tryz.func227.trans (congrArg some (by kernel_rfl))⟩
 f26 := ⟨Tryz.f228.name, by decide, Tryz.func228.trans (congrArg some (by kernel_rfl))⟩
 f27 := ⟨Tryz.f229.name, by decide, Tryz.func229.trans (congrArg some (by kernel_rfl))⟩
 f28 := Tryz.func214.trans (congrArg some (by kernel_rfl))
 f29 := Tryz.func155.trans (congrArg some (by kernel_rfl))
 f46 := ⟨Tryz.f231.name, by decide, Tryz.func231.trans (congrArg some (by kernel_rfl))⟩
 f47 := Tryz.func217.trans (congrArg some (by kernel_rfl))
 f48 := Tryz.func218.trans (congrArg some (by kernel_rfl))
 f49 := ⟨Tryz.f232.name, by decide, Tryz.func232.trans (congrArg some (by kernel_rfl))⟩
 f50 := ⟨Tryz.f233.name, by decide, Tryz.func233.trans (congrArg some (by kernel_rfl))⟩
 f57 := ⟨Tryz.f234.name, by decide, Tryz.func234.trans (congrArg some (by kernel_rfl))⟩
 t0 := Tryz.underlying0
 a0 := Tryz.isAgg0
 z0 := Tryz.sizeOf0
 v0 := Tryz.zeroValue0
 t3 := Tryz.underlying3
 a3 := Tryz.isAgg3
 z3 := Tryz.sizeOf3
 v3 := Tryz.zeroValue3
 t4 := Tryz.underlying4
 a4 := Tryz.isAgg4
 z4 := Tryz.sizeOf4
 v4 := Tryz.zeroValue4
 t5 := Tryz.underlying5
 a5 := Tryz.isAgg5
 z5 := Tryz.sizeOf5
 v5 := Tryz.zeroValue5
 t9 := Tryz.underlying9
 a9 := Tryz.isAgg9
 z9 := Tryz.sizeOf9
 v9 := Tryz.zeroValue9
 t22 := Tryz.underlying65
 a22 := Tryz.isAgg65
 z22 := Tryz.sizeOf65
 v22 := Tryz.zeroValue65
 t25 := Tryz.underlying264
 a25 := Tryz.isAgg264
 z25 := Tryz.sizeOf264
 v25 := Tryz.zeroValue264
 t39 := Tryz.underlying92
 a39 := Tryz.isAgg92
 z39 := Tryz.sizeOf92
 v39 := Tryz.zeroValue92
 t45 := Tryz.underlying267
 a45 := Tryz.isAgg267
 z45 := Tryz.sizeOf267
 v45 := Tryz.zeroValue267
 t46 := Tryz.underlying268
 a46 := Tryz.isAgg268
 z46 := Tryz.sizeOf268
 v46 := Tryz.zeroValue268
 t50 := Tryz.underlying201
 a50 := Tryz.isAgg201
 z50 := Tryz.sizeOf201
 v50 := Tryz.zeroValue201
 t53 := Tryz.underlying150
 a53 := Tryz.isAgg150
 z53 := Tryz.sizeOf150
 v53 := Tryz.zeroValue150
 t55 := Tryz.underlying176
 a55 := Tryz.isAgg176
 z55 := Tryz.sizeOf176
 v55 := Tryz.zeroValue176
 t66 := Tryz.underlying275
 a66 := Tryz.isAgg275
 z66 := Tryz.sizeOf275
 v66 := Tryz.zeroValue275
 t70 := Tryz.underlying279
 a70 := Tryz.isAgg279
 z70 := Tryz.sizeOf279
 v70 := Tryz.zeroValue279
 t76 := Tryz.underlying286
 a76 := Tryz.isAgg286
 z76 := Tryz.sizeOf286
 v76 := Tryz.zeroValue286
 t77 := Tryz.underlying172
 a77 := Tryz.isAgg172
 z77 := Tryz.sizeOf172
 v77 := Tryz.zeroValue172 }
end Go.Proofs
/- Lists of ints that a call owns; how they are sorted. -/
namespace Go.Proofs.YtjcimdpldlamfaaGreatDoor
open Go.RowKit Go.Sort

def intEnc (n : Int) : List Value := [.int .i64 n]
theorem intEnc_len (x : Int) : (intEnc x).length = 1 := rfl
theorem int_one1 {a : Int} : ∀ u ∈ (#[.int .i64 a] : Array Value).toList, u.oneCell' = true := by simp [Value.oneCell']
theorem int_one2 {a b : Int} : ∀ u ∈ (#[.int .i64 a, .int .i64 b] : Array Value).toList, u.oneCell' = true := by simp [Value.oneCell']
theorem info_int1 : (Tryz.prog.info? 3).map (fun i => (i.zero, i.size, i.bytes)) = some (some (.int .i64 0), 1, 8) := by kernel_rfl
theorem info_int2 : ∃ i, Tryz.prog.info? 3 = some i ∧ i.zero = some (.int .i64 0) ∧ i.size = 1 ∧ i.bytes = 8 := by
 obtain ⟨i0, hi, hzz⟩ := Option.map_eq_some_iff.1 info_int1
 simp only [Prod.mk.injEq] at hzz
 exact ⟨i0, hi, hzz.1, hzz.2.1, hzz.2.2⟩
structure IntsAt (w : World) (A : Option Addr) (c : Nat) (l : List Int) : Prop where
 lc : l.length ≤ c
 cm : c ≤ maxLen
 sl : SlAt RInt 1 w A l
section
variable {w w' : World} {A : Option Addr} {c k base g n : Nat} {l : List Int} {v : Value}
theorem IntsAt.ext (h : IntsAt w A c l) (hb : Below w.heap.size w w') : IntsAt w' A c l := ⟨h.lc, h.cm, h.sl.ext RInt.stable hb⟩
theorem IntsAt.len (h : IntsAt w A c l) : l.length ≤ 9223372036854775807 := Nat.le_trans h.lc h.cm
theorem IntsAt.get (h : IntsAt w A c l) {x : Int} (hx : l[k]? = some x) : ∃ b off, A = some ⟨b, off, none⟩ ∧ b < w.heap.size ∧ w.cell? ⟨b, off + k, none⟩ = some (.int .i64 x) := by
 obtain ⟨b, off, hS⟩ := h.sl
 obtain ⟨h1, h2, h3, _⟩ := hS k x hx
 rw [Nat.mul_one] at h3
 exact ⟨b, off, h1, h2, h3⟩
theorem IntsAt.i64 (h : IntsAt w A c l) : ∀ x, x ∈ l → I64 x := fun x hx => by
 obtain ⟨k, hk⟩ := List.getElem?_of_mem hx
 obtain ⟨b, off, hS⟩ := h.sl
 exact (hS k x hk).2.2.2
theorem own_ints (h : Own intEnc 1 w base 3 v l) (hi : ∀ x, x ∈ l → I64 x) : ∃ A c, v = .slice A l.length c ∧ IntsAt w A c l := by
 obtain ⟨A, c, hv, hS⟩ := Own.slAt (R := RInt) (enc := intEnc) (fun _ => rfl) (fun x hx b o hc => ⟨by have := hc 0 _ rfl; simpa using this, hi x hx⟩) h
 subst hv
 exact ⟨A, c, rfl, h.room.1, h.room.2, hS⟩
theorem flatK_int (d : Array Int) (t : Nat) (h : t < d.size) : (flatK intEnc 1 d)[t]! = .int .i64 d[t]! := by
 rw [get_flatK _ _ _ _ (by omega), Nat.div_one, Nat.mod_one]
 rfl
theorem holds_int {d : Array Int} (h : HoldsK intEnc 1 w g 0 d) : Holds (Value.int .i64) w g 0 d := fun j hj => by
 have := h j (by rw [size_flatK]; omega)
 rw [flatK_int d j hj] at this
 exact this
theorem putRow_int (d : Array Int) : putRow (Value.int .i64) w g 0 d = putRowK intEnc 1 w g 0 d := by
 unfold putRowK putRow
 congr 1
 funext c
 unfold putCells
 refine Array.ext (by simp) fun i h1 h2 => ?_
 simp only [Array.getElem_mapIdx, Nat.zero_le, true_and, Nat.zero_add, Nat.sub_zero, size_flatK, Nat.mul_one, id]
 by_cases hi : i < d.size
 ·rw [if_pos hi, if_pos hi, flatK_int d i hi]
 ·rw [if_neg hi, if_neg hi]
end
def SortedOut (l : List Int) (v : Value) (w : World) (base : Nat) (e : Ending) (w' : World) : Prop := e = .returned (.tuple #[]) ∧ ∃ r, (∀ x, x ∈ r ↔ x ∈ l) ∧ r.length = l.length ∧ r.Pairwise (· ≤ ·) ∧ Own intEnc 1 w' base 3 v r ∧ Below base w w'
theorem sortInts_any (v : Value) (l : List Int) (w : World) (base : Nat) (hown : Own intEnc 1 w base 3 v l) (hbase : base ≤ w.heap.size) (hl : l.length ≤ 100000) :
  Calls Tryz.prog 185 #[v] w (SortedOut l v w base) := by
 rcases hown.2 with ⟨hv, h0⟩ | ⟨g, cap, cur, hv, hg, hh, _⟩
 ·rw [hv]
  have h0' : l = [] := List.eq_nil_of_length_eq_zero h0
  refine (Tryz.slices_Sort_int_none none 0 w).mono fun e w' ⟨he, hw⟩ => ⟨he, [], by simp [h0'], by simp [h0'], by simp, by subst hw; rw [← hv, ← h0']; exact hown, by rw [hw]; exact Below.refl _ _⟩
 ·have hlt : g < w.heap.size := by
   rcases Nat.lt_or_ge g w.heap.size with hlt | hge
   ·exact hlt
   ·rw [Array.getElem?_eq_none hge] at hh; cases hh
  rw [hv] at hown ⊢
  have hH := holds_int (hown.holdsK (sz := 1) (fun _ => rfl) (by decide))
  refine (Tryz.slices_Sort_int g 0 cap l w hH hlt (by omega)).mono fun e w' ⟨he, n, os, hw⟩ => ?_
  have hsz : (l.mergeSort fun x y => decide (x ≤ y)).length = l.length := List.length_mergeSort _
  refine ⟨he, l.mergeSort fun x y => decide (x ≤ y), fun x => List.mem_mergeSort, hsz, ?_, ?_, ?_⟩
  ·have h1 := List.pairwise_mergeSort (le := fun x y : Int => decide (x ≤ y)) (fun a b c h1 h2 => by simp at *; omega) (fun a b => by simp; omega) l
   exact h1.imp fun h => by simpa using h
  ·rw [hw, putRow_int]
   exact hown.sortWorld (sz := 1) (m := n) (os := os) (fun _ => rfl) (by decide) hsz
  ·rw [hw, putRow_int]
   exact below_sort hg hbase
end Go.Proofs.YtjcimdpldlamfaaGreatDoor
/- The walk of warp.at: what is there at a time. -/
namespace Go.Proofs.YtjcimdpldlamfaaGreatDoor
open Go.RowKit Go.Shelf

/-- A result that lies in a cell of its own. -/
theorem results_cellS {fn : Func} {p : Tmp} {ty : TypeId} (h : fn.results = #[.cell p ty]) (tmps : Array Value) (P : Program) (w : World) (b : Nat) (t : TypeId) (cs : Array Value) {d : _} (hp : tmps.getD p undef = .pointer (some ⟨b, 0, none⟩)) (hb : Blk w b t cs)
  (hu : P.underlying ty = some (.struct d)) (hi : (P.info? ty).map (·.size) = some cs.size) : (results fn tmps).run P w = .ok (.agg cs) w := by
 have hl := run_loadVar_row (P := P) w b t ty cs (0, 0) (.struct d) hb hu rfl hi
 have hp2 : tmps[p]?.getD undef = .pointer (some ⟨b, 0, none⟩) := by rw [← hp]; simp
 simp only [results, h]
 simp [Sem.run_bind, Result.andThen, hp2, asAddr, hl]
theorem info_moment : (Tryz.prog.info? 241).map (·.size) = some 3 := by kernel_rfl
def momC (A : Option Addr) (n c : Nat) (o : Option Int) : Array Value := #[.slice A n c, .int .i64 (o.getD 0), .bool o.isSome]
def momV (A : Option Addr) (n c : Nat) (o : Option Int) : Value := .agg (momC A n c o)
theorem which_i64 {l : List PieceD} {t : Int} {n : Nat} (hl : n ≤ 1000000) : ∀ x, x ∈ whichK l t n → I64 x := fun x hx => by
 obtain ⟨h1, h2, _⟩ := mem_whichK hx
 unfold I64
 omega
theorem Own.set_far {α : Type} {enc : α → List Value} {k : Nat} {w : World} {base g : Nat} {e t : TypeId} {v : Value} {l : List α} {cs : Array Value} (h : Own enc k w base e v l) (hB : Blk w g t cs) (ht : t ≠ e) (i : Nat) (u : Value) : Own enc k (w.setCell ⟨g, i, none⟩ u) base e v l :=
 h.keep fun b cs' hb => hb.far (by
  rintro rfl
  unfold Blk at hb hB
  rw [hB] at hb
  cases hb
  exact ht rfl) u
def AtOut (state l : List PieceD) (t : Int) (w : World) (e : Ending) (w' : World) : Prop := ∃ A c base, e = .returned (momV A (whichL l t).length c (atM state t)) ∧ Own intEnc 1 w' base 3 (.slice A (whichL l t).length c) (whichL l t) ∧ w.heap.size ≤ base ∧ Below w.heap.size w w'

set_option maxRecDepth 100000 in
set_option maxHeartbeats 4000000 in
theorem warpAt_any (A B : Option Addr) (c d : Nat) (state l : List PieceD) (t : Int) (w : World) (hA : PiecesAt w A c state) (hB : PiecesAt w B d l) (hl : l.length ≤ 1000) :
  Calls Tryz.prog 180 #[.slice A state.length c, .slice B l.length d, .int .i64 t] w (AtOut state l t w) := by
 obtain ⟨i0, hi, hz0, hz1, hz2⟩ := info_int2
 have m1 := hA.len
 have m2 := hB.len
 have HA := Lib.hid hA; have HB := Lib.hid hB
 clear hA hB
 go_enter Tryz.func180, Tryz.ntmps180
 go_wp2_with fail
 obtain ⟨w0, hw0⟩ : ∃ w0, w0 = ((w.alloc (Obj.cells #[.slice none 0 0, .int .i64 0, .bool false] 241)).alloc (Obj.cells #[.slice none 0 0, .int .i64 0, .bool false] 241)) := ⟨_, rfl⟩
 have hb0 : Below w.heap.size w w0 := by rw [hw0]; go_grown
 have Br : Blk w0 w.heap.size 241 #[.slice none 0 0, .int .i64 0, .bool false] := by rw [hw0]; exact (Blk.new _ _ _).alloc _
 have Bm : Blk w0 (w.heap.size + 1) 241 #[.slice none 0 0, .int .i64 0, .bool false] := by rw [hw0]; exact Blk.new_ (by simp)
 have hz0w : w.heap.size + 2 = w0.heap.size := by rw [hw0]; simp
 rw [← hw0]
 clear hw0
 go_loopw [12] (fun x wr => ∃ (k : Nat) (v' : Value), k ≤ l.length ∧ x = .int .i64 k ∧ Blk wr (w.heap.size + 1) 241 #[v', .int .i64 0, .bool false] ∧ Own intEnc 1 wr w0.heap.size 3 v' (whichK l t k) ∧ Below (w.heap.size + 1) w0 wr ∧ w0.heap.size ≤ wr.heap.size) (fun x _ => l.length - (intOf x).toNat)
 case atStart => exact ⟨0, _, Nat.zero_le _, rfl, Bm, Own.nil, Below.refl _ _, Nat.le_refl _⟩
 case round =>
  clear Bm
  obtain ⟨k, v', hk, rfl, Bm, hO, hb, hzr⟩ := hrel
  have Br := Br.below hb (by omega)
  have hbw : Below w.heap.size w wr := hb0.trans (hb.mono (by omega))
  by_cases hlt : k < l.length
  case neg =>
   obtain rfl : k = l.length := by omega
   obtain ⟨Aw, cw, rfl⟩ := hO.form
   have HIW : Hid (Own intEnc 1 wr w0.heap.size 3 (.slice Aw (whichL l t).length cw) (whichL l t)) := Lib.hid hO
   have hAt := imapAt_any A c state t wr (HA.out.ext hbw)
   obtain ⟨N, hN⟩ : ∃ N, (whichK l t l.length).length = N := ⟨_, rfl⟩
   have HN : Hid ((whichL l t).length = N) := Lib.hid hN
   rw [hN] at Bm
   clear hO hN
   go_wp2_with fail
   refine hAt.mono ?_
   rintro e w1 ⟨rfl, hb1⟩
   have Bm1 := Bm.ext hb1
   have Br1 := Br.ext hb1
   obtain ⟨f1, f2, f3⟩ := Bm1.facts
   obtain ⟨g1, g2, g3⟩ := Br1.facts
   have HIW := Lib.hid (HIW.out.ext hb1)
   have hbw1 := ext_trans hbw hb1
   clear hAt Br Bm hb hbw hb1
   unfold atV
   obtain ⟨sv, hsv⟩ : ∃ x, (atM state t).getD 0 = x := ⟨_, rfl⟩
   obtain ⟨sb, hsb⟩ : ∃ x, (atM state t).isSome = x := ⟨_, rfl⟩
   rw [hsv, hsb]
   have HV := Lib.hid (And.intro hsv hsb)
   clear hsv hsb
   go_wp2_with fail
   have hne : w.heap.size ≠ w.heap.size + 1 := by omega
   have BR := (((((Br1.far (p := ⟨w.heap.size + 1, 1, none⟩) hne (.int .i64 sv)).far (p := ⟨w.heap.size + 1, 2, none⟩) hne (.bool sb)).set_ 0 (.slice Aw N cw)).set_ 1 (.int .i64 sv)).set_ 2 (.bool sb))
   refine bodyPost_ret (v := momV Aw N cw (atM state t)) ?_ rfl ?_
   ·rw [show momV Aw N cw (atM state t) = .agg (((#[Value.slice none 0 0, .int .i64 0, .bool false].setIfInBounds 0 (.slice Aw N cw)).setIfInBounds 1 (.int .i64 sv)).setIfInBounds 2 (.bool sb)) from by unfold momV momC; rw [HV.out.1, HV.out.2]; rfl]
    exact results_cellS rfl _ _ _ w.heap.size 241 _ rfl BR Tryz.underlying241 (by simpa using info_moment)
   ·refine ⟨Aw, cw, w0.heap.size, by rw [HN.out], ?_, by omega, ?_⟩
    ·have b1 := Bm1.set_ 1 (.int .i64 sv)
     have b2 := b1.set_ 2 (.bool sb)
     have r2 := (Br1.far (p := ⟨w.heap.size + 1, 1, none⟩) hne (.int .i64 sv)).far (p := ⟨w.heap.size + 1, 2, none⟩) hne (.bool sb)
     have r3 := r2.set_ 0 (.slice Aw N cw)
     have r4 := r3.set_ 1 (.int .i64 sv)
     exact ((((HIW.out.set_far Bm1 (by decide) _ _).set_far b1 (by decide) _ _).set_far r2 (by decide) _ _).set_far r3 (by decide) _ _).set_far r4 (by decide) _ _
    ·exact ((((hbw1.setCell (by simp) _).setCell (by simp) _).setCell (by simp) _).setCell (by simp) _).setCell (by simp) _
  case pos =>
   obtain ⟨x, hx⟩ := get_lt hlt
   obtain ⟨b, off, rfl, hb0', x0, x1, x2⟩ := (HB.out.ext hbw).get hx
   have HX := Lib.hid hx
   have hcl : (whichK l t k).length + 1 ≤ 1000000 := by have := which_len (l := l) (t := t) (n := k); omega
   clear hx
   by_cases h1 : x.f ≤ t
   case neg =>
    have hd1 : decide (x.f ≤ t) = false := by simpa using h1
    have HN : Hid (whichK l t (k + 1) = whichK l t k) := Lib.hid (by rw [whichK_succ HX.out, show inP x t = false by simp [inP]; omega]; simp)
    clear h1
    go_wp2_with fail
    go_roundw
    case rel => exact ⟨k + 1, v', by omega, by go_num, Bm.alloc _, by rw [HN.out]; exact hO.alloc _, hb.alloc (by omega) _, by simp; omega⟩
    case measure => simp [intOf]; omega
   case pos =>
   have hd1 : decide (x.f ≤ t) = true := by simpa using h1
   by_cases h2 : t < x.t
   case neg =>
    have hd2 : decide (t < x.t) = false := by simpa using h2
    have HN : Hid (whichK l t (k + 1) = whichK l t k) := Lib.hid (by rw [whichK_succ HX.out, show inP x t = false by simp [inP]; omega]; simp)
    clear h1 h2
    go_wp2_with fail
    go_roundw
    case rel => exact ⟨k + 1, v', by omega, by go_num, Bm.alloc _, by rw [HN.out]; exact hO.alloc _, hb.alloc (by omega) _, by simp; omega⟩
    case measure => simp [intOf]; omega
   case pos =>
    have hd2 : decide (t < x.t) = true := by simpa using h2
    have HN : Hid (whichK l t (k + 1) = whichK l t k ++ [(k : Int)]) := Lib.hid (by rw [whichK_succ HX.out, show inP x t = true by simp [inP]; omega]; simp)
    obtain ⟨acc, hacc⟩ : ∃ acc, acc = whichK l t k := ⟨_, rfl⟩
    have HACC := Lib.hid hacc
    rw [← hacc] at hO hcl
    have Bma := Bm.alloc (Obj.cells #[.int .i64 x.f, .int .i64 x.t, .int .i64 x.v] 210)
    obtain ⟨f1, f2, f3⟩ := Bma.facts
    clear h1 h2 hacc
    go_wp2_with (at_builtin; refine wpList_append_lie (enc := intEnc) rfl (.tmp 28) (.tmp 30) 55 rfl w0.heap.size 3 i0 _ 1 8 Tryz.underlying55 hi hz0 hz1 hz2 rfl (by decide) v' acc (k : Int) rfl (hO.alloc _) #[.int .i64 k] rfl (wr.heap.size + 1) (by simp) rfl rfl int_one1 hcl (by decide) (by simp; omega) ?_; intro gn cap w6 hown6 hb8 hkp hgn; have Bm6 := hkp _ _ _ Bma ((hO.alloc _).other Bma (by decide)); obtain ⟨e1, e2, e3⟩ := Bm6.facts)
    go_roundw
    case rel =>
     have hb9 : Below (w.heap.size + 1) w0 w6 := (hb.alloc (by omega) _).trans (hb8.mono (by omega))
     have hz9 := hb8.size
     exact ⟨k + 1, .slice (some ⟨gn, 0, none⟩) (acc.length + 1) cap, by omega, by go_num, Bm6.set_ 0 _, by rw [HN.out, ← HACC.out]; exact hown6.set_far Bm6 (by decide) _ _, hb9.setCell (Nat.le_refl _) _, by simp at hz9 ⊢; omega⟩
    case measure => simp [intOf]; omega
end Go.Proofs.YtjcimdpldlamfaaGreatDoor
