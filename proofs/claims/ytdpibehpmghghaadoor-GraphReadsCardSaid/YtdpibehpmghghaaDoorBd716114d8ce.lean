/- Several texts in one: SortMem, RowMem, Shelf, IntMem, WarpAt. -/
import Derived.Shelf.SlSortCmp.WholeK
import Derived.Lib.SliceRun
import Derived.Shelf.Sort.Plain
import Derived.Shelf.Slices.CompactI
import Derived.Shelf.Slices.In.SortNone
import Derived.Ground.Names2Prog
import Derived.Ground.NamesProg
import Derived.Shelf.SlSortCmp.NoneTotal
import Derived.Ground.SlsfProg
import Derived.Test.YtdpibehpmghghaaDoorProg
import Derived.Test.YtdpibehpmghghaaDoorBd6508cabd72
import Derived.Test.YtdpibehpmghghaaDoorBd116ff3bb84
import Derived.Test.YtdpibehpmghghaaDoorBd76cb561368
import Derived.Test.YtdpibehpmghghaaDoorBd115e77040e
/- A list that a call owns, as the row of a sort. -/
namespace Go.Proofs.YtdpibehpmghghaaDoor
open Go.RowKit Go.Sort

section
variable {α : Type} {enc : α → List Value} {sz : Nat} {w w' : World} {base g cap m off : Nat} {t e : TypeId} {l : List α} {d : Array α} {cs : Array Value} {os : Array Obj}
theorem flat_at (hk : ∀ x, (enc x).length = sz) : ∀ {l : List α} {i j : Nat} {x : α}, l[i]? = some x → j < sz → (l.flatMap enc)[i * sz + j]? = (enc x)[j]?
  | [], i, j, x, h, _ => by simp at h
  | y :: l, 0, j, x, h, hj => by
    obtain rfl : y = x := by simpa using h
    rw [List.flatMap_cons, List.getElem?_append_left (by rw [hk]; omega), Nat.zero_mul, Nat.zero_add]
  | y :: l, i + 1, j, x, h, hj => by
    rw [List.flatMap_cons, List.getElem?_append_right (by rw [hk, Nat.succ_mul]; omega), hk, show (i + 1) * sz + j - sz = i * sz + j by rw [Nat.succ_mul]; omega]
    exact flat_at hk (by simpa using h) hj
theorem flat_length (hk : ∀ x, (enc x).length = sz) : ∀ l : List α, (l.flatMap enc).length = l.length * sz
  | [] => by simp
  | y :: l => by rw [List.flatMap_cons, List.length_append, flat_length hk l, hk, List.length_cons, Nat.succ_mul]; omega
section
variable [Inhabited α]
theorem flatK_list (hk : ∀ x, (enc x).length = sz) (hs : 0 < sz) (d : Array α) : (flatK enc sz d).toList = d.toList.flatMap enc := by
  refine List.ext_getElem? fun t => ?_
  by_cases ht : t < d.size * sz
  · have hq : t / sz < d.size := Nat.div_lt_of_lt_mul (by rwa [Nat.mul_comm])
    have hr : t % sz < sz := Nat.mod_lt _ hs
    have hx : d.toList[t / sz]? = some d[t / sz]! := by
      rw [Array.getElem?_toList, Array.getElem?_eq_getElem hq, getElem!_pos d _ hq]
    have h1 := flat_at hk hx hr
    rw [Nat.div_add_mod' t sz] at h1
    rw [h1, Array.getElem?_toList, Array.getElem?_eq_getElem (by rw [size_flatK]; exact ht), ← getElem!_pos _ _ (by rw [size_flatK]; exact ht), get_flatK _ _ _ _ ht]
    rw [List.getElem?_eq_getElem (by rw [hk]; exact hr), ← getElem!_pos _ _ (by rw [hk]; exact hr)]
  · rw [List.getElem?_eq_none (by simp; omega), List.getElem?_eq_none (by rw [flat_length hk]; simp; omega)]
omit [Inhabited α] in
theorem heap_grow_lt (w : World) (os : Array Obj) {b : Nat} (hb : b < w.heap.size) : (grow w os).heap[b]? = w.heap[b]? := heap_grow_old w os hb
theorem heap_sort_other {b : Nat} (hb : b ≠ g) (hlt : b < w.heap.size) : (Go.Proofs.sortWorldK enc sz w g off m d os).heap[b]? = w.heap[b]? := by
  unfold Go.Proofs.sortWorldK
  rw [heap_grow_lt _ _ (by unfold putRowK; simpa using hlt)]
  unfold putRowK putRow mapBlock
  simp [Array.getElem?_modify, hb.symm]
theorem size_sortWorldK : (Go.Proofs.sortWorldK enc sz w g off m d os).heap.size = w.heap.size + os.size := by
  unfold Go.Proofs.sortWorldK putRowK
  simp
theorem Blk.sort_other {b : Nat} (h : Blk w b t cs) (hb : b ≠ g) : Blk (Go.Proofs.sortWorldK enc sz w g off m d os) b t cs := (heap_sort_other hb h.lt).trans h
theorem Blk.sorted (h : Blk w g t cs) : Blk (Go.Proofs.sortWorldK enc sz w g off m d os) g t (putCells id off (flatK enc sz d) cs) := by
  have h0 := h
  unfold Blk at h0
  unfold Blk Go.Proofs.sortWorldK
  rw [heap_grow_lt _ _ (by unfold putRowK; simpa using h.lt)]
  unfold putRowK putRow mapBlock
  simp [Array.getElem?_modify, h0, onCells]
theorem below_sort {B : Nat} (hg : B ≤ g) (hB : B ≤ w.heap.size) : Below B w (Go.Proofs.sortWorldK enc sz w g off m d os) :=
  ⟨rfl, rfl, rfl, by rw [size_sortWorldK]; omega, fun k hk => heap_sort_other (by omega) (by omega)⟩
/-- What is owned, as a sort wants it. -/
theorem Own.holdsK (hk : ∀ x, (enc x).length = sz) (hs : 0 < sz) (h : Own enc sz w base e (.slice (some ⟨g, 0, none⟩) l.length cap) l) : HoldsK enc sz w g 0 l.toArray := by
  rcases h.2 with ⟨h1, _⟩ | ⟨g', cap', cur, hv, hg, hh, hnc, hcm, hcs, htake⟩
  · simp at h1
  · simp only [Value.slice.injEq, Option.some.injEq, Addr.mk.injEq, and_true, true_and] at hv
    obtain ⟨rfl, rfl⟩ := hv
    intro j hj
    rw [size_flatK] at hj
    have hB : Blk w g e cur := hh
    rw [hB.cell, hB.frozen, Nat.zero_add]
    refine ⟨?_, rfl⟩
    have h1 : (flatK enc sz l.toArray).toList[j]? = (l.flatMap enc)[j]? := by rw [flatK_list hk hs]
    rw [Array.getElem?_toList, Array.getElem?_eq_getElem (by rw [size_flatK]; exact hj)] at h1
    rw [getElem!_pos _ _ (by rw [size_flatK]; exact hj)]
    refine Eq.trans ?_ h1.symm
    rw [← htake]
    simp only [List.size_toArray] at hj
    rw [List.getElem?_take_of_lt hj]
    simp
theorem Own.sortWorld {l' : List α} (hk : ∀ x, (enc x).length = sz) (hs : 0 < sz) (h : Own enc sz w base e (.slice (some ⟨g, 0, none⟩) l.length cap) l) (hl : l'.length = l.length) :
    Own enc sz (Go.Proofs.sortWorldK enc sz w g 0 m l'.toArray os) base e (.slice (some ⟨g, 0, none⟩) l.length cap) l' := by
  rcases h.2 with ⟨h1, _⟩ | ⟨g', cap', cur, hv, hg, hh, hnc, hcm, hcs, htake⟩
  · simp at h1
  · simp only [Value.slice.injEq, Option.some.injEq, Addr.mk.injEq, and_true, true_and] at hv
    obtain ⟨rfl, rfl⟩ := hv
    have hB : Blk w g e cur := hh
    refine ⟨by rw [hl]; exact (flat_length hk l').trans (by rw [hl]), .inr ⟨g, cap, putCells id 0 (flatK enc sz l'.toArray) cur, by rw [hl], hg, hB.sorted, by omega, hcm, by simpa [putCells] using hcs, ?_⟩⟩
    have hfl := flatK_list hk hs l'.toArray
    refine List.ext_getElem? fun t => ?_
    by_cases ht : t < l'.length * sz
    · rw [List.getElem?_take_of_lt ht]
      have hcz : t < cur.size := by
        have h2 := congrArg List.length htake
        rw [flat_length hk, List.length_take] at h2
        have := hB.lt
        rw [hl] at ht
        have h3 : min (l.length * sz) cur.toList.length = l.length * sz := h2
        simp only [Array.length_toList] at h3
        omega
      have h1 : (flatK enc sz l'.toArray).toList[t]? = (l'.flatMap enc)[t]? := by rw [hfl]
      rw [Array.getElem?_toList, Array.getElem?_eq_getElem (by rw [size_flatK]; simpa using ht)] at h1
      rw [← h1, Array.getElem?_toList]
      unfold putCells
      rw [Array.getElem?_mapIdx, Array.getElem?_eq_getElem hcz]
      simp only [Option.map_some, Nat.zero_le, true_and, Nat.zero_add, Nat.sub_zero]
      rw [if_pos (by rw [size_flatK]; simpa using ht), getElem!_pos _ _ (by rw [size_flatK]; simpa using ht)]
      rfl
    · rw [List.getElem?_eq_none (by simp; omega), List.getElem?_eq_none (by rw [flat_length hk]; omega)]
end
end
end Go.Proofs.YtdpibehpmghghaaDoor
/- A list in a block of its own: cell by cell. -/
namespace Go.Proofs.YtdpibehpmghghaaDoor
open Go.RowKit

section
variable {α : Type} {enc : α → List Value} {sz : Nat} {w w' : World} {base g c n i : Nat} {t e : TypeId} {m : List α} {x y : α} {cs : Array Value}
/-- Cell by cell: what the block's cells are. -/
def RowC (enc : α → List Value) (sz : Nat) (cs : Array Value) (m : List α) : Prop := ∀ (k : Nat) (x : α), m[k]? = some x → ∀ j, j < sz → cs[k * sz + j]? = (enc x)[j]?
theorem Own.cells (hk : ∀ x, (enc x).length = sz) (h : Own enc sz w base e (.slice (some ⟨g, 0, none⟩) n c) m) :
    n = m.length ∧ base ≤ g ∧ m.length ≤ c ∧ c ≤ maxLen ∧ ∃ cs, Blk w g e cs ∧ cs.size = c * sz ∧ RowC enc sz cs m := by
  rcases h.2 with ⟨h1, _⟩ | ⟨g', cap', cur, hv, hg, hh, hnc, hcm, hcs, htake⟩
  · simp at h1
  · simp only [Value.slice.injEq, Option.some.injEq, Addr.mk.injEq, and_true] at hv
    obtain ⟨rfl, rfl, rfl⟩ := hv
    refine ⟨rfl, hg, hnc, hcm, cur, hh, hcs, fun k x hx j hj => ?_⟩
    have hl := lt_of_get hx
    have h2 := flat_at hk hx hj
    rw [← htake] at h2
    have hlt : k * sz + j < m.length * sz := by
      have := Nat.mul_le_mul_right sz (show k + 1 ≤ m.length from hl)
      rw [Nat.succ_mul] at this
      omega
    rw [List.getElem?_take_of_lt hlt] at h2
    rw [← h2]
    simp
theorem Own.of_cells (hk : ∀ x, (enc x).length = sz) (hs : 0 < sz) (hB : Blk w g e cs) (hg : base ≤ g) (h1 : m.length ≤ c) (h2 : c ≤ maxLen) (hcs : cs.size = c * sz) (hc : RowC enc sz cs m) :
    Own enc sz w base e (.slice (some ⟨g, 0, none⟩) m.length c) m := by
  refine ⟨flat_length hk m, .inr ⟨g, c, cs, rfl, hg, hB, h1, h2, hcs, ?_⟩⟩
  refine List.ext_getElem? fun t => ?_
  by_cases ht : t < m.length * sz
  · rw [List.getElem?_take_of_lt ht]
    have hq : t / sz < m.length := Nat.div_lt_of_lt_mul (by rwa [Nat.mul_comm])
    have hr : t % sz < sz := Nat.mod_lt _ hs
    obtain ⟨x, hx⟩ := get_lt hq
    have h3 := hc _ x hx _ hr
    have h4 := flat_at hk hx hr
    rw [Nat.div_add_mod' t sz] at h3 h4
    rw [h4, ← h3]
    simp
  · rw [List.getElem?_eq_none (by simp; omega), List.getElem?_eq_none (by rw [flat_length hk]; omega)]
theorem RowC.take (h : RowC enc sz cs m) (i : Nat) : RowC enc sz cs (m.take i) := fun k x hx j hj => h k x (by
  by_cases hi : k < i
  · rwa [List.getElem?_take_of_lt hi] at hx
  · rw [List.getElem?_take_eq_none (by omega)] at hx; cases hx) j hj
/-- One element is put over. -/
theorem RowC.set {cs' : Array Value} (h : RowC enc sz cs m) (hi : i < m.length) (hs : ∀ t, t < i * sz ∨ i * sz + sz ≤ t → cs'[t]? = cs[t]?) (hx : ∀ j, j < sz → cs'[i * sz + j]? = (enc x)[j]?) : RowC enc sz cs' (m.set i x) := fun k y hy j hj => by
  by_cases hki : i = k
  · subst hki
    rw [List.getElem?_set_self hi] at hy
    obtain rfl : x = y := by simpa using hy
    exact hx j hj
  · rw [List.getElem?_set_ne hki] at hy
    rw [hs _ (by
      rcases Nat.lt_or_gt_of_ne hki with h1 | h1
      · right
        have := Nat.mul_le_mul_right sz (show i + 1 ≤ k from h1)
        rw [Nat.succ_mul] at this
        omega
      · left
        have := Nat.mul_le_mul_right sz (show k + 1 ≤ i from h1)
        rw [Nat.succ_mul] at this
        omega)]
    exact h k y hy j hj
/-- A row of stores: what lies ahead of it stays. -/
theorem Blk.setCells : ∀ (vs : List Value) (o : Nat) {w : World} {cs : Array Value}, Blk w g t cs → ∃ cs', Blk (w.setCells g o vs) g t cs' ∧ cs'.size = cs.size ∧ ∀ i, i < o → cs'[i]? = cs[i]?
  | [], o, w, cs, h => ⟨cs, h, rfl, fun _ _ => rfl⟩
  | v :: vs, o, w, cs, h => by
    obtain ⟨cs', h1, h2, h3⟩ := Blk.setCells vs (o + 1) (h.set_ o v)
    refine ⟨cs', h1, by rw [h2]; simp, fun i hi => ?_⟩
    rw [h3 i (by omega), Array.getElem?_setIfInBounds_ne (by omega)]
theorem Blk.setCells_far {b : Nat} {cs : Array Value} (hb : b ≠ g) : ∀ (vs : List Value) (o : Nat) {w : World}, Blk w b t cs → Blk (w.setCells g o vs) b t cs
  | [], _, _, h => h
  | v :: vs, o, _, h => Blk.setCells_far hb vs (o + 1) (h.far (p := ⟨g, o, none⟩) hb v)
theorem below_setCells {B : Nat} (hB : B ≤ g) : ∀ (vs : List Value) (o : Nat) {w w' : World}, Below B w w' → Below B w (w'.setCells g o vs)
  | [], _, _, _, h => h
  | v :: vs, o, _, w', h => below_setCells hB vs (o + 1) (h.setCell hB v)
theorem zeroCells_len (zs : Array Value) (n : Nat) : (Builtin.zeroCells zs n).toList.length = n * zs.size := by simp [Builtin.zeroCells]
theorem zeroCells_size (zs : Array Value) (n : Nat) : (Builtin.zeroCells zs n).size = n * zs.size := by simp [Builtin.zeroCells]
/-- 'clear(s)', s a slice of n > 0 elements. -/
theorem run_clear_row {P : Program} (w : World) (t e ty : TypeId) (z : Value) (ht : P.underlying t = some (.slice e)) (hv : ∀ w, (zeroValue e).run P w = .ok z w) (h1 : ∀ v ∈ z.cells.toList, v.oneCell' = true) (b o n c : Nat) (hn : 0 < n)
    (hc : ∀ j, j < n * z.cells.size → (w.cell? ⟨b, o + j, none⟩).isSome = true) (hf : ∀ j, j < n * z.cells.size → w.frozen? ⟨b, o + j, none⟩ = false) :
    (Builtin.clear_ #[t] ty #[.slice (some ⟨b, o, none⟩) n c]).run P w = .ok (.tuple #[]) (w.setCells b o (Builtin.zeroCells z.cells n).toList) := by
  have hst := run_storeCells_cells (P := P) b o (Builtin.zeroCells z.cells n).toList 0 w (by simpa [zeroCells_size] using hc) (by simpa [zeroCells_size] using hf) (by
    intro v hv'
    obtain ⟨i, hi, rfl⟩ := List.mem_iff_getElem.1 hv'
    have hlt : i < n * z.cells.size := by simpa [zeroCells_size] using hi
    have hpos : 0 < z.cells.size := by
      rcases Nat.eq_zero_or_pos z.cells.size with h0 | h0
      · rw [h0] at hlt; omega
      · exact h0
    have e1 : (Builtin.zeroCells z.cells n).toList[i] ∈ z.cells.toList := by
      simp only [Builtin.zeroCells, Array.toList_map, List.getElem_map]
      have hm : i % z.cells.size < z.cells.size := Nat.mod_lt _ hpos
      simp [hm]
    exact h1 _ e1)
  simp only [Nat.add_zero] at hst
  obtain ⟨m, rfl⟩ : ∃ m, n = m + 1 := ⟨n - 1, by omega⟩
  simp [Builtin.clear_, run_underlying ht, hv, hst]
end
/-- Nothing is appended. -/
theorem run_append_nothing {P : Program} (w : World) (t e ty : TypeId) (i : TypeInfo) (ht : P.underlying t = some (.slice e)) (hi : P.info? e = some i) (b : Option Addr) (n c d : Nat) (hn : n ≤ c) :
    (Builtin.append_ #[t, t] ty #[.slice b n c, .slice none 0 d]).run P w = .ok (.slice b n c) w := by
  cases b <;> simp [Builtin.append_, run_underlying ht, sizeOf, typeInfo, hi, Builtin.lenOf, Builtin.firstCells, storeCells, hn]
theorem wpList_append_nothing {P : Program} {ops : Array Oper} {rest : List Oper} {o : Oper} {a : Act} {Q : Exit → Act → World → Prop} {w : World} (hgd : o.guard = none) (s x : Operand) (t : TypeId)
    (ho : o.op = .call { callee := .builtin .append, args := #[s, x], argTypes := #[t, t] }) (e : TypeId) (i : TypeInfo) (ht : P.underlying t = some (.slice e)) (hi : P.info? e = some i) (b : Option Addr) (n c d : Nat)
    (hs : a.eval s = .slice b n c) (hx : a.eval x = .slice none 0 d) (hn : n ≤ c) (h : wpList P ops Q rest (a.put o.dst (.slice b n c)) w) : wpList P ops Q (o :: rest) a w := by
  refine wpList_plain hgd fun K hK => ?_
  have hr := run_append_nothing (P := P) w t e o.type i ht hi b n c d hn
  unfold Oper.wp execOp
  simp only [ho, resolve, invoke, builtin, Sem.run_bind, Sem.run_pure, Result.andThen_ok, List.map_toArray, List.map_cons, List.map_nil, hs, hx, hr]
  exact hK _ _ h
end Go.Proofs.YtdpibehpmghghaaDoor
/-
  DERIVED: THE SHELF's CONTRACTS AT THIS DUMP, IN PLAIN WORDS (tools/lay-plain.mjs out of 'TryShelfB.lean', which tools/lay-shelf.mjs wrote): THE SAME DECLARATIONS UNDER THE SAME NAMES: 'import', 'namespace', 'open', 'def', 'theorem' AND NOTHING ELSE: no command of the shelf's: FOR A HAND-IN. Each laying: the table of numbers ('.._ren') and one theorem, a field a fact of the dump's own or the kernel's comparison; each contract: ONE APPLICATION.
-/
namespace Go.Proofs
open Go.Shelf
def Tryd.lays189_ren : Go.Shelf.Ren := ⟨fun | 189 => 89 | 125 => 105 | 257 => 104 | 128 => 124 | 129 => 125 | 294 => 115 | 295 => 116 | 296 => 117 | 297 => 118 | 298 => 119 | 299 => 120 | 216 => 121 | 300 => 122 | 301 => 123 | 328 => 133 | 329 => 134 | 330 => 135 | 331 => 136 | 332 => 137 | 215 => 138 | 343 => 143 | n => n, fun | 28 => 52 | 3 => 3 | 46 => 166 | 0 => 0 | 51 => 190 | 53 => 192 | 4 => 4 | 183 => 183 | 182 => 182 | 131 => 124 | 5 => 5 | 9 => 9 | 218 => 199 | 222 => 203 | 228 => 212 | 229 => 161 | n => n, fun | n => n⟩
theorem Tryd.lays189 : Go.Proofs.Lays.n189 Tryd.prog Tryd.lays189_ren := {
  mixed := by kernel_rfl
  f125 := Tryd.func105.trans (congrArg some (by kernel_rfl))
  f128 := Tryd.func124.trans (congrArg some (by kernel_rfl))
  f129 := Tryd.func125.trans (congrArg some (by kernel_rfl))
  f189 := Tryd.func89.trans (congrArg some (by kernel_rfl))
  f215 := Tryd.func138.trans (congrArg some (by kernel_rfl))
  f216 := Tryd.func121.trans (congrArg some (by kernel_rfl))
  f257 := Tryd.func104.trans (congrArg some (by kernel_rfl))
  f294 := Tryd.func115.trans (congrArg some (by kernel_rfl))
  f295 := Tryd.func116.trans (congrArg some (by kernel_rfl))
  f296 := Tryd.func117.trans (congrArg some (by kernel_rfl))
  f297 := Tryd.func118.trans (congrArg some (by kernel_rfl))
  f298 := Tryd.func119.trans (congrArg some (by kernel_rfl))
  f299 := Tryd.func120.trans (congrArg some (by kernel_rfl))
  f300 := Tryd.func122.trans (congrArg some (by kernel_rfl))
  f301 := Tryd.func123.trans (congrArg some (by kernel_rfl))
  f328 := Tryd.func133.trans (congrArg some (by kernel_rfl))
  f329 := Tryd.func134.trans (congrArg some (by kernel_rfl))
  f330 := Tryd.func135.trans (congrArg some (by kernel_rfl))
  f331 := Tryd.func136.trans (congrArg some (by kernel_rfl))
  f332 := Tryd.func137.trans (congrArg some (by kernel_rfl))
  f343 := Tryd.func143.trans (congrArg some (by kernel_rfl))
  t0 := Tryd.underlying0
  a0 := Tryd.isAgg0
  z0 := Tryd.sizeOf0
  v0 := Tryd.zeroValue0
  t3 := Tryd.underlying3
  a3 := Tryd.isAgg3
  z3 := Tryd.sizeOf3
  v3 := Tryd.zeroValue3
  t4 := Tryd.underlying4
  a4 := Tryd.isAgg4
  z4 := Tryd.sizeOf4
  v4 := Tryd.zeroValue4
  t5 := Tryd.underlying5
  a5 := Tryd.isAgg5
  z5 := Tryd.sizeOf5
  v5 := Tryd.zeroValue5
  t9 := Tryd.underlying9
  a9 := Tryd.isAgg9
  z9 := Tryd.sizeOf9
  v9 := Tryd.zeroValue9
  t28 := Tryd.underlying52
  a28 := Tryd.isAgg52
  z28 := Tryd.sizeOf52
  v28 := Tryd.zeroValue52
  t46 := Tryd.underlying166
  a46 := Tryd.isAgg166
  z46 := Tryd.sizeOf166
  v46 := Tryd.zeroValue166
  t51 := Tryd.underlying190
  a51 := Tryd.isAgg190
  z51 := Tryd.sizeOf190
  v51 := Tryd.zeroValue190
  t53 := Tryd.underlying192
  a53 := Tryd.isAgg192
  z53 := Tryd.sizeOf192
  v53 := Tryd.zeroValue192
  t131 := Tryd.underlying124
  a131 := Tryd.isAgg124
  z131 := Tryd.sizeOf124
  v131 := Tryd.zeroValue124
  t182 := Tryd.underlying182
  a182 := Tryd.isAgg182
  z182 := Tryd.sizeOf182
  v182 := Tryd.zeroValue182
  t183 := Tryd.underlying183
  a183 := Tryd.isAgg183
  z183 := Tryd.sizeOf183
  v183 := Tryd.zeroValue183
  t218 := Tryd.underlying199
  a218 := Tryd.isAgg199
  z218 := Tryd.sizeOf199
  v218 := Tryd.zeroValue199
  t222 := Tryd.underlying203
  a222 := Tryd.isAgg203
  z222 := Tryd.sizeOf203
  v222 := Tryd.zeroValue203
  t228 := Tryd.underlying212
  a228 := Tryd.isAgg212
  z228 := Tryd.sizeOf212
  v228 := Tryd.zeroValue212
  t229 := Tryd.underlying161
  a229 := Tryd.isAgg161
  z229 := Tryd.sizeOf161
  v229 := Tryd.zeroValue161 }
open Go.Sort Go.RowKit in
theorem Tryd.slices_Sort_int (blk off cap : Nat) (zs : List Int) (w : World) (hH : Holds (Value.int .i64) w blk off zs.toArray) (hblk : blk < w.heap.size) (hsz : zs.length < 4611686018427387904) :
    Calls Tryd.prog 89 #[.slice (some ⟨blk, off, none⟩) zs.length cap] w fun e w' =>
      e = .returned (.tuple #[]) ∧ ∃ n os, w' = grow (putRow (Value.int .i64) (Sort.ahead w n) blk off (zs.mergeSort fun x y => decide (x ≤ y)).toArray) os := Any.slices_Sort_int Tryd.lays189 blk off cap zs w hH hblk hsz
def Tryd.laysNm220_ren : Go.Shelf.Ren := ⟨fun | 20 => 101 | n => n, fun | 22 => 52 | 3 => 3 | 4 => 4 | 0 => 0 | n => n, fun | n => n⟩
theorem Tryd.laysNm220 : Go.Proofs.Lays2.n20 Tryd.prog Tryd.laysNm220_ren := {
  mixed := by kernel_rfl
  f20 := Tryd.func101.trans (congrArg some (by kernel_rfl))
  t0 := Tryd.underlying0
  a0 := Tryd.isAgg0
  z0 := Tryd.sizeOf0
  v0 := Tryd.zeroValue0
  t3 := Tryd.underlying3
  a3 := Tryd.isAgg3
  z3 := Tryd.sizeOf3
  v3 := Tryd.zeroValue3
  t4 := Tryd.underlying4
  a4 := Tryd.isAgg4
  z4 := Tryd.sizeOf4
  v4 := Tryd.zeroValue4
  t22 := Tryd.underlying52
  a22 := Tryd.isAgg52
  z22 := Tryd.sizeOf52
  v22 := Tryd.zeroValue52
  i3 := by kernel_rfl }
open Go.RowKit Go.Lib Go.Sort in
/-- slices.Compact at []int, over an array: the library's two loops are walked. (LAID: no walk: one application.) -/
theorem Tryd.slices_Compact_int_arr (blk off cap : Nat) (d : Array Int) (w : World) (hH : Holds encI w blk off d) (hsz : d.size ≤ 9223372036854775807) (hcap : d.size ≤ cap) :
    Calls Tryd.prog 101 #[.slice (some ⟨blk, off, none⟩) d.size cap] w fun e w' => e = .returned (.slice (some ⟨blk, off, none⟩) (compactUpTo d d.size).length cap) ∧ ∃ q, w' = putRow encI (Sort.ahead w q) blk off (compactUpTo d d.size ++ List.replicate (d.size - (compactUpTo d d.size).length) 0).toArray := Any.slices_Compact_int_arr Tryd.laysNm220 blk off cap d w hH hsz hcap
open Go.RowKit Go.Lib Go.Sort in
/-- slices.Compact at []int: "Compact replaces consecutive runs of equal elements with a single copy. This is like the uniq command found on Unix. Compact modifies the contents of the slice s and returns the modified slice, which may have a smaller length. Compact zeroes the elements between the new length and the original length. The result preserves the nilness of s.": IT RETURNS THE SLICE CUT TO 'Lib.compact zs'; ITS CELLS HOLD 'Lib.compact zs', THEN ZERO VALUES up to the old length; all else is as it was, but for the count of draws. IN THE WORDS OF slices.Sort's CONTRACT ('Holds', 'putRow'): so the everyday 'slices.Sort(xs); xs = slices.Compact(xs)' goes from the one contract to the other. It asks 'zs.length ≤ cap' (every slice's: the reslicing 's[:k]' looks at it). Length 0, nil: '.._empty'. (LAID: no walk: one application.) -/
theorem Tryd.slices_Compact_int (blk off cap : Nat) (zs : List Int) (w : World) (hH : Holds (Value.int .i64) w blk off zs.toArray) (hsz : zs.length ≤ 9223372036854775807) (hcap : zs.length ≤ cap) :
    Calls Tryd.prog 101 #[.slice (some ⟨blk, off, none⟩) zs.length cap] w fun e w' => e = .returned (.slice (some ⟨blk, off, none⟩) (Lib.compact zs).length cap) ∧ ∃ q, w' = putRow (Value.int .i64) (Sort.ahead w q) blk off (Lib.compact zs ++ List.replicate (zs.length - (Lib.compact zs).length) 0).toArray := Any.slices_Compact_int Tryd.laysNm220 blk off cap zs w hH hsz hcap
open Go.RowKit Go.Lib Go.Sort in
/-- The same at a slice of length 0, a nil one too: it comes back as it is. (LAID: no walk: one application.) -/
theorem Tryd.slices_Compact_int_empty (a : Option Addr) (cap : Nat) (w : World) :
    Calls Tryd.prog 101 #[.slice a 0 cap] w fun e w' => e = .returned (.slice a 0 cap) ∧ w' = w := Any.slices_Compact_int_empty Tryd.laysNm220 a cap w
open Go.RowKit Go.Sort in
/-- .. and plain. (LAID: no walk: one application.) -/
theorem Tryd.slices_Sort_int_none (p : Option Addr) (cap : Nat) (w : World) :
    Calls Tryd.prog 89 #[.slice p 0 cap] w fun e w' => e = .returned (.tuple #[]) ∧ w' = w := Any.slices_Sort_int_none Tryd.lays189 p cap w
end Go.Proofs
/- Lists of ints that a call owns; how they are sorted. -/
namespace Go.Proofs.YtdpibehpmghghaaDoor
open Go.RowKit Go.Sort

def intEnc (n : Int) : List Value := [.int .i64 n]
theorem intEnc_len (x : Int) : (intEnc x).length = 1 := rfl
theorem int_one1 {a : Int} : ∀ u ∈ (#[.int .i64 a] : Array Value).toList, u.oneCell' = true := by simp [Value.oneCell']
theorem int_one2 {a b : Int} : ∀ u ∈ (#[.int .i64 a, .int .i64 b] : Array Value).toList, u.oneCell' = true := by simp [Value.oneCell']
theorem info_int1 : (Tryd.prog.info? 3).map (fun i => (i.zero, i.size, i.bytes)) = some (some (.int .i64 0), 1, 8) := by kernel_rfl
theorem info_int2 : ∃ i, Tryd.prog.info? 3 = some i ∧ i.zero = some (.int .i64 0) ∧ i.size = 1 ∧ i.bytes = 8 := by
  obtain ⟨i0, hi, hzz⟩ := Option.map_eq_some_iff.1 info_int1
  simp only [Prod.mk.injEq] at hzz
  exact ⟨i0, hi, hzz.1, hzz.2.1, hzz.2.2⟩
structure IntsAt (w : World) (A : Option Addr) (c : Nat) (l : List Int) : Prop where
  lc : l.length ≤ c
  cm : c ≤ maxLen
  sl : SlAt RInt 1 w A l
section
variable {w w' : World} {A : Option Addr} {c k base g n : Nat} {l : List Int} {v : Value}
theorem IntsAt.ext (h : IntsAt w A c l) (hb : Below w.heap.size w w') : IntsAt w' A c l := ⟨h.lc, h.cm, h.sl.ext RInt.stable hb⟩
theorem IntsAt.len (h : IntsAt w A c l) : l.length ≤ 9223372036854775807 := Nat.le_trans h.lc h.cm
theorem IntsAt.get (h : IntsAt w A c l) {x : Int} (hx : l[k]? = some x) : ∃ b off, A = some ⟨b, off, none⟩ ∧ b < w.heap.size ∧ w.cell? ⟨b, off + k, none⟩ = some (.int .i64 x) := by
  obtain ⟨b, off, hS⟩ := h.sl
  obtain ⟨h1, h2, h3, _⟩ := hS k x hx
  rw [Nat.mul_one] at h3
  exact ⟨b, off, h1, h2, h3⟩
theorem IntsAt.i64 (h : IntsAt w A c l) : ∀ x, x ∈ l → I64 x := fun x hx => by
  obtain ⟨k, hk⟩ := List.getElem?_of_mem hx
  obtain ⟨b, off, hS⟩ := h.sl
  exact (hS k x hk).2.2.2
theorem own_ints (h : Own intEnc 1 w base 3 v l) (hi : ∀ x, x ∈ l → I64 x) : ∃ A c, v = .slice A l.length c ∧ IntsAt w A c l := by
  obtain ⟨A, c, hv, hS⟩ := Own.slAt (R := RInt) (enc := intEnc) (fun _ => rfl) (fun x hx b o hc => ⟨by have := hc 0 _ rfl; simpa using this, hi x hx⟩) h
  subst hv
  exact ⟨A, c, rfl, h.room.1, h.room.2, hS⟩
theorem IntsAt.flat {b off : Nat} (h : IntsAt w (some ⟨b, off, none⟩) c l) : ∀ (j : Nat) u, (l.flatMap intEnc)[j]? = some u → w.cell? ⟨b, off + j, none⟩ = some u := fun j u hu => by
  have hj : j < l.length := by have := lt_of_get hu; rw [flat_length intEnc_len] at this; omega
  obtain ⟨x, hx⟩ := get_lt hj
  obtain ⟨b', off', e, _, h0⟩ := h.get hx
  obtain ⟨rfl, rfl⟩ : b = b' ∧ off = off' := by simpa using e
  have h4 := flat_at intEnc_len hx (show 0 < 1 by decide)
  rw [Nat.mul_one, Nat.add_zero, hu] at h4
  rw [h0, h4]
  rfl
theorem ints_one (l : List Int) : ∀ u ∈ l.flatMap intEnc, u.oneCell' = true := fun u hu => by
  obtain ⟨x, _, hx⟩ := List.mem_flatMap.1 hu
  simp only [intEnc, List.mem_cons, List.not_mem_nil, or_false] at hx
  rw [hx]; rfl
theorem flatK_int (d : Array Int) (t : Nat) (h : t < d.size) : (flatK intEnc 1 d)[t]! = .int .i64 d[t]! := by
  rw [get_flatK _ _ _ _ (by omega), Nat.div_one, Nat.mod_one]
  rfl
theorem holds_int {d : Array Int} (h : HoldsK intEnc 1 w g 0 d) : Holds (Value.int .i64) w g 0 d := fun j hj => by
  have := h j (by rw [size_flatK]; omega)
  rw [flatK_int d j hj] at this
  exact this
theorem putRow_int (d : Array Int) : putRow (Value.int .i64) w g 0 d = putRowK intEnc 1 w g 0 d := by
  unfold putRowK putRow
  congr 1
  funext c
  unfold putCells
  refine Array.ext (by simp) fun i h1 h2 => ?_
  simp only [Array.getElem_mapIdx, Nat.zero_le, true_and, Nat.zero_add, Nat.sub_zero, size_flatK, Nat.mul_one, id]
  by_cases hi : i < d.size
  · rw [if_pos hi, if_pos hi, flatK_int d i hi]
  · rw [if_neg hi, if_neg hi]
end
def SortedOut (l : List Int) (v : Value) (w : World) (base : Nat) (e : Ending) (w' : World) : Prop := e = .returned (.tuple #[]) ∧ ∃ r, (∀ x, x ∈ r ↔ x ∈ l) ∧ r.length = l.length ∧ r.Pairwise (· ≤ ·) ∧ Own intEnc 1 w' base 3 v r ∧ Below base w w'
theorem sortInts_any (v : Value) (l : List Int) (w : World) (base : Nat) (hown : Own intEnc 1 w base 3 v l) (hbase : base ≤ w.heap.size) (hl : l.length ≤ 100000) :
    Calls Tryd.prog 89 #[v] w (SortedOut l v w base) := by
  rcases hown.2 with ⟨hv, h0⟩ | ⟨g, cap, cur, hv, hg, hh, _⟩
  · rw [hv]
    have h0' : l = [] := List.eq_nil_of_length_eq_zero h0
    refine (Tryd.slices_Sort_int_none none 0 w).mono fun e w' ⟨he, hw⟩ => ⟨he, [], by simp [h0'], by simp [h0'], by simp, by subst hw; rw [← hv, ← h0']; exact hown, by rw [hw]; exact Below.refl _ _⟩
  · have hlt : g < w.heap.size := by
      rcases Nat.lt_or_ge g w.heap.size with hlt | hge
      · exact hlt
      · rw [Array.getElem?_eq_none hge] at hh; cases hh
    rw [hv] at hown ⊢
    have hH := holds_int (hown.holdsK (sz := 1) (fun _ => rfl) (by decide))
    refine (Tryd.slices_Sort_int g 0 cap l w hH hlt (by omega)).mono fun e w' ⟨he, n, os, hw⟩ => ?_
    have hsz : (l.mergeSort fun x y => decide (x ≤ y)).length = l.length := List.length_mergeSort _
    refine ⟨he, l.mergeSort fun x y => decide (x ≤ y), fun x => List.mem_mergeSort, hsz, ?_, ?_, ?_⟩
    · have h1 := List.pairwise_mergeSort (le := fun x y : Int => decide (x ≤ y)) (fun a b c h1 h2 => by simp at *; omega) (fun a b => by simp; omega) l
      exact h1.imp fun h => by simpa using h
    · rw [hw, putRow_int]
      exact hown.sortWorld (sz := 1) (m := n) (os := os) (fun _ => rfl) (by decide) hsz
    · rw [hw, putRow_int]
      exact below_sort hg hbase
end Go.Proofs.YtdpibehpmghghaaDoor
/- The walk of warp.at: what is there at a time. -/
namespace Go.Proofs.YtdpibehpmghghaaDoor
open Go.RowKit Go.Shelf

/-- A result that lies in a cell of its own. -/
theorem results_cellS {fn : Func} {p : Tmp} {ty : TypeId} (h : fn.results = #[.cell p ty]) (tmps : Array Value) (P : Program) (w : World) (b : Nat) (t : TypeId) (cs : Array Value) {d : _} (hp : tmps.getD p undef = .pointer (some ⟨b, 0, none⟩)) (hb : Blk w b t cs)
    (hu : P.underlying ty = some (.struct d)) (hi : (P.info? ty).map (·.size) = some cs.size) : (results fn tmps).run P w = .ok (.agg cs) w := by
  have hl := run_loadVar_row (P := P) w b t ty cs (0, 0) (.struct d) hb hu rfl hi
  have hp2 : tmps[p]?.getD undef = .pointer (some ⟨b, 0, none⟩) := by rw [← hp]; simp
  simp only [results, h]
  simp [Sem.run_bind, Result.andThen, hp2, asAddr, hl]
theorem info_moment : (Tryd.prog.info? 147).map (·.size) = some 3 := by kernel_rfl
def momC (A : Option Addr) (n c : Nat) (o : Option Int) : Array Value := #[.slice A n c, .int .i64 (o.getD 0), .bool o.isSome]
def momV (A : Option Addr) (n c : Nat) (o : Option Int) : Value := .agg (momC A n c o)
theorem which_i64 {l : List PieceD} {t : Int} {n : Nat} (hl : n ≤ 1000000) : ∀ x, x ∈ whichK l t n → I64 x := fun x hx => by
  obtain ⟨h1, h2, _⟩ := mem_whichK hx
  unfold I64
  omega
/-- What a call owns lies in a block of its own. -/
theorem own_fresh' {α : Type} {enc : α → List Value} {k : Nat} {w : World} {base : Nat} {t : TypeId} {A : Option Addr} {n c : Nat} {l : List α} (h : Own enc k w base t (.slice A n c) l) : ∀ b, A = some b → base ≤ b.block := by
  rintro b rfl
  rcases h.2 with ⟨h2, _⟩ | ⟨g, cap, cur, hv, hg, _⟩
  · simp at h2
  · simp only [Value.slice.injEq, Option.some.injEq] at hv
    rw [hv.1]; exact hg
theorem ints_keep {w w' : World} {A : Option Addr} {c B : Nat} {l : List Int} (h : IntsAt w A c l) (hf : ∀ b, A = some b → B ≤ b.block) (hs : w.heap.size ≤ w'.heap.size) (hk : ∀ k, B ≤ k → k < w.heap.size → w'.heap[k]? = w.heap[k]?) : IntsAt w' A c l := by
  obtain ⟨x, off, hS⟩ := h.sl
  refine ⟨h.lc, h.cm, x, off, fun i y hy => ?_⟩
  obtain ⟨h1, h2, h3, h4⟩ := hS i y hy
  exact ⟨h1, Nat.lt_of_lt_of_le h2 hs, (World.cell?_of_block (w := w) (hk x (hf _ h1) h2)).trans h3, h4⟩
theorem Own.set_far {α : Type} {enc : α → List Value} {k : Nat} {w : World} {base g : Nat} {e t : TypeId} {v : Value} {l : List α} {cs : Array Value} (h : Own enc k w base e v l) (hB : Blk w g t cs) (ht : t ≠ e) (i : Nat) (u : Value) : Own enc k (w.setCell ⟨g, i, none⟩ u) base e v l :=
  h.keep fun b cs' hb => hb.far (by
    rintro rfl
    unfold Blk at hb hB
    rw [hB] at hb
    cases hb
    exact ht rfl) u
def AtOut (state l : List PieceD) (t : Int) (w : World) (e : Ending) (w' : World) : Prop := ∃ A c base, e = .returned (momV A (whichL l t).length c (atM state t)) ∧ Own intEnc 1 w' base 3 (.slice A (whichL l t).length c) (whichL l t) ∧ w.heap.size ≤ base ∧ Below w.heap.size w w'

set_option maxRecDepth 100000 in
set_option maxHeartbeats 4000000 in
theorem warpAt_any (A B : Option Addr) (c d : Nat) (state l : List PieceD) (t : Int) (w : World) (hA : PiecesAt w A c state) (hB : PiecesAt w B d l) (hl : l.length ≤ 1000) :
    Calls Tryd.prog 86 #[.slice A state.length c, .slice B l.length d, .int .i64 t] w (AtOut state l t w) := by
  obtain ⟨i0, hi, hz0, hz1, hz2⟩ := info_int2
  have m1 := hA.len
  have m2 := hB.len
  have HA := Lib.hid hA; have HB := Lib.hid hB
  clear hA hB
  go_enter Tryd.func86, Tryd.ntmps86
  go_wp2_with fail
  obtain ⟨w0, hw0⟩ : ∃ w0, w0 = ((w.alloc (Obj.cells #[.slice none 0 0, .int .i64 0, .bool false] 147)).alloc (Obj.cells #[.slice none 0 0, .int .i64 0, .bool false] 147)) := ⟨_, rfl⟩
  have hb0 : Below w.heap.size w w0 := by rw [hw0]; go_grown
  have Br : Blk w0 w.heap.size 147 #[.slice none 0 0, .int .i64 0, .bool false] := by rw [hw0]; exact (Blk.new _ _ _).alloc _
  have Bm : Blk w0 (w.heap.size + 1) 147 #[.slice none 0 0, .int .i64 0, .bool false] := by rw [hw0]; exact Blk.new_ (by simp)
  have hz0w : w.heap.size + 2 = w0.heap.size := by rw [hw0]; simp
  rw [← hw0]
  clear hw0
  go_loopw [12] (fun x wr => ∃ (k : Nat) (v' : Value), k ≤ l.length ∧ x = .int .i64 k ∧ Blk wr (w.heap.size + 1) 147 #[v', .int .i64 0, .bool false] ∧ Own intEnc 1 wr w0.heap.size 3 v' (whichK l t k) ∧ Below (w.heap.size + 1) w0 wr ∧ w0.heap.size ≤ wr.heap.size) (fun x _ => l.length - (intOf x).toNat)
  case atStart => exact ⟨0, _, Nat.zero_le _, rfl, Bm, Own.nil, Below.refl _ _, Nat.le_refl _⟩
  case round =>
    clear Bm
    obtain ⟨k, v', hk, rfl, Bm, hO, hb, hzr⟩ := hrel
    have Br := Br.below hb (by omega)
    have hbw : Below w.heap.size w wr := hb0.trans (hb.mono (by omega))
    by_cases hlt : k < l.length
    case neg =>
      obtain rfl : k = l.length := by omega
      obtain ⟨Aw, cw, rfl⟩ := hO.form
      have HIW : Hid (Own intEnc 1 wr w0.heap.size 3 (.slice Aw (whichL l t).length cw) (whichL l t)) := Lib.hid hO
      have hAt := imapAt_any A c state t wr (HA.out.ext hbw)
      obtain ⟨N, hN⟩ : ∃ N, (whichK l t l.length).length = N := ⟨_, rfl⟩
      have HN : Hid ((whichL l t).length = N) := Lib.hid hN
      rw [hN] at Bm
      clear hO hN
      go_wp2_with fail
      refine hAt.mono ?_
      rintro e w1 ⟨rfl, hb1⟩
      have Bm1 := Bm.ext hb1
      have Br1 := Br.ext hb1
      obtain ⟨f1, f2, f3⟩ := Bm1.facts
      obtain ⟨g1, g2, g3⟩ := Br1.facts
      have HIW := Lib.hid (HIW.out.ext hb1)
      have hbw1 := ext_trans hbw hb1
      clear hAt Br Bm hb hbw hb1
      unfold atV
      obtain ⟨sv, hsv⟩ : ∃ x, (atM state t).getD 0 = x := ⟨_, rfl⟩
      obtain ⟨sb, hsb⟩ : ∃ x, (atM state t).isSome = x := ⟨_, rfl⟩
      rw [hsv, hsb]
      have HV := Lib.hid (And.intro hsv hsb)
      clear hsv hsb
      go_wp2_with fail
      have hne : w.heap.size ≠ w.heap.size + 1 := by omega
      have BR := (((((Br1.far (p := ⟨w.heap.size + 1, 1, none⟩) hne (.int .i64 sv)).far (p := ⟨w.heap.size + 1, 2, none⟩) hne (.bool sb)).set_ 0 (.slice Aw N cw)).set_ 1 (.int .i64 sv)).set_ 2 (.bool sb))
      refine bodyPost_ret (v := momV Aw N cw (atM state t)) ?_ rfl ?_
      · rw [show momV Aw N cw (atM state t) = .agg (((#[Value.slice none 0 0, .int .i64 0, .bool false].setIfInBounds 0 (.slice Aw N cw)).setIfInBounds 1 (.int .i64 sv)).setIfInBounds 2 (.bool sb)) from by unfold momV momC; rw [HV.out.1, HV.out.2]; rfl]
        exact results_cellS rfl _ _ _ w.heap.size 147 _ rfl BR Tryd.underlying147 (by simpa using info_moment)
      · refine ⟨Aw, cw, w0.heap.size, by rw [HN.out], ?_, by omega, ?_⟩
        · have b1 := Bm1.set_ 1 (.int .i64 sv)
          have b2 := b1.set_ 2 (.bool sb)
          have r2 := (Br1.far (p := ⟨w.heap.size + 1, 1, none⟩) hne (.int .i64 sv)).far (p := ⟨w.heap.size + 1, 2, none⟩) hne (.bool sb)
          have r3 := r2.set_ 0 (.slice Aw N cw)
          have r4 := r3.set_ 1 (.int .i64 sv)
          exact ((((HIW.out.set_far Bm1 (by decide) _ _).set_far b1 (by decide) _ _).set_far r2 (by decide) _ _).set_far r3 (by decide) _ _).set_far r4 (by decide) _ _
        · exact ((((hbw1.setCell (by simp) _).setCell (by simp) _).setCell (by simp) _).setCell (by simp) _).setCell (by simp) _
    case pos =>
      obtain ⟨x, hx⟩ := get_lt hlt
      obtain ⟨b, off, rfl, hb0', x0, x1, x2⟩ := (HB.out.ext hbw).get hx
      have HX := Lib.hid hx
      have hcl : (whichK l t k).length + 1 ≤ 1000000 := by have := which_len (l := l) (t := t) (n := k); omega
      clear hx
      by_cases h1 : x.f ≤ t
      case neg =>
        have hd1 : decide (x.f ≤ t) = false := by simpa using h1
        have HN : Hid (whichK l t (k + 1) = whichK l t k) := Lib.hid (by rw [whichK_succ HX.out, show inP x t = false by simp [inP]; omega]; simp)
        clear h1
        go_wp2_with fail
        go_roundw
        case rel => exact ⟨k + 1, v', by omega, by go_num, Bm.alloc _, by rw [HN.out]; exact hO.alloc _, hb.alloc (by omega) _, by simp; omega⟩
        case measure => simp [intOf]; omega
      case pos =>
      have hd1 : decide (x.f ≤ t) = true := by simpa using h1
      by_cases h2 : t < x.t
      case neg =>
        have hd2 : decide (t < x.t) = false := by simpa using h2
        have HN : Hid (whichK l t (k + 1) = whichK l t k) := Lib.hid (by rw [whichK_succ HX.out, show inP x t = false by simp [inP]; omega]; simp)
        clear h1 h2
        go_wp2_with fail
        go_roundw
        case rel => exact ⟨k + 1, v', by omega, by go_num, Bm.alloc _, by rw [HN.out]; exact hO.alloc _, hb.alloc (by omega) _, by simp; omega⟩
        case measure => simp [intOf]; omega
      case pos =>
        have hd2 : decide (t < x.t) = true := by simpa using h2
        have HN : Hid (whichK l t (k + 1) = whichK l t k ++ [(k : Int)]) := Lib.hid (by rw [whichK_succ HX.out, show inP x t = true by simp [inP]; omega]; simp)
        obtain ⟨acc, hacc⟩ : ∃ acc, acc = whichK l t k := ⟨_, rfl⟩
        have HACC := Lib.hid hacc
        rw [← hacc] at hO hcl
        have Bma := Bm.alloc (Obj.cells #[.int .i64 x.f, .int .i64 x.t, .int .i64 x.v] 130)
        obtain ⟨f1, f2, f3⟩ := Bma.facts
        clear h1 h2 hacc
        go_wp2_with (at_builtin; refine wpList_append_lie (enc := intEnc) rfl (.tmp 28) (.tmp 30) 52 rfl w0.heap.size 3 i0 _ 1 8 Tryd.underlying52 hi hz0 hz1 hz2 rfl (by decide) v' acc (k : Int) rfl (hO.alloc _) #[.int .i64 k] rfl (wr.heap.size + 1) (by simp) rfl rfl int_one1 hcl (by decide) (by simp; omega) ?_; intro gn cap w6 hown6 hb8 hkp hgn; have Bm6 := hkp _ _ _ Bma ((hO.alloc _).other Bma (by decide)); obtain ⟨e1, e2, e3⟩ := Bm6.facts)
        go_roundw
        case rel =>
          have hb9 : Below (w.heap.size + 1) w0 w6 := (hb.alloc (by omega) _).trans (hb8.mono (by omega))
          have hz9 := hb8.size
          exact ⟨k + 1, .slice (some ⟨gn, 0, none⟩) (acc.length + 1) cap, by omega, by go_num, Bm6.set_ 0 _, by rw [HN.out, ← HACC.out]; exact hown6.set_far Bm6 (by decide) _ _, hb9.setCell (Nat.le_refl _) _, by simp at hz9 ⊢; omega⟩
        case measure => simp [intOf]; omega
end Go.Proofs.YtdpibehpmghghaaDoor
