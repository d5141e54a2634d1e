/- Several texts in one: SortMem, RowMem, IvlDel, IvlDelW, Shelf. -/
import Derived.Shelf.SlSortCmp.WholeK
import Derived.Lib.SliceRun
import Derived.Maps.AppendAt
import Derived.Lib.BufferMore
import Derived.Shelf.Sort.Plain
import Derived.Shelf.Slices.CompactI
import Derived.Shelf.Slices.In.SortNone
import Derived.Ground.Names2Prog
import Derived.Ground.NamesProg
import Derived.Shelf.SlSortCmp.NoneTotal
import Derived.Ground.SlsfProg
import Derived.Test.YtcfachfldanddaaProg
import Derived.Test.YtcfachfldanddaaBd2aa8e41777
import Derived.Test.YtcfachfldanddaaBd5b4c44f9b1
/- A list that a call owns, as the row of a sort. -/
namespace Go.Proofs.Ytcfachfldanddaa
open Go.RowKit Go.Sort

section
variable {α : Type} {enc : α → List Value} {sz : Nat} {w w' : World} {base g cap m off : Nat} {t e : TypeId} {l : List α} {d : Array α} {cs : Array Value} {os : Array Obj}
theorem flat_at (hk : ∀ x, (enc x).length = sz) : ∀ {l : List α} {i j : Nat} {x : α}, l[i]? = some x → j < sz → (l.flatMap enc)[i * sz + j]? = (enc x)[j]?
  | [], i, j, x, h, _ => by simp at h
  | y :: l, 0, j, x, h, hj => by
    obtain rfl : y = x := by simpa using h
    rw [List.flatMap_cons, List.getElem?_append_left (by rw [hk]; omega), Nat.zero_mul, Nat.zero_add]
  | y :: l, i + 1, j, x, h, hj => by
    rw [List.flatMap_cons, List.getElem?_append_right (by rw [hk, Nat.succ_mul]; omega), hk, show (i + 1) * sz + j - sz = i * sz + j by rw [Nat.succ_mul]; omega]
    exact flat_at hk (by simpa using h) hj
theorem flat_length (hk : ∀ x, (enc x).length = sz) : ∀ l : List α, (l.flatMap enc).length = l.length * sz
  | [] => by simp
  | y :: l => by rw [List.flatMap_cons, List.length_append, flat_length hk l, hk, List.length_cons, Nat.succ_mul]; omega
section
variable [Inhabited α]
theorem flatK_list (hk : ∀ x, (enc x).length = sz) (hs : 0 < sz) (d : Array α) : (flatK enc sz d).toList = d.toList.flatMap enc := by
  refine List.ext_getElem? fun t => ?_
  by_cases ht : t < d.size * sz
  · have hq : t / sz < d.size := Nat.div_lt_of_lt_mul (by rwa [Nat.mul_comm])
    have hr : t % sz < sz := Nat.mod_lt _ hs
    have hx : d.toList[t / sz]? = some d[t / sz]! := by
      rw [Array.getElem?_toList, Array.getElem?_eq_getElem hq, getElem!_pos d _ hq]
    have h1 := flat_at hk hx hr
    rw [Nat.div_add_mod' t sz] at h1
    rw [h1, Array.getElem?_toList, Array.getElem?_eq_getElem (by rw [size_flatK]; exact ht), ← getElem!_pos _ _ (by rw [size_flatK]; exact ht), get_flatK _ _ _ _ ht]
    rw [List.getElem?_eq_getElem (by rw [hk]; exact hr), ← getElem!_pos _ _ (by rw [hk]; exact hr)]
  · rw [List.getElem?_eq_none (by simp; omega), List.getElem?_eq_none (by rw [flat_length hk]; simp; omega)]
omit [Inhabited α] in
theorem heap_grow_lt (w : World) (os : Array Obj) {b : Nat} (hb : b < w.heap.size) : (grow w os).heap[b]? = w.heap[b]? := heap_grow_old w os hb
theorem heap_sort_other {b : Nat} (hb : b ≠ g) (hlt : b < w.heap.size) : (Go.Proofs.sortWorldK enc sz w g off m d os).heap[b]? = w.heap[b]? := by
  unfold Go.Proofs.sortWorldK
  rw [heap_grow_lt _ _ (by unfold putRowK; simpa using hlt)]
  unfold putRowK putRow mapBlock
  simp [Array.getElem?_modify, hb.symm]
theorem size_sortWorldK : (Go.Proofs.sortWorldK enc sz w g off m d os).heap.size = w.heap.size + os.size := by
  unfold Go.Proofs.sortWorldK putRowK
  simp
theorem Blk.sort_other {b : Nat} (h : Blk w b t cs) (hb : b ≠ g) : Blk (Go.Proofs.sortWorldK enc sz w g off m d os) b t cs := (heap_sort_other hb h.lt).trans h
theorem Blk.sorted (h : Blk w g t cs) : Blk (Go.Proofs.sortWorldK enc sz w g off m d os) g t (putCells id off (flatK enc sz d) cs) := by
  have h0 := h
  unfold Blk at h0
  unfold Blk Go.Proofs.sortWorldK
  rw [heap_grow_lt _ _ (by unfold putRowK; simpa using h.lt)]
  unfold putRowK putRow mapBlock
  simp [Array.getElem?_modify, h0, onCells]
theorem below_sort {B : Nat} (hg : B ≤ g) (hB : B ≤ w.heap.size) : Below B w (Go.Proofs.sortWorldK enc sz w g off m d os) :=
  ⟨rfl, rfl, rfl, by rw [size_sortWorldK]; omega, fun k hk => heap_sort_other (by omega) (by omega)⟩
/-- What is owned, as a sort wants it. -/
theorem Own.holdsK (hk : ∀ x, (enc x).length = sz) (hs : 0 < sz) (h : Own enc sz w base e (.slice (some ⟨g, 0, none⟩) l.length cap) l) : HoldsK enc sz w g 0 l.toArray := by
  rcases h.2 with ⟨h1, _⟩ | ⟨g', cap', cur, hv, hg, hh, hnc, hcm, hcs, htake⟩
  · simp at h1
  · simp only [Value.slice.injEq, Option.some.injEq, Addr.mk.injEq, and_true, true_and] at hv
    obtain ⟨rfl, rfl⟩ := hv
    intro j hj
    rw [size_flatK] at hj
    have hB : Blk w g e cur := hh
    rw [hB.cell, hB.frozen, Nat.zero_add]
    refine ⟨?_, rfl⟩
    have h1 : (flatK enc sz l.toArray).toList[j]? = (l.flatMap enc)[j]? := by rw [flatK_list hk hs]
    rw [Array.getElem?_toList, Array.getElem?_eq_getElem (by rw [size_flatK]; exact hj)] at h1
    rw [getElem!_pos _ _ (by rw [size_flatK]; exact hj)]
    refine Eq.trans ?_ h1.symm
    rw [← htake]
    simp only [List.size_toArray] at hj
    rw [List.getElem?_take_of_lt hj]
    simp
theorem Own.sortWorld {l' : List α} (hk : ∀ x, (enc x).length = sz) (hs : 0 < sz) (h : Own enc sz w base e (.slice (some ⟨g, 0, none⟩) l.length cap) l) (hl : l'.length = l.length) :
    Own enc sz (Go.Proofs.sortWorldK enc sz w g 0 m l'.toArray os) base e (.slice (some ⟨g, 0, none⟩) l.length cap) l' := by
  rcases h.2 with ⟨h1, _⟩ | ⟨g', cap', cur, hv, hg, hh, hnc, hcm, hcs, htake⟩
  · simp at h1
  · simp only [Value.slice.injEq, Option.some.injEq, Addr.mk.injEq, and_true, true_and] at hv
    obtain ⟨rfl, rfl⟩ := hv
    have hB : Blk w g e cur := hh
    refine ⟨by rw [hl]; exact (flat_length hk l').trans (by rw [hl]), .inr ⟨g, cap, putCells id 0 (flatK enc sz l'.toArray) cur, by rw [hl], hg, hB.sorted, by omega, hcm, by simpa [putCells] using hcs, ?_⟩⟩
    have hfl := flatK_list hk hs l'.toArray
    refine List.ext_getElem? fun t => ?_
    by_cases ht : t < l'.length * sz
    · rw [List.getElem?_take_of_lt ht]
      have hcz : t < cur.size := by
        have h2 := congrArg List.length htake
        rw [flat_length hk, List.length_take] at h2
        have := hB.lt
        rw [hl] at ht
        have h3 : min (l.length * sz) cur.toList.length = l.length * sz := h2
        simp only [Array.length_toList] at h3
        omega
      have h1 : (flatK enc sz l'.toArray).toList[t]? = (l'.flatMap enc)[t]? := by rw [hfl]
      rw [Array.getElem?_toList, Array.getElem?_eq_getElem (by rw [size_flatK]; simpa using ht)] at h1
      rw [← h1, Array.getElem?_toList]
      unfold putCells
      rw [Array.getElem?_mapIdx, Array.getElem?_eq_getElem hcz]
      simp only [Option.map_some, Nat.zero_le, true_and, Nat.zero_add, Nat.sub_zero]
      rw [if_pos (by rw [size_flatK]; simpa using ht), getElem!_pos _ _ (by rw [size_flatK]; simpa using ht)]
      rfl
    · rw [List.getElem?_eq_none (by simp; omega), List.getElem?_eq_none (by rw [flat_length hk]; omega)]
end
end
end Go.Proofs.Ytcfachfldanddaa
/- A list in a block of its own: cell by cell. -/
namespace Go.Proofs.Ytcfachfldanddaa
open Go.RowKit

section
variable {α : Type} {enc : α → List Value} {sz : Nat} {w w' : World} {base g c n i : Nat} {t e : TypeId} {m : List α} {x y : α} {cs : Array Value}
/-- Cell by cell: what the block's cells are. -/
def RowC (enc : α → List Value) (sz : Nat) (cs : Array Value) (m : List α) : Prop := ∀ (k : Nat) (x : α), m[k]? = some x → ∀ j, j < sz → cs[k * sz + j]? = (enc x)[j]?
theorem Own.cells (hk : ∀ x, (enc x).length = sz) (h : Own enc sz w base e (.slice (some ⟨g, 0, none⟩) n c) m) :
    n = m.length ∧ base ≤ g ∧ m.length ≤ c ∧ c ≤ maxLen ∧ ∃ cs, Blk w g e cs ∧ cs.size = c * sz ∧ RowC enc sz cs m := by
  rcases h.2 with ⟨h1, _⟩ | ⟨g', cap', cur, hv, hg, hh, hnc, hcm, hcs, htake⟩
  · simp at h1
  · simp only [Value.slice.injEq, Option.some.injEq, Addr.mk.injEq, and_true] at hv
    obtain ⟨rfl, rfl, rfl⟩ := hv
    refine ⟨rfl, hg, hnc, hcm, cur, hh, hcs, fun k x hx j hj => ?_⟩
    have hl := lt_of_get hx
    have h2 := flat_at hk hx hj
    rw [← htake] at h2
    have hlt : k * sz + j < m.length * sz := by
      have := Nat.mul_le_mul_right sz (show k + 1 ≤ m.length from hl)
      rw [Nat.succ_mul] at this
      omega
    rw [List.getElem?_take_of_lt hlt] at h2
    rw [← h2]
    simp
theorem Own.of_cells (hk : ∀ x, (enc x).length = sz) (hs : 0 < sz) (hB : Blk w g e cs) (hg : base ≤ g) (h1 : m.length ≤ c) (h2 : c ≤ maxLen) (hcs : cs.size = c * sz) (hc : RowC enc sz cs m) :
    Own enc sz w base e (.slice (some ⟨g, 0, none⟩) m.length c) m := by
  refine ⟨flat_length hk m, .inr ⟨g, c, cs, rfl, hg, hB, h1, h2, hcs, ?_⟩⟩
  refine List.ext_getElem? fun t => ?_
  by_cases ht : t < m.length * sz
  · rw [List.getElem?_take_of_lt ht]
    have hq : t / sz < m.length := Nat.div_lt_of_lt_mul (by rwa [Nat.mul_comm])
    have hr : t % sz < sz := Nat.mod_lt _ hs
    obtain ⟨x, hx⟩ := get_lt hq
    have h3 := hc _ x hx _ hr
    have h4 := flat_at hk hx hr
    rw [Nat.div_add_mod' t sz] at h3 h4
    rw [h4, ← h3]
    simp
  · rw [List.getElem?_eq_none (by simp; omega), List.getElem?_eq_none (by rw [flat_length hk]; omega)]
theorem RowC.take (h : RowC enc sz cs m) (i : Nat) : RowC enc sz cs (m.take i) := fun k x hx j hj => h k x (by
  by_cases hi : k < i
  · rwa [List.getElem?_take_of_lt hi] at hx
  · rw [List.getElem?_take_eq_none (by omega)] at hx; cases hx) j hj
/-- One element is put over. -/
theorem RowC.set {cs' : Array Value} (h : RowC enc sz cs m) (hi : i < m.length) (hs : ∀ t, t < i * sz ∨ i * sz + sz ≤ t → cs'[t]? = cs[t]?) (hx : ∀ j, j < sz → cs'[i * sz + j]? = (enc x)[j]?) : RowC enc sz cs' (m.set i x) := fun k y hy j hj => by
  by_cases hki : i = k
  · subst hki
    rw [List.getElem?_set_self hi] at hy
    obtain rfl : x = y := by simpa using hy
    exact hx j hj
  · rw [List.getElem?_set_ne hki] at hy
    rw [hs _ (by
      rcases Nat.lt_or_gt_of_ne hki with h1 | h1
      · right
        have := Nat.mul_le_mul_right sz (show i + 1 ≤ k from h1)
        rw [Nat.succ_mul] at this
        omega
      · left
        have := Nat.mul_le_mul_right sz (show k + 1 ≤ i from h1)
        rw [Nat.succ_mul] at this
        omega)]
    exact h k y hy j hj
/-- A row of stores: what lies ahead of it stays. -/
theorem Blk.setCells : ∀ (vs : List Value) (o : Nat) {w : World} {cs : Array Value}, Blk w g t cs → ∃ cs', Blk (w.setCells g o vs) g t cs' ∧ cs'.size = cs.size ∧ ∀ i, i < o → cs'[i]? = cs[i]?
  | [], o, w, cs, h => ⟨cs, h, rfl, fun _ _ => rfl⟩
  | v :: vs, o, w, cs, h => by
    obtain ⟨cs', h1, h2, h3⟩ := Blk.setCells vs (o + 1) (h.set_ o v)
    refine ⟨cs', h1, by rw [h2]; simp, fun i hi => ?_⟩
    rw [h3 i (by omega), Array.getElem?_setIfInBounds_ne (by omega)]
theorem Blk.setCells_far {b : Nat} {cs : Array Value} (hb : b ≠ g) : ∀ (vs : List Value) (o : Nat) {w : World}, Blk w b t cs → Blk (w.setCells g o vs) b t cs
  | [], _, _, h => h
  | v :: vs, o, w, h => Blk.setCells_far hb vs (o + 1) (h.far (p := ⟨g, o, none⟩) hb v)
theorem below_setCells {B : Nat} (hB : B ≤ g) : ∀ (vs : List Value) (o : Nat) {w w' : World}, Below B w w' → Below B w (w'.setCells g o vs)
  | [], _, _, _, h => h
  | v :: vs, o, w, w', h => below_setCells hB vs (o + 1) (h.setCell hB v)
theorem zeroCells_len (zs : Array Value) (n : Nat) : (Builtin.zeroCells zs n).toList.length = n * zs.size := by simp [Builtin.zeroCells]
theorem zeroCells_size (zs : Array Value) (n : Nat) : (Builtin.zeroCells zs n).size = n * zs.size := by simp [Builtin.zeroCells]
/-- 'clear(s)', s a slice of n > 0 elements. -/
theorem run_clear_row {P : Program} (w : World) (t e ty : TypeId) (z : Value) (ht : P.underlying t = some (.slice e)) (hv : ∀ w, (zeroValue e).run P w = .ok z w) (h1 : ∀ v ∈ z.cells.toList, v.oneCell' = true) (b o n c : Nat) (hn : 0 < n)
    (hc : ∀ j, j < n * z.cells.size → (w.cell? ⟨b, o + j, none⟩).isSome = true) (hf : ∀ j, j < n * z.cells.size → w.frozen? ⟨b, o + j, none⟩ = false) :
    (Builtin.clear_ #[t] ty #[.slice (some ⟨b, o, none⟩) n c]).run P w = .ok (.tuple #[]) (w.setCells b o (Builtin.zeroCells z.cells n).toList) := by
  have hst := run_storeCells_cells (P := P) b o (Builtin.zeroCells z.cells n).toList 0 w (by simpa [zeroCells_size] using hc) (by simpa [zeroCells_size] using hf) (by
    intro v hv'
    obtain ⟨i, hi, rfl⟩ := List.mem_iff_getElem.1 hv'
    have hlt : i < n * z.cells.size := by simpa [zeroCells_size] using hi
    have hpos : 0 < z.cells.size := by
      rcases Nat.eq_zero_or_pos z.cells.size with h0 | h0
      · rw [h0] at hlt; omega
      · exact h0
    have e1 : (Builtin.zeroCells z.cells n).toList[i] ∈ z.cells.toList := by
      simp only [Builtin.zeroCells, Array.toList_map, List.getElem_map]
      have hm : i % z.cells.size < z.cells.size := Nat.mod_lt _ hpos
      simp [Array.getD, hm]
    exact h1 _ e1)
  simp only [Nat.add_zero] at hst
  obtain ⟨m, rfl⟩ : ∃ m, n = m + 1 := ⟨n - 1, by omega⟩
  simp [Builtin.clear_, run_underlying ht, hv, hst]
end
/-- Nothing is appended. -/
theorem run_append_nothing {P : Program} (w : World) (t e ty : TypeId) (i : TypeInfo) (ht : P.underlying t = some (.slice e)) (hi : P.info? e = some i) (b : Option Addr) (n c d : Nat) (hn : n ≤ c) :
    (Builtin.append_ #[t, t] ty #[.slice b n c, .slice none 0 d]).run P w = .ok (.slice b n c) w := by
  cases b <;> simp [Builtin.append_, run_underlying ht, sizeOf, typeInfo, hi, Builtin.lenOf, Builtin.firstCells, storeCells, hn]
theorem wpList_append_nothing {P : Program} {ops : Array Oper} {rest : List Oper} {o : Oper} {a : Act} {Q : Exit → Act → World → Prop} {w : World} (hgd : o.guard = none) (s x : Operand) (t : TypeId)
    (ho : o.op = .call { callee := .builtin .append, args := #[s, x], argTypes := #[t, t] }) (e : TypeId) (i : TypeInfo) (ht : P.underlying t = some (.slice e)) (hi : P.info? e = some i) (b : Option Addr) (n c d : Nat)
    (hs : a.eval s = .slice b n c) (hx : a.eval x = .slice none 0 d) (hn : n ≤ c) (h : wpList P ops Q rest (a.put o.dst (.slice b n c)) w) : wpList P ops Q (o :: rest) a w := by
  refine wpList_plain hgd fun K hK => ?_
  have hr := run_append_nothing (P := P) w t e o.type i ht hi b n c d hn
  unfold Oper.wp execOp
  simp only [ho, resolve, invoke, builtin, Sem.run_bind, Sem.run_pure, Result.andThen_ok, List.map_toArray, List.map_cons, List.map_nil, hs, hx, hr]
  exact hK _ _ h
end Go.Proofs.Ytcfachfldanddaa
/- The walks of slices.Clone and slices.DeleteFunc over intervals. -/
namespace Go.Proofs.Ytcfachfldanddaa
open Go.RowKit Go.Shelf

theorem ivlC_len (x : IvlD) : (ivlC x).length = 2 := rfl
theorem ivls_one (l : List IvlD) : ∀ u ∈ l.flatMap ivlC, u.oneCell' = true := fun u hu => by
  obtain ⟨x, _, hx⟩ := List.mem_flatMap.1 hu
  simp only [ivlC, List.mem_cons, List.not_mem_nil, or_false] at hx
  rcases hx with rfl | rfl <;> rfl
/-- What memory holds of a list, cell by cell. -/
theorem IvlsAt.flat {w : World} {b off c : Nat} {l : List IvlD} (h : IvlsAt w (some ⟨b, off, none⟩) c l) : ∀ (j : Nat) u, (l.flatMap ivlC)[j]? = some u → w.cell? ⟨b, off + j, none⟩ = some u := fun j u hu => by
  have hj : j < l.length * 2 := by have := lt_of_get hu; rw [flat_length ivlC_len] at this; exact this
  obtain ⟨x, hx⟩ := get_lt (show j / 2 < l.length by omega)
  obtain ⟨b', off', e, _, h0, h1⟩ := h.get hx
  obtain ⟨rfl, rfl⟩ : b = b' ∧ off = off' := by simpa using e
  have h4 := flat_at ivlC_len hx (Nat.mod_lt j (show 0 < 2 by decide))
  rw [Nat.div_add_mod' j 2, hu] at h4
  have hd := Nat.div_add_mod' j 2
  rcases Nat.mod_two_eq_zero_or_one j with hm | hm
  · rw [hm] at h4
    have e1 : j / 2 * 2 = j := by omega
    rw [e1] at h0
    rw [h0, h4]
    rfl
  · rw [hm] at h4
    have e1 : off + j / 2 * 2 + 1 = off + j := by omega
    rw [e1] at h1
    rw [h1, h4]
    rfl
/-- A list is told, in a block of its own. -/
def OwnOut (l : List IvlD) (w : World) (base : Nat) (e : Ending) (w' : World) : Prop := ∃ v, e = .returned v ∧ Own ivlC 2 w' base 25 v l ∧ Below base w w'

set_option maxRecDepth 100000 in
set_option maxHeartbeats 2000000 in
theorem ivlClone_any (A : Option Addr) (c : Nat) (l : List IvlD) (w : World) (hI : IvlsAt w A c l) (hl : l.length ≤ 100000) :
    Calls Try.prog 70 #[.slice A l.length c] w (OwnOut l w w.heap.size) := by
  obtain ⟨i0, hi, hz0, hz1, hz2⟩ := info_ivl2
  cases A with
  | none =>
    have h0 : l = [] := by
      cases l with
      | nil => rfl
      | cons y l =>
        obtain ⟨b, off, e, _⟩ := hI.get (k := 0) (x := y) rfl
        simp at e
    subst h0
    have hnil : ∀ W : World, (binOp .eql 22 (.slice none 0 c) (.slice none 0 0)).run Try.prog W = .ok (.bool true) W := fun W => Lib.run_eql_slice_nil_nil W 0 c Try.underlying22
    go_enter Try.func70, Try.ntmps70
    go_wp2_with fail
    go_ret
    exact ⟨_, rfl, Own.nil, by go_grown⟩
  | some ad =>
    have hsome : ∀ W : World, (binOp .eql 22 (.slice (some ad) l.length c) (.slice none 0 0)).run Try.prog W = .ok (.bool false) W := fun W => Lib.run_eql_slice_some_nil W ad l.length c Try.underlying22
    have hcells : ∀ (w' : World), Below w.heap.size w w' → ∀ (j : Nat) u, (l.flatMap ivlC)[j]? = some u → w'.cell? (ad.add j) = some u := fun w' hb j u hu => by
      cases l with
      | nil => simp at hu
      | cons y l =>
        obtain ⟨b, off, e, _⟩ := hI.get (k := 0) (x := y) rfl
        obtain rfl : ad = ⟨b, off, none⟩ := by simpa using e
        rw [Go.WideShapes.add_plain]
        exact cell_keep hb (hI.flat j u hu)
    clear hI
    go_enter Try.func70, Try.ntmps70
    go_wp2_with (at_builtin; refine wpList_append_own_at _ rfl (.tmp 5) (.tmp 6) 22 rfl w.heap.size 25 i0 _ 2 16 Try.underlying22 hi hz0 hz1 hz2 rfl (by decide) _ 0 [] rfl (Own.lit (enc := ivlC) (l := []) rfl (Nat.le_refl _) rfl rfl rfl (by decide)) ad l.length c (l.flatMap ivlC) rfl (flat_length ivlC_len l) (hcells _ (by go_grown)) (ivls_one l) (by unfold maxLen; omega) (by omega) (by simp) ?_; intro v' w6 h2 h3 _ _; have hown : Own ivlC 2 w6 w.heap.size 25 v' l := (by simpa [Own] using h2))
    have hbb : Below w.heap.size w w6 := by
      refine ((Below.refl w.heap.size w).alloc (Nat.le_refl _) (Obj.cells #[] 25)).grown h3 (by simp) ?_
      intro k hk
      have e : some w.heap.size = some k := hk
      cases e
      exact Nat.le_refl _
    go_ret
    exact ⟨_, rfl, hown, hbb⟩

/-! ### what is deleted -/
/-- While elements are deleted: what is kept stands ahead, what is not read yet stands where it stood. -/
structure DelInv (p : IvlD → Bool) (l m : List IvlD) (j i : Nat) : Prop where
  len : m.length = l.length
  lt : i < j
  ahead : m.take i = (l.take j).filter fun x => !p x
  rest : ∀ k x, j ≤ k → l[k]? = some x → m[k]? = some x
section
variable {p : IvlD → Bool} {l m : List IvlD} {i j k : Nat} {x : IvlD}
theorem filter_none (h : ∀ y, y ∈ l → p y = false) : (l.filter fun x => !p x) = l := List.filter_eq_self.2 fun y hy => by simp [h y hy]
theorem DelInv.start (hx : l[k]? = some x) (hp : p x = true) (hn : ∀ y, y ∈ l.take k → p y = false) : DelInv p l l (k + 1) k :=
  ⟨rfl, by omega, by rw [take_succ_ hx, List.filter_append, filter_none hn]; simp [hp], fun _ _ _ h => h⟩
theorem DelInv.skip (h : DelInv p l m j i) (hx : l[j]? = some x) (hp : p x = true) : DelInv p l m (j + 1) i :=
  ⟨h.len, by have := h.lt; omega, by rw [take_succ_ hx, List.filter_append, h.ahead]; simp [hp], fun k y hk => h.rest k y (by omega)⟩
theorem DelInv.keep (h : DelInv p l m j i) (hx : l[j]? = some x) (hp : p x = false) : DelInv p l (m.set i x) (j + 1) (i + 1) := by
  have hjl := lt_of_get hx
  have hlt := h.lt
  refine ⟨by rw [List.length_set, h.len], by omega, ?_, fun k y hk hy => ?_⟩
  · rw [take_succ_ hx, List.filter_append, ← h.ahead]
    have e : (m.set i x)[i]? = some x := List.getElem?_set_self (by rw [h.len]; omega)
    rw [take_succ_ e, List.take_set_of_le (Nat.le_refl _)]
    simp [hp]
  · rw [List.getElem?_set_ne (by omega)]
    exact h.rest k y (by omega) hy
theorem DelInv.fin (h : DelInv p l m j i) (hj : l.length ≤ j) : m.take i = l.filter fun x => !p x := by rw [h.ahead, List.take_of_length_le hj]
theorem DelInv.count (h : DelInv p l m j i) (hj : l.length ≤ j) (hl : i < l.length) : (l.filter fun x => !p x).length = i := by rw [← h.fin hj, List.length_take, h.len]; omega
end
end Go.Proofs.Ytcfachfldanddaa
/- The walk of slices.DeleteFunc over intervals. -/
namespace Go.Proofs.Ytcfachfldanddaa
open Go.RowKit Go.Shelf

theorem Own.keepBelow {α : Type} {enc : α → List Value} {sz : Nat} {w w' : World} {base : Nat} {e : TypeId} {v : Value} {l : List α} (h : Own enc sz w base e v l) (hb : Below w.heap.size w w') : Own enc sz w' base e v l := h.ext hb
theorem zeroIvl (w : World) : (zeroValue 25).run Try.prog w = .ok (.agg #[.int .i64 0, .int .i64 0]) w := Try.zeroValue25 w

set_option maxRecDepth 100000 in
set_option maxHeartbeats 4000000 in
theorem ivlDelete_any (fn : Nat) (lb : Array Value) (p : IvlD → Bool) (eg : ∀ args w, (callFunc fn args).run Try.prog w = .ok (.enter fn args) w) (v : Value) (l : List IvlD) (w : World) (base : Nat) (hown : Own ivlC 2 w base 25 v l) (hbase : base ≤ w.heap.size)
    (hi64 : ∀ x, x ∈ l → I64 x.f ∧ I64 x.t) (hl : l.length ≤ 100000) (hp : ∀ (W : World) (x : IvlD), Calls Try.prog fn (#[ivlV x] ++ lb) W fun e w' => e = .returned (.bool (p x)) ∧ Below W.heap.size W w') :
    Calls Try.prog 100 #[v, .func (.func fn) #[] lb] w (OwnOut (l.filter fun x => !p x) w base) := by
  obtain ⟨A, c, rfl, hI⟩ := own_ivls hown hi64
  have HO := Lib.hid hown
  have HP := Lib.hid hp
  have hIF := indexFunc_any fn lb p eg A c l w hI fun W x _ => hp W x
  clear hown hp hI hi64
  go_enter Try.func100, Try.ntmps100
  go_wp2_with fail
  refine hIF.mono ?_
  rintro e w1 ⟨⟨r, rfl, hr⟩, hb1⟩
  clear hIF
  rcases hr with ⟨rfl, hall⟩ | ⟨k, x, rfl, hx, hpx, hn⟩
  · have HA := Lib.hid hall
    clear hall
    go_wp2_with fail
    go_ret
    refine ⟨_, rfl, ?_, hb1.mono hbase⟩
    rw [filter_none HA.out]
    exact HO.out.ext hb1
  · obtain ⟨b, off, hA⟩ : ∃ b off, A = some ⟨b, off, none⟩ := by
      cases A with
      | none =>
        rcases HO.out.2 with ⟨h1, h2⟩ | ⟨g, cap, cur, hv, _⟩
        · have := lt_of_get hx; omega
        · simp at hv
      | some a =>
        rcases HO.out.2 with ⟨h1, h2⟩ | ⟨g, cap, cur, hv, _⟩
        · simp at h1
        · simp only [Value.slice.injEq, Option.some.injEq] at hv
          exact ⟨g, 0, by rw [hv.1]⟩
    subst hA
    obtain rfl : off = 0 := by
      rcases HO.out.2 with ⟨h1, h2⟩ | ⟨g, cap, cur, hv, _⟩
      · simp at h1
      · simp only [Value.slice.injEq, Option.some.injEq, Addr.mk.injEq] at hv
        exact hv.1.2.1
    have hkl := lt_of_get hx
    have HD : Hid (DelInv p l l (k + 1) k) := Lib.hid (DelInv.start hx hpx hn)
    have hO1 : Own ivlC 2 w1 base 25 (.slice (some ⟨b, 0, none⟩) l.length c) l := HO.out.ext hb1
    have hB1 : Below base w w1 := hb1.mono hbase
    have hz1 := hb1.size
    have hne : ((k : Int) == -1) = false := by simp
    clear hx hpx hn hb1
    go_wp2_with fail
    go_loopw [5, 6] (fun u v wr => ∃ (i j : Nat) (m : List IvlD), u = .int .i64 i ∧ v = .int .i64 j ∧ j ≤ l.length ∧ Hid (DelInv p l m j i) ∧ Own ivlC 2 wr base 25 (.slice (some ⟨b, 0, none⟩) l.length c) m ∧ Below base w wr) (fun _ v _ => l.length - (intOf v).toNat)
    case atStart => exact ⟨k, k + 1, l, rfl, by go_num, by omega, HD, hO1, hB1⟩
    case round =>
      clear hO1 HD hB1 hne
      obtain ⟨i, j, m, rfl, rfl, hj, HD, hO, hB⟩ := hrel
      have hij := HD.out.lt
      have hml := HD.out.len
      obtain ⟨hnm, hbb, hmc, hcm, cs, hBk, hcs, hrow⟩ := hO.cells ivlC_len
      have HMC := Lib.hid hmc
      clear hnm hmc
      by_cases hlt : j < l.length
      case pos =>
        obtain ⟨x, hx⟩ := get_lt hlt
        have hmx := HD.out.rest j x (Nat.le_refl _) hx
        have x0 : wr.cell? ⟨b, j * 2, none⟩ = some (.int .i64 x.f) := by rw [hBk.cell]; have := hrow j x hmx 0 (by decide); simpa [ivlC] using this
        have x1 : wr.cell? ⟨b, j * 2 + 1, none⟩ = some (.int .i64 x.t) := by rw [hBk.cell]; have := hrow j x hmx 1 (by decide); simpa [ivlC] using this
        have hbl := hBk.lt
        obtain ⟨y, hy⟩ := get_lt (show i < m.length by omega)
        have y0 : cs[i * 2]? = some (.int .i64 y.f) := by have := hrow i y hy 0 (by decide); simpa [ivlC] using this
        have y1 : cs[i * 2 + 1]? = some (.int .i64 y.t) := by have := hrow i y hy 1 (by decide); simpa [ivlC] using this
        have hc := fun W => HP.out W x
        have HX := Lib.hid hx
        have HR := Lib.hid hrow
        have HM := Lib.hid hml
        clear hx hmx hy hrow hml
        cases hq : p x
        case true =>
          rw [hq] at hc
          go_wp2_with (go_at_fn fn; refine (hc _).mono ?_; rintro e w' ⟨rfl, hb'⟩)
          go_roundw
          case rel => exact ⟨i, j + 1, m, rfl, by go_num, by omega, Lib.hid (HD.out.skip HX.out hq), (hO.alloc _).ext hb', (hB.alloc (by have := hB.size; omega) _).trans (hb'.mono (by simp; have := hB.size; omega))⟩
          case measure => simp [intOf]; omega
        case false =>
          rw [hq] at hc
          go_wp2_with (go_at_fn fn; refine (hc _).mono ?_; rintro e w' ⟨rfl, hb'⟩; obtain ⟨q1, q2, q3⟩ := ((Blk.new wr 25 #[.int .i64 x.f, .int .i64 x.t]).ext hb').facts; obtain ⟨r0, r1, r2, r3⟩ := (show Blk w' b 25 cs ∧ (∀ i, w'.cell? ⟨b, i, none⟩ = cs[i]?) ∧ (∀ i, w'.frozen? ⟨b, i, none⟩ = false) ∧ b < w'.heap.size from ⟨(hBk.alloc _).ext hb', ((hBk.alloc _).ext hb').facts⟩))
          go_roundw
          case rel =>
            refine ⟨i + 1, j + 1, m.set i x, by go_num, by go_num, by omega, Lib.hid (HD.out.keep HX.out hq), ?_, ?_⟩
            · have h1 := (r0.set_ (i * 2) (.int .i64 x.f)).set_ (i * 2 + 1) (.int .i64 x.t)
              have h2 := Own.of_cells (enc := ivlC) (m := m.set i x) ivlC_len (by decide) h1 hbb (by rw [List.length_set]; exact HMC.out) hcm (by simpa using hcs) (HR.out.set (by rw [HM.out]; omega)
                (fun t ht => by
                  rw [Array.getElem?_setIfInBounds_ne (by omega), Array.getElem?_setIfInBounds_ne (by omega)])
                (fun t ht => by
                  have k1 : i * 2 + 1 < cs.size := (Array.getElem?_eq_some_iff.1 y1).1
                  match t, ht with
                  | 0, _ =>
                    show ((cs.setIfInBounds (i * 2) (.int .i64 x.f)).setIfInBounds (i * 2 + 1) (.int .i64 x.t))[i * 2]? = _
                    rw [Array.getElem?_setIfInBounds_ne (by omega), Array.getElem?_setIfInBounds_self_of_lt (by omega)]; rfl
                  | 1, _ => rw [Array.getElem?_setIfInBounds_self_of_lt (by simpa using k1)]; rfl))
              rwa [List.length_set, HM.out] at h2
            · have hz := hB.size
              exact (((hB.alloc (by omega) _).trans (hb'.mono (by simp; omega))).setCell hbb _).setCell hbb _
          case measure => simp [intOf]; omega
      case neg =>
        obtain rfl : j = l.length := by omega
        have hcl : ∀ ty, (Builtin.clear_ #[22] ty #[.slice (some ⟨b, i * 2, none⟩) (l.length - i) (c - i)]).run Try.prog wr = .ok (.tuple #[]) (wr.setCells b (i * 2) (Builtin.zeroCells (Value.agg #[.int .i64 0, .int .i64 0]).cells (l.length - i)).toList) := fun ty =>
          run_clear_row wr 22 25 ty (.agg #[.int .i64 0, .int .i64 0]) Try.underlying22 zeroIvl (by simp [Value.cells, Value.oneCell']) b (i * 2) _ _ (by omega)
            (fun t ht => by
              simp only [Value.cells, List.size_toArray, List.length_cons, List.length_nil] at ht
              rw [hBk.cell]
              have : i * 2 + t < cs.size := by have := HMC.out; omega
              simp [this])
            (fun t _ => hBk.frozen _)
        have HR := Lib.hid hrow
        have HM := Lib.hid hml
        have hic : i ≤ c := by have := HMC.out; omega
        have hil : i < l.length := by omega
        have hic2 : i < c := by have := HMC.out; omega
        have hic3 : ¬ c - i = 0 := by omega
        have hic4 : ¬ i = c := by omega
        have hic5 : ¬ c = i := by omega
        have hcmx : c ≤ 9223372036854775807 := hcm
        have hst := fun vs : List Value => Blk.setCells (t := 25) vs (i * 2) hBk
        obtain ⟨wz, hwz⟩ : ∃ wz, wz = wr.setCells b (i * 2) (Builtin.zeroCells (Value.agg #[.int .i64 0, .int .i64 0]).cells (l.length - i)).toList := ⟨_, rfl⟩
        have HWZ := Lib.hid hwz
        rw [← hwz] at hcl
        clear hrow hml hwz
        go_wp2_with fail
        go_ret
        obtain ⟨cs', k1, k2, k3⟩ := hst (Builtin.zeroCells (Value.agg #[.int .i64 0, .int .i64 0]).cells (l.length - i)).toList
        rw [← HWZ.out] at k1
        have hfin := HD.out.fin (Nat.le_refl _)
        have hcnt := HD.out.count (Nat.le_refl _) hij
        refine ⟨_, rfl, ?_, ?_⟩
        · have h2 := Own.of_cells (enc := ivlC) (m := m.take i) ivlC_len (by decide) k1 hbb (by rw [hfin, hcnt]; exact hic) hcm (by rw [k2]; exact hcs) (fun q x hx j hj => by
            have hq : q < i := by have := lt_of_get hx; rw [hfin, hcnt] at this; exact this
            rw [k3 _ (by omega)]
            exact HR.out.take i q x hx j hj)
          rw [hfin, hcnt] at h2
          exact h2
        · rw [HWZ.out]
          exact below_setCells hbb _ _ hB
end Go.Proofs.Ytcfachfldanddaa
/-
  DERIVED: THE SHELF's CONTRACTS AT THIS DUMP, IN PLAIN WORDS (tools/lay-plain.mjs out of 'TryShelfB.lean', which tools/lay-shelf.mjs wrote): THE SAME DECLARATIONS UNDER THE SAME NAMES: 'import', 'namespace', 'open', 'def', 'theorem' AND NOTHING ELSE: no command of the shelf's: FOR A HAND-IN. Each laying: the table of numbers ('.._ren') and one theorem, a field a fact of the dump's own or the kernel's comparison; each contract: ONE APPLICATION.
-/
namespace Go.Proofs
open Go.Shelf
def Try.lays189_ren : Go.Shelf.Ren := ⟨fun | 189 => 107 | 125 => 127 | 257 => 128 | 128 => 141 | 129 => 142 | 294 => 143 | 295 => 144 | 296 => 145 | 297 => 146 | 298 => 147 | 299 => 148 | 216 => 149 | 300 => 150 | 301 => 151 | 328 => 157 | 329 => 153 | 330 => 154 | 331 => 158 | 332 => 159 | 215 => 160 | 343 => 162 | n => n, fun | 28 => 81 | 3 => 3 | 46 => 160 | 0 => 0 | 51 => 174 | 53 => 176 | 4 => 4 | 183 => 168 | 182 => 167 | 131 => 57 | 5 => 5 | 9 => 9 | 218 => 183 | 222 => 187 | 228 => 191 | 229 => 192 | n => n, fun | n => n⟩
theorem Try.lays189 : Go.Proofs.Lays.n189 Try.prog Try.lays189_ren := {
  mixed := by kernel_rfl
  f125 := Try.func127.trans (congrArg some (by kernel_rfl))
  f128 := Try.func141.trans (congrArg some (by kernel_rfl))
  f129 := Try.func142.trans (congrArg some (by kernel_rfl))
  f189 := Try.func107.trans (congrArg some (by kernel_rfl))
  f215 := Try.func160.trans (congrArg some (by kernel_rfl))
  f216 := Try.func149.trans (congrArg some (by kernel_rfl))
  f257 := Try.func128.trans (congrArg some (by kernel_rfl))
  f294 := Try.func143.trans (congrArg some (by kernel_rfl))
  f295 := Try.func144.trans (congrArg some (by kernel_rfl))
  f296 := Try.func145.trans (congrArg some (by kernel_rfl))
  f297 := Try.func146.trans (congrArg some (by kernel_rfl))
  f298 := Try.func147.trans (congrArg some (by kernel_rfl))
  f299 := Try.func148.trans (congrArg some (by kernel_rfl))
  f300 := Try.func150.trans (congrArg some (by kernel_rfl))
  f301 := Try.func151.trans (congrArg some (by kernel_rfl))
  f328 := Try.func157.trans (congrArg some (by kernel_rfl))
  f329 := Try.func153.trans (congrArg some (by kernel_rfl))
  f330 := Try.func154.trans (congrArg some (by kernel_rfl))
  f331 := Try.func158.trans (congrArg some (by kernel_rfl))
  f332 := Try.func159.trans (congrArg some (by kernel_rfl))
  f343 := Try.func162.trans (congrArg some (by kernel_rfl))
  t0 := Try.underlying0
  a0 := Try.isAgg0
  z0 := Try.sizeOf0
  v0 := Try.zeroValue0
  t3 := Try.underlying3
  a3 := Try.isAgg3
  z3 := Try.sizeOf3
  v3 := Try.zeroValue3
  t4 := Try.underlying4
  a4 := Try.isAgg4
  z4 := Try.sizeOf4
  v4 := Try.zeroValue4
  t5 := Try.underlying5
  a5 := Try.isAgg5
  z5 := Try.sizeOf5
  v5 := Try.zeroValue5
  t9 := Try.underlying9
  a9 := Try.isAgg9
  z9 := Try.sizeOf9
  v9 := Try.zeroValue9
  t28 := Try.underlying81
  a28 := Try.isAgg81
  z28 := Try.sizeOf81
  v28 := Try.zeroValue81
  t46 := Try.underlying160
  a46 := Try.isAgg160
  z46 := Try.sizeOf160
  v46 := Try.zeroValue160
  t51 := Try.underlying174
  a51 := Try.isAgg174
  z51 := Try.sizeOf174
  v51 := Try.zeroValue174
  t53 := Try.underlying176
  a53 := Try.isAgg176
  z53 := Try.sizeOf176
  v53 := Try.zeroValue176
  t131 := Try.underlying57
  a131 := Try.isAgg57
  z131 := Try.sizeOf57
  v131 := Try.zeroValue57
  t182 := Try.underlying167
  a182 := Try.isAgg167
  z182 := Try.sizeOf167
  v182 := Try.zeroValue167
  t183 := Try.underlying168
  a183 := Try.isAgg168
  z183 := Try.sizeOf168
  v183 := Try.zeroValue168
  t218 := Try.underlying183
  a218 := Try.isAgg183
  z218 := Try.sizeOf183
  v218 := Try.zeroValue183
  t222 := Try.underlying187
  a222 := Try.isAgg187
  z222 := Try.sizeOf187
  v222 := Try.zeroValue187
  t228 := Try.underlying191
  a228 := Try.isAgg191
  z228 := Try.sizeOf191
  v228 := Try.zeroValue191
  t229 := Try.underlying192
  a229 := Try.isAgg192
  z229 := Try.sizeOf192
  v229 := Try.zeroValue192 }
open Go.Sort Go.RowKit in
theorem Try.slices_Sort_int (blk off cap : Nat) (zs : List Int) (w : World) (hH : Holds (Value.int .i64) w blk off zs.toArray) (hblk : blk < w.heap.size) (hsz : zs.length < 4611686018427387904) :
    Calls Try.prog 107 #[.slice (some ⟨blk, off, none⟩) zs.length cap] w fun e w' =>
      e = .returned (.tuple #[]) ∧ ∃ n os, w' = grow (putRow (Value.int .i64) (Sort.ahead w n) blk off (zs.mergeSort fun x y => decide (x ≤ y)).toArray) os := Any.slices_Sort_int Try.lays189 blk off cap zs w hH hblk hsz
def Try.laysNm220_ren : Go.Shelf.Ren := ⟨fun | 20 => 108 | n => n, fun | 22 => 81 | 3 => 3 | 4 => 4 | 0 => 0 | n => n, fun | n => n⟩
theorem Try.laysNm220 : Go.Proofs.Lays2.n20 Try.prog Try.laysNm220_ren := {
  mixed := by kernel_rfl
  f20 := Try.func108.trans (congrArg some (by kernel_rfl))
  t0 := Try.underlying0
  a0 := Try.isAgg0
  z0 := Try.sizeOf0
  v0 := Try.zeroValue0
  t3 := Try.underlying3
  a3 := Try.isAgg3
  z3 := Try.sizeOf3
  v3 := Try.zeroValue3
  t4 := Try.underlying4
  a4 := Try.isAgg4
  z4 := Try.sizeOf4
  v4 := Try.zeroValue4
  t22 := Try.underlying81
  a22 := Try.isAgg81
  z22 := Try.sizeOf81
  v22 := Try.zeroValue81
  i3 := by kernel_rfl }
open Go.RowKit Go.Lib Go.Sort in
/-- slices.Compact at []int, over an array: the library's two loops are walked. (LAID: no walk: one application.) -/
theorem Try.slices_Compact_int_arr (blk off cap : Nat) (d : Array Int) (w : World) (hH : Holds encI w blk off d) (hsz : d.size ≤ 9223372036854775807) (hcap : d.size ≤ cap) :
    Calls Try.prog 108 #[.slice (some ⟨blk, off, none⟩) d.size cap] w fun e w' => e = .returned (.slice (some ⟨blk, off, none⟩) (compactUpTo d d.size).length cap) ∧ ∃ q, w' = putRow encI (Sort.ahead w q) blk off (compactUpTo d d.size ++ List.replicate (d.size - (compactUpTo d d.size).length) 0).toArray := Any.slices_Compact_int_arr Try.laysNm220 blk off cap d w hH hsz hcap
open Go.RowKit Go.Lib Go.Sort in
/-- slices.Compact at []int: "Compact replaces consecutive runs of equal elements with a single copy. This is like the uniq command found on Unix. Compact modifies the contents of the slice s and returns the modified slice, which may have a smaller length. Compact zeroes the elements between the new length and the original length. The result preserves the nilness of s.": IT RETURNS THE SLICE CUT TO 'Lib.compact zs'; ITS CELLS HOLD 'Lib.compact zs', THEN ZERO VALUES up to the old length; all else is as it was, but for the count of draws. IN THE WORDS OF slices.Sort's CONTRACT ('Holds', 'putRow'): so the everyday 'slices.Sort(xs); xs = slices.Compact(xs)' goes from the one contract to the other. It asks 'zs.length ≤ cap' (every slice's: the reslicing 's[:k]' looks at it). Length 0, nil: '.._empty'. (LAID: no walk: one application.) -/
theorem Try.slices_Compact_int (blk off cap : Nat) (zs : List Int) (w : World) (hH : Holds (Value.int .i64) w blk off zs.toArray) (hsz : zs.length ≤ 9223372036854775807) (hcap : zs.length ≤ cap) :
    Calls Try.prog 108 #[.slice (some ⟨blk, off, none⟩) zs.length cap] w fun e w' => e = .returned (.slice (some ⟨blk, off, none⟩) (Lib.compact zs).length cap) ∧ ∃ q, w' = putRow (Value.int .i64) (Sort.ahead w q) blk off (Lib.compact zs ++ List.replicate (zs.length - (Lib.compact zs).length) 0).toArray := Any.slices_Compact_int Try.laysNm220 blk off cap zs w hH hsz hcap
open Go.RowKit Go.Lib Go.Sort in
/-- The same at a slice of length 0, a nil one too: it comes back as it is. (LAID: no walk: one application.) -/
theorem Try.slices_Compact_int_empty (a : Option Addr) (cap : Nat) (w : World) :
    Calls Try.prog 108 #[.slice a 0 cap] w fun e w' => e = .returned (.slice a 0 cap) ∧ w' = w := Any.slices_Compact_int_empty Try.laysNm220 a cap w
open Go.RowKit Go.Sort in
/-- .. and plain. (LAID: no walk: one application.) -/
theorem Try.slices_Sort_int_none (p : Option Addr) (cap : Nat) (w : World) :
    Calls Try.prog 107 #[.slice p 0 cap] w fun e w' => e = .returned (.tuple #[]) ∧ w' = w := Any.slices_Sort_int_none Try.lays189 p cap w
def Try.sortIvl_ren : Go.Shelf.Ren := ⟨fun | 6 => 102 | 15 => 127 | 14 => 126 | 28 => 141 | 29 => 142 | 20 => 133 | 21 => 134 | 22 => 135 | 23 => 136 | 24 => 137 | 25 => 138 | 26 => 139 | 27 => 140 | 46 => 152 | 47 => 153 | 48 => 154 | 49 => 155 | 50 => 156 | 57 => 161 | n => n, fun | 22 => 22 | 24 => 25 | 25 => 131 | 3 => 3 | 39 => 160 | 0 => 0 | 53 => 174 | 55 => 176 | 4 => 4 | 46 => 168 | 45 => 167 | 50 => 57 | 5 => 5 | 9 => 9 | 66 => 183 | 70 => 187 | 76 => 191 | 77 => 192 | n => n, fun | n => n⟩
theorem Try.sortIvl : Go.Proofs.SlLaysF0.n6 Try.prog Try.sortIvl_ren := {
  mixed := by kernel_rfl
  f6 := ⟨Try.f102.name, by decide, Try.func102.trans (congrArg some (by kernel_rfl))⟩
  f14 := ⟨Try.f126.name, by decide, Try.func126.trans (congrArg some (by kernel_rfl))⟩
  f15 := Try.func127.trans (congrArg some (by kernel_rfl))
  f20 := ⟨Try.f133.name, by decide, Try.func133.trans (congrArg some (by kernel_rfl))⟩
  f21 := ⟨Try.f134.name, by decide, Try.func134.trans (congrArg some (by kernel_rfl))⟩
  f22 := ⟨Try.f135.name, by decide, Try.func135.trans (congrArg some (by kernel_rfl))⟩
  f23 := ⟨Try.f136.name, by decide, Try.func136.trans (congrArg some (by kernel_rfl))⟩
  f24 := ⟨Try.f137.name, by decide, Try.func137.trans (congrArg some (by kernel_rfl))⟩
  f25 := ⟨Try.f138.name, by decide, Try.func138.trans (congrArg some (by kernel_rfl))⟩
  f26 := ⟨Try.f139.name, by decide, Try.func139.trans (congrArg some (by kernel_rfl))⟩
  f27 := ⟨Try.f140.name, by decide, Try.func140.trans (congrArg some (by kernel_rfl))⟩
  f28 := Try.func141.trans (congrArg some (by kernel_rfl))
  f29 := Try.func142.trans (congrArg some (by kernel_rfl))
  f46 := ⟨Try.f152.name, by decide, Try.func152.trans (congrArg some (by kernel_rfl))⟩
  f47 := Try.func153.trans (congrArg some (by kernel_rfl))
  f48 := Try.func154.trans (congrArg some (by kernel_rfl))
  f49 := ⟨Try.f155.name, by decide, Try.func155.trans (congrArg some (by kernel_rfl))⟩
  f50 := ⟨Try.f156.name, by decide, Try.func156.trans (congrArg some (by kernel_rfl))⟩
  f57 := ⟨Try.f161.name, by decide, Try.func161.trans (congrArg some (by kernel_rfl))⟩
  t0 := Try.underlying0
  a0 := Try.isAgg0
  z0 := Try.sizeOf0
  v0 := Try.zeroValue0
  t3 := Try.underlying3
  a3 := Try.isAgg3
  z3 := Try.sizeOf3
  v3 := Try.zeroValue3
  t4 := Try.underlying4
  a4 := Try.isAgg4
  z4 := Try.sizeOf4
  v4 := Try.zeroValue4
  t5 := Try.underlying5
  a5 := Try.isAgg5
  z5 := Try.sizeOf5
  v5 := Try.zeroValue5
  t9 := Try.underlying9
  a9 := Try.isAgg9
  z9 := Try.sizeOf9
  v9 := Try.zeroValue9
  t22 := Try.underlying22
  a22 := Try.isAgg22
  z22 := Try.sizeOf22
  v22 := Try.zeroValue22
  t25 := Try.underlying131
  a25 := Try.isAgg131
  z25 := Try.sizeOf131
  v25 := Try.zeroValue131
  t39 := Try.underlying160
  a39 := Try.isAgg160
  z39 := Try.sizeOf160
  v39 := Try.zeroValue160
  t45 := Try.underlying167
  a45 := Try.isAgg167
  z45 := Try.sizeOf167
  v45 := Try.zeroValue167
  t46 := Try.underlying168
  a46 := Try.isAgg168
  z46 := Try.sizeOf168
  v46 := Try.zeroValue168
  t50 := Try.underlying57
  a50 := Try.isAgg57
  z50 := Try.sizeOf57
  v50 := Try.zeroValue57
  t53 := Try.underlying174
  a53 := Try.isAgg174
  z53 := Try.sizeOf174
  v53 := Try.zeroValue174
  t55 := Try.underlying176
  a55 := Try.isAgg176
  z55 := Try.sizeOf176
  v55 := Try.zeroValue176
  t66 := Try.underlying183
  a66 := Try.isAgg183
  z66 := Try.sizeOf183
  v66 := Try.zeroValue183
  t70 := Try.underlying187
  a70 := Try.isAgg187
  z70 := Try.sizeOf187
  v70 := Try.zeroValue187
  t76 := Try.underlying191
  a76 := Try.isAgg191
  z76 := Try.sizeOf191
  v76 := Try.zeroValue191
  t77 := Try.underlying192
  a77 := Try.isAgg192
  z77 := Try.sizeOf192
  v77 := Try.zeroValue192 }
end Go.Proofs
