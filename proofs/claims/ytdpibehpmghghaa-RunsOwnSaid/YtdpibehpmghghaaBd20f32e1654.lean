/- Several texts in one: SortMem, RowMem, IvlDel. -/
import Derived.Shelf.SlSortCmp.WholeK
import Derived.Lib.SliceRun
import Derived.Maps.AppendAt
import Derived.Lib.BufferMore
import Derived.Test.YtdpibehpmghghaaBd9264425ae5
import Derived.Test.YtdpibehpmghghaaBda2f47ef360
/- A list that a call owns, as the row of a sort. -/
namespace Go.Proofs.Ytdpibehpmghghaa
open Go.RowKit Go.Sort

section
variable {α : Type} {enc : α → List Value} {sz : Nat} {w w' : World} {base g cap m off : Nat} {t e : TypeId} {l : List α} {d : Array α} {cs : Array Value} {os : Array Obj}
theorem flat_at (hk : ∀ x, (enc x).length = sz) : ∀ {l : List α} {i j : Nat} {x : α}, l[i]? = some x → j < sz → (l.flatMap enc)[i * sz + j]? = (enc x)[j]?
  | [], i, j, x, h, _ => by simp at h
  | y :: l, 0, j, x, h, hj => by
    obtain rfl : y = x := by simpa using h
    rw [List.flatMap_cons, List.getElem?_append_left (by rw [hk]; omega), Nat.zero_mul, Nat.zero_add]
  | y :: l, i + 1, j, x, h, hj => by
    rw [List.flatMap_cons, List.getElem?_append_right (by rw [hk, Nat.succ_mul]; omega), hk, show (i + 1) * sz + j - sz = i * sz + j by rw [Nat.succ_mul]; omega]
    exact flat_at hk (by simpa using h) hj
theorem flat_length (hk : ∀ x, (enc x).length = sz) : ∀ l : List α, (l.flatMap enc).length = l.length * sz
  | [] => by simp
  | y :: l => by rw [List.flatMap_cons, List.length_append, flat_length hk l, hk, List.length_cons, Nat.succ_mul]; omega
section
variable [Inhabited α]
theorem flatK_list (hk : ∀ x, (enc x).length = sz) (hs : 0 < sz) (d : Array α) : (flatK enc sz d).toList = d.toList.flatMap enc := by
  refine List.ext_getElem? fun t => ?_
  by_cases ht : t < d.size * sz
  · have hq : t / sz < d.size := Nat.div_lt_of_lt_mul (by rwa [Nat.mul_comm])
    have hr : t % sz < sz := Nat.mod_lt _ hs
    have hx : d.toList[t / sz]? = some d[t / sz]! := by
      rw [Array.getElem?_toList, Array.getElem?_eq_getElem hq, getElem!_pos d _ hq]
    have h1 := flat_at hk hx hr
    rw [Nat.div_add_mod' t sz] at h1
    rw [h1, Array.getElem?_toList, Array.getElem?_eq_getElem (by rw [size_flatK]; exact ht), ← getElem!_pos _ _ (by rw [size_flatK]; exact ht), get_flatK _ _ _ _ ht]
    rw [List.getElem?_eq_getElem (by rw [hk]; exact hr), ← getElem!_pos _ _ (by rw [hk]; exact hr)]
  · rw [List.getElem?_eq_none (by simp; omega), List.getElem?_eq_none (by rw [flat_length hk]; simp; omega)]
omit [Inhabited α] in
theorem heap_grow_lt (w : World) (os : Array Obj) {b : Nat} (hb : b < w.heap.size) : (grow w os).heap[b]? = w.heap[b]? := heap_grow_old w os hb
theorem heap_sort_other {b : Nat} (hb : b ≠ g) (hlt : b < w.heap.size) : (Go.Proofs.sortWorldK enc sz w g off m d os).heap[b]? = w.heap[b]? := by
  unfold Go.Proofs.sortWorldK
  rw [heap_grow_lt _ _ (by unfold putRowK; simpa using hlt)]
  unfold putRowK putRow mapBlock
  simp [Array.getElem?_modify, hb.symm]
theorem size_sortWorldK : (Go.Proofs.sortWorldK enc sz w g off m d os).heap.size = w.heap.size + os.size := by
  unfold Go.Proofs.sortWorldK putRowK
  simp
theorem Blk.sort_other {b : Nat} (h : Blk w b t cs) (hb : b ≠ g) : Blk (Go.Proofs.sortWorldK enc sz w g off m d os) b t cs := (heap_sort_other hb h.lt).trans h
theorem Blk.sorted (h : Blk w g t cs) : Blk (Go.Proofs.sortWorldK enc sz w g off m d os) g t (putCells id off (flatK enc sz d) cs) := by
  have h0 := h
  unfold Blk at h0
  unfold Blk Go.Proofs.sortWorldK
  rw [heap_grow_lt _ _ (by unfold putRowK; simpa using h.lt)]
  unfold putRowK putRow mapBlock
  simp [Array.getElem?_modify, h0, onCells]
theorem below_sort {B : Nat} (hg : B ≤ g) (hB : B ≤ w.heap.size) : Below B w (Go.Proofs.sortWorldK enc sz w g off m d os) :=
  ⟨rfl, rfl, rfl, by rw [size_sortWorldK]; omega, fun k hk => heap_sort_other (by omega) (by omega)⟩
/-- What is owned, as a sort wants it. -/
theorem Own.holdsK (hk : ∀ x, (enc x).length = sz) (hs : 0 < sz) (h : Own enc sz w base e (.slice (some ⟨g, 0, none⟩) l.length cap) l) : HoldsK enc sz w g 0 l.toArray := by
  rcases h.2 with ⟨h1, _⟩ | ⟨g', cap', cur, hv, hg, hh, hnc, hcm, hcs, htake⟩
  · simp at h1
  · simp only [Value.slice.injEq, Option.some.injEq, Addr.mk.injEq, and_true, true_and] at hv
    obtain ⟨rfl, rfl⟩ := hv
    intro j hj
    rw [size_flatK] at hj
    have hB : Blk w g e cur := hh
    rw [hB.cell, hB.frozen, Nat.zero_add]
    refine ⟨?_, rfl⟩
    have h1 : (flatK enc sz l.toArray).toList[j]? = (l.flatMap enc)[j]? := by rw [flatK_list hk hs]
    rw [Array.getElem?_toList, Array.getElem?_eq_getElem (by rw [size_flatK]; exact hj)] at h1
    rw [getElem!_pos _ _ (by rw [size_flatK]; exact hj)]
    refine Eq.trans ?_ h1.symm
    rw [← htake]
    simp only [List.size_toArray] at hj
    rw [List.getElem?_take_of_lt hj]
    simp
theorem Own.sortWorld {l' : List α} (hk : ∀ x, (enc x).length = sz) (hs : 0 < sz) (h : Own enc sz w base e (.slice (some ⟨g, 0, none⟩) l.length cap) l) (hl : l'.length = l.length) :
    Own enc sz (Go.Proofs.sortWorldK enc sz w g 0 m l'.toArray os) base e (.slice (some ⟨g, 0, none⟩) l.length cap) l' := by
  rcases h.2 with ⟨h1, _⟩ | ⟨g', cap', cur, hv, hg, hh, hnc, hcm, hcs, htake⟩
  · simp at h1
  · simp only [Value.slice.injEq, Option.some.injEq, Addr.mk.injEq, and_true, true_and] at hv
    obtain ⟨rfl, rfl⟩ := hv
    have hB : Blk w g e cur := hh
    refine ⟨by rw [hl]; exact (flat_length hk l').trans (by rw [hl]), .inr ⟨g, cap, putCells id 0 (flatK enc sz l'.toArray) cur, by rw [hl], hg, hB.sorted, by omega, hcm, by simpa [putCells] using hcs, ?_⟩⟩
    have hfl := flatK_list hk hs l'.toArray
    refine List.ext_getElem? fun t => ?_
    by_cases ht : t < l'.length * sz
    · rw [List.getElem?_take_of_lt ht]
      have hcz : t < cur.size := by
        have h2 := congrArg List.length htake
        rw [flat_length hk, List.length_take] at h2
        have := hB.lt
        rw [hl] at ht
        have h3 : min (l.length * sz) cur.toList.length = l.length * sz := h2
        simp only [Array.length_toList] at h3
        omega
      have h1 : (flatK enc sz l'.toArray).toList[t]? = (l'.flatMap enc)[t]? := by rw [hfl]
      rw [Array.getElem?_toList, Array.getElem?_eq_getElem (by rw [size_flatK]; simpa using ht)] at h1
      rw [← h1, Array.getElem?_toList]
      unfold putCells
      rw [Array.getElem?_mapIdx, Array.getElem?_eq_getElem hcz]
      simp only [Option.map_some, Nat.zero_le, true_and, Nat.zero_add, Nat.sub_zero]
      rw [if_pos (by rw [size_flatK]; simpa using ht), getElem!_pos _ _ (by rw [size_flatK]; simpa using ht)]
      rfl
    · rw [List.getElem?_eq_none (by simp; omega), List.getElem?_eq_none (by rw [flat_length hk]; omega)]
end
end
end Go.Proofs.Ytdpibehpmghghaa
/- A list in a block of its own: cell by cell. -/
namespace Go.Proofs.Ytdpibehpmghghaa
open Go.RowKit

section
variable {α : Type} {enc : α → List Value} {sz : Nat} {w w' : World} {base g c n i : Nat} {t e : TypeId} {m : List α} {x y : α} {cs : Array Value}
/-- Cell by cell: what the block's cells are. -/
def RowC (enc : α → List Value) (sz : Nat) (cs : Array Value) (m : List α) : Prop := ∀ (k : Nat) (x : α), m[k]? = some x → ∀ j, j < sz → cs[k * sz + j]? = (enc x)[j]?
theorem Own.cells (hk : ∀ x, (enc x).length = sz) (h : Own enc sz w base e (.slice (some ⟨g, 0, none⟩) n c) m) :
    n = m.length ∧ base ≤ g ∧ m.length ≤ c ∧ c ≤ maxLen ∧ ∃ cs, Blk w g e cs ∧ cs.size = c * sz ∧ RowC enc sz cs m := by
  rcases h.2 with ⟨h1, _⟩ | ⟨g', cap', cur, hv, hg, hh, hnc, hcm, hcs, htake⟩
  · simp at h1
  · simp only [Value.slice.injEq, Option.some.injEq, Addr.mk.injEq, and_true] at hv
    obtain ⟨rfl, rfl, rfl⟩ := hv
    refine ⟨rfl, hg, hnc, hcm, cur, hh, hcs, fun k x hx j hj => ?_⟩
    have hl := lt_of_get hx
    have h2 := flat_at hk hx hj
    rw [← htake] at h2
    have hlt : k * sz + j < m.length * sz := by
      have := Nat.mul_le_mul_right sz (show k + 1 ≤ m.length from hl)
      rw [Nat.succ_mul] at this
      omega
    rw [List.getElem?_take_of_lt hlt] at h2
    rw [← h2]
    simp
theorem Own.of_cells (hk : ∀ x, (enc x).length = sz) (hs : 0 < sz) (hB : Blk w g e cs) (hg : base ≤ g) (h1 : m.length ≤ c) (h2 : c ≤ maxLen) (hcs : cs.size = c * sz) (hc : RowC enc sz cs m) :
    Own enc sz w base e (.slice (some ⟨g, 0, none⟩) m.length c) m := by
  refine ⟨flat_length hk m, .inr ⟨g, c, cs, rfl, hg, hB, h1, h2, hcs, ?_⟩⟩
  refine List.ext_getElem? fun t => ?_
  by_cases ht : t < m.length * sz
  · rw [List.getElem?_take_of_lt ht]
    have hq : t / sz < m.length := Nat.div_lt_of_lt_mul (by rwa [Nat.mul_comm])
    have hr : t % sz < sz := Nat.mod_lt _ hs
    obtain ⟨x, hx⟩ := get_lt hq
    have h3 := hc _ x hx _ hr
    have h4 := flat_at hk hx hr
    rw [Nat.div_add_mod' t sz] at h3 h4
    rw [h4, ← h3]
    simp
  · rw [List.getElem?_eq_none (by simp; omega), List.getElem?_eq_none (by rw [flat_length hk]; omega)]
theorem RowC.take (h : RowC enc sz cs m) (i : Nat) : RowC enc sz cs (m.take i) := fun k x hx j hj => h k x (by
  by_cases hi : k < i
  · rwa [List.getElem?_take_of_lt hi] at hx
  · rw [List.getElem?_take_eq_none (by omega)] at hx; cases hx) j hj
/-- One element is put over. -/
theorem RowC.set {cs' : Array Value} (h : RowC enc sz cs m) (hi : i < m.length) (hs : ∀ t, t < i * sz ∨ i * sz + sz ≤ t → cs'[t]? = cs[t]?) (hx : ∀ j, j < sz → cs'[i * sz + j]? = (enc x)[j]?) : RowC enc sz cs' (m.set i x) := fun k y hy j hj => by
  by_cases hki : i = k
  · subst hki
    rw [List.getElem?_set_self hi] at hy
    obtain rfl : x = y := by simpa using hy
    exact hx j hj
  · rw [List.getElem?_set_ne hki] at hy
    rw [hs _ (by
      rcases Nat.lt_or_gt_of_ne hki with h1 | h1
      · right
        have := Nat.mul_le_mul_right sz (show i + 1 ≤ k from h1)
        rw [Nat.succ_mul] at this
        omega
      · left
        have := Nat.mul_le_mul_right sz (show k + 1 ≤ i from h1)
        rw [Nat.succ_mul] at this
        omega)]
    exact h k y hy j hj
/-- A row of stores: what lies ahead of it stays. -/
theorem Blk.setCells : ∀ (vs : List Value) (o : Nat) {w : World} {cs : Array Value}, Blk w g t cs → ∃ cs', Blk (w.setCells g o vs) g t cs' ∧ cs'.size = cs.size ∧ ∀ i, i < o → cs'[i]? = cs[i]?
  | [], o, w, cs, h => ⟨cs, h, rfl, fun _ _ => rfl⟩
  | v :: vs, o, w, cs, h => by
    obtain ⟨cs', h1, h2, h3⟩ := Blk.setCells vs (o + 1) (h.set_ o v)
    refine ⟨cs', h1, by rw [h2]; simp, fun i hi => ?_⟩
    rw [h3 i (by omega), Array.getElem?_setIfInBounds_ne (by omega)]
theorem Blk.setCells_far {b : Nat} {cs : Array Value} (hb : b ≠ g) : ∀ (vs : List Value) (o : Nat) {w : World}, Blk w b t cs → Blk (w.setCells g o vs) b t cs
  | [], _, _, h => h
  | v :: vs, o, _, h => Blk.setCells_far hb vs (o + 1) (h.far (p := ⟨g, o, none⟩) hb v)
theorem below_setCells {B : Nat} (hB : B ≤ g) : ∀ (vs : List Value) (o : Nat) {w w' : World}, Below B w w' → Below B w (w'.setCells g o vs)
  | [], _, _, _, h => h
  | v :: vs, o, _, w', h => below_setCells hB vs (o + 1) (h.setCell hB v)
theorem zeroCells_len (zs : Array Value) (n : Nat) : (Builtin.zeroCells zs n).toList.length = n * zs.size := by simp [Builtin.zeroCells]
theorem zeroCells_size (zs : Array Value) (n : Nat) : (Builtin.zeroCells zs n).size = n * zs.size := by simp [Builtin.zeroCells]
/-- 'clear(s)', s a slice of n > 0 elements. -/
theorem run_clear_row {P : Program} (w : World) (t e ty : TypeId) (z : Value) (ht : P.underlying t = some (.slice e)) (hv : ∀ w, (zeroValue e).run P w = .ok z w) (h1 : ∀ v ∈ z.cells.toList, v.oneCell' = true) (b o n c : Nat) (hn : 0 < n)
    (hc : ∀ j, j < n * z.cells.size → (w.cell? ⟨b, o + j, none⟩).isSome = true) (hf : ∀ j, j < n * z.cells.size → w.frozen? ⟨b, o + j, none⟩ = false) :
    (Builtin.clear_ #[t] ty #[.slice (some ⟨b, o, none⟩) n c]).run P w = .ok (.tuple #[]) (w.setCells b o (Builtin.zeroCells z.cells n).toList) := by
  have hst := run_storeCells_cells (P := P) b o (Builtin.zeroCells z.cells n).toList 0 w (by simpa [zeroCells_size] using hc) (by simpa [zeroCells_size] using hf) (by
    intro v hv'
    obtain ⟨i, hi, rfl⟩ := List.mem_iff_getElem.1 hv'
    have hlt : i < n * z.cells.size := by simpa [zeroCells_size] using hi
    have hpos : 0 < z.cells.size := by
      rcases Nat.eq_zero_or_pos z.cells.size with h0 | h0
      · rw [h0] at hlt; omega
      · exact h0
    have e1 : (Builtin.zeroCells z.cells n).toList[i] ∈ z.cells.toList := by
      simp only [Builtin.zeroCells, Array.toList_map, List.getElem_map]
      have hm : i % z.cells.size < z.cells.size := Nat.mod_lt _ hpos
      simp [hm]
    exact h1 _ e1)
  simp only [Nat.add_zero] at hst
  obtain ⟨m, rfl⟩ : ∃ m, n = m + 1 := ⟨n - 1, by omega⟩
  simp [Builtin.clear_, run_underlying ht, hv, hst]
end
/-- Nothing is appended. -/
theorem run_append_nothing {P : Program} (w : World) (t e ty : TypeId) (i : TypeInfo) (ht : P.underlying t = some (.slice e)) (hi : P.info? e = some i) (b : Option Addr) (n c d : Nat) (hn : n ≤ c) :
    (Builtin.append_ #[t, t] ty #[.slice b n c, .slice none 0 d]).run P w = .ok (.slice b n c) w := by
  cases b <;> simp [Builtin.append_, run_underlying ht, sizeOf, typeInfo, hi, Builtin.lenOf, Builtin.firstCells, storeCells, hn]
theorem wpList_append_nothing {P : Program} {ops : Array Oper} {rest : List Oper} {o : Oper} {a : Act} {Q : Exit → Act → World → Prop} {w : World} (hgd : o.guard = none) (s x : Operand) (t : TypeId)
    (ho : o.op = .call { callee := .builtin .append, args := #[s, x], argTypes := #[t, t] }) (e : TypeId) (i : TypeInfo) (ht : P.underlying t = some (.slice e)) (hi : P.info? e = some i) (b : Option Addr) (n c d : Nat)
    (hs : a.eval s = .slice b n c) (hx : a.eval x = .slice none 0 d) (hn : n ≤ c) (h : wpList P ops Q rest (a.put o.dst (.slice b n c)) w) : wpList P ops Q (o :: rest) a w := by
  refine wpList_plain hgd fun K hK => ?_
  have hr := run_append_nothing (P := P) w t e o.type i ht hi b n c d hn
  unfold Oper.wp execOp
  simp only [ho, resolve, invoke, builtin, Sem.run_bind, Sem.run_pure, Result.andThen_ok, List.map_toArray, List.map_cons, List.map_nil, hs, hx, hr]
  exact hK _ _ h
end Go.Proofs.Ytdpibehpmghghaa
/- The walks of slices.Clone and slices.DeleteFunc over intervals. -/
namespace Go.Proofs.Ytdpibehpmghghaa
open Go.RowKit Go.Shelf

theorem ivlC_len (x : IvlD) : (ivlC x).length = 2 := rfl
theorem ivls_one (l : List IvlD) : ∀ u ∈ l.flatMap ivlC, u.oneCell' = true := fun u hu => by
  obtain ⟨x, _, hx⟩ := List.mem_flatMap.1 hu
  simp only [ivlC, List.mem_cons, List.not_mem_nil, or_false] at hx
  rcases hx with rfl | rfl <;> rfl
/-- What memory holds of a list, cell by cell. -/
theorem IvlsAt.flat {w : World} {b off c : Nat} {l : List IvlD} (h : IvlsAt w (some ⟨b, off, none⟩) c l) : ∀ (j : Nat) u, (l.flatMap ivlC)[j]? = some u → w.cell? ⟨b, off + j, none⟩ = some u := fun j u hu => by
  have hj : j < l.length * 2 := by have := lt_of_get hu; rw [flat_length ivlC_len] at this; exact this
  obtain ⟨x, hx⟩ := get_lt (show j / 2 < l.length by omega)
  obtain ⟨b', off', e, _, h0, h1⟩ := h.get hx
  obtain ⟨rfl, rfl⟩ : b = b' ∧ off = off' := by simpa using e
  have h4 := flat_at ivlC_len hx (Nat.mod_lt j (show 0 < 2 by decide))
  rw [Nat.div_add_mod' j 2, hu] at h4
  have hd := Nat.div_add_mod' j 2
  rcases Nat.mod_two_eq_zero_or_one j with hm | hm
  · rw [hm] at h4
    have e1 : j / 2 * 2 = j := by omega
    rw [e1] at h0
    rw [h0, h4]
    rfl
  · rw [hm] at h4
    have e1 : off + j / 2 * 2 + 1 = off + j := by omega
    rw [e1] at h1
    rw [h1, h4]
    rfl
/-- A list is told, in a block of its own. -/
def OwnOut (l : List IvlD) (w : World) (base : Nat) (e : Ending) (w' : World) : Prop := ∃ v, e = .returned v ∧ Own ivlC 2 w' base 29 v l ∧ Below base w w'

set_option maxRecDepth 100000 in
set_option maxHeartbeats 2000000 in
theorem ivlClone_any (A : Option Addr) (c : Nat) (l : List IvlD) (w : World) (hI : IvlsAt w A c l) (hl : l.length ≤ 100000) :
    Calls Try.prog 10 #[.slice A l.length c] w (OwnOut l w w.heap.size) := by
  obtain ⟨i0, hi, hz0, hz1, hz2⟩ := info_ivl2
  cases A with
  | none =>
    have h0 : l = [] := by
      cases l with
      | nil => rfl
      | cons y l =>
        obtain ⟨b, off, e, _⟩ := hI.get (k := 0) (x := y) rfl
        simp at e
    subst h0
    have hnil : ∀ W : World, (binOp .eql 22 (.slice none 0 c) (.slice none 0 0)).run Try.prog W = .ok (.bool true) W := fun W => Lib.run_eql_slice_nil_nil W 0 c Try.underlying22
    go_enter Try.func10, Try.ntmps10
    go_wp2_with fail
    go_ret
    exact ⟨_, rfl, Own.nil, by go_grown⟩
  | some ad =>
    have hsome : ∀ W : World, (binOp .eql 22 (.slice (some ad) l.length c) (.slice none 0 0)).run Try.prog W = .ok (.bool false) W := fun W => Lib.run_eql_slice_some_nil W ad l.length c Try.underlying22
    have hcells : ∀ (w' : World), Below w.heap.size w w' → ∀ (j : Nat) u, (l.flatMap ivlC)[j]? = some u → w'.cell? (ad.add j) = some u := fun w' hb j u hu => by
      cases l with
      | nil => simp at hu
      | cons y l =>
        obtain ⟨b, off, e, _⟩ := hI.get (k := 0) (x := y) rfl
        obtain rfl : ad = ⟨b, off, none⟩ := by simpa using e
        rw [Go.WideShapes.add_plain]
        exact cell_keep hb (hI.flat j u hu)
    clear hI
    go_enter Try.func10, Try.ntmps10
    go_wp2_with (at_builtin; refine wpList_append_own_at _ rfl (.tmp 5) (.tmp 6) 22 rfl w.heap.size 29 i0 _ 2 16 Try.underlying22 hi hz0 hz1 hz2 rfl (by decide) _ 0 [] rfl (Own.lit (enc := ivlC) (l := []) rfl (Nat.le_refl _) rfl rfl rfl (by decide)) ad l.length c (l.flatMap ivlC) rfl (flat_length ivlC_len l) (hcells _ (by go_grown)) (ivls_one l) (by unfold maxLen; omega) (by omega) (by simp) ?_; intro v' w6 h2 h3 _ _; have hown : Own ivlC 2 w6 w.heap.size 29 v' l := (by simpa [Own] using h2))
    have hbb : Below w.heap.size w w6 := by
      refine ((Below.refl w.heap.size w).alloc (Nat.le_refl _) (Obj.cells #[] 29)).grown h3 (by simp) ?_
      intro k hk
      have e : some w.heap.size = some k := hk
      cases e
      exact Nat.le_refl _
    go_ret
    exact ⟨_, rfl, hown, hbb⟩

/-! ### what is deleted -/
/-- While elements are deleted: what is kept stands ahead, what is not read yet stands where it stood. -/
structure DelInv (p : IvlD → Bool) (l m : List IvlD) (j i : Nat) : Prop where
  len : m.length = l.length
  lt : i < j
  ahead : m.take i = (l.take j).filter fun x => !p x
  rest : ∀ k x, j ≤ k → l[k]? = some x → m[k]? = some x
section
variable {p : IvlD → Bool} {l m : List IvlD} {i j k : Nat} {x : IvlD}
theorem filter_none (h : ∀ y, y ∈ l → p y = false) : (l.filter fun x => !p x) = l := List.filter_eq_self.2 fun y hy => by simp [h y hy]
theorem DelInv.start (hx : l[k]? = some x) (hp : p x = true) (hn : ∀ y, y ∈ l.take k → p y = false) : DelInv p l l (k + 1) k :=
  ⟨rfl, by omega, by rw [take_succ_ hx, List.filter_append, filter_none hn]; simp [hp], fun _ _ _ h => h⟩
theorem DelInv.skip (h : DelInv p l m j i) (hx : l[j]? = some x) (hp : p x = true) : DelInv p l m (j + 1) i :=
  ⟨h.len, by have := h.lt; omega, by rw [take_succ_ hx, List.filter_append, h.ahead]; simp [hp], fun k y hk => h.rest k y (by omega)⟩
theorem DelInv.keep (h : DelInv p l m j i) (hx : l[j]? = some x) (hp : p x = false) : DelInv p l (m.set i x) (j + 1) (i + 1) := by
  have hjl := lt_of_get hx
  have hlt := h.lt
  refine ⟨by rw [List.length_set, h.len], by omega, ?_, fun k y hk hy => ?_⟩
  · rw [take_succ_ hx, List.filter_append, ← h.ahead]
    have e : (m.set i x)[i]? = some x := List.getElem?_set_self (by rw [h.len]; omega)
    rw [take_succ_ e, List.take_set_of_le (Nat.le_refl _)]
    simp [hp]
  · rw [List.getElem?_set_ne (by omega)]
    exact h.rest k y (by omega) hy
theorem DelInv.fin (h : DelInv p l m j i) (hj : l.length ≤ j) : m.take i = l.filter fun x => !p x := by rw [h.ahead, List.take_of_length_le hj]
theorem DelInv.count (h : DelInv p l m j i) (hj : l.length ≤ j) (hl : i < l.length) : (l.filter fun x => !p x).length = i := by rw [← h.fin hj, List.length_take, h.len]; omega
end
end Go.Proofs.Ytdpibehpmghghaa
