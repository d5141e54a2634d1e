/- Several texts in one: AppAll, AppList, Row. -/
import Derived.Deep.OwnRows
import Derived.Laws.OwnMore
import Derived.Test.YtdpibehpmghghaaProg
import Derived.Test.YtdpibehpmghghaaBddaaa0efefd
import Derived.Test.YtdpibehpmghghaaBd20f32e1654
import Derived.Test.YtdpibehpmghghaaBd9264425ae5
import Derived.Test.YtdpibehpmghghaaBd34a084e1f0
/- An append that keeps a condition on all cells of the row, those that are not told too. -/
namespace Go.Proofs.Ytdpibehpmghghaa
open Go.RowKit

/-- All cells of the block that a slice owns. -/
def AllC (Z : Value → Prop) (w : World) (v : Value) : Prop := ∀ g, v.ownBlock = some g → ∀ cs t fr, w.heap[g]? = some (.cells cs t fr) → ∀ (i : Nat) u, cs[i]? = some u → Z u
theorem zeroCells_all {Z : Value → Prop} {z : Array Value} (hz : ∀ (i : Nat) u, z[i]? = some u → Z u) (hs : 0 < z.size) (n : Nat) : ∀ (i : Nat) u, (Builtin.zeroCells z n)[i]? = some u → Z u := fun i u h => by
  unfold Builtin.zeroCells at h
  rw [Array.getElem?_map] at h
  obtain ⟨k, hk, rfl⟩ := Option.map_eq_some_iff.1 h
  have hlt : k % z.size < z.size := Nat.mod_lt _ hs
  refine hz (k % z.size) _ ?_
  rw [Array.getElem?_eq_getElem hlt, getElem!_pos z (k % z.size) hlt]
theorem get_app {Z : Value → Prop} {a b : Array Value} (ha : ∀ (i : Nat) u, a[i]? = some u → Z u) (hb : ∀ (i : Nat) u, b[i]? = some u → Z u) : ∀ (i : Nat) u, (a ++ b)[i]? = some u → Z u := fun i u h => by
  rw [Array.getElem?_append] at h
  split at h
  · exact ha _ _ h
  · exact hb _ _ h
theorem run_append_all {Z : Value → Prop} {P : Program} (w : World) (base : Nat) (t ty e : TypeId) (i : TypeInfo) (z : Value) (size bytes : Nat) (ht : P.underlying t = some (.slice e)) (hi : P.info? e = some i) (hz : i.zero = some z)
    (hsize : i.size = size) (hby : i.bytes = bytes) (hzs : z.cells.size = size) (hsz : 0 < size)
    (v : Value) (n : Nat) (xs : List Value) (hown : w.ownsRow base e size v n xs)
    (a : Addr) (m c : Nat) (news : List Value) (hl : news.length = m * size) (hnews : ∀ j u, news[j]? = some u → w.cell? (a.add j) = some u) (h1 : ∀ u ∈ news, u.oneCell' = true)
    (h63 : n + m ≤ maxLen) (hbytes : (n + m) * bytes ≤ 140737488355328) (hbase : base ≤ w.heap.size)
    (hZ : AllC Z w v) (hZz : ∀ (i : Nat) u, z.cells[i]? = some u → Z u) (hZn : ∀ u ∈ news, Z u) (hZx : ∀ u ∈ xs, Z u) :
    ∃ v' w', (Builtin.append_ #[t, t] ty #[v, .slice (some a) m c]).run P w = .ok v' w' ∧ w'.ownsRow base e size v' (n + m) (xs ++ news) ∧ w.grownBy w' v.ownBlock ∧ AllC Z w' v' := by
  obtain ⟨v', w', hr, h2, h3, h4⟩ := run_append_own (P := P) w base t ty e i z size bytes ht hi hz hsize hby hzs hsz v n xs hown a m c news hl hnews h1 h63 hbytes hbase
  refine ⟨v', w', hr, h2, h3, ?_⟩
  subst hsize
  subst hby
  have hsmall : n + m ≤ 9223372036854775807 := by simp only [maxLen] at h63; omega
  have hZa : ∀ (i : Nat) u, news.toArray[i]? = some u → Z u := fun i u hu => hZn u (by simp at hu; exact List.mem_of_getElem? hu)
  have hZxa : ∀ (i : Nat) u, xs.toArray[i]? = some u → Z u := fun i u hu => hZx u (by simp at hu; exact List.mem_of_getElem? hu)
  have hZ0 : ∀ n, ∀ (i : Nat) u, (Builtin.zeroCells z.cells n)[i]? = some u → Z u := zeroCells_all hZz (by rw [hzs]; exact hsz)
  have newC : ∀ (cells : Array Value) (k c2 : Nat) (b : Nat) (hb : b = w.heap.size), (∀ (i : Nat) u, cells[i]? = some u → Z u) → AllC Z (w.drew.alloc (.cells cells e)) (.slice (some ⟨b, 0, none⟩) k c2) := fun cells k c2 b hb hc g hg cs t2 fr hh => by
    simp only [Value.ownBlock, Option.some.injEq] at hg
    subst hg hb
    rw [show (w.drew.alloc (.cells cells e)).heap[w.heap.size]? = some (.cells cells e (0, 0)) from heap_alloc_new w.drew _] at hh
    cases hh
    exact hc
  rcases hown.2 with ⟨rfl, rfl⟩ | ⟨g, cap, cur, rfl, hbg, hg, hnc, hcm, hcs, htake⟩
  · by_cases hm : m = 0
    · have e0 := h4.2 ⟨rfl, hm⟩
      subst e0
      intro g hg
      simp [Value.ownBlock] at hg
    · have hr2 := run_append_nil (P := P) w t ty e i z ht hi hz a m c news hl hnews (by omega) (by omega) (by have hb := hbytes; simp only [Nat.zero_add] at hb; omega)
      rw [hr] at hr2
      cases hr2
      exact newC _ _ _ _ rfl (get_app hZa (hZ0 _))
  · by_cases hroom : n + m ≤ cap
    · have hfit : n * i.size + news.length ≤ cur.size := by rw [hl, hcs, ← Nat.add_mul]; exact Nat.mul_le_mul_right _ hroom
      have hr2 := run_append_room (P := P) w t ty e i ht hi g n cap cur hg a m c news hl hnews h1 hroom hfit
      rw [hr] at hr2
      cases hr2
      intro g2 hg2 cs t2 fr hh
      simp only [Value.ownBlock, Option.some.injEq] at hg2
      subst hg2
      rw [setRow_heap w g cur _ e _ hg] at hh
      cases hh
      have hcur : ∀ u, u ∈ cur.toList → Z u := fun u hu => by
        obtain ⟨k, hk⟩ := List.getElem?_of_mem hu
        exact hZ g rfl cur e (0, 0) hg k u (by simpa using hk)
      intro k u hu
      have hu := List.mem_of_getElem? (show (cur.toList.take (n * i.size) ++ news ++ cur.toList.drop (n * i.size + news.length))[k]? = some u by simpa using hu)
      rcases List.mem_append.1 hu with hu | hu
      · rcases List.mem_append.1 hu with hu | hu
        · exact hcur u (List.mem_of_mem_take hu)
        · exact hZn u hu
      · exact hcur u (List.mem_of_mem_drop hu)
    · have holds : ∀ j u, xs[j]? = some u → w.cell? ((⟨g, 0, none⟩ : Addr).add j) = some u := hown.cells (g := g) rfl
      have hr2 := run_append_grow (P := P) w t ty e i z ht hi hz ⟨g, 0, none⟩ n cap xs hown.1 holds a m c news hl hnews (by omega) (by omega) (growslice_fits (by omega) hbytes)
      rw [hr] at hr2
      cases hr2
      exact newC _ _ _ _ rfl (get_app (get_app hZxa hZa) (hZ0 _))
/-- An append of one element to an owned list: all cells of the row are as before, or of the element, or nought. -/
theorem wpList_append_all {Z : Value → Prop} {P : Program} {ops : Array Oper} {rest : List Oper} {o : Oper} {a : Act} {Q : Exit → Act → World → Prop} {w0 : World} {α : Type} {enc : α → List Value} (hgd : o.guard = none) (s x : Operand) (t : TypeId)
    (ho : o.op = .call { callee := .builtin .append, args := #[s, x], argTypes := #[t, t] })
    (base : Nat) (e : TypeId) (i : TypeInfo) (z : Value) (size bytes : Nat) (ht : P.underlying t = some (.slice e)) (hi : P.info? e = some i) (hz : i.zero = some z)
    (hsize : i.size = size) (hby : i.bytes = bytes) (hzs : z.cells.size = size) (hsz : 0 < size)
    (v : Value) (l : List α) (y : α) (hs : a.eval s = v) (hown : Own enc size w0 base e v l) (cs : Array Value) (hcy : cs.toList = enc y) (k : Nat) (hk : k = w0.heap.size) (hx : a.eval x = .slice (some ⟨k, 0, none⟩) 1 1) (hcs : cs.size = size)
    (h1 : ∀ u ∈ cs.toList, u.oneCell' = true) (h63 : l.length + 1 ≤ 1000000) (hby2 : bytes ≤ 1000) (hbase : base ≤ w0.heap.size)
    (hZ : AllC Z w0 v) (hZz : ∀ (i : Nat) u, z.cells[i]? = some u → Z u) (hZn : ∀ u ∈ cs.toList, Z u) (hZx : ∀ u ∈ l.flatMap enc, Z u)
    (h : ∀ v' w', Own enc size w' base e v' (l ++ [y]) → Below base w0 w' → (∀ b t' cs', Blk w0 b t' cs' → t' ≠ e → Blk w' b t' cs') → AllC Z w' v' → wpList P ops Q rest (a.put o.dst v') w') : wpList P ops Q (o :: rest) a (w0.alloc (.cells cs e)) := by
  subst hk
  have hb2 : (l.length + 1) * bytes ≤ 140737488355328 := Nat.le_trans (Nat.mul_le_mul h63 hby2) (by decide)
  refine wpList_plain hgd fun K hK => ?_
  have hZ1 : AllC Z (w0.alloc (.cells cs e)) v := fun g hg cs2 t2 fr hh => by
    have hlt := (World.ownsRow.lt hown g hg).2
    rw [Below.heap_alloc w0 _ g hlt] at hh
    exact hZ g hg cs2 t2 fr hh
  obtain ⟨v', w', hr, h2, h3, h4⟩ := run_append_all (Z := Z) (P := P) (w0.alloc (.cells cs e)) base t o.type e i z size bytes ht hi hz hsize hby hzs hsz v l.length (l.flatMap enc) (World.ownsRow.alloc hown _) ⟨w0.heap.size, 0, none⟩ 1 1 cs.toList (by simp [hcs])
    (fun j u hu => by
      rw [Go.WideShapes.add_plain, cell_of_row _ _ _ cs e (0, 0) (heap_alloc_new w0 _)]
      simpa using hu) h1 (by unfold maxLen; omega) hb2 (by simp; omega) hZ1 hZz hZn hZx
  unfold Oper.wp execOp
  simp only [ho, resolve, invoke, builtin, Sem.run_bind, Sem.run_pure, Result.andThen_ok, List.map_toArray, List.map_cons, List.map_nil, hs, hx, hr]
  refine hK _ _ (h v' w' ?_ ?_ (fun b t' cs' hB ht' => (hB.alloc _).grown h3 (hown.other hB ht')) h4)
  · show w'.ownsRow base e size v' (l ++ [y]).length ((l ++ [y]).flatMap enc)
    rw [List.flatMap_append, List.length_append]
    simpa [hcy] using h2
  · have hb : Below base w0 (w0.alloc (.cells cs e)) := (Below.refl _ _).alloc hbase _
    exact hb.grown h3 (by simp; omega) fun k hk => (World.ownsRow.lt hown k hk).1
end Go.Proofs.Ytdpibehpmghghaa
/- An append of one owned list to another. -/
namespace Go.Proofs.Ytdpibehpmghghaa
open Go.RowKit

theorem wpList_append_list {P : Program} {ops : Array Oper} {rest : List Oper} {o : Oper} {a : Act} {Q : Exit → Act → World → Prop} {w : World} {α : Type} {enc : α → List Value} (hgd : o.guard = none) (s x : Operand) (t : TypeId)
    (ho : o.op = .call { callee := .builtin .append, args := #[s, x], argTypes := #[t, t] })
    (base : Nat) (e : TypeId) (i : TypeInfo) (z : Value) (size bytes : Nat) (ht : P.underlying t = some (.slice e)) (hi : P.info? e = some i) (hz : i.zero = some z)
    (hsize : i.size = size) (hby : i.bytes = bytes) (hzs : z.cells.size = size) (hsz : 0 < size)
    (v : Value) (l : List α) (hs : a.eval s = v) (hown : Own enc size w base e v l) (vx : Value) (ys : List α) (base' : Nat) (hx : a.eval x = vx) (hox : Own enc size w base' e vx ys)
    (h1 : ∀ y, y ∈ ys → ∀ u ∈ enc y, u.oneCell' = true) (h63 : l.length + ys.length ≤ 1000000) (hby2 : bytes ≤ 1000) (hbase : base ≤ w.heap.size)
    (h : ∀ v' w', Own enc size w' base e v' (l ++ ys) → Below base w w' → (∀ b t' cs', Blk w b t' cs' → t' ≠ e → Blk w' b t' cs') → wpList P ops Q rest (a.put o.dst v') w') : wpList P ops Q (o :: rest) a w := by
  have hb2 : (l.length + ys.length) * bytes ≤ 140737488355328 := Nat.le_trans (Nat.mul_le_mul h63 hby2) (by decide)
  rcases hox.2 with ⟨rfl, h0⟩ | ⟨g, cap, cur, rfl, hg, hh, hnc, hcm, hcs, htake⟩
  · obtain rfl : ys = [] := List.eq_nil_of_length_eq_zero h0
    obtain ⟨A, c, rfl⟩ := hown.form
    refine wpList_append_nothing hgd s x t ho e i ht hi A l.length c 0 hs hx hown.room.1 (h _ w ?_ (Below.refl _ _) fun _ _ _ hB _ => hB)
    simpa using hown
  · refine wpList_append_own _ hgd s x t ho base e i z size bytes ht hi hz hsize hby hzs hsz v l.length (l.flatMap enc) hs hown ⟨g, 0, none⟩ ys.length cap (ys.flatMap enc) hx hox.1
      (fun j u hu => ?_) (fun u hu => ?_) (by unfold maxLen; omega) hb2 hbase fun v' w' h2 h3 _ => h v' w' ?_ ?_ fun b t' cs' hB ht' => hB.grown h3 (hown.other hB ht')
    · exact World.ownsRow.cells hox (g := g) rfl j u hu
    · obtain ⟨y, hy, hu⟩ := List.mem_flatMap.1 hu
      exact h1 y hy u hu
    · show w'.ownsRow base e size v' (l ++ ys).length ((l ++ ys).flatMap enc)
      rw [List.flatMap_append, List.length_append]
      exact h2
    · exact (Below.refl base w).grown h3 hbase fun k hk => (World.ownsRow.lt hown k hk).1
end Go.Proofs.Ytdpibehpmghghaa
/- Blocks that hold a list of numbers, or of bools: how they are made, read, written. -/
namespace Go.Proofs.Ytdpibehpmghghaa
open Go.RowKit

def IRow (w : World) (b : Nat) (l : List Int) : Prop := Blk w b 3 (l.map iV).toArray
def BRow (w : World) (b : Nat) (l : List Bool) : Prop := Blk w b 4 (l.map Value.bool).toArray
theorem made_is (z : Value) (n : Nat) : madeCells #[z] n = (List.replicate n z).toArray := by
  apply Array.toList_inj.1
  rw [toList_madeCells_one]
theorem IRow.made {w : World} {b n : Nat} (hb : b = w.heap.size) : IRow (w.alloc (.cells (madeCells #[.int .i64 0] n) 3)) b (List.replicate n 0) := by
  unfold IRow
  rw [made_is]
  simpa using Blk.new_ hb
theorem BRow.made {w : World} {b n : Nat} (hb : b = w.heap.size) : BRow (w.alloc (.cells (madeCells #[.bool false] n) 4)) b (List.replicate n false) := by
  unfold BRow
  rw [made_is]
  simpa using Blk.new_ hb
section
variable {w w' : World} {b : Nat} {l : List Int} {r : List Bool}
theorem IRow.cell (h : IRow w b l) {k : Nat} (hk : k < l.length) : w.cell? ⟨b, k, none⟩ = some (.int .i64 (gi l k)) := by
  rw [Blk.cell h]
  simp [gi_get hk]
theorem BRow.cell (h : BRow w b r) {k : Nat} {x : Bool} (hk : r[k]? = some x) : w.cell? ⟨b, k, none⟩ = some (.bool x) := by
  rw [Blk.cell h]
  simp [hk]
theorem IRow.set (h : IRow w b l) (k : Nat) (x : Int) : IRow (w.setCell ⟨b, k, none⟩ (.int .i64 x)) b (l.set k x) := by
  have := Blk.set_ h k (.int .i64 x)
  unfold IRow
  simpa [List.map_set] using this
theorem BRow.set (h : BRow w b r) (k : Nat) (x : Bool) : BRow (w.setCell ⟨b, k, none⟩ (.bool x)) b (r.set k x) := by
  have := Blk.set_ h k (.bool x)
  unfold BRow
  simpa [List.map_set] using this
theorem IRow.slAt (h : IRow w b l) (hi : ∀ k, k < l.length → I64 (gi l k)) : SlAt RInt 1 w (some ⟨b, 0, none⟩) l := by
  refine ⟨b, 0, fun i x hx => ⟨rfl, Blk.lt h, ?_, ?_⟩⟩
  · have hl := lt_of_get hx
    have := IRow.cell h hl
    unfold cellIs
    rw [gi_of hx] at this
    simpa using this
  · have hl := lt_of_get hx
    have := hi i hl
    rwa [gi_of hx] at this
end
theorem info_int : (Try.prog.info? 3).map (fun i => (i.zero, i.size, i.bytes)) = some (some (.int .i64 0), 1, 8) := by kernel_rfl
theorem info_bool : (Try.prog.info? 4).map (fun i => (i.zero, i.size, i.bytes)) = some (some (.bool false), 1, 1) := by kernel_rfl
theorem make_ints (n : Nat) (h : n ≤ 1000000) (w : World) : (Instr.makeSlice 66 (.int .i64 (n : Int)) (.int .i64 (n : Int))).run Try.prog w = .ok (.slice (some ⟨w.heap.size, 0, none⟩) n n) (w.alloc (.cells (madeCells #[.int .i64 0] n) 3)) :=
  run_make_row' (P := Try.prog) 66 3 (.int .i64 0) 8 Try.underlying66 info_int rfl .i64 .i64 n (by omega) (by omega) w
end Go.Proofs.Ytdpibehpmghghaa
