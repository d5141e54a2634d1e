/- Several texts in one: AppAll, AppList, Row, Check, BspCheck, Rest, Step. -/
import Derived.Deep.OwnRows
import Derived.Laws.OwnMore
import Derived.Test.YtjcimdpldlamfaaGreatDoorProg
import Derived.Test.YtjcimdpldlamfaaGreatDoorBd2f7b3eaff4
import Derived.Test.YtjcimdpldlamfaaGreatDoorBdda32f21b61
import Derived.Test.YtjcimdpldlamfaaGreatDoorBd0848e2b72a
import Derived.Test.YtjcimdpldlamfaaGreatDoorBd2df7774ef4
/- An append that keeps a condition on all cells of the row, those that are not told too. -/
namespace Go.Proofs.YtjcimdpldlamfaaGreatDoor
open Go.RowKit

/-- All cells of the block that a slice owns. -/
def AllC (Z : Value → Prop) (w : World) (v : Value) : Prop := ∀ g, v.ownBlock = some g → ∀ cs t fr, w.heap[g]? = some (.cells cs t fr) → ∀ (i : Nat) u, cs[i]? = some u → Z u
theorem zeroCells_all {Z : Value → Prop} {z : Array Value} (hz : ∀ (i : Nat) u, z[i]? = some u → Z u) (hs : 0 < z.size) (n : Nat) : ∀ (i : Nat) u, (Builtin.zeroCells z n)[i]? = some u → Z u := fun i u h => by
 unfold Builtin.zeroCells at h
 rw [Array.getElem?_map] at h
 obtain ⟨k, hk, rfl⟩ := Option.map_eq_some_iff.1 h
 have hlt : k % z.size < z.size := Nat.mod_lt _ hs
 refine hz (k % z.size) _ ?_
 rw [Array.getElem?_eq_getElem hlt, getElem!_pos z (k % z.size) hlt]
theorem get_app {Z : Value → Prop} {a b : Array Value} (ha : ∀ (i : Nat) u, a[i]? = some u → Z u) (hb : ∀ (i : Nat) u, b[i]? = some u → Z u) : ∀ (i : Nat) u, (a ++ b)[i]? = some u → Z u := fun i u h => by
 rw [Array.getElem?_append] at h
 split at h
 ·exact ha _ _ h
 ·exact hb _ _ h
theorem run_append_all {Z : Value → Prop} {P : Program} (w : World) (base : Nat) (t ty e : TypeId) (i : TypeInfo) (z : Value) (size bytes : Nat) (ht : P.underlying t = some (.slice e)) (hi : P.info? e = some i) (hz : i.zero = some z)
  (hsize : i.size = size) (hby : i.bytes = bytes) (hzs : z.cells.size = size) (hsz : 0 < size)
  (v : Value) (n : Nat) (xs : List Value) (hown : w.ownsRow base e size v n xs)
  (a : Addr) (m c : Nat) (news : List Value) (hl : news.length = m * size) (hnews : ∀ j u, news[j]? = some u → w.cell? (a.add j) = some u) (h1 : ∀ u ∈ news, u.oneCell' = true)
  (h63 : n + m ≤ maxLen) (hbytes : (n + m) * bytes ≤ 140737488355328) (hbase : base ≤ w.heap.size)
  (hZ : AllC Z w v) (hZz : ∀ (i : Nat) u, z.cells[i]? = some u → Z u) (hZn : ∀ u ∈ news, Z u) (hZx : ∀ u ∈ xs, Z u) :
  ∃ v' w', (Builtin.append_ #[t, t] ty #[v, .slice (some a) m c]).run P w = .ok v' w' ∧ w'.ownsRow base e size v' (n + m) (xs ++ news) ∧ w.grownBy w' v.ownBlock ∧ AllC Z w' v' := by
 obtain ⟨v', w', hr, h2, h3, h4⟩ := run_append_own (P := P) w base t ty e i z size bytes ht hi hz hsize hby hzs hsz v n xs hown a m c news hl hnews h1 h63 hbytes hbase
 refine ⟨v', w', hr, h2, h3, ?_⟩
 subst hsize
 subst hby
 have hsmall : n + m ≤ 9223372036854775807 := by simp only [maxLen] at h63; omega
 have hZa : ∀ (i : Nat) u, news.toArray[i]? = some u → Z u := fun i u hu => hZn u (by simp at hu; exact List.mem_of_getElem? hu)
 have hZxa : ∀ (i : Nat) u, xs.toArray[i]? = some u → Z u := fun i u hu => hZx u (by simp at hu; exact List.mem_of_getElem? hu)
 have hZ0 : ∀ n, ∀ (i : Nat) u, (Builtin.zeroCells z.cells n)[i]? = some u → Z u := zeroCells_all hZz (by rw [hzs]; exact hsz)
 have newC : ∀ (cells : Array Value) (k c2 : Nat) (b : Nat) (hb : b = w.heap.size), (∀ (i : Nat) u, cells[i]? = some u → Z u) → AllC Z (w.drew.alloc (.cells cells e)) (.slice (some ⟨b, 0, none⟩) k c2) := fun cells k c2 b hb hc g hg cs t2 fr hh => by
  simp only [Value.ownBlock, Option.some.injEq] at hg
  subst hg hb
  rw [show (w.drew.alloc (.cells cells e)).heap[w.heap.size]? = some (.cells cells e (0, 0)) from heap_alloc_new w.drew _] at hh
  cases hh
  exact hc
 rcases hown.2 with ⟨rfl, rfl⟩ | ⟨g, cap, cur, rfl, hbg, hg, hnc, hcm, hcs, htake⟩
 ·by_cases hm : m = 0
  ·have e0 := h4.2 ⟨rfl, hm⟩
   subst e0
   intro g hg
   simp [Value.ownBlock] at hg
  ·have hr2 := run_append_nil (P := P) w t ty e i z ht hi hz a m c news hl hnews (by omega) (by omega) (by have hb := hbytes; simp only [Nat.zero_add] at hb; omega)
   rw [hr] at hr2
   cases hr2
   exact newC _ _ _ _ rfl (get_app hZa (hZ0 _))
 ·by_cases hroom : n + m ≤ cap
  ·have hfit : n * i.size + news.length ≤ cur.size := by rw [hl, hcs, ← Nat.add_mul]; exact Nat.mul_le_mul_right _ hroom
   have hr2 := run_append_room (P := P) w t ty e i ht hi g n cap cur hg a m c news hl hnews h1 hroom hfit
   rw [hr] at hr2
   cases hr2
   intro g2 hg2 cs t2 fr hh
   simp only [Value.ownBlock, Option.some.injEq] at hg2
   subst hg2
   rw [setRow_heap w g cur _ e _ hg] at hh
   cases hh
   have hcur : ∀ u, u ∈ cur.toList → Z u := fun u hu => by
    obtain ⟨k, hk⟩ := List.getElem?_of_mem hu
    exact hZ g rfl cur e (0, 0) hg k u (by simpa using hk)
   intro k u hu
   have hu := List.mem_of_getElem? (show (cur.toList.take (n * i.size) ++ news ++ cur.toList.drop (n * i.size + news.length))[k]? = some u by simpa using hu)
   rcases List.mem_append.1 hu with hu | hu
   ·rcases List.mem_append.1 hu with hu | hu
    ·exact hcur u (List.mem_of_mem_take hu)
    ·exact hZn u hu
   ·exact hcur u (List.mem_of_mem_drop hu)
  ·have holds : ∀ j u, xs[j]? = some u → w.cell? ((⟨g, 0, none⟩ : Addr).add j) = some u := hown.cells (g := g) rfl
   have hr2 := run_append_grow (P := P) w t ty e i z ht hi hz ⟨g, 0, none⟩ n cap xs hown.1 holds a m c news hl hnews (by omega) (by omega) (growslice_fits (by omega) hbytes)
   rw [hr] at hr2
   cases hr2
   exact newC _ _ _ _ rfl (get_app (get_app hZxa hZa) (hZ0 _))
/-- An append of one element to an owned list: all cells of the row are as before, or of the element, or nought. -/
theorem wpList_append_all {Z : Value → Prop} {P : Program} {ops : Array Oper} {rest : List Oper} {o : Oper} {a : Act} {Q : Exit → Act → World → Prop} {w0 : World} {α : Type} {enc : α → List Value} (hgd : o.guard = none) (s x : Operand) (t : TypeId)
  (ho : o.op = .call { callee := .builtin .append, args := #[s, x], argTypes := #[t, t] })
  (base : Nat) (e : TypeId) (i : TypeInfo) (z : Value) (size bytes : Nat) (ht : P.underlying t = some (.slice e)) (hi : P.info? e = some i) (hz : i.zero = some z)
  (hsize : i.size = size) (hby : i.bytes = bytes) (hzs : z.cells.size = size) (hsz : 0 < size)
  (v : Value) (l : List α) (y : α) (hs : a.eval s = v) (hown : Own enc size w0 base e v l) (cs : Array Value) (hcy : cs.toList = enc y) (k : Nat) (hk : k = w0.heap.size) (hx : a.eval x = .slice (some ⟨k, 0, none⟩) 1 1) (hcs : cs.size = size)
  (h1 : ∀ u ∈ cs.toList, u.oneCell' = true) (h63 : l.length + 1 ≤ 1000000) (hby2 : bytes ≤ 1000) (hbase : base ≤ w0.heap.size)
  (hZ : AllC Z w0 v) (hZz : ∀ (i : Nat) u, z.cells[i]? = some u → Z u) (hZn : ∀ u ∈ cs.toList, Z u) (hZx : ∀ u ∈ l.flatMap enc, Z u)
  (h : ∀ v' w', Own enc size w' base e v' (l ++ [y]) → Below base w0 w' → (∀ b t' cs', Blk w0 b t' cs' → t' ≠ e → Blk w' b t' cs') → AllC Z w' v' → wpList P ops Q rest (a.put o.dst v') w') : wpList P ops Q (o :: rest) a (w0.alloc (.cells cs e)) := by
 subst hk
 have hb2 : (l.length + 1) * bytes ≤ 140737488355328 := Nat.le_trans (Nat.mul_le_mul h63 hby2) (by decide)
 refine wpList_plain hgd fun K hK => ?_
 have hZ1 : AllC Z (w0.alloc (.cells cs e)) v := fun g hg cs2 t2 fr hh => by
  have hlt := (World.ownsRow.lt hown g hg).2
  rw [Below.heap_alloc w0 _ g hlt] at hh
  exact hZ g hg cs2 t2 fr hh
 obtain ⟨v', w', hr, h2, h3, h4⟩ := run_append_all (Z := Z) (P := P) (w0.alloc (.cells cs e)) base t o.type e i z size bytes ht hi hz hsize hby hzs hsz v l.length (l.flatMap enc) (World.ownsRow.alloc hown _) ⟨w0.heap.size, 0, none⟩ 1 1 cs.toList (by simp [hcs])
  (fun j u hu => by
   rw [Go.WideShapes.add_plain, cell_of_row _ _ _ cs e (0, 0) (heap_alloc_new w0 _)]
   simpa using hu) h1 (by unfold maxLen; omega) hb2 (by simp; omega) hZ1 hZz hZn hZx
 unfold Oper.wp execOp
 simp only [ho, resolve, invoke, builtin, Sem.run_bind, Sem.run_pure, Result.andThen_ok, List.map_toArray, List.map_cons, List.map_nil, hs, hx, hr]
 refine hK _ _ (h v' w' ?_ ?_ (fun b t' cs' hB ht' => (hB.alloc _).grown h3 (hown.other hB ht')) h4)
 ·show w'.ownsRow base e size v' (l ++ [y]).length ((l ++ [y]).flatMap enc)
  rw [List.flatMap_append, List.length_append]
  simpa [hcy] using h2
 ·have hb : Below base w0 (w0.alloc (.cells cs e)) := (Below.refl _ _).alloc hbase _
  exact hb.grown h3 (by simp; omega) fun k hk => (World.ownsRow.lt hown k hk).1
end Go.Proofs.YtjcimdpldlamfaaGreatDoor
/- An append of one owned list to another. -/
namespace Go.Proofs.YtjcimdpldlamfaaGreatDoor
open Go.RowKit

theorem wpList_append_list {P : Program} {ops : Array Oper} {rest : List Oper} {o : Oper} {a : Act} {Q : Exit → Act → World → Prop} {w : World} {α : Type} {enc : α → List Value} (hgd : o.guard = none) (s x : Operand) (t : TypeId)
  (ho : o.op = .call { callee := .builtin .append, args := #[s, x], argTypes := #[t, t] })
  (base : Nat) (e : TypeId) (i : TypeInfo) (z : Value) (size bytes : Nat) (ht : P.underlying t = some (.slice e)) (hi : P.info? e = some i) (hz : i.zero = some z)
  (hsize : i.size = size) (hby : i.bytes = bytes) (hzs : z.cells.size = size) (hsz : 0 < size)
  (v : Value) (l : List α) (hs : a.eval s = v) (hown : Own enc size w base e v l) (vx : Value) (ys : List α) (base' : Nat) (hx : a.eval x = vx) (hox : Own enc size w base' e vx ys)
  (h1 : ∀ y, y ∈ ys → ∀ u ∈ enc y, u.oneCell' = true) (h63 : l.length + ys.length ≤ 1000000) (hby2 : bytes ≤ 1000) (hbase : base ≤ w.heap.size)
  (h : ∀ v' w', Own enc size w' base e v' (l ++ ys) → Below base w w' → (∀ b t' cs', Blk w b t' cs' → t' ≠ e → Blk w' b t' cs') → wpList P ops Q rest (a.put o.dst v') w') : wpList P ops Q (o :: rest) a w := by
 have hb2 : (l.length + ys.length) * bytes ≤ 140737488355328 := Nat.le_trans (Nat.mul_le_mul h63 hby2) (by decide)
 rcases hox.2 with ⟨rfl, h0⟩ | ⟨g, cap, cur, rfl, hg, hh, hnc, hcm, hcs, htake⟩
 ·obtain rfl : ys = [] := List.eq_nil_of_length_eq_zero h0
  obtain ⟨A, c, rfl⟩ := hown.form
  refine wpList_append_nothing hgd s x t ho e i ht hi A l.length c 0 hs hx hown.room.1 (h _ w ?_ (Below.refl _ _) fun _ _ _ hB _ => hB)
  simpa using hown
 ·refine wpList_append_own _ hgd s x t ho base e i z size bytes ht hi hz hsize hby hzs hsz v l.length (l.flatMap enc) hs hown ⟨g, 0, none⟩ ys.length cap (ys.flatMap enc) hx hox.1
   (fun j u hu => ?_) (fun u hu => ?_) (by unfold maxLen; omega) hb2 hbase fun v' w' h2 h3 _ => h v' w' ?_ ?_ fun b t' cs' hB ht' => hB.grown h3 (hown.other hB ht')
  ·exact World.ownsRow.cells hox (g := g) rfl j u hu
  ·obtain ⟨y, hy, hu⟩ := List.mem_flatMap.1 hu
   exact h1 y hy u hu
  ·show w'.ownsRow base e size v' (l ++ ys).length ((l ++ ys).flatMap enc)
   rw [List.flatMap_append, List.length_append]
   exact h2
  ·exact (Below.refl base w).grown h3 hbase fun k hk => (World.ownsRow.lt hown k hk).1
end Go.Proofs.YtjcimdpldlamfaaGreatDoor
/- Blocks that hold a list of numbers, or of bools: how they are made, read, written. -/
namespace Go.Proofs.YtjcimdpldlamfaaGreatDoor
open Go.RowKit

def IRow (w : World) (b : Nat) (l : List Int) : Prop := Blk w b 3 (l.map iV).toArray
def BRow (w : World) (b : Nat) (l : List Bool) : Prop := Blk w b 4 (l.map Value.bool).toArray
theorem made_is (z : Value) (n : Nat) : madeCells #[z] n = (List.replicate n z).toArray := by
 apply Array.toList_inj.1
 rw [toList_madeCells_one]
theorem IRow.made {w : World} {b n : Nat} (hb : b = w.heap.size) : IRow (w.alloc (.cells (madeCells #[.int .i64 0] n) 3)) b (List.replicate n 0) := by
 unfold IRow
 rw [made_is]
 simpa using Blk.new_ hb
theorem BRow.made {w : World} {b n : Nat} (hb : b = w.heap.size) : BRow (w.alloc (.cells (madeCells #[.bool false] n) 4)) b (List.replicate n false) := by
 unfold BRow
 rw [made_is]
 simpa using Blk.new_ hb
section
variable {w w' : World} {b : Nat} {l : List Int} {r : List Bool}
theorem IRow.cell (h : IRow w b l) {k : Nat} (hk : k < l.length) : w.cell? ⟨b, k, none⟩ = some (.int .i64 (gi l k)) := by
 rw [Blk.cell h]
 simp [gi_get hk]
theorem BRow.cell (h : BRow w b r) {k : Nat} {x : Bool} (hk : r[k]? = some x) : w.cell? ⟨b, k, none⟩ = some (.bool x) := by
 rw [Blk.cell h]
 simp [hk]
theorem IRow.set (h : IRow w b l) (k : Nat) (x : Int) : IRow (w.setCell ⟨b, k, none⟩ (.int .i64 x)) b (l.set k x) := by
 have := Blk.set_ h k (.int .i64 x)
 unfold IRow
 simpa [List.map_set] using this
theorem BRow.set (h : BRow w b r) (k : Nat) (x : Bool) : BRow (w.setCell ⟨b, k, none⟩ (.bool x)) b (r.set k x) := by
 have := Blk.set_ h k (.bool x)
 unfold BRow
 simpa [List.map_set] using this
theorem IRow.slAt (h : IRow w b l) (hi : ∀ k, k < l.length → I64 (gi l k)) : SlAt RInt 1 w (some ⟨b, 0, none⟩) l := by
 refine ⟨b, 0, fun i x hx => ⟨rfl, Blk.lt h, ?_, ?_⟩⟩
 ·have hl := lt_of_get hx
  have := IRow.cell h hl
  unfold cellIs
  rw [gi_of hx] at this
  simpa using this
 ·have hl := lt_of_get hx
  have := hi i hl
  rwa [gi_of hx] at this
end
theorem info_int : (Tryz.prog.info? 3).map (fun i => (i.zero, i.size, i.bytes)) = some (some (.int .i64 0), 1, 8) := by kernel_rfl
theorem info_bool : (Tryz.prog.info? 4).map (fun i => (i.zero, i.size, i.bytes)) = some (some (.bool false), 1, 1) := by kernel_rfl
theorem make_ints (n : Nat) (h : n ≤ 1000000) (w : World) : (Instr.makeSlice 55 (.int .i64 (n : Int)) (.int .i64 (n : Int))).run Tryz.prog w = .ok (.slice (some ⟨w.heap.size, 0, none⟩) n n) (w.alloc (.cells (madeCells #[.int .i64 0] n) 3)) :=
 run_make_row' (P := Tryz.prog) 55 3 (.int .i64 0) 8 Tryz.underlying55 info_int rfl .i64 .i64 n (by omega) (by omega) w
theorem make_bools (n : Nat) (h : n ≤ 1000000) (w : World) : (Instr.makeSlice 83 (.int .i64 (n : Int)) (.int .i64 (n : Int))).run Tryz.prog w = .ok (.slice (some ⟨w.heap.size, 0, none⟩) n n) (w.alloc (.cells (madeCells #[.bool false] n) 4)) :=
 run_make_row' (P := Tryz.prog) 83 4 (.bool false) 1 Tryz.underlying83 info_bool rfl .i64 .i64 n (by omega) (by omega) w
end Go.Proofs.YtjcimdpldlamfaaGreatDoor
/- The walks of the graph's check, the program's and the document's. -/
namespace Go.Proofs.YtjcimdpldlamfaaGreatDoor
open Go.RowKit

set_option maxHeartbeats 400000 in
theorem leg_any (l : LegD) (h : Int) (w : World) : Calls Tryz.prog 150 #[legV l, .int .i64 h] w fun e w' => e = .returned (.bool (legOk l h)) ∧ Below w.heap.size w w' := by
 go_enter Tryz.func150, Tryz.ntmps150
 go_wp2
 all_goals go_ret
 all_goals (refine ⟨ret_bool ?_, ?_⟩ <;> first | (rw [Bool.eq_iff_iff]; simp [legOk]; omega) | go_grown)

theorem edgeErr_far {h n : Int} {x : EdgeD} (hh : inB x.a 0 (n - 1) = false ∨ inB x.b 0 (n - 1) = false) : edgeErr h n x = 4 := by unfold edgeErr; rw [if_pos hh]
theorem edgeErr_large {h n : Int} {x : EdgeD} (h1 : inB x.a 0 (n - 1) = true) (h2 : inB x.b 0 (n - 1) = true) (h3 : 6 < x.legs.length) : edgeErr h n x = 2 := by
 unfold edgeErr; rw [if_neg (by simp [h1, h2]), if_pos h3]
theorem edgeErr_legs {h n : Int} {x : EdgeD} (h1 : inB x.a 0 (n - 1) = true) (h2 : inB x.b 0 (n - 1) = true) (h3 : ¬ 6 < x.legs.length) : edgeErr h n x = legsErr h none x.legs := by
 unfold edgeErr; rw [if_neg (by simp [h1, h2]), if_neg h3]
theorem inB_true {n lo hi : Int} (h1 : lo ≤ n) (h2 : n ≤ hi) : inB n lo hi = true := by simp [inB, h1, h2]
theorem inB_false {n lo hi : Int} (h : n < lo ∨ hi < n) : inB n lo hi = false := by simp [inB]; omega
theorem within_yes (n lo hi : Int) (w : World) (h : lo ≤ n ∧ n ≤ hi) : Calls Tryz.prog 115 #[.int .i64 n, .int .i64 lo, .int .i64 hi] w fun e w' => e = .returned (.bool true) ∧ w = w' := by
 obtain ⟨h1, h2⟩ := h
 go_enter Tryz.func115, Tryz.ntmps115
 go_wp2
 go_ret
 exact ⟨ret_bool (by simp), rfl⟩
theorem within_no (n lo hi : Int) (w : World) (h : n < lo ∨ hi < n) : Calls Tryz.prog 115 #[.int .i64 n, .int .i64 lo, .int .i64 hi] w fun e w' => e = .returned (.bool false) ∧ w = w' := by
 go_enter Tryz.func115, Tryz.ntmps115
 go_wp2
 all_goals go_ret
 all_goals exact ⟨ret_bool (by simp; try omega), rfl⟩

set_option maxHeartbeats 1000000 in
theorem edge_any (A A' L : Option Addr) (c c' cl : Nat) (g : GraphD) (x : EdgeD) (w : World) (hg : g.lives.length ≤ maxLen) (hL : SlAt RLeg 4 w L x.legs) (hl : x.legs.length ≤ maxLen) :
    Calls Tryz.prog 132 #[gV A c A' c' g, edgeV L cl x] w fun e w' => e = .returned (.int .i64 (edgeErr g.h g.lives.length x)) ∧ Below w.heap.size w w' := by
  unfold maxLen at hg hl
  by_cases h1 : 0 ≤ x.a ∧ x.a ≤ (g.lives.length : Int) - 1
  case neg =>
    go_enter Tryz.func132, Tryz.ntmps132
    go_wp2_with (go_at_call 115; refine (within_no _ _ _ _ (by omega)).mono ?_; rintro e w' ⟨rfl, rfl⟩)
    go_ret
    exact ⟨ret_int (edgeErr_far (.inl (inB_false (by omega)))).symm, by go_grown⟩
  by_cases h2 : 0 ≤ x.b ∧ x.b ≤ (g.lives.length : Int) - 1
  case neg =>
    go_enter Tryz.func132, Tryz.ntmps132
    go_wp2_with (go_at_call 115; first | (refine (within_yes _ _ _ _ (by omega)).mono ?_; rintro e w' ⟨rfl, rfl⟩) | (refine (within_no _ _ _ _ (by omega)).mono ?_; rintro e w' ⟨rfl, rfl⟩))
    go_ret
    exact ⟨ret_int (edgeErr_far (.inr (inB_false (by omega)))).symm, by go_grown⟩
  have i1 := inB_true h1.1 h1.2
  have i2 := inB_true h2.1 h2.2
  have I1 := Lib.hid i1
  have I2 := Lib.hid i2
  clear i1 i2
  by_cases h3 : 6 < x.legs.length
  · go_enter Tryz.func132, Tryz.ntmps132
    go_wp2_with (go_at_call 115; refine (within_yes _ _ _ _ (by omega)).mono ?_; rintro e w' ⟨rfl, rfl⟩)
    go_ret
    exact ⟨ret_int (edgeErr_large I1.out I2.out h3).symm, by go_grown⟩
  have e0 := edgeErr_legs (h := g.h) I1.out I2.out h3
  rw [e0]
  clear e0 I1 I2
  obtain ⟨b, off, hL⟩ := hL
  go_enter Tryz.func132, Tryz.ntmps132
  go_wp2_with (go_at_call 115; refine (within_yes _ _ _ _ (by omega)).mono ?_; rintro e w' ⟨rfl, rfl⟩)
  go_loopw [32] (fun v wr => ∃ k : Nat, k ≤ x.legs.length ∧ v = .int .i64 k ∧ legsErr g.h (legAhead x.legs k) (x.legs.drop k) = legsErr g.h none x.legs ∧ Below w.heap.size w wr ∧ Blk wr w.heap.size 68 (gC A c A' c' g) ∧ Blk wr (w.heap.size + 1) 97 #[.int .i64 x.a, .int .i64 x.b, .slice L x.legs.length cl])
    (fun v _ => x.legs.length - (intOf v).toNat)
  case atStart => exact ⟨0, Nat.zero_le _, rfl, rfl, by go_grown, (Blk.new _ _ _).alloc _, Blk.new_ (by simp)⟩
  case round =>
    obtain ⟨k, hk, rfl, hinv, hb, hB1, hB2⟩ := hrel
    obtain ⟨b1, b2, b3⟩ := hB1.facts
    obtain ⟨d1, d2, d3⟩ := hB2.facts
    by_cases hlt : k < x.legs.length
    · obtain ⟨y, hy⟩ := get_lt hlt
      obtain ⟨rfl, hb0, ⟨⟨x0, x1, x2, x3⟩, _⟩⟩ := hL k y hy
      have hd := drop_cons hy
      rw [hd] at hinv
      have HI := Lib.hid hinv
      have HY := Lib.hid hy
      clear hinv hy hd
      unfold cellIs at x0 x1 x2 x3
      rw [← hb.cell (by exact hb0)] at x0 x1 x2 x3
      by_cases hok : legOk y g.h = true
      case neg =>
        have hok' : legOk y g.h = false := by simpa using hok
        clear hL hok
        go_wp2_with (first
            | (go_at_call 150; refine (leg_any y _ _).mono ?_; rintro e w1 ⟨rfl, hb1⟩))
        go_ret
        exact ⟨ret_int (by rw [← HI.out, legsErr_bad hok']), ext_trans (ext_alloc hb _) hb1⟩
      case pos =>
        by_cases hk0 : k ≤ 0
        · clear hL
          have hg0 : decide (0 < k) = false := by simp; omega
          go_wp2_with (first
            | (go_at_call 150; refine (leg_any y _ _).mono ?_; rintro e w1 ⟨rfl, hb1⟩; obtain ⟨q1, q2, q3⟩ := ((hB2.alloc _).ext hb1).facts; obtain ⟨r1, r2, r3⟩ := ((Blk.new wr 100 _).ext hb1).facts))
          go_quiet (fail)
          go_wp2
          go_roundw
          case rel =>
            obtain rfl : k = 0 := by omega
            refine ⟨1, by omega, by go_num, ?_, below_drewN (ext_trans (ext_alloc hb _) hb1) _, ((hB1.alloc _).ext hb1).drewN _, ((hB2.alloc _).ext hb1).drewN _⟩
            rw [← HI.out, legAhead_of HY.out]
            exact (legsErr_first hok).symm
          case measure => simp [intOf]; omega
        · obtain ⟨j, rfl⟩ : ∃ j, k = j + 1 := ⟨k - 1, by omega⟩
          obtain ⟨z, hz⟩ := get_lt (show j < x.legs.length by omega)
          obtain ⟨_, hb0, ⟨⟨z0, z1, z2, z3⟩, _⟩⟩ := hL j z hz
          have HZ := Lib.hid hz
          clear hL hz
          have hg1 : (0 : Int) < (j : Int) + 1 := by omega
          by_cases hlf : y.f < z.t
          · go_wp2_with (first
              | (go_at_call 150; refine (leg_any y _ _).mono ?_; rintro e w1 ⟨rfl, hb1⟩; obtain ⟨q1, q2, q3⟩ := ((hB2.alloc _).ext hb1).facts; obtain ⟨r1, r2, r3⟩ := ((Blk.new wr 100 _).ext hb1).facts;
                 have z1' := z1.now (ext_trans (ext_alloc hb _) hb1)))
            go_quiet (fail)
            go_wp2
            go_ret
            exact ⟨ret_int (by rw [← HI.out, legAhead_of HZ.out, legsErr_form hok hlf]), below_drewN (ext_trans (ext_alloc hb _) hb1) _⟩
          · go_wp2_with (first
              | (go_at_call 150; refine (leg_any y _ _).mono ?_; rintro e w1 ⟨rfl, hb1⟩; obtain ⟨q1, q2, q3⟩ := ((hB2.alloc _).ext hb1).facts; obtain ⟨r1, r2, r3⟩ := ((Blk.new wr 100 _).ext hb1).facts;
                 have z1' := z1.now (ext_trans (ext_alloc hb _) hb1)))
            go_quiet (fail)
            go_wp2
            go_roundw
            case rel =>
              refine ⟨j + 1 + 1, by omega, by go_num, ?_, below_drewN (ext_trans (ext_alloc hb _) hb1) _, ((hB1.alloc _).ext hb1).drewN _, ((hB2.alloc _).ext hb1).drewN _⟩
              rw [← HI.out, legAhead_of HY.out, legAhead_of HZ.out, legsErr_next hok (by omega)]
            case measure => simp [intOf]; omega
    · go_wp2
      go_ret
      exact ⟨ret_int (by rw [← hinv, drop_end (by omega)]; cases k <;> rfl), hb⟩

set_option maxHeartbeats 1000000 in
theorem check_any (A A' : Option Addr) (c c' : Nat) (g : GraphD) (w : World) (hG : GraphAt w A c A' c' g) :
  Calls Tryz.prog 99 #[gV A c A' c' g] w fun e w' => e = .returned (.int .i64 (graphErr g)) ∧ Below w.heap.size w w' := by
 have m1 : g.lives.length ≤ 9223372036854775807 := Nat.le_trans hG.lc hG.cm
 have m2 : g.edges.length ≤ 9223372036854775807 := Nat.le_trans hG.lc' hG.cm'
 by_cases h1 : 1 ≤ g.h ∧ g.h ≤ 100
 case neg =>
  go_enter Tryz.func99, Tryz.ntmps99
  go_wp2_with (go_at_call 115; refine (within_no _ _ _ _ (by omega)).mono ?_; rintro e w' ⟨rfl, rfl⟩)
  go_ret
  exact ⟨ret_int (graphErr_h (inB_false (by omega))).symm, by go_grown⟩
 have I1 := Lib.hid (inB_true h1.1 h1.2)
 by_cases h2 : 12 < g.lives.length
 ·go_enter Tryz.func99, Tryz.ntmps99
  go_wp2_with (go_at_call 115; refine (within_yes _ _ _ _ (by omega)).mono ?_; rintro e w' ⟨rfl, rfl⟩)
  go_ret
  exact ⟨ret_int (graphErr_large I1.out (by omega)).symm, by go_grown⟩
 by_cases h3 : 30 < g.edges.length
 ·go_enter Tryz.func99, Tryz.ntmps99
  go_wp2_with (go_at_call 115; refine (within_yes _ _ _ _ (by omega)).mono ?_; rintro e w' ⟨rfl, rfl⟩)
  go_ret
  exact ⟨ret_int (graphErr_large I1.out (by omega)).symm, by go_grown⟩
 obtain ⟨b, off, hL⟩ := hG.lives
 go_enter Tryz.func99, Tryz.ntmps99
 go_wp2_with (go_at_call 115; refine (within_yes _ _ _ _ (by omega)).mono ?_; rintro e w' ⟨rfl, rfl⟩)
 go_loopw [25] (fun v wr => ∃ k : Nat, k ≤ g.lives.length ∧ v = .int .i64 k ∧ Hid ((g.lives.drop k).all (lifeOk g.h) = g.lives.all (lifeOk g.h)) ∧ Below w.heap.size w wr ∧ Blk wr w.heap.size 68 (gC A c A' c' g))
  (fun v _ => g.lives.length - (intOf v).toNat)
 case atStart => exact ⟨0, Nat.zero_le _, rfl, Lib.hid rfl, by go_grown, Blk.new _ _ _⟩
 case round =>
  obtain ⟨k, hk, rfl, HI, hb, hB1⟩ := hrel
  obtain ⟨b1, b2, b3⟩ := hB1.facts
  by_cases hlt : k < g.lives.length
  ·obtain ⟨y, hy⟩ := get_lt hlt
   obtain ⟨rfl, hb0, ⟨⟨x0, x1⟩, _⟩⟩ := hL k y hy
   have y0 := x0.now hb
   have y1 := x1.now hb
   have hd := drop_cons hy
   have HI2 : Hid ((y :: g.lives.drop (k + 1)).all (lifeOk g.h) = g.lives.all (lifeOk g.h)) := by rw [← hd]; exact HI
   clear hL hd hy HI x0 x1
   by_cases hok : 0 ≤ y.f ∧ y.f < y.t ∧ y.t ≤ g.h
   ·obtain ⟨k1, k2, k3⟩ := hok
    go_wp2
    go_roundw
    case rel => exact ⟨k + 1, by omega, by go_num, Lib.hid ((all_next (lifeOk_true ⟨k1, k2, k3⟩)).symm.trans HI2.out), ext_alloc hb _, hB1.alloc _⟩
    case measure => simp [intOf]; omega
   ·go_wp2
    all_goals go_ret
    all_goals exact ⟨ret_int (graphErr_life I1.out (by omega) (HI2.out.symm.trans (all_bad (lifeOk_false (by omega))))).symm, ext_alloc hb _⟩
  ·have hall : g.lives.all (lifeOk g.h) = true := by rw [← HI.out, drop_end (by omega)]; rfl
   have e0 := graphErr_edges I1.out (by omega) hall
   have E0 := Lib.hid e0
   clear e0 hall HI hL
   obtain ⟨b', off', hE⟩ := hG.edges
   obtain ⟨wo, rfl⟩ : ∃ wo : World, wo = wr := ⟨_, rfl⟩
   go_wp2
   go_loopw [50] (fun v wr => ∃ k : Nat, k ≤ g.edges.length ∧ v = .int .i64 k ∧ Hid (edgesErr g.h g.lives.length (g.edges.drop k) = edgesErr g.h g.lives.length g.edges) ∧ Below w.heap.size w wr ∧ Blk wr w.heap.size 68 (gC A c A' c' g))
    (fun v _ => g.edges.length - (intOf v).toNat)
   case atStart => exact ⟨0, Nat.zero_le _, rfl, Lib.hid rfl, hb, hB1⟩
   case round =>
    clear b1 b2 b3
    obtain ⟨k', hk', rfl, HI', hb', hB1'⟩ := hrel
    obtain ⟨b1, b2, b3⟩ := hB1'.facts
    by_cases hlt' : k' < g.edges.length
    ·obtain ⟨y, hy⟩ := get_lt hlt'
     obtain ⟨rfl, hb0, ⟨⟨x0, x1, L, cl, x2, hl1, hl2, hL⟩, _⟩⟩ := hE k' y hy
     have y0 := x0.now hb'
     have y1 := x1.now hb'
     have y2 := x2.now hb'
     have hd := drop_cons hy
     have HI2 : Hid (edgesErr g.h g.lives.length (y :: g.edges.drop (k' + 1)) = edgesErr g.h g.lives.length g.edges) := by rw [← hd]; exact HI'
     clear hE hd hy HI' x0 x1 x2
     have hll : y.legs.length ≤ maxLen := Nat.le_trans hl1 hl2
     by_cases hok : edgeErr g.h g.lives.length y = 0
     ·have HO := Lib.hid hok
      go_wp2_with (go_at_call 132; refine (edge_any _ _ L c c' cl g y _ (Nat.le_trans hG.lc hG.cm) (hL.ext RLeg.stable (ext_alloc hb' _)) hll).mono ?_; rintro e w1 ⟨rfl, hb1⟩)
      go_roundw
      case rel => exact ⟨k' + 1, by omega, by go_num, Lib.hid ((edgesErr_next HO.out).symm.trans HI2.out), ext_trans (ext_alloc hb' _) hb1, (hB1'.alloc _).ext hb1⟩
      case measure => simp [intOf]; omega
     ·have HO := Lib.hid hok
      go_wp2_with (go_at_call 132; refine (edge_any _ _ L c c' cl g y _ (Nat.le_trans hG.lc hG.cm) (hL.ext RLeg.stable (ext_alloc hb' _)) hll).mono ?_; rintro e w1 ⟨rfl, hb1⟩)
      go_ret
      exact ⟨ret_int (by rw [E0.out, ← HI2.out, edgesErr_bad HO.out]), ext_trans (ext_alloc hb' _) hb1⟩
    ·go_wp2
     go_ret
     exact ⟨ret_int (by rw [E0.out, ← HI'.out, drop_end (by omega)]; rfl), hb'⟩
end Go.Proofs.YtjcimdpldlamfaaGreatDoor
/- The walk of bsp.check. -/
namespace Go.Proofs.YtjcimdpldlamfaaGreatDoor
open Go.RowKit

def runErr (g : GraphD) (p v : Int) : Int := if graphErr g = 0 then (if 1 ≤ p ∧ p ≤ 3 then (if p ≠ 3 ∧ ¬ (0 ≤ v ∧ v < g.lives.length) then 4 else 0) else 1) else graphErr g
set_option maxHeartbeats 1000000 in
theorem bspCheck_any (A A' : Option Addr) (c c' : Nat) (g : GraphD) (p v : Int) (w : World) (hG : GraphAt w A c A' c' g) :
  Calls Tryz.prog 134 #[gV A c A' c' g, .int .i64 p, .int .i64 v] w fun e w' => e = .returned (.int .i64 (runErr g p v)) ∧ Below w.heap.size w w' := by
 have m1 : g.lives.length ≤ 9223372036854775807 := Nat.le_trans hG.lc hG.cm
 by_cases h0 : graphErr g = 0
 case neg =>
  have H0 : Hid (runErr g p v = graphErr g) := Lib.hid (by unfold runErr; rw [if_neg h0])
  have hn : (graphErr g != 0) = true := by simp [h0]
  go_enter Tryz.func134, Tryz.ntmps134
  go_wp2_with fail
  refine (check_any _ _ _ _ g _ (hG.ext (by go_grown))).mono ?_
  rintro e w1 ⟨rfl, hb1⟩
  have hb2 : Below w.heap.size w w1 := ext_trans (by go_grown) hb1
  go_wp2_with fail
  go_ret
  exact ⟨ret_int H0.out.symm, hb2⟩
 have H0 := Lib.hid h0
 by_cases hp : 1 ≤ p ∧ p ≤ 3
 case neg =>
  have H1 : Hid (runErr g p v = 1) := Lib.hid (by unfold runErr; rw [if_pos h0, if_neg hp])
  by_cases hp1 : 1 ≤ p
  ·replace hp : ¬ p ≤ 3 := fun h => hp ⟨hp1, h⟩
   go_enter Tryz.func134, Tryz.ntmps134
   go_wp2_with fail
   refine (check_any _ _ _ _ g _ (hG.ext (by go_grown))).mono ?_
   rintro e w1 ⟨rfl, hb1⟩
   obtain ⟨B0, c1, c2, c3⟩ := (Blk.new w 68 (gC A c A' c' g)).go hb1
   have hb2 : Below w.heap.size w w1 := ext_trans (by go_grown) hb1
   go_wp2_with fail
   all_goals go_ret
   all_goals exact ⟨ret_int H1.out.symm, hb2⟩
  ·clear hp
   go_enter Tryz.func134, Tryz.ntmps134
   go_wp2_with fail
   refine (check_any _ _ _ _ g _ (hG.ext (by go_grown))).mono ?_
   rintro e w1 ⟨rfl, hb1⟩
   obtain ⟨B0, c1, c2, c3⟩ := (Blk.new w 68 (gC A c A' c' g)).go hb1
   have hb2 : Below w.heap.size w w1 := ext_trans (by go_grown) hb1
   go_wp2_with fail
   all_goals go_ret
   all_goals exact ⟨ret_int H1.out.symm, hb2⟩
 obtain ⟨hp1, hp2⟩ := hp
 by_cases h3 : p = 3
 ·subst h3
  have H1 : Hid (runErr g 3 v = 0) := Lib.hid (by unfold runErr; rw [if_pos h0, if_pos (by decide), if_neg (by simp)])
  go_enter Tryz.func134, Tryz.ntmps134
  go_wp2_with fail
  refine (check_any _ _ _ _ g _ (hG.ext (by go_grown))).mono ?_
  rintro e w1 ⟨rfl, hb1⟩
  obtain ⟨B0, c1, c2, c3⟩ := (Blk.new w 68 (gC A c A' c' g)).go hb1
  have hb2 : Below w.heap.size w w1 := ext_trans (by go_grown) hb1
  go_wp2_with fail
  all_goals go_ret
  all_goals exact ⟨ret_int H1.out.symm, hb2⟩
 ·have hne : (p != 3) = true := by simp [h3]
  by_cases hv0 : 0 ≤ v
  ·by_cases hv1 : v < g.lives.length
   ·have H1 : Hid (runErr g p v = 0) := Lib.hid (by unfold runErr; rw [if_pos h0, if_pos ⟨hp1, hp2⟩, if_neg (by intro h; exact h.2 ⟨hv0, hv1⟩)])
    clear h3
    go_enter Tryz.func134, Tryz.ntmps134
    go_wp2_with fail
    refine (check_any _ _ _ _ g _ (hG.ext (by go_grown))).mono ?_
    rintro e w1 ⟨rfl, hb1⟩
    obtain ⟨B0, c1, c2, c3⟩ := (Blk.new w 68 (gC A c A' c' g)).go hb1
    have hb2 : Below w.heap.size w w1 := ext_trans (by go_grown) hb1
    go_wp2_with fail
    all_goals go_ret
    all_goals exact ⟨ret_int H1.out.symm, hb2⟩
   ·have H1 : Hid (runErr g p v = 4) := Lib.hid (by unfold runErr; rw [if_pos h0, if_pos ⟨hp1, hp2⟩, if_pos ⟨h3, fun h => hv1 h.2⟩])
    clear h3
    go_enter Tryz.func134, Tryz.ntmps134
    go_wp2_with fail
    refine (check_any _ _ _ _ g _ (hG.ext (by go_grown))).mono ?_
    rintro e w1 ⟨rfl, hb1⟩
    obtain ⟨B0, c1, c2, c3⟩ := (Blk.new w 68 (gC A c A' c' g)).go hb1
    have hb2 : Below w.heap.size w w1 := ext_trans (by go_grown) hb1
    go_wp2_with fail
    all_goals go_ret
    all_goals exact ⟨ret_int H1.out.symm, hb2⟩
  ·have H1 : Hid (runErr g p v = 4) := Lib.hid (by unfold runErr; rw [if_pos h0, if_pos ⟨hp1, hp2⟩, if_pos ⟨h3, fun h => hv0 h.1⟩])
   clear h3
   go_enter Tryz.func134, Tryz.ntmps134
   go_wp2_with fail
   refine (check_any _ _ _ _ g _ (hG.ext (by go_grown))).mono ?_
   rintro e w1 ⟨rfl, hb1⟩
   obtain ⟨B0, c1, c2, c3⟩ := (Blk.new w 68 (gC A c A' c' g)).go hb1
   have hb2 : Below w.heap.size w w1 := ext_trans (by go_grown) hb1
   go_wp2_with fail
   all_goals go_ret
   all_goals exact ⟨ret_int H1.out.symm, hb2⟩
end Go.Proofs.YtjcimdpldlamfaaGreatDoor
/- The walk of the document's Rest. -/
namespace Go.Proofs.YtjcimdpldlamfaaGreatDoor
open Go.RowKit

end Go.Proofs.YtjcimdpldlamfaaGreatDoor
/- The walks of one step: alive, the leg of a time, when one comes; the program's and the document's. -/
namespace Go.Proofs.YtjcimdpldlamfaaGreatDoor
open Go.RowKit

set_option maxHeartbeats 400000 in
theorem alive_any (A A' : Option Addr) (c c' : Nat) (g : GraphD) (v t : Int) (w : World) (hG : GraphAt w A c A' c' g) (h0 : 0 ≤ v) (h1 : v < g.lives.length) :
  Calls Tryz.prog 97 #[gV A c A' c' g, .int .i64 v, .int .i64 t] w fun e w' => e = .returned (.bool (aliveB g v t)) ∧ Below w.heap.size w w' := by
 obtain ⟨b, off, hL⟩ := hG.lives
 obtain ⟨y, hy⟩ := get_lt (show v.toNat < g.lives.length by omega)
 obtain ⟨rfl, hb0, ⟨⟨x0, x1⟩, _⟩⟩ := hL _ y hy
 unfold cellIs at x0 x1
 have HA := Lib.hid (aliveB_of (t := t) hy)
 clear hL hy
 by_cases h2 : y.f ≤ t
 all_goals
  go_enter Tryz.func97, Tryz.ntmps97
  go_wp2
  go_ret
  exact ⟨ret_bool (by rw [HA.out]; first | (rw [Bool.eq_iff_iff]; simp; omega) | (symm; simp; omega)), by go_grown⟩

/-- The two results of looking for a leg. -/
def legsR (o : Option LegD) : Value := match o with
 | some x => .tuple #[legV x, .bool true]
 | none => .tuple #[legV ⟨0, 0, 0, 0⟩, .bool false]

set_option maxHeartbeats 1000000 in
theorem leaves_any (L : Option Addr) (cl : Nat) (x : EdgeD) (t : Int) (w : World) (hL : SlAt RLeg 4 w L x.legs) (hl : x.legs.length ≤ maxLen) :
  Calls Tryz.prog 131 #[edgeV L cl x, .int .i64 t] w fun e w' => e = .returned (legsR (leaves t x.legs)) ∧ Below w.heap.size w w' := by
 unfold maxLen at hl
 obtain ⟨b, off, hL⟩ := hL
 go_enter Tryz.func131, Tryz.ntmps131
 go_wp2
 go_loopw [11] (fun v wr => ∃ k : Nat, k ≤ x.legs.length ∧ v = .int .i64 k ∧ Hid (leaves t (x.legs.drop k) = leaves t x.legs) ∧ Below w.heap.size w wr ∧ Blk wr (w.heap.size + 1) 100 #[.int .i64 0, .int .i64 0, .int .i64 0, .int .i64 0]) (fun v _ => x.legs.length - (intOf v).toNat)
 case atStart => exact ⟨0, Nat.zero_le _, rfl, Lib.hid rfl, by go_grown, Blk.new_ (by simp)⟩
 case round =>
  obtain ⟨k, hk, rfl, HI, hb, hB⟩ := hrel
  obtain ⟨hc, hf, hz⟩ := hB.facts
  by_cases hlt : k < x.legs.length
  ·obtain ⟨y, hy⟩ := get_lt hlt
   obtain ⟨rfl, hb0, ⟨⟨x0, x1, x2, x3⟩, _⟩⟩ := hL k y hy
   have y0 := x0.now hb
   have y1 := x1.now hb
   have y2 := x2.now hb
   have y3 := x3.now hb
   have hd := drop_cons hy
   have HI2 : Hid (leaves t (y :: x.legs.drop (k + 1)) = leaves t x.legs) := by rw [← hd]; exact HI
   clear hL hd hy HI x0 x1 x2 x3
   by_cases hok : y.f ≤ t ∧ t < y.t
   ·obtain ⟨k1, k2⟩ := hok
    go_wp2
    refine bodyPost_ret (v := .tuple #[legV y, .bool true]) (by simp [results, Tryz.results131, go_sem, hc, hz, legV]) rfl ?_
    refine ⟨by rw [← HI2.out, leaves_hit ⟨k1, k2⟩]; rfl, ?_⟩
    exact ((((hb.setCell (by simp) _).setCell (by simp) _).setCell (by simp) _).setCell (by simp) _).alloc (by simp; omega) _
   ·go_wp2
    all_goals
     go_roundw
     case rel => exact ⟨k + 1, by omega, by go_num, Lib.hid ((leaves_miss (by omega)).symm.trans HI2.out), ext_alloc hb _, hB.alloc _⟩
     case measure => simp [intOf]; omega
  ·go_wp2
   refine bodyPost_ret (v := .tuple #[legV ⟨0, 0, 0, 0⟩, .bool false]) (by simp [results, Tryz.results131, go_sem, hc, legV]) rfl ?_
   refine ⟨by rw [← HI.out, drop_end (by omega)]; rfl, ?_⟩
   exact ((((hb.setCell (by simp) _).setCell (by simp) _).setCell (by simp) _).setCell (by simp) _)

end Go.Proofs.YtjcimdpldlamfaaGreatDoor
