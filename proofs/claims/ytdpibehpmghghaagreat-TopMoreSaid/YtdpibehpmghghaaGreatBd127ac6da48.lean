/- Several texts in one: AppList, Row, Check, BspCheck, Rest. -/
import Derived.Deep.OwnRows
import Derived.Laws.OwnMore
import Derived.Test.YtdpibehpmghghaaGreatProg
import Derived.Test.YtdpibehpmghghaaGreatBd3704f51cb5
import Derived.Test.YtdpibehpmghghaaGreatBdbca928d534
import Derived.Test.YtdpibehpmghghaaGreatBdcc6882d3e7
import Derived.Test.YtdpibehpmghghaaGreatBd6068468490
import Derived.Test.YtdpibehpmghghaaGreatBd3944ca27eb
import Derived.Test.YtdpibehpmghghaaGreatBd87574eba69
/- An append of one owned list to another. -/
namespace Go.Proofs.YtdpibehpmghghaaGreat
open Go.RowKit

theorem wpList_append_list {P : Program} {ops : Array Oper} {rest : List Oper} {o : Oper} {a : Act} {Q : Exit → Act → World → Prop} {w : World} {α : Type} {enc : α → List Value} (hgd : o.guard = none) (s x : Operand) (t : TypeId)
    (ho : o.op = .call { callee := .builtin .append, args := #[s, x], argTypes := #[t, t] })
    (base : Nat) (e : TypeId) (i : TypeInfo) (z : Value) (size bytes : Nat) (ht : P.underlying t = some (.slice e)) (hi : P.info? e = some i) (hz : i.zero = some z)
    (hsize : i.size = size) (hby : i.bytes = bytes) (hzs : z.cells.size = size) (hsz : 0 < size)
    (v : Value) (l : List α) (hs : a.eval s = v) (hown : Own enc size w base e v l) (vx : Value) (ys : List α) (base' : Nat) (hx : a.eval x = vx) (hox : Own enc size w base' e vx ys)
    (h1 : ∀ y, y ∈ ys → ∀ u ∈ enc y, u.oneCell' = true) (h63 : l.length + ys.length ≤ 1000000) (hby2 : bytes ≤ 1000) (hbase : base ≤ w.heap.size)
    (h : ∀ v' w', Own enc size w' base e v' (l ++ ys) → Below base w w' → (∀ b t' cs', Blk w b t' cs' → t' ≠ e → Blk w' b t' cs') → wpList P ops Q rest (a.put o.dst v') w') : wpList P ops Q (o :: rest) a w := by
  have hb2 : (l.length + ys.length) * bytes ≤ 140737488355328 := Nat.le_trans (Nat.mul_le_mul h63 hby2) (by decide)
  rcases hox.2 with ⟨rfl, h0⟩ | ⟨g, cap, cur, rfl, hg, hh, hnc, hcm, hcs, htake⟩
  · obtain rfl : ys = [] := List.eq_nil_of_length_eq_zero h0
    obtain ⟨A, c, rfl⟩ := hown.form
    refine wpList_append_nothing hgd s x t ho e i ht hi A l.length c 0 hs hx hown.room.1 (h _ w ?_ (Below.refl _ _) fun _ _ _ hB _ => hB)
    simpa using hown
  · refine wpList_append_own _ hgd s x t ho base e i z size bytes ht hi hz hsize hby hzs hsz v l.length (l.flatMap enc) hs hown ⟨g, 0, none⟩ ys.length cap (ys.flatMap enc) hx hox.1
      (fun j u hu => ?_) (fun u hu => ?_) (by unfold maxLen; omega) hb2 hbase fun v' w' h2 h3 _ => h v' w' ?_ ?_ fun b t' cs' hB ht' => hB.grown h3 (hown.other hB ht')
    · exact World.ownsRow.cells hox (g := g) rfl j u hu
    · obtain ⟨y, hy, hu⟩ := List.mem_flatMap.1 hu
      exact h1 y hy u hu
    · show w'.ownsRow base e size v' (l ++ ys).length ((l ++ ys).flatMap enc)
      rw [List.flatMap_append, List.length_append]
      exact h2
    · exact (Below.refl base w).grown h3 hbase fun k hk => (World.ownsRow.lt hown k hk).1
end Go.Proofs.YtdpibehpmghghaaGreat
/- Blocks that hold a list of numbers, or of bools: how they are made, read, written. -/
namespace Go.Proofs.YtdpibehpmghghaaGreat
open Go.RowKit

def IRow (w : World) (b : Nat) (l : List Int) : Prop := Blk w b 3 (l.map iV).toArray
def BRow (w : World) (b : Nat) (l : List Bool) : Prop := Blk w b 4 (l.map Value.bool).toArray
theorem made_is (z : Value) (n : Nat) : madeCells #[z] n = (List.replicate n z).toArray := by
  apply Array.toList_inj.1
  rw [toList_madeCells_one]
theorem IRow.made {w : World} {b n : Nat} (hb : b = w.heap.size) : IRow (w.alloc (.cells (madeCells #[.int .i64 0] n) 3)) b (List.replicate n 0) := by
  unfold IRow
  rw [made_is]
  simpa using Blk.new_ hb
theorem BRow.made {w : World} {b n : Nat} (hb : b = w.heap.size) : BRow (w.alloc (.cells (madeCells #[.bool false] n) 4)) b (List.replicate n false) := by
  unfold BRow
  rw [made_is]
  simpa using Blk.new_ hb
section
variable {w w' : World} {b : Nat} {l : List Int} {r : List Bool}
theorem IRow.cell (h : IRow w b l) {k : Nat} (hk : k < l.length) : w.cell? ⟨b, k, none⟩ = some (.int .i64 (gi l k)) := by
  rw [Blk.cell h]
  simp [gi_get hk]
theorem BRow.cell (h : BRow w b r) {k : Nat} {x : Bool} (hk : r[k]? = some x) : w.cell? ⟨b, k, none⟩ = some (.bool x) := by
  rw [Blk.cell h]
  simp [hk]
theorem IRow.set (h : IRow w b l) (k : Nat) (x : Int) : IRow (w.setCell ⟨b, k, none⟩ (.int .i64 x)) b (l.set k x) := by
  have := Blk.set_ h k (.int .i64 x)
  unfold IRow
  simpa [List.map_set] using this
theorem BRow.set (h : BRow w b r) (k : Nat) (x : Bool) : BRow (w.setCell ⟨b, k, none⟩ (.bool x)) b (r.set k x) := by
  have := Blk.set_ h k (.bool x)
  unfold BRow
  simpa [List.map_set] using this
theorem IRow.slAt (h : IRow w b l) (hi : ∀ k, k < l.length → I64 (gi l k)) : SlAt RInt 1 w (some ⟨b, 0, none⟩) l := by
  refine ⟨b, 0, fun i x hx => ⟨rfl, Blk.lt h, ?_, ?_⟩⟩
  · have hl := lt_of_get hx
    have := IRow.cell h hl
    unfold cellIs
    rw [gi_of hx] at this
    simpa using this
  · have hl := lt_of_get hx
    have := hi i hl
    rwa [gi_of hx] at this
end
theorem info_int : (Tryz.prog.info? 3).map (fun i => (i.zero, i.size, i.bytes)) = some (some (.int .i64 0), 1, 8) := by kernel_rfl
theorem info_bool : (Tryz.prog.info? 4).map (fun i => (i.zero, i.size, i.bytes)) = some (some (.bool false), 1, 1) := by kernel_rfl
theorem make_ints (n : Nat) (h : n ≤ 1000000) (w : World) : (Instr.makeSlice 38 (.int .i64 (n : Int)) (.int .i64 (n : Int))).run Tryz.prog w = .ok (.slice (some ⟨w.heap.size, 0, none⟩) n n) (w.alloc (.cells (madeCells #[.int .i64 0] n) 3)) :=
  run_make_row' (P := Tryz.prog) 38 3 (.int .i64 0) 8 Tryz.underlying38 info_int rfl .i64 .i64 n (by omega) (by omega) w
theorem make_bools (n : Nat) (h : n ≤ 1000000) (w : World) : (Instr.makeSlice 31 (.int .i64 (n : Int)) (.int .i64 (n : Int))).run Tryz.prog w = .ok (.slice (some ⟨w.heap.size, 0, none⟩) n n) (w.alloc (.cells (madeCells #[.bool false] n) 4)) :=
  run_make_row' (P := Tryz.prog) 31 4 (.bool false) 1 Tryz.underlying31 info_bool rfl .i64 .i64 n (by omega) (by omega) w
end Go.Proofs.YtdpibehpmghghaaGreat
/- The walks of the graph's check, the program's and the document's. -/
namespace Go.Proofs.YtdpibehpmghghaaGreat
open Go.RowKit

set_option maxHeartbeats 400000 in
theorem leg_any (l : LegD) (h : Int) (w : World) : Calls Tryz.prog 90 #[legV l, .int .i64 h] w fun e w' => e = .returned (.bool (legOk l h)) ∧ Below w.heap.size w w' := by
  go_enter Tryz.func90, Tryz.ntmps90
  go_wp2
  all_goals go_ret
  all_goals (refine ⟨ret_bool ?_, ?_⟩ <;> first | (rw [Bool.eq_iff_iff]; simp [legOk]; omega) | go_grown)

theorem edgeErr_far {h n : Int} {x : EdgeD} (hh : inB x.a 0 (n - 1) = false ∨ inB x.b 0 (n - 1) = false) : edgeErr h n x = 4 := by unfold edgeErr; rw [if_pos hh]
theorem edgeErr_large {h n : Int} {x : EdgeD} (h1 : inB x.a 0 (n - 1) = true) (h2 : inB x.b 0 (n - 1) = true) (h3 : 6 < x.legs.length) : edgeErr h n x = 2 := by
  unfold edgeErr; rw [if_neg (by simp [h1, h2]), if_pos h3]
theorem edgeErr_legs {h n : Int} {x : EdgeD} (h1 : inB x.a 0 (n - 1) = true) (h2 : inB x.b 0 (n - 1) = true) (h3 : ¬ 6 < x.legs.length) : edgeErr h n x = legsErr h none x.legs := by
  unfold edgeErr; rw [if_neg (by simp [h1, h2]), if_neg h3]
theorem inB_true {n lo hi : Int} (h1 : lo ≤ n) (h2 : n ≤ hi) : inB n lo hi = true := by simp [inB, h1, h2]
theorem inB_false {n lo hi : Int} (h : n < lo ∨ hi < n) : inB n lo hi = false := by simp [inB]; omega
theorem within_yes (n lo hi : Int) (w : World) (h : lo ≤ n ∧ n ≤ hi) : Calls Tryz.prog 39 #[.int .i64 n, .int .i64 lo, .int .i64 hi] w fun e w' => e = .returned (.bool true) ∧ w = w' := by
  obtain ⟨h1, h2⟩ := h
  go_enter Tryz.func39, Tryz.ntmps39
  go_wp2
  go_ret
  exact ⟨ret_bool (by simp), rfl⟩
theorem within_no (n lo hi : Int) (w : World) (h : n < lo ∨ hi < n) : Calls Tryz.prog 39 #[.int .i64 n, .int .i64 lo, .int .i64 hi] w fun e w' => e = .returned (.bool false) ∧ w = w' := by
  go_enter Tryz.func39, Tryz.ntmps39
  go_wp2
  all_goals go_ret
  all_goals exact ⟨ret_bool (by simp; try omega), rfl⟩

set_option maxHeartbeats 1000000 in
theorem edge_any (A A' L : Option Addr) (c c' cl : Nat) (g : GraphD) (x : EdgeD) (w : World) (hg : g.lives.length ≤ maxLen) (hL : SlAt RLeg 4 w L x.legs) (hl : x.legs.length ≤ maxLen) :
    Calls Tryz.prog 66 #[gV A c A' c' g, edgeV L cl x] w fun e w' => e = .returned (.int .i64 (edgeErr g.h g.lives.length x)) ∧ Below w.heap.size w w' := by
  unfold maxLen at hg hl
  by_cases h1 : 0 ≤ x.a ∧ x.a ≤ (g.lives.length : Int) - 1
  case neg =>
    go_enter Tryz.func66, Tryz.ntmps66
    go_wp2_with (go_at_call 39; refine (within_no _ _ _ _ (by omega)).mono ?_; rintro e w' ⟨rfl, rfl⟩)
    go_ret
    exact ⟨ret_int (edgeErr_far (.inl (inB_false (by omega)))).symm, by go_grown⟩
  by_cases h2 : 0 ≤ x.b ∧ x.b ≤ (g.lives.length : Int) - 1
  case neg =>
    go_enter Tryz.func66, Tryz.ntmps66
    go_wp2_with (go_at_call 39; first | (refine (within_yes _ _ _ _ (by omega)).mono ?_; rintro e w' ⟨rfl, rfl⟩) | (refine (within_no _ _ _ _ (by omega)).mono ?_; rintro e w' ⟨rfl, rfl⟩))
    go_ret
    exact ⟨ret_int (edgeErr_far (.inr (inB_false (by omega)))).symm, by go_grown⟩
  have i1 := inB_true h1.1 h1.2
  have i2 := inB_true h2.1 h2.2
  have I1 := Lib.hid i1
  have I2 := Lib.hid i2
  clear i1 i2
  by_cases h3 : 6 < x.legs.length
  · go_enter Tryz.func66, Tryz.ntmps66
    go_wp2_with (go_at_call 39; refine (within_yes _ _ _ _ (by omega)).mono ?_; rintro e w' ⟨rfl, rfl⟩)
    go_ret
    exact ⟨ret_int (edgeErr_large I1.out I2.out h3).symm, by go_grown⟩
  have e0 := edgeErr_legs (h := g.h) I1.out I2.out h3
  rw [e0]
  clear e0 I1 I2
  obtain ⟨b, off, hL⟩ := hL
  go_enter Tryz.func66, Tryz.ntmps66
  go_wp2_with (go_at_call 39; refine (within_yes _ _ _ _ (by omega)).mono ?_; rintro e w' ⟨rfl, rfl⟩)
  go_loopw [32] (fun v wr => ∃ k : Nat, k ≤ x.legs.length ∧ v = .int .i64 k ∧ legsErr g.h (legAhead x.legs k) (x.legs.drop k) = legsErr g.h none x.legs ∧ Below w.heap.size w wr ∧ Blk wr w.heap.size 25 (gC A c A' c' g) ∧ Blk wr (w.heap.size + 1) 60 #[.int .i64 x.a, .int .i64 x.b, .slice L x.legs.length cl])
    (fun v _ => x.legs.length - (intOf v).toNat)
  case atStart => exact ⟨0, Nat.zero_le _, rfl, rfl, by go_grown, (Blk.new _ _ _).alloc _, Blk.new_ (by simp)⟩
  case round =>
    obtain ⟨k, hk, rfl, hinv, hb, hB1, hB2⟩ := hrel
    obtain ⟨b1, b2, b3⟩ := hB1.facts
    obtain ⟨d1, d2, d3⟩ := hB2.facts
    by_cases hlt : k < x.legs.length
    · obtain ⟨y, hy⟩ := get_lt hlt
      obtain ⟨rfl, hb0, ⟨⟨x0, x1, x2, x3⟩, _⟩⟩ := hL k y hy
      have hd := drop_cons hy
      rw [hd] at hinv
      have HI := Lib.hid hinv
      have HY := Lib.hid hy
      clear hinv hy hd
      unfold cellIs at x0 x1 x2 x3
      rw [← hb.cell (by exact hb0)] at x0 x1 x2 x3
      by_cases hok : legOk y g.h = true
      case neg =>
        have hok' : legOk y g.h = false := by simpa using hok
        clear hL hok
        go_wp2_with (first
            | (go_at_call 90; refine (leg_any y _ _).mono ?_; rintro e w1 ⟨rfl, hb1⟩))
        go_ret
        exact ⟨ret_int (by rw [← HI.out, legsErr_bad hok']), ext_trans (ext_alloc hb _) hb1⟩
      case pos =>
        by_cases hk0 : k ≤ 0
        · clear hL
          have hg0 : decide (0 < k) = false := by simp; omega
          go_wp2_with (first
            | (go_at_call 90; refine (leg_any y _ _).mono ?_; rintro e w1 ⟨rfl, hb1⟩; obtain ⟨q1, q2, q3⟩ := ((hB2.alloc _).ext hb1).facts; obtain ⟨r1, r2, r3⟩ := ((Blk.new wr 77 _).ext hb1).facts))
          go_quiet (fail)
          go_wp2
          go_roundw
          case rel =>
            obtain rfl : k = 0 := by omega
            refine ⟨1, by omega, by go_num, ?_, below_drewN (ext_trans (ext_alloc hb _) hb1) _, ((hB1.alloc _).ext hb1).drewN _, ((hB2.alloc _).ext hb1).drewN _⟩
            rw [← HI.out, legAhead_of HY.out]
            exact (legsErr_first hok).symm
          case measure => simp [intOf]; omega
        · obtain ⟨j, rfl⟩ : ∃ j, k = j + 1 := ⟨k - 1, by omega⟩
          obtain ⟨z, hz⟩ := get_lt (show j < x.legs.length by omega)
          obtain ⟨_, hb0, ⟨⟨z0, z1, z2, z3⟩, _⟩⟩ := hL j z hz
          have HZ := Lib.hid hz
          clear hL hz
          have hg1 : (0 : Int) < (j : Int) + 1 := by omega
          by_cases hlf : y.f < z.t
          · go_wp2_with (first
              | (go_at_call 90; refine (leg_any y _ _).mono ?_; rintro e w1 ⟨rfl, hb1⟩; obtain ⟨q1, q2, q3⟩ := ((hB2.alloc _).ext hb1).facts; obtain ⟨r1, r2, r3⟩ := ((Blk.new wr 77 _).ext hb1).facts;
                 have z1' := z1.now (ext_trans (ext_alloc hb _) hb1)))
            go_quiet (fail)
            go_wp2
            go_ret
            exact ⟨ret_int (by rw [← HI.out, legAhead_of HZ.out, legsErr_form hok hlf]), below_drewN (ext_trans (ext_alloc hb _) hb1) _⟩
          · go_wp2_with (first
              | (go_at_call 90; refine (leg_any y _ _).mono ?_; rintro e w1 ⟨rfl, hb1⟩; obtain ⟨q1, q2, q3⟩ := ((hB2.alloc _).ext hb1).facts; obtain ⟨r1, r2, r3⟩ := ((Blk.new wr 77 _).ext hb1).facts;
                 have z1' := z1.now (ext_trans (ext_alloc hb _) hb1)))
            go_quiet (fail)
            go_wp2
            go_roundw
            case rel =>
              refine ⟨j + 1 + 1, by omega, by go_num, ?_, below_drewN (ext_trans (ext_alloc hb _) hb1) _, ((hB1.alloc _).ext hb1).drewN _, ((hB2.alloc _).ext hb1).drewN _⟩
              rw [← HI.out, legAhead_of HY.out, legAhead_of HZ.out, legsErr_next hok (by omega)]
            case measure => simp [intOf]; omega
    · go_wp2
      go_ret
      exact ⟨ret_int (by rw [← hinv, drop_end (by omega)]; cases k <;> rfl), hb⟩

set_option maxHeartbeats 1000000 in
theorem check_any (A A' : Option Addr) (c c' : Nat) (g : GraphD) (w : World) (hG : GraphAt w A c A' c' g) :
    Calls Tryz.prog 38 #[gV A c A' c' g] w fun e w' => e = .returned (.int .i64 (graphErr g)) ∧ Below w.heap.size w w' := by
  have m1 : g.lives.length ≤ 9223372036854775807 := Nat.le_trans hG.lc hG.cm
  have m2 : g.edges.length ≤ 9223372036854775807 := Nat.le_trans hG.lc' hG.cm'
  by_cases h1 : 1 ≤ g.h ∧ g.h ≤ 100
  case neg =>
    go_enter Tryz.func38, Tryz.ntmps38
    go_wp2_with (go_at_call 39; refine (within_no _ _ _ _ (by omega)).mono ?_; rintro e w' ⟨rfl, rfl⟩)
    go_ret
    exact ⟨ret_int (graphErr_h (inB_false (by omega))).symm, by go_grown⟩
  have I1 := Lib.hid (inB_true h1.1 h1.2)
  by_cases h2 : 12 < g.lives.length
  · go_enter Tryz.func38, Tryz.ntmps38
    go_wp2_with (go_at_call 39; refine (within_yes _ _ _ _ (by omega)).mono ?_; rintro e w' ⟨rfl, rfl⟩)
    go_ret
    exact ⟨ret_int (graphErr_large I1.out (by omega)).symm, by go_grown⟩
  by_cases h3 : 30 < g.edges.length
  · go_enter Tryz.func38, Tryz.ntmps38
    go_wp2_with (go_at_call 39; refine (within_yes _ _ _ _ (by omega)).mono ?_; rintro e w' ⟨rfl, rfl⟩)
    go_ret
    exact ⟨ret_int (graphErr_large I1.out (by omega)).symm, by go_grown⟩
  obtain ⟨b, off, hL⟩ := hG.lives
  go_enter Tryz.func38, Tryz.ntmps38
  go_wp2_with (go_at_call 39; refine (within_yes _ _ _ _ (by omega)).mono ?_; rintro e w' ⟨rfl, rfl⟩)
  go_loopw [25] (fun v wr => ∃ k : Nat, k ≤ g.lives.length ∧ v = .int .i64 k ∧ Hid ((g.lives.drop k).all (lifeOk g.h) = g.lives.all (lifeOk g.h)) ∧ Below w.heap.size w wr ∧ Blk wr w.heap.size 25 (gC A c A' c' g))
    (fun v _ => g.lives.length - (intOf v).toNat)
  case atStart => exact ⟨0, Nat.zero_le _, rfl, Lib.hid rfl, by go_grown, Blk.new _ _ _⟩
  case round =>
    obtain ⟨k, hk, rfl, HI, hb, hB1⟩ := hrel
    obtain ⟨b1, b2, b3⟩ := hB1.facts
    by_cases hlt : k < g.lives.length
    · obtain ⟨y, hy⟩ := get_lt hlt
      obtain ⟨rfl, hb0, ⟨⟨x0, x1⟩, _⟩⟩ := hL k y hy
      have y0 := x0.now hb
      have y1 := x1.now hb
      have hd := drop_cons hy
      have HI2 : Hid ((y :: g.lives.drop (k + 1)).all (lifeOk g.h) = g.lives.all (lifeOk g.h)) := by rw [← hd]; exact HI
      clear hL hd hy HI x0 x1
      by_cases hok : 0 ≤ y.f ∧ y.f < y.t ∧ y.t ≤ g.h
      · obtain ⟨k1, k2, k3⟩ := hok
        go_wp2
        go_roundw
        case rel => exact ⟨k + 1, by omega, by go_num, Lib.hid ((all_next (lifeOk_true ⟨k1, k2, k3⟩)).symm.trans HI2.out), ext_alloc hb _, hB1.alloc _⟩
        case measure => simp [intOf]; omega
      · go_wp2
        all_goals go_ret
        all_goals exact ⟨ret_int (graphErr_life I1.out (by omega) (HI2.out.symm.trans (all_bad (lifeOk_false (by omega))))).symm, ext_alloc hb _⟩
    · have hall : g.lives.all (lifeOk g.h) = true := by rw [← HI.out, drop_end (by omega)]; rfl
      have e0 := graphErr_edges I1.out (by omega) hall
      have E0 := Lib.hid e0
      clear e0 hall HI hL
      obtain ⟨b', off', hE⟩ := hG.edges
      obtain ⟨wo, rfl⟩ : ∃ wo : World, wo = wr := ⟨_, rfl⟩
      go_wp2
      go_loopw [50] (fun v wr => ∃ k : Nat, k ≤ g.edges.length ∧ v = .int .i64 k ∧ Hid (edgesErr g.h g.lives.length (g.edges.drop k) = edgesErr g.h g.lives.length g.edges) ∧ Below w.heap.size w wr ∧ Blk wr w.heap.size 25 (gC A c A' c' g))
        (fun v _ => g.edges.length - (intOf v).toNat)
      case atStart => exact ⟨0, Nat.zero_le _, rfl, Lib.hid rfl, hb, hB1⟩
      case round =>
        clear b1 b2 b3
        obtain ⟨k', hk', rfl, HI', hb', hB1'⟩ := hrel
        obtain ⟨b1, b2, b3⟩ := hB1'.facts
        by_cases hlt' : k' < g.edges.length
        · obtain ⟨y, hy⟩ := get_lt hlt'
          obtain ⟨rfl, hb0, ⟨⟨x0, x1, L, cl, x2, hl1, hl2, hL⟩, _⟩⟩ := hE k' y hy
          have y0 := x0.now hb'
          have y1 := x1.now hb'
          have y2 := x2.now hb'
          have hd := drop_cons hy
          have HI2 : Hid (edgesErr g.h g.lives.length (y :: g.edges.drop (k' + 1)) = edgesErr g.h g.lives.length g.edges) := by rw [← hd]; exact HI'
          clear hE hd hy HI' x0 x1 x2
          have hll : y.legs.length ≤ maxLen := Nat.le_trans hl1 hl2
          by_cases hok : edgeErr g.h g.lives.length y = 0
          · have HO := Lib.hid hok
            go_wp2_with (go_at_call 66; refine (edge_any _ _ L c c' cl g y _ (Nat.le_trans hG.lc hG.cm) (hL.ext RLeg.stable (ext_alloc hb' _)) hll).mono ?_; rintro e w1 ⟨rfl, hb1⟩)
            go_roundw
            case rel => exact ⟨k' + 1, by omega, by go_num, Lib.hid ((edgesErr_next HO.out).symm.trans HI2.out), ext_trans (ext_alloc hb' _) hb1, (hB1'.alloc _).ext hb1⟩
            case measure => simp [intOf]; omega
          · have HO := Lib.hid hok
            go_wp2_with (go_at_call 66; refine (edge_any _ _ L c c' cl g y _ (Nat.le_trans hG.lc hG.cm) (hL.ext RLeg.stable (ext_alloc hb' _)) hll).mono ?_; rintro e w1 ⟨rfl, hb1⟩)
            go_ret
            exact ⟨ret_int (by rw [E0.out, ← HI2.out, edgesErr_bad HO.out]), ext_trans (ext_alloc hb' _) hb1⟩
        · go_wp2
          go_ret
          exact ⟨ret_int (by rw [E0.out, ← HI'.out, drop_end (by omega)]; rfl), hb'⟩
end Go.Proofs.YtdpibehpmghghaaGreat
/- The walk of bsp.check. -/
namespace Go.Proofs.YtdpibehpmghghaaGreat
open Go.RowKit

def runErr (g : GraphD) (p v : Int) : Int := if graphErr g = 0 then (if 1 ≤ p ∧ p ≤ 3 then (if p ≠ 3 ∧ ¬ (0 ≤ v ∧ v < g.lives.length) then 4 else 0) else 1) else graphErr g
set_option maxHeartbeats 1000000 in
theorem bspCheck_any (A A' : Option Addr) (c c' : Nat) (g : GraphD) (p v : Int) (w : World) (hG : GraphAt w A c A' c' g) :
    Calls Tryz.prog 32 #[gV A c A' c' g, .int .i64 p, .int .i64 v] w fun e w' => e = .returned (.int .i64 (runErr g p v)) ∧ Below w.heap.size w w' := by
  have m1 : g.lives.length ≤ 9223372036854775807 := Nat.le_trans hG.lc hG.cm
  by_cases h0 : graphErr g = 0
  case neg =>
    have H0 : Hid (runErr g p v = graphErr g) := Lib.hid (by unfold runErr; rw [if_neg h0])
    have hn : (graphErr g != 0) = true := by simp [h0]
    go_enter Tryz.func32, Tryz.ntmps32
    go_wp2_with fail
    refine (check_any _ _ _ _ g _ (hG.ext (by go_grown))).mono ?_
    rintro e w1 ⟨rfl, hb1⟩
    have hb2 : Below w.heap.size w w1 := ext_trans (by go_grown) hb1
    go_wp2_with fail
    go_ret
    exact ⟨ret_int H0.out.symm, hb2⟩
  have H0 := Lib.hid h0
  by_cases hp : 1 ≤ p ∧ p ≤ 3
  case neg =>
    have H1 : Hid (runErr g p v = 1) := Lib.hid (by unfold runErr; rw [if_pos h0, if_neg hp])
    by_cases hp1 : 1 ≤ p
    · replace hp : ¬ p ≤ 3 := fun h => hp ⟨hp1, h⟩
      go_enter Tryz.func32, Tryz.ntmps32
      go_wp2_with fail
      refine (check_any _ _ _ _ g _ (hG.ext (by go_grown))).mono ?_
      rintro e w1 ⟨rfl, hb1⟩
      obtain ⟨B0, c1, c2, c3⟩ := (Blk.new w 25 (gC A c A' c' g)).go hb1
      have hb2 : Below w.heap.size w w1 := ext_trans (by go_grown) hb1
      go_wp2_with fail
      all_goals go_ret
      all_goals exact ⟨ret_int H1.out.symm, hb2⟩
    · clear hp
      go_enter Tryz.func32, Tryz.ntmps32
      go_wp2_with fail
      refine (check_any _ _ _ _ g _ (hG.ext (by go_grown))).mono ?_
      rintro e w1 ⟨rfl, hb1⟩
      obtain ⟨B0, c1, c2, c3⟩ := (Blk.new w 25 (gC A c A' c' g)).go hb1
      have hb2 : Below w.heap.size w w1 := ext_trans (by go_grown) hb1
      go_wp2_with fail
      all_goals go_ret
      all_goals exact ⟨ret_int H1.out.symm, hb2⟩
  obtain ⟨hp1, hp2⟩ := hp
  by_cases h3 : p = 3
  · subst h3
    have H1 : Hid (runErr g 3 v = 0) := Lib.hid (by unfold runErr; rw [if_pos h0, if_pos (by decide), if_neg (by simp)])
    go_enter Tryz.func32, Tryz.ntmps32
    go_wp2_with fail
    refine (check_any _ _ _ _ g _ (hG.ext (by go_grown))).mono ?_
    rintro e w1 ⟨rfl, hb1⟩
    obtain ⟨B0, c1, c2, c3⟩ := (Blk.new w 25 (gC A c A' c' g)).go hb1
    have hb2 : Below w.heap.size w w1 := ext_trans (by go_grown) hb1
    go_wp2_with fail
    all_goals go_ret
    all_goals exact ⟨ret_int H1.out.symm, hb2⟩
  · have hne : (p != 3) = true := by simp [h3]
    by_cases hv0 : 0 ≤ v
    · by_cases hv1 : v < g.lives.length
      · have H1 : Hid (runErr g p v = 0) := Lib.hid (by unfold runErr; rw [if_pos h0, if_pos ⟨hp1, hp2⟩, if_neg (by intro h; exact h.2 ⟨hv0, hv1⟩)])
        clear h3
        go_enter Tryz.func32, Tryz.ntmps32
        go_wp2_with fail
        refine (check_any _ _ _ _ g _ (hG.ext (by go_grown))).mono ?_
        rintro e w1 ⟨rfl, hb1⟩
        obtain ⟨B0, c1, c2, c3⟩ := (Blk.new w 25 (gC A c A' c' g)).go hb1
        have hb2 : Below w.heap.size w w1 := ext_trans (by go_grown) hb1
        go_wp2_with fail
        all_goals go_ret
        all_goals exact ⟨ret_int H1.out.symm, hb2⟩
      · have H1 : Hid (runErr g p v = 4) := Lib.hid (by unfold runErr; rw [if_pos h0, if_pos ⟨hp1, hp2⟩, if_pos ⟨h3, fun h => hv1 h.2⟩])
        clear h3
        go_enter Tryz.func32, Tryz.ntmps32
        go_wp2_with fail
        refine (check_any _ _ _ _ g _ (hG.ext (by go_grown))).mono ?_
        rintro e w1 ⟨rfl, hb1⟩
        obtain ⟨B0, c1, c2, c3⟩ := (Blk.new w 25 (gC A c A' c' g)).go hb1
        have hb2 : Below w.heap.size w w1 := ext_trans (by go_grown) hb1
        go_wp2_with fail
        all_goals go_ret
        all_goals exact ⟨ret_int H1.out.symm, hb2⟩
    · have H1 : Hid (runErr g p v = 4) := Lib.hid (by unfold runErr; rw [if_pos h0, if_pos ⟨hp1, hp2⟩, if_pos ⟨h3, fun h => hv0 h.1⟩])
      clear h3
      go_enter Tryz.func32, Tryz.ntmps32
      go_wp2_with fail
      refine (check_any _ _ _ _ g _ (hG.ext (by go_grown))).mono ?_
      rintro e w1 ⟨rfl, hb1⟩
      obtain ⟨B0, c1, c2, c3⟩ := (Blk.new w 25 (gC A c A' c' g)).go hb1
      have hb2 : Below w.heap.size w w1 := ext_trans (by go_grown) hb1
      go_wp2_with fail
      all_goals go_ret
      all_goals exact ⟨ret_int H1.out.symm, hb2⟩
end Go.Proofs.YtdpibehpmghghaaGreat
/- The walk of the document's Rest. -/
namespace Go.Proofs.YtdpibehpmghghaaGreat
open Go.RowKit

theorem rest_any (n m : Int) (w : World) (hn : I64 n) (hm : 0 < m) (hm2 : m ≤ 9223372036854775807) :
    Calls Tryz.prog 11 #[.int .i64 n, .int .i64 m] w fun e w' => e = .returned (.int .i64 (n % m)) ∧ w = w' := by
  obtain ⟨h0, h1⟩ := hn
  have hm0 : (m == 0) = false := by simp; omega
  have e1 : n.tmod m = if 0 ≤ n then n % m else -((-n) % m) := by
    split
    · rw [Int.tmod_eq_emod_of_nonneg (by omega)]
    · have := Int.neg_tmod (a := -n) (b := m)
      rw [Int.neg_neg] at this
      rw [this, Int.tmod_eq_emod_of_nonneg (by omega)]
  have b1 := Int.emod_nonneg n (show m ≠ 0 by omega)
  have b2 := Int.emod_lt_of_pos n hm
  have b3 := Int.emod_nonneg (-n) (show m ≠ 0 by omega)
  have b4 := Int.emod_lt_of_pos (-n) hm
  have key : n.tmod m < 0 → n.tmod m + m = n % m := by
    intro hneg
    have hn0 : ¬ 0 ≤ n := fun h => by rw [e1, if_pos h] at hneg; omega
    rw [e1, if_neg hn0] at hneg ⊢
    rw [Int.neg_emod, Int.natAbs_of_nonneg (by omega)] at hneg ⊢
    by_cases hd : m ∣ n
    · rw [if_pos hd] at hneg; omega
    · rw [if_neg hd]; omega
  have key2 : ¬ n.tmod m < 0 → n.tmod m = n % m := by
    intro hneg
    rw [e1] at hneg ⊢
    split
    · rfl
    · rename_i hn0
      rw [if_neg hn0] at hneg
      have h3 : (-n) % m = 0 := by omega
      have h4 : n % m = 0 := by
        have := Int.dvd_of_emod_eq_zero h3
        exact Int.emod_eq_zero_of_dvd (Int.dvd_neg.1 this)
      omega
  have c0 : -9223372036854775808 ≤ n.tmod m := by rw [e1]; split <;> omega
  have c1 : n.tmod m ≤ 9223372036854775807 := by rw [e1]; split <;> omega
  have K := Lib.hid key
  have K2 := Lib.hid key2
  clear key key2 e1
  generalize hq : n.tmod m = q at *
  by_cases hneg : q < 0
  · have hs := K.out hneg
    have HS := Lib.hid hs
    have hs0 : 0 ≤ q + m := by omega
    clear hs
    go_enter Tryz.func11, Tryz.ntmps11
    go_wp2
    go_ret
    exact ⟨ret_int (by rw [← HS.out]), rfl⟩
  · have HS := Lib.hid (K2.out hneg)
    go_enter Tryz.func11, Tryz.ntmps11
    go_wp2
    go_ret
    exact ⟨ret_int (by rw [← HS.out]), rfl⟩
end Go.Proofs.YtdpibehpmghghaaGreat
