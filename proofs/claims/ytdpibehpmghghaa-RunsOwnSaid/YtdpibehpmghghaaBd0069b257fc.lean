/- Several texts in one: Check, BspCheck, Rest, Step, Arrive, RefCheck, Place, RefGo, Go, Out, OutP, GoMain, LawGoes. -/
import Derived.Test.YtdpibehpmghghaaProg
import Derived.Test.YtdpibehpmghghaaBdc7e691d77d
import Derived.Test.YtdpibehpmghghaaBd34a084e1f0
import Derived.Test.YtdpibehpmghghaaBd9264425ae5
/- The walks of the graph's check, the program's and the document's. -/
namespace Go.Proofs.Ytdpibehpmghghaa
open Go.RowKit

set_option maxHeartbeats 400000 in
theorem leg_any (l : LegD) (h : Int) (w : World) : Calls Try.prog 96 #[legV l, .int .i64 h] w fun e w' => e = .returned (.bool (legOk l h)) ∧ Below w.heap.size w w' := by
  go_enter Try.func96, Try.ntmps96
  go_wp2
  all_goals go_ret
  all_goals (refine ⟨ret_bool ?_, ?_⟩ <;> first | (rw [Bool.eq_iff_iff]; simp [legOk]; omega) | go_grown)

theorem edgeErr_far {h n : Int} {x : EdgeD} (hh : inB x.a 0 (n - 1) = false ∨ inB x.b 0 (n - 1) = false) : edgeErr h n x = 4 := by unfold edgeErr; rw [if_pos hh]
theorem edgeErr_large {h n : Int} {x : EdgeD} (h1 : inB x.a 0 (n - 1) = true) (h2 : inB x.b 0 (n - 1) = true) (h3 : 6 < x.legs.length) : edgeErr h n x = 2 := by
  unfold edgeErr; rw [if_neg (by simp [h1, h2]), if_pos h3]
theorem edgeErr_legs {h n : Int} {x : EdgeD} (h1 : inB x.a 0 (n - 1) = true) (h2 : inB x.b 0 (n - 1) = true) (h3 : ¬ 6 < x.legs.length) : edgeErr h n x = legsErr h none x.legs := by
  unfold edgeErr; rw [if_neg (by simp [h1, h2]), if_neg h3]
theorem inB_true {n lo hi : Int} (h1 : lo ≤ n) (h2 : n ≤ hi) : inB n lo hi = true := by simp [inB, h1, h2]
theorem inB_false {n lo hi : Int} (h : n < lo ∨ hi < n) : inB n lo hi = false := by simp [inB]; omega
theorem within_yes (n lo hi : Int) (w : World) (h : lo ≤ n ∧ n ≤ hi) : Calls Try.prog 73 #[.int .i64 n, .int .i64 lo, .int .i64 hi] w fun e w' => e = .returned (.bool true) ∧ w = w' := by
  obtain ⟨h1, h2⟩ := h
  go_enter Try.func73, Try.ntmps73
  go_wp2
  go_ret
  exact ⟨ret_bool (by simp), rfl⟩
theorem within_no (n lo hi : Int) (w : World) (h : n < lo ∨ hi < n) : Calls Try.prog 73 #[.int .i64 n, .int .i64 lo, .int .i64 hi] w fun e w' => e = .returned (.bool false) ∧ w = w' := by
  go_enter Try.func73, Try.ntmps73
  go_wp2
  all_goals go_ret
  all_goals exact ⟨ret_bool (by simp; try omega), rfl⟩

set_option maxHeartbeats 1000000 in
theorem edge_any (A A' L : Option Addr) (c c' cl : Nat) (g : GraphD) (x : EdgeD) (w : World) (hg : g.lives.length ≤ maxLen) (hL : SlAt RLeg 4 w L x.legs) (hl : x.legs.length ≤ maxLen) :
    Calls Try.prog 74 #[gV A c A' c' g, edgeV L cl x] w fun e w' => e = .returned (.int .i64 (edgeErr g.h g.lives.length x)) ∧ Below w.heap.size w w' := by
  unfold maxLen at hg hl
  by_cases h1 : 0 ≤ x.a ∧ x.a ≤ (g.lives.length : Int) - 1
  case neg =>
    go_enter Try.func74, Try.ntmps74
    go_wp2_with (go_at_call 73; refine (within_no _ _ _ _ (by omega)).mono ?_; rintro e w' ⟨rfl, rfl⟩)
    go_ret
    exact ⟨ret_int (edgeErr_far (.inl (inB_false (by omega)))).symm, by go_grown⟩
  by_cases h2 : 0 ≤ x.b ∧ x.b ≤ (g.lives.length : Int) - 1
  case neg =>
    go_enter Try.func74, Try.ntmps74
    go_wp2_with (go_at_call 73; first | (refine (within_yes _ _ _ _ (by omega)).mono ?_; rintro e w' ⟨rfl, rfl⟩) | (refine (within_no _ _ _ _ (by omega)).mono ?_; rintro e w' ⟨rfl, rfl⟩))
    go_ret
    exact ⟨ret_int (edgeErr_far (.inr (inB_false (by omega)))).symm, by go_grown⟩
  have i1 := inB_true h1.1 h1.2
  have i2 := inB_true h2.1 h2.2
  have I1 := Lib.hid i1
  have I2 := Lib.hid i2
  clear i1 i2
  by_cases h3 : 6 < x.legs.length
  · go_enter Try.func74, Try.ntmps74
    go_wp2_with (go_at_call 73; refine (within_yes _ _ _ _ (by omega)).mono ?_; rintro e w' ⟨rfl, rfl⟩)
    go_ret
    exact ⟨ret_int (edgeErr_large I1.out I2.out h3).symm, by go_grown⟩
  have e0 := edgeErr_legs (h := g.h) I1.out I2.out h3
  rw [e0]
  clear e0 I1 I2
  obtain ⟨b, off, hL⟩ := hL
  go_enter Try.func74, Try.ntmps74
  go_wp2_with (go_at_call 73; refine (within_yes _ _ _ _ (by omega)).mono ?_; rintro e w' ⟨rfl, rfl⟩)
  go_loopw [32] (fun v wr => ∃ k : Nat, k ≤ x.legs.length ∧ v = .int .i64 k ∧ legsErr g.h (legAhead x.legs k) (x.legs.drop k) = legsErr g.h none x.legs ∧ Below w.heap.size w wr ∧ Blk wr w.heap.size 52 (gC A c A' c' g) ∧ Blk wr (w.heap.size + 1) 98 #[.int .i64 x.a, .int .i64 x.b, .slice L x.legs.length cl])
    (fun v _ => x.legs.length - (intOf v).toNat)
  case atStart => exact ⟨0, Nat.zero_le _, rfl, rfl, by go_grown, (Blk.new _ _ _).alloc _, Blk.new_ (by simp)⟩
  case round =>
    obtain ⟨k, hk, rfl, hinv, hb, hB1, hB2⟩ := hrel
    obtain ⟨b1, b2, b3⟩ := hB1.facts
    obtain ⟨d1, d2, d3⟩ := hB2.facts
    by_cases hlt : k < x.legs.length
    · obtain ⟨y, hy⟩ := get_lt hlt
      obtain ⟨rfl, hb0, ⟨⟨x0, x1, x2, x3⟩, _⟩⟩ := hL k y hy
      have hd := drop_cons hy
      rw [hd] at hinv
      have HI := Lib.hid hinv
      have HY := Lib.hid hy
      clear hinv hy hd
      unfold cellIs at x0 x1 x2 x3
      rw [← hb.cell (by exact hb0)] at x0 x1 x2 x3
      by_cases hok : legOk y g.h = true
      case neg =>
        have hok' : legOk y g.h = false := by simpa using hok
        clear hL hok
        go_wp2_with (first
            | (go_at_call 96; refine (leg_any y _ _).mono ?_; rintro e w1 ⟨rfl, hb1⟩))
        go_ret
        exact ⟨ret_int (by rw [← HI.out, legsErr_bad hok']), ext_trans (ext_alloc hb _) hb1⟩
      case pos =>
        by_cases hk0 : k ≤ 0
        · clear hL
          have hg0 : decide (0 < k) = false := by simp; omega
          go_wp2_with (first
            | (go_at_call 96; refine (leg_any y _ _).mono ?_; rintro e w1 ⟨rfl, hb1⟩; obtain ⟨q1, q2, q3⟩ := ((hB2.alloc _).ext hb1).facts; obtain ⟨r1, r2, r3⟩ := ((Blk.new wr 95 _).ext hb1).facts))
          go_quiet (fail)
          go_wp2
          go_roundw
          case rel =>
            obtain rfl : k = 0 := by omega
            refine ⟨1, by omega, by go_num, ?_, below_drewN (ext_trans (ext_alloc hb _) hb1) _, ((hB1.alloc _).ext hb1).drewN _, ((hB2.alloc _).ext hb1).drewN _⟩
            rw [← HI.out, legAhead_of HY.out]
            exact (legsErr_first hok).symm
          case measure => simp [intOf]; omega
        · obtain ⟨j, rfl⟩ : ∃ j, k = j + 1 := ⟨k - 1, by omega⟩
          obtain ⟨z, hz⟩ := get_lt (show j < x.legs.length by omega)
          obtain ⟨_, hb0, ⟨⟨z0, z1, z2, z3⟩, _⟩⟩ := hL j z hz
          have HZ := Lib.hid hz
          clear hL hz
          have hg1 : (0 : Int) < (j : Int) + 1 := by omega
          by_cases hlf : y.f < z.t
          · go_wp2_with (first
              | (go_at_call 96; refine (leg_any y _ _).mono ?_; rintro e w1 ⟨rfl, hb1⟩; obtain ⟨q1, q2, q3⟩ := ((hB2.alloc _).ext hb1).facts; obtain ⟨r1, r2, r3⟩ := ((Blk.new wr 95 _).ext hb1).facts;
                 have z1' := z1.now (ext_trans (ext_alloc hb _) hb1)))
            go_quiet (fail)
            go_wp2
            go_ret
            exact ⟨ret_int (by rw [← HI.out, legAhead_of HZ.out, legsErr_form hok hlf]), below_drewN (ext_trans (ext_alloc hb _) hb1) _⟩
          · go_wp2_with (first
              | (go_at_call 96; refine (leg_any y _ _).mono ?_; rintro e w1 ⟨rfl, hb1⟩; obtain ⟨q1, q2, q3⟩ := ((hB2.alloc _).ext hb1).facts; obtain ⟨r1, r2, r3⟩ := ((Blk.new wr 95 _).ext hb1).facts;
                 have z1' := z1.now (ext_trans (ext_alloc hb _) hb1)))
            go_quiet (fail)
            go_wp2
            go_roundw
            case rel =>
              refine ⟨j + 1 + 1, by omega, by go_num, ?_, below_drewN (ext_trans (ext_alloc hb _) hb1) _, ((hB1.alloc _).ext hb1).drewN _, ((hB2.alloc _).ext hb1).drewN _⟩
              rw [← HI.out, legAhead_of HY.out, legAhead_of HZ.out, legsErr_next hok (by omega)]
            case measure => simp [intOf]; omega
    · go_wp2
      go_ret
      exact ⟨ret_int (by rw [← hinv, drop_end (by omega)]; cases k <;> rfl), hb⟩

set_option maxHeartbeats 1000000 in
theorem check_any (A A' : Option Addr) (c c' : Nat) (g : GraphD) (w : World) (hG : GraphAt w A c A' c' g) :
    Calls Try.prog 66 #[gV A c A' c' g] w fun e w' => e = .returned (.int .i64 (graphErr g)) ∧ Below w.heap.size w w' := by
  have m1 : g.lives.length ≤ 9223372036854775807 := Nat.le_trans hG.lc hG.cm
  have m2 : g.edges.length ≤ 9223372036854775807 := Nat.le_trans hG.lc' hG.cm'
  by_cases h1 : 1 ≤ g.h ∧ g.h ≤ 100
  case neg =>
    go_enter Try.func66, Try.ntmps66
    go_wp2_with (go_at_call 73; refine (within_no _ _ _ _ (by omega)).mono ?_; rintro e w' ⟨rfl, rfl⟩)
    go_ret
    exact ⟨ret_int (graphErr_h (inB_false (by omega))).symm, by go_grown⟩
  have I1 := Lib.hid (inB_true h1.1 h1.2)
  by_cases h2 : 12 < g.lives.length
  · go_enter Try.func66, Try.ntmps66
    go_wp2_with (go_at_call 73; refine (within_yes _ _ _ _ (by omega)).mono ?_; rintro e w' ⟨rfl, rfl⟩)
    go_ret
    exact ⟨ret_int (graphErr_large I1.out (by omega)).symm, by go_grown⟩
  by_cases h3 : 30 < g.edges.length
  · go_enter Try.func66, Try.ntmps66
    go_wp2_with (go_at_call 73; refine (within_yes _ _ _ _ (by omega)).mono ?_; rintro e w' ⟨rfl, rfl⟩)
    go_ret
    exact ⟨ret_int (graphErr_large I1.out (by omega)).symm, by go_grown⟩
  obtain ⟨b, off, hL⟩ := hG.lives
  go_enter Try.func66, Try.ntmps66
  go_wp2_with (go_at_call 73; refine (within_yes _ _ _ _ (by omega)).mono ?_; rintro e w' ⟨rfl, rfl⟩)
  go_loopw [25] (fun v wr => ∃ k : Nat, k ≤ g.lives.length ∧ v = .int .i64 k ∧ Hid ((g.lives.drop k).all (lifeOk g.h) = g.lives.all (lifeOk g.h)) ∧ Below w.heap.size w wr ∧ Blk wr w.heap.size 52 (gC A c A' c' g))
    (fun v _ => g.lives.length - (intOf v).toNat)
  case atStart => exact ⟨0, Nat.zero_le _, rfl, Lib.hid rfl, by go_grown, Blk.new _ _ _⟩
  case round =>
    obtain ⟨k, hk, rfl, HI, hb, hB1⟩ := hrel
    obtain ⟨b1, b2, b3⟩ := hB1.facts
    by_cases hlt : k < g.lives.length
    · obtain ⟨y, hy⟩ := get_lt hlt
      obtain ⟨rfl, hb0, ⟨⟨x0, x1⟩, _⟩⟩ := hL k y hy
      have y0 := x0.now hb
      have y1 := x1.now hb
      have hd := drop_cons hy
      have HI2 : Hid ((y :: g.lives.drop (k + 1)).all (lifeOk g.h) = g.lives.all (lifeOk g.h)) := by rw [← hd]; exact HI
      clear hL hd hy HI x0 x1
      by_cases hok : 0 ≤ y.f ∧ y.f < y.t ∧ y.t ≤ g.h
      · obtain ⟨k1, k2, k3⟩ := hok
        go_wp2
        go_roundw
        case rel => exact ⟨k + 1, by omega, by go_num, Lib.hid ((all_next (lifeOk_true ⟨k1, k2, k3⟩)).symm.trans HI2.out), ext_alloc hb _, hB1.alloc _⟩
        case measure => simp [intOf]; omega
      · go_wp2
        all_goals go_ret
        all_goals exact ⟨ret_int (graphErr_life I1.out (by omega) (HI2.out.symm.trans (all_bad (lifeOk_false (by omega))))).symm, ext_alloc hb _⟩
    · have hall : g.lives.all (lifeOk g.h) = true := by rw [← HI.out, drop_end (by omega)]; rfl
      have e0 := graphErr_edges I1.out (by omega) hall
      have E0 := Lib.hid e0
      clear e0 hall HI hL
      obtain ⟨b', off', hE⟩ := hG.edges
      obtain ⟨wo, rfl⟩ : ∃ wo : World, wo = wr := ⟨_, rfl⟩
      go_wp2
      go_loopw [50] (fun v wr => ∃ k : Nat, k ≤ g.edges.length ∧ v = .int .i64 k ∧ Hid (edgesErr g.h g.lives.length (g.edges.drop k) = edgesErr g.h g.lives.length g.edges) ∧ Below w.heap.size w wr ∧ Blk wr w.heap.size 52 (gC A c A' c' g))
        (fun v _ => g.edges.length - (intOf v).toNat)
      case atStart => exact ⟨0, Nat.zero_le _, rfl, Lib.hid rfl, hb, hB1⟩
      case round =>
        clear b1 b2 b3
        obtain ⟨k', hk', rfl, HI', hb', hB1'⟩ := hrel
        obtain ⟨b1, b2, b3⟩ := hB1'.facts
        by_cases hlt' : k' < g.edges.length
        · obtain ⟨y, hy⟩ := get_lt hlt'
          obtain ⟨rfl, hb0, ⟨⟨x0, x1, L, cl, x2, hl1, hl2, hL⟩, _⟩⟩ := hE k' y hy
          have y0 := x0.now hb'
          have y1 := x1.now hb'
          have y2 := x2.now hb'
          have hd := drop_cons hy
          have HI2 : Hid (edgesErr g.h g.lives.length (y :: g.edges.drop (k' + 1)) = edgesErr g.h g.lives.length g.edges) := by rw [← hd]; exact HI'
          clear hE hd hy HI' x0 x1 x2
          have hll : y.legs.length ≤ maxLen := Nat.le_trans hl1 hl2
          by_cases hok : edgeErr g.h g.lives.length y = 0
          · have HO := Lib.hid hok
            go_wp2_with (go_at_call 74; refine (edge_any _ _ L c c' cl g y _ (Nat.le_trans hG.lc hG.cm) (hL.ext RLeg.stable (ext_alloc hb' _)) hll).mono ?_; rintro e w1 ⟨rfl, hb1⟩)
            go_roundw
            case rel => exact ⟨k' + 1, by omega, by go_num, Lib.hid ((edgesErr_next HO.out).symm.trans HI2.out), ext_trans (ext_alloc hb' _) hb1, (hB1'.alloc _).ext hb1⟩
            case measure => simp [intOf]; omega
          · have HO := Lib.hid hok
            go_wp2_with (go_at_call 74; refine (edge_any _ _ L c c' cl g y _ (Nat.le_trans hG.lc hG.cm) (hL.ext RLeg.stable (ext_alloc hb' _)) hll).mono ?_; rintro e w1 ⟨rfl, hb1⟩)
            go_ret
            exact ⟨ret_int (by rw [E0.out, ← HI2.out, edgesErr_bad HO.out]), ext_trans (ext_alloc hb' _) hb1⟩
        · go_wp2
          go_ret
          exact ⟨ret_int (by rw [E0.out, ← HI'.out, drop_end (by omega)]; rfl), hb'⟩
end Go.Proofs.Ytdpibehpmghghaa
/- The walk of bsp.check. -/
namespace Go.Proofs.Ytdpibehpmghghaa
open Go.RowKit

def runErr (g : GraphD) (p v : Int) : Int := if graphErr g = 0 then (if 1 ≤ p ∧ p ≤ 3 then (if p ≠ 3 ∧ ¬ (0 ≤ v ∧ v < g.lives.length) then 4 else 0) else 1) else graphErr g
set_option maxHeartbeats 1000000 in
theorem bspCheck_any (A A' : Option Addr) (c c' : Nat) (g : GraphD) (p v : Int) (w : World) (hG : GraphAt w A c A' c' g) :
    Calls Try.prog 47 #[gV A c A' c' g, .int .i64 p, .int .i64 v] w fun e w' => e = .returned (.int .i64 (runErr g p v)) ∧ Below w.heap.size w w' := by
  have m1 : g.lives.length ≤ 9223372036854775807 := Nat.le_trans hG.lc hG.cm
  by_cases h0 : graphErr g = 0
  case neg =>
    have H0 : Hid (runErr g p v = graphErr g) := Lib.hid (by unfold runErr; rw [if_neg h0])
    have hn : (graphErr g != 0) = true := by simp [h0]
    go_enter Try.func47, Try.ntmps47
    go_wp2_with fail
    refine (check_any _ _ _ _ g _ (hG.ext (by go_grown))).mono ?_
    rintro e w1 ⟨rfl, hb1⟩
    have hb2 : Below w.heap.size w w1 := ext_trans (by go_grown) hb1
    go_wp2_with fail
    go_ret
    exact ⟨ret_int H0.out.symm, hb2⟩
  have H0 := Lib.hid h0
  by_cases hp : 1 ≤ p ∧ p ≤ 3
  case neg =>
    have H1 : Hid (runErr g p v = 1) := Lib.hid (by unfold runErr; rw [if_pos h0, if_neg hp])
    by_cases hp1 : 1 ≤ p
    · replace hp : ¬ p ≤ 3 := fun h => hp ⟨hp1, h⟩
      go_enter Try.func47, Try.ntmps47
      go_wp2_with fail
      refine (check_any _ _ _ _ g _ (hG.ext (by go_grown))).mono ?_
      rintro e w1 ⟨rfl, hb1⟩
      obtain ⟨B0, c1, c2, c3⟩ := (Blk.new w 52 (gC A c A' c' g)).go hb1
      have hb2 : Below w.heap.size w w1 := ext_trans (by go_grown) hb1
      go_wp2_with fail
      all_goals go_ret
      all_goals exact ⟨ret_int H1.out.symm, hb2⟩
    · clear hp
      go_enter Try.func47, Try.ntmps47
      go_wp2_with fail
      refine (check_any _ _ _ _ g _ (hG.ext (by go_grown))).mono ?_
      rintro e w1 ⟨rfl, hb1⟩
      obtain ⟨B0, c1, c2, c3⟩ := (Blk.new w 52 (gC A c A' c' g)).go hb1
      have hb2 : Below w.heap.size w w1 := ext_trans (by go_grown) hb1
      go_wp2_with fail
      all_goals go_ret
      all_goals exact ⟨ret_int H1.out.symm, hb2⟩
  obtain ⟨hp1, hp2⟩ := hp
  by_cases h3 : p = 3
  · subst h3
    have H1 : Hid (runErr g 3 v = 0) := Lib.hid (by unfold runErr; rw [if_pos h0, if_pos (by decide), if_neg (by simp)])
    go_enter Try.func47, Try.ntmps47
    go_wp2_with fail
    refine (check_any _ _ _ _ g _ (hG.ext (by go_grown))).mono ?_
    rintro e w1 ⟨rfl, hb1⟩
    obtain ⟨B0, c1, c2, c3⟩ := (Blk.new w 52 (gC A c A' c' g)).go hb1
    have hb2 : Below w.heap.size w w1 := ext_trans (by go_grown) hb1
    go_wp2_with fail
    all_goals go_ret
    all_goals exact ⟨ret_int H1.out.symm, hb2⟩
  · have hne : (p != 3) = true := by simp [h3]
    by_cases hv0 : 0 ≤ v
    · by_cases hv1 : v < g.lives.length
      · have H1 : Hid (runErr g p v = 0) := Lib.hid (by unfold runErr; rw [if_pos h0, if_pos ⟨hp1, hp2⟩, if_neg (by intro h; exact h.2 ⟨hv0, hv1⟩)])
        clear h3
        go_enter Try.func47, Try.ntmps47
        go_wp2_with fail
        refine (check_any _ _ _ _ g _ (hG.ext (by go_grown))).mono ?_
        rintro e w1 ⟨rfl, hb1⟩
        obtain ⟨B0, c1, c2, c3⟩ := (Blk.new w 52 (gC A c A' c' g)).go hb1
        have hb2 : Below w.heap.size w w1 := ext_trans (by go_grown) hb1
        go_wp2_with fail
        all_goals go_ret
        all_goals exact ⟨ret_int H1.out.symm, hb2⟩
      · have H1 : Hid (runErr g p v = 4) := Lib.hid (by unfold runErr; rw [if_pos h0, if_pos ⟨hp1, hp2⟩, if_pos ⟨h3, fun h => hv1 h.2⟩])
        clear h3
        go_enter Try.func47, Try.ntmps47
        go_wp2_with fail
        refine (check_any _ _ _ _ g _ (hG.ext (by go_grown))).mono ?_
        rintro e w1 ⟨rfl, hb1⟩
        obtain ⟨B0, c1, c2, c3⟩ := (Blk.new w 52 (gC A c A' c' g)).go hb1
        have hb2 : Below w.heap.size w w1 := ext_trans (by go_grown) hb1
        go_wp2_with fail
        all_goals go_ret
        all_goals exact ⟨ret_int H1.out.symm, hb2⟩
    · have H1 : Hid (runErr g p v = 4) := Lib.hid (by unfold runErr; rw [if_pos h0, if_pos ⟨hp1, hp2⟩, if_pos ⟨h3, fun h => hv0 h.1⟩])
      clear h3
      go_enter Try.func47, Try.ntmps47
      go_wp2_with fail
      refine (check_any _ _ _ _ g _ (hG.ext (by go_grown))).mono ?_
      rintro e w1 ⟨rfl, hb1⟩
      obtain ⟨B0, c1, c2, c3⟩ := (Blk.new w 52 (gC A c A' c' g)).go hb1
      have hb2 : Below w.heap.size w w1 := ext_trans (by go_grown) hb1
      go_wp2_with fail
      all_goals go_ret
      all_goals exact ⟨ret_int H1.out.symm, hb2⟩
end Go.Proofs.Ytdpibehpmghghaa
/- The walk of the document's Rest. -/
namespace Go.Proofs.Ytdpibehpmghghaa
open Go.RowKit

end Go.Proofs.Ytdpibehpmghghaa
/- The walks of one step: alive, the leg of a time, when one comes; the program's and the document's. -/
namespace Go.Proofs.Ytdpibehpmghghaa
open Go.RowKit

/-- The two results of looking for a leg. -/
def legsR (o : Option LegD) : Value := match o with
  | some x => .tuple #[legV x, .bool true]
  | none => .tuple #[legV ⟨0, 0, 0, 0⟩, .bool false]

end Go.Proofs.Ytdpibehpmghghaa
/- The walks: when one comes along an edge, what is wrong with a place; the program's and the document's. -/
namespace Go.Proofs.Ytdpibehpmghghaa
open Go.RowKit

/-- The three results of Arrive. -/
def arriveR (o : Option (LegD × Int)) : Value := match o with
  | some (l, to) => .tuple #[legV l, .int .i64 to, .bool true]
  | none => .tuple #[legV ⟨0, 0, 0, 0⟩, .int .i64 0, .bool false]

end Go.Proofs.Ytdpibehpmghghaa
/- The walk of the document's check of a graph: it tells what the program's check tells. -/
namespace Go.Proofs.Ytdpibehpmghghaa
open Go.RowKit

end Go.Proofs.Ytdpibehpmghghaa
/- The walks: what is wrong with a place (program and document), when one lands (document). -/
namespace Go.Proofs.Ytdpibehpmghghaa
open Go.RowKit

theorem first_of {b : Bool} {x : Int} (h : b = false → x = 1) (h' : b = true → x = 0) {d : Bool} (e : b = d) : x = if d then 0 else 1 := by
  cases d
  · exact h e
  · exact h' e
theorem neq_of {a : Int} (h : a = 0) : (a != 0) = false := by simp [h]
theorem neq_of' {a : Int} (h : ¬ a = 0) : (a != 0) = true := by simp [h]

/-- The three results of Lands. -/
def landsR (o : Option (LegD × Int)) : Value := match o with
  | some (l, to) => .tuple #[.int .i64 to, .int .i64 l.cost, .bool true]
  | none => .tuple #[.int .i64 0, .int .i64 0, .bool false]

end Go.Proofs.Ytdpibehpmghghaa
/- The walk of the document's Go: it tells what goR tells. -/
namespace Go.Proofs.Ytdpibehpmghghaa
open Go.RowKit

/-- What the loop knows: where one is (ok), or that the list is no journey. -/
def GoInv (g : GraphD) (v t : Int) (l : List HopD) (n : Nat) (x y z : Int) (ok : Bool) : Prop :=
  (ok = true → aliveB g v t = true ∧ 0 ≤ z ∧ z ≤ 1000 * n ∧ goL g x y z (l.drop n) = goL g v t 0 l) ∧ (ok = false → goR g v t l = (0, 0, 0, 5))

end Go.Proofs.Ytdpibehpmghghaa
/- The walk of journey.Go: it tells what goR tells. -/
namespace Go.Proofs.Ytdpibehpmghghaa
open Go.RowKit

end Go.Proofs.Ytdpibehpmghghaa
/- The walks of journey.Out and of the document's Outs: they tell the same list. -/
namespace Go.Proofs.Ytdpibehpmghghaa
open Go.RowKit

theorem hop_one {a b : Int} : ∀ u ∈ (#[.int .i64 a, .int .i64 b] : Array Value).toList, u.oneCell' = true := by simp [Value.oneCell']
theorem hopEnc_len (x : HopD) : (hopEnc x).length = 2 := rfl
/-- A list of hops and an error are told. -/
def HopsOut (l : List HopD) (er : Int) (w : World) (e : Ending) (w' : World) : Prop := ∃ A c, e = .returned (.tuple #[.slice A l.length c, .int .i64 er]) ∧ SlAt RHop 2 w' A l ∧ l.length ≤ maxLen ∧ Below w.heap.size w w'
def HopsOut1 (l : List HopD) (w : World) (e : Ending) (w' : World) : Prop := ∃ A c, e = .returned (.slice A l.length c) ∧ SlAt RHop 2 w' A l ∧ l.length ≤ maxLen ∧ Below w.heap.size w w'
theorem outs_small {g : GraphD} {v t : Int} (hV : Valid g) (h0 : 0 ≤ t) (h1 : t < g.h) : (outs g v t).length ≤ 3000 ∧ ∀ x, x ∈ outs g v t → I64 x.edge ∧ I64 x.depart := by
  have hh := hV.h1; have hne := hV.ne
  unfold outs
  split
  · have hl := outsL_len (g := g) (v := v) (g.h - t).toNat t
    have hm : (g.h - t).toNat * g.edges.length ≤ 100 * 30 := Nat.mul_le_mul (by omega) hne
    refine ⟨by omega, fun x hx => ?_⟩
    obtain ⟨h2, h3, h4⟩ := (outsL_mem _ _).1 hx
    obtain ⟨_, k, y, hk, he, _⟩ := (outsAt_mem _ _).1 h4
    have := lt_of_get hk
    exact ⟨⟨by omega, by omega⟩, by unfold I64; omega⟩
  · exact ⟨by simp, by simp⟩

end Go.Proofs.Ytdpibehpmghghaa
/- The walk of journey.Out. -/
namespace Go.Proofs.Ytdpibehpmghghaa
open Go.RowKit

end Go.Proofs.Ytdpibehpmghghaa
/- The walk of journey.Go behind its checks. -/
namespace Go.Proofs.Ytdpibehpmghghaa
open Go.RowKit

end Go.Proofs.Ytdpibehpmghghaa
/- The walk of the law JourneyGoes: both Go's tell the same. -/
namespace Go.Proofs.Ytdpibehpmghghaa
open Go.RowKit

end Go.Proofs.Ytdpibehpmghghaa
