/- Several texts in one: EqualS, RefCheck. -/
import Derived.Laws.StructEq
import Derived.Test.YtdpibehpmghghaaDoorBd3ad2f3bfb1
import Derived.Test.YtdpibehpmghghaaDoorBd6508cabd72
/- slices.Equal at marks and at arcs. -/
namespace Go.Proofs.YtdpibehpmghghaaDoor
open Go.RowKit

abbrev arcVS (x : ArcD) : Value := .agg #[.int .i64 x.a, .int .i64 x.b, .int .i64 x.cost]
theorem take_eq_ofAS {α : Type} {a b : List α} (hl : a.length = b.length) {k : Nat} (hk : a.length ≤ k) (h : a.take k = b.take k) : a = b := by
  rwa [List.take_of_length_le hk, List.take_of_length_le (by omega)] at h
theorem take_stepAS {α : Type} {a b : List α} {k : Nat} {x y : α} (hx : a[k]? = some x) (hy : b[k]? = some y) (h : a.take k = b.take k) (hxy : x = y) : a.take (k + 1) = b.take (k + 1) := by
  rw [List.take_add_one, List.take_add_one, hx, hy, h, hxy]
theorem ne_of_getAS {α : Type} {a b : List α} {k : Nat} {x y : α} (hx : a[k]? = some x) (hy : b[k]? = some y) (hxy : ¬ x = y) : ¬ a = b := by
  rintro rfl
  rw [hx] at hy
  exact hxy (by simpa using hy)

set_option maxHeartbeats 1000000 in
theorem equalBools_anyS (A B : Option Addr) (c d : Nat) (a b : List Bool) (w : World) (hA : SlAt RBool 1 w A a) (hB : SlAt RBool 1 w B b) (ha : a.length ≤ maxLen) (_ : b.length ≤ maxLen) :
    Calls Tryd.prog 15 #[.slice A a.length c, .slice B b.length d] w fun e w' => e = .returned (.bool (decide (a = b))) ∧ Below w.heap.size w w' := by
  unfold maxLen at ha
  by_cases hl : a.length = b.length
  case neg =>
    have hne : ((a.length : Int) != (b.length : Int)) = true := by simp; omega
    go_enter Tryd.func15, Tryd.ntmps15
    go_wp2_with fail
    go_ret
    exact ⟨ret_bool (by symm; simp; intro h; exact hl (by rw [h])), Below.refl _ _⟩
  have hne : ((a.length : Int) != (b.length : Int)) = false := by simp; omega
  obtain ⟨ba, oa, hA⟩ := hA
  obtain ⟨bb, ob, hB⟩ := hB
  have HL := Lib.hid hl
  have hl1 : a.length ≤ b.length := by omega
  have hl2 : b.length ≤ a.length := by omega
  clear hl
  go_enter Tryd.func15, Tryd.ntmps15
  go_wp2_with fail
  go_loopw [13] (fun v wr => ∃ k : Nat, k ≤ a.length ∧ v = .int .i64 k ∧ Hid (a.take k = b.take k) ∧ Below w.heap.size w wr) (fun v _ => a.length - (intOf v).toNat)
  case atStart => exact ⟨0, Nat.zero_le _, rfl, Lib.hid (by simp), Below.refl _ _⟩
  case round =>
    obtain ⟨k, hk, rfl, HI, hw⟩ := hrel
    by_cases hlt : k < a.length
    · obtain ⟨x, hx⟩ := get_lt hlt
      obtain ⟨y, hy⟩ := get_lt (show k < b.length by omega)
      obtain ⟨rfl, hba, x0⟩ := hA k x hx
      obtain ⟨rfl, hbb, y0⟩ := hB k y hy
      have x1 := x0.now hw
      have y1 := y0.now hw
      simp only [Nat.mul_one] at x1 y1
      have HX := Lib.hid hx
      have HY := Lib.hid hy
      have hlt2 : k < b.length := by omega
      clear hA hB hx hy x0 y0
      by_cases hxy : x = y
      · have HXY := Lib.hid hxy
        have hn : (x == y) = true := by simp [hxy]
        clear hxy
        go_wp2_with fail
        go_quiet (fail)
        go_wp2
        go_roundw
        case rel => exact ⟨k + 1, by omega, by go_num, Lib.hid (take_stepAS HX.out HY.out HI.out HXY.out), below_drewN hw _⟩
        case measure => simp [intOf]; omega
      · have HXY := Lib.hid hxy
        have hn : (x == y) = false := by simp [hxy]
        clear hxy
        go_wp2_with fail
        go_quiet (fail)
        go_wp2
        go_ret
        exact ⟨ret_bool (by symm; simp; exact ne_of_getAS HX.out HY.out HXY.out), below_drewN hw _⟩
    · go_wp2_with fail
      go_ret
      exact ⟨ret_bool (by symm; simp; exact take_eq_ofAS HL.out (by omega) HI.out), hw⟩
theorem fields_arc : Tryd.prog.underlying 42 = some (.struct (Tryd.prog.fieldsOf 42)) := by kernel_rfl
theorem guard_arc : Tryd.prog.eqGuardType Tryd.prog.depth 42 = false := by kernel_rfl
theorem held_arc : Tryd.prog.stoodInHeld 42 = false := by kernel_rfl
theorem same_arc (x y : ArcD) (w : World) : (Op.equalIn 10000 42 (arcVS x) (arcVS y)).run Tryd.prog w = .ok (decide (x = y)) w := by
  have e : decide (x = y) = decide (x.a = y.a ∧ x.b = y.b ∧ x.cost = y.cost) := by rw [decide_eq_decide]; cases x; cases y; simp
  rw [e, run_equalIn_agg w 9999 42 _ _ fields_arc held_arc]
  have hf : (Tryd.prog.fieldsOf 42).toList = (match Tryd.prog.underlying 42 with | some (.struct fs) => fs.toList | _ => []) := by kernel_rfl
  rw [hf, Tryd.underlying42]
  simp [Op.eqFields, go_sem]
  by_cases hf : x.a = y.a <;> by_cases ht : x.b = y.b <;> by_cases hv : x.cost = y.cost <;> simp [*]
set_option maxHeartbeats 1000000 in
theorem equalArcs_any (A B : Option Addr) (c d : Nat) (a b : List ArcD) (w : World) (hA : SlAt RArc 3 w A a) (hB : SlAt RArc 3 w B b) (ha : a.length ≤ maxLen) (hb : b.length ≤ maxLen) :
    Calls Tryd.prog 16 #[.slice A a.length c, .slice B b.length d] w fun e w' => e = .returned (.bool (decide (a = b))) ∧ Below w.heap.size w w' := by
  unfold maxLen at ha hb
  by_cases hl : a.length = b.length
  case neg =>
    have hne : ((a.length : Int) != (b.length : Int)) = true := by simp; omega
    go_enter Tryd.func16, Tryd.ntmps16
    go_wp2_with fail
    go_ret
    exact ⟨ret_bool (by symm; simp; intro h; exact hl (by rw [h])), Below.refl _ _⟩
  have hne : ((a.length : Int) != (b.length : Int)) = false := by simp; omega
  obtain ⟨ba, oa, hA⟩ := hA
  obtain ⟨bb, ob, hB⟩ := hB
  have HL := Lib.hid hl
  have hl1 : a.length ≤ b.length := by omega
  have hl2 : b.length ≤ a.length := by omega
  clear hl
  go_enter Tryd.func16, Tryd.ntmps16
  go_wp2_with fail
  go_loopw [13] (fun v wr => ∃ k : Nat, k ≤ a.length ∧ v = .int .i64 k ∧ Hid (a.take k = b.take k) ∧ Below w.heap.size w wr) (fun v _ => a.length - (intOf v).toNat)
  case atStart => exact ⟨0, Nat.zero_le _, rfl, Lib.hid (by simp), Below.refl _ _⟩
  case round =>
    obtain ⟨k, hk, rfl, HI, hw⟩ := hrel
    by_cases hlt : k < a.length
    · obtain ⟨x, hx⟩ := get_lt hlt
      obtain ⟨y, hy⟩ := get_lt (show k < b.length by omega)
      obtain ⟨rfl, hba, ⟨x0, x1, x2⟩, _⟩ := hA k x hx
      obtain ⟨rfl, hbb, ⟨y0, y1, y2⟩, _⟩ := hB k y hy
      have x0' := x0.now hw
      have y0' := y0.now hw
      have x1' := x1.now hw
      have y1' := y1.now hw
      have x2' := x2.now hw
      have y2' := y2.now hw
      have HX := Lib.hid hx
      have HY := Lib.hid hy
      have hlt2 : k < b.length := by omega
      clear hA hB hx hy x0 y0 x1 y1 x2 y2
      by_cases hxy : x = y
      · have HXY := Lib.hid hxy
        have hn : decide (x = y) = true := by simp [hxy]
        have hs := same_arc x y
        rw [hn] at hs
        have hgd := guard_arc
        clear hxy
        go_wp2_with fail
        go_quiet (fail)
        go_wp2
        go_roundw
        case rel => exact ⟨k + 1, by omega, by go_num, Lib.hid (take_stepAS HX.out HY.out HI.out HXY.out), below_drewN hw _⟩
        case measure => simp [intOf]; omega
      · have HXY := Lib.hid hxy
        have hn : decide (x = y) = false := by simp [hxy]
        have hs := same_arc x y
        rw [hn] at hs
        have hgd := guard_arc
        clear hxy
        go_wp2_with fail
        go_quiet (fail)
        go_wp2
        go_ret
        exact ⟨ret_bool (by symm; simp; exact ne_of_getAS HX.out HY.out HXY.out), below_drewN hw _⟩
    · go_wp2_with fail
      go_ret
      exact ⟨ret_bool (by symm; simp; exact take_eq_ofAS HL.out (by omega) HI.out), hw⟩
end Go.Proofs.YtdpibehpmghghaaDoor
/- The walk of the document's check of a graph: it tells what the program's check tells. -/
namespace Go.Proofs.YtdpibehpmghghaaDoor
open Go.RowKit

set_option maxRecDepth 100000 in
set_option maxHeartbeats 4000000 in
theorem refGraph_any (A A' : Option Addr) (c c' : Nat) (g : GraphD) (w : World) (hG : GraphAt w A c A' c' g) :
    Calls Tryd.prog 8 #[gV A c A' c' g] w fun e w' => e = .returned (.int .i64 (graphErr g)) ∧ Below w.heap.size w w' := by
  have m1 : g.lives.length ≤ 9223372036854775807 := Nat.le_trans hG.lc hG.cm
  have m2 : g.edges.length ≤ 9223372036854775807 := Nat.le_trans hG.lc' hG.cm'
  cases h1 : inB g.h 1 100
  case false =>
    go_enter Tryd.func8, Tryd.ntmps8
    go_wp2_with (go_at_call 12; refine (in_any _ _ _ _).mono ?_; rintro e w' ⟨rfl, rfl⟩)
    go_ret
    exact ⟨ret_int (graphErr_h h1).symm, by go_grown⟩
  have I1 := Lib.hid h1
  by_cases h2 : 12 < g.lives.length
  · go_enter Tryd.func8, Tryd.ntmps8
    go_wp2_with (go_at_call 12; refine (in_any _ _ _ _).mono ?_; rintro e w' ⟨rfl, rfl⟩)
    go_ret
    exact ⟨ret_int (graphErr_large I1.out (by omega)).symm, by go_grown⟩
  by_cases h3 : 30 < g.edges.length
  · go_enter Tryd.func8, Tryd.ntmps8
    go_wp2_with (go_at_call 12; refine (in_any _ _ _ _).mono ?_; rintro e w' ⟨rfl, rfl⟩)
    go_ret
    exact ⟨ret_int (graphErr_large I1.out (by omega)).symm, by go_grown⟩
  obtain ⟨b, off, hL⟩ := hG.lives
  go_enter Tryd.func8, Tryd.ntmps8
  go_wp2_with (go_at_call 12; refine (in_any _ _ _ _).mono ?_; rintro e w' ⟨rfl, rfl⟩)
  go_loopw [3] (fun v wr => ∃ k : Nat, k ≤ g.lives.length ∧ v = .int .i64 k ∧ Hid ((g.lives.drop k).all (lifeOk g.h) = g.lives.all (lifeOk g.h)) ∧ Below w.heap.size w wr ∧ Blk wr w.heap.size 25 (gC A c A' c' g))
    (fun v _ => g.lives.length - (intOf v).toNat)
  case atStart => exact ⟨0, Nat.zero_le _, rfl, Lib.hid rfl, by go_grown, Blk.new _ _ _⟩
  case round =>
    clear h1
    obtain ⟨k, hk, rfl, HI, hb, hB1⟩ := hrel
    obtain ⟨b1, b2, b3⟩ := hB1.facts
    by_cases hlt : k < g.lives.length
    · obtain ⟨y, hy⟩ := get_lt hlt
      obtain ⟨rfl, hb0, ⟨⟨x0, x1⟩, _⟩⟩ := hL k y hy
      have y0 := x0.now hb
      have y1 := x1.now hb
      have hd := drop_cons hy
      have HI2 : Hid ((y :: g.lives.drop (k + 1)).all (lifeOk g.h) = g.lives.all (lifeOk g.h)) := by rw [← hd]; exact HI
      clear hL hd hy HI x0 x1
      by_cases hok : 0 ≤ y.f ∧ y.f < y.t ∧ y.t ≤ g.h
      · obtain ⟨k1, k2, k3⟩ := hok
        go_wp2
        go_roundw
        case rel => exact ⟨k + 1, by omega, by go_num, Lib.hid ((all_next (lifeOk_true ⟨k1, k2, k3⟩)).symm.trans HI2.out), ext_alloc hb _, hB1.alloc _⟩
        case measure => simp [intOf]; omega
      · go_wp2
        all_goals go_ret
        all_goals exact ⟨ret_int (graphErr_life I1.out (by omega) (HI2.out.symm.trans (all_bad (lifeOk_false (by omega))))).symm, ext_alloc hb _⟩
    · have hall : g.lives.all (lifeOk g.h) = true := by rw [← HI.out, drop_end (by omega)]; rfl
      have e0 := graphErr_edges I1.out (by omega) hall
      have E0 := Lib.hid e0
      clear e0 hall HI hL
      obtain ⟨b', off', hE⟩ := hG.edges
      obtain ⟨wo, rfl⟩ : ∃ wo : World, wo = wr := ⟨_, rfl⟩
      go_wp2
      go_loopw [5] (fun v wr => ∃ k : Nat, k ≤ g.edges.length ∧ v = .int .i64 k ∧ Hid (edgesErr g.h g.lives.length (g.edges.drop k) = edgesErr g.h g.lives.length g.edges) ∧ Below w.heap.size w wr ∧ Blk wr w.heap.size 25 (gC A c A' c' g))
        (fun v _ => g.edges.length - (intOf v).toNat)
      case atStart => exact ⟨0, Nat.zero_le _, rfl, Lib.hid rfl, hb, hB1⟩
      case round =>
        clear b1 b2 b3
        obtain ⟨k', hk', rfl, HI', hb', hB1'⟩ := hrel
        obtain ⟨b1, b2, b3⟩ := hB1'.facts
        by_cases hlt' : k' < g.edges.length
        · obtain ⟨y, hy⟩ := get_lt hlt'
          obtain ⟨rfl, hb0, ⟨⟨x0, x1, L, cl, x2, hl1, hl2, hL⟩, _⟩⟩ := hE k' y hy
          have y0 := x0.now hb'
          have y1 := x1.now hb'
          have y2 := x2.now hb'
          have hd := drop_cons hy
          have HI2 : Hid (edgesErr g.h g.lives.length (y :: g.edges.drop (k' + 1)) = edgesErr g.h g.lives.length g.edges) := by rw [← hd]; exact HI'
          clear hE hd hy HI' x0 x1 x2
          have hll : y.legs.length ≤ 9223372036854775807 := Nat.le_trans hl1 hl2
          have fin : ∀ e : Int, edgeErr g.h g.lives.length y = e → ¬ e = 0 → Hid (graphErr g = e) := fun e h1 h2 => Lib.hid (by rw [E0.out, ← HI2.out, edgesErr_bad (by rw [h1]; exact h2), h1])
          have FIN := Lib.hid fin
          clear fin
          cases ha : inB y.a 0 ((g.lives.length : Int) - 1)
          case false =>
            have hf := Lib.hid (FIN.out 4 (edgeErr_a ha) (by decide))
            go_wp2_with (go_at_call 12; refine (in_any _ _ _ _).mono ?_; rintro e w' ⟨rfl, rfl⟩)
            go_ret
            exact ⟨ret_int hf.out.symm, ext_alloc hb' _⟩
          cases hbb : inB y.b 0 ((g.lives.length : Int) - 1)
          case false =>
            have hf := Lib.hid (FIN.out 4 (edgeErr_b hbb) (by decide))
            go_wp2_with (go_at_call 12; refine (in_any _ _ _ _).mono ?_; rintro e w' ⟨rfl, rfl⟩)
            go_ret
            exact ⟨ret_int hf.out.symm, ext_alloc hb' _⟩
          by_cases h6 : 6 < y.legs.length
          · have hf := Lib.hid (FIN.out 2 (edgeErr_6 ha hbb h6) (by decide))
            go_wp2_with (go_at_call 12; refine (in_any _ _ _ _).mono ?_; rintro e w' ⟨rfl, rfl⟩)
            go_ret
            exact ⟨ret_int hf.out.symm, ext_alloc hb' _⟩
          have HE := Lib.hid (edgeErr_l (h := g.h) ha hbb h6)
          go_wp2_with (go_at_call 12; refine (in_any _ _ _ _).mono ?_; rintro e w' ⟨rfl, rfl⟩)
          clear ha hbb b1 b2 b3 y0 y1 y2
          obtain ⟨wp, rfl⟩ : ∃ wp : World, wp = wr := ⟨_, rfl⟩
          have hp := ext_alloc hb' (Obj.cells #[Value.int IntKind.i64 y.a, Value.int IntKind.i64 y.b, Value.slice L y.legs.length cl] 74)
          obtain ⟨bl, ol, hLL⟩ := hL
          go_loopw [7] (fun v wr => ∃ k : Nat, k ≤ y.legs.length ∧ v = .int .i64 k ∧ Hid (legsErr g.h (legAhead y.legs k) (y.legs.drop k) = legsErr g.h none y.legs) ∧ Below w.heap.size w wr ∧ Blk wr w.heap.size 25 (gC A c (some { block := b', off := off' }) c' g) ∧ Blk wr wp.heap.size 74 #[Value.int IntKind.i64 y.a, Value.int IntKind.i64 y.b, Value.slice L y.legs.length cl])
            (fun v _ => y.legs.length - (intOf v).toNat)
          case atStart => exact ⟨0, Nat.zero_le _, rfl, Lib.hid rfl, hp, hB1'.alloc _, Blk.new _ _ _⟩
          case round =>
            obtain ⟨j, hj, rfl, HJ, hbj, hBg, hBe⟩ := hrel
            obtain ⟨b1, b2, b3⟩ := hBg.facts
            obtain ⟨d1, d2, d3⟩ := hBe.facts
            by_cases hltj : j < y.legs.length
            · obtain ⟨z, hz⟩ := get_lt hltj
              obtain ⟨rfl, hbl, ⟨⟨z0, z1, z2, z3⟩, _⟩⟩ := hLL j z hz
              have c0 := z0.now hbj
              have c1 := z1.now hbj
              have c2 := z2.now hbj
              have c3 := z3.now hbj
              have hdz := drop_cons hz
              have HJ2 : Hid (legsErr g.h (legAhead y.legs j) (z :: y.legs.drop (j + 1)) = legsErr g.h none y.legs) := by rw [← hdz]; exact HJ
              have HZ := Lib.hid hz
              clear hdz hz HJ z0 z1 z2 z3
              have fin2 : ∀ e : Int, legsErr g.h (legAhead y.legs j) (z :: y.legs.drop (j + 1)) = e → ¬ e = 0 → Hid (graphErr g = e) := fun e h1 h2 => FIN.out e (by rw [HE.out, ← HJ2.out, h1]) h2
              have FIN2 := Lib.hid fin2
              clear fin2
              cases ht : inB z.time 1 50
              case false =>
                have hf := Lib.hid (FIN2.out 1 (legsErr_bad (legOk_false (by rw [inB_iff'] at ht; omega))) (by decide))
                go_wp2_with (go_at_call 12; refine (in_any _ _ _ _).mono ?_; rintro e w' ⟨rfl, rfl⟩)
                all_goals go_ret
                all_goals exact ⟨ret_int hf.out.symm, ext_alloc hbj _⟩
              cases hc : inB z.cost 0 1000
              case false =>
                have hf := Lib.hid (FIN2.out 1 (legsErr_bad (legOk_false (by rw [inB_iff'] at hc; omega))) (by decide))
                go_wp2_with (go_at_call 12; refine (in_any _ _ _ _).mono ?_; rintro e w' ⟨rfl, rfl⟩)
                all_goals go_ret
                all_goals exact ⟨ret_int hf.out.symm, ext_alloc hbj _⟩
              by_cases hok : 0 ≤ z.f ∧ z.f < z.t ∧ z.t ≤ g.h
              case neg =>
                have hf := Lib.hid (FIN2.out 1 (legsErr_bad (legOk_false (by omega))) (by decide))
                go_wp2_with (go_at_call 12; refine (in_any _ _ _ _).mono ?_; rintro e w' ⟨rfl, rfl⟩)
                all_goals go_ret
                all_goals exact ⟨ret_int hf.out.symm, ext_alloc hbj _⟩
              have HK := Lib.hid (legOk_true (l := z) (h := g.h) (by rw [inB_iff] at ht hc; omega))
              obtain ⟨k1, k2, k3⟩ := hok
              by_cases hj0 : j ≤ 0
              · have hg0 : decide (0 < j) = false := by simp; omega
                clear hLL
                go_wp2_with (go_at_call 12; refine (in_any _ _ _ _).mono ?_; rintro e w' ⟨rfl, rfl⟩)
                go_quiet (fail)
                go_wp2
                go_roundw
                case rel =>
                  obtain rfl : j = 0 := by omega
                  refine ⟨1, by omega, by go_num, Lib.hid ?_, below_drewN (ext_alloc hbj _) _, (hBg.alloc _).drewN _, (hBe.alloc _).drewN _⟩
                  rw [← HJ2.out, legAhead_of HZ.out]
                  exact (legsErr_first HK.out).symm
                case measure => simp [intOf]; omega
              · obtain ⟨i, rfl⟩ : ∃ i, j = i + 1 := ⟨j - 1, by omega⟩
                obtain ⟨q, hq⟩ := get_lt (show i < y.legs.length by omega)
                obtain ⟨_, _, ⟨⟨q0, q1, q2, q3⟩, _⟩⟩ := hLL i q hq
                have HQ := Lib.hid hq
                have c1' := q1.now hbj
                have hbl' : bl < wr.heap.size := Nat.lt_of_lt_of_le hbl hbj.size
                clear hLL hq q0 q1 q2 q3
                have hg1 : (0 : Int) < (i : Int) + 1 := by omega
                by_cases hlf : q.t ≤ z.f
                · go_wp2_with (go_at_call 12; refine (in_any _ _ _ _).mono ?_; rintro e w' ⟨rfl, rfl⟩)
                  go_quiet (fail)
                  go_wp2
                  go_roundw
                  case rel =>
                    refine ⟨i + 1 + 1, by omega, by go_num, Lib.hid ?_, below_drewN (ext_alloc hbj _) _, (hBg.alloc _).drewN _, (hBe.alloc _).drewN _⟩
                    rw [← HJ2.out, legAhead_of HZ.out, legAhead_of HQ.out, legsErr_next HK.out (by omega)]
                  case measure => simp [intOf]; omega
                · have hf := Lib.hid (FIN2.out 5 (by rw [legAhead_of HQ.out]; exact legsErr_form HK.out (by omega)) (by decide))
                  go_wp2_with (go_at_call 12; refine (in_any _ _ _ _).mono ?_; rintro e w' ⟨rfl, rfl⟩)
                  go_quiet (fail)
                  go_wp2
                  go_ret
                  exact ⟨ret_int hf.out.symm, below_drewN (ext_alloc hbj _) _⟩
            · go_wp2
              go_roundw
              case rel =>
                refine ⟨k' + 1, by omega, by go_num, Lib.hid ((edgesErr_next ?_).symm.trans HI2.out), hbj, hBg⟩
                rw [HE.out, ← HJ.out, drop_end (by omega)]
                cases j <;> rfl
              case measure => simp [intOf]; omega
        · go_wp2
          go_ret
          exact ⟨ret_int (by rw [E0.out, ← HI'.out, drop_end (by omega)]; rfl), hb'⟩
end Go.Proofs.YtdpibehpmghghaaDoor
