/- Several texts in one: Same, Turned. -/
import Derived.Shelf.Abstract
import Derived.Test.YtcgnalpcbcpmkaaProg
import Derived.Test.YtcgnalpcbcpmkaaBd3d7c8cd354
import Derived.Test.YtcgnalpcbcpmkaaBde97991cbd9
/- The walks of the document's SameGraph: edges, lists of edges, graphs. -/
namespace Go.Proofs.Ytcgnalpcbcpmkaa
open Go.RowKit

theorem enters_edge : Enters Try.prog 108 := enters_of Try.func108 (by kernel_rfl) rfl
theorem edge_eq {x y : EdgeD} : x = y ↔ x.a = y.a ∧ x.b = y.b ∧ x.legs = y.legs := by
  cases x; cases y; simp
set_option maxHeartbeats 1000000 in
theorem sameEdge_any (L M : Option Addr) (c d : Nat) (x y : EdgeD) (w : World) (hL : SlAt RLeg 4 w L x.legs) (hM : SlAt RLeg 4 w M y.legs) (hx : x.legs.length ≤ maxLen) (hy : y.legs.length ≤ maxLen) :
    Calls Try.prog 108 #[edgeV L c x, edgeV M d y] w fun e w' => e = .returned (.bool (decide (x = y))) ∧ Below w.heap.size w w' := by
  by_cases h1 : x.a = y.a
  case neg =>
    have HE : Hid (decide (x = y) = false) := Lib.hid (by rw [decide_eq_false_iff_not, edge_eq]; exact fun h => h1 h.1)
    have hn : (x.a == y.a) = false := by simp [h1]
    clear h1
    go_enter Try.func108, Try.ntmps108
    go_wp2_with fail
    go_ret
    exact ⟨ret_bool HE.out.symm, by go_grown⟩
  have hn1 : (x.a == y.a) = true := by simp [h1]
  by_cases h2 : x.b = y.b
  case neg =>
    have HE : Hid (decide (x = y) = false) := Lib.hid (by rw [decide_eq_false_iff_not, edge_eq]; exact fun h => h2 h.2.1)
    have hn : (x.b == y.b) = false := by simp [h2]
    clear h1 h2
    go_enter Try.func108, Try.ntmps108
    go_wp2_with fail
    go_ret
    exact ⟨ret_bool HE.out.symm, by go_grown⟩
  have hn2 : (x.b == y.b) = true := by simp [h2]
  have HE : Hid (decide (x = y) = decide (x.legs = y.legs)) := Lib.hid (by rw [decide_eq_decide, edge_eq]; exact ⟨fun h => h.2.2, fun h => ⟨h1, h2, h⟩⟩)
  clear h1 h2
  go_enter Try.func108, Try.ntmps108
  go_wp2_with fail
  refine (equalLegs_any L M c d x.legs y.legs _ (hL.ext RLeg.stable (by go_grown)) (hM.ext RLeg.stable (by go_grown)) hx hy).mono ?_
  rw [← HE.out]
  rintro e w1 ⟨rfl, hb1⟩
  have hbw : Below w.heap.size w w1 := ext_trans (by go_grown) hb1
  go_wp2_with fail
  go_ret
  exact ⟨rfl, hbw⟩

set_option maxRecDepth 100000 in
set_option maxHeartbeats 4000000 in
theorem equalEdges_any (A B : Option Addr) (c d : Nat) (l r : List EdgeD) (w : World) (hA : SlAt REdge 3 w A l) (hB : SlAt REdge 3 w B r) (hl : l.length ≤ maxLen) (hr : r.length ≤ maxLen) :
    Calls Try.prog 107 #[.slice A l.length c, .slice B r.length d, .func (.func 108) #[] #[]] w fun e w' => e = .returned (.bool (decide (l = r))) ∧ Below w.heap.size w w' := by
  unfold maxLen at hl hr
  have hent := enters_edge
  unfold Enters at hent
  by_cases hlr : l.length = r.length
  case neg =>
    have hn : ((l.length : Int) != (r.length : Int)) = true := by simp; omega
    have HE : Hid (decide (l = r) = false) := Lib.hid (by rw [decide_eq_false_iff_not]; exact fun h => hlr (by rw [h]))
    clear hlr
    go_enter Try.func107, Try.ntmps107
    go_wp2_with fail
    go_ret
    exact ⟨ret_bool HE.out.symm, by go_grown⟩
  have hn : ((l.length : Int) != (r.length : Int)) = false := by simp [hlr]
  have HLR := Lib.hid hlr
  clear hlr
  go_enter Try.func107, Try.ntmps107
  go_wp2_with fail
  go_loopw [17] (fun x wr => ∃ k : Nat, k ≤ l.length ∧ x = .int .i64 k ∧ Hid (l.take k = r.take k) ∧ Below w.heap.size w wr) (fun x _ => l.length - (intOf x).toNat)
  case atStart => exact ⟨0, Nat.zero_le _, rfl, Lib.hid rfl, Below.refl _ _⟩
  case round =>
    obtain ⟨k, hk, rfl, HT, hb⟩ := hrel
    by_cases hlt : k < l.length
    case neg =>
      have HE : Hid (decide (l = r) = true) := Lib.hid (by
        rw [decide_eq_true_eq]
        have h := HT.out
        rwa [List.take_of_length_le (by omega), List.take_of_length_le (by rw [← HLR.out]; omega)] at h)
      go_wp2_with fail
      go_ret
      exact ⟨ret_bool HE.out.symm, hb⟩
    have hlt2 : k < r.length := by rw [← HLR.out]; exact hlt
    obtain ⟨b1, o1, h1⟩ := hA
    obtain ⟨b2, o2, h2⟩ := hB
    obtain ⟨x, hx⟩ := get_lt hlt
    obtain ⟨y, hy⟩ := get_lt hlt2
    obtain ⟨rfl, hz1, ⟨⟨x0, x1, L, cl, x2, hl1, hl2, hL⟩, _⟩⟩ := h1 k x hx
    obtain ⟨rfl, hz2, ⟨⟨y0, y1, M, cm, y2, hm1, hm2, hM⟩, _⟩⟩ := h2 k y hy
    have x0 := x0.now hb
    have x1 := x1.now hb
    have x2 := x2.now hb
    have y0 := y0.now hb
    have y1 := y1.now hb
    have y2 := y2.now hb
    have hzz : b2 < wr.heap.size := Nat.lt_of_lt_of_le hz2 hb.size
    have HXY : Hid (l.take (k + 1) = l.take k ++ [x] ∧ r.take (k + 1) = r.take k ++ [y]) := Lib.hid ⟨by rw [List.take_add_one, hx]; rfl, by rw [List.take_add_one, hy]; rfl⟩
    have HX := Lib.hid hx
    have HY := Lib.hid hy
    clear h1 h2 hx hy
    have hLm : x.legs.length ≤ maxLen := Nat.le_trans hl1 hl2
    have hMm : y.legs.length ≤ maxLen := Nat.le_trans hm1 hm2
    have HLM := Lib.hid (And.intro hLm hMm)
    clear hLm hMm hl1 hl2 hm1 hm2
    by_cases hxy : x = y
    case neg =>
      have HE : Hid (decide (l = r) = false) := Lib.hid (by
        rw [decide_eq_false_iff_not]
        intro e
        have h := HX.out
        rw [e, HY.out] at h
        exact hxy (by simpa using h.symm))
      have HD : Hid (decide (x = y) = false) := Lib.hid (by simp [hxy])
      clear hxy
      go_wp2_with fail
      refine (sameEdge_any L M cl cm x y _ (hL.ext RLeg.stable (ext_trans hb (by go_grown))) (hM.ext RLeg.stable (ext_trans hb (by go_grown))) HLM.out.1 HLM.out.2).mono ?_
      rw [HD.out]
      rintro e w1 ⟨rfl, hb1⟩
      go_wp2_with fail
      go_ret
      exact ⟨ret_bool HE.out.symm, ext_trans (ext_trans hb (by go_grown)) hb1⟩
    case pos =>
      have HD : Hid (decide (x = y) = true) := Lib.hid (by simp [hxy])
      have HN : Hid (l.take (k + 1) = r.take (k + 1)) := Lib.hid (by rw [HXY.out.1, HXY.out.2, HT.out, hxy])
      clear hxy
      go_wp2_with fail
      refine (sameEdge_any L M cl cm x y _ (hL.ext RLeg.stable (ext_trans hb (by go_grown))) (hM.ext RLeg.stable (ext_trans hb (by go_grown))) HLM.out.1 HLM.out.2).mono ?_
      rw [HD.out]
      rintro e w1 ⟨rfl, hb1⟩
      have hbn : Below w.heap.size w w1 := ext_trans (ext_trans hb (by go_grown)) hb1
      go_wp2_with fail
      go_roundw
      case rel => exact ⟨k + 1, by omega, by go_num, HN, hbn⟩
      case measure => simp [intOf]; omega
theorem graph_eq {x y : GraphD} : x = y ↔ x.h = y.h ∧ x.lives = y.lives ∧ x.edges = y.edges := by
  cases x; cases y; simp

set_option maxHeartbeats 2000000 in
/-- Two graphs that are the same. -/
theorem sameGraph_any (A A' B B' : Option Addr) (c c' d d' : Nat) (g : GraphD) (w : World) (hA : GraphAt w A c A' c' g) (hB : GraphAt w B d B' d' g) :
    Calls Try.prog 63 #[gV A c A' c' g, gV B d B' d' g] w fun e w' => e = .returned (.bool true) ∧ Below w.heap.size w w' := by
  have m1 : g.lives.length ≤ maxLen := Nat.le_trans hA.lc hA.cm
  have m2 : g.edges.length ≤ maxLen := Nat.le_trans hA.lc' hA.cm'
  go_enter Try.func63, Try.ntmps63
  go_wp2_with fail
  refine (equalIvls_any A B c d g.lives g.lives _ (hA.lives.ext RIvl.stable (by go_grown)) (hB.lives.ext RIvl.stable (by go_grown)) m1 m1).mono ?_
  rw [decide_eq_true (rfl : g.lives = g.lives)]
  rintro e w1 ⟨rfl, hb1⟩
  obtain ⟨B0, c1, c2, c3⟩ := Blk.go (g := w.heap.size) (t := 28) (cs := gC A c A' c' g) ((Blk.new _ _ _).alloc _) hb1
  obtain ⟨B1, e1, e2, e3⟩ := Blk.go (g := w.heap.size + 1) (t := 28) (cs := gC B d B' d' g) (Blk.new_ (by simp)) hb1
  have hbw : Below w.heap.size w w1 := ext_trans (by go_grown) hb1
  clear hb1
  go_wp2_with fail
  refine (equalEdges_any A' B' c' d' g.edges g.edges _ (hA.edges.ext REdge.stable hbw) (hB.edges.ext REdge.stable hbw) m2 m2).mono ?_
  rw [decide_eq_true (rfl : g.edges = g.edges)]
  rintro e w2 ⟨rfl, hb2⟩
  have hbw := ext_trans hbw hb2
  go_wp2_with fail
  go_ret
  exact ⟨rfl, hbw⟩
end Go.Proofs.Ytcgnalpcbcpmkaa
/- The walk of timekeep.turned: the pair is turned round rightly. -/
namespace Go.Proofs.Ytcgnalpcbcpmkaa
open Go.RowKit

theorem pair_rev : revD pairG = ⟨10, [⟨0, 10⟩, ⟨1, 8⟩], [⟨1, 0, [⟨3, 6, 3, 7⟩]⟩]⟩ := by decide
theorem pair_revErr : revErr pairG = 0 := by decide
theorem pair_revOut : revOut pairG = ⟨10, [⟨0, 10⟩, ⟨1, 8⟩], [⟨1, 0, [⟨3, 6, 3, 7⟩]⟩]⟩ := by unfold revOut; rw [if_pos pair_revErr, pair_rev]
def backG : GraphD := ⟨10, [⟨0, 10⟩, ⟨1, 8⟩], [⟨1, 0, [⟨3, 6, 3, 7⟩]⟩]⟩

set_option maxRecDepth 100000 in
set_option maxHeartbeats 2000000 in
theorem turned_any (w : World) : Calls Try.prog 84 #[] w fun e w' => e = .returned (.bool true) ∧ Below w.heap.size w w' := by
  go_enter Try.func84, Try.ntmps84
  go_wp2_with fail
  refine (pair_any _).mono ?_
  rintro e w1 ⟨Ar, cr, Ar', cr', rfl, hGr, hb1⟩
  go_wp2_with fail
  refine (reverse_any _ _ _ _ pairG _ hGr).mono ?_
  rintro e w2 ⟨A, c, A', c', rfl, hG, hb2⟩
  rw [pair_revErr]
  have hG2 : GraphAt w2 A c A' c' backG := by rw [pair_revOut] at hG; exact hG
  rw [show revOut pairG = backG from pair_revOut]
  have hbw := ext_trans hb1 hb2
  clear hb1 hb2 hGr hG
  go_wp2_with fail
  refine (sameGraph_any A A' (some ⟨w2.heap.size + 1, 0, none⟩) (some ⟨w2.heap.size + 1 + 1 + 1, 0, none⟩) c c' 2 1 backG _ (hG2.ext (by go_grown)) ?_).mono ?_
  · refine ⟨by simp [I64, backG], by simp [backG], by simp [maxLen], by simp [backG], by simp [maxLen], ?_, ?_⟩
    · refine slAt2 (by simp) ?_ ?_ <;> simp [RIvl, cellIs, I64, go_sem]
    · refine slAt1 (by simp) ⟨⟨by simp [cellIs, go_sem], by simp [cellIs, go_sem], some ⟨w2.heap.size + 1 + 1, 0, none⟩, 1, by simp [cellIs, go_sem], by simp, by simp [maxLen], slAt1 (by simp) (by simp [RLeg, cellIs, I64, go_sem])⟩, by simp [I64], by simp [I64]⟩
  rintro e w3 ⟨rfl, hb3⟩
  have hb3 : Below w2.heap.size w2 w3 := ext_trans (by go_grown) hb3
  go_wp2_with fail
  go_ret
  exact ⟨rfl, ext_trans hbw hb3⟩
end Go.Proofs.Ytcgnalpcbcpmkaa
