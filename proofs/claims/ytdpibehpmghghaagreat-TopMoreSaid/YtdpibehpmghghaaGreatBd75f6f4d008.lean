/- Several texts in one: Step, Arrive, RefCheck. -/
import Derived.Test.YtdpibehpmghghaaGreatBd87574eba69
import Derived.Test.YtdpibehpmghghaaGreatBd3944ca27eb
/- The walks of one step: alive, the leg of a time, when one comes; the program's and the document's. -/
namespace Go.Proofs.YtdpibehpmghghaaGreat
open Go.RowKit

set_option maxHeartbeats 400000 in
theorem alive_any (A A' : Option Addr) (c c' : Nat) (g : GraphD) (v t : Int) (w : World) (hG : GraphAt w A c A' c' g) (h0 : 0 ≤ v) (h1 : v < g.lives.length) :
    Calls Tryz.prog 40 #[gV A c A' c' g, .int .i64 v, .int .i64 t] w fun e w' => e = .returned (.bool (aliveB g v t)) ∧ Below w.heap.size w w' := by
  obtain ⟨b, off, hL⟩ := hG.lives
  obtain ⟨y, hy⟩ := get_lt (show v.toNat < g.lives.length by omega)
  obtain ⟨rfl, hb0, ⟨⟨x0, x1⟩, _⟩⟩ := hL _ y hy
  unfold cellIs at x0 x1
  have HA := Lib.hid (aliveB_of (t := t) hy)
  clear hL hy
  by_cases h2 : y.f ≤ t
  all_goals
    go_enter Tryz.func40, Tryz.ntmps40
    go_wp2
    go_ret
    exact ⟨ret_bool (by rw [HA.out]; first | (rw [Bool.eq_iff_iff]; simp; omega) | (symm; simp; omega)), by go_grown⟩

set_option maxHeartbeats 400000 in
theorem refAlive_any (A A' : Option Addr) (c c' : Nat) (g : GraphD) (v t : Int) (w : World) (hG : GraphAt w A c A' c' g) (h0 : 0 ≤ v) (h1 : v < g.lives.length) :
    Calls Tryz.prog 71 #[gV A c A' c' g, .int .i64 v, .int .i64 t] w fun e w' => e = .returned (.bool (aliveB g v t)) ∧ Below w.heap.size w w' := by
  obtain ⟨b, off, hL⟩ := hG.lives
  obtain ⟨y, hy⟩ := get_lt (show v.toNat < g.lives.length by omega)
  obtain ⟨rfl, hb0, ⟨⟨x0, x1⟩, _⟩⟩ := hL _ y hy
  unfold cellIs at x0 x1
  have HA := Lib.hid (aliveB_of (t := t) hy)
  clear hL hy
  by_cases h2 : y.f ≤ t
  all_goals
    go_enter Tryz.func71, Tryz.ntmps71
    go_wp2
    go_ret
    exact ⟨ret_bool (by rw [HA.out]; first | (rw [Bool.eq_iff_iff]; simp; omega) | (symm; simp; omega)), by go_grown⟩

/-- The two results of looking for a leg. -/
def legsR (o : Option LegD) : Value := match o with
  | some x => .tuple #[legV x, .bool true]
  | none => .tuple #[legV ⟨0, 0, 0, 0⟩, .bool false]

set_option maxHeartbeats 1000000 in
theorem leaves_any (L : Option Addr) (cl : Nat) (x : EdgeD) (t : Int) (w : World) (hL : SlAt RLeg 4 w L x.legs) (hl : x.legs.length ≤ maxLen) :
    Calls Tryz.prog 41 #[edgeV L cl x, .int .i64 t] w fun e w' => e = .returned (legsR (leaves t x.legs)) ∧ Below w.heap.size w w' := by
  unfold maxLen at hl
  obtain ⟨b, off, hL⟩ := hL
  go_enter Tryz.func41, Tryz.ntmps41
  go_wp2
  go_loopw [11] (fun v wr => ∃ k : Nat, k ≤ x.legs.length ∧ v = .int .i64 k ∧ Hid (leaves t (x.legs.drop k) = leaves t x.legs) ∧ Below w.heap.size w wr ∧ Blk wr (w.heap.size + 1) 77 #[.int .i64 0, .int .i64 0, .int .i64 0, .int .i64 0]) (fun v _ => x.legs.length - (intOf v).toNat)
  case atStart => exact ⟨0, Nat.zero_le _, rfl, Lib.hid rfl, by go_grown, Blk.new_ (by simp)⟩
  case round =>
    obtain ⟨k, hk, rfl, HI, hb, hB⟩ := hrel
    obtain ⟨hc, hf, hz⟩ := hB.facts
    by_cases hlt : k < x.legs.length
    · obtain ⟨y, hy⟩ := get_lt hlt
      obtain ⟨rfl, hb0, ⟨⟨x0, x1, x2, x3⟩, _⟩⟩ := hL k y hy
      have y0 := x0.now hb
      have y1 := x1.now hb
      have y2 := x2.now hb
      have y3 := x3.now hb
      have hd := drop_cons hy
      have HI2 : Hid (leaves t (y :: x.legs.drop (k + 1)) = leaves t x.legs) := by rw [← hd]; exact HI
      clear hL hd hy HI x0 x1 x2 x3
      by_cases hok : y.f ≤ t ∧ t < y.t
      · obtain ⟨k1, k2⟩ := hok
        go_wp2
        refine bodyPost_ret (v := .tuple #[legV y, .bool true]) (by simp [results, Tryz.results41, go_sem, hc, hz, legV]) rfl ?_
        refine ⟨by rw [← HI2.out, leaves_hit ⟨k1, k2⟩]; rfl, ?_⟩
        exact ((((hb.setCell (by simp) _).setCell (by simp) _).setCell (by simp) _).setCell (by simp) _).alloc (by simp; omega) _
      · go_wp2
        all_goals
          go_roundw
          case rel => exact ⟨k + 1, by omega, by go_num, Lib.hid ((leaves_miss (by omega)).symm.trans HI2.out), ext_alloc hb _, hB.alloc _⟩
          case measure => simp [intOf]; omega
    · go_wp2
      refine bodyPost_ret (v := .tuple #[legV ⟨0, 0, 0, 0⟩, .bool false]) (by simp [results, Tryz.results41, go_sem, hc, legV]) rfl ?_
      refine ⟨by rw [← HI.out, drop_end (by omega)]; rfl, ?_⟩
      exact ((((hb.setCell (by simp) _).setCell (by simp) _).setCell (by simp) _).setCell (by simp) _)

set_option maxHeartbeats 1000000 in
theorem refLeg_any (L : Option Addr) (cl : Nat) (x : EdgeD) (t : Int) (w : World) (hL : SlAt RLeg 4 w L x.legs) (hl : x.legs.length ≤ maxLen) :
    Calls Tryz.prog 72 #[edgeV L cl x, .int .i64 t] w fun e w' => e = .returned (legsR (leaves t x.legs)) ∧ Below w.heap.size w w' := by
  unfold maxLen at hl
  obtain ⟨b, off, hL⟩ := hL
  go_enter Tryz.func72, Tryz.ntmps72
  go_wp2
  go_loopw [6] (fun v wr => ∃ k : Nat, k ≤ x.legs.length ∧ v = .int .i64 k ∧ Hid (leaves t (x.legs.drop k) = leaves t x.legs) ∧ Below w.heap.size w wr ∧ Blk wr w.heap.size 60 #[.int .i64 x.a, .int .i64 x.b, .slice L x.legs.length cl] ∧ Blk wr (w.heap.size + 1) 77 #[.int .i64 0, .int .i64 0, .int .i64 0, .int .i64 0]) (fun v _ => x.legs.length - (intOf v).toNat)
  case atStart => exact ⟨0, Nat.zero_le _, rfl, Lib.hid rfl, by go_grown, (Blk.new _ _ _).alloc _, Blk.new_ (by simp)⟩
  case round =>
    obtain ⟨k, hk, rfl, HI, hb, hB0, hB⟩ := hrel
    obtain ⟨hc, hf, hz⟩ := hB.facts
    obtain ⟨b1, b2, b3⟩ := hB0.facts
    by_cases hlt : k < x.legs.length
    · obtain ⟨y, hy⟩ := get_lt hlt
      obtain ⟨rfl, hb0, ⟨⟨x0, x1, x2, x3⟩, _⟩⟩ := hL k y hy
      have y0 := x0.now hb
      have y1 := x1.now hb
      have y2 := x2.now hb
      have y3 := x3.now hb
      have hd := drop_cons hy
      have HI2 : Hid (leaves t (y :: x.legs.drop (k + 1)) = leaves t x.legs) := by rw [← hd]; exact HI
      clear hL hd hy HI x0 x1 x2 x3
      by_cases hok : y.f ≤ t ∧ t < y.t
      · obtain ⟨k1, k2⟩ := hok
        go_wp2
        refine bodyPost_ret (v := .tuple #[legV y, .bool true]) (by simp [results, Tryz.results72, go_sem, hc, legV]) rfl ?_
        refine ⟨by rw [← HI2.out, leaves_hit ⟨k1, k2⟩]; rfl, ?_⟩
        exact ((((hb.setCell (by simp) _).setCell (by simp) _).setCell (by simp) _).setCell (by simp) _)
      · go_wp2
        all_goals
          go_roundw
          case rel => exact ⟨k + 1, by omega, by go_num, Lib.hid ((leaves_miss (by omega)).symm.trans HI2.out), hb, hB0, hB⟩
          case measure => simp [intOf]; omega
    · go_wp2
      refine bodyPost_ret (v := .tuple #[legV ⟨0, 0, 0, 0⟩, .bool false]) (by simp [results, Tryz.results72, go_sem, hc, legV]) rfl ?_
      refine ⟨by rw [← HI.out, drop_end (by omega)]; rfl, ?_⟩
      exact ((((hb.setCell (by simp) _).setCell (by simp) _).setCell (by simp) _).setCell (by simp) _)
end Go.Proofs.YtdpibehpmghghaaGreat
/- The walks: when one comes along an edge, what is wrong with a place; the program's and the document's. -/
namespace Go.Proofs.YtdpibehpmghghaaGreat
open Go.RowKit

theorem leaves_none {L : Option Addr} {cl : Nat} {x : EdgeD} {t : Int} (w : World) (hL : SlAt RLeg 4 w L x.legs) (hl : x.legs.length ≤ maxLen) (h : leaves t x.legs = none) :
    Calls Tryz.prog 41 #[edgeV L cl x, .int .i64 t] w fun e w' => e = .returned (.tuple #[legV ⟨0, 0, 0, 0⟩, .bool false]) ∧ Below w.heap.size w w' :=
  (leaves_any L cl x t w hL hl).mono fun e w' ⟨he, hb⟩ => ⟨by rw [he, h]; rfl, hb⟩
theorem leaves_some {L : Option Addr} {cl : Nat} {x : EdgeD} {t : Int} {l : LegD} (w : World) (hL : SlAt RLeg 4 w L x.legs) (hl : x.legs.length ≤ maxLen) (h : leaves t x.legs = some l) :
    Calls Tryz.prog 41 #[edgeV L cl x, .int .i64 t] w fun e w' => e = .returned (.tuple #[legV l, .bool true]) ∧ Below w.heap.size w w' :=
  (leaves_any L cl x t w hL hl).mono fun e w' ⟨he, hb⟩ => ⟨by rw [he, h]; rfl, hb⟩
theorem refLeg_none {L : Option Addr} {cl : Nat} {x : EdgeD} {t : Int} (w : World) (hL : SlAt RLeg 4 w L x.legs) (hl : x.legs.length ≤ maxLen) (h : leaves t x.legs = none) :
    Calls Tryz.prog 72 #[edgeV L cl x, .int .i64 t] w fun e w' => e = .returned (.tuple #[legV ⟨0, 0, 0, 0⟩, .bool false]) ∧ Below w.heap.size w w' :=
  (refLeg_any L cl x t w hL hl).mono fun e w' ⟨he, hb⟩ => ⟨by rw [he, h]; rfl, hb⟩
theorem refLeg_some {L : Option Addr} {cl : Nat} {x : EdgeD} {t : Int} {l : LegD} (w : World) (hL : SlAt RLeg 4 w L x.legs) (hl : x.legs.length ≤ maxLen) (h : leaves t x.legs = some l) :
    Calls Tryz.prog 72 #[edgeV L cl x, .int .i64 t] w fun e w' => e = .returned (.tuple #[legV l, .bool true]) ∧ Below w.heap.size w w' :=
  (refLeg_any L cl x t w hL hl).mono fun e w' ⟨he, hb⟩ => ⟨by rw [he, h]; rfl, hb⟩

/-- The three results of Arrive. -/
def arriveR (o : Option (LegD × Int)) : Value := match o with
  | some (l, to) => .tuple #[legV l, .int .i64 to, .bool true]
  | none => .tuple #[legV ⟨0, 0, 0, 0⟩, .int .i64 0, .bool false]

set_option maxHeartbeats 1000000 in
theorem arrive_any (A A' L : Option Addr) (c c' cl : Nat) (g : GraphD) (x : EdgeD) (t : Int) (w : World) (hG : GraphAt w A c A' c' g) (hV : Valid g) (hx : EdgeOk g x)
    (hL : SlAt RLeg 4 w L x.legs) (hl : x.legs.length ≤ maxLen) (ht : I64 t) :
    Calls Tryz.prog 80 #[gV A c A' c' g, edgeV L cl x, .int .i64 t] w fun e w' => e = .returned (arriveR (arrive g x t)) ∧ Below w.heap.size w w' := by
  obtain ⟨ht0, ht1⟩ := ht
  cases h : leaves t x.legs with
  | none =>
    have H := Lib.hid h
    have HR := Lib.hid (arrive_no (g := g) h)
    clear h
    go_enter Tryz.func80, Tryz.ntmps80
    go_wp2_with (go_at_call 41; refine (leaves_none _ (hL.ext RLeg.stable (by go_grown)) hl H.out).mono ?_; rintro e w1 ⟨rfl, hb1⟩; obtain ⟨b1, b2, b3⟩ := (Blk.ext (g := w.heap.size + 1 + 1) (t := 77) (cs := #[.int .i64 0, .int .i64 0, .int .i64 0, .int .i64 0]) (Blk.new_ (by simp)) hb1).facts)
    have hb2 : Below w.heap.size w w1 := ext_trans (by go_grown) hb1
    refine bodyPost_ret (v := .tuple #[legV ⟨0, 0, 0, 0⟩, .int .i64 0, .bool false]) (by simp [results, Tryz.results80, go_sem, b1, b3, legV]) rfl ⟨by rw [HR.out]; rfl, ?_⟩
    go_grown
  | some l =>
    have hm := leaves_mem h
    have hl' := hx.legs l hm.1
    have ha0 := hx.a0; have ha1 := hx.a1; have hb0 := hx.b0; have hb1' := hx.b1
    have hh := hV.h1
    have H := Lib.hid h
    have HR := Lib.hid (arrive_of (g := g) h)
    clear h
    by_cases hA : aliveB g x.a t = true
    case neg =>
      have hA' : aliveB g x.a t = false := by simpa using hA
      clear hA
      have HA := Lib.hid hA'
      go_enter Tryz.func80, Tryz.ntmps80
      go_wp2_with fail
      refine (leaves_some _ (hL.ext RLeg.stable (by go_grown)) hl H.out).mono ?_
      rintro e w1 ⟨rfl, hb1⟩
      obtain ⟨B2, b1, b2, b3⟩ := Blk.go (g := w.heap.size + 1 + 1) (t := 77) (cs := #[.int .i64 0, .int .i64 0, .int .i64 0, .int .i64 0]) (Blk.new_ (by simp)) hb1
      obtain ⟨B0, c1, c2, c3⟩ := Blk.go (g := w.heap.size) (t := 25) (cs := gC A c A' c' g) (((Blk.new _ _ _).alloc _).alloc _) hb1
      obtain ⟨B1, d1, d2, d3⟩ := Blk.go (g := w.heap.size + 1) (t := 60) (cs := #[.int .i64 x.a, .int .i64 x.b, .slice L x.legs.length cl]) ((Blk.new_ (by simp)).alloc _) hb1
      have hb2 : Below w.heap.size w w1 := ext_trans (by go_grown) hb1
      clear hb1
      go_wp2_with fail
      refine (alive_any _ _ _ _ g x.a t _ (hG.ext (ext_alloc hb2 _)) ha0 ha1).mono ?_
      rintro e w2 ⟨rfl, hb3⟩
      obtain ⟨B2', b1', b2', b3'⟩ := (B2.alloc _).go hb3
      obtain ⟨B0', c1', c2', c3'⟩ := (B0.alloc _).go hb3
      obtain ⟨B1', d1', d2', d3'⟩ := (B1.alloc _).go hb3
      obtain ⟨B3', e1', e2', e3'⟩ := (Blk.new w1 77 #[.int .i64 l.f, .int .i64 l.t, .int .i64 l.time, .int .i64 l.cost]).go hb3
      have hb4 : Below w.heap.size w w2 := ext_trans (ext_alloc hb2 _) hb3
      clear hb3 b1 b2 b3 c1 c2 c3 d1 d2 d3 B0 B1 B2
      go_wp2_with fail
      refine bodyPost_ret (v := .tuple #[legV ⟨0, 0, 0, 0⟩, .int .i64 0, .bool false]) (by simp [results, Tryz.results80, go_sem, b1']) rfl ⟨by rw [HR.out, if_neg (by simp [HA.out])]; rfl, ?_⟩
      go_grown
    have HA := Lib.hid hA
    by_cases hH : t + l.time < g.h
    case neg =>
      have HH := Lib.hid hH
      go_enter Tryz.func80, Tryz.ntmps80
      go_wp2_with fail
      refine (leaves_some _ (hL.ext RLeg.stable (by go_grown)) hl H.out).mono ?_
      rintro e w1 ⟨rfl, hb1⟩
      obtain ⟨B2, b1, b2, b3⟩ := Blk.go (g := w.heap.size + 1 + 1) (t := 77) (cs := #[.int .i64 0, .int .i64 0, .int .i64 0, .int .i64 0]) (Blk.new_ (by simp)) hb1
      obtain ⟨B0, c1, c2, c3⟩ := Blk.go (g := w.heap.size) (t := 25) (cs := gC A c A' c' g) (((Blk.new _ _ _).alloc _).alloc _) hb1
      obtain ⟨B1, d1, d2, d3⟩ := Blk.go (g := w.heap.size + 1) (t := 60) (cs := #[.int .i64 x.a, .int .i64 x.b, .slice L x.legs.length cl]) ((Blk.new_ (by simp)).alloc _) hb1
      have hb2 : Below w.heap.size w w1 := ext_trans (by go_grown) hb1
      clear hb1
      go_wp2_with fail
      refine (alive_any _ _ _ _ g x.a t _ (hG.ext (ext_alloc hb2 _)) ha0 ha1).mono ?_
      rintro e w2 ⟨rfl, hb3⟩
      obtain ⟨B2', b1', b2', b3'⟩ := (B2.alloc _).go hb3
      obtain ⟨B0', c1', c2', c3'⟩ := (B0.alloc _).go hb3
      obtain ⟨B1', d1', d2', d3'⟩ := (B1.alloc _).go hb3
      obtain ⟨B3', e1', e2', e3'⟩ := (Blk.new w1 77 #[.int .i64 l.f, .int .i64 l.t, .int .i64 l.time, .int .i64 l.cost]).go hb3
      have hb4 : Below w.heap.size w w2 := ext_trans (ext_alloc hb2 _) hb3
      clear hb3 b1 b2 b3 c1 c2 c3 d1 d2 d3 B0 B1 B2
      go_wp2_with fail
      refine bodyPost_ret (v := .tuple #[legV ⟨0, 0, 0, 0⟩, .int .i64 0, .bool false]) (by simp [results, Tryz.results80, go_sem, b1']) rfl ⟨by rw [HR.out, if_neg (by exact fun hh => by have := HH.out; omega)]; rfl, ?_⟩
      go_grown
    have HH := Lib.hid hH
    cases hB : aliveB g x.b (t + l.time)
    case false =>
      have HB := Lib.hid hB
      go_enter Tryz.func80, Tryz.ntmps80
      go_wp2_with fail
      refine (leaves_some _ (hL.ext RLeg.stable (by go_grown)) hl H.out).mono ?_
      rintro e w1 ⟨rfl, hb1⟩
      obtain ⟨B2, b1, b2, b3⟩ := Blk.go (g := w.heap.size + 1 + 1) (t := 77) (cs := #[.int .i64 0, .int .i64 0, .int .i64 0, .int .i64 0]) (Blk.new_ (by simp)) hb1
      obtain ⟨B0, c1, c2, c3⟩ := Blk.go (g := w.heap.size) (t := 25) (cs := gC A c A' c' g) (((Blk.new _ _ _).alloc _).alloc _) hb1
      obtain ⟨B1, d1, d2, d3⟩ := Blk.go (g := w.heap.size + 1) (t := 60) (cs := #[.int .i64 x.a, .int .i64 x.b, .slice L x.legs.length cl]) ((Blk.new_ (by simp)).alloc _) hb1
      have hb2 : Below w.heap.size w w1 := ext_trans (by go_grown) hb1
      clear hb1
      go_wp2_with fail
      refine (alive_any _ _ _ _ g x.a t _ (hG.ext (ext_alloc hb2 _)) ha0 ha1).mono ?_
      rintro e w2 ⟨rfl, hb3⟩
      obtain ⟨B2', b1', b2', b3'⟩ := (B2.alloc _).go hb3
      obtain ⟨B0', c1', c2', c3'⟩ := (B0.alloc _).go hb3
      obtain ⟨B1', d1', d2', d3'⟩ := (B1.alloc _).go hb3
      obtain ⟨B3', e1', e2', e3'⟩ := (Blk.new w1 77 #[.int .i64 l.f, .int .i64 l.t, .int .i64 l.time, .int .i64 l.cost]).go hb3
      have hb4 : Below w.heap.size w w2 := ext_trans (ext_alloc hb2 _) hb3
      clear hb3 b1 b2 b3 c1 c2 c3 d1 d2 d3 B0 B1 B2
      go_wp2_with fail
      refine (alive_any _ _ _ _ g x.b (t + l.time) _ (hG.ext hb4) hb0 hb1').mono ?_
      rintro e w3 ⟨rfl, hb5⟩
      obtain ⟨B2q, b1q, b2q, b3q⟩ := B2'.go hb5
      obtain ⟨B3q, e1q, e2q, e3q⟩ := B3'.go hb5
      have hb6 : Below w.heap.size w w3 := ext_trans hb4 hb5
      clear hb5 B2' b1' b2' b3' B0' c1' c2' c3' B1' d1' d2' d3' B3' e1' e2' e3'
      go_wp2_with fail
      refine bodyPost_ret (v := .tuple #[legV ⟨0, 0, 0, 0⟩, .int .i64 0, .bool false]) (by simp [results, Tryz.results80, go_sem, b1q]) rfl ⟨by rw [HR.out, if_neg (by exact fun hh => by rw [HB.out] at hh; exact absurd hh.2.2 (by simp))]; rfl, ?_⟩
      go_grown
    case true =>
      have HB := Lib.hid hB
      go_enter Tryz.func80, Tryz.ntmps80
      go_wp2_with fail
      refine (leaves_some _ (hL.ext RLeg.stable (by go_grown)) hl H.out).mono ?_
      rintro e w1 ⟨rfl, hb1⟩
      obtain ⟨B2, b1, b2, b3⟩ := Blk.go (g := w.heap.size + 1 + 1) (t := 77) (cs := #[.int .i64 0, .int .i64 0, .int .i64 0, .int .i64 0]) (Blk.new_ (by simp)) hb1
      obtain ⟨B0, c1, c2, c3⟩ := Blk.go (g := w.heap.size) (t := 25) (cs := gC A c A' c' g) (((Blk.new _ _ _).alloc _).alloc _) hb1
      obtain ⟨B1, d1, d2, d3⟩ := Blk.go (g := w.heap.size + 1) (t := 60) (cs := #[.int .i64 x.a, .int .i64 x.b, .slice L x.legs.length cl]) ((Blk.new_ (by simp)).alloc _) hb1
      have hb2 : Below w.heap.size w w1 := ext_trans (by go_grown) hb1
      clear hb1
      go_wp2_with fail
      refine (alive_any _ _ _ _ g x.a t _ (hG.ext (ext_alloc hb2 _)) ha0 ha1).mono ?_
      rintro e w2 ⟨rfl, hb3⟩
      obtain ⟨B2', b1', b2', b3'⟩ := (B2.alloc _).go hb3
      obtain ⟨B0', c1', c2', c3'⟩ := (B0.alloc _).go hb3
      obtain ⟨B1', d1', d2', d3'⟩ := (B1.alloc _).go hb3
      obtain ⟨B3', e1', e2', e3'⟩ := (Blk.new w1 77 #[.int .i64 l.f, .int .i64 l.t, .int .i64 l.time, .int .i64 l.cost]).go hb3
      have hb4 : Below w.heap.size w w2 := ext_trans (ext_alloc hb2 _) hb3
      clear hb3 b1 b2 b3 c1 c2 c3 d1 d2 d3 B0 B1 B2
      go_wp2_with fail
      refine (alive_any _ _ _ _ g x.b (t + l.time) _ (hG.ext hb4) hb0 hb1').mono ?_
      rintro e w3 ⟨rfl, hb5⟩
      obtain ⟨B2q, b1q, b2q, b3q⟩ := B2'.go hb5
      obtain ⟨B3q, e1q, e2q, e3q⟩ := B3'.go hb5
      have hb6 : Below w.heap.size w w3 := ext_trans hb4 hb5
      clear hb5 B2' b1' b2' b3' B0' c1' c2' c3' B1' d1' d2' d3' B3' e1' e2' e3'
      go_wp2_with fail
      refine bodyPost_ret (v := .tuple #[legV l, .int .i64 (t + l.time), .bool true]) (by simp [results, Tryz.results80, go_sem, b1q]) rfl ⟨by rw [HR.out, if_pos ⟨HA.out, HH.out, HB.out⟩]; rfl, ?_⟩
      go_grown
end Go.Proofs.YtdpibehpmghghaaGreat
/- The walk of the document's check of a graph: it tells what the program's check tells. -/
namespace Go.Proofs.YtdpibehpmghghaaGreat
open Go.RowKit

set_option maxRecDepth 100000 in
set_option maxHeartbeats 4000000 in
theorem refGraph_any (A A' : Option Addr) (c c' : Nat) (g : GraphD) (w : World) (hG : GraphAt w A c A' c' g) :
    Calls Tryz.prog 47 #[gV A c A' c' g] w fun e w' => e = .returned (.int .i64 (graphErr g)) ∧ Below w.heap.size w w' := by
  have m1 : g.lives.length ≤ 9223372036854775807 := Nat.le_trans hG.lc hG.cm
  have m2 : g.edges.length ≤ 9223372036854775807 := Nat.le_trans hG.lc' hG.cm'
  cases h1 : inB g.h 1 100
  case false =>
    go_enter Tryz.func47, Tryz.ntmps47
    go_wp2_with (go_at_call 24; refine (in_any _ _ _ _).mono ?_; rintro e w' ⟨rfl, rfl⟩)
    go_ret
    exact ⟨ret_int (graphErr_h h1).symm, by go_grown⟩
  have I1 := Lib.hid h1
  by_cases h2 : 12 < g.lives.length
  · go_enter Tryz.func47, Tryz.ntmps47
    go_wp2_with (go_at_call 24; refine (in_any _ _ _ _).mono ?_; rintro e w' ⟨rfl, rfl⟩)
    go_ret
    exact ⟨ret_int (graphErr_large I1.out (by omega)).symm, by go_grown⟩
  by_cases h3 : 30 < g.edges.length
  · go_enter Tryz.func47, Tryz.ntmps47
    go_wp2_with (go_at_call 24; refine (in_any _ _ _ _).mono ?_; rintro e w' ⟨rfl, rfl⟩)
    go_ret
    exact ⟨ret_int (graphErr_large I1.out (by omega)).symm, by go_grown⟩
  obtain ⟨b, off, hL⟩ := hG.lives
  go_enter Tryz.func47, Tryz.ntmps47
  go_wp2_with (go_at_call 24; refine (in_any _ _ _ _).mono ?_; rintro e w' ⟨rfl, rfl⟩)
  go_loopw [3] (fun v wr => ∃ k : Nat, k ≤ g.lives.length ∧ v = .int .i64 k ∧ Hid ((g.lives.drop k).all (lifeOk g.h) = g.lives.all (lifeOk g.h)) ∧ Below w.heap.size w wr ∧ Blk wr w.heap.size 25 (gC A c A' c' g))
    (fun v _ => g.lives.length - (intOf v).toNat)
  case atStart => exact ⟨0, Nat.zero_le _, rfl, Lib.hid rfl, by go_grown, Blk.new _ _ _⟩
  case round =>
    clear h1
    obtain ⟨k, hk, rfl, HI, hb, hB1⟩ := hrel
    obtain ⟨b1, b2, b3⟩ := hB1.facts
    by_cases hlt : k < g.lives.length
    · obtain ⟨y, hy⟩ := get_lt hlt
      obtain ⟨rfl, hb0, ⟨⟨x0, x1⟩, _⟩⟩ := hL k y hy
      have y0 := x0.now hb
      have y1 := x1.now hb
      have hd := drop_cons hy
      have HI2 : Hid ((y :: g.lives.drop (k + 1)).all (lifeOk g.h) = g.lives.all (lifeOk g.h)) := by rw [← hd]; exact HI
      clear hL hd hy HI x0 x1
      by_cases hok : 0 ≤ y.f ∧ y.f < y.t ∧ y.t ≤ g.h
      · obtain ⟨k1, k2, k3⟩ := hok
        go_wp2
        go_roundw
        case rel => exact ⟨k + 1, by omega, by go_num, Lib.hid ((all_next (lifeOk_true ⟨k1, k2, k3⟩)).symm.trans HI2.out), ext_alloc hb _, hB1.alloc _⟩
        case measure => simp [intOf]; omega
      · go_wp2
        all_goals go_ret
        all_goals exact ⟨ret_int (graphErr_life I1.out (by omega) (HI2.out.symm.trans (all_bad (lifeOk_false (by omega))))).symm, ext_alloc hb _⟩
    · have hall : g.lives.all (lifeOk g.h) = true := by rw [← HI.out, drop_end (by omega)]; rfl
      have e0 := graphErr_edges I1.out (by omega) hall
      have E0 := Lib.hid e0
      clear e0 hall HI hL
      obtain ⟨b', off', hE⟩ := hG.edges
      obtain ⟨wo, rfl⟩ : ∃ wo : World, wo = wr := ⟨_, rfl⟩
      go_wp2
      go_loopw [5] (fun v wr => ∃ k : Nat, k ≤ g.edges.length ∧ v = .int .i64 k ∧ Hid (edgesErr g.h g.lives.length (g.edges.drop k) = edgesErr g.h g.lives.length g.edges) ∧ Below w.heap.size w wr ∧ Blk wr w.heap.size 25 (gC A c A' c' g))
        (fun v _ => g.edges.length - (intOf v).toNat)
      case atStart => exact ⟨0, Nat.zero_le _, rfl, Lib.hid rfl, hb, hB1⟩
      case round =>
        clear b1 b2 b3
        obtain ⟨k', hk', rfl, HI', hb', hB1'⟩ := hrel
        obtain ⟨b1, b2, b3⟩ := hB1'.facts
        by_cases hlt' : k' < g.edges.length
        · obtain ⟨y, hy⟩ := get_lt hlt'
          obtain ⟨rfl, hb0, ⟨⟨x0, x1, L, cl, x2, hl1, hl2, hL⟩, _⟩⟩ := hE k' y hy
          have y0 := x0.now hb'
          have y1 := x1.now hb'
          have y2 := x2.now hb'
          have hd := drop_cons hy
          have HI2 : Hid (edgesErr g.h g.lives.length (y :: g.edges.drop (k' + 1)) = edgesErr g.h g.lives.length g.edges) := by rw [← hd]; exact HI'
          clear hE hd hy HI' x0 x1 x2
          have hll : y.legs.length ≤ 9223372036854775807 := Nat.le_trans hl1 hl2
          have fin : ∀ e : Int, edgeErr g.h g.lives.length y = e → ¬ e = 0 → Hid (graphErr g = e) := fun e h1 h2 => Lib.hid (by rw [E0.out, ← HI2.out, edgesErr_bad (by rw [h1]; exact h2), h1])
          have FIN := Lib.hid fin
          clear fin
          cases ha : inB y.a 0 ((g.lives.length : Int) - 1)
          case false =>
            have hf := Lib.hid (FIN.out 4 (edgeErr_a ha) (by decide))
            go_wp2_with (go_at_call 24; refine (in_any _ _ _ _).mono ?_; rintro e w' ⟨rfl, rfl⟩)
            go_ret
            exact ⟨ret_int hf.out.symm, ext_alloc hb' _⟩
          cases hbb : inB y.b 0 ((g.lives.length : Int) - 1)
          case false =>
            have hf := Lib.hid (FIN.out 4 (edgeErr_b hbb) (by decide))
            go_wp2_with (go_at_call 24; refine (in_any _ _ _ _).mono ?_; rintro e w' ⟨rfl, rfl⟩)
            go_ret
            exact ⟨ret_int hf.out.symm, ext_alloc hb' _⟩
          by_cases h6 : 6 < y.legs.length
          · have hf := Lib.hid (FIN.out 2 (edgeErr_6 ha hbb h6) (by decide))
            go_wp2_with (go_at_call 24; refine (in_any _ _ _ _).mono ?_; rintro e w' ⟨rfl, rfl⟩)
            go_ret
            exact ⟨ret_int hf.out.symm, ext_alloc hb' _⟩
          have HE := Lib.hid (edgeErr_l (h := g.h) ha hbb h6)
          go_wp2_with (go_at_call 24; refine (in_any _ _ _ _).mono ?_; rintro e w' ⟨rfl, rfl⟩)
          clear ha hbb b1 b2 b3 y0 y1 y2
          obtain ⟨wp, rfl⟩ : ∃ wp : World, wp = wr := ⟨_, rfl⟩
          have hp := ext_alloc hb' (Obj.cells #[Value.int IntKind.i64 y.a, Value.int IntKind.i64 y.b, Value.slice L y.legs.length cl] 60)
          obtain ⟨bl, ol, hLL⟩ := hL
          go_loopw [7] (fun v wr => ∃ k : Nat, k ≤ y.legs.length ∧ v = .int .i64 k ∧ Hid (legsErr g.h (legAhead y.legs k) (y.legs.drop k) = legsErr g.h none y.legs) ∧ Below w.heap.size w wr ∧ Blk wr w.heap.size 25 (gC A c (some { block := b', off := off' }) c' g) ∧ Blk wr wp.heap.size 60 #[Value.int IntKind.i64 y.a, Value.int IntKind.i64 y.b, Value.slice L y.legs.length cl])
            (fun v _ => y.legs.length - (intOf v).toNat)
          case atStart => exact ⟨0, Nat.zero_le _, rfl, Lib.hid rfl, hp, hB1'.alloc _, Blk.new _ _ _⟩
          case round =>
            obtain ⟨j, hj, rfl, HJ, hbj, hBg, hBe⟩ := hrel
            obtain ⟨b1, b2, b3⟩ := hBg.facts
            obtain ⟨d1, d2, d3⟩ := hBe.facts
            by_cases hltj : j < y.legs.length
            · obtain ⟨z, hz⟩ := get_lt hltj
              obtain ⟨rfl, hbl, ⟨⟨z0, z1, z2, z3⟩, _⟩⟩ := hLL j z hz
              have c0 := z0.now hbj
              have c1 := z1.now hbj
              have c2 := z2.now hbj
              have c3 := z3.now hbj
              have hdz := drop_cons hz
              have HJ2 : Hid (legsErr g.h (legAhead y.legs j) (z :: y.legs.drop (j + 1)) = legsErr g.h none y.legs) := by rw [← hdz]; exact HJ
              have HZ := Lib.hid hz
              clear hdz hz HJ z0 z1 z2 z3
              have fin2 : ∀ e : Int, legsErr g.h (legAhead y.legs j) (z :: y.legs.drop (j + 1)) = e → ¬ e = 0 → Hid (graphErr g = e) := fun e h1 h2 => FIN.out e (by rw [HE.out, ← HJ2.out, h1]) h2
              have FIN2 := Lib.hid fin2
              clear fin2
              cases ht : inB z.time 1 50
              case false =>
                have hf := Lib.hid (FIN2.out 1 (legsErr_bad (legOk_false (by rw [inB_iff'] at ht; omega))) (by decide))
                go_wp2_with (go_at_call 24; refine (in_any _ _ _ _).mono ?_; rintro e w' ⟨rfl, rfl⟩)
                all_goals go_ret
                all_goals exact ⟨ret_int hf.out.symm, ext_alloc hbj _⟩
              cases hc : inB z.cost 0 1000
              case false =>
                have hf := Lib.hid (FIN2.out 1 (legsErr_bad (legOk_false (by rw [inB_iff'] at hc; omega))) (by decide))
                go_wp2_with (go_at_call 24; refine (in_any _ _ _ _).mono ?_; rintro e w' ⟨rfl, rfl⟩)
                all_goals go_ret
                all_goals exact ⟨ret_int hf.out.symm, ext_alloc hbj _⟩
              by_cases hok : 0 ≤ z.f ∧ z.f < z.t ∧ z.t ≤ g.h
              case neg =>
                have hf := Lib.hid (FIN2.out 1 (legsErr_bad (legOk_false (by omega))) (by decide))
                go_wp2_with (go_at_call 24; refine (in_any _ _ _ _).mono ?_; rintro e w' ⟨rfl, rfl⟩)
                all_goals go_ret
                all_goals exact ⟨ret_int hf.out.symm, ext_alloc hbj _⟩
              have HK := Lib.hid (legOk_true (l := z) (h := g.h) (by rw [inB_iff] at ht hc; omega))
              obtain ⟨k1, k2, k3⟩ := hok
              by_cases hj0 : j ≤ 0
              · have hg0 : decide (0 < j) = false := by simp; omega
                clear hLL
                go_wp2_with (go_at_call 24; refine (in_any _ _ _ _).mono ?_; rintro e w' ⟨rfl, rfl⟩)
                go_quiet (fail)
                go_wp2
                go_roundw
                case rel =>
                  obtain rfl : j = 0 := by omega
                  refine ⟨1, by omega, by go_num, Lib.hid ?_, below_drewN (ext_alloc hbj _) _, (hBg.alloc _).drewN _, (hBe.alloc _).drewN _⟩
                  rw [← HJ2.out, legAhead_of HZ.out]
                  exact (legsErr_first HK.out).symm
                case measure => simp [intOf]; omega
              · obtain ⟨i, rfl⟩ : ∃ i, j = i + 1 := ⟨j - 1, by omega⟩
                obtain ⟨q, hq⟩ := get_lt (show i < y.legs.length by omega)
                obtain ⟨_, _, ⟨⟨q0, q1, q2, q3⟩, _⟩⟩ := hLL i q hq
                have HQ := Lib.hid hq
                have c1' := q1.now hbj
                have hbl' : bl < wr.heap.size := Nat.lt_of_lt_of_le hbl hbj.size
                clear hLL hq q0 q1 q2 q3
                have hg1 : (0 : Int) < (i : Int) + 1 := by omega
                by_cases hlf : q.t ≤ z.f
                · go_wp2_with (go_at_call 24; refine (in_any _ _ _ _).mono ?_; rintro e w' ⟨rfl, rfl⟩)
                  go_quiet (fail)
                  go_wp2
                  go_roundw
                  case rel =>
                    refine ⟨i + 1 + 1, by omega, by go_num, Lib.hid ?_, below_drewN (ext_alloc hbj _) _, (hBg.alloc _).drewN _, (hBe.alloc _).drewN _⟩
                    rw [← HJ2.out, legAhead_of HZ.out, legAhead_of HQ.out, legsErr_next HK.out (by omega)]
                  case measure => simp [intOf]; omega
                · have hf := Lib.hid (FIN2.out 5 (by rw [legAhead_of HQ.out]; exact legsErr_form HK.out (by omega)) (by decide))
                  go_wp2_with (go_at_call 24; refine (in_any _ _ _ _).mono ?_; rintro e w' ⟨rfl, rfl⟩)
                  go_quiet (fail)
                  go_wp2
                  go_ret
                  exact ⟨ret_int hf.out.symm, below_drewN (ext_alloc hbj _) _⟩
            · go_wp2
              go_roundw
              case rel =>
                refine ⟨k' + 1, by omega, by go_num, Lib.hid ((edgesErr_next ?_).symm.trans HI2.out), hbj, hBg⟩
                rw [HE.out, ← HJ.out, drop_end (by omega)]
                cases j <;> rfl
              case measure => simp [intOf]; omega
        · go_wp2
          go_ret
          exact ⟨ret_int (by rw [E0.out, ← HI'.out, drop_end (by omega)]; rfl), hb'⟩
end Go.Proofs.YtdpibehpmghghaaGreat
