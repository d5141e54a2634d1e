/- The walks of one step: alive, the leg of a time, when one comes; the program's and the document's. -/
import Derived.Test.YtcgnalpcbcpmkaaSmall
namespace Go.Proofs.Ytcgnalpcbcpmkaa
open Go.RowKit

set_option maxHeartbeats 400000 in
theorem alive_any (A A' : Option Addr) (c c' : Nat) (g : GraphD) (v t : Int) (w : World) (hG : GraphAt w A c A' c' g) (h0 : 0 ≤ v) (h1 : v < g.lives.length) :
    Calls Try.prog 93 #[gV A c A' c' g, .int .i64 v, .int .i64 t] w fun e w' => e = .returned (.bool (aliveB g v t)) ∧ Below w.heap.size w w' := by
  obtain ⟨b, off, hL⟩ := hG.lives
  obtain ⟨y, hy⟩ := get_lt (show v.toNat < g.lives.length by omega)
  obtain ⟨rfl, hb0, ⟨⟨x0, x1⟩, _⟩⟩ := hL _ y hy
  unfold cellIs at x0 x1
  have HA := Lib.hid (aliveB_of (t := t) hy)
  clear hL hy
  by_cases h2 : y.f ≤ t
  all_goals
    go_enter Try.func93, Try.ntmps93
    go_wp2
    go_ret
    exact ⟨ret_bool (by rw [HA.out]; first | (rw [Bool.eq_iff_iff]; simp; omega) | (symm; simp; omega)), by go_grown⟩

set_option maxHeartbeats 400000 in
theorem refAlive_any (A A' : Option Addr) (c c' : Nat) (g : GraphD) (v t : Int) (w : World) (hG : GraphAt w A c A' c' g) (h0 : 0 ≤ v) (h1 : v < g.lives.length) :
    Calls Try.prog 75 #[gV A c A' c' g, .int .i64 v, .int .i64 t] w fun e w' => e = .returned (.bool (aliveB g v t)) ∧ Below w.heap.size w w' := by
  obtain ⟨b, off, hL⟩ := hG.lives
  obtain ⟨y, hy⟩ := get_lt (show v.toNat < g.lives.length by omega)
  obtain ⟨rfl, hb0, ⟨⟨x0, x1⟩, _⟩⟩ := hL _ y hy
  unfold cellIs at x0 x1
  have HA := Lib.hid (aliveB_of (t := t) hy)
  clear hL hy
  by_cases h2 : y.f ≤ t
  all_goals
    go_enter Try.func75, Try.ntmps75
    go_wp2
    go_ret
    exact ⟨ret_bool (by rw [HA.out]; first | (rw [Bool.eq_iff_iff]; simp; omega) | (symm; simp; omega)), by go_grown⟩

/-- The two results of looking for a leg. -/
def legsR (o : Option LegD) : Value := match o with
  | some x => .tuple #[legV x, .bool true]
  | none => .tuple #[legV ⟨0, 0, 0, 0⟩, .bool false]

set_option maxHeartbeats 1000000 in
theorem leaves_any (L : Option Addr) (cl : Nat) (x : EdgeD) (t : Int) (w : World) (hL : SlAt RLeg 4 w L x.legs) (hl : x.legs.length ≤ maxLen) :
    Calls Try.prog 126 #[edgeV L cl x, .int .i64 t] w fun e w' => e = .returned (legsR (leaves t x.legs)) ∧ Below w.heap.size w w' := by
  unfold maxLen at hl
  obtain ⟨b, off, hL⟩ := hL
  go_enter Try.func126, Try.ntmps126
  go_wp2
  go_loopw [11] (fun v wr => ∃ k : Nat, k ≤ x.legs.length ∧ v = .int .i64 k ∧ Hid (leaves t (x.legs.drop k) = leaves t x.legs) ∧ Below w.heap.size w wr ∧ Blk wr (w.heap.size + 1) 114 #[.int .i64 0, .int .i64 0, .int .i64 0, .int .i64 0]) (fun v _ => x.legs.length - (intOf v).toNat)
  case atStart => exact ⟨0, Nat.zero_le _, rfl, Lib.hid rfl, by go_grown, Blk.new_ (by simp)⟩
  case round =>
    obtain ⟨k, hk, rfl, HI, hb, hB⟩ := hrel
    obtain ⟨hc, hf, hz⟩ := hB.facts
    by_cases hlt : k < x.legs.length
    · obtain ⟨y, hy⟩ := get_lt hlt
      obtain ⟨rfl, hb0, ⟨⟨x0, x1, x2, x3⟩, _⟩⟩ := hL k y hy
      have y0 := x0.now hb
      have y1 := x1.now hb
      have y2 := x2.now hb
      have y3 := x3.now hb
      have hd := drop_cons hy
      have HI2 : Hid (leaves t (y :: x.legs.drop (k + 1)) = leaves t x.legs) := by rw [← hd]; exact HI
      clear hL hd hy HI x0 x1 x2 x3
      by_cases hok : y.f ≤ t ∧ t < y.t
      · obtain ⟨k1, k2⟩ := hok
        go_wp2
        refine bodyPost_ret (v := .tuple #[legV y, .bool true]) (by simp [results, Try.results126, go_sem, hc, hz, legV]) rfl ?_
        refine ⟨by rw [← HI2.out, leaves_hit ⟨k1, k2⟩]; rfl, ?_⟩
        exact ((((hb.setCell (by simp) _).setCell (by simp) _).setCell (by simp) _).setCell (by simp) _).alloc (by simp; omega) _
      · go_wp2
        all_goals
          go_roundw
          case rel => exact ⟨k + 1, by omega, by go_num, Lib.hid ((leaves_miss (by omega)).symm.trans HI2.out), ext_alloc hb _, hB.alloc _⟩
          case measure => simp [intOf]; omega
    · go_wp2
      refine bodyPost_ret (v := .tuple #[legV ⟨0, 0, 0, 0⟩, .bool false]) (by simp [results, Try.results126, go_sem, hc, legV]) rfl ?_
      refine ⟨by rw [← HI.out, drop_end (by omega)]; rfl, ?_⟩
      exact ((((hb.setCell (by simp) _).setCell (by simp) _).setCell (by simp) _).setCell (by simp) _)

set_option maxHeartbeats 1000000 in
theorem refLeg_any (L : Option Addr) (cl : Nat) (x : EdgeD) (t : Int) (w : World) (hL : SlAt RLeg 4 w L x.legs) (hl : x.legs.length ≤ maxLen) :
    Calls Try.prog 127 #[edgeV L cl x, .int .i64 t] w fun e w' => e = .returned (legsR (leaves t x.legs)) ∧ Below w.heap.size w w' := by
  unfold maxLen at hl
  obtain ⟨b, off, hL⟩ := hL
  go_enter Try.func127, Try.ntmps127
  go_wp2
  go_loopw [6] (fun v wr => ∃ k : Nat, k ≤ x.legs.length ∧ v = .int .i64 k ∧ Hid (leaves t (x.legs.drop k) = leaves t x.legs) ∧ Below w.heap.size w wr ∧ Blk wr w.heap.size 99 #[.int .i64 x.a, .int .i64 x.b, .slice L x.legs.length cl] ∧ Blk wr (w.heap.size + 1) 114 #[.int .i64 0, .int .i64 0, .int .i64 0, .int .i64 0]) (fun v _ => x.legs.length - (intOf v).toNat)
  case atStart => exact ⟨0, Nat.zero_le _, rfl, Lib.hid rfl, by go_grown, (Blk.new _ _ _).alloc _, Blk.new_ (by simp)⟩
  case round =>
    obtain ⟨k, hk, rfl, HI, hb, hB0, hB⟩ := hrel
    obtain ⟨hc, hf, hz⟩ := hB.facts
    obtain ⟨b1, b2, b3⟩ := hB0.facts
    by_cases hlt : k < x.legs.length
    · obtain ⟨y, hy⟩ := get_lt hlt
      obtain ⟨rfl, hb0, ⟨⟨x0, x1, x2, x3⟩, _⟩⟩ := hL k y hy
      have y0 := x0.now hb
      have y1 := x1.now hb
      have y2 := x2.now hb
      have y3 := x3.now hb
      have hd := drop_cons hy
      have HI2 : Hid (leaves t (y :: x.legs.drop (k + 1)) = leaves t x.legs) := by rw [← hd]; exact HI
      clear hL hd hy HI x0 x1 x2 x3
      by_cases hok : y.f ≤ t ∧ t < y.t
      · obtain ⟨k1, k2⟩ := hok
        go_wp2
        refine bodyPost_ret (v := .tuple #[legV y, .bool true]) (by simp [results, Try.results127, go_sem, hc, legV]) rfl ?_
        refine ⟨by rw [← HI2.out, leaves_hit ⟨k1, k2⟩]; rfl, ?_⟩
        exact ((((hb.setCell (by simp) _).setCell (by simp) _).setCell (by simp) _).setCell (by simp) _)
      · go_wp2
        all_goals
          go_roundw
          case rel => exact ⟨k + 1, by omega, by go_num, Lib.hid ((leaves_miss (by omega)).symm.trans HI2.out), hb, hB0, hB⟩
          case measure => simp [intOf]; omega
    · go_wp2
      refine bodyPost_ret (v := .tuple #[legV ⟨0, 0, 0, 0⟩, .bool false]) (by simp [results, Try.results127, go_sem, hc, legV]) rfl ?_
      refine ⟨by rw [← HI.out, drop_end (by omega)]; rfl, ?_⟩
      exact ((((hb.setCell (by simp) _).setCell (by simp) _).setCell (by simp) _).setCell (by simp) _)
end Go.Proofs.Ytcgnalpcbcpmkaa
