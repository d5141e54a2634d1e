/- Several texts in one: Arrive, Check, RefCheck. -/
import Derived.Test.YtcfachfldanddaaProg
import Derived.Test.YtcfachfldanddaaBd0e3b3965a6
import Derived.Test.YtcfachfldanddaaBd6b7ba0c9b1
/- The walks: when one comes along an edge, what is wrong with a place; the program's and the document's. -/
namespace Go.Proofs.Ytcfachfldanddaa
open Go.RowKit

theorem leaves_none {L : Option Addr} {cl : Nat} {x : EdgeD} {t : Int} (w : World) (hL : SlAt RLeg 4 w L x.legs) (hl : x.legs.length ≤ maxLen) (h : leaves t x.legs = none) :
    Calls Try.prog 131 #[edgeV L cl x, .int .i64 t] w fun e w' => e = .returned (.tuple #[legV ⟨0, 0, 0, 0⟩, .bool false]) ∧ Below w.heap.size w w' :=
  (leaves_any L cl x t w hL hl).mono fun e w' ⟨he, hb⟩ => ⟨by rw [he, h]; rfl, hb⟩
theorem leaves_some {L : Option Addr} {cl : Nat} {x : EdgeD} {t : Int} {l : LegD} (w : World) (hL : SlAt RLeg 4 w L x.legs) (hl : x.legs.length ≤ maxLen) (h : leaves t x.legs = some l) :
    Calls Try.prog 131 #[edgeV L cl x, .int .i64 t] w fun e w' => e = .returned (.tuple #[legV l, .bool true]) ∧ Below w.heap.size w w' :=
  (leaves_any L cl x t w hL hl).mono fun e w' ⟨he, hb⟩ => ⟨by rw [he, h]; rfl, hb⟩
theorem refLeg_none {L : Option Addr} {cl : Nat} {x : EdgeD} {t : Int} (w : World) (hL : SlAt RLeg 4 w L x.legs) (hl : x.legs.length ≤ maxLen) (h : leaves t x.legs = none) :
    Calls Try.prog 132 #[edgeV L cl x, .int .i64 t] w fun e w' => e = .returned (.tuple #[legV ⟨0, 0, 0, 0⟩, .bool false]) ∧ Below w.heap.size w w' :=
  (refLeg_any L cl x t w hL hl).mono fun e w' ⟨he, hb⟩ => ⟨by rw [he, h]; rfl, hb⟩
theorem refLeg_some {L : Option Addr} {cl : Nat} {x : EdgeD} {t : Int} {l : LegD} (w : World) (hL : SlAt RLeg 4 w L x.legs) (hl : x.legs.length ≤ maxLen) (h : leaves t x.legs = some l) :
    Calls Try.prog 132 #[edgeV L cl x, .int .i64 t] w fun e w' => e = .returned (.tuple #[legV l, .bool true]) ∧ Below w.heap.size w w' :=
  (refLeg_any L cl x t w hL hl).mono fun e w' ⟨he, hb⟩ => ⟨by rw [he, h]; rfl, hb⟩

/-- The three results of Arrive. -/
def arriveR (o : Option (LegD × Int)) : Value := match o with
  | some (l, to) => .tuple #[legV l, .int .i64 to, .bool true]
  | none => .tuple #[legV ⟨0, 0, 0, 0⟩, .int .i64 0, .bool false]

set_option maxHeartbeats 1000000 in
theorem arrive_any (A A' L : Option Addr) (c c' cl : Nat) (g : GraphD) (x : EdgeD) (t : Int) (w : World) (hG : GraphAt w A c A' c' g) (hV : Valid g) (hx : EdgeOk g x)
    (hL : SlAt RLeg 4 w L x.legs) (hl : x.legs.length ≤ maxLen) (ht : I64 t) :
    Calls Try.prog 121 #[gV A c A' c' g, edgeV L cl x, .int .i64 t] w fun e w' => e = .returned (arriveR (arrive g x t)) ∧ Below w.heap.size w w' := by
  obtain ⟨ht0, ht1⟩ := ht
  cases h : leaves t x.legs with
  | none =>
    have H := Lib.hid h
    have HR := Lib.hid (arrive_no (g := g) h)
    clear h
    go_enter Try.func121, Try.ntmps121
    go_wp2_with (go_at_call 131; refine (leaves_none _ (hL.ext RLeg.stable (by go_grown)) hl H.out).mono ?_; rintro e w1 ⟨rfl, hb1⟩; obtain ⟨b1, b2, b3⟩ := (Blk.ext (g := w.heap.size + 1 + 1) (t := 115) (cs := #[.int .i64 0, .int .i64 0, .int .i64 0, .int .i64 0]) (Blk.new_ (by simp)) hb1).facts)
    have hb2 : Below w.heap.size w w1 := ext_trans (by go_grown) hb1
    refine bodyPost_ret (v := .tuple #[legV ⟨0, 0, 0, 0⟩, .int .i64 0, .bool false]) (by simp [results, Try.results121, go_sem, b1, b3, legV]) rfl ⟨by rw [HR.out]; rfl, ?_⟩
    go_grown
  | some l =>
    have hm := leaves_mem h
    have hl' := hx.legs l hm.1
    have ha0 := hx.a0; have ha1 := hx.a1; have hb0 := hx.b0; have hb1' := hx.b1
    have hh := hV.h1
    have H := Lib.hid h
    have HR := Lib.hid (arrive_of (g := g) h)
    clear h
    by_cases hA : aliveB g x.a t = true
    case neg =>
      have hA' : aliveB g x.a t = false := by simpa using hA
      clear hA
      have HA := Lib.hid hA'
      go_enter Try.func121, Try.ntmps121
      go_wp2_with fail
      refine (leaves_some _ (hL.ext RLeg.stable (by go_grown)) hl H.out).mono ?_
      rintro e w1 ⟨rfl, hb1⟩
      obtain ⟨B2, b1, b2, b3⟩ := Blk.go (g := w.heap.size + 1 + 1) (t := 115) (cs := #[.int .i64 0, .int .i64 0, .int .i64 0, .int .i64 0]) (Blk.new_ (by simp)) hb1
      obtain ⟨B0, c1, c2, c3⟩ := Blk.go (g := w.heap.size) (t := 78) (cs := gC A c A' c' g) (((Blk.new _ _ _).alloc _).alloc _) hb1
      obtain ⟨B1, d1, d2, d3⟩ := Blk.go (g := w.heap.size + 1) (t := 118) (cs := #[.int .i64 x.a, .int .i64 x.b, .slice L x.legs.length cl]) ((Blk.new_ (by simp)).alloc _) hb1
      have hb2 : Below w.heap.size w w1 := ext_trans (by go_grown) hb1
      clear hb1
      go_wp2_with fail
      refine (alive_any _ _ _ _ g x.a t _ (hG.ext (ext_alloc hb2 _)) ha0 ha1).mono ?_
      rintro e w2 ⟨rfl, hb3⟩
      obtain ⟨B2', b1', b2', b3'⟩ := (B2.alloc _).go hb3
      obtain ⟨B0', c1', c2', c3'⟩ := (B0.alloc _).go hb3
      obtain ⟨B1', d1', d2', d3'⟩ := (B1.alloc _).go hb3
      obtain ⟨B3', e1', e2', e3'⟩ := (Blk.new w1 115 #[.int .i64 l.f, .int .i64 l.t, .int .i64 l.time, .int .i64 l.cost]).go hb3
      have hb4 : Below w.heap.size w w2 := ext_trans (ext_alloc hb2 _) hb3
      clear hb3 b1 b2 b3 c1 c2 c3 d1 d2 d3 B0 B1 B2
      go_wp2_with fail
      refine bodyPost_ret (v := .tuple #[legV ⟨0, 0, 0, 0⟩, .int .i64 0, .bool false]) (by simp [results, Try.results121, go_sem, b1']) rfl ⟨by rw [HR.out, if_neg (by simp [HA.out])]; rfl, ?_⟩
      go_grown
    have HA := Lib.hid hA
    by_cases hH : t + l.time < g.h
    case neg =>
      have HH := Lib.hid hH
      go_enter Try.func121, Try.ntmps121
      go_wp2_with fail
      refine (leaves_some _ (hL.ext RLeg.stable (by go_grown)) hl H.out).mono ?_
      rintro e w1 ⟨rfl, hb1⟩
      obtain ⟨B2, b1, b2, b3⟩ := Blk.go (g := w.heap.size + 1 + 1) (t := 115) (cs := #[.int .i64 0, .int .i64 0, .int .i64 0, .int .i64 0]) (Blk.new_ (by simp)) hb1
      obtain ⟨B0, c1, c2, c3⟩ := Blk.go (g := w.heap.size) (t := 78) (cs := gC A c A' c' g) (((Blk.new _ _ _).alloc _).alloc _) hb1
      obtain ⟨B1, d1, d2, d3⟩ := Blk.go (g := w.heap.size + 1) (t := 118) (cs := #[.int .i64 x.a, .int .i64 x.b, .slice L x.legs.length cl]) ((Blk.new_ (by simp)).alloc _) hb1
      have hb2 : Below w.heap.size w w1 := ext_trans (by go_grown) hb1
      clear hb1
      go_wp2_with fail
      refine (alive_any _ _ _ _ g x.a t _ (hG.ext (ext_alloc hb2 _)) ha0 ha1).mono ?_
      rintro e w2 ⟨rfl, hb3⟩
      obtain ⟨B2', b1', b2', b3'⟩ := (B2.alloc _).go hb3
      obtain ⟨B0', c1', c2', c3'⟩ := (B0.alloc _).go hb3
      obtain ⟨B1', d1', d2', d3'⟩ := (B1.alloc _).go hb3
      obtain ⟨B3', e1', e2', e3'⟩ := (Blk.new w1 115 #[.int .i64 l.f, .int .i64 l.t, .int .i64 l.time, .int .i64 l.cost]).go hb3
      have hb4 : Below w.heap.size w w2 := ext_trans (ext_alloc hb2 _) hb3
      clear hb3 b1 b2 b3 c1 c2 c3 d1 d2 d3 B0 B1 B2
      go_wp2_with fail
      refine bodyPost_ret (v := .tuple #[legV ⟨0, 0, 0, 0⟩, .int .i64 0, .bool false]) (by simp [results, Try.results121, go_sem, b1']) rfl ⟨by rw [HR.out, if_neg (by exact fun hh => by have := HH.out; omega)]; rfl, ?_⟩
      go_grown
    have HH := Lib.hid hH
    cases hB : aliveB g x.b (t + l.time)
    case false =>
      have HB := Lib.hid hB
      go_enter Try.func121, Try.ntmps121
      go_wp2_with fail
      refine (leaves_some _ (hL.ext RLeg.stable (by go_grown)) hl H.out).mono ?_
      rintro e w1 ⟨rfl, hb1⟩
      obtain ⟨B2, b1, b2, b3⟩ := Blk.go (g := w.heap.size + 1 + 1) (t := 115) (cs := #[.int .i64 0, .int .i64 0, .int .i64 0, .int .i64 0]) (Blk.new_ (by simp)) hb1
      obtain ⟨B0, c1, c2, c3⟩ := Blk.go (g := w.heap.size) (t := 78) (cs := gC A c A' c' g) (((Blk.new _ _ _).alloc _).alloc _) hb1
      obtain ⟨B1, d1, d2, d3⟩ := Blk.go (g := w.heap.size + 1) (t := 118) (cs := #[.int .i64 x.a, .int .i64 x.b, .slice L x.legs.length cl]) ((Blk.new_ (by simp)).alloc _) hb1
      have hb2 : Below w.heap.size w w1 := ext_trans (by go_grown) hb1
      clear hb1
      go_wp2_with fail
      refine (alive_any _ _ _ _ g x.a t _ (hG.ext (ext_alloc hb2 _)) ha0 ha1).mono ?_
      rintro e w2 ⟨rfl, hb3⟩
      obtain ⟨B2', b1', b2', b3'⟩ := (B2.alloc _).go hb3
      obtain ⟨B0', c1', c2', c3'⟩ := (B0.alloc _).go hb3
      obtain ⟨B1', d1', d2', d3'⟩ := (B1.alloc _).go hb3
      obtain ⟨B3', e1', e2', e3'⟩ := (Blk.new w1 115 #[.int .i64 l.f, .int .i64 l.t, .int .i64 l.time, .int .i64 l.cost]).go hb3
      have hb4 : Below w.heap.size w w2 := ext_trans (ext_alloc hb2 _) hb3
      clear hb3 b1 b2 b3 c1 c2 c3 d1 d2 d3 B0 B1 B2
      go_wp2_with fail
      refine (alive_any _ _ _ _ g x.b (t + l.time) _ (hG.ext hb4) hb0 hb1').mono ?_
      rintro e w3 ⟨rfl, hb5⟩
      obtain ⟨B2q, b1q, b2q, b3q⟩ := B2'.go hb5
      obtain ⟨B3q, e1q, e2q, e3q⟩ := B3'.go hb5
      have hb6 : Below w.heap.size w w3 := ext_trans hb4 hb5
      clear hb5 B2' b1' b2' b3' B0' c1' c2' c3' B1' d1' d2' d3' B3' e1' e2' e3'
      go_wp2_with fail
      refine bodyPost_ret (v := .tuple #[legV ⟨0, 0, 0, 0⟩, .int .i64 0, .bool false]) (by simp [results, Try.results121, go_sem, b1q]) rfl ⟨by rw [HR.out, if_neg (by exact fun hh => by rw [HB.out] at hh; exact absurd hh.2.2 (by simp))]; rfl, ?_⟩
      go_grown
    case true =>
      have HB := Lib.hid hB
      go_enter Try.func121, Try.ntmps121
      go_wp2_with fail
      refine (leaves_some _ (hL.ext RLeg.stable (by go_grown)) hl H.out).mono ?_
      rintro e w1 ⟨rfl, hb1⟩
      obtain ⟨B2, b1, b2, b3⟩ := Blk.go (g := w.heap.size + 1 + 1) (t := 115) (cs := #[.int .i64 0, .int .i64 0, .int .i64 0, .int .i64 0]) (Blk.new_ (by simp)) hb1
      obtain ⟨B0, c1, c2, c3⟩ := Blk.go (g := w.heap.size) (t := 78) (cs := gC A c A' c' g) (((Blk.new _ _ _).alloc _).alloc _) hb1
      obtain ⟨B1, d1, d2, d3⟩ := Blk.go (g := w.heap.size + 1) (t := 118) (cs := #[.int .i64 x.a, .int .i64 x.b, .slice L x.legs.length cl]) ((Blk.new_ (by simp)).alloc _) hb1
      have hb2 : Below w.heap.size w w1 := ext_trans (by go_grown) hb1
      clear hb1
      go_wp2_with fail
      refine (alive_any _ _ _ _ g x.a t _ (hG.ext (ext_alloc hb2 _)) ha0 ha1).mono ?_
      rintro e w2 ⟨rfl, hb3⟩
      obtain ⟨B2', b1', b2', b3'⟩ := (B2.alloc _).go hb3
      obtain ⟨B0', c1', c2', c3'⟩ := (B0.alloc _).go hb3
      obtain ⟨B1', d1', d2', d3'⟩ := (B1.alloc _).go hb3
      obtain ⟨B3', e1', e2', e3'⟩ := (Blk.new w1 115 #[.int .i64 l.f, .int .i64 l.t, .int .i64 l.time, .int .i64 l.cost]).go hb3
      have hb4 : Below w.heap.size w w2 := ext_trans (ext_alloc hb2 _) hb3
      clear hb3 b1 b2 b3 c1 c2 c3 d1 d2 d3 B0 B1 B2
      go_wp2_with fail
      refine (alive_any _ _ _ _ g x.b (t + l.time) _ (hG.ext hb4) hb0 hb1').mono ?_
      rintro e w3 ⟨rfl, hb5⟩
      obtain ⟨B2q, b1q, b2q, b3q⟩ := B2'.go hb5
      obtain ⟨B3q, e1q, e2q, e3q⟩ := B3'.go hb5
      have hb6 : Below w.heap.size w w3 := ext_trans hb4 hb5
      clear hb5 B2' b1' b2' b3' B0' c1' c2' c3' B1' d1' d2' d3' B3' e1' e2' e3'
      go_wp2_with fail
      refine bodyPost_ret (v := .tuple #[legV l, .int .i64 (t + l.time), .bool true]) (by simp [results, Try.results121, go_sem, b1q]) rfl ⟨by rw [HR.out, if_pos ⟨HA.out, HH.out, HB.out⟩]; rfl, ?_⟩
      go_grown
end Go.Proofs.Ytcfachfldanddaa
/- The walks of the graph's check, the program's and the document's. -/
namespace Go.Proofs.Ytcfachfldanddaa
open Go.RowKit

set_option maxHeartbeats 400000 in
theorem leg_any (l : LegD) (h : Int) (w : World) : Calls Try.prog 130 #[legV l, .int .i64 h] w fun e w' => e = .returned (.bool (legOk l h)) ∧ Below w.heap.size w w' := by
  go_enter Try.func130, Try.ntmps130
  go_wp2
  all_goals go_ret
  all_goals (refine ⟨ret_bool ?_, ?_⟩ <;> first | (rw [Bool.eq_iff_iff]; simp [legOk]; omega) | go_grown)

theorem edgeErr_far {h n : Int} {x : EdgeD} (hh : inB x.a 0 (n - 1) = false ∨ inB x.b 0 (n - 1) = false) : edgeErr h n x = 4 := by unfold edgeErr; rw [if_pos hh]
theorem edgeErr_large {h n : Int} {x : EdgeD} (h1 : inB x.a 0 (n - 1) = true) (h2 : inB x.b 0 (n - 1) = true) (h3 : 6 < x.legs.length) : edgeErr h n x = 2 := by
  unfold edgeErr; rw [if_neg (by simp [h1, h2]), if_pos h3]
theorem edgeErr_legs {h n : Int} {x : EdgeD} (h1 : inB x.a 0 (n - 1) = true) (h2 : inB x.b 0 (n - 1) = true) (h3 : ¬ 6 < x.legs.length) : edgeErr h n x = legsErr h none x.legs := by
  unfold edgeErr; rw [if_neg (by simp [h1, h2]), if_neg h3]
theorem inB_true {n lo hi : Int} (h1 : lo ≤ n) (h2 : n ≤ hi) : inB n lo hi = true := by simp [inB, h1, h2]
theorem inB_false {n lo hi : Int} (h : n < lo ∨ hi < n) : inB n lo hi = false := by simp [inB]; omega
theorem within_yes (n lo hi : Int) (w : World) (h : lo ≤ n ∧ n ≤ hi) : Calls Try.prog 117 #[.int .i64 n, .int .i64 lo, .int .i64 hi] w fun e w' => e = .returned (.bool true) ∧ w = w' := by
  obtain ⟨h1, h2⟩ := h
  go_enter Try.func117, Try.ntmps117
  go_wp2
  go_ret
  exact ⟨ret_bool (by simp), rfl⟩
theorem within_no (n lo hi : Int) (w : World) (h : n < lo ∨ hi < n) : Calls Try.prog 117 #[.int .i64 n, .int .i64 lo, .int .i64 hi] w fun e w' => e = .returned (.bool false) ∧ w = w' := by
  go_enter Try.func117, Try.ntmps117
  go_wp2
  all_goals go_ret
  all_goals exact ⟨ret_bool (by simp; try omega), rfl⟩

set_option maxHeartbeats 1000000 in
theorem edge_any (A A' L : Option Addr) (c c' cl : Nat) (g : GraphD) (x : EdgeD) (w : World) (hg : g.lives.length ≤ maxLen) (hL : SlAt RLeg 4 w L x.legs) (hl : x.legs.length ≤ maxLen) :
    Calls Try.prog 118 #[gV A c A' c' g, edgeV L cl x] w fun e w' => e = .returned (.int .i64 (edgeErr g.h g.lives.length x)) ∧ Below w.heap.size w w' := by
  unfold maxLen at hg hl
  by_cases h1 : 0 ≤ x.a ∧ x.a ≤ (g.lives.length : Int) - 1
  case neg =>
    go_enter Try.func118, Try.ntmps118
    go_wp2_with (go_at_call 117; refine (within_no _ _ _ _ (by omega)).mono ?_; rintro e w' ⟨rfl, rfl⟩)
    go_ret
    exact ⟨ret_int (edgeErr_far (.inl (inB_false (by omega)))).symm, by go_grown⟩
  by_cases h2 : 0 ≤ x.b ∧ x.b ≤ (g.lives.length : Int) - 1
  case neg =>
    go_enter Try.func118, Try.ntmps118
    go_wp2_with (go_at_call 117; first | (refine (within_yes _ _ _ _ (by omega)).mono ?_; rintro e w' ⟨rfl, rfl⟩) | (refine (within_no _ _ _ _ (by omega)).mono ?_; rintro e w' ⟨rfl, rfl⟩))
    go_ret
    exact ⟨ret_int (edgeErr_far (.inr (inB_false (by omega)))).symm, by go_grown⟩
  have i1 := inB_true h1.1 h1.2
  have i2 := inB_true h2.1 h2.2
  have I1 := Lib.hid i1
  have I2 := Lib.hid i2
  clear i1 i2
  by_cases h3 : 6 < x.legs.length
  · go_enter Try.func118, Try.ntmps118
    go_wp2_with (go_at_call 117; refine (within_yes _ _ _ _ (by omega)).mono ?_; rintro e w' ⟨rfl, rfl⟩)
    go_ret
    exact ⟨ret_int (edgeErr_large I1.out I2.out h3).symm, by go_grown⟩
  have e0 := edgeErr_legs (h := g.h) I1.out I2.out h3
  rw [e0]
  clear e0 I1 I2
  obtain ⟨b, off, hL⟩ := hL
  go_enter Try.func118, Try.ntmps118
  go_wp2_with (go_at_call 117; refine (within_yes _ _ _ _ (by omega)).mono ?_; rintro e w' ⟨rfl, rfl⟩)
  go_loopw [32] (fun v wr => ∃ k : Nat, k ≤ x.legs.length ∧ v = .int .i64 k ∧ legsErr g.h (legAhead x.legs k) (x.legs.drop k) = legsErr g.h none x.legs ∧ Below w.heap.size w wr ∧ Blk wr w.heap.size 78 (gC A c A' c' g) ∧ Blk wr (w.heap.size + 1) 118 #[.int .i64 x.a, .int .i64 x.b, .slice L x.legs.length cl])
    (fun v _ => x.legs.length - (intOf v).toNat)
  case atStart => exact ⟨0, Nat.zero_le _, rfl, rfl, by go_grown, (Blk.new _ _ _).alloc _, Blk.new_ (by simp)⟩
  case round =>
    obtain ⟨k, hk, rfl, hinv, hb, hB1, hB2⟩ := hrel
    obtain ⟨b1, b2, b3⟩ := hB1.facts
    obtain ⟨d1, d2, d3⟩ := hB2.facts
    by_cases hlt : k < x.legs.length
    · obtain ⟨y, hy⟩ := get_lt hlt
      obtain ⟨rfl, hb0, ⟨⟨x0, x1, x2, x3⟩, _⟩⟩ := hL k y hy
      have hd := drop_cons hy
      rw [hd] at hinv
      have HI := Lib.hid hinv
      have HY := Lib.hid hy
      clear hinv hy hd
      unfold cellIs at x0 x1 x2 x3
      rw [← hb.cell (by exact hb0)] at x0 x1 x2 x3
      by_cases hok : legOk y g.h = true
      case neg =>
        have hok' : legOk y g.h = false := by simpa using hok
        clear hL hok
        go_wp2_with (first
            | (go_at_call 130; refine (leg_any y _ _).mono ?_; rintro e w1 ⟨rfl, hb1⟩))
        go_ret
        exact ⟨ret_int (by rw [← HI.out, legsErr_bad hok']), ext_trans (ext_alloc hb _) hb1⟩
      case pos =>
        by_cases hk0 : k ≤ 0
        · clear hL
          have hg0 : decide (0 < k) = false := by simp; omega
          go_wp2_with (first
            | (go_at_call 130; refine (leg_any y _ _).mono ?_; rintro e w1 ⟨rfl, hb1⟩; obtain ⟨q1, q2, q3⟩ := ((hB2.alloc _).ext hb1).facts; obtain ⟨r1, r2, r3⟩ := ((Blk.new wr 115 _).ext hb1).facts))
          go_quiet (fail)
          go_wp2
          go_roundw
          case rel =>
            obtain rfl : k = 0 := by omega
            refine ⟨1, by omega, by go_num, ?_, below_drewN (ext_trans (ext_alloc hb _) hb1) _, ((hB1.alloc _).ext hb1).drewN _, ((hB2.alloc _).ext hb1).drewN _⟩
            rw [← HI.out, legAhead_of HY.out]
            exact (legsErr_first hok).symm
          case measure => simp [intOf]; omega
        · obtain ⟨j, rfl⟩ : ∃ j, k = j + 1 := ⟨k - 1, by omega⟩
          obtain ⟨z, hz⟩ := get_lt (show j < x.legs.length by omega)
          obtain ⟨_, hb0, ⟨⟨z0, z1, z2, z3⟩, _⟩⟩ := hL j z hz
          have HZ := Lib.hid hz
          clear hL hz
          have hg1 : (0 : Int) < (j : Int) + 1 := by omega
          by_cases hlf : y.f < z.t
          · go_wp2_with (first
              | (go_at_call 130; refine (leg_any y _ _).mono ?_; rintro e w1 ⟨rfl, hb1⟩; obtain ⟨q1, q2, q3⟩ := ((hB2.alloc _).ext hb1).facts; obtain ⟨r1, r2, r3⟩ := ((Blk.new wr 115 _).ext hb1).facts;
                 have z1' := z1.now (ext_trans (ext_alloc hb _) hb1)))
            go_quiet (fail)
            go_wp2
            go_ret
            exact ⟨ret_int (by rw [← HI.out, legAhead_of HZ.out, legsErr_form hok hlf]), below_drewN (ext_trans (ext_alloc hb _) hb1) _⟩
          · go_wp2_with (first
              | (go_at_call 130; refine (leg_any y _ _).mono ?_; rintro e w1 ⟨rfl, hb1⟩; obtain ⟨q1, q2, q3⟩ := ((hB2.alloc _).ext hb1).facts; obtain ⟨r1, r2, r3⟩ := ((Blk.new wr 115 _).ext hb1).facts;
                 have z1' := z1.now (ext_trans (ext_alloc hb _) hb1)))
            go_quiet (fail)
            go_wp2
            go_roundw
            case rel =>
              refine ⟨j + 1 + 1, by omega, by go_num, ?_, below_drewN (ext_trans (ext_alloc hb _) hb1) _, ((hB1.alloc _).ext hb1).drewN _, ((hB2.alloc _).ext hb1).drewN _⟩
              rw [← HI.out, legAhead_of HY.out, legAhead_of HZ.out, legsErr_next hok (by omega)]
            case measure => simp [intOf]; omega
    · go_wp2
      go_ret
      exact ⟨ret_int (by rw [← hinv, drop_end (by omega)]; cases k <;> rfl), hb⟩

set_option maxHeartbeats 1000000 in
theorem check_any (A A' : Option Addr) (c c' : Nat) (g : GraphD) (w : World) (hG : GraphAt w A c A' c' g) :
    Calls Try.prog 94 #[gV A c A' c' g] w fun e w' => e = .returned (.int .i64 (graphErr g)) ∧ Below w.heap.size w w' := by
  have m1 : g.lives.length ≤ 9223372036854775807 := Nat.le_trans hG.lc hG.cm
  have m2 : g.edges.length ≤ 9223372036854775807 := Nat.le_trans hG.lc' hG.cm'
  by_cases h1 : 1 ≤ g.h ∧ g.h ≤ 100
  case neg =>
    go_enter Try.func94, Try.ntmps94
    go_wp2_with (go_at_call 117; refine (within_no _ _ _ _ (by omega)).mono ?_; rintro e w' ⟨rfl, rfl⟩)
    go_ret
    exact ⟨ret_int (graphErr_h (inB_false (by omega))).symm, by go_grown⟩
  have I1 := Lib.hid (inB_true h1.1 h1.2)
  by_cases h2 : 12 < g.lives.length
  · go_enter Try.func94, Try.ntmps94
    go_wp2_with (go_at_call 117; refine (within_yes _ _ _ _ (by omega)).mono ?_; rintro e w' ⟨rfl, rfl⟩)
    go_ret
    exact ⟨ret_int (graphErr_large I1.out (by omega)).symm, by go_grown⟩
  by_cases h3 : 30 < g.edges.length
  · go_enter Try.func94, Try.ntmps94
    go_wp2_with (go_at_call 117; refine (within_yes _ _ _ _ (by omega)).mono ?_; rintro e w' ⟨rfl, rfl⟩)
    go_ret
    exact ⟨ret_int (graphErr_large I1.out (by omega)).symm, by go_grown⟩
  obtain ⟨b, off, hL⟩ := hG.lives
  go_enter Try.func94, Try.ntmps94
  go_wp2_with (go_at_call 117; refine (within_yes _ _ _ _ (by omega)).mono ?_; rintro e w' ⟨rfl, rfl⟩)
  go_loopw [25] (fun v wr => ∃ k : Nat, k ≤ g.lives.length ∧ v = .int .i64 k ∧ Hid ((g.lives.drop k).all (lifeOk g.h) = g.lives.all (lifeOk g.h)) ∧ Below w.heap.size w wr ∧ Blk wr w.heap.size 78 (gC A c A' c' g))
    (fun v _ => g.lives.length - (intOf v).toNat)
  case atStart => exact ⟨0, Nat.zero_le _, rfl, Lib.hid rfl, by go_grown, Blk.new _ _ _⟩
  case round =>
    obtain ⟨k, hk, rfl, HI, hb, hB1⟩ := hrel
    obtain ⟨b1, b2, b3⟩ := hB1.facts
    by_cases hlt : k < g.lives.length
    · obtain ⟨y, hy⟩ := get_lt hlt
      obtain ⟨rfl, hb0, ⟨⟨x0, x1⟩, _⟩⟩ := hL k y hy
      have y0 := x0.now hb
      have y1 := x1.now hb
      have hd := drop_cons hy
      have HI2 : Hid ((y :: g.lives.drop (k + 1)).all (lifeOk g.h) = g.lives.all (lifeOk g.h)) := by rw [← hd]; exact HI
      clear hL hd hy HI x0 x1
      by_cases hok : 0 ≤ y.f ∧ y.f < y.t ∧ y.t ≤ g.h
      · obtain ⟨k1, k2, k3⟩ := hok
        go_wp2
        go_roundw
        case rel => exact ⟨k + 1, by omega, by go_num, Lib.hid ((all_next (lifeOk_true ⟨k1, k2, k3⟩)).symm.trans HI2.out), ext_alloc hb _, hB1.alloc _⟩
        case measure => simp [intOf]; omega
      · go_wp2
        all_goals go_ret
        all_goals exact ⟨ret_int (graphErr_life I1.out (by omega) (HI2.out.symm.trans (all_bad (lifeOk_false (by omega))))).symm, ext_alloc hb _⟩
    · have hall : g.lives.all (lifeOk g.h) = true := by rw [← HI.out, drop_end (by omega)]; rfl
      have e0 := graphErr_edges I1.out (by omega) hall
      have E0 := Lib.hid e0
      clear e0 hall HI hL
      obtain ⟨b', off', hE⟩ := hG.edges
      obtain ⟨wo, rfl⟩ : ∃ wo : World, wo = wr := ⟨_, rfl⟩
      go_wp2
      go_loopw [50] (fun v wr => ∃ k : Nat, k ≤ g.edges.length ∧ v = .int .i64 k ∧ Hid (edgesErr g.h g.lives.length (g.edges.drop k) = edgesErr g.h g.lives.length g.edges) ∧ Below w.heap.size w wr ∧ Blk wr w.heap.size 78 (gC A c A' c' g))
        (fun v _ => g.edges.length - (intOf v).toNat)
      case atStart => exact ⟨0, Nat.zero_le _, rfl, Lib.hid rfl, hb, hB1⟩
      case round =>
        clear b1 b2 b3
        obtain ⟨k', hk', rfl, HI', hb', hB1'⟩ := hrel
        obtain ⟨b1, b2, b3⟩ := hB1'.facts
        by_cases hlt' : k' < g.edges.length
        · obtain ⟨y, hy⟩ := get_lt hlt'
          obtain ⟨rfl, hb0, ⟨⟨x0, x1, L, cl, x2, hl1, hl2, hL⟩, _⟩⟩ := hE k' y hy
          have y0 := x0.now hb'
          have y1 := x1.now hb'
          have y2 := x2.now hb'
          have hd := drop_cons hy
          have HI2 : Hid (edgesErr g.h g.lives.length (y :: g.edges.drop (k' + 1)) = edgesErr g.h g.lives.length g.edges) := by rw [← hd]; exact HI'
          clear hE hd hy HI' x0 x1 x2
          have hll : y.legs.length ≤ maxLen := Nat.le_trans hl1 hl2
          by_cases hok : edgeErr g.h g.lives.length y = 0
          · have HO := Lib.hid hok
            go_wp2_with (go_at_call 118; refine (edge_any _ _ L c c' cl g y _ (Nat.le_trans hG.lc hG.cm) (hL.ext RLeg.stable (ext_alloc hb' _)) hll).mono ?_; rintro e w1 ⟨rfl, hb1⟩)
            go_roundw
            case rel => exact ⟨k' + 1, by omega, by go_num, Lib.hid ((edgesErr_next HO.out).symm.trans HI2.out), ext_trans (ext_alloc hb' _) hb1, (hB1'.alloc _).ext hb1⟩
            case measure => simp [intOf]; omega
          · have HO := Lib.hid hok
            go_wp2_with (go_at_call 118; refine (edge_any _ _ L c c' cl g y _ (Nat.le_trans hG.lc hG.cm) (hL.ext RLeg.stable (ext_alloc hb' _)) hll).mono ?_; rintro e w1 ⟨rfl, hb1⟩)
            go_ret
            exact ⟨ret_int (by rw [E0.out, ← HI2.out, edgesErr_bad HO.out]), ext_trans (ext_alloc hb' _) hb1⟩
        · go_wp2
          go_ret
          exact ⟨ret_int (by rw [E0.out, ← HI'.out, drop_end (by omega)]; rfl), hb'⟩
end Go.Proofs.Ytcfachfldanddaa
/- The walk of the document's check of a graph: it tells what the program's check tells. -/
namespace Go.Proofs.Ytcfachfldanddaa
open Go.RowKit

set_option maxRecDepth 100000 in
set_option maxHeartbeats 4000000 in
theorem refGraph_any (A A' : Option Addr) (c c' : Nat) (g : GraphD) (w : World) (hG : GraphAt w A c A' c' g) :
    Calls Try.prog 55 #[gV A c A' c' g] w fun e w' => e = .returned (.int .i64 (graphErr g)) ∧ Below w.heap.size w w' := by
  have m1 : g.lives.length ≤ 9223372036854775807 := Nat.le_trans hG.lc hG.cm
  have m2 : g.edges.length ≤ 9223372036854775807 := Nat.le_trans hG.lc' hG.cm'
  cases h1 : inB g.h 1 100
  case false =>
    go_enter Try.func55, Try.ntmps55
    go_wp2_with (go_at_call 56; refine (in_any _ _ _ _).mono ?_; rintro e w' ⟨rfl, rfl⟩)
    go_ret
    exact ⟨ret_int (graphErr_h h1).symm, by go_grown⟩
  have I1 := Lib.hid h1
  by_cases h2 : 12 < g.lives.length
  · go_enter Try.func55, Try.ntmps55
    go_wp2_with (go_at_call 56; refine (in_any _ _ _ _).mono ?_; rintro e w' ⟨rfl, rfl⟩)
    go_ret
    exact ⟨ret_int (graphErr_large I1.out (by omega)).symm, by go_grown⟩
  by_cases h3 : 30 < g.edges.length
  · go_enter Try.func55, Try.ntmps55
    go_wp2_with (go_at_call 56; refine (in_any _ _ _ _).mono ?_; rintro e w' ⟨rfl, rfl⟩)
    go_ret
    exact ⟨ret_int (graphErr_large I1.out (by omega)).symm, by go_grown⟩
  obtain ⟨b, off, hL⟩ := hG.lives
  go_enter Try.func55, Try.ntmps55
  go_wp2_with (go_at_call 56; refine (in_any _ _ _ _).mono ?_; rintro e w' ⟨rfl, rfl⟩)
  go_loopw [3] (fun v wr => ∃ k : Nat, k ≤ g.lives.length ∧ v = .int .i64 k ∧ Hid ((g.lives.drop k).all (lifeOk g.h) = g.lives.all (lifeOk g.h)) ∧ Below w.heap.size w wr ∧ Blk wr w.heap.size 78 (gC A c A' c' g))
    (fun v _ => g.lives.length - (intOf v).toNat)
  case atStart => exact ⟨0, Nat.zero_le _, rfl, Lib.hid rfl, by go_grown, Blk.new _ _ _⟩
  case round =>
    clear h1
    obtain ⟨k, hk, rfl, HI, hb, hB1⟩ := hrel
    obtain ⟨b1, b2, b3⟩ := hB1.facts
    by_cases hlt : k < g.lives.length
    · obtain ⟨y, hy⟩ := get_lt hlt
      obtain ⟨rfl, hb0, ⟨⟨x0, x1⟩, _⟩⟩ := hL k y hy
      have y0 := x0.now hb
      have y1 := x1.now hb
      have hd := drop_cons hy
      have HI2 : Hid ((y :: g.lives.drop (k + 1)).all (lifeOk g.h) = g.lives.all (lifeOk g.h)) := by rw [← hd]; exact HI
      clear hL hd hy HI x0 x1
      by_cases hok : 0 ≤ y.f ∧ y.f < y.t ∧ y.t ≤ g.h
      · obtain ⟨k1, k2, k3⟩ := hok
        go_wp2
        go_roundw
        case rel => exact ⟨k + 1, by omega, by go_num, Lib.hid ((all_next (lifeOk_true ⟨k1, k2, k3⟩)).symm.trans HI2.out), ext_alloc hb _, hB1.alloc _⟩
        case measure => simp [intOf]; omega
      · go_wp2
        all_goals go_ret
        all_goals exact ⟨ret_int (graphErr_life I1.out (by omega) (HI2.out.symm.trans (all_bad (lifeOk_false (by omega))))).symm, ext_alloc hb _⟩
    · have hall : g.lives.all (lifeOk g.h) = true := by rw [← HI.out, drop_end (by omega)]; rfl
      have e0 := graphErr_edges I1.out (by omega) hall
      have E0 := Lib.hid e0
      clear e0 hall HI hL
      obtain ⟨b', off', hE⟩ := hG.edges
      obtain ⟨wo, rfl⟩ : ∃ wo : World, wo = wr := ⟨_, rfl⟩
      go_wp2
      go_loopw [5] (fun v wr => ∃ k : Nat, k ≤ g.edges.length ∧ v = .int .i64 k ∧ Hid (edgesErr g.h g.lives.length (g.edges.drop k) = edgesErr g.h g.lives.length g.edges) ∧ Below w.heap.size w wr ∧ Blk wr w.heap.size 78 (gC A c A' c' g))
        (fun v _ => g.edges.length - (intOf v).toNat)
      case atStart => exact ⟨0, Nat.zero_le _, rfl, Lib.hid rfl, hb, hB1⟩
      case round =>
        clear b1 b2 b3
        obtain ⟨k', hk', rfl, HI', hb', hB1'⟩ := hrel
        obtain ⟨b1, b2, b3⟩ := hB1'.facts
        by_cases hlt' : k' < g.edges.length
        · obtain ⟨y, hy⟩ := get_lt hlt'
          obtain ⟨rfl, hb0, ⟨⟨x0, x1, L, cl, x2, hl1, hl2, hL⟩, _⟩⟩ := hE k' y hy
          have y0 := x0.now hb'
          have y1 := x1.now hb'
          have y2 := x2.now hb'
          have hd := drop_cons hy
          have HI2 : Hid (edgesErr g.h g.lives.length (y :: g.edges.drop (k' + 1)) = edgesErr g.h g.lives.length g.edges) := by rw [← hd]; exact HI'
          clear hE hd hy HI' x0 x1 x2
          have hll : y.legs.length ≤ 9223372036854775807 := Nat.le_trans hl1 hl2
          have fin : ∀ e : Int, edgeErr g.h g.lives.length y = e → ¬ e = 0 → Hid (graphErr g = e) := fun e h1 h2 => Lib.hid (by rw [E0.out, ← HI2.out, edgesErr_bad (by rw [h1]; exact h2), h1])
          have FIN := Lib.hid fin
          clear fin
          cases ha : inB y.a 0 ((g.lives.length : Int) - 1)
          case false =>
            have hf := Lib.hid (FIN.out 4 (edgeErr_a ha) (by decide))
            go_wp2_with (go_at_call 56; refine (in_any _ _ _ _).mono ?_; rintro e w' ⟨rfl, rfl⟩)
            go_ret
            exact ⟨ret_int hf.out.symm, ext_alloc hb' _⟩
          cases hbb : inB y.b 0 ((g.lives.length : Int) - 1)
          case false =>
            have hf := Lib.hid (FIN.out 4 (edgeErr_b hbb) (by decide))
            go_wp2_with (go_at_call 56; refine (in_any _ _ _ _).mono ?_; rintro e w' ⟨rfl, rfl⟩)
            go_ret
            exact ⟨ret_int hf.out.symm, ext_alloc hb' _⟩
          by_cases h6 : 6 < y.legs.length
          · have hf := Lib.hid (FIN.out 2 (edgeErr_6 ha hbb h6) (by decide))
            go_wp2_with (go_at_call 56; refine (in_any _ _ _ _).mono ?_; rintro e w' ⟨rfl, rfl⟩)
            go_ret
            exact ⟨ret_int hf.out.symm, ext_alloc hb' _⟩
          have HE := Lib.hid (edgeErr_l (h := g.h) ha hbb h6)
          go_wp2_with (go_at_call 56; refine (in_any _ _ _ _).mono ?_; rintro e w' ⟨rfl, rfl⟩)
          clear ha hbb b1 b2 b3 y0 y1 y2
          obtain ⟨wp, rfl⟩ : ∃ wp : World, wp = wr := ⟨_, rfl⟩
          have hp := ext_alloc hb' (Obj.cells #[Value.int IntKind.i64 y.a, Value.int IntKind.i64 y.b, Value.slice L y.legs.length cl] 118)
          obtain ⟨bl, ol, hLL⟩ := hL
          go_loopw [7] (fun v wr => ∃ k : Nat, k ≤ y.legs.length ∧ v = .int .i64 k ∧ Hid (legsErr g.h (legAhead y.legs k) (y.legs.drop k) = legsErr g.h none y.legs) ∧ Below w.heap.size w wr ∧ Blk wr w.heap.size 78 (gC A c (some { block := b', off := off' }) c' g) ∧ Blk wr wp.heap.size 118 #[Value.int IntKind.i64 y.a, Value.int IntKind.i64 y.b, Value.slice L y.legs.length cl])
            (fun v _ => y.legs.length - (intOf v).toNat)
          case atStart => exact ⟨0, Nat.zero_le _, rfl, Lib.hid rfl, hp, hB1'.alloc _, Blk.new _ _ _⟩
          case round =>
            obtain ⟨j, hj, rfl, HJ, hbj, hBg, hBe⟩ := hrel
            obtain ⟨b1, b2, b3⟩ := hBg.facts
            obtain ⟨d1, d2, d3⟩ := hBe.facts
            by_cases hltj : j < y.legs.length
            · obtain ⟨z, hz⟩ := get_lt hltj
              obtain ⟨rfl, hbl, ⟨⟨z0, z1, z2, z3⟩, _⟩⟩ := hLL j z hz
              have c0 := z0.now hbj
              have c1 := z1.now hbj
              have c2 := z2.now hbj
              have c3 := z3.now hbj
              have hdz := drop_cons hz
              have HJ2 : Hid (legsErr g.h (legAhead y.legs j) (z :: y.legs.drop (j + 1)) = legsErr g.h none y.legs) := by rw [← hdz]; exact HJ
              have HZ := Lib.hid hz
              clear hdz hz HJ z0 z1 z2 z3
              have fin2 : ∀ e : Int, legsErr g.h (legAhead y.legs j) (z :: y.legs.drop (j + 1)) = e → ¬ e = 0 → Hid (graphErr g = e) := fun e h1 h2 => FIN.out e (by rw [HE.out, ← HJ2.out, h1]) h2
              have FIN2 := Lib.hid fin2
              clear fin2
              cases ht : inB z.time 1 50
              case false =>
                have hf := Lib.hid (FIN2.out 1 (legsErr_bad (legOk_false (by rw [inB_iff'] at ht; omega))) (by decide))
                go_wp2_with (go_at_call 56; refine (in_any _ _ _ _).mono ?_; rintro e w' ⟨rfl, rfl⟩)
                all_goals go_ret
                all_goals exact ⟨ret_int hf.out.symm, ext_alloc hbj _⟩
              cases hc : inB z.cost 0 1000
              case false =>
                have hf := Lib.hid (FIN2.out 1 (legsErr_bad (legOk_false (by rw [inB_iff'] at hc; omega))) (by decide))
                go_wp2_with (go_at_call 56; refine (in_any _ _ _ _).mono ?_; rintro e w' ⟨rfl, rfl⟩)
                all_goals go_ret
                all_goals exact ⟨ret_int hf.out.symm, ext_alloc hbj _⟩
              by_cases hok : 0 ≤ z.f ∧ z.f < z.t ∧ z.t ≤ g.h
              case neg =>
                have hf := Lib.hid (FIN2.out 1 (legsErr_bad (legOk_false (by omega))) (by decide))
                go_wp2_with (go_at_call 56; refine (in_any _ _ _ _).mono ?_; rintro e w' ⟨rfl, rfl⟩)
                all_goals go_ret
                all_goals exact ⟨ret_int hf.out.symm, ext_alloc hbj _⟩
              have HK := Lib.hid (legOk_true (l := z) (h := g.h) (by rw [inB_iff] at ht hc; omega))
              obtain ⟨k1, k2, k3⟩ := hok
              by_cases hj0 : j ≤ 0
              · have hg0 : decide (0 < j) = false := by simp; omega
                clear hLL
                go_wp2_with (go_at_call 56; refine (in_any _ _ _ _).mono ?_; rintro e w' ⟨rfl, rfl⟩)
                go_quiet (fail)
                go_wp2
                go_roundw
                case rel =>
                  obtain rfl : j = 0 := by omega
                  refine ⟨1, by omega, by go_num, Lib.hid ?_, below_drewN (ext_alloc hbj _) _, (hBg.alloc _).drewN _, (hBe.alloc _).drewN _⟩
                  rw [← HJ2.out, legAhead_of HZ.out]
                  exact (legsErr_first HK.out).symm
                case measure => simp [intOf]; omega
              · obtain ⟨i, rfl⟩ : ∃ i, j = i + 1 := ⟨j - 1, by omega⟩
                obtain ⟨q, hq⟩ := get_lt (show i < y.legs.length by omega)
                obtain ⟨_, _, ⟨⟨q0, q1, q2, q3⟩, _⟩⟩ := hLL i q hq
                have HQ := Lib.hid hq
                have c1' := q1.now hbj
                have hbl' : bl < wr.heap.size := Nat.lt_of_lt_of_le hbl hbj.size
                clear hLL hq q0 q1 q2 q3
                have hg1 : (0 : Int) < (i : Int) + 1 := by omega
                by_cases hlf : q.t ≤ z.f
                · go_wp2_with (go_at_call 56; refine (in_any _ _ _ _).mono ?_; rintro e w' ⟨rfl, rfl⟩)
                  go_quiet (fail)
                  go_wp2
                  go_roundw
                  case rel =>
                    refine ⟨i + 1 + 1, by omega, by go_num, Lib.hid ?_, below_drewN (ext_alloc hbj _) _, (hBg.alloc _).drewN _, (hBe.alloc _).drewN _⟩
                    rw [← HJ2.out, legAhead_of HZ.out, legAhead_of HQ.out, legsErr_next HK.out (by omega)]
                  case measure => simp [intOf]; omega
                · have hf := Lib.hid (FIN2.out 5 (by rw [legAhead_of HQ.out]; exact legsErr_form HK.out (by omega)) (by decide))
                  go_wp2_with (go_at_call 56; refine (in_any _ _ _ _).mono ?_; rintro e w' ⟨rfl, rfl⟩)
                  go_quiet (fail)
                  go_wp2
                  go_ret
                  exact ⟨ret_int hf.out.symm, below_drewN (ext_alloc hbj _) _⟩
            · go_wp2
              go_roundw
              case rel =>
                refine ⟨k' + 1, by omega, by go_num, Lib.hid ((edgesErr_next ?_).symm.trans HI2.out), hbj, hBg⟩
                rw [HE.out, ← HJ.out, drop_end (by omega)]
                cases j <;> rfl
              case measure => simp [intOf]; omega
        · go_wp2
          go_ret
          exact ⟨ret_int (by rw [E0.out, ← HI'.out, drop_end (by omega)]; rfl), hb'⟩
end Go.Proofs.Ytcfachfldanddaa
