/- The walks: when one comes along an edge, what is wrong with a place; the program's and the document's. -/
import Derived.Test.YtcgnalpcbcpmkaaStep
namespace Go.Proofs.Ytcgnalpcbcpmkaa
open Go.RowKit

theorem leaves_none {L : Option Addr} {cl : Nat} {x : EdgeD} {t : Int} (w : World) (hL : SlAt RLeg 4 w L x.legs) (hl : x.legs.length ≤ maxLen) (h : leaves t x.legs = none) :
    Calls Try.prog 126 #[edgeV L cl x, .int .i64 t] w fun e w' => e = .returned (.tuple #[legV ⟨0, 0, 0, 0⟩, .bool false]) ∧ Below w.heap.size w w' :=
  (leaves_any L cl x t w hL hl).mono fun e w' ⟨he, hb⟩ => ⟨by rw [he, h]; rfl, hb⟩
theorem leaves_some {L : Option Addr} {cl : Nat} {x : EdgeD} {t : Int} {l : LegD} (w : World) (hL : SlAt RLeg 4 w L x.legs) (hl : x.legs.length ≤ maxLen) (h : leaves t x.legs = some l) :
    Calls Try.prog 126 #[edgeV L cl x, .int .i64 t] w fun e w' => e = .returned (.tuple #[legV l, .bool true]) ∧ Below w.heap.size w w' :=
  (leaves_any L cl x t w hL hl).mono fun e w' ⟨he, hb⟩ => ⟨by rw [he, h]; rfl, hb⟩
theorem refLeg_none {L : Option Addr} {cl : Nat} {x : EdgeD} {t : Int} (w : World) (hL : SlAt RLeg 4 w L x.legs) (hl : x.legs.length ≤ maxLen) (h : leaves t x.legs = none) :
    Calls Try.prog 127 #[edgeV L cl x, .int .i64 t] w fun e w' => e = .returned (.tuple #[legV ⟨0, 0, 0, 0⟩, .bool false]) ∧ Below w.heap.size w w' :=
  (refLeg_any L cl x t w hL hl).mono fun e w' ⟨he, hb⟩ => ⟨by rw [he, h]; rfl, hb⟩
theorem refLeg_some {L : Option Addr} {cl : Nat} {x : EdgeD} {t : Int} {l : LegD} (w : World) (hL : SlAt RLeg 4 w L x.legs) (hl : x.legs.length ≤ maxLen) (h : leaves t x.legs = some l) :
    Calls Try.prog 127 #[edgeV L cl x, .int .i64 t] w fun e w' => e = .returned (.tuple #[legV l, .bool true]) ∧ Below w.heap.size w w' :=
  (refLeg_any L cl x t w hL hl).mono fun e w' ⟨he, hb⟩ => ⟨by rw [he, h]; rfl, hb⟩

/-- The three results of Arrive. -/
def arriveR (o : Option (LegD × Int)) : Value := match o with
  | some (l, to) => .tuple #[legV l, .int .i64 to, .bool true]
  | none => .tuple #[legV ⟨0, 0, 0, 0⟩, .int .i64 0, .bool false]

set_option maxHeartbeats 1000000 in
theorem arrive_any (A A' L : Option Addr) (c c' cl : Nat) (g : GraphD) (x : EdgeD) (t : Int) (w : World) (hG : GraphAt w A c A' c' g) (hV : Valid g) (hx : EdgeOk g x)
    (hL : SlAt RLeg 4 w L x.legs) (hl : x.legs.length ≤ maxLen) (ht : I64 t) :
    Calls Try.prog 94 #[gV A c A' c' g, edgeV L cl x, .int .i64 t] w fun e w' => e = .returned (arriveR (arrive g x t)) ∧ Below w.heap.size w w' := by
  obtain ⟨ht0, ht1⟩ := ht
  cases h : leaves t x.legs with
  | none =>
    have H := Lib.hid h
    have HR := Lib.hid (arrive_no (g := g) h)
    clear h
    go_enter Try.func94, Try.ntmps94
    go_wp2_with (go_at_call 126; refine (leaves_none _ (hL.ext RLeg.stable (by go_grown)) hl H.out).mono ?_; rintro e w1 ⟨rfl, hb1⟩; obtain ⟨b1, b2, b3⟩ := (Blk.ext (g := w.heap.size + 1 + 1) (t := 114) (cs := #[.int .i64 0, .int .i64 0, .int .i64 0, .int .i64 0]) (Blk.new_ (by simp)) hb1).facts)
    have hb2 : Below w.heap.size w w1 := ext_trans (by go_grown) hb1
    refine bodyPost_ret (v := .tuple #[legV ⟨0, 0, 0, 0⟩, .int .i64 0, .bool false]) (by simp [results, Try.results94, go_sem, b1, b3, legV]) rfl ⟨by rw [HR.out]; rfl, ?_⟩
    go_grown
  | some l =>
    have hm := leaves_mem h
    have hl' := hx.legs l hm.1
    have ha0 := hx.a0; have ha1 := hx.a1; have hb0 := hx.b0; have hb1' := hx.b1
    have hh := hV.h1
    have H := Lib.hid h
    have HR := Lib.hid (arrive_of (g := g) h)
    clear h
    by_cases hA : aliveB g x.a t = true
    case neg =>
      have hA' : aliveB g x.a t = false := by simpa using hA
      clear hA
      have HA := Lib.hid hA'
      go_enter Try.func94, Try.ntmps94
      go_wp2_with fail
      refine (leaves_some _ (hL.ext RLeg.stable (by go_grown)) hl H.out).mono ?_
      rintro e w1 ⟨rfl, hb1⟩
      obtain ⟨B2, b1, b2, b3⟩ := Blk.go (g := w.heap.size + 1 + 1) (t := 114) (cs := #[.int .i64 0, .int .i64 0, .int .i64 0, .int .i64 0]) (Blk.new_ (by simp)) hb1
      obtain ⟨B0, c1, c2, c3⟩ := Blk.go (g := w.heap.size) (t := 28) (cs := gC A c A' c' g) (((Blk.new _ _ _).alloc _).alloc _) hb1
      obtain ⟨B1, d1, d2, d3⟩ := Blk.go (g := w.heap.size + 1) (t := 99) (cs := #[.int .i64 x.a, .int .i64 x.b, .slice L x.legs.length cl]) ((Blk.new_ (by simp)).alloc _) hb1
      have hb2 : Below w.heap.size w w1 := ext_trans (by go_grown) hb1
      clear hb1
      go_wp2_with fail
      refine (alive_any _ _ _ _ g x.a t _ (hG.ext (ext_alloc hb2 _)) ha0 ha1).mono ?_
      rintro e w2 ⟨rfl, hb3⟩
      obtain ⟨B2', b1', b2', b3'⟩ := (B2.alloc _).go hb3
      obtain ⟨B0', c1', c2', c3'⟩ := (B0.alloc _).go hb3
      obtain ⟨B1', d1', d2', d3'⟩ := (B1.alloc _).go hb3
      obtain ⟨B3', e1', e2', e3'⟩ := (Blk.new w1 114 #[.int .i64 l.f, .int .i64 l.t, .int .i64 l.time, .int .i64 l.cost]).go hb3
      have hb4 : Below w.heap.size w w2 := ext_trans (ext_alloc hb2 _) hb3
      clear hb3 b1 b2 b3 c1 c2 c3 d1 d2 d3 B0 B1 B2
      go_wp2_with fail
      refine bodyPost_ret (v := .tuple #[legV ⟨0, 0, 0, 0⟩, .int .i64 0, .bool false]) (by simp [results, Try.results94, go_sem, b1', b3']) rfl ⟨by rw [HR.out, if_neg (by simp [HA.out])]; rfl, ?_⟩
      go_grown
    have HA := Lib.hid hA
    by_cases hH : t + l.time < g.h
    case neg =>
      have HH := Lib.hid hH
      go_enter Try.func94, Try.ntmps94
      go_wp2_with fail
      refine (leaves_some _ (hL.ext RLeg.stable (by go_grown)) hl H.out).mono ?_
      rintro e w1 ⟨rfl, hb1⟩
      obtain ⟨B2, b1, b2, b3⟩ := Blk.go (g := w.heap.size + 1 + 1) (t := 114) (cs := #[.int .i64 0, .int .i64 0, .int .i64 0, .int .i64 0]) (Blk.new_ (by simp)) hb1
      obtain ⟨B0, c1, c2, c3⟩ := Blk.go (g := w.heap.size) (t := 28) (cs := gC A c A' c' g) (((Blk.new _ _ _).alloc _).alloc _) hb1
      obtain ⟨B1, d1, d2, d3⟩ := Blk.go (g := w.heap.size + 1) (t := 99) (cs := #[.int .i64 x.a, .int .i64 x.b, .slice L x.legs.length cl]) ((Blk.new_ (by simp)).alloc _) hb1
      have hb2 : Below w.heap.size w w1 := ext_trans (by go_grown) hb1
      clear hb1
      go_wp2_with fail
      refine (alive_any _ _ _ _ g x.a t _ (hG.ext (ext_alloc hb2 _)) ha0 ha1).mono ?_
      rintro e w2 ⟨rfl, hb3⟩
      obtain ⟨B2', b1', b2', b3'⟩ := (B2.alloc _).go hb3
      obtain ⟨B0', c1', c2', c3'⟩ := (B0.alloc _).go hb3
      obtain ⟨B1', d1', d2', d3'⟩ := (B1.alloc _).go hb3
      obtain ⟨B3', e1', e2', e3'⟩ := (Blk.new w1 114 #[.int .i64 l.f, .int .i64 l.t, .int .i64 l.time, .int .i64 l.cost]).go hb3
      have hb4 : Below w.heap.size w w2 := ext_trans (ext_alloc hb2 _) hb3
      clear hb3 b1 b2 b3 c1 c2 c3 d1 d2 d3 B0 B1 B2
      go_wp2_with fail
      refine bodyPost_ret (v := .tuple #[legV ⟨0, 0, 0, 0⟩, .int .i64 0, .bool false]) (by simp [results, Try.results94, go_sem, b1', b3']) rfl ⟨by rw [HR.out, if_neg (by exact fun hh => by have := HH.out; omega)]; rfl, ?_⟩
      go_grown
    have HH := Lib.hid hH
    cases hB : aliveB g x.b (t + l.time)
    case false =>
      have HB := Lib.hid hB
      go_enter Try.func94, Try.ntmps94
      go_wp2_with fail
      refine (leaves_some _ (hL.ext RLeg.stable (by go_grown)) hl H.out).mono ?_
      rintro e w1 ⟨rfl, hb1⟩
      obtain ⟨B2, b1, b2, b3⟩ := Blk.go (g := w.heap.size + 1 + 1) (t := 114) (cs := #[.int .i64 0, .int .i64 0, .int .i64 0, .int .i64 0]) (Blk.new_ (by simp)) hb1
      obtain ⟨B0, c1, c2, c3⟩ := Blk.go (g := w.heap.size) (t := 28) (cs := gC A c A' c' g) (((Blk.new _ _ _).alloc _).alloc _) hb1
      obtain ⟨B1, d1, d2, d3⟩ := Blk.go (g := w.heap.size + 1) (t := 99) (cs := #[.int .i64 x.a, .int .i64 x.b, .slice L x.legs.length cl]) ((Blk.new_ (by simp)).alloc _) hb1
      have hb2 : Below w.heap.size w w1 := ext_trans (by go_grown) hb1
      clear hb1
      go_wp2_with fail
      refine (alive_any _ _ _ _ g x.a t _ (hG.ext (ext_alloc hb2 _)) ha0 ha1).mono ?_
      rintro e w2 ⟨rfl, hb3⟩
      obtain ⟨B2', b1', b2', b3'⟩ := (B2.alloc _).go hb3
      obtain ⟨B0', c1', c2', c3'⟩ := (B0.alloc _).go hb3
      obtain ⟨B1', d1', d2', d3'⟩ := (B1.alloc _).go hb3
      obtain ⟨B3', e1', e2', e3'⟩ := (Blk.new w1 114 #[.int .i64 l.f, .int .i64 l.t, .int .i64 l.time, .int .i64 l.cost]).go hb3
      have hb4 : Below w.heap.size w w2 := ext_trans (ext_alloc hb2 _) hb3
      clear hb3 b1 b2 b3 c1 c2 c3 d1 d2 d3 B0 B1 B2
      go_wp2_with fail
      refine (alive_any _ _ _ _ g x.b (t + l.time) _ (hG.ext hb4) hb0 hb1').mono ?_
      rintro e w3 ⟨rfl, hb5⟩
      obtain ⟨B2q, b1q, b2q, b3q⟩ := B2'.go hb5
      obtain ⟨B3q, e1q, e2q, e3q⟩ := B3'.go hb5
      have hb6 : Below w.heap.size w w3 := ext_trans hb4 hb5
      clear hb5 B2' b1' b2' b3' B0' c1' c2' c3' B1' d1' d2' d3' B3' e1' e2' e3'
      go_wp2_with fail
      refine bodyPost_ret (v := .tuple #[legV ⟨0, 0, 0, 0⟩, .int .i64 0, .bool false]) (by simp [results, Try.results94, go_sem, b1q, b3q]) rfl ⟨by rw [HR.out, if_neg (by exact fun hh => by rw [HB.out] at hh; exact absurd hh.2.2 (by simp))]; rfl, ?_⟩
      go_grown
    case true =>
      have HB := Lib.hid hB
      go_enter Try.func94, Try.ntmps94
      go_wp2_with fail
      refine (leaves_some _ (hL.ext RLeg.stable (by go_grown)) hl H.out).mono ?_
      rintro e w1 ⟨rfl, hb1⟩
      obtain ⟨B2, b1, b2, b3⟩ := Blk.go (g := w.heap.size + 1 + 1) (t := 114) (cs := #[.int .i64 0, .int .i64 0, .int .i64 0, .int .i64 0]) (Blk.new_ (by simp)) hb1
      obtain ⟨B0, c1, c2, c3⟩ := Blk.go (g := w.heap.size) (t := 28) (cs := gC A c A' c' g) (((Blk.new _ _ _).alloc _).alloc _) hb1
      obtain ⟨B1, d1, d2, d3⟩ := Blk.go (g := w.heap.size + 1) (t := 99) (cs := #[.int .i64 x.a, .int .i64 x.b, .slice L x.legs.length cl]) ((Blk.new_ (by simp)).alloc _) hb1
      have hb2 : Below w.heap.size w w1 := ext_trans (by go_grown) hb1
      clear hb1
      go_wp2_with fail
      refine (alive_any _ _ _ _ g x.a t _ (hG.ext (ext_alloc hb2 _)) ha0 ha1).mono ?_
      rintro e w2 ⟨rfl, hb3⟩
      obtain ⟨B2', b1', b2', b3'⟩ := (B2.alloc _).go hb3
      obtain ⟨B0', c1', c2', c3'⟩ := (B0.alloc _).go hb3
      obtain ⟨B1', d1', d2', d3'⟩ := (B1.alloc _).go hb3
      obtain ⟨B3', e1', e2', e3'⟩ := (Blk.new w1 114 #[.int .i64 l.f, .int .i64 l.t, .int .i64 l.time, .int .i64 l.cost]).go hb3
      have hb4 : Below w.heap.size w w2 := ext_trans (ext_alloc hb2 _) hb3
      clear hb3 b1 b2 b3 c1 c2 c3 d1 d2 d3 B0 B1 B2
      go_wp2_with fail
      refine (alive_any _ _ _ _ g x.b (t + l.time) _ (hG.ext hb4) hb0 hb1').mono ?_
      rintro e w3 ⟨rfl, hb5⟩
      obtain ⟨B2q, b1q, b2q, b3q⟩ := B2'.go hb5
      obtain ⟨B3q, e1q, e2q, e3q⟩ := B3'.go hb5
      have hb6 : Below w.heap.size w w3 := ext_trans hb4 hb5
      clear hb5 B2' b1' b2' b3' B0' c1' c2' c3' B1' d1' d2' d3' B3' e1' e2' e3'
      go_wp2_with fail
      refine bodyPost_ret (v := .tuple #[legV l, .int .i64 (t + l.time), .bool true]) (by simp [results, Try.results94, go_sem, b1q, b3q]) rfl ⟨by rw [HR.out, if_pos ⟨HA.out, HH.out, HB.out⟩]; rfl, ?_⟩
      go_grown
end Go.Proofs.Ytcgnalpcbcpmkaa
