/- Several texts in one: Arrive, RefCheck, Place, RefGo, Go, Out, OutP. -/
import Derived.Test.YtjcimdpldlamfaaGreatDoorBd9cdc4f3309
import Derived.Test.YtjcimdpldlamfaaGreatDoorBd2df7774ef4
import Derived.Test.YtjcimdpldlamfaaGreatDoorBd19914bea13
import Derived.Test.YtjcimdpldlamfaaGreatDoorBd0848e2b72a
/- The walks: when one comes along an edge, what is wrong with a place; the program's and the document's. -/
namespace Go.Proofs.YtjcimdpldlamfaaGreatDoor
open Go.RowKit

theorem leaves_none {L : Option Addr} {cl : Nat} {x : EdgeD} {t : Int} (w : World) (hL : SlAt RLeg 4 w L x.legs) (hl : x.legs.length ≤ maxLen) (h : leaves t x.legs = none) :
  Calls Tryz.prog 131 #[edgeV L cl x, .int .i64 t] w fun e w' => e = .returned (.tuple #[legV ⟨0, 0, 0, 0⟩, .bool false]) ∧ Below w.heap.size w w' :=
 (leaves_any L cl x t w hL hl).mono fun e w' ⟨he, hb⟩ => ⟨by rw [he, h]; rfl, hb⟩
theorem leaves_some {L : Option Addr} {cl : Nat} {x : EdgeD} {t : Int} {l : LegD} (w : World) (hL : SlAt RLeg 4 w L x.legs) (hl : x.legs.length ≤ maxLen) (h : leaves t x.legs = some l) :
  Calls Tryz.prog 131 #[edgeV L cl x, .int .i64 t] w fun e w' => e = .returned (.tuple #[legV l, .bool true]) ∧ Below w.heap.size w w' :=
 (leaves_any L cl x t w hL hl).mono fun e w' ⟨he, hb⟩ => ⟨by rw [he, h]; rfl, hb⟩
/-- The three results of Arrive. -/
def arriveR (o : Option (LegD × Int)) : Value := match o with
 | some (l, to) => .tuple #[legV l, .int .i64 to, .bool true]
 | none => .tuple #[legV ⟨0, 0, 0, 0⟩, .int .i64 0, .bool false]

set_option maxHeartbeats 1000000 in
theorem arrive_any (A A' L : Option Addr) (c c' cl : Nat) (g : GraphD) (x : EdgeD) (t : Int) (w : World) (hG : GraphAt w A c A' c' g) (hV : Valid g) (hx : EdgeOk g x)
  (hL : SlAt RLeg 4 w L x.legs) (hl : x.legs.length ≤ maxLen) (ht : I64 t) :
  Calls Tryz.prog 98 #[gV A c A' c' g, edgeV L cl x, .int .i64 t] w fun e w' => e = .returned (arriveR (arrive g x t)) ∧ Below w.heap.size w w' := by
 obtain ⟨ht0, ht1⟩ := ht
 cases h : leaves t x.legs with
 | none =>
  have H := Lib.hid h
  have HR := Lib.hid (arrive_no (g := g) h)
  clear h
  go_enter Tryz.func98, Tryz.ntmps98
  go_wp2_with (go_at_call 131; refine (leaves_none _ (hL.ext RLeg.stable (by go_grown)) hl H.out).mono ?_; rintro e w1 ⟨rfl, hb1⟩; obtain ⟨b1, b2, b3⟩ := (Blk.ext (g := w.heap.size + 1 + 1) (t := 100) (cs := #[.int .i64 0, .int .i64 0, .int .i64 0, .int .i64 0]) (Blk.new_ (by simp)) hb1).facts)
  have hb2 : Below w.heap.size w w1 := ext_trans (by go_grown) hb1
  refine bodyPost_ret (v := .tuple #[legV ⟨0, 0, 0, 0⟩, .int .i64 0, .bool false]) (by simp [results, Tryz.results98, go_sem, b1, b3, legV]) rfl ⟨by rw [HR.out]; rfl, ?_⟩
  go_grown
 | some l =>
  have hm := leaves_mem h
  have hl' := hx.legs l hm.1
  have ha0 := hx.a0; have ha1 := hx.a1; have hb0 := hx.b0; have hb1' := hx.b1
  have hh := hV.h1
  have H := Lib.hid h
  have HR := Lib.hid (arrive_of (g := g) h)
  clear h
  by_cases hA : aliveB g x.a t = true
  case neg =>
   have hA' : aliveB g x.a t = false := by simpa using hA
   clear hA
   have HA := Lib.hid hA'
   go_enter Tryz.func98, Tryz.ntmps98
   go_wp2_with fail
   refine (leaves_some _ (hL.ext RLeg.stable (by go_grown)) hl H.out).mono ?_
   rintro e w1 ⟨rfl, hb1⟩
   obtain ⟨B2, b1, b2, b3⟩ := Blk.go (g := w.heap.size + 1 + 1) (t := 100) (cs := #[.int .i64 0, .int .i64 0, .int .i64 0, .int .i64 0]) (Blk.new_ (by simp)) hb1
   obtain ⟨B0, c1, c2, c3⟩ := Blk.go (g := w.heap.size) (t := 68) (cs := gC A c A' c' g) (((Blk.new _ _ _).alloc _).alloc _) hb1
   obtain ⟨B1, d1, d2, d3⟩ := Blk.go (g := w.heap.size + 1) (t := 97) (cs := #[.int .i64 x.a, .int .i64 x.b, .slice L x.legs.length cl]) ((Blk.new_ (by simp)).alloc _) hb1
   have hb2 : Below w.heap.size w w1 := ext_trans (by go_grown) hb1
   clear hb1
   go_wp2_with fail
   refine (alive_any _ _ _ _ g x.a t _ (hG.ext (ext_alloc hb2 _)) ha0 ha1).mono ?_
   rintro e w2 ⟨rfl, hb3⟩
   obtain ⟨B2', b1', b2', b3'⟩ := (B2.alloc _).go hb3
   obtain ⟨B0', c1', c2', c3'⟩ := (B0.alloc _).go hb3
   obtain ⟨B1', d1', d2', d3'⟩ := (B1.alloc _).go hb3
   obtain ⟨B3', e1', e2', e3'⟩ := (Blk.new w1 100 #[.int .i64 l.f, .int .i64 l.t, .int .i64 l.time, .int .i64 l.cost]).go hb3
   have hb4 : Below w.heap.size w w2 := ext_trans (ext_alloc hb2 _) hb3
   clear hb3 b1 b2 b3 c1 c2 c3 d1 d2 d3 B0 B1 B2
   go_wp2_with fail
   refine bodyPost_ret (v := .tuple #[legV ⟨0, 0, 0, 0⟩, .int .i64 0, .bool false]) (by simp [results, Tryz.results98, go_sem, b1']) rfl ⟨by rw [HR.out, if_neg (by simp [HA.out])]; rfl, ?_⟩
   go_grown
  have HA := Lib.hid hA
  by_cases hH : t + l.time < g.h
  case neg =>
   have HH := Lib.hid hH
   go_enter Tryz.func98, Tryz.ntmps98
   go_wp2_with fail
   refine (leaves_some _ (hL.ext RLeg.stable (by go_grown)) hl H.out).mono ?_
   rintro e w1 ⟨rfl, hb1⟩
   obtain ⟨B2, b1, b2, b3⟩ := Blk.go (g := w.heap.size + 1 + 1) (t := 100) (cs := #[.int .i64 0, .int .i64 0, .int .i64 0, .int .i64 0]) (Blk.new_ (by simp)) hb1
   obtain ⟨B0, c1, c2, c3⟩ := Blk.go (g := w.heap.size) (t := 68) (cs := gC A c A' c' g) (((Blk.new _ _ _).alloc _).alloc _) hb1
   obtain ⟨B1, d1, d2, d3⟩ := Blk.go (g := w.heap.size + 1) (t := 97) (cs := #[.int .i64 x.a, .int .i64 x.b, .slice L x.legs.length cl]) ((Blk.new_ (by simp)).alloc _) hb1
   have hb2 : Below w.heap.size w w1 := ext_trans (by go_grown) hb1
   clear hb1
   go_wp2_with fail
   refine (alive_any _ _ _ _ g x.a t _ (hG.ext (ext_alloc hb2 _)) ha0 ha1).mono ?_
   rintro e w2 ⟨rfl, hb3⟩
   obtain ⟨B2', b1', b2', b3'⟩ := (B2.alloc _).go hb3
   obtain ⟨B0', c1', c2', c3'⟩ := (B0.alloc _).go hb3
   obtain ⟨B1', d1', d2', d3'⟩ := (B1.alloc _).go hb3
   obtain ⟨B3', e1', e2', e3'⟩ := (Blk.new w1 100 #[.int .i64 l.f, .int .i64 l.t, .int .i64 l.time, .int .i64 l.cost]).go hb3
   have hb4 : Below w.heap.size w w2 := ext_trans (ext_alloc hb2 _) hb3
   clear hb3 b1 b2 b3 c1 c2 c3 d1 d2 d3 B0 B1 B2
   go_wp2_with fail
   refine bodyPost_ret (v := .tuple #[legV ⟨0, 0, 0, 0⟩, .int .i64 0, .bool false]) (by simp [results, Tryz.results98, go_sem, b1']) rfl ⟨by rw [HR.out, if_neg (by exact fun hh => by have := HH.out; omega)]; rfl, ?_⟩
   go_grown
  have HH := Lib.hid hH
  cases hB : aliveB g x.b (t + l.time)
  case false =>
   have HB := Lib.hid hB
   go_enter Tryz.func98, Tryz.ntmps98
   go_wp2_with fail
   refine (leaves_some _ (hL.ext RLeg.stable (by go_grown)) hl H.out).mono ?_
   rintro e w1 ⟨rfl, hb1⟩
   obtain ⟨B2, b1, b2, b3⟩ := Blk.go (g := w.heap.size + 1 + 1) (t := 100) (cs := #[.int .i64 0, .int .i64 0, .int .i64 0, .int .i64 0]) (Blk.new_ (by simp)) hb1
   obtain ⟨B0, c1, c2, c3⟩ := Blk.go (g := w.heap.size) (t := 68) (cs := gC A c A' c' g) (((Blk.new _ _ _).alloc _).alloc _) hb1
   obtain ⟨B1, d1, d2, d3⟩ := Blk.go (g := w.heap.size + 1) (t := 97) (cs := #[.int .i64 x.a, .int .i64 x.b, .slice L x.legs.length cl]) ((Blk.new_ (by simp)).alloc _) hb1
   have hb2 : Below w.heap.size w w1 := ext_trans (by go_grown) hb1
   clear hb1
   go_wp2_with fail
   refine (alive_any _ _ _ _ g x.a t _ (hG.ext (ext_alloc hb2 _)) ha0 ha1).mono ?_
   rintro e w2 ⟨rfl, hb3⟩
   obtain ⟨B2', b1', b2', b3'⟩ := (B2.alloc _).go hb3
   obtain ⟨B0', c1', c2', c3'⟩ := (B0.alloc _).go hb3
   obtain ⟨B1', d1', d2', d3'⟩ := (B1.alloc _).go hb3
   obtain ⟨B3', e1', e2', e3'⟩ := (Blk.new w1 100 #[.int .i64 l.f, .int .i64 l.t, .int .i64 l.time, .int .i64 l.cost]).go hb3
   have hb4 : Below w.heap.size w w2 := ext_trans (ext_alloc hb2 _) hb3
   clear hb3 b1 b2 b3 c1 c2 c3 d1 d2 d3 B0 B1 B2
   go_wp2_with fail
   refine (alive_any _ _ _ _ g x.b (t + l.time) _ (hG.ext hb4) hb0 hb1').mono ?_
   rintro e w3 ⟨rfl, hb5⟩
   obtain ⟨B2q, b1q, b2q, b3q⟩ := B2'.go hb5
   obtain ⟨B3q, e1q, e2q, e3q⟩ := B3'.go hb5
   have hb6 : Below w.heap.size w w3 := ext_trans hb4 hb5
   clear hb5 B2' b1' b2' b3' B0' c1' c2' c3' B1' d1' d2' d3' B3' e1' e2' e3'
   go_wp2_with fail
   refine bodyPost_ret (v := .tuple #[legV ⟨0, 0, 0, 0⟩, .int .i64 0, .bool false]) (by simp [results, Tryz.results98, go_sem, b1q]) rfl ⟨by rw [HR.out, if_neg (by exact fun hh => by rw [HB.out] at hh; exact absurd hh.2.2 (by simp))]; rfl, ?_⟩
   go_grown
  case true =>
   have HB := Lib.hid hB
   go_enter Tryz.func98, Tryz.ntmps98
   go_wp2_with fail
   refine (leaves_some _ (hL.ext RLeg.stable (by go_grown)) hl H.out).mono ?_
   rintro e w1 ⟨rfl, hb1⟩
   obtain ⟨B2, b1, b2, b3⟩ := Blk.go (g := w.heap.size + 1 + 1) (t := 100) (cs := #[.int .i64 0, .int .i64 0, .int .i64 0, .int .i64 0]) (Blk.new_ (by simp)) hb1
   obtain ⟨B0, c1, c2, c3⟩ := Blk.go (g := w.heap.size) (t := 68) (cs := gC A c A' c' g) (((Blk.new _ _ _).alloc _).alloc _) hb1
   obtain ⟨B1, d1, d2, d3⟩ := Blk.go (g := w.heap.size + 1) (t := 97) (cs := #[.int .i64 x.a, .int .i64 x.b, .slice L x.legs.length cl]) ((Blk.new_ (by simp)).alloc _) hb1
   have hb2 : Below w.heap.size w w1 := ext_trans (by go_grown) hb1
   clear hb1
   go_wp2_with fail
   refine (alive_any _ _ _ _ g x.a t _ (hG.ext (ext_alloc hb2 _)) ha0 ha1).mono ?_
   rintro e w2 ⟨rfl, hb3⟩
   obtain ⟨B2', b1', b2', b3'⟩ := (B2.alloc _).go hb3
   obtain ⟨B0', c1', c2', c3'⟩ := (B0.alloc _).go hb3
   obtain ⟨B1', d1', d2', d3'⟩ := (B1.alloc _).go hb3
   obtain ⟨B3', e1', e2', e3'⟩ := (Blk.new w1 100 #[.int .i64 l.f, .int .i64 l.t, .int .i64 l.time, .int .i64 l.cost]).go hb3
   have hb4 : Below w.heap.size w w2 := ext_trans (ext_alloc hb2 _) hb3
   clear hb3 b1 b2 b3 c1 c2 c3 d1 d2 d3 B0 B1 B2
   go_wp2_with fail
   refine (alive_any _ _ _ _ g x.b (t + l.time) _ (hG.ext hb4) hb0 hb1').mono ?_
   rintro e w3 ⟨rfl, hb5⟩
   obtain ⟨B2q, b1q, b2q, b3q⟩ := B2'.go hb5
   obtain ⟨B3q, e1q, e2q, e3q⟩ := B3'.go hb5
   have hb6 : Below w.heap.size w w3 := ext_trans hb4 hb5
   clear hb5 B2' b1' b2' b3' B0' c1' c2' c3' B1' d1' d2' d3' B3' e1' e2' e3'
   go_wp2_with fail
   refine bodyPost_ret (v := .tuple #[legV l, .int .i64 (t + l.time), .bool true]) (by simp [results, Tryz.results98, go_sem, b1q]) rfl ⟨by rw [HR.out, if_pos ⟨HA.out, HH.out, HB.out⟩]; rfl, ?_⟩
   go_grown
end Go.Proofs.YtjcimdpldlamfaaGreatDoor
/- The walk of the document's check of a graph: it tells what the program's check tells. -/
namespace Go.Proofs.YtjcimdpldlamfaaGreatDoor
open Go.RowKit

end Go.Proofs.YtjcimdpldlamfaaGreatDoor
/- The walks: what is wrong with a place (program and document), when one lands (document). -/
namespace Go.Proofs.YtjcimdpldlamfaaGreatDoor
open Go.RowKit

theorem neq_of' {a : Int} (h : ¬ a = 0) : (a != 0) = true := by simp [h]

set_option maxHeartbeats 1000000 in
theorem checkPlace_any (A A' : Option Addr) (c c' : Nat) (g : GraphD) (v t : Int) (w : World) (hG : GraphAt w A c A' c' g) :
  Calls Tryz.prog 96 #[gV A c A' c' g, .int .i64 v, .int .i64 t] w fun e w' => e = .returned (.int .i64 (placeErr g v t)) ∧ Below w.heap.size w w' := by
 have m1 : g.lives.length ≤ 9223372036854775807 := Nat.le_trans hG.lc hG.cm
 by_cases h0 : graphErr g = 0
 case neg =>
  have H0 := Lib.hid (placeErr_g (v := v) (t := t) h0)
  have hn := neq_of' h0
  clear h0
  go_enter Tryz.func96, Tryz.ntmps96
  go_wp2_with fail
  refine (check_any _ _ _ _ g _ (hG.ext (by go_grown))).mono ?_
  rintro e w1 ⟨rfl, hb1⟩
  have hb2 : Below w.heap.size w w1 := ext_trans (by go_grown) hb1
  go_wp2_with fail
  go_ret
  exact ⟨ret_int H0.out.symm, hb2⟩
 have H0 := Lib.hid h0
 cases hv : inB v 0 ((g.lives.length : Int) - 1)
 case false =>
  have H1 := Lib.hid (placeErr_v (t := t) h0 hv)
  simp only [inB, decide_eq_false_iff_not] at hv
  go_enter Tryz.func96, Tryz.ntmps96
  go_wp2_with fail
  refine (check_any _ _ _ _ g _ (hG.ext (by go_grown))).mono ?_
  rintro e w1 ⟨rfl, hb1⟩
  obtain ⟨B0, c1, c2, c3⟩ := (Blk.new w 68 (gC A c A' c' g)).go hb1
  have hb2 : Below w.heap.size w w1 := ext_trans (by go_grown) hb1
  go_wp2_with fail
  all_goals go_ret
  all_goals exact ⟨ret_int H1.out.symm, hb2⟩
 case true =>
  cases ht : inB t 0 (g.h - 1)
  case false =>
   have H1 := Lib.hid (placeErr_t h0 hv ht)
   simp only [inB, decide_eq_false_iff_not, decide_eq_true_eq] at hv ht
   obtain ⟨hv1, hv2⟩ := hv
   go_enter Tryz.func96, Tryz.ntmps96
   go_wp2_with fail
   refine (check_any _ _ _ _ g _ (hG.ext (by go_grown))).mono ?_
   rintro e w1 ⟨rfl, hb1⟩
   obtain ⟨B0, c1, c2, c3⟩ := (Blk.new w 68 (gC A c A' c' g)).go hb1
   have hb2 : Below w.heap.size w w1 := ext_trans (by go_grown) hb1
   go_wp2_with fail
   all_goals go_ret
   all_goals exact ⟨ret_int H1.out.symm, hb2⟩
  case true =>
   have H1 := Lib.hid (placeErr_0 h0 hv ht)
   simp only [inB, decide_eq_true_eq] at hv ht
   obtain ⟨hv1, hv2⟩ := hv
   obtain ⟨ht1, ht2⟩ := ht
   go_enter Tryz.func96, Tryz.ntmps96
   go_wp2_with fail
   refine (check_any _ _ _ _ g _ (hG.ext (by go_grown))).mono ?_
   rintro e w1 ⟨rfl, hb1⟩
   obtain ⟨B0, c1, c2, c3⟩ := (Blk.new w 68 (gC A c A' c' g)).go hb1
   have hb2 : Below w.heap.size w w1 := ext_trans (by go_grown) hb1
   go_wp2_with fail
   go_ret
   exact ⟨ret_int H1.out.symm, hb2⟩

end Go.Proofs.YtjcimdpldlamfaaGreatDoor
/- The walk of the document's Go: it tells what goR tells. -/
namespace Go.Proofs.YtjcimdpldlamfaaGreatDoor
open Go.RowKit

end Go.Proofs.YtjcimdpldlamfaaGreatDoor
/- The walk of journey.Go: it tells what goR tells. -/
namespace Go.Proofs.YtjcimdpldlamfaaGreatDoor
open Go.RowKit

theorem arrive_no_any (A A' L : Option Addr) (c c' cl : Nat) (g : GraphD) (x : EdgeD) (t : Int) (w : World) (hG : GraphAt w A c A' c' g) (hV : Valid g) (hx : EdgeOk g x)
  (hL : SlAt RLeg 4 w L x.legs) (hl : x.legs.length ≤ maxLen) (ht : I64 t) (h : arrive g x t = none) :
  Calls Tryz.prog 98 #[gV A c A' c' g, edgeV L cl x, .int .i64 t] w fun e w' => e = .returned (.tuple #[legV ⟨0, 0, 0, 0⟩, .int .i64 0, .bool false]) ∧ Below w.heap.size w w' :=
 (arrive_any A A' L c c' cl g x t w hG hV hx hL hl ht).mono fun e w' ⟨he, hb⟩ => ⟨by rw [he, h]; rfl, hb⟩
theorem arrive_yes_any (A A' L : Option Addr) (c c' cl : Nat) (g : GraphD) (x : EdgeD) (t : Int) (lg : LegD) (to : Int) (w : World) (hG : GraphAt w A c A' c' g) (hV : Valid g) (hx : EdgeOk g x)
  (hL : SlAt RLeg 4 w L x.legs) (hl : x.legs.length ≤ maxLen) (ht : I64 t) (h : arrive g x t = some (lg, to)) :
  Calls Tryz.prog 98 #[gV A c A' c' g, edgeV L cl x, .int .i64 t] w fun e w' => e = .returned (.tuple #[legV lg, .int .i64 to, .bool true]) ∧ Below w.heap.size w w' :=
 (arrive_any A A' L c c' cl g x t w hG hV hx hL hl ht).mono fun e w' ⟨he, hb⟩ => ⟨by rw [he, h]; rfl, hb⟩

set_option maxRecDepth 100000 in
set_option maxHeartbeats 2000000 in
theorem go_early (A A' Ah : Option Addr) (c c' ch : Nat) (g : GraphD) (v t : Int) (l : List HopD) (w : World) (hG : GraphAt w A c A' c' g) (_hH : SlAt RHop 2 w Ah l) (hhl : l.length ≤ maxLen)
  (hmain : placeErr g v t = 0 → ¬ 500 < l.length → aliveB g v t = true → Calls Tryz.prog 47 #[gV A c A' c' g, .int .i64 v, .int .i64 t, .slice Ah l.length ch] w fun e w' => e = .returned (goV (goR g v t l)) ∧ Below w.heap.size w w') :
  Calls Tryz.prog 47 #[gV A c A' c' g, .int .i64 v, .int .i64 t, .slice Ah l.length ch] w fun e w' => e = .returned (goV (goR g v t l)) ∧ Below w.heap.size w w' := by
 unfold maxLen at hhl
 by_cases h0 : placeErr g v t = 0
 case neg =>
  have H0 := Lib.hid (goR_place (l := l) h0)
  have hn := neq_of' h0
  clear h0
  go_enter Tryz.func47, Tryz.ntmps47
  go_wp2_with fail
  refine (checkPlace_any _ _ _ _ g v t _ (hG.ext (by go_grown))).mono ?_
  rintro e w1 ⟨rfl, hb1⟩
  have hb2 : Below w.heap.size w w1 := ext_trans (by go_grown) hb1
  go_wp2_with fail
  refine bodyPost_ret (results_tmp4 rfl _ _ _) rfl ?_
  exact ⟨by rw [H0.out]; rfl, hb2⟩
 obtain ⟨hV, hv, ht⟩ := place_of h0
 obtain ⟨hv0, hv1⟩ := hv
 obtain ⟨ht0, ht1⟩ := ht
 have hh := hV.h1
 have hne := hV.ne
 by_cases h500 : 500 < l.length
 ·have H0 := Lib.hid (goR_large h0 h500)
  go_enter Tryz.func47, Tryz.ntmps47
  go_wp2_with fail
  refine (checkPlace_any _ _ _ _ g v t _ (hG.ext (by go_grown))).mono ?_
  rintro e w1 ⟨rfl, hb1⟩
  have hb2 : Below w.heap.size w w1 := ext_trans (by go_grown) hb1
  go_wp2_with fail
  refine bodyPost_ret (results_tmp4 rfl _ _ _) rfl ?_
  exact ⟨by rw [H0.out]; rfl, hb2⟩
 cases hal : aliveB g v t
 case false =>
  have H0 := Lib.hid (goR_dead h0 h500 hal)
  go_enter Tryz.func47, Tryz.ntmps47
  go_wp2_with fail
  refine (checkPlace_any _ _ _ _ g v t _ (hG.ext (by go_grown))).mono ?_
  rintro e w1 ⟨rfl, hb1⟩
  obtain ⟨B0, c1, c2, c3⟩ := (Blk.new w 68 (gC A c A' c' g)).go hb1
  have hb2 : Below w.heap.size w w1 := ext_trans (by go_grown) hb1
  go_wp2_with fail
  refine (alive_any _ _ _ _ g v t _ (hG.ext hb2) hv0 hv1).mono ?_
  rintro e w2 ⟨rfl, hb3⟩
  go_wp2_with fail
  refine bodyPost_ret (results_tmp4 rfl _ _ _) rfl ?_
  exact ⟨by rw [H0.out]; rfl, ext_trans hb2 hb3⟩
 exact hmain h0 h500 hal
end Go.Proofs.YtjcimdpldlamfaaGreatDoor
/- The walks of journey.Out and of the document's Outs: they tell the same list. -/
namespace Go.Proofs.YtjcimdpldlamfaaGreatDoor
open Go.RowKit

theorem info_hop : (Tryz.prog.info? 64).map (fun i => (i.zero, i.size, i.bytes)) = some (some (.agg #[.int .i64 0, .int .i64 0]), 2, 16) := by kernel_rfl
theorem hop_one {a b : Int} : ∀ u ∈ (#[.int .i64 a, .int .i64 b] : Array Value).toList, u.oneCell' = true := by simp [Value.oneCell']
theorem hopEnc_len (x : HopD) : (hopEnc x).length = 2 := rfl
/-- A list of hops and an error are told. -/
def HopsOut (l : List HopD) (er : Int) (w : World) (e : Ending) (w' : World) : Prop := ∃ A c, e = .returned (.tuple #[.slice A l.length c, .int .i64 er]) ∧ SlAt RHop 2 w' A l ∧ l.length ≤ maxLen ∧ Below w.heap.size w w'
theorem own_hops {w : World} {base : Nat} {v : Value} {l : List HopD} (h : Own hopEnc 2 w base 64 v l) (hi : ∀ x, x ∈ l → I64 x.edge ∧ I64 x.depart) : ∃ A c, v = .slice A l.length c ∧ SlAt RHop 2 w A l :=
 h.slAt hopEnc_len fun x hx b o hc => ⟨⟨by simpa using hc 0 _ rfl, by simpa using hc 1 _ rfl⟩, hi x hx⟩
theorem outs_small {g : GraphD} {v t : Int} (hV : Valid g) (h0 : 0 ≤ t) (h1 : t < g.h) : (outs g v t).length ≤ 3000 ∧ ∀ x, x ∈ outs g v t → I64 x.edge ∧ I64 x.depart := by
 have hh := hV.h1; have hne := hV.ne
 unfold outs
 split
 ·have hl := outsL_len (g := g) (v := v) (g.h - t).toNat t
  have hm : (g.h - t).toNat * g.edges.length ≤ 100 * 30 := Nat.mul_le_mul (by omega) hne
  refine ⟨by omega, fun x hx => ?_⟩
  obtain ⟨h2, h3, h4⟩ := (outsL_mem _ _).1 hx
  obtain ⟨_, k, y, hk, he, _⟩ := (outsAt_mem _ _).1 h4
  have := lt_of_get hk
  exact ⟨⟨by omega, by omega⟩, by unfold I64; omega⟩
 ·exact ⟨by simp, by simp⟩

end Go.Proofs.YtjcimdpldlamfaaGreatDoor
/- The walk of journey.Out. -/
namespace Go.Proofs.YtjcimdpldlamfaaGreatDoor
open Go.RowKit

set_option maxRecDepth 100000 in
set_option maxHeartbeats 4000000 in
theorem out_main (A A' : Option Addr) (c c' : Nat) (g : GraphD) (v t : Int) (w : World) (hG : GraphAt w A c A' c' g) (h0 : placeErr g v t = 0) :
  Calls Tryz.prog 108 #[gV A c A' c' g, .int .i64 v, .int .i64 t] w (HopsOut (outs g v t) 0 w) := by
 obtain ⟨hV, hv, ht⟩ := place_of h0
 obtain ⟨hv0, hv1⟩ := hv
 obtain ⟨ht0, ht1⟩ := ht
 have hh := hV.h1
 have hne := hV.ne
 have HSM := Lib.hid (outs_small (v := v) hV ht0 ht1)
 obtain ⟨i0, hi, hz0, hz1, hz2⟩ := info_parts info_hop
 have HO : Hid (outs g v t = if aliveB g v t = true then outsL g v (g.h - t).toNat t else []) := Lib.hid rfl
 go_enter Tryz.func108, Tryz.ntmps108
 go_wp2_with fail
 refine (checkPlace_any _ _ _ _ g v t _ (hG.ext (by go_grown))).mono ?_
 rintro e w1 ⟨rfl, hb1⟩
 obtain ⟨B0, c1, c2, c3⟩ := (Blk.new w 68 (gC A c A' c' g)).go hb1
 have hb2 : Below (w.heap.size + 1) (w.alloc (.cells (gC A c A' c' g) 68)) w1 := by simpa using hb1
 go_wp2_with fail
 clear c1 c2 c3 hb1 h0
 go_loopw [9, 10] (fun o d wr => ∃ (n : Nat) (y : Int) (acc : List HopD), n ≤ 100 ∧ d = .int .i64 y ∧ y + n = g.h ∧ 0 ≤ y ∧ Hid (acc ++ (if aliveB g v t = true then outsL g v n y else []) = outs g v t) ∧ Own hopEnc 2 wr (w.heap.size + 1) 64 o acc ∧ Below (w.heap.size + 1) (w.alloc (.cells (gC A c A' c' g) 68)) wr)
  (fun _ d _ => (g.h - intOf d).toNat)
 case atStart => exact ⟨(g.h - t).toNat, t, [], by omega, rfl, by omega, ht0, Lib.hid (by rw [HO.out]; rfl), Own.nil, hb2⟩
 case round =>
  clear hb2 B0
  obtain ⟨n, y, acc, hn, rfl, hny, hy0, HI, hown, hb⟩ := hrel
  have hbw : Below w.heap.size w wr := (Below.refl _ _).alloc (Nat.le_refl _) _ |>.trans (hb.mono (by omega))
  have B0 := (Blk.new w 68 (gC A c A' c' g)).below hb (by omega)
  obtain ⟨b1, b2, b3⟩ := B0.facts
  have hzr : w.heap.size + 1 ≤ wr.heap.size := by have := hb.size; simpa using this
  go_wp2_with fail
  refine (alive_any _ _ _ _ g v t _ (hG.ext hbw) hv0 hv1).mono ?_
  rintro e wc ⟨rfl, hbc⟩
  obtain ⟨B0c, b1c, b2c, b3c⟩ := B0.go hbc
  have hownc := hown.ext hbc
  have hbC := hb.trans (hbc.mono hzr)
  have hbwc := ext_trans hbw hbc
  have hzc := hbc.size
  clear hown hb hbw B0 b1 b2 b3 hbc
  cases hal : aliveB g v t
  case false =>
   have hE : Hid (acc = outs g v t) := Lib.hid (by have := HI.out; rw [hal] at this; simpa using this)
   go_wp2_with fail
   go_ret2
   obtain ⟨Ao, co, rfl, hS⟩ := own_hops hownc (by rw [hE.out]; exact HSM.out.2)
   rw [hE.out] at hS ⊢
   exact ⟨Ao, co, rfl, hS, Nat.le_trans HSM.out.1 (by unfold maxLen; omega), hbwc⟩
  have HI3 : Hid (acc ++ outsL g v n y = outs g v t) := Lib.hid (by have := HI.out; rw [hal] at this; simpa using this)
  clear HI
  by_cases hlt : y < g.h
  case neg =>
   have hE : Hid (acc = outs g v t) := Lib.hid (by
    obtain rfl : n = 0 := by omega
    simpa [outsL] using HI3.out)
   go_wp2_with fail
   go_ret2
   obtain ⟨Ao, co, rfl, hS⟩ := own_hops hownc (by rw [hE.out]; exact HSM.out.2)
   rw [hE.out] at hS ⊢
   exact ⟨Ao, co, rfl, hS, Nat.le_trans HSM.out.1 (by unfold maxLen; omega), hbwc⟩
  obtain ⟨m, rfl⟩ : ∃ m, n = m + 1 := ⟨n - 1, by omega⟩
  go_wp2_with fail
  have HAL := Lib.hid hal
  clear hal b1c b2c b3c
  go_loopw [9, 39] (fun o k wr => ∃ (j : Nat) (acc2 : List HopD), j ≤ g.edges.length ∧ k = .int .i64 j ∧ Hid (acc2 ++ (outsAt g v y j (g.edges.drop j) ++ outsL g v m (y + 1)) = outs g v t) ∧ Own hopEnc 2 wr (w.heap.size + 1) 64 o acc2 ∧ Below (w.heap.size + 1) (w.alloc (.cells (gC A c A' c' g) 68)) wr)
   (fun _ k _ => g.edges.length - (intOf k).toNat)
  case atStart => exact ⟨0, acc, Nat.zero_le _, rfl, Lib.hid (by rw [← HI3.out, outsL]; rfl), hownc, hbC⟩
  case round =>
   clear hownc HI3 hbC hbwc B0c
   obtain ⟨j, acc2, hj, rfl, HI, hown, hb⟩ := hrel
   have hbw : Below w.heap.size w wr := (Below.refl _ _).alloc (Nat.le_refl _) _ |>.trans (hb.mono (by omega))
   have B0 := (Blk.new w 68 (gC A c A' c' g)).below hb (by omega)
   obtain ⟨b1, b2, b3⟩ := B0.facts
   have hzw : w.heap.size + 1 ≤ wr.heap.size := by have := hb.size; simpa using this
   have hacc : acc2.length ≤ 3000 := by
    have h1 := HSM.out.1
    rw [← HI.out, List.length_append] at h1
    omega
   by_cases hltj : j < g.edges.length
   case neg =>
    go_wp2_with fail
    go_roundw
    case rel =>
     refine ⟨m, y + 1, acc2, by omega, by go_num, by omega, by omega, Lib.hid ?_, hown, hb⟩
     rw [← HI.out, drop_end (by omega), HAL.out]
     rfl
    case measure => simp [intOf]; omega
   obtain ⟨x, hx⟩ := get_lt hltj
   have hxe : EdgeOk g x := hV.edges x (List.mem_of_getElem? hx)
   obtain ⟨be, oe, hE⟩ := hG.edges
   obtain ⟨rfl, hbe, ⟨⟨x0, x1, L, cl, x2, hl1, hl2, hL⟩, _⟩⟩ := hE _ x hx
   have k0 := x0.now hbw
   have k1 := x1.now hbw
   have k2 := x2.now hbw
   have hll : x.legs.length ≤ maxLen := Nat.le_trans hl1 hl2
   have hd := drop_cons hx
   have HI2 : Hid (acc2 ++ (outsAt g v y j (x :: g.edges.drop (j + 1)) ++ outsL g v m (y + 1)) = outs g v t) := by rw [← hd]; exact HI
   have hyI : I64 y := ⟨by omega, by omega⟩
   clear hE hx hd HI x0 x1 x2
   have hbq : Below w.heap.size w (wr.alloc (Obj.cells #[.int .i64 x.a, .int .i64 x.b, .slice L x.legs.length cl] 97)) := ext_alloc hbw _
   have hbq2 : Below (w.heap.size + 1) wr (wr.alloc (Obj.cells #[.int .i64 x.a, .int .i64 x.b, .slice L x.legs.length cl] 97)) := (Below.refl _ _).alloc hzw _
   cases har : arrive g x y with
   | none =>
    have HAR := Lib.hid har
    have HB := Lib.hid (leavesB_none (v := v) har)
    clear har
    go_wp2_with fail
    refine (arrive_no_any _ _ L _ _ cl g x y _ (hG.ext hbq) hV hxe (hL.ext RLeg.stable hbq) hll hyI HAR.out).mono ?_
    rintro e w5 ⟨rfl, hb5⟩
    have hb6 : Below (w.heap.size + 1) wr w5 := hbq2.trans (hb5.mono (by simp; omega))
    go_wp2_with fail
    go_roundw
    case rel => exact ⟨j + 1, acc2, by omega, by go_num, Lib.hid (by rw [← HI2.out, outsAt_no HB.out]), ((hown.alloc _).ext hb5).alloc _, (hb.trans hb6).alloc (by have := hb6.size; omega) _⟩
    case measure => simp [intOf]; omega
   | some p =>
    obtain ⟨lg, to⟩ := p
    have HAR := Lib.hid har
    by_cases hxa : x.a = v
    case neg =>
     have HB := Lib.hid (leavesB_other (g := g) (d := y) hxa)
     clear har
     go_wp2_with fail
     refine (arrive_yes_any _ _ L _ _ cl g x y lg to _ (hG.ext hbq) hV hxe (hL.ext RLeg.stable hbq) hll hyI HAR.out).mono ?_
     rintro e w5 ⟨rfl, hb5⟩
     obtain ⟨B1, f1, f2, f3⟩ := (Blk.new wr 97 #[.int .i64 x.a, .int .i64 x.b, .slice L x.legs.length cl]).go hb5
     have hb6 : Below (w.heap.size + 1) wr w5 := hbq2.trans (hb5.mono (by simp; omega))
     go_wp2_with fail
     go_roundw
     case rel => exact ⟨j + 1, acc2, by omega, by go_num, Lib.hid (by rw [← HI2.out, outsAt_no HB.out]), ((hown.alloc _).ext hb5).alloc _, (hb.trans hb6).alloc (by have := hb6.size; omega) _⟩
     case measure => simp [intOf]; omega
    case pos =>
     have HB := Lib.hid (leavesB_some har hxa)
     clear har
     have hxe2 : (x.a == v) = true := by simp [hxa]
     clear hxa
     go_wp2_with fail
     refine (arrive_yes_any _ _ L _ _ cl g x y lg to _ (hG.ext hbq) hV hxe (hL.ext RLeg.stable hbq) hll hyI HAR.out).mono ?_
     rintro e w5 ⟨rfl, hb5⟩
     obtain ⟨B1, f1, f2, f3⟩ := (Blk.new wr 97 #[.int .i64 x.a, .int .i64 x.b, .slice L x.legs.length cl]).go hb5
     have hb6 : Below (w.heap.size + 1) wr w5 := hbq2.trans (hb5.mono (by simp; omega))
     have hown5 := ((hown.alloc (Obj.cells #[.int .i64 x.a, .int .i64 x.b, .slice L x.legs.length cl] 97)).ext hb5).alloc (Obj.cells #[.int .i64 lg.f, .int .i64 lg.t, .int .i64 lg.time, .int .i64 lg.cost] 100)
     have hz5 := hb6.size
     have hb7 := (hb.trans hb6).alloc (show w.heap.size + 1 ≤ w5.heap.size by omega) (Obj.cells #[.int .i64 lg.f, .int .i64 lg.t, .int .i64 lg.time, .int .i64 lg.cost] 100)
     go_wp2_with (at_builtin; refine wpList_append_el (enc := hopEnc) rfl (.tmp 59) (.tmp 63) 62 rfl (w.heap.size + 1) 64 i0 _ 2 16 Tryz.underlying62 hi hz0 hz1 hz2 rfl (by decide) _ acc2 ⟨j, y⟩ rfl hown5 _ rfl _ (by simp) rfl rfl hop_one (by omega) (by decide) (by simp; omega) ?_; intro v' w6 hown6 hb8)
     go_roundw
     case rel => exact ⟨j + 1, acc2 ++ [⟨j, y⟩], by omega, by go_num, Lib.hid (by rw [← HI2.out, outsAt_yes HB.out]; simp), hown6, hb7.trans hb8⟩
     case measure => simp [intOf]; omega

set_option maxHeartbeats 400000 in
theorem out_any (A A' : Option Addr) (c c' : Nat) (g : GraphD) (v t : Int) (w : World) (hG : GraphAt w A c A' c' g) :
  Calls Tryz.prog 108 #[gV A c A' c' g, .int .i64 v, .int .i64 t] w (HopsOut (outR g v t) (placeErr g v t) w) := by
 by_cases h0 : placeErr g v t = 0
 ·have e1 : outR g v t = outs g v t := by simp [outR, h0]
  rw [e1, h0]
  exact out_main A A' c c' g v t w hG h0
 have e1 : outR g v t = [] := by simp [outR, h0]
 have E1 := Lib.hid e1
 have hn := neq_of' h0
 clear h0 e1
 go_enter Tryz.func108, Tryz.ntmps108
 go_wp2_with fail
 refine (checkPlace_any _ _ _ _ g v t _ (hG.ext (by go_grown))).mono ?_
 rintro e w1 ⟨rfl, hb1⟩
 have hb2 : Below w.heap.size w w1 := ext_trans (by go_grown) hb1
 go_wp2_with fail
 go_ret2
 rw [E1.out]
 exact ⟨none, 0, rfl, SlAt.nil, by simp, hb2⟩
end Go.Proofs.YtjcimdpldlamfaaGreatDoor
