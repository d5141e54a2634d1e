/- The walks: what is wrong with a place (program and document), when one lands (document). -/
import Derived.Test.YtcgnalpcbcpmkaaArrive
import Derived.Test.YtcgnalpcbcpmkaaCheck
import Derived.Test.YtcgnalpcbcpmkaaRefCheck
namespace Go.Proofs.Ytcgnalpcbcpmkaa
open Go.RowKit

theorem first_of {b : Bool} {x : Int} (h : b = false → x = 1) (h' : b = true → x = 0) {d : Bool} (e : b = d) : x = if d then 0 else 1 := by
  cases d
  · exact h e
  · exact h' e
theorem neq_of {a : Int} (h : a = 0) : (a != 0) = false := by simp [h]
theorem neq_of' {a : Int} (h : ¬ a = 0) : (a != 0) = true := by simp [h]

set_option maxHeartbeats 1000000 in
theorem checkPlace_any (A A' : Option Addr) (c c' : Nat) (g : GraphD) (v t : Int) (w : World) (hG : GraphAt w A c A' c' g) :
    Calls Try.prog 92 #[gV A c A' c' g, .int .i64 v, .int .i64 t] w fun e w' => e = .returned (.int .i64 (placeErr g v t)) ∧ Below w.heap.size w w' := by
  have m1 : g.lives.length ≤ 9223372036854775807 := Nat.le_trans hG.lc hG.cm
  by_cases h0 : graphErr g = 0
  case neg =>
    have H0 := Lib.hid (placeErr_g (v := v) (t := t) h0)
    have hn := neq_of' h0
    clear h0
    go_enter Try.func92, Try.ntmps92
    go_wp2_with fail
    refine (check_any _ _ _ _ g _ (hG.ext (by go_grown))).mono ?_
    rintro e w1 ⟨rfl, hb1⟩
    have hb2 : Below w.heap.size w w1 := ext_trans (by go_grown) hb1
    go_wp2_with fail
    go_ret
    exact ⟨ret_int H0.out.symm, hb2⟩
  have H0 := Lib.hid h0
  cases hv : inB v 0 ((g.lives.length : Int) - 1)
  case false =>
    have H1 := Lib.hid (placeErr_v (t := t) h0 hv)
    simp only [inB, decide_eq_false_iff_not] at hv
    go_enter Try.func92, Try.ntmps92
    go_wp2_with fail
    refine (check_any _ _ _ _ g _ (hG.ext (by go_grown))).mono ?_
    rintro e w1 ⟨rfl, hb1⟩
    obtain ⟨B0, c1, c2, c3⟩ := (Blk.new w 28 (gC A c A' c' g)).go hb1
    have hb2 : Below w.heap.size w w1 := ext_trans (by go_grown) hb1
    go_wp2_with fail
    all_goals go_ret
    all_goals exact ⟨ret_int H1.out.symm, hb2⟩
  case true =>
    cases ht : inB t 0 (g.h - 1)
    case false =>
      have H1 := Lib.hid (placeErr_t h0 hv ht)
      simp only [inB, decide_eq_false_iff_not, decide_eq_true_eq] at hv ht
      obtain ⟨hv1, hv2⟩ := hv
      go_enter Try.func92, Try.ntmps92
      go_wp2_with fail
      refine (check_any _ _ _ _ g _ (hG.ext (by go_grown))).mono ?_
      rintro e w1 ⟨rfl, hb1⟩
      obtain ⟨B0, c1, c2, c3⟩ := (Blk.new w 28 (gC A c A' c' g)).go hb1
      have hb2 : Below w.heap.size w w1 := ext_trans (by go_grown) hb1
      go_wp2_with fail
      all_goals go_ret
      all_goals exact ⟨ret_int H1.out.symm, hb2⟩
    case true =>
      have H1 := Lib.hid (placeErr_0 h0 hv ht)
      simp only [inB, decide_eq_true_eq] at hv ht
      obtain ⟨hv1, hv2⟩ := hv
      obtain ⟨ht1, ht2⟩ := ht
      go_enter Try.func92, Try.ntmps92
      go_wp2_with fail
      refine (check_any _ _ _ _ g _ (hG.ext (by go_grown))).mono ?_
      rintro e w1 ⟨rfl, hb1⟩
      obtain ⟨B0, c1, c2, c3⟩ := (Blk.new w 28 (gC A c A' c' g)).go hb1
      have hb2 : Below w.heap.size w w1 := ext_trans (by go_grown) hb1
      go_wp2_with fail
      go_ret
      exact ⟨ret_int H1.out.symm, hb2⟩

set_option maxHeartbeats 1000000 in
theorem place_any (A A' : Option Addr) (c c' : Nat) (g : GraphD) (v t : Int) (w : World) (hG : GraphAt w A c A' c' g) :
    Calls Try.prog 39 #[gV A c A' c' g, .int .i64 v, .int .i64 t] w fun e w' => e = .returned (.int .i64 (placeErr g v t)) ∧ Below w.heap.size w w' := by
  have m1 : g.lives.length ≤ 9223372036854775807 := Nat.le_trans hG.lc hG.cm
  by_cases h0 : graphErr g = 0
  case neg =>
    have H0 := Lib.hid (placeErr_g (v := v) (t := t) h0)
    have hn := neq_of' h0
    clear h0
    go_enter Try.func39, Try.ntmps39
    go_wp2_with fail
    refine (refGraph_any _ _ _ _ g _ (hG.ext (by go_grown))).mono ?_
    rintro e w1 ⟨rfl, hb1⟩
    have hb2 : Below w.heap.size w w1 := ext_trans (by go_grown) hb1
    go_wp2_with fail
    go_ret
    exact ⟨ret_int H0.out.symm, hb2⟩
  have hh := (valid_of h0).h0
  have hh2 := (valid_of h0).h1
  have H0 := Lib.hid h0
  cases hv : inB v 0 ((g.lives.length : Int) - 1)
  case false =>
    have H1 := Lib.hid (placeErr_v (t := t) h0 hv)
    go_enter Try.func39, Try.ntmps39
    go_wp2_with fail
    refine (refGraph_any _ _ _ _ g _ (hG.ext (by go_grown))).mono ?_
    rintro e w1 ⟨rfl, hb1⟩
    obtain ⟨B0, c1, c2, c3⟩ := (Blk.new w 28 (gC A c A' c' g)).go hb1
    have hb2 : Below w.heap.size w w1 := ext_trans (by go_grown) hb1
    go_wp2_with (go_at_call 46; refine (in_any _ _ _ _).mono ?_; rintro e w' ⟨rfl, rfl⟩)
    go_ret
    exact ⟨ret_int H1.out.symm, hb2⟩
  case true =>
    cases ht : inB t 0 (g.h - 1)
    all_goals
      have H1 := Lib.hid (first_of (placeErr_t h0 hv) (placeErr_0 h0 hv) ht)
      go_enter Try.func39, Try.ntmps39
      go_wp2_with fail
      refine (refGraph_any _ _ _ _ g _ (hG.ext (by go_grown))).mono ?_
      rintro e w1 ⟨rfl, hb1⟩
      obtain ⟨B0, c1, c2, c3⟩ := (Blk.new w 28 (gC A c A' c' g)).go hb1
      have hb2 : Below w.heap.size w w1 := ext_trans (by go_grown) hb1
      go_wp2_with (go_at_call 46; refine (in_any _ _ _ _).mono ?_; rintro e w' ⟨rfl, rfl⟩)
      go_ret
      exact ⟨ret_int H1.out.symm, hb2⟩

/-- The three results of Lands. -/
def landsR (o : Option (LegD × Int)) : Value := match o with
  | some (l, to) => .tuple #[.int .i64 to, .int .i64 l.cost, .bool true]
  | none => .tuple #[.int .i64 0, .int .i64 0, .bool false]

set_option maxHeartbeats 1000000 in
theorem lands_any (A A' : Option Addr) (c c' : Nat) (g : GraphD) (x : EdgeD) (i t : Int) (w : World) (hG : GraphAt w A c A' c' g) (hV : Valid g) (hi0 : 0 ≤ i) (hix : g.edges[i.toNat]? = some x) (ht : I64 t) :
    Calls Try.prog 95 #[gV A c A' c' g, .int .i64 i, .int .i64 t] w fun e w' => e = .returned (landsR (arrive g x t)) ∧ Below w.heap.size w w' := by
  obtain ⟨ht0, ht1⟩ := ht
  have hx : EdgeOk g x := hV.edges x (List.mem_of_getElem? hix)
  have hlen := lt_of_get hix
  have hi1 : i < (g.edges.length : Int) := by omega
  have hne := hV.ne
  obtain ⟨be, oe, hE⟩ := hG.edges
  obtain ⟨rfl, hbe, ⟨⟨x0, x1, L, cl, x2, hl1, hl2, hL⟩, _⟩⟩ := hE _ x hix
  have hl : x.legs.length ≤ maxLen := Nat.le_trans hl1 hl2
  unfold cellIs at x0 x1 x2
  clear hE hix
  cases h : leaves t x.legs with
  | none =>
    have H := Lib.hid h
    have HR := Lib.hid (arrive_no (g := g) h)
    clear h
    go_enter Try.func95, Try.ntmps95
    go_wp2_with fail
    refine (refLeg_none _ (hL.ext RLeg.stable (by go_grown)) hl H.out).mono ?_
    rintro e w1 ⟨rfl, hb1⟩
    have hb2 : Below w.heap.size w w1 := ext_trans (by go_grown) hb1
    go_wp2_with fail
    go_ret3
    exact ⟨by rw [HR.out]; rfl, ext_alloc hb2 _⟩
  | some l =>
    have hm := leaves_mem h
    have hl' := hx.legs l hm.1
    have ha0 := hx.a0; have ha1 := hx.a1; have hb0 := hx.b0; have hb1' := hx.b1
    have hh := hV.h1
    have H := Lib.hid h
    have HR := Lib.hid (arrive_of (g := g) h)
    clear h
    by_cases hA : aliveB g x.a t = true
    case neg =>
      have hA' : aliveB g x.a t = false := by simpa using hA
      clear hA
      have HA := Lib.hid hA'
      go_enter Try.func95, Try.ntmps95
      go_wp2_with fail
      refine (refLeg_some _ (hL.ext RLeg.stable (by go_grown)) hl H.out).mono ?_
      rintro e w1 ⟨rfl, hb1⟩
      obtain ⟨B0, c1, c2, c3⟩ := Blk.go (g := w.heap.size) (t := 28) (cs := gC A c _ c' g) ((Blk.new _ _ _).alloc _) hb1
      obtain ⟨B1, d1, d2, d3⟩ := Blk.go (g := w.heap.size + 1) (t := 99) (cs := #[.int .i64 x.a, .int .i64 x.b, .slice L x.legs.length cl]) (Blk.new_ (by simp)) hb1
      have hb2 : Below w.heap.size w w1 := ext_trans (by go_grown) hb1
      clear hb1
      go_wp2_with fail
      refine (refAlive_any _ _ _ _ g x.a t _ (hG.ext (ext_alloc hb2 _)) ha0 ha1).mono ?_
      rintro e w2 ⟨rfl, hb3⟩
      obtain ⟨B0', c1', c2', c3'⟩ := (B0.alloc _).go hb3
      obtain ⟨B1', d1', d2', d3'⟩ := (B1.alloc _).go hb3
      obtain ⟨B3', e1', e2', e3'⟩ := (Blk.new w1 114 #[.int .i64 l.f, .int .i64 l.t, .int .i64 l.time, .int .i64 l.cost]).go hb3
      have hb4 : Below w.heap.size w w2 := ext_trans (ext_alloc hb2 _) hb3
      clear hb3 c1 c2 c3 d1 d2 d3 B0 B1
      go_wp2_with fail
      go_ret3
      exact ⟨by rw [HR.out, if_neg (by simp [HA.out])]; rfl, by go_grown⟩
    have HA := Lib.hid hA
    by_cases hH : t + l.time < g.h
    case neg =>
      have HH := Lib.hid hH
      go_enter Try.func95, Try.ntmps95
      go_wp2_with fail
      refine (refLeg_some _ (hL.ext RLeg.stable (by go_grown)) hl H.out).mono ?_
      rintro e w1 ⟨rfl, hb1⟩
      obtain ⟨B0, c1, c2, c3⟩ := Blk.go (g := w.heap.size) (t := 28) (cs := gC A c _ c' g) ((Blk.new _ _ _).alloc _) hb1
      obtain ⟨B1, d1, d2, d3⟩ := Blk.go (g := w.heap.size + 1) (t := 99) (cs := #[.int .i64 x.a, .int .i64 x.b, .slice L x.legs.length cl]) (Blk.new_ (by simp)) hb1
      have hb2 : Below w.heap.size w w1 := ext_trans (by go_grown) hb1
      clear hb1
      go_wp2_with fail
      refine (refAlive_any _ _ _ _ g x.a t _ (hG.ext (ext_alloc hb2 _)) ha0 ha1).mono ?_
      rintro e w2 ⟨rfl, hb3⟩
      obtain ⟨B0', c1', c2', c3'⟩ := (B0.alloc _).go hb3
      obtain ⟨B1', d1', d2', d3'⟩ := (B1.alloc _).go hb3
      obtain ⟨B3', e1', e2', e3'⟩ := (Blk.new w1 114 #[.int .i64 l.f, .int .i64 l.t, .int .i64 l.time, .int .i64 l.cost]).go hb3
      have hb4 : Below w.heap.size w w2 := ext_trans (ext_alloc hb2 _) hb3
      clear hb3 c1 c2 c3 d1 d2 d3 B0 B1
      go_wp2_with fail
      go_ret3
      exact ⟨by rw [HR.out, if_neg (by exact fun hh => by have := HH.out; omega)]; rfl, by go_grown⟩
    have HH := Lib.hid hH
    cases hB : aliveB g x.b (t + l.time)
    case false =>
      have HB := Lib.hid hB
      go_enter Try.func95, Try.ntmps95
      go_wp2_with fail
      refine (refLeg_some _ (hL.ext RLeg.stable (by go_grown)) hl H.out).mono ?_
      rintro e w1 ⟨rfl, hb1⟩
      obtain ⟨B0, c1, c2, c3⟩ := Blk.go (g := w.heap.size) (t := 28) (cs := gC A c _ c' g) ((Blk.new _ _ _).alloc _) hb1
      obtain ⟨B1, d1, d2, d3⟩ := Blk.go (g := w.heap.size + 1) (t := 99) (cs := #[.int .i64 x.a, .int .i64 x.b, .slice L x.legs.length cl]) (Blk.new_ (by simp)) hb1
      have hb2 : Below w.heap.size w w1 := ext_trans (by go_grown) hb1
      clear hb1
      go_wp2_with fail
      refine (refAlive_any _ _ _ _ g x.a t _ (hG.ext (ext_alloc hb2 _)) ha0 ha1).mono ?_
      rintro e w2 ⟨rfl, hb3⟩
      obtain ⟨B0', c1', c2', c3'⟩ := (B0.alloc _).go hb3
      obtain ⟨B1', d1', d2', d3'⟩ := (B1.alloc _).go hb3
      obtain ⟨B3', e1', e2', e3'⟩ := (Blk.new w1 114 #[.int .i64 l.f, .int .i64 l.t, .int .i64 l.time, .int .i64 l.cost]).go hb3
      have hb4 : Below w.heap.size w w2 := ext_trans (ext_alloc hb2 _) hb3
      clear hb3 c1 c2 c3 d1 d2 d3 B0 B1
      go_wp2_with fail
      refine (refAlive_any _ _ _ _ g x.b (t + l.time) _ (hG.ext hb4) hb0 hb1').mono ?_
      rintro e w3 ⟨rfl, hb5⟩
      have hb6 : Below w.heap.size w w3 := ext_trans hb4 hb5
      go_wp2_with fail
      go_ret3
      exact ⟨by rw [HR.out, if_neg (by exact fun hh => by rw [HB.out] at hh; exact absurd hh.2.2 (by simp))]; rfl, by go_grown⟩
    case true =>
      have HB := Lib.hid hB
      go_enter Try.func95, Try.ntmps95
      go_wp2_with fail
      refine (refLeg_some _ (hL.ext RLeg.stable (by go_grown)) hl H.out).mono ?_
      rintro e w1 ⟨rfl, hb1⟩
      obtain ⟨B0, c1, c2, c3⟩ := Blk.go (g := w.heap.size) (t := 28) (cs := gC A c _ c' g) ((Blk.new _ _ _).alloc _) hb1
      obtain ⟨B1, d1, d2, d3⟩ := Blk.go (g := w.heap.size + 1) (t := 99) (cs := #[.int .i64 x.a, .int .i64 x.b, .slice L x.legs.length cl]) (Blk.new_ (by simp)) hb1
      have hb2 : Below w.heap.size w w1 := ext_trans (by go_grown) hb1
      clear hb1
      go_wp2_with fail
      refine (refAlive_any _ _ _ _ g x.a t _ (hG.ext (ext_alloc hb2 _)) ha0 ha1).mono ?_
      rintro e w2 ⟨rfl, hb3⟩
      obtain ⟨B0', c1', c2', c3'⟩ := (B0.alloc _).go hb3
      obtain ⟨B1', d1', d2', d3'⟩ := (B1.alloc _).go hb3
      obtain ⟨B3', e1', e2', e3'⟩ := (Blk.new w1 114 #[.int .i64 l.f, .int .i64 l.t, .int .i64 l.time, .int .i64 l.cost]).go hb3
      have hb4 : Below w.heap.size w w2 := ext_trans (ext_alloc hb2 _) hb3
      clear hb3 c1 c2 c3 d1 d2 d3 B0 B1
      go_wp2_with fail
      refine (refAlive_any _ _ _ _ g x.b (t + l.time) _ (hG.ext hb4) hb0 hb1').mono ?_
      rintro e w3 ⟨rfl, hb5⟩
      obtain ⟨B3q, e1q, e2q, e3q⟩ := B3'.go hb5
      have hb6 : Below w.heap.size w w3 := ext_trans hb4 hb5
      clear hb5 B0' c1' c2' c3' B1' d1' d2' d3' B3' e1' e2' e3'
      go_wp2_with fail
      go_quiet (fail)
      go_wp2
      go_ret3
      exact ⟨by rw [HR.out, if_pos ⟨HA.out, HH.out, HB.out⟩]; rfl, below_drewN hb6 _⟩
end Go.Proofs.Ytcgnalpcbcpmkaa
