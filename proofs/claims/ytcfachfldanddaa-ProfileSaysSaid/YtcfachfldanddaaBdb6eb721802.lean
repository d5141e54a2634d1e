/- Several texts in one: Place, RefGo, Go, Out, OutP, HopRow, EarlyF. -/
import Derived.IntWalk
import Derived.Test.YtcfachfldanddaaBd32704f2345
import Derived.Test.YtcfachfldanddaaBd6a04bbb789
import Derived.Test.YtcfachfldanddaaBd225765f6ff
import Derived.Test.YtcfachfldanddaaBd0e3b3965a6
import Derived.Test.YtcfachfldanddaaBdb6370b3d97
/- The walks: what is wrong with a place (program and document), when one lands (document). -/
namespace Go.Proofs.Ytcfachfldanddaa
open Go.RowKit

theorem first_of {b : Bool} {x : Int} (h : b = false → x = 1) (h' : b = true → x = 0) {d : Bool} (e : b = d) : x = if d then 0 else 1 := by
  cases d
  · exact h e
  · exact h' e
theorem neq_of {a : Int} (h : a = 0) : (a != 0) = false := by simp [h]
theorem neq_of' {a : Int} (h : ¬ a = 0) : (a != 0) = true := by simp [h]

set_option maxHeartbeats 1000000 in
theorem checkPlace_any (A A' : Option Addr) (c c' : Nat) (g : GraphD) (v t : Int) (w : World) (hG : GraphAt w A c A' c' g) :
    Calls Try.prog 119 #[gV A c A' c' g, .int .i64 v, .int .i64 t] w fun e w' => e = .returned (.int .i64 (placeErr g v t)) ∧ Below w.heap.size w w' := by
  have m1 : g.lives.length ≤ 9223372036854775807 := Nat.le_trans hG.lc hG.cm
  by_cases h0 : graphErr g = 0
  case neg =>
    have H0 := Lib.hid (placeErr_g (v := v) (t := t) h0)
    have hn := neq_of' h0
    clear h0
    go_enter Try.func119, Try.ntmps119
    go_wp2_with fail
    refine (check_any _ _ _ _ g _ (hG.ext (by go_grown))).mono ?_
    rintro e w1 ⟨rfl, hb1⟩
    have hb2 : Below w.heap.size w w1 := ext_trans (by go_grown) hb1
    go_wp2_with fail
    go_ret
    exact ⟨ret_int H0.out.symm, hb2⟩
  have H0 := Lib.hid h0
  cases hv : inB v 0 ((g.lives.length : Int) - 1)
  case false =>
    have H1 := Lib.hid (placeErr_v (t := t) h0 hv)
    simp only [inB, decide_eq_false_iff_not] at hv
    go_enter Try.func119, Try.ntmps119
    go_wp2_with fail
    refine (check_any _ _ _ _ g _ (hG.ext (by go_grown))).mono ?_
    rintro e w1 ⟨rfl, hb1⟩
    obtain ⟨B0, c1, c2, c3⟩ := (Blk.new w 78 (gC A c A' c' g)).go hb1
    have hb2 : Below w.heap.size w w1 := ext_trans (by go_grown) hb1
    go_wp2_with fail
    all_goals go_ret
    all_goals exact ⟨ret_int H1.out.symm, hb2⟩
  case true =>
    cases ht : inB t 0 (g.h - 1)
    case false =>
      have H1 := Lib.hid (placeErr_t h0 hv ht)
      simp only [inB, decide_eq_false_iff_not, decide_eq_true_eq] at hv ht
      obtain ⟨hv1, hv2⟩ := hv
      go_enter Try.func119, Try.ntmps119
      go_wp2_with fail
      refine (check_any _ _ _ _ g _ (hG.ext (by go_grown))).mono ?_
      rintro e w1 ⟨rfl, hb1⟩
      obtain ⟨B0, c1, c2, c3⟩ := (Blk.new w 78 (gC A c A' c' g)).go hb1
      have hb2 : Below w.heap.size w w1 := ext_trans (by go_grown) hb1
      go_wp2_with fail
      all_goals go_ret
      all_goals exact ⟨ret_int H1.out.symm, hb2⟩
    case true =>
      have H1 := Lib.hid (placeErr_0 h0 hv ht)
      simp only [inB, decide_eq_true_eq] at hv ht
      obtain ⟨hv1, hv2⟩ := hv
      obtain ⟨ht1, ht2⟩ := ht
      go_enter Try.func119, Try.ntmps119
      go_wp2_with fail
      refine (check_any _ _ _ _ g _ (hG.ext (by go_grown))).mono ?_
      rintro e w1 ⟨rfl, hb1⟩
      obtain ⟨B0, c1, c2, c3⟩ := (Blk.new w 78 (gC A c A' c' g)).go hb1
      have hb2 : Below w.heap.size w w1 := ext_trans (by go_grown) hb1
      go_wp2_with fail
      go_ret
      exact ⟨ret_int H1.out.symm, hb2⟩

/-- The three results of Lands. -/
def landsR (o : Option (LegD × Int)) : Value := match o with
  | some (l, to) => .tuple #[.int .i64 to, .int .i64 l.cost, .bool true]
  | none => .tuple #[.int .i64 0, .int .i64 0, .bool false]

set_option maxHeartbeats 1000000 in
theorem lands_any (A A' : Option Addr) (c c' : Nat) (g : GraphD) (x : EdgeD) (i t : Int) (w : World) (hG : GraphAt w A c A' c' g) (hV : Valid g) (hi0 : 0 ≤ i) (hix : g.edges[i.toNat]? = some x) (ht : I64 t) :
    Calls Try.prog 125 #[gV A c A' c' g, .int .i64 i, .int .i64 t] w fun e w' => e = .returned (landsR (arrive g x t)) ∧ Below w.heap.size w w' := by
  obtain ⟨ht0, ht1⟩ := ht
  have hx : EdgeOk g x := hV.edges x (List.mem_of_getElem? hix)
  have hlen := lt_of_get hix
  have hi1 : i < (g.edges.length : Int) := by omega
  have hne := hV.ne
  obtain ⟨be, oe, hE⟩ := hG.edges
  obtain ⟨rfl, hbe, ⟨⟨x0, x1, L, cl, x2, hl1, hl2, hL⟩, _⟩⟩ := hE _ x hix
  have hl : x.legs.length ≤ maxLen := Nat.le_trans hl1 hl2
  unfold cellIs at x0 x1 x2
  clear hE hix
  cases h : leaves t x.legs with
  | none =>
    have H := Lib.hid h
    have HR := Lib.hid (arrive_no (g := g) h)
    clear h
    go_enter Try.func125, Try.ntmps125
    go_wp2_with fail
    refine (refLeg_none _ (hL.ext RLeg.stable (by go_grown)) hl H.out).mono ?_
    rintro e w1 ⟨rfl, hb1⟩
    have hb2 : Below w.heap.size w w1 := ext_trans (by go_grown) hb1
    go_wp2_with fail
    go_ret3
    exact ⟨by rw [HR.out]; rfl, ext_alloc hb2 _⟩
  | some l =>
    have hm := leaves_mem h
    have hl' := hx.legs l hm.1
    have ha0 := hx.a0; have ha1 := hx.a1; have hb0 := hx.b0; have hb1' := hx.b1
    have hh := hV.h1
    have H := Lib.hid h
    have HR := Lib.hid (arrive_of (g := g) h)
    clear h
    by_cases hA : aliveB g x.a t = true
    case neg =>
      have hA' : aliveB g x.a t = false := by simpa using hA
      clear hA
      have HA := Lib.hid hA'
      go_enter Try.func125, Try.ntmps125
      go_wp2_with fail
      refine (refLeg_some _ (hL.ext RLeg.stable (by go_grown)) hl H.out).mono ?_
      rintro e w1 ⟨rfl, hb1⟩
      obtain ⟨B0, c1, c2, c3⟩ := Blk.go (g := w.heap.size) (t := 78) (cs := gC A c _ c' g) ((Blk.new _ _ _).alloc _) hb1
      obtain ⟨B1, d1, d2, d3⟩ := Blk.go (g := w.heap.size + 1) (t := 118) (cs := #[.int .i64 x.a, .int .i64 x.b, .slice L x.legs.length cl]) (Blk.new_ (by simp)) hb1
      have hb2 : Below w.heap.size w w1 := ext_trans (by go_grown) hb1
      clear hb1
      go_wp2_with fail
      refine (refAlive_any _ _ _ _ g x.a t _ (hG.ext (ext_alloc hb2 _)) ha0 ha1).mono ?_
      rintro e w2 ⟨rfl, hb3⟩
      obtain ⟨B0', c1', c2', c3'⟩ := (B0.alloc _).go hb3
      obtain ⟨B1', d1', d2', d3'⟩ := (B1.alloc _).go hb3
      obtain ⟨B3', e1', e2', e3'⟩ := (Blk.new w1 115 #[.int .i64 l.f, .int .i64 l.t, .int .i64 l.time, .int .i64 l.cost]).go hb3
      have hb4 : Below w.heap.size w w2 := ext_trans (ext_alloc hb2 _) hb3
      clear hb3 c1 c2 c3 d1 d2 d3 B0 B1
      go_wp2_with fail
      go_ret3
      exact ⟨by rw [HR.out, if_neg (by simp [HA.out])]; rfl, by go_grown⟩
    have HA := Lib.hid hA
    by_cases hH : t + l.time < g.h
    case neg =>
      have HH := Lib.hid hH
      go_enter Try.func125, Try.ntmps125
      go_wp2_with fail
      refine (refLeg_some _ (hL.ext RLeg.stable (by go_grown)) hl H.out).mono ?_
      rintro e w1 ⟨rfl, hb1⟩
      obtain ⟨B0, c1, c2, c3⟩ := Blk.go (g := w.heap.size) (t := 78) (cs := gC A c _ c' g) ((Blk.new _ _ _).alloc _) hb1
      obtain ⟨B1, d1, d2, d3⟩ := Blk.go (g := w.heap.size + 1) (t := 118) (cs := #[.int .i64 x.a, .int .i64 x.b, .slice L x.legs.length cl]) (Blk.new_ (by simp)) hb1
      have hb2 : Below w.heap.size w w1 := ext_trans (by go_grown) hb1
      clear hb1
      go_wp2_with fail
      refine (refAlive_any _ _ _ _ g x.a t _ (hG.ext (ext_alloc hb2 _)) ha0 ha1).mono ?_
      rintro e w2 ⟨rfl, hb3⟩
      obtain ⟨B0', c1', c2', c3'⟩ := (B0.alloc _).go hb3
      obtain ⟨B1', d1', d2', d3'⟩ := (B1.alloc _).go hb3
      obtain ⟨B3', e1', e2', e3'⟩ := (Blk.new w1 115 #[.int .i64 l.f, .int .i64 l.t, .int .i64 l.time, .int .i64 l.cost]).go hb3
      have hb4 : Below w.heap.size w w2 := ext_trans (ext_alloc hb2 _) hb3
      clear hb3 c1 c2 c3 d1 d2 d3 B0 B1
      go_wp2_with fail
      go_ret3
      exact ⟨by rw [HR.out, if_neg (by exact fun hh => by have := HH.out; omega)]; rfl, by go_grown⟩
    have HH := Lib.hid hH
    cases hB : aliveB g x.b (t + l.time)
    case false =>
      have HB := Lib.hid hB
      go_enter Try.func125, Try.ntmps125
      go_wp2_with fail
      refine (refLeg_some _ (hL.ext RLeg.stable (by go_grown)) hl H.out).mono ?_
      rintro e w1 ⟨rfl, hb1⟩
      obtain ⟨B0, c1, c2, c3⟩ := Blk.go (g := w.heap.size) (t := 78) (cs := gC A c _ c' g) ((Blk.new _ _ _).alloc _) hb1
      obtain ⟨B1, d1, d2, d3⟩ := Blk.go (g := w.heap.size + 1) (t := 118) (cs := #[.int .i64 x.a, .int .i64 x.b, .slice L x.legs.length cl]) (Blk.new_ (by simp)) hb1
      have hb2 : Below w.heap.size w w1 := ext_trans (by go_grown) hb1
      clear hb1
      go_wp2_with fail
      refine (refAlive_any _ _ _ _ g x.a t _ (hG.ext (ext_alloc hb2 _)) ha0 ha1).mono ?_
      rintro e w2 ⟨rfl, hb3⟩
      obtain ⟨B0', c1', c2', c3'⟩ := (B0.alloc _).go hb3
      obtain ⟨B1', d1', d2', d3'⟩ := (B1.alloc _).go hb3
      obtain ⟨B3', e1', e2', e3'⟩ := (Blk.new w1 115 #[.int .i64 l.f, .int .i64 l.t, .int .i64 l.time, .int .i64 l.cost]).go hb3
      have hb4 : Below w.heap.size w w2 := ext_trans (ext_alloc hb2 _) hb3
      clear hb3 c1 c2 c3 d1 d2 d3 B0 B1
      go_wp2_with fail
      refine (refAlive_any _ _ _ _ g x.b (t + l.time) _ (hG.ext hb4) hb0 hb1').mono ?_
      rintro e w3 ⟨rfl, hb5⟩
      have hb6 : Below w.heap.size w w3 := ext_trans hb4 hb5
      go_wp2_with fail
      go_ret3
      exact ⟨by rw [HR.out, if_neg (by exact fun hh => by rw [HB.out] at hh; exact absurd hh.2.2 (by simp))]; rfl, by go_grown⟩
    case true =>
      have HB := Lib.hid hB
      go_enter Try.func125, Try.ntmps125
      go_wp2_with fail
      refine (refLeg_some _ (hL.ext RLeg.stable (by go_grown)) hl H.out).mono ?_
      rintro e w1 ⟨rfl, hb1⟩
      obtain ⟨B0, c1, c2, c3⟩ := Blk.go (g := w.heap.size) (t := 78) (cs := gC A c _ c' g) ((Blk.new _ _ _).alloc _) hb1
      obtain ⟨B1, d1, d2, d3⟩ := Blk.go (g := w.heap.size + 1) (t := 118) (cs := #[.int .i64 x.a, .int .i64 x.b, .slice L x.legs.length cl]) (Blk.new_ (by simp)) hb1
      have hb2 : Below w.heap.size w w1 := ext_trans (by go_grown) hb1
      clear hb1
      go_wp2_with fail
      refine (refAlive_any _ _ _ _ g x.a t _ (hG.ext (ext_alloc hb2 _)) ha0 ha1).mono ?_
      rintro e w2 ⟨rfl, hb3⟩
      obtain ⟨B0', c1', c2', c3'⟩ := (B0.alloc _).go hb3
      obtain ⟨B1', d1', d2', d3'⟩ := (B1.alloc _).go hb3
      obtain ⟨B3', e1', e2', e3'⟩ := (Blk.new w1 115 #[.int .i64 l.f, .int .i64 l.t, .int .i64 l.time, .int .i64 l.cost]).go hb3
      have hb4 : Below w.heap.size w w2 := ext_trans (ext_alloc hb2 _) hb3
      clear hb3 c1 c2 c3 d1 d2 d3 B0 B1
      go_wp2_with fail
      refine (refAlive_any _ _ _ _ g x.b (t + l.time) _ (hG.ext hb4) hb0 hb1').mono ?_
      rintro e w3 ⟨rfl, hb5⟩
      obtain ⟨B3q, e1q, e2q, e3q⟩ := B3'.go hb5
      have hb6 : Below w.heap.size w w3 := ext_trans hb4 hb5
      clear hb5 B0' c1' c2' c3' B1' d1' d2' d3' B3' e1' e2' e3'
      go_wp2_with fail
      go_quiet (fail)
      go_wp2
      go_ret3
      exact ⟨by rw [HR.out, if_pos ⟨HA.out, HH.out, HB.out⟩]; rfl, below_drewN hb6 _⟩
end Go.Proofs.Ytcfachfldanddaa
/- The walk of the document's Go: it tells what goR tells. -/
namespace Go.Proofs.Ytcfachfldanddaa
open Go.RowKit

theorem lands_no_any (A A' : Option Addr) (c c' : Nat) (g : GraphD) (x : EdgeD) (i t : Int) (w : World) (hG : GraphAt w A c A' c' g) (hV : Valid g) (hi0 : 0 ≤ i) (hix : g.edges[i.toNat]? = some x) (ht : I64 t) (h : arrive g x t = none) :
    Calls Try.prog 125 #[gV A c A' c' g, .int .i64 i, .int .i64 t] w fun e w' => e = .returned (.tuple #[.int .i64 0, .int .i64 0, .bool false]) ∧ Below w.heap.size w w' :=
  (lands_any A A' c c' g x i t w hG hV hi0 hix ht).mono fun e w' ⟨he, hb⟩ => ⟨by rw [he, h]; rfl, hb⟩
theorem lands_yes_any (A A' : Option Addr) (c c' : Nat) (g : GraphD) (x : EdgeD) (i t : Int) (lg : LegD) (to : Int) (w : World) (hG : GraphAt w A c A' c' g) (hV : Valid g) (hi0 : 0 ≤ i) (hix : g.edges[i.toNat]? = some x) (ht : I64 t) (h : arrive g x t = some (lg, to)) :
    Calls Try.prog 125 #[gV A c A' c' g, .int .i64 i, .int .i64 t] w fun e w' => e = .returned (.tuple #[.int .i64 to, .int .i64 lg.cost, .bool true]) ∧ Below w.heap.size w w' :=
  (lands_any A A' c c' g x i t w hG hV hi0 hix ht).mono fun e w' ⟨he, hb⟩ => ⟨by rw [he, h]; rfl, hb⟩

/-- What the loop knows: where one is (ok), or that the list is no journey. -/
def GoInv (g : GraphD) (v t : Int) (l : List HopD) (n : Nat) (x y z : Int) (ok : Bool) : Prop :=
  (ok = true → aliveB g v t = true ∧ 0 ≤ z ∧ z ≤ 1000 * n ∧ goL g x y z (l.drop n) = goL g v t 0 l) ∧ (ok = false → goR g v t l = (0, 0, 0, 5))

end Go.Proofs.Ytcfachfldanddaa
/- The walk of journey.Go: it tells what goR tells. -/
namespace Go.Proofs.Ytcfachfldanddaa
open Go.RowKit

theorem arrive_no_any (A A' L : Option Addr) (c c' cl : Nat) (g : GraphD) (x : EdgeD) (t : Int) (w : World) (hG : GraphAt w A c A' c' g) (hV : Valid g) (hx : EdgeOk g x)
    (hL : SlAt RLeg 4 w L x.legs) (hl : x.legs.length ≤ maxLen) (ht : I64 t) (h : arrive g x t = none) :
    Calls Try.prog 121 #[gV A c A' c' g, edgeV L cl x, .int .i64 t] w fun e w' => e = .returned (.tuple #[legV ⟨0, 0, 0, 0⟩, .int .i64 0, .bool false]) ∧ Below w.heap.size w w' :=
  (arrive_any A A' L c c' cl g x t w hG hV hx hL hl ht).mono fun e w' ⟨he, hb⟩ => ⟨by rw [he, h]; rfl, hb⟩
theorem arrive_yes_any (A A' L : Option Addr) (c c' cl : Nat) (g : GraphD) (x : EdgeD) (t : Int) (lg : LegD) (to : Int) (w : World) (hG : GraphAt w A c A' c' g) (hV : Valid g) (hx : EdgeOk g x)
    (hL : SlAt RLeg 4 w L x.legs) (hl : x.legs.length ≤ maxLen) (ht : I64 t) (h : arrive g x t = some (lg, to)) :
    Calls Try.prog 121 #[gV A c A' c' g, edgeV L cl x, .int .i64 t] w fun e w' => e = .returned (.tuple #[legV lg, .int .i64 to, .bool true]) ∧ Below w.heap.size w w' :=
  (arrive_any A A' L c c' cl g x t w hG hV hx hL hl ht).mono fun e w' ⟨he, hb⟩ => ⟨by rw [he, h]; rfl, hb⟩

end Go.Proofs.Ytcfachfldanddaa
/- The walks of journey.Out and of the document's Outs: they tell the same list. -/
namespace Go.Proofs.Ytcfachfldanddaa
open Go.RowKit

theorem info_hop : (Try.prog.info? 153).map (fun i => (i.zero, i.size, i.bytes)) = some (some (.agg #[.int .i64 0, .int .i64 0]), 2, 16) := by kernel_rfl
theorem hop_one {a b : Int} : ∀ u ∈ (#[.int .i64 a, .int .i64 b] : Array Value).toList, u.oneCell' = true := by simp [Value.oneCell']
theorem hopEnc_len (x : HopD) : (hopEnc x).length = 2 := rfl
/-- A list of hops and an error are told. -/
def HopsOut (l : List HopD) (er : Int) (w : World) (e : Ending) (w' : World) : Prop := ∃ A c, e = .returned (.tuple #[.slice A l.length c, .int .i64 er]) ∧ SlAt RHop 2 w' A l ∧ l.length ≤ maxLen ∧ Below w.heap.size w w'
def HopsOut1 (l : List HopD) (w : World) (e : Ending) (w' : World) : Prop := ∃ A c, e = .returned (.slice A l.length c) ∧ SlAt RHop 2 w' A l ∧ l.length ≤ maxLen ∧ Below w.heap.size w w'
theorem own_hops {w : World} {base : Nat} {v : Value} {l : List HopD} (h : Own hopEnc 2 w base 153 v l) (hi : ∀ x, x ∈ l → I64 x.edge ∧ I64 x.depart) : ∃ A c, v = .slice A l.length c ∧ SlAt RHop 2 w A l :=
  h.slAt hopEnc_len fun x hx b o hc => ⟨⟨by simpa using hc 0 _ rfl, by simpa using hc 1 _ rfl⟩, hi x hx⟩
theorem outs_small {g : GraphD} {v t : Int} (hV : Valid g) (h0 : 0 ≤ t) (h1 : t < g.h) : (outs g v t).length ≤ 3000 ∧ ∀ x, x ∈ outs g v t → I64 x.edge ∧ I64 x.depart := by
  have hh := hV.h1; have hne := hV.ne
  unfold outs
  split
  · have hl := outsL_len (g := g) (v := v) (g.h - t).toNat t
    have hm : (g.h - t).toNat * g.edges.length ≤ 100 * 30 := Nat.mul_le_mul (by omega) hne
    refine ⟨by omega, fun x hx => ?_⟩
    obtain ⟨h2, h3, h4⟩ := (outsL_mem _ _).1 hx
    obtain ⟨_, k, y, hk, he, _⟩ := (outsAt_mem _ _).1 h4
    have := lt_of_get hk
    exact ⟨⟨by omega, by omega⟩, by unfold I64; omega⟩
  · exact ⟨by simp, by simp⟩

end Go.Proofs.Ytcfachfldanddaa
/- The walk of journey.Out. -/
namespace Go.Proofs.Ytcfachfldanddaa
open Go.RowKit

set_option maxRecDepth 100000 in
set_option maxHeartbeats 4000000 in
theorem out_main (A A' : Option Addr) (c c' : Nat) (g : GraphD) (v t : Int) (w : World) (hG : GraphAt w A c A' c' g) (h0 : placeErr g v t = 0) :
    Calls Try.prog 95 #[gV A c A' c' g, .int .i64 v, .int .i64 t] w (HopsOut (outs g v t) 0 w) := by
  obtain ⟨hV, hv, ht⟩ := place_of h0
  obtain ⟨hv0, hv1⟩ := hv
  obtain ⟨ht0, ht1⟩ := ht
  have hh := hV.h1
  have hne := hV.ne
  have HSM := Lib.hid (outs_small (v := v) hV ht0 ht1)
  obtain ⟨i0, hi, hz0, hz1, hz2⟩ := info_parts info_hop
  have HO : Hid (outs g v t = if aliveB g v t = true then outsL g v (g.h - t).toNat t else []) := Lib.hid rfl
  go_enter Try.func95, Try.ntmps95
  go_wp2_with fail
  refine (checkPlace_any _ _ _ _ g v t _ (hG.ext (by go_grown))).mono ?_
  rintro e w1 ⟨rfl, hb1⟩
  obtain ⟨B0, c1, c2, c3⟩ := (Blk.new w 78 (gC A c A' c' g)).go hb1
  have hb2 : Below (w.heap.size + 1) (w.alloc (.cells (gC A c A' c' g) 78)) w1 := by simpa using hb1
  go_wp2_with fail
  clear c1 c2 c3 hb1 h0
  go_loopw [9, 10] (fun o d wr => ∃ (n : Nat) (y : Int) (acc : List HopD), n ≤ 100 ∧ d = .int .i64 y ∧ y + n = g.h ∧ 0 ≤ y ∧ Hid (acc ++ (if aliveB g v t = true then outsL g v n y else []) = outs g v t) ∧ Own hopEnc 2 wr (w.heap.size + 1) 153 o acc ∧ Below (w.heap.size + 1) (w.alloc (.cells (gC A c A' c' g) 78)) wr)
    (fun _ d _ => (g.h - intOf d).toNat)
  case atStart => exact ⟨(g.h - t).toNat, t, [], by omega, rfl, by omega, ht0, Lib.hid (by rw [HO.out]; rfl), Own.nil, hb2⟩
  case round =>
    clear hb2 B0
    obtain ⟨n, y, acc, hn, rfl, hny, hy0, HI, hown, hb⟩ := hrel
    have hbw : Below w.heap.size w wr := (Below.refl _ _).alloc (Nat.le_refl _) _ |>.trans (hb.mono (by omega))
    have B0 := (Blk.new w 78 (gC A c A' c' g)).below hb (by omega)
    obtain ⟨b1, b2, b3⟩ := B0.facts
    have hzr : w.heap.size + 1 ≤ wr.heap.size := by have := hb.size; simpa using this
    go_wp2_with fail
    refine (alive_any _ _ _ _ g v t _ (hG.ext hbw) hv0 hv1).mono ?_
    rintro e wc ⟨rfl, hbc⟩
    obtain ⟨B0c, b1c, b2c, b3c⟩ := B0.go hbc
    have hownc := hown.ext hbc
    have hbC := hb.trans (hbc.mono hzr)
    have hbwc := ext_trans hbw hbc
    have hzc := hbc.size
    clear hown hb hbw B0 b1 b2 b3 hbc
    cases hal : aliveB g v t
    case false =>
      have hE : Hid (acc = outs g v t) := Lib.hid (by have := HI.out; rw [hal] at this; simpa using this)
      go_wp2_with fail
      go_ret2
      obtain ⟨Ao, co, rfl, hS⟩ := own_hops hownc (by rw [hE.out]; exact HSM.out.2)
      rw [hE.out] at hS ⊢
      exact ⟨Ao, co, rfl, hS, Nat.le_trans HSM.out.1 (by unfold maxLen; omega), hbwc⟩
    have HI3 : Hid (acc ++ outsL g v n y = outs g v t) := Lib.hid (by have := HI.out; rw [hal] at this; simpa using this)
    clear HI
    by_cases hlt : y < g.h
    case neg =>
      have hE : Hid (acc = outs g v t) := Lib.hid (by
        obtain rfl : n = 0 := by omega
        simpa [outsL] using HI3.out)
      go_wp2_with fail
      go_ret2
      obtain ⟨Ao, co, rfl, hS⟩ := own_hops hownc (by rw [hE.out]; exact HSM.out.2)
      rw [hE.out] at hS ⊢
      exact ⟨Ao, co, rfl, hS, Nat.le_trans HSM.out.1 (by unfold maxLen; omega), hbwc⟩
    obtain ⟨m, rfl⟩ : ∃ m, n = m + 1 := ⟨n - 1, by omega⟩
    go_wp2_with fail
    have HAL := Lib.hid hal
    clear hal b1c b2c b3c
    go_loopw [9, 39] (fun o k wr => ∃ (j : Nat) (acc2 : List HopD), j ≤ g.edges.length ∧ k = .int .i64 j ∧ Hid (acc2 ++ (outsAt g v y j (g.edges.drop j) ++ outsL g v m (y + 1)) = outs g v t) ∧ Own hopEnc 2 wr (w.heap.size + 1) 153 o acc2 ∧ Below (w.heap.size + 1) (w.alloc (.cells (gC A c A' c' g) 78)) wr)
      (fun _ k _ => g.edges.length - (intOf k).toNat)
    case atStart => exact ⟨0, acc, Nat.zero_le _, rfl, Lib.hid (by rw [← HI3.out, outsL]; rfl), hownc, hbC⟩
    case round =>
      clear hownc HI3 hbC hbwc B0c
      obtain ⟨j, acc2, hj, rfl, HI, hown, hb⟩ := hrel
      have hbw : Below w.heap.size w wr := (Below.refl _ _).alloc (Nat.le_refl _) _ |>.trans (hb.mono (by omega))
      have B0 := (Blk.new w 78 (gC A c A' c' g)).below hb (by omega)
      obtain ⟨b1, b2, b3⟩ := B0.facts
      have hzw : w.heap.size + 1 ≤ wr.heap.size := by have := hb.size; simpa using this
      have hacc : acc2.length ≤ 3000 := by
        have h1 := HSM.out.1
        rw [← HI.out, List.length_append] at h1
        omega
      by_cases hltj : j < g.edges.length
      case neg =>
        go_wp2_with fail
        go_roundw
        case rel =>
          refine ⟨m, y + 1, acc2, by omega, by go_num, by omega, by omega, Lib.hid ?_, hown, hb⟩
          rw [← HI.out, drop_end (by omega), HAL.out]
          rfl
        case measure => simp [intOf]; omega
      obtain ⟨x, hx⟩ := get_lt hltj
      have hxe : EdgeOk g x := hV.edges x (List.mem_of_getElem? hx)
      obtain ⟨be, oe, hE⟩ := hG.edges
      obtain ⟨rfl, hbe, ⟨⟨x0, x1, L, cl, x2, hl1, hl2, hL⟩, _⟩⟩ := hE _ x hx
      have k0 := x0.now hbw
      have k1 := x1.now hbw
      have k2 := x2.now hbw
      have hll : x.legs.length ≤ maxLen := Nat.le_trans hl1 hl2
      have hd := drop_cons hx
      have HI2 : Hid (acc2 ++ (outsAt g v y j (x :: g.edges.drop (j + 1)) ++ outsL g v m (y + 1)) = outs g v t) := by rw [← hd]; exact HI
      have hyI : I64 y := ⟨by omega, by omega⟩
      clear hE hx hd HI x0 x1 x2
      have hbq : Below w.heap.size w (wr.alloc (Obj.cells #[.int .i64 x.a, .int .i64 x.b, .slice L x.legs.length cl] 118)) := ext_alloc hbw _
      have hbq2 : Below (w.heap.size + 1) wr (wr.alloc (Obj.cells #[.int .i64 x.a, .int .i64 x.b, .slice L x.legs.length cl] 118)) := (Below.refl _ _).alloc hzw _
      cases har : arrive g x y with
      | none =>
        have HAR := Lib.hid har
        have HB := Lib.hid (leavesB_none (v := v) har)
        clear har
        go_wp2_with fail
        refine (arrive_no_any _ _ L _ _ cl g x y _ (hG.ext hbq) hV hxe (hL.ext RLeg.stable hbq) hll hyI HAR.out).mono ?_
        rintro e w5 ⟨rfl, hb5⟩
        have hb6 : Below (w.heap.size + 1) wr w5 := hbq2.trans (hb5.mono (by simp; omega))
        go_wp2_with fail
        go_roundw
        case rel => exact ⟨j + 1, acc2, by omega, by go_num, Lib.hid (by rw [← HI2.out, outsAt_no HB.out]), ((hown.alloc _).ext hb5).alloc _, (hb.trans hb6).alloc (by have := hb6.size; omega) _⟩
        case measure => simp [intOf]; omega
      | some p =>
        obtain ⟨lg, to⟩ := p
        have HAR := Lib.hid har
        by_cases hxa : x.a = v
        case neg =>
          have HB := Lib.hid (leavesB_other (g := g) (d := y) hxa)
          clear har
          go_wp2_with fail
          refine (arrive_yes_any _ _ L _ _ cl g x y lg to _ (hG.ext hbq) hV hxe (hL.ext RLeg.stable hbq) hll hyI HAR.out).mono ?_
          rintro e w5 ⟨rfl, hb5⟩
          obtain ⟨B1, f1, f2, f3⟩ := (Blk.new wr 118 #[.int .i64 x.a, .int .i64 x.b, .slice L x.legs.length cl]).go hb5
          have hb6 : Below (w.heap.size + 1) wr w5 := hbq2.trans (hb5.mono (by simp; omega))
          go_wp2_with fail
          go_roundw
          case rel => exact ⟨j + 1, acc2, by omega, by go_num, Lib.hid (by rw [← HI2.out, outsAt_no HB.out]), ((hown.alloc _).ext hb5).alloc _, (hb.trans hb6).alloc (by have := hb6.size; omega) _⟩
          case measure => simp [intOf]; omega
        case pos =>
          have HB := Lib.hid (leavesB_some har hxa)
          clear har
          have hxe2 : (x.a == v) = true := by simp [hxa]
          clear hxa
          go_wp2_with fail
          refine (arrive_yes_any _ _ L _ _ cl g x y lg to _ (hG.ext hbq) hV hxe (hL.ext RLeg.stable hbq) hll hyI HAR.out).mono ?_
          rintro e w5 ⟨rfl, hb5⟩
          obtain ⟨B1, f1, f2, f3⟩ := (Blk.new wr 118 #[.int .i64 x.a, .int .i64 x.b, .slice L x.legs.length cl]).go hb5
          have hb6 : Below (w.heap.size + 1) wr w5 := hbq2.trans (hb5.mono (by simp; omega))
          have hown5 := ((hown.alloc (Obj.cells #[.int .i64 x.a, .int .i64 x.b, .slice L x.legs.length cl] 118)).ext hb5).alloc (Obj.cells #[.int .i64 lg.f, .int .i64 lg.t, .int .i64 lg.time, .int .i64 lg.cost] 115)
          have hz5 := hb6.size
          have hb7 := (hb.trans hb6).alloc (show w.heap.size + 1 ≤ w5.heap.size by omega) (Obj.cells #[.int .i64 lg.f, .int .i64 lg.t, .int .i64 lg.time, .int .i64 lg.cost] 115)
          go_wp2_with (at_builtin; refine wpList_append_el (enc := hopEnc) rfl (.tmp 59) (.tmp 63) 119 rfl (w.heap.size + 1) 153 i0 _ 2 16 Try.underlying119 hi hz0 hz1 hz2 rfl (by decide) _ acc2 ⟨j, y⟩ rfl hown5 _ rfl _ (by simp) rfl rfl hop_one (by omega) (by decide) (by simp; omega) ?_; intro v' w6 hown6 hb8)
          go_roundw
          case rel => exact ⟨j + 1, acc2 ++ [⟨j, y⟩], by omega, by go_num, Lib.hid (by rw [← HI2.out, outsAt_yes HB.out]; simp), hown6, hb7.trans hb8⟩
          case measure => simp [intOf]; omega

set_option maxHeartbeats 400000 in
theorem out_any (A A' : Option Addr) (c c' : Nat) (g : GraphD) (v t : Int) (w : World) (hG : GraphAt w A c A' c' g) :
    Calls Try.prog 95 #[gV A c A' c' g, .int .i64 v, .int .i64 t] w (HopsOut (outR g v t) (placeErr g v t) w) := by
  by_cases h0 : placeErr g v t = 0
  · have e1 : outR g v t = outs g v t := by simp [outR, h0]
    rw [e1, h0]
    exact out_main A A' c c' g v t w hG h0
  have e1 : outR g v t = [] := by simp [outR, h0]
  have E1 := Lib.hid e1
  have hn := neq_of' h0
  clear h0 e1
  go_enter Try.func95, Try.ntmps95
  go_wp2_with fail
  refine (checkPlace_any _ _ _ _ g v t _ (hG.ext (by go_grown))).mono ?_
  rintro e w1 ⟨rfl, hb1⟩
  have hb2 : Below w.heap.size w w1 := ext_trans (by go_grown) hb1
  go_wp2_with fail
  go_ret2
  rw [E1.out]
  exact ⟨none, 0, rfl, SlAt.nil, by simp, hb2⟩
end Go.Proofs.Ytcfachfldanddaa
/- Blocks that hold a list of hops: how they are made, read, written; which hop one has come by. -/
namespace Go.Proofs.Ytcfachfldanddaa
open Go.RowKit

def HRow (w : World) (b : Nat) (hs : List HopD) : Prop := ∃ cs, Blk w b 153 cs ∧ ∀ k h, hs[k]? = some h → cs[k * 2]? = some (.int .i64 h.edge) ∧ cs[k * 2 + 1]? = some (.int .i64 h.depart)
theorem made_two (z : Value) (n : Nat) : madeCells #[z, z] n = (List.replicate n z).toArray := by
  apply Array.toList_inj.1
  apply List.ext_getElem?
  intro j
  by_cases hj : j < n
  · have h2 : j % 2 = 0 ∨ j % 2 = 1 := by omega
    rcases h2 with h2 | h2 <;> simp [madeCells, hj, h2]
  · simp [madeCells, hj]
section
variable {w w' : World} {b : Nat} {hs : List HopD}
theorem HRow.made {n : Nat} (hb : b = w.heap.size) : HRow (w.alloc (.cells (madeCells #[.int .i64 0, .int .i64 0] (n * 2)) 153)) b (List.replicate n ⟨0, 0⟩) := by
  refine ⟨_, Blk.new_ hb, fun k h hk => ?_⟩
  have hlt := lt_of_get hk
  simp only [List.length_replicate] at hlt
  rw [List.getElem?_replicate, if_pos hlt] at hk
  obtain rfl : (⟨0, 0⟩ : HopD) = h := by simpa using hk
  rw [made_two]
  constructor
  · rw [List.getElem?_toArray, List.getElem?_replicate, if_pos (by omega)]
  · rw [List.getElem?_toArray, List.getElem?_replicate, if_pos (by omega)]
theorem HRow.lt (h : HRow w b hs) : b < w.heap.size := by obtain ⟨cs, h, _⟩ := h; exact h.lt
theorem HRow.frozen (h : HRow w b hs) (i : Nat) : w.frozen? ⟨b, i, none⟩ = false := by obtain ⟨cs, h, _⟩ := h; exact h.frozen i
theorem HRow.cell (h : HRow w b hs) {k : Nat} {x : HopD} (hk : hs[k]? = some x) : w.cell? ⟨b, k * 2, none⟩ = some (.int .i64 x.edge) ∧ w.cell? ⟨b, k * 2 + 1, none⟩ = some (.int .i64 x.depart) := by
  obtain ⟨cs, h, hc⟩ := h
  rw [h.cell, h.cell]
  exact hc k x hk
theorem HRow.ext (h : HRow w b hs) (hb : Below w.heap.size w w') : HRow w' b hs := by obtain ⟨cs, h, hc⟩ := h; exact ⟨cs, h.ext hb, hc⟩
theorem HRow.alloc (h : HRow w b hs) (o : Obj) : HRow (w.alloc o) b hs := by obtain ⟨cs, h, hc⟩ := h; exact ⟨cs, h.alloc o, hc⟩
theorem HRow.drew (h : HRow w b hs) : HRow w.drew b hs := h
theorem HRow.drewN (h : HRow w b hs) (n : Nat) : HRow (w.drewN n) b hs := h
theorem HRow.far (h : HRow w b hs) {p : Addr} (hp : b ≠ p.block) (u : Value) : HRow (w.setCell p u) b hs := by obtain ⟨cs, h, hc⟩ := h; exact ⟨cs, h.far hp u, hc⟩
theorem HRow.set (h : HRow w b hs) (k : Nat) (x : HopD) (hk : k < hs.length) : HRow ((w.setCell ⟨b, k * 2, none⟩ (.int .i64 x.edge)).setCell ⟨b, k * 2 + 1, none⟩ (.int .i64 x.depart)) b (hs.set k x) := by
  obtain ⟨cs, h, hc⟩ := h
  obtain ⟨y, hy⟩ := get_lt hk
  have h1 := hc k y hy
  have hz : k * 2 + 1 < cs.size := by
    refine Classical.byContradiction fun hn => ?_
    have h2 := h1.2
    rw [Array.getElem?_eq_none (by omega)] at h2
    simp at h2
  refine ⟨_, (h.set_ _ _).set_ _ _, fun i z hi => ?_⟩
  by_cases e : k = i
  · subst e
    rw [List.getElem?_set_self hk] at hi
    obtain rfl : x = z := by simpa using hi
    constructor
    · rw [Array.getElem?_setIfInBounds_ne (by omega), Array.getElem?_setIfInBounds_self_of_lt (by omega)]
    · rw [Array.getElem?_setIfInBounds_self_of_lt (by simp; omega)]
  · rw [List.getElem?_set_ne e] at hi
    have h2 := hc i z hi
    constructor
    · rw [Array.getElem?_setIfInBounds_ne (by omega), Array.getElem?_setIfInBounds_ne (by omega)]; exact h2.1
    · rw [Array.getElem?_setIfInBounds_ne (by omega), Array.getElem?_setIfInBounds_ne (by omega)]; exact h2.2
theorem HRow.slAt (h : HRow w b hs) (hi : ∀ x, x ∈ hs → I64 x.edge ∧ I64 x.depart) : SlAt RHop 2 w (some ⟨b, 0, none⟩) hs := by
  refine ⟨b, 0, fun i x hx => ⟨rfl, h.lt, ?_⟩⟩
  have h2 := h.cell hx
  have h3 := hi x (List.mem_of_getElem? hx)
  refine ⟨⟨?_, ?_⟩, h3⟩ <;> (unfold cellIs; rw [Nat.zero_add])
  · exact h2.1
  · exact h2.2
end
theorem make_hops (n : Nat) (h : n ≤ 1000000) (w : World) : (Instr.makeSlice 119 (.int .i64 (n : Int)) (.int .i64 (n : Int))).run Try.prog w = .ok (.slice (some ⟨w.heap.size, 0, none⟩) n n) (w.alloc (.cells (madeCells #[.int .i64 0, .int .i64 0] (n * 2)) 153)) := by
  obtain ⟨i, hi, hzz⟩ := Option.map_eq_some_iff.1 info_hop
  simp only [Prod.mk.injEq] at hzz
  obtain ⟨hz, hs, hb⟩ := hzz
  have hr := run_make (P := Try.prog) w 119 153 i _ Try.underlying119 hi hz .i64 .i64 n n (by omega) (Int.le_refl _) (by rw [hb]; omega) (by omega)
  simp only [Int.toNat_natCast, hs] at hr
  exact hr

/-- By which hop one has come to each vertex. -/
structure HopsOk (g : GraphD) (v t : Int) (l : List Int) (hs : List HopD) (done : Nat → Bool) : Prop where
  len : hs.length = g.lives.length
  small : ∀ h, h ∈ hs → 0 ≤ h.edge ∧ h.edge ≤ 30 ∧ 0 ≤ h.depart ∧ h.depart ≤ 100
  come : ∀ k, k < g.lives.length → gi l k < Never → ((k : Int) = v ∧ gi l k = t ∧ aliveB g v t = true) ∨
    ∃ x h lg, hs[k]? = some h ∧ g.edges[h.edge.toNat]? = some x ∧ x.b = (k : Int) ∧ done x.a.toNat = true ∧ gi l x.a.toNat ≤ h.depart ∧ arrive g x h.depart = some (lg, gi l k)
section
variable {g : GraphD} {v t : Int} {l : List Int} {hs : List HopD} {done done' : Nat → Bool}
theorem HopsOk.start : HopsOk g v t (startE g v t) (List.replicate g.lives.length ⟨0, 0⟩) done :=
  ⟨by simp, fun h hm => by obtain ⟨_, rfl⟩ := List.mem_replicate.1 hm; simp, fun k hk hf => by
    rw [startE_val hk] at hf ⊢
    split at hf
    · rename_i hp
      exact .inl ⟨hp.2, by rw [if_pos hp], hp.1⟩
    · omega⟩
theorem HopsOk.mono (h : HopsOk g v t l hs done) (hd : ∀ u, done u = true → done' u = true) : HopsOk g v t l hs done' :=
  ⟨h.len, h.small, fun k hk hf => (h.come k hk hf).imp id fun ⟨x, y, lg, h1, h2, h3, h4, h5⟩ => ⟨x, y, lg, h1, h2, h3, hd _ h4, h5⟩⟩
theorem HopsOk.step (hV : Valid g) (h : HopsOk g v t l hs done) (hl : l.length = g.lives.length) {x : EdgeD} {j : Nat} (hx : g.edges[j]? = some x) {d to : Int} (hf : first g x (gi l x.a.toNat) = some (d, to)) (_ : 0 ≤ gi l x.a.toNat)
    (hlt : to < gi l x.b.toNat) (hda : done x.a.toNat = true) (hle : ∀ u, done u = true → gi l u ≤ gi l x.a.toNat) : HopsOk g v t (l.set x.b.toNat to) (hs.set x.b.toNat ⟨j, d⟩) done := by
  have ho := hV.edges x (List.mem_of_getElem? hx)
  have h0 := ho.b0; have h1 := ho.b1; have h2 := ho.a0; have h3 := ho.a1
  obtain ⟨f1, ⟨lg, f2⟩, _⟩ := first_some hf
  have f3 := arrive_late hV ho f2
  have hj := lt_of_get hx
  have hne := hV.ne
  have hb : done x.b.toNat = false := by
    cases hb : done x.b.toNat with
    | false => rfl
    | true => have := hle _ hb; omega
  have ha : ¬ x.a.toNat = x.b.toNat := fun e => by rw [e, hb] at hda; simp at hda
  have e0 : gi (l.set x.b.toNat to) = upd (gi l) x.b.toNat to := gi_set (by omega) to
  refine ⟨by simp [h.len], fun y hy => ?_, fun k hk hn => ?_⟩
  · rcases List.mem_or_eq_of_mem_set hy with hy | rfl
    · exact h.small y hy
    · simp only; omega
  · rw [e0] at hn ⊢
    by_cases e : k = x.b.toNat
    · right
      refine ⟨x, ⟨j, d⟩, lg, by rw [e, List.getElem?_set_self (by rw [h.len]; omega)], by simpa using hx, by omega, hda, ?_, ?_⟩
      · rw [upd_ne _ _ ha]; exact f1
      · rw [e, upd_at]; exact f2
    · rw [upd_ne _ _ e] at hn ⊢
      rcases h.come k hk hn with hc | ⟨y, z, lg', c1, c2, c3, c4, c5, c6⟩
      · exact .inl hc
      · right
        have hya : ¬ y.a.toNat = x.b.toNat := fun e => by rw [e, hb] at c4; simp at c4
        exact ⟨y, z, lg', by rw [List.getElem?_set_ne (fun h => e h.symm)]; exact c1, c2, c3, c4, by rw [upd_ne _ _ hya]; exact c5, c6⟩
end
end Go.Proofs.Ytcfachfldanddaa
/- The walks of the first and of the last hop along an edge. -/
namespace Go.Proofs.Ytcfachfldanddaa
open Go.RowKit

theorem arrive_yes {A A' L : Option Addr} {c c' cl : Nat} {g : GraphD} {x : EdgeD} {t to : Int} {l : LegD} (w : World) (hG : GraphAt w A c A' c' g) (hV : Valid g) (hx : EdgeOk g x) (hL : SlAt RLeg 4 w L x.legs) (hl : x.legs.length ≤ maxLen) (ht : I64 t) (h : arrive g x t = some (l, to)) :
    Calls Try.prog 121 #[gV A c A' c' g, edgeV L cl x, .int .i64 t] w fun e w' => e = .returned (.tuple #[legV l, .int .i64 to, .bool true]) ∧ Below w.heap.size w w' :=
  (arrive_any A A' L c c' cl g x t w hG hV hx hL hl ht).mono fun e w' ⟨he, hb⟩ => ⟨by rw [he, h]; rfl, hb⟩
theorem arrive_not {A A' L : Option Addr} {c c' cl : Nat} {g : GraphD} {x : EdgeD} {t : Int} (w : World) (hG : GraphAt w A c A' c' g) (hV : Valid g) (hx : EdgeOk g x) (hL : SlAt RLeg 4 w L x.legs) (hl : x.legs.length ≤ maxLen) (ht : I64 t) (h : arrive g x t = none) :
    Calls Try.prog 121 #[gV A c A' c' g, edgeV L cl x, .int .i64 t] w fun e w' => e = .returned (.tuple #[legV ⟨0, 0, 0, 0⟩, .int .i64 0, .bool false]) ∧ Below w.heap.size w w' :=
  (arrive_any A A' L c c' cl g x t w hG hV hx hL hl ht).mono fun e w' ⟨he, hb⟩ => ⟨by rw [he, h]; rfl, hb⟩
abbrev edgeC (L : Option Addr) (cl : Nat) (x : EdgeD) : Array Value := #[.int .i64 x.a, .int .i64 x.b, .slice L x.legs.length cl]
theorem results3 {fn : Func} {t u v : Tmp} (h : fn.results = #[.tmp t, .tmp u, .tmp v]) (tmps : Array Value) (P : Program) (w : World) :
    (results fn tmps).run P w = .ok (.tuple #[tmps.getD t undef, tmps.getD u undef, tmps.getD v undef]) w := by simp [results, h]
/-- The three results of first. -/
def firstR (o : Option (Int × Int)) : Value := match o with
  | some p => .tuple #[.int .i64 p.1, .int .i64 p.2, .bool true]
  | none => .tuple #[.int .i64 0, .int .i64 0, .bool false]
/-- The three variables of the loop: what is best, when one leaves, whether there is one. -/
def FState (o : Option (Int × Int)) (b d f : Value) : Prop := match o with
  | some p => b = .int .i64 p.2 ∧ d = .int .i64 p.1 ∧ f = .bool true
  | none => b = .int .i64 0 ∧ d = .int .i64 0 ∧ f = .bool false
theorem firstL_end {g : GraphD} {x : EdgeD} {d : Int} {o : Option (Int × Int)} {n : Nat} (h : n = 0) : firstL g x n d o = o := by subst h; rfl
theorem firstL_go {g : GraphD} {x : EdgeD} {d : Int} {o : Option (Int × Int)} {n : Nat} (h : 0 < n) : firstL g x n d o = firstL g x (n - 1) (d + 1) (fstep g x o d) := by
  cases n with
  | zero => omega
  | succ n => rfl

set_option maxRecDepth 100000 in
set_option maxHeartbeats 4000000 in
theorem first_any (A A' L : Option Addr) (c c' cl : Nat) (g : GraphD) (x : EdgeD) (t : Int) (w : World) (hG : GraphAt w A c A' c' g) (hV : Valid g) (hx : EdgeOk g x) (hL : SlAt RLeg 4 w L x.legs) (hl : x.legs.length ≤ maxLen) (ht0 : 0 ≤ t) (ht1 : t ≤ 100) :
    Calls Try.prog 122 #[gV A c A' c' g, edgeV L cl x, .int .i64 t] w fun e w' => e = .returned (firstR (first g x t)) ∧ Below w.heap.size w w' := by
  have hh1 := hV.h1
  have hh0 := hV.h0
  go_enter Try.func122, Try.ntmps122
  go_wp2_with fail
  go_loopw [9, 10, 11, 12] (fun vb vd vf vt wr => ∃ (d : Int) (o : Option (Int × Int)), t ≤ d ∧ d ≤ 100 ∧ vt = .int .i64 d ∧ Hid (FState o vb vd vf) ∧ Hid (firstL g x (g.h - d).toNat d o = first g x t) ∧ Hid (∀ p q, o = some (p, q) → p ≤ 100 ∧ q ≤ 100) ∧
      Blk wr w.heap.size 78 (gC A c A' c' g) ∧ Blk wr (w.heap.size + 1) 118 (edgeC L cl x) ∧ Below w.heap.size w wr)
    (fun _ _ _ vt _ => (100 - intOf vt).toNat)
  case atStart => exact ⟨t, none, Int.le_refl _, ht1, rfl, Lib.hid ⟨rfl, rfl, rfl⟩, Lib.hid rfl, Lib.hid (fun p q h => by simp at h), (Blk.new _ _ _).alloc _, Blk.new_ (by simp), by go_grown⟩
  case round =>
    obtain ⟨d, o, hd0, hd1, rfl, HS, HF, HO, B0, B1, hb⟩ := hrel
    obtain ⟨c1, c2, c3⟩ := B0.facts
    obtain ⟨e1, e2, e3⟩ := B1.facts
    by_cases hlt : d < g.h
    case neg =>
      have HE : Hid (o = first g x t) := Lib.hid ((firstL_end (by omega)).symm.trans HF.out)
      cases o with
      | none =>
        obtain ⟨rfl, rfl, rfl⟩ := HS.out
        go_wp2_with fail
        refine bodyPost_ret (results3 rfl _ _ _) rfl ?_
        exact ⟨by rw [← HE.out]; rfl, hb⟩
      | some p =>
        obtain ⟨p, q⟩ := p
        obtain ⟨rfl, rfl, rfl⟩ := HS.out
        go_wp2_with fail
        refine bodyPost_ret (results3 rfl _ _ _) rfl ?_
        exact ⟨by rw [← HE.out]; rfl, hb⟩
    have HN : Hid (firstL g x (g.h - (d + 1)).toNat (d + 1) (fstep g x o d) = first g x t) := Lib.hid (by
      rw [← HF.out, firstL_go (n := (g.h - d).toNat) (by omega), show (g.h - d).toNat - 1 = (g.h - (d + 1)).toNat by omega])
    have hw1 : IntKind.i64.wrap (d + 1) = d + 1 := IntWalk.i64_in _ (by omega)
    clear HF
    cases ha : arrive g x d with
    | none =>
      have HA := Lib.hid ha
      rw [fstep_no ha] at HN
      clear ha
      cases o with
      | none =>
        obtain ⟨rfl, rfl, rfl⟩ := HS.out
        go_wp2_with fail
        refine (arrive_not _ (hG.ext hb) hV hx (hL.ext RLeg.stable hb) hl ⟨by omega, by omega⟩ HA.out).mono ?_
        rintro e w1 ⟨rfl, hb1⟩
        have B0 := B0.ext hb1
        have B1 := B1.ext hb1
        have hb := ext_trans hb hb1
        go_wp2_with fail
        go_roundw
        case rel => exact ⟨d + 1, none, by omega, by omega, by go_num, HS, HN, HO, B0.alloc _, B1.alloc _, ext_alloc hb _⟩
        case measure => simp [intOf]; omega
      | some p =>
        obtain ⟨p, q⟩ := p
        obtain ⟨rfl, rfl, rfl⟩ := HS.out
        go_wp2_with fail
        refine (arrive_not _ (hG.ext hb) hV hx (hL.ext RLeg.stable hb) hl ⟨by omega, by omega⟩ HA.out).mono ?_
        rintro e w1 ⟨rfl, hb1⟩
        have B0 := B0.ext hb1
        have B1 := B1.ext hb1
        have hb := ext_trans hb hb1
        go_wp2_with fail
        go_roundw
        case rel => exact ⟨d + 1, some (p, q), by omega, by omega, by go_num, HS, HN, HO, B0.alloc _, B1.alloc _, ext_alloc hb _⟩
        case measure => simp [intOf]; omega
    | some p =>
      obtain ⟨lg, to⟩ := p
      have HA := Lib.hid ha
      have hto := arrive_late hV hx ha
      obtain ⟨hto0, hto1, hto2, hto3⟩ := hto
      cases o with
      | none =>
        rw [fstep_new ha] at HN
        clear ha
        obtain ⟨rfl, rfl, rfl⟩ := HS.out
        go_wp2_with fail
        refine (arrive_yes _ (hG.ext hb) hV hx (hL.ext RLeg.stable hb) hl ⟨by omega, by omega⟩ HA.out).mono ?_
        rintro e w1 ⟨rfl, hb1⟩
        have B0 := B0.ext hb1
        have B1 := B1.ext hb1
        have hb := ext_trans hb hb1
        go_wp2_with fail
        go_roundw
        case rel => exact ⟨d + 1, some (d, to), by omega, by omega, by go_num, Lib.hid ⟨rfl, rfl, rfl⟩, HN, Lib.hid (fun p q h => by simp only [Option.some.injEq, Prod.mk.injEq] at h; omega), B0.alloc _, B1.alloc _, ext_alloc hb _⟩
        case measure => simp [intOf]; omega
      | some p =>
        obtain ⟨p, q⟩ := p
        obtain ⟨rfl, rfl, rfl⟩ := HS.out
        by_cases hq : to < q
        case pos =>
          rw [fstep_less ha hq] at HN
          have hqd : decide (to < q) = true := by simpa using hq
          clear ha
          go_wp2_with fail
          refine (arrive_yes _ (hG.ext hb) hV hx (hL.ext RLeg.stable hb) hl ⟨by omega, by omega⟩ HA.out).mono ?_
          rintro e w1 ⟨rfl, hb1⟩
          have B0 := B0.ext hb1
          have B1 := B1.ext hb1
          have hb := ext_trans hb hb1
          go_wp2_with fail
          go_roundw
          case rel => exact ⟨d + 1, some (d, to), by omega, by omega, by go_num, Lib.hid ⟨rfl, rfl, rfl⟩, HN, Lib.hid (fun p q h => by simp only [Option.some.injEq, Prod.mk.injEq] at h; omega), B0.alloc _, B1.alloc _, ext_alloc hb _⟩
          case measure => simp [intOf]; omega
        case neg =>
          rw [fstep_more ha hq] at HN
          have hqd : decide (to < q) = false := by simpa using hq
          clear ha
          go_wp2_with fail
          refine (arrive_yes _ (hG.ext hb) hV hx (hL.ext RLeg.stable hb) hl ⟨by omega, by omega⟩ HA.out).mono ?_
          rintro e w1 ⟨rfl, hb1⟩
          have B0 := B0.ext hb1
          have B1 := B1.ext hb1
          have hb := ext_trans hb hb1
          go_wp2_with fail
          go_roundw
          case rel => exact ⟨d + 1, some (p, q), by omega, by omega, by go_num, HS, HN, HO, B0.alloc _, B1.alloc _, ext_alloc hb _⟩
          case measure => simp [intOf]; omega

end Go.Proofs.Ytcfachfldanddaa
