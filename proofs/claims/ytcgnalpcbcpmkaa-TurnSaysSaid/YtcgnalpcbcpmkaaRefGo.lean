/- The walk of the document's Go: it tells what goR tells. -/
import Derived.Test.YtcgnalpcbcpmkaaPlace
import Derived.Test.YtcgnalpcbcpmkaaSpec2
import Derived.Test.YtcgnalpcbcpmkaaKeep
namespace Go.Proofs.Ytcgnalpcbcpmkaa
open Go.RowKit

theorem lands_no_any (A A' : Option Addr) (c c' : Nat) (g : GraphD) (x : EdgeD) (i t : Int) (w : World) (hG : GraphAt w A c A' c' g) (hV : Valid g) (hi0 : 0 ≤ i) (hix : g.edges[i.toNat]? = some x) (ht : I64 t) (h : arrive g x t = none) :
    Calls Try.prog 95 #[gV A c A' c' g, .int .i64 i, .int .i64 t] w fun e w' => e = .returned (.tuple #[.int .i64 0, .int .i64 0, .bool false]) ∧ Below w.heap.size w w' :=
  (lands_any A A' c c' g x i t w hG hV hi0 hix ht).mono fun e w' ⟨he, hb⟩ => ⟨by rw [he, h]; rfl, hb⟩
theorem lands_yes_any (A A' : Option Addr) (c c' : Nat) (g : GraphD) (x : EdgeD) (i t : Int) (lg : LegD) (to : Int) (w : World) (hG : GraphAt w A c A' c' g) (hV : Valid g) (hi0 : 0 ≤ i) (hix : g.edges[i.toNat]? = some x) (ht : I64 t) (h : arrive g x t = some (lg, to)) :
    Calls Try.prog 95 #[gV A c A' c' g, .int .i64 i, .int .i64 t] w fun e w' => e = .returned (.tuple #[.int .i64 to, .int .i64 lg.cost, .bool true]) ∧ Below w.heap.size w w' :=
  (lands_any A A' c c' g x i t w hG hV hi0 hix ht).mono fun e w' ⟨he, hb⟩ => ⟨by rw [he, h]; rfl, hb⟩

/-- What the loop knows: where one is (ok), or that the list is no journey. -/
def GoInv (g : GraphD) (v t : Int) (l : List HopD) (n : Nat) (x y z : Int) (ok : Bool) : Prop :=
  (ok = true → aliveB g v t = true ∧ 0 ≤ z ∧ z ≤ 1000 * n ∧ goL g x y z (l.drop n) = goL g v t 0 l) ∧ (ok = false → goR g v t l = (0, 0, 0, 5))

set_option maxRecDepth 100000 in
set_option maxHeartbeats 2000000 in
theorem refGo_any (A A' Ah : Option Addr) (c c' ch : Nat) (g : GraphD) (v t : Int) (l : List HopD) (w : World) (hG : GraphAt w A c A' c' g) (hH : SlAt RHop 2 w Ah l) (hhl : l.length ≤ maxLen) :
    Calls Try.prog 37 #[gV A c A' c' g, .int .i64 v, .int .i64 t, .slice Ah l.length ch] w fun e w' => e = .returned (goV (goR g v t l)) ∧ Below w.heap.size w w' := by
  unfold maxLen at hhl
  by_cases h0 : placeErr g v t = 0
  case neg =>
    have H0 := Lib.hid (goR_place (l := l) h0)
    have hn := neq_of' h0
    clear h0
    go_enter Try.func37, Try.ntmps37
    go_wp2_with fail
    refine (place_any _ _ _ _ g v t _ (hG.ext (by go_grown))).mono ?_
    rintro e w1 ⟨rfl, hb1⟩
    have hb2 : Below w.heap.size w w1 := ext_trans (by go_grown) hb1
    go_wp2_with fail
    refine bodyPost_ret (results_tmp4 rfl _ _ _) rfl ?_
    exact ⟨by rw [H0.out]; rfl, hb2⟩
  obtain ⟨hV, hv, ht⟩ := place_of h0
  obtain ⟨hv0, hv1⟩ := hv
  obtain ⟨ht0, ht1⟩ := ht
  have hh := hV.h1
  have hne := hV.ne
  by_cases h500 : 500 < l.length
  · have H0 := Lib.hid (goR_large h0 h500)
    go_enter Try.func37, Try.ntmps37
    go_wp2_with fail
    refine (place_any _ _ _ _ g v t _ (hG.ext (by go_grown))).mono ?_
    rintro e w1 ⟨rfl, hb1⟩
    have hb2 : Below w.heap.size w w1 := ext_trans (by go_grown) hb1
    go_wp2_with fail
    refine bodyPost_ret (results_tmp4 rfl _ _ _) rfl ?_
    exact ⟨by rw [H0.out]; rfl, hb2⟩
  have HD := Lib.hid (fun hal => goR_dead h0 h500 hal)
  have HN := Lib.hid (fun hal h4 => goR_none h0 h500 hal h4)
  have HS := Lib.hid (fun a b c hal h4 => goR_some (a := a) (b := b) (c := c) h0 h500 hal h4)
  obtain ⟨bh, oh, hHp⟩ := hH
  go_enter Try.func37, Try.ntmps37
  go_wp2_with fail
  refine (place_any _ _ _ _ g v t _ (hG.ext (by go_grown))).mono ?_
  rintro e w1 ⟨rfl, hb1⟩
  obtain ⟨B0, c1, c2, c3⟩ := (Blk.new w 28 (gC A c A' c' g)).go hb1
  have hb2 : Below w.heap.size w w1 := ext_trans (by go_grown) hb1
  go_wp2_with fail
  refine (refAlive_any _ _ _ _ g v t _ (hG.ext hb2) hv0 hv1).mono ?_
  rintro e w2 ⟨rfl, hb3⟩
  have hb4 := ext_trans hb2 hb3
  have B0' := B0.ext hb3
  go_wp2_with fail
  clear hb3 B0 c1 c2 c3 hb1 h0
  go_loopw [8, 9, 10, 13, 14] (fun a b d o k wr => ∃ (n : Nat) (x y z : Int) (ok : Bool), n ≤ l.length ∧ k = .int .i64 n ∧ a = .int .i64 x ∧ b = .int .i64 y ∧ d = .int .i64 z ∧ o = .bool ok ∧ GoInv g v t l n x y z ok ∧ Below w.heap.size w wr ∧ Blk wr w.heap.size 28 (gC A c A' c' g))
    (fun _ _ _ _ k _ => l.length - (intOf k).toNat)
  case atStart => exact ⟨0, v, t, 0, aliveB g v t, Nat.zero_le _, rfl, rfl, rfl, rfl, rfl, ⟨fun h => ⟨h, by omega, by omega, rfl⟩, fun h => HD.out h⟩, hb4, B0'⟩
  case round =>
    clear hb4 B0' hb2
    obtain ⟨n, x, y, z, ok, hn, rfl, rfl, rfl, rfl, rfl, hI, hb, B0⟩ := hrel
    obtain ⟨b1, b2, b3⟩ := B0.facts
    cases ok
    case false =>
      have H9 := Lib.hid (hI.2 rfl)
      clear hI
      by_cases hlt : n < l.length
      all_goals
        go_wp2_with fail
        refine bodyPost_ret (results_tmp4 rfl _ _ _) rfl ?_
        exact ⟨by rw [H9.out]; rfl, hb⟩
    obtain ⟨hal, hz0, hz1, hI2⟩ := hI.1 rfl
    have HAL := Lib.hid hal
    have HI := Lib.hid hI2
    clear hI hI2 hal
    by_cases hlt : n < l.length
    case neg =>
      have hfin := Lib.hid (HS.out x y z HAL.out (HI.out.symm.trans (by rw [drop_end (by omega)]; rfl)))
      go_wp2_with fail
      refine bodyPost_ret (results_tmp4 rfl _ _ _) rfl ?_
      exact ⟨by rw [hfin.out]; rfl, hb⟩
    obtain ⟨hp, hh'⟩ := get_lt hlt
    obtain ⟨rfl, hbh, ⟨⟨x0, x1⟩, hw0, hw1⟩⟩ := hHp n hp hh'
    have y0 := x0.now hb
    have y1 := x1.now hb
    have hd := drop_cons hh'
    have HI2 : Hid (goL g x y z (hp :: l.drop (n + 1)) = goL g v t 0 l) := by rw [← hd]; exact HI
    have HF := Lib.hid (fun hx => HI2.out.symm.trans (goL_none (c := z) (r := l.drop (n + 1)) hx))
    clear hHp hd hh' HI x0 x1
    cases hin : inB hp.edge 0 ((g.edges.length : Int) - 1)
    case false =>
      have H9 := Lib.hid (HN.out HAL.out (HF.out (hopTo_far hin)))
      go_wp2_with (go_at_call 46; refine (in_any _ _ _ _).mono ?_; rintro e w' ⟨rfl, rfl⟩)
      refine bodyPost_ret (results_tmp4 rfl _ _ _) rfl ?_
      exact ⟨by rw [H9.out]; rfl, ext_alloc hb _⟩
    have hin2 := inB_iff.1 hin
    obtain ⟨he0, he1⟩ := hin2
    obtain ⟨q, hq⟩ := get_lt (show hp.edge.toNat < g.edges.length by omega)
    have HNOT := Lib.hid (fun h2 => HF.out (hopTo_not (v := x) (t := y) hin hq h2))
    have HNONE := Lib.hid (fun h3 => HF.out (hopTo_none (v := x) (t := y) hin hq h3))
    have HSOME := Lib.hid (fun to lg h2 h3 => HI2.out.symm.trans (goL_some (hopTo_some (v := x) (t := y) (to := to) (l := lg) hin hq h2 h3)))
    have HQ := Lib.hid hq
    have hqe : EdgeOk g q := hV.edges q (List.mem_of_getElem? hq)
    have hGr := hG.ext hb
    obtain ⟨be, oe, hE⟩ := hG.edges
    obtain ⟨rfl, hbe, ⟨⟨z0, z1, L, cl, z2, hl1, hl2, hL⟩, _⟩⟩ := hE _ q hq
    have k0 := z0.now hb
    have k1 := z1.now hb
    have hbe' := Nat.lt_of_lt_of_le hbe hb.size
    have kz : hp.edge ≤ 0 → wr.cell? ⟨be, oe, none⟩ = some (.int .i64 q.a) := fun hz => by
      have e : hp.edge.toNat = 0 := by omega
      rw [e] at k0
      simpa using k0
    clear hE hq z0 z1 z2
    by_cases hqa : q.a = x
    case neg =>
      have H9 := Lib.hid (HN.out HAL.out (HNOT.out fun hx => hqa hx.1))
      go_wp2_with (go_at_call 46; refine (in_any _ _ _ _).mono ?_; rintro e w' ⟨rfl, rfl⟩)
      all_goals refine bodyPost_ret (results_tmp4 rfl _ _ _) rfl ?_
      all_goals exact ⟨by rw [H9.out]; rfl, ext_alloc hb _⟩
    subst hqa
    by_cases hqd : y ≤ hp.depart
    case neg =>
      have H9 := Lib.hid (HN.out HAL.out (HNOT.out fun hx => hqd hx.2))
      have hqF : decide (y ≤ hp.depart) = false := by simp; omega
      go_wp2_with (go_at_call 46; refine (in_any _ _ _ _).mono ?_; rintro e w' ⟨rfl, rfl⟩)
      all_goals refine bodyPost_ret (results_tmp4 rfl _ _ _) rfl ?_
      all_goals exact ⟨by rw [H9.out]; rfl, ext_alloc hb _⟩
    have hqT : decide (y ≤ hp.depart) = true := by simp; omega
    have hbq : Below w.heap.size w (wr.alloc (Obj.cells #[Value.int IntKind.i64 hp.edge, Value.int IntKind.i64 hp.depart] 46)) := ext_alloc hb _
    cases har : arrive g q hp.depart with
    | none =>
      have HAR := Lib.hid har
      have H9 := Lib.hid (HN.out HAL.out (HNONE.out har))
      clear har
      go_wp2_with (go_at_call 46; refine (in_any _ _ _ _).mono ?_; rintro e w' ⟨rfl, rfl⟩)
      all_goals
        refine (lands_no_any _ _ _ _ g q hp.edge hp.depart _ (hG.ext hbq) hV he0 HQ.out hw1 HAR.out).mono ?_
        rintro e w5 ⟨rfl, hb5⟩
        obtain ⟨B1, f1, f2, f3⟩ := (B0.alloc _).go hb5
        obtain ⟨B2, f4, f5, f6⟩ := (Blk.new wr 46 _).go hb5
        have k1' := cell_keep (ext_trans (ext_alloc (Below.refl _ _) _) hb5) k1
        go_wp2_with fail
        go_roundw
        case rel => exact ⟨n + 1, q.b, 0, z, false, by omega, by go_num, rfl, rfl, by go_num, rfl, ⟨fun h => (by cases h), fun _ => H9.out⟩, ext_trans hbq hb5, B1⟩
        case measure => simp [intOf]; omega
    | some p =>
      obtain ⟨lg, to⟩ := p
      have HAR := Lib.hid har
      have H9 := Lib.hid (HSOME.out to lg ⟨rfl, hqd⟩ har)
      have ha := arrive_some har
      have hlg := hqe.legs lg ha.1
      have c0 : 0 ≤ lg.cost := by omega
      have c1 : lg.cost ≤ 1000 := by omega
      clear har ha hlg
      go_wp2_with (go_at_call 46; refine (in_any _ _ _ _).mono ?_; rintro e w' ⟨rfl, rfl⟩)
      all_goals
        refine (lands_yes_any _ _ _ _ g q hp.edge hp.depart lg to _ (hG.ext hbq) hV he0 HQ.out hw1 HAR.out).mono ?_
        rintro e w5 ⟨rfl, hb5⟩
        obtain ⟨B1, f1, f2, f3⟩ := (B0.alloc _).go hb5
        obtain ⟨B2, f4, f5, f6⟩ := (Blk.new wr 46 _).go hb5
        have k1' := cell_keep (ext_trans (ext_alloc (Below.refl _ _) _) hb5) k1
        go_wp2_with fail
        go_roundw
        case rel => exact ⟨n + 1, q.b, to, z + lg.cost, true, by omega, by go_num, rfl, rfl, rfl, rfl, ⟨fun _ => ⟨HAL.out, by omega, by omega, H9.out.symm⟩, fun h => (by cases h)⟩, ext_trans hbq hb5, B1⟩
        case measure => simp [intOf]; omega
end Go.Proofs.Ytcgnalpcbcpmkaa
