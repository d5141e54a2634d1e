/- One text: LawBounds. -/
import Derived.BigQuiet
import Derived.Test.YtcgnalpcbcpmkaaBd74de75468d
import Derived.Test.YtcgnalpcbcpmkaaBdcac5cf824a
/- The walk of the law CheapBounds. -/
namespace Go.Proofs.Ytcgnalpcbcpmkaa
open Go.RowKit

theorem pair_place00 : placeErr pairG 0 0 = 0 := by decide
set_option maxRecDepth 100000 in
set_option maxHeartbeats 8000000 in
theorem cheapBounds_calls (A A' : Option Addr) (c c' : Nat) (g : GraphD) {w : World} (hG : GraphAt w A c A' c' g) (v : Int) (_hv : I64 v) (t : Int) (_ht : I64 t) :
    Calls Try.prog 30 #[gV A c A' c' g, .int .i64 v, .int .i64 t] w fun e w' => e = .returned (.bool true) ∧ Below w.heap.size w w' := by
  go_enter Try.func30, Try.ntmps30
  go_wp2_with fail
  refine (pair_any _).mono ?_
  rintro e w1 ⟨Ar, cr, Ar', cr', rfl, hGr, hb1⟩
  obtain ⟨B0, c1, c2, c3⟩ := (Blk.new w 28 (gC A c A' c' g)).go hb1
  have hbw : Below w.heap.size w w1 := ext_trans (by go_grown) hb1
  clear hb1
  go_wp2_with fail
  refine (costs_any _ _ _ _ pairG 0 0 _ hGr).mono ?_
  intro e w2 hr
  obtain ⟨l0, A0, d0, HQ, rfl, hA0, hm0, hb2⟩ := ints_good (Q := fun l => l = [0, 7]) hr pair_place00 (fun _ hl => pair_costs (costs_good pair_place00 hl))
  obtain rfl := HQ.out
  obtain ⟨B0, c1, c2, c3⟩ := B0.go hb2
  have hbw := ext_trans hbw hb2
  clear hb2 hr HQ hGr
  go_wp2_with fail
  refine (equalSame_any _ _ _ _ [0, 7] _ _ _ (hA0.ext RInt.stable (by go_grown)) (ints2_at (Blk.new_ rfl) ⟨by decide, by decide⟩ ⟨by decide, by decide⟩) (by simp [maxLen]) rfl rfl).mono ?_
  rintro e w3 ⟨rfl, hb3⟩
  have hb3 : Below w2.heap.size w2 w3 := ext_trans (by go_grown) hb3
  obtain ⟨B0, c1, c2, c3⟩ := B0.go hb3
  have hbw := ext_trans hbw hb3
  clear hb3 hA0
  go_wp2_with fail
  refine (costs_any _ _ _ _ g v t _ (hG.ext hbw)).mono ?_
  rintro e w4 ⟨l2, A2, d2, hl2, rfl, hA2, hm2, hb2⟩
  obtain ⟨B0, c1, c2, c3⟩ := B0.go hb2
  have hbw := ext_trans hbw hb2
  have HL2 := Lib.hid hl2
  clear hb2 hl2
  go_wp2_with fail
  refine (hopsum_any _ _ _ _ g v t _ (hG.ext hbw)).mono ?_
  rintro e w5 ⟨l3, A3, d3, hl3, rfl, hA3, hm3, hb2⟩
  obtain ⟨B0, c1, c2, c3⟩ := B0.go hb2
  have hbw := ext_trans hbw hb2
  have hA2 := hA2.ext RInt.stable hb2
  have HL3 := Lib.hid hl3
  clear hb2 hl3
  go_wp2_with fail
  refine (arrivals_any _ _ _ _ g v t _ (hG.ext hbw)).mono ?_
  rintro e w6 ⟨l1, A1, d1, hl1, rfl, hA1, hm1, hb2⟩
  obtain ⟨B0, c1, c2, c3⟩ := B0.go hb2
  have hbw := ext_trans hbw hb2
  have hA2 := hA2.ext RInt.stable hb2
  have hA3 := hA3.ext RInt.stable hb2
  have HL1 := Lib.hid hl1
  clear hb2 hl1
  obtain ⟨p1, hp⟩ : ∃ p, placeErr g v t = p := ⟨_, rfl⟩
  have HP1 := Lib.hid hp
  rw [hp]
  clear hp
  by_cases h1 : p1 = 0
  case neg =>
    have hn : (p1 != 0) = true := by simp [h1]
    clear h1
    go_wp2_with fail
    go_ret
    exact ⟨by simp, hbw⟩
  subst h1
  obtain ⟨hV, ⟨hv0, hv1⟩, ht0, ht1⟩ := place_of HP1.out
  have hh1 := hV.h1
  have hn12 := hV.nl
  have HE1 := Lib.hid (arr_good HP1.out HL1.out)
  have HE2 := Lib.hid (costs_good HP1.out HL2.out)
  have HE3 := Lib.hid (costs_good HP1.out HL3.out)
  have hn1 := HE1.out.1
  have hn2 := costsL_length HE2.out
  have hn3 := costsL_length HE3.out
  rw [hn1, hn2, hn3]
  have HN1 := Lib.hid hn1
  have HN2 := Lib.hid hn2
  have HN3 := Lib.hid hn3
  clear hn1 hn2 hn3
  obtain ⟨b1, o1, rfl, hz1, hx1⟩ := hA1.cells (by rw [HN1.out]; omega)
  obtain ⟨b2, o2, rfl, hz2, hx2⟩ := hA2.cells (by rw [HN2.out]; omega)
  obtain ⟨b3, o3, rfl, hz3, hx3⟩ := hA3.cells (by rw [HN3.out]; omega)
  have HX1 := Lib.hid hx1
  have HX2 := Lib.hid hx2
  have HX3 := Lib.hid hx3
  clear hx1 hx2 hx3 hA1 hA2 hA3
  go_wp2_with fail
  clear c1 c2 c3
  go_loopw [76] (fun x wr => ∃ k : Nat, k ≤ g.lives.length ∧ x = .int .i64 k ∧ Below w6.heap.size w6 wr) (fun x _ => g.lives.length - (intOf x).toNat)
  case atStart => exact ⟨0, Nat.zero_le _, rfl, Below.refl _ _⟩
  case round =>
    obtain ⟨k, hk, rfl, hb⟩ := hrel
    have hbwr := ext_trans hbw hb
    obtain ⟨c1, c2, c3⟩ := (B0.ext hb).facts
    by_cases hlt : k < g.lives.length
    case neg =>
      go_wp2_with fail
      go_ret
      exact ⟨rfl, hbwr⟩
    have y1 := cell_keep hb (HX1.out k (by rw [HN1.out]; exact hlt))
    have y2 := cell_keep hb (HX2.out k (by rw [HN2.out]; exact hlt))
    have y3 := cell_keep hb (HX3.out k (by rw [HN3.out]; exact hlt))
    have HNB2 := Lib.hid (never_both hV (light_cost hV) ⟨hv0, hv1⟩ ⟨ht0, ht1⟩ HE1.out HE2.out hlt)
    have HNB3 := Lib.hid (never_both hV light_one ⟨hv0, hv1⟩ ⟨ht0, ht1⟩ HE1.out HE3.out hlt)
    have hle1 := HE1.out.big (show t ≤ 100 by omega) k
    have hle2 := costs_le HE2.out hlt
    have hle3 := costs_le HE3.out hlt
    have HBY := Lib.hid (fun h => least_by_hops hV ⟨hv0, hv1⟩ ht0 HE2.out HE3.out hlt h)
    have HPOS : Hid (∀ h : gi l3 k < Never, 0 ≤ gi l3 k ∧ gi l3 k ≤ 1000000) := Lib.hid (fun h => by
      obtain ⟨d, hd, rfl⟩ := HE3.out
      rw [leastL_val hlt] at h ⊢
      obtain ⟨r, q1, _, q2⟩ := leastN_at h
      have q3 := hd.pos light_one (k, r)
      have q4 := hd.told hV light_one ⟨hv0, hv1⟩ ht0 (p := (k, r)) (by omega)
      have q5 := alive_time hV q4.2.2
      simp only at q4 q5
      omega)
    obtain ⟨z1, hz1'⟩ : ∃ z, gi l1 k = z := ⟨_, rfl⟩
    obtain ⟨z2, hz2'⟩ : ∃ z, gi l2 k = z := ⟨_, rfl⟩
    obtain ⟨z3, hz3'⟩ : ∃ z, gi l3 k = z := ⟨_, rfl⟩
    have HZ1 := Lib.hid hz1'
    have HZ2 := Lib.hid hz2'
    have HZ3 := Lib.hid hz3'
    rw [hz1'] at y1 HNB2 HNB3 hle1
    rw [hz2'] at y2 HNB2 hle2 HBY
    rw [hz3'] at y3 HNB3 hle3 HBY HPOS
    clear hz1' hz2' hz3'
    simp only [Never] at hle1 hle2 hle3
    by_cases hzn : z1 = 1099511627776
    case pos =>
      have e2 : z2 = 1099511627776 := by have := HNB2.out; simp only [Never] at this; omega
      have e3 : z3 = 1099511627776 := by have := HNB3.out; simp only [Never] at this; omega
      subst hzn e2 e3
      go_wp2_with fail
      go_quiet (fail)
      go_wp2_with fail
      go_roundw
      case rel => exact ⟨k + 1, by omega, by go_num, below_drewN hb _⟩
      case measure => simp [intOf]; omega
    have f1 : z1 < Never := by simp only [Never]; omega
    have f2 : z2 < Never := HNB2.out.1 f1
    have f3 : z3 < Never := HNB3.out.1 f1
    have q1 : (z1 == 1099511627776) = false := by simpa using hzn
    have q2 : (z2 == 1099511627776) = false := by simp; simp only [Never] at f2; omega
    have q3 : (z3 == 1099511627776) = false := by simp; simp only [Never] at f3; omega
    have r1 := HBY.out f3
    have r2 := HPOS.out f3
    clear hzn
    go_wp2_with fail
    go_quiet (fail)
    go_wp2_with fail
    refine (earlyWay_any _ _ _ _ g v t (k : Int) _ (hG.ext (below_drewN hbwr _))).mono ?_
    rintro e w8 ⟨hops, A4, d4, er4, hR, rfl, hA4, hm4, hb2⟩
    have K1 : er4 = 0 ∧ WayOk g v t k l1 hops := by
      rcases hR with ⟨h, _⟩ | ⟨_, a, ha, h⟩
      · exact absurd HP1.out h
      · obtain rfl := ha.eq HE1.out
        simp only [Int.toNat_natCast, HZ1.out] at h
        rcases h with ⟨h, _, h3⟩ | ⟨_, _, _, h2, h3⟩
        · exfalso; omega
        · exact ⟨h2, h3⟩
    obtain ⟨rfl, W1⟩ := K1
    obtain ⟨cc, hgo⟩ := W1.go
    rw [Int.toNat_natCast, HZ1.out] at hgo
    have HH := here_of HP1.out W1.alive
    have G1 := Lib.hid (goR_some (l := hops) HP1.out (by have := W1.len; omega) W1.alive hgo)
    have r3 := best_cost hV HE2.out HH hgo
    have r4 := best_hops hV HE3.out HH hgo
    rw [Int.toNat_natCast, HZ2.out] at r3
    rw [Int.toNat_natCast, HZ3.out] at r4
    have hbw8 := ext_trans (below_drewN hbwr nq) hb2
    have hb8 : Below w6.heap.size w6 w8 := ext_trans (below_drewN hb nq) hb2
    obtain ⟨C0, c1, c2, c3⟩ := (B0.ext hb8).go (Below.refl _ _)
    have y1 := cell_keep hb8 (HX1.out k (by rw [HN1.out]; exact hlt))
    have y2 := cell_keep hb8 (HX2.out k (by rw [HN2.out]; exact hlt))
    have y3 := cell_keep hb8 (HX3.out k (by rw [HN3.out]; exact hlt))
    rw [HZ1.out] at y1
    rw [HZ2.out] at y2
    rw [HZ3.out] at y3
    clear hb2 hR W1 hgo HH
    go_wp2_with fail
    refine (go_tuple _ _ _ _ _ _ g v t hops _ (hG.ext hbw8) hA4 hm4 G1.out).mono ?_
    rintro e w9 ⟨rfl, hb2⟩
    have hb9 := ext_trans hb8 hb2
    have y1 := cell_keep hb2 y1
    have y2 := cell_keep hb2 y2
    have y3 := cell_keep hb2 y3
    have k1 : decide (z2 > cc) = false := by simp; omega
    have k2 : decide (z3 > (hops.length : Int)) = false := by simp; omega
    have k3 : decide (z2 > z3 * 1000) = false := by simp; omega
    have hwm : IntKind.i64.wrap (z3 * 1000) = z3 * 1000 := IntWalk.i64_in _ (by omega)
    clear hb2 r1 r2 r3 r4 f1 f2 f3 hle1 hle2 hle3 c1 c2 c3
    go_wp2_with fail
    go_quiet (fail)
    go_wp2_with fail
    go_roundw
    case rel => exact ⟨k + 1, by omega, by go_num, below_drewN hb9 _⟩
    case measure => simp [intOf]; omega
end Go.Proofs.Ytcgnalpcbcpmkaa
