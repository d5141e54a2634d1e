/- The walk of the law EarlyLater. -/
import Derived.Test.YtcgnalpcbcpmkaaEarly0
namespace Go.Proofs.Ytcgnalpcbcpmkaa
open Go.RowKit

theorem min_max (a b : Int) : ∃ m M : Int, (if b < a then b else a) = m ∧ (if a < b then b else a) = M ∧ m ≤ M := by
  refine ⟨_, _, rfl, rfl, ?_⟩
  split <;> split <;> omega

set_option maxRecDepth 100000 in
set_option maxHeartbeats 8000000 in
theorem earlyLater_calls (A A' : Option Addr) (c c' : Nat) (g : GraphD) {w : World} (hG : GraphAt w A c A' c' g) (v : Int) (_hv : I64 v) (a : Int) (_ha : I64 a) (b : Int) (_hb : I64 b) :
    Calls Try.prog 21 #[gV A c A' c' g, .int .i64 v, .int .i64 a, .int .i64 b] w fun e w' => e = .returned (.bool true) ∧ Below w.heap.size w w' := by
  obtain ⟨m, M, hmin, hmax, hmM⟩ := min_max a b
  go_enter Try.func21, Try.ntmps21
  go_wp2_with fail
  refine (early0_any _).mono ?_
  rintro e w1 ⟨rfl, hb1⟩
  obtain ⟨B0, c1, c2, c3⟩ := (Blk.new w 28 (gC A c A' c' g)).go hb1
  have hbw : Below w.heap.size w w1 := ext_trans (by go_grown) hb1
  clear hb1
  go_wp2_with fail
  refine (arrivals_any _ _ _ _ g v m _ (hG.ext hbw)).mono ?_
  rintro e w2 ⟨l1, A1, d1, hl1, rfl, hA1, hm1, hb2⟩
  obtain ⟨p1, hp1⟩ : ∃ p, placeErr g v m = p := ⟨_, rfl⟩
  have HP1 := Lib.hid hp1
  have HL1 := Lib.hid hl1
  rw [hp1]
  obtain ⟨B0, c1, c2, c3⟩ := B0.go hb2
  have hbw := ext_trans hbw hb2
  clear hb2 hp1 hl1
  go_wp2_with fail
  refine (arrivals_any _ _ _ _ g v M _ (hG.ext hbw)).mono ?_
  rintro e w3 ⟨l2, A2, d2, hl2, rfl, hA2, hm2, hb2⟩
  obtain ⟨p2, hp2⟩ : ∃ p, placeErr g v M = p := ⟨_, rfl⟩
  have HP2 := Lib.hid hp2
  have HL2 := Lib.hid hl2
  rw [hp2]
  obtain ⟨B0, c1, c2, c3⟩ := B0.go hb2
  have hbw := ext_trans hbw hb2
  have hA1 := hA1.ext RInt.stable hb2
  clear hb2 hp2 hl2
  by_cases h1 : p1 = 0
  case neg =>
    have hn : (p1 != 0) = true := by simp [h1]
    clear h1
    go_wp2_with fail
    go_ret
    exact ⟨rfl, hbw⟩
  subst h1
  by_cases h2 : p2 = 0
  case neg =>
    have hn : (p2 != 0) = true := by simp [h2]
    clear h2
    go_wp2_with fail
    go_ret
    exact ⟨rfl, hbw⟩
  subst h2
  obtain ⟨hV, ⟨hv0, hv1⟩, ht0, ht1⟩ := place_of HP1.out
  have hh1 := hV.h1
  have hn12 := hV.nl
  cases hal : aliveB g v m
  case false =>
    have HA := Lib.hid hal
    clear hal
    go_wp2_with fail
    refine (refAlive_any _ _ _ _ g v m _ (hG.ext hbw) hv0 hv1).mono ?_
    rw [HA.out]
    rintro e w4 ⟨rfl, hb2⟩
    go_wp2_with fail
    go_ret
    exact ⟨rfl, ext_trans hbw hb2⟩
  have HA := Lib.hid hal
  have HE1 := Lib.hid (arr_good HP1.out HL1.out)
  have HE2 := Lib.hid (arr_good HP2.out HL2.out)
  have hn1 := HE1.out.1
  have hn2 := HE2.out.1
  rw [hn1, hn2]
  have HN1 := Lib.hid hn1
  have HN2 := Lib.hid hn2
  clear hal hn1 hn2
  go_wp2_with fail
  refine (refAlive_any _ _ _ _ g v m _ (hG.ext hbw) hv0 hv1).mono ?_
  rw [HA.out]
  rintro e w4 ⟨rfl, hb2⟩
  have hbw := ext_trans hbw hb2
  have hA1 := hA1.ext RInt.stable hb2
  have hA2 := hA2.ext RInt.stable hb2
  clear hb2 B0 c1 c2 c3
  go_wp2_with fail
  go_loopw [51] (fun x wr => ∃ k : Nat, k ≤ g.lives.length ∧ x = .int .i64 k ∧ Below w4.heap.size w4 wr) (fun x _ => g.lives.length - (intOf x).toNat)
  case atStart => exact ⟨0, Nat.zero_le _, rfl, Below.refl _ _⟩
  case round =>
    obtain ⟨k, hk, rfl, hbr⟩ := hrel
    by_cases hlt : k < g.lives.length
    case neg =>
      go_wp2_with fail
      go_ret
      exact ⟨rfl, ext_trans hbw hbr⟩
    obtain ⟨b1, o1, rfl, hz1, hc1⟩ := hA1.cells (by rw [HN1.out]; omega)
    obtain ⟨b2, o2, rfl, hz2, hc2⟩ := hA2.cells (by rw [HN2.out]; omega)
    have k1 := cell_keep hbr (hc1 k (by rw [HN1.out]; exact hlt))
    have k2 := cell_keep hbr (hc2 k (by rw [HN2.out]; exact hlt))
    have hle := HE1.out.later hV HE2.out HA.out hmM (by omega) k
    obtain ⟨x, hx⟩ : ∃ x, gi l1 k = x := ⟨_, rfl⟩
    obtain ⟨y, hy⟩ : ∃ y, gi l2 k = y := ⟨_, rfl⟩
    rw [hx] at k1 hle
    rw [hy] at k2 hle
    have hd : decide (y < x) = false := by simpa using hle
    clear hx hy hc1 hc2
    go_wp2_with fail
    go_quiet (fail)
    go_wp2_with fail
    go_roundw
    case rel => exact ⟨k + 1, by omega, by go_num, below_drewN hbr _⟩
    case measure => simp [intOf]; omega
end Go.Proofs.Ytcgnalpcbcpmkaa
