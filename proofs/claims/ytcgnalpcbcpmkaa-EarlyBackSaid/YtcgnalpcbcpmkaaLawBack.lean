/- The walk of the law EarlyBack. -/
import Derived.Test.YtcgnalpcbcpmkaaEarly0
namespace Go.Proofs.Ytcgnalpcbcpmkaa
open Go.RowKit

theorem back_law {g : GraphD} (hV : Valid g) {v t u s : Int} {l d : List Int} (hv0 : 0 ≤ v) (hv1 : v < g.lives.length) (ht0 : 0 ≤ t) (ht1 : t < g.h) (hu0 : 0 ≤ u) (hu1 : u < g.lives.length) (hs1 : s < g.h)
    (hl : EarlyL g v t l) (hd : LateL g u s d) (ha : aliveB g v t = true) (hb : aliveB g u s = true) : gi l u.toNat ≤ s ↔ gi d v.toNat ≥ t := by
  have hh := hV.h1
  have hvv : ((v.toNat : Nat) : Int) = v := by omega
  constructor
  · intro hle
    exact hd.reach hV ⟨hu0, hu1⟩ (by omega) hb (u := v.toNat) (by omega) ⟨ht0, by omega⟩ (by rw [hvv]; exact ha) (by rw [hvv]; exact hl) hle
  · intro hge
    rcases (hd.is hV ⟨hu0, hu1⟩ (by omega) hb (u := v.toNat) (by omega)).1 with h1 | h1
    · omega
    · obtain ⟨_, _, _, a', ha', hle⟩ := h1.earlier hV (r := t) (by rw [hvv]; exact ha) hge
      rw [hvv] at ha'
      rw [hl.eq ha']
      exact hle

set_option maxRecDepth 100000 in
set_option maxHeartbeats 8000000 in
theorem earlyBack_calls (A A' : Option Addr) (c c' : Nat) (g : GraphD) {w : World} (hG : GraphAt w A c A' c' g) (v : Int) (_hv : I64 v) (t : Int) (_ht : I64 t) (u : Int) (_hu : I64 u) (s : Int) (_hs : I64 s) :
    Calls Try.prog 23 #[gV A c A' c' g, .int .i64 v, .int .i64 t, .int .i64 u, .int .i64 s] w fun e w' => e = .returned (.bool true) ∧ Below w.heap.size w w' := by
  go_enter Try.func23, Try.ntmps23
  go_wp2_with fail
  refine (early0_any _).mono ?_
  rintro e w1 ⟨rfl, hb1⟩
  obtain ⟨B0, c1, c2, c3⟩ := (Blk.new w 28 (gC A c A' c' g)).go hb1
  have hbw : Below w.heap.size w w1 := ext_trans (by go_grown) hb1
  clear hb1
  go_wp2_with fail
  refine (arrivals_any _ _ _ _ g v t _ (hG.ext hbw)).mono ?_
  rintro e w2 ⟨l1, A1, d1, hl1, rfl, hA1, hm1, hb2⟩
  obtain ⟨p1, hp1⟩ : ∃ p, placeErr g v t = p := ⟨_, rfl⟩
  have HP1 := Lib.hid hp1
  have HL1 := Lib.hid hl1
  rw [hp1]
  obtain ⟨B0, c1, c2, c3⟩ := B0.go hb2
  have hbw := ext_trans hbw hb2
  clear hb2 hp1 hl1
  go_wp2_with fail
  refine (departures_any _ _ _ _ g u s _ (hG.ext hbw)).mono ?_
  rintro e w3 ⟨l2, A2, d2, hl2, rfl, hA2, hm2, hb2⟩
  obtain ⟨p2, hp2⟩ : ∃ p, placeErr g u s = p := ⟨_, rfl⟩
  have HP2 := Lib.hid hp2
  have HL2 := Lib.hid hl2
  rw [hp2]
  obtain ⟨B0, c1, c2, c3⟩ := B0.go hb2
  have hbw := ext_trans hbw hb2
  have hA1 := hA1.ext RInt.stable hb2
  clear hb2 hp2 hl2
  by_cases h1 : p1 = 0
  case neg =>
    have hn : (p1 != 0) = true := by simp [h1]
    clear h1
    go_wp2_with fail
    go_ret
    exact ⟨rfl, hbw⟩
  subst h1
  by_cases h2 : p2 = 0
  case neg =>
    have hn : (p2 != 0) = true := by simp [h2]
    clear h2
    go_wp2_with fail
    go_ret
    exact ⟨rfl, hbw⟩
  subst h2
  obtain ⟨hV, ⟨hv0, hv1⟩, ht0, ht1⟩ := place_of HP1.out
  obtain ⟨_, ⟨hu0, hu1⟩, hs0, hs1⟩ := place_of HP2.out
  have hh1 := hV.h1
  have hn12 := hV.nl
  have HE1 := Lib.hid (arr_good HP1.out HL1.out)
  have HE2 := Lib.hid (dep_good HP2.out HL2.out)
  have hn1 := HE1.out.1
  have hn2 := HE2.out.1
  rw [hn1, hn2]
  have HN1 := Lib.hid hn1
  have HN2 := Lib.hid hn2
  clear hn1 hn2
  obtain ⟨b1, o1, rfl, hz1, hc1⟩ := hA1.cells (by rw [HN1.out]; omega)
  obtain ⟨b2, o2, rfl, hz2, hc2⟩ := hA2.cells (by rw [HN2.out]; omega)
  have ku := hc1 u.toNat (by rw [HN1.out]; omega)
  have kv := hc2 v.toNat (by rw [HN2.out]; omega)
  clear hc1 hc2
  cases hal : aliveB g v t
  case false =>
    have HA := Lib.hid hal
    rw [HE1.out.dead hV (by omega) hal (by omega)] at ku
    clear hal
    simp only [Never] at ku
    go_wp2_with fail
    refine (refAlive_any _ _ _ _ g v t _ (hG.ext hbw) hv0 hv1).mono ?_
    rw [HA.out]
    rintro e w4 ⟨rfl, hb2⟩
    have ku := cell_keep hb2 ku
    go_wp2_with fail
    go_ret
    exact ⟨rfl, ext_trans hbw hb2⟩
  have HA := Lib.hid hal
  cases hbl : aliveB g u s
  case false =>
    have HB := Lib.hid hbl
    rw [HE2.out.dead hV hbl (by omega)] at kv
    clear hal hbl
    obtain ⟨x, hx⟩ : ∃ x, (gi l1 u.toNat == 1099511627776) = x := ⟨_, rfl⟩
    go_wp2_with fail
    refine (refAlive_any _ _ _ _ g v t _ (hG.ext hbw) hv0 hv1).mono ?_
    rw [HA.out]
    rintro e w4 ⟨rfl, hb2⟩
    have ku := cell_keep hb2 ku
    have kv := cell_keep hb2 kv
    have hbw := ext_trans hbw hb2
    have B0 := B0.ext hb2
    obtain ⟨c1, c2, c3⟩ := B0.facts
    clear hb2
    go_wp2_with fail
    refine (refAlive_any _ _ _ _ g u s _ (hG.ext hbw) hu0 hu1).mono ?_
    rw [HB.out]
    rintro e w5 ⟨rfl, hb2⟩
    have ku := cell_keep hb2 ku
    have kv := cell_keep hb2 kv
    cases x
    all_goals
      go_wp2_with fail
      go_ret
      exact ⟨rfl, ext_trans hbw hb2⟩
  have HB := Lib.hid hbl
  have HEQ := Lib.hid (back_law hV hv0 hv1 ht0 ht1 hu0 hu1 hs1 HE1.out HE2.out hal hbl)
  clear hal hbl
  obtain ⟨x, hx⟩ : ∃ x, gi l1 u.toNat = x := ⟨_, rfl⟩
  obtain ⟨y, hy⟩ : ∃ y, gi l2 v.toNat = y := ⟨_, rfl⟩
  rw [hx] at ku HEQ
  rw [hy] at kv HEQ
  obtain ⟨q, hq1⟩ : ∃ q, decide (x ≤ s) = q := ⟨_, rfl⟩
  have hq2 : decide (y ≥ t) = q := by
    rw [← hq1]
    exact decide_eq_decide.2 HEQ.out.symm
  clear hx hy
  go_wp2_with fail
  refine (refAlive_any _ _ _ _ g v t _ (hG.ext hbw) hv0 hv1).mono ?_
  rw [HA.out]
  rintro e w4 ⟨rfl, hb2⟩
  have ku := cell_keep hb2 ku
  have kv := cell_keep hb2 kv
  have hbw := ext_trans hbw hb2
  have B0 := B0.ext hb2
  obtain ⟨c1, c2, c3⟩ := B0.facts
  clear hb2
  go_wp2_with fail
  refine (refAlive_any _ _ _ _ g u s _ (hG.ext hbw) hu0 hu1).mono ?_
  rw [HB.out]
  rintro e w5 ⟨rfl, hb2⟩
  have ku := cell_keep hb2 ku
  have kv := cell_keep hb2 kv
  have hbw := ext_trans hbw hb2
  clear hb2
  go_wp2_with fail
  go_quiet (fail)
  go_wp2_with fail
  go_ret
  exact ⟨ret_bool (by simp), below_drewN hbw _⟩
end Go.Proofs.Ytcgnalpcbcpmkaa
