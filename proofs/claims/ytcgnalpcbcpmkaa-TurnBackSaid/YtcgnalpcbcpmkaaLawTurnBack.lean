/- The walk of the law TurnBack. -/
import Derived.Test.YtcgnalpcbcpmkaaTurned
import Derived.Test.YtcgnalpcbcpmkaaEarly0
import Derived.BigQuiet
namespace Go.Proofs.Ytcgnalpcbcpmkaa
open Go.RowKit

theorem rev_ok {g : GraphD} (hV : Valid g) (h : revErr g = 0) : Valid (revD g) := by
  refine rev_valid hV ?_
  refine Classical.byContradiction fun hn => ?_
  unfold revErr at h
  rw [if_pos (valid_ok hV), if_pos (by omega)] at h
  simp at h

set_option maxRecDepth 100000 in
set_option maxHeartbeats 8000000 in
theorem turnBack_calls (A A' : Option Addr) (c c' : Nat) (g : GraphD) {w : World} (hG : GraphAt w A c A' c' g) (u : Int) (_hu : I64 u) (e : Int) (_he : I64 e) :
    Calls Try.prog 25 #[gV A c A' c' g, .int .i64 u, .int .i64 e] w fun en w' => en = .returned (.bool true) ∧ Below w.heap.size w w' := by
  go_enter Try.func25, Try.ntmps25
  go_wp2_with fail
  refine (turned_any _).mono ?_
  rintro en w1 ⟨rfl, hb1⟩
  obtain ⟨B0, c1, c2, c3⟩ := (Blk.new w 28 (gC A c A' c' g)).go hb1
  have hbw : Below w.heap.size w w1 := ext_trans (by go_grown) hb1
  clear hb1
  go_wp2_with fail
  refine (early0_any _).mono ?_
  rintro en w2 ⟨rfl, hb2⟩
  obtain ⟨B0, c1, c2, c3⟩ := B0.go hb2
  have hbw := ext_trans hbw hb2
  clear hb2
  go_wp2_with fail
  refine (reverse_any _ _ _ _ g _ (hG.ext hbw)).mono ?_
  rintro en w3 ⟨R, r, R', r', rfl, hR, hb2⟩
  obtain ⟨er, her⟩ : ∃ p, revErr g = p := ⟨_, rfl⟩
  have HER := Lib.hid her
  rw [her]
  obtain ⟨gr, hgr⟩ : ∃ x, revOut g = x := ⟨_, rfl⟩
  have HGR := Lib.hid hgr
  rw [hgr] at hR ⊢
  have B0 := B0.ext hb2
  have hbw := ext_trans hbw hb2
  clear hb2 her hgr c1 c2 c3
  have B7 := Blk.new w3 28 (gC R r R' r' gr)
  have B0 := B0.alloc (Obj.cells (gC R r R' r' gr) 28)
  have hR := hR.ext (show Below w3.heap.size w3 (w3.alloc (Obj.cells (gC R r R' r' gr) 28)) by go_grown)
  have hbw := ext_alloc hbw (Obj.cells (gC R r R' r' gr) 28)
  obtain ⟨c1, c2, c3⟩ := B0.facts
  go_wp2_with fail
  refine (departures_any _ _ _ _ g u e _ (hG.ext hbw)).mono ?_
  rintro en w4 ⟨ld, A1, d1, hl1, rfl, hD, hm1, hb2⟩
  obtain ⟨p1, hp1⟩ : ∃ p, placeErr g u e = p := ⟨_, rfl⟩
  have HP1 := Lib.hid hp1
  have HL1 := Lib.hid hl1
  rw [hp1]
  have B0 := B0.ext hb2
  have B7 := B7.ext hb2
  have hR := hR.ext hb2
  have hbw := ext_trans hbw hb2
  clear hb2 hp1 hl1 c1 c2 c3
  obtain ⟨c1, c2, c3⟩ := B0.facts
  obtain ⟨f1, f2, f3⟩ := B7.facts
  by_cases h1 : er = 0
  case neg =>
    have hn : (er != 0) = true := by simp [h1]
    clear h1
    go_wp2_with fail
    go_ret
    exact ⟨rfl, hbw⟩
  subst h1
  by_cases h2 : p1 = 0
  case neg =>
    have hn : (p1 != 0) = true := by simp [h2]
    clear h2
    go_wp2_with fail
    go_ret
    exact ⟨rfl, hbw⟩
  subst h2
  obtain ⟨hV, ⟨hu0, hu1⟩, he0, he1⟩ := place_of HP1.out
  have hh1 := hV.h1
  have hn12 := hV.nl
  have HV' := Lib.hid (rev_ok hV HER.out)
  have hgr : gr = revD g := by rw [← HGR.out]; unfold revOut; rw [if_pos HER.out]
  have hrl : gr.lives.length = g.lives.length := by rw [hgr]; simp [revD]
  have HP2 : Hid (placeErr gr u (g.h - 1 - e) = 0) := Lib.hid (by
    rw [hgr]
    exact place_ok HV'.out hu0 (by simp [revD]; exact hu1) (by omega) (by show g.h - 1 - e < g.h; omega))
  have HGR2 := Lib.hid hgr
  have HRL := Lib.hid hrl
  have hw1 : IntKind.i64.wrap (g.h - 1) = g.h - 1 := IntWalk.i64_in _ (by omega)
  have hw2 : IntKind.i64.wrap (g.h - 1 - e) = g.h - 1 - e := IntWalk.i64_in _ (by omega)
  clear hgr hrl
  go_wp2_with fail
  refine (arrivals_any _ _ _ _ gr u (g.h - 1 - e) _ hR).mono ?_
  rw [HP2.out]
  rintro en w5 ⟨lx, A2, d2, hl2, rfl, hX, hm2, hb2⟩
  have HE2 := Lib.hid (arr_good HP2.out hl2)
  have HD2 := Lib.hid (dep_good HP1.out HL1.out)
  have hn1 := HD2.out.1
  have hn2 : lx.length = g.lives.length := by rw [HE2.out.1, HRL.out]
  rw [hn1, hn2]
  have HN1 := Lib.hid hn1
  have HN2 := Lib.hid hn2
  have hD := hD.ext RInt.stable hb2
  have B0 := B0.ext hb2
  have hbw := ext_trans hbw hb2
  have HK : Hid (∀ k, k < g.lives.length → gi ld k = turnT g.h (gi lx k)) := Lib.hid (fun k hk => by
    have h := HE2.out
    rw [HGR2.out] at h
    exact rev_late hV HV'.out ⟨hu0, hu1⟩ ⟨he0, he1⟩ HD2.out h hk)
  have HH : Hid (∀ k, k < g.lives.length → gi lx k < Never → 0 ≤ gi lx k ∧ gi lx k < g.h) := Lib.hid (fun k hk hn => by
    have h := HE2.out
    rw [HGR2.out] at h
    have := h.here HV'.out ⟨hu0, by simp [revD]; exact hu1, by omega, by show g.h - 1 - e < g.h; omega⟩ (k := k) (by simp [revD]; exact hk) hn
    exact ⟨this.2.2.1, this.2.2.2.1⟩)
  have HBG : Hid (∀ k, gi lx k ≤ Never) := Lib.hid (fun k => HE2.out.big (by omega) k)
  clear hn1 hn2 hl2 hb2 c1 c2 c3 f1 f2 f3
  go_wp2_with fail
  go_loopw [52] (fun x wr => ∃ k : Nat, k ≤ g.lives.length ∧ x = .int .i64 k ∧ Below w5.heap.size w5 wr) (fun x _ => g.lives.length - (intOf x).toNat)
  case atStart => exact ⟨0, Nat.zero_le _, rfl, Below.refl _ _⟩
  case round =>
    obtain ⟨k, hk, rfl, hbr⟩ := hrel
    have B0r := B0.ext hbr
    obtain ⟨c1, c2, c3⟩ := B0r.facts
    by_cases hlt : k < g.lives.length
    case neg =>
      go_wp2_with fail
      go_ret
      exact ⟨rfl, ext_trans hbw hbr⟩
    obtain ⟨b1, o1, rfl, hz1, hc1⟩ := hD.cells (by rw [HN1.out]; omega)
    obtain ⟨b2, o2, rfl, hz2, hc2⟩ := hX.cells (by rw [HN2.out]; omega)
    have k1 := cell_keep hbr (hc1 k (by rw [HN1.out]; exact hlt))
    have k2 := cell_keep hbr (hc2 k (by rw [HN2.out]; exact hlt))
    have hk1 := HK.out k hlt
    have hk2 := HH.out k hlt
    have hk3 := HBG.out k
    rw [hk1] at k1
    obtain ⟨x, hx⟩ : ∃ x, gi lx k = x := ⟨_, rfl⟩
    rw [hx] at k1 k2 hk2 hk3
    have HK2 := Lib.hid hk2
    clear hx hk1 hk2 hc1 hc2
    by_cases hxn : x = 1099511627776
    case pos =>
      subst hxn
      have e1 : turnT g.h 1099511627776 = -1 := by unfold turnT Never; simp
      rw [e1] at k1
      clear e1
      go_wp2_with fail
      try go_quiet (fail)
      try go_wp2_with fail
      go_roundw
      case rel => exact ⟨k + 1, by omega, by go_num, by first | exact hbr | exact below_drewN hbr _⟩
      case measure => simp [intOf]; omega
    case neg =>
      have hxr := HK2.out (by simp only [Never] at hk3 ⊢; omega)
      have e1 : turnT g.h x = g.h - 1 - x := by unfold turnT; rw [if_neg (by simp only [Never]; exact hxn)]
      rw [e1] at k1
      obtain ⟨hx0, hx1⟩ := hxr
      have hxe : (x == 1099511627776) = false := by simp [hxn]
      obtain ⟨y, hy⟩ : ∃ y, g.h - 1 - x = y := ⟨_, rfl⟩
      rw [hy] at k1
      have hw3 : IntKind.i64.wrap (g.h - 1 - x) = y := by rw [← hy]; exact IntWalk.i64_in _ (by omega)
      have hy0 : 0 ≤ y := by omega
      have hxm : (y == -1) = false := by simp; omega
      have hge : decide (y ≥ 0) = true := by simpa using hy0
      clear hy
      clear e1 hxn hk3
      go_wp2_with fail
      try go_quiet (fail)
      try go_wp2_with fail
      go_roundw
      case rel => exact ⟨k + 1, by omega, by go_num, by first | exact hbr | exact below_drewN hbr _⟩
      case measure => simp [intOf]; omega
end Go.Proofs.Ytcgnalpcbcpmkaa
