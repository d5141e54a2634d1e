/- One text: LawBoth. -/
import Derived.BigQuiet
import Derived.Test.YtcgnalpcbcpmkaaBd8d0e2b6256
/- The walk of the law TopBoth. -/
namespace Go.Proofs.Ytcgnalpcbcpmkaa
open Go.RowKit

section
variable {g : GraphD} {v t u s : Int} {l d : List Int}
theorem both_mid (hV : Valid g) (hv0 : 0 ≤ v) (hv1 : v < g.lives.length) (ht0 : 0 ≤ t) (ht1 : t < g.h) (hu0 : 0 ≤ u) (hu1 : u < g.lives.length) (hs1 : s < g.h)
    (hl : EarlyL g v t l) (hd : LateL g u s d) (hb : aliveB g u s = true) {k : Nat} (hk : k < g.lives.length) (hle : gi l k ≤ gi d k) : gi l u.toNat ≤ s := by
  have hh := hV.h1
  have h1 : gi d k ≤ 100 := late_high hV (by omega) hd.2.2 k
  have hf : gi l k < Never := by simp only [Never]; omega
  have hh := hl.here hV ⟨hv0, hv1, ht0, ht1⟩ hk hf
  obtain ⟨b, hbE⟩ := early_ex hV k (gi l k) ⟨hh.2.2.1, by omega⟩
  have h2 := (back_law hV hh.1 hh.2.1 hh.2.2.1 hh.2.2.2.1 hu0 hu1 hs1 hbE hd hh.2.2.2.2 hb).2 (by simpa using hle)
  exact Int.le_trans (hl.via (by omega) (m := k) hbE u.toNat) h2
theorem both_end (hV : Valid g) (hv0 : 0 ≤ v) (hv1 : v < g.lives.length) (ht0 : 0 ≤ t) (ht1 : t < g.h) (hu0 : 0 ≤ u) (hu1 : u < g.lives.length) (hs1 : s < g.h)
    (hl : EarlyL g v t l) (hd : LateL g u s d) (ha : aliveB g v t = true) (hb : aliveB g u s = true) (hle : gi l u.toNat ≤ s) : gi l v.toNat ≤ gi d v.toNat ∧ gi l u.toNat ≤ gi d u.toNat := by
  have hh := hV.h1
  have h1 := (back_law hV hv0 hv1 ht0 ht1 hu0 hu1 hs1 hl hd ha hb).1 hle
  have h2 := hl.self hV (by omega) ⟨hv0, hv1⟩ ha
  have h3 := hd.ge hb ⟨hu0, hu1⟩
  omega
end

set_option maxRecDepth 100000 in
set_option maxHeartbeats 8000000 in
theorem topBoth_calls (A A' : Option Addr) (c c' : Nat) (g : GraphD) {w : World} (hG : GraphAt w A c A' c' g) (v : Int) (_hv : I64 v) (t : Int) (_ht : I64 t) (u : Int) (_hu : I64 u) (s : Int) (_hs : I64 s) :
    Calls Try.prog 16 #[gV A c A' c' g, .int .i64 v, .int .i64 t, .int .i64 u, .int .i64 s] w fun e w' => e = .returned (.bool true) ∧ Below w.heap.size w w' := by
  go_enter Try.func16, Try.ntmps16
  go_wp2_with fail
  refine (said_any _).mono ?_
  rintro e w1 ⟨rfl, hb1⟩
  obtain ⟨B0, c1, c2, c3⟩ := (Blk.new w 28 (gC A c A' c' g)).go hb1
  have hbw : Below w.heap.size w w1 := ext_trans (by go_grown) hb1
  clear hb1
  go_wp2_with fail
  refine (arrivals_any _ _ _ _ g v t _ (hG.ext hbw)).mono ?_
  rintro e w2 ⟨l1, A1, d1, hl1, rfl, hA1, hm1, hb2⟩
  obtain ⟨p1, hp1⟩ : ∃ p, placeErr g v t = p := ⟨_, rfl⟩
  have HP1 := Lib.hid hp1
  have HL1 := Lib.hid hl1
  rw [hp1]
  obtain ⟨B0, c1, c2, c3⟩ := B0.go hb2
  have hbw := ext_trans hbw hb2
  clear hb2 hp1 hl1
  go_wp2_with fail
  refine (departures_any _ _ _ _ g u s _ (hG.ext hbw)).mono ?_
  rintro e w3 ⟨l2, A2, d2, hl2, rfl, hA2, hm2, hb2⟩
  obtain ⟨p2, hp2⟩ : ∃ p, placeErr g u s = p := ⟨_, rfl⟩
  have HP2 := Lib.hid hp2
  have HL2 := Lib.hid hl2
  rw [hp2]
  obtain ⟨B0, c1, c2, c3⟩ := B0.go hb2
  have hbw := ext_trans hbw hb2
  have hA1 := hA1.ext RInt.stable hb2
  clear hb2 hp2 hl2
  by_cases h1 : p1 = 0
  case neg =>
    have hn : (p1 != 0) = true := by simp [h1]
    clear h1
    go_wp2_with fail
    go_ret
    exact ⟨rfl, hbw⟩
  subst h1
  by_cases h2 : p2 = 0
  case neg =>
    have hn : (p2 != 0) = true := by simp [h2]
    clear h2
    go_wp2_with fail
    go_ret
    exact ⟨rfl, hbw⟩
  subst h2
  obtain ⟨hV, ⟨hv0, hv1⟩, ht0, ht1⟩ := place_of HP1.out
  obtain ⟨_, ⟨hu0, hu1⟩, hs0, hs1⟩ := place_of HP2.out
  have hh1 := hV.h1
  have hn12 := hV.nl
  have HE1 := Lib.hid (arr_good HP1.out HL1.out)
  have HE2 := Lib.hid (dep_good HP2.out HL2.out)
  have hn1 := HE1.out.1
  have hn2 := HE2.out.1
  rw [hn1, hn2]
  have HN1 := Lib.hid hn1
  have HN2 := Lib.hid hn2
  clear hn1 hn2
  go_wp2_with fail
  refine (refAlive_any _ _ _ _ g v t _ (hG.ext hbw) hv0 hv1).mono ?_
  rintro e w4 ⟨rfl, hb2⟩
  obtain ⟨B0, c1, c2, c3⟩ := B0.go hb2
  have hbw := ext_trans hbw hb2
  have hA1 := hA1.ext RInt.stable hb2
  have hA2 := hA2.ext RInt.stable hb2
  clear hb2
  cases hal : aliveB g v t
  case false =>
    clear hal
    go_wp2_with fail
    go_ret
    exact ⟨rfl, hbw⟩
  have HA := Lib.hid hal
  clear hal
  go_wp2_with fail
  refine (refAlive_any _ _ _ _ g u s _ (hG.ext hbw) hu0 hu1).mono ?_
  rintro e w5 ⟨rfl, hb2⟩
  obtain ⟨B0, c1, c2, c3⟩ := B0.go hb2
  have hbw := ext_trans hbw hb2
  have hA1 := hA1.ext RInt.stable hb2
  have hA2 := hA2.ext RInt.stable hb2
  clear hb2
  cases hbl : aliveB g u s
  case false =>
    clear hbl
    go_wp2_with fail
    go_ret
    exact ⟨rfl, hbw⟩
  have HB := Lib.hid hbl
  clear hbl
  have HMID := Lib.hid (fun (k : Nat) (hk : k < g.lives.length) => both_mid hV hv0 hv1 ht0 ht1 hu0 hu1 hs1 HE1.out HE2.out HB.out hk)
  have HEND := Lib.hid (both_end hV hv0 hv1 ht0 ht1 hu0 hu1 hs1 HE1.out HE2.out HA.out HB.out)
  obtain ⟨vn, rfl⟩ := Int.eq_ofNat_of_zero_le hv0
  obtain ⟨un, rfl⟩ := Int.eq_ofNat_of_zero_le hu0
  simp only [Int.toNat_natCast] at HMID HEND
  obtain ⟨b1, o1, rfl, hz1, hc1⟩ := hA1.cells (by rw [HN1.out]; omega)
  obtain ⟨b2, o2, rfl, hz2, hc2⟩ := hA2.cells (by rw [HN2.out]; omega)
  have kv1 := hc1 vn (by rw [HN1.out]; omega)
  have ku1 := hc1 un (by rw [HN1.out]; omega)
  have kv2 := hc2 vn (by rw [HN2.out]; omega)
  have ku2 := hc2 un (by rw [HN2.out]; omega)
  have HC1 := Lib.hid hc1
  have HC2 := Lib.hid hc2
  clear hc1 hc2 hA1 hA2
  obtain ⟨xu, hxu⟩ : ∃ x, gi l1 un = x := ⟨_, rfl⟩
  obtain ⟨xv, hxv⟩ : ∃ x, gi l1 vn = x := ⟨_, rfl⟩
  obtain ⟨yu, hyu⟩ : ∃ x, gi l2 un = x := ⟨_, rfl⟩
  obtain ⟨yv, hyv⟩ : ∃ x, gi l2 vn = x := ⟨_, rfl⟩
  rw [hxu] at ku1 HMID HEND
  rw [hxv] at kv1 HEND
  rw [hyu] at ku2 HEND
  rw [hyv] at kv2 HEND
  clear hxu hxv hyu hyv
  obtain ⟨q, hq⟩ : ∃ q, decide (xu ≤ s) = q := ⟨_, rfl⟩
  have HQ := Lib.hid hq
  clear c1 c2 c3 B0
  have hvl : vn < g.lives.length := by omega
  have hul : un < g.lives.length := by omega
  go_wp2_with fail
  clear hq
  go_loopw [61] (fun x wr => ∃ k : Nat, k ≤ g.lives.length ∧ x = .int .i64 k ∧ Below w5.heap.size w5 wr) (fun x _ => g.lives.length - (intOf x).toNat)
  case atStart => exact ⟨0, Nat.zero_le _, rfl, Below.refl _ _⟩
  case round =>
    obtain ⟨k, hk, rfl, hb⟩ := hrel
    have hbwr := ext_trans hbw hb
    by_cases hlt : k < g.lives.length
    case pos =>
      have k1 := cell_keep hb (HC1.out k (by rw [HN1.out]; exact hlt))
      have k2 := cell_keep hb (HC2.out k (by rw [HN2.out]; exact hlt))
      have HM := Lib.hid (HMID.out k hlt)
      obtain ⟨x, hx⟩ : ∃ x, gi l1 k = x := ⟨_, rfl⟩
      obtain ⟨y, hy⟩ : ∃ y, gi l2 k = y := ⟨_, rfl⟩
      rw [hx] at k1 HM
      rw [hy] at k2 HM
      clear hx hy kv1 ku1 kv2 ku2
      by_cases hxy : x ≤ y
      case pos =>
        have hq : q = true := by rw [← HQ.out]; simpa using HM.out hxy
        have hd : decide (x ≤ y) = true := by simpa using hxy
        subst hq
        clear hxy
        go_wp2_with fail
        go_quiet (fail)
        go_wp2_with fail
        go_roundw
        case rel => exact ⟨k + 1, by omega, by go_num, below_drewN hb _⟩
        case measure => simp [intOf]; omega
      case neg =>
        have hd : decide (x ≤ y) = false := by simpa using hxy
        clear hxy
        go_wp2_with fail
        go_quiet (fail)
        go_wp2_with fail
        go_roundw
        case rel => exact ⟨k + 1, by omega, by go_num, below_drewN hb _⟩
        case measure => simp [intOf]; omega
    case neg =>
      have kv1 := cell_keep hb kv1
      have ku1 := cell_keep hb ku1
      have kv2 := cell_keep hb kv2
      have ku2 := cell_keep hb ku2
      cases q
      case false =>
        go_wp2_with fail
        go_quiet (fail)
        go_wp2
        go_ret
        exact ⟨rfl, below_drewN hbwr _⟩
      case true =>
        obtain ⟨h1, h2⟩ := HEND.out (by simpa using HQ.out)
        have hd1 : decide (xv ≤ yv) = true := by simpa using h1
        have hd2 : decide (xu ≤ yu) = true := by simpa using h2
        clear h1 h2
        go_wp2_with fail
        go_quiet (fail)
        go_wp2
        go_ret
        exact ⟨rfl, below_drewN hbwr _⟩
end Go.Proofs.Ytcgnalpcbcpmkaa
