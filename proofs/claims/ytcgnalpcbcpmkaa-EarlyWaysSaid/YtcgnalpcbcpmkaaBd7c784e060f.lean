/- Several texts in one: Fastest, LawBest. -/
import Derived.Test.YtcgnalpcbcpmkaaBd0f08d7f12b
import Derived.Test.YtcgnalpcbcpmkaaBd48cc3a8d25
import Derived.Test.YtcgnalpcbcpmkaaBdde16ed6342
/- The walk of cheap.Fastest. -/
namespace Go.Proofs.Ytcgnalpcbcpmkaa
open Go.RowKit

def FastOut (g : GraphD) (v u : Int) (w : World) (e : Ending) (w' : World) : Prop := ∃ d a er, Hid (FastOk g v u d a er) ∧ e = .returned (.tuple #[.int .i64 d, .int .i64 a, .int .i64 er]) ∧ Below w.heap.size w w'

set_option maxRecDepth 100000 in
set_option maxHeartbeats 4000000 in
theorem fastest_any (A A' : Option Addr) (c c' : Nat) (g : GraphD) (v u : Int) (w : World) (hG : GraphAt w A c A' c' g) :
    Calls Try.prog 70 #[gV A c A' c' g, .int .i64 v, .int .i64 u] w (FastOut g v u w) := by
  have m1 : g.lives.length ≤ 9223372036854775807 := Nat.le_trans hG.lc hG.cm
  by_cases h0 : graphErr g = 0
  case neg =>
    have H0 := Lib.hid h0
    have hn : (graphErr g != 0) = true := by simp [h0]
    clear h0
    go_enter Try.func70, Try.ntmps70
    go_wp2_with fail
    refine (check_any _ _ _ _ g _ (hG.ext (by go_grown))).mono ?_
    rintro e w1 ⟨rfl, hb1⟩
    go_wp2_with fail
    refine bodyPost_ret (results3 rfl _ _ _) rfl ?_
    exact ⟨0, 0, graphErr g, Lib.hid (.bad H0.out), rfl, ext_trans (by go_grown) hb1⟩
  have H0 := Lib.hid h0
  clear h0
  by_cases hr : (0 ≤ v ∧ v < g.lives.length) ∧ 0 ≤ u ∧ u < g.lives.length
  case neg =>
    have HO := Lib.hid (FastOk.out H0.out hr)
    have hr' := hr
    by_cases a1 : v < 0
    · have hd1 : decide (v < 0) = true := by simpa using a1
      clear a1 hr hr'
      go_enter Try.func70, Try.ntmps70
      go_wp2_with fail
      refine (check_any _ _ _ _ g _ (hG.ext (by go_grown))).mono ?_
      rw [H0.out]
      rintro e w1 ⟨rfl, hb1⟩
      obtain ⟨B0, c1, c2, c3⟩ := (Blk.new w 28 (gC A c A' c' g)).go hb1
      go_wp2_with fail
      refine bodyPost_ret (results3 rfl _ _ _) rfl ?_
      exact ⟨0, 0, 4, HO, rfl, ext_trans (by go_grown) hb1⟩
    have hd1 : decide (v < 0) = false := by simpa using a1
    by_cases a2 : v ≥ (g.lives.length : Int)
    · have hd2 : decide (v ≥ (g.lives.length : Int)) = true := by simpa using a2
      clear a1 a2 hr hr'
      go_enter Try.func70, Try.ntmps70
      go_wp2_with fail
      refine (check_any _ _ _ _ g _ (hG.ext (by go_grown))).mono ?_
      rw [H0.out]
      rintro e w1 ⟨rfl, hb1⟩
      obtain ⟨B0, c1, c2, c3⟩ := (Blk.new w 28 (gC A c A' c' g)).go hb1
      go_wp2_with fail
      refine bodyPost_ret (results3 rfl _ _ _) rfl ?_
      exact ⟨0, 0, 4, HO, rfl, ext_trans (by go_grown) hb1⟩
    have hd2 : decide (v ≥ (g.lives.length : Int)) = false := by simpa using a2
    by_cases a3 : u < 0
    · have hd3 : decide (u < 0) = true := by simpa using a3
      clear a1 a2 a3 hr hr'
      go_enter Try.func70, Try.ntmps70
      go_wp2_with fail
      refine (check_any _ _ _ _ g _ (hG.ext (by go_grown))).mono ?_
      rw [H0.out]
      rintro e w1 ⟨rfl, hb1⟩
      obtain ⟨B0, c1, c2, c3⟩ := (Blk.new w 28 (gC A c A' c' g)).go hb1
      go_wp2_with fail
      refine bodyPost_ret (results3 rfl _ _ _) rfl ?_
      exact ⟨0, 0, 4, HO, rfl, ext_trans (by go_grown) hb1⟩
    have hd3 : decide (u < 0) = false := by simpa using a3
    have hd4 : decide (u ≥ (g.lives.length : Int)) = true := by simp only [decide_eq_true_eq]; omega
    clear a1 a2 a3 hr hr'
    go_enter Try.func70, Try.ntmps70
    go_wp2_with fail
    refine (check_any _ _ _ _ g _ (hG.ext (by go_grown))).mono ?_
    rw [H0.out]
    rintro e w1 ⟨rfl, hb1⟩
    obtain ⟨B0, c1, c2, c3⟩ := (Blk.new w 28 (gC A c A' c' g)).go hb1
    go_wp2_with fail
    refine bodyPost_ret (results3 rfl _ _ _) rfl ?_
    exact ⟨0, 0, 4, HO, rfl, ext_trans (by go_grown) hb1⟩
  obtain ⟨⟨hv0, hv1⟩, hu0, hu1⟩ := hr
  have hV := valid_of H0.out
  have hh0 := hV.h0
  have hh1 := hV.h1
  have hd1 : decide (v < 0) = false := by simpa using hv0
  have hd2 : decide (v ≥ (g.lives.length : Int)) = false := by simpa using hv1
  have hd3 : decide (u < 0) = false := by simpa using hu0
  have hd4 : decide (u ≥ (g.lives.length : Int)) = false := by simpa using hu1
  go_enter Try.func70, Try.ntmps70
  go_wp2_with fail
  refine (check_any _ _ _ _ g _ (hG.ext (by go_grown))).mono ?_
  rw [H0.out]
  rintro e w1 ⟨rfl, hb1⟩
  obtain ⟨B0, c1, c2, c3⟩ := (Blk.new w 28 (gC A c A' c' g)).go hb1
  have hbw : Below w.heap.size w w1 := ext_trans (by go_grown) hb1
  clear hb1
  go_wp2_with fail
  go_loopw [11, 12, 42] (fun xb xa x wr => ∃ (k : Nat) (b a : Int), k ≤ 100 ∧ (k : Int) ≤ g.h ∧ xb = .int .i64 b ∧ xa = .int .i64 a ∧ x = .int .i64 k ∧ Hid (FTried g v u k b a) ∧ Blk wr w.heap.size 28 (gC A c A' c' g) ∧ Below w.heap.size w wr)
    (fun _ _ x _ => (100 - intOf x).toNat)
  case atStart => exact ⟨0, 1099511627776, 0, by omega, by omega, rfl, rfl, rfl, Lib.hid FTried.start, B0, hbw⟩
  case round =>
    clear B0 hbw c1 c2 c3
    obtain ⟨k, b, a, hk, hkh, rfl, rfl, rfl, HF, B0, hbw⟩ := hrel
    obtain ⟨c1, c2, c3⟩ := B0.facts
    by_cases hlt : (k : Int) < g.h
    case neg =>
      have hkk : (k : Int) = g.h := by omega
      rcases HF.out with ⟨hb, ha, hno⟩ | hb
      · rw [hkk] at hno
        have HN := Lib.hid (FastOk.none H0.out ⟨hv0, hv1⟩ ⟨hu0, hu1⟩ hno)
        subst ha
        have hbe : (b == 1099511627776) = true := by rw [hb]; rfl
        clear hb hno hkk
        go_wp2_with fail
        refine bodyPost_ret (results3 rfl _ _ _) rfl ?_
        exact ⟨0, 0, 4, HN, rfl, hbw⟩
      · rw [hkk] at hb
        have HN := Lib.hid (FastOk.some H0.out ⟨hv0, hv1⟩ ⟨hu0, hu1⟩ hb)
        have hbe : (b == 1099511627776) = false := by have := hb.b1; simp; omega
        clear hb hkk
        go_wp2_with fail
        refine bodyPost_ret (results3 rfl _ _ _) rfl ?_
        exact ⟨b, a, 0, HN, rfl, hbw⟩
    have HP : Hid (placeErr g v k = 0) := Lib.hid (place_ok hV hv0 hv1 (by omega) hlt)
    have hbr : 0 ≤ b ∧ b ≤ 1099511627776 := by
      rcases HF.out with ⟨hb, _, _⟩ | hb
      · simp only [Never] at hb; omega
      · have := hb.b0; have := hb.b1; omega
    obtain ⟨hbr0, hbr1⟩ := hbr
    go_wp2_with fail
    refine (arrivals_any _ _ _ _ g v k _ (hG.ext hbw)).mono ?_
    rw [HP.out]
    rintro e w2 ⟨l, A1, d1, hl, rfl, hA1, hm1, hb2⟩
    have HE := Lib.hid (arr_good HP.out hl)
    have hn := HE.out.1
    rw [hn]
    have HN := Lib.hid hn
    have B0 := B0.ext hb2
    have hbw := ext_trans hbw hb2
    clear hl hn hb2 c1 c2 c3
    obtain ⟨b1, o1, rfl, hz1, hc1⟩ := hA1.cells (by rw [HN.out]; omega)
    have ku := hc1 u.toNat (by rw [HN.out]; omega)
    clear hc1
    obtain ⟨x, hx⟩ : ∃ x, gi l u.toNat = x := ⟨_, rfl⟩
    have hx0 : (k : Int) ≤ x := by rw [← hx]; exact HE.out.low hV (by omega) (by omega)
    have hx1 : x ≤ 1099511627776 := by rw [← hx]; exact HE.out.big (by omega) _
    rw [hx] at ku
    have HX := Lib.hid hx
    clear hx
    have hwrap : IntKind.i64.wrap (x - k) = x - k := IntWalk.i64_in _ (by omega)
    by_cases hxn : x < 1099511627776
    case neg =>
      have hxd : decide (x < 1099511627776) = false := by simpa using hxn
      have HS := Lib.hid (HF.out.skip ⟨by omega, by omega⟩ HE.out (by rw [HX.out]; simp only [Never]; omega))
      clear hxn
      go_wp2_with fail
      go_roundw
      case rel => exact ⟨k + 1, b, a, by omega, by omega, rfl, rfl, by go_num, HS, B0, hbw⟩
      case measure => simp [intOf]; omega
    have hxd : decide (x < 1099511627776) = true := by simpa using hxn
    by_cases hlb : x - k < b
    case pos =>
      have hlbd : decide (x - k < b) = true := by simpa using hlb
      have HS := Lib.hid (HF.out.take hV ⟨by omega, hlt⟩ ⟨hv0, hv1⟩ ⟨hu0, hu1⟩ HE.out HX.out hxn hlb)
      go_wp2_with fail
      go_roundw
      case rel => exact ⟨k + 1, x - k, k, by omega, by omega, rfl, rfl, by go_num, HS, B0, hbw⟩
      case measure => simp [intOf]; omega
    case neg =>
      have hlbd : decide (x - k < b) = false := by simpa using hlb
      have HS := Lib.hid (HF.out.stay ⟨by omega, by omega⟩ HE.out HX.out hxn hlb)
      go_wp2_with fail
      go_roundw
      case rel => exact ⟨k + 1, b, a, by omega, by omega, rfl, rfl, by go_num, HS, B0, hbw⟩
      case measure => simp [intOf]; omega
end Go.Proofs.Ytcgnalpcbcpmkaa
/- The walk of the law TopBest. -/
namespace Go.Proofs.Ytcgnalpcbcpmkaa
open Go.RowKit

theorem costsL_len {g : GraphD} {wt : LegD → Int} {v t : Int} {l : List Int} (h : CostsL g wt v t l) : l.length = g.lives.length := by
  obtain ⟨d, _, rfl⟩ := h
  exact leastL_len g d
theorem fast_is {g : GraphD} {v t u d a er : Int} {l : List Int} (h : FastOk g v u d a er) (hp : placeErr g v t = 0) (hu : 0 ≤ u ∧ u < g.lives.length) (hl : EarlyL g v t l) (hf : gi l u.toNat < Never) : er = 0 ∧ d ≤ gi l u.toNat - t := by
  have h0 : er = 0 := Classical.byContradiction fun h0 => by have := h.never h0 hp hu hl; omega
  obtain ⟨_, _, ht0, ht1⟩ := place_of hp
  exact ⟨h0, ((h.best h0).2.2.2.least t l ht0 ht1 hl).1⟩

set_option maxRecDepth 100000 in
set_option maxHeartbeats 8000000 in
theorem topBest_calls (A A' : Option Addr) (c c' : Nat) (g : GraphD) {w : World} (hG : GraphAt w A c A' c' g) (v : Int) (_hv : I64 v) (t : Int) (_ht : I64 t) (Ap : Option Addr) (cp : Nat) (ps : List Int) (hp1 : ps.length ≤ cp) (hp2 : cp ≤ maxLen) (hPS : SlAt RInt 1 w Ap ps) :
    Calls Try.prog 29 #[gV A c A' c' g, .int .i64 v, .int .i64 t, .slice Ap ps.length cp] w fun e w' => e = .returned (.bool true) ∧ Below w.heap.size w w' := by
  go_enter Try.func29, Try.ntmps29
  go_wp2_with fail
  refine (said_any _).mono ?_
  rintro e w1 ⟨rfl, hb1⟩
  obtain ⟨B0, c1, c2, c3⟩ := (Blk.new w 28 (gC A c A' c' g)).go hb1
  have hbw : Below w.heap.size w w1 := ext_trans (by go_grown) hb1
  clear hb1
  go_wp2_with fail
  refine (arrivals_any _ _ _ _ g v t _ (hG.ext hbw)).mono ?_
  rintro e w2 ⟨l1, A1, d1, hl1, rfl, hA1, hm1, hb2⟩
  obtain ⟨B0, c1, c2, c3⟩ := B0.go hb2
  have hbw := ext_trans hbw hb2
  have HL1 := Lib.hid hl1
  clear hb2 hl1
  go_wp2_with fail
  refine (costs_any _ _ _ _ g v t _ (hG.ext hbw)).mono ?_
  rintro e w3 ⟨l2, A2, d2, hl2, rfl, hA2, hm2, hb2⟩
  obtain ⟨B0, c1, c2, c3⟩ := B0.go hb2
  have hbw := ext_trans hbw hb2
  have hA1 := hA1.ext RInt.stable hb2
  have HL2 := Lib.hid hl2
  clear hb2 hl2
  go_wp2_with fail
  refine (hopsum_any _ _ _ _ g v t _ (hG.ext hbw)).mono ?_
  rintro e w4 ⟨l3, A3, d3, hl3, rfl, hA3, hm3, hb2⟩
  obtain ⟨B0, c1, c2, c3⟩ := B0.go hb2
  have hbw := ext_trans hbw hb2
  have hA1 := hA1.ext RInt.stable hb2
  have hA2 := hA2.ext RInt.stable hb2
  have HL3 := Lib.hid hl3
  clear hb2 hl3
  obtain ⟨p1, hp⟩ : ∃ p, placeErr g v t = p := ⟨_, rfl⟩
  have HP1 := Lib.hid hp
  rw [hp]
  clear hp
  by_cases h1 : p1 = 0
  case neg =>
    have hn : (p1 != 0) = true := by simp [h1]
    clear h1
    go_wp2_with fail
    go_ret
    exact ⟨by simp, hbw⟩
  subst h1
  obtain ⟨hV, ⟨hv0, hv1⟩, ht0, ht1⟩ := place_of HP1.out
  have hh1 := hV.h1
  have hn12 := hV.nl
  have HE1 := Lib.hid (arr_good HP1.out HL1.out)
  have HE2 := Lib.hid (costs_good HP1.out HL2.out)
  have HE3 := Lib.hid (costs_good HP1.out HL3.out)
  have hn1 := HE1.out.1
  have hn2 := costsL_len HE2.out
  have hn3 := costsL_len HE3.out
  rw [hn1, hn2, hn3]
  have HN1 := Lib.hid hn1
  have HN2 := Lib.hid hn2
  have HN3 := Lib.hid hn3
  clear hn1 hn2 hn3
  go_wp2_with fail
  refine (topWalk_any _ _ _ _ _ _ g v t ps _ (hG.ext hbw) (hPS.ext RInt.stable hbw) hp1 hp2).mono ?_
  have hwlen := walkL_len (g := g) (ps.take 20) v t
  have hw20 : (walkL g v t (ps.take 20)).1.length ≤ 20 := Nat.le_trans hwlen (by rw [List.length_take]; omega)
  have HG := Lib.hid (walkL_goes (g := g) (ps.take 20) v t HP1.out)
  have HD : Hid (aliveB g v t = false → walkL g v t (ps.take 20) = ([], v, t)) := Lib.hid (walkL_notalive (ps.take 20))
  obtain ⟨wl, hwl⟩ : ∃ p, walkL g v t (ps.take 20) = p := ⟨_, rfl⟩
  rw [hwl] at hw20 HG HD ⊢
  clear hwl hwlen
  obtain ⟨hops, at1, u⟩ := wl
  simp only at hw20 HG
  rintro e w5 ⟨Ah, ch, rfl, hAh, hc1, hc2, hb2⟩
  simp only at hAh hc1 ⊢
  obtain ⟨B0, c1, c2, c3⟩ := B0.go hb2
  have hbw := ext_trans hbw hb2
  have hA1 := hA1.ext RInt.stable hb2
  have hA2 := hA2.ext RInt.stable hb2
  have hA3 := hA3.ext RInt.stable hb2
  clear hb2
  have hHm : hops.length ≤ maxLen := by unfold maxLen; omega
  cases hal : aliveB g v t
  case false =>
    have h2 := HD.out hal
    simp only [Prod.mk.injEq] at h2
    obtain ⟨rfl, rfl, rfl⟩ := h2
    have HGO := Lib.hid (goR_dead (l := []) HP1.out (by simp) hal)
    clear hal
    go_wp2_with fail
    refine (go_tuple _ _ _ _ _ _ g at1 u [] _ (hG.ext hbw) hAh (by simp) HGO.out).mono ?_
    rintro e w6 ⟨rfl, hb2⟩
    go_wp2_with fail
    go_ret
    exact ⟨by simp, ext_trans hbw hb2⟩
  case true =>
    obtain ⟨dc, hgo⟩ := HG.out
    have HH := Lib.hid (here_of HP1.out hal)
    have HGO := Lib.hid (goR_some (l := hops) HP1.out (by omega) hal hgo)
    have HGL := Lib.hid hgo
    clear hal hgo
    go_wp2_with fail
    refine (go_tuple _ _ _ _ _ _ g v t hops _ (hG.ext hbw) hAh hHm HGO.out).mono ?_
    rintro e w6 ⟨rfl, hb2⟩
    obtain ⟨B0, c1, c2, c3⟩ := B0.go hb2
    have hbw := ext_trans hbw hb2
    have hA1 := hA1.ext RInt.stable hb2
    have hA2 := hA2.ext RInt.stable hb2
    have hA3 := hA3.ext RInt.stable hb2
    clear hb2
    go_wp2_with fail
    refine (fastest_any _ _ _ _ g v at1 _ (hG.ext hbw)).mono ?_
    rintro e w7 ⟨df, af, er, HF, rfl, hb2⟩
    have hbw := ext_trans hbw hb2
    have hA1 := hA1.ext RInt.stable hb2
    have hA2 := hA2.ext RInt.stable hb2
    have hA3 := hA3.ext RInt.stable hb2
    clear hb2
    obtain ⟨k0, k1, _, _⟩ := goL_here hV hops v t 0 at1 u dc HH.out HGL.out
    obtain ⟨a0, a1, u0, u1, _⟩ := k0
    have q1 : gi l1 at1.toNat ≤ u := journey_early hV HE1.out hops v t 0 at1 u dc ht0 (by
      have := HE1.out.self hV (by omega) ⟨hv0, hv1⟩ HH.out.2.2.2.2
      omega) HGL.out
    have q2 := best_cost hV HE2.out HH.out HGL.out
    have q3 := best_hops hV HE3.out HH.out HGL.out
    obtain ⟨rfl, q4⟩ := fast_is HF.out HP1.out ⟨a0, a1⟩ HE1.out (by simp only [Never]; omega)
    obtain ⟨an, rfl⟩ := Int.eq_ofNat_of_zero_le a0
    simp only [Int.toNat_natCast] at q1 q2 q3 q4
    obtain ⟨b1, o1, rfl, hz1, hx1⟩ := hA1.cells (by rw [HN1.out]; omega)
    obtain ⟨b2, o2, rfl, hz2, hx2⟩ := hA2.cells (by rw [HN2.out]; omega)
    obtain ⟨b3, o3, rfl, hz3, hx3⟩ := hA3.cells (by rw [HN3.out]; omega)
    have y1 := hx1 an (by rw [HN1.out]; omega)
    have y2 := hx2 an (by rw [HN2.out]; omega)
    have y3 := hx3 an (by rw [HN3.out]; omega)
    clear hx1 hx2 hx3 hA1 hA2 hA3
    obtain ⟨z1, hz1'⟩ : ∃ z, gi l1 an = z := ⟨_, rfl⟩
    obtain ⟨z2, hz2'⟩ : ∃ z, gi l2 an = z := ⟨_, rfl⟩
    obtain ⟨z3, hz3'⟩ : ∃ z, gi l3 an = z := ⟨_, rfl⟩
    rw [hz1'] at y1 q1 q4
    rw [hz2'] at y2 q2
    rw [hz3'] at y3 q3
    clear hz1' hz2' hz3'
    have hal2 : an < g.lives.length := by omega
    have hwrap : IntKind.i64.wrap (u - t) = u - t := IntWalk.i64_in _ (by omega)
    have e1 : decide (z1 ≤ u) = true := by simpa using q1
    have e2 : decide (z2 ≤ dc) = true := by simpa using q2
    have e3 : decide (z3 ≤ (hops.length : Int)) = true := by simpa using q3
    have e4 : decide (df ≤ u - t) = true := by simp; omega
    clear q1 q2 q3 q4 k1
    go_wp2_with fail
    go_ret
    exact ⟨rfl, hbw⟩
end Go.Proofs.Ytcgnalpcbcpmkaa
