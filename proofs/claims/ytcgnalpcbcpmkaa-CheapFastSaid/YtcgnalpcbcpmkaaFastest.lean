/- The walk of cheap.Fastest. -/
import Derived.Test.YtcgnalpcbcpmkaaFastSpec
import Derived.Test.YtcgnalpcbcpmkaaEarly0
namespace Go.Proofs.Ytcgnalpcbcpmkaa
open Go.RowKit

def FastOut (g : GraphD) (v u : Int) (w : World) (e : Ending) (w' : World) : Prop := ∃ d a er, Hid (FastOk g v u d a er) ∧ e = .returned (.tuple #[.int .i64 d, .int .i64 a, .int .i64 er]) ∧ Below w.heap.size w w'

set_option maxRecDepth 100000 in
set_option maxHeartbeats 4000000 in
theorem fastest_any (A A' : Option Addr) (c c' : Nat) (g : GraphD) (v u : Int) (w : World) (hG : GraphAt w A c A' c' g) :
    Calls Try.prog 70 #[gV A c A' c' g, .int .i64 v, .int .i64 u] w (FastOut g v u w) := by
  have m1 : g.lives.length ≤ 9223372036854775807 := Nat.le_trans hG.lc hG.cm
  by_cases h0 : graphErr g = 0
  case neg =>
    have H0 := Lib.hid h0
    have hn : (graphErr g != 0) = true := by simp [h0]
    clear h0
    go_enter Try.func70, Try.ntmps70
    go_wp2_with fail
    refine (check_any _ _ _ _ g _ (hG.ext (by go_grown))).mono ?_
    rintro e w1 ⟨rfl, hb1⟩
    go_wp2_with fail
    refine bodyPost_ret (results3 rfl _ _ _) rfl ?_
    exact ⟨0, 0, graphErr g, Lib.hid (.bad H0.out), rfl, ext_trans (by go_grown) hb1⟩
  have H0 := Lib.hid h0
  clear h0
  by_cases hr : (0 ≤ v ∧ v < g.lives.length) ∧ 0 ≤ u ∧ u < g.lives.length
  case neg =>
    have HO := Lib.hid (FastOk.out H0.out hr)
    have hr' := hr
    by_cases a1 : v < 0
    · have hd1 : decide (v < 0) = true := by simpa using a1
      clear a1 hr hr'
      go_enter Try.func70, Try.ntmps70
      go_wp2_with fail
      refine (check_any _ _ _ _ g _ (hG.ext (by go_grown))).mono ?_
      rw [H0.out]
      rintro e w1 ⟨rfl, hb1⟩
      obtain ⟨B0, c1, c2, c3⟩ := (Blk.new w 28 (gC A c A' c' g)).go hb1
      go_wp2_with fail
      refine bodyPost_ret (results3 rfl _ _ _) rfl ?_
      exact ⟨0, 0, 4, HO, rfl, ext_trans (by go_grown) hb1⟩
    have hd1 : decide (v < 0) = false := by simpa using a1
    by_cases a2 : v ≥ (g.lives.length : Int)
    · have hd2 : decide (v ≥ (g.lives.length : Int)) = true := by simpa using a2
      clear a1 a2 hr hr'
      go_enter Try.func70, Try.ntmps70
      go_wp2_with fail
      refine (check_any _ _ _ _ g _ (hG.ext (by go_grown))).mono ?_
      rw [H0.out]
      rintro e w1 ⟨rfl, hb1⟩
      obtain ⟨B0, c1, c2, c3⟩ := (Blk.new w 28 (gC A c A' c' g)).go hb1
      go_wp2_with fail
      refine bodyPost_ret (results3 rfl _ _ _) rfl ?_
      exact ⟨0, 0, 4, HO, rfl, ext_trans (by go_grown) hb1⟩
    have hd2 : decide (v ≥ (g.lives.length : Int)) = false := by simpa using a2
    by_cases a3 : u < 0
    · have hd3 : decide (u < 0) = true := by simpa using a3
      clear a1 a2 a3 hr hr'
      go_enter Try.func70, Try.ntmps70
      go_wp2_with fail
      refine (check_any _ _ _ _ g _ (hG.ext (by go_grown))).mono ?_
      rw [H0.out]
      rintro e w1 ⟨rfl, hb1⟩
      obtain ⟨B0, c1, c2, c3⟩ := (Blk.new w 28 (gC A c A' c' g)).go hb1
      go_wp2_with fail
      refine bodyPost_ret (results3 rfl _ _ _) rfl ?_
      exact ⟨0, 0, 4, HO, rfl, ext_trans (by go_grown) hb1⟩
    have hd3 : decide (u < 0) = false := by simpa using a3
    have hd4 : decide (u ≥ (g.lives.length : Int)) = true := by simp only [decide_eq_true_eq]; omega
    clear a1 a2 a3 hr hr'
    go_enter Try.func70, Try.ntmps70
    go_wp2_with fail
    refine (check_any _ _ _ _ g _ (hG.ext (by go_grown))).mono ?_
    rw [H0.out]
    rintro e w1 ⟨rfl, hb1⟩
    obtain ⟨B0, c1, c2, c3⟩ := (Blk.new w 28 (gC A c A' c' g)).go hb1
    go_wp2_with fail
    refine bodyPost_ret (results3 rfl _ _ _) rfl ?_
    exact ⟨0, 0, 4, HO, rfl, ext_trans (by go_grown) hb1⟩
  obtain ⟨⟨hv0, hv1⟩, hu0, hu1⟩ := hr
  have hV := valid_of H0.out
  have hh0 := hV.h0
  have hh1 := hV.h1
  have hd1 : decide (v < 0) = false := by simpa using hv0
  have hd2 : decide (v ≥ (g.lives.length : Int)) = false := by simpa using hv1
  have hd3 : decide (u < 0) = false := by simpa using hu0
  have hd4 : decide (u ≥ (g.lives.length : Int)) = false := by simpa using hu1
  go_enter Try.func70, Try.ntmps70
  go_wp2_with fail
  refine (check_any _ _ _ _ g _ (hG.ext (by go_grown))).mono ?_
  rw [H0.out]
  rintro e w1 ⟨rfl, hb1⟩
  obtain ⟨B0, c1, c2, c3⟩ := (Blk.new w 28 (gC A c A' c' g)).go hb1
  have hbw : Below w.heap.size w w1 := ext_trans (by go_grown) hb1
  clear hb1
  go_wp2_with fail
  go_loopw [11, 12, 42] (fun xb xa x wr => ∃ (k : Nat) (b a : Int), k ≤ 100 ∧ (k : Int) ≤ g.h ∧ xb = .int .i64 b ∧ xa = .int .i64 a ∧ x = .int .i64 k ∧ Hid (FTried g v u k b a) ∧ Blk wr w.heap.size 28 (gC A c A' c' g) ∧ Below w.heap.size w wr)
    (fun _ _ x _ => (100 - intOf x).toNat)
  case atStart => exact ⟨0, 1099511627776, 0, by omega, by omega, rfl, rfl, rfl, Lib.hid FTried.start, B0, hbw⟩
  case round =>
    clear B0 hbw c1 c2 c3
    obtain ⟨k, b, a, hk, hkh, rfl, rfl, rfl, HF, B0, hbw⟩ := hrel
    obtain ⟨c1, c2, c3⟩ := B0.facts
    by_cases hlt : (k : Int) < g.h
    case neg =>
      have hkk : (k : Int) = g.h := by omega
      rcases HF.out with ⟨hb, ha, hno⟩ | hb
      · rw [hkk] at hno
        have HN := Lib.hid (FastOk.none H0.out ⟨hv0, hv1⟩ ⟨hu0, hu1⟩ hno)
        subst ha
        have hbe : (b == 1099511627776) = true := by rw [hb]; rfl
        clear hb hno hkk
        go_wp2_with fail
        refine bodyPost_ret (results3 rfl _ _ _) rfl ?_
        exact ⟨0, 0, 4, HN, rfl, hbw⟩
      · rw [hkk] at hb
        have HN := Lib.hid (FastOk.some H0.out ⟨hv0, hv1⟩ ⟨hu0, hu1⟩ hb)
        have hbe : (b == 1099511627776) = false := by have := hb.b1; simp; omega
        clear hb hkk
        go_wp2_with fail
        refine bodyPost_ret (results3 rfl _ _ _) rfl ?_
        exact ⟨b, a, 0, HN, rfl, hbw⟩
    have HP : Hid (placeErr g v k = 0) := Lib.hid (place_ok hV hv0 hv1 (by omega) hlt)
    have hbr : 0 ≤ b ∧ b ≤ 1099511627776 := by
      rcases HF.out with ⟨hb, _, _⟩ | hb
      · simp only [Never] at hb; omega
      · have := hb.b0; have := hb.b1; omega
    obtain ⟨hbr0, hbr1⟩ := hbr
    go_wp2_with fail
    refine (arrivals_any _ _ _ _ g v k _ (hG.ext hbw)).mono ?_
    rw [HP.out]
    rintro e w2 ⟨l, A1, d1, hl, rfl, hA1, hm1, hb2⟩
    have HE := Lib.hid (arr_good HP.out hl)
    have hn := HE.out.1
    rw [hn]
    have HN := Lib.hid hn
    have B0 := B0.ext hb2
    have hbw := ext_trans hbw hb2
    clear hl hn hb2 c1 c2 c3
    obtain ⟨b1, o1, rfl, hz1, hc1⟩ := hA1.cells (by rw [HN.out]; omega)
    have ku := hc1 u.toNat (by rw [HN.out]; omega)
    clear hc1
    obtain ⟨x, hx⟩ : ∃ x, gi l u.toNat = x := ⟨_, rfl⟩
    have hx0 : (k : Int) ≤ x := by rw [← hx]; exact HE.out.low hV (by omega) (by omega)
    have hx1 : x ≤ 1099511627776 := by rw [← hx]; exact HE.out.big (by omega) _
    rw [hx] at ku
    have HX := Lib.hid hx
    clear hx
    have hwrap : IntKind.i64.wrap (x - k) = x - k := IntWalk.i64_in _ (by omega)
    by_cases hxn : x < 1099511627776
    case neg =>
      have hxd : decide (x < 1099511627776) = false := by simpa using hxn
      have HS := Lib.hid (HF.out.skip ⟨by omega, by omega⟩ HE.out (by rw [HX.out]; simp only [Never]; omega))
      clear hxn
      go_wp2_with fail
      go_roundw
      case rel => exact ⟨k + 1, b, a, by omega, by omega, rfl, rfl, by go_num, HS, B0, hbw⟩
      case measure => simp [intOf]; omega
    have hxd : decide (x < 1099511627776) = true := by simpa using hxn
    by_cases hlb : x - k < b
    case pos =>
      have hlbd : decide (x - k < b) = true := by simpa using hlb
      have HS := Lib.hid (HF.out.take hV ⟨by omega, hlt⟩ ⟨hv0, hv1⟩ ⟨hu0, hu1⟩ HE.out HX.out hxn hlb)
      go_wp2_with fail
      go_roundw
      case rel => exact ⟨k + 1, x - k, k, by omega, by omega, rfl, rfl, by go_num, HS, B0, hbw⟩
      case measure => simp [intOf]; omega
    case neg =>
      have hlbd : decide (x - k < b) = false := by simpa using hlb
      have HS := Lib.hid (HF.out.stay ⟨by omega, by omega⟩ HE.out HX.out hxn hlb)
      go_wp2_with fail
      go_roundw
      case rel => exact ⟨k + 1, b, a, by omega, by omega, rfl, rfl, by go_num, HS, B0, hbw⟩
      case measure => simp [intOf]; omega
end Go.Proofs.Ytcgnalpcbcpmkaa
