/- The walk of the law CheapFast. -/
import Derived.Test.YtcgnalpcbcpmkaaFastest
namespace Go.Proofs.Ytcgnalpcbcpmkaa
open Go.RowKit

set_option maxRecDepth 100000 in
set_option maxHeartbeats 8000000 in
theorem cheapFast_calls (A A' : Option Addr) (c c' : Nat) (g : GraphD) {w : World} (hG : GraphAt w A c A' c' g) (v : Int) (_hv : I64 v) (u : Int) (_hu : I64 u) (t : Int) (_ht : I64 t) :
    Calls Try.prog 15 #[gV A c A' c' g, .int .i64 v, .int .i64 u, .int .i64 t] w fun e w' => e = .returned (.bool true) ∧ Below w.heap.size w w' := by
  have m1 : g.lives.length ≤ 9223372036854775807 := Nat.le_trans hG.lc hG.cm
  go_enter Try.func15, Try.ntmps15
  go_wp2_with fail
  refine (pair_any _).mono ?_
  rintro e w1 ⟨Ar, cr, Ar', cr', rfl, hGr, hb1⟩
  obtain ⟨B0, c1, c2, c3⟩ := (Blk.new w 28 (gC A c A' c' g)).go hb1
  have hbw : Below w.heap.size w w1 := ext_trans (by go_grown) hb1
  clear hb1
  go_wp2_with fail
  refine (fastest_any _ _ _ _ pairG 0 1 _ hGr).mono ?_
  rintro e w2 ⟨d0, a0, er0, HF0, rfl, hb2⟩
  obtain ⟨rfl, rfl, rfl⟩ := pair_fast HF0.out
  obtain ⟨B0, c1, c2, c3⟩ := B0.go hb2
  have hbw := ext_trans hbw hb2
  clear hb2 HF0 hGr
  go_wp2_with fail
  refine (fastest_any _ _ _ _ g v u _ (hG.ext hbw)).mono ?_
  rintro e w3 ⟨d, a, er, HF, rfl, hb2⟩
  obtain ⟨B0, c1, c2, c3⟩ := B0.go hb2
  have hbw := ext_trans hbw hb2
  clear hb2
  go_wp2_with fail
  refine (arrivals_any _ _ _ _ g v t _ (hG.ext hbw)).mono ?_
  rintro e w4 ⟨l1, A1, d1, hl1, rfl, hA1, hm1, hb2⟩
  obtain ⟨p1, hp1⟩ : ∃ p, placeErr g v t = p := ⟨_, rfl⟩
  have HP1 := Lib.hid hp1
  have HL1 := Lib.hid hl1
  rw [hp1]
  obtain ⟨B0, c1, c2, c3⟩ := B0.go hb2
  have hbw := ext_trans hbw hb2
  clear hb2 hp1 hl1
  by_cases he : er = 0
  case neg =>
    have hn : (er != 0) = true := by simp [he]
    obtain ⟨rfl, rfl⟩ := HF.out.zero he
    have HE := Lib.hid he
    clear he
    by_cases h1 : p1 = 0
    case neg =>
      have hn1 : (p1 != 0) = true := by simp [h1]
      clear h1
      go_wp2_with fail
      go_ret
      exact ⟨rfl, hbw⟩
    subst h1
    have HE1 := Lib.hid (arr_good HP1.out HL1.out)
    have hn1 := HE1.out.1
    rw [hn1]
    have HN1 := Lib.hid hn1
    clear hn1
    by_cases hu0 : 0 ≤ u
    case neg =>
      have hd : decide (u < 0) = true := by simpa using hu0
      clear hu0
      go_wp2_with fail
      go_ret
      exact ⟨rfl, hbw⟩
    have hd0 : decide (u < 0) = false := by simpa using hu0
    by_cases hu1 : u < g.lives.length
    case neg =>
      have hd : decide (u ≥ (g.lives.length : Int)) = true := by simpa using hu1
      clear hu1
      go_wp2_with fail
      go_ret
      exact ⟨rfl, hbw⟩
    have hd1 : decide (u ≥ (g.lives.length : Int)) = false := by simpa using hu1
    obtain ⟨b1, o1, rfl, hz1, hcc⟩ := hA1.cells (by rw [HN1.out]; omega)
    have ku := hcc u.toNat (by rw [HN1.out]; omega)
    rw [HF.out.never HE.out HP1.out ⟨hu0, hu1⟩ HE1.out] at ku
    simp only [Never] at ku
    clear hcc
    go_wp2_with fail
    go_ret
    exact ⟨rfl, hbw⟩
  subst he
  obtain ⟨hg0, ⟨hv0, hv1⟩, ⟨hu0, hu1⟩, hB⟩ := HF.out.best rfl
  have hV := valid_of hg0
  have hh1 := hV.h1
  have ha0 := hB.a0
  have ha1 := hB.a1
  have hb0 := hB.b0
  have hb1 := hB.b1
  have HB := Lib.hid hB
  have HPA : Hid (placeErr g v a = 0) := Lib.hid (place_ok hV hv0 hv1 ha0 ha1)
  have hwr : IntKind.i64.wrap (a + d) = a + d := IntWalk.i64_in _ (by omega)
  clear hg0 hB HF
  by_cases h1 : p1 = 0
  case neg =>
    have hn1 : (p1 == 0) = false := by simp [h1]
    clear h1
    go_wp2_with fail
    refine (arrivals_any _ _ _ _ g v a _ (hG.ext hbw)).mono ?_
    rw [HPA.out]
    rintro e w5 ⟨l2, A2, d2, hl2, rfl, hA2, hm2, hb2⟩
    have HE2 := Lib.hid (arr_good HPA.out hl2)
    have hn2 := HE2.out.1
    rw [hn2]
    have HN2 := Lib.hid hn2
    have hbw := ext_trans hbw hb2
    clear hn2 hl2
    obtain ⟨b2, o2, rfl, hz2, hcc⟩ := hA2.cells (by rw [HN2.out]; omega)
    have ku := hcc u.toNat (by rw [HN2.out]; omega)
    have hval : gi l2 u.toNat = a + d := by
      obtain ⟨l, hl, he⟩ := HB.out.here
      rw [HE2.out.eq hl]; exact he
    rw [hval] at ku
    clear hcc hval
    go_wp2_with fail
    go_ret
    exact ⟨ret_bool (by simp), hbw⟩
  subst h1
  obtain ⟨_, _, ht0, ht1⟩ := place_of HP1.out
  have HE1 := Lib.hid (arr_good HP1.out HL1.out)
  have hn1 := HE1.out.1
  rw [hn1]
  have HN1 := Lib.hid hn1
  clear hn1
  obtain ⟨b1, o1, rfl, hz1, hcc⟩ := hA1.cells (by rw [HN1.out]; omega)
  have ku := hcc u.toNat (by rw [HN1.out]; omega)
  have hle := HB.out.least t l1 ht0 ht1 HE1.out
  have hx1 := HE1.out.big (by omega) u.toNat
  have hx0 := HE1.out.low hV (by omega) (k := u.toNat) (by omega)
  obtain ⟨x, hx⟩ : ∃ x, gi l1 u.toNat = x := ⟨_, rfl⟩
  rw [hx] at ku hle hx1 hx0
  simp only [Never] at hx1
  have hwx : IntKind.i64.wrap (x - t) = x - t := IntWalk.i64_in _ (by omega)
  have hd1 : decide (x - t < d) = false := by simp only [decide_eq_false_iff_not]; omega
  obtain ⟨hle1, hle2⟩ := hle
  have HLE2 := Lib.hid hle2
  clear hcc hx hle2
  by_cases hxi : x < 1099511627776
  case neg =>
    have hxd : decide (x < 1099511627776) = false := by simpa using hxi
    clear hxi
    go_wp2_with fail
    refine (arrivals_any _ _ _ _ g v a _ (hG.ext hbw)).mono ?_
    rw [HPA.out]
    rintro e w5 ⟨l2, A2, d2, hl2, rfl, hA2, hm2, hb2⟩
    have HE2 := Lib.hid (arr_good HPA.out hl2)
    have hn2 := HE2.out.1
    rw [hn2]
    have HN2 := Lib.hid hn2
    have hbw := ext_trans hbw hb2
    clear hn2 hl2
    obtain ⟨b2, o2, rfl, hz2, hcc⟩ := hA2.cells (by rw [HN2.out]; omega)
    have kw := hcc u.toNat (by rw [HN2.out]; omega)
    have hval : gi l2 u.toNat = a + d := by
      obtain ⟨l, hl, he⟩ := HB.out.here
      rw [HE2.out.eq hl]; exact he
    rw [hval] at kw
    clear hcc hval
    go_wp2_with fail
    go_ret
    exact ⟨ret_bool (by simp), hbw⟩
  have hxd : decide (x < 1099511627776) = true := by simpa using hxi
  by_cases heq : x - t = d
  case pos =>
    have hta : decide (t < a) = false := by have := HLE2.out heq; simp only [decide_eq_false_iff_not]; omega
    have heb : (x - t == d) = true := by simp [heq]
    clear heq hxi
    go_wp2_with fail
    refine (arrivals_any _ _ _ _ g v a _ (hG.ext hbw)).mono ?_
    rw [HPA.out]
    rintro e w5 ⟨l2, A2, d2, hl2, rfl, hA2, hm2, hb2⟩
    have HE2 := Lib.hid (arr_good HPA.out hl2)
    have hn2 := HE2.out.1
    rw [hn2]
    have HN2 := Lib.hid hn2
    have hbw := ext_trans hbw hb2
    clear hn2 hl2
    obtain ⟨b2, o2, rfl, hz2, hcc⟩ := hA2.cells (by rw [HN2.out]; omega)
    have kw := hcc u.toNat (by rw [HN2.out]; omega)
    have hval : gi l2 u.toNat = a + d := by
      obtain ⟨l, hl, he⟩ := HB.out.here
      rw [HE2.out.eq hl]; exact he
    rw [hval] at kw
    clear hcc hval
    go_wp2_with fail
    go_ret
    exact ⟨ret_bool (by simp), hbw⟩
  case neg =>
    have heb : (x - t == d) = false := by simp [heq]
    clear heq hxi
    go_wp2_with fail
    refine (arrivals_any _ _ _ _ g v a _ (hG.ext hbw)).mono ?_
    rw [HPA.out]
    rintro e w5 ⟨l2, A2, d2, hl2, rfl, hA2, hm2, hb2⟩
    have HE2 := Lib.hid (arr_good HPA.out hl2)
    have hn2 := HE2.out.1
    rw [hn2]
    have HN2 := Lib.hid hn2
    have hbw := ext_trans hbw hb2
    clear hn2 hl2
    obtain ⟨b2, o2, rfl, hz2, hcc⟩ := hA2.cells (by rw [HN2.out]; omega)
    have kw := hcc u.toNat (by rw [HN2.out]; omega)
    have hval : gi l2 u.toNat = a + d := by
      obtain ⟨l, hl, he⟩ := HB.out.here
      rw [HE2.out.eq hl]; exact he
    rw [hval] at kw
    clear hcc hval
    go_wp2_with fail
    go_ret
    exact ⟨ret_bool (by simp), hbw⟩
end Go.Proofs.Ytcgnalpcbcpmkaa
