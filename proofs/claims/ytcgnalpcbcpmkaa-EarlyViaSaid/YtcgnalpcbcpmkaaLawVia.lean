/- The walk of the law EarlyVia. -/
import Derived.Test.YtcgnalpcbcpmkaaEarly0
namespace Go.Proofs.Ytcgnalpcbcpmkaa
open Go.RowKit

set_option maxRecDepth 100000 in
set_option maxHeartbeats 8000000 in
theorem earlyVia_calls (A A' : Option Addr) (c c' : Nat) (g : GraphD) {w : World} (hG : GraphAt w A c A' c' g) (v : Int) (_hv : I64 v) (t : Int) (_ht : I64 t) (u : Int) (_hu : I64 u) :
    Calls Try.prog 24 #[gV A c A' c' g, .int .i64 v, .int .i64 t, .int .i64 u] w fun e w' => e = .returned (.bool true) ∧ Below w.heap.size w w' := by
  go_enter Try.func24, Try.ntmps24
  go_wp2_with fail
  refine (early0_any _).mono ?_
  rintro e w1 ⟨rfl, hb1⟩
  obtain ⟨B0, c1, c2, c3⟩ := (Blk.new w 28 (gC A c A' c' g)).go hb1
  have hbw : Below w.heap.size w w1 := ext_trans (by go_grown) hb1
  clear hb1
  go_wp2_with fail
  refine (arrivals_any _ _ _ _ g v t _ (hG.ext hbw)).mono ?_
  rintro e w2 ⟨l1, A1, d1, hl1, rfl, hA1, hm1, hb2⟩
  obtain ⟨p1, hp1⟩ : ∃ p, placeErr g v t = p := ⟨_, rfl⟩
  have HP1 := Lib.hid hp1
  have HL1 := Lib.hid hl1
  rw [hp1]
  obtain ⟨B0, c1, c2, c3⟩ := B0.go hb2
  have hbw := ext_trans hbw hb2
  clear hb2 hp1 hl1
  by_cases h1 : p1 = 0
  case neg =>
    have hn : (p1 != 0) = true := by simp [h1]
    clear h1
    go_wp2_with fail
    go_ret
    exact ⟨rfl, hbw⟩
  subst h1
  obtain ⟨hV, ⟨hv0, hv1⟩, ht0, ht1⟩ := place_of HP1.out
  have hh1 := hV.h1
  have hn12 := hV.nl
  have HE1 := Lib.hid (arr_good HP1.out HL1.out)
  have hn1 := HE1.out.1
  rw [hn1]
  have HN1 := Lib.hid hn1
  clear hn1
  by_cases hu0 : 0 ≤ u
  case neg =>
    have hd : decide (u < 0) = true := by simpa using hu0
    go_wp2_with fail
    go_ret
    exact ⟨rfl, hbw⟩
  have hd0 : decide (u < 0) = false := by simpa using hu0
  by_cases hu1 : u < g.lives.length
  case neg =>
    have hd : decide (u ≥ (g.lives.length : Int)) = true := by simpa using hu1
    go_wp2_with fail
    go_ret
    exact ⟨rfl, hbw⟩
  have hd1 : decide (u ≥ (g.lives.length : Int)) = false := by simpa using hu1
  obtain ⟨b1, o1, rfl, hz1, hcc⟩ := hA1.cells (by rw [HN1.out]; omega)
  have HCC := Lib.hid hcc
  have ku := hcc u.toNat (by rw [HN1.out]; omega)
  obtain ⟨s, hs⟩ : ∃ s, gi l1 u.toNat = s := ⟨_, rfl⟩
  rw [hs] at ku
  have HS := Lib.hid hs
  clear hcc hs
  by_cases hsn : s = 1099511627776
  case pos =>
    subst hsn
    go_wp2_with fail
    go_ret
    exact ⟨rfl, hbw⟩
  have hse : (s == 1099511627776) = false := by simp [hsn]
  have hsl : s < Never := by
    have := HE1.out.big (by omega) u.toNat
    rw [HS.out] at this
    simp only [Never] at this ⊢
    omega
  have HH := Lib.hid (HE1.out.here hV ⟨hv0, hv1, ht0, ht1⟩ (k := u.toNat) (by omega) (by rw [HS.out]; exact hsl))
  have huu : ((u.toNat : Nat) : Int) = u := by omega
  have hHu := HH.out
  rw [HS.out, huu] at hHu
  have HP2 : Hid (placeErr g u s = 0) := Lib.hid (place_ok hV hHu.1 hHu.2.1 hHu.2.2.1 hHu.2.2.2.1)
  have HAL : Hid (aliveB g v t = true) := Lib.hid (by
    cases ha : aliveB g v t with
    | true => rfl
    | false =>
      have := HE1.out.dead hV (by omega) ha (k := u.toNat) (by omega)
      rw [HS.out] at this
      omega)
  clear hHu huu hsn hsl
  go_wp2_with fail
  have S0 : w2.cell? ⟨w.heap.size, 0, none⟩ = some (.int .i64 g.h) ∧ w2.cell? ⟨w.heap.size, 1, none⟩ = some (.slice A g.lives.length c) ∧ w2.cell? ⟨w.heap.size, 2, none⟩ = some (.slice A' g.edges.length c') ∧ w2.cell? ⟨b1, o1 + u.toNat, none⟩ = some (.int .i64 s) :=
    ⟨by rw [B0.cell]; rfl, by rw [B0.cell]; rfl, by rw [B0.cell]; rfl, ku⟩
  clear c1 c2 c3 ku
  go_region_held3 (fun w' => w'.cell? ⟨w.heap.size, 0, none⟩ = some (.int .i64 g.h) ∧ w'.cell? ⟨w.heap.size, 1, none⟩ = some (.slice A g.lives.length c) ∧ w'.cell? ⟨w.heap.size, 2, none⟩ = some (.slice A' g.edges.length c') ∧ w'.cell? ⟨b1, o1 + u.toNat, none⟩ = some (.int .i64 s))
    (first | exact S0 | exact ⟨cell_keep hb6 S0.1, cell_keep hb6 S0.2.1, cell_keep hb6 S0.2.2.1, cell_keep hb6 S0.2.2.2⟩)
    (first | (go_at_call 72; refine (arrivals_any _ _ _ _ g u s _ (hG.ext (ext_trans hbw (by go_grown)))).mono ?_; rw [HP2.out]; rintro e w5 ⟨l2, A2, d2, hl2, rfl, hA2, hm2, hb5⟩; have hb6 : Below w2.heap.size w2 w5 := ext_trans (by go_grown) hb5; have HL2 := Lib.hid hl2; clear hl2))
  have HE2 := Lib.hid (arr_good HP2.out HL2.out)
  have hn2 := HE2.out.1
  rw [hn2]
  have HN2 := Lib.hid hn2
  have hbw := ext_trans hbw hb6
  have hA1 := hA1.ext RInt.stable hb6
  clear hn2 hb5 hb6 S0 B0
  go_wp2_with fail
  go_loopw [55] (fun x wr => ∃ k : Nat, k ≤ g.lives.length ∧ x = .int .i64 k ∧ Below w5.heap.size w5 wr) (fun x _ => g.lives.length - (intOf x).toNat)
  case atStart => exact ⟨0, Nat.zero_le _, rfl, Below.refl _ _⟩
  case round =>
    obtain ⟨k, hk, rfl, hbr⟩ := hrel
    obtain ⟨b1', o1', he1, hz1, hc1⟩ := hA1.cells (by rw [HN1.out]; omega)
    simp only [Option.some.injEq, Addr.mk.injEq, and_true] at he1
    obtain ⟨rfl, rfl⟩ := he1
    by_cases hlt : k < g.lives.length
    case neg =>
      have kv := cell_keep hbr (hc1 v.toNat (by rw [HN1.out]; omega))
      rw [HE1.out.self hV (by omega) ⟨hv0, hv1⟩ HAL.out] at kv
      clear hc1
      go_wp2_with fail
      go_ret
      exact ⟨ret_bool (by simp), ext_trans hbw hbr⟩
    obtain ⟨b2, o2, rfl, hz2, hc2⟩ := hA2.cells (by rw [HN2.out]; omega)
    have k1 := cell_keep hbr (hc1 k (by rw [HN1.out]; exact hlt))
    have k2 := cell_keep hbr (hc2 k (by rw [HN2.out]; exact hlt))
    have hle := HE1.out.via (by omega) (m := u.toNat) (b := l2) (by rw [HS.out, show ((u.toNat : Nat) : Int) = u by omega]; exact HE2.out) k
    obtain ⟨x, hx⟩ : ∃ x, gi l1 k = x := ⟨_, rfl⟩
    obtain ⟨y, hy⟩ : ∃ y, gi l2 k = y := ⟨_, rfl⟩
    rw [hx] at k1 hle
    rw [hy] at k2 hle
    have hd : decide (y < x) = false := by simpa using hle
    clear hx hy hc1 hc2
    go_wp2_with fail
    go_quiet (fail)
    go_wp2_with fail
    go_roundw
    case rel => exact ⟨k + 1, by omega, by go_num, below_drewN hbr _⟩
    case measure => simp [intOf]; omega
end Go.Proofs.Ytcgnalpcbcpmkaa
