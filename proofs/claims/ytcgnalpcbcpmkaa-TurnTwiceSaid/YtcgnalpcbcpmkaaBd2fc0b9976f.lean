/- One text: LawTwice. -/
import Derived.Test.YtcgnalpcbcpmkaaBde97991cbd9
import Derived.Test.YtcgnalpcbcpmkaaBd16b8a5747b
import Derived.Test.YtcgnalpcbcpmkaaBd48cc3a8d25
import Derived.Test.YtcgnalpcbcpmkaaBd449dd27526
/- The walk of the law TurnTwice. -/
namespace Go.Proofs.Ytcgnalpcbcpmkaa
open Go.RowKit

set_option maxRecDepth 100000 in
set_option maxHeartbeats 8000000 in
theorem turnTwice_calls (A A' : Option Addr) (c c' : Nat) (g : GraphD) {w : World} (hG : GraphAt w A c A' c' g) (v : Int) (_hv : I64 v) (t : Int) (_ht : I64 t) :
    Calls Try.prog 28 #[gV A c A' c' g, .int .i64 v, .int .i64 t] w fun e w' => e = .returned (.bool true) ∧ Below w.heap.size w w' := by
  go_enter Try.func28, Try.ntmps28
  go_wp2_with fail
  refine (turned_any _).mono ?_
  rintro e w1 ⟨rfl, hb1⟩
  obtain ⟨B0, c1, c2, c3⟩ := (Blk.new w 28 (gC A c A' c' g)).go hb1
  have hbw : Below w.heap.size w w1 := ext_trans (by go_grown) hb1
  clear hb1
  go_wp2_with fail
  refine (reverse_any _ _ _ _ g _ (hG.ext hbw)).mono ?_
  rintro e w2 ⟨Ar, cr, Ar', cr', rfl, hGr, hb2⟩
  obtain ⟨B0, c1, c2, c3⟩ := B0.go hb2
  have hbw := ext_trans hbw hb2
  clear hb2
  by_cases h0 : revErr g = 0
  case neg =>
    have hn : (revErr g != 0) = true := by simp [h0]
    have HO : Hid (revOut g = zeroG) := Lib.hid (by unfold revOut; rw [if_neg h0])
    clear h0
    rw [HO.out]
    have hz : (((zeroG.edges.length : Nat) : Int) == 0) = true := by decide
    go_wp2_with fail
    go_ret
    exact ⟨by simp [zeroG], ext_alloc hbw _⟩
  have hV : Valid g := by
    refine valid_of (Classical.byContradiction fun h => ?_)
    unfold revErr at h0
    rw [if_neg h] at h0
    exact h h0
  have HL1 : Hid ((revD g).edges.length ≤ 30) := Lib.hid (by
    unfold revErr at h0
    rw [if_pos (valid_ok hV)] at h0
    split at h0
    · simp at h0
    · omega)
  have hV1 := rev_valid hV HL1.out
  have hV2 := rev_valid hV1 (Nat.le_trans rev2_len HL1.out)
  have HO : Hid (revOut g = revD g) := Lib.hid (by unfold revOut; rw [if_pos h0])
  have hE1 : Hid (revErr (revD g) = 0) := Lib.hid (by
    unfold revErr
    rw [if_pos (valid_ok hV1), if_neg (by have := rev2_len (g := g); have := HL1.out; omega)])
  have HO1 : Hid (revOut (revD g) = revD (revD g)) := Lib.hid (by unfold revOut; rw [if_pos hE1.out])
  have HK1 := Lib.hid (valid_ok hV1)
  have HK2 := Lib.hid (valid_ok hV2)
  rw [HO.out] at hGr ⊢
  rw [h0]
  clear h0
  go_wp2_with fail
  have B7 := Blk.new w2 28 (gC Ar cr Ar' cr' (revD g))
  have hGr := hGr.ext (ext_alloc (Below.refl _ _) (Obj.cells (gC Ar cr Ar' cr' (revD g)) 28))
  refine (reverse_any _ _ _ _ (revD g) _ hGr).mono ?_
  rw [hE1.out, HO1.out]
  rintro e w3 ⟨Aq, cq, Aq', cq', rfl, hGq, hb3⟩
  have hGr := hGr.ext hb3
  obtain ⟨B7, d1, d2, d3⟩ := B7.go hb3
  obtain ⟨B0, c1, c2, c3⟩ := (B0.alloc (Obj.cells (gC Ar cr Ar' cr' (revD g)) 28)).go hb3
  have hbw := ext_trans (ext_alloc hbw _) hb3
  clear hb3
  go_wp2_with fail
  have B9 := Blk.new w3 28 (gC Aq cq Aq' cq' (revD (revD g)))
  have hx := ext_alloc (Below.refl w3.heap.size w3) (Obj.cells (gC Aq cq Aq' cq' (revD (revD g))) 28)
  have hGq := hGq.ext hx
  have hGr := hGr.ext hx
  have hbw := ext_trans hbw hx
  have B0 := B0.ext hx
  refine (check_any _ _ _ _ (revD g) _ hGr).mono ?_
  rw [HK1.out]
  rintro e w4 ⟨rfl, hb3⟩
  have hGq := hGq.ext hb3
  obtain ⟨B9, e1, e2, e3⟩ := B9.go hb3
  obtain ⟨B0, c1, c2, c3⟩ := B0.go hb3
  have hbw := ext_trans hbw hb3
  clear hb3 hx d1 d2 d3 B7
  go_wp2_with fail
  refine (check_any _ _ _ _ (revD (revD g)) _ hGq).mono ?_
  rw [HK2.out]
  rintro e w5 ⟨rfl, hb3⟩
  have hGq := hGq.ext hb3
  obtain ⟨B9, e1, e2, e3⟩ := B9.go hb3
  obtain ⟨B0, c1, c2, c3⟩ := B0.go hb3
  have hbw := ext_trans hbw hb3
  clear hb3
  go_wp2_with fail
  refine (equalIvls_any _ _ _ _ (revD (revD g)).lives g.lives _ hGq.lives (hG.ext hbw).lives (Nat.le_trans hGq.lc hGq.cm) (Nat.le_trans hG.lc hG.cm)).mono ?_
  have hdl : decide ((revD (revD g)).lives = g.lives) = true := by simp [rev2_lives]
  rw [hdl]
  rintro e w6 ⟨rfl, hb3⟩
  have hGq := hGq.ext hb3
  obtain ⟨B9, e1, e2, e3⟩ := B9.go hb3
  obtain ⟨B0, c1, c2, c3⟩ := B0.go hb3
  have hbw := ext_trans hbw hb3
  clear hb3 hdl
  go_wp2_with fail
  refine (arrivals_any _ _ _ _ g v t _ (hG.ext hbw)).mono ?_
  rintro e w7 ⟨l1, A1, d1, hl1, rfl, hA1, hm1, hb2⟩
  obtain ⟨B0, c1, c2, c3⟩ := B0.go hb2
  obtain ⟨B9, e1, e2, e3⟩ := B9.go hb2
  have hGq := hGq.ext hb2
  have hbw := ext_trans hbw hb2
  have HL1 := Lib.hid hl1
  clear hb2 hl1
  go_wp2_with fail
  refine (arrivals_any _ _ _ _ (revD (revD g)) v t _ hGq).mono ?_
  rintro e w8 ⟨l2, A2, d2, hl2, rfl, hA2, hm2, hb2⟩
  obtain ⟨B0, c1, c2, c3⟩ := B0.go hb2
  obtain ⟨B9, e1, e2, e3⟩ := B9.go hb2
  have hGq := hGq.ext hb2
  have hA1 := hA1.ext RInt.stable hb2
  have hbw := ext_trans hbw hb2
  have HL2 := Lib.hid hl2
  clear hb2 hl2
  go_wp2_with fail
  refine (costs_any _ _ _ _ g v t _ (hG.ext hbw)).mono ?_
  rintro e w9 ⟨l3, A3, d3, hl3, rfl, hA3, hm3, hb2⟩
  obtain ⟨B9, e1, e2, e3⟩ := B9.go hb2
  have hGq := hGq.ext hb2
  have hA1 := hA1.ext RInt.stable hb2
  have hA2 := hA2.ext RInt.stable hb2
  have hbw := ext_trans hbw hb2
  have HL3 := Lib.hid hl3
  clear hb2 hl3 c1 c2 c3 B0
  go_wp2_with fail
  refine (costs_any _ _ _ _ (revD (revD g)) v t _ hGq).mono ?_
  rintro e w10 ⟨l4, A4, d4, hl4, rfl, hA4, hm4, hb2⟩
  have hA1 := hA1.ext RInt.stable hb2
  have hA2 := hA2.ext RInt.stable hb2
  have hA3 := hA3.ext RInt.stable hb2
  have hbw := ext_trans hbw hb2
  have HL4 := Lib.hid hl4
  clear hb2 hl4 e1 e2 e3 B9
  have HPL := Lib.hid (rev2_place hV hV2 v t)
  have HEQ : Hid (l2 = l1 ∧ l4 = l3) := Lib.hid (by
    by_cases hp : placeErr g v t = 0
    · obtain ⟨_, hv, ht⟩ := place_of hp
      have k1 := arr_good hp HL1.out
      have k2 := arr_good (by rw [HPL.out]; exact hp) HL2.out
      have k3 := costs_good hp HL3.out
      have k4 := costs_good (by rw [HPL.out]; exact hp) HL4.out
      exact ⟨(rev2_early hV hV1 hV2 hv ht k1 k2 k4).symm, (rev2_costs hV hV1 k3 k4).symm⟩
    · have k1 := arr_bad hp HL1.out
      have k2 := arr_bad (by rw [HPL.out]; exact hp) HL2.out
      have k3 := costs_bad hp HL3.out
      have k4 := costs_bad (by rw [HPL.out]; exact hp) HL4.out
      rw [k1, k2, k3, k4]
      exact ⟨rfl, rfl⟩)
  rw [HPL.out]
  obtain ⟨p, hp⟩ : ∃ p, placeErr g v t = p := ⟨_, rfl⟩
  rw [hp]
  obtain ⟨h21, h43⟩ := HEQ.out
  subst h21 h43
  clear hp HL1 HL2 HL3 HL4 HPL HEQ
  go_wp2_with fail
  refine (equalSame_any _ _ _ _ l2 _ _ _ hA1 hA2 hm2 rfl rfl).mono ?_
  rintro e w11 ⟨rfl, hb3⟩
  have hA3 := hA3.ext RInt.stable hb3
  have hA4 := hA4.ext RInt.stable hb3
  have hbw := ext_trans hbw hb3
  clear hb3
  go_wp2_with fail
  refine (equalSame_any _ _ _ _ l4 _ _ _ hA3 hA4 hm4 rfl rfl).mono ?_
  rintro e w12 ⟨rfl, hb3⟩
  have hbw := ext_trans hbw hb3
  go_wp2_with fail
  go_ret
  exact ⟨rfl, hbw⟩
end Go.Proofs.Ytcgnalpcbcpmkaa
