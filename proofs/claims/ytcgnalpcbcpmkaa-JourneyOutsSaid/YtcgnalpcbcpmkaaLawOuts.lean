/- The walk of the law JourneyOuts: both tell the same hops. -/
import Derived.Test.YtcgnalpcbcpmkaaOutP
import Derived.Test.YtcgnalpcbcpmkaaEqual
namespace Go.Proofs.Ytcgnalpcbcpmkaa
open Go.RowKit

set_option maxHeartbeats 1000000 in
theorem journeyOuts_calls (A A' : Option Addr) (c c' : Nat) (g : GraphD) {w0 : World} (hG : GraphAt w0 A c A' c' g) (v : Int) (_hv : I64 v) (t : Int) (_ht : I64 t) :
    Calls Try.prog 6 #[gV A c A' c' g, .int .i64 v, .int .i64 t] w0 fun e w' => e = .returned (.bool true) ∧ Below w0.heap.size w0 w' := by
  by_cases h0 : placeErr g v t = 0
  · have h0' : (placeErr g v t == 0) = true := by simp [h0]
    have e1 : outR g v t = outs g v t := by simp [outR, h0]
    have E1 := Lib.hid e1
    have H0 := Lib.hid h0
    clear e1
    go_enter Try.func6, Try.ntmps6
    go_wp2_with fail
    refine (out_any _ _ _ _ g v t _ (hG.ext (by go_grown))).mono ?_
    rintro x w1 ⟨Al, cl, rfl, hS, hl, hb1⟩
    obtain ⟨B0, c1, c2, c3⟩ := (Blk.new w0 28 (gC A c A' c' g)).go hb1
    have hb2 : Below w0.heap.size w0 w1 := ext_trans (by go_grown) hb1
    go_wp2_with fail
    refine (place_any _ _ _ _ g v t _ (hG.ext hb2)).mono ?_
    rintro x w2 ⟨rfl, hb3⟩
    obtain ⟨B0', c1', c2', c3'⟩ := B0.go hb3
    have hb4 := ext_trans hb2 hb3
    go_wp2_with fail
    refine (refOuts_any _ _ _ _ g v t _ (hG.ext hb4) H0.out).mono ?_
    rintro x w3 ⟨Al', cl', rfl, hS', hl', hb5⟩
    go_wp2_with fail
    refine (equalHops_any _ _ _ _ _ _ _ ((hS.ext RHop.stable hb3).ext RHop.stable hb5) hS' hl hl').mono ?_
    rintro x w4 ⟨rfl, hb6⟩
    rw [E1.out]
    go_wp2_with fail
    go_ret
    exact ⟨by simp, ext_trans (ext_trans hb4 hb5) hb6⟩
  · have h0' : (placeErr g v t == 0) = false := by simp [h0]
    have e1 : outR g v t = [] := by simp [outR, h0]
    have E1 := Lib.hid e1
    clear h0 e1
    go_enter Try.func6, Try.ntmps6
    go_wp2_with fail
    refine (out_any _ _ _ _ g v t _ (hG.ext (by go_grown))).mono ?_
    rintro x w1 ⟨Al, cl, rfl, hS, hl, hb1⟩
    obtain ⟨B0, c1, c2, c3⟩ := (Blk.new w0 28 (gC A c A' c' g)).go hb1
    have hb2 : Below w0.heap.size w0 w1 := ext_trans (by go_grown) hb1
    go_wp2_with fail
    refine (place_any _ _ _ _ g v t _ (hG.ext hb2)).mono ?_
    rintro x w2 ⟨rfl, hb3⟩
    have hb4 := ext_trans hb2 hb3
    go_wp2_with fail
    rw [E1.out] at hS ⊢
    refine (equalHops_any _ _ _ _ ([] : List HopD) ([] : List HopD) _ (hS.ext RHop.stable hb3) SlAt.nil (by simp) (by simp)).mono ?_
    rintro x w4 ⟨rfl, hb6⟩
    go_wp2_with fail
    go_ret
    exact ⟨by simp, ext_trans hb4 hb6⟩
end Go.Proofs.Ytcgnalpcbcpmkaa
