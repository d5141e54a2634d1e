/- The walk of the law PackSays. -/
import Derived.Test.YtcgnalpcbcpmkaaEncode
import Derived.Test.YtcgnalpcbcpmkaaRefCheck
namespace Go.Proofs.Ytcgnalpcbcpmkaa
open Go.RowKit

set_option maxHeartbeats 1000000 in
theorem packSays_calls (A A' : Option Addr) (c c' : Nat) (g : GraphD) {w0 : World} (hG : GraphAt w0 A c A' c' g) (s : ByteArray) (hs : s.size ≤ maxLen) :
    Calls Try.prog 4 #[gV A c A' c' g, .string s] w0 fun e w' => e = .returned (.bool true) ∧ Below w0.heap.size w0 w' := by
  unfold maxLen at hs
  by_cases h0 : graphErr g = 0
  · have HV := Lib.hid h0
    clear h0
    go_enter Try.func4, Try.ntmps4
    go_wp2_with fail
    refine (refGraph_any _ _ _ _ g _ (hG.ext (by go_grown))).mono ?_
    rw [HV.out]
    rintro e w1 ⟨rfl, hb1⟩
    obtain ⟨B0, c1, c2, c3⟩ := (Blk.new w0 28 (gC A c A' c' g)).go hb1
    have hb2 : Below w0.heap.size w0 w1 := ext_trans (by go_grown) hb1
    go_wp2_with fail
    refine (coded_any _ _ _ _ g _ (hG.ext hb2) (valid_of HV.out)).mono ?_
    rintro e w2 ⟨rfl, hb3⟩
    obtain ⟨B1, d1, d2, d3⟩ := B0.go hb3
    have hb4 := ext_trans hb2 hb3
    go_wp2_with fail
    refine (encode_any _ _ _ _ g _ (hG.ext hb4)).mono ?_
    rw [if_pos HV.out, HV.out]
    rintro e w3 ⟨rfl, hb5⟩
    go_wp2_with fail
    refine (sum_any s _ (by omega)).mono ?_
    rintro e w4 ⟨rfl, rfl⟩
    go_wp2_with fail
    refine (refSum_any s _ (by omega)).mono ?_
    rintro e w5 ⟨rfl, rfl⟩
    go_wp2_with fail
    go_ret
    exact ⟨by simp, ext_trans hb4 hb5⟩
  · have HV := Lib.hid h0
    have hn : (graphErr g == 0) = false := by simp [h0]
    clear h0
    go_enter Try.func4, Try.ntmps4
    go_wp2_with fail
    refine (refGraph_any _ _ _ _ g _ (hG.ext (by go_grown))).mono ?_
    rintro e w1 ⟨rfl, hb1⟩
    obtain ⟨B0, c1, c2, c3⟩ := (Blk.new w0 28 (gC A c A' c' g)).go hb1
    have hb2 : Below w0.heap.size w0 w1 := ext_trans (by go_grown) hb1
    go_wp2_with fail
    refine (encode_any _ _ _ _ g _ (hG.ext hb2)).mono ?_
    rw [if_neg HV.out]
    rintro e w3 ⟨rfl, hb5⟩
    go_wp2_with fail
    refine (sum_any s _ (by omega)).mono ?_
    rintro e w4 ⟨rfl, rfl⟩
    go_wp2_with fail
    refine (refSum_any s _ (by omega)).mono ?_
    rintro e w5 ⟨rfl, rfl⟩
    go_wp2_with fail
    go_ret
    exact ⟨by simp, ext_trans hb2 hb5⟩
end Go.Proofs.Ytcgnalpcbcpmkaa
