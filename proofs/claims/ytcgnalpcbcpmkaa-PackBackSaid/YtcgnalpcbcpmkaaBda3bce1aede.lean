/- One text: LawPackBack. -/
import Derived.Test.YtcgnalpcbcpmkaaBda3e52e72a0
import Derived.Test.YtcgnalpcbcpmkaaBd11c9154019
import Derived.Test.YtcgnalpcbcpmkaaBd49d54e2396
import Derived.Test.YtcgnalpcbcpmkaaBd3d7c8cd354
/- The walk of the law PackBack. -/
namespace Go.Proofs.Ytcgnalpcbcpmkaa
open Go.RowKit

def fiveG : GraphD := ⟨5, [], []⟩
theorem five_at (w : World) : GraphAt w none 0 none 0 fiveG := ⟨by simp [I64, fiveG], by simp [fiveG], by simp [maxLen], by simp [fiveG], by simp [maxLen], ⟨0, 0, by simp [fiveG]⟩, ⟨0, 0, by simp [fiveG]⟩⟩
theorem five_err : graphErr fiveG = 0 := by kernel_rfl
theorem five_coded : coded fiveG = ⟨#[0, 5, 0, 0, 0, 0, 211, 46, 34, 121]⟩ := by kernel_rfl
theorem nine_sum : crc ⟨#[49, 50, 51, 52, 53, 54, 55, 56, 57]⟩ = 3421780262 := by kernel_rfl

set_option maxRecDepth 100000 in
set_option maxHeartbeats 4000000 in
theorem packBack_calls (A A' : Option Addr) (c c' : Nat) (g : GraphD) {w0 : World} (hG : GraphAt w0 A c A' c' g) (more : ByteArray) (hm : more.size ≤ 140737488351232) (at_ : Int) (hat : I64 at_) :
    Calls Try.prog 19 #[gV A c A' c' g, .string more, .int .i64 at_] w0 fun e w' => e = .returned (.bool true) ∧ Below w0.heap.size w0 w' := by
  go_enter Try.func19, Try.ntmps19
  go_wp2_with fail
  refine (encode_any none none 0 0 fiveG _ (five_at _)).mono ?_
  rw [five_err, if_pos rfl, five_coded]
  rintro e w1 ⟨rfl, hb1⟩
  have hx6 : ((ByteArray.mk #[0, 5, 0, 0, 0, 0, 211, 46, 34, 121]).extract 0 6).toList == [0, 5, 0, 0, 0, 0] := by kernel_rfl
  obtain ⟨B0, d1, d2, d3⟩ := (Blk.new w0 28 (gC A c A' c' g)).go hb1
  have hbw : Below w0.heap.size w0 w1 := ext_trans (by go_grown) hb1
  clear hb1
  go_wp2_with (go_at_call 34; refine (sum_any _ _ (by decide)).mono ?_; rw [nine_sum]; rintro e wx ⟨rfl, rfl⟩)
  clear hx6
  have hG := hG.ext hbw
  by_cases h0 : graphErr g = 0
  case neg =>
    have hn : (graphErr g != 0) = true := by simp [h0]
    refine (encode_any A A' c c' g _ hG).mono ?_
    rw [if_neg h0]
    clear h0
    rintro e w2 ⟨rfl, hb2⟩
    go_wp2_with fail
    go_ret
    exact ⟨rfl, ext_trans hbw hb2⟩
  case pos =>
    refine (encode_any A A' c c' g _ hG).mono ?_
    rw [if_pos h0, h0]
    rintro e w2 ⟨rfl, hb2⟩
    have hV := valid_of h0
    have HV := Lib.hid hV
    have HLE := Lib.hid (coded_len g)
    have HL9 := Lib.hid (nums_num hV).2
    have hz : 0 < (coded g).size ∧ (coded g).size ≤ 1804 := by rw [coded_len]; have := (nums_num hV).2; omega
    obtain ⟨hz1, hz2⟩ := hz
    have HS : Hid (decErr (coded g ++ more) = 0 ∧ decN (coded g ++ more) = (coded g).size ∧ decOut (coded g ++ more) = g) := Lib.hid (by
      obtain ⟨e1, e2, e3⟩ := dec_coded hV more
      exact ⟨e2, e3, by unfold decOut; rw [if_pos e2, e1]⟩)
    have HCUT : Hid (∀ k, k < (coded g).size → decErr ((coded g).extract 0 k) = 5) := Lib.hid fun k hk => dec_cut hV hk
    have HTURN : Hid (∀ (i : Nat) (x : Int), i < (coded g).size → 0 ≤ x → x < 256 → x ≠ byteAt (coded g) i → decErr (strOfNums (turnAt (coded g) i x)) = 0 → decOut (strOfNums (turnAt (coded g) i x)) ≠ g) := Lib.hid fun i x hi h0 h1 hx he => turn_law hi h0 h1 hx he
    clear h0 hV
    obtain ⟨s, hs⟩ : ∃ s, s = coded g := ⟨_, rfl⟩
    rw [← hs] at HLE HS HCUT HTURN hz1 hz2 ⊢
    clear hs d1 d2 d3
    obtain ⟨B0, d1, d2, d3⟩ := B0.go hb2
    have hG := hG.ext hb2
    have hbw := ext_trans hbw hb2
    have hsum : ¬ (s.size + more.size > 9223372036854775807) := by omega
    go_wp2_with fail
    clear hsum
    refine (decode_any (s ++ more) _ (by rw [ByteArray.size_append]; unfold maxLen; omega)).mono ?_
    rintro e w3 ⟨Ax, cx, Ax', cx', rfl, hGx, hb3⟩
    rw [show decOut (s ++ more) = g from HS.out.2.2] at hGx
    rw [show decOut (s ++ more) = g from HS.out.2.2, show decN (s ++ more) = s.size from HS.out.2.1, show decErr (s ++ more) = 0 from HS.out.1]
    clear d1 d2 d3
    obtain ⟨B0, d1, d2, d3⟩ := B0.go hb3
    have hG := hG.ext hb3
    have hbw := ext_trans hbw hb3
    have BX := Blk.new w3 28 (gC Ax cx Ax' cx' g)
    have hGx := hGx.ext (ext_alloc (Below.refl _ w3) (Obj.cells (gC Ax cx Ax' cx' g) 28))
    have hG := hG.ext (ext_alloc (Below.refl _ w3) (Obj.cells (gC Ax cx Ax' cx' g) 28))
    simp only [gV]
    go_wp2_with fail
    refine (rest_any at_ (s.size : Int) _ hat (by omega) (by omega)).mono ?_
    obtain ⟨k, hk⟩ : ∃ k : Nat, at_ % (s.size : Int) = k := ⟨(at_ % (s.size : Int)).toNat, by have := Int.emod_nonneg at_ (show (s.size : Int) ≠ 0 by omega); omega⟩
    have hkl : k < s.size := by have := Int.emod_lt_of_pos at_ (show (0 : Int) < s.size by omega); omega
    rw [hk]
    clear hk
    rintro e wx ⟨rfl, rfl⟩
    have hbw := ext_alloc hbw (Obj.cells (gC Ax cx Ax' cx' g) 28)
    have B0 := B0.alloc (Obj.cells (gC Ax cx Ax' cx' g) 28)
    go_wp2_with fail
    refine (decode_any (s.extract 0 k) _ (by rw [ByteArray.size_extract]; unfold maxLen; omega)).mono ?_
    rintro e w4 ⟨Ay, cy, Ay', cy', rfl, _, hb4⟩
    have he5 := HCUT.out k hkl
    rw [(dec_not (by rw [he5]; decide)).1, (dec_not (by rw [he5]; decide)).2, he5]
    clear he5
    simp only [gV, zeroG]
    have hbw := ext_trans hbw hb4
    clear d1 d2 d3
    obtain ⟨B0, d1, d2, d3⟩ := B0.go hb4
    obtain ⟨BX, x1, x2, x3⟩ := BX.go hb4
    have hGx := hGx.ext hb4
    have hG := hG.ext hb4
    clear hb4 hb3 hb2
    have hbw := ext_alloc hbw (Obj.cells #[.int .i64 0, .slice Ay 0 cy, .slice Ay' 0 cy'] 28)
    have hGx := hGx.ext (ext_alloc (Below.refl _ w4) (Obj.cells #[.int .i64 0, .slice Ay 0 cy, .slice Ay' 0 cy'] 28))
    have hG := hG.ext (ext_alloc (Below.refl _ w4) (Obj.cells #[.int .i64 0, .slice Ay 0 cy, .slice Ay' 0 cy'] 28))
    have B0 := B0.alloc (Obj.cells #[.int .i64 0, .slice Ay 0 cy, .slice Ay' 0 cy'] 28)
    go_wp2_with fail
    refine (sameGraph_any Ax Ax' A A' cx cx' c c' g _ hGx hG).mono ?_
    rintro e w5 ⟨rfl, hb5⟩
    have hbw := ext_trans hbw hb5
    obtain ⟨B0, e1, e2, e3⟩ := B0.go hb5
    have hG := hG.ext hb5
    clear d1 d2 d3 x1 x2 x3 hb5 hGx
    have hcv : ∀ W : World, (Go.convert 9 105 (.string s)).run Try.prog W = .ok (.slice (some ⟨W.heap.size, 0, none⟩) s.size (grownCap W s.size 0 5)) (W.drew.alloc (.cells (bytesRow s (grownCap W s.size 0 5)) 5 ((bytesRow s (grownCap W s.size 0 5)).size, (bytesRow s (grownCap W s.size 0 5)).size + 1))) :=
      fun W => run_bytes_of_string W _ _ _ s Try.underlying9 Try.underlying105 Try.underlying5
    go_wp2_with fail
    clear hcv
    obtain ⟨cap, hcap⟩ : ∃ cap, cap = grownCap w5 s.size 0 5 := ⟨_, rfl⟩
    rw [← hcap]
    obtain ⟨o, ho⟩ : ∃ o, o = Obj.cells (bytesRow s cap) 5 ((bytesRow s cap).size, (bytesRow s cap).size + 1) := ⟨_, rfl⟩
    have BB : BytesAt (w5.alloc o).drew w5.heap.size (bytesFrom s 0 s.size) := by rw [ho]; exact BytesAt.new w5 s cap _
    rw [← ho]
    clear hcap ho
    have hbw := below_drew (ext_alloc hbw o)
    have B0 := (B0.alloc o).drew
    have hb56 := below_drew (ext_alloc (Below.refl _ w5) o)
    clear e1 e2
    obtain ⟨w6, hw6⟩ : ∃ w6, w6 = (w5.alloc o).drew := ⟨_, rfl⟩
    rw [← hw6] at BB hbw B0 hb56 ⊢
    clear hw6
    refine (rest_any at_ (8 * (s.size : Int)) _ hat (by omega) (by omega)).mono ?_
    obtain ⟨m, hm⟩ : ∃ m : Nat, at_ % (8 * (s.size : Int)) = m := ⟨(at_ % (8 * (s.size : Int))).toNat, by have := Int.emod_nonneg at_ (show (8 * (s.size : Int)) ≠ 0 by omega); omega⟩
    have hml : m / 8 < s.size := by have := Int.emod_lt_of_pos at_ (show (0 : Int) < 8 * s.size by omega); omega
    rw [hm]
    clear hm
    rintro e wx ⟨rfl, rfl⟩
    have hxl : m / 8 < (bytesFrom s 0 s.size).length := by simpa [bytesFrom] using hml
    have hc0 := BB.cell hxl
    rw [byteAt_getD s _ hml] at hc0
    have hf0 := BB.frozen hxl
    have hlt := BB.lt
    obtain ⟨hx1, hx2⟩ := xor_u8 (byteAt s (m / 8)) (m % 8) (byteAt_lt _ _) (Nat.mod_lt _ (by decide))
    go_wp2_with fail
    go_region
    have hp2 : ((2 : Int) ^ (m % 8) % 256) = ((2 ^ (m % 8) : Nat) : Int) := by
      have h2 : 2 ^ (m % 8) < 256 := Nat.lt_of_lt_of_le (Nat.pow_lt_pow_right (by decide) (Nat.mod_lt m (by decide : 0 < 8))) (by decide)
      have e : ((2 : Int) ^ (m % 8)) = ((2 ^ (m % 8) : Nat) : Int) := by simp
      rw [e]
      exact Int.emod_eq_of_lt (Int.natCast_nonneg _) (Int.ofNat_lt.2 h2)
    rw [hp2, hx1]
    clear hp2 hx1
    have hxn : ((byteAt s (m / 8) ^^^ 2 ^ (m % 8) : Nat) : Int) ≠ byteAt s (m / 8) := by have := xor_two_ne (byteAt s (m / 8)) (m % 8); omega
    generalize byteAt s (m / 8) ^^^ 2 ^ (m % 8) = x at *
    have HT := Lib.hid (HTURN.out (m / 8) x hml (by omega) (by omega) hxn)
    have BB := (BB.set_ hxl (x : Int)).drewN 1
    have hbb := (below_drew ((Below.refl w5.heap.size w6).setCell (p := ⟨w5.heap.size, m / 8, none⟩) (Nat.le_refl _) (.int .u8 (x : Int))))
    have hcv := BB.str cap
    rw [show ((bytesFrom s 0 s.size).set (m / 8) (x : Int)).length = s.size from turnAt_len s (m / 8) x] at hcv
    clear hc0 hf0 hxn
    have B0 := (B0.far (p := ⟨w5.heap.size, m / 8, none⟩) (by have := e3; simp; omega) (.int .u8 (x : Int))).drew
    have hbw := below_drew (hbw.setCell (p := ⟨w5.heap.size, m / 8, none⟩) (by have := e3; simp; omega) (.int .u8 (x : Int)))
    have hG := hG.ext (hb56.trans hbb)
    clear hb56 hbb
    obtain ⟨w7, hw7⟩ : ∃ w7, w7 = (w6.setCell ⟨w5.heap.size, m / 8, none⟩ (.int .u8 (x : Int))).drew := ⟨_, rfl⟩
    rw [← hw7] at B0 hbw hG ⊢
    change (Go.convert _ _ _).run _ ((w6.setCell ⟨w5.heap.size, m / 8, none⟩ (.int .u8 (x : Int))).drew) = .ok _ ((w6.setCell ⟨w5.heap.size, m / 8, none⟩ (.int .u8 (x : Int))).drew) at hcv
    rw [← hw7] at hcv
    clear hw7 BB hx2 hml hxl hlt
    change Hid (decErr (strOfNums ((bytesFrom s 0 s.size).set (m / 8) (x : Int))) = 0 → decOut (strOfNums ((bytesFrom s 0 s.size).set (m / 8) (x : Int))) ≠ g) at HT
    have hsz : (strOfNums ((bytesFrom s 0 s.size).set (m / 8) (x : Int))).size = s.size := by rw [strOfNums_size]; exact turnAt_len s (m / 8) x
    generalize strOfNums ((bytesFrom s 0 s.size).set (m / 8) (x : Int)) = y at *
    go_wp2_with fail
    clear hcv
    refine (decode_any y _ (by unfold maxLen; omega)).mono ?_
    rintro e w8 ⟨Az, cz, Az', cz', rfl, hGz, hb8⟩
    clear e3
    obtain ⟨B0, e1, e2, e3⟩ := B0.go hb8
    have hG := hG.ext hb8
    have hbw := ext_trans hbw hb8
    by_cases hy : decErr y = 0
    case neg =>
      have hn : (decErr y != 0) = true := by simp [hy]
      clear hy
      simp only [gV]
      go_wp2_with fail
      go_ret
      exact ⟨rfl, by have := hbw.size; go_grown⟩
    case pos =>
      have HNE := Lib.hid (HT.out hy)
      rw [hy]
      clear hy
      generalize decOut y = z at *
      have hbw := ext_alloc hbw (Obj.cells (gC Az cz Az' cz' z) 28)
      have hGz := hGz.ext (ext_alloc (Below.refl _ w8) (Obj.cells (gC Az cz Az' cz' z) 28))
      have hG := hG.ext (ext_alloc (Below.refl _ w8) (Obj.cells (gC Az cz Az' cz' z) 28))
      simp only [gV]
      go_wp2_with fail
      refine (sameGraph2_any Az Az' A A' cz cz' c c' z g _ hGz hG).mono ?_
      rintro e w9 ⟨b, hb, rfl, hb9⟩
      obtain rfl : b = false := by
        cases b with
        | false => rfl
        | true => exact absurd (hb.1 rfl) HNE.out
      go_wp2_with fail
      go_ret
      exact ⟨rfl, ext_trans hbw hb9⟩
end Go.Proofs.Ytcgnalpcbcpmkaa
