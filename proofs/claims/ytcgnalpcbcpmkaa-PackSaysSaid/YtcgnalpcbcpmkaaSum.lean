/- The walks of pack.Sum and of the document's Sum: both tell crc. -/
import Derived.Test.YtcgnalpcbcpmkaaSmall
import Derived.Test.YtcgnalpcbcpmkaaKeep
import Derived.Test.YtcgnalpcbcpmkaaSumSpec
namespace Go.Proofs.Ytcgnalpcbcpmkaa
open Go.RowKit

set_option maxHeartbeats 1000000 in
theorem sum_any (s : ByteArray) (w : World) (hs : s.size ≤ 9223372036854775807) : Calls Try.prog 34 #[.string s] w fun e w' => e = .returned (.int .u32 (crc s)) ∧ w = w' := by
  go_enter Try.func34, Try.ntmps34
  go_wp2_with fail
  go_loopw [3, 8] (fun n i wr => ∃ (k : Nat) (r : Nat), k ≤ s.size ∧ i = .int .i64 k ∧ n = .int .u32 r ∧ Hid (r = crcF s k) ∧ wr = w) (fun _ i _ => s.size - (intOf i).toNat)
  case atStart => exact ⟨0, 4294967295, Nat.zero_le _, rfl, rfl, Lib.hid rfl, rfl⟩
  case round =>
    obtain ⟨k, r, hk, rfl, rfl, hr, rfl⟩ := hrel
    have hr2 : r < 4294967296 := by rw [hr.out]; exact crcF_lt s k
    by_cases hlt : k < s.size
    · have hb := byteAt_lt s k
      have e1 : bits .xor .u32 (r : Int) ((s[k].toNat : Int) % 4294967296) = ((r ^^^ byteAt s k : Nat) : Int) := by
        have : ((s[k].toNat : Int) % 4294967296) = ((byteAt s k : Nat) : Int) := by rw [byteAt_of hlt] at hb ⊢; omega
        rw [this]
        exact xor_u32 _ _ hr2 (by omega)
      have E2 : Hid (crcB 8 0 r (byteAt s k) = crcF s (k + 1)) := Lib.hid (by rw [hr.out]; rfl)
      clear hr
      go_wp2_with fail
      clear e1
      generalize byteAt s k = b at *
      go_loopw [3, 17] (fun n i wr2 => ∃ (j : Nat) (x : Nat), j ≤ 8 ∧ i = .int .i64 j ∧ n = .int .u32 ((x ^^^ (b / 2 ^ j) : Nat) : Int) ∧ x < 4294967296 ∧ Hid (crcB (8 - j) j x b = crcF s (k + 1)) ∧ wr2 = wr) (fun _ i _ => 8 - (intOf i).toNat)
      case atStart => exact ⟨0, r, by omega, rfl, by simp, hr2, E2, rfl⟩
      case round =>
        clear E2
        obtain ⟨j, x, hj, rfl, rfl, hx, HI, rfl⟩ := hrel
        by_cases hlt2 : j < 8
        · have hbj : b / 2 ^ j < 4294967296 := Nat.lt_of_le_of_lt (Nat.div_le_self _ _) (by omega)
          have hv : x ^^^ (b / 2 ^ j) < 4294967296 := Nat.xor_lt_two_pow (n := 32) hx hbj
          have HI2 : Hid (crcB (8 - (j + 1)) (j + 1) (crcBit x (b / 2 ^ j)) b = crcF s (k + 1)) := Lib.hid (by
            have h := HI.out
            rw [show 8 - j = (8 - (j + 1)) + 1 by omega] at h
            exact h)
          have e2 := and_u32 _ hv
          have hhalf : (((x ^^^ (b / 2 ^ j) : Nat) : Int) / 2) = (((x / 2) ^^^ (b / 2 ^ (j + 1)) : Nat) : Int) := by
            rw [← xor_half]; omega
          have HH := Lib.hid hhalf
          by_cases hc : x % 2 = (b / 2 ^ j) % 2
          · have hm : ((x ^^^ (b / 2 ^ j)) % 2 : Nat) = 0 := by rw [xor_low, if_pos hc]
            have HN : Hid (crcBit x (b / 2 ^ j) = x / 2) := Lib.hid (by unfold crcBit; rw [if_pos hc])
            have hx2 : x / 2 < 4294967296 := by omega
            rw [hm] at e2
            clear hc hm HI
            generalize hq : x ^^^ (b / 2 ^ j) = q at *
            clear hq
            go_wp2_with fail
            go_roundw
            case rel => exact ⟨j + 1, x / 2, by omega, by go_num, rfl, hx2, Lib.hid (by rw [← HI2.out, HN.out]), by trivial⟩
            case measure => simp [intOf]; omega
          · have hm : ((x ^^^ (b / 2 ^ j)) % 2 : Nat) = 1 := by rw [xor_low, if_neg hc]
            have HN : Hid (crcBit x (b / 2 ^ j) = (x / 2) ^^^ poly) := Lib.hid (by unfold crcBit; rw [if_neg hc])
            have hx2 : (x / 2) ^^^ poly < 4294967296 := Nat.xor_lt_two_pow (n := 32) (by omega) (by decide)
            have e3 : bits .xor .u32 ((((x / 2) ^^^ (b / 2 ^ (j + 1)) : Nat) : Int)) 3988292384 = (((x / 2) ^^^ poly ^^^ (b / 2 ^ (j + 1)) : Nat) : Int) := by
              rw [← xor_half_poly, ← xor_half]
              exact xor_u32 _ 3988292384 (by omega) (by decide)
            rw [hm] at e2
            clear hc hm HI
            generalize hq : x ^^^ (b / 2 ^ j) = q at *
            clear hq
            go_wp2_with fail
            go_roundw
            case rel => exact ⟨j + 1, (x / 2) ^^^ poly, by omega, by go_num, rfl, hx2, Lib.hid (by rw [← HI2.out, HN.out]), by trivial⟩
            case measure => simp [intOf]; omega
        · obtain rfl : j = 8 := by omega
          have hz : b / 2 ^ 8 = 0 := Nat.div_eq_of_lt hb
          have HX : Hid (x = crcF s (k + 1)) := Lib.hid HI.out
          rw [hz, Nat.xor_zero]
          go_wp2_with fail
          go_roundw
          case rel => exact ⟨k + 1, x, by omega, by go_num, rfl, HX, by trivial⟩
          case measure => simp [intOf]; omega
    · obtain rfl : k = s.size := by omega
      have HC : Hid (crc s = 4294967295 - r) := Lib.hid (by rw [hr.out]; rfl)
      have hmax : bits .xor .u32 IntKind.u32.max (r : Int) = ((4294967295 - r : Nat) : Int) := by
        rw [← xor_not hr2]
        exact xor_u32 4294967295 r (by decide) hr2
      go_wp2_with fail
      all_goals go_ret
      all_goals exact ⟨ret_int (by rw [HC.out]), rfl⟩

set_option maxHeartbeats 1000000 in
theorem refSum_any (s : ByteArray) (w : World) (hs : s.size ≤ 9223372036854775807) : Calls Try.prog 35 #[.string s] w fun e w' => e = .returned (.int .u32 (crc s)) ∧ w = w' := by
  go_enter Try.func35, Try.ntmps35
  go_wp2_with fail
  go_loopw [3, 4] (fun n i wr => ∃ (k : Nat) (r : Nat), k ≤ s.size ∧ i = .int .i64 k ∧ n = .int .u32 r ∧ Hid (r = crcF s k) ∧ wr = w) (fun _ i _ => s.size - (intOf i).toNat)
  case atStart => exact ⟨0, 4294967295, Nat.zero_le _, rfl, rfl, Lib.hid rfl, rfl⟩
  case round =>
    obtain ⟨k, r, hk, rfl, rfl, hr, rfl⟩ := hrel
    have hr2 : r < 4294967296 := by rw [hr.out]; exact crcF_lt s k
    by_cases hlt : k < s.size
    · have hb := byteAt_lt s k
      have E2 : Hid (crcB 8 0 r (byteAt s k) = crcF s (k + 1)) := Lib.hid (by rw [hr.out]; rfl)
      have eb : byteAt s k = s[k].toNat := byteAt_of hlt
      clear hr
      go_wp2_with fail
      go_loopw [3, 5] (fun n i wr2 => ∃ (j : Nat) (x : Nat), j ≤ 8 ∧ i = .int .i64 j ∧ n = .int .u32 x ∧ x < 4294967296 ∧ Hid (crcB (8 - j) j x (byteAt s k) = crcF s (k + 1)) ∧ wr2 = wr) (fun _ i _ => 8 - (intOf i).toNat)
      case atStart => exact ⟨0, r, by omega, rfl, rfl, hr2, E2, rfl⟩
      case round =>
        clear E2
        obtain ⟨j, x, hj, rfl, rfl, hx, HI, rfl⟩ := hrel
        by_cases hlt2 : j < 8
        · have HI2 : Hid (crcB (8 - (j + 1)) (j + 1) (crcBit x (byteAt s k / 2 ^ j)) (byteAt s k) = crcF s (k + 1)) := Lib.hid (by
            have h := HI.out
            rw [show 8 - j = (8 - (j + 1)) + 1 by omega] at h
            exact h)
          have ht : ((s[k].toNat : Int) / 2 ^ j).tmod 2 = (((byteAt s k / 2 ^ j) % 2 : Nat) : Int) := by
            rw [← eb, show ((byteAt s k : Nat) : Int) / 2 ^ j = ((byteAt s k / 2 ^ j : Nat) : Int) by push_cast; rfl, Int.tmod_eq_emod_of_nonneg (Int.natCast_nonneg _)]
            generalize byteAt s k / 2 ^ j = m
            omega
          by_cases hc : x % 2 = (byteAt s k / 2 ^ j) % 2
          · have HN : Hid (crcBit x (byteAt s k / 2 ^ j) = x / 2) := Lib.hid (by unfold crcBit; rw [if_pos hc])
            have htu : ((x : Int) % 2 != ((s[k].toNat : Int) / 2 ^ j).tmod 2) = false := by rw [ht]; revert hc; generalize byteAt s k / 2 ^ j = m; intro hc; simp; omega
            clear ht hc HI
            go_wp2_with fail
            go_roundw
            case rel => exact ⟨j + 1, x / 2, by omega, by go_num, by go_num, by omega, Lib.hid (by rw [← HI2.out, HN.out]), by trivial⟩
            case measure => simp [intOf]; omega
          · have HN : Hid (crcBit x (byteAt s k / 2 ^ j) = (x / 2) ^^^ poly) := Lib.hid (by unfold crcBit; rw [if_neg hc])
            have htu : ((x : Int) % 2 != ((s[k].toNat : Int) / 2 ^ j).tmod 2) = true := by rw [ht]; revert hc; generalize byteAt s k / 2 ^ j = m; intro hc; simp; omega
            have hx2 : (x / 2) ^^^ poly < 4294967296 := Nat.xor_lt_two_pow (n := 32) (by omega) (by decide)
            have e3 : bits .xor .u32 ((x : Int) / 2) 3988292384 = (((x / 2) ^^^ poly : Nat) : Int) := xor_u32 (x / 2) 3988292384 (by omega) (by decide)
            clear ht hc HI
            go_wp2_with fail
            go_roundw
            case rel => exact ⟨j + 1, (x / 2) ^^^ poly, by omega, by go_num, rfl, hx2, Lib.hid (by rw [← HI2.out, HN.out]), by trivial⟩
            case measure => simp [intOf]; omega
        · obtain rfl : j = 8 := by omega
          have HX : Hid (x = crcF s (k + 1)) := Lib.hid HI.out
          go_wp2_with fail
          go_roundw
          case rel => exact ⟨k + 1, x, by omega, by go_num, rfl, HX, by trivial⟩
          case measure => simp [intOf]; omega
    · obtain rfl : k = s.size := by omega
      have HC : Hid (crc s = 4294967295 - r) := Lib.hid (by rw [hr.out]; rfl)
      go_wp2_with fail
      all_goals go_ret
      all_goals exact ⟨ret_int (by rw [HC.out]; omega), rfl⟩
end Go.Proofs.Ytcgnalpcbcpmkaa
