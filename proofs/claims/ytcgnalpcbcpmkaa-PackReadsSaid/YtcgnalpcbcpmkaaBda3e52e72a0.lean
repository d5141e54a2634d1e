/- Several texts in one: Sum, Coded, Put, Encode. -/
import Derived.OneCell
import Derived.Test.YtcgnalpcbcpmkaaBd62db7b8b90
import Derived.Test.YtcgnalpcbcpmkaaBd298c705468
import Derived.Test.YtcgnalpcbcpmkaaBd16973207eb
import Derived.Test.YtcgnalpcbcpmkaaBdde16ed6342
import Derived.Test.YtcgnalpcbcpmkaaBd449dd27526
/- The walks of pack.Sum and of the document's Sum: both tell crc. -/
namespace Go.Proofs.Ytcgnalpcbcpmkaa
open Go.RowKit

set_option maxHeartbeats 1000000 in
theorem sum_any (s : ByteArray) (w : World) (hs : s.size ≤ 9223372036854775807) : Calls Try.prog 34 #[.string s] w fun e w' => e = .returned (.int .u32 (crc s)) ∧ w = w' := by
  go_enter Try.func34, Try.ntmps34
  go_wp2_with fail
  go_loopw [3, 8] (fun n i wr => ∃ (k : Nat) (r : Nat), k ≤ s.size ∧ i = .int .i64 k ∧ n = .int .u32 r ∧ Hid (r = crcF s k) ∧ wr = w) (fun _ i _ => s.size - (intOf i).toNat)
  case atStart => exact ⟨0, 4294967295, Nat.zero_le _, rfl, rfl, Lib.hid rfl, rfl⟩
  case round =>
    obtain ⟨k, r, hk, rfl, rfl, hr, rfl⟩ := hrel
    have hr2 : r < 4294967296 := by rw [hr.out]; exact crcF_lt s k
    by_cases hlt : k < s.size
    · have hb := byteAt_lt s k
      have e1 : bits .xor .u32 (r : Int) ((s[k].toNat : Int) % 4294967296) = ((r ^^^ byteAt s k : Nat) : Int) := by
        have : ((s[k].toNat : Int) % 4294967296) = ((byteAt s k : Nat) : Int) := by rw [byteAt_of hlt] at hb ⊢; omega
        rw [this]
        exact xor_u32 _ _ hr2 (by omega)
      have E2 : Hid (crcB 8 0 r (byteAt s k) = crcF s (k + 1)) := Lib.hid (by rw [hr.out]; rfl)
      clear hr
      go_wp2_with fail
      clear e1
      generalize byteAt s k = b at *
      go_loopw [3, 17] (fun n i wr2 => ∃ (j : Nat) (x : Nat), j ≤ 8 ∧ i = .int .i64 j ∧ n = .int .u32 ((x ^^^ (b / 2 ^ j) : Nat) : Int) ∧ x < 4294967296 ∧ Hid (crcB (8 - j) j x b = crcF s (k + 1)) ∧ wr2 = wr) (fun _ i _ => 8 - (intOf i).toNat)
      case atStart => exact ⟨0, r, by omega, rfl, by simp, hr2, E2, rfl⟩
      case round =>
        clear E2
        obtain ⟨j, x, hj, rfl, rfl, hx, HI, rfl⟩ := hrel
        by_cases hlt2 : j < 8
        · have hbj : b / 2 ^ j < 4294967296 := Nat.lt_of_le_of_lt (Nat.div_le_self _ _) (by omega)
          have hv : x ^^^ (b / 2 ^ j) < 4294967296 := Nat.xor_lt_two_pow (n := 32) hx hbj
          have HI2 : Hid (crcB (8 - (j + 1)) (j + 1) (crcBit x (b / 2 ^ j)) b = crcF s (k + 1)) := Lib.hid (by
            have h := HI.out
            rw [show 8 - j = (8 - (j + 1)) + 1 by omega] at h
            exact h)
          have e2 := and_u32 _ hv
          have hhalf : (((x ^^^ (b / 2 ^ j) : Nat) : Int) / 2) = (((x / 2) ^^^ (b / 2 ^ (j + 1)) : Nat) : Int) := by
            rw [← xor_half]; omega
          have HH := Lib.hid hhalf
          by_cases hc : x % 2 = (b / 2 ^ j) % 2
          · have hm : ((x ^^^ (b / 2 ^ j)) % 2 : Nat) = 0 := by rw [xor_low, if_pos hc]
            have HN : Hid (crcBit x (b / 2 ^ j) = x / 2) := Lib.hid (by unfold crcBit; rw [if_pos hc])
            have hx2 : x / 2 < 4294967296 := by omega
            rw [hm] at e2
            clear hc hm HI
            generalize hq : x ^^^ (b / 2 ^ j) = q at *
            clear hq
            go_wp2_with fail
            go_roundw
            case rel => exact ⟨j + 1, x / 2, by omega, by go_num, rfl, hx2, Lib.hid (by rw [← HI2.out, HN.out]), by trivial⟩
            case measure => simp [intOf]; omega
          · have hm : ((x ^^^ (b / 2 ^ j)) % 2 : Nat) = 1 := by rw [xor_low, if_neg hc]
            have HN : Hid (crcBit x (b / 2 ^ j) = (x / 2) ^^^ poly) := Lib.hid (by unfold crcBit; rw [if_neg hc])
            have hx2 : (x / 2) ^^^ poly < 4294967296 := Nat.xor_lt_two_pow (n := 32) (by omega) (by decide)
            have e3 : bits .xor .u32 ((((x / 2) ^^^ (b / 2 ^ (j + 1)) : Nat) : Int)) 3988292384 = (((x / 2) ^^^ poly ^^^ (b / 2 ^ (j + 1)) : Nat) : Int) := by
              rw [← xor_half_poly, ← xor_half]
              exact xor_u32 _ 3988292384 (by omega) (by decide)
            rw [hm] at e2
            clear hc hm HI
            generalize hq : x ^^^ (b / 2 ^ j) = q at *
            clear hq
            go_wp2_with fail
            go_roundw
            case rel => exact ⟨j + 1, (x / 2) ^^^ poly, by omega, by go_num, rfl, hx2, Lib.hid (by rw [← HI2.out, HN.out]), by trivial⟩
            case measure => simp [intOf]; omega
        · obtain rfl : j = 8 := by omega
          have hz : b / 2 ^ 8 = 0 := Nat.div_eq_of_lt hb
          have HX : Hid (x = crcF s (k + 1)) := Lib.hid HI.out
          rw [hz, Nat.xor_zero]
          go_wp2_with fail
          go_roundw
          case rel => exact ⟨k + 1, x, by omega, by go_num, rfl, HX, by trivial⟩
          case measure => simp [intOf]; omega
    · obtain rfl : k = s.size := by omega
      have HC : Hid (crc s = 4294967295 - r) := Lib.hid (by rw [hr.out]; rfl)
      have hmax : bits .xor .u32 IntKind.u32.max (r : Int) = ((4294967295 - r : Nat) : Int) := by
        rw [← xor_not hr2]
        exact xor_u32 4294967295 r (by decide) hr2
      go_wp2_with fail
      all_goals go_ret
      all_goals exact ⟨ret_int (by rw [HC.out]), rfl⟩

set_option maxHeartbeats 1000000 in
theorem refSum_any (s : ByteArray) (w : World) (hs : s.size ≤ 9223372036854775807) : Calls Try.prog 35 #[.string s] w fun e w' => e = .returned (.int .u32 (crc s)) ∧ w = w' := by
  go_enter Try.func35, Try.ntmps35
  go_wp2_with fail
  go_loopw [3, 4] (fun n i wr => ∃ (k : Nat) (r : Nat), k ≤ s.size ∧ i = .int .i64 k ∧ n = .int .u32 r ∧ Hid (r = crcF s k) ∧ wr = w) (fun _ i _ => s.size - (intOf i).toNat)
  case atStart => exact ⟨0, 4294967295, Nat.zero_le _, rfl, rfl, Lib.hid rfl, rfl⟩
  case round =>
    obtain ⟨k, r, hk, rfl, rfl, hr, rfl⟩ := hrel
    have hr2 : r < 4294967296 := by rw [hr.out]; exact crcF_lt s k
    by_cases hlt : k < s.size
    · have hb := byteAt_lt s k
      have E2 : Hid (crcB 8 0 r (byteAt s k) = crcF s (k + 1)) := Lib.hid (by rw [hr.out]; rfl)
      have eb : byteAt s k = s[k].toNat := byteAt_of hlt
      clear hr
      go_wp2_with fail
      go_loopw [3, 5] (fun n i wr2 => ∃ (j : Nat) (x : Nat), j ≤ 8 ∧ i = .int .i64 j ∧ n = .int .u32 x ∧ x < 4294967296 ∧ Hid (crcB (8 - j) j x (byteAt s k) = crcF s (k + 1)) ∧ wr2 = wr) (fun _ i _ => 8 - (intOf i).toNat)
      case atStart => exact ⟨0, r, by omega, rfl, rfl, hr2, E2, rfl⟩
      case round =>
        clear E2
        obtain ⟨j, x, hj, rfl, rfl, hx, HI, rfl⟩ := hrel
        by_cases hlt2 : j < 8
        · have HI2 : Hid (crcB (8 - (j + 1)) (j + 1) (crcBit x (byteAt s k / 2 ^ j)) (byteAt s k) = crcF s (k + 1)) := Lib.hid (by
            have h := HI.out
            rw [show 8 - j = (8 - (j + 1)) + 1 by omega] at h
            exact h)
          have ht : ((s[k].toNat : Int) / 2 ^ j).tmod 2 = (((byteAt s k / 2 ^ j) % 2 : Nat) : Int) := by
            rw [← eb, show ((byteAt s k : Nat) : Int) / 2 ^ j = ((byteAt s k / 2 ^ j : Nat) : Int) by push_cast; rfl, Int.tmod_eq_emod_of_nonneg (Int.natCast_nonneg _)]
            generalize byteAt s k / 2 ^ j = m
            omega
          by_cases hc : x % 2 = (byteAt s k / 2 ^ j) % 2
          · have HN : Hid (crcBit x (byteAt s k / 2 ^ j) = x / 2) := Lib.hid (by unfold crcBit; rw [if_pos hc])
            have htu : ((x : Int) % 2 != ((s[k].toNat : Int) / 2 ^ j).tmod 2) = false := by rw [ht]; revert hc; generalize byteAt s k / 2 ^ j = m; intro hc; simp; omega
            clear ht hc HI
            go_wp2_with fail
            go_roundw
            case rel => exact ⟨j + 1, x / 2, by omega, by go_num, by go_num, by omega, Lib.hid (by rw [← HI2.out, HN.out]), by trivial⟩
            case measure => simp [intOf]; omega
          · have HN : Hid (crcBit x (byteAt s k / 2 ^ j) = (x / 2) ^^^ poly) := Lib.hid (by unfold crcBit; rw [if_neg hc])
            have htu : ((x : Int) % 2 != ((s[k].toNat : Int) / 2 ^ j).tmod 2) = true := by rw [ht]; revert hc; generalize byteAt s k / 2 ^ j = m; intro hc; simp; omega
            have hx2 : (x / 2) ^^^ poly < 4294967296 := Nat.xor_lt_two_pow (n := 32) (by omega) (by decide)
            have e3 : bits .xor .u32 ((x : Int) / 2) 3988292384 = (((x / 2) ^^^ poly : Nat) : Int) := xor_u32 (x / 2) 3988292384 (by omega) (by decide)
            clear ht hc HI
            go_wp2_with fail
            go_roundw
            case rel => exact ⟨j + 1, (x / 2) ^^^ poly, by omega, by go_num, rfl, hx2, Lib.hid (by rw [← HI2.out, HN.out]), by trivial⟩
            case measure => simp [intOf]; omega
        · obtain rfl : j = 8 := by omega
          have HX : Hid (x = crcF s (k + 1)) := Lib.hid HI.out
          go_wp2_with fail
          go_roundw
          case rel => exact ⟨k + 1, x, by omega, by go_num, rfl, HX, by trivial⟩
          case measure => simp [intOf]; omega
    · obtain rfl : k = s.size := by omega
      have HC : Hid (crc s = 4294967295 - r) := Lib.hid (by rw [hr.out]; rfl)
      go_wp2_with fail
      all_goals go_ret
      all_goals exact ⟨ret_int (by rw [HC.out]; omega), rfl⟩
end Go.Proofs.Ytcgnalpcbcpmkaa
/- The walk of the document's Coded: it tells a graph's bytes. -/
namespace Go.Proofs.Ytcgnalpcbcpmkaa
open Go.RowKit

theorem info_byte : (Try.prog.info? 5).map (fun i => (i.zero, i.size, i.bytes)) = some (some (.int .u8 0), 1, 1) := by kernel_rfl
def byteEnc (n : Int) : List Value := [.int .u8 n]
theorem byte_one1 {a : Int} : ∀ u ∈ (#[.int .u8 a] : Array Value).toList, u.oneCell' = true := by simp [Value.oneCell']
theorem byte_one2 {a b : Int} : ∀ u ∈ (#[.int .u8 a, .int .u8 b] : Array Value).toList, u.oneCell' = true := by simp [Value.oneCell']
theorem byte_one4 {a b c d : Int} : ∀ u ∈ (#[.int .u8 a, .int .u8 b, .int .u8 c, .int .u8 d] : Array Value).toList, u.oneCell' = true := by simp [Value.oneCell']

/-- The bytes of a number, the lowest first. -/
def sumTail : Nat → Nat → List Int
  | 0, _ => []
  | n + 1, x => ((x % 256 : Nat) : Int) :: sumTail n (x / 256)
set_option maxRecDepth 100000 in
/-- A list of bytes that is owned is told as the string of it. -/
theorem own_string {w : World} {base : Nat} {v : Value} {l : List Int} (h : Own byteEnc 1 w base 5 v l) (hl : l ≠ []) : ∃ b d, v = .slice (some ⟨b, 0, none⟩) l.length d ∧ (Go.convert 105 9 (.slice (some ⟨b, 0, none⟩) l.length d)).run Try.prog w = .ok (.string (strOfNums l)) w := by
  rcases h.2 with ⟨rfl, h0⟩ | ⟨g, cap, cur, rfl, hg, hh, hnc, hcm, hcs, htake⟩
  · exact absurd (List.eq_nil_of_length_eq_zero h0) hl
  · refine ⟨g, cap, rfl, run_convert_bytes_arg w 105 5 Try.underlying105 Try.underlying5 g 0 _ cap l rfl (fun i hi => ?_) 9 Try.underlying9⟩
    rw [Nat.zero_add, cell_of_row w g _ cur _ (0, 0) hh]
    have hf : ∀ (l : List Int) (i : Nat), i < l.length → (l.flatMap byteEnc)[i]? = some (.int .u8 (l.getD i 0)) := by
      intro l
      induction l with
      | nil => intro i h; simp at h
      | cons y l ih =>
        intro i h
        cases i with
        | zero => simp [byteEnc]
        | succ i =>
          have := ih i (by simpa using h)
          simpa [byteEnc, List.getD] using this
    have h1 := hf l i hi
    rw [← htake, List.getElem?_take_of_lt (by omega)] at h1
    simpa using h1
theorem bytes_cons (l : List Int) (h : l ≠ []) : bytesL l ≠ [] := by
  cases l with
  | nil => exact absurd rfl h
  | cons n l => simp [bytesL]
theorem nums_cons (g : GraphD) : numsL g ≠ [] := by simp [numsL]

set_option maxRecDepth 100000 in
set_option maxHeartbeats 4000000 in
theorem coded_any (A A' : Option Addr) (c c' : Nat) (g : GraphD) (w : World) (hG : GraphAt w A c A' c' g) (hV : Valid g) :
    Calls Try.prog 32 #[gV A c A' c' g] w fun e w' => e = .returned (.string (coded g)) ∧ Below w.heap.size w w' := by
  have HN := Lib.hid (nums_num hV)
  obtain ⟨i0, hi, hz0, hz1, hz2⟩ := info_parts' info_byte
  go_enter Try.func32, Try.ntmps32
  go_wp2_with fail
  refine (numbers_any _ _ _ _ g _ (hG.ext (by go_grown)) hV).mono ?_
  rintro e w1 ⟨B, d, rfl, hS, hb1⟩
  have hb2 : Below w.heap.size w w1 := ext_trans (by go_grown) hb1
  have hlen := HN.out.2
  go_wp2_with fail
  go_loopw [3, 5] (fun o ii wr => ∃ (i : Nat) (acc : List Int), i ≤ (numsL g).length ∧ ii = .int .i64 i ∧ acc.length = 2 * i ∧ Hid (acc ++ bytesL ((numsL g).drop i) = bytesL (numsL g)) ∧ Own byteEnc 1 wr w1.heap.size 5 o acc ∧ Below w1.heap.size w1 wr)
    (fun _ ii _ => (numsL g).length - (intOf ii).toNat)
  case atStart => exact ⟨0, [], Nat.zero_le _, rfl, rfl, Lib.hid rfl, Own.nil, Below.refl _ _⟩
  case round =>
    obtain ⟨i, acc, hile, rfl, hacc, HI, hown, hb⟩ := hrel
    have hzw := hb.size
    by_cases hlt : i < (numsL g).length
    case pos =>
      obtain ⟨x, hx⟩ := get_lt hlt
      obtain ⟨nb, no, hSS⟩ := hS
      obtain ⟨rfl, hnb, hx0, _⟩ := hSS i x hx
      have S0 : wr.cell? ⟨nb, no + i, none⟩ = some (.int .i64 x) := by simpa using hx0.now hb
      have hxn := HN.out.1 x (List.mem_of_getElem? hx)
      have HI2 : Hid (acc ++ [x / 256, x % 256] ++ bytesL ((numsL g).drop (i + 1)) = bytesL (numsL g)) := Lib.hid (by
        rw [← HI.out, drop_cons hx, bytesL, bytesL, List.flatMap_cons]
        simp)
      clear HI hx hSS hx0
      have hltI : (i : Int) < ((numsL g).length : Int) := by omega
      obtain ⟨q0, q1⟩ := hxn
      have e1 : IntKind.u8.wrap (IntKind.i64.wrap (x.tdiv 256)) = x / 256 := by
        rw [Int.tdiv_eq_ediv_of_nonneg q0, IntKind.wrap_i64, IntKind.wrap_u8]; omega
      have e2 : IntKind.u8.wrap (x.tmod 256) = x % 256 := by
        rw [Int.tmod_eq_emod_of_nonneg q0, IntKind.wrap_u8]; omega
      have ecs : (#[.int .u8 (IntKind.u8.wrap (IntKind.i64.wrap (x.tdiv 256))), .int .u8 (IntKind.u8.wrap (x.tmod 256))] : Array Value).toList = [x / 256, x % 256].flatMap byteEnc := by rw [e1, e2]; rfl
      have ECS := Lib.hid ecs
      clear e1 e2 ecs
      go_wp2_with fail
      go_region_held_law (fun w' => w'.cell? ⟨nb, no + i, none⟩ = some (.int .i64 x))
        (first | exact S0 | (exact cell_keep (below_drew ((Below.refl _ wr).alloc (Nat.le_refl _) _)) S0) | (exact cell_keepB (B := w1.heap.size) ((below_drew ((Below.refl _ wr).alloc hzw _)).trans hb8) hnb S0))
        (first | (refine step_append_els (enc := byteEnc) rfl (.tmp 16) (.tmp 29) 105 rfl w1.heap.size 5 i0 _ 1 1 Try.underlying105 hi hz0 hz1 hz2 rfl (by decide) _ acc [x / 256, x % 256] 2 rfl (by decide) rfl (hown.alloc _).drew #[.int .u8 (IntKind.u8.wrap (IntKind.i64.wrap (x.tdiv 256))), .int .u8 (IntKind.u8.wrap (x.tmod 256))] ECS.out _ (Blk.new wr 5 _).drew rfl rfl byte_one2 (by omega) (by decide) (by simp; omega) ?_; intro v' w6 hown6 hb8 _))
      go_wp2_with fail
      go_roundw
      case rel => exact ⟨i + 1, acc ++ [x / 256, x % 256], by omega, by go_num, by simp; omega, HI2, hown6, (hb.trans (below_drew ((Below.refl _ wr).alloc hzw _))).trans hb8⟩
      case measure => simp [intOf]; omega
    have HE : Hid (acc = bytesL (numsL g)) := Lib.hid (by have := HI.out; rw [drop_end (by omega)] at this; simpa [bytesL] using this)
    clear HI
    have hacc2 : acc.length ≤ 1800 := by omega
    clear hacc
    obtain ⟨ob, od, rfl, hcv⟩ := own_string hown (by rw [HE.out]; exact bytes_cons _ (nums_cons g))
    go_wp2_with fail
    refine (refSum_any _ _ (by rw [strOfNums_size]; omega)).mono ?_
    rintro e wq ⟨rfl, rfl⟩
    have HE2 : Hid (crc (strOfNums acc) = crc (strOfNums (bytesL (numsL g)))) := Lib.hid (by rw [HE.out])
    have hq : crc (strOfNums acc) < 4294967296 := by unfold crc; omega
    generalize crc (strOfNums acc) = q at *
    have HQ : Hid (acc ++ [((q % 256 : Nat) : Int), ((q / 256 % 256 : Nat) : Int), ((q / 65536 % 256 : Nat) : Int), ((q / 16777216 % 256 : Nat) : Int)] = bytesL (numsL g) ++ sumBytes (crc (strOfNums (bytesL (numsL g))))) := Lib.hid (by rw [← HE2.out, HE.out]; rfl)
    have hzz : w1.heap.size ≤ wr.heap.size := hzw
    obtain ⟨wo, rfl⟩ : ∃ wo : World, wo = wr := ⟨_, rfl⟩
    have HT : Hid ([((q % 256 : Nat) : Int), ((q / 256 % 256 : Nat) : Int), ((q / 65536 % 256 : Nat) : Int), ((q / 16777216 % 256 : Nat) : Int)] = sumTail 4 q) := Lib.hid (by simp [sumTail, Nat.div_div_eq_div_mul])
    go_wp2_with fail
    go_loopw [3, 6, 7] (fun o nn ii wr => ∃ (i : Nat) (acc : List Int) (x : Nat), i ≤ 4 ∧ ii = .int .i64 i ∧ nn = .int .u32 x ∧ x < 4294967296 ∧ acc.length ≤ 1800 + i ∧ acc ≠ [] ∧ Hid (acc ++ sumTail (4 - i) x = bytesL (numsL g) ++ sumBytes (crc (strOfNums (bytesL (numsL g))))) ∧ Own byteEnc 1 wr w1.heap.size 5 o acc ∧ Below w1.heap.size w1 wr)
      (fun _ _ ii _ => 4 - (intOf ii).toNat)
    case atStart => exact ⟨0, acc, q, by omega, rfl, rfl, hq, by omega, by rw [HE.out]; exact bytes_cons _ (nums_cons g), Lib.hid (by rw [← HQ.out, HT.out]), hown, hb⟩
    case round =>
      clear hown hb hq HQ HT hacc2 hcv HE HE2
      obtain ⟨i, acc, x, hi4, rfl, rfl, hx, hacc, hne, HI, hown, hb⟩ := hrel
      have hzw := hb.size
      by_cases hlt : i < 4
      case neg =>
        obtain rfl : i = 4 := by omega
        have HE : Hid (strOfNums acc = coded g) := Lib.hid (by
          have h := HI.out
          rw [show sumTail (4 - 4) x = [] from rfl, List.append_nil] at h
          rw [h]
          rfl)
        obtain ⟨ob, od, rfl, hcv⟩ := own_string hown hne
        go_wp2_with fail
        go_ret
        exact ⟨by rw [HE.out]; rfl, ext_trans hb2 hb⟩
      have e1 : IntKind.u8.wrap ((x : Int) % 256) = ((x % 256 : Nat) : Int) := by rw [IntKind.wrap_u8]; omega
      have HI2 : Hid (acc ++ [((x % 256 : Nat) : Int)] ++ sumTail (4 - (i + 1)) (x / 256) = bytesL (numsL g) ++ sumBytes (crc (strOfNums (bytesL (numsL g))))) := Lib.hid (by
        rw [← HI.out, show 4 - i = (4 - (i + 1)) + 1 by omega]
        simp [sumTail])
      clear HI
      have ecs : (#[.int .u8 ((x : Int) % 256)] : Array Value).toList = [((x % 256 : Nat) : Int)].flatMap byteEnc := by simp [byteEnc]
      clear e1
      go_wp2_with (at_builtin; refine wpList_append_els (enc := byteEnc) rfl (.tmp 38) (.tmp 42) 105 rfl w1.heap.size 5 i0 _ 1 1 Try.underlying105 hi hz0 hz1 hz2 rfl (by decide) _ acc [((x % 256 : Nat) : Int)] 1 rfl rfl hown _ ecs _ rfl rfl rfl byte_one1 (by omega) (by decide) hzw ?_; intro v' w6 hown6 hb8 _)
      go_roundw
      case rel => exact ⟨i + 1, acc ++ [((x % 256 : Nat) : Int)], x / 256, by omega, by go_num, by go_num, by omega, by simp; omega, by simp, HI2, hown6, hb.trans hb8⟩
      case measure => simp [intOf]; omega
end Go.Proofs.Ytcgnalpcbcpmkaa
/- The walk of the pack's writer: put adds numbers' bytes. -/
namespace Go.Proofs.Ytcgnalpcbcpmkaa
open Go.RowKit

theorem Own.far {α : Type} {enc : α → List Value} {sz : Nat} {w : World} {base : Nat} {e t : TypeId} {v u : Value} {l : List α} {p : Addr} {cs : Array Value} (h : Own enc sz w base e v l) (hb : Blk w p.block t cs) (ht : t ≠ e) : Own enc sz (w.setCell p u) base e v l :=
  ownsRow_setCell_other h (fun hh => h.other hb ht hh.symm) u
/-- Blocks but one, and but bytes', stay. -/
def Keeps (wb : Nat) (w w' : World) : Prop := ∀ b t cs, b ≠ wb → t ≠ 5 → Blk w b t cs → Blk w' b t cs
theorem Keeps.refl (wb : Nat) (w : World) : Keeps wb w w := fun _ _ _ _ _ h => h
theorem Keeps.trans {wb : Nat} {a b c : World} (h : Keeps wb a b) (k : Keeps wb b c) : Keeps wb a c := fun x t cs h1 h2 h3 => k x t cs h1 h2 (h x t cs h1 h2 h3)
/-- What the writer holds behind a put. -/
def Put (wb base : Nat) (acc ns : List Int) (w : World) (e : Ending) (w' : World) : Prop :=
  ∃ v', e = .returned (.tuple #[]) ∧ Blk w' wb 118 #[v'] ∧ Own byteEnc 1 w' base 5 v' (acc ++ bytesL ns) ∧ Below base w w' ∧ Keeps wb w w'

set_option maxRecDepth 100000 in
set_option maxHeartbeats 4000000 in
theorem put_any (wb base nb m : Nat) (v : Value) (acc ns : List Int) (w : World) (hW : Blk w wb 118 #[v]) (hO : Own byteEnc 1 w base 5 v acc) (hB : base ≤ wb) (hN : Blk w nb 3 (ns.map (Value.int .i64)).toArray) (hnw : nb ≠ wb) (hm : ns.length = m)
    (hnum : ∀ n, n ∈ ns → Num n) (hlen : acc.length + 2 * m ≤ 10000) :
    Calls Try.prog 91 #[.pointer (some ⟨wb, 0, none⟩), .slice (some ⟨nb, 0, none⟩) m m] w (Put wb base acc ns w) := by
  subst hm
  have hbw := hW.lt
  obtain ⟨i0, hi, hz0, hz1, hz2⟩ := info_parts' info_byte
  go_enter Try.func91, Try.ntmps91
  go_wp2_with fail
  go_loopw [8] (fun kk wr => ∃ (k : Nat) (v' : Value), k ≤ ns.length ∧ kk = .int .i64 k ∧ Blk wr wb 118 #[v'] ∧ Own byteEnc 1 wr base 5 v' (acc ++ bytesL (ns.take k)) ∧ Below base w wr ∧ Keeps wb w wr)
    (fun kk _ => ns.length - (intOf kk).toNat)
  case atStart => exact ⟨0, v, Nat.zero_le _, rfl, hW, by simpa [bytesL] using hO, Below.refl _ _, Keeps.refl _ _⟩
  case round =>
    obtain ⟨k, v', hk, rfl, hW', hown, hb, hkeep⟩ := hrel
    by_cases hlt : k < ns.length
    case neg =>
      go_wp2_with fail
      refine bodyPost_ret (v := .tuple #[]) (by simp [results, Try.results91]) rfl ?_
      exact ⟨v', rfl, hW', by rw [List.take_of_length_le (by omega)] at hown; exact hown, hb, hkeep⟩
    obtain ⟨x, hx⟩ := get_lt hlt
    have hN' := hkeep _ _ _ hnw (by decide) hN
    have hxc : wr.cell? ⟨nb, k, none⟩ = some (.int .i64 x) := by rw [hN'.cell]; simp [hx]
    obtain ⟨b1, b2, b3⟩ := hW'.facts
    have hw0 : wr.cell? ⟨wb, 0, none⟩ = some v' := b1 0
    have hbase : base ≤ wr.heap.size := by omega
    have hxn := hnum x (List.mem_of_getElem? hx)
    obtain ⟨q0, q1⟩ := hxn
    have hbl : (acc ++ bytesL (ns.take k)).length + 2 ≤ 1000000 := by
      have := len_flatMap_le (f := fun n : Int => [n / 256, n % 256]) (m := 2) (ns.take k) (fun _ _ => by simp)
      rw [List.length_take] at this
      rw [List.length_append, bytesL]
      omega
    have HI2 : Hid ((acc ++ bytesL (ns.take k)) ++ [x / 256, x % 256] = acc ++ bytesL (ns.take (k + 1))) := Lib.hid (by
      rw [List.take_add_one, hx, List.append_assoc]
      simp [bytesL])
    clear b1 b2 hx hN'
    go_wp2_with (at_builtin; refine wpList_append_els (enc := byteEnc) rfl (.tmp 16) (.tmp 22) 105 rfl base 5 i0 _ 1 1 Try.underlying105 hi hz0 hz1 hz2 rfl (by decide) _ (acc ++ bytesL (ns.take k)) [x / 256, x % 256] 2 rfl rfl hown _ rfl _ rfl rfl rfl byte_one2 hbl (by decide) hbase ?_; intro v2 w6 hown6 hb8 hkp; obtain ⟨A6, d6, rfl⟩ := hown6.form; have hW6 := hkp _ _ _ hW' (by decide); obtain ⟨c1, c2, c3⟩ := hW6.facts; have c1' : w6.cell? ⟨wb, 0, none⟩ = some v' := c1 0)
    go_roundw
    case rel =>
      refine ⟨k + 1, _, by omega, by go_num, hW6.set_ 0 _, by rw [← HI2.out]; exact Own.far (h := (by simpa using hown6)) (p := ⟨wb, 0, none⟩) (t := 118) (cs := #[v']) hW6 (by decide), (hb.trans hb8).trans ?_, fun b t cs h1 h2 h3 => (hkp b t cs (hkeep b t cs h1 h2 h3) h2).far h1 _⟩
      exact (Below.refl _ _).setCell hB _
    case measure => simp [intOf]; omega
end Go.Proofs.Ytcgnalpcbcpmkaa
/- The walk of pack.Encode: it tells a graph's bytes. -/
namespace Go.Proofs.Ytcgnalpcbcpmkaa
open Go.RowKit

theorem bytes_append (a b : List Int) : bytesL (a ++ b) = bytesL a ++ bytesL b := by simp [bytesL]
theorem bytes_len (a : List Int) : (bytesL a).length ≤ a.length * 2 := len_flatMap_le a (fun _ _ => by simp)

set_option maxRecDepth 100000 in
set_option maxHeartbeats 4000000 in
theorem encode_main (A A' : Option Addr) (c c' : Nat) (g : GraphD) (w : World) (hG : GraphAt w A c A' c' g) (hV : Valid g) :
    Calls Try.prog 33 #[gV A c A' c' g] w fun e w' => e = .returned (.tuple #[.string (coded g), .int .i64 0]) ∧ Below w.heap.size w w' := by
  have HN := Lib.hid (nums_num hV)
  have HV := Lib.hid (valid_ok hV)
  have hnl := hV.nl; have hne := hV.ne; have hh0 := hV.h0; have hh1 := hV.h1
  obtain ⟨i0, hi, hz0, hz1, hz2⟩ := info_parts' info_byte
  have HL : Hid ((bytesL (numsL g)).length ≤ 1800) := Lib.hid (by have := bytes_len (numsL g); have := HN.out.2; omega)
  go_enter Try.func33, Try.ntmps33
  go_wp2_with fail
  refine (check_any _ _ _ _ g _ (hG.ext (by go_grown))).mono ?_
  rw [HV.out]
  rintro e w1 ⟨rfl, hb1⟩
  obtain ⟨B0, c1, c2, c3⟩ := (Blk.new w 28 (gC A c A' c' g)).go hb1
  have hb2 : Below w.heap.size w w1 := ext_trans (by go_grown) hb1
  have hG1 := hG.ext hb2
  clear hb1 hG
  go_wp2_with fail
  refine (put_any w1.heap.size w1.heap.size (w1.heap.size + 1) 3 (.slice none 0 0) [] [g.h, (g.lives.length : Int), (g.edges.length : Int)] _ ((Blk.new w1 _ _).alloc _) Own.nil (Nat.le_refl _) (Blk.new_ (by simp)) (by omega) rfl (by simp [Num]; omega) (by simp)).mono ?_
  rintro e w2 ⟨v2, rfl, hW, hO, hb3, hk3⟩
  have hb4 : Below w1.heap.size w1 w2 := ((Below.refl _ w1).alloc (Nat.le_refl _) _ |>.alloc (by simp) _).trans hb3
  have hGn := hG1.ext hb4
  have hB1 := B0.ext hb4
  obtain ⟨d1, d2, d3⟩ := hB1.facts
  have hzw2 : w1.heap.size < w2.heap.size := hW.lt
  have HI0 : Hid (([] ++ bytesL [g.h, (g.lives.length : Int), (g.edges.length : Int)]) ++ bytesL (g.lives.flatMap lifeNums ++ g.edges.flatMap edgeNums) = bytesL (numsL g)) := Lib.hid (by rw [List.nil_append, ← bytes_append]; rfl)
  clear c1 c2 c3
  go_wp2_with fail
  go_loopw [34] (fun kk wr => ∃ (k : Nat) (acc : List Int) (v' : Value), k ≤ g.lives.length ∧ kk = .int .i64 k ∧ Blk wr w1.heap.size 118 #[v'] ∧ Own byteEnc 1 wr w1.heap.size 5 v' acc ∧ Hid (acc ++ bytesL ((g.lives.drop k).flatMap lifeNums ++ g.edges.flatMap edgeNums) = bytesL (numsL g)) ∧ Below w1.heap.size w1 wr)
    (fun kk _ => g.lives.length - (intOf kk).toNat)
  case atStart => exact ⟨0, _, v2, Nat.zero_le _, rfl, hW, hO, HI0, hb4⟩
  case round =>
    clear hW hO HI0 hb4 hb3 hk3 hGn hB1 d1 d2 d3
    obtain ⟨k, acc, v', hk, rfl, hW, hO, HI, hb⟩ := hrel
    have hGr := hG1.ext hb
    have hwl := hW.lt
    have hacc : acc.length ≤ 1800 := by
      have h1 := HL.out
      rw [← HI.out, List.length_append] at h1
      omega
    by_cases hlt : k < g.lives.length
    case pos =>
      obtain ⟨x, hx⟩ := get_lt hlt
      obtain ⟨be, oe, hE⟩ := hGr.lives
      obtain ⟨rfl, hbe, ⟨⟨x0, x1⟩, _⟩⟩ := hE k x hx
      have x0' : wr.cell? _ = _ := x0
      have x1' : wr.cell? _ = _ := x1
      have hxl := hV.lives x (List.mem_of_getElem? hx)
      have HI2 : Hid (acc ++ bytesL [x.f, x.t] ++ bytesL ((g.lives.drop (k + 1)).flatMap lifeNums ++ g.edges.flatMap edgeNums) = bytesL (numsL g)) := Lib.hid (by
        rw [← HI.out, drop_cons hx, List.flatMap_cons, List.append_assoc, List.append_assoc, ← bytes_append]; rfl)
      clear hE hx HI x0 x1
      obtain ⟨wo, rfl⟩ : ∃ wo : World, wo = wr := ⟨_, rfl⟩
      go_wp2_with fail
      refine (put_any w1.heap.size w1.heap.size (wo.heap.size + 1) 2 v' acc [x.f, x.t] _ ((hW.alloc _).alloc _) ((hO.alloc _).alloc _) (Nat.le_refl _) (Blk.new_ (by simp)) (by omega) rfl (by simp [Num]; omega) (by omega)).mono ?_
      rintro e w3 ⟨v3, rfl, hW3, hO3, hb3, hk3⟩
      have hb5 : Below w1.heap.size wo w3 := ((Below.refl _ wo).alloc (by omega) _ |>.alloc (by simp; omega) _).trans hb3
      go_wp2_with fail
      go_roundw
      case rel => exact ⟨k + 1, _, v3, by omega, by go_num, hW3, hO3, HI2, hb.trans hb5⟩
      case measure => simp [intOf]; omega
    have HI3 : Hid (acc ++ bytesL (g.edges.flatMap edgeNums) = bytesL (numsL g)) := Lib.hid (by rw [← HI.out, drop_end (by omega)]; rfl)
    clear HI
    have hB1 := B0.ext hb
    obtain ⟨d1, d2, d3⟩ := hB1.facts
    go_wp2_with fail
    go_loopw [49] (fun jj wr => ∃ (j : Nat) (acc : List Int) (v' : Value), j ≤ g.edges.length ∧ jj = .int .i64 j ∧ Blk wr w1.heap.size 118 #[v'] ∧ Own byteEnc 1 wr w1.heap.size 5 v' acc ∧ Hid (acc ++ bytesL ((g.edges.drop j).flatMap edgeNums) = bytesL (numsL g)) ∧ Below w1.heap.size w1 wr)
      (fun jj _ => g.edges.length - (intOf jj).toNat)
    case atStart => exact ⟨0, acc, v', Nat.zero_le _, rfl, hW, hO, HI3, hb⟩
    case round =>
      clear hW hO HI3 hb hB1 d1 d2 d3 hwl hacc hGr
      obtain ⟨j, acc, v', hj, rfl, hW, hO, HI, hb⟩ := hrel
      have hGr := hG1.ext hb
      have hwl := hW.lt
      have hacc : acc.length ≤ 1800 := by
        have h1 := HL.out
        rw [← HI.out, List.length_append] at h1
        omega
      by_cases hltj : j < g.edges.length
      case pos =>
        obtain ⟨x, hx⟩ := get_lt hltj
        obtain ⟨be, oe, hE⟩ := hG1.edges
        obtain ⟨rfl, hbe0, ⟨⟨x0, x1, L, cl, x2, hl1, hl2, hL⟩, _⟩⟩ := hE j x hx
        have x0' := x0.now hb
        have x1' := x1.now hb
        have x2' := x2.now hb
        have hbe : be < wr.heap.size := by have := hb.size; omega
        have hxe := hV.edges x (List.mem_of_getElem? hx)
        have h6 := hxe.six; have ha0 := hxe.a0; have ha1 := hxe.a1; have hbb0 := hxe.b0; have hbb1 := hxe.b1
        have HI2 : Hid (acc ++ bytesL [x.a, x.b, (x.legs.length : Int)] ++ bytesL (x.legs.flatMap legNums ++ (g.edges.drop (j + 1)).flatMap edgeNums) = bytesL (numsL g)) := Lib.hid (by
          rw [← HI.out, drop_cons hx, List.flatMap_cons, List.append_assoc, ← bytes_append]; simp [edgeNums])
        clear hE hx HI x0 x1 x2
        obtain ⟨wo, rfl⟩ : ∃ wo : World, wo = wr := ⟨_, rfl⟩
        go_wp2_with fail
        refine (put_any w1.heap.size w1.heap.size (wo.heap.size + 1) 3 v' acc [x.a, x.b, (x.legs.length : Int)] _ ((hW.alloc _).alloc _) ((hO.alloc _).alloc _) (Nat.le_refl _) (Blk.new_ (by simp)) (by omega) rfl (by simp [Num]; omega) (by omega)).mono ?_
        rintro e w3 ⟨v3, rfl, hW3, hO3, hb3, hk3⟩
        have BE := hk3 _ _ _ (by omega) (by decide) ((Blk.new wo 99 #[.int .i64 x.a, .int .i64 x.b, .slice L x.legs.length cl]).alloc _)
        obtain ⟨f1, f2, f3⟩ := BE.facts
        have hb5 : Below w1.heap.size wo w3 := ((Below.refl _ wo).alloc (by omega) _ |>.alloc (by simp; omega) _).trans hb3
        have hb6 := hb.trans hb5
        obtain ⟨bl, ol, hLL⟩ := hL
        clear x0' x1' x2' hW hO hb3 hk3 hb5 hacc hwl f3
        go_wp2_with fail
        go_loopw [66] (fun ii wr => ∃ (i : Nat) (acc : List Int) (v' : Value), i ≤ x.legs.length ∧ ii = .int .i64 i ∧ Blk wr w1.heap.size 118 #[v'] ∧ Own byteEnc 1 wr w1.heap.size 5 v' acc ∧ Hid (acc ++ bytesL ((x.legs.drop i).flatMap legNums ++ (g.edges.drop (j + 1)).flatMap edgeNums) = bytesL (numsL g)) ∧ Below w1.heap.size w1 wr)
          (fun ii _ => x.legs.length - (intOf ii).toNat)
        case atStart => exact ⟨0, _, v3, Nat.zero_le _, rfl, hW3, hO3, HI2, hb6⟩
        case round =>
          clear hW3 hO3 HI2 hb6 BE f1 f2
          obtain ⟨i, acc, v', hi', rfl, hW, hO, HI, hb⟩ := hrel
          have hwl := hW.lt
          have hacc : acc.length ≤ 1800 := by
            have h1 := HL.out
            rw [← HI.out, List.length_append] at h1
            omega
          by_cases hlti : i < x.legs.length
          case neg =>
            have HE : Hid (acc ++ bytesL ((g.edges.drop (j + 1)).flatMap edgeNums) = bytesL (numsL g)) := Lib.hid (by rw [← HI.out, drop_end (l := x.legs) (k := i) (by omega)]; rfl)
            go_wp2_with fail
            go_roundw
            case rel => exact ⟨j + 1, acc, v', by omega, by go_num, hW, hO, HE, hb⟩
            case measure => simp [intOf]; omega
          obtain ⟨lg, hlg⟩ := get_lt hlti
          obtain ⟨rfl, hbl0, ⟨⟨l0, l1, l2, l3⟩, _⟩⟩ := hLL i lg hlg
          have l0' := l0.now hb
          have l1' := l1.now hb
          have l2' := l2.now hb
          have l3' := l3.now hb
          have hbl : bl < wr.heap.size := by have := hb.size; omega
          have hlo := hxe.legs lg (List.mem_of_getElem? hlg)
          have HI2 : Hid (acc ++ bytesL [lg.f, lg.t, lg.time, lg.cost] ++ bytesL ((x.legs.drop (i + 1)).flatMap legNums ++ (g.edges.drop (j + 1)).flatMap edgeNums) = bytesL (numsL g)) := Lib.hid (by
            rw [← HI.out, drop_cons hlg, List.flatMap_cons, List.append_assoc, List.append_assoc, ← bytes_append]; rfl)
          clear hlg HI l0 l1 l2 l3
          obtain ⟨wo2, rfl⟩ : ∃ wo : World, wo = wr := ⟨_, rfl⟩
          go_wp2_with fail
          refine (put_any w1.heap.size w1.heap.size (wo2.heap.size + 1) 4 v' acc [lg.f, lg.t, lg.time, lg.cost] _ ((hW.alloc _).alloc _) ((hO.alloc _).alloc _) (Nat.le_refl _) (Blk.new_ (by simp)) (by omega) rfl (by simp [Num]; omega) (by omega)).mono ?_
          rintro e w4 ⟨v4, rfl, hW4, hO4, hb4, hk4⟩
          have hb5 : Below w1.heap.size wo2 w4 := ((Below.refl _ wo2).alloc (by omega) _ |>.alloc (by simp; omega) _).trans hb4
          go_wp2_with fail
          go_roundw
          case rel => exact ⟨i + 1, _, v4, by omega, by go_num, hW4, hO4, HI2, hb.trans hb5⟩
          case measure => simp [intOf]; omega
      have HE : Hid (acc = bytesL (numsL g)) := Lib.hid (by rw [← HI.out, drop_end (by omega)]; simp [bytesL])
      have hne2 : acc ≠ [] := by rw [HE.out]; exact bytes_cons _ (nums_cons g)
      obtain ⟨ob, od, rfl, hcv⟩ := own_string hO hne2
      obtain ⟨f1, f2, f3⟩ := hW.facts
      go_wp2_with fail
      refine (sum_any _ _ (by rw [strOfNums_size]; omega)).mono ?_
      rintro e wq ⟨rfl, rfl⟩
      have HE2 : Hid (strOfNums (acc ++ sumBytes (crc (strOfNums acc))) = coded g) := Lib.hid (by rw [HE.out]; rfl)
      have hq : crc (strOfNums acc) < 4294967296 := by unfold crc; omega
      generalize crc (strOfNums acc) = q at *
      have ecs : (#[.int .u8 ((q : Int) % 256), .int .u8 ((q : Int) / 256 % 256), .int .u8 ((q : Int) / 65536 % 256), .int .u8 ((q : Int) / 16777216)] : Array Value).toList = (sumBytes q).flatMap byteEnc := by
        have e4 : (q : Int) / 16777216 = ((q / 16777216 % 256 : Nat) : Int) := by omega
        rw [e4]
        simp [sumBytes, byteEnc]
      have hlen4 : (acc ++ sumBytes q).length = acc.length + 4 := by simp [sumBytes]
      have hne3 : acc ++ sumBytes q ≠ [] := by simp [sumBytes]
      have HLEN := Lib.hid hlen4
      have ECS := Lib.hid ecs
      clear hlen4 ecs
      go_wp2_with (at_builtin; refine wpList_append_els (enc := byteEnc) rfl (.tmp 92) (.tmp 104) 105 rfl w1.heap.size 5 i0 _ 1 1 Try.underlying105 hi hz0 hz1 hz2 rfl (by decide) _ acc (sumBytes q) 4 rfl rfl hO _ ECS.out _ rfl rfl rfl byte_one4 (by omega) (by decide) (by omega) ?_; intro v6 w6 hown6 hb8 _; obtain ⟨ob2, od2, rfl, hcv2⟩ := own_string hown6 hne3; rw [HLEN.out] at hcv2 ⊢)
      go_ret2
      exact ⟨by rw [HE2.out]; rfl, ext_trans hb2 (hb.trans hb8)⟩

set_option maxHeartbeats 1000000 in
theorem encode_any (A A' : Option Addr) (c c' : Nat) (g : GraphD) (w : World) (hG : GraphAt w A c A' c' g) :
    Calls Try.prog 33 #[gV A c A' c' g] w fun e w' => e = .returned (.tuple #[.string (if graphErr g = 0 then coded g else ByteArray.empty), .int .i64 (graphErr g)]) ∧ Below w.heap.size w w' := by
  by_cases h0 : graphErr g = 0
  · rw [if_pos h0, h0]
    exact encode_main A A' c c' g w hG (valid_of h0)
  · rw [if_neg h0]
    have hn : (graphErr g != 0) = true := by simp [h0]
    clear h0
    go_enter Try.func33, Try.ntmps33
    go_wp2_with fail
    refine (check_any _ _ _ _ g _ (hG.ext (by go_grown))).mono ?_
    rintro e w1 ⟨rfl, hb1⟩
    have hb2 : Below w.heap.size w w1 := ext_trans (by go_grown) hb1
    go_wp2_with fail
    go_ret2
    exact ⟨rfl, hb2⟩
end Go.Proofs.Ytcgnalpcbcpmkaa
