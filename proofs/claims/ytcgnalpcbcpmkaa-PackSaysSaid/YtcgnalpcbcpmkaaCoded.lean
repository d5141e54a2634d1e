/- The walk of the document's Coded: it tells a graph's bytes. -/
import Derived.Test.YtcgnalpcbcpmkaaNums
import Derived.Test.YtcgnalpcbcpmkaaSum
namespace Go.Proofs.Ytcgnalpcbcpmkaa
open Go.RowKit

theorem info_byte : (Try.prog.info? 5).map (fun i => (i.zero, i.size, i.bytes)) = some (some (.int .u8 0), 1, 1) := by kernel_rfl
def byteEnc (n : Int) : List Value := [.int .u8 n]
theorem byte_one1 {a : Int} : ∀ u ∈ (#[.int .u8 a] : Array Value).toList, u.oneCell' = true := by simp [Value.oneCell']
theorem byte_one2 {a b : Int} : ∀ u ∈ (#[.int .u8 a, .int .u8 b] : Array Value).toList, u.oneCell' = true := by simp [Value.oneCell']
theorem byte_one4 {a b c d : Int} : ∀ u ∈ (#[.int .u8 a, .int .u8 b, .int .u8 c, .int .u8 d] : Array Value).toList, u.oneCell' = true := by simp [Value.oneCell']

/-- The bytes of a number, the lowest first. -/
def sumTail : Nat → Nat → List Int
  | 0, _ => []
  | n + 1, x => ((x % 256 : Nat) : Int) :: sumTail n (x / 256)
set_option maxRecDepth 100000 in
/-- A list of bytes that is owned is told as the string of it. -/
theorem own_string {w : World} {base : Nat} {v : Value} {l : List Int} (h : Own byteEnc 1 w base 5 v l) (hl : l ≠ []) : ∃ b d, v = .slice (some ⟨b, 0, none⟩) l.length d ∧ (Go.convert 105 9 (.slice (some ⟨b, 0, none⟩) l.length d)).run Try.prog w = .ok (.string (strOfNums l)) w := by
  rcases h.2 with ⟨rfl, h0⟩ | ⟨g, cap, cur, rfl, hg, hh, hnc, hcm, hcs, htake⟩
  · exact absurd (List.eq_nil_of_length_eq_zero h0) hl
  · refine ⟨g, cap, rfl, run_convert_bytes_arg w 105 5 Try.underlying105 Try.underlying5 g 0 _ cap l rfl (fun i hi => ?_) 9 Try.underlying9⟩
    rw [Nat.zero_add, cell_of_row w g _ cur _ (0, 0) hh]
    have hf : ∀ (l : List Int) (i : Nat), i < l.length → (l.flatMap byteEnc)[i]? = some (.int .u8 (l.getD i 0)) := by
      intro l
      induction l with
      | nil => intro i h; simp at h
      | cons y l ih =>
        intro i h
        cases i with
        | zero => simp [byteEnc]
        | succ i =>
          have := ih i (by simpa using h)
          simpa [byteEnc, List.getD] using this
    have h1 := hf l i hi
    rw [← htake, List.getElem?_take_of_lt (by omega)] at h1
    simpa using h1
theorem bytes_cons (l : List Int) (h : l ≠ []) : bytesL l ≠ [] := by
  cases l with
  | nil => exact absurd rfl h
  | cons n l => simp [bytesL]
theorem nums_cons (g : GraphD) : numsL g ≠ [] := by simp [numsL]

set_option maxRecDepth 100000 in
set_option maxHeartbeats 4000000 in
theorem coded_any (A A' : Option Addr) (c c' : Nat) (g : GraphD) (w : World) (hG : GraphAt w A c A' c' g) (hV : Valid g) :
    Calls Try.prog 32 #[gV A c A' c' g] w fun e w' => e = .returned (.string (coded g)) ∧ Below w.heap.size w w' := by
  have HN := Lib.hid (nums_num hV)
  obtain ⟨i0, hi, hz0, hz1, hz2⟩ := info_parts' info_byte
  go_enter Try.func32, Try.ntmps32
  go_wp2_with fail
  refine (numbers_any _ _ _ _ g _ (hG.ext (by go_grown)) hV).mono ?_
  rintro e w1 ⟨B, d, rfl, hS, hb1⟩
  have hb2 : Below w.heap.size w w1 := ext_trans (by go_grown) hb1
  have hlen := HN.out.2
  go_wp2_with fail
  go_loopw [3, 5] (fun o ii wr => ∃ (i : Nat) (acc : List Int), i ≤ (numsL g).length ∧ ii = .int .i64 i ∧ acc.length = 2 * i ∧ Hid (acc ++ bytesL ((numsL g).drop i) = bytesL (numsL g)) ∧ Own byteEnc 1 wr w1.heap.size 5 o acc ∧ Below w1.heap.size w1 wr)
    (fun _ ii _ => (numsL g).length - (intOf ii).toNat)
  case atStart => exact ⟨0, [], Nat.zero_le _, rfl, rfl, Lib.hid rfl, Own.nil, Below.refl _ _⟩
  case round =>
    obtain ⟨i, acc, hile, rfl, hacc, HI, hown, hb⟩ := hrel
    have hzw := hb.size
    by_cases hlt : i < (numsL g).length
    case pos =>
      obtain ⟨x, hx⟩ := get_lt hlt
      obtain ⟨nb, no, hSS⟩ := hS
      obtain ⟨rfl, hnb, hx0, _⟩ := hSS i x hx
      have S0 : wr.cell? ⟨nb, no + i, none⟩ = some (.int .i64 x) := by simpa using hx0.now hb
      have hxn := HN.out.1 x (List.mem_of_getElem? hx)
      have HI2 : Hid (acc ++ [x / 256, x % 256] ++ bytesL ((numsL g).drop (i + 1)) = bytesL (numsL g)) := Lib.hid (by
        rw [← HI.out, drop_cons hx, bytesL, bytesL, List.flatMap_cons]
        simp)
      clear HI hx hSS hx0
      have hltI : (i : Int) < ((numsL g).length : Int) := by omega
      obtain ⟨q0, q1⟩ := hxn
      have e1 : IntKind.u8.wrap (IntKind.i64.wrap (x.tdiv 256)) = x / 256 := by
        rw [Int.tdiv_eq_ediv_of_nonneg q0, IntKind.wrap_i64, IntKind.wrap_u8]; omega
      have e2 : IntKind.u8.wrap (x.tmod 256) = x % 256 := by
        rw [Int.tmod_eq_emod_of_nonneg q0, IntKind.wrap_u8]; omega
      have ecs : (#[.int .u8 (IntKind.u8.wrap (IntKind.i64.wrap (x.tdiv 256))), .int .u8 (IntKind.u8.wrap (x.tmod 256))] : Array Value).toList = [x / 256, x % 256].flatMap byteEnc := by rw [e1, e2]; rfl
      have ECS := Lib.hid ecs
      clear e1 e2 ecs
      go_wp2_with fail
      go_region_held_law (fun w' => w'.cell? ⟨nb, no + i, none⟩ = some (.int .i64 x))
        (first | exact S0 | (exact cell_keep (below_drew ((Below.refl _ wr).alloc (Nat.le_refl _) _)) S0) | (exact cell_keepB (B := w1.heap.size) ((below_drew ((Below.refl _ wr).alloc hzw _)).trans hb8) hnb S0))
        (first | (refine step_append_els (enc := byteEnc) rfl (.tmp 16) (.tmp 29) 105 rfl w1.heap.size 5 i0 _ 1 1 Try.underlying105 hi hz0 hz1 hz2 rfl (by decide) _ acc [x / 256, x % 256] 2 rfl (by decide) rfl (hown.alloc _).drew #[.int .u8 (IntKind.u8.wrap (IntKind.i64.wrap (x.tdiv 256))), .int .u8 (IntKind.u8.wrap (x.tmod 256))] ECS.out _ (Blk.new wr 5 _).drew rfl rfl byte_one2 (by omega) (by decide) (by simp; omega) ?_; intro v' w6 hown6 hb8 _))
      go_wp2_with fail
      go_roundw
      case rel => exact ⟨i + 1, acc ++ [x / 256, x % 256], by omega, by go_num, by simp; omega, HI2, hown6, (hb.trans (below_drew ((Below.refl _ wr).alloc hzw _))).trans hb8⟩
      case measure => simp [intOf]; omega
    have HE : Hid (acc = bytesL (numsL g)) := Lib.hid (by have := HI.out; rw [drop_end (by omega)] at this; simpa [bytesL] using this)
    clear HI
    have hacc2 : acc.length ≤ 1800 := by omega
    clear hacc
    obtain ⟨ob, od, rfl, hcv⟩ := own_string hown (by rw [HE.out]; exact bytes_cons _ (nums_cons g))
    go_wp2_with fail
    refine (refSum_any _ _ (by rw [strOfNums_size]; omega)).mono ?_
    rintro e wq ⟨rfl, rfl⟩
    have HE2 : Hid (crc (strOfNums acc) = crc (strOfNums (bytesL (numsL g)))) := Lib.hid (by rw [HE.out])
    have hq : crc (strOfNums acc) < 4294967296 := by unfold crc; omega
    generalize crc (strOfNums acc) = q at *
    have HQ : Hid (acc ++ [((q % 256 : Nat) : Int), ((q / 256 % 256 : Nat) : Int), ((q / 65536 % 256 : Nat) : Int), ((q / 16777216 % 256 : Nat) : Int)] = bytesL (numsL g) ++ sumBytes (crc (strOfNums (bytesL (numsL g))))) := Lib.hid (by rw [← HE2.out, HE.out]; rfl)
    have hzz : w1.heap.size ≤ wr.heap.size := hzw
    obtain ⟨wo, rfl⟩ : ∃ wo : World, wo = wr := ⟨_, rfl⟩
    have HT : Hid ([((q % 256 : Nat) : Int), ((q / 256 % 256 : Nat) : Int), ((q / 65536 % 256 : Nat) : Int), ((q / 16777216 % 256 : Nat) : Int)] = sumTail 4 q) := Lib.hid (by simp [sumTail, Nat.div_div_eq_div_mul])
    go_wp2_with fail
    go_loopw [3, 6, 7] (fun o nn ii wr => ∃ (i : Nat) (acc : List Int) (x : Nat), i ≤ 4 ∧ ii = .int .i64 i ∧ nn = .int .u32 x ∧ x < 4294967296 ∧ acc.length ≤ 1800 + i ∧ acc ≠ [] ∧ Hid (acc ++ sumTail (4 - i) x = bytesL (numsL g) ++ sumBytes (crc (strOfNums (bytesL (numsL g))))) ∧ Own byteEnc 1 wr w1.heap.size 5 o acc ∧ Below w1.heap.size w1 wr)
      (fun _ _ ii _ => 4 - (intOf ii).toNat)
    case atStart => exact ⟨0, acc, q, by omega, rfl, rfl, hq, by omega, by rw [HE.out]; exact bytes_cons _ (nums_cons g), Lib.hid (by rw [← HQ.out, HT.out]), hown, hb⟩
    case round =>
      clear hown hb hq HQ HT hacc2 hcv HE HE2
      obtain ⟨i, acc, x, hi4, rfl, rfl, hx, hacc, hne, HI, hown, hb⟩ := hrel
      have hzw := hb.size
      by_cases hlt : i < 4
      case neg =>
        obtain rfl : i = 4 := by omega
        have HE : Hid (strOfNums acc = coded g) := Lib.hid (by
          have h := HI.out
          rw [show sumTail (4 - 4) x = [] from rfl, List.append_nil] at h
          rw [h]
          rfl)
        obtain ⟨ob, od, rfl, hcv⟩ := own_string hown hne
        go_wp2_with fail
        go_ret
        exact ⟨by rw [HE.out]; rfl, ext_trans hb2 hb⟩
      have e1 : IntKind.u8.wrap ((x : Int) % 256) = ((x % 256 : Nat) : Int) := by rw [IntKind.wrap_u8]; omega
      have HI2 : Hid (acc ++ [((x % 256 : Nat) : Int)] ++ sumTail (4 - (i + 1)) (x / 256) = bytesL (numsL g) ++ sumBytes (crc (strOfNums (bytesL (numsL g))))) := Lib.hid (by
        rw [← HI.out, show 4 - i = (4 - (i + 1)) + 1 by omega]
        simp [sumTail])
      clear HI
      have ecs : (#[.int .u8 ((x : Int) % 256)] : Array Value).toList = [((x % 256 : Nat) : Int)].flatMap byteEnc := by simp [byteEnc]
      clear e1
      go_wp2_with (at_builtin; refine wpList_append_els (enc := byteEnc) rfl (.tmp 38) (.tmp 42) 105 rfl w1.heap.size 5 i0 _ 1 1 Try.underlying105 hi hz0 hz1 hz2 rfl (by decide) _ acc [((x % 256 : Nat) : Int)] 1 rfl rfl hown _ ecs _ rfl rfl rfl byte_one1 (by omega) (by decide) hzw ?_; intro v' w6 hown6 hb8 _)
      go_roundw
      case rel => exact ⟨i + 1, acc ++ [((x % 256 : Nat) : Int)], x / 256, by omega, by go_num, by go_num, by omega, by simp; omega, by simp, HI2, hown6, hb.trans hb8⟩
      case measure => simp [intOf]; omega
end Go.Proofs.Ytcgnalpcbcpmkaa
