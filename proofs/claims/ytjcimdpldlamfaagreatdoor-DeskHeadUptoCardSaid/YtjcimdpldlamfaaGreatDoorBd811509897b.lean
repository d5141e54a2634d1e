/- Several texts in one: Number, Strs, DeskSmall, SnapMem. -/
import Derived.BigQuiet
import Derived.IntWalk
import Derived.Test.YtjcimdpldlamfaaGreatDoorBd96fdae9b88
import Derived.Test.YtjcimdpldlamfaaGreatDoorBd9cdc4f3309
import Derived.Test.YtjcimdpldlamfaaGreatDoorBd2df7774ef4
import Derived.Test.YtjcimdpldlamfaaGreatDoorBdda53a8748f
import Derived.Test.YtjcimdpldlamfaaGreatDoorBd3cd328b1d4
import Derived.Test.YtjcimdpldlamfaaGreatDoorBd0848e2b72a
import Derived.Test.YtjcimdpldlamfaaGreatDoorBdda32f21b61
import Derived.Test.YtjcimdpldlamfaaGreatDoorBd1aa46607c4
import Derived.Test.YtjcimdpldlamfaaGreatDoorBd2f7b3eaff4
/- The walks of graph.Number, graph.numbers and of the document's Digits, Numbers. -/

namespace Go.Proofs.YtjcimdpldlamfaaGreatDoor
open Go.RowKit

theorem bs_size (l : List UInt8) : (bs l).size = l.length := by simp [ByteArray.size]
theorem bs_at {l : List UInt8} {k : Nat} {b : UInt8} (h : l[k]? = some b) : byteAt (bs l) k = b.toNat := by
 have hk := lt_of_get h
 rw [byteAt_of (by rw [bs_size]; exact hk)]
 obtain ⟨_, rfl⟩ := List.getElem?_eq_some_iff.1 h
 rfl
theorem digitB_true {b : UInt8} (h : 48 ≤ b.toNat ∧ b.toNat ≤ 57) : digitB b = true := by simpa [digitB] using h
theorem digitB_false {b : UInt8} (h : ¬ (48 ≤ b.toNat ∧ b.toNat ≤ 57)) : digitB b = false := by simp only [digitB, decide_eq_false_iff_not]; exact h
theorem all_take {l : List UInt8} {k : Nat} {b : UInt8} (hb : l[k]? = some b) (h : (l.take k).all digitB = true) (hd : digitB b = true) : (l.take (k + 1)).all digitB = true := by
 rw [List.take_add_one, hb, List.all_append, h]
 simp [hd]
theorem all_not {l : List UInt8} {k : Nat} {b : UInt8} (hb : l[k]? = some b) (hd : digitB b = false) : l.all digitB = false := by
 rw [List.all_eq_false]
 exact ⟨b, List.mem_of_getElem? hb, by simp [hd]⟩
theorem readD_take {l : List UInt8} {k : Nat} {b : UInt8} (hb : l[k]? = some b) : readD (l.take (k + 1)) = 10 * readD (l.take k) + (b.toNat - 48) := by
 have e : l.take (k + 1) = l.take k ++ [b] := by rw [List.take_add_one, hb]; rfl
 rw [e, readD_snoc]
theorem readD_small {l : List UInt8} {k : Nat} (h : (l.take k).all digitB = true) (hk : k ≤ 4) : readD (l.take k) < 10000 := by
 have h1 := readD_lt _ h
 have h2 : 10 ^ (l.take k).length ≤ 10 ^ 4 := Nat.pow_le_pow_right (by decide) (by rw [List.length_take]; omega)
 omega
set_option maxHeartbeats 2000000 in
theorem wordNum_any (l : List UInt8) (w : World) (hl : l.length ≤ 9223372036854775807) : Calls Tryz.prog 70 #[.string (bs l)] w fun e w' => e = .returned (.int .i64 (numB l)) ∧ Below w.heap.size w w' := by
 obtain ⟨s, hs⟩ : ∃ s, bs l = s := ⟨_, rfl⟩
 have hsz : s.size = l.length := by rw [← hs, bs_size]
 have HB : Hid (∀ k b, l[k]? = some b → byteAt s k = b.toNat) := Lib.hid fun k b h => by rw [← hs]; exact bs_at h
 rw [hs]
 have hl' : s.size ≤ 9223372036854775807 := by omega
 clear hs
 by_cases h1 : 1 ≤ s.size ∧ s.size ≤ 4
 case neg =>
  have HN : Hid (numB l = -1) := Lib.hid (numB_no fun h => h1 (by rw [hsz]; exact ⟨h.1, h.2.1⟩))
  rw [HN.out]
  clear hsz
  go_enter Tryz.func70, Tryz.ntmps70
  go_wp2_with (go_at_call 115; refine (within_no _ _ _ _ (by omega)).mono ?_; rintro e w' ⟨rfl, rfl⟩)
  go_ret
  exact ⟨rfl, by go_grown⟩
 obtain ⟨b0, hb0⟩ := get_lt (show 0 < l.length by omega)
 have hb0' := HB.out 0 b0 hb0
 have i0 : 0 < s.size := by omega
 have g0 : ((s[0]'i0).toNat) = byteAt s 0 := (byteAt_of i0).symm
 by_cases h2 : b0 = 48 ∧ 1 < l.length
 case pos =>
  have HN : Hid (numB l = -1) := Lib.hid (numB_no fun h => h.2.2 ⟨by rw [hb0, h2.1], h2.2⟩)
  rw [HN.out]
  have q1 : ((byteAt s 0 : Int) == 48) = true := by rw [hb0', h2.1]; rfl
  have q2 : decide ((s.size : Int) > 1) = true := by simp; omega
  clear hsz h2 hb0 hb0'
  go_enter Tryz.func70, Tryz.ntmps70
  go_wp2_with (go_at_call 115; refine (within_yes _ _ _ _ (by omega)).mono ?_; rintro e w' ⟨rfl, rfl⟩)
  go_ret
  exact ⟨rfl, by go_grown⟩
 have H3 : Hid (1 ≤ l.length ∧ l.length ≤ 4 ∧ ¬ (l[0]? = some 48 ∧ 1 < l.length)) := Lib.hid ⟨by omega, by omega, fun h => h2 ⟨by rw [hb0] at h; exact Option.some.inj h.1, h.2⟩⟩
 have h4 : s.size ≤ 4 := h1.2
 have hq : (((byteAt s 0 : Int) == 48) = true ∧ decide ((s.size : Int) > 1) = false) ∨ ((byteAt s 0 : Int) == 48) = false := by
  by_cases hb : b0 = 48
  ·left
   refine ⟨by rw [hb0', hb]; rfl, ?_⟩
   simp
   have : ¬ 1 < l.length := fun h => h2 ⟨hb, h⟩
   omega
  ·right
   have : b0.toNat ≠ 48 := fun h => hb (by apply UInt8.toNat_inj.1; rw [h]; rfl)
   rw [hb0']
   simp
   omega
 have HSZ := Lib.hid hsz
 clear h2 hb0 hb0' hsz hl
 rcases hq with ⟨q1, q2⟩ | q1
 all_goals
  go_enter Tryz.func70, Tryz.ntmps70
  go_wp2_with (go_at_call 115; refine (within_yes _ _ _ _ (by omega)).mono ?_; rintro e w' ⟨rfl, rfl⟩)
  go_loopw [3, 21] (fun n i wr => ∃ k : Nat, k ≤ s.size ∧ i = .int .i64 k ∧ n = .int .i64 (readD (l.take k) : Nat) ∧ Hid ((l.take k).all digitB = true) ∧ Below w.heap.size w wr) (fun _ i _ => s.size - (intOf i).toNat)
  case atStart => exact ⟨0, Nat.zero_le _, rfl, rfl, Lib.hid rfl, Below.refl _ _⟩
  case round =>
   obtain ⟨k, hk, rfl, rfl, HD, hb⟩ := hrel
   have hr := readD_small HD.out (by omega)
   clear q1 g0
   try clear q2
   by_cases hlt : k < s.size
   case neg =>
    obtain rfl : k = s.size := by omega
    have HN : Hid (numB l = (readD (l.take s.size) : Int)) := Lib.hid (by
     rw [HSZ.out, List.take_length]
     refine numB_of H3.out ?_
     have := HD.out
     rwa [HSZ.out, List.take_length] at this)
    obtain ⟨r, hr'⟩ : ∃ r, readD (l.take s.size) = r := ⟨_, rfl⟩
    rw [hr'] at hr HN ⊢
    clear hr'
    go_wp2_with fail
    go_ret
    exact ⟨by rw [HN.out]; rfl, hb⟩
   case pos =>
    obtain ⟨b, hbk⟩ := get_lt (show k < l.length by rw [← HSZ.out]; exact hlt)
    have hb' := HB.out k b hbk
    have g1 : ((s[k]'hlt).toNat) = byteAt s k := (byteAt_of hlt).symm
    have hb8 := byteAt_lt s k
    by_cases hd : 48 ≤ b.toNat ∧ b.toNat ≤ 57
    case neg =>
     have HN : Hid (numB l = -1) := Lib.hid (numB_bad (all_not hbk (digitB_false hd)))
     have hc : decide ((byteAt s k : Int) < 48) = true ∨ (decide ((byteAt s k : Int) < 48) = false ∧ decide ((byteAt s k : Int) > 57) = true) := by
      rw [hb']; simp; omega
     clear hd hbk hb'
     rcases hc with hc | ⟨hc, hc2⟩
     all_goals
      go_wp2_with fail
      go_ret
      exact ⟨by rw [HN.out]; rfl, hb⟩
    case pos =>
     have hc : decide ((byteAt s k : Int) < 48) = false := by rw [hb']; simp; omega
     have hc2 : decide ((byteAt s k : Int) > 57) = false := by rw [hb']; simp; omega
     have HR : Hid ((readD (l.take (k + 1)) : Int) = 10 * (readD (l.take k) : Int) + ((byteAt s k : Int) - 48)) := Lib.hid (by rw [readD_take hbk, hb']; omega)
     have HD2 := Lib.hid (all_take hbk HD.out (digitB_true hd))
     have h48 : 48 ≤ byteAt s k ∧ byteAt s k ≤ 57 := by rw [hb']; exact hd
     clear hd hbk hb' HD
     obtain ⟨r, hr'⟩ : ∃ r, readD (l.take k) = r := ⟨_, rfl⟩
     rw [hr'] at hr HR ⊢
     clear hr'
     go_wp2_with fail
     go_roundw
     case rel => exact ⟨k + 1, by omega, by go_num, by rw [HR.out], HD2, hb⟩
     case measure => simp [intOf]; omega
end Go.Proofs.YtjcimdpldlamfaaGreatDoor
/- Lists of strings in memory; the library's Cut and Split by one byte; the walks of numbers, Numbers. -/
namespace Go.Proofs.YtjcimdpldlamfaaGreatDoor
open Go.RowKit

def RStr (w : World) (b o : Nat) (x : List UInt8) : Prop := cellIs w b o (.string (bs x))
theorem RStr.stable : Stable RStr := fun _ _ _ _ _ hb hlt h => cellIs.ext hb hlt h
def strEnc (x : List UInt8) : List Value := [.string (bs x)]
theorem strEnc_len (x : List UInt8) : (strEnc x).length = 1 := rfl
structure StrsAt (w : World) (A : Option Addr) (c : Nat) (l : List (List UInt8)) : Prop where
 lc : l.length ≤ c
 cm : c ≤ maxLen
 sl : SlAt RStr 1 w A l
section
variable {w w' : World} {A : Option Addr} {c k base : Nat} {l : List (List UInt8)} {v : Value}
theorem StrsAt.ext (h : StrsAt w A c l) (hb : Below w.heap.size w w') : StrsAt w' A c l := ⟨h.lc, h.cm, h.sl.ext RStr.stable hb⟩
theorem StrsAt.len (h : StrsAt w A c l) : l.length ≤ 9223372036854775807 := Nat.le_trans h.lc h.cm
theorem StrsAt.get (h : StrsAt w A c l) {x : List UInt8} (hx : l[k]? = some x) : ∃ b off, A = some ⟨b, off, none⟩ ∧ b < w.heap.size ∧ w.cell? ⟨b, off + k, none⟩ = some (.string (bs x)) := by
 obtain ⟨b, off, hS⟩ := h.sl
 obtain ⟨h1, h2, h3⟩ := hS k x hx
 rw [Nat.mul_one] at h3
 exact ⟨b, off, h1, h2, h3⟩
theorem own_strs (h : Own strEnc 1 w base 9 v l) : ∃ A c, v = .slice A l.length c ∧ StrsAt w A c l := by
 obtain ⟨A, c, hv, hS⟩ := Own.slAt (R := RStr) (enc := strEnc) (fun _ => rfl) (fun x _ b o hc => by have := hc 0 _ rfl; simpa [RStr] using this) h
 subst hv
 exact ⟨A, c, rfl, h.room.1, h.room.2, hS⟩
/-- The list behind its first element. -/
theorem StrsAt.tail {x : List UInt8} {b off : Nat} (h : StrsAt w (some ⟨b, off, none⟩) c (x :: l)) : StrsAt w (some ⟨b, off + 1, none⟩) (c - 1) l := by
 have h1 := h.lc
 have h2 := h.cm
 simp only [List.length_cons] at h1
 refine ⟨by omega, by omega, b, off + 1, fun i y hy => ?_⟩
 obtain ⟨b', off', hS⟩ := h.sl
 obtain ⟨e, k1, k2⟩ := hS (i + 1) y (by simpa using hy)
 obtain ⟨rfl, rfl⟩ : b = b' ∧ off = off' := by simpa using e
 refine ⟨rfl, k1, ?_⟩
 have : off + (i + 1) * 1 = off + 1 + i * 1 := by omega
 rw [this] at k2
 exact k2
theorem strs_of_blk {g : Nat} {cs : Array Value} (h : Blk w g 9 cs) (hc : cs = (l.map fun x => Value.string (bs x)).toArray) (hm : l.length ≤ maxLen) : StrsAt w (some ⟨g, 0, none⟩) l.length l := by
 refine ⟨Nat.le_refl _, hm, g, 0, fun i x hx => ⟨rfl, h.lt, ?_⟩⟩
 unfold RStr cellIs
 rw [h.cell, hc]
 simp [hx]
end
/-! ### Cut and Split -/
theorem bs_list (l : List UInt8) : (bs l).data.toList = l := by simp
theorem bs_of (s : ByteArray) : bs s.data.toList = s := by cases s; simp [bs]
theorem split_pieces (c : UInt8) (l : List UInt8) : (Lib.splitB (bs [c]) 0 (Lib.countB (bs l) (bs [c])) (bs l)).map Value.string = (piecesB c l).map fun x => Value.string (bs x) := by
 have h := Lib.splitB_data (bs [c]) 0 (Lib.countB (bs l) (bs [c])) (bs l)
 have e : Lib.countB (bs l) (bs [c]) = Lib.count l [c] := by unfold Lib.countB; rw [bs_list, bs_list]
 rw [bs_list, bs_list, e, splitK_pieces c _ l (Nat.le_refl _)] at h
 rw [e, ← h, List.map_map]
 refine List.map_congr_left fun s _ => ?_
 simp only [Function.comp]
theorem split_count (c : UInt8) (l : List UInt8) : Lib.countB (bs l) (bs [c]) + 1 = (piecesB c l).length := by
 have h := Lib.splitB_all (bs [c]) (by simp [ByteArray.size]) 0 _ (bs l) rfl
 have h2 := congrArg List.length (split_pieces c l)
 rw [List.length_map, List.length_map] at h2
 rw [← h, h2]
/-- Some int lies in the library's variable MaxLen. -/
def MaxL (w : World) : Prop := ∃ m : Int, w.cell? ⟨0, 0, none⟩ = some (.int .i64 m)
theorem MaxL.ext {w w' : World} (h : MaxL w) (hb : Below w.heap.size w w') : MaxL w' := by
 obtain ⟨m, hm⟩ := h
 exact ⟨m, (hb.cell (p := ⟨_, 0, none⟩) (World.block_lt_of_cell? w _ hm)).trans hm⟩
theorem split_any (c : UInt8) (l : List UInt8) (w : World) (hl : l.length ≤ 70000) (hm : MaxL w) :
  Calls Tryz.prog 13 #[.string (bs l), .string ⟨#[c]⟩] w fun e w' => e = .returned (.slice (some ⟨w.heap.size, 0, none⟩) (piecesB c l).length (piecesB c l).length) ∧ StrsAt w' (some ⟨w.heap.size, 0, none⟩) (piecesB c l).length (piecesB c l) ∧ Below w.heap.size w w' := by
 obtain ⟨m, hm⟩ := hm
 have e : (⟨#[c]⟩ : ByteArray) = bs [c] := rfl
 rw [e]
 refine (Txt.strings_Split (bs l) (bs [c]) m w (by rw [bs_size]; omega) hm (by simp [ByteArray.size])).mono fun x w' ⟨h1, h2⟩ => ?_
 rw [split_pieces c l] at h2
 rw [split_count] at h1
 subst h2
 have hle : (piecesB c l).length ≤ l.length + 1 := by
  have h := Lib.countB_le (bs [c]) (by simp [ByteArray.size]) _ (bs l) (Nat.le_refl _)
  rw [← split_count c l]
  rw [bs_size] at h
  omega
 exact ⟨h1, strs_of_blk (Blk.new w _ _) rfl (by unfold maxLen; omega), ext_alloc (Below.refl _ w) _⟩
theorem cut_any (c : UInt8) (l : List UInt8) (w : World) (hl : l.length ≤ 70000) (hm : MaxL w) :
  Calls Tryz.prog 95 #[.string (bs l), .string ⟨#[c]⟩] w fun e w' => e = .returned (.tuple #[.string (bs (Lib.cut l [c]).1), .string (bs (Lib.cut l [c]).2.1), .bool (Lib.cut l [c]).2.2]) ∧ ∃ n, w' = w.drewN n := by
 obtain ⟨m, hm⟩ := hm
 refine (Txt.strings_Cut (bs l) (bs [c]) m w (by rw [bs_size]; omega) hm).mono fun x w' ⟨h1, h2⟩ => ?_
 rw [bs_list, bs_list] at h1
 exact ⟨h1, h2⟩
/-! ### numbers of words -/
def numsR (w : List (List UInt8)) (many : Int) : List Int × Bool := if (w.length : Int) = many then (match numsB w with | some n => (n, true) | none => ([], false)) else ([], false)
def numsQ (w : List (List UInt8)) : List Int × Bool := match numsB w with | some n => (n, true) | none => ([], false)
def NumsOut (r : List Int × Bool) (w : World) (e : Ending) (w' : World) : Prop := ∃ A c, e = .returned (.tuple #[.slice A r.1.length c, .bool r.2]) ∧ (Own intEnc 1 w' w.heap.size 3 (.slice A r.1.length c) r.1 ∧ ∀ x, x ∈ r.1 → I64 x) ∧ Below w.heap.size w w'
theorem ints_nil (w : World) (base : Nat) : Own intEnc 1 w base 3 (.slice none 0 0) [] ∧ ∀ x : Int, x ∈ [] → I64 x := ⟨Own.nil, fun x h => by simp at h⟩
theorem own_at {w : World} {base n c : Nat} {A : Option Addr} {l : List Int} (h : Own intEnc 1 w base 3 (.slice A n c) l) (h0 : 0 < l.length) : ∃ g cs, A = some ⟨g, 0, none⟩ ∧ base ≤ g ∧ Blk w g 3 cs ∧ ∀ (k : Nat) (x : Int), l[k]? = some x → cs[k]? = some (Value.int .i64 x) := by
 rcases h.2 with ⟨h1, h2⟩ | ⟨g, cap, cur, hv, _⟩
 ·omega
 ·simp only [Value.slice.injEq] at hv
  obtain ⟨rfl, rfl, rfl⟩ := hv
  obtain ⟨_, hg, _, _, cs, hB, _, hrow⟩ := h.cells intEnc_len
  refine ⟨g, cs, rfl, hg, hB, fun k x hx => ?_⟩
  have := hrow k x hx 0 (by decide)
  simpa [intEnc] using this
theorem all_num_take {l : List (List UInt8)} {k : Nat} {x : List UInt8} (hx : l[k]? = some x) (h : (l.take k).all (fun s => decide (0 ≤ numB s)) = true) (hn : 0 ≤ numB x) : (l.take (k + 1)).all (fun s => decide (0 ≤ numB s)) = true := by
 rw [List.take_add_one, hx, List.all_append, h]
 simp [hn]
theorem all_num_not {l : List (List UInt8)} {k : Nat} {x : List UInt8} (hx : l[k]? = some x) (hn : ¬ 0 ≤ numB x) : l.all (fun s => decide (0 ≤ numB s)) = false := by
 rw [List.all_eq_false]
 exact ⟨x, List.mem_of_getElem? hx, by simpa using hn⟩
theorem map_take {l : List (List UInt8)} {k : Nat} {x : List UInt8} (hx : l[k]? = some x) : (l.take k).map numB ++ [numB x] = (l.take (k + 1)).map numB := by
 rw [List.take_add_one, hx]
 simp
set_option maxRecDepth 100000 in
set_option maxHeartbeats 4000000 in
theorem wordNums_any (A : Option Addr) (c : Nat) (l : List (List UInt8)) (many : Int) (w : World) (hA : StrsAt w A c l) (hl : l.length ≤ 100000) (hs : ∀ x, x ∈ l → x.length ≤ 100000) :
  Calls Tryz.prog 143 #[.slice A l.length c, .int .i64 many] w (NumsOut (numsR l many) w) := by
 have HA := Lib.hid hA; have HS := Lib.hid hs
 have m1 := hA.len
 clear hA hs
 by_cases hm : (l.length : Int) = many
 case neg =>
  have hd : ((l.length : Int) != many) = true := by simpa using hm
  have HR : Hid (numsR l many = ([], false)) := Lib.hid (by unfold numsR; rw [if_neg hm])
  clear hm
  rw [HR.out]
  go_enter Tryz.func143, Tryz.ntmps143
  go_wp2_with fail
  go_ret2
  exact ⟨none, 0, rfl, ints_nil _ _, Below.refl _ _⟩
 have hd : ((l.length : Int) != many) = false := by simpa using hm
 have HR : Hid (numsR l many = numsQ l) := Lib.hid (by unfold numsR; rw [if_pos hm]; rfl)
 clear hm
 obtain ⟨i0, hi, hz0, hz1, hz2⟩ := info_int2
 rw [HR.out]
 go_enter Tryz.func143, Tryz.ntmps143
 go_wp2_with fail
 go_loopw [6, 16] (fun u v wr => ∃ k : Nat, k ≤ l.length ∧ v = .int .i64 k ∧ Hid ((l.take k).all (fun s => decide (0 ≤ numB s)) = true) ∧ Own intEnc 1 wr w.heap.size 3 u ((l.take k).map numB) ∧ Below w.heap.size w wr) (fun _ v _ => l.length - (intOf v).toNat)
 case atStart => exact ⟨0, Nat.zero_le _, rfl, Lib.hid rfl, Own.nil, Below.refl _ _⟩
 case round =>
  obtain ⟨k, hk, rfl, HD, hO, hb⟩ := hrel
  have hzr := hb.size
  have hcl : ((l.take k).map numB).length + 1 ≤ 1000000 := by rw [List.length_map, List.length_take]; omega
  obtain ⟨out, ho⟩ : ∃ out, (l.take k).map numB = out := ⟨_, rfl⟩
  have HO := Lib.hid ho
  rw [ho] at hO hcl
  clear ho
  by_cases hlt : k < l.length
  case neg =>
   obtain rfl : k = l.length := by omega
   have HQ : Hid (numsQ l = (out, true)) := Lib.hid (by
    have h1 := HD.out
    have h2 := HO.out
    rw [List.take_length] at h1 h2
    unfold numsQ
    rw [numsB_some h1, h2])
   have hIo : ∀ x, x ∈ out → I64 x := fun x hx => by
    have h2 := HO.out
    rw [← h2] at hx
    obtain ⟨y, _, rfl⟩ := List.mem_map.1 hx
    exact numB_i64 y
   obtain ⟨Ao, co, rfl⟩ := hO.form
   clear HD
   go_wp2_with fail
   go_ret2
   rw [HQ.out]
   exact ⟨Ao, co, rfl, ⟨hO, hIo⟩, hb⟩
  case pos =>
   obtain ⟨x, hx⟩ := get_lt hlt
   obtain ⟨b, off, rfl, hb0, x0⟩ := HA.out.get hx
   rw [← hb.cell (by exact hb0)] at x0
   have hnum := wordNum_any x wr (by have := HS.out x (List.mem_of_getElem? hx); omega)
   have hr := numB_range x
   have HX := Lib.hid hx
   clear hx
   by_cases hn : 0 ≤ numB x
   case neg =>
    have hd2 : decide (numB x < 0) = true := by simp; omega
    have HQ : Hid (numsQ l = ([], false)) := Lib.hid (by unfold numsQ; rw [numsB_none (all_num_not HX.out hn)])
    obtain ⟨n, hn'⟩ : ∃ n, numB x = n := ⟨_, rfl⟩
    rw [hn'] at hnum hd2
    clear hn hr hn'
    go_wp2_with fail
    refine hnum.mono ?_
    rintro e w5 ⟨rfl, hb5⟩
    go_wp2_with fail
    go_ret2
    rw [HQ.out]
    exact ⟨none, 0, rfl, ints_nil _ _, ext_trans hb hb5⟩
   case pos =>
    have hd2 : decide (numB x < 0) = false := by simp; omega
    have HD2 := Lib.hid (all_num_take HX.out HD.out hn)
    have HN : Hid (out ++ [numB x] = (l.take (k + 1)).map numB) := Lib.hid (by rw [← HO.out]; exact map_take HX.out)
    obtain ⟨n, hn'⟩ : ∃ n, numB x = n := ⟨_, rfl⟩
    rw [hn'] at hnum hd2 hr HN
    clear hn hn' HD
    go_wp2_with fail
    refine hnum.mono ?_
    rintro e w5 ⟨rfl, hb5⟩
    have hO5 := hO.ext hb5
    have hb6 := ext_trans hb hb5
    have hw5 : w.heap.size ≤ w5.heap.size := Nat.le_trans hzr hb5.size
    clear hnum hb5 hO
    go_wp2_with (at_builtin; refine wpList_append_lie (enc := intEnc) rfl (.tmp 24) (.tmp 26) 55 rfl w.heap.size 3 i0 _ 1 8 Tryz.underlying55 hi hz0 hz1 hz2 rfl (by decide) _ out n rfl hO5 _ rfl w5.heap.size rfl rfl rfl int_one1 hcl (by decide) hw5 ?_; intro gn cap w6 hown6 hbb hkp hgn)
    go_roundw
    case rel => exact ⟨k + 1, by omega, by go_num, HD2, by rw [← HN.out]; exact hown6, hb6.trans hbb⟩
    case measure => simp [intOf]; omega
end Go.Proofs.YtjcimdpldlamfaaGreatDoor
/- The walks of strings.Join, desk.failed, desk.numbers, desk.told. -/
namespace Go.Proofs.YtjcimdpldlamfaaGreatDoor
open Go.RowKit

theorem join_any (A : Option Addr) (c : Nat) (l : List (List UInt8)) (sep : UInt8) (w : World) (hA : StrsAt w A c l) (hm : (joinB sep l).length ≤ 1000000000) :
  Calls Tryz.prog 44 #[.slice A l.length c, .string ⟨#[sep]⟩] w fun e w' => e = .returned (.string (bs (joinB sep l))) ∧ Below w.heap.size w w' := by
 cases l with
 | nil =>
  refine (Dsk.strings_Join_none A c ⟨#[sep]⟩ w).mono fun e w' ⟨h1, h2⟩ => ⟨h1, ?_⟩
  rw [h2]
  exact Below.refl _ _
 | cons x r =>
  obtain ⟨b, off, rfl, hb, _⟩ := hA.get (k := 0) (x := x) rfl
  have e1 : ((x :: r).map bs).length = (x :: r).length := List.length_map ..
  have e2 : Lib.join (((x :: r).map bs).map (·.data.toList)) (⟨#[sep]⟩ : ByteArray).data.toList = joinB sep (x :: r) := by
   rw [List.map_map]
   have e3 : ((fun s : ByteArray => s.data.toList) ∘ bs) = id := funext fun l => by simp
   rw [e3, List.map_id]
   exact join_lib sep (x :: r)
  have h := Dsk.strings_Join b off c ((x :: r).map bs) ⟨#[sep]⟩ w (fun j y hy => by
   rw [List.getElem?_map] at hy
   obtain ⟨z, hz, rfl⟩ := Option.map_eq_some_iff.1 hy
   obtain ⟨b', off', he, _, hc⟩ := hA.get hz
   simp only [Option.some.injEq, Addr.mk.injEq, and_true] at he
   obtain ⟨rfl, rfl⟩ := he
   exact hc) hb (by
    rw [e1]
    have h1 : (x :: r).length ≤ (joinB sep (x :: r)).length + 1 := join_count sep _
    omega) (by rw [e1]; exact hA.lc) (by rw [e2]; omega)
  rw [e1, e2] at h
  exact h
set_option maxRecDepth 100000 in
theorem failed_any (e : Int) (he : I64 e) (w : World) (ht : ITab w) :
  Calls Tryz.prog 31 #[.int .i64 e] w fun en w' => en = .returned (.string (bs (errT e))) ∧ Below w.heap.size w w' := by
 have hl := Lib.itoa_length_le e he.1 he.2
 have hit := itoa_any e he w ht

 obtain ⟨t, hte⟩ : ∃ t, Lib.itoa e = t := ⟨_, rfl⟩
 have HE : Hid (errT e = wError ++ t) := Lib.hid (by unfold errT; rw [hte])
 rw [hte] at hl hit
 clear hte
 go_enter Tryz.func31, Tryz.ntmps31
 go_wp2_with fail
 refine hit.mono ?_
 rintro en w1 ⟨rfl, hb1⟩
 clear hit
 go_wp2_with fail
 go_ret
 refine ⟨?_, hb1⟩
 rw [HE.out]
 rfl
set_option maxRecDepth 100000 in
set_option maxHeartbeats 4000000 in
theorem numbersD_any (A : Option Addr) (c : Nat) (l : List (List UInt8)) (w : World) (hA : StrsAt w A c l) (hl : l.length ≤ 100000) (hs : ∀ x, x ∈ l → x.length ≤ 100000) :
  Calls Tryz.prog 33 #[.slice A l.length c] w (NumsOut (numsQ l) w) := by
 have HA := Lib.hid hA; have HS := Lib.hid hs
 have m1 := hA.len
 clear hA hs
 obtain ⟨i0, hi, hz0, hz1, hz2⟩ := info_int2
 go_enter Tryz.func33, Tryz.ntmps33
 go_wp2_with fail
 go_loopw [4, 10] (fun u v wr => ∃ k : Nat, k ≤ l.length ∧ v = .int .i64 k ∧ Hid ((l.take k).all (fun s => decide (0 ≤ numB s)) = true) ∧ Own intEnc 1 wr w.heap.size 3 u ((l.take k).map numB) ∧ Below w.heap.size w wr) (fun _ v _ => l.length - (intOf v).toNat)
 case atStart => exact ⟨0, Nat.zero_le _, rfl, Lib.hid rfl, Own.nil, Below.refl _ _⟩
 case round =>
  obtain ⟨k, hk, rfl, HD, hO, hb⟩ := hrel
  have hzr := hb.size
  have hcl : ((l.take k).map numB).length + 1 ≤ 1000000 := by rw [List.length_map, List.length_take]; omega
  obtain ⟨out, ho⟩ : ∃ out, (l.take k).map numB = out := ⟨_, rfl⟩
  have HO := Lib.hid ho
  rw [ho] at hO hcl
  clear ho
  by_cases hlt : k < l.length
  case neg =>
   obtain rfl : k = l.length := by omega
   have HQ : Hid (numsQ l = (out, true)) := Lib.hid (by
    have h1 := HD.out
    have h2 := HO.out
    rw [List.take_length] at h1 h2
    unfold numsQ
    rw [numsB_some h1, h2])
   have hIo : ∀ x, x ∈ out → I64 x := fun x hx => by
    have h2 := HO.out
    rw [← h2] at hx
    obtain ⟨y, _, rfl⟩ := List.mem_map.1 hx
    exact numB_i64 y
   obtain ⟨Ao, co, rfl⟩ := hO.form
   clear HD
   go_wp2_with fail
   go_ret2
   rw [HQ.out]
   exact ⟨Ao, co, rfl, ⟨hO, hIo⟩, hb⟩
  case pos =>
   obtain ⟨x, hx⟩ := get_lt hlt
   obtain ⟨b, off, rfl, hb0, x0⟩ := HA.out.get hx
   rw [← hb.cell (by exact hb0)] at x0
   have hnum := fun W => wordNum_any x W (by have := HS.out x (List.mem_of_getElem? hx); omega)
   have hr := numB_range x
   have HX := Lib.hid hx
   clear hx
   by_cases hn : 0 ≤ numB x
   case neg =>
    have hd2 : decide (numB x < 0) = true := by simp; omega
    have HQ : Hid (numsQ l = ([], false)) := Lib.hid (by unfold numsQ; rw [numsB_none (all_num_not HX.out hn)])
    obtain ⟨n, hn'⟩ : ∃ n, numB x = n := ⟨_, rfl⟩
    rw [hn'] at hd2
    simp only [hn'] at hnum
    have HNUM := Lib.hid hnum
    clear hn hr hn' hnum
    go_wp2_with fail
    refine (HNUM.out _).mono ?_
    rintro e w5 ⟨rfl, hb5⟩
    go_wp2_with fail
    go_ret2
    rw [HQ.out]
    exact ⟨none, 0, rfl, ints_nil _ _, ext_trans hb hb5⟩
   case pos =>
    have hd2 : decide (numB x < 0) = false := by simp; omega
    have HD2 := Lib.hid (all_num_take HX.out HD.out hn)
    have HN : Hid (out ++ [numB x] = (l.take (k + 1)).map numB) := Lib.hid (by rw [← HO.out]; exact map_take HX.out)
    obtain ⟨n, hn'⟩ : ∃ n, numB x = n := ⟨_, rfl⟩
    rw [hn'] at hd2 hr HN
    simp only [hn'] at hnum
    have HNUM := Lib.hid hnum
    clear hn hn' HD hnum
    go_wp2_with fail
    refine (HNUM.out _).mono ?_
    rintro e w5 ⟨rfl, hb5⟩
    have hO5 := hO.ext hb5
    have hb6 := ext_trans hb hb5
    have hw5 : w.heap.size ≤ w5.heap.size := hb6.size
    clear hb5 hO
    go_wp2_with (at_builtin; refine wpList_append_lie (enc := intEnc) rfl (.tmp 18) (.tmp 20) 55 rfl w.heap.size 3 i0 _ 1 8 Tryz.underlying55 hi hz0 hz1 hz2 rfl (by decide) _ out n rfl hO5 _ rfl w5.heap.size rfl rfl rfl int_one1 hcl (by decide) hw5 ?_; intro gn cap w6 hown6 hbb hkp hgn)
    go_roundw
    case rel => exact ⟨k + 1, by omega, by go_num, HD2, by rw [← HN.out]; exact hown6, hb6.trans hbb⟩
    case measure => simp [intOf]; omega
end Go.Proofs.YtjcimdpldlamfaaGreatDoor
/- Snapshots in memory: lists of marks and of arcs that a call builds. -/
namespace Go.Proofs.YtjcimdpldlamfaaGreatDoor
open Go.RowKit

def markEnc (x : Bool) : List Value := [.bool x]
def arcEnc (x : ArcD) : List Value := [.int .i64 x.a, .int .i64 x.b, .int .i64 x.cost]
theorem info_mark : (Tryz.prog.info? 4).map (fun i => (i.zero, i.size, i.bytes)) = some (some (.bool false), 1, 1) := by kernel_rfl
theorem info_mark2 : ∃ i, Tryz.prog.info? 4 = some i ∧ i.zero = some (.bool false) ∧ i.size = 1 ∧ i.bytes = 1 := by
 obtain ⟨i0, hi, hzz⟩ := Option.map_eq_some_iff.1 info_mark
 simp only [Prod.mk.injEq] at hzz
 exact ⟨i0, hi, hzz.1, hzz.2.1, hzz.2.2⟩
theorem info_arc : (Tryz.prog.info? 134).map (fun i => (i.zero, i.size, i.bytes)) = some (some (.agg #[.int .i64 0, .int .i64 0, .int .i64 0]), 3, 24) := by kernel_rfl
theorem info_arc2 : ∃ i, Tryz.prog.info? 134 = some i ∧ i.zero = some (.agg #[.int .i64 0, .int .i64 0, .int .i64 0]) ∧ i.size = 3 ∧ i.bytes = 24 := by
 obtain ⟨i0, hi, hzz⟩ := Option.map_eq_some_iff.1 info_arc
 simp only [Prod.mk.injEq] at hzz
 exact ⟨i0, hi, hzz.1, hzz.2.1, hzz.2.2⟩
theorem mark_one {x : Bool} : ∀ u ∈ (#[.bool x] : Array Value).toList, u.oneCell' = true := by simp [Value.oneCell']
theorem arc_one {a b c : Int} : ∀ u ∈ (#[.int .i64 a, .int .i64 b, .int .i64 c] : Array Value).toList, u.oneCell' = true := by simp [Value.oneCell']
theorem own_marks {w : World} {base : Nat} {v : Value} {l : List Bool} (h : Own markEnc 1 w base 4 v l) : ∃ A c, v = .slice A l.length c ∧ SlAt RBool 1 w A l :=
 Own.slAt (R := RBool) (enc := markEnc) (fun _ => rfl) (fun x _ b o hc => by have := hc 0 _ rfl; simpa [RBool] using this) h
theorem own_arcs {w : World} {base : Nat} {v : Value} {l : List ArcD} (h : Own arcEnc 3 w base 134 v l) (hi : ∀ x, x ∈ l → I64 x.a ∧ I64 x.b ∧ I64 x.cost) : ∃ A c, v = .slice A l.length c ∧ SlAt RArc 3 w A l :=
 Own.slAt (R := RArc) (enc := arcEnc) (fun _ => rfl) (fun x hx b o hc => by
  have h0 := hc 0 _ rfl
  have h1 := hc 1 _ rfl
  have h2 := hc 2 _ rfl
  exact ⟨⟨by simpa using h0, h1, h2⟩, hi x hx⟩) h
/-- A snapshot that a call tells, in memory of its own. -/
def SnapNew (base : Nat) (w : World) (A : Option Addr) (c : Nat) (A' : Option Addr) (c' : Nat) (s : SnapD) : Prop :=
 SnapAt w A c A' c' s ∧ Own markEnc 1 w base 4 (.slice A s.alive.length c) s.alive ∧ Own arcEnc 3 w base 134 (.slice A' s.arcs.length c') s.arcs
theorem snap_zero (base : Nat) (w : World) : SnapNew base w none 0 none 0 ⟨[], []⟩ := ⟨⟨Nat.le_refl _, Nat.zero_le _, Nat.le_refl _, Nat.zero_le _, SlAt.nil, SlAt.nil⟩, Own.nil, Own.nil⟩
theorem Valid.arcs {g : GraphD} (hV : Valid g) (t : Int) : ∀ y, y ∈ arcsL g t g.edges → I64 y.a ∧ I64 y.b ∧ I64 y.cost := fun y hy => by
 obtain ⟨x, lg, hx, _, hm, _, _, rfl⟩ := arcsL_mem hy
 have h := hV.edges x hx
 have h1 := h.a0; have h2 := h.a1; have h3 := h.b0; have h4 := h.b1; have h5 := hV.nl
 have h6 := h.legs lg hm
 unfold I64
 refine ⟨⟨by simp only; omega, by simp only; omega⟩, ⟨by simp only; omega, by simp only; omega⟩, by simp only; omega, by simp only; omega⟩
theorem snap_new {base : Nat} {w : World} {g : GraphD} {t : Int} {A A' : Option Addr} {c c' : Nat} (hV : Valid g) (h1 : Own markEnc 1 w base 4 (.slice A (snapL g t).length c) (snapL g t)) (h2 : Own arcEnc 3 w base 134 (.slice A' (arcsL g t g.edges).length c') (arcsL g t g.edges)) :
  SnapNew base w A c A' c' (snapD g t) := by
 refine ⟨⟨h1.room.1, h1.room.2, h2.room.1, h2.room.2, ?_, ?_⟩, h1, h2⟩
 ·obtain ⟨B, d, hv, hS⟩ := own_marks h1
  injection hv with e1
  subst e1
  exact hS
 ·obtain ⟨B, d, hv, hS⟩ := own_arcs h2 (hV.arcs t)
  injection hv with e1
  subst e1
  exact hS
end Go.Proofs.YtjcimdpldlamfaaGreatDoor
