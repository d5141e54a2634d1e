/- Several texts in one: Strs, Clone, ReadMem. -/
import Derived.Maps.AppendAt
import Derived.Lib.BufferMore
import Derived.Test.YtdpibehpmghghaaDoorBdc73a7154b2
import Derived.Test.YtdpibehpmghghaaDoorBd716114d8ce
import Derived.Test.YtdpibehpmghghaaDoorBd116ff3bb84
/- Lists of strings in memory; the library's Cut and Split by one byte; the walks of numbers, Numbers. -/
namespace Go.Proofs.YtdpibehpmghghaaDoor
open Go.RowKit

def RStr (w : World) (b o : Nat) (x : List UInt8) : Prop := cellIs w b o (.string (bs x))
theorem RStr.stable : Stable RStr := fun _ _ _ _ _ hb hlt h => cellIs.ext hb hlt h
def strEnc (x : List UInt8) : List Value := [.string (bs x)]
theorem strEnc_len (x : List UInt8) : (strEnc x).length = 1 := rfl
structure StrsAt (w : World) (A : Option Addr) (c : Nat) (l : List (List UInt8)) : Prop where
  lc : l.length ≤ c
  cm : c ≤ maxLen
  sl : SlAt RStr 1 w A l
section
variable {w w' : World} {A : Option Addr} {c k base : Nat} {l : List (List UInt8)} {v : Value}
theorem StrsAt.ext (h : StrsAt w A c l) (hb : Below w.heap.size w w') : StrsAt w' A c l := ⟨h.lc, h.cm, h.sl.ext RStr.stable hb⟩
theorem StrsAt.len (h : StrsAt w A c l) : l.length ≤ 9223372036854775807 := Nat.le_trans h.lc h.cm
theorem StrsAt.get (h : StrsAt w A c l) {x : List UInt8} (hx : l[k]? = some x) : ∃ b off, A = some ⟨b, off, none⟩ ∧ b < w.heap.size ∧ w.cell? ⟨b, off + k, none⟩ = some (.string (bs x)) := by
  obtain ⟨b, off, hS⟩ := h.sl
  obtain ⟨h1, h2, h3⟩ := hS k x hx
  rw [Nat.mul_one] at h3
  exact ⟨b, off, h1, h2, h3⟩
theorem own_strs (h : Own strEnc 1 w base 9 v l) : ∃ A c, v = .slice A l.length c ∧ StrsAt w A c l := by
  obtain ⟨A, c, hv, hS⟩ := Own.slAt (R := RStr) (enc := strEnc) (fun _ => rfl) (fun x _ b o hc => by have := hc 0 _ rfl; simpa [RStr] using this) h
  subst hv
  exact ⟨A, c, rfl, h.room.1, h.room.2, hS⟩
/-- The list behind its first element. -/
theorem StrsAt.tail {x : List UInt8} {b off : Nat} (h : StrsAt w (some ⟨b, off, none⟩) c (x :: l)) : StrsAt w (some ⟨b, off + 1, none⟩) (c - 1) l := by
  have h1 := h.lc
  have h2 := h.cm
  simp only [List.length_cons] at h1
  refine ⟨by omega, by omega, b, off + 1, fun i y hy => ?_⟩
  obtain ⟨b', off', hS⟩ := h.sl
  obtain ⟨e, k1, k2⟩ := hS (i + 1) y (by simpa using hy)
  obtain ⟨rfl, rfl⟩ : b = b' ∧ off = off' := by simpa using e
  refine ⟨rfl, k1, ?_⟩
  have : off + (i + 1) * 1 = off + 1 + i * 1 := by omega
  rw [this] at k2
  exact k2
theorem strs_of_blk {g : Nat} {cs : Array Value} (h : Blk w g 9 cs) (hc : cs = (l.map fun x => Value.string (bs x)).toArray) (hm : l.length ≤ maxLen) : StrsAt w (some ⟨g, 0, none⟩) l.length l := by
  refine ⟨Nat.le_refl _, hm, g, 0, fun i x hx => ⟨rfl, h.lt, ?_⟩⟩
  unfold RStr cellIs
  rw [h.cell, hc]
  simp [hx]
end
/-! ### Cut and Split -/
theorem bs_list (l : List UInt8) : (bs l).data.toList = l := by simp
theorem bs_of (s : ByteArray) : bs s.data.toList = s := by cases s; simp [bs]
theorem split_pieces (c : UInt8) (l : List UInt8) : (Lib.splitB (bs [c]) 0 (Lib.countB (bs l) (bs [c])) (bs l)).map Value.string = (piecesB c l).map fun x => Value.string (bs x) := by
  have h := Lib.splitB_data (bs [c]) 0 (Lib.countB (bs l) (bs [c])) (bs l)
  have e : Lib.countB (bs l) (bs [c]) = Lib.count l [c] := by unfold Lib.countB; rw [bs_list, bs_list]
  rw [bs_list, bs_list, e, splitK_pieces c _ l (Nat.le_refl _)] at h
  rw [e, ← h, List.map_map]
  refine List.map_congr_left fun s _ => ?_
  simp only [Function.comp]
theorem split_count (c : UInt8) (l : List UInt8) : Lib.countB (bs l) (bs [c]) + 1 = (piecesB c l).length := by
  have h := Lib.splitB_all (bs [c]) (by simp [ByteArray.size]) 0 _ (bs l) rfl
  have h2 := congrArg List.length (split_pieces c l)
  rw [List.length_map, List.length_map] at h2
  rw [← h, h2]
/-- Some int lies in the library's variable MaxLen. -/
def MaxL (w : World) : Prop := ∃ m : Int, w.cell? ⟨0, 0, none⟩ = some (.int .i64 m)
theorem MaxL.ext {w w' : World} (h : MaxL w) (hb : Below w.heap.size w w') : MaxL w' := by
  obtain ⟨m, hm⟩ := h
  exact ⟨m, (hb.cell (p := ⟨_, 0, none⟩) (World.block_lt_of_cell? w _ hm)).trans hm⟩
theorem split_any (c : UInt8) (l : List UInt8) (w : World) (hl : l.length ≤ 70000) (hm : MaxL w) :
    Calls Tryd.prog 43 #[.string (bs l), .string ⟨#[c]⟩] w fun e w' => e = .returned (.slice (some ⟨w.heap.size, 0, none⟩) (piecesB c l).length (piecesB c l).length) ∧ StrsAt w' (some ⟨w.heap.size, 0, none⟩) (piecesB c l).length (piecesB c l) ∧ Below w.heap.size w w' := by
  obtain ⟨m, hm⟩ := hm
  have e : (⟨#[c]⟩ : ByteArray) = bs [c] := rfl
  rw [e]
  refine (Txt.strings_Split (bs l) (bs [c]) m w (by rw [bs_size]; omega) hm (by simp [ByteArray.size])).mono fun x w' ⟨h1, h2⟩ => ?_
  rw [split_pieces c l] at h2
  rw [split_count] at h1
  subst h2
  have hle : (piecesB c l).length ≤ l.length + 1 := by
    have h := Lib.countB_le (bs [c]) (by simp [ByteArray.size]) _ (bs l) (Nat.le_refl _)
    rw [← split_count c l]
    rw [bs_size] at h
    omega
  exact ⟨h1, strs_of_blk (Blk.new w _ _) rfl (by unfold maxLen; omega), ext_alloc (Below.refl _ w) _⟩
theorem cut_any (c : UInt8) (l : List UInt8) (w : World) (hl : l.length ≤ 70000) (hm : MaxL w) :
    Calls Tryd.prog 41 #[.string (bs l), .string ⟨#[c]⟩] w fun e w' => e = .returned (.tuple #[.string (bs (Lib.cut l [c]).1), .string (bs (Lib.cut l [c]).2.1), .bool (Lib.cut l [c]).2.2]) ∧ ∃ n, w' = w.drewN n := by
  obtain ⟨m, hm⟩ := hm
  refine (Txt.strings_Cut (bs l) (bs [c]) m w (by rw [bs_size]; omega) hm).mono fun x w' ⟨h1, h2⟩ => ?_
  rw [bs_list, bs_list] at h1
  exact ⟨h1, h2⟩
/-! ### numbers of words -/
def numsR (w : List (List UInt8)) (many : Int) : List Int × Bool := if (w.length : Int) = many then (match numsB w with | some n => (n, true) | none => ([], false)) else ([], false)
def numsQ (w : List (List UInt8)) : List Int × Bool := match numsB w with | some n => (n, true) | none => ([], false)
def NumsOut (r : List Int × Bool) (w : World) (e : Ending) (w' : World) : Prop := ∃ A c, e = .returned (.tuple #[.slice A r.1.length c, .bool r.2]) ∧ (Own intEnc 1 w' w.heap.size 3 (.slice A r.1.length c) r.1 ∧ ∀ x, x ∈ r.1 → I64 x) ∧ Below w.heap.size w w'
theorem ints_nil (w : World) (base : Nat) : Own intEnc 1 w base 3 (.slice none 0 0) [] ∧ ∀ x : Int, x ∈ [] → I64 x := ⟨Own.nil, fun x h => by simp at h⟩
theorem own_at {w : World} {base n c : Nat} {A : Option Addr} {l : List Int} (h : Own intEnc 1 w base 3 (.slice A n c) l) (h0 : 0 < l.length) : ∃ g cs, A = some ⟨g, 0, none⟩ ∧ base ≤ g ∧ Blk w g 3 cs ∧ ∀ (k : Nat) (x : Int), l[k]? = some x → cs[k]? = some (Value.int .i64 x) := by
  rcases h.2 with ⟨h1, h2⟩ | ⟨g, cap, cur, hv, _⟩
  · omega
  · simp only [Value.slice.injEq] at hv
    obtain ⟨rfl, rfl, rfl⟩ := hv
    obtain ⟨_, hg, _, _, cs, hB, _, hrow⟩ := h.cells intEnc_len
    refine ⟨g, cs, rfl, hg, hB, fun k x hx => ?_⟩
    have := hrow k x hx 0 (by decide)
    simpa [intEnc] using this
theorem all_num_take {l : List (List UInt8)} {k : Nat} {x : List UInt8} (hx : l[k]? = some x) (h : (l.take k).all (fun s => decide (0 ≤ numB s)) = true) (hn : 0 ≤ numB x) : (l.take (k + 1)).all (fun s => decide (0 ≤ numB s)) = true := by
  rw [List.take_add_one, hx, List.all_append, h]
  simp [hn]
theorem all_num_not {l : List (List UInt8)} {k : Nat} {x : List UInt8} (hx : l[k]? = some x) (hn : ¬ 0 ≤ numB x) : l.all (fun s => decide (0 ≤ numB s)) = false := by
  rw [List.all_eq_false]
  exact ⟨x, List.mem_of_getElem? hx, by simpa using hn⟩
theorem map_take {l : List (List UInt8)} {k : Nat} {x : List UInt8} (hx : l[k]? = some x) : (l.take k).map numB ++ [numB x] = (l.take (k + 1)).map numB := by
  rw [List.take_add_one, hx]
  simp
set_option maxRecDepth 100000 in
set_option maxHeartbeats 4000000 in
theorem wordNums_any (A : Option Addr) (c : Nat) (l : List (List UInt8)) (many : Int) (w : World) (hA : StrsAt w A c l) (hl : l.length ≤ 100000) (hs : ∀ x, x ∈ l → x.length ≤ 100000) :
    Calls Tryd.prog 75 #[.slice A l.length c, .int .i64 many] w (NumsOut (numsR l many) w) := by
  have HA := Lib.hid hA; have HS := Lib.hid hs
  have m1 := hA.len
  clear hA hs
  by_cases hm : (l.length : Int) = many
  case neg =>
    have hd : ((l.length : Int) != many) = true := by simpa using hm
    have HR : Hid (numsR l many = ([], false)) := Lib.hid (by unfold numsR; rw [if_neg hm])
    clear hm
    rw [HR.out]
    go_enter Tryd.func75, Tryd.ntmps75
    go_wp2_with fail
    go_ret2
    exact ⟨none, 0, rfl, ints_nil _ _, Below.refl _ _⟩
  have hd : ((l.length : Int) != many) = false := by simpa using hm
  have HR : Hid (numsR l many = numsQ l) := Lib.hid (by unfold numsR; rw [if_pos hm]; rfl)
  clear hm
  obtain ⟨i0, hi, hz0, hz1, hz2⟩ := info_int2
  rw [HR.out]
  go_enter Tryd.func75, Tryd.ntmps75
  go_wp2_with fail
  go_loopw [6, 16] (fun u v wr => ∃ k : Nat, k ≤ l.length ∧ v = .int .i64 k ∧ Hid ((l.take k).all (fun s => decide (0 ≤ numB s)) = true) ∧ Own intEnc 1 wr w.heap.size 3 u ((l.take k).map numB) ∧ Below w.heap.size w wr) (fun _ v _ => l.length - (intOf v).toNat)
  case atStart => exact ⟨0, Nat.zero_le _, rfl, Lib.hid rfl, Own.nil, Below.refl _ _⟩
  case round =>
    obtain ⟨k, hk, rfl, HD, hO, hb⟩ := hrel
    have hzr := hb.size
    have hcl : ((l.take k).map numB).length + 1 ≤ 1000000 := by rw [List.length_map, List.length_take]; omega
    obtain ⟨out, ho⟩ : ∃ out, (l.take k).map numB = out := ⟨_, rfl⟩
    have HO := Lib.hid ho
    rw [ho] at hO hcl
    clear ho
    by_cases hlt : k < l.length
    case neg =>
      obtain rfl : k = l.length := by omega
      have HQ : Hid (numsQ l = (out, true)) := Lib.hid (by
        have h1 := HD.out
        have h2 := HO.out
        rw [List.take_length] at h1 h2
        unfold numsQ
        rw [numsB_some h1, h2])
      have hIo : ∀ x, x ∈ out → I64 x := fun x hx => by
        have h2 := HO.out
        rw [← h2] at hx
        obtain ⟨y, _, rfl⟩ := List.mem_map.1 hx
        exact numB_i64 y
      obtain ⟨Ao, co, rfl⟩ := hO.form
      clear HD
      go_wp2_with fail
      go_ret2
      rw [HQ.out]
      exact ⟨Ao, co, rfl, ⟨hO, hIo⟩, hb⟩
    case pos =>
      obtain ⟨x, hx⟩ := get_lt hlt
      obtain ⟨b, off, rfl, hb0, x0⟩ := HA.out.get hx
      rw [← hb.cell (by exact hb0)] at x0
      have hnum := wordNum_any x wr (by have := HS.out x (List.mem_of_getElem? hx); omega)
      have hr := numB_range x
      have HX := Lib.hid hx
      clear hx
      by_cases hn : 0 ≤ numB x
      case neg =>
        have hd2 : decide (numB x < 0) = true := by simp; omega
        have HQ : Hid (numsQ l = ([], false)) := Lib.hid (by unfold numsQ; rw [numsB_none (all_num_not HX.out hn)])
        obtain ⟨n, hn'⟩ : ∃ n, numB x = n := ⟨_, rfl⟩
        rw [hn'] at hnum hd2
        clear hn hr hn'
        go_wp2_with fail
        refine hnum.mono ?_
        rintro e w5 ⟨rfl, hb5⟩
        go_wp2_with fail
        go_ret2
        rw [HQ.out]
        exact ⟨none, 0, rfl, ints_nil _ _, ext_trans hb hb5⟩
      case pos =>
        have hd2 : decide (numB x < 0) = false := by simp; omega
        have HD2 := Lib.hid (all_num_take HX.out HD.out hn)
        have HN : Hid (out ++ [numB x] = (l.take (k + 1)).map numB) := Lib.hid (by rw [← HO.out]; exact map_take HX.out)
        obtain ⟨n, hn'⟩ : ∃ n, numB x = n := ⟨_, rfl⟩
        rw [hn'] at hnum hd2 hr HN
        clear hn hn' HD
        go_wp2_with fail
        refine hnum.mono ?_
        rintro e w5 ⟨rfl, hb5⟩
        have hO5 := hO.ext hb5
        have hb6 := ext_trans hb hb5
        have hw5 : w.heap.size ≤ w5.heap.size := Nat.le_trans hzr hb5.size
        clear hnum hb5 hO
        go_wp2_with (at_builtin; refine wpList_append_lie (enc := intEnc) rfl (.tmp 24) (.tmp 26) 52 rfl w.heap.size 3 i0 _ 1 8 Tryd.underlying52 hi hz0 hz1 hz2 rfl (by decide) _ out n rfl hO5 _ rfl w5.heap.size rfl rfl rfl int_one1 hcl (by decide) hw5 ?_; intro gn cap w6 hown6 hbb hkp hgn)
        go_roundw
        case rel => exact ⟨k + 1, by omega, by go_num, HD2, by rw [← HN.out]; exact hown6, hb6.trans hbb⟩
        case measure => simp [intOf]; omega
set_option maxRecDepth 100000 in
set_option maxHeartbeats 4000000 in
theorem refNumbers_any (A : Option Addr) (c : Nat) (l : List (List UInt8)) (w : World) (hA : StrsAt w A c l) (hl : l.length ≤ 100000) (hs : ∀ x, x ∈ l → x.length ≤ 100000) :
    Calls Tryd.prog 45 #[.slice A l.length c] w (NumsOut (numsQ l) w) := by
  have HA := Lib.hid hA; have HS := Lib.hid hs
  have m1 := hA.len
  clear hA hs
  obtain ⟨i0, hi, hz0, hz1, hz2⟩ := info_int2
  go_enter Tryd.func45, Tryd.ntmps45
  go_wp2_with fail
  go_loopw [4, 5] (fun u v wr => ∃ k : Nat, k ≤ l.length ∧ v = .int .i64 k ∧ Hid ((l.take k).all (fun s => decide (0 ≤ numB s)) = true) ∧ Own intEnc 1 wr w.heap.size 3 u ((l.take k).map numB) ∧ Below w.heap.size w wr) (fun _ v _ => l.length - (intOf v).toNat)
  case atStart => exact ⟨0, Nat.zero_le _, rfl, Lib.hid rfl, Own.nil, Below.refl _ _⟩
  case round =>
    obtain ⟨k, hk, rfl, HD, hO, hb⟩ := hrel
    have hzr := hb.size
    have hcl : ((l.take k).map numB).length + 1 ≤ 1000000 := by rw [List.length_map, List.length_take]; omega
    obtain ⟨out, ho⟩ : ∃ out, (l.take k).map numB = out := ⟨_, rfl⟩
    have HO := Lib.hid ho
    rw [ho] at hO hcl
    clear ho
    by_cases hlt : k < l.length
    case neg =>
      obtain rfl : k = l.length := by omega
      have HQ : Hid (numsQ l = (out, true)) := Lib.hid (by
        have h1 := HD.out
        have h2 := HO.out
        rw [List.take_length] at h1 h2
        unfold numsQ
        rw [numsB_some h1, h2])
      have hIo : ∀ x, x ∈ out → I64 x := fun x hx => by
        have h2 := HO.out
        rw [← h2] at hx
        obtain ⟨y, _, rfl⟩ := List.mem_map.1 hx
        exact numB_i64 y
      obtain ⟨Ao, co, rfl⟩ := hO.form
      clear HD
      go_wp2_with fail
      go_ret2
      rw [HQ.out]
      exact ⟨Ao, co, rfl, ⟨hO, hIo⟩, hb⟩
    case pos =>
      obtain ⟨x, hx⟩ := get_lt hlt
      obtain ⟨b, off, rfl, hb0, x0⟩ := HA.out.get hx
      have X0 := Lib.hid x0
      rw [← hb.cell (by exact hb0)] at x0
      have hnum := fun W => digits_any x W (by have := HS.out x (List.mem_of_getElem? hx); omega)
      have hr := numB_range x
      have HX := Lib.hid hx
      clear hx
      by_cases hn : 0 ≤ numB x
      case neg =>
        have hd2 : decide (numB x < 0) = true := by simp; omega
        have HQ : Hid (numsQ l = ([], false)) := Lib.hid (by unfold numsQ; rw [numsB_none (all_num_not HX.out hn)])
        obtain ⟨n, hn'⟩ : ∃ n, numB x = n := ⟨_, rfl⟩
        rw [hn'] at hd2
        simp only [hn'] at hnum
        have HNUM := Lib.hid hnum
        clear hn hr hn' hnum
        go_wp2_with fail
        refine (HNUM.out _).mono ?_
        rintro e w5 ⟨rfl, hb5⟩
        go_wp2_with fail
        go_ret2
        rw [HQ.out]
        exact ⟨none, 0, rfl, ints_nil _ _, ext_trans hb hb5⟩
      case pos =>
        have hd2 : decide (numB x < 0) = false := by simp; omega
        have HD2 := Lib.hid (all_num_take HX.out HD.out hn)
        have HN : Hid (out ++ [numB x] = (l.take (k + 1)).map numB) := Lib.hid (by rw [← HO.out]; exact map_take HX.out)
        obtain ⟨n, hn'⟩ : ∃ n, numB x = n := ⟨_, rfl⟩
        rw [hn'] at hd2 hr HN
        simp only [hn'] at hnum
        have HNUM := Lib.hid hnum
        clear hn hn' HD hnum
        go_wp2_with fail
        refine (HNUM.out _).mono ?_
        rintro e w4 ⟨rfl, hb4⟩
        have hb4' := ext_trans hb hb4
        have x0 := (hb4'.cell (p := ⟨b, off + k, none⟩) hb0).trans X0.out
        have hO := hO.ext hb4
        clear hb4
        go_wp2_with fail
        refine (HNUM.out _).mono ?_
        rintro e w5 ⟨rfl, hb5⟩
        have hO5 := hO.ext hb5
        have hb6 := ext_trans hb4' hb5
        have hw5 : w.heap.size ≤ w5.heap.size := hb6.size
        clear hb5 hO
        go_wp2_with (at_builtin; refine wpList_append_lie (enc := intEnc) rfl (.tmp 18) (.tmp 24) 52 rfl w.heap.size 3 i0 _ 1 8 Tryd.underlying52 hi hz0 hz1 hz2 rfl (by decide) _ out n rfl hO5 _ rfl w5.heap.size rfl rfl rfl int_one1 hcl (by decide) hw5 ?_; intro gn cap w6 hown6 hbb hkp hgn)
        go_roundw
        case rel => exact ⟨k + 1, by omega, by go_num, HD2, by rw [← HN.out]; exact hown6, hb6.trans hbb⟩
        case measure => simp [intOf]; omega
end Go.Proofs.YtdpibehpmghghaaDoor
/- The walk of slices.Clone over legs. -/
namespace Go.Proofs.YtdpibehpmghghaaDoor
open Go.RowKit

def legC (x : LegD) : List Value := [.int .i64 x.f, .int .i64 x.t, .int .i64 x.time, .int .i64 x.cost]
theorem info_leg4 : (Tryd.prog.info? 76).map (fun i => (i.zero, i.size, i.bytes)) = some (some (.agg #[.int .i64 0, .int .i64 0, .int .i64 0, .int .i64 0]), 4, 32) := by kernel_rfl
theorem info_leg2 : ∃ i, Tryd.prog.info? 76 = some i ∧ i.zero = some (.agg #[.int .i64 0, .int .i64 0, .int .i64 0, .int .i64 0]) ∧ i.size = 4 ∧ i.bytes = 32 := by
  obtain ⟨i0, hi, hzz⟩ := Option.map_eq_some_iff.1 info_leg4
  simp only [Prod.mk.injEq] at hzz
  exact ⟨i0, hi, hzz.1, hzz.2.1, hzz.2.2⟩
theorem flat_get {l : List LegD} {k : Nat} {x : LegD} (h : l[k]? = some x) : (l.flatMap legC)[k * 4]? = some (.int .i64 x.f) ∧ (l.flatMap legC)[k * 4 + 1]? = some (.int .i64 x.t) ∧ (l.flatMap legC)[k * 4 + 2]? = some (.int .i64 x.time) ∧ (l.flatMap legC)[k * 4 + 3]? = some (.int .i64 x.cost) := by
  induction l generalizing k with
  | nil => simp at h
  | cons y l ih =>
    cases k with
    | zero =>
      obtain rfl : y = x := by simpa using h
      simp [legC]
    | succ k =>
      have ih := ih (k := k) (by simpa using h)
      rw [List.flatMap_cons]
      have e : ∀ j, (k + 1) * 4 + j = 4 + (k * 4 + j) := fun j => by omega
      have hl : (legC y).length = 4 := rfl
      refine ⟨?_, ?_, ?_, ?_⟩
      · rw [show (k + 1) * 4 = 4 + k * 4 by omega, List.getElem?_append_right (by omega), hl, Nat.add_sub_cancel_left]; exact ih.1
      · rw [e 1, List.getElem?_append_right (by omega), hl, Nat.add_sub_cancel_left]; exact ih.2.1
      · rw [e 2, List.getElem?_append_right (by omega), hl, Nat.add_sub_cancel_left]; exact ih.2.2.1
      · rw [e 3, List.getElem?_append_right (by omega), hl, Nat.add_sub_cancel_left]; exact ih.2.2.2
theorem flat_back {l : List LegD} {j : Nat} {u : Value} (h : (l.flatMap legC)[j]? = some u) : ∃ (k : Nat) (x : LegD) (i : Nat), l[k]? = some x ∧ j = k * 4 + i ∧ (legC x)[i]? = some u := by
  induction l generalizing j with
  | nil => simp at h
  | cons y l ih =>
    rw [List.flatMap_cons] at h
    by_cases hj : j < 4
    · rw [List.getElem?_append_left (by show j < 4; exact hj)] at h
      exact ⟨0, y, j, rfl, by omega, h⟩
    · rw [List.getElem?_append_right (by show 4 ≤ j; omega)] at h
      obtain ⟨k, x, i, h1, h2, h3⟩ := ih (j := j - 4) h
      exact ⟨k + 1, x, i, by simpa using h1, by omega, h3⟩
theorem flat_lenC (l : List LegD) : (l.flatMap legC).length = l.length * 4 := by
  induction l with
  | nil => rfl
  | cons x l ih => rw [List.flatMap_cons, List.length_append, ih, List.length_cons]; show 4 + _ = _; omega
theorem Own.lown {w : World} {base : Nat} {A : Option Addr} {n c : Nat} {l : List LegD} (h : Own legC 4 w base 76 (.slice A n c) l) : LOwn w A l := fun h0 => by
  rcases h.2 with ⟨h1, h2⟩ | ⟨g, cap, cur, hv, hg, hh, hnc, hcm, hcs, htake⟩
  · omega
  · injection hv with h1 h2 h3
    subst h1
    refine ⟨g, cur, rfl, hh, fun k x hk => ?_⟩
    have hl := lt_of_get hk
    obtain ⟨q0, q1, q2, q3⟩ := flat_get hk
    rw [← htake] at q0 q1 q2 q3
    rw [List.getElem?_take_of_lt (by omega)] at q0 q1 q2 q3
    exact ⟨by simpa using q0, by simpa using q1, by simpa using q2, by simpa using q3⟩
theorem legs_one (l : List LegD) : ∀ u ∈ l.flatMap legC, u.oneCell' = true := fun u hu => by
  obtain ⟨x, _, hx⟩ := List.mem_flatMap.1 hu
  simp only [legC, List.mem_cons, List.not_mem_nil, or_false] at hx
  rcases hx with rfl | rfl | rfl | rfl <;> rfl
/-- A list of legs is told, in a block of its own. -/
def CloneOut (l : List LegD) (w : World) (e : Ending) (w' : World) : Prop := ∃ A c, e = .returned (.slice A l.length c) ∧ LOwn w' A l ∧ l.length ≤ c ∧ c ≤ maxLen ∧ Below w.heap.size w w'

end Go.Proofs.YtdpibehpmghghaaDoor
/- A graph that is built line by line behind a pointer: its lives, its edges, the legs of the last one. -/
namespace Go.Proofs.YtdpibehpmghghaaDoor
open Go.RowKit

theorem eEnc_len (x : EItem) : (eEnc x).length = 3 := rfl
structure LastAt (w : World) (base : Nat) (init : List EItem) (it : EItem) : Prop where
  legs : LegsAt w init
  own : Own legC 4 w base 76 (.slice it.2.1 it.1.legs.length it.2.2) it.1.legs
  apart : ∀ y, y ∈ init → ∀ g, y.2.1 = some ⟨g, 0, none⟩ → 0 < y.1.legs.length → some g ≠ (Value.slice it.2.1 it.1.legs.length it.2.2).ownBlock
def LegsX (w : World) (base : Nat) (items : List EItem) : Prop := ∀ init it, items = init ++ [it] → LastAt w base init it
section
variable {w w' : World} {base p n gn cap : Nat} {h : Int} {vl ve : Value} {lv : List IvlD} {items init : List EItem} {it : EItem}
theorem LegsX.nil : LegsX w base [] := fun init it e => by simp at e
theorem LegsX.all (hX : LegsX w base items) : LegsAt w items := by
  rcases List.eq_nil_or_concat items with rfl | ⟨init, it, rfl⟩
  · exact LegsAt.nil
  · rw [List.concat_eq_append] at hX ⊢
    have hL := hX init it rfl
    have hr := hL.own.room
    exact hL.legs.snoc ⟨hL.own.lown, hr.1, hr.2⟩
theorem LegsX.keep (hX : LegsX w base items) (hk : ∀ b cs, Blk w b 76 cs → Blk w' b 76 cs) : LegsX w' base items := fun init it e => by
  have hL := hX init it e
  exact ⟨hL.legs.keep hk, hL.own.keep hk, hL.apart⟩
/-- A new edge, without legs. -/
theorem LegsX.new (hX : LegsX w base items) (a b : Int) : LegsX w base (items ++ [(⟨a, b, []⟩, none, 0)]) := fun init it e => by
  obtain ⟨rfl, e2⟩ := List.append_inj' e rfl
  obtain rfl : it = (⟨a, b, []⟩, none, 0) := by simpa using e2.symm
  exact ⟨hX.all, Own.nil, fun y _ g _ _ => by simp [Value.ownBlock]⟩
/-- The last edge has a leg more. -/
theorem LegsX.more (hL : LastAt w base init it) (l : LegD) (hown : Own legC 4 w' base 76 (.slice (some ⟨gn, 0, none⟩) (it.1.legs.length + 1) cap) (it.1.legs ++ [l]))
    (hkp : ∀ b t' cs', Blk w b t' cs' → some b ≠ (Value.slice it.2.1 it.1.legs.length it.2.2).ownBlock → Blk w' b t' cs') (hgn : (Value.slice it.2.1 it.1.legs.length it.2.2).ownBlock = some gn ∨ w.heap.size < gn) :
    LegsX w' base (init ++ [(⟨it.1.a, it.1.b, it.1.legs ++ [l]⟩, some ⟨gn, 0, none⟩, cap)]) := fun init' it' e => by
  obtain ⟨rfl, e2⟩ := List.append_inj' e rfl
  obtain rfl : it' = _ := by simpa using e2.symm
  refine ⟨fun y hy => ?_, by simpa using hown, fun y hy g hg h0 => ?_⟩
  · obtain ⟨k1, k2, k3⟩ := hL.legs y hy
    refine ⟨fun h0 => ?_, k2, k3⟩
    obtain ⟨g, cs, hg, hB, hc⟩ := k1 h0
    exact ⟨g, cs, hg, hkp _ _ _ hB (hL.apart y hy g hg h0), hc⟩
  · have ho := hL.apart y hy g hg h0
    simp only [Value.ownBlock]
    intro e1
    obtain rfl : g = gn := Option.some.inj e1
    rcases hgn with h1 | h1
    · exact ho h1.symm
    · obtain ⟨g', cs, hg', hB, _⟩ := (hL.legs y hy).1 h0
      rw [hg] at hg'
      obtain rfl : g = g' := by simpa using hg'
      have := hB.lt
      omega
/-- The graph behind the pointer, of at most n lives, edges, legs of an edge. -/
structure GMem (w : World) (p n : Nat) (h : Int) (vl ve : Value) (lv : List IvlD) (items : List EItem) : Prop where
  gr : Blk w p 25 #[.int .i64 h, vl, ve]
  lives : Own ivlC 2 w (p + 1) 49 vl lv
  edges : Own eEnc 3 w (p + 1) 74 ve items
  legs : LegsX w (p + 1) items
  sm : I64 h ∧ (∀ x, x ∈ lv → I64 x.f ∧ I64 x.t) ∧ ∀ it, it ∈ items → I64 it.1.a ∧ I64 it.1.b ∧ ∀ x, x ∈ it.1.legs → LegI x
  cnt : lv.length ≤ n ∧ items.length ≤ n ∧ ∀ it, it ∈ items → it.1.legs.length ≤ n
abbrev gOf (h : Int) (lv : List IvlD) (items : List EItem) : GraphD := ⟨h, lv, items.map Prod.fst⟩
theorem GMem.keep (M : GMem w p n h vl ve lv items) (hk : ∀ b t cs, Blk w b t cs → Blk w' b t cs) : GMem w' p n h vl ve lv items :=
  ⟨hk _ _ _ M.gr, M.lives.keep fun b cs => hk b _ cs, M.edges.keep fun b cs => hk b _ cs, M.legs.keep fun b cs => hk b _ cs, M.sm, M.cnt⟩
theorem GMem.ext (M : GMem w p n h vl ve lv items) (hb : Below w.heap.size w w') : GMem w' p n h vl ve lv items := M.keep fun _ _ _ h => h.ext hb
theorem GMem.drew (M : GMem w p n h vl ve lv items) : GMem w.drew p n h vl ve lv items := M.keep fun _ _ _ h => h.drew
theorem GMem.drewN (M : GMem w p n h vl ve lv items) (k : Nat) : GMem (w.drewN k) p n h vl ve lv items := M.keep fun _ _ _ h => h.drewN k
theorem GMem.more {m : Nat} (M : GMem w p n h vl ve lv items) (hm : n ≤ m) : GMem w p m h vl ve lv items := ⟨M.gr, M.lives, M.edges, M.legs, M.sm, by have := M.cnt.1; omega, by have := M.cnt.2.1; omega, fun it hi => by have := M.cnt.2.2 it hi; omega⟩
theorem GMem.le (M : GMem w p n h vl ve lv items) : p < w.heap.size := M.gr.lt
theorem GMem.new (w : World) (p : Nat) (hp : p = w.heap.size) (n : Nat) : GMem (w.alloc (.cells #[.int .i64 0, .slice none 0 0, .slice none 0 0] 25)) p n 0 (.slice none 0 0) (.slice none 0 0) [] [] :=
  ⟨Blk.new_ hp, Own.nil, Own.nil, LegsX.nil, ⟨by simp [I64], fun x hx => by simp at hx, fun x hx => by simp at hx⟩, by simp, by simp, fun x hx => by simp at hx⟩
theorem GMem.at_ (M : GMem w p n h vl ve lv items) : ∃ A c A' c', vl = .slice A lv.length c ∧ ve = .slice A' items.length c' ∧ GraphAt w A c A' c' (gOf h lv items) := by
  obtain ⟨A, c, rfl, hS⟩ := own_lives M.lives M.sm.2.1
  obtain ⟨A', c', rfl, hS'⟩ := own_edges M.edges M.legs.all M.sm.2.2
  have h1 := M.lives.room
  have h2 := M.edges.room
  exact ⟨A, c, A', c', rfl, rfl, M.sm.1, h1.1, h1.2, by simpa using h2.1, h2.2, hS, hS'⟩
theorem graph_own {A A' : Option Addr} {c c' : Nat} (h1 : Own ivlC 2 w base 49 (.slice A lv.length c) lv) (h2 : Own eEnc 3 w base 74 (.slice A' items.length c') items) (h3 : LegsX w base items)
    (sm : I64 h ∧ (∀ x, x ∈ lv → I64 x.f ∧ I64 x.t) ∧ ∀ it, it ∈ items → I64 it.1.a ∧ I64 it.1.b ∧ ∀ x, x ∈ it.1.legs → LegI x) : GraphAt w A c A' c' (gOf h lv items) := by
  have r1 := h1.room
  have r2 := h2.room
  obtain ⟨B, d, e1, hS⟩ := own_lives h1 sm.2.1
  obtain ⟨B', d', e2, hS'⟩ := own_edges h2 h3.all sm.2.2
  obtain ⟨rfl, rfl⟩ : A = B ∧ c = d := by simpa using e1
  obtain ⟨rfl, rfl⟩ : A' = B' ∧ c' = d' := by simpa using e2
  exact ⟨sm.1, r1.1, r1.2, by simpa using r2.1, r2.2, hS, hS'⟩
/-- The graph, after it was told in a block of its own. -/
theorem GMem.told {A A' : Option Addr} {c c' B : Nat} {cs : Array Value} (M : GMem w p n h (.slice A lv.length c) (.slice A' items.length c') lv items) (hB : Blk w B 25 cs) (u0 u1 u2 : Value) :
    GraphAt (((w.setCell ⟨B, 0, none⟩ u0).setCell ⟨B, 1, none⟩ u1).setCell ⟨B, 2, none⟩ u2) A c A' c' (gOf h lv items) := by
  have hk : ∀ t b cs, t ≠ 25 → Blk w b t cs → Blk (((w.setCell ⟨B, 0, none⟩ u0).setCell ⟨B, 1, none⟩ u1).setCell ⟨B, 2, none⟩ u2) b t cs := fun t b cs ht hb => by
    have hne : b ≠ B := blk_ne hb hB ht
    exact ((hb.far (p := ⟨B, 0, none⟩) hne _).far (p := ⟨B, 1, none⟩) hne _).far (p := ⟨B, 2, none⟩) hne _
  exact graph_own (M.lives.keep fun b cs => hk _ b cs (by decide)) (M.edges.keep fun b cs => hk _ b cs (by decide)) (M.legs.keep fun b cs => hk _ b cs (by decide)) M.sm
/-! ### what lines do to it -/
theorem GMem.time (M : GMem w p n h vl ve lv items) {a : Int} (ha : I64 a) : GMem (w.setCell ⟨p, 0, none⟩ (.int .i64 a)) p n a vl ve lv items :=
  ⟨by simpa using M.gr.set_ 0 (.int .i64 a), M.lives.keep (keep_store M.gr (by decide) 0 _), M.edges.keep (keep_store M.gr (by decide) 0 _), M.legs.keep (keep_store M.gr (by decide) 0 _), ⟨ha, M.sm.2⟩, M.cnt⟩
theorem GMem.vertex (M : GMem w p n h vl ve lv items) {x : IvlD} (hown : Own ivlC 2 w' (p + 1) 49 (.slice (some ⟨gn, 0, none⟩) (lv.length + 1) cap) (lv ++ [x]))
    (hkp : ∀ b t' cs', Blk w b t' cs' → some b ≠ vl.ownBlock → Blk w' b t' cs') (hx : I64 x.f ∧ I64 x.t) :
    Blk w' p 25 #[.int .i64 h, vl, ve] ∧ GMem (w'.setCell ⟨p, 1, none⟩ (.slice (some ⟨gn, 0, none⟩) (lv.length + 1) cap)) p (n + 1) h (.slice (some ⟨gn, 0, none⟩) (lv.length + 1) cap) ve (lv ++ [x]) items := by
  have hk : ∀ t b cs, t ≠ 49 → Blk w b t cs → Blk w' b t cs := fun t b cs ht h => hkp _ _ _ h (M.lives.other h ht)
  have hg := hk _ _ _ (by decide) M.gr
  refine ⟨hg, by simpa using hg.set_ 1 (.slice (some ⟨gn, 0, none⟩) (lv.length + 1) cap), hown.keep (keep_store hg (by decide) 1 _), (M.edges.keep fun b cs => hk _ b cs (by decide)).keep (keep_store hg (by decide) 1 _),
    (M.legs.keep fun b cs => hk _ b cs (by decide)).keep (keep_store hg (by decide) 1 _), ⟨M.sm.1, fun y hy => ?_, M.sm.2.2⟩, by have := M.cnt.1; simp; omega, by have := M.cnt.2.1; omega, fun it hi => by have := M.cnt.2.2 it hi; omega⟩
  rcases List.mem_append.1 hy with hy | hy
  · exact M.sm.2.1 y hy
  · obtain rfl : y = x := by simpa using hy
    exact hx
theorem GMem.edge (M : GMem w p n h vl ve lv items) {a b : Int} (hown : Own eEnc 3 w' (p + 1) 74 (.slice (some ⟨gn, 0, none⟩) (items.length + 1) cap) (items ++ [(⟨a, b, []⟩, none, 0)]))
    (hkp : ∀ b t' cs', Blk w b t' cs' → some b ≠ ve.ownBlock → Blk w' b t' cs') (hx : I64 a ∧ I64 b) :
    Blk w' p 25 #[.int .i64 h, vl, ve] ∧ GMem (w'.setCell ⟨p, 2, none⟩ (.slice (some ⟨gn, 0, none⟩) (items.length + 1) cap)) p (n + 1) h vl (.slice (some ⟨gn, 0, none⟩) (items.length + 1) cap) lv (items ++ [(⟨a, b, []⟩, none, 0)]) := by
  have hk : ∀ t b cs, t ≠ 74 → Blk w b t cs → Blk w' b t cs := fun t b cs ht h => hkp _ _ _ h (M.edges.other h ht)
  have hg := hk _ _ _ (by decide) M.gr
  refine ⟨hg, by simpa using hg.set_ 2 (.slice (some ⟨gn, 0, none⟩) (items.length + 1) cap), (M.lives.keep fun b cs => hk _ b cs (by decide)).keep (keep_store hg (by decide) 2 _), hown.keep (keep_store hg (by decide) 2 _),
    ((M.legs.keep fun b cs => hk _ b cs (by decide)).keep (keep_store hg (by decide) 2 _)).new a b, ⟨M.sm.1, M.sm.2.1, fun y hy => ?_⟩, by have := M.cnt.1; omega, by have := M.cnt.2.1; simp; omega, fun it hi => ?_⟩
  · rcases List.mem_append.1 hy with hy | hy
    · exact M.sm.2.2 y hy
    · obtain rfl : y = _ := by simpa using hy
      exact ⟨hx.1, hx.2, fun x hx => by simp at hx⟩
  · rcases List.mem_append.1 hi with hi | hi
    · have := M.cnt.2.2 it hi; omega
    · obtain rfl : it = _ := by simpa using hi
      simp
/-- The edges' block, and what a store of the last one's legs makes of it. -/
theorem edges_last {c : Nat} {A : Option Addr} (hO : Own eEnc 3 w base 74 (.slice A n c) (init ++ [it])) : ∃ ge, A = some ⟨ge, 0, none⟩ ∧ n = init.length + 1 ∧ base ≤ ge ∧ ∃ cs, Blk w ge 74 cs ∧
    cs[init.length * 3 + 2]? = some (.slice it.2.1 it.1.legs.length it.2.2) := by
  rcases hO.2 with ⟨h1, h0⟩ | ⟨g, cap, cur, hv, _⟩
  · simp at h0
  · simp only [Value.slice.injEq] at hv
    obtain ⟨rfl, rfl, rfl⟩ := hv
    obtain ⟨h1, h2, _, _, cs, hB, _, hrow⟩ := hO.cells eEnc_len
    refine ⟨g, rfl, by simp, h2, cs, hB, ?_⟩
    have := hrow init.length it (by simp) 2 (by decide)
    simpa [eEnc] using this
theorem edges_put {ge c : Nat} {it' : EItem} (hO : Own eEnc 3 w base 74 (.slice (some ⟨ge, 0, none⟩) n c) (init ++ [it])) (ha : it'.1.a = it.1.a) (hb : it'.1.b = it.1.b) :
    Own eEnc 3 (w.setCell ⟨ge, init.length * 3 + 2, none⟩ (.slice it'.2.1 it'.1.legs.length it'.2.2)) base 74 (.slice (some ⟨ge, 0, none⟩) n c) (init ++ [it']) := by
  obtain ⟨h1, h2, h3, h4, cs, hB, hcs, hrow⟩ := hO.cells eEnc_len
  have hl : (init ++ [it']).length = (init ++ [it]).length := by simp
  have k2 : init.length * 3 + 2 < cs.size := by
    rw [hcs]
    simp only [List.length_append, List.length_cons, List.length_nil] at h3
    omega
  have k0 := hrow init.length it (by simp) 0 (by decide)
  have k1 := hrow init.length it (by simp) 1 (by decide)
  rw [h1, ← hl]
  refine Own.of_cells eEnc_len (by decide) (hB.set_ _ _) h2 (by rw [hl]; exact h3) h4 (by simpa using hcs) ?_
  have e : (init ++ [it]).set init.length it' = init ++ [it'] := by simp
  rw [← e]
  refine hrow.set (by simp) (fun t ht => by rw [Array.getElem?_setIfInBounds_ne (by omega)]) (fun t ht => ?_)
  match t, ht with
  | 0, _ => rw [Array.getElem?_setIfInBounds_ne (by omega), k0]; simp [eEnc, ha]
  | 1, _ => rw [Array.getElem?_setIfInBounds_ne (by omega), k1]; simp [eEnc, hb]
  | 2, _ => rw [Array.getElem?_setIfInBounds_self_of_lt k2]; rfl
theorem GMem.leg {ge c : Nat} (M : GMem w p n h vl (.slice (some ⟨ge, 0, none⟩) (init.length + 1) c) lv (init ++ [it])) {l : LegD} (hown : Own legC 4 w' (p + 1) 76 (.slice (some ⟨gn, 0, none⟩) (it.1.legs.length + 1) cap) (it.1.legs ++ [l]))
    (hkp : ∀ b t' cs', Blk w b t' cs' → some b ≠ (Value.slice it.2.1 it.1.legs.length it.2.2).ownBlock → Blk w' b t' cs') (hgn : (Value.slice it.2.1 it.1.legs.length it.2.2).ownBlock = some gn ∨ w.heap.size < gn) (hx : LegI l) :
    Blk w' p 25 #[.int .i64 h, vl, .slice (some ⟨ge, 0, none⟩) (init.length + 1) c] ∧ (∀ cs, Blk w ge 74 cs → Blk w' ge 74 cs) ∧
    GMem (w'.setCell ⟨ge, init.length * 3 + 2, none⟩ (.slice (some ⟨gn, 0, none⟩) (it.1.legs.length + 1) cap)) p (n + 1) h vl (.slice (some ⟨ge, 0, none⟩) (init.length + 1) c) lv (init ++ [(⟨it.1.a, it.1.b, it.1.legs ++ [l]⟩, some ⟨gn, 0, none⟩, cap)]) := by
  have hL := M.legs init it rfl
  have hk : ∀ t b cs, t ≠ 76 → Blk w b t cs → Blk w' b t cs := fun t b cs ht h => hkp _ _ _ h (hL.own.other h ht)
  have hg := hk _ _ _ (by decide) M.gr
  obtain ⟨_, _, _, _, cs, hB, _, _⟩ := M.edges.cells eEnc_len
  have hBe := hk _ _ _ (by decide) hB
  have hX := LegsX.more hL l hown hkp hgn
  have hE := edges_put (it' := (⟨it.1.a, it.1.b, it.1.legs ++ [l]⟩, some ⟨gn, 0, none⟩, cap)) (M.edges.keep fun b cs => hk _ b cs (by decide)) rfl rfl
  rw [show (it.1.legs ++ [l]).length = it.1.legs.length + 1 by simp] at hE
  refine ⟨hg, fun cs h => hk _ _ _ (by decide) h, keep_store hBe (by decide) _ _ _ _ hg, (M.lives.keep fun b cs => hk _ b cs (by decide)).keep (keep_store hBe (by decide) _ _), hE, hX.keep (keep_store hBe (by decide) _ _), ⟨M.sm.1, M.sm.2.1, fun y hy => ?_⟩,
    by have := M.cnt.1; omega, by have := M.cnt.2.1; simp at this ⊢; omega, fun y hy => ?_⟩
  · rcases List.mem_append.1 hy with hy | hy
    · exact M.sm.2.2 y (by simp [hy])
    · obtain rfl : y = _ := by simpa using hy
      obtain ⟨h1, h2, h3⟩ := M.sm.2.2 it (by simp)
      refine ⟨h1, h2, fun x hx' => ?_⟩
      rcases List.mem_append.1 hx' with hx' | hx'
      · exact h3 x hx'
      · obtain rfl : x = l := by simpa using hx'
        exact hx
  · rcases List.mem_append.1 hy with hy | hy
    · have := M.cnt.2.2 y (by simp [hy]); omega
    · obtain rfl : y = _ := by simpa using hy
      have := M.cnt.2.2 it (by simp)
      simp
      omega
end
end Go.Proofs.YtdpibehpmghghaaDoor
