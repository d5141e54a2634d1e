/- Several texts in one: MapEdges, WarpTimes. -/
import Derived.Test.YtjcimdpldlamfaaGreatDoorBdd5c3bfdbe7
import Derived.Test.YtjcimdpldlamfaaGreatDoorBdda32f21b61
import Derived.Test.YtjcimdpldlamfaaGreatDoorBd069242f7b3
/- The walk of imap.edges, of two maps (printed by genedges2.py). -/
namespace Go.Proofs.YtjcimdpldlamfaaGreatDoor
open Go.RowKit Go.Shelf Go.Sort

def endsP (l : List PieceD) : List Int := l.flatMap fun x => [x.f, x.t]
theorem endsP_snoc {l : List PieceD} {x : PieceD} : endsP (l ++ [x]) = endsP l ++ [x.f, x.t] := by simp [endsP]
theorem endsP_len : ∀ l : List PieceD, (endsP l).length = 2 * l.length
 | [] => rfl
 | x :: l => by
  show ([x.f, x.t] ++ endsP l).length = _
  rw [List.length_append, endsP_len l]
  simp
  omega
theorem mem_endsP {l : List PieceD} {n : Int} : n ∈ endsP l ↔ ∃ x, x ∈ l ∧ (n = x.f ∨ n = x.t) := by simp [endsP]
theorem endsP_turns {l : List PieceD} {D S : List Int} (h : D.Pairwise (· < ·)) (hm : ∀ x, x ∈ D ↔ x ∈ S) (hS : ∀ x, x ∈ endsP l → x ∈ S) : TurnsAt D none (atM l) :=
 atM_turns h fun x hx => ⟨(hm _).2 (hS _ (mem_endsP.2 ⟨x, hx, .inl rfl⟩)), (hm _).2 (hS _ (mem_endsP.2 ⟨x, hx, .inr rfl⟩))⟩
theorem compact_uniq {zs : List Int} (hs : zs.Pairwise (· ≤ ·)) : ∀ m, m ≤ zs.length → Uniq zs m (Lib.compactUpTo zs.toArray m) ∧ (0 < m → ∃ o, Lib.compactUpTo zs.toArray m = o ++ [zs.toArray[m - 1]!])
 | 0, _ => ⟨by simpa [Lib.compactUpTo] using Uniq.start, fun h => by omega⟩
 | m + 1, hm => by
  obtain ⟨h1, h2⟩ := compact_uniq hs m (by omega)
  have hx : zs[m]? = some zs.toArray[m]! := by
   rw [List.getElem?_eq_getElem (by omega)]
   simp [getElem!_pos, show m < zs.length by omega]
  rw [Lib.compactUpTo_succ]
  rcases Nat.eq_zero_or_pos m with rfl | h0
  ·have hk : Lib.keeps zs.toArray 0 = true := Lib.keeps_lt_one _ 0 (by omega)
   rw [if_pos hk]
   have e : Lib.compactUpTo zs.toArray 0 = [] := by simp [Lib.compactUpTo]
   rw [e]
   exact ⟨by simpa using Uniq.first hx, fun _ => ⟨[], by simp⟩⟩
  ·obtain ⟨o, ho⟩ := h2 h0
   by_cases hne : zs.toArray[m]! = zs.toArray[m - 1]!
   ·rw [Lib.keeps_neg h0 hne, if_neg (by simp), List.append_nil]
    rw [ho] at h1 ⊢
    rw [← hne] at h1 ⊢
    exact ⟨h1.same hx, fun _ => ⟨o, by rw [Nat.add_sub_cancel]⟩⟩
   ·rw [Lib.keeps_pos hne, if_pos rfl]
    refine ⟨?_, fun _ => ⟨_, by rw [Nat.add_sub_cancel]⟩⟩
    rw [ho] at h1 ⊢
    exact h1.new hs hx fun e => hne e.symm
def CompOut (l : List Int) (w : World) (base : Nat) (e : Ending) (w' : World) : Prop := ∃ A c D, Hid (D.Pairwise (· < ·) ∧ (∀ x, x ∈ D ↔ x ∈ l) ∧ D.length ≤ l.length) ∧ e = .returned (.slice A D.length c) ∧ IntsAt w' A c D ∧ Below base w w'
theorem compact_any (v : Value) (l : List Int) (w : World) (base : Nat) (hown : Own intEnc 1 w base 3 v l) (hbase : base ≤ w.heap.size) (hl : l.length ≤ 100000) (hs : l.Pairwise (· ≤ ·)) (hi : ∀ x, x ∈ l → I64 x) :
  Calls Tryz.prog 186 #[v] w (CompOut l w base) := by
 have hu := (compact_uniq hs l.length (Nat.le_refl _)).1
 have hm := hu.mem
 rw [List.take_length] at hm
 rcases hown.2 with ⟨hv, h0⟩ | ⟨g, cap, cur, hv, hg, hh, hnc, hcm, _⟩
 ·rw [hv]
  have h0' : l = [] := List.eq_nil_of_length_eq_zero h0
  exact (Tryz.slices_Compact_int_empty none 0 w).mono fun e w' ⟨he, hw⟩ => ⟨none, 0, [], Lib.hid ⟨.nil, by simp [h0'], Nat.zero_le _⟩, he, ⟨Nat.le_refl _, Nat.zero_le _, SlAt.nil⟩, by rw [hw]; exact Below.refl _ _⟩
 ·rw [hv] at hown ⊢
  have hH := holds_int (hown.holdsK (sz := 1) (fun _ => rfl) (by decide))
  refine (Tryz.slices_Compact_int g 0 cap l w hH (by omega) hnc).mono fun e w' ⟨he, n, hw⟩ => ?_
  have hcl : (Lib.compact l).length ≤ l.length := hu.short
  have hsz : (Lib.compact l ++ List.replicate (l.length - (Lib.compact l).length) (0 : Int)).length = l.length := by rw [List.length_append, List.length_replicate]; omega
  have h2 := hown.sortWorld (sz := 1) (m := n) (os := #[]) (fun _ => rfl) (by decide) hsz
  have ew : w' = Go.Proofs.sortWorldK intEnc 1 w g 0 n (Lib.compact l ++ List.replicate (l.length - (Lib.compact l).length) (0 : Int)).toArray #[] := by
   rw [hw, putRow_int]
   unfold Go.Proofs.sortWorldK
   rw [grow_empty]
  rw [← ew] at h2
  have h3 := h2.cut intEnc_len (by decide) hcl
  rw [List.take_left] at h3
  obtain ⟨Ax, cx, ex, hIx⟩ := own_ints h3 (fun x hx => hi x ((hm x).1 hx))
  refine ⟨Ax, cx, Lib.compact l, Lib.hid ⟨hu.up, hm, hcl⟩, ?_, hIx, ?_⟩
  ·rw [he, ex]
  ·rw [ew]; exact below_sort hg hbase

set_option maxRecDepth 100000 in
set_option maxHeartbeats 8000000 in
theorem edges_any (gl : Nat) (A B : Option Addr) (c d : Nat) (m r : List PieceD) (w : World) (hL : Blk w gl 111 #[.slice A m.length c, .slice B r.length d]) (hA : PiecesAt w A c m) (hB : PiecesAt w B d r) (hlm : m.length ≤ 1000) (hlr : r.length ≤ 1000) :
  Calls Tryz.prog 171 #[.slice (some ⟨gl, 0, none⟩) 2 2] w (CompOut (endsP m ++ endsP r) w w.heap.size) := by
 obtain ⟨i0, hi, hz0, hz1, hz2⟩ := info_int2
 have HI0 := Lib.hid hA; have HI1 := Lib.hid hB
 clear hA hB
 go_enter Tryz.func171, Tryz.ntmps171
 go_wp2_with fail
 go_loopw [3, 10] (fun u v wr => ∃ (j : Nat) (acc : List Int), j ≤ 2 ∧ v = .int .i64 j ∧ Hid (acc = if j = 0 then [] else if j = 1 then endsP m else endsP m ++ endsP r) ∧ Own intEnc 1 wr w.heap.size 3 u acc ∧ Below w.heap.size w wr) (fun _ v _ => 2 - (intOf v).toNat)
 case atStart => exact ⟨0, [], by omega, rfl, Lib.hid rfl, Own.nil, Below.refl _ _⟩
 case round =>
  obtain ⟨j, acc, hj, hv, HAC, hO, hb⟩ := hrel
  obtain ⟨q1, q2, q3⟩ := (hL.ext hb).facts
  have hzr := hb.size
  have hj3 : j = 0 ∨ j = 1 ∨ j = 2 := by omega
  rcases hj3 with rfl | rfl | rfl
  ·obtain rfl : acc = [] := HAC.out
   rw [show ((0 : Nat) : Int) = 0 from rfl] at hv
   subst hv
   clear hj HAC
   obtain ⟨wo, hwo⟩ : ∃ wo : World, wo = wr := ⟨_, rfl⟩
   rw [← hwo] at hO hb q1 q2 q3 hzr ⊢
   clear hwo
   have m0l := HI0.out.len
   go_wp2_with fail
   go_loopw [3, 16] (fun u v wt => ∃ (k : Nat), k ≤ m.length ∧ v = .int .i64 k ∧ Own intEnc 1 wt w.heap.size 3 u (([] : List Int) ++ endsP (m.take k)) ∧ Below w.heap.size w wt) (fun _ v _ => m.length - (intOf v).toNat)
   case atStart => exact ⟨0, Nat.zero_le _, rfl, by simpa [endsP] using hO, hb⟩
   case round =>
    clear hO hb
    obtain ⟨k, hk, rfl, hO, hb⟩ := hrel
    have hzw := hb.size
    by_cases hlt : k < m.length
    case neg =>
     obtain rfl : k = m.length := by omega
     rw [List.take_length] at hO
     go_wp2_with fail
     go_roundw
     case rel => exact ⟨1, _, by omega, by go_num, Lib.hid (by simp), hO, hb⟩
     case measure => simp [intOf]
    case pos =>
     obtain ⟨x, hx⟩ := get_lt hlt
     obtain ⟨b, off, rfl, hb0, x0, x1, x2⟩ := HI0.out.get hx
     rw [← hb.cell (by exact hb0)] at x0 x1 x2
     have HN : Hid (endsP (m.take (k + 1)) = endsP (m.take k) ++ [x.f, x.t]) := Lib.hid (by rw [takeM_succ hx, endsP_snoc])
     have hcl : (([] : List Int) ++ endsP (m.take k)).length + 2 ≤ 1000000 := by
      have h1 := hlm; have h2 := hlr
      simp only [List.length_append, endsP_len, List.length_take, List.length_nil]; omega
     obtain ⟨a2, ha2⟩ : ∃ a2, a2 = ([] : List Int) ++ endsP (m.take k) := ⟨_, rfl⟩
     have HA2 := Lib.hid ha2
     rw [← ha2] at hcl hO
     clear hx ha2
     go_wp2_with (at_builtin; refine wpList_append_els (enc := intEnc) rfl (.tmp 20) (.tmp 25) 55 rfl w.heap.size 3 i0 _ 1 8 Tryz.underlying55 hi hz0 hz1 hz2 rfl (by decide) _ a2 [x.f, x.t] 2 rfl rfl (hO.alloc _) #[.int .i64 x.f, .int .i64 x.t] rfl (wr.heap.size + 1) (by simp) rfl rfl int_one2 hcl (by decide) (by simp; omega) ?_; intro v' w6 hown6 hb8 _)
     go_roundw
     case rel => exact ⟨k + 1, by omega, by go_num, by rw [HN.out, ← List.append_assoc, ← HA2.out]; exact hown6, (ext_alloc hb _).trans hb8⟩
     case measure => simp [intOf]; omega
  ·obtain rfl : acc = endsP m := HAC.out
   rw [show ((1 : Nat) : Int) = 1 from rfl] at hv
   subst hv
   clear hj HAC
   obtain ⟨wo, hwo⟩ : ∃ wo : World, wo = wr := ⟨_, rfl⟩
   rw [← hwo] at hO hb q1 q2 q3 hzr ⊢
   clear hwo
   have m1l := HI1.out.len
   go_wp2_with fail
   go_loopw [3, 16] (fun u v wt => ∃ (k : Nat), k ≤ r.length ∧ v = .int .i64 k ∧ Own intEnc 1 wt w.heap.size 3 u (endsP m ++ endsP (r.take k)) ∧ Below w.heap.size w wt) (fun _ v _ => r.length - (intOf v).toNat)
   case atStart => exact ⟨0, Nat.zero_le _, rfl, by simpa [endsP] using hO, hb⟩
   case round =>
    clear hO hb
    obtain ⟨k, hk, rfl, hO, hb⟩ := hrel
    have hzw := hb.size
    by_cases hlt : k < r.length
    case neg =>
     obtain rfl : k = r.length := by omega
     rw [List.take_length] at hO
     go_wp2_with fail
     go_roundw
     case rel => exact ⟨2, _, by omega, by go_num, Lib.hid rfl, hO, hb⟩
     case measure => simp [intOf]
    case pos =>
     obtain ⟨x, hx⟩ := get_lt hlt
     obtain ⟨b, off, rfl, hb0, x0, x1, x2⟩ := HI1.out.get hx
     rw [← hb.cell (by exact hb0)] at x0 x1 x2
     have HN : Hid (endsP (r.take (k + 1)) = endsP (r.take k) ++ [x.f, x.t]) := Lib.hid (by rw [takeM_succ hx, endsP_snoc])
     have hcl : (endsP m ++ endsP (r.take k)).length + 2 ≤ 1000000 := by
      have h1 := hlm; have h2 := hlr
      simp only [List.length_append, endsP_len, List.length_take]; omega
     obtain ⟨a2, ha2⟩ : ∃ a2, a2 = endsP m ++ endsP (r.take k) := ⟨_, rfl⟩
     have HA2 := Lib.hid ha2
     rw [← ha2] at hcl hO
     clear hx ha2
     go_wp2_with (at_builtin; refine wpList_append_els (enc := intEnc) rfl (.tmp 20) (.tmp 25) 55 rfl w.heap.size 3 i0 _ 1 8 Tryz.underlying55 hi hz0 hz1 hz2 rfl (by decide) _ a2 [x.f, x.t] 2 rfl rfl (hO.alloc _) #[.int .i64 x.f, .int .i64 x.t] rfl (wr.heap.size + 1) (by simp) rfl rfl int_one2 hcl (by decide) (by simp; omega) ?_; intro v' w6 hown6 hb8 _)
     go_roundw
     case rel => exact ⟨k + 1, by omega, by go_num, by rw [HN.out, ← List.append_assoc, ← HA2.out]; exact hown6, (ext_alloc hb _).trans hb8⟩
     case measure => simp [intOf]; omega
  ·have ha : acc = endsP m ++ endsP r := HAC.out
   rw [show ((2 : Nat) : Int) = 2 from rfl] at hv
   subst hv
   have HA := Lib.hid ha
   have hi64 : ∀ x, x ∈ acc → I64 x := fun x hx => by
    rw [ha] at hx
    rcases List.mem_append.1 hx with hx | hx
    ·obtain ⟨y, hy, h⟩ := mem_endsP.1 hx
     obtain ⟨k, hk⟩ := List.getElem?_of_mem hy
     have := HI0.out.i64 hk
     rcases h with rfl | rfl
     ·exact this.1
     ·exact this.2.1
    ·obtain ⟨y, hy, h⟩ := mem_endsP.1 hx
     obtain ⟨k, hk⟩ := List.getElem?_of_mem hy
     have := HI1.out.i64 hk
     rcases h with rfl | rfl
     ·exact this.1
     ·exact this.2.1
   have hal : acc.length ≤ 100000 := by rw [ha, List.length_append, endsP_len, endsP_len]; omega
   have HI64 := Lib.hid hi64
   clear hj HAC ha hi64
   go_wp2_with fail
   refine (sortInts_any _ acc wr w.heap.size hO hzr hal).mono ?_
   rintro e w7 ⟨rfl, S, hmem, hlen, hsort, O7, hb7⟩
   have hb8 := hb.trans hb7
   have hC := compact_any _ S w7 w.heap.size O7 hb8.size (by omega) hsort (fun x hx => HI64.out x ((hmem x).1 hx))
   have HM := Lib.hid hmem
   have HLN := Lib.hid hlen
   clear hmem hlen hsort O7 hO q1 q2 q3
   go_wp2_with fail
   refine hC.mono ?_
   rintro e w8 ⟨A8, c8, D, HD, rfl, hI8, hb9⟩
   go_wp2_with fail
   go_ret
   exact ⟨A8, c8, D, Lib.hid ⟨HD.out.1, fun x => by rw [HD.out.2.1, HM.out, HA.out], by rw [← HA.out, ← HLN.out]; exact HD.out.2.2⟩, rfl, hI8, hb8.trans hb9⟩
end Go.Proofs.YtjcimdpldlamfaaGreatDoor
/- The walks of warp.times and warp.same. -/
namespace Go.Proofs.YtjcimdpldlamfaaGreatDoor
open Go.RowKit Go.Shelf

set_option maxRecDepth 100000 in
set_option maxHeartbeats 8000000 in
theorem warpTimes_any (A B : Option Addr) (c d : Nat) (m r : List PieceD) (w : World) (hA : PiecesAt w A c m) (hB : PiecesAt w B d r) (hlm : m.length ≤ 1000) (hlr : r.length ≤ 1000) :
  Calls Tryz.prog 179 #[.slice A m.length c, .slice B r.length d] w (CompOut (endsP m ++ endsP r) w w.heap.size) := by
 obtain ⟨i0, hi, hz0, hz1, hz2⟩ := info_int2
 have HI0 := Lib.hid hA; have HI1 := Lib.hid hB
 have m0l := hA.len
 have m1l := hB.len
 clear hA hB
 go_enter Tryz.func179, Tryz.ntmps179
 go_wp2_with fail
 go_loopw [5, 12] (fun u v wt => ∃ (k : Nat), k ≤ m.length ∧ v = .int .i64 k ∧ Own intEnc 1 wt w.heap.size 3 u (endsP (m.take k)) ∧ Below w.heap.size w wt) (fun _ v _ => m.length - (intOf v).toNat)
 case atStart => exact ⟨0, Nat.zero_le _, rfl, Own.nil, Below.refl _ _⟩
 case round =>
  obtain ⟨k, hk, rfl, hO, hb⟩ := hrel
  have hzw := hb.size
  by_cases hlt : k < m.length
  case pos =>
   obtain ⟨x, hx⟩ := get_lt hlt
   obtain ⟨b, off, rfl, hb0, x0, x1, x2⟩ := HI0.out.get hx
   rw [← hb.cell (by exact hb0)] at x0 x1 x2
   have HN : Hid (endsP (m.take (k + 1)) = endsP (m.take k) ++ [x.f, x.t]) := Lib.hid (by rw [takeM_succ hx, endsP_snoc])
   have hcl : (endsP (m.take k)).length + 2 ≤ 1000000 := by
    have h1 := hlm; have h2 := hlr
    simp only [endsP_len, List.length_take]; omega
   obtain ⟨a2, ha2⟩ : ∃ a2, a2 = endsP (m.take k) := ⟨_, rfl⟩
   have HA2 := Lib.hid ha2
   rw [← ha2] at hcl hO
   clear hx ha2
   go_wp2_with (at_builtin; refine wpList_append_els (enc := intEnc) rfl (.tmp 16) (.tmp 21) 55 rfl w.heap.size 3 i0 _ 1 8 Tryz.underlying55 hi hz0 hz1 hz2 rfl (by decide) _ a2 [x.f, x.t] 2 rfl rfl (hO.alloc _) #[.int .i64 x.f, .int .i64 x.t] rfl (wr.heap.size + 1) (by simp) rfl rfl int_one2 hcl (by decide) (by simp; omega) ?_; intro v' w6 hown6 hb8 _)
   go_roundw
   case rel => exact ⟨k + 1, by omega, by go_num, by rw [HN.out, ← HA2.out]; exact hown6, (ext_alloc hb _).trans hb8⟩
   case measure => simp [intOf]; omega
  case neg =>
   obtain rfl : k = m.length := by omega
   rw [List.take_length] at hO
   obtain ⟨wo, hwo⟩ : ∃ wo : World, wo = wr := ⟨_, rfl⟩
   rw [← hwo] at hO hb hzw ⊢
   clear hwo
   go_wp2_with fail
   go_loopw [5, 26] (fun u v wt => ∃ (k : Nat), k ≤ r.length ∧ v = .int .i64 k ∧ Own intEnc 1 wt w.heap.size 3 u (endsP m ++ endsP (r.take k)) ∧ Below w.heap.size w wt) (fun _ v _ => r.length - (intOf v).toNat)
   case atStart => exact ⟨0, Nat.zero_le _, rfl, by simpa [endsP] using hO, hb⟩
   case round =>
    clear hO hb
    obtain ⟨k, hk, rfl, hO, hb⟩ := hrel
    have hzr := hb.size
    by_cases hlt : k < r.length
    case pos =>
     obtain ⟨x, hx⟩ := get_lt hlt
     obtain ⟨b, off, rfl, hb0, x0, x1, x2⟩ := HI1.out.get hx
     rw [← hb.cell (by exact hb0)] at x0 x1 x2
     have HN : Hid (endsP (r.take (k + 1)) = endsP (r.take k) ++ [x.f, x.t]) := Lib.hid (by rw [takeM_succ hx, endsP_snoc])
     have hcl : (endsP m ++ endsP (r.take k)).length + 2 ≤ 1000000 := by
      have h1 := hlm; have h2 := hlr
      simp only [List.length_append, endsP_len, List.length_take]; omega
     obtain ⟨a2, ha2⟩ : ∃ a2, a2 = endsP m ++ endsP (r.take k) := ⟨_, rfl⟩
     have HA2 := Lib.hid ha2
     rw [← ha2] at hcl hO
     clear hx ha2
     go_wp2_with (at_builtin; refine wpList_append_els (enc := intEnc) rfl (.tmp 30) (.tmp 35) 55 rfl w.heap.size 3 i0 _ 1 8 Tryz.underlying55 hi hz0 hz1 hz2 rfl (by decide) _ a2 [x.f, x.t] 2 rfl rfl (hO.alloc _) #[.int .i64 x.f, .int .i64 x.t] rfl (wr.heap.size + 1) (by simp) rfl rfl int_one2 hcl (by decide) (by simp; omega) ?_; intro v' w6 hown6 hb8 _)
     go_roundw
     case rel => exact ⟨k + 1, by omega, by go_num, by rw [HN.out, ← List.append_assoc, ← HA2.out]; exact hown6, (ext_alloc hb _).trans hb8⟩
     case measure => simp [intOf]; omega
    case neg =>
     obtain rfl : k = r.length := by omega
     rw [List.take_length] at hO
     obtain ⟨acc, ha⟩ : ∃ acc, acc = endsP m ++ endsP r := ⟨_, rfl⟩
     rw [← ha] at hO
     have HA := Lib.hid ha
     have hi64 : ∀ x, x ∈ acc → I64 x := fun x hx => by
      rw [ha] at hx
      rcases List.mem_append.1 hx with hx | hx
      ·obtain ⟨y, hy, h⟩ := mem_endsP.1 hx
       obtain ⟨k, hk⟩ := List.getElem?_of_mem hy
       have := HI0.out.i64 hk
       rcases h with rfl | rfl
       ·exact this.1
       ·exact this.2.1
      ·obtain ⟨y, hy, h⟩ := mem_endsP.1 hx
       obtain ⟨k, hk⟩ := List.getElem?_of_mem hy
       have := HI1.out.i64 hk
       rcases h with rfl | rfl
       ·exact this.1
       ·exact this.2.1
     have hal : acc.length ≤ 100000 := by rw [ha, List.length_append, endsP_len, endsP_len]; omega
     have HI64 := Lib.hid hi64
     clear ha hi64
     go_wp2_with fail
     refine (sortInts_any _ acc wr w.heap.size hO hzr hal).mono ?_
     rintro e w7 ⟨rfl, S, hmem, hlen, hsort, O7, hb7⟩
     have hb8 := hb.trans hb7
     have hC := compact_any _ S w7 w.heap.size O7 hb8.size (by omega) hsort (fun x hx => HI64.out x ((hmem x).1 hx))
     have HM := Lib.hid hmem
     have HLN := Lib.hid hlen
     clear hmem hlen hsort O7 hO
     go_wp2_with fail
     refine hC.mono ?_
     rintro e w8 ⟨A8, c8, D, HD, rfl, hI8, hb9⟩
     go_wp2_with fail
     go_ret
     exact ⟨A8, c8, D, Lib.hid ⟨HD.out.1, fun x => by rw [HD.out.2.1, HM.out, HA.out], by rw [← HA.out, ← HLN.out]; exact HD.out.2.2⟩, rfl, hI8, hb8.trans hb9⟩
theorem opt_eq {o p : Option Int} : o = p ↔ o.getD 0 = p.getD 0 ∧ o.isSome = p.isSome := by
 cases o <;> cases p <;> simp
set_option maxRecDepth 100000 in
set_option maxHeartbeats 4000000 in
theorem warpSame_any (A B : Option Addr) (c d n m : Nat) (o p : Option Int) (a b : List Int) (w : World) (hA : IntsAt w A c a) (hB : IntsAt w B d b) (hn : a.length = n) (hm : b.length = m) :
  Calls Tryz.prog 181 #[momV A n c o, momV B m d p] w fun e w' => e = .returned (.bool (decide (a = b ∧ o = p))) ∧ Below w.heap.size w w' := by
 subst hn hm
 have HA := Lib.hid hA; have HB := Lib.hid hB
 have m1 := hA.len
 have m2 := hB.len
 clear hA hB
 obtain ⟨os, hos⟩ : ∃ x, o.getD 0 = x := ⟨_, rfl⟩
 obtain ⟨ob, hob⟩ : ∃ x, o.isSome = x := ⟨_, rfl⟩
 obtain ⟨ps, hps⟩ : ∃ x, p.getD 0 = x := ⟨_, rfl⟩
 obtain ⟨pb, hpb⟩ : ∃ x, p.isSome = x := ⟨_, rfl⟩
 have HO : Hid (o = p ↔ os = ps ∧ ob = pb) := Lib.hid (by rw [opt_eq, hos, hob, hps, hpb])
 unfold momV momC
 rw [hos, hob, hps, hpb]
 clear hos hob hps hpb
 by_cases h1 : os = ps
 case neg =>
  have hd1 : (os == ps) = false := by simpa using h1
  have HF : Hid (decide (a = b ∧ o = p) = false) := Lib.hid (by simp [HO.out, h1])
  rw [HF.out]
  clear h1
  go_enter Tryz.func181, Tryz.ntmps181
  go_wp2_with fail
  go_ret
  exact ⟨rfl, by go_grown⟩
 case pos =>
 subst h1
 by_cases h2 : ob = pb
 case neg =>
  have hd2 : (ob == pb) = false := by simpa using h2
  have HF : Hid (decide (a = b ∧ o = p) = false) := Lib.hid (by simp [HO.out, h2])
  rw [HF.out]
  clear h2
  go_enter Tryz.func181, Tryz.ntmps181
  go_wp2_with fail
  go_ret
  exact ⟨rfl, by go_grown⟩
 case pos =>
 subst h2
 have HF : Hid (decide (a = b ∧ o = p) = decide (a = b)) := Lib.hid (by simp [HO.out])
 rw [HF.out]
 go_enter Tryz.func181, Tryz.ntmps181
 go_wp2_with fail
 refine (equalInts_any _ _ _ _ a b _ (HA.out.ext (by go_grown)).sl (HB.out.ext (by go_grown)).sl (Nat.le_trans HA.out.lc HA.out.cm) (Nat.le_trans HB.out.lc HB.out.cm)).mono ?_
 rintro e w1 ⟨rfl, hb1⟩
 go_wp2_with fail
 go_ret
 exact ⟨rfl, ext_trans (by go_grown) hb1⟩
end Go.Proofs.YtjcimdpldlamfaaGreatDoor
