/- One text: Labels. -/
import Derived.BigRegion
import Derived.BigQuiet
import Derived.Test.YtjcimdpldlamfaaGreatDoorBdeeb9e5e53a
import Derived.Test.YtjcimdpldlamfaaGreatDoorBd063e407aa3
/- The walk of plain.Labels. -/
namespace Go.Proofs.YtjcimdpldlamfaaGreatDoor
open Go.RowKit

def LabelsOut (s : SnapD) (l : List Int) : Prop := if shotErr s = 0 then LabelsL s l else l = []
theorem labels_out {s : SnapD} (h : shotErr s = 0) {l : List Int} (hl : LabelsL s l) : LabelsOut s l := by unfold LabelsOut; rw [if_pos h]; exact hl
theorem LabelsL.pos {s : SnapD} {l : List Int} (h : LabelsL s l) (i : Nat) : 0 ≤ gi l i :=
 above_pos h.2.2 (label_pos s) (fun x hx => by obtain ⟨a, _, rfl | ⟨_, rfl⟩⟩ := hx <;> simp [arcF, arcB, wZero]) i
theorem LabelsL.big {s : SnapD} {l : List Int} (h : LabelsL s l) (hn : s.alive.length ≤ 12) (i : Nat) : gi l i ≤ Far := Int.le_trans (h.2.1.1 i) (label_big s hn i)

set_option maxRecDepth 100000 in
set_option maxHeartbeats 4000000 in
theorem labels_any (A A' : Option Addr) (c c' : Nat) (s : SnapD) (w : World) (hS : SnapAt w A c A' c' s) :
  Calls Tryz.prog 59 #[snapV A c A' c' s] w (IntsOut (LabelsOut s) (shotErr s) w) := by
 have m1 : s.alive.length ≤ 9223372036854775807 := Nat.le_trans hS.lc hS.cm
 have m2 : s.arcs.length ≤ 9223372036854775807 := Nat.le_trans hS.lc' hS.cm'
 by_cases h0 : shotErr s = 0
 case neg =>
  have H0 := Lib.hid h0
  have hn : (shotErr s != 0) = true := by simp [h0]
  clear h0
  go_enter Tryz.func59, Tryz.ntmps59
  go_wp2_with fail
  refine (shotCheck_any _ _ _ _ s _ (hS.ext (by go_grown))).mono ?_
  rintro e w1 ⟨rfl, hb1⟩
  go_wp2_with fail
  go_ret2
  exact ⟨[], none, 0, by unfold LabelsOut; rw [if_neg H0.out], rfl, SlAt.nil, by simp, ext_trans (by go_grown) hb1⟩
 have hok := snapOk_of h0
 have H0 := Lib.hid h0
 clear h0
 have hn12 := hok.nv
 have hmk := make_ints s.alive.length (by omega)
 go_enter Tryz.func59, Tryz.ntmps59
 go_wp2_with fail
 refine (shotCheck_any _ _ _ _ s _ (hS.ext (by go_grown))).mono ?_
 rw [H0.out]
 rintro e w1 ⟨rfl, hb1⟩
 obtain ⟨B0, c1, c2, c3⟩ := (Blk.new w 86 (snapC A c A' c' s)).go hb1
 go_wp2_with fail
 have hI0 := IRow.made (w := w1) (n := s.alive.length) rfl
 have hB00 := B0.alloc (Obj.cells (madeCells #[Value.int IntKind.i64 0] s.alive.length) 3)
 have hb2 : Below w.heap.size w w1 := ext_trans (by go_grown) hb1
 have hb3 : Below w1.heap.size w1 (w1.alloc (Obj.cells (madeCells #[Value.int IntKind.i64 0] s.alive.length) 3)) := (Below.refl _ _).alloc (Nat.le_refl _) _
 have hbd := B0.lt
 clear c1 c2 c3 hb1 B0
 go_loopw [22] (fun x wr => ∃ (k : Nat) (l : List Int), k ≤ s.alive.length ∧ x = .int .i64 k ∧ Hid (LFirst s l k) ∧ IRow wr w1.heap.size l ∧ Below w1.heap.size w1 wr ∧ Blk wr w.heap.size 86 (snapC A c A' c' s))
  (fun x _ => s.alive.length - (intOf x).toNat)
 case atStart => exact ⟨0, _, Nat.zero_le _, rfl, Lib.hid LFirst.zero, hI0, hb3, hB00⟩
 case round =>
  clear hI0 hB00 hb3
  obtain ⟨k, l, hk, rfl, HL, hI, hb, hB⟩ := hrel
  by_cases hlt : k < s.alive.length
  ·obtain ⟨bv, ov, hAl⟩ := hS.alive
   obtain ⟨p, hp⟩ := get_lt hlt
   obtain ⟨rfl, hbv, p0⟩ := hAl _ p hp
   unfold RBool at p0
   have hbw : Below w.heap.size w wr := hb2.trans (hb.mono (by omega))
   have p1 := p0.now hbw
   simp only [Nat.mul_one] at p1
   have hbz : bv < w1.heap.size := Nat.lt_of_lt_of_le hbv hb2.size
   have hbne : ¬ w1.heap.size = bv := by omega
   have HP := Lib.hid hp
   clear hAl hp p0
   have hc := hI.cell (k := k) (by rw [HL.out.1]; exact hlt)
   have hf := Blk.frozen hI k
   obtain ⟨b1, b2, b3⟩ := (hB.far (p := ⟨w1.heap.size, k, none⟩) (by simp; omega) (.int .i64 k)).facts
   have p2 : (wr.setCell ⟨w1.heap.size, k, none⟩ (.int .i64 k)).cell? ⟨bv, ov + k, none⟩ = some (.bool p) := by rw [World.cell?_setCell_far _ _ _ _ hbne]; exact p1
   cases p
   case true =>
    have HN := Lib.hid (HL.out.next hlt (label_yes HP.out))
    go_wp2_with fail
    go_roundw
    case rel => exact ⟨k + 1, _, by omega, by go_num, HN, hI.set k k, hb.setCell (by simp) _, hB.far (by simp; omega) _⟩
    case measure => simp [intOf]; omega
   case false =>
    have HN := Lib.hid (HL.out.next hlt (label_no HP.out))
    have hI2 := (hI.set k k).set k Far
    rw [List.set_set] at hI2
    have hf2 := Blk.frozen (hI.set k k) k
    have hc2 := (hI.set k k).cell (k := k) (by rw [List.length_set, HL.out.1]; exact hlt)
    go_wp2_with fail
    go_roundw
    case rel => exact ⟨k + 1, _, by omega, by go_num, HN, hI2, (hb.setCell (by simp) _).setCell (by simp) _, (hB.far (by simp; omega) _).far (by simp; omega) _⟩
    case measure => simp [intOf]; omega
  ·have HR := Lib.hid (HL.out.fin (show s.alive.length ≤ k by omega))
   rw [HR.out] at hI
   clear HL HR
   have hbw : Below w.heap.size w wr := hb2.trans (hb.mono (by omega))
   have hzz := Blk.lt hI
   clear hb hmk
   go_wp2_with fail
   go_loopg [7] (total (labelD s) + 1) (fun gk m wr => ∃ (b : Bool) (l : List Int), m = .bool b ∧ Hid ((b = true → total l < gk ∧ LMid s l l false 0) ∧ (b = false → LabelsL s l)) ∧
    IRow wr w1.heap.size l ∧ Blk wr w.heap.size 86 (snapC A c A' c' s) ∧ Below w.heap.size w wr)
   case atStart => exact ⟨true, _, rfl, Lib.hid ⟨fun _ => ⟨Nat.lt_succ_self _, LMid.start⟩, fun h => by simp at h⟩, hI, hB, hbw⟩
   case round =>
    clear hI hB hbw
    obtain ⟨m, l, rfl, HN, hI, hB, hbw⟩ := hrel
    cases m
    case false =>
     have HQ := Lib.hid (HN.out.2 rfl)
     go_wp2_with fail
     go_ret2
     rw [H0.out]
     have hlen := HQ.out.1
     exact ⟨l, some ⟨w1.heap.size, 0, none⟩, s.alive.length, labels_out H0.out HQ.out, by rw [hlen]; rfl, hI.slAt (fun k _ => by have h1 := HQ.out.big hn12 k; have h2 := HQ.out.pos k; simp only [Far] at h1; exact ⟨by omega, by omega⟩), by rw [hlen]; unfold maxLen; omega, hbw⟩
    case true =>
     have HM := Lib.hid (HN.out.1 rfl)
     clear HN
     obtain ⟨q1, q2, q3⟩ := hB.facts
     obtain ⟨bz, oz, hAr⟩ := hS.arcs
     go_wp2_with fail
     go_loopw [7, 43] (fun m x wr => ∃ (b : Bool) (j : Nat) (l2 : List Int), j ≤ s.arcs.length ∧ m = .bool b ∧ x = .int .i64 j ∧ Hid (LMid s l l2 b j) ∧
      IRow wr w1.heap.size l2 ∧ Blk wr w.heap.size 86 (snapC A c A' c' s) ∧ Below w.heap.size w wr) (fun _ x _ => s.arcs.length - (intOf x).toNat)
     case atStart => exact ⟨false, 0, l, Nat.zero_le _, rfl, rfl, Lib.hid HM.out.2, hI, hB, hbw⟩
     case round =>
      clear hI hB hbw q1 q2 q3
      obtain ⟨m, j, l2, hj, rfl, rfl, HD, hI, hB, hbw⟩ := hrel
      by_cases hlt : j < s.arcs.length
      case neg =>
       have HG := Lib.hid HM.out.1
       cases m
       case true =>
        have HT := Lib.hid (HD.out.less rfl)
        go_wp2_with fail
        go_roundg (gk - 1)
        case rel => exact ⟨true, l2, rfl, Lib.hid ⟨fun _ => ⟨by have := HT.out; have := HG.out; omega, HD.out.again⟩, fun h => by simp at h⟩, hI, hB, hbw⟩
        case measure => have := HG.out; omega
       case false =>
        have HQ := Lib.hid (HD.out.fin (show s.arcs.length ≤ j by omega))
        go_wp2_with fail
        go_roundg (gk - 1)
        case rel => exact ⟨false, l2, rfl, Lib.hid ⟨fun h => by simp at h, fun _ => HQ.out⟩, hI, hB, hbw⟩
        case measure => have := HG.out; omega
      obtain ⟨y, hy⟩ := get_lt hlt
      obtain ⟨rfl, hbz1, ⟨⟨x0, x1, x2⟩, _⟩⟩ := hAr j y hy
      have y0 := x0.now hbw
      have y1 := x1.now hbw
      have y2 := x2.now hbw
      have hyo := hok.arcs y (List.mem_of_getElem? hy)
      have HY := Lib.hid hy
      clear hy x0 x1 x2
      have ha0 := hyo.a0
      have ha1 : y.a < (s.alive.length : Int) := by have := hyo.a1; omega
      have hd0 := hyo.b0
      have hd1 : y.b < (s.alive.length : Int) := by have := hyo.b1; omega
      have hca := hI.cell (k := y.a.toNat) (by rw [HD.out.len]; omega)
      have hcb := hI.cell (k := y.b.toNat) (by rw [HD.out.len]; omega)
      obtain ⟨p', hp'⟩ : ∃ p', gi l2 y.a.toNat = p' := ⟨_, rfl⟩
      obtain ⟨q', hq'⟩ : ∃ q', gi l2 y.b.toNat = q' := ⟨_, rfl⟩
      rw [hp'] at hca
      rw [hq'] at hcb
      have HP' := Lib.hid hp'
      have HQ' := Lib.hid hq'
      clear hp' hq'
      have hzz := Blk.lt hI
      have hn3 := (Blk.new wr 134 #[.int .i64 y.a, .int .i64 y.b, .int .i64 y.cost])
      have e0 := hn3.cell 0
      have e1 := hn3.cell 1
      simp only [List.getElem?_toArray, List.getElem?_cons_zero, List.getElem?_cons_succ] at e0 e1
      have hca1 : (wr.alloc (Obj.cells #[.int .i64 y.a, .int .i64 y.b, .int .i64 y.cost] 134)).cell? ⟨w1.heap.size, y.a.toNat, none⟩ = some (.int .i64 p') := by rw [World.cell?_alloc_past _ _ _ hzz]; exact hca
      have hcb1 : (wr.alloc (Obj.cells #[.int .i64 y.a, .int .i64 y.b, .int .i64 y.cost] 134)).cell? ⟨w1.heap.size, y.b.toNat, none⟩ = some (.int .i64 q') := by rw [World.cell?_alloc_past _ _ _ hzz]; exact hcb
      clear hca hcb
      by_cases heq : p' = q'
      case pos =>
       have HS := Lib.hid (HD.out.same HY.out (by rw [HP'.out, HQ'.out]; exact heq))
       subst heq
       have hmin : (if p' < p' then p' else p') = p' := by simp
       go_wp2_with fail
       go_quiet (fail)
       go_wp2_with fail
       go_roundw
       case rel => exact ⟨m, j + 1, l2, by omega, rfl, by go_num, HS, Blk.alloc hI _, hB.alloc _, below_drewN (ext_alloc hbw _) _⟩
       case measure => simp [intOf]; omega
      case neg =>
       have hfa := Blk.frozen (Blk.alloc hI (Obj.cells #[.int .i64 y.a, .int .i64 y.b, .int .i64 y.cost] 134)) y.a.toNat
       have hfb := Blk.frozen (Blk.alloc hI (Obj.cells #[.int .i64 y.a, .int .i64 y.b, .int .i64 y.cost] 134)) y.b.toNat
       have hab : ¬ y.a.toNat = y.b.toNat := fun e => heq (by rw [← HP'.out, ← HQ'.out, e])
       by_cases hlt2 : q' < p'
       case pos =>
        have HS := Lib.hid (HD.out.change hok HY.out (n := q') (by rw [HP'.out, HQ'.out]; exact heq) (by rw [HP'.out, HQ'.out]; omega))
        have hne : (p' != q') = true := by simp [heq]
        have hmn : min p' q' = q' := by omega
        have hmn2 : min q' p' = q' := by omega
        go_wp2_with fail
        go_quiet (fail)
        go_wp2_with fail
        go_region
        go_wp2_with fail
        go_roundw
        case rel => exact ⟨true, j + 1, _, by omega, rfl, by go_num, HS, IRow.set (IRow.set (Blk.drewN (Blk.alloc hI _) _) _ _) _ _, ((Blk.drewN (hB.alloc _) _).far (by simp; omega) _).far (by simp; omega) _, ((below_drewN (ext_alloc hbw _) _).setCell (by simp; omega) _).setCell (by simp; omega) _⟩
        case measure => simp [intOf]; omega
       case neg =>
        have HS := Lib.hid (HD.out.change hok HY.out (n := p') (by rw [HP'.out, HQ'.out]; exact heq) (by rw [HP'.out, HQ'.out]; omega))
        have hne : (q' != p') = true := by simp only [bne_iff_ne]; exact fun e => heq e.symm
        have hmn : min p' q' = p' := by omega
        have hmn2 : min q' p' = p' := by omega
        go_wp2_with fail
        go_quiet (fail)
        go_wp2_with fail
        go_region
        go_wp2_with fail
        go_roundw
        case rel => exact ⟨true, j + 1, _, by omega, rfl, by go_num, HS, IRow.set (IRow.set (Blk.drewN (Blk.alloc hI _) _) _ _) _ _, ((Blk.drewN (hB.alloc _) _).far (by simp; omega) _).far (by simp; omega) _, ((below_drewN (ext_alloc hbw _) _).setCell (by simp; omega) _).setCell (by simp; omega) _⟩
        case measure => simp [intOf]; omega
end Go.Proofs.YtjcimdpldlamfaaGreatDoor
