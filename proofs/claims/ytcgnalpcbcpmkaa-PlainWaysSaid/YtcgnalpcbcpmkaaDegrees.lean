/- The walks of the degrees of a snapshot, the program's and the document's. -/
import Derived.Test.YtcgnalpcbcpmkaaLabels
import Derived.Test.YtcgnalpcbcpmkaaBegun
namespace Go.Proofs.Ytcgnalpcbcpmkaa
open Go.RowKit

def DegreesOut (s : SnapD) (l : List Int) : Prop := if shotErr s = 0 then l = degreesD s else l = []
theorem degrees_low (s : SnapD) (hn : s.arcs.length ≤ 30) (i : Nat) : 0 ≤ gi (degreesD s) i ∧ gi (degreesD s) i ≤ Far := by
  by_cases h : i < s.alive.length
  · have := outOf_bound i s.arcs
    rw [degree_val h]
    split <;> simp only [Far] <;> omega
  · rw [gi_far (by simp [degreesD]; omega)]; simp [Far]

set_option maxRecDepth 100000 in
set_option maxHeartbeats 4000000 in
theorem degrees_any (A A' : Option Addr) (c c' : Nat) (s : SnapD) (w : World) (hS : SnapAt w A c A' c' s) :
    Calls Try.prog 50 #[snapV A c A' c' s] w (IntsOut (DegreesOut s) (shotErr s) w) := by
  have m1 : s.alive.length ≤ 9223372036854775807 := Nat.le_trans hS.lc hS.cm
  have m2 : s.arcs.length ≤ 9223372036854775807 := Nat.le_trans hS.lc' hS.cm'
  by_cases h0 : shotErr s = 0
  case neg =>
    have H0 := Lib.hid h0
    have hn : (shotErr s != 0) = true := by simp [h0]
    clear h0
    go_enter Try.func50, Try.ntmps50
    go_wp2_with fail
    refine (shotCheck_any _ _ _ _ s _ (hS.ext (by go_grown))).mono ?_
    rintro e w1 ⟨rfl, hb1⟩
    go_wp2_with fail
    go_ret2
    exact ⟨[], none, 0, by unfold DegreesOut; rw [if_neg H0.out], rfl, SlAt.nil, by simp, ext_trans (by go_grown) hb1⟩
  have hok := snapOk_of h0
  have H0 := Lib.hid h0
  clear h0
  have hn12 := hok.nv
  have hna := hok.na
  have hmk := make_ints s.alive.length (by omega)
  go_enter Try.func50, Try.ntmps50
  go_wp2_with fail
  refine (shotCheck_any _ _ _ _ s _ (hS.ext (by go_grown))).mono ?_
  rw [H0.out]
  rintro e w1 ⟨rfl, hb1⟩
  obtain ⟨B0, c1, c2, c3⟩ := (Blk.new w 51 (snapC A c A' c' s)).go hb1
  go_wp2_with fail
  have hI0 := IRow.made (w := w1) (n := s.alive.length) rfl
  have hB00 := B0.alloc (Obj.cells (madeCells #[Value.int IntKind.i64 0] s.alive.length) 3)
  have hb2 : Below w.heap.size w w1 := ext_trans (by go_grown) hb1
  have hb3 : Below w1.heap.size w1 (w1.alloc (Obj.cells (madeCells #[Value.int IntKind.i64 0] s.alive.length) 3)) := (Below.refl _ _).alloc (Nat.le_refl _) _
  have hbd := B0.lt
  clear c1 c2 c3 hb1 B0
  go_loopw [20] (fun x wr => ∃ (k : Nat) (l : List Int), k ≤ s.alive.length ∧ x = .int .i64 k ∧ Hid (DFirst s l k) ∧ IRow wr w1.heap.size l ∧ Below w1.heap.size w1 wr ∧ Blk wr w.heap.size 51 (snapC A c A' c' s))
    (fun x _ => s.alive.length - (intOf x).toNat)
  case atStart => exact ⟨0, _, Nat.zero_le _, rfl, Lib.hid DFirst.zero, hI0, hb3, hB00⟩
  case round =>
    clear hI0 hB00 hb3
    obtain ⟨k, l, hk, rfl, HL, hI, hb, hB⟩ := hrel
    obtain ⟨b1, b2, b3⟩ := hB.facts
    by_cases hlt : k < s.alive.length
    · obtain ⟨bv, ov, hAl⟩ := hS.alive
      obtain ⟨p, hp⟩ := get_lt hlt
      obtain ⟨rfl, hbv, p0⟩ := hAl _ p hp
      unfold RBool at p0
      have hbw : Below w.heap.size w wr := hb2.trans (hb.mono (by omega))
      have p1 := p0.now hbw
      simp only [Nat.mul_one] at p1
      have HP := Lib.hid hp
      clear hAl hp p0
      have hc := hI.cell (k := k) (by rw [HL.out.1]; exact hlt)
      have hf := Blk.frozen hI k
      cases p
      case true =>
        have HN := Lib.hid (HL.out.alive HP.out)
        go_wp2_with fail
        go_roundw
        case rel => exact ⟨k + 1, _, by omega, by go_num, HN, hI, hb, hB⟩
        case measure => simp [intOf]; omega
      case false =>
        have HN := Lib.hid (HL.out.dead HP.out)
        go_wp2_with fail
        go_roundw
        case rel => exact ⟨k + 1, _, by omega, by go_num, HN, hI.set k Far, hb.setCell (by simp) _, hB.far (by simp; omega) _⟩
        case measure => simp [intOf]; omega
    · have HR := Lib.hid (HL.out.fin (show s.alive.length ≤ k by omega))
      clear HL
      have hbw : Below w.heap.size w wr := hb2.trans (hb.mono (by omega))
      obtain ⟨bz, oz, hAr⟩ := hS.arcs
      clear hb hmk
      go_wp2_with fail
      go_loopw [36] (fun x wr => ∃ (j : Nat) (l2 : List Int), j ≤ s.arcs.length ∧ x = .int .i64 j ∧ Hid (DMid s l2 j) ∧
        IRow wr w1.heap.size l2 ∧ Blk wr w.heap.size 51 (snapC A c A' c' s) ∧ Below w.heap.size w wr) (fun x _ => s.arcs.length - (intOf x).toNat)
      case atStart => exact ⟨0, l, Nat.zero_le _, rfl, HR, hI, hB, hbw⟩
      case round =>
        clear hI hB hbw b1 b2 b3
        obtain ⟨j, l2, hj, rfl, HD, hI, hB, hbw⟩ := hrel
        by_cases hlt : j < s.arcs.length
        case neg =>
          have HQ := Lib.hid (HD.out.fin (show s.arcs.length ≤ j by omega))
          have hlen := HD.out.len
          go_wp2_with fail
          go_ret2
          rw [H0.out]
          exact ⟨l2, some ⟨w1.heap.size, 0, none⟩, s.alive.length, by unfold DegreesOut; rw [if_pos H0.out]; exact HQ.out, by rw [hlen]; rfl, hI.slAt (fun k _ => by have h1 := HD.out.alive_top k hna; have h2 := HD.out.low k; simp only [Far] at h1; exact ⟨by omega, by omega⟩), by rw [hlen]; unfold maxLen; omega, hbw⟩
        obtain ⟨y, hy⟩ := get_lt hlt
        obtain ⟨rfl, hbz1, ⟨⟨x0, x1, x2⟩, _⟩⟩ := hAr j y hy
        have y0 := x0.now hbw
        have y1 := x1.now hbw
        have y2 := x2.now hbw
        have hyo := hok.arcs y (List.mem_of_getElem? hy)
        have HY := Lib.hid hy
        have ha0 := hyo.a0
        have ha1 : y.a < (s.alive.length : Int) := by have := hyo.a1; omega
        have htop := HD.out.top hyo.al hna
        have hlow := HD.out.low y.a.toNat
        clear hy x0 x1 x2
        have hca := hI.cell (k := y.a.toNat) (by rw [HD.out.len]; omega)
        obtain ⟨p', hp'⟩ : ∃ p', gi l2 y.a.toNat = p' := ⟨_, rfl⟩
        have HN := Lib.hid (HD.out.step hok HY.out)
        rw [hp'] at hca htop hlow HN
        clear hp'
        have hzz := Blk.lt hI
        have hwrap : IntKind.i64.wrap (p' + 1) = p' + 1 := IntWalk.i64_in _ (by omega)
        have hca1 : (wr.alloc (Obj.cells #[.int .i64 y.a, .int .i64 y.b, .int .i64 y.cost] 69)).cell? ⟨w1.heap.size, y.a.toNat, none⟩ = some (.int .i64 p') := by rw [World.cell?_alloc_past _ _ _ hzz]; exact hca
        have hfa := Blk.frozen (Blk.alloc hI (Obj.cells #[.int .i64 y.a, .int .i64 y.b, .int .i64 y.cost] 69)) y.a.toNat
        clear hca
        go_wp2_with fail
        go_roundw
        case rel => exact ⟨j + 1, _, by omega, by go_num, HN, Blk.alloc (IRow.set hI _ _) _, (hB.far (by simp; omega) _).alloc _, ext_alloc (hbw.setCell (by simp; omega) _) _⟩
        case measure => simp [intOf]; omega

set_option maxRecDepth 100000 in
set_option maxHeartbeats 4000000 in
theorem refDegrees_any (A A' : Option Addr) (c c' : Nat) (s : SnapD) (w : World) (hS : SnapAt w A c A' c' s) (hok : SnapOk s) :
    Calls Try.prog 45 #[snapV A c A' c' s] w fun e w' => ∃ A2 c2, e = .returned (.slice A2 (degreesD s).length c2) ∧ SlAt RInt 1 w' A2 (degreesD s) ∧ Below w.heap.size w w' := by
  have m2 : s.arcs.length ≤ 9223372036854775807 := Nat.le_trans hS.lc' hS.cm'
  have hn12 := hok.nv
  have hna := hok.na
  obtain ⟨i0, hi, hz0, hz1, hz2⟩ := info_int2
  obtain ⟨b, off, hL⟩ := hS.alive
  obtain ⟨bz, oz, hAr⟩ := hS.arcs
  go_enter Try.func45, Try.ntmps45
  go_wp2_with fail
  go_loopw [3, 4] (fun o x wr => ∃ k : Nat, k ≤ s.alive.length ∧ x = .int .i64 k ∧ Own intEnc 1 wr (w.heap.size + 1) 3 o ((List.range k).map (degF s)) ∧ Below (w.heap.size + 1) (w.alloc (.cells (snapC A c A' c' s) 51)) wr)
    (fun _ x _ => s.alive.length - (intOf x).toNat)
  case atStart => exact ⟨0, Nat.zero_le _, rfl, Own.nil, by simpa using Below.refl _ _⟩
  case round =>
    obtain ⟨k, hk, rfl, hown, hb⟩ := hrel
    have hbw : Below w.heap.size w wr := (Below.refl _ _).alloc (Nat.le_refl _) _ |>.trans (hb.mono (by omega))
    have B0 := (Blk.new w 51 (snapC A c A' c' s)).below hb (by omega)
    obtain ⟨b1, b2, b3⟩ := B0.facts
    have hzw : w.heap.size + 1 ≤ wr.heap.size := by have := hb.size; simpa using this
    by_cases hlt : k < s.alive.length
    case neg =>
      obtain rfl : k = s.alive.length := by omega
      rw [← degreesD_is] at hown
      obtain ⟨A2, c2, rfl, hI⟩ := hown.iown
      go_wp2_with fail
      go_ret
      exact ⟨A2, c2, rfl, hI.slAt (fun k _ => by have h1 := degrees_low s hna k; simp only [Far] at h1; exact ⟨by omega, by omega⟩), hbw⟩
    obtain ⟨p, hp⟩ := get_lt hlt
    obtain ⟨rfl, hb0, x0⟩ := hL k p hp
    unfold RBool at x0
    have p1 := x0.now hbw
    simp only [Nat.mul_one] at p1
    have HP := Lib.hid hp
    have hlen : ((List.range k).map (degF s)).length ≤ 12 := by simp; omega
    clear hL hp x0
    go_wp2_with fail
    obtain ⟨wo, rfl⟩ : ∃ wo : World, wo = wr := ⟨_, rfl⟩
    go_loopw [5, 6] (fun z x wr => ∃ (j : Nat) (n : Int), j ≤ s.arcs.length ∧ z = .int .i64 n ∧ x = .int .i64 j ∧ Hid (0 ≤ n ∧ n + outOf k (s.arcs.drop j) = outOf k s.arcs) ∧ wr = wo) (fun _ x _ => s.arcs.length - (intOf x).toNat)
    case atStart => exact ⟨0, 0, Nat.zero_le _, rfl, rfl, Lib.hid ⟨Int.le_refl _, by simp⟩, rfl⟩
    case round =>
      obtain ⟨j, n, hj, rfl, rfl, HD, rfl⟩ := hrel
      by_cases hlt : j < s.arcs.length
      case neg =>
        have hn : n = outOf k s.arcs := by have := HD.out.2; rw [List.drop_eq_nil_of_le (by omega)] at this; simpa [outOf] using this
        have HN := Lib.hid hn
        clear hn
        cases p
        case true =>
          have HF : Hid (degF s k = n) := Lib.hid (by unfold degF; rw [if_pos HP.out]; exact HN.out.symm)
          go_wp2_with (at_builtin; refine wpList_append_el (enc := intEnc) rfl (.tmp 37) (.tmp 39) 53 rfl (w.heap.size + 1) 3 i0 _ 1 8 Try.underlying53 hi hz0 hz1 hz2 rfl (by decide) _ _ n rfl hown _ rfl _ rfl rfl rfl int_one (by omega) (by decide) (by omega) ?_; intro v' w6 hown6 hb6)
          go_roundw
          case rel => exact ⟨k + 1, by omega, by go_num, by rw [range_snoc, HF.out]; exact hown6, hb.trans hb6⟩
          case measure => simp [intOf]; omega
        case false =>
          have HF : Hid (degF s k = 1099511627776) := Lib.hid (by unfold degF; rw [if_neg (by rw [HP.out]; simp)]; rfl)
          go_wp2_with (at_builtin; refine wpList_append_el (enc := intEnc) rfl (.tmp 37) (.tmp 39) 53 rfl (w.heap.size + 1) 3 i0 _ 1 8 Try.underlying53 hi hz0 hz1 hz2 rfl (by decide) _ _ 1099511627776 rfl hown _ rfl _ rfl rfl rfl int_one (by omega) (by decide) (by omega) ?_; intro v' w6 hown6 hb6)
          go_roundw
          case rel => exact ⟨k + 1, by omega, by go_num, by rw [range_snoc, HF.out]; exact hown6, hb.trans hb6⟩
          case measure => simp [intOf]; omega
      obtain ⟨y, hy⟩ := get_lt hlt
      obtain ⟨rfl, hbz1, ⟨⟨x0, x1, x2⟩, _⟩⟩ := hAr j y hy
      have y0 := x0.now hbw
      have hyo := hok.arcs y (List.mem_of_getElem? hy)
      have ha0 := hyo.a0
      have hd := drop_cons hy
      have hbd := outOf_bound k s.arcs
      have hbd2 := outOf_bound k (s.arcs.drop (j + 1))
      by_cases he : y.a = (k : Int)
      case pos =>
        have HN : Hid (0 ≤ n + 1 ∧ n + 1 + outOf k (s.arcs.drop (j + 1)) = outOf k s.arcs) := Lib.hid (by have h1 := HD.out; rw [hd, outOf_hit ha0 he] at h1; omega)
        have hw1 : n + 1 ≤ 30 := by have := HN.out; omega
        have hn0 := HD.out.1
        have hwrap : IntKind.i64.wrap (n + 1) = n + 1 := IntWalk.i64_in _ (by omega)
        have hee : (y.a == (k : Int)) = true := by simp [he]
        clear hAr hy hd x0 x1 x2 he hbd hbd2
        go_wp2_with fail
        go_roundw
        case rel => exact ⟨j + 1, n + 1, by omega, rfl, by go_num, HN, trivial⟩
        case measure => simp [intOf]; omega
      case neg =>
        have HN : Hid (0 ≤ n ∧ n + outOf k (s.arcs.drop (j + 1)) = outOf k s.arcs) := Lib.hid (by have h1 := HD.out; rw [hd, outOf_miss ha0 he] at h1; exact h1)
        have hee : (y.a == (k : Int)) = false := by simp [he]
        clear hAr hy hd x0 x1 x2 he hbd hbd2
        go_wp2_with fail
        go_roundw
        case rel => exact ⟨j + 1, n, by omega, rfl, by go_num, HN, trivial⟩
        case measure => simp [intOf]; omega
end Go.Proofs.Ytcgnalpcbcpmkaa
