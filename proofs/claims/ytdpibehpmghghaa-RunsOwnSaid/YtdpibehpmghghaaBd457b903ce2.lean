/- Several texts in one: EqualB, MapCheck. -/
import Derived.Laws.StructEq
import Derived.Test.YtdpibehpmghghaaBdc7e691d77d
import Derived.Test.YtdpibehpmghghaaBd9264425ae5
import Derived.Test.YtdpibehpmghghaaBda2f47ef360
/- The walks of the library's slices.Equal, at hops, ints, bools and lives. -/
namespace Go.Proofs.Ytdpibehpmghghaa
open Go.RowKit

theorem take_eq_of {α : Type} {a b : List α} (hl : a.length = b.length) {k : Nat} (hk : a.length ≤ k) (h : a.take k = b.take k) : a = b := by
  rwa [List.take_of_length_le hk, List.take_of_length_le (by omega)] at h
theorem take_step {α : Type} {a b : List α} {k : Nat} {x y : α} (hx : a[k]? = some x) (hy : b[k]? = some y) (h : a.take k = b.take k) (hxy : x = y) : a.take (k + 1) = b.take (k + 1) := by
  rw [List.take_add_one, List.take_add_one, hx, hy, h, hxy]
theorem ne_of_get {α : Type} {a b : List α} {k : Nat} {x y : α} (hx : a[k]? = some x) (hy : b[k]? = some y) (hxy : ¬ x = y) : ¬ a = b := by
  rintro rfl
  rw [hx] at hy
  exact hxy (by simpa using hy)

set_option maxHeartbeats 1000000 in
theorem equalInts_any (A B : Option Addr) (c d : Nat) (a b : List Int) (w : World) (hA : SlAt RInt 1 w A a) (hB : SlAt RInt 1 w B b) (ha : a.length ≤ maxLen) (hb : b.length ≤ maxLen) :
    Calls Try.prog 120 #[.slice A a.length c, .slice B b.length d] w fun e w' => e = .returned (.bool (decide (a = b))) ∧ Below w.heap.size w w' := by
  unfold maxLen at ha hb
  by_cases hl : a.length = b.length
  case neg =>
    have hne : ((a.length : Int) != (b.length : Int)) = true := by simp; omega
    go_enter Try.func120, Try.ntmps120
    go_wp2_with fail
    go_ret
    exact ⟨ret_bool (by symm; simp; intro h; exact hl (by rw [h])), Below.refl _ _⟩
  have hne : ((a.length : Int) != (b.length : Int)) = false := by simp; omega
  obtain ⟨ba, oa, hA⟩ := hA
  obtain ⟨bb, ob, hB⟩ := hB
  have HL := Lib.hid hl
  have hl1 : a.length ≤ b.length := by omega
  have hl2 : b.length ≤ a.length := by omega
  clear hl
  go_enter Try.func120, Try.ntmps120
  go_wp2_with fail
  go_loopw [13] (fun v wr => ∃ k : Nat, k ≤ a.length ∧ v = .int .i64 k ∧ Hid (a.take k = b.take k) ∧ Below w.heap.size w wr) (fun v _ => a.length - (intOf v).toNat)
  case atStart => exact ⟨0, Nat.zero_le _, rfl, Lib.hid (by simp), Below.refl _ _⟩
  case round =>
    obtain ⟨k, hk, rfl, HI, hw⟩ := hrel
    by_cases hlt : k < a.length
    · obtain ⟨x, hx⟩ := get_lt hlt
      obtain ⟨y, hy⟩ := get_lt (show k < b.length by omega)
      obtain ⟨rfl, hba, x0, _⟩ := hA k x hx
      obtain ⟨rfl, hbb, y0, _⟩ := hB k y hy
      have x1 := x0.now hw
      have y1 := y0.now hw
      simp only [Nat.mul_one] at x1 y1
      have HX := Lib.hid hx
      have HY := Lib.hid hy
      have hlt2 : k < b.length := by omega
      clear hA hB hx hy x0 y0
      by_cases hxy : x = y
      · have HXY := Lib.hid hxy
        have hn : (x != y) = false := by simp [hxy]
        clear hxy
        go_wp2_with fail
        go_quiet (fail)
        go_wp2
        go_roundw
        case rel => exact ⟨k + 1, by omega, by go_num, Lib.hid (take_step HX.out HY.out HI.out HXY.out), below_drewN hw _⟩
        case measure => simp [intOf]; omega
      · have HXY := Lib.hid hxy
        have hn : (x != y) = true := by simp [hxy]
        clear hxy
        go_wp2_with fail
        go_quiet (fail)
        go_wp2
        go_ret
        exact ⟨ret_bool (by symm; simp; exact ne_of_get HX.out HY.out HXY.out), below_drewN hw _⟩
    · go_wp2_with fail
      go_ret
      exact ⟨ret_bool (by symm; simp; exact take_eq_of HL.out (by omega) HI.out), hw⟩

theorem fields_piece : Try.prog.underlying 25 = some (.struct (Try.prog.fieldsOf 25)) := by kernel_rfl
theorem guard_piece : Try.prog.eqGuardType Try.prog.depth 25 = false := by kernel_rfl
theorem held_piece : Try.prog.stoodInHeld 25 = false := by kernel_rfl
theorem same_piece (x y : PieceD) (w : World) : (Op.equalIn 10000 25 (pieceV x) (pieceV y)).run Try.prog w = .ok (decide (x = y)) w := by
  have e : decide (x = y) = decide (x.f = y.f ∧ x.t = y.t ∧ x.v = y.v) := by rw [decide_eq_decide]; cases x; cases y; simp
  rw [e, run_equalIn_agg w 9999 25 _ _ fields_piece held_piece]
  have hf : (Try.prog.fieldsOf 25).toList = (match Try.prog.underlying 25 with | some (.struct fs) => fs.toList | _ => []) := by kernel_rfl
  rw [hf, Try.underlying25]
  simp [Op.eqFields, go_sem]
  by_cases hf : x.f = y.f <;> by_cases ht : x.t = y.t <;> by_cases hv : x.v = y.v <;> simp [*]
set_option maxHeartbeats 1000000 in
theorem equalPieces_any (A B : Option Addr) (c d : Nat) (a b : List PieceD) (w : World) (hA : SlAt RPiece 3 w A a) (hB : SlAt RPiece 3 w B b) (ha : a.length ≤ maxLen) (hb : b.length ≤ maxLen) :
    Calls Try.prog 23 #[.slice A a.length c, .slice B b.length d] w fun e w' => e = .returned (.bool (decide (a = b))) ∧ Below w.heap.size w w' := by
  unfold maxLen at ha hb
  by_cases hl : a.length = b.length
  case neg =>
    have hne : ((a.length : Int) != (b.length : Int)) = true := by simp; omega
    go_enter Try.func23, Try.ntmps23
    go_wp2_with fail
    go_ret
    exact ⟨ret_bool (by symm; simp; intro h; exact hl (by rw [h])), Below.refl _ _⟩
  have hne : ((a.length : Int) != (b.length : Int)) = false := by simp; omega
  obtain ⟨ba, oa, hA⟩ := hA
  obtain ⟨bb, ob, hB⟩ := hB
  have HL := Lib.hid hl
  have hl1 : a.length ≤ b.length := by omega
  have hl2 : b.length ≤ a.length := by omega
  clear hl
  go_enter Try.func23, Try.ntmps23
  go_wp2_with fail
  go_loopw [13] (fun v wr => ∃ k : Nat, k ≤ a.length ∧ v = .int .i64 k ∧ Hid (a.take k = b.take k) ∧ Below w.heap.size w wr) (fun v _ => a.length - (intOf v).toNat)
  case atStart => exact ⟨0, Nat.zero_le _, rfl, Lib.hid (by simp), Below.refl _ _⟩
  case round =>
    obtain ⟨k, hk, rfl, HI, hw⟩ := hrel
    by_cases hlt : k < a.length
    · obtain ⟨x, hx⟩ := get_lt hlt
      obtain ⟨y, hy⟩ := get_lt (show k < b.length by omega)
      obtain ⟨rfl, hba, ⟨x0, x1, x2⟩, _⟩ := hA k x hx
      obtain ⟨rfl, hbb, ⟨y0, y1, y2⟩, _⟩ := hB k y hy
      have x0' := x0.now hw
      have y0' := y0.now hw
      have x1' := x1.now hw
      have y1' := y1.now hw
      have x2' := x2.now hw
      have y2' := y2.now hw
      have HX := Lib.hid hx
      have HY := Lib.hid hy
      have hlt2 : k < b.length := by omega
      clear hA hB hx hy x0 y0 x1 y1 x2 y2
      by_cases hxy : x = y
      · have HXY := Lib.hid hxy
        have hn : decide (x = y) = true := by simp [hxy]
        have hs := same_piece x y
        rw [hn] at hs
        have hgd := guard_piece
        clear hxy
        go_wp2_with fail
        go_quiet (fail)
        go_wp2
        go_roundw
        case rel => exact ⟨k + 1, by omega, by go_num, Lib.hid (take_step HX.out HY.out HI.out HXY.out), below_drewN hw _⟩
        case measure => simp [intOf]; omega
      · have HXY := Lib.hid hxy
        have hn : decide (x = y) = false := by simp [hxy]
        have hs := same_piece x y
        rw [hn] at hs
        have hgd := guard_piece
        clear hxy
        go_wp2_with fail
        go_quiet (fail)
        go_wp2
        go_ret
        exact ⟨ret_bool (by symm; simp; exact ne_of_get HX.out HY.out HXY.out), below_drewN hw _⟩
    · go_wp2_with fail
      go_ret
      exact ⟨ret_bool (by symm; simp; exact take_eq_of HL.out (by omega) HI.out), hw⟩

theorem fields_ivl : Try.prog.underlying 29 = some (.struct (Try.prog.fieldsOf 29)) := by kernel_rfl
theorem guard_ivl : Try.prog.eqGuardType Try.prog.depth 29 = false := by kernel_rfl
theorem held_ivl : Try.prog.stoodInHeld 29 = false := by kernel_rfl
theorem same_ivl (x y : IvlD) (w : World) : (Op.equalIn 10000 29 (ivlV x) (ivlV y)).run Try.prog w = .ok (decide (x = y)) w := by
  have e : decide (x = y) = decide (x.f = y.f ∧ x.t = y.t) := by rw [decide_eq_decide]; cases x; cases y; simp
  rw [e, run_equalIn_agg w 9999 29 _ _ fields_ivl held_ivl]
  have hf : (Try.prog.fieldsOf 29).toList = (match Try.prog.underlying 29 with | some (.struct fs) => fs.toList | _ => []) := by kernel_rfl
  rw [hf, Try.underlying29]
  simp [Op.eqFields, go_sem]
  by_cases hf : x.f = y.f <;> by_cases ht : x.t = y.t <;> simp [*]
set_option maxHeartbeats 1000000 in
theorem equalIvls_any (A B : Option Addr) (c d : Nat) (a b : List IvlD) (w : World) (hA : SlAt RIvl 2 w A a) (hB : SlAt RIvl 2 w B b) (ha : a.length ≤ maxLen) (hb : b.length ≤ maxLen) :
    Calls Try.prog 22 #[.slice A a.length c, .slice B b.length d] w fun e w' => e = .returned (.bool (decide (a = b))) ∧ Below w.heap.size w w' := by
  unfold maxLen at ha hb
  by_cases hl : a.length = b.length
  case neg =>
    have hne : ((a.length : Int) != (b.length : Int)) = true := by simp; omega
    go_enter Try.func22, Try.ntmps22
    go_wp2_with fail
    go_ret
    exact ⟨ret_bool (by symm; simp; intro h; exact hl (by rw [h])), Below.refl _ _⟩
  have hne : ((a.length : Int) != (b.length : Int)) = false := by simp; omega
  obtain ⟨ba, oa, hA⟩ := hA
  obtain ⟨bb, ob, hB⟩ := hB
  have HL := Lib.hid hl
  have hl1 : a.length ≤ b.length := by omega
  have hl2 : b.length ≤ a.length := by omega
  clear hl
  go_enter Try.func22, Try.ntmps22
  go_wp2_with fail
  go_loopw [13] (fun v wr => ∃ k : Nat, k ≤ a.length ∧ v = .int .i64 k ∧ Hid (a.take k = b.take k) ∧ Below w.heap.size w wr) (fun v _ => a.length - (intOf v).toNat)
  case atStart => exact ⟨0, Nat.zero_le _, rfl, Lib.hid (by simp), Below.refl _ _⟩
  case round =>
    obtain ⟨k, hk, rfl, HI, hw⟩ := hrel
    by_cases hlt : k < a.length
    · obtain ⟨x, hx⟩ := get_lt hlt
      obtain ⟨y, hy⟩ := get_lt (show k < b.length by omega)
      obtain ⟨rfl, hba, ⟨x0, x1⟩, _⟩ := hA k x hx
      obtain ⟨rfl, hbb, ⟨y0, y1⟩, _⟩ := hB k y hy
      have x0' := x0.now hw
      have y0' := y0.now hw
      have x1' := x1.now hw
      have y1' := y1.now hw
      have HX := Lib.hid hx
      have HY := Lib.hid hy
      have hlt2 : k < b.length := by omega
      clear hA hB hx hy x0 y0 x1 y1
      by_cases hxy : x = y
      · have HXY := Lib.hid hxy
        have hn : decide (x = y) = true := by simp [hxy]
        have hs := same_ivl x y
        rw [hn] at hs
        have hgd := guard_ivl
        clear hxy
        go_wp2_with fail
        go_quiet (fail)
        go_wp2
        go_roundw
        case rel => exact ⟨k + 1, by omega, by go_num, Lib.hid (take_step HX.out HY.out HI.out HXY.out), below_drewN hw _⟩
        case measure => simp [intOf]; omega
      · have HXY := Lib.hid hxy
        have hn : decide (x = y) = false := by simp [hxy]
        have hs := same_ivl x y
        rw [hn] at hs
        have hgd := guard_ivl
        clear hxy
        go_wp2_with fail
        go_quiet (fail)
        go_wp2
        go_ret
        exact ⟨ret_bool (by symm; simp; exact ne_of_get HX.out HY.out HXY.out), below_drewN hw _⟩
    · go_wp2_with fail
      go_ret
      exact ⟨ret_bool (by symm; simp; exact take_eq_of HL.out (by omega) HI.out), hw⟩
end Go.Proofs.Ytdpibehpmghghaa
/- The walks of the check of a map, and of what it tells, the program's and the document's (printed by genmapcheck.py). -/
namespace Go.Proofs.Ytdpibehpmghghaa
open Go.RowKit

theorem far2_is {n : Int} {b : Bool} (h : farB n = b) (w : World) : Calls Try.prog 39 #[.int .i64 n] w fun e w' => e = .returned (.bool b) ∧ w = w' := by
  go_enter Try.func39, Try.ntmps39
  go_wp2
  all_goals go_ret
  all_goals exact ⟨ret_bool (by rw [← h, Bool.eq_iff_iff]; simp [farB, nearB, inB]; try omega), rfl⟩
section
variable {l : List PieceD} {k : Nat} {x z : PieceD}
theorem mapErr_bad' (h : l.length ≤ 200) (h2 : ¬ MapOk l) : mapErr l = 5 := mapErr_bad (by omega) h2
theorem badM_f (hx : l[k]? = some x) (h : nearB x.f = false) : ¬ MapOk l := fun hs => by have := (hs.at_ hx).1; rw [h] at this; simp at this
theorem badM_t (hx : l[k]? = some x) (h : nearB x.t = false) : ¬ MapOk l := fun hs => by have := (hs.at_ hx).2.1; rw [h] at this; simp at this
theorem badM_v' (hx : l[k]? = some x) (h : nearB x.v = false) : ¬ MapOk l := fun hs => by have := (hs.at_ hx).2.2.1; rw [h] at this; simp at this
theorem badM_e (hx : l[k]? = some x) (h : x.t ≤ x.f) : ¬ MapOk l := fun hs => by have := (hs.at_ hx).2.2.2; omega
theorem badM_l (hz : l[k]? = some z) (hx : l[k + 1]? = some x) (h : x.f < z.t) : ¬ MapOk l := fun hs => by have := (hs.gap hz hx).1; omega
theorem badM_v (hz : l[k]? = some z) (hx : l[k + 1]? = some x) (h : x.f = z.t) (hv : x.v = z.v) : ¬ MapOk l := fun hs => (hs.gap hz hx).2 h.symm hv.symm
end

set_option maxHeartbeats 4000000 in
theorem imapCheck_any (A : Option Addr) (c : Nat) (l : List PieceD) (w : World) (hI : PiecesAt w A c l) :
    Calls Try.prog 38 #[.slice A l.length c] w fun e w' => e = .returned (.int .i64 (mapErr l)) ∧ Below w.heap.size w w' := by
  have m1 := hI.len
  by_cases hl : l.length ≤ 200
  case neg =>
    have hd : decide ((l.length : Int) > 200) = true := by simp; omega
    go_enter Try.func38, Try.ntmps38
    go_wp2_with fail
    go_ret
    exact ⟨ret_int (mapErr_large (by omega)).symm, by go_grown⟩
  have hd : decide ((l.length : Int) > 200) = false := by simp; omega
  have HI := Lib.hid hI
  clear hI
  go_enter Try.func38, Try.ntmps38
  go_wp2_with fail
  clear hd
  go_loopw [10] (fun v wr => ∃ k : Nat, k ≤ l.length ∧ v = .int .i64 k ∧ Hid (MapOk (l.take k)) ∧ Below w.heap.size w wr) (fun v _ => l.length - (intOf v).toNat)
  case atStart => exact ⟨0, Nat.zero_le _, rfl, Lib.hid (by simpa using MapOk.nil), Below.refl _ _⟩
  case round =>
    obtain ⟨k, hk, rfl, HS, hb⟩ := hrel
    by_cases hlt : k < l.length
    case neg =>
      obtain rfl : k = l.length := by omega
      go_wp2_with fail
      go_ret
      exact ⟨ret_int (mapErr_ok (by omega) (by have := HS.out; rwa [List.take_length] at this)).symm, hb⟩
    case pos =>
      obtain ⟨x, hx⟩ := get_lt hlt
      obtain ⟨b, off, rfl, hb0, x0, x1, x2⟩ := HI.out.get hx
      rw [← hb.cell (by exact hb0)] at x0 x1 x2
      have HX := Lib.hid hx
      clear hx
      have hba := ext_alloc hb (Obj.cells #[Value.int IntKind.i64 x.f, Value.int IntKind.i64 x.t, Value.int IntKind.i64 x.v] 25)
      cases f1 : farB x.f
      case true =>
        go_wp2_with (first | (go_at_call 39; refine (far2_is (by assumption) _).mono ?_; rintro e w' ⟨rfl, rfl⟩))
        go_ret
        exact ⟨ret_int (mapErr_bad' hl (badM_f HX.out (far_on f1))).symm, hba⟩
      cases f2 : farB x.t
      case true =>
        go_wp2_with (first | (go_at_call 39; refine (far2_is (by assumption) _).mono ?_; rintro e w' ⟨rfl, rfl⟩))
        go_ret
        exact ⟨ret_int (mapErr_bad' hl (badM_t HX.out (far_on f2))).symm, hba⟩
      cases f3 : farB x.v
      case true =>
        go_wp2_with (first | (go_at_call 39; refine (far2_is (by assumption) _).mono ?_; rintro e w' ⟨rfl, rfl⟩))
        go_ret
        exact ⟨ret_int (mapErr_bad' hl (badM_v' HX.out (far_on f3))).symm, hba⟩
      by_cases g3 : x.t ≤ x.f
      case pos =>
        have d3 : decide (x.t ≤ x.f) = true := by simpa using g3
        go_wp2_with (first | (go_at_call 39; refine (far2_is (by assumption) _).mono ?_; rintro e w' ⟨rfl, rfl⟩))
        go_ret
        exact ⟨ret_int (mapErr_bad' hl (badM_e HX.out g3)).symm, hba⟩
      have d3 : decide (x.t ≤ x.f) = false := by simpa using g3
      have F3 := Lib.hid g3
      clear g3
      by_cases hk0 : k ≤ 0
      case pos =>
        have g4 : decide (0 < k) = false := by simp; omega
        go_wp2_with (first | (go_at_call 39; refine (far2_is (by assumption) _).mono ?_; rintro e w' ⟨rfl, rfl⟩))
        go_quiet (fail)
        go_wp2
        go_roundw
        case rel =>
          obtain rfl : k = 0 := by omega
          exact ⟨1, by omega, by go_num, Lib.hid (MapOk.first HX.out (far_off f1) (far_off f2) (far_off f3) (by have := F3.out; omega)), below_drewN hba _⟩
        case measure => simp [intOf]; omega
      case neg =>
        obtain ⟨j, rfl⟩ : ∃ j, k = j + 1 := ⟨k - 1, by omega⟩
        obtain ⟨z, hz⟩ := get_lt (show j < l.length by omega)
        obtain ⟨b', off', e', _, z0, z1, z2⟩ := HI.out.get hz
        obtain ⟨rfl, rfl⟩ : b = b' ∧ off = off' := by simpa using e'
        have z1 := (hba.cell (p := ⟨b, off + j * 3 + 1, none⟩) hb0).trans z1
        have z2 := (hba.cell (p := ⟨b, off + j * 3 + 2, none⟩) hb0).trans z2
        have HZ := Lib.hid hz
        clear hz e' z0
        have g4 : (0 : Int) < (j : Int) + 1 := by omega
        have hjw : IntKind.i64.wrap (j : Int) = j := IntWalk.i64_in _ (by omega)
        have hjl : j < l.length := by omega
        by_cases a1 : x.f < z.t
        case pos =>
          have d4 : decide (x.f < z.t) = true := by simpa using a1
          go_wp2_with (first | (go_at_call 39; refine (far2_is (by assumption) _).mono ?_; rintro e w' ⟨rfl, rfl⟩))
          go_quiet (fail)
          go_wp2
          go_ret
          exact ⟨ret_int (mapErr_bad' hl (badM_l HZ.out HX.out a1)).symm, below_drewN hba _⟩
        case neg =>
          have d4 : decide (x.f < z.t) = false := by simp; omega
          by_cases a2 : x.f = z.t
          case neg =>
            have d5 : (x.f == z.t) = false := by simp; omega
            go_wp2_with (first | (go_at_call 39; refine (far2_is (by assumption) _).mono ?_; rintro e w' ⟨rfl, rfl⟩))
            go_quiet (fail)
            go_wp2
            go_roundw
            case rel => exact ⟨j + 1 + 1, by omega, by go_num, Lib.hid (HS.out.next HZ.out HX.out (far_off f1) (far_off f2) (far_off f3) (by have := F3.out; omega) (by omega) (fun e => absurd e.symm a2)), below_drewN hba _⟩
            case measure => simp [intOf]; omega
          case pos =>
            have d5 : (x.f == z.t) = true := by simp; omega
            have A2 := Lib.hid a2
            clear a2
            by_cases a3 : x.v = z.v
            case pos =>
              have d6 : (x.v == z.v) = true := by simp; omega
              have A3 := Lib.hid a3
              clear a3
              go_wp2_with (first | (go_at_call 39; refine (far2_is (by assumption) _).mono ?_; rintro e w' ⟨rfl, rfl⟩))
              go_quiet (fail)
              go_wp2
              go_ret
              exact ⟨ret_int (mapErr_bad' hl (badM_v HZ.out HX.out A2.out A3.out)).symm, below_drewN hba _⟩
            case neg =>
              have d6 : (x.v == z.v) = false := by simp; omega
              have A3 := Lib.hid a3
              clear a3
              go_wp2_with (first | (go_at_call 39; refine (far2_is (by assumption) _).mono ?_; rintro e w' ⟨rfl, rfl⟩))
              go_quiet (fail)
              go_wp2
              go_roundw
              case rel => exact ⟨j + 1 + 1, by omega, by go_num, Lib.hid (HS.out.next HZ.out HX.out (far_off f1) (far_off f2) (far_off f3) (by have := F3.out; omega) (by omega) (fun _ e => A3.out e.symm)), below_drewN hba _⟩
              case measure => simp [intOf]; omega

/-- What At tells. -/
def atV (o : Option Int) : Value := .tuple #[.int .i64 (o.getD 0), .bool o.isSome]
set_option maxHeartbeats 2000000 in
theorem imapAt_any (A : Option Addr) (c : Nat) (l : List PieceD) (t : Int) (w : World) (hI : PiecesAt w A c l) :
    Calls Try.prog 43 #[.slice A l.length c, .int .i64 t] w fun e w' => e = .returned (atV (atM l t)) ∧ Below w.heap.size w w' := by
  have m1 := hI.len
  have HI := Lib.hid hI
  clear hI
  go_enter Try.func43, Try.ntmps43
  go_wp2_with fail
  go_loopw [10] (fun v wr => ∃ k : Nat, k ≤ l.length ∧ v = .int .i64 k ∧ Hid (atM (l.drop k) t = atM l t) ∧ Below w.heap.size w wr) (fun v _ => l.length - (intOf v).toNat)
  case atStart => exact ⟨0, Nat.zero_le _, rfl, Lib.hid rfl, Below.refl _ _⟩
  case round =>
    obtain ⟨k, hk, rfl, HN, hb⟩ := hrel
    by_cases hlt : k < l.length
    case neg =>
      go_wp2_with fail
      refine bodyPost_ret (v := .tuple #[.int .i64 0, .bool false]) (by simp [results, Try.results43]) rfl ?_
      exact ⟨by rw [← HN.out, drop_end (by omega)]; rfl, hb⟩
    case pos =>
      obtain ⟨x, hx⟩ := get_lt hlt
      obtain ⟨b, off, rfl, hb0, x0, x1, x2⟩ := HI.out.get hx
      rw [← hb.cell (by exact hb0)] at x0 x1 x2
      have HD : Hid (l.drop k = x :: l.drop (k + 1)) := Lib.hid (drop_cons hx)
      have hba := ext_alloc hb (Obj.cells #[Value.int IntKind.i64 x.f, Value.int IntKind.i64 x.t, Value.int IntKind.i64 x.v] 25)
      clear hx
      by_cases h1 : x.f ≤ t
      · have d1 : decide (x.f ≤ t) = true := by simpa using h1
        by_cases h2 : t < x.t
        · have d2 : decide (t < x.t) = true := by simpa using h2
          go_wp2_with fail
          refine bodyPost_ret (v := .tuple #[.int .i64 x.v, .bool true]) (by simp [results, Try.results43]) rfl ?_
          exact ⟨by rw [← HN.out, HD.out, at_hit ⟨h1, h2⟩]; rfl, hba⟩
        · have d2 : decide (t < x.t) = false := by simpa using h2
          go_wp2_with fail
          go_roundw
          case rel => exact ⟨k + 1, by omega, by go_num, Lib.hid (by rw [← HN.out, HD.out, at_miss (by omega)]), hba⟩
          case measure => simp [intOf]; omega
      · have d1 : decide (x.f ≤ t) = false := by simpa using h1
        go_wp2_with fail
        go_roundw
        case rel => exact ⟨k + 1, by omega, by go_num, Lib.hid (by rw [← HN.out, HD.out, at_miss (by omega)]), hba⟩
        case measure => simp [intOf]; omega
end Go.Proofs.Ytdpibehpmghghaa
