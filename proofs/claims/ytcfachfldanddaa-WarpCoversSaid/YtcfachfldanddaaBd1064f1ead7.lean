/- Several texts in one: MapCheck, Rest. -/
import Derived.Test.YtcfachfldanddaaBd329d7f171a
import Derived.Test.YtcfachfldanddaaBd6b7ba0c9b1
/- The walks of the check of a map, and of what it tells, the program's and the document's (printed by genmapcheck.py). -/
namespace Go.Proofs.Ytcfachfldanddaa
open Go.RowKit

theorem far2_is {n : Int} {b : Bool} (h : farB n = b) (w : World) : Calls Try.prog 77 #[.int .i64 n] w fun e w' => e = .returned (.bool b) ∧ w = w' := by
  go_enter Try.func77, Try.ntmps77
  go_wp2
  all_goals go_ret
  all_goals exact ⟨ret_bool (by rw [← h, Bool.eq_iff_iff]; simp [farB, nearB, inB]; try omega), rfl⟩
section
variable {l : List PieceD} {k : Nat} {x z : PieceD}
theorem mapErr_bad' (h : l.length ≤ 200) (h2 : ¬ MapOk l) : mapErr l = 5 := mapErr_bad (by omega) h2
theorem badM_f (hx : l[k]? = some x) (h : nearB x.f = false) : ¬ MapOk l := fun hs => by have := (hs.at_ hx).1; rw [h] at this; simp at this
theorem badM_t (hx : l[k]? = some x) (h : nearB x.t = false) : ¬ MapOk l := fun hs => by have := (hs.at_ hx).2.1; rw [h] at this; simp at this
theorem badM_v' (hx : l[k]? = some x) (h : nearB x.v = false) : ¬ MapOk l := fun hs => by have := (hs.at_ hx).2.2.1; rw [h] at this; simp at this
theorem badM_e (hx : l[k]? = some x) (h : x.t ≤ x.f) : ¬ MapOk l := fun hs => by have := (hs.at_ hx).2.2.2; omega
theorem badM_l (hz : l[k]? = some z) (hx : l[k + 1]? = some x) (h : x.f < z.t) : ¬ MapOk l := fun hs => by have := (hs.gap hz hx).1; omega
theorem badM_v (hz : l[k]? = some z) (hx : l[k + 1]? = some x) (h : x.f = z.t) (hv : x.v = z.v) : ¬ MapOk l := fun hs => (hs.gap hz hx).2 h.symm hv.symm
end

set_option maxHeartbeats 4000000 in
theorem imapCheck_any (A : Option Addr) (c : Nat) (l : List PieceD) (w : World) (hI : PiecesAt w A c l) :
    Calls Try.prog 32 #[.slice A l.length c] w fun e w' => e = .returned (.int .i64 (mapErr l)) ∧ Below w.heap.size w w' := by
  have m1 := hI.len
  by_cases hl : l.length ≤ 200
  case neg =>
    have hd : decide ((l.length : Int) > 200) = true := by simp; omega
    go_enter Try.func32, Try.ntmps32
    go_wp2_with fail
    go_ret
    exact ⟨ret_int (mapErr_large (by omega)).symm, by go_grown⟩
  have hd : decide ((l.length : Int) > 200) = false := by simp; omega
  have HI := Lib.hid hI
  clear hI
  go_enter Try.func32, Try.ntmps32
  go_wp2_with fail
  clear hd
  go_loopw [10] (fun v wr => ∃ k : Nat, k ≤ l.length ∧ v = .int .i64 k ∧ Hid (MapOk (l.take k)) ∧ Below w.heap.size w wr) (fun v _ => l.length - (intOf v).toNat)
  case atStart => exact ⟨0, Nat.zero_le _, rfl, Lib.hid (by simpa using MapOk.nil), Below.refl _ _⟩
  case round =>
    obtain ⟨k, hk, rfl, HS, hb⟩ := hrel
    by_cases hlt : k < l.length
    case neg =>
      obtain rfl : k = l.length := by omega
      go_wp2_with fail
      go_ret
      exact ⟨ret_int (mapErr_ok (by omega) (by have := HS.out; rwa [List.take_length] at this)).symm, hb⟩
    case pos =>
      obtain ⟨x, hx⟩ := get_lt hlt
      obtain ⟨b, off, rfl, hb0, x0, x1, x2⟩ := HI.out.get hx
      rw [← hb.cell (by exact hb0)] at x0 x1 x2
      have HX := Lib.hid hx
      clear hx
      have hba := ext_alloc hb (Obj.cells #[Value.int IntKind.i64 x.f, Value.int IntKind.i64 x.t, Value.int IntKind.i64 x.v] 42)
      cases f1 : farB x.f
      case true =>
        go_wp2_with (first | (go_at_call 77; refine (far2_is (by assumption) _).mono ?_; rintro e w' ⟨rfl, rfl⟩))
        go_ret
        exact ⟨ret_int (mapErr_bad' hl (badM_f HX.out (far_on f1))).symm, hba⟩
      cases f2 : farB x.t
      case true =>
        go_wp2_with (first | (go_at_call 77; refine (far2_is (by assumption) _).mono ?_; rintro e w' ⟨rfl, rfl⟩))
        go_ret
        exact ⟨ret_int (mapErr_bad' hl (badM_t HX.out (far_on f2))).symm, hba⟩
      cases f3 : farB x.v
      case true =>
        go_wp2_with (first | (go_at_call 77; refine (far2_is (by assumption) _).mono ?_; rintro e w' ⟨rfl, rfl⟩))
        go_ret
        exact ⟨ret_int (mapErr_bad' hl (badM_v' HX.out (far_on f3))).symm, hba⟩
      by_cases g3 : x.t ≤ x.f
      case pos =>
        have d3 : decide (x.t ≤ x.f) = true := by simpa using g3
        go_wp2_with (first | (go_at_call 77; refine (far2_is (by assumption) _).mono ?_; rintro e w' ⟨rfl, rfl⟩))
        go_ret
        exact ⟨ret_int (mapErr_bad' hl (badM_e HX.out g3)).symm, hba⟩
      have d3 : decide (x.t ≤ x.f) = false := by simpa using g3
      have F3 := Lib.hid g3
      clear g3
      by_cases hk0 : k ≤ 0
      case pos =>
        have g4 : decide (0 < k) = false := by simp; omega
        go_wp2_with (first | (go_at_call 77; refine (far2_is (by assumption) _).mono ?_; rintro e w' ⟨rfl, rfl⟩))
        go_quiet (fail)
        go_wp2
        go_roundw
        case rel =>
          obtain rfl : k = 0 := by omega
          exact ⟨1, by omega, by go_num, Lib.hid (MapOk.first HX.out (far_off f1) (far_off f2) (far_off f3) (by have := F3.out; omega)), below_drewN hba _⟩
        case measure => simp [intOf]; omega
      case neg =>
        obtain ⟨j, rfl⟩ : ∃ j, k = j + 1 := ⟨k - 1, by omega⟩
        obtain ⟨z, hz⟩ := get_lt (show j < l.length by omega)
        obtain ⟨b', off', e', _, z0, z1, z2⟩ := HI.out.get hz
        obtain ⟨rfl, rfl⟩ : b = b' ∧ off = off' := by simpa using e'
        have z1 := (hba.cell (p := ⟨b, off + j * 3 + 1, none⟩) hb0).trans z1
        have z2 := (hba.cell (p := ⟨b, off + j * 3 + 2, none⟩) hb0).trans z2
        have HZ := Lib.hid hz
        clear hz e' z0
        have g4 : (0 : Int) < (j : Int) + 1 := by omega
        have hjw : IntKind.i64.wrap (j : Int) = j := IntWalk.i64_in _ (by omega)
        have hjl : j < l.length := by omega
        by_cases a1 : x.f < z.t
        case pos =>
          have d4 : decide (x.f < z.t) = true := by simpa using a1
          go_wp2_with (first | (go_at_call 77; refine (far2_is (by assumption) _).mono ?_; rintro e w' ⟨rfl, rfl⟩))
          go_quiet (fail)
          go_wp2
          go_ret
          exact ⟨ret_int (mapErr_bad' hl (badM_l HZ.out HX.out a1)).symm, below_drewN hba _⟩
        case neg =>
          have d4 : decide (x.f < z.t) = false := by simp; omega
          by_cases a2 : x.f = z.t
          case neg =>
            have d5 : (x.f == z.t) = false := by simp; omega
            go_wp2_with (first | (go_at_call 77; refine (far2_is (by assumption) _).mono ?_; rintro e w' ⟨rfl, rfl⟩))
            go_quiet (fail)
            go_wp2
            go_roundw
            case rel => exact ⟨j + 1 + 1, by omega, by go_num, Lib.hid (HS.out.next HZ.out HX.out (far_off f1) (far_off f2) (far_off f3) (by have := F3.out; omega) (by omega) (fun e => absurd e.symm a2)), below_drewN hba _⟩
            case measure => simp [intOf]; omega
          case pos =>
            have d5 : (x.f == z.t) = true := by simp; omega
            have A2 := Lib.hid a2
            clear a2
            by_cases a3 : x.v = z.v
            case pos =>
              have d6 : (x.v == z.v) = true := by simp; omega
              have A3 := Lib.hid a3
              clear a3
              go_wp2_with (first | (go_at_call 77; refine (far2_is (by assumption) _).mono ?_; rintro e w' ⟨rfl, rfl⟩))
              go_quiet (fail)
              go_wp2
              go_ret
              exact ⟨ret_int (mapErr_bad' hl (badM_v HZ.out HX.out A2.out A3.out)).symm, below_drewN hba _⟩
            case neg =>
              have d6 : (x.v == z.v) = false := by simp; omega
              have A3 := Lib.hid a3
              clear a3
              go_wp2_with (first | (go_at_call 77; refine (far2_is (by assumption) _).mono ?_; rintro e w' ⟨rfl, rfl⟩))
              go_quiet (fail)
              go_wp2
              go_roundw
              case rel => exact ⟨j + 1 + 1, by omega, by go_num, Lib.hid (HS.out.next HZ.out HX.out (far_off f1) (far_off f2) (far_off f3) (by have := F3.out; omega) (by omega) (fun _ e => A3.out e.symm)), below_drewN hba _⟩
              case measure => simp [intOf]; omega

set_option maxHeartbeats 4000000 in
theorem refMap_any (A : Option Addr) (c : Nat) (l : List PieceD) (w : World) (hI : PiecesAt w A c l) :
    Calls Try.prog 39 #[.slice A l.length c] w fun e w' => e = .returned (.int .i64 (mapErr l)) ∧ Below w.heap.size w w' := by
  have m1 := hI.len
  by_cases hl : l.length ≤ 200
  case neg =>
    have hd : decide ((l.length : Int) > 200) = true := by simp; omega
    go_enter Try.func39, Try.ntmps39
    go_wp2_with fail
    go_ret
    exact ⟨ret_int (mapErr_large (by omega)).symm, by go_grown⟩
  have hd : decide ((l.length : Int) > 200) = false := by simp; omega
  have HI := Lib.hid hI
  clear hI
  go_enter Try.func39, Try.ntmps39
  go_wp2_with fail
  clear hd
  go_loopw [3] (fun v wr => ∃ k : Nat, k ≤ l.length ∧ v = .int .i64 k ∧ Hid (MapOk (l.take k)) ∧ Below w.heap.size w wr) (fun v _ => l.length - (intOf v).toNat)
  case atStart => exact ⟨0, Nat.zero_le _, rfl, Lib.hid (by simpa using MapOk.nil), Below.refl _ _⟩
  case round =>
    obtain ⟨k, hk, rfl, HS, hb⟩ := hrel
    by_cases hlt : k < l.length
    case neg =>
      obtain rfl : k = l.length := by omega
      go_wp2_with fail
      go_ret
      exact ⟨ret_int (mapErr_ok (by omega) (by have := HS.out; rwa [List.take_length] at this)).symm, hb⟩
    case pos =>
      obtain ⟨x, hx⟩ := get_lt hlt
      obtain ⟨b, off, rfl, hb0, x0, x1, x2⟩ := HI.out.get hx
      rw [← hb.cell (by exact hb0)] at x0 x1 x2
      have HX := Lib.hid hx
      clear hx
      have hba := ext_alloc hb (Obj.cells #[Value.int IntKind.i64 x.f, Value.int IntKind.i64 x.t, Value.int IntKind.i64 x.v] 42)
      cases f1 : nearB x.f
      case false =>
        go_wp2_with (first | (go_at_call 72; refine (near_is (by assumption) _).mono ?_; rintro e w' ⟨rfl, rfl⟩))
        go_ret
        exact ⟨ret_int (mapErr_bad' hl (badM_f HX.out f1)).symm, hba⟩
      cases f2 : nearB x.t
      case false =>
        go_wp2_with (first | (go_at_call 72; refine (near_is (by assumption) _).mono ?_; rintro e w' ⟨rfl, rfl⟩))
        go_ret
        exact ⟨ret_int (mapErr_bad' hl (badM_t HX.out f2)).symm, hba⟩
      cases f3 : nearB x.v
      case false =>
        go_wp2_with (first | (go_at_call 72; refine (near_is (by assumption) _).mono ?_; rintro e w' ⟨rfl, rfl⟩))
        go_ret
        exact ⟨ret_int (mapErr_bad' hl (badM_v' HX.out f3)).symm, hba⟩
      by_cases g3 : x.t ≤ x.f
      case pos =>
        have d3 : decide (x.f ≥ x.t) = true := by simpa using g3
        go_wp2_with (first | (go_at_call 72; refine (near_is (by assumption) _).mono ?_; rintro e w' ⟨rfl, rfl⟩))
        go_ret
        exact ⟨ret_int (mapErr_bad' hl (badM_e HX.out g3)).symm, hba⟩
      have d3 : decide (x.f ≥ x.t) = false := by simp; omega
      have F3 := Lib.hid g3
      clear g3
      by_cases hk0 : k ≤ 0
      case pos =>
        have g4 : decide (0 < k) = false := by simp; omega
        go_wp2_with (first | (go_at_call 72; refine (near_is (by assumption) _).mono ?_; rintro e w' ⟨rfl, rfl⟩))
        go_quiet (fail)
        go_wp2
        go_roundw
        case rel =>
          obtain rfl : k = 0 := by omega
          exact ⟨1, by omega, by go_num, Lib.hid (MapOk.first HX.out f1 f2 f3 (by have := F3.out; omega)), below_drewN hba _⟩
        case measure => simp [intOf]; omega
      case neg =>
        obtain ⟨j, rfl⟩ : ∃ j, k = j + 1 := ⟨k - 1, by omega⟩
        obtain ⟨z, hz⟩ := get_lt (show j < l.length by omega)
        obtain ⟨b', off', e', _, z0, z1, z2⟩ := HI.out.get hz
        obtain ⟨rfl, rfl⟩ : b = b' ∧ off = off' := by simpa using e'
        have z1 := (hba.cell (p := ⟨b, off + j * 3 + 1, none⟩) hb0).trans z1
        have z2 := (hba.cell (p := ⟨b, off + j * 3 + 2, none⟩) hb0).trans z2
        have HZ := Lib.hid hz
        clear hz e' z0
        have g4 : (0 : Int) < (j : Int) + 1 := by omega
        have hjw : IntKind.i64.wrap (j : Int) = j := IntWalk.i64_in _ (by omega)
        have hjl : j < l.length := by omega
        by_cases a1 : x.f < z.t
        case pos =>
          have d4 : decide (z.t > x.f) = true := by simpa using a1
          go_wp2_with (first | (go_at_call 72; refine (near_is (by assumption) _).mono ?_; rintro e w' ⟨rfl, rfl⟩))
          go_quiet (fail)
          go_wp2
          go_ret
          exact ⟨ret_int (mapErr_bad' hl (badM_l HZ.out HX.out a1)).symm, below_drewN hba _⟩
        case neg =>
          have d4 : decide (z.t > x.f) = false := by simp; omega
          by_cases a2 : x.f = z.t
          case neg =>
            have d5 : (z.t == x.f) = false := by simp; omega
            go_wp2_with (first | (go_at_call 72; refine (near_is (by assumption) _).mono ?_; rintro e w' ⟨rfl, rfl⟩))
            go_quiet (fail)
            go_wp2
            go_roundw
            case rel => exact ⟨j + 1 + 1, by omega, by go_num, Lib.hid (HS.out.next HZ.out HX.out f1 f2 f3 (by have := F3.out; omega) (by omega) (fun e => absurd e.symm a2)), below_drewN hba _⟩
            case measure => simp [intOf]; omega
          case pos =>
            have d5 : (z.t == x.f) = true := by simp; omega
            have A2 := Lib.hid a2
            clear a2
            by_cases a3 : x.v = z.v
            case pos =>
              have d6 : (z.v == x.v) = true := by simp; omega
              have A3 := Lib.hid a3
              clear a3
              go_wp2_with (first | (go_at_call 72; refine (near_is (by assumption) _).mono ?_; rintro e w' ⟨rfl, rfl⟩))
              go_quiet (fail)
              go_wp2
              go_ret
              exact ⟨ret_int (mapErr_bad' hl (badM_v HZ.out HX.out A2.out A3.out)).symm, below_drewN hba _⟩
            case neg =>
              have d6 : (z.v == x.v) = false := by simp; omega
              have A3 := Lib.hid a3
              clear a3
              go_wp2_with (first | (go_at_call 72; refine (near_is (by assumption) _).mono ?_; rintro e w' ⟨rfl, rfl⟩))
              go_quiet (fail)
              go_wp2
              go_roundw
              case rel => exact ⟨j + 1 + 1, by omega, by go_num, Lib.hid (HS.out.next HZ.out HX.out f1 f2 f3 (by have := F3.out; omega) (by omega) (fun _ e => A3.out e.symm)), below_drewN hba _⟩
              case measure => simp [intOf]; omega

/-- What At tells. -/
def atV (o : Option Int) : Value := .tuple #[.int .i64 (o.getD 0), .bool o.isSome]
set_option maxHeartbeats 2000000 in
theorem imapAt_any (A : Option Addr) (c : Nat) (l : List PieceD) (t : Int) (w : World) (hI : PiecesAt w A c l) :
    Calls Try.prog 40 #[.slice A l.length c, .int .i64 t] w fun e w' => e = .returned (atV (atM l t)) ∧ Below w.heap.size w w' := by
  have m1 := hI.len
  have HI := Lib.hid hI
  clear hI
  go_enter Try.func40, Try.ntmps40
  go_wp2_with fail
  go_loopw [10] (fun v wr => ∃ k : Nat, k ≤ l.length ∧ v = .int .i64 k ∧ Hid (atM (l.drop k) t = atM l t) ∧ Below w.heap.size w wr) (fun v _ => l.length - (intOf v).toNat)
  case atStart => exact ⟨0, Nat.zero_le _, rfl, Lib.hid rfl, Below.refl _ _⟩
  case round =>
    obtain ⟨k, hk, rfl, HN, hb⟩ := hrel
    by_cases hlt : k < l.length
    case neg =>
      go_wp2_with fail
      refine bodyPost_ret (v := .tuple #[.int .i64 0, .bool false]) (by simp [results, Try.results40]) rfl ?_
      exact ⟨by rw [← HN.out, drop_end (by omega)]; rfl, hb⟩
    case pos =>
      obtain ⟨x, hx⟩ := get_lt hlt
      obtain ⟨b, off, rfl, hb0, x0, x1, x2⟩ := HI.out.get hx
      rw [← hb.cell (by exact hb0)] at x0 x1 x2
      have HD : Hid (l.drop k = x :: l.drop (k + 1)) := Lib.hid (drop_cons hx)
      have hba := ext_alloc hb (Obj.cells #[Value.int IntKind.i64 x.f, Value.int IntKind.i64 x.t, Value.int IntKind.i64 x.v] 42)
      clear hx
      by_cases h1 : x.f ≤ t
      · have d1 : decide (x.f ≤ t) = true := by simpa using h1
        by_cases h2 : t < x.t
        · have d2 : decide (t < x.t) = true := by simpa using h2
          go_wp2_with fail
          refine bodyPost_ret (v := .tuple #[.int .i64 x.v, .bool true]) (by simp [results, Try.results40]) rfl ?_
          exact ⟨by rw [← HN.out, HD.out, at_hit ⟨h1, h2⟩]; rfl, hba⟩
        · have d2 : decide (t < x.t) = false := by simpa using h2
          go_wp2_with fail
          go_roundw
          case rel => exact ⟨k + 1, by omega, by go_num, Lib.hid (by rw [← HN.out, HD.out, at_miss (by omega)]), hba⟩
          case measure => simp [intOf]; omega
      · have d1 : decide (x.f ≤ t) = false := by simpa using h1
        go_wp2_with fail
        go_roundw
        case rel => exact ⟨k + 1, by omega, by go_num, Lib.hid (by rw [← HN.out, HD.out, at_miss (by omega)]), hba⟩
        case measure => simp [intOf]; omega
set_option maxHeartbeats 2000000 in
theorem refAt_any (A : Option Addr) (c : Nat) (l : List PieceD) (t : Int) (w : World) (hI : PiecesAt w A c l) :
    Calls Try.prog 41 #[.slice A l.length c, .int .i64 t] w fun e w' => e = .returned (atV (atM l t)) ∧ w = w' := by
  have m1 := hI.len
  have HI := Lib.hid hI
  clear hI
  go_enter Try.func41, Try.ntmps41
  go_wp2_with fail
  go_loop [6] (fun v => ∃ k : Nat, k ≤ l.length ∧ v = .int .i64 k ∧ Hid (atM (l.drop k) t = atM l t)) (fun v => l.length - (intOf v).toNat)
  case atStart => exact ⟨0, Nat.zero_le _, rfl, Lib.hid rfl⟩
  case round =>
    obtain ⟨k, hk, rfl, HN⟩ := hrel
    by_cases hlt : k < l.length
    case neg =>
      go_wp2_with fail
      refine bodyPost_ret (v := .tuple #[.int .i64 0, .bool false]) (by simp [results, Try.results41]) rfl ?_
      exact ⟨by rw [← HN.out, drop_end (by omega)]; rfl, rfl⟩
    case pos =>
      obtain ⟨x, hx⟩ := get_lt hlt
      obtain ⟨b, off, rfl, hb0, x0, x1, x2⟩ := HI.out.get hx
      have HD : Hid (l.drop k = x :: l.drop (k + 1)) := Lib.hid (drop_cons hx)
      clear hx
      by_cases h1 : x.f ≤ t
      · have d1 : decide (x.f ≤ t) = true := by simpa using h1
        by_cases h2 : t < x.t
        · have d2 : decide (t < x.t) = true := by simpa using h2
          go_wp2_with fail
          refine bodyPost_ret (v := .tuple #[.int .i64 x.v, .bool true]) (by simp [results, Try.results41]) rfl ?_
          exact ⟨by rw [← HN.out, HD.out, at_hit ⟨h1, h2⟩]; rfl, rfl⟩
        · have d2 : decide (t < x.t) = false := by simpa using h2
          go_wp2_with fail
          go_round
          case rel => exact ⟨k + 1, by omega, by go_num, Lib.hid (by rw [← HN.out, HD.out, at_miss (by omega)])⟩
          case measure => simp [intOf]; omega
      · have d1 : decide (x.f ≤ t) = false := by simpa using h1
        go_wp2_with fail
        go_round
        case rel => exact ⟨k + 1, by omega, by go_num, Lib.hid (by rw [← HN.out, HD.out, at_miss (by omega)])⟩
        case measure => simp [intOf]; omega
end Go.Proofs.Ytcfachfldanddaa
/- The walk of the document's Rest. -/
namespace Go.Proofs.Ytcfachfldanddaa
open Go.RowKit

theorem rest_any (n m : Int) (w : World) (hn : I64 n) (hm : 0 < m) (hm2 : m ≤ 9223372036854775807) :
    Calls Try.prog 37 #[.int .i64 n, .int .i64 m] w fun e w' => e = .returned (.int .i64 (n % m)) ∧ w = w' := by
  obtain ⟨h0, h1⟩ := hn
  have hm0 : (m == 0) = false := by simp; omega
  have e1 : n.tmod m = if 0 ≤ n then n % m else -((-n) % m) := by
    split
    · rw [Int.tmod_eq_emod_of_nonneg (by omega)]
    · have := Int.neg_tmod (a := -n) (b := m)
      rw [Int.neg_neg] at this
      rw [this, Int.tmod_eq_emod_of_nonneg (by omega)]
  have b1 := Int.emod_nonneg n (show m ≠ 0 by omega)
  have b2 := Int.emod_lt_of_pos n hm
  have b3 := Int.emod_nonneg (-n) (show m ≠ 0 by omega)
  have b4 := Int.emod_lt_of_pos (-n) hm
  have key : n.tmod m < 0 → n.tmod m + m = n % m := by
    intro hneg
    have hn0 : ¬ 0 ≤ n := fun h => by rw [e1, if_pos h] at hneg; omega
    rw [e1, if_neg hn0] at hneg ⊢
    rw [Int.neg_emod, Int.natAbs_of_nonneg (by omega)] at hneg ⊢
    by_cases hd : m ∣ n
    · rw [if_pos hd] at hneg; omega
    · rw [if_neg hd]; omega
  have key2 : ¬ n.tmod m < 0 → n.tmod m = n % m := by
    intro hneg
    rw [e1] at hneg ⊢
    split
    · rfl
    · rename_i hn0
      rw [if_neg hn0] at hneg
      have h3 : (-n) % m = 0 := by omega
      have h4 : n % m = 0 := by
        have := Int.dvd_of_emod_eq_zero h3
        exact Int.emod_eq_zero_of_dvd (Int.dvd_neg.1 this)
      omega
  have c0 : -9223372036854775808 ≤ n.tmod m := by rw [e1]; split <;> omega
  have c1 : n.tmod m ≤ 9223372036854775807 := by rw [e1]; split <;> omega
  have K := Lib.hid key
  have K2 := Lib.hid key2
  clear key key2 e1
  generalize hq : n.tmod m = q at *
  by_cases hneg : q < 0
  · have hs := K.out hneg
    have HS := Lib.hid hs
    have hs0 : 0 ≤ q + m := by omega
    clear hs
    go_enter Try.func37, Try.ntmps37
    go_wp2
    go_ret
    exact ⟨ret_int (by rw [← HS.out]), rfl⟩
  · have HS := Lib.hid (K2.out hneg)
    go_enter Try.func37, Try.ntmps37
    go_wp2
    go_ret
    exact ⟨ret_int (by rw [← HS.out]), rfl⟩
end Go.Proofs.Ytcfachfldanddaa
