/- One text: EqualB. -/
import Derived.Laws.StructEq
import Derived.Test.YtcfachfldanddaaBd6b7ba0c9b1
import Derived.Test.YtcfachfldanddaaBd6a04bbb789
import Derived.Test.YtcfachfldanddaaBd329d7f171a
/- The walks of the library's slices.Equal, at hops, ints, bools and lives. -/
namespace Go.Proofs.Ytcfachfldanddaa
open Go.RowKit

theorem take_eq_of {α : Type} {a b : List α} (hl : a.length = b.length) {k : Nat} (hk : a.length ≤ k) (h : a.take k = b.take k) : a = b := by
  rwa [List.take_of_length_le hk, List.take_of_length_le (by omega)] at h
theorem take_step {α : Type} {a b : List α} {k : Nat} {x y : α} (hx : a[k]? = some x) (hy : b[k]? = some y) (h : a.take k = b.take k) (hxy : x = y) : a.take (k + 1) = b.take (k + 1) := by
  rw [List.take_add_one, List.take_add_one, hx, hy, h, hxy]
theorem ne_of_get {α : Type} {a b : List α} {k : Nat} {x y : α} (hx : a[k]? = some x) (hy : b[k]? = some y) (hxy : ¬ x = y) : ¬ a = b := by
  rintro rfl
  rw [hx] at hy
  exact hxy (by simpa using hy)

set_option maxHeartbeats 1000000 in
theorem equalInts_any (A B : Option Addr) (c d : Nat) (a b : List Int) (w : World) (hA : SlAt RInt 1 w A a) (hB : SlAt RInt 1 w B b) (ha : a.length ≤ maxLen) (hb : b.length ≤ maxLen) :
    Calls Try.prog 129 #[.slice A a.length c, .slice B b.length d] w fun e w' => e = .returned (.bool (decide (a = b))) ∧ Below w.heap.size w w' := by
  unfold maxLen at ha hb
  by_cases hl : a.length = b.length
  case neg =>
    have hne : ((a.length : Int) != (b.length : Int)) = true := by simp; omega
    go_enter Try.func129, Try.ntmps129
    go_wp2_with fail
    go_ret
    exact ⟨ret_bool (by symm; simp; intro h; exact hl (by rw [h])), Below.refl _ _⟩
  have hne : ((a.length : Int) != (b.length : Int)) = false := by simp; omega
  obtain ⟨ba, oa, hA⟩ := hA
  obtain ⟨bb, ob, hB⟩ := hB
  have HL := Lib.hid hl
  have hl1 : a.length ≤ b.length := by omega
  have hl2 : b.length ≤ a.length := by omega
  clear hl
  go_enter Try.func129, Try.ntmps129
  go_wp2_with fail
  go_loopw [13] (fun v wr => ∃ k : Nat, k ≤ a.length ∧ v = .int .i64 k ∧ Hid (a.take k = b.take k) ∧ Below w.heap.size w wr) (fun v _ => a.length - (intOf v).toNat)
  case atStart => exact ⟨0, Nat.zero_le _, rfl, Lib.hid (by simp), Below.refl _ _⟩
  case round =>
    obtain ⟨k, hk, rfl, HI, hw⟩ := hrel
    by_cases hlt : k < a.length
    · obtain ⟨x, hx⟩ := get_lt hlt
      obtain ⟨y, hy⟩ := get_lt (show k < b.length by omega)
      obtain ⟨rfl, hba, x0, _⟩ := hA k x hx
      obtain ⟨rfl, hbb, y0, _⟩ := hB k y hy
      have x1 := x0.now hw
      have y1 := y0.now hw
      simp only [Nat.mul_one] at x1 y1
      have HX := Lib.hid hx
      have HY := Lib.hid hy
      have hlt2 : k < b.length := by omega
      clear hA hB hx hy x0 y0
      by_cases hxy : x = y
      · have HXY := Lib.hid hxy
        have hn : (x != y) = false := by simp [hxy]
        clear hxy
        go_wp2_with fail
        go_quiet (fail)
        go_wp2
        go_roundw
        case rel => exact ⟨k + 1, by omega, by go_num, Lib.hid (take_step HX.out HY.out HI.out HXY.out), below_drewN hw _⟩
        case measure => simp [intOf]; omega
      · have HXY := Lib.hid hxy
        have hn : (x != y) = true := by simp [hxy]
        clear hxy
        go_wp2_with fail
        go_quiet (fail)
        go_wp2
        go_ret
        exact ⟨ret_bool (by symm; simp; exact ne_of_get HX.out HY.out HXY.out), below_drewN hw _⟩
    · go_wp2_with fail
      go_ret
      exact ⟨ret_bool (by symm; simp; exact take_eq_of HL.out (by omega) HI.out), hw⟩

theorem fields_piece : Try.prog.underlying 42 = some (.struct (Try.prog.fieldsOf 42)) := by kernel_rfl
theorem guard_piece : Try.prog.eqGuardType Try.prog.depth 42 = false := by kernel_rfl
theorem held_piece : Try.prog.stoodInHeld 42 = false := by kernel_rfl
theorem same_piece (x y : PieceD) (w : World) : (Op.equalIn 10000 42 (pieceV x) (pieceV y)).run Try.prog w = .ok (decide (x = y)) w := by
  have e : decide (x = y) = decide (x.f = y.f ∧ x.t = y.t ∧ x.v = y.v) := by rw [decide_eq_decide]; cases x; cases y; simp
  rw [e, run_equalIn_agg w 9999 42 _ _ fields_piece held_piece]
  have hf : (Try.prog.fieldsOf 42).toList = (match Try.prog.underlying 42 with | some (.struct fs) => fs.toList | _ => []) := by kernel_rfl
  rw [hf, Try.underlying42]
  simp [Op.eqFields, go_sem]
  by_cases hf : x.f = y.f <;> by_cases ht : x.t = y.t <;> by_cases hv : x.v = y.v <;> simp [*]
set_option maxHeartbeats 1000000 in
theorem equalPieces_any (A B : Option Addr) (c d : Nat) (a b : List PieceD) (w : World) (hA : SlAt RPiece 3 w A a) (hB : SlAt RPiece 3 w B b) (ha : a.length ≤ maxLen) (hb : b.length ≤ maxLen) :
    Calls Try.prog 34 #[.slice A a.length c, .slice B b.length d] w fun e w' => e = .returned (.bool (decide (a = b))) ∧ Below w.heap.size w w' := by
  unfold maxLen at ha hb
  by_cases hl : a.length = b.length
  case neg =>
    have hne : ((a.length : Int) != (b.length : Int)) = true := by simp; omega
    go_enter Try.func34, Try.ntmps34
    go_wp2_with fail
    go_ret
    exact ⟨ret_bool (by symm; simp; intro h; exact hl (by rw [h])), Below.refl _ _⟩
  have hne : ((a.length : Int) != (b.length : Int)) = false := by simp; omega
  obtain ⟨ba, oa, hA⟩ := hA
  obtain ⟨bb, ob, hB⟩ := hB
  have HL := Lib.hid hl
  have hl1 : a.length ≤ b.length := by omega
  have hl2 : b.length ≤ a.length := by omega
  clear hl
  go_enter Try.func34, Try.ntmps34
  go_wp2_with fail
  go_loopw [13] (fun v wr => ∃ k : Nat, k ≤ a.length ∧ v = .int .i64 k ∧ Hid (a.take k = b.take k) ∧ Below w.heap.size w wr) (fun v _ => a.length - (intOf v).toNat)
  case atStart => exact ⟨0, Nat.zero_le _, rfl, Lib.hid (by simp), Below.refl _ _⟩
  case round =>
    obtain ⟨k, hk, rfl, HI, hw⟩ := hrel
    by_cases hlt : k < a.length
    · obtain ⟨x, hx⟩ := get_lt hlt
      obtain ⟨y, hy⟩ := get_lt (show k < b.length by omega)
      obtain ⟨rfl, hba, ⟨x0, x1, x2⟩, _⟩ := hA k x hx
      obtain ⟨rfl, hbb, ⟨y0, y1, y2⟩, _⟩ := hB k y hy
      have x0' := x0.now hw
      have y0' := y0.now hw
      have x1' := x1.now hw
      have y1' := y1.now hw
      have x2' := x2.now hw
      have y2' := y2.now hw
      have HX := Lib.hid hx
      have HY := Lib.hid hy
      have hlt2 : k < b.length := by omega
      clear hA hB hx hy x0 y0 x1 y1 x2 y2
      by_cases hxy : x = y
      · have HXY := Lib.hid hxy
        have hn : decide (x = y) = true := by simp [hxy]
        have hs := same_piece x y
        rw [hn] at hs
        have hgd := guard_piece
        clear hxy
        go_wp2_with fail
        go_quiet (fail)
        go_wp2
        go_roundw
        case rel => exact ⟨k + 1, by omega, by go_num, Lib.hid (take_step HX.out HY.out HI.out HXY.out), below_drewN hw _⟩
        case measure => simp [intOf]; omega
      · have HXY := Lib.hid hxy
        have hn : decide (x = y) = false := by simp [hxy]
        have hs := same_piece x y
        rw [hn] at hs
        have hgd := guard_piece
        clear hxy
        go_wp2_with fail
        go_quiet (fail)
        go_wp2
        go_ret
        exact ⟨ret_bool (by symm; simp; exact ne_of_get HX.out HY.out HXY.out), below_drewN hw _⟩
    · go_wp2_with fail
      go_ret
      exact ⟨ret_bool (by symm; simp; exact take_eq_of HL.out (by omega) HI.out), hw⟩

theorem fields_ivl : Try.prog.underlying 25 = some (.struct (Try.prog.fieldsOf 25)) := by kernel_rfl
theorem guard_ivl : Try.prog.eqGuardType Try.prog.depth 25 = false := by kernel_rfl
theorem held_ivl : Try.prog.stoodInHeld 25 = false := by kernel_rfl
theorem same_ivl (x y : IvlD) (w : World) : (Op.equalIn 10000 25 (ivlV x) (ivlV y)).run Try.prog w = .ok (decide (x = y)) w := by
  have e : decide (x = y) = decide (x.f = y.f ∧ x.t = y.t) := by rw [decide_eq_decide]; cases x; cases y; simp
  rw [e, run_equalIn_agg w 9999 25 _ _ fields_ivl held_ivl]
  have hf : (Try.prog.fieldsOf 25).toList = (match Try.prog.underlying 25 with | some (.struct fs) => fs.toList | _ => []) := by kernel_rfl
  rw [hf, Try.underlying25]
  simp [Op.eqFields, go_sem]
  by_cases hf : x.f = y.f <;> by_cases ht : x.t = y.t <;> simp [*]
set_option maxHeartbeats 1000000 in
theorem equalIvls_any (A B : Option Addr) (c d : Nat) (a b : List IvlD) (w : World) (hA : SlAt RIvl 2 w A a) (hB : SlAt RIvl 2 w B b) (ha : a.length ≤ maxLen) (hb : b.length ≤ maxLen) :
    Calls Try.prog 22 #[.slice A a.length c, .slice B b.length d] w fun e w' => e = .returned (.bool (decide (a = b))) ∧ Below w.heap.size w w' := by
  unfold maxLen at ha hb
  by_cases hl : a.length = b.length
  case neg =>
    have hne : ((a.length : Int) != (b.length : Int)) = true := by simp; omega
    go_enter Try.func22, Try.ntmps22
    go_wp2_with fail
    go_ret
    exact ⟨ret_bool (by symm; simp; intro h; exact hl (by rw [h])), Below.refl _ _⟩
  have hne : ((a.length : Int) != (b.length : Int)) = false := by simp; omega
  obtain ⟨ba, oa, hA⟩ := hA
  obtain ⟨bb, ob, hB⟩ := hB
  have HL := Lib.hid hl
  have hl1 : a.length ≤ b.length := by omega
  have hl2 : b.length ≤ a.length := by omega
  clear hl
  go_enter Try.func22, Try.ntmps22
  go_wp2_with fail
  go_loopw [13] (fun v wr => ∃ k : Nat, k ≤ a.length ∧ v = .int .i64 k ∧ Hid (a.take k = b.take k) ∧ Below w.heap.size w wr) (fun v _ => a.length - (intOf v).toNat)
  case atStart => exact ⟨0, Nat.zero_le _, rfl, Lib.hid (by simp), Below.refl _ _⟩
  case round =>
    obtain ⟨k, hk, rfl, HI, hw⟩ := hrel
    by_cases hlt : k < a.length
    · obtain ⟨x, hx⟩ := get_lt hlt
      obtain ⟨y, hy⟩ := get_lt (show k < b.length by omega)
      obtain ⟨rfl, hba, ⟨x0, x1⟩, _⟩ := hA k x hx
      obtain ⟨rfl, hbb, ⟨y0, y1⟩, _⟩ := hB k y hy
      have x0' := x0.now hw
      have y0' := y0.now hw
      have x1' := x1.now hw
      have y1' := y1.now hw
      have HX := Lib.hid hx
      have HY := Lib.hid hy
      have hlt2 : k < b.length := by omega
      clear hA hB hx hy x0 y0 x1 y1
      by_cases hxy : x = y
      · have HXY := Lib.hid hxy
        have hn : decide (x = y) = true := by simp [hxy]
        have hs := same_ivl x y
        rw [hn] at hs
        have hgd := guard_ivl
        clear hxy
        go_wp2_with fail
        go_quiet (fail)
        go_wp2
        go_roundw
        case rel => exact ⟨k + 1, by omega, by go_num, Lib.hid (take_step HX.out HY.out HI.out HXY.out), below_drewN hw _⟩
        case measure => simp [intOf]; omega
      · have HXY := Lib.hid hxy
        have hn : decide (x = y) = false := by simp [hxy]
        have hs := same_ivl x y
        rw [hn] at hs
        have hgd := guard_ivl
        clear hxy
        go_wp2_with fail
        go_quiet (fail)
        go_wp2
        go_ret
        exact ⟨ret_bool (by symm; simp; exact ne_of_get HX.out HY.out HXY.out), below_drewN hw _⟩
    · go_wp2_with fail
      go_ret
      exact ⟨ret_bool (by symm; simp; exact take_eq_of HL.out (by omega) HI.out), hw⟩
end Go.Proofs.Ytcfachfldanddaa
