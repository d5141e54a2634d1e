/- The walks of the library's slices.Equal, at hops, ints, bools and lives. -/
import Derived.Test.YtcgnalpcbcpmkaaSmall
import Derived.Test.YtcgnalpcbcpmkaaKeep
import Derived.Laws.StructEq
namespace Go.Proofs.Ytcgnalpcbcpmkaa
open Go.RowKit

theorem take_eq_of {α : Type} {a b : List α} (hl : a.length = b.length) {k : Nat} (hk : a.length ≤ k) (h : a.take k = b.take k) : a = b := by
  rwa [List.take_of_length_le hk, List.take_of_length_le (by omega)] at h
theorem take_step {α : Type} {a b : List α} {k : Nat} {x y : α} (hx : a[k]? = some x) (hy : b[k]? = some y) (h : a.take k = b.take k) (hxy : x = y) : a.take (k + 1) = b.take (k + 1) := by
  rw [List.take_add_one, List.take_add_one, hx, hy, h, hxy]
theorem ne_of_get {α : Type} {a b : List α} {k : Nat} {x y : α} (hx : a[k]? = some x) (hy : b[k]? = some y) (hxy : ¬ x = y) : ¬ a = b := by
  rintro rfl
  rw [hx] at hy
  exact hxy (by simpa using hy)

set_option maxHeartbeats 1000000 in
theorem equalInts_any (A B : Option Addr) (c d : Nat) (a b : List Int) (w : World) (hA : SlAt RInt 1 w A a) (hB : SlAt RInt 1 w B b) (ha : a.length ≤ maxLen) (hb : b.length ≤ maxLen) :
    Calls Try.prog 51 #[.slice A a.length c, .slice B b.length d] w fun e w' => e = .returned (.bool (decide (a = b))) ∧ Below w.heap.size w w' := by
  unfold maxLen at ha hb
  by_cases hl : a.length = b.length
  case neg =>
    have hne : ((a.length : Int) != (b.length : Int)) = true := by simp; omega
    go_enter Try.func51, Try.ntmps51
    go_wp2_with fail
    go_ret
    exact ⟨ret_bool (by symm; simp; intro h; exact hl (by rw [h])), Below.refl _ _⟩
  have hne : ((a.length : Int) != (b.length : Int)) = false := by simp; omega
  obtain ⟨ba, oa, hA⟩ := hA
  obtain ⟨bb, ob, hB⟩ := hB
  have HL := Lib.hid hl
  have hl1 : a.length ≤ b.length := by omega
  have hl2 : b.length ≤ a.length := by omega
  clear hl
  go_enter Try.func51, Try.ntmps51
  go_wp2_with fail
  go_loopw [13] (fun v wr => ∃ k : Nat, k ≤ a.length ∧ v = .int .i64 k ∧ Hid (a.take k = b.take k) ∧ Below w.heap.size w wr) (fun v _ => a.length - (intOf v).toNat)
  case atStart => exact ⟨0, Nat.zero_le _, rfl, Lib.hid (by simp), Below.refl _ _⟩
  case round =>
    obtain ⟨k, hk, rfl, HI, hw⟩ := hrel
    by_cases hlt : k < a.length
    · obtain ⟨x, hx⟩ := get_lt hlt
      obtain ⟨y, hy⟩ := get_lt (show k < b.length by omega)
      obtain ⟨rfl, hba, x0, _⟩ := hA k x hx
      obtain ⟨rfl, hbb, y0, _⟩ := hB k y hy
      have x1 := x0.now hw
      have y1 := y0.now hw
      simp only [Nat.mul_one] at x1 y1
      have HX := Lib.hid hx
      have HY := Lib.hid hy
      have hlt2 : k < b.length := by omega
      clear hA hB hx hy x0 y0
      by_cases hxy : x = y
      · have HXY := Lib.hid hxy
        have hn : (x != y) = false := by simp [hxy]
        clear hxy
        go_wp2_with fail
        go_quiet (fail)
        go_wp2
        go_roundw
        case rel => exact ⟨k + 1, by omega, by go_num, Lib.hid (take_step HX.out HY.out HI.out HXY.out), below_drewN hw _⟩
        case measure => simp [intOf]; omega
      · have HXY := Lib.hid hxy
        have hn : (x != y) = true := by simp [hxy]
        clear hxy
        go_wp2_with fail
        go_quiet (fail)
        go_wp2
        go_ret
        exact ⟨ret_bool (by symm; simp; exact ne_of_get HX.out HY.out HXY.out), below_drewN hw _⟩
    · go_wp2_with fail
      go_ret
      exact ⟨ret_bool (by symm; simp; exact take_eq_of HL.out (by omega) HI.out), hw⟩

abbrev ivlV (x : IvlD) : Value := .agg #[.int .i64 x.f, .int .i64 x.t]
theorem fields_hop : Try.prog.underlying 46 = some (.struct (Try.prog.fieldsOf 46)) := by kernel_rfl
theorem guard_hop : Try.prog.eqGuardType Try.prog.depth 46 = false := by kernel_rfl
theorem held_hop : Try.prog.stoodInHeld 46 = false := by kernel_rfl
theorem same_hop (x y : HopD) (w : World) : (Op.equalIn 10000 46 (hopV x) (hopV y)).run Try.prog w = .ok (decide (x = y)) w := by
  have e : decide (x = y) = decide (x.edge = y.edge ∧ x.depart = y.depart) := by rw [decide_eq_decide]; cases x; cases y; simp
  rw [e, run_equalIn_agg w 9999 46 _ _ fields_hop held_hop]
  have hf : (Try.prog.fieldsOf 46).toList = (match Try.prog.underlying 46 with | some (.struct fs) => fs.toList | _ => []) := by kernel_rfl
  rw [hf, Try.underlying46]
  simp [Op.eqFields, go_sem]
  by_cases hedge : x.edge = y.edge <;> by_cases hdepart : x.depart = y.depart <;> simp [*]
set_option maxHeartbeats 1000000 in
theorem equalHops_any (A B : Option Addr) (c d : Nat) (a b : List HopD) (w : World) (hA : SlAt RHop 2 w A a) (hB : SlAt RHop 2 w B b) (ha : a.length ≤ maxLen) (hb : b.length ≤ maxLen) :
    Calls Try.prog 41 #[.slice A a.length c, .slice B b.length d] w fun e w' => e = .returned (.bool (decide (a = b))) ∧ Below w.heap.size w w' := by
  unfold maxLen at ha hb
  by_cases hl : a.length = b.length
  case neg =>
    have hne : ((a.length : Int) != (b.length : Int)) = true := by simp; omega
    go_enter Try.func41, Try.ntmps41
    go_wp2_with fail
    go_ret
    exact ⟨ret_bool (by symm; simp; intro h; exact hl (by rw [h])), Below.refl _ _⟩
  have hne : ((a.length : Int) != (b.length : Int)) = false := by simp; omega
  obtain ⟨ba, oa, hA⟩ := hA
  obtain ⟨bb, ob, hB⟩ := hB
  have HL := Lib.hid hl
  have hl1 : a.length ≤ b.length := by omega
  have hl2 : b.length ≤ a.length := by omega
  clear hl
  go_enter Try.func41, Try.ntmps41
  go_wp2_with fail
  go_loopw [13] (fun v wr => ∃ k : Nat, k ≤ a.length ∧ v = .int .i64 k ∧ Hid (a.take k = b.take k) ∧ Below w.heap.size w wr) (fun v _ => a.length - (intOf v).toNat)
  case atStart => exact ⟨0, Nat.zero_le _, rfl, Lib.hid (by simp), Below.refl _ _⟩
  case round =>
    obtain ⟨k, hk, rfl, HI, hw⟩ := hrel
    by_cases hlt : k < a.length
    · obtain ⟨x, hx⟩ := get_lt hlt
      obtain ⟨y, hy⟩ := get_lt (show k < b.length by omega)
      obtain ⟨rfl, hba, ⟨x0, x1⟩, _⟩ := hA k x hx
      obtain ⟨rfl, hbb, ⟨y0, y1⟩, _⟩ := hB k y hy
      have x0' := x0.now hw
      have y0' := y0.now hw
      have x1' := x1.now hw
      have y1' := y1.now hw
      have HX := Lib.hid hx
      have HY := Lib.hid hy
      have hlt2 : k < b.length := by omega
      clear hA hB hx hy x0 y0 x1 y1
      by_cases hxy : x = y
      · have HXY := Lib.hid hxy
        have hn : decide (x = y) = true := by simp [hxy]
        have hs := same_hop x y
        rw [hn] at hs
        have hgd := guard_hop
        clear hxy
        go_wp2_with fail
        go_quiet (fail)
        go_wp2
        go_roundw
        case rel => exact ⟨k + 1, by omega, by go_num, Lib.hid (take_step HX.out HY.out HI.out HXY.out), below_drewN hw _⟩
        case measure => simp [intOf]; omega
      · have HXY := Lib.hid hxy
        have hn : decide (x = y) = false := by simp [hxy]
        have hs := same_hop x y
        rw [hn] at hs
        have hgd := guard_hop
        clear hxy
        go_wp2_with fail
        go_quiet (fail)
        go_wp2
        go_ret
        exact ⟨ret_bool (by symm; simp; exact ne_of_get HX.out HY.out HXY.out), below_drewN hw _⟩
    · go_wp2_with fail
      go_ret
      exact ⟨ret_bool (by symm; simp; exact take_eq_of HL.out (by omega) HI.out), hw⟩

theorem fields_ivl : Try.prog.underlying 110 = some (.struct (Try.prog.fieldsOf 110)) := by kernel_rfl
theorem guard_ivl : Try.prog.eqGuardType Try.prog.depth 110 = false := by kernel_rfl
theorem held_ivl : Try.prog.stoodInHeld 110 = false := by kernel_rfl
theorem same_ivl (x y : IvlD) (w : World) : (Op.equalIn 10000 110 (ivlV x) (ivlV y)).run Try.prog w = .ok (decide (x = y)) w := by
  have e : decide (x = y) = decide (x.f = y.f ∧ x.t = y.t) := by rw [decide_eq_decide]; cases x; cases y; simp
  rw [e, run_equalIn_agg w 9999 110 _ _ fields_ivl held_ivl]
  have hf : (Try.prog.fieldsOf 110).toList = (match Try.prog.underlying 110 with | some (.struct fs) => fs.toList | _ => []) := by kernel_rfl
  rw [hf, Try.underlying110]
  simp [Op.eqFields, go_sem]
  by_cases hf : x.f = y.f <;> by_cases ht : x.t = y.t <;> simp [*]
set_option maxHeartbeats 1000000 in
theorem equalIvls_any (A B : Option Addr) (c d : Nat) (a b : List IvlD) (w : World) (hA : SlAt RIvl 2 w A a) (hB : SlAt RIvl 2 w B b) (ha : a.length ≤ maxLen) (hb : b.length ≤ maxLen) :
    Calls Try.prog 88 #[.slice A a.length c, .slice B b.length d] w fun e w' => e = .returned (.bool (decide (a = b))) ∧ Below w.heap.size w w' := by
  unfold maxLen at ha hb
  by_cases hl : a.length = b.length
  case neg =>
    have hne : ((a.length : Int) != (b.length : Int)) = true := by simp; omega
    go_enter Try.func88, Try.ntmps88
    go_wp2_with fail
    go_ret
    exact ⟨ret_bool (by symm; simp; intro h; exact hl (by rw [h])), Below.refl _ _⟩
  have hne : ((a.length : Int) != (b.length : Int)) = false := by simp; omega
  obtain ⟨ba, oa, hA⟩ := hA
  obtain ⟨bb, ob, hB⟩ := hB
  have HL := Lib.hid hl
  have hl1 : a.length ≤ b.length := by omega
  have hl2 : b.length ≤ a.length := by omega
  clear hl
  go_enter Try.func88, Try.ntmps88
  go_wp2_with fail
  go_loopw [13] (fun v wr => ∃ k : Nat, k ≤ a.length ∧ v = .int .i64 k ∧ Hid (a.take k = b.take k) ∧ Below w.heap.size w wr) (fun v _ => a.length - (intOf v).toNat)
  case atStart => exact ⟨0, Nat.zero_le _, rfl, Lib.hid (by simp), Below.refl _ _⟩
  case round =>
    obtain ⟨k, hk, rfl, HI, hw⟩ := hrel
    by_cases hlt : k < a.length
    · obtain ⟨x, hx⟩ := get_lt hlt
      obtain ⟨y, hy⟩ := get_lt (show k < b.length by omega)
      obtain ⟨rfl, hba, ⟨x0, x1⟩, _⟩ := hA k x hx
      obtain ⟨rfl, hbb, ⟨y0, y1⟩, _⟩ := hB k y hy
      have x0' := x0.now hw
      have y0' := y0.now hw
      have x1' := x1.now hw
      have y1' := y1.now hw
      have HX := Lib.hid hx
      have HY := Lib.hid hy
      have hlt2 : k < b.length := by omega
      clear hA hB hx hy x0 y0 x1 y1
      by_cases hxy : x = y
      · have HXY := Lib.hid hxy
        have hn : decide (x = y) = true := by simp [hxy]
        have hs := same_ivl x y
        rw [hn] at hs
        have hgd := guard_ivl
        clear hxy
        go_wp2_with fail
        go_quiet (fail)
        go_wp2
        go_roundw
        case rel => exact ⟨k + 1, by omega, by go_num, Lib.hid (take_step HX.out HY.out HI.out HXY.out), below_drewN hw _⟩
        case measure => simp [intOf]; omega
      · have HXY := Lib.hid hxy
        have hn : decide (x = y) = false := by simp [hxy]
        have hs := same_ivl x y
        rw [hn] at hs
        have hgd := guard_ivl
        clear hxy
        go_wp2_with fail
        go_quiet (fail)
        go_wp2
        go_ret
        exact ⟨ret_bool (by symm; simp; exact ne_of_get HX.out HY.out HXY.out), below_drewN hw _⟩
    · go_wp2_with fail
      go_ret
      exact ⟨ret_bool (by symm; simp; exact take_eq_of HL.out (by omega) HI.out), hw⟩

theorem fields_leg : Try.prog.underlying 114 = some (.struct (Try.prog.fieldsOf 114)) := by kernel_rfl
theorem guard_leg : Try.prog.eqGuardType Try.prog.depth 114 = false := by kernel_rfl
theorem held_leg : Try.prog.stoodInHeld 114 = false := by kernel_rfl
theorem same_leg (x y : LegD) (w : World) : (Op.equalIn 10000 114 (legV x) (legV y)).run Try.prog w = .ok (decide (x = y)) w := by
  have e : decide (x = y) = decide (x.f = y.f ∧ x.t = y.t ∧ x.time = y.time ∧ x.cost = y.cost) := by rw [decide_eq_decide]; cases x; cases y; simp
  rw [e, run_equalIn_agg w 9999 114 _ _ fields_leg held_leg]
  have hf : (Try.prog.fieldsOf 114).toList = (match Try.prog.underlying 114 with | some (.struct fs) => fs.toList | _ => []) := by kernel_rfl
  rw [hf, Try.underlying114]
  simp [Op.eqFields, go_sem]
  by_cases hf : x.f = y.f <;> by_cases ht : x.t = y.t <;> by_cases htime : x.time = y.time <;> by_cases hcost : x.cost = y.cost <;> simp [*]
set_option maxHeartbeats 1000000 in
theorem equalLegs_any (A B : Option Addr) (c d : Nat) (a b : List LegD) (w : World) (hA : SlAt RLeg 4 w A a) (hB : SlAt RLeg 4 w B b) (ha : a.length ≤ maxLen) (hb : b.length ≤ maxLen) :
    Calls Try.prog 109 #[.slice A a.length c, .slice B b.length d] w fun e w' => e = .returned (.bool (decide (a = b))) ∧ Below w.heap.size w w' := by
  unfold maxLen at ha hb
  by_cases hl : a.length = b.length
  case neg =>
    have hne : ((a.length : Int) != (b.length : Int)) = true := by simp; omega
    go_enter Try.func109, Try.ntmps109
    go_wp2_with fail
    go_ret
    exact ⟨ret_bool (by symm; simp; intro h; exact hl (by rw [h])), Below.refl _ _⟩
  have hne : ((a.length : Int) != (b.length : Int)) = false := by simp; omega
  obtain ⟨ba, oa, hA⟩ := hA
  obtain ⟨bb, ob, hB⟩ := hB
  have HL := Lib.hid hl
  have hl1 : a.length ≤ b.length := by omega
  have hl2 : b.length ≤ a.length := by omega
  clear hl
  go_enter Try.func109, Try.ntmps109
  go_wp2_with fail
  go_loopw [13] (fun v wr => ∃ k : Nat, k ≤ a.length ∧ v = .int .i64 k ∧ Hid (a.take k = b.take k) ∧ Below w.heap.size w wr) (fun v _ => a.length - (intOf v).toNat)
  case atStart => exact ⟨0, Nat.zero_le _, rfl, Lib.hid (by simp), Below.refl _ _⟩
  case round =>
    obtain ⟨k, hk, rfl, HI, hw⟩ := hrel
    by_cases hlt : k < a.length
    · obtain ⟨x, hx⟩ := get_lt hlt
      obtain ⟨y, hy⟩ := get_lt (show k < b.length by omega)
      obtain ⟨rfl, hba, ⟨x0, x1, x2, x3⟩, _⟩ := hA k x hx
      obtain ⟨rfl, hbb, ⟨y0, y1, y2, y3⟩, _⟩ := hB k y hy
      have x0' := x0.now hw
      have y0' := y0.now hw
      have x1' := x1.now hw
      have y1' := y1.now hw
      have x2' := x2.now hw
      have y2' := y2.now hw
      have x3' := x3.now hw
      have y3' := y3.now hw
      have HX := Lib.hid hx
      have HY := Lib.hid hy
      have hlt2 : k < b.length := by omega
      clear hA hB hx hy x0 y0 x1 y1 x2 y2 x3 y3
      by_cases hxy : x = y
      · have HXY := Lib.hid hxy
        have hn : decide (x = y) = true := by simp [hxy]
        have hs := same_leg x y
        rw [hn] at hs
        have hgd := guard_leg
        clear hxy
        go_wp2_with fail
        go_quiet (fail)
        go_wp2
        go_roundw
        case rel => exact ⟨k + 1, by omega, by go_num, Lib.hid (take_step HX.out HY.out HI.out HXY.out), below_drewN hw _⟩
        case measure => simp [intOf]; omega
      · have HXY := Lib.hid hxy
        have hn : decide (x = y) = false := by simp [hxy]
        have hs := same_leg x y
        rw [hn] at hs
        have hgd := guard_leg
        clear hxy
        go_wp2_with fail
        go_quiet (fail)
        go_wp2
        go_ret
        exact ⟨ret_bool (by symm; simp; exact ne_of_get HX.out HY.out HXY.out), below_drewN hw _⟩
    · go_wp2_with fail
      go_ret
      exact ⟨ret_bool (by symm; simp; exact take_eq_of HL.out (by omega) HI.out), hw⟩
set_option maxHeartbeats 1000000 in
theorem equalBools_any (A B : Option Addr) (c d : Nat) (a b : List Bool) (w : World) (hA : SlAt RBool 1 w A a) (hB : SlAt RBool 1 w B b) (ha : a.length ≤ maxLen) (hb : b.length ≤ maxLen) :
    Calls Try.prog 80 #[.slice A a.length c, .slice B b.length d] w fun e w' => e = .returned (.bool (decide (a = b))) ∧ Below w.heap.size w w' := by
  unfold maxLen at ha hb
  by_cases hl : a.length = b.length
  case neg =>
    have hne : ((a.length : Int) != (b.length : Int)) = true := by simp; omega
    go_enter Try.func80, Try.ntmps80
    go_wp2_with fail
    go_ret
    exact ⟨ret_bool (by symm; simp; intro h; exact hl (by rw [h])), Below.refl _ _⟩
  have hne : ((a.length : Int) != (b.length : Int)) = false := by simp; omega
  obtain ⟨ba, oa, hA⟩ := hA
  obtain ⟨bb, ob, hB⟩ := hB
  have HL := Lib.hid hl
  have hl1 : a.length ≤ b.length := by omega
  have hl2 : b.length ≤ a.length := by omega
  clear hl
  go_enter Try.func80, Try.ntmps80
  go_wp2_with fail
  go_loopw [13] (fun v wr => ∃ k : Nat, k ≤ a.length ∧ v = .int .i64 k ∧ Hid (a.take k = b.take k) ∧ Below w.heap.size w wr) (fun v _ => a.length - (intOf v).toNat)
  case atStart => exact ⟨0, Nat.zero_le _, rfl, Lib.hid (by simp), Below.refl _ _⟩
  case round =>
    obtain ⟨k, hk, rfl, HI, hw⟩ := hrel
    by_cases hlt : k < a.length
    · obtain ⟨x, hx⟩ := get_lt hlt
      obtain ⟨y, hy⟩ := get_lt (show k < b.length by omega)
      obtain ⟨rfl, hba, x0⟩ := hA k x hx
      obtain ⟨rfl, hbb, y0⟩ := hB k y hy
      have x1 := x0.now hw
      have y1 := y0.now hw
      simp only [Nat.mul_one] at x1 y1
      have HX := Lib.hid hx
      have HY := Lib.hid hy
      have hlt2 : k < b.length := by omega
      clear hA hB hx hy x0 y0
      by_cases hxy : x = y
      · have HXY := Lib.hid hxy
        have hn : (x == y) = true := by simp [hxy]
        clear hxy
        go_wp2_with fail
        go_quiet (fail)
        go_wp2
        go_roundw
        case rel => exact ⟨k + 1, by omega, by go_num, Lib.hid (take_step HX.out HY.out HI.out HXY.out), below_drewN hw _⟩
        case measure => simp [intOf]; omega
      · have HXY := Lib.hid hxy
        have hn : (x == y) = false := by simp [hxy]
        clear hxy
        go_wp2_with fail
        go_quiet (fail)
        go_wp2
        go_ret
        exact ⟨ret_bool (by symm; simp; exact ne_of_get HX.out HY.out HXY.out), below_drewN hw _⟩
    · go_wp2_with fail
      go_ret
      exact ⟨ret_bool (by symm; simp; exact take_eq_of HL.out (by omega) HI.out), hw⟩
end Go.Proofs.Ytcgnalpcbcpmkaa
