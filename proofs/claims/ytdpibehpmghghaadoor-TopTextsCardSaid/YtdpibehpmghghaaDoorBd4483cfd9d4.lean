/- Several texts in one: Equal, Pair, PairEarly, WrapS. -/
import Derived.Laws.StructEq
import Derived.Handed
import Derived.HandedShaped
import Derived.Shelf.Vars
import Derived.Lay
import Derived.Test.YtdpibehpmghghaaDoorBd3ad2f3bfb1
import Derived.Test.YtdpibehpmghghaaDoorBd6508cabd72
import Derived.Test.YtdpibehpmghghaaDoorBdffd9fa4e74
import Derived.Test.YtdpibehpmghghaaDoorBd4cd4eeb2ba
import Derived.Test.YtdpibehpmghghaaDoorBd53b4668c73
import Derived.Test.YtdpibehpmghghaaDoorBd2d2933bc1a
/- The walks of the library's slices.Equal, at hops, ints, bools and lives. -/
namespace Go.Proofs.YtdpibehpmghghaaDoor
open Go.RowKit

theorem take_eq_ofA {α : Type} {a b : List α} (hl : a.length = b.length) {k : Nat} (hk : a.length ≤ k) (h : a.take k = b.take k) : a = b := by
  rwa [List.take_of_length_le hk, List.take_of_length_le (by omega)] at h
theorem take_stepA {α : Type} {a b : List α} {k : Nat} {x y : α} (hx : a[k]? = some x) (hy : b[k]? = some y) (h : a.take k = b.take k) (hxy : x = y) : a.take (k + 1) = b.take (k + 1) := by
  rw [List.take_add_one, List.take_add_one, hx, hy, h, hxy]
theorem ne_of_getA {α : Type} {a b : List α} {k : Nat} {x y : α} (hx : a[k]? = some x) (hy : b[k]? = some y) (hxy : ¬ x = y) : ¬ a = b := by
  rintro rfl
  rw [hx] at hy
  exact hxy (by simpa using hy)

set_option maxHeartbeats 1000000 in
theorem equalInts_anyA (A B : Option Addr) (c d : Nat) (a b : List Int) (w : World) (hA : SlAt RInt 1 w A a) (hB : SlAt RInt 1 w B b) (ha : a.length ≤ maxLen) (_ : b.length ≤ maxLen) :
    Calls Tryd.prog 22 #[.slice A a.length c, .slice B b.length d] w fun e w' => e = .returned (.bool (decide (a = b))) ∧ Below w.heap.size w w' := by
  unfold maxLen at ha
  by_cases hl : a.length = b.length
  case neg =>
    have hne : ((a.length : Int) != (b.length : Int)) = true := by simp; omega
    go_enter Tryd.func22, Tryd.ntmps22
    go_wp2_with fail
    go_ret
    exact ⟨ret_bool (by symm; simp; intro h; exact hl (by rw [h])), Below.refl _ _⟩
  have hne : ((a.length : Int) != (b.length : Int)) = false := by simp; omega
  obtain ⟨ba, oa, hA⟩ := hA
  obtain ⟨bb, ob, hB⟩ := hB
  have HL := Lib.hid hl
  have hl1 : a.length ≤ b.length := by omega
  have hl2 : b.length ≤ a.length := by omega
  clear hl
  go_enter Tryd.func22, Tryd.ntmps22
  go_wp2_with fail
  go_loopw [13] (fun v wr => ∃ k : Nat, k ≤ a.length ∧ v = .int .i64 k ∧ Hid (a.take k = b.take k) ∧ Below w.heap.size w wr) (fun v _ => a.length - (intOf v).toNat)
  case atStart => exact ⟨0, Nat.zero_le _, rfl, Lib.hid (by simp), Below.refl _ _⟩
  case round =>
    obtain ⟨k, hk, rfl, HI, hw⟩ := hrel
    by_cases hlt : k < a.length
    · obtain ⟨x, hx⟩ := get_lt hlt
      obtain ⟨y, hy⟩ := get_lt (show k < b.length by omega)
      obtain ⟨rfl, hba, x0, _⟩ := hA k x hx
      obtain ⟨rfl, hbb, y0, _⟩ := hB k y hy
      have x1 := x0.now hw
      have y1 := y0.now hw
      simp only [Nat.mul_one] at x1 y1
      have HX := Lib.hid hx
      have HY := Lib.hid hy
      have hlt2 : k < b.length := by omega
      clear hA hB hx hy x0 y0
      by_cases hxy : x = y
      · have HXY := Lib.hid hxy
        have hn : (x != y) = false := by simp [hxy]
        clear hxy
        go_wp2_with fail
        go_quiet (fail)
        go_wp2
        go_roundw
        case rel => exact ⟨k + 1, by omega, by go_num, Lib.hid (take_stepA HX.out HY.out HI.out HXY.out), below_drewN hw _⟩
        case measure => simp [intOf]; omega
      · have HXY := Lib.hid hxy
        have hn : (x != y) = true := by simp [hxy]
        clear hxy
        go_wp2_with fail
        go_quiet (fail)
        go_wp2
        go_ret
        exact ⟨ret_bool (by symm; simp; exact ne_of_getA HX.out HY.out HXY.out), below_drewN hw _⟩
    · go_wp2_with fail
      go_ret
      exact ⟨ret_bool (by symm; simp; exact take_eq_ofA HL.out (by omega) HI.out), hw⟩

abbrev ivlVA (x : IvlD) : Value := .agg #[.int .i64 x.f, .int .i64 x.t]
theorem fields_hop : Tryd.prog.underlying 110 = some (.struct (Tryd.prog.fieldsOf 110)) := by kernel_rfl
theorem guard_hop : Tryd.prog.eqGuardType Tryd.prog.depth 110 = false := by kernel_rfl
theorem held_hop : Tryd.prog.stoodInHeld 110 = false := by kernel_rfl
theorem same_hop (x y : HopD) (w : World) : (Op.equalIn 10000 110 (hopV x) (hopV y)).run Tryd.prog w = .ok (decide (x = y)) w := by
  have e : decide (x = y) = decide (x.edge = y.edge ∧ x.depart = y.depart) := by rw [decide_eq_decide]; cases x; cases y; simp
  rw [e, run_equalIn_agg w 9999 110 _ _ fields_hop held_hop]
  have hf : (Tryd.prog.fieldsOf 110).toList = (match Tryd.prog.underlying 110 with | some (.struct fs) => fs.toList | _ => []) := by kernel_rfl
  rw [hf, Tryd.underlying110]
  simp [Op.eqFields, go_sem]
  by_cases hedge : x.edge = y.edge <;> by_cases hdepart : x.depart = y.depart <;> simp [*]
set_option maxHeartbeats 1000000 in
theorem equalHops_any (A B : Option Addr) (c d : Nat) (a b : List HopD) (w : World) (hA : SlAt RHop 2 w A a) (hB : SlAt RHop 2 w B b) (ha : a.length ≤ maxLen) (_ : b.length ≤ maxLen) :
    Calls Tryd.prog 53 #[.slice A a.length c, .slice B b.length d] w fun e w' => e = .returned (.bool (decide (a = b))) ∧ Below w.heap.size w w' := by
  unfold maxLen at ha
  by_cases hl : a.length = b.length
  case neg =>
    have hne : ((a.length : Int) != (b.length : Int)) = true := by simp; omega
    go_enter Tryd.func53, Tryd.ntmps53
    go_wp2_with fail
    go_ret
    exact ⟨ret_bool (by symm; simp; intro h; exact hl (by rw [h])), Below.refl _ _⟩
  have hne : ((a.length : Int) != (b.length : Int)) = false := by simp; omega
  obtain ⟨ba, oa, hA⟩ := hA
  obtain ⟨bb, ob, hB⟩ := hB
  have HL := Lib.hid hl
  have hl1 : a.length ≤ b.length := by omega
  have hl2 : b.length ≤ a.length := by omega
  clear hl
  go_enter Tryd.func53, Tryd.ntmps53
  go_wp2_with fail
  go_loopw [13] (fun v wr => ∃ k : Nat, k ≤ a.length ∧ v = .int .i64 k ∧ Hid (a.take k = b.take k) ∧ Below w.heap.size w wr) (fun v _ => a.length - (intOf v).toNat)
  case atStart => exact ⟨0, Nat.zero_le _, rfl, Lib.hid (by simp), Below.refl _ _⟩
  case round =>
    obtain ⟨k, hk, rfl, HI, hw⟩ := hrel
    by_cases hlt : k < a.length
    · obtain ⟨x, hx⟩ := get_lt hlt
      obtain ⟨y, hy⟩ := get_lt (show k < b.length by omega)
      obtain ⟨rfl, hba, ⟨x0, x1⟩, _⟩ := hA k x hx
      obtain ⟨rfl, hbb, ⟨y0, y1⟩, _⟩ := hB k y hy
      have x0' := x0.now hw
      have y0' := y0.now hw
      have x1' := x1.now hw
      have y1' := y1.now hw
      have HX := Lib.hid hx
      have HY := Lib.hid hy
      have hlt2 : k < b.length := by omega
      clear hA hB hx hy x0 y0 x1 y1
      by_cases hxy : x = y
      · have HXY := Lib.hid hxy
        have hn : decide (x = y) = true := by simp [hxy]
        have hs := same_hop x y
        rw [hn] at hs
        have hgd := guard_hop
        clear hxy
        go_wp2_with fail
        go_quiet (fail)
        go_wp2
        go_roundw
        case rel => exact ⟨k + 1, by omega, by go_num, Lib.hid (take_stepA HX.out HY.out HI.out HXY.out), below_drewN hw _⟩
        case measure => simp [intOf]; omega
      · have HXY := Lib.hid hxy
        have hn : decide (x = y) = false := by simp [hxy]
        have hs := same_hop x y
        rw [hn] at hs
        have hgd := guard_hop
        clear hxy
        go_wp2_with fail
        go_quiet (fail)
        go_wp2
        go_ret
        exact ⟨ret_bool (by symm; simp; exact ne_of_getA HX.out HY.out HXY.out), below_drewN hw _⟩
    · go_wp2_with fail
      go_ret
      exact ⟨ret_bool (by symm; simp; exact take_eq_ofA HL.out (by omega) HI.out), hw⟩

theorem fields_ivlA : Tryd.prog.underlying 49 = some (.struct (Tryd.prog.fieldsOf 49)) := by kernel_rfl
theorem guard_ivlA : Tryd.prog.eqGuardType Tryd.prog.depth 49 = false := by kernel_rfl
theorem held_ivlA : Tryd.prog.stoodInHeld 49 = false := by kernel_rfl
theorem same_ivlA (x y : IvlD) (w : World) : (Op.equalIn 10000 49 (ivlVA x) (ivlVA y)).run Tryd.prog w = .ok (decide (x = y)) w := by
  have e : decide (x = y) = decide (x.f = y.f ∧ x.t = y.t) := by rw [decide_eq_decide]; cases x; cases y; simp
  rw [e, run_equalIn_agg w 9999 49 _ _ fields_ivlA held_ivlA]
  have hf : (Tryd.prog.fieldsOf 49).toList = (match Tryd.prog.underlying 49 with | some (.struct fs) => fs.toList | _ => []) := by kernel_rfl
  rw [hf, Tryd.underlying49]
  simp [Op.eqFields, go_sem]
  by_cases hf : x.f = y.f <;> by_cases ht : x.t = y.t <;> simp [*]
set_option maxHeartbeats 1000000 in
theorem equalIvls_anyA (A B : Option Addr) (c d : Nat) (a b : List IvlD) (w : World) (hA : SlAt RIvl 2 w A a) (hB : SlAt RIvl 2 w B b) (ha : a.length ≤ maxLen) (_ : b.length ≤ maxLen) :
    Calls Tryd.prog 46 #[.slice A a.length c, .slice B b.length d] w fun e w' => e = .returned (.bool (decide (a = b))) ∧ Below w.heap.size w w' := by
  unfold maxLen at ha
  by_cases hl : a.length = b.length
  case neg =>
    have hne : ((a.length : Int) != (b.length : Int)) = true := by simp; omega
    go_enter Tryd.func46, Tryd.ntmps46
    go_wp2_with fail
    go_ret
    exact ⟨ret_bool (by symm; simp; intro h; exact hl (by rw [h])), Below.refl _ _⟩
  have hne : ((a.length : Int) != (b.length : Int)) = false := by simp; omega
  obtain ⟨ba, oa, hA⟩ := hA
  obtain ⟨bb, ob, hB⟩ := hB
  have HL := Lib.hid hl
  have hl1 : a.length ≤ b.length := by omega
  have hl2 : b.length ≤ a.length := by omega
  clear hl
  go_enter Tryd.func46, Tryd.ntmps46
  go_wp2_with fail
  go_loopw [13] (fun v wr => ∃ k : Nat, k ≤ a.length ∧ v = .int .i64 k ∧ Hid (a.take k = b.take k) ∧ Below w.heap.size w wr) (fun v _ => a.length - (intOf v).toNat)
  case atStart => exact ⟨0, Nat.zero_le _, rfl, Lib.hid (by simp), Below.refl _ _⟩
  case round =>
    obtain ⟨k, hk, rfl, HI, hw⟩ := hrel
    by_cases hlt : k < a.length
    · obtain ⟨x, hx⟩ := get_lt hlt
      obtain ⟨y, hy⟩ := get_lt (show k < b.length by omega)
      obtain ⟨rfl, hba, ⟨x0, x1⟩, _⟩ := hA k x hx
      obtain ⟨rfl, hbb, ⟨y0, y1⟩, _⟩ := hB k y hy
      have x0' := x0.now hw
      have y0' := y0.now hw
      have x1' := x1.now hw
      have y1' := y1.now hw
      have HX := Lib.hid hx
      have HY := Lib.hid hy
      have hlt2 : k < b.length := by omega
      clear hA hB hx hy x0 y0 x1 y1
      by_cases hxy : x = y
      · have HXY := Lib.hid hxy
        have hn : decide (x = y) = true := by simp [hxy]
        have hs := same_ivlA x y
        rw [hn] at hs
        have hgd := guard_ivlA
        clear hxy
        go_wp2_with fail
        go_quiet (fail)
        go_wp2
        go_roundw
        case rel => exact ⟨k + 1, by omega, by go_num, Lib.hid (take_stepA HX.out HY.out HI.out HXY.out), below_drewN hw _⟩
        case measure => simp [intOf]; omega
      · have HXY := Lib.hid hxy
        have hn : decide (x = y) = false := by simp [hxy]
        have hs := same_ivlA x y
        rw [hn] at hs
        have hgd := guard_ivlA
        clear hxy
        go_wp2_with fail
        go_quiet (fail)
        go_wp2
        go_ret
        exact ⟨ret_bool (by symm; simp; exact ne_of_getA HX.out HY.out HXY.out), below_drewN hw _⟩
    · go_wp2_with fail
      go_ret
      exact ⟨ret_bool (by symm; simp; exact take_eq_ofA HL.out (by omega) HI.out), hw⟩

theorem fields_leg : Tryd.prog.underlying 76 = some (.struct (Tryd.prog.fieldsOf 76)) := by kernel_rfl
theorem guard_leg : Tryd.prog.eqGuardType Tryd.prog.depth 76 = false := by kernel_rfl
theorem held_leg : Tryd.prog.stoodInHeld 76 = false := by kernel_rfl
theorem same_leg (x y : LegD) (w : World) : (Op.equalIn 10000 76 (legV x) (legV y)).run Tryd.prog w = .ok (decide (x = y)) w := by
  have e : decide (x = y) = decide (x.f = y.f ∧ x.t = y.t ∧ x.time = y.time ∧ x.cost = y.cost) := by rw [decide_eq_decide]; cases x; cases y; simp
  rw [e, run_equalIn_agg w 9999 76 _ _ fields_leg held_leg]
  have hf : (Tryd.prog.fieldsOf 76).toList = (match Tryd.prog.underlying 76 with | some (.struct fs) => fs.toList | _ => []) := by kernel_rfl
  rw [hf, Tryd.underlying76]
  simp [Op.eqFields, go_sem]
  by_cases hf : x.f = y.f <;> by_cases ht : x.t = y.t <;> by_cases htime : x.time = y.time <;> by_cases hcost : x.cost = y.cost <;> simp [*]
set_option maxHeartbeats 1000000 in
theorem equalLegs_any (A B : Option Addr) (c d : Nat) (a b : List LegD) (w : World) (hA : SlAt RLeg 4 w A a) (hB : SlAt RLeg 4 w B b) (ha : a.length ≤ maxLen) (_ : b.length ≤ maxLen) :
    Calls Tryd.prog 49 #[.slice A a.length c, .slice B b.length d] w fun e w' => e = .returned (.bool (decide (a = b))) ∧ Below w.heap.size w w' := by
  unfold maxLen at ha
  by_cases hl : a.length = b.length
  case neg =>
    have hne : ((a.length : Int) != (b.length : Int)) = true := by simp; omega
    go_enter Tryd.func49, Tryd.ntmps49
    go_wp2_with fail
    go_ret
    exact ⟨ret_bool (by symm; simp; intro h; exact hl (by rw [h])), Below.refl _ _⟩
  have hne : ((a.length : Int) != (b.length : Int)) = false := by simp; omega
  obtain ⟨ba, oa, hA⟩ := hA
  obtain ⟨bb, ob, hB⟩ := hB
  have HL := Lib.hid hl
  have hl1 : a.length ≤ b.length := by omega
  have hl2 : b.length ≤ a.length := by omega
  clear hl
  go_enter Tryd.func49, Tryd.ntmps49
  go_wp2_with fail
  go_loopw [13] (fun v wr => ∃ k : Nat, k ≤ a.length ∧ v = .int .i64 k ∧ Hid (a.take k = b.take k) ∧ Below w.heap.size w wr) (fun v _ => a.length - (intOf v).toNat)
  case atStart => exact ⟨0, Nat.zero_le _, rfl, Lib.hid (by simp), Below.refl _ _⟩
  case round =>
    obtain ⟨k, hk, rfl, HI, hw⟩ := hrel
    by_cases hlt : k < a.length
    · obtain ⟨x, hx⟩ := get_lt hlt
      obtain ⟨y, hy⟩ := get_lt (show k < b.length by omega)
      obtain ⟨rfl, hba, ⟨x0, x1, x2, x3⟩, _⟩ := hA k x hx
      obtain ⟨rfl, hbb, ⟨y0, y1, y2, y3⟩, _⟩ := hB k y hy
      have x0' := x0.now hw
      have y0' := y0.now hw
      have x1' := x1.now hw
      have y1' := y1.now hw
      have x2' := x2.now hw
      have y2' := y2.now hw
      have x3' := x3.now hw
      have y3' := y3.now hw
      have HX := Lib.hid hx
      have HY := Lib.hid hy
      have hlt2 : k < b.length := by omega
      clear hA hB hx hy x0 y0 x1 y1 x2 y2 x3 y3
      by_cases hxy : x = y
      · have HXY := Lib.hid hxy
        have hn : decide (x = y) = true := by simp [hxy]
        have hs := same_leg x y
        rw [hn] at hs
        have hgd := guard_leg
        clear hxy
        go_wp2_with fail
        go_quiet (fail)
        go_wp2
        go_roundw
        case rel => exact ⟨k + 1, by omega, by go_num, Lib.hid (take_stepA HX.out HY.out HI.out HXY.out), below_drewN hw _⟩
        case measure => simp [intOf]; omega
      · have HXY := Lib.hid hxy
        have hn : decide (x = y) = false := by simp [hxy]
        have hs := same_leg x y
        rw [hn] at hs
        have hgd := guard_leg
        clear hxy
        go_wp2_with fail
        go_quiet (fail)
        go_wp2
        go_ret
        exact ⟨ret_bool (by symm; simp; exact ne_of_getA HX.out HY.out HXY.out), below_drewN hw _⟩
    · go_wp2_with fail
      go_ret
      exact ⟨ret_bool (by symm; simp; exact take_eq_ofA HL.out (by omega) HI.out), hw⟩
set_option maxHeartbeats 1000000 in
theorem equalBools_any (A B : Option Addr) (c d : Nat) (a b : List Bool) (w : World) (hA : SlAt RBool 1 w A a) (hB : SlAt RBool 1 w B b) (ha : a.length ≤ maxLen) (_ : b.length ≤ maxLen) :
    Calls Tryd.prog 15 #[.slice A a.length c, .slice B b.length d] w fun e w' => e = .returned (.bool (decide (a = b))) ∧ Below w.heap.size w w' := by
  unfold maxLen at ha
  by_cases hl : a.length = b.length
  case neg =>
    have hne : ((a.length : Int) != (b.length : Int)) = true := by simp; omega
    go_enter Tryd.func15, Tryd.ntmps15
    go_wp2_with fail
    go_ret
    exact ⟨ret_bool (by symm; simp; intro h; exact hl (by rw [h])), Below.refl _ _⟩
  have hne : ((a.length : Int) != (b.length : Int)) = false := by simp; omega
  obtain ⟨ba, oa, hA⟩ := hA
  obtain ⟨bb, ob, hB⟩ := hB
  have HL := Lib.hid hl
  have hl1 : a.length ≤ b.length := by omega
  have hl2 : b.length ≤ a.length := by omega
  clear hl
  go_enter Tryd.func15, Tryd.ntmps15
  go_wp2_with fail
  go_loopw [13] (fun v wr => ∃ k : Nat, k ≤ a.length ∧ v = .int .i64 k ∧ Hid (a.take k = b.take k) ∧ Below w.heap.size w wr) (fun v _ => a.length - (intOf v).toNat)
  case atStart => exact ⟨0, Nat.zero_le _, rfl, Lib.hid (by simp), Below.refl _ _⟩
  case round =>
    obtain ⟨k, hk, rfl, HI, hw⟩ := hrel
    by_cases hlt : k < a.length
    · obtain ⟨x, hx⟩ := get_lt hlt
      obtain ⟨y, hy⟩ := get_lt (show k < b.length by omega)
      obtain ⟨rfl, hba, x0⟩ := hA k x hx
      obtain ⟨rfl, hbb, y0⟩ := hB k y hy
      have x1 := x0.now hw
      have y1 := y0.now hw
      simp only [Nat.mul_one] at x1 y1
      have HX := Lib.hid hx
      have HY := Lib.hid hy
      have hlt2 : k < b.length := by omega
      clear hA hB hx hy x0 y0
      by_cases hxy : x = y
      · have HXY := Lib.hid hxy
        have hn : (x == y) = true := by simp [hxy]
        clear hxy
        go_wp2_with fail
        go_quiet (fail)
        go_wp2
        go_roundw
        case rel => exact ⟨k + 1, by omega, by go_num, Lib.hid (take_stepA HX.out HY.out HI.out HXY.out), below_drewN hw _⟩
        case measure => simp [intOf]; omega
      · have HXY := Lib.hid hxy
        have hn : (x == y) = false := by simp [hxy]
        clear hxy
        go_wp2_with fail
        go_quiet (fail)
        go_wp2
        go_ret
        exact ⟨ret_bool (by symm; simp; exact ne_of_getA HX.out HY.out HXY.out), below_drewN hw _⟩
    · go_wp2_with fail
      go_ret
      exact ⟨ret_bool (by symm; simp; exact take_eq_ofA HL.out (by omega) HI.out), hw⟩
end Go.Proofs.YtdpibehpmghghaaDoor
/- The walks of small things that the keeping laws begin with: the graph of a pair, the rest of a division, a hop among others, goes. -/
namespace Go.Proofs.YtdpibehpmghghaaDoor
open Go.RowKit

def pairG : GraphD := ⟨10, [⟨0, 10⟩, ⟨2, 9⟩], [⟨0, 1, [⟨1, 4, 3, 7⟩]⟩]⟩
def GraphOut (g : GraphD) (w : World) (e : Ending) (w' : World) : Prop := ∃ A c A' c', e = .returned (gV A c A' c' g) ∧ GraphAt w' A c A' c' g ∧ Below w.heap.size w w'
theorem slAt1 {α : Type} {R : World → Nat → Nat → α → Prop} {sz : Nat} {w : World} {b : Nat} {x : α} (hb : b < w.heap.size) (h : R w b 0 x) : SlAt R sz w (some ⟨b, 0, none⟩) [x] :=
  ⟨b, 0, fun i y hy => by
    cases i with
    | zero =>
      obtain rfl : x = y := by simpa using hy
      exact ⟨rfl, hb, by simpa using h⟩
    | succ i => simp at hy⟩
theorem slAt2 {α : Type} {R : World → Nat → Nat → α → Prop} {sz : Nat} {w : World} {b : Nat} {x y : α} (hb : b < w.heap.size) (h : R w b 0 x) (h2 : R w b sz y) : SlAt R sz w (some ⟨b, 0, none⟩) [x, y] :=
  ⟨b, 0, fun i z hz => by
    match i, hz with
    | 0, hz =>
      obtain rfl : x = z := by simpa using hz
      exact ⟨rfl, hb, by simpa using h⟩
    | 1, hz =>
      obtain rfl : y = z := by simpa using hz
      exact ⟨rfl, hb, by simpa using h2⟩
    | i + 2, hz => simp at hz⟩

end Go.Proofs.YtdpibehpmghghaaDoor
/- The earliest and the latest times of the pair; no program in sight. -/
namespace Go.Proofs.YtdpibehpmghghaaDoor

theorem pair_valid : Valid pairG := valid_of (by decide)
theorem pair_early {l : List Int} (h : EarlyL pairG 0 0 l) : l = [0, 4] := by
  have hV := pair_valid
  have hx := hV.edges ⟨0, 1, [⟨1, 4, 3, 7⟩]⟩ (by simp [pairG])
  refine h.eq ⟨rfl, ⟨fun i => ?_, ?_⟩, fun e he i => ?_⟩
  · match i with
    | 0 => decide
    | 1 => decide
    | n + 2 => rw [gi_far (by simp), startE_far (by simp [pairG])]; exact Int.le_refl _
  · intro x hx
    obtain ⟨y, hy, rfl⟩ := mem_arcsE.1 hx
    simp [pairG] at hy
    subst hy
    decide
  · have h0 := he.1 0
    have h1 := he.2 (arcE pairG ⟨0, 1, [⟨1, 4, 3, 7⟩]⟩) (mem_arcsE.2 ⟨_, by simp [pairG], rfl⟩)
    have e0 : gi (startE pairG 0 0) 0 = 0 := by decide
    rw [e0] at h0
    have h2 := earlyF_mono hV hx (e 0) 0 h0
    have e1 : earlyF pairG ⟨0, 1, [⟨1, 4, 3, 7⟩]⟩ 0 = 4 := by decide
    rw [e1] at h2
    simp only [arcE] at h1
    match i with
    | 0 => show e 0 ≤ 0; omega
    | 1 => show e 1 ≤ 4; exact Int.le_trans h1 h2
    | n + 2 =>
      have := he.1 (n + 2)
      rw [startE_far (by simp [pairG])] at this
      rw [gi_far (by simp)]
      exact this
theorem pair_late {l : List Int} (h : LateL pairG 1 5 l) : l = [2, 5] := by
  have hV := pair_valid
  have hx := hV.edges ⟨0, 1, [⟨1, 4, 3, 7⟩]⟩ (by simp [pairG])
  refine h.eq ⟨rfl, ⟨fun i => ?_, ?_⟩, fun e he i => ?_⟩
  · match i with
    | 0 => decide
    | 1 => decide
    | n + 2 => show - gi [2, 5] (n + 2) ≤ - gi (startL pairG 1 5) (n + 2); rw [gi_far (by simp), startL_far (by simp [pairG])]; exact Int.le_refl _
  · intro x hx
    obtain ⟨y, hy, rfl⟩ := mem_arcsD.1 hx
    simp [pairG] at hy
    subst hy
    decide
  · have h0 := he.1 1
    have h1 := he.2 (arcD pairG ⟨0, 1, [⟨1, 4, 3, 7⟩]⟩) (mem_arcsD.2 ⟨_, by simp [pairG], rfl⟩)
    have e0 : - gi (startL pairG 1 5) 1 = -5 := by decide
    have h0 : e 1 ≤ -5 := by rw [← e0]; exact h0
    have h2 := lastT_mono (s := 5) (t := - e 1) hV hx (by omega)
    have e1 : lastT pairG ⟨0, 1, [⟨1, 4, 3, 7⟩]⟩ 5 = 2 := by decide
    rw [e1] at h2
    simp only [arcD] at h1
    match i with
    | 0 => show e 0 ≤ -2; exact Int.le_trans h1 (by show - lastT pairG ⟨0, 1, [⟨1, 4, 3, 7⟩]⟩ (- e 1) ≤ -2; omega)
    | 1 => show e 1 ≤ -5; omega
    | n + 2 =>
      have : e (n + 2) ≤ - gi (startL pairG 1 5) (n + 2) := he.1 (n + 2)
      rw [startL_far (by simp [pairG])] at this
      show e (n + 2) ≤ - gi [2, 5] (n + 2)
      rw [gi_far (by simp)]
      exact this
end Go.Proofs.YtdpibehpmghghaaDoor
/- The wrap of a row that lists tables, the world's shape kept; the variable MaxLen holds some int. -/
namespace Go.Proofs.YtdpibehpmghghaaDoor
open Go.ChangeShapes Go.WideShapes Go.ChangeAt Go.RowKit
variable {H : Type} {enc : TypeId × Value → H}
theorem returnsInHanded_and_shaped {a : Assume} {C : Checked} {os : Os} {f : FuncId} {fn : Func} {s : ChangeSpec} {conds : List PathCond} {apart fresh handsOn again : Bool} {X : World → Array Value → Prop}
    (hX : ∀ (w w' : World) (args : Array Value), w.heap = w'.heap → X w args → X w' args)
    (own : ownKnob C.prog.godebug = none) (started : os.Started) (noInit : C.prog.inits.idxOf? f = none) (hfn : C.prog.funcs[f]? = some fn)
    (witness : ∃ (w : World) (tape : Tape) (i : Input), w.os = os ∧ (w.forCall tape i).Shaped C.prog ∧ i.vars = [] ∧ Input.okWide C.prog (w.forCall tape i) .any w.heap.size f i ∧
      ((s.pre enc C.prog fn conds apart (w.forCall tape i).memory i.args ∧ X (w.forCall tape i).memory i.args) ∧ sizedMet enc C.prog fn (OpenSpec.ofChange s) apart (w.forCall tape i).memory i.args) ∧ a.holds C.prog (lone (Frame.enter C.prog f i.args .normal) [] (w.forCall tape i)))
    (contract : ∀ (W : World) (base : Nat) (args : Array Value) (ds gs : List (DataW H)) (before : List MemPlace),
      (∀ (j : Nat) t v, fn.params[j]? = some t → args[j]? = some v → Value.okWide C.prog W .any base t v) →
      DataW.Whole enc C.prog fn.params.toList s.vars apart W args.toList ds gs before →
      conds.all (PathCond.test C.prog ⟨fn.params.toList, ds, s.plain.varTypes C.prog, gs⟩) = true →
      (DataW.weightsEach C.prog (fn.params.toList ++ s.plain.varTypes C.prog) (ds ++ gs)).all (· ≤ reachBytes) = true → X W args → W.ShapedOpen C.prog →
      a.holds C.prog (lone (Frame.enter C.prog f args .normal) [] W) →
      Calls C.prog f args W fun e W' => ∃ v, e = .returned v ∧ s.post enc C.prog fn apart fresh handsOn again W args v W') :
    ReturnsInHanded a C os f .any (fun w args => (s.pre enc C.prog fn conds apart w args ∧ X w args) ∧ sizedMet enc C.prog fn (OpenSpec.ofChange s) apart w args) (s.post enc C.prog fn apart fresh handsOn again) := by
  refine returnsInHanded_of_calls own started noInit witness ?_
  intro w tape i _ hsh _ hok hpre hholds
  obtain ⟨_, _, _, fn', hfn', _, _, _, _, hval⟩ := hok
  have e : fn' = fn := Option.some.inj (hfn'.symm.trans hfn)
  subst e
  obtain ⟨⟨⟨ds, gs, before, hw, hc⟩, hx⟩, hz⟩ := hpre
  have hw' := DataW.Whole.of_heap (w' := w.forCall tape i) (by rfl) hw
  refine (contract (w.forCall tape i) w.heap.size i.args ds gs before hval hw' hc (hz.weights hw) (hX _ _ _ (by rfl) hx) hsh hholds).mono fun e W' ⟨v, he, hp⟩ => ?_
  subst he
  exact ChangeSpec.post_blind hp
theorem maxLen_of {W : World} (h : W.ShapedOpen Tryd.prog) : MaxL W :=
  cell_of_shapedOpen_int (k := .i64) (t := 3) (zero := #[.int .i64 0]) h (of_decide_eq_true (by kernel_rfl)) (by kernel_rfl) rfl (by kernel_rfl) (by kernel_rfl) Tryd.underlying3
end Go.Proofs.YtdpibehpmghghaaDoor
