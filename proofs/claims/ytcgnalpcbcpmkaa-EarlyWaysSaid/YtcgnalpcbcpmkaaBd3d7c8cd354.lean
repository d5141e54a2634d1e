/- Several texts in one: Equal, Pair, PairEarly. -/
import Derived.Laws.StructEq
import Derived.Test.YtcgnalpcbcpmkaaBd62db7b8b90
import Derived.Test.YtcgnalpcbcpmkaaBd298c705468
import Derived.Test.YtcgnalpcbcpmkaaBd87da4791cb
import Derived.Test.YtcgnalpcbcpmkaaBdde16ed6342
/- The walks of the library's slices.Equal, at hops, ints, bools and lives. -/
namespace Go.Proofs.Ytcgnalpcbcpmkaa
open Go.RowKit

theorem take_eq_of {α : Type} {a b : List α} (hl : a.length = b.length) {k : Nat} (hk : a.length ≤ k) (h : a.take k = b.take k) : a = b := by
  rwa [List.take_of_length_le hk, List.take_of_length_le (by omega)] at h
theorem take_step {α : Type} {a b : List α} {k : Nat} {x y : α} (hx : a[k]? = some x) (hy : b[k]? = some y) (h : a.take k = b.take k) (hxy : x = y) : a.take (k + 1) = b.take (k + 1) := by
  rw [List.take_add_one, List.take_add_one, hx, hy, h, hxy]
theorem ne_of_get {α : Type} {a b : List α} {k : Nat} {x y : α} (hx : a[k]? = some x) (hy : b[k]? = some y) (hxy : ¬ x = y) : ¬ a = b := by
  rintro rfl
  rw [hx] at hy
  exact hxy (by simpa using hy)

set_option maxHeartbeats 1000000 in
theorem equalInts_any (A B : Option Addr) (c d : Nat) (a b : List Int) (w : World) (hA : SlAt RInt 1 w A a) (hB : SlAt RInt 1 w B b) (ha : a.length ≤ maxLen) (_ : b.length ≤ maxLen) :
    Calls Try.prog 51 #[.slice A a.length c, .slice B b.length d] w fun e w' => e = .returned (.bool (decide (a = b))) ∧ Below w.heap.size w w' := by
  unfold maxLen at ha
  by_cases hl : a.length = b.length
  case neg =>
    have hne : ((a.length : Int) != (b.length : Int)) = true := by simp; omega
    go_enter Try.func51, Try.ntmps51
    go_wp2_with fail
    go_ret
    exact ⟨ret_bool (by symm; simp; intro h; exact hl (by rw [h])), Below.refl _ _⟩
  have hne : ((a.length : Int) != (b.length : Int)) = false := by simp; omega
  obtain ⟨ba, oa, hA⟩ := hA
  obtain ⟨bb, ob, hB⟩ := hB
  have HL := Lib.hid hl
  have hl1 : a.length ≤ b.length := by omega
  have hl2 : b.length ≤ a.length := by omega
  clear hl
  go_enter Try.func51, Try.ntmps51
  go_wp2_with fail
  go_loopw [13] (fun v wr => ∃ k : Nat, k ≤ a.length ∧ v = .int .i64 k ∧ Hid (a.take k = b.take k) ∧ Below w.heap.size w wr) (fun v _ => a.length - (intOf v).toNat)
  case atStart => exact ⟨0, Nat.zero_le _, rfl, Lib.hid (by simp), Below.refl _ _⟩
  case round =>
    obtain ⟨k, hk, rfl, HI, hw⟩ := hrel
    by_cases hlt : k < a.length
    · obtain ⟨x, hx⟩ := get_lt hlt
      obtain ⟨y, hy⟩ := get_lt (show k < b.length by omega)
      obtain ⟨rfl, hba, x0, _⟩ := hA k x hx
      obtain ⟨rfl, hbb, y0, _⟩ := hB k y hy
      have x1 := x0.now hw
      have y1 := y0.now hw
      simp only [Nat.mul_one] at x1 y1
      have HX := Lib.hid hx
      have HY := Lib.hid hy
      have hlt2 : k < b.length := by omega
      clear hA hB hx hy x0 y0
      by_cases hxy : x = y
      · have HXY := Lib.hid hxy
        have hn : (x != y) = false := by simp [hxy]
        clear hxy
        go_wp2_with fail
        go_quiet (fail)
        go_wp2
        go_roundw
        case rel => exact ⟨k + 1, by omega, by go_num, Lib.hid (take_step HX.out HY.out HI.out HXY.out), below_drewN hw _⟩
        case measure => simp [intOf]; omega
      · have HXY := Lib.hid hxy
        have hn : (x != y) = true := by simp [hxy]
        clear hxy
        go_wp2_with fail
        go_quiet (fail)
        go_wp2
        go_ret
        exact ⟨ret_bool (by symm; simp; exact ne_of_get HX.out HY.out HXY.out), below_drewN hw _⟩
    · go_wp2_with fail
      go_ret
      exact ⟨ret_bool (by symm; simp; exact take_eq_of HL.out (by omega) HI.out), hw⟩

abbrev ivlV (x : IvlD) : Value := .agg #[.int .i64 x.f, .int .i64 x.t]
theorem fields_hop : Try.prog.underlying 46 = some (.struct (Try.prog.fieldsOf 46)) := by kernel_rfl
theorem guard_hop : Try.prog.eqGuardType Try.prog.depth 46 = false := by kernel_rfl
theorem held_hop : Try.prog.stoodInHeld 46 = false := by kernel_rfl
theorem same_hop (x y : HopD) (w : World) : (Op.equalIn 10000 46 (hopV x) (hopV y)).run Try.prog w = .ok (decide (x = y)) w := by
  have e : decide (x = y) = decide (x.edge = y.edge ∧ x.depart = y.depart) := by rw [decide_eq_decide]; cases x; cases y; simp
  rw [e, run_equalIn_agg w 9999 46 _ _ fields_hop held_hop]
  have hf : (Try.prog.fieldsOf 46).toList = (match Try.prog.underlying 46 with | some (.struct fs) => fs.toList | _ => []) := by kernel_rfl
  rw [hf, Try.underlying46]
  simp [Op.eqFields, go_sem]
  by_cases hedge : x.edge = y.edge <;> by_cases hdepart : x.depart = y.depart <;> simp [*]
set_option maxHeartbeats 1000000 in
theorem equalHops_any (A B : Option Addr) (c d : Nat) (a b : List HopD) (w : World) (hA : SlAt RHop 2 w A a) (hB : SlAt RHop 2 w B b) (ha : a.length ≤ maxLen) (_ : b.length ≤ maxLen) :
    Calls Try.prog 41 #[.slice A a.length c, .slice B b.length d] w fun e w' => e = .returned (.bool (decide (a = b))) ∧ Below w.heap.size w w' := by
  unfold maxLen at ha
  by_cases hl : a.length = b.length
  case neg =>
    have hne : ((a.length : Int) != (b.length : Int)) = true := by simp; omega
    go_enter Try.func41, Try.ntmps41
    go_wp2_with fail
    go_ret
    exact ⟨ret_bool (by symm; simp; intro h; exact hl (by rw [h])), Below.refl _ _⟩
  have hne : ((a.length : Int) != (b.length : Int)) = false := by simp; omega
  obtain ⟨ba, oa, hA⟩ := hA
  obtain ⟨bb, ob, hB⟩ := hB
  have HL := Lib.hid hl
  have hl1 : a.length ≤ b.length := by omega
  have hl2 : b.length ≤ a.length := by omega
  clear hl
  go_enter Try.func41, Try.ntmps41
  go_wp2_with fail
  go_loopw [13] (fun v wr => ∃ k : Nat, k ≤ a.length ∧ v = .int .i64 k ∧ Hid (a.take k = b.take k) ∧ Below w.heap.size w wr) (fun v _ => a.length - (intOf v).toNat)
  case atStart => exact ⟨0, Nat.zero_le _, rfl, Lib.hid (by simp), Below.refl _ _⟩
  case round =>
    obtain ⟨k, hk, rfl, HI, hw⟩ := hrel
    by_cases hlt : k < a.length
    · obtain ⟨x, hx⟩ := get_lt hlt
      obtain ⟨y, hy⟩ := get_lt (show k < b.length by omega)
      obtain ⟨rfl, hba, ⟨x0, x1⟩, _⟩ := hA k x hx
      obtain ⟨rfl, hbb, ⟨y0, y1⟩, _⟩ := hB k y hy
      have x0' := x0.now hw
      have y0' := y0.now hw
      have x1' := x1.now hw
      have y1' := y1.now hw
      have HX := Lib.hid hx
      have HY := Lib.hid hy
      have hlt2 : k < b.length := by omega
      clear hA hB hx hy x0 y0 x1 y1
      by_cases hxy : x = y
      · have HXY := Lib.hid hxy
        have hn : decide (x = y) = true := by simp [hxy]
        have hs := same_hop x y
        rw [hn] at hs
        have hgd := guard_hop
        clear hxy
        go_wp2_with fail
        go_quiet (fail)
        go_wp2
        go_roundw
        case rel => exact ⟨k + 1, by omega, by go_num, Lib.hid (take_step HX.out HY.out HI.out HXY.out), below_drewN hw _⟩
        case measure => simp [intOf]; omega
      · have HXY := Lib.hid hxy
        have hn : decide (x = y) = false := by simp [hxy]
        have hs := same_hop x y
        rw [hn] at hs
        have hgd := guard_hop
        clear hxy
        go_wp2_with fail
        go_quiet (fail)
        go_wp2
        go_ret
        exact ⟨ret_bool (by symm; simp; exact ne_of_get HX.out HY.out HXY.out), below_drewN hw _⟩
    · go_wp2_with fail
      go_ret
      exact ⟨ret_bool (by symm; simp; exact take_eq_of HL.out (by omega) HI.out), hw⟩

theorem fields_ivl : Try.prog.underlying 110 = some (.struct (Try.prog.fieldsOf 110)) := by kernel_rfl
theorem guard_ivl : Try.prog.eqGuardType Try.prog.depth 110 = false := by kernel_rfl
theorem held_ivl : Try.prog.stoodInHeld 110 = false := by kernel_rfl
theorem same_ivl (x y : IvlD) (w : World) : (Op.equalIn 10000 110 (ivlV x) (ivlV y)).run Try.prog w = .ok (decide (x = y)) w := by
  have e : decide (x = y) = decide (x.f = y.f ∧ x.t = y.t) := by rw [decide_eq_decide]; cases x; cases y; simp
  rw [e, run_equalIn_agg w 9999 110 _ _ fields_ivl held_ivl]
  have hf : (Try.prog.fieldsOf 110).toList = (match Try.prog.underlying 110 with | some (.struct fs) => fs.toList | _ => []) := by kernel_rfl
  rw [hf, Try.underlying110]
  simp [Op.eqFields, go_sem]
  by_cases hf : x.f = y.f <;> by_cases ht : x.t = y.t <;> simp [*]
set_option maxHeartbeats 1000000 in
theorem equalIvls_any (A B : Option Addr) (c d : Nat) (a b : List IvlD) (w : World) (hA : SlAt RIvl 2 w A a) (hB : SlAt RIvl 2 w B b) (ha : a.length ≤ maxLen) (_ : b.length ≤ maxLen) :
    Calls Try.prog 88 #[.slice A a.length c, .slice B b.length d] w fun e w' => e = .returned (.bool (decide (a = b))) ∧ Below w.heap.size w w' := by
  unfold maxLen at ha
  by_cases hl : a.length = b.length
  case neg =>
    have hne : ((a.length : Int) != (b.length : Int)) = true := by simp; omega
    go_enter Try.func88, Try.ntmps88
    go_wp2_with fail
    go_ret
    exact ⟨ret_bool (by symm; simp; intro h; exact hl (by rw [h])), Below.refl _ _⟩
  have hne : ((a.length : Int) != (b.length : Int)) = false := by simp; omega
  obtain ⟨ba, oa, hA⟩ := hA
  obtain ⟨bb, ob, hB⟩ := hB
  have HL := Lib.hid hl
  have hl1 : a.length ≤ b.length := by omega
  have hl2 : b.length ≤ a.length := by omega
  clear hl
  go_enter Try.func88, Try.ntmps88
  go_wp2_with fail
  go_loopw [13] (fun v wr => ∃ k : Nat, k ≤ a.length ∧ v = .int .i64 k ∧ Hid (a.take k = b.take k) ∧ Below w.heap.size w wr) (fun v _ => a.length - (intOf v).toNat)
  case atStart => exact ⟨0, Nat.zero_le _, rfl, Lib.hid (by simp), Below.refl _ _⟩
  case round =>
    obtain ⟨k, hk, rfl, HI, hw⟩ := hrel
    by_cases hlt : k < a.length
    · obtain ⟨x, hx⟩ := get_lt hlt
      obtain ⟨y, hy⟩ := get_lt (show k < b.length by omega)
      obtain ⟨rfl, hba, ⟨x0, x1⟩, _⟩ := hA k x hx
      obtain ⟨rfl, hbb, ⟨y0, y1⟩, _⟩ := hB k y hy
      have x0' := x0.now hw
      have y0' := y0.now hw
      have x1' := x1.now hw
      have y1' := y1.now hw
      have HX := Lib.hid hx
      have HY := Lib.hid hy
      have hlt2 : k < b.length := by omega
      clear hA hB hx hy x0 y0 x1 y1
      by_cases hxy : x = y
      · have HXY := Lib.hid hxy
        have hn : decide (x = y) = true := by simp [hxy]
        have hs := same_ivl x y
        rw [hn] at hs
        have hgd := guard_ivl
        clear hxy
        go_wp2_with fail
        go_quiet (fail)
        go_wp2
        go_roundw
        case rel => exact ⟨k + 1, by omega, by go_num, Lib.hid (take_step HX.out HY.out HI.out HXY.out), below_drewN hw _⟩
        case measure => simp [intOf]; omega
      · have HXY := Lib.hid hxy
        have hn : decide (x = y) = false := by simp [hxy]
        have hs := same_ivl x y
        rw [hn] at hs
        have hgd := guard_ivl
        clear hxy
        go_wp2_with fail
        go_quiet (fail)
        go_wp2
        go_ret
        exact ⟨ret_bool (by symm; simp; exact ne_of_get HX.out HY.out HXY.out), below_drewN hw _⟩
    · go_wp2_with fail
      go_ret
      exact ⟨ret_bool (by symm; simp; exact take_eq_of HL.out (by omega) HI.out), hw⟩

theorem fields_leg : Try.prog.underlying 114 = some (.struct (Try.prog.fieldsOf 114)) := by kernel_rfl
theorem guard_leg : Try.prog.eqGuardType Try.prog.depth 114 = false := by kernel_rfl
theorem held_leg : Try.prog.stoodInHeld 114 = false := by kernel_rfl
theorem same_leg (x y : LegD) (w : World) : (Op.equalIn 10000 114 (legV x) (legV y)).run Try.prog w = .ok (decide (x = y)) w := by
  have e : decide (x = y) = decide (x.f = y.f ∧ x.t = y.t ∧ x.time = y.time ∧ x.cost = y.cost) := by rw [decide_eq_decide]; cases x; cases y; simp
  rw [e, run_equalIn_agg w 9999 114 _ _ fields_leg held_leg]
  have hf : (Try.prog.fieldsOf 114).toList = (match Try.prog.underlying 114 with | some (.struct fs) => fs.toList | _ => []) := by kernel_rfl
  rw [hf, Try.underlying114]
  simp [Op.eqFields, go_sem]
  by_cases hf : x.f = y.f <;> by_cases ht : x.t = y.t <;> by_cases htime : x.time = y.time <;> by_cases hcost : x.cost = y.cost <;> simp [*]
set_option maxHeartbeats 1000000 in
theorem equalLegs_any (A B : Option Addr) (c d : Nat) (a b : List LegD) (w : World) (hA : SlAt RLeg 4 w A a) (hB : SlAt RLeg 4 w B b) (ha : a.length ≤ maxLen) (_ : b.length ≤ maxLen) :
    Calls Try.prog 109 #[.slice A a.length c, .slice B b.length d] w fun e w' => e = .returned (.bool (decide (a = b))) ∧ Below w.heap.size w w' := by
  unfold maxLen at ha
  by_cases hl : a.length = b.length
  case neg =>
    have hne : ((a.length : Int) != (b.length : Int)) = true := by simp; omega
    go_enter Try.func109, Try.ntmps109
    go_wp2_with fail
    go_ret
    exact ⟨ret_bool (by symm; simp; intro h; exact hl (by rw [h])), Below.refl _ _⟩
  have hne : ((a.length : Int) != (b.length : Int)) = false := by simp; omega
  obtain ⟨ba, oa, hA⟩ := hA
  obtain ⟨bb, ob, hB⟩ := hB
  have HL := Lib.hid hl
  have hl1 : a.length ≤ b.length := by omega
  have hl2 : b.length ≤ a.length := by omega
  clear hl
  go_enter Try.func109, Try.ntmps109
  go_wp2_with fail
  go_loopw [13] (fun v wr => ∃ k : Nat, k ≤ a.length ∧ v = .int .i64 k ∧ Hid (a.take k = b.take k) ∧ Below w.heap.size w wr) (fun v _ => a.length - (intOf v).toNat)
  case atStart => exact ⟨0, Nat.zero_le _, rfl, Lib.hid (by simp), Below.refl _ _⟩
  case round =>
    obtain ⟨k, hk, rfl, HI, hw⟩ := hrel
    by_cases hlt : k < a.length
    · obtain ⟨x, hx⟩ := get_lt hlt
      obtain ⟨y, hy⟩ := get_lt (show k < b.length by omega)
      obtain ⟨rfl, hba, ⟨x0, x1, x2, x3⟩, _⟩ := hA k x hx
      obtain ⟨rfl, hbb, ⟨y0, y1, y2, y3⟩, _⟩ := hB k y hy
      have x0' := x0.now hw
      have y0' := y0.now hw
      have x1' := x1.now hw
      have y1' := y1.now hw
      have x2' := x2.now hw
      have y2' := y2.now hw
      have x3' := x3.now hw
      have y3' := y3.now hw
      have HX := Lib.hid hx
      have HY := Lib.hid hy
      have hlt2 : k < b.length := by omega
      clear hA hB hx hy x0 y0 x1 y1 x2 y2 x3 y3
      by_cases hxy : x = y
      · have HXY := Lib.hid hxy
        have hn : decide (x = y) = true := by simp [hxy]
        have hs := same_leg x y
        rw [hn] at hs
        have hgd := guard_leg
        clear hxy
        go_wp2_with fail
        go_quiet (fail)
        go_wp2
        go_roundw
        case rel => exact ⟨k + 1, by omega, by go_num, Lib.hid (take_step HX.out HY.out HI.out HXY.out), below_drewN hw _⟩
        case measure => simp [intOf]; omega
      · have HXY := Lib.hid hxy
        have hn : decide (x = y) = false := by simp [hxy]
        have hs := same_leg x y
        rw [hn] at hs
        have hgd := guard_leg
        clear hxy
        go_wp2_with fail
        go_quiet (fail)
        go_wp2
        go_ret
        exact ⟨ret_bool (by symm; simp; exact ne_of_get HX.out HY.out HXY.out), below_drewN hw _⟩
    · go_wp2_with fail
      go_ret
      exact ⟨ret_bool (by symm; simp; exact take_eq_of HL.out (by omega) HI.out), hw⟩
set_option maxHeartbeats 1000000 in
theorem equalBools_any (A B : Option Addr) (c d : Nat) (a b : List Bool) (w : World) (hA : SlAt RBool 1 w A a) (hB : SlAt RBool 1 w B b) (ha : a.length ≤ maxLen) (_ : b.length ≤ maxLen) :
    Calls Try.prog 80 #[.slice A a.length c, .slice B b.length d] w fun e w' => e = .returned (.bool (decide (a = b))) ∧ Below w.heap.size w w' := by
  unfold maxLen at ha
  by_cases hl : a.length = b.length
  case neg =>
    have hne : ((a.length : Int) != (b.length : Int)) = true := by simp; omega
    go_enter Try.func80, Try.ntmps80
    go_wp2_with fail
    go_ret
    exact ⟨ret_bool (by symm; simp; intro h; exact hl (by rw [h])), Below.refl _ _⟩
  have hne : ((a.length : Int) != (b.length : Int)) = false := by simp; omega
  obtain ⟨ba, oa, hA⟩ := hA
  obtain ⟨bb, ob, hB⟩ := hB
  have HL := Lib.hid hl
  have hl1 : a.length ≤ b.length := by omega
  have hl2 : b.length ≤ a.length := by omega
  clear hl
  go_enter Try.func80, Try.ntmps80
  go_wp2_with fail
  go_loopw [13] (fun v wr => ∃ k : Nat, k ≤ a.length ∧ v = .int .i64 k ∧ Hid (a.take k = b.take k) ∧ Below w.heap.size w wr) (fun v _ => a.length - (intOf v).toNat)
  case atStart => exact ⟨0, Nat.zero_le _, rfl, Lib.hid (by simp), Below.refl _ _⟩
  case round =>
    obtain ⟨k, hk, rfl, HI, hw⟩ := hrel
    by_cases hlt : k < a.length
    · obtain ⟨x, hx⟩ := get_lt hlt
      obtain ⟨y, hy⟩ := get_lt (show k < b.length by omega)
      obtain ⟨rfl, hba, x0⟩ := hA k x hx
      obtain ⟨rfl, hbb, y0⟩ := hB k y hy
      have x1 := x0.now hw
      have y1 := y0.now hw
      simp only [Nat.mul_one] at x1 y1
      have HX := Lib.hid hx
      have HY := Lib.hid hy
      have hlt2 : k < b.length := by omega
      clear hA hB hx hy x0 y0
      by_cases hxy : x = y
      · have HXY := Lib.hid hxy
        have hn : (x == y) = true := by simp [hxy]
        clear hxy
        go_wp2_with fail
        go_quiet (fail)
        go_wp2
        go_roundw
        case rel => exact ⟨k + 1, by omega, by go_num, Lib.hid (take_step HX.out HY.out HI.out HXY.out), below_drewN hw _⟩
        case measure => simp [intOf]; omega
      · have HXY := Lib.hid hxy
        have hn : (x == y) = false := by simp [hxy]
        clear hxy
        go_wp2_with fail
        go_quiet (fail)
        go_wp2
        go_ret
        exact ⟨ret_bool (by symm; simp; exact ne_of_get HX.out HY.out HXY.out), below_drewN hw _⟩
    · go_wp2_with fail
      go_ret
      exact ⟨ret_bool (by symm; simp; exact take_eq_of HL.out (by omega) HI.out), hw⟩
end Go.Proofs.Ytcgnalpcbcpmkaa
/- The walks of small things that the keeping laws begin with: the graph of a pair, the rest of a division, a hop among others, goes. -/
namespace Go.Proofs.Ytcgnalpcbcpmkaa
open Go.RowKit

def pairG : GraphD := ⟨10, [⟨0, 10⟩, ⟨2, 9⟩], [⟨0, 1, [⟨1, 4, 3, 7⟩]⟩]⟩
def GraphOut (g : GraphD) (w : World) (e : Ending) (w' : World) : Prop := ∃ A c A' c', e = .returned (gV A c A' c' g) ∧ GraphAt w' A c A' c' g ∧ Below w.heap.size w w'
theorem slAt1 {α : Type} {R : World → Nat → Nat → α → Prop} {sz : Nat} {w : World} {b : Nat} {x : α} (hb : b < w.heap.size) (h : R w b 0 x) : SlAt R sz w (some ⟨b, 0, none⟩) [x] :=
  ⟨b, 0, fun i y hy => by
    cases i with
    | zero =>
      obtain rfl : x = y := by simpa using hy
      exact ⟨rfl, hb, by simpa using h⟩
    | succ i => simp at hy⟩
theorem slAt2 {α : Type} {R : World → Nat → Nat → α → Prop} {sz : Nat} {w : World} {b : Nat} {x y : α} (hb : b < w.heap.size) (h : R w b 0 x) (h2 : R w b sz y) : SlAt R sz w (some ⟨b, 0, none⟩) [x, y] :=
  ⟨b, 0, fun i z hz => by
    match i, hz with
    | 0, hz =>
      obtain rfl : x = z := by simpa using hz
      exact ⟨rfl, hb, by simpa using h⟩
    | 1, hz =>
      obtain rfl : y = z := by simpa using hz
      exact ⟨rfl, hb, by simpa using h2⟩
    | i + 2, hz => simp at hz⟩

set_option maxHeartbeats 1000000 in
theorem pair_any (w : World) : Calls Try.prog 71 #[] w (GraphOut pairG w) := by
  go_enter Try.func71, Try.ntmps71
  go_wp2
  refine bodyPost_ret (v := gV (some ⟨w.heap.size + 1, 0, none⟩) 2 (some ⟨w.heap.size + 3, 0, none⟩) 1 pairG) (by simp [results, Try.results71, go_sem, pairG]) rfl ?_
  refine ⟨some ⟨w.heap.size + 1, 0, none⟩, 2, some ⟨w.heap.size + 3, 0, none⟩, 1, rfl, ⟨by simp [I64, pairG], by simp [pairG], by simp [maxLen], by simp [pairG], by simp [maxLen], ?_, ?_⟩, by go_grown⟩
  · refine slAt2 (by simp) ?_ ?_ <;> simp [RIvl, cellIs, I64, go_sem]
  · refine slAt1 (by simp) ⟨⟨by simp [cellIs, go_sem], by simp [cellIs, go_sem], some ⟨w.heap.size + 2, 0, none⟩, 1, by simp [cellIs, go_sem], by simp, by simp [maxLen], slAt1 (by simp) (by simp [RLeg, cellIs, I64, go_sem])⟩, by simp [I64], by simp [I64]⟩

theorem rest_any (n m : Int) (w : World) (hn : I64 n) (hm : 0 < m) (hm2 : m ≤ 9223372036854775807) :
    Calls Try.prog 54 #[.int .i64 n, .int .i64 m] w fun e w' => e = .returned (.int .i64 (n % m)) ∧ w = w' := by
  obtain ⟨h0, h1⟩ := hn
  have hm0 : (m == 0) = false := by simp; omega
  have e1 : n.tmod m = if 0 ≤ n then n % m else -((-n) % m) := by
    split
    · rw [Int.tmod_eq_emod_of_nonneg (by omega)]
    · have := Int.neg_tmod (a := -n) (b := m)
      rw [Int.neg_neg] at this
      rw [this, Int.tmod_eq_emod_of_nonneg (by omega)]
  have b1 := Int.emod_nonneg n (show m ≠ 0 by omega)
  have b2 := Int.emod_lt_of_pos n hm
  have b3 := Int.emod_nonneg (-n) (show m ≠ 0 by omega)
  have b4 := Int.emod_lt_of_pos (-n) hm
  have key : n.tmod m < 0 → n.tmod m + m = n % m := by
    intro hneg
    have hn0 : ¬ 0 ≤ n := fun h => by rw [e1, if_pos h] at hneg; omega
    rw [e1, if_neg hn0] at hneg ⊢
    rw [Int.neg_emod, Int.natAbs_of_nonneg (by omega)] at hneg ⊢
    by_cases hd : m ∣ n
    · rw [if_pos hd] at hneg; omega
    · rw [if_neg hd]; omega
  have key2 : ¬ n.tmod m < 0 → n.tmod m = n % m := by
    intro hneg
    rw [e1] at hneg ⊢
    split
    · rfl
    · rename_i hn0
      rw [if_neg hn0] at hneg
      have h3 : (-n) % m = 0 := by omega
      have h4 : n % m = 0 := by
        have := Int.dvd_of_emod_eq_zero h3
        exact Int.emod_eq_zero_of_dvd (Int.dvd_neg.1 this)
      omega
  have c0 : -9223372036854775808 ≤ n.tmod m := by rw [e1]; split <;> omega
  have c1 : n.tmod m ≤ 9223372036854775807 := by rw [e1]; split <;> omega
  have K := Lib.hid key
  have K2 := Lib.hid key2
  clear key key2 e1
  generalize hq : n.tmod m = q at *
  by_cases hneg : q < 0
  · have hs := K.out hneg
    have HS := Lib.hid hs
    have hs0 : 0 ≤ q + m := by omega
    clear hs
    go_enter Try.func54, Try.ntmps54
    go_wp2
    go_ret
    exact ⟨ret_int (by rw [← HS.out]), rfl⟩
  · have HS := Lib.hid (K2.out hneg)
    go_enter Try.func54, Try.ntmps54
    go_wp2
    go_ret
    exact ⟨ret_int (by rw [← HS.out]), rfl⟩
end Go.Proofs.Ytcgnalpcbcpmkaa
/- The earliest and the latest times of the pair; no program in sight. -/
namespace Go.Proofs.Ytcgnalpcbcpmkaa

theorem pair_valid : Valid pairG := valid_of (by decide)
theorem pair_early {l : List Int} (h : EarlyL pairG 0 0 l) : l = [0, 4] := by
  have hV := pair_valid
  have hx := hV.edges ⟨0, 1, [⟨1, 4, 3, 7⟩]⟩ (by simp [pairG])
  refine h.eq ⟨rfl, ⟨fun i => ?_, ?_⟩, fun e he i => ?_⟩
  · match i with
    | 0 => decide
    | 1 => decide
    | n + 2 => rw [gi_far (by simp), startE_far (by simp [pairG])]; exact Int.le_refl _
  · intro x hx
    obtain ⟨y, hy, rfl⟩ := mem_arcsE.1 hx
    simp [pairG] at hy
    subst hy
    decide
  · have h0 := he.1 0
    have h1 := he.2 (arcE pairG ⟨0, 1, [⟨1, 4, 3, 7⟩]⟩) (mem_arcsE.2 ⟨_, by simp [pairG], rfl⟩)
    have e0 : gi (startE pairG 0 0) 0 = 0 := by decide
    rw [e0] at h0
    have h2 := earlyF_mono hV hx (e 0) 0 h0
    have e1 : earlyF pairG ⟨0, 1, [⟨1, 4, 3, 7⟩]⟩ 0 = 4 := by decide
    rw [e1] at h2
    simp only [arcE] at h1
    match i with
    | 0 => show e 0 ≤ 0; omega
    | 1 => show e 1 ≤ 4; exact Int.le_trans h1 h2
    | n + 2 =>
      have := he.1 (n + 2)
      rw [startE_far (by simp [pairG])] at this
      rw [gi_far (by simp)]
      exact this
theorem pair_late {l : List Int} (h : LateL pairG 1 5 l) : l = [2, 5] := by
  have hV := pair_valid
  have hx := hV.edges ⟨0, 1, [⟨1, 4, 3, 7⟩]⟩ (by simp [pairG])
  refine h.eq ⟨rfl, ⟨fun i => ?_, ?_⟩, fun e he i => ?_⟩
  · match i with
    | 0 => decide
    | 1 => decide
    | n + 2 => show - gi [2, 5] (n + 2) ≤ - gi (startL pairG 1 5) (n + 2); rw [gi_far (by simp), startL_far (by simp [pairG])]; exact Int.le_refl _
  · intro x hx
    obtain ⟨y, hy, rfl⟩ := mem_arcsD.1 hx
    simp [pairG] at hy
    subst hy
    decide
  · have h0 := he.1 1
    have h1 := he.2 (arcD pairG ⟨0, 1, [⟨1, 4, 3, 7⟩]⟩) (mem_arcsD.2 ⟨_, by simp [pairG], rfl⟩)
    have e0 : - gi (startL pairG 1 5) 1 = -5 := by decide
    have h0 : e 1 ≤ -5 := by rw [← e0]; exact h0
    have h2 := lastT_mono (s := 5) (t := - e 1) hV hx (by omega)
    have e1 : lastT pairG ⟨0, 1, [⟨1, 4, 3, 7⟩]⟩ 5 = 2 := by decide
    rw [e1] at h2
    simp only [arcD] at h1
    match i with
    | 0 => show e 0 ≤ -2; exact Int.le_trans h1 (by show - lastT pairG ⟨0, 1, [⟨1, 4, 3, 7⟩]⟩ (- e 1) ≤ -2; omega)
    | 1 => show e 1 ≤ -5; omega
    | n + 2 =>
      have : e (n + 2) ≤ - gi (startL pairG 1 5) (n + 2) := he.1 (n + 2)
      rw [startL_far (by simp [pairG])] at this
      show e (n + 2) ≤ - gi [2, 5] (n + 2)
      rw [gi_far (by simp)]
      exact this
end Go.Proofs.Ytcgnalpcbcpmkaa
