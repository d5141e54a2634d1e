/- Several texts in one: WarpVal, Bounds, Two, EqualB, IvlHas, FoldSpec, IvlDel, IvlDelW, Held2, Clone. -/
import Derived.Maps.AppendAt
import Derived.Lib.BufferMore
import Derived.BigQuiet
import Derived.Laws.StructEq
import Derived.Shelf.Abstract
import Derived.Shelf.GgClosure.Gives
import Derived.Test.YtjcimdpldlamfaaGreatDoorBdda32f21b61
import Derived.Test.YtjcimdpldlamfaaGreatDoorBd0848e2b72a
import Derived.Test.YtjcimdpldlamfaaGreatDoorBd2df7774ef4
import Derived.Test.YtjcimdpldlamfaaGreatDoorBd96fdae9b88
import Derived.Test.YtjcimdpldlamfaaGreatDoorBd2f7b3eaff4
import Derived.Test.YtjcimdpldlamfaaGreatDoorBd4452353c6b
/- The walk of a moment's value. -/
namespace Go.Proofs.YtjcimdpldlamfaaGreatDoor
open Go.RowKit Go.Shelf

theorem valF_snoc {l : List PieceD} {k i : Int} : ∀ {is : List Int} {v : Int}, valF l k v (is ++ [i]) = both3 k (valF l k v is) (vAt l i)
 | [], _ => rfl
 | _ :: is, _ => valF_snoc (is := is)
theorem vAt_of {l : List PieceD} {j : Nat} {x : PieceD} (hx : l[j]? = some x) : vAt l j = x.v := by unfold vAt; rw [Int.toNat_natCast, hx]; rfl
theorem valF_bound {l : List PieceD} {k : Int} (hm : MsgOk l) (hk : 1 ≤ k ∧ k ≤ 3) : ∀ (is : List Int) (v A : Int), (∀ i, i ∈ is → 0 ≤ i ∧ i < l.length) → (-A ≤ v ∧ v ≤ A) → 0 ≤ A → -(A + is.length * 1000000000) ≤ valF l k v is ∧ valF l k v is ≤ A + is.length * 1000000000
 | [], v, A, _, hv, _ => by simp only [valF, List.length_nil]; omega
 | i :: is, v, A, hi, hv, hA => by
  have h0 := hi i (by simp)
  obtain ⟨x, hx⟩ := get_lt (show i.toNat < l.length by omega)
  have hx2 : vAt l i = x.v := by unfold vAt; rw [hx]; rfl
  have hb := both_bound hk hv hA (hm x (List.mem_of_getElem? hx)).1.2.2
  rw [← hx2] at hb
  have ih := valF_bound hm hk is (both3 k v (vAt l i)) (A + 1000000000) (fun j hj => hi j (List.mem_cons_of_mem _ hj)) hb (by omega)
  simp only [valF, List.length_cons]
  omega
set_option maxHeartbeats 1000000 in
theorem togetherBig_any (a b k : Int) (hk : 1 ≤ k ∧ k ≤ 3) (h1 : -1000000000000 ≤ a) (h1' : a ≤ 1000000000000) (hb : nearB b = true) (w : World) : Calls Tryz.prog 195 #[.int .i64 a, .int .i64 b, .int .i64 k] w fun e w' => e = .returned (.int .i64 (both3 k a b)) ∧ w = w' := by
 have h2 := near_iff.1 hb
 have hs : IntKind.i64.wrap (a + b) = a + b := IntWalk.i64_in _ (by omega)
 have hk3 : k = 1 ∨ k = 2 ∨ k = 3 := by omega
 clear hb hk
 have HR1 : both3 1 a b = min a b := by unfold both3; rw [if_neg (by decide), if_pos rfl]
 have HR2 : both3 2 a b = max a b := by unfold both3; rw [if_neg (by decide), if_neg (by decide)]
 have HR3 : both3 3 a b = a + b := by unfold both3; rw [if_pos rfl]
 have K1 := Lib.hid HR1.symm; have K2 := Lib.hid HR2.symm; have K3 := Lib.hid HR3.symm
 clear HR1 HR2 HR3 h1 h1' h2
 rcases hk3 with rfl | rfl | rfl
 all_goals
  go_enter Tryz.func195, Tryz.ntmps195
  go_wp2_with fail
  go_ret
  first
  | exact ⟨ret_int K1.out, rfl⟩
  | exact ⟨ret_int K2.out, rfl⟩
  | exact ⟨ret_int K3.out, rfl⟩

set_option maxRecDepth 100000 in
set_option maxHeartbeats 4000000 in
theorem warpValue_any (A B : Option Addr) (c d n : Nat) (o : Option Int) (wh : List Int) (l : List PieceD) (how : Int) (w : World) (hA : IntsAt w A c wh) (hn : wh.length = n) (h0 : wh ≠ []) (hi : ∀ i, i ∈ wh → 0 ≤ i ∧ i < l.length) (hB : PiecesAt w B d l) (hm : MsgOk l) (hl : l.length ≤ 200) (hwl : wh.length ≤ 200) (hk : 1 ≤ how ∧ how ≤ 3) :
  Calls Tryz.prog 182 #[momV A n c o, .slice B l.length d, .int .i64 how] w fun e w' => e = .returned (.int .i64 (valOf l how wh)) ∧ Below w.heap.size w w' := by
 have m2 := hB.len
 obtain ⟨i, is, rfl⟩ : ∃ i is, wh = i :: is := by
  cases wh with
  | nil => exact absurd rfl h0
  | cons i is => exact ⟨i, is, rfl⟩
 obtain ⟨j, rfl⟩ : ∃ j : Nat, i = j := ⟨i.toNat, by have := hi i (by simp); omega⟩
 have hjl : j < l.length := by have := hi j (by simp); omega
 obtain ⟨x, hx⟩ := get_lt hjl
 have hnn : n = is.length + 1 := by rw [← hn]; simp
 have hnc : is.length + 1 ≤ c := by have := hA.lc; simpa using this
 subst hnn
 have hcm : c ≤ 9223372036854775807 := hA.cm
 have HB := Lib.hid hB; have HA := Lib.hid hA; have HI := Lib.hid hi; have HM := Lib.hid hm; have HK := Lib.hid hk; have HL := Lib.hid hl
 have HV : Hid (valOf l how ((j : Int) :: is) = valF l how x.v is) := Lib.hid (by show valF l how (vAt l j) is = _; rw [vAt_of hx])
 have HXN := Lib.hid (hm x (List.mem_of_getElem? hx)).1.2.2
 have HWL : Hid (is.length ≤ 200) := Lib.hid (by simp at hwl; omega)
 obtain ⟨b, off, rfl, hb0, x0⟩ := hA.get (k := 0) (x := (j : Int)) rfl
 obtain ⟨b2, off2, rfl, hb2, y0, y1, y2⟩ := hB.get hx
 rw [Nat.add_zero] at x0
 have X0 : ∀ ob : Obj, (w.alloc ob).cell? ⟨b, off, none⟩ = some (.int .i64 j) := fun ob => ((ext_alloc (Below.refl _ w) ob).cell (p := ⟨b, off, none⟩) hb0).trans x0
 have Y2 : ∀ ob : Obj, (w.alloc ob).cell? ⟨b2, off2 + j * 3 + 2, none⟩ = some (.int .i64 x.v) := fun ob => ((ext_alloc (Below.refl _ w) ob).cell (p := ⟨b2, off2 + j * 3 + 2, none⟩) hb2).trans y2
 have hn1 : 1 ≤ is.length + 1 := by omega
 rw [HV.out]
 clear hA hB hi hm hk hx hn h0 x0 y0 y1 y2 hl hwl HV
 unfold momV momC
 by_cases hc1 : c = 1
 case pos =>
  obtain rfl : is = [] := List.eq_nil_of_length_eq_zero (by omega)
  subst hc1
  go_enter Tryz.func182, Tryz.ntmps182
  go_wp2_with fail
  go_loopw [7, 22] (fun a y wr => y = .int .i64 0 ∧ a = .int .i64 x.v ∧ Below w.heap.size w wr) (fun _ _ _ => 0)
  case atStart => exact ⟨rfl, rfl, by go_grown⟩
  case round =>
   obtain ⟨rfl, rfl, hb⟩ := hrel
   go_wp2_with fail
   go_ret
   exact ⟨rfl, hb⟩
 case neg =>
  have hcc : 1 < c := by omega
  go_enter Tryz.func182, Tryz.ntmps182
  go_wp2_with fail
  go_loopw [7, 22] (fun a y wr => ∃ k : Nat, k ≤ is.length ∧ y = .int .i64 k ∧ a = .int .i64 (valF l how x.v (is.take k)) ∧ Below w.heap.size w wr) (fun _ y _ => is.length - (intOf y).toNat)
  case atStart => exact ⟨0, Nat.zero_le _, rfl, rfl, by go_grown⟩
  case round =>
   clear X0 Y2
   obtain ⟨k, hk, rfl, rfl, hb⟩ := hrel
   by_cases hlt : k < is.length
   case neg =>
    obtain rfl : k = is.length := by omega
    rw [List.take_length]
    go_wp2_with fail
    go_ret
    exact ⟨rfl, hb⟩
   case pos =>
    obtain ⟨i2, hi2⟩ := get_lt hlt
    obtain ⟨j2, rfl⟩ : ∃ j2 : Nat, i2 = j2 := ⟨i2.toNat, by have := HI.out i2 (List.mem_cons_of_mem _ (List.mem_of_getElem? hi2)); omega⟩
    have hj2 : j2 < l.length := by have := HI.out j2 (List.mem_cons_of_mem _ (List.mem_of_getElem? hi2)); omega
    obtain ⟨z, hz⟩ := get_lt hj2
    obtain ⟨b', off', e', _, u0⟩ := HA.out.get (k := k + 1) (x := (j2 : Int)) (by rw [List.getElem?_cons_succ]; exact hi2)
    obtain ⟨rfl, rfl⟩ : b = b' ∧ off = off' := by simpa using e'
    obtain ⟨b3, off3, e3, _, v0, v1, v2⟩ := HB.out.get hz
    obtain ⟨rfl, rfl⟩ : b2 = b3 ∧ off2 = off3 := by simpa using e3
    have u0 : wr.cell? ⟨b, off + 1 + k, none⟩ = some (.int .i64 j2) := by rw [show off + 1 + k = off + (k + 1) by omega]; exact (hb.cell (p := ⟨b, off + (k + 1), none⟩) hb0).trans u0
    have v2 : wr.cell? ⟨b2, off2 + j2 * 3 + 2, none⟩ = some (.int .i64 z.v) := (hb.cell (p := ⟨b2, off2 + j2 * 3 + 2, none⟩) hb2).trans v2
    have HN : Hid (is.take (k + 1) = is.take k ++ [(j2 : Int)]) := Lib.hid (by rw [List.take_add_one, hi2]; rfl)
    have HS : Hid (valF l how x.v (is.take (k + 1)) = both3 how (valF l how x.v (is.take k)) z.v) := Lib.hid (by rw [HN.out, valF_snoc, vAt_of hz])
    have hbd := valF_bound HM.out HK.out (is.take k) x.v 1000000000 (fun i hi => HI.out i (List.mem_cons_of_mem _ (List.mem_of_mem_take hi))) (by have := near_iff.1 HXN.out; omega) (by omega)
    have hlk : (is.take k).length ≤ 200 := by rw [List.length_take]; have := HWL.out; omega
    obtain ⟨a1, ha1⟩ : ∃ a1, valF l how x.v (is.take k) = a1 := ⟨_, rfl⟩
    rw [ha1] at hbd HS ⊢
    have hT := togetherBig_any a1 z.v how HK.out (by omega) (by omega) (HM.out z (List.mem_of_getElem? hz)).1.2.2
    have hk9 : (k : Int) + 1 < (c : Int) := by omega
    clear hi2 hz e' e3 v0 v1 hbd hlk ha1
    go_wp2_with fail
    refine (hT _).mono ?_
    rintro e w5 ⟨rfl, rfl⟩
    go_wp2_with fail
    go_roundw
    case rel => exact ⟨k + 1, by omega, by go_num, by rw [HS.out], hb⟩
    case measure => simp [intOf]; omega
end Go.Proofs.YtjcimdpldlamfaaGreatDoor
/- The walk of the document's bounds: sorted, each once. -/
namespace Go.Proofs.YtjcimdpldlamfaaGreatDoor
open Go.RowKit

section
variable {S m : List Int} {i k : Nat} {x z : Int}
end
/-- Its beginning alone. -/
theorem Own.cut {α : Type} {enc : α → List Value} {sz : Nat} {w : World} {base n c k : Nat} {e : TypeId} {A : Option Addr} {m : List α} (hk : ∀ x, (enc x).length = sz) (hs : 0 < sz) (h : Own enc sz w base e (.slice A n c) m) (hkn : k ≤ n) : Own enc sz w base e (.slice A k c) (m.take k) := by
 rcases h.2 with ⟨h1, h2⟩ | ⟨g, cap, cur, hv, _⟩
 ·simp only [Value.slice.injEq] at h1
  obtain ⟨rfl, rfl, rfl⟩ := h1
  obtain rfl : k = 0 := by omega
  exact Own.nil
 ·simp only [Value.slice.injEq] at hv
  obtain ⟨rfl, rfl, rfl⟩ := hv
  obtain ⟨_, hg, hmc, hcm, cs, hB, hcs, hr⟩ := h.cells hk
  have hl : (m.take k).length = k := by rw [List.length_take]; omega
  have h2 := Own.of_cells (m := m.take k) hk hs hB hg (by rw [hl]; omega) hcm hcs (hr.take k)
  rwa [hl] at h2
end Go.Proofs.YtjcimdpldlamfaaGreatDoor
/- Two operations may come up, in whichever order. -/
namespace Go.Proofs.YtjcimdpldlamfaaGreatDoor
open Go Go.RowKit

section
variable {P : Program} {ops : Array Oper} {Q : Exit → Act → World → Prop} {md : Region.Mode} {S : World → Prop}
end
end Go.Proofs.YtjcimdpldlamfaaGreatDoor
/- The walks of the library's slices.Equal, at hops, ints, bools and lives. -/
namespace Go.Proofs.YtjcimdpldlamfaaGreatDoor
open Go.RowKit

theorem take_eq_of {α : Type} {a b : List α} (hl : a.length = b.length) {k : Nat} (hk : a.length ≤ k) (h : a.take k = b.take k) : a = b := by
 rwa [List.take_of_length_le hk, List.take_of_length_le (by omega)] at h
theorem take_step {α : Type} {a b : List α} {k : Nat} {x y : α} (hx : a[k]? = some x) (hy : b[k]? = some y) (h : a.take k = b.take k) (hxy : x = y) : a.take (k + 1) = b.take (k + 1) := by
 rw [List.take_add_one, List.take_add_one, hx, hy, h, hxy]
theorem ne_of_get {α : Type} {a b : List α} {k : Nat} {x y : α} (hx : a[k]? = some x) (hy : b[k]? = some y) (hxy : ¬ x = y) : ¬ a = b := by
 rintro rfl
 rw [hx] at hy
 exact hxy (by simpa using hy)

set_option maxHeartbeats 1000000 in
theorem equalInts_any (A B : Option Addr) (c d : Nat) (a b : List Int) (w : World) (hA : SlAt RInt 1 w A a) (hB : SlAt RInt 1 w B b) (ha : a.length ≤ maxLen) (hb : b.length ≤ maxLen) :
  Calls Tryz.prog 148 #[.slice A a.length c, .slice B b.length d] w fun e w' => e = .returned (.bool (decide (a = b))) ∧ Below w.heap.size w w' := by
 unfold maxLen at ha hb
 by_cases hl : a.length = b.length
 case neg =>
  have hne : ((a.length : Int) != (b.length : Int)) = true := by simp; omega
  go_enter Tryz.func148, Tryz.ntmps148
  go_wp2_with fail
  go_ret
  exact ⟨ret_bool (by symm; simp; intro h; exact hl (by rw [h])), Below.refl _ _⟩
 have hne : ((a.length : Int) != (b.length : Int)) = false := by simp; omega
 obtain ⟨ba, oa, hA⟩ := hA
 obtain ⟨bb, ob, hB⟩ := hB
 have HL := Lib.hid hl
 have hl1 : a.length ≤ b.length := by omega
 have hl2 : b.length ≤ a.length := by omega
 clear hl
 go_enter Tryz.func148, Tryz.ntmps148
 go_wp2_with fail
 go_loopw [13] (fun v wr => ∃ k : Nat, k ≤ a.length ∧ v = .int .i64 k ∧ Hid (a.take k = b.take k) ∧ Below w.heap.size w wr) (fun v _ => a.length - (intOf v).toNat)
 case atStart => exact ⟨0, Nat.zero_le _, rfl, Lib.hid (by simp), Below.refl _ _⟩
 case round =>
  obtain ⟨k, hk, rfl, HI, hw⟩ := hrel
  by_cases hlt : k < a.length
  ·obtain ⟨x, hx⟩ := get_lt hlt
   obtain ⟨y, hy⟩ := get_lt (show k < b.length by omega)
   obtain ⟨rfl, hba, x0, _⟩ := hA k x hx
   obtain ⟨rfl, hbb, y0, _⟩ := hB k y hy
   have x1 := x0.now hw
   have y1 := y0.now hw
   simp only [Nat.mul_one] at x1 y1
   have HX := Lib.hid hx
   have HY := Lib.hid hy
   have hlt2 : k < b.length := by omega
   clear hA hB hx hy x0 y0
   by_cases hxy : x = y
   ·have HXY := Lib.hid hxy
    have hn : (x != y) = false := by simp [hxy]
    clear hxy
    go_wp2_with fail
    go_quiet (fail)
    go_wp2
    go_roundw
    case rel => exact ⟨k + 1, by omega, by go_num, Lib.hid (take_step HX.out HY.out HI.out HXY.out), below_drewN hw _⟩
    case measure => simp [intOf]; omega
   ·have HXY := Lib.hid hxy
    have hn : (x != y) = true := by simp [hxy]
    clear hxy
    go_wp2_with fail
    go_quiet (fail)
    go_wp2
    go_ret
    exact ⟨ret_bool (by symm; simp; exact ne_of_get HX.out HY.out HXY.out), below_drewN hw _⟩
  ·go_wp2_with fail
   go_ret
   exact ⟨ret_bool (by symm; simp; exact take_eq_of HL.out (by omega) HI.out), hw⟩

end Go.Proofs.YtjcimdpldlamfaaGreatDoor
/- The walks of what holds of one of some intervals; of the time that is in them. -/
namespace Go.Proofs.YtjcimdpldlamfaaGreatDoor
open Go.RowKit Go.Shelf

/-- What is asked of a predicate: in every world in which all that lay in w lies there still, it answers p and leaves such a world. -/
def PredB (fn : Nat) (lb : Array Value) (p : IvlD → Bool) (w : World) : Prop :=
 ∀ (W : World) (x : IvlD), Below w.heap.size w W → Calls Tryz.prog fn (#[ivlV x] ++ lb) W fun e w' => e = .returned (.bool (p x)) ∧ Below W.heap.size W w'
/-- The first one, or none. -/
def FirstIs (p : IvlD → Bool) (l : List IvlD) (r : Int) : Prop :=
 (r = -1 ∧ ∀ x, x ∈ l → p x = false) ∨ ∃ (k : Nat) (x : IvlD), r = k ∧ l[k]? = some x ∧ p x = true ∧ ∀ y, y ∈ l.take k → p y = false
theorem FirstIs.any {p : IvlD → Bool} {l : List IvlD} {r : Int} (h : FirstIs p l r) : decide (r ≥ 0) = l.any p := by
 rw [Bool.eq_iff_iff, List.any_eq_true, decide_eq_true_iff]
 rcases h with ⟨rfl, h⟩ | ⟨k, x, rfl, hx, hp, _⟩
 ·exact ⟨fun h1 => by omega, fun ⟨x, hx, hp⟩ => by rw [h x hx] at hp; simp at hp⟩
 ·exact ⟨fun _ => ⟨x, List.mem_of_getElem? hx, hp⟩, fun _ => by omega⟩

set_option maxHeartbeats 1000000 in
theorem indexFunc_any (fn : Nat) (lb : Array Value) (p : IvlD → Bool) (eg : ∀ args w, (callFunc fn args).run Tryz.prog w = .ok (.enter fn args) w) (A : Option Addr) (c : Nat) (l : List IvlD) (w : World) (hI : IvlsAt w A c l) (hp : PredB fn lb p w) :
  Calls Tryz.prog 198 #[.slice A l.length c, .func (.func fn) #[] lb] w fun e w' => (∃ r, e = .returned (.int .i64 r) ∧ FirstIs p l r) ∧ Below w.heap.size w w' := by
 have m1 := hI.len
 have HI := Lib.hid hI
 have HP := Lib.hid hp
 clear hI hp
 go_enter Tryz.func198, Tryz.ntmps198
 go_wp2_with fail
 go_loopw [5, 8] (fun _ v wr => ∃ k : Nat, k ≤ l.length ∧ v = .int .i64 k ∧ Hid (∀ y, y ∈ l.take k → p y = false) ∧ Below w.heap.size w wr) (fun _ v _ => l.length - (intOf v).toNat)
 case atStart => exact ⟨0, Nat.zero_le _, rfl, Lib.hid (by simp), Below.refl _ _⟩
 case round =>
  obtain ⟨k, hk, rfl, HN, hb⟩ := hrel
  by_cases hlt : k < l.length
  case neg =>
   obtain rfl : k = l.length := by omega
   go_wp2_with fail
   go_ret
   exact ⟨⟨-1, rfl, .inl ⟨rfl, by have := HN.out; rwa [List.take_length] at this⟩⟩, hb⟩
  case pos =>
   obtain ⟨x, hx⟩ := get_lt hlt
   obtain ⟨b, off, rfl, hb0, x0, x1⟩ := HI.out.get hx
   rw [← hb.cell (by exact hb0)] at x0 x1
   have HX := Lib.hid hx
   have hc := HP.out wr x hb
   clear hx
   cases hq : p x
   case true =>
    rw [hq] at hc
    go_wp2_with (go_at_fn fn; refine hc.mono ?_; rintro e w' ⟨rfl, hb'⟩)
    go_ret
    exact ⟨⟨k, rfl, .inr ⟨k, x, rfl, HX.out, hq, HN.out⟩⟩, ext_trans hb hb'⟩
   case false =>
    rw [hq] at hc
    go_wp2_with (go_at_fn fn; refine hc.mono ?_; rintro e w' ⟨rfl, hb'⟩)
    go_roundw
    case rel =>
     refine ⟨k + 1, by omega, by go_num, Lib.hid fun y hy => ?_, ext_trans hb hb'⟩
     rw [take_succ_ HX.out] at hy
     rcases List.mem_append.1 hy with hy | hy
     ·exact HN.out y hy
     ·obtain rfl : y = x := by simpa using hy
      exact hq
    case measure => simp [intOf]; omega

set_option maxHeartbeats 1000000 in
theorem containsFunc_any (fn : Nat) (lb : Array Value) (p : IvlD → Bool) (eg : ∀ args w, (callFunc fn args).run Tryz.prog w = .ok (.enter fn args) w) (A : Option Addr) (c : Nat) (l : List IvlD) (w : World) (hI : IvlsAt w A c l) (hp : PredB fn lb p w) :
  Calls Tryz.prog 187 #[.slice A l.length c, .func (.func fn) #[] lb] w fun e w' => e = .returned (.bool (l.any p)) ∧ Below w.heap.size w w' := by
 have HI := Lib.hid hI
 have HP := Lib.hid hp
 clear hI hp
 go_enter Tryz.func187, Tryz.ntmps187
 go_wp2_with (go_at_call 198; refine (indexFunc_any fn lb p eg A c l _ HI.out HP.out).mono ?_; rintro e w' ⟨⟨r, rfl, hr⟩, hb⟩)
 go_ret
 exact ⟨ret_bool hr.any, hb⟩

end Go.Proofs.YtjcimdpldlamfaaGreatDoor
/- Cells put together: what a fold tells; no program in sight. -/
namespace Go.Proofs.YtjcimdpldlamfaaGreatDoor

/-- The messages' values at a time put together. -/
def mixO (l : List PieceD) (k t : Int) : Option Int := if whichL l t = [] then none else some (valOf l k (whichL l t))
section
variable {U : List (PieceG Key)} {g : Key → Int} {k : Nat} {out o : List PieceD} {y : PieceG Key} {z : PieceD}
end
end Go.Proofs.YtjcimdpldlamfaaGreatDoor
/- The walks of slices.Clone and slices.DeleteFunc over intervals. -/
namespace Go.Proofs.YtjcimdpldlamfaaGreatDoor
open Go.RowKit Go.Shelf

theorem ivlC_len (x : IvlD) : (ivlC x).length = 2 := rfl
theorem ivls_one (l : List IvlD) : ∀ u ∈ l.flatMap ivlC, u.oneCell' = true := fun u hu => by
 obtain ⟨x, _, hx⟩ := List.mem_flatMap.1 hu
 simp only [ivlC, List.mem_cons, List.not_mem_nil, or_false] at hx
 rcases hx with rfl | rfl <;> rfl
/-- What memory holds of a list, cell by cell. -/
theorem IvlsAt.flat {w : World} {b off c : Nat} {l : List IvlD} (h : IvlsAt w (some ⟨b, off, none⟩) c l) : ∀ (j : Nat) u, (l.flatMap ivlC)[j]? = some u → w.cell? ⟨b, off + j, none⟩ = some u := fun j u hu => by
 have hj : j < l.length * 2 := by have := lt_of_get hu; rw [flat_length ivlC_len] at this; exact this
 obtain ⟨x, hx⟩ := get_lt (show j / 2 < l.length by omega)
 obtain ⟨b', off', e, _, h0, h1⟩ := h.get hx
 obtain ⟨rfl, rfl⟩ : b = b' ∧ off = off' := by simpa using e
 have h4 := flat_at ivlC_len hx (Nat.mod_lt j (show 0 < 2 by decide))
 rw [Nat.div_add_mod' j 2, hu] at h4
 have hd := Nat.div_add_mod' j 2
 rcases Nat.mod_two_eq_zero_or_one j with hm | hm
 ·rw [hm] at h4
  have e1 : j / 2 * 2 = j := by omega
  rw [e1] at h0
  rw [h0, h4]
  rfl
 ·rw [hm] at h4
  have e1 : off + j / 2 * 2 + 1 = off + j := by omega
  rw [e1] at h1
  rw [h1, h4]
  rfl
/-- A list is told, in a block of its own. -/
def OwnOut (l : List IvlD) (w : World) (base : Nat) (e : Ending) (w' : World) : Prop := ∃ v, e = .returned v ∧ Own ivlC 2 w' base 94 v l ∧ Below base w w'

set_option maxRecDepth 100000 in
set_option maxHeartbeats 2000000 in
theorem ivlClone_any (A : Option Addr) (c : Nat) (l : List IvlD) (w : World) (hI : IvlsAt w A c l) (hl : l.length ≤ 100000) :
  Calls Tryz.prog 200 #[.slice A l.length c] w (OwnOut l w w.heap.size) := by
 obtain ⟨i0, hi, hz0, hz1, hz2⟩ := info_ivl2
 cases A with
 | none =>
  have h0 : l = [] := by
   cases l with
   | nil => rfl
   | cons y l =>
    obtain ⟨b, off, e, _⟩ := hI.get (k := 0) (x := y) rfl
    simp at e
  subst h0
  have hnil : ∀ W : World, (binOp .eql 65 (.slice none 0 c) (.slice none 0 0)).run Tryz.prog W = .ok (.bool true) W := fun W => Lib.run_eql_slice_nil_nil W 0 c Tryz.underlying65
  go_enter Tryz.func200, Tryz.ntmps200
  go_wp2_with fail
  go_ret
  exact ⟨_, rfl, Own.nil, by go_grown⟩
 | some ad =>
  have hsome : ∀ W : World, (binOp .eql 65 (.slice (some ad) l.length c) (.slice none 0 0)).run Tryz.prog W = .ok (.bool false) W := fun W => Lib.run_eql_slice_some_nil W ad l.length c Tryz.underlying65
  have hcells : ∀ (w' : World), Below w.heap.size w w' → ∀ (j : Nat) u, (l.flatMap ivlC)[j]? = some u → w'.cell? (ad.add j) = some u := fun w' hb j u hu => by
   cases l with
   | nil => simp at hu
   | cons y l =>
    obtain ⟨b, off, e, _⟩ := hI.get (k := 0) (x := y) rfl
    obtain rfl : ad = ⟨b, off, none⟩ := by simpa using e
    rw [Go.WideShapes.add_plain]
    exact cell_keep hb (hI.flat j u hu)
  clear hI
  go_enter Tryz.func200, Tryz.ntmps200
  go_wp2_with (at_builtin; refine wpList_append_own_at _ rfl (.tmp 5) (.tmp 6) 65 rfl w.heap.size 94 i0 _ 2 16 Tryz.underlying65 hi hz0 hz1 hz2 rfl (by decide) _ 0 [] rfl (Own.lit (enc := ivlC) (l := []) rfl (Nat.le_refl _) rfl rfl rfl (by decide)) ad l.length c (l.flatMap ivlC) rfl (flat_length ivlC_len l) (hcells _ (by go_grown)) (ivls_one l) (by unfold maxLen; omega) (by omega) (by simp) ?_; intro v' w6 h2 h3 _ _; have hown : Own ivlC 2 w6 w.heap.size 94 v' l := (by simpa [Own] using h2))
  have hbb : Below w.heap.size w w6 := by
   refine ((Below.refl w.heap.size w).alloc (Nat.le_refl _) (Obj.cells #[] 94)).grown h3 (by simp) ?_
   intro k hk
   have e : some w.heap.size = some k := hk
   cases e
   exact Nat.le_refl _
  go_ret
  exact ⟨_, rfl, hown, hbb⟩

/-! ### what is deleted -/
/-- While elements are deleted: what is kept stands ahead, what is not read yet stands where it stood. -/
structure DelInv (p : IvlD → Bool) (l m : List IvlD) (j i : Nat) : Prop where
 len : m.length = l.length
 lt : i < j
 ahead : m.take i = (l.take j).filter fun x => !p x
 rest : ∀ k x, j ≤ k → l[k]? = some x → m[k]? = some x
section
variable {p : IvlD → Bool} {l m : List IvlD} {i j k : Nat} {x : IvlD}
theorem filter_none (h : ∀ y, y ∈ l → p y = false) : (l.filter fun x => !p x) = l := List.filter_eq_self.2 fun y hy => by simp [h y hy]
theorem DelInv.start (hx : l[k]? = some x) (hp : p x = true) (hn : ∀ y, y ∈ l.take k → p y = false) : DelInv p l l (k + 1) k :=
 ⟨rfl, by omega, by rw [take_succ_ hx, List.filter_append, filter_none hn]; simp [hp], fun _ _ _ h => h⟩
theorem DelInv.skip (h : DelInv p l m j i) (hx : l[j]? = some x) (hp : p x = true) : DelInv p l m (j + 1) i :=
 ⟨h.len, by have := h.lt; omega, by rw [take_succ_ hx, List.filter_append, h.ahead]; simp [hp], fun k y hk => h.rest k y (by omega)⟩
theorem DelInv.keep (h : DelInv p l m j i) (hx : l[j]? = some x) (hp : p x = false) : DelInv p l (m.set i x) (j + 1) (i + 1) := by
 have hjl := lt_of_get hx
 have hlt := h.lt
 refine ⟨by rw [List.length_set, h.len], by omega, ?_, fun k y hk hy => ?_⟩
 ·rw [take_succ_ hx, List.filter_append, ← h.ahead]
  have e : (m.set i x)[i]? = some x := List.getElem?_set_self (by rw [h.len]; omega)
  rw [take_succ_ e, List.take_set_of_le (Nat.le_refl _)]
  simp [hp]
 ·rw [List.getElem?_set_ne (by omega)]
  exact h.rest k y (by omega) hy
theorem DelInv.fin (h : DelInv p l m j i) (hj : l.length ≤ j) : m.take i = l.filter fun x => !p x := by rw [h.ahead, List.take_of_length_le hj]
theorem DelInv.count (h : DelInv p l m j i) (hj : l.length ≤ j) (hl : i < l.length) : (l.filter fun x => !p x).length = i := by rw [← h.fin hj, List.length_take, h.len]; omega
end
end Go.Proofs.YtjcimdpldlamfaaGreatDoor
/- The walk of slices.DeleteFunc over intervals. -/
namespace Go.Proofs.YtjcimdpldlamfaaGreatDoor
open Go.RowKit Go.Shelf

theorem zeroIvl (w : World) : (zeroValue 94).run Tryz.prog w = .ok (.agg #[.int .i64 0, .int .i64 0]) w := Tryz.zeroValue94 w

set_option maxRecDepth 100000 in
set_option maxHeartbeats 4000000 in
theorem ivlDelete_any (fn : Nat) (lb : Array Value) (p : IvlD → Bool) (eg : ∀ args w, (callFunc fn args).run Tryz.prog w = .ok (.enter fn args) w) (v : Value) (l : List IvlD) (w : World) (base : Nat) (hown : Own ivlC 2 w base 94 v l) (hbase : base ≤ w.heap.size)
  (hi64 : ∀ x, x ∈ l → I64 x.f ∧ I64 x.t) (hl : l.length ≤ 100000) (hp : ∀ (W : World) (x : IvlD), Calls Tryz.prog fn (#[ivlV x] ++ lb) W fun e w' => e = .returned (.bool (p x)) ∧ Below W.heap.size W w') :
  Calls Tryz.prog 199 #[v, .func (.func fn) #[] lb] w (OwnOut (l.filter fun x => !p x) w base) := by
 obtain ⟨A, c, rfl, hI⟩ := own_ivls hown hi64
 have HO := Lib.hid hown
 have HP := Lib.hid hp
 have hIF := indexFunc_any fn lb p eg A c l w hI fun W x _ => hp W x
 clear hown hp hI hi64
 go_enter Tryz.func199, Tryz.ntmps199
 go_wp2_with fail
 refine hIF.mono ?_
 rintro e w1 ⟨⟨r, rfl, hr⟩, hb1⟩
 clear hIF
 rcases hr with ⟨rfl, hall⟩ | ⟨k, x, rfl, hx, hpx, hn⟩
 ·have HA := Lib.hid hall
  clear hall
  go_wp2_with fail
  go_ret
  refine ⟨_, rfl, ?_, hb1.mono hbase⟩
  rw [filter_none HA.out]
  exact HO.out.ext hb1
 ·obtain ⟨b, off, hA⟩ : ∃ b off, A = some ⟨b, off, none⟩ := by
   cases A with
   | none =>
    rcases HO.out.2 with ⟨h1, h2⟩ | ⟨g, cap, cur, hv, _⟩
    ·have := lt_of_get hx; omega
    ·simp at hv
   | some a =>
    rcases HO.out.2 with ⟨h1, h2⟩ | ⟨g, cap, cur, hv, _⟩
    ·simp at h1
    ·simp only [Value.slice.injEq, Option.some.injEq] at hv
     exact ⟨g, 0, by rw [hv.1]⟩
  subst hA
  obtain rfl : off = 0 := by
   rcases HO.out.2 with ⟨h1, h2⟩ | ⟨g, cap, cur, hv, _⟩
   ·simp at h1
   ·simp only [Value.slice.injEq, Option.some.injEq, Addr.mk.injEq] at hv
    exact hv.1.2.1
  have hkl := lt_of_get hx
  have HD : Hid (DelInv p l l (k + 1) k) := Lib.hid (DelInv.start hx hpx hn)
  have hO1 : Own ivlC 2 w1 base 94 (.slice (some ⟨b, 0, none⟩) l.length c) l := HO.out.ext hb1
  have hB1 : Below base w w1 := hb1.mono hbase
  have hz1 := hb1.size
  have hne : ((k : Int) == -1) = false := by simp
  clear hx hpx hn hb1
  go_wp2_with fail
  go_loopw [5, 6] (fun u v wr => ∃ (i j : Nat) (m : List IvlD), u = .int .i64 i ∧ v = .int .i64 j ∧ j ≤ l.length ∧ Hid (DelInv p l m j i) ∧ Own ivlC 2 wr base 94 (.slice (some ⟨b, 0, none⟩) l.length c) m ∧ Below base w wr) (fun _ v _ => l.length - (intOf v).toNat)
  case atStart => exact ⟨k, k + 1, l, rfl, by go_num, by omega, HD, hO1, hB1⟩
  case round =>
   clear hO1 HD hB1 hne
   obtain ⟨i, j, m, rfl, rfl, hj, HD, hO, hB⟩ := hrel
   have hij := HD.out.lt
   have hml := HD.out.len
   obtain ⟨hnm, hbb, hmc, hcm, cs, hBk, hcs, hrow⟩ := hO.cells ivlC_len
   have HMC := Lib.hid hmc
   clear hnm hmc
   by_cases hlt : j < l.length
   case pos =>
    obtain ⟨x, hx⟩ := get_lt hlt
    have hmx := HD.out.rest j x (Nat.le_refl _) hx
    have x0 : wr.cell? ⟨b, j * 2, none⟩ = some (.int .i64 x.f) := by rw [hBk.cell]; have := hrow j x hmx 0 (by decide); simpa [ivlC] using this
    have x1 : wr.cell? ⟨b, j * 2 + 1, none⟩ = some (.int .i64 x.t) := by rw [hBk.cell]; have := hrow j x hmx 1 (by decide); simpa [ivlC] using this
    have hbl := hBk.lt
    obtain ⟨y, hy⟩ := get_lt (show i < m.length by omega)
    have y0 : cs[i * 2]? = some (.int .i64 y.f) := by have := hrow i y hy 0 (by decide); simpa [ivlC] using this
    have y1 : cs[i * 2 + 1]? = some (.int .i64 y.t) := by have := hrow i y hy 1 (by decide); simpa [ivlC] using this
    have hc := fun W => HP.out W x
    have HX := Lib.hid hx
    have HR := Lib.hid hrow
    have HM := Lib.hid hml
    clear hx hmx hy hrow hml
    cases hq : p x
    case true =>
     rw [hq] at hc
     go_wp2_with (go_at_fn fn; refine (hc _).mono ?_; rintro e w' ⟨rfl, hb'⟩)
     go_roundw
     case rel => exact ⟨i, j + 1, m, rfl, by go_num, by omega, Lib.hid (HD.out.skip HX.out hq), (hO.alloc _).ext hb', (hB.alloc (by have := hB.size; omega) _).trans (hb'.mono (by simp; have := hB.size; omega))⟩
     case measure => simp [intOf]; omega
    case false =>
     rw [hq] at hc
     go_wp2_with (go_at_fn fn; refine (hc _).mono ?_; rintro e w' ⟨rfl, hb'⟩; obtain ⟨q1, q2, q3⟩ := ((Blk.new wr 94 #[.int .i64 x.f, .int .i64 x.t]).ext hb').facts; obtain ⟨r0, r1, r2, r3⟩ := (show Blk w' b 94 cs ∧ (∀ i, w'.cell? ⟨b, i, none⟩ = cs[i]?) ∧ (∀ i, w'.frozen? ⟨b, i, none⟩ = false) ∧ b < w'.heap.size from ⟨(hBk.alloc _).ext hb', ((hBk.alloc _).ext hb').facts⟩))
     go_roundw
     case rel =>
      refine ⟨i + 1, j + 1, m.set i x, by go_num, by go_num, by omega, Lib.hid (HD.out.keep HX.out hq), ?_, ?_⟩
      ·have h1 := (r0.set_ (i * 2) (.int .i64 x.f)).set_ (i * 2 + 1) (.int .i64 x.t)
       have h2 := Own.of_cells (enc := ivlC) (m := m.set i x) ivlC_len (by decide) h1 hbb (by rw [List.length_set]; exact HMC.out) hcm (by simpa using hcs) (HR.out.set (by rw [HM.out]; omega)
        (fun t ht => by
         rw [Array.getElem?_setIfInBounds_ne (by omega), Array.getElem?_setIfInBounds_ne (by omega)])
        (fun t ht => by
         have k1 : i * 2 + 1 < cs.size := (Array.getElem?_eq_some_iff.1 y1).1
         match t, ht with
         | 0, _ =>
          show ((cs.setIfInBounds (i * 2) (.int .i64 x.f)).setIfInBounds (i * 2 + 1) (.int .i64 x.t))[i * 2]? = _
          rw [Array.getElem?_setIfInBounds_ne (by omega), Array.getElem?_setIfInBounds_self_of_lt (by omega)]; rfl
         | 1, _ => rw [Array.getElem?_setIfInBounds_self_of_lt (by simpa using k1)]; rfl))
       rwa [List.length_set, HM.out] at h2
      ·have hz := hB.size
       exact (((hB.alloc (by omega) _).trans (hb'.mono (by simp; omega))).setCell hbb _).setCell hbb _
     case measure => simp [intOf]; omega
   case neg =>
    obtain rfl : j = l.length := by omega
    have hcl : ∀ ty, (Builtin.clear_ #[65] ty #[.slice (some ⟨b, i * 2, none⟩) (l.length - i) (c - i)]).run Tryz.prog wr = .ok (.tuple #[]) (wr.setCells b (i * 2) (Builtin.zeroCells (Value.agg #[.int .i64 0, .int .i64 0]).cells (l.length - i)).toList) := fun ty =>
     run_clear_row wr 65 94 ty (.agg #[.int .i64 0, .int .i64 0]) Tryz.underlying65 zeroIvl (by simp [Value.cells, Value.oneCell']) b (i * 2) _ _ (by omega)
      (fun t ht => by
       simp only [Value.cells, List.size_toArray, List.length_cons, List.length_nil] at ht
       rw [hBk.cell]
       have : i * 2 + t < cs.size := by have := HMC.out; omega
       simp [this])
      (fun t _ => hBk.frozen _)
    have HR := Lib.hid hrow
    have HM := Lib.hid hml
    have hic : i ≤ c := by have := HMC.out; omega
    have hil : i < l.length := by omega
    have hic2 : i < c := by have := HMC.out; omega
    have hic3 : ¬ c - i = 0 := by omega
    have hic4 : ¬ i = c := by omega
    have hic5 : ¬ c = i := by omega
    have hcmx : c ≤ 9223372036854775807 := hcm
    have hst := fun vs : List Value => Blk.setCells (t := 94) vs (i * 2) hBk
    obtain ⟨wz, hwz⟩ : ∃ wz, wz = wr.setCells b (i * 2) (Builtin.zeroCells (Value.agg #[.int .i64 0, .int .i64 0]).cells (l.length - i)).toList := ⟨_, rfl⟩
    have HWZ := Lib.hid hwz
    rw [← hwz] at hcl
    clear hrow hml hwz
    go_wp2_with fail
    go_ret
    obtain ⟨cs', k1, k2, k3⟩ := hst (Builtin.zeroCells (Value.agg #[.int .i64 0, .int .i64 0]).cells (l.length - i)).toList
    rw [← HWZ.out] at k1
    have hfin := HD.out.fin (Nat.le_refl _)
    have hcnt := HD.out.count (Nat.le_refl _) hij
    refine ⟨_, rfl, ?_, ?_⟩
    ·have h2 := Own.of_cells (enc := ivlC) (m := m.take i) ivlC_len (by decide) k1 hbb (by rw [hfin, hcnt]; exact hic) hcm (by rw [k2]; exact hcs) (fun q x hx j hj => by
      have hq : q < i := by have := lt_of_get hx; rw [hfin, hcnt] at this; exact this
      rw [k3 _ (by omega)]
      exact HR.out.take i q x hx j hj)
     rw [hfin, hcnt] at h2
     exact h2
    ·rw [HWZ.out]
     exact below_setCells hbb _ _ hB
end Go.Proofs.YtjcimdpldlamfaaGreatDoor
/- A region that draws its order and keeps a condition: two operations that may come up in either order. -/
namespace Go.Proofs.YtjcimdpldlamfaaGreatDoor
open Go Go.RowKit

section
variable {P : Program} {ops : Array Oper} {Q : Exit → Act → World → Prop} {md : Region.Mode} {S : World → Prop}
theorem anyH_begin {id : Nat} {a : Act} {w : World} (S : World → Prop) (hm : P.follows .mixedOrders = true) (h : wpAnyH P .any ops Q S ops.size (Array.replicate ops.size false) a w.drew) : (Code.region id ops true).wp P Q a w := wp_region_held (S := S) hm h
theorem anyH_two {i j : Nat} {oi oj : Oper} {f : Nat} {listed : Array Bool} {a : Act} {w : World} (hi : ops[i]? = some oi) (hj : ops[j]? = some oj)
  (hr : (Region.ready md ops listed == [i, j] && Region.wanted oi (yielded ops a.tmps) && Region.wanted oj (yielded ops a.tmps)) = true)
  (h1 : ∀ K : Act → World → Prop, Hid (∀ a' w', (S w' ∧ wpAnyH P md ops Q S f (listed.setIfInBounds i true) a' w') → K a' w') → Oper.wp P oi a w K Q)
  (h2 : ∀ K : Act → World → Prop, Hid (∀ a' w', (S w' ∧ wpAnyH P md ops Q S f (listed.setIfInBounds j true) a' w') → K a' w') → Oper.wp P oj a w K Q) : wpAnyH P md ops Q S (f + 1) listed a w := by
 simp only [Bool.and_eq_true, beq_iff_eq] at hr
 obtain ⟨⟨hr, hwi⟩, hwj⟩ := hr
 refine ⟨fun h0 => (by rw [h0] at hr; cases hr), fun k hk => ?_⟩
 rw [hr] at hk
 have hk2 : k = i ∨ k = j := by simpa using hk
 rcases hk2 with rfl | rfl
 ·unfold wpOp
  simp only [hi, hwi, if_true]
  exact .inl (h1 _ (Lib.hid fun _ _ h => h))
 ·unfold wpOp
  simp only [hj, hwj, if_true]
  exact .inl (h2 _ (Lib.hid fun _ _ h => h))
end
end Go.Proofs.YtjcimdpldlamfaaGreatDoor
/- The walk of slices.Clone over legs. -/
namespace Go.Proofs.YtjcimdpldlamfaaGreatDoor
open Go.RowKit

def legC (x : LegD) : List Value := [.int .i64 x.f, .int .i64 x.t, .int .i64 x.time, .int .i64 x.cost]
theorem info_leg4 : (Tryz.prog.info? 100).map (fun i => (i.zero, i.size, i.bytes)) = some (some (.agg #[.int .i64 0, .int .i64 0, .int .i64 0, .int .i64 0]), 4, 32) := by kernel_rfl
theorem info_leg2 : ∃ i, Tryz.prog.info? 100 = some i ∧ i.zero = some (.agg #[.int .i64 0, .int .i64 0, .int .i64 0, .int .i64 0]) ∧ i.size = 4 ∧ i.bytes = 32 := by
 obtain ⟨i0, hi, hzz⟩ := Option.map_eq_some_iff.1 info_leg4
 simp only [Prod.mk.injEq] at hzz
 exact ⟨i0, hi, hzz.1, hzz.2.1, hzz.2.2⟩
theorem flat_get {l : List LegD} {k : Nat} {x : LegD} (h : l[k]? = some x) : (l.flatMap legC)[k * 4]? = some (.int .i64 x.f) ∧ (l.flatMap legC)[k * 4 + 1]? = some (.int .i64 x.t) ∧ (l.flatMap legC)[k * 4 + 2]? = some (.int .i64 x.time) ∧ (l.flatMap legC)[k * 4 + 3]? = some (.int .i64 x.cost) := by
 induction l generalizing k with
 | nil => simp at h
 | cons y l ih =>
  cases k with
  | zero =>
   obtain rfl : y = x := by simpa using h
   simp [legC]
  | succ k =>
   have ih := ih (k := k) (by simpa using h)
   rw [List.flatMap_cons]
   have e : ∀ j, (k + 1) * 4 + j = 4 + (k * 4 + j) := fun j => by omega
   have hl : (legC y).length = 4 := rfl
   refine ⟨?_, ?_, ?_, ?_⟩
   ·rw [show (k + 1) * 4 = 4 + k * 4 by omega, List.getElem?_append_right (by omega), hl, Nat.add_sub_cancel_left]; exact ih.1
   ·rw [e 1, List.getElem?_append_right (by omega), hl, Nat.add_sub_cancel_left]; exact ih.2.1
   ·rw [e 2, List.getElem?_append_right (by omega), hl, Nat.add_sub_cancel_left]; exact ih.2.2.1
   ·rw [e 3, List.getElem?_append_right (by omega), hl, Nat.add_sub_cancel_left]; exact ih.2.2.2
theorem Own.lown {w : World} {base : Nat} {A : Option Addr} {n c : Nat} {l : List LegD} (h : Own legC 4 w base 100 (.slice A n c) l) : LOwn w A l := fun h0 => by
 rcases h.2 with ⟨h1, h2⟩ | ⟨g, cap, cur, hv, hg, hh, hnc, hcm, hcs, htake⟩
 ·omega
 ·injection hv with h1 h2 h3
  subst h1
  refine ⟨g, cur, rfl, hh, fun k x hk => ?_⟩
  have hl := lt_of_get hk
  obtain ⟨q0, q1, q2, q3⟩ := flat_get hk
  rw [← htake] at q0 q1 q2 q3
  rw [List.getElem?_take_of_lt (by omega)] at q0 q1 q2 q3
  exact ⟨by simpa using q0, by simpa using q1, by simpa using q2, by simpa using q3⟩
end Go.Proofs.YtjcimdpldlamfaaGreatDoor
