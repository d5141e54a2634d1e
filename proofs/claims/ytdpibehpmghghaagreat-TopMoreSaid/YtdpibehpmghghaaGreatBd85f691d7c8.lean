/- One text: HopRev. -/
import Derived.BigRegion
import Derived.IntWalk
import Derived.Test.YtdpibehpmghghaaGreatBd3ed04debcf
import Derived.Test.YtdpibehpmghghaaGreatBdcc6882d3e7
/- The walk of slices.Reverse over hops that a call has made. -/
namespace Go.Proofs.YtdpibehpmghghaaGreat
open Go.RowKit

/-- The first k and the last k have changed places. -/
def RevMid (hs cur : List HopD) (k : Nat) : Prop := cur.length = hs.length ∧ ∀ i, i < hs.length → cur[i]? = if i < k ∨ hs.length - k ≤ i then hs[hs.length - 1 - i]? else hs[i]?
theorem RevMid.start (hs : List HopD) : RevMid hs hs 0 := ⟨rfl, fun i hi => by rw [if_neg (by omega)]⟩
theorem RevMid.step {hs cur : List HopD} {k : Nat} (h : RevMid hs cur k) (hk : 2 * k + 1 < hs.length) {x y : HopD} (hx : cur[k]? = some x) (hy : cur[hs.length - 1 - k]? = some y) : RevMid hs ((cur.set k y).set (hs.length - 1 - k) x) (k + 1) := by
  obtain ⟨h1, h2⟩ := h
  refine ⟨by simp [h1], fun i hi => ?_⟩
  by_cases e1 : i = hs.length - 1 - k
  · rw [e1, List.getElem?_set_self (by simp; omega), if_pos (by omega)]
    have := h2 k (by omega)
    rw [if_neg (by omega), hx] at this
    rw [this]
    congr 1
    omega
  · rw [List.getElem?_set_ne (by omega)]
    by_cases e2 : i = k
    · rw [e2, List.getElem?_set_self (by omega), if_pos (by omega)]
      have := h2 (hs.length - 1 - k) (by omega)
      rw [if_neg (by omega), hy] at this
      exact this
    · rw [List.getElem?_set_ne (by omega), h2 i hi]
      by_cases c : i < k ∨ hs.length - k ≤ i
      · rw [if_pos c, if_pos (by omega)]
      · rw [if_neg c, if_neg (by omega)]
theorem RevMid.fin {hs cur : List HopD} {k : Nat} (h : RevMid hs cur k) (hk : hs.length ≤ 2 * k + 1) : cur = hs.reverse := by
  obtain ⟨h1, h2⟩ := h
  apply List.ext_getElem?
  intro i
  by_cases hi : i < hs.length
  · rw [h2 i hi, List.getElem?_reverse hi]
    split
    · rfl
    · rw [show hs.length - 1 - i = i by omega]
  · rw [List.getElem?_eq_none (by omega), List.getElem?_eq_none (by simp; omega)]

set_option maxRecDepth 100000 in
set_option maxHeartbeats 4000000 in
theorem reverseHops_any (b c n : Nat) (hs : List HopD) (w : World) (hH : HRow w b hs) (hn : hs.length = n) (hl : hs.length ≤ 1000) :
    Calls Tryz.prog 78 #[.slice (some ⟨b, 0, none⟩) n c] w fun e w' => e = .returned (.tuple #[]) ∧ HRow w' b hs.reverse ∧ (∀ g t cs, Blk w g t cs → g ≠ b → Blk w' g t cs) ∧ ∀ k (w0 : World), Below k w0 w → k ≤ b → Below k w0 w' := by
  subst hn
  have hlI : IntKind.i64.wrap ((hs.length : Int) - 1) = (hs.length : Int) - 1 := IntWalk.i64_in _ (by omega)
  go_enter Tryz.func78, Tryz.ntmps78
  go_wp2_with fail
  go_loopw [2, 3] (fun x y wr => ∃ (k : Nat) (cur : List HopD), k ≤ hs.length ∧ x = .int .i64 k ∧ y = .int .i64 ((hs.length : Int) - 1 - k) ∧ Hid (RevMid hs cur k) ∧ HRow wr b cur ∧ (∀ g t cs, Blk w g t cs → g ≠ b → Blk wr g t cs) ∧ ∀ k (w0 : World), Below k w0 w → k ≤ b → Below k w0 wr) (fun x _ _ => hs.length - (intOf x).toNat)
  case atStart => exact ⟨0, hs, Nat.zero_le _, rfl, by simp, Lib.hid (RevMid.start hs), hH, fun g t cs h _ => h, fun k w0 h _ => h⟩
  case round =>
    clear hH
    obtain ⟨k, cur, hk, rfl, rfl, HR, hH, hK, hB⟩ := hrel
    by_cases hlt : (k : Int) < (hs.length : Int) - 1 - k
    case neg =>
      have HE := Lib.hid (HR.out.fin (by omega))
      rw [HE.out] at hH
      go_wp2_with fail
      refine ⟨rfl, .tuple #[], by simp [results, Tryz.results78], ?_⟩
      exact ⟨rfl, hH, hK, hB⟩
    obtain ⟨x, hx⟩ := get_lt (l := cur) (k := k) (by rw [HR.out.1]; omega)
    obtain ⟨y, hy⟩ := get_lt (l := cur) (k := hs.length - 1 - k) (by rw [HR.out.1]; omega)
    have HN := Lib.hid (HR.out.step (by omega) hx hy)
    obtain ⟨x0, x1⟩ := hH.cell hx
    obtain ⟨y0, y1⟩ := hH.cell hy
    obtain ⟨j, hj⟩ : ∃ j : Nat, j = hs.length - 1 - k := ⟨_, rfl⟩
    have hji : (hs.length : Int) - 1 - k = (j : Int) := by omega
    have hjl : j < hs.length := by omega
    have hkj : k < j := by omega
    have hkl : k < hs.length := by omega
    rw [← hj] at y0 y1 HN
    rw [hji] at hlt ⊢
    have hcl := HR.out.1
    have HCL := Lib.hid hcl
    have HJI := Lib.hid hji
    clear hcl hji hj hx hy
    have hfz := hH.frozen
    have hbl := hH.lt
    have hw1 : IntKind.i64.wrap ((k : Int) + 1) = (k : Int) + 1 := IntWalk.i64_in _ (by omega)
    have hw2 : IntKind.i64.wrap ((j : Int) - 1) = (j : Int) - 1 := IntWalk.i64_in _ (by omega)
    go_wp2_with fail
    go_region
    have hH2 := ((hH.set k y (by rw [HCL.out]; exact hkl)).set j x (by rw [List.length_set, HCL.out]; exact hjl)).drew
    have hK2 : ∀ g t cs, Blk w g t cs → g ≠ b → Blk ((((wr.setCell ⟨b, k * 2, none⟩ (.int .i64 y.edge)).setCell ⟨b, k * 2 + 1, none⟩ (.int .i64 y.depart)).setCell ⟨b, j * 2, none⟩ (.int .i64 x.edge)).setCell ⟨b, j * 2 + 1, none⟩ (.int .i64 x.depart)).drew g t cs := fun g t cs h hne =>
      (((((hK g t cs h hne).far hne _).far hne _).far hne _).far hne _).drew
    have hB2 : ∀ q (w0 : World), Below q w0 w → q ≤ b → Below q w0 ((((wr.setCell ⟨b, k * 2, none⟩ (.int .i64 y.edge)).setCell ⟨b, k * 2 + 1, none⟩ (.int .i64 y.depart)).setCell ⟨b, j * 2, none⟩ (.int .i64 x.edge)).setCell ⟨b, j * 2 + 1, none⟩ (.int .i64 x.depart)).drew := fun q w0 h hq =>
      below_drew (((((hB q w0 h hq).setCell hq _).setCell hq _).setCell hq _).setCell hq _)
    clear x0 x1 y0 y1 hfz hbl
    go_wp2_with fail
    go_roundw
    case rel => exact ⟨k + 1, (cur.set k y).set j x, by omega, by go_num, by simp; have := HJI.out; omega, HN, hH2, hK2, hB2⟩
    case measure => simp [intOf]; omega
theorem reverseHops_nil (A : Option Addr) (c : Nat) (w : World) : Calls Tryz.prog 78 #[.slice A 0 c] w fun e w' => e = .returned (.tuple #[]) ∧ w = w' := by
  have hlI : IntKind.i64.wrap (-1) = -1 := IntWalk.i64_in _ (by omega)
  go_enter Tryz.func78, Tryz.ntmps78
  go_wp2_with fail
  go_loopw [2, 3] (fun x y wr => x = .int .i64 0 ∧ y = .int .i64 (-1) ∧ wr = w) (fun x _ _ => 0)
  case atStart => exact ⟨rfl, rfl, rfl⟩
  case round =>
    obtain ⟨rfl, rfl, rfl⟩ := hrel
    go_wp2_with fail
    refine ⟨rfl, .tuple #[], by simp [results, Tryz.results78], ?_⟩
    exact ⟨rfl, rfl⟩
end Go.Proofs.YtdpibehpmghghaaGreat
