/- The walks of slices.Index and slices.Contains at hops, of timekeep.goes and of timekeep.walk: which hops a walk takes. -/
import Derived.Test.YtcgnalpcbcpmkaaPair
import Derived.Test.YtcgnalpcbcpmkaaJourneys
namespace Go.Proofs.Ytcgnalpcbcpmkaa
open Go.RowKit

/-- The slice from number k on. -/
theorem SlAt.drop {α : Type} {R : World → Nat → Nat → α → Prop} {sz : Nat} {w : World} {A : Option Addr} {l : List α} (h : SlAt R sz w A l) (k c : Nat) (hc : l.length ≤ c) :
    SlAt R sz w (if c = k then A else A.map (·.add (k * sz))) (l.drop k) := by
  obtain ⟨b, off, h⟩ := h
  refine ⟨b, off + k * sz, fun i x hx => ?_⟩
  rw [List.getElem?_drop] at hx
  obtain ⟨h1, h2, h3⟩ := h (k + i) x hx
  have := lt_of_get hx
  rw [if_neg (by omega)]
  refine ⟨by rw [h1]; simp [Addr.add], h2, ?_⟩
  have e : off + k * sz + i * sz = off + (k + i) * sz := by rw [Nat.add_mul]; omega
  rw [e]
  exact h3

def idxOf {α : Type} [DecidableEq α] (y : α) : Nat → List α → Int
  | _, [] => -1
  | k, x :: l => if y = x then k else idxOf y (k + 1) l
theorem idxOf_hit {α : Type} [DecidableEq α] {y x : α} {k : Nat} {l : List α} (h : y = x) : idxOf y k (x :: l) = k := by rw [idxOf, if_pos h]
theorem idxOf_miss {α : Type} [DecidableEq α] {y x : α} {k : Nat} {l : List α} (h : ¬ y = x) : idxOf y k (x :: l) = idxOf y (k + 1) l := by rw [idxOf, if_neg h]
theorem idxOf_mem {α : Type} [DecidableEq α] {y : α} : ∀ (l : List α) (k : Nat), (0 ≤ idxOf y k l ↔ y ∈ l) ∧ -1 ≤ idxOf y k l ∧ idxOf y k l < k + l.length
  | [], k => by simp [idxOf]; omega
  | x :: l, k => by
    have ih := idxOf_mem (y := y) l (k + 1)
    by_cases h : y = x
    · rw [idxOf_hit h, h]; simp; omega
    · rw [idxOf_miss h, List.mem_cons]
      refine ⟨by rw [ih.1]; simp [h], ih.2.1, ?_⟩
      have := ih.2.2
      simp at this ⊢
      omega

set_option maxHeartbeats 1000000 in
theorem indexHops_any (A : Option Addr) (c : Nat) (l : List HopD) (y : HopD) (w : World) (hA : SlAt RHop 2 w A l) (hl : l.length ≤ maxLen) :
    Calls Try.prog 104 #[.slice A l.length c, hopV y] w fun e w' => e = .returned (.int .i64 (idxOf y 0 l)) ∧ Below w.heap.size w w' := by
  unfold maxLen at hl
  obtain ⟨ba, oa, hA⟩ := hA
  go_enter Try.func104, Try.ntmps104
  go_wp2_with fail
  go_loopw [8] (fun v wr => ∃ k : Nat, k ≤ l.length ∧ v = .int .i64 k ∧ Hid (idxOf y k (l.drop k) = idxOf y 0 l) ∧ Below (w.heap.size + 1) (w.alloc (.cells #[.int .i64 y.edge, .int .i64 y.depart] 46)) wr) (fun v _ => l.length - (intOf v).toNat)
  case atStart => exact ⟨0, Nat.zero_le _, rfl, Lib.hid rfl, by go_grown⟩
  case round =>
    obtain ⟨k, hk, rfl, HI, hb⟩ := hrel
    have hw : Below w.heap.size w wr := (Below.refl _ _).alloc (Nat.le_refl _) _ |>.trans (hb.mono (by omega))
    have B0 := (Blk.new w 46 #[.int .i64 y.edge, .int .i64 y.depart]).below hb (by omega)
    obtain ⟨b1, b2, b3⟩ := B0.facts
    by_cases hlt : k < l.length
    · obtain ⟨x, hx⟩ := get_lt hlt
      obtain ⟨rfl, hba, ⟨x0, x1⟩, _⟩ := hA k x hx
      have x0' := x0.now hw
      have x1' := x1.now hw
      have HX := Lib.hid (drop_cons hx)
      clear hA hx x0 x1
      by_cases hxy : y = x
      · have HXY := Lib.hid hxy
        have hn : decide (y = x) = true := by simp [hxy]
        have hs := same_hop y x
        rw [hn] at hs
        have hgd := guard_hop
        clear hxy
        go_wp2_with fail
        go_quiet (fail)
        go_wp2
        go_ret
        exact ⟨ret_int (by rw [← HI.out, HX.out, idxOf_hit HXY.out]), below_drewN hw _⟩
      · have HXY := Lib.hid hxy
        have hn : decide (y = x) = false := by simp [hxy]
        have hs := same_hop y x
        rw [hn] at hs
        have hgd := guard_hop
        clear hxy
        go_wp2_with fail
        go_quiet (fail)
        go_wp2
        go_roundw
        case rel => exact ⟨k + 1, by omega, by go_num, Lib.hid (by rw [← HI.out, HX.out, idxOf_miss HXY.out]), below_drewN hb _⟩
        case measure => simp [intOf]; omega
    · go_wp2_with fail
      go_ret
      exact ⟨ret_int (by rw [← HI.out, drop_end (by omega)]; rfl), hw⟩

theorem containsHops_any (A : Option Addr) (c : Nat) (l : List HopD) (y : HopD) (w : World) (hA : SlAt RHop 2 w A l) (hl : l.length ≤ maxLen) :
    Calls Try.prog 58 #[.slice A l.length c, hopV y] w fun e w' => e = .returned (.bool (decide (y ∈ l))) ∧ Below w.heap.size w w' := by
  have hm := idxOf_mem (y := y) l 0
  by_cases hin : y ∈ l
  · have h1 := hm.1.2 hin
    have e : decide (y ∈ l) = true := by simp [hin]
    rw [e]
    have HL := Lib.hid hl
    clear hm hin e
    go_enter Try.func58, Try.ntmps58
    go_wp2_with fail
    refine (indexHops_any _ _ l y _ (hA.ext RHop.stable (by go_grown)) HL.out).mono ?_
    rintro e w1 ⟨rfl, hb1⟩
    have hb2 : Below w.heap.size w w1 := ext_trans (by go_grown) hb1
    go_wp2_with fail
    go_ret
    exact ⟨rfl, hb2⟩
  · have h1 : ¬ 0 ≤ idxOf y 0 l := fun h => hin (hm.1.1 h)
    have e : decide (y ∈ l) = false := by simp [hin]
    rw [e]
    have HL := Lib.hid hl
    clear hm hin e
    go_enter Try.func58, Try.ntmps58
    go_wp2_with fail
    refine (indexHops_any _ _ l y _ (hA.ext RHop.stable (by go_grown)) HL.out).mono ?_
    rintro e w1 ⟨rfl, hb1⟩
    have hb2 : Below w.heap.size w w1 := ext_trans (by go_grown) hb1
    go_wp2_with fail
    go_ret
    exact ⟨ret_bool (by simp; omega), hb2⟩

theorem pair_goes : goR pairG 0 0 [⟨0, 3⟩] = (1, 6, 7, 0) := by decide
theorem pair_not : goR pairG 0 0 [⟨0, 4⟩] = (0, 0, 0, 5) := by decide
set_option maxHeartbeats 1000000 in
theorem goes_any (w : World) : Calls Try.prog 52 #[] w fun e w' => e = .returned (.bool true) ∧ Below w.heap.size w w' := by
  go_enter Try.func52, Try.ntmps52
  go_wp2_with fail
  refine (pair_any _).mono ?_
  rintro e w1 ⟨A, c, A', c', rfl, hG, hb1⟩
  go_wp2_with fail
  refine (go_tuple _ _ _ _ _ _ pairG 0 0 [⟨0, 3⟩] _ (hG.ext (by go_grown)) (slAt1 (by simp) (by simp [RHop, cellIs, I64, go_sem])) (by simp [maxLen]) pair_goes).mono ?_
  rintro e w2 ⟨rfl, hb2⟩
  have hb3 : Below w.heap.size w w2 := ext_trans (ext_alloc hb1 _) hb2
  clear hb1 hb2 hG
  go_wp2_with fail
  refine (pair_any _).mono ?_
  rintro e w3 ⟨A, c, A', c', rfl, hG, hb4⟩
  have hb5 := ext_trans hb3 hb4
  go_wp2_with fail
  refine (go_tuple _ _ _ _ _ _ pairG 0 0 [⟨0, 4⟩] _ (hG.ext (by go_grown)) (slAt1 (by simp) (by simp [RHop, cellIs, I64, go_sem])) (by simp [maxLen]) pair_not).mono ?_
  rintro e w4 ⟨rfl, hb6⟩
  go_wp2_with fail
  go_ret
  exact ⟨rfl, ext_trans (ext_alloc hb5 _) hb6⟩
end Go.Proofs.Ytcgnalpcbcpmkaa
