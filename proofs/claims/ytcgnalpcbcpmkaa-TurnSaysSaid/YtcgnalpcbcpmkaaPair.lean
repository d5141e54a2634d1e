/- The walks of small things that the keeping laws begin with: the graph of a pair, the rest of a division, a hop among others, goes. -/
import Derived.Test.YtcgnalpcbcpmkaaOutP
import Derived.Test.YtcgnalpcbcpmkaaLawGoes
import Derived.Test.YtcgnalpcbcpmkaaEqual
namespace Go.Proofs.Ytcgnalpcbcpmkaa
open Go.RowKit

def pairG : GraphD := ⟨10, [⟨0, 10⟩, ⟨2, 9⟩], [⟨0, 1, [⟨1, 4, 3, 7⟩]⟩]⟩
def GraphOut (g : GraphD) (w : World) (e : Ending) (w' : World) : Prop := ∃ A c A' c', e = .returned (gV A c A' c' g) ∧ GraphAt w' A c A' c' g ∧ Below w.heap.size w w'
theorem slAt1 {α : Type} {R : World → Nat → Nat → α → Prop} {sz : Nat} {w : World} {b : Nat} {x : α} (hb : b < w.heap.size) (h : R w b 0 x) : SlAt R sz w (some ⟨b, 0, none⟩) [x] :=
  ⟨b, 0, fun i y hy => by
    cases i with
    | zero =>
      obtain rfl : x = y := by simpa using hy
      exact ⟨rfl, hb, by simpa using h⟩
    | succ i => simp at hy⟩
theorem slAt2 {α : Type} {R : World → Nat → Nat → α → Prop} {sz : Nat} {w : World} {b : Nat} {x y : α} (hb : b < w.heap.size) (h : R w b 0 x) (h2 : R w b sz y) : SlAt R sz w (some ⟨b, 0, none⟩) [x, y] :=
  ⟨b, 0, fun i z hz => by
    match i, hz with
    | 0, hz =>
      obtain rfl : x = z := by simpa using hz
      exact ⟨rfl, hb, by simpa using h⟩
    | 1, hz =>
      obtain rfl : y = z := by simpa using hz
      exact ⟨rfl, hb, by simpa using h2⟩
    | i + 2, hz => simp at hz⟩

set_option maxHeartbeats 1000000 in
theorem pair_any (w : World) : Calls Try.prog 71 #[] w (GraphOut pairG w) := by
  go_enter Try.func71, Try.ntmps71
  go_wp2
  refine bodyPost_ret (v := gV (some ⟨w.heap.size + 1, 0, none⟩) 2 (some ⟨w.heap.size + 3, 0, none⟩) 1 pairG) (by simp [results, Try.results71, go_sem, pairG]) rfl ?_
  refine ⟨some ⟨w.heap.size + 1, 0, none⟩, 2, some ⟨w.heap.size + 3, 0, none⟩, 1, rfl, ⟨by simp [I64, pairG], by simp [pairG], by simp [maxLen], by simp [pairG], by simp [maxLen], ?_, ?_⟩, by go_grown⟩
  · refine slAt2 (by simp) ?_ ?_ <;> simp [RIvl, cellIs, I64, go_sem]
  · refine slAt1 (by simp) ⟨⟨by simp [cellIs, go_sem], by simp [cellIs, go_sem], some ⟨w.heap.size + 2, 0, none⟩, 1, by simp [cellIs, go_sem], by simp, by simp [maxLen], slAt1 (by simp) (by simp [RLeg, cellIs, I64, go_sem])⟩, by simp [I64], by simp [I64]⟩

theorem rest_any (n m : Int) (w : World) (hn : I64 n) (hm : 0 < m) (hm2 : m ≤ 9223372036854775807) :
    Calls Try.prog 54 #[.int .i64 n, .int .i64 m] w fun e w' => e = .returned (.int .i64 (n % m)) ∧ w = w' := by
  obtain ⟨h0, h1⟩ := hn
  have hm0 : (m == 0) = false := by simp; omega
  have e1 : n.tmod m = if 0 ≤ n then n % m else -((-n) % m) := by
    split
    · rw [Int.tmod_eq_emod_of_nonneg (by omega)]
    · have := Int.neg_tmod (a := -n) (b := m)
      rw [Int.neg_neg] at this
      rw [this, Int.tmod_eq_emod_of_nonneg (by omega)]
  have b1 := Int.emod_nonneg n (show m ≠ 0 by omega)
  have b2 := Int.emod_lt_of_pos n hm
  have b3 := Int.emod_nonneg (-n) (show m ≠ 0 by omega)
  have b4 := Int.emod_lt_of_pos (-n) hm
  have key : n.tmod m < 0 → n.tmod m + m = n % m := by
    intro hneg
    have hn0 : ¬ 0 ≤ n := fun h => by rw [e1, if_pos h] at hneg; omega
    rw [e1, if_neg hn0] at hneg ⊢
    rw [Int.neg_emod, Int.natAbs_of_nonneg (by omega)] at hneg ⊢
    by_cases hd : m ∣ n
    · rw [if_pos hd] at hneg; omega
    · rw [if_neg hd]; omega
  have key2 : ¬ n.tmod m < 0 → n.tmod m = n % m := by
    intro hneg
    rw [e1] at hneg ⊢
    split
    · rfl
    · rename_i hn0
      rw [if_neg hn0] at hneg
      have h3 : (-n) % m = 0 := by omega
      have h4 : n % m = 0 := by
        have := Int.dvd_of_emod_eq_zero h3
        exact Int.emod_eq_zero_of_dvd (Int.dvd_neg.1 this)
      omega
  have c0 : -9223372036854775808 ≤ n.tmod m := by rw [e1]; split <;> omega
  have c1 : n.tmod m ≤ 9223372036854775807 := by rw [e1]; split <;> omega
  have K := Lib.hid key
  have K2 := Lib.hid key2
  clear key key2 e1
  generalize hq : n.tmod m = q at *
  by_cases hneg : q < 0
  · have hs := K.out hneg
    have HS := Lib.hid hs
    have hs0 : 0 ≤ q + m := by omega
    clear hs
    go_enter Try.func54, Try.ntmps54
    go_wp2
    go_ret
    exact ⟨ret_int (by rw [← HS.out]), rfl⟩
  · have HS := Lib.hid (K2.out hneg)
    go_enter Try.func54, Try.ntmps54
    go_wp2
    go_ret
    exact ⟨ret_int (by rw [← HS.out]), rfl⟩
end Go.Proofs.Ytcgnalpcbcpmkaa
