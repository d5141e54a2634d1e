/- The walk of timekeep.turned: the pair is turned round rightly. -/
import Derived.Test.YtcgnalpcbcpmkaaRev
import Derived.Test.YtcgnalpcbcpmkaaSame
import Derived.Test.YtcgnalpcbcpmkaaPair
namespace Go.Proofs.Ytcgnalpcbcpmkaa
open Go.RowKit

theorem pair_rev : revD pairG = ⟨10, [⟨0, 10⟩, ⟨1, 8⟩], [⟨1, 0, [⟨3, 6, 3, 7⟩]⟩]⟩ := by decide
theorem pair_revErr : revErr pairG = 0 := by decide
theorem pair_revOut : revOut pairG = ⟨10, [⟨0, 10⟩, ⟨1, 8⟩], [⟨1, 0, [⟨3, 6, 3, 7⟩]⟩]⟩ := by unfold revOut; rw [if_pos pair_revErr, pair_rev]
def backG : GraphD := ⟨10, [⟨0, 10⟩, ⟨1, 8⟩], [⟨1, 0, [⟨3, 6, 3, 7⟩]⟩]⟩

set_option maxRecDepth 100000 in
set_option maxHeartbeats 2000000 in
theorem turned_any (w : World) : Calls Try.prog 84 #[] w fun e w' => e = .returned (.bool true) ∧ Below w.heap.size w w' := by
  go_enter Try.func84, Try.ntmps84
  go_wp2_with fail
  refine (pair_any _).mono ?_
  rintro e w1 ⟨Ar, cr, Ar', cr', rfl, hGr, hb1⟩
  go_wp2_with fail
  refine (reverse_any _ _ _ _ pairG _ hGr).mono ?_
  rintro e w2 ⟨A, c, A', c', rfl, hG, hb2⟩
  rw [pair_revErr]
  have hG2 : GraphAt w2 A c A' c' backG := by rw [pair_revOut] at hG; exact hG
  rw [show revOut pairG = backG from pair_revOut]
  have hbw := ext_trans hb1 hb2
  clear hb1 hb2 hGr hG
  go_wp2_with fail
  refine (sameGraph_any A A' (some ⟨w2.heap.size + 1, 0, none⟩) (some ⟨w2.heap.size + 1 + 1 + 1, 0, none⟩) c c' 2 1 backG _ (hG2.ext (by go_grown)) ?_).mono ?_
  · refine ⟨by simp [I64, backG], by simp [backG], by simp [maxLen], by simp [backG], by simp [maxLen], ?_, ?_⟩
    · refine slAt2 (by simp) ?_ ?_ <;> simp [RIvl, cellIs, I64, go_sem]
    · refine slAt1 (by simp) ⟨⟨by simp [cellIs, go_sem], by simp [cellIs, go_sem], some ⟨w2.heap.size + 1 + 1, 0, none⟩, 1, by simp [cellIs, go_sem], by simp, by simp [maxLen], slAt1 (by simp) (by simp [RLeg, cellIs, I64, go_sem])⟩, by simp [I64], by simp [I64]⟩
  rintro e w3 ⟨rfl, hb3⟩
  have hb3 : Below w2.heap.size w2 w3 := ext_trans (by go_grown) hb3
  go_wp2_with fail
  go_ret
  exact ⟨rfl, ext_trans hbw hb3⟩
end Go.Proofs.Ytcgnalpcbcpmkaa
