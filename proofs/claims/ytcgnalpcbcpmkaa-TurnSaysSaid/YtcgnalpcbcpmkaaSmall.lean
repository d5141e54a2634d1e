/- Small walks and lemmas that several texts use. -/
import Derived.Test.YtcgnalpcbcpmkaaSpec
import Derived.Test.YtcgnalpcbcpmkaaProg
namespace Go.Proofs.Ytcgnalpcbcpmkaa
open Go.RowKit

theorem in_any (n lo hi : Int) (w : World) : Calls Try.prog 46 #[.int .i64 n, .int .i64 lo, .int .i64 hi] w fun e w' => e = .returned (.bool (inB n lo hi)) ∧ w = w' := by
  go_enter Try.func46, Try.ntmps46
  go_wp2
  all_goals go_ret
  all_goals exact ⟨ret_bool (by rw [Bool.eq_iff_iff]; simp [inB]; try omega), rfl⟩

theorem inB_true' {n lo hi : Int} (h : lo ≤ n ∧ n ≤ hi) : inB n lo hi = true := by simp [inB, h]
theorem inB_false' {n lo hi : Int} (h : ¬ (lo ≤ n ∧ n ≤ hi)) : inB n lo hi = false := by simp only [inB, decide_eq_false_iff_not]; exact h
theorem inB_iff {n lo hi : Int} : inB n lo hi = true ↔ lo ≤ n ∧ n ≤ hi := by simp [inB]
theorem inB_iff' {n lo hi : Int} : inB n lo hi = false ↔ ¬ (lo ≤ n ∧ n ≤ hi) := by simp only [inB, decide_eq_false_iff_not]
theorem legOk_true {l : LegD} {h : Int} (h1 : 0 ≤ l.f ∧ l.f < l.t ∧ l.t ≤ h ∧ 1 ≤ l.time ∧ l.time ≤ 50 ∧ 0 ≤ l.cost ∧ l.cost ≤ 1000) : legOk l h = true := by simp [legOk, h1]
theorem legOk_false {l : LegD} {h : Int} (h1 : ¬ (0 ≤ l.f ∧ l.f < l.t ∧ l.t ≤ h ∧ 1 ≤ l.time ∧ l.time ≤ 50 ∧ 0 ≤ l.cost ∧ l.cost ≤ 1000)) : legOk l h = false := by
  simp only [legOk, decide_eq_false_iff_not]; exact h1
theorem edgeErr_a {h n : Int} {x : EdgeD} (hh : inB x.a 0 (n - 1) = false) : edgeErr h n x = 4 := by unfold edgeErr; rw [if_pos (.inl hh)]
theorem edgeErr_b {h n : Int} {x : EdgeD} (hh : inB x.b 0 (n - 1) = false) : edgeErr h n x = 4 := by unfold edgeErr; rw [if_pos (.inr hh)]
theorem edgeErr_6 {h n : Int} {x : EdgeD} (h1 : inB x.a 0 (n - 1) = true) (h2 : inB x.b 0 (n - 1) = true) (h3 : 6 < x.legs.length) : edgeErr h n x = 2 := by
  unfold edgeErr; rw [if_neg (by simp [h1, h2]), if_pos h3]
theorem edgeErr_l {h n : Int} {x : EdgeD} (h1 : inB x.a 0 (n - 1) = true) (h2 : inB x.b 0 (n - 1) = true) (h3 : ¬ 6 < x.legs.length) : edgeErr h n x = legsErr h none x.legs := by
  unfold edgeErr; rw [if_neg (by simp [h1, h2]), if_neg h3]


end Go.Proofs.Ytcgnalpcbcpmkaa
