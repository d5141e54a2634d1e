/- The plain law of JourneyParts: a journey is its first part, and the rest from where one is then. No program in sight. -/
import Derived.Test.YtcgnalpcbcpmkaaJourneys
namespace Go.Proofs.Ytcgnalpcbcpmkaa
open Go.RowKit

theorem parts_plain {g : GraphD} {v t a b : Int} {q : List Int} {l : List HopD} (hq : q.length ≤ 20) (hw : walkL g v t q = (l, a, b)) :
    l.length ≤ 20 ∧ ((l = [] ∧ ∃ e, e ≠ 0 ∧ goR g v t [] = (0, 0, 0, e)) ∨
      ∃ d, goR g v t l = (a, b, d, 0) ∧ ∀ i, i ≤ l.length → ∃ m u x y, goR g v t (l.take i) = (m, u, x, 0) ∧ goR g m u (l.drop i) = (a, b, y, 0) ∧ x + y = d ∧ 0 ≤ x ∧ x ≤ 20000 ∧ 0 ≤ y ∧ y ≤ 20000) := by
  have hl : l.length ≤ 20 := by have := walkL_len (g := g) q v t; rw [hw] at this; simp only at this; omega
  refine ⟨hl, ?_⟩
  by_cases h0 : placeErr g v t = 0
  case neg =>
    left
    have := walkL_dead q h0
    rw [hw] at this
    exact ⟨(Prod.mk.inj this).1, _, h0, goR_place h0⟩
  cases hal : aliveB g v t
  case false =>
    left
    have := walkL_notalive q hal
    rw [hw] at this
    exact ⟨(Prod.mk.inj this).1, 5, by decide, goR_dead h0 (by simp) hal⟩
  right
  have hV := (place_of h0).1
  have hh := here_of h0 hal
  obtain ⟨d, hg⟩ := walkL_goes q v t h0
  rw [hw] at hg
  simp only at hg
  refine ⟨d, goR_here hV hh (by omega) hg, fun i hi => ?_⟩
  have h1 := goL_append (g := g) (l.take i) (l.drop i) v t 0
  rw [List.take_append_drop, hg] at h1
  cases h2 : goL g v t 0 (l.take i) with
  | none => rw [h2] at h1; simp at h1
  | some p =>
    obtain ⟨m, u, x⟩ := p
    rw [h2] at h1
    simp only [Option.bind_some] at h1
    rw [goL_cost] at h1
    cases h3 : goL g m u 0 (l.drop i) with
    | none => rw [h3] at h1; simp at h1
    | some p =>
      obtain ⟨a', b', y⟩ := p
      rw [h3] at h1
      simp only [Option.map_some, Option.some.injEq, Prod.mk.injEq] at h1
      obtain ⟨rfl, rfl, rfl⟩ := h1
      have k1 := goL_here hV _ _ _ _ _ _ _ hh h2
      have k2 := goL_here hV _ _ _ _ _ _ _ k1.1 h3
      have e1 : (l.take i).length ≤ 20 := by rw [List.length_take]; omega
      have e2 : (l.drop i).length ≤ 20 := by rw [List.length_drop]; omega
      exact ⟨m, u, x, y, goR_here hV hh (by omega) h2, goR_here hV k1.1 (by omega) h3, rfl, by omega, by omega, by omega, by omega⟩
end Go.Proofs.Ytcgnalpcbcpmkaa
