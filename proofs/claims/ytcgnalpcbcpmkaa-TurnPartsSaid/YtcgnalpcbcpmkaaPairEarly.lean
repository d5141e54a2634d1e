/- The earliest and the latest times of the pair; no program in sight. -/
import Derived.Test.YtcgnalpcbcpmkaaLateMid
import Derived.Test.YtcgnalpcbcpmkaaPair
namespace Go.Proofs.Ytcgnalpcbcpmkaa

theorem pair_valid : Valid pairG := valid_of (by decide)
theorem pair_early {l : List Int} (h : EarlyL pairG 0 0 l) : l = [0, 4] := by
  have hV := pair_valid
  have hx := hV.edges ⟨0, 1, [⟨1, 4, 3, 7⟩]⟩ (by simp [pairG])
  refine h.eq ⟨rfl, ⟨fun i => ?_, ?_⟩, fun e he i => ?_⟩
  · match i with
    | 0 => decide
    | 1 => decide
    | n + 2 => rw [gi_far (by simp), startE_far (by simp [pairG])]; exact Int.le_refl _
  · intro x hx
    obtain ⟨y, hy, rfl⟩ := mem_arcsE.1 hx
    simp [pairG] at hy
    subst hy
    decide
  · have h0 := he.1 0
    have h1 := he.2 (arcE pairG ⟨0, 1, [⟨1, 4, 3, 7⟩]⟩) (mem_arcsE.2 ⟨_, by simp [pairG], rfl⟩)
    have e0 : gi (startE pairG 0 0) 0 = 0 := by decide
    rw [e0] at h0
    have h2 := earlyF_mono hV hx (e 0) 0 h0
    have e1 : earlyF pairG ⟨0, 1, [⟨1, 4, 3, 7⟩]⟩ 0 = 4 := by decide
    rw [e1] at h2
    simp only [arcE] at h1
    match i with
    | 0 => show e 0 ≤ 0; omega
    | 1 => show e 1 ≤ 4; exact Int.le_trans h1 h2
    | n + 2 =>
      have := he.1 (n + 2)
      rw [startE_far (by simp [pairG])] at this
      rw [gi_far (by simp)]
      exact this
theorem pair_late {l : List Int} (h : LateL pairG 1 5 l) : l = [2, 5] := by
  have hV := pair_valid
  have hx := hV.edges ⟨0, 1, [⟨1, 4, 3, 7⟩]⟩ (by simp [pairG])
  refine h.eq ⟨rfl, ⟨fun i => ?_, ?_⟩, fun e he i => ?_⟩
  · match i with
    | 0 => decide
    | 1 => decide
    | n + 2 => show - gi [2, 5] (n + 2) ≤ - gi (startL pairG 1 5) (n + 2); rw [gi_far (by simp), startL_far (by simp [pairG])]; exact Int.le_refl _
  · intro x hx
    obtain ⟨y, hy, rfl⟩ := mem_arcsD.1 hx
    simp [pairG] at hy
    subst hy
    decide
  · have h0 := he.1 1
    have h1 := he.2 (arcD pairG ⟨0, 1, [⟨1, 4, 3, 7⟩]⟩) (mem_arcsD.2 ⟨_, by simp [pairG], rfl⟩)
    have e0 : - gi (startL pairG 1 5) 1 = -5 := by decide
    have h0 : e 1 ≤ -5 := by rw [← e0]; exact h0
    have h2 := lastT_mono (s := 5) (t := - e 1) hV hx (by omega)
    have e1 : lastT pairG ⟨0, 1, [⟨1, 4, 3, 7⟩]⟩ 5 = 2 := by decide
    rw [e1] at h2
    simp only [arcD] at h1
    match i with
    | 0 => show e 0 ≤ -2; exact Int.le_trans h1 (by show - lastT pairG ⟨0, 1, [⟨1, 4, 3, 7⟩]⟩ (- e 1) ≤ -2; omega)
    | 1 => show e 1 ≤ -5; omega
    | n + 2 =>
      have : e (n + 2) ≤ - gi (startL pairG 1 5) (n + 2) := he.1 (n + 2)
      rw [startL_far (by simp [pairG])] at this
      show e (n + 2) ≤ - gi [2, 5] (n + 2)
      rw [gi_far (by simp)]
      exact this
end Go.Proofs.Ytcgnalpcbcpmkaa
