/- One text: ProfPair. -/
import Derived.Test.YtcfachfldanddaaBdc60da392f0
import Derived.Test.YtcfachfldanddaaBd0e3b3965a6
/- The profile of the pair; no program in sight (printed by genprofpair.py). -/
namespace Go.Proofs.Ytcfachfldanddaa

theorem pair_at0 {l : List Int} (h : EarlyL pairG 0 0 l) : l = [0, 4] := by
  have hV := pair_valid
  have hx := hV.edges ⟨0, 1, [⟨1, 4, 3, 7⟩]⟩ (by simp [pairG])
  refine h.eq ⟨rfl, ⟨fun i => ?_, ?_⟩, fun e he i => ?_⟩
  · match i with
    | 0 => decide
    | 1 => decide
    | n + 2 => rw [gi_far (by simp), startE_far (by simp [pairG])]; exact Int.le_refl _
  · intro x hx
    obtain ⟨y, hy, rfl⟩ := mem_arcsE.1 hx
    simp [pairG] at hy
    subst hy
    decide
  · have h0 := he.1 0
    have h1 := he.2 (arcE pairG ⟨0, 1, [⟨1, 4, 3, 7⟩]⟩) (mem_arcsE.2 ⟨_, by simp [pairG], rfl⟩)
    have e0 : gi (startE pairG 0 0) 0 = 0 := by decide
    rw [e0] at h0
    have h2 := earlyF_mono hV hx (e 0) 0 h0
    have e1 : earlyF pairG ⟨0, 1, [⟨1, 4, 3, 7⟩]⟩ 0 = 4 := by decide
    rw [e1] at h2
    simp only [arcE] at h1
    match i with
    | 0 => show e 0 ≤ 0; omega
    | 1 => show e 1 ≤ 4; exact Int.le_trans h1 h2
    | n + 2 =>
      have := he.1 (n + 2)
      rw [startE_far (by simp [pairG])] at this
      rw [gi_far (by simp)]
      exact this
theorem pair_at1 {l : List Int} (h : EarlyL pairG 0 1 l) : l = [1, 4] := by
  have hV := pair_valid
  have hx := hV.edges ⟨0, 1, [⟨1, 4, 3, 7⟩]⟩ (by simp [pairG])
  refine h.eq ⟨rfl, ⟨fun i => ?_, ?_⟩, fun e he i => ?_⟩
  · match i with
    | 0 => decide
    | 1 => decide
    | n + 2 => rw [gi_far (by simp), startE_far (by simp [pairG])]; exact Int.le_refl _
  · intro x hx
    obtain ⟨y, hy, rfl⟩ := mem_arcsE.1 hx
    simp [pairG] at hy
    subst hy
    decide
  · have h0 := he.1 0
    have h1 := he.2 (arcE pairG ⟨0, 1, [⟨1, 4, 3, 7⟩]⟩) (mem_arcsE.2 ⟨_, by simp [pairG], rfl⟩)
    have e0 : gi (startE pairG 0 1) 0 = 1 := by decide
    rw [e0] at h0
    have h2 := earlyF_mono hV hx (e 0) 1 h0
    have e1 : earlyF pairG ⟨0, 1, [⟨1, 4, 3, 7⟩]⟩ 1 = 4 := by decide
    rw [e1] at h2
    simp only [arcE] at h1
    match i with
    | 0 => show e 0 ≤ 1; omega
    | 1 => show e 1 ≤ 4; exact Int.le_trans h1 h2
    | n + 2 =>
      have := he.1 (n + 2)
      rw [startE_far (by simp [pairG])] at this
      rw [gi_far (by simp)]
      exact this
theorem pair_at2 {l : List Int} (h : EarlyL pairG 0 2 l) : l = [2, 5] := by
  have hV := pair_valid
  have hx := hV.edges ⟨0, 1, [⟨1, 4, 3, 7⟩]⟩ (by simp [pairG])
  refine h.eq ⟨rfl, ⟨fun i => ?_, ?_⟩, fun e he i => ?_⟩
  · match i with
    | 0 => decide
    | 1 => decide
    | n + 2 => rw [gi_far (by simp), startE_far (by simp [pairG])]; exact Int.le_refl _
  · intro x hx
    obtain ⟨y, hy, rfl⟩ := mem_arcsE.1 hx
    simp [pairG] at hy
    subst hy
    decide
  · have h0 := he.1 0
    have h1 := he.2 (arcE pairG ⟨0, 1, [⟨1, 4, 3, 7⟩]⟩) (mem_arcsE.2 ⟨_, by simp [pairG], rfl⟩)
    have e0 : gi (startE pairG 0 2) 0 = 2 := by decide
    rw [e0] at h0
    have h2 := earlyF_mono hV hx (e 0) 2 h0
    have e1 : earlyF pairG ⟨0, 1, [⟨1, 4, 3, 7⟩]⟩ 2 = 5 := by decide
    rw [e1] at h2
    simp only [arcE] at h1
    match i with
    | 0 => show e 0 ≤ 2; omega
    | 1 => show e 1 ≤ 5; exact Int.le_trans h1 h2
    | n + 2 =>
      have := he.1 (n + 2)
      rw [startE_far (by simp [pairG])] at this
      rw [gi_far (by simp)]
      exact this
theorem pair_at3 {l : List Int} (h : EarlyL pairG 0 3 l) : l = [3, 6] := by
  have hV := pair_valid
  have hx := hV.edges ⟨0, 1, [⟨1, 4, 3, 7⟩]⟩ (by simp [pairG])
  refine h.eq ⟨rfl, ⟨fun i => ?_, ?_⟩, fun e he i => ?_⟩
  · match i with
    | 0 => decide
    | 1 => decide
    | n + 2 => rw [gi_far (by simp), startE_far (by simp [pairG])]; exact Int.le_refl _
  · intro x hx
    obtain ⟨y, hy, rfl⟩ := mem_arcsE.1 hx
    simp [pairG] at hy
    subst hy
    decide
  · have h0 := he.1 0
    have h1 := he.2 (arcE pairG ⟨0, 1, [⟨1, 4, 3, 7⟩]⟩) (mem_arcsE.2 ⟨_, by simp [pairG], rfl⟩)
    have e0 : gi (startE pairG 0 3) 0 = 3 := by decide
    rw [e0] at h0
    have h2 := earlyF_mono hV hx (e 0) 3 h0
    have e1 : earlyF pairG ⟨0, 1, [⟨1, 4, 3, 7⟩]⟩ 3 = 6 := by decide
    rw [e1] at h2
    simp only [arcE] at h1
    match i with
    | 0 => show e 0 ≤ 3; omega
    | 1 => show e 1 ≤ 6; exact Int.le_trans h1 h2
    | n + 2 =>
      have := he.1 (n + 2)
      rw [startE_far (by simp [pairG])] at this
      rw [gi_far (by simp)]
      exact this
theorem pair_at4 {l : List Int} (h : EarlyL pairG 0 4 l) : l = [4, 1099511627776] := by
  have hV := pair_valid
  have hx := hV.edges ⟨0, 1, [⟨1, 4, 3, 7⟩]⟩ (by simp [pairG])
  refine h.eq ⟨rfl, ⟨fun i => ?_, ?_⟩, fun e he i => ?_⟩
  · match i with
    | 0 => decide
    | 1 => decide
    | n + 2 => rw [gi_far (by simp), startE_far (by simp [pairG])]; exact Int.le_refl _
  · intro x hx
    obtain ⟨y, hy, rfl⟩ := mem_arcsE.1 hx
    simp [pairG] at hy
    subst hy
    decide
  · have h0 := he.1 0
    have h1 := he.2 (arcE pairG ⟨0, 1, [⟨1, 4, 3, 7⟩]⟩) (mem_arcsE.2 ⟨_, by simp [pairG], rfl⟩)
    have e0 : gi (startE pairG 0 4) 0 = 4 := by decide
    rw [e0] at h0
    have h2 := earlyF_mono hV hx (e 0) 4 h0
    have e1 : earlyF pairG ⟨0, 1, [⟨1, 4, 3, 7⟩]⟩ 4 = 1099511627776 := by decide
    rw [e1] at h2
    simp only [arcE] at h1
    match i with
    | 0 => show e 0 ≤ 4; omega
    | 1 => show e 1 ≤ 1099511627776; exact Int.le_trans h1 h2
    | n + 2 =>
      have := he.1 (n + 2)
      rw [startE_far (by simp [pairG])] at this
      rw [gi_far (by simp)]
      exact this
theorem pair_at5 {l : List Int} (h : EarlyL pairG 0 5 l) : l = [5, 1099511627776] := by
  have hV := pair_valid
  have hx := hV.edges ⟨0, 1, [⟨1, 4, 3, 7⟩]⟩ (by simp [pairG])
  refine h.eq ⟨rfl, ⟨fun i => ?_, ?_⟩, fun e he i => ?_⟩
  · match i with
    | 0 => decide
    | 1 => decide
    | n + 2 => rw [gi_far (by simp), startE_far (by simp [pairG])]; exact Int.le_refl _
  · intro x hx
    obtain ⟨y, hy, rfl⟩ := mem_arcsE.1 hx
    simp [pairG] at hy
    subst hy
    decide
  · have h0 := he.1 0
    have h1 := he.2 (arcE pairG ⟨0, 1, [⟨1, 4, 3, 7⟩]⟩) (mem_arcsE.2 ⟨_, by simp [pairG], rfl⟩)
    have e0 : gi (startE pairG 0 5) 0 = 5 := by decide
    rw [e0] at h0
    have h2 := earlyF_mono hV hx (e 0) 5 h0
    have e1 : earlyF pairG ⟨0, 1, [⟨1, 4, 3, 7⟩]⟩ 5 = 1099511627776 := by decide
    rw [e1] at h2
    simp only [arcE] at h1
    match i with
    | 0 => show e 0 ≤ 5; omega
    | 1 => show e 1 ≤ 1099511627776; exact Int.le_trans h1 h2
    | n + 2 =>
      have := he.1 (n + 2)
      rw [startE_far (by simp [pairG])] at this
      rw [gi_far (by simp)]
      exact this
theorem pair_at6 {l : List Int} (h : EarlyL pairG 0 6 l) : l = [6, 1099511627776] := by
  have hV := pair_valid
  have hx := hV.edges ⟨0, 1, [⟨1, 4, 3, 7⟩]⟩ (by simp [pairG])
  refine h.eq ⟨rfl, ⟨fun i => ?_, ?_⟩, fun e he i => ?_⟩
  · match i with
    | 0 => decide
    | 1 => decide
    | n + 2 => rw [gi_far (by simp), startE_far (by simp [pairG])]; exact Int.le_refl _
  · intro x hx
    obtain ⟨y, hy, rfl⟩ := mem_arcsE.1 hx
    simp [pairG] at hy
    subst hy
    decide
  · have h0 := he.1 0
    have h1 := he.2 (arcE pairG ⟨0, 1, [⟨1, 4, 3, 7⟩]⟩) (mem_arcsE.2 ⟨_, by simp [pairG], rfl⟩)
    have e0 : gi (startE pairG 0 6) 0 = 6 := by decide
    rw [e0] at h0
    have h2 := earlyF_mono hV hx (e 0) 6 h0
    have e1 : earlyF pairG ⟨0, 1, [⟨1, 4, 3, 7⟩]⟩ 6 = 1099511627776 := by decide
    rw [e1] at h2
    simp only [arcE] at h1
    match i with
    | 0 => show e 0 ≤ 6; omega
    | 1 => show e 1 ≤ 1099511627776; exact Int.le_trans h1 h2
    | n + 2 =>
      have := he.1 (n + 2)
      rw [startE_far (by simp [pairG])] at this
      rw [gi_far (by simp)]
      exact this
theorem pair_at7 {l : List Int} (h : EarlyL pairG 0 7 l) : l = [7, 1099511627776] := by
  have hV := pair_valid
  have hx := hV.edges ⟨0, 1, [⟨1, 4, 3, 7⟩]⟩ (by simp [pairG])
  refine h.eq ⟨rfl, ⟨fun i => ?_, ?_⟩, fun e he i => ?_⟩
  · match i with
    | 0 => decide
    | 1 => decide
    | n + 2 => rw [gi_far (by simp), startE_far (by simp [pairG])]; exact Int.le_refl _
  · intro x hx
    obtain ⟨y, hy, rfl⟩ := mem_arcsE.1 hx
    simp [pairG] at hy
    subst hy
    decide
  · have h0 := he.1 0
    have h1 := he.2 (arcE pairG ⟨0, 1, [⟨1, 4, 3, 7⟩]⟩) (mem_arcsE.2 ⟨_, by simp [pairG], rfl⟩)
    have e0 : gi (startE pairG 0 7) 0 = 7 := by decide
    rw [e0] at h0
    have h2 := earlyF_mono hV hx (e 0) 7 h0
    have e1 : earlyF pairG ⟨0, 1, [⟨1, 4, 3, 7⟩]⟩ 7 = 1099511627776 := by decide
    rw [e1] at h2
    simp only [arcE] at h1
    match i with
    | 0 => show e 0 ≤ 7; omega
    | 1 => show e 1 ≤ 1099511627776; exact Int.le_trans h1 h2
    | n + 2 =>
      have := he.1 (n + 2)
      rw [startE_far (by simp [pairG])] at this
      rw [gi_far (by simp)]
      exact this
theorem pair_at8 {l : List Int} (h : EarlyL pairG 0 8 l) : l = [8, 1099511627776] := by
  have hV := pair_valid
  have hx := hV.edges ⟨0, 1, [⟨1, 4, 3, 7⟩]⟩ (by simp [pairG])
  refine h.eq ⟨rfl, ⟨fun i => ?_, ?_⟩, fun e he i => ?_⟩
  · match i with
    | 0 => decide
    | 1 => decide
    | n + 2 => rw [gi_far (by simp), startE_far (by simp [pairG])]; exact Int.le_refl _
  · intro x hx
    obtain ⟨y, hy, rfl⟩ := mem_arcsE.1 hx
    simp [pairG] at hy
    subst hy
    decide
  · have h0 := he.1 0
    have h1 := he.2 (arcE pairG ⟨0, 1, [⟨1, 4, 3, 7⟩]⟩) (mem_arcsE.2 ⟨_, by simp [pairG], rfl⟩)
    have e0 : gi (startE pairG 0 8) 0 = 8 := by decide
    rw [e0] at h0
    have h2 := earlyF_mono hV hx (e 0) 8 h0
    have e1 : earlyF pairG ⟨0, 1, [⟨1, 4, 3, 7⟩]⟩ 8 = 1099511627776 := by decide
    rw [e1] at h2
    simp only [arcE] at h1
    match i with
    | 0 => show e 0 ≤ 8; omega
    | 1 => show e 1 ≤ 1099511627776; exact Int.le_trans h1 h2
    | n + 2 =>
      have := he.1 (n + 2)
      rw [startE_far (by simp [pairG])] at this
      rw [gi_far (by simp)]
      exact this
theorem pair_at9 {l : List Int} (h : EarlyL pairG 0 9 l) : l = [9, 1099511627776] := by
  have hV := pair_valid
  have hx := hV.edges ⟨0, 1, [⟨1, 4, 3, 7⟩]⟩ (by simp [pairG])
  refine h.eq ⟨rfl, ⟨fun i => ?_, ?_⟩, fun e he i => ?_⟩
  · match i with
    | 0 => decide
    | 1 => decide
    | n + 2 => rw [gi_far (by simp), startE_far (by simp [pairG])]; exact Int.le_refl _
  · intro x hx
    obtain ⟨y, hy, rfl⟩ := mem_arcsE.1 hx
    simp [pairG] at hy
    subst hy
    decide
  · have h0 := he.1 0
    have h1 := he.2 (arcE pairG ⟨0, 1, [⟨1, 4, 3, 7⟩]⟩) (mem_arcsE.2 ⟨_, by simp [pairG], rfl⟩)
    have e0 : gi (startE pairG 0 9) 0 = 9 := by decide
    rw [e0] at h0
    have h2 := earlyF_mono hV hx (e 0) 9 h0
    have e1 : earlyF pairG ⟨0, 1, [⟨1, 4, 3, 7⟩]⟩ 9 = 1099511627776 := by decide
    rw [e1] at h2
    simp only [arcE] at h1
    match i with
    | 0 => show e 0 ≤ 9; omega
    | 1 => show e 1 ≤ 1099511627776; exact Int.le_trans h1 h2
    | n + 2 =>
      have := he.1 (n + 2)
      rw [startE_far (by simp [pairG])] at this
      rw [gi_far (by simp)]
      exact this
theorem pair_h : pairG.h = 10 := rfl
theorem pair_prof (t : Int) : profF pairG 0 1 t = atM [⟨0, 2, 4⟩, ⟨2, 3, 5⟩, ⟨3, 4, 6⟩] t := by
  by_cases ht : 0 ≤ t ∧ t < 10
  · have hpl : placeErr pairG 0 t = 0 := placeErr_0 (by decide) (by decide) (by unfold inB; rw [pair_h]; simp; omega)
    obtain ⟨l, hl⟩ := early_ex pair_valid 0 t (by omega)
    rw [profF_of hpl hl]
    have h10 : t = 0 ∨ t = 1 ∨ t = 2 ∨ t = 3 ∨ t = 4 ∨ t = 5 ∨ t = 6 ∨ t = 7 ∨ t = 8 ∨ t = 9 := by omega
    rcases h10 with rfl | rfl | rfl | rfl | rfl | rfl | rfl | rfl | rfl | rfl
    · rw [pair_at0 hl]; decide
    · rw [pair_at1 hl]; decide
    · rw [pair_at2 hl]; decide
    · rw [pair_at3 hl]; decide
    · rw [pair_at4 hl]; decide
    · rw [pair_at5 hl]; decide
    · rw [pair_at6 hl]; decide
    · rw [pair_at7 hl]; decide
    · rw [pair_at8 hl]; decide
    · rw [pair_at9 hl]; decide
  · rw [profF_out (by rw [pair_h]; exact ht), at_none]
    intro x hx
    simp only [List.mem_cons, List.not_mem_nil, or_false] at hx
    rcases hx with rfl | rfl | rfl <;> simp <;> omega
theorem of_pair {er : Int} {out : List PieceD} (h : OfSay pairG 0 1 er out) : er = 0 ∧ out = [⟨0, 2, 4⟩, ⟨2, 3, 5⟩, ⟨3, 4, 6⟩] := by
  unfold OfSay at h
  rw [if_pos (by decide), if_pos (by decide)] at h
  refine ⟨h.1, map_unique h.2.1 ⟨by decide, by decide⟩ fun t => by rw [h.2.2.1, pair_prof]⟩
end Go.Proofs.Ytcfachfldanddaa
