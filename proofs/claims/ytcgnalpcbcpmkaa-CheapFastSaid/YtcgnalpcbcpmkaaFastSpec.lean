/- From which time one comes fastest, as plain Lean; no program in sight. -/
import Derived.Test.YtcgnalpcbcpmkaaPairEarly
namespace Go.Proofs.Ytcgnalpcbcpmkaa

/-- Of the first k times the one from which one comes fastest: how fast, and which. -/
structure FBest (g : GraphD) (v u k b a : Int) : Prop where
  a0 : 0 ≤ a
  a1 : a < k
  b0 : 0 ≤ b
  b1 : b ≤ 100
  here : ∃ l, EarlyL g v a l ∧ gi l u.toNat = a + b
  least : ∀ t l, 0 ≤ t → t < k → EarlyL g v t l → b ≤ gi l u.toNat - t ∧ (gi l u.toNat - t = b → a ≤ t)
def FNone (g : GraphD) (v u k : Int) : Prop := ∀ t l, 0 ≤ t → t < k → EarlyL g v t l → gi l u.toNat = Never
def FTried (g : GraphD) (v u k b a : Int) : Prop := (b = Never ∧ a = 0 ∧ FNone g v u k) ∨ FBest g v u k b a
section
variable {g : GraphD} {v u k b a x : Int} {l : List Int}
theorem FTried.start : FTried g v u 0 Never 0 := .inl ⟨rfl, rfl, fun t l h0 h1 => by omega⟩
theorem FTried.skip (h : FTried g v u k b a) (hk : 0 ≤ k ∧ k ≤ 100) (hl : EarlyL g v k l) (hx : gi l u.toNat = Never) : FTried g v u (k + 1) b a := by
  rcases h with ⟨h1, h2, h3⟩ | h
  · refine .inl ⟨h1, h2, fun t r h0 h4 h5 => ?_⟩
    by_cases e : t = k
    · rw [e] at h5; rw [h5.eq hl]; exact hx
    · exact h3 t r h0 (by omega) h5
  · refine .inr ⟨h.a0, by have := h.a1; omega, h.b0, h.b1, h.here, fun t r h0 h4 h5 => ?_⟩
    by_cases e : t = k
    · rw [e] at h5; rw [h5.eq hl, hx]; have := h.b1; simp only [Never]; omega
    · exact h.least t r h0 (by omega) h5
theorem FTried.stay (h : FTried g v u k b a) (hk : 0 ≤ k ∧ k ≤ 100) (hl : EarlyL g v k l) (hx : gi l u.toNat = x) (hn : x < Never) (hle : ¬ x - k < b) : FTried g v u (k + 1) b a := by
  rcases h with ⟨h1, h2, h3⟩ | h
  · omega
  · refine .inr ⟨h.a0, by have := h.a1; omega, h.b0, h.b1, h.here, fun t r h0 h4 h5 => ?_⟩
    by_cases e : t = k
    · rw [e] at h5; rw [h5.eq hl, hx]; have := h.a1; omega
    · exact h.least t r h0 (by omega) h5
theorem FTried.take (hV : Valid g) (h : FTried g v u k b a) (hk : 0 ≤ k ∧ k < g.h) (hv : 0 ≤ v ∧ v < g.lives.length) (hu : 0 ≤ u ∧ u < g.lives.length) (hl : EarlyL g v k l) (hx : gi l u.toNat = x) (hn : x < Never) (hlt : x - k < b) : FTried g v u (k + 1) (x - k) k := by
  have hh := hV.h1
  have hlow := hl.low hV (by omega) (k := u.toNat) (by omega)
  have hH := hl.here hV ⟨hv.1, hv.2, hk.1, hk.2⟩ (k := u.toNat) (by omega) (by rw [hx]; exact hn)
  have hH := hH.2.2.2.1
  rw [hx] at hH hlow
  refine .inr ⟨hk.1, by omega, by omega, by omega, ⟨l, hl, by rw [hx]; omega⟩, fun t r h0 h4 h5 => ?_⟩
  by_cases e : t = k
  · rw [e] at h5 ⊢; rw [h5.eq hl, hx]; omega
  · rcases h with ⟨h1, h2, h3⟩ | h
    · rw [h3 t r h0 (by omega) h5]; simp only [Never]; omega
    · have := (h.least t r h0 (by omega) h5).1; omega
end
/-- What Fastest tells. -/
inductive FastOk (g : GraphD) (v u : Int) : Int → Int → Int → Prop
  | bad (h : ¬ graphErr g = 0) : FastOk g v u 0 0 (graphErr g)
  | out (h : graphErr g = 0) (h2 : ¬ ((0 ≤ v ∧ v < g.lives.length) ∧ 0 ≤ u ∧ u < g.lives.length)) : FastOk g v u 0 0 4
  | none (h : graphErr g = 0) (hv : 0 ≤ v ∧ v < g.lives.length) (hu : 0 ≤ u ∧ u < g.lives.length) (h2 : FNone g v u g.h) : FastOk g v u 0 0 4
  | some {b a : Int} (h : graphErr g = 0) (hv : 0 ≤ v ∧ v < g.lives.length) (hu : 0 ≤ u ∧ u < g.lives.length) (h2 : FBest g v u g.h b a) : FastOk g v u b a 0
theorem FastOk.zero {g : GraphD} {v u d a er : Int} (h : FastOk g v u d a er) (h0 : ¬ er = 0) : d = 0 ∧ a = 0 := by
  cases h with
  | bad _ => exact ⟨rfl, rfl⟩
  | out _ _ => exact ⟨rfl, rfl⟩
  | none _ _ _ _ => exact ⟨rfl, rfl⟩
  | some _ _ _ _ => exact absurd rfl h0
theorem FastOk.best {g : GraphD} {v u d a er : Int} (h : FastOk g v u d a er) (h0 : er = 0) : graphErr g = 0 ∧ (0 ≤ v ∧ v < g.lives.length) ∧ (0 ≤ u ∧ u < g.lives.length) ∧ FBest g v u g.h d a := by
  cases h with
  | bad h => exact absurd h0 h
  | out _ _ => simp at h0
  | none _ _ _ _ => simp at h0
  | some h1 h2 h3 h4 => exact ⟨h1, h2, h3, h4⟩
/-- If nothing is told, one comes from no time. -/
theorem FastOk.never {g : GraphD} {v u d a er t : Int} {l : List Int} (h : FastOk g v u d a er) (h0 : ¬ er = 0) (hp : placeErr g v t = 0) (hu : 0 ≤ u ∧ u < g.lives.length) (hl : EarlyL g v t l) : gi l u.toNat = Never := by
  obtain ⟨hV, hv, ht0, ht1⟩ := place_of hp
  cases h with
  | bad h => exact absurd (valid_ok hV) h
  | out _ h2 => exact absurd ⟨hv, hu⟩ h2
  | none _ _ _ h2 => exact h2 t l ht0 ht1 hl
  | some _ _ _ _ => exact absurd rfl h0
/-! ### the pair -/
theorem pair_E (t : Int) (h0 : 0 ≤ t) (h1 : t ≤ 1) : EarlyL pairG 0 t [t, 4] := by
  have hV := pair_valid
  have hx := hV.edges ⟨0, 1, [⟨1, 4, 3, 7⟩]⟩ (by simp [pairG])
  have ht : t = 0 ∨ t = 1 := by omega
  rcases ht with rfl | rfl
  · refine ⟨rfl, ⟨fun i => ?_, ?_⟩, fun e he i => ?_⟩
    · match i with
      | 0 => decide
      | 1 => decide
      | n + 2 => rw [gi_far (by simp), startE_far (by simp [pairG])]; exact Int.le_refl _
    · intro x hx
      obtain ⟨y, hy, rfl⟩ := mem_arcsE.1 hx
      simp [pairG] at hy
      subst hy
      decide
    · have h0 := he.1 0
      have h1 := he.2 (arcE pairG ⟨0, 1, [⟨1, 4, 3, 7⟩]⟩) (mem_arcsE.2 ⟨_, by simp [pairG], rfl⟩)
      have e0 : gi (startE pairG 0 0) 0 = 0 := by decide
      rw [e0] at h0
      have h2 := earlyF_mono hV hx (e 0) 0 h0
      have e1 : earlyF pairG ⟨0, 1, [⟨1, 4, 3, 7⟩]⟩ 0 = 4 := by decide
      rw [e1] at h2
      simp only [arcE] at h1
      match i with
      | 0 => show e 0 ≤ 0; omega
      | 1 => show e 1 ≤ 4; exact Int.le_trans h1 h2
      | n + 2 =>
        have := he.1 (n + 2)
        rw [startE_far (by simp [pairG])] at this
        rw [gi_far (by simp)]
        exact this
  · refine ⟨rfl, ⟨fun i => ?_, ?_⟩, fun e he i => ?_⟩
    · match i with
      | 0 => decide
      | 1 => decide
      | n + 2 => rw [gi_far (by simp), startE_far (by simp [pairG])]; exact Int.le_refl _
    · intro x hx
      obtain ⟨y, hy, rfl⟩ := mem_arcsE.1 hx
      simp [pairG] at hy
      subst hy
      decide
    · have h0 := he.1 0
      have h1 := he.2 (arcE pairG ⟨0, 1, [⟨1, 4, 3, 7⟩]⟩) (mem_arcsE.2 ⟨_, by simp [pairG], rfl⟩)
      have e0 : gi (startE pairG 0 1) 0 = 1 := by decide
      rw [e0] at h0
      have h2 := earlyF_mono hV hx (e 0) 1 h0
      have e1 : earlyF pairG ⟨0, 1, [⟨1, 4, 3, 7⟩]⟩ 1 = 4 := by decide
      rw [e1] at h2
      simp only [arcE] at h1
      match i with
      | 0 => show e 0 ≤ 1; omega
      | 1 => show e 1 ≤ 4; exact Int.le_trans h1 h2
      | n + 2 =>
        have := he.1 (n + 2)
        rw [startE_far (by simp [pairG])] at this
        rw [gi_far (by simp)]
        exact this
theorem pair_fast {d a er : Int} (h : FastOk pairG 0 1 d a er) : d = 3 ∧ a = 1 ∧ er = 0 := by
  have hg : graphErr pairG = 0 := by decide
  have hE := pair_E 1 (by decide) (by decide)
  have hE0 := pair_E 0 (by decide) (by decide)
  have e1 : gi [(1 : Int), 4] (1 : Int).toNat = 4 := by decide
  have e0 : gi [(0 : Int), 4] (1 : Int).toNat = 4 := by decide
  have hh : pairG.h = 10 := rfl
  cases h with
  | bad h => exact absurd hg h
  | out _ h2 => exact absurd (by decide) h2
  | none _ _ _ h2 =>
    have := h2 1 _ (by decide) (by decide) hE
    rw [e1] at this
    simp [Never] at this
  | some _ _ _ hb =>
    have h1 := hb.least 1 _ (by decide) (by decide) hE
    have h0 := hb.least 0 _ (by decide) (by decide) hE0
    rw [e1] at h1
    rw [e0] at h0
    obtain ⟨l, hl, he⟩ := hb.here
    have ha0 := hb.a0; have ha1 := hb.a1; have hb1 := hb.b1
    have hV := pair_valid
    have hs : gi (startE pairG 0 a) 1 = Never := by
      rw [startE_val (by decide)]
      exact if_neg (fun h => by simp at h)
    have h3 : (1 : Int).toNat = 1 := rfl
    rw [h3] at he
    obtain ⟨x, dd, lg, hx, _, hle, har⟩ := hl.by_hop hV (k := 1) (by decide) (by rw [hs, he]; simp only [Never]; omega)
    have hx' : x = ⟨0, 1, [⟨1, 4, 3, 7⟩]⟩ := by simpa [pairG] using hx
    subst hx'
    have hal := arrive_some har
    have hlg : lg = ⟨1, 4, 3, 7⟩ := by simpa using hal.1
    subst hlg
    have hlow := hl.low hV (by omega) (k := 0) (by decide)
    have hz : (0 : Int).toNat = 0 := rfl
    simp only [hz] at hle
    have h4 := hal.2.2.2.1
    rw [he] at h4
    simp only at h4
    refine ⟨by omega, ?_, rfl⟩
    have hd : ¬ a = 0 := by
      intro e
      subst e
      rw [hl.eq hE0] at he
      have : gi [(0 : Int), 4] 1 = 4 := by decide
      rw [this] at he
      omega
    omega
end Go.Proofs.Ytcgnalpcbcpmkaa
