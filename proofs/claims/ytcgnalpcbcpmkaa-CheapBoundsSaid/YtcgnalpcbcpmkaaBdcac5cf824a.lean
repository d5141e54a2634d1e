/- One text: BoundSpec. -/
import Derived.Test.YtcgnalpcbcpmkaaBded4119261a
import Derived.Test.YtcgnalpcbcpmkaaBd0f08d7f12b
import Derived.Test.YtcgnalpcbcpmkaaBd3d7c8cd354
/- The pair's costs; what is cheapest costs no more than that with the fewest hops times the dearest; no program in sight. -/
namespace Go.Proofs.Ytcgnalpcbcpmkaa

theorem pair_costs {l : List Int} (h : CostsL pairG lCost 0 0 l) : l = [0, 7] := by
  obtain ⟨d, hd, rfl⟩ := h
  have low : ∀ p : Nat × Nat, (if p.1 = 0 then (0 : Int) else if p.1 = 1 then 7 else 0) ≤ d p := hd.2 _ ⟨fun p => ?_, ?_⟩
  · have c0 : d (0, 0) ≤ 0 := by have := hd.1.1 (0, 0); simpa [initC, pairG, aliveB] using this
    have c1 : d (0, 1) ≤ d (0, 0) := hd.1.2 _ (.inl ⟨0, 0, rfl, by decide, by decide, by decide⟩)
    have c4 : d (1, 4) ≤ d (0, 1) + 7 := hd.1.2 _ (.inr ⟨⟨0, 1, [⟨1, 4, 3, 7⟩]⟩, ⟨1, 4, 3, 7⟩, 4, 1, by simp [pairG], by decide, rfl⟩)
    have e0 := least_eq (d := d) (v := 0) (k := 10) (r := 0) (m := 0) (by omega) c0 (fun s => by simpa using low (0, s)) (by decide)
    have e1 := least_eq (d := d) (v := 1) (k := 10) (r := 4) (m := 7) (by omega) (by omega) (fun s => by simpa using low (1, s)) (by decide)
    show [(leastN d 0 10).1, (leastN d 1 10).1] = _
    rw [e0, e1]
  · unfold initC
    show (if p.1 = 0 then (0 : Int) else if p.1 = 1 then 7 else 0) ≤ _
    by_cases h0 : p.1 = 0
    · rw [if_pos h0]; split <;> simp [Never]
    · have hn : ¬ (aliveB pairG 0 0 = true ∧ (p.1 : Int) = 0 ∧ (p.2 : Int) = 0) := fun h => h0 (by have := h.2.1; omega)
      rw [if_neg h0, if_neg hn]
      split <;> simp [Never]
  · rintro y (⟨v, t, rfl, _, _, _⟩ | ⟨x, lg, te, t, hx, ha, rfl⟩)
    · exact Int.le_refl _
    · have hs := arrive_some ha
      simp only [pairG, List.mem_cons, List.not_mem_nil, or_false] at hx
      subst hx
      have := hs.1
      simp only [List.mem_cons, List.not_mem_nil, or_false] at this
      subst this
      simp [lCost]
section
variable {g : GraphD} {v s : Int}
theorem cost_by_hops {dc dh : Nat × Nat → Int} (hV : Valid g) (hv : 0 ≤ v ∧ v < g.lives.length) (hs : 0 ≤ s) (hc : CostL g lCost v s dc) (hh : CostL g lOne v s dh) {p : Nat × Nat} (hp : dh p < Never) : dc p ≤ 1000 * dh p := by
  have hbig := hc.big
  have hpos := hc.pos (light_cost hV)
  have hsm : ∀ q, dc q < Never → dc q ≤ 100000 := fun q hq => by
    have h1 := hc.told hV (light_cost hV) hv hs hq
    have h2 := alive_time hV h1.2.2
    omega
  have key := hh.2 (fun q => if dc q < Never then (dc q + 999) / 1000 else Never) ⟨fun q => ?_, ?_⟩ p
  · split at key
    · omega
    · omega
  · have h1 := hc.1.1 q
    show (if dc q < Never then (dc q + 999) / 1000 else Never) ≤ initC g v s q
    unfold initC at h1 ⊢
    split at h1
    · rename_i h2
      rw [if_pos h2, if_pos (by simp only [Never]; omega)]
      omega
    · rename_i h2
      rw [if_neg h2]
      split
      · rename_i h3
        have := hsm q h3
        simp only [Never]; omega
      · exact Int.le_refl _
  · rintro y (⟨u, r, rfl, h1, h2, h3⟩ | ⟨x, l, to, r, hx, ha, rfl⟩)
    · have h4 := hc.1.2 _ (.inl ⟨u, r, rfl, h1, h2, h3⟩)
      simp only at h4 ⊢
      by_cases hq : dc (u, r) < Never
      · rw [if_pos hq, if_pos (by omega)]; omega
      · rw [if_neg hq]
        split
        · rename_i h5
          have := hsm _ h5
          simp only [Never]; omega
        · exact Int.le_refl _
    · have h4 := hc.1.2 _ (.inr ⟨x, l, to, r, hx, ha, rfl⟩)
      have h6 := (hV.edges x hx).legs l (arrive_some ha).1
      simp only [lCost, lOne] at h4 ⊢
      by_cases hq : dc (x.a.toNat, r) < Never
      · have h7 := hsm _ hq
        rw [if_pos hq, if_pos (by simp only [Never]; omega)]; omega
      · rw [if_neg hq]
        split
        · rename_i h5
          have := hsm _ h5
          simp only [Never]; omega
        · omega
theorem least_by_hops {lc lh : List Int} (hV : Valid g) (hv : 0 ≤ v ∧ v < g.lives.length) (hs : 0 ≤ s) (hc : CostsL g lCost v s lc) (hh : CostsL g lOne v s lh) {k : Nat} (hk : k < g.lives.length) (hf : gi lh k < Never) : gi lc k ≤ gi lh k * 1000 := by
  obtain ⟨dc, hdc, rfl⟩ := hc
  obtain ⟨dh, hdh, rfl⟩ := hh
  rw [leastL_val hk] at hf ⊢
  rw [leastL_val hk]
  obtain ⟨r, h1, _, h2⟩ := leastN_at hf
  have h3 := cost_by_hops hV hv hs hdc hdh (p := (k, r)) (by omega)
  have h4 := leastN_all (d := dc) (v := k) h1
  omega
end
end Go.Proofs.Ytcgnalpcbcpmkaa
