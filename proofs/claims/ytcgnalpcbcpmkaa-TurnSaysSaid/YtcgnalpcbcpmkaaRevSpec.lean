/- Time turned round, as plain Lean: a right graph's is right; who goes there goes here, backward; no program in sight. -/
import Derived.Test.YtcgnalpcbcpmkaaLateMid
namespace Go.Proofs.Ytcgnalpcbcpmkaa

theorem legs_after {h : Int} : ∀ (r : List LegD) (q : Int), legsErr h (some q) r = 0 → ∀ l, l ∈ r → q ≤ l.f
  | [], _, _, l, hl => by simp at hl
  | y :: r, q, he, l, hl => by
    have h1 : legOk y h = true := by
      cases h0 : legOk y h
      · rw [legsErr_bad h0] at he; simp at he
      · rfl
    by_cases hq : y.f < q
    · rw [legsErr_form h1 hq] at he; simp at he
    · rw [legsErr_next h1 hq] at he
      rcases List.mem_cons.1 hl with rfl | hl
      · omega
      · have := legs_after r y.t he l hl
        simp [legOk] at h1
        omega
theorem leaves_of {h t : Int} : ∀ (r : List LegD) (p : Option Int), legsErr h p r = 0 → ∀ l, l ∈ r → l.f ≤ t → t < l.t → leaves t r = some l
  | [], _, _, l, hl, _, _ => by simp at hl
  | y :: r, p, he, l, hl, h2, h3 => by
    have h1 : legOk y h = true := by
      cases h0 : legOk y h
      · rw [legsErr_bad h0] at he; simp at he
      · rfl
    have he2 : legsErr h (some y.t) r = 0 := by
      cases p with
      | none => rwa [legsErr_first h1] at he
      | some q =>
        by_cases hq : y.f < q
        · rw [legsErr_form h1 hq] at he; simp at he
        · rwa [legsErr_next h1 hq] at he
    rcases List.mem_cons.1 hl with rfl | hl
    · exact leaves_hit ⟨h2, h3⟩
    · have := legs_after r y.t he2 l hl
      rw [leaves_miss (by omega)]
      exact leaves_of r _ he2 l hl h2 h3
theorem arrive_leg {g : GraphD} {x : EdgeD} (hx : EdgeOk g x) {l : LegD} (hl : l ∈ x.legs) {t : Int} (h1 : l.f ≤ t) (h2 : t < l.t) (ha : aliveB g x.a t = true) (hh : t + l.time < g.h) (hb : aliveB g x.b (t + l.time) = true) : arrive g x t = some (l, t + l.time) := by
  unfold arrive
  rw [leaves_of x.legs none hx.err l hl h1 h2]
  simp only
  rw [if_pos ⟨ha, hh, hb⟩]
/-! ### the graph with time turned round -/
theorem max0 (x : Int) : (max 0 x = x ∧ 0 ≤ x) ∨ (max 0 x = 0 ∧ x < 0) := by
  by_cases h : 0 ≤ x
  · exact .inl ⟨Int.max_eq_right h, h⟩
  · exact .inr ⟨Int.max_eq_left (by omega), by omega⟩
def backLife (h : Int) (l : IvlD) : IvlD := ⟨h - l.t, h - l.f⟩
def backLeg (h : Int) (l : LegD) : LegD := ⟨max 0 (h - l.t - l.time), h - l.f - l.time, l.time, l.cost⟩
def backEdge (h : Int) (x : EdgeD) (l : LegD) : Option EdgeD := if (backLeg h l).f < (backLeg h l).t then some ⟨x.b, x.a, [backLeg h l]⟩ else none
def backEdges (h : Int) (x : EdgeD) : List EdgeD := x.legs.filterMap (backEdge h x)
def revD (g : GraphD) : GraphD := ⟨g.h, g.lives.map (backLife g.h), g.edges.flatMap (backEdges g.h)⟩
def revErr (g : GraphD) : Int := if graphErr g = 0 then (if 30 < (revD g).edges.length then 2 else 0) else graphErr g
theorem mem_rev {g : GraphD} {y : EdgeD} : y ∈ (revD g).edges ↔ ∃ x l, x ∈ g.edges ∧ l ∈ x.legs ∧ (backLeg g.h l).f < (backLeg g.h l).t ∧ y = ⟨x.b, x.a, [backLeg g.h l]⟩ := by
  simp only [revD, List.mem_flatMap, backEdges, List.mem_filterMap, backEdge]
  constructor
  · rintro ⟨x, hx, l, hl, he⟩
    split at he
    · rename_i hlt
      exact ⟨x, l, hx, hl, hlt, by simpa using he.symm⟩
    · simp at he
  · rintro ⟨x, l, hx, hl, hlt, rfl⟩
    exact ⟨x, hx, l, hl, by rw [if_pos hlt]⟩
theorem rev_valid {g : GraphD} (hV : Valid g) (hn : (revD g).edges.length ≤ 30) : Valid (revD g) := by
  refine ⟨hV.h0, hV.h1, by simp [revD]; exact hV.nl, hn, fun l hl => ?_, fun y hy => ?_⟩
  · simp only [revD, List.mem_map] at hl
    obtain ⟨l0, h0, rfl⟩ := hl
    have := hV.lives l0 h0
    simp only [backLife, revD]
    omega
  · obtain ⟨x, l, hx, hl, hlt, rfl⟩ := mem_rev.1 hy
    have ho := hV.edges x hx
    have h0 := ho.a0; have h1 := ho.a1; have h2 := ho.b0; have h3 := ho.b1
    have h4 := ho.legs l hl
    have hok : legOk (backLeg g.h l) g.h = true :=
      decide_eq_true ⟨Int.le_max_left _ _, hlt, by show g.h - l.f - l.time ≤ g.h; omega, h4.2.2.2.1, h4.2.2.2.2.1, h4.2.2.2.2.2.1, h4.2.2.2.2.2.2⟩
    refine ⟨h2, by simp [revD]; exact h3, h0, by simp [revD]; exact h1, by simp, fun m hm => ?_, by simp only [revD]; rw [legsErr_first hok]; rfl⟩
    obtain rfl : m = backLeg g.h l := by simpa using hm
    simpa [legOk, revD] using hok
theorem rev_alive {g : GraphD} {v t : Int} : aliveB (revD g) v (g.h - 1 - t) = aliveB g v t := by
  unfold aliveB
  simp only [revD, List.getElem?_map]
  cases g.lives[v.toNat]? with
  | none => rfl
  | some l =>
    simp only [Option.map_some, backLife]
    rw [decide_eq_decide]
    omega
/-- Who goes here goes there, backward. -/
theorem rev_arrive {g : GraphD} (hV : Valid g) {x : EdgeD} (hx : x ∈ g.edges) {t u : Int} {l : LegD} (h : arrive g x t = some (l, u)) :
    ∃ y, y ∈ (revD g).edges ∧ y.a = x.b ∧ y.b = x.a ∧ ∃ l', arrive (revD g) y (g.h - 1 - u) = some (l', g.h - 1 - t) := by
  obtain ⟨h1, h2, h3, h4, h5, h6, h7⟩ := arrive_some h
  have ho := hV.edges x hx
  have h8 := ho.legs l h1
  have hlt : (backLeg g.h l).f < (backLeg g.h l).t := by simp only [backLeg]; omega
  refine ⟨⟨x.b, x.a, [backLeg g.h l]⟩, mem_rev.2 ⟨x, l, hx, h1, hlt, rfl⟩, rfl, rfl, backLeg g.h l, ?_⟩
  have e1 : leaves (g.h - 1 - u) [backLeg g.h l] = some (backLeg g.h l) := leaves_hit (by simp only [backLeg]; omega)
  have e2 : g.h - 1 - u + (backLeg g.h l).time = g.h - 1 - t := by simp only [backLeg]; omega
  unfold arrive
  simp only [e1]
  rw [e2, rev_alive, rev_alive, if_pos ⟨h7, by simp only [revD]; omega, h6⟩]
/-- Who goes there goes here. -/
theorem rev_back {g : GraphD} (hV : Valid g) {y : EdgeD} (hy : y ∈ (revD g).edges) {s r : Int} {l' : LegD} (h : arrive (revD g) y s = some (l', r)) :
    ∃ x l, x ∈ g.edges ∧ x.a = y.b ∧ x.b = y.a ∧ arrive g x (g.h - 1 - r) = some (l, g.h - 1 - s) := by
  obtain ⟨x, l, hx, hl, hlt, rfl⟩ := mem_rev.1 hy
  obtain ⟨h1, h2, h3, h4, h5, h6, h7⟩ := arrive_some h
  obtain rfl : l' = backLeg g.h l := by simpa using h1
  have ho := hV.edges x hx
  have h8 := ho.legs l hl
  simp only [backLeg] at h2 h3 h4
  simp only [revD] at h5
  refine ⟨x, l, hx, rfl, rfl, ?_⟩
  have e1 : g.h - 1 - r + l.time = g.h - 1 - s := by omega
  have ha : aliveB g x.a (g.h - 1 - r) = true := by
    have := rev_alive (g := g) (v := x.a) (t := g.h - 1 - r)
    rw [show g.h - 1 - (g.h - 1 - r) = r by omega] at this
    rw [← this]; exact h7
  have hb : aliveB g x.b (g.h - 1 - s) = true := by
    have := rev_alive (g := g) (v := x.b) (t := g.h - 1 - s)
    rw [show g.h - 1 - (g.h - 1 - s) = s by omega] at this
    rw [← this]; exact h6
  rw [arrive_leg ho hl (by omega) (by omega) ha (by omega) (by rw [e1]; exact hb), e1]
/-! ### the latest times are the earliest ones, with time turned round -/
def turnT (h x : Int) : Int := if x = Never then -1 else h - 1 - x
theorem rev_late {g : GraphD} (hV : Valid g) (hV' : Valid (revD g)) {u e : Int} {d x : List Int} (hu : 0 ≤ u ∧ u < g.lives.length) (he : 0 ≤ e ∧ e < g.h) (hd : LateL g u e d) (hx : EarlyL (revD g) u (g.h - 1 - e) x) {k : Nat} (hk : k < g.lives.length) :
    gi d k = turnT g.h (gi x k) := by
  have hh := hV.h1
  have hlen : (revD g).lives.length = g.lives.length := by simp [revD]
  have hrh : (revD g).h = g.h := rfl
  have hhere : ∀ i, i < g.lives.length → gi x i < Never → 0 ≤ gi x i ∧ gi x i < g.h := fun i hi hn => by
    have := hx.here hV' ⟨hu.1, by rw [hlen]; exact hu.2, by omega, by rw [hrh]; omega⟩ (k := i) (by rw [hlen]; exact hi) hn
    exact ⟨this.2.2.1, this.2.2.2.1⟩
  have hbig : ∀ i, gi x i ≤ Never := fun i => hx.big (by omega) i
  have htl : ∀ i, i < g.lives.length → -1 ≤ turnT g.h (gi x i) := fun i hi => by
    unfold turnT
    split
    · omega
    · have := hbig i; have := hhere i hi (by omega); omega
  have hL : LateL g u e ((List.range g.lives.length).map fun i => turnT g.h (gi x i)) := by
    refine ⟨by simp, ⟨fun i => ?_, fun y hy => ?_⟩, fun f hf i => ?_⟩
    · refine Int.neg_le_neg ?_
      by_cases hi : i < g.lives.length
      · rw [gi_map_range hi, startL_val hi]
        split
        · rename_i hp
          have h1 := hx.2.1.1 i
          rw [startE_val (by rw [hlen]; exact hi), if_pos ⟨by rw [rev_alive]; exact hp.1, hp.2⟩] at h1
          unfold turnT
          rw [if_neg (by simp only [Never]; omega)]
          omega
        · exact htl i hi
      · rw [gi_map_range_far (by omega), startL_far (by omega)]; exact Int.le_refl _
    · obtain ⟨z, hz, rfl⟩ := mem_arcsD.1 hy
      have ho := hV.edges z hz
      have h0 := ho.a0; have h1 := ho.a1; have h2 := ho.b0; have h3 := ho.b1
      simp only [arcD]
      rw [gi_map_range (show z.a.toNat < g.lives.length by omega), gi_map_range (show z.b.toNat < g.lives.length by omega), Int.neg_neg]
      refine Int.neg_le_neg ?_
      by_cases hl : 0 ≤ lastT g z (turnT g.h (gi x z.b.toNat))
      · obtain ⟨lg, te, h4, h5⟩ := lastT_some hl
        have h6 := arrive_late hV ho h4
        have hnb : ¬ gi x z.b.toNat = Never := fun e => by unfold turnT at h5; rw [if_pos e] at h5; omega
        have h5' : te ≤ g.h - 1 - gi x z.b.toNat := by unfold turnT at h5; rwa [if_neg hnb] at h5
        obtain ⟨y', hy', ea, eb, l', h7⟩ := rev_arrive hV hz h4
        have ho' := hV'.edges y' hy'
        have h8 := earlyF_le hV' ho' (t := gi x z.b.toNat) (by omega) h7
        have h9 := hx.arc hy'
        rw [ea, eb] at h9
        have hxa : gi x z.a.toNat ≤ g.h - 1 - lastT g z (turnT g.h (gi x z.b.toNat)) := Int.le_trans h9 h8
        have hna : ¬ gi x z.a.toNat = Never := fun e => by rw [e] at hxa; simp only [Never] at hxa; omega
        show lastT g z (turnT g.h (gi x z.b.toNat)) ≤ turnT g.h (gi x z.a.toNat)
        unfold turnT at hxa ⊢
        rw [if_neg hna]
        omega
      · have := htl z.a.toNat (by omega)
        have := lastT_low (g := g) (x := z) (s := turnT g.h (gi x z.b.toNat))
        omega
    · by_cases hi : i < g.lives.length
      · show f i ≤ - gi ((List.range g.lives.length).map fun i => turnT g.h (gi x i)) i
        rw [gi_map_range hi]
        have hst : ∀ j, j < g.lives.length → -1 ≤ - f j := fun j hj => by
          have := hf.1 j
          simp only [startL_val hj] at this
          split at this <;> omega
        have hz := hx.2.2 (fun j => if j < g.lives.length then (if - f j < 0 then Never else g.h - 1 + f j) else 0) ⟨fun j => ?_, fun y hy => ?_⟩ i
        · simp only [if_pos hi] at hz
          have h1 := hst i hi
          unfold turnT
          split
          · omega
          · rename_i hn
            have h2 := hbig i
            split at hz
            · omega
            · omega
        · by_cases hj : j < g.lives.length
          · simp only [if_pos hj]
            rw [startE_val (by rw [hlen]; exact hj)]
            have h1 := hf.1 j
            simp only [startL_val hj] at h1
            rw [rev_alive]
            by_cases hp : aliveB g u e = true ∧ (j : Int) = u
            · rw [if_pos hp] at h1 ⊢
              rw [if_neg (by omega)]
              omega
            · rw [if_neg hp]
              split <;> simp only [Never] <;> omega
          · simp only [if_neg hj]
            rw [startE_far (by rw [hlen]; omega)]; exact Int.le_refl _
        · obtain ⟨z, hz, rfl⟩ := mem_arcsE.1 hy
          have ho := hV'.edges z hz
          have h0 := ho.a0; have h1 := ho.a1; have h2 := ho.b0; have h3 := ho.b1
          rw [hlen] at h1 h3
          have e1 : (arcE (revD g) z).a < g.lives.length := by simp only [arcE]; omega
          have e2 : (arcE (revD g) z).b < g.lives.length := by simp only [arcE]; omega
          simp only [if_pos e1, if_pos e2]
          show (if - f z.b.toNat < 0 then Never else g.h - 1 + f z.b.toNat) ≤ earlyF (revD g) z (if - f z.a.toNat < 0 then Never else g.h - 1 + f z.a.toNat)
          have hzb : (if - f z.b.toNat < 0 then Never else g.h - 1 + f z.b.toNat) ≤ Never := by
            have := hst z.b.toNat (by omega)
            split <;> simp only [Never] <;> omega
          rcases earlyF_cases hV' ho (if - f z.a.toNat < 0 then Never else g.h - 1 + f z.a.toNat) with h4 | ⟨s, lg, te, h4, h5, h6, _⟩
          · rw [h4]; exact hzb
          · rw [h6]
            have h7 := arrive_late hV' ho h5
            rw [hrh] at h7
            have hna : ¬ - f z.a.toNat < 0 := fun hn => by rw [if_pos hn] at h4; simp only [Never] at h4; omega
            rw [if_neg hna] at h4
            obtain ⟨q, lq, hq, qa, qb, hqa⟩ := rev_back hV hz h5
            have h8 := lastT_ge (s := - f z.a.toNat) hV (hV.edges q hq) hqa (by omega)
            have h9 := hf.2 (arcD g q) (mem_arcsD.2 ⟨q, hq, rfl⟩)
            simp only [arcD, qa, qb] at h9
            have h10 : g.h - 1 - te ≤ - f z.b.toNat := by omega
            rw [if_neg (by omega)]
            omega
      · have := hf.1 i
        simp only [startL_far (show g.lives.length ≤ i by omega)] at this
        show f i ≤ - gi ((List.range g.lives.length).map fun i => turnT g.h (gi x i)) i
        rw [gi_map_range_far (by omega)]
        exact this
  rw [hd.eq hL, gi_map_range hk]
end Go.Proofs.Ytcgnalpcbcpmkaa
