/- Several texts in one: RevSpec, KeySpec, IvlSpec. -/
import Derived.Test.YtdpibehpmghghaaGreatBdbaf55b473b
import Derived.Test.YtdpibehpmghghaaGreatBd615d7ca311
/- Time turned round, as plain Lean: a right graph's is right; who goes there goes here, backward; no program in sight. -/
namespace Go.Proofs.YtdpibehpmghghaaGreat

theorem legs_after {h : Int} : ∀ (r : List LegD) (q : Int), legsErr h (some q) r = 0 → ∀ l, l ∈ r → q ≤ l.f
  | [], _, _, l, hl => by simp at hl
  | y :: r, q, he, l, hl => by
    have h1 : legOk y h = true := by
      cases h0 : legOk y h
      · rw [legsErr_bad h0] at he; simp at he
      · rfl
    by_cases hq : y.f < q
    · rw [legsErr_form h1 hq] at he; simp at he
    · rw [legsErr_next h1 hq] at he
      rcases List.mem_cons.1 hl with rfl | hl
      · omega
      · have := legs_after r y.t he l hl
        simp [legOk] at h1
        omega
theorem leaves_of {h t : Int} : ∀ (r : List LegD) (p : Option Int), legsErr h p r = 0 → ∀ l, l ∈ r → l.f ≤ t → t < l.t → leaves t r = some l
  | [], _, _, l, hl, _, _ => by simp at hl
  | y :: r, p, he, l, hl, h2, h3 => by
    have h1 : legOk y h = true := by
      cases h0 : legOk y h
      · rw [legsErr_bad h0] at he; simp at he
      · rfl
    have he2 : legsErr h (some y.t) r = 0 := by
      cases p with
      | none => rwa [legsErr_first h1] at he
      | some q =>
        by_cases hq : y.f < q
        · rw [legsErr_form h1 hq] at he; simp at he
        · rwa [legsErr_next h1 hq] at he
    rcases List.mem_cons.1 hl with rfl | hl
    · exact leaves_hit ⟨h2, h3⟩
    · have := legs_after r y.t he2 l hl
      rw [leaves_miss (by omega)]
      exact leaves_of r _ he2 l hl h2 h3
theorem arrive_leg {g : GraphD} {x : EdgeD} (hx : EdgeOk g x) {l : LegD} (hl : l ∈ x.legs) {t : Int} (h1 : l.f ≤ t) (h2 : t < l.t) (ha : aliveB g x.a t = true) (hh : t + l.time < g.h) (hb : aliveB g x.b (t + l.time) = true) : arrive g x t = some (l, t + l.time) := by
  unfold arrive
  rw [leaves_of x.legs none hx.err l hl h1 h2]
  simp only
  rw [if_pos ⟨ha, hh, hb⟩]
/-! ### the graph with time turned round -/
theorem max0 (x : Int) : (max 0 x = x ∧ 0 ≤ x) ∨ (max 0 x = 0 ∧ x < 0) := by
  by_cases h : 0 ≤ x
  · exact .inl ⟨Int.max_eq_right h, h⟩
  · exact .inr ⟨Int.max_eq_left (by omega), by omega⟩
def backLife (h : Int) (l : IvlD) : IvlD := ⟨h - l.t, h - l.f⟩
def backLeg (h : Int) (l : LegD) : LegD := ⟨max 0 (h - l.t - l.time), h - l.f - l.time, l.time, l.cost⟩
def backEdge (h : Int) (x : EdgeD) (l : LegD) : Option EdgeD := if (backLeg h l).f < (backLeg h l).t then some ⟨x.b, x.a, [backLeg h l]⟩ else none
def backEdges (h : Int) (x : EdgeD) : List EdgeD := x.legs.filterMap (backEdge h x)
def revD (g : GraphD) : GraphD := ⟨g.h, g.lives.map (backLife g.h), g.edges.flatMap (backEdges g.h)⟩
def revErr (g : GraphD) : Int := if graphErr g = 0 then (if 30 < (revD g).edges.length then 2 else 0) else graphErr g
theorem mem_rev {g : GraphD} {y : EdgeD} : y ∈ (revD g).edges ↔ ∃ x l, x ∈ g.edges ∧ l ∈ x.legs ∧ (backLeg g.h l).f < (backLeg g.h l).t ∧ y = ⟨x.b, x.a, [backLeg g.h l]⟩ := by
  simp only [revD, List.mem_flatMap, backEdges, List.mem_filterMap, backEdge]
  constructor
  · rintro ⟨x, hx, l, hl, he⟩
    split at he
    · rename_i hlt
      exact ⟨x, l, hx, hl, hlt, by simpa using he.symm⟩
    · simp at he
  · rintro ⟨x, l, hx, hl, hlt, rfl⟩
    exact ⟨x, hx, l, hl, by rw [if_pos hlt]⟩
theorem rev_valid {g : GraphD} (hV : Valid g) (hn : (revD g).edges.length ≤ 30) : Valid (revD g) := by
  refine ⟨hV.h0, hV.h1, by simp [revD]; exact hV.nl, hn, fun l hl => ?_, fun y hy => ?_⟩
  · simp only [revD, List.mem_map] at hl
    obtain ⟨l0, h0, rfl⟩ := hl
    have := hV.lives l0 h0
    simp only [backLife, revD]
    omega
  · obtain ⟨x, l, hx, hl, hlt, rfl⟩ := mem_rev.1 hy
    have ho := hV.edges x hx
    have h0 := ho.a0; have h1 := ho.a1; have h2 := ho.b0; have h3 := ho.b1
    have h4 := ho.legs l hl
    have hok : legOk (backLeg g.h l) g.h = true :=
      decide_eq_true ⟨Int.le_max_left _ _, hlt, by show g.h - l.f - l.time ≤ g.h; omega, h4.2.2.2.1, h4.2.2.2.2.1, h4.2.2.2.2.2.1, h4.2.2.2.2.2.2⟩
    refine ⟨h2, by simp [revD]; exact h3, h0, by simp [revD]; exact h1, by simp, fun m hm => ?_, by simp only [revD]; rw [legsErr_first hok]; rfl⟩
    obtain rfl : m = backLeg g.h l := by simpa using hm
    simpa [legOk, revD] using hok
theorem rev_alive {g : GraphD} {v t : Int} : aliveB (revD g) v (g.h - 1 - t) = aliveB g v t := by
  unfold aliveB
  simp only [revD, List.getElem?_map]
  cases g.lives[v.toNat]? with
  | none => rfl
  | some l =>
    simp only [Option.map_some, backLife]
    rw [decide_eq_decide]
    omega
/-- Who goes here goes there, backward. -/
theorem rev_arrive {g : GraphD} (hV : Valid g) {x : EdgeD} (hx : x ∈ g.edges) {t u : Int} {l : LegD} (h : arrive g x t = some (l, u)) :
    ∃ y, y ∈ (revD g).edges ∧ y.a = x.b ∧ y.b = x.a ∧ ∃ l', arrive (revD g) y (g.h - 1 - u) = some (l', g.h - 1 - t) := by
  obtain ⟨h1, h2, h3, h4, h5, h6, h7⟩ := arrive_some h
  have ho := hV.edges x hx
  have h8 := ho.legs l h1
  have hlt : (backLeg g.h l).f < (backLeg g.h l).t := by simp only [backLeg]; omega
  refine ⟨⟨x.b, x.a, [backLeg g.h l]⟩, mem_rev.2 ⟨x, l, hx, h1, hlt, rfl⟩, rfl, rfl, backLeg g.h l, ?_⟩
  have e1 : leaves (g.h - 1 - u) [backLeg g.h l] = some (backLeg g.h l) := leaves_hit (by simp only [backLeg]; omega)
  have e2 : g.h - 1 - u + (backLeg g.h l).time = g.h - 1 - t := by simp only [backLeg]; omega
  unfold arrive
  simp only [e1]
  rw [e2, rev_alive, rev_alive, if_pos ⟨h7, by simp only [revD]; omega, h6⟩]
/-- Who goes there goes here. -/
theorem rev_back {g : GraphD} (hV : Valid g) {y : EdgeD} (hy : y ∈ (revD g).edges) {s r : Int} {l' : LegD} (h : arrive (revD g) y s = some (l', r)) :
    ∃ x l, x ∈ g.edges ∧ x.a = y.b ∧ x.b = y.a ∧ arrive g x (g.h - 1 - r) = some (l, g.h - 1 - s) := by
  obtain ⟨x, l, hx, hl, hlt, rfl⟩ := mem_rev.1 hy
  obtain ⟨h1, h2, h3, h4, h5, h6, h7⟩ := arrive_some h
  obtain rfl : l' = backLeg g.h l := by simpa using h1
  have ho := hV.edges x hx
  have h8 := ho.legs l hl
  simp only [backLeg] at h2 h3 h4
  simp only [revD] at h5
  refine ⟨x, l, hx, rfl, rfl, ?_⟩
  have e1 : g.h - 1 - r + l.time = g.h - 1 - s := by omega
  have ha : aliveB g x.a (g.h - 1 - r) = true := by
    have := rev_alive (g := g) (v := x.a) (t := g.h - 1 - r)
    rw [show g.h - 1 - (g.h - 1 - r) = r by omega] at this
    rw [← this]; exact h7
  have hb : aliveB g x.b (g.h - 1 - s) = true := by
    have := rev_alive (g := g) (v := x.b) (t := g.h - 1 - s)
    rw [show g.h - 1 - (g.h - 1 - s) = s by omega] at this
    rw [← this]; exact h6
  rw [arrive_leg ho hl (by omega) (by omega) ha (by omega) (by rw [e1]; exact hb), e1]
/-! ### the latest times are the earliest ones, with time turned round -/
def turnT (h x : Int) : Int := if x = Never then -1 else h - 1 - x
theorem rev_late {g : GraphD} (hV : Valid g) (hV' : Valid (revD g)) {u e : Int} {d x : List Int} (hu : 0 ≤ u ∧ u < g.lives.length) (he : 0 ≤ e ∧ e < g.h) (hd : LateL g u e d) (hx : EarlyL (revD g) u (g.h - 1 - e) x) {k : Nat} (hk : k < g.lives.length) :
    gi d k = turnT g.h (gi x k) := by
  have hh := hV.h1
  have hlen : (revD g).lives.length = g.lives.length := by simp [revD]
  have hrh : (revD g).h = g.h := rfl
  have hhere : ∀ i, i < g.lives.length → gi x i < Never → 0 ≤ gi x i ∧ gi x i < g.h := fun i hi hn => by
    have := hx.here hV' ⟨hu.1, by rw [hlen]; exact hu.2, by omega, by rw [hrh]; omega⟩ (k := i) (by rw [hlen]; exact hi) hn
    exact ⟨this.2.2.1, this.2.2.2.1⟩
  have hbig : ∀ i, gi x i ≤ Never := fun i => hx.big (by omega) i
  have htl : ∀ i, i < g.lives.length → -1 ≤ turnT g.h (gi x i) := fun i hi => by
    unfold turnT
    split
    · omega
    · have := hbig i; have := hhere i hi (by omega); omega
  have hL : LateL g u e ((List.range g.lives.length).map fun i => turnT g.h (gi x i)) := by
    refine ⟨by simp, ⟨fun i => ?_, fun y hy => ?_⟩, fun f hf i => ?_⟩
    · refine Int.neg_le_neg ?_
      by_cases hi : i < g.lives.length
      · rw [gi_map_range hi, startL_val hi]
        split
        · rename_i hp
          have h1 := hx.2.1.1 i
          rw [startE_val (by rw [hlen]; exact hi), if_pos ⟨by rw [rev_alive]; exact hp.1, hp.2⟩] at h1
          unfold turnT
          rw [if_neg (by simp only [Never]; omega)]
          omega
        · exact htl i hi
      · rw [gi_map_range_far (by omega), startL_far (by omega)]; exact Int.le_refl _
    · obtain ⟨z, hz, rfl⟩ := mem_arcsD.1 hy
      have ho := hV.edges z hz
      have h0 := ho.a0; have h1 := ho.a1; have h2 := ho.b0; have h3 := ho.b1
      simp only [arcD]
      rw [gi_map_range (show z.a.toNat < g.lives.length by omega), gi_map_range (show z.b.toNat < g.lives.length by omega), Int.neg_neg]
      refine Int.neg_le_neg ?_
      by_cases hl : 0 ≤ lastT g z (turnT g.h (gi x z.b.toNat))
      · obtain ⟨lg, te, h4, h5⟩ := lastT_some hl
        have h6 := arrive_late hV ho h4
        have hnb : ¬ gi x z.b.toNat = Never := fun e => by unfold turnT at h5; rw [if_pos e] at h5; omega
        have h5' : te ≤ g.h - 1 - gi x z.b.toNat := by unfold turnT at h5; rwa [if_neg hnb] at h5
        obtain ⟨y', hy', ea, eb, l', h7⟩ := rev_arrive hV hz h4
        have ho' := hV'.edges y' hy'
        have h8 := earlyF_le hV' ho' (t := gi x z.b.toNat) (by omega) h7
        have h9 := hx.arc hy'
        rw [ea, eb] at h9
        have hxa : gi x z.a.toNat ≤ g.h - 1 - lastT g z (turnT g.h (gi x z.b.toNat)) := Int.le_trans h9 h8
        have hna : ¬ gi x z.a.toNat = Never := fun e => by rw [e] at hxa; simp only [Never] at hxa; omega
        show lastT g z (turnT g.h (gi x z.b.toNat)) ≤ turnT g.h (gi x z.a.toNat)
        unfold turnT at hxa ⊢
        rw [if_neg hna]
        omega
      · have := htl z.a.toNat (by omega)
        have := lastT_low (g := g) (x := z) (s := turnT g.h (gi x z.b.toNat))
        omega
    · by_cases hi : i < g.lives.length
      · show f i ≤ - gi ((List.range g.lives.length).map fun i => turnT g.h (gi x i)) i
        rw [gi_map_range hi]
        have hst : ∀ j, j < g.lives.length → -1 ≤ - f j := fun j hj => by
          have := hf.1 j
          simp only [startL_val hj] at this
          split at this <;> omega
        have hz := hx.2.2 (fun j => if j < g.lives.length then (if - f j < 0 then Never else g.h - 1 + f j) else 0) ⟨fun j => ?_, fun y hy => ?_⟩ i
        · simp only [if_pos hi] at hz
          have h1 := hst i hi
          unfold turnT
          split
          · omega
          · rename_i hn
            have h2 := hbig i
            split at hz
            · omega
            · omega
        · by_cases hj : j < g.lives.length
          · simp only [if_pos hj]
            rw [startE_val (by rw [hlen]; exact hj)]
            have h1 := hf.1 j
            simp only [startL_val hj] at h1
            rw [rev_alive]
            by_cases hp : aliveB g u e = true ∧ (j : Int) = u
            · rw [if_pos hp] at h1 ⊢
              rw [if_neg (by omega)]
              omega
            · rw [if_neg hp]
              split <;> simp only [Never] <;> omega
          · simp only [if_neg hj]
            rw [startE_far (by rw [hlen]; omega)]; exact Int.le_refl _
        · obtain ⟨z, hz, rfl⟩ := mem_arcsE.1 hy
          have ho := hV'.edges z hz
          have h0 := ho.a0; have h1 := ho.a1; have h2 := ho.b0; have h3 := ho.b1
          rw [hlen] at h1 h3
          have e1 : (arcE (revD g) z).a < g.lives.length := by simp only [arcE]; omega
          have e2 : (arcE (revD g) z).b < g.lives.length := by simp only [arcE]; omega
          simp only [if_pos e1, if_pos e2]
          show (if - f z.b.toNat < 0 then Never else g.h - 1 + f z.b.toNat) ≤ earlyF (revD g) z (if - f z.a.toNat < 0 then Never else g.h - 1 + f z.a.toNat)
          have hzb : (if - f z.b.toNat < 0 then Never else g.h - 1 + f z.b.toNat) ≤ Never := by
            have := hst z.b.toNat (by omega)
            split <;> simp only [Never] <;> omega
          rcases earlyF_cases hV' ho (if - f z.a.toNat < 0 then Never else g.h - 1 + f z.a.toNat) with h4 | ⟨s, lg, te, h4, h5, h6, _⟩
          · rw [h4]; exact hzb
          · rw [h6]
            have h7 := arrive_late hV' ho h5
            rw [hrh] at h7
            have hna : ¬ - f z.a.toNat < 0 := fun hn => by rw [if_pos hn] at h4; simp only [Never] at h4; omega
            rw [if_neg hna] at h4
            obtain ⟨q, lq, hq, qa, qb, hqa⟩ := rev_back hV hz h5
            have h8 := lastT_ge (s := - f z.a.toNat) hV (hV.edges q hq) hqa (by omega)
            have h9 := hf.2 (arcD g q) (mem_arcsD.2 ⟨q, hq, rfl⟩)
            simp only [arcD, qa, qb] at h9
            have h10 : g.h - 1 - te ≤ - f z.b.toNat := by omega
            rw [if_neg (by omega)]
            omega
      · have := hf.1 i
        simp only [startL_far (show g.lives.length ≤ i by omega)] at this
        show f i ≤ - gi ((List.range g.lives.length).map fun i => turnT g.h (gi x i)) i
        rw [gi_map_range_far (by omega)]
        exact this
  rw [hd.eq hL, gi_map_range hk]
end Go.Proofs.YtdpibehpmghghaaGreat
/- Values of any type over times, as lists of pieces; no program in sight (XMapSpec turned to any type). -/
namespace Go.Proofs.YtdpibehpmghghaaGreat

structure PieceG (α : Type) where
  f : Int
  t : Int
  v : α
/-- What is told at a time. -/
def atG {α : Type} : List (PieceG α) → Int → Option α
  | [], _ => none
  | x :: l, t => if x.f ≤ t ∧ t < x.t then some x.v else atG l t
def MapG {α : Type} (l : List (PieceG α)) : Prop := l.Pairwise (fun x y => x.t ≤ y.f ∧ (x.t = y.f → x.v ≠ y.v)) ∧ ∀ x, x ∈ l → x.f < x.t
section
variable {α : Type} {l r out : List (PieceG α)} {x y z : PieceG α} {t : Int} {v : α}
theorem atG_nil : atG ([] : List (PieceG α)) t = none := rfl
theorem atG_hit (h : x.f ≤ t ∧ t < x.t) : atG (x :: l) t = some x.v := by rw [atG, if_pos h]
theorem atG_miss (h : ¬ (x.f ≤ t ∧ t < x.t)) : atG (x :: l) t = atG l t := by rw [atG, if_neg h]
theorem atG_some : ∀ {l : List (PieceG α)}, atG l t = some v → ∃ x, x ∈ l ∧ x.f ≤ t ∧ t < x.t ∧ x.v = v
  | [], h => by simp [atG] at h
  | x :: l, h => by
    by_cases hx : x.f ≤ t ∧ t < x.t
    · rw [atG_hit hx] at h
      exact ⟨x, by simp, hx.1, hx.2, by simpa using h⟩
    · rw [atG_miss hx] at h
      obtain ⟨y, hy, h1⟩ := atG_some h
      exact ⟨y, List.mem_cons_of_mem _ hy, h1⟩
theorem atG_none : ∀ {l : List (PieceG α)}, (∀ x, x ∈ l → ¬ (x.f ≤ t ∧ t < x.t)) → atG l t = none
  | [], _ => rfl
  | x :: l, h => by rw [atG_miss (h x (by simp)), atG_none fun y hy => h y (List.mem_cons_of_mem _ hy)]
theorem atG_append : ∀ {l r : List (PieceG α)}, atG (l ++ r) t = (atG l t).or (atG r t)
  | [], r => by simp [atG]
  | x :: l, r => by
    rw [List.cons_append]
    by_cases hx : x.f ≤ t ∧ t < x.t
    · rw [atG_hit hx, atG_hit hx]; rfl
    · rw [atG_miss hx, atG_miss hx, atG_append]
theorem MapG.nil : MapG ([] : List (PieceG α)) := ⟨.nil, fun x h => by simp at h⟩
theorem MapG.tail (h : MapG (x :: l)) : MapG l := ⟨(List.pairwise_cons.1 h.1).2, fun y hy => h.2 y (List.mem_cons_of_mem _ hy)⟩
theorem MapG.past (h : MapG (x :: l)) (ht : atG l t = some v) : x.t ≤ t ∧ (t = x.t → v ≠ x.v) := by
  obtain ⟨y, hy, h1, _, h2⟩ := atG_some ht
  have h3 := (List.pairwise_cons.1 h.1).1 y hy
  refine ⟨by omega, fun e => ?_⟩
  rw [← h2]
  exact (h3.2 (by omega)).symm
theorem MapG.low (h : MapG (x :: l)) (ht : atG (x :: l) t = some v) : x.f ≤ t := by
  by_cases hx : x.f ≤ t ∧ t < x.t
  · exact hx.1
  · rw [atG_miss hx] at ht
    have := (h.past ht).1
    have := h.2 x (by simp)
    omega
theorem MapG.head (h : MapG (x :: l)) : atG (x :: l) x.f = some x.v := atG_hit ⟨Int.le_refl _, h.2 x (by simp)⟩
/-- What a map is written as, is told by what it tells. -/
theorem mapG_unique : ∀ {l r : List (PieceG α)}, MapG l → MapG r → (∀ t, atG l t = atG r t) → l = r
  | [], [], _, _, _ => rfl
  | [], y :: r, _, hr, h => by
    have h1 := h y.f
    rw [hr.head, atG_nil] at h1
    simp at h1
  | x :: l, [], hl, _, h => by
    have h1 := h x.f
    rw [hl.head, atG_nil] at h1
    simp at h1
  | x :: l, y :: r, hl, hr, h => by
    have hx := hl.2 x (by simp)
    have hy := hr.2 y (by simp)
    have e1 : x.f = y.f := by
      have h1 := hr.low (t := x.f) (by rw [← h]; exact hl.head)
      have h2 := hl.low (t := y.f) (by rw [h]; exact hr.head)
      omega
    have ev : x.v = y.v := by
      have h1 := h x.f
      rw [hl.head, e1, hr.head] at h1
      simpa using h1
    have e2 : x.t = y.t := by
      rcases Int.lt_trichotomy x.t y.t with h1 | h1 | h1
      · exfalso
        have h2 := h x.t
        rw [atG_hit (x := y) ⟨by omega, h1⟩, atG_miss (by omega)] at h2
        exact (hl.past h2).2 rfl ev.symm
      · exact h1
      · exfalso
        have h2 := (h y.t).symm
        rw [atG_hit (x := x) ⟨by omega, h1⟩, atG_miss (by omega)] at h2
        exact (hr.past h2).2 rfl ev
    have e : x = y := by
      cases x; cases y
      simp only at e1 e2 ev
      subst e1 e2 ev
      rfl
    subst e
    congr 1
    refine mapG_unique hl.tail hr.tail fun t => ?_
    have h1 := h t
    by_cases ht : x.f ≤ t ∧ t < x.t
    · have k1 : atG l t = none := by
        cases hc : atG l t with
        | none => rfl
        | some v => have := (hl.past hc).1; omega
      have k2 : atG r t = none := by
        cases hc : atG r t with
        | none => rfl
        | some v => have := (hr.past hc).1; omega
      rw [k1, k2]
    · rwa [atG_miss ht, atG_miss ht] at h1
theorem MapG.init (h : MapG (out ++ [z])) : MapG out := ⟨(List.pairwise_append.1 h.1).1, fun y hy => h.2 y (List.mem_append_left _ hy)⟩
theorem MapG.snoc_lt (h : MapG (out ++ [z])) {y : PieceG α} (hy : y ∈ out) : y.t ≤ z.f ∧ (y.t = z.f → y.v ≠ z.v) := (List.pairwise_append.1 h.1).2.2 y hy z (by simp)
theorem MapG.snoc (h : MapG out) (hx : x.f < x.t) (hl : ∀ y, y ∈ out → y.t ≤ x.f ∧ (y.t = x.f → y.v ≠ x.v)) : MapG (out ++ [x]) := by
  refine ⟨List.pairwise_append.2 ⟨h.1, by simp, fun y hy u hu => ?_⟩, fun y hy => ?_⟩
  · obtain rfl : u = x := by simpa using hu
    exact hl y hy
  · rcases List.mem_append.1 hy with hy | hy
    · exact h.2 y hy
    · obtain rfl : y = x := by simpa using hy
      exact hx
theorem MapG.grow (h : MapG (out ++ [z])) {n : Int} (hn : z.t ≤ n) : MapG (out ++ [⟨z.f, n, z.v⟩]) :=
  h.init.snoc (by have := h.2 z (by simp); simp only; omega) fun _ hy => h.snoc_lt hy
theorem MapG.rise (h : MapG (out ++ [z])) : ∀ y, y ∈ out ++ [z] → y.t ≤ z.t := fun y hy => by
  rcases List.mem_append.1 hy with hy | hy
  · have := h.snoc_lt hy; have := h.2 z (by simp); omega
  · obtain rfl : y = z := by simpa using hy
    exact Int.le_refl _
/-- Who is told ahead of the last one ends ahead of it. -/
theorem MapG.ahead (h : MapG (out ++ [z])) {y : PieceG α} (hy : y ∈ out) : y.t < z.t := by
  have := h.snoc_lt hy; have := h.2 z (by simp); omega
end
/-! ### a map, written between one bound and the next -/
structure ToldG {α : Type} (fn : Int → Option α) (b a : Int) (out : List (PieceG α)) : Prop where
  map : MapG out
  tells : ∀ t, atG out t = if b ≤ t ∧ t < a then fn t else none
  low : ∀ y, y ∈ out → y.t ≤ a
section
variable {α : Type} {fn : Int → Option α} {b a c : Int} {v : α} {out o : List (PieceG α)} {z : PieceG α}
theorem ToldG.start : ToldG fn a a [] := ⟨.nil, fun t => by rw [atG_nil, if_neg (by omega)], fun y h => by simp at h⟩
theorem ToldG.skip (h : ToldG fn b a out) (hac : a < c) (hfn : ∀ t, a ≤ t → t < c → fn t = fn a) (hn : fn a = none) : ToldG fn b c out := by
  refine ⟨h.map, fun t => ?_, fun y hy => by have := h.low y hy; omega⟩
  rw [h.tells t]
  by_cases h1 : b ≤ t ∧ t < a
  · rw [if_pos h1, if_pos (by omega)]
  · rw [if_neg h1]
    split
    · rw [hfn t (by omega) (by omega), hn]
    · rfl
theorem ToldG.grow (h : ToldG fn b a (o ++ [z])) (_ : b ≤ a) (hac : a < c) (hfn : ∀ t, a ≤ t → t < c → fn t = fn a) (hv : fn a = some z.v) (hz : z.t = a) : ToldG fn b c (o ++ [⟨z.f, c, z.v⟩]) := by
  have hzl := h.map.2 z (by simp)
  have hzf : b ≤ z.f := by
    have h1 := h.tells z.f
    have h2 : atG (o ++ [z]) z.f = some z.v := by
      rw [atG_append, atG_none fun y hy => by have := h.map.snoc_lt hy; omega]
      exact atG_hit ⟨Int.le_refl _, hzl⟩
    rw [h2] at h1
    refine Classical.byContradiction fun hn => ?_
    rw [if_neg (by omega)] at h1
    simp at h1
  refine ⟨h.map.grow (by omega), fun t => ?_, fun y hy => ?_⟩
  · have h1 := h.tells t
    rw [atG_append] at h1 ⊢
    cases hc : atG o t with
    | some u =>
      rw [hc] at h1
      obtain ⟨q, hq, k1, k2, _⟩ := atG_some hc
      have := h.low q (List.mem_append_left _ hq)
      simp only [Option.or] at h1 ⊢
      rw [h1]
      by_cases hb : b ≤ t ∧ t < a
      · rw [if_pos hb, if_pos (by omega)]
      · rw [if_neg hb] at h1; simp at h1
    | none =>
      rw [hc] at h1
      simp only [Option.none_or] at h1 ⊢
      by_cases ht : z.f ≤ t ∧ t < c
      · rw [atG_hit (by simpa using ht), if_pos (by omega)]
        by_cases hta : t < a
        · rw [atG_hit ⟨ht.1, by omega⟩, if_pos (by omega)] at h1
          simp only
          exact h1
        · rw [hfn t (by omega) ht.2, hv]
      · rw [atG_miss (by simpa using ht), atG_nil]
        rw [atG_miss (by omega), atG_nil] at h1
        by_cases hb : b ≤ t ∧ t < c
        · rw [if_pos hb]
          rw [if_pos (by omega)] at h1
          exact h1
        · rw [if_neg hb]
  · rcases List.mem_append.1 hy with hy | hy
    · have := h.low y (List.mem_append_left _ hy); omega
    · obtain rfl : y = _ := by simpa using hy
      exact Int.le_refl _
theorem ToldG.next (h : ToldG fn b a out) (hba : b ≤ a) (hac : a < c) (hfn : ∀ t, a ≤ t → t < c → fn t = fn a) (hv : fn a = some v) (hz : ∀ y, y ∈ out → y.t = a → y.v ≠ v) : ToldG fn b c (out ++ [⟨a, c, v⟩]) := by
  refine ⟨h.map.snoc hac fun y hy => ⟨h.low y hy, fun e => hz y hy e⟩, fun t => ?_, fun y hy => ?_⟩
  · have h1 := h.tells t
    rw [atG_append, h1]
    by_cases hb : b ≤ t ∧ t < a
    · rw [if_pos hb, if_pos (by omega), atG_miss (by simp only; omega), atG_nil]
      simp
    · rw [if_neg hb]
      simp only [Option.none_or]
      by_cases hc : b ≤ t ∧ t < c
      · rw [if_pos hc, atG_hit (by simp only; omega), hfn t (by omega) (by omega), hv]
      · rw [if_neg hc, atG_miss (by simp only; omega), atG_nil]
  · rcases List.mem_append.1 hy with hy | hy
    · have := h.low y hy; omega
    · obtain rfl : y = _ := by simpa using hy
      exact Int.le_refl _
end
end Go.Proofs.YtdpibehpmghghaaGreat
/- Sets of times, as lists of intervals; no program in sight. -/
namespace Go.Proofs.YtdpibehpmghghaaGreat

/-- The time is in one of the intervals. -/
def hasB (l : List IvlD) (t : Int) : Bool := l.any fun x => decide (x.f ≤ t ∧ t < x.t)
/-- A set as it should be written: intervals that rise, none of them empty, none meets another one. -/
def NormL (l : List IvlD) : Prop := l.Pairwise (fun x y => x.t < y.f) ∧ ∀ x, x ∈ l → x.f < x.t
section
variable {l r out : List IvlD} {x y z : IvlD} {t : Int}
theorem has_nil : hasB [] t = false := rfl
theorem has_cons : hasB (x :: l) t = true ↔ (x.f ≤ t ∧ t < x.t) ∨ hasB l t = true := by simp [hasB]
theorem has_append : hasB (l ++ r) t = (hasB l t || hasB r t) := by simp [hasB]
theorem has_iff : hasB l t = true ↔ ∃ x, x ∈ l ∧ x.f ≤ t ∧ t < x.t := by simp [hasB]
theorem NormL.nil : NormL [] := ⟨.nil, fun x h => by simp at h⟩
theorem NormL.tail (h : NormL (x :: l)) : NormL l := ⟨(List.pairwise_cons.1 h.1).2, fun y hy => h.2 y (List.mem_cons_of_mem _ hy)⟩
theorem NormL.past (h : NormL (x :: l)) (ht : hasB l t = true) : x.t < t := by
  obtain ⟨y, hy, h1, _⟩ := has_iff.1 ht
  have := (List.pairwise_cons.1 h.1).1 y hy
  omega
theorem NormL.low (h : NormL (x :: l)) (ht : hasB (x :: l) t = true) : x.f ≤ t := by
  rcases has_cons.1 ht with h1 | h1
  · exact h1.1
  · have := h.past h1
    have := h.2 x (by simp)
    omega
/-- What a set is written as, is told by its times. -/
theorem norm_unique : ∀ {l r : List IvlD}, NormL l → NormL r → (∀ t, hasB l t = hasB r t) → l = r
  | [], [], _, _, _ => rfl
  | [], y :: r, _, hr, h => by
    have h1 := h y.f
    rw [has_nil, has_cons.2 (.inl ⟨Int.le_refl _, hr.2 y (by simp)⟩)] at h1
    simp at h1
  | x :: l, [], hl, _, h => by
    have h1 := h x.f
    rw [has_nil, has_cons.2 (.inl ⟨Int.le_refl _, hl.2 x (by simp)⟩)] at h1
    simp at h1
  | x :: l, y :: r, hl, hr, h => by
    have hx := hl.2 x (by simp)
    have hy := hr.2 y (by simp)
    have e1 : x.f = y.f := by
      have h1 := hr.low (t := x.f) (by rw [← h]; exact has_cons.2 (.inl ⟨Int.le_refl _, hx⟩))
      have h2 := hl.low (t := y.f) (by rw [h]; exact has_cons.2 (.inl ⟨Int.le_refl _, hy⟩))
      omega
    have e2 : x.t = y.t := by
      rcases Int.lt_trichotomy x.t y.t with h1 | h1 | h1
      · exfalso
        have h2 := h x.t
        rw [has_cons.2 (.inl ⟨by omega, h1⟩)] at h2
        rcases has_cons.1 h2 with h3 | h3
        · omega
        · have := hl.past h3; omega
      · exact h1
      · exfalso
        have h2 := (h y.t).symm
        rw [has_cons.2 (.inl ⟨by omega, h1⟩)] at h2
        rcases has_cons.1 h2 with h3 | h3
        · omega
        · have := hr.past h3; omega
    have e : x = y := by
      cases x; cases y
      simp only at e1 e2
      subst e1 e2
      rfl
    subst e
    congr 1
    refine norm_unique hl.tail hr.tail fun t => ?_
    rw [Bool.eq_iff_iff]
    constructor
    · intro ht
      have h1 := hl.past ht
      rcases has_cons.1 ((h t).symm.trans (has_cons.2 (.inr ht))) with h2 | h2
      · omega
      · exact h2
    · intro ht
      have h1 := hr.past ht
      rcases has_cons.1 ((h t).trans (has_cons.2 (.inr ht))) with h2 | h2
      · omega
      · exact h2
/-- The last of a set comes behind all else. -/
theorem NormL.snoc_lt (h : NormL (out ++ [z])) {y : IvlD} (hy : y ∈ out) : y.t < z.f := (List.pairwise_append.1 h.1).2.2 y hy z (by simp)
theorem NormL.snoc (h : NormL out) (hx : x.f < x.t) (hl : ∀ y, y ∈ out → y.t < x.f) : NormL (out ++ [x]) := by
  refine ⟨List.pairwise_append.2 ⟨h.1, by simp, fun y hy u hu => ?_⟩, fun y hy => ?_⟩
  · obtain rfl : u = x := by simpa using hu
    exact hl y hy
  · rcases List.mem_append.1 hy with hy | hy
    · exact h.2 y hy
    · obtain rfl : y = x := by simpa using hy
      exact hx
theorem NormL.init (h : NormL (out ++ [z])) : NormL out := ⟨(List.pairwise_append.1 h.1).1, fun y hy => h.2 y (List.mem_append_left _ hy)⟩
/-- The last one reaches further. -/
theorem NormL.grow (h : NormL (out ++ [z])) {n : Int} (hn : z.t ≤ n) : NormL (out ++ [⟨z.f, n⟩]) :=
  h.init.snoc (by have := h.2 z (by simp); simp only; omega) fun _ hy => h.snoc_lt hy
theorem has_snoc : hasB (out ++ [z]) t = true ↔ hasB out t = true ∨ (z.f ≤ t ∧ t < z.t) := by
  rw [has_append, Bool.or_eq_true, has_cons, has_nil]
  simp
theorem NormL.rise (h : NormL (out ++ [z])) : ∀ y, y ∈ out ++ [z] → y.t ≤ z.t := fun y hy => by
  rcases List.mem_append.1 hy with hy | hy
  · have := h.snoc_lt hy; have := h.2 z (by simp); omega
  · obtain rfl : y = z := by simpa using hy
    exact Int.le_refl _
end
/-! ### how the program writes a set: sorted intervals, one after the other -/
/-- All that comes is put together: what has been read, in what is told. -/
structure Merged (done out : List IvlD) (last : Int) : Prop where
  norm : NormL out
  has : ∀ t, hasB out t = hasB done t
  low : ∀ y, y ∈ out → y.f ≤ last
section
variable {dn out o : List IvlD} {x z : IvlD} {n : Int}
theorem Merged.start : Merged [] [] n := ⟨.nil, fun _ => rfl, fun y h => by simp at h⟩
theorem Merged.later {m : Int} (h : Merged dn out n) (hm : n ≤ m) : Merged dn out m := ⟨h.norm, h.has, fun y hy => by have := h.low y hy; omega⟩
theorem Merged.join (h : Merged dn (o ++ [z]) x.f) (_ : x.f < x.t) (hz : x.f ≤ z.t) : Merged (dn ++ [x]) (o ++ [⟨z.f, max z.t x.t⟩]) x.f := by
  have hl := h.low z (by simp)
  refine ⟨h.norm.grow (by omega), fun t => ?_, fun y hy => ?_⟩
  · have key : (z.f ≤ t ∧ t < max z.t x.t) ↔ (z.f ≤ t ∧ t < z.t) ∨ (x.f ≤ t ∧ t < x.t) := by omega
    rw [Bool.eq_iff_iff, has_snoc, has_snoc, ← h.has t, has_snoc, or_assoc, ← key]
  · rcases List.mem_append.1 hy with hy | hy
    · exact h.low y (List.mem_append_left _ hy)
    · obtain rfl : y = _ := by simpa using hy
      exact hl
theorem Merged.next (h : Merged dn out x.f) (hx : x.f < x.t) (hz : ∀ y, y ∈ out → y.t < x.f) : Merged (dn ++ [x]) (out ++ [x]) x.f := by
  refine ⟨h.norm.snoc hx hz, fun t => ?_, fun y hy => ?_⟩
  · rw [Bool.eq_iff_iff, has_snoc, has_snoc, h.has t]
  · rcases List.mem_append.1 hy with hy | hy
    · exact h.low y hy
    · obtain rfl : y = x := by simpa using hy
      exact Int.le_refl _
theorem Merged.next_ (h : Merged dn (o ++ [z]) x.f) (hx : x.f < x.t) (hz : z.t < x.f) : Merged (dn ++ [x]) (o ++ [z] ++ [x]) x.f :=
  h.next hx fun y hy => by have := h.norm.rise y hy; omega
end
/-! ### how the document writes a set: between two bounds, where something holds -/
/-- Behind the bound a: what holds between b and a is told. -/
structure Between (is : Int → Bool) (b a : Int) (out : List IvlD) : Prop where
  norm : NormL out
  has : ∀ t, hasB out t = true ↔ b ≤ t ∧ t < a ∧ is t = true
  low : ∀ y, y ∈ out → y.t ≤ a
section
variable {is : Int → Bool} {b a c : Int} {out o : List IvlD} {z : IvlD}
theorem Between.start : Between is a a [] := ⟨.nil, fun t => ⟨fun h => by simp [has_nil] at h, fun h => by omega⟩, fun y h => by simp at h⟩
theorem Between.skip (h : Between is b a out) (hac : a < c) (his : ∀ t, a ≤ t → t < c → is t = is a) (hn : is a = false) : Between is b c out := by
  refine ⟨h.norm, fun t => ?_, fun y hy => by have := h.low y hy; omega⟩
  rw [h.has t]
  constructor
  · rintro ⟨h1, h2, h3⟩; exact ⟨h1, by omega, h3⟩
  · rintro ⟨h1, h2, h3⟩
    refine ⟨h1, ?_, h3⟩
    by_cases hta : t < a
    · exact hta
    · rw [his t (by omega) h2, hn] at h3; simp at h3
theorem Between.grow (h : Between is b a (o ++ [z])) (hba : b ≤ a) (hac : a < c) (his : ∀ t, a ≤ t → t < c → is t = is a) (hy : is a = true) (hz : z.t = a) : Between is b c (o ++ [⟨z.f, c⟩]) := by
  have hzl := h.norm.2 z (by simp)
  refine ⟨h.norm.grow (by omega), fun t => ?_, fun y hy => ?_⟩
  · have h1 := h.has t
    rw [has_snoc] at h1
    rw [has_snoc]
    simp only
    constructor
    · rintro (h2 | h2)
      · obtain ⟨k1, k2, k3⟩ := h1.1 (.inl h2)
        exact ⟨k1, by omega, k3⟩
      · by_cases hta : t < a
        · obtain ⟨k1, k2, k3⟩ := h1.1 (.inr ⟨h2.1, by omega⟩)
          exact ⟨k1, by omega, k3⟩
        · exact ⟨by omega, by omega, by rw [his t (by omega) (by omega)]; exact hy⟩
    · rintro ⟨h2, h3, h4⟩
      by_cases hta : t < a
      · rcases h1.2 ⟨h2, hta, h4⟩ with k | k
        · exact .inl k
        · exact .inr ⟨k.1, by omega⟩
      · exact .inr ⟨by omega, h3⟩
  · rcases List.mem_append.1 hy with hy | hy
    · have := h.low y (List.mem_append_left _ hy); omega
    · obtain rfl : y = _ := by simpa using hy
      exact Int.le_refl _
theorem Between.next (h : Between is b a out) (hba : b ≤ a) (hac : a < c) (his : ∀ t, a ≤ t → t < c → is t = is a) (hy : is a = true) (hz : ∀ y, y ∈ out → y.t < a) : Between is b c (out ++ [⟨a, c⟩]) := by
  refine ⟨h.norm.snoc hac hz, fun t => ?_, fun y hy => ?_⟩
  · have h1 := h.has t
    rw [has_snoc, h1]
    simp only
    constructor
    · rintro (⟨k1, k2, k3⟩ | h2)
      · exact ⟨k1, by omega, k3⟩
      · exact ⟨by omega, by omega, by rw [his t (by omega) (by omega)]; exact hy⟩
    · rintro ⟨h2, h3, h4⟩
      by_cases hta : t < a
      · exact .inl ⟨h2, hta, h4⟩
      · exact .inr ⟨by omega, h3⟩
  · rcases List.mem_append.1 hy with hy | hy
    · have := h.low y hy; omega
    · obtain rfl : y = _ := by simpa using hy
      exact Int.le_refl _
end
end Go.Proofs.YtdpibehpmghghaaGreat
