/- Several texts in one: RevSpec, TurnMem. -/
import Derived.Test.YtdpibehpmghghaaProg
import Derived.Test.YtdpibehpmghghaaBd17ef85ec3c
import Derived.Test.YtdpibehpmghghaaBd9264425ae5
/- Time turned round, as plain Lean: a right graph's is right; who goes there goes here, backward; no program in sight. -/
namespace Go.Proofs.Ytdpibehpmghghaa

theorem legs_after {h : Int} : ∀ (r : List LegD) (q : Int), legsErr h (some q) r = 0 → ∀ l, l ∈ r → q ≤ l.f
  | [], _, _, l, hl => by simp at hl
  | y :: r, q, he, l, hl => by
    have h1 : legOk y h = true := by
      cases h0 : legOk y h
      · rw [legsErr_bad h0] at he; simp at he
      · rfl
    by_cases hq : y.f < q
    · rw [legsErr_form h1 hq] at he; simp at he
    · rw [legsErr_next h1 hq] at he
      rcases List.mem_cons.1 hl with rfl | hl
      · omega
      · have := legs_after r y.t he l hl
        simp [legOk] at h1
        omega
theorem leaves_of {h t : Int} : ∀ (r : List LegD) (p : Option Int), legsErr h p r = 0 → ∀ l, l ∈ r → l.f ≤ t → t < l.t → leaves t r = some l
  | [], _, _, l, hl, _, _ => by simp at hl
  | y :: r, p, he, l, hl, h2, h3 => by
    have h1 : legOk y h = true := by
      cases h0 : legOk y h
      · rw [legsErr_bad h0] at he; simp at he
      · rfl
    have he2 : legsErr h (some y.t) r = 0 := by
      cases p with
      | none => rwa [legsErr_first h1] at he
      | some q =>
        by_cases hq : y.f < q
        · rw [legsErr_form h1 hq] at he; simp at he
        · rwa [legsErr_next h1 hq] at he
    rcases List.mem_cons.1 hl with rfl | hl
    · exact leaves_hit ⟨h2, h3⟩
    · have := legs_after r y.t he2 l hl
      rw [leaves_miss (by omega)]
      exact leaves_of r _ he2 l hl h2 h3
theorem arrive_leg {g : GraphD} {x : EdgeD} (hx : EdgeOk g x) {l : LegD} (hl : l ∈ x.legs) {t : Int} (h1 : l.f ≤ t) (h2 : t < l.t) (ha : aliveB g x.a t = true) (hh : t + l.time < g.h) (hb : aliveB g x.b (t + l.time) = true) : arrive g x t = some (l, t + l.time) := by
  unfold arrive
  rw [leaves_of x.legs none hx.err l hl h1 h2]
  simp only
  rw [if_pos ⟨ha, hh, hb⟩]
/-! ### the graph with time turned round -/
theorem max0 (x : Int) : (max 0 x = x ∧ 0 ≤ x) ∨ (max 0 x = 0 ∧ x < 0) := by
  by_cases h : 0 ≤ x
  · exact .inl ⟨Int.max_eq_right h, h⟩
  · exact .inr ⟨Int.max_eq_left (by omega), by omega⟩
def backLife (h : Int) (l : IvlD) : IvlD := ⟨h - l.t, h - l.f⟩
def backLeg (h : Int) (l : LegD) : LegD := ⟨max 0 (h - l.t - l.time), h - l.f - l.time, l.time, l.cost⟩
def backEdge (h : Int) (x : EdgeD) (l : LegD) : Option EdgeD := if (backLeg h l).f < (backLeg h l).t then some ⟨x.b, x.a, [backLeg h l]⟩ else none
def backEdges (h : Int) (x : EdgeD) : List EdgeD := x.legs.filterMap (backEdge h x)
def revD (g : GraphD) : GraphD := ⟨g.h, g.lives.map (backLife g.h), g.edges.flatMap (backEdges g.h)⟩
def revErr (g : GraphD) : Int := if graphErr g = 0 then (if 30 < (revD g).edges.length then 2 else 0) else graphErr g
theorem mem_rev {g : GraphD} {y : EdgeD} : y ∈ (revD g).edges ↔ ∃ x l, x ∈ g.edges ∧ l ∈ x.legs ∧ (backLeg g.h l).f < (backLeg g.h l).t ∧ y = ⟨x.b, x.a, [backLeg g.h l]⟩ := by
  simp only [revD, List.mem_flatMap, backEdges, List.mem_filterMap, backEdge]
  constructor
  · rintro ⟨x, hx, l, hl, he⟩
    split at he
    · rename_i hlt
      exact ⟨x, l, hx, hl, hlt, by simpa using he.symm⟩
    · simp at he
  · rintro ⟨x, l, hx, hl, hlt, rfl⟩
    exact ⟨x, hx, l, hl, by rw [if_pos hlt]⟩
theorem rev_valid {g : GraphD} (hV : Valid g) (hn : (revD g).edges.length ≤ 30) : Valid (revD g) := by
  refine ⟨hV.h0, hV.h1, by simp [revD]; exact hV.nl, hn, fun l hl => ?_, fun y hy => ?_⟩
  · simp only [revD, List.mem_map] at hl
    obtain ⟨l0, h0, rfl⟩ := hl
    have := hV.lives l0 h0
    simp only [backLife, revD]
    omega
  · obtain ⟨x, l, hx, hl, hlt, rfl⟩ := mem_rev.1 hy
    have ho := hV.edges x hx
    have h0 := ho.a0; have h1 := ho.a1; have h2 := ho.b0; have h3 := ho.b1
    have h4 := ho.legs l hl
    have hok : legOk (backLeg g.h l) g.h = true :=
      decide_eq_true ⟨Int.le_max_left _ _, hlt, by show g.h - l.f - l.time ≤ g.h; omega, h4.2.2.2.1, h4.2.2.2.2.1, h4.2.2.2.2.2.1, h4.2.2.2.2.2.2⟩
    refine ⟨h2, by simp [revD]; exact h3, h0, by simp [revD]; exact h1, by simp, fun m hm => ?_, by simp only [revD]; rw [legsErr_first hok]; rfl⟩
    obtain rfl : m = backLeg g.h l := by simpa using hm
    simpa [legOk, revD] using hok
theorem rev_alive {g : GraphD} {v t : Int} : aliveB (revD g) v (g.h - 1 - t) = aliveB g v t := by
  unfold aliveB
  simp only [revD, List.getElem?_map]
  cases g.lives[v.toNat]? with
  | none => rfl
  | some l =>
    simp only [Option.map_some, backLife]
    rw [decide_eq_decide]
    omega
/-- Who goes here goes there, backward. -/
theorem rev_arrive {g : GraphD} (hV : Valid g) {x : EdgeD} (hx : x ∈ g.edges) {t u : Int} {l : LegD} (h : arrive g x t = some (l, u)) :
    ∃ y, y ∈ (revD g).edges ∧ y.a = x.b ∧ y.b = x.a ∧ ∃ l', arrive (revD g) y (g.h - 1 - u) = some (l', g.h - 1 - t) := by
  obtain ⟨h1, h2, h3, h4, h5, h6, h7⟩ := arrive_some h
  have ho := hV.edges x hx
  have h8 := ho.legs l h1
  have hlt : (backLeg g.h l).f < (backLeg g.h l).t := by simp only [backLeg]; omega
  refine ⟨⟨x.b, x.a, [backLeg g.h l]⟩, mem_rev.2 ⟨x, l, hx, h1, hlt, rfl⟩, rfl, rfl, backLeg g.h l, ?_⟩
  have e1 : leaves (g.h - 1 - u) [backLeg g.h l] = some (backLeg g.h l) := leaves_hit (by simp only [backLeg]; omega)
  have e2 : g.h - 1 - u + (backLeg g.h l).time = g.h - 1 - t := by simp only [backLeg]; omega
  unfold arrive
  simp only [e1]
  rw [e2, rev_alive, rev_alive, if_pos ⟨h7, by simp only [revD]; omega, h6⟩]
/-- Who goes there goes here. -/
theorem rev_back {g : GraphD} (hV : Valid g) {y : EdgeD} (hy : y ∈ (revD g).edges) {s r : Int} {l' : LegD} (h : arrive (revD g) y s = some (l', r)) :
    ∃ x l, x ∈ g.edges ∧ x.a = y.b ∧ x.b = y.a ∧ arrive g x (g.h - 1 - r) = some (l, g.h - 1 - s) := by
  obtain ⟨x, l, hx, hl, hlt, rfl⟩ := mem_rev.1 hy
  obtain ⟨h1, h2, h3, h4, h5, h6, h7⟩ := arrive_some h
  obtain rfl : l' = backLeg g.h l := by simpa using h1
  have ho := hV.edges x hx
  have h8 := ho.legs l hl
  simp only [backLeg] at h2 h3 h4
  simp only [revD] at h5
  refine ⟨x, l, hx, rfl, rfl, ?_⟩
  have e1 : g.h - 1 - r + l.time = g.h - 1 - s := by omega
  have ha : aliveB g x.a (g.h - 1 - r) = true := by
    have := rev_alive (g := g) (v := x.a) (t := g.h - 1 - r)
    rw [show g.h - 1 - (g.h - 1 - r) = r by omega] at this
    rw [← this]; exact h7
  have hb : aliveB g x.b (g.h - 1 - s) = true := by
    have := rev_alive (g := g) (v := x.b) (t := g.h - 1 - s)
    rw [show g.h - 1 - (g.h - 1 - s) = s by omega] at this
    rw [← this]; exact h6
  rw [arrive_leg ho hl (by omega) (by omega) ha (by omega) (by rw [e1]; exact hb), e1]
/-! ### the latest times are the earliest ones, with time turned round -/
def turnT (h x : Int) : Int := if x = Never then -1 else h - 1 - x
theorem rev_late {g : GraphD} (hV : Valid g) (hV' : Valid (revD g)) {u e : Int} {d x : List Int} (hu : 0 ≤ u ∧ u < g.lives.length) (he : 0 ≤ e ∧ e < g.h) (hd : LateL g u e d) (hx : EarlyL (revD g) u (g.h - 1 - e) x) {k : Nat} (hk : k < g.lives.length) :
    gi d k = turnT g.h (gi x k) := by
  have hh := hV.h1
  have hlen : (revD g).lives.length = g.lives.length := by simp [revD]
  have hrh : (revD g).h = g.h := rfl
  have hhere : ∀ i, i < g.lives.length → gi x i < Never → 0 ≤ gi x i ∧ gi x i < g.h := fun i hi hn => by
    have := hx.here hV' ⟨hu.1, by rw [hlen]; exact hu.2, by omega, by rw [hrh]; omega⟩ (k := i) (by rw [hlen]; exact hi) hn
    exact ⟨this.2.2.1, this.2.2.2.1⟩
  have hbig : ∀ i, gi x i ≤ Never := fun i => hx.big (by omega) i
  have htl : ∀ i, i < g.lives.length → -1 ≤ turnT g.h (gi x i) := fun i hi => by
    unfold turnT
    split
    · omega
    · have := hbig i; have := hhere i hi (by omega); omega
  have hL : LateL g u e ((List.range g.lives.length).map fun i => turnT g.h (gi x i)) := by
    refine ⟨by simp, ⟨fun i => ?_, fun y hy => ?_⟩, fun f hf i => ?_⟩
    · refine Int.neg_le_neg ?_
      by_cases hi : i < g.lives.length
      · rw [gi_map_range hi, startL_val hi]
        split
        · rename_i hp
          have h1 := hx.2.1.1 i
          rw [startE_val (by rw [hlen]; exact hi), if_pos ⟨by rw [rev_alive]; exact hp.1, hp.2⟩] at h1
          unfold turnT
          rw [if_neg (by simp only [Never]; omega)]
          omega
        · exact htl i hi
      · rw [gi_map_range_far (by omega), startL_far (by omega)]; exact Int.le_refl _
    · obtain ⟨z, hz, rfl⟩ := mem_arcsD.1 hy
      have ho := hV.edges z hz
      have h0 := ho.a0; have h1 := ho.a1; have h2 := ho.b0; have h3 := ho.b1
      simp only [arcD]
      rw [gi_map_range (show z.a.toNat < g.lives.length by omega), gi_map_range (show z.b.toNat < g.lives.length by omega), Int.neg_neg]
      refine Int.neg_le_neg ?_
      by_cases hl : 0 ≤ lastT g z (turnT g.h (gi x z.b.toNat))
      · obtain ⟨lg, te, h4, h5⟩ := lastT_some hl
        have h6 := arrive_late hV ho h4
        have hnb : ¬ gi x z.b.toNat = Never := fun e => by unfold turnT at h5; rw [if_pos e] at h5; omega
        have h5' : te ≤ g.h - 1 - gi x z.b.toNat := by unfold turnT at h5; rwa [if_neg hnb] at h5
        obtain ⟨y', hy', ea, eb, l', h7⟩ := rev_arrive hV hz h4
        have ho' := hV'.edges y' hy'
        have h8 := earlyF_le hV' ho' (t := gi x z.b.toNat) (by omega) h7
        have h9 := hx.arc hy'
        rw [ea, eb] at h9
        have hxa : gi x z.a.toNat ≤ g.h - 1 - lastT g z (turnT g.h (gi x z.b.toNat)) := Int.le_trans h9 h8
        have hna : ¬ gi x z.a.toNat = Never := fun e => by rw [e] at hxa; simp only [Never] at hxa; omega
        show lastT g z (turnT g.h (gi x z.b.toNat)) ≤ turnT g.h (gi x z.a.toNat)
        unfold turnT at hxa ⊢
        rw [if_neg hna]
        omega
      · have := htl z.a.toNat (by omega)
        have := lastT_low (g := g) (x := z) (s := turnT g.h (gi x z.b.toNat))
        omega
    · by_cases hi : i < g.lives.length
      · show f i ≤ - gi ((List.range g.lives.length).map fun i => turnT g.h (gi x i)) i
        rw [gi_map_range hi]
        have hst : ∀ j, j < g.lives.length → -1 ≤ - f j := fun j hj => by
          have := hf.1 j
          simp only [startL_val hj] at this
          split at this <;> omega
        have hz := hx.2.2 (fun j => if j < g.lives.length then (if - f j < 0 then Never else g.h - 1 + f j) else 0) ⟨fun j => ?_, fun y hy => ?_⟩ i
        · simp only [if_pos hi] at hz
          have h1 := hst i hi
          unfold turnT
          split
          · omega
          · rename_i hn
            have h2 := hbig i
            split at hz
            · omega
            · omega
        · by_cases hj : j < g.lives.length
          · simp only [if_pos hj]
            rw [startE_val (by rw [hlen]; exact hj)]
            have h1 := hf.1 j
            simp only [startL_val hj] at h1
            rw [rev_alive]
            by_cases hp : aliveB g u e = true ∧ (j : Int) = u
            · rw [if_pos hp] at h1 ⊢
              rw [if_neg (by omega)]
              omega
            · rw [if_neg hp]
              split <;> simp only [Never] <;> omega
          · simp only [if_neg hj]
            rw [startE_far (by rw [hlen]; omega)]; exact Int.le_refl _
        · obtain ⟨z, hz, rfl⟩ := mem_arcsE.1 hy
          have ho := hV'.edges z hz
          have h0 := ho.a0; have h1 := ho.a1; have h2 := ho.b0; have h3 := ho.b1
          rw [hlen] at h1 h3
          have e1 : (arcE (revD g) z).a < g.lives.length := by simp only [arcE]; omega
          have e2 : (arcE (revD g) z).b < g.lives.length := by simp only [arcE]; omega
          simp only [if_pos e1, if_pos e2]
          show (if - f z.b.toNat < 0 then Never else g.h - 1 + f z.b.toNat) ≤ earlyF (revD g) z (if - f z.a.toNat < 0 then Never else g.h - 1 + f z.a.toNat)
          have hzb : (if - f z.b.toNat < 0 then Never else g.h - 1 + f z.b.toNat) ≤ Never := by
            have := hst z.b.toNat (by omega)
            split <;> simp only [Never] <;> omega
          rcases earlyF_cases hV' ho (if - f z.a.toNat < 0 then Never else g.h - 1 + f z.a.toNat) with h4 | ⟨s, lg, te, h4, h5, h6, _⟩
          · rw [h4]; exact hzb
          · rw [h6]
            have h7 := arrive_late hV' ho h5
            rw [hrh] at h7
            have hna : ¬ - f z.a.toNat < 0 := fun hn => by rw [if_pos hn] at h4; simp only [Never] at h4; omega
            rw [if_neg hna] at h4
            obtain ⟨q, lq, hq, qa, qb, hqa⟩ := rev_back hV hz h5
            have h8 := lastT_ge (s := - f z.a.toNat) hV (hV.edges q hq) hqa (by omega)
            have h9 := hf.2 (arcD g q) (mem_arcsD.2 ⟨q, hq, rfl⟩)
            simp only [arcD, qa, qb] at h9
            have h10 : g.h - 1 - te ≤ - f z.b.toNat := by omega
            rw [if_neg (by omega)]
            omega
      · have := hf.1 i
        simp only [startL_far (show g.lives.length ≤ i by omega)] at this
        show f i ≤ - gi ((List.range g.lives.length).map fun i => turnT g.h (gi x i)) i
        rw [gi_map_range_far (by omega)]
        exact this
  rw [hd.eq hL, gi_map_range hk]
end Go.Proofs.Ytdpibehpmghghaa
/- A graph that a call builds: its lives, its edges and their legs, each in blocks of its own. -/
namespace Go.Proofs.Ytdpibehpmghghaa
open Go.RowKit

def ivlC (x : IvlD) : List Value := [.int .i64 x.f, .int .i64 x.t]
/-- An edge, where its legs lie, and for how many there is room. -/
abbrev EItem := EdgeD × Option Addr × Nat
def eEnc (it : EItem) : List Value := [.int .i64 it.1.a, .int .i64 it.1.b, .slice it.2.1 it.1.legs.length it.2.2]
/-- At the address a block of legs begins with the list. -/
def LOwn (w : World) (A : Option Addr) (r : List LegD) : Prop := 0 < r.length → ∃ (g : Nat) (cs : Array Value), A = some ⟨g, 0, none⟩ ∧ Blk w g 95 cs ∧
  ∀ (k : Nat) (x : LegD), r[k]? = some x → cs[k * 4]? = some (.int .i64 x.f) ∧ cs[k * 4 + 1]? = some (.int .i64 x.t) ∧ cs[k * 4 + 2]? = some (.int .i64 x.time) ∧ cs[k * 4 + 3]? = some (.int .i64 x.cost)
def LegsAt (w : World) (items : List EItem) : Prop := ∀ it, it ∈ items → LOwn w it.2.1 it.1.legs ∧ it.1.legs.length ≤ it.2.2 ∧ it.2.2 ≤ maxLen
def LegI (x : LegD) : Prop := I64 x.f ∧ I64 x.t ∧ I64 x.time ∧ I64 x.cost
section
variable {w w' : World} {A : Option Addr} {r : List LegD} {items : List EItem} {base : Nat} {v : Value}
theorem Own.keep {α : Type} {enc : α → List Value} {sz : Nat} {e : TypeId} {l : List α} (h : Own enc sz w base e v l) (hk : ∀ b cs, Blk w b e cs → Blk w' b e cs) : Own enc sz w' base e v l := by
  refine ⟨h.1, ?_⟩
  rcases h.2 with h2 | ⟨g, cap, cur, hv, hg, hh, r⟩
  · exact .inl h2
  · exact .inr ⟨g, cap, cur, hv, hg, hk g cur hh, r⟩
theorem Own.room {α : Type} {enc : α → List Value} {sz : Nat} {e : TypeId} {n c : Nat} {l : List α} (h : Own enc sz w base e (.slice A n c) l) : l.length ≤ c ∧ c ≤ maxLen := by
  rcases h.2 with ⟨h1, h0⟩ | ⟨g, cap, cur, hv, _, _, h1, h2, _⟩
  · cases h1; rw [h0]; simp
  · cases hv; exact ⟨h1, h2⟩
theorem LOwn.keep (h : LOwn w A r) (hk : ∀ b cs, Blk w b 95 cs → Blk w' b 95 cs) : LOwn w' A r := fun h0 => by
  obtain ⟨g, cs, h1, h2, h3⟩ := h h0
  exact ⟨g, cs, h1, hk _ _ h2, h3⟩
theorem LOwn.slAt (h : LOwn w A r) (hi : ∀ x, x ∈ r → LegI x) : SlAt RLeg 4 w A r := by
  rcases Nat.eq_zero_or_pos r.length with h0 | h0
  · rw [List.eq_nil_of_length_eq_zero h0]; exact SlAt.nil
  · obtain ⟨g, cs, rfl, hB, hc⟩ := h h0
    refine ⟨g, 0, fun i x hx => ⟨rfl, hB.lt, ?_⟩⟩
    obtain ⟨h1, h2, h3, h4⟩ := hc i x hx
    have hI := hi x (List.mem_of_getElem? hx)
    refine ⟨⟨?_, ?_, ?_, ?_⟩, hI⟩ <;> (unfold cellIs; rw [Nat.zero_add, hB.cell])
    · exact h1
    · exact h2
    · exact h3
    · exact h4
theorem LOwn.one {g : Nat} {x : LegD} (h : Blk w g 95 #[.int .i64 x.f, .int .i64 x.t, .int .i64 x.time, .int .i64 x.cost]) : LOwn w (some ⟨g, 0, none⟩) [x] := fun _ => ⟨g, _, rfl, h, fun k y hk => by
  match k, hk with
  | 0, hk =>
    obtain rfl : x = y := by simpa using hk
    simp
  | k + 1, hk => simp at hk⟩
theorem LegsAt.keep (h : LegsAt w items) (hk : ∀ b cs, Blk w b 95 cs → Blk w' b 95 cs) : LegsAt w' items := fun it hi => ⟨(h it hi).1.keep hk, (h it hi).2⟩
theorem LegsAt.nil : LegsAt w [] := fun it h => by simp at h
theorem LegsAt.snoc {it : EItem} (h : LegsAt w items) (hi : LOwn w it.2.1 it.1.legs ∧ it.1.legs.length ≤ it.2.2 ∧ it.2.2 ≤ maxLen) : LegsAt w (items ++ [it]) := fun y hy => by
  rcases List.mem_append.1 hy with hy | hy
  · exact h y hy
  · obtain rfl : y = it := by simpa using hy
    exact hi
theorem slAt_map {α β : Type} {R : World → Nat → Nat → β → Prop} {sz : Nat} {f : α → β} {l : List α} (h : SlAt (fun w b o x => R w b o (f x)) sz w A l) : SlAt R sz w A (l.map f) := by
  obtain ⟨b, off, h⟩ := h
  refine ⟨b, off, fun i x hx => ?_⟩
  simp only [List.getElem?_map, Option.map_eq_some_iff] at hx
  obtain ⟨y, hy, rfl⟩ := hx
  exact h i y hy
theorem own_lives {l : List IvlD} (h : Own ivlC 2 w base 29 v l) (hi : ∀ x, x ∈ l → I64 x.f ∧ I64 x.t) : ∃ A c, v = .slice A l.length c ∧ SlAt RIvl 2 w A l :=
  Own.slAt (R := RIvl) (enc := ivlC) (fun _ => rfl) (fun x hx b o hc => ⟨⟨by have := hc 0 _ rfl; simpa using this, by have := hc 1 _ rfl; simpa using this⟩, hi x hx⟩) h
theorem own_edges (h : Own eEnc 3 w base 98 v items) (hl : LegsAt w items) (hi : ∀ it, it ∈ items → I64 it.1.a ∧ I64 it.1.b ∧ ∀ x, x ∈ it.1.legs → LegI x) : ∃ A c, v = .slice A items.length c ∧ SlAt REdge 3 w A (items.map Prod.fst) := by
  obtain ⟨A, c, hv, hs⟩ := Own.slAt (R := fun w b o (it : EItem) => REdge w b o it.1) (enc := eEnc) (fun _ => rfl) (fun it hm b o hc => by
    have h1 := hi it hm
    have h2 := hl it hm
    exact ⟨⟨by have := hc 0 _ rfl; simpa using this, by have := hc 1 _ rfl; simpa using this, it.2.1, it.2.2, by have := hc 2 _ rfl; simpa using this, h2.2.1, h2.2.2, h2.1.slAt h1.2.2⟩, h1.1, h1.2.1⟩) h
  exact ⟨A, c, hv, slAt_map (f := Prod.fst) hs⟩
end
theorem blk_ne {w : World} {b g : Nat} {t t' : TypeId} {cs cs' : Array Value} (h : Blk w b t cs) (h' : Blk w g t' cs') (ht : t ≠ t') : b ≠ g := by
  intro e
  subst e
  unfold Blk at h h'
  rw [h] at h'
  cases h'
  exact ht rfl
/-- A store into a block of another kind. -/
theorem keep_store {w : World} {g : Nat} {t e : TypeId} {cs' : Array Value} (h' : Blk w g t cs') (ht : e ≠ t) (i : Nat) (u : Value) : ∀ b cs, Blk w b e cs → Blk (w.setCell ⟨g, i, none⟩ u) b e cs := fun _ _ h => h.far (blk_ne h h' ht) u
theorem Own.block_lt {α : Type} {enc : α → List Value} {sz : Nat} {w : World} {base : Nat} {e : TypeId} {v : Value} {l : List α} (h : Own enc sz w base e v l) {b : Nat} (hb : w.heap.size ≤ b) : some b ≠ v.ownBlock := fun e => by
  have := (World.ownsRow.lt h b e.symm).2
  omega
/-- An append of one element, and where the new slice lies. -/
theorem wpList_append_lie {P : Program} {ops : Array Oper} {rest : List Oper} {o : Oper} {a : Act} {Q : Exit → Act → World → Prop} {w0 : World} {α : Type} {enc : α → List Value} (hgd : o.guard = none) (s x : Operand) (t : TypeId)
    (ho : o.op = .call { callee := .builtin .append, args := #[s, x], argTypes := #[t, t] })
    (base : Nat) (e : TypeId) (i : TypeInfo) (z : Value) (size bytes : Nat) (ht : P.underlying t = some (.slice e)) (hi : P.info? e = some i) (hz : i.zero = some z)
    (hsize : i.size = size) (hby : i.bytes = bytes) (hzs : z.cells.size = size) (hsz : 0 < size)
    (v : Value) (l : List α) (y : α) (hs : a.eval s = v) (hown : Own enc size w0 base e v l) (cs : Array Value) (hcy : cs.toList = enc y) (k : Nat) (hk : k = w0.heap.size) (hx : a.eval x = .slice (some ⟨k, 0, none⟩) 1 1) (hcs : cs.size = size)
    (h1 : ∀ u ∈ cs.toList, u.oneCell' = true) (h63 : l.length + 1 ≤ 1000000) (hby2 : bytes ≤ 1000) (hbase : base ≤ w0.heap.size)
    (h : ∀ g cap w', Own enc size w' base e (.slice (some ⟨g, 0, none⟩) (l.length + 1) cap) (l ++ [y]) → Below base w0 w' → (∀ b t' cs', Blk w0 b t' cs' → some b ≠ v.ownBlock → Blk w' b t' cs') → (v.ownBlock = some g ∨ w0.heap.size < g) →
      wpList P ops Q rest (a.put o.dst (.slice (some ⟨g, 0, none⟩) (l.length + 1) cap)) w') : wpList P ops Q (o :: rest) a (w0.alloc (.cells cs e)) := by
  subst hk
  have hb2 : (l.length + 1) * bytes ≤ 140737488355328 := Nat.le_trans (Nat.mul_le_mul h63 hby2) (by decide)
  refine wpList_append_lies (w0.alloc (.cells cs e)) hgd s x t ho base e i z size bytes ht hi hz hsize hby hzs hsz v l.length (l.flatMap enc) hs (World.ownsRow.alloc hown _) ⟨w0.heap.size, 0, none⟩ 1 1 cs.toList hx (by simp [hcs])
    ?_ h1 (by omega) (by unfold maxLen; omega) hb2 (by simp; omega) (w0.heap.size + 1) (by simp) ?_
  · intro j u hu
    rw [Go.WideShapes.add_plain, cell_of_row _ _ _ cs e (0, 0) (heap_alloc_new w0 _)]
    simpa using hu
  · intro g cap w' h2 h3 h4 _
    refine h g cap w' ?_ ?_ (fun b t' cs' hB hn => (hB.alloc _).grown h3 hn) (h4.imp id fun e => by omega)
    · show w'.ownsRow base e size _ (l ++ [y]).length ((l ++ [y]).flatMap enc)
      rw [List.flatMap_append, List.length_append]
      simpa [hcy] using h2
    · have hb : Below base w0 (w0.alloc (.cells cs e)) := (Below.refl _ _).alloc hbase _
      exact hb.grown h3 (by simp; omega) fun k hk => (World.ownsRow.lt hown k hk).1
theorem wp_append_lie {P : Program} {o : Oper} {a : Act} {K : Act → World → Prop} {Q : Exit → Act → World → Prop} {w0 : World} {α : Type} {enc : α → List Value} (s x : Operand) (t : TypeId)
    (ho : o.op = .call { callee := .builtin .append, args := #[s, x], argTypes := #[t, t] })
    (base : Nat) (e : TypeId) (i : TypeInfo) (z : Value) (size bytes : Nat) (ht : P.underlying t = some (.slice e)) (hi : P.info? e = some i) (hz : i.zero = some z)
    (hsize : i.size = size) (hby : i.bytes = bytes) (hzs : z.cells.size = size) (hsz : 0 < size)
    (v : Value) (l : List α) (y : α) (hs : a.eval s = v) (hown : Own enc size w0 base e v l) (cs : Array Value) (hcy : cs.toList = enc y) (k : Nat) (hk : k = w0.heap.size) (hx : a.eval x = .slice (some ⟨k, 0, none⟩) 1 1) (hcs : cs.size = size)
    (h1 : ∀ u ∈ cs.toList, u.oneCell' = true) (h63 : l.length + 1 ≤ 1000000) (hby2 : bytes ≤ 1000) (hbase : base ≤ w0.heap.size)
    (h : ∀ g cap w', Own enc size w' base e (.slice (some ⟨g, 0, none⟩) (l.length + 1) cap) (l ++ [y]) → Below base w0 w' → (∀ b t' cs', Blk w0 b t' cs' → some b ≠ v.ownBlock → Blk w' b t' cs') → (v.ownBlock = some g ∨ w0.heap.size < g) →
      K (a.put o.dst (.slice (some ⟨g, 0, none⟩) (l.length + 1) cap)) w') : Oper.wp P o a (w0.alloc (.cells cs e)) K Q := by
  subst hk
  have hb2 : (l.length + 1) * bytes ≤ 140737488355328 := Nat.le_trans (Nat.mul_le_mul h63 hby2) (by decide)
  refine wp_append_lies (w0.alloc (.cells cs e)) s x t ho base e i z size bytes ht hi hz hsize hby hzs hsz v l.length (l.flatMap enc) hs (World.ownsRow.alloc hown _) ⟨w0.heap.size, 0, none⟩ 1 1 cs.toList hx (by simp [hcs])
    ?_ h1 (by omega) (by unfold maxLen; omega) hb2 (by simp; omega) (w0.heap.size + 1) (by simp) ?_
  · intro j u hu
    rw [Go.WideShapes.add_plain, cell_of_row _ _ _ cs e (0, 0) (heap_alloc_new w0 _)]
    simpa using hu
  · intro g cap w' h2 h3 h4 _
    refine h g cap w' ?_ ?_ (fun b t' cs' hB hn => (hB.alloc _).grown h3 hn) (h4.imp id fun e => by omega)
    · show w'.ownsRow base e size _ (l ++ [y]).length ((l ++ [y]).flatMap enc)
      rw [List.flatMap_append, List.length_append]
      simpa [hcy] using h2
    · have hb : Below base w0 (w0.alloc (.cells cs e)) := (Below.refl _ _).alloc hbase _
      exact hb.grown h3 (by simp; omega) fun k hk => (World.ownsRow.lt hown k hk).1
def zeroG : GraphD := ⟨0, [], []⟩
theorem zero_at (w : World) : GraphAt w none 0 none 0 zeroG := ⟨by simp [I64, zeroG], by simp [zeroG], by simp [maxLen], by simp [zeroG], by simp [maxLen], SlAt.nil, SlAt.nil⟩
/-- A graph and an error are told. -/
def GraphErr (g : GraphD) (er : Int) (w : World) (e : Ending) (w' : World) : Prop := ∃ A c A' c', e = .returned (.tuple #[gV A c A' c' g, .int .i64 er]) ∧ GraphAt w' A c A' c' g ∧ Below w.heap.size w w'
theorem info_ivl : (Try.prog.info? 29).map (fun i => (i.zero, i.size, i.bytes)) = some (some (.agg #[.int .i64 0, .int .i64 0]), 2, 16) := by kernel_rfl
theorem info_edge : (Try.prog.info? 98).map (fun i => (i.zero, i.size, i.bytes)) = some (some (.agg #[.int .i64 0, .int .i64 0, .slice none 0 0]), 3, 40) := by kernel_rfl
theorem info_ivl2 : ∃ i, Try.prog.info? 29 = some i ∧ i.zero = some (.agg #[.int .i64 0, .int .i64 0]) ∧ i.size = 2 ∧ i.bytes = 16 := by
  obtain ⟨i0, hi, hzz⟩ := Option.map_eq_some_iff.1 info_ivl
  simp only [Prod.mk.injEq] at hzz
  exact ⟨i0, hi, hzz.1, hzz.2.1, hzz.2.2⟩
theorem info_edge2 : ∃ i, Try.prog.info? 98 = some i ∧ i.zero = some (.agg #[.int .i64 0, .int .i64 0, .slice none 0 0]) ∧ i.size = 3 ∧ i.bytes = 40 := by
  obtain ⟨i0, hi, hzz⟩ := Option.map_eq_some_iff.1 info_edge
  simp only [Prod.mk.injEq] at hzz
  exact ⟨i0, hi, hzz.1, hzz.2.1, hzz.2.2⟩
theorem two_one {a b : Int} : ∀ u ∈ (#[.int .i64 a, .int .i64 b] : Array Value).toList, u.oneCell' = true := by simp [Value.oneCell']
theorem three_one {a b : Int} {A : Option Addr} {n c : Nat} : ∀ u ∈ (#[.int .i64 a, .int .i64 b, .slice A n c] : Array Value).toList, u.oneCell' = true := by simp [Value.oneCell']
end Go.Proofs.Ytdpibehpmghghaa
