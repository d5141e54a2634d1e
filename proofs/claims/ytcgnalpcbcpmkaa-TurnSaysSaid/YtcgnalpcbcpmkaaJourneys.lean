/- Plain laws of journeys: parts, bounds, where one is; the hops that a walk takes. No program in sight. -/
import Derived.Test.YtcgnalpcbcpmkaaSpec3
namespace Go.Proofs.Ytcgnalpcbcpmkaa
open Go.RowKit

theorem hopTo_spec {g : GraphD} {v t b to k : Int} {h : HopD} (hh : hopTo g v t h = some (b, to, k)) :
    ∃ x lg, 0 ≤ h.edge ∧ g.edges[h.edge.toNat]? = some x ∧ x.a = v ∧ t ≤ h.depart ∧ arrive g x h.depart = some (lg, to) ∧ b = x.b ∧ k = lg.cost := by
  unfold hopTo at hh
  split at hh
  · rename_i h1
    have h2 : 0 ≤ h.edge := by simp [inB] at h1; omega
    split at hh
    · rename_i x hx
      split at hh
      · rename_i h3
        cases ha : arrive g x h.depart with
        | none => rw [ha] at hh; simp at hh
        | some p =>
          obtain ⟨lg, u⟩ := p
          rw [ha] at hh
          simp only [Option.map_some, Option.some.injEq, Prod.mk.injEq] at hh
          obtain ⟨rfl, rfl, rfl⟩ := hh
          exact ⟨x, lg, h2, hx, h3.1, h3.2, ha, rfl, rfl⟩
      · simp at hh
    · simp at hh
  · simp at hh
theorem hopTo_of {g : GraphD} {v t to : Int} {h : HopD} {x : EdgeD} {lg : LegD} (h0 : 0 ≤ h.edge) (hx : g.edges[h.edge.toNat]? = some x) (h1 : x.a = v) (h2 : t ≤ h.depart) (h3 : arrive g x h.depart = some (lg, to)) :
    hopTo g v t h = some (x.b, to, lg.cost) :=
  hopTo_some (by have := lt_of_get hx; simp [inB]; omega) hx ⟨h1, h2⟩ h3

theorem goL_append {g : GraphD} : ∀ (l r : List HopD) (v t c : Int), goL g v t c (l ++ r) = (goL g v t c l).bind fun p => goL g p.1 p.2.1 p.2.2 r
  | [], r, v, t, c => by simp [goL]
  | h :: l, r, v, t, c => by
    cases hh : hopTo g v t h with
    | none => rw [List.cons_append, goL_none hh, goL_none hh]; rfl
    | some p =>
      obtain ⟨a, b, d⟩ := p
      rw [List.cons_append, goL_some hh, goL_some hh, goL_append l r a b (c + d)]
theorem goL_cost {g : GraphD} : ∀ (l : List HopD) (v t c : Int), goL g v t c l = (goL g v t 0 l).map fun p => (p.1, p.2.1, c + p.2.2)
  | [], v, t, c => by simp [goL]
  | h :: l, v, t, c => by
    cases hh : hopTo g v t h with
    | none => rw [goL_none hh, goL_none hh]; rfl
    | some p =>
      obtain ⟨a, b, d⟩ := p
      rw [goL_some hh, goL_some hh, goL_cost l a b (c + d), goL_cost l a b (0 + d), Option.map_map]
      congr 1
      funext p
      simp
      omega
/-- One is at v at t: it is a vertex's number, a time, and the vertex is alive then. -/
def Here (g : GraphD) (v t : Int) : Prop := 0 ≤ v ∧ v < g.lives.length ∧ 0 ≤ t ∧ t < g.h ∧ aliveB g v t = true
theorem Here.place {g : GraphD} {v t : Int} (h : Here g v t) (hV : Valid g) : placeErr g v t = 0 := by
  obtain ⟨h1, h2, h3, h4, _⟩ := h
  exact placeErr_0 (valid_ok hV) (by simp [inB]; omega) (by simp [inB]; omega)
theorem here_of {g : GraphD} {v t : Int} (h : placeErr g v t = 0) (ha : aliveB g v t = true) : Here g v t := by
  obtain ⟨_, h1, h2⟩ := place_of h
  exact ⟨h1.1, h1.2, h2.1, h2.2, ha⟩
theorem hopTo_here {g : GraphD} (hV : Valid g) {v t b to k : Int} {h : HopD} (h0 : 0 ≤ t) (hh : hopTo g v t h = some (b, to, k)) : Here g b to ∧ t < to ∧ 0 ≤ k ∧ k ≤ 1000 := by
  obtain ⟨x, lg, h1, hx, h2, h3, ha, rfl, rfl⟩ := hopTo_spec hh
  have hs := arrive_some ha
  have hxe := hV.edges x (List.mem_of_getElem? hx)
  have hlg := hxe.legs lg hs.1
  have h4 := hxe.b0; have h5 := hxe.b1
  exact ⟨⟨h4, h5, by omega, by omega, hs.2.2.2.2.2.2⟩, by omega, by omega, by omega⟩
theorem goL_here {g : GraphD} (hV : Valid g) : ∀ (l : List HopD) (v t c a b d : Int), Here g v t → goL g v t c l = some (a, b, d) → Here g a b ∧ t ≤ b ∧ c ≤ d ∧ d ≤ c + 1000 * l.length
  | [], v, t, c, a, b, d, h0, h => by
    simp [goL] at h
    obtain ⟨rfl, rfl, rfl⟩ := h
    exact ⟨h0, by omega, by omega, by simp⟩
  | h :: l, v, t, c, a, b, d, h0, hg => by
    cases hh : hopTo g v t h with
    | none => rw [goL_none hh] at hg; simp at hg
    | some p =>
      obtain ⟨x, y, k⟩ := p
      rw [goL_some hh] at hg
      have h1 := hopTo_here hV h0.2.2.1 hh
      have h2 := goL_here hV l x y (c + k) a b d h1.1 hg
      have e : ((h :: l).length : Int) = l.length + 1 := by simp
      rw [e]
      exact ⟨h2.1, by omega, by omega, by omega⟩
theorem goR_ok {g : GraphD} {v t : Int} {l : List HopD} {a b d : Int} (h : goR g v t l = (a, b, d, 0)) : placeErr g v t = 0 ∧ l.length ≤ 500 ∧ aliveB g v t = true ∧ goL g v t 0 l = some (a, b, d) := by
  unfold goR at h
  split at h
  · rename_i h1
    split at h
    · simp at h
    · rename_i h2
      split at h
      · rename_i h3
        split at h
        · rename_i p hp
          simp only [Prod.mk.injEq] at h
          obtain ⟨rfl, rfl, rfl, _⟩ := h
          exact ⟨h1, by omega, h3, hp⟩
        · simp at h
      · simp at h
  · rename_i h1
    simp only [Prod.mk.injEq] at h
    exact absurd h.2.2.2 h1
theorem goR_here {g : GraphD} (hV : Valid g) {v t : Int} {l : List HopD} {a b d : Int} (h : Here g v t) (hl : l.length ≤ 500) (hg : goL g v t 0 l = some (a, b, d)) : goR g v t l = (a, b, d, 0) :=
  goR_some (h.place hV) (by omega) h.2.2.2.2 hg
theorem goR_err {g : GraphD} {v t : Int} {l : List HopD} {a b d e : Int} (h : goR g v t l = (a, b, d, e)) (he : e ≠ 0) : a = 0 ∧ b = 0 ∧ d = 0 := by
  unfold goR at h
  split at h
  · split at h
    · simp at h; omega
    · split at h
      · split at h
        · simp at h; omega
        · simp at h; omega
      · simp at h; omega
  · simp at h; omega

/-- The hops of a walk, as numbers say; where one is then. -/
def walkL (g : GraphD) : Int → Int → List Int → List HopD × Int × Int
  | v, t, [] => ([], v, t)
  | v, t, k :: r =>
    if placeErr g v t = 0 ∧ outR g v t ≠ [] then
      (match (outR g v t)[(k % (outR g v t).length).toNat]? with
      | some h => (match goR g v t [h] with
        | (a, b, _, e) => if e = 0 then (h :: (walkL g a b r).1, (walkL g a b r).2) else ([], v, t))
      | none => ([], v, t))
    else ([], v, t)
theorem walkL_stop {g : GraphD} {v t k : Int} {r : List Int} (h : ¬ (placeErr g v t = 0 ∧ outR g v t ≠ [])) : walkL g v t (k :: r) = ([], v, t) := by rw [walkL, if_neg h]
theorem walkL_bad {g : GraphD} {v t k a b d e : Int} {r : List Int} {h : HopD} (h1 : placeErr g v t = 0 ∧ outR g v t ≠ []) (h2 : (outR g v t)[(k % (outR g v t).length).toNat]? = some h) (h3 : goR g v t [h] = (a, b, d, e)) (h4 : ¬ e = 0) :
    walkL g v t (k :: r) = ([], v, t) := by rw [walkL, if_pos h1, h2]; simp only [h3]; rw [if_neg h4]
theorem walkL_go {g : GraphD} {v t k a b d : Int} {r : List Int} {h : HopD} (h1 : placeErr g v t = 0 ∧ outR g v t ≠ []) (h2 : (outR g v t)[(k % (outR g v t).length).toNat]? = some h) (h3 : goR g v t [h] = (a, b, d, 0)) :
    walkL g v t (k :: r) = (h :: (walkL g a b r).1, (walkL g a b r).2) := by rw [walkL, if_pos h1, h2]; simp only [h3]; rfl
theorem walkL_len {g : GraphD} : ∀ (l : List Int) (v t : Int), (walkL g v t l).1.length ≤ l.length
  | [], v, t => by simp [walkL]
  | k :: r, v, t => by
    unfold walkL
    split
    · split
      · rename_i h _
        have := fun a b => walkL_len (g := g) r a b
        generalize goR g v t [h] = q
        obtain ⟨a, b, d, e⟩ := q
        simp only
        split
        · simpa using this a b
        · simp
      · simp
    · simp
/-- What a walk takes is a journey. -/
theorem walkL_goes {g : GraphD} : ∀ (l : List Int) (v t : Int), placeErr g v t = 0 → ∃ d, goL g v t 0 (walkL g v t l).1 = some ((walkL g v t l).2.1, (walkL g v t l).2.2, d)
  | [], v, t, _ => ⟨0, by simp [walkL, goL]⟩
  | k :: r, v, t, hp => by
    by_cases h1 : placeErr g v t = 0 ∧ outR g v t ≠ []
    case neg => rw [walkL_stop h1]; exact ⟨0, rfl⟩
    have hV := (place_of hp).1
    cases h2 : (outR g v t)[(k % (outR g v t).length).toNat]? with
    | none => rw [walkL, if_pos h1, h2]; exact ⟨0, rfl⟩
    | some h =>
      obtain ⟨a, b, d, e, h3⟩ : ∃ a b d e, goR g v t [h] = (a, b, d, e) := ⟨_, _, _, _, rfl⟩
      by_cases h4 : e = 0
      case neg => rw [walkL_bad h1 h2 h3 h4]; exact ⟨0, rfl⟩
      subst h4
      rw [walkL_go h1 h2 h3]
      obtain ⟨_, _, hal, hg⟩ := goR_ok h3
      have hh : hopTo g v t h = some (a, b, d) := by
        cases hh : hopTo g v t h with
        | none => rw [goL_none hh] at hg; simp at hg
        | some p =>
          obtain ⟨x, y, k⟩ := p
          rw [goL_some hh] at hg
          simp [goL] at hg
          obtain ⟨rfl, rfl, rfl⟩ := hg
          rfl
      have hhere := (hopTo_here hV (place_of hp).2.2.1 hh).1
      obtain ⟨d2, ih⟩ := walkL_goes r a b (hhere.place hV)
      refine ⟨0 + d + d2, ?_⟩
      show goL g v t 0 (h :: (walkL g a b r).1) = some ((walkL g a b r).2.1, (walkL g a b r).2.2, 0 + d + d2)
      rw [goL_some hh, goL_cost, ih]
      rfl
/-- A list of hops that is empty unless one can be at the place. -/
theorem walkL_dead {g : GraphD} {v t : Int} (l : List Int) (h : ¬ placeErr g v t = 0) : walkL g v t l = ([], v, t) := by
  cases l with
  | nil => rfl
  | cons k r => exact walkL_stop fun hh => h hh.1
theorem walkL_notalive {g : GraphD} {v t : Int} (l : List Int) (h : aliveB g v t = false) : walkL g v t l = ([], v, t) := by
  cases l with
  | nil => rfl
  | cons k r =>
    refine walkL_stop fun hh => hh.2 ?_
    simp [outR, outs, h]
/-- Out's hops go, and no others. -/
theorem outs_hop {g : GraphD} {v t : Int} (hp : placeErr g v t = 0) (h : HopD) : h ∈ outs g v t ↔ (aliveB g v t = true ∧ ∃ p, hopTo g v t h = some p) := by
  obtain ⟨hV, hv, ht⟩ := place_of hp
  unfold outs
  split
  · rename_i hal
    rw [outsL_mem, outsAt_mem]
    constructor
    · rintro ⟨h1, h2, _, k, x, hk, he, hl⟩
      refine ⟨hal, ?_⟩
      simp only [leavesB, Bool.and_eq_true, decide_eq_true_eq] at hl
      obtain ⟨hl1, hl2⟩ := hl
      obtain ⟨p, hp'⟩ := Option.isSome_iff_exists.1 hl1
      obtain ⟨lg, to⟩ := p
      have e1 : h.edge.toNat = k := by omega
      exact ⟨_, hopTo_of (by omega) (by rw [e1]; exact hk) hl2 h1 hp'⟩
    · rintro ⟨_, p, hh⟩
      obtain ⟨b, to, c⟩ := p
      obtain ⟨x, lg, h0, hx, h1, h2, ha, _, _⟩ := hopTo_spec hh
      have hs := arrive_some ha
      have hxe := hV.edges x (List.mem_of_getElem? hx)
      have hlg := hxe.legs lg hs.1
      refine ⟨h2, by omega, rfl, h.edge.toNat, x, hx, by omega, ?_⟩
      simp [leavesB, ha, h1]
  · rename_i hal
    simp [hal]
end Go.Proofs.Ytcgnalpcbcpmkaa
