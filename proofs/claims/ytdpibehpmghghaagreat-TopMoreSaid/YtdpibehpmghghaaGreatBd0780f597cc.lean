/- Several texts in one: Journeys, EarlySpec. -/
import Derived.Test.YtdpibehpmghghaaGreatBd3944ca27eb
import Derived.Test.YtdpibehpmghghaaGreatBd6068468490
/- Plain laws of journeys: parts, bounds, where one is; the hops that a walk takes. No program in sight. -/
namespace Go.Proofs.YtdpibehpmghghaaGreat
open Go.RowKit

theorem hopTo_spec {g : GraphD} {v t b to k : Int} {h : HopD} (hh : hopTo g v t h = some (b, to, k)) :
    ∃ x lg, 0 ≤ h.edge ∧ g.edges[h.edge.toNat]? = some x ∧ x.a = v ∧ t ≤ h.depart ∧ arrive g x h.depart = some (lg, to) ∧ b = x.b ∧ k = lg.cost := by
  unfold hopTo at hh
  split at hh
  · rename_i h1
    have h2 : 0 ≤ h.edge := by simp [inB] at h1; omega
    split at hh
    · rename_i x hx
      split at hh
      · rename_i h3
        cases ha : arrive g x h.depart with
        | none => rw [ha] at hh; simp at hh
        | some p =>
          obtain ⟨lg, u⟩ := p
          rw [ha] at hh
          simp only [Option.map_some, Option.some.injEq, Prod.mk.injEq] at hh
          obtain ⟨rfl, rfl, rfl⟩ := hh
          exact ⟨x, lg, h2, hx, h3.1, h3.2, ha, rfl, rfl⟩
      · simp at hh
    · simp at hh
  · simp at hh
theorem hopTo_of {g : GraphD} {v t to : Int} {h : HopD} {x : EdgeD} {lg : LegD} (h0 : 0 ≤ h.edge) (hx : g.edges[h.edge.toNat]? = some x) (h1 : x.a = v) (h2 : t ≤ h.depart) (h3 : arrive g x h.depart = some (lg, to)) :
    hopTo g v t h = some (x.b, to, lg.cost) :=
  hopTo_some (by have := lt_of_get hx; simp [inB]; omega) hx ⟨h1, h2⟩ h3

theorem goL_append {g : GraphD} : ∀ (l r : List HopD) (v t c : Int), goL g v t c (l ++ r) = (goL g v t c l).bind fun p => goL g p.1 p.2.1 p.2.2 r
  | [], r, v, t, c => by simp [goL]
  | h :: l, r, v, t, c => by
    cases hh : hopTo g v t h with
    | none => rw [List.cons_append, goL_none hh, goL_none hh]; rfl
    | some p =>
      obtain ⟨a, b, d⟩ := p
      rw [List.cons_append, goL_some hh, goL_some hh, goL_append l r a b (c + d)]
theorem goL_cost {g : GraphD} : ∀ (l : List HopD) (v t c : Int), goL g v t c l = (goL g v t 0 l).map fun p => (p.1, p.2.1, c + p.2.2)
  | [], v, t, c => by simp [goL]
  | h :: l, v, t, c => by
    cases hh : hopTo g v t h with
    | none => rw [goL_none hh, goL_none hh]; rfl
    | some p =>
      obtain ⟨a, b, d⟩ := p
      rw [goL_some hh, goL_some hh, goL_cost l a b (c + d), goL_cost l a b (0 + d), Option.map_map]
      congr 1
      funext p
      simp
      omega
/-- One is at v at t: it is a vertex's number, a time, and the vertex is alive then. -/
def Here (g : GraphD) (v t : Int) : Prop := 0 ≤ v ∧ v < g.lives.length ∧ 0 ≤ t ∧ t < g.h ∧ aliveB g v t = true
theorem Here.place {g : GraphD} {v t : Int} (h : Here g v t) (hV : Valid g) : placeErr g v t = 0 := by
  obtain ⟨h1, h2, h3, h4, _⟩ := h
  exact placeErr_0 (valid_ok hV) (by simp [inB]; omega) (by simp [inB]; omega)
theorem here_of {g : GraphD} {v t : Int} (h : placeErr g v t = 0) (ha : aliveB g v t = true) : Here g v t := by
  obtain ⟨_, h1, h2⟩ := place_of h
  exact ⟨h1.1, h1.2, h2.1, h2.2, ha⟩
theorem hopTo_here {g : GraphD} (hV : Valid g) {v t b to k : Int} {h : HopD} (h0 : 0 ≤ t) (hh : hopTo g v t h = some (b, to, k)) : Here g b to ∧ t < to ∧ 0 ≤ k ∧ k ≤ 1000 := by
  obtain ⟨x, lg, h1, hx, h2, h3, ha, rfl, rfl⟩ := hopTo_spec hh
  have hs := arrive_some ha
  have hxe := hV.edges x (List.mem_of_getElem? hx)
  have hlg := hxe.legs lg hs.1
  have h4 := hxe.b0; have h5 := hxe.b1
  exact ⟨⟨h4, h5, by omega, by omega, hs.2.2.2.2.2.2⟩, by omega, by omega, by omega⟩
theorem goL_here {g : GraphD} (hV : Valid g) : ∀ (l : List HopD) (v t c a b d : Int), Here g v t → goL g v t c l = some (a, b, d) → Here g a b ∧ t ≤ b ∧ c ≤ d ∧ d ≤ c + 1000 * l.length
  | [], v, t, c, a, b, d, h0, h => by
    simp [goL] at h
    obtain ⟨rfl, rfl, rfl⟩ := h
    exact ⟨h0, by omega, by omega, by simp⟩
  | h :: l, v, t, c, a, b, d, h0, hg => by
    cases hh : hopTo g v t h with
    | none => rw [goL_none hh] at hg; simp at hg
    | some p =>
      obtain ⟨x, y, k⟩ := p
      rw [goL_some hh] at hg
      have h1 := hopTo_here hV h0.2.2.1 hh
      have h2 := goL_here hV l x y (c + k) a b d h1.1 hg
      have e : ((h :: l).length : Int) = l.length + 1 := by simp
      rw [e]
      exact ⟨h2.1, by omega, by omega, by omega⟩
theorem goR_ok {g : GraphD} {v t : Int} {l : List HopD} {a b d : Int} (h : goR g v t l = (a, b, d, 0)) : placeErr g v t = 0 ∧ l.length ≤ 500 ∧ aliveB g v t = true ∧ goL g v t 0 l = some (a, b, d) := by
  unfold goR at h
  split at h
  · rename_i h1
    split at h
    · simp at h
    · rename_i h2
      split at h
      · rename_i h3
        split at h
        · rename_i p hp
          simp only [Prod.mk.injEq] at h
          obtain ⟨rfl, rfl, rfl, _⟩ := h
          exact ⟨h1, by omega, h3, hp⟩
        · simp at h
      · simp at h
  · rename_i h1
    simp only [Prod.mk.injEq] at h
    exact absurd h.2.2.2 h1
theorem goR_here {g : GraphD} (hV : Valid g) {v t : Int} {l : List HopD} {a b d : Int} (h : Here g v t) (hl : l.length ≤ 500) (hg : goL g v t 0 l = some (a, b, d)) : goR g v t l = (a, b, d, 0) :=
  goR_some (h.place hV) (by omega) h.2.2.2.2 hg
theorem goR_err {g : GraphD} {v t : Int} {l : List HopD} {a b d e : Int} (h : goR g v t l = (a, b, d, e)) (he : e ≠ 0) : a = 0 ∧ b = 0 ∧ d = 0 := by
  unfold goR at h
  split at h
  · split at h
    · simp at h; omega
    · split at h
      · split at h
        · simp at h; omega
        · simp at h; omega
      · simp at h; omega
  · simp at h; omega

/-- The hops of a walk, as numbers say; where one is then. -/
def walkL (g : GraphD) : Int → Int → List Int → List HopD × Int × Int
  | v, t, [] => ([], v, t)
  | v, t, k :: r =>
    if placeErr g v t = 0 ∧ outR g v t ≠ [] then
      (match (outR g v t)[(k % (outR g v t).length).toNat]? with
      | some h => (match goR g v t [h] with
        | (a, b, _, e) => if e = 0 then (h :: (walkL g a b r).1, (walkL g a b r).2) else ([], v, t))
      | none => ([], v, t))
    else ([], v, t)
theorem walkL_stop {g : GraphD} {v t k : Int} {r : List Int} (h : ¬ (placeErr g v t = 0 ∧ outR g v t ≠ [])) : walkL g v t (k :: r) = ([], v, t) := by rw [walkL, if_neg h]
theorem walkL_bad {g : GraphD} {v t k a b d e : Int} {r : List Int} {h : HopD} (h1 : placeErr g v t = 0 ∧ outR g v t ≠ []) (h2 : (outR g v t)[(k % (outR g v t).length).toNat]? = some h) (h3 : goR g v t [h] = (a, b, d, e)) (h4 : ¬ e = 0) :
    walkL g v t (k :: r) = ([], v, t) := by rw [walkL, if_pos h1, h2]; simp only [h3]; rw [if_neg h4]
theorem walkL_go {g : GraphD} {v t k a b d : Int} {r : List Int} {h : HopD} (h1 : placeErr g v t = 0 ∧ outR g v t ≠ []) (h2 : (outR g v t)[(k % (outR g v t).length).toNat]? = some h) (h3 : goR g v t [h] = (a, b, d, 0)) :
    walkL g v t (k :: r) = (h :: (walkL g a b r).1, (walkL g a b r).2) := by rw [walkL, if_pos h1, h2]; simp only [h3]; rfl
theorem walkL_len {g : GraphD} : ∀ (l : List Int) (v t : Int), (walkL g v t l).1.length ≤ l.length
  | [], v, t => by simp [walkL]
  | k :: r, v, t => by
    unfold walkL
    split
    · split
      · rename_i h _
        have := fun a b => walkL_len (g := g) r a b
        generalize goR g v t [h] = q
        obtain ⟨a, b, d, e⟩ := q
        simp only
        split
        · simpa using this a b
        · simp
      · simp
    · simp
/-- What a walk takes is a journey. -/
theorem walkL_goes {g : GraphD} : ∀ (l : List Int) (v t : Int), placeErr g v t = 0 → ∃ d, goL g v t 0 (walkL g v t l).1 = some ((walkL g v t l).2.1, (walkL g v t l).2.2, d)
  | [], v, t, _ => ⟨0, by simp [walkL, goL]⟩
  | k :: r, v, t, hp => by
    by_cases h1 : placeErr g v t = 0 ∧ outR g v t ≠ []
    case neg => rw [walkL_stop h1]; exact ⟨0, rfl⟩
    have hV := (place_of hp).1
    cases h2 : (outR g v t)[(k % (outR g v t).length).toNat]? with
    | none => rw [walkL, if_pos h1, h2]; exact ⟨0, rfl⟩
    | some h =>
      obtain ⟨a, b, d, e, h3⟩ : ∃ a b d e, goR g v t [h] = (a, b, d, e) := ⟨_, _, _, _, rfl⟩
      by_cases h4 : e = 0
      case neg => rw [walkL_bad h1 h2 h3 h4]; exact ⟨0, rfl⟩
      subst h4
      rw [walkL_go h1 h2 h3]
      obtain ⟨_, _, hal, hg⟩ := goR_ok h3
      have hh : hopTo g v t h = some (a, b, d) := by
        cases hh : hopTo g v t h with
        | none => rw [goL_none hh] at hg; simp at hg
        | some p =>
          obtain ⟨x, y, k⟩ := p
          rw [goL_some hh] at hg
          simp [goL] at hg
          obtain ⟨rfl, rfl, rfl⟩ := hg
          rfl
      have hhere := (hopTo_here hV (place_of hp).2.2.1 hh).1
      obtain ⟨d2, ih⟩ := walkL_goes r a b (hhere.place hV)
      refine ⟨0 + d + d2, ?_⟩
      show goL g v t 0 (h :: (walkL g a b r).1) = some ((walkL g a b r).2.1, (walkL g a b r).2.2, 0 + d + d2)
      rw [goL_some hh, goL_cost, ih]
      rfl
/-- A list of hops that is empty unless one can be at the place. -/
theorem walkL_dead {g : GraphD} {v t : Int} (l : List Int) (h : ¬ placeErr g v t = 0) : walkL g v t l = ([], v, t) := by
  cases l with
  | nil => rfl
  | cons k r => exact walkL_stop fun hh => h hh.1
theorem walkL_notalive {g : GraphD} {v t : Int} (l : List Int) (h : aliveB g v t = false) : walkL g v t l = ([], v, t) := by
  cases l with
  | nil => rfl
  | cons k r =>
    refine walkL_stop fun hh => hh.2 ?_
    simp [outR, outs, h]
/-- Out's hops go, and no others. -/
theorem outs_hop {g : GraphD} {v t : Int} (hp : placeErr g v t = 0) (h : HopD) : h ∈ outs g v t ↔ (aliveB g v t = true ∧ ∃ p, hopTo g v t h = some p) := by
  obtain ⟨hV, hv, ht⟩ := place_of hp
  unfold outs
  split
  · rename_i hal
    rw [outsL_mem, outsAt_mem]
    constructor
    · rintro ⟨h1, h2, _, k, x, hk, he, hl⟩
      refine ⟨hal, ?_⟩
      simp only [leavesB, Bool.and_eq_true, decide_eq_true_eq] at hl
      obtain ⟨hl1, hl2⟩ := hl
      obtain ⟨p, hp'⟩ := Option.isSome_iff_exists.1 hl1
      obtain ⟨lg, to⟩ := p
      have e1 : h.edge.toNat = k := by omega
      exact ⟨_, hopTo_of (by omega) (by rw [e1]; exact hk) hl2 h1 hp'⟩
    · rintro ⟨_, p, hh⟩
      obtain ⟨b, to, c⟩ := p
      obtain ⟨x, lg, h0, hx, h1, h2, ha, _, _⟩ := hopTo_spec hh
      have hs := arrive_some ha
      have hxe := hV.edges x (List.mem_of_getElem? hx)
      have hlg := hxe.legs lg hs.1
      refine ⟨h2, by omega, rfl, h.edge.toNat, x, hx, by omega, ?_⟩
      simp [leavesB, ha, h1]
  · rename_i hal
    simp [hal]
end Go.Proofs.YtdpibehpmghghaaGreat
/- The earliest times, as greatest solutions; the first hop along an edge, the last one; no program in sight. -/
namespace Go.Proofs.YtdpibehpmghghaaGreat

def Never : Int := 1099511627776
/-- One more time is tried: who comes earlier stays. -/
def fstep (g : GraphD) (x : EdgeD) (o : Option (Int × Int)) (d : Int) : Option (Int × Int) := match arrive g x d with
  | some p => (match o with
    | some q => if p.2 < q.2 then some (d, p.2) else o
    | none => some (d, p.2))
  | none => o
theorem fstep_no {g : GraphD} {x : EdgeD} {o : Option (Int × Int)} {d : Int} (h : arrive g x d = none) : fstep g x o d = o := by simp [fstep, h]
theorem fstep_new {g : GraphD} {x : EdgeD} {d to : Int} {l : LegD} (h : arrive g x d = some (l, to)) : fstep g x none d = some (d, to) := by simp [fstep, h]
theorem fstep_less {g : GraphD} {x : EdgeD} {d to a b : Int} {l : LegD} (h : arrive g x d = some (l, to)) (h2 : to < b) : fstep g x (some (a, b)) d = some (d, to) := by simp [fstep, h, h2]
theorem fstep_more {g : GraphD} {x : EdgeD} {d to a b : Int} {l : LegD} (h : arrive g x d = some (l, to)) (h2 : ¬ to < b) : fstep g x (some (a, b)) d = some (a, b) := by simp [fstep, h, h2]
def firstL (g : GraphD) (x : EdgeD) : Nat → Int → Option (Int × Int) → Option (Int × Int)
  | 0, _, o => o
  | n + 1, d, o => firstL g x n (d + 1) (fstep g x o d)
def first (g : GraphD) (x : EdgeD) (t : Int) : Option (Int × Int) := firstL g x (g.h - t).toNat t none
theorem firstL_spec {g : GraphD} {x : EdgeD} : ∀ (n : Nat) (d : Int) (o : Option (Int × Int)),
    (firstL g x n d o = none → o = none ∧ ∀ e, d ≤ e → e < d + n → arrive g x e = none) ∧
    (∀ a b, firstL g x n d o = some (a, b) → (o = some (a, b) ∨ d ≤ a ∧ a < d + n ∧ ∃ l, arrive g x a = some (l, b)) ∧ (∀ p q, o = some (p, q) → b ≤ q) ∧ ∀ e l u, d ≤ e → e < d + n → arrive g x e = some (l, u) → b ≤ u)
  | 0, d, o => ⟨fun h => ⟨h, fun e h1 h2 => by omega⟩, fun a b h => ⟨.inl h, fun p q hp => by
      rw [firstL, hp] at h
      obtain ⟨rfl, rfl⟩ : p = a ∧ q = b := by simpa using h
      exact Int.le_refl _, fun e l u h1 h2 => by omega⟩⟩
  | n + 1, d, o => by
    obtain ⟨ih1, ih2⟩ := firstL_spec n (d + 1) (fstep g x o d)
    refine ⟨fun h => ?_, fun a b h => ?_⟩
    · obtain ⟨h1, h2⟩ := ih1 h
      cases ha : arrive g x d with
      | none =>
        rw [fstep_no ha] at h1
        refine ⟨h1, fun e k1 k2 => ?_⟩
        by_cases he : e = d
        · rw [he]; exact ha
        · exact h2 e (by omega) (by omega)
      | some p =>
        obtain ⟨l, to⟩ := p
        cases o with
        | none => rw [fstep_new ha] at h1; simp at h1
        | some q =>
          obtain ⟨a, b⟩ := q
          by_cases hlt : to < b
          · rw [fstep_less ha hlt] at h1; simp at h1
          · rw [fstep_more ha hlt] at h1; simp at h1
    · obtain ⟨h1, h2, h3⟩ := ih2 a b h
      cases ha : arrive g x d with
      | none =>
        rw [fstep_no ha] at h1 h2
        refine ⟨h1.imp id fun ⟨k1, k2, k3⟩ => ⟨by omega, by omega, k3⟩, h2, fun e l u k1 k2 k3 => ?_⟩
        by_cases he : e = d
        · rw [he, ha] at k3; simp at k3
        · exact h3 e l u (by omega) (by omega) k3
      | some p =>
        obtain ⟨l, to⟩ := p
        have hto : b ≤ to ∧ (∀ p q, o = some (p, q) → b ≤ q) ∧ (fstep g x o d = some (a, b) → o = some (a, b) ∨ a = d ∧ b = to) := by
          cases o with
          | none =>
            rw [fstep_new ha] at h2 ⊢
            exact ⟨h2 _ _ rfl, fun p q hp => by simp at hp, fun e => .inr (by simp only [Option.some.injEq, Prod.mk.injEq] at e; omega)⟩
          | some q =>
            obtain ⟨p, q⟩ := q
            by_cases hlt : to < q
            · rw [fstep_less ha hlt] at h2 ⊢
              have := h2 _ _ rfl
              refine ⟨this, fun p' q' hp => ?_, fun e => .inr (by simp only [Option.some.injEq, Prod.mk.injEq] at e; omega)⟩
              simp only [Option.some.injEq, Prod.mk.injEq] at hp
              omega
            · rw [fstep_more ha hlt] at h2 ⊢
              have := h2 _ _ rfl
              exact ⟨by omega, h2, fun e => .inl e⟩
        refine ⟨?_, hto.2.1, fun e l' u k1 k2 k3 => ?_⟩
        · rcases h1 with h1 | ⟨k1, k2, k3⟩
          · rcases hto.2.2 h1 with h4 | ⟨rfl, rfl⟩
            · exact .inl h4
            · exact .inr ⟨Int.le_refl _, by omega, l, ha⟩
          · exact .inr ⟨by omega, by omega, k3⟩
        · by_cases he : e = d
          · rw [he, ha] at k3
            simp only [Option.some.injEq, Prod.mk.injEq] at k3
            omega
          · exact h3 e l' u (by omega) (by omega) k3
theorem arrive_late {g : GraphD} (hV : Valid g) {x : EdgeD} (hx : EdgeOk g x) {t to : Int} {l : LegD} (h : arrive g x t = some (l, to)) : 0 ≤ t ∧ t < to ∧ to < g.h ∧ to ≤ 100 := by
  have h1 := arrive_some h
  have h2 := hx.legs l h1.1
  have h3 := hV.h1
  omega
theorem first_some {g : GraphD} {x : EdgeD} {t a b : Int} (h : first g x t = some (a, b)) : t ≤ a ∧ (∃ l, arrive g x a = some (l, b)) ∧ ∀ e l u, t ≤ e → arrive g x e = some (l, u) → e < g.h → b ≤ u := by
  obtain ⟨h1, _, h3⟩ := (firstL_spec _ _ _).2 a b h
  rcases h1 with h1 | ⟨k1, k2, k3⟩
  · simp at h1
  · exact ⟨k1, k3, fun e l u h4 h5 h6 => h3 e l u h4 (by omega) h5⟩
theorem first_none {g : GraphD} {x : EdgeD} {t : Int} (h : first g x t = none) : ∀ e, t ≤ e → e < g.h → arrive g x e = none :=
  fun e h1 h2 => ((firstL_spec _ _ _).1 h).2 e h1 (by omega)
/-- When one comes along an edge, who can leave from a time on. -/
def earlyF (g : GraphD) (x : EdgeD) (t : Int) : Int := match first g x t with
  | some p => p.2
  | none => Never
theorem earlyF_some {g : GraphD} {x : EdgeD} {t a b : Int} (h : first g x t = some (a, b)) : earlyF g x t = b := by simp [earlyF, h]
theorem earlyF_none {g : GraphD} {x : EdgeD} {t : Int} (h : first g x t = none) : earlyF g x t = Never := by simp [earlyF, h]
section
variable {g : GraphD} {x : EdgeD}
theorem earlyF_le (hV : Valid g) (hx : EdgeOk g x) {t d to : Int} {l : LegD} (h1 : t ≤ d) (h2 : arrive g x d = some (l, to)) : earlyF g x t ≤ to := by
  have h3 := arrive_late hV hx h2
  cases hf : first g x t with
  | none =>
    have := first_none hf d h1 (by omega)
    rw [h2] at this
    simp at this
  | some p =>
    obtain ⟨a, b⟩ := p
    rw [earlyF_some hf]
    exact (first_some hf).2.2 d l to h1 h2 (by omega)
theorem earlyF_cases (_ : Valid g) (_ : EdgeOk g x) (t : Int) : earlyF g x t = Never ∨ ∃ d l to, t ≤ d ∧ arrive g x d = some (l, to) ∧ earlyF g x t = to ∧ first g x t = some (d, to) := by
  cases hf : first g x t with
  | none => exact .inl (earlyF_none hf)
  | some p =>
    obtain ⟨a, b⟩ := p
    obtain ⟨h1, ⟨l, h2⟩, _⟩ := first_some hf
    exact .inr ⟨a, l, b, h1, h2, earlyF_some hf, rfl⟩
theorem earlyF_mono (hV : Valid g) (hx : EdgeOk g x) : Mono (earlyF g x) := by
  intro s t hst
  rcases earlyF_cases hV hx t with h | ⟨d, l, to, h1, h2, h3, _⟩
  · rcases earlyF_cases hV hx s with h' | ⟨d, l, to, h1, h2, h3, _⟩
    · rw [h, h']; exact Int.le_refl _
    · have := arrive_late hV hx h2
      rw [h, h3]; simp only [Never]; omega
  · rw [h3]; exact earlyF_le hV hx (by omega) h2
theorem earlyF_ge (hV : Valid g) (hx : EdgeOk g x) {t : Int} (ht : t ≤ Never) : t ≤ earlyF g x t := by
  rcases earlyF_cases hV hx t with h | ⟨d, l, to, h1, h2, h3, _⟩
  · rw [h]; exact ht
  · have := arrive_late hV hx h2
    rw [h3]; omega
theorem earlyF_never (hV : Valid g) (hx : EdgeOk g x) : Never ≤ earlyF g x Never := earlyF_ge hV hx (Int.le_refl _)
end
/-! ### the earliest times -/
def arcE (g : GraphD) (x : EdgeD) : Arc Nat := ⟨x.a.toNat, x.b.toNat, earlyF g x⟩
def arcsE (g : GraphD) : List (Arc Nat) := g.edges.map (arcE g)
def startE (g : GraphD) (v t : Int) : List Int := (List.range g.lives.length).map fun (k : Nat) => if aliveB g v t = true ∧ (k : Int) = v then t else Never
/-- The list tells when one comes from a place. -/
def EarlyL (g : GraphD) (v t : Int) (l : List Int) : Prop := l.length = g.lives.length ∧ Best (· ∈ arcsE g) (gi (startE g v t)) (gi l)
theorem EarlyL.eq {g : GraphD} {v t : Int} {l r : List Int} (h : EarlyL g v t l) (k : EarlyL g v t r) : l = r := gi_ext (h.1.trans k.1.symm) (h.2.eq k.2)
theorem mem_arcsE {g : GraphD} {y : Arc Nat} : y ∈ arcsE g ↔ ∃ x, x ∈ g.edges ∧ y = arcE g x := by
  simp only [arcsE, List.mem_map]
  exact ⟨fun ⟨x, h, e⟩ => ⟨x, h, e.symm⟩, fun ⟨x, h, e⟩ => ⟨x, h, e.symm⟩⟩
theorem gi_map_range {n : Nat} {f : Nat → Int} {k : Nat} (h : k < n) : gi ((List.range n).map f) k = f k := gi_of (by simp [h])
theorem gi_map_range_far {n : Nat} {f : Nat → Int} {k : Nat} (h : n ≤ k) : gi ((List.range n).map f) k = 0 := gi_far (by simpa using h)
section
variable {g : GraphD} {v t : Int} {l : List Int}
theorem startE_val {k : Nat} (h : k < g.lives.length) : gi (startE g v t) k = if aliveB g v t = true ∧ (k : Int) = v then t else Never := by unfold startE; rw [gi_map_range h]
theorem startE_far {k : Nat} (h : g.lives.length ≤ k) : gi (startE g v t) k = 0 := by unfold startE; rw [gi_map_range_far h]
theorem startE_big (ht : t ≤ 100) (k : Nat) : gi (startE g v t) k ≤ Never := by
  by_cases h : k < g.lives.length
  · rw [startE_val h]; split <;> simp only [Never] <;> omega
  · rw [startE_far (by omega)]; simp [Never]
theorem arcsE_ok (hV : Valid g) : ∀ y, y ∈ arcsE g → y.a < g.lives.length ∧ y.b < g.lives.length ∧ Mono y.f ∧ Never ≤ y.f Never := by
  intro y hy
  obtain ⟨x, hx, rfl⟩ := mem_arcsE.1 hy
  have h := hV.edges x hx
  have h0 := h.a0; have h1 := h.a1; have h2 := h.b0; have h3 := h.b1
  exact ⟨by simp only [arcE]; omega, by simp only [arcE]; omega, earlyF_mono hV h, earlyF_never hV h⟩
theorem EarlyL.big (h : EarlyL g v t l) (ht : t ≤ 100) (k : Nat) : gi l k ≤ Never := Int.le_trans (h.2.1.1 k) (startE_big ht k)
/-- Nothing is told ahead of the start; and what is told is a time, or never. -/
theorem EarlyL.low (hV : Valid g) (h : EarlyL g v t l) (ht : t ≤ 100) {k : Nat} (hk : k < g.lives.length) : t ≤ gi l k := by
  have : ∀ i, (fun i => if i < g.lives.length then t else 0) i ≤ gi l i := h.2.2 _ ⟨fun i => ?_, fun y hy => ?_⟩
  · have := this k; simpa [hk] using this
  · by_cases hi : i < g.lives.length
    · simp only [if_pos hi, startE_val hi]; split <;> (try simp only [Never]) <;> omega
    · simp only [if_neg hi, startE_far (show g.lives.length ≤ i by omega)]; exact Int.le_refl _
  · obtain ⟨h1, h2, h3, h4⟩ := arcsE_ok hV y hy
    obtain ⟨x, hx, rfl⟩ := mem_arcsE.1 hy
    simp only [if_pos h1, if_pos h2]
    exact earlyF_ge hV (hV.edges x hx) (by simp only [Never]; omega)
theorem EarlyL.arc (h : EarlyL g v t l) {x : EdgeD} (hx : x ∈ g.edges) : gi l x.b.toNat ≤ earlyF g x (gi l x.a.toNat) := h.2.1.2 (arcE g x) (mem_arcsE.2 ⟨x, hx, rfl⟩)
/-- Who comes somewhere else has come along an edge. -/
theorem EarlyL.by_hop (hV : Valid g) (h : EarlyL g v t l) {k : Nat} (hk : k < g.lives.length) (hf : gi l k < gi (startE g v t) k) :
    ∃ x d lg, x ∈ g.edges ∧ x.b = (k : Int) ∧ gi l x.a.toNat ≤ d ∧ arrive g x d = some (lg, gi l k) := by
  obtain ⟨y, hy, hb, he⟩ := h.2.tight (fun y hy => (arcsE_ok hV y hy).2.2.1) hf
  obtain ⟨x, hx, rfl⟩ := mem_arcsE.1 hy
  have ho := hV.edges x hx
  have h1 := ho.b0
  simp only [arcE] at hb he
  have hs : gi (startE g v t) k ≤ Never ∨ 100 < t := by
    by_cases ht : t ≤ 100
    · exact .inl (startE_big ht k)
    · exact .inr (by omega)
  rcases earlyF_cases hV ho (gi l x.a.toNat) with h2 | ⟨d, lg, to, h2, h3, h4, _⟩
  · rw [h2] at he
    rw [startE_val hk] at hf
    split at hf
    · rename_i hp
      rw [← he] at hf
      simp only [Never] at hf
      obtain ⟨hp1, _⟩ := hp
      unfold aliveB at hp1
      split at hp1
      · rename_i lf hlf
        have := hV.lives lf (List.mem_of_getElem? hlf)
        have := hV.h1
        simp at hp1
        omega
      · simp at hp1
    · rw [← he] at hf; simp only [Never] at hf; omega
  · exact ⟨x, d, lg, hx, by omega, h2, by rw [← he, h4]; exact h3⟩
/-- A time that is told is one at which one is alive there. -/
theorem EarlyL.here (hV : Valid g) (h : EarlyL g v t l) (hh : 0 ≤ v ∧ v < g.lives.length ∧ 0 ≤ t ∧ t < g.h) {k : Nat} (hk : k < g.lives.length) (hf : gi l k < Never) : Here g k (gi l k) := by
  have hle := h.2.1.1 k
  by_cases he : gi l k = gi (startE g v t) k
  · rw [startE_val hk] at he
    split at he
    · rename_i hp
      rw [he, hp.2]
      exact ⟨hh.1, hh.2.1, hh.2.2.1, hh.2.2.2, hp.1⟩
    · omega
  · obtain ⟨x, d, lg, hx, hb, _, ha⟩ := h.by_hop hV hk (by omega)
    have h1 := arrive_some ha
    have h2 := arrive_late hV (hV.edges x hx) ha
    rw [hb] at h1
    exact ⟨by omega, by omega, by omega, by omega, h1.2.2.2.2.2.2⟩
end
end Go.Proofs.YtdpibehpmghghaaGreat
