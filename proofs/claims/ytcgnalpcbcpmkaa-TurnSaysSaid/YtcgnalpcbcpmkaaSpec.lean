/- What the program's functions compute, as plain Lean functions; no program in sight. -/
import Derived.Test.YtcgnalpcbcpmkaaMem
namespace Go.Proofs.Ytcgnalpcbcpmkaa
open Go.RowKit

def inB (n lo hi : Int) : Bool := decide (lo ≤ n ∧ n ≤ hi)
def legOk (l : LegD) (h : Int) : Bool := decide (0 ≤ l.f ∧ l.f < l.t ∧ l.t ≤ h ∧ 1 ≤ l.time ∧ l.time ≤ 50 ∧ 0 ≤ l.cost ∧ l.cost ≤ 1000)
/-- The legs of an edge, behind one that ends at p (none: no bound). -/
def legsErr (h : Int) : Option Int → List LegD → Int
  | _, [] => 0
  | p, l :: r => if legOk l h = false then 1 else if (match p with | some q => decide (l.f < q) | none => false) = true then 5 else legsErr h (some l.t) r
theorem legsErr_bad {h : Int} {p : Option Int} {l : LegD} {r : List LegD} (hl : legOk l h = false) : legsErr h p (l :: r) = 1 := by simp [legsErr, hl]
theorem legsErr_form {h q : Int} {l : LegD} {r : List LegD} (hl : legOk l h = true) (hq : l.f < q) : legsErr h (some q) (l :: r) = 5 := by simp [legsErr, hl, hq]
theorem legsErr_next {h q : Int} {l : LegD} {r : List LegD} (hl : legOk l h = true) (hq : ¬ l.f < q) : legsErr h (some q) (l :: r) = legsErr h (some l.t) r := by simp [legsErr, hl, hq]
theorem legsErr_first {h : Int} {l : LegD} {r : List LegD} (hl : legOk l h = true) : legsErr h none (l :: r) = legsErr h (some l.t) r := by simp [legsErr, hl]
/-- The leg ahead of number k. -/
def legAhead (l : List LegD) : Nat → Option Int
  | 0 => none
  | k + 1 => (l[k]?).map LegD.t
theorem legAhead_of {l : List LegD} {k : Nat} {z : LegD} (h : l[k]? = some z) : legAhead l (k + 1) = some z.t := by simp [legAhead, h]
def edgeErr (h n : Int) (x : EdgeD) : Int :=
  if inB x.a 0 (n - 1) = false ∨ inB x.b 0 (n - 1) = false then 4 else if 6 < x.legs.length then 2 else legsErr h none x.legs
def edgesErr (h n : Int) : List EdgeD → Int
  | [] => 0
  | x :: r => if edgeErr h n x = 0 then edgesErr h n r else edgeErr h n x
def lifeOk (h : Int) (l : IvlD) : Bool := decide (0 ≤ l.f ∧ l.f < l.t ∧ l.t ≤ h)
/-- P7. -/
def graphErr (g : GraphD) : Int :=
  if inB g.h 1 100 = false then 1 else if 12 < g.lives.length ∨ 30 < g.edges.length then 2 else if g.lives.all (lifeOk g.h) = false then 1 else edgesErr g.h g.lives.length g.edges
theorem graphErr_h {g : GraphD} (h : inB g.h 1 100 = false) : graphErr g = 1 := by unfold graphErr; rw [if_pos h]
theorem graphErr_large {g : GraphD} (h : inB g.h 1 100 = true) (h2 : 12 < g.lives.length ∨ 30 < g.edges.length) : graphErr g = 2 := by unfold graphErr; rw [if_neg (by simp [h]), if_pos h2]
theorem graphErr_life {g : GraphD} (h : inB g.h 1 100 = true) (h2 : ¬ (12 < g.lives.length ∨ 30 < g.edges.length)) (h3 : g.lives.all (lifeOk g.h) = false) : graphErr g = 1 := by
  unfold graphErr; rw [if_neg (by simp [h]), if_neg h2, if_pos h3]
theorem graphErr_edges {g : GraphD} (h : inB g.h 1 100 = true) (h2 : ¬ (12 < g.lives.length ∨ 30 < g.edges.length)) (h3 : g.lives.all (lifeOk g.h) = true) : graphErr g = edgesErr g.h g.lives.length g.edges := by
  unfold graphErr; rw [if_neg (by simp [h]), if_neg h2, if_neg (by simp [h3])]
theorem edgesErr_next {h n : Int} {x : EdgeD} {r : List EdgeD} (he : edgeErr h n x = 0) : edgesErr h n (x :: r) = edgesErr h n r := by rw [edgesErr, if_pos he]
theorem edgesErr_bad {h n : Int} {x : EdgeD} {r : List EdgeD} (he : ¬ edgeErr h n x = 0) : edgesErr h n (x :: r) = edgeErr h n x := by rw [edgesErr, if_neg he]
theorem all_next {α : Type} {p : α → Bool} {x : α} {r : List α} (h : p x = true) : (x :: r).all p = r.all p := by simp [h]
theorem all_bad {α : Type} {p : α → Bool} {x : α} {r : List α} (h : p x = false) : (x :: r).all p = false := by simp [h]
theorem lifeOk_true {h : Int} {l : IvlD} (h1 : 0 ≤ l.f ∧ l.f < l.t ∧ l.t ≤ h) : lifeOk h l = true := by simp [lifeOk, h1]
theorem lifeOk_false {h : Int} {l : IvlD} (h1 : ¬ (0 ≤ l.f ∧ l.f < l.t ∧ l.t ≤ h)) : lifeOk h l = false := by simp only [lifeOk, decide_eq_false_iff_not]; exact h1

/-! ### right graphs -/
structure EdgeOk (g : GraphD) (x : EdgeD) : Prop where
  a0 : 0 ≤ x.a
  a1 : x.a < g.lives.length
  b0 : 0 ≤ x.b
  b1 : x.b < g.lives.length
  six : x.legs.length ≤ 6
  legs : ∀ l, l ∈ x.legs → 0 ≤ l.f ∧ l.f < l.t ∧ l.t ≤ g.h ∧ 1 ≤ l.time ∧ l.time ≤ 50 ∧ 0 ≤ l.cost ∧ l.cost ≤ 1000
  err : legsErr g.h none x.legs = 0
structure Valid (g : GraphD) : Prop where
  h0 : 1 ≤ g.h
  h1 : g.h ≤ 100
  nl : g.lives.length ≤ 12
  ne : g.edges.length ≤ 30
  lives : ∀ l, l ∈ g.lives → 0 ≤ l.f ∧ l.f < l.t ∧ l.t ≤ g.h
  edges : ∀ x, x ∈ g.edges → EdgeOk g x

theorem legs_of_err {h : Int} : ∀ (l : List LegD) (p : Option Int), legsErr h p l = 0 → ∀ x, x ∈ l → legOk x h = true
  | [], _, _, x, hx => by simp at hx
  | y :: r, p, he, x, hx => by
    have h1 : legOk y h = true := by
      cases h0 : legOk y h
      · rw [legsErr_bad h0] at he; simp at he
      · rfl
    have h2 : legsErr h (some y.t) r = 0 := by
      cases p with
      | none => rwa [legsErr_first h1] at he
      | some q =>
        by_cases hq : y.f < q
        · rw [legsErr_form h1 hq] at he; simp at he
        · rwa [legsErr_next h1 hq] at he
    rcases List.mem_cons.1 hx with rfl | hx
    · exact h1
    · exact legs_of_err r _ h2 x hx
theorem edges_of_err {h n : Int} : ∀ (l : List EdgeD), edgesErr h n l = 0 → ∀ x, x ∈ l → edgeErr h n x = 0
  | [], _, x, hx => by simp at hx
  | y :: r, he, x, hx => by
    unfold edgesErr at he
    split at he
    · rename_i h1
      rcases List.mem_cons.1 hx with rfl | hx
      · exact h1
      · exact edges_of_err r he x hx
    · contradiction
theorem edgesErr_ok {h n : Int} : ∀ (l : List EdgeD), (∀ x, x ∈ l → edgeErr h n x = 0) → edgesErr h n l = 0
  | [], _ => rfl
  | y :: r, hh => by rw [edgesErr, if_pos (hh y (by simp))]; exact edgesErr_ok r fun x hx => hh x (by simp [hx])
theorem valid_of {g : GraphD} (h : graphErr g = 0) : Valid g := by
  unfold graphErr at h
  split at h
  · simp at h
  · rename_i h1
    split at h
    · simp at h
    · rename_i h2
      split at h
      · simp at h
      · rename_i h3
        simp [inB] at h1
        simp [lifeOk] at h3
        refine ⟨h1.1, h1.2, by omega, by omega, h3, fun x hx => ?_⟩
        have he := edges_of_err _ h x hx
        unfold edgeErr at he
        split at he
        · simp at he
        · rename_i k1
          split at he
          · simp at he
          · rename_i k2
            simp [inB] at k1
            refine ⟨by omega, by omega, by omega, by omega, by omega, fun l hl => ?_, he⟩
            have := legs_of_err _ _ he l hl
            simpa [legOk] using this
theorem valid_ok {g : GraphD} (h : Valid g) : graphErr g = 0 := by
  have h1 := h.h0; have h2 := h.h1; have h3 := h.nl; have h4 := h.ne
  rw [graphErr_edges (by simp [inB]; omega) (by omega) (by simp [lifeOk]; exact h.lives)]
  refine edgesErr_ok _ fun x hx => ?_
  have e := h.edges x hx
  have e1 := e.a0; have e2 := e.a1; have e3 := e.b0; have e4 := e.b1; have e5 := e.six
  unfold edgeErr
  rw [if_neg (by simp [inB]; omega), if_neg (by omega)]
  exact e.err

/-! ### one step -/
def aliveB (g : GraphD) (v t : Int) : Bool := match g.lives[v.toNat]? with
  | some l => decide (l.f ≤ t ∧ t < l.t)
  | none => false
theorem aliveB_of {g : GraphD} {v t : Int} {l : IvlD} (h : g.lives[v.toNat]? = some l) : aliveB g v t = decide (l.f ≤ t ∧ t < l.t) := by simp [aliveB, h]
def leaves (t : Int) : List LegD → Option LegD
  | [] => none
  | x :: l => if x.f ≤ t ∧ t < x.t then some x else leaves t l
theorem leaves_hit {t : Int} {x : LegD} {l : List LegD} (h : x.f ≤ t ∧ t < x.t) : leaves t (x :: l) = some x := by simp [leaves, h]
theorem leaves_miss {t : Int} {x : LegD} {l : List LegD} (h : ¬ (x.f ≤ t ∧ t < x.t)) : leaves t (x :: l) = leaves t l := by rw [leaves, if_neg h]
theorem leaves_mem {t : Int} {x : LegD} : ∀ {l : List LegD}, leaves t l = some x → x ∈ l ∧ x.f ≤ t ∧ t < x.t
  | [], h => by simp [leaves] at h
  | y :: l, h => by
    unfold leaves at h
    split at h
    · rename_i h1
      obtain rfl : y = x := by simpa using h
      exact ⟨by simp, h1⟩
    · have := leaves_mem h
      exact ⟨by simp [this.1], this.2⟩
/-- Who leaves along an edge at a time: by which leg, and when one comes. -/
def arrive (g : GraphD) (x : EdgeD) (t : Int) : Option (LegD × Int) := match leaves t x.legs with
  | some l => if aliveB g x.a t = true ∧ t + l.time < g.h ∧ aliveB g x.b (t + l.time) = true then some (l, t + l.time) else none
  | none => none
theorem arrive_no {g : GraphD} {x : EdgeD} {t : Int} (h : leaves t x.legs = none) : arrive g x t = none := by simp [arrive, h]
theorem arrive_of {g : GraphD} {x : EdgeD} {t : Int} {l : LegD} (h : leaves t x.legs = some l) :
    arrive g x t = if aliveB g x.a t = true ∧ t + l.time < g.h ∧ aliveB g x.b (t + l.time) = true then some (l, t + l.time) else none := by simp [arrive, h]
/-- What is wrong with a graph, a vertex and a time. -/
def placeErr (g : GraphD) (v t : Int) : Int :=
  if graphErr g = 0 then (if inB v 0 (g.lives.length - 1) = true then (if inB t 0 (g.h - 1) = true then 0 else 1) else 4) else graphErr g
theorem placeErr_g {g : GraphD} {v t : Int} (h : ¬ graphErr g = 0) : placeErr g v t = graphErr g := by unfold placeErr; rw [if_neg h]
theorem placeErr_v {g : GraphD} {v t : Int} (h : graphErr g = 0) (h2 : inB v 0 (g.lives.length - 1) = false) : placeErr g v t = 4 := by unfold placeErr; rw [if_pos h, if_neg (by simp [h2])]
theorem placeErr_t {g : GraphD} {v t : Int} (h : graphErr g = 0) (h2 : inB v 0 (g.lives.length - 1) = true) (h3 : inB t 0 (g.h - 1) = false) : placeErr g v t = 1 := by
  unfold placeErr; rw [if_pos h, if_pos h2, if_neg (by simp [h3])]
theorem placeErr_0 {g : GraphD} {v t : Int} (h : graphErr g = 0) (h2 : inB v 0 (g.lives.length - 1) = true) (h3 : inB t 0 (g.h - 1) = true) : placeErr g v t = 0 := by
  unfold placeErr; rw [if_pos h, if_pos h2, if_pos h3]
theorem place_of {g : GraphD} {v t : Int} (h : placeErr g v t = 0) : Valid g ∧ (0 ≤ v ∧ v < g.lives.length) ∧ 0 ≤ t ∧ t < g.h := by
  unfold placeErr at h
  split at h
  · rename_i h1
    split at h
    · rename_i h2
      split at h
      · rename_i h3
        simp [inB] at h2 h3
        exact ⟨valid_of h1, by omega, by omega⟩
      · simp at h
    · simp at h
  · contradiction
end Go.Proofs.Ytcgnalpcbcpmkaa
