/- Several texts in one: BoundsSpec, Spec, Small, SetSpec, IvlLawSpec. -/
import Derived.Test.YtjcimdpldlamfaaGreatDoorProg
import Derived.Test.YtjcimdpldlamfaaGreatDoorBd002cafd2b4
/- Bounds: numbers that rise, each once; what turns at them alone; no program in sight. -/
namespace Go.Proofs.YtjcimdpldlamfaaGreatDoor

/-- Of the first i of S, each once. -/
structure Uniq (S : List Int) (i : Nat) (D : List Int) : Prop where
 up : D.Pairwise (· < ·)
 mem : ∀ x, x ∈ D ↔ x ∈ S.take i
 short : D.length ≤ i
 pos : 0 < i → 0 < S.length → 0 < D.length
section
variable {S D o l : List Int} {i j : Nat} {x z a b c t : Int}
theorem Uniq.start : Uniq S 0 [] := ⟨.nil, fun x => by simp, Nat.le_refl _, fun h => by omega⟩
theorem take_mem (hi : S[i]? = some x) : ∀ y, y ∈ S.take (i + 1) ↔ y ∈ S.take i ∨ y = x := fun y => by
 rw [List.take_add_one, hi]
 simp
theorem Uniq.same (h : Uniq S i (o ++ [x])) (hi : S[i]? = some x) : Uniq S (i + 1) (o ++ [x]) := by
 refine ⟨h.up, fun y => ?_, by have := h.short; omega, fun _ _ => by simp⟩
 rw [take_mem hi, ← h.mem]
 simp
theorem Uniq.first (hi : S[0]? = some x) : Uniq S 1 [x] := ⟨by simp, fun y => by rw [take_mem hi]; simp, by simp, fun _ _ => by simp⟩
theorem Uniq.new (h : Uniq S i (o ++ [z])) (hs : S.Pairwise (· ≤ ·)) (hi : S[i]? = some x) (hz : z ≠ x) : Uniq S (i + 1) (o ++ [z] ++ [x]) := by
 have hle : ∀ y, y ∈ o ++ [z] → y ≤ x := fun y hy => by
  have h1 := (h.mem y).1 hy
  obtain ⟨j, hj⟩ := List.getElem?_of_mem h1
  have hj2 : j < i := by have := (List.getElem?_eq_some_iff.1 hj).1; rw [List.length_take] at this; omega
  rw [List.getElem?_take_of_lt hj2] at hj
  obtain ⟨hi1, hi2⟩ := List.getElem?_eq_some_iff.1 hi
  obtain ⟨hj1, hj3⟩ := List.getElem?_eq_some_iff.1 hj
  have := List.pairwise_iff_getElem.1 hs j i hj1 hi1 hj2
  omega
 have hzx : z < x := by have := hle z (by simp); omega
 refine ⟨?_, fun y => ?_, by have := h.short; simp only [List.length_append, List.length_cons, List.length_nil] at *; omega, fun _ _ => by simp⟩
 ·rw [List.pairwise_append]
  refine ⟨h.up, by simp, fun y hy u hu => ?_⟩
  obtain rfl : u = x := by simpa using hu
  rcases List.mem_append.1 hy with h1 | h1
  ·have := (List.pairwise_append.1 h.up).2.2 y h1 z (by simp)
   omega
  ·obtain rfl : y = z := by simpa using h1
   exact hzx
 ·rw [take_mem hi, ← h.mem]
  simp only [List.mem_append, List.mem_singleton]
/-- Between two bounds that follow each other there is none. -/
theorem rises_gap (h : D.Pairwise (· < ·)) (ha : D[i]? = some a) (hc : D[i + 1]? = some c) (hb : b ∈ D) : b ≤ a ∨ c ≤ b := by
 obtain ⟨j, hj⟩ := List.getElem?_of_mem hb
 obtain ⟨h1, h2⟩ := List.getElem?_eq_some_iff.1 ha
 obtain ⟨h3, h4⟩ := List.getElem?_eq_some_iff.1 hc
 obtain ⟨h5, h6⟩ := List.getElem?_eq_some_iff.1 hj
 rcases Nat.lt_trichotomy j i with k | k | k
 ·have := List.pairwise_iff_getElem.1 h j i h5 h1 k; omega
 ·subst k; omega
 ·by_cases e : j = i + 1
  ·subst e; omega
  ·have := List.pairwise_iff_getElem.1 h (i + 1) j h3 h5 (by omega); omega
theorem rises_lt (h : D.Pairwise (· < ·)) (ha : D[i]? = some a) (hc : D[i + 1]? = some c) : a < c := by
 obtain ⟨h1, h2⟩ := List.getElem?_eq_some_iff.1 ha
 obtain ⟨h3, h4⟩ := List.getElem?_eq_some_iff.1 hc
 have := List.pairwise_iff_getElem.1 h i (i + 1) h1 h3 (by omega)
 omega
theorem rises_first (h : D.Pairwise (· < ·)) (ha : D[0]? = some a) (hb : b ∈ D) : a ≤ b := by
 obtain ⟨j, hj⟩ := List.getElem?_of_mem hb
 obtain ⟨h1, h2⟩ := List.getElem?_eq_some_iff.1 ha
 obtain ⟨h5, h6⟩ := List.getElem?_eq_some_iff.1 hj
 by_cases e : j = 0
 ·subst e; omega
 ·have := List.pairwise_iff_getElem.1 h 0 j h1 h5 (by omega); omega
theorem rises_last (h : D.Pairwise (· < ·)) (ha : D[i]? = some a) (hi : i + 1 = D.length) (hb : b ∈ D) : b ≤ a := by
 obtain ⟨j, hj⟩ := List.getElem?_of_mem hb
 obtain ⟨h1, h2⟩ := List.getElem?_eq_some_iff.1 ha
 obtain ⟨h5, h6⟩ := List.getElem?_eq_some_iff.1 hj
 by_cases e : j = i
 ·subst e; omega
 ·have := List.pairwise_iff_getElem.1 h j i h5 h1 (by omega); omega
end
/-- What turns at the bounds alone, and holds of nothing outside of them. -/
structure TurnsAt {α : Type} (D : List Int) (no : α) (fn : Int → α) : Prop where
 const : ∀ (i : Nat) a c, D[i]? = some a → D[i + 1]? = some c → ∀ t, a ≤ t → t < c → fn t = fn a
 inside : ∀ t, fn t ≠ no → ∃ a c, a ∈ D ∧ c ∈ D ∧ a ≤ t ∧ t < c
theorem hasB_turns {D : List Int} {l : List IvlD} (h : D.Pairwise (· < ·)) (hl : ∀ x, x ∈ l → x.f ∈ D ∧ x.t ∈ D) : TurnsAt D false (hasB l) := by
 refine ⟨fun i a c ha hc t h1 h2 => ?_, fun t ht => ?_⟩
 ·rw [Bool.eq_iff_iff, has_iff, has_iff]
  constructor
  ·rintro ⟨x, hx, k1, k2⟩
   have e1 := rises_gap h ha hc (hl x hx).1
   have e2 := rises_gap h ha hc (hl x hx).2
   exact ⟨x, hx, by omega, by omega⟩
  ·rintro ⟨x, hx, k1, k2⟩
   have e1 := rises_gap h ha hc (hl x hx).1
   have e2 := rises_gap h ha hc (hl x hx).2
   exact ⟨x, hx, by omega, by omega⟩
 ·obtain ⟨x, hx, k1, k2⟩ := has_iff.1 (by simpa using ht : hasB l t = true)
  exact ⟨x.f, x.t, (hl x hx).1, (hl x hx).2, k1, k2⟩
theorem atM_turns {D : List Int} (h : D.Pairwise (· < ·)) : ∀ {l : List PieceD}, (∀ x, x ∈ l → x.f ∈ D ∧ x.t ∈ D) → TurnsAt D none (atM l)
 | [], _ => ⟨fun _ _ _ _ _ _ _ _ => rfl, fun t ht => absurd rfl ht⟩
 | x :: l, hl => by
  have ih := atM_turns h (l := l) fun y hy => hl y (List.mem_cons_of_mem _ hy)
  have hx := hl x (by simp)
  refine ⟨fun i a c ha hc t h1 h2 => ?_, fun t ht => ?_⟩
  ·have e1 := rises_gap h ha hc hx.1
   have e2 := rises_gap h ha hc hx.2
   by_cases k : x.f ≤ a ∧ a < x.t
   ·rw [at_hit k, at_hit (by omega)]
   ·rw [at_miss k, at_miss (by omega)]
    exact ih.const i a c ha hc t h1 h2
  ·by_cases k : x.f ≤ t ∧ t < x.t
   ·exact ⟨x.f, x.t, hx.1, hx.2, k.1, k.2⟩
   ·rw [at_miss k] at ht
    exact ih.inside t ht
theorem TurnsAt.map2 {α β γ : Type} {D : List Int} {na : α} {nb : β} {nc : γ} {f : Int → α} {e : Int → β} (op : α → β → γ) (h0 : op na nb = nc) (hf : TurnsAt D na f) (he : TurnsAt D nb e) : TurnsAt D nc fun t => op (f t) (e t) := by
 refine ⟨fun i a c ha hc t h1 h2 => ?_, fun t ht => ?_⟩
 ·simp only [hf.const i a c ha hc t h1 h2, he.const i a c ha hc t h1 h2]
 ·by_cases k : f t = na
  ·refine he.inside t fun k2 => ht ?_
   simp only [k, k2, h0]
  ·exact hf.inside t k
/-- All bounds have been looked at. -/
theorem Between.fin {is : Int → Bool} {b a : Int} {D : List Int} {out : List IvlD} {i : Nat} (h : Between is b a out) (hD : D.Pairwise (· < ·)) (hT : TurnsAt D false is) (hb : D[0]? = some b) (ha : D[i]? = some a) (hi : i + 1 = D.length) : NormL out ∧ ∀ t, hasB out t = is t := by
 refine ⟨h.norm, fun t => ?_⟩
 rw [Bool.eq_iff_iff, h.has t]
 refine ⟨fun k => k.2.2, fun k => ?_⟩
 obtain ⟨p, q, hp, hq, k1, k2⟩ := hT.inside t (by rw [k]; simp)
 have := rises_first hD hb hp
 have := rises_last hD ha hi hq
 exact ⟨by omega, by omega, k⟩
theorem Told.fin {fn : Int → Option Int} {b a : Int} {D : List Int} {out : List PieceD} {i : Nat} (h : Told fn b a out) (hD : D.Pairwise (· < ·)) (hT : TurnsAt D none fn) (hb : D[0]? = some b) (ha : D[i]? = some a) (hi : i + 1 = D.length) : MapL out ∧ ∀ t, atM out t = fn t := by
 refine ⟨h.map, fun t => ?_⟩
 rw [h.tells t]
 split
 ·rfl
 ·rename_i hn
  refine (Classical.byContradiction fun k => ?_ : none = fn t)
  obtain ⟨p, q, hp, hq, k1, k2⟩ := hT.inside t (fun e => k e.symm)
  have := rises_first hD hb hp
  have := rises_last hD ha hi hq
  exact hn ⟨by omega, by omega⟩
/-- With no bound nothing holds. -/
theorem TurnsAt.empty {α : Type} {no : α} {fn : Int → α} (h : TurnsAt [] no fn) (t : Int) : fn t = no := Classical.byContradiction fun k => by
 obtain ⟨a, _, ha, _⟩ := h.inside t k
 simp at ha
end Go.Proofs.YtjcimdpldlamfaaGreatDoor
/- What the program's functions compute, as plain Lean functions; no program in sight. -/
namespace Go.Proofs.YtjcimdpldlamfaaGreatDoor
open Go.RowKit

def inB (n lo hi : Int) : Bool := decide (lo ≤ n ∧ n ≤ hi)
def legOk (l : LegD) (h : Int) : Bool := decide (0 ≤ l.f ∧ l.f < l.t ∧ l.t ≤ h ∧ 1 ≤ l.time ∧ l.time ≤ 50 ∧ 0 ≤ l.cost ∧ l.cost ≤ 1000)
/-- The legs of an edge, behind one that ends at p (none: no bound). -/
def legsErr (h : Int) : Option Int → List LegD → Int
 | _, [] => 0
 | p, l :: r => if legOk l h = false then 1 else if (match p with | some q => decide (l.f < q) | none => false) = true then 5 else legsErr h (some l.t) r
theorem legsErr_bad {h : Int} {p : Option Int} {l : LegD} {r : List LegD} (hl : legOk l h = false) : legsErr h p (l :: r) = 1 := by simp [legsErr, hl]
theorem legsErr_form {h q : Int} {l : LegD} {r : List LegD} (hl : legOk l h = true) (hq : l.f < q) : legsErr h (some q) (l :: r) = 5 := by simp [legsErr, hl, hq]
theorem legsErr_next {h q : Int} {l : LegD} {r : List LegD} (hl : legOk l h = true) (hq : ¬ l.f < q) : legsErr h (some q) (l :: r) = legsErr h (some l.t) r := by simp [legsErr, hl, hq]
theorem legsErr_first {h : Int} {l : LegD} {r : List LegD} (hl : legOk l h = true) : legsErr h none (l :: r) = legsErr h (some l.t) r := by simp [legsErr, hl]
/-- The leg ahead of number k. -/
def legAhead (l : List LegD) : Nat → Option Int
 | 0 => none
 | k + 1 => (l[k]?).map LegD.t
theorem legAhead_of {l : List LegD} {k : Nat} {z : LegD} (h : l[k]? = some z) : legAhead l (k + 1) = some z.t := by simp [legAhead, h]
def edgeErr (h n : Int) (x : EdgeD) : Int :=
 if inB x.a 0 (n - 1) = false ∨ inB x.b 0 (n - 1) = false then 4 else if 6 < x.legs.length then 2 else legsErr h none x.legs
def edgesErr (h n : Int) : List EdgeD → Int
 | [] => 0
 | x :: r => if edgeErr h n x = 0 then edgesErr h n r else edgeErr h n x
def lifeOk (h : Int) (l : IvlD) : Bool := decide (0 ≤ l.f ∧ l.f < l.t ∧ l.t ≤ h)
/-- P7. -/
def graphErr (g : GraphD) : Int :=
 if inB g.h 1 100 = false then 1 else if 12 < g.lives.length ∨ 30 < g.edges.length then 2 else if g.lives.all (lifeOk g.h) = false then 1 else edgesErr g.h g.lives.length g.edges
theorem graphErr_h {g : GraphD} (h : inB g.h 1 100 = false) : graphErr g = 1 := by unfold graphErr; rw [if_pos h]
theorem graphErr_large {g : GraphD} (h : inB g.h 1 100 = true) (h2 : 12 < g.lives.length ∨ 30 < g.edges.length) : graphErr g = 2 := by unfold graphErr; rw [if_neg (by simp [h]), if_pos h2]
theorem graphErr_life {g : GraphD} (h : inB g.h 1 100 = true) (h2 : ¬ (12 < g.lives.length ∨ 30 < g.edges.length)) (h3 : g.lives.all (lifeOk g.h) = false) : graphErr g = 1 := by
 unfold graphErr; rw [if_neg (by simp [h]), if_neg h2, if_pos h3]
theorem graphErr_edges {g : GraphD} (h : inB g.h 1 100 = true) (h2 : ¬ (12 < g.lives.length ∨ 30 < g.edges.length)) (h3 : g.lives.all (lifeOk g.h) = true) : graphErr g = edgesErr g.h g.lives.length g.edges := by
 unfold graphErr; rw [if_neg (by simp [h]), if_neg h2, if_neg (by simp [h3])]
theorem edgesErr_next {h n : Int} {x : EdgeD} {r : List EdgeD} (he : edgeErr h n x = 0) : edgesErr h n (x :: r) = edgesErr h n r := by rw [edgesErr, if_pos he]
theorem edgesErr_bad {h n : Int} {x : EdgeD} {r : List EdgeD} (he : ¬ edgeErr h n x = 0) : edgesErr h n (x :: r) = edgeErr h n x := by rw [edgesErr, if_neg he]
theorem all_next {α : Type} {p : α → Bool} {x : α} {r : List α} (h : p x = true) : (x :: r).all p = r.all p := by simp [h]
theorem all_bad {α : Type} {p : α → Bool} {x : α} {r : List α} (h : p x = false) : (x :: r).all p = false := by simp [h]
theorem lifeOk_true {h : Int} {l : IvlD} (h1 : 0 ≤ l.f ∧ l.f < l.t ∧ l.t ≤ h) : lifeOk h l = true := by simp [lifeOk, h1]
theorem lifeOk_false {h : Int} {l : IvlD} (h1 : ¬ (0 ≤ l.f ∧ l.f < l.t ∧ l.t ≤ h)) : lifeOk h l = false := by simp only [lifeOk, decide_eq_false_iff_not]; exact h1

/-! ### right graphs -/
structure EdgeOk (g : GraphD) (x : EdgeD) : Prop where
 a0 : 0 ≤ x.a
 a1 : x.a < g.lives.length
 b0 : 0 ≤ x.b
 b1 : x.b < g.lives.length
 six : x.legs.length ≤ 6
 legs : ∀ l, l ∈ x.legs → 0 ≤ l.f ∧ l.f < l.t ∧ l.t ≤ g.h ∧ 1 ≤ l.time ∧ l.time ≤ 50 ∧ 0 ≤ l.cost ∧ l.cost ≤ 1000
 err : legsErr g.h none x.legs = 0
structure Valid (g : GraphD) : Prop where
 h0 : 1 ≤ g.h
 h1 : g.h ≤ 100
 nl : g.lives.length ≤ 12
 ne : g.edges.length ≤ 30
 lives : ∀ l, l ∈ g.lives → 0 ≤ l.f ∧ l.f < l.t ∧ l.t ≤ g.h
 edges : ∀ x, x ∈ g.edges → EdgeOk g x

theorem legs_of_err {h : Int} : ∀ (l : List LegD) (p : Option Int), legsErr h p l = 0 → ∀ x, x ∈ l → legOk x h = true
 | [], _, _, x, hx => by simp at hx
 | y :: r, p, he, x, hx => by
  have h1 : legOk y h = true := by
   cases h0 : legOk y h
   ·rw [legsErr_bad h0] at he; simp at he
   ·rfl
  have h2 : legsErr h (some y.t) r = 0 := by
   cases p with
   | none => rwa [legsErr_first h1] at he
   | some q =>
    by_cases hq : y.f < q
    ·rw [legsErr_form h1 hq] at he; simp at he
    ·rwa [legsErr_next h1 hq] at he
  rcases List.mem_cons.1 hx with rfl | hx
  ·exact h1
  ·exact legs_of_err r _ h2 x hx
theorem edges_of_err {h n : Int} : ∀ (l : List EdgeD), edgesErr h n l = 0 → ∀ x, x ∈ l → edgeErr h n x = 0
 | [], _, x, hx => by simp at hx
 | y :: r, he, x, hx => by
  unfold edgesErr at he
  split at he
  ·rename_i h1
   rcases List.mem_cons.1 hx with rfl | hx
   ·exact h1
   ·exact edges_of_err r he x hx
  ·contradiction
theorem edgesErr_ok {h n : Int} : ∀ (l : List EdgeD), (∀ x, x ∈ l → edgeErr h n x = 0) → edgesErr h n l = 0
 | [], _ => rfl
 | y :: r, hh => by rw [edgesErr, if_pos (hh y (by simp))]; exact edgesErr_ok r fun x hx => hh x (by simp [hx])
theorem valid_of {g : GraphD} (h : graphErr g = 0) : Valid g := by
 unfold graphErr at h
 split at h
 ·simp at h
 ·rename_i h1
  split at h
  ·simp at h
  ·rename_i h2
   split at h
   ·simp at h
   ·rename_i h3
    simp [inB] at h1
    simp [lifeOk] at h3
    refine ⟨h1.1, h1.2, by omega, by omega, h3, fun x hx => ?_⟩
    have he := edges_of_err _ h x hx
    unfold edgeErr at he
    split at he
    ·simp at he
    ·rename_i k1
     split at he
     ·simp at he
     ·rename_i k2
      simp [inB] at k1
      refine ⟨by omega, by omega, by omega, by omega, by omega, fun l hl => ?_, he⟩
      have := legs_of_err _ _ he l hl
      simpa [legOk] using this
theorem valid_ok {g : GraphD} (h : Valid g) : graphErr g = 0 := by
 have h1 := h.h0; have h2 := h.h1; have h3 := h.nl; have h4 := h.ne
 rw [graphErr_edges (by simp [inB]; omega) (by omega) (by simp [lifeOk]; exact h.lives)]
 refine edgesErr_ok _ fun x hx => ?_
 have e := h.edges x hx
 have e1 := e.a0; have e2 := e.a1; have e3 := e.b0; have e4 := e.b1; have e5 := e.six
 unfold edgeErr
 rw [if_neg (by simp [inB]; omega), if_neg (by omega)]
 exact e.err

/-! ### one step -/
def aliveB (g : GraphD) (v t : Int) : Bool := match g.lives[v.toNat]? with
 | some l => decide (l.f ≤ t ∧ t < l.t)
 | none => false
theorem aliveB_of {g : GraphD} {v t : Int} {l : IvlD} (h : g.lives[v.toNat]? = some l) : aliveB g v t = decide (l.f ≤ t ∧ t < l.t) := by simp [aliveB, h]
def leaves (t : Int) : List LegD → Option LegD
 | [] => none
 | x :: l => if x.f ≤ t ∧ t < x.t then some x else leaves t l
theorem leaves_hit {t : Int} {x : LegD} {l : List LegD} (h : x.f ≤ t ∧ t < x.t) : leaves t (x :: l) = some x := by simp [leaves, h]
theorem leaves_miss {t : Int} {x : LegD} {l : List LegD} (h : ¬ (x.f ≤ t ∧ t < x.t)) : leaves t (x :: l) = leaves t l := by rw [leaves, if_neg h]
theorem leaves_mem {t : Int} {x : LegD} : ∀ {l : List LegD}, leaves t l = some x → x ∈ l ∧ x.f ≤ t ∧ t < x.t
 | [], h => by simp [leaves] at h
 | y :: l, h => by
  unfold leaves at h
  split at h
  ·rename_i h1
   obtain rfl : y = x := by simpa using h
   exact ⟨by simp, h1⟩
  ·have := leaves_mem h
   exact ⟨by simp [this.1], this.2⟩
/-- Who leaves along an edge at a time: by which leg, and when one comes. -/
def arrive (g : GraphD) (x : EdgeD) (t : Int) : Option (LegD × Int) := match leaves t x.legs with
 | some l => if aliveB g x.a t = true ∧ t + l.time < g.h ∧ aliveB g x.b (t + l.time) = true then some (l, t + l.time) else none
 | none => none
theorem arrive_no {g : GraphD} {x : EdgeD} {t : Int} (h : leaves t x.legs = none) : arrive g x t = none := by simp [arrive, h]
theorem arrive_of {g : GraphD} {x : EdgeD} {t : Int} {l : LegD} (h : leaves t x.legs = some l) :
  arrive g x t = if aliveB g x.a t = true ∧ t + l.time < g.h ∧ aliveB g x.b (t + l.time) = true then some (l, t + l.time) else none := by simp [arrive, h]
/-- What is wrong with a graph, a vertex and a time. -/
def placeErr (g : GraphD) (v t : Int) : Int :=
 if graphErr g = 0 then (if inB v 0 (g.lives.length - 1) = true then (if inB t 0 (g.h - 1) = true then 0 else 1) else 4) else graphErr g
theorem placeErr_g {g : GraphD} {v t : Int} (h : ¬ graphErr g = 0) : placeErr g v t = graphErr g := by unfold placeErr; rw [if_neg h]
theorem placeErr_v {g : GraphD} {v t : Int} (h : graphErr g = 0) (h2 : inB v 0 (g.lives.length - 1) = false) : placeErr g v t = 4 := by unfold placeErr; rw [if_pos h, if_neg (by simp [h2])]
theorem placeErr_t {g : GraphD} {v t : Int} (h : graphErr g = 0) (h2 : inB v 0 (g.lives.length - 1) = true) (h3 : inB t 0 (g.h - 1) = false) : placeErr g v t = 1 := by
 unfold placeErr; rw [if_pos h, if_pos h2, if_neg (by simp [h3])]
theorem placeErr_0 {g : GraphD} {v t : Int} (h : graphErr g = 0) (h2 : inB v 0 (g.lives.length - 1) = true) (h3 : inB t 0 (g.h - 1) = true) : placeErr g v t = 0 := by
 unfold placeErr; rw [if_pos h, if_pos h2, if_pos h3]
theorem place_of {g : GraphD} {v t : Int} (h : placeErr g v t = 0) : Valid g ∧ (0 ≤ v ∧ v < g.lives.length) ∧ 0 ≤ t ∧ t < g.h := by
 unfold placeErr at h
 split at h
 ·rename_i h1
  split at h
  ·rename_i h2
   split at h
   ·rename_i h3
    simp [inB] at h2 h3
    exact ⟨valid_of h1, by omega, by omega⟩
   ·simp at h
  ·simp at h
 ·contradiction
end Go.Proofs.YtjcimdpldlamfaaGreatDoor
/- Small walks and lemmas that several texts use. -/
namespace Go.Proofs.YtjcimdpldlamfaaGreatDoor
open Go.RowKit

theorem inB_true' {n lo hi : Int} (h : lo ≤ n ∧ n ≤ hi) : inB n lo hi = true := by simp [inB, h]
theorem inB_false' {n lo hi : Int} (h : ¬ (lo ≤ n ∧ n ≤ hi)) : inB n lo hi = false := by simp only [inB, decide_eq_false_iff_not]; exact h
theorem inB_iff {n lo hi : Int} : inB n lo hi = true ↔ lo ≤ n ∧ n ≤ hi := by simp [inB]
end Go.Proofs.YtjcimdpldlamfaaGreatDoor
/- What is wrong with a set of times; what two sets have; no program in sight. -/
namespace Go.Proofs.YtjcimdpldlamfaaGreatDoor

def nearB (n : Int) : Bool := inB n (-1000000000) 1000000000
structure SetOk (l : List IvlD) : Prop where
 norm : NormL l
 near : ∀ x, x ∈ l → nearB x.f = true ∧ nearB x.t = true
open Classical in
/-- What is wrong with a set. -/
noncomputable def setErr (l : List IvlD) : Int := if 200 < l.length then 2 else if SetOk l then 0 else 5
section
variable {l : List IvlD} {x y : IvlD} {k : Nat}
theorem near_iff {n : Int} : nearB n = true ↔ -1000000000 ≤ n ∧ n ≤ 1000000000 := inB_iff
theorem setErr_large (h : 200 < l.length) : setErr l = 2 := if_pos h
theorem setErr_ok (h : ¬ 200 < l.length) (h2 : SetOk l) : setErr l = 0 := by unfold setErr; rw [if_neg h, if_pos h2]
theorem setErr_bad (h : ¬ 200 < l.length) (h2 : ¬ SetOk l) : setErr l = 5 := by unfold setErr; rw [if_neg h, if_neg h2]
theorem setErr_zero (h : setErr l = 0) : ¬ 200 < l.length ∧ SetOk l := by
 by_cases h1 : 200 < l.length
 ·rw [setErr_large h1] at h; simp at h
 ·by_cases h2 : SetOk l
  ·exact ⟨h1, h2⟩
  ·rw [setErr_bad h1 h2] at h; simp at h
theorem SetOk.nil : SetOk [] := ⟨.nil, fun x h => by simp at h⟩
theorem take_succ_ (hx : l[k]? = some x) : l.take (k + 1) = l.take k ++ [x] := by rw [List.take_add_one, hx]; rfl
/-- One more. -/
theorem SetOk.first (hx : l[0]? = some x) (h1 : nearB x.f = true) (h2 : nearB x.t = true) (h3 : x.f < x.t) : SetOk (l.take 1) := by
 rw [take_succ_ hx]
 have e : ∀ y, y ∈ l.take 0 ++ [x] → y = x := fun y hy => by simpa using hy
 exact ⟨⟨by simp, fun y hy => by rw [e y hy]; exact h3⟩, fun y hy => by rw [e y hy]; exact ⟨h1, h2⟩⟩
theorem SetOk.next (h : SetOk (l.take (k + 1))) (hy : l[k]? = some y) (hx : l[k + 1]? = some x) (h1 : nearB x.f = true) (h2 : nearB x.t = true) (h3 : x.f < x.t) (h4 : y.t < x.f) : SetOk (l.take (k + 2)) := by
 rw [take_succ_ hx]
 have hn := h.norm
 rw [take_succ_ hy] at hn
 refine ⟨h.norm.snoc h3 fun z hz => ?_, fun z hz => ?_⟩
 ·rw [take_succ_ hy] at hz
  have := hn.rise z hz
  omega
 ·rcases List.mem_append.1 hz with hz | hz
  ·exact h.near z hz
  ·obtain rfl : z = x := by simpa using hz
   exact ⟨h1, h2⟩
theorem SetOk.at_ (h : SetOk l) (hx : l[k]? = some x) : nearB x.f = true ∧ nearB x.t = true ∧ x.f < x.t := by
 have hm := List.mem_of_getElem? hx
 exact ⟨(h.near x hm).1, (h.near x hm).2, h.norm.2 x hm⟩
theorem SetOk.gap (h : SetOk l) (hy : l[k]? = some y) (hx : l[k + 1]? = some x) : y.t < x.f := by
 obtain ⟨h1, h2⟩ := List.getElem?_eq_some_iff.1 hy
 obtain ⟨h3, h4⟩ := List.getElem?_eq_some_iff.1 hx
 have := List.pairwise_iff_getElem.1 h.norm.1 k (k + 1) h1 h3 (by omega)
 rw [h2, h4] at this
 exact this
/-- What is read as a set. -/
def NormIs (l out : List IvlD) : Prop := NormL out ∧ ∀ t, hasB out t = hasB l t
/-- Empty intervals tell nothing. -/
theorem has_filter {t : Int} : hasB (l.filter fun x => decide (x.f < x.t)) t = hasB l t := by
 rw [Bool.eq_iff_iff, has_iff, has_iff]
 constructor
 ·rintro ⟨x, hx, h1, h2⟩
  exact ⟨x, (List.mem_filter.1 hx).1, h1, h2⟩
 ·rintro ⟨x, hx, h1, h2⟩
  exact ⟨x, List.mem_filter.2 ⟨hx, by simp; omega⟩, h1, h2⟩
theorem has_perm {l r : List IvlD} (h : ∀ x, x ∈ l ↔ x ∈ r) (t : Int) : hasB l t = hasB r t := by
 rw [Bool.eq_iff_iff, has_iff, has_iff]
 constructor
 ·rintro ⟨x, hx, h1⟩; exact ⟨x, (h x).1 hx, h1⟩
 ·rintro ⟨x, hx, h1⟩; exact ⟨x, (h x).2 hx, h1⟩
end
/-! ### what two sets have in common, as the program finds it -/
/-- Up to the intervals i and j all is told. -/
structure Common (a b : List IvlD) (i j : Nat) (out : List IvlD) : Prop where
 norm : NormL out
 has : ∀ t, hasB out t = true ↔ (hasB a t = true ∧ hasB b t = true) ∧ ¬ (hasB (a.drop i) t = true ∧ hasB (b.drop j) t = true)
 low : ∀ o, o ∈ out → ∀ x y, a[i]? = some x → b[j]? = some y → o.t < max x.f y.f
section
variable {a b out : List IvlD} {i j : Nat} {x y : IvlD}
theorem drop_cons' {l : List IvlD} {k : Nat} {x : IvlD} (h : l[k]? = some x) : l.drop k = x :: l.drop (k + 1) := by
 obtain ⟨h1, h2⟩ := List.getElem?_eq_some_iff.1 h
 rw [← h2]
 exact List.drop_eq_getElem_cons h1
theorem NormL.drop {l : List IvlD} (h : NormL l) (k : Nat) : NormL (l.drop k) := ⟨h.1.sublist (List.drop_sublist k l), fun x hx => h.2 x (List.mem_of_mem_drop hx)⟩
theorem Common.start : Common a b 0 0 [] := ⟨.nil, fun t => by simp [has_nil], fun o h => by simp at h⟩
theorem Common.flip (h : Common a b i j out) : Common b a j i out := ⟨h.norm, fun t => by rw [h.has t]; simp only [and_comm], fun o ho x y hx hy => by have := h.low o ho y x hy hx; omega⟩
/-- The interval of a ends first. -/
theorem Common.stepA (h : Common a b i j out) (ha : NormL a) (hb : NormL b) (hx : a[i]? = some x) (hy : b[j]? = some y) (hle : x.t ≤ y.t) {out' : List IvlD}
  (hout : out' = if max x.f y.f < min x.t y.t then out ++ [⟨max x.f y.f, min x.t y.t⟩] else out) : Common a b (i + 1) j out' := by
 have hxl := ha.2 x (List.mem_of_getElem? hx)
 have hyl := hb.2 y (List.mem_of_getElem? hy)
 have hda := drop_cons' hx
 have hdb := drop_cons' hy
 have hna := ha.drop i
 have hnb := hb.drop j
 rw [hda] at hna
 rw [hdb] at hnb
 have hin : ∀ t, hasB (b.drop j) t = true → t < x.t → y.f ≤ t := fun t h1 _ => by rw [hdb] at h1; exact hnb.low h1
 have key : ∀ t, (hasB (a.drop i) t = true ∧ hasB (b.drop j) t = true) ↔ (hasB (a.drop (i + 1)) t = true ∧ hasB (b.drop j) t = true) ∨ (max x.f y.f ≤ t ∧ t < min x.t y.t) := fun t => by
  rw [hda, has_cons]
  constructor
  ·rintro ⟨h1 | h1, h2⟩
   ·right
    have := hin t h2 h1.2
    omega
   ·exact .inl ⟨h1, h2⟩
  ·rintro (⟨h1, h2⟩ | h1)
   ·exact ⟨.inr h1, h2⟩
   ·exact ⟨.inl (by omega), by rw [hdb]; exact has_cons.2 (.inl (by omega))⟩
 have kin : ∀ t, (max x.f y.f ≤ t ∧ t < min x.t y.t) → hasB a t = true ∧ hasB b t = true := fun t ht =>
  ⟨has_iff.2 ⟨x, List.mem_of_getElem? hx, by omega, by omega⟩, has_iff.2 ⟨y, List.mem_of_getElem? hy, by omega, by omega⟩⟩
 have kout : ∀ t, (max x.f y.f ≤ t ∧ t < min x.t y.t) → ¬ (hasB (a.drop (i + 1)) t = true ∧ hasB (b.drop j) t = true) := fun t ht h1 => by
  have := hna.past h1.1
  omega
 have hnext : ∀ x', a[i + 1]? = some x' → x.t < x'.f := fun x' hx' => by
  have e := drop_cons' hx'
  exact (List.pairwise_cons.1 hna.1).1 x' (by rw [e]; simp)
 by_cases hz : max x.f y.f < min x.t y.t
 ·rw [if_pos hz] at hout
  subst hout
  refine ⟨h.norm.snoc hz fun o ho => h.low o ho x y hx hy, fun t => ?_, fun o ho x' y' hx' hy' => ?_⟩
  ·rw [has_snoc, h.has t, key t]
   simp only
   constructor
   ·rintro (⟨h1, h2⟩ | h1)
    ·exact ⟨h1, fun h3 => h2 (.inl h3)⟩
    ·exact ⟨kin t h1, kout t h1⟩
   ·rintro ⟨h1, h2⟩
    by_cases h3 : max x.f y.f ≤ t ∧ t < min x.t y.t
    ·exact .inr h3
    ·exact .inl ⟨h1, fun h4 => h4.elim h2 h3⟩
  ·have h1 := hnext x' hx'
   obtain rfl : y = y' := by rw [hy] at hy'; simpa using hy'
   rcases List.mem_append.1 ho with ho | ho
   ·have := h.low o ho x y hx hy
    omega
   ·obtain rfl : o = _ := by simpa using ho
    simp only
    omega
 ·rw [if_neg hz] at hout
  subst hout
  refine ⟨h.norm, fun t => ?_, fun o ho x' y' hx' hy' => ?_⟩
  ·rw [h.has t, key t]
   constructor
   ·rintro ⟨h1, h2⟩
    exact ⟨h1, fun h3 => h2 (.inl h3)⟩
   ·rintro ⟨h1, h2⟩
    refine ⟨h1, fun h4 => h4.elim h2 fun h3 => hz (by omega)⟩
  ·have h1 := hnext x' hx'
   obtain rfl : y = y' := by rw [hy] at hy'; simpa using hy'
   have := h.low o ho x y hx hy
   omega
theorem Common.stepB (h : Common a b i j out) (ha : NormL a) (hb : NormL b) (hx : a[i]? = some x) (hy : b[j]? = some y) (hle : y.t ≤ x.t) {out' : List IvlD}
  (hout : out' = if max x.f y.f < min x.t y.t then out ++ [⟨max x.f y.f, min x.t y.t⟩] else out) : Common a b i (j + 1) out' :=
 (h.flip.stepA hb ha hy hx hle (by rw [hout, show max y.f x.f = max x.f y.f by omega, show min y.t x.t = min x.t y.t by omega])).flip
theorem Common.fin (h : Common a b i j out) (hn : a.length ≤ i ∨ b.length ≤ j) : NormL out ∧ ∀ t, hasB out t = (hasB a t && hasB b t) := by
 refine ⟨h.norm, fun t => ?_⟩
 rw [Bool.eq_iff_iff, h.has t, Bool.and_eq_true]
 refine ⟨fun k => k.1, fun k => ⟨k, fun k2 => ?_⟩⟩
 rcases hn with hn | hn
 ·rw [List.drop_of_length_le hn] at k2; simp [has_nil] at k2
 ·rw [List.drop_of_length_le hn] at k2; simp [has_nil] at k2
end
/-! ### the times that a set hasn't -/
structure Gaps (b : List IvlD) (k : Nat) (m : Int) (out : List IvlD) : Prop where
 norm : NormL out
 has : ∀ t, hasB out t = true ↔ -1000000000 ≤ t ∧ t < m ∧ ¬ hasB (b.take k) t = true
 low : ∀ o, o ∈ out → o.t < m
 m0 : -1000000000 ≤ m
 m1 : m ≤ 1000000000
 next : ∀ x, b[k]? = some x → m ≤ x.f
 prev : ∀ t, hasB (b.take k) t = true → t < m
section
variable {b out : List IvlD} {k : Nat} {m : Int} {x : IvlD}
theorem Gaps.start (h : SetOk b) : Gaps b 0 (-1000000000) [] :=
 ⟨.nil, fun t => ⟨fun h => by simp [has_nil] at h, fun h => by omega⟩, fun o h => by simp at h, by omega, by omega, fun x hx => (near_iff.1 (h.at_ hx).1).1, fun t h => by simp [has_nil] at h⟩
theorem take_has {t : Int} (hx : b[k]? = some x) : hasB (b.take (k + 1)) t = true ↔ hasB (b.take k) t = true ∨ (x.f ≤ t ∧ t < x.t) := by rw [take_succ_ hx, has_snoc]
theorem Gaps.step (h : Gaps b k m out) (hb : SetOk b) (hx : b[k]? = some x) {out' : List IvlD} (hout : out' = if m < x.f then out ++ [⟨m, x.f⟩] else out) : Gaps b (k + 1) x.t out' := by
 obtain ⟨h1, h2, h3⟩ := hb.at_ hx
 have h1 := near_iff.1 h1
 have h2 := near_iff.1 h2
 have hm := h.next x hx
 have hnx : ∀ y, b[k + 1]? = some y → x.t ≤ y.f := fun y hy => by have := hb.gap hx hy; omega
 have hpv : ∀ t, hasB (b.take (k + 1)) t = true → t < x.t := fun t ht => by
  rcases (take_has hx).1 ht with k1 | k1
  ·have := h.prev t k1; omega
  ·exact k1.2
 by_cases hz : m < x.f
 ·rw [if_pos hz] at hout
  subst hout
  refine ⟨h.norm.snoc hz h.low, fun t => ?_, fun o ho => ?_, by omega, by omega, hnx, hpv⟩
  ·rw [has_snoc, h.has t, take_has hx]
   simp only
   have h0 := h.m0
   constructor
   ·rintro (⟨k1, k2, k3⟩ | k1)
    ·exact ⟨k1, by omega, fun k4 => k4.elim k3 fun k5 => by omega⟩
    ·refine ⟨by omega, by omega, fun k4 => k4.elim (fun k5 => ?_) fun k5 => by omega⟩
     have := h.prev t k5; omega
   ·rintro ⟨k1, k2, k3⟩
    by_cases k4 : t < m
    ·exact .inl ⟨k1, k4, fun k5 => k3 (.inl k5)⟩
    ·right
     refine ⟨by omega, Classical.byContradiction fun k5 => k3 (.inr ⟨by omega, k2⟩)⟩
  ·rcases List.mem_append.1 ho with ho | ho
   ·have := h.low o ho; omega
   ·obtain rfl : o = _ := by simpa using ho
    exact h3
 ·rw [if_neg hz] at hout
  subst hout
  refine ⟨h.norm, fun t => ?_, fun o ho => by have := h.low o ho; omega, by omega, by omega, hnx, hpv⟩
  rw [h.has t, take_has hx]
  constructor
  ·rintro ⟨k1, k2, k3⟩
   exact ⟨k1, by omega, fun k4 => k4.elim k3 fun k5 => by omega⟩
  ·rintro ⟨k1, k2, k3⟩
   refine ⟨k1, Classical.byContradiction fun k5 => k3 (.inr ⟨by omega, k2⟩), fun k4 => k3 (.inl k4)⟩
/-- All the times that a set hasn't. -/
theorem Gaps.fin (h : Gaps b k m out) (hk : b.length ≤ k) {out' : List IvlD} (hout : out' = if m < 1000000000 then out ++ [⟨m, 1000000000⟩] else out) : NormL out' ∧ ∀ t, hasB out' t = true ↔ -1000000000 ≤ t ∧ t < 1000000000 ∧ ¬ hasB b t = true := by
 have e : b.take k = b := List.take_of_length_le hk
 have hh := h.has
 have hp := h.prev
 rw [e] at hh hp
 have h0 := h.m0; have h1 := h.m1
 by_cases hz : m < 1000000000
 ·rw [if_pos hz] at hout
  subst hout
  refine ⟨h.norm.snoc hz h.low, fun t => ?_⟩
  rw [has_snoc, hh t]
  simp only
  constructor
  ·rintro (⟨k1, k2, k3⟩ | k1)
   ·exact ⟨k1, by omega, k3⟩
   ·exact ⟨by omega, by omega, fun k5 => by have := hp t k5; omega⟩
  ·rintro ⟨k1, k2, k3⟩
   by_cases k4 : t < m
   ·exact .inl ⟨k1, k4, k3⟩
   ·exact .inr ⟨by omega, k2⟩
 ·rw [if_neg hz] at hout
  subst hout
  refine ⟨h.norm, fun t => ?_⟩
  rw [hh t, show m = 1000000000 by omega]
/-- All times of a set lie in there. -/
theorem SetOk.inside (h : SetOk b) {t : Int} (ht : hasB b t = true) : -1000000000 ≤ t ∧ t < 1000000000 := by
 obtain ⟨x, hx, h1, h2⟩ := has_iff.1 ht
 have := near_iff.1 (h.near x hx).1
 have := near_iff.1 (h.near x hx).2
 omega
end
end Go.Proofs.YtjcimdpldlamfaaGreatDoor
/- What two sets' union, meet and difference are; laws of sets; no program in sight. -/
namespace Go.Proofs.YtjcimdpldlamfaaGreatDoor

theorem nodup_len {α : Type} [DecidableEq α] : ∀ {l r : List α}, l.Nodup → (∀ x, x ∈ l → x ∈ r) → l.length ≤ r.length
 | [], _, _, _ => Nat.zero_le _
 | x :: l, r, hn, h => by
  have hx := h x (by simp)
  have hn' := List.nodup_cons.1 hn
  have ih := nodup_len (l := l) (r := r.erase x) hn'.2 fun y hy => (List.mem_erase_of_ne (show y ≠ x from fun e => hn'.1 (e ▸ hy))).2 (h y (List.mem_cons_of_mem _ hy))
  rw [List.length_erase_of_mem hx] at ih
  have := List.length_pos_of_mem hx
  simp only [List.length_cons]
  omega
/-- All bounds of a set. -/
def endsL (l : List IvlD) : List Int := l.map IvlD.f ++ l.map IvlD.t
section
variable {l r u a b : List IvlD} {x y : IvlD} {t : Int}
theorem NormL.at_ (_ : NormL l) (hx : x ∈ l) (h1 : x.f ≤ t) (h2 : t < x.t) : hasB l t = true := has_iff.2 ⟨x, hx, h1, h2⟩
/-- Ahead of an interval there is a gap; behind it too. -/
theorem NormL.gapF (h : NormL l) (hx : x ∈ l) : hasB l (x.f - 1) = false := by
 rw [Bool.eq_false_iff]
 intro hc
 obtain ⟨y, hy, h1, h2⟩ := has_iff.1 hc
 have hxl := h.2 x hx
 obtain ⟨i, hi, rfl⟩ := List.mem_iff_getElem.1 hx
 obtain ⟨j, hj, rfl⟩ := List.mem_iff_getElem.1 hy
 rcases Nat.lt_trichotomy i j with hij | hij | hij
 ·have := List.pairwise_iff_getElem.1 h.1 i j hi hj hij; omega
 ·subst hij; omega
 ·have := List.pairwise_iff_getElem.1 h.1 j i hj hi hij; omega
theorem NormL.gapT (h : NormL l) (hx : x ∈ l) : hasB l x.t = false := by
 rw [Bool.eq_false_iff]
 intro hc
 obtain ⟨y, hy, h1, h2⟩ := has_iff.1 hc
 have hxl := h.2 x hx
 obtain ⟨i, hi, rfl⟩ := List.mem_iff_getElem.1 hx
 obtain ⟨j, hj, rfl⟩ := List.mem_iff_getElem.1 hy
 rcases Nat.lt_trichotomy i j with hij | hij | hij
 ·have := List.pairwise_iff_getElem.1 h.1 i j hi hj hij; omega
 ·subst hij; omega
 ·have := List.pairwise_iff_getElem.1 h.1 j i hj hi hij; omega
/-- Where a list of intervals turns, one begins or ends. -/
theorem turn_up (h1 : hasB l t = true) (h0 : hasB l (t - 1) = false) : t ∈ l.map IvlD.f := by
 obtain ⟨x, hx, k1, k2⟩ := has_iff.1 h1
 refine List.mem_map.2 ⟨x, hx, ?_⟩
 refine Classical.byContradiction fun hn => ?_
 rw [has_iff.2 ⟨x, hx, by omega, by omega⟩] at h0
 simp at h0
theorem turn_down (h1 : hasB l t = false) (h0 : hasB l (t - 1) = true) : t ∈ l.map IvlD.t := by
 obtain ⟨x, hx, k1, k2⟩ := has_iff.1 h0
 refine List.mem_map.2 ⟨x, hx, ?_⟩
 refine Classical.byContradiction fun hn => ?_
 rw [has_iff.2 ⟨x, hx, by omega, by omega⟩] at h1
 simp at h1
theorem NormL.nodup (h : NormL l) : (l.map IvlD.f).Nodup := by
 refine List.pairwise_map.2 (List.Pairwise.imp_of_mem (fun {x y} hx hy hxy => ?_) h.1)
 have := h.2 x hx
 intro e
 omega
theorem NormL.count (h : NormL u) {S : List Int} (hS : ∀ t, hasB u t = true → hasB u (t - 1) = false → t ∈ S) : u.length ≤ S.length := by
 have := nodup_len h.nodup (r := S) fun t ht => by
  obtain ⟨x, hx, rfl⟩ := List.mem_map.1 ht
  exact hS _ (h.at_ hx (Int.le_refl _) (h.2 x hx)) (h.gapF hx)
 simpa using this
end
/-- A set whose times are known, of n intervals at most. -/
structure Of (p : Int → Bool) (n : Nat) (l : List IvlD) : Prop where
 norm : NormL l
 has : ∀ t, hasB l t = p t
 near : ∀ x, x ∈ l → nearB x.f = true ∧ nearB x.t = true
 len : l.length ≤ n
section
variable {p q r : Int → Bool} {n m : Nat} {l a b u out : List IvlD} {op : Bool → Bool → Bool} {er : Int}
theorem Of.ok (h : Of p n l) (hn : n ≤ 200) : setErr l = 0 := setErr_ok (by have := h.len; omega) ⟨h.norm, h.near⟩
end
/-- What is told of two lists that should be sets. -/
def SetsSay (op : Bool → Bool → Bool) (a b : List IvlD) (er : Int) (out : List IvlD) : Prop :=
 if setErr a = 0 then if setErr b = 0 then ∃ U, NormL U ∧ (∀ t, hasB U t = op (hasB a t) (hasB b t)) ∧ er = (if 200 < U.length then 2 else 0) ∧ out = (if 200 < U.length then [] else U)
 else er = setErr b ∧ out = [] else er = setErr a ∧ out = []
def opNot (x y : Bool) : Bool := x && !y
section
variable {p q r : Int → Bool} {n m : Nat} {l a b u out out' : List IvlD} {op : Bool → Bool → Bool} {er er' : Int}
theorem SetsSay.badA (h : setErr a ≠ 0) : SetsSay op a b (setErr a) [] := by unfold SetsSay; rw [if_neg h]; exact ⟨rfl, rfl⟩
theorem SetsSay.badB (h : setErr a = 0) (hb : setErr b ≠ 0) : SetsSay op a b (setErr b) [] := by unfold SetsSay; rw [if_pos h, if_neg hb]; exact ⟨rfl, rfl⟩
theorem SetsSay.large (h : setErr a = 0) (hb : setErr b = 0) (hU : NormL u) (hs : ∀ t, hasB u t = op (hasB a t) (hasB b t)) (hl : 200 < u.length) : SetsSay op a b 2 [] := by
 unfold SetsSay; rw [if_pos h, if_pos hb]; exact ⟨u, hU, hs, by rw [if_pos hl], by rw [if_pos hl]⟩
theorem SetsSay.good (h : setErr a = 0) (hb : setErr b = 0) (hU : NormL u) (hs : ∀ t, hasB u t = op (hasB a t) (hasB b t)) (hl : ¬ 200 < u.length) : SetsSay op a b 0 u := by
 unfold SetsSay; rw [if_pos h, if_pos hb]; exact ⟨u, hU, hs, by rw [if_neg hl], by rw [if_neg hl]⟩
end
/-! ### the size of a set -/
def cnt (p : Int → Bool) (lo : Int) : Nat → Int
 | 0 => 0
 | n + 1 => cnt p lo n + if p (lo + n) then 1 else 0
section
variable {p q r s : Int → Bool} {l : List IvlD} {x : IvlD} {lo : Int} {n : Nat}
end
end Go.Proofs.YtjcimdpldlamfaaGreatDoor
