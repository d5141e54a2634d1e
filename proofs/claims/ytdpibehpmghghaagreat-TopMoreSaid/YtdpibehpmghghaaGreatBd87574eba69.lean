/- Several texts in one: MapSpec, BoundsSpec, Small, SetSpec. -/
import Derived.Test.YtdpibehpmghghaaGreatProg
import Derived.Test.YtdpibehpmghghaaGreatBd615d7ca311
import Derived.Test.YtdpibehpmghghaaGreatBd3095caa12a
import Derived.Test.YtdpibehpmghghaaGreatBd3944ca27eb
/- Values over times, as lists of pieces; no program in sight. -/
namespace Go.Proofs.YtdpibehpmghghaaGreat

structure PieceD where
  f : Int
  t : Int
  v : Int
deriving DecidableEq
/-- What is told at a time. -/
def atM : List PieceD → Int → Option Int
  | [], _ => none
  | x :: l, t => if x.f ≤ t ∧ t < x.t then some x.v else atM l t
def MapL (l : List PieceD) : Prop := l.Pairwise (fun x y => x.t ≤ y.f ∧ (x.t = y.f → x.v ≠ y.v)) ∧ ∀ x, x ∈ l → x.f < x.t
section
variable {l r out : List PieceD} {x y z : PieceD} {t : Int} {v : Int}
theorem at_nil : atM [] t = none := rfl
theorem at_hit (h : x.f ≤ t ∧ t < x.t) : atM (x :: l) t = some x.v := by rw [atM, if_pos h]
theorem at_miss (h : ¬ (x.f ≤ t ∧ t < x.t)) : atM (x :: l) t = atM l t := by rw [atM, if_neg h]
theorem at_some : ∀ {l : List PieceD}, atM l t = some v → ∃ x, x ∈ l ∧ x.f ≤ t ∧ t < x.t ∧ x.v = v
  | [], h => by simp [atM] at h
  | x :: l, h => by
    by_cases hx : x.f ≤ t ∧ t < x.t
    · rw [at_hit hx] at h
      exact ⟨x, by simp, hx.1, hx.2, by simpa using h⟩
    · rw [at_miss hx] at h
      obtain ⟨y, hy, h1⟩ := at_some h
      exact ⟨y, List.mem_cons_of_mem _ hy, h1⟩
theorem at_none : ∀ {l : List PieceD}, (∀ x, x ∈ l → ¬ (x.f ≤ t ∧ t < x.t)) → atM l t = none
  | [], _ => rfl
  | x :: l, h => by rw [at_miss (h x (by simp)), at_none fun y hy => h y (List.mem_cons_of_mem _ hy)]
theorem at_append : ∀ {l r : List PieceD}, atM (l ++ r) t = (atM l t).or (atM r t)
  | [], r => by simp [atM]
  | x :: l, r => by
    rw [List.cons_append]
    by_cases hx : x.f ≤ t ∧ t < x.t
    · rw [at_hit hx, at_hit hx]; rfl
    · rw [at_miss hx, at_miss hx, at_append]
theorem MapL.nil : MapL [] := ⟨.nil, fun x h => by simp at h⟩
theorem MapL.tail (h : MapL (x :: l)) : MapL l := ⟨(List.pairwise_cons.1 h.1).2, fun y hy => h.2 y (List.mem_cons_of_mem _ hy)⟩
theorem MapL.past (h : MapL (x :: l)) (ht : atM l t = some v) : x.t ≤ t ∧ (t = x.t → v ≠ x.v) := by
  obtain ⟨y, hy, h1, _, h2⟩ := at_some ht
  have h3 := (List.pairwise_cons.1 h.1).1 y hy
  refine ⟨by omega, fun e => ?_⟩
  rw [← h2]
  exact (h3.2 (by omega)).symm
theorem MapL.low (h : MapL (x :: l)) (ht : atM (x :: l) t = some v) : x.f ≤ t := by
  by_cases hx : x.f ≤ t ∧ t < x.t
  · exact hx.1
  · rw [at_miss hx] at ht
    have := (h.past ht).1
    have := h.2 x (by simp)
    omega
theorem MapL.head (h : MapL (x :: l)) : atM (x :: l) x.f = some x.v := at_hit ⟨Int.le_refl _, h.2 x (by simp)⟩
/-- What a map is written as, is told by what it tells. -/
theorem map_unique : ∀ {l r : List PieceD}, MapL l → MapL r → (∀ t, atM l t = atM r t) → l = r
  | [], [], _, _, _ => rfl
  | [], y :: r, _, hr, h => by
    have h1 := h y.f
    rw [hr.head, at_nil] at h1
    simp at h1
  | x :: l, [], hl, _, h => by
    have h1 := h x.f
    rw [hl.head, at_nil] at h1
    simp at h1
  | x :: l, y :: r, hl, hr, h => by
    have hx := hl.2 x (by simp)
    have hy := hr.2 y (by simp)
    have e1 : x.f = y.f := by
      have h1 := hr.low (t := x.f) (by rw [← h]; exact hl.head)
      have h2 := hl.low (t := y.f) (by rw [h]; exact hr.head)
      omega
    have ev : x.v = y.v := by
      have h1 := h x.f
      rw [hl.head, e1, hr.head] at h1
      simpa using h1
    have e2 : x.t = y.t := by
      rcases Int.lt_trichotomy x.t y.t with h1 | h1 | h1
      · exfalso
        have h2 := h x.t
        rw [at_hit (x := y) ⟨by omega, h1⟩, at_miss (by omega)] at h2
        exact (hl.past h2).2 rfl ev.symm
      · exact h1
      · exfalso
        have h2 := (h y.t).symm
        rw [at_hit (x := x) ⟨by omega, h1⟩, at_miss (by omega)] at h2
        exact (hr.past h2).2 rfl ev
    have e : x = y := by
      cases x; cases y
      simp only at e1 e2 ev
      subst e1 e2 ev
      rfl
    subst e
    congr 1
    refine map_unique hl.tail hr.tail fun t => ?_
    have h1 := h t
    by_cases ht : x.f ≤ t ∧ t < x.t
    · have k1 : atM l t = none := by
        cases hc : atM l t with
        | none => rfl
        | some v => have := (hl.past hc).1; omega
      have k2 : atM r t = none := by
        cases hc : atM r t with
        | none => rfl
        | some v => have := (hr.past hc).1; omega
      rw [k1, k2]
    · rwa [at_miss ht, at_miss ht] at h1
theorem MapL.init (h : MapL (out ++ [z])) : MapL out := ⟨(List.pairwise_append.1 h.1).1, fun y hy => h.2 y (List.mem_append_left _ hy)⟩
theorem MapL.snoc_lt (h : MapL (out ++ [z])) {y : PieceD} (hy : y ∈ out) : y.t ≤ z.f ∧ (y.t = z.f → y.v ≠ z.v) := (List.pairwise_append.1 h.1).2.2 y hy z (by simp)
theorem MapL.snoc (h : MapL out) (hx : x.f < x.t) (hl : ∀ y, y ∈ out → y.t ≤ x.f ∧ (y.t = x.f → y.v ≠ x.v)) : MapL (out ++ [x]) := by
  refine ⟨List.pairwise_append.2 ⟨h.1, by simp, fun y hy u hu => ?_⟩, fun y hy => ?_⟩
  · obtain rfl : u = x := by simpa using hu
    exact hl y hy
  · rcases List.mem_append.1 hy with hy | hy
    · exact h.2 y hy
    · obtain rfl : y = x := by simpa using hy
      exact hx
theorem MapL.grow (h : MapL (out ++ [z])) {n : Int} (hn : z.t ≤ n) : MapL (out ++ [⟨z.f, n, z.v⟩]) :=
  h.init.snoc (by have := h.2 z (by simp); simp only; omega) fun _ hy => h.snoc_lt hy
theorem MapL.rise (h : MapL (out ++ [z])) : ∀ y, y ∈ out ++ [z] → y.t ≤ z.t := fun y hy => by
  rcases List.mem_append.1 hy with hy | hy
  · have := h.snoc_lt hy; have := h.2 z (by simp); omega
  · obtain rfl : y = z := by simpa using hy
    exact Int.le_refl _
/-- Who is told ahead of the last one ends ahead of it. -/
theorem MapL.ahead (h : MapL (out ++ [z])) {y : PieceD} (hy : y ∈ out) : y.t < z.t := by
  have := h.snoc_lt hy; have := h.2 z (by simp); omega
end
/-! ### a map, written between one bound and the next -/
structure Told (fn : Int → Option Int) (b a : Int) (out : List PieceD) : Prop where
  map : MapL out
  tells : ∀ t, atM out t = if b ≤ t ∧ t < a then fn t else none
  low : ∀ y, y ∈ out → y.t ≤ a
section
variable {fn : Int → Option Int} {b a c v : Int} {out o : List PieceD} {z : PieceD}
theorem Told.start : Told fn a a [] := ⟨.nil, fun t => by rw [at_nil, if_neg (by omega)], fun y h => by simp at h⟩
theorem Told.skip (h : Told fn b a out) (hac : a < c) (hfn : ∀ t, a ≤ t → t < c → fn t = fn a) (hn : fn a = none) : Told fn b c out := by
  refine ⟨h.map, fun t => ?_, fun y hy => by have := h.low y hy; omega⟩
  rw [h.tells t]
  by_cases h1 : b ≤ t ∧ t < a
  · rw [if_pos h1, if_pos (by omega)]
  · rw [if_neg h1]
    split
    · rw [hfn t (by omega) (by omega), hn]
    · rfl
theorem Told.grow (h : Told fn b a (o ++ [z])) (_ : b ≤ a) (hac : a < c) (hfn : ∀ t, a ≤ t → t < c → fn t = fn a) (hv : fn a = some z.v) (hz : z.t = a) : Told fn b c (o ++ [⟨z.f, c, z.v⟩]) := by
  have hzl := h.map.2 z (by simp)
  have hzf : b ≤ z.f := by
    have h1 := h.tells z.f
    have h2 : atM (o ++ [z]) z.f = some z.v := by
      rw [at_append, at_none fun y hy => by have := h.map.snoc_lt hy; omega]
      exact at_hit ⟨Int.le_refl _, hzl⟩
    rw [h2] at h1
    refine Classical.byContradiction fun hn => ?_
    rw [if_neg (by omega)] at h1
    simp at h1
  refine ⟨h.map.grow (by omega), fun t => ?_, fun y hy => ?_⟩
  · have h1 := h.tells t
    rw [at_append] at h1 ⊢
    cases hc : atM o t with
    | some u =>
      rw [hc] at h1
      obtain ⟨q, hq, k1, k2, _⟩ := at_some hc
      have := h.low q (List.mem_append_left _ hq)
      simp only [Option.or] at h1 ⊢
      rw [h1]
      by_cases hb : b ≤ t ∧ t < a
      · rw [if_pos hb, if_pos (by omega)]
      · rw [if_neg hb] at h1; simp at h1
    | none =>
      rw [hc] at h1
      simp only [Option.none_or] at h1 ⊢
      by_cases ht : z.f ≤ t ∧ t < c
      · rw [at_hit (by simpa using ht), if_pos (by omega)]
        by_cases hta : t < a
        · rw [at_hit ⟨ht.1, by omega⟩, if_pos (by omega)] at h1
          simp only
          exact h1
        · rw [hfn t (by omega) ht.2, hv]
      · rw [at_miss (by simpa using ht), at_nil]
        rw [at_miss (by omega), at_nil] at h1
        by_cases hb : b ≤ t ∧ t < c
        · rw [if_pos hb]
          rw [if_pos (by omega)] at h1
          exact h1
        · rw [if_neg hb]
  · rcases List.mem_append.1 hy with hy | hy
    · have := h.low y (List.mem_append_left _ hy); omega
    · obtain rfl : y = _ := by simpa using hy
      exact Int.le_refl _
theorem Told.next (h : Told fn b a out) (hba : b ≤ a) (hac : a < c) (hfn : ∀ t, a ≤ t → t < c → fn t = fn a) (hv : fn a = some v) (hz : ∀ y, y ∈ out → y.t = a → y.v ≠ v) : Told fn b c (out ++ [⟨a, c, v⟩]) := by
  refine ⟨h.map.snoc hac fun y hy => ⟨h.low y hy, fun e => hz y hy e⟩, fun t => ?_, fun y hy => ?_⟩
  · have h1 := h.tells t
    rw [at_append, h1]
    by_cases hb : b ≤ t ∧ t < a
    · rw [if_pos hb, if_pos (by omega), at_miss (by simp only; omega), at_nil]
      simp
    · rw [if_neg hb]
      simp only [Option.none_or]
      by_cases hc : b ≤ t ∧ t < c
      · rw [if_pos hc, at_hit (by simp only; omega), hfn t (by omega) (by omega), hv]
      · rw [if_neg hc, at_miss (by simp only; omega), at_nil]
  · rcases List.mem_append.1 hy with hy | hy
    · have := h.low y hy; omega
    · obtain rfl : y = _ := by simpa using hy
      exact Int.le_refl _
end
end Go.Proofs.YtdpibehpmghghaaGreat
/- Bounds: numbers that rise, each once; what turns at them alone; no program in sight. -/
namespace Go.Proofs.YtdpibehpmghghaaGreat

/-- Of the first i of S, each once. -/
structure Uniq (S : List Int) (i : Nat) (D : List Int) : Prop where
  up : D.Pairwise (· < ·)
  mem : ∀ x, x ∈ D ↔ x ∈ S.take i
  short : D.length ≤ i
  pos : 0 < i → 0 < S.length → 0 < D.length
section
variable {S D o l : List Int} {i j : Nat} {x z a b c t : Int}
theorem Uniq.start : Uniq S 0 [] := ⟨.nil, fun x => by simp, Nat.le_refl _, fun h => by omega⟩
theorem take_mem (hi : S[i]? = some x) : ∀ y, y ∈ S.take (i + 1) ↔ y ∈ S.take i ∨ y = x := fun y => by
  rw [List.take_add_one, hi]
  simp
theorem Uniq.same (h : Uniq S i (o ++ [x])) (hi : S[i]? = some x) : Uniq S (i + 1) (o ++ [x]) := by
  refine ⟨h.up, fun y => ?_, by have := h.short; omega, fun _ _ => by simp⟩
  rw [take_mem hi, ← h.mem]
  simp
theorem Uniq.first (hi : S[0]? = some x) : Uniq S 1 [x] := ⟨by simp, fun y => by rw [take_mem hi]; simp, by simp, fun _ _ => by simp⟩
theorem Uniq.new (h : Uniq S i (o ++ [z])) (hs : S.Pairwise (· ≤ ·)) (hi : S[i]? = some x) (hz : z ≠ x) : Uniq S (i + 1) (o ++ [z] ++ [x]) := by
  have hle : ∀ y, y ∈ o ++ [z] → y ≤ x := fun y hy => by
    have h1 := (h.mem y).1 hy
    obtain ⟨j, hj⟩ := List.getElem?_of_mem h1
    have hj2 : j < i := by have := (List.getElem?_eq_some_iff.1 hj).1; rw [List.length_take] at this; omega
    rw [List.getElem?_take_of_lt hj2] at hj
    obtain ⟨hi1, hi2⟩ := List.getElem?_eq_some_iff.1 hi
    obtain ⟨hj1, hj3⟩ := List.getElem?_eq_some_iff.1 hj
    have := List.pairwise_iff_getElem.1 hs j i hj1 hi1 hj2
    omega
  have hzx : z < x := by have := hle z (by simp); omega
  refine ⟨?_, fun y => ?_, by have := h.short; simp only [List.length_append, List.length_cons, List.length_nil] at *; omega, fun _ _ => by simp⟩
  · rw [List.pairwise_append]
    refine ⟨h.up, by simp, fun y hy u hu => ?_⟩
    obtain rfl : u = x := by simpa using hu
    rcases List.mem_append.1 hy with h1 | h1
    · have := (List.pairwise_append.1 h.up).2.2 y h1 z (by simp)
      omega
    · obtain rfl : y = z := by simpa using h1
      exact hzx
  · rw [take_mem hi, ← h.mem]
    simp only [List.mem_append, List.mem_singleton]
/-- Between two bounds that follow each other there is none. -/
theorem rises_gap (h : D.Pairwise (· < ·)) (ha : D[i]? = some a) (hc : D[i + 1]? = some c) (hb : b ∈ D) : b ≤ a ∨ c ≤ b := by
  obtain ⟨j, hj⟩ := List.getElem?_of_mem hb
  obtain ⟨h1, h2⟩ := List.getElem?_eq_some_iff.1 ha
  obtain ⟨h3, h4⟩ := List.getElem?_eq_some_iff.1 hc
  obtain ⟨h5, h6⟩ := List.getElem?_eq_some_iff.1 hj
  rcases Nat.lt_trichotomy j i with k | k | k
  · have := List.pairwise_iff_getElem.1 h j i h5 h1 k; omega
  · subst k; omega
  · by_cases e : j = i + 1
    · subst e; omega
    · have := List.pairwise_iff_getElem.1 h (i + 1) j h3 h5 (by omega); omega
theorem rises_lt (h : D.Pairwise (· < ·)) (ha : D[i]? = some a) (hc : D[i + 1]? = some c) : a < c := by
  obtain ⟨h1, h2⟩ := List.getElem?_eq_some_iff.1 ha
  obtain ⟨h3, h4⟩ := List.getElem?_eq_some_iff.1 hc
  have := List.pairwise_iff_getElem.1 h i (i + 1) h1 h3 (by omega)
  omega
theorem rises_first (h : D.Pairwise (· < ·)) (ha : D[0]? = some a) (hb : b ∈ D) : a ≤ b := by
  obtain ⟨j, hj⟩ := List.getElem?_of_mem hb
  obtain ⟨h1, h2⟩ := List.getElem?_eq_some_iff.1 ha
  obtain ⟨h5, h6⟩ := List.getElem?_eq_some_iff.1 hj
  by_cases e : j = 0
  · subst e; omega
  · have := List.pairwise_iff_getElem.1 h 0 j h1 h5 (by omega); omega
theorem rises_last (h : D.Pairwise (· < ·)) (ha : D[i]? = some a) (hi : i + 1 = D.length) (hb : b ∈ D) : b ≤ a := by
  obtain ⟨j, hj⟩ := List.getElem?_of_mem hb
  obtain ⟨h1, h2⟩ := List.getElem?_eq_some_iff.1 ha
  obtain ⟨h5, h6⟩ := List.getElem?_eq_some_iff.1 hj
  by_cases e : j = i
  · subst e; omega
  · have := List.pairwise_iff_getElem.1 h j i h5 h1 (by omega); omega
end
/-- What turns at the bounds alone, and holds of nothing outside of them. -/
structure TurnsAt {α : Type} (D : List Int) (no : α) (fn : Int → α) : Prop where
  const : ∀ (i : Nat) a c, D[i]? = some a → D[i + 1]? = some c → ∀ t, a ≤ t → t < c → fn t = fn a
  inside : ∀ t, fn t ≠ no → ∃ a c, a ∈ D ∧ c ∈ D ∧ a ≤ t ∧ t < c
theorem hasB_turns {D : List Int} {l : List IvlD} (h : D.Pairwise (· < ·)) (hl : ∀ x, x ∈ l → x.f ∈ D ∧ x.t ∈ D) : TurnsAt D false (hasB l) := by
  refine ⟨fun i a c ha hc t h1 h2 => ?_, fun t ht => ?_⟩
  · rw [Bool.eq_iff_iff, has_iff, has_iff]
    constructor
    · rintro ⟨x, hx, k1, k2⟩
      have e1 := rises_gap h ha hc (hl x hx).1
      have e2 := rises_gap h ha hc (hl x hx).2
      exact ⟨x, hx, by omega, by omega⟩
    · rintro ⟨x, hx, k1, k2⟩
      have e1 := rises_gap h ha hc (hl x hx).1
      have e2 := rises_gap h ha hc (hl x hx).2
      exact ⟨x, hx, by omega, by omega⟩
  · obtain ⟨x, hx, k1, k2⟩ := has_iff.1 (by simpa using ht : hasB l t = true)
    exact ⟨x.f, x.t, (hl x hx).1, (hl x hx).2, k1, k2⟩
theorem atM_turns {D : List Int} (h : D.Pairwise (· < ·)) : ∀ {l : List PieceD}, (∀ x, x ∈ l → x.f ∈ D ∧ x.t ∈ D) → TurnsAt D none (atM l)
  | [], _ => ⟨fun _ _ _ _ _ _ _ _ => rfl, fun t ht => absurd rfl ht⟩
  | x :: l, hl => by
    have ih := atM_turns h (l := l) fun y hy => hl y (List.mem_cons_of_mem _ hy)
    have hx := hl x (by simp)
    refine ⟨fun i a c ha hc t h1 h2 => ?_, fun t ht => ?_⟩
    · have e1 := rises_gap h ha hc hx.1
      have e2 := rises_gap h ha hc hx.2
      by_cases k : x.f ≤ a ∧ a < x.t
      · rw [at_hit k, at_hit (by omega)]
      · rw [at_miss k, at_miss (by omega)]
        exact ih.const i a c ha hc t h1 h2
    · by_cases k : x.f ≤ t ∧ t < x.t
      · exact ⟨x.f, x.t, hx.1, hx.2, k.1, k.2⟩
      · rw [at_miss k] at ht
        exact ih.inside t ht
theorem TurnsAt.map2 {α β γ : Type} {D : List Int} {na : α} {nb : β} {nc : γ} {f : Int → α} {e : Int → β} (op : α → β → γ) (h0 : op na nb = nc) (hf : TurnsAt D na f) (he : TurnsAt D nb e) : TurnsAt D nc fun t => op (f t) (e t) := by
  refine ⟨fun i a c ha hc t h1 h2 => ?_, fun t ht => ?_⟩
  · simp only [hf.const i a c ha hc t h1 h2, he.const i a c ha hc t h1 h2]
  · by_cases k : f t = na
    · refine he.inside t fun k2 => ht ?_
      simp only [k, k2, h0]
    · exact hf.inside t k
/-- All bounds have been looked at. -/
theorem Between.fin {is : Int → Bool} {b a : Int} {D : List Int} {out : List IvlD} {i : Nat} (h : Between is b a out) (hD : D.Pairwise (· < ·)) (hT : TurnsAt D false is) (hb : D[0]? = some b) (ha : D[i]? = some a) (hi : i + 1 = D.length) : NormL out ∧ ∀ t, hasB out t = is t := by
  refine ⟨h.norm, fun t => ?_⟩
  rw [Bool.eq_iff_iff, h.has t]
  refine ⟨fun k => k.2.2, fun k => ?_⟩
  obtain ⟨p, q, hp, hq, k1, k2⟩ := hT.inside t (by rw [k]; simp)
  have := rises_first hD hb hp
  have := rises_last hD ha hi hq
  exact ⟨by omega, by omega, k⟩
theorem Told.fin {fn : Int → Option Int} {b a : Int} {D : List Int} {out : List PieceD} {i : Nat} (h : Told fn b a out) (hD : D.Pairwise (· < ·)) (hT : TurnsAt D none fn) (hb : D[0]? = some b) (ha : D[i]? = some a) (hi : i + 1 = D.length) : MapL out ∧ ∀ t, atM out t = fn t := by
  refine ⟨h.map, fun t => ?_⟩
  rw [h.tells t]
  split
  · rfl
  · rename_i hn
    refine (Classical.byContradiction fun k => ?_ : none = fn t)
    obtain ⟨p, q, hp, hq, k1, k2⟩ := hT.inside t (fun e => k e.symm)
    have := rises_first hD hb hp
    have := rises_last hD ha hi hq
    exact hn ⟨by omega, by omega⟩
/-- With no bound nothing holds. -/
theorem TurnsAt.empty {α : Type} {no : α} {fn : Int → α} (h : TurnsAt [] no fn) (t : Int) : fn t = no := Classical.byContradiction fun k => by
  obtain ⟨a, _, ha, _⟩ := h.inside t k
  simp at ha
end Go.Proofs.YtdpibehpmghghaaGreat
/- Small walks and lemmas that several texts use. -/
namespace Go.Proofs.YtdpibehpmghghaaGreat
open Go.RowKit

theorem in_any (n lo hi : Int) (w : World) : Calls Tryz.prog 24 #[.int .i64 n, .int .i64 lo, .int .i64 hi] w fun e w' => e = .returned (.bool (inB n lo hi)) ∧ w = w' := by
  go_enter Tryz.func24, Tryz.ntmps24
  go_wp2
  all_goals go_ret
  all_goals exact ⟨ret_bool (by rw [Bool.eq_iff_iff]; simp [inB]; try omega), rfl⟩

theorem inB_true' {n lo hi : Int} (h : lo ≤ n ∧ n ≤ hi) : inB n lo hi = true := by simp [inB, h]
theorem inB_false' {n lo hi : Int} (h : ¬ (lo ≤ n ∧ n ≤ hi)) : inB n lo hi = false := by simp only [inB, decide_eq_false_iff_not]; exact h
theorem inB_iff {n lo hi : Int} : inB n lo hi = true ↔ lo ≤ n ∧ n ≤ hi := by simp [inB]
theorem inB_iff' {n lo hi : Int} : inB n lo hi = false ↔ ¬ (lo ≤ n ∧ n ≤ hi) := by simp only [inB, decide_eq_false_iff_not]
theorem legOk_true {l : LegD} {h : Int} (h1 : 0 ≤ l.f ∧ l.f < l.t ∧ l.t ≤ h ∧ 1 ≤ l.time ∧ l.time ≤ 50 ∧ 0 ≤ l.cost ∧ l.cost ≤ 1000) : legOk l h = true := by simp [legOk, h1]
theorem legOk_false {l : LegD} {h : Int} (h1 : ¬ (0 ≤ l.f ∧ l.f < l.t ∧ l.t ≤ h ∧ 1 ≤ l.time ∧ l.time ≤ 50 ∧ 0 ≤ l.cost ∧ l.cost ≤ 1000)) : legOk l h = false := by
  simp only [legOk, decide_eq_false_iff_not]; exact h1
theorem edgeErr_a {h n : Int} {x : EdgeD} (hh : inB x.a 0 (n - 1) = false) : edgeErr h n x = 4 := by unfold edgeErr; rw [if_pos (.inl hh)]
theorem edgeErr_b {h n : Int} {x : EdgeD} (hh : inB x.b 0 (n - 1) = false) : edgeErr h n x = 4 := by unfold edgeErr; rw [if_pos (.inr hh)]
theorem edgeErr_6 {h n : Int} {x : EdgeD} (h1 : inB x.a 0 (n - 1) = true) (h2 : inB x.b 0 (n - 1) = true) (h3 : 6 < x.legs.length) : edgeErr h n x = 2 := by
  unfold edgeErr; rw [if_neg (by simp [h1, h2]), if_pos h3]
theorem edgeErr_l {h n : Int} {x : EdgeD} (h1 : inB x.a 0 (n - 1) = true) (h2 : inB x.b 0 (n - 1) = true) (h3 : ¬ 6 < x.legs.length) : edgeErr h n x = legsErr h none x.legs := by
  unfold edgeErr; rw [if_neg (by simp [h1, h2]), if_neg h3]


end Go.Proofs.YtdpibehpmghghaaGreat
/- What is wrong with a set of times; what two sets have; no program in sight. -/
namespace Go.Proofs.YtdpibehpmghghaaGreat

def nearB (n : Int) : Bool := inB n (-1000000000) 1000000000
structure SetOk (l : List IvlD) : Prop where
  norm : NormL l
  near : ∀ x, x ∈ l → nearB x.f = true ∧ nearB x.t = true
open Classical in
/-- What is wrong with a set. -/
noncomputable def setErr (l : List IvlD) : Int := if 200 < l.length then 2 else if SetOk l then 0 else 5
section
variable {l : List IvlD} {x y : IvlD} {k : Nat}
theorem near_iff {n : Int} : nearB n = true ↔ -1000000000 ≤ n ∧ n ≤ 1000000000 := inB_iff
theorem setErr_large (h : 200 < l.length) : setErr l = 2 := if_pos h
theorem setErr_ok (h : ¬ 200 < l.length) (h2 : SetOk l) : setErr l = 0 := by unfold setErr; rw [if_neg h, if_pos h2]
theorem setErr_bad (h : ¬ 200 < l.length) (h2 : ¬ SetOk l) : setErr l = 5 := by unfold setErr; rw [if_neg h, if_neg h2]
theorem setErr_zero (h : setErr l = 0) : ¬ 200 < l.length ∧ SetOk l := by
  by_cases h1 : 200 < l.length
  · rw [setErr_large h1] at h; simp at h
  · by_cases h2 : SetOk l
    · exact ⟨h1, h2⟩
    · rw [setErr_bad h1 h2] at h; simp at h
theorem SetOk.nil : SetOk [] := ⟨.nil, fun x h => by simp at h⟩
theorem SetOk.take (h : SetOk l) (k : Nat) : SetOk (l.take k) :=
  ⟨⟨h.norm.1.sublist (List.take_sublist k l), fun x hx => h.norm.2 x (List.mem_of_mem_take hx)⟩, fun x hx => h.near x (List.mem_of_mem_take hx)⟩
theorem take_succ_ (hx : l[k]? = some x) : l.take (k + 1) = l.take k ++ [x] := by rw [List.take_add_one, hx]; rfl
/-- One more. -/
theorem SetOk.first (hx : l[0]? = some x) (h1 : nearB x.f = true) (h2 : nearB x.t = true) (h3 : x.f < x.t) : SetOk (l.take 1) := by
  rw [take_succ_ hx]
  have e : ∀ y, y ∈ l.take 0 ++ [x] → y = x := fun y hy => by simpa using hy
  exact ⟨⟨by simp, fun y hy => by rw [e y hy]; exact h3⟩, fun y hy => by rw [e y hy]; exact ⟨h1, h2⟩⟩
theorem SetOk.next (h : SetOk (l.take (k + 1))) (hy : l[k]? = some y) (hx : l[k + 1]? = some x) (h1 : nearB x.f = true) (h2 : nearB x.t = true) (h3 : x.f < x.t) (h4 : y.t < x.f) : SetOk (l.take (k + 2)) := by
  rw [take_succ_ hx]
  have hn := h.norm
  rw [take_succ_ hy] at hn
  refine ⟨h.norm.snoc h3 fun z hz => ?_, fun z hz => ?_⟩
  · rw [take_succ_ hy] at hz
    have := hn.rise z hz
    omega
  · rcases List.mem_append.1 hz with hz | hz
    · exact h.near z hz
    · obtain rfl : z = x := by simpa using hz
      exact ⟨h1, h2⟩
theorem SetOk.at_ (h : SetOk l) (hx : l[k]? = some x) : nearB x.f = true ∧ nearB x.t = true ∧ x.f < x.t := by
  have hm := List.mem_of_getElem? hx
  exact ⟨(h.near x hm).1, (h.near x hm).2, h.norm.2 x hm⟩
theorem SetOk.gap (h : SetOk l) (hy : l[k]? = some y) (hx : l[k + 1]? = some x) : y.t < x.f := by
  obtain ⟨h1, h2⟩ := List.getElem?_eq_some_iff.1 hy
  obtain ⟨h3, h4⟩ := List.getElem?_eq_some_iff.1 hx
  have := List.pairwise_iff_getElem.1 h.norm.1 k (k + 1) h1 h3 (by omega)
  rw [h2, h4] at this
  exact this
/-- What is read as a set. -/
def NormIs (l out : List IvlD) : Prop := NormL out ∧ ∀ t, hasB out t = hasB l t
theorem NormIs.eq {out r : List IvlD} (h : NormIs l out) (k : NormIs l r) : out = r := norm_unique h.1 k.1 fun t => (h.2 t).trans (k.2 t).symm
/-- Empty intervals tell nothing. -/
theorem has_filter {t : Int} : hasB (l.filter fun x => decide (x.f < x.t)) t = hasB l t := by
  rw [Bool.eq_iff_iff, has_iff, has_iff]
  constructor
  · rintro ⟨x, hx, h1, h2⟩
    exact ⟨x, (List.mem_filter.1 hx).1, h1, h2⟩
  · rintro ⟨x, hx, h1, h2⟩
    exact ⟨x, List.mem_filter.2 ⟨hx, by simp; omega⟩, h1, h2⟩
theorem has_perm {l r : List IvlD} (h : ∀ x, x ∈ l ↔ x ∈ r) (t : Int) : hasB l t = hasB r t := by
  rw [Bool.eq_iff_iff, has_iff, has_iff]
  constructor
  · rintro ⟨x, hx, h1⟩; exact ⟨x, (h x).1 hx, h1⟩
  · rintro ⟨x, hx, h1⟩; exact ⟨x, (h x).2 hx, h1⟩
end
/-! ### what two sets have in common, as the program finds it -/
/-- Up to the intervals i and j all is told. -/
structure Common (a b : List IvlD) (i j : Nat) (out : List IvlD) : Prop where
  norm : NormL out
  has : ∀ t, hasB out t = true ↔ (hasB a t = true ∧ hasB b t = true) ∧ ¬ (hasB (a.drop i) t = true ∧ hasB (b.drop j) t = true)
  low : ∀ o, o ∈ out → ∀ x y, a[i]? = some x → b[j]? = some y → o.t < max x.f y.f
section
variable {a b out : List IvlD} {i j : Nat} {x y : IvlD}
theorem drop_cons' {l : List IvlD} {k : Nat} {x : IvlD} (h : l[k]? = some x) : l.drop k = x :: l.drop (k + 1) := by
  obtain ⟨h1, h2⟩ := List.getElem?_eq_some_iff.1 h
  rw [← h2]
  exact List.drop_eq_getElem_cons h1
theorem NormL.drop {l : List IvlD} (h : NormL l) (k : Nat) : NormL (l.drop k) := ⟨h.1.sublist (List.drop_sublist k l), fun x hx => h.2 x (List.mem_of_mem_drop hx)⟩
theorem Common.start : Common a b 0 0 [] := ⟨.nil, fun t => by simp [has_nil], fun o h => by simp at h⟩
theorem Common.flip (h : Common a b i j out) : Common b a j i out := ⟨h.norm, fun t => by rw [h.has t]; simp only [and_comm], fun o ho x y hx hy => by have := h.low o ho y x hy hx; omega⟩
/-- The interval of a ends first. -/
theorem Common.stepA (h : Common a b i j out) (ha : NormL a) (hb : NormL b) (hx : a[i]? = some x) (hy : b[j]? = some y) (hle : x.t ≤ y.t) {out' : List IvlD}
    (hout : out' = if max x.f y.f < min x.t y.t then out ++ [⟨max x.f y.f, min x.t y.t⟩] else out) : Common a b (i + 1) j out' := by
  have hxl := ha.2 x (List.mem_of_getElem? hx)
  have hyl := hb.2 y (List.mem_of_getElem? hy)
  have hda := drop_cons' hx
  have hdb := drop_cons' hy
  have hna := ha.drop i
  have hnb := hb.drop j
  rw [hda] at hna
  rw [hdb] at hnb
  have hin : ∀ t, hasB (b.drop j) t = true → t < x.t → y.f ≤ t := fun t h1 _ => by rw [hdb] at h1; exact hnb.low h1
  have key : ∀ t, (hasB (a.drop i) t = true ∧ hasB (b.drop j) t = true) ↔ (hasB (a.drop (i + 1)) t = true ∧ hasB (b.drop j) t = true) ∨ (max x.f y.f ≤ t ∧ t < min x.t y.t) := fun t => by
    rw [hda, has_cons]
    constructor
    · rintro ⟨h1 | h1, h2⟩
      · right
        have := hin t h2 h1.2
        omega
      · exact .inl ⟨h1, h2⟩
    · rintro (⟨h1, h2⟩ | h1)
      · exact ⟨.inr h1, h2⟩
      · exact ⟨.inl (by omega), by rw [hdb]; exact has_cons.2 (.inl (by omega))⟩
  have kin : ∀ t, (max x.f y.f ≤ t ∧ t < min x.t y.t) → hasB a t = true ∧ hasB b t = true := fun t ht =>
    ⟨has_iff.2 ⟨x, List.mem_of_getElem? hx, by omega, by omega⟩, has_iff.2 ⟨y, List.mem_of_getElem? hy, by omega, by omega⟩⟩
  have kout : ∀ t, (max x.f y.f ≤ t ∧ t < min x.t y.t) → ¬ (hasB (a.drop (i + 1)) t = true ∧ hasB (b.drop j) t = true) := fun t ht h1 => by
    have := hna.past h1.1
    omega
  have hnext : ∀ x', a[i + 1]? = some x' → x.t < x'.f := fun x' hx' => by
    have e := drop_cons' hx'
    exact (List.pairwise_cons.1 hna.1).1 x' (by rw [e]; simp)
  by_cases hz : max x.f y.f < min x.t y.t
  · rw [if_pos hz] at hout
    subst hout
    refine ⟨h.norm.snoc hz fun o ho => h.low o ho x y hx hy, fun t => ?_, fun o ho x' y' hx' hy' => ?_⟩
    · rw [has_snoc, h.has t, key t]
      simp only
      constructor
      · rintro (⟨h1, h2⟩ | h1)
        · exact ⟨h1, fun h3 => h2 (.inl h3)⟩
        · exact ⟨kin t h1, kout t h1⟩
      · rintro ⟨h1, h2⟩
        by_cases h3 : max x.f y.f ≤ t ∧ t < min x.t y.t
        · exact .inr h3
        · exact .inl ⟨h1, fun h4 => h4.elim h2 h3⟩
    · have h1 := hnext x' hx'
      obtain rfl : y = y' := by rw [hy] at hy'; simpa using hy'
      rcases List.mem_append.1 ho with ho | ho
      · have := h.low o ho x y hx hy
        omega
      · obtain rfl : o = _ := by simpa using ho
        simp only
        omega
  · rw [if_neg hz] at hout
    subst hout
    refine ⟨h.norm, fun t => ?_, fun o ho x' y' hx' hy' => ?_⟩
    · rw [h.has t, key t]
      constructor
      · rintro ⟨h1, h2⟩
        exact ⟨h1, fun h3 => h2 (.inl h3)⟩
      · rintro ⟨h1, h2⟩
        refine ⟨h1, fun h4 => h4.elim h2 fun h3 => hz (by omega)⟩
    · have h1 := hnext x' hx'
      obtain rfl : y = y' := by rw [hy] at hy'; simpa using hy'
      have := h.low o ho x y hx hy
      omega
theorem Common.stepB (h : Common a b i j out) (ha : NormL a) (hb : NormL b) (hx : a[i]? = some x) (hy : b[j]? = some y) (hle : y.t ≤ x.t) {out' : List IvlD}
    (hout : out' = if max x.f y.f < min x.t y.t then out ++ [⟨max x.f y.f, min x.t y.t⟩] else out) : Common a b i (j + 1) out' :=
  (h.flip.stepA hb ha hy hx hle (by rw [hout, show max y.f x.f = max x.f y.f by omega, show min y.t x.t = min x.t y.t by omega])).flip
theorem Common.fin (h : Common a b i j out) (hn : a.length ≤ i ∨ b.length ≤ j) : NormL out ∧ ∀ t, hasB out t = (hasB a t && hasB b t) := by
  refine ⟨h.norm, fun t => ?_⟩
  rw [Bool.eq_iff_iff, h.has t, Bool.and_eq_true]
  refine ⟨fun k => k.1, fun k => ⟨k, fun k2 => ?_⟩⟩
  rcases hn with hn | hn
  · rw [List.drop_of_length_le hn] at k2; simp [has_nil] at k2
  · rw [List.drop_of_length_le hn] at k2; simp [has_nil] at k2
end
/-! ### the times that a set hasn't -/
structure Gaps (b : List IvlD) (k : Nat) (m : Int) (out : List IvlD) : Prop where
  norm : NormL out
  has : ∀ t, hasB out t = true ↔ -1000000000 ≤ t ∧ t < m ∧ ¬ hasB (b.take k) t = true
  low : ∀ o, o ∈ out → o.t < m
  m0 : -1000000000 ≤ m
  m1 : m ≤ 1000000000
  next : ∀ x, b[k]? = some x → m ≤ x.f
  prev : ∀ t, hasB (b.take k) t = true → t < m
section
variable {b out : List IvlD} {k : Nat} {m : Int} {x : IvlD}
theorem Gaps.start (h : SetOk b) : Gaps b 0 (-1000000000) [] :=
  ⟨.nil, fun t => ⟨fun h => by simp [has_nil] at h, fun h => by omega⟩, fun o h => by simp at h, by omega, by omega, fun x hx => (near_iff.1 (h.at_ hx).1).1, fun t h => by simp [has_nil] at h⟩
theorem take_has {t : Int} (hx : b[k]? = some x) : hasB (b.take (k + 1)) t = true ↔ hasB (b.take k) t = true ∨ (x.f ≤ t ∧ t < x.t) := by rw [take_succ_ hx, has_snoc]
theorem Gaps.step (h : Gaps b k m out) (hb : SetOk b) (hx : b[k]? = some x) {out' : List IvlD} (hout : out' = if m < x.f then out ++ [⟨m, x.f⟩] else out) : Gaps b (k + 1) x.t out' := by
  obtain ⟨h1, h2, h3⟩ := hb.at_ hx
  have h1 := near_iff.1 h1
  have h2 := near_iff.1 h2
  have hm := h.next x hx
  have hnx : ∀ y, b[k + 1]? = some y → x.t ≤ y.f := fun y hy => by have := hb.gap hx hy; omega
  have hpv : ∀ t, hasB (b.take (k + 1)) t = true → t < x.t := fun t ht => by
    rcases (take_has hx).1 ht with k1 | k1
    · have := h.prev t k1; omega
    · exact k1.2
  by_cases hz : m < x.f
  · rw [if_pos hz] at hout
    subst hout
    refine ⟨h.norm.snoc hz h.low, fun t => ?_, fun o ho => ?_, by omega, by omega, hnx, hpv⟩
    · rw [has_snoc, h.has t, take_has hx]
      simp only
      have h0 := h.m0
      constructor
      · rintro (⟨k1, k2, k3⟩ | k1)
        · exact ⟨k1, by omega, fun k4 => k4.elim k3 fun k5 => by omega⟩
        · refine ⟨by omega, by omega, fun k4 => k4.elim (fun k5 => ?_) fun k5 => by omega⟩
          have := h.prev t k5; omega
      · rintro ⟨k1, k2, k3⟩
        by_cases k4 : t < m
        · exact .inl ⟨k1, k4, fun k5 => k3 (.inl k5)⟩
        · right
          refine ⟨by omega, Classical.byContradiction fun k5 => k3 (.inr ⟨by omega, k2⟩)⟩
    · rcases List.mem_append.1 ho with ho | ho
      · have := h.low o ho; omega
      · obtain rfl : o = _ := by simpa using ho
        exact h3
  · rw [if_neg hz] at hout
    subst hout
    refine ⟨h.norm, fun t => ?_, fun o ho => by have := h.low o ho; omega, by omega, by omega, hnx, hpv⟩
    rw [h.has t, take_has hx]
    constructor
    · rintro ⟨k1, k2, k3⟩
      exact ⟨k1, by omega, fun k4 => k4.elim k3 fun k5 => by omega⟩
    · rintro ⟨k1, k2, k3⟩
      refine ⟨k1, Classical.byContradiction fun k5 => k3 (.inr ⟨by omega, k2⟩), fun k4 => k3 (.inl k4)⟩
/-- All the times that a set hasn't. -/
theorem Gaps.fin (h : Gaps b k m out) (hk : b.length ≤ k) {out' : List IvlD} (hout : out' = if m < 1000000000 then out ++ [⟨m, 1000000000⟩] else out) : NormL out' ∧ ∀ t, hasB out' t = true ↔ -1000000000 ≤ t ∧ t < 1000000000 ∧ ¬ hasB b t = true := by
  have e : b.take k = b := List.take_of_length_le hk
  have hh := h.has
  have hp := h.prev
  rw [e] at hh hp
  have h0 := h.m0; have h1 := h.m1
  by_cases hz : m < 1000000000
  · rw [if_pos hz] at hout
    subst hout
    refine ⟨h.norm.snoc hz h.low, fun t => ?_⟩
    rw [has_snoc, hh t]
    simp only
    constructor
    · rintro (⟨k1, k2, k3⟩ | k1)
      · exact ⟨k1, by omega, k3⟩
      · exact ⟨by omega, by omega, fun k5 => by have := hp t k5; omega⟩
    · rintro ⟨k1, k2, k3⟩
      by_cases k4 : t < m
      · exact .inl ⟨k1, k4, k3⟩
      · exact .inr ⟨by omega, k2⟩
  · rw [if_neg hz] at hout
    subst hout
    refine ⟨h.norm, fun t => ?_⟩
    rw [hh t, show m = 1000000000 by omega]
/-- All times of a set lie in there. -/
theorem SetOk.inside (h : SetOk b) {t : Int} (ht : hasB b t = true) : -1000000000 ≤ t ∧ t < 1000000000 := by
  obtain ⟨x, hx, h1, h2⟩ := has_iff.1 ht
  have := near_iff.1 (h.near x hx).1
  have := near_iff.1 (h.near x hx).2
  omega
end
end Go.Proofs.YtdpibehpmghghaaGreat
