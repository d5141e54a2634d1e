/- Several texts in one: IvlSpec, MapSpec, BoundsSpec, Spec, Small. -/
import Derived.Test.YtdpibehpmghghaaDoorProg
import Derived.Test.YtdpibehpmghghaaDoorBdf0a653a3c9
/- Sets of times, as lists of intervals; no program in sight. -/
namespace Go.Proofs.YtdpibehpmghghaaDoor

/-- The time is in one of the intervals. -/
def hasB (l : List IvlD) (t : Int) : Bool := l.any fun x => decide (x.f ≤ t ∧ t < x.t)
/-- A set as it should be written: intervals that rise, none of them empty, none meets another one. -/
def NormL (l : List IvlD) : Prop := l.Pairwise (fun x y => x.t < y.f) ∧ ∀ x, x ∈ l → x.f < x.t
section
variable {l r out : List IvlD} {x y z : IvlD} {t : Int}
theorem has_nil : hasB [] t = false := rfl
theorem has_cons : hasB (x :: l) t = true ↔ (x.f ≤ t ∧ t < x.t) ∨ hasB l t = true := by simp [hasB]
theorem has_append : hasB (l ++ r) t = (hasB l t || hasB r t) := by simp [hasB]
theorem has_iff : hasB l t = true ↔ ∃ x, x ∈ l ∧ x.f ≤ t ∧ t < x.t := by simp [hasB]
theorem NormL.nil : NormL [] := ⟨.nil, fun x h => by simp at h⟩
theorem NormL.tail (h : NormL (x :: l)) : NormL l := ⟨(List.pairwise_cons.1 h.1).2, fun y hy => h.2 y (List.mem_cons_of_mem _ hy)⟩
theorem NormL.past (h : NormL (x :: l)) (ht : hasB l t = true) : x.t < t := by
  obtain ⟨y, hy, h1, _⟩ := has_iff.1 ht
  have := (List.pairwise_cons.1 h.1).1 y hy
  omega
theorem NormL.low (h : NormL (x :: l)) (ht : hasB (x :: l) t = true) : x.f ≤ t := by
  rcases has_cons.1 ht with h1 | h1
  · exact h1.1
  · have := h.past h1
    have := h.2 x (by simp)
    omega
/-- What a set is written as, is told by its times. -/
theorem norm_unique : ∀ {l r : List IvlD}, NormL l → NormL r → (∀ t, hasB l t = hasB r t) → l = r
  | [], [], _, _, _ => rfl
  | [], y :: r, _, hr, h => by
    have h1 := h y.f
    rw [has_nil, has_cons.2 (.inl ⟨Int.le_refl _, hr.2 y (by simp)⟩)] at h1
    simp at h1
  | x :: l, [], hl, _, h => by
    have h1 := h x.f
    rw [has_nil, has_cons.2 (.inl ⟨Int.le_refl _, hl.2 x (by simp)⟩)] at h1
    simp at h1
  | x :: l, y :: r, hl, hr, h => by
    have hx := hl.2 x (by simp)
    have hy := hr.2 y (by simp)
    have e1 : x.f = y.f := by
      have h1 := hr.low (t := x.f) (by rw [← h]; exact has_cons.2 (.inl ⟨Int.le_refl _, hx⟩))
      have h2 := hl.low (t := y.f) (by rw [h]; exact has_cons.2 (.inl ⟨Int.le_refl _, hy⟩))
      omega
    have e2 : x.t = y.t := by
      rcases Int.lt_trichotomy x.t y.t with h1 | h1 | h1
      · exfalso
        have h2 := h x.t
        rw [has_cons.2 (.inl ⟨by omega, h1⟩)] at h2
        rcases has_cons.1 h2 with h3 | h3
        · omega
        · have := hl.past h3; omega
      · exact h1
      · exfalso
        have h2 := (h y.t).symm
        rw [has_cons.2 (.inl ⟨by omega, h1⟩)] at h2
        rcases has_cons.1 h2 with h3 | h3
        · omega
        · have := hr.past h3; omega
    have e : x = y := by
      cases x; cases y
      simp only at e1 e2
      subst e1 e2
      rfl
    subst e
    congr 1
    refine norm_unique hl.tail hr.tail fun t => ?_
    rw [Bool.eq_iff_iff]
    constructor
    · intro ht
      have h1 := hl.past ht
      rcases has_cons.1 ((h t).symm.trans (has_cons.2 (.inr ht))) with h2 | h2
      · omega
      · exact h2
    · intro ht
      have h1 := hr.past ht
      rcases has_cons.1 ((h t).trans (has_cons.2 (.inr ht))) with h2 | h2
      · omega
      · exact h2
/-- The last of a set comes behind all else. -/
theorem NormL.snoc_lt (h : NormL (out ++ [z])) {y : IvlD} (hy : y ∈ out) : y.t < z.f := (List.pairwise_append.1 h.1).2.2 y hy z (by simp)
theorem NormL.snoc (h : NormL out) (hx : x.f < x.t) (hl : ∀ y, y ∈ out → y.t < x.f) : NormL (out ++ [x]) := by
  refine ⟨List.pairwise_append.2 ⟨h.1, by simp, fun y hy u hu => ?_⟩, fun y hy => ?_⟩
  · obtain rfl : u = x := by simpa using hu
    exact hl y hy
  · rcases List.mem_append.1 hy with hy | hy
    · exact h.2 y hy
    · obtain rfl : y = x := by simpa using hy
      exact hx
theorem NormL.init (h : NormL (out ++ [z])) : NormL out := ⟨(List.pairwise_append.1 h.1).1, fun y hy => h.2 y (List.mem_append_left _ hy)⟩
/-- The last one reaches further. -/
theorem NormL.grow (h : NormL (out ++ [z])) {n : Int} (hn : z.t ≤ n) : NormL (out ++ [⟨z.f, n⟩]) :=
  h.init.snoc (by have := h.2 z (by simp); simp only; omega) fun _ hy => h.snoc_lt hy
theorem has_snoc : hasB (out ++ [z]) t = true ↔ hasB out t = true ∨ (z.f ≤ t ∧ t < z.t) := by
  rw [has_append, Bool.or_eq_true, has_cons, has_nil]
  simp
theorem NormL.rise (h : NormL (out ++ [z])) : ∀ y, y ∈ out ++ [z] → y.t ≤ z.t := fun y hy => by
  rcases List.mem_append.1 hy with hy | hy
  · have := h.snoc_lt hy; have := h.2 z (by simp); omega
  · obtain rfl : y = z := by simpa using hy
    exact Int.le_refl _
end
/-! ### how the program writes a set: sorted intervals, one after the other -/
/-- All that comes is put together: what has been read, in what is told. -/
structure Merged (done out : List IvlD) (last : Int) : Prop where
  norm : NormL out
  has : ∀ t, hasB out t = hasB done t
  low : ∀ y, y ∈ out → y.f ≤ last
section
variable {dn out o : List IvlD} {x z : IvlD} {n : Int}
theorem Merged.start : Merged [] [] n := ⟨.nil, fun _ => rfl, fun y h => by simp at h⟩
theorem Merged.later {m : Int} (h : Merged dn out n) (hm : n ≤ m) : Merged dn out m := ⟨h.norm, h.has, fun y hy => by have := h.low y hy; omega⟩
theorem Merged.join (h : Merged dn (o ++ [z]) x.f) (_ : x.f < x.t) (hz : x.f ≤ z.t) : Merged (dn ++ [x]) (o ++ [⟨z.f, max z.t x.t⟩]) x.f := by
  have hl := h.low z (by simp)
  refine ⟨h.norm.grow (by omega), fun t => ?_, fun y hy => ?_⟩
  · have key : (z.f ≤ t ∧ t < max z.t x.t) ↔ (z.f ≤ t ∧ t < z.t) ∨ (x.f ≤ t ∧ t < x.t) := by omega
    rw [Bool.eq_iff_iff, has_snoc, has_snoc, ← h.has t, has_snoc, or_assoc, ← key]
  · rcases List.mem_append.1 hy with hy | hy
    · exact h.low y (List.mem_append_left _ hy)
    · obtain rfl : y = _ := by simpa using hy
      exact hl
theorem Merged.next (h : Merged dn out x.f) (hx : x.f < x.t) (hz : ∀ y, y ∈ out → y.t < x.f) : Merged (dn ++ [x]) (out ++ [x]) x.f := by
  refine ⟨h.norm.snoc hx hz, fun t => ?_, fun y hy => ?_⟩
  · rw [Bool.eq_iff_iff, has_snoc, has_snoc, h.has t]
  · rcases List.mem_append.1 hy with hy | hy
    · exact h.low y hy
    · obtain rfl : y = x := by simpa using hy
      exact Int.le_refl _
theorem Merged.next_ (h : Merged dn (o ++ [z]) x.f) (hx : x.f < x.t) (hz : z.t < x.f) : Merged (dn ++ [x]) (o ++ [z] ++ [x]) x.f :=
  h.next hx fun y hy => by have := h.norm.rise y hy; omega
end
/-! ### how the document writes a set: between two bounds, where something holds -/
/-- Behind the bound a: what holds between b and a is told. -/
structure Between (is : Int → Bool) (b a : Int) (out : List IvlD) : Prop where
  norm : NormL out
  has : ∀ t, hasB out t = true ↔ b ≤ t ∧ t < a ∧ is t = true
  low : ∀ y, y ∈ out → y.t ≤ a
section
variable {is : Int → Bool} {b a c : Int} {out o : List IvlD} {z : IvlD}
theorem Between.start : Between is a a [] := ⟨.nil, fun t => ⟨fun h => by simp [has_nil] at h, fun h => by omega⟩, fun y h => by simp at h⟩
theorem Between.skip (h : Between is b a out) (hac : a < c) (his : ∀ t, a ≤ t → t < c → is t = is a) (hn : is a = false) : Between is b c out := by
  refine ⟨h.norm, fun t => ?_, fun y hy => by have := h.low y hy; omega⟩
  rw [h.has t]
  constructor
  · rintro ⟨h1, h2, h3⟩; exact ⟨h1, by omega, h3⟩
  · rintro ⟨h1, h2, h3⟩
    refine ⟨h1, ?_, h3⟩
    by_cases hta : t < a
    · exact hta
    · rw [his t (by omega) h2, hn] at h3; simp at h3
theorem Between.grow (h : Between is b a (o ++ [z])) (hba : b ≤ a) (hac : a < c) (his : ∀ t, a ≤ t → t < c → is t = is a) (hy : is a = true) (hz : z.t = a) : Between is b c (o ++ [⟨z.f, c⟩]) := by
  have hzl := h.norm.2 z (by simp)
  refine ⟨h.norm.grow (by omega), fun t => ?_, fun y hy => ?_⟩
  · have h1 := h.has t
    rw [has_snoc] at h1
    rw [has_snoc]
    simp only
    constructor
    · rintro (h2 | h2)
      · obtain ⟨k1, k2, k3⟩ := h1.1 (.inl h2)
        exact ⟨k1, by omega, k3⟩
      · by_cases hta : t < a
        · obtain ⟨k1, k2, k3⟩ := h1.1 (.inr ⟨h2.1, by omega⟩)
          exact ⟨k1, by omega, k3⟩
        · exact ⟨by omega, by omega, by rw [his t (by omega) (by omega)]; exact hy⟩
    · rintro ⟨h2, h3, h4⟩
      by_cases hta : t < a
      · rcases h1.2 ⟨h2, hta, h4⟩ with k | k
        · exact .inl k
        · exact .inr ⟨k.1, by omega⟩
      · exact .inr ⟨by omega, h3⟩
  · rcases List.mem_append.1 hy with hy | hy
    · have := h.low y (List.mem_append_left _ hy); omega
    · obtain rfl : y = _ := by simpa using hy
      exact Int.le_refl _
theorem Between.next (h : Between is b a out) (hba : b ≤ a) (hac : a < c) (his : ∀ t, a ≤ t → t < c → is t = is a) (hy : is a = true) (hz : ∀ y, y ∈ out → y.t < a) : Between is b c (out ++ [⟨a, c⟩]) := by
  refine ⟨h.norm.snoc hac hz, fun t => ?_, fun y hy => ?_⟩
  · have h1 := h.has t
    rw [has_snoc, h1]
    simp only
    constructor
    · rintro (⟨k1, k2, k3⟩ | h2)
      · exact ⟨k1, by omega, k3⟩
      · exact ⟨by omega, by omega, by rw [his t (by omega) (by omega)]; exact hy⟩
    · rintro ⟨h2, h3, h4⟩
      by_cases hta : t < a
      · exact .inl ⟨h2, hta, h4⟩
      · exact .inr ⟨by omega, h3⟩
  · rcases List.mem_append.1 hy with hy | hy
    · have := h.low y hy; omega
    · obtain rfl : y = _ := by simpa using hy
      exact Int.le_refl _
end
end Go.Proofs.YtdpibehpmghghaaDoor
/- Values over times, as lists of pieces; no program in sight. -/
namespace Go.Proofs.YtdpibehpmghghaaDoor

structure PieceD where
  f : Int
  t : Int
  v : Int
deriving DecidableEq
/-- What is told at a time. -/
def atM : List PieceD → Int → Option Int
  | [], _ => none
  | x :: l, t => if x.f ≤ t ∧ t < x.t then some x.v else atM l t
def MapL (l : List PieceD) : Prop := l.Pairwise (fun x y => x.t ≤ y.f ∧ (x.t = y.f → x.v ≠ y.v)) ∧ ∀ x, x ∈ l → x.f < x.t
section
variable {l r out : List PieceD} {x y z : PieceD} {t : Int} {v : Int}
theorem at_nil : atM [] t = none := rfl
theorem at_hit (h : x.f ≤ t ∧ t < x.t) : atM (x :: l) t = some x.v := by rw [atM, if_pos h]
theorem at_miss (h : ¬ (x.f ≤ t ∧ t < x.t)) : atM (x :: l) t = atM l t := by rw [atM, if_neg h]
theorem at_some : ∀ {l : List PieceD}, atM l t = some v → ∃ x, x ∈ l ∧ x.f ≤ t ∧ t < x.t ∧ x.v = v
  | [], h => by simp [atM] at h
  | x :: l, h => by
    by_cases hx : x.f ≤ t ∧ t < x.t
    · rw [at_hit hx] at h
      exact ⟨x, by simp, hx.1, hx.2, by simpa using h⟩
    · rw [at_miss hx] at h
      obtain ⟨y, hy, h1⟩ := at_some h
      exact ⟨y, List.mem_cons_of_mem _ hy, h1⟩
theorem at_none : ∀ {l : List PieceD}, (∀ x, x ∈ l → ¬ (x.f ≤ t ∧ t < x.t)) → atM l t = none
  | [], _ => rfl
  | x :: l, h => by rw [at_miss (h x (by simp)), at_none fun y hy => h y (List.mem_cons_of_mem _ hy)]
theorem at_append : ∀ {l r : List PieceD}, atM (l ++ r) t = (atM l t).or (atM r t)
  | [], r => by simp [atM]
  | x :: l, r => by
    rw [List.cons_append]
    by_cases hx : x.f ≤ t ∧ t < x.t
    · rw [at_hit hx, at_hit hx]; rfl
    · rw [at_miss hx, at_miss hx, at_append]
theorem MapL.nil : MapL [] := ⟨.nil, fun x h => by simp at h⟩
theorem MapL.tail (h : MapL (x :: l)) : MapL l := ⟨(List.pairwise_cons.1 h.1).2, fun y hy => h.2 y (List.mem_cons_of_mem _ hy)⟩
theorem MapL.past (h : MapL (x :: l)) (ht : atM l t = some v) : x.t ≤ t ∧ (t = x.t → v ≠ x.v) := by
  obtain ⟨y, hy, h1, _, h2⟩ := at_some ht
  have h3 := (List.pairwise_cons.1 h.1).1 y hy
  refine ⟨by omega, fun e => ?_⟩
  rw [← h2]
  exact (h3.2 (by omega)).symm
theorem MapL.low (h : MapL (x :: l)) (ht : atM (x :: l) t = some v) : x.f ≤ t := by
  by_cases hx : x.f ≤ t ∧ t < x.t
  · exact hx.1
  · rw [at_miss hx] at ht
    have := (h.past ht).1
    have := h.2 x (by simp)
    omega
theorem MapL.head (h : MapL (x :: l)) : atM (x :: l) x.f = some x.v := at_hit ⟨Int.le_refl _, h.2 x (by simp)⟩
/-- What a map is written as, is told by what it tells. -/
theorem map_unique : ∀ {l r : List PieceD}, MapL l → MapL r → (∀ t, atM l t = atM r t) → l = r
  | [], [], _, _, _ => rfl
  | [], y :: r, _, hr, h => by
    have h1 := h y.f
    rw [hr.head, at_nil] at h1
    simp at h1
  | x :: l, [], hl, _, h => by
    have h1 := h x.f
    rw [hl.head, at_nil] at h1
    simp at h1
  | x :: l, y :: r, hl, hr, h => by
    have hx := hl.2 x (by simp)
    have hy := hr.2 y (by simp)
    have e1 : x.f = y.f := by
      have h1 := hr.low (t := x.f) (by rw [← h]; exact hl.head)
      have h2 := hl.low (t := y.f) (by rw [h]; exact hr.head)
      omega
    have ev : x.v = y.v := by
      have h1 := h x.f
      rw [hl.head, e1, hr.head] at h1
      simpa using h1
    have e2 : x.t = y.t := by
      rcases Int.lt_trichotomy x.t y.t with h1 | h1 | h1
      · exfalso
        have h2 := h x.t
        rw [at_hit (x := y) ⟨by omega, h1⟩, at_miss (by omega)] at h2
        exact (hl.past h2).2 rfl ev.symm
      · exact h1
      · exfalso
        have h2 := (h y.t).symm
        rw [at_hit (x := x) ⟨by omega, h1⟩, at_miss (by omega)] at h2
        exact (hr.past h2).2 rfl ev
    have e : x = y := by
      cases x; cases y
      simp only at e1 e2 ev
      subst e1 e2 ev
      rfl
    subst e
    congr 1
    refine map_unique hl.tail hr.tail fun t => ?_
    have h1 := h t
    by_cases ht : x.f ≤ t ∧ t < x.t
    · have k1 : atM l t = none := by
        cases hc : atM l t with
        | none => rfl
        | some v => have := (hl.past hc).1; omega
      have k2 : atM r t = none := by
        cases hc : atM r t with
        | none => rfl
        | some v => have := (hr.past hc).1; omega
      rw [k1, k2]
    · rwa [at_miss ht, at_miss ht] at h1
theorem MapL.init (h : MapL (out ++ [z])) : MapL out := ⟨(List.pairwise_append.1 h.1).1, fun y hy => h.2 y (List.mem_append_left _ hy)⟩
theorem MapL.snoc_lt (h : MapL (out ++ [z])) {y : PieceD} (hy : y ∈ out) : y.t ≤ z.f ∧ (y.t = z.f → y.v ≠ z.v) := (List.pairwise_append.1 h.1).2.2 y hy z (by simp)
theorem MapL.snoc (h : MapL out) (hx : x.f < x.t) (hl : ∀ y, y ∈ out → y.t ≤ x.f ∧ (y.t = x.f → y.v ≠ x.v)) : MapL (out ++ [x]) := by
  refine ⟨List.pairwise_append.2 ⟨h.1, by simp, fun y hy u hu => ?_⟩, fun y hy => ?_⟩
  · obtain rfl : u = x := by simpa using hu
    exact hl y hy
  · rcases List.mem_append.1 hy with hy | hy
    · exact h.2 y hy
    · obtain rfl : y = x := by simpa using hy
      exact hx
theorem MapL.grow (h : MapL (out ++ [z])) {n : Int} (hn : z.t ≤ n) : MapL (out ++ [⟨z.f, n, z.v⟩]) :=
  h.init.snoc (by have := h.2 z (by simp); simp only; omega) fun _ hy => h.snoc_lt hy
theorem MapL.rise (h : MapL (out ++ [z])) : ∀ y, y ∈ out ++ [z] → y.t ≤ z.t := fun y hy => by
  rcases List.mem_append.1 hy with hy | hy
  · have := h.snoc_lt hy; have := h.2 z (by simp); omega
  · obtain rfl : y = z := by simpa using hy
    exact Int.le_refl _
/-- Who is told ahead of the last one ends ahead of it. -/
theorem MapL.ahead (h : MapL (out ++ [z])) {y : PieceD} (hy : y ∈ out) : y.t < z.t := by
  have := h.snoc_lt hy; have := h.2 z (by simp); omega
end
/-! ### a map, written between one bound and the next -/
structure Told (fn : Int → Option Int) (b a : Int) (out : List PieceD) : Prop where
  map : MapL out
  tells : ∀ t, atM out t = if b ≤ t ∧ t < a then fn t else none
  low : ∀ y, y ∈ out → y.t ≤ a
section
variable {fn : Int → Option Int} {b a c v : Int} {out o : List PieceD} {z : PieceD}
theorem Told.start : Told fn a a [] := ⟨.nil, fun t => by rw [at_nil, if_neg (by omega)], fun y h => by simp at h⟩
theorem Told.skip (h : Told fn b a out) (hac : a < c) (hfn : ∀ t, a ≤ t → t < c → fn t = fn a) (hn : fn a = none) : Told fn b c out := by
  refine ⟨h.map, fun t => ?_, fun y hy => by have := h.low y hy; omega⟩
  rw [h.tells t]
  by_cases h1 : b ≤ t ∧ t < a
  · rw [if_pos h1, if_pos (by omega)]
  · rw [if_neg h1]
    split
    · rw [hfn t (by omega) (by omega), hn]
    · rfl
theorem Told.grow (h : Told fn b a (o ++ [z])) (_ : b ≤ a) (hac : a < c) (hfn : ∀ t, a ≤ t → t < c → fn t = fn a) (hv : fn a = some z.v) (hz : z.t = a) : Told fn b c (o ++ [⟨z.f, c, z.v⟩]) := by
  have hzl := h.map.2 z (by simp)
  have hzf : b ≤ z.f := by
    have h1 := h.tells z.f
    have h2 : atM (o ++ [z]) z.f = some z.v := by
      rw [at_append, at_none fun y hy => by have := h.map.snoc_lt hy; omega]
      exact at_hit ⟨Int.le_refl _, hzl⟩
    rw [h2] at h1
    refine Classical.byContradiction fun hn => ?_
    rw [if_neg (by omega)] at h1
    simp at h1
  refine ⟨h.map.grow (by omega), fun t => ?_, fun y hy => ?_⟩
  · have h1 := h.tells t
    rw [at_append] at h1 ⊢
    cases hc : atM o t with
    | some u =>
      rw [hc] at h1
      obtain ⟨q, hq, k1, k2, _⟩ := at_some hc
      have := h.low q (List.mem_append_left _ hq)
      simp only [Option.or] at h1 ⊢
      rw [h1]
      by_cases hb : b ≤ t ∧ t < a
      · rw [if_pos hb, if_pos (by omega)]
      · rw [if_neg hb] at h1; simp at h1
    | none =>
      rw [hc] at h1
      simp only [Option.none_or] at h1 ⊢
      by_cases ht : z.f ≤ t ∧ t < c
      · rw [at_hit (by simpa using ht), if_pos (by omega)]
        by_cases hta : t < a
        · rw [at_hit ⟨ht.1, by omega⟩, if_pos (by omega)] at h1
          simp only
          exact h1
        · rw [hfn t (by omega) ht.2, hv]
      · rw [at_miss (by simpa using ht), at_nil]
        rw [at_miss (by omega), at_nil] at h1
        by_cases hb : b ≤ t ∧ t < c
        · rw [if_pos hb]
          rw [if_pos (by omega)] at h1
          exact h1
        · rw [if_neg hb]
  · rcases List.mem_append.1 hy with hy | hy
    · have := h.low y (List.mem_append_left _ hy); omega
    · obtain rfl : y = _ := by simpa using hy
      exact Int.le_refl _
theorem Told.next (h : Told fn b a out) (hba : b ≤ a) (hac : a < c) (hfn : ∀ t, a ≤ t → t < c → fn t = fn a) (hv : fn a = some v) (hz : ∀ y, y ∈ out → y.t = a → y.v ≠ v) : Told fn b c (out ++ [⟨a, c, v⟩]) := by
  refine ⟨h.map.snoc hac fun y hy => ⟨h.low y hy, fun e => hz y hy e⟩, fun t => ?_, fun y hy => ?_⟩
  · have h1 := h.tells t
    rw [at_append, h1]
    by_cases hb : b ≤ t ∧ t < a
    · rw [if_pos hb, if_pos (by omega), at_miss (by simp only; omega), at_nil]
      simp
    · rw [if_neg hb]
      simp only [Option.none_or]
      by_cases hc : b ≤ t ∧ t < c
      · rw [if_pos hc, at_hit (by simp only; omega), hfn t (by omega) (by omega), hv]
      · rw [if_neg hc, at_miss (by simp only; omega), at_nil]
  · rcases List.mem_append.1 hy with hy | hy
    · have := h.low y hy; omega
    · obtain rfl : y = _ := by simpa using hy
      exact Int.le_refl _
end
end Go.Proofs.YtdpibehpmghghaaDoor
/- Bounds: numbers that rise, each once; what turns at them alone; no program in sight. -/
namespace Go.Proofs.YtdpibehpmghghaaDoor

/-- Of the first i of S, each once. -/
structure Uniq (S : List Int) (i : Nat) (D : List Int) : Prop where
  up : D.Pairwise (· < ·)
  mem : ∀ x, x ∈ D ↔ x ∈ S.take i
  short : D.length ≤ i
  pos : 0 < i → 0 < S.length → 0 < D.length
section
variable {S D o l : List Int} {i j : Nat} {x z a b c t : Int}
theorem Uniq.start : Uniq S 0 [] := ⟨.nil, fun x => by simp, Nat.le_refl _, fun h => by omega⟩
theorem take_mem (hi : S[i]? = some x) : ∀ y, y ∈ S.take (i + 1) ↔ y ∈ S.take i ∨ y = x := fun y => by
  rw [List.take_add_one, hi]
  simp
theorem Uniq.same (h : Uniq S i (o ++ [x])) (hi : S[i]? = some x) : Uniq S (i + 1) (o ++ [x]) := by
  refine ⟨h.up, fun y => ?_, by have := h.short; omega, fun _ _ => by simp⟩
  rw [take_mem hi, ← h.mem]
  simp
theorem Uniq.first (hi : S[0]? = some x) : Uniq S 1 [x] := ⟨by simp, fun y => by rw [take_mem hi]; simp, by simp, fun _ _ => by simp⟩
theorem Uniq.new (h : Uniq S i (o ++ [z])) (hs : S.Pairwise (· ≤ ·)) (hi : S[i]? = some x) (hz : z ≠ x) : Uniq S (i + 1) (o ++ [z] ++ [x]) := by
  have hle : ∀ y, y ∈ o ++ [z] → y ≤ x := fun y hy => by
    have h1 := (h.mem y).1 hy
    obtain ⟨j, hj⟩ := List.getElem?_of_mem h1
    have hj2 : j < i := by have := (List.getElem?_eq_some_iff.1 hj).1; rw [List.length_take] at this; omega
    rw [List.getElem?_take_of_lt hj2] at hj
    obtain ⟨hi1, hi2⟩ := List.getElem?_eq_some_iff.1 hi
    obtain ⟨hj1, hj3⟩ := List.getElem?_eq_some_iff.1 hj
    have := List.pairwise_iff_getElem.1 hs j i hj1 hi1 hj2
    omega
  have hzx : z < x := by have := hle z (by simp); omega
  refine ⟨?_, fun y => ?_, by have := h.short; simp only [List.length_append, List.length_cons, List.length_nil] at *; omega, fun _ _ => by simp⟩
  · rw [List.pairwise_append]
    refine ⟨h.up, by simp, fun y hy u hu => ?_⟩
    obtain rfl : u = x := by simpa using hu
    rcases List.mem_append.1 hy with h1 | h1
    · have := (List.pairwise_append.1 h.up).2.2 y h1 z (by simp)
      omega
    · obtain rfl : y = z := by simpa using h1
      exact hzx
  · rw [take_mem hi, ← h.mem]
    simp only [List.mem_append, List.mem_singleton]
/-- Between two bounds that follow each other there is none. -/
theorem rises_gap (h : D.Pairwise (· < ·)) (ha : D[i]? = some a) (hc : D[i + 1]? = some c) (hb : b ∈ D) : b ≤ a ∨ c ≤ b := by
  obtain ⟨j, hj⟩ := List.getElem?_of_mem hb
  obtain ⟨h1, h2⟩ := List.getElem?_eq_some_iff.1 ha
  obtain ⟨h3, h4⟩ := List.getElem?_eq_some_iff.1 hc
  obtain ⟨h5, h6⟩ := List.getElem?_eq_some_iff.1 hj
  rcases Nat.lt_trichotomy j i with k | k | k
  · have := List.pairwise_iff_getElem.1 h j i h5 h1 k; omega
  · subst k; omega
  · by_cases e : j = i + 1
    · subst e; omega
    · have := List.pairwise_iff_getElem.1 h (i + 1) j h3 h5 (by omega); omega
theorem rises_lt (h : D.Pairwise (· < ·)) (ha : D[i]? = some a) (hc : D[i + 1]? = some c) : a < c := by
  obtain ⟨h1, h2⟩ := List.getElem?_eq_some_iff.1 ha
  obtain ⟨h3, h4⟩ := List.getElem?_eq_some_iff.1 hc
  have := List.pairwise_iff_getElem.1 h i (i + 1) h1 h3 (by omega)
  omega
theorem rises_first (h : D.Pairwise (· < ·)) (ha : D[0]? = some a) (hb : b ∈ D) : a ≤ b := by
  obtain ⟨j, hj⟩ := List.getElem?_of_mem hb
  obtain ⟨h1, h2⟩ := List.getElem?_eq_some_iff.1 ha
  obtain ⟨h5, h6⟩ := List.getElem?_eq_some_iff.1 hj
  by_cases e : j = 0
  · subst e; omega
  · have := List.pairwise_iff_getElem.1 h 0 j h1 h5 (by omega); omega
theorem rises_last (h : D.Pairwise (· < ·)) (ha : D[i]? = some a) (hi : i + 1 = D.length) (hb : b ∈ D) : b ≤ a := by
  obtain ⟨j, hj⟩ := List.getElem?_of_mem hb
  obtain ⟨h1, h2⟩ := List.getElem?_eq_some_iff.1 ha
  obtain ⟨h5, h6⟩ := List.getElem?_eq_some_iff.1 hj
  by_cases e : j = i
  · subst e; omega
  · have := List.pairwise_iff_getElem.1 h j i h5 h1 (by omega); omega
end
/-- What turns at the bounds alone, and holds of nothing outside of them. -/
structure TurnsAt {α : Type} (D : List Int) (no : α) (fn : Int → α) : Prop where
  const : ∀ (i : Nat) a c, D[i]? = some a → D[i + 1]? = some c → ∀ t, a ≤ t → t < c → fn t = fn a
  inside : ∀ t, fn t ≠ no → ∃ a c, a ∈ D ∧ c ∈ D ∧ a ≤ t ∧ t < c
theorem hasB_turns {D : List Int} {l : List IvlD} (h : D.Pairwise (· < ·)) (hl : ∀ x, x ∈ l → x.f ∈ D ∧ x.t ∈ D) : TurnsAt D false (hasB l) := by
  refine ⟨fun i a c ha hc t h1 h2 => ?_, fun t ht => ?_⟩
  · rw [Bool.eq_iff_iff, has_iff, has_iff]
    constructor
    · rintro ⟨x, hx, k1, k2⟩
      have e1 := rises_gap h ha hc (hl x hx).1
      have e2 := rises_gap h ha hc (hl x hx).2
      exact ⟨x, hx, by omega, by omega⟩
    · rintro ⟨x, hx, k1, k2⟩
      have e1 := rises_gap h ha hc (hl x hx).1
      have e2 := rises_gap h ha hc (hl x hx).2
      exact ⟨x, hx, by omega, by omega⟩
  · obtain ⟨x, hx, k1, k2⟩ := has_iff.1 (by simpa using ht : hasB l t = true)
    exact ⟨x.f, x.t, (hl x hx).1, (hl x hx).2, k1, k2⟩
theorem atM_turns {D : List Int} (h : D.Pairwise (· < ·)) : ∀ {l : List PieceD}, (∀ x, x ∈ l → x.f ∈ D ∧ x.t ∈ D) → TurnsAt D none (atM l)
  | [], _ => ⟨fun _ _ _ _ _ _ _ _ => rfl, fun t ht => absurd rfl ht⟩
  | x :: l, hl => by
    have ih := atM_turns h (l := l) fun y hy => hl y (List.mem_cons_of_mem _ hy)
    have hx := hl x (by simp)
    refine ⟨fun i a c ha hc t h1 h2 => ?_, fun t ht => ?_⟩
    · have e1 := rises_gap h ha hc hx.1
      have e2 := rises_gap h ha hc hx.2
      by_cases k : x.f ≤ a ∧ a < x.t
      · rw [at_hit k, at_hit (by omega)]
      · rw [at_miss k, at_miss (by omega)]
        exact ih.const i a c ha hc t h1 h2
    · by_cases k : x.f ≤ t ∧ t < x.t
      · exact ⟨x.f, x.t, hx.1, hx.2, k.1, k.2⟩
      · rw [at_miss k] at ht
        exact ih.inside t ht
theorem TurnsAt.map2 {α β γ : Type} {D : List Int} {na : α} {nb : β} {nc : γ} {f : Int → α} {e : Int → β} (op : α → β → γ) (h0 : op na nb = nc) (hf : TurnsAt D na f) (he : TurnsAt D nb e) : TurnsAt D nc fun t => op (f t) (e t) := by
  refine ⟨fun i a c ha hc t h1 h2 => ?_, fun t ht => ?_⟩
  · simp only [hf.const i a c ha hc t h1 h2, he.const i a c ha hc t h1 h2]
  · by_cases k : f t = na
    · refine he.inside t fun k2 => ht ?_
      simp only [k, k2, h0]
    · exact hf.inside t k
/-- All bounds have been looked at. -/
theorem Between.fin {is : Int → Bool} {b a : Int} {D : List Int} {out : List IvlD} {i : Nat} (h : Between is b a out) (hD : D.Pairwise (· < ·)) (hT : TurnsAt D false is) (hb : D[0]? = some b) (ha : D[i]? = some a) (hi : i + 1 = D.length) : NormL out ∧ ∀ t, hasB out t = is t := by
  refine ⟨h.norm, fun t => ?_⟩
  rw [Bool.eq_iff_iff, h.has t]
  refine ⟨fun k => k.2.2, fun k => ?_⟩
  obtain ⟨p, q, hp, hq, k1, k2⟩ := hT.inside t (by rw [k]; simp)
  have := rises_first hD hb hp
  have := rises_last hD ha hi hq
  exact ⟨by omega, by omega, k⟩
theorem Told.fin {fn : Int → Option Int} {b a : Int} {D : List Int} {out : List PieceD} {i : Nat} (h : Told fn b a out) (hD : D.Pairwise (· < ·)) (hT : TurnsAt D none fn) (hb : D[0]? = some b) (ha : D[i]? = some a) (hi : i + 1 = D.length) : MapL out ∧ ∀ t, atM out t = fn t := by
  refine ⟨h.map, fun t => ?_⟩
  rw [h.tells t]
  split
  · rfl
  · rename_i hn
    refine (Classical.byContradiction fun k => ?_ : none = fn t)
    obtain ⟨p, q, hp, hq, k1, k2⟩ := hT.inside t (fun e => k e.symm)
    have := rises_first hD hb hp
    have := rises_last hD ha hi hq
    exact hn ⟨by omega, by omega⟩
/-- With no bound nothing holds. -/
theorem TurnsAt.empty {α : Type} {no : α} {fn : Int → α} (h : TurnsAt [] no fn) (t : Int) : fn t = no := Classical.byContradiction fun k => by
  obtain ⟨a, _, ha, _⟩ := h.inside t k
  simp at ha
end Go.Proofs.YtdpibehpmghghaaDoor
/- What the program's functions compute, as plain Lean functions; no program in sight. -/
namespace Go.Proofs.YtdpibehpmghghaaDoor
open Go.RowKit

def inB (n lo hi : Int) : Bool := decide (lo ≤ n ∧ n ≤ hi)
def legOk (l : LegD) (h : Int) : Bool := decide (0 ≤ l.f ∧ l.f < l.t ∧ l.t ≤ h ∧ 1 ≤ l.time ∧ l.time ≤ 50 ∧ 0 ≤ l.cost ∧ l.cost ≤ 1000)
/-- The legs of an edge, behind one that ends at p (none: no bound). -/
def legsErr (h : Int) : Option Int → List LegD → Int
  | _, [] => 0
  | p, l :: r => if legOk l h = false then 1 else if (match p with | some q => decide (l.f < q) | none => false) = true then 5 else legsErr h (some l.t) r
theorem legsErr_bad {h : Int} {p : Option Int} {l : LegD} {r : List LegD} (hl : legOk l h = false) : legsErr h p (l :: r) = 1 := by simp [legsErr, hl]
theorem legsErr_form {h q : Int} {l : LegD} {r : List LegD} (hl : legOk l h = true) (hq : l.f < q) : legsErr h (some q) (l :: r) = 5 := by simp [legsErr, hl, hq]
theorem legsErr_next {h q : Int} {l : LegD} {r : List LegD} (hl : legOk l h = true) (hq : ¬ l.f < q) : legsErr h (some q) (l :: r) = legsErr h (some l.t) r := by simp [legsErr, hl, hq]
theorem legsErr_first {h : Int} {l : LegD} {r : List LegD} (hl : legOk l h = true) : legsErr h none (l :: r) = legsErr h (some l.t) r := by simp [legsErr, hl]
/-- The leg ahead of number k. -/
def legAhead (l : List LegD) : Nat → Option Int
  | 0 => none
  | k + 1 => (l[k]?).map LegD.t
theorem legAhead_of {l : List LegD} {k : Nat} {z : LegD} (h : l[k]? = some z) : legAhead l (k + 1) = some z.t := by simp [legAhead, h]
def edgeErr (h n : Int) (x : EdgeD) : Int :=
  if inB x.a 0 (n - 1) = false ∨ inB x.b 0 (n - 1) = false then 4 else if 6 < x.legs.length then 2 else legsErr h none x.legs
def edgesErr (h n : Int) : List EdgeD → Int
  | [] => 0
  | x :: r => if edgeErr h n x = 0 then edgesErr h n r else edgeErr h n x
def lifeOk (h : Int) (l : IvlD) : Bool := decide (0 ≤ l.f ∧ l.f < l.t ∧ l.t ≤ h)
/-- P7. -/
def graphErr (g : GraphD) : Int :=
  if inB g.h 1 100 = false then 1 else if 12 < g.lives.length ∨ 30 < g.edges.length then 2 else if g.lives.all (lifeOk g.h) = false then 1 else edgesErr g.h g.lives.length g.edges
theorem graphErr_h {g : GraphD} (h : inB g.h 1 100 = false) : graphErr g = 1 := by unfold graphErr; rw [if_pos h]
theorem graphErr_large {g : GraphD} (h : inB g.h 1 100 = true) (h2 : 12 < g.lives.length ∨ 30 < g.edges.length) : graphErr g = 2 := by unfold graphErr; rw [if_neg (by simp [h]), if_pos h2]
theorem graphErr_life {g : GraphD} (h : inB g.h 1 100 = true) (h2 : ¬ (12 < g.lives.length ∨ 30 < g.edges.length)) (h3 : g.lives.all (lifeOk g.h) = false) : graphErr g = 1 := by
  unfold graphErr; rw [if_neg (by simp [h]), if_neg h2, if_pos h3]
theorem graphErr_edges {g : GraphD} (h : inB g.h 1 100 = true) (h2 : ¬ (12 < g.lives.length ∨ 30 < g.edges.length)) (h3 : g.lives.all (lifeOk g.h) = true) : graphErr g = edgesErr g.h g.lives.length g.edges := by
  unfold graphErr; rw [if_neg (by simp [h]), if_neg h2, if_neg (by simp [h3])]
theorem edgesErr_next {h n : Int} {x : EdgeD} {r : List EdgeD} (he : edgeErr h n x = 0) : edgesErr h n (x :: r) = edgesErr h n r := by rw [edgesErr, if_pos he]
theorem edgesErr_bad {h n : Int} {x : EdgeD} {r : List EdgeD} (he : ¬ edgeErr h n x = 0) : edgesErr h n (x :: r) = edgeErr h n x := by rw [edgesErr, if_neg he]
theorem all_next {α : Type} {p : α → Bool} {x : α} {r : List α} (h : p x = true) : (x :: r).all p = r.all p := by simp [h]
theorem all_bad {α : Type} {p : α → Bool} {x : α} {r : List α} (h : p x = false) : (x :: r).all p = false := by simp [h]
theorem lifeOk_true {h : Int} {l : IvlD} (h1 : 0 ≤ l.f ∧ l.f < l.t ∧ l.t ≤ h) : lifeOk h l = true := by simp [lifeOk, h1]
theorem lifeOk_false {h : Int} {l : IvlD} (h1 : ¬ (0 ≤ l.f ∧ l.f < l.t ∧ l.t ≤ h)) : lifeOk h l = false := by simp only [lifeOk, decide_eq_false_iff_not]; exact h1

/-! ### right graphs -/
structure EdgeOk (g : GraphD) (x : EdgeD) : Prop where
  a0 : 0 ≤ x.a
  a1 : x.a < g.lives.length
  b0 : 0 ≤ x.b
  b1 : x.b < g.lives.length
  six : x.legs.length ≤ 6
  legs : ∀ l, l ∈ x.legs → 0 ≤ l.f ∧ l.f < l.t ∧ l.t ≤ g.h ∧ 1 ≤ l.time ∧ l.time ≤ 50 ∧ 0 ≤ l.cost ∧ l.cost ≤ 1000
  err : legsErr g.h none x.legs = 0
structure Valid (g : GraphD) : Prop where
  h0 : 1 ≤ g.h
  h1 : g.h ≤ 100
  nl : g.lives.length ≤ 12
  ne : g.edges.length ≤ 30
  lives : ∀ l, l ∈ g.lives → 0 ≤ l.f ∧ l.f < l.t ∧ l.t ≤ g.h
  edges : ∀ x, x ∈ g.edges → EdgeOk g x

theorem legs_of_err {h : Int} : ∀ (l : List LegD) (p : Option Int), legsErr h p l = 0 → ∀ x, x ∈ l → legOk x h = true
  | [], _, _, x, hx => by simp at hx
  | y :: r, p, he, x, hx => by
    have h1 : legOk y h = true := by
      cases h0 : legOk y h
      · rw [legsErr_bad h0] at he; simp at he
      · rfl
    have h2 : legsErr h (some y.t) r = 0 := by
      cases p with
      | none => rwa [legsErr_first h1] at he
      | some q =>
        by_cases hq : y.f < q
        · rw [legsErr_form h1 hq] at he; simp at he
        · rwa [legsErr_next h1 hq] at he
    rcases List.mem_cons.1 hx with rfl | hx
    · exact h1
    · exact legs_of_err r _ h2 x hx
theorem edges_of_err {h n : Int} : ∀ (l : List EdgeD), edgesErr h n l = 0 → ∀ x, x ∈ l → edgeErr h n x = 0
  | [], _, x, hx => by simp at hx
  | y :: r, he, x, hx => by
    unfold edgesErr at he
    split at he
    · rename_i h1
      rcases List.mem_cons.1 hx with rfl | hx
      · exact h1
      · exact edges_of_err r he x hx
    · contradiction
theorem edgesErr_ok {h n : Int} : ∀ (l : List EdgeD), (∀ x, x ∈ l → edgeErr h n x = 0) → edgesErr h n l = 0
  | [], _ => rfl
  | y :: r, hh => by rw [edgesErr, if_pos (hh y (by simp))]; exact edgesErr_ok r fun x hx => hh x (by simp [hx])
theorem valid_of {g : GraphD} (h : graphErr g = 0) : Valid g := by
  unfold graphErr at h
  split at h
  · simp at h
  · rename_i h1
    split at h
    · simp at h
    · rename_i h2
      split at h
      · simp at h
      · rename_i h3
        simp [inB] at h1
        simp [lifeOk] at h3
        refine ⟨h1.1, h1.2, by omega, by omega, h3, fun x hx => ?_⟩
        have he := edges_of_err _ h x hx
        unfold edgeErr at he
        split at he
        · simp at he
        · rename_i k1
          split at he
          · simp at he
          · rename_i k2
            simp [inB] at k1
            refine ⟨by omega, by omega, by omega, by omega, by omega, fun l hl => ?_, he⟩
            have := legs_of_err _ _ he l hl
            simpa [legOk] using this
theorem valid_ok {g : GraphD} (h : Valid g) : graphErr g = 0 := by
  have h1 := h.h0; have h2 := h.h1; have h3 := h.nl; have h4 := h.ne
  rw [graphErr_edges (by simp [inB]; omega) (by omega) (by simp [lifeOk]; exact h.lives)]
  refine edgesErr_ok _ fun x hx => ?_
  have e := h.edges x hx
  have e1 := e.a0; have e2 := e.a1; have e3 := e.b0; have e4 := e.b1; have e5 := e.six
  unfold edgeErr
  rw [if_neg (by simp [inB]; omega), if_neg (by omega)]
  exact e.err

/-! ### one step -/
def aliveB (g : GraphD) (v t : Int) : Bool := match g.lives[v.toNat]? with
  | some l => decide (l.f ≤ t ∧ t < l.t)
  | none => false
theorem aliveB_of {g : GraphD} {v t : Int} {l : IvlD} (h : g.lives[v.toNat]? = some l) : aliveB g v t = decide (l.f ≤ t ∧ t < l.t) := by simp [aliveB, h]
def leaves (t : Int) : List LegD → Option LegD
  | [] => none
  | x :: l => if x.f ≤ t ∧ t < x.t then some x else leaves t l
theorem leaves_hit {t : Int} {x : LegD} {l : List LegD} (h : x.f ≤ t ∧ t < x.t) : leaves t (x :: l) = some x := by simp [leaves, h]
theorem leaves_miss {t : Int} {x : LegD} {l : List LegD} (h : ¬ (x.f ≤ t ∧ t < x.t)) : leaves t (x :: l) = leaves t l := by rw [leaves, if_neg h]
theorem leaves_mem {t : Int} {x : LegD} : ∀ {l : List LegD}, leaves t l = some x → x ∈ l ∧ x.f ≤ t ∧ t < x.t
  | [], h => by simp [leaves] at h
  | y :: l, h => by
    unfold leaves at h
    split at h
    · rename_i h1
      obtain rfl : y = x := by simpa using h
      exact ⟨by simp, h1⟩
    · have := leaves_mem h
      exact ⟨by simp [this.1], this.2⟩
/-- Who leaves along an edge at a time: by which leg, and when one comes. -/
def arrive (g : GraphD) (x : EdgeD) (t : Int) : Option (LegD × Int) := match leaves t x.legs with
  | some l => if aliveB g x.a t = true ∧ t + l.time < g.h ∧ aliveB g x.b (t + l.time) = true then some (l, t + l.time) else none
  | none => none
theorem arrive_no {g : GraphD} {x : EdgeD} {t : Int} (h : leaves t x.legs = none) : arrive g x t = none := by simp [arrive, h]
theorem arrive_of {g : GraphD} {x : EdgeD} {t : Int} {l : LegD} (h : leaves t x.legs = some l) :
    arrive g x t = if aliveB g x.a t = true ∧ t + l.time < g.h ∧ aliveB g x.b (t + l.time) = true then some (l, t + l.time) else none := by simp [arrive, h]
/-- What is wrong with a graph, a vertex and a time. -/
def placeErr (g : GraphD) (v t : Int) : Int :=
  if graphErr g = 0 then (if inB v 0 (g.lives.length - 1) = true then (if inB t 0 (g.h - 1) = true then 0 else 1) else 4) else graphErr g
theorem placeErr_g {g : GraphD} {v t : Int} (h : ¬ graphErr g = 0) : placeErr g v t = graphErr g := by unfold placeErr; rw [if_neg h]
theorem placeErr_v {g : GraphD} {v t : Int} (h : graphErr g = 0) (h2 : inB v 0 (g.lives.length - 1) = false) : placeErr g v t = 4 := by unfold placeErr; rw [if_pos h, if_neg (by simp [h2])]
theorem placeErr_t {g : GraphD} {v t : Int} (h : graphErr g = 0) (h2 : inB v 0 (g.lives.length - 1) = true) (h3 : inB t 0 (g.h - 1) = false) : placeErr g v t = 1 := by
  unfold placeErr; rw [if_pos h, if_pos h2, if_neg (by simp [h3])]
theorem placeErr_0 {g : GraphD} {v t : Int} (h : graphErr g = 0) (h2 : inB v 0 (g.lives.length - 1) = true) (h3 : inB t 0 (g.h - 1) = true) : placeErr g v t = 0 := by
  unfold placeErr; rw [if_pos h, if_pos h2, if_pos h3]
theorem place_of {g : GraphD} {v t : Int} (h : placeErr g v t = 0) : Valid g ∧ (0 ≤ v ∧ v < g.lives.length) ∧ 0 ≤ t ∧ t < g.h := by
  unfold placeErr at h
  split at h
  · rename_i h1
    split at h
    · rename_i h2
      split at h
      · rename_i h3
        simp [inB] at h2 h3
        exact ⟨valid_of h1, by omega, by omega⟩
      · simp at h
    · simp at h
  · contradiction
end Go.Proofs.YtdpibehpmghghaaDoor
/- Small walks and lemmas that several texts use. -/
namespace Go.Proofs.YtdpibehpmghghaaDoor
open Go.RowKit

theorem in_any (n lo hi : Int) (w : World) : Calls Tryd.prog 12 #[.int .i64 n, .int .i64 lo, .int .i64 hi] w fun e w' => e = .returned (.bool (inB n lo hi)) ∧ w = w' := by
  go_enter Tryd.func12, Tryd.ntmps12
  go_wp2
  all_goals go_ret
  all_goals exact ⟨ret_bool (by rw [Bool.eq_iff_iff]; simp [inB]; try omega), rfl⟩

theorem inB_true' {n lo hi : Int} (h : lo ≤ n ∧ n ≤ hi) : inB n lo hi = true := by simp [inB, h]
theorem inB_false' {n lo hi : Int} (h : ¬ (lo ≤ n ∧ n ≤ hi)) : inB n lo hi = false := by simp only [inB, decide_eq_false_iff_not]; exact h
theorem inB_iff {n lo hi : Int} : inB n lo hi = true ↔ lo ≤ n ∧ n ≤ hi := by simp [inB]
theorem inB_iff' {n lo hi : Int} : inB n lo hi = false ↔ ¬ (lo ≤ n ∧ n ≤ hi) := by simp only [inB, decide_eq_false_iff_not]
theorem legOk_true {l : LegD} {h : Int} (h1 : 0 ≤ l.f ∧ l.f < l.t ∧ l.t ≤ h ∧ 1 ≤ l.time ∧ l.time ≤ 50 ∧ 0 ≤ l.cost ∧ l.cost ≤ 1000) : legOk l h = true := by simp [legOk, h1]
theorem legOk_false {l : LegD} {h : Int} (h1 : ¬ (0 ≤ l.f ∧ l.f < l.t ∧ l.t ≤ h ∧ 1 ≤ l.time ∧ l.time ≤ 50 ∧ 0 ≤ l.cost ∧ l.cost ≤ 1000)) : legOk l h = false := by
  simp only [legOk, decide_eq_false_iff_not]; exact h1
theorem edgeErr_a {h n : Int} {x : EdgeD} (hh : inB x.a 0 (n - 1) = false) : edgeErr h n x = 4 := by unfold edgeErr; rw [if_pos (.inl hh)]
theorem edgeErr_b {h n : Int} {x : EdgeD} (hh : inB x.b 0 (n - 1) = false) : edgeErr h n x = 4 := by unfold edgeErr; rw [if_pos (.inr hh)]
theorem edgeErr_6 {h n : Int} {x : EdgeD} (h1 : inB x.a 0 (n - 1) = true) (h2 : inB x.b 0 (n - 1) = true) (h3 : 6 < x.legs.length) : edgeErr h n x = 2 := by
  unfold edgeErr; rw [if_neg (by simp [h1, h2]), if_pos h3]
theorem edgeErr_l {h n : Int} {x : EdgeD} (h1 : inB x.a 0 (n - 1) = true) (h2 : inB x.b 0 (n - 1) = true) (h3 : ¬ 6 < x.legs.length) : edgeErr h n x = legsErr h none x.legs := by
  unfold edgeErr; rw [if_neg (by simp [h1, h2]), if_neg h3]


end Go.Proofs.YtdpibehpmghghaaDoor
