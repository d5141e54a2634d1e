/- Several texts in one: KeySpec, WarpSpec, WarpKey. -/
import Derived.Test.YtdpibehpmghghaaBd8d00ac2edb
import Derived.Test.YtdpibehpmghghaaBdd408b50993
import Derived.Test.YtdpibehpmghghaaBd337a1d090e
/- Values of any type over times, as lists of pieces; no program in sight (XMapSpec turned to any type). -/
namespace Go.Proofs.Ytdpibehpmghghaa

structure PieceG (α : Type) where
  f : Int
  t : Int
  v : α
/-- What is told at a time. -/
def atG {α : Type} : List (PieceG α) → Int → Option α
  | [], _ => none
  | x :: l, t => if x.f ≤ t ∧ t < x.t then some x.v else atG l t
def MapG {α : Type} (l : List (PieceG α)) : Prop := l.Pairwise (fun x y => x.t ≤ y.f ∧ (x.t = y.f → x.v ≠ y.v)) ∧ ∀ x, x ∈ l → x.f < x.t
section
variable {α : Type} {l r out : List (PieceG α)} {x y z : PieceG α} {t : Int} {v : α}
theorem atG_nil : atG ([] : List (PieceG α)) t = none := rfl
theorem atG_hit (h : x.f ≤ t ∧ t < x.t) : atG (x :: l) t = some x.v := by rw [atG, if_pos h]
theorem atG_miss (h : ¬ (x.f ≤ t ∧ t < x.t)) : atG (x :: l) t = atG l t := by rw [atG, if_neg h]
theorem atG_some : ∀ {l : List (PieceG α)}, atG l t = some v → ∃ x, x ∈ l ∧ x.f ≤ t ∧ t < x.t ∧ x.v = v
  | [], h => by simp [atG] at h
  | x :: l, h => by
    by_cases hx : x.f ≤ t ∧ t < x.t
    · rw [atG_hit hx] at h
      exact ⟨x, by simp, hx.1, hx.2, by simpa using h⟩
    · rw [atG_miss hx] at h
      obtain ⟨y, hy, h1⟩ := atG_some h
      exact ⟨y, List.mem_cons_of_mem _ hy, h1⟩
theorem atG_none : ∀ {l : List (PieceG α)}, (∀ x, x ∈ l → ¬ (x.f ≤ t ∧ t < x.t)) → atG l t = none
  | [], _ => rfl
  | x :: l, h => by rw [atG_miss (h x (by simp)), atG_none fun y hy => h y (List.mem_cons_of_mem _ hy)]
theorem atG_append : ∀ {l r : List (PieceG α)}, atG (l ++ r) t = (atG l t).or (atG r t)
  | [], r => by simp [atG]
  | x :: l, r => by
    rw [List.cons_append]
    by_cases hx : x.f ≤ t ∧ t < x.t
    · rw [atG_hit hx, atG_hit hx]; rfl
    · rw [atG_miss hx, atG_miss hx, atG_append]
theorem MapG.nil : MapG ([] : List (PieceG α)) := ⟨.nil, fun x h => by simp at h⟩
theorem MapG.tail (h : MapG (x :: l)) : MapG l := ⟨(List.pairwise_cons.1 h.1).2, fun y hy => h.2 y (List.mem_cons_of_mem _ hy)⟩
theorem MapG.past (h : MapG (x :: l)) (ht : atG l t = some v) : x.t ≤ t ∧ (t = x.t → v ≠ x.v) := by
  obtain ⟨y, hy, h1, _, h2⟩ := atG_some ht
  have h3 := (List.pairwise_cons.1 h.1).1 y hy
  refine ⟨by omega, fun e => ?_⟩
  rw [← h2]
  exact (h3.2 (by omega)).symm
theorem MapG.low (h : MapG (x :: l)) (ht : atG (x :: l) t = some v) : x.f ≤ t := by
  by_cases hx : x.f ≤ t ∧ t < x.t
  · exact hx.1
  · rw [atG_miss hx] at ht
    have := (h.past ht).1
    have := h.2 x (by simp)
    omega
theorem MapG.head (h : MapG (x :: l)) : atG (x :: l) x.f = some x.v := atG_hit ⟨Int.le_refl _, h.2 x (by simp)⟩
/-- What a map is written as, is told by what it tells. -/
theorem mapG_unique : ∀ {l r : List (PieceG α)}, MapG l → MapG r → (∀ t, atG l t = atG r t) → l = r
  | [], [], _, _, _ => rfl
  | [], y :: r, _, hr, h => by
    have h1 := h y.f
    rw [hr.head, atG_nil] at h1
    simp at h1
  | x :: l, [], hl, _, h => by
    have h1 := h x.f
    rw [hl.head, atG_nil] at h1
    simp at h1
  | x :: l, y :: r, hl, hr, h => by
    have hx := hl.2 x (by simp)
    have hy := hr.2 y (by simp)
    have e1 : x.f = y.f := by
      have h1 := hr.low (t := x.f) (by rw [← h]; exact hl.head)
      have h2 := hl.low (t := y.f) (by rw [h]; exact hr.head)
      omega
    have ev : x.v = y.v := by
      have h1 := h x.f
      rw [hl.head, e1, hr.head] at h1
      simpa using h1
    have e2 : x.t = y.t := by
      rcases Int.lt_trichotomy x.t y.t with h1 | h1 | h1
      · exfalso
        have h2 := h x.t
        rw [atG_hit (x := y) ⟨by omega, h1⟩, atG_miss (by omega)] at h2
        exact (hl.past h2).2 rfl ev.symm
      · exact h1
      · exfalso
        have h2 := (h y.t).symm
        rw [atG_hit (x := x) ⟨by omega, h1⟩, atG_miss (by omega)] at h2
        exact (hr.past h2).2 rfl ev
    have e : x = y := by
      cases x; cases y
      simp only at e1 e2 ev
      subst e1 e2 ev
      rfl
    subst e
    congr 1
    refine mapG_unique hl.tail hr.tail fun t => ?_
    have h1 := h t
    by_cases ht : x.f ≤ t ∧ t < x.t
    · have k1 : atG l t = none := by
        cases hc : atG l t with
        | none => rfl
        | some v => have := (hl.past hc).1; omega
      have k2 : atG r t = none := by
        cases hc : atG r t with
        | none => rfl
        | some v => have := (hr.past hc).1; omega
      rw [k1, k2]
    · rwa [atG_miss ht, atG_miss ht] at h1
theorem MapG.init (h : MapG (out ++ [z])) : MapG out := ⟨(List.pairwise_append.1 h.1).1, fun y hy => h.2 y (List.mem_append_left _ hy)⟩
theorem MapG.snoc_lt (h : MapG (out ++ [z])) {y : PieceG α} (hy : y ∈ out) : y.t ≤ z.f ∧ (y.t = z.f → y.v ≠ z.v) := (List.pairwise_append.1 h.1).2.2 y hy z (by simp)
theorem MapG.snoc (h : MapG out) (hx : x.f < x.t) (hl : ∀ y, y ∈ out → y.t ≤ x.f ∧ (y.t = x.f → y.v ≠ x.v)) : MapG (out ++ [x]) := by
  refine ⟨List.pairwise_append.2 ⟨h.1, by simp, fun y hy u hu => ?_⟩, fun y hy => ?_⟩
  · obtain rfl : u = x := by simpa using hu
    exact hl y hy
  · rcases List.mem_append.1 hy with hy | hy
    · exact h.2 y hy
    · obtain rfl : y = x := by simpa using hy
      exact hx
theorem MapG.grow (h : MapG (out ++ [z])) {n : Int} (hn : z.t ≤ n) : MapG (out ++ [⟨z.f, n, z.v⟩]) :=
  h.init.snoc (by have := h.2 z (by simp); simp only; omega) fun _ hy => h.snoc_lt hy
theorem MapG.rise (h : MapG (out ++ [z])) : ∀ y, y ∈ out ++ [z] → y.t ≤ z.t := fun y hy => by
  rcases List.mem_append.1 hy with hy | hy
  · have := h.snoc_lt hy; have := h.2 z (by simp); omega
  · obtain rfl : y = z := by simpa using hy
    exact Int.le_refl _
/-- Who is told ahead of the last one ends ahead of it. -/
theorem MapG.ahead (h : MapG (out ++ [z])) {y : PieceG α} (hy : y ∈ out) : y.t < z.t := by
  have := h.snoc_lt hy; have := h.2 z (by simp); omega
end
/-! ### a map, written between one bound and the next -/
structure ToldG {α : Type} (fn : Int → Option α) (b a : Int) (out : List (PieceG α)) : Prop where
  map : MapG out
  tells : ∀ t, atG out t = if b ≤ t ∧ t < a then fn t else none
  low : ∀ y, y ∈ out → y.t ≤ a
section
variable {α : Type} {fn : Int → Option α} {b a c : Int} {v : α} {out o : List (PieceG α)} {z : PieceG α}
theorem ToldG.start : ToldG fn a a [] := ⟨.nil, fun t => by rw [atG_nil, if_neg (by omega)], fun y h => by simp at h⟩
theorem ToldG.skip (h : ToldG fn b a out) (hac : a < c) (hfn : ∀ t, a ≤ t → t < c → fn t = fn a) (hn : fn a = none) : ToldG fn b c out := by
  refine ⟨h.map, fun t => ?_, fun y hy => by have := h.low y hy; omega⟩
  rw [h.tells t]
  by_cases h1 : b ≤ t ∧ t < a
  · rw [if_pos h1, if_pos (by omega)]
  · rw [if_neg h1]
    split
    · rw [hfn t (by omega) (by omega), hn]
    · rfl
theorem ToldG.grow (h : ToldG fn b a (o ++ [z])) (_ : b ≤ a) (hac : a < c) (hfn : ∀ t, a ≤ t → t < c → fn t = fn a) (hv : fn a = some z.v) (hz : z.t = a) : ToldG fn b c (o ++ [⟨z.f, c, z.v⟩]) := by
  have hzl := h.map.2 z (by simp)
  have hzf : b ≤ z.f := by
    have h1 := h.tells z.f
    have h2 : atG (o ++ [z]) z.f = some z.v := by
      rw [atG_append, atG_none fun y hy => by have := h.map.snoc_lt hy; omega]
      exact atG_hit ⟨Int.le_refl _, hzl⟩
    rw [h2] at h1
    refine Classical.byContradiction fun hn => ?_
    rw [if_neg (by omega)] at h1
    simp at h1
  refine ⟨h.map.grow (by omega), fun t => ?_, fun y hy => ?_⟩
  · have h1 := h.tells t
    rw [atG_append] at h1 ⊢
    cases hc : atG o t with
    | some u =>
      rw [hc] at h1
      obtain ⟨q, hq, k1, k2, _⟩ := atG_some hc
      have := h.low q (List.mem_append_left _ hq)
      simp only [Option.or] at h1 ⊢
      rw [h1]
      by_cases hb : b ≤ t ∧ t < a
      · rw [if_pos hb, if_pos (by omega)]
      · rw [if_neg hb] at h1; simp at h1
    | none =>
      rw [hc] at h1
      simp only [Option.none_or] at h1 ⊢
      by_cases ht : z.f ≤ t ∧ t < c
      · rw [atG_hit (by simpa using ht), if_pos (by omega)]
        by_cases hta : t < a
        · rw [atG_hit ⟨ht.1, by omega⟩, if_pos (by omega)] at h1
          simp only
          exact h1
        · rw [hfn t (by omega) ht.2, hv]
      · rw [atG_miss (by simpa using ht), atG_nil]
        rw [atG_miss (by omega), atG_nil] at h1
        by_cases hb : b ≤ t ∧ t < c
        · rw [if_pos hb]
          rw [if_pos (by omega)] at h1
          exact h1
        · rw [if_neg hb]
  · rcases List.mem_append.1 hy with hy | hy
    · have := h.low y (List.mem_append_left _ hy); omega
    · obtain rfl : y = _ := by simpa using hy
      exact Int.le_refl _
theorem ToldG.next (h : ToldG fn b a out) (hba : b ≤ a) (hac : a < c) (hfn : ∀ t, a ≤ t → t < c → fn t = fn a) (hv : fn a = some v) (hz : ∀ y, y ∈ out → y.t = a → y.v ≠ v) : ToldG fn b c (out ++ [⟨a, c, v⟩]) := by
  refine ⟨h.map.snoc hac fun y hy => ⟨h.low y hy, fun e => hz y hy e⟩, fun t => ?_, fun y hy => ?_⟩
  · have h1 := h.tells t
    rw [atG_append, h1]
    by_cases hb : b ≤ t ∧ t < a
    · rw [if_pos hb, if_pos (by omega), atG_miss (by simp only; omega), atG_nil]
      simp
    · rw [if_neg hb]
      simp only [Option.none_or]
      by_cases hc : b ≤ t ∧ t < c
      · rw [if_pos hc, atG_hit (by simp only; omega), hfn t (by omega) (by omega), hv]
      · rw [if_neg hc, atG_miss (by simp only; omega), atG_nil]
  · rcases List.mem_append.1 hy with hy | hy
    · have := h.low y hy; omega
    · obtain rfl : y = _ := by simpa using hy
      exact Int.le_refl _
end
end Go.Proofs.Ytdpibehpmghghaa
/- Messages against states: what is told of them; no program in sight. -/
namespace Go.Proofs.Ytdpibehpmghghaa

structure CellD where
  f : Int
  t : Int
  s : Int
  has : Bool
  v : Int
deriving DecidableEq
/-- Is a message there at a time? -/
def inP (x : PieceD) (t : Int) : Bool := decide (x.f ≤ t ∧ t < x.t)
/-- Which of the first messages are there at a time. -/
def whichK (l : List PieceD) (t : Int) : Nat → List Int
  | 0 => []
  | k + 1 => whichK l t k ++ (match l[k]? with | some x => if inP x t then [(k : Int)] else [] | none => [])
def whichL (l : List PieceD) (t : Int) : List Int := whichK l t l.length
def vAt (l : List PieceD) (i : Int) : Int := ((l[i.toNat]?).map PieceD.v).getD 0
def valF (l : List PieceD) (k : Int) : Int → List Int → Int
  | v, [] => v
  | v, i :: is => valF l k (both3 k v (vAt l i)) is
/-- Their values put together. -/
def valOf (l : List PieceD) (k : Int) : List Int → Int
  | [] => 0
  | i :: is => valF l k (vAt l i) is
abbrev Key := List Int × Option Int
/-- What is there at a time: messages and a state; none: no message. -/
def keyF (state l : List PieceD) (t : Int) : Option Key := if whichL l t = [] then none else some (whichL l t, atM state t)
def toCell (l : List PieceD) (k : Int) (p : PieceG Key) : CellD := ⟨p.f, p.t, p.v.2.getD 0, p.v.2.isSome, valOf l k p.v.1⟩
/-- What is wrong with messages. -/
def MsgOk (l : List PieceD) : Prop := ∀ x, x ∈ l → (nearB x.f = true ∧ nearB x.t = true ∧ nearB x.v = true) ∧ x.f < x.t
open Classical in
noncomputable def msgErr (l : List PieceD) : Int := if 200 < l.length then 2 else if MsgOk l then 0 else 5
section
variable {l state : List PieceD} {t k v : Int} {n : Nat} {x : PieceD} {D : List Int}
theorem msgErr_large (h : 200 < l.length) : msgErr l = 2 := if_pos h
theorem msgErr_ok (h : ¬ 200 < l.length) (h2 : MsgOk l) : msgErr l = 0 := by unfold msgErr; rw [if_neg h, if_pos h2]
theorem msgErr_bad (h : ¬ 200 < l.length) (h2 : ¬ MsgOk l) : msgErr l = 5 := by unfold msgErr; rw [if_neg h, if_neg h2]
theorem msgErr_zero (h : msgErr l = 0) : l.length ≤ 200 ∧ MsgOk l := by
  by_cases h1 : 200 < l.length
  · rw [msgErr_large h1] at h; simp at h
  · by_cases h2 : MsgOk l
    · exact ⟨by omega, h2⟩
    · rw [msgErr_bad h1 h2] at h; simp at h
theorem whichK_succ (hx : l[n]? = some x) : whichK l t (n + 1) = whichK l t n ++ if inP x t then [(n : Int)] else [] := by
  show whichK l t n ++ (match l[n]? with | some x => if inP x t then [(n : Int)] else [] | none => []) = _
  rw [hx]
theorem mem_whichK : ∀ {n : Nat} {i : Int}, i ∈ whichK l t n → 0 ≤ i ∧ i < n ∧ ∃ x, l[i.toNat]? = some x ∧ inP x t = true
  | 0, i, h => by simp [whichK] at h
  | n + 1, i, h => by
    rcases List.mem_append.1 h with h | h
    · obtain ⟨h1, h2, h3⟩ := mem_whichK h
      exact ⟨h1, by omega, h3⟩
    · cases hx : l[n]? with
      | none => rw [hx] at h; simp at h
      | some x =>
        rw [hx] at h
        by_cases hp : inP x t = true
        · simp only [hp, if_true, List.mem_cons, List.not_mem_nil, or_false] at h
          subst h
          exact ⟨by omega, by omega, x, by simpa using hx, hp⟩
        · simp [hp] at h
theorem which_mem : ∀ {n : Nat} {i : Nat}, i < n → l[i]? = some x → inP x t = true → (i : Int) ∈ whichK l t n
  | n + 1, i, h, hx, hp => by
    by_cases hi : i = n
    · subst hi
      rw [whichK_succ hx, hp]
      simp
    · exact List.mem_append_left _ (which_mem (by omega) hx hp)
theorem which_has : whichL l t ≠ [] ↔ ∃ x, x ∈ l ∧ inP x t = true := by
  constructor
  · intro h
    obtain ⟨i, hi⟩ := List.exists_mem_of_ne_nil _ h
    obtain ⟨_, _, x, hx, hp⟩ := mem_whichK hi
    exact ⟨x, List.mem_of_getElem? hx, hp⟩
  · rintro ⟨x, hx, hp⟩ h
    obtain ⟨i, hi⟩ := List.getElem?_of_mem hx
    have := which_mem (n := l.length) (lt_of_get hi) hi hp
    unfold whichL at h
    rw [h] at this
    simp at this
theorem which_len : (whichK l t n).length ≤ n := by
  induction n with
  | zero => simp [whichK]
  | succ n ih =>
    show (whichK l t n ++ _).length ≤ _
    rw [List.length_append]
    cases l[n]? with
    | none => simp; omega
    | some x =>
      simp only
      split <;> simp <;> omega
theorem inP_has (x : PieceD) (t : Int) : hasB [⟨x.f, x.t⟩] t = inP x t := by
  rw [Bool.eq_iff_iff, has_cons]
  simp [inP, hasB]
theorem which_turns (hD : D.Pairwise (· < ·)) (hl : ∀ x, x ∈ l → x.f ∈ D ∧ x.t ∈ D) : TurnsAt D [] (whichL l) := by
  refine ⟨fun i a c ha hc t h1 h2 => ?_, fun t ht => ?_⟩
  · have key : ∀ n, whichK l t n = whichK l a n := fun n => by
      induction n with
      | zero => rfl
      | succ n ih =>
        show whichK l t n ++ _ = whichK l a n ++ _
        rw [ih]
        cases hx : l[n]? with
        | none => rfl
        | some x =>
          have hm := hl x (List.mem_of_getElem? hx)
          have := (hasB_turns (l := [⟨x.f, x.t⟩]) hD fun y hy => by
            obtain rfl : y = _ := by simpa using hy
            exact hm).const i a c ha hc t h1 h2
          rw [inP_has, inP_has] at this
          simp only [this]
    exact key _
  · obtain ⟨x, hx, hp⟩ := which_has.1 ht
    have h3 : x.f ≤ t ∧ t < x.t := by simpa [inP] using hp
    exact ⟨x.f, x.t, (hl x hx).1, (hl x hx).2, h3.1, h3.2⟩
theorem key_turns (hD : D.Pairwise (· < ·)) (hl : ∀ x, x ∈ l → x.f ∈ D ∧ x.t ∈ D) (hs : ∀ x, x ∈ state → x.f ∈ D ∧ x.t ∈ D) : TurnsAt D none (keyF state l) :=
  (which_turns hD hl).map2 (fun w s => if w = [] then none else some (w, s)) (if_pos rfl) (atM_turns hD hs)
/-- How far values put together may be. -/
theorem both_bound {k a b A : Int} (hk : 1 ≤ k ∧ k ≤ 3) (ha : -A ≤ a ∧ a ≤ A) (hA : 0 ≤ A) (hb : nearB b = true) : -(A + 1000000000) ≤ both3 k a b ∧ both3 k a b ≤ A + 1000000000 := by
  have := near_iff.1 hb
  unfold both3
  split
  · omega
  · split <;> omega
end
end Go.Proofs.Ytdpibehpmghghaa
/- What has been told of messages and states up to a bound; no program in sight. -/
namespace Go.Proofs.Ytdpibehpmghghaa

theorem MapG.mem_at {α : Type} : ∀ {l : List (PieceG α)}, MapG l → ∀ {x : PieceG α}, x ∈ l → ∀ {t : Int}, x.f ≤ t → t < x.t → atG l t = some x.v
  | [], _, _, hx, _, _, _ => by simp at hx
  | y :: l, h, x, hx, t, h1, h2 => by
    rcases List.mem_cons.1 hx with rfl | hx
    · exact atG_hit ⟨h1, h2⟩
    · have h3 := (List.pairwise_cons.1 h.1).1 x hx
      rw [atG_miss (by omega)]
      exact h.tail.mem_at hx h1 h2
def KeyK (fn : Int → Option Key) (D : List Int) (i : Nat) (out : List (PieceG Key)) : Prop := (∀ b a, D[0]? = some b → D[i]? = some a → ToldG fn b a out) ∧ out.length ≤ i ∧ (∀ x, x ∈ out → I64 x.f ∧ I64 x.t)
section
variable {fn : Int → Option Key} {D : List Int} {i : Nat} {out o : List (PieceG Key)} {a c p : Int} {v : Key} {z : PieceG Key}
theorem head_of (ha : D[i]? = some a) : ∃ b, D[0]? = some b := get_lt (by have := lt_of_get ha; omega)
theorem head_low (hD : D.Pairwise (· < ·)) {b : Int} (hb : D[0]? = some b) (ha : D[i]? = some a) : b ≤ a := rises_first hD hb (List.mem_of_getElem? ha)
theorem KeyK.start : KeyK fn D 0 [] :=
  ⟨fun b a hb ha => by
    obtain rfl : b = a := by rw [hb] at ha; simpa using ha
    exact ToldG.start, Nat.le_refl _, fun x h => by simp at h⟩
theorem KeyK.skip (h : KeyK fn D i out) (hD : D.Pairwise (· < ·)) (hT : TurnsAt D none fn) (ha : D[i]? = some a) (hc : D[i + 1]? = some c) (hn : fn a = none) : KeyK fn D (i + 1) out :=
  ⟨fun b c' hb hc' => by
    obtain rfl : c = c' := by rw [hc] at hc'; simpa using hc'
    exact (h.1 b a hb ha).skip (rises_lt hD ha hc) (hT.const i a c ha hc) hn, by have := h.2.1; omega, h.2.2⟩
theorem KeyK.grow (h : KeyK fn D i (o ++ [z])) (hD : D.Pairwise (· < ·)) (hT : TurnsAt D none fn) (ha : D[i]? = some a) (hc : D[i + 1]? = some c) (hn : fn a = some z.v) (hz : z.t = a) (hi : I64 c) : KeyK fn D (i + 1) (o ++ [⟨z.f, c, z.v⟩]) :=
  ⟨fun b c' hb hc' => by
    obtain rfl : c = c' := by rw [hc] at hc'; simpa using hc'
    exact (h.1 b a hb ha).grow (head_low hD hb ha) (rises_lt hD ha hc) (hT.const i a c ha hc) hn hz, by have := h.2.1; simp at this ⊢; omega, fun x hx => by
    rcases List.mem_append.1 hx with hx | hx
    · exact h.2.2 x (List.mem_append_left _ hx)
    · obtain rfl : x = _ := by simpa using hx
      exact ⟨(h.2.2 z (by simp)).1, hi⟩⟩
theorem KeyK.next (h : KeyK fn D i out) (hD : D.Pairwise (· < ·)) (hT : TurnsAt D none fn) (ha : D[i]? = some a) (hc : D[i + 1]? = some c) (hn : fn a = some v) (hz : ∀ y, y ∈ out → y.t = a → y.v ≠ v) (hia : I64 a) (hic : I64 c) : KeyK fn D (i + 1) (out ++ [⟨a, c, v⟩]) :=
  ⟨fun b c' hb hc' => by
    obtain rfl : c = c' := by rw [hc] at hc'; simpa using hc'
    exact (h.1 b a hb ha).next (head_low hD hb ha) (rises_lt hD ha hc) (hT.const i a c ha hc) hn hz, by have := h.2.1; simp; omega, fun x hx => by
    rcases List.mem_append.1 hx with hx | hx
    · exact h.2.2 x hx
    · obtain rfl : x = _ := by simpa using hx
      exact ⟨hia, hic⟩⟩
/-- Behind a stretch with something the last piece ends; behind one with nothing none ends. -/
theorem KeyK.prev (h : KeyK fn D (i + 1) out) (hD : D.Pairwise (· < ·)) (hT : TurnsAt D none fn) (hp : D[i]? = some p) (ha : D[i + 1]? = some a) : (fn p = none → ∀ y, y ∈ out → y.t ≠ a) ∧ ∀ v, fn p = some v → ∃ o z, out = o ++ [z] ∧ z.t = a ∧ z.v = v := by
  obtain ⟨b, hb⟩ := head_of hp
  have h1 := h.1 b a hb ha
  have hbp := head_low hD hb hp
  have hpa := rises_lt hD hp ha
  have e : atG out (a - 1) = fn p := by
    rw [h1.tells, if_pos (by omega)]
    exact hT.const i p a hp ha (a - 1) (by omega) (by omega)
  refine ⟨fun hn y hy hya => ?_, fun v hv => ?_⟩
  · have := h1.map.2 y hy
    rw [h1.map.mem_at hy (by omega) (by omega), hn] at e
    simp at e
  · rw [hv] at e
    obtain ⟨y, hy, k1, k2, k3⟩ := atG_some e
    have hlow := h1.low y hy
    rcases List.eq_nil_or_concat out with rfl | ⟨o, z, rfl⟩
    · simp at hy
    · rw [List.concat_eq_append] at *
      refine ⟨o, z, rfl, ?_⟩
      have hzl := h1.low z (by simp)
      rcases List.mem_append.1 hy with hy | hy
      · have := h1.map.ahead hy
        omega
      · obtain rfl : y = z := by simpa using hy
        exact ⟨by omega, k3⟩
theorem KeyK.fin (h : KeyK fn D i out) (hD : D.Pairwise (· < ·)) (hT : TurnsAt D none fn) (hi : D.length ≤ i + 1) (h0 : i < D.length ∨ (D = [] ∧ out = [])) : MapG out ∧ ∀ t, atG out t = fn t := by
  rcases h0 with h0 | ⟨rfl, rfl⟩
  · obtain ⟨a, ha⟩ := get_lt h0
    obtain ⟨b, hb⟩ := head_of ha
    have h1 := h.1 b a hb ha
    refine ⟨h1.map, fun t => ?_⟩
    rw [h1.tells t]
    split
    · rfl
    · rename_i hn
      refine (Classical.byContradiction fun k => ?_ : none = fn t)
      obtain ⟨p, q, hp, hq, k1, k2⟩ := hT.inside t (fun e => k e.symm)
      have := rises_first hD hb hp
      have := rises_last hD ha (by omega) hq
      exact hn ⟨by omega, by omega⟩
  · exact ⟨.nil, fun t => (hT.empty t).symm⟩
end
/-- What was there at the stretch ahead. -/
def LastIs (state l : List PieceD) (D : List Int) (i : Nat) (lw : List Int) (o : Option Int) : Prop := (i = 0 → lw = []) ∧ ∀ j p, i = j + 1 → D[j]? = some p → lw = whichL l p ∧ o = atM state p
section
variable {state l : List PieceD} {D : List Int} {i : Nat} {out : List (PieceG Key)} {a c : Int} {lw : List Int} {o : Option Int}
theorem LastIs.start : LastIs state l D 0 [] none := ⟨fun _ => rfl, fun j p h => by omega⟩
theorem LastIs.next (ha : D[i]? = some a) : LastIs state l D (i + 1) (whichL l a) (atM state a) := ⟨fun h => by omega, fun j p hj hp => by
  obtain rfl : i = j := by omega
  rw [ha] at hp
  obtain rfl : a = p := by simpa using hp
  exact ⟨rfl, rfl⟩⟩
theorem step_skip (h : KeyK (keyF state l) D i out) (hD : D.Pairwise (· < ·)) (hT : TurnsAt D none (keyF state l)) (ha : D[i]? = some a) (hc : D[i + 1]? = some c) (hw : whichL l a = []) : KeyK (keyF state l) D (i + 1) out :=
  h.skip hD hT ha hc (by unfold keyF; rw [if_pos hw])
theorem step_grow (h : KeyK (keyF state l) D i out) (hD : D.Pairwise (· < ·)) (hT : TurnsAt D none (keyF state l)) (ha : D[i]? = some a) (hc : D[i + 1]? = some c) (hi : I64 c) (hL : LastIs state l D i lw o) (h0 : lw ≠ []) (h1 : lw = whichL l a) (h2 : o = atM state a) :
    ∃ q z, out = q ++ [z] ∧ z.t = a ∧ z.v = (whichL l a, atM state a) ∧ KeyK (keyF state l) D (i + 1) (q ++ [⟨z.f, c, z.v⟩]) := by
  match i, h, ha, hc, hL with
  | 0, _, _, _, hL => exact absurd (hL.1 rfl) h0
  | j + 1, h, ha, hc, hL =>
    obtain ⟨p, hp⟩ := get_lt (show j < D.length by have := lt_of_get ha; omega)
    obtain ⟨k1, k2⟩ := hL.2 j p rfl hp
    have hk : keyF state l p = some (lw, o) := by unfold keyF; rw [← k1, ← k2, if_neg h0]
    obtain ⟨q, z, rfl, hz, hv⟩ := (h.prev hD hT hp ha).2 _ hk
    have hv2 : z.v = (whichL l a, atM state a) := by rw [hv, h1, h2]
    exact ⟨q, z, rfl, hz, hv2, h.grow hD hT ha hc (by unfold keyF; rw [if_neg (by rw [← h1]; exact h0), hv2]) hz hi⟩
theorem step_next (h : KeyK (keyF state l) D i out) (hD : D.Pairwise (· < ·)) (hT : TurnsAt D none (keyF state l)) (ha : D[i]? = some a) (hc : D[i + 1]? = some c) (hia : I64 a) (hic : I64 c) (hL : LastIs state l D i lw o) (hw : whichL l a ≠ []) (hne : lw = [] ∨ ¬ (lw = whichL l a ∧ o = atM state a)) :
    KeyK (keyF state l) D (i + 1) (out ++ [⟨a, c, (whichL l a, atM state a)⟩]) := by
  refine h.next hD hT ha hc (by unfold keyF; rw [if_neg hw]) (fun y hy hya hyv => ?_) hia hic
  match i, h, ha, hL with
  | 0, h, _, _ => have := h.2.1; simp at this; rw [this] at hy; simp at hy
  | j + 1, h, ha, hL =>
    obtain ⟨p, hp⟩ := get_lt (show j < D.length by have := lt_of_get ha; omega)
    obtain ⟨k1, k2⟩ := hL.2 j p rfl hp
    have hpr := h.prev hD hT hp ha
    by_cases h0 : lw = []
    · exact hpr.1 (by unfold keyF; rw [← k1, if_pos h0]) y hy hya
    · have hk : keyF state l p = some (lw, o) := by unfold keyF; rw [← k1, ← k2, if_neg h0]
      obtain ⟨q, z, rfl, hz, hv⟩ := hpr.2 _ hk
      obtain ⟨b, hb⟩ := head_of ha
      rcases List.mem_append.1 hy with hy | hy
      · have := (h.1 b a hb ha).map.ahead hy
        omega
      · obtain rfl : y = z := by simpa using hy
        rw [hv] at hyv
        rcases hne with hne | hne
        · exact h0 hne
        · exact hne (by simpa using hyv)
end
end Go.Proofs.Ytdpibehpmghghaa
