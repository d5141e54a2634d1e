/- Several texts in one: KeySpec, WarpSpec, IvlCheck, MapCheck. -/
import Derived.Test.YtdpibehpmghghaaDoorBdf0a653a3c9
import Derived.Test.YtdpibehpmghghaaDoorBd6508cabd72
import Derived.Test.YtdpibehpmghghaaDoorBd3ad2f3bfb1
import Derived.Test.YtdpibehpmghghaaDoorBd116ff3bb84
/- Values of any type over times, as lists of pieces; no program in sight (XMapSpec turned to any type). -/
namespace Go.Proofs.YtdpibehpmghghaaDoor

structure PieceG (α : Type) where
  f : Int
  t : Int
  v : α
/-- What is told at a time. -/
def atG {α : Type} : List (PieceG α) → Int → Option α
  | [], _ => none
  | x :: l, t => if x.f ≤ t ∧ t < x.t then some x.v else atG l t
def MapG {α : Type} (l : List (PieceG α)) : Prop := l.Pairwise (fun x y => x.t ≤ y.f ∧ (x.t = y.f → x.v ≠ y.v)) ∧ ∀ x, x ∈ l → x.f < x.t
section
variable {α : Type} {l r out : List (PieceG α)} {x y z : PieceG α} {t : Int} {v : α}
theorem atG_nil : atG ([] : List (PieceG α)) t = none := rfl
theorem atG_hit (h : x.f ≤ t ∧ t < x.t) : atG (x :: l) t = some x.v := by rw [atG, if_pos h]
theorem atG_miss (h : ¬ (x.f ≤ t ∧ t < x.t)) : atG (x :: l) t = atG l t := by rw [atG, if_neg h]
theorem atG_some : ∀ {l : List (PieceG α)}, atG l t = some v → ∃ x, x ∈ l ∧ x.f ≤ t ∧ t < x.t ∧ x.v = v
  | [], h => by simp [atG] at h
  | x :: l, h => by
    by_cases hx : x.f ≤ t ∧ t < x.t
    · rw [atG_hit hx] at h
      exact ⟨x, by simp, hx.1, hx.2, by simpa using h⟩
    · rw [atG_miss hx] at h
      obtain ⟨y, hy, h1⟩ := atG_some h
      exact ⟨y, List.mem_cons_of_mem _ hy, h1⟩
theorem atG_none : ∀ {l : List (PieceG α)}, (∀ x, x ∈ l → ¬ (x.f ≤ t ∧ t < x.t)) → atG l t = none
  | [], _ => rfl
  | x :: l, h => by rw [atG_miss (h x (by simp)), atG_none fun y hy => h y (List.mem_cons_of_mem _ hy)]
theorem atG_append : ∀ {l r : List (PieceG α)}, atG (l ++ r) t = (atG l t).or (atG r t)
  | [], r => by simp [atG]
  | x :: l, r => by
    rw [List.cons_append]
    by_cases hx : x.f ≤ t ∧ t < x.t
    · rw [atG_hit hx, atG_hit hx]; rfl
    · rw [atG_miss hx, atG_miss hx, atG_append]
theorem MapG.nil : MapG ([] : List (PieceG α)) := ⟨.nil, fun x h => by simp at h⟩
theorem MapG.tail (h : MapG (x :: l)) : MapG l := ⟨(List.pairwise_cons.1 h.1).2, fun y hy => h.2 y (List.mem_cons_of_mem _ hy)⟩
theorem MapG.past (h : MapG (x :: l)) (ht : atG l t = some v) : x.t ≤ t ∧ (t = x.t → v ≠ x.v) := by
  obtain ⟨y, hy, h1, _, h2⟩ := atG_some ht
  have h3 := (List.pairwise_cons.1 h.1).1 y hy
  refine ⟨by omega, fun e => ?_⟩
  rw [← h2]
  exact (h3.2 (by omega)).symm
theorem MapG.low (h : MapG (x :: l)) (ht : atG (x :: l) t = some v) : x.f ≤ t := by
  by_cases hx : x.f ≤ t ∧ t < x.t
  · exact hx.1
  · rw [atG_miss hx] at ht
    have := (h.past ht).1
    have := h.2 x (by simp)
    omega
theorem MapG.head (h : MapG (x :: l)) : atG (x :: l) x.f = some x.v := atG_hit ⟨Int.le_refl _, h.2 x (by simp)⟩
/-- What a map is written as, is told by what it tells. -/
theorem mapG_unique : ∀ {l r : List (PieceG α)}, MapG l → MapG r → (∀ t, atG l t = atG r t) → l = r
  | [], [], _, _, _ => rfl
  | [], y :: r, _, hr, h => by
    have h1 := h y.f
    rw [hr.head, atG_nil] at h1
    simp at h1
  | x :: l, [], hl, _, h => by
    have h1 := h x.f
    rw [hl.head, atG_nil] at h1
    simp at h1
  | x :: l, y :: r, hl, hr, h => by
    have hx := hl.2 x (by simp)
    have hy := hr.2 y (by simp)
    have e1 : x.f = y.f := by
      have h1 := hr.low (t := x.f) (by rw [← h]; exact hl.head)
      have h2 := hl.low (t := y.f) (by rw [h]; exact hr.head)
      omega
    have ev : x.v = y.v := by
      have h1 := h x.f
      rw [hl.head, e1, hr.head] at h1
      simpa using h1
    have e2 : x.t = y.t := by
      rcases Int.lt_trichotomy x.t y.t with h1 | h1 | h1
      · exfalso
        have h2 := h x.t
        rw [atG_hit (x := y) ⟨by omega, h1⟩, atG_miss (by omega)] at h2
        exact (hl.past h2).2 rfl ev.symm
      · exact h1
      · exfalso
        have h2 := (h y.t).symm
        rw [atG_hit (x := x) ⟨by omega, h1⟩, atG_miss (by omega)] at h2
        exact (hr.past h2).2 rfl ev
    have e : x = y := by
      cases x; cases y
      simp only at e1 e2 ev
      subst e1 e2 ev
      rfl
    subst e
    congr 1
    refine mapG_unique hl.tail hr.tail fun t => ?_
    have h1 := h t
    by_cases ht : x.f ≤ t ∧ t < x.t
    · have k1 : atG l t = none := by
        cases hc : atG l t with
        | none => rfl
        | some v => have := (hl.past hc).1; omega
      have k2 : atG r t = none := by
        cases hc : atG r t with
        | none => rfl
        | some v => have := (hr.past hc).1; omega
      rw [k1, k2]
    · rwa [atG_miss ht, atG_miss ht] at h1
theorem MapG.init (h : MapG (out ++ [z])) : MapG out := ⟨(List.pairwise_append.1 h.1).1, fun y hy => h.2 y (List.mem_append_left _ hy)⟩
theorem MapG.snoc_lt (h : MapG (out ++ [z])) {y : PieceG α} (hy : y ∈ out) : y.t ≤ z.f ∧ (y.t = z.f → y.v ≠ z.v) := (List.pairwise_append.1 h.1).2.2 y hy z (by simp)
theorem MapG.snoc (h : MapG out) (hx : x.f < x.t) (hl : ∀ y, y ∈ out → y.t ≤ x.f ∧ (y.t = x.f → y.v ≠ x.v)) : MapG (out ++ [x]) := by
  refine ⟨List.pairwise_append.2 ⟨h.1, by simp, fun y hy u hu => ?_⟩, fun y hy => ?_⟩
  · obtain rfl : u = x := by simpa using hu
    exact hl y hy
  · rcases List.mem_append.1 hy with hy | hy
    · exact h.2 y hy
    · obtain rfl : y = x := by simpa using hy
      exact hx
theorem MapG.grow (h : MapG (out ++ [z])) {n : Int} (hn : z.t ≤ n) : MapG (out ++ [⟨z.f, n, z.v⟩]) :=
  h.init.snoc (by have := h.2 z (by simp); simp only; omega) fun _ hy => h.snoc_lt hy
theorem MapG.rise (h : MapG (out ++ [z])) : ∀ y, y ∈ out ++ [z] → y.t ≤ z.t := fun y hy => by
  rcases List.mem_append.1 hy with hy | hy
  · have := h.snoc_lt hy; have := h.2 z (by simp); omega
  · obtain rfl : y = z := by simpa using hy
    exact Int.le_refl _
/-- Who is told ahead of the last one ends ahead of it. -/
theorem MapG.ahead (h : MapG (out ++ [z])) {y : PieceG α} (hy : y ∈ out) : y.t < z.t := by
  have := h.snoc_lt hy; have := h.2 z (by simp); omega
end
/-! ### a map, written between one bound and the next -/
structure ToldG {α : Type} (fn : Int → Option α) (b a : Int) (out : List (PieceG α)) : Prop where
  map : MapG out
  tells : ∀ t, atG out t = if b ≤ t ∧ t < a then fn t else none
  low : ∀ y, y ∈ out → y.t ≤ a
section
variable {α : Type} {fn : Int → Option α} {b a c : Int} {v : α} {out o : List (PieceG α)} {z : PieceG α}
theorem ToldG.start : ToldG fn a a [] := ⟨.nil, fun t => by rw [atG_nil, if_neg (by omega)], fun y h => by simp at h⟩
theorem ToldG.skip (h : ToldG fn b a out) (hac : a < c) (hfn : ∀ t, a ≤ t → t < c → fn t = fn a) (hn : fn a = none) : ToldG fn b c out := by
  refine ⟨h.map, fun t => ?_, fun y hy => by have := h.low y hy; omega⟩
  rw [h.tells t]
  by_cases h1 : b ≤ t ∧ t < a
  · rw [if_pos h1, if_pos (by omega)]
  · rw [if_neg h1]
    split
    · rw [hfn t (by omega) (by omega), hn]
    · rfl
theorem ToldG.grow (h : ToldG fn b a (o ++ [z])) (_ : b ≤ a) (hac : a < c) (hfn : ∀ t, a ≤ t → t < c → fn t = fn a) (hv : fn a = some z.v) (hz : z.t = a) : ToldG fn b c (o ++ [⟨z.f, c, z.v⟩]) := by
  have hzl := h.map.2 z (by simp)
  have hzf : b ≤ z.f := by
    have h1 := h.tells z.f
    have h2 : atG (o ++ [z]) z.f = some z.v := by
      rw [atG_append, atG_none fun y hy => by have := h.map.snoc_lt hy; omega]
      exact atG_hit ⟨Int.le_refl _, hzl⟩
    rw [h2] at h1
    refine Classical.byContradiction fun hn => ?_
    rw [if_neg (by omega)] at h1
    simp at h1
  refine ⟨h.map.grow (by omega), fun t => ?_, fun y hy => ?_⟩
  · have h1 := h.tells t
    rw [atG_append] at h1 ⊢
    cases hc : atG o t with
    | some u =>
      rw [hc] at h1
      obtain ⟨q, hq, k1, k2, _⟩ := atG_some hc
      have := h.low q (List.mem_append_left _ hq)
      simp only [Option.or] at h1 ⊢
      rw [h1]
      by_cases hb : b ≤ t ∧ t < a
      · rw [if_pos hb, if_pos (by omega)]
      · rw [if_neg hb] at h1; simp at h1
    | none =>
      rw [hc] at h1
      simp only [Option.none_or] at h1 ⊢
      by_cases ht : z.f ≤ t ∧ t < c
      · rw [atG_hit (by simpa using ht), if_pos (by omega)]
        by_cases hta : t < a
        · rw [atG_hit ⟨ht.1, by omega⟩, if_pos (by omega)] at h1
          simp only
          exact h1
        · rw [hfn t (by omega) ht.2, hv]
      · rw [atG_miss (by simpa using ht), atG_nil]
        rw [atG_miss (by omega), atG_nil] at h1
        by_cases hb : b ≤ t ∧ t < c
        · rw [if_pos hb]
          rw [if_pos (by omega)] at h1
          exact h1
        · rw [if_neg hb]
  · rcases List.mem_append.1 hy with hy | hy
    · have := h.low y (List.mem_append_left _ hy); omega
    · obtain rfl : y = _ := by simpa using hy
      exact Int.le_refl _
theorem ToldG.next (h : ToldG fn b a out) (hba : b ≤ a) (hac : a < c) (hfn : ∀ t, a ≤ t → t < c → fn t = fn a) (hv : fn a = some v) (hz : ∀ y, y ∈ out → y.t = a → y.v ≠ v) : ToldG fn b c (out ++ [⟨a, c, v⟩]) := by
  refine ⟨h.map.snoc hac fun y hy => ⟨h.low y hy, fun e => hz y hy e⟩, fun t => ?_, fun y hy => ?_⟩
  · have h1 := h.tells t
    rw [atG_append, h1]
    by_cases hb : b ≤ t ∧ t < a
    · rw [if_pos hb, if_pos (by omega), atG_miss (by simp only; omega), atG_nil]
      simp
    · rw [if_neg hb]
      simp only [Option.none_or]
      by_cases hc : b ≤ t ∧ t < c
      · rw [if_pos hc, atG_hit (by simp only; omega), hfn t (by omega) (by omega), hv]
      · rw [if_neg hc, atG_miss (by simp only; omega), atG_nil]
  · rcases List.mem_append.1 hy with hy | hy
    · have := h.low y hy; omega
    · obtain rfl : y = _ := by simpa using hy
      exact Int.le_refl _
end
end Go.Proofs.YtdpibehpmghghaaDoor
/- Messages against states: what is told of them; no program in sight. -/
namespace Go.Proofs.YtdpibehpmghghaaDoor

structure CellD where
  f : Int
  t : Int
  s : Int
  has : Bool
  v : Int
deriving DecidableEq
/-- Is a message there at a time? -/
def inP (x : PieceD) (t : Int) : Bool := decide (x.f ≤ t ∧ t < x.t)
/-- Which of the first messages are there at a time. -/
def whichK (l : List PieceD) (t : Int) : Nat → List Int
  | 0 => []
  | k + 1 => whichK l t k ++ (match l[k]? with | some x => if inP x t then [(k : Int)] else [] | none => [])
def whichL (l : List PieceD) (t : Int) : List Int := whichK l t l.length
def vAt (l : List PieceD) (i : Int) : Int := ((l[i.toNat]?).map PieceD.v).getD 0
def valF (l : List PieceD) (k : Int) : Int → List Int → Int
  | v, [] => v
  | v, i :: is => valF l k (both3 k v (vAt l i)) is
/-- Their values put together. -/
def valOf (l : List PieceD) (k : Int) : List Int → Int
  | [] => 0
  | i :: is => valF l k (vAt l i) is
abbrev Key := List Int × Option Int
/-- What is there at a time: messages and a state; none: no message. -/
def keyF (state l : List PieceD) (t : Int) : Option Key := if whichL l t = [] then none else some (whichL l t, atM state t)
def toCell (l : List PieceD) (k : Int) (p : PieceG Key) : CellD := ⟨p.f, p.t, p.v.2.getD 0, p.v.2.isSome, valOf l k p.v.1⟩
/-- What is wrong with messages. -/
def MsgOk (l : List PieceD) : Prop := ∀ x, x ∈ l → (nearB x.f = true ∧ nearB x.t = true ∧ nearB x.v = true) ∧ x.f < x.t
open Classical in
noncomputable def msgErr (l : List PieceD) : Int := if 200 < l.length then 2 else if MsgOk l then 0 else 5
section
variable {l state : List PieceD} {t k v : Int} {n : Nat} {x : PieceD} {D : List Int}
theorem msgErr_large (h : 200 < l.length) : msgErr l = 2 := if_pos h
theorem msgErr_ok (h : ¬ 200 < l.length) (h2 : MsgOk l) : msgErr l = 0 := by unfold msgErr; rw [if_neg h, if_pos h2]
theorem msgErr_bad (h : ¬ 200 < l.length) (h2 : ¬ MsgOk l) : msgErr l = 5 := by unfold msgErr; rw [if_neg h, if_neg h2]
theorem msgErr_zero (h : msgErr l = 0) : l.length ≤ 200 ∧ MsgOk l := by
  by_cases h1 : 200 < l.length
  · rw [msgErr_large h1] at h; simp at h
  · by_cases h2 : MsgOk l
    · exact ⟨by omega, h2⟩
    · rw [msgErr_bad h1 h2] at h; simp at h
theorem whichK_succ (hx : l[n]? = some x) : whichK l t (n + 1) = whichK l t n ++ if inP x t then [(n : Int)] else [] := by
  show whichK l t n ++ (match l[n]? with | some x => if inP x t then [(n : Int)] else [] | none => []) = _
  rw [hx]
theorem mem_whichK : ∀ {n : Nat} {i : Int}, i ∈ whichK l t n → 0 ≤ i ∧ i < n ∧ ∃ x, l[i.toNat]? = some x ∧ inP x t = true
  | 0, i, h => by simp [whichK] at h
  | n + 1, i, h => by
    rcases List.mem_append.1 h with h | h
    · obtain ⟨h1, h2, h3⟩ := mem_whichK h
      exact ⟨h1, by omega, h3⟩
    · cases hx : l[n]? with
      | none => rw [hx] at h; simp at h
      | some x =>
        rw [hx] at h
        by_cases hp : inP x t = true
        · simp only [hp, if_true, List.mem_cons, List.not_mem_nil, or_false] at h
          subst h
          exact ⟨by omega, by omega, x, by simpa using hx, hp⟩
        · simp [hp] at h
theorem which_mem : ∀ {n : Nat} {i : Nat}, i < n → l[i]? = some x → inP x t = true → (i : Int) ∈ whichK l t n
  | n + 1, i, h, hx, hp => by
    by_cases hi : i = n
    · subst hi
      rw [whichK_succ hx, hp]
      simp
    · exact List.mem_append_left _ (which_mem (by omega) hx hp)
theorem which_has : whichL l t ≠ [] ↔ ∃ x, x ∈ l ∧ inP x t = true := by
  constructor
  · intro h
    obtain ⟨i, hi⟩ := List.exists_mem_of_ne_nil _ h
    obtain ⟨_, _, x, hx, hp⟩ := mem_whichK hi
    exact ⟨x, List.mem_of_getElem? hx, hp⟩
  · rintro ⟨x, hx, hp⟩ h
    obtain ⟨i, hi⟩ := List.getElem?_of_mem hx
    have := which_mem (n := l.length) (lt_of_get hi) hi hp
    unfold whichL at h
    rw [h] at this
    simp at this
theorem which_len : (whichK l t n).length ≤ n := by
  induction n with
  | zero => simp [whichK]
  | succ n ih =>
    show (whichK l t n ++ _).length ≤ _
    rw [List.length_append]
    cases l[n]? with
    | none => simp; omega
    | some x =>
      simp only
      split <;> simp <;> omega
theorem inP_has (x : PieceD) (t : Int) : hasB [⟨x.f, x.t⟩] t = inP x t := by
  rw [Bool.eq_iff_iff, has_cons]
  simp [inP, hasB]
theorem which_turns (hD : D.Pairwise (· < ·)) (hl : ∀ x, x ∈ l → x.f ∈ D ∧ x.t ∈ D) : TurnsAt D [] (whichL l) := by
  refine ⟨fun i a c ha hc t h1 h2 => ?_, fun t ht => ?_⟩
  · have key : ∀ n, whichK l t n = whichK l a n := fun n => by
      induction n with
      | zero => rfl
      | succ n ih =>
        show whichK l t n ++ _ = whichK l a n ++ _
        rw [ih]
        cases hx : l[n]? with
        | none => rfl
        | some x =>
          have hm := hl x (List.mem_of_getElem? hx)
          have := (hasB_turns (l := [⟨x.f, x.t⟩]) hD fun y hy => by
            obtain rfl : y = _ := by simpa using hy
            exact hm).const i a c ha hc t h1 h2
          rw [inP_has, inP_has] at this
          simp only [this]
    exact key _
  · obtain ⟨x, hx, hp⟩ := which_has.1 ht
    have h3 : x.f ≤ t ∧ t < x.t := by simpa [inP] using hp
    exact ⟨x.f, x.t, (hl x hx).1, (hl x hx).2, h3.1, h3.2⟩
theorem key_turns (hD : D.Pairwise (· < ·)) (hl : ∀ x, x ∈ l → x.f ∈ D ∧ x.t ∈ D) (hs : ∀ x, x ∈ state → x.f ∈ D ∧ x.t ∈ D) : TurnsAt D none (keyF state l) :=
  (which_turns hD hl).map2 (fun w s => if w = [] then none else some (w, s)) (if_pos rfl) (atM_turns hD hs)
/-- How far values put together may be. -/
theorem both_bound {k a b A : Int} (hk : 1 ≤ k ∧ k ≤ 3) (ha : -A ≤ a ∧ a ≤ A) (hA : 0 ≤ A) (hb : nearB b = true) : -(A + 1000000000) ≤ both3 k a b ∧ both3 k a b ≤ A + 1000000000 := by
  have := near_iff.1 hb
  unfold both3
  split
  · omega
  · split <;> omega
end
end Go.Proofs.YtdpibehpmghghaaDoor
/- The walks of the check of a set of times, the program's and the document's. -/
namespace Go.Proofs.YtdpibehpmghghaaDoor
open Go.RowKit

def farB (n : Int) : Bool := !nearB n
theorem far_off {n : Int} (h : farB n = false) : nearB n = true := by simpa [farB] using h
theorem far_on {n : Int} (h : farB n = true) : nearB n = false := by simpa [farB] using h
theorem farB_true {n : Int} (h : n < -1000000000 ∨ 1000000000 < n) : farB n = true := by simp [farB, nearB, inB]; omega
theorem farB_false {n : Int} (h1 : ¬ n < -1000000000) (h2 : ¬ 1000000000 < n) : farB n = false := by simp [farB, nearB, inB]; omega
theorem near_is {n : Int} {b : Bool} (h : nearB n = b) (w : World) : Calls Tryd.prog 63 #[.int .i64 n] w fun e w' => e = .returned (.bool b) ∧ w = w' := by
  go_enter Tryd.func63, Tryd.ntmps63
  go_wp2_with (go_at_call 12; refine (in_any _ _ _ _).mono ?_; rintro e w' ⟨rfl, rfl⟩)
  go_ret
  exact ⟨ret_bool (by rw [← h]; rfl), rfl⟩

theorem near_q {n : Int} {b : Bool} (h : nearB n = b) (W : World) (k : Nat) : Calls Tryd.prog 63 #[.int .i64 n] (W.drewN k) fun e w' => e = .returned (.bool b) ∧ ∃ m, w' = W.drewN m := (near_is h _).mono fun _ _ ⟨h1, h2⟩ => ⟨h1, k, h2.symm⟩
theorem setErr_bad' {l : List IvlD} (h : l.length ≤ 200) (h2 : ¬ SetOk l) : setErr l = 5 := setErr_bad (by omega) h2
theorem bad_f {l : List IvlD} {k : Nat} {x : IvlD} (hx : l[k]? = some x) (h : farB x.f = true) : ¬ SetOk l := fun hs => by have := (hs.at_ hx).1; rw [far_on h] at this; simp at this
theorem bad_t {l : List IvlD} {k : Nat} {x : IvlD} (hx : l[k]? = some x) (h : farB x.t = true) : ¬ SetOk l := fun hs => by have := (hs.at_ hx).2.1; rw [far_on h] at this; simp at this
theorem bad_e {l : List IvlD} {k : Nat} {x : IvlD} (hx : l[k]? = some x) (h : x.t ≤ x.f) : ¬ SetOk l := fun hs => by have := (hs.at_ hx).2.2; omega
theorem bad_g {l : List IvlD} {k : Nat} {x z : IvlD} (hz : l[k]? = some z) (hx : l[k + 1]? = some x) (h : x.f ≤ z.t) : ¬ SetOk l := fun hs => by have := hs.gap hz hx; omega

end Go.Proofs.YtdpibehpmghghaaDoor
/- The walks of the check of a map, and of what it tells, the program's and the document's (printed by genmapcheck.py). -/
namespace Go.Proofs.YtdpibehpmghghaaDoor
open Go.RowKit

theorem far2_is {n : Int} {b : Bool} (h : farB n = b) (w : World) : Calls Tryd.prog 84 #[.int .i64 n] w fun e w' => e = .returned (.bool b) ∧ w = w' := by
  go_enter Tryd.func84, Tryd.ntmps84
  go_wp2
  all_goals go_ret
  all_goals exact ⟨ret_bool (by rw [← h, Bool.eq_iff_iff]; simp [farB, nearB, inB]; try omega), rfl⟩
section
variable {l : List PieceD} {k : Nat} {x z : PieceD}
theorem mapErr_bad' (h : l.length ≤ 200) (h2 : ¬ MapOk l) : mapErr l = 5 := mapErr_bad (by omega) h2
theorem badM_f (hx : l[k]? = some x) (h : nearB x.f = false) : ¬ MapOk l := fun hs => by have := (hs.at_ hx).1; rw [h] at this; simp at this
theorem badM_t (hx : l[k]? = some x) (h : nearB x.t = false) : ¬ MapOk l := fun hs => by have := (hs.at_ hx).2.1; rw [h] at this; simp at this
theorem badM_v' (hx : l[k]? = some x) (h : nearB x.v = false) : ¬ MapOk l := fun hs => by have := (hs.at_ hx).2.2.1; rw [h] at this; simp at this
theorem badM_e (hx : l[k]? = some x) (h : x.t ≤ x.f) : ¬ MapOk l := fun hs => by have := (hs.at_ hx).2.2.2; omega
theorem badM_l (hz : l[k]? = some z) (hx : l[k + 1]? = some x) (h : x.f < z.t) : ¬ MapOk l := fun hs => by have := (hs.gap hz hx).1; omega
theorem badM_v (hz : l[k]? = some z) (hx : l[k + 1]? = some x) (h : x.f = z.t) (hv : x.v = z.v) : ¬ MapOk l := fun hs => (hs.gap hz hx).2 h.symm hv.symm
end

set_option maxHeartbeats 4000000 in
theorem imapCheck_any (A : Option Addr) (c : Nat) (l : List PieceD) (w : World) (hI : PiecesAt w A c l) :
    Calls Tryd.prog 56 #[.slice A l.length c] w fun e w' => e = .returned (.int .i64 (mapErr l)) ∧ Below w.heap.size w w' := by
  have m1 := hI.len
  by_cases hl : l.length ≤ 200
  case neg =>
    have hd : decide ((l.length : Int) > 200) = true := by simp; omega
    go_enter Tryd.func56, Tryd.ntmps56
    go_wp2_with fail
    go_ret
    exact ⟨ret_int (mapErr_large (by omega)).symm, by go_grown⟩
  have hd : decide ((l.length : Int) > 200) = false := by simp; omega
  have HI := Lib.hid hI
  clear hI
  go_enter Tryd.func56, Tryd.ntmps56
  go_wp2_with fail
  clear hd
  go_loopw [10] (fun v wr => ∃ k : Nat, k ≤ l.length ∧ v = .int .i64 k ∧ Hid (MapOk (l.take k)) ∧ Below w.heap.size w wr) (fun v _ => l.length - (intOf v).toNat)
  case atStart => exact ⟨0, Nat.zero_le _, rfl, Lib.hid (by simpa using MapOk.nil), Below.refl _ _⟩
  case round =>
    obtain ⟨k, hk, rfl, HS, hb⟩ := hrel
    by_cases hlt : k < l.length
    case neg =>
      obtain rfl : k = l.length := by omega
      go_wp2_with fail
      go_ret
      exact ⟨ret_int (mapErr_ok (by omega) (by have := HS.out; rwa [List.take_length] at this)).symm, hb⟩
    case pos =>
      obtain ⟨x, hx⟩ := get_lt hlt
      obtain ⟨b, off, rfl, hb0, x0, x1, x2⟩ := HI.out.get hx
      rw [← hb.cell (by exact hb0)] at x0 x1 x2
      have HX := Lib.hid hx
      clear hx
      have hba := ext_alloc hb (Obj.cells #[Value.int IntKind.i64 x.f, Value.int IntKind.i64 x.t, Value.int IntKind.i64 x.v] 70)
      cases f1 : farB x.f
      case true =>
        go_wp2_with (first | (go_at_call 84; refine (far2_is (by assumption) _).mono ?_; rintro e w' ⟨rfl, rfl⟩))
        go_ret
        exact ⟨ret_int (mapErr_bad' hl (badM_f HX.out (far_on f1))).symm, hba⟩
      cases f2 : farB x.t
      case true =>
        go_wp2_with (first | (go_at_call 84; refine (far2_is (by assumption) _).mono ?_; rintro e w' ⟨rfl, rfl⟩))
        go_ret
        exact ⟨ret_int (mapErr_bad' hl (badM_t HX.out (far_on f2))).symm, hba⟩
      cases f3 : farB x.v
      case true =>
        go_wp2_with (first | (go_at_call 84; refine (far2_is (by assumption) _).mono ?_; rintro e w' ⟨rfl, rfl⟩))
        go_ret
        exact ⟨ret_int (mapErr_bad' hl (badM_v' HX.out (far_on f3))).symm, hba⟩
      by_cases g3 : x.t ≤ x.f
      case pos =>
        have d3 : decide (x.t ≤ x.f) = true := by simpa using g3
        go_wp2_with (first | (go_at_call 84; refine (far2_is (by assumption) _).mono ?_; rintro e w' ⟨rfl, rfl⟩))
        go_ret
        exact ⟨ret_int (mapErr_bad' hl (badM_e HX.out g3)).symm, hba⟩
      have d3 : decide (x.t ≤ x.f) = false := by simpa using g3
      have F3 := Lib.hid g3
      clear g3
      by_cases hk0 : k ≤ 0
      case pos =>
        have g4 : decide (0 < k) = false := by simp; omega
        go_wp2_with (first | (go_at_call 84; refine (far2_is (by assumption) _).mono ?_; rintro e w' ⟨rfl, rfl⟩))
        go_quiet (fail)
        go_wp2
        go_roundw
        case rel =>
          obtain rfl : k = 0 := by omega
          exact ⟨1, by omega, by go_num, Lib.hid (MapOk.first HX.out (far_off f1) (far_off f2) (far_off f3) (by have := F3.out; omega)), below_drewN hba _⟩
        case measure => simp [intOf]; omega
      case neg =>
        obtain ⟨j, rfl⟩ : ∃ j, k = j + 1 := ⟨k - 1, by omega⟩
        obtain ⟨z, hz⟩ := get_lt (show j < l.length by omega)
        obtain ⟨b', off', e', _, z0, z1, z2⟩ := HI.out.get hz
        obtain ⟨rfl, rfl⟩ : b = b' ∧ off = off' := by simpa using e'
        have z1 := (hba.cell (p := ⟨b, off + j * 3 + 1, none⟩) hb0).trans z1
        have z2 := (hba.cell (p := ⟨b, off + j * 3 + 2, none⟩) hb0).trans z2
        have HZ := Lib.hid hz
        clear hz e' z0
        have g4 : (0 : Int) < (j : Int) + 1 := by omega
        have hjw : IntKind.i64.wrap (j : Int) = j := IntWalk.i64_in _ (by omega)
        have hjl : j < l.length := by omega
        by_cases a1 : x.f < z.t
        case pos =>
          have d4 : decide (x.f < z.t) = true := by simpa using a1
          go_wp2_with (first | (go_at_call 84; refine (far2_is (by assumption) _).mono ?_; rintro e w' ⟨rfl, rfl⟩))
          go_quiet (fail)
          go_wp2
          go_ret
          exact ⟨ret_int (mapErr_bad' hl (badM_l HZ.out HX.out a1)).symm, below_drewN hba _⟩
        case neg =>
          have d4 : decide (x.f < z.t) = false := by simp; omega
          by_cases a2 : x.f = z.t
          case neg =>
            have d5 : (x.f == z.t) = false := by simp; omega
            go_wp2_with (first | (go_at_call 84; refine (far2_is (by assumption) _).mono ?_; rintro e w' ⟨rfl, rfl⟩))
            go_quiet (fail)
            go_wp2
            go_roundw
            case rel => exact ⟨j + 1 + 1, by omega, by go_num, Lib.hid (HS.out.next HZ.out HX.out (far_off f1) (far_off f2) (far_off f3) (by have := F3.out; omega) (by omega) (fun e => absurd e.symm a2)), below_drewN hba _⟩
            case measure => simp [intOf]; omega
          case pos =>
            have d5 : (x.f == z.t) = true := by simp; omega
            have A2 := Lib.hid a2
            clear a2
            by_cases a3 : x.v = z.v
            case pos =>
              have d6 : (x.v == z.v) = true := by simp; omega
              have A3 := Lib.hid a3
              clear a3
              go_wp2_with (first | (go_at_call 84; refine (far2_is (by assumption) _).mono ?_; rintro e w' ⟨rfl, rfl⟩))
              go_quiet (fail)
              go_wp2
              go_ret
              exact ⟨ret_int (mapErr_bad' hl (badM_v HZ.out HX.out A2.out A3.out)).symm, below_drewN hba _⟩
            case neg =>
              have d6 : (x.v == z.v) = false := by simp; omega
              have A3 := Lib.hid a3
              clear a3
              go_wp2_with (first | (go_at_call 84; refine (far2_is (by assumption) _).mono ?_; rintro e w' ⟨rfl, rfl⟩))
              go_quiet (fail)
              go_wp2
              go_roundw
              case rel => exact ⟨j + 1 + 1, by omega, by go_num, Lib.hid (HS.out.next HZ.out HX.out (far_off f1) (far_off f2) (far_off f3) (by have := F3.out; omega) (by omega) (fun _ e => A3.out e.symm)), below_drewN hba _⟩
              case measure => simp [intOf]; omega

set_option maxHeartbeats 4000000 in
theorem refMap_any (A : Option Addr) (c : Nat) (l : List PieceD) (w : World) (hI : PiecesAt w A c l) :
    Calls Tryd.prog 58 #[.slice A l.length c] w fun e w' => e = .returned (.int .i64 (mapErr l)) ∧ Below w.heap.size w w' := by
  have m1 := hI.len
  by_cases hl : l.length ≤ 200
  case neg =>
    have hd : decide ((l.length : Int) > 200) = true := by simp; omega
    go_enter Tryd.func58, Tryd.ntmps58
    go_wp2_with fail
    go_ret
    exact ⟨ret_int (mapErr_large (by omega)).symm, by go_grown⟩
  have hd : decide ((l.length : Int) > 200) = false := by simp; omega
  have HI := Lib.hid hI
  clear hI
  go_enter Tryd.func58, Tryd.ntmps58
  go_wp2_with fail
  clear hd
  go_loopw [3] (fun v wr => ∃ k : Nat, k ≤ l.length ∧ v = .int .i64 k ∧ Hid (MapOk (l.take k)) ∧ Below w.heap.size w wr) (fun v _ => l.length - (intOf v).toNat)
  case atStart => exact ⟨0, Nat.zero_le _, rfl, Lib.hid (by simpa using MapOk.nil), Below.refl _ _⟩
  case round =>
    obtain ⟨k, hk, rfl, HS, hb⟩ := hrel
    by_cases hlt : k < l.length
    case neg =>
      obtain rfl : k = l.length := by omega
      go_wp2_with fail
      go_ret
      exact ⟨ret_int (mapErr_ok (by omega) (by have := HS.out; rwa [List.take_length] at this)).symm, hb⟩
    case pos =>
      obtain ⟨x, hx⟩ := get_lt hlt
      obtain ⟨b, off, rfl, hb0, x0, x1, x2⟩ := HI.out.get hx
      rw [← hb.cell (by exact hb0)] at x0 x1 x2
      have HX := Lib.hid hx
      clear hx
      have hba := ext_alloc hb (Obj.cells #[Value.int IntKind.i64 x.f, Value.int IntKind.i64 x.t, Value.int IntKind.i64 x.v] 70)
      cases f1 : nearB x.f
      case false =>
        go_wp2_with (first | (go_at_call 63; refine (near_is (by assumption) _).mono ?_; rintro e w' ⟨rfl, rfl⟩))
        go_ret
        exact ⟨ret_int (mapErr_bad' hl (badM_f HX.out f1)).symm, hba⟩
      cases f2 : nearB x.t
      case false =>
        go_wp2_with (first | (go_at_call 63; refine (near_is (by assumption) _).mono ?_; rintro e w' ⟨rfl, rfl⟩))
        go_ret
        exact ⟨ret_int (mapErr_bad' hl (badM_t HX.out f2)).symm, hba⟩
      cases f3 : nearB x.v
      case false =>
        go_wp2_with (first | (go_at_call 63; refine (near_is (by assumption) _).mono ?_; rintro e w' ⟨rfl, rfl⟩))
        go_ret
        exact ⟨ret_int (mapErr_bad' hl (badM_v' HX.out f3)).symm, hba⟩
      by_cases g3 : x.t ≤ x.f
      case pos =>
        have d3 : decide (x.f ≥ x.t) = true := by simpa using g3
        go_wp2_with (first | (go_at_call 63; refine (near_is (by assumption) _).mono ?_; rintro e w' ⟨rfl, rfl⟩))
        go_ret
        exact ⟨ret_int (mapErr_bad' hl (badM_e HX.out g3)).symm, hba⟩
      have d3 : decide (x.f ≥ x.t) = false := by simp; omega
      have F3 := Lib.hid g3
      clear g3
      by_cases hk0 : k ≤ 0
      case pos =>
        have g4 : decide (0 < k) = false := by simp; omega
        go_wp2_with (first | (go_at_call 63; refine (near_is (by assumption) _).mono ?_; rintro e w' ⟨rfl, rfl⟩))
        go_quiet (fail)
        go_wp2
        go_roundw
        case rel =>
          obtain rfl : k = 0 := by omega
          exact ⟨1, by omega, by go_num, Lib.hid (MapOk.first HX.out f1 f2 f3 (by have := F3.out; omega)), below_drewN hba _⟩
        case measure => simp [intOf]; omega
      case neg =>
        obtain ⟨j, rfl⟩ : ∃ j, k = j + 1 := ⟨k - 1, by omega⟩
        obtain ⟨z, hz⟩ := get_lt (show j < l.length by omega)
        obtain ⟨b', off', e', _, z0, z1, z2⟩ := HI.out.get hz
        obtain ⟨rfl, rfl⟩ : b = b' ∧ off = off' := by simpa using e'
        have z1 := (hba.cell (p := ⟨b, off + j * 3 + 1, none⟩) hb0).trans z1
        have z2 := (hba.cell (p := ⟨b, off + j * 3 + 2, none⟩) hb0).trans z2
        have HZ := Lib.hid hz
        clear hz e' z0
        have g4 : (0 : Int) < (j : Int) + 1 := by omega
        have hjw : IntKind.i64.wrap (j : Int) = j := IntWalk.i64_in _ (by omega)
        have hjl : j < l.length := by omega
        by_cases a1 : x.f < z.t
        case pos =>
          have d4 : decide (z.t > x.f) = true := by simpa using a1
          go_wp2_with (first | (go_at_call 63; refine (near_is (by assumption) _).mono ?_; rintro e w' ⟨rfl, rfl⟩))
          go_quiet (fail)
          go_wp2
          go_ret
          exact ⟨ret_int (mapErr_bad' hl (badM_l HZ.out HX.out a1)).symm, below_drewN hba _⟩
        case neg =>
          have d4 : decide (z.t > x.f) = false := by simp; omega
          by_cases a2 : x.f = z.t
          case neg =>
            have d5 : (z.t == x.f) = false := by simp; omega
            go_wp2_with (first | (go_at_call 63; refine (near_is (by assumption) _).mono ?_; rintro e w' ⟨rfl, rfl⟩))
            go_quiet (fail)
            go_wp2
            go_roundw
            case rel => exact ⟨j + 1 + 1, by omega, by go_num, Lib.hid (HS.out.next HZ.out HX.out f1 f2 f3 (by have := F3.out; omega) (by omega) (fun e => absurd e.symm a2)), below_drewN hba _⟩
            case measure => simp [intOf]; omega
          case pos =>
            have d5 : (z.t == x.f) = true := by simp; omega
            have A2 := Lib.hid a2
            clear a2
            by_cases a3 : x.v = z.v
            case pos =>
              have d6 : (z.v == x.v) = true := by simp; omega
              have A3 := Lib.hid a3
              clear a3
              go_wp2_with (first | (go_at_call 63; refine (near_is (by assumption) _).mono ?_; rintro e w' ⟨rfl, rfl⟩))
              go_quiet (fail)
              go_wp2
              go_ret
              exact ⟨ret_int (mapErr_bad' hl (badM_v HZ.out HX.out A2.out A3.out)).symm, below_drewN hba _⟩
            case neg =>
              have d6 : (z.v == x.v) = false := by simp; omega
              have A3 := Lib.hid a3
              clear a3
              go_wp2_with (first | (go_at_call 63; refine (near_is (by assumption) _).mono ?_; rintro e w' ⟨rfl, rfl⟩))
              go_quiet (fail)
              go_wp2
              go_roundw
              case rel => exact ⟨j + 1 + 1, by omega, by go_num, Lib.hid (HS.out.next HZ.out HX.out f1 f2 f3 (by have := F3.out; omega) (by omega) (fun _ e => A3.out e.symm)), below_drewN hba _⟩
              case measure => simp [intOf]; omega

/-- What At tells. -/
def atV (o : Option Int) : Value := .tuple #[.int .i64 (o.getD 0), .bool o.isSome]
set_option maxHeartbeats 2000000 in
theorem imapAt_any (A : Option Addr) (c : Nat) (l : List PieceD) (t : Int) (w : World) (hI : PiecesAt w A c l) :
    Calls Tryd.prog 102 #[.slice A l.length c, .int .i64 t] w fun e w' => e = .returned (atV (atM l t)) ∧ Below w.heap.size w w' := by
  have m1 := hI.len
  have HI := Lib.hid hI
  clear hI
  go_enter Tryd.func102, Tryd.ntmps102
  go_wp2_with fail
  go_loopw [10] (fun v wr => ∃ k : Nat, k ≤ l.length ∧ v = .int .i64 k ∧ Hid (atM (l.drop k) t = atM l t) ∧ Below w.heap.size w wr) (fun v _ => l.length - (intOf v).toNat)
  case atStart => exact ⟨0, Nat.zero_le _, rfl, Lib.hid rfl, Below.refl _ _⟩
  case round =>
    obtain ⟨k, hk, rfl, HN, hb⟩ := hrel
    by_cases hlt : k < l.length
    case neg =>
      go_wp2_with fail
      refine bodyPost_ret (v := .tuple #[.int .i64 0, .bool false]) (by simp [results, Tryd.results102]) rfl ?_
      exact ⟨by rw [← HN.out, drop_end (by omega)]; rfl, hb⟩
    case pos =>
      obtain ⟨x, hx⟩ := get_lt hlt
      obtain ⟨b, off, rfl, hb0, x0, x1, x2⟩ := HI.out.get hx
      rw [← hb.cell (by exact hb0)] at x0 x1 x2
      have HD : Hid (l.drop k = x :: l.drop (k + 1)) := Lib.hid (drop_cons hx)
      have hba := ext_alloc hb (Obj.cells #[Value.int IntKind.i64 x.f, Value.int IntKind.i64 x.t, Value.int IntKind.i64 x.v] 70)
      clear hx
      by_cases h1 : x.f ≤ t
      · have d1 : decide (x.f ≤ t) = true := by simpa using h1
        by_cases h2 : t < x.t
        · have d2 : decide (t < x.t) = true := by simpa using h2
          go_wp2_with fail
          refine bodyPost_ret (v := .tuple #[.int .i64 x.v, .bool true]) (by simp [results, Tryd.results102]) rfl ?_
          exact ⟨by rw [← HN.out, HD.out, at_hit ⟨h1, h2⟩]; rfl, hba⟩
        · have d2 : decide (t < x.t) = false := by simpa using h2
          go_wp2_with fail
          go_roundw
          case rel => exact ⟨k + 1, by omega, by go_num, Lib.hid (by rw [← HN.out, HD.out, at_miss (by omega)]), hba⟩
          case measure => simp [intOf]; omega
      · have d1 : decide (x.f ≤ t) = false := by simpa using h1
        go_wp2_with fail
        go_roundw
        case rel => exact ⟨k + 1, by omega, by go_num, Lib.hid (by rw [← HN.out, HD.out, at_miss (by omega)]), hba⟩
        case measure => simp [intOf]; omega
set_option maxHeartbeats 2000000 in
theorem refAt_any (A : Option Addr) (c : Nat) (l : List PieceD) (t : Int) (w : World) (hI : PiecesAt w A c l) :
    Calls Tryd.prog 64 #[.slice A l.length c, .int .i64 t] w fun e w' => e = .returned (atV (atM l t)) ∧ w = w' := by
  have m1 := hI.len
  have HI := Lib.hid hI
  clear hI
  go_enter Tryd.func64, Tryd.ntmps64
  go_wp2_with fail
  go_loop [6] (fun v => ∃ k : Nat, k ≤ l.length ∧ v = .int .i64 k ∧ Hid (atM (l.drop k) t = atM l t)) (fun v => l.length - (intOf v).toNat)
  case atStart => exact ⟨0, Nat.zero_le _, rfl, Lib.hid rfl⟩
  case round =>
    obtain ⟨k, hk, rfl, HN⟩ := hrel
    by_cases hlt : k < l.length
    case neg =>
      go_wp2_with fail
      refine bodyPost_ret (v := .tuple #[.int .i64 0, .bool false]) (by simp [results, Tryd.results64]) rfl ?_
      exact ⟨by rw [← HN.out, drop_end (by omega)]; rfl, rfl⟩
    case pos =>
      obtain ⟨x, hx⟩ := get_lt hlt
      obtain ⟨b, off, rfl, hb0, x0, x1, x2⟩ := HI.out.get hx
      have HD : Hid (l.drop k = x :: l.drop (k + 1)) := Lib.hid (drop_cons hx)
      clear hx
      by_cases h1 : x.f ≤ t
      · have d1 : decide (x.f ≤ t) = true := by simpa using h1
        by_cases h2 : t < x.t
        · have d2 : decide (t < x.t) = true := by simpa using h2
          go_wp2_with fail
          refine bodyPost_ret (v := .tuple #[.int .i64 x.v, .bool true]) (by simp [results, Tryd.results64]) rfl ?_
          exact ⟨by rw [← HN.out, HD.out, at_hit ⟨h1, h2⟩]; rfl, rfl⟩
        · have d2 : decide (t < x.t) = false := by simpa using h2
          go_wp2_with fail
          go_round
          case rel => exact ⟨k + 1, by omega, by go_num, Lib.hid (by rw [← HN.out, HD.out, at_miss (by omega)])⟩
          case measure => simp [intOf]; omega
      · have d1 : decide (x.f ≤ t) = false := by simpa using h1
        go_wp2_with fail
        go_round
        case rel => exact ⟨k + 1, by omega, by go_num, Lib.hid (by rw [← HN.out, HD.out, at_miss (by omega)])⟩
        case measure => simp [intOf]; omega
end Go.Proofs.YtdpibehpmghghaaDoor
