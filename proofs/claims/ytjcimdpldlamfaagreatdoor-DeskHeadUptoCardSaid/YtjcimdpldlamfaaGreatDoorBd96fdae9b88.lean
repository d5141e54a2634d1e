/- Several texts in one: ReadSpec, DeskSpec, Head, Held, HeadE. -/
import Derived.Lib.SplitLaws
import Derived.Lib.Join
import Derived.OrdersHeld
import Derived.StillTail
import Derived.Deep.RegionHeld3
import Derived.Test.YtjcimdpldlamfaaGreatDoorBd2f7b3eaff4
import Derived.Test.YtjcimdpldlamfaaGreatDoorBd2df7774ef4
import Derived.Test.YtjcimdpldlamfaaGreatDoorBd002cafd2b4
/- How a text is read as a graph (Parse, ReadGraph); no program in sight. -/
namespace Go.Proofs.YtjcimdpldlamfaaGreatDoor
open Go.Lib

/-! ### pieces between bytes of one sort -/
def piecesB (c : UInt8) : List UInt8 → List (List UInt8)
 | [] => [[]]
 | b :: l => if b = c then [] :: piecesB c l else (b :: (piecesB c l).headD []) :: (piecesB c l).tail
theorem pieces_ne (c : UInt8) (l : List UInt8) : piecesB c l ≠ [] := by
 cases l with
 | nil => simp [piecesB]
 | cons b l => simp only [piecesB]; split <;> simp
theorem pieces_form (c : UInt8) (l : List UInt8) : ∃ p ps, piecesB c l = p :: ps := by
 cases h : piecesB c l with
 | nil => exact absurd h (pieces_ne c l)
 | cons p ps => exact ⟨p, ps, rfl⟩
theorem pieces_cons_hit (c : UInt8) (l : List UInt8) : piecesB c (c :: l) = [] :: piecesB c l := by simp [piecesB]
theorem pieces_cons_miss {b c : UInt8} {l p : List UInt8} {ps : List (List UInt8)} (h : b ≠ c) (hp : piecesB c l = p :: ps) : piecesB c (b :: l) = (b :: p) :: ps := by simp [piecesB, h, hp]
theorem pieces_snoc_hit (c : UInt8) : ∀ l : List UInt8, piecesB c (l ++ [c]) = piecesB c l ++ [[]]
 | [] => by simp [piecesB]
 | b :: l => by
  have ih := pieces_snoc_hit c l
  obtain ⟨p, ps, hp⟩ := pieces_form c l
  rw [List.cons_append]
  by_cases h : b = c
  ·subst h; rw [pieces_cons_hit, pieces_cons_hit, ih]; rfl
  ·rw [hp] at ih; rw [pieces_cons_miss h ih, pieces_cons_miss h hp]; rfl
theorem pieces_snoc_miss {b c : UInt8} (hb : b ≠ c) : ∀ (l : List UInt8) (init : List (List UInt8)) (last : List UInt8), piecesB c l = init ++ [last] → piecesB c (l ++ [b]) = init ++ [last ++ [b]]
 | [], init, last, h => by
  cases init with
  | nil =>
   have e : last = [] := by simpa [piecesB] using h.symm
   subst e
   simp [piecesB, hb]
  | cons q init => simp [piecesB] at h
 | x :: l, init, last, h => by
  obtain ⟨p, ps, hp⟩ := pieces_form c l
  rw [List.cons_append]
  by_cases hx : x = c
  ·subst hx
   rw [pieces_cons_hit] at h ⊢
   cases init with
   | nil => rw [hp] at h; simp at h
   | cons q init =>
    simp only [List.cons_append, List.cons.injEq] at h
    rw [pieces_snoc_miss hb l init last h.2, ← h.1]; rfl
  ·rw [pieces_cons_miss hx hp] at h
   cases init with
   | nil =>
    simp only [List.nil_append, List.cons.injEq] at h
    have e := pieces_snoc_miss hb l [] p (by rw [hp, h.2]; rfl)
    rw [pieces_cons_miss hx (p := p ++ [b]) (ps := []) (by rw [e]; rfl), ← h.1]; rfl
   | cons q init =>
    simp only [List.cons_append, List.cons.injEq] at h
    have e := pieces_snoc_miss hb l (p :: init) last (by rw [hp, h.2]; rfl)
    rw [pieces_cons_miss hx (p := p) (ps := init ++ [last ++ [b]]) (by rw [e]; rfl), h.1]; rfl
theorem pieces_take {c b : UInt8} {s : List UInt8} {i : Nat} {init : List (List UInt8)} {last : List UInt8} (hb : s[i]? = some b) (h : piecesB c (s.take i) = init ++ [last]) :
  piecesB c (s.take (i + 1)) = if b = c then (init ++ [last]) ++ [[]] else init ++ [last ++ [b]] := by
 have e : s.take (i + 1) = s.take i ++ [b] := by rw [List.take_add_one, hb]; rfl
 rw [e]
 split
 ·next hc => subst hc; rw [pieces_snoc_hit, h]
 ·next hc => exact pieces_snoc_miss hc _ _ _ h
theorem pieces_not (c : UInt8) : ∀ (l p : List UInt8), p ∈ piecesB c l → c ∉ p
 | [], p, h => by simp [piecesB] at h; subst h; simp
 | b :: l, p, h => by
  obtain ⟨q, ps, hq⟩ := pieces_form c l
  have ih := pieces_not c l
  rw [hq] at ih
  by_cases hb : b = c
  ·subst hb
   rw [pieces_cons_hit, hq] at h
   rcases List.mem_cons.1 h with rfl | h
   ·simp
   ·exact ih p h
  ·rw [pieces_cons_miss hb hq] at h
   rcases List.mem_cons.1 h with rfl | h
   ·intro hc
    rcases List.mem_cons.1 hc with e | hc
    ·exact hb e.symm
    ·exact ih q (by simp) hc
   ·exact ih p (by simp [h])
/-- Pieces, put together again. -/
def joinB (c : UInt8) : List (List UInt8) → List UInt8
 | [] => []
 | [p] => p
 | p :: q :: r => p ++ c :: joinB c (q :: r)
theorem join_cons {c : UInt8} {p : List UInt8} {l : List (List UInt8)} (h : l ≠ []) : joinB c (p :: l) = p ++ c :: joinB c l := by
 cases l with
 | nil => exact absurd rfl h
 | cons q r => rfl
theorem join_pieces (c : UInt8) : ∀ l : List UInt8, joinB c (piecesB c l) = l
 | [] => rfl
 | b :: l => by
  have ih := join_pieces c l
  obtain ⟨q, ps, hq⟩ := pieces_form c l
  by_cases hb : b = c
  ·subst hb; rw [pieces_cons_hit, join_cons (pieces_ne _ _), ih]; rfl
  ·rw [pieces_cons_miss hb hq]
   rw [hq] at ih
   cases ps with
   | nil => simp only [joinB] at ih ⊢; rw [ih]
   | cons r ps => simp only [joinB] at ih ⊢; rw [← ih]; rfl

/-! ### the library's cut and split, by one byte -/
theorem index_nil_one (c : UInt8) : index [] [c] = -1 := by simp [index]
theorem index_cons_one (b c : UInt8) (l : List UInt8) : index (b :: l) [c] = if b = c then 0 else if index l [c] = -1 then -1 else index l [c] + 1 := by
 rw [index]
 by_cases h : b = c
 ·simp [h, List.isPrefixOf]
 ·have h' : ¬ c = b := fun e => h e.symm
  simp [h, h', List.isPrefixOf]
theorem pieces_index_none {c : UInt8} : ∀ {s : List UInt8}, index s [c] = -1 → piecesB c s = [s]
 | [], _ => rfl
 | b :: l, h => by
  rw [index_cons_one] at h
  by_cases hb : b = c
  ·rw [if_pos hb] at h; omega
  ·rw [if_neg hb] at h
   by_cases hl : index l [c] = -1
   ·rw [pieces_cons_miss hb (pieces_index_none hl)]
   ·rw [if_neg hl] at h
    have := index_ge l [c]
    omega
theorem pieces_index_some {c : UInt8} : ∀ {s : List UInt8} {i : Nat}, index s [c] = i → piecesB c s = s.take i :: piecesB c (s.drop (i + 1))
 | [], i, h => by rw [index_nil_one] at h; omega
 | b :: l, i, h => by
  rw [index_cons_one] at h
  by_cases hb : b = c
  ·rw [if_pos hb] at h
   obtain rfl : i = 0 := by omega
   subst hb
   rw [pieces_cons_hit]; rfl
  ·rw [if_neg hb] at h
   by_cases hl : index l [c] = -1
   ·rw [if_pos hl] at h; omega
   ·rw [if_neg hl] at h
    have := index_ge l [c]
    obtain ⟨j, rfl⟩ : ∃ j, i = j + 1 := ⟨i - 1, by omega⟩
    rw [pieces_cons_miss hb (pieces_index_some (i := j) (by omega))]
    rfl
theorem cut_none {c : UInt8} {s : List UInt8} (h : piecesB c s = [s]) : cut s [c] = (s, [], false) := by
 unfold cut
 by_cases hi : 0 ≤ index s [c]
 ·obtain ⟨i, hi'⟩ : ∃ i : Nat, index s [c] = i := ⟨(index s [c]).toNat, by omega⟩
  have e := pieces_index_some hi'
  rw [h] at e
  have := pieces_ne c (s.drop (i + 1))
  simp only [List.cons.injEq] at e
  exact absurd e.2.symm this
 ·rw [if_neg hi]
theorem cut_some {c : UInt8} {s p : List UInt8} {q : List UInt8} {ps : List (List UInt8)} (h : piecesB c s = p :: q :: ps) : ∃ r, cut s [c] = (p, r, true) ∧ piecesB c r = q :: ps ∧ r.length + 1 ≤ s.length := by
 unfold cut
 by_cases hi : 0 ≤ index s [c]
 ·obtain ⟨i, hi'⟩ : ∃ i : Nat, index s [c] = i := ⟨(index s [c]).toNat, by omega⟩
  have e := pieces_index_some hi'
  have hr := index_room s [c] hi
  rw [h] at e
  simp only [List.cons.injEq] at e
  rw [if_pos hi, hi']
  refine ⟨s.drop (i + 1), ?_, e.2.symm, ?_⟩
  ·rw [e.1]; rfl
  ·rw [List.length_drop]
   rw [hi'] at hr
   simp only [List.length_cons, List.length_nil] at hr
   omega
 ·have hg := index_ge s [c]
  rw [pieces_index_none (by omega)] at h
  simp at h
theorem splitK_pieces (c : UInt8) : ∀ (n : Nat) (s : List UInt8), s.length ≤ n → splitK [c] 0 (count s [c]) s = piecesB c s
 | n, s, hn => by
  by_cases hi : index s [c] = -1
  ·rw [count_miss hi]
   rw [pieces_index_none hi]
   rfl
  ·have hg := index_ge s [c]
   obtain ⟨i, hi'⟩ : ∃ i : Nat, index s [c] = i := ⟨(index s [c]).toNat, by omega⟩
   have hr := index_room s [c] (by omega)
   rw [hi'] at hr
   simp only [List.length_cons, List.length_nil] at hr
   have hlen : (s.drop (i + 1)).length < s.length := by rw [List.length_drop]; omega
   rw [count_hit (by simp) hi', Nat.add_comm, splitK, if_neg (by simp [hi]), hi', pieces_index_some hi']
   cases n with
   | zero => omega
   | succ n =>
    have ih := splitK_pieces c n (s.drop (i + 1)) (by omega)
    simp only [List.length_cons, List.length_nil, Int.toNat_natCast, Nat.add_zero, Nat.zero_add]
    rw [ih]

/-! ### numbers -/
def digitB (b : UInt8) : Bool := decide (48 ≤ b.toNat ∧ b.toNat ≤ 57)
/-- One to four digits, without noughts ahead; -1: none. -/
def numB (s : List UInt8) : Int := if (1 ≤ s.length ∧ s.length ≤ 4 ∧ ¬ (s[0]? = some 48 ∧ 1 < s.length)) ∧ s.all digitB = true then (readD s : Int) else -1
def numsB (w : List (List UInt8)) : Option (List Int) := if w.all (fun s => decide (0 ≤ numB s)) = true then some (w.map numB) else none
theorem numB_of {s : List UInt8} (h : 1 ≤ s.length ∧ s.length ≤ 4 ∧ ¬ (s[0]? = some 48 ∧ 1 < s.length)) (h2 : s.all digitB = true) : numB s = (readD s : Int) := by unfold numB; rw [if_pos ⟨h, h2⟩]
theorem numB_no {s : List UInt8} (h : ¬ (1 ≤ s.length ∧ s.length ≤ 4 ∧ ¬ (s[0]? = some 48 ∧ 1 < s.length))) : numB s = -1 := by unfold numB; rw [if_neg (fun e => h e.1)]
theorem numB_bad {s : List UInt8} (h : s.all digitB = false) : numB s = -1 := by unfold numB; rw [if_neg (by simp [h])]
theorem readD_lt : ∀ (s : List UInt8), s.all digitB = true → readD s < 10 ^ s.length := by
 have key : ∀ (s : List UInt8) (a k : Nat), s.all digitB = true → a < 10 ^ k → s.foldl (fun a b => 10 * a + (b.toNat - 48)) a < 10 ^ (k + s.length) := by
  intro s
  induction s with
  | nil => intro a k _ h; exact h
  | cons b s ih =>
   intro a k h ha
   simp only [List.all_cons, Bool.and_eq_true, digitB, decide_eq_true_eq] at h
   have e : k + (b :: s).length = (k + 1) + s.length := by simp only [List.length_cons]; omega
   rw [List.foldl_cons, e]
   refine ih _ _ h.2 ?_
   rw [Nat.pow_succ]
   omega
 intro s h
 have := key s 0 0 h (by decide)
 rw [Nat.zero_add] at this
 exact this
theorem numB_range (s : List UInt8) : -1 ≤ numB s ∧ numB s < 10000 := by
 unfold numB
 split
 ·next h =>
  have h1 := readD_lt s h.2
  have h2 : 10 ^ s.length ≤ 10 ^ 4 := Nat.pow_le_pow_right (by decide) h.1.2.1
  omega
 ·omega
theorem numB_i64 (s : List UInt8) : I64 (numB s) := by have := numB_range s; constructor <;> omega
theorem numsB_nil : numsB [] = some [] := rfl
theorem numsB_some {w : List (List UInt8)} (h : w.all (fun s => decide (0 ≤ numB s)) = true) : numsB w = some (w.map numB) := by unfold numsB; rw [if_pos h]
theorem numsB_none {w : List (List UInt8)} (h : w.all (fun s => decide (0 ≤ numB s)) = false) : numsB w = none := by unfold numsB; rw [if_neg (by simp [h])]

/-! ### lines -/
abbrev noG : GraphD := ⟨0, [], []⟩
/-- What a line of a word and numbers makes of a graph. -/
def stepN (g : GraphD) (v : List UInt8) (n : List Int) : Option GraphD :=
 match n with
 | [a] => if v = wTime then some { g with h := a } else none
 | [a, b] => if v = wVertex then (if g.edges = [] then some { g with lives := g.lives ++ [⟨a, b⟩] } else none)
  else if v = wEdge then some { g with edges := g.edges ++ [⟨a, b, []⟩] } else none
 | [a, b, c, d] => if v = wLeg then
   match g.edges.getLast? with
   | none => none
   | some x => some { g with edges := g.edges.dropLast ++ [⟨x.a, x.b, x.legs ++ [⟨a, b, c, d⟩]⟩] }
  else none
 | _ => none
def stepG (g : GraphD) (first : Bool) : List (List UInt8) → Option GraphD
 | [] => none
 | v :: w => match numsB w with
  | none => none
  | some n => if first = decide (v = wTime) then stepN g v n else none
def finG (g : GraphD) : GraphD × Int × Int := if graphErr g = 0 then (g, 0, 0) else (noG, 0, graphErr g)
def readOut : Nat → GraphD → List (List UInt8) → GraphD × Int × Int
 | _, g, [] => finG g
 | i, g, [p] => if 0 < i ∧ p = [] then finG g else (noG, (i : Int) + 1, 3)
 | i, g, p :: q :: l => match stepG g (decide (i = 0)) (piecesB 32 p) with
  | none => (noG, (i : Int) + 1, 3)
  | some g' => readOut (i + 1) g' (q :: l)
/-- Parse's answer. -/
def parseD (s : List UInt8) : GraphD × Int × Int := if 8192 < s.length then (noG, 0, 2) else readOut 0 noG (piecesB 10 s)
theorem readOut_end {i : Nat} {g : GraphD} (h : 0 < i) : readOut i g [[]] = finG g := by rw [readOut, if_pos ⟨h, rfl⟩]
theorem readOut_cut {i : Nat} {g : GraphD} {p : List UInt8} (h : ¬ (0 < i ∧ p = [])) : readOut i g [p] = (noG, (i : Int) + 1, 3) := by rw [readOut, if_neg h]
theorem stepN_leg {g : GraphD} {l : List EdgeD} {x : EdgeD} {a b c d : Int} (h : g.edges = l ++ [x]) : stepN g wLeg [a, b, c, d] = some { g with edges := l ++ [⟨x.a, x.b, x.legs ++ [⟨a, b, c, d⟩]⟩] } := by
 simp [stepN, h]
theorem stepN_leg0 {g : GraphD} {a b c d : Int} (h : g.edges = []) : stepN g wLeg [a, b, c, d] = none := by
 simp [stepN, h]
end Go.Proofs.YtjcimdpldlamfaaGreatDoor
/- What the desk tells, in small: errors, numbers, pieces, words, lines; no program in sight. -/
namespace Go.Proofs.YtjcimdpldlamfaaGreatDoor
open Go.Lib

def wError : List UInt8 := [101, 114, 114, 111, 114, 32]
def errT (e : Int) : List UInt8 := wError ++ Lib.itoa e
def numT (n : Int) : List UInt8 := if n = 1099511627776 then [45] else Lib.itoa n
def wNone : List UInt8 := [110, 111, 110, 101]
def wOk : List UInt8 := [111, 107]
def toldT (l : List Int) (e : Int) : List UInt8 := if e = 0 then (if l = [] then wNone else joinB 32 (l.map numT)) else errT e
def pieceT (p : PieceD) : List UInt8 := Lib.itoa p.f ++ [45] ++ Lib.itoa p.t ++ [58] ++ Lib.itoa p.v
def piecesT (m : List PieceD) : List UInt8 := if m = [] then [45] else joinB 44 (m.map pieceT)
theorem join_lib (c : UInt8) : ∀ l : List (List UInt8), Lib.join l [c] = joinB c l
 | [] => rfl
 | [p] => Lib.join_one p [c]
 | p :: q :: r => by
  have ih := join_lib c (q :: r)
  rw [joinB, ← ih]
  simp [Lib.join, List.intercalate, List.intersperse]
theorem joinB_len {c : UInt8} {m : Nat} : ∀ {l : List (List UInt8)}, (∀ x, x ∈ l → x.length ≤ m) → (joinB c l).length ≤ l.length * (m + 1)
 | [], _ => by simp [joinB]
 | [p], h => by have := h p (by simp); simp [joinB]; omega
 | p :: q :: r, h => by
  have h1 := h p (by simp)
  have h2 := joinB_len (c := c) (l := q :: r) fun x hx => h x (by simp [hx])
  rw [joinB, List.length_append, List.length_cons]
  rw [List.length_cons, Nat.succ_mul]
  omega
theorem join_count (c : UInt8) : ∀ l : List (List UInt8), l.length ≤ (joinB c l).length + 1
 | [] => by simp
 | [p] => by simp
 | p :: q :: r => by
  have h := join_count c (q :: r)
  have e : (joinB c (p :: q :: r)).length = p.length + ((joinB c (q :: r)).length + 1) := by rw [joinB, List.length_append, List.length_cons]
  have e2 : (p :: q :: r).length = (q :: r).length + 1 := rfl
  omega
theorem numT_len {n : Int} (h : I64 n) : (numT n).length ≤ 21 := by
 unfold numT
 split
 ·simp
 ·exact Lib.itoa_length_le n h.1 h.2
theorem errT_len {e : Int} (h : I64 e) : (errT e).length ≤ 27 := by
 have := Lib.itoa_length_le e h.1 h.2
 have e6 : wError.length = 6 := rfl
 unfold errT
 rw [List.length_append, e6]
 omega
theorem toldT_len {l : List Int} {e : Int} (h : ∀ n, n ∈ l → I64 n) (he : I64 e) : (toldT l e).length ≤ l.length * 22 + 27 := by
 unfold toldT
 split
 ·split
  ·simp [wNone]
  ·have := joinB_len (c := 32) (m := 21) (l := l.map numT) fun x hx => by
    obtain ⟨n, hn, rfl⟩ := List.mem_map.1 hx
    exact numT_len (h n hn)
   rw [List.length_map] at this
   omega
 ·have := errT_len he
  omega
theorem pieceT_len {p : PieceD} (h1 : I64 p.f) (h2 : I64 p.t) (h3 : I64 p.v) : (pieceT p).length ≤ 65 := by
 have a := Lib.itoa_length_le p.f h1.1 h1.2
 have b := Lib.itoa_length_le p.t h2.1 h2.2
 have c := Lib.itoa_length_le p.v h3.1 h3.2
 unfold pieceT
 simp only [List.length_append, List.length_cons, List.length_nil]
 omega
theorem piecesT_len {m : List PieceD} (h : ∀ p, p ∈ m → I64 p.f ∧ I64 p.t ∧ I64 p.v) : (piecesT m).length ≤ m.length * 66 + 1 := by
 unfold piecesT
 split
 ·simp
 ·have := joinB_len (c := 44) (m := 65) (l := m.map pieceT) fun x hx => by
   obtain ⟨p, hp, rfl⟩ := List.mem_map.1 hx
   exact pieceT_len (h p hp).1 (h p hp).2.1 (h p hp).2.2
  rw [List.length_map] at this
  omega
end Go.Proofs.YtjcimdpldlamfaaGreatDoor
/- A region that draws its order and ends in an operation that waits for all others: a condition on the world is kept up to that last operation alone. -/
namespace Go.Proofs.YtjcimdpldlamfaaGreatDoor
open Go Go.RowKit

section
variable {P : Program} {ops : Array Oper} {Q : Exit → Act → World → Prop} {md : Region.Mode} {S : World → Prop}
/-- Whatever order is picked: behind each of the first n operations S holds. -/
def WpN (P : Program) (md : Region.Mode) (ops : Array Oper) (Q : Exit → Act → World → Prop) (S : World → Prop) (n : Nat) : Nat → Array Bool → Act → World → Prop
 | 0, listed, a, w => Region.ready md ops listed = [] ∧ Q .normal a w
 | f + 1, listed, a, w => (Region.ready md ops listed = [] → Q .normal a w) ∧
   ∀ i ∈ Region.ready md ops listed, wpOp P ops Q i (fun a' w' => (i < n → S w') ∧ WpN P md ops Q S n f (listed.setIfInBounds i true) a' w') a w
theorem WpN.any {n : Nat} : ∀ (f : Nat) (listed : Array Bool) (a : Act) (w : World), WpN P md ops Q S n f listed a w → wpAny P md ops Q f listed a w
 | 0, _, _, _, h => h
 | f + 1, _, _, _, h => ⟨h.1, fun i hi => wpOp_mono (fun _ _ h' => h'.2.any f _ _ _) (h.2 i hi)⟩
theorem WpN.first {n i : Nat} {oi : Oper} {v : Value} (hi : ops[i]? = some oi) (hsel : ∀ (j : Nat) (o : Oper) cs b, ops[j]? = some o → o.op ≠ .select cs b)
  (hQ : ∀ c a w, Q (.panic c) (a.put oi.dst v) w → Q (.panic c) a w) (hs : Region.sinkB md ops n = true) (hc : Region.chainB md ops n = true) (hn : n < ops.size) (hin : i < n) (f : Nat) :
  ∀ (listed : Array Bool) (a : Act) (w : World), HeadInv md ops n listed →
   (∀ j oj, ops[j]? = some oj → j ≠ i → listed.getD j true = false → (∀ e ∈ oj.after, Region.binds md e = true → e.on ≠ i) → oi.apart ops oj = true) →
   i ∈ Region.ready md ops listed → YieldsIf P ops S oi v a → S w → WpN P md ops Q S n f (listed.setIfInBounds i true) (a.put oi.dst v) w → WpN P md ops Q S n (f + 1) listed a w := by
 induction f with
 | zero =>
  intro listed a w inv _ hr hy hS H
  refine ⟨fun h => (by rw [h] at hr; cases hr), fun j hj => ?_⟩
  by_cases hji : j = i
  ·subst hji; exact hy.wpOp hi hS ⟨fun _ => hS, H⟩
  ·have h1 := ready_mono hj hji
   rw [H.1] at h1
   cases h1
 | succ f ih =>
  intro listed a w inv hfree hr hy hS H
  have hun := (mem_ready.1 hr).1
  refine ⟨fun h => (by rw [h] at hr; cases hr), fun j hj => ?_⟩
  have hjn : j < n := by
   rcases Nat.lt_or_ge j n with h | h
   ·exact h
   ·exact absurd hj (tail_waits hs hc hn inv _ i rfl hin hun j h)
  by_cases hji : j = i
  ·subst hji; exact hy.wpOp hi hS ⟨fun _ => hS, H⟩
  ·obtain ⟨hjun, oj, hoj, hall⟩ := mem_ready.1 hj
   have hnot : ∀ e ∈ oj.after, Region.binds md e = true → e.on ≠ i := fun e he hb heq => by
    have h2 := hall e he hb
    rw [heq, getD_both hun] at h2
    cases h2
   have h2 := wpOp_putIf hoj (hfree j oj hoj hji hjun hnot) (fun cs b => hsel i oi cs b hi) (fun cs b => hsel j oj cs b hoj) hQ hy (H.2 j (ready_mono hj hji))
   refine wpOp_mono (fun a' w' h3 => ⟨h3.2.1, ih (listed.setIfInBounds j true) a' w' (inv.set hj hjn) (fun k ok hk hki hu hno => hfree k ok hk hki ?_ hno) (ready_mono hr (Ne.symm hji)) h3.1 (h3.2.1 hjn) ?_⟩) h2
   ·by_cases hjk : j = k
    ·subst hjk; exact hjun
    ·rw [getD_set_ne true hjk] at hu; exact hu
   ·rw [Array.setIfInBounds_comm _ _ hji]
    exact h3.2.2
/-- The numbers that are listed, and that the rest is as it must be: one closed fact. -/
def headB (md : Region.Mode) (ops : Array Oper) (n : Nat) (listed : Array Bool) : Bool :=
 decide (listed.size = ops.size) && (List.range ops.size).all fun j => (decide (j < n) || !listed.getD j true) && (!listed.getD j false || match ops[j]? with
  | some oj => oj.after.all fun e => !Region.binds md e || listed.getD e.on false
  | none => true)
theorem headB_inv {n : Nat} {listed : Array Bool} (h : headB md ops n listed = true) : HeadInv md ops n listed := by
 simp only [headB, Bool.and_eq_true, decide_eq_true_eq, List.all_eq_true, List.mem_range] at h
 obtain ⟨h1, h2⟩ := h
 refine ⟨h1, fun j oj hj hl e he hb => ?_, fun t ht ht' => ?_⟩
 ·have h3 := (h2 j (Array.getElem?_eq_some_iff.1 hj).1).2
  rw [hl, hj] at h3
  simp only [Bool.not_true, Bool.false_or] at h3
  have h4 := Array.all_eq_true'.1 h3 e he
  simpa [hb] using h4
 ·have h3 := (h2 t ht').1
  simp only [Bool.or_eq_true, decide_eq_true_eq, Bool.not_eq_true'] at h3
  rcases h3 with h3 | h3
  ·omega
  ·exact h3
/-- Take number i first. -/
theorem WpN.take {n i : Nat} {oi : Oper} {v : Value} {f : Nat} {listed : Array Bool} {a : Act} {w : World} (hi : ops[i]? = some oi)
  (hB : (Region.noSelect ops && Region.free md ops listed i && (Region.ready md ops listed).contains i && Region.sinkB md ops n && Region.chainB md ops n && decide (n < ops.size) && decide (i < n) && headB md ops n listed) = true)
  (hQ : ∀ c a w, Q (.panic c) (a.put oi.dst v) w → Q (.panic c) a w) (hy : YieldsIf P ops S oi v a) (hS : S w)
  (h : WpN P md ops Q S n f (listed.setIfInBounds i true) (a.put oi.dst v) w) : WpN P md ops Q S n (f + 1) listed a w := by
 simp only [Bool.and_eq_true, decide_eq_true_eq] at hB
 obtain ⟨⟨⟨⟨⟨⟨⟨b1, b2⟩, b3⟩, b4⟩, b5⟩, b6⟩, b7⟩, b8⟩ := hB
 exact WpN.first hi (Region.noSelect_spec b1) hQ b4 b5 b6 b7 f listed a w (headB_inv b8) (Region.free_spec hi b2) (by simpa using b3) hy hS h
/-- One alone may come up. -/
theorem WpN.one {n i : Nat} {oi : Oper} {f : Nat} {listed : Array Bool} {a : Act} {w : World} (hi : ops[i]? = some oi) (hr : (Region.ready md ops listed == [i] && Region.wanted oi (yielded ops a.tmps)) = true)
  (h : ∀ K : Act → World → Prop, Hid (∀ a' w', ((i < n → S w') ∧ WpN P md ops Q S n f (listed.setIfInBounds i true) a' w') → K a' w') → Oper.wp P oi a w K Q) : WpN P md ops Q S n (f + 1) listed a w := by
 simp only [Bool.and_eq_true, beq_iff_eq] at hr
 obtain ⟨hr, hw⟩ := hr
 refine ⟨fun h0 => (by rw [h0] at hr; cases hr), fun j hj => ?_⟩
 rw [hr] at hj
 obtain rfl : j = i := by simpa using hj
 unfold wpOp
 simp only [hi, hw, if_true]
 exact .inl (h _ (Lib.hid fun _ _ h => h))
theorem WpN.done {n : Nat} {listed : Array Bool} {a : Act} {w : World} (hr : Region.ready md ops listed = []) (h : Q .normal a w) : ∀ f, WpN P md ops Q S n f listed a w
 | 0 => ⟨hr, h⟩
 | _ + 1 => ⟨fun _ => h, by rw [hr]; simp⟩
theorem WpN.begin {id : Nat} {a : Act} {w : World} (n : Nat) (hm : P.follows .mixedOrders = true) (h : WpN P .any ops Q S n ops.size (Array.replicate ops.size false) a w.drew) : (Code.region id ops true).wp P Q a w :=
 wp_region_any hm (h.any _ _ _ _)
end
end Go.Proofs.YtjcimdpldlamfaaGreatDoor
/- A region that draws its order and keeps a condition, step by step: one operation alone may come up; the way a guard that is false goes. -/
namespace Go.Proofs.YtjcimdpldlamfaaGreatDoor
open Go Go.RowKit

section
variable {P : Program} {ops : Array Oper} {Q : Exit → Act → World → Prop} {md : Region.Mode} {S : World → Prop}
theorem anyH_take {i : Nat} {oi : Oper} {v : Value} {f : Nat} {listed : Array Bool} {a : Act} {w : World} {d : Nat} (hi : ops[i]? = some oi) (hd : oi.dst = some d)
  (hB : (Region.noSelect ops && Region.free md ops listed i && (Region.ready md ops listed).contains i) = true)
  (hQ : ∀ c a w, Q (.panic c) (a.put (some d) v) w → Q (.panic c) a w) (hy : YieldsIf P ops S oi v a) (hS : S w)
  (h : wpAnyH P md ops Q S f (listed.setIfInBounds i true) (a.put (some d) v) w) : wpAnyH P md ops Q S (f + 1) listed a w := by
 simp only [Bool.and_eq_true] at hB
 obtain ⟨⟨b1, b2⟩, b3⟩ := hB
 rw [← hd] at hQ h
 exact wpAnyH_take hi b1 b2 b3 hQ hy hS h
/-- As WpN.take, the slot given outright. -/
theorem WpN.takeD {n i : Nat} {oi : Oper} {v : Value} {f : Nat} {listed : Array Bool} {a : Act} {w : World} {d : Nat} (hi : ops[i]? = some oi) (hd : oi.dst = some d)
  (hB : (Region.noSelect ops && Region.free md ops listed i && (Region.ready md ops listed).contains i && Region.sinkB md ops n && Region.chainB md ops n && decide (n < ops.size) && decide (i < n) && headB md ops n listed) = true)
  (hQ : ∀ c a w, Q (.panic c) (a.put (some d) v) w → Q (.panic c) a w) (hy : YieldsIf P ops S oi v a) (hS : S w)
  (h : WpN P md ops Q S n f (listed.setIfInBounds i true) (a.put (some d) v) w) : WpN P md ops Q S n (f + 1) listed a w := by
 rw [← hd] at hQ h
 exact WpN.take hi hB hQ hy hS h
/-- One alone may come up. -/
theorem anyH_one {i : Nat} {oi : Oper} {f : Nat} {listed : Array Bool} {a : Act} {w : World} (hi : ops[i]? = some oi) (hr : (Region.ready md ops listed == [i] && Region.wanted oi (yielded ops a.tmps)) = true)
  (h : ∀ K : Act → World → Prop, Hid (∀ a' w', (S w' ∧ wpAnyH P md ops Q S f (listed.setIfInBounds i true) a' w') → K a' w') → Oper.wp P oi a w K Q) : wpAnyH P md ops Q S (f + 1) listed a w := by
 simp only [Bool.and_eq_true, beq_iff_eq] at hr
 obtain ⟨hr, hw⟩ := hr
 refine ⟨fun h0 => (by rw [h0] at hr; cases hr), fun j hj => ?_⟩
 rw [hr] at hj
 obtain rfl : j = i := by simpa using hj
 unfold wpOp
 simp only [hi, hw, if_true]
 exact .inl (h _ (Lib.hid fun _ _ h => h))
end
end Go.Proofs.YtjcimdpldlamfaaGreatDoor
/- A region that draws its order, of which one operation writes: a condition on the world is kept until that one is done, and others may come behind it. -/
namespace Go.Proofs.YtjcimdpldlamfaaGreatDoor
open Go Go.RowKit

section
variable {P : Program} {ops : Array Oper} {Q : Exit → Act → World → Prop} {md : Region.Mode} {S : World → Prop}
/-- Whatever order is picked: S holds as long as operation n is not done. -/
def WpE (P : Program) (md : Region.Mode) (ops : Array Oper) (Q : Exit → Act → World → Prop) (S : World → Prop) (n : Nat) : Nat → Array Bool → Act → World → Prop
 | 0, listed, a, w => Region.ready md ops listed = [] ∧ Q .normal a w
 | f + 1, listed, a, w => (Region.ready md ops listed = [] → Q .normal a w) ∧
   ∀ i ∈ Region.ready md ops listed, wpOp P ops Q i (fun a' w' => ((listed.setIfInBounds i true).getD n true = false → S w') ∧ WpE P md ops Q S n f (listed.setIfInBounds i true) a' w') a w
theorem WpE.any {n : Nat} : ∀ (f : Nat) (listed : Array Bool) (a : Act) (w : World), WpE P md ops Q S n f listed a w → wpAny P md ops Q f listed a w
 | 0, _, _, _, h => h
 | f + 1, _, _, _, h => ⟨h.1, fun i hi => wpOp_mono (fun _ _ h' => h'.2.any f _ _ _) (h.2 i hi)⟩
/-- n waits for i. -/
def waitsB (md : Region.Mode) (ops : Array Oper) (n i : Nat) : Bool := match ops[n]? with
 | some o => o.after.any fun e => Region.binds md e && e.on == i
 | none => false
theorem waitsB_spec {n i : Nat} (h : waitsB md ops n i = true) {listed : Array Bool} (hu : listed.getD i true = false) : n ∉ Region.ready md ops listed := fun hn => by
 obtain ⟨_, oj, hoj, hall⟩ := mem_ready.1 hn
 unfold waitsB at h
 rw [hoj] at h
 obtain ⟨e, he, h2⟩ := Array.any_eq_true'.1 h
 simp only [Bool.and_eq_true, beq_iff_eq] at h2
 have h3 := hall e he h2.1
 rw [h2.2, getD_both hu] at h3
 cases h3
theorem WpE.first {n i : Nat} {oi : Oper} {v : Value} {T : World → Prop} (hi : ops[i]? = some oi) (hsel : ∀ (j : Nat) (o : Oper) cs b, ops[j]? = some o → o.op ≠ .select cs b)
  (hQ : ∀ c a w, Q (.panic c) (a.put oi.dst v) w → Q (.panic c) a w) (hin : i ≠ n) (hT : (waitsB md ops n i = true ∧ T = S) ∨ T = fun _ => True) (f : Nat) :
  ∀ (listed : Array Bool) (a : Act) (w : World),
   (∀ j oj, ops[j]? = some oj → j ≠ i → listed.getD j true = false → (∀ e ∈ oj.after, Region.binds md e = true → e.on ≠ i) → oi.apart ops oj = true) →
   i ∈ Region.ready md ops listed → YieldsIf P ops T oi v a → (listed.getD n true = false → S w) → (T = S → listed.getD n true = false ∨ T = fun _ => True) → WpE P md ops Q S n f (listed.setIfInBounds i true) (a.put oi.dst v) w → WpE P md ops Q S n (f + 1) listed a w := by
 have hTw : ∀ (listed : Array Bool) w, (listed.getD n true = false → S w) → (T = S → listed.getD n true = false ∨ T = fun _ => True) → T w := fun listed w hS hl => by
  rcases hT with ⟨_, h⟩ | h
  ·rcases hl h with h2 | h2
   ·rw [h]; exact hS h2
   ·rw [h2]; trivial
  ·rw [h]; trivial
 induction f with
 | zero =>
  intro listed a w _ hr hy hS hl H
  refine ⟨fun h => (by rw [h] at hr; cases hr), fun j hj => ?_⟩
  by_cases hji : j = i
  ·subst hji; exact hy.wpOp hi (hTw listed w hS hl) ⟨fun h => hS (by rwa [getD_set_ne true hin] at h), H⟩
  ·have h1 := ready_mono hj hji
   rw [H.1] at h1
   cases h1
 | succ f ih =>
  intro listed a w hfree hr hy hS hl H
  have hun := (mem_ready.1 hr).1
  refine ⟨fun h => (by rw [h] at hr; cases hr), fun j hj => ?_⟩
  by_cases hji : j = i
  ·subst hji; exact hy.wpOp hi (hTw listed w hS hl) ⟨fun h => hS (by rwa [getD_set_ne true hin] at h), H⟩
  ·obtain ⟨hjun, oj, hoj, hall⟩ := mem_ready.1 hj
   have hnot : ∀ e ∈ oj.after, Region.binds md e = true → e.on ≠ i := fun e he hb heq => by
    have h2 := hall e he hb
    rw [heq, getD_both hun] at h2
    cases h2
   have h2 := wpOp_putIf hoj (hfree j oj hoj hji hjun hnot) (fun cs b => hsel i oi cs b hi) (fun cs b => hsel j oj cs b hoj) hQ hy (H.2 j (ready_mono hj hji))
   have hsw : ((listed.setIfInBounds i true).setIfInBounds j true).getD n true = (listed.setIfInBounds j true).getD n true := by
    rw [Array.setIfInBounds_comm _ _ (Ne.symm hji), getD_set_ne true hin]
   refine wpOp_mono (fun a' w' h3 => ⟨fun h => h3.2.1 (by rw [hsw]; exact h), ih (listed.setIfInBounds j true) a' w' (fun k ok hk hki hu hno => hfree k ok hk hki ?_ hno) (ready_mono hr (Ne.symm hji)) h3.1 (fun h => h3.2.1 (by rw [hsw]; exact h)) (fun hTS => ?_) ?_⟩) h2
   ·by_cases hjk : j = k
    ·subst hjk; exact hjun
    ·rw [getD_set_ne true hjk] at hu; exact hu
   ·rcases hT with ⟨hw, _⟩ | h
    ·have hjn : j ≠ n := fun e => waitsB_spec hw hun (e ▸ hj)
     rcases hl hTS with h4 | h4
     ·exact .inl (by rw [getD_set_ne true hjn]; exact h4)
     ·exact .inr h4
    ·exact .inr h
   ·rw [Array.setIfInBounds_comm _ _ hji]
    exact h3.2.2
/-- Take number i first, which reads what S tells; n waits for it. -/
theorem WpE.takeD {n i : Nat} {oi : Oper} {v : Value} {f : Nat} {listed : Array Bool} {a : Act} {w : World} {d : Nat} (hi : ops[i]? = some oi) (hd : oi.dst = some d)
  (hB : (Region.noSelect ops && Region.free md ops listed i && (Region.ready md ops listed).contains i && waitsB md ops n i && decide (i ≠ n) && !listed.getD n true) = true)
  (hQ : ∀ c a w, Q (.panic c) (a.put (some d) v) w → Q (.panic c) a w) (hy : YieldsIf P ops S oi v a) (hS : S w)
  (h : WpE P md ops Q S n f (listed.setIfInBounds i true) (a.put (some d) v) w) : WpE P md ops Q S n (f + 1) listed a w := by
 simp only [Bool.and_eq_true, decide_eq_true_eq, Bool.not_eq_true'] at hB
 obtain ⟨⟨⟨⟨⟨b1, b2⟩, b3⟩, b4⟩, b5⟩, b6⟩ := hB
 rw [← hd] at hQ h
 exact WpE.first (T := S) hi (Region.noSelect_spec b1) hQ b5 (.inl ⟨b4, rfl⟩) f listed a w (Region.free_spec hi b2) (by simpa using b3) hy (fun _ => hS) (fun _ => .inl b6) h
/-- Take number i first, which reads no memory. -/
theorem WpE.freeD {n i : Nat} {oi : Oper} {v : Value} {f : Nat} {listed : Array Bool} {a : Act} {w : World} {d : Nat} (hi : ops[i]? = some oi) (hd : oi.dst = some d)
  (hB : (Region.noSelect ops && Region.free md ops listed i && (Region.ready md ops listed).contains i && decide (i ≠ n)) = true)
  (hQ : ∀ c a w, Q (.panic c) (a.put (some d) v) w → Q (.panic c) a w) (hy : YieldsIf P ops (fun _ => True) oi v a) (hS : S w)
  (h : WpE P md ops Q S n f (listed.setIfInBounds i true) (a.put (some d) v) w) : WpE P md ops Q S n (f + 1) listed a w := by
 simp only [Bool.and_eq_true, decide_eq_true_eq] at hB
 obtain ⟨⟨⟨b1, b2⟩, b3⟩, b4⟩ := hB
 rw [← hd] at hQ h
 exact WpE.first (T := fun _ => True) hi (Region.noSelect_spec b1) hQ b4 (.inr rfl) f listed a w (Region.free_spec hi b2) (by simpa using b3) hy (fun _ => hS) (fun _ => .inr rfl) h
/-- One alone may come up. -/
theorem WpE.one {n i : Nat} {oi : Oper} {f : Nat} {listed : Array Bool} {a : Act} {w : World} (hi : ops[i]? = some oi) (hr : (Region.ready md ops listed == [i] && Region.wanted oi (yielded ops a.tmps)) = true)
  (h : ∀ K : Act → World → Prop, Hid (∀ a' w', (((listed.setIfInBounds i true).getD n true = false → S w') ∧ WpE P md ops Q S n f (listed.setIfInBounds i true) a' w') → K a' w') → Oper.wp P oi a w K Q) : WpE P md ops Q S n (f + 1) listed a w := by
 simp only [Bool.and_eq_true, beq_iff_eq] at hr
 obtain ⟨hr, hw⟩ := hr
 refine ⟨fun h0 => (by rw [h0] at hr; cases hr), fun j hj => ?_⟩
 rw [hr] at hj
 obtain rfl : j = i := by simpa using hj
 unfold wpOp
 simp only [hi, hw, if_true]
 exact .inl (h _ (Lib.hid fun _ _ h => h))
theorem WpE.done {n : Nat} {listed : Array Bool} {a : Act} {w : World} (hr : Region.ready md ops listed = []) (h : Q .normal a w) : ∀ f, WpE P md ops Q S n f listed a w
 | 0 => ⟨hr, h⟩
 | _ + 1 => ⟨fun _ => h, by rw [hr]; simp⟩
theorem WpE.begin {id : Nat} {a : Act} {w : World} (n : Nat) (hm : P.follows .mixedOrders = true) (h : WpE P .any ops Q S n ops.size (Array.replicate ops.size false) a w.drew) : (Code.region id ops true).wp P Q a w :=
 wp_region_any hm (h.any _ _ _ _)
end
end Go.Proofs.YtjcimdpldlamfaaGreatDoor
