/- Several texts in one: ReadSpec, SumSpec, Number. -/
import Derived.Lib.SplitLaws
import Derived.Laws.BitsLemmas
import Derived.BigQuiet
import Derived.IntWalk
import Derived.Test.YtdpibehpmghghaaDoorBd0afb560576
import Derived.Test.YtdpibehpmghghaaDoorBd3ad2f3bfb1
import Derived.Test.YtdpibehpmghghaaDoorBdf0a653a3c9
import Derived.Test.YtdpibehpmghghaaDoorBd3df84f4302
import Derived.Test.YtdpibehpmghghaaDoorBd76cb561368
/- How a text is read as a graph (Parse, ReadGraph); no program in sight. -/
namespace Go.Proofs.YtdpibehpmghghaaDoor
open Go.Lib

/-! ### pieces between bytes of one sort -/
def piecesB (c : UInt8) : List UInt8 → List (List UInt8)
  | [] => [[]]
  | b :: l => if b = c then [] :: piecesB c l else (b :: (piecesB c l).headD []) :: (piecesB c l).tail
theorem pieces_ne (c : UInt8) (l : List UInt8) : piecesB c l ≠ [] := by
  cases l with
  | nil => simp [piecesB]
  | cons b l => simp only [piecesB]; split <;> simp
theorem pieces_form (c : UInt8) (l : List UInt8) : ∃ p ps, piecesB c l = p :: ps := by
  cases h : piecesB c l with
  | nil => exact absurd h (pieces_ne c l)
  | cons p ps => exact ⟨p, ps, rfl⟩
theorem pieces_last (c : UInt8) (l : List UInt8) : ∃ init last, piecesB c l = init ++ [last] := ⟨_, _, (List.dropLast_concat_getLast (pieces_ne c l)).symm⟩
theorem pieces_cons_hit (c : UInt8) (l : List UInt8) : piecesB c (c :: l) = [] :: piecesB c l := by simp [piecesB]
theorem pieces_cons_miss {b c : UInt8} {l p : List UInt8} {ps : List (List UInt8)} (h : b ≠ c) (hp : piecesB c l = p :: ps) : piecesB c (b :: l) = (b :: p) :: ps := by simp [piecesB, h, hp]
theorem pieces_snoc_hit (c : UInt8) : ∀ l : List UInt8, piecesB c (l ++ [c]) = piecesB c l ++ [[]]
  | [] => by simp [piecesB]
  | b :: l => by
    have ih := pieces_snoc_hit c l
    obtain ⟨p, ps, hp⟩ := pieces_form c l
    rw [List.cons_append]
    by_cases h : b = c
    · subst h; rw [pieces_cons_hit, pieces_cons_hit, ih]; rfl
    · rw [hp] at ih; rw [pieces_cons_miss h ih, pieces_cons_miss h hp]; rfl
theorem pieces_snoc_miss {b c : UInt8} (hb : b ≠ c) : ∀ (l : List UInt8) (init : List (List UInt8)) (last : List UInt8), piecesB c l = init ++ [last] → piecesB c (l ++ [b]) = init ++ [last ++ [b]]
  | [], init, last, h => by
    cases init with
    | nil =>
      have e : last = [] := by simpa [piecesB] using h.symm
      subst e
      simp [piecesB, hb]
    | cons q init => simp [piecesB] at h
  | x :: l, init, last, h => by
    obtain ⟨p, ps, hp⟩ := pieces_form c l
    rw [List.cons_append]
    by_cases hx : x = c
    · subst hx
      rw [pieces_cons_hit] at h ⊢
      cases init with
      | nil => rw [hp] at h; simp at h
      | cons q init =>
        simp only [List.cons_append, List.cons.injEq] at h
        rw [pieces_snoc_miss hb l init last h.2, ← h.1]; rfl
    · rw [pieces_cons_miss hx hp] at h
      cases init with
      | nil =>
        simp only [List.nil_append, List.cons.injEq] at h
        have e := pieces_snoc_miss hb l [] p (by rw [hp, h.2]; rfl)
        rw [pieces_cons_miss hx (p := p ++ [b]) (ps := []) (by rw [e]; rfl), ← h.1]; rfl
      | cons q init =>
        simp only [List.cons_append, List.cons.injEq] at h
        have e := pieces_snoc_miss hb l (p :: init) last (by rw [hp, h.2]; rfl)
        rw [pieces_cons_miss hx (p := p) (ps := init ++ [last ++ [b]]) (by rw [e]; rfl), h.1]; rfl
theorem pieces_take {c b : UInt8} {s : List UInt8} {i : Nat} {init : List (List UInt8)} {last : List UInt8} (hb : s[i]? = some b) (h : piecesB c (s.take i) = init ++ [last]) :
    piecesB c (s.take (i + 1)) = if b = c then (init ++ [last]) ++ [[]] else init ++ [last ++ [b]] := by
  have e : s.take (i + 1) = s.take i ++ [b] := by rw [List.take_add_one, hb]; rfl
  rw [e]
  split
  · next hc => subst hc; rw [pieces_snoc_hit, h]
  · next hc => exact pieces_snoc_miss hc _ _ _ h
/-- A piece without the byte, and what is behind it. -/
theorem pieces_app (c : UInt8) (r : List UInt8) : ∀ p : List UInt8, c ∉ p → piecesB c (p ++ c :: r) = p :: piecesB c r
  | [], _ => by rw [List.nil_append, pieces_cons_hit]
  | b :: p, h => by
    simp only [List.mem_cons, not_or] at h
    rw [List.cons_append, pieces_cons_miss (fun e => h.1 e.symm) (pieces_app c r p h.2)]
theorem pieces_alone (c : UInt8) : ∀ p : List UInt8, c ∉ p → piecesB c p = [p]
  | [], _ => rfl
  | b :: p, h => by
    simp only [List.mem_cons, not_or] at h
    rw [pieces_cons_miss (fun e => h.1 e.symm) (pieces_alone c p h.2)]
theorem pieces_not (c : UInt8) : ∀ (l p : List UInt8), p ∈ piecesB c l → c ∉ p
  | [], p, h => by simp [piecesB] at h; subst h; simp
  | b :: l, p, h => by
    obtain ⟨q, ps, hq⟩ := pieces_form c l
    have ih := pieces_not c l
    rw [hq] at ih
    by_cases hb : b = c
    · subst hb
      rw [pieces_cons_hit, hq] at h
      rcases List.mem_cons.1 h with rfl | h
      · simp
      · exact ih p h
    · rw [pieces_cons_miss hb hq] at h
      rcases List.mem_cons.1 h with rfl | h
      · intro hc
        rcases List.mem_cons.1 hc with e | hc
        · exact hb e.symm
        · exact ih q (by simp) hc
      · exact ih p (by simp [h])
/-- Pieces, put together again. -/
def joinB (c : UInt8) : List (List UInt8) → List UInt8
  | [] => []
  | [p] => p
  | p :: q :: r => p ++ c :: joinB c (q :: r)
theorem join_cons {c : UInt8} {p : List UInt8} {l : List (List UInt8)} (h : l ≠ []) : joinB c (p :: l) = p ++ c :: joinB c l := by
  cases l with
  | nil => exact absurd rfl h
  | cons q r => rfl
theorem join_pieces (c : UInt8) : ∀ l : List UInt8, joinB c (piecesB c l) = l
  | [] => rfl
  | b :: l => by
    have ih := join_pieces c l
    obtain ⟨q, ps, hq⟩ := pieces_form c l
    by_cases hb : b = c
    · subst hb; rw [pieces_cons_hit, join_cons (pieces_ne _ _), ih]; rfl
    · rw [pieces_cons_miss hb hq]
      rw [hq] at ih
      cases ps with
      | nil => simp only [joinB] at ih ⊢; rw [ih]
      | cons r ps => simp only [joinB] at ih ⊢; rw [← ih]; rfl

/-! ### the library's cut and split, by one byte -/
theorem index_nil_one (c : UInt8) : index [] [c] = -1 := by simp [index]
theorem index_cons_one (b c : UInt8) (l : List UInt8) : index (b :: l) [c] = if b = c then 0 else if index l [c] = -1 then -1 else index l [c] + 1 := by
  rw [index]
  by_cases h : b = c
  · simp [h, List.isPrefixOf]
  · have h' : ¬ c = b := fun e => h e.symm
    simp [h, h', List.isPrefixOf]
theorem pieces_index_none {c : UInt8} : ∀ {s : List UInt8}, index s [c] = -1 → piecesB c s = [s]
  | [], _ => rfl
  | b :: l, h => by
    rw [index_cons_one] at h
    by_cases hb : b = c
    · rw [if_pos hb] at h; omega
    · rw [if_neg hb] at h
      by_cases hl : index l [c] = -1
      · rw [pieces_cons_miss hb (pieces_index_none hl)]
      · rw [if_neg hl] at h
        have := index_ge l [c]
        omega
theorem pieces_index_some {c : UInt8} : ∀ {s : List UInt8} {i : Nat}, index s [c] = i → piecesB c s = s.take i :: piecesB c (s.drop (i + 1))
  | [], i, h => by rw [index_nil_one] at h; omega
  | b :: l, i, h => by
    rw [index_cons_one] at h
    by_cases hb : b = c
    · rw [if_pos hb] at h
      obtain rfl : i = 0 := by omega
      subst hb
      rw [pieces_cons_hit]; rfl
    · rw [if_neg hb] at h
      by_cases hl : index l [c] = -1
      · rw [if_pos hl] at h; omega
      · rw [if_neg hl] at h
        have := index_ge l [c]
        obtain ⟨j, rfl⟩ : ∃ j, i = j + 1 := ⟨i - 1, by omega⟩
        rw [pieces_cons_miss hb (pieces_index_some (i := j) (by omega))]
        rfl
theorem cut_none {c : UInt8} {s : List UInt8} (h : piecesB c s = [s]) : cut s [c] = (s, [], false) := by
  unfold cut
  by_cases hi : 0 ≤ index s [c]
  · obtain ⟨i, hi'⟩ : ∃ i : Nat, index s [c] = i := ⟨(index s [c]).toNat, by omega⟩
    have e := pieces_index_some hi'
    rw [h] at e
    have := pieces_ne c (s.drop (i + 1))
    simp only [List.cons.injEq] at e
    exact absurd e.2.symm this
  · rw [if_neg hi]
theorem cut_some {c : UInt8} {s p : List UInt8} {q : List UInt8} {ps : List (List UInt8)} (h : piecesB c s = p :: q :: ps) : ∃ r, cut s [c] = (p, r, true) ∧ piecesB c r = q :: ps ∧ r.length + 1 ≤ s.length := by
  unfold cut
  by_cases hi : 0 ≤ index s [c]
  · obtain ⟨i, hi'⟩ : ∃ i : Nat, index s [c] = i := ⟨(index s [c]).toNat, by omega⟩
    have e := pieces_index_some hi'
    have hr := index_room s [c] hi
    rw [h] at e
    simp only [List.cons.injEq] at e
    rw [if_pos hi, hi']
    refine ⟨s.drop (i + 1), ?_, e.2.symm, ?_⟩
    · rw [e.1]; rfl
    · rw [List.length_drop]
      rw [hi'] at hr
      simp only [List.length_cons, List.length_nil] at hr
      omega
  · have hg := index_ge s [c]
    rw [pieces_index_none (by omega)] at h
    simp at h
theorem splitK_pieces (c : UInt8) : ∀ (n : Nat) (s : List UInt8), s.length ≤ n → splitK [c] 0 (count s [c]) s = piecesB c s
  | n, s, hn => by
    by_cases hi : index s [c] = -1
    · rw [count_miss hi]
      rw [pieces_index_none hi]
      rfl
    · have hg := index_ge s [c]
      obtain ⟨i, hi'⟩ : ∃ i : Nat, index s [c] = i := ⟨(index s [c]).toNat, by omega⟩
      have hr := index_room s [c] (by omega)
      rw [hi'] at hr
      simp only [List.length_cons, List.length_nil] at hr
      have hlen : (s.drop (i + 1)).length < s.length := by rw [List.length_drop]; omega
      rw [count_hit (by simp) hi', Nat.add_comm, splitK, if_neg (by simp [hi]), hi', pieces_index_some hi']
      cases n with
      | zero => omega
      | succ n =>
        have ih := splitK_pieces c n (s.drop (i + 1)) (by omega)
        simp only [List.length_cons, List.length_nil, Int.toNat_natCast, Nat.add_zero, Nat.zero_add]
        rw [ih]

/-! ### numbers -/
def digitB (b : UInt8) : Bool := decide (48 ≤ b.toNat ∧ b.toNat ≤ 57)
/-- One to four digits, without noughts ahead; -1: none. -/
def numB (s : List UInt8) : Int := if (1 ≤ s.length ∧ s.length ≤ 4 ∧ ¬ (s[0]? = some 48 ∧ 1 < s.length)) ∧ s.all digitB = true then (readD s : Int) else -1
def numsB (w : List (List UInt8)) : Option (List Int) := if w.all (fun s => decide (0 ≤ numB s)) = true then some (w.map numB) else none
theorem numB_of {s : List UInt8} (h : 1 ≤ s.length ∧ s.length ≤ 4 ∧ ¬ (s[0]? = some 48 ∧ 1 < s.length)) (h2 : s.all digitB = true) : numB s = (readD s : Int) := by unfold numB; rw [if_pos ⟨h, h2⟩]
theorem numB_no {s : List UInt8} (h : ¬ (1 ≤ s.length ∧ s.length ≤ 4 ∧ ¬ (s[0]? = some 48 ∧ 1 < s.length))) : numB s = -1 := by unfold numB; rw [if_neg (fun e => h e.1)]
theorem numB_bad {s : List UInt8} (h : s.all digitB = false) : numB s = -1 := by unfold numB; rw [if_neg (by simp [h])]
theorem readD_lt : ∀ (s : List UInt8), s.all digitB = true → readD s < 10 ^ s.length := by
  have key : ∀ (s : List UInt8) (a k : Nat), s.all digitB = true → a < 10 ^ k → s.foldl (fun a b => 10 * a + (b.toNat - 48)) a < 10 ^ (k + s.length) := by
    intro s
    induction s with
    | nil => intro a k _ h; exact h
    | cons b s ih =>
      intro a k h ha
      simp only [List.all_cons, Bool.and_eq_true, digitB, decide_eq_true_eq] at h
      have e : k + (b :: s).length = (k + 1) + s.length := by simp only [List.length_cons]; omega
      rw [List.foldl_cons, e]
      refine ih _ _ h.2 ?_
      rw [Nat.pow_succ]
      omega
  intro s h
  have := key s 0 0 h (by decide)
  rw [Nat.zero_add] at this
  exact this
theorem numB_range (s : List UInt8) : -1 ≤ numB s ∧ numB s < 10000 := by
  unfold numB
  split
  · next h =>
    have h1 := readD_lt s h.2
    have h2 : 10 ^ s.length ≤ 10 ^ 4 := Nat.pow_le_pow_right (by decide) h.1.2.1
    omega
  · omega
theorem numB_i64 (s : List UInt8) : I64 (numB s) := by have := numB_range s; constructor <;> omega
theorem numsB_nil : numsB [] = some [] := rfl
theorem numsB_some {w : List (List UInt8)} (h : w.all (fun s => decide (0 ≤ numB s)) = true) : numsB w = some (w.map numB) := by unfold numsB; rw [if_pos h]
theorem numsB_none {w : List (List UInt8)} (h : w.all (fun s => decide (0 ≤ numB s)) = false) : numsB w = none := by unfold numsB; rw [if_neg (by simp [h])]

/-! ### lines -/
abbrev noG : GraphD := ⟨0, [], []⟩
/-- What a line of a word and numbers makes of a graph. -/
def stepN (g : GraphD) (v : List UInt8) (n : List Int) : Option GraphD :=
  match n with
  | [a] => if v = wTime then some { g with h := a } else none
  | [a, b] => if v = wVertex then (if g.edges = [] then some { g with lives := g.lives ++ [⟨a, b⟩] } else none)
    else if v = wEdge then some { g with edges := g.edges ++ [⟨a, b, []⟩] } else none
  | [a, b, c, d] => if v = wLeg then
      match g.edges.getLast? with
      | none => none
      | some x => some { g with edges := g.edges.dropLast ++ [⟨x.a, x.b, x.legs ++ [⟨a, b, c, d⟩]⟩] }
    else none
  | _ => none
def stepG (g : GraphD) (first : Bool) : List (List UInt8) → Option GraphD
  | [] => none
  | v :: w => match numsB w with
    | none => none
    | some n => if first = decide (v = wTime) then stepN g v n else none
def finG (g : GraphD) : GraphD × Int × Int := if graphErr g = 0 then (g, 0, 0) else (noG, 0, graphErr g)
def readOut : Nat → GraphD → List (List UInt8) → GraphD × Int × Int
  | _, g, [] => finG g
  | i, g, [p] => if 0 < i ∧ p = [] then finG g else (noG, (i : Int) + 1, 3)
  | i, g, p :: q :: l => match stepG g (decide (i = 0)) (piecesB 32 p) with
    | none => (noG, (i : Int) + 1, 3)
    | some g' => readOut (i + 1) g' (q :: l)
/-- Parse's answer. -/
def parseD (s : List UInt8) : GraphD × Int × Int := if 8192 < s.length then (noG, 0, 2) else readOut 0 noG (piecesB 10 s)
theorem readOut_end {i : Nat} {g : GraphD} (h : 0 < i) : readOut i g [[]] = finG g := by rw [readOut, if_pos ⟨h, rfl⟩]
theorem readOut_cut {i : Nat} {g : GraphD} {p : List UInt8} (h : ¬ (0 < i ∧ p = [])) : readOut i g [p] = (noG, (i : Int) + 1, 3) := by rw [readOut, if_neg h]
theorem readOut_bad {i : Nat} {g : GraphD} {p q : List UInt8} {l : List (List UInt8)} (h : stepG g (decide (i = 0)) (piecesB 32 p) = none) : readOut i g (p :: q :: l) = (noG, (i : Int) + 1, 3) := by rw [readOut, h]
theorem readOut_next {i : Nat} {g g' : GraphD} {p q : List UInt8} {l : List (List UInt8)} (h : stepG g (decide (i = 0)) (piecesB 32 p) = some g') : readOut i g (p :: q :: l) = readOut (i + 1) g' (q :: l) := by rw [readOut, h]
theorem stepN_leg {g : GraphD} {l : List EdgeD} {x : EdgeD} {a b c d : Int} (h : g.edges = l ++ [x]) : stepN g wLeg [a, b, c, d] = some { g with edges := l ++ [⟨x.a, x.b, x.legs ++ [⟨a, b, c, d⟩]⟩] } := by
  simp [stepN, h]
theorem stepN_leg0 {g : GraphD} {a b c d : Int} (h : g.edges = []) : stepN g wLeg [a, b, c, d] = none := by
  simp [stepN, h]
end Go.Proofs.YtdpibehpmghghaaDoor
/- The sum of bytes, as a plain Lean function; the laws of bits that its walks need. No program in sight. -/
namespace Go.Proofs.YtdpibehpmghghaaDoor
open Go.RowKit

theorem wraps_u32 (n : Int) (h0 : 0 ≤ n) (h1 : n < 2 ^ 32) : IntKind.u32.wrap n = n := by rw [IntKind.wrap_u32]; omega
theorem xor_u32 (a b : Nat) (ha : a < 4294967296) (hb : b < 4294967296) : bits .xor .u32 (a : Int) (b : Int) = ((a ^^^ b : Nat) : Int) := by
  have ha' : a % 2 ^ IntKind.u32.bits = a := Nat.mod_eq_of_lt ha
  have hb' : b % 2 ^ IntKind.u32.bits = b := Nat.mod_eq_of_lt hb
  have hx : a ^^^ b < 2 ^ 32 := Nat.xor_lt_two_pow ha hb
  simp only [bits, BitVec.ofInt_natCast, BitVec.toNat_xor, BitVec.toNat_ofNat, ha', hb']
  exact wraps_u32 _ (Int.natCast_nonneg _) (by exact_mod_cast hx)
theorem and_u32 (a : Nat) (ha : a < 4294967296) : bits .and .u32 (a : Int) 1 = ((a % 2 : Nat) : Int) := by
  have h := (bits_nat .u32 32 (by decide) wraps_u32 a 1 (by omega) (by decide)).1
  rw [Nat.and_one_is_mod] at h
  exact h

def poly : Nat := 3988292384
/-- One bit. -/
def crcBit (r c : Nat) : Nat := if r % 2 = c % 2 then r / 2 else (r / 2) ^^^ poly
/-- n bits of a byte, from number k on. -/
def crcB : Nat → Nat → Nat → Nat → Nat
  | 0, _, r, _ => r
  | n + 1, k, r, b => crcB n (k + 1) (crcBit r (b / 2 ^ k)) b
def byteAt (s : ByteArray) (k : Nat) : Nat := if h : k < s.size then s[k].toNat else 0
theorem byteAt_of {s : ByteArray} {k : Nat} (h : k < s.size) : byteAt s k = s[k].toNat := by simp [byteAt, h]
theorem byteAt_lt (s : ByteArray) (k : Nat) : byteAt s k < 256 := by
  unfold byteAt
  split
  · exact UInt8.toNat_lt _
  · omega
/-- What the first k bytes leave. -/
def crcF (s : ByteArray) : Nat → Nat
  | 0 => 4294967295
  | k + 1 => crcB 8 0 (crcF s k) (byteAt s k)
def crc (s : ByteArray) : Nat := 4294967295 - crcF s s.size
theorem crcBit_lt {r c : Nat} (h : r < 4294967296) : crcBit r c < 4294967296 := by
  unfold crcBit
  split
  · omega
  · exact Nat.xor_lt_two_pow (n := 32) (by omega) (by decide)
theorem crcB_lt : ∀ (n k r b : Nat), r < 4294967296 → crcB n k r b < 4294967296
  | 0, _, _, _, h => h
  | n + 1, k, _, b, h => crcB_lt n (k + 1) _ b (crcBit_lt h)
theorem crcF_lt (s : ByteArray) : ∀ k, crcF s k < 4294967296
  | 0 => by simp [crcF]
  | k + 1 => crcB_lt _ _ _ _ (crcF_lt s k)
theorem xor_low {r c : Nat} : (r ^^^ c) % 2 = if r % 2 = c % 2 then 0 else 1 := by
  have h := @Nat.xor_mod_two_eq_one r c
  split
  · rename_i h1
    rcases Nat.mod_two_eq_zero_or_one (r ^^^ c) with h2 | h2
    · exact h2
    · exfalso; rw [h, h1] at h2; exact h2 Iff.rfl
  · rename_i h1
    rw [h]
    omega
theorem xor_half {r b k : Nat} : (r ^^^ (b / 2 ^ k)) / 2 = (r / 2) ^^^ (b / 2 ^ (k + 1)) := by
  rw [Nat.xor_div_two, Nat.div_div_eq_div_mul, ← Nat.pow_succ]
theorem xor_half_poly {r b k : Nat} : ((r ^^^ (b / 2 ^ k)) / 2) ^^^ poly = ((r / 2) ^^^ poly) ^^^ (b / 2 ^ (k + 1)) := by
  rw [xor_half, Nat.xor_assoc, Nat.xor_comm (b / 2 ^ (k + 1)) poly, ← Nat.xor_assoc]
theorem xor_not {r : Nat} (h : r < 4294967296) : 4294967295 ^^^ r = 4294967295 - r := by
  have e : 2 ^ 32 - (r + 1) = 4294967295 - r := by omega
  rw [← e]
  apply Nat.eq_of_testBit_eq
  intro i
  rw [Nat.testBit_two_pow_sub_succ (n := 32) h, Nat.testBit_xor, show (4294967295 : Nat) = 2 ^ 32 - 1 by rfl, Nat.testBit_two_pow_sub_one]
  by_cases hi : i < 32
  · simp [hi]
  · have : r.testBit i = false := Nat.testBit_lt_two_pow (Nat.lt_of_lt_of_le h (show (2 : Nat) ^ 32 ≤ 2 ^ i from Nat.pow_le_pow_right (by decide) (by omega)))
    simp [hi, this]
end Go.Proofs.YtdpibehpmghghaaDoor
/- The walks of graph.Number, graph.numbers and of the document's Digits, Numbers. -/

namespace Go.Proofs.YtdpibehpmghghaaDoor
open Go.RowKit

theorem bs_size (l : List UInt8) : (bs l).size = l.length := by simp [ByteArray.size]
theorem bs_at {l : List UInt8} {k : Nat} {b : UInt8} (h : l[k]? = some b) : byteAt (bs l) k = b.toNat := by
  have hk := lt_of_get h
  rw [byteAt_of (by rw [bs_size]; exact hk)]
  obtain ⟨_, rfl⟩ := List.getElem?_eq_some_iff.1 h
  rfl
theorem u8_eq {a : UInt8} {n : Nat} (hn : n < 256) : a = UInt8.ofNat n ↔ a.toNat = n := by
  constructor
  · intro h; subst h; rw [UInt8.toNat_ofNat']; omega
  · intro h; apply UInt8.toNat_inj.1; rw [UInt8.toNat_ofNat', h]; omega
theorem digitB_true {b : UInt8} (h : 48 ≤ b.toNat ∧ b.toNat ≤ 57) : digitB b = true := by simpa [digitB] using h
theorem digitB_false {b : UInt8} (h : ¬ (48 ≤ b.toNat ∧ b.toNat ≤ 57)) : digitB b = false := by simp only [digitB, decide_eq_false_iff_not]; exact h
theorem all_take {l : List UInt8} {k : Nat} {b : UInt8} (hb : l[k]? = some b) (h : (l.take k).all digitB = true) (hd : digitB b = true) : (l.take (k + 1)).all digitB = true := by
  rw [List.take_add_one, hb, List.all_append, h]
  simp [hd]
theorem all_not {l : List UInt8} {k : Nat} {b : UInt8} (hb : l[k]? = some b) (hd : digitB b = false) : l.all digitB = false := by
  rw [List.all_eq_false]
  exact ⟨b, List.mem_of_getElem? hb, by simp [hd]⟩
theorem readD_take {l : List UInt8} {k : Nat} {b : UInt8} (hb : l[k]? = some b) : readD (l.take (k + 1)) = 10 * readD (l.take k) + (b.toNat - 48) := by
  have e : l.take (k + 1) = l.take k ++ [b] := by rw [List.take_add_one, hb]; rfl
  rw [e, readD_snoc]
theorem readD_small {l : List UInt8} {k : Nat} (h : (l.take k).all digitB = true) (hk : k ≤ 4) : readD (l.take k) < 10000 := by
  have h1 := readD_lt _ h
  have h2 : 10 ^ (l.take k).length ≤ 10 ^ 4 := Nat.pow_le_pow_right (by decide) (by rw [List.length_take]; omega)
  omega
set_option maxHeartbeats 2000000 in
theorem wordNum_any (l : List UInt8) (w : World) (hl : l.length ≤ 9223372036854775807) : Calls Tryd.prog 95 #[.string (bs l)] w fun e w' => e = .returned (.int .i64 (numB l)) ∧ Below w.heap.size w w' := by
  obtain ⟨s, hs⟩ : ∃ s, bs l = s := ⟨_, rfl⟩
  have hsz : s.size = l.length := by rw [← hs, bs_size]
  have HB : Hid (∀ k b, l[k]? = some b → byteAt s k = b.toNat) := Lib.hid fun k b h => by rw [← hs]; exact bs_at h
  rw [hs]
  have hl' : s.size ≤ 9223372036854775807 := by omega
  clear hs
  by_cases h1 : 1 ≤ s.size ∧ s.size ≤ 4
  case neg =>
    have HN : Hid (numB l = -1) := Lib.hid (numB_no fun h => h1 (by rw [hsz]; exact ⟨h.1, h.2.1⟩))
    rw [HN.out]
    clear hsz
    go_enter Tryd.func95, Tryd.ntmps95
    go_wp2_with (go_at_call 35; refine (within_no _ _ _ _ (by omega)).mono ?_; rintro e w' ⟨rfl, rfl⟩)
    go_ret
    exact ⟨rfl, by go_grown⟩
  obtain ⟨b0, hb0⟩ := get_lt (show 0 < l.length by omega)
  have hb0' := HB.out 0 b0 hb0
  have i0 : 0 < s.size := by omega
  have g0 : ((s[0]'i0).toNat) = byteAt s 0 := (byteAt_of i0).symm
  by_cases h2 : b0 = 48 ∧ 1 < l.length
  case pos =>
    have HN : Hid (numB l = -1) := Lib.hid (numB_no fun h => h.2.2 ⟨by rw [hb0, h2.1], h2.2⟩)
    rw [HN.out]
    have q1 : ((byteAt s 0 : Int) == 48) = true := by rw [hb0', h2.1]; rfl
    have q2 : decide ((s.size : Int) > 1) = true := by simp; omega
    clear hsz h2 hb0 hb0'
    go_enter Tryd.func95, Tryd.ntmps95
    go_wp2_with (go_at_call 35; refine (within_yes _ _ _ _ (by omega)).mono ?_; rintro e w' ⟨rfl, rfl⟩)
    go_ret
    exact ⟨rfl, by go_grown⟩
  have H3 : Hid (1 ≤ l.length ∧ l.length ≤ 4 ∧ ¬ (l[0]? = some 48 ∧ 1 < l.length)) := Lib.hid ⟨by omega, by omega, fun h => h2 ⟨by rw [hb0] at h; exact Option.some.inj h.1, h.2⟩⟩
  have h4 : s.size ≤ 4 := h1.2
  have hq : (((byteAt s 0 : Int) == 48) = true ∧ decide ((s.size : Int) > 1) = false) ∨ ((byteAt s 0 : Int) == 48) = false := by
    by_cases hb : b0 = 48
    · left
      refine ⟨by rw [hb0', hb]; rfl, ?_⟩
      simp
      have : ¬ 1 < l.length := fun h => h2 ⟨hb, h⟩
      omega
    · right
      have : b0.toNat ≠ 48 := fun h => hb (by apply UInt8.toNat_inj.1; rw [h]; rfl)
      rw [hb0']
      simp
      omega
  have HSZ := Lib.hid hsz
  clear h2 hb0 hb0' hsz hl
  rcases hq with ⟨q1, q2⟩ | q1
  all_goals
    go_enter Tryd.func95, Tryd.ntmps95
    go_wp2_with (go_at_call 35; refine (within_yes _ _ _ _ (by omega)).mono ?_; rintro e w' ⟨rfl, rfl⟩)
    go_loopw [3, 21] (fun n i wr => ∃ k : Nat, k ≤ s.size ∧ i = .int .i64 k ∧ n = .int .i64 (readD (l.take k) : Nat) ∧ Hid ((l.take k).all digitB = true) ∧ Below w.heap.size w wr) (fun _ i _ => s.size - (intOf i).toNat)
    case atStart => exact ⟨0, Nat.zero_le _, rfl, rfl, Lib.hid rfl, Below.refl _ _⟩
    case round =>
      obtain ⟨k, hk, rfl, rfl, HD, hb⟩ := hrel
      have hr := readD_small HD.out (by omega)
      clear q1 g0
      try clear q2
      by_cases hlt : k < s.size
      case neg =>
        obtain rfl : k = s.size := by omega
        have HN : Hid (numB l = (readD (l.take s.size) : Int)) := Lib.hid (by
          rw [HSZ.out, List.take_length]
          refine numB_of H3.out ?_
          have := HD.out
          rwa [HSZ.out, List.take_length] at this)
        obtain ⟨r, hr'⟩ : ∃ r, readD (l.take s.size) = r := ⟨_, rfl⟩
        rw [hr'] at hr HN ⊢
        clear hr'
        go_wp2_with fail
        go_ret
        exact ⟨by rw [HN.out]; rfl, hb⟩
      case pos =>
        obtain ⟨b, hbk⟩ := get_lt (show k < l.length by rw [← HSZ.out]; exact hlt)
        have hb' := HB.out k b hbk
        have g1 : ((s[k]'hlt).toNat) = byteAt s k := (byteAt_of hlt).symm
        have hb8 := byteAt_lt s k
        by_cases hd : 48 ≤ b.toNat ∧ b.toNat ≤ 57
        case neg =>
          have HN : Hid (numB l = -1) := Lib.hid (numB_bad (all_not hbk (digitB_false hd)))
          have hc : decide ((byteAt s k : Int) < 48) = true ∨ (decide ((byteAt s k : Int) < 48) = false ∧ decide ((byteAt s k : Int) > 57) = true) := by
            rw [hb']; simp; omega
          clear hd hbk hb'
          rcases hc with hc | ⟨hc, hc2⟩
          all_goals
            go_wp2_with fail
            go_ret
            exact ⟨by rw [HN.out]; rfl, hb⟩
        case pos =>
          have hc : decide ((byteAt s k : Int) < 48) = false := by rw [hb']; simp; omega
          have hc2 : decide ((byteAt s k : Int) > 57) = false := by rw [hb']; simp; omega
          have HR : Hid ((readD (l.take (k + 1)) : Int) = 10 * (readD (l.take k) : Int) + ((byteAt s k : Int) - 48)) := Lib.hid (by rw [readD_take hbk, hb']; omega)
          have HD2 := Lib.hid (all_take hbk HD.out (digitB_true hd))
          have h48 : 48 ≤ byteAt s k ∧ byteAt s k ≤ 57 := by rw [hb']; exact hd
          clear hd hbk hb' HD
          obtain ⟨r, hr'⟩ : ∃ r, readD (l.take k) = r := ⟨_, rfl⟩
          rw [hr'] at hr HR ⊢
          clear hr'
          go_wp2_with fail
          go_roundw
          case rel => exact ⟨k + 1, by omega, by go_num, by rw [HR.out], HD2, hb⟩
          case measure => simp [intOf]; omega
set_option maxHeartbeats 2000000 in
theorem digits_any (l : List UInt8) (w : World) (hl : l.length ≤ 9223372036854775807) : Calls Tryd.prog 77 #[.string (bs l)] w fun e w' => e = .returned (.int .i64 (numB l)) ∧ Below w.heap.size w w' := by
  obtain ⟨s, hs⟩ : ∃ s, bs l = s := ⟨_, rfl⟩
  have HSZ : Hid (s.size = l.length) := Lib.hid (by rw [← hs, bs_size])
  have HB : Hid (∀ k b, l[k]? = some b → byteAt s k = b.toNat) := Lib.hid fun k b h => by rw [← hs]; exact bs_at h
  rw [hs]
  have hl' : s.size ≤ 9223372036854775807 := by rw [HSZ.out]; exact hl
  clear hs hl
  go_enter Tryd.func77, Tryd.ntmps77
  go_wp2_with fail
  go_loopw [3, 4] (fun n i wr => ∃ k : Nat, k ≤ s.size ∧ k ≤ 5 ∧ i = .int .i64 k ∧ n = .int .i64 (readD (l.take k) : Nat) ∧ Hid ((l.take k).all digitB = true) ∧ Below w.heap.size w wr) (fun _ i _ => 5 - (intOf i).toNat)
  case atStart => exact ⟨0, Nat.zero_le _, by omega, rfl, rfl, Lib.hid rfl, Below.refl _ _⟩
  case round =>
    obtain ⟨k, hk, hk5, rfl, rfl, HD, hb⟩ := hrel
    have hr : readD (l.take k) < 100000 := by
      have h1 := readD_lt _ HD.out
      have h2 : 10 ^ (l.take k).length ≤ 10 ^ 5 := Nat.pow_le_pow_right (by decide) (by rw [List.length_take]; omega)
      omega
    by_cases hlt : k < s.size ∧ k < 5
    case neg =>
      by_cases h1 : 1 ≤ s.size ∧ s.size ≤ 4
      case neg =>
        have HN : Hid (numB l = -1) := Lib.hid (numB_no fun h => h1 (by rw [HSZ.out]; exact ⟨h.1, h.2.1⟩))
        have HI : Hid (inB (s.size : Int) 1 4 = false) := Lib.hid (inB_false' (by omega))
        obtain ⟨r, hr'⟩ : ∃ r, readD (l.take k) = r := ⟨_, rfl⟩
        rw [hr'] at hr ⊢
        clear hr'
        by_cases hk2 : k < s.size
        · have hk3 : ¬ k < 5 := fun h => hlt ⟨hk2, h⟩
          have hd : decide ((k : Int) < 5) = false := by simp; omega
          clear hlt hk3
          go_wp2_with (go_at_call 12; refine (in_any _ _ _ _).mono ?_; rw [HI.out]; rintro e w' ⟨rfl, rfl⟩)
          go_ret
          exact ⟨by rw [HN.out]; rfl, hb⟩
        · clear hlt
          go_wp2_with (go_at_call 12; refine (in_any _ _ _ _).mono ?_; rw [HI.out]; rintro e w' ⟨rfl, rfl⟩)
          go_ret
          exact ⟨by rw [HN.out]; rfl, hb⟩
      case pos =>
        obtain rfl : k = s.size := by omega
        have HI : Hid (inB (s.size : Int) 1 4 = true) := Lib.hid (inB_true' (by omega))
        have HA : Hid (l.all digitB = true) := Lib.hid (by have := HD.out; rwa [HSZ.out, List.take_length] at this)
        have hrl : readD (l.take s.size) = readD l := by rw [HSZ.out, List.take_length]
        rw [hrl] at hr ⊢
        clear hrl
        obtain ⟨b0, hb0⟩ := get_lt (show 0 < l.length by rw [← HSZ.out]; omega)
        have hb0' := HB.out 0 b0 hb0
        have i0 : 0 < s.size := by omega
        have g0 : ((s[0]'i0).toNat) = byteAt s 0 := (byteAt_of i0).symm
        by_cases h2 : b0 = 48 ∧ 1 < l.length
        case pos =>
          have HN : Hid (numB l = -1) := Lib.hid (numB_no fun h => h.2.2 ⟨by rw [hb0, h2.1], h2.2⟩)
          have q1 : ((byteAt s 0 : Int) == 48) = true := by rw [hb0', h2.1]; rfl
          have q2 : decide ((s.size : Int) > 1) = true := by have := h2.2; rw [← HSZ.out] at this; simp; omega
          obtain ⟨r, hr'⟩ : ∃ r, readD l = r := ⟨_, rfl⟩
          rw [hr'] at hr ⊢
          clear hr' h2 hb0 hb0' hlt
          go_wp2_with (go_at_call 12; refine (in_any _ _ _ _).mono ?_; rw [HI.out]; rintro e w' ⟨rfl, rfl⟩)
          go_ret
          exact ⟨by rw [HN.out]; rfl, hb⟩
        case neg =>
          have HN : Hid (numB l = (readD l : Int)) := Lib.hid (numB_of ⟨by rw [← HSZ.out]; omega, by rw [← HSZ.out]; omega, fun h => h2 ⟨by rw [hb0] at h; exact Option.some.inj h.1, h.2⟩⟩ HA.out)
          have hq : (decide ((s.size : Int) > 1) = true ∧ ((byteAt s 0 : Int) == 48) = false) ∨ decide ((s.size : Int) > 1) = false := by
            by_cases hb : 1 < s.size
            · left
              refine ⟨by simp; omega, ?_⟩
              have : b0.toNat ≠ 48 := fun h => h2 ⟨by apply UInt8.toNat_inj.1; rw [h]; rfl, by rw [← HSZ.out]; exact hb⟩
              rw [hb0']
              simp
              omega
            · right
              simp
              omega
          obtain ⟨r, hr'⟩ : ∃ r, readD l = r := ⟨_, rfl⟩
          rw [hr'] at hr HN ⊢
          clear hr' h2 hb0 hb0' hlt
          rcases hq with ⟨q2, q1⟩ | q2
          all_goals
            go_wp2_with (go_at_call 12; refine (in_any _ _ _ _).mono ?_; rw [HI.out]; rintro e w' ⟨rfl, rfl⟩)
            go_ret
            exact ⟨by rw [HN.out]; rfl, hb⟩
    case pos =>
      obtain ⟨b, hbk⟩ := get_lt (show k < l.length by rw [← HSZ.out]; exact hlt.1)
      have hb' := HB.out k b hbk
      have hks := hlt.1
      have hk6 : k < 5 := hlt.2
      have hd5 : decide ((k : Int) < 5) = true := by simp; omega
      have g1 : ((s[k]'hks).toNat) = byteAt s k := (byteAt_of hks).symm
      have hb8 := byteAt_lt s k
      by_cases hd : 48 ≤ b.toNat ∧ b.toNat ≤ 57
      case neg =>
        have HN : Hid (numB l = -1) := Lib.hid (numB_bad (all_not hbk (digitB_false hd)))
        have hc : decide ((byteAt s k : Int) < 48) = true ∨ (decide ((byteAt s k : Int) < 48) = false ∧ decide ((byteAt s k : Int) > 57) = true) := by
          rw [hb']; simp; omega
        clear hd hbk hb' hlt
        rcases hc with hc | ⟨hc, hc2⟩
        all_goals
          go_wp2_with fail
          go_ret
          exact ⟨by rw [HN.out]; rfl, hb⟩
      case pos =>
        have hc : decide ((byteAt s k : Int) < 48) = false := by rw [hb']; simp; omega
        have hc2 : decide ((byteAt s k : Int) > 57) = false := by rw [hb']; simp; omega
        have HR : Hid ((readD (l.take (k + 1)) : Int) = (readD (l.take k) : Int) * 10 + (byteAt s k : Int) - 48) := Lib.hid (by rw [readD_take hbk, hb']; omega)
        have HD2 := Lib.hid (all_take hbk HD.out (digitB_true hd))
        have h48 : 48 ≤ byteAt s k ∧ byteAt s k ≤ 57 := by rw [hb']; exact hd
        clear hd hbk hb' HD hlt
        obtain ⟨r, hr'⟩ : ∃ r, readD (l.take k) = r := ⟨_, rfl⟩
        rw [hr'] at hr HR ⊢
        clear hr'
        go_wp2_with fail
        go_roundw
        case rel => exact ⟨k + 1, by omega, by omega, by go_num, by rw [HR.out], HD2, hb⟩
        case measure => simp [intOf]; omega
end Go.Proofs.YtdpibehpmghghaaDoor
