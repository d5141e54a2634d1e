/- Several texts in one: DecSpec, DecLaw, Reader, Clone, RdEdge, ReachSpec. -/
import Derived.Laws.BitsLemmas
import Derived.BigQuiet
import Derived.IntWalk
import Derived.Maps.AppendAt
import Derived.Lib.BufferMore
import Derived.Test.YtcfachfldanddaaBd186e87a516
import Derived.Test.YtcfachfldanddaaBd6b7ba0c9b1
import Derived.Test.YtcfachfldanddaaBd329d7f171a
import Derived.Test.YtcfachfldanddaaBdecb1d1e777
import Derived.Test.YtcfachfldanddaaBdc60da392f0
/- Graphs read from bytes, as plain Lean functions; their laws; no program in sight. -/
namespace Go.Proofs.Ytcfachfldanddaa
open Go.RowKit

/-- What a reader holds: where it is, and its error. -/
abbrev RSt := Nat × Int
def num2 (s : ByteArray) (a : Nat) : Nat := byteAt s a * 256 + byteAt s (a + 1)
/-- A number, bounded. -/
def rnum (s : ByteArray) (most : Nat) (r : RSt) : Nat × RSt :=
  if r.2 ≠ 0 then (0, r) else if s.size < r.1 + 2 then (0, (r.1, 5)) else if most < num2 s r.1 then (0, (r.1 + 2, 2)) else (num2 s r.1, (r.1 + 2, 0))
/-- So many of a kind. -/
def rList {α : Type} (f : RSt → α × RSt) : Nat → RSt → List α × RSt
  | 0, r => ([], r)
  | n + 1, r => ((rList f n r).1 ++ [(f (rList f n r).2).1], (f (rList f n r).2).2)
def rIvl (s : ByteArray) (r : RSt) : IvlD × RSt :=
  let a := rnum s 65535 r
  let b := rnum s 65535 a.2
  (⟨a.1, b.1⟩, b.2)
def rLeg (s : ByteArray) (r : RSt) : LegD × RSt :=
  let a := rnum s 65535 r
  let b := rnum s 65535 a.2
  let c := rnum s 65535 b.2
  let d := rnum s 65535 c.2
  (⟨a.1, b.1, c.1, d.1⟩, d.2)
def rEdge (s : ByteArray) (r : RSt) : EdgeD × RSt :=
  let a := rnum s 65535 r
  let b := rnum s 65535 a.2
  let m := rnum s 6 b.2
  let l := rList (rLeg s) m.1 m.2
  (⟨a.1, b.1, l.1⟩, l.2)
def rGraph (s : ByteArray) : GraphD × RSt :=
  let h := rnum s 65535 (0, 0)
  let v := rnum s 12 h.2
  let k := rnum s 30 v.2
  let l := rList (rIvl s) v.1 k.2
  let x := rList (rEdge s) k.1 l.2
  (⟨h.1, l.1, x.1⟩, x.2)
/-- The number whose bytes stand at a place, the least first. -/
def tail4 (s : ByteArray) (a : Nat) : Nat := byteAt s a + 256 * byteAt s (a + 1) + 65536 * byteAt s (a + 2) + 16777216 * byteAt s (a + 3)
def decErr (s : ByteArray) : Int :=
  if (rGraph s).2.2 ≠ 0 then (rGraph s).2.2 else if s.size < (rGraph s).2.1 + 4 then 5 else
  if tail4 s (rGraph s).2.1 ≠ crc (s.extract 0 (rGraph s).2.1) then 5 else graphErr (rGraph s).1
def decN (s : ByteArray) : Nat := if decErr s = 0 then (rGraph s).2.1 + 4 else 0

theorem num2_lt (s : ByteArray) (a : Nat) : num2 s a ≤ 65535 := by
  have := byteAt_lt s a; have := byteAt_lt s (a + 1)
  unfold num2; omega
theorem rnum_bad {s : ByteArray} {m : Nat} {r : RSt} (h : r.2 ≠ 0) : rnum s m r = (0, r) := by unfold rnum; rw [if_pos h]
theorem rnum_le (s : ByteArray) (m : Nat) (r : RSt) : (rnum s m r).1 ≤ m ∧ (rnum s m r).1 ≤ 65535 := by
  have := num2_lt s r.1
  unfold rnum
  split
  · simp
  · split
    · simp
    · split <;> (simp only; omega)
theorem rnum_at (s : ByteArray) (m : Nat) (r : RSt) (h : r.1 ≤ s.size) : (rnum s m r).2.1 ≤ s.size := by
  unfold rnum
  split
  · exact h
  · split
    · exact h
    · split <;> (simp only; omega)
theorem rList_len {α : Type} (f : RSt → α × RSt) : ∀ (n : Nat) (r : RSt), (rList f n r).1.length = n
  | 0, _ => rfl
  | n + 1, r => by simp [rList, rList_len f n r]
theorem rList_bad {α : Type} {f : RSt → α × RSt} (hf : ∀ r : RSt, r.2 ≠ 0 → (f r).2 = r) : ∀ (n : Nat) (r : RSt), r.2 ≠ 0 → (rList f n r).2 = r
  | 0, _, _ => rfl
  | n + 1, r, h => by
    have ih := rList_bad hf n r h
    simp only [rList]
    rw [ih, hf r h]
theorem rIvl_bad {s : ByteArray} {r : RSt} (h : r.2 ≠ 0) : (rIvl s r).2 = r := by simp [rIvl, rnum_bad h]
theorem rLeg_bad {s : ByteArray} {r : RSt} (h : r.2 ≠ 0) : (rLeg s r).2 = r := by simp [rLeg, rnum_bad h]
theorem rEdge_bad {s : ByteArray} {r : RSt} (h : r.2 ≠ 0) : (rEdge s r).2 = r := by simp [rEdge, rnum_bad h, rList]
theorem rList_at {α : Type} {f : RSt → α × RSt} {n : Nat} (hf : ∀ r : RSt, r.1 ≤ n → (f r).2.1 ≤ n) : ∀ (k : Nat) (r : RSt), r.1 ≤ n → (rList f k r).2.1 ≤ n
  | 0, _, h => h
  | k + 1, r, h => hf _ (rList_at hf k r h)
theorem rIvl_at (s : ByteArray) (r : RSt) (h : r.1 ≤ s.size) : (rIvl s r).2.1 ≤ s.size := rnum_at s _ _ (rnum_at s _ _ h)
theorem rLeg_at (s : ByteArray) (r : RSt) (h : r.1 ≤ s.size) : (rLeg s r).2.1 ≤ s.size := rnum_at s _ _ (rnum_at s _ _ (rnum_at s _ _ (rnum_at s _ _ h)))
theorem rEdge_at (s : ByteArray) (r : RSt) (h : r.1 ≤ s.size) : (rEdge s r).2.1 ≤ s.size :=
  rList_at (rLeg_at s) _ _ (rnum_at s _ _ (rnum_at s _ _ (rnum_at s _ _ h)))
theorem rGraph_at (s : ByteArray) : (rGraph s).2.1 ≤ s.size :=
  rList_at (rEdge_at s) _ _ (rList_at (rIvl_at s) _ _ (rnum_at s _ _ (rnum_at s _ _ (rnum_at s _ _ (Nat.zero_le _)))))

/-! What is read stands there. -/
def bytesFrom (s : ByteArray) (a n : Nat) : List Int := (List.range n).map fun i => (byteAt s (a + i) : Int)
theorem bytesFrom_add (s : ByteArray) (a n m : Nat) : bytesFrom s a (n + m) = bytesFrom s a n ++ bytesFrom s (a + n) m := by
  unfold bytesFrom
  rw [List.range_add, List.map_append, List.map_map]
  congr 1
  exact List.map_congr_left fun i _ => by simp [Nat.add_assoc]
/-- From one state to the other these numbers are read, if all is well behind. -/
def Reads (s : ByteArray) (r : RSt) (ns : List Int) (q : RSt) : Prop := q.2 = 0 → r.2 = 0 ∧ q.1 = r.1 + 2 * ns.length ∧ bytesL ns = bytesFrom s r.1 (2 * ns.length)
theorem Reads.trans {s : ByteArray} {r q p : RSt} {a b : List Int} (h : Reads s r a q) (k : Reads s q b p) : Reads s r (a ++ b) p := fun hp => by
  obtain ⟨k1, k2, k4⟩ := k hp
  obtain ⟨h1, h2, h4⟩ := h k1
  refine ⟨h1, by rw [List.length_append]; omega, ?_⟩
  rw [show bytesL (a ++ b) = bytesL a ++ bytesL b by simp [bytesL], h4, k4, List.length_append, Nat.mul_add, bytesFrom_add, h2]
theorem reads_num (s : ByteArray) (m : Nat) (r : RSt) : Reads s r [((rnum s m r).1 : Int)] (rnum s m r).2 := fun h => by
  unfold rnum at h ⊢
  by_cases h1 : r.2 ≠ 0
  · rw [if_pos h1] at h; exact absurd h h1
  · rw [if_neg h1] at h ⊢
    by_cases h2 : s.size < r.1 + 2
    · rw [if_pos h2] at h; simp at h
    · rw [if_neg h2] at h ⊢
      by_cases h3 : m < num2 s r.1
      · rw [if_pos h3] at h; simp at h
      · rw [if_neg h3] at h ⊢
        have b0 := byteAt_lt s r.1
        have b1 := byteAt_lt s (r.1 + 1)
        refine ⟨by omega, rfl, ?_⟩
        have e1 : num2 s r.1 / 256 = byteAt s r.1 := by unfold num2; omega
        have e2 : num2 s r.1 % 256 = byteAt s (r.1 + 1) := by unfold num2; omega
        simp only [bytesL, List.flatMap_cons, List.flatMap_nil, List.append_nil, bytesFrom, List.length_singleton, Nat.mul_one, List.range_succ, List.range_zero, List.nil_append, List.map_append, List.map_cons, List.map_nil, List.cons_append, Nat.add_zero]
        rw [← e1, ← e2]
        simp
theorem reads_list {α : Type} {s : ByteArray} {f : RSt → α × RSt} {nums : α → List Int} (hf : ∀ r, Reads s r (nums (f r).1) (f r).2) : ∀ (n : Nat) (r : RSt), Reads s r ((rList f n r).1.flatMap nums) (rList f n r).2
  | 0, r => fun h => ⟨h, by simp [rList], by simp [rList, bytesL, bytesFrom]⟩
  | n + 1, r => by
    have ih := reads_list hf n r
    have h := ih.trans (hf (rList f n r).2)
    simp only [rList, List.flatMap_append, List.flatMap_cons, List.flatMap_nil, List.append_nil]
    exact h
theorem reads_ivl (s : ByteArray) (r : RSt) : Reads s r (lifeNums (rIvl s r).1) (rIvl s r).2 :=
  (reads_num s 65535 r).trans (reads_num s 65535 (rnum s 65535 r).2)
theorem reads_leg (s : ByteArray) (r : RSt) : Reads s r (legNums (rLeg s r).1) (rLeg s r).2 :=
  (((reads_num s 65535 r).trans (reads_num s 65535 _)).trans (reads_num s 65535 _)).trans (reads_num s 65535 _)
theorem reads_edge (s : ByteArray) (r : RSt) : Reads s r (edgeNums (rEdge s r).1) (rEdge s r).2 := by
  have h := (((reads_num s 65535 r).trans (reads_num s 65535 _)).trans (reads_num s 6 _)).trans (reads_list (reads_leg s) (rnum s 6 (rnum s 65535 (rnum s 65535 r).2).2).1 (rnum s 6 (rnum s 65535 (rnum s 65535 r).2).2).2)
  have e : edgeNums (rEdge s r).1 = [((rnum s 65535 r).1 : Int)] ++ [((rnum s 65535 (rnum s 65535 r).2).1 : Int)] ++ [((rnum s 6 (rnum s 65535 (rnum s 65535 r).2).2).1 : Int)] ++ (rList (rLeg s) (rnum s 6 (rnum s 65535 (rnum s 65535 r).2).2).1 (rnum s 6 (rnum s 65535 (rnum s 65535 r).2).2).2).1.flatMap legNums := by
    simp [edgeNums, rEdge, rList_len]
  rw [e]
  exact h
theorem reads_graph (s : ByteArray) : Reads s (0, 0) (numsL (rGraph s).1) (rGraph s).2 := by
  have h := ((((reads_num s 65535 (0, 0)).trans (reads_num s 12 _)).trans (reads_num s 30 _)).trans (reads_list (reads_ivl s) (rnum s 12 (rnum s 65535 (0, 0)).2).1 (rnum s 30 (rnum s 12 (rnum s 65535 (0, 0)).2).2).2)).trans
    (reads_list (reads_edge s) (rnum s 30 (rnum s 12 (rnum s 65535 (0, 0)).2).2).1 (rList (rIvl s) (rnum s 12 (rnum s 65535 (0, 0)).2).1 (rnum s 30 (rnum s 12 (rnum s 65535 (0, 0)).2).2).2).2)
  have e : numsL (rGraph s).1 = [((rnum s 65535 (0, 0)).1 : Int)] ++ [((rnum s 12 (rnum s 65535 (0, 0)).2).1 : Int)] ++ [((rnum s 30 (rnum s 12 (rnum s 65535 (0, 0)).2).2).1 : Int)] ++
      (rList (rIvl s) (rnum s 12 (rnum s 65535 (0, 0)).2).1 (rnum s 30 (rnum s 12 (rnum s 65535 (0, 0)).2).2).2).1.flatMap lifeNums ++
      (rList (rEdge s) (rnum s 30 (rnum s 12 (rnum s 65535 (0, 0)).2).2).1 (rList (rIvl s) (rnum s 12 (rnum s 65535 (0, 0)).2).1 (rnum s 30 (rnum s 12 (rnum s 65535 (0, 0)).2).2).2).2).1.flatMap edgeNums := by
    simp [numsL, rGraph, rList_len]
  rw [e]
  exact h

/-! What stands there is read. -/
/-- The string holds the numbers from here on. -/
def Holds (s : ByteArray) (a : Nat) (ns : List Int) : Prop := a + 2 * ns.length ≤ s.size ∧ bytesL ns = bytesFrom s a (2 * ns.length)
theorem Holds.parts {s : ByteArray} {a : Nat} {x y : List Int} (h : Holds s a (x ++ y)) : Holds s a x ∧ Holds s (a + 2 * x.length) y := by
  obtain ⟨h1, h2⟩ := h
  rw [List.length_append] at h1 h2
  rw [show bytesL (x ++ y) = bytesL x ++ bytesL y by simp [bytesL], Nat.mul_add, bytesFrom_add] at h2
  have hl : ∀ l : List Int, (bytesL l).length = 2 * l.length := fun l => by
    induction l with
    | nil => rfl
    | cons z l ih => rw [show bytesL (z :: l) = [z / 256, z % 256] ++ bytesL l by simp [bytesL], List.length_append, ih]; simp; omega
  have h3 := List.append_inj h2 (by rw [hl]; simp [bytesFrom])
  exact ⟨⟨by omega, h3.1⟩, by omega, h3.2⟩
/-- From one state to the other the reader tells these numbers. -/
theorem rnum_holds {s : ByteArray} {m : Nat} {a : Nat} {n : Int} {ns : List Int} (h : Holds s a (n :: ns)) (h0 : 0 ≤ n) (hm : n ≤ m) :
    rnum s m (a, 0) = (n.toNat, (a + 2, 0)) ∧ Holds s (a + 2) ns := by
  have h' : Holds s a ([n] ++ ns) := h
  obtain ⟨⟨h1, h2⟩, h3⟩ := h'.parts
  refine ⟨?_, by simpa using h3⟩
  simp only [List.length_singleton, Nat.mul_one] at h1 h2
  have e : num2 s a = n.toNat := by
    simp only [bytesL, List.flatMap_cons, List.flatMap_nil, List.append_nil, bytesFrom, List.range_succ, List.range_zero, List.nil_append, List.map_append, List.map_cons, List.map_nil, List.cons_append, Nat.add_zero, List.cons.injEq, and_true] at h2
    unfold num2
    omega
  unfold rnum
  rw [if_neg (by simp), if_neg (by simp only; omega), e, if_neg (by omega)]
theorem rList_cons {α : Type} (f : RSt → α × RSt) : ∀ (n : Nat) (r : RSt), rList f (n + 1) r = ((f r).1 :: (rList f n (f r).2).1, (rList f n (f r).2).2)
  | 0, r => by simp [rList]
  | n + 1, r => by
    have ih := rList_cons f n r
    rw [rList, ih]
    simp [rList]
theorem rList_holds {α : Type} {s : ByteArray} {f : RSt → α × RSt} {nums : α → List Int} :
    ∀ (l : List α) (a : Nat) (ns : List Int), (∀ x, x ∈ l → ∀ b ms, Holds s b (nums x ++ ms) → f (b, 0) = (x, (b + 2 * (nums x).length, 0)) ∧ Holds s (b + 2 * (nums x).length) ms) →
    Holds s a (l.flatMap nums ++ ns) → rList f l.length (a, 0) = (l, (a + 2 * (l.flatMap nums).length, 0)) ∧ Holds s (a + 2 * (l.flatMap nums).length) ns
  | [], a, ns, _, h => ⟨by simp [rList], by simpa using h⟩
  | x :: l, a, ns, hf, h => by
    rw [List.flatMap_cons, List.append_assoc] at h
    obtain ⟨h1, h2⟩ := hf x (by simp) _ _ h
    obtain ⟨h3, h4⟩ := rList_holds l _ ns (fun y hy => hf y (by simp [hy])) h2
    have e : a + 2 * (nums x).length + 2 * (l.flatMap nums).length = a + 2 * ((x :: l).flatMap nums).length := by rw [List.flatMap_cons, List.length_append]; omega
    rw [e] at h3 h4
    refine ⟨?_, h4⟩
    rw [List.length_cons, rList_cons, h1]
    simp only
    rw [h3]
theorem ivl_holds {s : ByteArray} {x : IvlD} (hx : ∀ n, n ∈ lifeNums x → Num n) (b : Nat) (ms : List Int) (h : Holds s b (lifeNums x ++ ms)) : rIvl s (b, 0) = (x, (b + 2 * (lifeNums x).length, 0)) ∧ Holds s (b + 2 * (lifeNums x).length) ms := by
  have n1 := hx x.f (by simp [lifeNums]); have n2 := hx x.t (by simp [lifeNums])
  unfold Num at n1 n2
  obtain ⟨e1, h⟩ := rnum_holds (m := 65535) (show Holds s b (x.f :: ([x.t] ++ ms)) from h) n1.1 (by omega)
  obtain ⟨e2, h⟩ := rnum_holds (m := 65535) (show Holds s (b + 2) (x.t :: ms) from h) n2.1 (by omega)
  refine ⟨?_, h⟩
  simp only [rIvl, e1, e2]
  cases x
  simp only [Prod.mk.injEq, IvlD.mk.injEq, lifeNums, List.length_cons, List.length_nil, and_true] at *
  omega
theorem leg_holds {s : ByteArray} {x : LegD} (hx : ∀ n, n ∈ legNums x → Num n) (b : Nat) (ms : List Int) (h : Holds s b (legNums x ++ ms)) : rLeg s (b, 0) = (x, (b + 2 * (legNums x).length, 0)) ∧ Holds s (b + 2 * (legNums x).length) ms := by
  have n1 := hx x.f (by simp [legNums]); have n2 := hx x.t (by simp [legNums]); have n3 := hx x.time (by simp [legNums]); have n4 := hx x.cost (by simp [legNums])
  unfold Num at n1 n2 n3 n4
  obtain ⟨e1, h⟩ := rnum_holds (m := 65535) (show Holds s b (x.f :: ([x.t, x.time, x.cost] ++ ms)) from h) n1.1 (by omega)
  obtain ⟨e2, h⟩ := rnum_holds (m := 65535) (show Holds s (b + 2) (x.t :: ([x.time, x.cost] ++ ms)) from h) n2.1 (by omega)
  obtain ⟨e3, h⟩ := rnum_holds (m := 65535) (show Holds s (b + 2 + 2) (x.time :: ([x.cost] ++ ms)) from h) n3.1 (by omega)
  obtain ⟨e4, h⟩ := rnum_holds (m := 65535) (show Holds s (b + 2 + 2 + 2) (x.cost :: ms) from h) n4.1 (by omega)
  refine ⟨?_, h⟩
  simp only [rLeg, e1, e2, e3, e4]
  cases x
  simp only [Prod.mk.injEq, LegD.mk.injEq, legNums, List.length_cons, List.length_nil, and_true] at *
  omega
theorem edge_holds {s : ByteArray} {x : EdgeD} (h6 : x.legs.length ≤ 6) (hx : ∀ n, n ∈ edgeNums x → Num n) (b : Nat) (ms : List Int) (h : Holds s b (edgeNums x ++ ms)) : rEdge s (b, 0) = (x, (b + 2 * (edgeNums x).length, 0)) ∧ Holds s (b + 2 * (edgeNums x).length) ms := by
  have n1 := hx x.a (by simp [edgeNums]); have n2 := hx x.b (by simp [edgeNums])
  unfold Num at n1 n2
  have h : Holds s b (x.a :: ([x.b, (x.legs.length : Int)] ++ (x.legs.flatMap legNums ++ ms))) := by simpa [edgeNums] using h
  obtain ⟨e1, h⟩ := rnum_holds (m := 65535) h n1.1 (by omega)
  obtain ⟨e2, h⟩ := rnum_holds (m := 65535) (show Holds s (b + 2) (x.b :: ([(x.legs.length : Int)] ++ (x.legs.flatMap legNums ++ ms))) from h) n2.1 (by omega)
  obtain ⟨e3, h⟩ := rnum_holds (m := 6) (show Holds s (b + 2 + 2) ((x.legs.length : Int) :: (x.legs.flatMap legNums ++ ms)) from h) (by omega) (by omega)
  obtain ⟨e4, h⟩ := rList_holds x.legs _ ms (fun l hl c ms h => leg_holds (fun n hn => hx n (by unfold edgeNums; exact List.mem_append_right _ (List.mem_flatMap.2 ⟨l, hl, hn⟩))) c ms h) h
  have e : b + 2 + 2 + 2 + 2 * (x.legs.flatMap legNums).length = b + 2 * (edgeNums x).length := by simp only [edgeNums, List.length_append, List.length_cons, List.length_nil]; omega
  rw [e] at e4 h
  refine ⟨?_, h⟩
  simp only [rEdge, e1, e2, e3]
  rw [show ((x.legs.length : Int)).toNat = x.legs.length by omega, e4]
  cases x
  simp only [Prod.mk.injEq, EdgeD.mk.injEq, and_true] at *
  omega
theorem graph_holds {s : ByteArray} {g : GraphD} (hV : Valid g) {ms : List Int} (h : Holds s 0 (numsL g ++ ms)) : rGraph s = (g, (2 * (numsL g).length, 0)) := by
  have hl := hV.nl; have he := hV.ne; have h0 := hV.h0; have h1 := hV.h1
  have h : Holds s 0 (g.h :: ([(g.lives.length : Int), (g.edges.length : Int)] ++ (g.lives.flatMap lifeNums ++ (g.edges.flatMap edgeNums ++ ms)))) := by simpa [numsL] using h
  obtain ⟨e1, h⟩ := rnum_holds (m := 65535) h (by omega) (by omega)
  obtain ⟨e2, h⟩ := rnum_holds (m := 12) (show Holds s (0 + 2) ((g.lives.length : Int) :: ([(g.edges.length : Int)] ++ (g.lives.flatMap lifeNums ++ (g.edges.flatMap edgeNums ++ ms)))) from h) (by omega) (by omega)
  obtain ⟨e3, h⟩ := rnum_holds (m := 30) (show Holds s (0 + 2 + 2) ((g.edges.length : Int) :: (g.lives.flatMap lifeNums ++ (g.edges.flatMap edgeNums ++ ms))) from h) (by omega) (by omega)
  have hn := (nums_num hV).1
  obtain ⟨e4, h⟩ := rList_holds g.lives _ _ (fun l hl c ms h => ivl_holds (fun n hn' => hn n (by unfold numsL; exact List.mem_append_right _ (List.mem_append_left _ (List.mem_flatMap.2 ⟨l, hl, hn'⟩)))) c ms h) h
  obtain ⟨e5, h⟩ := rList_holds g.edges _ _ (fun x hx c ms h => edge_holds (hV.edges x hx).six (nums_edge hV hx).1 c ms h) h
  have e : 0 + 2 + 2 + 2 + 2 * (g.lives.flatMap lifeNums).length + 2 * (g.edges.flatMap edgeNums).length = 2 * (numsL g).length := by simp only [numsL, List.length_append, List.length_cons, List.length_nil]; omega
  rw [e] at e5
  simp only [rGraph, e1, e2, e3]
  rw [show ((g.lives.length : Int)).toNat = g.lives.length by omega, show ((g.edges.length : Int)).toNat = g.edges.length by omega, e4]
  simp only
  rw [e5]
  cases g
  simp only [Prod.mk.injEq, GraphD.mk.injEq, and_true] at *
  omega
end Go.Proofs.Ytcfachfldanddaa
/- What is read is what was written, and the other way round; no program in sight. -/
namespace Go.Proofs.Ytcfachfldanddaa
open Go.RowKit

theorem byteAt_val {s : ByteArray} {i : Nat} (h : i < s.size) : UInt8.ofNat (byteAt s i) = s[i] := by rw [byteAt_of h]; simp
theorem str_from {s : ByteArray} {n : Nat} (h : n ≤ s.size) : strOfNums (bytesFrom s 0 n) = s.extract 0 n := by
  apply ByteArray.ext
  apply Array.ext
  · simp [strOfNums, bytesFrom, ByteArray.data_extract]
    omega
  · intro i h1 h2
    have hi : i < n := by simpa [strOfNums, bytesFrom] using h1
    simp only [strOfNums, bytesFrom, ByteArray.data_extract, List.getElem_toArray, List.getElem_map, List.getElem_range, Array.getElem_extract, Nat.zero_add, Int.toNat_natCast]
    exact byteAt_val (by omega)
theorem byteAt_nums {l : List Int} {i : Nat} (h : i < l.length) (h0 : 0 ≤ l[i]) (h1 : l[i] < 256) : (byteAt (strOfNums l) i : Int) = l[i] := by
  have hs : i < (strOfNums l).size := by rw [strOfNums_size]; exact h
  rw [byteAt_of hs]
  show ((((l.map fun n => UInt8.ofNat n.toNat).toArray)[i]'(by simpa using h)).toNat : Int) = _
  simp only [List.getElem_toArray, List.getElem_map, UInt8.toNat_ofNat']
  omega
theorem byteAt_append {s t : ByteArray} {i : Nat} (h : i < s.size) : byteAt (s ++ t) i = byteAt s i := by
  rw [byteAt_of h, byteAt_of (by rw [ByteArray.size_append]; omega), ByteArray.getElem_append_left h]
theorem byteAt_extract {s : ByteArray} {i k : Nat} (h : i < k) (hk : k ≤ s.size) : byteAt (s.extract 0 k) i = byteAt s i := by
  rw [byteAt_of (s := s.extract 0 k) (by rw [ByteArray.size_extract]; omega), byteAt_of (s := s) (by omega), ByteArray.getElem_extract]
  simp
theorem bytes_small {l : List Int} (h : ∀ n, n ∈ l → Num n) : ∀ b, b ∈ bytesL l → 0 ≤ b ∧ b < 256 := fun b hb => by
  obtain ⟨n, hn, hb⟩ := List.mem_flatMap.1 hb
  have := h n hn
  unfold Num at this
  simp at hb
  omega
theorem sum_small (n : Nat) : ∀ b, b ∈ sumBytes n → 0 ≤ b ∧ b < 256 := fun b hb => by
  simp only [sumBytes, List.mem_cons, List.not_mem_nil, or_false] at hb
  omega
theorem bytesL_len (l : List Int) : (bytesL l).length = 2 * l.length := by
  induction l with
  | nil => rfl
  | cons z l ih => rw [show bytesL (z :: l) = [z / 256, z % 256] ++ bytesL l by simp [bytesL], List.length_append, ih]; simp; omega
/-- Bytes of a string that begins with these. -/
theorem from_nums {a b c : List Int} {t : ByteArray} (h : ∀ x, x ∈ b → 0 ≤ x ∧ x < 256) : bytesFrom (strOfNums (a ++ b ++ c) ++ t) a.length b.length = b := by
  apply List.ext_getElem
  · simp [bytesFrom]
  · intro i h1 h2
    have hb := h _ (List.getElem_mem h2)
    have e : (a ++ b ++ c)[a.length + i]'(by simp; omega) = b[i] := by
      rw [List.getElem_append_left (by simp; omega), List.getElem_append_right (by omega)]
      simp
    simp only [bytesFrom, List.getElem_map, List.getElem_range]
    rw [byteAt_append (by rw [strOfNums_size]; simp; omega), byteAt_nums (by simp; omega) (by rw [e]; exact hb.1) (by rw [e]; exact hb.2), e]
theorem crc_lt (s : ByteArray) : crc s < 4294967296 := by unfold crc; omega
theorem tail_of {s : ByteArray} {a n : Nat} (hn : n < 4294967296) (h : bytesFrom s a 4 = sumBytes n) : tail4 s a = n := by
  simp only [bytesFrom, sumBytes, List.range_succ, List.range_zero, List.nil_append, List.map_append, List.map_cons, List.map_nil, List.cons_append, Nat.add_zero, List.cons.injEq, and_true] at h
  unfold tail4
  omega
theorem tail_back (s : ByteArray) (a : Nat) : sumBytes (tail4 s a) = bytesFrom s a 4 := by
  have h0 := byteAt_lt s a; have h1 := byteAt_lt s (a + 1); have h2 := byteAt_lt s (a + 2); have h3 := byteAt_lt s (a + 3)
  simp only [bytesFrom, sumBytes, List.range_succ, List.range_zero, List.nil_append, List.map_append, List.map_cons, List.map_nil, List.cons_append, Nat.add_zero, List.cons.injEq, and_true]
  unfold tail4
  omega
/-- What is written is read, whatever stands behind. -/
theorem dec_coded {g : GraphD} (hV : Valid g) (t : ByteArray) : rGraph (coded g ++ t) = (g, (2 * (numsL g).length, 0)) ∧ decErr (coded g ++ t) = 0 ∧ decN (coded g ++ t) = (coded g).size := by
  have hb := bytes_small (nums_num hV).1
  have hsz : (coded g).size = 2 * (numsL g).length + 4 := by unfold coded; rw [strOfNums_size, List.length_append, bytesL_len]; rfl
  have h1 : bytesFrom (coded g ++ t) 0 (2 * (numsL g).length) = bytesL (numsL g) := by
    have := from_nums (a := []) (c := sumBytes (crc (strOfNums (bytesL (numsL g))))) (t := t) hb
    rw [bytesL_len] at this
    exact this
  have hG : rGraph (coded g ++ t) = (g, (2 * (numsL g).length, 0)) := graph_holds hV (ms := []) ⟨by rw [List.append_nil, ByteArray.size_append]; omega, by rw [List.append_nil]; exact h1.symm⟩
  have hT : tail4 (coded g ++ t) (2 * (numsL g).length) = crc (strOfNums (bytesL (numsL g))) := by
    have := from_nums (a := bytesL (numsL g)) (b := sumBytes (crc (strOfNums (bytesL (numsL g))))) (c := []) (t := t) (sum_small _)
    rw [List.append_nil, bytesL_len] at this
    exact tail_of (crc_lt _) this
  have hX : (coded g ++ t).extract 0 (2 * (numsL g).length) = strOfNums (bytesL (numsL g)) := by
    rw [← str_from (by rw [ByteArray.size_append]; omega), h1]
  have hE : decErr (coded g ++ t) = 0 := by
    unfold decErr
    rw [hG]
    simp only
    rw [if_neg (by simp), if_neg (by rw [ByteArray.size_append]; omega), hT, hX, if_neg (by simp)]
    exact valid_ok hV
  refine ⟨hG, hE, ?_⟩
  unfold decN
  rw [if_pos hE, hG, hsz]
theorem dec_zero {s : ByteArray} (h : decErr s = 0) : (rGraph s).2.2 = 0 ∧ (rGraph s).2.1 + 4 ≤ s.size ∧ tail4 s (rGraph s).2.1 = crc (s.extract 0 (rGraph s).2.1) ∧ Valid (rGraph s).1 := by
  unfold decErr at h
  by_cases h1 : (rGraph s).2.2 ≠ 0
  · rw [if_pos h1] at h; exact absurd h h1
  · rw [if_neg h1] at h
    by_cases h2 : s.size < (rGraph s).2.1 + 4
    · rw [if_pos h2] at h; omega
    · rw [if_neg h2] at h
      by_cases h3 : tail4 s (rGraph s).2.1 ≠ crc (s.extract 0 (rGraph s).2.1)
      · rw [if_pos h3] at h; omega
      · rw [if_neg h3] at h
        exact ⟨by omega, by omega, by simpa using h3, valid_of h⟩
/-- What is read is written as just those bytes. -/
theorem coded_dec {s : ByteArray} (h : decErr s = 0) : decN s ≤ s.size ∧ coded (rGraph s).1 = s.extract 0 (decN s) := by
  obtain ⟨h1, h2, h3, h4⟩ := dec_zero h
  obtain ⟨_, h5, h6⟩ := reads_graph s h1
  simp only [Nat.zero_add] at h5
  have hN : decN s = (rGraph s).2.1 + 4 := by unfold decN; rw [if_pos h]
  refine ⟨by omega, ?_⟩
  rw [hN, ← str_from h2, bytesFrom_add, Nat.zero_add]
  unfold coded
  rw [h6, ← h5, str_from (by omega), ← h3, tail_back]
/-- A beginning. -/
def Cut {α : Type} (p q : α × RSt) : Prop := q = p ∨ q.2.2 = 5
theorem cut_num {s : ByteArray} {k : Nat} (hk : k ≤ s.size) (m : Nat) (q : RSt) : Cut (rnum s m q) (rnum (s.extract 0 k) m q) := by
  by_cases h1 : q.2 ≠ 0
  · exact .inl (by rw [rnum_bad h1, rnum_bad h1])
  · by_cases h2 : k < q.1 + 2
    · right
      unfold rnum
      rw [if_neg h1, if_pos (by rw [ByteArray.size_extract]; omega)]
    · left
      have e : num2 (s.extract 0 k) q.1 = num2 s q.1 := by unfold num2; rw [byteAt_extract (by omega) hk, byteAt_extract (by omega) hk]
      have c1 : ¬ (s.extract 0 k).size < q.1 + 2 := by rw [ByteArray.size_extract]; omega
      have c2 : ¬ s.size < q.1 + 2 := by omega
      unfold rnum
      rw [if_neg h1, if_neg h1, if_neg c1, if_neg c2, e]
theorem cut_list {α : Type} {f f' : RSt → α × RSt} (hf : ∀ r : RSt, Cut (f r) (f' r)) (hb : ∀ q : RSt, q.2 ≠ 0 → (f' q).2 = q) (r : RSt) : ∀ (n : Nat), Cut (rList f n r) (rList f' n r)
  | 0 => .inl rfl
  | n + 1 => by
    simp only [rList]
    rcases cut_list hf hb r n with ih | ih
    · rw [ih]
      rcases hf (rList f n r).2 with h | h
      · exact .inl (by rw [h])
      · exact .inr h
    · exact .inr (by simp only; rw [hb _ (by rw [ih]; decide)]; exact ih)
theorem five_ne {n : Int} (h : n = 5) : n ≠ 0 := by omega
theorem cut_ivl {s : ByteArray} {k : Nat} (hk : k ≤ s.size) (r : RSt) : Cut (rIvl s r) (rIvl (s.extract 0 k) r) := by
  simp only [rIvl]
  rcases cut_num hk 65535 r with e | e
  · rw [e]
    rcases cut_num hk 65535 (rnum s 65535 r).2 with e | e
    · rw [e]; exact .inl rfl
    · exact .inr e
  · right
    simp only [rnum_bad (five_ne e)]
    exact e
theorem cut_leg {s : ByteArray} {k : Nat} (hk : k ≤ s.size) (r : RSt) : Cut (rLeg s r) (rLeg (s.extract 0 k) r) := by
  simp only [rLeg]
  rcases cut_num hk 65535 r with e | e
  · rw [e]
    rcases cut_num hk 65535 (rnum s 65535 r).2 with e | e
    · rw [e]
      rcases cut_num hk 65535 (rnum s 65535 (rnum s 65535 r).2).2 with e | e
      · rw [e]
        rcases cut_num hk 65535 (rnum s 65535 (rnum s 65535 (rnum s 65535 r).2).2).2 with e | e
        · rw [e]; exact .inl rfl
        · exact .inr e
      · right; simp only [rnum_bad (five_ne e)]; exact e
    · right; simp only [rnum_bad (five_ne e)]; exact e
  · right; simp only [rnum_bad (five_ne e)]; exact e
theorem cut_edge {s : ByteArray} {k : Nat} (hk : k ≤ s.size) (r : RSt) : Cut (rEdge s r) (rEdge (s.extract 0 k) r) := by
  have hb : ∀ q : RSt, q.2 ≠ 0 → (rLeg (s.extract 0 k) q).2 = q := fun q h => rLeg_bad h
  simp only [rEdge]
  rcases cut_num hk 65535 r with e | e
  · rw [e]
    rcases cut_num hk 65535 (rnum s 65535 r).2 with e | e
    · rw [e]
      rcases cut_num hk 6 (rnum s 65535 (rnum s 65535 r).2).2 with e | e
      · rw [e]
        rcases cut_list (cut_leg hk) hb (rnum s 6 (rnum s 65535 (rnum s 65535 r).2).2).2 (rnum s 6 (rnum s 65535 (rnum s 65535 r).2).2).1 with e | e
        · rw [e]; exact .inl rfl
        · exact .inr e
      · right; simp only [rList_bad hb _ _ (five_ne e)]; exact e
    · right; simp only [rnum_bad (five_ne e), rList_bad hb _ _ (five_ne e)]; exact e
  · right; simp only [rnum_bad (five_ne e), rList_bad hb _ _ (five_ne e)]; exact e
theorem cut_graph {s : ByteArray} {k : Nat} (hk : k ≤ s.size) : Cut (rGraph s) (rGraph (s.extract 0 k)) := by
  have hb : ∀ q : RSt, q.2 ≠ 0 → (rIvl (s.extract 0 k) q).2 = q := fun q h => rIvl_bad h
  have hc : ∀ q : RSt, q.2 ≠ 0 → (rEdge (s.extract 0 k) q).2 = q := fun q h => rEdge_bad h
  simp only [rGraph]
  rcases cut_num hk 65535 (0, 0) with e | e
  · rw [e]
    rcases cut_num hk 12 (rnum s 65535 (0, 0)).2 with e | e
    · rw [e]
      rcases cut_num hk 30 (rnum s 12 (rnum s 65535 (0, 0)).2).2 with e | e
      · rw [e]
        rcases cut_list (cut_ivl hk) hb (rnum s 30 (rnum s 12 (rnum s 65535 (0, 0)).2).2).2 (rnum s 12 (rnum s 65535 (0, 0)).2).1 with e | e
        · rw [e]
          rcases cut_list (cut_edge hk) hc (rList (rIvl s) (rnum s 12 (rnum s 65535 (0, 0)).2).1 (rnum s 30 (rnum s 12 (rnum s 65535 (0, 0)).2).2).2).2 (rnum s 30 (rnum s 12 (rnum s 65535 (0, 0)).2).2).1 with e | e
          · rw [e]; exact .inl rfl
          · exact .inr e
        · right; simp only [rList_bad hc _ _ (five_ne e)]; exact e
      · right; simp only [rList_bad hb _ _ (five_ne e), rList_bad hc _ _ (five_ne e)]; exact e
    · right; simp only [rnum_bad (five_ne e), rList_bad hb _ _ (five_ne e), rList_bad hc _ _ (five_ne e)]; exact e
  · right; simp only [rnum_bad (five_ne e), rList_bad hb _ _ (five_ne e), rList_bad hc _ _ (five_ne e)]; exact e
/-- A beginning of a graph's bytes is none. -/
theorem dec_cut {g : GraphD} (hV : Valid g) {k : Nat} (hk : k < (coded g).size) : decErr ((coded g).extract 0 k) = 5 := by
  obtain ⟨h1, h2, h3⟩ := dec_coded hV ByteArray.empty
  rw [ByteArray.append_empty] at h1 h2 h3
  unfold decN at h3
  rw [if_pos h2, h1] at h3
  have := cut_graph (s := coded g) (k := k) (by omega)
  unfold decErr
  rcases this with e | e
  · rw [e, h1]
    simp only
    have c1 : ((coded g).extract 0 k).size < 2 * (numsL g).length + 4 := by rw [ByteArray.size_extract]; simp only at h3; omega
    rw [if_neg (by simp), if_pos c1]
  · rw [if_pos (five_ne e), e]
end Go.Proofs.Ytcfachfldanddaa
/- The walks of the reader's number and many. -/
namespace Go.Proofs.Ytcfachfldanddaa
open Go.RowKit

/-- A reader's cells. -/
def rdC (s : ByteArray) (r : RSt) : Array Value := #[.string s, .int .i64 (r.1 : Int), .int .i64 r.2]
theorem wraps_i64 (n : Int) (h0 : 0 ≤ n) (h1 : n < 2 ^ 63) : IntKind.i64.wrap n = n := IntWalk.i64_in _ (by omega)
theorem or_bytes (a b : Nat) (ha : a < 256) (hb : b < 256) : bits .or .i64 ((a : Int) * 256) (b : Int) = ((a * 256 + b : Nat) : Int) := by
  have h := (bits_nat .i64 63 (by decide) wraps_i64 (a * 256) b (by omega) (by omega)).2
  have e : a * 256 ||| b = a * 256 + b := by
    have := Nat.shiftLeft_add_eq_or_of_lt (i := 8) (b := b) (by omega) a
    rw [Nat.shiftLeft_eq] at this
    exact this.symm
  rw [e] at h
  simpa using h
theorem rnum_many {s : ByteArray} {m : Nat} {r : RSt} (hm : m ≤ 65535) :
    ((rnum s 65535 r).1 ≤ m → rnum s m r = rnum s 65535 r) ∧ (m < (rnum s 65535 r).1 → rnum s m r = (0, ((rnum s 65535 r).2.1, 2))) := by
  have := num2_lt s r.1
  unfold rnum
  by_cases h1 : r.2 ≠ 0
  · rw [if_pos h1, if_pos h1]
    exact ⟨fun _ => rfl, fun h => by simp at h⟩
  · rw [if_neg h1, if_neg h1]
    by_cases h2 : s.size < r.1 + 2
    · rw [if_pos h2, if_pos h2]
      exact ⟨fun _ => rfl, fun h => by simp at h⟩
    · rw [if_neg h2, if_neg h2, if_neg (show ¬ 65535 < num2 s r.1 by omega)]
      exact ⟨fun h => by rw [if_neg (by simp only at h; omega)], fun h => by rw [if_pos (by simpa using h)]⟩
end Go.Proofs.Ytcfachfldanddaa
/- The walk of slices.Clone over legs. -/
namespace Go.Proofs.Ytcfachfldanddaa
open Go.RowKit

def legC (x : LegD) : List Value := [.int .i64 x.f, .int .i64 x.t, .int .i64 x.time, .int .i64 x.cost]
theorem info_leg4 : (Try.prog.info? 115).map (fun i => (i.zero, i.size, i.bytes)) = some (some (.agg #[.int .i64 0, .int .i64 0, .int .i64 0, .int .i64 0]), 4, 32) := by kernel_rfl
theorem info_leg2 : ∃ i, Try.prog.info? 115 = some i ∧ i.zero = some (.agg #[.int .i64 0, .int .i64 0, .int .i64 0, .int .i64 0]) ∧ i.size = 4 ∧ i.bytes = 32 := by
  obtain ⟨i0, hi, hzz⟩ := Option.map_eq_some_iff.1 info_leg4
  simp only [Prod.mk.injEq] at hzz
  exact ⟨i0, hi, hzz.1, hzz.2.1, hzz.2.2⟩
theorem flat_get {l : List LegD} {k : Nat} {x : LegD} (h : l[k]? = some x) : (l.flatMap legC)[k * 4]? = some (.int .i64 x.f) ∧ (l.flatMap legC)[k * 4 + 1]? = some (.int .i64 x.t) ∧ (l.flatMap legC)[k * 4 + 2]? = some (.int .i64 x.time) ∧ (l.flatMap legC)[k * 4 + 3]? = some (.int .i64 x.cost) := by
  induction l generalizing k with
  | nil => simp at h
  | cons y l ih =>
    cases k with
    | zero =>
      obtain rfl : y = x := by simpa using h
      simp [legC]
    | succ k =>
      have ih := ih (k := k) (by simpa using h)
      rw [List.flatMap_cons]
      have e : ∀ j, (k + 1) * 4 + j = 4 + (k * 4 + j) := fun j => by omega
      have hl : (legC y).length = 4 := rfl
      refine ⟨?_, ?_, ?_, ?_⟩
      · rw [show (k + 1) * 4 = 4 + k * 4 by omega, List.getElem?_append_right (by omega), hl, Nat.add_sub_cancel_left]; exact ih.1
      · rw [e 1, List.getElem?_append_right (by omega), hl, Nat.add_sub_cancel_left]; exact ih.2.1
      · rw [e 2, List.getElem?_append_right (by omega), hl, Nat.add_sub_cancel_left]; exact ih.2.2.1
      · rw [e 3, List.getElem?_append_right (by omega), hl, Nat.add_sub_cancel_left]; exact ih.2.2.2
theorem flat_back {l : List LegD} {j : Nat} {u : Value} (h : (l.flatMap legC)[j]? = some u) : ∃ (k : Nat) (x : LegD) (i : Nat), l[k]? = some x ∧ j = k * 4 + i ∧ (legC x)[i]? = some u := by
  induction l generalizing j with
  | nil => simp at h
  | cons y l ih =>
    rw [List.flatMap_cons] at h
    by_cases hj : j < 4
    · rw [List.getElem?_append_left (by show j < 4; exact hj)] at h
      exact ⟨0, y, j, rfl, by omega, h⟩
    · rw [List.getElem?_append_right (by show 4 ≤ j; omega)] at h
      obtain ⟨k, x, i, h1, h2, h3⟩ := ih (j := j - 4) h
      exact ⟨k + 1, x, i, by simpa using h1, by omega, h3⟩
theorem flat_len (l : List LegD) : (l.flatMap legC).length = l.length * 4 := by
  induction l with
  | nil => rfl
  | cons x l ih => rw [List.flatMap_cons, List.length_append, ih, List.length_cons]; show 4 + _ = _; omega
theorem Own.lown {w : World} {base : Nat} {A : Option Addr} {n c : Nat} {l : List LegD} (h : Own legC 4 w base 115 (.slice A n c) l) : LOwn w A l := fun h0 => by
  rcases h.2 with ⟨h1, h2⟩ | ⟨g, cap, cur, hv, hg, hh, hnc, hcm, hcs, htake⟩
  · omega
  · injection hv with h1 h2 h3
    subst h1
    refine ⟨g, cur, rfl, hh, fun k x hk => ?_⟩
    have hl := lt_of_get hk
    obtain ⟨q0, q1, q2, q3⟩ := flat_get hk
    rw [← htake] at q0 q1 q2 q3
    rw [List.getElem?_take_of_lt (by omega)] at q0 q1 q2 q3
    exact ⟨by simpa using q0, by simpa using q1, by simpa using q2, by simpa using q3⟩
theorem legs_one (l : List LegD) : ∀ u ∈ l.flatMap legC, u.oneCell' = true := fun u hu => by
  obtain ⟨x, _, hx⟩ := List.mem_flatMap.1 hu
  simp only [legC, List.mem_cons, List.not_mem_nil, or_false] at hx
  rcases hx with rfl | rfl | rfl | rfl <;> rfl
/-- A list of legs is told, in a block of its own. -/
def CloneOut (l : List LegD) (w : World) (e : Ending) (w' : World) : Prop := ∃ A c, e = .returned (.slice A l.length c) ∧ LOwn w' A l ∧ l.length ≤ c ∧ c ≤ maxLen ∧ Below w.heap.size w w'

end Go.Proofs.Ytcfachfldanddaa
/- The walk of the reader's edge. -/
namespace Go.Proofs.Ytcfachfldanddaa
open Go.RowKit

def legOf (a b c d : Nat) : LegD := ⟨a, b, c, d⟩
theorem four_one {a b c d : Int} : ∀ u ∈ (#[.int .i64 a, .int .i64 b, .int .i64 c, .int .i64 d] : Array Value).toList, u.oneCell' = true := by simp [Value.oneCell']

end Go.Proofs.Ytcfachfldanddaa
/- Who reaches whom, as plain Lean: rows of marks; no program in sight. -/
namespace Go.Proofs.Ytcfachfldanddaa

def reachErr (g : GraphD) (s e : Int) : Int := if graphErr g = 0 then (if (0 ≤ s ∧ s < g.h) ∧ 0 ≤ e ∧ e < g.h then 0 else 1) else graphErr g
def markRow (e : Int) (l : List Int) : List Bool := l.map fun t => decide (t ≤ e)
/-- Row k tells whom vertex k reaches. -/
def RowsOk (g : GraphD) (s e : Int) (k : Nat) (rs : List (List Bool)) : Prop := rs.length = k ∧ ∀ (i : Nat) r, rs[i]? = some r → ∃ l, EarlyL g i s l ∧ r = markRow e l
section
variable {g : GraphD} {s e : Int} {k : Nat} {rs : List (List Bool)} {l : List Int}
theorem RowsOk.zero : RowsOk g s e 0 [] := ⟨rfl, fun i r h => by simp at h⟩
theorem RowsOk.next (h : RowsOk g s e k rs) (hl : EarlyL g k s l) : RowsOk g s e (k + 1) (rs ++ [markRow e l]) := by
  refine ⟨by simp [h.1], fun i r hi => ?_⟩
  by_cases hk : i < rs.length
  · rw [List.getElem?_append_left hk] at hi; exact h.2 i r hi
  · have hik := lt_of_get hi
    simp only [List.length_append, List.length_cons, List.length_nil] at hik
    have : i = k := by have := h.1; omega
    subst this
    rw [List.getElem?_append_right (by omega)] at hi
    have e0 : i - rs.length = 0 := by have := h.1; omega
    rw [e0] at hi
    exact ⟨l, hl, by simpa using hi.symm⟩
theorem RowsOk.len {i : Nat} {r : List Bool} (h : RowsOk g s e k rs) (hi : rs[i]? = some r) : r.length = g.lives.length := by
  obtain ⟨l, hl, rfl⟩ := h.2 i r hi
  simp [markRow, hl.1]
theorem markRow_get {j : Nat} (hj : j < l.length) : (markRow e l)[j]? = some (decide (gi l j ≤ e)) := by
  simp [markRow, gi_get hj]
/-- One reaches oneself, if one is there. -/
theorem RowsOk.self (hV : Valid g) (h : RowsOk g s e k rs) (hs : 0 ≤ s ∧ s ≤ 100) (he : e ≤ 100) {i : Nat} {r : List Bool} (hi : rs[i]? = some r) (hn : i < g.lives.length) : r[i]? = some (aliveB g i s && decide (s ≤ e)) := by
  obtain ⟨l, hl, rfl⟩ := h.2 i r hi
  rw [markRow_get (by rw [hl.1]; exact hn)]
  cases ha : aliveB g i s with
  | true =>
    have := hl.self hV hs.2 ⟨by omega, by omega⟩ ha
    simp only [Int.toNat_natCast] at this
    rw [this]
    simp
  | false =>
    have := hl.dead hV hs.2 ha hn
    have hne : ¬ Never ≤ e := by simp only [Never]; omega
    rw [this]
    simp [hne]
/-- Whom one reaches by an end one reaches by a later one. -/
theorem RowsOk.later {f : Int} {qs : List (List Bool)} (h : RowsOk g s e k rs) (h2 : RowsOk g s f k qs) (hef : e ≤ f) {i j : Nat} {r q : List Bool} (hi : rs[i]? = some r) (hq : qs[i]? = some q) {x y : Bool} (hx : r[j]? = some x) (hy : q[j]? = some y) : (x && !y) = false := by
  obtain ⟨l, hl, rfl⟩ := h.2 i r hi
  obtain ⟨l', hl', rfl⟩ := h2.2 i q hq
  obtain rfl := hl.eq hl'
  have hj := lt_of_get hx
  simp only [markRow, List.length_map] at hj
  rw [markRow_get hj] at hx hy
  simp only [Option.some.injEq] at hx hy
  subst hx; subst hy
  by_cases h1 : gi l j ≤ e
  · simp [show gi l j ≤ f by omega]
  · simp [h1]
end
end Go.Proofs.Ytcfachfldanddaa
