/- Several texts in one: Takes, PlainSpec, PlainLaw, RoundsSpec, BfSpec, SnapSpec, KeySpec, WarpSpec. -/
import Derived.Test.YtjcimdpldlamfaaGreatDoorBd96fdae9b88
import Derived.Test.YtjcimdpldlamfaaGreatDoorBd0848e2b72a
import Derived.Test.YtjcimdpldlamfaaGreatDoorBd2df7774ef4
import Derived.Test.YtjcimdpldlamfaaGreatDoorBd002cafd2b4
/- Reading operations of a drawn region, one after the other, in short. -/
namespace Go.Proofs.YtjcimdpldlamfaaGreatDoor
open Go Go.RowKit

section
variable {P : Program} {ops : Array Oper} {Q : Exit → Act → World → Prop} {md : Region.Mode} {S : World → Prop} {n : Nat} {oi : Oper} {f : Nat} {listed : Array Bool} {a : Act} {w : World} {d : Nat}
theorem tH (i : Nat) (v : Value) (hy : ∀ w, S w → (execOp a.eval oi).run P w = .ok (.value v) w) (h : wpAnyH P md ops Q S f (listed.setIfInBounds i true) (a.put (some d) v) w) (hi : ops[i]? = some oi := by exact rfl) (hd : oi.dst = some d := by exact rfl)
    (hB : (Region.noSelect ops && Region.free md ops listed i && (Region.ready md ops listed).contains i) = true := by kernel_rfl) (hQ : ∀ c a w, Q (.panic c) (a.put (some d) v) w → Q (.panic c) a w := by exact fun _ _ _ h => h)
    (hw : Region.wanted oi (yielded ops a.tmps) = true := by exact rfl) (hS : S w := by assumption) : wpAnyH P md ops Q S (f + 1) listed a w := anyH_take hi hd hB hQ (.inl ⟨hw, hy⟩) hS h
theorem tN (i : Nat) (v : Value) (hy : ∀ w, S w → (execOp a.eval oi).run P w = .ok (.value v) w) (h : WpN P md ops Q S n f (listed.setIfInBounds i true) (a.put (some d) v) w) (hi : ops[i]? = some oi := by exact rfl) (hd : oi.dst = some d := by exact rfl)
    (hB : (Region.noSelect ops && Region.free md ops listed i && (Region.ready md ops listed).contains i && Region.sinkB md ops n && Region.chainB md ops n && decide (n < ops.size) && decide (i < n) && headB md ops n listed) = true := by kernel_rfl) (hQ : ∀ c a w, Q (.panic c) (a.put (some d) v) w → Q (.panic c) a w := by exact fun _ _ _ h => h)
    (hw : Region.wanted oi (yielded ops a.tmps) = true := by exact rfl) (hS : S w := by assumption) : WpN P md ops Q S n (f + 1) listed a w := WpN.takeD hi hd hB hQ (.inl ⟨hw, hy⟩) hS h
theorem tE (i : Nat) (v : Value) (hy : ∀ w, S w → (execOp a.eval oi).run P w = .ok (.value v) w) (h : WpE P md ops Q S n f (listed.setIfInBounds i true) (a.put (some d) v) w) (hi : ops[i]? = some oi := by exact rfl) (hd : oi.dst = some d := by exact rfl)
    (hB : (Region.noSelect ops && Region.free md ops listed i && (Region.ready md ops listed).contains i && waitsB md ops n i && decide (i ≠ n) && !listed.getD n true) = true := by kernel_rfl) (hQ : ∀ c a w, Q (.panic c) (a.put (some d) v) w → Q (.panic c) a w := by exact fun _ _ _ h => h)
    (hw : Region.wanted oi (yielded ops a.tmps) = true := by exact rfl) (hS : S w := by assumption) : WpE P md ops Q S n (f + 1) listed a w := WpE.takeD hi hd hB hQ (.inl ⟨hw, hy⟩) hS h
end
theorem pS : (∀ (a : Act) (d : Tmp) (v : Value), a.put (some d) v = { a with tmps := a.tmps.setIfInBounds d v }) ∧ (∀ (a : Act) (v : Value), a.put none v = a) ∧ (∀ (l : List Value) i v, l.toArray.setIfInBounds i v = (l.set i v).toArray) ∧ (∀ (x : Value) l v, (x :: l).set 0 v = v :: l) ∧ (∀ (x : Value) l i v, (x :: l).set (i + 1) v = x :: l.set i v) :=
  ⟨fun _ _ _ => rfl, fun _ _ => rfl, fun _ _ _ => by simp, fun _ _ _ => rfl, fun _ _ _ _ => rfl⟩
end Go.Proofs.YtjcimdpldlamfaaGreatDoor
/- What is told of a snapshot, as plain Lean: errors, ways as greatest solutions, labels, degrees; no program in sight. -/
namespace Go.Proofs.YtjcimdpldlamfaaGreatDoor

def Far : Int := 1099511627776
def aliveAt (s : SnapD) (v : Int) : Bool := decide (0 ≤ v) && (s.alive[v.toNat]? == some true)
def arcAlive (s : SnapD) (a : ArcD) : Bool := aliveAt s a.a && aliveAt s a.b
def costOk (a : ArcD) : Bool := decide (0 ≤ a.cost ∧ a.cost ≤ 1000)
def shotErr (s : SnapD) : Int := if 12 < s.alive.length ∨ 30 < s.arcs.length then 2 else if s.arcs.all (arcAlive s) = false then 4 else if s.arcs.all costOk = false then 1 else 0
theorem shotErr_large {s : SnapD} (h : 12 < s.alive.length ∨ 30 < s.arcs.length) : shotErr s = 2 := by unfold shotErr; rw [if_pos h]
theorem shotErr_dead {s : SnapD} (h : ¬ (12 < s.alive.length ∨ 30 < s.arcs.length)) (h2 : s.arcs.all (arcAlive s) = false) : shotErr s = 4 := by unfold shotErr; rw [if_neg h, if_pos h2]
theorem shotErr_cost {s : SnapD} (h : ¬ (12 < s.alive.length ∨ 30 < s.arcs.length)) (h2 : s.arcs.all (arcAlive s) = true) (h3 : s.arcs.all costOk = false) : shotErr s = 1 := by
 unfold shotErr; rw [if_neg h, if_neg (by simp [h2]), if_pos h3]
theorem shotErr_ok {s : SnapD} (h : ¬ (12 < s.alive.length ∨ 30 < s.arcs.length)) (h2 : s.arcs.all (arcAlive s) = true) (h3 : s.arcs.all costOk = true) : shotErr s = 0 := by
 unfold shotErr; rw [if_neg h, if_neg (by simp [h2]), if_neg (by simp [h3])]
structure ArcOk (s : SnapD) (a : ArcD) : Prop where
 a0 : 0 ≤ a.a
 a1 : a.a.toNat < s.alive.length
 al : s.alive[a.a.toNat]? = some true
 b0 : 0 ≤ a.b
 b1 : a.b.toNat < s.alive.length
 bl : s.alive[a.b.toNat]? = some true
 c0 : 0 ≤ a.cost
 c1 : a.cost ≤ 1000
structure SnapOk (s : SnapD) : Prop where
 nv : s.alive.length ≤ 12
 na : s.arcs.length ≤ 30
 arcs : ∀ a, a ∈ s.arcs → ArcOk s a
theorem snapOk_of {s : SnapD} (h : shotErr s = 0) : SnapOk s := by
 unfold shotErr at h
 split at h
 ·simp at h
 ·rename_i h1
  split at h
  ·simp at h
  ·rename_i h2
   split at h
   ·simp at h
   ·rename_i h3
    simp only [Bool.not_eq_false, List.all_eq_true] at h2 h3
    refine ⟨by omega, by omega, fun a ha => ?_⟩
    have k2 := h2 a ha
    have k3 := h3 a ha
    simp only [arcAlive, aliveAt, Bool.and_eq_true, decide_eq_true_eq, beq_iff_eq] at k2
    simp only [costOk, decide_eq_true_eq] at k3
    obtain ⟨⟨k4, k5⟩, k6, k7⟩ := k2
    exact ⟨k4, lt_of_get k5, k5, k6, lt_of_get k7, k7, k3.1, k3.2⟩

/-! ### ways -/
def arcF (wt : ArcD → Int) (a : ArcD) : Arc Nat := ⟨a.a.toNat, a.b.toNat, fun t => t + wt a⟩
def arcB (wt : ArcD → Int) (a : ArcD) : Arc Nat := ⟨a.b.toNat, a.a.toNat, fun t => t + wt a⟩
def arcsOf (s : SnapD) (wt : ArcD → Int) : List (Arc Nat) := s.arcs.map (arcF wt)
/-- The arcs as a set, perhaps either way round. -/
def ArcsP (s : SnapD) (wt : ArcD → Int) (back : Bool) (x : Arc Nat) : Prop := ∃ a, a ∈ s.arcs ∧ (x = arcF wt a ∨ back = true ∧ x = arcB wt a)
def wOne (_ : ArcD) : Int := 1
def wCost (a : ArcD) : Int := a.cost
def wZero (_ : ArcD) : Int := 0
def startD (s : SnapD) (v : Int) : List Int := (List.range s.alive.length).map fun (k : Nat) => if s.alive[k]? = some true ∧ (k : Int) = v then 0 else Far
def labelD (s : SnapD) : List Int := (List.range s.alive.length).map fun (k : Nat) => if s.alive[k]? = some true then (k : Int) else Far
theorem gi_range {n : Nat} {f : Nat → Int} {k : Nat} (h : k < n) : gi ((List.range n).map f) k = f k := gi_of (by simp [h])
theorem gi_range_far {n : Nat} {f : Nat → Int} {k : Nat} (h : n ≤ k) : gi ((List.range n).map f) k = 0 := gi_far (by simpa using h)
theorem mem_arcsOf {s : SnapD} {wt : ArcD → Int} : (fun x => x ∈ arcsOf s wt) = ArcsP s wt false := by
 funext x
 simp only [arcsOf, ArcsP, List.mem_map, eq_iff_iff]
 constructor
 ·rintro ⟨a, h, rfl⟩; exact ⟨a, h, .inl rfl⟩
 ·rintro ⟨a, h, rfl | ⟨h2, _⟩⟩
  ·exact ⟨a, h, rfl⟩
  ·simp at h2
theorem mono_add (n : Int) : Mono fun t => t + n := fun s t h => by simp only; omega
/-- The list tells the ways from a vertex. -/
def WaysL (s : SnapD) (wt : ArcD → Int) (v : Int) (l : List Int) : Prop := l.length = s.alive.length ∧ Best (ArcsP s wt false) (gi (startD s v)) (gi l)
def LabelsL (s : SnapD) (l : List Int) : Prop := l.length = s.alive.length ∧ Best (ArcsP s wZero true) (gi (labelD s)) (gi l)
theorem WaysL.eq {s : SnapD} {wt : ArcD → Int} {v : Int} {l r : List Int} (h : WaysL s wt v l) (k : WaysL s wt v r) : l = r := gi_ext (h.1.trans k.1.symm) (h.2.eq k.2)
theorem LabelsL.eq {s : SnapD} {l r : List Int} (h : LabelsL s l) (k : LabelsL s r) : l = r := gi_ext (h.1.trans k.1.symm) (h.2.eq k.2)
def waysErr (s : SnapD) (v : Int) : Int := if shotErr s = 0 then (if 0 ≤ v ∧ v < s.alive.length then 0 else 4) else shotErr s
theorem waysErr_bad {s : SnapD} {v : Int} (h : ¬ shotErr s = 0) : waysErr s v = shotErr s := by unfold waysErr; rw [if_neg h]
theorem waysErr_none {s : SnapD} {v : Int} (h : shotErr s = 0) (h2 : ¬ (0 ≤ v ∧ v < s.alive.length)) : waysErr s v = 4 := by unfold waysErr; rw [if_pos h, if_neg h2]
theorem waysErr_ok {s : SnapD} {v : Int} (h : shotErr s = 0) (h2 : 0 ≤ v ∧ v < s.alive.length) : waysErr s v = 0 := by unfold waysErr; rw [if_pos h, if_pos h2]
/-! ### bounds -/
section
variable {s : SnapD} {v : Int}
theorem start_big (s : SnapD) (v : Int) (i : Nat) : gi (startD s v) i ≤ Far := by
 by_cases h : i < s.alive.length
 ·unfold startD; rw [gi_range h]; split <;> simp [Far]
 ·unfold startD; rw [gi_range_far (by omega)]; simp [Far]
theorem label_big (s : SnapD) (hn : s.alive.length ≤ 12) (i : Nat) : gi (labelD s) i ≤ Far := by
 by_cases h : i < s.alive.length
 ·unfold labelD; rw [gi_range h]; split <;> (simp only [Far]; omega)
 ·unfold labelD; rw [gi_range_far (by omega)]; simp [Far]
theorem start_pos (s : SnapD) (v : Int) (i : Nat) : 0 ≤ gi (startD s v) i := by
 by_cases h : i < s.alive.length
 ·unfold startD; rw [gi_range h]; split <;> simp [Far]
 ·unfold startD; rw [gi_range_far (by omega)]; simp
theorem label_pos (s : SnapD) (i : Nat) : 0 ≤ gi (labelD s) i := by
 by_cases h : i < s.alive.length
 ·unfold labelD; rw [gi_range h]; split <;> first | (unfold Far; omega) | omega
 ·unfold labelD; rw [gi_range_far (by omega)]; simp
/-- Nothing is told below nought. -/
theorem above_pos {ι : Type} {A : Arc ι → Prop} {init d : ι → Int} (h : Above A init d) (hi : ∀ i, 0 ≤ init i) (hf : ∀ x, A x → 0 ≤ x.f 0) : ∀ i, 0 ≤ d i :=
 h (fun _ => 0) ⟨hi, fun x hx => hf x hx⟩
end
end Go.Proofs.YtjcimdpldlamfaaGreatDoor
/- The plain law of PlainWays: what greatest solutions, labels and degrees have in common; no program in sight. -/
namespace Go.Proofs.YtjcimdpldlamfaaGreatDoor

theorem count_more {p q : Nat → Bool} (h : ∀ u, p u = true → q u = true) : ∀ (l : List Nat), (∃ u, u ∈ l ∧ q u = true ∧ p u = false) → l.countP p + 1 ≤ l.countP q
 | [], ⟨u, hu, _⟩ => by simp at hu
 | x :: l, ⟨u, hu, h1, h2⟩ => by
  have hle : l.countP p ≤ l.countP q := List.countP_mono_left fun y _ hy => h y hy
  rcases List.mem_cons.1 hu with rfl | hu
  ·simp [h1, h2]; omega
  ·have ih := count_more h l ⟨u, hu, h1, h2⟩
   have hx := h x
   cases hp : p x <;> cases hq : q x <;> simp [hp, hq] <;> simp [hp, hq] at hx <;> omega

section
variable {s : SnapD} {v : Int} {c h lb : List Int}
theorem ways_big {wt : ArcD → Int} (hc : WaysL s wt v c) (i : Nat) : gi c i ≤ Far := Int.le_trans (hc.2.1.1 i) (start_big s v i)
theorem ways_pos {wt : ArcD → Int} (hw : ∀ a, a ∈ s.arcs → 0 ≤ wt a) (hc : WaysL s wt v c) (i : Nat) : 0 ≤ gi c i :=
 above_pos hc.2.2 (start_pos s v) (fun x hx => by
  obtain ⟨a, ha, rfl | ⟨hb, _⟩⟩ := hx
  ·have := hw a ha; simp only [arcF]; omega
  ·simp at hb) i
theorem label_val {i : Nat} (hi : i < s.alive.length) : gi (labelD s) i = if s.alive[i]? = some true then (i : Int) else Far := by unfold labelD; rw [gi_range hi]
end
end Go.Proofs.YtjcimdpldlamfaaGreatDoor
/- FORD, BELLMAN, as plain Lean: what a round of a snapshot does to what is told; no program in sight. -/
namespace Go.Proofs.YtjcimdpldlamfaaGreatDoor

def wtP (p : Int) (a : ArcD) : Int := if p = 1 then 1 else if p = 2 then a.cost else 0
def begunD (s : SnapD) (p v : Int) : List Int := (List.range s.alive.length).map fun (k : Nat) => if s.alive[k]? = some true ∧ p = 3 then (k : Int) else if s.alive[k]? = some true ∧ (k : Int) = v then 0 else Far
end Go.Proofs.YtjcimdpldlamfaaGreatDoor
/- Rounds of FORD and BELLMAN, all at once: how many there can be, what they end in; no program in sight. -/
namespace Go.Proofs.YtjcimdpldlamfaaGreatDoor

/-- One round. -/
structure Bf (A : Arc Nat → Prop) (d e : Nat → Int) : Prop where
 le : ∀ v, e v ≤ d v
 arc : ∀ x, A x → e x.b ≤ x.f (d x.a)
 from_ : ∀ v, e v = d v ∨ ∃ x, A x ∧ x.b = v ∧ e v = x.f (d x.a)
theorem Bf.eq {A : Arc Nat → Prop} {d e e' : Nat → Int} (h : Bf A d e) (k : Bf A d e') : e = e' := by
 have key : ∀ {e e' : Nat → Int}, Bf A d e → Bf A d e' → ∀ v, e v ≤ e' v := fun {e e'} h k v => by
  rcases k.from_ v with h1 | ⟨x, hx, rfl, h1⟩
  ·rw [h1]; exact h.le v
  ·rw [h1]; exact h.arc x hx
 exact funext fun v => Int.le_antisymm (key h k v) (key k h v)
/-- So many rounds. -/
inductive BfN (A : Arc Nat → Prop) (init : Nat → Int) : Nat → (Nat → Int) → Prop
 | zero : BfN A init 0 init
 | succ {k : Nat} {d e : Nat → Int} : BfN A init k d → Bf A d e → BfN A init (k + 1) e
section
variable {A : Arc Nat → Prop} {init d e d' : Nat → Int} {k m n : Nat}
theorem BfN.eq (h : BfN A init k d) : ∀ {d' : Nat → Int}, BfN A init k d' → d = d' := by
 induction h with
 | zero => intro d' h'; cases h'; rfl
 | succ h hb ih =>
  intro d' h'
  cases h' with
  | succ h' hb' =>
   obtain rfl := ih h'
   exact hb.eq hb'
theorem BfN.le (h : BfN A init k d) : ∀ v, d v ≤ init v := by
 induction h with
 | zero => intro v; exact Int.le_refl _
 | succ h hb ih => intro v; exact Int.le_trans (hb.le v) (ih v)
theorem Above.bf (hm : ∀ x, A x → Mono x.f) (h : Above A init d) (hb : Bf A d e) : Above A init e := fun s hs v => by
 rcases hb.from_ v with h1 | ⟨x, hx, rfl, h1⟩
 ·rw [h1]; exact h s hs v
 ·rw [h1]; exact Int.le_trans (hs.2 x hx) (hm x hx _ _ (h s hs x.a))
theorem BfN.above (hm : ∀ x, A x → Mono x.f) (h : BfN A init k d) : Above A init d := by
 induction h with
 | zero => exact above_init
 | succ h hb ih => exact ih.bf hm hb
theorem BfN.stay (h : BfN A init k d) (hs : Bf A d d) : ∀ {m : Nat}, k ≤ m → BfN A init m d
  | 0, hk => by obtain rfl : k = 0 := by omega
                exact h
  | m + 1, hk => by
    rcases Nat.lt_or_ge m k with h1 | h1
    · obtain rfl : k = m + 1 := by omega
      exact h
    · exact .succ (BfN.stay h hs h1) hs
/-- A first place where nothing is less comes no later than any. -/
theorem BfN.first (h : BfN A init k d) (hs : Bf A d d) (h' : BfN A init m d') (hd : m = 0 ∨ ∃ p c, m = p + 1 ∧ BfN A init p c ∧ c ≠ d') : m ≤ k := by
 refine Classical.byContradiction fun hn => ?_
 rcases hd with rfl | ⟨p, c, rfl, hc, hne⟩
 ·omega
 ·have h1 := BfN.stay h hs (show k ≤ p by omega)
  have h2 := BfN.stay h hs (show k ≤ p + 1 by omega)
  exact hne (by rw [hc.eq h1, h'.eq h2])
/-- Arcs that add. -/
def Adds (A : Arc Nat → Prop) (n : Nat) : Prop := ∀ x, A x → x.a < n ∧ x.b < n ∧ ∃ c : Int, 0 ≤ c ∧ c ≤ 1000 ∧ x.f = fun t => t + c
theorem Adds.mono (h : Adds A n) : ∀ x, A x → Mono x.f := fun x hx => by
 obtain ⟨_, _, c, _, _, e⟩ := h x hx
 rw [e]; exact mono_add c
theorem Adds.best (h : Adds A n) (h0 : ∀ v, 0 ≤ init v) : ∃ b, Best A init b := Best.ex h.mono ⟨fun _ => 0, h0, fun x hx => by
 obtain ⟨_, _, c, h1, _, e⟩ := h x hx
 rw [e]; simp only; omega⟩
/-- As long as something is less, one more has its best each round. -/
theorem bf_tight (hA : Adds A n) {b : Nat → Int} (hb : Best A init b) (hle : ∀ v, d v ≤ init v) (hab : Above A init d) (hne : ∃ v, v < n ∧ d v ≠ b v) : ∃ x, A x ∧ d x.a = b x.a ∧ d x.b ≠ b x.b ∧ b x.b = x.f (b x.a) := by
 refine Classical.byContradiction fun hn => ?_
 have hn' : ∀ x, A x → d x.a = b x.a → d x.b ≠ b x.b → b x.b ≠ x.f (b x.a) := fun x h1 h2 h3 h4 => hn ⟨x, h1, h2, h3, h4⟩
 have hdb : ∀ v, b v ≤ d v := hab b hb.1
 let e : Nat → Int := fun v => if v < n ∧ d v ≠ b v then b v + 1 else b v
 have he : Sol A init e := by
  refine ⟨fun v => ?_, fun x hx => ?_⟩
  ·show (if v < n ∧ d v ≠ b v then b v + 1 else b v) ≤ init v
   split
   ·next h => have := hdb v; have := hle v; omega
   ·exact hb.1.1 v
  ·obtain ⟨h1, h2, c, _, _, ef⟩ := hA x hx
   have h3 := hb.1.2 x hx
   have h4 := hn' x hx
   show (if x.b < n ∧ d x.b ≠ b x.b then b x.b + 1 else b x.b) ≤ x.f (if x.a < n ∧ d x.a ≠ b x.a then b x.a + 1 else b x.a)
   rw [ef] at h3 h4 ⊢
   simp only at h3 h4 ⊢
   by_cases ha : d x.a = b x.a
   ·rw [if_neg (show ¬ (x.a < n ∧ d x.a ≠ b x.a) from fun h => h.2 ha)]
    split
    ·next h => have := h4 ha h.2; omega
    ·exact h3
   ·rw [if_pos (show x.a < n ∧ d x.a ≠ b x.a from ⟨h1, ha⟩)]
    split <;> omega
 obtain ⟨v, hv, hvn⟩ := hne
 have := hb.2 e he v
 have h5 : e v = b v + 1 := if_pos ⟨hv, hvn⟩
 omega
theorem BfN.count (hA : Adds A n) {b : Nat → Int} (hb : Best A init b) (h : BfN A init k d) : (∀ v, v < n → d v = b v) ∨ k ≤ (List.range n).countP fun v => decide (d v = b v) := by
 induction h with
 | zero => exact .inr (Nat.zero_le _)
 | @succ k d e h hs ih =>
  by_cases hall : ∀ v, v < n → e v = b v
  ·exact .inl hall
  ·refine .inr ?_
   have hae := (h.above hA.mono).bf hA.mono hs b hb.1
   have hle := h.le
   have hnd : ∃ v, v < n ∧ d v ≠ b v := by
    refine Classical.byContradiction fun hn => hall fun v hv => ?_
    have h1 : d v = b v := Classical.byContradiction fun h2 => hn ⟨v, hv, h2⟩
    have h2 := hs.le v
    have h3 := hae v
    omega
   have ih' : k ≤ (List.range n).countP fun v => decide (d v = b v) := by
    rcases ih with h1 | h1
    ·obtain ⟨v, hv, hvn⟩ := hnd
     exact absurd (h1 v hv) hvn
    ·exact h1
   obtain ⟨x, hx, hxa, hxb, hxt⟩ := bf_tight hA hb hle (h.above hA.mono) hnd
   have hmore := count_more (p := fun v => decide (d v = b v)) (q := fun v => decide (e v = b v)) (fun u hu => by
    simp only [decide_eq_true_eq] at hu ⊢
    have h2 := hs.le u
    have h3 := hae u
    omega) (List.range n) ⟨x.b, List.mem_range.2 (hA x hx).2.1, by
     simp only [decide_eq_true_eq]
     have h2 := hs.arc x hx
     have h3 := hae x.b
     rw [hxa, ← hxt] at h2
     omega, by simpa using hxb⟩
   omega
/-- If something gets less in a round, there were fewer rounds than vertices. -/
theorem BfN.few (hA : Adds A n) (h0 : ∀ v, 0 ≤ init v) (h : BfN A init k d) (hs : Bf A d e) {v : Nat} (hv : e v ≠ d v) : k + 1 ≤ n := by
 obtain ⟨b, hb⟩ := hA.best h0
 have hae := (h.above hA.mono).bf hA.mono hs b hb.1
 have hvn : v < n := by
  rcases hs.from_ v with h1 | ⟨x, hx, rfl, _⟩
  ·exact absurd h1 hv
  ·exact (hA x hx).2.1
 have hvb : d v ≠ b v := fun h1 => by
  have h2 := hs.le v
  have h3 := hae v
  omega
 rcases h.count hA hb with h1 | h1
 ·exact absurd (h1 v hvn) hvb
 ·have h2 := count_more (p := fun v => decide (d v = b v)) (q := fun _ => true) (fun _ _ => rfl) (List.range n) ⟨v, List.mem_range.2 hvn, rfl, by simpa using hvb⟩
  have h3 : (List.range n).countP (fun _ => true) ≤ n := by
   have := List.countP_le_length (p := fun _ : Nat => true) (l := List.range n)
   simp at this ⊢
  omega
/-- How much there can be. -/
theorem BfN.bound (hA : Adds A n) (h0 : ∀ v, 0 ≤ init v ∧ (init v = Far ∨ init v ≤ 12)) (h : BfN A init k d) : ∀ v, 0 ≤ d v ∧ (d v = Far ∨ d v ≤ 12 + 1000 * k) := by
 induction h with
 | zero => intro v; have := h0 v; omega
 | @succ k d e h hs ih =>
  intro v
  rcases hs.from_ v with h1 | ⟨x, hx, rfl, h1⟩
  ·rw [h1]; have := ih v; omega
  ·obtain ⟨_, _, c, hc0, hc1, ef⟩ := hA x hx
   have h2 := ih x.a
   have h3 := ih x.b
   have h4 := hs.le x.b
   rw [ef] at h1
   simp only at h1
   unfold Far at *
   omega
end
end Go.Proofs.YtjcimdpldlamfaaGreatDoor
/- The snapshot of a time, as plain lists. -/
namespace Go.Proofs.YtjcimdpldlamfaaGreatDoor
open Go.RowKit

def snapL (g : GraphD) (t : Int) : List Bool := (List.range g.lives.length).map fun (k : Nat) => aliveB g (k : Int) t
/-- The arc that an edge is at a time; or none. -/
def arcOf (g : GraphD) (t : Int) (x : EdgeD) : List ArcD := match leaves t x.legs with
 | some l => if aliveB g x.a t = true ∧ aliveB g x.b t = true then [⟨x.a, x.b, l.cost⟩] else []
 | none => []
def arcsL (g : GraphD) (t : Int) (l : List EdgeD) : List ArcD := l.flatMap (arcOf g t)
def snapD (g : GraphD) (t : Int) : SnapD := ⟨snapL g t, arcsL g t g.edges⟩
def atErr (g : GraphD) (t : Int) : Int := if graphErr g = 0 then (if 0 ≤ t ∧ t ≤ g.h - 1 then 0 else 1) else graphErr g
def atD (g : GraphD) (t : Int) : SnapD := if atErr g t = 0 then snapD g t else ⟨[], []⟩
theorem snapL_len (g : GraphD) (t : Int) : (snapL g t).length = g.lives.length := by simp [snapL]
theorem snapL_get {g : GraphD} {t : Int} {k : Nat} (h : k < g.lives.length) : (snapL g t)[k]? = some (aliveB g k t) := by simp [snapL, h]
theorem snapL_at {g : GraphD} {t v : Int} (h0 : 0 ≤ v) (h : v < g.lives.length) : (snapL g t)[v.toNat]? = some (aliveB g v t) := by
 rw [snapL_get (by omega), Int.toNat_of_nonneg h0]
theorem snapL_take {g : GraphD} {t : Int} {k : Nat} (h : k < g.lives.length) : (snapL g t).take (k + 1) = (snapL g t).take k ++ [aliveB g k t] := by
 rw [List.take_add_one, snapL_get h]; rfl
theorem snapL_end {g : GraphD} {t : Int} {k : Nat} (h : g.lives.length ≤ k) : (snapL g t).take k = snapL g t := List.take_of_length_le (by rw [snapL_len]; exact h)
theorem arcOf_no {g : GraphD} {t : Int} {x : EdgeD} (h : leaves t x.legs = none) : arcOf g t x = [] := by simp [arcOf, h]
theorem arcOf_a {g : GraphD} {t : Int} {x : EdgeD} (h : aliveB g x.a t = false) : arcOf g t x = [] := by
 unfold arcOf; split <;> simp [h]
theorem arcOf_b {g : GraphD} {t : Int} {x : EdgeD} (h : aliveB g x.b t = false) : arcOf g t x = [] := by
 unfold arcOf; split <;> simp [h]
theorem arcOf_yes {g : GraphD} {t : Int} {x : EdgeD} {l : LegD} (h : leaves t x.legs = some l) (ha : aliveB g x.a t = true) (hb : aliveB g x.b t = true) : arcOf g t x = [⟨x.a, x.b, l.cost⟩] := by simp [arcOf, h, ha, hb]
theorem arcsL_snoc (g : GraphD) (t : Int) {l : List EdgeD} {j : Nat} {x : EdgeD} (h : l[j]? = some x) : arcsL g t (l.take (j + 1)) = arcsL g t (l.take j) ++ arcOf g t x := by
 rw [List.take_add_one, h]; simp [arcsL]
theorem arcsL_mem {g : GraphD} {t : Int} {l : List EdgeD} {y : ArcD} (h : y ∈ arcsL g t l) : ∃ x lg, x ∈ l ∧ leaves t x.legs = some lg ∧ lg ∈ x.legs ∧ aliveB g x.a t = true ∧ aliveB g x.b t = true ∧ y = ⟨x.a, x.b, lg.cost⟩ := by
 simp only [arcsL, List.mem_flatMap] at h
 obtain ⟨x, hx, hy⟩ := h
 unfold arcOf at hy
 split at hy
 ·rename_i lg hl
  split at hy
  ·rename_i hab
   exact ⟨x, lg, hx, hl, (leaves_mem hl).1, hab.1, hab.2, by simpa using hy⟩
  ·simp at hy
 ·simp at hy
theorem atD_0 {g : GraphD} {t : Int} (h : atErr g t = 0) : atD g t = snapD g t := by unfold atD; rw [if_pos h]
theorem atD_no {g : GraphD} {t : Int} (h : ¬ atErr g t = 0) : atD g t = ⟨[], []⟩ := by unfold atD; rw [if_neg h]
end Go.Proofs.YtjcimdpldlamfaaGreatDoor
/- Values of any type over times, as lists of pieces; no program in sight (XMapSpec turned to any type). -/
namespace Go.Proofs.YtjcimdpldlamfaaGreatDoor

structure PieceG (α : Type) where
 f : Int
 t : Int
 v : α
/-- What is told at a time. -/
def atG {α : Type} : List (PieceG α) → Int → Option α
 | [], _ => none
 | x :: l, t => if x.f ≤ t ∧ t < x.t then some x.v else atG l t
def MapG {α : Type} (l : List (PieceG α)) : Prop := l.Pairwise (fun x y => x.t ≤ y.f ∧ (x.t = y.f → x.v ≠ y.v)) ∧ ∀ x, x ∈ l → x.f < x.t
section
variable {α : Type} {l r out : List (PieceG α)} {x y z : PieceG α} {t : Int} {v : α}
theorem atG_nil : atG ([] : List (PieceG α)) t = none := rfl
theorem atG_hit (h : x.f ≤ t ∧ t < x.t) : atG (x :: l) t = some x.v := by rw [atG, if_pos h]
theorem atG_miss (h : ¬ (x.f ≤ t ∧ t < x.t)) : atG (x :: l) t = atG l t := by rw [atG, if_neg h]
theorem atG_some : ∀ {l : List (PieceG α)}, atG l t = some v → ∃ x, x ∈ l ∧ x.f ≤ t ∧ t < x.t ∧ x.v = v
 | [], h => by simp [atG] at h
 | x :: l, h => by
  by_cases hx : x.f ≤ t ∧ t < x.t
  ·rw [atG_hit hx] at h
   exact ⟨x, by simp, hx.1, hx.2, by simpa using h⟩
  ·rw [atG_miss hx] at h
   obtain ⟨y, hy, h1⟩ := atG_some h
   exact ⟨y, List.mem_cons_of_mem _ hy, h1⟩
theorem atG_none : ∀ {l : List (PieceG α)}, (∀ x, x ∈ l → ¬ (x.f ≤ t ∧ t < x.t)) → atG l t = none
 | [], _ => rfl
 | x :: l, h => by rw [atG_miss (h x (by simp)), atG_none fun y hy => h y (List.mem_cons_of_mem _ hy)]
theorem atG_append : ∀ {l r : List (PieceG α)}, atG (l ++ r) t = (atG l t).or (atG r t)
 | [], r => by simp [atG]
 | x :: l, r => by
  rw [List.cons_append]
  by_cases hx : x.f ≤ t ∧ t < x.t
  ·rw [atG_hit hx, atG_hit hx]; rfl
  ·rw [atG_miss hx, atG_miss hx, atG_append]
theorem MapG.nil : MapG ([] : List (PieceG α)) := ⟨.nil, fun x h => by simp at h⟩
theorem MapG.tail (h : MapG (x :: l)) : MapG l := ⟨(List.pairwise_cons.1 h.1).2, fun y hy => h.2 y (List.mem_cons_of_mem _ hy)⟩
theorem MapG.init (h : MapG (out ++ [z])) : MapG out := ⟨(List.pairwise_append.1 h.1).1, fun y hy => h.2 y (List.mem_append_left _ hy)⟩
theorem MapG.snoc_lt (h : MapG (out ++ [z])) {y : PieceG α} (hy : y ∈ out) : y.t ≤ z.f ∧ (y.t = z.f → y.v ≠ z.v) := (List.pairwise_append.1 h.1).2.2 y hy z (by simp)
theorem MapG.snoc (h : MapG out) (hx : x.f < x.t) (hl : ∀ y, y ∈ out → y.t ≤ x.f ∧ (y.t = x.f → y.v ≠ x.v)) : MapG (out ++ [x]) := by
 refine ⟨List.pairwise_append.2 ⟨h.1, by simp, fun y hy u hu => ?_⟩, fun y hy => ?_⟩
 ·obtain rfl : u = x := by simpa using hu
  exact hl y hy
 ·rcases List.mem_append.1 hy with hy | hy
  ·exact h.2 y hy
  ·obtain rfl : y = x := by simpa using hy
   exact hx
theorem MapG.grow (h : MapG (out ++ [z])) {n : Int} (hn : z.t ≤ n) : MapG (out ++ [⟨z.f, n, z.v⟩]) :=
 h.init.snoc (by have := h.2 z (by simp); simp only; omega) fun _ hy => h.snoc_lt hy
/-- Who is told ahead of the last one ends ahead of it. -/
theorem MapG.ahead (h : MapG (out ++ [z])) {y : PieceG α} (hy : y ∈ out) : y.t < z.t := by
 have := h.snoc_lt hy; have := h.2 z (by simp); omega
end
/-! ### a map, written between one bound and the next -/
structure ToldG {α : Type} (fn : Int → Option α) (b a : Int) (out : List (PieceG α)) : Prop where
 map : MapG out
 tells : ∀ t, atG out t = if b ≤ t ∧ t < a then fn t else none
 low : ∀ y, y ∈ out → y.t ≤ a
section
variable {α : Type} {fn : Int → Option α} {b a c : Int} {v : α} {out o : List (PieceG α)} {z : PieceG α}
theorem ToldG.start : ToldG fn a a [] := ⟨.nil, fun t => by rw [atG_nil, if_neg (by omega)], fun y h => by simp at h⟩
theorem ToldG.skip (h : ToldG fn b a out) (hac : a < c) (hfn : ∀ t, a ≤ t → t < c → fn t = fn a) (hn : fn a = none) : ToldG fn b c out := by
 refine ⟨h.map, fun t => ?_, fun y hy => by have := h.low y hy; omega⟩
 rw [h.tells t]
 by_cases h1 : b ≤ t ∧ t < a
 ·rw [if_pos h1, if_pos (by omega)]
 ·rw [if_neg h1]
  split
  ·rw [hfn t (by omega) (by omega), hn]
  ·rfl
theorem ToldG.grow (h : ToldG fn b a (o ++ [z])) (_ : b ≤ a) (hac : a < c) (hfn : ∀ t, a ≤ t → t < c → fn t = fn a) (hv : fn a = some z.v) (hz : z.t = a) : ToldG fn b c (o ++ [⟨z.f, c, z.v⟩]) := by
 have hzl := h.map.2 z (by simp)
 have hzf : b ≤ z.f := by
  have h1 := h.tells z.f
  have h2 : atG (o ++ [z]) z.f = some z.v := by
   rw [atG_append, atG_none fun y hy => by have := h.map.snoc_lt hy; omega]
   exact atG_hit ⟨Int.le_refl _, hzl⟩
  rw [h2] at h1
  refine Classical.byContradiction fun hn => ?_
  rw [if_neg (by omega)] at h1
  simp at h1
 refine ⟨h.map.grow (by omega), fun t => ?_, fun y hy => ?_⟩
 ·have h1 := h.tells t
  rw [atG_append] at h1 ⊢
  cases hc : atG o t with
  | some u =>
   rw [hc] at h1
   obtain ⟨q, hq, k1, k2, _⟩ := atG_some hc
   have := h.low q (List.mem_append_left _ hq)
   simp only [Option.or] at h1 ⊢
   rw [h1]
   by_cases hb : b ≤ t ∧ t < a
   ·rw [if_pos hb, if_pos (by omega)]
   ·rw [if_neg hb] at h1; simp at h1
  | none =>
   rw [hc] at h1
   simp only [Option.none_or] at h1 ⊢
   by_cases ht : z.f ≤ t ∧ t < c
   ·rw [atG_hit (by simpa using ht), if_pos (by omega)]
    by_cases hta : t < a
    ·rw [atG_hit ⟨ht.1, by omega⟩, if_pos (by omega)] at h1
     simp only
     exact h1
    ·rw [hfn t (by omega) ht.2, hv]
   ·rw [atG_miss (by simpa using ht), atG_nil]
    rw [atG_miss (by omega), atG_nil] at h1
    by_cases hb : b ≤ t ∧ t < c
    ·rw [if_pos hb]
     rw [if_pos (by omega)] at h1
     exact h1
    ·rw [if_neg hb]
 ·rcases List.mem_append.1 hy with hy | hy
  ·have := h.low y (List.mem_append_left _ hy); omega
  ·obtain rfl : y = _ := by simpa using hy
   exact Int.le_refl _
theorem ToldG.next (h : ToldG fn b a out) (hba : b ≤ a) (hac : a < c) (hfn : ∀ t, a ≤ t → t < c → fn t = fn a) (hv : fn a = some v) (hz : ∀ y, y ∈ out → y.t = a → y.v ≠ v) : ToldG fn b c (out ++ [⟨a, c, v⟩]) := by
 refine ⟨h.map.snoc hac fun y hy => ⟨h.low y hy, fun e => hz y hy e⟩, fun t => ?_, fun y hy => ?_⟩
 ·have h1 := h.tells t
  rw [atG_append, h1]
  by_cases hb : b ≤ t ∧ t < a
  ·rw [if_pos hb, if_pos (by omega), atG_miss (by simp only; omega), atG_nil]
   simp
  ·rw [if_neg hb]
   simp only [Option.none_or]
   by_cases hc : b ≤ t ∧ t < c
   ·rw [if_pos hc, atG_hit (by simp only; omega), hfn t (by omega) (by omega), hv]
   ·rw [if_neg hc, atG_miss (by simp only; omega), atG_nil]
 ·rcases List.mem_append.1 hy with hy | hy
  ·have := h.low y hy; omega
  ·obtain rfl : y = _ := by simpa using hy
   exact Int.le_refl _
end
end Go.Proofs.YtjcimdpldlamfaaGreatDoor
/- Messages against states: what is told of them; no program in sight. -/
namespace Go.Proofs.YtjcimdpldlamfaaGreatDoor

structure CellD where
 f : Int
 t : Int
 s : Int
 has : Bool
 v : Int
deriving DecidableEq
/-- Is a message there at a time? -/
def inP (x : PieceD) (t : Int) : Bool := decide (x.f ≤ t ∧ t < x.t)
/-- Which of the first messages are there at a time. -/
def whichK (l : List PieceD) (t : Int) : Nat → List Int
 | 0 => []
 | k + 1 => whichK l t k ++ (match l[k]? with | some x => if inP x t then [(k : Int)] else [] | none => [])
def whichL (l : List PieceD) (t : Int) : List Int := whichK l t l.length
def vAt (l : List PieceD) (i : Int) : Int := ((l[i.toNat]?).map PieceD.v).getD 0
def valF (l : List PieceD) (k : Int) : Int → List Int → Int
 | v, [] => v
 | v, i :: is => valF l k (both3 k v (vAt l i)) is
/-- Their values put together. -/
def valOf (l : List PieceD) (k : Int) : List Int → Int
 | [] => 0
 | i :: is => valF l k (vAt l i) is
abbrev Key := List Int × Option Int
/-- What is there at a time: messages and a state; none: no message. -/
def keyF (state l : List PieceD) (t : Int) : Option Key := if whichL l t = [] then none else some (whichL l t, atM state t)
def toCell (l : List PieceD) (k : Int) (p : PieceG Key) : CellD := ⟨p.f, p.t, p.v.2.getD 0, p.v.2.isSome, valOf l k p.v.1⟩
/-- What is wrong with messages. -/
def MsgOk (l : List PieceD) : Prop := ∀ x, x ∈ l → (nearB x.f = true ∧ nearB x.t = true ∧ nearB x.v = true) ∧ x.f < x.t
open Classical in
noncomputable def msgErr (l : List PieceD) : Int := if 200 < l.length then 2 else if MsgOk l then 0 else 5
section
variable {l state : List PieceD} {t k v : Int} {n : Nat} {x : PieceD} {D : List Int}
theorem msgErr_large (h : 200 < l.length) : msgErr l = 2 := if_pos h
theorem msgErr_ok (h : ¬ 200 < l.length) (h2 : MsgOk l) : msgErr l = 0 := by unfold msgErr; rw [if_neg h, if_pos h2]
theorem msgErr_bad (h : ¬ 200 < l.length) (h2 : ¬ MsgOk l) : msgErr l = 5 := by unfold msgErr; rw [if_neg h, if_neg h2]
theorem msgErr_zero (h : msgErr l = 0) : l.length ≤ 200 ∧ MsgOk l := by
 by_cases h1 : 200 < l.length
 ·rw [msgErr_large h1] at h; simp at h
 ·by_cases h2 : MsgOk l
  ·exact ⟨by omega, h2⟩
  ·rw [msgErr_bad h1 h2] at h; simp at h
theorem whichK_succ (hx : l[n]? = some x) : whichK l t (n + 1) = whichK l t n ++ if inP x t then [(n : Int)] else [] := by
 show whichK l t n ++ (match l[n]? with | some x => if inP x t then [(n : Int)] else [] | none => []) = _
 rw [hx]
theorem mem_whichK : ∀ {n : Nat} {i : Int}, i ∈ whichK l t n → 0 ≤ i ∧ i < n ∧ ∃ x, l[i.toNat]? = some x ∧ inP x t = true
 | 0, i, h => by simp [whichK] at h
 | n + 1, i, h => by
  rcases List.mem_append.1 h with h | h
  ·obtain ⟨h1, h2, h3⟩ := mem_whichK h
   exact ⟨h1, by omega, h3⟩
  ·cases hx : l[n]? with
   | none => rw [hx] at h; simp at h
   | some x =>
    rw [hx] at h
    by_cases hp : inP x t = true
    ·simp only [hp, if_true, List.mem_cons, List.not_mem_nil, or_false] at h
     subst h
     exact ⟨by omega, by omega, x, by simpa using hx, hp⟩
    ·simp [hp] at h
theorem which_mem : ∀ {n : Nat} {i : Nat}, i < n → l[i]? = some x → inP x t = true → (i : Int) ∈ whichK l t n
 | n + 1, i, h, hx, hp => by
  by_cases hi : i = n
  ·subst hi
   rw [whichK_succ hx, hp]
   simp
  ·exact List.mem_append_left _ (which_mem (by omega) hx hp)
theorem which_has : whichL l t ≠ [] ↔ ∃ x, x ∈ l ∧ inP x t = true := by
 constructor
 ·intro h
  obtain ⟨i, hi⟩ := List.exists_mem_of_ne_nil _ h
  obtain ⟨_, _, x, hx, hp⟩ := mem_whichK hi
  exact ⟨x, List.mem_of_getElem? hx, hp⟩
 ·rintro ⟨x, hx, hp⟩ h
  obtain ⟨i, hi⟩ := List.getElem?_of_mem hx
  have := which_mem (n := l.length) (lt_of_get hi) hi hp
  unfold whichL at h
  rw [h] at this
  simp at this
theorem which_len : (whichK l t n).length ≤ n := by
 induction n with
 | zero => simp [whichK]
 | succ n ih =>
  show (whichK l t n ++ _).length ≤ _
  rw [List.length_append]
  cases l[n]? with
  | none => simp; omega
  | some x =>
   simp only
   split <;> simp <;> omega
theorem inP_has (x : PieceD) (t : Int) : hasB [⟨x.f, x.t⟩] t = inP x t := by
 rw [Bool.eq_iff_iff, has_cons]
 simp [inP, hasB]
theorem which_turns (hD : D.Pairwise (· < ·)) (hl : ∀ x, x ∈ l → x.f ∈ D ∧ x.t ∈ D) : TurnsAt D [] (whichL l) := by
 refine ⟨fun i a c ha hc t h1 h2 => ?_, fun t ht => ?_⟩
 ·have key : ∀ n, whichK l t n = whichK l a n := fun n => by
   induction n with
   | zero => rfl
   | succ n ih =>
    show whichK l t n ++ _ = whichK l a n ++ _
    rw [ih]
    cases hx : l[n]? with
    | none => rfl
    | some x =>
     have hm := hl x (List.mem_of_getElem? hx)
     have := (hasB_turns (l := [⟨x.f, x.t⟩]) hD fun y hy => by
      obtain rfl : y = _ := by simpa using hy
      exact hm).const i a c ha hc t h1 h2
     rw [inP_has, inP_has] at this
     simp only [this]
  exact key _
 ·obtain ⟨x, hx, hp⟩ := which_has.1 ht
  have h3 : x.f ≤ t ∧ t < x.t := by simpa [inP] using hp
  exact ⟨x.f, x.t, (hl x hx).1, (hl x hx).2, h3.1, h3.2⟩
theorem key_turns (hD : D.Pairwise (· < ·)) (hl : ∀ x, x ∈ l → x.f ∈ D ∧ x.t ∈ D) (hs : ∀ x, x ∈ state → x.f ∈ D ∧ x.t ∈ D) : TurnsAt D none (keyF state l) :=
 (which_turns hD hl).map2 (fun w s => if w = [] then none else some (w, s)) (if_pos rfl) (atM_turns hD hs)
/-- How far values put together may be. -/
theorem both_bound {k a b A : Int} (hk : 1 ≤ k ∧ k ≤ 3) (ha : -A ≤ a ∧ a ≤ A) (hA : 0 ≤ A) (hb : nearB b = true) : -(A + 1000000000) ≤ both3 k a b ∧ both3 k a b ≤ A + 1000000000 := by
 have := near_iff.1 hb
 unfold both3
 split
 ·omega
 ·split <;> omega
end
end Go.Proofs.YtjcimdpldlamfaaGreatDoor
