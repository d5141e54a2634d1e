/- What is told of a snapshot, as plain Lean: errors, ways as greatest solutions, labels, degrees; no program in sight. -/
import Derived.Test.YtcgnalpcbcpmkaaSys
namespace Go.Proofs.Ytcgnalpcbcpmkaa

def Far : Int := 1099511627776
def aliveAt (s : SnapD) (v : Int) : Bool := decide (0 ≤ v) && (s.alive[v.toNat]? == some true)
def arcAlive (s : SnapD) (a : ArcD) : Bool := aliveAt s a.a && aliveAt s a.b
def costOk (a : ArcD) : Bool := decide (0 ≤ a.cost ∧ a.cost ≤ 1000)
def shotErr (s : SnapD) : Int := if 12 < s.alive.length ∨ 30 < s.arcs.length then 2 else if s.arcs.all (arcAlive s) = false then 4 else if s.arcs.all costOk = false then 1 else 0
theorem shotErr_large {s : SnapD} (h : 12 < s.alive.length ∨ 30 < s.arcs.length) : shotErr s = 2 := by unfold shotErr; rw [if_pos h]
theorem shotErr_dead {s : SnapD} (h : ¬ (12 < s.alive.length ∨ 30 < s.arcs.length)) (h2 : s.arcs.all (arcAlive s) = false) : shotErr s = 4 := by unfold shotErr; rw [if_neg h, if_pos h2]
theorem shotErr_cost {s : SnapD} (h : ¬ (12 < s.alive.length ∨ 30 < s.arcs.length)) (h2 : s.arcs.all (arcAlive s) = true) (h3 : s.arcs.all costOk = false) : shotErr s = 1 := by
  unfold shotErr; rw [if_neg h, if_neg (by simp [h2]), if_pos h3]
theorem shotErr_ok {s : SnapD} (h : ¬ (12 < s.alive.length ∨ 30 < s.arcs.length)) (h2 : s.arcs.all (arcAlive s) = true) (h3 : s.arcs.all costOk = true) : shotErr s = 0 := by
  unfold shotErr; rw [if_neg h, if_neg (by simp [h2]), if_neg (by simp [h3])]
structure ArcOk (s : SnapD) (a : ArcD) : Prop where
  a0 : 0 ≤ a.a
  a1 : a.a.toNat < s.alive.length
  al : s.alive[a.a.toNat]? = some true
  b0 : 0 ≤ a.b
  b1 : a.b.toNat < s.alive.length
  bl : s.alive[a.b.toNat]? = some true
  c0 : 0 ≤ a.cost
  c1 : a.cost ≤ 1000
structure SnapOk (s : SnapD) : Prop where
  nv : s.alive.length ≤ 12
  na : s.arcs.length ≤ 30
  arcs : ∀ a, a ∈ s.arcs → ArcOk s a
theorem snapOk_of {s : SnapD} (h : shotErr s = 0) : SnapOk s := by
  unfold shotErr at h
  split at h
  · simp at h
  · rename_i h1
    split at h
    · simp at h
    · rename_i h2
      split at h
      · simp at h
      · rename_i h3
        simp only [Bool.not_eq_false, List.all_eq_true] at h2 h3
        refine ⟨by omega, by omega, fun a ha => ?_⟩
        have k2 := h2 a ha
        have k3 := h3 a ha
        simp only [arcAlive, aliveAt, Bool.and_eq_true, decide_eq_true_eq, beq_iff_eq] at k2
        simp only [costOk, decide_eq_true_eq] at k3
        obtain ⟨⟨k4, k5⟩, k6, k7⟩ := k2
        exact ⟨k4, lt_of_get k5, k5, k6, lt_of_get k7, k7, k3.1, k3.2⟩

/-! ### ways -/
def arcF (wt : ArcD → Int) (a : ArcD) : Arc Nat := ⟨a.a.toNat, a.b.toNat, fun t => t + wt a⟩
def arcB (wt : ArcD → Int) (a : ArcD) : Arc Nat := ⟨a.b.toNat, a.a.toNat, fun t => t + wt a⟩
def arcsOf (s : SnapD) (wt : ArcD → Int) : List (Arc Nat) := s.arcs.map (arcF wt)
/-- The arcs as a set, perhaps either way round. -/
def ArcsP (s : SnapD) (wt : ArcD → Int) (back : Bool) (x : Arc Nat) : Prop := ∃ a, a ∈ s.arcs ∧ (x = arcF wt a ∨ back = true ∧ x = arcB wt a)
def wOne (_ : ArcD) : Int := 1
def wCost (a : ArcD) : Int := a.cost
def wZero (_ : ArcD) : Int := 0
def startD (s : SnapD) (v : Int) : List Int := (List.range s.alive.length).map fun (k : Nat) => if s.alive[k]? = some true ∧ (k : Int) = v then 0 else Far
def labelD (s : SnapD) : List Int := (List.range s.alive.length).map fun (k : Nat) => if s.alive[k]? = some true then (k : Int) else Far
theorem gi_range {n : Nat} {f : Nat → Int} {k : Nat} (h : k < n) : gi ((List.range n).map f) k = f k := gi_of (by simp [h])
theorem gi_range_far {n : Nat} {f : Nat → Int} {k : Nat} (h : n ≤ k) : gi ((List.range n).map f) k = 0 := gi_far (by simpa using h)
theorem mem_arcsOf {s : SnapD} {wt : ArcD → Int} : (fun x => x ∈ arcsOf s wt) = ArcsP s wt false := by
  funext x
  simp only [arcsOf, ArcsP, List.mem_map, eq_iff_iff]
  constructor
  · rintro ⟨a, h, rfl⟩; exact ⟨a, h, .inl rfl⟩
  · rintro ⟨a, h, rfl | ⟨h2, _⟩⟩
    · exact ⟨a, h, rfl⟩
    · simp at h2
theorem mono_add (n : Int) : Mono fun t => t + n := fun s t h => by simp only; omega
/-- The list tells the ways from a vertex. -/
def WaysL (s : SnapD) (wt : ArcD → Int) (v : Int) (l : List Int) : Prop := l.length = s.alive.length ∧ Best (ArcsP s wt false) (gi (startD s v)) (gi l)
def LabelsL (s : SnapD) (l : List Int) : Prop := l.length = s.alive.length ∧ Best (ArcsP s wZero true) (gi (labelD s)) (gi l)
theorem WaysL.eq {s : SnapD} {wt : ArcD → Int} {v : Int} {l r : List Int} (h : WaysL s wt v l) (k : WaysL s wt v r) : l = r := gi_ext (h.1.trans k.1.symm) (h.2.eq k.2)
theorem LabelsL.eq {s : SnapD} {l r : List Int} (h : LabelsL s l) (k : LabelsL s r) : l = r := gi_ext (h.1.trans k.1.symm) (h.2.eq k.2)
def outOf (v : Nat) : List ArcD → Int
  | [] => 0
  | a :: l => if a.a.toNat = v then outOf v l + 1 else outOf v l
def degreesD (s : SnapD) : List Int := (List.range s.alive.length).map fun (k : Nat) => if s.alive[k]? = some true then outOf k s.arcs else Far
def waysErr (s : SnapD) (v : Int) : Int := if shotErr s = 0 then (if 0 ≤ v ∧ v < s.alive.length then 0 else 4) else shotErr s
theorem waysErr_bad {s : SnapD} {v : Int} (h : ¬ shotErr s = 0) : waysErr s v = shotErr s := by unfold waysErr; rw [if_neg h]
theorem waysErr_none {s : SnapD} {v : Int} (h : shotErr s = 0) (h2 : ¬ (0 ≤ v ∧ v < s.alive.length)) : waysErr s v = 4 := by unfold waysErr; rw [if_pos h, if_neg h2]
theorem waysErr_ok {s : SnapD} {v : Int} (h : shotErr s = 0) (h2 : 0 ≤ v ∧ v < s.alive.length) : waysErr s v = 0 := by unfold waysErr; rw [if_pos h, if_pos h2]
theorem waysErr_0 {s : SnapD} {v : Int} (h : waysErr s v = 0) : shotErr s = 0 ∧ 0 ≤ v ∧ v < s.alive.length := by
  unfold waysErr at h
  split at h
  · rename_i h1
    split at h
    · rename_i h2; exact ⟨h1, h2⟩
    · simp at h
  · contradiction

/-! ### bounds -/
section
variable {s : SnapD} {v : Int}
theorem start_big (s : SnapD) (v : Int) (i : Nat) : gi (startD s v) i ≤ Far := by
  by_cases h : i < s.alive.length
  · unfold startD; rw [gi_range h]; split <;> simp [Far]
  · unfold startD; rw [gi_range_far (by omega)]; simp [Far]
theorem label_big (s : SnapD) (hn : s.alive.length ≤ 12) (i : Nat) : gi (labelD s) i ≤ Far := by
  by_cases h : i < s.alive.length
  · unfold labelD; rw [gi_range h]; split <;> (simp only [Far]; omega)
  · unfold labelD; rw [gi_range_far (by omega)]; simp [Far]
theorem start_pos (s : SnapD) (v : Int) (i : Nat) : 0 ≤ gi (startD s v) i := by
  by_cases h : i < s.alive.length
  · unfold startD; rw [gi_range h]; split <;> simp [Far]
  · unfold startD; rw [gi_range_far (by omega)]; simp
theorem label_pos (s : SnapD) (i : Nat) : 0 ≤ gi (labelD s) i := by
  by_cases h : i < s.alive.length
  · unfold labelD; rw [gi_range h]; split <;> first | (unfold Far; omega) | omega
  · unfold labelD; rw [gi_range_far (by omega)]; simp
/-- Nothing is told below nought. -/
theorem above_pos {ι : Type} {A : Arc ι → Prop} {init d : ι → Int} (h : Above A init d) (hi : ∀ i, 0 ≤ init i) (hf : ∀ x, A x → 0 ≤ x.f 0) : ∀ i, 0 ≤ d i :=
  h (fun _ => 0) ⟨hi, fun x hx => hf x hx⟩
end
end Go.Proofs.Ytcgnalpcbcpmkaa
