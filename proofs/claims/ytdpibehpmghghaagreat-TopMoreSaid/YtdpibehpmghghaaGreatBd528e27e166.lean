/- Several texts in one: PlainSpec, PlainLaw, RoundsSpec. -/
import Derived.Test.YtdpibehpmghghaaGreatBd6068468490
/- What is told of a snapshot, as plain Lean: errors, ways as greatest solutions, labels, degrees; no program in sight. -/
namespace Go.Proofs.YtdpibehpmghghaaGreat

def Far : Int := 1099511627776
def aliveAt (s : SnapD) (v : Int) : Bool := decide (0 ≤ v) && (s.alive[v.toNat]? == some true)
def arcAlive (s : SnapD) (a : ArcD) : Bool := aliveAt s a.a && aliveAt s a.b
def costOk (a : ArcD) : Bool := decide (0 ≤ a.cost ∧ a.cost ≤ 1000)
def shotErr (s : SnapD) : Int := if 12 < s.alive.length ∨ 30 < s.arcs.length then 2 else if s.arcs.all (arcAlive s) = false then 4 else if s.arcs.all costOk = false then 1 else 0
theorem shotErr_large {s : SnapD} (h : 12 < s.alive.length ∨ 30 < s.arcs.length) : shotErr s = 2 := by unfold shotErr; rw [if_pos h]
theorem shotErr_dead {s : SnapD} (h : ¬ (12 < s.alive.length ∨ 30 < s.arcs.length)) (h2 : s.arcs.all (arcAlive s) = false) : shotErr s = 4 := by unfold shotErr; rw [if_neg h, if_pos h2]
theorem shotErr_cost {s : SnapD} (h : ¬ (12 < s.alive.length ∨ 30 < s.arcs.length)) (h2 : s.arcs.all (arcAlive s) = true) (h3 : s.arcs.all costOk = false) : shotErr s = 1 := by
  unfold shotErr; rw [if_neg h, if_neg (by simp [h2]), if_pos h3]
theorem shotErr_ok {s : SnapD} (h : ¬ (12 < s.alive.length ∨ 30 < s.arcs.length)) (h2 : s.arcs.all (arcAlive s) = true) (h3 : s.arcs.all costOk = true) : shotErr s = 0 := by
  unfold shotErr; rw [if_neg h, if_neg (by simp [h2]), if_neg (by simp [h3])]
structure ArcOk (s : SnapD) (a : ArcD) : Prop where
  a0 : 0 ≤ a.a
  a1 : a.a.toNat < s.alive.length
  al : s.alive[a.a.toNat]? = some true
  b0 : 0 ≤ a.b
  b1 : a.b.toNat < s.alive.length
  bl : s.alive[a.b.toNat]? = some true
  c0 : 0 ≤ a.cost
  c1 : a.cost ≤ 1000
structure SnapOk (s : SnapD) : Prop where
  nv : s.alive.length ≤ 12
  na : s.arcs.length ≤ 30
  arcs : ∀ a, a ∈ s.arcs → ArcOk s a
theorem snapOk_of {s : SnapD} (h : shotErr s = 0) : SnapOk s := by
  unfold shotErr at h
  split at h
  · simp at h
  · rename_i h1
    split at h
    · simp at h
    · rename_i h2
      split at h
      · simp at h
      · rename_i h3
        simp only [Bool.not_eq_false, List.all_eq_true] at h2 h3
        refine ⟨by omega, by omega, fun a ha => ?_⟩
        have k2 := h2 a ha
        have k3 := h3 a ha
        simp only [arcAlive, aliveAt, Bool.and_eq_true, decide_eq_true_eq, beq_iff_eq] at k2
        simp only [costOk, decide_eq_true_eq] at k3
        obtain ⟨⟨k4, k5⟩, k6, k7⟩ := k2
        exact ⟨k4, lt_of_get k5, k5, k6, lt_of_get k7, k7, k3.1, k3.2⟩

/-! ### ways -/
def arcF (wt : ArcD → Int) (a : ArcD) : Arc Nat := ⟨a.a.toNat, a.b.toNat, fun t => t + wt a⟩
def arcB (wt : ArcD → Int) (a : ArcD) : Arc Nat := ⟨a.b.toNat, a.a.toNat, fun t => t + wt a⟩
def arcsOf (s : SnapD) (wt : ArcD → Int) : List (Arc Nat) := s.arcs.map (arcF wt)
/-- The arcs as a set, perhaps either way round. -/
def ArcsP (s : SnapD) (wt : ArcD → Int) (back : Bool) (x : Arc Nat) : Prop := ∃ a, a ∈ s.arcs ∧ (x = arcF wt a ∨ back = true ∧ x = arcB wt a)
def wOne (_ : ArcD) : Int := 1
def wCost (a : ArcD) : Int := a.cost
def wZero (_ : ArcD) : Int := 0
def startD (s : SnapD) (v : Int) : List Int := (List.range s.alive.length).map fun (k : Nat) => if s.alive[k]? = some true ∧ (k : Int) = v then 0 else Far
def labelD (s : SnapD) : List Int := (List.range s.alive.length).map fun (k : Nat) => if s.alive[k]? = some true then (k : Int) else Far
theorem gi_range {n : Nat} {f : Nat → Int} {k : Nat} (h : k < n) : gi ((List.range n).map f) k = f k := gi_of (by simp [h])
theorem gi_range_far {n : Nat} {f : Nat → Int} {k : Nat} (h : n ≤ k) : gi ((List.range n).map f) k = 0 := gi_far (by simpa using h)
theorem mem_arcsOf {s : SnapD} {wt : ArcD → Int} : (fun x => x ∈ arcsOf s wt) = ArcsP s wt false := by
  funext x
  simp only [arcsOf, ArcsP, List.mem_map, eq_iff_iff]
  constructor
  · rintro ⟨a, h, rfl⟩; exact ⟨a, h, .inl rfl⟩
  · rintro ⟨a, h, rfl | ⟨h2, _⟩⟩
    · exact ⟨a, h, rfl⟩
    · simp at h2
theorem mono_add (n : Int) : Mono fun t => t + n := fun s t h => by simp only; omega
/-- The list tells the ways from a vertex. -/
def WaysL (s : SnapD) (wt : ArcD → Int) (v : Int) (l : List Int) : Prop := l.length = s.alive.length ∧ Best (ArcsP s wt false) (gi (startD s v)) (gi l)
def LabelsL (s : SnapD) (l : List Int) : Prop := l.length = s.alive.length ∧ Best (ArcsP s wZero true) (gi (labelD s)) (gi l)
theorem WaysL.eq {s : SnapD} {wt : ArcD → Int} {v : Int} {l r : List Int} (h : WaysL s wt v l) (k : WaysL s wt v r) : l = r := gi_ext (h.1.trans k.1.symm) (h.2.eq k.2)
theorem LabelsL.eq {s : SnapD} {l r : List Int} (h : LabelsL s l) (k : LabelsL s r) : l = r := gi_ext (h.1.trans k.1.symm) (h.2.eq k.2)
def outOf (v : Nat) : List ArcD → Int
  | [] => 0
  | a :: l => if a.a.toNat = v then outOf v l + 1 else outOf v l
def degreesD (s : SnapD) : List Int := (List.range s.alive.length).map fun (k : Nat) => if s.alive[k]? = some true then outOf k s.arcs else Far
def waysErr (s : SnapD) (v : Int) : Int := if shotErr s = 0 then (if 0 ≤ v ∧ v < s.alive.length then 0 else 4) else shotErr s
theorem waysErr_bad {s : SnapD} {v : Int} (h : ¬ shotErr s = 0) : waysErr s v = shotErr s := by unfold waysErr; rw [if_neg h]
theorem waysErr_none {s : SnapD} {v : Int} (h : shotErr s = 0) (h2 : ¬ (0 ≤ v ∧ v < s.alive.length)) : waysErr s v = 4 := by unfold waysErr; rw [if_pos h, if_neg h2]
theorem waysErr_ok {s : SnapD} {v : Int} (h : shotErr s = 0) (h2 : 0 ≤ v ∧ v < s.alive.length) : waysErr s v = 0 := by unfold waysErr; rw [if_pos h, if_pos h2]
theorem waysErr_0 {s : SnapD} {v : Int} (h : waysErr s v = 0) : shotErr s = 0 ∧ 0 ≤ v ∧ v < s.alive.length := by
  unfold waysErr at h
  split at h
  · rename_i h1
    split at h
    · rename_i h2; exact ⟨h1, h2⟩
    · simp at h
  · contradiction

/-! ### bounds -/
section
variable {s : SnapD} {v : Int}
theorem start_big (s : SnapD) (v : Int) (i : Nat) : gi (startD s v) i ≤ Far := by
  by_cases h : i < s.alive.length
  · unfold startD; rw [gi_range h]; split <;> simp [Far]
  · unfold startD; rw [gi_range_far (by omega)]; simp [Far]
theorem label_big (s : SnapD) (hn : s.alive.length ≤ 12) (i : Nat) : gi (labelD s) i ≤ Far := by
  by_cases h : i < s.alive.length
  · unfold labelD; rw [gi_range h]; split <;> (simp only [Far]; omega)
  · unfold labelD; rw [gi_range_far (by omega)]; simp [Far]
theorem start_pos (s : SnapD) (v : Int) (i : Nat) : 0 ≤ gi (startD s v) i := by
  by_cases h : i < s.alive.length
  · unfold startD; rw [gi_range h]; split <;> simp [Far]
  · unfold startD; rw [gi_range_far (by omega)]; simp
theorem label_pos (s : SnapD) (i : Nat) : 0 ≤ gi (labelD s) i := by
  by_cases h : i < s.alive.length
  · unfold labelD; rw [gi_range h]; split <;> first | (unfold Far; omega) | omega
  · unfold labelD; rw [gi_range_far (by omega)]; simp
/-- Nothing is told below nought. -/
theorem above_pos {ι : Type} {A : Arc ι → Prop} {init d : ι → Int} (h : Above A init d) (hi : ∀ i, 0 ≤ init i) (hf : ∀ x, A x → 0 ≤ x.f 0) : ∀ i, 0 ≤ d i :=
  h (fun _ => 0) ⟨hi, fun x hx => hf x hx⟩
end
end Go.Proofs.YtdpibehpmghghaaGreat
/- The plain law of PlainWays: what greatest solutions, labels and degrees have in common; no program in sight. -/
namespace Go.Proofs.YtdpibehpmghghaaGreat

theorem count_more {p q : Nat → Bool} (h : ∀ u, p u = true → q u = true) : ∀ (l : List Nat), (∃ u, u ∈ l ∧ q u = true ∧ p u = false) → l.countP p + 1 ≤ l.countP q
  | [], ⟨u, hu, _⟩ => by simp at hu
  | x :: l, ⟨u, hu, h1, h2⟩ => by
    have hle : l.countP p ≤ l.countP q := List.countP_mono_left fun y _ hy => h y hy
    rcases List.mem_cons.1 hu with rfl | hu
    · simp [h1, h2]; omega
    · have ih := count_more h l ⟨u, hu, h1, h2⟩
      have hx := h x
      cases hp : p x <;> cases hq : q x <;> simp [hp, hq] <;> simp [hp, hq] at hx <;> omega

section
variable {s : SnapD} {v : Int} {c h lb : List Int}
theorem ways_big {wt : ArcD → Int} (hc : WaysL s wt v c) (i : Nat) : gi c i ≤ Far := Int.le_trans (hc.2.1.1 i) (start_big s v i)
theorem ways_pos {wt : ArcD → Int} (hw : ∀ a, a ∈ s.arcs → 0 ≤ wt a) (hc : WaysL s wt v c) (i : Nat) : 0 ≤ gi c i :=
  above_pos hc.2.2 (start_pos s v) (fun x hx => by
    obtain ⟨a, ha, rfl | ⟨hb, _⟩⟩ := hx
    · have := hw a ha; simp only [arcF]; omega
    · simp at hb) i
theorem start_val {i : Nat} (hi : i < s.alive.length) : gi (startD s v) i = if s.alive[i]? = some true ∧ (i : Int) = v then 0 else Far := by unfold startD; rw [gi_range hi]
theorem label_val {i : Nat} (hi : i < s.alive.length) : gi (labelD s) i = if s.alive[i]? = some true then (i : Int) else Far := by unfold labelD; rw [gi_range hi]
theorem ways_arc {wt : ArcD → Int} (hc : WaysL s wt v c) {a : ArcD} (ha : a ∈ s.arcs) : gi c a.b.toNat ≤ gi c a.a.toNat + wt a := hc.2.1.2 (arcF wt a) ⟨a, ha, .inl rfl⟩
theorem ways_tight {wt : ArcD → Int} (hc : WaysL s wt v c) {k : Nat} (hk : gi c k < gi (startD s v) k) : ∃ a, a ∈ s.arcs ∧ a.b.toNat = k ∧ gi c a.a.toNat + wt a = gi c k := by
  obtain ⟨x, ⟨a, ha, rfl | ⟨hb, _⟩⟩, h1, h2⟩ := hc.2.tight (fun x hx => by
    obtain ⟨a, ha, rfl | ⟨hb, _⟩⟩ := hx
    · exact mono_add _
    · simp at hb) hk
  · exact ⟨a, ha, h1, h2⟩
  · simp at hb
theorem start_low {k : Nat} {x : Int} (hk : k < s.alive.length) (h0 : 0 < x) (h1 : x < Far) (h2 : x ≤ gi (startD s v) k) : x < gi (startD s v) k := by
  rw [start_val hk] at h2 ⊢
  split at h2
  · omega
  · rename_i hn; rw [if_neg hn]; exact h1
theorem hops_down (hs : SnapOk s) (hh : WaysL s wOne v h) (m : Nat) : ∀ (k : Nat), k < s.alive.length → gi h k = m → (m : Int) < Far → ∀ j, j ≤ m → ∃ u, u < s.alive.length ∧ gi h u = (j : Int) := by
  induction m with
  | zero => exact fun k hk he _ j hj => ⟨k, hk, by rw [he]; omega⟩
  | succ m ih =>
    intro k hk he hm j hj
    by_cases e : j = m + 1
    · exact ⟨k, hk, by rw [he, e]⟩
    · obtain ⟨a, ha, h1, h2⟩ := ways_tight hh (start_low hk (by rw [he]; omega) (by rw [he]; exact hm) (hh.2.1.1 k))
      have hp : gi h a.a.toNat = (m : Int) := by simp only [wOne] at h2; rw [he] at h2; omega
      exact ih a.a.toNat (hs.arcs a ha).a1 hp (by omega) j (by omega)
theorem hops_few (hs : SnapOk s) (hh : WaysL s wOne v h) {k : Nat} (hk : k < s.alive.length) (hf : gi h k < Far) : gi h k < s.alive.length := by
  have h0 := ways_pos (fun _ _ => by simp [wOne]) hh k
  obtain ⟨m, hm⟩ : ∃ m : Nat, gi h k = m := ⟨(gi h k).toNat, by omega⟩
  have hc : ∀ j, j ≤ m → j + 1 ≤ (List.range s.alive.length).countP fun u => decide (gi h u ≤ j) := by
    intro j
    induction j with
    | zero =>
      intro _
      obtain ⟨u, hu, he⟩ := hops_down hs hh m k hk hm (by omega) 0 (by omega)
      have : 0 < (List.range s.alive.length).countP fun u => decide (gi h u ≤ (0 : Nat)) := List.countP_pos_iff.2 ⟨u, by simpa using hu, by simp [he]⟩
      omega
    | succ j ih =>
      intro hj
      obtain ⟨u, hu, he⟩ := hops_down hs hh m k hk hm (by omega) (j + 1) hj
      have := count_more (p := fun u => decide (gi h u ≤ (j : Int))) (q := fun u => decide (gi h u ≤ ((j + 1 : Nat) : Int))) (fun u hu => by simp at hu ⊢; omega) (List.range s.alive.length)
        ⟨u, by simpa using hu, by simp [he], by simp [he]; omega⟩
      have := ih (by omega)
      omega
  have h1 := hc m (Nat.le_refl _)
  have h2 : (List.range s.alive.length).countP (fun u => decide (gi h u ≤ (m : Int))) ≤ (List.range s.alive.length).length := List.countP_le_length
  simp only [List.length_range] at h2
  omega
theorem cost_of_hops (hs : SnapOk s) (hc : WaysL s wCost v c) (hh : WaysL s wOne v h) (m : Nat) : ∀ (k : Nat), k < s.alive.length → gi h k = m → (m : Int) < Far → gi c k ≤ 1000 * m := by
  induction m with
  | zero =>
    intro k hk he _
    have h1 := hh.2.1.1 k
    rw [he, start_val hk] at h1
    have h2 := hc.2.1.1 k
    rw [start_val hk] at h2
    by_cases hz : gi h k = gi (startD s v) k
    · rw [he, start_val hk] at hz
      split at hz
      · rename_i hp; rw [if_pos hp] at h2; omega
      · simp [Far] at hz
    · have hlt : gi h k < gi (startD s v) k := by have := hh.2.1.1 k; omega
      obtain ⟨a, ha, h3, h4⟩ := ways_tight hh hlt
      have := ways_pos (fun _ _ => by simp [wOne]) hh a.a.toNat
      simp only [wOne] at h4
      omega
  | succ m ih =>
    intro k hk he hm
    obtain ⟨a, ha, h1, h2⟩ := ways_tight hh (start_low hk (by rw [he]; omega) (by rw [he]; exact hm) (hh.2.1.1 k))
    have hp : gi h a.a.toNat = (m : Int) := by simp only [wOne] at h2; rw [he] at h2; omega
    have ih := ih a.a.toNat (hs.arcs a ha).a1 hp (by omega)
    have h3 := ways_arc hc ha
    have h4 := (hs.arcs a ha).c1
    rw [h1] at h3
    simp only [wCost] at h3
    omega
theorem ways_far_iff (hs : SnapOk s) (hc : WaysL s wCost v c) (hh : WaysL s wOne v h) {k : Nat} (hk : k < s.alive.length) : gi c k = Far ↔ gi h k = Far := by
  constructor
  · intro he
    have hb := ways_big hh k
    refine Classical.byContradiction fun hn => ?_
    have hlt : gi h k < Far := by omega
    have h1 := hops_few hs hh hk hlt
    have h0 := ways_pos (fun _ _ => by simp [wOne]) hh k
    have h2 := cost_of_hops hs hc hh (gi h k).toNat k hk (by omega) (by omega)
    have h3 := hs.nv
    rw [he] at h2
    simp only [Far] at h2
    omega
  · intro he
    refine hc.2.far (I := Far) (ways_big hc) ?_ ?_ (fun i => gi h i = Far) ?_ ?_ k he
    · rintro x ⟨a, ha, rfl | ⟨hb, _⟩⟩
      · exact mono_add _
      · simp at hb
    · rintro x ⟨a, ha, rfl | ⟨hb, _⟩⟩
      · have := (hs.arcs a ha).c0; simp only [arcF, wCost]; omega
      · simp at hb
    · rintro x ⟨a, ha, rfl | ⟨hb, _⟩⟩ hx
      · simp only [arcF] at hx ⊢
        have h1 := ways_arc hh ha
        have hb := ways_big hh a.a.toNat
        refine Classical.byContradiction fun hn => ?_
        have h2 := hops_few hs hh (hs.arcs a ha).a1 (by omega)
        have h3 := hs.nv
        rw [hx] at h1
        simp only [wOne, Far] at h1
        omega
      · simp at hb
    · intro i hi
      have := hh.2.1.1 i
      omega
theorem labels_arc (hl : LabelsL s lb) {a : ArcD} (ha : a ∈ s.arcs) : gi lb a.a.toNat = gi lb a.b.toNat := by
  have h1 := hl.2.1.2 (arcF wZero a) ⟨a, ha, .inl rfl⟩
  have h2 := hl.2.1.2 (arcB wZero a) ⟨a, ha, .inr ⟨rfl, rfl⟩⟩
  simp only [arcF, arcB, wZero] at h1 h2
  omega
theorem ways_label (hs : SnapOk s) (hc : WaysL s wCost v c) (hl : LabelsL s lb) {k : Nat} (hk : k < s.alive.length) (hf : gi c k < Far) : gi lb k = gi lb v.toNat := by
  refine Classical.byContradiction fun hn => ?_
  have := hc.2.far (I := Far) (ways_big hc) (by
      rintro x ⟨a, ha, rfl | ⟨hb, _⟩⟩
      · exact mono_add _
      · simp at hb) (by
      rintro x ⟨a, ha, rfl | ⟨hb, _⟩⟩
      · have := (hs.arcs a ha).c0; simp only [arcF, wCost]; omega
      · simp at hb) (fun i => i < s.alive.length ∧ ¬ gi lb i = gi lb v.toNat) (by
      rintro x ⟨a, ha, rfl | ⟨hb, _⟩⟩ hx
      · simp only [arcF] at hx ⊢
        exact ⟨(hs.arcs a ha).a1, by rw [labels_arc hl ha]; exact hx.2⟩
      · simp at hb) (by
      rintro i ⟨hi, hne⟩
      rw [start_val hi]
      split
      · rename_i hp
        exact absurd (by rw [show i = v.toNat by omega]) hne
      · exact Int.le_refl _) k ⟨hk, hn⟩
  omega
theorem ways_by (hs : SnapOk s) (hc : WaysL s wCost v c) {k : Nat} (hk : k < s.alive.length) (hf : gi c k < Far) (hv : ¬ (k : Int) = v) : ∃ a, a ∈ s.arcs ∧ a.b = k ∧ gi c a.a.toNat < Far ∧ gi c a.a.toNat + a.cost = gi c k := by
  obtain ⟨a, ha, h1, h2⟩ := ways_tight hc (k := k) (by rw [start_val hk, if_neg (fun h => hv h.2)]; exact hf)
  have ho := hs.arcs a ha
  have h3 := ho.b0; have h4 := ho.c0
  simp only [wCost] at h2
  exact ⟨a, ha, by omega, by omega, h2⟩
theorem labels_dead (hs : SnapOk s) (hl : LabelsL s lb) {k : Nat} (hk : k < s.alive.length) : (gi lb k = Far ↔ ¬ s.alive[k]? = some true) ∧ (¬ gi lb k = Far → gi lb k ≤ k) := by
  have h1 := hl.2.1.1 k
  rw [label_val hk] at h1
  have h2 := hs.nv
  by_cases ha : s.alive[k]? = some true
  · rw [if_pos ha] at h1
    exact ⟨⟨fun e => by rw [e] at h1; simp only [Far] at h1; omega, fun e => absurd ha e⟩, fun _ => h1⟩
  · have hd : gi lb k = Far := by
      refine hl.2.far (I := Far) (fun i => Int.le_trans (hl.2.1.1 i) (label_big s hs.nv i)) ?_ ?_ (fun i => i < s.alive.length ∧ ¬ s.alive[i]? = some true) ?_ ?_ k ⟨hk, ha⟩
      · rintro x ⟨a, _, rfl | ⟨_, rfl⟩⟩ <;> exact mono_add _
      · rintro x ⟨a, _, rfl | ⟨_, rfl⟩⟩ <;> simp [arcF, arcB, wZero]
      · rintro x ⟨a, hm, rfl | ⟨_, rfl⟩⟩ hx
        · exact absurd (hs.arcs a hm).bl hx.2
        · exact absurd (hs.arcs a hm).al hx.2
      · rintro i ⟨hi, hn⟩
        rw [label_val hi, if_neg hn]
        exact Int.le_refl _
    exact ⟨⟨fun _ => ha, fun _ => hd⟩, fun hn => absurd hd hn⟩
theorem outOf_bound (k : Nat) : ∀ l : List ArcD, 0 ≤ outOf k l ∧ outOf k l ≤ l.length
  | [] => by simp [outOf]
  | a :: l => by
    have := outOf_bound k l
    unfold outOf
    split <;> simp <;> omega
theorem degree_val {k : Nat} (hk : k < s.alive.length) : gi (degreesD s) k = if s.alive[k]? = some true then outOf k s.arcs else Far := by unfold degreesD; rw [gi_range hk]
theorem degree_far (hs : SnapOk s) {k : Nat} (hk : k < s.alive.length) : gi (degreesD s) k = Far ↔ ¬ s.alive[k]? = some true := by
  rw [degree_val hk]
  have h1 := outOf_bound k s.arcs
  have h2 := hs.na
  split
  · rename_i ha
    exact ⟨fun e => by simp only [Far] at e; omega, fun e => absurd ha e⟩
  · rename_i ha; exact ⟨fun _ => ha, fun _ => rfl⟩
/-- The sum of the degrees that are told. -/
def sumNear : List Int → Int
  | [] => 0
  | d :: l => (if d = Far then 0 else d) + sumNear l
theorem sumNear_append : ∀ (l r : List Int), sumNear (l ++ r) = sumNear l + sumNear r
  | [], r => by simp [sumNear]
  | x :: l, r => by simp only [List.cons_append, sumNear, sumNear_append l r]; omega
theorem sum_point {f g : Nat → Int} {j : Nat} (hf : ∀ k, ¬ k = j → f k = g k) (hj : sumNear [f j] = sumNear [g j] + 1) : ∀ n, j < n → sumNear ((List.range n).map f) = sumNear ((List.range n).map g) + 1 := by
  have hlow : ∀ n, n ≤ j → sumNear ((List.range n).map f) = sumNear ((List.range n).map g) := by
    intro n
    induction n with
    | zero => intro _; rfl
    | succ n ih =>
      intro h
      rw [List.range_succ, List.map_append, List.map_append, sumNear_append, sumNear_append, ih (by omega)]
      simp [hf n (by omega)]
  intro n
  induction n with
  | zero => intro h; omega
  | succ n ih =>
    intro h
    rw [List.range_succ, List.map_append, List.map_append, sumNear_append, sumNear_append]
    by_cases e : j = n
    · subst e
      rw [hlow j (Nat.le_refl _)]
      simp only [List.map_cons, List.map_nil]
      omega
    · rw [ih (by omega)]
      simp only [List.map_cons, List.map_nil, hf n (by omega)]
      omega
theorem sum_degrees (n : Nat) (al : List Bool) (hn : al.length = n) : ∀ (l : List ArcD), l.length ≤ 30 → (∀ a, a ∈ l → a.a.toNat < n ∧ al[a.a.toNat]? = some true) →
    sumNear ((List.range n).map fun k => if al[k]? = some true then outOf k l else Far) = l.length
  | [], _, _ => by
    have : ∀ m, sumNear ((List.range m).map fun k => if al[k]? = some true then outOf k [] else Far) = 0 := by
      intro m
      induction m with
      | zero => rfl
      | succ m ih =>
        rw [List.range_succ, List.map_append, sumNear_append, ih]
        simp only [List.map_cons, List.map_nil, sumNear, outOf]
        split <;> simp [Far]
    simpa using this n
  | a :: l, hl, ha => by
    obtain ⟨h1, h2⟩ := ha a (by simp)
    have ih := sum_degrees n al hn l (by simp at hl; omega) fun b hb => ha b (by simp [hb])
    have hb := outOf_bound a.a.toNat l
    have := sum_point (f := fun k => if al[k]? = some true then outOf k (a :: l) else Far) (g := fun k => if al[k]? = some true then outOf k l else Far) (j := a.a.toNat) (fun k hk => by
      simp only [outOf, if_neg (fun e : a.a.toNat = k => hk e.symm)]) (by
      simp only [sumNear, if_pos h2, outOf, if_true]
      have e1 : ¬ outOf a.a.toNat l + 1 = Far := by simp only [Far]; simp at hl; omega
      have e2 : ¬ outOf a.a.toNat l = Far := by simp only [Far]; simp at hl; omega
      rw [if_neg e1, if_neg e2]
      omega) n h1
    rw [this, ih]
    simp
theorem degrees_sum (hs : SnapOk s) : sumNear (degreesD s) = s.arcs.length :=
  sum_degrees s.alive.length s.alive rfl s.arcs hs.na fun a ha => ⟨(hs.arcs a ha).a1, (hs.arcs a ha).al⟩
end
/-- The row of three vertices. -/
def rowD : SnapD := ⟨[true, true, true], [⟨0, 1, 4⟩, ⟨1, 2, 5⟩]⟩
theorem row_ways {l : List Int} (h : WaysL rowD wCost 0 l) : l = [0, 4, 9] := by
  refine h.eq ⟨rfl, ⟨fun i => ?_, ?_⟩, fun e he i => ?_⟩
  · match i with
    | 0 => decide
    | 1 => decide
    | 2 => decide
    | n + 3 => rw [gi_far (by simp), gi_far (by simp [startD, rowD])]; exact Int.le_refl _
  · rintro x ⟨a, ha, rfl | ⟨hb, _⟩⟩
    · simp [rowD] at ha
      rcases ha with rfl | rfl <;> decide
    · simp at hb
  · have h0 := he.1 0
    have h1 := he.2 (arcF wCost ⟨0, 1, 4⟩) ⟨_, by simp [rowD], .inl rfl⟩
    have h2 := he.2 (arcF wCost ⟨1, 2, 5⟩) ⟨_, by simp [rowD], .inl rfl⟩
    have e0 : gi (startD rowD 0) 0 = 0 := by decide
    simp [arcF, wCost] at h1 h2
    match i with
    | 0 => show e 0 ≤ 0; omega
    | 1 => show e 1 ≤ 4; omega
    | 2 => show e 2 ≤ 9; omega
    | n + 3 =>
      have := he.1 (n + 3)
      rw [gi_far (by simp [startD, rowD])] at this
      rw [gi_far (by simp)]
      exact this
end Go.Proofs.YtdpibehpmghghaaGreat
/- FORD, BELLMAN, as plain Lean: what a round of a snapshot does to what is told; no program in sight. -/
namespace Go.Proofs.YtdpibehpmghghaaGreat

/-- In the midst of a round: T are the arcs that have been looked at. -/
structure RMid (A : Arc Nat → Prop) (init now d : Nat → Int) (T : Arc Nat → Prop) : Prop where
  le : ∀ i, d i ≤ now i
  above : Above A init d
  told : ∀ x, T x → d x.b ≤ x.f (now x.a)
theorem RMid.start {A : Arc Nat → Prop} {init now : Nat → Int} (h : Above A init now) : RMid A init now now (fun _ => False) := ⟨fun _ => Int.le_refl _, h, fun _ h => h.elim⟩
theorem RMid.step {A T : Arc Nat → Prop} {init now d : Nat → Int} (h : RMid A init now d T) (hn : Above A init now) {x : Arc Nat} (hx : A x) (hm : Mono x.f) : RMid A init now (upd d x.b (min (d x.b) (x.f (now x.a)))) (fun y => T y ∨ y = x) := by
  have hle : ∀ i, upd d x.b (min (d x.b) (x.f (now x.a))) i ≤ d i := fun i => by
    by_cases hi : i = x.b
    · subst hi; rw [upd_at]; omega
    · rw [upd_ne _ _ hi]; exact Int.le_refl _
  refine ⟨fun i => Int.le_trans (hle i) (h.le i), h.above.upd hn hx hm (Int.le_refl _), fun y hy => ?_⟩
  rcases hy with hy | rfl
  · exact Int.le_trans (hle _) (h.told y hy)
  · rw [upd_at]; omega
theorem RMid.mono {A T T' : Arc Nat → Prop} {init now d : Nat → Int} (h : RMid A init now d T) (ht : ∀ x, T' x → T x) : RMid A init now d T' := ⟨h.le, h.above, fun x hx => h.told x (ht x hx)⟩
/-- The arcs of the first j, perhaps either way round. -/
def ArcsT (s : SnapD) (wt : ArcD → Int) (back : Bool) (j : Nat) (x : Arc Nat) : Prop := ∃ a, a ∈ s.arcs.take j ∧ (x = arcF wt a ∨ back = true ∧ x = arcB wt a)
theorem arcsT_zero {s : SnapD} {wt : ArcD → Int} {back : Bool} (x : Arc Nat) (h : ArcsT s wt back 0 x) : False := by
  obtain ⟨a, ha, _⟩ := h
  simp at ha
theorem arcsT_succ {s : SnapD} {wt : ArcD → Int} {j : Nat} {y : ArcD} (hy : s.arcs[j]? = some y) (x : Arc Nat) (h : ArcsT s wt false (j + 1) x) : ArcsT s wt false j x ∨ x = arcF wt y := by
  obtain ⟨a, ha, he⟩ := h
  rw [List.take_add_one, hy] at ha
  rcases List.mem_append.1 ha with ha | ha
  · exact .inl ⟨a, ha, he⟩
  · obtain rfl : a = y := by simpa using ha
    rcases he with he | ⟨hf, _⟩
    · exact .inr he
    · simp at hf
theorem arcsT_back {s : SnapD} {wt : ArcD → Int} {j : Nat} {y : ArcD} (hy : s.arcs[j]? = some y) (x : Arc Nat) (h : ArcsT s wt true (j + 1) x) : (ArcsT s wt true j x ∨ x = arcF wt y) ∨ x = arcB wt y := by
  obtain ⟨a, ha, he⟩ := h
  rw [List.take_add_one, hy] at ha
  rcases List.mem_append.1 ha with ha | ha
  · exact .inl (.inl ⟨a, ha, he⟩)
  · obtain rfl : a = y := by simpa using ha
    rcases he with he | ⟨_, he⟩
    · exact .inl (.inr he)
    · exact .inr he
theorem arcsT_all {s : SnapD} {wt : ArcD → Int} {back : Bool} {j : Nat} (hj : s.arcs.length ≤ j) (x : Arc Nat) (h : ArcsP s wt back x) : ArcsT s wt back j x := by
  obtain ⟨a, ha, he⟩ := h
  exact ⟨a, by rw [List.take_of_length_le hj]; exact ha, he⟩
/-- The values of all of a program's rounds: not below nought, not above what was first. -/
theorem rounds_end {s : SnapD} {wt : ArcD → Int} {back : Bool} {init now d : Nat → Int} {j : Nat} (hle : ∀ i, now i ≤ init i) (hn : Above (ArcsP s wt back) init now) (h : RMid (ArcsP s wt back) init now d (ArcsT s wt back j)) (hj : s.arcs.length ≤ j) (he : d = now) : Best (ArcsP s wt back) init now :=
  ⟨⟨hle, fun x hx => by have := h.told x (arcsT_all hj x hx); rwa [he] at this⟩, hn⟩
def wtP (p : Int) (a : ArcD) : Int := if p = 1 then 1 else if p = 2 then a.cost else 0
theorem wtP_bound {s : SnapD} (hs : SnapOk s) (p : Int) : ∀ a, a ∈ s.arcs → 0 ≤ wtP p a ∧ wtP p a ≤ 1000 := fun a ha => by
  have := (hs.arcs a ha).c0
  have := (hs.arcs a ha).c1
  unfold wtP
  split
  · omega
  · split <;> omega
def begunD (s : SnapD) (p v : Int) : List Int := (List.range s.alive.length).map fun (k : Nat) => if s.alive[k]? = some true ∧ p = 3 then (k : Int) else if s.alive[k]? = some true ∧ (k : Int) = v then 0 else Far
theorem begun_label (s : SnapD) (v : Int) : begunD s 3 v = begunD s 3 0 := by
  unfold begunD
  refine List.map_congr_left fun k _ => ?_
  by_cases h : s.alive[k]? = some true <;> simp [h]
theorem begun_3 (s : SnapD) (v : Int) : begunD s 3 v = labelD s := by
  unfold begunD labelD
  refine List.map_congr_left fun k _ => ?_
  by_cases h : s.alive[k]? = some true <;> simp [h]
theorem begun_ways (s : SnapD) {p : Int} (hp : p ≠ 3) (v : Int) : begunD s p v = startD s v := by
  unfold begunD startD
  refine List.map_congr_left fun k _ => ?_
  rw [if_neg (fun h => hp h.2)]
theorem begun_big (s : SnapD) (hn : s.alive.length ≤ 12) (p v : Int) (i : Nat) : gi (begunD s p v) i ≤ Far := by
  by_cases hp : p = 3
  · rw [hp, begun_3]; exact label_big s hn i
  · rw [begun_ways s hp]; exact start_big s v i
theorem begun_pos (s : SnapD) (p v : Int) (i : Nat) : 0 ≤ gi (begunD s p v) i := by
  by_cases hp : p = 3
  · rw [hp, begun_3]; exact label_pos s i
  · rw [begun_ways s hp]; exact start_pos s v i
theorem begun_len (s : SnapD) (p v : Int) : (begunD s p v).length = s.alive.length := by simp [begunD]
theorem arcsP_up {s : SnapD} {wt : ArcD → Int} {back : Bool} (hwt : ∀ a, a ∈ s.arcs → 0 ≤ wt a) : ∀ x, ArcsP s wt back x → 0 ≤ x.f 0 := by
  rintro x ⟨a, ha, rfl | ⟨_, rfl⟩⟩ <;> (have := hwt a ha; simp only [arcF, arcB]; omega)
end Go.Proofs.YtdpibehpmghghaaGreat
