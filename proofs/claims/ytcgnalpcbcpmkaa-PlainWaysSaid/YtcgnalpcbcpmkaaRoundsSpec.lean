/- FORD, BELLMAN, as plain Lean: what a round of a snapshot does to what is told; no program in sight. -/
import Derived.Test.YtcgnalpcbcpmkaaPlainLaw
namespace Go.Proofs.Ytcgnalpcbcpmkaa

/-- In the midst of a round: T are the arcs that have been looked at. -/
structure RMid (A : Arc Nat → Prop) (init now d : Nat → Int) (T : Arc Nat → Prop) : Prop where
  le : ∀ i, d i ≤ now i
  above : Above A init d
  told : ∀ x, T x → d x.b ≤ x.f (now x.a)
theorem RMid.start {A : Arc Nat → Prop} {init now : Nat → Int} (h : Above A init now) : RMid A init now now (fun _ => False) := ⟨fun _ => Int.le_refl _, h, fun _ h => h.elim⟩
theorem RMid.step {A T : Arc Nat → Prop} {init now d : Nat → Int} (h : RMid A init now d T) (hn : Above A init now) {x : Arc Nat} (hx : A x) (hm : Mono x.f) : RMid A init now (upd d x.b (min (d x.b) (x.f (now x.a)))) (fun y => T y ∨ y = x) := by
  have hle : ∀ i, upd d x.b (min (d x.b) (x.f (now x.a))) i ≤ d i := fun i => by
    by_cases hi : i = x.b
    · subst hi; rw [upd_at]; omega
    · rw [upd_ne _ _ hi]; exact Int.le_refl _
  refine ⟨fun i => Int.le_trans (hle i) (h.le i), h.above.upd hn hx hm (Int.le_refl _), fun y hy => ?_⟩
  rcases hy with hy | rfl
  · exact Int.le_trans (hle _) (h.told y hy)
  · rw [upd_at]; omega
theorem RMid.mono {A T T' : Arc Nat → Prop} {init now d : Nat → Int} (h : RMid A init now d T) (ht : ∀ x, T' x → T x) : RMid A init now d T' := ⟨h.le, h.above, fun x hx => h.told x (ht x hx)⟩
/-- The arcs of the first j, perhaps either way round. -/
def ArcsT (s : SnapD) (wt : ArcD → Int) (back : Bool) (j : Nat) (x : Arc Nat) : Prop := ∃ a, a ∈ s.arcs.take j ∧ (x = arcF wt a ∨ back = true ∧ x = arcB wt a)
theorem arcsT_zero {s : SnapD} {wt : ArcD → Int} {back : Bool} (x : Arc Nat) (h : ArcsT s wt back 0 x) : False := by
  obtain ⟨a, ha, _⟩ := h
  simp at ha
theorem arcsT_succ {s : SnapD} {wt : ArcD → Int} {j : Nat} {y : ArcD} (hy : s.arcs[j]? = some y) (x : Arc Nat) (h : ArcsT s wt false (j + 1) x) : ArcsT s wt false j x ∨ x = arcF wt y := by
  obtain ⟨a, ha, he⟩ := h
  rw [List.take_add_one, hy] at ha
  rcases List.mem_append.1 ha with ha | ha
  · exact .inl ⟨a, ha, he⟩
  · obtain rfl : a = y := by simpa using ha
    rcases he with he | ⟨hf, _⟩
    · exact .inr he
    · simp at hf
theorem arcsT_back {s : SnapD} {wt : ArcD → Int} {j : Nat} {y : ArcD} (hy : s.arcs[j]? = some y) (x : Arc Nat) (h : ArcsT s wt true (j + 1) x) : (ArcsT s wt true j x ∨ x = arcF wt y) ∨ x = arcB wt y := by
  obtain ⟨a, ha, he⟩ := h
  rw [List.take_add_one, hy] at ha
  rcases List.mem_append.1 ha with ha | ha
  · exact .inl (.inl ⟨a, ha, he⟩)
  · obtain rfl : a = y := by simpa using ha
    rcases he with he | ⟨_, he⟩
    · exact .inl (.inr he)
    · exact .inr he
theorem arcsT_all {s : SnapD} {wt : ArcD → Int} {back : Bool} {j : Nat} (hj : s.arcs.length ≤ j) (x : Arc Nat) (h : ArcsP s wt back x) : ArcsT s wt back j x := by
  obtain ⟨a, ha, he⟩ := h
  exact ⟨a, by rw [List.take_of_length_le hj]; exact ha, he⟩
/-- The values of all of a program's rounds: not below nought, not above what was first. -/
theorem rounds_end {s : SnapD} {wt : ArcD → Int} {back : Bool} {init now d : Nat → Int} {j : Nat} (hle : ∀ i, now i ≤ init i) (hn : Above (ArcsP s wt back) init now) (h : RMid (ArcsP s wt back) init now d (ArcsT s wt back j)) (hj : s.arcs.length ≤ j) (he : d = now) : Best (ArcsP s wt back) init now :=
  ⟨⟨hle, fun x hx => by have := h.told x (arcsT_all hj x hx); rwa [he] at this⟩, hn⟩
def wtP (p : Int) (a : ArcD) : Int := if p = 1 then 1 else if p = 2 then a.cost else 0
theorem wtP_bound {s : SnapD} (hs : SnapOk s) (p : Int) : ∀ a, a ∈ s.arcs → 0 ≤ wtP p a ∧ wtP p a ≤ 1000 := fun a ha => by
  have := (hs.arcs a ha).c0
  have := (hs.arcs a ha).c1
  unfold wtP
  split
  · omega
  · split <;> omega
def begunD (s : SnapD) (p v : Int) : List Int := (List.range s.alive.length).map fun (k : Nat) => if s.alive[k]? = some true ∧ p = 3 then (k : Int) else if s.alive[k]? = some true ∧ (k : Int) = v then 0 else Far
theorem begun_label (s : SnapD) (v : Int) : begunD s 3 v = begunD s 3 0 := by
  unfold begunD
  refine List.map_congr_left fun k _ => ?_
  by_cases h : s.alive[k]? = some true <;> simp [h]
theorem begun_3 (s : SnapD) (v : Int) : begunD s 3 v = labelD s := by
  unfold begunD labelD
  refine List.map_congr_left fun k _ => ?_
  by_cases h : s.alive[k]? = some true <;> simp [h]
theorem begun_ways (s : SnapD) {p : Int} (hp : p ≠ 3) (v : Int) : begunD s p v = startD s v := by
  unfold begunD startD
  refine List.map_congr_left fun k _ => ?_
  rw [if_neg (fun h => hp h.2)]
theorem begun_big (s : SnapD) (hn : s.alive.length ≤ 12) (p v : Int) (i : Nat) : gi (begunD s p v) i ≤ Far := by
  by_cases hp : p = 3
  · rw [hp, begun_3]; exact label_big s hn i
  · rw [begun_ways s hp]; exact start_big s v i
theorem begun_pos (s : SnapD) (p v : Int) (i : Nat) : 0 ≤ gi (begunD s p v) i := by
  by_cases hp : p = 3
  · rw [hp, begun_3]; exact label_pos s i
  · rw [begun_ways s hp]; exact start_pos s v i
theorem begun_len (s : SnapD) (p v : Int) : (begunD s p v).length = s.alive.length := by simp [begunD]
theorem arcsP_up {s : SnapD} {wt : ArcD → Int} {back : Bool} (hwt : ∀ a, a ∈ s.arcs → 0 ≤ wt a) : ∀ x, ArcsP s wt back x → 0 ≤ x.f 0 := by
  rintro x ⟨a, ha, rfl | ⟨_, rfl⟩⟩ <;> (have := hwt a ha; simp only [arcF, arcB]; omega)
end Go.Proofs.Ytcgnalpcbcpmkaa
