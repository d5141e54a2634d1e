/- Several texts in one: PlainLaw, Tab. -/
import Derived.Maps.OwnSet
import Derived.DeepKeys4
import Derived.Test.YtdpibehpmghghaaDoorBde5358e7a60
import Derived.Test.YtdpibehpmghghaaDoorBdf0a653a3c9
/- The plain law of PlainWays: what greatest solutions, labels and degrees have in common; no program in sight. -/
namespace Go.Proofs.YtdpibehpmghghaaDoor

theorem count_more {p q : Nat → Bool} (h : ∀ u, p u = true → q u = true) : ∀ (l : List Nat), (∃ u, u ∈ l ∧ q u = true ∧ p u = false) → l.countP p + 1 ≤ l.countP q
  | [], ⟨u, hu, _⟩ => by simp at hu
  | x :: l, ⟨u, hu, h1, h2⟩ => by
    have hle : l.countP p ≤ l.countP q := List.countP_mono_left fun y _ hy => h y hy
    rcases List.mem_cons.1 hu with rfl | hu
    · simp [h1, h2]; omega
    · have ih := count_more h l ⟨u, hu, h1, h2⟩
      have hx := h x
      cases hp : p x <;> cases hq : q x <;> simp [hp, hq] <;> simp [hp, hq] at hx <;> omega

section
variable {s : SnapD} {v : Int} {c h lb : List Int}
theorem ways_big {wt : ArcD → Int} (hc : WaysL s wt v c) (i : Nat) : gi c i ≤ Far := Int.le_trans (hc.2.1.1 i) (start_big s v i)
theorem ways_pos {wt : ArcD → Int} (hw : ∀ a, a ∈ s.arcs → 0 ≤ wt a) (hc : WaysL s wt v c) (i : Nat) : 0 ≤ gi c i :=
  above_pos hc.2.2 (start_pos s v) (fun x hx => by
    obtain ⟨a, ha, rfl | ⟨hb, _⟩⟩ := hx
    · have := hw a ha; simp only [arcF]; omega
    · simp at hb) i
theorem start_val {i : Nat} (hi : i < s.alive.length) : gi (startD s v) i = if s.alive[i]? = some true ∧ (i : Int) = v then 0 else Far := by unfold startD; rw [gi_range hi]
theorem label_val {i : Nat} (hi : i < s.alive.length) : gi (labelD s) i = if s.alive[i]? = some true then (i : Int) else Far := by unfold labelD; rw [gi_range hi]
theorem ways_arc {wt : ArcD → Int} (hc : WaysL s wt v c) {a : ArcD} (ha : a ∈ s.arcs) : gi c a.b.toNat ≤ gi c a.a.toNat + wt a := hc.2.1.2 (arcF wt a) ⟨a, ha, .inl rfl⟩
theorem ways_tight {wt : ArcD → Int} (hc : WaysL s wt v c) {k : Nat} (hk : gi c k < gi (startD s v) k) : ∃ a, a ∈ s.arcs ∧ a.b.toNat = k ∧ gi c a.a.toNat + wt a = gi c k := by
  obtain ⟨x, ⟨a, ha, rfl | ⟨hb, _⟩⟩, h1, h2⟩ := hc.2.tight (fun x hx => by
    obtain ⟨a, ha, rfl | ⟨hb, _⟩⟩ := hx
    · exact mono_add _
    · simp at hb) hk
  · exact ⟨a, ha, h1, h2⟩
  · simp at hb
theorem start_low {k : Nat} {x : Int} (hk : k < s.alive.length) (h0 : 0 < x) (h1 : x < Far) (h2 : x ≤ gi (startD s v) k) : x < gi (startD s v) k := by
  rw [start_val hk] at h2 ⊢
  split at h2
  · omega
  · rename_i hn; rw [if_neg hn]; exact h1
theorem hops_down (hs : SnapOk s) (hh : WaysL s wOne v h) (m : Nat) : ∀ (k : Nat), k < s.alive.length → gi h k = m → (m : Int) < Far → ∀ j, j ≤ m → ∃ u, u < s.alive.length ∧ gi h u = (j : Int) := by
  induction m with
  | zero => exact fun k hk he _ j hj => ⟨k, hk, by rw [he]; omega⟩
  | succ m ih =>
    intro k hk he hm j hj
    by_cases e : j = m + 1
    · exact ⟨k, hk, by rw [he, e]⟩
    · obtain ⟨a, ha, h1, h2⟩ := ways_tight hh (start_low hk (by rw [he]; omega) (by rw [he]; exact hm) (hh.2.1.1 k))
      have hp : gi h a.a.toNat = (m : Int) := by simp only [wOne] at h2; rw [he] at h2; omega
      exact ih a.a.toNat (hs.arcs a ha).a1 hp (by omega) j (by omega)
theorem hops_few (hs : SnapOk s) (hh : WaysL s wOne v h) {k : Nat} (hk : k < s.alive.length) (hf : gi h k < Far) : gi h k < s.alive.length := by
  have h0 := ways_pos (fun _ _ => by simp [wOne]) hh k
  obtain ⟨m, hm⟩ : ∃ m : Nat, gi h k = m := ⟨(gi h k).toNat, by omega⟩
  have hc : ∀ j, j ≤ m → j + 1 ≤ (List.range s.alive.length).countP fun u => decide (gi h u ≤ j) := by
    intro j
    induction j with
    | zero =>
      intro _
      obtain ⟨u, hu, he⟩ := hops_down hs hh m k hk hm (by omega) 0 (by omega)
      have : 0 < (List.range s.alive.length).countP fun u => decide (gi h u ≤ (0 : Nat)) := List.countP_pos_iff.2 ⟨u, by simpa using hu, by simp [he]⟩
      omega
    | succ j ih =>
      intro hj
      obtain ⟨u, hu, he⟩ := hops_down hs hh m k hk hm (by omega) (j + 1) hj
      have := count_more (p := fun u => decide (gi h u ≤ (j : Int))) (q := fun u => decide (gi h u ≤ ((j + 1 : Nat) : Int))) (fun u hu => by simp at hu ⊢; omega) (List.range s.alive.length)
        ⟨u, by simpa using hu, by simp [he], by simp [he]; omega⟩
      have := ih (by omega)
      omega
  have h1 := hc m (Nat.le_refl _)
  have h2 : (List.range s.alive.length).countP (fun u => decide (gi h u ≤ (m : Int))) ≤ (List.range s.alive.length).length := List.countP_le_length
  simp only [List.length_range] at h2
  omega
theorem cost_of_hops (hs : SnapOk s) (hc : WaysL s wCost v c) (hh : WaysL s wOne v h) (m : Nat) : ∀ (k : Nat), k < s.alive.length → gi h k = m → (m : Int) < Far → gi c k ≤ 1000 * m := by
  induction m with
  | zero =>
    intro k hk he _
    have h1 := hh.2.1.1 k
    rw [he, start_val hk] at h1
    have h2 := hc.2.1.1 k
    rw [start_val hk] at h2
    by_cases hz : gi h k = gi (startD s v) k
    · rw [he, start_val hk] at hz
      split at hz
      · rename_i hp; rw [if_pos hp] at h2; omega
      · simp [Far] at hz
    · have hlt : gi h k < gi (startD s v) k := by have := hh.2.1.1 k; omega
      obtain ⟨a, ha, h3, h4⟩ := ways_tight hh hlt
      have := ways_pos (fun _ _ => by simp [wOne]) hh a.a.toNat
      simp only [wOne] at h4
      omega
  | succ m ih =>
    intro k hk he hm
    obtain ⟨a, ha, h1, h2⟩ := ways_tight hh (start_low hk (by rw [he]; omega) (by rw [he]; exact hm) (hh.2.1.1 k))
    have hp : gi h a.a.toNat = (m : Int) := by simp only [wOne] at h2; rw [he] at h2; omega
    have ih := ih a.a.toNat (hs.arcs a ha).a1 hp (by omega)
    have h3 := ways_arc hc ha
    have h4 := (hs.arcs a ha).c1
    rw [h1] at h3
    simp only [wCost] at h3
    omega
theorem ways_far_iff (hs : SnapOk s) (hc : WaysL s wCost v c) (hh : WaysL s wOne v h) {k : Nat} (hk : k < s.alive.length) : gi c k = Far ↔ gi h k = Far := by
  constructor
  · intro he
    have hb := ways_big hh k
    refine Classical.byContradiction fun hn => ?_
    have hlt : gi h k < Far := by omega
    have h1 := hops_few hs hh hk hlt
    have h0 := ways_pos (fun _ _ => by simp [wOne]) hh k
    have h2 := cost_of_hops hs hc hh (gi h k).toNat k hk (by omega) (by omega)
    have h3 := hs.nv
    rw [he] at h2
    simp only [Far] at h2
    omega
  · intro he
    refine hc.2.far (I := Far) (ways_big hc) ?_ ?_ (fun i => gi h i = Far) ?_ ?_ k he
    · rintro x ⟨a, ha, rfl | ⟨hb, _⟩⟩
      · exact mono_add _
      · simp at hb
    · rintro x ⟨a, ha, rfl | ⟨hb, _⟩⟩
      · have := (hs.arcs a ha).c0; simp only [arcF, wCost]; omega
      · simp at hb
    · rintro x ⟨a, ha, rfl | ⟨hb, _⟩⟩ hx
      · simp only [arcF] at hx ⊢
        have h1 := ways_arc hh ha
        have hb := ways_big hh a.a.toNat
        refine Classical.byContradiction fun hn => ?_
        have h2 := hops_few hs hh (hs.arcs a ha).a1 (by omega)
        have h3 := hs.nv
        rw [hx] at h1
        simp only [wOne, Far] at h1
        omega
      · simp at hb
    · intro i hi
      have := hh.2.1.1 i
      omega
theorem labels_arc (hl : LabelsL s lb) {a : ArcD} (ha : a ∈ s.arcs) : gi lb a.a.toNat = gi lb a.b.toNat := by
  have h1 := hl.2.1.2 (arcF wZero a) ⟨a, ha, .inl rfl⟩
  have h2 := hl.2.1.2 (arcB wZero a) ⟨a, ha, .inr ⟨rfl, rfl⟩⟩
  simp only [arcF, arcB, wZero] at h1 h2
  omega
theorem ways_label (hs : SnapOk s) (hc : WaysL s wCost v c) (hl : LabelsL s lb) {k : Nat} (hk : k < s.alive.length) (hf : gi c k < Far) : gi lb k = gi lb v.toNat := by
  refine Classical.byContradiction fun hn => ?_
  have := hc.2.far (I := Far) (ways_big hc) (by
      rintro x ⟨a, ha, rfl | ⟨hb, _⟩⟩
      · exact mono_add _
      · simp at hb) (by
      rintro x ⟨a, ha, rfl | ⟨hb, _⟩⟩
      · have := (hs.arcs a ha).c0; simp only [arcF, wCost]; omega
      · simp at hb) (fun i => i < s.alive.length ∧ ¬ gi lb i = gi lb v.toNat) (by
      rintro x ⟨a, ha, rfl | ⟨hb, _⟩⟩ hx
      · simp only [arcF] at hx ⊢
        exact ⟨(hs.arcs a ha).a1, by rw [labels_arc hl ha]; exact hx.2⟩
      · simp at hb) (by
      rintro i ⟨hi, hne⟩
      rw [start_val hi]
      split
      · rename_i hp
        exact absurd (by rw [show i = v.toNat by omega]) hne
      · exact Int.le_refl _) k ⟨hk, hn⟩
  omega
theorem ways_by (hs : SnapOk s) (hc : WaysL s wCost v c) {k : Nat} (hk : k < s.alive.length) (hf : gi c k < Far) (hv : ¬ (k : Int) = v) : ∃ a, a ∈ s.arcs ∧ a.b = k ∧ gi c a.a.toNat < Far ∧ gi c a.a.toNat + a.cost = gi c k := by
  obtain ⟨a, ha, h1, h2⟩ := ways_tight hc (k := k) (by rw [start_val hk, if_neg (fun h => hv h.2)]; exact hf)
  have ho := hs.arcs a ha
  have h3 := ho.b0; have h4 := ho.c0
  simp only [wCost] at h2
  exact ⟨a, ha, by omega, by omega, h2⟩
theorem labels_dead (hs : SnapOk s) (hl : LabelsL s lb) {k : Nat} (hk : k < s.alive.length) : (gi lb k = Far ↔ ¬ s.alive[k]? = some true) ∧ (¬ gi lb k = Far → gi lb k ≤ k) := by
  have h1 := hl.2.1.1 k
  rw [label_val hk] at h1
  have h2 := hs.nv
  by_cases ha : s.alive[k]? = some true
  · rw [if_pos ha] at h1
    exact ⟨⟨fun e => by rw [e] at h1; simp only [Far] at h1; omega, fun e => absurd ha e⟩, fun _ => h1⟩
  · have hd : gi lb k = Far := by
      refine hl.2.far (I := Far) (fun i => Int.le_trans (hl.2.1.1 i) (label_big s hs.nv i)) ?_ ?_ (fun i => i < s.alive.length ∧ ¬ s.alive[i]? = some true) ?_ ?_ k ⟨hk, ha⟩
      · rintro x ⟨a, _, rfl | ⟨_, rfl⟩⟩ <;> exact mono_add _
      · rintro x ⟨a, _, rfl | ⟨_, rfl⟩⟩ <;> simp [arcF, arcB, wZero]
      · rintro x ⟨a, hm, rfl | ⟨_, rfl⟩⟩ hx
        · exact absurd (hs.arcs a hm).bl hx.2
        · exact absurd (hs.arcs a hm).al hx.2
      · rintro i ⟨hi, hn⟩
        rw [label_val hi, if_neg hn]
        exact Int.le_refl _
    exact ⟨⟨fun _ => ha, fun _ => hd⟩, fun hn => absurd hd hn⟩
theorem outOf_bound (k : Nat) : ∀ l : List ArcD, 0 ≤ outOf k l ∧ outOf k l ≤ l.length
  | [] => by simp [outOf]
  | a :: l => by
    have := outOf_bound k l
    unfold outOf
    split <;> simp <;> omega
theorem degree_val {k : Nat} (hk : k < s.alive.length) : gi (degreesD s) k = if s.alive[k]? = some true then outOf k s.arcs else Far := by unfold degreesD; rw [gi_range hk]
theorem degree_far (hs : SnapOk s) {k : Nat} (hk : k < s.alive.length) : gi (degreesD s) k = Far ↔ ¬ s.alive[k]? = some true := by
  rw [degree_val hk]
  have h1 := outOf_bound k s.arcs
  have h2 := hs.na
  split
  · rename_i ha
    exact ⟨fun e => by simp only [Far] at e; omega, fun e => absurd ha e⟩
  · rename_i ha; exact ⟨fun _ => ha, fun _ => rfl⟩
/-- The sum of the degrees that are told. -/
def sumNear : List Int → Int
  | [] => 0
  | d :: l => (if d = Far then 0 else d) + sumNear l
theorem sumNear_append : ∀ (l r : List Int), sumNear (l ++ r) = sumNear l + sumNear r
  | [], r => by simp [sumNear]
  | x :: l, r => by simp only [List.cons_append, sumNear, sumNear_append l r]; omega
theorem sum_point {f g : Nat → Int} {j : Nat} (hf : ∀ k, ¬ k = j → f k = g k) (hj : sumNear [f j] = sumNear [g j] + 1) : ∀ n, j < n → sumNear ((List.range n).map f) = sumNear ((List.range n).map g) + 1 := by
  have hlow : ∀ n, n ≤ j → sumNear ((List.range n).map f) = sumNear ((List.range n).map g) := by
    intro n
    induction n with
    | zero => intro _; rfl
    | succ n ih =>
      intro h
      rw [List.range_succ, List.map_append, List.map_append, sumNear_append, sumNear_append, ih (by omega)]
      simp [hf n (by omega)]
  intro n
  induction n with
  | zero => intro h; omega
  | succ n ih =>
    intro h
    rw [List.range_succ, List.map_append, List.map_append, sumNear_append, sumNear_append]
    by_cases e : j = n
    · subst e
      rw [hlow j (Nat.le_refl _)]
      simp only [List.map_cons, List.map_nil]
      omega
    · rw [ih (by omega)]
      simp only [List.map_cons, List.map_nil, hf n (by omega)]
      omega
theorem sum_degrees (n : Nat) (al : List Bool) (hn : al.length = n) : ∀ (l : List ArcD), l.length ≤ 30 → (∀ a, a ∈ l → a.a.toNat < n ∧ al[a.a.toNat]? = some true) →
    sumNear ((List.range n).map fun k => if al[k]? = some true then outOf k l else Far) = l.length
  | [], _, _ => by
    have : ∀ m, sumNear ((List.range m).map fun k => if al[k]? = some true then outOf k [] else Far) = 0 := by
      intro m
      induction m with
      | zero => rfl
      | succ m ih =>
        rw [List.range_succ, List.map_append, sumNear_append, ih]
        simp only [List.map_cons, List.map_nil, sumNear, outOf]
        split <;> simp [Far]
    simpa using this n
  | a :: l, hl, ha => by
    obtain ⟨h1, h2⟩ := ha a (by simp)
    have ih := sum_degrees n al hn l (by simp at hl; omega) fun b hb => ha b (by simp [hb])
    have hb := outOf_bound a.a.toNat l
    have := sum_point (f := fun k => if al[k]? = some true then outOf k (a :: l) else Far) (g := fun k => if al[k]? = some true then outOf k l else Far) (j := a.a.toNat) (fun k hk => by
      simp only [outOf, if_neg (fun e : a.a.toNat = k => hk e.symm)]) (by
      simp only [sumNear, if_pos h2, outOf, if_true]
      have e1 : ¬ outOf a.a.toNat l + 1 = Far := by simp only [Far]; simp at hl; omega
      have e2 : ¬ outOf a.a.toNat l = Far := by simp only [Far]; simp at hl; omega
      rw [if_neg e1, if_neg e2]
      omega) n h1
    rw [this, ih]
    simp
theorem degrees_sum (hs : SnapOk s) : sumNear (degreesD s) = s.arcs.length :=
  sum_degrees s.alive.length s.alive rfl s.arcs hs.na fun a ha => ⟨(hs.arcs a ha).a1, (hs.arcs a ha).al⟩
end
/-- The row of three vertices. -/
def rowD : SnapD := ⟨[true, true, true], [⟨0, 1, 4⟩, ⟨1, 2, 5⟩]⟩
theorem row_ways {l : List Int} (h : WaysL rowD wCost 0 l) : l = [0, 4, 9] := by
  refine h.eq ⟨rfl, ⟨fun i => ?_, ?_⟩, fun e he i => ?_⟩
  · match i with
    | 0 => decide
    | 1 => decide
    | 2 => decide
    | n + 3 => rw [gi_far (by simp), gi_far (by simp [startD, rowD])]; exact Int.le_refl _
  · rintro x ⟨a, ha, rfl | ⟨hb, _⟩⟩
    · simp [rowD] at ha
      rcases ha with rfl | rfl <;> decide
    · simp at hb
  · have h0 := he.1 0
    have h1 := he.2 (arcF wCost ⟨0, 1, 4⟩) ⟨_, by simp [rowD], .inl rfl⟩
    have h2 := he.2 (arcF wCost ⟨1, 2, 5⟩) ⟨_, by simp [rowD], .inl rfl⟩
    have e0 : gi (startD rowD 0) 0 = 0 := by decide
    simp [arcF, wCost] at h1 h2
    match i with
    | 0 => show e 0 ≤ 0; omega
    | 1 => show e 1 ≤ 4; omega
    | 2 => show e 2 ≤ 9; omega
    | n + 3 =>
      have := he.1 (n + 3)
      rw [gi_far (by simp [startD, rowD])] at this
      rw [gi_far (by simp)]
      exact this
end Go.Proofs.YtdpibehpmghghaaDoor
/- A map keyed by a vertex and a time, as a plain function: what its look-ups tell and its stores leave. -/
namespace Go.Proofs.YtdpibehpmghghaaDoor
open Go.RowKit
open Go.Maps (Keyed has atKey_put_same atKey_put_other has_put_same has_put_other atKey_of_not_has)

theorem row_st : (177 : TypeId) < Tryd.prog.types.size := of_decide_eq_true (by kernel_rfl)
theorem keyT_st : Tryd.prog.keyTypeAt 2 177 = true := by kernel_rfl
set_option maxRecDepth 100000 in
theorem wide_st : (match Tryd.prog.underlying 177 with | some (.array _ _) | some (.struct _) => true | _ => false) = true := by rw [Tryd.underlying177]
set_option maxRecDepth 100000 in
theorem law_st : Keyed Tryd.prog 177 := Keyed.of_law (deep_law_laid Tryd.laidOut (m := 2) (by omega) row_st keyT_st wide_st)
def klS (p : Nat × Nat) : Lit := .string (keyBytes [.int .i64 (p.1 : Int), .int .i64 (p.2 : Int)])
def stV (p : Nat × Nat) : Value := .agg #[.int .i64 (p.1 : Int), .int .i64 (p.2 : Int)]
def Sml (p : Nat × Nat) : Prop := p.1 ≤ 1000 ∧ p.2 ≤ 1000
theorem keyType_st : Tryd.prog.keyType 177 = true := by kernel_rfl
theorem formed_st (a b : Int) : (Value.agg #[.int .i64 a, .int .i64 b]).formed Tryd.prog 177 = true := by
  simp [Value.formed, Tryd.underlying177, show Tryd.prog.cellsOf 177 = 2 by kernel_rfl]
theorem lits_st (a b : Int) (ha : (Lit.int .i64 a).wf = true) (hb : (Lit.int .i64 b).wf = true) : Tryd.prog.keyLits (Tryd.prog.types.size + 1) 177 [.int .i64 a, .int .i64 b] = some [.int .i64 a, .int .i64 b] := by
  obtain ⟨k, hk⟩ : ∃ k, Tryd.prog.types.size = k + 1 := Nat.exists_eq_add_one.2 (Nat.lt_of_le_of_lt (Nat.zero_le _) row_st)
  rw [hk]
  simp [Program.keyLits, Tryd.underlying177, Tryd.underlying3, show Tryd.prog.cellsOf 177 = 2 by kernel_rfl, show Tryd.prog.cellsOf 3 = 1 by kernel_rfl, ha, hb]
theorem wf_small {n : Nat} (h : n ≤ 1000) : (Lit.int .i64 (n : Int)).wf = true := WalkArith.wf_i64 (by omega)
theorem key_st {p : Nat × Nat} (h : Sml p) : keyOf Tryd.prog 177 (stV p) = some (klS p) := by
  unfold keyOf
  rw [Tryd.underlying177]
  simp only [stV, keyType_st, formed_st, Bool.and_self, if_true]
  show (Tryd.prog.keyLits (Tryd.prog.types.size + 1) 177 [.int .i64 (p.1 : Int), .int .i64 (p.2 : Int)]).map _ = _
  rw [lits_st _ _ (wf_small h.1) (wf_small h.2)]
  rfl
theorem kl_inj {p q : Nat × Nat} (hp : Sml p) (hq : Sml q) (h : klS p = klS q) : p = q := by
  have h1 := key_st hp
  rw [h] at h1
  have := law_st.inj h1 (key_st hq)
  simp only [stV, Value.agg.injEq, Array.mk.injEq, List.cons.injEq, Value.int.injEq, true_and, and_true] at this
  exact Prod.ext (by omega) (by omega)
theorem kl_key {p : Nat × Nat} (h : Sml p) : WideAt.IsKeyLit (klS p) := law_st.key (key_st h)

def rV (v : Value) : Option (DataW Value × List MemPlace) := some (.held v, [])
section
variable {α : Type}
/-- Block b is a map of at most n entries that tells what the function tells. -/
def TabAt (enc : α → Value) (w : World) (b n : Nat) (F : Tab α) : Prop := ∃ D : DataW Value, w.ownsMap Tryd.prog 177 rV b n D ∧ ∀ p, Sml p → match F p with
  | some a => has D (klS p) = true ∧ ∀ z, D.atKey (klS p) z = .held (enc a)
  | none => has D (klS p) = false
variable {enc : α → Value} {w : World} {b n : Nat} {F : Tab α}
theorem TabAt.made (enc : α → Value) (w : World) : TabAt enc (w.alloc (.map #[] 0)) w.heap.size 0 (fun _ => none) := ⟨_, World.ownsMap_made _ _ _ _, fun _ _ => rfl⟩
theorem TabAt.mono (h : TabAt enc w b n F) {m : Nat} (hn : n ≤ m) : TabAt enc w b m F := by
  obtain ⟨D, h1, h2⟩ := h
  exact ⟨D, h1.mono hn, h2⟩
theorem TabAt.lt (h : TabAt enc w b n F) : b < w.heap.size := by
  obtain ⟨D, h1, _⟩ := h
  exact h1.lt
theorem TabAt.grown (h : TabAt enc w b n F) {w' : World} {row : Option Nat} (hg : w.grownBy w' row) (hne : some b ≠ row) : TabAt enc w' b n F := by
  obtain ⟨D, h1, h2⟩ := h
  exact ⟨D, h1.kept hg hne, h2⟩
theorem TabAt.alloc (h : TabAt enc w b n F) (o : Obj) : TabAt enc (w.alloc o) b n F := by
  obtain ⟨D, h1, h2⟩ := h
  exact ⟨D, h1.alloc o, h2⟩
theorem TabAt.drew (h : TabAt enc w b n F) : TabAt enc w.drew b n F := h
theorem TabAt.far (h : TabAt enc w b n F) {a : Addr} (ha : b ≠ a.block) (u : Value) : TabAt enc (w.setCell a u) b n F := by
  obtain ⟨D, h1, h2⟩ := h
  exact ⟨D, h1.setCell ha u, h2⟩
theorem TabAt.noBlk (h : TabAt enc w b n F) {g : Nat} {t : TypeId} {cs : Array Value} (hB : Blk w g t cs) : g ≠ b := by
  obtain ⟨D, ⟨es, clock, h1, _⟩, _⟩ := h
  rintro rfl
  unfold Blk at hB
  rw [h1] at hB
  simp at hB
/-- 'v, ok := m[k]' -/
theorem TabAt.look (h : TabAt enc w b n F) {t e : TypeId} (ht : Tryd.prog.underlying t = some (.map 177 e)) {z : Value} (hz : (zeroValue e).run Tryd.prog w = .ok z w) {p : Nat × Nat} (hp : Sml p) :
    (Instr.lookup t (.map (some b)) (.agg #[.int .i64 (p.1 : Int), .int .i64 (p.2 : Int)]) true).run Tryd.prog w = .ok (.tuple #[((F p).map enc).getD z, .bool (F p).isSome]) w := by
  obtain ⟨D, h1, h2⟩ := h
  obtain ⟨v, ps, hrun, hv⟩ := h1.look_ok law_st ht hz (zd := .held z) (zp := []) rfl (key_st hp)
  have h3 := h2 p hp
  simp only [rV, Option.some.injEq, Prod.mk.injEq] at hv
  rw [show (Value.agg #[.int .i64 (p.1 : Int), .int .i64 (p.2 : Int)]) = stV p from rfl, hrun]
  cases hF : F p with
  | none =>
    rw [hF] at h3
    rw [h3]
    have := hv.1
    rw [atKey_of_not_has h3] at this
    simp only [DataW.held.injEq] at this
    rw [this]; rfl
  | some a =>
    rw [hF] at h3
    rw [h3.1]
    have := hv.1
    rw [h3.2] at this
    simp only [DataW.held.injEq] at this
    rw [this]; rfl
theorem TabAt.store (h : TabAt enc w b n F) {t e : TypeId} (ht : Tryd.prog.underlying t = some (.map 177 e)) (hn : n < maxLen) {p : Nat × Nat} (hp : Sml p) (a : α) :
    ∃ w', (Instr.mapUpdate t (.map (some b)) (.agg #[.int .i64 (p.1 : Int), .int .i64 (p.2 : Int)]) (enc a)).run Tryd.prog w = .ok () w' ∧ TabAt enc w' b (n + 1) (setF F p a) ∧ w.mapTurned w' b := by
  obtain ⟨D, h1, h2⟩ := h
  obtain ⟨w', hrun, h3, h4⟩ := h1.store law_st ht hn (key_st hp) (val := enc a) (d := .held (enc a)) (ps := []) rfl
  refine ⟨w', hrun, ⟨_, h3, fun q hq => ?_⟩, h4⟩
  by_cases e : q = p
  · subst e
    rw [setF_at]
    exact ⟨has_put_same h1.isMap (kl_key hp) _, fun z => atKey_put_same h1.isMap (kl_key hp) _ z⟩
  · have hne : klS q ≠ klS p := fun h => e (kl_inj hq hp h)
    rw [setF_ne _ _ e]
    have := h2 q hq
    cases hF : F q with
    | none =>
      rw [hF] at this
      simp only
      rw [has_put_other hne]; exact this
    | some a' =>
      rw [hF] at this
      simp only
      rw [has_put_other hne]
      exact ⟨this.1, fun z => by rw [atKey_put_other hne]; exact this.2 z⟩
theorem Blk.turned {w w' : World} {b g : Nat} {t : TypeId} {cs : Array Value} (h : Blk w g t cs) (hT : w.mapTurned w' b) (hne : g ≠ b) : Blk w' g t cs := by
  have := hT.grown.block g h.lt (by simpa using hne)
  exact this.trans h
theorem below_turned {k : Nat} {w0 w w' : World} {b : Nat} (h : Below k w0 w) (hT : w.mapTurned w' b) (hk : k ≤ w.heap.size) (hb : k ≤ b) : Below k w0 w' := h.grown hT.grown hk (fun j hj => by cases hj; exact hb)
variable {P : Program} {ops : Array Oper} {rest : List Oper} {o : Oper} {a : Act} {Q : Exit → Act → World → Prop}
theorem wpList_store_tab (hg : o.guard = none) (m x v : Operand) (t : TypeId) (hop : o.op = Op.mapUpdate t m x v) (e : TypeId) (ht : Tryd.prog.underlying t = some (.map 177 e)) (enc : α → Value) (b n : Nat) (F : Tab α)
    (hm : a.eval m = .map (some b)) (hown : TabAt enc w b n F) (hn : n < maxLen) (p : Nat × Nat) (hp : Sml p) (y : α) (hx : a.eval x = .agg #[.int .i64 (p.1 : Int), .int .i64 (p.2 : Int)]) (hv : a.eval v = enc y)
    (hK : ∀ w', TabAt enc w' b (n + 1) (setF F p y) → w.mapTurned w' b → wpList Tryd.prog ops Q rest (a.put o.dst undef) w') : wpList Tryd.prog ops Q (o :: rest) a w := by
  refine wpList_plain hg fun K' hK' => ?_
  obtain ⟨w', hrun, r1, r2⟩ := hown.store ht hn hp y
  unfold Oper.wp
  simp [execOp, hop, hm, hx, hv, hrun, Result.andThen]
  exact hK' _ _ (hK w' r1 r2)
end
end Go.Proofs.YtdpibehpmghghaaDoor
