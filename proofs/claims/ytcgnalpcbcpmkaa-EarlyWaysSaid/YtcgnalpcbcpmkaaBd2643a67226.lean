/- Several texts in one: PlainLaw, Head, RevSpec. -/
import Derived.OrdersHeld
import Derived.StillTail
import Derived.Deep.RegionHeld3
import Derived.Test.YtcgnalpcbcpmkaaBdcd12e11b70
import Derived.Test.YtcgnalpcbcpmkaaBdac12786b2a
import Derived.Test.YtcgnalpcbcpmkaaBd62db7b8b90
/- The plain law of PlainWays: what greatest solutions, labels and degrees have in common; no program in sight. -/
namespace Go.Proofs.Ytcgnalpcbcpmkaa

theorem count_more {p q : Nat → Bool} (h : ∀ u, p u = true → q u = true) : ∀ (l : List Nat), (∃ u, u ∈ l ∧ q u = true ∧ p u = false) → l.countP p + 1 ≤ l.countP q
  | [], ⟨u, hu, _⟩ => by simp at hu
  | x :: l, ⟨u, hu, h1, h2⟩ => by
    have hle : l.countP p ≤ l.countP q := List.countP_mono_left fun y _ hy => h y hy
    rcases List.mem_cons.1 hu with rfl | hu
    · simp [h1, h2]; omega
    · have ih := count_more h l ⟨u, hu, h1, h2⟩
      have hx := h x
      cases hp : p x <;> cases hq : q x <;> simp [hp, hq] <;> simp [hp, hq] at hx <;> omega

section
variable {s : SnapD} {v : Int} {c h lb : List Int}
theorem ways_big {wt : ArcD → Int} (hc : WaysL s wt v c) (i : Nat) : gi c i ≤ Far := Int.le_trans (hc.2.1.1 i) (start_big s v i)
theorem ways_pos {wt : ArcD → Int} (hw : ∀ a, a ∈ s.arcs → 0 ≤ wt a) (hc : WaysL s wt v c) (i : Nat) : 0 ≤ gi c i :=
  above_pos hc.2.2 (start_pos s v) (fun x hx => by
    obtain ⟨a, ha, rfl | ⟨hb, _⟩⟩ := hx
    · have := hw a ha; simp only [arcF]; omega
    · simp at hb) i
theorem start_val {i : Nat} (hi : i < s.alive.length) : gi (startD s v) i = if s.alive[i]? = some true ∧ (i : Int) = v then 0 else Far := by unfold startD; rw [gi_range hi]
theorem label_val {i : Nat} (hi : i < s.alive.length) : gi (labelD s) i = if s.alive[i]? = some true then (i : Int) else Far := by unfold labelD; rw [gi_range hi]
theorem ways_arc {wt : ArcD → Int} (hc : WaysL s wt v c) {a : ArcD} (ha : a ∈ s.arcs) : gi c a.b.toNat ≤ gi c a.a.toNat + wt a := hc.2.1.2 (arcF wt a) ⟨a, ha, .inl rfl⟩
theorem ways_tight {wt : ArcD → Int} (hc : WaysL s wt v c) {k : Nat} (hk : gi c k < gi (startD s v) k) : ∃ a, a ∈ s.arcs ∧ a.b.toNat = k ∧ gi c a.a.toNat + wt a = gi c k := by
  obtain ⟨x, ⟨a, ha, rfl | ⟨hb, _⟩⟩, h1, h2⟩ := hc.2.tight (fun x hx => by
    obtain ⟨a, ha, rfl | ⟨hb, _⟩⟩ := hx
    · exact mono_add _
    · simp at hb) hk
  · exact ⟨a, ha, h1, h2⟩
  · simp at hb
theorem start_low {k : Nat} {x : Int} (hk : k < s.alive.length) (h0 : 0 < x) (h1 : x < Far) (h2 : x ≤ gi (startD s v) k) : x < gi (startD s v) k := by
  rw [start_val hk] at h2 ⊢
  split at h2
  · omega
  · rename_i hn; rw [if_neg hn]; exact h1
theorem hops_down (hs : SnapOk s) (hh : WaysL s wOne v h) (m : Nat) : ∀ (k : Nat), k < s.alive.length → gi h k = m → (m : Int) < Far → ∀ j, j ≤ m → ∃ u, u < s.alive.length ∧ gi h u = (j : Int) := by
  induction m with
  | zero => exact fun k hk he _ j hj => ⟨k, hk, by rw [he]; omega⟩
  | succ m ih =>
    intro k hk he hm j hj
    by_cases e : j = m + 1
    · exact ⟨k, hk, by rw [he, e]⟩
    · obtain ⟨a, ha, h1, h2⟩ := ways_tight hh (start_low hk (by rw [he]; omega) (by rw [he]; exact hm) (hh.2.1.1 k))
      have hp : gi h a.a.toNat = (m : Int) := by simp only [wOne] at h2; rw [he] at h2; omega
      exact ih a.a.toNat (hs.arcs a ha).a1 hp (by omega) j (by omega)
theorem hops_few (hs : SnapOk s) (hh : WaysL s wOne v h) {k : Nat} (hk : k < s.alive.length) (hf : gi h k < Far) : gi h k < s.alive.length := by
  have h0 := ways_pos (fun _ _ => by simp [wOne]) hh k
  obtain ⟨m, hm⟩ : ∃ m : Nat, gi h k = m := ⟨(gi h k).toNat, by omega⟩
  have hc : ∀ j, j ≤ m → j + 1 ≤ (List.range s.alive.length).countP fun u => decide (gi h u ≤ j) := by
    intro j
    induction j with
    | zero =>
      intro _
      obtain ⟨u, hu, he⟩ := hops_down hs hh m k hk hm (by omega) 0 (by omega)
      have : 0 < (List.range s.alive.length).countP fun u => decide (gi h u ≤ (0 : Nat)) := List.countP_pos_iff.2 ⟨u, by simpa using hu, by simp [he]⟩
      omega
    | succ j ih =>
      intro hj
      obtain ⟨u, hu, he⟩ := hops_down hs hh m k hk hm (by omega) (j + 1) hj
      have := count_more (p := fun u => decide (gi h u ≤ (j : Int))) (q := fun u => decide (gi h u ≤ ((j + 1 : Nat) : Int))) (fun u hu => by simp at hu ⊢; omega) (List.range s.alive.length)
        ⟨u, by simpa using hu, by simp [he], by simp [he]; omega⟩
      have := ih (by omega)
      omega
  have h1 := hc m (Nat.le_refl _)
  have h2 : (List.range s.alive.length).countP (fun u => decide (gi h u ≤ (m : Int))) ≤ (List.range s.alive.length).length := List.countP_le_length
  simp only [List.length_range] at h2
  omega
theorem cost_of_hops (hs : SnapOk s) (hc : WaysL s wCost v c) (hh : WaysL s wOne v h) (m : Nat) : ∀ (k : Nat), k < s.alive.length → gi h k = m → (m : Int) < Far → gi c k ≤ 1000 * m := by
  induction m with
  | zero =>
    intro k hk he _
    have h1 := hh.2.1.1 k
    rw [he, start_val hk] at h1
    have h2 := hc.2.1.1 k
    rw [start_val hk] at h2
    by_cases hz : gi h k = gi (startD s v) k
    · rw [he, start_val hk] at hz
      split at hz
      · rename_i hp; rw [if_pos hp] at h2; omega
      · simp [Far] at hz
    · have hlt : gi h k < gi (startD s v) k := by have := hh.2.1.1 k; omega
      obtain ⟨a, ha, h3, h4⟩ := ways_tight hh hlt
      have := ways_pos (fun _ _ => by simp [wOne]) hh a.a.toNat
      simp only [wOne] at h4
      omega
  | succ m ih =>
    intro k hk he hm
    obtain ⟨a, ha, h1, h2⟩ := ways_tight hh (start_low hk (by rw [he]; omega) (by rw [he]; exact hm) (hh.2.1.1 k))
    have hp : gi h a.a.toNat = (m : Int) := by simp only [wOne] at h2; rw [he] at h2; omega
    have ih := ih a.a.toNat (hs.arcs a ha).a1 hp (by omega)
    have h3 := ways_arc hc ha
    have h4 := (hs.arcs a ha).c1
    rw [h1] at h3
    simp only [wCost] at h3
    omega
theorem ways_far_iff (hs : SnapOk s) (hc : WaysL s wCost v c) (hh : WaysL s wOne v h) {k : Nat} (hk : k < s.alive.length) : gi c k = Far ↔ gi h k = Far := by
  constructor
  · intro he
    have hb := ways_big hh k
    refine Classical.byContradiction fun hn => ?_
    have hlt : gi h k < Far := by omega
    have h1 := hops_few hs hh hk hlt
    have h0 := ways_pos (fun _ _ => by simp [wOne]) hh k
    have h2 := cost_of_hops hs hc hh (gi h k).toNat k hk (by omega) (by omega)
    have h3 := hs.nv
    rw [he] at h2
    simp only [Far] at h2
    omega
  · intro he
    refine hc.2.far (I := Far) (ways_big hc) ?_ ?_ (fun i => gi h i = Far) ?_ ?_ k he
    · rintro x ⟨a, ha, rfl | ⟨hb, _⟩⟩
      · exact mono_add _
      · simp at hb
    · rintro x ⟨a, ha, rfl | ⟨hb, _⟩⟩
      · have := (hs.arcs a ha).c0; simp only [arcF, wCost]; omega
      · simp at hb
    · rintro x ⟨a, ha, rfl | ⟨hb, _⟩⟩ hx
      · simp only [arcF] at hx ⊢
        have h1 := ways_arc hh ha
        have hb := ways_big hh a.a.toNat
        refine Classical.byContradiction fun hn => ?_
        have h2 := hops_few hs hh (hs.arcs a ha).a1 (by omega)
        have h3 := hs.nv
        rw [hx] at h1
        simp only [wOne, Far] at h1
        omega
      · simp at hb
    · intro i hi
      have := hh.2.1.1 i
      omega
theorem labels_arc (hl : LabelsL s lb) {a : ArcD} (ha : a ∈ s.arcs) : gi lb a.a.toNat = gi lb a.b.toNat := by
  have h1 := hl.2.1.2 (arcF wZero a) ⟨a, ha, .inl rfl⟩
  have h2 := hl.2.1.2 (arcB wZero a) ⟨a, ha, .inr ⟨rfl, rfl⟩⟩
  simp only [arcF, arcB, wZero] at h1 h2
  omega
theorem ways_label (hs : SnapOk s) (hc : WaysL s wCost v c) (hl : LabelsL s lb) {k : Nat} (hk : k < s.alive.length) (hf : gi c k < Far) : gi lb k = gi lb v.toNat := by
  refine Classical.byContradiction fun hn => ?_
  have := hc.2.far (I := Far) (ways_big hc) (by
      rintro x ⟨a, ha, rfl | ⟨hb, _⟩⟩
      · exact mono_add _
      · simp at hb) (by
      rintro x ⟨a, ha, rfl | ⟨hb, _⟩⟩
      · have := (hs.arcs a ha).c0; simp only [arcF, wCost]; omega
      · simp at hb) (fun i => i < s.alive.length ∧ ¬ gi lb i = gi lb v.toNat) (by
      rintro x ⟨a, ha, rfl | ⟨hb, _⟩⟩ hx
      · simp only [arcF] at hx ⊢
        exact ⟨(hs.arcs a ha).a1, by rw [labels_arc hl ha]; exact hx.2⟩
      · simp at hb) (by
      rintro i ⟨hi, hne⟩
      rw [start_val hi]
      split
      · rename_i hp
        exact absurd (by rw [show i = v.toNat by omega]) hne
      · exact Int.le_refl _) k ⟨hk, hn⟩
  omega
theorem ways_by (hs : SnapOk s) (hc : WaysL s wCost v c) {k : Nat} (hk : k < s.alive.length) (hf : gi c k < Far) (hv : ¬ (k : Int) = v) : ∃ a, a ∈ s.arcs ∧ a.b = k ∧ gi c a.a.toNat < Far ∧ gi c a.a.toNat + a.cost = gi c k := by
  obtain ⟨a, ha, h1, h2⟩ := ways_tight hc (k := k) (by rw [start_val hk, if_neg (fun h => hv h.2)]; exact hf)
  have ho := hs.arcs a ha
  have h3 := ho.b0; have h4 := ho.c0
  simp only [wCost] at h2
  exact ⟨a, ha, by omega, by omega, h2⟩
theorem labels_dead (hs : SnapOk s) (hl : LabelsL s lb) {k : Nat} (hk : k < s.alive.length) : (gi lb k = Far ↔ ¬ s.alive[k]? = some true) ∧ (¬ gi lb k = Far → gi lb k ≤ k) := by
  have h1 := hl.2.1.1 k
  rw [label_val hk] at h1
  have h2 := hs.nv
  by_cases ha : s.alive[k]? = some true
  · rw [if_pos ha] at h1
    exact ⟨⟨fun e => by rw [e] at h1; simp only [Far] at h1; omega, fun e => absurd ha e⟩, fun _ => h1⟩
  · have hd : gi lb k = Far := by
      refine hl.2.far (I := Far) (fun i => Int.le_trans (hl.2.1.1 i) (label_big s hs.nv i)) ?_ ?_ (fun i => i < s.alive.length ∧ ¬ s.alive[i]? = some true) ?_ ?_ k ⟨hk, ha⟩
      · rintro x ⟨a, _, rfl | ⟨_, rfl⟩⟩ <;> exact mono_add _
      · rintro x ⟨a, _, rfl | ⟨_, rfl⟩⟩ <;> simp [arcF, arcB, wZero]
      · rintro x ⟨a, hm, rfl | ⟨_, rfl⟩⟩ hx
        · exact absurd (hs.arcs a hm).bl hx.2
        · exact absurd (hs.arcs a hm).al hx.2
      · rintro i ⟨hi, hn⟩
        rw [label_val hi, if_neg hn]
        exact Int.le_refl _
    exact ⟨⟨fun _ => ha, fun _ => hd⟩, fun hn => absurd hd hn⟩
theorem outOf_bound (k : Nat) : ∀ l : List ArcD, 0 ≤ outOf k l ∧ outOf k l ≤ l.length
  | [] => by simp [outOf]
  | a :: l => by
    have := outOf_bound k l
    unfold outOf
    split <;> simp <;> omega
theorem degree_val {k : Nat} (hk : k < s.alive.length) : gi (degreesD s) k = if s.alive[k]? = some true then outOf k s.arcs else Far := by unfold degreesD; rw [gi_range hk]
theorem degree_far (hs : SnapOk s) {k : Nat} (hk : k < s.alive.length) : gi (degreesD s) k = Far ↔ ¬ s.alive[k]? = some true := by
  rw [degree_val hk]
  have h1 := outOf_bound k s.arcs
  have h2 := hs.na
  split
  · rename_i ha
    exact ⟨fun e => by simp only [Far] at e; omega, fun e => absurd ha e⟩
  · rename_i ha; exact ⟨fun _ => ha, fun _ => rfl⟩
/-- The sum of the degrees that are told. -/
def sumNear : List Int → Int
  | [] => 0
  | d :: l => (if d = Far then 0 else d) + sumNear l
theorem sumNear_append : ∀ (l r : List Int), sumNear (l ++ r) = sumNear l + sumNear r
  | [], r => by simp [sumNear]
  | x :: l, r => by simp only [List.cons_append, sumNear, sumNear_append l r]; omega
theorem sum_point {f g : Nat → Int} {j : Nat} (hf : ∀ k, ¬ k = j → f k = g k) (hj : sumNear [f j] = sumNear [g j] + 1) : ∀ n, j < n → sumNear ((List.range n).map f) = sumNear ((List.range n).map g) + 1 := by
  have hlow : ∀ n, n ≤ j → sumNear ((List.range n).map f) = sumNear ((List.range n).map g) := by
    intro n
    induction n with
    | zero => intro _; rfl
    | succ n ih =>
      intro h
      rw [List.range_succ, List.map_append, List.map_append, sumNear_append, sumNear_append, ih (by omega)]
      simp [hf n (by omega)]
  intro n
  induction n with
  | zero => intro h; omega
  | succ n ih =>
    intro h
    rw [List.range_succ, List.map_append, List.map_append, sumNear_append, sumNear_append]
    by_cases e : j = n
    · subst e
      rw [hlow j (Nat.le_refl _)]
      simp only [List.map_cons, List.map_nil]
      omega
    · rw [ih (by omega)]
      simp only [List.map_cons, List.map_nil, hf n (by omega)]
      omega
theorem sum_degrees (n : Nat) (al : List Bool) (hn : al.length = n) : ∀ (l : List ArcD), l.length ≤ 30 → (∀ a, a ∈ l → a.a.toNat < n ∧ al[a.a.toNat]? = some true) →
    sumNear ((List.range n).map fun k => if al[k]? = some true then outOf k l else Far) = l.length
  | [], _, _ => by
    have : ∀ m, sumNear ((List.range m).map fun k => if al[k]? = some true then outOf k [] else Far) = 0 := by
      intro m
      induction m with
      | zero => rfl
      | succ m ih =>
        rw [List.range_succ, List.map_append, sumNear_append, ih]
        simp only [List.map_cons, List.map_nil, sumNear, outOf]
        split <;> simp [Far]
    simpa using this n
  | a :: l, hl, ha => by
    obtain ⟨h1, h2⟩ := ha a (by simp)
    have ih := sum_degrees n al hn l (by simp at hl; omega) fun b hb => ha b (by simp [hb])
    have hb := outOf_bound a.a.toNat l
    have := sum_point (f := fun k => if al[k]? = some true then outOf k (a :: l) else Far) (g := fun k => if al[k]? = some true then outOf k l else Far) (j := a.a.toNat) (fun k hk => by
      simp only [outOf, if_neg (fun e : a.a.toNat = k => hk e.symm)]) (by
      simp only [sumNear, if_pos h2, outOf, if_true]
      have e1 : ¬ outOf a.a.toNat l + 1 = Far := by simp only [Far]; simp at hl; omega
      have e2 : ¬ outOf a.a.toNat l = Far := by simp only [Far]; simp at hl; omega
      rw [if_neg e1, if_neg e2]
      omega) n h1
    rw [this, ih]
    simp
theorem degrees_sum (hs : SnapOk s) : sumNear (degreesD s) = s.arcs.length :=
  sum_degrees s.alive.length s.alive rfl s.arcs hs.na fun a ha => ⟨(hs.arcs a ha).a1, (hs.arcs a ha).al⟩
end
/-- The row of three vertices. -/
def rowD : SnapD := ⟨[true, true, true], [⟨0, 1, 4⟩, ⟨1, 2, 5⟩]⟩
theorem row_ways {l : List Int} (h : WaysL rowD wCost 0 l) : l = [0, 4, 9] := by
  refine h.eq ⟨rfl, ⟨fun i => ?_, ?_⟩, fun e he i => ?_⟩
  · match i with
    | 0 => decide
    | 1 => decide
    | 2 => decide
    | n + 3 => rw [gi_far (by simp), gi_far (by simp [startD, rowD])]; exact Int.le_refl _
  · rintro x ⟨a, ha, rfl | ⟨hb, _⟩⟩
    · simp [rowD] at ha
      rcases ha with rfl | rfl <;> decide
    · simp at hb
  · have h0 := he.1 0
    have h1 := he.2 (arcF wCost ⟨0, 1, 4⟩) ⟨_, by simp [rowD], .inl rfl⟩
    have h2 := he.2 (arcF wCost ⟨1, 2, 5⟩) ⟨_, by simp [rowD], .inl rfl⟩
    have e0 : gi (startD rowD 0) 0 = 0 := by decide
    simp [arcF, wCost] at h1 h2
    match i with
    | 0 => show e 0 ≤ 0; omega
    | 1 => show e 1 ≤ 4; omega
    | 2 => show e 2 ≤ 9; omega
    | n + 3 =>
      have := he.1 (n + 3)
      rw [gi_far (by simp [startD, rowD])] at this
      rw [gi_far (by simp)]
      exact this
end Go.Proofs.Ytcgnalpcbcpmkaa
/- A region that draws its order and ends in an operation that waits for all others: a condition on the world is kept up to that last operation alone. -/
namespace Go.Proofs.Ytcgnalpcbcpmkaa
open Go Go.RowKit

section
variable {P : Program} {ops : Array Oper} {Q : Exit → Act → World → Prop} {md : Region.Mode} {S : World → Prop}
/-- Whatever order is picked: behind each of the first n operations S holds. -/
def WpN (P : Program) (md : Region.Mode) (ops : Array Oper) (Q : Exit → Act → World → Prop) (S : World → Prop) (n : Nat) : Nat → Array Bool → Act → World → Prop
  | 0, listed, a, w => Region.ready md ops listed = [] ∧ Q .normal a w
  | f + 1, listed, a, w => (Region.ready md ops listed = [] → Q .normal a w) ∧
      ∀ i ∈ Region.ready md ops listed, wpOp P ops Q i (fun a' w' => (i < n → S w') ∧ WpN P md ops Q S n f (listed.setIfInBounds i true) a' w') a w
theorem WpN.any {n : Nat} : ∀ (f : Nat) (listed : Array Bool) (a : Act) (w : World), WpN P md ops Q S n f listed a w → wpAny P md ops Q f listed a w
  | 0, _, _, _, h => h
  | f + 1, _, _, _, h => ⟨h.1, fun i hi => wpOp_mono (fun _ _ h' => h'.2.any f _ _ _) (h.2 i hi)⟩
theorem WpN.first {n i : Nat} {oi : Oper} {v : Value} (hi : ops[i]? = some oi) (hsel : ∀ (j : Nat) (o : Oper) cs b, ops[j]? = some o → o.op ≠ .select cs b)
    (hQ : ∀ c a w, Q (.panic c) (a.put oi.dst v) w → Q (.panic c) a w) (hs : Region.sinkB md ops n = true) (hc : Region.chainB md ops n = true) (hn : n < ops.size) (hin : i < n) (f : Nat) :
    ∀ (listed : Array Bool) (a : Act) (w : World), HeadInv md ops n listed →
      (∀ j oj, ops[j]? = some oj → j ≠ i → listed.getD j true = false → (∀ e ∈ oj.after, Region.binds md e = true → e.on ≠ i) → oi.apart ops oj = true) →
      i ∈ Region.ready md ops listed → YieldsIf P ops S oi v a → S w → WpN P md ops Q S n f (listed.setIfInBounds i true) (a.put oi.dst v) w → WpN P md ops Q S n (f + 1) listed a w := by
  induction f with
  | zero =>
    intro listed a w inv _ hr hy hS H
    refine ⟨fun h => (by rw [h] at hr; cases hr), fun j hj => ?_⟩
    by_cases hji : j = i
    · subst hji; exact hy.wpOp hi hS ⟨fun _ => hS, H⟩
    · have h1 := ready_mono hj hji
      rw [H.1] at h1
      cases h1
  | succ f ih =>
    intro listed a w inv hfree hr hy hS H
    have hun := (mem_ready.1 hr).1
    refine ⟨fun h => (by rw [h] at hr; cases hr), fun j hj => ?_⟩
    have hjn : j < n := by
      rcases Nat.lt_or_ge j n with h | h
      · exact h
      · exact absurd hj (tail_waits hs hc hn inv _ i rfl hin hun j h)
    by_cases hji : j = i
    · subst hji; exact hy.wpOp hi hS ⟨fun _ => hS, H⟩
    · obtain ⟨hjun, oj, hoj, hall⟩ := mem_ready.1 hj
      have hnot : ∀ e ∈ oj.after, Region.binds md e = true → e.on ≠ i := fun e he hb heq => by
        have h2 := hall e he hb
        rw [heq, getD_both hun] at h2
        cases h2
      have h2 := wpOp_putIf hoj (hfree j oj hoj hji hjun hnot) (fun cs b => hsel i oi cs b hi) (fun cs b => hsel j oj cs b hoj) hQ hy (H.2 j (ready_mono hj hji))
      refine wpOp_mono (fun a' w' h3 => ⟨h3.2.1, ih (listed.setIfInBounds j true) a' w' (inv.set hj hjn) (fun k ok hk hki hu hno => hfree k ok hk hki ?_ hno) (ready_mono hr (Ne.symm hji)) h3.1 (h3.2.1 hjn) ?_⟩) h2
      · by_cases hjk : j = k
        · subst hjk; exact hjun
        · rw [getD_set_ne true hjk] at hu; exact hu
      · rw [Array.setIfInBounds_comm _ _ hji]
        exact h3.2.2
/-- The numbers that are listed, and that the rest is as it must be: one closed fact. -/
def headB (md : Region.Mode) (ops : Array Oper) (n : Nat) (listed : Array Bool) : Bool :=
  decide (listed.size = ops.size) && (List.range ops.size).all fun j => (decide (j < n) || !listed.getD j true) && (!listed.getD j false || match ops[j]? with
    | some oj => oj.after.all fun e => !Region.binds md e || listed.getD e.on false
    | none => true)
theorem headB_inv {n : Nat} {listed : Array Bool} (h : headB md ops n listed = true) : HeadInv md ops n listed := by
  simp only [headB, Bool.and_eq_true, decide_eq_true_eq, List.all_eq_true, List.mem_range] at h
  obtain ⟨h1, h2⟩ := h
  refine ⟨h1, fun j oj hj hl e he hb => ?_, fun t ht ht' => ?_⟩
  · have h3 := (h2 j (Array.getElem?_eq_some_iff.1 hj).1).2
    rw [hl, hj] at h3
    simp only [Bool.not_true, Bool.false_or] at h3
    have h4 := Array.all_eq_true'.1 h3 e he
    simpa [hb] using h4
  · have h3 := (h2 t ht').1
    simp only [Bool.or_eq_true, decide_eq_true_eq, Bool.not_eq_true'] at h3
    rcases h3 with h3 | h3
    · omega
    · exact h3
/-- Take number i first. -/
theorem WpN.take {n i : Nat} {oi : Oper} {v : Value} {f : Nat} {listed : Array Bool} {a : Act} {w : World} (hi : ops[i]? = some oi)
    (hB : (Region.noSelect ops && Region.free md ops listed i && (Region.ready md ops listed).contains i && Region.sinkB md ops n && Region.chainB md ops n && decide (n < ops.size) && decide (i < n) && headB md ops n listed) = true)
    (hQ : ∀ c a w, Q (.panic c) (a.put oi.dst v) w → Q (.panic c) a w) (hy : YieldsIf P ops S oi v a) (hS : S w)
    (h : WpN P md ops Q S n f (listed.setIfInBounds i true) (a.put oi.dst v) w) : WpN P md ops Q S n (f + 1) listed a w := by
  simp only [Bool.and_eq_true, decide_eq_true_eq] at hB
  obtain ⟨⟨⟨⟨⟨⟨⟨b1, b2⟩, b3⟩, b4⟩, b5⟩, b6⟩, b7⟩, b8⟩ := hB
  exact WpN.first hi (Region.noSelect_spec b1) hQ b4 b5 b6 b7 f listed a w (headB_inv b8) (Region.free_spec hi b2) (by simpa using b3) hy hS h
/-- One alone may come up. -/
theorem WpN.one {n i : Nat} {oi : Oper} {f : Nat} {listed : Array Bool} {a : Act} {w : World} (hi : ops[i]? = some oi) (hr : (Region.ready md ops listed == [i] && Region.wanted oi (yielded ops a.tmps)) = true)
    (h : ∀ K : Act → World → Prop, Hid (∀ a' w', ((i < n → S w') ∧ WpN P md ops Q S n f (listed.setIfInBounds i true) a' w') → K a' w') → Oper.wp P oi a w K Q) : WpN P md ops Q S n (f + 1) listed a w := by
  simp only [Bool.and_eq_true, beq_iff_eq] at hr
  obtain ⟨hr, hw⟩ := hr
  refine ⟨fun h0 => (by rw [h0] at hr; cases hr), fun j hj => ?_⟩
  rw [hr] at hj
  obtain rfl : j = i := by simpa using hj
  unfold wpOp
  simp only [hi, hw, if_true]
  exact .inl (h _ (Lib.hid fun _ _ h => h))
theorem WpN.done {n : Nat} {listed : Array Bool} {a : Act} {w : World} (hr : Region.ready md ops listed = []) (h : Q .normal a w) : ∀ f, WpN P md ops Q S n f listed a w
  | 0 => ⟨hr, h⟩
  | _ + 1 => ⟨fun _ => h, by rw [hr]; simp⟩
theorem WpN.begin {id : Nat} {a : Act} {w : World} (n : Nat) (hm : P.follows .mixedOrders = true) (h : WpN P .any ops Q S n ops.size (Array.replicate ops.size false) a w.drew) : (Code.region id ops true).wp P Q a w :=
  wp_region_any hm (h.any _ _ _ _)
end
end Go.Proofs.Ytcgnalpcbcpmkaa
/- Time turned round, as plain Lean: a right graph's is right; who goes there goes here, backward; no program in sight. -/
namespace Go.Proofs.Ytcgnalpcbcpmkaa

theorem legs_after {h : Int} : ∀ (r : List LegD) (q : Int), legsErr h (some q) r = 0 → ∀ l, l ∈ r → q ≤ l.f
  | [], _, _, l, hl => by simp at hl
  | y :: r, q, he, l, hl => by
    have h1 : legOk y h = true := by
      cases h0 : legOk y h
      · rw [legsErr_bad h0] at he; simp at he
      · rfl
    by_cases hq : y.f < q
    · rw [legsErr_form h1 hq] at he; simp at he
    · rw [legsErr_next h1 hq] at he
      rcases List.mem_cons.1 hl with rfl | hl
      · omega
      · have := legs_after r y.t he l hl
        simp [legOk] at h1
        omega
theorem leaves_of {h t : Int} : ∀ (r : List LegD) (p : Option Int), legsErr h p r = 0 → ∀ l, l ∈ r → l.f ≤ t → t < l.t → leaves t r = some l
  | [], _, _, l, hl, _, _ => by simp at hl
  | y :: r, p, he, l, hl, h2, h3 => by
    have h1 : legOk y h = true := by
      cases h0 : legOk y h
      · rw [legsErr_bad h0] at he; simp at he
      · rfl
    have he2 : legsErr h (some y.t) r = 0 := by
      cases p with
      | none => rwa [legsErr_first h1] at he
      | some q =>
        by_cases hq : y.f < q
        · rw [legsErr_form h1 hq] at he; simp at he
        · rwa [legsErr_next h1 hq] at he
    rcases List.mem_cons.1 hl with rfl | hl
    · exact leaves_hit ⟨h2, h3⟩
    · have := legs_after r y.t he2 l hl
      rw [leaves_miss (by omega)]
      exact leaves_of r _ he2 l hl h2 h3
theorem arrive_leg {g : GraphD} {x : EdgeD} (hx : EdgeOk g x) {l : LegD} (hl : l ∈ x.legs) {t : Int} (h1 : l.f ≤ t) (h2 : t < l.t) (ha : aliveB g x.a t = true) (hh : t + l.time < g.h) (hb : aliveB g x.b (t + l.time) = true) : arrive g x t = some (l, t + l.time) := by
  unfold arrive
  rw [leaves_of x.legs none hx.err l hl h1 h2]
  simp only
  rw [if_pos ⟨ha, hh, hb⟩]
/-! ### the graph with time turned round -/
theorem max0 (x : Int) : (max 0 x = x ∧ 0 ≤ x) ∨ (max 0 x = 0 ∧ x < 0) := by
  by_cases h : 0 ≤ x
  · exact .inl ⟨Int.max_eq_right h, h⟩
  · exact .inr ⟨Int.max_eq_left (by omega), by omega⟩
def backLife (h : Int) (l : IvlD) : IvlD := ⟨h - l.t, h - l.f⟩
def backLeg (h : Int) (l : LegD) : LegD := ⟨max 0 (h - l.t - l.time), h - l.f - l.time, l.time, l.cost⟩
def backEdge (h : Int) (x : EdgeD) (l : LegD) : Option EdgeD := if (backLeg h l).f < (backLeg h l).t then some ⟨x.b, x.a, [backLeg h l]⟩ else none
def backEdges (h : Int) (x : EdgeD) : List EdgeD := x.legs.filterMap (backEdge h x)
def revD (g : GraphD) : GraphD := ⟨g.h, g.lives.map (backLife g.h), g.edges.flatMap (backEdges g.h)⟩
def revErr (g : GraphD) : Int := if graphErr g = 0 then (if 30 < (revD g).edges.length then 2 else 0) else graphErr g
theorem mem_rev {g : GraphD} {y : EdgeD} : y ∈ (revD g).edges ↔ ∃ x l, x ∈ g.edges ∧ l ∈ x.legs ∧ (backLeg g.h l).f < (backLeg g.h l).t ∧ y = ⟨x.b, x.a, [backLeg g.h l]⟩ := by
  simp only [revD, List.mem_flatMap, backEdges, List.mem_filterMap, backEdge]
  constructor
  · rintro ⟨x, hx, l, hl, he⟩
    split at he
    · rename_i hlt
      exact ⟨x, l, hx, hl, hlt, by simpa using he.symm⟩
    · simp at he
  · rintro ⟨x, l, hx, hl, hlt, rfl⟩
    exact ⟨x, hx, l, hl, by rw [if_pos hlt]⟩
theorem rev_valid {g : GraphD} (hV : Valid g) (hn : (revD g).edges.length ≤ 30) : Valid (revD g) := by
  refine ⟨hV.h0, hV.h1, by simp [revD]; exact hV.nl, hn, fun l hl => ?_, fun y hy => ?_⟩
  · simp only [revD, List.mem_map] at hl
    obtain ⟨l0, h0, rfl⟩ := hl
    have := hV.lives l0 h0
    simp only [backLife, revD]
    omega
  · obtain ⟨x, l, hx, hl, hlt, rfl⟩ := mem_rev.1 hy
    have ho := hV.edges x hx
    have h0 := ho.a0; have h1 := ho.a1; have h2 := ho.b0; have h3 := ho.b1
    have h4 := ho.legs l hl
    have hok : legOk (backLeg g.h l) g.h = true :=
      decide_eq_true ⟨Int.le_max_left _ _, hlt, by show g.h - l.f - l.time ≤ g.h; omega, h4.2.2.2.1, h4.2.2.2.2.1, h4.2.2.2.2.2.1, h4.2.2.2.2.2.2⟩
    refine ⟨h2, by simp [revD]; exact h3, h0, by simp [revD]; exact h1, by simp, fun m hm => ?_, by simp only [revD]; rw [legsErr_first hok]; rfl⟩
    obtain rfl : m = backLeg g.h l := by simpa using hm
    simpa [legOk, revD] using hok
theorem rev_alive {g : GraphD} {v t : Int} : aliveB (revD g) v (g.h - 1 - t) = aliveB g v t := by
  unfold aliveB
  simp only [revD, List.getElem?_map]
  cases g.lives[v.toNat]? with
  | none => rfl
  | some l =>
    simp only [Option.map_some, backLife]
    rw [decide_eq_decide]
    omega
/-- Who goes here goes there, backward. -/
theorem rev_arrive {g : GraphD} (hV : Valid g) {x : EdgeD} (hx : x ∈ g.edges) {t u : Int} {l : LegD} (h : arrive g x t = some (l, u)) :
    ∃ y, y ∈ (revD g).edges ∧ y.a = x.b ∧ y.b = x.a ∧ ∃ l', arrive (revD g) y (g.h - 1 - u) = some (l', g.h - 1 - t) := by
  obtain ⟨h1, h2, h3, h4, h5, h6, h7⟩ := arrive_some h
  have ho := hV.edges x hx
  have h8 := ho.legs l h1
  have hlt : (backLeg g.h l).f < (backLeg g.h l).t := by simp only [backLeg]; omega
  refine ⟨⟨x.b, x.a, [backLeg g.h l]⟩, mem_rev.2 ⟨x, l, hx, h1, hlt, rfl⟩, rfl, rfl, backLeg g.h l, ?_⟩
  have e1 : leaves (g.h - 1 - u) [backLeg g.h l] = some (backLeg g.h l) := leaves_hit (by simp only [backLeg]; omega)
  have e2 : g.h - 1 - u + (backLeg g.h l).time = g.h - 1 - t := by simp only [backLeg]; omega
  unfold arrive
  simp only [e1]
  rw [e2, rev_alive, rev_alive, if_pos ⟨h7, by simp only [revD]; omega, h6⟩]
/-- Who goes there goes here. -/
theorem rev_back {g : GraphD} (hV : Valid g) {y : EdgeD} (hy : y ∈ (revD g).edges) {s r : Int} {l' : LegD} (h : arrive (revD g) y s = some (l', r)) :
    ∃ x l, x ∈ g.edges ∧ x.a = y.b ∧ x.b = y.a ∧ arrive g x (g.h - 1 - r) = some (l, g.h - 1 - s) := by
  obtain ⟨x, l, hx, hl, hlt, rfl⟩ := mem_rev.1 hy
  obtain ⟨h1, h2, h3, h4, h5, h6, h7⟩ := arrive_some h
  obtain rfl : l' = backLeg g.h l := by simpa using h1
  have ho := hV.edges x hx
  have h8 := ho.legs l hl
  simp only [backLeg] at h2 h3 h4
  simp only [revD] at h5
  refine ⟨x, l, hx, rfl, rfl, ?_⟩
  have e1 : g.h - 1 - r + l.time = g.h - 1 - s := by omega
  have ha : aliveB g x.a (g.h - 1 - r) = true := by
    have := rev_alive (g := g) (v := x.a) (t := g.h - 1 - r)
    rw [show g.h - 1 - (g.h - 1 - r) = r by omega] at this
    rw [← this]; exact h7
  have hb : aliveB g x.b (g.h - 1 - s) = true := by
    have := rev_alive (g := g) (v := x.b) (t := g.h - 1 - s)
    rw [show g.h - 1 - (g.h - 1 - s) = s by omega] at this
    rw [← this]; exact h6
  rw [arrive_leg ho hl (by omega) (by omega) ha (by omega) (by rw [e1]; exact hb), e1]
/-! ### the latest times are the earliest ones, with time turned round -/
def turnT (h x : Int) : Int := if x = Never then -1 else h - 1 - x
theorem rev_late {g : GraphD} (hV : Valid g) (hV' : Valid (revD g)) {u e : Int} {d x : List Int} (hu : 0 ≤ u ∧ u < g.lives.length) (he : 0 ≤ e ∧ e < g.h) (hd : LateL g u e d) (hx : EarlyL (revD g) u (g.h - 1 - e) x) {k : Nat} (hk : k < g.lives.length) :
    gi d k = turnT g.h (gi x k) := by
  have hh := hV.h1
  have hlen : (revD g).lives.length = g.lives.length := by simp [revD]
  have hrh : (revD g).h = g.h := rfl
  have hhere : ∀ i, i < g.lives.length → gi x i < Never → 0 ≤ gi x i ∧ gi x i < g.h := fun i hi hn => by
    have := hx.here hV' ⟨hu.1, by rw [hlen]; exact hu.2, by omega, by rw [hrh]; omega⟩ (k := i) (by rw [hlen]; exact hi) hn
    exact ⟨this.2.2.1, this.2.2.2.1⟩
  have hbig : ∀ i, gi x i ≤ Never := fun i => hx.big (by omega) i
  have htl : ∀ i, i < g.lives.length → -1 ≤ turnT g.h (gi x i) := fun i hi => by
    unfold turnT
    split
    · omega
    · have := hbig i; have := hhere i hi (by omega); omega
  have hL : LateL g u e ((List.range g.lives.length).map fun i => turnT g.h (gi x i)) := by
    refine ⟨by simp, ⟨fun i => ?_, fun y hy => ?_⟩, fun f hf i => ?_⟩
    · refine Int.neg_le_neg ?_
      by_cases hi : i < g.lives.length
      · rw [gi_map_range hi, startL_val hi]
        split
        · rename_i hp
          have h1 := hx.2.1.1 i
          rw [startE_val (by rw [hlen]; exact hi), if_pos ⟨by rw [rev_alive]; exact hp.1, hp.2⟩] at h1
          unfold turnT
          rw [if_neg (by simp only [Never]; omega)]
          omega
        · exact htl i hi
      · rw [gi_map_range_far (by omega), startL_far (by omega)]; exact Int.le_refl _
    · obtain ⟨z, hz, rfl⟩ := mem_arcsD.1 hy
      have ho := hV.edges z hz
      have h0 := ho.a0; have h1 := ho.a1; have h2 := ho.b0; have h3 := ho.b1
      simp only [arcD]
      rw [gi_map_range (show z.a.toNat < g.lives.length by omega), gi_map_range (show z.b.toNat < g.lives.length by omega), Int.neg_neg]
      refine Int.neg_le_neg ?_
      by_cases hl : 0 ≤ lastT g z (turnT g.h (gi x z.b.toNat))
      · obtain ⟨lg, te, h4, h5⟩ := lastT_some hl
        have h6 := arrive_late hV ho h4
        have hnb : ¬ gi x z.b.toNat = Never := fun e => by unfold turnT at h5; rw [if_pos e] at h5; omega
        have h5' : te ≤ g.h - 1 - gi x z.b.toNat := by unfold turnT at h5; rwa [if_neg hnb] at h5
        obtain ⟨y', hy', ea, eb, l', h7⟩ := rev_arrive hV hz h4
        have ho' := hV'.edges y' hy'
        have h8 := earlyF_le hV' ho' (t := gi x z.b.toNat) (by omega) h7
        have h9 := hx.arc hy'
        rw [ea, eb] at h9
        have hxa : gi x z.a.toNat ≤ g.h - 1 - lastT g z (turnT g.h (gi x z.b.toNat)) := Int.le_trans h9 h8
        have hna : ¬ gi x z.a.toNat = Never := fun e => by rw [e] at hxa; simp only [Never] at hxa; omega
        show lastT g z (turnT g.h (gi x z.b.toNat)) ≤ turnT g.h (gi x z.a.toNat)
        unfold turnT at hxa ⊢
        rw [if_neg hna]
        omega
      · have := htl z.a.toNat (by omega)
        have := lastT_low (g := g) (x := z) (s := turnT g.h (gi x z.b.toNat))
        omega
    · by_cases hi : i < g.lives.length
      · show f i ≤ - gi ((List.range g.lives.length).map fun i => turnT g.h (gi x i)) i
        rw [gi_map_range hi]
        have hst : ∀ j, j < g.lives.length → -1 ≤ - f j := fun j hj => by
          have := hf.1 j
          simp only [startL_val hj] at this
          split at this <;> omega
        have hz := hx.2.2 (fun j => if j < g.lives.length then (if - f j < 0 then Never else g.h - 1 + f j) else 0) ⟨fun j => ?_, fun y hy => ?_⟩ i
        · simp only [if_pos hi] at hz
          have h1 := hst i hi
          unfold turnT
          split
          · omega
          · rename_i hn
            have h2 := hbig i
            split at hz
            · omega
            · omega
        · by_cases hj : j < g.lives.length
          · simp only [if_pos hj]
            rw [startE_val (by rw [hlen]; exact hj)]
            have h1 := hf.1 j
            simp only [startL_val hj] at h1
            rw [rev_alive]
            by_cases hp : aliveB g u e = true ∧ (j : Int) = u
            · rw [if_pos hp] at h1 ⊢
              rw [if_neg (by omega)]
              omega
            · rw [if_neg hp]
              split <;> simp only [Never] <;> omega
          · simp only [if_neg hj]
            rw [startE_far (by rw [hlen]; omega)]; exact Int.le_refl _
        · obtain ⟨z, hz, rfl⟩ := mem_arcsE.1 hy
          have ho := hV'.edges z hz
          have h0 := ho.a0; have h1 := ho.a1; have h2 := ho.b0; have h3 := ho.b1
          rw [hlen] at h1 h3
          have e1 : (arcE (revD g) z).a < g.lives.length := by simp only [arcE]; omega
          have e2 : (arcE (revD g) z).b < g.lives.length := by simp only [arcE]; omega
          simp only [if_pos e1, if_pos e2]
          show (if - f z.b.toNat < 0 then Never else g.h - 1 + f z.b.toNat) ≤ earlyF (revD g) z (if - f z.a.toNat < 0 then Never else g.h - 1 + f z.a.toNat)
          have hzb : (if - f z.b.toNat < 0 then Never else g.h - 1 + f z.b.toNat) ≤ Never := by
            have := hst z.b.toNat (by omega)
            split <;> simp only [Never] <;> omega
          rcases earlyF_cases hV' ho (if - f z.a.toNat < 0 then Never else g.h - 1 + f z.a.toNat) with h4 | ⟨s, lg, te, h4, h5, h6, _⟩
          · rw [h4]; exact hzb
          · rw [h6]
            have h7 := arrive_late hV' ho h5
            rw [hrh] at h7
            have hna : ¬ - f z.a.toNat < 0 := fun hn => by rw [if_pos hn] at h4; simp only [Never] at h4; omega
            rw [if_neg hna] at h4
            obtain ⟨q, lq, hq, qa, qb, hqa⟩ := rev_back hV hz h5
            have h8 := lastT_ge (s := - f z.a.toNat) hV (hV.edges q hq) hqa (by omega)
            have h9 := hf.2 (arcD g q) (mem_arcsD.2 ⟨q, hq, rfl⟩)
            simp only [arcD, qa, qb] at h9
            have h10 : g.h - 1 - te ≤ - f z.b.toNat := by omega
            rw [if_neg (by omega)]
            omega
      · have := hf.1 i
        simp only [startL_far (show g.lives.length ≤ i by omega)] at this
        show f i ≤ - gi ((List.range g.lives.length).map fun i => turnT g.h (gi x i)) i
        rw [gi_map_range_far (by omega)]
        exact this
  rw [hd.eq hL, gi_map_range hk]
end Go.Proofs.Ytcgnalpcbcpmkaa
