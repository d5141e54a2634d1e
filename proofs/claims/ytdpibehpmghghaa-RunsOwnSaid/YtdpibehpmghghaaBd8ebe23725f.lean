/- Several texts in one: FoldSpec, Held2, Clone, HeadE. -/
import Derived.Maps.AppendAt
import Derived.Lib.BufferMore
import Derived.Test.YtdpibehpmghghaaBd8a148b2685
import Derived.Test.YtdpibehpmghghaaBdd408b50993
import Derived.Test.YtdpibehpmghghaaBd2f2e3a0852
import Derived.Test.YtdpibehpmghghaaBddaaa0efefd
/- Cells put together: what a fold tells; no program in sight. -/
namespace Go.Proofs.Ytdpibehpmghghaa

/-- What is told of a list of keyed pieces. -/
def foldF (U : List (PieceG Key)) (g : Key → Int) (t : Int) : Option Int := (atG U t).map g
/-- The messages' values at a time put together. -/
def mixO (l : List PieceD) (k t : Int) : Option Int := if whichL l t = [] then none else some (valOf l k (whichL l t))
theorem mix_fold {state l : List PieceD} {k : Int} {U : List (PieceG Key)} (h : ∀ t, atG U t = keyF state l t) (t : Int) : foldF U (fun q => valOf l k q.1) t = mixO l k t := by
  unfold foldF mixO
  rw [h]
  unfold keyF
  split <;> rfl
def FoldK (U : List (PieceG Key)) (g : Key → Int) (k : Nat) (out : List PieceD) : Prop :=
  (k = 0 → out = []) ∧ (∀ j z, k = j + 1 → U[j]? = some z → ∃ b, (∀ x, x ∈ U → b ≤ x.f) ∧ Told (foldF U g) b z.t out) ∧ out.length ≤ k ∧ ∀ x, x ∈ out → I64 x.f ∧ I64 x.t ∧ I64 x.v
section
variable {U : List (PieceG Key)} {g : Key → Int} {k : Nat} {out o : List PieceD} {y : PieceG Key} {z : PieceD}
theorem FoldK.start : FoldK U g 0 [] := ⟨fun _ => rfl, fun j z h => by omega, Nat.le_refl _, fun x h => by simp at h⟩
theorem fold_in (hU : MapG U) (hy : y ∈ U) {t : Int} (h1 : y.f ≤ t) (h2 : t < y.t) : foldF U g t = some (g y.v) := by
  unfold foldF
  rw [hU.mem_at hy h1 h2]
  rfl
theorem FoldK.pre (h : FoldK U g k out) (hU : MapG U) (hy : U[k]? = some y) : ∃ b, (∀ x, x ∈ U → b ≤ x.f) ∧ Told (foldF U g) b y.f out := by
  obtain ⟨i1, i2⟩ := List.getElem?_eq_some_iff.1 hy
  match k, h, hy, i1, i2 with
  | 0, h, hy, i1, i2 =>
    refine ⟨y.f, fun x hx => ?_, ?_⟩
    · obtain ⟨i, hi, rfl⟩ := List.mem_iff_getElem.1 hx
      by_cases h0 : i = 0
      · subst h0; rw [i2]; exact Int.le_refl _
      · have := List.pairwise_iff_getElem.1 hU.1 0 i i1 hi (by omega)
        rw [i2] at this
        have := hU.2 y (List.mem_of_getElem? hy)
        omega
    · rw [h.1 rfl]; exact Told.start
  | j + 1, h, hy, i1, i2 =>
    obtain ⟨z, hz⟩ := get_lt (show j < U.length by omega)
    obtain ⟨j1, j2⟩ := List.getElem?_eq_some_iff.1 hz
    obtain ⟨b, hb, hT⟩ := h.2.1 j z rfl hz
    refine ⟨b, hb, ?_⟩
    have hzy := List.pairwise_iff_getElem.1 hU.1 j (j + 1) j1 i1 (by omega)
    rw [j2, i2] at hzy
    by_cases he : z.t = y.f
    · rw [← he]; exact hT
    · have key : ∀ t, z.t ≤ t → t < y.f → foldF U g t = none := fun t h1 h2 => by
        unfold foldF
        rw [atG_none fun x hx => ?_]
        · rfl
        · rintro ⟨h3, h4⟩
          obtain ⟨i, hi, rfl⟩ := List.mem_iff_getElem.1 hx
          rcases Nat.lt_trichotomy i j with hij | hij | hij
          · have := List.pairwise_iff_getElem.1 hU.1 i j hi j1 hij
            rw [j2] at this
            have := hU.2 z (List.mem_of_getElem? hz)
            omega
          · subst hij; rw [j2] at h4; omega
          · by_cases hik : i = j + 1
            · subst hik; rw [i2] at h3; omega
            · have := List.pairwise_iff_getElem.1 hU.1 (j + 1) i i1 hi (by omega)
              rw [i2] at this
              have := hU.2 y (List.mem_of_getElem? hy)
              omega
      exact hT.skip (by omega) (fun t h1 h2 => by rw [key t h1 h2, key z.t (Int.le_refl _) (by omega)]) (key z.t (Int.le_refl _) (by omega))
theorem FoldK.grow (h : FoldK U g k (o ++ [z])) (hU : MapG U) (hy : U[k]? = some y) (hz : z.t = y.f) (hv : z.v = g y.v) (hi : I64 y.t) : FoldK U g (k + 1) (o ++ [⟨z.f, y.t, z.v⟩]) := by
  obtain ⟨b, hb, hT⟩ := h.pre hU hy
  have my := List.mem_of_getElem? hy
  have hyl := hU.2 y my
  refine ⟨fun h => by omega, fun j x hj hx => ?_, by have := h.2.2.1; simp at this ⊢; omega, fun x hx => ?_⟩
  · obtain rfl : k = j := by omega
    rw [hy] at hx
    obtain rfl : y = x := by simpa using hx
    exact ⟨b, hb, hT.grow (hb y my) hyl (fun t h1 h2 => by rw [fold_in hU my h1 h2, fold_in hU my (Int.le_refl _) hyl]) (by rw [fold_in hU my (Int.le_refl _) hyl, hv]) hz⟩
  · rcases List.mem_append.1 hx with hx | hx
    · exact h.2.2.2 x (List.mem_append_left _ hx)
    · obtain rfl : x = _ := by simpa using hx
      have := h.2.2.2 z (by simp)
      exact ⟨this.1, hi, this.2.2⟩
theorem FoldK.next (h : FoldK U g k out) (hU : MapG U) (hy : U[k]? = some y) (hz : ∀ x, x ∈ out → x.t = y.f → x.v ≠ g y.v) (h1 : I64 y.f) (h2 : I64 y.t) (h3 : I64 (g y.v)) : FoldK U g (k + 1) (out ++ [⟨y.f, y.t, g y.v⟩]) := by
  obtain ⟨b, hb, hT⟩ := h.pre hU hy
  have my := List.mem_of_getElem? hy
  have hyl := hU.2 y my
  refine ⟨fun h => by omega, fun j x hj hx => ?_, by have := h.2.2.1; simp; omega, fun x hx => ?_⟩
  · obtain rfl : k = j := by omega
    rw [hy] at hx
    obtain rfl : y = x := by simpa using hx
    exact ⟨b, hb, hT.next (hb y my) hyl (fun t h1 h2 => by rw [fold_in hU my h1 h2, fold_in hU my (Int.le_refl _) hyl]) (fold_in hU my (Int.le_refl _) hyl) hz⟩
  · rcases List.mem_append.1 hx with hx | hx
    · exact h.2.2.2 x hx
    · obtain rfl : x = _ := by simpa using hx
      exact ⟨h1, h2, h3⟩
/-- Only the last one can end there. -/
theorem FoldK.last (h : FoldK U g k (o ++ [z])) (hU : MapG U) (hy : U[k]? = some y) (hn : ¬ (z.t = y.f ∧ z.v = g y.v)) : ∀ x, x ∈ o ++ [z] → x.t = y.f → x.v ≠ g y.v := fun x hx e ev => by
  obtain ⟨b, hb, hT⟩ := h.pre hU hy
  rcases List.mem_append.1 hx with hx | hx
  · have h2 := hT.map.ahead hx
    have h3 := hT.low z (by simp)
    omega
  · obtain rfl : x = z := by simpa using hx
    exact hn ⟨e, ev⟩
theorem fold_ex (hU : MapG U) (hi : ∀ y, y ∈ U → I64 y.f ∧ I64 y.t ∧ I64 (g y.v)) : ∀ k, k ≤ U.length → ∃ out, FoldK U g k out
  | 0, _ => ⟨[], FoldK.start⟩
  | k + 1, hk => by
    obtain ⟨out, ho⟩ := fold_ex hU hi k (by omega)
    obtain ⟨y, hy⟩ := get_lt (show k < U.length by omega)
    have h3 := hi y (List.mem_of_getElem? hy)
    rcases List.eq_nil_or_concat out with rfl | ⟨o, z, rfl⟩
    · exact ⟨_, ho.next hU hy (fun x hx => by simp at hx) h3.1 h3.2.1 h3.2.2⟩
    · rw [List.concat_eq_append] at ho
      by_cases hz : z.t = y.f ∧ z.v = g y.v
      · exact ⟨_, ho.grow hU hy hz.1 hz.2 h3.2.1⟩
      · exact ⟨_, ho.next hU hy (ho.last hU hy hz) h3.1 h3.2.1 h3.2.2⟩
theorem FoldK.fin (h : FoldK U g U.length out) (hU : MapG U) : MapL out ∧ ∀ t, atM out t = foldF U g t := by
  rcases Nat.eq_zero_or_pos U.length with h0 | h0
  · have e1 : U = [] := List.eq_nil_of_length_eq_zero h0
    have e2 := h.1 h0
    subst e1 e2
    exact ⟨.nil, fun t => rfl⟩
  · obtain ⟨z, hz⟩ := get_lt (show U.length - 1 < U.length by omega)
    obtain ⟨j1, j2⟩ := List.getElem?_eq_some_iff.1 hz
    obtain ⟨b, hb, hT⟩ := h.2.1 (U.length - 1) z (by omega) hz
    refine ⟨hT.map, fun t => ?_⟩
    rw [hT.tells]
    split
    · rfl
    · rename_i hn
      unfold foldF
      rw [atG_none fun x hx => ?_]
      · rfl
      · rintro ⟨h3, h4⟩
        have h5 := hb x hx
        obtain ⟨i, hi, rfl⟩ := List.mem_iff_getElem.1 hx
        by_cases hij : i = U.length - 1
        · subst hij; rw [j2] at h4; omega
        · have := List.pairwise_iff_getElem.1 hU.1 i (U.length - 1) hi j1 (by omega)
          rw [j2] at this
          have := hU.2 z (List.mem_of_getElem? hz)
          omega
end
/-- What Fold tells. -/
def FoldSay (l : List PieceD) (k er : Int) (out : List PieceD) : Prop :=
  if msgErr l = 0 then if 1 ≤ k ∧ k ≤ 3 then Tells (mixO l k) er out else er = 1 ∧ out = [] else er = msgErr l ∧ out = []
end Go.Proofs.Ytdpibehpmghghaa
/- A region that draws its order and keeps a condition: two operations that may come up in either order. -/
namespace Go.Proofs.Ytdpibehpmghghaa
open Go Go.RowKit

section
variable {P : Program} {ops : Array Oper} {Q : Exit → Act → World → Prop} {md : Region.Mode} {S : World → Prop}
theorem anyH_begin {id : Nat} {a : Act} {w : World} (S : World → Prop) (hm : P.follows .mixedOrders = true) (h : wpAnyH P .any ops Q S ops.size (Array.replicate ops.size false) a w.drew) : (Code.region id ops true).wp P Q a w := wp_region_held (S := S) hm h
theorem anyH_two {i j : Nat} {oi oj : Oper} {f : Nat} {listed : Array Bool} {a : Act} {w : World} (hi : ops[i]? = some oi) (hj : ops[j]? = some oj)
    (hr : (Region.ready md ops listed == [i, j] && Region.wanted oi (yielded ops a.tmps) && Region.wanted oj (yielded ops a.tmps)) = true)
    (h1 : ∀ K : Act → World → Prop, Hid (∀ a' w', (S w' ∧ wpAnyH P md ops Q S f (listed.setIfInBounds i true) a' w') → K a' w') → Oper.wp P oi a w K Q)
    (h2 : ∀ K : Act → World → Prop, Hid (∀ a' w', (S w' ∧ wpAnyH P md ops Q S f (listed.setIfInBounds j true) a' w') → K a' w') → Oper.wp P oj a w K Q) : wpAnyH P md ops Q S (f + 1) listed a w := by
  simp only [Bool.and_eq_true, beq_iff_eq] at hr
  obtain ⟨⟨hr, hwi⟩, hwj⟩ := hr
  refine ⟨fun h0 => (by rw [h0] at hr; cases hr), fun k hk => ?_⟩
  rw [hr] at hk
  have hk2 : k = i ∨ k = j := by simpa using hk
  rcases hk2 with rfl | rfl
  · unfold wpOp
    simp only [hi, hwi, if_true]
    exact .inl (h1 _ (Lib.hid fun _ _ h => h))
  · unfold wpOp
    simp only [hj, hwj, if_true]
    exact .inl (h2 _ (Lib.hid fun _ _ h => h))
end
end Go.Proofs.Ytdpibehpmghghaa
/- The walk of slices.Clone over legs. -/
namespace Go.Proofs.Ytdpibehpmghghaa
open Go.RowKit

def legC (x : LegD) : List Value := [.int .i64 x.f, .int .i64 x.t, .int .i64 x.time, .int .i64 x.cost]
theorem info_leg4 : (Try.prog.info? 95).map (fun i => (i.zero, i.size, i.bytes)) = some (some (.agg #[.int .i64 0, .int .i64 0, .int .i64 0, .int .i64 0]), 4, 32) := by kernel_rfl
theorem info_leg2 : ∃ i, Try.prog.info? 95 = some i ∧ i.zero = some (.agg #[.int .i64 0, .int .i64 0, .int .i64 0, .int .i64 0]) ∧ i.size = 4 ∧ i.bytes = 32 := by
  obtain ⟨i0, hi, hzz⟩ := Option.map_eq_some_iff.1 info_leg4
  simp only [Prod.mk.injEq] at hzz
  exact ⟨i0, hi, hzz.1, hzz.2.1, hzz.2.2⟩
theorem flat_get {l : List LegD} {k : Nat} {x : LegD} (h : l[k]? = some x) : (l.flatMap legC)[k * 4]? = some (.int .i64 x.f) ∧ (l.flatMap legC)[k * 4 + 1]? = some (.int .i64 x.t) ∧ (l.flatMap legC)[k * 4 + 2]? = some (.int .i64 x.time) ∧ (l.flatMap legC)[k * 4 + 3]? = some (.int .i64 x.cost) := by
  induction l generalizing k with
  | nil => simp at h
  | cons y l ih =>
    cases k with
    | zero =>
      obtain rfl : y = x := by simpa using h
      simp [legC]
    | succ k =>
      have ih := ih (k := k) (by simpa using h)
      rw [List.flatMap_cons]
      have e : ∀ j, (k + 1) * 4 + j = 4 + (k * 4 + j) := fun j => by omega
      have hl : (legC y).length = 4 := rfl
      refine ⟨?_, ?_, ?_, ?_⟩
      · rw [show (k + 1) * 4 = 4 + k * 4 by omega, List.getElem?_append_right (by omega), hl, Nat.add_sub_cancel_left]; exact ih.1
      · rw [e 1, List.getElem?_append_right (by omega), hl, Nat.add_sub_cancel_left]; exact ih.2.1
      · rw [e 2, List.getElem?_append_right (by omega), hl, Nat.add_sub_cancel_left]; exact ih.2.2.1
      · rw [e 3, List.getElem?_append_right (by omega), hl, Nat.add_sub_cancel_left]; exact ih.2.2.2
theorem flat_back {l : List LegD} {j : Nat} {u : Value} (h : (l.flatMap legC)[j]? = some u) : ∃ (k : Nat) (x : LegD) (i : Nat), l[k]? = some x ∧ j = k * 4 + i ∧ (legC x)[i]? = some u := by
  induction l generalizing j with
  | nil => simp at h
  | cons y l ih =>
    rw [List.flatMap_cons] at h
    by_cases hj : j < 4
    · rw [List.getElem?_append_left (by show j < 4; exact hj)] at h
      exact ⟨0, y, j, rfl, by omega, h⟩
    · rw [List.getElem?_append_right (by show 4 ≤ j; omega)] at h
      obtain ⟨k, x, i, h1, h2, h3⟩ := ih (j := j - 4) h
      exact ⟨k + 1, x, i, by simpa using h1, by omega, h3⟩
theorem flat_lenC (l : List LegD) : (l.flatMap legC).length = l.length * 4 := by
  induction l with
  | nil => rfl
  | cons x l ih => rw [List.flatMap_cons, List.length_append, ih, List.length_cons]; show 4 + _ = _; omega
theorem Own.lown {w : World} {base : Nat} {A : Option Addr} {n c : Nat} {l : List LegD} (h : Own legC 4 w base 95 (.slice A n c) l) : LOwn w A l := fun h0 => by
  rcases h.2 with ⟨h1, h2⟩ | ⟨g, cap, cur, hv, hg, hh, hnc, hcm, hcs, htake⟩
  · omega
  · injection hv with h1 h2 h3
    subst h1
    refine ⟨g, cur, rfl, hh, fun k x hk => ?_⟩
    have hl := lt_of_get hk
    obtain ⟨q0, q1, q2, q3⟩ := flat_get hk
    rw [← htake] at q0 q1 q2 q3
    rw [List.getElem?_take_of_lt (by omega)] at q0 q1 q2 q3
    exact ⟨by simpa using q0, by simpa using q1, by simpa using q2, by simpa using q3⟩
theorem legs_one (l : List LegD) : ∀ u ∈ l.flatMap legC, u.oneCell' = true := fun u hu => by
  obtain ⟨x, _, hx⟩ := List.mem_flatMap.1 hu
  simp only [legC, List.mem_cons, List.not_mem_nil, or_false] at hx
  rcases hx with rfl | rfl | rfl | rfl <;> rfl
/-- A list of legs is told, in a block of its own. -/
def CloneOut (l : List LegD) (w : World) (e : Ending) (w' : World) : Prop := ∃ A c, e = .returned (.slice A l.length c) ∧ LOwn w' A l ∧ l.length ≤ c ∧ c ≤ maxLen ∧ Below w.heap.size w w'

end Go.Proofs.Ytdpibehpmghghaa
/- A region that draws its order, of which one operation writes: a condition on the world is kept until that one is done, and others may come behind it. -/
namespace Go.Proofs.Ytdpibehpmghghaa
open Go Go.RowKit

section
variable {P : Program} {ops : Array Oper} {Q : Exit → Act → World → Prop} {md : Region.Mode} {S : World → Prop}
/-- Whatever order is picked: S holds as long as operation n is not done. -/
def WpE (P : Program) (md : Region.Mode) (ops : Array Oper) (Q : Exit → Act → World → Prop) (S : World → Prop) (n : Nat) : Nat → Array Bool → Act → World → Prop
  | 0, listed, a, w => Region.ready md ops listed = [] ∧ Q .normal a w
  | f + 1, listed, a, w => (Region.ready md ops listed = [] → Q .normal a w) ∧
      ∀ i ∈ Region.ready md ops listed, wpOp P ops Q i (fun a' w' => ((listed.setIfInBounds i true).getD n true = false → S w') ∧ WpE P md ops Q S n f (listed.setIfInBounds i true) a' w') a w
theorem WpE.any {n : Nat} : ∀ (f : Nat) (listed : Array Bool) (a : Act) (w : World), WpE P md ops Q S n f listed a w → wpAny P md ops Q f listed a w
  | 0, _, _, _, h => h
  | f + 1, _, _, _, h => ⟨h.1, fun i hi => wpOp_mono (fun _ _ h' => h'.2.any f _ _ _) (h.2 i hi)⟩
/-- n waits for i. -/
def waitsB (md : Region.Mode) (ops : Array Oper) (n i : Nat) : Bool := match ops[n]? with
  | some o => o.after.any fun e => Region.binds md e && e.on == i
  | none => false
theorem waitsB_spec {n i : Nat} (h : waitsB md ops n i = true) {listed : Array Bool} (hu : listed.getD i true = false) : n ∉ Region.ready md ops listed := fun hn => by
  obtain ⟨_, oj, hoj, hall⟩ := mem_ready.1 hn
  unfold waitsB at h
  rw [hoj] at h
  obtain ⟨e, he, h2⟩ := Array.any_eq_true'.1 h
  simp only [Bool.and_eq_true, beq_iff_eq] at h2
  have h3 := hall e he h2.1
  rw [h2.2, getD_both hu] at h3
  cases h3
theorem WpE.first {n i : Nat} {oi : Oper} {v : Value} {T : World → Prop} (hi : ops[i]? = some oi) (hsel : ∀ (j : Nat) (o : Oper) cs b, ops[j]? = some o → o.op ≠ .select cs b)
    (hQ : ∀ c a w, Q (.panic c) (a.put oi.dst v) w → Q (.panic c) a w) (hin : i ≠ n) (hT : (waitsB md ops n i = true ∧ T = S) ∨ T = fun _ => True) (f : Nat) :
    ∀ (listed : Array Bool) (a : Act) (w : World),
      (∀ j oj, ops[j]? = some oj → j ≠ i → listed.getD j true = false → (∀ e ∈ oj.after, Region.binds md e = true → e.on ≠ i) → oi.apart ops oj = true) →
      i ∈ Region.ready md ops listed → YieldsIf P ops T oi v a → (listed.getD n true = false → S w) → (T = S → listed.getD n true = false ∨ T = fun _ => True) → WpE P md ops Q S n f (listed.setIfInBounds i true) (a.put oi.dst v) w → WpE P md ops Q S n (f + 1) listed a w := by
  have hTw : ∀ (listed : Array Bool) w, (listed.getD n true = false → S w) → (T = S → listed.getD n true = false ∨ T = fun _ => True) → T w := fun listed w hS hl => by
    rcases hT with ⟨_, h⟩ | h
    · rcases hl h with h2 | h2
      · rw [h]; exact hS h2
      · rw [h2]; trivial
    · rw [h]; trivial
  induction f with
  | zero =>
    intro listed a w _ hr hy hS hl H
    refine ⟨fun h => (by rw [h] at hr; cases hr), fun j hj => ?_⟩
    by_cases hji : j = i
    · subst hji; exact hy.wpOp hi (hTw listed w hS hl) ⟨fun h => hS (by rwa [getD_set_ne true hin] at h), H⟩
    · have h1 := ready_mono hj hji
      rw [H.1] at h1
      cases h1
  | succ f ih =>
    intro listed a w hfree hr hy hS hl H
    have hun := (mem_ready.1 hr).1
    refine ⟨fun h => (by rw [h] at hr; cases hr), fun j hj => ?_⟩
    by_cases hji : j = i
    · subst hji; exact hy.wpOp hi (hTw listed w hS hl) ⟨fun h => hS (by rwa [getD_set_ne true hin] at h), H⟩
    · obtain ⟨hjun, oj, hoj, hall⟩ := mem_ready.1 hj
      have hnot : ∀ e ∈ oj.after, Region.binds md e = true → e.on ≠ i := fun e he hb heq => by
        have h2 := hall e he hb
        rw [heq, getD_both hun] at h2
        cases h2
      have h2 := wpOp_putIf hoj (hfree j oj hoj hji hjun hnot) (fun cs b => hsel i oi cs b hi) (fun cs b => hsel j oj cs b hoj) hQ hy (H.2 j (ready_mono hj hji))
      have hsw : ((listed.setIfInBounds i true).setIfInBounds j true).getD n true = (listed.setIfInBounds j true).getD n true := by
        rw [Array.setIfInBounds_comm _ _ (Ne.symm hji), getD_set_ne true hin]
      refine wpOp_mono (fun a' w' h3 => ⟨fun h => h3.2.1 (by rw [hsw]; exact h), ih (listed.setIfInBounds j true) a' w' (fun k ok hk hki hu hno => hfree k ok hk hki ?_ hno) (ready_mono hr (Ne.symm hji)) h3.1 (fun h => h3.2.1 (by rw [hsw]; exact h)) (fun hTS => ?_) ?_⟩) h2
      · by_cases hjk : j = k
        · subst hjk; exact hjun
        · rw [getD_set_ne true hjk] at hu; exact hu
      · rcases hT with ⟨hw, _⟩ | h
        · have hjn : j ≠ n := fun e => waitsB_spec hw hun (e ▸ hj)
          rcases hl hTS with h4 | h4
          · exact .inl (by rw [getD_set_ne true hjn]; exact h4)
          · exact .inr h4
        · exact .inr h
      · rw [Array.setIfInBounds_comm _ _ hji]
        exact h3.2.2
/-- Take number i first, which reads what S tells; n waits for it. -/
theorem WpE.takeD {n i : Nat} {oi : Oper} {v : Value} {f : Nat} {listed : Array Bool} {a : Act} {w : World} {d : Nat} (hi : ops[i]? = some oi) (hd : oi.dst = some d)
    (hB : (Region.noSelect ops && Region.free md ops listed i && (Region.ready md ops listed).contains i && waitsB md ops n i && decide (i ≠ n) && !listed.getD n true) = true)
    (hQ : ∀ c a w, Q (.panic c) (a.put (some d) v) w → Q (.panic c) a w) (hy : YieldsIf P ops S oi v a) (hS : S w)
    (h : WpE P md ops Q S n f (listed.setIfInBounds i true) (a.put (some d) v) w) : WpE P md ops Q S n (f + 1) listed a w := by
  simp only [Bool.and_eq_true, decide_eq_true_eq, Bool.not_eq_true'] at hB
  obtain ⟨⟨⟨⟨⟨b1, b2⟩, b3⟩, b4⟩, b5⟩, b6⟩ := hB
  rw [← hd] at hQ h
  exact WpE.first (T := S) hi (Region.noSelect_spec b1) hQ b5 (.inl ⟨b4, rfl⟩) f listed a w (Region.free_spec hi b2) (by simpa using b3) hy (fun _ => hS) (fun _ => .inl b6) h
/-- Take number i first, which reads no memory. -/
theorem WpE.freeD {n i : Nat} {oi : Oper} {v : Value} {f : Nat} {listed : Array Bool} {a : Act} {w : World} {d : Nat} (hi : ops[i]? = some oi) (hd : oi.dst = some d)
    (hB : (Region.noSelect ops && Region.free md ops listed i && (Region.ready md ops listed).contains i && decide (i ≠ n)) = true)
    (hQ : ∀ c a w, Q (.panic c) (a.put (some d) v) w → Q (.panic c) a w) (hy : YieldsIf P ops (fun _ => True) oi v a) (hS : S w)
    (h : WpE P md ops Q S n f (listed.setIfInBounds i true) (a.put (some d) v) w) : WpE P md ops Q S n (f + 1) listed a w := by
  simp only [Bool.and_eq_true, decide_eq_true_eq] at hB
  obtain ⟨⟨⟨b1, b2⟩, b3⟩, b4⟩ := hB
  rw [← hd] at hQ h
  exact WpE.first (T := fun _ => True) hi (Region.noSelect_spec b1) hQ b4 (.inr rfl) f listed a w (Region.free_spec hi b2) (by simpa using b3) hy (fun _ => hS) (fun _ => .inr rfl) h
/-- One alone may come up. -/
theorem WpE.one {n i : Nat} {oi : Oper} {f : Nat} {listed : Array Bool} {a : Act} {w : World} (hi : ops[i]? = some oi) (hr : (Region.ready md ops listed == [i] && Region.wanted oi (yielded ops a.tmps)) = true)
    (h : ∀ K : Act → World → Prop, Hid (∀ a' w', (((listed.setIfInBounds i true).getD n true = false → S w') ∧ WpE P md ops Q S n f (listed.setIfInBounds i true) a' w') → K a' w') → Oper.wp P oi a w K Q) : WpE P md ops Q S n (f + 1) listed a w := by
  simp only [Bool.and_eq_true, beq_iff_eq] at hr
  obtain ⟨hr, hw⟩ := hr
  refine ⟨fun h0 => (by rw [h0] at hr; cases hr), fun j hj => ?_⟩
  rw [hr] at hj
  obtain rfl : j = i := by simpa using hj
  unfold wpOp
  simp only [hi, hw, if_true]
  exact .inl (h _ (Lib.hid fun _ _ h => h))
theorem WpE.done {n : Nat} {listed : Array Bool} {a : Act} {w : World} (hr : Region.ready md ops listed = []) (h : Q .normal a w) : ∀ f, WpE P md ops Q S n f listed a w
  | 0 => ⟨hr, h⟩
  | _ + 1 => ⟨fun _ => h, by rw [hr]; simp⟩
theorem WpE.begin {id : Nat} {a : Act} {w : World} (n : Nat) (hm : P.follows .mixedOrders = true) (h : WpE P .any ops Q S n ops.size (Array.replicate ops.size false) a w.drew) : (Code.region id ops true).wp P Q a w :=
  wp_region_any hm (h.any _ _ _ _)
end
end Go.Proofs.Ytdpibehpmghghaa
