/- The walk of slices.Clone over legs. -/
import Derived.Test.YtcgnalpcbcpmkaaTurnMem
import Derived.Maps.AppendAt
import Derived.Lib.BufferMore
namespace Go.Proofs.Ytcgnalpcbcpmkaa
open Go.RowKit

def legC (x : LegD) : List Value := [.int .i64 x.f, .int .i64 x.t, .int .i64 x.time, .int .i64 x.cost]
theorem info_leg4 : (Try.prog.info? 114).map (fun i => (i.zero, i.size, i.bytes)) = some (some (.agg #[.int .i64 0, .int .i64 0, .int .i64 0, .int .i64 0]), 4, 32) := by kernel_rfl
theorem info_leg2 : ∃ i, Try.prog.info? 114 = some i ∧ i.zero = some (.agg #[.int .i64 0, .int .i64 0, .int .i64 0, .int .i64 0]) ∧ i.size = 4 ∧ i.bytes = 32 := by
  obtain ⟨i0, hi, hzz⟩ := Option.map_eq_some_iff.1 info_leg4
  simp only [Prod.mk.injEq] at hzz
  exact ⟨i0, hi, hzz.1, hzz.2.1, hzz.2.2⟩
theorem flat_get {l : List LegD} {k : Nat} {x : LegD} (h : l[k]? = some x) : (l.flatMap legC)[k * 4]? = some (.int .i64 x.f) ∧ (l.flatMap legC)[k * 4 + 1]? = some (.int .i64 x.t) ∧ (l.flatMap legC)[k * 4 + 2]? = some (.int .i64 x.time) ∧ (l.flatMap legC)[k * 4 + 3]? = some (.int .i64 x.cost) := by
  induction l generalizing k with
  | nil => simp at h
  | cons y l ih =>
    cases k with
    | zero =>
      obtain rfl : y = x := by simpa using h
      simp [legC]
    | succ k =>
      have ih := ih (k := k) (by simpa using h)
      rw [List.flatMap_cons]
      have e : ∀ j, (k + 1) * 4 + j = 4 + (k * 4 + j) := fun j => by omega
      have hl : (legC y).length = 4 := rfl
      refine ⟨?_, ?_, ?_, ?_⟩
      · rw [show (k + 1) * 4 = 4 + k * 4 by omega, List.getElem?_append_right (by omega), hl, Nat.add_sub_cancel_left]; exact ih.1
      · rw [e 1, List.getElem?_append_right (by omega), hl, Nat.add_sub_cancel_left]; exact ih.2.1
      · rw [e 2, List.getElem?_append_right (by omega), hl, Nat.add_sub_cancel_left]; exact ih.2.2.1
      · rw [e 3, List.getElem?_append_right (by omega), hl, Nat.add_sub_cancel_left]; exact ih.2.2.2
theorem flat_back {l : List LegD} {j : Nat} {u : Value} (h : (l.flatMap legC)[j]? = some u) : ∃ (k : Nat) (x : LegD) (i : Nat), l[k]? = some x ∧ j = k * 4 + i ∧ (legC x)[i]? = some u := by
  induction l generalizing j with
  | nil => simp at h
  | cons y l ih =>
    rw [List.flatMap_cons] at h
    by_cases hj : j < 4
    · rw [List.getElem?_append_left (by show j < 4; exact hj)] at h
      exact ⟨0, y, j, rfl, by omega, h⟩
    · rw [List.getElem?_append_right (by show 4 ≤ j; omega)] at h
      obtain ⟨k, x, i, h1, h2, h3⟩ := ih (j := j - 4) h
      exact ⟨k + 1, x, i, by simpa using h1, by omega, h3⟩
theorem flat_len (l : List LegD) : (l.flatMap legC).length = l.length * 4 := by
  induction l with
  | nil => rfl
  | cons x l ih => rw [List.flatMap_cons, List.length_append, ih, List.length_cons]; show 4 + _ = _; omega
theorem Own.lown {w : World} {base : Nat} {A : Option Addr} {n c : Nat} {l : List LegD} (h : Own legC 4 w base 114 (.slice A n c) l) : LOwn w A l := fun h0 => by
  rcases h.2 with ⟨h1, h2⟩ | ⟨g, cap, cur, hv, hg, hh, hnc, hcm, hcs, htake⟩
  · omega
  · injection hv with h1 h2 h3
    subst h1
    refine ⟨g, cur, rfl, hh, fun k x hk => ?_⟩
    have hl := lt_of_get hk
    obtain ⟨q0, q1, q2, q3⟩ := flat_get hk
    rw [← htake] at q0 q1 q2 q3
    rw [List.getElem?_take_of_lt (by omega)] at q0 q1 q2 q3
    exact ⟨by simpa using q0, by simpa using q1, by simpa using q2, by simpa using q3⟩
theorem legs_one (l : List LegD) : ∀ u ∈ l.flatMap legC, u.oneCell' = true := fun u hu => by
  obtain ⟨x, _, hx⟩ := List.mem_flatMap.1 hu
  simp only [legC, List.mem_cons, List.not_mem_nil, or_false] at hx
  rcases hx with rfl | rfl | rfl | rfl <;> rfl
/-- A list of legs is told, in a block of its own. -/
def CloneOut (l : List LegD) (w : World) (e : Ending) (w' : World) : Prop := ∃ A c, e = .returned (.slice A l.length c) ∧ LOwn w' A l ∧ l.length ≤ c ∧ c ≤ maxLen ∧ Below w.heap.size w w'

set_option maxRecDepth 100000 in
set_option maxHeartbeats 2000000 in
theorem clone_any (A : Option Addr) (c : Nat) (l : List LegD) (w : World) (hA : SlAt RLeg 4 w A l) (hl : l.length ≤ 6) :
    Calls Try.prog 106 #[.slice A l.length c] w (CloneOut l w) := by
  obtain ⟨i0, hi, hz0, hz1, hz2⟩ := info_leg2
  cases A with
  | none =>
    have h0 : l = [] := by
      cases l with
      | nil => rfl
      | cons y l =>
        obtain ⟨b, off, h⟩ := hA
        have := (h 0 y rfl).1
        simp at this
    subst h0
    have hnil : ∀ W : World, (binOp .eql 97 (.slice none 0 c) (.slice none 0 0)).run Try.prog W = .ok (.bool true) W := fun W => Lib.run_eql_slice_nil_nil W 0 c Try.underlying97
    go_enter Try.func106, Try.ntmps106
    go_wp2_with fail
    go_ret
    exact ⟨none, 0, rfl, fun h => by simp at h, by simp, by simp, by go_grown⟩
  | some ad =>
    obtain ⟨b, off, hS⟩ := hA
    have hsome : ∀ W : World, (binOp .eql 97 (.slice (some ad) l.length c) (.slice none 0 0)).run Try.prog W = .ok (.bool false) W := fun W => Lib.run_eql_slice_some_nil W ad l.length c Try.underlying97
    have hcells : ∀ (w' : World), Below w.heap.size w w' → ∀ (j : Nat) u, (l.flatMap legC)[j]? = some u → w'.cell? (ad.add j) = some u := fun w' hb j u hu => by
      obtain ⟨k, x, i, hk, rfl, hi⟩ := flat_back hu
      obtain ⟨h1, hlt, ⟨x0, x1, x2, x3⟩, _⟩ := hS k x hk
      obtain rfl : ad = ⟨b, off, none⟩ := by simpa using h1
      rw [Go.WideShapes.add_plain]
      have x0 := x0.now hb; have x1 := x1.now hb; have x2 := x2.now hb; have x3 := x3.now hb
      match i, hi with
      | 0, hi => simp [legC] at hi; subst hi; simpa [Nat.add_assoc] using x0
      | 1, hi => simp [legC] at hi; subst hi; simpa [Nat.add_assoc] using x1
      | 2, hi => simp [legC] at hi; subst hi; simpa [Nat.add_assoc] using x2
      | 3, hi => simp [legC] at hi; subst hi; simpa [Nat.add_assoc] using x3
      | i + 4, hi => simp [legC] at hi
    clear hS
    go_enter Try.func106, Try.ntmps106
    go_wp2_with (at_builtin; refine wpList_append_own_at _ rfl (.tmp 5) (.tmp 6) 97 rfl w.heap.size 114 i0 _ 4 32 Try.underlying97 hi hz0 hz1 hz2 rfl (by decide) _ 0 [] rfl (Own.lit (enc := legC) (l := []) rfl (Nat.le_refl _) rfl rfl rfl (by decide)) ad l.length c (l.flatMap legC) rfl (flat_len l) (hcells _ (by go_grown)) (legs_one l) (by unfold maxLen; omega) (by omega) (by simp) ?_; intro v' w6 h2 h3 _ _; have hown : Own legC 4 w6 w.heap.size 114 v' l := (by unfold Own; simpa using h2); obtain ⟨Ac, cc, rfl⟩ := hown.form)
    have hbb : Below w.heap.size w w6 := by
      refine ((Below.refl w.heap.size w).alloc (Nat.le_refl _) (Obj.cells #[] 114)).grown h3 (by simp) ?_
      intro k hk
      have e : some w.heap.size = some k := hk
      cases e
      exact Nat.le_refl _
    go_ret
    exact ⟨Ac, cc, rfl, hown.lown, hown.room.1, hown.room.2, hbb⟩
end Go.Proofs.Ytcgnalpcbcpmkaa
