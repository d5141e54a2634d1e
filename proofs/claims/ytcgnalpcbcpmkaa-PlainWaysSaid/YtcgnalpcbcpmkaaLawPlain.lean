/- The walk of the law PlainSays. -/
import Derived.Test.YtcgnalpcbcpmkaaPlainP
import Derived.Test.YtcgnalpcbcpmkaaDegrees
namespace Go.Proofs.Ytcgnalpcbcpmkaa
open Go.RowKit

/-- A list of numbers that is as it should be, and no error. -/
def IntsGood (P : List Int → Prop) (w : World) (e : Ending) (w' : World) : Prop := ∃ l A c, Hid (P l) ∧ e = .returned (.tuple #[.slice A l.length c, .int .i64 0]) ∧ SlAt RInt 1 w' A l ∧ l.length ≤ maxLen ∧ Below w.heap.size w w'
def IntsBad (er : Int) (w : World) (e : Ending) (w' : World) : Prop := ∃ A c, e = .returned (.tuple #[.slice A 0 c, .int .i64 er]) ∧ Below w.heap.size w w'
section
variable {P Q : List Int → Prop} {er : Int} {w w' : World} {e : Ending}
theorem ints_good (h : IntsOut P er w e w') (h0 : er = 0) (hpq : ∀ l, P l → Q l) : IntsGood Q w e w' := by
  subst h0
  obtain ⟨l, A, c, hl, he, h1, h2, h3⟩ := h
  exact ⟨l, A, c, Lib.hid (hpq l hl), he, h1, h2, h3⟩
theorem ints_bad (h : IntsOut P er w e w') (hpq : ∀ l, P l → l = []) : IntsBad er w e w' := by
  obtain ⟨l, A, c, hl, he, h1, h2, h3⟩ := h
  obtain rfl := hpq l hl
  exact ⟨A, c, he, h3⟩
end
section
variable {s : SnapD} {v : Int} {l : List Int} {wt : ArcD → Int}
theorem ways_good (h : waysErr s v = 0) : WaysOut s wt v l → WaysL s wt v l := fun hl => by unfold WaysOut at hl; rwa [if_pos h] at hl
theorem ways_bad (h : ¬ waysErr s v = 0) : WaysOut s wt v l → l = [] := fun hl => by unfold WaysOut at hl; rwa [if_neg h] at hl
theorem labels_good (h : shotErr s = 0) : LabelsOut s l → LabelsL s l := fun hl => by unfold LabelsOut at hl; rwa [if_pos h] at hl
theorem labels_bad (h : ¬ shotErr s = 0) : LabelsOut s l → l = [] := fun hl => by unfold LabelsOut at hl; rwa [if_neg h] at hl
theorem degrees_good (h : shotErr s = 0) : DegreesOut s l → l = degreesD s := fun hl => by unfold DegreesOut at hl; rwa [if_pos h] at hl
theorem degrees_bad (h : ¬ shotErr s = 0) : DegreesOut s l → l = [] := fun hl => by unfold DegreesOut at hl; rwa [if_neg h] at hl
end
theorem equalNil_any (A B : Option Addr) (c d : Nat) (w : World) : Calls Try.prog 51 #[.slice A 0 c, .slice B 0 d] w fun e w' => e = .returned (.bool true) ∧ Below w.heap.size w w' :=
  (equalInts_any A B c d [] [] w SlAt.nil SlAt.nil (by simp) (by simp)).mono fun e w' ⟨h1, h2⟩ => ⟨by rw [h1]; simp, h2⟩
theorem equalSame_any (A B : Option Addr) (c d : Nat) (l : List Int) (n m : Nat) (w : World) (hA : SlAt RInt 1 w A l) (hB : SlAt RInt 1 w B l) (hl : l.length ≤ maxLen) (hn : l.length = n) (hm : l.length = m) :
    Calls Try.prog 51 #[.slice A n c, .slice B m d] w fun e w' => e = .returned (.bool true) ∧ Below w.heap.size w w' := by
  subst hn; subst hm
  exact (equalInts_any A B c d l l w hA hB hl hl).mono fun e w' ⟨h1, h2⟩ => ⟨by rw [h1]; simp, h2⟩

set_option maxRecDepth 100000 in
set_option maxHeartbeats 8000000 in
theorem plainSays_calls (A A' : Option Addr) (c c' : Nat) (s : SnapD) {w : World} (hS : SnapAt w A c A' c' s) (v : Int) (_hv : I64 v) :
    Calls Try.prog 7 #[snapV A c A' c' s, .int .i64 v] w fun e w' => e = .returned (.bool true) ∧ Below w.heap.size w w' := by
  have m1 : s.alive.length ≤ 9223372036854775807 := Nat.le_trans hS.lc hS.cm
  by_cases h0 : shotErr s = 0
  case neg =>
    have H0 := Lib.hid h0
    have HW : Hid (waysErr s v = shotErr s) := Lib.hid (waysErr_bad h0)
    have HWN : Hid (¬ waysErr s v = 0) := Lib.hid (by rw [HW.out]; exact h0)
    have hn : (shotErr s == 0) = false := by simp [h0]
    clear h0
    go_enter Try.func7, Try.ntmps7
    go_wp2_with fail
    refine (shot_any _ _ _ _ s _ (hS.ext (by go_grown))).mono ?_
    rintro e w1 ⟨rfl, hb1⟩
    obtain ⟨B0, c1, c2, c3⟩ := (Blk.new w 51 (snapC A c A' c' s)).go hb1
    have hb2 : Below w.heap.size w w1 := ext_trans (by go_grown) hb1
    clear hb1
    go_wp2_with fail
    refine (shotCheck_any _ _ _ _ s _ (hS.ext hb2)).mono ?_
    rintro e w2 ⟨rfl, hb3⟩
    obtain ⟨B0, c1, c2, c3⟩ := B0.go hb3
    have hb2 := ext_trans hb2 hb3
    clear hb3
    go_wp2_with fail
    refine (hops_any _ _ _ _ s v _ (hS.ext hb2)).mono ?_
    intro e w3 hr
    obtain ⟨A1, d1, rfl, hb3⟩ := ints_bad hr (fun _ => ways_bad HWN.out)
    rw [HW.out]
    obtain ⟨B0, c1, c2, c3⟩ := B0.go hb3
    have hb2 := ext_trans hb2 hb3
    clear hb3 hr
    go_wp2_with fail
    refine (costs_any _ _ _ _ s v _ (hS.ext hb2)).mono ?_
    intro e w4 hr
    obtain ⟨A2, d2, rfl, hb3⟩ := ints_bad hr (fun _ => ways_bad HWN.out)
    rw [HW.out]
    obtain ⟨B0, c1, c2, c3⟩ := B0.go hb3
    have hb2 := ext_trans hb2 hb3
    clear hb3 hr
    go_wp2_with fail
    refine (labels_any _ _ _ _ s _ (hS.ext hb2)).mono ?_
    intro e w5 hr
    obtain ⟨A3, d3, rfl, hb3⟩ := ints_bad hr (fun _ => labels_bad H0.out)
    obtain ⟨B0, c1, c2, c3⟩ := B0.go hb3
    have hb2 := ext_trans hb2 hb3
    clear hb3 hr
    go_wp2_with fail
    refine (degrees_any _ _ _ _ s _ (hS.ext hb2)).mono ?_
    intro e w6 hr
    obtain ⟨A4, d4, rfl, hb3⟩ := ints_bad hr (fun _ => degrees_bad H0.out)
    have hb2 := ext_trans hb2 hb3
    clear hb3 hr
    go_wp2_with (go_at_call 51; refine (equalNil_any _ _ _ _ _).mono ?_; rintro e w7 ⟨rfl, hb3⟩; have hb2 := ext_trans hb2 hb3; clear hb3)
    go_ret
    exact ⟨rfl, hb2⟩
  have hok := snapOk_of h0
  have H0 := Lib.hid h0
  clear h0
  have hn12 := hok.nv
  by_cases hv : 0 ≤ v ∧ v < s.alive.length
  case neg =>
    have HW : Hid (waysErr s v = 4) := Lib.hid (waysErr_none H0.out hv)
    have HWN : Hid (¬ waysErr s v = 0) := Lib.hid (by rw [HW.out]; decide)
    have hin : inB v 0 ((s.alive.length : Int) - 1) = false := inB_iff'.2 (by omega)
    go_enter Try.func7, Try.ntmps7
    go_wp2_with fail
    refine (shot_any _ _ _ _ s _ (hS.ext (by go_grown))).mono ?_
    rw [H0.out]
    rintro e w1 ⟨rfl, hb1⟩
    obtain ⟨B0, c1, c2, c3⟩ := (Blk.new w 51 (snapC A c A' c' s)).go hb1
    have hb2 : Below w.heap.size w w1 := ext_trans (by go_grown) hb1
    clear hb1
    go_wp2_with fail
    refine (shotCheck_any _ _ _ _ s _ (hS.ext hb2)).mono ?_
    rw [H0.out]
    rintro e w2 ⟨rfl, hb3⟩
    obtain ⟨B0, c1, c2, c3⟩ := B0.go hb3
    have hb2 := ext_trans hb2 hb3
    clear hb3
    go_wp2_with fail
    refine (plainLabels_any _ _ _ _ s 0 _ (hS.ext hb2) hok).mono ?_
    rintro e w3 ⟨l3, R3, k3, z3, hl3, rfl, hR3, hm3, hb3⟩
    have HL3 := Lib.hid hl3
    obtain ⟨B0, c1, c2, c3⟩ := B0.go hb3
    have hb2 := ext_trans hb2 hb3
    clear hb3 hl3
    go_wp2_with fail
    refine (refDegrees_any _ _ _ _ s _ (hS.ext hb2) hok).mono ?_
    rintro e w4 ⟨R4, k4, rfl, hR4, hb3⟩
    have hm4 : (degreesD s).length ≤ maxLen := by simp [degreesD, maxLen]; omega
    obtain ⟨l4, hl4⟩ : ∃ l4, degreesD s = l4 := ⟨_, rfl⟩
    rw [hl4] at hR4 hm4 ⊢
    have HL4 := Lib.hid hl4
    obtain ⟨B0, c1, c2, c3⟩ := B0.go hb3
    have hb2 := ext_trans hb2 hb3
    have hR3 := hR3.ext RInt.stable hb3
    clear hb3 hl4
    go_wp2_with (go_at_call 46; refine (in_any _ _ _ _).mono ?_; rintro e w' ⟨rfl, rfl⟩)
    refine (hops_any _ _ _ _ s v _ (hS.ext hb2)).mono ?_
    intro e w5 hr
    obtain ⟨A1, d1, rfl, hb3⟩ := ints_bad hr (fun _ => ways_bad HWN.out)
    rw [HW.out]
    obtain ⟨B0, c1, c2, c3⟩ := B0.go hb3
    have hb2 := ext_trans hb2 hb3
    have hR3 := hR3.ext RInt.stable hb3
    have hR4 := hR4.ext RInt.stable hb3
    clear hb3 hr
    go_wp2_with fail
    refine (costs_any _ _ _ _ s v _ (hS.ext hb2)).mono ?_
    intro e w6 hr
    obtain ⟨A2, d2, rfl, hb3⟩ := ints_bad hr (fun _ => ways_bad HWN.out)
    rw [HW.out]
    obtain ⟨B0, c1, c2, c3⟩ := B0.go hb3
    have hb2 := ext_trans hb2 hb3
    have hR3 := hR3.ext RInt.stable hb3
    have hR4 := hR4.ext RInt.stable hb3
    clear hb3 hr
    go_wp2_with fail
    refine (labels_any _ _ _ _ s _ (hS.ext hb2)).mono ?_
    intro e w7 hr
    obtain ⟨q3, A3, d3, HQ3, rfl, hA3, hq3, hb3⟩ := ints_good (Q := LabelsL s) hr H0.out (fun _ => labels_good H0.out)
    rw [HQ3.out.eq HL3.out] at hA3 hq3 ⊢
    obtain ⟨B0, c1, c2, c3⟩ := B0.go hb3
    have hb2 := ext_trans hb2 hb3
    have hR3 := hR3.ext RInt.stable hb3
    have hR4 := hR4.ext RInt.stable hb3
    clear hb3 hr
    go_wp2_with fail
    refine (degrees_any _ _ _ _ s _ (hS.ext hb2)).mono ?_
    intro e w8 hr
    obtain ⟨q4, A4, d4, HQ4, rfl, hA4, hq4, hb3⟩ := ints_good (Q := fun l => l = degreesD s) hr H0.out (fun _ => degrees_good H0.out)
    rw [HQ4.out.trans HL4.out] at hA4 hq4 ⊢
    have hb2 := ext_trans hb2 hb3
    have hR3 := hR3.ext RInt.stable hb3
    have hR4 := hR4.ext RInt.stable hb3
    have hA3 := hA3.ext RInt.stable hb3
    clear hb3 hr
    go_wp2_with fail
    refine (equalNil_any _ _ _ _ _).mono ?_
    rintro e w9 ⟨rfl, hb3⟩
    have hb2 := ext_trans hb2 hb3
    have hR3 := hR3.ext RInt.stable hb3
    have hR4 := hR4.ext RInt.stable hb3
    have hA3 := hA3.ext RInt.stable hb3
    have hA4 := hA4.ext RInt.stable hb3
    clear hb3
    go_wp2_with fail
    refine (equalNil_any _ _ _ _ _).mono ?_
    rintro e w10 ⟨rfl, hb3⟩
    have hb2 := ext_trans hb2 hb3
    have hR3 := hR3.ext RInt.stable hb3
    have hR4 := hR4.ext RInt.stable hb3
    have hA3 := hA3.ext RInt.stable hb3
    have hA4 := hA4.ext RInt.stable hb3
    clear hb3
    go_wp2_with fail
    refine (equalSame_any _ _ _ _ l3 _ _ _ hA3 hR3 hm3 rfl rfl).mono ?_
    rintro e w11 ⟨rfl, hb3⟩
    have hb2 := ext_trans hb2 hb3
    have hR4 := hR4.ext RInt.stable hb3
    have hA4 := hA4.ext RInt.stable hb3
    clear hb3
    go_wp2_with fail
    refine (equalSame_any _ _ _ _ l4 _ _ _ hA4 hR4 hm4 rfl rfl).mono ?_
    rintro e w12 ⟨rfl, hb3⟩
    have hb2 := ext_trans hb2 hb3
    go_wp2_with fail
    go_ret
    exact ⟨rfl, hb2⟩
  have HW : Hid (waysErr s v = 0) := Lib.hid (waysErr_ok H0.out hv)
  have hin : inB v 0 ((s.alive.length : Int) - 1) = true := inB_iff.2 (by omega)
  go_enter Try.func7, Try.ntmps7
  go_wp2_with fail
  refine (shot_any _ _ _ _ s _ (hS.ext (by go_grown))).mono ?_
  rw [H0.out]
  rintro e w1 ⟨rfl, hb1⟩
  obtain ⟨B0, c1, c2, c3⟩ := (Blk.new w 51 (snapC A c A' c' s)).go hb1
  have hb2 : Below w.heap.size w w1 := ext_trans (by go_grown) hb1
  clear hb1
  go_wp2_with fail
  refine (shotCheck_any _ _ _ _ s _ (hS.ext hb2)).mono ?_
  rw [H0.out]
  rintro e w2 ⟨rfl, hb3⟩
  obtain ⟨B0, c1, c2, c3⟩ := B0.go hb3
  have hb2 := ext_trans hb2 hb3
  clear hb3
  go_wp2_with fail
  refine (plainLabels_any _ _ _ _ s 0 _ (hS.ext hb2) hok).mono ?_
  rintro e w3 ⟨l3, R3, k3, z3, hl3, rfl, hR3, hm3, hb3⟩
  have HL3 := Lib.hid hl3
  obtain ⟨B0, c1, c2, c3⟩ := B0.go hb3
  have hb2 := ext_trans hb2 hb3
  clear hb3 hl3
  go_wp2_with fail
  refine (refDegrees_any _ _ _ _ s _ (hS.ext hb2) hok).mono ?_
  rintro e w4 ⟨R4, k4, rfl, hR4, hb3⟩
  have hm4 : (degreesD s).length ≤ maxLen := by simp [degreesD, maxLen]; omega
  obtain ⟨l4, hl4⟩ : ∃ l4, degreesD s = l4 := ⟨_, rfl⟩
  rw [hl4] at hR4 hm4 ⊢
  have HL4 := Lib.hid hl4
  obtain ⟨B0, c1, c2, c3⟩ := B0.go hb3
  have hb2 := ext_trans hb2 hb3
  have hR3 := hR3.ext RInt.stable hb3
  clear hb3 hl4
  go_wp2_with (go_at_call 46; refine (in_any _ _ _ _).mono ?_; rintro e w' ⟨rfl, rfl⟩)
  refine (plainHops_any _ _ _ _ s v _ (hS.ext hb2) hok).mono ?_
  rintro e w5 ⟨l1, R1, k1, z1, hl1, rfl, hR1, hm1, hb3⟩
  have HL1 := Lib.hid hl1
  obtain ⟨B0, c1, c2, c3⟩ := B0.go hb3
  have hb2 := ext_trans hb2 hb3
  have hR3 := hR3.ext RInt.stable hb3
  have hR4 := hR4.ext RInt.stable hb3
  clear hb3 hl1
  go_wp2_with fail
  refine (plainCosts_any _ _ _ _ s v _ (hS.ext hb2) hok).mono ?_
  rintro e w6 ⟨l2, R2, k2, z2, hl2, rfl, hR2, hm2, hb3⟩
  have HL2 := Lib.hid hl2
  obtain ⟨B0, c1, c2, c3⟩ := B0.go hb3
  have hb2 := ext_trans hb2 hb3
  have hR1 := hR1.ext RInt.stable hb3
  have hR3 := hR3.ext RInt.stable hb3
  have hR4 := hR4.ext RInt.stable hb3
  clear hb3 hl2
  go_wp2_with fail
  refine (hops_any _ _ _ _ s v _ (hS.ext hb2)).mono ?_
  intro e w7 hr
  obtain ⟨q1, A1, d1, HQ1, rfl, hA1, hq1, hb3⟩ := ints_good (Q := WaysL s wOne v) hr HW.out (fun _ => ways_good HW.out)
  rw [HQ1.out.eq HL1.out] at hA1 hq1 ⊢
  obtain ⟨B0, c1, c2, c3⟩ := B0.go hb3
  have hb2 := ext_trans hb2 hb3
  have hR1 := hR1.ext RInt.stable hb3
  have hR2 := hR2.ext RInt.stable hb3
  have hR3 := hR3.ext RInt.stable hb3
  have hR4 := hR4.ext RInt.stable hb3
  clear hb3 hr
  go_wp2_with fail
  refine (costs_any _ _ _ _ s v _ (hS.ext hb2)).mono ?_
  intro e w8 hr
  obtain ⟨q2, A2, d2, HQ2, rfl, hA2, hq2, hb3⟩ := ints_good (Q := WaysL s wCost v) hr HW.out (fun _ => ways_good HW.out)
  rw [HQ2.out.eq HL2.out] at hA2 hq2 ⊢
  obtain ⟨B0, c1, c2, c3⟩ := B0.go hb3
  have hb2 := ext_trans hb2 hb3
  have hA1 := hA1.ext RInt.stable hb3
  have hR1 := hR1.ext RInt.stable hb3
  have hR2 := hR2.ext RInt.stable hb3
  have hR3 := hR3.ext RInt.stable hb3
  have hR4 := hR4.ext RInt.stable hb3
  clear hb3 hr
  go_wp2_with fail
  refine (labels_any _ _ _ _ s _ (hS.ext hb2)).mono ?_
  intro e w9 hr
  obtain ⟨q3, A3, d3, HQ3, rfl, hA3, hq3, hb3⟩ := ints_good (Q := LabelsL s) hr H0.out (fun _ => labels_good H0.out)
  rw [HQ3.out.eq HL3.out] at hA3 hq3 ⊢
  obtain ⟨B0, c1, c2, c3⟩ := B0.go hb3
  have hb2 := ext_trans hb2 hb3
  have hA1 := hA1.ext RInt.stable hb3
  have hA2 := hA2.ext RInt.stable hb3
  have hR1 := hR1.ext RInt.stable hb3
  have hR2 := hR2.ext RInt.stable hb3
  have hR3 := hR3.ext RInt.stable hb3
  have hR4 := hR4.ext RInt.stable hb3
  clear hb3 hr
  go_wp2_with fail
  refine (degrees_any _ _ _ _ s _ (hS.ext hb2)).mono ?_
  intro e w10 hr
  obtain ⟨q4, A4, d4, HQ4, rfl, hA4, hq4, hb3⟩ := ints_good (Q := fun l => l = degreesD s) hr H0.out (fun _ => degrees_good H0.out)
  rw [HQ4.out.trans HL4.out] at hA4 hq4 ⊢
  have hb2 := ext_trans hb2 hb3
  have hA1 := hA1.ext RInt.stable hb3
  have hA2 := hA2.ext RInt.stable hb3
  have hA3 := hA3.ext RInt.stable hb3
  have hR1 := hR1.ext RInt.stable hb3
  have hR2 := hR2.ext RInt.stable hb3
  have hR3 := hR3.ext RInt.stable hb3
  have hR4 := hR4.ext RInt.stable hb3
  clear hb3 hr
  go_wp2_with fail
  refine (equalSame_any _ _ _ _ l1 _ _ _ hA1 hR1 hm1 rfl rfl).mono ?_
  rintro e w11 ⟨rfl, hb3⟩
  have hb2 := ext_trans hb2 hb3
  have hA2 := hA2.ext RInt.stable hb3
  have hA3 := hA3.ext RInt.stable hb3
  have hA4 := hA4.ext RInt.stable hb3
  have hR2 := hR2.ext RInt.stable hb3
  have hR3 := hR3.ext RInt.stable hb3
  have hR4 := hR4.ext RInt.stable hb3
  clear hb3
  go_wp2_with fail
  refine (equalSame_any _ _ _ _ l2 _ _ _ hA2 hR2 hm2 rfl rfl).mono ?_
  rintro e w12 ⟨rfl, hb3⟩
  have hb2 := ext_trans hb2 hb3
  have hA3 := hA3.ext RInt.stable hb3
  have hA4 := hA4.ext RInt.stable hb3
  have hR3 := hR3.ext RInt.stable hb3
  have hR4 := hR4.ext RInt.stable hb3
  clear hb3
  go_wp2_with fail
  refine (equalSame_any _ _ _ _ l3 _ _ _ hA3 hR3 hm3 rfl rfl).mono ?_
  rintro e w13 ⟨rfl, hb3⟩
  have hb2 := ext_trans hb2 hb3
  have hR4 := hR4.ext RInt.stable hb3
  have hA4 := hA4.ext RInt.stable hb3
  clear hb3
  go_wp2_with fail
  refine (equalSame_any _ _ _ _ l4 _ _ _ hA4 hR4 hm4 rfl rfl).mono ?_
  rintro e w14 ⟨rfl, hb3⟩
  have hb2 := ext_trans hb2 hb3
  go_wp2_with fail
  go_ret
  exact ⟨rfl, hb2⟩
end Go.Proofs.Ytcgnalpcbcpmkaa
