/- The walk of the law JourneyParts. -/
import Derived.Test.YtcgnalpcbcpmkaaWalkP
import Derived.Test.YtcgnalpcbcpmkaaParts
import Derived.StillTailTactics
namespace Go.Proofs.Ytcgnalpcbcpmkaa
open Go.RowKit

theorem go_tuple_n (A A' Ah : Option Addr) (c c' ch n : Nat) (g : GraphD) (v t : Int) (l : List HopD) (w : World) (hG : GraphAt w A c A' c' g) (hH : SlAt RHop 2 w Ah l) (hhl : l.length ≤ maxLen) (hn : l.length = n) {a b d e : Int} (h : goR g v t l = (a, b, d, e)) :
    Calls Try.prog 36 #[gV A c A' c' g, .int .i64 v, .int .i64 t, .slice Ah n ch] w fun x w' => x = .returned (.tuple #[.int .i64 a, .int .i64 b, .int .i64 d, .int .i64 e]) ∧ Below w.heap.size w w' := by
  subst hn
  exact go_tuple A A' Ah c c' ch g v t l w hG hH hhl h
theorem eq_of {a b : Int} (h : a = b) : (a == b) = true := by simp [h]
set_option maxRecDepth 100000 in
set_option maxHeartbeats 4000000 in
theorem journeyParts_calls (A A' : Option Addr) (c c' : Nat) (g : GraphD) {w0 : World} (hG : GraphAt w0 A c A' c' g) (v : Int) (_hv : I64 v) (t : Int) (_ht : I64 t) (Ap : Option Addr) (cp : Nat) (ps : List Int) (hl : ps.length ≤ cp) (hm : cp ≤ maxLen) (hP : SlAt RInt 1 w0 Ap ps) (k : Int) (hk : I64 k) :
    Calls Try.prog 8 #[gV A c A' c' g, .int .i64 v, .int .i64 t, .slice Ap ps.length cp, .int .i64 k] w0 fun e w' => e = .returned (.bool true) ∧ Below w0.heap.size w0 w' := by
  obtain ⟨⟨l, a, b⟩, hw⟩ : ∃ p, walkL g v t (ps.take 20) = p := ⟨_, rfl⟩
  obtain ⟨hl20, hpl⟩ := parts_plain (by rw [List.length_take]; omega) hw
  have HW := Lib.hid hw
  clear hw
  rcases hpl with ⟨rfl, e, he, hgo⟩ | ⟨d, hgo, hparts⟩
  · have HGO := Lib.hid hgo
    have he2 := neq_of' he
    clear hgo he
    go_enter Try.func8, Try.ntmps8
    go_wp2_with fail
    refine (goes_any _).mono ?_
    rintro x w1 ⟨rfl, hb1⟩
    obtain ⟨B0, c1, c2, c3⟩ := (Blk.new w0 28 (gC A c A' c' g)).go hb1
    have hb2 : Below w0.heap.size w0 w1 := ext_trans (by go_grown) hb1
    go_wp2_with fail
    refine (walk_any _ _ _ _ _ _ g v t ps _ (hG.ext hb2) (hP.ext RInt.stable hb2) hl hm).mono ?_
    rw [HW.out]
    rintro x w2 ⟨Al, cl, rfl, hS, hl1, hl2, hb3⟩
    obtain ⟨B1, d1, d2, d3⟩ := B0.go hb3
    have hb4 := ext_trans hb2 hb3
    go_wp2_with fail
    refine (go_tuple _ _ _ _ _ _ g v t [] _ (hG.ext hb4) hS (by simp) HGO.out).mono ?_
    rintro x w3 ⟨rfl, hb5⟩
    go_wp2_with fail
    go_ret
    exact ⟨rfl, ext_trans hb4 hb5⟩
  · have HGO := Lib.hid hgo
    have hm0 := Int.emod_nonneg k (show ((l.length : Int) + 1) ≠ 0 by omega)
    have hm1 := Int.emod_lt_of_pos k (show 0 < ((l.length : Int) + 1) by omega)
    obtain ⟨i, hi⟩ : ∃ i : Nat, k % ((l.length : Int) + 1) = i := ⟨(k % ((l.length : Int) + 1)).toNat, by omega⟩
    have hil : i ≤ l.length := by omega
    obtain ⟨m, u, x, y, hp1, hp2, hxy, hx0, hx1, hy0, hy1⟩ := hparts i hil
    have HP1 := Lib.hid hp1
    have HP2 := Lib.hid hp2
    have hxy2 := eq_of hxy
    clear hgo hparts hp1 hp2 hxy
    go_enter Try.func8, Try.ntmps8
    go_wp2_with fail
    refine (goes_any _).mono ?_
    rintro x' w1 ⟨rfl, hb1⟩
    obtain ⟨B0, c1, c2, c3⟩ := (Blk.new w0 28 (gC A c A' c' g)).go hb1
    have hb2 : Below w0.heap.size w0 w1 := ext_trans (by go_grown) hb1
    go_wp2_with fail
    refine (walk_any _ _ _ _ _ _ g v t ps _ (hG.ext hb2) (hP.ext RInt.stable hb2) hl hm).mono ?_
    rw [HW.out]
    rintro x' w2 ⟨Al, cl, rfl, hS, hl1, hl2, hb3⟩
    simp only at hl1 hS
    obtain ⟨B1, d1, d2, d3⟩ := B0.go hb3
    have hb4 := ext_trans hb2 hb3
    go_wp2_with fail
    refine (go_tuple _ _ _ _ _ _ g v t l _ (hG.ext hb4) hS (Nat.le_trans hl1 hl2) HGO.out).mono ?_
    rintro x' w3 ⟨rfl, hb5⟩
    obtain ⟨B2, f1, f2, f3⟩ := B1.go hb5
    have hb6 := ext_trans hb4 hb5
    have hS3 := hS.ext RHop.stable hb5
    unfold maxLen at hl2
    clear hb1 hb2 hb3 hb4 hb5 B0 B1 c1 c2 c3 d1 d2 d3 hS
    go_wp2_with fail
    refine (rest_any k ((l.length : Int) + 1) _ hk (by omega) (by omega)).mono ?_
    rintro x' w4 ⟨rfl, rfl⟩
    rw [hi]
    have S0 : w3.cell? ⟨w0.heap.size, 0, none⟩ = some (.int .i64 g.h) ∧ w3.cell? ⟨w0.heap.size, 1, none⟩ = some (.slice A g.lives.length c) ∧ w3.cell? ⟨w0.heap.size, 2, none⟩ = some (.slice A' g.edges.length c') := ⟨f1 0, f1 1, f1 2⟩
    have hicl : i ≤ cl := by omega
    have hti : (l.take i).length = i := by rw [List.length_take]; omega
    have hdi : (l.drop i).length = l.length - i := by rw [List.length_drop]
    have htl : (l.take i).length ≤ maxLen := by rw [List.length_take]; unfold maxLen; omega
    have hdl : (l.drop i).length ≤ maxLen := by rw [List.length_drop]; unfold maxLen; omega
    have hTq := hS3.take i
    have hDq := hS3.drop i cl hl1
    have hGq := hG.ext hb6
    have hb6q := hb6
    clear hb6
    obtain ⟨wq, rfl⟩ : ∃ wo : World, wo = w3 := ⟨_, rfl⟩
    go_wp2_with fail
    go_region_held3 (fun w' => w'.cell? ⟨w0.heap.size, 0, none⟩ = some (.int .i64 g.h) ∧ w'.cell? ⟨w0.heap.size, 1, none⟩ = some (.slice A g.lives.length c) ∧ w'.cell? ⟨w0.heap.size, 2, none⟩ = some (.slice A' g.edges.length c'))
      (first | exact S0 | (refine keep3 ?_ S0; go_grown))
      (first | (go_at_call 36; refine (go_tuple_n _ _ _ _ _ _ _ g v t (l.take i) _ (hGq.ext (by go_grown)) (hTq.ext RHop.stable (by go_grown)) htl hti HP1.out).mono ?_; rintro e w5 ⟨rfl, hb5⟩; have hb6 : Below wq.heap.size wq w5 := ext_trans (by go_grown) hb5; have hz6 := hb6.size; obtain ⟨hc5, hf5⟩ := bcell hb5))
    have hb7 := ext_trans hb6q hb6
    have S1 := keep3 hb6 S0
    have hDw := hDq.ext RHop.stable hb6
    have hGw := hGq.ext hb6
    clear hb6 hb6q S0 hDq hGq hTq hc5 hf5 hb5 hz6 f1 f2 f3 B2 hS3
    obtain ⟨wp, rfl⟩ : ∃ wo : World, wo = w5 := ⟨_, rfl⟩
    have hizl : (i : Int) ≤ (l.length : Int) := by omega
    by_cases hci : cl = i
    all_goals
      first
        | rw [if_pos hci] at hDw
        | rw [if_neg hci] at hDw
      go_wp2_with fail
      go_region_held3 (fun w' => w'.cell? ⟨w0.heap.size, 0, none⟩ = some (.int .i64 g.h) ∧ w'.cell? ⟨w0.heap.size, 1, none⟩ = some (.slice A g.lives.length c) ∧ w'.cell? ⟨w0.heap.size, 2, none⟩ = some (.slice A' g.edges.length c'))
        (first | exact S1 | (refine keep3 ?_ S1; go_grown))
        (first | (go_at_call 36; (first | rw [if_pos hci] | rw [if_neg hci] | skip); refine (go_tuple_n _ _ _ _ _ _ _ g m u (l.drop i) _ (hGw.ext (by go_grown)) (hDw.ext RHop.stable (by go_grown)) hdl hdi HP2.out).mono ?_; rintro e w6 ⟨rfl, hb6⟩; have hb8 : Below wp.heap.size wp w6 := ext_trans (by go_grown) hb6))
      go_wp2_with fail
      go_ret
      exact ⟨rfl, ext_trans hb7 hb8⟩
end Go.Proofs.Ytcgnalpcbcpmkaa
