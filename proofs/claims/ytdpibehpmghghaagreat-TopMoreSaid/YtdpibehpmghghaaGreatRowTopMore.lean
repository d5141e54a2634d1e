/- The law TopMore holds: for every input it answers true, and its arguments stay; no condition. -/
import Derived.Test.YtdpibehpmghghaaGreatBd6068468490
import Derived.Test.YtdpibehpmghghaaGreatBd384ac1f49a
import Derived.Test.YtdpibehpmghghaaGreatBd4b5c0f076b
namespace Go.Proofs.YtdpibehpmghghaaGreat
open Go.ChangeShapes Go.WideShapes Go.ChangeAt Go.RowKit

set_option maxRecDepth 100000 in
theorem topMore_lifted (os : Os) (started : os.Started) (H : Type) (enc : TypeId × Value → H) :
    ReturnsInHanded {} Tryz.checked os 6 .any (Rows.topMoreSpec.pre6 enc Tryz.prog Tryz.f6 Rows.topMoreRow.domain false) (Rows.topMoreSpec.post enc Tryz.prog Tryz.f6 false true false false) := by
  refine returnsInHanded_of_change_sized (C := Tryz.checked) Tryz.own started (by as_aux_lemma => kernel_rfl) Tryz.func6
    (ChangeSpec.witness6 (enc := enc) (C := Tryz.checked) false ⟨#[], #[.agg #[.int .i64 0, .slice none 0 0, .slice none 0 0], .agg #[.int .i64 0, .int .i64 0, .slice none 0 0], .int .i64 0, .int .i64 0], []⟩ 8 (by as_aux_lemma => kernel_rfl) (by as_aux_lemma => kernel_rfl) (by as_aux_lemma => kernel_rfl) (by as_aux_lemma => kernel_rfl)) ?_
  intro W base args ds gs before hval0 hW _ hsz0 _
  have hsz : (DataW.weightsEach Tryz.prog (Tryz.f6.params.toList ++ Rows.topMoreSpec.plain.varTypes Tryz.prog) (ds ++ gs)).all (· ≤ reachBytes) = true := hsz0
  have hval : ∀ (j : Nat) t v, Tryz.f6.params[j]? = some t → args[j]? = some v → Value.okWide Tryz.prog W .any base t v := hval0
  have hW' := hW
  obtain ⟨p, q, hA0, hV, rfl, hfz, hnd⟩ := hW
  have hA : DataW.TrodAll enc Tryz.prog W 0 (fun _ => true) true Tryz.f6.params.toList args.toList ds p := hA0
  rw [Tryz.params6] at hA hval hsz
  obtain ⟨v0, v1, v2, v3, d0, d1, d2, d3, p0, p1, p2, p3, rfl, rfl, rfl, h0, h1, h2, h3⟩ := trodAll_four hA
  obtain ⟨A0, c0, B0, k0, g0, rfl, hG0, hZ0⟩ := graph_sized (hval 0 25 v0 rfl rfl) h0
  have hZ0 := (hZ0 _ (weights_reach hsz (j := 0) rfl rfl)).2
  obtain ⟨L1, cl1, x1, rfl, hxl1, hcl1, hX1, hxa1, hxb1⟩ := edge_open (hval 1 60 v1 rfl rfl) h1
  obtain ⟨n2, rfl, hn2⟩ := int_open (hval 2 3 v2 rfl rfl) h2
  obtain ⟨n3, rfl, hn3⟩ := int_open (hval 3 3 v3 rfl rfl) h3
  clear hA0 hval0
  refine (topMore_calls A0 B0 c0 k0 g0 hG0 (Nat.le_trans hZ0 (by decide)) L1 cl1 x1 hxl1 hcl1 hX1 hxa1 hxb1 n2 hn2 n3 hn3).mono fun e W' ⟨he, hb⟩ => ⟨_, he, law_post hW' hb rfl (by rfl) (by rfl) (by rw [Tryz.params6]; exact params_read (by as_aux_lemma => kernel_rfl)) rfl⟩

set_option maxHeartbeats 8000000 in
theorem topMore_joined : joinedFacts Tryz.prog 6 Tryz.f6 Rows.topMoreSpec Rows.topMoreRow = true :=
  joined_of (by as_aux_lemma => kernel_rfl) (by as_aux_lemma => kernel_rfl) (by as_aux_lemma => kernel_rfl) (by as_aux_lemma => kernel_rfl) (by as_aux_lemma => kernel_rfl) (by as_aux_lemma => kernel_rfl)
    may_enter lifts_final rfl make_cut rfl (by as_aux_lemma => kernel_rfl)
theorem topMore_holds : Rows.TopMoreSaid :=
  OpenClaim.holds_of_wide_leaving 6 Tryz.f6 rfl rfl rfl rfl rfl rfl rfl ⟨rfl, rfl, rfl, rfl, rfl⟩ rfl rfl rfl rfl rfl (by as_aux_lemma => kernel_rfl) Tryz.func6 topMore_joined
    (of_decide_eq_true (by as_aux_lemma => kernel_rfl)) (by unfold Func.isWrapper; first | (rw [if_pos (by decide +kernel)]; kernel_rfl) | (rw [if_neg (by decide +kernel)]; exact ⟨rfl, rfl⟩))
    (fun os started H enc _ => handed_leaving (topMore_lifted os started H enc))
#print axioms topMore_holds
end Go.Proofs.YtdpibehpmghghaaGreat
