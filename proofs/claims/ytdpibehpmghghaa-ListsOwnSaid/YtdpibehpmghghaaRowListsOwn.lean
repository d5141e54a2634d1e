/- The law ListsOwn holds: for every input it answers true, and its arguments stay; no condition. -/
import Derived.Test.YtdpibehpmghghaaBdb890da3d74
import Derived.Test.YtdpibehpmghghaaBdbc35375446
namespace Go.Proofs.Ytdpibehpmghghaa
open Go.ChangeShapes Go.WideShapes Go.ChangeAt Go.RowKit

set_option maxRecDepth 100000 in
theorem listsOwn_lifted (os : Os) (started : os.Started) (H : Type) (enc : TypeId × Value → H) :
    ReturnsInHanded {} Try.checked os 3 .any (Rows.listsOwnSpec.pre6 enc Try.prog Try.f3 Rows.listsOwnRow.domain false) (Rows.listsOwnSpec.post enc Try.prog Try.f3 false true false false) := by
  refine returnsInHanded_of_change (C := Try.checked) Try.own started (by as_aux_lemma => kernel_rfl) Try.func3
    (ChangeSpec.witness6 (enc := enc) (C := Try.checked) false ⟨#[], #[.slice none 0 0, .slice none 0 0, .slice none 0 0, .agg #[.int .i64 0, .int .i64 0, .int .i64 0]], []⟩ 8 (by as_aux_lemma => kernel_rfl) (by as_aux_lemma => kernel_rfl) (by as_aux_lemma => kernel_rfl) (by as_aux_lemma => kernel_rfl)) ?_
  intro W base args ds gs before hval0 hW _ _
  have hval : ∀ (j : Nat) t v, Try.f3.params[j]? = some t → args[j]? = some v → Value.okWide Try.prog W .any base t v := hval0
  have hW' := hW
  obtain ⟨p, q, hA0, hV, rfl, hfz, hnd⟩ := hW
  have hA : DataW.TrodAll enc Try.prog W 0 (fun _ => true) true Try.f3.params.toList args.toList ds p := hA0
  rw [Try.params3] at hA hval
  obtain ⟨v0, v1, v2, v3, d0, d1, d2, d3, p0, p1, p2, p3, rfl, rfl, rfl, h0, h1, h2, h3⟩ := trodAll_four hA
  obtain ⟨A0, c0, l0, rfl, hI0⟩ := ivls_open (hval 0 22 v0 rfl rfl) h0
  obtain ⟨A1, c1, l1, rfl, hI1⟩ := ivls_open (hval 1 22 v1 rfl rfl) h1
  obtain ⟨A2, c2, l2, rfl, hI2⟩ := pieces_open (hval 2 23 v2 rfl rfl) h2
  obtain ⟨x3, rfl, hx3⟩ := piece_open (hval 3 25 v3 rfl rfl) h3
  clear hA0 hval0
  refine (listsOwn_calls A0 c0 l0 hI0 A1 c1 l1 hI1 A2 c2 l2 hI2 x3 hx3).mono fun e W' ⟨he, hb⟩ => ⟨_, he, law_post hW' hb rfl (by rfl) (by rfl) (by rw [Try.params3]; exact params_read (by as_aux_lemma => kernel_rfl)) rfl⟩

set_option maxHeartbeats 8000000 in
theorem listsOwn_joined : joinedFacts Try.prog 3 Try.f3 Rows.listsOwnSpec Rows.listsOwnRow = true :=
  joined_of (by as_aux_lemma => kernel_rfl) (by as_aux_lemma => kernel_rfl) (by as_aux_lemma => kernel_rfl) (by as_aux_lemma => kernel_rfl) (by as_aux_lemma => kernel_rfl) (by as_aux_lemma => kernel_rfl)
    may_enter lifts_final rfl make_cut rfl (by as_aux_lemma => kernel_rfl)
theorem listsOwn_holds : Rows.ListsOwnSaid :=
  OpenClaim.holds_of_wide 3 Try.f3 rfl rfl rfl rfl rfl rfl rfl ⟨rfl, rfl, rfl, rfl, rfl⟩ rfl rfl rfl rfl rfl (by as_aux_lemma => kernel_rfl) Try.func3 listsOwn_joined
    (of_decide_eq_true (by as_aux_lemma => kernel_rfl)) (by unfold Func.isWrapper; first | (rw [if_pos (by decide +kernel)]; kernel_rfl) | (rw [if_neg (by decide +kernel)]; exact ⟨rfl, rfl⟩))
    (fun os started H enc _ => listsOwn_lifted os started H enc)
#print axioms listsOwn_holds
end Go.Proofs.Ytdpibehpmghghaa
