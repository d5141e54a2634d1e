/- The law ImapSays holds: for every input it answers true, and its arguments stay; no condition. -/
import Derived.Test.YtcfachfldanddaaBd329d7f171a
import Derived.Test.YtcfachfldanddaaBddc3a4bea5b
namespace Go.Proofs.Ytcfachfldanddaa
open Go.ChangeShapes Go.WideShapes Go.ChangeAt Go.RowKit

set_option maxRecDepth 100000 in
theorem imapSays_lifted (os : Os) (started : os.Started) (H : Type) (enc : TypeId × Value → H) :
    ReturnsInHanded {} Try.checked os 10 .any (Rows.imapSaysSpec.pre6 enc Try.prog Try.f10 Rows.imapSaysRow.domain false) (Rows.imapSaysSpec.post enc Try.prog Try.f10 false true false false) := by
  refine returnsInHanded_of_change (C := Try.checked) Try.own started (by as_aux_lemma => kernel_rfl) Try.func10
    (ChangeSpec.witness6 (enc := enc) (C := Try.checked) false ⟨#[], #[.slice none 0 0, .agg #[.int .i64 0, .int .i64 0, .int .i64 0], .slice none 0 0, .int .i64 0], []⟩ 8 (by as_aux_lemma => kernel_rfl) (by as_aux_lemma => kernel_rfl) (by as_aux_lemma => kernel_rfl) (by as_aux_lemma => kernel_rfl)) ?_
  intro W base args ds gs before hval0 hW _ _
  have hval : ∀ (j : Nat) t v, Try.f10.params[j]? = some t → args[j]? = some v → Value.okWide Try.prog W .any base t v := hval0
  have hW' := hW
  obtain ⟨p, q, hA0, hV, rfl, hfz, hnd⟩ := hW
  have hA : DataW.TrodAll enc Try.prog W 0 (fun _ => true) true Try.f10.params.toList args.toList ds p := hA0
  rw [Try.params10] at hA hval
  obtain ⟨v0, v1, v2, v3, d0, d1, d2, d3, p0, p1, p2, p3, rfl, rfl, rfl, h0, h1, h2, h3⟩ := trodAll_four hA
  obtain ⟨A0, c0, l0, rfl, hI0⟩ := pieces_open (hval 0 40 v0 rfl rfl) h0
  obtain ⟨x1, rfl, hx1⟩ := piece_open (hval 1 42 v1 rfl rfl) h1
  obtain ⟨A2, c2, l2, rfl, hI2⟩ := ivls_open (hval 2 22 v2 rfl rfl) h2
  obtain ⟨n3, rfl, hn3⟩ := int_open (hval 3 3 v3 rfl rfl) h3
  clear hA0 hval0
  refine (imapSays_calls A0 c0 l0 hI0 x1 hx1 A2 c2 l2 hI2 n3 hn3).mono fun e W' ⟨he, hb⟩ => ⟨_, he, law_post hW' hb rfl (by rfl) (by rfl) (by rw [Try.params10]; exact params_read (by as_aux_lemma => kernel_rfl)) rfl⟩

set_option maxHeartbeats 8000000 in
theorem imapSays_joined : joinedFacts Try.prog 10 Try.f10 Rows.imapSaysSpec Rows.imapSaysRow = true :=
  joined_of (by as_aux_lemma => kernel_rfl) (by as_aux_lemma => kernel_rfl) (by as_aux_lemma => kernel_rfl) (by as_aux_lemma => kernel_rfl) (by as_aux_lemma => kernel_rfl) (by as_aux_lemma => kernel_rfl)
    may_enter lifts_final rfl make_cut rfl (by as_aux_lemma => kernel_rfl)
theorem imapSays_holds : Rows.ImapSaysSaid :=
  OpenClaim.holds_of_wide 10 Try.f10 rfl rfl rfl rfl rfl rfl rfl ⟨rfl, rfl, rfl, rfl, rfl⟩ rfl rfl rfl rfl rfl (by as_aux_lemma => kernel_rfl) Try.func10 imapSays_joined
    (of_decide_eq_true (by as_aux_lemma => kernel_rfl)) (by unfold Func.isWrapper; first | (rw [if_pos (by decide +kernel)]; kernel_rfl) | (rw [if_neg (by decide +kernel)]; exact ⟨rfl, rfl⟩))
    (fun os started H enc _ => imapSays_lifted os started H enc)
#print axioms imapSays_holds
end Go.Proofs.Ytcfachfldanddaa
