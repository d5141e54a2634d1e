/- The law PackOne holds: for every input it answers true, and its arguments stay; no condition. -/
import Derived.Test.YtcgnalpcbcpmkaaBdac12786b2a
import Derived.Test.YtcgnalpcbcpmkaaBd11c9154019
namespace Go.Proofs.Ytcgnalpcbcpmkaa
open Go.ChangeShapes Go.WideShapes Go.ChangeAt Go.RowKit

set_option maxRecDepth 100000 in
theorem packOne_lifted (os : Os) (started : os.Started) (H : Type) (enc : TypeId × Value → H) :
    ReturnsInHanded {} Try.checked os 13 .any (Rows.packOneSpec.pre6 enc Try.prog Try.f13 Rows.packOneRow.domain false) (Rows.packOneSpec.post enc Try.prog Try.f13 false true false false) := by
  refine returnsInHanded_of_change (C := Try.checked) Try.own started (by as_aux_lemma => kernel_rfl) Try.func13
    (ChangeSpec.witness6 (enc := enc) (C := Try.checked) false ⟨#[], #[.string ByteArray.empty], []⟩ 8 (by as_aux_lemma => kernel_rfl) (by as_aux_lemma => kernel_rfl) (by as_aux_lemma => kernel_rfl) (by as_aux_lemma => kernel_rfl)) ?_
  intro W base args ds gs before hval0 hW _ _
  have hval : ∀ (j : Nat) t v, Try.f13.params[j]? = some t → args[j]? = some v → Value.okWide Try.prog W .any base t v := hval0
  have hW' := hW
  obtain ⟨p, q, hA0, hV, rfl, hfz, hnd⟩ := hW
  have hA : DataW.TrodAll enc Try.prog W 0 (fun _ => true) true Try.f13.params.toList args.toList ds p := hA0
  rw [Try.params13] at hA hval
  obtain ⟨v0, d0, rfl, rfl, h0⟩ := trodAll_one hA
  obtain ⟨s0, rfl, hs0⟩ := string_open_ (hval 0 9 v0 rfl rfl) h0
  clear hA0 hval0
  refine (packOne_calls s0 hs0).mono fun e W' ⟨he, hb⟩ => ⟨_, he, law_post hW' hb rfl (by rfl) (by rfl) (by rw [Try.params13]; exact params_read (by as_aux_lemma => kernel_rfl)) rfl⟩

theorem packOne_joined : joinedFacts Try.prog 13 Try.f13 Rows.packOneSpec Rows.packOneRow = true :=
  joined_of (by as_aux_lemma => kernel_rfl) (by as_aux_lemma => kernel_rfl) (by as_aux_lemma => kernel_rfl) (by as_aux_lemma => kernel_rfl) (by as_aux_lemma => kernel_rfl) (by as_aux_lemma => kernel_rfl)
    may_enter lifts_final rfl make_cut rfl (by as_aux_lemma => kernel_rfl)
theorem packOne_holds : Rows.PackOneSaid :=
  OpenClaim.holds_of_wide 13 Try.f13 rfl rfl rfl rfl rfl rfl rfl ⟨rfl, rfl, rfl, rfl, rfl⟩ rfl rfl rfl rfl rfl (by as_aux_lemma => kernel_rfl) Try.func13 packOne_joined
    (of_decide_eq_true (by as_aux_lemma => kernel_rfl)) (by unfold Func.isWrapper; first | (rw [if_pos (by decide +kernel)]; kernel_rfl) | (rw [if_neg (by decide +kernel)]; exact ⟨rfl, rfl⟩))
    (fun os started H enc _ => packOne_lifted os started H enc)
#print axioms packOne_holds
end Go.Proofs.Ytcgnalpcbcpmkaa
