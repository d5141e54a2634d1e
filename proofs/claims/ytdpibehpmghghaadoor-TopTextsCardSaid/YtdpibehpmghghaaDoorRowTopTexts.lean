/- The law TopTexts holds: for every input it answers true, and its arguments stay; the tables that it reads are tied to the program's text; no condition. -/
import Derived.Test.YtdpibehpmghghaaDoorBdf0a653a3c9
import Derived.Test.YtdpibehpmghghaaDoorBd116ff3bb84
import Derived.Test.YtdpibehpmghghaaDoorBd90430eef91
import Derived.Test.YtdpibehpmghghaaDoorBd4483cfd9d4
import Derived.Test.YtdpibehpmghghaaDoorBd8f33bed590
namespace Go.Proofs.YtdpibehpmghghaaDoor
open Go.ChangeShapes Go.WideShapes Go.ChangeAt Go.RowKit

set_option maxRecDepth 100000 in
theorem topTexts_lifted (os : Os) (started : os.Started) (H : Type) (enc : TypeId × Value → H) :
    ReturnsInHanded {} Tryd.checked os 6 .any (fun w args => (Rows.topTextsSpec.pre enc Tryd.prog Tryd.f6 [] false w args ∧ laidMetH Tryd.prog Rows.topTextsRow.laid w) ∧ sizedMet enc Tryd.prog Tryd.f6 (OpenSpec.ofChange Rows.topTextsSpec) false w args)
      (Rows.topTextsSpec.post enc Tryd.prog Tryd.f6 false true false false) := by
  refine returnsInHanded_and_shaped (C := Tryd.checked) (X := fun w _ => laidMetH Tryd.prog Rows.topTextsRow.laid w) (fun _ _ _ hh h => h.of_heap hh) Tryd.own started (by as_aux_lemma => kernel_rfl) Tryd.func6
    (ChangeSpec.witness_shaped (enc := enc) (C := Tryd.checked) (os := os) (X := fun w _ => laidMetH Tryd.prog Rows.topTextsRow.laid w) false (World.laidAll Tryd.prog os Rows.topTextsRow.laid) #[.agg #[.int .i64 0, .slice none 0 0, .slice none 0 0], .int .i64 0, .int .i64 0] 8 (World.laidAll_os _ _ _) (World.shaped_of_ZipB (by as_aux_lemma => kernel_rfl) (by as_aux_lemma => kernel_rfl)) (by as_aux_lemma => kernel_rfl) (by as_aux_lemma => kernel_rfl) (by as_aux_lemma => kernel_rfl)
      (by rw [MakeChecks.laidMetH_plain _ _ _ (by as_aux_lemma => kernel_rfl)]; exact laidMet_laidAll _ (by as_aux_lemma => kernel_rfl) (by as_aux_lemma => kernel_rfl))) ?_
  intro W base args ds gs before hval0 hW _ _ hL0 hsh _
  have hval : ∀ (j : Nat) t v, Tryd.f6.params[j]? = some t → args[j]? = some v → Value.okWide Tryd.prog W .any base t v := hval0
  have hL : laidMetH Tryd.prog Rows.topTextsRow.laid W := hL0
  rw [MakeChecks.laidMetH_plain _ _ _ (by as_aux_lemma => kernel_rfl)] at hL
  have hT : ITab W := tab_of (laidMet.tail (laidMet.tail hL))
  have hW' := hW
  obtain ⟨p, q, hA0, hV, rfl, hfz, hnd⟩ := hW
  have hA : DataW.TrodAll enc Tryd.prog W 0 (fun _ => true) true Tryd.f6.params.toList args.toList ds p := hA0
  rw [Tryd.params6] at hA hval
  obtain ⟨v0, v1, v2, d0, d1, d2, p0, p1, p2, rfl, rfl, rfl, h0, h1, h2⟩ := trodAll_three hA
  obtain ⟨A0, c0, B0, k0, g0, rfl, hG0⟩ := graph_open (hval 0 25 v0 rfl rfl) h0
  obtain ⟨n1, rfl, hn1⟩ := int_open (hval 1 3 v1 rfl rfl) h1
  obtain ⟨n2, rfl, hn2⟩ := int_open (hval 2 3 v2 rfl rfl) h2
  clear hA0 hval0
  have hc := topTexts_calls A0 B0 c0 k0 g0 hG0 n1 n2 hT (maxLen_of hsh)
  refine hc.mono fun e W' ⟨he, hb⟩ => ⟨_, he, law_post hW' hb rfl (by rfl) (by rfl) (by rw [Tryd.params6]; exact params_read (by as_aux_lemma => kernel_rfl)) rfl⟩

set_option maxHeartbeats 8000000 in
theorem topTexts_joined : joinedFacts Tryd.prog 6 Tryd.f6 Rows.topTextsSpec Rows.topTextsRow = true :=
  joined_of (by as_aux_lemma => kernel_rfl) (by as_aux_lemma => kernel_rfl) (by as_aux_lemma => kernel_rfl) (by as_aux_lemma => kernel_rfl) (by as_aux_lemma => kernel_rfl) (by as_aux_lemma => kernel_rfl)
    may_enter lifts_final rfl make_cut rfl (by as_aux_lemma => kernel_rfl)
theorem topTexts_row : Rows.TopTextsSaid :=
  OpenClaim.holds_of_wide 6 Tryd.f6 rfl rfl rfl rfl rfl rfl rfl ⟨rfl, rfl, rfl, rfl, rfl⟩ rfl rfl rfl rfl rfl (by as_aux_lemma => kernel_rfl) Tryd.func6 topTexts_joined
    (of_decide_eq_true (by as_aux_lemma => kernel_rfl)) (by unfold Func.isWrapper; first | (rw [if_pos (by decide +kernel)]; kernel_rfl) | (rw [if_neg (by decide +kernel)]; exact ⟨rfl, rfl⟩))
    (fun os started H enc _ => topTexts_lifted os started H enc)
theorem topTexts_named : Tryd.prog.funcNamed Rows.topTextsRow.func = some 6 := by as_aux_lemma => kernel_rfl
theorem topTexts_stand : ([25, 3].all fun u => !Tryd.prog.wantsStandIn u) = true := by as_aux_lemma => kernel_rfl
theorem topTexts_holds : Rows.TopTextsCardSaid :=
  Claim7.holds_tied_plain_at .later [] Rows.topTextsCard.laidKinds true Rows.topTextsCard.stood.harness false
    topTexts_row (fun _ h => by cases h) (by as_aux_lemma => kernel_rfl) (fun _ h => by cases h) topTexts_row_tie rfl ⟨rfl, rfl⟩ (by as_aux_lemma => kernel_rfl) rfl
    (fun f fn hf hfn => by
      obtain rfl : f = 6 := Option.some.inj (topTexts_named.symm.trans hf) |>.symm
      obtain rfl : fn = Tryd.f6 := (Option.some.inj (Tryd.func6.symm.trans hfn)).symm
      exact ⟨by as_aux_lemma => kernel_rfl, fun j t ht => by
        rw [Tryd.params6] at ht
        have hm : t ∈ [25, 3] := by simpa using Array.mem_of_getElem? ht
        exact (show Tryd.prog.wantsStandIn t = false by simpa using List.all_eq_true.1 topTexts_stand t hm)⟩)
    (by as_aux_lemma => kernel_rfl)
#print axioms topTexts_holds
end Go.Proofs.YtdpibehpmghghaaDoor
