/- The law GraphBack holds: for every input it answers true, and its arguments stay; the tables that it reads are tied to the program's text; no condition. -/
import Derived.Test.YtdpibehpmghghaaDoorBdf0a653a3c9
import Derived.Test.YtdpibehpmghghaaDoorBd116ff3bb84
import Derived.Test.YtdpibehpmghghaaDoorBd751220f1da
import Derived.Test.YtdpibehpmghghaaDoorBdfc7f62b366
import Derived.Test.YtdpibehpmghghaaDoorBd8f33bed590
namespace Go.Proofs.YtdpibehpmghghaaDoor
open Go.ChangeShapes Go.WideShapes Go.ChangeAt Go.RowKit

set_option maxRecDepth 100000 in
theorem graphBack_lifted (os : Os) (started : os.Started) (H : Type) (enc : TypeId × Value → H) :
    ReturnsInHanded {} Tryd.checked os 5 .any (fun w args => (Rows.graphBackSpec.pre enc Tryd.prog Tryd.f5 [] false w args ∧ laidMetH Tryd.prog Rows.graphBackRow.laid w) ∧ sizedMet enc Tryd.prog Tryd.f5 (OpenSpec.ofChange Rows.graphBackSpec) false w args)
      (Rows.graphBackSpec.post enc Tryd.prog Tryd.f5 false true false false) := by
  refine returnsInHanded_and_shaped (C := Tryd.checked) (X := fun w _ => laidMetH Tryd.prog Rows.graphBackRow.laid w) (fun _ _ _ hh h => h.of_heap hh) Tryd.own started (by as_aux_lemma => kernel_rfl) Tryd.func5
    (ChangeSpec.witness_shaped (enc := enc) (C := Tryd.checked) (os := os) (X := fun w _ => laidMetH Tryd.prog Rows.graphBackRow.laid w) false (World.laidAll Tryd.prog os Rows.graphBackRow.laid) #[.agg #[.int .i64 0, .slice none 0 0, .slice none 0 0], .string ByteArray.empty] 8 (World.laidAll_os _ _ _) (World.shaped_of_ZipB (by as_aux_lemma => kernel_rfl) (by as_aux_lemma => kernel_rfl)) (by as_aux_lemma => kernel_rfl) (by as_aux_lemma => kernel_rfl) (by as_aux_lemma => kernel_rfl)
      (by rw [MakeChecks.laidMetH_plain _ _ _ (by as_aux_lemma => kernel_rfl)]; exact laidMet_laidAll _ (by as_aux_lemma => kernel_rfl) (by as_aux_lemma => kernel_rfl))) ?_
  intro W base args ds gs before hval0 hW _ _ hL0 hsh _
  have hval : ∀ (j : Nat) t v, Tryd.f5.params[j]? = some t → args[j]? = some v → Value.okWide Tryd.prog W .any base t v := hval0
  have hL : laidMetH Tryd.prog Rows.graphBackRow.laid W := hL0
  rw [MakeChecks.laidMetH_plain _ _ _ (by as_aux_lemma => kernel_rfl)] at hL
  have hT : ITab W := tab_of (laidMet.tail (laidMet.tail hL))
  have hW' := hW
  obtain ⟨p, q, hA0, hV, rfl, hfz, hnd⟩ := hW
  have hA : DataW.TrodAll enc Tryd.prog W 0 (fun _ => true) true Tryd.f5.params.toList args.toList ds p := hA0
  rw [Tryd.params5] at hA hval
  obtain ⟨v0, v1, d0, d1, p0, p1, rfl, rfl, rfl, h0, h1⟩ := trodAll_two hA
  obtain ⟨A0, c0, B0, k0, g0, rfl, hG0⟩ := graph_open (hval 0 25 v0 rfl rfl) h0
  obtain ⟨s1, rfl, hs1⟩ := string_open_ (hval 1 9 v1 rfl rfl) h1
  clear hA0 hval0
  have hc := graphBack_calls A0 B0 c0 k0 g0 hG0 s1.data.toList (by have h : s1.size ≤ 9223372036854775807 := hs1; simpa using h) hT (maxLen_of hsh)
  rw [bs_of] at hc
  refine hc.mono fun e W' ⟨he, hb⟩ => ⟨_, he, law_post hW' hb rfl (by rfl) (by rfl) (by rw [Tryd.params5]; exact params_read (by as_aux_lemma => kernel_rfl)) rfl⟩

set_option maxHeartbeats 8000000 in
theorem graphBack_joined : joinedFacts Tryd.prog 5 Tryd.f5 Rows.graphBackSpec Rows.graphBackRow = true :=
  joined_of (by as_aux_lemma => kernel_rfl) (by as_aux_lemma => kernel_rfl) (by as_aux_lemma => kernel_rfl) (by as_aux_lemma => kernel_rfl) (by as_aux_lemma => kernel_rfl) (by as_aux_lemma => kernel_rfl)
    may_enter lifts_final rfl make_cut rfl (by as_aux_lemma => kernel_rfl)
theorem graphBack_row : Rows.GraphBackSaid :=
  OpenClaim.holds_of_wide 5 Tryd.f5 rfl rfl rfl rfl rfl rfl rfl ⟨rfl, rfl, rfl, rfl, rfl⟩ rfl rfl rfl rfl rfl (by as_aux_lemma => kernel_rfl) Tryd.func5 graphBack_joined
    (of_decide_eq_true (by as_aux_lemma => kernel_rfl)) (by unfold Func.isWrapper; first | (rw [if_pos (by decide +kernel)]; kernel_rfl) | (rw [if_neg (by decide +kernel)]; exact ⟨rfl, rfl⟩))
    (fun os started H enc _ => graphBack_lifted os started H enc)
theorem graphBack_named : Tryd.prog.funcNamed Rows.graphBackRow.func = some 5 := by as_aux_lemma => kernel_rfl
theorem graphBack_stand : ([25, 9].all fun u => !Tryd.prog.wantsStandIn u) = true := by as_aux_lemma => kernel_rfl
theorem graphBack_holds : Rows.GraphBackCardSaid :=
  Claim7.holds_tied_plain_at .later [] Rows.graphBackCard.laidKinds true Rows.graphBackCard.stood.harness false
    graphBack_row (fun _ h => by cases h) (by as_aux_lemma => kernel_rfl) (fun _ h => by cases h) graphBack_row_tie rfl ⟨rfl, rfl⟩ (by as_aux_lemma => kernel_rfl) rfl
    (fun f fn hf hfn => by
      obtain rfl : f = 5 := Option.some.inj (graphBack_named.symm.trans hf) |>.symm
      obtain rfl : fn = Tryd.f5 := (Option.some.inj (Tryd.func5.symm.trans hfn)).symm
      exact ⟨by as_aux_lemma => kernel_rfl, fun j t ht => by
        rw [Tryd.params5] at ht
        have hm : t ∈ [25, 9] := by simpa using Array.mem_of_getElem? ht
        exact (show Tryd.prog.wantsStandIn t = false by simpa using List.all_eq_true.1 graphBack_stand t hm)⟩)
    (by as_aux_lemma => kernel_rfl)
#print axioms graphBack_holds
end Go.Proofs.YtdpibehpmghghaaDoor
