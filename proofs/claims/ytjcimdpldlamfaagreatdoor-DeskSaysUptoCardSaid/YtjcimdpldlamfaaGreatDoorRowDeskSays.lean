/- The law DeskSays holds, its second form: for every input of bulk at most 1048576 it answers true, and its arguments stay; the tables that it reads are tied to the program's text. -/
import Derived.Deep.DeepHandedRow
import Derived.Test.YtjcimdpldlamfaaGreatDoorBde64ebb94f9
namespace Go.Proofs.YtjcimdpldlamfaaGreatDoor
open Go.ChangeShapes Go.WideShapes Go.ChangeAt Go.RowKit

theorem deskSays_reads (os : Os) {H : Type} (enc : TypeId × Value → H) : DataW.whole enc Tryz.prog ((World.laidAll Tryz.prog os Rows.deskSaysUptoRow.laid).forCall (fun _ _ => 0) ⟨#[], #[.string ByteArray.empty], []⟩).memory Tryz.f5.params.toList Rows.deskSaysSpec.vars false #[.string ByteArray.empty].toList 8 = some ([.lit (.string [])], [], []) := by as_aux_lemma => kernel_rfl
set_option maxRecDepth 100000 in
theorem deskSays_lifted (os : Os) (started : os.Started) (H : Type) (enc : TypeId × Value → H) (F : Stop.Interp) :
  ReturnsInHanded {} Tryz.checked os 5 .any ((Rows.OpenSpec.upto Rows.deskSaysSpec).preRow enc Tryz.prog Tryz.f5 Rows.deskSaysUptoRow.domain false Rows.deskSaysUptoRow.laid)
   (((Rows.OpenSpec.upto Rows.deskSaysSpec).at F).post enc Tryz.prog Tryz.f5 false true false false) := by
 have hok : Input.okWideB Tryz.prog ((World.laidAll Tryz.prog os Rows.deskSaysUptoRow.laid).forCall (fun _ _ => 0) ⟨#[], #[.string ByteArray.empty], []⟩) 5 ⟨#[], #[.string ByteArray.empty], []⟩ = true := (by as_aux_lemma => kernel_rfl)
 refine returnsInHanded_of_row (C := Tryz.checked) (s := Rows.OpenSpec.upto Rows.deskSaysSpec) Tryz.own started (by as_aux_lemma => kernel_rfl) Tryz.func5
  ⟨World.laidAll Tryz.prog os Rows.deskSaysUptoRow.laid, fun _ _ => 0, ⟨#[], #[.string ByteArray.empty], []⟩, World.laidAll_os _ _ _, World.shaped_of_ZipB (by as_aux_lemma => kernel_rfl) (by as_aux_lemma => kernel_rfl), (Input.okWide_of_okWideB (base := 0) hok).1, (Input.okWide_of_okWideB hok).2,
   OpenSpec.preRow_of_cond 8 (deskSays_reads os enc) (by as_aux_lemma => kernel_rfl) (fun k hk => by cases hk; as_aux_lemma => kernel_rfl) (by as_aux_lemma => kernel_rfl)
    (by rw [MakeChecks.laidMetH_plain _ _ _ (by as_aux_lemma => kernel_rfl)]; exact laidMet_laidAll _ (by as_aux_lemma => kernel_rfl) (by as_aux_lemma => kernel_rfl)),
   by simp only [Assume.holds]; exact ⟨by simp, by simp, fun _ => Modest.zero, by simp, by simp⟩⟩ ?_
 intro W base args ds gs before hval0 hW _ hcond _ hL0 hsh _
 have hval : ∀ (j : Nat) t v, Tryz.f5.params[j]? = some t → args[j]? = some v → Value.okWide Tryz.prog W .any base t v := hval0
 have hbk : Rows.uptoSmall H (ds ++ gs) = true := hcond _ rfl
 have hL : laidMetH Tryz.prog Rows.deskSaysUptoRow.laid W := hL0
 rw [MakeChecks.laidMetH_plain _ _ _ (by as_aux_lemma => kernel_rfl)] at hL
 have hT : ITab W := tab_of (laidMet.tail (laidMet.tail hL))
 have hW' := hW
 obtain ⟨p, q, hA0, hV, rfl, hfz, hnd⟩ := hW
 have hA : DataW.TrodAll enc Tryz.prog W 0 (fun _ => true) true Tryz.f5.params.toList args.toList ds p := hA0
 rw [Tryz.params5] at hA hval
 obtain ⟨v0, d0, rfl, rfl, h0⟩ := trodAll_one hA
 obtain ⟨s0, rfl, rfl⟩ := string_sized (hval 0 9 v0 rfl rfl) h0
 obtain ⟨rfl, rfl⟩ := trodVars_none hV
 have hb0 : s0.data.toList.length ≤ 1048576 := by
  have h9 := of_decide_eq_true hbk
  simp only [AR, Rows.uptoBulkAll, Rows.uptoBulk] at h9
  omega
 clear hA0 hval0
 have hc := deskSays_calls s0.data.toList W (by omega) hT (maxLen_of hsh)
 rw [bs_of] at hc
 refine hc.mono fun e W' ⟨he, hb⟩ => ⟨_, he, law_post (s := Rows.deskSaysSpec) hW' hb rfl (by rfl) (by rfl) (by rw [Tryz.params5]; exact params_read (by as_aux_lemma => kernel_rfl)) rfl⟩

set_option maxHeartbeats 8000000 in
theorem deskSays_joined : joinedFacts Tryz.prog 5 Tryz.f5 Rows.deskSaysSpec Rows.deskSaysUptoRow = true :=
 joined_of (by as_aux_lemma => kernel_rfl) (by as_aux_lemma => kernel_rfl) (by as_aux_lemma => kernel_rfl) (by as_aux_lemma => kernel_rfl) (by as_aux_lemma => kernel_rfl) (by as_aux_lemma => kernel_rfl)
  may_enter lifts_final rfl make_cut rfl (by as_aux_lemma => kernel_rfl)
set_option maxRecDepth 100000 in
theorem deskSays_row : Rows.DeskSaysUptoSaid :=
 OpenClaim.holds_of_cond 5 Tryz.f5 rfl rfl rfl rfl rfl rfl rfl ⟨rfl, rfl, rfl, rfl, rfl⟩ rfl rfl rfl rfl rfl (by as_aux_lemma => kernel_rfl) Tryz.func5 deskSays_joined
  (of_decide_eq_true (by as_aux_lemma => kernel_rfl)) (by unfold Func.isWrapper; first | (rw [Aq (by decide +kernel)]; kernel_rfl) | (rw [Au (by decide +kernel)]; exact ⟨rfl, rfl⟩))
  (fun os started H enc _ F => by rw [OpenClaim.pre_eq_preRow]; exact deskSays_lifted os started H enc F)
theorem deskSays_named : Tryz.prog.funcNamed Rows.deskSaysUptoRow.func = some 5 := (by as_aux_lemma => kernel_rfl)
theorem deskSays_stand : ([9].all fun u => !Tryz.prog.wantsStandIn u) = true := (by as_aux_lemma => kernel_rfl)
theorem deskSays_holds : Rows.DeskSaysUptoCardSaid :=
 Claim7.holds_tied_plain_at .later [] Rows.deskSaysUptoCard.laidKinds true Rows.deskSaysUptoCard.stood.harness false
  deskSays_row (fun _ h => by cases h) (by as_aux_lemma => kernel_rfl) (fun _ h => by cases h) deskSaysUpto_row_tie rfl ⟨rfl, rfl⟩ (by as_aux_lemma => kernel_rfl) rfl
  (fun f fn hf hfn => by
   obtain rfl : f = 5 := AB (deskSays_named.symm.trans hf) |>.symm
   obtain rfl : fn = Tryz.f5 := (AB (Tryz.func5.symm.trans hfn)).symm
   exact ⟨(by as_aux_lemma => kernel_rfl), fun j t ht => by
    rw [Tryz.params5] at ht
    have hm : t ∈ [9] := by simpa using Array.mem_of_getElem? ht
    exact (show Tryz.prog.wantsStandIn t = false by simpa using List.all_eq_true.1 deskSays_stand t hm)⟩)
  (by as_aux_lemma => kernel_rfl)
#print axioms deskSays_holds
end Go.Proofs.YtjcimdpldlamfaaGreatDoor
