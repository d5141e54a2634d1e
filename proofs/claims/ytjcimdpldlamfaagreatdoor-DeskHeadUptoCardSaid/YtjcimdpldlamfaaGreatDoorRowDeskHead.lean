/- The law DeskHead holds, its second form: for every input of bulk at most 1048576 it answers true, and its arguments stay; the tables that it reads are tied to the program's text. -/
import Derived.Deep.DeepHandedRow
import Derived.Test.YtjcimdpldlamfaaGreatDoorBd002cafd2b4
import Derived.Test.YtjcimdpldlamfaaGreatDoorBd2f7b3eaff4
import Derived.Test.YtjcimdpldlamfaaGreatDoorBd75de7314ea
import Derived.Test.YtjcimdpldlamfaaGreatDoorBdd80fced6e0
namespace Go.Proofs.YtjcimdpldlamfaaGreatDoor
open Go.ChangeShapes Go.WideShapes Go.ChangeAt Go.RowKit

theorem deskHead_reads (os : Os) {H : Type} (enc : TypeId × Value → H) : DataW.whole enc Tryz.prog ((World.laidAll Tryz.prog os Rows.deskHeadUptoRow.laid).forCall (fun _ _ => 0) ⟨#[], #[.string ByteArray.empty, .string ByteArray.empty], []⟩).memory Tryz.f4.params.toList Rows.deskHeadSpec.vars false #[.string ByteArray.empty, .string ByteArray.empty].toList 8 = some ([.lit (.string []), .lit (.string [])], [], []) := by as_aux_lemma => kernel_rfl
set_option maxRecDepth 100000 in
theorem deskHead_lifted (os : Os) (started : os.Started) (H : Type) (enc : TypeId × Value → H) (F : Stop.Interp) :
  ReturnsInHanded {} Tryz.checked os 4 .any ((Rows.OpenSpec.upto Rows.deskHeadSpec).preRow enc Tryz.prog Tryz.f4 Rows.deskHeadUptoRow.domain false Rows.deskHeadUptoRow.laid)
   (((Rows.OpenSpec.upto Rows.deskHeadSpec).at F).post enc Tryz.prog Tryz.f4 false true false false) := by
 have hok : Input.okWideB Tryz.prog ((World.laidAll Tryz.prog os Rows.deskHeadUptoRow.laid).forCall (fun _ _ => 0) ⟨#[], #[.string ByteArray.empty, .string ByteArray.empty], []⟩) 4 ⟨#[], #[.string ByteArray.empty, .string ByteArray.empty], []⟩ = true := (by as_aux_lemma => kernel_rfl)
 refine returnsInHanded_of_row (C := Tryz.checked) (s := Rows.OpenSpec.upto Rows.deskHeadSpec) Tryz.own started (by as_aux_lemma => kernel_rfl) Tryz.func4
  ⟨World.laidAll Tryz.prog os Rows.deskHeadUptoRow.laid, fun _ _ => 0, ⟨#[], #[.string ByteArray.empty, .string ByteArray.empty], []⟩, World.laidAll_os _ _ _, World.shaped_of_ZipB (by as_aux_lemma => kernel_rfl) (by as_aux_lemma => kernel_rfl), (Input.okWide_of_okWideB (base := 0) hok).1, (Input.okWide_of_okWideB hok).2,
   OpenSpec.preRow_of_cond 8 (deskHead_reads os enc) (by as_aux_lemma => kernel_rfl) (fun k hk => by cases hk; as_aux_lemma => kernel_rfl) (by as_aux_lemma => kernel_rfl)
    (by rw [MakeChecks.laidMetH_plain _ _ _ (by as_aux_lemma => kernel_rfl)]; exact laidMet_laidAll _ (by as_aux_lemma => kernel_rfl) (by as_aux_lemma => kernel_rfl)),
   by simp only [Assume.holds]; exact ⟨by simp, by simp, fun _ => Modest.zero, by simp, by simp⟩⟩ ?_
 intro W base args ds gs before hval0 hW _ hcond _ hL0 hsh _
 have hval : ∀ (j : Nat) t v, Tryz.f4.params[j]? = some t → args[j]? = some v → Value.okWide Tryz.prog W .any base t v := hval0
 have hbk : Rows.uptoSmall H (ds ++ gs) = true := hcond _ rfl
 have hL : laidMetH Tryz.prog Rows.deskHeadUptoRow.laid W := hL0
 rw [MakeChecks.laidMetH_plain _ _ _ (by as_aux_lemma => kernel_rfl)] at hL
 have hT : ITab W := tab_of (laidMet.tail (laidMet.tail hL))
 have hW' := hW
 obtain ⟨p, q, hA0, hV, rfl, hfz, hnd⟩ := hW
 have hA : DataW.TrodAll enc Tryz.prog W 0 (fun _ => true) true Tryz.f4.params.toList args.toList ds p := hA0
 rw [Tryz.params4] at hA hval
 obtain ⟨v0, v1, d0, d1, p0, p1, rfl, rfl, rfl, h0, h1⟩ := trodAll_two hA
 obtain ⟨s0, rfl, rfl⟩ := string_sized (hval 0 9 v0 rfl rfl) h0
 obtain ⟨s1, rfl, rfl⟩ := string_sized (hval 1 9 v1 rfl rfl) h1
 obtain ⟨rfl, rfl⟩ := trodVars_none hV
 have hb0 : s0.data.toList.length + s1.data.toList.length ≤ 1048576 := by
  have h9 := of_decide_eq_true hbk
  simp only [List.cons_append, List.nil_append, List.append_nil, Rows.uptoBulkAll, Rows.uptoBulk] at h9
  omega
 clear hA0 hval0
 have hc := deskHead_calls s0.data.toList s1.data.toList W (by omega) hT (maxLen_of hsh)
 rw [bs_of, bs_of] at hc
 refine hc.mono fun e W' ⟨he, hb⟩ => ⟨_, he, law_post (s := Rows.deskHeadSpec) hW' hb rfl (by rfl) (by rfl) (by rw [Tryz.params4]; exact params_read (by as_aux_lemma => kernel_rfl)) rfl⟩

set_option maxHeartbeats 8000000 in
theorem deskHead_joined : joinedFacts Tryz.prog 4 Tryz.f4 Rows.deskHeadSpec Rows.deskHeadUptoRow = true :=
 joined_of (by as_aux_lemma => kernel_rfl) (by as_aux_lemma => kernel_rfl) (by as_aux_lemma => kernel_rfl) (by as_aux_lemma => kernel_rfl) (by as_aux_lemma => kernel_rfl) (by as_aux_lemma => kernel_rfl)
  may_enter lifts_final rfl make_cut rfl (by as_aux_lemma => kernel_rfl)
set_option maxRecDepth 100000 in
theorem deskHead_row : Rows.DeskHeadUptoSaid :=
 OpenClaim.holds_of_cond 4 Tryz.f4 rfl rfl rfl rfl rfl rfl rfl ⟨rfl, rfl, rfl, rfl, rfl⟩ rfl rfl rfl rfl rfl (by as_aux_lemma => kernel_rfl) Tryz.func4 deskHead_joined
  (of_decide_eq_true (by as_aux_lemma => kernel_rfl)) (by unfold Func.isWrapper; first | (rw [if_pos (by decide +kernel)]; kernel_rfl) | (rw [if_neg (by decide +kernel)]; exact ⟨rfl, rfl⟩))
  (fun os started H enc _ F => by rw [OpenClaim.pre_eq_preRow]; exact deskHead_lifted os started H enc F)
theorem deskHead_named : Tryz.prog.funcNamed Rows.deskHeadUptoRow.func = some 4 := (by as_aux_lemma => kernel_rfl)
theorem deskHead_stand : ([9].all fun u => !Tryz.prog.wantsStandIn u) = true := (by as_aux_lemma => kernel_rfl)
theorem deskHead_holds : Rows.DeskHeadUptoCardSaid :=
 Claim7.holds_tied_plain_at .later [] Rows.deskHeadUptoCard.laidKinds true Rows.deskHeadUptoCard.stood.harness false
  deskHead_row (fun _ h => by cases h) (by as_aux_lemma => kernel_rfl) (fun _ h => by cases h) deskHeadUpto_row_tie rfl ⟨rfl, rfl⟩ (by as_aux_lemma => kernel_rfl) rfl
  (fun f fn hf hfn => by
   obtain rfl : f = 4 := Option.some.inj (deskHead_named.symm.trans hf) |>.symm
   obtain rfl : fn = Tryz.f4 := (Option.some.inj (Tryz.func4.symm.trans hfn)).symm
   exact ⟨(by as_aux_lemma => kernel_rfl), fun j t ht => by
    rw [Tryz.params4] at ht
    have hm : t ∈ [9] := by simpa using Array.mem_of_getElem? ht
    exact (show Tryz.prog.wantsStandIn t = false by simpa using List.all_eq_true.1 deskHead_stand t hm)⟩)
  (by as_aux_lemma => kernel_rfl)
#print axioms deskHead_holds
end Go.Proofs.YtjcimdpldlamfaaGreatDoor
