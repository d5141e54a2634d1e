/- One text: DeskRun. -/
import Derived.Test.YtjcimdpldlamfaaGreatDoorBd1aa46607c4
import Derived.Test.YtjcimdpldlamfaaGreatDoorBd5dcf06900f
import Derived.Test.YtjcimdpldlamfaaGreatDoorBd34554b8fb8
/- The walk of desk.Run (printed by gendesk7.py). -/
namespace Go.Proofs.YtjcimdpldlamfaaGreatDoor
open Go.RowKit

set_option maxRecDepth 100000 in
set_option maxHeartbeats 16000000 in
theorem desk_any (s : List UInt8) (w : World) (hs : s.length ≤ 2000000) (ht : ITab w) (hm : MaxL w) :
  Calls Tryz.prog 6 #[.string (bs s)] w fun e w' => e = .returned (.string (bs (deskT s))) ∧ (deskT s).length ≤ 30000000 ∧ Below w.heap.size w w' := by
 obtain ⟨i0, hi, hz0, hz1, hz2⟩ := info_str2
 have HT := Lib.hid ht; have HM := Lib.hid hm
 have hsp := splitAfter_any 10 s w (by omega) hm
 have hpl := pieces_count 10 s
 have hp1 : 0 < (piecesB 10 s).length := List.length_pos_iff.2 (pieces_ne 10 s)
 have HAL : Hid ((afterP 10 (piecesB 10 s)).length = (piecesB 10 s).length) := Lib.hid (afterP_len 10 _)
 obtain ⟨n, hn⟩ : ∃ n, (piecesB 10 s).length = n := ⟨_, rfl⟩
 have HN := Lib.hid hn
 rw [hn] at hsp hpl hp1
 clear ht hm hn
 go_enter Tryz.func6, Tryz.ntmps6
 go_wp2_with fail
 refine hsp.mono ?_
 rintro e w1 ⟨rfl, hA, hb1⟩
 have hal : (afterP 10 (piecesB 10 s)).length = n := HAL.out.trans HN.out
 obtain ⟨xl, hxl⟩ := get_lt (show n - 1 < (afterP 10 (piecesB 10 s)).length by omega)
 obtain ⟨ba, oa, he, hba, x0⟩ := hA.get hxl
 simp only [Option.some.injEq, Addr.mk.injEq, and_true] at he
 obtain ⟨rfl, rfl⟩ := he
 rw [Nat.zero_add] at x0
 have hlast : (afterP 10 (piecesB 10 s)).getLast? = some xl := by rw [List.getLast?_eq_getElem?, hal]; exact hxl
 have hn1 : IntKind.i64.wrap ((n : Int) - 1) = ((n - 1 : Nat) : Int) := by rw [IntWalk.i64_in _ (by omega)]; omega
 have HA := Lib.hid hA
 clear hsp hA hxl
 by_cases hx : xl = []
 case pos =>
  have HLA : Hid (linesA s = (afterP 10 (piecesB 10 s)).dropLast) := Lib.hid (by unfold linesA; rw [if_pos (by rw [hlast, hx])])
  have HAL2 : Hid (StrsAt w1 (some ⟨w.heap.size, 0, none⟩) n (linesA s)) := Lib.hid (by rw [HLA.out, List.dropLast_eq_take]; exact HA.out.take _)
  have HLL : Hid ((linesA s).length = n - 1) := Lib.hid (by rw [HLA.out, List.length_dropLast, hal])
  subst hx
  clear hlast hal
  go_upto_region 4 with fail
  obtain ⟨m, hm⟩ : ∃ m, n - 1 = m := ⟨_, rfl⟩
  have hmn : m ≤ n := by omega
  rw [hm] at HLL hn1 x0 ⊢
  clear hm hn1 x0
  have HLB : Hid ((linesB s).length = m) := Lib.hid (by rw [← linesA_len, HLL.out])
  by_cases hbig : 65536 < s.length ∨ 200 < m
  case pos =>
   have HQ : Hid (deskT s = err2T) := Lib.hid (by unfold deskT; rw [HLB.out, if_pos hbig])
   by_cases hb9 : 65536 < s.length
   ·have hd1 : decide ((s.length : Int) > 65536) = true := by simp; omega
    clear hbig hb9
    go_wp2_with fail
    go_ret
    exact ⟨by rw [HQ.out]; rfl, by rw [HQ.out]; decide, hb1⟩
   ·have hd1 : decide ((s.length : Int) > 65536) = false := by simp; omega
    have hd2 : decide ((m : Int) > 200) = true := by simp; omega
    clear hbig hb9
    go_wp2_with fail
    go_ret
    exact ⟨by rw [HQ.out]; rfl, by rw [HQ.out]; decide, hb1⟩
  case neg =>
   have HQ : Hid (deskT s = (linesRun (linesB s)).2) := Lib.hid (by unfold deskT; rw [HLB.out, if_neg hbig])
   have hd1 : decide ((s.length : Int) > 65536) = false := by simp; omega
   have hd2 : decide ((m : Int) > 200) = false := by simp; omega
   have hs6 : s.length ≤ 65536 := by omega
   have hm2 : m ≤ 200 := by omega
   clear hbig
   go_wp2_with fail
   have hDB := (Blk.new w1 31 #[.string (bs [])]).alloc (Obj.cells #[.pointer none, .slice none 0 0] 35)
   have hBB : BAt (w1.heap.size + 1) (w1.heap.size + 1) [] ((w1.alloc (Obj.cells #[.string (bs [])] 31)).alloc (Obj.cells #[.pointer none, .slice none 0 0] 35)) := by
    have h := Lib.IsBuilderF.of (Lib.fresh_isBuilder 35 5 (w1.alloc (Obj.cells #[.string (bs [])] 31)))
    rw [show (w1.alloc (Obj.cells #[.string (bs [])] 31)).heap.size = w1.heap.size + 1 by simp] at h
    exact h
   have hb0 : Below w1.heap.size w1 ((w1.alloc (Obj.cells #[.string (bs [])] 31)).alloc (Obj.cells #[.pointer none, .slice none 0 0] 35)) := ext_alloc (ext_alloc (Below.refl _ _) _) _
   go_loopw [37] (fun v wr => ∃ (k : Nat) (tx out : List UInt8), v = .int .i64 k ∧ k ≤ m ∧ Hid (linesRun ((linesB s).take k) = (tx, out)) ∧ tx.length ≤ 8192 ∧ out.length ≤ k * 100001 ∧ Blk wr w1.heap.size 31 #[.string (bs tx)] ∧ BAt (w1.heap.size + 1) (w1.heap.size + 1) out wr ∧ Below w1.heap.size w1 wr) (fun v _ => m - (intOf v).toNat)
   case atStart => exact ⟨0, [], [], rfl, Nat.zero_le _, Lib.hid rfl, by simp, by simp, hDB, hBB, hb0⟩
   case round =>
    clear hDB hBB hb0
    obtain ⟨k, tx, out, rfl, hk, HR, htx, hout, hDB, hBB, hb⟩ := hrel
    by_cases hlt : k < m
    case neg =>
     obtain rfl : k = m := by omega
     have HF : Hid (deskT s = out) := Lib.hid (by
      have h1 := HR.out
      rw [List.take_of_length_le (by rw [HLB.out]; exact Nat.le_refl _)] at h1
      rw [HQ.out, h1])
     have HOL : Hid (out.length ≤ 30000000) := Lib.hid (by omega)
     have hz := BAt.lt hBB
     have hst := Txt.Builder_String_any_k (w1.heap.size + 1) (w1.heap.size + 1) out wr hBB (by omega)
     have HST := Lib.hid hst
     clear hst hDB hBB HR
     go_wp2_with fail
     refine HST.out.mono ?_
     rintro e w9 ⟨rfl, _, hb9, _⟩
     go_wp2_with fail
     go_ret
     exact ⟨by rw [HF.out]; rfl, by rw [HF.out]; exact HOL.out, ext_trans hb1 (hb.trans (hb9.mono (Nat.le_succ _)))⟩
    case pos =>
     obtain ⟨ws, rfl⟩ : ∃ x, x = wr := ⟨_, rfl⟩
     obtain ⟨x, hx⟩ := get_lt (show k < (linesA s).length by rw [HLL.out]; exact hlt)
     have hp := linesA_get hx
     have hx1 := linesA_size (List.mem_of_getElem? hx)
     have hx2 := trim_size x 10
     obtain ⟨ba2, oa2, he2, hba2, x9⟩ := HAL2.out.get hx
     simp only [Option.some.injEq, Addr.mk.injEq, and_true] at he2
     obtain ⟨rfl, rfl⟩ := he2
     rw [Nat.zero_add] at x9
     have x9 := (hb.cell (p := ⟨w.heap.size, k, none⟩) hba2).trans x9
     have hbw := ext_trans hb1 hb
     have HTRM := Lib.hid (trim_any 10 x ws (by omega))
     obtain ⟨p, hpe⟩ : ∃ p, Lib.trimSuffix x [10] = p := ⟨_, rfl⟩
     rw [hpe] at HTRM hp hx2
     have HSPL := Lib.hid (split_any 32 p ws (by omega) (HM.out.ext hbw))
     have HRN : Hid (linesRun ((linesB s).take (k + 1)) = lineStep (tx, out) p) := Lib.hid (by rw [linesRun_take hp, HR.out])
     have HPS : Hid (∀ q, q ∈ piecesB 32 p → q.length ≤ 65537) := Lib.hid fun q hq => by have := pieces_size 32 p q hq; omega
     have HPL : Hid (p.length ≤ 65537) := Lib.hid (by omega)
     have HPC : Hid ((piecesB 32 p).length ≤ 65538) := Lib.hid (by have := pieces_count 32 p; omega)
     have HDB := Lib.hid hDB; have HBB := Lib.hid hBB; have HBW := Lib.hid hbw; have HB := Lib.hid hb
     have HWD : Hid (wordsB p = (piecesB 32 p).filter fun p => decide (p ≠ [])) := Lib.hid rfl
     obtain ⟨ps, hps⟩ : ∃ ps, piecesB 32 p = ps := ⟨_, rfl⟩
     rw [hps] at HSPL HPS HPC HWD
     clear hx hp hpe hps hx1 hx2 hDB hBB HR hbw hb
     go_wp2_with fail
     refine HTRM.out.mono ?_
     rintro e w3 ⟨rfl, rfl⟩
     go_wp2_with fail
     refine HSPL.out.mono ?_
     rintro e w4 ⟨rfl, hSt, hb4⟩
     have HST := Lib.hid hSt
     have hpc := HPC.out
     clear hSt
     go_wp2_with fail
     go_loopw [8, 45] (fun u v wt => ∃ (j : Nat), v = .int .i64 j ∧ j ≤ ps.length ∧ Own strEnc 1 wt w4.heap.size 9 u ((ps.take j).filter fun p => decide (p ≠ [])) ∧ Below w4.heap.size w4 wt) (fun _ v _ => ps.length - (intOf v).toNat)
     case atStart => exact ⟨0, rfl, Nat.zero_le _, Own.nil, Below.refl _ _⟩
     case round =>
      obtain ⟨j, rfl, hj, hO, hb5⟩ := hrel
      obtain ⟨out2, ho⟩ : ∃ o, ((ps.take j).filter fun p => decide (p ≠ [])) = o := ⟨_, rfl⟩
      have hol : out2.length ≤ j := by rw [← ho]; exact Nat.le_trans (List.length_filter_le _ _) (by rw [List.length_take]; omega)
      rw [ho] at hO
      by_cases hjl : j < ps.length
      case pos =>
       obtain ⟨q, hq⟩ := get_lt hjl
       obtain ⟨bq, oq, heq, hbq, xq⟩ := HST.out.get hq
       simp only [Option.some.injEq, Addr.mk.injEq, and_true] at heq
       obtain ⟨rfl, rfl⟩ := heq
       rw [Nat.zero_add] at xq
       have xq : wr.cell? ⟨w3.heap.size, j, none⟩ = some (.string (bs q)) := (hb5.cell (p := ⟨w3.heap.size, j, none⟩) hbq).trans xq
       have hz5 := hb5.size
       have HWG := Lib.hid (words_get hq)
       rw [ho] at HWG
       clear hq ho
       by_cases hqe : q = []
       ·subst hqe
        rw [if_pos rfl, List.append_nil] at HWG
        go_wp2_with fail
        go_roundw
        case rel => exact ⟨j + 1, by go_num, by omega, by rw [HWG.out]; exact hO, hb5⟩
        case measure => simp [intOf]; omega
       ·rw [if_neg hqe] at HWG
        have hqn : (q != ([] : List UInt8)) = true := by simpa using hqe
        have hqm : q.isEmpty = false := by simpa using hqe
        clear hqe
        go_wp2_with (at_builtin; refine wpList_append_lie (enc := strEnc) rfl (.tmp 51) (.tmp 53) 23 rfl w4.heap.size 9 i0 _ 1 16 Tryz.underlying23 hi hz0 hz1 hz2 rfl (by decide) _ out2 q rfl hO _ rfl wr.heap.size rfl rfl rfl str_one (by omega) (by decide) hz5 ?_; intro gn cap w6 hown6 hbb hkp hgn)
        go_roundw
        case rel => exact ⟨j + 1, by go_num, by omega, by rw [HWG.out]; exact hown6, hb5.trans hbb⟩
        case measure => simp [intOf]; omega
      case neg =>
       obtain rfl : j = ps.length := by omega
       rw [List.take_length] at ho
       have HW2 : Hid (wordsB p = out2) := Lib.hid (by rw [HWD.out, ho])
       obtain ⟨Aw, cw, rfl, hSW⟩ := own_strs hO
       have HAT : Hid (0 < out2.length → ∃ g cs, Aw = some ⟨g, 0, none⟩ ∧ w4.heap.size ≤ g ∧ Blk wr g 9 cs) := Lib.hid (own_str_at hO)
       have hbo := ext_trans HB.out (ext_trans hb4 hb5)
       clear ho hO
       cases out2 with
       | nil =>
        go_wp2_with fail
        go_roundw
        case rel => exact ⟨k + 1, tx, out, by go_num, by omega, Lib.hid (by rw [HRN.out, step_none HW2.out]), htx, Nat.le_trans hout (Nat.mul_le_mul_right _ (Nat.le_succ k)), HDB.out.ext (ext_trans hb4 hb5), BAt.ext HBB.out (ext_trans hb4 hb5), hbo⟩
        case measure => simp [intOf]; omega
       | cons v vs =>
        have hvn : v ≠ [] := by
         have h9 : v ∈ wordsB p := by rw [HW2.out]; simp
         rw [HWD.out, List.mem_filter] at h9
         simpa using h9.2
        obtain ⟨b0, v', rfl⟩ := List.exists_cons_of_ne_nil hvn
        obtain ⟨bw, ow, rfl, hbw, xw⟩ := hSW.get (k := 0) (x := b0 :: v') rfl
        rw [Nat.add_zero] at xw
        by_cases h35 : b0 = 35
        ·subst h35
         clear hvn
         go_wp2_with fail
         go_roundw
         case rel => exact ⟨k + 1, tx, out, by go_num, by omega, Lib.hid (by rw [HRN.out, step_hash HW2.out rfl]), htx, Nat.le_trans hout (Nat.mul_le_mul_right _ (Nat.le_succ k)), HDB.out.ext (ext_trans hb4 hb5), BAt.ext HBB.out (ext_trans hb4 hb5), hbo⟩
         case measure => simp [intOf]; omega
        ·have hb35 : ((((bs (b0 :: v'))[0]'(by rw [bs_size]; simp)).toNat : Int) != 35) = true := by
          show ((b0.toNat : Int) != 35) = true
          simp only [bne_iff_ne, ne_eq]
          intro e
          exact h35 (UInt8.toNat_inj.1 (by show b0.toNat = 35; omega))
         have HSN : Hid (lineStep (tx, out) p = ((doT tx (b0 :: v') vs).1, out ++ ((doT tx (b0 :: v') vs).2 ++ [10]))) := Lib.hid (step_do HW2.out (by simpa using h35))
         have HSW := Lib.hid hSW
         clear hvn h35
         have hj0 := words_join p
         rw [HW2.out] at hj0
         have hj1 := joinB_cons_len 32 (b0 :: v') vs
         have hj2 := HPL.out
         have HVL : Hid (vs.length ≤ 70000 ∧ (joinB 32 vs).length ≤ 100000) := Lib.hid ⟨by
          have h := List.length_filter_le (fun p => decide (p ≠ [])) ps
          rw [← HWD.out, HW2.out, List.length_cons] at h
          have := HPC.out
          omega, by omega⟩
         have HVX : Hid (∀ x, x ∈ vs → x.length ≤ 70000) := Lib.hid fun x hx => by
          have h9 : x ∈ wordsB p := by rw [HW2.out]; simp [hx]
          rw [HWD.out, List.mem_filter] at h9
          have := HPS.out x h9.1
          omega
         obtain ⟨g9, cs9, he9, hg9, hB9⟩ := HAT.out (by simp)
         simp only [Option.some.injEq, Addr.mk.injEq, and_true] at he9
         obtain ⟨rfl, rfl⟩ := he9
         have hdl := HDB.out.lt
         have hz4 := hb4.size
         have hz5 := hb5.size
         have hbne : bw ≠ w1.heap.size := by omega
         have hbne2 : bw ≠ w1.heap.size + 1 := by have := BAt.lt HBB.out; omega
         have HB9 := Lib.hid hB9
         have HNE : Hid (bw ≠ w1.heap.size ∧ bw ≠ w1.heap.size + 1 ∧ w1.heap.size + 1 < wr.heap.size) := Lib.hid ⟨hbne, hbne2, by have := BAt.lt HBB.out; omega⟩
         have HDB5 := Lib.hid (HDB.out.ext (ext_trans hb4 hb5))
         have HBB5 := Lib.hid (BAt.ext HBB.out (ext_trans hb4 hb5))
         have HBO := Lib.hid hbo
         have HT5 := Lib.hid (HT.out.ext (ext_trans HBW.out (ext_trans hb4 hb5)))
         have HM5 := Lib.hid (HM.out.ext (ext_trans HBW.out (ext_trans hb4 hb5)))
         have HTX := Lib.hid htx; have HOUT := Lib.hid hout
         have HXW := Lib.hid xw
         obtain ⟨r, hr⟩ : ∃ r, doT tx (b0 :: v') vs = r := ⟨_, rfl⟩
         rw [hr] at HSN
         have HDO : Hid (∀ W : World, Below wr.heap.size wr W → ∀ (A2 : Option Addr) (c2 : Nat), StrsAt W A2 c2 vs → Calls Tryz.prog 16 #[.pointer (some ⟨w1.heap.size, 0, none⟩), .string (bs (b0 :: v')), .slice A2 vs.length c2] W (DoOut w1.heap.size r tx W)) := Lib.hid fun W h A2 c2 hS => by
          have h9 := do_say w1.heap.size c2 A2 tx (b0 :: v') vs W (HDB5.out.ext h) hS HVL.out.1 HVX.out HVL.out.2 HTX.out (HT5.out.ext h) (HM5.out.ext h)
          rwa [hr] at h9
         have hcat := fun h => cat_run r.2 [10] h
         have HCAT : Hid (r.2.length ≤ 100000 → ∀ W : World, (Op.stringOp .add (bs r.2) (bs [10])).run Tryz.prog W = .ok (.string (bs (r.2 ++ [10]))) W) := Lib.hid fun h W => hcat (by simp; omega) W
         obtain ⟨S1, hSS⟩ : ∃ S1 : World → Prop, Hid (S1 = fun w' => w'.cell? ⟨bw, 0, none⟩ = some (.string (bs (b0 :: v'))) ∧ True) := ⟨_, Lib.hid rfl⟩
         have HKS : Hid (∀ w', Blk w' bw 9 cs9 → S1 w') := Lib.hid fun w' h => by
          rw [hSS.out]
          exact ⟨(h.cell 0).trans ((hB9.cell 0).symm.trans HXW.out), trivial⟩
         have hd0 := below_drew (Below.refl wr.heap.size wr)
         have hS0 : S1 wr.drew := HKS.out _ (HB9.out.ext hd0)
         have HS2 : Hid (∀ W : World, Below wr.heap.size wr W → StrsAt W (some ⟨bw, 0 + 1, none⟩) (cw - 1) vs) := Lib.hid fun W h => (HSW.out.ext h).tail
         clear hj0 hj1 hj2 hB9 hr hcat hdl hz4 hz5 hbne hbne2 hbo htx hout hSW
         by_cases hc1 : 1 < cw
         case neg =>
          have hvs : vs = [] := by have h := HSW.out.lc; simp only [List.length_cons] at h; exact List.length_eq_zero_iff.1 (by omega)
          subst hvs
          obtain rfl : cw = 1 := by have h := HSW.out.lc; simp only [List.length_cons, List.length_nil] at h; omega
          have HDO1 : Hid (∀ A2 : Option Addr, Calls Tryz.prog 16 #[.pointer (some ⟨w1.heap.size, 0, none⟩), .string (bs (b0 :: v')), .slice A2 0 0] wr.drew (DoOut w1.heap.size r tx wr.drew)) := Lib.hid fun A2 => HDO.out _ hd0 A2 0 (strs_nil (by simp))
          clear hc1
          go_upto_region 19 with fail
          clear xw
          rw [show [b0 :: v'].length = 1 from rfl]
          refine anyH_begin S1 (by kernel_rfl) ?_
          refine tH 0 ?_ ?_ <| tH 1 ?_ ?_ <| tH 2 ?_ ?_ <| tH 3 ?_ ?_ <| tH 4 ?_ ?_ <| tH 5 ?_ ?_ ?_
          iterate 6
           rotate_left
           ·intro w hSw; rw [hSS.out] at hSw; obtain ⟨sw0, sw1⟩ := hSw; (try simp only [pS]); go_simp; try with_reducible rfl
          try simp only [pS]
          refine anyH_one (i := 6) rfl (by kernel_rfl) fun K hK => ?_
          go_wp2_with fail
          refine (HDO1.out _).mono ?_
          rintro e w5 hdo
          obtain ⟨rfl, hle, hD5, hB5, hC5, hbe5, hsz5⟩ := do_after hdo (HDB5.out.ext hd0) (BAt.ext HBB5.out hd0) (HB9.out.ext hd0) HNE.out.1
          have hS5 := HKS.out _ hC5
          refine hK.out _ _ ⟨hS5, ?_⟩
          clear hK K hS0 hdo
          try simp only [pS]
          refine tH 7 ?_ ?_ ?_
          rotate_left
          ·intro w hSw; rw [hSS.out] at hSw; obtain ⟨sw0, sw1⟩ := hSw; have hc := HCAT.out hle.2 w; (try simp only [pS]); go_simp; try with_reducible rfl
          try simp only [pS]
          refine anyH_one (i := 8) rfl (by kernel_rfl) fun K hK => ?_
          have hn3 := HNE.out.2.2
          have hsz6 : wr.heap.size ≤ w5.heap.size := hsz5
          have hout5 := HOUT.out
          have hle2 := hle.2
          have hwl : out.length + (r.2 ++ [10]).length ≤ 140737488355328 := by simp only [List.length_append, List.length_cons, List.length_nil]; omega
          have hwb : w1.heap.size + 1 ≤ w5.heap.size := by omega
          have HWS := Lib.hid (writeString_any (w1.heap.size + 1) (w1.heap.size + 1) out (r.2 ++ [10]) w5 hB5 hwl hwb)
          clear hwl hwb hn3 hsz6 hout5 hle2
          go_wp2_with fail
          refine HWS.out.mono ?_
          rintro e w6 ⟨rfl, hw6⟩
          obtain ⟨hD6, hB6, hC6, hb6⟩ := write_after hw6 hD5 hC5 HNE.out.2.1
          refine hK.out _ _ ⟨HKS.out _ hC6, ?_⟩
          clear hK K hS5
          try simp only [pS]
          refine wpAnyH_done (by kernel_rfl) ?_ _
          try simp only [pS]
          have HFIN : Hid ((out ++ (r.2 ++ [10])).length ≤ (k + 1) * 100001) := Lib.hid (by have h1 := HOUT.out; have h2 := hle.2; simp only [List.length_append, List.length_cons, List.length_nil]; omega)
          have hbf : Below w1.heap.size w1 w6 := HBO.out.trans ((below_drew (Below.refl _ _)).trans (hbe5.trans hb6))
          clear hw6 hB5 hD5
          go_wp2_with fail
          go_roundw
          case rel => exact ⟨k + 1, r.1, out ++ (r.2 ++ [10]), by go_num, by omega, Lib.hid (by rw [HRN.out, HSN.out]), hle.1, HFIN.out, hD6, hB6, hbf⟩
          case measure => simp [intOf]; omega
         case pos =>
          have HDO1 : Hid (Calls Tryz.prog 16 #[.pointer (some ⟨w1.heap.size, 0, none⟩), .string (bs (b0 :: v')), .slice (some ⟨bw, 1, none⟩) vs.length (cw - 1)] wr.drew (DoOut w1.heap.size r tx wr.drew)) := Lib.hid (HDO.out _ hd0 _ _ (HS2.out _ hd0))
          have hvc : vs.length + 1 ≤ cw := by have h := HSW.out.lc; simpa using h
          have hcm9 : cw ≤ maxLen := HSW.out.cm
          have hc0 : ¬ cw = 1 := by omega
          go_upto_region 19 with fail
          clear xw
          rw [show ((b0 :: v') :: vs).length = vs.length + 1 from rfl]
          obtain ⟨nv, hnv⟩ : ∃ nv, vs.length = nv := ⟨_, rfl⟩
          rw [hnv] at HDO1 hvc ⊢
          clear hnv
          refine anyH_begin S1 (by kernel_rfl) ?_
          refine tH 0 ?_ ?_ <| tH 1 ?_ ?_ <| tH 2 ?_ ?_ <| tH 3 ?_ ?_ <| tH 4 ?_ ?_ ?_
          iterate 5
           rotate_left
           ·intro w hSw; rw [hSS.out] at hSw; obtain ⟨sw0, sw1⟩ := hSw; (try simp only [pS]); go_simp; try with_reducible rfl
          try simp only [pS]
          refine anyH_take (i := 5) (v := ?_) rfl rfl (by kernel_rfl) (fun _ _ _ h => h) (Or.inl ⟨by rfl, ?_⟩) (by assumption) ?_
          rotate_left
          ·intro w hSw; rw [hSS.out] at hSw; obtain ⟨sw0, sw1⟩ := hSw; go_simp; rw [if_pos (by omega)]
          try simp only [pS]
          refine anyH_one (i := 6) rfl (by kernel_rfl) fun K hK => ?_
          go_wp2_with fail
          refine (HDO1.out).mono ?_
          rintro e w5 hdo
          obtain ⟨rfl, hle, hD5, hB5, hC5, hbe5, hsz5⟩ := do_after hdo (HDB5.out.ext hd0) (BAt.ext HBB5.out hd0) (HB9.out.ext hd0) HNE.out.1
          have hS5 := HKS.out _ hC5
          refine hK.out _ _ ⟨hS5, ?_⟩
          clear hK K hS0 hdo
          try simp only [pS]
          refine tH 7 ?_ ?_ ?_
          rotate_left
          ·intro w hSw; rw [hSS.out] at hSw; obtain ⟨sw0, sw1⟩ := hSw; have hc := HCAT.out hle.2 w; (try simp only [pS]); go_simp; try with_reducible rfl
          try simp only [pS]
          refine anyH_one (i := 8) rfl (by kernel_rfl) fun K hK => ?_
          have hn3 := HNE.out.2.2
          have hsz6 : wr.heap.size ≤ w5.heap.size := hsz5
          have hout5 := HOUT.out
          have hle2 := hle.2
          have hwl : out.length + (r.2 ++ [10]).length ≤ 140737488355328 := by simp only [List.length_append, List.length_cons, List.length_nil]; omega
          have hwb : w1.heap.size + 1 ≤ w5.heap.size := by omega
          have HWS := Lib.hid (writeString_any (w1.heap.size + 1) (w1.heap.size + 1) out (r.2 ++ [10]) w5 hB5 hwl hwb)
          clear hwl hwb hn3 hsz6 hout5 hle2
          go_wp2_with fail
          refine HWS.out.mono ?_
          rintro e w6 ⟨rfl, hw6⟩
          obtain ⟨hD6, hB6, hC6, hb6⟩ := write_after hw6 hD5 hC5 HNE.out.2.1
          refine hK.out _ _ ⟨HKS.out _ hC6, ?_⟩
          clear hK K hS5
          try simp only [pS]
          refine wpAnyH_done (by kernel_rfl) ?_ _
          try simp only [pS]
          have HFIN : Hid ((out ++ (r.2 ++ [10])).length ≤ (k + 1) * 100001) := Lib.hid (by have h1 := HOUT.out; have h2 := hle.2; simp only [List.length_append, List.length_cons, List.length_nil]; omega)
          have hbf : Below w1.heap.size w1 w6 := HBO.out.trans ((below_drew (Below.refl _ _)).trans (hbe5.trans hb6))
          clear hw6 hB5 hD5
          go_wp2_with fail
          go_roundw
          case rel => exact ⟨k + 1, r.1, out ++ (r.2 ++ [10]), by go_num, by omega, Lib.hid (by rw [HRN.out, HSN.out]), hle.1, HFIN.out, hD6, hB6, hbf⟩
          case measure => simp [intOf]; omega
 case neg =>
  have HLA : Hid (linesA s = afterP 10 (piecesB 10 s)) := Lib.hid (by unfold linesA; rw [if_neg (by rw [hlast]; simpa using hx)])
  have HAL2 : Hid (StrsAt w1 (some ⟨w.heap.size, 0, none⟩) n (linesA s)) := Lib.hid (by rw [HLA.out]; exact HA.out)
  have HLL : Hid ((linesA s).length = n) := Lib.hid (by rw [HLA.out, hal])
  have hne : (xl == ([] : List UInt8)) = false := beq_eq_false_iff_ne.2 hx
  clear hlast hx hal
  go_upto_region 4 with fail
  have hmn : n ≤ n := Nat.le_refl n
  clear hn1 x0 hne
  have HLB : Hid ((linesB s).length = n) := Lib.hid (by rw [← linesA_len, HLL.out])
  by_cases hbig : 65536 < s.length ∨ 200 < n
  case pos =>
   have HQ : Hid (deskT s = err2T) := Lib.hid (by unfold deskT; rw [HLB.out, if_pos hbig])
   by_cases hb9 : 65536 < s.length
   ·have hd1 : decide ((s.length : Int) > 65536) = true := by simp; omega
    clear hbig hb9
    go_wp2_with fail
    go_ret
    exact ⟨by rw [HQ.out]; rfl, by rw [HQ.out]; decide, hb1⟩
   ·have hd1 : decide ((s.length : Int) > 65536) = false := by simp; omega
    have hd2 : decide ((n : Int) > 200) = true := by simp; omega
    clear hbig hb9
    go_wp2_with fail
    go_ret
    exact ⟨by rw [HQ.out]; rfl, by rw [HQ.out]; decide, hb1⟩
  case neg =>
   have HQ : Hid (deskT s = (linesRun (linesB s)).2) := Lib.hid (by unfold deskT; rw [HLB.out, if_neg hbig])
   have hd1 : decide ((s.length : Int) > 65536) = false := by simp; omega
   have hd2 : decide ((n : Int) > 200) = false := by simp; omega
   have hs6 : s.length ≤ 65536 := by omega
   have hm2 : n ≤ 200 := by omega
   clear hbig
   go_wp2_with fail
   have hDB := (Blk.new w1 31 #[.string (bs [])]).alloc (Obj.cells #[.pointer none, .slice none 0 0] 35)
   have hBB : BAt (w1.heap.size + 1) (w1.heap.size + 1) [] ((w1.alloc (Obj.cells #[.string (bs [])] 31)).alloc (Obj.cells #[.pointer none, .slice none 0 0] 35)) := by
    have h := Lib.IsBuilderF.of (Lib.fresh_isBuilder 35 5 (w1.alloc (Obj.cells #[.string (bs [])] 31)))
    rw [show (w1.alloc (Obj.cells #[.string (bs [])] 31)).heap.size = w1.heap.size + 1 by simp] at h
    exact h
   have hb0 : Below w1.heap.size w1 ((w1.alloc (Obj.cells #[.string (bs [])] 31)).alloc (Obj.cells #[.pointer none, .slice none 0 0] 35)) := ext_alloc (ext_alloc (Below.refl _ _) _) _
   go_loopw [37] (fun v wr => ∃ (k : Nat) (tx out : List UInt8), v = .int .i64 k ∧ k ≤ n ∧ Hid (linesRun ((linesB s).take k) = (tx, out)) ∧ tx.length ≤ 8192 ∧ out.length ≤ k * 100001 ∧ Blk wr w1.heap.size 31 #[.string (bs tx)] ∧ BAt (w1.heap.size + 1) (w1.heap.size + 1) out wr ∧ Below w1.heap.size w1 wr) (fun v _ => n - (intOf v).toNat)
   case atStart => exact ⟨0, [], [], rfl, Nat.zero_le _, Lib.hid rfl, by simp, by simp, hDB, hBB, hb0⟩
   case round =>
    clear hDB hBB hb0
    obtain ⟨k, tx, out, rfl, hk, HR, htx, hout, hDB, hBB, hb⟩ := hrel
    by_cases hlt : k < n
    case neg =>
     obtain rfl : k = n := by omega
     have HF : Hid (deskT s = out) := Lib.hid (by
      have h1 := HR.out
      rw [List.take_of_length_le (by rw [HLB.out]; exact Nat.le_refl _)] at h1
      rw [HQ.out, h1])
     have HOL : Hid (out.length ≤ 30000000) := Lib.hid (by omega)
     have hz := BAt.lt hBB
     have hst := Txt.Builder_String_any_k (w1.heap.size + 1) (w1.heap.size + 1) out wr hBB (by omega)
     have HST := Lib.hid hst
     clear hst hDB hBB HR
     go_wp2_with fail
     refine HST.out.mono ?_
     rintro e w9 ⟨rfl, _, hb9, _⟩
     go_wp2_with fail
     go_ret
     exact ⟨by rw [HF.out]; rfl, by rw [HF.out]; exact HOL.out, ext_trans hb1 (hb.trans (hb9.mono (Nat.le_succ _)))⟩
    case pos =>
     obtain ⟨ws, rfl⟩ : ∃ x, x = wr := ⟨_, rfl⟩
     obtain ⟨x, hx⟩ := get_lt (show k < (linesA s).length by rw [HLL.out]; exact hlt)
     have hp := linesA_get hx
     have hx1 := linesA_size (List.mem_of_getElem? hx)
     have hx2 := trim_size x 10
     obtain ⟨ba2, oa2, he2, hba2, x9⟩ := HAL2.out.get hx
     simp only [Option.some.injEq, Addr.mk.injEq, and_true] at he2
     obtain ⟨rfl, rfl⟩ := he2
     rw [Nat.zero_add] at x9
     have x9 := (hb.cell (p := ⟨w.heap.size, k, none⟩) hba2).trans x9
     have hbw := ext_trans hb1 hb
     have HTRM := Lib.hid (trim_any 10 x ws (by omega))
     obtain ⟨p, hpe⟩ : ∃ p, Lib.trimSuffix x [10] = p := ⟨_, rfl⟩
     rw [hpe] at HTRM hp hx2
     have HSPL := Lib.hid (split_any 32 p ws (by omega) (HM.out.ext hbw))
     have HRN : Hid (linesRun ((linesB s).take (k + 1)) = lineStep (tx, out) p) := Lib.hid (by rw [linesRun_take hp, HR.out])
     have HPS : Hid (∀ q, q ∈ piecesB 32 p → q.length ≤ 65537) := Lib.hid fun q hq => by have := pieces_size 32 p q hq; omega
     have HPL : Hid (p.length ≤ 65537) := Lib.hid (by omega)
     have HPC : Hid ((piecesB 32 p).length ≤ 65538) := Lib.hid (by have := pieces_count 32 p; omega)
     have HDB := Lib.hid hDB; have HBB := Lib.hid hBB; have HBW := Lib.hid hbw; have HB := Lib.hid hb
     have HWD : Hid (wordsB p = (piecesB 32 p).filter fun p => decide (p ≠ [])) := Lib.hid rfl
     obtain ⟨ps, hps⟩ : ∃ ps, piecesB 32 p = ps := ⟨_, rfl⟩
     rw [hps] at HSPL HPS HPC HWD
     clear hx hp hpe hps hx1 hx2 hDB hBB HR hbw hb
     go_wp2_with fail
     refine HTRM.out.mono ?_
     rintro e w3 ⟨rfl, rfl⟩
     go_wp2_with fail
     refine HSPL.out.mono ?_
     rintro e w4 ⟨rfl, hSt, hb4⟩
     have HST := Lib.hid hSt
     have hpc := HPC.out
     clear hSt
     go_wp2_with fail
     go_loopw [8, 45] (fun u v wt => ∃ (j : Nat), v = .int .i64 j ∧ j ≤ ps.length ∧ Own strEnc 1 wt w4.heap.size 9 u ((ps.take j).filter fun p => decide (p ≠ [])) ∧ Below w4.heap.size w4 wt) (fun _ v _ => ps.length - (intOf v).toNat)
     case atStart => exact ⟨0, rfl, Nat.zero_le _, Own.nil, Below.refl _ _⟩
     case round =>
      obtain ⟨j, rfl, hj, hO, hb5⟩ := hrel
      obtain ⟨out2, ho⟩ : ∃ o, ((ps.take j).filter fun p => decide (p ≠ [])) = o := ⟨_, rfl⟩
      have hol : out2.length ≤ j := by rw [← ho]; exact Nat.le_trans (List.length_filter_le _ _) (by rw [List.length_take]; omega)
      rw [ho] at hO
      by_cases hjl : j < ps.length
      case pos =>
       obtain ⟨q, hq⟩ := get_lt hjl
       obtain ⟨bq, oq, heq, hbq, xq⟩ := HST.out.get hq
       simp only [Option.some.injEq, Addr.mk.injEq, and_true] at heq
       obtain ⟨rfl, rfl⟩ := heq
       rw [Nat.zero_add] at xq
       have xq : wr.cell? ⟨w3.heap.size, j, none⟩ = some (.string (bs q)) := (hb5.cell (p := ⟨w3.heap.size, j, none⟩) hbq).trans xq
       have hz5 := hb5.size
       have HWG := Lib.hid (words_get hq)
       rw [ho] at HWG
       clear hq ho
       by_cases hqe : q = []
       ·subst hqe
        rw [if_pos rfl, List.append_nil] at HWG
        go_wp2_with fail
        go_roundw
        case rel => exact ⟨j + 1, by go_num, by omega, by rw [HWG.out]; exact hO, hb5⟩
        case measure => simp [intOf]; omega
       ·rw [if_neg hqe] at HWG
        have hqn : (q != ([] : List UInt8)) = true := by simpa using hqe
        have hqm : q.isEmpty = false := by simpa using hqe
        clear hqe
        go_wp2_with (at_builtin; refine wpList_append_lie (enc := strEnc) rfl (.tmp 51) (.tmp 53) 23 rfl w4.heap.size 9 i0 _ 1 16 Tryz.underlying23 hi hz0 hz1 hz2 rfl (by decide) _ out2 q rfl hO _ rfl wr.heap.size rfl rfl rfl str_one (by omega) (by decide) hz5 ?_; intro gn cap w6 hown6 hbb hkp hgn)
        go_roundw
        case rel => exact ⟨j + 1, by go_num, by omega, by rw [HWG.out]; exact hown6, hb5.trans hbb⟩
        case measure => simp [intOf]; omega
      case neg =>
       obtain rfl : j = ps.length := by omega
       rw [List.take_length] at ho
       have HW2 : Hid (wordsB p = out2) := Lib.hid (by rw [HWD.out, ho])
       obtain ⟨Aw, cw, rfl, hSW⟩ := own_strs hO
       have HAT : Hid (0 < out2.length → ∃ g cs, Aw = some ⟨g, 0, none⟩ ∧ w4.heap.size ≤ g ∧ Blk wr g 9 cs) := Lib.hid (own_str_at hO)
       have hbo := ext_trans HB.out (ext_trans hb4 hb5)
       clear ho hO
       cases out2 with
       | nil =>
        go_wp2_with fail
        go_roundw
        case rel => exact ⟨k + 1, tx, out, by go_num, by omega, Lib.hid (by rw [HRN.out, step_none HW2.out]), htx, Nat.le_trans hout (Nat.mul_le_mul_right _ (Nat.le_succ k)), HDB.out.ext (ext_trans hb4 hb5), BAt.ext HBB.out (ext_trans hb4 hb5), hbo⟩
        case measure => simp [intOf]; omega
       | cons v vs =>
        have hvn : v ≠ [] := by
         have h9 : v ∈ wordsB p := by rw [HW2.out]; simp
         rw [HWD.out, List.mem_filter] at h9
         simpa using h9.2
        obtain ⟨b0, v', rfl⟩ := List.exists_cons_of_ne_nil hvn
        obtain ⟨bw, ow, rfl, hbw, xw⟩ := hSW.get (k := 0) (x := b0 :: v') rfl
        rw [Nat.add_zero] at xw
        by_cases h35 : b0 = 35
        ·subst h35
         clear hvn
         go_wp2_with fail
         go_roundw
         case rel => exact ⟨k + 1, tx, out, by go_num, by omega, Lib.hid (by rw [HRN.out, step_hash HW2.out rfl]), htx, Nat.le_trans hout (Nat.mul_le_mul_right _ (Nat.le_succ k)), HDB.out.ext (ext_trans hb4 hb5), BAt.ext HBB.out (ext_trans hb4 hb5), hbo⟩
         case measure => simp [intOf]; omega
        ·have hb35 : ((((bs (b0 :: v'))[0]'(by rw [bs_size]; simp)).toNat : Int) != 35) = true := by
          show ((b0.toNat : Int) != 35) = true
          simp only [bne_iff_ne, ne_eq]
          intro e
          exact h35 (UInt8.toNat_inj.1 (by show b0.toNat = 35; omega))
         have HSN : Hid (lineStep (tx, out) p = ((doT tx (b0 :: v') vs).1, out ++ ((doT tx (b0 :: v') vs).2 ++ [10]))) := Lib.hid (step_do HW2.out (by simpa using h35))
         have HSW := Lib.hid hSW
         clear hvn h35
         have hj0 := words_join p
         rw [HW2.out] at hj0
         have hj1 := joinB_cons_len 32 (b0 :: v') vs
         have hj2 := HPL.out
         have HVL : Hid (vs.length ≤ 70000 ∧ (joinB 32 vs).length ≤ 100000) := Lib.hid ⟨by
          have h := List.length_filter_le (fun p => decide (p ≠ [])) ps
          rw [← HWD.out, HW2.out, List.length_cons] at h
          have := HPC.out
          omega, by omega⟩
         have HVX : Hid (∀ x, x ∈ vs → x.length ≤ 70000) := Lib.hid fun x hx => by
          have h9 : x ∈ wordsB p := by rw [HW2.out]; simp [hx]
          rw [HWD.out, List.mem_filter] at h9
          have := HPS.out x h9.1
          omega
         obtain ⟨g9, cs9, he9, hg9, hB9⟩ := HAT.out (by simp)
         simp only [Option.some.injEq, Addr.mk.injEq, and_true] at he9
         obtain ⟨rfl, rfl⟩ := he9
         have hdl := HDB.out.lt
         have hz4 := hb4.size
         have hz5 := hb5.size
         have hbne : bw ≠ w1.heap.size := by omega
         have hbne2 : bw ≠ w1.heap.size + 1 := by have := BAt.lt HBB.out; omega
         have HB9 := Lib.hid hB9
         have HNE : Hid (bw ≠ w1.heap.size ∧ bw ≠ w1.heap.size + 1 ∧ w1.heap.size + 1 < wr.heap.size) := Lib.hid ⟨hbne, hbne2, by have := BAt.lt HBB.out; omega⟩
         have HDB5 := Lib.hid (HDB.out.ext (ext_trans hb4 hb5))
         have HBB5 := Lib.hid (BAt.ext HBB.out (ext_trans hb4 hb5))
         have HBO := Lib.hid hbo
         have HT5 := Lib.hid (HT.out.ext (ext_trans HBW.out (ext_trans hb4 hb5)))
         have HM5 := Lib.hid (HM.out.ext (ext_trans HBW.out (ext_trans hb4 hb5)))
         have HTX := Lib.hid htx; have HOUT := Lib.hid hout
         have HXW := Lib.hid xw
         obtain ⟨r, hr⟩ : ∃ r, doT tx (b0 :: v') vs = r := ⟨_, rfl⟩
         rw [hr] at HSN
         have HDO : Hid (∀ W : World, Below wr.heap.size wr W → ∀ (A2 : Option Addr) (c2 : Nat), StrsAt W A2 c2 vs → Calls Tryz.prog 16 #[.pointer (some ⟨w1.heap.size, 0, none⟩), .string (bs (b0 :: v')), .slice A2 vs.length c2] W (DoOut w1.heap.size r tx W)) := Lib.hid fun W h A2 c2 hS => by
          have h9 := do_say w1.heap.size c2 A2 tx (b0 :: v') vs W (HDB5.out.ext h) hS HVL.out.1 HVX.out HVL.out.2 HTX.out (HT5.out.ext h) (HM5.out.ext h)
          rwa [hr] at h9
         have hcat := fun h => cat_run r.2 [10] h
         have HCAT : Hid (r.2.length ≤ 100000 → ∀ W : World, (Op.stringOp .add (bs r.2) (bs [10])).run Tryz.prog W = .ok (.string (bs (r.2 ++ [10]))) W) := Lib.hid fun h W => hcat (by simp; omega) W
         obtain ⟨S1, hSS⟩ : ∃ S1 : World → Prop, Hid (S1 = fun w' => w'.cell? ⟨bw, 0, none⟩ = some (.string (bs (b0 :: v'))) ∧ True) := ⟨_, Lib.hid rfl⟩
         have HKS : Hid (∀ w', Blk w' bw 9 cs9 → S1 w') := Lib.hid fun w' h => by
          rw [hSS.out]
          exact ⟨(h.cell 0).trans ((hB9.cell 0).symm.trans HXW.out), trivial⟩
         have hd0 := below_drew (Below.refl wr.heap.size wr)
         have hS0 : S1 wr.drew := HKS.out _ (HB9.out.ext hd0)
         have HS2 : Hid (∀ W : World, Below wr.heap.size wr W → StrsAt W (some ⟨bw, 0 + 1, none⟩) (cw - 1) vs) := Lib.hid fun W h => (HSW.out.ext h).tail
         clear hj0 hj1 hj2 hB9 hr hcat hdl hz4 hz5 hbne hbne2 hbo htx hout hSW
         by_cases hc1 : 1 < cw
         case neg =>
          have hvs : vs = [] := by have h := HSW.out.lc; simp only [List.length_cons] at h; exact List.length_eq_zero_iff.1 (by omega)
          subst hvs
          obtain rfl : cw = 1 := by have h := HSW.out.lc; simp only [List.length_cons, List.length_nil] at h; omega
          have HDO1 : Hid (∀ A2 : Option Addr, Calls Tryz.prog 16 #[.pointer (some ⟨w1.heap.size, 0, none⟩), .string (bs (b0 :: v')), .slice A2 0 0] wr.drew (DoOut w1.heap.size r tx wr.drew)) := Lib.hid fun A2 => HDO.out _ hd0 A2 0 (strs_nil (by simp))
          clear hc1
          go_upto_region 19 with fail
          clear xw
          rw [show [b0 :: v'].length = 1 from rfl]
          refine anyH_begin S1 (by kernel_rfl) ?_
          refine tH 0 ?_ ?_ <| tH 1 ?_ ?_ <| tH 2 ?_ ?_ <| tH 3 ?_ ?_ <| tH 4 ?_ ?_ <| tH 5 ?_ ?_ ?_
          iterate 6
           rotate_left
           ·intro w hSw; rw [hSS.out] at hSw; obtain ⟨sw0, sw1⟩ := hSw; (try simp only [pS]); go_simp; try with_reducible rfl
          try simp only [pS]
          refine anyH_one (i := 6) rfl (by kernel_rfl) fun K hK => ?_
          go_wp2_with fail
          refine (HDO1.out _).mono ?_
          rintro e w5 hdo
          obtain ⟨rfl, hle, hD5, hB5, hC5, hbe5, hsz5⟩ := do_after hdo (HDB5.out.ext hd0) (BAt.ext HBB5.out hd0) (HB9.out.ext hd0) HNE.out.1
          have hS5 := HKS.out _ hC5
          refine hK.out _ _ ⟨hS5, ?_⟩
          clear hK K hS0 hdo
          try simp only [pS]
          refine tH 7 ?_ ?_ ?_
          rotate_left
          ·intro w hSw; rw [hSS.out] at hSw; obtain ⟨sw0, sw1⟩ := hSw; have hc := HCAT.out hle.2 w; (try simp only [pS]); go_simp; try with_reducible rfl
          try simp only [pS]
          refine anyH_one (i := 8) rfl (by kernel_rfl) fun K hK => ?_
          have hn3 := HNE.out.2.2
          have hsz6 : wr.heap.size ≤ w5.heap.size := hsz5
          have hout5 := HOUT.out
          have hle2 := hle.2
          have hwl : out.length + (r.2 ++ [10]).length ≤ 140737488355328 := by simp only [List.length_append, List.length_cons, List.length_nil]; omega
          have hwb : w1.heap.size + 1 ≤ w5.heap.size := by omega
          have HWS := Lib.hid (writeString_any (w1.heap.size + 1) (w1.heap.size + 1) out (r.2 ++ [10]) w5 hB5 hwl hwb)
          clear hwl hwb hn3 hsz6 hout5 hle2
          go_wp2_with fail
          refine HWS.out.mono ?_
          rintro e w6 ⟨rfl, hw6⟩
          obtain ⟨hD6, hB6, hC6, hb6⟩ := write_after hw6 hD5 hC5 HNE.out.2.1
          refine hK.out _ _ ⟨HKS.out _ hC6, ?_⟩
          clear hK K hS5
          try simp only [pS]
          refine wpAnyH_done (by kernel_rfl) ?_ _
          try simp only [pS]
          have HFIN : Hid ((out ++ (r.2 ++ [10])).length ≤ (k + 1) * 100001) := Lib.hid (by have h1 := HOUT.out; have h2 := hle.2; simp only [List.length_append, List.length_cons, List.length_nil]; omega)
          have hbf : Below w1.heap.size w1 w6 := HBO.out.trans ((below_drew (Below.refl _ _)).trans (hbe5.trans hb6))
          clear hw6 hB5 hD5
          go_wp2_with fail
          go_roundw
          case rel => exact ⟨k + 1, r.1, out ++ (r.2 ++ [10]), by go_num, by omega, Lib.hid (by rw [HRN.out, HSN.out]), hle.1, HFIN.out, hD6, hB6, hbf⟩
          case measure => simp [intOf]; omega
         case pos =>
          have HDO1 : Hid (Calls Tryz.prog 16 #[.pointer (some ⟨w1.heap.size, 0, none⟩), .string (bs (b0 :: v')), .slice (some ⟨bw, 1, none⟩) vs.length (cw - 1)] wr.drew (DoOut w1.heap.size r tx wr.drew)) := Lib.hid (HDO.out _ hd0 _ _ (HS2.out _ hd0))
          have hvc : vs.length + 1 ≤ cw := by have h := HSW.out.lc; simpa using h
          have hcm9 : cw ≤ maxLen := HSW.out.cm
          have hc0 : ¬ cw = 1 := by omega
          go_upto_region 19 with fail
          clear xw
          rw [show ((b0 :: v') :: vs).length = vs.length + 1 from rfl]
          obtain ⟨nv, hnv⟩ : ∃ nv, vs.length = nv := ⟨_, rfl⟩
          rw [hnv] at HDO1 hvc ⊢
          clear hnv
          refine anyH_begin S1 (by kernel_rfl) ?_
          refine tH 0 ?_ ?_ <| tH 1 ?_ ?_ <| tH 2 ?_ ?_ <| tH 3 ?_ ?_ <| tH 4 ?_ ?_ ?_
          iterate 5
           rotate_left
           ·intro w hSw; rw [hSS.out] at hSw; obtain ⟨sw0, sw1⟩ := hSw; (try simp only [pS]); go_simp; try with_reducible rfl
          try simp only [pS]
          refine anyH_take (i := 5) (v := ?_) rfl rfl (by kernel_rfl) (fun _ _ _ h => h) (Or.inl ⟨by rfl, ?_⟩) (by assumption) ?_
          rotate_left
          ·intro w hSw; rw [hSS.out] at hSw; obtain ⟨sw0, sw1⟩ := hSw; go_simp; rw [if_pos (by omega)]
          try simp only [pS]
          refine anyH_one (i := 6) rfl (by kernel_rfl) fun K hK => ?_
          go_wp2_with fail
          refine (HDO1.out).mono ?_
          rintro e w5 hdo
          obtain ⟨rfl, hle, hD5, hB5, hC5, hbe5, hsz5⟩ := do_after hdo (HDB5.out.ext hd0) (BAt.ext HBB5.out hd0) (HB9.out.ext hd0) HNE.out.1
          have hS5 := HKS.out _ hC5
          refine hK.out _ _ ⟨hS5, ?_⟩
          clear hK K hS0 hdo
          try simp only [pS]
          refine tH 7 ?_ ?_ ?_
          rotate_left
          ·intro w hSw; rw [hSS.out] at hSw; obtain ⟨sw0, sw1⟩ := hSw; have hc := HCAT.out hle.2 w; (try simp only [pS]); go_simp; try with_reducible rfl
          try simp only [pS]
          refine anyH_one (i := 8) rfl (by kernel_rfl) fun K hK => ?_
          have hn3 := HNE.out.2.2
          have hsz6 : wr.heap.size ≤ w5.heap.size := hsz5
          have hout5 := HOUT.out
          have hle2 := hle.2
          have hwl : out.length + (r.2 ++ [10]).length ≤ 140737488355328 := by simp only [List.length_append, List.length_cons, List.length_nil]; omega
          have hwb : w1.heap.size + 1 ≤ w5.heap.size := by omega
          have HWS := Lib.hid (writeString_any (w1.heap.size + 1) (w1.heap.size + 1) out (r.2 ++ [10]) w5 hB5 hwl hwb)
          clear hwl hwb hn3 hsz6 hout5 hle2
          go_wp2_with fail
          refine HWS.out.mono ?_
          rintro e w6 ⟨rfl, hw6⟩
          obtain ⟨hD6, hB6, hC6, hb6⟩ := write_after hw6 hD5 hC5 HNE.out.2.1
          refine hK.out _ _ ⟨HKS.out _ hC6, ?_⟩
          clear hK K hS5
          try simp only [pS]
          refine wpAnyH_done (by kernel_rfl) ?_ _
          try simp only [pS]
          have HFIN : Hid ((out ++ (r.2 ++ [10])).length ≤ (k + 1) * 100001) := Lib.hid (by have h1 := HOUT.out; have h2 := hle.2; simp only [List.length_append, List.length_cons, List.length_nil]; omega)
          have hbf : Below w1.heap.size w1 w6 := HBO.out.trans ((below_drew (Below.refl _ _)).trans (hbe5.trans hb6))
          clear hw6 hB5 hD5
          go_wp2_with fail
          go_roundw
          case rel => exact ⟨k + 1, r.1, out ++ (r.2 ++ [10]), by go_num, by omega, Lib.hid (by rw [HRN.out, HSN.out]), hle.1, HFIN.out, hD6, hB6, hbf⟩
          case measure => simp [intOf]; omega
end Go.Proofs.YtjcimdpldlamfaaGreatDoor
