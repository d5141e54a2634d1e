/- One text: LawSnaps. -/
import Derived.Test.YtdpibehpmghghaaGreatBd9ecbd508d1
import Derived.Test.YtdpibehpmghghaaGreatBd6a05f0021e
/- The law TopSnaps (printed by gensnaps.py). -/
namespace Go.Proofs.YtdpibehpmghghaaGreat
open Go.RowKit

set_option maxRecDepth 100000 in
set_option maxHeartbeats 16000000 in
theorem topSnaps_calls (A A' : Option Addr) (c c' : Nat) (g : GraphD) {w : World} (hG : GraphAt w A c A' c' g) (p : Int) (_ : I64 p) (v : Int) (_ : I64 v) :
    Calls Tryz.prog 7 #[gV A c A' c' g, .int .i64 p, .int .i64 v] w fun e w' => e = .returned (.bool true) ∧ Below w.heap.size w w' := by
  have HG := Lib.hid hG
  clear hG
  go_enter Tryz.func7, Tryz.ntmps7
  go_wp2_with fail
  refine (said_any _).mono ?_
  rintro e w1 ⟨rfl, hb1⟩
  have B1 := (Blk.new w 25 (gC A c A' c' g)).ext hb1
  have hbw : Below w.heap.size w w1 := ext_trans (by go_grown) hb1
  obtain ⟨c1, c2, c3⟩ := B1.facts
  clear hb1
  go_wp2_with fail
  refine (bspRun_any A A' c c' g p v _ (HG.out.ext hbw)).mono ?_
  rintro e w2 (⟨h0, rfl, hb2⟩ | ⟨h0, Ao, co, k, sides, rfl, hO, hS, HR, hb2⟩)
  · have hne : (runErr g p v != 0) = true := by simp [h0]
    have hbw2 := ext_trans hbw hb2
    clear h0 c1 c2 c3
    go_wp2_with fail
    go_ret
    exact ⟨rfl, hbw2⟩
  have hV := runErr_valid h0
  have HPV := Lib.hid (runErr_prog h0)
  have hh0 := hV.h0
  have hh1 := hV.h1
  have hsn : sides.length = g.lives.length := by
    have h1 := HR.out.len
    rwa [List.length_map] at h1
  have hnl := hV.nl
  have HV := Lib.hid hV
  have hs12 : sides.length ≤ 12 := by omega
  have HO := Lib.hid (own_sides hO)
  have HAT := Lib.hid (hS.at_ (h := g.h) HR.out.lies hh1)
  have B2 := B1.ext hb2
  have hbw2 := ext_trans hbw hb2
  have HSN := Lib.hid hsn
  have HB2 := Lib.hid B2
  clear h0 hV hsn c1 c2 c3 hb2 B1 hbw hO hS
  obtain ⟨c1, c2, c3⟩ := B2.facts
  go_wp2_with fail
  clear c1 c2 c3 B2
  go_loopw [35] (fun x wt => ∃ t : Nat, x = .int .i64 t ∧ (t : Int) ≤ g.h ∧ Below w2.heap.size w2 wt) (fun x _ => g.h.toNat - (intOf x).toNat)
  case atStart => exact ⟨0, rfl, by omega, Below.refl _ _⟩
  case round =>
    obtain ⟨t, rfl, htl, hb3⟩ := hrel
    have hbw3 := ext_trans hbw2 hb3
    by_cases htt : (t : Int) < g.h
    case neg =>
      go_wp2_with fail
      go_ret
      exact ⟨rfl, hbw3⟩
    case pos =>
      have hr2 : 0 ≤ (t : Int) ∧ (t : Int) < g.h := ⟨by omega, htt⟩
      obtain ⟨r, hr⟩ : ∃ r : Int, (t : Int) = r := ⟨_, rfl⟩
      obtain ⟨s, hs⟩ : ∃ s, snapD g r = s := ⟨_, rfl⟩
      have hak := at_ok A A' c c' g r s wr (HG.out.ext hbw3) HV.out (by omega) (by omega) hs
      have hr3 : 0 ≤ r ∧ r < g.h := by omega
      rw [← hr] at hak
      have HRT := Lib.hid hr
      have HSD := Lib.hid hs
      have HSH : Hid (shotErr s = 0) := Lib.hid (by rw [← hs]; exact snap_shot HV.out r)
      have HSL : Hid (s.alive.length = g.lives.length) := Lib.hid (by rw [← hs]; exact snapL_len g r)
      have BG := HB2.out.ext hb3
      obtain ⟨c1, c2, c3⟩ := BG.facts
      clear hr hs BG hr2
      go_wp2_with fail
      refine hak.mono ?_
      rintro e w3 ⟨As, cs, Bs, ds, rfl, hSN, hbb3⟩
      have hSA : SnapAt (w3.alloc (Obj.cells #[.slice As s.alive.length cs, .slice Bs s.arcs.length ds] 34)) As cs Bs ds s := hSN.1.ext (ext_alloc (Below.refl _ _) _)
      have BS := Blk.new w3 34 #[.slice As s.alive.length cs, .slice Bs s.arcs.length ds]
      have hb3a : Below w2.heap.size w2 (w3.alloc (Obj.cells #[.slice As s.alive.length cs, .slice Bs s.arcs.length ds] 34)) := ext_alloc (ext_trans hb3 hbb3) _
      have hla := labels_any As Bs cs ds s _ hSA
      rw [HSH.out] at hla
      have HBS := Lib.hid BS
      have HSA := Lib.hid hSA
      clear hak hSN hbb3 BS hSA hb3 c1 c2 c3
      go_wp2_with fail
      refine hla.mono ?_
      rintro e w4 ⟨ll, Al, cl, hLL, rfl, hIl, hml, hb4⟩
      have hLs : LabelsL s ll := by unfold LabelsOut at hLL; rwa [if_pos HSH.out] at hLL
      have hlen : ll.length = sides.length := by rw [hLs.1, HSL.out, HSN.out]
      have hvl : (valsAt (sides.map Prod.fst) r).length = sides.length := by simp [valsAt]
      rw [hlen]
      have HVL := Lib.hid hvl
      have HLS := Lib.hid hLs
      have HIL := Lib.hid hIl
      have HSA4 := Lib.hid (HSA.out.ext hb4)
      have B4 := HBS.out.ext hb4
      have hb24 := ext_trans hb3a hb4
      clear hla hLL hLs hvl hIl hlen hml
      obtain ⟨s0, s1, s2⟩ := B4.facts
      go_upto_block 2 with fail
      go_cut [12, 13] from 52 to 67 (fun x11 x13 wx => ∃ (Aw : Option Addr) (cw : Nat), x11 = .int .i64 0 ∧ x13 = .slice Aw sides.length cw ∧ SlAt RInt 1 wx Aw (valsAt (sides.map Prod.fst) r) ∧ Below w4.heap.size w4 wx)
      case first =>
        have hp3 := HPV.out.1
        by_cases h1 : p = 1
        case pos =>
          have h1b : (p == 1) = true := by simpa using h1
          have hv : 0 ≤ v ∧ v < g.lives.length := by rcases HPV.out.2 with h | h <;> omega
          have hwe : waysErr s v = 0 := waysErr_ok HSH.out (by rw [HSL.out]; exact hv)
          have hcl := hops_any As Bs cs ds s v w4 HSA4.out
          rw [hwe] at hcl
          have HWE := Lib.hid hwe
          have HP := Lib.hid h1
          clear h1 hp3 hv hwe
          go_wp2_with fail
          refine hcl.mono ?_
          rintro e w5 ⟨l5, A5, c5, hL5, rfl, hI5, hm5, hb5⟩
          have hl5 : l5 = valsAt (sides.map Prod.fst) r := by
            unfold WaysOut at hL5
            rw [if_pos HWE.out, ← HSD.out] at hL5
            have hR := HR.out
            rw [HP.out] at hR
            exact hL5.eq (run_hops HV.out hR hr3.1 hr3.2)
          subst hl5
          rw [HVL.out]
          clear hcl hL5
          go_wp2_with fail
          go_meet
          exact ⟨A5, c5, rfl, rfl, hI5, hb5⟩
        case neg =>
          have h1b : (p == 1) = false := by simpa using h1
          by_cases h2 : p = 2
          case pos =>
            have h2b : (p == 2) = true := by simpa using h2
            have hv : 0 ≤ v ∧ v < g.lives.length := by rcases HPV.out.2 with h | h <;> omega
            have hwe : waysErr s v = 0 := waysErr_ok HSH.out (by rw [HSL.out]; exact hv)
            have hcl := plainCosts_any As Bs cs ds s v w4 HSA4.out
            rw [hwe] at hcl
            have HWE := Lib.hid hwe
            have HP := Lib.hid h2
            clear h1 h2 hp3 hv hwe
            go_wp2_with fail
            refine hcl.mono ?_
            rintro e w5 ⟨l5, A5, c5, hL5, rfl, hI5, hm5, hb5⟩
            have hl5 : l5 = valsAt (sides.map Prod.fst) r := by
              unfold WaysOut at hL5
              rw [if_pos HWE.out, ← HSD.out] at hL5
              have hR := HR.out
              rw [HP.out] at hR
              exact hL5.eq (run_costs HV.out hR hr3.1 hr3.2)
            subst hl5
            rw [HVL.out]
            clear hcl hL5
            go_wp2_with fail
            go_meet
            exact ⟨A5, c5, rfl, rfl, hI5, hb5⟩
          case neg =>
            have h2b : (p == 2) = false := by simpa using h2
            have hp : p = 3 := by omega
            have hll : ll = valsAt (sides.map Prod.fst) r := by
              have hL5 := HLS.out
              rw [← HSD.out] at hL5
              have hR := HR.out
              rw [hp] at hR
              exact hL5.eq (run_labels HV.out hR hr3.1 hr3.2)
            clear h1 h2 hp3 hp
            subst hll
            have hI5 := HIL.out
            go_wp2_with fail
            go_meet
            exact ⟨Al, cl, rfl, rfl, hI5, Below.refl _ _⟩
      case rest =>
        obtain ⟨Aw, cw, rfl, rfl, hI5, hb5⟩ := hcut
        have hb5c := ext_trans hb24 hb5
        have hbw5 := ext_trans hbw2 hb5c
        have HIW := Lib.hid hI5
        clear s0 s1 s2 B4 hb4 hb5 hI5
        go_wp2_with fail
        obtain ⟨wB, rfl⟩ : ∃ x, x = wc := ⟨_, rfl⟩
        go_loopw [72] (fun x wt => ∃ i : Nat, x = .int .i64 i ∧ i ≤ sides.length ∧ Below wB.heap.size wB wt) (fun x _ => sides.length - (intOf x).toNat)
        case atStart => exact ⟨0, rfl, Nat.zero_le _, Below.refl _ _⟩
        case round =>
          obtain ⟨i, rfl, hil, hb6⟩ := hrel
          by_cases hlt : i < sides.length
          case neg =>
            obtain rfl : i = sides.length := by omega
            have hb26 := ext_trans hb5c hb6
            go_wp2_with fail
            go_roundw
            case rel => first | exact ⟨t + 1, by go_num, by omega, hb26⟩ | ((repeat apply Exists.intro); exact ⟨⟨t + 1, by go_num, by omega, hb26⟩, rfl⟩)
            case measure => simp [intOf]; omega
          case pos =>
            obtain ⟨x, hx⟩ := get_lt hlt
            obtain ⟨y, hy⟩ := get_lt (show i < (valsAt (sides.map Prod.fst) r).length by rw [HVL.out]; exact hlt)
            have hm9 : (sides.map Prod.fst)[i]? = some x.1 := by rw [List.getElem?_map, hx]; rfl
            obtain ⟨v1, v2⟩ := val_of HR.out hm9 hy
            have hb26 := ext_trans hb5c hb6
            obtain ⟨b1, o1, rfl, l1, x1⟩ := HO.out.side hx hb26
            obtain ⟨bw, ow, hIWs⟩ := HIW.out
            obtain ⟨rfl, lw, hcw⟩ := hIWs i y hy
            have hcw1 : wB.cell? ⟨bw, ow + i * 1, none⟩ = some (.int .i64 y) := hcw.1
            rw [Nat.mul_one] at hcw1
            have y1 : wr.cell? ⟨bw, ow + i, none⟩ = some (.int .i64 y) := (hb6.cell (p := ⟨bw, ow + i, none⟩) lw).trans hcw1
            have px := ((HAT.out.ext hb26) x (List.mem_of_getElem? hx))
            have hat := imapAt_any x.2.1 x.2.2 x.1 r wr px
            rw [← HRT.out] at hat
            have hlwr : bw < wr.heap.size := Nat.lt_of_lt_of_le lw hb6.size
            have Y1 := Lib.hid y1
            clear hx hy hm9 hIWs hcw hcw1 px
            by_cases hyf : y < 1099511627776
            case pos =>
              have hs9 := v2 hyf
              rw [← HRT.out] at hs9
              rw [hs9] at hat
              unfold atV at hat
              simp only [Option.getD_some, Option.isSome_some] at hat
              have hdy : decide (y < 1099511627776) = true := by simpa using hyf
              clear v1 v2 hs9 hyf
              go_wp2_with fail
              refine hat.mono ?_
              rintro e w8 ⟨rfl, hb68⟩
              clear hat
              have y8 : w8.cell? ⟨bw, ow + i, none⟩ = some (.int .i64 y) := (hb68.cell (p := ⟨bw, ow + i, none⟩) hlwr).trans Y1.out
              clear y1 x1
              go_wp2_with fail
              go_roundw
              case rel => first | exact ⟨i + 1, by go_num, by omega, ext_trans hb6 hb68⟩ | ((repeat apply Exists.intro); exact ⟨⟨i + 1, by go_num, by omega, ext_trans hb6 hb68⟩, rfl⟩)
              case measure => simp [intOf]; omega
            case neg =>
              have hs9 : atM x.1 r = none := by
                have h1 : (atM x.1 r).isSome = false := by rw [v1]; exact decide_eq_false (by unfold Far; exact hyf)
                cases ha : atM x.1 r with
                | none => rfl
                | some z => rw [ha] at h1; cases h1
              rw [← HRT.out] at hs9
              rw [hs9] at hat
              unfold atV at hat
              simp only [Option.getD_none, Option.isSome_none] at hat
              have hdy : decide (y < 1099511627776) = false := by simpa using hyf
              clear v1 v2 hs9 hyf
              go_wp2_with fail
              refine hat.mono ?_
              rintro e w8 ⟨rfl, hb68⟩
              clear hat
              have y8 : w8.cell? ⟨bw, ow + i, none⟩ = some (.int .i64 y) := (hb68.cell (p := ⟨bw, ow + i, none⟩) hlwr).trans Y1.out
              clear y1 x1
              go_wp2_with fail
              go_roundw
              case rel => first | exact ⟨i + 1, by go_num, by omega, ext_trans hb6 hb68⟩ | ((repeat apply Exists.intro); exact ⟨⟨i + 1, by go_num, by omega, ext_trans hb6 hb68⟩, rfl⟩)
              case measure => simp [intOf]; omega
end Go.Proofs.YtdpibehpmghghaaGreat
