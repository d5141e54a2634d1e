/- Several texts in one: RefDep, LawEarlySays. -/
import Derived.Test.YtcgnalpcbcpmkaaBd4011d81e10
import Derived.Test.YtcgnalpcbcpmkaaBd9838efee2f
import Derived.Test.YtcgnalpcbcpmkaaBd48cc3a8d25
/- The walk of the document's Departures: each vertex and time is asked whether one comes in time. -/
namespace Go.Proofs.Ytcgnalpcbcpmkaa
open Go.RowKit

theorem depsL_i64 {g : GraphD} {v e : Int} {k : Nat} {l : List Int} (h : DepsL g v e k l) (_he : e ≤ 100) : ∀ x, x ∈ l → I64 x := fun x hx => by
  obtain ⟨i, hi⟩ := List.getElem?_of_mem hx
  have hl := lt_of_get hi
  have h2 := h.2 i (by rw [← h.1]; exact hl)
  rw [gi_of hi] at h2
  split at h2
  · have h3 := h2.low
    rcases h2.1 with h4 | ⟨h4, h5⟩
    · unfold I64; omega
    · unfold I64; omega
  · unfold I64; omega

set_option maxRecDepth 100000 in
set_option maxHeartbeats 16000000 in
theorem refDepartures_any (A A' : Option Addr) (c c' : Nat) (g : GraphD) (v s : Int) (w : World) (hG : GraphAt w A c A' c' g) (h0 : placeErr g v s = 0) :
    Calls Try.prog 81 #[gV A c A' c' g, .int .i64 v, .int .i64 s] w (IntsR (fun l => ∀ r, LateL g v s r → r = l) w) := by
  obtain ⟨hV, ⟨hv0, hv1⟩, hs0, hs1⟩ := place_of h0
  have hh1 := hV.h1
  have hhp := hV.h0
  have hn12 := hV.nl
  have m1 : g.lives.length ≤ 9223372036854775807 := by omega
  have H0 := Lib.hid h0
  clear h0
  obtain ⟨i0, hi, hz0, hz1, hz2⟩ := info_parts info_int
  go_enter Try.func81, Try.ntmps81
  go_wp2_with fail
  have BW : Blk (w.alloc (Obj.cells (gC A c A' c' g) 28)) w.heap.size 28 (gC A c A' c' g) := Blk.new _ _ _
  have hbw : Below w.heap.size w (w.alloc (Obj.cells (gC A c A' c' g) 28)) := by go_grown
  obtain ⟨w1, hw1⟩ : ∃ w1 : World, w1 = w.alloc (Obj.cells (gC A c A' c' g) 28) := ⟨_, rfl⟩
  rw [← hw1] at BW hbw ⊢
  clear hw1
  go_loopw [7, 8] (fun o x wr => ∃ (k : Nat) (lo : List Int), k ≤ g.lives.length ∧ x = .int .i64 k ∧ Hid (DepsL g v s k lo) ∧ lo.length = k ∧ Own intEnc 1 wr w1.heap.size 3 o lo ∧ Below w1.heap.size w1 wr) (fun _ x _ => g.lives.length - (intOf x).toNat)
  case atStart => exact ⟨0, [], Nat.zero_le _, rfl, Lib.hid DepsL.nil, rfl, Own.nil, Below.refl _ _⟩
  case round =>
    obtain ⟨k, lo, hk, rfl, HD, hlo, hown, hb⟩ := hrel
    have HLO := Lib.hid hlo
    clear hlo
    obtain ⟨f1, f2, f3⟩ := (BW.ext hb).facts
    have hzs := hb.size
    by_cases hlt : k < g.lives.length
    case neg =>
      have HE : Hid (DepsL g v s g.lives.length lo) := Lib.hid (by rw [show g.lives.length = k by omega]; exact HD.out)
      have hl12 : lo.length ≤ 12 := by rw [HLO.out]; omega
      have hbwr := ext_trans hbw hb
      obtain ⟨Ar, cr, rfl, hSr⟩ := own_ints hown (depsL_i64 HE.out (by omega))
      go_wp2_with fail
      go_ret
      exact ⟨lo, Ar, cr, Lib.hid fun r hr => HE.out.late hV hr ⟨hv0, hv1⟩ (by omega), rfl, hSr, by unfold maxLen; omega, hbwr⟩
    case pos =>
      obtain ⟨Ao2, co2, rfl⟩ := hown.form
      obtain ⟨wo, hwo⟩ : ∃ wo : World, wo = wr := ⟨_, rfl⟩
      rw [← hwo] at hown hb hzs f1 f2 f3 ⊢
      clear hwo
      go_wp2_with fail
      clear f1 f2 f3 hzs
      go_loopw [9, 10] (fun nv x wr => ∃ (j : Nat) (nn : Int), (j : Int) ≤ s + 1 ∧ x = .int .i64 j ∧ nv = .int .i64 nn ∧ Hid (aliveB g v s = true → DepN g v s k j nn) ∧ Hid (aliveB g v s = false → nn = -1) ∧ Own intEnc 1 wr w1.heap.size 3 (.slice Ao2 lo.length co2) lo ∧ Below w1.heap.size w1 wr) (fun _ x _ => (s + 1 - intOf x).toNat)
      case atStart => exact ⟨0, -1, by omega, rfl, rfl, Lib.hid fun _ => DepN.start, Lib.hid fun _ => rfl, hown, hb⟩
      case round =>
        clear hown hb
        obtain ⟨j, nn, hj, rfl, rfl, HN, HM, hown, hb⟩ := hrel
        have B0 := BW.ext hb
        obtain ⟨f1, f2, f3⟩ := B0.facts
        have hbwr := ext_trans hbw hb
        have hzs := hb.size
        have hcl : lo.length + 1 ≤ 1000000 := by rw [HLO.out]; omega
        by_cases hlj : (j : Int) ≤ s
        case neg =>
          have hd : decide ((j : Int) ≤ s) = false := by simpa using hlj
          have HE : Hid (DepsL g v s (k + 1) (lo ++ [nn])) := Lib.hid (HD.out.snoc (by
            cases hal : aliveB g v s
            · rw [if_neg (by simp)]; exact HM.out hal
            · rw [if_pos rfl]
              have := HN.out hal
              rwa [show (j : Int) = s + 1 by omega] at this))
          go_wp2_with (at_builtin; refine wpList_append_els (enc := intEnc) rfl (.tmp 45) (.tmp 47) 53 rfl w1.heap.size 3 i0 _ 1 8 Try.underlying53 hi hz0 hz1 hz2 rfl (by decide) _ lo [nn] 1 rfl rfl hown _ rfl wr.heap.size (by simp) rfl rfl int_one1 hcl (by decide) hzs ?_; intro v' w8 hown8 hb8 hkp8)
          go_roundw
          case rel => exact ⟨k + 1, lo ++ [nn], by omega, by go_num, HE, by simp [HLO.out], hown8, hb.trans hb8⟩
          case measure => simp [intOf]; omega
        case pos =>
          have hd : decide ((j : Int) ≤ s) = true := by simpa using hlj
          have HLJ := Lib.hid hlj
          go_wp2_with fail
          refine (refAlive_any _ _ _ _ g v s _ (hG.ext hbwr) hv0 hv1).mono ?_
          rintro e w2 ⟨rfl, hb2⟩
          have hown := hown.keep (fun b cs h => (Blk.go h hb2).1)
          have hb := ext_trans hb hb2
          have hbwr := ext_trans hbwr hb2
          clear hb2 f1 f2 f3 B0 hzs
          have B0 := BW.ext hb
          obtain ⟨f1, f2, f3⟩ := B0.facts
          have hzs := hb.size
          cases hal : aliveB g v s
          case false =>
            have HE : Hid (DepsL g v s (k + 1) (lo ++ [nn])) := Lib.hid (HD.out.snoc (by rw [if_neg (by simp [hal])]; exact HM.out hal))
            go_wp2_with (at_builtin; refine wpList_append_els (enc := intEnc) rfl (.tmp 45) (.tmp 47) 53 rfl w1.heap.size 3 i0 _ 1 8 Try.underlying53 hi hz0 hz1 hz2 rfl (by decide) _ lo [nn] 1 rfl rfl hown _ rfl w2.heap.size (by simp) rfl rfl int_one1 hcl (by decide) hzs ?_; intro v' w8 hown8 hb8 hkp8)
            go_roundw
            case rel => exact ⟨k + 1, lo ++ [nn], by omega, by go_num, HE, by simp [HLO.out], hown8, hb.trans hb8⟩
            case measure => simp [intOf]; omega
          case true =>
            have HAL := Lib.hid hal
            have HN := Lib.hid (HN.out hal)
            have HM : Hid (∀ m : Int, aliveB g v s = false → m = -1) := Lib.hid fun m h => by rw [HAL.out] at h; simp at h
            clear hal
            go_wp2_with fail
            refine (refAlive_any _ _ _ _ g (k : Int) (j : Int) _ (hG.ext hbwr) (by omega) (by omega)).mono ?_
            rintro e w3 ⟨rfl, hb3⟩
            have hown := hown.keep (fun b cs h => (Blk.go h hb3).1)
            have hb := ext_trans hb hb3
            have hbwr := ext_trans hbwr hb3
            clear hb3 f1 f2 f3 B0 hzs
            have B0 := BW.ext hb
            obtain ⟨f1, f2, f3⟩ := B0.facts
            have hzs := hb.size
            cases hal : aliveB g k j
            case false =>
              have HN2 : Hid (DepN g v s k ((j : Int) + 1) nn) := Lib.hid (HN.out.skip fun h => by rw [h.2.2.1] at hal; simp at hal)
              go_wp2_with fail
              go_roundw
              case rel => exact ⟨j + 1, nn, by omega, by go_num, rfl, Lib.hid fun _ => by have := HN2.out; simpa using this, Lib.hid (HM.out nn), hown, hb⟩
              case measure => have := HLJ.out; simp [intOf]; omega
            case true =>
              have HA2 := Lib.hid hal
              clear hal
              go_wp2_with fail
              refine (refArrivals_any _ _ _ _ g (k : Int) (j : Int) _ (hG.ext hbwr) (place_ok hV (by omega) (by omega) (by omega) (by omega))).mono ?_
              rintro e w4 ⟨l1, A1, d1, HE1, rfl, hA1, hm1, hb4⟩
              have hown := hown.keep (fun b cs h => (Blk.go h hb4).1)
              have hb := ext_trans hb hb4
              have hn1 := HE1.out.1
              rw [hn1]
              have HN1 := Lib.hid hn1
              clear hb4 f1 f2 f3 B0 hzs hn1 hbwr
              obtain ⟨b1, o1, rfl, hz1', hx1⟩ := hA1.cells (by rw [HN1.out]; omega)
              have y1 := hx1 v.toNat (by rw [HN1.out]; omega)
              clear hx1 hA1
              obtain ⟨z, hz⟩ : ∃ z, gi l1 v.toNat = z := ⟨_, rfl⟩
              have HZ := Lib.hid hz
              rw [hz] at y1
              clear hz
              by_cases hzs2 : z ≤ s
              case pos =>
                have hd3 : decide (z ≤ s) = true := by simpa using hzs2
                have HN2 : Hid (DepN g v s k ((j : Int) + 1) j) := Lib.hid (HN.out.take ⟨by omega, by omega, HA2.out, l1, HE1.out, by rw [HZ.out]; exact hzs2⟩)
                clear hzs2
                go_wp2_with fail
                go_roundw
                case rel => exact ⟨j + 1, j, by omega, by go_num, rfl, Lib.hid fun _ => by have := HN2.out; simpa using this, Lib.hid (HM.out j), hown, hb⟩
                case measure => have := HLJ.out; simp [intOf]; omega
              case neg =>
                have hd3 : decide (z ≤ s) = false := by simpa using hzs2
                have HN2 : Hid (DepN g v s k ((j : Int) + 1) nn) := Lib.hid (HN.out.skip fun ⟨_, _, _, a, ha, hle⟩ => by
                  rw [ha.eq HE1.out, HZ.out] at hle
                  exact hzs2 hle)
                clear hzs2
                go_wp2_with fail
                go_roundw
                case rel => exact ⟨j + 1, nn, by omega, by go_num, rfl, Lib.hid fun _ => by have := HN2.out; simpa using this, Lib.hid (HM.out nn), hown, hb⟩
                case measure => have := HLJ.out; simp [intOf]; omega
end Go.Proofs.Ytcgnalpcbcpmkaa
/- The walk of the law EarlySays. -/
namespace Go.Proofs.Ytcgnalpcbcpmkaa
open Go.RowKit

set_option maxRecDepth 100000 in
set_option maxHeartbeats 8000000 in
theorem earlySays_calls (A A' : Option Addr) (c c' : Nat) (g : GraphD) {w : World} (hG : GraphAt w A c A' c' g) (v : Int) (_hv : I64 v) (t : Int) (_ht : I64 t) :
    Calls Try.prog 20 #[gV A c A' c' g, .int .i64 v, .int .i64 t] w fun e w' => e = .returned (.bool true) ∧ Below w.heap.size w w' := by
  have m1 : g.lives.length ≤ 9223372036854775807 := Nat.le_trans hG.lc hG.cm
  go_enter Try.func20, Try.ntmps20
  go_wp2_with fail
  refine (place_any _ _ _ _ g v t _ (hG.ext (by go_grown))).mono ?_
  by_cases h0 : placeErr g v t = 0
  case neg =>
    have hn : (placeErr g v t == 0) = false := by simpa using h0
    have H0 := Lib.hid h0
    clear h0
    rintro e w1 ⟨rfl, hb1⟩
    obtain ⟨B0, c1, c2, c3⟩ := (Blk.new w 28 (gC A c A' c' g)).go hb1
    have hbw : Below w.heap.size w w1 := ext_trans (by go_grown) hb1
    clear hb1
    go_wp2_with fail
    refine (arrivals_any _ _ _ _ g v t _ (hG.ext hbw)).mono ?_
    rintro e w2 ⟨l1, A1, d1, hl1, rfl, _, _, hb2⟩
    obtain rfl := arr_bad H0.out hl1
    obtain ⟨B0, c1, c2, c3⟩ := B0.go hb2
    have hbw := ext_trans hbw hb2
    clear hb2 hl1
    go_wp2_with fail
    refine (departures_any _ _ _ _ g v t _ (hG.ext hbw)).mono ?_
    rintro e w3 ⟨l2, A2, d2, hl2, rfl, _, _, hb2⟩
    obtain rfl := dep_bad H0.out hl2
    have hbw := ext_trans hbw hb2
    clear hb2 hl2 B0 c1 c2 c3
    go_wp2_with fail
    refine (equalNil_any _ _ _ _ _).mono ?_
    rintro e w4 ⟨rfl, hb2⟩
    have hbw := ext_trans hbw hb2
    clear hb2
    go_wp2_with fail
    refine (equalNil_any _ _ _ _ _).mono ?_
    rintro e w5 ⟨rfl, hb2⟩
    have hbw := ext_trans hbw hb2
    clear hb2
    go_wp2_with fail
    go_ret
    exact ⟨by simp, hbw⟩
  case pos =>
    have H0 := Lib.hid h0
    clear h0
    rw [H0.out]
    rintro e w1 ⟨rfl, hb1⟩
    obtain ⟨B0, c1, c2, c3⟩ := (Blk.new w 28 (gC A c A' c' g)).go hb1
    have hbw : Below w.heap.size w w1 := ext_trans (by go_grown) hb1
    clear hb1
    have S0 : w1.cell? ⟨w.heap.size, 0, none⟩ = some (.int .i64 g.h) ∧ w1.cell? ⟨w.heap.size, 1, none⟩ = some (.slice A g.lives.length c) ∧ w1.cell? ⟨w.heap.size, 2, none⟩ = some (.slice A' g.edges.length c') := ⟨c1 0, c1 1, c1 2⟩
    have hz1 := hbw.size
    have hGw := hG.ext hbw
    have HBW := Lib.hid hbw
    have HG0 := Lib.hid hG
    clear hG hbw
    go_wp2_with fail
    go_region_held3 (fun w' => w'.cell? ⟨w.heap.size, 0, none⟩ = some (.int .i64 g.h) ∧ w'.cell? ⟨w.heap.size, 1, none⟩ = some (.slice A g.lives.length c) ∧ w'.cell? ⟨w.heap.size, 2, none⟩ = some (.slice A' g.edges.length c'))
      (first | exact S0 | (refine keep3 ?_ S0; go_grown))
      (first
        | (go_at_call 77; refine (refArrivals_any _ _ _ _ g v t _ (hGw.ext (by go_grown)) H0.out).mono ?_; rintro e w2 ⟨l1, A1, d1, HE1, rfl, hA1, hm1, hq1⟩; have hb61 : Below w1.heap.size w1 w2 := ext_trans (by go_grown) hq1; have hz61 := hb61.size; obtain ⟨hc61, hf61⟩ := bcell hq1)
        | (go_at_call 81; refine (refDepartures_any _ _ _ _ g v t _ (hGw.ext (by go_grown)) H0.out).mono ?_; rintro e w3 ⟨l2, A2, d2, HL2, rfl, hA2, hm2, hq2⟩; have hb62 : Below w1.heap.size w1 w3 := ext_trans (by go_grown) hq2; have hz62 := hb62.size; obtain ⟨hc62, hf62⟩ := bcell hq2))
    · obtain ⟨B0, c1, c2, c3⟩ := B0.go hb62
      have hbw := ext_trans HBW.out hb62
      have hA1 := hA1.ext RInt.stable (ext_trans (by go_grown) hq2)
      clear hq1 hq2 hc61 hf61 hc62 hf62 hb61 hb62 S0
      go_wp2_with fail
      refine (arrivals_any _ _ _ _ g v t _ (HG0.out.ext hbw)).mono ?_
      rw [H0.out]
      rintro e w4 ⟨l3, A3, d3, hl3, rfl, hA3, hm3, hb2⟩
      have HQ1 := Lib.hid ((arr_good H0.out hl3).eq HE1.out)
      obtain ⟨B0, c1, c2, c3⟩ := B0.go hb2
      have hbw := ext_trans hbw hb2
      have hA1 := hA1.ext RInt.stable hb2
      have hA2 := hA2.ext RInt.stable hb2
      rw [HQ1.out] at hA3 hm3 ⊢
      clear hb2 hl3
      go_wp2_with fail
      refine (departures_any _ _ _ _ g v t _ (HG0.out.ext hbw)).mono ?_
      rw [H0.out]
      rintro e w5 ⟨l4, A4, d4, hl4, rfl, hA4, hm4, hb2⟩
      have HQ2 := Lib.hid (HL2.out l4 (dep_good H0.out hl4))
      have hbw := ext_trans hbw hb2
      have hA1 := hA1.ext RInt.stable hb2
      have hA2 := hA2.ext RInt.stable hb2
      have hA3 := hA3.ext RInt.stable hb2
      rw [HQ2.out] at hA4 hm4 ⊢
      clear hb2 hl4 B0 c1 c2 c3
      go_wp2_with fail
      refine (equalSame_any _ _ _ _ l1 _ _ _ hA3 hA1 hm3 rfl rfl).mono ?_
      rintro e w6 ⟨rfl, hb2⟩
      have hbw := ext_trans hbw hb2
      have hA2 := hA2.ext RInt.stable hb2
      have hA4 := hA4.ext RInt.stable hb2
      clear hb2
      go_wp2_with fail
      refine (equalSame_any _ _ _ _ l2 _ _ _ hA4 hA2 hm4 rfl rfl).mono ?_
      rintro e w7 ⟨rfl, hb2⟩
      have hbw := ext_trans hbw hb2
      clear hb2
      go_wp2_with fail
      go_ret
      exact ⟨by simp, hbw⟩
end Go.Proofs.Ytcgnalpcbcpmkaa
