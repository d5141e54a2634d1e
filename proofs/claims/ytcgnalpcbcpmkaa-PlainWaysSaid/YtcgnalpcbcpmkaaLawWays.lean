/- The walk of the law PlainWays. -/
import Derived.Test.YtcgnalpcbcpmkaaAnyArc
import Derived.BigQuiet
namespace Go.Proofs.Ytcgnalpcbcpmkaa
open Go.RowKit

theorem SlAt.cells {w : World} {A : Option Addr} {l : List Int} (h : SlAt RInt 1 w A l) (h0 : 0 < l.length) : ∃ b off, A = some ⟨b, off, none⟩ ∧ b < w.heap.size ∧ ∀ i, i < l.length → w.cell? ⟨b, off + i, none⟩ = some (.int .i64 (gi l i)) := by
  obtain ⟨b, off, h⟩ := h
  obtain ⟨rfl, hb, _⟩ := h 0 _ (gi_get h0)
  refine ⟨b, off, rfl, hb, fun i hi => ?_⟩
  obtain ⟨_, _, h2, _⟩ := h i _ (gi_get hi)
  simpa [cellIs] using h2
theorem sum_bound : ∀ (l : List Int), (∀ x, x ∈ l → x = Far ∨ 0 ≤ x ∧ x ≤ 30) → 0 ≤ sumNear l ∧ sumNear l ≤ 30 * l.length
  | [], _ => by simp [sumNear]
  | x :: l, h => by
    have ih := sum_bound l fun y hy => h y (by simp [hy])
    have hx := h x (by simp)
    simp only [sumNear, List.length_cons]
    split
    · omega
    · rcases hx with hx | hx
      · contradiction
      · omega
theorem degrees_mem {s : SnapD} (hn : s.arcs.length ≤ 30) : ∀ x, x ∈ degreesD s → x = Far ∨ 0 ≤ x ∧ x ≤ 30 := by
  intro x hx
  simp only [degreesD, List.mem_map] at hx
  obtain ⟨k, _, rfl⟩ := hx
  have := outOf_bound k s.arcs
  split
  · right; omega
  · left; rfl
theorem sum_take {l : List Int} {k : Nat} (h : k < l.length) : sumNear (l.take (k + 1)) = sumNear (l.take k) + (if gi l k = Far then 0 else gi l k) := by
  rw [List.take_add_one, gi_get h, sumNear_append]
  simp [sumNear]
theorem enters_by : Enters Try.prog 57 := enters_of Try.func57 (by kernel_rfl) rfl
theorem waysErr_in {s : SnapD} {v : Int} (h : shotErr s = 0) (h0 : waysErr s v = 0) : 0 ≤ v ∧ v < s.alive.length := by
  refine Classical.byContradiction fun hn => ?_
  rw [waysErr_none h hn] at h0
  simp at h0
theorem row_ok : shotErr rowD = 0 := by decide
theorem row_waysErr : waysErr rowD 0 = 0 := by decide
def WaysAll (s : SnapD) (v : Int) (lc lh : List Int) : Prop := waysErr s v = 0 → WaysL s wCost v lc ∧ WaysL s wOne v lh

set_option maxRecDepth 100000 in
set_option maxHeartbeats 16000000 in
theorem plainWays_calls (A A' : Option Addr) (c c' : Nat) (s : SnapD) {w : World} (hS : SnapAt w A c A' c' s) (v : Int) (_hv : I64 v) :
    Calls Try.prog 9 #[snapV A c A' c' s, .int .i64 v] w fun e w' => e = .returned (.bool true) ∧ Below w.heap.size w w' := by
  have m1 : s.alive.length ≤ 9223372036854775807 := Nat.le_trans hS.lc hS.cm
  have m2 : s.arcs.length ≤ 9223372036854775807 := Nat.le_trans hS.lc' hS.cm'
  go_enter Try.func9, Try.ntmps9
  go_wp2_with fail
  refine (row_any _).mono ?_
  rintro e w1 ⟨Ar, cr, Ar', cr', rfl, hSr, hb1⟩
  obtain ⟨B0, c1, c2, c3⟩ := (Blk.new w 51 (snapC A c A' c' s)).go hb1
  have hb2 : Below w.heap.size w w1 := ext_trans (by go_grown) hb1
  clear hb1
  go_wp2_with fail
  refine (costs_any _ _ _ _ rowD 0 _ hSr).mono ?_
  intro e w2 hr
  obtain ⟨lr, A1, d1, HQ, rfl, hA1, hq1, hb3⟩ := ints_good (Q := fun l => l = [0, 4, 9]) hr row_waysErr (fun _ hl => row_ways (ways_good row_waysErr hl))
  obtain rfl := HQ.out
  obtain ⟨B0, c1, c2, c3⟩ := B0.go hb3
  have hb2 := ext_trans hb2 hb3
  clear hb3 hr hSr
  go_wp2_with fail
  refine (equalSame_any _ _ _ _ [0, 4, 9] _ _ _ (hA1.ext RInt.stable (by go_grown)) (IRow.slAt (Blk.new_ rfl) (fun k hk => ?_)) (by simp [maxLen]) rfl rfl).mono ?_
  · match k, hk with
    | 0, _ => exact ⟨by decide, by decide⟩
    | 1, _ => exact ⟨by decide, by decide⟩
    | 2, _ => exact ⟨by decide, by decide⟩
    | k + 3, hk => exact absurd hk (by simp)
  rintro e w3 ⟨rfl, hb3⟩
  have hb3 : Below w2.heap.size w2 w3 := ext_trans (by go_grown) hb3
  obtain ⟨B0, c1, c2, c3⟩ := B0.go hb3
  have hb2 := ext_trans hb2 hb3
  clear hb3 hA1 hq1 HQ
  go_wp2_with fail
  refine (costs_any _ _ _ _ s v _ (hS.ext hb2)).mono ?_
  rintro e w4 ⟨lc, Ac, cc, hWc, rfl, hC, hmc, hb3⟩
  have HWC := Lib.hid hWc
  obtain ⟨B0, c1, c2, c3⟩ := B0.go hb3
  have hb2 := ext_trans hb2 hb3
  obtain ⟨er, her⟩ : ∃ er, waysErr s v = er := ⟨_, rfl⟩
  rw [her]
  have HER := Lib.hid her
  clear hb3 hWc her
  go_wp2_with fail
  refine (hops_any _ _ _ _ s v _ (hS.ext (ext_alloc hb2 _))).mono ?_
  rintro e w5 ⟨lh, Ah, ch, hWh, rfl, hH, hmh, hb3⟩
  have HWH := Lib.hid hWh
  rw [HER.out]
  have B7 := (Blk.new w4 53 #[.slice Ac lc.length cc]).ext hb3
  obtain ⟨B0, c1, c2, c3⟩ := (B0.alloc (Obj.cells #[.slice Ac lc.length cc] 53)).go hb3
  have hb2 := ext_trans (ext_alloc hb2 _) hb3
  have hb3 : Below w4.heap.size w4 w5 := ext_trans (by go_grown) hb3
  have hC := hC.ext RInt.stable hb3
  have hz7 : w.heap.size ≤ w4.heap.size := by omega
  clear hb3 hWh
  go_wp2_with fail
  refine (labels_any _ _ _ _ s _ (hS.ext hb2)).mono ?_
  rintro e w6 ⟨ll, Al, cl, hWl, rfl, hL, hml, hb3⟩
  have HWL := Lib.hid hWl
  obtain ⟨B0, c1, c2, c3⟩ := B0.go hb3
  have hb2 := ext_trans hb2 hb3
  have hC := hC.ext RInt.stable hb3
  have hH := hH.ext RInt.stable hb3
  have B7 := B7.ext hb3
  clear hb3 hWl
  go_wp2_with fail
  refine (degrees_any _ _ _ _ s _ (hS.ext hb2)).mono ?_
  rintro e w7 ⟨ld, Ad, cd, hWd, rfl, hD, hmd, hb3⟩
  have HWD := Lib.hid hWd
  obtain ⟨B0, c1, c2, c3⟩ := B0.go hb3
  have hb2 := ext_trans hb2 hb3
  have hC := hC.ext RInt.stable hb3
  have hH := hH.ext RInt.stable hb3
  have hL := hL.ext RInt.stable hb3
  have B7 := B7.ext hb3
  clear hb3 hWd
  by_cases h0 : shotErr s = 0
  case neg =>
    have hn : (shotErr s != 0) = true := by simp [h0]
    obtain rfl : shotErr s = er := by rw [← waysErr_bad h0]; exact HER.out
    clear h0
    go_wp2_with fail
    go_ret
    exact ⟨rfl, hb2⟩
  have hok := snapOk_of h0
  have hn12 := hok.nv
  have hna := hok.na
  have HLL := Lib.hid (labels_good h0 HWL.out)
  have HDD := Lib.hid (degrees_good h0 HWD.out)
  have hnd : ld.length = s.alive.length := by rw [HDD.out]; simp [degreesD]
  have hnl : ll.length = s.alive.length := HLL.out.1
  rw [hnd, hnl, h0]
  have HND := Lib.hid hnd
  have HNL := Lib.hid hnl
  have HSM := Lib.hid (degrees_sum hok)
  clear hnd hnl HWL HWD
  rw [HDD.out] at hD hmd
  clear HND HDD
  have HND : Hid ((degreesD s).length = s.alive.length) := Lib.hid (by simp [degreesD])
  obtain ⟨ld2, hld⟩ : ∃ x, degreesD s = x := ⟨_, rfl⟩
  have HMEM : Hid (∀ x, x ∈ degreesD s → x = Far ∨ 0 ≤ x ∧ x ≤ 30) := Lib.hid (degrees_mem hna)
  have HFAR : Hid (∀ k, k < s.alive.length → (gi (degreesD s) k = Far ↔ ¬ s.alive[k]? = some true)) := Lib.hid (fun k hk => degree_far hok hk)
  rw [hld] at hD hmd HND HSM HMEM HFAR
  have H0 := Lib.hid h0
  clear hld h0
  go_wp2_with fail
  obtain ⟨wo, rfl⟩ : ∃ wo : World, wo = w7 := ⟨_, rfl⟩
  go_loopw [15, 81] (fun z x wr => ∃ (k : Nat) (n : Int), k ≤ s.alive.length ∧ z = .int .i64 n ∧ x = .int .i64 k ∧ Hid (n = sumNear (ld2.take k)) ∧ wr = wo) (fun _ x _ => s.alive.length - (intOf x).toNat)
  case atStart => exact ⟨0, 0, Nat.zero_le _, rfl, rfl, Lib.hid rfl, rfl⟩
  case round =>
    obtain ⟨k, n, hk, rfl, rfl, HZ, he⟩ := hrel
    have he := he.symm
    subst he
    by_cases hlt : k < s.alive.length
    case pos =>
      obtain ⟨bd, od, rfl, hbd, hcd⟩ := hD.cells (by rw [HND.out]; omega)
      obtain ⟨bl, ol, rfl, hbl, hcl⟩ := hL.cells (by rw [HNL.out]; omega)
      have hd1 := hcd k (by rw [HND.out]; exact hlt)
      have hl1 := hcl k (by rw [HNL.out]; exact hlt)
      have HF := Lib.hid (HFAR.out k hlt)
      have HL2 := Lib.hid (labels_dead hok HLL.out hlt)
      have HST := Lib.hid (sum_take (l := ld2) (k := k) (by rw [HND.out]; exact hlt))
      have HMM := Lib.hid (HMEM.out (gi ld2 k) (List.mem_of_getElem? (gi_get (by rw [HND.out]; exact hlt))))
      have HSB := Lib.hid (sum_bound (ld2.take k) fun x hx => HMEM.out x (List.mem_of_mem_take hx))
      clear hcd hcl
      obtain ⟨d, hd⟩ : ∃ d, gi ld2 k = d := ⟨_, rfl⟩
      obtain ⟨y, hy⟩ : ∃ y, gi ll k = y := ⟨_, rfl⟩
      rw [hd] at hd1 HF HST HMM
      rw [hy] at hl1 HL2
      clear hd hy
      by_cases hal : s.alive[k]? = some true
      case pos =>
        have hd2 : ¬ d = 1099511627776 := fun e => HF.out.1 e hal
        have hy2 : ¬ y = 1099511627776 := fun e => HL2.out.1.1 e hal
        have hy3 : y ≤ (k : Int) := HL2.out.2 hy2
        have hd3 : 0 ≤ d ∧ d ≤ 30 := by rcases HMM.out with h | h; (exact absurd h hd2); exact h
        have hdb : (d != 1099511627776) = true := by simp [hd2]
        have hdb2 : (d == 1099511627776) = false := by simp [hd2]
        have hyb : (y != 1099511627776) = true := by simp [hy2]
        have hyb2 : (y == 1099511627776) = false := by simp [hy2]
        have hyb3 : decide (y > (k : Int)) = false := by simpa using hy3
        obtain ⟨hd3, hd4⟩ := hd3
        have hs1 := HSB.out.1
        have hs2 := HSB.out.2
        rw [← HZ.out] at hs1 hs2
        have hs3 : n ≤ 360 := by have : (ld2.take k).length ≤ 12 := by { rw [List.length_take]; omega }; omega
        clear hs2
        have hwrap : IntKind.i64.wrap (n + d) = n + d := IntWalk.i64_in _ (by omega)
        have HN : Hid (n + d = sumNear (ld2.take (k + 1))) := Lib.hid (by have e : ¬ d = Far := hd2; rw [HST.out, if_neg e, HZ.out])
        clear hal hd2 hy2 hy3
        go_wp2_with fail
        go_roundw
        case rel => exact ⟨k + 1, n + d, by omega, rfl, by go_num, HN, trivial⟩
        case measure => simp [intOf]; omega
      case neg =>
        have hd2 : d = 1099511627776 := HF.out.2 hal
        have hy2 : y = 1099511627776 := HL2.out.1.2 hal
        subst hd2
        subst hy2
        have HN : Hid (n = sumNear (ld2.take (k + 1))) := Lib.hid (by rw [HST.out, HZ.out]; simp [Far])
        clear hal
        go_wp2_with fail
        go_roundw
        case rel => exact ⟨k + 1, n, by omega, rfl, by go_num, HN, trivial⟩
        case measure => simp [intOf]; omega
    case neg =>
      have hzn : n = (s.arcs.length : Int) := by rw [HZ.out, List.take_of_length_le (by rw [HND.out]; omega)]; exact HSM.out
      subst hzn
      clear HZ HSM HMEM HFAR HND hD hmd
      obtain ⟨bz, oz, hAr⟩ := hS.arcs
      go_wp2_with fail
      go_loopw [123] (fun x wr => ∃ j : Nat, j ≤ s.arcs.length ∧ x = .int .i64 j ∧ Below wo.heap.size wo wr) (fun x _ => s.arcs.length - (intOf x).toNat)
      case atStart => exact ⟨0, Nat.zero_le _, rfl, Below.refl _ _⟩
      case round =>
        obtain ⟨j, hj, rfl, hbr⟩ := hrel
        by_cases hlt : j < s.arcs.length
        case pos =>
          have hbw := ext_trans hb2 hbr
          obtain ⟨y, hy⟩ := get_lt hlt
          obtain ⟨rfl, hbz1, ⟨⟨x0, x1, x2⟩, _⟩⟩ := hAr j y hy
          have y0 := x0.now hbw
          have y1 := x1.now hbw
          have y2 := x2.now hbw
          have hym := List.mem_of_getElem? hy
          have hyo := hok.arcs y hym
          have HEQ := Lib.hid (labels_arc HLL.out hym)
          have ha0 := hyo.a0
          have ha1 : y.a < (s.alive.length : Int) := by have := hyo.a1; omega
          have hd0 := hyo.b0
          have hd1 : y.b < (s.alive.length : Int) := by have := hyo.b1; omega
          obtain ⟨bl, ol, rfl, hbl, hcl⟩ := hL.cells (by rw [HNL.out]; omega)
          have la := cell_keep hbr (hcl y.a.toNat (by rw [HNL.out]; omega))
          have lb := cell_keep hbr (hcl y.b.toNat (by rw [HNL.out]; omega))
          rw [← HEQ.out] at lb
          obtain ⟨q, hq⟩ : ∃ q, gi ll y.a.toNat = q := ⟨_, rfl⟩
          rw [hq] at la lb
          have hzz : bl < wr.heap.size := Nat.lt_of_lt_of_le hbl hbr.size
          clear hy x0 x1 x2 hcl hq
          go_wp2_with fail
          go_quiet (fail)
          go_wp2_with fail
          go_roundw
          case rel => exact ⟨j + 1, by omega, by go_num, below_drewN (ext_alloc hbr _) _⟩
          case measure => simp [intOf]; omega
        case neg =>
          by_cases he : er = 0
          case neg =>
            have her4 : (er != 0) = true := by simp [he]
            clear he
            go_wp2_with fail
            go_ret
            exact ⟨rfl, ext_trans hb2 hbr⟩
          subst he
          have hwc := ways_good (wt := wCost) HER.out HWC.out
          have hwh := ways_good (wt := wOne) HER.out HWH.out
          have hnc : lc.length = s.alive.length := hwc.1
          have hnh : lh.length = s.alive.length := hwh.1
          rw [hnc] at B7 ⊢
          rw [hnh]
          have HNC := Lib.hid hnc
          have HNH := Lib.hid hnh
          have HC := Lib.hid hwc
          have HH := Lib.hid hwh
          clear hnc hnh hwc hwh HWC HWH
          have hbw := ext_trans hb2 hbr
          have B7 := B7.ext hbr
          obtain ⟨B0, c1, c2, c3⟩ := B0.go hbr
          have hC := hC.ext RInt.stable hbr
          have hH := hH.ext RInt.stable hbr
          have hL := hL.ext RInt.stable hbr
          have hcp : ∀ i, 0 ≤ gi lc i := ways_pos (fun a ha => (hok.arcs a ha).c0) HC.out
          have hhp : ∀ i, 0 ≤ gi lh i := ways_pos (fun a ha => by simp [wOne]) HH.out
          have HCP := Lib.hid hcp
          have HHP := Lib.hid hhp
          have HCB := Lib.hid (ways_big HC.out)
          have HHB := Lib.hid (ways_big HH.out)
          clear hb2 hbr hcp hhp
          have hv := waysErr_in H0.out HER.out
          obtain ⟨hv0, hv1⟩ := hv
          go_wp2_with fail
          obtain ⟨wp, rfl⟩ : ∃ wp : World, wp = wr := ⟨_, rfl⟩
          go_loopw [151] (fun x wr => ∃ j : Nat, j ≤ s.arcs.length ∧ x = .int .i64 j ∧ Below wp.heap.size wp wr) (fun x _ => s.arcs.length - (intOf x).toNat)
          case atStart => exact ⟨0, Nat.zero_le _, rfl, Below.refl _ _⟩
          case round =>
            obtain ⟨j, hj, rfl, hbr⟩ := hrel
            have B7r := B7.ext hbr
            obtain ⟨f1, f2, f3⟩ := B7r.facts
            obtain ⟨B0r, c1, c2, c3⟩ := B0.go hbr
            by_cases hlt : j < s.arcs.length
            case pos =>
              have hbw2 := ext_trans hbw hbr
              obtain ⟨y, hy⟩ := get_lt hlt
              obtain ⟨rfl, hbz1, ⟨⟨x0, x1, x2⟩, _⟩⟩ := hAr j y hy
              have y0 := x0.now hbw2
              have y1 := x1.now hbw2
              have y2 := x2.now hbw2
              have hym := List.mem_of_getElem? hy
              have hyo := hok.arcs y hym
              have HE1 := Lib.hid (ways_arc HC.out hym)
              have HE2 := Lib.hid (ways_arc HH.out hym)
              have ha0 := hyo.a0
              have ha1 : y.a < (s.alive.length : Int) := by have := hyo.a1; omega
              have hd0 := hyo.b0
              have hd1 : y.b < (s.alive.length : Int) := by have := hyo.b1; omega
              have hk0 := hyo.c0
              have hk1 := hyo.c1
              obtain ⟨bc, oc, rfl, hbc, hcc⟩ := hC.cells (by rw [HNC.out]; omega)
              obtain ⟨bh, oh, rfl, hbh, hch⟩ := hH.cells (by rw [HNH.out]; omega)
              have ca := cell_keep hbr (hcc y.a.toNat (by rw [HNC.out]; omega))
              have cb := cell_keep hbr (hcc y.b.toNat (by rw [HNC.out]; omega))
              have ka := cell_keep hbr (hch y.a.toNat (by rw [HNH.out]; omega))
              have kb := cell_keep hbr (hch y.b.toNat (by rw [HNH.out]; omega))
              have p1 := HCP.out y.a.toNat
              have p2 := HCB.out y.a.toNat
              have p3 := HHP.out y.a.toNat
              have p4 := HHB.out y.a.toNat
              simp only [Far] at p2 p4
              simp only [wCost, wOne] at HE1 HE2
              have hzc : bc < wr.heap.size := Nat.lt_of_lt_of_le hbc hbr.size
              have hzh : bh < wr.heap.size := Nat.lt_of_lt_of_le hbh hbr.size
              obtain ⟨p, hp⟩ : ∃ p, gi lc y.a.toNat = p := ⟨_, rfl⟩
              obtain ⟨q, hq⟩ : ∃ q, gi lc y.b.toNat = q := ⟨_, rfl⟩
              obtain ⟨u, hu⟩ : ∃ u, gi lh y.a.toNat = u := ⟨_, rfl⟩
              obtain ⟨z, hz⟩ : ∃ z, gi lh y.b.toNat = z := ⟨_, rfl⟩
              rw [hp, hq] at HE1
              rw [hu, hz] at HE2
              rw [hp] at ca p1 p2
              rw [hq] at cb
              rw [hu] at ka p3 p4
              rw [hz] at kb
              have hw1 : IntKind.i64.wrap (p + y.cost) = p + y.cost := IntWalk.i64_in _ (by omega)
              have hw2 : IntKind.i64.wrap (u + 1) = u + 1 := IntWalk.i64_in _ (by omega)
              have hq1 : decide (q > p + y.cost) = false := by have := HE1.out; simpa using this
              have hq2 : decide (z > u + 1) = false := by have := HE2.out; simpa using this
              clear hy x0 x1 x2 hcc hch hp hq hu hz
              go_wp2_with fail
              go_quiet (fail)
              go_wp2_with fail
              go_roundw
              case rel => exact ⟨j + 1, by omega, by go_num, below_drewN (ext_alloc hbr _) _⟩
              case measure => simp [intOf]; omega
            case neg =>
              have hbw := ext_trans hbw hbr
              have hC := hC.ext RInt.stable hbr
              have hH := hH.ext RInt.stable hbr
              have hL := hL.ext RInt.stable hbr
              clear hbr
              go_wp2_with fail
              obtain ⟨wm, rfl⟩ : ∃ wp : World, wp = wr := ⟨_, rfl⟩
              go_loopw [186] (fun x wr => ∃ k : Nat, k ≤ s.alive.length ∧ x = .int .i64 k ∧ Below wm.heap.size wm wr) (fun x _ => s.alive.length - (intOf x).toNat)
              case atStart => exact ⟨0, Nat.zero_le _, rfl, Below.refl _ _⟩
              case round =>
                clear f1 f2 f3 c1 c2 c3
                obtain ⟨k, hk, rfl, hbr⟩ := hrel
                have hbw2 := ext_trans hbw hbr
                have B7s := B7r.ext hbr
                have B0s := B0r.ext hbr
                by_cases hlt : k < s.alive.length
                case neg =>
                  go_wp2_with fail
                  go_ret
                  exact ⟨rfl, hbw2⟩
                obtain ⟨bc, oc, rfl, hbc, hcc⟩ := hC.cells (by rw [HNC.out]; omega)
                obtain ⟨bh, oh, rfl, hbh, hch⟩ := hH.cells (by rw [HNH.out]; omega)
                obtain ⟨bl, ol, rfl, hbl, hcl⟩ := hL.cells (by rw [HNL.out]; omega)
                have ck := cell_keep hbr (hcc k (by rw [HNC.out]; omega))
                have kk := cell_keep hbr (hch k (by rw [HNH.out]; omega))
                have lk := cell_keep hbr (hcl k (by rw [HNL.out]; omega))
                have lv := cell_keep hbr (hcl v.toNat (by rw [HNL.out]; omega))
                have hzc : bc < wr.heap.size := Nat.lt_of_lt_of_le hbc hbr.size
                have HFI := Lib.hid (ways_far_iff hok HC.out HH.out hlt)
                have HFW : Hid (gi lh k < Far → gi lh k < s.alive.length) := Lib.hid (hops_few hok HH.out hlt)
                have HLA : Hid (gi lc k < Far → gi ll k = gi ll v.toNat) := Lib.hid (ways_label hok HC.out HLL.out hlt)
                have HBY : Hid (gi lc k < Far → ¬ (k : Int) = v → s.arcs.any (byArc k lc (gi lc k)) = true) := Lib.hid (fun h1 h2 => by
                  obtain ⟨a, ha, h3, h4, h5⟩ := ways_by hok HC.out hlt h1 h2
                  rw [List.any_eq_true]
                  exact ⟨a, ha, by unfold byArc; rw [decide_eq_true_eq]; exact ⟨h3, h4, h5⟩⟩)
                have hxb := HCB.out k
                have hhb := HHB.out k
                simp only [Far] at hxb hhb
                clear hcc hch hcl
                obtain ⟨x, hx⟩ : ∃ x, gi lc k = x := ⟨_, rfl⟩
                obtain ⟨u, hu⟩ : ∃ u, gi lh k = u := ⟨_, rfl⟩
                obtain ⟨q, hq⟩ : ∃ q, gi ll k = q := ⟨_, rfl⟩
                obtain ⟨z, hz⟩ : ∃ z, gi ll v.toNat = z := ⟨_, rfl⟩
                rw [hx] at ck HFI HLA HBY hxb
                rw [hu] at kk HFI HFW hhb
                rw [hq] at lk HLA
                rw [hz] at lv HLA
                have HX := Lib.hid hx
                clear hx hu hq hz
                obtain ⟨by', hby⟩ : ∃ b, s.arcs.any (byArc k lc x) = b := ⟨_, rfl⟩
                rw [hby] at HBY
                have HB := Lib.hid hby
                clear hby
                have hbq : Below wr.heap.size wr ((wr.alloc (Obj.cells #[.int .i64 k] 3)).alloc (Obj.cells #[.int .i64 x] 3)) := by go_grown
                have Bv : Blk ((wr.alloc (Obj.cells #[.int .i64 k] 3)).alloc (Obj.cells #[.int .i64 x] 3)) wr.heap.size 3 #[.int .i64 k] := (Blk.new _ _ _).alloc _
                have Bx : Blk ((wr.alloc (Obj.cells #[.int .i64 k] 3)).alloc (Obj.cells #[.int .i64 x] 3)) (wr.heap.size + 1) 3 #[.int .i64 x] := Blk.new_ (by simp)
                have hSq := hS.arcs.ext RArc.stable (ext_trans hbw2 hbq)
                have hCq := (hC.ext RInt.stable hbr).ext RInt.stable hbq
                have B7q := B7s.ext hbq
                have hcall := fun a (w' : World) (ha : a ∈ s.arcs) (hb : Below ((wr.alloc (Obj.cells #[.int .i64 k] 3)).alloc (Obj.cells #[.int .i64 x] 3)).heap.size ((wr.alloc (Obj.cells #[.int .i64 k] 3)).alloc (Obj.cells #[.int .i64 x] 3)) w') =>
                  byClo_any a k x lc (some ⟨bc, oc, none⟩) s.alive.length cc _ _ _ w' (Bv.ext hb) (B7q.ext hb) (Bx.ext hb) (hCq.ext RInt.stable hb) HNC.out (hok.arcs a ha).a0 (hok.arcs a ha).a1 hn12 ⟨(hok.arcs a ha).c0, (hok.arcs a ha).c1⟩ HCP.out
                have HCALL := Lib.hid hcall
                clear hcall
                obtain ⟨c1, c2, c3⟩ := B0s.facts
                go_wp2_with fail
                refine (containsArcs_any 57 #[.pointer (some ⟨wr.heap.size, 0, none⟩), .pointer (some ⟨w4.heap.size, 0, none⟩), .pointer (some ⟨wr.heap.size + 1, 0, none⟩)] (byArc k lc x) _ c' s.arcs.length s.arcs _ enters_by hSq rfl hna HCALL.out).mono ?_
                rw [HB.out]
                rintro e w9 ⟨rfl, hb9⟩
                have hbz := ext_trans hbq hb9
                have Bv9 := Bv.ext hb9
                have Bx9 := Bx.ext hb9
                have B7t := B7q.ext hb9
                obtain ⟨c1, c2, c3⟩ := (B0s.ext hbz).facts
                have v0 := Bv9.cell 0
                have x0 := Bx9.cell 0
                simp only [List.getElem?_toArray, List.getElem?_cons_zero] at v0 x0
                have kk := cell_keep hbz kk
                have lk := cell_keep hbz lk
                have lv := cell_keep hbz lv
                have hbr9 := ext_trans hbr hbz
                clear ck hb9 Bv Bx hSq hCq B7q HCALL hbq hbz hbr Bv9 Bx9 B7t
                by_cases hf : x = 1099511627776
                case pos =>
                  obtain rfl : u = 1099511627776 := HFI.out.1 hf
                  subst hf
                  go_wp2_with fail
                  go_quiet (fail)
                  go_wp2_with fail
                  go_roundw
                  case rel => exact ⟨k + 1, by omega, by go_num, below_drewN hbr9 _⟩
                  case measure => simp [intOf]; omega
                have hu : ¬ u = 1099511627776 := fun e => hf (HFI.out.2 e)
                have hx1 : x < 1099511627776 := by omega
                have hu1 : u < s.alive.length := HFW.out (by simp only [Far]; omega)
                obtain rfl := HLA.out hx1
                have hxe : (x == 1099511627776) = false := by simp [hf]
                have hue : (u == 1099511627776) = false := by simp [hu]
                have hxd : decide (x < 1099511627776) = true := by simpa using hx1
                have hud : decide (u ≥ (s.alive.length : Int)) = false := by simpa using hu1
                by_cases hkv : (k : Int) = v
                case pos =>
                  have hke : ((k : Int) != v) = false := by simp [hkv]
                  clear hf hu hkv
                  go_wp2_with fail
                  go_quiet (fail)
                  go_wp2_with fail
                  go_roundw
                  case rel => exact ⟨k + 1, by omega, by go_num, below_drewN hbr9 _⟩
                  case measure => simp [intOf]; omega
                case neg =>
                  have hke : ((k : Int) != v) = true := by simp [hkv]
                  obtain rfl : by' = true := HBY.out hx1 hkv
                  clear hf hu hkv
                  go_wp2_with fail
                  go_quiet (fail)
                  go_wp2_with fail
                  go_roundw
                  case rel => exact ⟨k + 1, by omega, by go_num, below_drewN hbr9 _⟩
                  case measure => simp [intOf]; omega
end Go.Proofs.Ytcgnalpcbcpmkaa
