/- The walk of early.Departures. -/
import Derived.Test.YtcgnalpcbcpmkaaArrivals
namespace Go.Proofs.Ytcgnalpcbcpmkaa
open Go.RowKit

def DepOut (g : GraphD) (v t : Int) (l : List Int) : Prop := if placeErr g v t = 0 then LateL g v t l else l = []
theorem LateL.low {g : GraphD} {v t : Int} {l : List Int} (h : LateL g v t l) (ht : 0 ≤ t) (i : Nat) : -1 ≤ gi l i := by
  have h1 : - gi l i ≤ - gi (startL g v t) i := h.2.1.1 i
  have h2 := startL_low (g := g) (v := v) ht i
  omega
theorem LateL.high {g : GraphD} {v t : Int} {l : List Int} (hV : Valid g) (h : LateL g v t l) (ht : t ≤ 100) (i : Nat) : gi l i ≤ 100 := late_high hV ht h.2.2 i
theorem fill_minus {n : Nat} {l : List Int} (hl : l.length = n) (h : ∀ i, i < n → gi l i = -1) : l = List.replicate n (-1) :=
  gi_eq_of (by simp [hl]) fun i hi => by rw [h i (by omega)]; exact (gi_of (by simp [hl ▸ hi])).symm

set_option maxRecDepth 100000 in
set_option maxHeartbeats 8000000 in
theorem departures_any (A A' : Option Addr) (c c' : Nat) (g : GraphD) (v t : Int) (w : World) (hG : GraphAt w A c A' c' g) :
    Calls Try.prog 74 #[gV A c A' c' g, .int .i64 v, .int .i64 t] w (IntsOut (DepOut g v t) (placeErr g v t) w) := by
  by_cases h0 : placeErr g v t = 0
  case neg =>
    have H0 := Lib.hid h0
    have hn : (placeErr g v t != 0) = true := by simp [h0]
    clear h0
    go_enter Try.func74, Try.ntmps74
    go_wp2_with fail
    refine (out_any _ _ _ _ g v t _ (hG.ext (by go_grown))).mono ?_
    rintro e w1 ⟨Ao, co, rfl, hSo, hmo, hb1⟩
    go_wp2_with fail
    go_ret2
    exact ⟨[], none, 0, by unfold DepOut; rw [if_neg H0.out], rfl, SlAt.nil, by simp, ext_trans (by go_grown) hb1⟩
  obtain ⟨hV, ⟨hv0, hv1⟩, ht0, ht1⟩ := place_of h0
  have H0 := Lib.hid h0
  have hh1 := hV.h1
  have hn12 := hV.nl
  have hmk := make_ints g.lives.length (by omega)
  clear h0
  go_enter Try.func74, Try.ntmps74
  go_wp2_with fail
  refine (out_any _ _ _ _ g v t _ (hG.ext (by go_grown))).mono ?_
  rw [H0.out]
  rintro e w1 ⟨Ao, co, rfl, hSo, hmo, hb1⟩
  obtain ⟨B0, c1, c2, c3⟩ := (Blk.new w 28 (gC A c A' c' g)).go hb1
  have hbw : Below w.heap.size w w1 := ext_trans (by go_grown) hb1
  clear hb1 hSo hmo
  go_wp2_with fail
  have hT := IRow.made (w := w1) (n := g.lives.length) rfl
  have B0 := B0.alloc (Obj.cells (madeCells #[Value.int IntKind.i64 0] g.lives.length) 3)
  have hbw := ext_alloc hbw (Obj.cells (madeCells #[Value.int IntKind.i64 0] g.lives.length) 3)
  have hbd : w.heap.size < w1.heap.size := c3
  clear c1 c2 c3
  go_loopw [32] (fun x wr => ∃ (k : Nat) (l : List Int), k ≤ g.lives.length ∧ x = .int .i64 k ∧ Hid (l.length = g.lives.length ∧ ∀ i, i < k → gi l i = -1) ∧ IRow wr w1.heap.size l ∧ Blk wr w.heap.size 28 (gC A c A' c' g) ∧ Below w.heap.size w wr)
    (fun x _ => g.lives.length - (intOf x).toNat)
  case atStart => exact ⟨0, _, Nat.zero_le _, rfl, Lib.hid ⟨by simp, fun i h => by omega⟩, hT, B0, hbw⟩
  case round =>
    clear hT B0 hbw
    obtain ⟨k, l, hk, rfl, HL, hT, B0, hbw⟩ := hrel
    by_cases hlt : k < g.lives.length
    case pos =>
      have hc := hT.cell (k := k) (by rw [HL.out.1]; exact hlt)
      have hf := Blk.frozen hT k
      go_wp2_with fail
      go_roundw
      case rel =>
        refine ⟨k + 1, l.set k (-1), by omega, by go_num, Lib.hid ⟨by simp [HL.out.1], fun i hi => ?_⟩, hT.set k (-1), B0.far (by simp; omega) _, hbw.setCell (by simp; omega) _⟩
        rw [gi_set (by rw [HL.out.1]; exact hlt)]
        by_cases e : i = k
        · rw [e, upd_at]
        · rw [upd_ne _ _ e]; exact HL.out.2 i (by omega)
      case measure => simp [intOf]; omega
    case neg =>
      have HR := Lib.hid (fill_minus HL.out.1 (fun i hi => HL.out.2 i (by omega)))
      rw [HR.out] at hT
      clear HL HR hmk
      obtain ⟨e1, e2, e3⟩ := B0.facts
      cases hal : aliveB g v t
      case false =>
        have HA := Lib.hid hal
        have HLN := Lib.hid (late_none hal ht0 hV)
        clear hal
        go_wp2_with fail
        refine (alive_any _ _ _ _ g v t _ (hG.ext hbw) hv0 hv1).mono ?_
        rw [HA.out]
        rintro e w2 ⟨rfl, hb1⟩
        have hT := Blk.ext hT hb1
        have hbw := ext_trans hbw hb1
        go_wp2_with fail
        go_ret2
        rw [H0.out]
        exact ⟨List.replicate g.lives.length (-1), some ⟨w1.heap.size, 0, none⟩, g.lives.length, by unfold DepOut; rw [if_pos H0.out]; exact HLN.out, by rw [List.length_replicate]; rfl, IRow.slAt hT (fun k _ => by have h1 := HLN.out.low ht0 k; have h2 := HLN.out.high hV (by omega) k; exact ⟨by omega, by omega⟩), by simp [maxLen]; omega, hbw⟩
      have HA := Lib.hid hal
      have HST := Lib.hid (startL_is hal hv0 hv1)
      clear hal
      go_wp2_with fail
      refine (alive_any _ _ _ _ g v t _ (hG.ext hbw) hv0 hv1).mono ?_
      rw [HA.out]
      rintro e w2 ⟨rfl, hb1⟩
      have hT := Blk.ext hT hb1
      have B0 := B0.ext hb1
      have hbw := ext_trans hbw hb1
      have hc := IRow.cell hT (k := v.toNat) (by simp; omega)
      have hf := Blk.frozen hT v.toNat
      clear hb1 e1 e2 e3
      go_wp2_with fail
      have hT := IRow.set hT v.toNat t
      rw [HST.out] at hT
      have B0 := B0.far (p := ⟨w1.heap.size, v.toNat, none⟩) (by simp; omega) (.int .i64 t)
      have hbw := hbw.setCell (p := ⟨w1.heap.size, v.toNat, none⟩) (by simp; omega) (.int .i64 t)
      clear hc hf
      go_loopg [12] (left (startL g v t) + 1) (fun gk m wr => ∃ (b : Bool) (l : List Int), m = .bool b ∧ Hid ((b = true → left l < gk ∧ TMid g v t l l false 0) ∧ (b = false → LateL g v t l)) ∧ Hid (l.length = g.lives.length) ∧
        IRow wr w1.heap.size l ∧ Blk wr w.heap.size 28 (gC A c A' c' g) ∧ Below w.heap.size w wr)
      case atStart => exact ⟨true, _, rfl, Lib.hid ⟨fun _ => ⟨Nat.lt_succ_self _, TMid.start ht0⟩, fun h => by simp at h⟩, Lib.hid (by simp [startL]), hT, B0, hbw⟩
      case round =>
        clear hT B0 hbw
        obtain ⟨m, l, rfl, HN, HLE, hT, B0, hbw⟩ := hrel
        cases m
        case false =>
          have HQ := Lib.hid (HN.out.2 rfl)
          go_wp2_with fail
          go_ret2
          rw [H0.out]
          have hlen := HLE.out
          exact ⟨l, some ⟨w1.heap.size, 0, none⟩, g.lives.length, by unfold DepOut; rw [if_pos H0.out]; exact HQ.out, by rw [hlen]; rfl, IRow.slAt hT (fun k _ => by have h1 := HQ.out.low ht0 k; have h2 := HQ.out.high hV (by omega) k; exact ⟨by omega, by omega⟩), by rw [hlen]; unfold maxLen; omega, hbw⟩
        case true =>
          have HM := Lib.hid (HN.out.1 rfl)
          clear HN HLE
          obtain ⟨e1, e2, e3⟩ := B0.facts
          obtain ⟨bz, oz, hE⟩ := hG.edges
          go_wp2_with fail
          go_loopw [12, 53] (fun m x wr => ∃ (b : Bool) (j : Nat) (l2 : List Int), j ≤ g.edges.length ∧ m = .bool b ∧ x = .int .i64 j ∧ Hid (TMid g v t l l2 b j) ∧
            IRow wr w1.heap.size l2 ∧ Blk wr w.heap.size 28 (gC A c A' c' g) ∧ Below w.heap.size w wr) (fun _ x _ => g.edges.length - (intOf x).toNat)
          case atStart => exact ⟨false, 0, l, Nat.zero_le _, rfl, rfl, Lib.hid HM.out.2, hT, B0, hbw⟩
          case round =>
            clear hT B0 hbw e1 e2 e3
            obtain ⟨m, j, l2, hj, rfl, rfl, HD, hT, B0, hbw⟩ := hrel
            by_cases hlt : j < g.edges.length
            case neg =>
              have HG := Lib.hid HM.out.1
              cases m
              case true =>
                have HT := Lib.hid (HD.out.less rfl)
                go_wp2_with fail
                go_roundg (gk - 1)
                case rel => exact ⟨true, l2, rfl, Lib.hid ⟨fun _ => ⟨by have := HT.out; have := HG.out; omega, HD.out.again⟩, fun h => by simp at h⟩, Lib.hid HD.out.len, hT, B0, hbw⟩
                case measure => have := HG.out; omega
              case false =>
                have HQ := Lib.hid (HD.out.fin (show g.edges.length ≤ j by omega))
                go_wp2_with fail
                go_roundg (gk - 1)
                case rel => exact ⟨false, l2, rfl, Lib.hid ⟨fun h => by simp at h, fun _ => HQ.out⟩, Lib.hid HD.out.len, hT, B0, hbw⟩
                case measure => have := HG.out; omega
            obtain ⟨y, hy⟩ := get_lt hlt
            obtain ⟨rfl, hbz1, ⟨⟨x0, x1, L, cl, x2, hl1, hl2, hL⟩, _⟩⟩ := hE j y hy
            have y0 := x0.now hbw
            have y1 := x1.now hbw
            have y2 := x2.now hbw
            have hyo := hV.edges y (List.mem_of_getElem? hy)
            have HYE := Lib.hid hy
            have ha0 := hyo.a0
            have ha1 := hyo.a1
            have hb0 := hyo.b0
            have hb1 := hyo.b1
            have hl6 := hyo.six
            have hne0 := hV.ne
            have n0 := B0.lt
            have nt := Blk.lt hT
            have hca := hT.cell (k := y.a.toNat) (by rw [HD.out.len]; omega)
            have hcb := hT.cell (k := y.b.toNat) (by rw [HD.out.len]; omega)
            obtain ⟨p', hp'⟩ : ∃ p', gi l2 y.a.toNat = p' := ⟨_, rfl⟩
            obtain ⟨q', hq'⟩ : ∃ q', gi l2 y.b.toNat = q' := ⟨_, rfl⟩
            rw [hp'] at hca
            rw [hq'] at hcb
            have HP' := Lib.hid hp'
            have HQ' := Lib.hid hq'
            obtain ⟨d, hd⟩ : ∃ d, lastT g y q' = d := ⟨_, rfl⟩
            have HDD := Lib.hid hd
            have hdh : d ≤ 100 := by rw [← hd]; exact lastT_high hV
            clear hy x0 x1 x2 hp' hq' hd
            go_wp2_with fail
            obtain ⟨ba, hba⟩ : ∃ ba, ba = wr.heap.size := ⟨_, rfl⟩
            have Ba := Blk.new wr 99 #[.int .i64 y.a, .int .i64 y.b, .slice L y.legs.length cl]
            have hT := irow_alloc hT (Obj.cells #[.int .i64 y.a, .int .i64 y.b, .slice L y.legs.length cl] 99)
            have B0 := B0.alloc (Obj.cells #[.int .i64 y.a, .int .i64 y.b, .slice L y.legs.length cl] 99)
            have hbw := ext_alloc hbw (Obj.cells #[.int .i64 y.a, .int .i64 y.b, .slice L y.legs.length cl] 99)
            rw [← hba] at Ba n0 nt ⊢
            obtain ⟨wa, hwa⟩ : ∃ wa : World, wa = wr.alloc (Obj.cells #[.int .i64 y.a, .int .i64 y.b, .slice L y.legs.length cl] 99) := ⟨_, rfl⟩
            rw [← hwa] at Ba hT B0 hbw ⊢
            clear hba hwa
            have S0 : wa.cell? ⟨w.heap.size, 0, none⟩ = some (.int .i64 g.h) ∧ wa.cell? ⟨w.heap.size, 1, none⟩ = some (.slice A g.lives.length c) ∧ wa.cell? ⟨w.heap.size, 2, none⟩ = some (.slice (some ⟨bz, oz, none⟩) g.edges.length c') ∧ wa.cell? ⟨ba, 0, none⟩ = some (.int .i64 y.a) ∧ wa.cell? ⟨ba, 1, none⟩ = some (.int .i64 y.b) ∧ wa.cell? ⟨ba, 2, none⟩ = some (.slice L y.legs.length cl) ∧ wa.cell? ⟨w1.heap.size, y.b.toNat, none⟩ = some (.int .i64 q') ∧ wa.cell? ⟨w1.heap.size, y.a.toNat, none⟩ = some (.int .i64 p') :=
              ⟨by rw [B0.cell]; rfl, by rw [B0.cell]; rfl, by rw [B0.cell]; rfl, by rw [Ba.cell]; rfl, by rw [Ba.cell]; rfl, by rw [Ba.cell]; rfl, by rw [IRow.cell hT (by rw [HD.out.len]; omega), HQ'.out], by rw [IRow.cell hT (by rw [HD.out.len]; omega), HP'.out]⟩
            clear hca hcb y0 y1 y2
            go_region_held3 (fun w' => w'.cell? ⟨w.heap.size, 0, none⟩ = some (.int .i64 g.h) ∧ w'.cell? ⟨w.heap.size, 1, none⟩ = some (.slice A g.lives.length c) ∧ w'.cell? ⟨w.heap.size, 2, none⟩ = some (.slice (some ⟨bz, oz, none⟩) g.edges.length c') ∧ w'.cell? ⟨ba, 0, none⟩ = some (.int .i64 y.a) ∧ w'.cell? ⟨ba, 1, none⟩ = some (.int .i64 y.b) ∧ w'.cell? ⟨ba, 2, none⟩ = some (.slice L y.legs.length cl) ∧ w'.cell? ⟨w1.heap.size, y.b.toNat, none⟩ = some (.int .i64 q') ∧ w'.cell? ⟨w1.heap.size, y.a.toNat, none⟩ = some (.int .i64 p'))
              (first | exact S0 | exact keep8 hb6 S0)
              (first | (go_at_call 121; refine (last_any _ _ L c c' cl g y q' _ (hG.ext (ext_trans hbw (by go_grown))) hV hyo (hL.ext RLeg.stable (ext_trans hbw (by go_grown))) (by unfold maxLen; omega)).mono ?_; rw [HDD.out]; rintro e w5 ⟨rfl, hb5⟩; have hb6 : Below wa.heap.size wa w5 := ext_trans (by go_grown) hb5))
            have hT := Blk.ext hT hb6
            have B0 := B0.ext hb6
            have Ba := Ba.ext hb6
            have hbw := ext_trans hbw hb6
            have hca := IRow.cell hT (k := y.a.toNat) (by rw [HD.out.len]; omega)
            rw [HP'.out] at hca
            have hfa := Blk.frozen hT y.a.toNat
            obtain ⟨a1, a2, a3⟩ := Ba.facts
            clear S0 hb5 hb6
            by_cases hgt : d > p'
            case pos =>
              have HC := Lib.hid (HD.out.change hV HYE.out (d := d) (by rw [HQ'.out]; exact HDD.out) (by rw [HP'.out]; exact hgt) hdh)
              have hgd : decide (d > p') = true := by simpa using hgt
              go_wp2_with fail
              go_roundw
              case rel => exact ⟨true, j + 1, _, by omega, rfl, by go_num, HC, IRow.set hT _ _, B0.far (by simp; omega) _, hbw.setCell (by simp; omega) _⟩
              case measure => simp [intOf]; omega
            case neg =>
              have HC := Lib.hid (HD.out.same HYE.out (by rw [HQ'.out, HP'.out, HDD.out]; omega))
              have hgd : decide (d > p') = false := by simpa using hgt
              go_wp2_with fail
              go_roundw
              case rel => exact ⟨m, j + 1, l2, by omega, rfl, by go_num, HC, hT, B0, hbw⟩
              case measure => simp [intOf]; omega
end Go.Proofs.Ytcgnalpcbcpmkaa
