/- Several texts in one: Depart, Fill. -/
import Derived.Maps.Own
import Derived.BigRegion
import Derived.Test.YtjcimdpldlamfaaGreatDoorBdb803e228da
import Derived.Test.YtjcimdpldlamfaaGreatDoorBd1aa46607c4
import Derived.Test.YtjcimdpldlamfaaGreatDoorBd3cd328b1d4
import Derived.Test.YtjcimdpldlamfaaGreatDoorBdeeb9e5e53a
/- The walk of early.Departures. -/
namespace Go.Proofs.YtjcimdpldlamfaaGreatDoor
open Go.RowKit

def DepOut (g : GraphD) (v t : Int) (l : List Int) : Prop := if placeErr g v t = 0 then LateL g v t l else l = []
theorem LateL.low {g : GraphD} {v t : Int} {l : List Int} (h : LateL g v t l) (ht : 0 ≤ t) (i : Nat) : -1 ≤ gi l i := by
 have h1 : - gi l i ≤ - gi (startL g v t) i := h.2.1.1 i
 have h2 := startL_low (g := g) (v := v) ht i
 omega
theorem LateL.high {g : GraphD} {v t : Int} {l : List Int} (hV : Valid g) (h : LateL g v t l) (ht : t ≤ 100) (i : Nat) : gi l i ≤ 100 := late_high hV ht h.2.2 i
theorem fill_minus {n : Nat} {l : List Int} (hl : l.length = n) (h : ∀ i, i < n → gi l i = -1) : l = List.replicate n (-1) :=
 gi_eq_of (by simp [hl]) fun i hi => by rw [h i (by omega)]; exact (gi_of (by simp [hl ▸ hi])).symm

set_option maxRecDepth 100000 in
set_option maxHeartbeats 8000000 in
theorem departures_any (A A' : Option Addr) (c c' : Nat) (g : GraphD) (v t : Int) (w : World) (hG : GraphAt w A c A' c' g) :
  Calls Tryz.prog 64 #[gV A c A' c' g, .int .i64 v, .int .i64 t] w (IntsOut (DepOut g v t) (placeErr g v t) w) := by
 by_cases h0 : placeErr g v t = 0
 case neg =>
  have H0 := Lib.hid h0
  have hn : (placeErr g v t != 0) = true := by simp [h0]
  clear h0
  go_enter Tryz.func64, Tryz.ntmps64
  go_wp2_with fail
  refine (out_any _ _ _ _ g v t _ (hG.ext (by go_grown))).mono ?_
  rintro e w1 ⟨Ao, co, rfl, hSo, hmo, hb1⟩
  go_wp2_with fail
  go_ret2
  exact ⟨[], none, 0, by unfold DepOut; rw [if_neg H0.out], rfl, SlAt.nil, by simp, ext_trans (by go_grown) hb1⟩
 obtain ⟨hV, ⟨hv0, hv1⟩, ht0, ht1⟩ := place_of h0
 have H0 := Lib.hid h0
 have hh1 := hV.h1
 have hn12 := hV.nl
 have hmk := make_ints g.lives.length (by omega)
 clear h0
 go_enter Tryz.func64, Tryz.ntmps64
 go_wp2_with fail
 refine (out_any _ _ _ _ g v t _ (hG.ext (by go_grown))).mono ?_
 rw [H0.out]
 rintro e w1 ⟨Ao, co, rfl, hSo, hmo, hb1⟩
 obtain ⟨B0, c1, c2, c3⟩ := (Blk.new w 68 (gC A c A' c' g)).go hb1
 have hbw : Below w.heap.size w w1 := ext_trans (by go_grown) hb1
 clear hb1 hSo hmo
 go_wp2_with fail
 have hT := IRow.made (w := w1) (n := g.lives.length) rfl
 have B0 := B0.alloc (Obj.cells (madeCells #[Value.int IntKind.i64 0] g.lives.length) 3)
 have hbw := ext_alloc hbw (Obj.cells (madeCells #[Value.int IntKind.i64 0] g.lives.length) 3)
 have hbd : w.heap.size < w1.heap.size := c3
 clear c1 c2 c3
 go_loopw [32] (fun x wr => ∃ (k : Nat) (l : List Int), k ≤ g.lives.length ∧ x = .int .i64 k ∧ Hid (l.length = g.lives.length ∧ ∀ i, i < k → gi l i = -1) ∧ IRow wr w1.heap.size l ∧ Blk wr w.heap.size 68 (gC A c A' c' g) ∧ Below w.heap.size w wr)
  (fun x _ => g.lives.length - (intOf x).toNat)
 case atStart => exact ⟨0, _, Nat.zero_le _, rfl, Lib.hid ⟨by simp, fun i h => by omega⟩, hT, B0, hbw⟩
 case round =>
  clear hT B0 hbw
  obtain ⟨k, l, hk, rfl, HL, hT, B0, hbw⟩ := hrel
  by_cases hlt : k < g.lives.length
  case pos =>
   have hc := hT.cell (k := k) (by rw [HL.out.1]; exact hlt)
   have hf := Blk.frozen hT k
   go_wp2_with fail
   go_roundw
   case rel =>
    refine ⟨k + 1, l.set k (-1), by omega, by go_num, Lib.hid ⟨by simp [HL.out.1], fun i hi => ?_⟩, hT.set k (-1), B0.far (by simp; omega) _, hbw.setCell (by simp; omega) _⟩
    rw [gi_set (by rw [HL.out.1]; exact hlt)]
    by_cases e : i = k
    ·rw [e, upd_at]
    ·rw [upd_ne _ _ e]; exact HL.out.2 i (by omega)
   case measure => simp [intOf]; omega
  case neg =>
   have HR := Lib.hid (fill_minus HL.out.1 (fun i hi => HL.out.2 i (by omega)))
   rw [HR.out] at hT
   clear HL HR hmk
   obtain ⟨e1, e2, e3⟩ := B0.facts
   cases hal : aliveB g v t
   case false =>
    have HA := Lib.hid hal
    have HLN := Lib.hid (late_none hal ht0 hV)
    clear hal
    go_wp2_with fail
    refine (alive_any _ _ _ _ g v t _ (hG.ext hbw) hv0 hv1).mono ?_
    rw [HA.out]
    rintro e w2 ⟨rfl, hb1⟩
    have hT := Blk.ext hT hb1
    have hbw := ext_trans hbw hb1
    go_wp2_with fail
    go_ret2
    rw [H0.out]
    exact ⟨List.replicate g.lives.length (-1), some ⟨w1.heap.size, 0, none⟩, g.lives.length, by unfold DepOut; rw [if_pos H0.out]; exact HLN.out, by rw [List.length_replicate]; rfl, IRow.slAt hT (fun k _ => by have h1 := HLN.out.low ht0 k; have h2 := HLN.out.high hV (by omega) k; exact ⟨by omega, by omega⟩), by simp [maxLen]; omega, hbw⟩
   have HA := Lib.hid hal
   have HST := Lib.hid (startL_is hal hv0 hv1)
   clear hal
   go_wp2_with fail
   refine (alive_any _ _ _ _ g v t _ (hG.ext hbw) hv0 hv1).mono ?_
   rw [HA.out]
   rintro e w2 ⟨rfl, hb1⟩
   have hT := Blk.ext hT hb1
   have B0 := B0.ext hb1
   have hbw := ext_trans hbw hb1
   have hc := IRow.cell hT (k := v.toNat) (by simp; omega)
   have hf := Blk.frozen hT v.toNat
   clear hb1 e1 e2 e3
   go_wp2_with fail
   have hT := IRow.set hT v.toNat t
   rw [HST.out] at hT
   have B0 := B0.far (p := ⟨w1.heap.size, v.toNat, none⟩) (by simp; omega) (.int .i64 t)
   have hbw := hbw.setCell (p := ⟨w1.heap.size, v.toNat, none⟩) (by simp; omega) (.int .i64 t)
   clear hc hf
   go_loopg [12] (left (startL g v t) + 1) (fun gk m wr => ∃ (b : Bool) (l : List Int), m = .bool b ∧ Hid ((b = true → left l < gk ∧ TMid g v t l l false 0) ∧ (b = false → LateL g v t l)) ∧ Hid (l.length = g.lives.length) ∧
    IRow wr w1.heap.size l ∧ Blk wr w.heap.size 68 (gC A c A' c' g) ∧ Below w.heap.size w wr)
   case atStart => exact ⟨true, _, rfl, Lib.hid ⟨fun _ => ⟨Nat.lt_succ_self _, TMid.start ht0⟩, fun h => by simp at h⟩, Lib.hid (by simp [startL]), hT, B0, hbw⟩
   case round =>
    clear hT B0 hbw
    obtain ⟨m, l, rfl, HN, HLE, hT, B0, hbw⟩ := hrel
    cases m
    case false =>
     have HQ := Lib.hid (HN.out.2 rfl)
     go_wp2_with fail
     go_ret2
     rw [H0.out]
     have hlen := HLE.out
     exact ⟨l, some ⟨w1.heap.size, 0, none⟩, g.lives.length, by unfold DepOut; rw [if_pos H0.out]; exact HQ.out, by rw [hlen]; rfl, IRow.slAt hT (fun k _ => by have h1 := HQ.out.low ht0 k; have h2 := HQ.out.high hV (by omega) k; exact ⟨by omega, by omega⟩), by rw [hlen]; unfold maxLen; omega, hbw⟩
    case true =>
     have HM := Lib.hid (HN.out.1 rfl)
     clear HN HLE
     obtain ⟨e1, e2, e3⟩ := B0.facts
     obtain ⟨bz, oz, hE⟩ := hG.edges
     go_wp2_with fail
     go_loopw [12, 53] (fun m x wr => ∃ (b : Bool) (j : Nat) (l2 : List Int), j ≤ g.edges.length ∧ m = .bool b ∧ x = .int .i64 j ∧ Hid (TMid g v t l l2 b j) ∧
      IRow wr w1.heap.size l2 ∧ Blk wr w.heap.size 68 (gC A c A' c' g) ∧ Below w.heap.size w wr) (fun _ x _ => g.edges.length - (intOf x).toNat)
     case atStart => exact ⟨false, 0, l, Nat.zero_le _, rfl, rfl, Lib.hid HM.out.2, hT, B0, hbw⟩
     case round =>
      clear hT B0 hbw e1 e2 e3
      obtain ⟨m, j, l2, hj, rfl, rfl, HD, hT, B0, hbw⟩ := hrel
      by_cases hlt : j < g.edges.length
      case neg =>
       have HG := Lib.hid HM.out.1
       cases m
       case true =>
        have HT := Lib.hid (HD.out.less rfl)
        go_wp2_with fail
        go_roundg (gk - 1)
        case rel => exact ⟨true, l2, rfl, Lib.hid ⟨fun _ => ⟨by have := HT.out; have := HG.out; omega, HD.out.again⟩, fun h => by simp at h⟩, Lib.hid HD.out.len, hT, B0, hbw⟩
        case measure => have := HG.out; omega
       case false =>
        have HQ := Lib.hid (HD.out.fin (show g.edges.length ≤ j by omega))
        go_wp2_with fail
        go_roundg (gk - 1)
        case rel => exact ⟨false, l2, rfl, Lib.hid ⟨fun h => by simp at h, fun _ => HQ.out⟩, Lib.hid HD.out.len, hT, B0, hbw⟩
        case measure => have := HG.out; omega
      obtain ⟨y, hy⟩ := get_lt hlt
      obtain ⟨rfl, hbz1, ⟨⟨x0, x1, L, cl, x2, hl1, hl2, hL⟩, _⟩⟩ := hE j y hy
      have y0 := x0.now hbw
      have y1 := x1.now hbw
      have y2 := x2.now hbw
      have hyo := hV.edges y (List.mem_of_getElem? hy)
      have HYE := Lib.hid hy
      have ha0 := hyo.a0
      have ha1 := hyo.a1
      have hb0 := hyo.b0
      have hb1 := hyo.b1
      have hl6 := hyo.six
      have hne0 := hV.ne
      have n0 := B0.lt
      have nt := Blk.lt hT
      have hca := hT.cell (k := y.a.toNat) (by rw [HD.out.len]; omega)
      have hcb := hT.cell (k := y.b.toNat) (by rw [HD.out.len]; omega)
      obtain ⟨p', hp'⟩ : ∃ p', gi l2 y.a.toNat = p' := ⟨_, rfl⟩
      obtain ⟨q', hq'⟩ : ∃ q', gi l2 y.b.toNat = q' := ⟨_, rfl⟩
      rw [hp'] at hca
      rw [hq'] at hcb
      have HP' := Lib.hid hp'
      have HQ' := Lib.hid hq'
      obtain ⟨d, hd⟩ : ∃ d, lastT g y q' = d := ⟨_, rfl⟩
      have HDD := Lib.hid hd
      have hdh : d ≤ 100 := by rw [← hd]; exact lastT_high hV
      clear hy x0 x1 x2 hp' hq' hd
      go_wp2_with fail
      obtain ⟨ba, hba⟩ : ∃ ba, ba = wr.heap.size := ⟨_, rfl⟩
      have Ba := Blk.new wr 97 #[.int .i64 y.a, .int .i64 y.b, .slice L y.legs.length cl]
      have hT := irow_alloc hT (Obj.cells #[.int .i64 y.a, .int .i64 y.b, .slice L y.legs.length cl] 97)
      have B0 := B0.alloc (Obj.cells #[.int .i64 y.a, .int .i64 y.b, .slice L y.legs.length cl] 97)
      have hbw := ext_alloc hbw (Obj.cells #[.int .i64 y.a, .int .i64 y.b, .slice L y.legs.length cl] 97)
      rw [← hba] at Ba n0 nt ⊢
      obtain ⟨wa, hwa⟩ : ∃ wa : World, wa = wr.alloc (Obj.cells #[.int .i64 y.a, .int .i64 y.b, .slice L y.legs.length cl] 97) := ⟨_, rfl⟩
      rw [← hwa] at Ba hT B0 hbw ⊢
      clear hba hwa
      have S0 : wa.cell? ⟨w.heap.size, 0, none⟩ = some (.int .i64 g.h) ∧ wa.cell? ⟨w.heap.size, 1, none⟩ = some (.slice A g.lives.length c) ∧ wa.cell? ⟨w.heap.size, 2, none⟩ = some (.slice (some ⟨bz, oz, none⟩) g.edges.length c') ∧ wa.cell? ⟨ba, 0, none⟩ = some (.int .i64 y.a) ∧ wa.cell? ⟨ba, 1, none⟩ = some (.int .i64 y.b) ∧ wa.cell? ⟨ba, 2, none⟩ = some (.slice L y.legs.length cl) ∧ wa.cell? ⟨w1.heap.size, y.b.toNat, none⟩ = some (.int .i64 q') ∧ wa.cell? ⟨w1.heap.size, y.a.toNat, none⟩ = some (.int .i64 p') :=
       ⟨by rw [B0.cell]; rfl, by rw [B0.cell]; rfl, by rw [B0.cell]; rfl, by rw [Ba.cell]; rfl, by rw [Ba.cell]; rfl, by rw [Ba.cell]; rfl, by rw [IRow.cell hT (by rw [HD.out.len]; omega), HQ'.out], by rw [IRow.cell hT (by rw [HD.out.len]; omega), HP'.out]⟩
      clear hca hcb y0 y1 y2
      go_region_held3 (fun w' => w'.cell? ⟨w.heap.size, 0, none⟩ = some (.int .i64 g.h) ∧ w'.cell? ⟨w.heap.size, 1, none⟩ = some (.slice A g.lives.length c) ∧ w'.cell? ⟨w.heap.size, 2, none⟩ = some (.slice (some ⟨bz, oz, none⟩) g.edges.length c') ∧ w'.cell? ⟨ba, 0, none⟩ = some (.int .i64 y.a) ∧ w'.cell? ⟨ba, 1, none⟩ = some (.int .i64 y.b) ∧ w'.cell? ⟨ba, 2, none⟩ = some (.slice L y.legs.length cl) ∧ w'.cell? ⟨w1.heap.size, y.b.toNat, none⟩ = some (.int .i64 q') ∧ w'.cell? ⟨w1.heap.size, y.a.toNat, none⟩ = some (.int .i64 p'))
       (first | exact S0 | exact keep8 hb6 S0)
       (first | (go_at_call 110; refine (last_any _ _ L c c' cl g y q' _ (hG.ext (ext_trans hbw (by go_grown))) hV hyo (hL.ext RLeg.stable (ext_trans hbw (by go_grown))) (by unfold maxLen; omega)).mono ?_; rw [HDD.out]; rintro e w5 ⟨rfl, hb5⟩; have hb6 : Below wa.heap.size wa w5 := ext_trans (by go_grown) hb5))
      have hT := Blk.ext hT hb6
      have B0 := B0.ext hb6
      have Ba := Ba.ext hb6
      have hbw := ext_trans hbw hb6
      have hca := IRow.cell hT (k := y.a.toNat) (by rw [HD.out.len]; omega)
      rw [HP'.out] at hca
      have hfa := Blk.frozen hT y.a.toNat
      obtain ⟨a1, a2, a3⟩ := Ba.facts
      clear S0 hb5 hb6
      by_cases hgt : d > p'
      case pos =>
       have HC := Lib.hid (HD.out.change hV HYE.out (d := d) (by rw [HQ'.out]; exact HDD.out) (by rw [HP'.out]; exact hgt) hdh)
       have hgd : decide (d > p') = true := by simpa using hgt
       go_wp2_with fail
       go_roundw
       case rel => exact ⟨true, j + 1, _, by omega, rfl, by go_num, HC, IRow.set hT _ _, B0.far (by simp; omega) _, hbw.setCell (by simp; omega) _⟩
       case measure => simp [intOf]; omega
      case neg =>
       have HC := Lib.hid (HD.out.same HYE.out (by rw [HQ'.out, HP'.out, HDD.out]; omega))
       have hgd : decide (d > p') = false := by simpa using hgt
       go_wp2_with fail
       go_roundw
       case rel => exact ⟨m, j + 1, l2, by omega, rfl, by go_num, HC, hT, B0, hbw⟩
       case measure => simp [intOf]; omega
end Go.Proofs.YtjcimdpldlamfaaGreatDoor
/- The walk of cheap.fill: the least sums by vertex and time, and where one comes from. -/
namespace Go.Proofs.YtjcimdpldlamfaaGreatDoor
open Go.RowKit

/-- A table is told. -/
def FillOut (g : GraphD) (wt : LegD → Int) (v s : Int) (w : World) (e : Ending) (w' : World) : Prop :=
 ∃ (tb b1 b2 n t : Nat) (B : Tab Int) (O : Tab OrigD), e = .returned (.pointer (some ⟨tb, 0, none⟩)) ∧ Hid (FillInv g wt v s t 0 false 0 B O ∧ g.h ≤ t) ∧ Blk w' tb 198 #[.map (some b1), .map (some b2)] ∧
  TabAt iV2 w' b1 n B ∧ TabAt origV w' b2 n O ∧ Below w.heap.size w w'

set_option maxRecDepth 100000 in
set_option maxHeartbeats 8000000 in
theorem fill_nat (kf : Nat) (wt : LegD → Int) (A A' : Option Addr) (c c' : Nat) (g : GraphD) (v s : Nat) (w : World) (hent : Enters Tryz.prog kf) (hG : GraphAt w A c A' c' g) (hV : Valid g) (hw : Light g wt) (hv1 : (v : Int) < g.lives.length) (hs1 : (s : Int) < g.h)
  (hcost : ∀ l w, Calls Tryz.prog kf #[legV l] w fun e w' => e = .returned (.int .i64 (wt l)) ∧ Below w.heap.size w w') :
  Calls Tryz.prog 141 #[gV A c A' c' g, .int .i64 (v : Int), .int .i64 (s : Int), .func (.func kf) #[] #[]] w (FillOut g wt v s w) := by
 have m1 : g.lives.length ≤ 9223372036854775807 := Nat.le_trans hG.lc hG.cm
 have m2 : g.edges.length ≤ 9223372036854775807 := Nat.le_trans hG.lc' hG.cm'
 have hh1 := hV.h1
 have hn12 := hV.nl
 have hne := hV.ne
 have hmm := @run_makeMap Tryz.prog
 have HW := Lib.hid hw
 have HC := Lib.hid hcost
 clear hw hcost
 go_enter Tryz.func141, Tryz.ntmps141
 go_wp2_with fail
 have M := FMem.made (gc := gC A c A' c' g) w
 refine (alive_any _ _ _ _ g v s _ (hG.ext (by go_grown)) (by omega) hv1).mono ?_
 rintro e w1 ⟨rfl, hb1⟩
 have M := M.ext hb1
 clear hb1 hmm
 obtain ⟨g0, hg0⟩ : ∃ k, k = w.heap.size := ⟨_, rfl⟩
 obtain ⟨b1, hb1⟩ : ∃ k, k = w.heap.size + 1 := ⟨_, rfl⟩
 obtain ⟨b2, hb2⟩ : ∃ k, k = w.heap.size + 1 + 1 := ⟨_, rfl⟩
 obtain ⟨tb, htb⟩ : ∃ k, k = w.heap.size + 1 + 1 + 1 := ⟨_, rfl⟩
 have l1 : w.heap.size ≤ b1 := by omega
 have l2 : w.heap.size ≤ b2 := by omega
 have l3 : b1 ≠ b2 := by omega
 rw [← htb, ← hb2, ← hb1] at M ⊢
 rw [show FMem w.heap.size tb b1 b2 = FMem g0 tb b1 b2 by rw [hg0]] at M
 have HG0 := Lib.hid hg0
 clear htb hb2 hb1
 rw [← hg0]
 clear hg0
 obtain ⟨t1, t2, t3⟩ := M.tab.facts
 go_upto_if 26 with fail
 go_cut [] from 26 to 33 (fun wx => ∃ (n : Nat) (B : Tab Int) (O : Tab OrigD), n ≤ 1 ∧ Hid (FillInv g wt v s s 0 false 0 B O) ∧ FMem g0 tb b1 b2 n (gC A c A' c' g) w B O wx)
 case first =>
  cases hal : aliveB g v s
  case false =>
   have HI := Lib.hid (fill_start0 HW.out hal)
   clear hal
   go_wp2_with fail
   go_meet
   exact ⟨0, _, _, by omega, Lib.hid (by simpa using HI.out), M⟩
  case true =>
   have HI := Lib.hid (fill_start hV HW.out ⟨by omega, hv1⟩ ⟨by omega, hs1⟩ hal)
   clear hal
   go_wp2_with (at_mapUpdate; refine wpList_store_tab rfl (.tmp 30) (.tmp 33) _ 195 rfl _ Tryz.underlying195 iV2 b1 0 (fun _ => none) rfl M.best (by decide) (v, s) (by unfold Sml; omega) 0 rfl rfl ?_; intro w2 hT2 hm2)
   go_meet
   exact ⟨1, _, _, by omega, Lib.hid (by simpa using HI.out), M.turned hm2 hT2 (by omega) l3 l1⟩
 case rest =>
  clear M t1 t2 t3
  obtain ⟨n0, B, O, hn0, HI, M⟩ := hcut
  go_wp2_with fail
  go_loopw [10] (fun x wr => ∃ (t n : Nat) (B : Tab Int) (O : Tab OrigD), s ≤ t ∧ (t : Int) ≤ g.h ∧ x = .int .i64 t ∧ n ≤ t * 1000 + 1 ∧ Hid (FillInv g wt v s t 0 false 0 B O) ∧ FMem g0 tb b1 b2 n (gC A c A' c' g) w B O wr) (fun x _ => g.h.toNat - (intOf x).toNat)
  case atStart => exact ⟨s, n0, B, O, Nat.le_refl _, by omega, rfl, by omega, HI, M⟩
  case round =>
   clear HI M
   obtain ⟨t, n, B, O, hst, hth, rfl, hn, HI, M⟩ := hrel
   obtain ⟨t1, t2, t3⟩ := M.tab.facts
   obtain ⟨g1, g2, g3⟩ := M.gr.facts
   by_cases hlt : (t : Int) < g.h
   case neg =>
    have HE : Hid (FillInv g wt v s t 0 false 0 B O ∧ g.h ≤ t) := Lib.hid ⟨HI.out, by omega⟩
    go_wp2_with fail
    go_ret
    exact ⟨tb, b1, b2, n, t, B, O, rfl, HE, M.tab, M.best, M.orig, M.bel⟩
   have hw1 : IntKind.i64.wrap ((t : Int) + 1) = ((t + 1 : Nat) : Int) := by rw [IntWalk.i64_in _ (by omega)]; simp
   go_wp2_with fail
   clear t1 t2 t3 g1 g2 g3
   go_loopg [44] g.lives.length (fun gk x wr => ∃ (u n : Nat) (B : Tab Int) (O : Tab OrigD), u + gk = g.lives.length ∧ x = .int .i64 u ∧ n ≤ t * 1000 + u * 40 + 1 ∧ Hid (FillInv g wt v s t u false 0 B O) ∧ FMem g0 tb b1 b2 n (gC A c A' c' g) w B O wr)
   case atStart => exact ⟨0, n, B, O, by omega, rfl, by omega, HI, M⟩
   case round =>
    clear HI M hn
    obtain ⟨u, n, B, O, hug, rfl, hn, HI, M⟩ := hrel
    obtain ⟨t1, t2, t3⟩ := M.tab.facts
    obtain ⟨g1, g2, g3⟩ := M.gr.facts
    by_cases hlu : u < g.lives.length
    case neg =>
     have HN : Hid (FillInv g wt v s (t + 1) 0 false 0 B O) := Lib.hid (by
      have h := HI.out
      rw [show u = g.lives.length by omega] at h
      exact h.nextT hV)
     go_wp2_with fail
     go_roundw
     case rel => exact ⟨t + 1, n, B, O, by omega, by omega, by go_num, by omega, HN, M⟩
     case measure => simp [intOf]; omega
    have hlook := M.look (p := (u, t)) (kx := (u : Int)) (kt := (t : Int)) (by unfold Sml; omega) rfl rfl
    cases hB : B (u, t) with
    | none =>
     rw [hB] at hlook
     simp only [Option.map_none, Option.getD_none, Option.isSome_none] at hlook
     have HN := Lib.hid (HI.out.skip hV HW.out hB)
     clear hB
     go_wp2_with fail
     go_roundg (gk - 1)
     case rel => exact ⟨u + 1, n, B, O, by omega, by go_num, by omega, HN, M⟩
     case measure => omega
    | some m =>
     rw [hB] at hlook
     simp only [Option.map_some, Option.getD_some, Option.isSome_some, iV2] at hlook
     have HB := Lib.hid hB
     obtain ⟨hm0, hm1⟩ := HI.out.small hV hB
     clear hB
     go_upto_region 12 with fail
     go_cut [44, 71] from 44 to 125 (fun x y wx => x = .int .i64 u ∧ y = .bool (decide ((t : Int) + 1 < g.h) && aliveB g u ((t : Int) + 1)) ∧ FMem g0 tb b1 b2 n (gC A c A' c' g) w B O wx)
     case first =>
      by_cases hth : (t : Int) + 1 < g.h
      case neg =>
       have hd : decide ((t : Int) + 1 < g.h) = false := by simpa using hth
       have HD := Lib.hid hd
       have hd2 : decide (((t + 1 : Nat) : Int) < g.h) = false := by simp; omega
       clear hlook hd
       go_wp2_with fail
       go_meet
       exact ⟨rfl, by rw [HD.out]; rfl, M⟩
      case pos =>
       have hd : decide ((t : Int) + 1 < g.h) = true := by simpa using hth
       have HD := Lib.hid hd
       have hd2 : decide (((t + 1 : Nat) : Int) < g.h) = true := by simp; omega
       clear hlook hd
       go_wp2_with fail
       refine (alive_any _ _ _ _ g u ((t + 1 : Nat) : Int) _ (hG.ext M.bel) (by omega) (by omega)).mono ?_
       rintro e w3 ⟨rfl, hb3⟩
       have M := M.ext hb3
       clear hb3
       go_wp2_with fail
       go_meet
       exact ⟨rfl, by rw [HD.out]; simp, M⟩
     case rest =>
      clear M t1 t2 t3 g1 g2 g3 hlook
      obtain ⟨rfl, rfl, M⟩ := hcut
      obtain ⟨bb, hbb⟩ : ∃ bb, (decide ((t : Int) + 1 < g.h) && aliveB g u ((t : Int) + 1)) = bb := ⟨_, rfl⟩
      rw [hbb]
      have HBB := Lib.hid hbb
      clear hbb
      go_upto_if 71 with fail
      go_cut [44] from 44 to 125 (fun x wx => ∃ (n' : Nat) (B' : Tab Int) (O' : Tab OrigD), x = .int .i64 u ∧ n' ≤ n + 1 ∧ Hid (FillInv g wt v s t u true 0 B' O' ∧ B' (u, t) = some m) ∧ FMem g0 tb b1 b2 n' (gC A c A' c' g) w B' O' wx)
      case first =>
       cases bb
       case false =>
        have HN : Hid (FillInv g wt v s t u true 0 B O ∧ B (u, t) = some m) := Lib.hid ⟨HI.out.wait (fun k1 k2 => by
         have := HBB.out
         rw [k2] at this
         simp at this
         omega), HB.out⟩
        go_wp2_with fail
        go_meet
        exact ⟨n, B, O, rfl, by omega, HN, M⟩
       case true =>
        have HN : Hid (FillInv g wt v s t u true 0 (lessF B B (u, t + 1) m m) (lessF B O (u, t + 1) m ⟨u, t, 0, 0, false⟩) ∧ lessF B B (u, t + 1) m m (u, t) = some m) := Lib.hid (by
         have := HBB.out
         simp only [Bool.and_eq_true, decide_eq_true_eq] at this
         exact HI.out.putWait HB.out hlu this.1 this.2)
        obtain ⟨t1, t2, t3⟩ := M.tab.facts
        go_wp2_with fail
        refine (M.less_any l1 l2 l3 (by omega) (p := (u, t + 1)) (m := m) (o := ⟨u, t, 0, 0, false⟩) (by unfold Sml; omega) (by simp only [Never]; omega) rfl rfl).mono ?_
        rintro e w3 ⟨rfl, M3, _⟩
        go_wp2_with fail
        go_meet
        exact ⟨n + 1, _, _, rfl, by omega, HN, M3⟩
      case rest =>
       clear M HI HB HBB
       obtain ⟨n', B', O', rfl, hn', HN, M⟩ := hcut
       obtain ⟨g1, g2, g3⟩ := M.gr.facts
       go_wp2_with fail
       clear g1 g2 g3
       go_loopw [86] (fun x wr => ∃ (i n2 : Nat) (B2 : Tab Int) (O2 : Tab OrigD), i ≤ g.edges.length ∧ x = .int .i64 i ∧ n2 ≤ n' + i ∧ Hid (FillInv g wt v s t u true i B2 O2 ∧ B2 (u, t) = some m) ∧ FMem g0 tb b1 b2 n2 (gC A c A' c' g) w B2 O2 wr) (fun x _ => g.edges.length - (intOf x).toNat)
       case atStart => exact ⟨0, n', B', O', by omega, rfl, by omega, HN, M⟩
       case round =>
        clear HN M
        obtain ⟨i, n2, B2, O2, hi, rfl, hn2, HN, M⟩ := hrel
        obtain ⟨t1, t2, t3⟩ := M.tab.facts
        obtain ⟨g1, g2, g3⟩ := M.gr.facts
        by_cases hlt2 : i < g.edges.length
        case neg =>
         have HN2 : Hid (FillInv g wt v s t (u + 1) false 0 B2 O2) := Lib.hid (by
          have h := HN.out.1
          rw [show i = g.edges.length by omega] at h
          exact h.nextV)
         go_wp2_with fail
         go_roundg (gk - 1)
         case rel => exact ⟨u + 1, n2, B2, O2, by omega, by go_num, by omega, HN2, M⟩
         case measure => omega
        obtain ⟨be, oe, hE⟩ := hG.edges
        obtain ⟨y, hy⟩ := get_lt hlt2
        obtain ⟨rfl, hbe, ⟨⟨x0, x1, L, cl, x2, hl1, hl2, hL⟩, _⟩⟩ := hE i y hy
        have y0 := x0.now M.bel
        have y1 := x1.now M.bel
        have y2 := x2.now M.bel
        have hyo := hV.edges y (List.mem_of_getElem? hy)
        have HY := Lib.hid hy
        have hl6 : y.legs.length ≤ maxLen := by have := hyo.six; unfold maxLen; omega
        have b0 := hyo.b0; have b1' := hyo.b1
        have hti : I64 (t : Int) := by unfold I64; omega
        clear hE hy x0 x1 x2
        cases ha : arrive g y t with
        | none =>
         have HA := Lib.hid ha
         have HE : Hid (FillInv g wt v s t u true (i + 1) B2 O2 ∧ B2 (u, t) = some m) := Lib.hid ⟨HN.out.1.edge HY.out (fun _ l te h => by rw [HA.out] at h; simp at h), HN.out.2⟩
         clear ha
         go_wp2_with fail
         have M := M.alloc (Obj.cells #[.int .i64 y.a, .int .i64 y.b, .slice L y.legs.length cl] 97)
         refine (arrive_not _ (hG.ext M.bel) hV hyo (hL.ext RLeg.stable M.bel) hl6 hti HA.out).mono ?_
         rintro e w3 ⟨rfl, hb3⟩
         have M := M.ext hb3
         clear hb3
         go_wp2_with fail
         have M := M.alloc (Obj.cells #[.int .i64 0, .int .i64 0, .int .i64 0, .int .i64 0] 100)
         go_roundw
         case rel => exact ⟨i + 1, n2, B2, O2, by omega, by go_num, by omega, HE, M⟩
         case measure => simp [intOf]; omega
        | some pr =>
         obtain ⟨l, te⟩ := pr
         have HA := Lib.hid ha
         have hlate := arrive_late hV hyo ha
         have hwl := HW.out y (List.mem_of_getElem? HY.out) l (arrive_some ha).1
         clear ha
         go_wp2_with fail
         have BE := Blk.new wr 97 #[.int .i64 y.a, .int .i64 y.b, .slice L y.legs.length cl]
         have M := M.alloc (Obj.cells #[.int .i64 y.a, .int .i64 y.b, .slice L y.legs.length cl] 97)
         refine (arrive_yes _ (hG.ext M.bel) hV hyo (hL.ext RLeg.stable M.bel) hl6 hti HA.out).mono ?_
         rintro e w3 ⟨rfl, hb3⟩
         have M := M.ext hb3
         obtain ⟨BE, q1, q2, q3⟩ := BE.go hb3
         clear hb3 t1 t2 t3 g1 g2 g3 y0 y1 y2
         by_cases hau : y.a = (u : Int)
         case neg =>
          have hd : (y.a == (u : Int)) = false := by simpa using hau
          have HE : Hid (FillInv g wt v s t u true (i + 1) B2 O2 ∧ B2 (u, t) = some m) := Lib.hid ⟨HN.out.1.edge HY.out (fun h => absurd h hau), HN.out.2⟩
          clear hau
          go_wp2_with fail
          have M := M.alloc (Obj.cells #[.int .i64 l.f, .int .i64 l.t, .int .i64 l.time, .int .i64 l.cost] 100)
          go_roundw
          case rel => exact ⟨i + 1, n2, B2, O2, by omega, by go_num, by omega, HE, M⟩
          case measure => simp [intOf]; omega
         have hd : (y.a == (u : Int)) = true := by simpa using hau
         have HP := Lib.hid (HN.out.1.putEdge hV HW.out HN.out.2 HY.out hau HA.out)
         obtain ⟨hm0', hm1'⟩ := HN.out.1.small hV HN.out.2
         clear hau
         obtain ⟨ql, hql⟩ : ∃ ql, wt l = ql := ⟨_, rfl⟩
         rw [hql] at hwl HP
         have HQL := Lib.hid hql
         clear hql
         have hwrap : IntKind.i64.wrap (m + ql) = m + ql := IntWalk.i64_in _ (by omega)
         go_wp2_with fail
         have BL := Blk.new w3 100 #[.int .i64 l.f, .int .i64 l.t, .int .i64 l.time, .int .i64 l.cost]
         have BE := BE.alloc (Obj.cells #[.int .i64 l.f, .int .i64 l.t, .int .i64 l.time, .int .i64 l.cost] 100)
         have M := M.alloc (Obj.cells #[.int .i64 l.f, .int .i64 l.t, .int .i64 l.time, .int .i64 l.cost] 100)
         obtain ⟨gl, hgl⟩ : ∃ gl, gl = w3.heap.size := ⟨_, rfl⟩
         obtain ⟨ge, hge⟩ : ∃ ge, ge = wr.heap.size := ⟨_, rfl⟩
         rw [← hgl] at BL ⊢
         rw [← hge] at BE ⊢
         obtain ⟨wa, hwa⟩ : ∃ wa : World, wa = w3.alloc (Obj.cells #[.int .i64 l.f, .int .i64 l.t, .int .i64 l.time, .int .i64 l.cost] 100) := ⟨_, rfl⟩
         rw [← hwa] at BL BE M ⊢
         clear hgl hge hwa q1 q2 q3 hd
         obtain ⟨S, hSS⟩ : ∃ S : World → Prop, Hid (S = fun w' => w'.cell? ⟨ge, 1, none⟩ = some (.int .i64 y.b) ∧ w'.cell? ⟨gl, 0, none⟩ = some (.int .i64 l.f) ∧ w'.cell? ⟨gl, 1, none⟩ = some (.int .i64 l.t) ∧ w'.cell? ⟨gl, 2, none⟩ = some (.int .i64 l.time) ∧ w'.cell? ⟨gl, 3, none⟩ = some (.int .i64 l.cost)) := ⟨_, Lib.hid rfl⟩
         have hSb : ∀ wz, Below wa.heap.size wa wz → S wz := fun wz hb => by
          rw [hSS.out]
          exact ⟨cell_keep hb (by rw [BE.cell]; rfl), cell_keep hb (by rw [BL.cell]; rfl), cell_keep hb (by rw [BL.cell]; rfl), cell_keep hb (by rw [BL.cell]; rfl), cell_keep hb (by rw [BL.cell]; rfl)⟩
         have hS0 : S wa.drew := hSb _ (below_drew (Below.refl _ _))
         have HSB := Lib.hid hSb
         clear hSb
         unfold Enters at hent
         refine WpN.begin (S := S) 17 (by kernel_rfl) ?_
         refine WpN.takeD (i := 0) (v := ?_) rfl rfl (by kernel_rfl) (fun _ _ _ h => h) (Or.inl ⟨by rfl, ?_⟩) (by assumption) ?_
         rotate_left
         ·intro w hSw; rw [hSS.out] at hSw; obtain ⟨sw0, sw1, sw2, sw3, sw4⟩ := hSw; go_simp; try with_reducible rfl
         simp only [pS]
         refine WpN.takeD (i := 1) (v := ?_) rfl rfl (by kernel_rfl) (fun _ _ _ h => h) (Or.inl ⟨by rfl, ?_⟩) (by assumption) ?_
         rotate_left
         ·intro w hSw; rw [hSS.out] at hSw; obtain ⟨sw0, sw1, sw2, sw3, sw4⟩ := hSw; go_simp; try with_reducible rfl
         simp only [pS]
         refine WpN.takeD (i := 2) (v := ?_) rfl rfl (by kernel_rfl) (fun _ _ _ h => h) (Or.inl ⟨by rfl, ?_⟩) (by assumption) ?_
         rotate_left
         ·intro w hSw; rw [hSS.out] at hSw; obtain ⟨sw0, sw1, sw2, sw3, sw4⟩ := hSw; go_simp; try with_reducible rfl
         simp only [pS]
         refine WpN.takeD (i := 3) (v := ?_) rfl rfl (by kernel_rfl) (fun _ _ _ h => h) (Or.inl ⟨by rfl, ?_⟩) (by assumption) ?_
         rotate_left
         ·intro w hSw; rw [hSS.out] at hSw; obtain ⟨sw0, sw1, sw2, sw3, sw4⟩ := hSw; go_simp; try with_reducible rfl
         simp only [pS]
         refine WpN.takeD (i := 4) (v := ?_) rfl rfl (by kernel_rfl) (fun _ _ _ h => h) (Or.inl ⟨by rfl, ?_⟩) (by assumption) ?_
         rotate_left
         ·intro w hSw; rw [hSS.out] at hSw; obtain ⟨sw0, sw1, sw2, sw3, sw4⟩ := hSw; go_simp; try with_reducible rfl
         simp only [pS]
         refine WpN.takeD (i := 5) (v := ?_) rfl rfl (by kernel_rfl) (fun _ _ _ h => h) (Or.inl ⟨by rfl, ?_⟩) (by assumption) ?_
         rotate_left
         ·intro w hSw; rw [hSS.out] at hSw; obtain ⟨sw0, sw1, sw2, sw3, sw4⟩ := hSw; go_simp; try with_reducible rfl
         simp only [pS]
         refine WpN.takeD (i := 6) (v := ?_) rfl rfl (by kernel_rfl) (fun _ _ _ h => h) (Or.inl ⟨by rfl, ?_⟩) (by assumption) ?_
         rotate_left
         ·intro w hSw; rw [hSS.out] at hSw; obtain ⟨sw0, sw1, sw2, sw3, sw4⟩ := hSw; go_simp; try with_reducible rfl
         simp only [pS]
         refine WpN.takeD (i := 7) (v := ?_) rfl rfl (by kernel_rfl) (fun _ _ _ h => h) (Or.inl ⟨by rfl, ?_⟩) (by assumption) ?_
         rotate_left
         ·intro w hSw; rw [hSS.out] at hSw; obtain ⟨sw0, sw1, sw2, sw3, sw4⟩ := hSw; go_simp; try with_reducible rfl
         simp only [pS]
         refine WpN.takeD (i := 10) (v := ?_) rfl rfl (by kernel_rfl) (fun _ _ _ h => h) (Or.inl ⟨by rfl, ?_⟩) (by assumption) ?_
         rotate_left
         ·intro w hSw; rw [hSS.out] at hSw; obtain ⟨sw0, sw1, sw2, sw3, sw4⟩ := hSw; go_simp; try with_reducible rfl
         simp only [pS]
         refine WpN.takeD (i := 11) (v := ?_) rfl rfl (by kernel_rfl) (fun _ _ _ h => h) (Or.inl ⟨by rfl, ?_⟩) (by assumption) ?_
         rotate_left
         ·intro w hSw; rw [hSS.out] at hSw; obtain ⟨sw0, sw1, sw2, sw3, sw4⟩ := hSw; go_simp; try with_reducible rfl
         simp only [pS]
         refine WpN.takeD (i := 12) (v := ?_) rfl rfl (by kernel_rfl) (fun _ _ _ h => h) (Or.inl ⟨by rfl, ?_⟩) (by assumption) ?_
         rotate_left
         ·intro w hSw; rw [hSS.out] at hSw; obtain ⟨sw0, sw1, sw2, sw3, sw4⟩ := hSw; go_simp; try with_reducible rfl
         simp only [pS]
         refine WpN.takeD (i := 13) (v := ?_) rfl rfl (by kernel_rfl) (fun _ _ _ h => h) (Or.inl ⟨by rfl, ?_⟩) (by assumption) ?_
         rotate_left
         ·intro w hSw; rw [hSS.out] at hSw; obtain ⟨sw0, sw1, sw2, sw3, sw4⟩ := hSw; go_simp; try with_reducible rfl
         simp only [pS]
         refine WpN.takeD (i := 14) (v := ?_) rfl rfl (by kernel_rfl) (fun _ _ _ h => h) (Or.inl ⟨by rfl, ?_⟩) (by assumption) ?_
         rotate_left
         ·intro w hSw; rw [hSS.out] at hSw; obtain ⟨sw0, sw1, sw2, sw3, sw4⟩ := hSw; go_simp; try with_reducible rfl
         simp only [pS]
         refine WpN.takeD (i := 15) (v := ?_) rfl rfl (by kernel_rfl) (fun _ _ _ h => h) (Or.inl ⟨by rfl, ?_⟩) (by assumption) ?_
         rotate_left
         ·intro w hSw; rw [hSS.out] at hSw; obtain ⟨sw0, sw1, sw2, sw3, sw4⟩ := hSw; go_simp; try with_reducible rfl
         simp only [pS]
         refine WpN.takeD (i := 16) (v := ?_) rfl rfl (by kernel_rfl) (fun _ _ _ h => h) (Or.inl ⟨by rfl, ?_⟩) (by assumption) ?_
         rotate_left
         ·intro w hSw; rw [hSS.out] at hSw; obtain ⟨sw0, sw1, sw2, sw3, sw4⟩ := hSw; go_simp; try with_reducible rfl
         simp only [pS]
         refine WpN.one (i := 8) rfl (by kernel_rfl) fun K hK => ?_
         go_wp2_with (first | (refine (HC.out l _).mono ?_; rw [HQL.out]; rintro e w5 ⟨rfl, hb5⟩; have hb6 : Below wa.heap.size wa w5 := ext_trans (below_drew (Below.refl _ _)) hb5))
         have hS5 : S w5 := HSB.out _ hb6
         refine hK.out _ _ ⟨fun _ => hS5, ?_⟩
         clear hK K
         try simp only [pS]
         refine WpN.takeD (i := 9) (v := ?_) rfl rfl (by kernel_rfl) (fun _ _ _ h => h) (Or.inl ⟨by rfl, ?_⟩) (by assumption) ?_
         rotate_left
         ·intro w hSw; rw [hSS.out] at hSw; obtain ⟨sw0, sw1, sw2, sw3, sw4⟩ := hSw; go_simp; try with_reducible rfl
         simp only [pS]
         refine WpN.one (i := 17) rfl (by kernel_rfl) fun K hK => ?_
         have M5 := M.ext hb6
         go_wp2_with (first | (refine (M5.less_any l1 l2 l3 (by omega) (p := (y.b.toNat, te.toNat)) (m := m + ql) (o := ⟨u, t, i, t, true⟩) (by unfold Sml; omega) (by simp only [Never]; omega) (by simp only; omega) (by simp only; omega)).mono ?_; rintro e w6 ⟨rfl, M6, _⟩))
         refine hK.out _ _ ⟨fun h => by omega, ?_⟩
         clear hK K
         refine WpN.done (by kernel_rfl) ?_ _
         go_wp2_with fail
         go_roundw
         case rel => exact ⟨i + 1, n2 + 1, _, _, by omega, by go_num, by omega, HP, M6⟩
         case measure => simp [intOf]; omega
theorem fill_any (kf : Nat) (wt : LegD → Int) (A A' : Option Addr) (c c' : Nat) (g : GraphD) (v s : Int) (w : World) (hent : Enters Tryz.prog kf) (hG : GraphAt w A c A' c' g) (hV : Valid g) (hw : Light g wt) (hv0 : 0 ≤ v) (hv1 : v < g.lives.length) (hs0 : 0 ≤ s) (hs1 : s < g.h)
  (hcost : ∀ l w, Calls Tryz.prog kf #[legV l] w fun e w' => e = .returned (.int .i64 (wt l)) ∧ Below w.heap.size w w') :
  Calls Tryz.prog 141 #[gV A c A' c' g, .int .i64 v, .int .i64 s, .func (.func kf) #[] #[]] w (FillOut g wt v s w) := by
 obtain ⟨v, rfl⟩ := Int.eq_ofNat_of_zero_le hv0
 obtain ⟨s, rfl⟩ := Int.eq_ofNat_of_zero_le hs0
 exact fill_nat kf wt A A' c c' g v s w hent hG hV hw hv1 hs1 hcost
end Go.Proofs.YtjcimdpldlamfaaGreatDoor
