/- Several texts in one: Least, Depart, Ints, Early0, Said, LawBack. -/
import Derived.Test.YtcgnalpcbcpmkaaBded4119261a
import Derived.Test.YtcgnalpcbcpmkaaBd75e2e67139
import Derived.Test.YtcgnalpcbcpmkaaBd87da4791cb
import Derived.Test.YtcgnalpcbcpmkaaBdde16ed6342
import Derived.Test.YtcgnalpcbcpmkaaBd97b53d9a67
import Derived.Test.YtcgnalpcbcpmkaaBd405a516cd9
import Derived.Test.YtcgnalpcbcpmkaaBdfd2dcbfadf
import Derived.Test.YtcgnalpcbcpmkaaBd3d7c8cd354
/- The walks of the table's least, of the sums, of Costs and Hops. -/
namespace Go.Proofs.Ytcgnalpcbcpmkaa
open Go.RowKit

set_option maxRecDepth 100000 in
set_option maxHeartbeats 4000000 in
theorem least_any (tb b1 b2 n v : Nat) (B : Tab Int) (A A' : Option Addr) (c c' : Nat) (g : GraphD) (w : World) (hT : Blk w tb 154 #[.map (some b1), .map (some b2)]) (hB : TabAt iV2 w b1 n B) (hh0 : 1 ≤ g.h) (hh1 : g.h ≤ 100) (hv : v ≤ 1000) :
    Calls Try.prog 116 #[.pointer (some ⟨tb, 0, none⟩), gV A c A' c' g, .int .i64 (v : Int)] w fun e w' => e = .returned (.tuple #[.int .i64 (leastN (vT B) v g.h.toNat).1, .int .i64 (leastN (vT B) v g.h.toNat).2]) ∧ Below w.heap.size w w' := by
  go_enter Try.func116, Try.ntmps116
  go_wp2_with fail
  have HT := hT.alloc (Obj.cells (gC A c A' c' g) 28)
  have HB := hB.alloc (Obj.cells (gC A c A' c' g) 28)
  have hbw : Below w.heap.size w (w.alloc (Obj.cells (gC A c A' c' g) 28)) := by go_grown
  obtain ⟨wa, hwa⟩ : ∃ wa : World, wa = w.alloc (Obj.cells (gC A c A' c' g) 28) := ⟨_, rfl⟩
  rw [← hwa] at HT HB hbw ⊢
  clear hwa hT hB
  go_loopw [8, 9, 15] (fun b a x wr => ∃ (k : Nat) (bb aa : Int), (k : Int) ≤ g.h ∧ x = .int .i64 k ∧ b = .int .i64 bb ∧ a = .int .i64 aa ∧ Hid (leastN (vT B) v k = (bb, aa)) ∧ wr = wa) (fun _ _ x _ => g.h.toNat - (intOf x).toNat)
  case atStart => exact ⟨0, Never, 0, by omega, rfl, rfl, rfl, Lib.hid rfl, rfl⟩
  case round =>
    obtain ⟨k, bb, aa, hk, rfl, rfl, rfl, HL, rfl⟩ := hrel
    have hbb : bb ≤ Never := by have := leastN_le (vT B) v k; rw [HL.out] at this; exact this
    by_cases hlt : (k : Int) < g.h
    case neg =>
      have hE : Hid (leastN (vT B) v g.h.toNat = (bb, aa)) := Lib.hid (by rw [show g.h.toNat = k by omega]; exact HL.out)
      go_wp2_with fail
      go_ret2
      exact ⟨by rw [hE.out]; rfl, hbw⟩
    obtain ⟨t1, t2, t3⟩ := HT.facts
    have hlook := HB.look Try.underlying151 (zero_best _) (p := (v, k)) (by unfold Sml; omega)
    cases hp : B (v, k) with
    | none =>
      rw [hp] at hlook
      simp only [Option.map_none, Option.getD_none, Option.isSome_none] at hlook
      have HN : Hid (leastN (vT B) v (k + 1) = (bb, aa)) := Lib.hid (by rw [leastN, HL.out, vT_none hp, if_neg (by simp only; omega)])
      clear hp
      go_wp2_with fail
      go_roundw
      case rel => exact ⟨k + 1, bb, aa, by omega, by go_num, rfl, rfl, HN, by trivial⟩
      case measure => simp [intOf]; omega
    | some m =>
      rw [hp] at hlook
      simp only [Option.map_some, Option.getD_some, Option.isSome_some, iV2] at hlook
      by_cases hm : m < bb
      case pos =>
        have hd : decide (m < bb) = true := by simpa using hm
        have HN : Hid (leastN (vT B) v (k + 1) = (m, (k : Int))) := Lib.hid (by rw [leastN, HL.out, vT_some hp, if_pos (by simp only; omega)])
        clear hp
        go_wp2_with fail
        go_roundw
        case rel => exact ⟨k + 1, m, k, by omega, by go_num, rfl, rfl, HN, by trivial⟩
        case measure => simp [intOf]; omega
      case neg =>
        have hd : decide (m < bb) = false := by simpa using hm
        have HN : Hid (leastN (vT B) v (k + 1) = (bb, aa)) := Lib.hid (by rw [leastN, HL.out, vT_some hp, if_neg (by simp only; omega)])
        clear hp
        go_wp2_with fail
        go_roundw
        case rel => exact ⟨k + 1, bb, aa, by omega, by go_num, rfl, rfl, HN, by trivial⟩
        case measure => simp [intOf]; omega

set_option maxRecDepth 100000 in
set_option maxHeartbeats 4000000 in
theorem sums_any (kf : Nat) (wt : LegD → Int) (A A' : Option Addr) (c c' : Nat) (g : GraphD) (v s : Int) (w : World) (hent : Enters Try.prog kf) (hG : GraphAt w A c A' c' g) (hw : Valid g → Light g wt)
    (hcost : ∀ l w, Calls Try.prog kf #[legV l] w fun e w' => e = .returned (.int .i64 (wt l)) ∧ Below w.heap.size w w') :
    Calls Try.prog 122 #[gV A c A' c' g, .int .i64 v, .int .i64 s, .func (.func kf) #[] #[]] w (IntsOut (CostsOut g wt v s) (placeErr g v s) w) := by
  by_cases h0 : placeErr g v s = 0
  case neg =>
    have H0 := Lib.hid h0
    have hn : (placeErr g v s != 0) = true := by simp [h0]
    clear h0 hcost
    go_enter Try.func122, Try.ntmps122
    go_wp2_with fail
    refine (out_any _ _ _ _ g v s _ (hG.ext (by go_grown))).mono ?_
    rintro e w1 ⟨Ao, co, rfl, hSo, hmo, hb1⟩
    go_wp2_with fail
    go_ret2
    exact ⟨[], none, 0, by unfold CostsOut; rw [if_neg H0.out], rfl, SlAt.nil, by simp, ext_trans (by go_grown) hb1⟩
  obtain ⟨hV, ⟨hv0, hv1⟩, ht0, ht1⟩ := place_of h0
  have H0 := Lib.hid h0
  have hh1 := hV.h1
  have hh0 := hV.h0
  have hn12 := hV.nl
  have m1 : g.lives.length ≤ 9223372036854775807 := by omega
  have HC := Lib.hid hcost
  clear h0 hcost
  obtain ⟨i0, hi, hz0, hz1, hz2⟩ := info_parts' info_int
  go_enter Try.func122, Try.ntmps122
  go_wp2_with fail
  refine (out_any _ _ _ _ g v s _ (hG.ext (by go_grown))).mono ?_
  rw [H0.out]
  rintro e w1 ⟨Ao, co, rfl, hSo, hmo, hb1⟩
  obtain ⟨B0, c1, c2, c3⟩ := (Blk.new w 28 (gC A c A' c' g)).go hb1
  have hbw : Below w.heap.size w w1 := ext_trans (by go_grown) hb1
  clear hb1
  go_wp2_with fail
  refine (fill_any kf wt _ _ _ _ g v s _ hent (hG.ext hbw) hV (hw hV) hv0 hv1 ht0 ht1 HC.out).mono ?_
  rintro e w2 ⟨tb, b1, b2, n, t, B, O, rfl, HI, hT, hB, hO, hb2⟩
  obtain ⟨B0, c1, c2, c3⟩ := B0.go hb2
  have hbw : Below w.heap.size w w2 := ext_trans hbw hb2
  have HCL : Hid (CostL g wt v s (vT B)) := Lib.hid (HI.out.1.ends hV ⟨hv0, hv1⟩ ht0 HI.out.2)
  clear hb2 HI hO
  go_wp2_with fail
  clear c1 c2
  go_loopw [13, 35] (fun o x wr => ∃ (k : Nat) (lo : List Int), k ≤ g.lives.length ∧ x = .int .i64 k ∧ Hid (lo = (leastL g (vT B)).take k) ∧ lo.length ≤ 12 ∧ Own intEnc 1 wr w2.heap.size 3 o lo ∧ Below w2.heap.size w2 wr) (fun _ x _ => g.lives.length - (intOf x).toNat)
  case atStart => exact ⟨0, [], Nat.zero_le _, rfl, Lib.hid (by simp), by simp, Own.nil, Below.refl _ _⟩
  case round =>
    obtain ⟨k, lo, hk, rfl, HLO, hlo, hown, hb⟩ := hrel
    have hbwr := ext_trans hbw hb
    obtain ⟨f1, f2, f3⟩ := (B0.ext hb).facts
    have hT' := hT.ext hb
    have hB' := hB.ext hb
    have hzs := hb.size
    by_cases hlt : k < g.lives.length
    case pos =>
      have HN : Hid (lo ++ [(leastN (vT B) k g.h.toNat).1] = (leastL g (vT B)).take (k + 1)) := Lib.hid (by rw [HLO.out, List.take_add_one, leastL_get hlt]; rfl)
      have hlk : lo.length ≤ k := by rw [HLO.out, List.length_take]; omega
      obtain ⟨Ao2, co2, rfl⟩ := hown.form
      go_wp2_with fail
      refine (least_any tb b1 b2 n k B A A' c c' g _ hT' hB' hh0 hh1 (by omega)).mono ?_
      obtain ⟨q, hq⟩ : ∃ q, leastN (vT B) k g.h.toNat = q := ⟨_, rfl⟩
      rw [hq] at HN ⊢
      obtain ⟨q1, q2⟩ := q
      clear hq
      rintro e w3 ⟨rfl, hb3⟩
      have hown := hown.keep (fun b cs h => (Blk.go h hb3).1)
      have hb := ext_trans hb hb3
      have hz3 := hb.size
      clear hb3 hT' hB' f1 f2 f3
      go_wp2_with (at_builtin; refine wpList_append_els (enc := intEnc) rfl (.tmp 45) (.tmp 47) 53 rfl w2.heap.size 3 i0 _ 1 8 Try.underlying53 hi hz0 hz1 hz2 rfl (by decide) _ lo [q1] 1 rfl rfl hown _ rfl w3.heap.size (by simp) rfl rfl int_one1 (by omega) (by decide) hz3 ?_; intro v' w8 hown8 hb8 hkp8)
      go_roundw
      case rel => exact ⟨k + 1, lo ++ [q1], by omega, by go_num, HN, by simp; omega, hown8, hb.trans hb8⟩
      case measure => simp [intOf]; omega
    case neg =>
      have HE : Hid (lo = leastL g (vT B)) := Lib.hid (by rw [HLO.out, List.take_of_length_le]; rw [leastL_len]; omega)
      have hi64 : ∀ x, x ∈ lo → I64 x := fun x hx => by
        rw [HE.out] at hx
        simp only [leastL, List.mem_map, List.mem_range] at hx
        obtain ⟨u, _, rfl⟩ := hx
        have h1 := leastN_le (vT B) u g.h.toNat
        have h2 : 0 ≤ (leastN (vT B) u g.h.toNat).1 := by
          rcases Int.lt_or_le (leastN (vT B) u g.h.toNat).1 Never with h | h
          · obtain ⟨r, _, _, h3⟩ := leastN_at h
            rw [← h3]; exact HCL.out.pos (hw hV) _
          · simp only [Never] at h; omega
        unfold I64
        simp only [Never] at h1
        omega
      obtain ⟨Ar, cr, rfl, hSr⟩ := own_ints hown hi64
      go_wp2_with fail
      go_ret2
      rw [H0.out]
      exact ⟨lo, Ar, cr, by unfold CostsOut; rw [if_pos H0.out]; exact ⟨_, HCL.out, HE.out⟩, rfl, hSr, by unfold maxLen; omega, hbwr⟩

theorem cost_any (l : LegD) (w : World) : Calls Try.prog 115 #[legV l] w fun e w' => e = .returned (.int .i64 (lCost l)) ∧ Below w.heap.size w w' := by
  go_enter Try.func115, Try.ntmps115
  go_wp2
  go_ret
  exact ⟨rfl, by go_grown⟩
theorem one_any (l : LegD) (w : World) : Calls Try.prog 123 #[legV l] w fun e w' => e = .returned (.int .i64 (lOne l)) ∧ Below w.heap.size w w' := by
  go_enter Try.func123, Try.ntmps123
  go_wp2
  go_ret
  exact ⟨rfl, by go_grown⟩
theorem enters_cost : Enters Try.prog 115 := enters_of Try.func115 (by kernel_rfl) rfl
theorem enters_one : Enters Try.prog 123 := enters_of Try.func123 (by kernel_rfl) rfl
set_option maxRecDepth 100000 in
theorem costs_any (A A' : Option Addr) (c c' : Nat) (g : GraphD) (v s : Int) (w : World) (hG : GraphAt w A c A' c' g) :
    Calls Try.prog 83 #[gV A c A' c' g, .int .i64 v, .int .i64 s] w (IntsOut (CostsOut g lCost v s) (placeErr g v s) w) := by
  go_enter Try.func83, Try.ntmps83
  go_wp2_with fail
  refine (sums_any 115 lCost _ _ _ _ g v s _ enters_cost (hG.ext (by go_grown)) light_cost cost_any).mono ?_
  rintro e w1 ⟨l, Ar, cr, hl, rfl, hS, hm, hb⟩
  have HL := Lib.hid hl
  clear hl
  go_wp2_with fail
  go_ret2
  exact ⟨l, Ar, cr, HL.out, rfl, hS, hm, ext_trans (by go_grown) hb⟩
set_option maxRecDepth 100000 in
theorem hopsum_any (A A' : Option Addr) (c c' : Nat) (g : GraphD) (v s : Int) (w : World) (hG : GraphAt w A c A' c' g) :
    Calls Try.prog 85 #[gV A c A' c' g, .int .i64 v, .int .i64 s] w (IntsOut (CostsOut g lOne v s) (placeErr g v s) w) := by
  go_enter Try.func85, Try.ntmps85
  go_wp2_with fail
  refine (sums_any 123 lOne _ _ _ _ g v s _ enters_one (hG.ext (by go_grown)) (fun _ => light_one) one_any).mono ?_
  rintro e w1 ⟨l, Ar, cr, hl, rfl, hS, hm, hb⟩
  have HL := Lib.hid hl
  clear hl
  go_wp2_with fail
  go_ret2
  exact ⟨l, Ar, cr, HL.out, rfl, hS, hm, ext_trans (by go_grown) hb⟩
end Go.Proofs.Ytcgnalpcbcpmkaa
/- The walk of early.Departures. -/
namespace Go.Proofs.Ytcgnalpcbcpmkaa
open Go.RowKit

def DepOut (g : GraphD) (v t : Int) (l : List Int) : Prop := if placeErr g v t = 0 then LateL g v t l else l = []
theorem LateL.low {g : GraphD} {v t : Int} {l : List Int} (h : LateL g v t l) (ht : 0 ≤ t) (i : Nat) : -1 ≤ gi l i := by
  have h1 : - gi l i ≤ - gi (startL g v t) i := h.2.1.1 i
  have h2 := startL_low (g := g) (v := v) ht i
  omega
theorem LateL.high {g : GraphD} {v t : Int} {l : List Int} (hV : Valid g) (h : LateL g v t l) (ht : t ≤ 100) (i : Nat) : gi l i ≤ 100 := late_high hV ht h.2.2 i
theorem fill_minus {n : Nat} {l : List Int} (hl : l.length = n) (h : ∀ i, i < n → gi l i = -1) : l = List.replicate n (-1) :=
  gi_eq_of (by simp [hl]) fun i hi => by rw [h i (by omega)]; exact (gi_of (by simp [hl ▸ hi])).symm

set_option maxRecDepth 100000 in
set_option maxHeartbeats 8000000 in
theorem departures_any (A A' : Option Addr) (c c' : Nat) (g : GraphD) (v t : Int) (w : World) (hG : GraphAt w A c A' c' g) :
    Calls Try.prog 74 #[gV A c A' c' g, .int .i64 v, .int .i64 t] w (IntsOut (DepOut g v t) (placeErr g v t) w) := by
  by_cases h0 : placeErr g v t = 0
  case neg =>
    have H0 := Lib.hid h0
    have hn : (placeErr g v t != 0) = true := by simp [h0]
    clear h0
    go_enter Try.func74, Try.ntmps74
    go_wp2_with fail
    refine (out_any _ _ _ _ g v t _ (hG.ext (by go_grown))).mono ?_
    rintro e w1 ⟨Ao, co, rfl, hSo, hmo, hb1⟩
    go_wp2_with fail
    go_ret2
    exact ⟨[], none, 0, by unfold DepOut; rw [if_neg H0.out], rfl, SlAt.nil, by simp, ext_trans (by go_grown) hb1⟩
  obtain ⟨hV, ⟨hv0, hv1⟩, ht0, ht1⟩ := place_of h0
  have H0 := Lib.hid h0
  have hh1 := hV.h1
  have hn12 := hV.nl
  have hmk := make_ints g.lives.length (by omega)
  clear h0
  go_enter Try.func74, Try.ntmps74
  go_wp2_with fail
  refine (out_any _ _ _ _ g v t _ (hG.ext (by go_grown))).mono ?_
  rw [H0.out]
  rintro e w1 ⟨Ao, co, rfl, hSo, hmo, hb1⟩
  obtain ⟨B0, c1, c2, c3⟩ := (Blk.new w 28 (gC A c A' c' g)).go hb1
  have hbw : Below w.heap.size w w1 := ext_trans (by go_grown) hb1
  clear hb1 hSo hmo
  go_wp2_with fail
  have hT := IRow.made (w := w1) (n := g.lives.length) rfl
  have B0 := B0.alloc (Obj.cells (madeCells #[Value.int IntKind.i64 0] g.lives.length) 3)
  have hbw := ext_alloc hbw (Obj.cells (madeCells #[Value.int IntKind.i64 0] g.lives.length) 3)
  have hbd : w.heap.size < w1.heap.size := c3
  clear c1 c2 c3
  go_loopw [32] (fun x wr => ∃ (k : Nat) (l : List Int), k ≤ g.lives.length ∧ x = .int .i64 k ∧ Hid (l.length = g.lives.length ∧ ∀ i, i < k → gi l i = -1) ∧ IRow wr w1.heap.size l ∧ Blk wr w.heap.size 28 (gC A c A' c' g) ∧ Below w.heap.size w wr)
    (fun x _ => g.lives.length - (intOf x).toNat)
  case atStart => exact ⟨0, _, Nat.zero_le _, rfl, Lib.hid ⟨by simp, fun i h => by omega⟩, hT, B0, hbw⟩
  case round =>
    clear hT B0 hbw
    obtain ⟨k, l, hk, rfl, HL, hT, B0, hbw⟩ := hrel
    by_cases hlt : k < g.lives.length
    case pos =>
      have hc := hT.cell (k := k) (by rw [HL.out.1]; exact hlt)
      have hf := Blk.frozen hT k
      go_wp2_with fail
      go_roundw
      case rel =>
        refine ⟨k + 1, l.set k (-1), by omega, by go_num, Lib.hid ⟨by simp [HL.out.1], fun i hi => ?_⟩, hT.set k (-1), B0.far (by simp; omega) _, hbw.setCell (by simp; omega) _⟩
        rw [gi_set (by rw [HL.out.1]; exact hlt)]
        by_cases e : i = k
        · rw [e, upd_at]
        · rw [upd_ne _ _ e]; exact HL.out.2 i (by omega)
      case measure => simp [intOf]; omega
    case neg =>
      have HR := Lib.hid (fill_minus HL.out.1 (fun i hi => HL.out.2 i (by omega)))
      rw [HR.out] at hT
      clear HL HR hmk
      obtain ⟨e1, e2, e3⟩ := B0.facts
      cases hal : aliveB g v t
      case false =>
        have HA := Lib.hid hal
        have HLN := Lib.hid (late_none hal ht0 hV)
        clear hal
        go_wp2_with fail
        refine (alive_any _ _ _ _ g v t _ (hG.ext hbw) hv0 hv1).mono ?_
        rw [HA.out]
        rintro e w2 ⟨rfl, hb1⟩
        have hT := Blk.ext hT hb1
        have hbw := ext_trans hbw hb1
        go_wp2_with fail
        go_ret2
        rw [H0.out]
        exact ⟨List.replicate g.lives.length (-1), some ⟨w1.heap.size, 0, none⟩, g.lives.length, by unfold DepOut; rw [if_pos H0.out]; exact HLN.out, by rw [List.length_replicate]; rfl, IRow.slAt hT (fun k _ => by have h1 := HLN.out.low ht0 k; have h2 := HLN.out.high hV (by omega) k; exact ⟨by omega, by omega⟩), by simp [maxLen]; omega, hbw⟩
      have HA := Lib.hid hal
      have HST := Lib.hid (startL_is hal hv0 hv1)
      clear hal
      go_wp2_with fail
      refine (alive_any _ _ _ _ g v t _ (hG.ext hbw) hv0 hv1).mono ?_
      rw [HA.out]
      rintro e w2 ⟨rfl, hb1⟩
      have hT := Blk.ext hT hb1
      have B0 := B0.ext hb1
      have hbw := ext_trans hbw hb1
      have hc := IRow.cell hT (k := v.toNat) (by simp; omega)
      have hf := Blk.frozen hT v.toNat
      clear hb1 e1 e2 e3
      go_wp2_with fail
      have hT := IRow.set hT v.toNat t
      rw [HST.out] at hT
      have B0 := B0.far (p := ⟨w1.heap.size, v.toNat, none⟩) (by simp; omega) (.int .i64 t)
      have hbw := hbw.setCell (p := ⟨w1.heap.size, v.toNat, none⟩) (by simp; omega) (.int .i64 t)
      clear hc hf
      go_loopg [12] (left (startL g v t) + 1) (fun gk m wr => ∃ (b : Bool) (l : List Int), m = .bool b ∧ Hid ((b = true → left l < gk ∧ TMid g v t l l false 0) ∧ (b = false → LateL g v t l)) ∧ Hid (l.length = g.lives.length) ∧
        IRow wr w1.heap.size l ∧ Blk wr w.heap.size 28 (gC A c A' c' g) ∧ Below w.heap.size w wr)
      case atStart => exact ⟨true, _, rfl, Lib.hid ⟨fun _ => ⟨Nat.lt_succ_self _, TMid.start ht0⟩, fun h => by simp at h⟩, Lib.hid (by simp [startL]), hT, B0, hbw⟩
      case round =>
        clear hT B0 hbw
        obtain ⟨m, l, rfl, HN, HLE, hT, B0, hbw⟩ := hrel
        cases m
        case false =>
          have HQ := Lib.hid (HN.out.2 rfl)
          go_wp2_with fail
          go_ret2
          rw [H0.out]
          have hlen := HLE.out
          exact ⟨l, some ⟨w1.heap.size, 0, none⟩, g.lives.length, by unfold DepOut; rw [if_pos H0.out]; exact HQ.out, by rw [hlen]; rfl, IRow.slAt hT (fun k _ => by have h1 := HQ.out.low ht0 k; have h2 := HQ.out.high hV (by omega) k; exact ⟨by omega, by omega⟩), by rw [hlen]; unfold maxLen; omega, hbw⟩
        case true =>
          have HM := Lib.hid (HN.out.1 rfl)
          clear HN HLE
          obtain ⟨e1, e2, e3⟩ := B0.facts
          obtain ⟨bz, oz, hE⟩ := hG.edges
          go_wp2_with fail
          go_loopw [12, 53] (fun m x wr => ∃ (b : Bool) (j : Nat) (l2 : List Int), j ≤ g.edges.length ∧ m = .bool b ∧ x = .int .i64 j ∧ Hid (TMid g v t l l2 b j) ∧
            IRow wr w1.heap.size l2 ∧ Blk wr w.heap.size 28 (gC A c A' c' g) ∧ Below w.heap.size w wr) (fun _ x _ => g.edges.length - (intOf x).toNat)
          case atStart => exact ⟨false, 0, l, Nat.zero_le _, rfl, rfl, Lib.hid HM.out.2, hT, B0, hbw⟩
          case round =>
            clear hT B0 hbw e1 e2 e3
            obtain ⟨m, j, l2, hj, rfl, rfl, HD, hT, B0, hbw⟩ := hrel
            by_cases hlt : j < g.edges.length
            case neg =>
              have HG := Lib.hid HM.out.1
              cases m
              case true =>
                have HT := Lib.hid (HD.out.less rfl)
                go_wp2_with fail
                go_roundg (gk - 1)
                case rel => exact ⟨true, l2, rfl, Lib.hid ⟨fun _ => ⟨by have := HT.out; have := HG.out; omega, HD.out.again⟩, fun h => by simp at h⟩, Lib.hid HD.out.len, hT, B0, hbw⟩
                case measure => have := HG.out; omega
              case false =>
                have HQ := Lib.hid (HD.out.fin (show g.edges.length ≤ j by omega))
                go_wp2_with fail
                go_roundg (gk - 1)
                case rel => exact ⟨false, l2, rfl, Lib.hid ⟨fun h => by simp at h, fun _ => HQ.out⟩, Lib.hid HD.out.len, hT, B0, hbw⟩
                case measure => have := HG.out; omega
            obtain ⟨y, hy⟩ := get_lt hlt
            obtain ⟨rfl, hbz1, ⟨⟨x0, x1, L, cl, x2, hl1, hl2, hL⟩, _⟩⟩ := hE j y hy
            have y0 := x0.now hbw
            have y1 := x1.now hbw
            have y2 := x2.now hbw
            have hyo := hV.edges y (List.mem_of_getElem? hy)
            have HYE := Lib.hid hy
            have ha0 := hyo.a0
            have ha1 := hyo.a1
            have hb0 := hyo.b0
            have hb1 := hyo.b1
            have hl6 := hyo.six
            have hne0 := hV.ne
            have n0 := B0.lt
            have nt := Blk.lt hT
            have hca := hT.cell (k := y.a.toNat) (by rw [HD.out.len]; omega)
            have hcb := hT.cell (k := y.b.toNat) (by rw [HD.out.len]; omega)
            obtain ⟨p', hp'⟩ : ∃ p', gi l2 y.a.toNat = p' := ⟨_, rfl⟩
            obtain ⟨q', hq'⟩ : ∃ q', gi l2 y.b.toNat = q' := ⟨_, rfl⟩
            rw [hp'] at hca
            rw [hq'] at hcb
            have HP' := Lib.hid hp'
            have HQ' := Lib.hid hq'
            obtain ⟨d, hd⟩ : ∃ d, lastT g y q' = d := ⟨_, rfl⟩
            have HDD := Lib.hid hd
            have hdh : d ≤ 100 := by rw [← hd]; exact lastT_high hV
            clear hy x0 x1 x2 hp' hq' hd
            go_wp2_with fail
            obtain ⟨ba, hba⟩ : ∃ ba, ba = wr.heap.size := ⟨_, rfl⟩
            have Ba := Blk.new wr 99 #[.int .i64 y.a, .int .i64 y.b, .slice L y.legs.length cl]
            have hT := irow_alloc hT (Obj.cells #[.int .i64 y.a, .int .i64 y.b, .slice L y.legs.length cl] 99)
            have B0 := B0.alloc (Obj.cells #[.int .i64 y.a, .int .i64 y.b, .slice L y.legs.length cl] 99)
            have hbw := ext_alloc hbw (Obj.cells #[.int .i64 y.a, .int .i64 y.b, .slice L y.legs.length cl] 99)
            rw [← hba] at Ba n0 nt ⊢
            obtain ⟨wa, hwa⟩ : ∃ wa : World, wa = wr.alloc (Obj.cells #[.int .i64 y.a, .int .i64 y.b, .slice L y.legs.length cl] 99) := ⟨_, rfl⟩
            rw [← hwa] at Ba hT B0 hbw ⊢
            clear hba hwa
            have S0 : wa.cell? ⟨w.heap.size, 0, none⟩ = some (.int .i64 g.h) ∧ wa.cell? ⟨w.heap.size, 1, none⟩ = some (.slice A g.lives.length c) ∧ wa.cell? ⟨w.heap.size, 2, none⟩ = some (.slice (some ⟨bz, oz, none⟩) g.edges.length c') ∧ wa.cell? ⟨ba, 0, none⟩ = some (.int .i64 y.a) ∧ wa.cell? ⟨ba, 1, none⟩ = some (.int .i64 y.b) ∧ wa.cell? ⟨ba, 2, none⟩ = some (.slice L y.legs.length cl) ∧ wa.cell? ⟨w1.heap.size, y.b.toNat, none⟩ = some (.int .i64 q') ∧ wa.cell? ⟨w1.heap.size, y.a.toNat, none⟩ = some (.int .i64 p') :=
              ⟨by rw [B0.cell]; rfl, by rw [B0.cell]; rfl, by rw [B0.cell]; rfl, by rw [Ba.cell]; rfl, by rw [Ba.cell]; rfl, by rw [Ba.cell]; rfl, by rw [IRow.cell hT (by rw [HD.out.len]; omega), HQ'.out], by rw [IRow.cell hT (by rw [HD.out.len]; omega), HP'.out]⟩
            clear hca hcb y0 y1 y2
            go_region_held3 (fun w' => w'.cell? ⟨w.heap.size, 0, none⟩ = some (.int .i64 g.h) ∧ w'.cell? ⟨w.heap.size, 1, none⟩ = some (.slice A g.lives.length c) ∧ w'.cell? ⟨w.heap.size, 2, none⟩ = some (.slice (some ⟨bz, oz, none⟩) g.edges.length c') ∧ w'.cell? ⟨ba, 0, none⟩ = some (.int .i64 y.a) ∧ w'.cell? ⟨ba, 1, none⟩ = some (.int .i64 y.b) ∧ w'.cell? ⟨ba, 2, none⟩ = some (.slice L y.legs.length cl) ∧ w'.cell? ⟨w1.heap.size, y.b.toNat, none⟩ = some (.int .i64 q') ∧ w'.cell? ⟨w1.heap.size, y.a.toNat, none⟩ = some (.int .i64 p'))
              (first | exact S0 | exact keep8 hb6 S0)
              (first | (go_at_call 121; refine (last_any _ _ L c c' cl g y q' _ (hG.ext (ext_trans hbw (by go_grown))) hV hyo (hL.ext RLeg.stable (ext_trans hbw (by go_grown))) (by unfold maxLen; omega)).mono ?_; rw [HDD.out]; rintro e w5 ⟨rfl, hb5⟩; have hb6 : Below wa.heap.size wa w5 := ext_trans (by go_grown) hb5))
            have hT := Blk.ext hT hb6
            have B0 := B0.ext hb6
            have Ba := Ba.ext hb6
            have hbw := ext_trans hbw hb6
            have hca := IRow.cell hT (k := y.a.toNat) (by rw [HD.out.len]; omega)
            rw [HP'.out] at hca
            have hfa := Blk.frozen hT y.a.toNat
            obtain ⟨a1, a2, a3⟩ := Ba.facts
            clear S0 hb5 hb6
            by_cases hgt : d > p'
            case pos =>
              have HC := Lib.hid (HD.out.change hV HYE.out (d := d) (by rw [HQ'.out]; exact HDD.out) (by rw [HP'.out]; exact hgt) hdh)
              have hgd : decide (d > p') = true := by simpa using hgt
              go_wp2_with fail
              go_roundw
              case rel => exact ⟨true, j + 1, _, by omega, rfl, by go_num, HC, IRow.set hT _ _, B0.far (by simp; omega) _, hbw.setCell (by simp; omega) _⟩
              case measure => simp [intOf]; omega
            case neg =>
              have HC := Lib.hid (HD.out.same HYE.out (by rw [HQ'.out, HP'.out, HDD.out]; omega))
              have hgd : decide (d > p') = false := by simpa using hgt
              go_wp2_with fail
              go_roundw
              case rel => exact ⟨m, j + 1, l2, by omega, rfl, by go_num, HC, hT, B0, hbw⟩
              case measure => simp [intOf]; omega
end Go.Proofs.Ytcgnalpcbcpmkaa
/- Lists of numbers that are told, with an error; two lists that are the same. -/
namespace Go.Proofs.Ytcgnalpcbcpmkaa
open Go.RowKit

/-- A list of numbers that is as it should be, and no error. -/
def IntsGood (P : List Int → Prop) (w : World) (e : Ending) (w' : World) : Prop := ∃ l A c, Hid (P l) ∧ e = .returned (.tuple #[.slice A l.length c, .int .i64 0]) ∧ SlAt RInt 1 w' A l ∧ l.length ≤ maxLen ∧ Below w.heap.size w w'
def IntsBad (er : Int) (w : World) (e : Ending) (w' : World) : Prop := ∃ A c, e = .returned (.tuple #[.slice A 0 c, .int .i64 er]) ∧ Below w.heap.size w w'
section
variable {P Q : List Int → Prop} {er : Int} {w w' : World} {e : Ending}
theorem ints_good (h : IntsOut P er w e w') (h0 : er = 0) (hpq : ∀ l, P l → Q l) : IntsGood Q w e w' := by
  subst h0
  obtain ⟨l, A, c, hl, he, h1, h2, h3⟩ := h
  exact ⟨l, A, c, Lib.hid (hpq l hl), he, h1, h2, h3⟩
theorem ints_bad (h : IntsOut P er w e w') (hpq : ∀ l, P l → l = []) : IntsBad er w e w' := by
  obtain ⟨l, A, c, hl, he, h1, h2, h3⟩ := h
  obtain rfl := hpq l hl
  exact ⟨A, c, he, h3⟩
end
theorem equalNil_any (A B : Option Addr) (c d : Nat) (w : World) : Calls Try.prog 51 #[.slice A 0 c, .slice B 0 d] w fun e w' => e = .returned (.bool true) ∧ Below w.heap.size w w' :=
  (equalInts_any A B c d [] [] w SlAt.nil SlAt.nil (by simp) (by simp)).mono fun e w' ⟨h1, h2⟩ => ⟨by rw [h1]; simp, h2⟩
theorem equalSame_any (A B : Option Addr) (c d : Nat) (l : List Int) (n m : Nat) (w : World) (hA : SlAt RInt 1 w A l) (hB : SlAt RInt 1 w B l) (hl : l.length ≤ maxLen) (hn : l.length = n) (hm : l.length = m) :
    Calls Try.prog 51 #[.slice A n c, .slice B m d] w fun e w' => e = .returned (.bool true) ∧ Below w.heap.size w w' := by
  subst hn; subst hm
  exact (equalInts_any A B c d l l w hA hB hl hl).mono fun e w' ⟨h1, h2⟩ => ⟨by rw [h1]; simp, h2⟩

theorem SlAt.cells {w : World} {A : Option Addr} {l : List Int} (h : SlAt RInt 1 w A l) (h0 : 0 < l.length) : ∃ b off, A = some ⟨b, off, none⟩ ∧ b < w.heap.size ∧ ∀ i, i < l.length → w.cell? ⟨b, off + i, none⟩ = some (.int .i64 (gi l i)) := by
  obtain ⟨b, off, h⟩ := h
  obtain ⟨rfl, hb, _⟩ := h 0 _ (gi_get h0)
  refine ⟨b, off, rfl, hb, fun i hi => ?_⟩
  obtain ⟨_, _, h2, _⟩ := h i _ (gi_get hi)
  simpa [cellIs] using h2
end Go.Proofs.Ytcgnalpcbcpmkaa
/- The walk of timekeep.early0: the times of the pair are as they should be. -/
namespace Go.Proofs.Ytcgnalpcbcpmkaa
open Go.RowKit

section
variable {g : GraphD} {v t : Int} {l : List Int}
theorem arr_good (h : placeErr g v t = 0) : ArrOut g v t l → EarlyL g v t l := fun hl => by unfold ArrOut at hl; rwa [if_pos h] at hl
theorem arr_bad (h : ¬ placeErr g v t = 0) : ArrOut g v t l → l = [] := fun hl => by unfold ArrOut at hl; rwa [if_neg h] at hl
theorem dep_good (h : placeErr g v t = 0) : DepOut g v t l → LateL g v t l := fun hl => by unfold DepOut at hl; rwa [if_pos h] at hl
theorem dep_bad (h : ¬ placeErr g v t = 0) : DepOut g v t l → l = [] := fun hl => by unfold DepOut at hl; rwa [if_neg h] at hl
theorem place_ok (hV : Valid g) (h0 : 0 ≤ v) (h1 : v < g.lives.length) (h2 : 0 ≤ t) (h3 : t < g.h) : placeErr g v t = 0 := by
  unfold placeErr
  rw [if_pos (valid_ok hV), if_pos (inB_iff.2 (by omega)), if_pos (inB_iff.2 (by omega))]
end
theorem pair_place0 : placeErr pairG 0 0 = 0 := by decide
theorem pair_place1 : placeErr pairG 1 5 = 0 := by decide
theorem ints2_at {w : World} {g : Nat} {a b : Int} (h : Blk w g 3 #[.int .i64 a, .int .i64 b]) (ha : I64 a) (hb : I64 b) : SlAt RInt 1 w (some ⟨g, 0, none⟩) [a, b] :=
  IRow.slAt (l := [a, b]) h fun k hk => by
    match k, hk with
    | 0, _ => exact ha
    | 1, _ => exact hb
    | k + 2, hk => exact absurd hk (by simp)

set_option maxRecDepth 100000 in
set_option maxHeartbeats 2000000 in
theorem early0_any (w : World) : Calls Try.prog 82 #[] w fun e w' => e = .returned (.bool true) ∧ Below w.heap.size w w' := by
  go_enter Try.func82, Try.ntmps82
  go_wp2_with fail
  refine (pair_any _).mono ?_
  rintro e w1 ⟨Ar, cr, Ar', cr', rfl, hGr, hb1⟩
  go_wp2_with fail
  refine (arrivals_any _ _ _ _ pairG 0 0 _ hGr).mono ?_
  intro e w2 hr
  obtain ⟨l1, A1, d1, HQ, rfl, hA1, hm1, hb2⟩ := ints_good (Q := fun l => l = [0, 4]) hr pair_place0 (fun _ hl => pair_early (arr_good pair_place0 hl))
  obtain rfl := HQ.out
  have hbw := ext_trans hb1 hb2
  clear hb1 hb2 hr HQ hGr
  go_wp2_with fail
  refine (pair_any _).mono ?_
  rintro e w3 ⟨Br, er, Br', er', rfl, hGr, hb3⟩
  have hA1 := hA1.ext RInt.stable hb3
  have hbw := ext_trans hbw hb3
  clear hb3
  go_wp2_with fail
  refine (departures_any _ _ _ _ pairG 1 5 _ hGr).mono ?_
  intro e w4 hr
  obtain ⟨l2, A2, d2, HQ, rfl, hA2, hm2, hb2⟩ := ints_good (Q := fun l => l = [2, 5]) hr pair_place1 (fun _ hl => pair_late (dep_good pair_place1 hl))
  obtain rfl := HQ.out
  have hA1 := hA1.ext RInt.stable hb2
  have hbw := ext_trans hbw hb2
  clear hb2 hr HQ hGr
  go_wp2_with fail
  refine (equalSame_any _ _ _ _ [0, 4] _ _ _ (hA1.ext RInt.stable (by go_grown)) (ints2_at (Blk.new_ rfl) ⟨by decide, by decide⟩ ⟨by decide, by decide⟩) (by simp [maxLen]) rfl rfl).mono ?_
  rintro e w5 ⟨rfl, hb3⟩
  have hb3 : Below w4.heap.size w4 w5 := ext_trans (by go_grown) hb3
  have hA2 := hA2.ext RInt.stable hb3
  have hbw := ext_trans hbw hb3
  clear hb3 hA1
  go_wp2_with fail
  refine (equalSame_any _ _ _ _ [2, 5] _ _ _ (hA2.ext RInt.stable (by go_grown)) (ints2_at (Blk.new_ rfl) ⟨by decide, by decide⟩ ⟨by decide, by decide⟩) (by simp [maxLen]) rfl rfl).mono ?_
  rintro e w6 ⟨rfl, hb3⟩
  have hb3 : Below w5.heap.size w5 w6 := ext_trans (by go_grown) hb3
  go_wp2_with fail
  go_ret
  exact ⟨rfl, ext_trans hbw hb3⟩
end Go.Proofs.Ytcgnalpcbcpmkaa
/- The walks of timetop.line and timetop.said: a line's way is told rightly. -/
namespace Go.Proofs.Ytcgnalpcbcpmkaa
open Go.RowKit

theorem slAt3 {α : Type} {R : World → Nat → Nat → α → Prop} {sz : Nat} {w : World} {b : Nat} {x y z : α} (hb : b < w.heap.size) (h : R w b 0 x) (h2 : R w b sz y) (h3 : R w b (2 * sz) z) : SlAt R sz w (some ⟨b, 0, none⟩) [x, y, z] :=
  ⟨b, 0, fun i u hu => by
    match i, hu with
    | 0, hu =>
      obtain rfl : x = u := by simpa using hu
      exact ⟨rfl, hb, by simpa using h⟩
    | 1, hu =>
      obtain rfl : y = u := by simpa using hu
      exact ⟨rfl, hb, by simpa using h2⟩
    | 2, hu =>
      obtain rfl : z = u := by simpa using hu
      exact ⟨rfl, hb, by simpa using h3⟩
    | i + 3, hu => simp at hu⟩
theorem ints3_at {w : World} {g : Nat} {a b c : Int} (h : Blk w g 3 #[.int .i64 a, .int .i64 b, .int .i64 c]) (ha : I64 a) (hb : I64 b) (hc : I64 c) : SlAt RInt 1 w (some ⟨g, 0, none⟩) [a, b, c] :=
  IRow.slAt (l := [a, b, c]) h fun k hk => by
    match k, hk with
    | 0, _ => exact ha
    | 1, _ => exact hb
    | 2, _ => exact hc
    | k + 3, hk => exact absurd hk (by simp)

set_option maxHeartbeats 1000000 in
theorem line_any (w : World) : Calls Try.prog 120 #[] w (GraphOut lineG w) := by
  go_enter Try.func120, Try.ntmps120
  go_wp2
  refine bodyPost_ret (v := gV (some ⟨w.heap.size + 1, 0, none⟩) 3 (some ⟨w.heap.size + 4, 0, none⟩) 2 lineG) (by simp [results, Try.results120, go_sem, lineG]) rfl ?_
  refine ⟨some ⟨w.heap.size + 1, 0, none⟩, 3, some ⟨w.heap.size + 4, 0, none⟩, 2, rfl, ⟨by simp [I64, lineG], by simp [lineG], by simp [maxLen], by simp [lineG], by simp [maxLen], ?_, ?_⟩, by go_grown⟩
  · refine slAt3 (by simp) ?_ ?_ ?_ <;> simp [RIvl, cellIs, I64, go_sem]
  · refine slAt2 (by simp) ⟨⟨by simp [cellIs, go_sem], by simp [cellIs, go_sem], some ⟨w.heap.size + 2, 0, none⟩, 2, by simp [cellIs, go_sem], by simp, by simp [maxLen], slAt2 (by simp) (by simp [RLeg, cellIs, I64, go_sem]) (by simp [RLeg, cellIs, I64, go_sem])⟩, by simp [I64], by simp [I64]⟩
      ⟨⟨by simp [cellIs, go_sem], by simp [cellIs, go_sem], some ⟨w.heap.size + 3, 0, none⟩, 1, by simp [cellIs, go_sem], by simp, by simp [maxLen], slAt1 (by simp) (by simp [RLeg, cellIs, I64, go_sem])⟩, by simp [I64], by simp [I64]⟩
theorem line_place : placeErr lineG 0 0 = 0 := by decide
theorem costs_good {g : GraphD} {wt : LegD → Int} {v t : Int} {l : List Int} (h : placeErr g v t = 0) : CostsOut g wt v t l → CostsL g wt v t l := fun hl => by unfold CostsOut at hl; rwa [if_pos h] at hl
theorem costs_bad {g : GraphD} {wt : LegD → Int} {v t : Int} {l : List Int} (h : ¬ placeErr g v t = 0) : CostsOut g wt v t l → l = [] := fun hl => by unfold CostsOut at hl; rwa [if_neg h] at hl
theorem line_wayR {hops : List HopD} {er : Int} (h : EWayR lineG 0 0 2 hops er) : hops = [⟨0, 0⟩, ⟨1, 4⟩] ∧ er = 0 := by
  rcases h with ⟨h, _⟩ | ⟨_, a, ha, h⟩
  · exact absurd line_place h
  · have := line_early ha
    rcases h with ⟨h, _⟩ | ⟨_, _, _, h1, h2⟩
    · subst this
      exfalso
      rcases h with h | h | h
      · omega
      · simp [lineG] at h
      · simp [gi, Never] at h
    · exact ⟨line_way ha h2, h1⟩

set_option maxRecDepth 100000 in
set_option maxHeartbeats 2000000 in
theorem said_any (w : World) : Calls Try.prog 73 #[] w fun e w' => e = .returned (.bool true) ∧ Below w.heap.size w w' := by
  go_enter Try.func73, Try.ntmps73
  go_wp2_with fail
  refine (line_any _).mono ?_
  rintro e w1 ⟨Ar, cr, Ar', cr', rfl, hGr, hb1⟩
  go_wp2_with fail
  refine (arrivals_any _ _ _ _ lineG 0 0 _ hGr).mono ?_
  intro e w2 hr
  obtain ⟨l1, A1, d1, HQ, rfl, hA1, hm1, hb2⟩ := ints_good (Q := fun l => l = [0, 2, 7]) hr line_place (fun _ hl => line_early (arr_good line_place hl))
  obtain rfl := HQ.out
  have hbw := ext_trans hb1 hb2
  clear hb1 hb2 hr HQ hGr
  go_wp2_with fail
  refine (line_any _).mono ?_
  rintro e w3 ⟨Br, er, Br', er', rfl, hGr, hb3⟩
  have hA1 := hA1.ext RInt.stable hb3
  have hbw := ext_trans hbw hb3
  clear hb3
  go_wp2_with fail
  refine (costs_any _ _ _ _ lineG 0 0 _ hGr).mono ?_
  intro e w4 hr
  obtain ⟨l2, A2, d2, HQ, rfl, hA2, hm2, hb2⟩ := ints_good (Q := fun l => l = [0, 1, 3]) hr line_place (fun _ hl => line_costs (costs_good line_place hl))
  obtain rfl := HQ.out
  have hA1 := hA1.ext RInt.stable hb2
  have hbw := ext_trans hbw hb2
  clear hb2 hr HQ hGr
  go_wp2_with fail
  refine (line_any _).mono ?_
  rintro e w5 ⟨Cr, gr, Cr', gr', rfl, hGr, hb3⟩
  have hA1 := hA1.ext RInt.stable hb3
  have hA2 := hA2.ext RInt.stable hb3
  have hbw := ext_trans hbw hb3
  clear hb3
  go_wp2_with fail
  refine (earlyWay_any _ _ _ _ lineG 0 0 2 _ hGr).mono ?_
  rintro e w6 ⟨hops, A3, d3, er3, hR, rfl, hA3, hm3, hb2⟩
  obtain ⟨rfl, rfl⟩ := line_wayR hR
  have hA1 := hA1.ext RInt.stable hb2
  have hA2 := hA2.ext RInt.stable hb2
  have hbw := ext_trans hbw hb2
  clear hb2 hR hGr
  go_wp2_with fail
  refine (equalSame_any _ _ _ _ [0, 2, 7] _ _ _ (hA1.ext RInt.stable (by go_grown)) (ints3_at (Blk.new_ rfl) ⟨by decide, by decide⟩ ⟨by decide, by decide⟩ ⟨by decide, by decide⟩) (by simp [maxLen]) rfl rfl).mono ?_
  rintro e w7 ⟨rfl, hb3⟩
  have hb3 : Below w6.heap.size w6 w7 := ext_trans (by go_grown) hb3
  have hA2 := hA2.ext RInt.stable hb3
  have hA3 := hA3.ext RHop.stable hb3
  have hbw := ext_trans hbw hb3
  clear hb3 hA1
  go_wp2_with fail
  refine (equalSame_any _ _ _ _ [0, 1, 3] _ _ _ (hA2.ext RInt.stable (by go_grown)) (ints3_at (Blk.new_ rfl) ⟨by decide, by decide⟩ ⟨by decide, by decide⟩ ⟨by decide, by decide⟩) (by simp [maxLen]) rfl rfl).mono ?_
  rintro e w8 ⟨rfl, hb3⟩
  have hb3 : Below w7.heap.size w7 w8 := ext_trans (by go_grown) hb3
  have hA3 := hA3.ext RHop.stable hb3
  have hbw := ext_trans hbw hb3
  clear hb3 hA2
  go_wp2_with fail
  refine (equalHops_any _ _ _ _ [⟨0, 0⟩, ⟨1, 4⟩] [⟨0, 0⟩, ⟨1, 4⟩] _ (hA3.ext RHop.stable (by go_grown)) (slAt2 (by simp) (by simp [RHop, cellIs, I64, go_sem]) (by simp [RHop, cellIs, I64, go_sem])) (by simp [maxLen]) (by simp [maxLen])).mono ?_
  rintro e w9 ⟨rfl, hb3⟩
  have hb3 : Below w8.heap.size w8 w9 := ext_trans (by go_grown) hb3
  go_wp2_with fail
  go_ret
  exact ⟨by simp, ext_trans hbw hb3⟩
end Go.Proofs.Ytcgnalpcbcpmkaa
/- The walk of the law EarlyBack. -/
namespace Go.Proofs.Ytcgnalpcbcpmkaa
open Go.RowKit

theorem back_law {g : GraphD} (hV : Valid g) {v t u s : Int} {l d : List Int} (hv0 : 0 ≤ v) (hv1 : v < g.lives.length) (ht0 : 0 ≤ t) (ht1 : t < g.h) (hu0 : 0 ≤ u) (hu1 : u < g.lives.length) (hs1 : s < g.h)
    (hl : EarlyL g v t l) (hd : LateL g u s d) (ha : aliveB g v t = true) (hb : aliveB g u s = true) : gi l u.toNat ≤ s ↔ gi d v.toNat ≥ t := by
  have hh := hV.h1
  have hvv : ((v.toNat : Nat) : Int) = v := by omega
  constructor
  · intro hle
    exact hd.reach hV ⟨hu0, hu1⟩ (by omega) hb (u := v.toNat) (by omega) ⟨ht0, by omega⟩ (by rw [hvv]; exact ha) (by rw [hvv]; exact hl) hle
  · intro hge
    rcases (hd.is hV ⟨hu0, hu1⟩ (by omega) hb (u := v.toNat) (by omega)).1 with h1 | h1
    · omega
    · obtain ⟨_, _, _, a', ha', hle⟩ := h1.earlier hV (r := t) (by rw [hvv]; exact ha) hge
      rw [hvv] at ha'
      rw [hl.eq ha']
      exact hle

set_option maxRecDepth 100000 in
set_option maxHeartbeats 8000000 in
theorem earlyBack_calls (A A' : Option Addr) (c c' : Nat) (g : GraphD) {w : World} (hG : GraphAt w A c A' c' g) (v : Int) (_hv : I64 v) (t : Int) (_ht : I64 t) (u : Int) (_hu : I64 u) (s : Int) (_hs : I64 s) :
    Calls Try.prog 23 #[gV A c A' c' g, .int .i64 v, .int .i64 t, .int .i64 u, .int .i64 s] w fun e w' => e = .returned (.bool true) ∧ Below w.heap.size w w' := by
  go_enter Try.func23, Try.ntmps23
  go_wp2_with fail
  refine (early0_any _).mono ?_
  rintro e w1 ⟨rfl, hb1⟩
  obtain ⟨B0, c1, c2, c3⟩ := (Blk.new w 28 (gC A c A' c' g)).go hb1
  have hbw : Below w.heap.size w w1 := ext_trans (by go_grown) hb1
  clear hb1
  go_wp2_with fail
  refine (arrivals_any _ _ _ _ g v t _ (hG.ext hbw)).mono ?_
  rintro e w2 ⟨l1, A1, d1, hl1, rfl, hA1, hm1, hb2⟩
  obtain ⟨p1, hp1⟩ : ∃ p, placeErr g v t = p := ⟨_, rfl⟩
  have HP1 := Lib.hid hp1
  have HL1 := Lib.hid hl1
  rw [hp1]
  obtain ⟨B0, c1, c2, c3⟩ := B0.go hb2
  have hbw := ext_trans hbw hb2
  clear hb2 hp1 hl1
  go_wp2_with fail
  refine (departures_any _ _ _ _ g u s _ (hG.ext hbw)).mono ?_
  rintro e w3 ⟨l2, A2, d2, hl2, rfl, hA2, hm2, hb2⟩
  obtain ⟨p2, hp2⟩ : ∃ p, placeErr g u s = p := ⟨_, rfl⟩
  have HP2 := Lib.hid hp2
  have HL2 := Lib.hid hl2
  rw [hp2]
  obtain ⟨B0, c1, c2, c3⟩ := B0.go hb2
  have hbw := ext_trans hbw hb2
  have hA1 := hA1.ext RInt.stable hb2
  clear hb2 hp2 hl2
  by_cases h1 : p1 = 0
  case neg =>
    have hn : (p1 != 0) = true := by simp [h1]
    clear h1
    go_wp2_with fail
    go_ret
    exact ⟨rfl, hbw⟩
  subst h1
  by_cases h2 : p2 = 0
  case neg =>
    have hn : (p2 != 0) = true := by simp [h2]
    clear h2
    go_wp2_with fail
    go_ret
    exact ⟨rfl, hbw⟩
  subst h2
  obtain ⟨hV, ⟨hv0, hv1⟩, ht0, ht1⟩ := place_of HP1.out
  obtain ⟨_, ⟨hu0, hu1⟩, hs0, hs1⟩ := place_of HP2.out
  have hh1 := hV.h1
  have hn12 := hV.nl
  have HE1 := Lib.hid (arr_good HP1.out HL1.out)
  have HE2 := Lib.hid (dep_good HP2.out HL2.out)
  have hn1 := HE1.out.1
  have hn2 := HE2.out.1
  rw [hn1, hn2]
  have HN1 := Lib.hid hn1
  have HN2 := Lib.hid hn2
  clear hn1 hn2
  obtain ⟨b1, o1, rfl, hz1, hc1⟩ := hA1.cells (by rw [HN1.out]; omega)
  obtain ⟨b2, o2, rfl, hz2, hc2⟩ := hA2.cells (by rw [HN2.out]; omega)
  have ku := hc1 u.toNat (by rw [HN1.out]; omega)
  have kv := hc2 v.toNat (by rw [HN2.out]; omega)
  clear hc1 hc2
  cases hal : aliveB g v t
  case false =>
    have HA := Lib.hid hal
    rw [HE1.out.dead hV (by omega) hal (by omega)] at ku
    clear hal
    simp only [Never] at ku
    go_wp2_with fail
    refine (refAlive_any _ _ _ _ g v t _ (hG.ext hbw) hv0 hv1).mono ?_
    rw [HA.out]
    rintro e w4 ⟨rfl, hb2⟩
    have ku := cell_keep hb2 ku
    go_wp2_with fail
    go_ret
    exact ⟨rfl, ext_trans hbw hb2⟩
  have HA := Lib.hid hal
  cases hbl : aliveB g u s
  case false =>
    have HB := Lib.hid hbl
    rw [HE2.out.dead hV hbl (by omega)] at kv
    clear hal hbl
    obtain ⟨x, hx⟩ : ∃ x, (gi l1 u.toNat == 1099511627776) = x := ⟨_, rfl⟩
    go_wp2_with fail
    refine (refAlive_any _ _ _ _ g v t _ (hG.ext hbw) hv0 hv1).mono ?_
    rw [HA.out]
    rintro e w4 ⟨rfl, hb2⟩
    have ku := cell_keep hb2 ku
    have kv := cell_keep hb2 kv
    have hbw := ext_trans hbw hb2
    have B0 := B0.ext hb2
    obtain ⟨c1, c2, c3⟩ := B0.facts
    clear hb2
    go_wp2_with fail
    refine (refAlive_any _ _ _ _ g u s _ (hG.ext hbw) hu0 hu1).mono ?_
    rw [HB.out]
    rintro e w5 ⟨rfl, hb2⟩
    have ku := cell_keep hb2 ku
    have kv := cell_keep hb2 kv
    cases x
    all_goals
      go_wp2_with fail
      go_ret
      exact ⟨rfl, ext_trans hbw hb2⟩
  have HB := Lib.hid hbl
  have HEQ := Lib.hid (back_law hV hv0 hv1 ht0 ht1 hu0 hu1 hs1 HE1.out HE2.out hal hbl)
  clear hal hbl
  obtain ⟨x, hx⟩ : ∃ x, gi l1 u.toNat = x := ⟨_, rfl⟩
  obtain ⟨y, hy⟩ : ∃ y, gi l2 v.toNat = y := ⟨_, rfl⟩
  rw [hx] at ku HEQ
  rw [hy] at kv HEQ
  obtain ⟨q, hq1⟩ : ∃ q, decide (x ≤ s) = q := ⟨_, rfl⟩
  have hq2 : decide (y ≥ t) = q := by
    rw [← hq1]
    exact decide_eq_decide.2 HEQ.out.symm
  clear hx hy
  go_wp2_with fail
  refine (refAlive_any _ _ _ _ g v t _ (hG.ext hbw) hv0 hv1).mono ?_
  rw [HA.out]
  rintro e w4 ⟨rfl, hb2⟩
  have ku := cell_keep hb2 ku
  have kv := cell_keep hb2 kv
  have hbw := ext_trans hbw hb2
  have B0 := B0.ext hb2
  obtain ⟨c1, c2, c3⟩ := B0.facts
  clear hb2
  go_wp2_with fail
  refine (refAlive_any _ _ _ _ g u s _ (hG.ext hbw) hu0 hu1).mono ?_
  rw [HB.out]
  rintro e w5 ⟨rfl, hb2⟩
  have ku := cell_keep hb2 ku
  have kv := cell_keep hb2 kv
  have hbw := ext_trans hbw hb2
  clear hb2
  go_wp2_with fail
  go_quiet (fail)
  go_wp2_with fail
  go_ret
  exact ⟨ret_bool (by simp), below_drewN hbw _⟩
end Go.Proofs.Ytcgnalpcbcpmkaa
