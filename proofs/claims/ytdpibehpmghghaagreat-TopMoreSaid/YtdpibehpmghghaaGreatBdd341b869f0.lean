/- Several texts in one: Arrivals, EWay. -/
import Derived.BigQuiet
import Derived.Maps.RangeWalk
import Derived.Test.YtdpibehpmghghaaGreatBd130bb41523
import Derived.Test.YtdpibehpmghghaaGreatBd3ed04debcf
import Derived.Test.YtdpibehpmghghaaGreatBd85f691d7c8
import Derived.Test.YtdpibehpmghghaaGreatBdbca928d534
/- The walk of early.Arrivals. -/
namespace Go.Proofs.YtdpibehpmghghaaGreat
open Go.RowKit

def ArrOut (g : GraphD) (v t : Int) (l : List Int) : Prop := if placeErr g v t = 0 then EarlyL g v t l else l = []
set_option maxRecDepth 100000 in
set_option maxHeartbeats 1000000 in
theorem arrivals_any (A A' : Option Addr) (c c' : Nat) (g : GraphD) (v t : Int) (w : World) (hG : GraphAt w A c A' c' g) :
    Calls Tryz.prog 28 #[gV A c A' c' g, .int .i64 v, .int .i64 t] w (IntsOut (ArrOut g v t) (placeErr g v t) w) := by
  by_cases h0 : placeErr g v t = 0
  case neg =>
    have H0 := Lib.hid h0
    have hn : (placeErr g v t != 0) = true := by simp [h0]
    clear h0
    go_enter Tryz.func28, Tryz.ntmps28
    go_wp2_with fail
    refine (out_any _ _ _ _ g v t _ (hG.ext (by go_grown))).mono ?_
    rintro e w1 ⟨Ao, co, rfl, hSo, hmo, hb1⟩
    go_wp2_with fail
    go_ret2
    exact ⟨[], none, 0, by unfold ArrOut; rw [if_neg H0.out], rfl, SlAt.nil, by simp, ext_trans (by go_grown) hb1⟩
  obtain ⟨hV, ⟨hv0, hv1⟩, ht0, ht1⟩ := place_of h0
  have H0 := Lib.hid h0
  have hh1 := hV.h1
  clear h0
  go_enter Tryz.func28, Tryz.ntmps28
  go_wp2_with fail
  refine (out_any _ _ _ _ g v t _ (hG.ext (by go_grown))).mono ?_
  rw [H0.out]
  rintro e w1 ⟨Ao, co, rfl, hSo, hmo, hb1⟩
  obtain ⟨B0, c1, c2, c3⟩ := (Blk.new w 25 (gC A c A' c' g)).go hb1
  have hbw : Below w.heap.size w w1 := ext_trans (by go_grown) hb1
  clear hb1
  go_wp2_with fail
  refine (grow_any _ _ _ _ g v t _ (hG.ext hbw) hV hv0 hv1 ht0 ht1).mono ?_
  rintro e w2 ⟨l, hs, Al, Ah, HG, rfl, hS1, _, hb2⟩
  have hlen := HG.out.early.1
  have HL := Lib.hid hlen
  clear hlen
  have hfd : ∀ w : World, (Instr.field 98 (.agg #[.slice Al g.lives.length g.lives.length, .slice Ah g.lives.length g.lives.length]) 0).run Tryz.prog w = .ok (.slice Al g.lives.length g.lives.length) w := fun _ => by kernel_rfl
  go_wp2_with fail
  go_ret2
  rw [H0.out]
  exact ⟨l, Al, g.lives.length, by unfold ArrOut; rw [if_pos H0.out]; exact HG.out.early, by rw [HL.out]; rfl, hS1, by rw [HL.out]; have := hV.nl; unfold maxLen; omega, ext_trans hbw hb2⟩
end Go.Proofs.YtdpibehpmghghaaGreat
/- The walk of early.Way. -/
namespace Go.Proofs.YtdpibehpmghghaaGreat
open Go.RowKit

/-- What a Way hands back. -/
def WayGives (R : List HopD → Int → Prop) (w : World) (e : Ending) (w' : World) : Prop := ∃ hops A c er, R hops er ∧ e = .returned (.tuple #[.slice A hops.length c, .int .i64 er]) ∧ SlAt RHop 2 w' A hops ∧ hops.length ≤ maxLen ∧ Below w.heap.size w w'
theorem flat_hop {l : List HopD} {k : Nat} {x : HopD} (h : l[k]? = some x) : (l.flatMap hopEnc)[k * 2]? = some (.int .i64 x.edge) ∧ (l.flatMap hopEnc)[k * 2 + 1]? = some (.int .i64 x.depart) := by
  induction l generalizing k with
  | nil => simp at h
  | cons y l ih =>
    cases k with
    | zero =>
      obtain rfl : y = x := by simpa using h
      simp [hopEnc]
    | succ k =>
      have ih := ih (k := k) (by simpa using h)
      rw [List.flatMap_cons]
      have hl : (hopEnc y).length = 2 := rfl
      constructor
      · rw [show (k + 1) * 2 = 2 + k * 2 by omega, List.getElem?_append_right (by omega), hl, Nat.add_sub_cancel_left]; exact ih.1
      · rw [show (k + 1) * 2 + 1 = 2 + (k * 2 + 1) by omega, List.getElem?_append_right (by omega), hl, Nat.add_sub_cancel_left]; exact ih.2
theorem Own.hrow {w : World} {base : Nat} {A : Option Addr} {n c : Nat} {l : List HopD} (h : Own hopEnc 2 w base 95 (.slice A n c) l) (hl : l ≠ []) : ∃ b, A = some ⟨b, 0, none⟩ ∧ base ≤ b ∧ HRow w b l := by
  rcases h.2 with ⟨_, h2⟩ | ⟨g, cap, cur, hv, hg, hh, hnc, hcm, hcs, htake⟩
  · exact absurd (List.length_eq_zero_iff.1 h2) hl
  · injection hv with h1 h2 h3
    refine ⟨g, h1, hg, cur, hh, fun k x hk => ?_⟩
    have hlt := lt_of_get hk
    obtain ⟨q0, q1⟩ := flat_hop hk
    rw [← htake] at q0 q1
    rw [List.getElem?_take_of_lt (by omega)] at q0 q1
    exact ⟨by simpa using q0, by simpa using q1⟩

set_option maxRecDepth 100000 in
set_option maxHeartbeats 8000000 in
theorem earlyWay_any (A A' : Option Addr) (c c' : Nat) (g : GraphD) (v t te : Int) (w : World) (hG : GraphAt w A c A' c' g) :
    Calls Tryz.prog 53 #[gV A c A' c' g, .int .i64 v, .int .i64 t, .int .i64 te] w (WayGives (EWayR g v t te) w) := by
  by_cases h0 : placeErr g v t = 0
  case neg =>
    have H0 := Lib.hid h0
    have hn : (placeErr g v t != 0) = true := by simp [h0]
    clear h0
    go_enter Tryz.func53, Tryz.ntmps53
    go_wp2_with fail
    refine (out_any _ _ _ _ g v t _ (hG.ext (by go_grown))).mono ?_
    rintro e w1 ⟨Ao, co, rfl, hSo, hmo, hb1⟩
    go_wp2_with fail
    go_ret2
    exact ⟨[], none, 0, _, .inl ⟨H0.out, rfl, rfl⟩, rfl, SlAt.nil, by simp, ext_trans (by go_grown) hb1⟩
  obtain ⟨hV, ⟨hv0, hv1⟩, ht0, ht1⟩ := place_of h0
  have H0 := Lib.hid h0
  have hh1 := hV.h1
  have hn12 := hV.nl
  have hne := hV.ne
  have m1 : g.lives.length ≤ 9223372036854775807 := by omega
  clear h0
  obtain ⟨i0, hi, hz0, hz1, hz2⟩ := info_parts info_hop
  go_enter Tryz.func53, Tryz.ntmps53
  go_wp2_with fail
  refine (out_any _ _ _ _ g v t _ (hG.ext (by go_grown))).mono ?_
  rw [H0.out]
  rintro e w1 ⟨Ao, co, rfl, hSo, hmo, hb1⟩
  obtain ⟨B0, c1, c2, c3⟩ := (Blk.new w 25 (gC A c A' c' g)).go hb1
  have hbw : Below w.heap.size w w1 := ext_trans (by go_grown) hb1
  clear hb1
  go_wp2_with fail
  refine (grow_any _ _ _ _ g v t _ (hG.ext hbw) hV hv0 hv1 ht0 ht1).mono ?_
  rintro e w2 ⟨l, hs, Al, Ah, HG, rfl, hS1, hS2, hb2⟩
  have hlen := HG.out.early.1
  have hlen2 := HG.out.hops.len
  obtain ⟨B0, c1, c2, c3⟩ := B0.go hb2
  have hbw : Below w.heap.size w w2 := ext_trans hbw hb2
  clear hb2
  by_cases hr : 0 ≤ te ∧ te < g.lives.length
  case neg =>
    by_cases hneg : te < 0
    case pos =>
      have hd : decide (te < 0) = true := by simpa using hneg
      have HE : Hid (EWayR g v t te [] 4) := Lib.hid (.inr ⟨H0.out, l, HG.out.early, .inl ⟨.inl hneg, rfl, rfl⟩⟩)
      clear hr hneg hlen hlen2
      go_wp2_with fail
      go_ret2
      exact ⟨[], none, 0, _, HE.out, rfl, SlAt.nil, by simp, ext_alloc hbw _⟩
    case neg =>
      have hd : decide (te < 0) = false := by simpa using hneg
      have hd2 : decide (te ≥ (g.lives.length : Int)) = true := by simp; omega
      have HE : Hid (EWayR g v t te [] 4) := Lib.hid (.inr ⟨H0.out, l, HG.out.early, .inl ⟨.inr (.inl (by omega)), rfl, rfl⟩⟩)
      clear hr hneg hlen hlen2
      go_wp2_with fail
      go_ret2
      exact ⟨[], none, 0, _, HE.out, rfl, SlAt.nil, by simp, ext_alloc hbw _⟩
  obtain ⟨hr0, hr1⟩ := hr
  have hd : decide (te < 0) = false := by simp; omega
  have hd2 : decide (te ≥ (g.lives.length : Int)) = false := by simp; omega
  obtain ⟨bl, ol, hL1⟩ := hS1
  obtain ⟨z, hz⟩ := get_lt (l := l) (k := te.toNat) (by rw [hlen]; omega)
  obtain ⟨rfl, hbl, x0⟩ := hL1 _ z hz
  unfold RInt at x0
  obtain ⟨x0, x1⟩ := x0
  unfold cellIs at x0
  simp only [Nat.mul_one] at x0
  have HZ : Hid (gi l te.toNat = z) := Lib.hid (gi_of hz)
  clear hL1 hz hlen
  by_cases hzn : z = 1099511627776
  case pos =>
    have hd3 : (z == 1099511627776) = true := by simpa using hzn
    have HE : Hid (EWayR g v t te [] 4) := Lib.hid (.inr ⟨H0.out, l, HG.out.early, .inl ⟨.inr (.inr (by rw [HZ.out]; exact hzn)), rfl, rfl⟩⟩)
    clear hzn hlen2
    go_wp2_with fail
    go_ret2
    exact ⟨[], none, 0, _, HE.out, rfl, SlAt.nil, by simp, ext_alloc hbw _⟩
  have hd3 : (z == 1099511627776) = false := by simpa using hzn
  have hzf : gi l te.toNat < Never := by
    have := HG.out.early.big (show t ≤ 100 by omega) te.toNat
    rw [HZ.out] at this ⊢
    simp only [Never] at this ⊢
    omega
  have hz100 : gi l te.toNat ≤ 100 := by
    have := HG.out.early.here hV ⟨hv0, hv1, ht0, ht1⟩ (show te.toNat < g.lives.length by omega) hzf
    have := this.2.2.2.1
    omega
  have HZF := Lib.hid hzf
  have HZ1 := Lib.hid hz100
  clear hzf hz100 hzn
  obtain ⟨tn, rfl⟩ := Int.eq_ofNat_of_zero_le hr0
  simp only [Int.toNat_natCast] at HZ HZF HZ1 x0
  have hd4 : decide (g.lives.length ≤ tn) = false := by simp; omega
  go_wp2_with fail
  have BT := Blk.new w2 98 #[.slice (some ⟨bl, ol, none⟩) g.lives.length g.lives.length, .slice Ah g.lives.length g.lives.length]
  have B0 := B0.alloc (Obj.cells #[.slice (some ⟨bl, ol, none⟩) g.lives.length g.lives.length, .slice Ah g.lives.length g.lives.length] 98)
  have hS2 := hS2.ext RHop.stable (ext_alloc (Below.refl w2.heap.size w2) (Obj.cells #[.slice (some ⟨bl, ol, none⟩) g.lives.length g.lives.length, .slice Ah g.lives.length g.lives.length] 98))
  have hbw := ext_alloc hbw (Obj.cells #[.slice (some ⟨bl, ol, none⟩) g.lives.length g.lives.length, .slice Ah g.lives.length g.lives.length] 98)
  obtain ⟨gt, hgt⟩ : ∃ gt, gt = w2.heap.size := ⟨_, rfl⟩
  obtain ⟨wa, hwa⟩ : ∃ wa : World, wa = w2.alloc (Obj.cells #[.slice (some ⟨bl, ol, none⟩) g.lives.length g.lives.length, .slice Ah g.lives.length g.lives.length] 98) := ⟨_, rfl⟩
  rw [← hwa] at BT B0 hS2 hbw ⊢
  rw [← hgt] at BT ⊢
  clear hwa hgt x0 c1 c2 c3 hd hd2 hd3 hd4
  go_loopw [13, 14] (fun o x wr => ∃ (k : Nat) (acc : List HopD), x = .int .i64 k ∧ Hid (WayInv g l (tn : Int) k acc) ∧ acc.length ≤ 100 ∧ Own hopEnc 2 wr wa.heap.size 95 o acc ∧ Below wa.heap.size wa wr) (fun _ x _ => (gi l (intOf x).toNat).toNat)
  case atStart => exact ⟨tn, [], rfl, Lib.hid (by simpa using WayInv.start (g := g) (l := l) (show (0 : Int) ≤ (tn : Int) by omega) hr1 (by simpa using HZF.out)), by simp, Own.nil, Below.refl _ _⟩
  case round =>
    obtain ⟨k, acc, rfl, HI, hal, hown, hb⟩ := hrel
    have hkl := HI.out.lt
    have hbwr := ext_trans hbw hb
    obtain ⟨f1, f2, f3⟩ := (B0.ext hb).facts
    obtain ⟨t1, t2, t3⟩ := (BT.ext hb).facts
    by_cases hkv : (k : Int) = v
    case pos =>
      have hd : ((k : Int) != v) = false := by simp [hkv]
      have HW : Hid (WayOk g v t tn l acc.reverse) := Lib.hid (HI.out.fin' hV HG.out.early (by omega) ht0 (by simpa using HZ1.out) hkv)
      have HE : Hid (EWayR g v t tn acc.reverse 0) := Lib.hid (.inr ⟨H0.out, l, HG.out.early, .inr ⟨by omega, hr1, by simpa using HZF.out, rfl, HW.out⟩⟩)
      have hsm : ∀ x, x ∈ acc.reverse → I64 x.edge ∧ I64 x.depart := fun x hx => by
        have := HW.out.small x hx
        unfold I64; omega
      clear hkv
      obtain ⟨Ac, cc, rfl⟩ := hown.form
      by_cases hnil : acc = []
      case pos =>
        subst hnil
        go_wp2_with fail
        refine (reverseHops_nil Ac cc _).mono ?_
        rintro e w5 ⟨rfl, rfl⟩
        go_wp2_with fail
        go_ret2
        exact ⟨[], Ac, cc, 0, HE.out, rfl, ⟨0, 0, fun i x hx => by simp at hx⟩, by simp, hbwr⟩
      case neg =>
        obtain ⟨bq, rfl, hbq, hH⟩ := hown.hrow hnil
        have HS := Lib.hid hsm
        clear hsm hnil
        go_wp2_with fail
        refine (reverseHops_any bq cc acc.length acc _ hH rfl (by omega)).mono ?_
        rintro e w5 ⟨rfl, hH5, hK5, hB5⟩
        have hbw5 := hB5 _ _ hbwr (by have := hbw.size; omega)
        go_wp2_with fail
        go_ret2
        exact ⟨acc.reverse, some ⟨bq, 0, none⟩, cc, 0, HE.out, by simp, hH5.slAt HS.out, by simp; unfold maxLen; omega, hbw5⟩
    case neg =>
      have hd : ((k : Int) != v) = true := by simp [hkv]
      obtain ⟨y, h, lg, q1, q2, q3, q4, q5, HN⟩ := HI.out.step hV HG.out.hops hkv
      have HN := Lib.hid HN
      have hyo := hV.edges y (List.mem_of_getElem? q2)
      have a0 := hyo.a0; have a1 := hyo.a1
      have hsm := HG.out.hops.small h (List.mem_of_getElem? q1)
      have he1 := lt_of_get q2
      obtain ⟨bh, oh, hL2⟩ := hS2
      obtain ⟨rfl, hbh, ⟨x0, x1⟩, _⟩ := hL2 k h q1
      obtain ⟨be, oe, hE⟩ := hG.edges
      obtain ⟨rfl, hbe, ⟨⟨z0, z1, L, cl, z2, hl1, hl2, hL⟩, _⟩⟩ := hE _ y q2
      have y0 := x0.now hb
      have y1 := x1.now hb
      have u0 := z0.now hbwr
      have hlen1 := HN.out.len
      have hl100 : (acc ++ [h]).length ≤ 100 := by
        have h1 := HN.out.len
        have h2 := HZ1.out
        have h3 := HG.out.early.low hV (show t ≤ 100 by omega) (k := y.a.toNat) (by omega)
        simp only [Int.toNat_natCast] at h1
        omega
      have HM : Hid ((gi l y.a.toNat).toNat < (gi l k).toNat) := Lib.hid (by
        have h3 := HG.out.early.low hV (show t ≤ 100 by omega) (k := y.a.toNat) (by omega)
        omega)
      obtain ⟨hn', hhn⟩ : ∃ q : Nat, h.edge = q := ⟨h.edge.toNat, by omega⟩
      have hm2 : g.edges.length ≤ 9223372036854775807 := by omega
      have HHN := Lib.hid hhn
      clear q1 q2 q3 q4 q5 hL2 hE z1 z2 hkv hlen1 hhn
      obtain ⟨Ac, cc, rfl⟩ := hown.form
      have hzs := hb.size
      go_wp2_with (at_builtin; refine wpList_append_els (enc := hopEnc) rfl (.tmp 61) (.tmp 67) 89 rfl wa.heap.size 95 i0 _ 2 16 Tryz.underlying89 hi hz0 hz1 hz2 rfl (by decide) _ acc [h] 1 rfl rfl hown _ rfl wr.heap.size (by simp) rfl rfl hop_one (by omega) (by decide) hzs ?_; intro v' w6 hown6 hb6 hkp)
      have hb7 := hb.trans hb6
      have hbw7 := ext_trans hbw hb7
      clear f1 f2 f3 t1 t2 t3 y0 y1 u0
      obtain ⟨f1, f2, f3⟩ := (B0.ext hb7).facts
      obtain ⟨t1, t2, t3⟩ := (BT.ext hb7).facts
      have y0 := x0.now hb7
      have y1 := x1.now hb7
      have u0 := z0.now hbw7
      rw [HHN.out, Int.toNat_natCast] at u0
      rw [HHN.out] at y0
      have hnl : hn' < g.edges.length := by rw [HHN.out] at he1; simpa using he1
      clear x0 x1 z0
      go_quiet (fail)
      go_roundw
      case rel => (repeat apply Exists.intro); refine ⟨⟨y.a.toNat, acc ++ [h], ?_, HN, hl100, hown6.keep (fun _ _ h => Blk.drewN h _), below_drewN hb7 _⟩, rfl⟩; rw [show ((y.a.toNat : Nat) : Int) = y.a by omega]
      case measure => simp [intOf]; have := HM.out; omega
end Go.Proofs.YtdpibehpmghghaaGreat
