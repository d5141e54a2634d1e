/- Several texts in one: Grow, Arrivals. -/
import Derived.BigRegion
import Derived.BigQuiet
import Derived.Test.YtjcimdpldlamfaaGreatDoorBd063e407aa3
import Derived.Test.YtjcimdpldlamfaaGreatDoorBd2279927ebf
import Derived.Test.YtjcimdpldlamfaaGreatDoorBdeeb9e5e53a
import Derived.Test.YtjcimdpldlamfaaGreatDoorBd0848e2b72a
/- The walk of early.grow: the earliest times, and by which hops, the nearest vertex first. -/
namespace Go.Proofs.YtjcimdpldlamfaaGreatDoor
open Go.RowKit

theorem irow_drew {w : World} {b : Nat} {l : List Int} (h : IRow w b l) : IRow w.drew b l := h
theorem irow_alloc {w : World} {b : Nat} {l : List Int} (h : IRow w b l) (o : Obj) : IRow (w.alloc o) b l := Blk.alloc h o
theorem first_not {A A' L : Option Addr} {c c' cl : Nat} {g : GraphD} {x : EdgeD} {t : Int} (w : World) (hG : GraphAt w A c A' c' g) (hV : Valid g) (hx : EdgeOk g x) (hL : SlAt RLeg 4 w L x.legs) (ht0 : 0 ≤ t) (ht1 : t ≤ 100) (h : first g x t = none) :
  Calls Tryz.prog 140 #[gV A c A' c' g, edgeV L cl x, .int .i64 t] w fun e w' => e = .returned (.tuple #[.int .i64 0, .int .i64 0, .bool false]) ∧ Below w.heap.size w w' :=
 (first_any A A' L c c' cl g x t w hG hV hx hL (by have := hx.six; unfold maxLen; omega) ht0 ht1).mono fun e w' ⟨he, hb⟩ => ⟨by rw [he, h]; rfl, hb⟩
theorem first_yes {A A' L : Option Addr} {c c' cl : Nat} {g : GraphD} {x : EdgeD} {t d te : Int} (w : World) (hG : GraphAt w A c A' c' g) (hV : Valid g) (hx : EdgeOk g x) (hL : SlAt RLeg 4 w L x.legs) (ht0 : 0 ≤ t) (ht1 : t ≤ 100) (h : first g x t = some (d, te)) :
  Calls Tryz.prog 140 #[gV A c A' c' g, edgeV L cl x, .int .i64 t] w fun e w' => e = .returned (.tuple #[.int .i64 d, .int .i64 te, .bool true]) ∧ Below w.heap.size w w' :=
 (first_any A A' L c c' cl g x t w hG hV hx hL (by have := hx.six; unfold maxLen; omega) ht0 ht1).mono fun e w' ⟨he, hb⟩ => ⟨by rw [he, h]; rfl, hb⟩
structure GrowOk (g : GraphD) (v t : Int) (l : List Int) (hs : List HopD) : Prop where
 early : EarlyL g v t l
 hops : HopsOk g v t l hs fun _ => true
def GrowOut (g : GraphD) (v t : Int) (w : World) (e : Ending) (w' : World) : Prop := ∃ l hs Al Ah, Hid (GrowOk g v t l hs) ∧ e = .returned (.agg #[.slice Al g.lives.length g.lives.length, .slice Ah g.lives.length g.lives.length]) ∧
 SlAt RInt 1 w' Al l ∧ SlAt RHop 2 w' Ah hs ∧ Below w.heap.size w w'
theorem near_early {g : GraphD} {v t : Int} (ht : t ≤ 100) : Near (arcsE g) g.lives.length Never (gi (startE g v t)) (gi (startE g v t)) (fun _ => false) :=
 ⟨fun _ => Int.le_refl _, fun i _ => startE_big ht i, above_init, fun _ _ _ h => by simp at h, fun _ _ h => by simp at h⟩
theorem arcsE_get {g : GraphD} {j : Nat} {y : EdgeD} (h : g.edges[j]? = some y) : (arcsE g)[j]? = some (arcE g y) := by simp [arcsE, h]
theorem fill_never {n : Nat} {l : List Int} (hl : l.length = n) (h : ∀ i, i < n → gi l i = Never) : l = List.replicate n Never :=
 gi_eq_of (by simp [hl]) fun i hi => by rw [h i (by omega)]; exact (gi_of (by simp [hl ▸ hi])).symm
theorem near_ends {g : GraphD} (hV : Valid g) {v t : Int} {l : List Int} {done : Nat → Bool} (hl : l.length = g.lives.length) (h : Near (arcsE g) g.lives.length Never (gi (startE g v t)) (gi l) done)
  (hall : ∀ i, i < g.lives.length → done i = true ∨ Never ≤ gi l i) : EarlyL g v t l := ⟨hl, h.best hall (arcsE_ok hV)⟩

set_option maxRecDepth 100000 in
set_option maxHeartbeats 8000000 in
theorem grow_any (A A' : Option Addr) (c c' : Nat) (g : GraphD) (v t : Int) (w : World) (hG : GraphAt w A c A' c' g) (hV : Valid g) (hv0 : 0 ≤ v) (hv1 : v < g.lives.length) (ht0 : 0 ≤ t) (ht1 : t < g.h) :
  Calls Tryz.prog 109 #[gV A c A' c' g, .int .i64 v, .int .i64 t] w (GrowOut g v t w) := by
 have hn12 := hV.nl
 have hh1 := hV.h1
 have hmk := make_ints g.lives.length (by omega)
 have hmh := make_hops g.lives.length (by omega)
 have hmb := make_bools g.lives.length (by omega)
 go_enter Tryz.func109, Tryz.ntmps109
 go_upto_region 2 with fail
 go_cut [8] from 22 to 26 (fun p wx => ∃ g8 bt bh : Nat, p = .pointer (some ⟨g8, 0, none⟩) ∧ Blk wx g8 143 #[.slice (some ⟨bt, 0, none⟩) g.lives.length g.lives.length, .slice (some ⟨bh, 0, none⟩) g.lives.length g.lives.length] ∧
  IRow wx bt (List.replicate g.lives.length 0) ∧ HRow wx bh (List.replicate g.lives.length ⟨0, 0⟩) ∧ Blk wx w.heap.size 68 (gC A c A' c' g) ∧ Blk wx (w.heap.size + 1) 143 #[.slice none 0 0, .slice none 0 0] ∧ Below w.heap.size w wx ∧
  w.heap.size + 1 < g8 ∧ w.heap.size + 1 < bt ∧ w.heap.size + 1 < bh ∧ bt ≠ bh ∧ bt ≠ g8 ∧ bh ≠ g8)
 case first =>
  go_region
  all_goals (go_wp2_with fail; go_meet)
  ·refine ⟨w.heap.size + 1 + 1 + 1 + 1, w.heap.size + 1 + 1, w.heap.size + 1 + 1 + 1, rfl, ?_, ?_, ?_, ?_, ?_, ?_, ?_, ?_, ?_, ?_, ?_, ?_⟩
   ·exact Blk.drew (Blk.new_ (by simp))
   ·exact irow_drew (irow_alloc (irow_alloc (IRow.made (by simp)) _) _)
   ·exact HRow.drew (HRow.alloc (HRow.made (by simp)) _)
   ·exact Blk.drew (Blk.alloc (Blk.alloc (Blk.alloc (Blk.alloc (Blk.new _ _ _) _) _) _) _)
   ·exact Blk.drew (Blk.alloc (Blk.alloc (Blk.alloc (Blk.new_ (by simp)) _) _) _)
   ·exact below_drew (by go_grown)
   all_goals omega
  ·refine ⟨w.heap.size + 1 + 1 + 1, w.heap.size + 1 + 1, w.heap.size + 1 + 1 + 1 + 1, rfl, ?_, ?_, ?_, ?_, ?_, ?_, ?_, ?_, ?_, ?_, ?_, ?_⟩
   ·exact Blk.drew (Blk.alloc (Blk.new_ (by simp)) _)
   ·exact irow_drew (irow_alloc (irow_alloc (IRow.made (by simp)) _) _)
   ·exact HRow.drew (HRow.made (by simp))
   ·exact Blk.drew (Blk.alloc (Blk.alloc (Blk.alloc (Blk.alloc (Blk.new _ _ _) _) _) _) _)
   ·exact Blk.drew (Blk.alloc (Blk.alloc (Blk.alloc (Blk.new_ (by simp)) _) _) _)
   ·exact below_drew (by go_grown)
   all_goals omega
  ·refine ⟨w.heap.size + 1 + 1 + 1 + 1, w.heap.size + 1 + 1 + 1, w.heap.size + 1 + 1, rfl, ?_, ?_, ?_, ?_, ?_, ?_, ?_, ?_, ?_, ?_, ?_, ?_⟩
   ·exact Blk.drew (Blk.new_ (by simp))
   ·exact irow_drew (irow_alloc (IRow.made (by simp)) _)
   ·exact HRow.drew (HRow.alloc (HRow.alloc (HRow.made (by simp)) _) _)
   ·exact Blk.drew (Blk.alloc (Blk.alloc (Blk.alloc (Blk.alloc (Blk.new _ _ _) _) _) _) _)
   ·exact Blk.drew (Blk.alloc (Blk.alloc (Blk.alloc (Blk.new_ (by simp)) _) _) _)
   ·exact below_drew (by go_grown)
   all_goals omega
  ·refine ⟨w.heap.size + 1 + 1 + 1, w.heap.size + 1 + 1 + 1 + 1, w.heap.size + 1 + 1, rfl, ?_, ?_, ?_, ?_, ?_, ?_, ?_, ?_, ?_, ?_, ?_, ?_⟩
   ·exact Blk.drew (Blk.alloc (Blk.new_ (by simp)) _)
   ·exact irow_drew (IRow.made (by simp))
   ·exact HRow.drew (HRow.alloc (HRow.alloc (HRow.made (by simp)) _) _)
   ·exact Blk.drew (Blk.alloc (Blk.alloc (Blk.alloc (Blk.alloc (Blk.new _ _ _) _) _) _) _)
   ·exact Blk.drew (Blk.alloc (Blk.alloc (Blk.alloc (Blk.new_ (by simp)) _) _) _)
   ·exact below_drew (by go_grown)
   all_goals omega
  ·refine ⟨w.heap.size + 1 + 1, w.heap.size + 1 + 1 + 1, w.heap.size + 1 + 1 + 1 + 1, rfl, ?_, ?_, ?_, ?_, ?_, ?_, ?_, ?_, ?_, ?_, ?_, ?_⟩
   ·exact Blk.drew (Blk.alloc (Blk.alloc (Blk.new_ (by simp)) _) _)
   ·exact irow_drew (irow_alloc (IRow.made (by simp)) _)
   ·exact HRow.drew (HRow.made (by simp))
   ·exact Blk.drew (Blk.alloc (Blk.alloc (Blk.alloc (Blk.alloc (Blk.new _ _ _) _) _) _) _)
   ·exact Blk.drew (Blk.alloc (Blk.alloc (Blk.alloc (Blk.new_ (by simp)) _) _) _)
   ·exact below_drew (by go_grown)
   all_goals omega
  ·refine ⟨w.heap.size + 1 + 1, w.heap.size + 1 + 1 + 1 + 1, w.heap.size + 1 + 1 + 1, rfl, ?_, ?_, ?_, ?_, ?_, ?_, ?_, ?_, ?_, ?_, ?_, ?_⟩
   ·exact Blk.drew (Blk.alloc (Blk.alloc (Blk.new_ (by simp)) _) _)
   ·exact irow_drew (IRow.made (by simp))
   ·exact HRow.drew (HRow.alloc (HRow.made (by simp)) _)
   ·exact Blk.drew (Blk.alloc (Blk.alloc (Blk.alloc (Blk.alloc (Blk.new _ _ _) _) _) _) _)
   ·exact Blk.drew (Blk.alloc (Blk.alloc (Blk.alloc (Blk.new_ (by simp)) _) _) _)
   ·exact below_drew (by go_grown)
   all_goals omega
 case rest =>
  clear hmk hmh
  obtain ⟨g8, bt, bh, rfl, B8, hT, hH, B0, B6, hbw, d1, d2, d3, d4, d5, d6⟩ := hcut
  obtain ⟨q1, q2, q3⟩ := B8.facts
  go_wp2_with fail
  go_loopw [30] (fun x wr => ∃ (k : Nat) (l : List Int), k ≤ g.lives.length ∧ x = .int .i64 k ∧ Hid (l.length = g.lives.length ∧ ∀ i, i < k → gi l i = Never) ∧ IRow wr bt l ∧ HRow wr bh (List.replicate g.lives.length ⟨0, 0⟩) ∧
   Blk wr g8 143 #[.slice (some ⟨bt, 0, none⟩) g.lives.length g.lives.length, .slice (some ⟨bh, 0, none⟩) g.lives.length g.lives.length] ∧ Blk wr w.heap.size 68 (gC A c A' c' g) ∧ Blk wr (w.heap.size + 1) 143 #[.slice none 0 0, .slice none 0 0] ∧ Below w.heap.size w wr) (fun x _ => g.lives.length - (intOf x).toNat)
  case atStart => exact ⟨0, _, Nat.zero_le _, rfl, Lib.hid ⟨by simp, fun i h => by omega⟩, hT, hH, B8, B0, B6, hbw⟩
  case round =>
   clear hT hH B8 B0 B6 hbw q1 q2 q3
   obtain ⟨k, l, hk, rfl, HL, hT, hH, B8, B0, B6, hbw⟩ := hrel
   obtain ⟨q1, q2, q3⟩ := B8.facts
   by_cases hlt : k < g.lives.length
   case pos =>
    have hc := hT.cell (k := k) (by rw [HL.out.1]; exact hlt)
    have hf := Blk.frozen hT k
    go_wp2_with fail
    go_roundw
    case rel =>
     refine ⟨k + 1, l.set k Never, by omega, by go_num, Lib.hid ⟨by simp [HL.out.1], fun i hi => ?_⟩, hT.set k Never, hH.far (by simp; omega) _, B8.far (by simp; omega) _, B0.far (by simp; omega) _, B6.far (by simp; omega) _, hbw.setCell (by simp; omega) _⟩
     rw [gi_set (by rw [HL.out.1]; exact hlt)]
     by_cases e : i = k
     ·rw [e, upd_at]
     ·rw [upd_ne _ _ e]; exact HL.out.2 i (by omega)
    case measure => simp [intOf]; omega
   case neg =>
    have HR := Lib.hid (fill_never HL.out.1 (fun i hi => HL.out.2 i (by omega)))
    rw [HR.out] at hT
    clear HL HR
    obtain ⟨e1, e2, e3⟩ := B0.facts
    go_wp2_with fail
    refine (alive_any _ _ _ _ g v t _ (hG.ext hbw) hv0 hv1).mono ?_
    rintro e w2 ⟨rfl, hb1⟩
    have hT := Blk.ext hT hb1
    have hH := hH.ext hb1
    have B8 := B8.ext hb1
    have B0 := B0.ext hb1
    have B6 := B6.ext hb1
    have hbw := ext_trans hbw hb1
    clear hb1 q1 q2 q3 e1 e2 e3
    obtain ⟨q1, q2, q3⟩ := B8.facts
    go_upto_if 41 with fail
    go_cut [] from 41 to 46 (fun wx => IRow wx bt (startE g v t) ∧ HRow wx bh (List.replicate g.lives.length ⟨0, 0⟩) ∧ Blk wx g8 143 #[.slice (some ⟨bt, 0, none⟩) g.lives.length g.lives.length, .slice (some ⟨bh, 0, none⟩) g.lives.length g.lives.length] ∧ Blk wx w.heap.size 68 (gC A c A' c' g) ∧ Blk wx (w.heap.size + 1) 143 #[.slice none 0 0, .slice none 0 0] ∧ Below w.heap.size w wx)
    case first =>
     have hc := IRow.cell hT (k := v.toNat) (by simp; omega)
     have hf := Blk.frozen hT v.toNat
     cases hal : aliveB g v t
     case true =>
      have HS := Lib.hid (startE_is hal hv0 hv1)
      go_wp2_with fail
      go_meet
      exact ⟨by rw [← HS.out]; exact IRow.set hT _ _, hH.far (by simp; omega) _, B8.far (by simp; omega) _, B0.far (by simp; omega) _, B6.far (by simp; omega) _, hbw.setCell (by simp; omega) _⟩
     case false =>
      have HS := Lib.hid (startE_no hal)
      go_wp2_with fail
      go_meet
      exact ⟨by rw [← HS.out]; exact hT, hH, B8, B0, B6, hbw⟩
    case rest =>
     clear hT hH B8 B0 B6 hbw q1 q2 q3
     obtain ⟨hT, hH, B8, B0, B6, hbw⟩ := hcut
     have k1 := Blk.lt hT
     have k2 := hH.lt
     have k3 := B8.lt
     go_wp2_with fail
     have hD := BRow.made (w := wc) (n := g.lives.length) rfl
     have hT := irow_alloc hT (Obj.cells (madeCells #[Value.bool false] g.lives.length) 4)
     have hH := hH.alloc (Obj.cells (madeCells #[Value.bool false] g.lives.length) 4)
     have B8 := B8.alloc (Obj.cells (madeCells #[Value.bool false] g.lives.length) 4)
     have B0 := B0.alloc (Obj.cells (madeCells #[Value.bool false] g.lives.length) 4)
     have B6 := B6.alloc (Obj.cells (madeCells #[Value.bool false] g.lives.length) 4)
     have hbw := ext_alloc hbw (Obj.cells (madeCells #[Value.bool false] g.lives.length) 4)
     clear hmb
     go_loopg [] g.lives.length (fun gk wr => ∃ (l : List Int) (hs : List HopD) (r : List Bool), Hid (l.length = g.lives.length ∧ r.length = g.lives.length ∧ unset r ≤ gk ∧ Near (arcsE g) g.lives.length Never (gi (startE g v t)) (gi l) (gb r) ∧ HopsOk g v t l hs (gb r)) ∧
      IRow wr bt l ∧ HRow wr bh hs ∧ BRow wr wc.heap.size r ∧ Blk wr g8 143 #[.slice (some ⟨bt, 0, none⟩) g.lives.length g.lives.length, .slice (some ⟨bh, 0, none⟩) g.lives.length g.lives.length] ∧ Blk wr w.heap.size 68 (gC A c A' c' g) ∧ Blk wr (w.heap.size + 1) 143 #[.slice none 0 0, .slice none 0 0] ∧ Below w.heap.size w wr)
     case atStart => exact ⟨_, _, _, Lib.hid ⟨by simp [startE], by simp, by rw [unset_replicate]; exact Nat.le_refl _, by rw [gb_replicate]; exact near_early (by omega), HopsOk.start⟩, hT, hH, hD, B8, B0, B6, hbw⟩
     case round =>
      clear hT hH hD B8 B0 B6 hbw
      obtain ⟨l, hs, r, HN, hT, hH, hD, B8, B0, B6, hbw⟩ := hrel
      obtain ⟨q1, q2, q3⟩ := B8.facts
      go_wp2_with fail
      obtain ⟨wo, rfl⟩ : ∃ wo : World, wo = wr := ⟨_, rfl⟩
      go_loopw [11, 52] (fun x y wr => ∃ (k : Nat) (z : Int), k ≤ g.lives.length ∧ y = .int .i64 k ∧ x = .int .i64 z ∧ Hid (MinAt (gi l) (gb r) Never k z) ∧ wo = wr) (fun _ y _ => g.lives.length - (intOf y).toNat)
      case atStart => exact ⟨0, -1, Nat.zero_le _, rfl, rfl, Lib.hid MinAt.zero, rfl⟩
      case round =>
       obtain ⟨k, z, hk, rfl, rfl, HM, rfl⟩ := hrel
       by_cases hlt : k < g.lives.length
       case pos =>
        have hc := hT.cell (k := k) (by rw [HN.out.1]; exact hlt)
        obtain ⟨x, hx⟩ : ∃ x, gb r k = x := ⟨_, rfl⟩
        have hd := hD.cell (k := k) (x := x) (by rw [gb_get (by rw [HN.out.2.1]; exact hlt), hx])
        obtain ⟨n, hn⟩ : ∃ n, gi l k = n := ⟨_, rfl⟩
        rw [hn] at hc
        have HX := Lib.hid hx
        have HNN := Lib.hid hn
        clear hx hn
        cases x
        case true =>
         go_wp2_with fail
         go_roundw
         case rel => exact ⟨k + 1, z, by omega, by go_num, rfl, Lib.hid (HM.out.skip (.inl HX.out)), trivial⟩
         case measure => simp [intOf]; omega
        by_cases hf : n < 1099511627776
        case neg =>
         have hf2 : decide (n < 1099511627776) = false := by simpa using hf
         go_wp2_with fail
         go_roundw
         case rel => exact ⟨k + 1, z, by omega, by go_num, rfl, Lib.hid (HM.out.skip (.inr (by rw [HNN.out]; simp only [Never]; omega))), trivial⟩
         case measure => simp [intOf]; omega
        rcases HM.out.cases with ⟨rfl, _⟩ | ⟨m, rfl, hm, _, _, _⟩
        ·go_wp2_with fail
         go_roundw
         case rel => exact ⟨k + 1, k, by omega, by go_num, rfl, Lib.hid (HM.out.take HX.out (by rw [HNN.out]; exact hf) (fun c h => by omega)), trivial⟩
         case measure => simp [intOf]; omega
        ·have hcm := hT.cell (k := m) (by rw [HN.out.1]; omega)
         obtain ⟨q, hq⟩ : ∃ q, gi l m = q := ⟨_, rfl⟩
         rw [hq] at hcm
         have HQ := Lib.hid hq
         clear hq
         have hm2 : m < g.lives.length := by omega
         by_cases hlq : n < q
         ·go_wp2_with fail
          go_roundw
          case rel => exact ⟨k + 1, k, by omega, by go_num, rfl, Lib.hid (HM.out.less HX.out (by rw [HNN.out]; exact hf) (by rw [HNN.out, HQ.out]; exact hlq)), trivial⟩
          case measure => simp [intOf]; omega
         ·go_wp2_with fail
          go_roundw
          case rel => exact ⟨k + 1, m, by omega, by go_num, rfl, Lib.hid (HM.out.stay (by rw [HNN.out, HQ.out]; omega)), trivial⟩
          case measure => simp [intOf]; omega
       case neg =>
        rcases HM.out.cases with ⟨rfl, hall⟩ | ⟨m, rfl, hm, hmd, hmf, hmin⟩
        ·have HE := Lib.hid (near_ends hV HN.out.1 HN.out.2.2.2.1 (fun i hi => hall i (by omega)))
         clear hall
         obtain ⟨s1, s2, s3⟩ := B6.facts
         go_wp2_with fail
         refine bodyPost_ret (v := .agg #[.slice (some ⟨bt, 0, none⟩) g.lives.length g.lives.length, .slice (some ⟨bh, 0, none⟩) g.lives.length g.lives.length]) (by simp [results, Tryz.results109, go_sem, s1]) rfl ?_
         refine ⟨l, hs, _, _, Lib.hid ⟨HE.out, HN.out.2.2.2.2.mono (fun _ _ => rfl)⟩, rfl, ?_, ?_, ?_⟩
         ·refine IRow.slAt (Blk.far (Blk.far hT (by simp; omega) _) (by simp; omega) _) (fun k hk => ?_)
          have h1 := HE.out.big (by omega) k
          have h2 := HE.out.low hV (by omega) (k := k) (by rw [← HE.out.1]; exact hk)
          simp only [Never] at h1
          exact ⟨by omega, by omega⟩
         ·refine HRow.slAt (HRow.far (HRow.far hH (by simp; omega) _) (by simp; omega) _) (fun x hx => ?_)
          have h1 := HN.out.2.2.2.2.small x hx
          exact ⟨⟨by omega, by omega⟩, ⟨by omega, by omega⟩⟩
         ·exact (hbw.setCell (by simp) _).setCell (by simp) _
        ·have hm2 : m < g.lives.length := by omega
         have HMD := Lib.hid hmd
         have HMM := Lib.hid hmin
         have HMF := Lib.hid hmf
         have hd := hD.cell (k := m) (x := false) (by rw [gb_get (by rw [HN.out.2.1]; exact hm2), hmd])
         have hf := Blk.frozen hD m
         have hbne : ¬ w.heap.size = wc.heap.size := by omega
         obtain ⟨e1, e2, e3⟩ := B0.facts
         clear hmd hmin hmf HM
         go_wp2_with fail
         have hT := Blk.far hT (p := ⟨wc.heap.size, m, none⟩) (by simp; omega) (.bool true)
         have hH := hH.far (p := ⟨wc.heap.size, m, none⟩) (by simp; omega) (.bool true)
         have hD := hD.set m true
         have B8 := B8.far (p := ⟨wc.heap.size, m, none⟩) (by simp; omega) (.bool true)
         have B0 := B0.far (p := ⟨wc.heap.size, m, none⟩) (by simp; omega) (.bool true)
         have B6 := B6.far (p := ⟨wc.heap.size, m, none⟩) (by simp; omega) (.bool true)
         have hbw := hbw.setCell (p := ⟨wc.heap.size, m, none⟩) (by simp; omega) (.bool true)
         obtain ⟨wp, hwp⟩ : ∃ wp : World, wp = wo.setCell ⟨wc.heap.size, m, none⟩ (.bool true) := ⟨_, rfl⟩
         rw [← hwp] at hT hH hD B8 B0 B6 hbw ⊢
         clear hwp hd hf q1 q2 q3 e1 e2 e3
         obtain ⟨bz, oz, hE⟩ := hG.edges
         go_loopw [90] (fun x wr => ∃ (j : Nat) (l2 : List Int) (hs2 : List HopD), j ≤ g.edges.length ∧ x = .int .i64 j ∧ Hid (l2.length = g.lives.length ∧ Mid (arcsE g) g.lives.length Never (gi (startE g v t)) (gi l) (gi l2) (gb r) m j ∧ HopsOk g v t l2 hs2 (mark (gb r) m)) ∧
          IRow wr bt l2 ∧ HRow wr bh hs2 ∧ BRow wr wc.heap.size (r.set m true) ∧ Blk wr g8 143 #[.slice (some ⟨bt, 0, none⟩) g.lives.length g.lives.length, .slice (some ⟨bh, 0, none⟩) g.lives.length g.lives.length] ∧ Blk wr w.heap.size 68 (gC A c A' c' g) ∧ Blk wr (w.heap.size + 1) 143 #[.slice none 0 0, .slice none 0 0] ∧ Below w.heap.size w wr) (fun x _ => g.edges.length - (intOf x).toNat)
         case atStart => exact ⟨0, l, hs, Nat.zero_le _, rfl, Lib.hid ⟨HN.out.1, HN.out.2.2.2.1.begin (fun v hv hd => HMM.out v (by omega) hd), HN.out.2.2.2.2.mono (fun u hu => by unfold mark; split; (rfl); exact hu)⟩, hT, hH, hD, B8, B0, B6, hbw⟩
         case round =>
          clear hT hH hD B8 B0 B6 hbw
          obtain ⟨j, l2, hs2, hj, rfl, HD, hT, hH, hD, B8, B0, B6, hbw⟩ := hrel
          have hzn : g.edges.length ≤ (arcsE g).length := by simp [arcsE]
          by_cases hlt : j < g.edges.length
          case neg =>
           have HF := Lib.hid (HD.out.2.1.fin HN.out.2.2.2.1 hm2 HMD.out (by simp [arcsE]; omega))
           have HU := Lib.hid (unset_set (r := r) (c := m) (by rw [HN.out.2.1]; exact hm2) HMD.out)
           have HU2 := Lib.hid HN.out.2.2.1
           go_wp2_with fail
           go_roundg (gk - 1)
           case rel => exact ⟨l2, hs2, _, Lib.hid ⟨HD.out.1, by rw [List.length_set]; exact HN.out.2.1, by have := HU.out; have := HU2.out; omega, by rw [gb_set (by rw [HN.out.2.1]; exact hm2)]; exact HF.out, by rw [gb_set (by rw [HN.out.2.1]; exact hm2)]; exact HD.out.2.2⟩, hT, hH, hD, B8, B0, B6, hbw⟩
           case measure => have := HU.out; have := HU2.out; omega
          obtain ⟨y, hy⟩ := get_lt hlt
          obtain ⟨rfl, hbz1, ⟨⟨x0, x1, L, cl, x2, hl1, hl2, hL⟩, _⟩⟩ := hE j y hy
          have y0 := x0.now hbw
          have y1 := x1.now hbw
          have y2 := x2.now hbw
          have hyo := hV.edges y (List.mem_of_getElem? hy)
          have HY := Lib.hid (arcsE_get hy)
          have HYE := Lib.hid hy
          have ha0 := hyo.a0
          have ha1 := hyo.a1
          have hne0 := hV.ne
          clear hy x0 x1 x2 hzn
          by_cases hya : y.a = (m : Int)
          case neg =>
           have hne : (y.a != (m : Int)) = true := by simp [hya]
           have HS := Lib.hid (HD.out.2.1.skip HY.out (by simp only [arcE]; omega))
           clear hya
           go_wp2_with fail
           go_roundw
           case rel => exact ⟨j + 1, l2, hs2, by omega, by go_num, Lib.hid ⟨HD.out.1, HS.out, HD.out.2.2⟩, irow_alloc hT _, hH.alloc _, Blk.alloc hD _, B8.alloc _, B0.alloc _, B6.alloc _, ext_alloc hbw _⟩
           case measure => simp [intOf]; omega
          have hne : (y.a != (m : Int)) = false := by simp [hya]
          have hyam : y.a.toNat = m := by omega
          have HYA := Lib.hid hyam
          have hb0 := hyo.b0
          have hb1 := hyo.b1
          have hb2 : y.b.toNat < g.lives.length := by omega
          have hlow : ∀ i, i < g.lives.length → t ≤ gi l2 i := fun i hi => by
           have := HD.out.2.1.above (fun i => if i < g.lives.length then t else 0) ⟨fun i => ?_, fun y hy => ?_⟩ i
           ·simpa [hi] using this
           ·by_cases hi : i < g.lives.length
            ·simp only [if_pos hi, startE_val hi]; split <;> (try simp only [Never]) <;> omega
            ·simp only [if_neg hi, startE_far (show g.lives.length ≤ i by omega)]; exact Int.le_refl _
           ·obtain ⟨h1, h2, h3, h4⟩ := arcsE_ok hV y hy
            obtain ⟨x, hx, rfl⟩ := mem_arcsE.1 hy
            simp only [if_pos h1, if_pos h2]
            exact earlyF_ge hV (hV.edges x hx) (by simp only [Never]; omega)
          have hcb := hT.cell (k := y.b.toNat) (by rw [HD.out.1]; exact hb2)
          have hcm := hT.cell (k := m) (by rw [HD.out.1]; exact hm2)
          have hq0 := hlow m hm2
          have hsame := HD.out.2.1.same
          have hq1 : gi l2 m < 1099511627776 := by rw [hsame]; exact HMF.out
          have hpb : gi l2 y.b.toNat ≤ Never := Int.le_trans (HD.out.2.1.le _) (HN.out.2.2.2.1.big _ hb2)
          obtain ⟨p', hp'⟩ : ∃ p', gi l2 y.b.toNat = p' := ⟨_, rfl⟩
          obtain ⟨q', hq'⟩ : ∃ q', gi l2 m = q' := ⟨_, rfl⟩
          rw [hp'] at hcb hpb
          rw [hq'] at hcm hq0 hq1
          have HP' := Lib.hid hp'
          have HQ' := Lib.hid hq'
          have HPB := Lib.hid hpb
          have hq100 : q' ≤ 100 := by
           rcases HD.out.2.2.come m hm2 (by rw [hq']; exact hq1) with ⟨_, h2, _⟩ | ⟨x, h, lg, _, h3, _, _, _, h5⟩
           ·omega
           ·have := arrive_late hV (hV.edges x (List.mem_of_getElem? h3)) h5
            omega
          have hq00 : 0 ≤ q' := by omega
          clear hp' hq' hpb hlow hsame hya hyam
          have hm0 : (0 : Int) ≤ (m : Int) := by omega
          have hm3 : (m : Int) < (g.lives.length : Int) := by omega
          have n0 := Blk.lt B0
          have n8 := B8.lt
          have nt := Blk.lt hT
          have nh := hH.lt
          go_wp2_with fail
          obtain ⟨ba, hba⟩ : ∃ ba, ba = wr.heap.size := ⟨_, rfl⟩
          have Ba := Blk.new wr 97 #[.int .i64 y.a, .int .i64 y.b, .slice L y.legs.length cl]
          have hT := irow_alloc hT (Obj.cells #[.int .i64 y.a, .int .i64 y.b, .slice L y.legs.length cl] 97)
          have hH := hH.alloc (Obj.cells #[.int .i64 y.a, .int .i64 y.b, .slice L y.legs.length cl] 97)
          have hD := Blk.alloc hD (Obj.cells #[.int .i64 y.a, .int .i64 y.b, .slice L y.legs.length cl] 97)
          have B8 := B8.alloc (Obj.cells #[.int .i64 y.a, .int .i64 y.b, .slice L y.legs.length cl] 97)
          have B0 := B0.alloc (Obj.cells #[.int .i64 y.a, .int .i64 y.b, .slice L y.legs.length cl] 97)
          have B6 := B6.alloc (Obj.cells #[.int .i64 y.a, .int .i64 y.b, .slice L y.legs.length cl] 97)
          have hbw := ext_alloc hbw (Obj.cells #[.int .i64 y.a, .int .i64 y.b, .slice L y.legs.length cl] 97)
          rw [← hba] at Ba n0 n8 nt nh ⊢
          obtain ⟨wa, hwa⟩ : ∃ wa : World, wa = wr.alloc (Obj.cells #[.int .i64 y.a, .int .i64 y.b, .slice L y.legs.length cl] 97) := ⟨_, rfl⟩
          rw [← hwa] at Ba hT hH hD B8 B0 B6 hbw ⊢
          clear hba hwa
          have S0 : wa.cell? ⟨w.heap.size, 0, none⟩ = some (.int .i64 g.h) ∧ wa.cell? ⟨w.heap.size, 1, none⟩ = some (.slice A g.lives.length c) ∧ wa.cell? ⟨w.heap.size, 2, none⟩ = some (.slice (some ⟨bz, oz, none⟩) g.edges.length c') ∧ wa.cell? ⟨ba, 0, none⟩ = some (.int .i64 y.a) ∧ wa.cell? ⟨ba, 1, none⟩ = some (.int .i64 y.b) ∧ wa.cell? ⟨ba, 2, none⟩ = some (.slice L y.legs.length cl) ∧ wa.cell? ⟨g8, 0, none⟩ = some (.slice (some ⟨bt, 0, none⟩) g.lives.length g.lives.length) ∧ wa.cell? ⟨bt, m, none⟩ = some (.int .i64 q') :=
           ⟨by rw [B0.cell]; rfl, by rw [B0.cell]; rfl, by rw [B0.cell]; rfl, by rw [Ba.cell]; rfl, by rw [Ba.cell]; rfl, by rw [Ba.cell]; rfl, by rw [B8.cell]; rfl, by rw [IRow.cell hT (by rw [HD.out.1]; exact hm2), HQ'.out]⟩
          clear hcb hcm y0 y1 y2
          cases hf : first g y q' with
          | none =>
           have HF := Lib.hid hf
           have HS := Lib.hid (HD.out.2.1.stay HY.out (by simp only [arcE]; rw [HP'.out, HQ'.out, earlyF_none hf]; exact HPB.out))
           clear hf
           go_region_held3 (fun w' => w'.cell? ⟨w.heap.size, 0, none⟩ = some (.int .i64 g.h) ∧ w'.cell? ⟨w.heap.size, 1, none⟩ = some (.slice A g.lives.length c) ∧ w'.cell? ⟨w.heap.size, 2, none⟩ = some (.slice (some ⟨bz, oz, none⟩) g.edges.length c') ∧ w'.cell? ⟨ba, 0, none⟩ = some (.int .i64 y.a) ∧ w'.cell? ⟨ba, 1, none⟩ = some (.int .i64 y.b) ∧ w'.cell? ⟨ba, 2, none⟩ = some (.slice L y.legs.length cl) ∧ w'.cell? ⟨g8, 0, none⟩ = some (.slice (some ⟨bt, 0, none⟩) g.lives.length g.lives.length) ∧ w'.cell? ⟨bt, m, none⟩ = some (.int .i64 q'))
            (first | exact S0 | exact keep8 hb6 S0)
            (first | (go_at_call 140; refine (first_not _ (hG.ext (ext_trans hbw (by go_grown))) hV hyo (hL.ext RLeg.stable (ext_trans hbw (by go_grown))) hq00 hq100 HF.out).mono ?_; rintro e w5 ⟨rfl, hb5⟩; have hb6 : Below wa.heap.size wa w5 := ext_trans (by go_grown) hb5))
           have hT := Blk.ext hT hb6
           have hH := hH.ext hb6
           have hD := Blk.ext hD hb6
           have B8 := B8.ext hb6
           have B0 := B0.ext hb6
           have B6 := B6.ext hb6
           have hbw := ext_trans hbw hb6
           clear S0 hb5 hb6
           go_wp2_with fail
           go_roundw
           case rel => exact ⟨j + 1, l2, hs2, by omega, by go_num, Lib.hid ⟨HD.out.1, HS.out, HD.out.2.2⟩, hT, hH, hD, B8, B0, B6, hbw⟩
           case measure => simp [intOf]; omega
          | some p =>
           obtain ⟨d, te⟩ := p
           have HF := Lib.hid hf
           have HEF := Lib.hid (earlyF_some hf)
           have hff := first_some hf
           obtain ⟨hf1, ⟨lg, hf2⟩, _⟩ := hff
           have hff := arrive_late hV hyo hf2
           clear hf hf2
           by_cases hlt2 : te < p'
           case neg =>
            have HS := Lib.hid (HD.out.2.1.stay HY.out (by simp only [arcE]; rw [HP'.out, HQ'.out, HEF.out]; omega))
            have hld : decide (te < p') = false := by simpa using hlt2
            go_region_held3 (fun w' => w'.cell? ⟨w.heap.size, 0, none⟩ = some (.int .i64 g.h) ∧ w'.cell? ⟨w.heap.size, 1, none⟩ = some (.slice A g.lives.length c) ∧ w'.cell? ⟨w.heap.size, 2, none⟩ = some (.slice (some ⟨bz, oz, none⟩) g.edges.length c') ∧ w'.cell? ⟨ba, 0, none⟩ = some (.int .i64 y.a) ∧ w'.cell? ⟨ba, 1, none⟩ = some (.int .i64 y.b) ∧ w'.cell? ⟨ba, 2, none⟩ = some (.slice L y.legs.length cl) ∧ w'.cell? ⟨g8, 0, none⟩ = some (.slice (some ⟨bt, 0, none⟩) g.lives.length g.lives.length) ∧ w'.cell? ⟨bt, m, none⟩ = some (.int .i64 q'))
             (first | exact S0 | exact keep8 hb6 S0)
             (first | (go_at_call 140; refine (first_yes _ (hG.ext (ext_trans hbw (by go_grown))) hV hyo (hL.ext RLeg.stable (ext_trans hbw (by go_grown))) hq00 hq100 HF.out).mono ?_; rintro e w5 ⟨rfl, hb5⟩; have hb6 : Below wa.heap.size wa w5 := ext_trans (by go_grown) hb5))
            have hT := Blk.ext hT hb6
            have hH := hH.ext hb6
            have hD := Blk.ext hD hb6
            have B8 := B8.ext hb6
            have B0 := B0.ext hb6
            have B6 := B6.ext hb6
            have Ba := Ba.ext hb6
            have hbw := ext_trans hbw hb6
            have hcb := IRow.cell hT (k := y.b.toNat) (by rw [HD.out.1]; exact hb2)
            rw [HP'.out] at hcb
            obtain ⟨q1, q2, q3⟩ := B8.facts
            obtain ⟨a1, a2, a3⟩ := Ba.facts
            clear S0 hb5 hb6
            go_wp2_with fail
            go_roundw
            case rel => exact ⟨j + 1, l2, hs2, by omega, by go_num, Lib.hid ⟨HD.out.1, HS.out, HD.out.2.2⟩, hT, hH, hD, B8, B0, B6, hbw⟩
            case measure => simp [intOf]; omega
           case pos =>
            have hld : decide (te < p') = true := by simpa using hlt2
            have HM2 := Lib.hid (HD.out.2.1.step HN.out.2.2.2.1 hm2 HMD.out HY.out (by simp only [arcE]; exact HYA.out) (earlyF_mono hV hyo) (by simp only [arcE]; rw [HQ'.out]; exact earlyF_ge hV hyo (by simp only [Never]; omega)))
            have hfy : first g y (gi l2 y.a.toNat) = some (d, te) := by rw [HYA.out, HQ'.out]; exact HF.out
            have HFY := Lib.hid hfy
            clear hfy
            have HH2 := Lib.hid (HD.out.2.2.step hV HD.out.1 HYE.out HFY.out (by rw [HYA.out, HQ'.out]; exact hq00) (by rw [HP'.out]; exact hlt2) (by rw [HYA.out]; simp [mark]) (fun u hu => by
             rw [HYA.out]
             simp only [mark] at hu
             split at hu
             ·rename_i e; rw [e]; exact Int.le_refl _
             ·have h1 := HN.out.2.2.2.1.near u m hm2 hu HMD.out
              have h2 := HD.out.2.1.olds u hu
              have h3 := HD.out.2.1.same
              omega))
            have HSET : Hid (gi (l2.set y.b.toNat te) = upd (gi l2) (arcE g y).b (min (gi l2 (arcE g y).b) ((arcE g y).f (gi l2 m)))) := Lib.hid (by
             rw [gi_set (by rw [HD.out.1]; exact hb2)]
             simp only [arcE]
             rw [HP'.out, HQ'.out, HEF.out]
             congr 1
             omega)
            go_region_held3 (fun w' => w'.cell? ⟨w.heap.size, 0, none⟩ = some (.int .i64 g.h) ∧ w'.cell? ⟨w.heap.size, 1, none⟩ = some (.slice A g.lives.length c) ∧ w'.cell? ⟨w.heap.size, 2, none⟩ = some (.slice (some ⟨bz, oz, none⟩) g.edges.length c') ∧ w'.cell? ⟨ba, 0, none⟩ = some (.int .i64 y.a) ∧ w'.cell? ⟨ba, 1, none⟩ = some (.int .i64 y.b) ∧ w'.cell? ⟨ba, 2, none⟩ = some (.slice L y.legs.length cl) ∧ w'.cell? ⟨g8, 0, none⟩ = some (.slice (some ⟨bt, 0, none⟩) g.lives.length g.lives.length) ∧ w'.cell? ⟨bt, m, none⟩ = some (.int .i64 q'))
             (first | exact S0 | exact keep8 hb6 S0)
             (first | (go_at_call 140; refine (first_yes _ (hG.ext (ext_trans hbw (by go_grown))) hV hyo (hL.ext RLeg.stable (ext_trans hbw (by go_grown))) hq00 hq100 HF.out).mono ?_; rintro e w5 ⟨rfl, hb5⟩; have hb6 : Below wa.heap.size wa w5 := ext_trans (by go_grown) hb5))
            have hT := Blk.ext hT hb6
            have hH := hH.ext hb6
            have hD := Blk.ext hD hb6
            have B8 := B8.ext hb6
            have B0 := B0.ext hb6
            have B6 := B6.ext hb6
            have Ba := Ba.ext hb6
            have hbw := ext_trans hbw hb6
            have hcb := IRow.cell hT (k := y.b.toNat) (by rw [HD.out.1]; exact hb2)
            rw [HP'.out] at hcb
            obtain ⟨h0, hh0⟩ := get_lt (show y.b.toNat < hs2.length by rw [HD.out.2.2.len]; exact hb2)
            obtain ⟨hc0, hc1⟩ := hH.cell hh0
            have hg0 := hH.frozen (y.b.toNat * 2)
            have hg1 := hH.frozen (y.b.toNat * 2 + 1)
            have hgt := Blk.frozen hT y.b.toNat
            have hlen2 := lt_of_get hh0
            obtain ⟨q1, q2, q3⟩ := B8.facts
            obtain ⟨a1, a2, a3⟩ := Ba.facts
            clear S0 hb5 hb6 hh0
            go_wp2_with fail
            go_region
            go_wp2_with fail
            go_roundw
            case rel =>
             refine ⟨j + 1, l2.set y.b.toNat te, hs2.set y.b.toNat ⟨j, d⟩, by omega, by go_num, Lib.hid ⟨by rw [List.length_set]; exact HD.out.1, by rw [HSET.out]; exact HM2.out, HH2.out⟩, ?_, ?_, ?_, ?_, ?_, ?_, ?_⟩
             ·exact Blk.far (Blk.far (IRow.set (irow_drew hT) _ _) (by simp; omega) _) (by simp; omega) _
             ·exact HRow.set (HRow.far (HRow.drew hH) (by simp; omega) _) y.b.toNat ⟨j, d⟩ hlen2
             ·exact Blk.far (Blk.far (Blk.far (Blk.drew hD) (by simp; omega) _) (by simp; omega) _) (by simp; omega) _
             ·exact Blk.far (Blk.far (Blk.far (Blk.drew B8) (by simp; omega) _) (by simp; omega) _) (by simp; omega) _
             ·exact Blk.far (Blk.far (Blk.far (Blk.drew B0) (by simp; omega) _) (by simp; omega) _) (by simp; omega) _
             ·exact Blk.far (Blk.far (Blk.far (Blk.drew B6) (by simp; omega) _) (by simp; omega) _) (by simp; omega) _
             ·exact (((below_drew hbw).setCell (by simp; omega) _).setCell (by simp; omega) _).setCell (by simp; omega) _
            case measure => simp [intOf]; omega
end Go.Proofs.YtjcimdpldlamfaaGreatDoor
/- The walk of early.Arrivals. -/
namespace Go.Proofs.YtjcimdpldlamfaaGreatDoor
open Go.RowKit

def ArrOut (g : GraphD) (v t : Int) (l : List Int) : Prop := if placeErr g v t = 0 then EarlyL g v t l else l = []
set_option maxRecDepth 100000 in
set_option maxHeartbeats 1000000 in
theorem arrivals_any (A A' : Option Addr) (c c' : Nat) (g : GraphD) (v t : Int) (w : World) (hG : GraphAt w A c A' c' g) :
  Calls Tryz.prog 62 #[gV A c A' c' g, .int .i64 v, .int .i64 t] w (IntsOut (ArrOut g v t) (placeErr g v t) w) := by
 by_cases h0 : placeErr g v t = 0
 case neg =>
  have H0 := Lib.hid h0
  have hn : (placeErr g v t != 0) = true := by simp [h0]
  clear h0
  go_enter Tryz.func62, Tryz.ntmps62
  go_wp2_with fail
  refine (out_any _ _ _ _ g v t _ (hG.ext (by go_grown))).mono ?_
  rintro e w1 ⟨Ao, co, rfl, hSo, hmo, hb1⟩
  go_wp2_with fail
  go_ret2
  exact ⟨[], none, 0, by unfold ArrOut; rw [if_neg H0.out], rfl, SlAt.nil, by simp, ext_trans (by go_grown) hb1⟩
 obtain ⟨hV, ⟨hv0, hv1⟩, ht0, ht1⟩ := place_of h0
 have H0 := Lib.hid h0
 have hh1 := hV.h1
 clear h0
 go_enter Tryz.func62, Tryz.ntmps62
 go_wp2_with fail
 refine (out_any _ _ _ _ g v t _ (hG.ext (by go_grown))).mono ?_
 rw [H0.out]
 rintro e w1 ⟨Ao, co, rfl, hSo, hmo, hb1⟩
 obtain ⟨B0, c1, c2, c3⟩ := (Blk.new w 68 (gC A c A' c' g)).go hb1
 have hbw : Below w.heap.size w w1 := ext_trans (by go_grown) hb1
 clear hb1
 go_wp2_with fail
 refine (grow_any _ _ _ _ g v t _ (hG.ext hbw) hV hv0 hv1 ht0 ht1).mono ?_
 rintro e w2 ⟨l, hs, Al, Ah, HG, rfl, hS1, _, hb2⟩
 have hlen := HG.out.early.1
 have HL := Lib.hid hlen
 clear hlen
 have hfd : ∀ w : World, (Instr.field 143 (.agg #[.slice Al g.lives.length g.lives.length, .slice Ah g.lives.length g.lives.length]) 0).run Tryz.prog w = .ok (.slice Al g.lives.length g.lives.length) w := fun _ => by kernel_rfl
 go_wp2_with fail
 go_ret2
 rw [H0.out]
 exact ⟨l, Al, g.lives.length, by unfold ArrOut; rw [if_pos H0.out]; exact HG.out.early, by rw [HL.out]; rfl, hS1, by rw [HL.out]; have := hV.nl; unfold maxLen; omega, ext_trans hbw hb2⟩
end Go.Proofs.YtjcimdpldlamfaaGreatDoor
