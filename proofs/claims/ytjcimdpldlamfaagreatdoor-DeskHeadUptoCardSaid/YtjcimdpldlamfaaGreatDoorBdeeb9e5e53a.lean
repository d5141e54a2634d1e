/- Several texts in one: Spread, Hops. -/
import Derived.Outline
import Derived.Deep.LoopGhost
import Derived.Deep.DeepCutAuto
import Derived.Deep.RegionHeld3
import Derived.IntWalk
import Derived.Shelf.Abstract
import Derived.Test.YtjcimdpldlamfaaGreatDoorBd1aa46607c4
import Derived.Test.YtjcimdpldlamfaaGreatDoorBd063e407aa3
import Derived.Test.YtjcimdpldlamfaaGreatDoorBd9cdc4f3309
import Derived.Test.YtjcimdpldlamfaaGreatDoorBd96fdae9b88
/- The walk of plain.spread: the ways from a vertex, the nearest vertex first. -/
namespace Go.Proofs.YtjcimdpldlamfaaGreatDoor
open Go.RowKit


/-- A list of numbers and an error are told. -/
def IntsOut (P : List Int → Prop) (er : Int) (w : World) (e : Ending) (w' : World) : Prop := ∃ l A c, P l ∧ e = .returned (.tuple #[.slice A l.length c, .int .i64 er]) ∧ SlAt RInt 1 w' A l ∧ l.length ≤ maxLen ∧ Below w.heap.size w w'
/-- A list of marks as a function; how many are not set. -/
def gb (r : List Bool) (i : Nat) : Bool := r.getD i false
def unset (r : List Bool) : Nat := (r.map fun b => if b then 0 else 1).sum
theorem gb_get {r : List Bool} {i : Nat} (h : i < r.length) : r[i]? = some (gb r i) := by simp [gb, List.getD, h]
theorem gb_set {r : List Bool} {c : Nat} (h : c < r.length) : gb (r.set c true) = mark (gb r) c := by
 funext j
 unfold mark
 by_cases hj : j = c
 ·subst hj; simp [gb, List.getD, h]
 ·simp only [if_neg hj, gb, List.getD]
  rw [List.getElem?_set_ne (fun h => hj h.symm)]
theorem unset_replicate (n : Nat) : unset (List.replicate n false) = n := by
 induction n with
 | zero => rfl
 | succ n ih => simp only [List.replicate_succ, unset, List.map_cons, List.sum_cons] at *; simp at ih ⊢; omega
theorem unset_set {r : List Bool} {c : Nat} (h : c < r.length) (hf : gb r c = false) : unset (r.set c true) < unset r := by
 induction r generalizing c with
 | nil => simp at h
 | cons x r ih =>
  cases c with
  | zero =>
   have : x = false := by simpa [gb] using hf
   subst this
   simp [unset]
  | succ c =>
   have := ih (c := c) (by simpa using h) (by simpa [gb] using hf)
   simp only [unset, List.set_cons_succ, List.map_cons, List.sum_cons] at *
   omega
/-- The nearest vertex so far of those that are not done; -1: none. -/
def MinAt (d : Nat → Int) (done : Nat → Bool) (I : Int) (k : Nat) (at' : Int) : Prop :=
 (at' = -1 ∧ ∀ i, i < k → done i = true ∨ I ≤ d i) ∨ ∃ c : Nat, at' = c ∧ c < k ∧ done c = false ∧ d c < I ∧ ∀ i, i < k → done i = true ∨ d c ≤ d i
section
variable {d : Nat → Int} {done : Nat → Bool} {I : Int} {k : Nat} {at' : Int}
theorem MinAt.zero : MinAt d done I 0 (-1) := .inl ⟨rfl, fun i h => by omega⟩
theorem MinAt.skip (h : MinAt d done I k at') (hk : done k = true ∨ I ≤ d k) : MinAt d done I (k + 1) at' := by
 rcases h with ⟨h1, h2⟩ | ⟨c, h1, h2, h3, h4, h5⟩
 ·exact .inl ⟨h1, fun i hi => by
   by_cases e : i = k
   ·rw [e]; exact hk
   ·exact h2 i (by omega)⟩
 ·exact .inr ⟨c, h1, by omega, h3, h4, fun i hi => by
   by_cases e : i = k
   ·rw [e]; rcases hk with hk | hk
    ·exact .inl hk
    ·right; omega
   ·exact h5 i (by omega)⟩
theorem MinAt.stay {c : Nat} (h : MinAt d done I k c) (hk : d c ≤ d k) : MinAt d done I (k + 1) c := by
 rcases h with ⟨h1, h2⟩ | ⟨e, h1, h2, h3, h4, h5⟩
 ·omega
 ·obtain rfl : c = e := by omega
  exact .inr ⟨c, rfl, by omega, h3, h4, fun i hi => by
   by_cases e : i = k
   ·rw [e]; exact .inr hk
   ·exact h5 i (by omega)⟩
theorem MinAt.take (h : MinAt d done I k at') (hk : done k = false) (hI : d k < I) (hlt : ∀ c : Nat, at' = c → d k < d c) : MinAt d done I (k + 1) k := by
 rcases h with ⟨h1, h2⟩ | ⟨e, h1, h2, h3, h4, h5⟩
 ·exact .inr ⟨k, rfl, by omega, hk, hI, fun i hi => by
   by_cases e : i = k
   ·rw [e]; right; exact Int.le_refl _
   ·rcases h2 i (by omega) with h | h
    ·exact .inl h
    ·right; omega⟩
 ·have := hlt e h1
  exact .inr ⟨k, rfl, by omega, hk, hI, fun i hi => by
   by_cases e' : i = k
   ·rw [e']; right; exact Int.le_refl _
   ·rcases h5 i (by omega) with h | h
    ·exact .inl h
    ·right; omega⟩
theorem MinAt.less {m : Nat} (h : MinAt d done I k m) (hk : done k = false) (hI : d k < I) (hlt : d k < d m) : MinAt d done I (k + 1) k :=
 h.take hk hI fun c h => by
  obtain rfl : m = c := by omega
  exact hlt
theorem MinAt.cases (h : MinAt d done I k at') : (at' = -1 ∧ ∀ i, i < k → done i = true ∨ I ≤ d i) ∨ ∃ c : Nat, at' = c ∧ c < k ∧ done c = false ∧ d c < I ∧ ∀ v, v < k → done v = false → d c ≤ d v := by
 rcases h with h | ⟨c, h1, h2, h3, h4, h5⟩
 ·exact .inl h
 ·exact .inr ⟨c, h1, h2, h3, h4, fun v hv hd => by
   rcases h5 v hv with h | h
   ·rw [hd] at h; simp at h
   ·exact h⟩
end
theorem arcsOf_get {s : SnapD} {wt : ArcD → Int} {j : Nat} {y : ArcD} (h : s.arcs[j]? = some y) : (arcsOf s wt)[j]? = some (arcF wt y) := by simp [arcsOf, h]
theorem near_start {s : SnapD} {wt : ArcD → Int} {v : Int} {n : Nat} : Near (arcsOf s wt) n Far (gi (startD s v)) (gi (startD s v)) (fun _ => false) :=
 ⟨fun _ => Int.le_refl _, fun i _ => start_big s v i, above_init, fun _ _ _ h => by simp at h, fun _ _ h => by simp at h⟩
theorem gb_replicate (n : Nat) : gb (List.replicate n false) = fun _ => false := by
 funext i
 simp only [gb, List.getD, List.getElem?_replicate]
 split <;> rfl
theorem fill_done {n : Nat} {l : List Int} (hl : l.length = n) (h : ∀ i, i < n → gi l i = Far) : l = List.replicate n Far :=
 gi_eq_of (by simp [hl]) fun i hi => by rw [h i (by omega)]; exact (gi_of (by simp [hl ▸ hi])).symm
theorem start_alive {s : SnapD} {v : Int} (h0 : 0 ≤ v) (h1 : v < s.alive.length) (h : s.alive[v.toNat]? = some true) : (List.replicate s.alive.length Far).set v.toNat 0 = startD s v :=
 gi_eq_of (by simp [startD]) fun i hi => by
  have hi' : i < s.alive.length := by simpa using hi
  rw [gi_set (by simp; omega)]
  by_cases e : i = v.toNat
  ·rw [e, upd_at]; unfold startD; rw [gi_range (by omega), if_pos ⟨h, by omega⟩]
  ·rw [upd_ne _ _ e]
   unfold startD; rw [gi_range hi', if_neg (fun h => e (by omega))]
   exact gi_of (by simp [hi'])
theorem start_dead {s : SnapD} {v : Int} (_h0 : 0 ≤ v) (h : s.alive[v.toNat]? = some false) : List.replicate s.alive.length Far = startD s v :=
 gi_eq_of (by simp [startD]) fun i hi => by
  have hi' : i < s.alive.length := by simpa using hi
  unfold startD; rw [gi_range hi', if_neg (fun ⟨h1, h2⟩ => by rw [← h2] at h; simp only [Int.toNat_natCast] at h; rw [h1] at h; simp at h)]
  exact gi_of (by simp [hi'])
theorem near_ways {s : SnapD} (hs : SnapOk s) {wt : ArcD → Int} {v : Int} {l : List Int} {done : Nat → Bool} (hl : l.length = s.alive.length) (hwt : ∀ a, a ∈ s.arcs → 0 ≤ wt a) (h : Near (arcsOf s wt) s.alive.length Far (gi (startD s v)) (gi l) done)
  (hall : ∀ i, i < s.alive.length → done i = true ∨ Far ≤ gi l i) : WaysL s wt v l := by
 refine ⟨hl, ?_⟩
 rw [← mem_arcsOf]
 refine h.best hall fun x hx => ?_
 simp only [arcsOf, List.mem_map] at hx
 obtain ⟨a, ha, rfl⟩ := hx
 have := hs.arcs a ha
 have h1 := this.a1; have h2 := this.b1
 have := hwt a ha
 exact ⟨h1, h2, mono_add _, by simp only [arcF]; omega⟩
def WaysOut (s : SnapD) (wt : ArcD → Int) (v : Int) (l : List Int) : Prop := if waysErr s v = 0 then WaysL s wt v l else l = []

set_option maxRecDepth 100000 in
set_option maxHeartbeats 4000000 in
theorem spread_any (kf : Nat) (wt : ArcD → Int) (A A' : Option Addr) (c c' : Nat) (s : SnapD) (v : Int) (w : World) (hent : Enters Tryz.prog kf) (hS : SnapAt w A c A' c' s) (hwt0 : shotErr s = 0 → ∀ a, a ∈ s.arcs → 0 ≤ wt a ∧ wt a ≤ 1000)
  (hcost : ∀ a w, a ∈ s.arcs → Calls Tryz.prog kf #[arcV a] w fun e w' => e = .returned (.int .i64 (wt a)) ∧ Below w.heap.size w w') :
  Calls Tryz.prog 102 #[snapV A c A' c' s, .int .i64 v, .func (.func kf) #[] #[]] w (IntsOut (WaysOut s wt v) (waysErr s v) w) := by
 have m1 : s.alive.length ≤ 9223372036854775807 := Nat.le_trans hS.lc hS.cm
 have m2 : s.arcs.length ≤ 9223372036854775807 := Nat.le_trans hS.lc' hS.cm'
 by_cases h0 : shotErr s = 0
 case neg =>
  have H0 := Lib.hid h0
  have HW : Hid (waysErr s v = shotErr s) := Lib.hid (waysErr_bad h0)
  have hn : (shotErr s != 0) = true := by simp [h0]
  clear h0
  go_enter Tryz.func102, Tryz.ntmps102
  go_wp2_with fail
  refine (shotCheck_any _ _ _ _ s _ (hS.ext (by go_grown))).mono ?_
  rintro e w1 ⟨rfl, hb1⟩
  go_wp2_with fail
  go_ret2
  rw [HW.out]
  exact ⟨[], none, 0, by unfold WaysOut; rw [if_neg (by rw [HW.out]; exact H0.out)], rfl, SlAt.nil, by simp, ext_trans (by go_grown) hb1⟩
 have hok := snapOk_of h0
 have hwt := hwt0 h0
 have H0 := Lib.hid h0
 clear h0 hwt0
 by_cases hv : 0 ≤ v ∧ v < s.alive.length
 case neg =>
  have HW : Hid (waysErr s v = 4) := Lib.hid (waysErr_none H0.out hv)
  go_enter Tryz.func102, Tryz.ntmps102
  go_wp2_with fail
  refine (shotCheck_any _ _ _ _ s _ (hS.ext (by go_grown))).mono ?_
  rw [H0.out]
  rintro e w1 ⟨rfl, hb1⟩
  obtain ⟨B0, c1, c2, c3⟩ := (Blk.new w 86 (snapC A c A' c' s)).go hb1
  go_wp2_with fail
  all_goals go_ret2
  all_goals rw [HW.out]
  all_goals exact ⟨[], none, 0, by unfold WaysOut; rw [if_neg (by rw [HW.out]; decide)], rfl, SlAt.nil, by simp, ext_trans (by go_grown) hb1⟩
 obtain ⟨hv0, hv1⟩ := hv
 have HW : Hid (waysErr s v = 0) := Lib.hid (waysErr_ok H0.out ⟨hv0, hv1⟩)
 have hn12 := hok.nv
 have hmk := make_ints s.alive.length (by omega)
 have hmb := make_bools s.alive.length (by omega)
 go_enter Tryz.func102, Tryz.ntmps102
 go_wp2_with fail
 refine (shotCheck_any _ _ _ _ s _ (hS.ext (by go_grown))).mono ?_
 rw [H0.out]
 rintro e w1 ⟨rfl, hb1⟩
 obtain ⟨B0, c1, c2, c3⟩ := (Blk.new w 86 (snapC A c A' c' s)).go hb1
 go_wp2_with fail
 have hI0 := IRow.made (w := w1) (n := s.alive.length) rfl
 have hB00 := B0.alloc (Obj.cells (madeCells #[Value.int IntKind.i64 0] s.alive.length) 3)
 have hb2 : Below w.heap.size w w1 := ext_trans (by go_grown) hb1
 have hb3 : Below w1.heap.size w1 (w1.alloc (Obj.cells (madeCells #[Value.int IntKind.i64 0] s.alive.length) 3)) := (Below.refl _ _).alloc (Nat.le_refl _) _
 have hbd := B0.lt
 clear c1 c2 c3 hb1 B0
 go_loopw [37] (fun x wr => ∃ (k : Nat) (l : List Int), k ≤ s.alive.length ∧ x = .int .i64 k ∧ Hid (l.length = s.alive.length ∧ ∀ i, i < k → gi l i = Far) ∧ IRow wr w1.heap.size l ∧ Below w1.heap.size w1 wr ∧ Blk wr w.heap.size 86 (snapC A c A' c' s))
  (fun x _ => s.alive.length - (intOf x).toNat)
 case atStart => exact ⟨0, _, Nat.zero_le _, rfl, Lib.hid ⟨by simp, fun i h => by omega⟩, hI0, hb3, hB00⟩
 case round =>
  clear hI0 hB00 hb3
  obtain ⟨k, l, hk, rfl, HL, hI, hb, hB⟩ := hrel
  by_cases hlt : k < s.alive.length
  ·have hc := hI.cell (k := k) (by rw [HL.out.1]; exact hlt)
   have hf := Blk.frozen hI k
   go_wp2_with fail
   go_roundw
   case rel =>
    refine ⟨k + 1, l.set k Far, by omega, by go_num, Lib.hid ⟨by simp [HL.out.1], fun i hi => ?_⟩, hI.set k Far, hb.setCell (by simp) _, hB.far (by simp; omega) _⟩
    rw [gi_set (by rw [HL.out.1]; exact hlt)]
    by_cases e : i = k
    ·rw [e, upd_at]
    ·rw [upd_ne _ _ e]; exact HL.out.2 i (by omega)
   case measure => simp [intOf]; omega
  ·have HR := Lib.hid (fill_done HL.out.1 (fun i hi => HL.out.2 i (by omega)))
   rw [HR.out] at hI
   clear HL HR
   obtain ⟨q1, q2, q3⟩ := hB.facts
   obtain ⟨bv, ov, hAl⟩ := hS.alive
   obtain ⟨p, hp⟩ := get_lt (show v.toNat < s.alive.length by omega)
   obtain ⟨rfl, hbv, p0⟩ := hAl _ p hp
   unfold RBool at p0
   have hbw : Below w.heap.size w wr := hb2.trans (hb.mono (by omega))
   have p1 := p0.now hbw
   simp only [Nat.mul_one] at p1
   have hbz : bv < wr.heap.size := Nat.lt_of_lt_of_le hbv hbw.size
   have HP := Lib.hid hp
   clear hAl hp p0
   have hc := hI.cell (k := v.toNat) (by simp; omega)
   have hf := Blk.frozen hI v.toNat
   go_upto_if 48 with fail
   go_cut [] from 49 to 51 (fun wx => IRow wx w1.heap.size (startD s v) ∧ Blk wx w.heap.size 86 (snapC (some ⟨bv, ov, none⟩) c A' c' s) ∧ Below w.heap.size w wx ∧ w1.heap.size < wx.heap.size)
   case first =>
    cases p
    case true =>
     have HS := Lib.hid (start_alive hv0 hv1 HP.out)
     go_wp2_with fail
     go_meet
     exact ⟨by rw [← HS.out]; exact hI.set _ _, hB.far (by simp; omega) _, hbw.setCell (by simp; omega) _, by simp; exact Blk.lt hI⟩
    case false =>
     have HS := Lib.hid (start_dead hv0 HP.out)
     go_wp2_with fail
     go_meet
     exact ⟨by rw [← HS.out]; exact hI, hB, hbw, Blk.lt hI⟩
   case rest =>
    clear hc hf hI hB hbw hbz p1 HP q1 q2 q3 hb hmk
    obtain ⟨hI, hB, hbw, hbz⟩ := hcut
    go_wp2_with fail
    have hD0 := BRow.made (w := wc) (n := s.alive.length) rfl
    have hI0 := Blk.alloc hI (Obj.cells (madeCells #[Value.bool false] s.alive.length) 4)
    have hB0 := hB.alloc (Obj.cells (madeCells #[Value.bool false] s.alive.length) 4)
    have hbw0 := ext_alloc hbw (Obj.cells (madeCells #[Value.bool false] s.alive.length) 4)
    clear hI hB hbw
    have hbe : w1.heap.size < wc.heap.size := hbz
    go_loopg [] s.alive.length (fun gk wr => ∃ (l : List Int) (r : List Bool), Hid (l.length = s.alive.length ∧ r.length = s.alive.length ∧ unset r ≤ gk ∧ Near (arcsOf s wt) s.alive.length Far (gi (startD s v)) (gi l) (gb r)) ∧
     IRow wr w1.heap.size l ∧ BRow wr wc.heap.size r ∧ Blk wr w.heap.size 86 (snapC (some ⟨bv, ov, none⟩) c A' c' s) ∧ Below w.heap.size w wr)
    case atStart => exact ⟨_, _, Lib.hid ⟨by simp [startD], by simp, by rw [unset_replicate]; exact Nat.le_refl _, by rw [gb_replicate]; exact near_start⟩, hI0, hD0, hB0, hbw0⟩
    case round =>
     clear hD0 hI0 hB0 hbw0
     obtain ⟨l, r, HN, hI, hD, hB, hbw⟩ := hrel
     go_wp2_with fail
     obtain ⟨wo, rfl⟩ : ∃ wo : World, wo = wr := ⟨_, rfl⟩
     go_loopw [12, 57] (fun x y wr => ∃ (k : Nat) (z : Int), k ≤ s.alive.length ∧ y = .int .i64 k ∧ x = .int .i64 z ∧ Hid (MinAt (gi l) (gb r) Far k z) ∧ wr = wo) (fun _ y _ => s.alive.length - (intOf y).toNat)
     case atStart => exact ⟨0, -1, Nat.zero_le _, rfl, rfl, Lib.hid MinAt.zero, rfl⟩
     case round =>
      obtain ⟨k, z, hk, rfl, rfl, HM, rfl⟩ := hrel
      by_cases hlt : k < s.alive.length
      case pos =>
       have hc := hI.cell (k := k) (by rw [HN.out.1]; exact hlt)
       obtain ⟨x, hx⟩ : ∃ x, gb r k = x := ⟨_, rfl⟩
       have hd := hD.cell (k := k) (x := x) (by rw [gb_get (by rw [HN.out.2.1]; exact hlt), hx])
       obtain ⟨n, hn⟩ : ∃ n, gi l k = n := ⟨_, rfl⟩
       rw [hn] at hc
       have HX := Lib.hid hx
       have HNN := Lib.hid hn
       clear hx hn
       cases x
       case true =>
        go_wp2_with fail
        go_roundw
        case rel => exact ⟨k + 1, z, by omega, by go_num, rfl, Lib.hid (HM.out.skip (.inl HX.out)), trivial⟩
        case measure => simp [intOf]; omega
       by_cases hf : n < 1099511627776
       case neg =>
        have hf2 : decide (n < 1099511627776) = false := by simpa using hf
        go_wp2_with fail
        go_roundw
        case rel => exact ⟨k + 1, z, by omega, by go_num, rfl, Lib.hid (HM.out.skip (.inr (by rw [HNN.out]; simp only [Far]; omega))), trivial⟩
        case measure => simp [intOf]; omega
       rcases HM.out.cases with ⟨rfl, _⟩ | ⟨m, rfl, hm, _, _, _⟩
       ·go_wp2_with fail
        go_roundw
        case rel => exact ⟨k + 1, k, by omega, by go_num, rfl, Lib.hid (HM.out.take HX.out (by rw [HNN.out]; exact hf) (fun c h => by omega)), trivial⟩
        case measure => simp [intOf]; omega
       ·have hcm := hI.cell (k := m) (by rw [HN.out.1]; omega)
        obtain ⟨q, hq⟩ : ∃ q, gi l m = q := ⟨_, rfl⟩
        rw [hq] at hcm
        have HQ := Lib.hid hq
        clear hq
        have hm2 : m < s.alive.length := by omega
        by_cases hlq : n < q
        ·go_wp2_with fail
         go_roundw
         case rel => exact ⟨k + 1, k, by omega, by go_num, rfl, Lib.hid (HM.out.less HX.out (by rw [HNN.out]; exact hf) (by rw [HNN.out, HQ.out]; exact hlq)), trivial⟩
         case measure => simp [intOf]; omega
        ·go_wp2_with fail
         go_roundw
         case rel => exact ⟨k + 1, m, by omega, by go_num, rfl, Lib.hid (HM.out.stay (by rw [HNN.out, HQ.out]; omega)), trivial⟩
         case measure => simp [intOf]; omega
      case neg =>
       rcases HM.out.cases with ⟨rfl, hall⟩ | ⟨m, rfl, hm, hmd, hmf, hmin⟩
       ·have HWL := Lib.hid (near_ways hok HN.out.1 (fun a ha => (hwt a ha).1) HN.out.2.2.2 (fun i hi => hall i (by omega)))
        clear hall
        go_wp2_with fail
        go_ret2
        rw [HW.out]
        have hlen := HN.out.1
        refine ⟨l, some ⟨w1.heap.size, 0, none⟩, s.alive.length, by unfold WaysOut; rw [if_pos HW.out]; exact HWL.out, by rw [hlen]; rfl, hI.slAt (fun k hk => ?_), by rw [hlen]; unfold maxLen; omega, hbw⟩
        have h1 := ways_big HWL.out k
        have h2 := ways_pos (fun a ha => (hwt a ha).1) HWL.out k
        simp only [Far] at h1
        exact ⟨by omega, by omega⟩
       ·have hm2 : m < s.alive.length := by omega
        have HMD := Lib.hid hmd
        have HMM := Lib.hid hmin
        have HMF := Lib.hid hmf
        have hd := hD.cell (k := m) (x := false) (by rw [gb_get (by rw [HN.out.2.1]; exact hm2), hmd])
        have hf := Blk.frozen hD m
        have hcost2 := Lib.hid hcost
        obtain ⟨q1, q2, q3⟩ := hB.facts
        have hbne : w.heap.size ≠ wc.heap.size := by omega
        clear hmd hmin hmf hcost HM
        go_wp2_with fail
        have hI1 := Blk.far hI (p := ⟨wc.heap.size, m, none⟩) (by simp; omega) (.bool true)
        have hD1 := hD.set m true
        have hB1 := hB.far (p := ⟨wc.heap.size, m, none⟩) (by simp; omega) (.bool true)
        have hbw1 := hbw.setCell (p := ⟨wc.heap.size, m, none⟩) (by simp; omega) (.bool true)
        clear hI hD hB hbw hd hf q1 q2 q3
        obtain ⟨wp, hwp⟩ : ∃ wp : World, wp = wr.setCell ⟨wc.heap.size, m, none⟩ (.bool true) := ⟨_, rfl⟩
        rw [← hwp] at hI1 hD1 hB1 hbw1 ⊢
        clear hwp
        obtain ⟨bz, oz, hAr⟩ := hS.arcs
        go_loopw [94] (fun x wr => ∃ (j : Nat) (l2 : List Int), j ≤ s.arcs.length ∧ x = .int .i64 j ∧ Hid (l2.length = s.alive.length ∧ Mid (arcsOf s wt) s.alive.length Far (gi (startD s v)) (gi l) (gi l2) (gb r) m j) ∧
         IRow wr w1.heap.size l2 ∧ BRow wr wc.heap.size (r.set m true) ∧ Blk wr w.heap.size 86 (snapC (some ⟨bv, ov, none⟩) c A' c' s) ∧ Below w.heap.size w wr) (fun x _ => s.arcs.length - (intOf x).toNat)
        case atStart => exact ⟨0, l, Nat.zero_le _, rfl, Lib.hid ⟨HN.out.1, HN.out.2.2.2.begin (fun v hv hd => HMM.out v (by omega) hd)⟩, hI1, hD1, hB1, hbw1⟩
        case round =>
         clear hI1 hD1 hB1 hbw1
         obtain ⟨j, l2, hj, rfl, HD, hI, hD, hB, hbw⟩ := hrel
         by_cases hlt : j < s.arcs.length
         case neg =>
          have HF := Lib.hid (HD.out.2.fin HN.out.2.2.2 hm2 HMD.out (by simp [arcsOf]; omega))
          have HU := Lib.hid (unset_set (r := r) (c := m) (by rw [HN.out.2.1]; exact hm2) HMD.out)
          have HU2 := Lib.hid HN.out.2.2.1
          go_wp2_with fail
          go_roundg (gk - 1)
          case rel => exact ⟨l2, _, Lib.hid ⟨HD.out.1, by rw [List.length_set]; exact HN.out.2.1, by have := HU.out; have := HU2.out; omega, by rw [gb_set (by rw [HN.out.2.1]; exact hm2)]; exact HF.out⟩, hI, hD, hB, hbw⟩
          case measure => have := HU.out; have := HU2.out; omega
         obtain ⟨y, hy⟩ := get_lt hlt
         obtain ⟨rfl, hbz1, ⟨⟨x0, x1, x2⟩, _⟩⟩ := hAr j y hy
         have y0 := x0.now hbw
         have y1 := x1.now hbw
         have y2 := x2.now hbw
         have hym := List.mem_of_getElem? hy
         have hyo := hok.arcs y hym
         have HY := Lib.hid (arcsOf_get (wt := wt) hy)
         have HYM := Lib.hid hym
         clear hy hym x0 x1 x2
         by_cases hya : y.a = (m : Int)
         case neg =>
          have hne : (y.a == (m : Int)) = false := by simp [hya]
          have HS := Lib.hid (HD.out.2.skip HY.out (by have := hyo.a0; simp only [arcF]; omega))
          clear hya
          go_wp2_with fail
          go_roundw
          case rel => exact ⟨j + 1, l2, by omega, by go_num, Lib.hid ⟨HD.out.1, HS.out⟩, Blk.alloc hI _, Blk.alloc hD _, hB.alloc _, ext_alloc hbw _⟩
          case measure => simp [intOf]; omega
         have hne : (y.a == (m : Int)) = true := by simp [hya]
         have HYA := Lib.hid hya
         clear hya
         have hbb0 := hyo.b0
         have hbb1 : y.b < s.alive.length := by have := hyo.b1; omega
         have hbb2 : y.b.toNat < s.alive.length := hyo.b1
         have hcb := hI.cell (k := y.b.toNat) (by rw [HD.out.1]; exact hbb2)
         have hcm := hI.cell (k := m) (by rw [HD.out.1]; exact hm2)
         have hlow : ∀ i, 0 ≤ gi l2 i := above_pos HD.out.2.above (start_pos s v) (fun x hx => by
          simp only [arcsOf, List.mem_map] at hx
          obtain ⟨a, ha, rfl⟩ := hx
          have := (hwt a ha).1
          simp only [arcF]; omega)
         have hq0 := hlow m
         have hq1 : gi l2 m ≤ 1099511627776 := Int.le_trans (HD.out.2.le m) (HN.out.2.2.2.big m hm2)
         obtain ⟨w0, w2⟩ := hwt y HYM.out
         obtain ⟨p', hp'⟩ : ∃ p', gi l2 y.b.toNat = p' := ⟨_, rfl⟩
         obtain ⟨q', hq'⟩ : ∃ q', gi l2 m = q' := ⟨_, rfl⟩
         obtain ⟨n', hn'⟩ : ∃ n', wt y = n' := ⟨_, rfl⟩
         rw [hp'] at hcb
         rw [hq'] at hcm hq0 hq1
         rw [hn'] at w0 w2
         have HP' := Lib.hid hp'
         have HQ' := Lib.hid hq'
         have HN' := Lib.hid hn'
         clear hp' hq' hn' hlow
         have hwrap : IntKind.i64.wrap (q' + n') = q' + n' := IntWalk.i64_in _ (by omega)
         have hcall := Lib.hid (fun w => hcost2.out y w HYM.out)
         have hzz : w1.heap.size < wr.heap.size := Blk.lt hI
         have hn3 := (Blk.new wr 134 #[.int .i64 y.a, .int .i64 y.b, .int .i64 y.cost])
         have e0 := hn3.cell 0
         have e1 := hn3.cell 1
         have e2 := hn3.cell 2
         have hcb1 : (wr.alloc (Obj.cells #[.int .i64 y.a, .int .i64 y.b, .int .i64 y.cost] 134)).cell? ⟨w1.heap.size, y.b.toNat, none⟩ = some (.int .i64 p') := by rw [World.cell?_alloc_past _ _ _ hzz]; exact hcb
         have hcm1 : (wr.alloc (Obj.cells #[.int .i64 y.a, .int .i64 y.b, .int .i64 y.cost] 134)).cell? ⟨w1.heap.size, m, none⟩ = some (.int .i64 q') := by rw [World.cell?_alloc_past _ _ _ hzz]; exact hcm
         simp only [List.getElem?_toArray, List.getElem?_cons_zero, List.getElem?_cons_succ] at e0 e1 e2
         have hm3 : (0 : Int) ≤ (m : Int) := by omega
         have hm4 : (m : Int) < (s.alive.length : Int) := by omega
         clear hcb hcm
         unfold Enters at hent
         go_wp2_with fail
         obtain ⟨S, hSS⟩ : ∃ S : World → Prop, Hid (S = fun w' => w'.cell? ⟨w1.heap.size, y.b.toNat, none⟩ = some (.int .i64 p') ∧ w'.cell? ⟨w1.heap.size, m, none⟩ = some (.int .i64 q') ∧ w'.cell? ⟨wr.heap.size, 0, none⟩ = some (.int .i64 y.a) ∧ w'.cell? ⟨wr.heap.size, 1, none⟩ = some (.int .i64 y.b) ∧ w'.cell? ⟨wr.heap.size, 2, none⟩ = some (.int .i64 y.cost)) := ⟨_, Lib.hid rfl⟩
         have hS0 : S (wr.alloc (Obj.cells #[.int .i64 y.a, .int .i64 y.b, .int .i64 y.cost] 134)).drew := by rw [hSS.out]; exact ⟨hcb1, hcm1, e0, e1, e2⟩
         refine WpN.begin (S := S) 18 (by kernel_rfl) ?_
         refine WpN.take (i := 0) (v := ?_) rfl (by kernel_rfl) (fun _ _ _ h => h) (Or.inl ⟨by rfl, ?_⟩) (by assumption) ?_
         rotate_left
         ·intro w hSw; rw [hSS.out] at hSw; obtain ⟨sw0, sw1, sw2, sw3, sw4⟩ := hSw; go_simp; try with_reducible rfl
         simp only [Act.put, List.setIfInBounds_toArray]
         refine WpN.take (i := 1) (v := ?_) rfl (by kernel_rfl) (fun _ _ _ h => h) (Or.inl ⟨by rfl, ?_⟩) (by assumption) ?_
         rotate_left
         ·intro w hSw; rw [hSS.out] at hSw; obtain ⟨sw0, sw1, sw2, sw3, sw4⟩ := hSw; go_simp; try with_reducible rfl
         simp only [Act.put]
         refine WpN.take (i := 2) (v := ?_) rfl (by kernel_rfl) (fun _ _ _ h => h) (Or.inl ⟨by rfl, ?_⟩) (by assumption) ?_
         rotate_left
         ·intro w hSw; rw [hSS.out] at hSw; obtain ⟨sw0, sw1, sw2, sw3, sw4⟩ := hSw; go_simp; try with_reducible rfl
         simp only [Act.put]
         refine WpN.take (i := 3) (v := ?_) rfl (by kernel_rfl) (fun _ _ _ h => h) (Or.inl ⟨by rfl, ?_⟩) (by assumption) ?_
         rotate_left
         ·intro w hSw; rw [hSS.out] at hSw; obtain ⟨sw0, sw1, sw2, sw3, sw4⟩ := hSw; go_simp; try with_reducible rfl
         simp only [Act.put]
         refine WpN.take (i := 4) (v := ?_) rfl (by kernel_rfl) (fun _ _ _ h => h) (Or.inl ⟨by rfl, ?_⟩) (by assumption) ?_
         rotate_left
         ·intro w hSw; rw [hSS.out] at hSw; obtain ⟨sw0, sw1, sw2, sw3, sw4⟩ := hSw; go_simp; try with_reducible rfl
         simp only [Act.put]
         refine WpN.take (i := 5) (v := ?_) rfl (by kernel_rfl) (fun _ _ _ h => h) (Or.inl ⟨by rfl, ?_⟩) (by assumption) ?_
         rotate_left
         ·intro w hSw; rw [hSS.out] at hSw; obtain ⟨sw0, sw1, sw2, sw3, sw4⟩ := hSw; go_simp; try with_reducible rfl
         simp only [Act.put]
         refine WpN.take (i := 6) (v := ?_) rfl (by kernel_rfl) (fun _ _ _ h => h) (Or.inl ⟨by rfl, ?_⟩) (by assumption) ?_
         rotate_left
         ·intro w hSw; rw [hSS.out] at hSw; obtain ⟨sw0, sw1, sw2, sw3, sw4⟩ := hSw; go_simp; try with_reducible rfl
         simp only [Act.put]
         refine WpN.take (i := 7) (v := ?_) rfl (by kernel_rfl) (fun _ _ _ h => h) (Or.inl ⟨by rfl, ?_⟩) (by assumption) ?_
         rotate_left
         ·intro w hSw; rw [hSS.out] at hSw; obtain ⟨sw0, sw1, sw2, sw3, sw4⟩ := hSw; go_simp; try with_reducible rfl
         simp only [Act.put]
         refine WpN.take (i := 8) (v := ?_) rfl (by kernel_rfl) (fun _ _ _ h => h) (Or.inl ⟨by rfl, ?_⟩) (by assumption) ?_
         rotate_left
         ·intro w hSw; rw [hSS.out] at hSw; obtain ⟨sw0, sw1, sw2, sw3, sw4⟩ := hSw; go_simp; try with_reducible rfl
         simp only [Act.put]
         refine WpN.take (i := 9) (v := ?_) rfl (by kernel_rfl) (fun _ _ _ h => h) (Or.inl ⟨by rfl, ?_⟩) (by assumption) ?_
         rotate_left
         ·intro w hSw; rw [hSS.out] at hSw; obtain ⟨sw0, sw1, sw2, sw3, sw4⟩ := hSw; go_simp; try with_reducible rfl
         simp only [Act.put]
         refine WpN.take (i := 10) (v := ?_) rfl (by kernel_rfl) (fun _ _ _ h => h) (Or.inl ⟨by rfl, ?_⟩) (by assumption) ?_
         rotate_left
         ·intro w hSw; rw [hSS.out] at hSw; obtain ⟨sw0, sw1, sw2, sw3, sw4⟩ := hSw; go_simp; try with_reducible rfl
         simp only [Act.put]
         refine WpN.take (i := 11) (v := ?_) rfl (by kernel_rfl) (fun _ _ _ h => h) (Or.inl ⟨by rfl, ?_⟩) (by assumption) ?_
         rotate_left
         ·intro w hSw; rw [hSS.out] at hSw; obtain ⟨sw0, sw1, sw2, sw3, sw4⟩ := hSw; go_simp; try with_reducible rfl
         simp only [Act.put]
         refine WpN.take (i := 12) (v := ?_) rfl (by kernel_rfl) (fun _ _ _ h => h) (Or.inl ⟨by rfl, ?_⟩) (by assumption) ?_
         rotate_left
         ·intro w hSw; rw [hSS.out] at hSw; obtain ⟨sw0, sw1, sw2, sw3, sw4⟩ := hSw; go_simp; try with_reducible rfl
         simp only [Act.put]
         refine WpN.take (i := 13) (v := ?_) rfl (by kernel_rfl) (fun _ _ _ h => h) (Or.inl ⟨by rfl, ?_⟩) (by assumption) ?_
         rotate_left
         ·intro w hSw; rw [hSS.out] at hSw; obtain ⟨sw0, sw1, sw2, sw3, sw4⟩ := hSw; go_simp; try with_reducible rfl
         simp only [Act.put]
         refine WpN.one (i := 14) rfl (by kernel_rfl) fun K hK => ?_
         go_wp2_with (first | (refine (hcall.out _).mono ?_; rw [HN'.out]; rintro e w5 ⟨rfl, hb5⟩; have hb7 : Below (wr.alloc (Obj.cells #[.int .i64 y.a, .int .i64 y.b, .int .i64 y.cost] 134)).heap.size (wr.alloc (Obj.cells #[.int .i64 y.a, .int .i64 y.b, .int .i64 y.cost] 134)) w5 := ext_trans (by go_grown) hb5))
         have hS5 : S w5 := by rw [hSS.out]; exact keep5 hb7 ⟨hcb1, hcm1, e0, e1, e2⟩
         refine hK.out _ _ ⟨fun _ => hS5, ?_⟩
         clear hK K
         try simp only [pS]
         refine WpN.take (i := 15) (v := ?_) rfl (by kernel_rfl) (fun _ _ _ h => h) (Or.inl ⟨by rfl, ?_⟩) (by assumption) ?_
         rotate_left
         ·intro w hSw; rw [hSS.out] at hSw; obtain ⟨sw0, sw1, sw2, sw3, sw4⟩ := hSw; go_simp; try with_reducible rfl
         simp only [Act.put, List.setIfInBounds_toArray]
         refine WpN.take (i := 16) (v := ?_) rfl (by kernel_rfl) (fun _ _ _ h => h) (Or.inl ⟨by rfl, ?_⟩) (by assumption) ?_
         rotate_left
         ·intro w hSw; rw [hSS.out] at hSw; obtain ⟨sw0, sw1, sw2, sw3, sw4⟩ := hSw; go_simp; try with_reducible rfl
         simp only [Act.put]
         refine WpN.take (i := 17) (v := ?_) rfl (by kernel_rfl) (fun _ _ _ h => h) (Or.inl ⟨by rfl, ?_⟩) (by assumption) ?_
         rotate_left
         ·intro w hSw; rw [hSS.out] at hSw; obtain ⟨sw0, sw1, sw2, sw3, sw4⟩ := hSw; go_simp; try with_reducible rfl
         simp only [Act.put]
         have hb6 : Below wr.heap.size wr w5 := ext_trans (by go_grown) hb7
         have hI5 := Blk.ext hI hb6
         have hD5 := Blk.ext hD hb6
         have hB5 := hB.ext hb6
         have hbw5 := ext_trans hbw hb6
         have hfr5 := Blk.frozen hI5 y.b.toNat
         have hcb5 := cell_keep hb7 hcb1
         have hbd5 : w.heap.size ≤ w1.heap.size := by omega
         have HMS := Lib.hid (HD.out.2.step HN.out.2.2.2 hm2 HMD.out HY.out (by have := hyo.a0; have := HYA.out; simp only [arcF]; omega) (mono_add _) (by simp only [arcF]; rw [HQ'.out, HN'.out]; omega))
         obtain ⟨mv, hmv⟩ : ∃ mv, (if q' + n' < p' then q' + n' else p') = mv := ⟨_, rfl⟩
         first | rw [hmv] | rw [show min p' (q' + n') = mv from by rw [← hmv]; split <;> omega]
         have hset : Hid (gi (l2.set y.b.toNat mv) = upd (gi l2) (arcF wt y).b (min (gi l2 (arcF wt y).b) ((arcF wt y).f (gi l2 m)))) := Lib.hid (by
          rw [gi_set (by rw [HD.out.1]; exact hbb2)]
          simp only [arcF]
          rw [HP'.out, HQ'.out, HN'.out]
          congr 1
          rw [← hmv]
          split <;> omega)
         clear hmv
         refine WpN.one (i := 18) rfl (by kernel_rfl) fun K hK => ?_
         clear hS5 hS0
         go_wp2_with fail
         refine hK.out _ _ ⟨fun h => by omega, ?_⟩
         clear hK K
         refine WpN.done (by kernel_rfl) ?_ _
         go_wp2_with fail
         go_roundw
         case rel => exact ⟨j + 1, l2.set y.b.toNat mv, by omega, by go_num, Lib.hid ⟨by rw [List.length_set]; exact HD.out.1, by rw [hset.out]; exact HMS.out⟩, IRow.set hI5 _ _, Blk.far hD5 (by simp; omega) _, hB5.far (by simp; omega) _, hbw5.setCell (by simp; omega) _⟩
         case measure => simp [intOf]; omega
end Go.Proofs.YtjcimdpldlamfaaGreatDoor
/- The walks of plain.Hops and plain.Costs. -/
namespace Go.Proofs.YtjcimdpldlamfaaGreatDoor
open Go.RowKit

theorem hopsClo_any (a : ArcD) (w : World) : Calls Tryz.prog 103 #[arcV a] w fun e w' => e = .returned (.int .i64 (wOne a)) ∧ Below w.heap.size w w' := by
 go_enter Tryz.func103, Tryz.ntmps103
 go_wp2_with fail
 go_ret
 exact ⟨rfl, by go_grown⟩
theorem costsClo_any (a : ArcD) (w : World) : Calls Tryz.prog 104 #[arcV a] w fun e w' => e = .returned (.int .i64 (wCost a)) ∧ Below w.heap.size w w' := by
 go_enter Tryz.func104, Tryz.ntmps104
 go_wp2_with fail
 go_ret
 exact ⟨rfl, by go_grown⟩
theorem enters_hops : Enters Tryz.prog 103 := enters_of Tryz.func103 (by kernel_rfl) rfl
theorem enters_costs : Enters Tryz.prog 104 := enters_of Tryz.func104 (by kernel_rfl) rfl
theorem hops_any (A A' : Option Addr) (c c' : Nat) (s : SnapD) (v : Int) (w : World) (hS : SnapAt w A c A' c' s) :
  Calls Tryz.prog 54 #[snapV A c A' c' s, .int .i64 v] w (IntsOut (WaysOut s wOne v) (waysErr s v) w) := by
 go_enter Tryz.func54, Tryz.ntmps54
 go_wp2_with fail
 refine (spread_any 103 wOne A A' c c' s v _ enters_hops (hS.ext (by go_grown)) (fun _ a _ => by simp [wOne]) (fun a w _ => hopsClo_any a w)).mono ?_
 rintro e w1 ⟨l, A1, c1, hW, rfl, hS1, hm1, hb1⟩
 go_wp2_with fail
 go_ret2
 exact ⟨l, A1, c1, hW, rfl, hS1, hm1, ext_trans (by go_grown) hb1⟩
theorem plainCosts_any (A A' : Option Addr) (c c' : Nat) (s : SnapD) (v : Int) (w : World) (hS : SnapAt w A c A' c' s) :
  Calls Tryz.prog 57 #[snapV A c A' c' s, .int .i64 v] w (IntsOut (WaysOut s wCost v) (waysErr s v) w) := by
 go_enter Tryz.func57, Tryz.ntmps57
 go_wp2_with fail
 refine (spread_any 104 wCost A A' c c' s v _ enters_costs (hS.ext (by go_grown)) (fun h a ha => ⟨((snapOk_of h).arcs a ha).c0, ((snapOk_of h).arcs a ha).c1⟩) (fun a w _ => costsClo_any a w)).mono ?_
 rintro e w1 ⟨l, A1, c1, hW, rfl, hS1, hm1, hb1⟩
 go_wp2_with fail
 go_ret2
 exact ⟨l, A1, c1, hW, rfl, hS1, hm1, ext_trans (by go_grown) hb1⟩
end Go.Proofs.YtjcimdpldlamfaaGreatDoor
