/- Several texts in one: Place, RefGo, Go, Out, OutP, GoMain, LawGoes, Equal, Pair, Spoil2. -/
import Derived.Laws.StructEq
import Derived.Test.YtdpibehpmghghaaGreatBd75f6f4d008
import Derived.Test.YtdpibehpmghghaaGreatBd127ac6da48
import Derived.Test.YtdpibehpmghghaaGreatBd3944ca27eb
import Derived.Test.YtdpibehpmghghaaGreatBdcc6882d3e7
import Derived.Test.YtdpibehpmghghaaGreatBd87574eba69
import Derived.Test.YtdpibehpmghghaaGreatBdbca928d534
/- The walks: what is wrong with a place (program and document), when one lands (document). -/
namespace Go.Proofs.YtdpibehpmghghaaGreat
open Go.RowKit

theorem first_of {b : Bool} {x : Int} (h : b = false → x = 1) (h' : b = true → x = 0) {d : Bool} (e : b = d) : x = if d then 0 else 1 := by
  cases d
  · exact h e
  · exact h' e
theorem neq_of {a : Int} (h : a = 0) : (a != 0) = false := by simp [h]
theorem neq_of' {a : Int} (h : ¬ a = 0) : (a != 0) = true := by simp [h]

set_option maxHeartbeats 1000000 in
theorem checkPlace_any (A A' : Option Addr) (c c' : Nat) (g : GraphD) (v t : Int) (w : World) (hG : GraphAt w A c A' c' g) :
    Calls Tryz.prog 79 #[gV A c A' c' g, .int .i64 v, .int .i64 t] w fun e w' => e = .returned (.int .i64 (placeErr g v t)) ∧ Below w.heap.size w w' := by
  have m1 : g.lives.length ≤ 9223372036854775807 := Nat.le_trans hG.lc hG.cm
  by_cases h0 : graphErr g = 0
  case neg =>
    have H0 := Lib.hid (placeErr_g (v := v) (t := t) h0)
    have hn := neq_of' h0
    clear h0
    go_enter Tryz.func79, Tryz.ntmps79
    go_wp2_with fail
    refine (check_any _ _ _ _ g _ (hG.ext (by go_grown))).mono ?_
    rintro e w1 ⟨rfl, hb1⟩
    have hb2 : Below w.heap.size w w1 := ext_trans (by go_grown) hb1
    go_wp2_with fail
    go_ret
    exact ⟨ret_int H0.out.symm, hb2⟩
  have H0 := Lib.hid h0
  cases hv : inB v 0 ((g.lives.length : Int) - 1)
  case false =>
    have H1 := Lib.hid (placeErr_v (t := t) h0 hv)
    simp only [inB, decide_eq_false_iff_not] at hv
    go_enter Tryz.func79, Tryz.ntmps79
    go_wp2_with fail
    refine (check_any _ _ _ _ g _ (hG.ext (by go_grown))).mono ?_
    rintro e w1 ⟨rfl, hb1⟩
    obtain ⟨B0, c1, c2, c3⟩ := (Blk.new w 25 (gC A c A' c' g)).go hb1
    have hb2 : Below w.heap.size w w1 := ext_trans (by go_grown) hb1
    go_wp2_with fail
    all_goals go_ret
    all_goals exact ⟨ret_int H1.out.symm, hb2⟩
  case true =>
    cases ht : inB t 0 (g.h - 1)
    case false =>
      have H1 := Lib.hid (placeErr_t h0 hv ht)
      simp only [inB, decide_eq_false_iff_not, decide_eq_true_eq] at hv ht
      obtain ⟨hv1, hv2⟩ := hv
      go_enter Tryz.func79, Tryz.ntmps79
      go_wp2_with fail
      refine (check_any _ _ _ _ g _ (hG.ext (by go_grown))).mono ?_
      rintro e w1 ⟨rfl, hb1⟩
      obtain ⟨B0, c1, c2, c3⟩ := (Blk.new w 25 (gC A c A' c' g)).go hb1
      have hb2 : Below w.heap.size w w1 := ext_trans (by go_grown) hb1
      go_wp2_with fail
      all_goals go_ret
      all_goals exact ⟨ret_int H1.out.symm, hb2⟩
    case true =>
      have H1 := Lib.hid (placeErr_0 h0 hv ht)
      simp only [inB, decide_eq_true_eq] at hv ht
      obtain ⟨hv1, hv2⟩ := hv
      obtain ⟨ht1, ht2⟩ := ht
      go_enter Tryz.func79, Tryz.ntmps79
      go_wp2_with fail
      refine (check_any _ _ _ _ g _ (hG.ext (by go_grown))).mono ?_
      rintro e w1 ⟨rfl, hb1⟩
      obtain ⟨B0, c1, c2, c3⟩ := (Blk.new w 25 (gC A c A' c' g)).go hb1
      have hb2 : Below w.heap.size w w1 := ext_trans (by go_grown) hb1
      go_wp2_with fail
      go_ret
      exact ⟨ret_int H1.out.symm, hb2⟩

/-- The three results of Lands. -/
def landsR (o : Option (LegD × Int)) : Value := match o with
  | some (l, to) => .tuple #[.int .i64 to, .int .i64 l.cost, .bool true]
  | none => .tuple #[.int .i64 0, .int .i64 0, .bool false]

end Go.Proofs.YtdpibehpmghghaaGreat
/- The walk of the document's Go: it tells what goR tells. -/
namespace Go.Proofs.YtdpibehpmghghaaGreat
open Go.RowKit

/-- What the loop knows: where one is (ok), or that the list is no journey. -/
def GoInv (g : GraphD) (v t : Int) (l : List HopD) (n : Nat) (x y z : Int) (ok : Bool) : Prop :=
  (ok = true → aliveB g v t = true ∧ 0 ≤ z ∧ z ≤ 1000 * n ∧ goL g x y z (l.drop n) = goL g v t 0 l) ∧ (ok = false → goR g v t l = (0, 0, 0, 5))

end Go.Proofs.YtdpibehpmghghaaGreat
/- The walk of journey.Go: it tells what goR tells. -/
namespace Go.Proofs.YtdpibehpmghghaaGreat
open Go.RowKit

theorem arrive_no_any (A A' L : Option Addr) (c c' cl : Nat) (g : GraphD) (x : EdgeD) (t : Int) (w : World) (hG : GraphAt w A c A' c' g) (hV : Valid g) (hx : EdgeOk g x)
    (hL : SlAt RLeg 4 w L x.legs) (hl : x.legs.length ≤ maxLen) (ht : I64 t) (h : arrive g x t = none) :
    Calls Tryz.prog 80 #[gV A c A' c' g, edgeV L cl x, .int .i64 t] w fun e w' => e = .returned (.tuple #[legV ⟨0, 0, 0, 0⟩, .int .i64 0, .bool false]) ∧ Below w.heap.size w w' :=
  (arrive_any A A' L c c' cl g x t w hG hV hx hL hl ht).mono fun e w' ⟨he, hb⟩ => ⟨by rw [he, h]; rfl, hb⟩
theorem arrive_yes_any (A A' L : Option Addr) (c c' cl : Nat) (g : GraphD) (x : EdgeD) (t : Int) (lg : LegD) (to : Int) (w : World) (hG : GraphAt w A c A' c' g) (hV : Valid g) (hx : EdgeOk g x)
    (hL : SlAt RLeg 4 w L x.legs) (hl : x.legs.length ≤ maxLen) (ht : I64 t) (h : arrive g x t = some (lg, to)) :
    Calls Tryz.prog 80 #[gV A c A' c' g, edgeV L cl x, .int .i64 t] w fun e w' => e = .returned (.tuple #[legV lg, .int .i64 to, .bool true]) ∧ Below w.heap.size w w' :=
  (arrive_any A A' L c c' cl g x t w hG hV hx hL hl ht).mono fun e w' ⟨he, hb⟩ => ⟨by rw [he, h]; rfl, hb⟩

end Go.Proofs.YtdpibehpmghghaaGreat
/- The walks of journey.Out and of the document's Outs: they tell the same list. -/
namespace Go.Proofs.YtdpibehpmghghaaGreat
open Go.RowKit

theorem info_hop : (Tryz.prog.info? 95).map (fun i => (i.zero, i.size, i.bytes)) = some (some (.agg #[.int .i64 0, .int .i64 0]), 2, 16) := by kernel_rfl
theorem hop_one {a b : Int} : ∀ u ∈ (#[.int .i64 a, .int .i64 b] : Array Value).toList, u.oneCell' = true := by simp [Value.oneCell']
theorem hopEnc_len (x : HopD) : (hopEnc x).length = 2 := rfl
/-- A list of hops and an error are told. -/
def HopsOut (l : List HopD) (er : Int) (w : World) (e : Ending) (w' : World) : Prop := ∃ A c, e = .returned (.tuple #[.slice A l.length c, .int .i64 er]) ∧ SlAt RHop 2 w' A l ∧ l.length ≤ maxLen ∧ Below w.heap.size w w'
def HopsOut1 (l : List HopD) (w : World) (e : Ending) (w' : World) : Prop := ∃ A c, e = .returned (.slice A l.length c) ∧ SlAt RHop 2 w' A l ∧ l.length ≤ maxLen ∧ Below w.heap.size w w'
theorem own_hops {w : World} {base : Nat} {v : Value} {l : List HopD} (h : Own hopEnc 2 w base 95 v l) (hi : ∀ x, x ∈ l → I64 x.edge ∧ I64 x.depart) : ∃ A c, v = .slice A l.length c ∧ SlAt RHop 2 w A l :=
  h.slAt hopEnc_len fun x hx b o hc => ⟨⟨by simpa using hc 0 _ rfl, by simpa using hc 1 _ rfl⟩, hi x hx⟩
theorem outs_small {g : GraphD} {v t : Int} (hV : Valid g) (h0 : 0 ≤ t) (h1 : t < g.h) : (outs g v t).length ≤ 3000 ∧ ∀ x, x ∈ outs g v t → I64 x.edge ∧ I64 x.depart := by
  have hh := hV.h1; have hne := hV.ne
  unfold outs
  split
  · have hl := outsL_len (g := g) (v := v) (g.h - t).toNat t
    have hm : (g.h - t).toNat * g.edges.length ≤ 100 * 30 := Nat.mul_le_mul (by omega) hne
    refine ⟨by omega, fun x hx => ?_⟩
    obtain ⟨h2, h3, h4⟩ := (outsL_mem _ _).1 hx
    obtain ⟨_, k, y, hk, he, _⟩ := (outsAt_mem _ _).1 h4
    have := lt_of_get hk
    exact ⟨⟨by omega, by omega⟩, by unfold I64; omega⟩
  · exact ⟨by simp, by simp⟩

end Go.Proofs.YtdpibehpmghghaaGreat
/- The walk of journey.Out. -/
namespace Go.Proofs.YtdpibehpmghghaaGreat
open Go.RowKit

set_option maxRecDepth 100000 in
set_option maxHeartbeats 4000000 in
theorem out_main (A A' : Option Addr) (c c' : Nat) (g : GraphD) (v t : Int) (w : World) (hG : GraphAt w A c A' c' g) (h0 : placeErr g v t = 0) :
    Calls Tryz.prog 56 #[gV A c A' c' g, .int .i64 v, .int .i64 t] w (HopsOut (outs g v t) 0 w) := by
  obtain ⟨hV, hv, ht⟩ := place_of h0
  obtain ⟨hv0, hv1⟩ := hv
  obtain ⟨ht0, ht1⟩ := ht
  have hh := hV.h1
  have hne := hV.ne
  have HSM := Lib.hid (outs_small (v := v) hV ht0 ht1)
  obtain ⟨i0, hi, hz0, hz1, hz2⟩ := info_parts info_hop
  have HO : Hid (outs g v t = if aliveB g v t = true then outsL g v (g.h - t).toNat t else []) := Lib.hid rfl
  go_enter Tryz.func56, Tryz.ntmps56
  go_wp2_with fail
  refine (checkPlace_any _ _ _ _ g v t _ (hG.ext (by go_grown))).mono ?_
  rintro e w1 ⟨rfl, hb1⟩
  obtain ⟨B0, c1, c2, c3⟩ := (Blk.new w 25 (gC A c A' c' g)).go hb1
  have hb2 : Below (w.heap.size + 1) (w.alloc (.cells (gC A c A' c' g) 25)) w1 := by simpa using hb1
  go_wp2_with fail
  clear c1 c2 c3 hb1 h0
  go_loopw [9, 10] (fun o d wr => ∃ (n : Nat) (y : Int) (acc : List HopD), n ≤ 100 ∧ d = .int .i64 y ∧ y + n = g.h ∧ 0 ≤ y ∧ Hid (acc ++ (if aliveB g v t = true then outsL g v n y else []) = outs g v t) ∧ Own hopEnc 2 wr (w.heap.size + 1) 95 o acc ∧ Below (w.heap.size + 1) (w.alloc (.cells (gC A c A' c' g) 25)) wr)
    (fun _ d _ => (g.h - intOf d).toNat)
  case atStart => exact ⟨(g.h - t).toNat, t, [], by omega, rfl, by omega, ht0, Lib.hid (by rw [HO.out]; rfl), Own.nil, hb2⟩
  case round =>
    clear hb2 B0
    obtain ⟨n, y, acc, hn, rfl, hny, hy0, HI, hown, hb⟩ := hrel
    have hbw : Below w.heap.size w wr := (Below.refl _ _).alloc (Nat.le_refl _) _ |>.trans (hb.mono (by omega))
    have B0 := (Blk.new w 25 (gC A c A' c' g)).below hb (by omega)
    obtain ⟨b1, b2, b3⟩ := B0.facts
    have hzr : w.heap.size + 1 ≤ wr.heap.size := by have := hb.size; simpa using this
    go_wp2_with fail
    refine (alive_any _ _ _ _ g v t _ (hG.ext hbw) hv0 hv1).mono ?_
    rintro e wc ⟨rfl, hbc⟩
    obtain ⟨B0c, b1c, b2c, b3c⟩ := B0.go hbc
    have hownc := hown.ext hbc
    have hbC := hb.trans (hbc.mono hzr)
    have hbwc := ext_trans hbw hbc
    have hzc := hbc.size
    clear hown hb hbw B0 b1 b2 b3 hbc
    cases hal : aliveB g v t
    case false =>
      have hE : Hid (acc = outs g v t) := Lib.hid (by have := HI.out; rw [hal] at this; simpa using this)
      go_wp2_with fail
      go_ret2
      obtain ⟨Ao, co, rfl, hS⟩ := own_hops hownc (by rw [hE.out]; exact HSM.out.2)
      rw [hE.out] at hS ⊢
      exact ⟨Ao, co, rfl, hS, Nat.le_trans HSM.out.1 (by unfold maxLen; omega), hbwc⟩
    have HI3 : Hid (acc ++ outsL g v n y = outs g v t) := Lib.hid (by have := HI.out; rw [hal] at this; simpa using this)
    clear HI
    by_cases hlt : y < g.h
    case neg =>
      have hE : Hid (acc = outs g v t) := Lib.hid (by
        obtain rfl : n = 0 := by omega
        simpa [outsL] using HI3.out)
      go_wp2_with fail
      go_ret2
      obtain ⟨Ao, co, rfl, hS⟩ := own_hops hownc (by rw [hE.out]; exact HSM.out.2)
      rw [hE.out] at hS ⊢
      exact ⟨Ao, co, rfl, hS, Nat.le_trans HSM.out.1 (by unfold maxLen; omega), hbwc⟩
    obtain ⟨m, rfl⟩ : ∃ m, n = m + 1 := ⟨n - 1, by omega⟩
    go_wp2_with fail
    have HAL := Lib.hid hal
    clear hal b1c b2c b3c
    go_loopw [9, 39] (fun o k wr => ∃ (j : Nat) (acc2 : List HopD), j ≤ g.edges.length ∧ k = .int .i64 j ∧ Hid (acc2 ++ (outsAt g v y j (g.edges.drop j) ++ outsL g v m (y + 1)) = outs g v t) ∧ Own hopEnc 2 wr (w.heap.size + 1) 95 o acc2 ∧ Below (w.heap.size + 1) (w.alloc (.cells (gC A c A' c' g) 25)) wr)
      (fun _ k _ => g.edges.length - (intOf k).toNat)
    case atStart => exact ⟨0, acc, Nat.zero_le _, rfl, Lib.hid (by rw [← HI3.out, outsL]; rfl), hownc, hbC⟩
    case round =>
      clear hownc HI3 hbC hbwc B0c
      obtain ⟨j, acc2, hj, rfl, HI, hown, hb⟩ := hrel
      have hbw : Below w.heap.size w wr := (Below.refl _ _).alloc (Nat.le_refl _) _ |>.trans (hb.mono (by omega))
      have B0 := (Blk.new w 25 (gC A c A' c' g)).below hb (by omega)
      obtain ⟨b1, b2, b3⟩ := B0.facts
      have hzw : w.heap.size + 1 ≤ wr.heap.size := by have := hb.size; simpa using this
      have hacc : acc2.length ≤ 3000 := by
        have h1 := HSM.out.1
        rw [← HI.out, List.length_append] at h1
        omega
      by_cases hltj : j < g.edges.length
      case neg =>
        go_wp2_with fail
        go_roundw
        case rel =>
          refine ⟨m, y + 1, acc2, by omega, by go_num, by omega, by omega, Lib.hid ?_, hown, hb⟩
          rw [← HI.out, drop_end (by omega), HAL.out]
          rfl
        case measure => simp [intOf]; omega
      obtain ⟨x, hx⟩ := get_lt hltj
      have hxe : EdgeOk g x := hV.edges x (List.mem_of_getElem? hx)
      obtain ⟨be, oe, hE⟩ := hG.edges
      obtain ⟨rfl, hbe, ⟨⟨x0, x1, L, cl, x2, hl1, hl2, hL⟩, _⟩⟩ := hE _ x hx
      have k0 := x0.now hbw
      have k1 := x1.now hbw
      have k2 := x2.now hbw
      have hll : x.legs.length ≤ maxLen := Nat.le_trans hl1 hl2
      have hd := drop_cons hx
      have HI2 : Hid (acc2 ++ (outsAt g v y j (x :: g.edges.drop (j + 1)) ++ outsL g v m (y + 1)) = outs g v t) := by rw [← hd]; exact HI
      have hyI : I64 y := ⟨by omega, by omega⟩
      clear hE hx hd HI x0 x1 x2
      have hbq : Below w.heap.size w (wr.alloc (Obj.cells #[.int .i64 x.a, .int .i64 x.b, .slice L x.legs.length cl] 60)) := ext_alloc hbw _
      have hbq2 : Below (w.heap.size + 1) wr (wr.alloc (Obj.cells #[.int .i64 x.a, .int .i64 x.b, .slice L x.legs.length cl] 60)) := (Below.refl _ _).alloc hzw _
      cases har : arrive g x y with
      | none =>
        have HAR := Lib.hid har
        have HB := Lib.hid (leavesB_none (v := v) har)
        clear har
        go_wp2_with fail
        refine (arrive_no_any _ _ L _ _ cl g x y _ (hG.ext hbq) hV hxe (hL.ext RLeg.stable hbq) hll hyI HAR.out).mono ?_
        rintro e w5 ⟨rfl, hb5⟩
        have hb6 : Below (w.heap.size + 1) wr w5 := hbq2.trans (hb5.mono (by simp; omega))
        go_wp2_with fail
        go_roundw
        case rel => exact ⟨j + 1, acc2, by omega, by go_num, Lib.hid (by rw [← HI2.out, outsAt_no HB.out]), ((hown.alloc _).ext hb5).alloc _, (hb.trans hb6).alloc (by have := hb6.size; omega) _⟩
        case measure => simp [intOf]; omega
      | some p =>
        obtain ⟨lg, to⟩ := p
        have HAR := Lib.hid har
        by_cases hxa : x.a = v
        case neg =>
          have HB := Lib.hid (leavesB_other (g := g) (d := y) hxa)
          clear har
          go_wp2_with fail
          refine (arrive_yes_any _ _ L _ _ cl g x y lg to _ (hG.ext hbq) hV hxe (hL.ext RLeg.stable hbq) hll hyI HAR.out).mono ?_
          rintro e w5 ⟨rfl, hb5⟩
          obtain ⟨B1, f1, f2, f3⟩ := (Blk.new wr 60 #[.int .i64 x.a, .int .i64 x.b, .slice L x.legs.length cl]).go hb5
          have hb6 : Below (w.heap.size + 1) wr w5 := hbq2.trans (hb5.mono (by simp; omega))
          go_wp2_with fail
          go_roundw
          case rel => exact ⟨j + 1, acc2, by omega, by go_num, Lib.hid (by rw [← HI2.out, outsAt_no HB.out]), ((hown.alloc _).ext hb5).alloc _, (hb.trans hb6).alloc (by have := hb6.size; omega) _⟩
          case measure => simp [intOf]; omega
        case pos =>
          have HB := Lib.hid (leavesB_some har hxa)
          clear har
          have hxe2 : (x.a == v) = true := by simp [hxa]
          clear hxa
          go_wp2_with fail
          refine (arrive_yes_any _ _ L _ _ cl g x y lg to _ (hG.ext hbq) hV hxe (hL.ext RLeg.stable hbq) hll hyI HAR.out).mono ?_
          rintro e w5 ⟨rfl, hb5⟩
          obtain ⟨B1, f1, f2, f3⟩ := (Blk.new wr 60 #[.int .i64 x.a, .int .i64 x.b, .slice L x.legs.length cl]).go hb5
          have hb6 : Below (w.heap.size + 1) wr w5 := hbq2.trans (hb5.mono (by simp; omega))
          have hown5 := ((hown.alloc (Obj.cells #[.int .i64 x.a, .int .i64 x.b, .slice L x.legs.length cl] 60)).ext hb5).alloc (Obj.cells #[.int .i64 lg.f, .int .i64 lg.t, .int .i64 lg.time, .int .i64 lg.cost] 77)
          have hz5 := hb6.size
          have hb7 := (hb.trans hb6).alloc (show w.heap.size + 1 ≤ w5.heap.size by omega) (Obj.cells #[.int .i64 lg.f, .int .i64 lg.t, .int .i64 lg.time, .int .i64 lg.cost] 77)
          go_wp2_with (at_builtin; refine wpList_append_el (enc := hopEnc) rfl (.tmp 59) (.tmp 63) 89 rfl (w.heap.size + 1) 95 i0 _ 2 16 Tryz.underlying89 hi hz0 hz1 hz2 rfl (by decide) _ acc2 ⟨j, y⟩ rfl hown5 _ rfl _ (by simp) rfl rfl hop_one (by omega) (by decide) (by simp; omega) ?_; intro v' w6 hown6 hb8)
          go_roundw
          case rel => exact ⟨j + 1, acc2 ++ [⟨j, y⟩], by omega, by go_num, Lib.hid (by rw [← HI2.out, outsAt_yes HB.out]; simp), hown6, hb7.trans hb8⟩
          case measure => simp [intOf]; omega

set_option maxHeartbeats 400000 in
theorem out_any (A A' : Option Addr) (c c' : Nat) (g : GraphD) (v t : Int) (w : World) (hG : GraphAt w A c A' c' g) :
    Calls Tryz.prog 56 #[gV A c A' c' g, .int .i64 v, .int .i64 t] w (HopsOut (outR g v t) (placeErr g v t) w) := by
  by_cases h0 : placeErr g v t = 0
  · have e1 : outR g v t = outs g v t := by simp [outR, h0]
    rw [e1, h0]
    exact out_main A A' c c' g v t w hG h0
  have e1 : outR g v t = [] := by simp [outR, h0]
  have E1 := Lib.hid e1
  have hn := neq_of' h0
  clear h0 e1
  go_enter Tryz.func56, Tryz.ntmps56
  go_wp2_with fail
  refine (checkPlace_any _ _ _ _ g v t _ (hG.ext (by go_grown))).mono ?_
  rintro e w1 ⟨rfl, hb1⟩
  have hb2 : Below w.heap.size w w1 := ext_trans (by go_grown) hb1
  go_wp2_with fail
  go_ret2
  rw [E1.out]
  exact ⟨none, 0, rfl, SlAt.nil, by simp, hb2⟩
end Go.Proofs.YtdpibehpmghghaaGreat
/- The walk of journey.Go behind its checks. -/
namespace Go.Proofs.YtdpibehpmghghaaGreat
open Go.RowKit

end Go.Proofs.YtdpibehpmghghaaGreat
/- The walk of the law JourneyGoes: both Go's tell the same. -/
namespace Go.Proofs.YtdpibehpmghghaaGreat
open Go.RowKit

end Go.Proofs.YtdpibehpmghghaaGreat
/- The walks of the library's slices.Equal, at hops, ints, bools and lives. -/
namespace Go.Proofs.YtdpibehpmghghaaGreat
open Go.RowKit

theorem take_eq_ofA {α : Type} {a b : List α} (hl : a.length = b.length) {k : Nat} (hk : a.length ≤ k) (h : a.take k = b.take k) : a = b := by
  rwa [List.take_of_length_le hk, List.take_of_length_le (by omega)] at h
theorem take_stepA {α : Type} {a b : List α} {k : Nat} {x y : α} (hx : a[k]? = some x) (hy : b[k]? = some y) (h : a.take k = b.take k) (hxy : x = y) : a.take (k + 1) = b.take (k + 1) := by
  rw [List.take_add_one, List.take_add_one, hx, hy, h, hxy]
theorem ne_of_getA {α : Type} {a b : List α} {k : Nat} {x y : α} (hx : a[k]? = some x) (hy : b[k]? = some y) (hxy : ¬ x = y) : ¬ a = b := by
  rintro rfl
  rw [hx] at hy
  exact hxy (by simpa using hy)

set_option maxHeartbeats 1000000 in
theorem equalInts_anyA (A B : Option Addr) (c d : Nat) (a b : List Int) (w : World) (hA : SlAt RInt 1 w A a) (hB : SlAt RInt 1 w B b) (ha : a.length ≤ maxLen) (_ : b.length ≤ maxLen) :
    Calls Tryz.prog 54 #[.slice A a.length c, .slice B b.length d] w fun e w' => e = .returned (.bool (decide (a = b))) ∧ Below w.heap.size w w' := by
  unfold maxLen at ha
  by_cases hl : a.length = b.length
  case neg =>
    have hne : ((a.length : Int) != (b.length : Int)) = true := by simp; omega
    go_enter Tryz.func54, Tryz.ntmps54
    go_wp2_with fail
    go_ret
    exact ⟨ret_bool (by symm; simp; intro h; exact hl (by rw [h])), Below.refl _ _⟩
  have hne : ((a.length : Int) != (b.length : Int)) = false := by simp; omega
  obtain ⟨ba, oa, hA⟩ := hA
  obtain ⟨bb, ob, hB⟩ := hB
  have HL := Lib.hid hl
  have hl1 : a.length ≤ b.length := by omega
  have hl2 : b.length ≤ a.length := by omega
  clear hl
  go_enter Tryz.func54, Tryz.ntmps54
  go_wp2_with fail
  go_loopw [13] (fun v wr => ∃ k : Nat, k ≤ a.length ∧ v = .int .i64 k ∧ Hid (a.take k = b.take k) ∧ Below w.heap.size w wr) (fun v _ => a.length - (intOf v).toNat)
  case atStart => exact ⟨0, Nat.zero_le _, rfl, Lib.hid (by simp), Below.refl _ _⟩
  case round =>
    obtain ⟨k, hk, rfl, HI, hw⟩ := hrel
    by_cases hlt : k < a.length
    · obtain ⟨x, hx⟩ := get_lt hlt
      obtain ⟨y, hy⟩ := get_lt (show k < b.length by omega)
      obtain ⟨rfl, hba, x0, _⟩ := hA k x hx
      obtain ⟨rfl, hbb, y0, _⟩ := hB k y hy
      have x1 := x0.now hw
      have y1 := y0.now hw
      simp only [Nat.mul_one] at x1 y1
      have HX := Lib.hid hx
      have HY := Lib.hid hy
      have hlt2 : k < b.length := by omega
      clear hA hB hx hy x0 y0
      by_cases hxy : x = y
      · have HXY := Lib.hid hxy
        have hn : (x != y) = false := by simp [hxy]
        clear hxy
        go_wp2_with fail
        go_quiet (fail)
        go_wp2
        go_roundw
        case rel => exact ⟨k + 1, by omega, by go_num, Lib.hid (take_stepA HX.out HY.out HI.out HXY.out), below_drewN hw _⟩
        case measure => simp [intOf]; omega
      · have HXY := Lib.hid hxy
        have hn : (x != y) = true := by simp [hxy]
        clear hxy
        go_wp2_with fail
        go_quiet (fail)
        go_wp2
        go_ret
        exact ⟨ret_bool (by symm; simp; exact ne_of_getA HX.out HY.out HXY.out), below_drewN hw _⟩
    · go_wp2_with fail
      go_ret
      exact ⟨ret_bool (by symm; simp; exact take_eq_ofA HL.out (by omega) HI.out), hw⟩

abbrev ivlVA (x : IvlD) : Value := .agg #[.int .i64 x.f, .int .i64 x.t]
theorem fields_hop : Tryz.prog.underlying 95 = some (.struct (Tryz.prog.fieldsOf 95)) := by kernel_rfl
theorem guard_hop : Tryz.prog.eqGuardType Tryz.prog.depth 95 = false := by kernel_rfl
theorem held_hop : Tryz.prog.stoodInHeld 95 = false := by kernel_rfl
theorem same_hop (x y : HopD) (w : World) : (Op.equalIn 10000 95 (hopV x) (hopV y)).run Tryz.prog w = .ok (decide (x = y)) w := by
  have e : decide (x = y) = decide (x.edge = y.edge ∧ x.depart = y.depart) := by rw [decide_eq_decide]; cases x; cases y; simp
  rw [e, run_equalIn_agg w 9999 95 _ _ fields_hop held_hop]
  have hf : (Tryz.prog.fieldsOf 95).toList = (match Tryz.prog.underlying 95 with | some (.struct fs) => fs.toList | _ => []) := by kernel_rfl
  rw [hf, Tryz.underlying95]
  simp [Op.eqFields, go_sem]
  by_cases hedge : x.edge = y.edge <;> by_cases hdepart : x.depart = y.depart <;> simp [*]
set_option maxHeartbeats 1000000 in
theorem equalHops_any (A B : Option Addr) (c d : Nat) (a b : List HopD) (w : World) (hA : SlAt RHop 2 w A a) (hB : SlAt RHop 2 w B b) (ha : a.length ≤ maxLen) (_ : b.length ≤ maxLen) :
    Calls Tryz.prog 55 #[.slice A a.length c, .slice B b.length d] w fun e w' => e = .returned (.bool (decide (a = b))) ∧ Below w.heap.size w w' := by
  unfold maxLen at ha
  by_cases hl : a.length = b.length
  case neg =>
    have hne : ((a.length : Int) != (b.length : Int)) = true := by simp; omega
    go_enter Tryz.func55, Tryz.ntmps55
    go_wp2_with fail
    go_ret
    exact ⟨ret_bool (by symm; simp; intro h; exact hl (by rw [h])), Below.refl _ _⟩
  have hne : ((a.length : Int) != (b.length : Int)) = false := by simp; omega
  obtain ⟨ba, oa, hA⟩ := hA
  obtain ⟨bb, ob, hB⟩ := hB
  have HL := Lib.hid hl
  have hl1 : a.length ≤ b.length := by omega
  have hl2 : b.length ≤ a.length := by omega
  clear hl
  go_enter Tryz.func55, Tryz.ntmps55
  go_wp2_with fail
  go_loopw [13] (fun v wr => ∃ k : Nat, k ≤ a.length ∧ v = .int .i64 k ∧ Hid (a.take k = b.take k) ∧ Below w.heap.size w wr) (fun v _ => a.length - (intOf v).toNat)
  case atStart => exact ⟨0, Nat.zero_le _, rfl, Lib.hid (by simp), Below.refl _ _⟩
  case round =>
    obtain ⟨k, hk, rfl, HI, hw⟩ := hrel
    by_cases hlt : k < a.length
    · obtain ⟨x, hx⟩ := get_lt hlt
      obtain ⟨y, hy⟩ := get_lt (show k < b.length by omega)
      obtain ⟨rfl, hba, ⟨x0, x1⟩, _⟩ := hA k x hx
      obtain ⟨rfl, hbb, ⟨y0, y1⟩, _⟩ := hB k y hy
      have x0' := x0.now hw
      have y0' := y0.now hw
      have x1' := x1.now hw
      have y1' := y1.now hw
      have HX := Lib.hid hx
      have HY := Lib.hid hy
      have hlt2 : k < b.length := by omega
      clear hA hB hx hy x0 y0 x1 y1
      by_cases hxy : x = y
      · have HXY := Lib.hid hxy
        have hn : decide (x = y) = true := by simp [hxy]
        have hs := same_hop x y
        rw [hn] at hs
        have hgd := guard_hop
        clear hxy
        go_wp2_with fail
        go_quiet (fail)
        go_wp2
        go_roundw
        case rel => exact ⟨k + 1, by omega, by go_num, Lib.hid (take_stepA HX.out HY.out HI.out HXY.out), below_drewN hw _⟩
        case measure => simp [intOf]; omega
      · have HXY := Lib.hid hxy
        have hn : decide (x = y) = false := by simp [hxy]
        have hs := same_hop x y
        rw [hn] at hs
        have hgd := guard_hop
        clear hxy
        go_wp2_with fail
        go_quiet (fail)
        go_wp2
        go_ret
        exact ⟨ret_bool (by symm; simp; exact ne_of_getA HX.out HY.out HXY.out), below_drewN hw _⟩
    · go_wp2_with fail
      go_ret
      exact ⟨ret_bool (by symm; simp; exact take_eq_ofA HL.out (by omega) HI.out), hw⟩

theorem fields_ivlA : Tryz.prog.underlying 107 = some (.struct (Tryz.prog.fieldsOf 107)) := by kernel_rfl
theorem guard_ivlA : Tryz.prog.eqGuardType Tryz.prog.depth 107 = false := by kernel_rfl
theorem held_ivlA : Tryz.prog.stoodInHeld 107 = false := by kernel_rfl
theorem same_ivlA (x y : IvlD) (w : World) : (Op.equalIn 10000 107 (ivlVA x) (ivlVA y)).run Tryz.prog w = .ok (decide (x = y)) w := by
  have e : decide (x = y) = decide (x.f = y.f ∧ x.t = y.t) := by rw [decide_eq_decide]; cases x; cases y; simp
  rw [e, run_equalIn_agg w 9999 107 _ _ fields_ivlA held_ivlA]
  have hf : (Tryz.prog.fieldsOf 107).toList = (match Tryz.prog.underlying 107 with | some (.struct fs) => fs.toList | _ => []) := by kernel_rfl
  rw [hf, Tryz.underlying107]
  simp [Op.eqFields, go_sem]
  by_cases hf : x.f = y.f <;> by_cases ht : x.t = y.t <;> simp [*]
theorem fields_leg : Tryz.prog.underlying 77 = some (.struct (Tryz.prog.fieldsOf 77)) := by kernel_rfl
theorem guard_leg : Tryz.prog.eqGuardType Tryz.prog.depth 77 = false := by kernel_rfl
theorem held_leg : Tryz.prog.stoodInHeld 77 = false := by kernel_rfl
theorem same_leg (x y : LegD) (w : World) : (Op.equalIn 10000 77 (legV x) (legV y)).run Tryz.prog w = .ok (decide (x = y)) w := by
  have e : decide (x = y) = decide (x.f = y.f ∧ x.t = y.t ∧ x.time = y.time ∧ x.cost = y.cost) := by rw [decide_eq_decide]; cases x; cases y; simp
  rw [e, run_equalIn_agg w 9999 77 _ _ fields_leg held_leg]
  have hf : (Tryz.prog.fieldsOf 77).toList = (match Tryz.prog.underlying 77 with | some (.struct fs) => fs.toList | _ => []) := by kernel_rfl
  rw [hf, Tryz.underlying77]
  simp [Op.eqFields, go_sem]
  by_cases hf : x.f = y.f <;> by_cases ht : x.t = y.t <;> by_cases htime : x.time = y.time <;> by_cases hcost : x.cost = y.cost <;> simp [*]
end Go.Proofs.YtdpibehpmghghaaGreat
/- The walks of small things that the keeping laws begin with: the graph of a pair, the rest of a division, a hop among others, goes. -/
namespace Go.Proofs.YtdpibehpmghghaaGreat
open Go.RowKit

def pairG : GraphD := ⟨10, [⟨0, 10⟩, ⟨2, 9⟩], [⟨0, 1, [⟨1, 4, 3, 7⟩]⟩]⟩
def GraphOut (g : GraphD) (w : World) (e : Ending) (w' : World) : Prop := ∃ A c A' c', e = .returned (gV A c A' c' g) ∧ GraphAt w' A c A' c' g ∧ Below w.heap.size w w'
theorem slAt1 {α : Type} {R : World → Nat → Nat → α → Prop} {sz : Nat} {w : World} {b : Nat} {x : α} (hb : b < w.heap.size) (h : R w b 0 x) : SlAt R sz w (some ⟨b, 0, none⟩) [x] :=
  ⟨b, 0, fun i y hy => by
    cases i with
    | zero =>
      obtain rfl : x = y := by simpa using hy
      exact ⟨rfl, hb, by simpa using h⟩
    | succ i => simp at hy⟩
theorem slAt2 {α : Type} {R : World → Nat → Nat → α → Prop} {sz : Nat} {w : World} {b : Nat} {x y : α} (hb : b < w.heap.size) (h : R w b 0 x) (h2 : R w b sz y) : SlAt R sz w (some ⟨b, 0, none⟩) [x, y] :=
  ⟨b, 0, fun i z hz => by
    match i, hz with
    | 0, hz =>
      obtain rfl : x = z := by simpa using hz
      exact ⟨rfl, hb, by simpa using h⟩
    | 1, hz =>
      obtain rfl : y = z := by simpa using hz
      exact ⟨rfl, hb, by simpa using h2⟩
    | i + 2, hz => simp at hz⟩

set_option maxHeartbeats 1000000 in
theorem pair_any (w : World) : Calls Tryz.prog 31 #[] w (GraphOut pairG w) := by
  go_enter Tryz.func31, Tryz.ntmps31
  go_wp2
  refine bodyPost_ret (v := gV (some ⟨w.heap.size + 1, 0, none⟩) 2 (some ⟨w.heap.size + 3, 0, none⟩) 1 pairG) (by simp [results, Tryz.results31, go_sem, pairG]) rfl ?_
  refine ⟨some ⟨w.heap.size + 1, 0, none⟩, 2, some ⟨w.heap.size + 3, 0, none⟩, 1, rfl, ⟨by simp [I64, pairG], by simp [pairG], by simp [maxLen], by simp [pairG], by simp [maxLen], ?_, ?_⟩, by go_grown⟩
  · refine slAt2 (by simp) ?_ ?_ <;> simp [RIvl, cellIs, I64, go_sem]
  · refine slAt1 (by simp) ⟨⟨by simp [cellIs, go_sem], by simp [cellIs, go_sem], some ⟨w.heap.size + 2, 0, none⟩, 1, by simp [cellIs, go_sem], by simp, by simp [maxLen], slAt1 (by simp) (by simp [RLeg, cellIs, I64, go_sem])⟩, by simp [I64], by simp [I64]⟩

end Go.Proofs.YtdpibehpmghghaaGreat
/- The walk of spoil at pieces: the list's own block alone is written. -/
namespace Go.Proofs.YtdpibehpmghghaaGreat
open Go.RowKit

/-! ### spoil, piece -/
end Go.Proofs.YtdpibehpmghghaaGreat
