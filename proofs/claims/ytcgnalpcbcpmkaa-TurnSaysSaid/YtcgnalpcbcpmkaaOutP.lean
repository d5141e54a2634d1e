/- The walk of journey.Out. -/
import Derived.Test.YtcgnalpcbcpmkaaOut
namespace Go.Proofs.Ytcgnalpcbcpmkaa
open Go.RowKit

set_option maxRecDepth 100000 in
set_option maxHeartbeats 4000000 in
theorem out_main (A A' : Option Addr) (c c' : Nat) (g : GraphD) (v t : Int) (w : World) (hG : GraphAt w A c A' c' g) (h0 : placeErr g v t = 0) :
    Calls Try.prog 38 #[gV A c A' c' g, .int .i64 v, .int .i64 t] w (HopsOut (outs g v t) 0 w) := by
  obtain ⟨hV, hv, ht⟩ := place_of h0
  obtain ⟨hv0, hv1⟩ := hv
  obtain ⟨ht0, ht1⟩ := ht
  have hh := hV.h1
  have hne := hV.ne
  have HSM := Lib.hid (outs_small (v := v) hV ht0 ht1)
  obtain ⟨i0, hi, hz0, hz1, hz2⟩ := info_parts info_hop
  have HO : Hid (outs g v t = if aliveB g v t = true then outsL g v (g.h - t).toNat t else []) := Lib.hid rfl
  go_enter Try.func38, Try.ntmps38
  go_wp2_with fail
  refine (checkPlace_any _ _ _ _ g v t _ (hG.ext (by go_grown))).mono ?_
  rintro e w1 ⟨rfl, hb1⟩
  obtain ⟨B0, c1, c2, c3⟩ := (Blk.new w 28 (gC A c A' c' g)).go hb1
  have hb2 : Below (w.heap.size + 1) (w.alloc (.cells (gC A c A' c' g) 28)) w1 := by simpa using hb1
  go_wp2_with fail
  clear c1 c2 c3 hb1 h0
  go_loopw [9, 10] (fun o d wr => ∃ (n : Nat) (y : Int) (acc : List HopD), n ≤ 100 ∧ d = .int .i64 y ∧ y + n = g.h ∧ 0 ≤ y ∧ Hid (acc ++ (if aliveB g v t = true then outsL g v n y else []) = outs g v t) ∧ Own hopEnc 2 wr (w.heap.size + 1) 46 o acc ∧ Below (w.heap.size + 1) (w.alloc (.cells (gC A c A' c' g) 28)) wr)
    (fun _ d _ => (g.h - intOf d).toNat)
  case atStart => exact ⟨(g.h - t).toNat, t, [], by omega, rfl, by omega, ht0, Lib.hid (by rw [HO.out]; rfl), Own.nil, hb2⟩
  case round =>
    clear hb2 B0
    obtain ⟨n, y, acc, hn, rfl, hny, hy0, HI, hown, hb⟩ := hrel
    have hbw : Below w.heap.size w wr := (Below.refl _ _).alloc (Nat.le_refl _) _ |>.trans (hb.mono (by omega))
    have B0 := (Blk.new w 28 (gC A c A' c' g)).below hb (by omega)
    obtain ⟨b1, b2, b3⟩ := B0.facts
    have hzr : w.heap.size + 1 ≤ wr.heap.size := by have := hb.size; simpa using this
    go_wp2_with fail
    refine (alive_any _ _ _ _ g v t _ (hG.ext hbw) hv0 hv1).mono ?_
    rintro e wc ⟨rfl, hbc⟩
    obtain ⟨B0c, b1c, b2c, b3c⟩ := B0.go hbc
    have hownc := hown.ext hbc
    have hbC := hb.trans (hbc.mono hzr)
    have hbwc := ext_trans hbw hbc
    have hzc := hbc.size
    clear hown hb hbw B0 b1 b2 b3 hbc
    cases hal : aliveB g v t
    case false =>
      have hE : Hid (acc = outs g v t) := Lib.hid (by have := HI.out; rw [hal] at this; simpa using this)
      go_wp2_with fail
      go_ret2
      obtain ⟨Ao, co, rfl, hS⟩ := own_hops hownc (by rw [hE.out]; exact HSM.out.2)
      rw [hE.out] at hS ⊢
      exact ⟨Ao, co, rfl, hS, Nat.le_trans HSM.out.1 (by unfold maxLen; omega), hbwc⟩
    have HI3 : Hid (acc ++ outsL g v n y = outs g v t) := Lib.hid (by have := HI.out; rw [hal] at this; simpa using this)
    clear HI
    by_cases hlt : y < g.h
    case neg =>
      have hE : Hid (acc = outs g v t) := Lib.hid (by
        obtain rfl : n = 0 := by omega
        simpa [outsL] using HI3.out)
      go_wp2_with fail
      go_ret2
      obtain ⟨Ao, co, rfl, hS⟩ := own_hops hownc (by rw [hE.out]; exact HSM.out.2)
      rw [hE.out] at hS ⊢
      exact ⟨Ao, co, rfl, hS, Nat.le_trans HSM.out.1 (by unfold maxLen; omega), hbwc⟩
    obtain ⟨m, rfl⟩ : ∃ m, n = m + 1 := ⟨n - 1, by omega⟩
    go_wp2_with fail
    have HAL := Lib.hid hal
    clear hal b1c b2c b3c
    go_loopw [9, 39] (fun o k wr => ∃ (j : Nat) (acc2 : List HopD), j ≤ g.edges.length ∧ k = .int .i64 j ∧ Hid (acc2 ++ (outsAt g v y j (g.edges.drop j) ++ outsL g v m (y + 1)) = outs g v t) ∧ Own hopEnc 2 wr (w.heap.size + 1) 46 o acc2 ∧ Below (w.heap.size + 1) (w.alloc (.cells (gC A c A' c' g) 28)) wr)
      (fun _ k _ => g.edges.length - (intOf k).toNat)
    case atStart => exact ⟨0, acc, Nat.zero_le _, rfl, Lib.hid (by rw [← HI3.out, outsL]; rfl), hownc, hbC⟩
    case round =>
      clear hownc HI3 hbC hbwc B0c
      obtain ⟨j, acc2, hj, rfl, HI, hown, hb⟩ := hrel
      have hbw : Below w.heap.size w wr := (Below.refl _ _).alloc (Nat.le_refl _) _ |>.trans (hb.mono (by omega))
      have B0 := (Blk.new w 28 (gC A c A' c' g)).below hb (by omega)
      obtain ⟨b1, b2, b3⟩ := B0.facts
      have hzw : w.heap.size + 1 ≤ wr.heap.size := by have := hb.size; simpa using this
      have hacc : acc2.length ≤ 3000 := by
        have h1 := HSM.out.1
        rw [← HI.out, List.length_append] at h1
        omega
      by_cases hltj : j < g.edges.length
      case neg =>
        go_wp2_with fail
        go_roundw
        case rel =>
          refine ⟨m, y + 1, acc2, by omega, by go_num, by omega, by omega, Lib.hid ?_, hown, hb⟩
          rw [← HI.out, drop_end (by omega), HAL.out]
          rfl
        case measure => simp [intOf]; omega
      obtain ⟨x, hx⟩ := get_lt hltj
      have hxe : EdgeOk g x := hV.edges x (List.mem_of_getElem? hx)
      obtain ⟨be, oe, hE⟩ := hG.edges
      obtain ⟨rfl, hbe, ⟨⟨x0, x1, L, cl, x2, hl1, hl2, hL⟩, _⟩⟩ := hE _ x hx
      have k0 := x0.now hbw
      have k1 := x1.now hbw
      have k2 := x2.now hbw
      have hll : x.legs.length ≤ maxLen := Nat.le_trans hl1 hl2
      have hd := drop_cons hx
      have HI2 : Hid (acc2 ++ (outsAt g v y j (x :: g.edges.drop (j + 1)) ++ outsL g v m (y + 1)) = outs g v t) := by rw [← hd]; exact HI
      have hyI : I64 y := ⟨by omega, by omega⟩
      clear hE hx hd HI x0 x1 x2
      have hbq : Below w.heap.size w (wr.alloc (Obj.cells #[.int .i64 x.a, .int .i64 x.b, .slice L x.legs.length cl] 99)) := ext_alloc hbw _
      have hbq2 : Below (w.heap.size + 1) wr (wr.alloc (Obj.cells #[.int .i64 x.a, .int .i64 x.b, .slice L x.legs.length cl] 99)) := (Below.refl _ _).alloc hzw _
      cases har : arrive g x y with
      | none =>
        have HAR := Lib.hid har
        have HB := Lib.hid (leavesB_none (v := v) har)
        clear har
        go_wp2_with fail
        refine (arrive_no_any _ _ L _ _ cl g x y _ (hG.ext hbq) hV hxe (hL.ext RLeg.stable hbq) hll hyI HAR.out).mono ?_
        rintro e w5 ⟨rfl, hb5⟩
        have hb6 : Below (w.heap.size + 1) wr w5 := hbq2.trans (hb5.mono (by simp; omega))
        go_wp2_with fail
        go_roundw
        case rel => exact ⟨j + 1, acc2, by omega, by go_num, Lib.hid (by rw [← HI2.out, outsAt_no HB.out]), ((hown.alloc _).ext hb5).alloc _, (hb.trans hb6).alloc (by have := hb6.size; omega) _⟩
        case measure => simp [intOf]; omega
      | some p =>
        obtain ⟨lg, to⟩ := p
        have HAR := Lib.hid har
        by_cases hxa : x.a = v
        case neg =>
          have HB := Lib.hid (leavesB_other (g := g) (d := y) hxa)
          clear har
          go_wp2_with fail
          refine (arrive_yes_any _ _ L _ _ cl g x y lg to _ (hG.ext hbq) hV hxe (hL.ext RLeg.stable hbq) hll hyI HAR.out).mono ?_
          rintro e w5 ⟨rfl, hb5⟩
          obtain ⟨B1, f1, f2, f3⟩ := (Blk.new wr 99 #[.int .i64 x.a, .int .i64 x.b, .slice L x.legs.length cl]).go hb5
          have hb6 : Below (w.heap.size + 1) wr w5 := hbq2.trans (hb5.mono (by simp; omega))
          go_wp2_with fail
          go_roundw
          case rel => exact ⟨j + 1, acc2, by omega, by go_num, Lib.hid (by rw [← HI2.out, outsAt_no HB.out]), ((hown.alloc _).ext hb5).alloc _, (hb.trans hb6).alloc (by have := hb6.size; omega) _⟩
          case measure => simp [intOf]; omega
        case pos =>
          have HB := Lib.hid (leavesB_some har hxa)
          clear har
          have hxe2 : (x.a == v) = true := by simp [hxa]
          clear hxa
          go_wp2_with fail
          refine (arrive_yes_any _ _ L _ _ cl g x y lg to _ (hG.ext hbq) hV hxe (hL.ext RLeg.stable hbq) hll hyI HAR.out).mono ?_
          rintro e w5 ⟨rfl, hb5⟩
          obtain ⟨B1, f1, f2, f3⟩ := (Blk.new wr 99 #[.int .i64 x.a, .int .i64 x.b, .slice L x.legs.length cl]).go hb5
          have hb6 : Below (w.heap.size + 1) wr w5 := hbq2.trans (hb5.mono (by simp; omega))
          have hown5 := ((hown.alloc (Obj.cells #[.int .i64 x.a, .int .i64 x.b, .slice L x.legs.length cl] 99)).ext hb5).alloc (Obj.cells #[.int .i64 lg.f, .int .i64 lg.t, .int .i64 lg.time, .int .i64 lg.cost] 114)
          have hz5 := hb6.size
          have hb7 := (hb.trans hb6).alloc (show w.heap.size + 1 ≤ w5.heap.size by omega) (Obj.cells #[.int .i64 lg.f, .int .i64 lg.t, .int .i64 lg.time, .int .i64 lg.cost] 114)
          go_wp2_with (at_builtin; refine wpList_append_el (enc := hopEnc) rfl (.tmp 59) (.tmp 63) 36 rfl (w.heap.size + 1) 46 i0 _ 2 16 Try.underlying36 hi hz0 hz1 hz2 rfl (by decide) _ acc2 ⟨j, y⟩ rfl hown5 _ rfl _ (by simp) rfl rfl hop_one (by omega) (by decide) (by simp; omega) ?_; intro v' w6 hown6 hb8)
          go_roundw
          case rel => exact ⟨j + 1, acc2 ++ [⟨j, y⟩], by omega, by go_num, Lib.hid (by rw [← HI2.out, outsAt_yes HB.out]; simp), hown6, hb7.trans hb8⟩
          case measure => simp [intOf]; omega

set_option maxHeartbeats 400000 in
theorem out_any (A A' : Option Addr) (c c' : Nat) (g : GraphD) (v t : Int) (w : World) (hG : GraphAt w A c A' c' g) :
    Calls Try.prog 38 #[gV A c A' c' g, .int .i64 v, .int .i64 t] w (HopsOut (outR g v t) (placeErr g v t) w) := by
  by_cases h0 : placeErr g v t = 0
  · have e1 : outR g v t = outs g v t := by simp [outR, h0]
    rw [e1, h0]
    exact out_main A A' c c' g v t w hG h0
  have e1 : outR g v t = [] := by simp [outR, h0]
  have E1 := Lib.hid e1
  have hn := neq_of' h0
  clear h0 e1
  go_enter Try.func38, Try.ntmps38
  go_wp2_with fail
  refine (checkPlace_any _ _ _ _ g v t _ (hG.ext (by go_grown))).mono ?_
  rintro e w1 ⟨rfl, hb1⟩
  have hb2 : Below w.heap.size w w1 := ext_trans (by go_grown) hb1
  go_wp2_with fail
  go_ret2
  rw [E1.out]
  exact ⟨none, 0, rfl, SlAt.nil, by simp, hb2⟩
end Go.Proofs.Ytcgnalpcbcpmkaa
