/- The walk of journey.Go behind its checks. -/
import Derived.Test.YtcgnalpcbcpmkaaGo
namespace Go.Proofs.Ytcgnalpcbcpmkaa
open Go.RowKit

set_option maxRecDepth 100000 in
set_option maxHeartbeats 8000000 in
theorem go_main (A A' Ah : Option Addr) (c c' ch : Nat) (g : GraphD) (v t : Int) (l : List HopD) (w : World) (hG : GraphAt w A c A' c' g) (hH : SlAt RHop 2 w Ah l) (hhl : l.length ≤ maxLen)
    (h0 : placeErr g v t = 0) (h500 : ¬ 500 < l.length) (hal : aliveB g v t = true) :
    Calls Try.prog 36 #[gV A c A' c' g, .int .i64 v, .int .i64 t, .slice Ah l.length ch] w fun e w' => e = .returned (goV (goR g v t l)) ∧ Below w.heap.size w w' := by
  unfold maxLen at hhl
  obtain ⟨hV, hv, ht⟩ := place_of h0
  obtain ⟨hv0, hv1⟩ := hv
  obtain ⟨ht0, ht1⟩ := ht
  have hh := hV.h1
  have hne := hV.ne
  have HN := Lib.hid (fun h4 => goR_none h0 h500 hal h4)
  have HS := Lib.hid (fun a b c h4 => goR_some (a := a) (b := b) (c := c) h0 h500 hal h4)
  obtain ⟨bh, oh, hHp⟩ := hH
  go_enter Try.func36, Try.ntmps36
  go_wp2_with fail
  refine (checkPlace_any _ _ _ _ g v t _ (hG.ext (by go_grown))).mono ?_
  rintro e w1 ⟨rfl, hb1⟩
  obtain ⟨B0, c1, c2, c3⟩ := (Blk.new w 28 (gC A c A' c' g)).go hb1
  have hb2 : Below w.heap.size w w1 := ext_trans (by go_grown) hb1
  go_wp2_with fail
  refine (alive_any _ _ _ _ g v t _ (hG.ext hb2) hv0 hv1).mono ?_
  rintro e w2 ⟨rfl, hb3⟩
  have hb4 := ext_trans hb2 hb3
  have B0' := B0.ext hb3
  go_wp2_with fail
  clear hb3 B0 c1 c2 c3 hb1 hal h0
  go_loopw [13, 14, 15, 40] (fun a b d k wr => ∃ (n : Nat) (x y z : Int), n ≤ l.length ∧ k = .int .i64 n ∧ a = .int .i64 x ∧ b = .int .i64 y ∧ d = .int .i64 z ∧ 0 ≤ z ∧ z ≤ 1000 * n ∧ Hid (goL g x y z (l.drop n) = goL g v t 0 l) ∧ Below w.heap.size w wr ∧ Blk wr w.heap.size 28 (gC A c A' c' g))
    (fun _ _ _ k _ => l.length - (intOf k).toNat)
  case atStart => exact ⟨0, v, t, 0, Nat.zero_le _, rfl, rfl, rfl, rfl, by omega, by omega, Lib.hid rfl, hb4, B0'⟩
  case round =>
    clear hb4 B0' hb2 
    obtain ⟨n, x, y, z, hn, rfl, rfl, rfl, rfl, hz0, hz1, HI, hb, B0⟩ := hrel
    obtain ⟨b1, b2, b3⟩ := B0.facts
    by_cases hlt : n < l.length
    · obtain ⟨h, hh'⟩ := get_lt hlt
      obtain ⟨rfl, hbh, ⟨⟨x0, x1⟩, hw0, hw1⟩⟩ := hHp n h hh'
      have y0 := x0.now hb
      have y1 := x1.now hb
      have hd := drop_cons hh'
      have HI2 : Hid (goL g x y z (h :: l.drop (n + 1)) = goL g v t 0 l) := by rw [← hd]; exact HI
      clear hHp hd hh' HI x0 x1
      by_cases he : 0 ≤ h.edge ∧ h.edge ≤ (g.edges.length : Int) - 1
      case neg =>
        have HF := Lib.hid (HN.out (HI2.out.symm.trans (goL_none (hopTo_far (inB_false' he)))))
        go_wp2_with fail
        all_goals refine bodyPost_ret (results_tmp4 rfl _ _ _) rfl ?_
        all_goals exact ⟨by rw [HF.out]; rfl, ext_alloc hb _⟩
      have hin := inB_true' he
      obtain ⟨he0, he1⟩ := he
      obtain ⟨q, hq⟩ := get_lt (show h.edge.toNat < g.edges.length by omega)
      have HF := Lib.hid (fun hx => HN.out (HI2.out.symm.trans (goL_none hx)))
      have HF2 := Lib.hid (fun a b d hx => HI2.out.symm.trans (goL_some (a := a) (b := b) (d := d) hx))
      have hnot := fun h2 => hopTo_not (v := x) (t := y) hin hq h2
      have hnone := fun h3 => hopTo_none (v := x) (t := y) hin hq h3
      have hsome := fun to lg h2 h3 => hopTo_some (v := x) (t := y) (to := to) (l := lg) hin hq h2 h3
      have HNOT := Lib.hid hnot
      have HNONE := Lib.hid hnone
      have HSOME := Lib.hid hsome
      have hqe : EdgeOk g q := hV.edges q (List.mem_of_getElem? hq)
      obtain ⟨be, oe, hE⟩ := hG.edges
      obtain ⟨rfl, hbe, ⟨⟨z0, z1, L, cl, z2, hl1, hl2, hL⟩, _⟩⟩ := hE _ q hq
      have k0 := z0.now hb
      have k1 := z1.now hb
      have k2 := z2.now hb
      have hbe' := Nat.lt_of_lt_of_le hbe hb.size
      clear hnot hnone hsome hE hq hin z0 z1 z2
      by_cases hqa : q.a = x ∧ y ≤ h.depart
      case neg =>
        have H9 := Lib.hid (HF.out (HNOT.out hqa))
        go_wp2_with fail
        all_goals refine bodyPost_ret (results_tmp4 rfl _ _ _) rfl ?_
        all_goals exact ⟨by rw [H9.out]; rfl, ext_alloc hb _⟩
      obtain ⟨rfl, hqd⟩ := hqa
      go_wp2_with fail
      have hlq : q.legs.length ≤ maxLen := Nat.le_trans hl1 hl2
      have e0 := b1 0
      have e1 := b1 1
      have e2 := b1 2
      simp at e0 e1 e2
      have S0 : (wr.alloc (Obj.cells #[Value.int IntKind.i64 h.edge, Value.int IntKind.i64 h.depart] 46)).cell? ⟨w.heap.size, 0, none⟩ = some (.int .i64 g.h) ∧ (wr.alloc (Obj.cells #[Value.int IntKind.i64 h.edge, Value.int IntKind.i64 h.depart] 46)).cell? ⟨w.heap.size, 1, none⟩ = some (.slice A g.lives.length c) ∧ (wr.alloc (Obj.cells #[Value.int IntKind.i64 h.edge, Value.int IntKind.i64 h.depart] 46)).cell? ⟨w.heap.size, 2, none⟩ = some (.slice (some { block := be, off := oe }) g.edges.length c') ∧ (wr.alloc (Obj.cells #[Value.int IntKind.i64 h.edge, Value.int IntKind.i64 h.depart] 46)).cell? ⟨be, oe + h.edge.toNat * 3, none⟩ = some (.int .i64 q.a) ∧ (wr.alloc (Obj.cells #[Value.int IntKind.i64 h.edge, Value.int IntKind.i64 h.depart] 46)).cell? ⟨be, oe + h.edge.toNat * 3 + 1, none⟩ = some (.int .i64 q.b) ∧ (wr.alloc (Obj.cells #[Value.int IntKind.i64 h.edge, Value.int IntKind.i64 h.depart] 46)).cell? ⟨be, oe + h.edge.toNat * 3 + 2, none⟩ = some (.slice L q.legs.length cl) ∧ (wr.alloc (Obj.cells #[Value.int IntKind.i64 h.edge, Value.int IntKind.i64 h.depart] 46)).cell? ⟨wr.heap.size, 0, none⟩ = some (.int .i64 h.edge) ∧ (wr.alloc (Obj.cells #[Value.int IntKind.i64 h.edge, Value.int IntKind.i64 h.depart] 46)).cell? ⟨wr.heap.size, 1, none⟩ = some (.int .i64 h.depart) := by
        refine ⟨?_, ?_, ?_, ?_, ?_, ?_, ?_, ?_⟩ <;> simp [go_sem, e0, e1, e2, k0, k1, k2, b3, hbe']
      have hbq : Below w.heap.size w (wr.alloc (Obj.cells #[Value.int IntKind.i64 h.edge, Value.int IntKind.i64 h.depart] 46)) := ext_alloc hb _
      have Bq := B0.alloc (Obj.cells #[Value.int IntKind.i64 h.edge, Value.int IntKind.i64 h.depart] 46)
      have hGq := hG.ext hbq
      have hLq := hL.ext RLeg.stable hbq
      generalize hn17 : wr.heap.size = n17 at S0 ⊢
      generalize hwq : wr.alloc (Obj.cells #[Value.int IntKind.i64 h.edge, Value.int IntKind.i64 h.depart] 46) = wq at S0 hbq Bq hGq hLq ⊢
      clear hn17 hwq e0 e1 e2 k0 k1 k2 b1 b2 b3 y0 y1 hb B0 hbe'
      have hzq := hbq.size
      cases har : arrive g q h.depart with
      | none =>
        have HAR := Lib.hid har
        have H9 := Lib.hid (HF.out (HNONE.out har))
        clear har
        go_region_held3 (fun w' => w'.cell? ⟨w.heap.size, 0, none⟩ = some (.int .i64 g.h) ∧ w'.cell? ⟨w.heap.size, 1, none⟩ = some (.slice A g.lives.length c) ∧ w'.cell? ⟨w.heap.size, 2, none⟩ = some (.slice (some { block := be, off := oe }) g.edges.length c') ∧ w'.cell? ⟨be, oe + h.edge.toNat * 3, none⟩ = some (.int .i64 q.a) ∧ w'.cell? ⟨be, oe + h.edge.toNat * 3 + 1, none⟩ = some (.int .i64 q.b) ∧ w'.cell? ⟨be, oe + h.edge.toNat * 3 + 2, none⟩ = some (.slice L q.legs.length cl) ∧ w'.cell? ⟨n17, 0, none⟩ = some (.int .i64 h.edge) ∧ w'.cell? ⟨n17, 1, none⟩ = some (.int .i64 h.depart))
          (first | exact S0 | (refine keep8 ?_ S0; go_grown))
          (first | (go_at_call 94; refine (arrive_no_any _ _ L _ _ cl g q h.depart _ (hGq.ext (by go_grown)) hV hqe (hLq.ext RLeg.stable (by go_grown)) hlq hw1 HAR.out).mono ?_; rintro e w5 ⟨rfl, hb5⟩; have hb6 : Below wq.heap.size wq w5 := ext_trans (by go_grown) hb5; have hz6 := hb6.size; obtain ⟨hc5, hf5⟩ := bcell hb5))
        all_goals
          have hb7 : Below w.heap.size w w5 := ext_trans hbq hb6
          have hz7 := hb7.size
          go_wp2_with fail
          refine bodyPost_ret (results_tmp4 rfl _ _ _) rfl ?_
          exact ⟨by rw [H9.out]; rfl, by go_grown⟩
      | some p =>
        obtain ⟨lg, to⟩ := p
        have HAR := Lib.hid har
        have H9 := Lib.hid (HF2.out _ _ _ (HSOME.out to lg ⟨trivial, hqd⟩ har))
        have ha := arrive_some har
        have hlg := hqe.legs lg ha.1
        have c0 : 0 ≤ lg.cost := by omega
        have c1 : lg.cost ≤ 1000 := by omega
        have hbe2 := World.block_lt_of_cell? _ _ S0.2.2.2.1
        have hn2 := World.block_lt_of_cell? _ _ S0.2.2.2.2.2.2.1
        have hg2 := World.block_lt_of_cell? _ _ S0.1
        simp only at hbe2 hn2 hg2
        have hbe3 : be ≠ wq.heap.size := by omega
        have hn3 : n17 ≠ wq.heap.size := by omega
        have hg3 : w.heap.size ≠ wq.heap.size := by omega
        clear har ha hlg
        go_region_held3 (fun w' => w'.cell? ⟨w.heap.size, 0, none⟩ = some (.int .i64 g.h) ∧ w'.cell? ⟨w.heap.size, 1, none⟩ = some (.slice A g.lives.length c) ∧ w'.cell? ⟨w.heap.size, 2, none⟩ = some (.slice (some { block := be, off := oe }) g.edges.length c') ∧ w'.cell? ⟨be, oe + h.edge.toNat * 3, none⟩ = some (.int .i64 q.a) ∧ w'.cell? ⟨be, oe + h.edge.toNat * 3 + 1, none⟩ = some (.int .i64 q.b) ∧ w'.cell? ⟨be, oe + h.edge.toNat * 3 + 2, none⟩ = some (.slice L q.legs.length cl) ∧ w'.cell? ⟨n17, 0, none⟩ = some (.int .i64 h.edge) ∧ w'.cell? ⟨n17, 1, none⟩ = some (.int .i64 h.depart))
          (first | exact S0 | (refine keep8 ?_ S0; go_grown))
          (first | (go_at_call 94; refine (arrive_yes_any _ _ L _ _ cl g q h.depart lg to _ (hGq.ext (by go_grown)) hV hqe (hLq.ext RLeg.stable (by go_grown)) hlq hw1 HAR.out).mono ?_; rintro e w5 ⟨rfl, hb5⟩; have hb6 : Below wq.heap.size wq w5 := ext_trans (by go_grown) hb5; have hz6 := hb6.size; obtain ⟨hc5, hf5⟩ := bcell hb5; obtain ⟨r0, r1, r2, r3, r4, r5, r6, r7⟩ := keep8 hb6 S0))
        all_goals
          have hb7 : Below w.heap.size w w5 := ext_trans hbq hb6
          have hz7 := hb7.size
          have Bq5 := Bq.ext hb6
          have q0 : be < w5.heap.size := by omega
          have q1 : n17 < w5.heap.size := by omega
          have q2 : w.heap.size < w5.heap.size := by omega
          go_wp2_with fail
          go_quiet (fail)
          go_wp2
          go_roundw
          case rel =>
            refine ⟨n + 1, q.b, to, z + lg.cost, by omega, by go_num, rfl, rfl, rfl, by omega, by omega, Lib.hid H9.out.symm, below_drewN (by go_grown) _, ?_⟩
            first
              | exact (Bq5.alloc _).drewN _
              | exact ((((Bq5.far hg3 _).far hg3 _).far hg3 _).far hg3 _).drewN _
          case measure => simp [intOf]; omega
    · have hfin := Lib.hid (HS.out x y z (HI.out.symm.trans (by rw [drop_end (by omega)]; rfl)))
      go_wp2_with fail
      refine bodyPost_ret (results_tmp4 rfl _ _ _) rfl ?_
      exact ⟨by rw [hfin.out]; rfl, hb⟩
end Go.Proofs.Ytcgnalpcbcpmkaa
