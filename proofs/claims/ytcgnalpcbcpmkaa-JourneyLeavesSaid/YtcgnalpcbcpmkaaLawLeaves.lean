/- The walk of the law JourneyLeaves. -/
import Derived.Test.YtcgnalpcbcpmkaaWalk
import Derived.Test.YtcgnalpcbcpmkaaLeaves
namespace Go.Proofs.Ytcgnalpcbcpmkaa
open Go.RowKit

theorem eq_of' {a b : Int} (h : a = b) : (a == b) = true := by simp [h]
set_option maxRecDepth 100000 in
set_option maxHeartbeats 4000000 in
theorem journeyLeaves_calls (A A' : Option Addr) (c c' : Nat) (g : GraphD) {w0 : World} (hG : GraphAt w0 A c A' c' g) (v : Int) (_hv : I64 v) (t : Int) (_ht : I64 t) (h0 : HopD) (he0 : I64 h0.edge) (hd0 : I64 h0.depart) :
    Calls Try.prog 10 #[gV A c A' c' g, .int .i64 v, .int .i64 t, hopV h0] w0 fun e w' => e = .returned (.bool true) ∧ Below w0.heap.size w0 w' := by
  by_cases hp : placeErr g v t = 0
  case neg =>
    have hp2 := neq_of' hp
    have e1 : outR g v t = [] := by simp [outR, hp]
    have E1 := Lib.hid e1
    clear hp e1
    go_enter Try.func10, Try.ntmps10
    go_wp2_with fail
    refine (goes_any _).mono ?_
    rintro x w1 ⟨rfl, hb1⟩
    obtain ⟨B0, c1, c2, c3⟩ := ((Blk.new w0 28 (gC A c A' c' g)).alloc (Obj.cells #[.int .i64 h0.edge, .int .i64 h0.depart] 46)).go hb1
    have hb2 : Below w0.heap.size w0 w1 := ext_trans (by go_grown) hb1
    go_wp2_with fail
    refine (out_any _ _ _ _ g v t _ (hG.ext hb2)).mono ?_
    rw [E1.out]
    rintro x w2 ⟨Al, cl, rfl, hS, hl, hb3⟩
    go_wp2_with fail
    go_ret
    exact ⟨rfl, ext_trans hb2 hb3⟩
  have hp2 := neq_of hp
  have e1 : outR g v t = outs g v t := by simp [outR, hp]
  have HT := Lib.hid (fun h (hm : h ∈ outs g v t) => goR_told hp hm)
  have HS : Hid ((outs g v t).Pairwise hopLt) := Lib.hid outs_sorted
  have H1 := Lib.hid (goR_one hp h0)
  have HP := Lib.hid hp
  generalize outs g v t = l at *
  have E1 := Lib.hid e1
  clear hp e1
  go_enter Try.func10, Try.ntmps10
  go_wp2_with fail
  refine (goes_any _).mono ?_
  rintro x w1 ⟨rfl, hb1⟩
  obtain ⟨B0, c1, c2, c3⟩ := ((Blk.new w0 28 (gC A c A' c' g)).alloc (Obj.cells #[.int .i64 h0.edge, .int .i64 h0.depart] 46)).go hb1
  obtain ⟨B1, d1, d2, d3⟩ := (Blk.new_ (w := w0.alloc (.cells (gC A c A' c' g) 28)) (n := w0.heap.size + 1) (t := 46) (cs := #[.int .i64 h0.edge, .int .i64 h0.depart]) (by simp)).go hb1
  have hb2 : Below w0.heap.size w0 w1 := ext_trans (by go_grown) hb1
  go_wp2_with fail
  refine (out_any _ _ _ _ g v t _ (hG.ext hb2)).mono ?_
  rw [E1.out, HP.out]
  rintro x w2 ⟨Al, cl, rfl, hS, hl, hb3⟩
  obtain ⟨C0, c1', c2', c3'⟩ := B0.go hb3
  obtain ⟨C1, d1', d2', d3'⟩ := B1.go hb3
  have hb4 := ext_trans hb2 hb3
  unfold maxLen at hl
  clear hb1 hb2 hb3 B0 B1 c1 c2 c3 d1 d2 d3 E1
  go_wp2_with fail
  clear c1' c2' c3' d1' d2' d3'
  go_loopw [37] (fun kk wr => ∃ (k : Nat), k ≤ l.length ∧ kk = .int .i64 k ∧ Below w2.heap.size w2 wr) (fun kk _ => l.length - (intOf kk).toNat)
  case atStart => exact ⟨0, Nat.zero_le _, rfl, Below.refl _ _⟩
  case round =>
    obtain ⟨k, hk, rfl, hb⟩ := hrel
    obtain ⟨B0, b1, b2, b3⟩ := C0.go hb
    obtain ⟨B1, f1, f2, f3⟩ := C1.go hb
    have hbw := ext_trans hb4 hb
    have hSr := hS.ext RHop.stable hb
    have hzw := hb.size
    by_cases hlt : k < l.length
    case neg =>
      obtain ⟨a, b, d, e, hgo, hee⟩ := H1.out
      have HGO := Lib.hid hgo
      clear hgo
      go_wp2_with fail
      refine (go_tuple _ _ _ _ _ _ g v t [h0] _ (hG.ext (by go_grown)) (slAt1 (by simp) (by simp [RHop, cellIs, go_sem]; exact ⟨he0, hd0⟩)) (by simp [maxLen]) HGO.out).mono ?_
      rintro x w3 ⟨rfl, hb5⟩
      obtain ⟨D1, g1, g2, g3⟩ := (B1.alloc (Obj.cells #[.int .i64 h0.edge, .int .i64 h0.depart] 46)).go hb5
      have hb6 : Below wr.heap.size wr w3 := ext_trans (by go_grown) hb5
      go_wp2_with fail
      refine (containsHops_any _ _ l h0 _ (hSr.ext RHop.stable hb6) hl).mono ?_
      rintro x w4 ⟨rfl, hb7⟩
      go_wp2_with fail
      go_ret
      exact ⟨ret_bool (by simp), ext_trans (ext_trans hbw hb6) hb7⟩
    obtain ⟨x, hx⟩ := get_lt hlt
    have hxm : x ∈ l := List.mem_of_getElem? hx
    obtain ⟨a, b, d, hgo⟩ := HT.out x hxm
    have HGO := Lib.hid hgo
    obtain ⟨bl, ol, hSr⟩ := hSr
    obtain ⟨rfl, hbl, ⟨⟨l0, l1⟩, hxI⟩⟩ := hSr k x hx
    have l0' : wr.cell? _ = _ := l0
    have l1' : wr.cell? _ = _ := l1
    clear hgo hxm l0 l1 f1 f2 B1
    by_cases hk0 : k = 0
    case pos =>
      subst hk0
      · simp only [Nat.zero_mul, Nat.add_zero] at l0' l1'
        go_wp2_with fail
        refine (go_tuple _ _ _ _ _ _ g v t [x] _ (hG.ext (by go_grown)) (slAt1 (by simp) (by simp [RHop, cellIs, go_sem]; exact hxI)) (by simp [maxLen]) HGO.out).mono ?_
        rintro x' w5 ⟨rfl, hb5⟩
        obtain ⟨D1, g1, g2, g3⟩ := ((Blk.new wr 46 #[.int .i64 x.edge, .int .i64 x.depart]).alloc (Obj.cells #[.int .i64 x.edge, .int .i64 x.depart] 46)).go hb5
        have hb6 : Below wr.heap.size wr w5 := ext_trans (by go_grown) hb5
        clear hx
        go_wp2_with fail
        go_quiet (fail)
        go_wp2
        go_roundw
        case rel => exact ⟨0 + 1, by omega, by go_num, below_drewN (hb.trans (hb6.mono hzw)) _⟩
        case measure => simp [intOf]; omega
    case neg =>
      obtain ⟨j, rfl⟩ : ∃ j, k = j + 1 := ⟨k - 1, by omega⟩
      obtain ⟨y, hy⟩ := get_lt (show j < l.length by omega)
      obtain ⟨_, _, ⟨⟨y0, y1⟩, _⟩⟩ := hSr j y hy
      have hyx : hopLt y x := pairwise_next HS.out hy hx
      have q1 : decide (x.depart < y.depart) = false := by simp; unfold hopLt at hyx; omega
      have hkp : (0 : Int) < (j : Int) + 1 := by omega
      by_cases hdd : y.depart = x.depart
      · have q2 : (y.depart == x.depart) = true := eq_of' hdd
        have q3 : decide (x.edge ≤ y.edge) = false := by simp; unfold hopLt at hyx; omega
        clear hdd hyx
        go_wp2_with fail
        refine (go_tuple _ _ _ _ _ _ g v t [x] _ (hG.ext (by go_grown)) (slAt1 (by simp) (by simp [RHop, cellIs, go_sem]; exact hxI)) (by simp [maxLen]) HGO.out).mono ?_
        rintro x' w5 ⟨rfl, hb5⟩
        obtain ⟨D1, g1, g2, g3⟩ := ((Blk.new wr 46 #[.int .i64 x.edge, .int .i64 x.depart]).alloc (Obj.cells #[.int .i64 x.edge, .int .i64 x.depart] 46)).go hb5
        have hb6 : Below wr.heap.size wr w5 := ext_trans (by go_grown) hb5
        have y0' := y0.now hb6
        have y1' := y1.now hb6
        go_wp2_with fail
        go_quiet (fail)
        go_wp2
        go_roundw
        case rel => exact ⟨j + 1 + 1, by omega, by go_num, below_drewN (hb.trans (hb6.mono hzw)) _⟩
        case measure => simp [intOf]; omega
      · have q2 : (y.depart == x.depart) = false := by simp [hdd]
        clear hdd hyx
        go_wp2_with fail
        refine (go_tuple _ _ _ _ _ _ g v t [x] _ (hG.ext (by go_grown)) (slAt1 (by simp) (by simp [RHop, cellIs, go_sem]; exact hxI)) (by simp [maxLen]) HGO.out).mono ?_
        rintro x' w5 ⟨rfl, hb5⟩
        obtain ⟨D1, g1, g2, g3⟩ := ((Blk.new wr 46 #[.int .i64 x.edge, .int .i64 x.depart]).alloc (Obj.cells #[.int .i64 x.edge, .int .i64 x.depart] 46)).go hb5
        have hb6 : Below wr.heap.size wr w5 := ext_trans (by go_grown) hb5
        have y0' := y0.now hb6
        have y1' := y1.now hb6
        go_wp2_with fail
        go_quiet (fail)
        go_wp2
        go_roundw
        case rel => exact ⟨j + 1 + 1, by omega, by go_num, below_drewN (hb.trans (hb6.mono hzw)) _⟩
        case measure => simp [intOf]; omega
end Go.Proofs.Ytcgnalpcbcpmkaa
