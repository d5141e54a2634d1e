/- The walk of the document's rounds of a snapshot: FORD, BELLMAN. -/
import Derived.Test.YtcgnalpcbcpmkaaBegun
import Derived.Test.YtcgnalpcbcpmkaaEqual
import Derived.Test.YtcgnalpcbcpmkaaHead
import Derived.Deep.LoopGhost
import Derived.IntWalk
import Derived.Shelf.Abstract
import Derived.Outline
namespace Go.Proofs.Ytcgnalpcbcpmkaa
open Go.RowKit

theorem equalInts_n (A B : Option Addr) (c d : Nat) (a b : List Int) (n : Nat) (w : World) (hA : SlAt RInt 1 w A a) (hB : SlAt RInt 1 w B b) (ha : a.length ≤ maxLen) (hb : b.length ≤ maxLen) (hn : a.length = n) :
    Calls Try.prog 51 #[.slice A n c, .slice B b.length d] w fun e w' => e = .returned (.bool (decide (a = b))) ∧ Below w.heap.size w w' := by
  subst hn
  exact equalInts_any A B c d a b w hA hB ha hb
def RoundsOut (s : SnapD) (p : Int) (back : Bool) (v : Int) (w : World) (e : Ending) (w' : World) : Prop :=
  ∃ l A c k, e = .returned (.tuple #[.slice A l.length c, .int .i64 k]) ∧ (l.length = s.alive.length ∧ Best (ArcsP s (wtP p) back) (gi (begunD s p v)) (gi l)) ∧ SlAt RInt 1 w' A l ∧ l.length ≤ maxLen ∧ Below w.heap.size w w'
theorem enters_more : Enters Try.prog 99 := enters_of Try.func99 (by kernel_rfl) rfl
theorem arcsP_mono {s : SnapD} {wt : ArcD → Int} {back : Bool} : ∀ x, ArcsP s wt back x → Mono x.f := by
  rintro x ⟨a, _, rfl | ⟨_, rfl⟩⟩ <;> exact mono_add _
theorem min_if {a b c : Int} (h : (if b < a then b else a) = c) : min a b = c := by rw [← h]; split <;> omega

set_option maxRecDepth 100000 in
set_option maxHeartbeats 8000000 in
theorem rounds_any (A A' Af : Option Addr) (c c' cf : Nat) (s : SnapD) (p v : Int) (back : Bool) (bp : Nat) (w : World) (hS : SnapAt w A c A' c' s) (hok : SnapOk s) (hp1 : 1 ≤ p) (hp3 : p ≤ 3) (hBp0 : Blk w bp 3 #[.int .i64 p])
    (hF : SlAt RInt 1 w Af (begunD s p v)) :
    Calls Try.prog 97 #[snapV A c A' c' s, .slice Af (begunD s p v).length cf, .func (.func 99) #[] #[.pointer (some ⟨bp, 0, none⟩)], .bool back] w (RoundsOut s p back v w) := by
  have hn12 := hok.nv
  have hna := hok.na
  have hwt := wtP_bound hok p
  have hent := enters_more
  unfold Enters at hent
  have HBL := Lib.hid (begun_len s p v)
  have hbl : (begunD s p v).length ≤ 12 := by rw [begun_len]; exact hn12
  obtain ⟨l0, hl0⟩ : ∃ l0, begunD s p v = l0 := ⟨_, rfl⟩
  have hbig : ∀ i, gi l0 i ≤ Far := by rw [← hl0]; exact begun_big s hn12 p v
  have hpos : ∀ i, 0 ≤ gi l0 i := by rw [← hl0]; exact begun_pos s p v
  rw [hl0] at hF HBL hbl ⊢
  have HL0 := Lib.hid hl0
  have HBIG := Lib.hid hbig
  have HPOS := Lib.hid hpos
  clear hl0 hbig hpos
  have hbpz := hBp0.lt
  go_enter Try.func97, Try.ntmps97
  go_wp2_with (at_builtin; refine wpList_append_copy rfl (.tmp 15) rfl Af cf l0 rfl (hF.ext RInt.stable (by go_grown)) (by omega) ?_; intro A1 c1 w1 hI1 hb1)
  have hB1 := (Blk.new w 51 (snapC A c A' c' s)).ext hb1
  have hP1 := (hBp0.alloc (Obj.cells (snapC A c A' c' s) 51)).ext hb1
  have hb2 : Below w.heap.size w w1 := ext_trans (by go_grown) hb1
  clear hb1
  go_loopg [10, 11] (total l0) (fun gk x y wr => ∃ (Ax : Option Addr) (cx : Nat) (l : List Int) (kk : Int), x = .slice Ax l.length cx ∧ y = .int .i64 kk ∧ Hid (l.length = s.alive.length ∧ total l ≤ gk ∧ (∀ i, gi l i ≤ gi l0 i) ∧ Above (ArcsP s (wtP p) back) (gi l0) (gi l)) ∧
    IOwn wr (w.heap.size + 1) Ax l ∧ Blk wr w.heap.size 51 (snapC A c A' c' s) ∧ Blk wr bp 3 #[.int .i64 p] ∧ Below w.heap.size w wr)
  case atStart => exact ⟨A1, c1, l0, 0, rfl, rfl, Lib.hid ⟨HBL.out, Nat.le_refl _, fun _ => Int.le_refl _, above_init⟩, by simpa using hI1, hB1, hP1, hb2⟩
  case round =>
    clear hI1 hB1 hP1 hb2
    obtain ⟨Ax, cx, l, kk, rfl, rfl, HN, hI, hB, hBp, hbw⟩ := hrel
    have hll : l.length ≤ 12 := by rw [HN.out.1]; exact hn12
    have hlow : ∀ i, 0 ≤ gi l i := above_pos HN.out.2.2.2 HPOS.out (arcsP_up (fun a ha => (hwt a ha).1))
    have hup : ∀ i, gi l i ≤ 1099511627776 := fun i => Int.le_trans (HN.out.2.2.1 i) (HBIG.out i)
    have HLOW := Lib.hid hlow
    have HUP := Lib.hid hup
    clear hlow hup
    have hSl := hI.slAt (fun k _ => ⟨by have := HLOW.out k; omega, by have := HUP.out k; omega⟩)
    go_wp2_with (at_builtin; refine wpList_append_copy rfl (.tmp 19) rfl Ax cx l rfl hSl (by omega) ?_; intro A2 c2 w2 hI2 hb3)
    have hNow := hI.ext hb3
    have hB2 := hB.ext hb3
    have hBp2 := hBp.ext hb3
    have hbw2 := ext_trans hbw hb3
    have hz3 := hb3.size
    have hzw := hB.lt
    have hzp := hBp.lt
    have hg1 : ∀ g1, Ax = some ⟨g1, 0, none⟩ → 0 < l.length → g1 < wr.heap.size := fun g1 e h0 => by
      obtain ⟨g, cs, h1, _, h3, _⟩ := hI h0
      have hg : g = g1 := by rw [h1] at e; simpa using e
      rw [← hg]; exact h3.lt
    have HG1 := Lib.hid hg1
    clear hI hB hBp hbw hSl hb3 hg1
    obtain ⟨bz, oz, hAr⟩ := hS.arcs
    obtain ⟨wq, rfl⟩ : ∃ wq : World, wq = wr := ⟨_, rfl⟩
    go_loopw [13] (fun x wr => ∃ (j : Nat) (l2 : List Int), j ≤ s.arcs.length ∧ x = .int .i64 j ∧ Hid (l2.length = l.length ∧ RMid (ArcsP s (wtP p) back) (gi l0) (gi l) (gi l2) (ArcsT s (wtP p) back j)) ∧
      IOwn wr wq.heap.size A2 l2 ∧ IOwn wr (w.heap.size + 1) Ax l ∧ Blk wr w.heap.size 51 (snapC A c A' c' s) ∧ Blk wr bp 3 #[.int .i64 p] ∧ Below w.heap.size w wr) (fun x _ => s.arcs.length - (intOf x).toNat)
    case atStart => exact ⟨0, l, Nat.zero_le _, rfl, Lib.hid ⟨rfl, (RMid.start HN.out.2.2.2).mono arcsT_zero⟩, hI2, hNow, hB2, hBp2, hbw2⟩
    case round =>
      clear hI2 hNow hB2 hBp2 hbw2
      obtain ⟨j, l2, hj, rfl, HD, hX, hNw, hB, hBp, hbw⟩ := hrel
      obtain ⟨b1, b2, b3⟩ := hB.facts
      by_cases hlt : j < s.arcs.length
      case neg =>
        have hlow2 : ∀ i, 0 ≤ gi l2 i := above_pos HD.out.2.above HPOS.out (arcsP_up (fun a ha => (hwt a ha).1))
        have HLOW2 := Lib.hid hlow2
        have hS2 := hX.slAt (fun k _ => ⟨by have := HLOW2.out k; omega, by have := HUP.out k; have := HD.out.2.le k; omega⟩)
        have hS1 := hNw.slAt (fun k _ => ⟨by have := HLOW.out k; omega, by have := HUP.out k; omega⟩)
        have hl2 : l2.length ≤ maxLen := by rw [HD.out.1]; unfold maxLen; omega
        have hl1 : l.length ≤ maxLen := by unfold maxLen; omega
        have HLE := Lib.hid HD.out.1
        clear hlow2
        by_cases heq : l2 = l
        · have HB := Lib.hid (rounds_end HN.out.2.2.1 HN.out.2.2.2 HD.out.2 (show s.arcs.length ≤ j by omega) (by rw [heq]))
          have HEQ : Hid (decide (l2 = l) = true) := Lib.hid (by simp [heq])
          clear heq
          go_wp2_with fail
          refine (equalInts_n A2 Ax c2 cx l2 l l.length _ hS2 hS1 hl2 hl1 HLE.out).mono ?_
          rw [HEQ.out]
          rintro e w3 ⟨rfl, hb4⟩
          go_wp2_with fail
          go_ret2
          exact ⟨l, Ax, cx, kk, rfl, ⟨HN.out.1, by rw [HL0.out]; exact HB.out⟩, hS1.ext RInt.stable hb4, hl1, ext_trans hbw hb4⟩
        · have HEQ : Hid (decide (l2 = l) = false) := Lib.hid (by simp [heq])
          have HT := Lib.hid (total_lt HD.out.1 HD.out.2.le HLOW2.out heq)
          have HT2 := Lib.hid HN.out.2.1
          clear heq
          go_wp2_with fail
          refine (equalInts_n A2 Ax c2 cx l2 l l.length _ hS2 hS1 hl2 hl1 HLE.out).mono ?_
          rw [HEQ.out]
          rintro e w3 ⟨rfl, hb4⟩
          go_wp2_with fail
          go_roundg (gk - 1)
          case rel => exact ⟨A2, c2, l2, _, by rw [HLE.out], rfl, Lib.hid ⟨HLE.out.trans HN.out.1, by have := HT.out; have := HT2.out; omega, fun i => Int.le_trans (HD.out.2.le i) (HN.out.2.2.1 i), HD.out.2.above⟩, IOwn.lower (hX.ext hb4) (by omega), hB.ext hb4, hBp.ext hb4, ext_trans hbw hb4⟩
          case measure => have := HT.out; have := HT2.out; omega
      obtain ⟨y, hy⟩ := get_lt hlt
      obtain ⟨rfl, hbz1, ⟨⟨x0, x1, x2⟩, _⟩⟩ := hAr j y hy
      have y0 := x0.now hbw
      have y1 := x1.now hbw
      have y2 := x2.now hbw
      have hym := List.mem_of_getElem? hy
      have hyo := hok.arcs y hym
      have HY := Lib.hid hy
      have HYM := Lib.hid hym
      clear hy hym x0 x1 x2
      have ha0 := hyo.a0
      have ha1 : y.a < (l.length : Int) := by have := hyo.a1; rw [HN.out.1]; omega
      have ha2 : y.a.toNat < l.length := by omega
      have hd0 := hyo.b0
      have hd1 : y.b < (l.length : Int) := by have := hyo.b1; rw [HN.out.1]; omega
      have hd2 : y.b.toNat < l.length := by omega
      obtain ⟨g2, rfl, hg2a, hg2b, hg2c, hg2f⟩ := hX.at_ (k := y.b.toNat) (by rw [HD.out.1]; exact hd2)
      obtain ⟨g1, rfl, hg1a, hg1b, hg1c, hg1f⟩ := hNw.at_ (k := y.b.toNat) hd2
      have hg1l := HG1.out g1 rfl (by omega)
      have hgne : g1 ≠ g2 := by omega
      have hba : g2 ≠ wr.heap.size := by omega
      have hsn : w.heap.size ≠ g2 := by omega
      have hbn : bp ≠ g2 := by omega
      clear hg2c hg2f hg1c hg1f
      go_wp2_with fail
      obtain ⟨ba, hbe⟩ : ∃ ba, ba = wr.heap.size := ⟨_, rfl⟩
      have hXW := hX.ext (show Below wr.heap.size wr (wr.alloc (Obj.cells #[.int .i64 y.a, .int .i64 y.b, .int .i64 y.cost] 69)) by go_grown)
      have hNW := hNw.ext (show Below wr.heap.size wr (wr.alloc (Obj.cells #[.int .i64 y.a, .int .i64 y.b, .int .i64 y.cost] 69)) by go_grown)
      have hBW := hB.alloc (Obj.cells #[.int .i64 y.a, .int .i64 y.b, .int .i64 y.cost] 69)
      have hBpW := hBp.alloc (Obj.cells #[.int .i64 y.a, .int .i64 y.b, .int .i64 y.cost] 69)
      have hbwW := ext_alloc hbw (Obj.cells #[.int .i64 y.a, .int .i64 y.b, .int .i64 y.cost] 69)
      have BaW := Blk.new wr 69 #[.int .i64 y.a, .int .i64 y.b, .int .i64 y.cost]
      rw [← hbe] at BaW hba ⊢
      obtain ⟨wa, hwa⟩ : ∃ wa : World, wa = wr.alloc (Obj.cells #[.int .i64 y.a, .int .i64 y.b, .int .i64 y.cost] 69) := ⟨_, rfl⟩
      rw [← hwa] at hXW hNW hBW hBpW hbwW BaW ⊢
      clear hbe hwa
      clear hX hNw hB hBp hbw b1 b2 b3 y0 y1 y2
      have HST := Lib.hid (HD.out.2.step HN.out.2.2.2 (x := arcF (wtP p) y) ⟨y, HYM.out, .inl rfl⟩ (mono_add _))
      obtain ⟨g2', hA2', _, _, hc2, hf2⟩ := hXW.at_ (k := y.b.toNat) (by rw [HD.out.1]; exact hd2)
      obtain rfl : g2 = g2' := by simpa using hA2'
      obtain ⟨g1', hA1', _, _, hc1, hf1⟩ := hNW.at_ (k := y.a.toNat) (by omega)
      obtain rfl : g1 = g1' := by simpa using hA1'
      clear hA2' hA1'
      have hcb1 := hc2 y.b.toNat (by rw [HD.out.1]; exact hd2)
      have hcm1 := hc1 y.a.toNat (by omega)
      have e0 := BaW.cell 0
      have e1 := BaW.cell 1
      have e2 := BaW.cell 2
      simp only [List.getElem?_toArray, List.getElem?_cons_zero, List.getElem?_cons_succ] at e0 e1 e2
      obtain ⟨p', hp'⟩ : ∃ p', gi l2 y.b.toNat = p' := ⟨_, rfl⟩
      obtain ⟨q', hq'⟩ : ∃ q', gi l y.a.toNat = q' := ⟨_, rfl⟩
      obtain ⟨n', hn'⟩ : ∃ n', wtP p y = n' := ⟨_, rfl⟩
      have hq0 := HLOW.out y.a.toNat
      have hq1 := HUP.out y.a.toNat
      obtain ⟨w0', w2'⟩ := hwt y HYM.out
      rw [hp'] at hcb1
      rw [hq'] at hcm1 hq0 hq1
      rw [hn'] at w0' w2'
      have HP' := Lib.hid hp'
      have HQ' := Lib.hid hq'
      have HN' := Lib.hid hn'
      have hwrap : IntKind.i64.wrap (q' + n') = q' + n' := IntWalk.i64_in _ (by omega)
      have hzlen : ((l2.length : Nat) : Int) = (l.length : Int) := by rw [HD.out.1]
      have HZL := Lib.hid hzlen
      clear hp' hq' hn' hc2 hf2 hc1 hf1 hzlen
      obtain ⟨S, hSS⟩ : ∃ S : World → Prop, Hid (S = fun w' => w'.cell? ⟨g2, y.b.toNat, none⟩ = some (.int .i64 p') ∧ w'.cell? ⟨g1, y.a.toNat, none⟩ = some (.int .i64 q') ∧ w'.cell? ⟨ba, 0, none⟩ = some (.int .i64 y.a) ∧ w'.cell? ⟨ba, 1, none⟩ = some (.int .i64 y.b) ∧ w'.cell? ⟨ba, 2, none⟩ = some (.int .i64 y.cost)) := ⟨_, Lib.hid rfl⟩
      have hS0 : S wa.drew := by rw [hSS.out]; exact ⟨hcb1, hcm1, e0, e1, e2⟩
      refine WpN.begin (S := S) 19 (by kernel_rfl) ?_
      refine WpN.take (i := 0) (v := ?_) rfl (by kernel_rfl) (fun _ _ _ h => h) (Or.inl ⟨by rfl, ?_⟩) (by assumption) ?_
      rotate_left
      · intro w hSw; rw [hSS.out] at hSw; obtain ⟨sw0, sw1, sw2, sw3, sw4⟩ := hSw; go_simp; try with_reducible rfl
      simp only [Act.put, List.setIfInBounds_toArray]
      refine WpN.take (i := 1) (v := ?_) rfl (by kernel_rfl) (fun _ _ _ h => h) (Or.inl ⟨by rfl, ?_⟩) (by assumption) ?_
      rotate_left
      · intro w hSw; rw [hSS.out] at hSw; obtain ⟨sw0, sw1, sw2, sw3, sw4⟩ := hSw; go_simp; try with_reducible rfl
      simp only [Act.put]
      refine WpN.take (i := 2) (v := ?_) rfl (by kernel_rfl) (fun _ _ _ h => h) (Or.inl ⟨by rfl, ?_⟩) (by assumption) ?_
      rotate_left
      · intro w hSw; rw [hSS.out] at hSw; obtain ⟨sw0, sw1, sw2, sw3, sw4⟩ := hSw; go_simp; try with_reducible rfl
      simp only [Act.put]
      refine WpN.take (i := 3) (v := ?_) rfl (by kernel_rfl) (fun _ _ _ h => h) (Or.inl ⟨by rfl, ?_⟩) (by assumption) ?_
      rotate_left
      · intro w hSw; rw [hSS.out] at hSw; obtain ⟨sw0, sw1, sw2, sw3, sw4⟩ := hSw; go_simp; try with_reducible rfl
      simp only [Act.put]
      refine WpN.take (i := 4) (v := ?_) rfl (by kernel_rfl) (fun _ _ _ h => h) (Or.inl ⟨by rfl, ?_⟩) (by assumption) ?_
      rotate_left
      · intro w hSw; rw [hSS.out] at hSw; obtain ⟨sw0, sw1, sw2, sw3, sw4⟩ := hSw; go_simp; try with_reducible rfl
      simp only [Act.put]
      refine WpN.take (i := 5) (v := ?_) rfl (by kernel_rfl) (fun _ _ _ h => h) (Or.inl ⟨by rfl, ?_⟩) (by assumption) ?_
      rotate_left
      · intro w hSw; rw [hSS.out] at hSw; obtain ⟨sw0, sw1, sw2, sw3, sw4⟩ := hSw; go_simp; try with_reducible rfl
      simp only [Act.put]
      refine WpN.take (i := 6) (v := ?_) rfl (by kernel_rfl) (fun _ _ _ h => h) (Or.inl ⟨by rfl, ?_⟩) (by assumption) ?_
      rotate_left
      · intro w hSw; rw [hSS.out] at hSw; obtain ⟨sw0, sw1, sw2, sw3, sw4⟩ := hSw; go_simp; try with_reducible rfl
      simp only [Act.put]
      refine WpN.take (i := 7) (v := ?_) rfl (by kernel_rfl) (fun _ _ _ h => h) (Or.inl ⟨by rfl, ?_⟩) (by assumption) ?_
      rotate_left
      · intro w hSw; rw [hSS.out] at hSw; obtain ⟨sw0, sw1, sw2, sw3, sw4⟩ := hSw; go_simp; try with_reducible rfl
      simp only [Act.put]
      refine WpN.take (i := 8) (v := ?_) rfl (by kernel_rfl) (fun _ _ _ h => h) (Or.inl ⟨by rfl, ?_⟩) (by assumption) ?_
      rotate_left
      · intro w hSw; rw [hSS.out] at hSw; obtain ⟨sw0, sw1, sw2, sw3, sw4⟩ := hSw; go_simp; try with_reducible rfl
      simp only [Act.put]
      refine WpN.take (i := 9) (v := ?_) rfl (by kernel_rfl) (fun _ _ _ h => h) (Or.inl ⟨by rfl, ?_⟩) (by assumption) ?_
      rotate_left
      · intro w hSw; rw [hSS.out] at hSw; obtain ⟨sw0, sw1, sw2, sw3, sw4⟩ := hSw; go_simp; try with_reducible rfl
      simp only [Act.put]
      refine WpN.take (i := 10) (v := ?_) rfl (by kernel_rfl) (fun _ _ _ h => h) (Or.inl ⟨by rfl, ?_⟩) (by assumption) ?_
      rotate_left
      · intro w hSw; rw [hSS.out] at hSw; obtain ⟨sw0, sw1, sw2, sw3, sw4⟩ := hSw; go_simp; try with_reducible rfl
      simp only [Act.put]
      refine WpN.take (i := 11) (v := ?_) rfl (by kernel_rfl) (fun _ _ _ h => h) (Or.inl ⟨by rfl, ?_⟩) (by assumption) ?_
      rotate_left
      · intro w hSw; rw [hSS.out] at hSw; obtain ⟨sw0, sw1, sw2, sw3, sw4⟩ := hSw; go_simp; try with_reducible rfl
      simp only [Act.put]
      refine WpN.take (i := 12) (v := ?_) rfl (by kernel_rfl) (fun _ _ _ h => h) (Or.inl ⟨by rfl, ?_⟩) (by assumption) ?_
      rotate_left
      · intro w hSw; rw [hSS.out] at hSw; obtain ⟨sw0, sw1, sw2, sw3, sw4⟩ := hSw; go_simp; try with_reducible rfl
      simp only [Act.put]
      refine WpN.take (i := 13) (v := ?_) rfl (by kernel_rfl) (fun _ _ _ h => h) (Or.inl ⟨by rfl, ?_⟩) (by assumption) ?_
      rotate_left
      · intro w hSw; rw [hSS.out] at hSw; obtain ⟨sw0, sw1, sw2, sw3, sw4⟩ := hSw; go_simp; try with_reducible rfl
      simp only [Act.put]
      refine WpN.take (i := 14) (v := ?_) rfl (by kernel_rfl) (fun _ _ _ h => h) (Or.inl ⟨by rfl, ?_⟩) (by assumption) ?_
      rotate_left
      · intro w hSw; rw [hSS.out] at hSw; obtain ⟨sw0, sw1, sw2, sw3, sw4⟩ := hSw; go_simp; try with_reducible rfl
      simp only [Act.put]
      refine WpN.one (i := 15) rfl (by kernel_rfl) fun K hK => ?_
      go_wp2_with (first | (refine (moreClo_any y p bp _ (Blk.drew hBpW) hp1 hp3).mono ?_; rw [HN'.out]; rintro e w5 ⟨rfl, hb5⟩; have hb7 : Below wa.heap.size wa w5 := ext_trans (by go_grown) hb5))
      have hS5 : S w5 := by rw [hSS.out]; exact keep5 hb7 ⟨hcb1, hcm1, e0, e1, e2⟩
      refine hK.out _ _ ⟨fun _ => hS5, ?_⟩
      clear hK K
      try simp only [Act.put, List.setIfInBounds_toArray, List.set_cons_zero, List.set_cons_succ]
      refine WpN.take (i := 16) (v := ?_) rfl (by kernel_rfl) (fun _ _ _ h => h) (Or.inl ⟨by rfl, ?_⟩) (by assumption) ?_
      rotate_left
      · intro w hSw; rw [hSS.out] at hSw; obtain ⟨sw0, sw1, sw2, sw3, sw4⟩ := hSw; go_simp; try with_reducible rfl
      simp only [Act.put, List.setIfInBounds_toArray]
      refine WpN.take (i := 17) (v := ?_) rfl (by kernel_rfl) (fun _ _ _ h => h) (Or.inl ⟨by rfl, ?_⟩) (by assumption) ?_
      rotate_left
      · intro w hSw; rw [hSS.out] at hSw; obtain ⟨sw0, sw1, sw2, sw3, sw4⟩ := hSw; go_simp; try with_reducible rfl
      simp only [Act.put]
      refine WpN.take (i := 18) (v := ?_) rfl (by kernel_rfl) (fun _ _ _ h => h) (Or.inl ⟨by rfl, ?_⟩) (by assumption) ?_
      rotate_left
      · intro w hSw; rw [hSS.out] at hSw; obtain ⟨sw0, sw1, sw2, sw3, sw4⟩ := hSw; go_simp; try with_reducible rfl
      simp only [Act.put]
      have hX5 := hXW.ext hb7
      have hN5 := hNW.ext hb7
      have hB5 := hBW.ext hb7
      have hBp5 := hBpW.ext hb7
      have hbw5 := ext_trans hbwW hb7
      have Ba5 := BaW.ext hb7
      obtain ⟨g2', hA2', _, hgz5, _, hfr5⟩ := hX5.at_ (k := y.b.toNat) (by rw [HD.out.1]; exact hd2)
      obtain rfl : g2 = g2' := by simpa using hA2'
      have hfr6 := hfr5 y.b.toNat
      have hcb5 := cell_keep hb7 hcb1
      clear hA2' hfr5 hS0 hS5 hb5
      refine WpN.one (i := 19) rfl (by kernel_rfl) fun K hK => ?_
      obtain ⟨mv, hmv⟩ : ∃ mv, (if q' + n' < p' then q' + n' else p') = mv := ⟨_, rfl⟩
      rw [hmv]
      have HMV := Lib.hid hmv
      clear hmv
      go_wp2_with fail
      refine hK.out _ _ ⟨fun h => by omega, ?_⟩
      clear hK K
      refine WpN.done (by kernel_rfl) ?_ _
      have hX6 := IOwn.set hX5 y.b.toNat mv
      have hN6 := hN5.far_ (p := ⟨g2, y.b.toNat, none⟩) hgne (.int .i64 mv)
      have hB6 := hB5.far (p := ⟨g2, y.b.toNat, none⟩) hsn (.int .i64 mv)
      have hBp6 := hBp5.far (p := ⟨g2, y.b.toNat, none⟩) hbn (.int .i64 mv)
      have Ba6 := Ba5.far (p := ⟨g2, y.b.toNat, none⟩) (Ne.symm hba) (.int .i64 mv)
      have hbw6 := hbw5.setCell (p := ⟨g2, y.b.toNat, none⟩) (by simp; omega) (.int .i64 mv)
      have HST2 : Hid (RMid (ArcsP s (wtP p) back) (gi l0) (gi l) (gi (l2.set y.b.toNat mv)) (fun z => ArcsT s (wtP p) back j z ∨ z = arcF (wtP p) y)) := Lib.hid (by
        have h := HST.out
        rw [gi_set (by rw [HD.out.1]; exact hd2)]
        simp only [arcF] at h ⊢
        rw [HP'.out, HQ'.out, HN'.out, min_if HMV.out] at h
        rw [HN'.out]
        exact h)
      cases back
      case false =>
        go_wp2_with fail
        go_roundw
        case rel => exact ⟨j + 1, l2.set y.b.toNat mv, by omega, by go_num, Lib.hid ⟨by rw [List.length_set]; exact HD.out.1, HST2.out.mono (arcsT_succ HY.out)⟩, hX6, hN6, hB6, hBp6, hbw6⟩
        case measure => simp [intOf]; omega
      case true =>
        go_wp2_with fail
        obtain ⟨wb, hwb⟩ : ∃ wb : World, wb = w5.setCell ⟨g2, y.b.toNat, none⟩ (.int .i64 mv) := ⟨_, rfl⟩
        rw [← hwb] at hX6 hN6 hB6 hBp6 Ba6 hbw6 ⊢
        obtain ⟨l3, hl3⟩ : ∃ l3, l2.set y.b.toNat mv = l3 := ⟨_, rfl⟩
        rw [hl3] at hX6 HST2
        have HLL : Hid (l3.length = l.length) := Lib.hid (by rw [← hl3, List.length_set]; exact HD.out.1)
        have HSR := Lib.hid (HST2.out.step HN.out.2.2.2 (x := arcB (wtP p) y) ⟨y, HYM.out, .inr ⟨rfl, rfl⟩⟩ (mono_add _))
        clear hwb hl3 hXW hNW hBW hBpW hbwW BaW hX5 hN5 hB5 hBp5 hbw5 Ba5 hb7 hcb1 hcm1 e0 e1 e2 hcb5 hfr6 hgz5 hq0 hq1 w0' w2' hwrap HP' HQ' HN' HMV HST HZL hSS S
        obtain ⟨g2', hA2', _, _, hc2, hf2⟩ := hX6.at_ (k := y.a.toNat) (by rw [HLL.out]; exact ha2)
        obtain rfl : g2 = g2' := by simpa using hA2'
        obtain ⟨g1', hA1', _, _, hc1, hf1⟩ := hN6.at_ (k := y.b.toNat) (by omega)
        obtain rfl : g1 = g1' := by simpa using hA1'
        clear hA2' hA1'
        have hcb1 := hc2 y.a.toNat (by rw [HLL.out]; exact ha2)
        have hcm1 := hc1 y.b.toNat (by omega)
        have e0 := Ba6.cell 0
        have e1 := Ba6.cell 1
        have e2 := Ba6.cell 2
        simp only [List.getElem?_toArray, List.getElem?_cons_zero, List.getElem?_cons_succ] at e0 e1 e2
        obtain ⟨p', hp'⟩ : ∃ p', gi l3 y.a.toNat = p' := ⟨_, rfl⟩
        obtain ⟨q', hq'⟩ : ∃ q', gi l y.b.toNat = q' := ⟨_, rfl⟩
        obtain ⟨n', hn'⟩ : ∃ n', wtP p y = n' := ⟨_, rfl⟩
        have hq0 := HLOW.out y.b.toNat
        have hq1 := HUP.out y.b.toNat
        obtain ⟨w0', w2'⟩ := hwt y HYM.out
        rw [hp'] at hcb1
        rw [hq'] at hcm1 hq0 hq1
        rw [hn'] at w0' w2'
        have HP' := Lib.hid hp'
        have HQ' := Lib.hid hq'
        have HN' := Lib.hid hn'
        have hwrap : IntKind.i64.wrap (q' + n') = q' + n' := IntWalk.i64_in _ (by omega)
        have hzlen : ((l3.length : Nat) : Int) = (l.length : Int) := by rw [HLL.out]
        have HZL := Lib.hid hzlen
        clear hp' hq' hn' hc2 hf2 hc1 hf1 hzlen
        obtain ⟨S, hSS⟩ : ∃ S : World → Prop, Hid (S = fun w' => w'.cell? ⟨g2, y.a.toNat, none⟩ = some (.int .i64 p') ∧ w'.cell? ⟨g1, y.b.toNat, none⟩ = some (.int .i64 q') ∧ w'.cell? ⟨ba, 0, none⟩ = some (.int .i64 y.a) ∧ w'.cell? ⟨ba, 1, none⟩ = some (.int .i64 y.b) ∧ w'.cell? ⟨ba, 2, none⟩ = some (.int .i64 y.cost)) := ⟨_, Lib.hid rfl⟩
        have hS0 : S wb.drew := by rw [hSS.out]; exact ⟨hcb1, hcm1, e0, e1, e2⟩
        refine WpN.begin (S := S) 19 (by kernel_rfl) ?_
        refine WpN.take (i := 0) (v := ?_) rfl (by kernel_rfl) (fun _ _ _ h => h) (Or.inl ⟨by rfl, ?_⟩) (by assumption) ?_
        rotate_left
        · intro w hSw; rw [hSS.out] at hSw; obtain ⟨sw0, sw1, sw2, sw3, sw4⟩ := hSw; go_simp; try with_reducible rfl
        simp only [Act.put, List.setIfInBounds_toArray]
        refine WpN.take (i := 1) (v := ?_) rfl (by kernel_rfl) (fun _ _ _ h => h) (Or.inl ⟨by rfl, ?_⟩) (by assumption) ?_
        rotate_left
        · intro w hSw; rw [hSS.out] at hSw; obtain ⟨sw0, sw1, sw2, sw3, sw4⟩ := hSw; go_simp; try with_reducible rfl
        simp only [Act.put]
        refine WpN.take (i := 2) (v := ?_) rfl (by kernel_rfl) (fun _ _ _ h => h) (Or.inl ⟨by rfl, ?_⟩) (by assumption) ?_
        rotate_left
        · intro w hSw; rw [hSS.out] at hSw; obtain ⟨sw0, sw1, sw2, sw3, sw4⟩ := hSw; go_simp; try with_reducible rfl
        simp only [Act.put]
        refine WpN.take (i := 3) (v := ?_) rfl (by kernel_rfl) (fun _ _ _ h => h) (Or.inl ⟨by rfl, ?_⟩) (by assumption) ?_
        rotate_left
        · intro w hSw; rw [hSS.out] at hSw; obtain ⟨sw0, sw1, sw2, sw3, sw4⟩ := hSw; go_simp; try with_reducible rfl
        simp only [Act.put]
        refine WpN.take (i := 4) (v := ?_) rfl (by kernel_rfl) (fun _ _ _ h => h) (Or.inl ⟨by rfl, ?_⟩) (by assumption) ?_
        rotate_left
        · intro w hSw; rw [hSS.out] at hSw; obtain ⟨sw0, sw1, sw2, sw3, sw4⟩ := hSw; go_simp; try with_reducible rfl
        simp only [Act.put]
        refine WpN.take (i := 5) (v := ?_) rfl (by kernel_rfl) (fun _ _ _ h => h) (Or.inl ⟨by rfl, ?_⟩) (by assumption) ?_
        rotate_left
        · intro w hSw; rw [hSS.out] at hSw; obtain ⟨sw0, sw1, sw2, sw3, sw4⟩ := hSw; go_simp; try with_reducible rfl
        simp only [Act.put]
        refine WpN.take (i := 6) (v := ?_) rfl (by kernel_rfl) (fun _ _ _ h => h) (Or.inl ⟨by rfl, ?_⟩) (by assumption) ?_
        rotate_left
        · intro w hSw; rw [hSS.out] at hSw; obtain ⟨sw0, sw1, sw2, sw3, sw4⟩ := hSw; go_simp; try with_reducible rfl
        simp only [Act.put]
        refine WpN.take (i := 7) (v := ?_) rfl (by kernel_rfl) (fun _ _ _ h => h) (Or.inl ⟨by rfl, ?_⟩) (by assumption) ?_
        rotate_left
        · intro w hSw; rw [hSS.out] at hSw; obtain ⟨sw0, sw1, sw2, sw3, sw4⟩ := hSw; go_simp; try with_reducible rfl
        simp only [Act.put]
        refine WpN.take (i := 8) (v := ?_) rfl (by kernel_rfl) (fun _ _ _ h => h) (Or.inl ⟨by rfl, ?_⟩) (by assumption) ?_
        rotate_left
        · intro w hSw; rw [hSS.out] at hSw; obtain ⟨sw0, sw1, sw2, sw3, sw4⟩ := hSw; go_simp; try with_reducible rfl
        simp only [Act.put]
        refine WpN.take (i := 9) (v := ?_) rfl (by kernel_rfl) (fun _ _ _ h => h) (Or.inl ⟨by rfl, ?_⟩) (by assumption) ?_
        rotate_left
        · intro w hSw; rw [hSS.out] at hSw; obtain ⟨sw0, sw1, sw2, sw3, sw4⟩ := hSw; go_simp; try with_reducible rfl
        simp only [Act.put]
        refine WpN.take (i := 10) (v := ?_) rfl (by kernel_rfl) (fun _ _ _ h => h) (Or.inl ⟨by rfl, ?_⟩) (by assumption) ?_
        rotate_left
        · intro w hSw; rw [hSS.out] at hSw; obtain ⟨sw0, sw1, sw2, sw3, sw4⟩ := hSw; go_simp; try with_reducible rfl
        simp only [Act.put]
        refine WpN.take (i := 11) (v := ?_) rfl (by kernel_rfl) (fun _ _ _ h => h) (Or.inl ⟨by rfl, ?_⟩) (by assumption) ?_
        rotate_left
        · intro w hSw; rw [hSS.out] at hSw; obtain ⟨sw0, sw1, sw2, sw3, sw4⟩ := hSw; go_simp; try with_reducible rfl
        simp only [Act.put]
        refine WpN.take (i := 12) (v := ?_) rfl (by kernel_rfl) (fun _ _ _ h => h) (Or.inl ⟨by rfl, ?_⟩) (by assumption) ?_
        rotate_left
        · intro w hSw; rw [hSS.out] at hSw; obtain ⟨sw0, sw1, sw2, sw3, sw4⟩ := hSw; go_simp; try with_reducible rfl
        simp only [Act.put]
        refine WpN.take (i := 13) (v := ?_) rfl (by kernel_rfl) (fun _ _ _ h => h) (Or.inl ⟨by rfl, ?_⟩) (by assumption) ?_
        rotate_left
        · intro w hSw; rw [hSS.out] at hSw; obtain ⟨sw0, sw1, sw2, sw3, sw4⟩ := hSw; go_simp; try with_reducible rfl
        simp only [Act.put]
        refine WpN.take (i := 14) (v := ?_) rfl (by kernel_rfl) (fun _ _ _ h => h) (Or.inl ⟨by rfl, ?_⟩) (by assumption) ?_
        rotate_left
        · intro w hSw; rw [hSS.out] at hSw; obtain ⟨sw0, sw1, sw2, sw3, sw4⟩ := hSw; go_simp; try with_reducible rfl
        simp only [Act.put]
        refine WpN.one (i := 15) rfl (by kernel_rfl) fun K hK => ?_
        go_wp2_with (first | (refine (moreClo_any y p bp _ (Blk.drew hBp6) hp1 hp3).mono ?_; rw [HN'.out]; rintro e w5 ⟨rfl, hb5⟩; have hb7 : Below wb.heap.size wb w5 := ext_trans (by go_grown) hb5))
        have hS5 : S w5 := by rw [hSS.out]; exact keep5 hb7 ⟨hcb1, hcm1, e0, e1, e2⟩
        refine hK.out _ _ ⟨fun _ => hS5, ?_⟩
        clear hK K
        try simp only [Act.put, List.setIfInBounds_toArray, List.set_cons_zero, List.set_cons_succ]
        refine WpN.take (i := 16) (v := ?_) rfl (by kernel_rfl) (fun _ _ _ h => h) (Or.inl ⟨by rfl, ?_⟩) (by assumption) ?_
        rotate_left
        · intro w hSw; rw [hSS.out] at hSw; obtain ⟨sw0, sw1, sw2, sw3, sw4⟩ := hSw; go_simp; try with_reducible rfl
        simp only [Act.put, List.setIfInBounds_toArray]
        refine WpN.take (i := 17) (v := ?_) rfl (by kernel_rfl) (fun _ _ _ h => h) (Or.inl ⟨by rfl, ?_⟩) (by assumption) ?_
        rotate_left
        · intro w hSw; rw [hSS.out] at hSw; obtain ⟨sw0, sw1, sw2, sw3, sw4⟩ := hSw; go_simp; try with_reducible rfl
        simp only [Act.put]
        refine WpN.take (i := 18) (v := ?_) rfl (by kernel_rfl) (fun _ _ _ h => h) (Or.inl ⟨by rfl, ?_⟩) (by assumption) ?_
        rotate_left
        · intro w hSw; rw [hSS.out] at hSw; obtain ⟨sw0, sw1, sw2, sw3, sw4⟩ := hSw; go_simp; try with_reducible rfl
        simp only [Act.put]
        have hX7 := hX6.ext hb7
        have hN7 := hN6.ext hb7
        have hB7 := hB6.ext hb7
        have hBp7 := hBp6.ext hb7
        have hbw7 := ext_trans hbw6 hb7
        have Ba7 := Ba6.ext hb7
        obtain ⟨g2', hA2', _, hgz5, _, hfr5⟩ := hX7.at_ (k := y.a.toNat) (by rw [HLL.out]; exact ha2)
        obtain rfl : g2 = g2' := by simpa using hA2'
        have hfr6 := hfr5 y.a.toNat
        have hcb5 := cell_keep hb7 hcb1
        clear hA2' hfr5 hS0 hS5 hb5
        refine WpN.one (i := 19) rfl (by kernel_rfl) fun K hK => ?_
        obtain ⟨mv, hmv⟩ : ∃ mv, (if q' + n' < p' then q' + n' else p') = mv := ⟨_, rfl⟩
        rw [hmv]
        have HMV := Lib.hid hmv
        clear hmv
        go_wp2_with fail
        refine hK.out _ _ ⟨fun h => by omega, ?_⟩
        clear hK K
        refine WpN.done (by kernel_rfl) ?_ _
        have hX8 := IOwn.set hX7 y.a.toNat mv
        have hN8 := hN7.far_ (p := ⟨g2, y.a.toNat, none⟩) hgne (.int .i64 mv)
        have hB8 := hB7.far (p := ⟨g2, y.a.toNat, none⟩) hsn (.int .i64 mv)
        have hBp8 := hBp7.far (p := ⟨g2, y.a.toNat, none⟩) hbn (.int .i64 mv)
        have Ba8 := Ba7.far (p := ⟨g2, y.a.toNat, none⟩) (Ne.symm hba) (.int .i64 mv)
        have hbw8 := hbw7.setCell (p := ⟨g2, y.a.toNat, none⟩) (by simp; omega) (.int .i64 mv)
        have HSR2 : Hid (RMid (ArcsP s (wtP p) true) (gi l0) (gi l) (gi (l3.set y.a.toNat mv)) (fun z => (ArcsT s (wtP p) true j z ∨ z = arcF (wtP p) y) ∨ z = arcB (wtP p) y)) := Lib.hid (by
          have h := HSR.out
          rw [gi_set (by rw [HLL.out]; exact ha2)]
          simp only [arcB] at h ⊢
          rw [HP'.out, HQ'.out, HN'.out, min_if HMV.out] at h
          rw [HN'.out]
          exact h)
        go_wp2_with fail
        go_roundw
        case rel => exact ⟨j + 1, l3.set y.a.toNat mv, by omega, by go_num, Lib.hid ⟨by rw [List.length_set]; exact HLL.out, HSR2.out.mono (arcsT_back HY.out)⟩, hX8, hN8, hB8, hBp8, hbw8⟩
        case measure => simp [intOf]; omega
end Go.Proofs.Ytcgnalpcbcpmkaa
