/- The walk of the law TurnSays. -/
import Derived.Test.YtcgnalpcbcpmkaaRefRev
import Derived.Test.YtcgnalpcbcpmkaaRefPart
import Derived.Test.YtcgnalpcbcpmkaaSame
import Derived.Test.YtcgnalpcbcpmkaaRefCheck
namespace Go.Proofs.Ytcgnalpcbcpmkaa
open Go.RowKit

theorem revOut_bad {g : GraphD} (h : ¬ graphErr g = 0) : revErr g = graphErr g ∧ revOut g = zeroG := by
  have h1 : revErr g = graphErr g := by unfold revErr; rw [if_neg h]
  exact ⟨h1, by unfold revOut; rw [if_neg (by rw [h1]; exact h)]⟩
theorem onlyOut_bad {g : GraphD} {n : List Bool} (h : ¬ graphErr g = 0) : onlyErr g n.length = graphErr g ∧ onlyOut g n = zeroG := by
  have h1 : onlyErr g n.length = graphErr g := by unfold onlyErr; rw [if_neg h]
  exact ⟨h1, by unfold onlyOut; rw [if_neg (by rw [h1]; exact h)]⟩
theorem onlyOut_short {g : GraphD} {n : List Bool} (h : graphErr g = 0) (hl : ¬ n.length = g.lives.length) : onlyErr g n.length = 5 ∧ onlyOut g n = zeroG := by
  have h1 : onlyErr g n.length = 5 := by unfold onlyErr; rw [if_pos h, if_neg hl]
  exact ⟨h1, by unfold onlyOut; rw [if_neg (by rw [h1]; decide)]⟩
theorem onlyOut_yes {g : GraphD} {n : List Bool} (h : graphErr g = 0) (hl : n.length = g.lives.length) : onlyErr g n.length = 0 ∧ onlyOut g n = partD g n := by
  have h1 : onlyErr g n.length = 0 := by unfold onlyErr; rw [if_pos h, if_pos hl]
  exact ⟨h1, by unfold onlyOut; rw [if_pos h1]⟩
abbrev zC : Array Value := #[.int .i64 0, .slice none 0 0, .slice none 0 0]

set_option maxRecDepth 100000 in
set_option maxHeartbeats 4000000 in
theorem turnSays_calls (A A' : Option Addr) (c c' : Nat) (g : GraphD) {w : World} (hG : GraphAt w A c A' c' g) (Ak : Option Addr) (ck : Nat) (keep : List Bool) (hkl0 : keep.length ≤ ck) (hkm0 : ck ≤ maxLen) (hK : SlAt RBool 1 w Ak keep) :
    Calls Try.prog 11 #[gV A c A' c' g, .slice Ak keep.length ck] w fun en w' => en = .returned (.bool true) ∧ Below w.heap.size w w' := by
  have hkm : keep.length ≤ maxLen := Nat.le_trans hkl0 hkm0
  clear hkl0 hkm0
  by_cases h0 : graphErr g = 0
  case neg =>
    have HV := Lib.hid h0
    have HR := Lib.hid (revOut_bad h0)
    have HO := Lib.hid (onlyOut_bad (n := keep) h0)
    have hn : (graphErr g == 0) = false := by simp [h0]
    clear h0
    go_enter Try.func11, Try.ntmps11
    go_wp2_with fail
    refine (refGraph_any _ _ _ _ g _ (hG.ext (by go_grown))).mono ?_
    rintro e w1 ⟨rfl, hb1⟩
    obtain ⟨B0, c1, c2, c3⟩ := (Blk.new w 28 (gC A c A' c' g)).go hb1
    have hbw : Below w.heap.size w w1 := ext_trans (by go_grown) hb1
    clear hb1
    go_wp2_with fail
    have B0 := (B0.alloc (Obj.cells zC 28)).alloc (Obj.cells zC 28)
    have B7 := (Blk.new w1 28 zC).alloc (Obj.cells zC 28)
    have B8 : Blk ((w1.alloc (Obj.cells zC 28)).alloc (Obj.cells zC 28)) (w1.heap.size + 1) 28 zC := Blk.new_ (by simp)
    have hbw := ext_alloc (ext_alloc hbw (Obj.cells zC 28)) (Obj.cells zC 28)
    have hGb : GraphAt ((w1.alloc (Obj.cells zC 28)).alloc (Obj.cells zC 28)) none 0 none 0 zeroG := zero_at _
    have hGp : GraphAt ((w1.alloc (Obj.cells zC 28)).alloc (Obj.cells zC 28)) none 0 none 0 zeroG := zero_at _
    refine (reverse_any _ _ _ _ g _ (hG.ext hbw)).mono ?_
    rw [HR.out.1, HR.out.2]
    rintro e w2 ⟨Ar, cr, Ar', cr', rfl, hGr, hb3⟩
    have hGb := hGb.ext hb3
    have hGp := hGp.ext hb3
    obtain ⟨B0, c1, c2, c3⟩ := B0.go hb3
    obtain ⟨B7, d1, d2, d3⟩ := B7.go hb3
    obtain ⟨B8, e1, e2, e3⟩ := B8.go hb3
    have hbw := ext_trans hbw hb3
    clear hb3
    go_wp2_with fail
    have B9 := Blk.new w2 28 (gC Ar cr Ar' cr' zeroG)
    have hGr := hGr.ext (ext_alloc (Below.refl _ _) (Obj.cells (gC Ar cr Ar' cr' zeroG) 28))
    have hGb := hGb.ext (ext_alloc (Below.refl _ _) (Obj.cells (gC Ar cr Ar' cr' zeroG) 28))
    have hGp := hGp.ext (ext_alloc (Below.refl _ _) (Obj.cells (gC Ar cr Ar' cr' zeroG) 28))
    refine (only_any _ _ _ _ _ _ g keep _ (hG.ext (ext_alloc hbw _)) (hK.ext RBool.stable (ext_alloc hbw _)) hkm).mono ?_
    rw [HO.out.1, HO.out.2]
    rintro e w3 ⟨Ao, co, Ao', co', rfl, hGo, hb4⟩
    have hGr := hGr.ext hb4
    have hGb := hGb.ext hb4
    have hGp := hGp.ext hb4
    obtain ⟨B7, d1, d2, d3⟩ := (B7.alloc (Obj.cells (gC Ar cr Ar' cr' zeroG) 28)).go hb4
    obtain ⟨B8, e1, e2, e3⟩ := (B8.alloc (Obj.cells (gC Ar cr Ar' cr' zeroG) 28)).go hb4
    obtain ⟨B9, f1, f2, f3⟩ := B9.go hb4
    have hbw := ext_trans (ext_alloc hbw _) hb4
    clear hb4
    go_wp2_with fail
    have hx := ext_alloc (Below.refl w3.heap.size w3) (Obj.cells (gC Ao co Ao' co' zeroG) 28)
    have B11 := Blk.new w3 28 (gC Ao co Ao' co' zeroG)
    refine (sameGraph_any Ar Ar' none none cr cr' 0 0 zeroG _ (hGr.ext hx) (hGb.ext hx)).mono ?_
    rintro e w4 ⟨rfl, hb5⟩
    have hGo := (hGo.ext hx).ext hb5
    have hGp := (hGp.ext hx).ext hb5
    obtain ⟨B8, e1, e2, e3⟩ := (B8.alloc (Obj.cells (gC Ao co Ao' co' zeroG) 28)).go hb5
    obtain ⟨B11, f1, f2, f3⟩ := B11.go hb5
    have hbw := ext_trans (ext_alloc hbw _) hb5
    clear hb5 hx
    go_wp2_with fail
    refine (sameGraph_any Ao Ao' none none co co' 0 0 zeroG _ hGo hGp).mono ?_
    rintro e w5 ⟨rfl, hb6⟩
    have hbw := ext_trans hbw hb6
    clear hb6
    go_wp2_with fail
    go_ret
    exact ⟨by simp, hbw⟩

  have hV := valid_of h0
  have H0 := Lib.hid h0
  clear h0
  go_enter Try.func11, Try.ntmps11
  go_wp2_with fail
  refine (refGraph_any _ _ _ _ g _ (hG.ext (by go_grown))).mono ?_
  rw [H0.out]
  rintro e w1 ⟨rfl, hb1⟩
  obtain ⟨B0, c1, c2, c3⟩ := (Blk.new w 28 (gC A c A' c' g)).go hb1
  have hbw : Below w.heap.size w w1 := ext_trans (by go_grown) hb1
  clear hb1
  have hlt1 : w.heap.size < w1.heap.size := c3
  go_wp2_with fail
  refine (refReverse_any _ _ _ _ g _ (hG.ext (ext_alloc (ext_alloc hbw _) _)) hV).mono ?_
  rintro e w2 ⟨Ab, cb, Ab', cb', rfl, hGb, hb2⟩
  obtain ⟨B0, c1, c2, c3⟩ := ((B0.alloc (Obj.cells zC 28)).alloc (Obj.cells zC 28)).go hb2
  obtain ⟨B7, d1, d2, d3⟩ := ((Blk.new w1 28 zC).alloc (Obj.cells zC 28)).go hb2
  obtain ⟨B8, e1, e2, e3⟩ := (Blk.new_ (n := w1.heap.size + 1) (w := w1.alloc (Obj.cells zC 28)) (t := 28) (cs := zC) (by simp)).go hb2
  have hbw : Below w.heap.size w w2 := ext_trans (ext_alloc (ext_alloc hbw _) _) hb2
  clear hb2
  have hz : (w1.heap.size : Nat) = w1.heap.size := rfl
  obtain ⟨g7, hg7⟩ : ∃ g7, g7 = w1.heap.size := ⟨_, rfl⟩
  have hw1 : w.heap.size < g7 := by rw [hg7]; exact hlt1
  rw [← hg7] at B7 B8 d1 d2 d3 e1 e2 e3 ⊢
  clear hg7 hz hlt1
  have K2 : KeepsT w2 (((w2.setCell ⟨g7, 0, none⟩ (.int .i64 (revOut g).h)).setCell ⟨g7, 1, none⟩ (.slice Ab (revOut g).lives.length cb)).setCell ⟨g7, 2, none⟩ (.slice Ab' (revOut g).edges.length cb')) :=
    (((KeepsT.refl w2).set B7 0 _).set (B7.set_ 0 _) 1 _).set ((B7.set_ 0 _).set_ 1 _) 2 _
  have C7 : Blk (((w2.setCell ⟨g7, 0, none⟩ (.int .i64 (revOut g).h)).setCell ⟨g7, 1, none⟩ (.slice Ab (revOut g).lives.length cb)).setCell ⟨g7, 2, none⟩ (.slice Ab' (revOut g).edges.length cb')) g7 28 (gC Ab cb Ab' cb' (revOut g)) := by
    simpa [gC, zC] using (((B7.set_ 0 (.int .i64 (revOut g).h)).set_ 1 (.slice Ab (revOut g).lives.length cb)).set_ 2 (.slice Ab' (revOut g).edges.length cb'))
  have far3 : ∀ b cs, b ≠ g7 → Blk w2 b 28 cs → Blk (((w2.setCell ⟨g7, 0, none⟩ (.int .i64 (revOut g).h)).setCell ⟨g7, 1, none⟩ (.slice Ab (revOut g).lives.length cb)).setCell ⟨g7, 2, none⟩ (.slice Ab' (revOut g).edges.length cb')) b 28 cs := fun b cs hb h => ((h.far hb _).far hb _).far hb _
  have C0 := far3 _ _ (by omega) B0
  have C8 := far3 _ _ (by omega) B8
  have hbw : Below w.heap.size w (((w2.setCell ⟨g7, 0, none⟩ (.int .i64 (revOut g).h)).setCell ⟨g7, 1, none⟩ (.slice Ab (revOut g).lives.length cb)).setCell ⟨g7, 2, none⟩ (.slice Ab' (revOut g).edges.length cb')) := ((hbw.setCell (by simp; omega) _).setCell (by simp; omega) _).setCell (by simp; omega) _
  clear far3 B0
  by_cases hl : keep.length = g.lives.length
  case neg =>
    have HO := Lib.hid (onlyOut_short (n := keep) H0.out hl)
    have hd : ((keep.length : Int) == (g.lives.length : Int)) = false := by simp; omega
    clear hl
    go_wp2_with fail
    clear c1 c2 c3 d1 d2 d3 e1 e2 e3 B7 B8
    have hGb := hGb _ K2
    have hGp : GraphAt (((w2.setCell ⟨g7, 0, none⟩ (.int .i64 (revOut g).h)).setCell ⟨g7, 1, none⟩ (.slice Ab (revOut g).lives.length cb)).setCell ⟨g7, 2, none⟩ (.slice Ab' (revOut g).edges.length cb')) none 0 none 0 zeroG := zero_at _
    clear K2
    generalize ((w2.setCell ⟨g7, 0, none⟩ (.int .i64 (revOut g).h)).setCell ⟨g7, 1, none⟩ (.slice Ab (revOut g).lives.length cb)).setCell ⟨g7, 2, none⟩ (.slice Ab' (revOut g).edges.length cb') = wq at *
    obtain ⟨B0, c1, c2, c3⟩ : ∃ _ : Blk wq w.heap.size 28 (gC A c A' c' g), _ := ⟨C0, C0.facts⟩
    have B7 := C7
    have B8 := C8
    refine (reverse_any _ _ _ _ g _ (hG.ext hbw)).mono ?_
    rintro e w2 ⟨Ar, cr, Ar', cr', rfl, hGr, hb3⟩
    have hGb := hGb.ext hb3
    have hGp := hGp.ext hb3
    obtain ⟨B0, c1, c2, c3⟩ := B0.go hb3
    obtain ⟨B7, d1, d2, d3⟩ := B7.go hb3
    obtain ⟨B8, e1, e2, e3⟩ := B8.go hb3
    have hbw := ext_trans hbw hb3
    clear hb3
    go_wp2_with fail
    have B9 := Blk.new w2 28 (gC Ar cr Ar' cr' (revOut g))
    have hGr := hGr.ext (ext_alloc (Below.refl _ _) (Obj.cells (gC Ar cr Ar' cr' (revOut g)) 28))
    have hGb := hGb.ext (ext_alloc (Below.refl _ _) (Obj.cells (gC Ar cr Ar' cr' (revOut g)) 28))
    have hGp := hGp.ext (ext_alloc (Below.refl _ _) (Obj.cells (gC Ar cr Ar' cr' (revOut g)) 28))
    refine (only_any _ _ _ _ _ _ g keep _ (hG.ext (ext_alloc hbw _)) (hK.ext RBool.stable (ext_alloc hbw _)) hkm).mono ?_
    rw [HO.out.1, HO.out.2]
    rintro e w3 ⟨Ao, co, Ao', co', rfl, hGo, hb4⟩
    have hGr := hGr.ext hb4
    have hGb := hGb.ext hb4
    have hGp := hGp.ext hb4
    obtain ⟨B7, d1, d2, d3⟩ := (B7.alloc (Obj.cells (gC Ar cr Ar' cr' (revOut g)) 28)).go hb4
    obtain ⟨B8, e1, e2, e3⟩ := (B8.alloc (Obj.cells (gC Ar cr Ar' cr' (revOut g)) 28)).go hb4
    obtain ⟨B9, f1, f2, f3⟩ := B9.go hb4
    have hbw := ext_trans (ext_alloc hbw _) hb4
    clear hb4
    go_wp2_with fail
    have hx := ext_alloc (Below.refl w3.heap.size w3) (Obj.cells (gC Ao co Ao' co' zeroG) 28)
    have B11 := Blk.new w3 28 (gC Ao co Ao' co' zeroG)
    refine (sameGraph_any Ar Ar' Ab Ab' cr cr' cb cb' (revOut g) _ (hGr.ext hx) (hGb.ext hx)).mono ?_
    rintro e w4 ⟨rfl, hb5⟩
    have hGo := (hGo.ext hx).ext hb5
    have hGp := (hGp.ext hx).ext hb5
    obtain ⟨B8, e1, e2, e3⟩ := (B8.alloc (Obj.cells (gC Ao co Ao' co' zeroG) 28)).go hb5
    obtain ⟨B11, f1, f2, f3⟩ := B11.go hb5
    have hbw := ext_trans (ext_alloc hbw _) hb5
    clear hb5 hx
    go_wp2_with fail
    refine (sameGraph_any Ao Ao' none none co co' 0 0 zeroG _ hGo hGp).mono ?_
    rintro e w5 ⟨rfl, hb6⟩
    have hbw := ext_trans hbw hb6
    clear hb6
    go_wp2_with fail
    go_ret
    exact ⟨by simp, hbw⟩

  have HO := Lib.hid (onlyOut_yes (n := keep) H0.out hl)
  have HL := Lib.hid hl
  have hd : ((keep.length : Int) == (g.lives.length : Int)) = true := by simp [hl]
  clear hl
  go_wp2_with fail
  clear c1 c2 c3 d1 d2 d3 e1 e2 e3 B7 B8
  obtain ⟨wq, hwq⟩ : ∃ wq : World, wq = (((w2.setCell ⟨g7, 0, none⟩ (.int .i64 (revOut g).h)).setCell ⟨g7, 1, none⟩ (.slice Ab (revOut g).lives.length cb)).setCell ⟨g7, 2, none⟩ (.slice Ab' (revOut g).edges.length cb')) := ⟨_, rfl⟩
  rw [← hwq] at K2 C7 C0 C8 hbw ⊢
  clear hwq
  refine (refPart_any _ _ _ _ _ _ g keep _ (hG.ext hbw) hV (hK.ext RBool.stable hbw) HL.out).mono ?_
  rintro e w3 ⟨Ap, cp, Ap', cp', rfl, hGp, hb2⟩
  have K3 : KeepsT w2 w3 := fun t b cs ht h => (K2 t b cs ht h).ext hb2
  have C0 := C0.ext hb2
  have C7 := C7.ext hb2
  obtain ⟨C8, e1, e2, e3⟩ := C8.go hb2
  have hbw := ext_trans hbw hb2
  clear hb2 K2
  obtain ⟨c1, c2, c3⟩ := C0.facts
  have K4 : KeepsT w3 (((w3.setCell ⟨g7 + 1, 0, none⟩ (.int .i64 (partD g keep).h)).setCell ⟨g7 + 1, 1, none⟩ (.slice Ap (partD g keep).lives.length cp)).setCell ⟨g7 + 1, 2, none⟩ (.slice Ap' (partD g keep).edges.length cp')) :=
    (((KeepsT.refl w3).set C8 0 _).set (C8.set_ 0 _) 1 _).set ((C8.set_ 0 _).set_ 1 _) 2 _
  have D8 : Blk (((w3.setCell ⟨g7 + 1, 0, none⟩ (.int .i64 (partD g keep).h)).setCell ⟨g7 + 1, 1, none⟩ (.slice Ap (partD g keep).lives.length cp)).setCell ⟨g7 + 1, 2, none⟩ (.slice Ap' (partD g keep).edges.length cp')) (g7 + 1) 28 (gC Ap cp Ap' cp' (partD g keep)) := by
    simpa [gC, zC] using (((C8.set_ 0 (.int .i64 (partD g keep).h)).set_ 1 (.slice Ap (partD g keep).lives.length cp)).set_ 2 (.slice Ap' (partD g keep).edges.length cp'))
  have far3 : ∀ b cs, b ≠ g7 + 1 → Blk w3 b 28 cs → Blk (((w3.setCell ⟨g7 + 1, 0, none⟩ (.int .i64 (partD g keep).h)).setCell ⟨g7 + 1, 1, none⟩ (.slice Ap (partD g keep).lives.length cp)).setCell ⟨g7 + 1, 2, none⟩ (.slice Ap' (partD g keep).edges.length cp')) b 28 cs := fun b cs hb h => ((h.far hb _).far hb _).far hb _
  have D0 := far3 _ _ (by omega) C0
  have D7 := far3 _ _ (by omega) C7
  have hbw : Below w.heap.size w (((w3.setCell ⟨g7 + 1, 0, none⟩ (.int .i64 (partD g keep).h)).setCell ⟨g7 + 1, 1, none⟩ (.slice Ap (partD g keep).lives.length cp)).setCell ⟨g7 + 1, 2, none⟩ (.slice Ap' (partD g keep).edges.length cp')) := ((hbw.setCell (by simp; omega) _).setCell (by simp; omega) _).setCell (by simp; omega) _
  have hGb := hGb _ (fun t b cs ht h => K4 t b cs ht (K3 t b cs ht h))
  have hGp := hGp _ K4
  clear far3 K3 K4
  all_goals
    go_wp2_with fail
    clear c1 c2 c3 e1 e2 e3 C0 C7 C8
    obtain ⟨wq, hwq⟩ : ∃ wq : World, wq = ((w3.setCell ⟨g7 + 1, 0, none⟩ (.int .i64 (partD g keep).h)).setCell ⟨g7 + 1, 1, none⟩ (.slice Ap (partD g keep).lives.length cp)).setCell ⟨g7 + 1, 2, none⟩ (.slice Ap' (partD g keep).edges.length cp') := ⟨_, rfl⟩
    rw [← hwq] at D0 D7 D8 hbw hGb hGp ⊢
    clear hwq
    obtain ⟨B0, c1, c2, c3⟩ : ∃ _ : Blk wq w.heap.size 28 (gC A c A' c' g), _ := ⟨D0, D0.facts⟩
    have B7 := D7
    have B8 := D8
    refine (reverse_any _ _ _ _ g _ (hG.ext hbw)).mono ?_
    rintro e w2 ⟨Ar, cr, Ar', cr', rfl, hGr, hb3⟩
    have hGb := hGb.ext hb3
    have hGp := hGp.ext hb3
    obtain ⟨B0, c1, c2, c3⟩ := B0.go hb3
    obtain ⟨B7, d1, d2, d3⟩ := B7.go hb3
    obtain ⟨B8, e1, e2, e3⟩ := B8.go hb3
    have hbw := ext_trans hbw hb3
    clear hb3
    go_wp2_with fail
    have B9 := Blk.new w2 28 (gC Ar cr Ar' cr' (revOut g))
    have hGr := hGr.ext (ext_alloc (Below.refl _ _) (Obj.cells (gC Ar cr Ar' cr' (revOut g)) 28))
    have hGb := hGb.ext (ext_alloc (Below.refl _ _) (Obj.cells (gC Ar cr Ar' cr' (revOut g)) 28))
    have hGp := hGp.ext (ext_alloc (Below.refl _ _) (Obj.cells (gC Ar cr Ar' cr' (revOut g)) 28))
    refine (only_any _ _ _ _ _ _ g keep _ (hG.ext (ext_alloc hbw _)) (hK.ext RBool.stable (ext_alloc hbw _)) hkm).mono ?_
    rw [HO.out.1, HO.out.2]
    rintro e w3 ⟨Ao, co, Ao', co', rfl, hGo, hb4⟩
    have hGr := hGr.ext hb4
    have hGb := hGb.ext hb4
    have hGp := hGp.ext hb4
    obtain ⟨B7, d1, d2, d3⟩ := (B7.alloc (Obj.cells (gC Ar cr Ar' cr' (revOut g)) 28)).go hb4
    obtain ⟨B8, e1, e2, e3⟩ := (B8.alloc (Obj.cells (gC Ar cr Ar' cr' (revOut g)) 28)).go hb4
    obtain ⟨B9, f1, f2, f3⟩ := B9.go hb4
    have hbw := ext_trans (ext_alloc hbw _) hb4
    clear hb4
    go_wp2_with fail
    have hx := ext_alloc (Below.refl w3.heap.size w3) (Obj.cells (gC Ao co Ao' co' (partD g keep)) 28)
    have B11 := Blk.new w3 28 (gC Ao co Ao' co' (partD g keep))
    refine (sameGraph_any Ar Ar' Ab Ab' cr cr' cb cb' (revOut g) _ (hGr.ext hx) (hGb.ext hx)).mono ?_
    rintro e w4 ⟨rfl, hb5⟩
    have hGo := (hGo.ext hx).ext hb5
    have hGp := (hGp.ext hx).ext hb5
    obtain ⟨B8, e1, e2, e3⟩ := (B8.alloc (Obj.cells (gC Ao co Ao' co' (partD g keep)) 28)).go hb5
    obtain ⟨B11, f1, f2, f3⟩ := B11.go hb5
    have hbw := ext_trans (ext_alloc hbw _) hb5
    clear hb5 hx
    go_wp2_with fail
    refine (sameGraph_any Ao Ao' Ap Ap' co co' cp cp' (partD g keep) _ hGo hGp).mono ?_
    rintro e w5 ⟨rfl, hb6⟩
    have hbw := ext_trans hbw hb6
    clear hb6
    go_wp2_with fail
    go_ret
    exact ⟨by simp, hbw⟩
end Go.Proofs.Ytcgnalpcbcpmkaa
