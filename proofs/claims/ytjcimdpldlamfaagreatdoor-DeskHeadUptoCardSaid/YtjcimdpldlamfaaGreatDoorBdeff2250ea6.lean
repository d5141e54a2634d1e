/- Several texts in one: At, Edges, Spoil2, Line, BuildS. -/
import Derived.Shelf.Strings.BuilderK
import Derived.Lib.FrozenHead2
import Derived.Lib.OthersKept
import Derived.Test.YtjcimdpldlamfaaGreatDoorBd1aa46607c4
import Derived.Test.YtjcimdpldlamfaaGreatDoorBd811509897b
import Derived.Test.YtjcimdpldlamfaaGreatDoorBd9cdc4f3309
import Derived.Test.YtjcimdpldlamfaaGreatDoorBd96fdae9b88
import Derived.Test.YtjcimdpldlamfaaGreatDoorBd069242f7b3
import Derived.Test.YtjcimdpldlamfaaGreatDoorBd002cafd2b4
import Derived.Test.YtjcimdpldlamfaaGreatDoorBd2f7b3eaff4
import Derived.Test.YtjcimdpldlamfaaGreatDoorBdda53a8748f
import Derived.Test.YtjcimdpldlamfaaGreatDoorBdda32f21b61
/- The walk of graph.At. -/
namespace Go.Proofs.YtjcimdpldlamfaaGreatDoor
open Go.RowKit

/-- What graph.At tells. -/
def GAtOut (g : GraphD) (t : Int) (w : World) (e : Ending) (w' : World) : Prop := ∃ A c A' c', e = .returned (.tuple #[snapV A c A' c' (atD g t), .int .i64 (atErr g t)]) ∧ SnapNew w.heap.size w' A c A' c' (atD g t) ∧ Below w.heap.size w w'
set_option maxRecDepth 100000 in
set_option maxHeartbeats 2000000 in
theorem at_any (A A' : Option Addr) (c c' : Nat) (g : GraphD) (t : Int) (w : World) (hG : GraphAt w A c A' c' g) :
  Calls Tryz.prog 101 #[gV A c A' c' g, .int .i64 t] w (GAtOut g t w) := by
 have m1 : g.lives.length ≤ 9223372036854775807 := Nat.le_trans hG.lc hG.cm
 have m2 : g.edges.length ≤ 9223372036854775807 := Nat.le_trans hG.lc' hG.cm'
 by_cases h0 : graphErr g = 0
 case neg =>
  have HE : Hid (atErr g t = graphErr g) := Lib.hid (by unfold atErr; rw [if_neg h0])
  have HO : Hid (atD g t = ⟨[], []⟩) := Lib.hid (atD_no (by rw [HE.out]; exact h0))
  have hn : (graphErr g != 0) = true := by simp [h0]
  clear h0
  go_enter Tryz.func101, Tryz.ntmps101
  go_wp2_with fail
  refine (check_any _ _ _ _ g _ (hG.ext (by go_grown))).mono ?_
  rintro e w1 ⟨rfl, hb1⟩
  have hbw : Below w.heap.size w w1 := ext_trans (by go_grown) hb1
  obtain ⟨B1, s1, s2, s3⟩ := Blk.go (g := w.heap.size + 1) (t := 86) (cs := #[.slice none 0 0, .slice none 0 0]) (Blk.new_ (by simp)) hb1
  go_wp2_with fail
  unfold GAtOut
  rw [HE.out, HO.out]
  refine bodyPost_ret (v := .tuple #[snapV none 0 none 0 ⟨[], []⟩, .int .i64 (graphErr g)]) (by simp [results, Tryz.results101, go_sem, s1, s2, s3]) rfl ?_
  exact ⟨none, 0, none, 0, rfl, snap_zero _ _, (hbw.setCell (by simp) _).setCell (by simp) _⟩
 have hV := valid_of h0
 have H0 := Lib.hid h0
 have hh0 := hV.h0
 have hh1 := hV.h1
 have hn12 := hV.nl
 have hne := hV.ne
 clear h0
 by_cases hr : 0 ≤ t ∧ t ≤ g.h - 1
 case neg =>
  have HE : Hid (atErr g t = 1) := Lib.hid (by unfold atErr; rw [if_pos H0.out, if_neg hr])
  have HO : Hid (atD g t = ⟨[], []⟩) := Lib.hid (atD_no (by rw [HE.out]; decide))
  go_enter Tryz.func101, Tryz.ntmps101
  go_wp2_with fail
  refine (check_any _ _ _ _ g _ (hG.ext (by go_grown))).mono ?_
  rw [H0.out]
  rintro e w1 ⟨rfl, hb1⟩
  have hbw : Below w.heap.size w w1 := ext_trans (by go_grown) hb1
  obtain ⟨B1, s1, s2, s3⟩ := Blk.go (g := w.heap.size + 1) (t := 86) (cs := #[.slice none 0 0, .slice none 0 0]) (Blk.new_ (by simp)) hb1
  obtain ⟨B0, c1, c2, c3⟩ := Blk.go (g := w.heap.size) (t := 68) (cs := gC A c A' c' g) ((Blk.new _ _ _).alloc _) hb1
  go_wp2_with fail
  refine (within_no t 0 (g.h - 1) _ (by omega)).mono ?_
  rintro e w2 ⟨rfl, rfl⟩
  go_wp2_with fail
  unfold GAtOut
  rw [HE.out, HO.out]
  refine bodyPost_ret (v := .tuple #[snapV none 0 none 0 ⟨[], []⟩, .int .i64 1]) (by simp [results, Tryz.results101, go_sem, s1, s2, s3]) rfl ?_
  exact ⟨none, 0, none, 0, rfl, snap_zero _ _, (hbw.setCell (by simp) _).setCell (by simp) _⟩
 have HE : Hid (atErr g t = 0) := Lib.hid (by unfold atErr; rw [if_pos H0.out, if_pos hr])
 have HO : Hid (atD g t = snapD g t) := Lib.hid (atD_0 HE.out)
 obtain ⟨i0, hi, hz0, hz1, hz2⟩ := info_mark2
 obtain ⟨j0, hje, hy0, hy1, hy2⟩ := info_arc2
 go_enter Tryz.func101, Tryz.ntmps101
 go_wp2_with fail
 refine (check_any _ _ _ _ g _ (hG.ext (by go_grown))).mono ?_
 rw [H0.out]
 rintro e w1 ⟨rfl, hb1⟩
 have hbw : Below w.heap.size w w1 := ext_trans (by go_grown) hb1
 obtain ⟨B1, s1, s2, s3⟩ := Blk.go (g := w.heap.size + 1) (t := 86) (cs := #[.slice none 0 0, .slice none 0 0]) (Blk.new_ (by simp)) hb1
 obtain ⟨B0, c1, c2, c3⟩ := Blk.go (g := w.heap.size) (t := 68) (cs := gC A c A' c' g) ((Blk.new _ _ _).alloc _) hb1
 clear hb1
 go_wp2_with fail
 refine (within_yes t 0 (g.h - 1) _ hr).mono ?_
 rintro e w2 ⟨rfl, rfl⟩
 clear hr
 go_wp2_with fail
 have B5 := Blk.new w1 86 #[.slice none 0 0, .slice none 0 0]
 have B1 := B1.alloc (Obj.cells #[.slice none 0 0, .slice none 0 0] 86)
 have B0 := B0.alloc (Obj.cells #[.slice none 0 0, .slice none 0 0] 86)
 have hbw := ext_alloc hbw (Obj.cells #[.slice none 0 0, .slice none 0 0] 86)
 have hz : w1.heap.size + 1 ≤ (w1.alloc (Obj.cells #[.slice none 0 0, .slice none 0 0] 86)).heap.size := by simp
 have hw1 : w.heap.size + 1 < w1.heap.size := s3
 clear s1 s2 s3 c1 c2 c3
 obtain ⟨g5, hg5⟩ : ∃ g5, g5 = w1.heap.size := ⟨_, rfl⟩
 rw [← hg5] at B5 hz hw1 ⊢
 obtain ⟨w3, hw3⟩ : ∃ w3 : World, w3 = w1.alloc (Obj.cells #[.slice none 0 0, .slice none 0 0] 86) := ⟨_, rfl⟩
 rw [← hw3] at B5 B1 B0 hbw hz ⊢
 clear hg5 hw3
 go_loopw [29] (fun x wr => ∃ (k : Nat) (vb : Value) (bl : List Bool), k ≤ g.lives.length ∧ x = .int .i64 k ∧ Hid (bl = (snapL g t).take k) ∧ bl.length ≤ k ∧ Own markEnc 1 wr (g5 + 1) 4 vb bl ∧ Blk wr g5 86 #[vb, .slice none 0 0] ∧
  Blk wr (w.heap.size + 1) 86 #[.slice none 0 0, .slice none 0 0] ∧ Blk wr w.heap.size 68 (gC A c A' c' g) ∧ Below w.heap.size w wr ∧ g5 + 1 ≤ wr.heap.size) (fun x _ => g.lives.length - (intOf x).toNat)
 case atStart => exact ⟨0, _, [], Nat.zero_le _, rfl, Lib.hid (by simp), by simp, Own.nil, B5, B1, B0, hbw, hz⟩
 case round =>
  clear B5 B1 B0 hbw hz
  obtain ⟨k, vb, bl, hk, rfl, HB, hbl, hown, B5, B1, B0, hbw, hz⟩ := hrel
  obtain ⟨f1, f2, f3⟩ := B5.facts
  obtain ⟨c1, c2, c3⟩ := B0.facts
  by_cases hlt : k < g.lives.length
  case pos =>
    have HLT := Lib.hid hlt
    obtain ⟨Ab, cb, rfl⟩ := hown.form
    go_wp2_with fail
    obtain ⟨S, hSS⟩ : ∃ S : World → Prop, Hid (S = fun w' => w'.cell? ⟨g5, 0, none⟩ = some (.slice Ab bl.length cb) ∧ w'.cell? ⟨w.heap.size, 0, none⟩ = some (.int .i64 g.h) ∧ w'.cell? ⟨w.heap.size, 1, none⟩ = some (.slice A g.lives.length c) ∧ w'.cell? ⟨w.heap.size, 2, none⟩ = some (.slice A' g.edges.length c')) := ⟨_, Lib.hid rfl⟩
    have hSb : ∀ wz, Below wr.heap.size wr wz → S wz := fun wz hb => by
     rw [hSS.out]
     exact ⟨cell_keep hb (by rw [B5.cell]; rfl), cell_keep hb (by rw [B0.cell]; rfl), cell_keep hb (by rw [B0.cell]; rfl), cell_keep hb (by rw [B0.cell]; rfl)⟩
    have hS0 : S wr.drew := hSb _ (below_drew (Below.refl _ _))
    have HSB := Lib.hid hSb
    clear hSb
    refine WpN.begin (S := S) 9 (by kernel_rfl) ?_
    refine WpN.takeD (i := 0) (v := ?_) rfl rfl (by kernel_rfl) (fun _ _ _ h => h) (Or.inl ⟨by rfl, ?_⟩) (by assumption) ?_
    rotate_left
    ·intro w hSw; rw [hSS.out] at hSw; obtain ⟨sw0, sw1, sw2, sw3⟩ := hSw; go_simp; try with_reducible rfl
    simp only [pS]
    refine WpN.takeD (i := 1) (v := ?_) rfl rfl (by kernel_rfl) (fun _ _ _ h => h) (Or.inl ⟨by rfl, ?_⟩) (by assumption) ?_
    rotate_left
    ·intro w hSw; rw [hSS.out] at hSw; obtain ⟨sw0, sw1, sw2, sw3⟩ := hSw; go_simp; try with_reducible rfl
    simp only [pS]
    refine WpN.takeD (i := 2) (v := ?_) rfl rfl (by kernel_rfl) (fun _ _ _ h => h) (Or.inl ⟨by rfl, ?_⟩) (by assumption) ?_
    rotate_left
    ·intro w hSw; rw [hSS.out] at hSw; obtain ⟨sw0, sw1, sw2, sw3⟩ := hSw; go_simp; try with_reducible rfl
    simp only [pS]
    refine WpN.takeD (i := 3) (v := ?_) rfl rfl (by kernel_rfl) (fun _ _ _ h => h) (Or.inl ⟨by rfl, ?_⟩) (by assumption) ?_
    rotate_left
    ·intro w hSw; rw [hSS.out] at hSw; obtain ⟨sw0, sw1, sw2, sw3⟩ := hSw; go_simp; try with_reducible rfl
    simp only [pS]
    refine WpN.takeD (i := 4) (v := ?_) rfl rfl (by kernel_rfl) (fun _ _ _ h => h) (Or.inl ⟨by rfl, ?_⟩) (by assumption) ?_
    rotate_left
    ·intro w hSw; rw [hSS.out] at hSw; obtain ⟨sw0, sw1, sw2, sw3⟩ := hSw; go_simp; try with_reducible rfl
    simp only [pS]
    refine WpN.one (i := 5) rfl (by kernel_rfl) fun K hK => ?_
    go_wp2_with fail
    refine (alive_any A A' c c' g k t _ (hG.ext (ext_trans hbw (by go_grown))) (by omega) (by omega)).mono ?_
    rintro e w5 ⟨rfl, hb5⟩
    have hb6 : Below wr.heap.size wr w5 := ext_trans (by go_grown) hb5
    go_wp2_with fail
    have hS5 : S w5 := HSB.out _ hb6
    refine hK.out _ _ ⟨fun _ => hS5, ?_⟩
    clear hK K
    try simp only [pS]
    refine WpN.one (i := 6) rfl (by kernel_rfl) fun K hK => ?_
    go_wp2_with fail
    have hb7 : Below wr.heap.size wr (w5.alloc (Obj.cells #[.bool (aliveB g k t)] 4)) := ext_alloc hb6 _
    have hS6 := HSB.out _ hb7
    refine hK.out _ _ ⟨fun _ => hS6, ?_⟩
    clear hK K
    try simp only [pS]
    refine WpN.one (i := 7) rfl (by kernel_rfl) fun K hK => ?_
    have hown5 := hown.ext hb6
    have hz5 : g5 + 1 ≤ w5.heap.size := Nat.le_trans hz hb6.size
    refine wp_append_lie (enc := markEnc) (.tmp 33) (.tmp 38) 83 rfl (g5 + 1) 4 i0 _ 1 1 Tryz.underlying83 hi hz0 hz1 hz2 rfl (by decide) _ bl (aliveB g k t) rfl hown5 _ rfl w5.heap.size rfl rfl rfl mark_one (by omega) (by decide) hz5 ?_
    intro gn cap w6 hown6 hbb hkp hgn
    have B5b := hkp _ _ _ (Blk.go B5 hb6).1 (hown5.other (Blk.go B5 hb6).1 (by decide))
    have B0b := hkp _ _ _ (Blk.go B0 hb6).1 (hown5.other (Blk.go B0 hb6).1 (by decide))
    have B1b := hkp _ _ _ (Blk.go B1 hb6).1 (hown5.other (Blk.go B1 hb6).1 (by decide))
    have hS7 : S w6 := by rw [hSS.out]; exact ⟨by rw [B5b.cell]; rfl, by rw [B0b.cell]; rfl, by rw [B0b.cell]; rfl, by rw [B0b.cell]; rfl⟩
    refine hK.out _ _ ⟨fun _ => hS7, ?_⟩
    clear hK K
    try simp only [pS]
    refine WpN.takeD (i := 8) (v := ?_) rfl rfl (by kernel_rfl) (fun _ _ _ h => h) (Or.inl ⟨by rfl, ?_⟩) (by assumption) ?_
    rotate_left
    ·intro w hSw; rw [hSS.out] at hSw; obtain ⟨sw0, sw1, sw2, sw3⟩ := hSw; go_simp; try with_reducible rfl
    simp only [pS]
    refine WpN.one (i := 9) rfl (by kernel_rfl) fun K hK => ?_
    obtain ⟨r1, r2, r3⟩ := B5b.facts
    go_wp2_with fail
    refine hK.out _ _ ⟨fun h => by omega, ?_⟩
    clear hK K
    refine WpN.done (by kernel_rfl) ?_ _
    have HN : Hid (bl ++ [aliveB g k t] = (snapL g t).take (k + 1)) := Lib.hid (by rw [snapL_take HLT.out, HB.out])
    have hbw7 : Below w.heap.size w w6 := (ext_trans hbw hb6).trans (hbb.mono (by omega))
    have hz7 : g5 + 1 ≤ w6.heap.size := Nat.le_trans hz5 hbb.size
    go_wp2_with fail
    go_roundw
    case rel =>
     refine ⟨k + 1, _, bl ++ [aliveB g k t], by omega, by go_num, HN, by simp; omega, hown6.keep (keep_store B5b (by decide) 0 _), by simpa using B5b.set_ 0 (.slice (some ⟨gn, 0, none⟩) (bl.length + 1) cap), B1b.far (by simp; omega) _, B0b.far (by simp; omega) _, hbw7.setCell (by simp; omega) _, by simpa using hz7⟩
    case measure => simp [intOf]; omega
  case neg =>
   have HL : Hid (bl = snapL g t) := Lib.hid (by rw [HB.out, snapL_end (by omega)])
   obtain rfl := HL.out
   obtain ⟨Ab, cb, rfl⟩ := hown.form
   have hln : (snapL g t).length ≤ 12 := by rw [snapL_len]; omega
   have hsn : ∀ v : Int, v < g.lives.length → v < ((snapL g t).length : Int) := fun v h => by rw [snapL_len]; exact h
   have HSN := Lib.hid hsn
   clear hsn HB
   go_wp2_with fail
   go_loopw [45] (fun x wr => ∃ (j : Nat) (va : Value) (al : List ArcD), j ≤ g.edges.length ∧ x = .int .i64 j ∧ Hid (al = arcsL g t (g.edges.take j)) ∧ al.length ≤ j ∧ Own markEnc 1 wr (g5 + 1) 4 (.slice Ab (snapL g t).length cb) (snapL g t) ∧ Own arcEnc 3 wr (g5 + 1) 134 va al ∧
    Blk wr g5 86 #[.slice Ab (snapL g t).length cb, va] ∧
    Blk wr (w.heap.size + 1) 86 #[.slice none 0 0, .slice none 0 0] ∧ Blk wr w.heap.size 68 (gC A c A' c' g) ∧ Below w.heap.size w wr ∧ g5 + 1 ≤ wr.heap.size) (fun x _ => g.edges.length - (intOf x).toNat)
   case atStart => exact ⟨0, _, [], Nat.zero_le _, rfl, Lib.hid (by simp [arcsL]), by simp, hown, Own.nil, B5, B1, B0, hbw, hz⟩
   case round =>
    clear hown B5 B1 B0 hbw hz f1 f2 f3 c1 c2 c3
    obtain ⟨j, va, al, hj, rfl, HA, hal, hown, hownA, B5, B1, B0, hbw, hz⟩ := hrel
    obtain ⟨f1, f2, f3⟩ := B5.facts
    obtain ⟨c1, c2, c3⟩ := B0.facts
    obtain ⟨Aa, ca, rfl⟩ := hownA.form
    by_cases hlt2 : j < g.edges.length
    case neg =>
     have HL2 : Hid (al = arcsL g t g.edges) := Lib.hid (by rw [HA.out, List.take_of_length_le (by omega)])
     clear HA
     obtain rfl := HL2.out
     obtain ⟨s1, s2, s3⟩ := B1.facts
     have HV := Lib.hid hV
     clear hal hln hV
     go_wp2_with fail
     have K : ∀ (t' : TypeId) b cs, t' ≠ 86 → Blk wr b t' cs → Blk ((wr.setCell ⟨w.heap.size + 1, 0, none⟩ (.slice Ab (snapL g t).length cb)).setCell ⟨w.heap.size + 1, 1, none⟩ (.slice Aa (arcsL g t g.edges).length ca)) b t' cs := fun t' b cs ht h => by
      have hne := blk_ne h B1 ht
      exact (h.far hne _).far hne _
     unfold GAtOut
     rw [HE.out, HO.out]
     refine bodyPost_ret (v := .tuple #[snapV Ab cb Aa ca (snapD g t), .int .i64 0]) (by simp [results, Tryz.results101, go_sem, s1, s2, s3, snapD]) rfl ?_
     exact ⟨Ab, cb, Aa, ca, rfl, snap_new HV.out ((hown.keep (fun b cs h => K _ b cs (by decide) h)).since (by omega)) ((hownA.keep (fun b cs h => K _ b cs (by decide) h)).since (by omega)), (hbw.setCell (by simp) _).setCell (by simp) _⟩
    obtain ⟨be, oe, hE⟩ := hG.edges
    obtain ⟨y, hy⟩ := get_lt hlt2
    obtain ⟨rfl, hbe, ⟨⟨x0, x1, L, cl, x2, hl1, hl2, hL⟩, _⟩⟩ := hE j y hy
    have y0 := x0.now hbw
    have y1 := x1.now hbw
    have y2 := x2.now hbw
    have hyo := hV.edges y (List.mem_of_getElem? hy)
    have ha0 := hyo.a0; have ha1 := hyo.a1; have hd0 := hyo.b0; have hd1 := hyo.b1
    have hl6 := hyo.six
    have HTK := Lib.hid (arcsL_snoc g t hy)
    have hlm : y.legs.length ≤ maxLen := by unfold maxLen; omega
    clear hE hy x0 x1 x2
    cases hq : leaves t y.legs with
    | none =>
     have HQ := Lib.hid hq
     have HN : Hid (al = arcsL g t (g.edges.take (j + 1))) := Lib.hid (by rw [HTK.out, arcOf_no hq, List.append_nil, HA.out])
     clear hq HTK
     go_wp2_with fail
     refine (leaves_any L cl y t _ (hL.ext RLeg.stable (ext_trans hbw (by go_grown))) hlm).mono ?_
     rw [HQ.out]
     simp only [legsR]
     rintro e w2 ⟨rfl, hb2⟩
     have hb3 : Below wr.heap.size wr w2 := ext_trans (by go_grown) hb2
     obtain ⟨B5, d1, d2, d3⟩ := B5.go hb3
     obtain ⟨B0, e1, e2, e3⟩ := B0.go hb3
     obtain ⟨BY, i1, i2, i3⟩ := (Blk.new wr 97 #[.int .i64 y.a, .int .i64 y.b, .slice L y.legs.length cl]).go hb2
     clear f1 f2 f3 c1 c2 c3 y0 y1 y2
     go_wp2_with fail
     go_roundw
     case rel => exact ⟨j + 1, _, al, by omega, by go_num, HN, by omega, (hown.ext hb3).alloc _, (hownA.ext hb3).alloc _, B5.alloc _, (B1.go hb3).1.alloc _, B0.alloc _, ext_alloc (ext_trans hbw hb3) _, Nat.le_trans hz (Nat.le_trans hb3.size (by simp))⟩
     case measure => simp [intOf]; omega
    | some lg =>
     have HQ := Lib.hid hq
     obtain ⟨Am, dm, hvv, bm, om, hSm⟩ := own_marks hown
     injection hvv with hvv
     subst hvv
     obtain ⟨rfl, hbm, p0⟩ := hSm _ _ (snapL_at (t := t) ha0 ha1)
     obtain ⟨_, _, p1⟩ := hSm _ _ (snapL_at (t := t) hd0 hd1)
     unfold RBool at p0 p1
     have hia := HSN.out _ ha1
     have hib := HSN.out _ hd1
     have HAA : Hid (aliveB g y.a t = false → al = arcsL g t (g.edges.take (j + 1))) := Lib.hid (fun h => by rw [HTK.out, arcOf_a h, List.append_nil, HA.out])
     have HBB : Hid (aliveB g y.b t = false → al = arcsL g t (g.edges.take (j + 1))) := Lib.hid (fun h => by rw [HTK.out, arcOf_b h, List.append_nil, HA.out])
     have HYY : Hid (aliveB g y.a t = true → aliveB g y.b t = true → al ++ [⟨y.a, y.b, lg.cost⟩] = arcsL g t (g.edges.take (j + 1))) := Lib.hid (fun h h' => by rw [HTK.out, arcOf_yes hq h h', HA.out])
     clear hq HTK HA hSm
     go_wp2_with fail
     refine (leaves_any L cl y t _ (hL.ext RLeg.stable (ext_trans hbw (by go_grown))) hlm).mono ?_
     rw [HQ.out]
     simp only [legsR]
     rintro e w2 ⟨rfl, hb2⟩
     have hb3 : Below wr.heap.size wr w2 := ext_trans (by go_grown) hb2
     obtain ⟨B5, d1, d2, d3⟩ := B5.go hb3
     obtain ⟨B0, e1, e2, e3⟩ := B0.go hb3
     obtain ⟨BY, i1, i2, i3⟩ := (Blk.new wr 97 #[.int .i64 y.a, .int .i64 y.b, .slice L y.legs.length cl]).go hb2
     have q0 := p0.now hb3
     have q1 := p1.now hb3
     simp only [Nat.mul_one] at q0 q1
     have hbm2 : bm < w2.heap.size := Nat.lt_of_lt_of_le hbm hb3.size
     have hown := hown.ext hb3
     have hownA := hownA.ext hb3
     have B1 := (B1.go hb3).1
     have hbw := ext_trans hbw hb3
     have hz : g5 + 1 ≤ w2.heap.size := Nat.le_trans hz hb3.size
     clear f1 f2 f3 c1 c2 c3 y0 y1 y2 p0 p1 hb2 hb3
     generalize hpa : aliveB g y.a t = pa at *
     generalize hpb : aliveB g y.b t = pb at *
     clear hpa hpb
     cases pa
     case false =>
      have HN := Lib.hid (HAA.out rfl)
      clear HAA HBB HYY
      go_wp2_with fail
      go_roundw
      case rel => exact ⟨j + 1, _, al, by omega, by go_num, HN, by omega, hown.alloc _, hownA.alloc _, B5.alloc _, B1.alloc _, B0.alloc _, ext_alloc hbw _, Nat.le_trans hz (by simp)⟩
      case measure => simp [intOf]; omega
     case true =>
      cases pb
      case false =>
       have HN := Lib.hid (HBB.out rfl)
       clear HAA HBB HYY
       go_wp2_with fail
       go_roundw
       case rel => exact ⟨j + 1, _, al, by omega, by go_num, HN, by omega, hown.alloc _, hownA.alloc _, B5.alloc _, B1.alloc _, B0.alloc _, ext_alloc hbw _, Nat.le_trans hz (by simp)⟩
       case measure => simp [intOf]; omega
      case true =>
       have HN := Lib.hid (HYY.out rfl rfl)
       clear HAA HBB HYY
       have B5a := B5.alloc (Obj.cells #[.int .i64 lg.f, .int .i64 lg.t, .int .i64 lg.time, .int .i64 lg.cost] 100)
       have hzi : g5 + 1 ≤ (w2.alloc (Obj.cells #[.int .i64 lg.f, .int .i64 lg.t, .int .i64 lg.time, .int .i64 lg.cost] 100)).heap.size := Nat.le_trans hz (by simp)
       go_wp2_with (at_builtin; refine wpList_append_els (enc := arcEnc) rfl (.tmp 73) (.tmp 81) 84 rfl (g5 + 1) 134 j0 _ 3 24 Tryz.underlying84 hje hy0 hy1 hy2 rfl (by decide) _ al [⟨y.a, y.b, lg.cost⟩] 1 rfl rfl (hownA.alloc _) _ rfl (w2.heap.size + 1) (by simp) rfl rfl arc_one (by omega) (by decide) hzi ?_; intro v' w6 hown6 hb6 hkp; obtain ⟨Aw, dw, rfl⟩ := hown6.form; have B5b := hkp _ _ _ B5a (by decide); obtain ⟨r1, r2, r3⟩ := B5b.facts)
       have B1b := hkp _ _ _ (B1.alloc (Obj.cells #[.int .i64 lg.f, .int .i64 lg.t, .int .i64 lg.time, .int .i64 lg.cost] 100)) (by decide)
       have B0b := hkp _ _ _ (B0.alloc (Obj.cells #[.int .i64 lg.f, .int .i64 lg.t, .int .i64 lg.time, .int .i64 lg.cost] 100)) (by decide)
       have hownb := (hown.alloc (Obj.cells #[.int .i64 lg.f, .int .i64 lg.t, .int .i64 lg.time, .int .i64 lg.cost] 100)).keep (fun b cs h => hkp _ _ _ h (by decide))
       have hbw6 : Below w.heap.size w w6 := (ext_alloc hbw _).trans (hb6.mono (by omega))
       have hz6 : g5 + 1 ≤ w6.heap.size := Nat.le_trans hzi hb6.size
       go_roundw
       case rel =>
        refine ⟨j + 1, _, al ++ [(⟨y.a, y.b, lg.cost⟩ : ArcD)], by omega, by go_num, HN, by simp; omega, hownb.keep (keep_store B5b (by decide) 1 _), hown6.keep (keep_store B5b (by decide) 1 _), by simpa using B5b.set_ 1 (.slice Aw (al ++ [(⟨y.a, y.b, lg.cost⟩ : ArcD)]).length dw), B1b.far (by simp; omega) _, B0b.far (by simp; omega) _, hbw6.setCell (by simp; omega) _, by simpa using hz6⟩
       case measure => simp [intOf]; omega
end Go.Proofs.YtjcimdpldlamfaaGreatDoor
/- Lists of edges: Clone of them, and a graph with an edge more. -/
namespace Go.Proofs.YtjcimdpldlamfaaGreatDoor
open Go.RowKit Go.WideShapes Go.Deep Go.Joins Go.ChangeShapes

section
variable {w w' : World} {A : Option Addr} {l : List EdgeD} {items : List EItem} {base : Nat} {v : Value}
end
/-- An append of one element that lies in a block; the list may be long. -/
theorem wp_append_big {P : Program} {o : Oper} {a : Act} {K : Act → World → Prop} {Q : Exit → Act → World → Prop} {w : World} {α : Type} {enc : α → List Value} (s x : Operand) (t : TypeId)
  (ho : o.op = .call { callee := .builtin .append, args := #[s, x], argTypes := #[t, t] })
  (base : Nat) (e : TypeId) (i : TypeInfo) (z : Value) (size bytes : Nat) (ht : P.underlying t = some (.slice e)) (hi : P.info? e = some i) (hz : i.zero = some z)
  (hsize : i.size = size) (hby : i.bytes = bytes) (hzs : z.cells.size = size) (hsz : 0 < size)
  (v : Value) (l : List α) (y : α) (hs : a.eval s = v) (hown : Own enc size w base e v l) (cs : Array Value) (hcy : cs.toList = enc y) (k : Nat) (hk : Blk w k e cs) (hx : a.eval x = .slice (some ⟨k, 0, none⟩) 1 1) (hcs : cs.size = size)
  (h1 : ∀ u ∈ cs.toList, u.oneCell' = true) (h63 : l.length + 1 ≤ maxLen) (hb2 : (l.length + 1) * bytes ≤ 140737488355328) (hbase : base ≤ w.heap.size)
  (h : ∀ v' w', Own enc size w' base e v' (l ++ [y]) → Below base w w' → (∀ b t' cs', Blk w b t' cs' → t' ≠ e → Blk w' b t' cs') → K (a.put o.dst v') w') : Oper.wp P o a w K Q := by
 refine wp_append_lies w s x t ho base e i z size bytes ht hi hz hsize hby hzs hsz v l.length (l.flatMap enc) hs hown ⟨k, 0, none⟩ 1 1 cs.toList hx (by simp [hcs])
  (World.news_of_block hk) h1 (by omega) h63 hb2 hbase _ rfl ?_
 intro g cap w' h2 h3 h4 _
 refine h _ w' ?_ ((Below.refl base w).grown h3 hbase fun k hk => (World.ownsRow.lt hown k hk).1) fun b t' cs' hB ht' => hB.grown h3 (hown.other hB ht')
 show w'.ownsRow base e size _ (l ++ [y]).length ((l ++ [y]).flatMap enc)
 rw [List.flatMap_append, List.length_append]
 simpa [hcy] using h2
section
variable {H : Type} {enc : TypeId × Value → H} {W : World} {spare : Nat → Bool} {held : Bool}
end
end Go.Proofs.YtjcimdpldlamfaaGreatDoor
/- The walk of spoil at pieces: the list's own block alone is written. -/
namespace Go.Proofs.YtjcimdpldlamfaaGreatDoor
open Go.RowKit

/-! ### spoil, piece -/
end Go.Proofs.YtjcimdpldlamfaaGreatDoor
/- The walks of graph.line and of the document's row. -/
namespace Go.Proofs.YtjcimdpldlamfaaGreatDoor
open Go.RowKit Go.Shelf

set_option maxRecDepth 100000 in
set_option maxHeartbeats 2000000 in
theorem gLine_any (word : List UInt8) (A : Option Addr) (c : Nat) (l : List Int) (w : World) (hA : IntsAt w A c l) (hw : word.length ≤ 100) (hl : l.length ≤ 10) (ht : ITab w) :
  Calls Tryz.prog 100 #[.string (bs word), .slice A l.length c] w fun e w' => e = .returned (.string (bs (lineT word l))) ∧ Below w.heap.size w w' := by
 have hi := hA.i64
 have HI := Lib.hid hi
 have HA := Lib.hid hA; have HT := Lib.hid ht
 have m1 := hA.len
 clear hA ht hi
 go_enter Tryz.func100, Tryz.ntmps100
 go_wp2_with fail
 go_loopw [0, 9] (fun s v wr => ∃ k : Nat, k ≤ l.length ∧ v = .int .i64 k ∧ s = .string (bs (word ++ numsT (l.take k))) ∧ Below w.heap.size w wr) (fun _ v _ => l.length - (intOf v).toNat)
 case atStart => exact ⟨0, Nat.zero_le _, rfl, by simp [numsT], Below.refl _ _⟩
 case round =>
  obtain ⟨k, hk, rfl, rfl, hb⟩ := hrel
  have hnl := numsT_len (l := l.take k) fun n hn => HI.out n (List.mem_of_mem_take hn)
  have htl : (l.take k).length ≤ 10 := by rw [List.length_take]; omega
  obtain ⟨tx, htx⟩ : ∃ tx, word ++ numsT (l.take k) = tx := ⟨_, rfl⟩
  have HTX := Lib.hid htx
  have hxl : tx.length ≤ 400 := by rw [← htx, List.length_append]; omega
  rw [htx]
  by_cases hlt : k < l.length
  case neg =>
   obtain rfl : k = l.length := by omega
   clear htx hnl htl
   go_wp2_with fail
   go_ret
   refine ⟨?_, hb⟩
   have e : lineT word l = tx ++ [10] := by unfold lineT; rw [← HTX.out, List.take_length]
   rw [e]
   rfl
  case pos =>
   obtain ⟨n, hn⟩ := get_lt hlt
   obtain ⟨b, off, rfl, hb0, x0⟩ := HA.out.get hn
   rw [← hb.cell (by exact hb0)] at x0
   have hni := HI.out n (List.mem_of_getElem? hn)
   have hit := fun W (h : ITab W) => itoa_any n hni W h
   have hil := Lib.itoa_length_le n hni.1 hni.2
   obtain ⟨tn, htn⟩ : ∃ tn, Lib.itoa n = tn := ⟨_, rfl⟩
   rw [htn] at hil
   simp only [htn] at hit
   have HIT := Lib.hid hit
   have HN : Hid (word ++ numsT (l.take (k + 1)) = tx ++ (32 :: tn)) := Lib.hid (by rw [numsT_take hn, ← List.append_assoc, htx, htn])
   have HTW := Lib.hid (HT.out.ext hb)
   clear htx hnl htl hn htn hit
   go_wp2_with fail
   refine (HIT.out _ HTW.out).mono ?_
   rintro e w3 ⟨rfl, hb3⟩
   go_wp2_with fail
   go_roundw
   case rel => exact ⟨k + 1, by omega, by go_num, by rw [HN.out]; rfl, ext_trans hb hb3⟩
   case measure => simp [intOf]; omega
end Go.Proofs.YtjcimdpldlamfaaGreatDoor
/- The walks of strings.Builder's copyCheck and WriteString at this dump (turned from the shelf's proofs; the dump's copyCheck ends in a refusal where the shelf's panics). -/
namespace Go.Proofs.YtjcimdpldlamfaaGreatDoor
open Go.Proofs Go.Shelf Go.RowKit Go.Sort

theorem bld_size : (Tryz.prog.info? 35).map (·.size) = some 2 := Txt.Builder_Extra_169.sizeBuilder
theorem bld_lies : liesAt Tryz.prog Tryz.prog.depth 35 (2 / Tryz.prog.cellsOf 35) 0 35 1 = true := by kernel_rfl
theorem bld_byte : (Tryz.prog.info? 5).map (fun i => (i.zero, i.size, i.bytes)) = some (some (.int .u8 0), 1, 1) := Txt.Builder_Extra_169.infoByte
set_option maxHeartbeats 1000000 in
set_option maxRecDepth 100000 in
theorem copyCheck_fresh (b : Nat) (w : World) (h0 : w.cell? ⟨b, 0, none⟩ = some (.pointer none)) (hsh : w.shape? b = some (35, 2)) (hfz : w.frozen? ⟨b, 0, none⟩ = false) :
  Calls Tryz.prog 28 #[.pointer (some ⟨b, 0, none⟩)] w fun e w' => e = .returned (.tuple #[]) ∧ w' = w.setCell ⟨b, 0, none⟩ (.pointer (some ⟨b, 0, none⟩)) := by
 obtain ⟨j, hj, hjs⟩ := Option.map_eq_some_iff.1 bld_size
 go_enter Tryz.func28, Tryz.ntmps28
 go_wp2
 rw [Lib.run_to_unsafe w ⟨b, 0, none⟩ Tryz.underlying32 Tryz.underlying73 hj (by rw [hjs]; decide) hsh (Nat.zero_lt_succ 1)]
 simp only [Result.andThen]
 rw [Oper.upon_value]
 go_wp2
 rw [run_callFunc_extern Tryz.func43 (by kernel_rfl) (by kernel_rfl) (by kernel_rfl) (e := Extern.AbiNoEscape.same) (by kernel_rfl)]
 rw [Lib.run_noEscape]
 simp only [Result.andThen]
 rw [Oper.upon_value]
 go_wp2
 rw [Lib.run_from_unsafe w ⟨b, 0, none⟩ Tryz.underlying73 Tryz.underlying32 hj hsh bld_lies]
 simp only [Result.andThen]
 rw [Oper.upon_value]
 go_wp2
 go_end0
 exact ⟨rfl, rfl⟩
set_option maxHeartbeats 1000000 in
set_option maxRecDepth 100000 in
theorem copyCheck_used (b : Nat) (w : World) (h0 : w.cell? ⟨b, 0, none⟩ = some (.pointer (some ⟨b, 0, none⟩))) :
  Calls Tryz.prog 28 #[.pointer (some ⟨b, 0, none⟩)] w fun e w' => e = .returned (.tuple #[]) ∧ w' = w := by
 obtain ⟨j, hj, hjs⟩ := Option.map_eq_some_iff.1 bld_size
 have hne := fun W => Lib.run_neq_ptr_same (P := Tryz.prog) W (tp := 32) ⟨b, 0, none⟩ Tryz.underlying32 hj
 go_enter Tryz.func28, Tryz.ntmps28
 go_wp2
 go_end0
 exact ⟨rfl, rfl⟩
/-- A builder that a call has made, in a block b, that holds bytes. -/
abbrev BAt (B b : Nat) (l : List UInt8) (w : World) : Prop := Lib.IsBuilderF 35 5 B b (Lib.byteCells l) w
theorem BAtF.lt {B b : Nat} {p : Value} {l : List Value} {w : World} (h : Lib.BuilderAtF 35 5 B b p l w) : b < w.heap.size := by
 obtain ⟨_, v, hb, _⟩ := h
 rcases Nat.lt_or_ge b w.heap.size with h' | h'
 ·exact h'
 ·simp [Array.getElem?_eq_none h'] at hb
theorem BAt.lt {B b : Nat} {l : List UInt8} {w : World} (h : BAt B b l w) : b < w.heap.size := h.elim BAtF.lt BAtF.lt
theorem BAtF.ext {B b : Nat} {p : Value} {l : List Value} {w w' : World} (h : Lib.BuilderAtF 35 5 B b p l w) (hb : Below w.heap.size w w') : Lib.BuilderAtF 35 5 B b p l w' := by
 have hl := BAtF.lt h
 obtain ⟨hB, v, hk, ⟨h1, h2⟩, hne⟩ := h
 refine ⟨hB, v, (hb.block b hl).trans hk, ⟨h1, ?_⟩, hne⟩
 rcases h2 with h2 | ⟨g, cap, cur, fz, hv, hg, hh, r⟩
 ·exact .inl h2
 ·exact .inr ⟨g, cap, cur, fz, hv, hg, (hb.block g (Array.getElem?_eq_some_iff.1 hh).1).trans hh, r⟩
theorem BAt.ext {B b : Nat} {l : List UInt8} {w w' : World} (h : BAt B b l w) (hb : Below w.heap.size w w') : BAt B b l w' := h.elim (fun h => .inl (BAtF.ext h hb)) (fun h => .inr (BAtF.ext h hb))
theorem copyCheck_any (B b : Nat) (l : List UInt8) (w : World) (h : BAt B b l w) :
  Calls Tryz.prog 28 #[.pointer (some ⟨b, 0, none⟩)] w fun e w' => e = .returned (.tuple #[]) ∧ (Lib.BuilderAtF 35 5 B b (.pointer (some ⟨b, 0, none⟩)) (Lib.byteCells l) w' ∧ Below B w w' ∧ Lib.OthersKept 5 (some b) w w') := by
 rcases h with h | h
 ·refine (copyCheck_fresh b w h.cell0 h.shape h.frozen0).mono ?_
  rintro e w' ⟨rfl, rfl⟩
  exact ⟨rfl, h.used _, (Below.refl B w).setCell (p := ⟨b, 0, none⟩) h.1 _, (Lib.OthersKept.refl _ _ w).setCell ⟨b, 0, none⟩ rfl _⟩
 ·refine (copyCheck_used b w h.cell0).mono ?_
  rintro e w' ⟨rfl, rfl⟩
  exact ⟨rfl, h, Below.refl B _, Lib.OthersKept.refl _ _ _⟩
set_option maxHeartbeats 2000000 in
set_option maxRecDepth 100000 in
theorem writeString_any (B b : Nat) (l s : List UInt8) (w : World) (h : BAt B b l w) (hlen : l.length + s.length ≤ 140737488355328) (hBw : B ≤ w.heap.size) :
  Calls Tryz.prog 15 #[.pointer (some ⟨b, 0, none⟩), .string ⟨s.toArray⟩] w fun e w' => e = .returned (.tuple #[.int .i64 s.length, .nilIface]) ∧ (BAt B b (l ++ s) w' ∧ Below B w w' ∧ Lib.OthersKept 5 (some b) w w') := by
 obtain ⟨i0, hi, hzz⟩ := Option.map_eq_some_iff.1 bld_byte
 simp only [Prod.mk.injEq] at hzz
 obtain ⟨hz0, hz1, hz2⟩ := hzz
 have hss : (⟨s.toArray⟩ : ByteArray).size = s.length := by simp [ByteArray.size]
 have hbl : (Lib.byteCells l).length = l.length := Lib.byteCells_length _
 go_enter Tryz.func15, Tryz.ntmps15
 go_wp2_with (go_at_call 28; refine (copyCheck_any B b l _ h).mono ?_)
 rintro e w1 ⟨rfl, h1, hb1, hk1⟩
 obtain ⟨hB, v, hbk, hown, hne⟩ := h1
 have c0 : w1.cell? ⟨b, 0, none⟩ = some (.pointer (some ⟨b, 0, none⟩)) := by rw [Lib.cell_of_heap hbk]; rfl
 have c1 : w1.cell? ⟨b, 1, none⟩ = some v := by rw [Lib.cell_of_heap hbk]; rfl
 go_wp2_with (at_builtin; refine Lib.wpList_append_own_stringF _ rfl _ _ 33 9 rfl B 5 i0 Tryz.underlying33 Tryz.underlying9 hi hz0 hz1 hz2 _ _ _ rfl hown ⟨s.toArray⟩ rfl ?c3 ?c4 ?c5 ?_)
 case c3 => rw [hss, hbl]; unfold maxLen; omega
 case c4 => rw [hss, hbl]; omega
 case c5 => have := hb1.size; omega
 intro v' w2 hown' hgrow _
 have hlt : b < w1.heap.size := by
  rcases Nat.lt_or_ge b w1.heap.size with h' | h'
  ·exact h'
  ·simp [Array.getElem?_eq_none h'] at hbk
 have hb2 : w2.heap[b]? = some (.cells #[.pointer (some ⟨b, 0, none⟩), v] 35 (0, 0)) := by
  rw [hgrow.block b hlt (fun e => hne e.symm)]
  exact hbk
 have d0 : w2.cell? ⟨b, 0, none⟩ = some (.pointer (some ⟨b, 0, none⟩)) := by rw [Lib.cell_of_heap hb2]; rfl
 have d1 : w2.cell? ⟨b, 1, none⟩ = some v := by rw [Lib.cell_of_heap hb2]; rfl
 have f1 : w2.frozen? ⟨b, 1, none⟩ = false := Lib.frozen_of_heap hb2 1
 obtain ⟨ao, n', cap, rfl⟩ : ∃ ao n' cap, v' = .slice ao n' cap := by
  rcases hown'.2 with ⟨hv, _⟩ | ⟨g, cap, cur, fz, hv, _⟩
  ·exact ⟨_, _, _, hv⟩
  ·exact ⟨_, _, _, hv⟩
 go_wp2
 go_ret2
 have e9 : Lib.byteCells (l ++ s) = Lib.byteCells l ++ Lib.strCells ⟨s.toArray⟩ := by simp [Lib.byteCells, Lib.strCells]
 refine ⟨by first | rfl | simp [hss], .inr ?_, ?_, (hk1.grown hgrow (Lib.ownsRowF_kind hown)).setCell ⟨b, 1, none⟩ rfl _⟩
 ·rw [e9]
  exact Lib.BuilderAtF.put (T := 35) (e := 5) hB hb2 (bs' := Lib.byteCells l ++ Lib.strCells ⟨s.toArray⟩) (by rw [List.length_append, Lib.strCells_length, hbl, hss]; exact hown') (by decide)
 ·exact (hb1.grown hgrow (by have := hb1.size; omega) (fun k hk => (hown.lt k hk).1)).setCell (p := ⟨b, 1, none⟩) hB _
end Go.Proofs.YtjcimdpldlamfaaGreatDoor
