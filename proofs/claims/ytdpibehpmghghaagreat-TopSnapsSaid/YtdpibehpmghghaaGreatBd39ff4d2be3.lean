/- Several texts in one: SnapMem, At. -/
import Derived.Test.YtdpibehpmghghaaGreatBd3944ca27eb
import Derived.Test.YtdpibehpmghghaaGreatBdbca928d534
import Derived.Test.YtdpibehpmghghaaGreatBd75f6f4d008
import Derived.Test.YtdpibehpmghghaaGreatBd127ac6da48
import Derived.Test.YtdpibehpmghghaaGreatBd8dbe371942
/- Snapshots in memory: lists of marks and of arcs that a call builds. -/
namespace Go.Proofs.YtdpibehpmghghaaGreat
open Go.RowKit

def markEnc (x : Bool) : List Value := [.bool x]
def arcEnc (x : ArcD) : List Value := [.int .i64 x.a, .int .i64 x.b, .int .i64 x.cost]
theorem info_mark : (Tryz.prog.info? 4).map (fun i => (i.zero, i.size, i.bytes)) = some (some (.bool false), 1, 1) := by kernel_rfl
theorem info_mark2 : ∃ i, Tryz.prog.info? 4 = some i ∧ i.zero = some (.bool false) ∧ i.size = 1 ∧ i.bytes = 1 := by
  obtain ⟨i0, hi, hzz⟩ := Option.map_eq_some_iff.1 info_mark
  simp only [Prod.mk.injEq] at hzz
  exact ⟨i0, hi, hzz.1, hzz.2.1, hzz.2.2⟩
theorem info_arc : (Tryz.prog.info? 81).map (fun i => (i.zero, i.size, i.bytes)) = some (some (.agg #[.int .i64 0, .int .i64 0, .int .i64 0]), 3, 24) := by kernel_rfl
theorem info_arc2 : ∃ i, Tryz.prog.info? 81 = some i ∧ i.zero = some (.agg #[.int .i64 0, .int .i64 0, .int .i64 0]) ∧ i.size = 3 ∧ i.bytes = 24 := by
  obtain ⟨i0, hi, hzz⟩ := Option.map_eq_some_iff.1 info_arc
  simp only [Prod.mk.injEq] at hzz
  exact ⟨i0, hi, hzz.1, hzz.2.1, hzz.2.2⟩
theorem mark_one {x : Bool} : ∀ u ∈ (#[.bool x] : Array Value).toList, u.oneCell' = true := by simp [Value.oneCell']
theorem arc_one {a b c : Int} : ∀ u ∈ (#[.int .i64 a, .int .i64 b, .int .i64 c] : Array Value).toList, u.oneCell' = true := by simp [Value.oneCell']
theorem own_marks {w : World} {base : Nat} {v : Value} {l : List Bool} (h : Own markEnc 1 w base 4 v l) : ∃ A c, v = .slice A l.length c ∧ SlAt RBool 1 w A l :=
  Own.slAt (R := RBool) (enc := markEnc) (fun _ => rfl) (fun x _ b o hc => by have := hc 0 _ rfl; simpa [RBool] using this) h
theorem own_arcs {w : World} {base : Nat} {v : Value} {l : List ArcD} (h : Own arcEnc 3 w base 81 v l) (hi : ∀ x, x ∈ l → I64 x.a ∧ I64 x.b ∧ I64 x.cost) : ∃ A c, v = .slice A l.length c ∧ SlAt RArc 3 w A l :=
  Own.slAt (R := RArc) (enc := arcEnc) (fun _ => rfl) (fun x hx b o hc => by
    have h0 := hc 0 _ rfl
    have h1 := hc 1 _ rfl
    have h2 := hc 2 _ rfl
    exact ⟨⟨by simpa using h0, h1, h2⟩, hi x hx⟩) h
/-- A snapshot that a call tells, in memory of its own. -/
def SnapNew (base : Nat) (w : World) (A : Option Addr) (c : Nat) (A' : Option Addr) (c' : Nat) (s : SnapD) : Prop :=
  SnapAt w A c A' c' s ∧ Own markEnc 1 w base 4 (.slice A s.alive.length c) s.alive ∧ Own arcEnc 3 w base 81 (.slice A' s.arcs.length c') s.arcs
theorem SnapNew.ext {base : Nat} {w w' : World} {A A' : Option Addr} {c c' : Nat} {s : SnapD} (h : SnapNew base w A c A' c' s) (hb : Below w.heap.size w w') : SnapNew base w' A c A' c' s :=
  ⟨h.1.ext hb, h.2.1.ext hb, h.2.2.ext hb⟩
theorem snap_zero (base : Nat) (w : World) : SnapNew base w none 0 none 0 ⟨[], []⟩ := ⟨⟨Nat.le_refl _, Nat.zero_le _, Nat.le_refl _, Nat.zero_le _, SlAt.nil, SlAt.nil⟩, Own.nil, Own.nil⟩
theorem Valid.arcs {g : GraphD} (hV : Valid g) (t : Int) : ∀ y, y ∈ arcsL g t g.edges → I64 y.a ∧ I64 y.b ∧ I64 y.cost := fun y hy => by
  obtain ⟨x, lg, hx, _, hm, _, _, rfl⟩ := arcsL_mem hy
  have h := hV.edges x hx
  have h1 := h.a0; have h2 := h.a1; have h3 := h.b0; have h4 := h.b1; have h5 := hV.nl
  have h6 := h.legs lg hm
  unfold I64
  refine ⟨⟨by simp only; omega, by simp only; omega⟩, ⟨by simp only; omega, by simp only; omega⟩, by simp only; omega, by simp only; omega⟩
theorem snap_new {base : Nat} {w : World} {g : GraphD} {t : Int} {A A' : Option Addr} {c c' : Nat} (hV : Valid g) (h1 : Own markEnc 1 w base 4 (.slice A (snapL g t).length c) (snapL g t)) (h2 : Own arcEnc 3 w base 81 (.slice A' (arcsL g t g.edges).length c') (arcsL g t g.edges)) :
    SnapNew base w A c A' c' (snapD g t) := by
  refine ⟨⟨h1.room.1, h1.room.2, h2.room.1, h2.room.2, ?_, ?_⟩, h1, h2⟩
  · obtain ⟨B, d, hv, hS⟩ := own_marks h1
    injection hv with e1
    subst e1
    exact hS
  · obtain ⟨B, d, hv, hS⟩ := own_arcs h2 (hV.arcs t)
    injection hv with e1
    subst e1
    exact hS
end Go.Proofs.YtdpibehpmghghaaGreat
/- The walk of graph.At. -/
namespace Go.Proofs.YtdpibehpmghghaaGreat
open Go.RowKit

/-- What graph.At tells. -/
def GAtOut (g : GraphD) (t : Int) (w : World) (e : Ending) (w' : World) : Prop := ∃ A c A' c', e = .returned (.tuple #[snapV A c A' c' (atD g t), .int .i64 (atErr g t)]) ∧ SnapNew w.heap.size w' A c A' c' (atD g t) ∧ Below w.heap.size w w'
set_option maxRecDepth 100000 in
set_option maxHeartbeats 2000000 in
theorem at_any (A A' : Option Addr) (c c' : Nat) (g : GraphD) (t : Int) (w : World) (hG : GraphAt w A c A' c' g) :
    Calls Tryz.prog 10 #[gV A c A' c' g, .int .i64 t] w (GAtOut g t w) := by
  have m1 : g.lives.length ≤ 9223372036854775807 := Nat.le_trans hG.lc hG.cm
  have m2 : g.edges.length ≤ 9223372036854775807 := Nat.le_trans hG.lc' hG.cm'
  by_cases h0 : graphErr g = 0
  case neg =>
    have HE : Hid (atErr g t = graphErr g) := Lib.hid (by unfold atErr; rw [if_neg h0])
    have HO : Hid (atD g t = ⟨[], []⟩) := Lib.hid (atD_no (by rw [HE.out]; exact h0))
    have hn : (graphErr g != 0) = true := by simp [h0]
    clear h0
    go_enter Tryz.func10, Tryz.ntmps10
    go_wp2_with fail
    refine (check_any _ _ _ _ g _ (hG.ext (by go_grown))).mono ?_
    rintro e w1 ⟨rfl, hb1⟩
    have hbw : Below w.heap.size w w1 := ext_trans (by go_grown) hb1
    obtain ⟨B1, s1, s2, s3⟩ := Blk.go (g := w.heap.size + 1) (t := 34) (cs := #[.slice none 0 0, .slice none 0 0]) (Blk.new_ (by simp)) hb1
    go_wp2_with fail
    unfold GAtOut
    rw [HE.out, HO.out]
    refine bodyPost_ret (v := .tuple #[snapV none 0 none 0 ⟨[], []⟩, .int .i64 (graphErr g)]) (by simp [results, Tryz.results10, go_sem, s1, s2, s3]) rfl ?_
    exact ⟨none, 0, none, 0, rfl, snap_zero _ _, (hbw.setCell (by simp) _).setCell (by simp) _⟩
  have hV := valid_of h0
  have H0 := Lib.hid h0
  have hh0 := hV.h0
  have hh1 := hV.h1
  have hn12 := hV.nl
  have hne := hV.ne
  clear h0
  by_cases hr : 0 ≤ t ∧ t ≤ g.h - 1
  case neg =>
    have HE : Hid (atErr g t = 1) := Lib.hid (by unfold atErr; rw [if_pos H0.out, if_neg hr])
    have HO : Hid (atD g t = ⟨[], []⟩) := Lib.hid (atD_no (by rw [HE.out]; decide))
    go_enter Tryz.func10, Tryz.ntmps10
    go_wp2_with fail
    refine (check_any _ _ _ _ g _ (hG.ext (by go_grown))).mono ?_
    rw [H0.out]
    rintro e w1 ⟨rfl, hb1⟩
    have hbw : Below w.heap.size w w1 := ext_trans (by go_grown) hb1
    obtain ⟨B1, s1, s2, s3⟩ := Blk.go (g := w.heap.size + 1) (t := 34) (cs := #[.slice none 0 0, .slice none 0 0]) (Blk.new_ (by simp)) hb1
    obtain ⟨B0, c1, c2, c3⟩ := Blk.go (g := w.heap.size) (t := 25) (cs := gC A c A' c' g) ((Blk.new _ _ _).alloc _) hb1
    go_wp2_with fail
    refine (within_no t 0 (g.h - 1) _ (by omega)).mono ?_
    rintro e w2 ⟨rfl, rfl⟩
    go_wp2_with fail
    unfold GAtOut
    rw [HE.out, HO.out]
    refine bodyPost_ret (v := .tuple #[snapV none 0 none 0 ⟨[], []⟩, .int .i64 1]) (by simp [results, Tryz.results10, go_sem, s1, s2, s3]) rfl ?_
    exact ⟨none, 0, none, 0, rfl, snap_zero _ _, (hbw.setCell (by simp) _).setCell (by simp) _⟩
  have HE : Hid (atErr g t = 0) := Lib.hid (by unfold atErr; rw [if_pos H0.out, if_pos hr])
  have HO : Hid (atD g t = snapD g t) := Lib.hid (atD_0 HE.out)
  obtain ⟨i0, hi, hz0, hz1, hz2⟩ := info_mark2
  obtain ⟨j0, hje, hy0, hy1, hy2⟩ := info_arc2
  go_enter Tryz.func10, Tryz.ntmps10
  go_wp2_with fail
  refine (check_any _ _ _ _ g _ (hG.ext (by go_grown))).mono ?_
  rw [H0.out]
  rintro e w1 ⟨rfl, hb1⟩
  have hbw : Below w.heap.size w w1 := ext_trans (by go_grown) hb1
  obtain ⟨B1, s1, s2, s3⟩ := Blk.go (g := w.heap.size + 1) (t := 34) (cs := #[.slice none 0 0, .slice none 0 0]) (Blk.new_ (by simp)) hb1
  obtain ⟨B0, c1, c2, c3⟩ := Blk.go (g := w.heap.size) (t := 25) (cs := gC A c A' c' g) ((Blk.new _ _ _).alloc _) hb1
  clear hb1
  go_wp2_with fail
  refine (within_yes t 0 (g.h - 1) _ hr).mono ?_
  rintro e w2 ⟨rfl, rfl⟩
  clear hr
  go_wp2_with fail
  have B5 := Blk.new w1 34 #[.slice none 0 0, .slice none 0 0]
  have B1 := B1.alloc (Obj.cells #[.slice none 0 0, .slice none 0 0] 34)
  have B0 := B0.alloc (Obj.cells #[.slice none 0 0, .slice none 0 0] 34)
  have hbw := ext_alloc hbw (Obj.cells #[.slice none 0 0, .slice none 0 0] 34)
  have hz : w1.heap.size + 1 ≤ (w1.alloc (Obj.cells #[.slice none 0 0, .slice none 0 0] 34)).heap.size := by simp
  have hw1 : w.heap.size + 1 < w1.heap.size := s3
  clear s1 s2 s3 c1 c2 c3
  obtain ⟨g5, hg5⟩ : ∃ g5, g5 = w1.heap.size := ⟨_, rfl⟩
  rw [← hg5] at B5 hz hw1 ⊢
  obtain ⟨w3, hw3⟩ : ∃ w3 : World, w3 = w1.alloc (Obj.cells #[.slice none 0 0, .slice none 0 0] 34) := ⟨_, rfl⟩
  rw [← hw3] at B5 B1 B0 hbw hz ⊢
  clear hg5 hw3
  go_loopw [29] (fun x wr => ∃ (k : Nat) (vb : Value) (bl : List Bool), k ≤ g.lives.length ∧ x = .int .i64 k ∧ Hid (bl = (snapL g t).take k) ∧ bl.length ≤ k ∧ Own markEnc 1 wr (g5 + 1) 4 vb bl ∧ Blk wr g5 34 #[vb, .slice none 0 0] ∧
    Blk wr (w.heap.size + 1) 34 #[.slice none 0 0, .slice none 0 0] ∧ Blk wr w.heap.size 25 (gC A c A' c' g) ∧ Below w.heap.size w wr ∧ g5 + 1 ≤ wr.heap.size) (fun x _ => g.lives.length - (intOf x).toNat)
  case atStart => exact ⟨0, _, [], Nat.zero_le _, rfl, Lib.hid (by simp), by simp, Own.nil, B5, B1, B0, hbw, hz⟩
  case round =>
    clear B5 B1 B0 hbw hz
    obtain ⟨k, vb, bl, hk, rfl, HB, hbl, hown, B5, B1, B0, hbw, hz⟩ := hrel
    obtain ⟨f1, f2, f3⟩ := B5.facts
    obtain ⟨c1, c2, c3⟩ := B0.facts
    by_cases hlt : k < g.lives.length
    case pos =>
        have HLT := Lib.hid hlt
        obtain ⟨Ab, cb, rfl⟩ := hown.form
        go_wp2_with fail
        obtain ⟨S, hSS⟩ : ∃ S : World → Prop, Hid (S = fun w' => w'.cell? ⟨g5, 0, none⟩ = some (.slice Ab bl.length cb) ∧ w'.cell? ⟨w.heap.size, 0, none⟩ = some (.int .i64 g.h) ∧ w'.cell? ⟨w.heap.size, 1, none⟩ = some (.slice A g.lives.length c) ∧ w'.cell? ⟨w.heap.size, 2, none⟩ = some (.slice A' g.edges.length c')) := ⟨_, Lib.hid rfl⟩
        have hSb : ∀ wz, Below wr.heap.size wr wz → S wz := fun wz hb => by
          rw [hSS.out]
          exact ⟨cell_keep hb (by rw [B5.cell]; rfl), cell_keep hb (by rw [B0.cell]; rfl), cell_keep hb (by rw [B0.cell]; rfl), cell_keep hb (by rw [B0.cell]; rfl)⟩
        have hS0 : S wr.drew := hSb _ (below_drew (Below.refl _ _))
        have HSB := Lib.hid hSb
        clear hSb
        refine WpN.begin (S := S) 9 (by kernel_rfl) ?_
        refine WpN.takeD (i := 0) (v := ?_) rfl rfl (by kernel_rfl) (fun _ _ _ h => h) (Or.inl ⟨by rfl, ?_⟩) (by assumption) ?_
        rotate_left
        · intro w hSw; rw [hSS.out] at hSw; obtain ⟨sw0, sw1, sw2, sw3⟩ := hSw; go_simp; try with_reducible rfl
        simp only [Act.put, List.setIfInBounds_toArray, List.set_cons_zero, List.set_cons_succ]
        refine WpN.takeD (i := 1) (v := ?_) rfl rfl (by kernel_rfl) (fun _ _ _ h => h) (Or.inl ⟨by rfl, ?_⟩) (by assumption) ?_
        rotate_left
        · intro w hSw; rw [hSS.out] at hSw; obtain ⟨sw0, sw1, sw2, sw3⟩ := hSw; go_simp; try with_reducible rfl
        simp only [Act.put, List.setIfInBounds_toArray, List.set_cons_zero, List.set_cons_succ]
        refine WpN.takeD (i := 2) (v := ?_) rfl rfl (by kernel_rfl) (fun _ _ _ h => h) (Or.inl ⟨by rfl, ?_⟩) (by assumption) ?_
        rotate_left
        · intro w hSw; rw [hSS.out] at hSw; obtain ⟨sw0, sw1, sw2, sw3⟩ := hSw; go_simp; try with_reducible rfl
        simp only [Act.put, List.setIfInBounds_toArray, List.set_cons_zero, List.set_cons_succ]
        refine WpN.takeD (i := 3) (v := ?_) rfl rfl (by kernel_rfl) (fun _ _ _ h => h) (Or.inl ⟨by rfl, ?_⟩) (by assumption) ?_
        rotate_left
        · intro w hSw; rw [hSS.out] at hSw; obtain ⟨sw0, sw1, sw2, sw3⟩ := hSw; go_simp; try with_reducible rfl
        simp only [Act.put, List.setIfInBounds_toArray, List.set_cons_zero, List.set_cons_succ]
        refine WpN.takeD (i := 4) (v := ?_) rfl rfl (by kernel_rfl) (fun _ _ _ h => h) (Or.inl ⟨by rfl, ?_⟩) (by assumption) ?_
        rotate_left
        · intro w hSw; rw [hSS.out] at hSw; obtain ⟨sw0, sw1, sw2, sw3⟩ := hSw; go_simp; try with_reducible rfl
        simp only [Act.put, List.setIfInBounds_toArray, List.set_cons_zero, List.set_cons_succ]
        refine WpN.one (i := 5) rfl (by kernel_rfl) fun K hK => ?_
        go_wp2_with fail
        refine (alive_any A A' c c' g k t _ (hG.ext (ext_trans hbw (by go_grown))) (by omega) (by omega)).mono ?_
        rintro e w5 ⟨rfl, hb5⟩
        have hb6 : Below wr.heap.size wr w5 := ext_trans (by go_grown) hb5
        go_wp2_with fail
        have hS5 : S w5 := HSB.out _ hb6
        refine hK.out _ _ ⟨fun _ => hS5, ?_⟩
        clear hK K
        try simp only [Act.put, List.setIfInBounds_toArray, List.set_cons_zero, List.set_cons_succ]
        refine WpN.one (i := 6) rfl (by kernel_rfl) fun K hK => ?_
        go_wp2_with fail
        have hb7 : Below wr.heap.size wr (w5.alloc (Obj.cells #[.bool (aliveB g k t)] 4)) := ext_alloc hb6 _
        have hS6 := HSB.out _ hb7
        refine hK.out _ _ ⟨fun _ => hS6, ?_⟩
        clear hK K
        try simp only [Act.put, List.setIfInBounds_toArray, List.set_cons_zero, List.set_cons_succ]
        refine WpN.one (i := 7) rfl (by kernel_rfl) fun K hK => ?_
        have hown5 := hown.ext hb6
        have hz5 : g5 + 1 ≤ w5.heap.size := Nat.le_trans hz hb6.size
        refine wp_append_lie (enc := markEnc) (.tmp 33) (.tmp 38) 31 rfl (g5 + 1) 4 i0 _ 1 1 Tryz.underlying31 hi hz0 hz1 hz2 rfl (by decide) _ bl (aliveB g k t) rfl hown5 _ rfl w5.heap.size rfl rfl rfl mark_one (by omega) (by decide) hz5 ?_
        intro gn cap w6 hown6 hbb hkp hgn
        have B5b := hkp _ _ _ (Blk.go B5 hb6).1 (hown5.other (Blk.go B5 hb6).1 (by decide))
        have B0b := hkp _ _ _ (Blk.go B0 hb6).1 (hown5.other (Blk.go B0 hb6).1 (by decide))
        have B1b := hkp _ _ _ (Blk.go B1 hb6).1 (hown5.other (Blk.go B1 hb6).1 (by decide))
        have hS7 : S w6 := by rw [hSS.out]; exact ⟨by rw [B5b.cell]; rfl, by rw [B0b.cell]; rfl, by rw [B0b.cell]; rfl, by rw [B0b.cell]; rfl⟩
        refine hK.out _ _ ⟨fun _ => hS7, ?_⟩
        clear hK K
        try simp only [Act.put, List.setIfInBounds_toArray, List.set_cons_zero, List.set_cons_succ]
        refine WpN.takeD (i := 8) (v := ?_) rfl rfl (by kernel_rfl) (fun _ _ _ h => h) (Or.inl ⟨by rfl, ?_⟩) (by assumption) ?_
        rotate_left
        · intro w hSw; rw [hSS.out] at hSw; obtain ⟨sw0, sw1, sw2, sw3⟩ := hSw; go_simp; try with_reducible rfl
        simp only [Act.put, List.setIfInBounds_toArray, List.set_cons_zero, List.set_cons_succ]
        refine WpN.one (i := 9) rfl (by kernel_rfl) fun K hK => ?_
        obtain ⟨r1, r2, r3⟩ := B5b.facts
        go_wp2_with fail
        refine hK.out _ _ ⟨fun h => by omega, ?_⟩
        clear hK K
        refine WpN.done (by kernel_rfl) ?_ _
        have HN : Hid (bl ++ [aliveB g k t] = (snapL g t).take (k + 1)) := Lib.hid (by rw [snapL_take HLT.out, HB.out])
        have hbw7 : Below w.heap.size w w6 := (ext_trans hbw hb6).trans (hbb.mono (by omega))
        have hz7 : g5 + 1 ≤ w6.heap.size := Nat.le_trans hz5 hbb.size
        go_wp2_with fail
        go_roundw
        case rel =>
          refine ⟨k + 1, _, bl ++ [aliveB g k t], by omega, by go_num, HN, by simp; omega, hown6.keep (keep_store B5b (by decide) 0 _), by simpa using B5b.set_ 0 (.slice (some ⟨gn, 0, none⟩) (bl.length + 1) cap), B1b.far (by simp; omega) _, B0b.far (by simp; omega) _, hbw7.setCell (by simp; omega) _, by simpa using hz7⟩
        case measure => simp [intOf]; omega
    case neg =>
      have HL : Hid (bl = snapL g t) := Lib.hid (by rw [HB.out, snapL_end (by omega)])
      obtain rfl := HL.out
      obtain ⟨Ab, cb, rfl⟩ := hown.form
      have hln : (snapL g t).length ≤ 12 := by rw [snapL_len]; omega
      have hsn : ∀ v : Int, v < g.lives.length → v < ((snapL g t).length : Int) := fun v h => by rw [snapL_len]; exact h
      have HSN := Lib.hid hsn
      clear hsn HB
      go_wp2_with fail
      go_loopw [45] (fun x wr => ∃ (j : Nat) (va : Value) (al : List ArcD), j ≤ g.edges.length ∧ x = .int .i64 j ∧ Hid (al = arcsL g t (g.edges.take j)) ∧ al.length ≤ j ∧ Own markEnc 1 wr (g5 + 1) 4 (.slice Ab (snapL g t).length cb) (snapL g t) ∧ Own arcEnc 3 wr (g5 + 1) 81 va al ∧
        Blk wr g5 34 #[.slice Ab (snapL g t).length cb, va] ∧
        Blk wr (w.heap.size + 1) 34 #[.slice none 0 0, .slice none 0 0] ∧ Blk wr w.heap.size 25 (gC A c A' c' g) ∧ Below w.heap.size w wr ∧ g5 + 1 ≤ wr.heap.size) (fun x _ => g.edges.length - (intOf x).toNat)
      case atStart => exact ⟨0, _, [], Nat.zero_le _, rfl, Lib.hid (by simp [arcsL]), by simp, hown, Own.nil, B5, B1, B0, hbw, hz⟩
      case round =>
        clear hown B5 B1 B0 hbw hz f1 f2 f3 c1 c2 c3
        obtain ⟨j, va, al, hj, rfl, HA, hal, hown, hownA, B5, B1, B0, hbw, hz⟩ := hrel
        obtain ⟨f1, f2, f3⟩ := B5.facts
        obtain ⟨c1, c2, c3⟩ := B0.facts
        obtain ⟨Aa, ca, rfl⟩ := hownA.form
        by_cases hlt2 : j < g.edges.length
        case neg =>
          have HL2 : Hid (al = arcsL g t g.edges) := Lib.hid (by rw [HA.out, List.take_of_length_le (by omega)])
          clear HA
          obtain rfl := HL2.out
          obtain ⟨s1, s2, s3⟩ := B1.facts
          have HV := Lib.hid hV
          clear hal hln hV
          go_wp2_with fail
          have K : ∀ (t' : TypeId) b cs, t' ≠ 34 → Blk wr b t' cs → Blk ((wr.setCell ⟨w.heap.size + 1, 0, none⟩ (.slice Ab (snapL g t).length cb)).setCell ⟨w.heap.size + 1, 1, none⟩ (.slice Aa (arcsL g t g.edges).length ca)) b t' cs := fun t' b cs ht h => by
            have hne := blk_ne h B1 ht
            exact (h.far hne _).far hne _
          unfold GAtOut
          rw [HE.out, HO.out]
          refine bodyPost_ret (v := .tuple #[snapV Ab cb Aa ca (snapD g t), .int .i64 0]) (by simp [results, Tryz.results10, go_sem, s1, s2, s3, snapD]) rfl ?_
          exact ⟨Ab, cb, Aa, ca, rfl, snap_new HV.out ((hown.keep (fun b cs h => K _ b cs (by decide) h)).since (by omega)) ((hownA.keep (fun b cs h => K _ b cs (by decide) h)).since (by omega)), (hbw.setCell (by simp) _).setCell (by simp) _⟩
        obtain ⟨be, oe, hE⟩ := hG.edges
        obtain ⟨y, hy⟩ := get_lt hlt2
        obtain ⟨rfl, hbe, ⟨⟨x0, x1, L, cl, x2, hl1, hl2, hL⟩, _⟩⟩ := hE j y hy
        have y0 := x0.now hbw
        have y1 := x1.now hbw
        have y2 := x2.now hbw
        have hyo := hV.edges y (List.mem_of_getElem? hy)
        have ha0 := hyo.a0; have ha1 := hyo.a1; have hd0 := hyo.b0; have hd1 := hyo.b1
        have hl6 := hyo.six
        have HTK := Lib.hid (arcsL_snoc g t hy)
        have hlm : y.legs.length ≤ maxLen := by unfold maxLen; omega
        clear hE hy x0 x1 x2
        cases hq : leaves t y.legs with
        | none =>
          have HQ := Lib.hid hq
          have HN : Hid (al = arcsL g t (g.edges.take (j + 1))) := Lib.hid (by rw [HTK.out, arcOf_no hq, List.append_nil, HA.out])
          clear hq HTK
          go_wp2_with fail
          refine (leaves_any L cl y t _ (hL.ext RLeg.stable (ext_trans hbw (by go_grown))) hlm).mono ?_
          rw [HQ.out]
          simp only [legsR]
          rintro e w2 ⟨rfl, hb2⟩
          have hb3 : Below wr.heap.size wr w2 := ext_trans (by go_grown) hb2
          obtain ⟨B5, d1, d2, d3⟩ := B5.go hb3
          obtain ⟨B0, e1, e2, e3⟩ := B0.go hb3
          obtain ⟨BY, i1, i2, i3⟩ := (Blk.new wr 60 #[.int .i64 y.a, .int .i64 y.b, .slice L y.legs.length cl]).go hb2
          clear f1 f2 f3 c1 c2 c3 y0 y1 y2
          go_wp2_with fail
          go_roundw
          case rel => exact ⟨j + 1, _, al, by omega, by go_num, HN, by omega, (hown.ext hb3).alloc _, (hownA.ext hb3).alloc _, B5.alloc _, (B1.go hb3).1.alloc _, B0.alloc _, ext_alloc (ext_trans hbw hb3) _, Nat.le_trans hz (Nat.le_trans hb3.size (by simp))⟩
          case measure => simp [intOf]; omega
        | some lg =>
          have HQ := Lib.hid hq
          obtain ⟨Am, dm, hvv, bm, om, hSm⟩ := own_marks hown
          injection hvv with hvv
          subst hvv
          obtain ⟨rfl, hbm, p0⟩ := hSm _ _ (snapL_at (t := t) ha0 ha1)
          obtain ⟨_, _, p1⟩ := hSm _ _ (snapL_at (t := t) hd0 hd1)
          unfold RBool at p0 p1
          have hia := HSN.out _ ha1
          have hib := HSN.out _ hd1
          have HAA : Hid (aliveB g y.a t = false → al = arcsL g t (g.edges.take (j + 1))) := Lib.hid (fun h => by rw [HTK.out, arcOf_a h, List.append_nil, HA.out])
          have HBB : Hid (aliveB g y.b t = false → al = arcsL g t (g.edges.take (j + 1))) := Lib.hid (fun h => by rw [HTK.out, arcOf_b h, List.append_nil, HA.out])
          have HYY : Hid (aliveB g y.a t = true → aliveB g y.b t = true → al ++ [⟨y.a, y.b, lg.cost⟩] = arcsL g t (g.edges.take (j + 1))) := Lib.hid (fun h h' => by rw [HTK.out, arcOf_yes hq h h', HA.out])
          clear hq HTK HA hSm
          go_wp2_with fail
          refine (leaves_any L cl y t _ (hL.ext RLeg.stable (ext_trans hbw (by go_grown))) hlm).mono ?_
          rw [HQ.out]
          simp only [legsR]
          rintro e w2 ⟨rfl, hb2⟩
          have hb3 : Below wr.heap.size wr w2 := ext_trans (by go_grown) hb2
          obtain ⟨B5, d1, d2, d3⟩ := B5.go hb3
          obtain ⟨B0, e1, e2, e3⟩ := B0.go hb3
          obtain ⟨BY, i1, i2, i3⟩ := (Blk.new wr 60 #[.int .i64 y.a, .int .i64 y.b, .slice L y.legs.length cl]).go hb2
          have q0 := p0.now hb3
          have q1 := p1.now hb3
          simp only [Nat.mul_one] at q0 q1
          have hbm2 : bm < w2.heap.size := Nat.lt_of_lt_of_le hbm hb3.size
          have hown := hown.ext hb3
          have hownA := hownA.ext hb3
          have B1 := (B1.go hb3).1
          have hbw := ext_trans hbw hb3
          have hz : g5 + 1 ≤ w2.heap.size := Nat.le_trans hz hb3.size
          clear f1 f2 f3 c1 c2 c3 y0 y1 y2 p0 p1 hb2 hb3
          generalize hpa : aliveB g y.a t = pa at *
          generalize hpb : aliveB g y.b t = pb at *
          clear hpa hpb
          cases pa
          case false =>
            have HN := Lib.hid (HAA.out rfl)
            clear HAA HBB HYY
            go_wp2_with fail
            go_roundw
            case rel => exact ⟨j + 1, _, al, by omega, by go_num, HN, by omega, hown.alloc _, hownA.alloc _, B5.alloc _, B1.alloc _, B0.alloc _, ext_alloc hbw _, Nat.le_trans hz (by simp)⟩
            case measure => simp [intOf]; omega
          case true =>
            cases pb
            case false =>
              have HN := Lib.hid (HBB.out rfl)
              clear HAA HBB HYY
              go_wp2_with fail
              go_roundw
              case rel => exact ⟨j + 1, _, al, by omega, by go_num, HN, by omega, hown.alloc _, hownA.alloc _, B5.alloc _, B1.alloc _, B0.alloc _, ext_alloc hbw _, Nat.le_trans hz (by simp)⟩
              case measure => simp [intOf]; omega
            case true =>
              have HN := Lib.hid (HYY.out rfl rfl)
              clear HAA HBB HYY
              have B5a := B5.alloc (Obj.cells #[.int .i64 lg.f, .int .i64 lg.t, .int .i64 lg.time, .int .i64 lg.cost] 77)
              have hzi : g5 + 1 ≤ (w2.alloc (Obj.cells #[.int .i64 lg.f, .int .i64 lg.t, .int .i64 lg.time, .int .i64 lg.cost] 77)).heap.size := Nat.le_trans hz (by simp)
              go_wp2_with (at_builtin; refine wpList_append_els (enc := arcEnc) rfl (.tmp 73) (.tmp 81) 32 rfl (g5 + 1) 81 j0 _ 3 24 Tryz.underlying32 hje hy0 hy1 hy2 rfl (by decide) _ al [⟨y.a, y.b, lg.cost⟩] 1 rfl rfl (hownA.alloc _) _ rfl (w2.heap.size + 1) (by simp) rfl rfl arc_one (by omega) (by decide) hzi ?_; intro v' w6 hown6 hb6 hkp; obtain ⟨Aw, dw, rfl⟩ := hown6.form; have B5b := hkp _ _ _ B5a (by decide); obtain ⟨r1, r2, r3⟩ := B5b.facts)
              have B1b := hkp _ _ _ (B1.alloc (Obj.cells #[.int .i64 lg.f, .int .i64 lg.t, .int .i64 lg.time, .int .i64 lg.cost] 77)) (by decide)
              have B0b := hkp _ _ _ (B0.alloc (Obj.cells #[.int .i64 lg.f, .int .i64 lg.t, .int .i64 lg.time, .int .i64 lg.cost] 77)) (by decide)
              have hownb := (hown.alloc (Obj.cells #[.int .i64 lg.f, .int .i64 lg.t, .int .i64 lg.time, .int .i64 lg.cost] 77)).keep (fun b cs h => hkp _ _ _ h (by decide))
              have hbw6 : Below w.heap.size w w6 := (ext_alloc hbw _).trans (hb6.mono (by omega))
              have hz6 : g5 + 1 ≤ w6.heap.size := Nat.le_trans hzi hb6.size
              go_roundw
              case rel =>
                refine ⟨j + 1, _, al ++ [(⟨y.a, y.b, lg.cost⟩ : ArcD)], by omega, by go_num, HN, by simp; omega, hownb.keep (keep_store B5b (by decide) 1 _), hown6.keep (keep_store B5b (by decide) 1 _), by simpa using B5b.set_ 1 (.slice Aw (al ++ [(⟨y.a, y.b, lg.cost⟩ : ArcD)]).length dw), B1b.far (by simp; omega) _, B0b.far (by simp; omega) _, hbw6.setCell (by simp; omega) _, by simpa using hz6⟩
              case measure => simp [intOf]; omega
end Go.Proofs.YtdpibehpmghghaaGreat
