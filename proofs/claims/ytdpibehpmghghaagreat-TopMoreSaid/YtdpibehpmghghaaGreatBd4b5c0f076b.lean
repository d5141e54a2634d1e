/- One text: LawMore. -/
import Derived.Deep.DeepCutAuto
import Derived.Deep.CutBlock
import Derived.BigQuiet
import Derived.Test.YtdpibehpmghghaaGreatBdf44b3a9ca3
import Derived.Test.YtdpibehpmghghaaGreatBd384ac1f49a
import Derived.Test.YtdpibehpmghghaaGreatBd4045126264
import Derived.Test.YtdpibehpmghghaaGreatBdd341b869f0
import Derived.Test.YtdpibehpmghghaaGreatBd6a05f0021e
import Derived.Test.YtdpibehpmghghaaGreatBd2195b580c1
import Derived.Test.YtdpibehpmghghaaGreatBd2ead63bc01
/- The law TopMore (printed by genmore.py). -/
namespace Go.Proofs.YtdpibehpmghghaaGreat
open Go.RowKit

theorem edge_one (a b : Int) (L : Option Addr) (n : Nat) {c : Nat} : ∀ u ∈ (#[.int .i64 a, .int .i64 b, .slice L n c] : Array Value).toList, u.oneCell' = true := by simp [Value.oneCell']
theorem legs_more {w : World} {items : List EItem} {x : EdgeD} {L : Option Addr} {cl : Nat} (h : LegsSl w items) (hX : SlAt RLeg 4 w L x.legs) (h1 : x.legs.length ≤ cl) (h2 : cl ≤ maxLen) (h3 : I64 x.a) (h4 : I64 x.b) : LegsSl w (items ++ [(x, L, cl)]) := fun it hi => by
  rcases List.mem_append.1 hi with h5 | h5
  · exact h it h5
  · obtain rfl : it = (x, L, cl) := by simpa using h5
    exact ⟨⟨hX, h1, h2⟩, h3, h4⟩
theorem place_run {g : GraphD} {v t : Int} (h : placeErr g v t = 0) : runErr g 2 v = 0 := by
  unfold placeErr at h
  split at h
  · next h0 =>
    split at h
    · next h1 =>
      simp only [inB, decide_eq_true_eq] at h1
      unfold runErr
      rw [if_pos h0, if_pos (by decide), if_neg (by omega)]
    · simp at h
  · next h0 => exact absurd h h0
/-- What the region of the edge more leaves. -/
def MoreMem (A A' : Option Addr) (c c' : Nat) (g : GraphD) (x : EdgeD) (km kg : Nat) (wq wx : World) : Prop := ∃ Am cm, Blk wx km 25 (gC A c Am cm (moreG g x)) ∧ Blk wx kg 25 (gC A c A' c' g) ∧ GraphAt wx A c Am cm (moreG g x) ∧ Below km wq wx
theorem more_meet {A A' A5 L : Option Addr} {c c' c5 km cl : Nat} {g : GraphD} {x : EdgeD} {items : List EItem} {w wq w5 : World} (hG : GraphAt w A c A' c' g) (hi : items.map Prod.fst = g.edges) (hlg : LegsSl w items) (hX : SlAt RLeg 4 w L x.legs) (hx : (x.legs.length ≤ cl ∧ cl ≤ maxLen) ∧ I64 x.a ∧ I64 x.b)
    (hw : Below w.heap.size w wq) (hk1 : w.heap.size < km) (BG : Blk wq w.heap.size 25 (gC A c A' c' g)) (BM : Blk w5 km 25 (gC A c A' c' g)) (hb : Below wq.heap.size wq w5) (hkm : km < wq.heap.size)
    (hO : Own eEnc 3 w5 wq.heap.size 60 (.slice A5 (items ++ [(x, L, cl)]).length c5) (items ++ [(x, L, cl)])) : MoreMem A A' c c' g x km w.heap.size wq (w5.setCell ⟨km, 2, none⟩ (.slice A5 (items.length + 1) c5)) := by
  have hn1 : items.length + 1 = (items ++ [(x, L, cl)]).length := by simp
  rw [hn1]
  clear hn1
  have hl : (items ++ [(x, L, cl)]).map Prod.fst = g.edges ++ [x] := by rw [List.map_append, hi]; rfl
  have hn : (items ++ [(x, L, cl)]).length = (moreG g x).edges.length := by rw [← List.length_map (f := Prod.fst), hl]; rfl
  have hr := hO.room
  have hO2 := hO.keep (keep_store BM (by decide) 2 (.slice A5 (items ++ [(x, L, cl)]).length c5))
  have hbs : Below km w5 (w5.setCell ⟨km, 2, none⟩ (.slice A5 (items ++ [(x, L, cl)]).length c5)) := (Below.refl km w5).setCell (Nat.le_refl _) _
  have hbW : Below km wq (w5.setCell ⟨km, 2, none⟩ (.slice A5 (items ++ [(x, L, cl)]).length c5)) := (hb.mono (by omega)).trans hbs
  have hbw : Below w.heap.size w (w5.setCell ⟨km, 2, none⟩ (.slice A5 (items ++ [(x, L, cl)]).length c5)) := hw.trans (hbW.mono (Nat.le_of_lt hk1))
  obtain ⟨A9, c9, hv, hS⟩ := own_edges2 hO2 (legs_more (hlg.ext hbw) (hX.ext RLeg.stable hbw) hx.1.1 hx.1.2 hx.2.1 hx.2.2)
  injection hv with e1 e2 e3
  subst e1 e3
  rw [hl] at hS
  have h9 := BM.set_ 2 (.slice A5 (items ++ [(x, L, cl)]).length c5)
  rw [hn] at h9 hr hS hbW hbw ⊢
  exact ⟨A5, c5, h9, (BG.ext hb).far (by simp; omega) _, ⟨hG.h, hG.lc, hG.cm, hr.1, hr.2, hG.lives.ext RIvl.stable hbw, hS⟩, hbW⟩
set_option maxRecDepth 100000 in
set_option maxHeartbeats 16000000 in
theorem topMore_calls (A A' : Option Addr) (c c' : Nat) (g : GraphD) {w : World} (hG : GraphAt w A c A' c' g) (hsz : g.edges.length * 40 ≤ 140737488351232) (L : Option Addr) (cl : Nat) (x : EdgeD) (hxl : x.legs.length ≤ cl) (hcl : cl ≤ maxLen) (hX : SlAt RLeg 4 w L x.legs) (hxa : I64 x.a) (hxb : I64 x.b) (v : Int) (_ : I64 v) (s : Int) (_ : I64 s) :
    Calls Tryz.prog 6 #[gV A c A' c' g, edgeV L cl x, .int .i64 v, .int .i64 s] w fun e w' => e = .returned (.bool true) ∧ Below w.heap.size w w' := by
  obtain ⟨i0, hi, hz0, hz1, hz2⟩ := info_edge4_
  have HG := Lib.hid hG
  have HX := Lib.hid hX
  have HA0 : A' = none → g.edges = [] := fun h => by
    obtain ⟨b, o, hS⟩ := hG.edges
    refine List.eq_nil_iff_forall_not_mem.2 fun y hy => ?_
    obtain ⟨j, hj⟩ := List.getElem?_of_mem hy
    have h1 := (hS j y hj).1
    rw [h] at h1
    cases h1
  obtain ⟨items, hi0, hlg, hcell⟩ := edges_items hG.edges
  have HI0 := Lib.hid hi0
  have HLG := Lib.hid hlg
  have HXC : Hid ((x.legs.length ≤ cl ∧ cl ≤ maxLen) ∧ I64 x.a ∧ I64 x.b) := Lib.hid ⟨⟨hxl, hcl⟩, hxa, hxb⟩
  clear hG hX hi0 hlg hxl hcl hxa hxb
  go_enter Tryz.func6, Tryz.ntmps6
  go_wp2_with fail
  refine (said_any _).mono ?_
  rintro e w1 ⟨rfl, hb1⟩
  have hbw : Below w.heap.size w w1 := ext_trans (by go_grown) hb1
  have B1 := ((Blk.new w 25 (gC A c A' c' g)).alloc (Obj.cells #[.int .i64 x.a, .int .i64 x.b, .slice L x.legs.length cl] 60)).ext hb1
  have B2 := (Blk.new (w.alloc (Obj.cells (gC A c A' c' g) 25)) 60 #[.int .i64 x.a, .int .i64 x.b, .slice L x.legs.length cl]).ext hb1
  have hk00 : w.heap.size + 1 < w1.heap.size := by have := B2.lt; simpa using this
  obtain ⟨c1, c2, c3⟩ := B1.facts
  clear hb1
  go_upto_region 4 with fail
  have BM := Blk.new w1 25 (gC A c A' c' g)
  have B1 := B1.alloc (Obj.cells (gC A c A' c' g) 25)
  have B2 := B2.alloc (Obj.cells (gC A c A' c' g) 25)
  have hbw := ext_alloc hbw (Obj.cells (gC A c A' c' g) 25)
  have hk0 : w.heap.size < w1.heap.size := c3
  have hk1 : w1.heap.size < (w1.alloc (Obj.cells (gC A c A' c' g) 25)).heap.size := by simp
  change Code.wp _ _ _ _ (w1.alloc (Obj.cells (gC A c A' c' g) 25))
  obtain ⟨wq, hwq⟩ : ∃ wq, w1.alloc (Obj.cells (gC A c A' c' g) 25) = wq := ⟨_, rfl⟩
  obtain ⟨km, hkm⟩ : ∃ km, w1.heap.size = km := ⟨_, rfl⟩
  rw [show (w.alloc (Obj.cells (gC A c A' c' g) 25)).heap.size = w.heap.size + 1 by simp] at B2
  rw [hwq] at BM B1 B2 hbw hk1 ⊢
  rw [hkm] at BM hk0 hk00 hk1 ⊢
  have HK1 := Lib.hid hk00
  have HKM : Hid (km < wq.heap.size ∧ w.heap.size < km) := Lib.hid ⟨hk1, hk0⟩
  have HBW := Lib.hid hbw
  have HB1 := Lib.hid B1
  have hcl := edgeClone_any A' c' g.edges items
  have HCL : Hid (∀ W : World, Below wq.heap.size wq W → Calls Tryz.prog 27 #[.slice A' g.edges.length c'] W (ECloneOut items W)) := Lib.hid fun W hW => hcl W HI0.out HA0 (fun ad hA j u hu w' hb => hcell ad hA j u hu w' (HBW.out.trans ((hW.trans (hb.mono hW.size)).mono HBW.out.size))) (Nat.le_trans HG.out.lc' HG.out.cm') hsz
  have HN1 : Hid (items.length + 1 ≤ maxLen ∧ (items.length + 1) * 40 ≤ 140737488355328) := Lib.hid (by
    have e : items.length = g.edges.length := by rw [← HI0.out, List.length_map]
    unfold maxLen
    omega)
  clear hcl hcell hwq hkm c1 c2 c3 hk0 hk00 hk1
  go_cut [] from 28 to 34 (fun wx => MoreMem A A' c c' g x km w.heap.size wq wx)
  case first =>
    obtain ⟨S1, hSS⟩ : ∃ S1 : World → Prop, Hid (S1 = fun w' => w'.cell? ⟨w.heap.size, 2, none⟩ = some (.slice A' g.edges.length c') ∧ w'.cell? ⟨w.heap.size + 1, 0, none⟩ = some (.int .i64 x.a) ∧ w'.cell? ⟨w.heap.size + 1, 1, none⟩ = some (.int .i64 x.b) ∧ w'.cell? ⟨w.heap.size + 1, 2, none⟩ = some (.slice L x.legs.length cl)) := ⟨_, Lib.hid rfl⟩
    have HKS2 : Hid (∀ w', Below km wq w' → S1 w') := Lib.hid fun w' h => by
      rw [hSS.out]
      have k1 := HKM.out.2
      exact ⟨(h.cell (p := ⟨w.heap.size, 2, none⟩) k1).trans (B1.cell 2), (h.cell (p := ⟨w.heap.size + 1, 0, none⟩) HK1.out).trans (B2.cell 0), (h.cell (p := ⟨w.heap.size + 1, 1, none⟩) HK1.out).trans (B2.cell 1), (h.cell (p := ⟨w.heap.size + 1, 2, none⟩) HK1.out).trans (B2.cell 2)⟩
    have HKS : Hid (∀ w', Below wq.heap.size wq w' → S1 w') := Lib.hid fun w' h => HKS2.out w' (h.mono (by have := HKM.out.1; omega))
    have hd0 := below_drew (Below.refl wq.heap.size wq)
    have hS0 : S1 wq.drew := HKS.out _ hd0
    go_wp2_with fail
    refine anyH_begin S1 (by kernel_rfl) ?_
    refine anyH_take (i := 0) (v := ?_) rfl rfl (by kernel_rfl) (fun _ _ _ h => h) (Or.inl ⟨by rfl, ?_⟩) (by assumption) ?_
    rotate_left
    · intro w hSw; rw [hSS.out] at hSw; obtain ⟨sw0, sw1, sw2, sw3⟩ := hSw; go_simp; try with_reducible rfl
    try simp only [Act.put, List.setIfInBounds_toArray, List.set_cons_zero, List.set_cons_succ]
    refine anyH_take (i := 1) (v := ?_) rfl rfl (by kernel_rfl) (fun _ _ _ h => h) (Or.inl ⟨by rfl, ?_⟩) (by assumption) ?_
    rotate_left
    · intro w hSw; rw [hSS.out] at hSw; obtain ⟨sw0, sw1, sw2, sw3⟩ := hSw; go_simp; try with_reducible rfl
    try simp only [Act.put, List.setIfInBounds_toArray, List.set_cons_zero, List.set_cons_succ]
    refine anyH_take (i := 3) (v := ?_) rfl rfl (by kernel_rfl) (fun _ _ _ h => h) (Or.inl ⟨by rfl, ?_⟩) (by assumption) ?_
    rotate_left
    · intro w hSw; rw [hSS.out] at hSw; obtain ⟨sw0, sw1, sw2, sw3⟩ := hSw; go_simp; try with_reducible rfl
    try simp only [Act.put, List.setIfInBounds_toArray, List.set_cons_zero, List.set_cons_succ]
    refine anyH_two (i := 2) (j := 4) rfl rfl (by kernel_rfl) (fun K hK => ?_) (fun K hK => ?_)
    · go_wp2_with fail
      refine (HCL.out _ hd0).mono ?_
      rintro e w3 ⟨v3, rfl, hO3, hbb3⟩
      have hb3 : Below wq.heap.size wq w3 := ext_trans hd0 hbb3
      refine hK.out _ _ ⟨HKS.out _ hb3, ?_⟩
      clear hK K
      try simp only [Act.put, List.setIfInBounds_toArray, List.set_cons_zero, List.set_cons_succ]
      refine anyH_one (i := 4) rfl (by kernel_rfl) fun K hK => ?_
      go_wp2_with fail
      have hb4 : Below wq.heap.size wq (w3.alloc (Obj.cells #[.int .i64 x.a, .int .i64 x.b, .slice L x.legs.length cl] 60)) := ext_alloc hb3 _
      refine hK.out _ _ ⟨HKS.out _ hb4, ?_⟩
      clear hK K
      try simp only [Act.put, List.setIfInBounds_toArray, List.set_cons_zero, List.set_cons_succ]
      refine anyH_one (i := 5) rfl (by kernel_rfl) fun K hK => ?_
      refine wp_append_big (enc := eEnc) (.tmp 30) (.tmp 32) 23 rfl wq.heap.size 60 i0 _ 3 40 Tryz.underlying23 hi hz0 hz1 hz2 rfl (by decide) v3 items (x, L, cl) rfl (hO3.alloc _) #[.int .i64 x.a, .int .i64 x.b, .slice L x.legs.length cl] rfl w3.heap.size (Blk.new _ _ _) rfl rfl (edge_one _ _ _ _) HN1.out.1 HN1.out.2 hb4.size ?_
      intro v5 w5 hO5 hb5 hk5
      have hb6 : Below wq.heap.size wq w5 := hb4.trans hb5
      have hS6 := HKS.out _ hb6
      refine hK.out _ _ ⟨hS6, ?_⟩
      clear hK K
      try simp only [Act.put, List.setIfInBounds_toArray, List.set_cons_zero, List.set_cons_succ]
      have BM5 : Blk w5 km 25 (gC A c A' c' g) := BM.ext hb6
      obtain ⟨A5, c5, rfl⟩ := hO5.form
      have y2 : w5.cell? ⟨km, 2, none⟩ = some (.slice A' g.edges.length c') := BM5.cell 2
      have f2 : w5.frozen? ⟨km, 2, none⟩ = false := BM5.frozen 2
      have y3 := BM5.lt
      have hkm := HKM.out.1
      refine anyH_take (i := 6) (v := ?_) rfl rfl (by kernel_rfl) (fun _ _ _ h => h) (Or.inl ⟨by rfl, ?_⟩) (by assumption) ?_
      rotate_left
      · intro w hSw; rw [hSS.out] at hSw; obtain ⟨sw0, sw1, sw2, sw3⟩ := hSw; go_simp; try with_reducible rfl
      try simp only [Act.put, List.setIfInBounds_toArray, List.set_cons_zero, List.set_cons_succ]
      refine anyH_one (i := 7) rfl (by kernel_rfl) fun K hK => ?_
      go_wp2_with fail
      have hb7 : Below km wq w5 := hb6.mono (Nat.le_of_lt HKM.out.1)
      have hbW : Below km wq (w5.setCell ⟨km, 2, none⟩ (.slice A5 (items.length + 1) c5)) := hb7.setCell (Nat.le_refl _) _
      refine hK.out _ _ ⟨HKS2.out _ hbW, ?_⟩
      clear hK K
      refine wpAnyH_done (by kernel_rfl) ?_ _
      try simp only [Act.put, List.setIfInBounds_toArray, List.set_cons_zero, List.set_cons_succ]
      go_wp2_with fail
      go_meet
      exact more_meet HG.out HI0.out HLG.out HX.out HXC.out HBW.out HKM.out.2 HB1.out BM5 hb6 HKM.out.1 hO5
    · go_wp2_with fail
      have hb4 : Below wq.heap.size wq (wq.drew.alloc (Obj.cells #[.int .i64 x.a, .int .i64 x.b, .slice L x.legs.length cl] 60)) := ext_alloc hd0 _
      refine hK.out _ _ ⟨HKS.out _ hb4, ?_⟩
      clear hK K hS0
      try simp only [Act.put, List.setIfInBounds_toArray, List.set_cons_zero, List.set_cons_succ]
      refine anyH_one (i := 2) rfl (by kernel_rfl) fun K hK => ?_
      go_wp2_with fail
      refine (HCL.out _ hb4).mono ?_
      rintro e w3 ⟨v3, rfl, hO3, hbb3⟩
      have hb3 : Below wq.heap.size wq w3 := ext_trans hb4 hbb3
      refine hK.out _ _ ⟨HKS.out _ hb3, ?_⟩
      clear hK K
      try simp only [Act.put, List.setIfInBounds_toArray, List.set_cons_zero, List.set_cons_succ]
      refine anyH_one (i := 5) rfl (by kernel_rfl) fun K hK => ?_
      refine wp_append_big (enc := eEnc) (.tmp 30) (.tmp 32) 23 rfl wq.heap.size 60 i0 _ 3 40 Tryz.underlying23 hi hz0 hz1 hz2 rfl (by decide) v3 items (x, L, cl) rfl (hO3.since (by simp)) #[.int .i64 x.a, .int .i64 x.b, .slice L x.legs.length cl] rfl wq.heap.size ((Blk.new wq.drew 60 #[.int .i64 x.a, .int .i64 x.b, .slice L x.legs.length cl]).ext hbb3) rfl rfl (edge_one _ _ _ _) HN1.out.1 HN1.out.2 hb3.size ?_
      intro v5 w5 hO5 hb5 hk5
      have hb6 : Below wq.heap.size wq w5 := hb3.trans hb5
      have hS6 := HKS.out _ hb6
      refine hK.out _ _ ⟨hS6, ?_⟩
      clear hK K
      try simp only [Act.put, List.setIfInBounds_toArray, List.set_cons_zero, List.set_cons_succ]
      have BM5 : Blk w5 km 25 (gC A c A' c' g) := BM.ext hb6
      obtain ⟨A5, c5, rfl⟩ := hO5.form
      have y2 : w5.cell? ⟨km, 2, none⟩ = some (.slice A' g.edges.length c') := BM5.cell 2
      have f2 : w5.frozen? ⟨km, 2, none⟩ = false := BM5.frozen 2
      have y3 := BM5.lt
      have hkm := HKM.out.1
      refine anyH_take (i := 6) (v := ?_) rfl rfl (by kernel_rfl) (fun _ _ _ h => h) (Or.inl ⟨by rfl, ?_⟩) (by assumption) ?_
      rotate_left
      · intro w hSw; rw [hSS.out] at hSw; obtain ⟨sw0, sw1, sw2, sw3⟩ := hSw; go_simp; try with_reducible rfl
      try simp only [Act.put, List.setIfInBounds_toArray, List.set_cons_zero, List.set_cons_succ]
      refine anyH_one (i := 7) rfl (by kernel_rfl) fun K hK => ?_
      go_wp2_with fail
      have hb7 : Below km wq w5 := hb6.mono (Nat.le_of_lt HKM.out.1)
      have hbW : Below km wq (w5.setCell ⟨km, 2, none⟩ (.slice A5 (items.length + 1) c5)) := hb7.setCell (Nat.le_refl _) _
      refine hK.out _ _ ⟨HKS2.out _ hbW, ?_⟩
      clear hK K
      refine wpAnyH_done (by kernel_rfl) ?_ _
      try simp only [Act.put, List.setIfInBounds_toArray, List.set_cons_zero, List.set_cons_succ]
      go_wp2_with fail
      go_meet
      exact more_meet HG.out HI0.out HLG.out HX.out HXC.out HBW.out HKM.out.2 HB1.out BM5 hb6 HKM.out.1 hO5
  case rest =>
    obtain ⟨Am, cm, BM2, BG2, hGm, hbm⟩ := hcut
    obtain ⟨wA, rfl⟩ : ∃ x, x = wc := ⟨_, rfl⟩
    have hbwA : Below w.heap.size w wA := HBW.out.trans (hbm.mono (Nat.le_of_lt HKM.out.2))
    have hGA := HG.out.ext hbwA
    have HGA := Lib.hid hGA
    have HGM := Lib.hid hGm
    have HBM := Lib.hid BM2
    have HBG := Lib.hid BG2
    obtain ⟨c1, c2, c3⟩ := BG2.facts
    clear hGA hGm BM2 BG2 hbm BM B1 B2 hbw
    go_wp2_with fail
    refine (arrivals_any A A' c c' g v s wA HGA.out).mono ?_
    rintro e w2 ⟨la, Aa, ca, hla, rfl, hIa, hma, hb2⟩
    clear c1 c2 c3
    obtain ⟨c1, c2, c3⟩ := (HBM.out.ext hb2).facts
    have HLA := Lib.hid hla
    have HIA := Lib.hid hIa
    clear hla hIa
    go_wp2_with fail
    refine (arrivals_any A Am c cm (moreG g x) v s w2 (HGM.out.ext hb2)).mono ?_
    rintro e w3 ⟨lb, Ab, cb, hlb, rfl, hIb, hmb, hb3⟩
    have hb23 := ext_trans hb2 hb3
    have hbw3 := ext_trans hbwA hb23
    clear c1 c2 c3
    obtain ⟨c1, c2, c3⟩ := (HBG.out.ext hb23).facts
    have HLB := Lib.hid hlb
    have HIA3 := Lib.hid (HIA.out.ext RInt.stable hb3)
    have HIB := Lib.hid hIb
    clear hlb hIb HIA hb2 hb3
    by_cases h0 : placeErr g v s = 0
    case neg =>
      have hn : (placeErr g v s != 0) = true := by simp [h0]
      clear h0 c1 c2 c3
      go_wp2_with fail
      go_ret
      exact ⟨rfl, hbw3⟩
    by_cases h1 : placeErr (moreG g x) v s = 0
    case neg =>
      have hn : (placeErr (moreG g x) v s != 0) = true := by simp [h1]
      rw [h0]
      clear h0 h1 c1 c2 c3
      go_wp2_with fail
      go_ret
      exact ⟨rfl, hbw3⟩
    have hEa := arr_good h0 HLA.out
    have hEb := arr_good h1 HLB.out
    have HLE := Lib.hid (more_early hEa hEb)
    have hV : Valid g := runErr_valid (place_run h0)
    have hV' : Valid (moreG g x) := runErr_valid (place_run h1)
    obtain ⟨n, hn⟩ : ∃ n, g.lives.length = n := ⟨_, rfl⟩
    have hn12 : n ≤ 12 := by rw [← hn]; exact hV.nl
    rw [h0, h1, show la.length = n from hEa.1.trans hn, show lb.length = n from hEb.1.trans hn]
    have HLAN : Hid (la.length = n ∧ lb.length = n) := Lib.hid ⟨hEa.1.trans hn, hEb.1.trans hn⟩
    have hca := costs_any A A' c c' g v s w3 (HGA.out.ext hb23)
    have hcb := fun W (h : Below w3.heap.size w3 W) => costs_any A Am c cm (moreG g x) v s W (HGM.out.ext (ext_trans hb23 h))
    rw [h0] at hca
    rw [h1] at hcb
    have HP0 := Lib.hid h0
    have HP1 := Lib.hid h1
    have HV := Lib.hid hV
    have HV2 := Lib.hid hV'
    have HN := Lib.hid hn
    have HCB := Lib.hid hcb
    clear h0 h1 hEa hEb hV hV' hn hma hmb hcb
    go_wp2_with fail
    refine hca.mono ?_
    rintro e w4 ⟨lc, Ac, cc, hlc, rfl, hIc, hmc, hb4⟩
    clear c1 c2 c3 hca
    obtain ⟨c1, c2, c3⟩ := (HBM.out.ext (ext_trans hb23 hb4)).facts
    have HLC := Lib.hid hlc
    have HIC := Lib.hid hIc
    clear hlc hIc
    go_wp2_with fail
    refine (HCB.out w4 hb4).mono ?_
    rintro e w5 ⟨ld, Ad, cd, hld, rfl, hId, hmd, hb5⟩
    have hb35 := ext_trans hb4 hb5
    have hb25 := ext_trans hb23 hb35
    clear c1 c2 c3
    obtain ⟨c1, c2, c3⟩ := (HBG.out.ext hb25).facts
    unfold CostsOut at hld
    rw [if_pos HP1.out] at hld
    have hlc := HLC.out
    unfold CostsOut at hlc
    rw [if_pos HP0.out] at hlc
    have hmore := more_costs hlc hld
    rw [show lc.length = n from hmore.1.trans HN.out, show ld.length = n from hmore.2.1.trans HN.out]
    have HLD : Hid (lc.length = n ∧ ld.length = n ∧ ∀ i, gi ld i ≤ gi lc i) := Lib.hid ⟨hmore.1.trans HN.out, hmore.2.1.trans HN.out, hmore.2.2⟩
    have HIC5 := Lib.hid (HIC.out.ext RInt.stable hb5)
    have HID := Lib.hid hId
    clear hld hlc hId hmore hmc hmd hb4 hb5
    go_wp2_with fail
    refine (bspRun_any A A' c c' g 2 v w5 (HGA.out.ext hb25)).mono ?_
    rintro e w6 (⟨h, _⟩ | ⟨_, Ap, cp, kp, sp, rfl, hOp, hSp, HRp, hb6⟩)
    · exact absurd (place_run HP0.out) h
    have hb26 := ext_trans hb25 hb6
    clear c1 c2 c3
    obtain ⟨c1, c2, c3⟩ := (HBM.out.ext hb26).facts
    have HOP := Lib.hid (own_sides hOp)
    have HSP := Lib.hid (hSp.at_ (h := g.h) HRp.out.lies HV.out.h1)
    have hsn : sp.length = n := by
      have h1 := HRp.out.len
      rw [List.length_map] at h1
      exact h1.trans HN.out
    clear hOp hSp
    go_wp2_with fail
    refine (bspRun_any A Am c cm (moreG g x) 2 v w6 (HGM.out.ext hb26)).mono ?_
    rintro e w7 (⟨h, _⟩ | ⟨_, Aq, cq, kq, sq, rfl, hOq, hSq, HRq, hb7⟩)
    · exact absurd (place_run HP1.out) h
    have HOQ := Lib.hid (own_sides hOq)
    have HSQ := Lib.hid (hSq.at_ (h := g.h) HRq.out.lies HV.out.h1)
    have hsn2 : sq.length = n := by
      have h1 := HRq.out.len
      rw [List.length_map] at h1
      exact h1.trans HN.out
    have hb67 := ext_trans hb6 hb7
    have hb27 := ext_trans hb26 hb7
    have hb37 := ext_trans hb35 hb67
    have hbw7 := ext_trans hbwA hb27
    rw [hsn2]
    have HSN := Lib.hid hsn
    have HSN2 := Lib.hid hsn2
    have HOP7 := Lib.hid (HOP.out.ext RSide.stable hb7)
    have HSP7 := Lib.hid (HSP.out.ext hb7)
    have HIA7 := Lib.hid (HIA3.out.ext RInt.stable hb37)
    have HIB7 := Lib.hid (HIB.out.ext RInt.stable hb37)
    have HIC7 := Lib.hid (HIC5.out.ext RInt.stable hb67)
    have HID7 := Lib.hid (HID.out.ext RInt.stable hb67)
    clear hsn hsn2 hOq hSq c1 c2 c3 HIA3 HIB HIC HIC5 HID HOP HSP hb7 hb67 hb37 hb27 hb6 hb26 hb25 hb35 hb23 hbw3 hbwA
    go_wp2_with fail
    go_loopw [99] (fun x wt => ∃ i : Nat, x = .int .i64 i ∧ i ≤ n ∧ Below w7.heap.size w7 wt) (fun x _ => n - (intOf x).toNat)
    case atStart => exact ⟨0, rfl, Nat.zero_le _, Below.refl _ _⟩
    case round =>
      obtain ⟨i, rfl, hil, hb8⟩ := hrel
      have hbw8 := ext_trans hbw7 hb8
      by_cases hlt : i < n
      case neg =>
        obtain rfl : i = n := by omega
        go_wp2_with fail
        go_ret
        exact ⟨rfl, hbw8⟩
      case pos =>
        obtain ⟨ba, oa, rfl, la1, ca1⟩ := HIA7.out.cells (by rw [HLAN.out.1]; omega)
        obtain ⟨bb, ob, rfl, lb1, cb1⟩ := HIB7.out.cells (by rw [HLAN.out.2]; omega)
        obtain ⟨bc, oc, rfl, lc1, cc1⟩ := HIC7.out.cells (by rw [HLD.out.1]; omega)
        obtain ⟨bd, od, rfl, ld1, cd1⟩ := HID7.out.cells (by rw [HLD.out.2.1]; omega)
        have ya : wr.cell? ⟨ba, oa + i, none⟩ = some (.int .i64 (gi la i)) := (hb8.cell (p := ⟨ba, oa + i, none⟩) la1).trans (ca1 i (by rw [HLAN.out.1]; exact hlt))
        have yb : wr.cell? ⟨bb, ob + i, none⟩ = some (.int .i64 (gi lb i)) := (hb8.cell (p := ⟨bb, ob + i, none⟩) lb1).trans (cb1 i (by rw [HLAN.out.2]; exact hlt))
        have yc : wr.cell? ⟨bc, oc + i, none⟩ = some (.int .i64 (gi lc i)) := (hb8.cell (p := ⟨bc, oc + i, none⟩) lc1).trans (cc1 i (by rw [HLD.out.1]; exact hlt))
        have yd : wr.cell? ⟨bd, od + i, none⟩ = some (.int .i64 (gi ld i)) := (hb8.cell (p := ⟨bd, od + i, none⟩) ld1).trans (cd1 i (by rw [HLD.out.2.1]; exact hlt))
        have hle1 : decide (gi lb i > gi la i) = false := by have := HLE.out i; simpa using this
        have hle2 : decide (gi ld i > gi lc i) = false := by have := HLD.out.2.2 i; simpa using this
        obtain ⟨xp, hxp⟩ := get_lt (show i < sp.length by rw [HSN.out]; exact hlt)
        obtain ⟨xq, hxq⟩ := get_lt (show i < sq.length by rw [HSN2.out]; exact hlt)
        obtain ⟨bp, op, rfl, lp1, yp⟩ := HOP7.out.side hxp hb8
        obtain ⟨bq, oq, rfl, lq1, yq⟩ := HOQ.out.side hxq hb8
        have pp := (HSP7.out.ext hb8) xp (List.mem_of_getElem? hxp)
        have pq := (HSQ.out.ext hb8) xq (List.mem_of_getElem? hxq)
        have hmp : (sp.map Prod.fst)[i]? = some xp.1 := by rw [List.getElem?_map, hxp]; rfl
        have hmq : (sq.map Prod.fst)[i]? = some xq.1 := by rw [List.getElem?_map, hxq]; rfl
        have HMM : Hid (∀ er out, MergeSay 1 xp.1 xq.1 er out → er = 0 ∧ out = xq.1) := Lib.hid fun er out h => merge_more (HRp.out.lies _ (List.mem_of_getElem? hmp)) (HRq.out.lies _ (List.mem_of_getElem? hmq)) HV.out.h0 HV.out.h1 (more_run HV.out HV2.out HRp.out HRq.out hmp hmq) h
        have hmg := fun W (h : Below wr.heap.size wr W) => imapMerge_any xp.2.1 xq.2.1 xp.2.2 xq.2.2 xp.1 xq.1 1 W (pp.ext h) (pq.ext h)
        have HMG := Lib.hid hmg
        have HPQ := Lib.hid pq
        clear ca1 cb1 cc1 cd1 hxp hxq hmp hmq pp pq hmg
        go_wp2_with fail
        go_quiet (fail)
        clear ya yb yc yd hle1 hle2
        obtain ⟨S2, hSS⟩ : ∃ S2 : World → Prop, Hid (S2 = fun w' => w'.cell? ⟨bp, op + i, none⟩ = some (.slice xp.2.1 xp.1.length xp.2.2) ∧ w'.cell? ⟨bq, oq + i, none⟩ = some (.slice xq.2.1 xq.1.length xq.2.2)) := ⟨_, Lib.hid rfl⟩
        have HYP := Lib.hid yp; have HYQ := Lib.hid yq
        have HKS : Hid (∀ w', Below wr.heap.size wr w' → S2 w') := Lib.hid fun w' h => by
          rw [hSS.out]
          exact ⟨(h.cell (p := ⟨bp, op + i, none⟩) lp1).trans HYP.out, (h.cell (p := ⟨bq, oq + i, none⟩) lq1).trans HYQ.out⟩
        have hd0 := below_drew (below_drewN (Below.refl wr.heap.size wr) nq)
        have hS0 : S2 (wr.drewN nq).drew := HKS.out _ hd0
        go_upto_region 20 with fail
        refine anyH_begin S2 (by kernel_rfl) ?_
        refine anyH_take (i := 0) (v := ?_) rfl rfl (by kernel_rfl) (fun _ _ _ h => h) (Or.inl ⟨by rfl, ?_⟩) (by assumption) ?_
        rotate_left
        · intro w hSw; rw [hSS.out] at hSw; obtain ⟨sw0, sw1⟩ := hSw; go_simp; try with_reducible rfl
        try simp only [Act.put, List.setIfInBounds_toArray, List.set_cons_zero, List.set_cons_succ]
        refine anyH_take (i := 1) (v := ?_) rfl rfl (by kernel_rfl) (fun _ _ _ h => h) (Or.inl ⟨by rfl, ?_⟩) (by assumption) ?_
        rotate_left
        · intro w hSw; rw [hSS.out] at hSw; obtain ⟨sw0, sw1⟩ := hSw; go_simp; try with_reducible rfl
        try simp only [Act.put, List.setIfInBounds_toArray, List.set_cons_zero, List.set_cons_succ]
        refine anyH_take (i := 2) (v := ?_) rfl rfl (by kernel_rfl) (fun _ _ _ h => h) (Or.inl ⟨by rfl, ?_⟩) (by assumption) ?_
        rotate_left
        · intro w hSw; rw [hSS.out] at hSw; obtain ⟨sw0, sw1⟩ := hSw; go_simp; try with_reducible rfl
        try simp only [Act.put, List.setIfInBounds_toArray, List.set_cons_zero, List.set_cons_succ]
        refine anyH_take (i := 3) (v := ?_) rfl rfl (by kernel_rfl) (fun _ _ _ h => h) (Or.inl ⟨by rfl, ?_⟩) (by assumption) ?_
        rotate_left
        · intro w hSw; rw [hSS.out] at hSw; obtain ⟨sw0, sw1⟩ := hSw; go_simp; try with_reducible rfl
        try simp only [Act.put, List.setIfInBounds_toArray, List.set_cons_zero, List.set_cons_succ]
        refine anyH_take (i := 4) (v := ?_) rfl rfl (by kernel_rfl) (fun _ _ _ h => h) (Or.inl ⟨by rfl, ?_⟩) (by assumption) ?_
        rotate_left
        · intro w hSw; rw [hSS.out] at hSw; obtain ⟨sw0, sw1⟩ := hSw; go_simp; try with_reducible rfl
        try simp only [Act.put, List.setIfInBounds_toArray, List.set_cons_zero, List.set_cons_succ]
        refine anyH_take (i := 5) (v := ?_) rfl rfl (by kernel_rfl) (fun _ _ _ h => h) (Or.inl ⟨by rfl, ?_⟩) (by assumption) ?_
        rotate_left
        · intro w hSw; rw [hSS.out] at hSw; obtain ⟨sw0, sw1⟩ := hSw; go_simp; try with_reducible rfl
        try simp only [Act.put, List.setIfInBounds_toArray, List.set_cons_zero, List.set_cons_succ]
        refine anyH_take (i := 6) (v := ?_) rfl rfl (by kernel_rfl) (fun _ _ _ h => h) (Or.inl ⟨by rfl, ?_⟩) (by assumption) ?_
        rotate_left
        · intro w hSw; rw [hSS.out] at hSw; obtain ⟨sw0, sw1⟩ := hSw; go_simp; try with_reducible rfl
        try simp only [Act.put, List.setIfInBounds_toArray, List.set_cons_zero, List.set_cons_succ]
        refine anyH_take (i := 7) (v := ?_) rfl rfl (by kernel_rfl) (fun _ _ _ h => h) (Or.inl ⟨by rfl, ?_⟩) (by assumption) ?_
        rotate_left
        · intro w hSw; rw [hSS.out] at hSw; obtain ⟨sw0, sw1⟩ := hSw; go_simp; try with_reducible rfl
        try simp only [Act.put, List.setIfInBounds_toArray, List.set_cons_zero, List.set_cons_succ]
        refine anyH_one (i := 8) rfl (by kernel_rfl) fun K hK => ?_
        go_wp2_with fail
        refine (HMG.out _ hd0).mono ?_
        rintro e w9 ⟨er, out, A9, c9, HR9, rfl, hP9, hb9⟩
        have hbb9 : Below wr.heap.size wr w9 := ext_trans hd0 hb9
        obtain ⟨rfl, rfl⟩ := HMM.out er out HR9.out
        have hS9 := HKS.out _ hbb9
        refine hK.out _ _ ⟨hS9, ?_⟩
        clear hK K hS0
        try simp only [Act.put, List.setIfInBounds_toArray, List.set_cons_zero, List.set_cons_succ]
        refine anyH_take (i := 9) (v := ?_) rfl rfl (by kernel_rfl) (fun _ _ _ h => h) (Or.inl ⟨by rfl, ?_⟩) (by assumption) ?_
        rotate_left
        · intro w hSw; rw [hSS.out] at hSw; obtain ⟨sw0, sw1⟩ := hSw; go_simp; try with_reducible rfl
        try simp only [Act.put, List.setIfInBounds_toArray, List.set_cons_zero, List.set_cons_succ]
        refine anyH_take (i := 10) (v := ?_) rfl rfl (by kernel_rfl) (fun _ _ _ h => h) (Or.inl ⟨by rfl, ?_⟩) (by assumption) ?_
        rotate_left
        · intro w hSw; rw [hSS.out] at hSw; obtain ⟨sw0, sw1⟩ := hSw; go_simp; try with_reducible rfl
        try simp only [Act.put, List.setIfInBounds_toArray, List.set_cons_zero, List.set_cons_succ]
        refine anyH_take (i := 11) (v := ?_) rfl rfl (by kernel_rfl) (fun _ _ _ h => h) (Or.inl ⟨by rfl, ?_⟩) (by assumption) ?_
        rotate_left
        · intro w hSw; rw [hSS.out] at hSw; obtain ⟨sw0, sw1⟩ := hSw; go_simp; try with_reducible rfl
        try simp only [Act.put, List.setIfInBounds_toArray, List.set_cons_zero, List.set_cons_succ]
        refine anyH_take (i := 12) (v := ?_) rfl rfl (by kernel_rfl) (fun _ _ _ h => h) (Or.inl ⟨by rfl, ?_⟩) (by assumption) ?_
        rotate_left
        · intro w hSw; rw [hSS.out] at hSw; obtain ⟨sw0, sw1⟩ := hSw; go_simp; try with_reducible rfl
        try simp only [Act.put, List.setIfInBounds_toArray, List.set_cons_zero, List.set_cons_succ]
        refine anyH_take (i := 13) (v := ?_) rfl rfl (by kernel_rfl) (fun _ _ _ h => h) (Or.inl ⟨by rfl, ?_⟩) (by assumption) ?_
        rotate_left
        · intro w hSw; rw [hSS.out] at hSw; obtain ⟨sw0, sw1⟩ := hSw; go_simp; try with_reducible rfl
        try simp only [Act.put, List.setIfInBounds_toArray, List.set_cons_zero, List.set_cons_succ]
        refine wpAnyH_done (by kernel_rfl) ?_ _
        try simp only [Act.put, List.setIfInBounds_toArray, List.set_cons_zero, List.set_cons_succ]
        have yq9 : w9.cell? ⟨bq, oq + i, none⟩ = some (.slice xq.2.1 xq.1.length xq.2.2) := (hbb9.cell (p := ⟨bq, oq + i, none⟩) lq1).trans HYQ.out
        have HP9 := Lib.hid hP9
        clear yp yq hP9 hSS hS9 hb9 hd0
        go_wp2_with fail
        refine (same_pieces A9 xq.2.1 c9 xq.2.2 xq.1 _ HP9.out (HPQ.out.ext hbb9)).mono ?_
        rintro e w10 ⟨rfl, hb10⟩
        have hb8t := ext_trans hb8 (ext_trans hbb9 hb10)
        go_wp2_with fail
        go_roundw
        case rel => first | exact ⟨i + 1, by go_num, by omega, hb8t⟩ | ((repeat apply Exists.intro); exact ⟨⟨i + 1, by go_num, by omega, hb8t⟩, rfl⟩)
        case measure => simp [intOf]; omega
end Go.Proofs.YtdpibehpmghghaaGreat
