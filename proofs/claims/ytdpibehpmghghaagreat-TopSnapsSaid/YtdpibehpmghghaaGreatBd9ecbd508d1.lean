/- One text: LawPoints. -/
import Derived.Deep.DeepCutAuto
import Derived.Deep.CutBlock
import Derived.Test.YtdpibehpmghghaaGreatBd4045126264
import Derived.Test.YtdpibehpmghghaaGreatBd39ff4d2be3
import Derived.Test.YtdpibehpmghghaaGreatBda776ed6c41
import Derived.Test.YtdpibehpmghghaaGreatBd127ac6da48
import Derived.Test.YtdpibehpmghghaaGreatBd3704f51cb5
/- The law BspPoints (printed by genpoints.py). -/
namespace Go.Proofs.YtdpibehpmghghaaGreat
open Go.RowKit

theorem runErr_prog {g : GraphD} {p v : Int} (h : runErr g p v = 0) : (1 ≤ p ∧ p ≤ 3) ∧ (p = 3 ∨ (0 ≤ v ∧ v < g.lives.length)) := by
  unfold runErr at h
  split at h
  · split at h
    · next hp =>
      refine ⟨hp, ?_⟩
      by_cases h3 : p = 3
      · exact .inl h3
      · right
        split at h
        · simp at h
        · next hn => exact Classical.byContradiction fun h9 => hn ⟨h3, h9⟩
    · simp at h
  · next h1 => exact absurd h h1
theorem emod_in {t h : Int} (h0 : 1 ≤ h) : 0 ≤ t % h ∧ t % h < h := ⟨Int.emod_nonneg _ (by omega), Int.emod_lt_of_pos _ (by omega)⟩
theorem SnapNew.store {base k i : Nat} {w : World} {A A' : Option Addr} {c c' : Nat} {s : SnapD} {cs : Array Value} {u : Value} (h : SnapNew base w A c A' c' s) (hB : Blk w k 34 cs) : SnapNew base (w.setCell ⟨k, i, none⟩ u) A c A' c' s := by
  have h1 := h.2.1.keep (keep_store hB (by decide) i u)
  have h2 := h.2.2.keep (keep_store hB (by decide) i u)
  refine ⟨⟨h1.room.1, h1.room.2, h2.room.1, h2.room.2, ?_, ?_⟩, h1, h2⟩
  · obtain ⟨B, d, hv, hS⟩ := own_marks h1
    injection hv with e1
    subst e1
    exact hS
  · obtain ⟨b, o, hA⟩ := h.1.arcs
    obtain ⟨B, d, hv, hS⟩ := own_arcs h2 fun x hx => by
      obtain ⟨j, hj⟩ := List.getElem?_of_mem hx
      exact (hA j x hj).2.2.2
    injection hv with e1
    subst e1
    exact hS
theorem at_ok (A A' : Option Addr) (c c' : Nat) (g : GraphD) (t : Int) (s : SnapD) (w : World) (hG : GraphAt w A c A' c' g) (hV : Valid g) (h0 : 0 ≤ t) (h1 : t < g.h) (hs : snapD g t = s) :
    Calls Tryz.prog 10 #[gV A c A' c' g, .int .i64 t] w fun e w' => ∃ As cs Bs ds, e = .returned (.tuple #[.agg #[.slice As s.alive.length cs, .slice Bs s.arcs.length ds], .int .i64 0]) ∧ SnapNew w.heap.size w' As cs Bs ds s ∧ Below w.heap.size w w' := by
  have he : atErr g t = 0 := by unfold atErr; rw [if_pos (valid_ok hV), if_pos ⟨h0, by omega⟩]
  refine (at_any A A' c c' g t w hG).mono ?_
  rintro e w' ⟨As, cs, Bs, ds, rfl, hN, hb⟩
  rw [he, atD_0 he, hs]
  rw [atD_0 he, hs] at hN
  exact ⟨As, cs, Bs, ds, rfl, hN, hb⟩
set_option maxRecDepth 100000 in
set_option maxHeartbeats 16000000 in
theorem bspPoints_calls (A A' : Option Addr) (c c' : Nat) (g : GraphD) {w : World} (hG : GraphAt w A c A' c' g) (p : Int) (_ : I64 p) (v : Int) (_ : I64 v) (t : Int) (ht : I64 t) :
    Calls Tryz.prog 3 #[gV A c A' c' g, .int .i64 p, .int .i64 v, .int .i64 t] w fun e w' => e = .returned (.bool true) ∧ Below w.heap.size w w' := by
  have HG := Lib.hid hG
  have m1 : g.lives.length ≤ 9223372036854775807 := Nat.le_trans hG.lc hG.cm
  clear hG
  go_enter Tryz.func3, Tryz.ntmps3
  go_wp2_with fail
  refine (runs_any _).mono ?_
  rintro e w1 ⟨rfl, hb1⟩
  have B1 := (Blk.new w 25 (gC A c A' c' g)).ext hb1
  have hbw : Below w.heap.size w w1 := ext_trans (by go_grown) hb1
  obtain ⟨c1, c2, c3⟩ := B1.facts
  clear hb1
  go_wp2_with fail
  refine (bspRun_any A A' c c' g p v _ (HG.out.ext hbw)).mono ?_
  rintro e w2 (⟨h0, rfl, hb2⟩ | ⟨h0, Ao, co, k, sides, rfl, hO, hS, HR, hb2⟩)
  · have hne : (runErr g p v != 0) = true := by simp [h0]
    have hbw2 := ext_trans hbw hb2
    clear h0 c1 c2 c3
    go_wp2_with fail
    go_ret
    exact ⟨rfl, hbw2⟩
  have hV := runErr_valid h0
  have HPV := Lib.hid (runErr_prog h0)
  have hh0 := hV.h0
  have hh1 := hV.h1
  obtain ⟨r, hr⟩ : ∃ r, t % g.h = r := ⟨_, rfl⟩
  have hr2 := emod_in (t := t) hh0
  rw [hr] at hr2
  have hrest : ∀ W : World, Calls Tryz.prog 11 #[.int .i64 t, .int .i64 g.h] W fun e w' => e = .returned (.int .i64 r) ∧ W = w' := fun W => by rw [← hr]; exact rest_any t g.h W ht (by omega) (by omega)
  obtain ⟨s, hs⟩ : ∃ s, snapD g r = s := ⟨_, rfl⟩
  have HAK : Hid (∀ W : World, Below w.heap.size w W → Calls Tryz.prog 10 #[gV A c A' c' g, .int .i64 r] W fun e w' => ∃ As cs Bs ds, e = .returned (.tuple #[.agg #[.slice As s.alive.length cs, .slice Bs s.arcs.length ds], .int .i64 0]) ∧ SnapNew W.heap.size w' As cs Bs ds s ∧ Below W.heap.size W w') := Lib.hid fun W h => at_ok A A' c c' g r s W (HG.out.ext h) hV hr2.1 hr2.2 hs
  have HREST := Lib.hid hrest
  have HSD := Lib.hid hs
  have HSH : Hid (shotErr s = 0) := Lib.hid (by rw [← hs]; exact snap_shot hV r)
  have HSL : Hid (s.alive.length = g.lives.length) := Lib.hid (by rw [← hs]; exact snapL_len g r)
  have hkf : k ≤ g.lives.length := HR.out.few
  have hsn : sides.length = g.lives.length := by
    have h1 := HR.out.len
    rwa [List.length_map] at h1
  have hnl := hV.nl
  have HV := Lib.hid hV
  have hs12 : sides.length ≤ 12 := by omega
  have HO := Lib.hid (own_sides hO)
  have HAT := Lib.hid (hS.at_ (h := g.h) HR.out.lies hh1)
  have B2 := B1.ext hb2
  have hbw2 := ext_trans hbw hb2
  have HSN := Lib.hid hsn
  have H64 := Lib.hid ht
  clear h0 hV hr hs hsn c1 c2 c3 hb2 B1 hbw hO hS hrest ht
  have hcells : w2.cell? ⟨w.heap.size, 0, none⟩ = some (.int .i64 g.h) ∧ w2.cell? ⟨w.heap.size, 1, none⟩ = some (.slice A g.lives.length c) ∧ w2.cell? ⟨w.heap.size, 2, none⟩ = some (.slice A' g.edges.length c') := ⟨B2.cell 0, B2.cell 1, B2.cell 2⟩
  have hwl := B2.lt
  have HC := Lib.hid hcells
  clear hcells
  go_upto_region 6 with fail
  go_cut [11, 12] from 37 to 45 (fun x11 x12 wx => ∃ (gs : Nat) (As Bs : Option Addr) (cs ds : Nat), x11 = .int .i64 0 ∧ x12 = .pointer (some ⟨gs, 0, none⟩) ∧ Blk wx gs 34 #[.slice As s.alive.length cs, .slice Bs s.arcs.length ds] ∧ SnapAt wx As cs Bs ds s ∧ Below w2.heap.size w2 wx)
  case first =>
    have HC2 := HC.out
    obtain ⟨S1, hSS⟩ : ∃ S1 : World → Prop, Hid (S1 = fun w' => w'.cell? ⟨w.heap.size, 0, none⟩ = some (.int .i64 g.h) ∧ w'.cell? ⟨w.heap.size, 1, none⟩ = some (.slice A g.lives.length c) ∧ w'.cell? ⟨w.heap.size, 2, none⟩ = some (.slice A' g.edges.length c')) := ⟨_, Lib.hid rfl⟩
    have HKS : Hid (∀ w', Below w2.heap.size w2 w' → S1 w') := Lib.hid fun w' h => by rw [hSS.out]; exact keep3 h HC2
    have hd0 := below_drew (Below.refl w2.heap.size w2)
    have hS0 : S1 w2.drew := HKS.out _ hd0
    clear HC2
    go_wp2_with fail
    refine anyH_begin S1 (by kernel_rfl) ?_
    refine anyH_take (i := 0) (v := ?_) rfl rfl (by kernel_rfl) (fun _ _ _ h => h) (Or.inl ⟨by rfl, ?_⟩) (by assumption) ?_
    rotate_left
    · intro w hSw; rw [hSS.out] at hSw; obtain ⟨sw0, sw1, sw2⟩ := hSw; go_simp; try with_reducible rfl
    try simp only [Act.put, List.setIfInBounds_toArray, List.set_cons_zero, List.set_cons_succ]
    refine anyH_take (i := 1) (v := ?_) rfl rfl (by kernel_rfl) (fun _ _ _ h => h) (Or.inl ⟨by rfl, ?_⟩) (by assumption) ?_
    rotate_left
    · intro w hSw; rw [hSS.out] at hSw; obtain ⟨sw0, sw1, sw2⟩ := hSw; go_simp; try with_reducible rfl
    try simp only [Act.put, List.setIfInBounds_toArray, List.set_cons_zero, List.set_cons_succ]
    refine anyH_take (i := 2) (v := ?_) rfl rfl (by kernel_rfl) (fun _ _ _ h => h) (Or.inl ⟨by rfl, ?_⟩) (by assumption) ?_
    rotate_left
    · intro w hSw; rw [hSS.out] at hSw; obtain ⟨sw0, sw1, sw2⟩ := hSw; go_simp; try with_reducible rfl
    try simp only [Act.put, List.setIfInBounds_toArray, List.set_cons_zero, List.set_cons_succ]
    refine anyH_take (i := 3) (v := ?_) rfl rfl (by kernel_rfl) (fun _ _ _ h => h) (Or.inl ⟨by rfl, ?_⟩) (by assumption) ?_
    rotate_left
    · intro w hSw; rw [hSS.out] at hSw; obtain ⟨sw0, sw1, sw2⟩ := hSw; go_simp; try with_reducible rfl
    try simp only [Act.put, List.setIfInBounds_toArray, List.set_cons_zero, List.set_cons_succ]
    refine anyH_two (i := 4) (j := 9) rfl rfl (by kernel_rfl) (fun K hK => ?_) (fun K hK => ?_)
    · go_wp2_with fail
      refine (HREST.out _).mono ?_
      rintro e w9 ⟨rfl, rfl⟩
      refine hK.out _ _ ⟨hS0, ?_⟩
      clear hK K
      try simp only [Act.put, List.setIfInBounds_toArray, List.set_cons_zero, List.set_cons_succ]
      refine anyH_two (i := 5) (j := 9) rfl rfl (by kernel_rfl) (fun K hK => ?_) (fun K hK => ?_)
      · go_wp2_with fail
        refine (HAK.out _ (below_drew hbw2)).mono ?_
        rintro e w3 ⟨As, cs, Bs, ds, rfl, hSA, hbb3⟩
        have hb3 : Below w2.heap.size w2 w3 := ext_trans hd0 hbb3
        have hS3 : S1 w3 := HKS.out _ hb3
        refine hK.out _ _ ⟨hS3, ?_⟩
        clear hK K
        try simp only [Act.put, List.setIfInBounds_toArray, List.set_cons_zero, List.set_cons_succ]
        refine anyH_take (i := 6) (v := ?_) rfl rfl (by kernel_rfl) (fun _ _ _ h => h) (Or.inl ⟨by rfl, ?_⟩) (by assumption) ?_
        rotate_left
        · intro w hSw; rw [hSS.out] at hSw; obtain ⟨sw0, sw1, sw2⟩ := hSw; go_simp; try with_reducible rfl
        try simp only [Act.put, List.setIfInBounds_toArray, List.set_cons_zero, List.set_cons_succ]
        refine anyH_take (i := 7) (v := ?_) rfl rfl (by kernel_rfl) (fun _ _ _ h => h) (Or.inl ⟨by rfl, ?_⟩) (by assumption) ?_
        rotate_left
        · intro w hSw; rw [hSS.out] at hSw; obtain ⟨sw0, sw1, sw2⟩ := hSw; go_simp; try with_reducible rfl
        try simp only [Act.put, List.setIfInBounds_toArray, List.set_cons_zero, List.set_cons_succ]
        refine anyH_take (i := 8) (v := ?_) rfl rfl (by kernel_rfl) (fun _ _ _ h => h) (Or.inl ⟨by rfl, ?_⟩) (by assumption) ?_
        rotate_left
        · intro w hSw; rw [hSS.out] at hSw; obtain ⟨sw0, sw1, sw2⟩ := hSw; go_simp; try with_reducible rfl
        try simp only [Act.put, List.setIfInBounds_toArray, List.set_cons_zero, List.set_cons_succ]
        refine anyH_one (i := 9) rfl (by kernel_rfl) fun K hK => ?_
        go_wp2_with fail
        refine hK.out _ _ ⟨HKS.out _ (ext_alloc hb3 _), ?_⟩
        clear hK K
        try simp only [Act.put, List.setIfInBounds_toArray, List.set_cons_zero, List.set_cons_succ]
        refine anyH_one (i := 10) rfl (by kernel_rfl) fun K hK => ?_
        go_wp2_with fail
        have hS9 := HKS.out _ (ext_alloc hb3 (Obj.cells #[.slice As s.alive.length cs, .slice Bs s.arcs.length ds] 34))
        refine hK.out _ _ ⟨hS9, ?_⟩
        clear hK K
        try simp only [Act.put, List.setIfInBounds_toArray, List.set_cons_zero, List.set_cons_succ]
        refine anyH_take (i := 11) (v := ?_) rfl rfl (by kernel_rfl) (fun _ _ _ h => h) (Or.inl ⟨by rfl, ?_⟩) (by assumption) ?_
        rotate_left
        · intro w hSw; rw [hSS.out] at hSw; obtain ⟨sw0, sw1, sw2⟩ := hSw; go_simp; try with_reducible rfl
        try simp only [Act.put, List.setIfInBounds_toArray, List.set_cons_zero, List.set_cons_succ]
        refine wpAnyH_done (by kernel_rfl) ?_ _
        go_wp2_with fail
        go_meet
        exact ⟨w3.heap.size, As, Bs, cs, ds, rfl, rfl, Blk.new _ _ _, hSA.1.ext (ext_alloc (Below.refl _ _) _), ext_alloc hb3 _⟩
      · go_wp2_with fail
        have hbA : Below w2.heap.size w2 (w2.drew.alloc (Obj.cells #[.slice none 0 0, .slice none 0 0] 34)) := ext_alloc hd0 _
        have hbAw : Below w.heap.size w (w2.drew.alloc (Obj.cells #[.slice none 0 0, .slice none 0 0] 34)) := ext_alloc (below_drew hbw2) _
        have hSA0 := HKS.out _ hbA
        refine hK.out _ _ ⟨hSA0, ?_⟩
        clear hK K hS0
        try simp only [Act.put, List.setIfInBounds_toArray, List.set_cons_zero, List.set_cons_succ]
        refine anyH_one (i := 5) rfl (by kernel_rfl) fun K hK => ?_
        go_wp2_with fail
        refine (HAK.out _ hbAw).mono ?_
        rintro e w3 ⟨As, cs, Bs, ds, rfl, hSA, hbb3⟩
        have hb3 : Below w2.heap.size w2 w3 := ext_trans hbA hbb3
        have hS3 : S1 w3 := HKS.out _ hb3
        refine hK.out _ _ ⟨hS3, ?_⟩
        clear hK K
        try simp only [Act.put, List.setIfInBounds_toArray, List.set_cons_zero, List.set_cons_succ]
        refine anyH_take (i := 6) (v := ?_) rfl rfl (by kernel_rfl) (fun _ _ _ h => h) (Or.inl ⟨by rfl, ?_⟩) (by assumption) ?_
        rotate_left
        · intro w hSw; rw [hSS.out] at hSw; obtain ⟨sw0, sw1, sw2⟩ := hSw; go_simp; try with_reducible rfl
        try simp only [Act.put, List.setIfInBounds_toArray, List.set_cons_zero, List.set_cons_succ]
        refine anyH_take (i := 7) (v := ?_) rfl rfl (by kernel_rfl) (fun _ _ _ h => h) (Or.inl ⟨by rfl, ?_⟩) (by assumption) ?_
        rotate_left
        · intro w hSw; rw [hSS.out] at hSw; obtain ⟨sw0, sw1, sw2⟩ := hSw; go_simp; try with_reducible rfl
        try simp only [Act.put, List.setIfInBounds_toArray, List.set_cons_zero, List.set_cons_succ]
        refine anyH_take (i := 8) (v := ?_) rfl rfl (by kernel_rfl) (fun _ _ _ h => h) (Or.inl ⟨by rfl, ?_⟩) (by assumption) ?_
        rotate_left
        · intro w hSw; rw [hSS.out] at hSw; obtain ⟨sw0, sw1, sw2⟩ := hSw; go_simp; try with_reducible rfl
        try simp only [Act.put, List.setIfInBounds_toArray, List.set_cons_zero, List.set_cons_succ]
        have BM0 := (Blk.new w2.drew 34 #[.slice none 0 0, .slice none 0 0]).ext hbb3
        have y0 : w3.cell? ⟨w2.heap.size, 0, none⟩ = some (.slice none 0 0) := BM0.cell 0
        have y1 : w3.cell? ⟨w2.heap.size, 1, none⟩ = some (.slice none 0 0) := BM0.cell 1
        have f0 : w3.frozen? ⟨w2.heap.size, 0, none⟩ = false := BM0.frozen 0
        have f1 : w3.frozen? ⟨w2.heap.size, 1, none⟩ = false := BM0.frozen 1
        have y3 := BM0.lt
        refine anyH_one (i := 10) rfl (by kernel_rfl) fun K hK => ?_
        go_wp2_with fail
        have hbW : Below w2.heap.size w2 ((w3.setCell ⟨w2.heap.size, 0, none⟩ (.slice As s.alive.length cs)).setCell ⟨w2.heap.size, 1, none⟩ (.slice Bs s.arcs.length ds)) := (hb3.setCell (Nat.le_refl _) _).setCell (Nat.le_refl _) _
        have hS9 := HKS.out _ hbW
        refine hK.out _ _ ⟨hS9, ?_⟩
        clear hK K
        try simp only [Act.put, List.setIfInBounds_toArray, List.set_cons_zero, List.set_cons_succ]
        refine anyH_take (i := 11) (v := ?_) rfl rfl (by kernel_rfl) (fun _ _ _ h => h) (Or.inl ⟨by rfl, ?_⟩) (by assumption) ?_
        rotate_left
        · intro w hSw; rw [hSS.out] at hSw; obtain ⟨sw0, sw1, sw2⟩ := hSw; go_simp; try with_reducible rfl
        try simp only [Act.put, List.setIfInBounds_toArray, List.set_cons_zero, List.set_cons_succ]
        refine wpAnyH_done (by kernel_rfl) ?_ _
        go_wp2_with fail
        go_meet
        refine ⟨w2.heap.size, As, Bs, cs, ds, rfl, rfl, ?_, ?_, hbW⟩
        · have h9 := (BM0.set_ 0 (.slice As s.alive.length cs)).set_ 1 (.slice Bs s.arcs.length ds)
          exact h9
        · exact ((hSA.store BM0).store (BM0.set_ 0 _)).1
    · go_wp2_with fail
      have hbA : Below w2.heap.size w2 (w2.drew.alloc (Obj.cells #[.slice none 0 0, .slice none 0 0] 34)) := ext_alloc hd0 _
      have hbAw : Below w.heap.size w (w2.drew.alloc (Obj.cells #[.slice none 0 0, .slice none 0 0] 34)) := ext_alloc (below_drew hbw2) _
      have hSA0 := HKS.out _ hbA
      refine hK.out _ _ ⟨hSA0, ?_⟩
      clear hK K hS0
      try simp only [Act.put, List.setIfInBounds_toArray, List.set_cons_zero, List.set_cons_succ]
      refine anyH_one (i := 4) rfl (by kernel_rfl) fun K hK => ?_
      go_wp2_with fail
      refine (HREST.out _).mono ?_
      rintro e w9 ⟨rfl, rfl⟩
      refine hK.out _ _ ⟨hSA0, ?_⟩
      clear hK K
      try simp only [Act.put, List.setIfInBounds_toArray, List.set_cons_zero, List.set_cons_succ]
      refine anyH_one (i := 5) rfl (by kernel_rfl) fun K hK => ?_
      go_wp2_with fail
      refine (HAK.out _ hbAw).mono ?_
      rintro e w3 ⟨As, cs, Bs, ds, rfl, hSA, hbb3⟩
      have hb3 : Below w2.heap.size w2 w3 := ext_trans hbA hbb3
      have hS3 : S1 w3 := HKS.out _ hb3
      refine hK.out _ _ ⟨hS3, ?_⟩
      clear hK K
      try simp only [Act.put, List.setIfInBounds_toArray, List.set_cons_zero, List.set_cons_succ]
      refine anyH_take (i := 6) (v := ?_) rfl rfl (by kernel_rfl) (fun _ _ _ h => h) (Or.inl ⟨by rfl, ?_⟩) (by assumption) ?_
      rotate_left
      · intro w hSw; rw [hSS.out] at hSw; obtain ⟨sw0, sw1, sw2⟩ := hSw; go_simp; try with_reducible rfl
      try simp only [Act.put, List.setIfInBounds_toArray, List.set_cons_zero, List.set_cons_succ]
      refine anyH_take (i := 7) (v := ?_) rfl rfl (by kernel_rfl) (fun _ _ _ h => h) (Or.inl ⟨by rfl, ?_⟩) (by assumption) ?_
      rotate_left
      · intro w hSw; rw [hSS.out] at hSw; obtain ⟨sw0, sw1, sw2⟩ := hSw; go_simp; try with_reducible rfl
      try simp only [Act.put, List.setIfInBounds_toArray, List.set_cons_zero, List.set_cons_succ]
      refine anyH_take (i := 8) (v := ?_) rfl rfl (by kernel_rfl) (fun _ _ _ h => h) (Or.inl ⟨by rfl, ?_⟩) (by assumption) ?_
      rotate_left
      · intro w hSw; rw [hSS.out] at hSw; obtain ⟨sw0, sw1, sw2⟩ := hSw; go_simp; try with_reducible rfl
      try simp only [Act.put, List.setIfInBounds_toArray, List.set_cons_zero, List.set_cons_succ]
      have BM0 := (Blk.new w2.drew 34 #[.slice none 0 0, .slice none 0 0]).ext hbb3
      have y0 : w3.cell? ⟨w2.heap.size, 0, none⟩ = some (.slice none 0 0) := BM0.cell 0
      have y1 : w3.cell? ⟨w2.heap.size, 1, none⟩ = some (.slice none 0 0) := BM0.cell 1
      have f0 : w3.frozen? ⟨w2.heap.size, 0, none⟩ = false := BM0.frozen 0
      have f1 : w3.frozen? ⟨w2.heap.size, 1, none⟩ = false := BM0.frozen 1
      have y3 := BM0.lt
      refine anyH_one (i := 10) rfl (by kernel_rfl) fun K hK => ?_
      go_wp2_with fail
      have hbW : Below w2.heap.size w2 ((w3.setCell ⟨w2.heap.size, 0, none⟩ (.slice As s.alive.length cs)).setCell ⟨w2.heap.size, 1, none⟩ (.slice Bs s.arcs.length ds)) := (hb3.setCell (Nat.le_refl _) _).setCell (Nat.le_refl _) _
      have hS9 := HKS.out _ hbW
      refine hK.out _ _ ⟨hS9, ?_⟩
      clear hK K
      try simp only [Act.put, List.setIfInBounds_toArray, List.set_cons_zero, List.set_cons_succ]
      refine anyH_take (i := 11) (v := ?_) rfl rfl (by kernel_rfl) (fun _ _ _ h => h) (Or.inl ⟨by rfl, ?_⟩) (by assumption) ?_
      rotate_left
      · intro w hSw; rw [hSS.out] at hSw; obtain ⟨sw0, sw1, sw2⟩ := hSw; go_simp; try with_reducible rfl
      try simp only [Act.put, List.setIfInBounds_toArray, List.set_cons_zero, List.set_cons_succ]
      refine wpAnyH_done (by kernel_rfl) ?_ _
      go_wp2_with fail
      go_meet
      refine ⟨w2.heap.size, As, Bs, cs, ds, rfl, rfl, ?_, ?_, hbW⟩
      · have h9 := (BM0.set_ 0 (.slice As s.alive.length cs)).set_ 1 (.slice Bs s.arcs.length ds)
        exact h9
      · exact ((hSA.store BM0).store (BM0.set_ 0 _)).1
  case rest =>
    obtain ⟨gs, As, Bs, cs, ds, rfl, rfl, BS, hSA, hb3⟩ := hcut
    obtain ⟨wA, rfl⟩ : ∃ x, x = wc := ⟨_, rfl⟩
    have BG := B2.ext hb3
    have hbw3 := ext_trans hbw2 hb3
    obtain ⟨s0, s1, s2⟩ := BS.facts
    have hla := labels_any As Bs cs ds s wA hSA
    rw [HSH.out] at hla
    have HBG := Lib.hid BG
    have HBS := Lib.hid BS
    have HSA := Lib.hid hSA
    clear BG BS hSA B2 hbw2
    go_wp2_with fail
    refine hla.mono ?_
    rintro e w4 ⟨ll, Al, cl, hLL, rfl, hIl, hml, hb4⟩
    have hLs : LabelsL s ll := by unfold LabelsOut at hLL; rwa [if_pos HSH.out] at hLL
    have hlen : ll.length = sides.length := by rw [hLs.1, HSL.out, HSN.out]
    have hvl : (valsAt (sides.map Prod.fst) r).length = sides.length := by simp [valsAt]
    rw [hlen]
    clear hlen hml
    have HVL := Lib.hid hvl
    have HLS := Lib.hid hLs
    have HIL := Lib.hid hIl
    have hwlc : w.heap.size < wA.heap.size := Nat.lt_of_lt_of_le hwl hb3.size
    have HSA4 := Lib.hid (HSA.out.ext hb4)
    have B4 := HBS.out.ext hb4
    clear hla hLL hLs hvl hIl s0 s1 s2
    obtain ⟨s0, s1, s2⟩ := B4.facts
    go_upto_block 0 with fail
    go_cut [11, 13] from 54 to 69 (fun x11 x13 wx => ∃ (Aw : Option Addr) (cw : Nat), x11 = .int .i64 0 ∧ x13 = .slice Aw sides.length cw ∧ SlAt RInt 1 wx Aw (valsAt (sides.map Prod.fst) r) ∧ Below w4.heap.size w4 wx)
    case first =>
      have hp3 := HPV.out.1
      by_cases h1 : p = 1
      case pos =>
        have h1b : (p == 1) = true := by simpa using h1
        have hv : 0 ≤ v ∧ v < g.lives.length := by rcases HPV.out.2 with h | h <;> omega
        have hwe : waysErr s v = 0 := waysErr_ok HSH.out (by rw [HSL.out]; exact hv)
        have hcl := hops_any As Bs cs ds s v w4 HSA4.out
        rw [hwe] at hcl
        have HWE := Lib.hid hwe
        have HP := Lib.hid h1
        clear h1 hp3 hv hwe
        go_wp2_with fail
        refine hcl.mono ?_
        rintro e w5 ⟨l5, A5, c5, hL5, rfl, hI5, hm5, hb5⟩
        have hl5 : l5 = valsAt (sides.map Prod.fst) r := by
          unfold WaysOut at hL5
          rw [if_pos HWE.out, ← HSD.out] at hL5
          have hR := HR.out
          rw [HP.out] at hR
          exact hL5.eq (run_hops HV.out hR hr2.1 hr2.2)
        subst hl5
        rw [HVL.out]
        clear hcl hL5
        go_wp2_with fail
        go_meet
        exact ⟨A5, c5, rfl, rfl, hI5, hb5⟩
      case neg =>
        have h1b : (p == 1) = false := by simpa using h1
        by_cases h2 : p = 2
        case pos =>
          have h2b : (p == 2) = true := by simpa using h2
          have hv : 0 ≤ v ∧ v < g.lives.length := by rcases HPV.out.2 with h | h <;> omega
          have hwe : waysErr s v = 0 := waysErr_ok HSH.out (by rw [HSL.out]; exact hv)
          have hcl := plainCosts_any As Bs cs ds s v w4 HSA4.out
          rw [hwe] at hcl
          have HWE := Lib.hid hwe
          have HP := Lib.hid h2
          clear h1 h2 hp3 hv hwe
          go_wp2_with fail
          refine hcl.mono ?_
          rintro e w5 ⟨l5, A5, c5, hL5, rfl, hI5, hm5, hb5⟩
          have hl5 : l5 = valsAt (sides.map Prod.fst) r := by
            unfold WaysOut at hL5
            rw [if_pos HWE.out, ← HSD.out] at hL5
            have hR := HR.out
            rw [HP.out] at hR
            exact hL5.eq (run_costs HV.out hR hr2.1 hr2.2)
          subst hl5
          rw [HVL.out]
          clear hcl hL5
          go_wp2_with fail
          go_meet
          exact ⟨A5, c5, rfl, rfl, hI5, hb5⟩
        case neg =>
          have h2b : (p == 2) = false := by simpa using h2
          have hp : p = 3 := by omega
          have hll : ll = valsAt (sides.map Prod.fst) r := by
            have hL5 := HLS.out
            rw [← HSD.out] at hL5
            have hR := HR.out
            rw [hp] at hR
            exact hL5.eq (run_labels HV.out hR hr2.1 hr2.2)
          clear h1 h2 hp3 hp
          subst hll
          have hI5 := HIL.out
          go_wp2_with fail
          go_meet
          exact ⟨Al, cl, rfl, rfl, hI5, Below.refl _ _⟩
    case rest =>
      obtain ⟨Aw, cw, rfl, rfl, hI5, hb5⟩ := hcut
      have hb45 := ext_trans hb4 hb5
      have hb35 := ext_trans hb3 hb45
      have hbw5 := ext_trans hbw3 hb45
      have BG5 := HBG.out.ext hb45
      obtain ⟨c1, c2, c3⟩ := BG5.facts
      have hkd : decide (g.lives.length < k) = false := by simp; omega
      have HIW := Lib.hid hI5
      have HBG5 := Lib.hid BG5
      have hb5c := hb35
      clear s0 s1 s2 B4 hb45 hb4 hb5 BG5 hI5 hb3 hbw3 hb35
      go_wp2_with fail
      obtain ⟨wB, rfl⟩ : ∃ x, x = wc := ⟨_, rfl⟩
      clear c1 c2 c3 hkd
      go_loopw [88] (fun x wt => ∃ i : Nat, x = .int .i64 i ∧ i ≤ sides.length ∧ Below wB.heap.size wB wt) (fun x _ => sides.length - (intOf x).toNat)
      case atStart => exact ⟨0, rfl, Nat.zero_le _, Below.refl _ _⟩
      case round =>
        obtain ⟨i, rfl, hil, hb6⟩ := hrel
        have hbw6 := ext_trans hbw5 hb6
        by_cases hlt : i < sides.length
        case neg =>
          obtain rfl : i = sides.length := by omega
          go_wp2_with fail
          go_ret
          exact ⟨rfl, hbw6⟩
        case pos =>
          obtain ⟨x, hx⟩ := get_lt hlt
          obtain ⟨y, hy⟩ := get_lt (show i < (valsAt (sides.map Prod.fst) r).length by rw [HVL.out]; exact hlt)
          have hm9 : (sides.map Prod.fst)[i]? = some x.1 := by rw [List.getElem?_map, hx]; rfl
          obtain ⟨v1, v2⟩ := val_of HR.out hm9 hy
          have hb26 := ext_trans hb5c hb6
          obtain ⟨b1, o1, rfl, l1, x1⟩ := HO.out.side hx hb26
          obtain ⟨bw, ow, hIWs⟩ := HIW.out
          obtain ⟨rfl, lw, hcw⟩ := hIWs i y hy
          have hcw1 : wB.cell? ⟨bw, ow + i * 1, none⟩ = some (.int .i64 y) := hcw.1
          rw [Nat.mul_one] at hcw1
          have y1 : wr.cell? ⟨bw, ow + i, none⟩ = some (.int .i64 y) := (hb6.cell (p := ⟨bw, ow + i, none⟩) lw).trans hcw1
          have px := ((HAT.out.ext hb26) x (List.mem_of_getElem? hx))
          have hm0 : mapErr x.1 = 0 := ((HR.out.lies x.1 (List.mem_of_getElem? hm9)).ok hh0 hh1).2
          have BG6 := HBG5.out.ext hb6
          obtain ⟨c1, c2, c3⟩ := BG6.facts
          have hrs := HREST.out wr
          have hat := imapAt_any x.2.1 x.2.2 x.1 r wr px
          have hck := fun W (h : Below wr.heap.size wr W) => imapCheck_any x.2.1 x.2.2 x.1 W (px.ext h)
          rw [hm0] at hck
          have HCK := Lib.hid hck
          have hlwr : bw < wr.heap.size := Nat.lt_of_lt_of_le lw hb6.size
          have Y1 := Lib.hid y1
          clear hx hy hm9 hIWs hcw hcw1 px hm0 hck
          by_cases hyf : y < 1099511627776
          case pos =>
            have hs9 := v2 hyf
            rw [hs9] at hat
            unfold atV at hat
            simp only [Option.getD_some, Option.isSome_some] at hat
            have hdy : decide (y < 1099511627776) = true := by simpa using hyf
            clear v1 v2 hs9 hyf
            go_wp2_with fail
            refine hrs.mono ?_
            rintro e w6 ⟨rfl, rfl⟩
            clear hrs
            go_wp2_with fail
            refine hat.mono ?_
            rintro e w7 ⟨rfl, hb7⟩
            clear hat
            go_wp2_with fail
            refine (HCK.out _ hb7).mono ?_
            rintro e w8 ⟨rfl, hb8⟩
            have hb68 := ext_trans hb7 hb8
            have y8 : w8.cell? ⟨bw, ow + i, none⟩ = some (.int .i64 y) := (hb68.cell (p := ⟨bw, ow + i, none⟩) hlwr).trans Y1.out
            clear y1 x1 c1 c2 c3 hb7 hb8
            go_wp2_with fail
            go_roundw
            case rel => first | exact ⟨i + 1, by go_num, by omega, ext_trans hb6 hb68⟩ | ((repeat apply Exists.intro); exact ⟨⟨i + 1, by go_num, by omega, ext_trans hb6 hb68⟩, rfl⟩)
            case measure => simp [intOf]; omega
          case neg =>
            have hs9 : atM x.1 r = none := by
              have h1 : (atM x.1 r).isSome = false := by rw [v1]; exact decide_eq_false (by unfold Far; exact hyf)
              cases ha : atM x.1 r with
              | none => rfl
              | some z => rw [ha] at h1; cases h1
            rw [hs9] at hat
            unfold atV at hat
            simp only [Option.getD_none, Option.isSome_none] at hat
            have hdy : decide (y < 1099511627776) = false := by simpa using hyf
            clear v1 v2 hs9 hyf
            go_wp2_with fail
            refine hrs.mono ?_
            rintro e w6 ⟨rfl, rfl⟩
            clear hrs
            go_wp2_with fail
            refine hat.mono ?_
            rintro e w7 ⟨rfl, hb7⟩
            clear hat
            go_wp2_with fail
            refine (HCK.out _ hb7).mono ?_
            rintro e w8 ⟨rfl, hb8⟩
            have hb68 := ext_trans hb7 hb8
            have y8 : w8.cell? ⟨bw, ow + i, none⟩ = some (.int .i64 y) := (hb68.cell (p := ⟨bw, ow + i, none⟩) hlwr).trans Y1.out
            clear y1 x1 c1 c2 c3 hb7 hb8
            go_wp2_with fail
            go_roundw
            case rel => first | exact ⟨i + 1, by go_num, by omega, ext_trans hb6 hb68⟩ | ((repeat apply Exists.intro); exact ⟨⟨i + 1, by go_num, by omega, ext_trans hb6 hb68⟩, rfl⟩)
            case measure => simp [intOf]; omega
end Go.Proofs.YtdpibehpmghghaaGreat
