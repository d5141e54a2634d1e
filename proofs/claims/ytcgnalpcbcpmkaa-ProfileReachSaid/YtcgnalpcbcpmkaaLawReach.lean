/- The walk of the law ProfileReach. -/
import Derived.Test.YtcgnalpcbcpmkaaReach
import Derived.Test.YtcgnalpcbcpmkaaHeld
namespace Go.Proofs.Ytcgnalpcbcpmkaa
open Go.RowKit

theorem min_max3 (a b : Int) : ∃ m M : Int, (if b < a then b else a) = m ∧ (if a < b then b else a) = M ∧ m ≤ M ∧ (m = a ∨ m = b) ∧ (M = a ∨ M = b) := by
  refine ⟨_, _, rfl, rfl, ?_, ?_, ?_⟩
  · split <;> split <;> omega
  · split <;> simp
  · split <;> simp
theorem equalBoolsSame_any (A B : Option Addr) (c d : Nat) (l : List Bool) (n m : Nat) (w : World) (hA : SlAt RBool 1 w A l) (hB : SlAt RBool 1 w B l) (hl : l.length ≤ maxLen) (hn : l.length = n) (hm : l.length = m) :
    Calls Try.prog 80 #[.slice A n c, .slice B m d] w fun e w' => e = .returned (.bool true) ∧ Below w.heap.size w w' := by
  subst hn; subst hm
  exact (equalBools_any A B c d l l w hA hB hl hl).mono fun e w' ⟨h1, h2⟩ => ⟨by rw [h1]; simp, h2⟩
theorem bools2_at {w : World} {g : Nat} {a b : Bool} (h : Blk w g 4 #[.bool a, .bool b]) : SlAt RBool 1 w (some ⟨g, 0, none⟩) [a, b] :=
  BOwn.slAt (r := [a, b]) fun _ => ⟨g, _, rfl, h, fun k x hk => by
    match k, hk with
    | 0, hk => simpa using hk
    | 1, hk => simpa using hk
    | k + 2, hk => simp at hk⟩
theorem items_cells {w : World} {n : Nat} {A : Option Addr} {items : List (Option Addr × Nat)} (h : SlAt (RItem n) 1 w A items) (h0 : 0 < items.length) : ∃ b off, A = some ⟨b, off, none⟩ ∧ b < w.heap.size ∧ ∀ (i : Nat) it, items[i]? = some it → w.cell? ⟨b, off + i, none⟩ = some (.slice it.1 n it.2) := by
  obtain ⟨b, off, h⟩ := h
  obtain ⟨y, hy⟩ := get_lt h0
  obtain ⟨rfl, hb, _⟩ := h 0 y hy
  refine ⟨b, off, rfl, hb, fun i it hi => ?_⟩
  obtain ⟨_, _, h2⟩ := h i it hi
  simpa [RItem, cellIs] using h2
theorem bown_cells {w : World} {A : Option Addr} {r : List Bool} (h : BOwn w A r) (h0 : 0 < r.length) : ∃ g, A = some ⟨g, 0, none⟩ ∧ g < w.heap.size ∧ ∀ (k : Nat) (x : Bool), r[k]? = some x → w.cell? ⟨g, k, none⟩ = some (.bool x) := by
  obtain ⟨g, cs, h1, h2, h3⟩ := h h0
  exact ⟨g, h1, h2.lt, fun k x hk => by rw [h2.cell, h3 k x hk]⟩
theorem pair_reachErr : reachErr pairG 0 4 = 0 := by decide
theorem pair_rows {rs : List (List Bool)} (h : RowsOk pairG 0 4 2 rs) : rs[0]? = some [true, true] ∧ rs[1]? = some [false, false] := by
  obtain ⟨r0, h0⟩ := get_lt (l := rs) (k := 0) (by rw [h.1]; decide)
  obtain ⟨r1, h1⟩ := get_lt (l := rs) (k := 1) (by rw [h.1]; decide)
  obtain ⟨l0, hl0, e0⟩ := h.2 0 r0 h0
  obtain ⟨l1, hl1, e1⟩ := h.2 1 r1 h1
  have hd0 := hl1.dead pair_valid (by decide) (by decide) (k := 0) (by decide)
  have hd1 := hl1.dead pair_valid (by decide) (by decide) (k := 1) (by decide)
  have hq : l1 = [Never, Never] := gi_eq_of (by rw [hl1.1]; rfl) fun i hi => by
    rw [hl1.1] at hi
    have hi2 : i < 2 := hi
    match i, hi2 with
    | 0, _ => rw [hd0]; rfl
    | 1, _ => rw [hd1]; rfl
  have hp : l0 = [0, 4] := pair_early hl0
  rw [h0, h1, e0, e1, hq, hp]
  decide

set_option maxRecDepth 100000 in
set_option maxHeartbeats 8000000 in
theorem profileReach_calls (A A' : Option Addr) (c c' : Nat) (g : GraphD) {w : World} (hG : GraphAt w A c A' c' g) (s : Int) (_hs : I64 s) (a : Int) (_ha : I64 a) (b : Int) (_hb : I64 b) :
    Calls Try.prog 18 #[gV A c A' c' g, .int .i64 s, .int .i64 a, .int .i64 b] w fun e w' => e = .returned (.bool true) ∧ Below w.heap.size w w' := by
  obtain ⟨m, M, hmin, hmax, hmM, hmab, hMab⟩ := min_max3 a b
  have HMAB := Lib.hid hmab
  clear hmab hMab
  go_enter Try.func18, Try.ntmps18
  go_wp2_with fail
  refine (pair_any _).mono ?_
  rintro e w1 ⟨Ar, cr, Ar', cr', rfl, hGr, hb1⟩
  obtain ⟨B0, c1, c2, c3⟩ := (Blk.new w 28 (gC A c A' c' g)).go hb1
  have hbw : Below w.heap.size w w1 := ext_trans (by go_grown) hb1
  clear hb1
  go_wp2_with fail
  refine (reach_any _ _ _ _ pairG 0 4 _ hGr).mono ?_
  rintro e w2 ⟨Ap, cp, items0, rs0, rfl, hS0, hR0, HR0, _, hm0, hb2⟩
  rw [pair_reachErr]
  have hRO := HR0.out pair_reachErr
  obtain ⟨hr0, hr1⟩ := pair_rows hRO
  have hi2 : items0.length = 2 := by rw [hR0.1, hRO.1]; rfl
  rw [hi2]
  obtain ⟨bp, op, rfl, hzp, hcp⟩ := items_cells hS0 (by omega)
  obtain ⟨it0, hit0⟩ := get_lt (l := items0) (k := 0) (by omega)
  obtain ⟨it1, hit1⟩ := get_lt (l := items0) (k := 1) (by omega)
  have k0 := hcp 0 it0 hit0
  have k1 := hcp 1 it1 hit1
  have hw0 := (hR0.2 0 it0 _ hit0 hr0).slAt
  have hw1 := (hR0.2 1 it1 _ hit1 hr1).slAt
  have hpl : pairG.lives.length = 2 := rfl
  rw [hpl] at k0 k1
  obtain ⟨B0, c1, c2, c3⟩ := B0.go hb2
  have hbw := ext_trans hbw hb2
  clear hb2 hcp hS0 hR0 HR0 hRO hr0 hr1 hit0 hit1 hGr
  simp only [Nat.add_zero] at k0
  go_wp2_with fail
  refine (equalBoolsSame_any _ _ _ _ [true, true] _ _ _ (hw0.ext RBool.stable (by go_grown)) (bools2_at (Blk.new_ rfl)) (by simp [maxLen]) rfl rfl).mono ?_
  rintro e w3 ⟨rfl, hb2⟩
  have hb2 : Below w2.heap.size w2 w3 := ext_trans (by go_grown) hb2
  have k1 := cell_keep hb2 k1
  have hw1 := hw1.ext RBool.stable hb2
  have hbw := ext_trans hbw hb2
  have B0 := B0.ext hb2
  clear hb2 hw0 k0 c1 c2 c3
  go_wp2_with fail
  refine (equalBoolsSame_any _ _ _ _ [false, false] _ _ _ (hw1.ext RBool.stable (by go_grown)) (bools2_at (Blk.new_ rfl)) (by simp [maxLen]) rfl rfl).mono ?_
  rintro e w4 ⟨rfl, hb2⟩
  have hb2 : Below w3.heap.size w3 w4 := ext_trans (by go_grown) hb2
  have hbw := ext_trans hbw hb2
  obtain ⟨B0, c1, c2, c3⟩ := B0.go hb2
  clear hb2 hw1 k1 hi2
  go_wp2_with fail
  refine (reach_any _ _ _ _ g s m _ (hG.ext hbw)).mono ?_
  rintro e w5 ⟨A1, d1, it1s, rs1, rfl, hS1, hR1, HR1, HN1, hm1, hb2⟩
  obtain ⟨p1, hp1⟩ : ∃ p, reachErr g s m = p := ⟨_, rfl⟩
  have HP1 := Lib.hid hp1
  rw [hp1] at HR1 HN1 ⊢
  obtain ⟨B0, c1, c2, c3⟩ := B0.go hb2
  have hbw := ext_trans hbw hb2
  clear hb2 hp1
  go_wp2_with fail
  refine (reach_any _ _ _ _ g s M _ (hG.ext hbw)).mono ?_
  rintro e w6 ⟨A2, d2, it2s, rs2, rfl, hS2, hR2, HR2, HN2, hm2, hb2⟩
  obtain ⟨p2, hp2⟩ : ∃ p, reachErr g s M = p := ⟨_, rfl⟩
  have HP2 := Lib.hid hp2
  rw [hp2] at HR2 HN2 ⊢
  obtain ⟨B0, c1, c2, c3⟩ := B0.go hb2
  have hbw := ext_trans hbw hb2
  have hR1 := hR1.ext hb2
  have hS1x := hb2
  clear hp2
  by_cases h1 : p1 = 0
  case neg =>
    have hn : (p1 != 0) = true := by simp [h1]
    obtain rfl := HN1.out h1
    clear h1
    go_wp2_with fail
    go_ret
    exact ⟨rfl, hbw⟩
  subst h1
  by_cases h2 : p2 = 0
  case neg =>
    have hn : (p2 != 0) = true := by simp [h2]
    obtain rfl := HN2.out h2
    clear h2
    obtain ⟨q, hq⟩ : ∃ q, (((it1s.length : Nat) : Int) == 0) = q := ⟨_, rfl⟩
    cases q
    all_goals
      go_wp2_with fail
      go_ret
      exact ⟨rfl, hbw⟩
  subst h2
  have HO1 := Lib.hid (HR1.out rfl)
  have HO2 := Lib.hid (HR2.out rfl)
  have hlen1 : it1s.length = g.lives.length := by rw [hR1.1, HO1.out.1]
  have hlen2 : it2s.length = g.lives.length := by rw [hR2.1, HO2.out.1]
  have hre1 := HP1.out
  have hre2 := HP2.out
  unfold reachErr at hre1 hre2
  have hg0 : graphErr g = 0 := by
    refine Classical.byContradiction fun hg => ?_
    rw [if_neg hg] at hre1; exact hg hre1
  rw [if_pos hg0] at hre1 hre2
  have hin1 : (0 ≤ s ∧ s < g.h) ∧ 0 ≤ m ∧ m < g.h := by
    refine Classical.byContradiction fun hg => ?_
    rw [if_neg hg] at hre1; simp at hre1
  have hV := valid_of hg0
  have hh1 := hV.h1
  have hn12 := hV.nl
  obtain ⟨⟨hs0, hs1⟩, hm0', hm1'⟩ := hin1
  rw [hlen1, hlen2]
  have HLEN1 := Lib.hid hlen1
  have HLEN2 := Lib.hid hlen2
  clear hlen1 hlen2 hre1 hre2 hg0
  have hS1 := fun (h0 : 0 < it1s.length) => items_cells hS1 h0
  have HS1 := Lib.hid hS1
  have HS2 := Lib.hid (fun (h0 : 0 < it2s.length) => items_cells hS2 h0)
  clear hS1 hS2 HR1 HR2 HN1 HN2
  go_wp2_with fail
  obtain ⟨wo, hwo⟩ : ∃ wo : World, wo = w6 := ⟨_, rfl⟩
  go_loopw [79] (fun x wr => ∃ k : Nat, k ≤ g.lives.length ∧ x = .int .i64 k ∧ Below w6.heap.size w6 wr) (fun x _ => g.lives.length - (intOf x).toNat)
  case atStart => exact ⟨0, Nat.zero_le _, rfl, Below.refl _ _⟩
  case round =>
    clear hwo wo
    obtain ⟨k, hk, rfl, hbr⟩ := hrel
    have hbwr := ext_trans hbw hbr
    have B0r := B0.ext hbr
    by_cases hlt : k < g.lives.length
    case neg =>
      go_wp2_with fail
      go_ret
      exact ⟨rfl, hbwr⟩
    obtain ⟨b1, o1, rfl, hz1, hc1⟩ := HS1.out (by rw [HLEN1.out]; omega)
    obtain ⟨b2, o2, rfl, hz2, hc2⟩ := HS2.out (by rw [HLEN2.out]; omega)
    obtain ⟨x1, hx1⟩ := get_lt (l := it1s) (k := k) (by rw [HLEN1.out]; exact hlt)
    obtain ⟨x2, hx2⟩ := get_lt (l := it2s) (k := k) (by rw [HLEN2.out]; exact hlt)
    obtain ⟨r1, hr1⟩ := get_lt (l := rs1) (k := k) (by rw [HO1.out.1]; exact hlt)
    obtain ⟨r2, hr2⟩ := get_lt (l := rs2) (k := k) (by rw [HO2.out.1]; exact hlt)
    have q1 := cell_keep (hS1x.trans (hbr.mono hS1x.size)) (hc1 k x1 hx1)
    have q2 := cell_keep hbr (hc2 k x2 hx2)
    have hl1 := HO1.out.len hr1
    have hl2 := HO2.out.len hr2
    obtain ⟨g1, hg1, hzg1, hcg1⟩ := bown_cells (hR1.2 k x1 r1 hx1 hr1) (by omega)
    obtain ⟨g2, hg2, hzg2, hcg2⟩ := bown_cells (hR2.2 k x2 r2 hx2 hr2) (by omega)
    rw [hg1] at q1
    rw [hg2] at q2
    have HCG1 := Lib.hid hcg1
    have HCG2 := Lib.hid hcg2
    have HL1 := Lib.hid hl1
    have HL2 := Lib.hid hl2
    have HSELF := Lib.hid (HO1.out.self hV ⟨hs0, by omega⟩ (by omega) hr1 hlt)
    have HLAT : Hid (∀ (j : Nat) (x y : Bool), r1[j]? = some x → r2[j]? = some y → (x && !y) = false) := Lib.hid (fun j x y hx hy => HO1.out.later HO2.out hmM hr1 hr2 hx hy)
    have q3 := cell_keep hbr (hcg1 k _ HSELF.out)
    clear hc1 hc2 hcg1 hcg2 hl1 hl2 hx1 hx2 hr1 hr2 hg1 hg2
    obtain ⟨sm, hsm⟩ : ∃ q, decide (s ≤ m) = q := ⟨_, rfl⟩
    rw [hsm] at q3
    have hzgr : g1 < wr.heap.size := Nat.lt_of_lt_of_le hzg1 hbr.size
    have hloop : ∀ (wa : World), Below wr.heap.size wr wa → wa.cell? ⟨b1, o1 + k, none⟩ = some (.slice (some ⟨g1, 0, none⟩) g.lives.length x1.2) ∧ wa.cell? ⟨b2, o2 + k, none⟩ = some (.slice (some ⟨g2, 0, none⟩) g.lives.length x2.2) :=
      fun wa hb => ⟨cell_keep hb q1, cell_keep hb q2⟩
    have HLOOP := Lib.hid hloop
    clear hloop
    have S0 : wr.cell? ⟨w.heap.size, 0, none⟩ = some (.int .i64 g.h) ∧ wr.cell? ⟨w.heap.size, 1, none⟩ = some (.slice A g.lives.length c) ∧ wr.cell? ⟨w.heap.size, 2, none⟩ = some (.slice A' g.edges.length c') ∧ wr.cell? ⟨b1, o1 + k, none⟩ = some (.slice (some ⟨g1, 0, none⟩) g.lives.length x1.2) ∧ wr.cell? ⟨g1, k, none⟩ = some (.bool (aliveB g k s && sm)) :=
      ⟨by rw [B0r.cell]; rfl, by rw [B0r.cell]; rfl, by rw [B0r.cell]; rfl, q1, q3⟩
    cases hal : aliveB g k s
    case false =>
      have HA := Lib.hid hal
      rw [hal] at S0
      simp only [Bool.true_and, Bool.false_and] at S0
      clear hal q1 q2 q3
      go_wp2_with fail
      obtain ⟨S, hSS⟩ : ∃ S : World → Prop, Hid (S = fun w' => w'.cell? ⟨w.heap.size, 0, none⟩ = some (.int .i64 g.h) ∧ w'.cell? ⟨w.heap.size, 1, none⟩ = some (.slice A g.lives.length c) ∧ w'.cell? ⟨w.heap.size, 2, none⟩ = some (.slice A' g.edges.length c') ∧ w'.cell? ⟨b1, o1 + k, none⟩ = some (.slice (some ⟨g1, 0, none⟩) g.lives.length x1.2) ∧ w'.cell? ⟨g1, k, none⟩ = some (.bool false)) := ⟨_, Lib.hid rfl⟩
      have hS0 : S wr.drew := by rw [hSS.out]; exact S0
      refine wp_region_held_drew (S := S) (by kernel_rfl) hS0 fun _ => ?_
      refine anyH_take (i := 0) (v := ?_) rfl rfl (by kernel_rfl) (fun _ _ _ h => h) (Or.inl ⟨by rfl, ?_⟩) (by assumption) ?_
      rotate_left
      · intro w hSw; rw [hSS.out] at hSw; obtain ⟨sw0, sw1, sw2, sw3, sw4⟩ := hSw; go_simp; try with_reducible rfl
      try simp only [Act.put, List.setIfInBounds_toArray, List.set_cons_zero, List.set_cons_succ]
      refine anyH_take (i := 1) (v := ?_) rfl rfl (by kernel_rfl) (fun _ _ _ h => h) (Or.inl ⟨by rfl, ?_⟩) (by assumption) ?_
      rotate_left
      · intro w hSw; rw [hSS.out] at hSw; obtain ⟨sw0, sw1, sw2, sw3, sw4⟩ := hSw; go_simp; try with_reducible rfl
      try simp only [Act.put, List.setIfInBounds_toArray, List.set_cons_zero, List.set_cons_succ]
      refine anyH_take (i := 2) (v := ?_) rfl rfl (by kernel_rfl) (fun _ _ _ h => h) (Or.inl ⟨by rfl, ?_⟩) (by assumption) ?_
      rotate_left
      · intro w hSw; rw [hSS.out] at hSw; obtain ⟨sw0, sw1, sw2, sw3, sw4⟩ := hSw; go_simp; try with_reducible rfl
      try simp only [Act.put, List.setIfInBounds_toArray, List.set_cons_zero, List.set_cons_succ]
      refine anyH_take (i := 3) (v := ?_) rfl rfl (by kernel_rfl) (fun _ _ _ h => h) (Or.inl ⟨by rfl, ?_⟩) (by assumption) ?_
      rotate_left
      · intro w hSw; rw [hSS.out] at hSw; obtain ⟨sw0, sw1, sw2, sw3, sw4⟩ := hSw; go_simp; try with_reducible rfl
      try simp only [Act.put, List.setIfInBounds_toArray, List.set_cons_zero, List.set_cons_succ]
      refine anyH_take (i := 4) (v := ?_) rfl rfl (by kernel_rfl) (fun _ _ _ h => h) (Or.inl ⟨by rfl, ?_⟩) (by assumption) ?_
      rotate_left
      · intro w hSw; rw [hSS.out] at hSw; obtain ⟨sw0, sw1, sw2, sw3, sw4⟩ := hSw; go_simp; try with_reducible rfl
      try simp only [Act.put, List.setIfInBounds_toArray, List.set_cons_zero, List.set_cons_succ]
      refine anyH_take (i := 5) (v := ?_) rfl rfl (by kernel_rfl) (fun _ _ _ h => h) (Or.inl ⟨by rfl, ?_⟩) (by assumption) ?_
      rotate_left
      · intro w hSw; rw [hSS.out] at hSw; obtain ⟨sw0, sw1, sw2, sw3, sw4⟩ := hSw; go_simp; try with_reducible rfl
      try simp only [Act.put, List.setIfInBounds_toArray, List.set_cons_zero, List.set_cons_succ]
      refine anyH_take (i := 6) (v := ?_) rfl rfl (by kernel_rfl) (fun _ _ _ h => h) (Or.inl ⟨by rfl, ?_⟩) (by assumption) ?_
      rotate_left
      · intro w hSw; rw [hSS.out] at hSw; obtain ⟨sw0, sw1, sw2, sw3, sw4⟩ := hSw; go_simp; try with_reducible rfl
      try simp only [Act.put, List.setIfInBounds_toArray, List.set_cons_zero, List.set_cons_succ]
      refine anyH_take (i := 7) (v := ?_) rfl rfl (by kernel_rfl) (fun _ _ _ h => h) (Or.inl ⟨by rfl, ?_⟩) (by assumption) ?_
      rotate_left
      · intro w hSw; rw [hSS.out] at hSw; obtain ⟨sw0, sw1, sw2, sw3, sw4⟩ := hSw; go_simp; try with_reducible rfl
      try simp only [Act.put, List.setIfInBounds_toArray, List.set_cons_zero, List.set_cons_succ]
      refine anyH_take (i := 8) (v := ?_) rfl rfl (by kernel_rfl) (fun _ _ _ h => h) (Or.inl ⟨by rfl, ?_⟩) (by assumption) ?_
      rotate_left
      · intro w hSw; rw [hSS.out] at hSw; obtain ⟨sw0, sw1, sw2, sw3, sw4⟩ := hSw; go_simp; try with_reducible rfl
      try simp only [Act.put, List.setIfInBounds_toArray, List.set_cons_zero, List.set_cons_succ]
      refine anyH_take (i := 9) (v := ?_) rfl rfl (by kernel_rfl) (fun _ _ _ h => h) (Or.inl ⟨by rfl, ?_⟩) (by assumption) ?_
      rotate_left
      · intro w hSw; rw [hSS.out] at hSw; obtain ⟨sw0, sw1, sw2, sw3, sw4⟩ := hSw; go_simp; try with_reducible rfl
      try simp only [Act.put, List.setIfInBounds_toArray, List.set_cons_zero, List.set_cons_succ]
      refine anyH_one (i := 10) rfl (by kernel_rfl) fun K hK => ?_
      go_wp2_with (first | (refine (refAlive_any _ _ _ _ g k s _ (hG.ext (ext_trans hbwr (by go_grown))) (by omega) (by omega)).mono ?_; rw [HA.out]; rintro e w5' ⟨rfl, hb5⟩; have hb6 : Below wr.heap.size wr w5' := ext_trans (by go_grown) hb5))
      have hS5 : S w5' := by rw [hSS.out]; exact keep5 hb6 S0
      refine hK.out _ _ ⟨hS5, ?_⟩
      clear hK K
      try simp only [Act.put, List.setIfInBounds_toArray, List.set_cons_zero, List.set_cons_succ]
      refine anyH_take (i := 11) (v := ?_) rfl rfl (by kernel_rfl) (fun _ _ _ h => h) (Or.inl ⟨by rfl, ?_⟩) (by assumption) ?_
      rotate_left
      · intro w hSw; rw [hSS.out] at hSw; obtain ⟨sw0, sw1, sw2, sw3, sw4⟩ := hSw; go_simp; try with_reducible rfl
      try simp only [Act.put, List.setIfInBounds_toArray, List.set_cons_zero, List.set_cons_succ]
      refine anyH_take (i := 12) (v := undef) rfl rfl (by kernel_rfl) (fun _ _ _ h => h) (Or.inr ⟨by rfl, rfl⟩) (by assumption) ?_
      try simp only [Act.put, List.setIfInBounds_toArray, List.set_cons_zero, List.set_cons_succ]
      refine anyH_take (i := 13) (v := undef) rfl rfl (by kernel_rfl) (fun _ _ _ h => h) (Or.inr ⟨by rfl, rfl⟩) (by assumption) ?_
      try simp only [Act.put, List.setIfInBounds_toArray, List.set_cons_zero, List.set_cons_succ]
      refine anyH_take (i := 14) (v := undef) rfl rfl (by kernel_rfl) (fun _ _ _ h => h) (Or.inr ⟨by rfl, rfl⟩) (by assumption) ?_
      try simp only [Act.put, List.setIfInBounds_toArray, List.set_cons_zero, List.set_cons_succ]
      refine anyH_take (i := 15) (v := undef) rfl rfl (by kernel_rfl) (fun _ _ _ h => h) (Or.inr ⟨by rfl, rfl⟩) (by assumption) ?_
      try simp only [Act.put, List.setIfInBounds_toArray, List.set_cons_zero, List.set_cons_succ]
      refine anyH_take (i := 16) (v := undef) rfl rfl (by kernel_rfl) (fun _ _ _ h => h) (Or.inr ⟨by rfl, rfl⟩) (by assumption) ?_
      try simp only [Act.put, List.setIfInBounds_toArray, List.set_cons_zero, List.set_cons_succ]
      refine anyH_take (i := 17) (v := ?_) rfl rfl (by kernel_rfl) (fun _ _ _ h => h) (Or.inl ⟨by rfl, ?_⟩) (by assumption) ?_
      rotate_left
      · intro w hSw; rw [hSS.out] at hSw; obtain ⟨sw0, sw1, sw2, sw3, sw4⟩ := hSw; go_simp; try with_reducible rfl
      try simp only [Act.put, List.setIfInBounds_toArray, List.set_cons_zero, List.set_cons_succ]
      refine anyH_take (i := 18) (v := ?_) rfl rfl (by kernel_rfl) (fun _ _ _ h => h) (Or.inl ⟨by rfl, ?_⟩) (by assumption) ?_
      rotate_left
      · intro w hSw; rw [hSS.out] at hSw; obtain ⟨sw0, sw1, sw2, sw3, sw4⟩ := hSw; go_simp; try with_reducible rfl
      try simp only [Act.put, List.setIfInBounds_toArray, List.set_cons_zero, List.set_cons_succ]
      refine wpAnyH_done (by kernel_rfl) ?_ _
      clear hS5 hS0
      have hbr5 := ext_trans hbr hb6
      have hbw5 := ext_trans hbwr hb6
      obtain ⟨u1, u2⟩ := HLOOP.out w5' hb6
      clear S0 hb5
      go_wp2_with fail
      go_loopw [106] (fun x wr => ∃ j : Nat, j ≤ g.lives.length ∧ x = .int .i64 j ∧ wr = w5') (fun x _ => g.lives.length - (intOf x).toNat)
      case atStart => exact ⟨0, Nat.zero_le _, rfl, rfl⟩
      case round =>
        obtain ⟨j, hj, rfl, hwe⟩ := hrel
        have hwe := hwe.symm
        subst hwe
        by_cases hlt2 : j < g.lives.length
        case neg =>
          go_wp2_with fail
          go_roundw
          case rel => exact ⟨k + 1, by omega, by go_num, hbr5⟩
          case measure => simp [intOf]; omega
        obtain ⟨x, hx⟩ := get_lt (l := r1) (k := j) (by rw [HL1.out]; exact hlt2)
        obtain ⟨y, hy⟩ := get_lt (l := r2) (k := j) (by rw [HL2.out]; exact hlt2)
        have t1 := cell_keep hb6 (cell_keep hbr (HCG1.out j x hx))
        have t2 := cell_keep hb6 (cell_keep hbr (HCG2.out j y hy))
        have hxy := HLAT.out j x y hx hy
        clear hx hy
        cases x
        case false =>
          go_wp2_with fail
          go_roundw
          case rel => exact ⟨j + 1, by omega, by go_num, trivial⟩
          case measure => simp [intOf]; omega
        case true =>
          obtain rfl : y = true := by simpa using hxy
          go_wp2_with fail
          go_roundw
          case rel => exact ⟨j + 1, by omega, by go_num, trivial⟩
          case measure => simp [intOf]; omega
    case true =>
      have HA := Lib.hid hal
      rw [hal] at S0
      simp only [Bool.true_and, Bool.false_and] at S0
      clear hal q1 q2 q3
      go_wp2_with fail
      go_region_held3 (fun w' => w'.cell? ⟨w.heap.size, 0, none⟩ = some (.int .i64 g.h) ∧ w'.cell? ⟨w.heap.size, 1, none⟩ = some (.slice A g.lives.length c) ∧ w'.cell? ⟨w.heap.size, 2, none⟩ = some (.slice A' g.edges.length c') ∧ w'.cell? ⟨b1, o1 + k, none⟩ = some (.slice (some ⟨g1, 0, none⟩) g.lives.length x1.2) ∧ w'.cell? ⟨g1, k, none⟩ = some (.bool sm))
        (first | exact S0 | exact keep5 hb6 S0)
        (first | (go_at_call 75; refine (refAlive_any _ _ _ _ g k s _ (hG.ext (ext_trans hbwr (by go_grown))) (by omega) (by omega)).mono ?_; rw [HA.out]; rintro e w5' ⟨rfl, hb5⟩; have hb6 : Below wr.heap.size wr w5' := ext_trans (by go_grown) hb5))
      have hbr5 := ext_trans hbr hb6
      have hbw5 := ext_trans hbwr hb6
      obtain ⟨u1, u2⟩ := HLOOP.out w5' hb6
      clear S0 hb5
      go_wp2_with fail
      go_loopw [106] (fun x wr => ∃ j : Nat, j ≤ g.lives.length ∧ x = .int .i64 j ∧ wr = w5') (fun x _ => g.lives.length - (intOf x).toNat)
      case atStart => exact ⟨0, Nat.zero_le _, rfl, rfl⟩
      case round =>
        obtain ⟨j, hj, rfl, hwe⟩ := hrel
        have hwe := hwe.symm
        subst hwe
        by_cases hlt2 : j < g.lives.length
        case neg =>
          go_wp2_with fail
          go_roundw
          case rel => exact ⟨k + 1, by omega, by go_num, hbr5⟩
          case measure => simp [intOf]; omega
        obtain ⟨x, hx⟩ := get_lt (l := r1) (k := j) (by rw [HL1.out]; exact hlt2)
        obtain ⟨y, hy⟩ := get_lt (l := r2) (k := j) (by rw [HL2.out]; exact hlt2)
        have t1 := cell_keep hb6 (cell_keep hbr (HCG1.out j x hx))
        have t2 := cell_keep hb6 (cell_keep hbr (HCG2.out j y hy))
        have hxy := HLAT.out j x y hx hy
        clear hx hy
        cases x
        case false =>
          go_wp2_with fail
          go_roundw
          case rel => exact ⟨j + 1, by omega, by go_num, trivial⟩
          case measure => simp [intOf]; omega
        case true =>
          obtain rfl : y = true := by simpa using hxy
          go_wp2_with fail
          go_roundw
          case rel => exact ⟨j + 1, by omega, by go_num, trivial⟩
          case measure => simp [intOf]; omega
end Go.Proofs.Ytcgnalpcbcpmkaa
