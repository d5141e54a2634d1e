/- The walk of the law TurnParts. -/
import Derived.Test.YtcgnalpcbcpmkaaOnly
import Derived.Test.YtcgnalpcbcpmkaaPartLaw
import Derived.Test.YtcgnalpcbcpmkaaTurned
import Derived.Test.YtcgnalpcbcpmkaaEarly0
import Derived.BigQuiet
namespace Go.Proofs.Ytcgnalpcbcpmkaa
open Go.RowKit

theorem make_bools2 (n : Nat) (h : n ≤ 140737488351232) (w : World) : (Instr.makeSlice 48 (.int .i64 (n : Int)) (.int .i64 (n : Int))).run Try.prog w = .ok (.slice (some ⟨w.heap.size, 0, none⟩) n n) (w.alloc (.cells (madeCells #[.bool false] n) 4)) :=
  run_make_row' (P := Try.prog) 48 4 (.bool false) 1 Try.underlying48 info_bool rfl .i64 .i64 n (by omega) (by omega) w
theorem BRow.slAt {w : World} {b : Nat} {l : List Bool} (h : BRow w b l) : SlAt RBool 1 w (some ⟨b, 0, none⟩) l :=
  ⟨b, 0, fun i x hx => ⟨rfl, Blk.lt h, by simpa [RBool, cellIs] using BRow.cell h hx⟩⟩

set_option maxRecDepth 100000 in
set_option maxHeartbeats 8000000 in
theorem turnParts_calls (A A' : Option Addr) (c c' : Nat) (g : GraphD) {w : World} (hG : GraphAt w A c A' c' g) (hn47 : g.lives.length * 16 ≤ 140737488351232) (Ak : Option Addr) (ck : Nat) (keep : List Bool) (hkl0 : keep.length ≤ ck) (hkm0 : ck ≤ maxLen) (hK : SlAt RBool 1 w Ak keep) (u : Int) (_hu : I64 u) (e : Int) (_he : I64 e) :
    Calls Try.prog 26 #[gV A c A' c' g, .slice Ak keep.length ck, .int .i64 u, .int .i64 e] w fun en w' => en = .returned (.bool true) ∧ Below w.heap.size w w' := by
  have hkm : keep.length ≤ maxLen := Nat.le_trans hkl0 hkm0
  clear hkl0 hkm0
  have hmk := make_bools2 g.lives.length (by omega)
  go_enter Try.func26, Try.ntmps26
  go_wp2_with fail
  refine (turned_any _).mono ?_
  rintro en w1 ⟨rfl, hb1⟩
  obtain ⟨B0, c1, c2, c3⟩ := (Blk.new w 28 (gC A c A' c' g)).go hb1
  have hbw : Below w.heap.size w w1 := ext_trans (by go_grown) hb1
  clear hb1
  go_wp2_with fail
  have BA : BRow (w1.alloc (Obj.cells (madeCells #[Value.bool false] g.lives.length) 4)) w1.heap.size (List.replicate g.lives.length false) := BRow.made rfl
  have B0 := B0.alloc (Obj.cells (madeCells #[Value.bool false] g.lives.length) 4)
  have hbw := ext_alloc hbw (Obj.cells (madeCells #[Value.bool false] g.lives.length) 4)
  have hz : w1.heap.size + 1 ≤ (w1.alloc (Obj.cells (madeCells #[Value.bool false] g.lives.length) 4)).heap.size := by simp
  have hw1 : w.heap.size < w1.heap.size := c3
  obtain ⟨ga, hga⟩ : ∃ ga, ga = w1.heap.size := ⟨_, rfl⟩
  rw [← hga] at BA hz hw1 ⊢
  obtain ⟨w2, hw2⟩ : ∃ w2 : World, w2 = w1.alloc (Obj.cells (madeCells #[Value.bool false] g.lives.length) 4) := ⟨_, rfl⟩
  rw [← hw2] at BA B0 hbw hz ⊢
  clear hga hw2 hmk c1 c2 c3
  go_loopw [29] (fun x wr => ∃ (k : Nat) (l : List Bool), k ≤ g.lives.length ∧ x = .int .i64 k ∧ Hid (l.length = g.lives.length ∧ ∀ i, i < k → l[i]? = some true) ∧ BRow wr ga l ∧ Blk wr w.heap.size 28 (gC A c A' c' g) ∧ Below w.heap.size w wr ∧ ga + 1 ≤ wr.heap.size) (fun x _ => g.lives.length - (intOf x).toNat)
  case atStart => exact ⟨0, _, Nat.zero_le _, rfl, Lib.hid ⟨by simp, fun i h => by omega⟩, BA, B0, hbw, hz⟩
  case round =>
    clear BA B0 hbw hz
    obtain ⟨k, l, hk, rfl, HL, BA, B0, hbw, hz⟩ := hrel
    by_cases hlt : k < g.lives.length
    case pos =>
      obtain ⟨y, hy⟩ := get_lt (l := l) (k := k) (by rw [HL.out.1]; exact hlt)
      have hcy := BA.cell hy
      have hfy := Blk.frozen BA k
      have hzz : ga < wr.heap.size := by omega
      have HN : Hid ((l.set k true).length = g.lives.length ∧ ∀ i, i < k + 1 → (l.set k true)[i]? = some true) := Lib.hid ⟨by simp [HL.out.1], fun i hi => by
        by_cases e : i = k
        · rw [e, List.getElem?_set_self (by rw [HL.out.1]; exact hlt)]
        · rw [List.getElem?_set_ne (by omega)]; exact HL.out.2 i (by omega)⟩
      clear hy
      go_wp2_with fail
      go_roundw
      case rel => exact ⟨k + 1, _, by omega, by go_num, HN, BA.set k true, B0.far (by simp; omega) _, hbw.setCell (by simp; omega) _, by simpa using hz⟩
      case measure => simp [intOf]; omega
    obtain rfl : l = List.replicate g.lives.length true := by
      refine List.eq_replicate_iff.2 ⟨HL.out.1, fun b hb => ?_⟩
      obtain ⟨i, hi⟩ := List.getElem?_of_mem hb
      have := HL.out.2 i (by have := lt_of_get hi; rw [HL.out.1] at this; omega)
      rw [hi] at this
      simpa using this
    clear HL
    obtain ⟨c1, c2, c3⟩ := B0.facts
    go_wp2_with fail
    have hC1 := only_any A A' (some ⟨ga, 0, none⟩) c c' g.lives.length g (List.replicate g.lives.length true) wr (hG.ext hbw) BA.slAt (by rw [List.length_replicate]; unfold maxLen; omega)
    rw [List.length_replicate] at hC1
    refine hC1.mono ?_
    clear hC1 BA
    rintro en w3 ⟨X, x, X', x', rfl, hX, hb3⟩
    obtain ⟨e1, he1⟩ : ∃ p, onlyErr g g.lives.length = p := ⟨_, rfl⟩
    have HE1 := Lib.hid he1
    rw [he1]
    obtain ⟨gx, hgx⟩ : ∃ y, onlyOut g (List.replicate g.lives.length true) = y := ⟨_, rfl⟩
    have HGX := Lib.hid hgx
    rw [hgx] at hX ⊢
    have B0 := B0.ext hb3
    have hbw := ext_trans hbw hb3
    clear hb3 he1 hgx c1 c2 c3 hz
    have BX := Blk.new w3 28 (gC X x X' x' gx)
    have B0 := B0.alloc (Obj.cells (gC X x X' x' gx) 28)
    have hX := hX.ext (show Below w3.heap.size w3 (w3.alloc (Obj.cells (gC X x X' x' gx) 28)) by go_grown)
    have hbw := ext_alloc hbw (Obj.cells (gC X x X' x' gx) 28)
    obtain ⟨c1, c2, c3⟩ := B0.facts
    go_wp2_with fail
    refine (only_any A A' Ak c c' ck g keep _ (hG.ext hbw) (hK.ext RBool.stable hbw) hkm).mono ?_
    rintro en w4 ⟨Y, y, Y', y', rfl, hY, hb4⟩
    obtain ⟨e2, he2⟩ : ∃ p, onlyErr g keep.length = p := ⟨_, rfl⟩
    have HE2 := Lib.hid he2
    rw [he2]
    obtain ⟨gy, hgy⟩ : ∃ y, onlyOut g keep = y := ⟨_, rfl⟩
    have HGY := Lib.hid hgy
    rw [hgy] at hY ⊢
    have B0 := B0.ext hb4
    have BX := BX.ext hb4
    have hX := hX.ext hb4
    have hbw := ext_trans hbw hb4
    clear hb4 he2 hgy c1 c2 c3
    have BY := Blk.new w4 28 (gC Y y Y' y' gy)
    have B0 := B0.alloc (Obj.cells (gC Y y Y' y' gy) 28)
    have BX := BX.alloc (Obj.cells (gC Y y Y' y' gy) 28)
    have hY := hY.ext (show Below w4.heap.size w4 (w4.alloc (Obj.cells (gC Y y Y' y' gy) 28)) by go_grown)
    have hX := hX.ext (show Below w4.heap.size w4 (w4.alloc (Obj.cells (gC Y y Y' y' gy) 28)) by go_grown)
    have hbw := ext_alloc hbw (Obj.cells (gC Y y Y' y' gy) 28)
    obtain ⟨c1, c2, c3⟩ := B0.facts
    obtain ⟨f1, f2, f3⟩ := BX.facts
    by_cases hv : graphErr g = 0
    case neg =>
      have h1 : e1 = graphErr g := by rw [← HE1.out]; unfold onlyErr; rw [if_neg hv]
      have h2 : e2 = e1 := by rw [h1, ← HE2.out]; unfold onlyErr; rw [if_neg hv]
      have hn : (e1 != 0) = true := by rw [h1]; simpa using hv
      have hq : (e1 == e1) = true := by simp
      subst h2
      clear hv h1
      go_wp2_with fail
      go_ret
      exact ⟨rfl, hbw⟩
    have h1 : e1 = 0 := by rw [← HE1.out]; unfold onlyErr; rw [if_pos hv, if_pos rfl]
    subst h1
    by_cases hl : keep.length = g.lives.length
    case neg =>
      have h2 : e2 = 5 := by rw [← HE2.out]; unfold onlyErr; rw [if_pos hv, if_neg hl]
      have hn : ((keep.length : Int) != (g.lives.length : Int)) = true := by simp; omega
      subst h2
      clear hv hl
      go_wp2_with fail
      go_ret
      exact ⟨rfl, hbw⟩
    have h2 : e2 = 0 := by rw [← HE2.out]; unfold onlyErr; rw [if_pos hv, if_pos hl]
    subst h2
    have hV := valid_of hv
    have hgx : gx = g := by rw [← HGX.out]; unfold onlyOut; rw [List.length_replicate, if_pos HE1.out, part_all rfl hV]
    have hgy : gy = partD g keep := by rw [← HGY.out]; unfold onlyOut; rw [if_pos HE2.out]
    subst hgx hgy
    clear HGX HGY HE1 HE2
    have HV := Lib.hid hv
    have HLK := Lib.hid hl
    have hn12 := hV.nl
    have hh1 := hV.h1
    clear hv hl
    have hkl : (keep.length : Int) = (gx.lives.length : Int) := by rw [HLK.out]
    go_wp2_with fail
    refine (sameGraph_any X X' A A' x x' c c' gx _ hX (hG.ext hbw)).mono ?_
    rintro en w5 ⟨rfl, hb5⟩
    have B0 := B0.ext hb5
    have BX := BX.ext hb5
    have BY := BY.ext hb5
    have hX := hX.ext hb5
    have hY := hY.ext hb5
    have hbw := ext_trans hbw hb5
    clear hb5 c1 c2 c3 f1 f2 f3
    obtain ⟨c1, c2, c3⟩ := B0.facts
    obtain ⟨f1, f2, f3⟩ := BX.facts
    obtain ⟨k1, k2, k3⟩ := BY.facts
    by_cases hu0 : 0 ≤ u
    case neg =>
      have hd : decide (u < 0) = true := by simp; omega
      go_wp2_with fail
      refine (sameGraph_any X X' A A' x x' c c' gx _ hX (hG.ext hbw)).mono ?_
      rintro en w6 ⟨rfl, hb6⟩
      go_wp2_with fail
      go_ret
      exact ⟨rfl, ext_trans hbw hb6⟩
    have hd0 : decide (u < 0) = false := by simp; omega
    by_cases hu1 : u < (keep.length : Int)
    case neg =>
      have hd : decide (u ≥ (keep.length : Int)) = true := by simp; omega
      go_wp2_with fail
      refine (sameGraph_any X X' A A' x x' c c' gx _ hX (hG.ext hbw)).mono ?_
      rintro en w6 ⟨rfl, hb6⟩
      go_wp2_with fail
      go_ret
      exact ⟨rfl, ext_trans hbw hb6⟩
    have hd1 : decide (u ≥ (keep.length : Int)) = false := by simp; omega
    obtain ⟨p, hp⟩ := get_lt (l := keep) (k := u.toNat) (by omega)
    obtain ⟨bk, ok, hKL⟩ := hK
    obtain ⟨rfl, hbk, p0⟩ := hKL _ p hp
    have hcell : ∀ (i : Nat) (q : Bool) (wz : World), keep[i]? = some q → Below w.heap.size w wz → wz.cell? ⟨bk, ok + i, none⟩ = some (.bool q) := fun i q wz hq hb => by
      have h := (hKL i q hq).2.2
      unfold RBool at h
      have h := h.now hb
      simpa using h
    have HCELL := Lib.hid hcell
    have q0 := hcell _ p _ hp hbw
    clear hcell p0
    cases p
    case false =>
      clear hKL
      go_wp2_with fail
      refine (sameGraph_any X X' A A' x x' c c' gx _ hX (hG.ext hbw)).mono ?_
      rintro en w6 ⟨rfl, hb6⟩
      go_wp2_with fail
      go_ret
      exact ⟨rfl, ext_trans hbw hb6⟩
    clear hKL
    go_wp2_with fail
    clear q0
    obtain ⟨un, rfl⟩ : ∃ n : Nat, u = n := ⟨u.toNat, by omega⟩
    simp only [Int.toNat_natCast] at hp
    go_loopw [98, 15] (fun x z wr => ∃ k : Nat, k ≤ un ∧ x = .int .i64 k ∧ z = .int .i64 (kept keep k : Nat) ∧ Below w5.heap.size w5 wr) (fun x _ _ => un - (intOf x).toNat)
    case atStart => exact ⟨0, Nat.zero_le _, rfl, rfl, Below.refl _ _⟩
    case round =>
      obtain ⟨k, hk, rfl, rfl, hbr⟩ := hrel
      by_cases hlt : k < un
      case pos =>
        obtain ⟨q, hq⟩ := get_lt (l := keep) (k := k) (by omega)
        have q0 := HCELL.out _ q _ hq (ext_trans hbw hbr)
        have hzk : bk < wr.heap.size := Nat.lt_of_lt_of_le hbk (ext_trans hbw hbr).size
        have hkl2 : (k : Int) < (keep.length : Int) := by omega
        have HKS := Lib.hid (kept_succ hq)
        have hkb : kept keep k ≤ k := kept_le keep k
        clear hq
        cases q
        case true =>
          go_wp2_with fail
          go_roundw
          case rel => exact ⟨k + 1, by omega, by go_num, by rw [HKS.out]; go_num, hbr⟩
          case measure => simp [intOf]; omega
        case false =>
          go_wp2_with fail
          go_roundw
          case rel => exact ⟨k + 1, by omega, by go_num, by rw [HKS.out]; rfl, hbr⟩
          case measure => simp [intOf]; omega
      obtain rfl : k = un := by omega
      have B0 := B0.ext hbr
      have BY := BY.ext hbr
      have hY := hY.ext hbr
      have hbw := ext_trans hbw hbr
      clear hbr c1 c2 c3 f1 f2 f3 k1 k2 k3
      obtain ⟨c1, c2, c3⟩ := B0.facts
      go_wp2_with fail
      refine (arrivals_any _ _ _ _ gx k e _ (hG.ext hbw)).mono ?_
      rintro en w6 ⟨la, A1, d1, hl1, rfl, hA1, hm1, hb6⟩
      obtain ⟨p1, hp1⟩ : ∃ p, placeErr gx k e = p := ⟨_, rfl⟩
      have HP1 := Lib.hid hp1
      have HL1 := Lib.hid hl1
      rw [hp1]
      have BY := BY.ext hb6
      have hY := hY.ext hb6
      have hbw := ext_trans hbw hb6
      clear hb6 hp1 hl1 c1 c2 c3
      obtain ⟨k1, k2, k3⟩ := BY.facts
      have hp2 : placeErr (partD gx keep) (kept keep k) e = p1 := by
        have h := part_place (valid_of HV.out) HLK.out (u := (k : Int)) (by rw [keptB_iff]; simpa using hp) (by omega) (by omega) e
        rw [Int.toNat_natCast] at h
        rw [h]; exact HP1.out
      go_wp2_with fail
      refine (arrivals_any _ _ _ _ (partD gx keep) (kept keep k : Nat) e _ hY).mono ?_
      rw [hp2]
      rintro en w7 ⟨lb, A2, d2, hl2, rfl, hA2, hm2, hb7⟩
      have hA1 := hA1.ext RInt.stable hb7
      have hbw := ext_trans hbw hb7
      have HF : Hid (kept keep la.length = lb.length ∧ la.length ≤ keep.length ∧ ∀ v, v < la.length → keep[v]? = some true → kept keep v < lb.length ∧ gi la v ≤ gi lb (kept keep v)) := Lib.hid (by
        by_cases hpz : p1 = 0
        · have h1 := arr_good (by rw [HP1.out, hpz]) HL1.out
          have h2 := arr_good (by rw [hp2, hpz]) hl2
          refine ⟨by rw [h1.1, h2.1, part_len HLK.out], by rw [h1.1, HLK.out]; exact Nat.le_refl _, fun v hv hq => ⟨by rw [h2.1]; exact part_lt HLK.out hq, part_later (valid_of HV.out) HLK.out hp h1 h2 hq⟩⟩
        · have h1 := arr_bad (by rw [HP1.out]; exact hpz) HL1.out
          have h2 := arr_bad (by rw [hp2]; exact hpz) hl2
          subst h1 h2
          exact ⟨kept_zero _, by simp, fun v hv => by simp at hv⟩)
      have hne : (p1 != p1) = false := by simp
      have hla : la.length ≤ 12 := by have := HF.out.2.1; omega
      clear hp2 hl2 hb7 k1 k2 k3
      go_wp2_with fail
      go_loopw [127, 19] (fun x z wr => ∃ k : Nat, k ≤ la.length ∧ x = .int .i64 k ∧ z = .int .i64 (kept keep k : Nat) ∧ Below w7.heap.size w7 wr) (fun x _ _ => la.length - (intOf x).toNat)
      case atStart => exact ⟨0, Nat.zero_le _, rfl, rfl, Below.refl _ _⟩
      case round =>
        obtain ⟨j, hj, rfl, rfl, hbr⟩ := hrel
        by_cases hlt2 : j < la.length
        case neg =>
          obtain rfl : j = la.length := by omega
          have hfin : ((kept keep la.length : Int) == (lb.length : Int)) = true := by rw [HF.out.1]; simp
          go_wp2_with fail
          go_ret
          exact ⟨rfl, ext_trans hbw hbr⟩
        have hjk : j < keep.length := by have := HF.out.2.1; omega
        obtain ⟨q, hq⟩ := get_lt (l := keep) (k := j) hjk
        have q0 := HCELL.out _ q _ hq (ext_trans hbw hbr)
        have hzk : bk < wr.heap.size := Nat.lt_of_lt_of_le hbk (ext_trans hbw hbr).size
        have hjl : (j : Int) < (keep.length : Int) := by omega
        have HKS := Lib.hid (kept_succ hq)
        have hkb : kept keep j ≤ j := kept_le keep j
        cases q
        case false =>
          clear hq
          go_wp2_with fail
          go_roundw
          case rel => exact ⟨j + 1, by omega, by go_num, by rw [HKS.out]; rfl, hbr⟩
          case measure => simp [intOf]; omega
        case true =>
          obtain ⟨h1, h2⟩ := HF.out.2.2 j hlt2 hq
          clear hq
          obtain ⟨b1, o1, rfl, hz1, hc1⟩ := hA1.cells (by omega)
          obtain ⟨b2, o2, rfl, hz2, hc2⟩ := hA2.cells (by omega)
          have m1 := cell_keep hbr (hc1 j hlt2)
          have m2 := cell_keep hbr (hc2 _ h1)
          obtain ⟨xa, hxa⟩ : ∃ x, gi la j = x := ⟨_, rfl⟩
          obtain ⟨xb, hxb⟩ : ∃ x, gi lb (kept keep j) = x := ⟨_, rfl⟩
          rw [hxa, hxb] at h2
          rw [hxa] at m1
          rw [hxb] at m2
          clear hxa hxb hc1 hc2
          have hd : decide (xb < xa) = false := by simp; omega
          have hi2 : ((kept keep j : Nat) : Int) < (lb.length : Int) := by omega
          go_wp2_with fail
          try go_quiet (fail)
          try go_wp2_with fail
          go_roundw
          case rel => exact ⟨j + 1, by omega, by go_num, by rw [HKS.out]; go_num, by first | exact hbr | exact below_drewN hbr _⟩
          case measure => simp [intOf]; omega
end Go.Proofs.Ytcgnalpcbcpmkaa
