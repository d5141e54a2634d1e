/- Several texts in one: Shot, LabelSpec. -/
import Derived.Test.YtdpibehpmghghaaGreatBd87574eba69
import Derived.Test.YtdpibehpmghghaaGreatBd528e27e166
/- The walks of the checks of a snapshot, the program's and the document's. -/
namespace Go.Proofs.YtdpibehpmghghaaGreat
open Go.RowKit

abbrev arcV (x : ArcD) : Value := .agg #[.int .i64 x.a, .int .i64 x.b, .int .i64 x.cost]
abbrev snapC (A : Option Addr) (c : Nat) (A' : Option Addr) (c' : Nat) (s : SnapD) : Array Value := #[.slice A s.alive.length c, .slice A' s.arcs.length c']
theorem aliveAt_neg {s : SnapD} {v : Int} (h : ¬ 0 ≤ v) : aliveAt s v = false := by simp [aliveAt]; omega
theorem aliveAt_far {s : SnapD} {v : Int} (h : (s.alive.length : Int) ≤ v) : aliveAt s v = false := by
  simp only [aliveAt, Bool.and_eq_false_iff]
  right
  rw [List.getElem?_eq_none (by omega)]; rfl
theorem aliveAt_in {s : SnapD} {v : Int} {b : Bool} (h : 0 ≤ v) (h2 : s.alive[v.toNat]? = some b) : aliveAt s v = b := by simp [aliveAt, h, h2]

set_option maxHeartbeats 1000000 in
theorem aliveClo_any (A A' : Option Addr) (c c' : Nat) (s : SnapD) (v : Int) (bn bs : Nat) (w : World) (hS : SnapAt w A c A' c' s) (hn : Blk w bn 3 #[.int .i64 s.alive.length]) (hs : Blk w bs 34 (snapC A c A' c' s)) :
    Calls Tryz.prog 67 #[.int .i64 v, .pointer (some ⟨bn, 0, none⟩), .pointer (some ⟨bs, 0, none⟩)] w fun e w' => e = .returned (.bool (aliveAt s v)) ∧ w = w' := by
  have m1 : s.alive.length ≤ 9223372036854775807 := Nat.le_trans hS.lc hS.cm
  obtain ⟨n1, n2, n3⟩ := hn.facts
  obtain ⟨q1, q2, q3⟩ := hs.facts
  have n10 := n1 0
  have q10 := q1 0
  simp at n10 q10
  obtain ⟨b, off, hL⟩ := hS.alive
  by_cases h0 : 0 ≤ v
  case neg =>
    have HA := Lib.hid (aliveAt_neg (s := s) h0)
    have hd : decide (0 ≤ v) = false := by simpa using h0
    go_enter Tryz.func67, Tryz.ntmps67
    go_wp2_with fail
    go_ret
    exact ⟨ret_bool HA.out.symm, rfl⟩
  by_cases h1 : (v : Int) < s.alive.length
  case neg =>
    have HA := Lib.hid (aliveAt_far (s := s) (v := v) (by omega))
    have hd : decide (v < (s.alive.length : Int)) = false := by simpa using h1
    go_enter Tryz.func67, Tryz.ntmps67
    go_wp2_with fail
    go_ret
    exact ⟨ret_bool HA.out.symm, rfl⟩
  obtain ⟨y, hy⟩ := get_lt (show v.toNat < s.alive.length by omega)
  have HA := Lib.hid (aliveAt_in h0 hy)
  obtain ⟨rfl, hb0, x0⟩ := hL _ y hy
  unfold RBool cellIs at x0
  simp only [Nat.mul_one] at x0
  clear hL hy
  go_enter Tryz.func67, Tryz.ntmps67
  go_wp2_with fail
  go_ret
  exact ⟨ret_bool HA.out.symm, rfl⟩
theorem aliveAt_known {s : SnapD} {v : Int} (h : aliveAt s v = true) : 0 ≤ v ∧ v.toNat < s.alive.length ∧ s.alive[v.toNat]? = some true := by
  simp only [aliveAt, Bool.and_eq_true, decide_eq_true_eq, beq_iff_eq] at h
  exact ⟨h.1, lt_of_get h.2, h.2⟩
set_option maxRecDepth 100000 in
set_option maxHeartbeats 4000000 in
theorem shotCheck_any (A A' : Option Addr) (c c' : Nat) (s : SnapD) (w : World) (hS : SnapAt w A c A' c' s) :
    Calls Tryz.prog 42 #[snapV A c A' c' s] w fun e w' => e = .returned (.int .i64 (shotErr s)) ∧ Below w.heap.size w w' := by
  have m1 : s.alive.length ≤ 9223372036854775807 := Nat.le_trans hS.lc hS.cm
  have m2 : s.arcs.length ≤ 9223372036854775807 := Nat.le_trans hS.lc' hS.cm'
  have hmf : ∀ (fn : Fn) (first cap : Array Value) (w : World), (Instr.makeFunc fn first cap).run Tryz.prog w = .ok (.func fn first cap) w := fun _ _ _ _ => rfl
  by_cases h1 : 12 < s.alive.length
  · go_enter Tryz.func42, Tryz.ntmps42
    go_wp2_with fail
    go_ret
    exact ⟨ret_int (shotErr_large (.inl h1)).symm, by go_grown⟩
  by_cases h2 : 30 < s.arcs.length
  · go_enter Tryz.func42, Tryz.ntmps42
    go_wp2_with fail
    go_ret
    exact ⟨ret_int (shotErr_large (.inr h2)).symm, by go_grown⟩
  obtain ⟨b, off, hL⟩ := hS.arcs
  go_enter Tryz.func42, Tryz.ntmps42
  go_wp2_with fail
  go_loopw [24] (fun v wr => ∃ k : Nat, k ≤ s.arcs.length ∧ v = .int .i64 k ∧ Hid ((s.arcs.drop k).all (arcAlive s) = s.arcs.all (arcAlive s)) ∧ Below w.heap.size w wr ∧ Blk wr w.heap.size 34 (snapC A c A' c' s) ∧ Blk wr (w.heap.size + 1) 3 #[.int .i64 s.alive.length])
    (fun v _ => s.arcs.length - (intOf v).toNat)
  case atStart => exact ⟨0, Nat.zero_le _, rfl, Lib.hid rfl, by go_grown, (Blk.new _ _ _).alloc _, Blk.new_ (by simp)⟩
  case round =>
    obtain ⟨k, hk, rfl, HI, hb, hB1, hB2⟩ := hrel
    obtain ⟨b1, b2, b3⟩ := hB1.facts
    by_cases hlt : k < s.arcs.length
    · obtain ⟨y, hy⟩ := get_lt hlt
      obtain ⟨rfl, hb0, ⟨⟨x0, x1, x2⟩, _⟩⟩ := hL k y hy
      have y0 := x0.now hb
      have y1 := x1.now hb
      have y2 := x2.now hb
      have hd := drop_cons hy
      have HI2 : Hid ((y :: s.arcs.drop (k + 1)).all (arcAlive s) = s.arcs.all (arcAlive s)) := by rw [← hd]; exact HI
      clear hL hd hy HI x0 x1 x2
      cases ha : aliveAt s y.a
      case false =>
        have hf : Hid (shotErr s = 4) := Lib.hid (shotErr_dead (by omega) (HI2.out.symm.trans (all_bad (by simp [arcAlive, ha]))))
        go_wp2_with fail
        refine (aliveClo_any _ _ _ _ s y.a _ _ _ (hS.ext (ext_alloc hb _)) (hB2.alloc _) (hB1.alloc _)).mono ?_
        rw [ha]
        rintro e w1 ⟨rfl, rfl⟩
        go_wp2_with fail
        go_ret
        exact ⟨ret_int hf.out.symm, ext_alloc hb _⟩
      cases hbb : aliveAt s y.b
      case false =>
        have hf : Hid (shotErr s = 4) := Lib.hid (shotErr_dead (by omega) (HI2.out.symm.trans (all_bad (by simp [arcAlive, hbb]))))
        go_wp2_with fail
        refine (aliveClo_any _ _ _ _ s y.a _ _ _ (hS.ext (ext_alloc hb _)) (hB2.alloc _) (hB1.alloc _)).mono ?_
        rw [ha]
        rintro e w1 ⟨rfl, rfl⟩
        go_wp2_with fail
        refine (aliveClo_any _ _ _ _ s y.b _ _ _ (hS.ext (ext_alloc hb _)) (hB2.alloc _) (hB1.alloc _)).mono ?_
        rw [hbb]
        rintro e w1 ⟨rfl, rfl⟩
        go_wp2_with fail
        go_ret
        exact ⟨ret_int hf.out.symm, ext_alloc hb _⟩
      have hnx : Hid ((s.arcs.drop (k + 1)).all (arcAlive s) = s.arcs.all (arcAlive s)) := Lib.hid ((all_next (by simp [arcAlive, ha, hbb])).symm.trans HI2.out)
      clear HI2
      go_wp2_with fail
      refine (aliveClo_any _ _ _ _ s y.a _ _ _ (hS.ext (ext_alloc hb _)) (hB2.alloc _) (hB1.alloc _)).mono ?_
      rw [ha]
      rintro e w1 ⟨rfl, rfl⟩
      go_wp2_with fail
      refine (aliveClo_any _ _ _ _ s y.b _ _ _ (hS.ext (ext_alloc hb _)) (hB2.alloc _) (hB1.alloc _)).mono ?_
      rw [hbb]
      rintro e w1 ⟨rfl, rfl⟩
      go_wp2_with fail
      go_roundw
      case rel => exact ⟨k + 1, by omega, by go_num, hnx, ext_alloc hb _, hB1.alloc _, hB2.alloc _⟩
      case measure => simp [intOf]; omega
    · have hall : s.arcs.all (arcAlive s) = true := by rw [← HI.out, drop_end (by omega)]; rfl
      have HALL := Lib.hid hall
      clear hall HI
      obtain ⟨wo, rfl⟩ : ∃ wo : World, wo = wr := ⟨_, rfl⟩
      go_wp2_with fail
      go_loopw [44] (fun v wr => ∃ k : Nat, k ≤ s.arcs.length ∧ v = .int .i64 k ∧ Hid ((s.arcs.drop k).all costOk = s.arcs.all costOk) ∧ Below w.heap.size w wr)
        (fun v _ => s.arcs.length - (intOf v).toNat)
      case atStart => exact ⟨0, Nat.zero_le _, rfl, Lib.hid rfl, hb⟩
      case round =>
        clear hb hB1 hB2 b1 b2 b3
        obtain ⟨j, hj, rfl, HI, hb⟩ := hrel
        by_cases hlt : j < s.arcs.length
        · obtain ⟨y, hy⟩ := get_lt hlt
          obtain ⟨rfl, hb0, ⟨⟨x0, x1, x2⟩, _⟩⟩ := hL j y hy
          have y0 := x0.now hb
          have y1 := x1.now hb
          have y2 := x2.now hb
          have hd := drop_cons hy
          have HI2 : Hid ((y :: s.arcs.drop (j + 1)).all costOk = s.arcs.all costOk) := by rw [← hd]; exact HI
          clear hL hd hy HI x0 x1 x2
          by_cases hc : 0 ≤ y.cost ∧ y.cost ≤ 1000
          · have hnx : Hid ((s.arcs.drop (j + 1)).all costOk = s.arcs.all costOk) := Lib.hid ((all_next (by simp [costOk, hc])).symm.trans HI2.out)
            obtain ⟨hc0, hc1⟩ := hc
            clear HI2
            go_wp2_with fail
            go_roundw
            case rel => exact ⟨j + 1, by omega, by go_num, hnx, ext_alloc hb _⟩
            case measure => simp [intOf]; omega
          · have hf : Hid (shotErr s = 1) := Lib.hid (shotErr_cost (by omega) HALL.out (HI2.out.symm.trans (all_bad (by simp only [costOk, decide_eq_false_iff_not]; exact hc))))
            go_wp2_with fail
            all_goals go_ret
            all_goals exact ⟨ret_int hf.out.symm, ext_alloc hb _⟩
        · have hf : Hid (shotErr s = 0) := Lib.hid (shotErr_ok (by omega) HALL.out (by rw [← HI.out, drop_end (by omega)]; rfl))
          go_wp2_with fail
          go_ret
          exact ⟨ret_int hf.out.symm, hb⟩

end Go.Proofs.YtdpibehpmghghaaGreat
/- Labels and degrees of a snapshot, step by step, as plain Lean; no program in sight. -/
namespace Go.Proofs.YtdpibehpmghghaaGreat

/-- In the midst of a round of labels: j arcs have been looked at. -/
structure LMid (s : SnapD) (l0 l : List Int) (more : Bool) (j : Nat) : Prop where
  len : l.length = s.alive.length
  le : ∀ i, gi l i ≤ gi (labelD s) i
  above : Above (ArcsP s wZero true) (gi (labelD s)) (gi l)
  tot : total l ≤ total l0
  less : more = true → total l < total l0
  told : more = false → ∀ a, a ∈ s.arcs.take j → gi l a.a.toNat = gi l a.b.toNat
section
variable {s : SnapD} {l0 l : List Int} {more : Bool} {j : Nat}
theorem LMid.pos (h : LMid s l0 l more j) (i : Nat) : 0 ≤ gi l i :=
  above_pos h.above (label_pos s) (fun x hx => by obtain ⟨a, _, rfl | ⟨_, rfl⟩⟩ := hx <;> simp [arcF, arcB, wZero]) i
theorem LMid.start : LMid s (labelD s) (labelD s) false 0 := ⟨by simp [labelD], fun _ => Int.le_refl _, above_init, Nat.le_refl _, fun h => by simp at h, fun _ a ha => by simp at ha⟩
theorem LMid.again (h : LMid s l0 l more j) : LMid s l l false 0 := ⟨h.len, h.le, h.above, Nat.le_refl _, fun h => by simp at h, fun _ a ha => by simp at ha⟩
theorem LMid.same (h : LMid s l0 l more j) {y : ArcD} (hy : s.arcs[j]? = some y) (he : gi l y.a.toNat = gi l y.b.toNat) : LMid s l0 l more (j + 1) :=
  ⟨h.len, h.le, h.above, h.tot, h.less, fun hm a ha => by
    rw [List.take_add_one, hy] at ha
    rcases List.mem_append.1 ha with ha | ha
    · exact h.told hm a ha
    · obtain rfl : a = y := by simpa using ha
      exact he⟩
theorem LMid.change (h : LMid s l0 l more j) (hs : SnapOk s) {y : ArcD} (hy : s.arcs[j]? = some y) (hne : ¬ gi l y.a.toNat = gi l y.b.toNat) {n : Int} (hn : min (gi l y.a.toNat) (gi l y.b.toNat) = n) :
    LMid s l0 ((l.set y.a.toNat n).set y.b.toNat n) true (j + 1) := by
  have hm := List.mem_of_getElem? hy
  have ho := hs.arcs y hm
  have h1 := ho.a1; have h2 := ho.b1
  have hl := h.len
  have hab : ¬ y.b.toNat = y.a.toNat := fun e => hne (by rw [e])
  have e1 : gi (l.set y.a.toNat n) = upd (gi l) y.a.toNat n := gi_set (by omega) n
  have e2 : gi ((l.set y.a.toNat n).set y.b.toNat n) = upd (upd (gi l) y.a.toNat n) y.b.toNat n := by rw [gi_set (by simp; omega), e1]
  have hb : gi (l.set y.a.toNat n) y.b.toNat = gi l y.b.toNat := by rw [e1, upd_ne _ _ hab]
  have hp1 := h.pos y.a.toNat
  have hp2 := h.pos y.b.toNat
  have t1 := total_set (l := l) (i := y.a.toNat) (by omega) n
  have t2 := total_set (l := l.set y.a.toNat n) (i := y.b.toNat) (by simp; omega) n
  rw [hb] at t2
  have hlt : total ((l.set y.a.toNat n).set y.b.toNat n) < total l0 := by have := h.tot; omega
  have k1 : Above (ArcsP s wZero true) (gi (labelD s)) (upd (gi l) y.a.toNat n) := by
    have := h.above.upd h.above (x := arcB wZero y) ⟨y, hm, .inr ⟨rfl, rfl⟩⟩ (mono_add _) (Int.le_refl _)
    simp only [arcB, wZero, Int.add_zero] at this
    rwa [hn] at this
  have k2 : Above (ArcsP s wZero true) (gi (labelD s)) (upd (upd (gi l) y.a.toNat n) y.b.toNat n) := by
    have := k1.upd k1 (x := arcF wZero y) ⟨y, hm, .inl rfl⟩ (mono_add _) (Int.le_refl _)
    simp only [arcF, wZero, Int.add_zero, upd_at] at this
    rw [upd_ne _ _ hab, show min (gi l y.b.toNat) n = n by omega] at this
    exact this
  refine ⟨by simp [hl], fun i => ?_, by rw [e2]; exact k2, by omega, fun _ => hlt, fun e => by simp at e⟩
  rw [e2]
  by_cases hi : i = y.b.toNat
  · rw [hi, upd_at]; have := h.le y.b.toNat; omega
  · rw [upd_ne _ _ hi]
    by_cases hi : i = y.a.toNat
    · rw [hi, upd_at]; have := h.le y.a.toNat; omega
    · rw [upd_ne _ _ hi]; exact h.le i
theorem LMid.fin (h : LMid s l0 l false j) (hj : s.arcs.length ≤ j) : LabelsL s l := by
  refine ⟨h.len, ⟨h.le, fun x hx => ?_⟩, h.above⟩
  obtain ⟨a, ha, he⟩ := hx
  have := h.told rfl a (by rw [List.take_of_length_le hj]; exact ha)
  rcases he with rfl | ⟨_, rfl⟩ <;> simp only [arcF, arcB, wZero] <;> omega
/-- In the midst of the first round: k vertices have been told themselves. -/
def LFirst (s : SnapD) (l : List Int) (k : Nat) : Prop := l.length = s.alive.length ∧ ∀ i, i < k → gi l i = gi (labelD s) i
theorem LFirst.zero : LFirst s (List.replicate s.alive.length 0) 0 := ⟨by simp, fun i h => by omega⟩
theorem LFirst.next {k : Nat} (h : LFirst s l k) (hk : k < s.alive.length) {x : Int} (hx : gi (labelD s) k = x) : LFirst s (l.set k x) (k + 1) := by
  refine ⟨by simp [h.1], fun i hi => ?_⟩
  rw [gi_set (by rw [h.1]; exact hk)]
  by_cases e : i = k
  · rw [e, upd_at, hx]
  · rw [upd_ne _ _ e]; exact h.2 i (by omega)
theorem LFirst.fin {k : Nat} (h : LFirst s l k) (hk : s.alive.length ≤ k) : l = labelD s := gi_eq_of (by simp [h.1, labelD]) fun i hi => h.2 i (by have := h.1; omega)
theorem label_yes {k : Nat} (hk : s.alive[k]? = some true) : gi (labelD s) k = k := by rw [label_val (lt_of_get hk), if_pos hk]
theorem label_no {k : Nat} (hk : s.alive[k]? = some false) : gi (labelD s) k = Far := by rw [label_val (lt_of_get hk), if_neg (by simp [hk])]
/-! ### degrees -/
def DFirst (s : SnapD) (l : List Int) (k : Nat) : Prop := l.length = s.alive.length ∧ (∀ i, i < k → s.alive[i]? = some true → gi l i = 0) ∧ (∀ i, i < k → s.alive[i]? = some false → gi l i = Far) ∧ ∀ i, k ≤ i → gi l i = 0
theorem DFirst.zero : DFirst s (List.replicate s.alive.length 0) 0 :=
  ⟨by simp, fun i h => by omega, fun i h => by omega, fun i _ => by
    by_cases h : i < s.alive.length
    · exact gi_of (by simp [h])
    · exact gi_far (by simp; omega)⟩
theorem DFirst.alive {k : Nat} (h : DFirst s l k) (hk : s.alive[k]? = some true) : DFirst s l (k + 1) :=
  ⟨h.1, fun i hi ha => by
    by_cases e : i = k
    · rw [e]; exact h.2.2.2 k (Nat.le_refl _)
    · exact h.2.1 i (by omega) ha, fun i hi ha => by
    by_cases e : i = k
    · rw [e, hk] at ha; simp at ha
    · exact h.2.2.1 i (by omega) ha, fun i hi => h.2.2.2 i (by omega)⟩
theorem DFirst.dead {k : Nat} (h : DFirst s l k) (hk : s.alive[k]? = some false) : DFirst s (l.set k Far) (k + 1) := by
  have hl := lt_of_get hk
  have e0 : gi (l.set k Far) = upd (gi l) k Far := gi_set (by rw [h.1]; exact hl) Far
  refine ⟨by simp [h.1], fun i hi ha => ?_, fun i hi ha => ?_, fun i hi => ?_⟩
  · rw [e0]
    by_cases e : i = k
    · rw [e, hk] at ha; simp at ha
    · rw [upd_ne _ _ e]; exact h.2.1 i (by omega) ha
  · rw [e0]
    by_cases e : i = k
    · rw [e, upd_at]
    · rw [upd_ne _ _ e]; exact h.2.2.1 i (by omega) ha
  · rw [e0, upd_ne _ _ (by omega)]; exact h.2.2.2 i (by omega)
/-- j arcs have been counted. -/
structure DMid (s : SnapD) (l : List Int) (j : Nat) : Prop where
  len : l.length = s.alive.length
  low : ∀ i, 0 ≤ gi l i
  al : ∀ i, s.alive[i]? = some true → gi l i + outOf i (s.arcs.drop j) = outOf i s.arcs
  dead : ∀ i, s.alive[i]? = some false → gi l i = Far
theorem DFirst.fin {k : Nat} (h : DFirst s l k) (hk : s.alive.length ≤ k) : DMid s l 0 := by
  refine ⟨h.1, fun i => ?_, fun i ha => ?_, fun i ha => ?_⟩
  · cases ha : s.alive[i]? with
    | none =>
      rw [gi_far (by rw [h.1]; exact List.getElem?_eq_none_iff.1 ha)]; exact Int.le_refl _
    | some b =>
      have := lt_of_get ha
      cases b with
      | true => rw [h.2.1 i (by omega) ha]; exact Int.le_refl _
      | false => rw [h.2.2.1 i (by omega) ha]; simp [Far]
  · have := lt_of_get ha
    rw [h.2.1 i (by omega) ha, List.drop_zero, Int.zero_add]
  · have := lt_of_get ha
    exact h.2.2.1 i (by omega) ha
theorem DMid.step (h : DMid s l j) (hs : SnapOk s) {y : ArcD} (hy : s.arcs[j]? = some y) : DMid s (l.set y.a.toNat (gi l y.a.toNat + 1)) (j + 1) := by
  have ho := hs.arcs y (List.mem_of_getElem? hy)
  have h1 := ho.a1
  have e0 : gi (l.set y.a.toNat (gi l y.a.toNat + 1)) = upd (gi l) y.a.toNat (gi l y.a.toNat + 1) := gi_set (by rw [h.len]; exact h1) _
  refine ⟨by simp [h.len], fun i => ?_, fun i ha => ?_, fun i ha => ?_⟩
  · rw [e0]
    have := h.low y.a.toNat
    by_cases e : i = y.a.toNat
    · rw [e, upd_at]; omega
    · rw [upd_ne _ _ e]; exact h.low i
  · have h2 := h.al i ha
    rw [drop_cons hy] at h2
    rw [e0]
    by_cases e : i = y.a.toNat
    · rw [e, upd_at]
      rw [e] at h2
      simp only [outOf, if_true] at h2
      omega
    · rw [upd_ne _ _ e]
      simp only [outOf, if_neg (fun k => e k.symm : ¬ y.a.toNat = i)] at h2
      exact h2
  · rw [e0]
    have h3 := ho.al
    by_cases e : i = y.a.toNat
    · rw [e, h3] at ha; simp at ha
    · rw [upd_ne _ _ e]; exact h.dead i ha
theorem DMid.top (h : DMid s l j) {i : Nat} (ha : s.alive[i]? = some true) (hn : s.arcs.length ≤ 30) : gi l i ≤ 30 := by
  have h1 := h.al i ha
  have h2 := outOf_bound i s.arcs
  have h3 := outOf_bound i (s.arcs.drop j)
  omega
theorem DMid.fin (h : DMid s l j) (hj : s.arcs.length ≤ j) : l = degreesD s :=
  gi_eq_of (by simp [h.len, degreesD]) fun i hi => by
    have hi' : i < s.alive.length := by rw [← h.len]; exact hi
    rw [degree_val hi']
    cases ha : s.alive[i]? with
    | none => exact absurd (List.getElem?_eq_none_iff.1 ha) (by omega)
    | some b =>
      cases b with
      | true =>
        have := h.al i ha
        rw [List.drop_eq_nil_of_le hj] at this
        simp only [outOf, Int.add_zero] at this
        rw [if_pos rfl, this]
      | false => rw [if_neg (by simp), h.dead i ha]
theorem DMid.alive_top (h : DMid s l j) (i : Nat) (hn : s.arcs.length ≤ 30) : gi l i ≤ Far := by
  cases ha : s.alive[i]? with
  | none => rw [gi_far (by rw [h.len]; exact List.getElem?_eq_none_iff.1 ha)]; simp [Far]
  | some b =>
    cases b with
    | true => have := h.top ha hn; simp only [Far]; omega
    | false => rw [h.dead i ha]; exact Int.le_refl _
def degF (s : SnapD) (k : Nat) : Int := if s.alive[k]? = some true then outOf k s.arcs else Far
theorem degreesD_is (s : SnapD) : degreesD s = (List.range s.alive.length).map (degF s) := rfl
theorem outOf_hit {y : ArcD} {l : List ArcD} {k : Nat} (h0 : 0 ≤ y.a) (h : y.a = (k : Int)) : outOf k (y :: l) = outOf k l + 1 := by
  simp only [outOf]; rw [if_pos (by omega)]
theorem outOf_miss {y : ArcD} {l : List ArcD} {k : Nat} (h0 : 0 ≤ y.a) (h : ¬ y.a = (k : Int)) : outOf k (y :: l) = outOf k l := by
  simp only [outOf]; rw [if_neg (by omega)]
end
end Go.Proofs.YtdpibehpmghghaaGreat
