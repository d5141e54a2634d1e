/- The walks of the checks of a snapshot, the program's and the document's. -/
import Derived.Test.YtcgnalpcbcpmkaaSmall
import Derived.Test.YtcgnalpcbcpmkaaPlainSpec
namespace Go.Proofs.Ytcgnalpcbcpmkaa
open Go.RowKit

abbrev arcV (x : ArcD) : Value := .agg #[.int .i64 x.a, .int .i64 x.b, .int .i64 x.cost]
abbrev snapC (A : Option Addr) (c : Nat) (A' : Option Addr) (c' : Nat) (s : SnapD) : Array Value := #[.slice A s.alive.length c, .slice A' s.arcs.length c']
theorem aliveAt_neg {s : SnapD} {v : Int} (h : ¬ 0 ≤ v) : aliveAt s v = false := by simp [aliveAt]; omega
theorem aliveAt_far {s : SnapD} {v : Int} (h : (s.alive.length : Int) ≤ v) : aliveAt s v = false := by
  simp only [aliveAt, Bool.and_eq_false_iff]
  right
  rw [List.getElem?_eq_none (by omega)]; rfl
theorem aliveAt_in {s : SnapD} {v : Int} {b : Bool} (h : 0 ≤ v) (h2 : s.alive[v.toNat]? = some b) : aliveAt s v = b := by simp [aliveAt, h, h2]

set_option maxHeartbeats 1000000 in
theorem aliveClo_any (A A' : Option Addr) (c c' : Nat) (s : SnapD) (v : Int) (bn bs : Nat) (w : World) (hS : SnapAt w A c A' c' s) (hn : Blk w bn 3 #[.int .i64 s.alive.length]) (hs : Blk w bs 51 (snapC A c A' c' s)) :
    Calls Try.prog 96 #[.int .i64 v, .pointer (some ⟨bn, 0, none⟩), .pointer (some ⟨bs, 0, none⟩)] w fun e w' => e = .returned (.bool (aliveAt s v)) ∧ w = w' := by
  have m1 : s.alive.length ≤ 9223372036854775807 := Nat.le_trans hS.lc hS.cm
  obtain ⟨n1, n2, n3⟩ := hn.facts
  obtain ⟨q1, q2, q3⟩ := hs.facts
  have n10 := n1 0
  have q10 := q1 0
  simp at n10 q10
  obtain ⟨b, off, hL⟩ := hS.alive
  by_cases h0 : 0 ≤ v
  case neg =>
    have HA := Lib.hid (aliveAt_neg (s := s) h0)
    have hd : decide (0 ≤ v) = false := by simpa using h0
    go_enter Try.func96, Try.ntmps96
    go_wp2_with fail
    go_ret
    exact ⟨ret_bool HA.out.symm, rfl⟩
  by_cases h1 : (v : Int) < s.alive.length
  case neg =>
    have HA := Lib.hid (aliveAt_far (s := s) (v := v) (by omega))
    have hd : decide (v < (s.alive.length : Int)) = false := by simpa using h1
    go_enter Try.func96, Try.ntmps96
    go_wp2_with fail
    go_ret
    exact ⟨ret_bool HA.out.symm, rfl⟩
  obtain ⟨y, hy⟩ := get_lt (show v.toNat < s.alive.length by omega)
  have HA := Lib.hid (aliveAt_in h0 hy)
  obtain ⟨rfl, hb0, x0⟩ := hL _ y hy
  unfold RBool cellIs at x0
  simp only [Nat.mul_one] at x0
  clear hL hy
  go_enter Try.func96, Try.ntmps96
  go_wp2_with fail
  go_ret
  exact ⟨ret_bool HA.out.symm, rfl⟩
theorem aliveAt_known {s : SnapD} {v : Int} (h : aliveAt s v = true) : 0 ≤ v ∧ v.toNat < s.alive.length ∧ s.alive[v.toNat]? = some true := by
  simp only [aliveAt, Bool.and_eq_true, decide_eq_true_eq, beq_iff_eq] at h
  exact ⟨h.1, lt_of_get h.2, h.2⟩
set_option maxRecDepth 100000 in
set_option maxHeartbeats 4000000 in
theorem shotCheck_any (A A' : Option Addr) (c c' : Nat) (s : SnapD) (w : World) (hS : SnapAt w A c A' c' s) :
    Calls Try.prog 43 #[snapV A c A' c' s] w fun e w' => e = .returned (.int .i64 (shotErr s)) ∧ Below w.heap.size w w' := by
  have m1 : s.alive.length ≤ 9223372036854775807 := Nat.le_trans hS.lc hS.cm
  have m2 : s.arcs.length ≤ 9223372036854775807 := Nat.le_trans hS.lc' hS.cm'
  have hmf : ∀ (fn : Fn) (first cap : Array Value) (w : World), (Instr.makeFunc fn first cap).run Try.prog w = .ok (.func fn first cap) w := fun _ _ _ _ => rfl
  by_cases h1 : 12 < s.alive.length
  · go_enter Try.func43, Try.ntmps43
    go_wp2_with fail
    go_ret
    exact ⟨ret_int (shotErr_large (.inl h1)).symm, by go_grown⟩
  by_cases h2 : 30 < s.arcs.length
  · go_enter Try.func43, Try.ntmps43
    go_wp2_with fail
    go_ret
    exact ⟨ret_int (shotErr_large (.inr h2)).symm, by go_grown⟩
  obtain ⟨b, off, hL⟩ := hS.arcs
  go_enter Try.func43, Try.ntmps43
  go_wp2_with fail
  go_loopw [24] (fun v wr => ∃ k : Nat, k ≤ s.arcs.length ∧ v = .int .i64 k ∧ Hid ((s.arcs.drop k).all (arcAlive s) = s.arcs.all (arcAlive s)) ∧ Below w.heap.size w wr ∧ Blk wr w.heap.size 51 (snapC A c A' c' s) ∧ Blk wr (w.heap.size + 1) 3 #[.int .i64 s.alive.length])
    (fun v _ => s.arcs.length - (intOf v).toNat)
  case atStart => exact ⟨0, Nat.zero_le _, rfl, Lib.hid rfl, by go_grown, (Blk.new _ _ _).alloc _, Blk.new_ (by simp)⟩
  case round =>
    obtain ⟨k, hk, rfl, HI, hb, hB1, hB2⟩ := hrel
    obtain ⟨b1, b2, b3⟩ := hB1.facts
    by_cases hlt : k < s.arcs.length
    · obtain ⟨y, hy⟩ := get_lt hlt
      obtain ⟨rfl, hb0, ⟨⟨x0, x1, x2⟩, _⟩⟩ := hL k y hy
      have y0 := x0.now hb
      have y1 := x1.now hb
      have y2 := x2.now hb
      have hd := drop_cons hy
      have HI2 : Hid ((y :: s.arcs.drop (k + 1)).all (arcAlive s) = s.arcs.all (arcAlive s)) := by rw [← hd]; exact HI
      clear hL hd hy HI x0 x1 x2
      cases ha : aliveAt s y.a
      case false =>
        have hf : Hid (shotErr s = 4) := Lib.hid (shotErr_dead (by omega) (HI2.out.symm.trans (all_bad (by simp [arcAlive, ha]))))
        go_wp2_with fail
        refine (aliveClo_any _ _ _ _ s y.a _ _ _ (hS.ext (ext_alloc hb _)) (hB2.alloc _) (hB1.alloc _)).mono ?_
        rw [ha]
        rintro e w1 ⟨rfl, rfl⟩
        go_wp2_with fail
        go_ret
        exact ⟨ret_int hf.out.symm, ext_alloc hb _⟩
      cases hbb : aliveAt s y.b
      case false =>
        have hf : Hid (shotErr s = 4) := Lib.hid (shotErr_dead (by omega) (HI2.out.symm.trans (all_bad (by simp [arcAlive, hbb]))))
        go_wp2_with fail
        refine (aliveClo_any _ _ _ _ s y.a _ _ _ (hS.ext (ext_alloc hb _)) (hB2.alloc _) (hB1.alloc _)).mono ?_
        rw [ha]
        rintro e w1 ⟨rfl, rfl⟩
        go_wp2_with fail
        refine (aliveClo_any _ _ _ _ s y.b _ _ _ (hS.ext (ext_alloc hb _)) (hB2.alloc _) (hB1.alloc _)).mono ?_
        rw [hbb]
        rintro e w1 ⟨rfl, rfl⟩
        go_wp2_with fail
        go_ret
        exact ⟨ret_int hf.out.symm, ext_alloc hb _⟩
      have hnx : Hid ((s.arcs.drop (k + 1)).all (arcAlive s) = s.arcs.all (arcAlive s)) := Lib.hid ((all_next (by simp [arcAlive, ha, hbb])).symm.trans HI2.out)
      clear HI2
      go_wp2_with fail
      refine (aliveClo_any _ _ _ _ s y.a _ _ _ (hS.ext (ext_alloc hb _)) (hB2.alloc _) (hB1.alloc _)).mono ?_
      rw [ha]
      rintro e w1 ⟨rfl, rfl⟩
      go_wp2_with fail
      refine (aliveClo_any _ _ _ _ s y.b _ _ _ (hS.ext (ext_alloc hb _)) (hB2.alloc _) (hB1.alloc _)).mono ?_
      rw [hbb]
      rintro e w1 ⟨rfl, rfl⟩
      go_wp2_with fail
      go_roundw
      case rel => exact ⟨k + 1, by omega, by go_num, hnx, ext_alloc hb _, hB1.alloc _, hB2.alloc _⟩
      case measure => simp [intOf]; omega
    · have hall : s.arcs.all (arcAlive s) = true := by rw [← HI.out, drop_end (by omega)]; rfl
      have HALL := Lib.hid hall
      clear hall HI
      obtain ⟨wo, rfl⟩ : ∃ wo : World, wo = wr := ⟨_, rfl⟩
      go_wp2_with fail
      go_loopw [44] (fun v wr => ∃ k : Nat, k ≤ s.arcs.length ∧ v = .int .i64 k ∧ Hid ((s.arcs.drop k).all costOk = s.arcs.all costOk) ∧ Below w.heap.size w wr)
        (fun v _ => s.arcs.length - (intOf v).toNat)
      case atStart => exact ⟨0, Nat.zero_le _, rfl, Lib.hid rfl, hb⟩
      case round =>
        clear hb hB1 hB2 b1 b2 b3
        obtain ⟨j, hj, rfl, HI, hb⟩ := hrel
        by_cases hlt : j < s.arcs.length
        · obtain ⟨y, hy⟩ := get_lt hlt
          obtain ⟨rfl, hb0, ⟨⟨x0, x1, x2⟩, _⟩⟩ := hL j y hy
          have y0 := x0.now hb
          have y1 := x1.now hb
          have y2 := x2.now hb
          have hd := drop_cons hy
          have HI2 : Hid ((y :: s.arcs.drop (j + 1)).all costOk = s.arcs.all costOk) := by rw [← hd]; exact HI
          clear hL hd hy HI x0 x1 x2
          by_cases hc : 0 ≤ y.cost ∧ y.cost ≤ 1000
          · have hnx : Hid ((s.arcs.drop (j + 1)).all costOk = s.arcs.all costOk) := Lib.hid ((all_next (by simp [costOk, hc])).symm.trans HI2.out)
            obtain ⟨hc0, hc1⟩ := hc
            clear HI2
            go_wp2_with fail
            go_roundw
            case rel => exact ⟨j + 1, by omega, by go_num, hnx, ext_alloc hb _⟩
            case measure => simp [intOf]; omega
          · have hf : Hid (shotErr s = 1) := Lib.hid (shotErr_cost (by omega) HALL.out (HI2.out.symm.trans (all_bad (by simp only [costOk, decide_eq_false_iff_not]; exact hc))))
            go_wp2_with fail
            all_goals go_ret
            all_goals exact ⟨ret_int hf.out.symm, ext_alloc hb _⟩
        · have hf : Hid (shotErr s = 0) := Lib.hid (shotErr_ok (by omega) HALL.out (by rw [← HI.out, drop_end (by omega)]; rfl))
          go_wp2_with fail
          go_ret
          exact ⟨ret_int hf.out.symm, hb⟩

set_option maxRecDepth 100000 in
set_option maxHeartbeats 4000000 in
theorem shot_any (A A' : Option Addr) (c c' : Nat) (s : SnapD) (w : World) (hS : SnapAt w A c A' c' s) :
    Calls Try.prog 42 #[snapV A c A' c' s] w fun e w' => e = .returned (.int .i64 (shotErr s)) ∧ Below w.heap.size w w' := by
  have m1 : s.alive.length ≤ 9223372036854775807 := Nat.le_trans hS.lc hS.cm
  have m2 : s.arcs.length ≤ 9223372036854775807 := Nat.le_trans hS.lc' hS.cm'
  by_cases h1 : 12 < s.alive.length
  · go_enter Try.func42, Try.ntmps42
    go_wp2_with fail
    go_ret
    exact ⟨ret_int (shotErr_large (.inl h1)).symm, by go_grown⟩
  by_cases h2 : 30 < s.arcs.length
  · go_enter Try.func42, Try.ntmps42
    go_wp2_with fail
    go_ret
    exact ⟨ret_int (shotErr_large (.inr h2)).symm, by go_grown⟩
  obtain ⟨b, off, hL⟩ := hS.arcs
  go_enter Try.func42, Try.ntmps42
  go_wp2_with fail
  go_loopw [4] (fun v wr => ∃ k : Nat, k ≤ s.arcs.length ∧ v = .int .i64 k ∧ Hid ((s.arcs.drop k).all (arcAlive s) = s.arcs.all (arcAlive s)) ∧ Below w.heap.size w wr ∧ Blk wr w.heap.size 51 (snapC A c A' c' s))
    (fun v _ => s.arcs.length - (intOf v).toNat)
  case atStart => exact ⟨0, Nat.zero_le _, rfl, Lib.hid rfl, by go_grown, Blk.new _ _ _⟩
  case round =>
    obtain ⟨k, hk, rfl, HI, hb, hB1⟩ := hrel
    obtain ⟨b1, b2, b3⟩ := hB1.facts
    by_cases hlt : k < s.arcs.length
    · obtain ⟨y, hy⟩ := get_lt hlt
      obtain ⟨rfl, hb0, ⟨⟨x0, x1, x2⟩, _⟩⟩ := hL k y hy
      have y0 := x0.now hb
      have y1 := x1.now hb
      have y2 := x2.now hb
      have hd := drop_cons hy
      have HI2 : Hid ((y :: s.arcs.drop (k + 1)).all (arcAlive s) = s.arcs.all (arcAlive s)) := by rw [← hd]; exact HI
      have hno : arcAlive s y = false → Hid (shotErr s = 4) := fun h => Lib.hid (shotErr_dead (by omega) (HI2.out.symm.trans (all_bad h)))
      have HNO := Lib.hid hno
      clear hL hd hy HI x0 x1 x2 hno
      cases ha : inB y.a 0 ((s.alive.length : Int) - 1)
      case false =>
        have hf := (HNO.out (by
          have h := inB_iff'.1 ha
          have : aliveAt s y.a = false := by
            by_cases h0 : 0 ≤ y.a
            · exact aliveAt_far (by omega)
            · exact aliveAt_neg h0
          simp [arcAlive, this]))
        go_wp2_with (go_at_call 46; refine (in_any _ _ _ _).mono ?_; rintro e w' ⟨rfl, rfl⟩)
        go_ret
        exact ⟨ret_int hf.out.symm, ext_alloc hb _⟩
      cases hbb : inB y.b 0 ((s.alive.length : Int) - 1)
      case false =>
        have hf := (HNO.out (by
          have h := inB_iff'.1 hbb
          have : aliveAt s y.b = false := by
            by_cases h0 : 0 ≤ y.b
            · exact aliveAt_far (by omega)
            · exact aliveAt_neg h0
          simp [arcAlive, this]))
        go_wp2_with (go_at_call 46; refine (in_any _ _ _ _).mono ?_; rintro e w' ⟨rfl, rfl⟩)
        go_ret
        exact ⟨ret_int hf.out.symm, ext_alloc hb _⟩
      have ha' := inB_iff.1 ha
      have hb' := inB_iff.1 hbb
      obtain ⟨a0, a1⟩ := ha'
      obtain ⟨e0, e1⟩ := hb'
      obtain ⟨ba, oa, hAl⟩ := hS.alive
      obtain ⟨p, hp⟩ := get_lt (show y.a.toNat < s.alive.length by omega)
      obtain ⟨q, hq⟩ := get_lt (show y.b.toNat < s.alive.length by omega)
      obtain ⟨rfl, hba, p0⟩ := hAl _ p hp
      obtain ⟨_, hbq, q0⟩ := hAl _ q hq
      unfold RBool at p0 q0
      have p1 := p0.now hb
      have q1 := q0.now hb
      simp only [Nat.mul_one] at p1 q1
      have hbz : ba < wr.heap.size := Nat.lt_of_lt_of_le hba hb.size
      have HPA := Lib.hid (aliveAt_in a0 hp)
      have HPB := Lib.hid (aliveAt_in e0 hq)
      clear hAl hp hq p0 q0
      have a2 : y.a < s.alive.length := by omega
      have e2 : y.b < s.alive.length := by omega
      cases p
      case false =>
        have hf := (HNO.out (by simp [arcAlive, HPA.out]))
        go_wp2_with (go_at_call 46; refine (in_any _ _ _ _).mono ?_; rintro e w' ⟨rfl, rfl⟩)
        go_ret
        exact ⟨ret_int hf.out.symm, ext_alloc hb _⟩
      cases q
      case false =>
        have hf := (HNO.out (by simp [arcAlive, HPB.out]))
        go_wp2_with (go_at_call 46; refine (in_any _ _ _ _).mono ?_; rintro e w' ⟨rfl, rfl⟩)
        go_ret
        exact ⟨ret_int hf.out.symm, ext_alloc hb _⟩
      have hnx : Hid ((s.arcs.drop (k + 1)).all (arcAlive s) = s.arcs.all (arcAlive s)) := Lib.hid ((all_next (by simp [arcAlive, HPA.out, HPB.out])).symm.trans HI2.out)
      clear HI2
      go_wp2_with (go_at_call 46; refine (in_any _ _ _ _).mono ?_; rintro e w' ⟨rfl, rfl⟩)
      go_roundw
      case rel => exact ⟨k + 1, by omega, by go_num, hnx, ext_alloc hb _, hB1.alloc _⟩
      case measure => simp [intOf]; omega
    · have hall : s.arcs.all (arcAlive s) = true := by rw [← HI.out, drop_end (by omega)]; rfl
      have HALL := Lib.hid hall
      clear hall HI
      obtain ⟨wo, rfl⟩ : ∃ wo : World, wo = wr := ⟨_, rfl⟩
      go_wp2_with fail
      go_loopw [6] (fun v wr => ∃ k : Nat, k ≤ s.arcs.length ∧ v = .int .i64 k ∧ Hid ((s.arcs.drop k).all costOk = s.arcs.all costOk) ∧ wr = wo)
        (fun v _ => s.arcs.length - (intOf v).toNat)
      case atStart => exact ⟨0, Nat.zero_le _, rfl, Lib.hid rfl, rfl⟩
      case round =>
        obtain ⟨j, hj, rfl, HI, rfl⟩ := hrel
        by_cases hlt : j < s.arcs.length
        · obtain ⟨y, hy⟩ := get_lt hlt
          obtain ⟨rfl, hb0, ⟨⟨x0, x1, x2⟩, _⟩⟩ := hL j y hy
          have y2 := x2.now hb
          have hd := drop_cons hy
          have HI2 : Hid ((y :: s.arcs.drop (j + 1)).all costOk = s.arcs.all costOk) := by rw [← hd]; exact HI
          clear hL hd hy HI x0 x1 x2
          cases hc : inB y.cost 0 1000
          case true =>
            have hnx : Hid ((s.arcs.drop (j + 1)).all costOk = s.arcs.all costOk) := Lib.hid ((all_next (by simp only [costOk, decide_eq_true_eq]; exact inB_iff.1 hc)).symm.trans HI2.out)
            clear HI2
            go_wp2_with (go_at_call 46; refine (in_any _ _ _ _).mono ?_; rintro e w' ⟨rfl, rfl⟩)
            go_roundw
            case rel => exact ⟨j + 1, by omega, by go_num, hnx, trivial⟩
            case measure => simp [intOf]; omega
          case false =>
            have hf : Hid (shotErr s = 1) := Lib.hid (shotErr_cost (by omega) HALL.out (HI2.out.symm.trans (all_bad (by simp only [costOk, decide_eq_false_iff_not]; exact inB_iff'.1 hc))))
            go_wp2_with (go_at_call 46; refine (in_any _ _ _ _).mono ?_; rintro e w' ⟨rfl, rfl⟩)
            go_ret
            exact ⟨ret_int hf.out.symm, hb⟩
        · have hf : Hid (shotErr s = 0) := Lib.hid (shotErr_ok (by omega) HALL.out (by rw [← HI.out, drop_end (by omega)]; rfl))
          go_wp2_with fail
          go_ret
          exact ⟨ret_int hf.out.symm, hb⟩
end Go.Proofs.Ytcgnalpcbcpmkaa
