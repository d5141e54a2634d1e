/- Several texts in one: Walk, WalkP, TopWalk, FastSpec, BestSpec. -/
import Derived.Test.YtcgnalpcbcpmkaaBd3d7c8cd354
import Derived.Test.YtcgnalpcbcpmkaaBdcfcb0331ab
import Derived.Test.YtcgnalpcbcpmkaaBded4119261a
/- The walks of slices.Index and slices.Contains at hops, of timekeep.goes and of timekeep.walk: which hops a walk takes. -/
namespace Go.Proofs.Ytcgnalpcbcpmkaa
open Go.RowKit

/-- The slice from number k on. -/
theorem SlAt.drop {α : Type} {R : World → Nat → Nat → α → Prop} {sz : Nat} {w : World} {A : Option Addr} {l : List α} (h : SlAt R sz w A l) (k c : Nat) (hc : l.length ≤ c) :
    SlAt R sz w (if c = k then A else A.map (·.add (k * sz))) (l.drop k) := by
  obtain ⟨b, off, h⟩ := h
  refine ⟨b, off + k * sz, fun i x hx => ?_⟩
  rw [List.getElem?_drop] at hx
  obtain ⟨h1, h2, h3⟩ := h (k + i) x hx
  have := lt_of_get hx
  rw [if_neg (by omega)]
  refine ⟨by rw [h1]; simp [Addr.add], h2, ?_⟩
  have e : off + k * sz + i * sz = off + (k + i) * sz := by rw [Nat.add_mul]; omega
  rw [e]
  exact h3

def idxOf {α : Type} [DecidableEq α] (y : α) : Nat → List α → Int
  | _, [] => -1
  | k, x :: l => if y = x then k else idxOf y (k + 1) l
theorem idxOf_hit {α : Type} [DecidableEq α] {y x : α} {k : Nat} {l : List α} (h : y = x) : idxOf y k (x :: l) = k := by rw [idxOf, if_pos h]
theorem idxOf_miss {α : Type} [DecidableEq α] {y x : α} {k : Nat} {l : List α} (h : ¬ y = x) : idxOf y k (x :: l) = idxOf y (k + 1) l := by rw [idxOf, if_neg h]
theorem idxOf_mem {α : Type} [DecidableEq α] {y : α} : ∀ (l : List α) (k : Nat), (0 ≤ idxOf y k l ↔ y ∈ l) ∧ -1 ≤ idxOf y k l ∧ idxOf y k l < k + l.length
  | [], k => by simp [idxOf]; omega
  | x :: l, k => by
    have ih := idxOf_mem (y := y) l (k + 1)
    by_cases h : y = x
    · rw [idxOf_hit h, h]; simp; omega
    · rw [idxOf_miss h, List.mem_cons]
      refine ⟨by rw [ih.1]; simp [h], ih.2.1, ?_⟩
      have := ih.2.2
      simp at this ⊢
      omega

set_option maxHeartbeats 1000000 in
theorem indexHops_any (A : Option Addr) (c : Nat) (l : List HopD) (y : HopD) (w : World) (hA : SlAt RHop 2 w A l) (hl : l.length ≤ maxLen) :
    Calls Try.prog 104 #[.slice A l.length c, hopV y] w fun e w' => e = .returned (.int .i64 (idxOf y 0 l)) ∧ Below w.heap.size w w' := by
  unfold maxLen at hl
  obtain ⟨ba, oa, hA⟩ := hA
  go_enter Try.func104, Try.ntmps104
  go_wp2_with fail
  go_loopw [8] (fun v wr => ∃ k : Nat, k ≤ l.length ∧ v = .int .i64 k ∧ Hid (idxOf y k (l.drop k) = idxOf y 0 l) ∧ Below (w.heap.size + 1) (w.alloc (.cells #[.int .i64 y.edge, .int .i64 y.depart] 46)) wr) (fun v _ => l.length - (intOf v).toNat)
  case atStart => exact ⟨0, Nat.zero_le _, rfl, Lib.hid rfl, by go_grown⟩
  case round =>
    obtain ⟨k, hk, rfl, HI, hb⟩ := hrel
    have hw : Below w.heap.size w wr := (Below.refl _ _).alloc (Nat.le_refl _) _ |>.trans (hb.mono (by omega))
    have B0 := (Blk.new w 46 #[.int .i64 y.edge, .int .i64 y.depart]).below hb (by omega)
    obtain ⟨b1, b2, b3⟩ := B0.facts
    by_cases hlt : k < l.length
    · obtain ⟨x, hx⟩ := get_lt hlt
      obtain ⟨rfl, hba, ⟨x0, x1⟩, _⟩ := hA k x hx
      have x0' := x0.now hw
      have x1' := x1.now hw
      have HX := Lib.hid (drop_cons hx)
      clear hA hx x0 x1
      by_cases hxy : y = x
      · have HXY := Lib.hid hxy
        have hn : decide (y = x) = true := by simp [hxy]
        have hs := same_hop y x
        rw [hn] at hs
        have hgd := guard_hop
        clear hxy
        go_wp2_with fail
        go_quiet (fail)
        go_wp2
        go_ret
        exact ⟨ret_int (by rw [← HI.out, HX.out, idxOf_hit HXY.out]), below_drewN hw _⟩
      · have HXY := Lib.hid hxy
        have hn : decide (y = x) = false := by simp [hxy]
        have hs := same_hop y x
        rw [hn] at hs
        have hgd := guard_hop
        clear hxy
        go_wp2_with fail
        go_quiet (fail)
        go_wp2
        go_roundw
        case rel => exact ⟨k + 1, by omega, by go_num, Lib.hid (by rw [← HI.out, HX.out, idxOf_miss HXY.out]), below_drewN hb _⟩
        case measure => simp [intOf]; omega
    · go_wp2_with fail
      go_ret
      exact ⟨ret_int (by rw [← HI.out, drop_end (by omega)]; rfl), hw⟩

theorem containsHops_any (A : Option Addr) (c : Nat) (l : List HopD) (y : HopD) (w : World) (hA : SlAt RHop 2 w A l) (hl : l.length ≤ maxLen) :
    Calls Try.prog 58 #[.slice A l.length c, hopV y] w fun e w' => e = .returned (.bool (decide (y ∈ l))) ∧ Below w.heap.size w w' := by
  have hm := idxOf_mem (y := y) l 0
  by_cases hin : y ∈ l
  · have h1 := hm.1.2 hin
    have e : decide (y ∈ l) = true := by simp [hin]
    rw [e]
    have HL := Lib.hid hl
    clear hm hin e
    go_enter Try.func58, Try.ntmps58
    go_wp2_with fail
    refine (indexHops_any _ _ l y _ (hA.ext RHop.stable (by go_grown)) HL.out).mono ?_
    rintro e w1 ⟨rfl, hb1⟩
    have hb2 : Below w.heap.size w w1 := ext_trans (by go_grown) hb1
    go_wp2_with fail
    go_ret
    exact ⟨rfl, hb2⟩
  · have h1 : ¬ 0 ≤ idxOf y 0 l := fun h => hin (hm.1.1 h)
    have e : decide (y ∈ l) = false := by simp [hin]
    rw [e]
    have HL := Lib.hid hl
    clear hm hin e
    go_enter Try.func58, Try.ntmps58
    go_wp2_with fail
    refine (indexHops_any _ _ l y _ (hA.ext RHop.stable (by go_grown)) HL.out).mono ?_
    rintro e w1 ⟨rfl, hb1⟩
    have hb2 : Below w.heap.size w w1 := ext_trans (by go_grown) hb1
    go_wp2_with fail
    go_ret
    exact ⟨ret_bool (by simp; omega), hb2⟩

theorem pair_goes : goR pairG 0 0 [⟨0, 3⟩] = (1, 6, 7, 0) := by decide
theorem pair_not : goR pairG 0 0 [⟨0, 4⟩] = (0, 0, 0, 5) := by decide
set_option maxHeartbeats 1000000 in
theorem goes_any (w : World) : Calls Try.prog 52 #[] w fun e w' => e = .returned (.bool true) ∧ Below w.heap.size w w' := by
  go_enter Try.func52, Try.ntmps52
  go_wp2_with fail
  refine (pair_any _).mono ?_
  rintro e w1 ⟨A, c, A', c', rfl, hG, hb1⟩
  go_wp2_with fail
  refine (go_tuple _ _ _ _ _ _ pairG 0 0 [⟨0, 3⟩] _ (hG.ext (by go_grown)) (slAt1 (by simp) (by simp [RHop, cellIs, I64, go_sem])) (by simp [maxLen]) pair_goes).mono ?_
  rintro e w2 ⟨rfl, hb2⟩
  have hb3 : Below w.heap.size w w2 := ext_trans (ext_alloc hb1 _) hb2
  clear hb1 hb2 hG
  go_wp2_with fail
  refine (pair_any _).mono ?_
  rintro e w3 ⟨A, c, A', c', rfl, hG, hb4⟩
  have hb5 := ext_trans hb3 hb4
  go_wp2_with fail
  refine (go_tuple _ _ _ _ _ _ pairG 0 0 [⟨0, 4⟩] _ (hG.ext (by go_grown)) (slAt1 (by simp) (by simp [RHop, cellIs, I64, go_sem])) (by simp [maxLen]) pair_not).mono ?_
  rintro e w4 ⟨rfl, hb6⟩
  go_wp2_with fail
  go_ret
  exact ⟨rfl, ext_trans (ext_alloc hb5 _) hb6⟩
end Go.Proofs.Ytcgnalpcbcpmkaa
/- The walk of timekeep.walk: it tells what walkL tells of the first twenty numbers. -/
namespace Go.Proofs.Ytcgnalpcbcpmkaa
open Go.RowKit

theorem results_tmp3 {fn : Func} {t u v : Tmp} (h : fn.results = #[.tmp t, .tmp u, .tmp v]) (tmps : Array Value) (P : Program) (w : World) :
    (results fn tmps).run P w = .ok (.tuple #[tmps.getD t undef, tmps.getD u undef, tmps.getD v undef]) w := by simp [results, h]
def WalkOut (p : List HopD × Int × Int) (w : World) (e : Ending) (w' : World) : Prop :=
  ∃ A c, e = .returned (.tuple #[.slice A p.1.length c, .int .i64 p.2.1, .int .i64 p.2.2]) ∧ SlAt RHop 2 w' A p.1 ∧ p.1.length ≤ c ∧ c ≤ maxLen ∧ Below w.heap.size w w'
theorem Own.caps {α : Type} {enc : α → List Value} {sz : Nat} {w : World} {base : Nat} {e : TypeId} {A : Option Addr} {n c : Nat} {l : List α} (h : Own enc sz w base e (.slice A n c) l) : l.length ≤ c ∧ c ≤ maxLen := by
  rcases h.2 with ⟨h1, h0⟩ | ⟨g, cap, cur, hv, _, _, h1, h2, _⟩
  · cases h1; rw [h0]; simp
  · cases hv; exact ⟨h1, h2⟩
theorem own_walk {w : World} {base : Nat} {o : Value} {l : List HopD} (h : Own hopEnc 2 w base 46 o l) (hi : ∀ x, x ∈ l → I64 x.edge ∧ I64 x.depart) : ∃ A c, o = .slice A l.length c ∧ SlAt RHop 2 w A l ∧ l.length ≤ c ∧ c ≤ maxLen := by
  obtain ⟨A, c, rfl, hS⟩ := own_hops h hi
  exact ⟨A, c, rfl, hS, h.caps⟩

set_option maxRecDepth 100000 in
set_option maxHeartbeats 4000000 in
theorem walk_any (A A' Ap : Option Addr) (c c' cp : Nat) (g : GraphD) (v t : Int) (ps : List Int) (w : World) (hG : GraphAt w A c A' c' g) (hPS : SlAt RInt 1 w Ap ps) (hp1 : ps.length ≤ cp) (hp2 : cp ≤ maxLen) :
    Calls Try.prog 53 #[gV A c A' c' g, .int .i64 v, .int .i64 t, .slice Ap ps.length cp] w (WalkOut (walkL g v t (ps.take 20)) w) := by
  unfold maxLen at hp2
  obtain ⟨i0, hi, hz0, hz1, hz2⟩ := info_parts info_hop
  have hn2 : (ps.take 20).length = min 20 ps.length := by rw [List.length_take]
  have hPT := hPS.take 20
  generalize ps.take 20 = q at *
  obtain ⟨bp, op, hPT⟩ := hPT
  go_enter Try.func53, Try.ntmps53
  go_wp2_with fail
  all_goals
    go_loopw [11, 1, 2, 26] (fun o a b kk wr => ∃ (k : Nat) (acc : List HopD) (x y : Int), k ≤ q.length ∧ a = .int .i64 x ∧ b = .int .i64 y ∧ kk = .int .i64 k ∧ acc.length ≤ k ∧ (∀ h, h ∈ acc → I64 h.edge ∧ I64 h.depart) ∧
      Hid (walkL g v t q = (acc ++ (walkL g x y (q.drop k)).1, (walkL g x y (q.drop k)).2)) ∧ Own hopEnc 2 wr (w.heap.size + 1) 46 o acc ∧ Below (w.heap.size + 1) (w.alloc (.cells (gC A c A' c' g) 28)) wr)
      (fun _ _ _ kk _ => q.length - (intOf kk).toNat)
    case atStart => exact ⟨0, [], v, t, Nat.zero_le _, rfl, rfl, rfl, Nat.zero_le _, by simp, Lib.hid rfl, Own.nil, by go_grown⟩
    case round =>
      obtain ⟨k, acc, x, y, hk, rfl, rfl, rfl, hacc, hsm, HI, hown, hb⟩ := hrel
      have hbw : Below w.heap.size w wr := (Below.refl _ _).alloc (Nat.le_refl _) _ |>.trans (hb.mono (by omega))
      have B0 := (Blk.new w 28 (gC A c A' c' g)).below hb (by omega)
      obtain ⟨b1, b2, b3⟩ := B0.facts
      have hzw : w.heap.size + 1 ≤ wr.heap.size := by have := hb.size; simpa using this
      by_cases hlt : k < q.length
      case neg =>
        go_wp2_with fail
        refine bodyPost_ret (results_tmp3 rfl _ _ _) rfl ?_
        obtain ⟨Ao, co, rfl, hS, h5, h6⟩ := own_walk hown hsm
        rw [HI.out, drop_end (by omega)]
        simp only [walkL, List.append_nil]
        exact ⟨Ao, co, rfl, hS, h5, h6, hbw⟩
      obtain ⟨p, hp⟩ := get_lt hlt
      obtain ⟨rfl, hbp, ⟨p0, hpI⟩⟩ := hPT k p hp
      simp only [Nat.mul_one] at p0
      have p1 := p0.now hbw
      have HI2 : Hid (walkL g v t q = (acc ++ (walkL g x y (p :: q.drop (k + 1))).1, (walkL g x y (p :: q.drop (k + 1))).2)) := by rw [← drop_cons hp]; exact HI
      clear HI p0 hp hPT
      by_cases hst : placeErr g x y = 0 ∧ outR g x y ≠ []
      case neg =>
        have HST := Lib.hid (walkL_stop (k := p) (r := q.drop (k + 1)) hst)
        by_cases h0 : placeErr g x y = 0
        · have h1 : outR g x y = [] := Classical.byContradiction fun h => hst ⟨h0, h⟩
          have h2 : (placeErr g x y != 0) = false := neq_of h0
          clear hst h0
          go_wp2_with fail
          refine (out_any _ _ _ _ g x y _ (hG.ext hbw)).mono ?_
          rintro e w1 ⟨Al, cl, rfl, hSl, hll, hb1⟩
          rw [h1] at hSl ⊢
          go_wp2_with fail
          refine bodyPost_ret (results_tmp3 rfl _ _ _) rfl ?_
          obtain ⟨Ao, co, rfl, hS, h5, h6⟩ := own_walk (hown.ext hb1) hsm
          rw [HI2.out, HST.out]
          simp only [List.append_nil]
          exact ⟨Ao, co, rfl, hS, h5, h6, ext_trans hbw hb1⟩
        · have h2 : (placeErr g x y != 0) = true := neq_of' h0
          clear hst h0
          go_wp2_with fail
          refine (out_any _ _ _ _ g x y _ (hG.ext hbw)).mono ?_
          rintro e w1 ⟨Al, cl, rfl, hSl, hll, hb1⟩
          go_wp2_with fail
          refine bodyPost_ret (results_tmp3 rfl _ _ _) rfl ?_
          obtain ⟨Ao, co, rfl, hS, h5, h6⟩ := own_walk (hown.ext hb1) hsm
          rw [HI2.out, HST.out]
          simp only [List.append_nil]
          exact ⟨Ao, co, rfl, hS, h5, h6, ext_trans hbw hb1⟩
      obtain ⟨h0, h1⟩ := hst
      have h2 : (placeErr g x y != 0) = false := neq_of h0
      have hpos : 0 < (outR g x y).length := List.length_pos_iff.2 h1
      have h3 : (((outR g x y).length : Int) == 0) = false := by simp; exact h1
      have hm0 := Int.emod_nonneg p (show ((outR g x y).length : Int) ≠ 0 by omega)
      have hm1 := Int.emod_lt_of_pos p (show 0 < ((outR g x y).length : Int) by omega)
      obtain ⟨m, hm⟩ : ∃ m : Nat, p % ((outR g x y).length : Int) = m := ⟨(p % ((outR g x y).length : Int)).toNat, by omega⟩
      obtain ⟨hd, hhd⟩ := get_lt (show m < (outR g x y).length by omega)
      have HST := Lib.hid (And.intro h0 h1)
      have HMM : Hid ((outR g x y)[(p % ((outR g x y).length : Int)).toNat]? = some hd) := Lib.hid (by rw [hm]; exact hhd)
      obtain ⟨a, b, d, er, hgo⟩ : ∃ a b d e, goR g x y [hd] = (a, b, d, e) := ⟨_, _, _, _, rfl⟩
      have HGO := Lib.hid hgo
      clear h0 h1 hgo
      go_wp2_with fail
      refine (out_any _ _ _ _ g x y _ (hG.ext hbw)).mono ?_
      rintro e w1 ⟨Al, cl, rfl, hSl, hll, hb1⟩
      obtain ⟨B1, e1, e2, e3⟩ := B0.go hb1
      have hb2 := ext_trans hbw hb1
      have hb3 : Below (w.heap.size + 1) (w.alloc (.cells (gC A c A' c' g) 28)) w1 := hb.trans (hb1.mono hzw)
      have hown1 := hown.ext hb1
      have hz1' := hb3.size
      obtain ⟨bl, ol, hSl⟩ := hSl
      obtain ⟨rfl, hbl, ⟨⟨l0, l1⟩, hdI⟩⟩ := hSl m hd hhd
      have l0' : w1.cell? _ = _ := l0
      have l1' : w1.cell? _ = _ := l1
      unfold maxLen at hll
      clear hown hb hb1 hbw B0 b1 b2 b3 hzw hSl l0 l1 hhd
      go_wp2_with fail
      refine (rest_any _ _ _ hpI (by omega) (by omega)).mono ?_
      rintro e w2 ⟨rfl, rfl⟩
      rw [hm]
      go_wp2_with fail
      refine (go_tuple _ _ _ _ _ _ g x y [hd] _ (hG.ext (by go_grown)) (slAt1 (by simp) (by simp [RHop, cellIs, go_sem]; exact hdI)) (by simp [maxLen]) HGO.out).mono ?_
      rintro e w3 ⟨rfl, hb4⟩
      obtain ⟨B2, f1, f2, f3⟩ := (B1.alloc (Obj.cells #[.int .i64 hd.edge, .int .i64 hd.depart] 46)).alloc (Obj.cells #[.int .i64 hd.edge, .int .i64 hd.depart] 46) |>.go hb4
      obtain ⟨B3, g1, g2, g3⟩ := ((Blk.new w1 46 #[.int .i64 hd.edge, .int .i64 hd.depart]).alloc (Obj.cells #[.int .i64 hd.edge, .int .i64 hd.depart] 46)).go hb4
      have hz2' : w.heap.size + 1 ≤ w1.heap.size := by simpa using hz1'
      have hb5 : Below (w.heap.size + 1) (w.alloc (.cells (gC A c A' c' g) 28)) w3 := ((hb3.alloc hz2' _).alloc (by simp; omega) _).trans (hb4.mono (by simp; omega))
      have hb6 : Below w.heap.size w w3 := (Below.refl _ _).alloc (Nat.le_refl _) _ |>.trans (hb5.mono (by omega))
      have hown3 := ((hown1.alloc (Obj.cells #[.int .i64 hd.edge, .int .i64 hd.depart] 46)).alloc (Obj.cells #[.int .i64 hd.edge, .int .i64 hd.depart] 46)).ext hb4
      have hz3 : w.heap.size + 1 ≤ w3.heap.size := by have := hb5.size; simpa using this
      clear hown1 hb4 hb3 B1 e1 e2 l0' l1'
      by_cases he : er = 0
      case neg =>
        have he2 : (er != 0) = true := neq_of' he
        have HB := Lib.hid (walkL_bad (r := q.drop (k + 1)) HST.out HMM.out HGO.out he)
        go_wp2_with fail
        refine bodyPost_ret (results_tmp3 rfl _ _ _) rfl ?_
        obtain ⟨Ao, co, rfl, hS, h5, h6⟩ := own_walk hown3 hsm
        rw [HI2.out, HB.out]
        simp only [List.append_nil]
        exact ⟨Ao, co, rfl, hS, h5, h6, hb6⟩
      subst he
      have HB := Lib.hid (walkL_go (r := q.drop (k + 1)) HST.out HMM.out HGO.out)
      go_wp2_with (at_builtin; refine wpList_append_el (enc := hopEnc) rfl (.tmp 64) (.tmp 66) 36 rfl (w.heap.size + 1) 46 i0 _ 2 16 Try.underlying36 hi hz0 hz1 hz2 rfl (by decide) _ acc hd rfl hown3 _ rfl _ rfl rfl rfl hop_one (by omega) (by decide) (by omega) ?_; intro v' w6 hown6 hb8)
      go_roundw
      case rel =>
        refine ⟨k + 1, acc ++ [hd], a, b, by omega, rfl, rfl, by go_num, by simp; omega, ?_, Lib.hid ?_, hown6, hb5.trans hb8⟩
        · intro z hz
          rcases List.mem_append.1 hz with hz | hz
          · exact hsm z hz
          · rw [List.mem_singleton.1 hz]; exact hdI
        · rw [HI2.out, HB.out]; simp
      case measure => simp [intOf]; omega
end Go.Proofs.Ytcgnalpcbcpmkaa
/- The walk of timetop.walk: it tells the hops that walkL tells of the first twenty numbers. -/
namespace Go.Proofs.Ytcgnalpcbcpmkaa
open Go.RowKit

def TWalkOut (p : List HopD × Int × Int) (w : World) (e : Ending) (w' : World) : Prop :=
  ∃ A c, e = .returned (.slice A p.1.length c) ∧ SlAt RHop 2 w' A p.1 ∧ p.1.length ≤ c ∧ c ≤ maxLen ∧ Below w.heap.size w w'

set_option maxRecDepth 100000 in
set_option maxHeartbeats 4000000 in
theorem topWalk_any (A A' Ap : Option Addr) (c c' cp : Nat) (g : GraphD) (v t : Int) (ps : List Int) (w : World) (hG : GraphAt w A c A' c' g) (hPS : SlAt RInt 1 w Ap ps) (hp1 : ps.length ≤ cp) (hp2 : cp ≤ maxLen) :
    Calls Try.prog 89 #[gV A c A' c' g, .int .i64 v, .int .i64 t, .slice Ap ps.length cp] w (TWalkOut (walkL g v t (ps.take 20)) w) := by
  unfold maxLen at hp2
  obtain ⟨i0, hi, hz0, hz1, hz2⟩ := info_parts info_hop
  have hn2 : (ps.take 20).length = min 20 ps.length := by rw [List.length_take]
  have hPT := hPS.take 20
  generalize ps.take 20 = q at *
  obtain ⟨bp, op, hPT⟩ := hPT
  go_enter Try.func89, Try.ntmps89
  go_wp2_with fail
  all_goals
    go_loopw [9, 1, 2, 24] (fun o a b kk wr => ∃ (k : Nat) (acc : List HopD) (x y : Int), k ≤ q.length ∧ a = .int .i64 x ∧ b = .int .i64 y ∧ kk = .int .i64 k ∧ acc.length ≤ k ∧ (∀ h, h ∈ acc → I64 h.edge ∧ I64 h.depart) ∧
      Hid (walkL g v t q = (acc ++ (walkL g x y (q.drop k)).1, (walkL g x y (q.drop k)).2)) ∧ Own hopEnc 2 wr (w.heap.size + 1) 46 o acc ∧ Below (w.heap.size + 1) (w.alloc (.cells (gC A c A' c' g) 28)) wr)
      (fun _ _ _ kk _ => q.length - (intOf kk).toNat)
    case atStart => exact ⟨0, [], v, t, Nat.zero_le _, rfl, rfl, rfl, Nat.zero_le _, by simp, Lib.hid rfl, Own.nil, by go_grown⟩
    case round =>
      obtain ⟨k, acc, x, y, hk, rfl, rfl, rfl, hacc, hsm, HI, hown, hb⟩ := hrel
      have hbw : Below w.heap.size w wr := (Below.refl _ _).alloc (Nat.le_refl _) _ |>.trans (hb.mono (by omega))
      have B0 := (Blk.new w 28 (gC A c A' c' g)).below hb (by omega)
      obtain ⟨b1, b2, b3⟩ := B0.facts
      have hzw : w.heap.size + 1 ≤ wr.heap.size := by have := hb.size; simpa using this
      by_cases hlt : k < q.length
      case neg =>
        go_wp2_with fail
        refine bodyPost_ret (results_tmp rfl _ _ _) rfl ?_
        obtain ⟨Ao, co, rfl, hS, h5, h6⟩ := own_walk hown hsm
        rw [HI.out, drop_end (by omega)]
        simp only [walkL, List.append_nil]
        exact ⟨Ao, co, rfl, hS, h5, h6, hbw⟩
      obtain ⟨p, hp⟩ := get_lt hlt
      obtain ⟨rfl, hbp, ⟨p0, hpI⟩⟩ := hPT k p hp
      simp only [Nat.mul_one] at p0
      have p1 := p0.now hbw
      have HI2 : Hid (walkL g v t q = (acc ++ (walkL g x y (p :: q.drop (k + 1))).1, (walkL g x y (p :: q.drop (k + 1))).2)) := by rw [← drop_cons hp]; exact HI
      clear HI p0 hp hPT
      by_cases hst : placeErr g x y = 0 ∧ outR g x y ≠ []
      case neg =>
        have HST := Lib.hid (walkL_stop (k := p) (r := q.drop (k + 1)) hst)
        by_cases h0 : placeErr g x y = 0
        · have h1 : outR g x y = [] := Classical.byContradiction fun h => hst ⟨h0, h⟩
          have h2 : (placeErr g x y != 0) = false := neq_of h0
          clear hst h0
          go_wp2_with fail
          refine (out_any _ _ _ _ g x y _ (hG.ext hbw)).mono ?_
          rintro e w1 ⟨Al, cl, rfl, hSl, hll, hb1⟩
          rw [h1] at hSl ⊢
          go_wp2_with fail
          refine bodyPost_ret (results_tmp rfl _ _ _) rfl ?_
          obtain ⟨Ao, co, rfl, hS, h5, h6⟩ := own_walk (hown.ext hb1) hsm
          rw [HI2.out, HST.out]
          simp only [List.append_nil]
          exact ⟨Ao, co, rfl, hS, h5, h6, ext_trans hbw hb1⟩
        · have h2 : (placeErr g x y != 0) = true := neq_of' h0
          clear hst h0
          go_wp2_with fail
          refine (out_any _ _ _ _ g x y _ (hG.ext hbw)).mono ?_
          rintro e w1 ⟨Al, cl, rfl, hSl, hll, hb1⟩
          go_wp2_with fail
          refine bodyPost_ret (results_tmp rfl _ _ _) rfl ?_
          obtain ⟨Ao, co, rfl, hS, h5, h6⟩ := own_walk (hown.ext hb1) hsm
          rw [HI2.out, HST.out]
          simp only [List.append_nil]
          exact ⟨Ao, co, rfl, hS, h5, h6, ext_trans hbw hb1⟩
      obtain ⟨h0, h1⟩ := hst
      have h2 : (placeErr g x y != 0) = false := neq_of h0
      have hpos : 0 < (outR g x y).length := List.length_pos_iff.2 h1
      have h3 : (((outR g x y).length : Int) == 0) = false := by simp; exact h1
      have hm0 := Int.emod_nonneg p (show ((outR g x y).length : Int) ≠ 0 by omega)
      have hm1 := Int.emod_lt_of_pos p (show 0 < ((outR g x y).length : Int) by omega)
      obtain ⟨m, hm⟩ : ∃ m : Nat, p % ((outR g x y).length : Int) = m := ⟨(p % ((outR g x y).length : Int)).toNat, by omega⟩
      obtain ⟨hd, hhd⟩ := get_lt (show m < (outR g x y).length by omega)
      have HST := Lib.hid (And.intro h0 h1)
      have HMM : Hid ((outR g x y)[(p % ((outR g x y).length : Int)).toNat]? = some hd) := Lib.hid (by rw [hm]; exact hhd)
      obtain ⟨a, b, d, er, hgo⟩ : ∃ a b d e, goR g x y [hd] = (a, b, d, e) := ⟨_, _, _, _, rfl⟩
      have HGO := Lib.hid hgo
      clear h0 h1 hgo
      go_wp2_with fail
      refine (out_any _ _ _ _ g x y _ (hG.ext hbw)).mono ?_
      rintro e w1 ⟨Al, cl, rfl, hSl, hll, hb1⟩
      obtain ⟨B1, e1, e2, e3⟩ := B0.go hb1
      have hb2 := ext_trans hbw hb1
      have hb3 : Below (w.heap.size + 1) (w.alloc (.cells (gC A c A' c' g) 28)) w1 := hb.trans (hb1.mono hzw)
      have hown1 := hown.ext hb1
      have hz1' := hb3.size
      obtain ⟨bl, ol, hSl⟩ := hSl
      obtain ⟨rfl, hbl, ⟨⟨l0, l1⟩, hdI⟩⟩ := hSl m hd hhd
      have l0' : w1.cell? _ = _ := l0
      have l1' : w1.cell? _ = _ := l1
      unfold maxLen at hll
      clear hown hb hb1 hbw B0 b1 b2 b3 hzw hSl l0 l1 hhd
      go_wp2_with fail
      refine (rest_any _ _ _ hpI (by omega) (by omega)).mono ?_
      rintro e w2 ⟨rfl, rfl⟩
      rw [hm]
      go_wp2_with fail
      refine (go_tuple _ _ _ _ _ _ g x y [hd] _ (hG.ext (by go_grown)) (slAt1 (by simp) (by simp [RHop, cellIs, go_sem]; exact hdI)) (by simp [maxLen]) HGO.out).mono ?_
      rintro e w3 ⟨rfl, hb4⟩
      obtain ⟨B2, f1, f2, f3⟩ := (B1.alloc (Obj.cells #[.int .i64 hd.edge, .int .i64 hd.depart] 46)).alloc (Obj.cells #[.int .i64 hd.edge, .int .i64 hd.depart] 46) |>.go hb4
      obtain ⟨B3, g1, g2, g3⟩ := ((Blk.new w1 46 #[.int .i64 hd.edge, .int .i64 hd.depart]).alloc (Obj.cells #[.int .i64 hd.edge, .int .i64 hd.depart] 46)).go hb4
      have hz2' : w.heap.size + 1 ≤ w1.heap.size := by simpa using hz1'
      have hb5 : Below (w.heap.size + 1) (w.alloc (.cells (gC A c A' c' g) 28)) w3 := ((hb3.alloc hz2' _).alloc (by simp; omega) _).trans (hb4.mono (by simp; omega))
      have hb6 : Below w.heap.size w w3 := (Below.refl _ _).alloc (Nat.le_refl _) _ |>.trans (hb5.mono (by omega))
      have hown3 := ((hown1.alloc (Obj.cells #[.int .i64 hd.edge, .int .i64 hd.depart] 46)).alloc (Obj.cells #[.int .i64 hd.edge, .int .i64 hd.depart] 46)).ext hb4
      have hz3 : w.heap.size + 1 ≤ w3.heap.size := by have := hb5.size; simpa using this
      clear hown1 hb4 hb3 B1 e1 e2 l0' l1'
      by_cases he : er = 0
      case neg =>
        have he2 : (er != 0) = true := neq_of' he
        have HB := Lib.hid (walkL_bad (r := q.drop (k + 1)) HST.out HMM.out HGO.out he)
        go_wp2_with fail
        refine bodyPost_ret (results_tmp rfl _ _ _) rfl ?_
        obtain ⟨Ao, co, rfl, hS, h5, h6⟩ := own_walk hown3 hsm
        rw [HI2.out, HB.out]
        simp only [List.append_nil]
        exact ⟨Ao, co, rfl, hS, h5, h6, hb6⟩
      subst he
      have HB := Lib.hid (walkL_go (r := q.drop (k + 1)) HST.out HMM.out HGO.out)
      go_wp2_with (at_builtin; refine wpList_append_el (enc := hopEnc) rfl (.tmp 62) (.tmp 64) 36 rfl (w.heap.size + 1) 46 i0 _ 2 16 Try.underlying36 hi hz0 hz1 hz2 rfl (by decide) _ acc hd rfl hown3 _ rfl _ rfl rfl rfl hop_one (by omega) (by decide) (by omega) ?_; intro v' w6 hown6 hb8)
      go_roundw
      case rel =>
        refine ⟨k + 1, acc ++ [hd], a, b, by omega, rfl, rfl, by go_num, by simp; omega, ?_, Lib.hid ?_, hown6, hb5.trans hb8⟩
        · intro z hz
          rcases List.mem_append.1 hz with hz | hz
          · exact hsm z hz
          · rw [List.mem_singleton.1 hz]; exact hdI
        · rw [HI2.out, HB.out]; simp
      case measure => simp [intOf]; omega
end Go.Proofs.Ytcgnalpcbcpmkaa
/- From which time one comes fastest, as plain Lean; no program in sight. -/
namespace Go.Proofs.Ytcgnalpcbcpmkaa

/-- Of the first k times the one from which one comes fastest: how fast, and which. -/
structure FBest (g : GraphD) (v u k b a : Int) : Prop where
  a0 : 0 ≤ a
  a1 : a < k
  b0 : 0 ≤ b
  b1 : b ≤ 100
  here : ∃ l, EarlyL g v a l ∧ gi l u.toNat = a + b
  least : ∀ t l, 0 ≤ t → t < k → EarlyL g v t l → b ≤ gi l u.toNat - t ∧ (gi l u.toNat - t = b → a ≤ t)
def FNone (g : GraphD) (v u k : Int) : Prop := ∀ t l, 0 ≤ t → t < k → EarlyL g v t l → gi l u.toNat = Never
def FTried (g : GraphD) (v u k b a : Int) : Prop := (b = Never ∧ a = 0 ∧ FNone g v u k) ∨ FBest g v u k b a
section
variable {g : GraphD} {v u k b a x : Int} {l : List Int}
theorem FTried.start : FTried g v u 0 Never 0 := .inl ⟨rfl, rfl, fun t l h0 h1 => by omega⟩
theorem FTried.skip (h : FTried g v u k b a) (hk : 0 ≤ k ∧ k ≤ 100) (hl : EarlyL g v k l) (hx : gi l u.toNat = Never) : FTried g v u (k + 1) b a := by
  rcases h with ⟨h1, h2, h3⟩ | h
  · refine .inl ⟨h1, h2, fun t r h0 h4 h5 => ?_⟩
    by_cases e : t = k
    · rw [e] at h5; rw [h5.eq hl]; exact hx
    · exact h3 t r h0 (by omega) h5
  · refine .inr ⟨h.a0, by have := h.a1; omega, h.b0, h.b1, h.here, fun t r h0 h4 h5 => ?_⟩
    by_cases e : t = k
    · rw [e] at h5; rw [h5.eq hl, hx]; have := h.b1; simp only [Never]; omega
    · exact h.least t r h0 (by omega) h5
theorem FTried.stay (h : FTried g v u k b a) (hk : 0 ≤ k ∧ k ≤ 100) (hl : EarlyL g v k l) (hx : gi l u.toNat = x) (hn : x < Never) (hle : ¬ x - k < b) : FTried g v u (k + 1) b a := by
  rcases h with ⟨h1, h2, h3⟩ | h
  · omega
  · refine .inr ⟨h.a0, by have := h.a1; omega, h.b0, h.b1, h.here, fun t r h0 h4 h5 => ?_⟩
    by_cases e : t = k
    · rw [e] at h5; rw [h5.eq hl, hx]; have := h.a1; omega
    · exact h.least t r h0 (by omega) h5
theorem FTried.take (hV : Valid g) (h : FTried g v u k b a) (hk : 0 ≤ k ∧ k < g.h) (hv : 0 ≤ v ∧ v < g.lives.length) (hu : 0 ≤ u ∧ u < g.lives.length) (hl : EarlyL g v k l) (hx : gi l u.toNat = x) (hn : x < Never) (hlt : x - k < b) : FTried g v u (k + 1) (x - k) k := by
  have hh := hV.h1
  have hlow := hl.low hV (by omega) (k := u.toNat) (by omega)
  have hH := hl.here hV ⟨hv.1, hv.2, hk.1, hk.2⟩ (k := u.toNat) (by omega) (by rw [hx]; exact hn)
  have hH := hH.2.2.2.1
  rw [hx] at hH hlow
  refine .inr ⟨hk.1, by omega, by omega, by omega, ⟨l, hl, by rw [hx]; omega⟩, fun t r h0 h4 h5 => ?_⟩
  by_cases e : t = k
  · rw [e] at h5 ⊢; rw [h5.eq hl, hx]; omega
  · rcases h with ⟨h1, h2, h3⟩ | h
    · rw [h3 t r h0 (by omega) h5]; simp only [Never]; omega
    · have := (h.least t r h0 (by omega) h5).1; omega
end
/-- What Fastest tells. -/
inductive FastOk (g : GraphD) (v u : Int) : Int → Int → Int → Prop
  | bad (h : ¬ graphErr g = 0) : FastOk g v u 0 0 (graphErr g)
  | out (h : graphErr g = 0) (h2 : ¬ ((0 ≤ v ∧ v < g.lives.length) ∧ 0 ≤ u ∧ u < g.lives.length)) : FastOk g v u 0 0 4
  | none (h : graphErr g = 0) (hv : 0 ≤ v ∧ v < g.lives.length) (hu : 0 ≤ u ∧ u < g.lives.length) (h2 : FNone g v u g.h) : FastOk g v u 0 0 4
  | some {b a : Int} (h : graphErr g = 0) (hv : 0 ≤ v ∧ v < g.lives.length) (hu : 0 ≤ u ∧ u < g.lives.length) (h2 : FBest g v u g.h b a) : FastOk g v u b a 0
theorem FastOk.zero {g : GraphD} {v u d a er : Int} (h : FastOk g v u d a er) (h0 : ¬ er = 0) : d = 0 ∧ a = 0 := by
  cases h with
  | bad _ => exact ⟨rfl, rfl⟩
  | out _ _ => exact ⟨rfl, rfl⟩
  | none _ _ _ _ => exact ⟨rfl, rfl⟩
  | some _ _ _ _ => exact absurd rfl h0
theorem FastOk.best {g : GraphD} {v u d a er : Int} (h : FastOk g v u d a er) (h0 : er = 0) : graphErr g = 0 ∧ (0 ≤ v ∧ v < g.lives.length) ∧ (0 ≤ u ∧ u < g.lives.length) ∧ FBest g v u g.h d a := by
  cases h with
  | bad h => exact absurd h0 h
  | out _ _ => simp at h0
  | none _ _ _ _ => simp at h0
  | some h1 h2 h3 h4 => exact ⟨h1, h2, h3, h4⟩
/-- If nothing is told, one comes from no time. -/
theorem FastOk.never {g : GraphD} {v u d a er t : Int} {l : List Int} (h : FastOk g v u d a er) (h0 : ¬ er = 0) (hp : placeErr g v t = 0) (hu : 0 ≤ u ∧ u < g.lives.length) (hl : EarlyL g v t l) : gi l u.toNat = Never := by
  obtain ⟨hV, hv, ht0, ht1⟩ := place_of hp
  cases h with
  | bad h => exact absurd (valid_ok hV) h
  | out _ h2 => exact absurd ⟨hv, hu⟩ h2
  | none _ _ _ h2 => exact h2 t l ht0 ht1 hl
  | some _ _ _ _ => exact absurd rfl h0
/-! ### the pair -/
theorem pair_E (t : Int) (h0 : 0 ≤ t) (h1 : t ≤ 1) : EarlyL pairG 0 t [t, 4] := by
  have hV := pair_valid
  have hx := hV.edges ⟨0, 1, [⟨1, 4, 3, 7⟩]⟩ (by simp [pairG])
  have ht : t = 0 ∨ t = 1 := by omega
  rcases ht with rfl | rfl
  · refine ⟨rfl, ⟨fun i => ?_, ?_⟩, fun e he i => ?_⟩
    · match i with
      | 0 => decide
      | 1 => decide
      | n + 2 => rw [gi_far (by simp), startE_far (by simp [pairG])]; exact Int.le_refl _
    · intro x hx
      obtain ⟨y, hy, rfl⟩ := mem_arcsE.1 hx
      simp [pairG] at hy
      subst hy
      decide
    · have h0 := he.1 0
      have h1 := he.2 (arcE pairG ⟨0, 1, [⟨1, 4, 3, 7⟩]⟩) (mem_arcsE.2 ⟨_, by simp [pairG], rfl⟩)
      have e0 : gi (startE pairG 0 0) 0 = 0 := by decide
      rw [e0] at h0
      have h2 := earlyF_mono hV hx (e 0) 0 h0
      have e1 : earlyF pairG ⟨0, 1, [⟨1, 4, 3, 7⟩]⟩ 0 = 4 := by decide
      rw [e1] at h2
      simp only [arcE] at h1
      match i with
      | 0 => show e 0 ≤ 0; omega
      | 1 => show e 1 ≤ 4; exact Int.le_trans h1 h2
      | n + 2 =>
        have := he.1 (n + 2)
        rw [startE_far (by simp [pairG])] at this
        rw [gi_far (by simp)]
        exact this
  · refine ⟨rfl, ⟨fun i => ?_, ?_⟩, fun e he i => ?_⟩
    · match i with
      | 0 => decide
      | 1 => decide
      | n + 2 => rw [gi_far (by simp), startE_far (by simp [pairG])]; exact Int.le_refl _
    · intro x hx
      obtain ⟨y, hy, rfl⟩ := mem_arcsE.1 hx
      simp [pairG] at hy
      subst hy
      decide
    · have h0 := he.1 0
      have h1 := he.2 (arcE pairG ⟨0, 1, [⟨1, 4, 3, 7⟩]⟩) (mem_arcsE.2 ⟨_, by simp [pairG], rfl⟩)
      have e0 : gi (startE pairG 0 1) 0 = 1 := by decide
      rw [e0] at h0
      have h2 := earlyF_mono hV hx (e 0) 1 h0
      have e1 : earlyF pairG ⟨0, 1, [⟨1, 4, 3, 7⟩]⟩ 1 = 4 := by decide
      rw [e1] at h2
      simp only [arcE] at h1
      match i with
      | 0 => show e 0 ≤ 1; omega
      | 1 => show e 1 ≤ 4; exact Int.le_trans h1 h2
      | n + 2 =>
        have := he.1 (n + 2)
        rw [startE_far (by simp [pairG])] at this
        rw [gi_far (by simp)]
        exact this
theorem pair_fast {d a er : Int} (h : FastOk pairG 0 1 d a er) : d = 3 ∧ a = 1 ∧ er = 0 := by
  have hg : graphErr pairG = 0 := by decide
  have hE := pair_E 1 (by decide) (by decide)
  have hE0 := pair_E 0 (by decide) (by decide)
  have e1 : gi [(1 : Int), 4] (1 : Int).toNat = 4 := by decide
  have e0 : gi [(0 : Int), 4] (1 : Int).toNat = 4 := by decide
  have hh : pairG.h = 10 := rfl
  cases h with
  | bad h => exact absurd hg h
  | out _ h2 => exact absurd (by decide) h2
  | none _ _ _ h2 =>
    have := h2 1 _ (by decide) (by decide) hE
    rw [e1] at this
    simp [Never] at this
  | some _ _ _ hb =>
    have h1 := hb.least 1 _ (by decide) (by decide) hE
    have h0 := hb.least 0 _ (by decide) (by decide) hE0
    rw [e1] at h1
    rw [e0] at h0
    obtain ⟨l, hl, he⟩ := hb.here
    have ha0 := hb.a0; have ha1 := hb.a1; have hb1 := hb.b1
    have hV := pair_valid
    have hs : gi (startE pairG 0 a) 1 = Never := by
      rw [startE_val (by decide)]
      exact if_neg (fun h => by simp at h)
    have h3 : (1 : Int).toNat = 1 := rfl
    rw [h3] at he
    obtain ⟨x, dd, lg, hx, _, hle, har⟩ := hl.by_hop hV (k := 1) (by decide) (by rw [hs, he]; simp only [Never]; omega)
    have hx' : x = ⟨0, 1, [⟨1, 4, 3, 7⟩]⟩ := by simpa [pairG] using hx
    subst hx'
    have hal := arrive_some har
    have hlg : lg = ⟨1, 4, 3, 7⟩ := by simpa using hal.1
    subst hlg
    have hlow := hl.low hV (by omega) (k := 0) (by decide)
    have hz : (0 : Int).toNat = 0 := rfl
    simp only [hz] at hle
    have h4 := hal.2.2.2.1
    rw [he] at h4
    simp only at h4
    refine ⟨by omega, ?_, rfl⟩
    have hd : ¬ a = 0 := by
      intro e
      subst e
      rw [hl.eq hE0] at he
      have : gi [(0 : Int), 4] 1 = 4 := by decide
      rw [this] at he
      omega
    omega
end Go.Proofs.Ytcgnalpcbcpmkaa
/- No journey comes earlier, costs less, or has fewer hops than is told; no program in sight. -/
namespace Go.Proofs.Ytcgnalpcbcpmkaa

section
variable {g : GraphD} {v s : Int}
theorem journey_early {a : List Int} (hV : Valid g) (ha : EarlyL g v s a) : ∀ (l : List HopD) (x r c b u e : Int), 0 ≤ r → gi a x.toNat ≤ r → goL g x r c l = some (b, u, e) → gi a b.toNat ≤ u
  | [], x, r, c, b, u, e, _, h, hg => by
    simp [goL] at hg
    obtain ⟨rfl, rfl, rfl⟩ := hg
    exact h
  | h :: l, x, r, c, b, u, e, h0, hx, hg => by
    cases hh : hopTo g x r h with
    | none => rw [goL_none hh] at hg; simp at hg
    | some p =>
      obtain ⟨b1, t1, k1⟩ := p
      rw [goL_some hh] at hg
      have hH := (hopTo_here hV h0 hh).1
      obtain ⟨y, lg, _, hy, h1, h2, h3, h4, _⟩ := hopTo_spec hh
      have hm := List.mem_of_getElem? hy
      have h5 := ha.arc hm
      have h6 := earlyF_le hV (hV.edges y hm) (t := gi a y.a.toNat) (d := h.depart) (by rw [h1]; omega) h3
      exact journey_early hV ha l b1 t1 (c + k1) b u e hH.2.2.1 (by rw [h4]; omega) hg
theorem cost_hop {wt : LegD → Int} {d : Nat × Nat → Int} (hV : Valid g) (hd : CostL g wt v s d) {x r b u k : Int} {h : HopD} (hx : Here g x r) (hh : hopTo g x r h = some (b, u, k)) :
    ∃ y lg, y ∈ g.edges ∧ lg ∈ y.legs ∧ k = lg.cost ∧ d (b.toNat, u.toNat) ≤ d (x.toNat, r.toNat) + wt lg := by
  obtain ⟨y, lg, _, hy, h1, h2, h3, h4, h5⟩ := hopTo_spec hh
  have hm := List.mem_of_getElem? hy
  obtain ⟨x0, x1, r0, r1, xa⟩ := hx
  have hs := arrive_some h3
  have hl := arrive_late hV (hV.edges y hm) h3
  obtain ⟨j, hj⟩ : ∃ j : Nat, h.depart = ((r.toNat + j : Nat) : Int) := ⟨(h.depart - r).toNat, by omega⟩
  have w1 := hd.wait (u := x.toNat) (s := r.toNat) (by omega) j (by rw [show ((x.toNat : Nat) : Int) = x by omega, show ((r.toNat : Nat) : Int) = r by omega]; exact xa)
    (by rw [← hj, show ((x.toNat : Nat) : Int) = x by omega, ← h1]; exact hs.2.2.2.2.2.1) (by rw [← hj]; omega)
  have w2 := hd.1.2 _ (.inr ⟨y, lg, u, r.toNat + j, hm, by rw [← hj]; exact h3, rfl⟩)
  refine ⟨y, lg, hm, hs.1, h5, ?_⟩
  rw [h4]
  simp only [h1] at w2
  omega
theorem journey_cost {d : Nat × Nat → Int} (hV : Valid g) (hd : CostL g lCost v s d) : ∀ (l : List HopD) (x r c b u e n : Int), Here g x r → d (x.toNat, r.toNat) ≤ n → goL g x r c l = some (b, u, e) → d (b.toNat, u.toNat) ≤ n + (e - c)
  | [], x, r, c, b, u, e, n, _, h, hg => by
    simp [goL] at hg
    obtain ⟨rfl, rfl, rfl⟩ := hg
    omega
  | h :: l, x, r, c, b, u, e, n, hx, hn, hg => by
    cases hh : hopTo g x r h with
    | none => rw [goL_none hh] at hg; simp at hg
    | some p =>
      obtain ⟨b1, t1, k1⟩ := p
      rw [goL_some hh] at hg
      have hH := (hopTo_here hV hx.2.2.1 hh).1
      obtain ⟨y, lg, _, _, h1, h2⟩ := cost_hop hV hd hx hh
      have := journey_cost hV hd l b1 t1 (c + k1) b u e (n + k1) hH (by simp only [lCost] at h2; omega) hg
      omega
theorem journey_hops {d : Nat × Nat → Int} (hV : Valid g) (hd : CostL g lOne v s d) : ∀ (l : List HopD) (x r c b u e n : Int), Here g x r → d (x.toNat, r.toNat) ≤ n → goL g x r c l = some (b, u, e) → d (b.toNat, u.toNat) ≤ n + l.length
  | [], x, r, c, b, u, e, n, _, h, hg => by
    simp [goL] at hg
    obtain ⟨rfl, rfl, rfl⟩ := hg
    simpa using h
  | h :: l, x, r, c, b, u, e, n, hx, hn, hg => by
    cases hh : hopTo g x r h with
    | none => rw [goL_none hh] at hg; simp at hg
    | some p =>
      obtain ⟨b1, t1, k1⟩ := p
      rw [goL_some hh] at hg
      have hH := (hopTo_here hV hx.2.2.1 hh).1
      obtain ⟨y, lg, _, _, h1, h2⟩ := cost_hop hV hd hx hh
      have := journey_hops hV hd l b1 t1 (c + k1) b u e (n + 1) hH (by simp only [lOne] at h2; omega) hg
      have e2 : ((h :: l).length : Int) = l.length + 1 := by simp
      omega
theorem leastL_val {d : Nat × Nat → Int} {k : Nat} (h : k < g.lives.length) : gi (leastL g d) k = (leastN d k g.h.toNat).1 := gi_of (leastL_get h)
theorem init_le {wt : LegD → Int} {d : Nat × Nat → Int} (hd : CostL g wt v s d) (hH : Here g v s) : d (v.toNat, s.toNat) ≤ 0 := by
  have h1 := hd.1.1 (v.toNat, s.toNat)
  obtain ⟨x0, x1, r0, r1, xa⟩ := hH
  unfold initC at h1
  rw [if_pos ⟨xa, by simp only; omega, by simp only; omega⟩] at h1
  exact h1
theorem best_cost {l : List Int} (hV : Valid g) (hl : CostsL g lCost v s l) (hH : Here g v s) {hops : List HopD} {b u e : Int} (hg : goL g v s 0 hops = some (b, u, e)) : gi l b.toNat ≤ e := by
  obtain ⟨d, hd, rfl⟩ := hl
  obtain ⟨hb, hb2, _, _⟩ := goL_here hV hops v s 0 b u e hH hg
  rw [leastL_val (by have := hb.1; have := hb.2.1; omega)]
  have h1 := journey_cost hV hd hops v s 0 b u e 0 hH (init_le hd hH) hg
  have h2 := leastN_all (d := d) (v := b.toNat) (k := g.h.toNat) (r := u.toNat) (by have := hb.2.2.1; have := hb.2.2.2.1; omega)
  omega
theorem best_hops {l : List Int} (hV : Valid g) (hl : CostsL g lOne v s l) (hH : Here g v s) {hops : List HopD} {b u e : Int} (hg : goL g v s 0 hops = some (b, u, e)) : gi l b.toNat ≤ hops.length := by
  obtain ⟨d, hd, rfl⟩ := hl
  obtain ⟨hb, hb2, _, _⟩ := goL_here hV hops v s 0 b u e hH hg
  rw [leastL_val (by have := hb.1; have := hb.2.1; omega)]
  have h1 := journey_hops hV hd hops v s 0 b u e 0 hH (init_le hd hH) hg
  have h2 := leastN_all (d := d) (v := b.toNat) (k := g.h.toNat) (r := u.toNat) (by have := hb.2.2.1; have := hb.2.2.2.1; omega)
  omega
end
end Go.Proofs.Ytcgnalpcbcpmkaa
