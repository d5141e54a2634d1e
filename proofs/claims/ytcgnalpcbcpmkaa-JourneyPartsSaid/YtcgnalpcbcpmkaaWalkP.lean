/- The walk of timekeep.walk: it tells what walkL tells of the first twenty numbers. -/
import Derived.Test.YtcgnalpcbcpmkaaWalk
namespace Go.Proofs.Ytcgnalpcbcpmkaa
open Go.RowKit

theorem results_tmp3 {fn : Func} {t u v : Tmp} (h : fn.results = #[.tmp t, .tmp u, .tmp v]) (tmps : Array Value) (P : Program) (w : World) :
    (results fn tmps).run P w = .ok (.tuple #[tmps.getD t undef, tmps.getD u undef, tmps.getD v undef]) w := by simp [results, h]
def WalkOut (p : List HopD × Int × Int) (w : World) (e : Ending) (w' : World) : Prop :=
  ∃ A c, e = .returned (.tuple #[.slice A p.1.length c, .int .i64 p.2.1, .int .i64 p.2.2]) ∧ SlAt RHop 2 w' A p.1 ∧ p.1.length ≤ c ∧ c ≤ maxLen ∧ Below w.heap.size w w'
theorem Own.caps {α : Type} {enc : α → List Value} {sz : Nat} {w : World} {base : Nat} {e : TypeId} {A : Option Addr} {n c : Nat} {l : List α} (h : Own enc sz w base e (.slice A n c) l) : l.length ≤ c ∧ c ≤ maxLen := by
  rcases h.2 with ⟨h1, h0⟩ | ⟨g, cap, cur, hv, _, _, h1, h2, _⟩
  · cases h1; rw [h0]; simp
  · cases hv; exact ⟨h1, h2⟩
theorem own_walk {w : World} {base : Nat} {o : Value} {l : List HopD} (h : Own hopEnc 2 w base 46 o l) (hi : ∀ x, x ∈ l → I64 x.edge ∧ I64 x.depart) : ∃ A c, o = .slice A l.length c ∧ SlAt RHop 2 w A l ∧ l.length ≤ c ∧ c ≤ maxLen := by
  obtain ⟨A, c, rfl, hS⟩ := own_hops h hi
  exact ⟨A, c, rfl, hS, h.caps⟩

set_option maxRecDepth 100000 in
set_option maxHeartbeats 4000000 in
theorem walk_any (A A' Ap : Option Addr) (c c' cp : Nat) (g : GraphD) (v t : Int) (ps : List Int) (w : World) (hG : GraphAt w A c A' c' g) (hPS : SlAt RInt 1 w Ap ps) (hp1 : ps.length ≤ cp) (hp2 : cp ≤ maxLen) :
    Calls Try.prog 53 #[gV A c A' c' g, .int .i64 v, .int .i64 t, .slice Ap ps.length cp] w (WalkOut (walkL g v t (ps.take 20)) w) := by
  unfold maxLen at hp2
  obtain ⟨i0, hi, hz0, hz1, hz2⟩ := info_parts info_hop
  have hn2 : (ps.take 20).length = min 20 ps.length := by rw [List.length_take]
  have hPT := hPS.take 20
  generalize ps.take 20 = q at *
  obtain ⟨bp, op, hPT⟩ := hPT
  go_enter Try.func53, Try.ntmps53
  go_wp2_with fail
  all_goals
    go_loopw [11, 1, 2, 26] (fun o a b kk wr => ∃ (k : Nat) (acc : List HopD) (x y : Int), k ≤ q.length ∧ a = .int .i64 x ∧ b = .int .i64 y ∧ kk = .int .i64 k ∧ acc.length ≤ k ∧ (∀ h, h ∈ acc → I64 h.edge ∧ I64 h.depart) ∧
      Hid (walkL g v t q = (acc ++ (walkL g x y (q.drop k)).1, (walkL g x y (q.drop k)).2)) ∧ Own hopEnc 2 wr (w.heap.size + 1) 46 o acc ∧ Below (w.heap.size + 1) (w.alloc (.cells (gC A c A' c' g) 28)) wr)
      (fun _ _ _ kk _ => q.length - (intOf kk).toNat)
    case atStart => exact ⟨0, [], v, t, Nat.zero_le _, rfl, rfl, rfl, Nat.zero_le _, by simp, Lib.hid rfl, Own.nil, by go_grown⟩
    case round =>
      obtain ⟨k, acc, x, y, hk, rfl, rfl, rfl, hacc, hsm, HI, hown, hb⟩ := hrel
      have hbw : Below w.heap.size w wr := (Below.refl _ _).alloc (Nat.le_refl _) _ |>.trans (hb.mono (by omega))
      have B0 := (Blk.new w 28 (gC A c A' c' g)).below hb (by omega)
      obtain ⟨b1, b2, b3⟩ := B0.facts
      have hzw : w.heap.size + 1 ≤ wr.heap.size := by have := hb.size; simpa using this
      by_cases hlt : k < q.length
      case neg =>
        go_wp2_with fail
        refine bodyPost_ret (results_tmp3 rfl _ _ _) rfl ?_
        obtain ⟨Ao, co, rfl, hS, h5, h6⟩ := own_walk hown hsm
        rw [HI.out, drop_end (by omega)]
        simp only [walkL, List.append_nil]
        exact ⟨Ao, co, rfl, hS, h5, h6, hbw⟩
      obtain ⟨p, hp⟩ := get_lt hlt
      obtain ⟨rfl, hbp, ⟨p0, hpI⟩⟩ := hPT k p hp
      simp only [Nat.mul_one] at p0
      have p1 := p0.now hbw
      have HI2 : Hid (walkL g v t q = (acc ++ (walkL g x y (p :: q.drop (k + 1))).1, (walkL g x y (p :: q.drop (k + 1))).2)) := by rw [← drop_cons hp]; exact HI
      clear HI p0 hp hPT
      by_cases hst : placeErr g x y = 0 ∧ outR g x y ≠ []
      case neg =>
        have HST := Lib.hid (walkL_stop (k := p) (r := q.drop (k + 1)) hst)
        by_cases h0 : placeErr g x y = 0
        · have h1 : outR g x y = [] := Classical.byContradiction fun h => hst ⟨h0, h⟩
          have h2 : (placeErr g x y != 0) = false := neq_of h0
          clear hst h0
          go_wp2_with fail
          refine (out_any _ _ _ _ g x y _ (hG.ext hbw)).mono ?_
          rintro e w1 ⟨Al, cl, rfl, hSl, hll, hb1⟩
          rw [h1] at hSl ⊢
          go_wp2_with fail
          refine bodyPost_ret (results_tmp3 rfl _ _ _) rfl ?_
          obtain ⟨Ao, co, rfl, hS, h5, h6⟩ := own_walk (hown.ext hb1) hsm
          rw [HI2.out, HST.out]
          simp only [List.append_nil]
          exact ⟨Ao, co, rfl, hS, h5, h6, ext_trans hbw hb1⟩
        · have h2 : (placeErr g x y != 0) = true := neq_of' h0
          clear hst h0
          go_wp2_with fail
          refine (out_any _ _ _ _ g x y _ (hG.ext hbw)).mono ?_
          rintro e w1 ⟨Al, cl, rfl, hSl, hll, hb1⟩
          go_wp2_with fail
          refine bodyPost_ret (results_tmp3 rfl _ _ _) rfl ?_
          obtain ⟨Ao, co, rfl, hS, h5, h6⟩ := own_walk (hown.ext hb1) hsm
          rw [HI2.out, HST.out]
          simp only [List.append_nil]
          exact ⟨Ao, co, rfl, hS, h5, h6, ext_trans hbw hb1⟩
      obtain ⟨h0, h1⟩ := hst
      have h2 : (placeErr g x y != 0) = false := neq_of h0
      have hpos : 0 < (outR g x y).length := List.length_pos_iff.2 h1
      have h3 : (((outR g x y).length : Int) == 0) = false := by simp; exact h1
      have hm0 := Int.emod_nonneg p (show ((outR g x y).length : Int) ≠ 0 by omega)
      have hm1 := Int.emod_lt_of_pos p (show 0 < ((outR g x y).length : Int) by omega)
      obtain ⟨m, hm⟩ : ∃ m : Nat, p % ((outR g x y).length : Int) = m := ⟨(p % ((outR g x y).length : Int)).toNat, by omega⟩
      obtain ⟨hd, hhd⟩ := get_lt (show m < (outR g x y).length by omega)
      have HST := Lib.hid (And.intro h0 h1)
      have HMM : Hid ((outR g x y)[(p % ((outR g x y).length : Int)).toNat]? = some hd) := Lib.hid (by rw [hm]; exact hhd)
      obtain ⟨a, b, d, er, hgo⟩ : ∃ a b d e, goR g x y [hd] = (a, b, d, e) := ⟨_, _, _, _, rfl⟩
      have HGO := Lib.hid hgo
      clear h0 h1 hgo
      go_wp2_with fail
      refine (out_any _ _ _ _ g x y _ (hG.ext hbw)).mono ?_
      rintro e w1 ⟨Al, cl, rfl, hSl, hll, hb1⟩
      obtain ⟨B1, e1, e2, e3⟩ := B0.go hb1
      have hb2 := ext_trans hbw hb1
      have hb3 : Below (w.heap.size + 1) (w.alloc (.cells (gC A c A' c' g) 28)) w1 := hb.trans (hb1.mono hzw)
      have hown1 := hown.ext hb1
      have hz1' := hb3.size
      obtain ⟨bl, ol, hSl⟩ := hSl
      obtain ⟨rfl, hbl, ⟨⟨l0, l1⟩, hdI⟩⟩ := hSl m hd hhd
      have l0' : w1.cell? _ = _ := l0
      have l1' : w1.cell? _ = _ := l1
      unfold maxLen at hll
      clear hown hb hb1 hbw B0 b1 b2 b3 hzw hSl l0 l1 hhd
      go_wp2_with fail
      refine (rest_any _ _ _ hpI (by omega) (by omega)).mono ?_
      rintro e w2 ⟨rfl, rfl⟩
      rw [hm]
      go_wp2_with fail
      refine (go_tuple _ _ _ _ _ _ g x y [hd] _ (hG.ext (by go_grown)) (slAt1 (by simp) (by simp [RHop, cellIs, go_sem]; exact hdI)) (by simp [maxLen]) HGO.out).mono ?_
      rintro e w3 ⟨rfl, hb4⟩
      obtain ⟨B2, f1, f2, f3⟩ := (B1.alloc (Obj.cells #[.int .i64 hd.edge, .int .i64 hd.depart] 46)).alloc (Obj.cells #[.int .i64 hd.edge, .int .i64 hd.depart] 46) |>.go hb4
      obtain ⟨B3, g1, g2, g3⟩ := ((Blk.new w1 46 #[.int .i64 hd.edge, .int .i64 hd.depart]).alloc (Obj.cells #[.int .i64 hd.edge, .int .i64 hd.depart] 46)).go hb4
      have hz2' : w.heap.size + 1 ≤ w1.heap.size := by simpa using hz1'
      have hb5 : Below (w.heap.size + 1) (w.alloc (.cells (gC A c A' c' g) 28)) w3 := ((hb3.alloc hz2' _).alloc (by simp; omega) _).trans (hb4.mono (by simp; omega))
      have hb6 : Below w.heap.size w w3 := (Below.refl _ _).alloc (Nat.le_refl _) _ |>.trans (hb5.mono (by omega))
      have hown3 := ((hown1.alloc (Obj.cells #[.int .i64 hd.edge, .int .i64 hd.depart] 46)).alloc (Obj.cells #[.int .i64 hd.edge, .int .i64 hd.depart] 46)).ext hb4
      have hz3 : w.heap.size + 1 ≤ w3.heap.size := by have := hb5.size; simpa using this
      clear hown1 hb4 hb3 B1 e1 e2 l0' l1'
      by_cases he : er = 0
      case neg =>
        have he2 : (er != 0) = true := neq_of' he
        have HB := Lib.hid (walkL_bad (r := q.drop (k + 1)) HST.out HMM.out HGO.out he)
        go_wp2_with fail
        refine bodyPost_ret (results_tmp3 rfl _ _ _) rfl ?_
        obtain ⟨Ao, co, rfl, hS, h5, h6⟩ := own_walk hown3 hsm
        rw [HI2.out, HB.out]
        simp only [List.append_nil]
        exact ⟨Ao, co, rfl, hS, h5, h6, hb6⟩
      subst he
      have HB := Lib.hid (walkL_go (r := q.drop (k + 1)) HST.out HMM.out HGO.out)
      go_wp2_with (at_builtin; refine wpList_append_el (enc := hopEnc) rfl (.tmp 64) (.tmp 66) 36 rfl (w.heap.size + 1) 46 i0 _ 2 16 Try.underlying36 hi hz0 hz1 hz2 rfl (by decide) _ acc hd rfl hown3 _ rfl _ rfl rfl rfl hop_one (by omega) (by decide) (by omega) ?_; intro v' w6 hown6 hb8)
      go_roundw
      case rel =>
        refine ⟨k + 1, acc ++ [hd], a, b, by omega, rfl, rfl, by go_num, by simp; omega, ?_, Lib.hid ?_, hown6, hb5.trans hb8⟩
        · intro z hz
          rcases List.mem_append.1 hz with hz | hz
          · exact hsm z hz
          · rw [List.mem_singleton.1 hz]; exact hdI
        · rw [HI2.out, HB.out]; simp
      case measure => simp [intOf]; omega
end Go.Proofs.Ytcgnalpcbcpmkaa
