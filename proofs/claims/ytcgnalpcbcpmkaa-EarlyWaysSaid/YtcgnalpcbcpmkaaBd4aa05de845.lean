/- Several texts in one: LawWay, LawCheapWays. -/
import Derived.Test.YtcgnalpcbcpmkaaBd4011d81e10
import Derived.Test.YtcgnalpcbcpmkaaBd48cc3a8d25
import Derived.Test.YtcgnalpcbcpmkaaBdde16ed6342
import Derived.Test.YtcgnalpcbcpmkaaBd8976f74b88
import Derived.Test.YtcgnalpcbcpmkaaBdcd12e11b70
import Derived.Test.YtcgnalpcbcpmkaaBd74de75468d
import Derived.Test.YtcgnalpcbcpmkaaBd0f08d7f12b
/- The walk of the law's ways: is a way what it should be? -/
namespace Go.Proofs.Ytcgnalpcbcpmkaa
open Go.RowKit

/-- What ways is told of. -/
inductive WaysSay (g : GraphD) (v s tz : Int) (ll : List Int) : List HopD → Int → Int → Int → Prop
  | bad (h : ¬ placeErr g v s = 0) : WaysSay g v s tz ll [] (placeErr g v s) 0 0
  | none (h : placeErr g v s = 0) (hn : ll.length = g.lives.length) (h2 : tz < 0 ∨ (g.lives.length : Int) ≤ tz ∨ gi ll tz.toNat = Never) : WaysSay g v s tz ll [] 4 0 0
  | some {hops : List HopD} {a b : Int} (h : placeErr g v s = 0) (hn : ll.length = g.lives.length) (h0 : 0 ≤ tz) (h1 : tz < g.lives.length) (h2 : gi ll tz.toNat < Never) (hg : goR g v s hops = (tz, a, b, 0)) : WaysSay g v s tz ll hops 0 a b

set_option maxRecDepth 100000 in
set_option maxHeartbeats 8000000 in
theorem ways_any (A A' Al Ah : Option Addr) (c c' cl ch n m : Nat) (g : GraphD) (v s te : Int) (ll : List Int) (hops : List HopD) (er a b : Int) (w : World) (hG : GraphAt w A c A' c' g) (hS : SlAt RInt 1 w Al ll) (hH : SlAt RHop 2 w Ah hops) (hhm : hops.length ≤ maxLen) (hn : ll.length = n) (hm : hops.length = m) (h : WaysSay g v s te ll hops er a b) :
    Calls Try.prog 69 #[gV A c A' c' g, .int .i64 v, .int .i64 s, .int .i64 te, .slice Al n cl, .slice Ah m ch, .int .i64 er] w fun e w' => e = .returned (.tuple #[.int .i64 a, .int .i64 b, .bool true]) ∧ Below w.heap.size w w' := by
  subst hm
  have m1 : g.lives.length ≤ 9223372036854775807 := Nat.le_trans hG.lc hG.cm
  cases h with
  | bad h =>
    have hd : (placeErr g v s == 0) = false := by simpa using h
    have hd2 : (placeErr g v s != 0) = true := by simpa using h
    clear h hn
    go_enter Try.func69, Try.ntmps69
    go_wp2_with fail
    refine (place_any _ _ _ _ g v s _ (hG.ext (by go_grown))).mono ?_
    rintro e w1 ⟨rfl, hb1⟩
    have hbw : Below w.heap.size w w1 := ext_trans (by go_grown) hb1
    clear hb1
    go_wp2_with fail
    refine bodyPost_ret (results3 rfl _ _ _) rfl ?_
    exact ⟨by simp, hbw⟩
  | none h hn2 h2 =>
    have H0 := Lib.hid h
    have hnn : n = g.lives.length := by omega
    have HN := Lib.hid hn
    clear h hn hn2
    subst hnn
    cases hi : inB te 0 ((g.lives.length : Int) - 1)
    case false =>
      clear h2
      go_enter Try.func69, Try.ntmps69
      go_wp2_with fail
      refine (place_any _ _ _ _ g v s _ (hG.ext (by go_grown))).mono ?_
      rw [H0.out]
      rintro e w1 ⟨rfl, hb1⟩
      obtain ⟨B0, c1, c2, c3⟩ := (Blk.new w 28 (gC A c A' c' g)).go hb1
      have hbw : Below w.heap.size w w1 := ext_trans (by go_grown) hb1
      clear hb1
      go_wp2_with (go_at_call 46; refine (in_any _ _ _ _).mono ?_; rintro e w' ⟨rfl, rfl⟩)
      refine bodyPost_ret (results3 rfl _ _ _) rfl ?_
      exact ⟨by simp, hbw⟩
    case true =>
      obtain ⟨ha, hb⟩ := inB_iff.1 hi
      have h2 : gi ll te.toNat = Never := by rcases h2 with h2 | h2 | h2 <;> first | exact h2 | (exfalso; omega)
      obtain ⟨b1, o1, rfl, hz1, hx1⟩ := hS.cells (by rw [HN.out]; omega)
      have y1 := hx1 te.toNat (by rw [HN.out]; omega)
      rw [h2] at y1
      simp only [Never] at y1
      clear hx1 h2
      go_enter Try.func69, Try.ntmps69
      go_wp2_with fail
      refine (place_any _ _ _ _ g v s _ (hG.ext (by go_grown))).mono ?_
      rw [H0.out]
      rintro e w1 ⟨rfl, hb1⟩
      obtain ⟨B0, c1, c2, c3⟩ := (Blk.new w 28 (gC A c A' c' g)).go hb1
      have hbw : Below w.heap.size w w1 := ext_trans (by go_grown) hb1
      have y1 := cell_keep hbw y1
      clear hb1
      go_wp2_with (go_at_call 46; refine (in_any _ _ _ _).mono ?_; rintro e w' ⟨rfl, rfl⟩)
      refine bodyPost_ret (results3 rfl _ _ _) rfl ?_
      exact ⟨by simp, hbw⟩
  | some h hn2 h0 h1 h2 hg =>
    have H0 := Lib.hid h
    have HG := Lib.hid hg
    have hnn : n = g.lives.length := by omega
    have HN := Lib.hid hn
    clear h hn hn2 hg
    subst hnn
    have hi : inB te 0 ((g.lives.length : Int) - 1) = true := inB_iff.2 (by omega)
    obtain ⟨b1, o1, rfl, hz1, hx1⟩ := hS.cells (by rw [HN.out]; omega)
    have y1 := hx1 te.toNat (by rw [HN.out]; omega)
    obtain ⟨z, hz⟩ : ∃ z, gi ll te.toNat = z := ⟨_, rfl⟩
    rw [hz] at y1 h2
    have hd : (z == 1099511627776) = false := by simp only [Never] at h2; simp; omega
    clear hx1 h2 hz
    go_enter Try.func69, Try.ntmps69
    go_wp2_with fail
    refine (place_any _ _ _ _ g v s _ (hG.ext (by go_grown))).mono ?_
    rw [H0.out]
    rintro e w1 ⟨rfl, hb1⟩
    obtain ⟨B0, c1, c2, c3⟩ := (Blk.new w 28 (gC A c A' c' g)).go hb1
    have hbw : Below w.heap.size w w1 := ext_trans (by go_grown) hb1
    have y1 := cell_keep hbw y1
    clear hb1
    go_wp2_with (go_at_call 46; refine (in_any _ _ _ _).mono ?_; rintro e w' ⟨rfl, rfl⟩)
    refine (refGo_tuple _ _ _ _ _ _ g v s hops _ (hG.ext hbw) (hH.ext RHop.stable hbw) hhm HG.out).mono ?_
    rintro e w2 ⟨rfl, hb2⟩
    have hbw := ext_trans hbw hb2
    clear hb2
    go_wp2_with fail
    refine bodyPost_ret (results3 rfl _ _ _) rfl ?_
    exact ⟨by simp, hbw⟩

theorem containsInts_any (A : Option Addr) (c n : Nat) (l : List Int) (y : Int) (w : World) (hA : SlAt RInt 1 w A l) (hn : l.length = n) (hl : l.length ≤ maxLen) :
    Calls Try.prog 78 #[.slice A n c, .int .i64 y] w fun e w' => e = .returned (.bool (decide (y ∈ l))) ∧ w = w' := by
  have hm := idxOf_mem (y := y) l 0
  by_cases hin : y ∈ l
  · have h1 := hm.1.2 hin
    have e : decide (y ∈ l) = true := by simp [hin]
    rw [e]
    have HL := Lib.hid hl; have HN := Lib.hid hn
    clear hm hin e hn
    go_enter Try.func78, Try.ntmps78
    go_wp2_with fail
    refine (indexInts_any _ _ n l y _ hA HN.out HL.out).mono ?_
    rintro e w1 ⟨rfl, rfl⟩
    go_wp2_with fail
    go_ret
    exact ⟨rfl, rfl⟩
  · have h1 : ¬ 0 ≤ idxOf y 0 l := fun h => hin (hm.1.1 h)
    have e : decide (y ∈ l) = false := by simp [hin]
    rw [e]
    have HL := Lib.hid hl; have HN := Lib.hid hn
    clear hm hin e hn
    go_enter Try.func78, Try.ntmps78
    go_wp2_with fail
    refine (indexInts_any _ _ n l y _ hA HN.out HL.out).mono ?_
    rintro e w1 ⟨rfl, rfl⟩
    go_wp2_with fail
    go_ret
    exact ⟨ret_bool (by simp; omega), rfl⟩
end Go.Proofs.Ytcgnalpcbcpmkaa
/- The walk of the law CheapWays. -/
namespace Go.Proofs.Ytcgnalpcbcpmkaa
open Go.RowKit

set_option maxRecDepth 100000 in
set_option maxHeartbeats 8000000 in
theorem cheapWays_calls (A A' : Option Addr) (c c' : Nat) (g : GraphD) {w : World} (hG : GraphAt w A c A' c' g) (v : Int) (_hv : I64 v) (t : Int) (_ht : I64 t) (u : Int) (_hu : I64 u) :
    Calls Try.prog 14 #[gV A c A' c' g, .int .i64 v, .int .i64 t, .int .i64 u] w fun e w' => e = .returned (.bool true) ∧ Below w.heap.size w w' := by
  have m1 : g.lives.length ≤ 9223372036854775807 := Nat.le_trans hG.lc hG.cm
  go_enter Try.func14, Try.ntmps14
  go_wp2_with fail
  refine (cheapWay_any _ _ _ _ g v t u _ (hG.ext (by go_grown))).mono ?_
  rintro e w1 ⟨hops, Ah, ch, er, hR, rfl, hH, hhm, hb1⟩
  obtain ⟨B0, c1, c2, c3⟩ := (Blk.new w 28 (gC A c A' c' g)).go hb1
  have hbw : Below w.heap.size w w1 := ext_trans (by go_grown) hb1
  have HR := Lib.hid hR
  clear hb1 hR
  go_wp2_with fail
  refine (place_any _ _ _ _ g v t _ (hG.ext hbw)).mono ?_
  by_cases h0 : placeErr g v t = 0
  case neg =>
    have HW : Hid (hops = [] ∧ er = placeErr g v t ∧ WaysSay g v t u [] [] (placeErr g v t) 0 0) := Lib.hid (by
      rcases HR.out with ⟨_, h2, h3⟩ | ⟨h, _⟩ | ⟨h, _⟩
      · exact ⟨h2, h3, .bad h0⟩
      · exact absurd h h0
      · exact absurd h h0)
    obtain ⟨rfl, rfl, hW⟩ := HW.out
    have HWW := Lib.hid hW
    have hn : (placeErr g v t == 0) = false := by simpa using h0
    have hn2 : (placeErr g v t != 0) = true := by simpa using h0
    clear h0 hW HR
    rintro e w2 ⟨rfl, hb2⟩
    obtain ⟨B0, c1, c2, c3⟩ := B0.go hb2
    have hbw := ext_trans hbw hb2
    have hH := hH.ext RHop.stable hb2
    clear hb2
    go_wp2_with fail
    refine (ways_any A A' none Ah c c' 0 ch 0 0 g v t u [] [] (placeErr g v t) 0 0 _ (hG.ext hbw) SlAt.nil hH hhm rfl rfl HWW.out).mono ?_
    rintro e w3 ⟨rfl, hb2⟩
    have hbw := ext_trans hbw hb2
    clear hb2
    go_wp2_with fail
    go_ret
    exact ⟨by simp, hbw⟩
  case pos =>
    obtain ⟨hV, hvv, htt⟩ := place_of h0
    have hh1 := hV.h1
    have hn12 := hV.nl
    have H0 := Lib.hid h0
    clear h0
    rw [H0.out]
    rintro e w2 ⟨rfl, hb2⟩
    obtain ⟨B0, c1, c2, c3⟩ := B0.go hb2
    have hbw := ext_trans hbw hb2
    have hH := hH.ext RHop.stable hb2
    clear hb2
    go_wp2_with fail
    refine (refSums_any _ _ _ _ g v t _ (hG.ext hbw) H0.out).mono ?_
    rintro e w3 ⟨C, H, ic, ih, bc, bh, cc, cH, HC, rfl, hOC, _, HL, hTC, _, _, _, _, _, hb2⟩
    obtain ⟨B0, c1, c2, c3⟩ := B0.go hb2
    have hbw := ext_trans hbw hb2
    have hH := hH.ext RHop.stable hb2
    clear hb2
    go_wp2_with fail
    refine (refLeast_any bc g.lives.length cc g.h.toNat ic C _ hOC HL.out.1 hTC hn12 (by omega) (Lib.hid fun p => HC.out.1.pos (light_cost hV) p)).mono ?_
    rintro e w4 ⟨l1, A1, d1, HE1, rfl, hA1, hm1, hb2⟩
    obtain ⟨B0, c1, c2, c3⟩ := B0.go hb2
    have hbw := ext_trans hbw hb2
    have hH := hH.ext RHop.stable hb2
    have HE1 : Hid (l1 = leastL g C) := Lib.hid (by rw [HE1.out, leastsL_is])
    have HN1 : Hid (l1.length = g.lives.length) := Lib.hid (by rw [HE1.out, leastL_len])
    clear hb2 hOC hTC
    have HW : Hid (∃ a b, WaysSay g v t u l1 hops er a b ∧ (er = 0 → 0 ≤ u ∧ u < g.lives.length ∧ gi l1 u.toNat = b)) := Lib.hid (by
      rcases HR.out with ⟨h, _⟩ | ⟨_, h, rfl, rfl⟩ | ⟨_, hu0, hu1, d, hd, h⟩
      · exact absurd H0.out h
      · exact ⟨0, 0, .none H0.out HN1.out (h.imp id .inl), fun h => by simp at h⟩
      · obtain rfl := hd.eq HC.out.1
        have hv := leastL_val (g := g) (d := d) (k := u.toNat) (by omega)
        rw [← HE1.out] at hv
        rcases h with ⟨h, rfl, rfl⟩ | ⟨h1, rfl, h3⟩
        · exact ⟨0, 0, .none H0.out HN1.out (.inr (.inr (by rw [hv]; exact h))), fun h => by simp at h⟩
        · obtain ⟨q, hq⟩ := h3.go
          exact ⟨_, _, .some H0.out HN1.out hu0 hu1 (by rw [hv]; exact h1) (goR_some H0.out (by have := h3.len; omega) h3.alive hq), fun _ => ⟨hu0, hu1, hv⟩⟩)
    obtain ⟨a, b, hW, hW2⟩ := HW.out
    have HWW := Lib.hid hW
    have HW2 := Lib.hid hW2
    clear hW hW2 HR HC HL
    go_wp2_with fail
    refine (ways_any A A' _ Ah c c' _ ch _ _ g v t u l1 hops er a b _ (hG.ext hbw) hA1 hH hhm rfl rfl HWW.out).mono ?_
    rintro e w5 ⟨rfl, hb2⟩
    have hbw := ext_trans hbw hb2
    have hA1 := hA1.ext RInt.stable hb2
    clear hb2
    by_cases he : er = 0
    case neg =>
      have hd : (er != 0) = true := by simpa using he
      clear he
      go_wp2_with fail
      go_ret
      exact ⟨by simp, hbw⟩
    case pos =>
      subst he
      obtain ⟨hu0, hu1, hbz⟩ := HW2.out rfl
      obtain ⟨b1, o1, rfl, hz1, hx1⟩ := hA1.cells (by rw [HN1.out]; omega)
      have y1 := hx1 u.toNat (by rw [HN1.out]; omega)
      rw [hbz] at y1
      rw [HN1.out]
      clear hx1 hbz
      go_wp2_with fail
      go_ret
      exact ⟨by simp, hbw⟩
end Go.Proofs.Ytcgnalpcbcpmkaa
