/- The walk of the specification's Part. -/
import Derived.Test.YtcgnalpcbcpmkaaPartIdx
import Derived.Test.YtcgnalpcbcpmkaaKeepT
import Derived.Test.YtcgnalpcbcpmkaaClone
import Derived.Test.YtcgnalpcbcpmkaaOnly
import Derived.Test.YtcgnalpcbcpmkaaNums
import Derived.Test.YtcgnalpcbcpmkaaHeld
import Derived.IntWalk
namespace Go.Proofs.Ytcgnalpcbcpmkaa
open Go.RowKit

theorem SlAt.drewI {w : World} {A : Option Addr} {l : List Int} (h : SlAt RInt 1 w A l) (n : Nat) : SlAt RInt 1 (w.drewN n) A l := h
set_option maxRecDepth 100000 in
theorem wp_clone_legs {o : Oper} {a : Act} {K : Act → World → Prop} {Q : Exit → Act → World → Prop} {w : World} (x : Operand) (ho : o.op = .call { callee := .builtin .append, args := #[.const (.slice none 0 0), x], argTypes := #[97, 97] })
    (L : Option Addr) (cl : Nat) (l : List LegD) (hx : a.eval x = .slice L l.length cl) (hA : SlAt RLeg 4 w L l) (hl : l.length ≤ 6)
    (h : ∀ A c w', LOwn w' A l → l.length ≤ c → c ≤ maxLen → Below w.heap.size w w' → K (a.put o.dst (.slice A l.length c)) w') : Oper.wp Try.prog o a w K Q := by
  obtain ⟨i0, hi, hz0, hz1, hz2⟩ := info_leg2
  have hc : a.eval (.const (.slice none 0 0)) = .slice none 0 0 := rfl
  cases L with
  | none =>
    have h0 : l = [] := by
      cases l with
      | nil => rfl
      | cons y l =>
        obtain ⟨b, off, h⟩ := hA
        have := (h 0 y rfl).1
        simp at this
    subst h0
    have hr : (Builtin.append_ #[97, 97] o.type #[.slice none 0 0, .slice none 0 cl]).run Try.prog w = .ok (.slice none 0 0) w := by
      simp [Builtin.append_, run_underlying Try.underlying97, sizeOf, typeInfo, zeroValue, hi, hz0, Builtin.lenOf, run_firstCells_none]
    unfold Oper.wp execOp
    simp only [List.length_nil] at hx
    simp only [ho, resolve, invoke, builtin, Sem.run_bind, Sem.run_pure, Result.andThen_ok, List.map_toArray, List.map_cons, List.map_nil, hx, hc, hr]
    exact h none 0 w (fun h => by simp at h) (by simp) (by simp [maxLen]) (Below.refl _ _)
  | some ad =>
    obtain ⟨b, off, hS⟩ := hA
    have hcells : ∀ (j : Nat) u, (l.flatMap legC)[j]? = some u → w.cell? (ad.add j) = some u := fun j u hu => by
      obtain ⟨k, x, i, hk, rfl, hi⟩ := flat_back hu
      obtain ⟨h1, hlt, ⟨x0, x1, x2, x3⟩, _⟩ := hS k x hk
      obtain rfl : ad = ⟨b, off, none⟩ := by simpa using h1
      rw [Go.WideShapes.add_plain]
      have hb := Below.refl w.heap.size w
      have x0 := x0.now hb; have x1 := x1.now hb; have x2 := x2.now hb; have x3 := x3.now hb
      match i, hi with
      | 0, hi => simp [legC] at hi; subst hi; simpa [Nat.add_assoc] using x0
      | 1, hi => simp [legC] at hi; subst hi; simpa [Nat.add_assoc] using x1
      | 2, hi => simp [legC] at hi; subst hi; simpa [Nat.add_assoc] using x2
      | 3, hi => simp [legC] at hi; subst hi; simpa [Nat.add_assoc] using x3
      | i + 4, hi => simp [legC] at hi
    obtain ⟨v', w', hr, h2, h3, h4, h5⟩ := run_append_own_at (P := Try.prog) w w.heap.size 97 o.type 114 i0 _ 4 32 Try.underlying97 hi hz0 hz1 hz2 rfl (by decide) (.slice none 0 0) 0 [] (Own.nil (enc := legC)) ad l.length cl (l.flatMap legC) (flat_len l) hcells (legs_one l) (by unfold maxLen; omega) (by omega) (Nat.le_refl _)
    have hown : Own legC 4 w' w.heap.size 114 v' l := by unfold Own; simpa using h2
    obtain ⟨Ac, cc, rfl⟩ := hown.form
    have hbb : Below w.heap.size w w' := (Below.refl w.heap.size w).grown h3 (Nat.le_refl _) (fun k hk => by simp [Value.ownBlock] at hk)
    unfold Oper.wp execOp
    simp only [ho, resolve, invoke, builtin, Sem.run_bind, Sem.run_pure, Result.andThen_ok, List.map_toArray, List.map_cons, List.map_nil, hx, hc, hr]
    exact h Ac cc w' hown.lown hown.room.1 hown.room.2 hbb

set_option maxRecDepth 100000 in
set_option maxHeartbeats 8000000 in
theorem refPart_any (A A' Ak : Option Addr) (c c' ck : Nat) (g : GraphD) (keep : List Bool) (w : World) (hG : GraphAt w A c A' c' g) (hV : Valid g) (hK : SlAt RBool 1 w Ak keep) (hlen : keep.length = g.lives.length) :
    Calls Try.prog 60 #[gV A c A' c' g, .slice Ak keep.length ck] w (fun e w' => ∃ A c A' c', e = .returned (gV A c A' c' (partD g keep)) ∧ GraphK w' A c A' c' (partD g keep) ∧ Below w.heap.size w w') := by
  have m1 : g.lives.length ≤ 9223372036854775807 := Nat.le_trans hG.lc hG.cm
  have m2 : g.edges.length ≤ 9223372036854775807 := Nat.le_trans hG.lc' hG.cm'
  have m3 : keep.length ≤ 9223372036854775807 := by omega
  have hh1 := hV.h1
  have hh0 := hV.h0
  have hn12 := hV.nl
  have hne := hV.ne
  have H0 := Lib.hid (valid_ok hV)
  have HLEN := Lib.hid hlen
  clear hlen
  obtain ⟨i0, hi, hz0, hz1, hz2⟩ := info_ivl2
  obtain ⟨j0, hje, hy0, hy1, hy2⟩ := info_edge2
  obtain ⟨n0, hni, hn0, hn1, hn2⟩ := info_parts' info_int
  go_enter Try.func60, Try.ntmps60
  go_wp2_with fail
  have B0 : Blk (((w.alloc (Obj.cells (gC A c A' c' g) 28)).alloc (Obj.cells #[.int .i64 0, .slice none 0 0, .slice none 0 0] 28)).alloc (Obj.cells #[.int .i64 g.h, .slice none 0 0, .slice none 0 0] 28)) w.heap.size 28 (gC A c A' c' g) := ((Blk.new _ _ _).alloc _).alloc _
  have B2 : Blk (((w.alloc (Obj.cells (gC A c A' c' g) 28)).alloc (Obj.cells #[.int .i64 0, .slice none 0 0, .slice none 0 0] 28)).alloc (Obj.cells #[.int .i64 g.h, .slice none 0 0, .slice none 0 0] 28)) (w.heap.size + 1) 28 #[.int .i64 0, .slice none 0 0, .slice none 0 0] := (Blk.new_ (by simp)).alloc _
  have B5 : Blk (((w.alloc (Obj.cells (gC A c A' c' g) 28)).alloc (Obj.cells #[.int .i64 0, .slice none 0 0, .slice none 0 0] 28)).alloc (Obj.cells #[.int .i64 g.h, .slice none 0 0, .slice none 0 0] 28)) (w.heap.size + 1 + 1) 28 #[.int .i64 g.h, .slice none 0 0, .slice none 0 0] := Blk.new_ (by simp)
  have hbw : Below w.heap.size w (((w.alloc (Obj.cells (gC A c A' c' g) 28)).alloc (Obj.cells #[.int .i64 0, .slice none 0 0, .slice none 0 0] 28)).alloc (Obj.cells #[.int .i64 g.h, .slice none 0 0, .slice none 0 0] 28)) := by go_grown
  have hz : w.heap.size + 1 + 1 + 1 ≤ (((w.alloc (Obj.cells (gC A c A' c' g) 28)).alloc (Obj.cells #[.int .i64 0, .slice none 0 0, .slice none 0 0] 28)).alloc (Obj.cells #[.int .i64 g.h, .slice none 0 0, .slice none 0 0] 28)).heap.size := by simp
  obtain ⟨g5, hg5⟩ : ∃ g5, g5 = w.heap.size + 1 + 1 := ⟨_, rfl⟩
  have hw1 : w.heap.size + 1 < g5 := by omega
  rw [← hg5] at B5 hz ⊢
  obtain ⟨w2, hw2⟩ : ∃ w2 : World, w2 = ((w.alloc (Obj.cells (gC A c A' c' g) 28)).alloc (Obj.cells #[.int .i64 0, .slice none 0 0, .slice none 0 0] 28)).alloc (Obj.cells #[.int .i64 g.h, .slice none 0 0, .slice none 0 0] 28) := ⟨_, rfl⟩
  rw [← hw2] at B0 B2 B5 hbw hz ⊢
  clear hg5 hw2
  go_loopw [6, 7] (fun o x wr => ∃ (k : Nat) (vl : Value) (lv : List IvlD) (lo : List Int), k ≤ keep.length ∧ x = .int .i64 k ∧ Hid (lv = partLives (keep.take k) (g.lives.take k)) ∧ Hid (lo = oldsF keep k) ∧ lv.length ≤ k ∧ lo.length ≤ k ∧ Own ivlC 2 wr (g5 + 1) 110 vl lv ∧ Own intEnc 1 wr (g5 + 1) 3 o lo ∧ Blk wr g5 28 #[.int .i64 g.h, vl, .slice none 0 0] ∧
    Blk wr (w.heap.size + 1) 28 #[.int .i64 0, .slice none 0 0, .slice none 0 0] ∧ Blk wr w.heap.size 28 (gC A c A' c' g) ∧ Below w.heap.size w wr ∧ g5 + 1 ≤ wr.heap.size) (fun _ x _ => keep.length - (intOf x).toNat)
  case atStart => exact ⟨0, _, [], [], Nat.zero_le _, rfl, Lib.hid (by simp [partLives]), Lib.hid rfl, by simp, by simp, Own.nil, Own.nil, B5, B2, B0, hbw, hz⟩
  case round =>
    clear B5 B2 B0 hbw hz
    obtain ⟨k, vl, lv, lo, hk, rfl, HLV, HLO, hlv, hlo, hown, howno, B5, B2, B0, hbw, hz⟩ := hrel
    obtain ⟨f1, f2, f3⟩ := B5.facts
    obtain ⟨c1, c2, c3⟩ := B0.facts
    by_cases hlt : k < keep.length
    case pos =>
      have hltg : k < g.lives.length := by rw [← HLEN.out]; exact hlt
      obtain ⟨bl, ol, hL⟩ := hG.lives
      obtain ⟨y, hy⟩ := get_lt hltg
      obtain ⟨rfl, hbl, ⟨⟨x0, x1⟩, _⟩⟩ := hL k y hy
      have y0 := x0.now hbw
      have y1 := x1.now hbw
      obtain ⟨bk, ok, hKL⟩ := hK
      obtain ⟨p, hp⟩ := get_lt hlt
      obtain ⟨rfl, hbk, p0⟩ := hKL k p hp
      unfold RBool at p0
      have p1 := p0.now hbw
      simp only [Nat.mul_one] at p1
      have HPT := Lib.hid (partLives_take keep g.lives k p y hp hy)
      have HP := Lib.hid hp
      clear hL hy hKL hp p0
      cases p
      case false =>
        have HN : Hid (lv = partLives (keep.take (k + 1)) (g.lives.take (k + 1))) := Lib.hid (by rw [HPT.out, ← HLV.out]; simp)
        have HN2 : Hid (lo = oldsF keep (k + 1)) := Lib.hid (by rw [oldsF, HP.out, ← HLO.out]; simp)
        go_wp2_with fail
        go_roundw
        case rel => exact ⟨k + 1, vl, lv, lo, by omega, by go_num, HN, HN2, by omega, by omega, hown, howno, B5, B2, B0, hbw, hz⟩
        case measure => simp [intOf]; omega
      case true =>
        have HN : Hid (lv ++ [y] = partLives (keep.take (k + 1)) (g.lives.take (k + 1))) := Lib.hid (by rw [HPT.out, ← HLV.out]; simp)
        have HN2 : Hid (lo ++ [(k : Int)] = oldsF keep (k + 1)) := Lib.hid (by rw [oldsF, HP.out, ← HLO.out]; simp)
        obtain ⟨Av, dv, rfl⟩ := hown.form
        go_wp2_with fail
        obtain ⟨S, hSS⟩ : ∃ S : World → Prop, Hid (S = fun w' => w'.cell? ⟨g5, 1, none⟩ = some (.slice Av lv.length dv) ∧ w'.cell? ⟨w.heap.size, 1, none⟩ = some (.slice (some ⟨bl, ol, none⟩) g.lives.length c) ∧ w'.cell? ⟨bl, ol + k * 2, none⟩ = some (.int .i64 y.f) ∧ w'.cell? ⟨bl, ol + k * 2 + 1, none⟩ = some (.int .i64 y.t)) := ⟨_, Lib.hid rfl⟩
        have hSb : ∀ wz, Below wr.heap.size wr wz → S wz := fun wz hb => by
          rw [hSS.out]
          exact ⟨cell_keep hb (by rw [B5.cell]; rfl), cell_keep hb (by rw [B0.cell]; rfl), cell_keep hb y0, cell_keep hb y1⟩
        have hS0 : S wr.drew := hSb _ (below_drew (Below.refl _ _))
        have HSB := Lib.hid hSb
        clear hSb f1 f2 f3 c1 c2 c3 y0 y1 p1
        refine WpN.begin (S := S) 10 (by kernel_rfl) ?_
        refine WpN.takeD (i := 0) (v := ?_) rfl rfl (by kernel_rfl) (fun _ _ _ h => h) (Or.inl ⟨by rfl, ?_⟩) (by assumption) ?_
        rotate_left
        · intro w hSw; rw [hSS.out] at hSw; obtain ⟨sw0, sw1, sw2, sw3⟩ := hSw; go_simp; try with_reducible rfl
        simp only [Act.put, List.setIfInBounds_toArray, List.set_cons_zero, List.set_cons_succ]
        refine WpN.takeD (i := 1) (v := ?_) rfl rfl (by kernel_rfl) (fun _ _ _ h => h) (Or.inl ⟨by rfl, ?_⟩) (by assumption) ?_
        rotate_left
        · intro w hSw; rw [hSS.out] at hSw; obtain ⟨sw0, sw1, sw2, sw3⟩ := hSw; go_simp; try with_reducible rfl
        simp only [Act.put, List.setIfInBounds_toArray, List.set_cons_zero, List.set_cons_succ]
        refine WpN.takeD (i := 2) (v := ?_) rfl rfl (by kernel_rfl) (fun _ _ _ h => h) (Or.inl ⟨by rfl, ?_⟩) (by assumption) ?_
        rotate_left
        · intro w hSw; rw [hSS.out] at hSw; obtain ⟨sw0, sw1, sw2, sw3⟩ := hSw; go_simp; try with_reducible rfl
        simp only [Act.put, List.setIfInBounds_toArray, List.set_cons_zero, List.set_cons_succ]
        refine WpN.takeD (i := 3) (v := ?_) rfl rfl (by kernel_rfl) (fun _ _ _ h => h) (Or.inl ⟨by rfl, ?_⟩) (by assumption) ?_
        rotate_left
        · intro w hSw; rw [hSS.out] at hSw; obtain ⟨sw0, sw1, sw2, sw3⟩ := hSw; go_simp; try with_reducible rfl
        simp only [Act.put, List.setIfInBounds_toArray, List.set_cons_zero, List.set_cons_succ]
        refine WpN.takeD (i := 4) (v := ?_) rfl rfl (by kernel_rfl) (fun _ _ _ h => h) (Or.inl ⟨by rfl, ?_⟩) (by assumption) ?_
        rotate_left
        · intro w hSw; rw [hSS.out] at hSw; obtain ⟨sw0, sw1, sw2, sw3⟩ := hSw; go_simp; try with_reducible rfl
        simp only [Act.put, List.setIfInBounds_toArray, List.set_cons_zero, List.set_cons_succ]
        refine WpN.takeD (i := 5) (v := ?_) rfl rfl (by kernel_rfl) (fun _ _ _ h => h) (Or.inl ⟨by rfl, ?_⟩) (by assumption) ?_
        rotate_left
        · intro w hSw; rw [hSS.out] at hSw; obtain ⟨sw0, sw1, sw2, sw3⟩ := hSw; go_simp; try with_reducible rfl
        simp only [Act.put, List.setIfInBounds_toArray, List.set_cons_zero, List.set_cons_succ]
        refine WpN.takeD (i := 6) (v := ?_) rfl rfl (by kernel_rfl) (fun _ _ _ h => h) (Or.inl ⟨by rfl, ?_⟩) (by assumption) ?_
        rotate_left
        · intro w hSw; rw [hSS.out] at hSw; obtain ⟨sw0, sw1, sw2, sw3⟩ := hSw; go_simp; try with_reducible rfl
        simp only [Act.put, List.setIfInBounds_toArray, List.set_cons_zero, List.set_cons_succ]
        refine WpN.one (i := 7) rfl (by kernel_rfl) fun K hK => ?_
        go_wp2_with fail
        have hb6 : Below wr.heap.size wr wr.drew := below_drew (Below.refl _ _)
        have hb7 : Below wr.heap.size wr (wr.drew.alloc (Obj.cells #[.int .i64 y.f, .int .i64 y.t] 110)) := ext_alloc hb6 _
        have hS6 := HSB.out _ hb7
        refine hK.out _ _ ⟨fun _ => hS6, ?_⟩
        clear hK K
        try simp only [Act.put, List.setIfInBounds_toArray, List.set_cons_zero, List.set_cons_succ]
        refine WpN.one (i := 8) rfl (by kernel_rfl) fun K hK => ?_
        have hown5 := hown.keep (fun b cs h => (Blk.go h hb6).1)
        refine wp_append_lie (enc := ivlC) (.tmp 26) (.tmp 32) 25 rfl (g5 + 1) 110 i0 _ 2 16 Try.underlying25 hi hz0 hz1 hz2 rfl (by decide) _ lv y rfl hown5 _ rfl wr.drew.heap.size rfl rfl rfl two_one (by omega) (by decide) (by simpa using hz) ?_
        intro gn cap w6 hown6 hbb hkp hgn
        have B5b := hkp _ _ _ (Blk.go B5 hb6).1 (hown5.other (Blk.go B5 hb6).1 (by decide))
        have B0b := hkp _ _ _ (Blk.go B0 hb6).1 (hown5.other (Blk.go B0 hb6).1 (by decide))
        have B2b := hkp _ _ _ (Blk.go B2 hb6).1 (hown5.other (Blk.go B2 hb6).1 (by decide))
        have howno6 := howno.keep (fun b cs h => hkp _ _ _ (Blk.go h hb6).1 (hown5.other (Blk.go h hb6).1 (by decide)))
        have hbw6 : Below w.heap.size w w6 := (ext_trans hbw hb6).trans (hbb.mono (by omega))
        have hz6 : g5 + 1 ≤ w6.heap.size := Nat.le_trans (by simpa using hz) hbb.size
        have hS7 : S w6 := by rw [hSS.out]; exact ⟨by rw [B5b.cell]; rfl, by rw [B0b.cell]; rfl, x0.now hbw6, x1.now hbw6⟩
        refine hK.out _ _ ⟨fun _ => hS7, ?_⟩
        clear hK K
        try simp only [Act.put, List.setIfInBounds_toArray, List.set_cons_zero, List.set_cons_succ]
        refine WpN.takeD (i := 9) (v := ?_) rfl rfl (by kernel_rfl) (fun _ _ _ h => h) (Or.inl ⟨by rfl, ?_⟩) (by assumption) ?_
        rotate_left
        · intro w hSw; rw [hSS.out] at hSw; obtain ⟨sw0, sw1, sw2, sw3⟩ := hSw; go_simp; try with_reducible rfl
        simp only [Act.put, List.setIfInBounds_toArray, List.set_cons_zero, List.set_cons_succ]
        refine WpN.one (i := 10) rfl (by kernel_rfl) fun K hK => ?_
        obtain ⟨r1, r2, r3⟩ := B5b.facts
        go_wp2_with fail
        refine hK.out _ _ ⟨fun h => by omega, ?_⟩
        clear hK K
        refine WpN.done (by kernel_rfl) ?_ _
        have B5c : Blk (w6.setCell ⟨g5, 1, none⟩ (.slice (some ⟨gn, 0, none⟩) (lv.length + 1) cap)) g5 28 #[.int .i64 g.h, .slice (some ⟨gn, 0, none⟩) (lv.length + 1) cap, .slice none 0 0] := by simpa using B5b.set_ 1 (.slice (some ⟨gn, 0, none⟩) (lv.length + 1) cap)
        have B2c := B2b.far (p := ⟨g5, 1, none⟩) (by simp; omega) (.slice (some ⟨gn, 0, none⟩) (lv.length + 1) cap)
        have B0c := B0b.far (p := ⟨g5, 1, none⟩) (by simp; omega) (.slice (some ⟨gn, 0, none⟩) (lv.length + 1) cap)
        have hbwc := hbw6.setCell (p := ⟨g5, 1, none⟩) (by simp; omega) (.slice (some ⟨gn, 0, none⟩) (lv.length + 1) cap)
        have hownc := hown6.keep (keep_store B5b (by decide) 1 (.slice (some ⟨gn, 0, none⟩) (lv.length + 1) cap))
        have hownoc := howno6.keep (keep_store B5b (by decide) 1 (.slice (some ⟨gn, 0, none⟩) (lv.length + 1) cap))
        have hzc : g5 + 1 ≤ (w6.setCell ⟨g5, 1, none⟩ (.slice (some ⟨gn, 0, none⟩) (lv.length + 1) cap)).heap.size := by simpa using hz6
        clear r1 r2 r3 hS7 hS6 hS0
        generalize w6.setCell ⟨g5, 1, none⟩ (.slice (some ⟨gn, 0, none⟩) (lv.length + 1) cap) = w7 at *
        obtain ⟨Ao, co, rfl⟩ := hownoc.form
        go_wp2_with (at_builtin; refine wpList_append_els (enc := intEnc) rfl (.tmp 35) (.tmp 37) 53 rfl (g5 + 1) 3 n0 _ 1 8 Try.underlying53 hni hn0 hn1 hn2 rfl (by decide) _ lo [(k : Int)] 1 rfl rfl (hownoc) _ rfl w7.heap.size (by simp) rfl rfl int_one1 (by omega) (by decide) (by simpa using hzc) ?_; intro v' w8 hown8 hb8 hkp8)
        have hzd : g5 + 1 ≤ w8.heap.size := Nat.le_trans hzc hb8.size
        go_roundw
        case rel =>
          refine ⟨k + 1, _, lv ++ [y], lo ++ [(k : Int)], by omega, by go_num, HN, HN2, by simp; omega, by simp; omega, by simpa using hownc.keep (fun b cs h => hkp8 _ _ _ h (by decide)), hown8, hkp8 _ _ _ B5c (by decide), hkp8 _ _ _ B2c (by decide), hkp8 _ _ _ B0c (by decide), hbwc.trans (hb8.mono (by omega)), hzd⟩
        case measure => simp [intOf]; omega
    have HL : Hid (lv = (partD g keep).lives) := Lib.hid (by rw [HLV.out, List.take_of_length_le (by omega), List.take_of_length_le (by rw [← HLEN.out]; omega)]; rfl)
    have HO : Hid (lo = oldsF keep keep.length) := Lib.hid (by rw [HLO.out, show k = keep.length by omega])
    clear HLV HLO
    go_wp2_with fail
    obtain ⟨Ao, co, rfl⟩ := howno.form
    go_loopw [8] (fun x wr => ∃ (j : Nat) (ve : Value) (items : List EItem), j ≤ g.edges.length ∧ x = .int .i64 j ∧ Hid (items.map Prod.fst = (g.edges.take j).filterMap (partEdge keep)) ∧ items.length ≤ j ∧ Own ivlC 2 wr (g5 + 1) 110 vl lv ∧ Own intEnc 1 wr (g5 + 1) 3 (.slice Ao lo.length co) lo ∧ Own eEnc 3 wr (g5 + 1) 99 ve items ∧ LegsAt wr items ∧
      Blk wr g5 28 #[.int .i64 g.h, vl, ve] ∧ Blk wr (w.heap.size + 1) 28 #[.int .i64 0, .slice none 0 0, .slice none 0 0] ∧ Blk wr w.heap.size 28 (gC A c A' c' g) ∧ Below w.heap.size w wr ∧ g5 + 1 ≤ wr.heap.size) (fun x _ => g.edges.length - (intOf x).toNat)
    case atStart => exact ⟨0, _, [], Nat.zero_le _, rfl, Lib.hid (by simp), by simp, hown, howno, Own.nil, LegsAt.nil, B5, B2, B0, hbw, hz⟩
    case round =>
      clear hown howno B5 B2 B0 hbw hz f1 f2 f3 c1 c2 c3
      obtain ⟨j, ve, items, hj, rfl, HIT, hil, hown, howno, hownE, hlegs, B5, B2, B0, hbw, hz⟩ := hrel
      obtain ⟨f1, f2, f3⟩ := B5.facts
      obtain ⟨c1, c2, c3⟩ := B0.facts
      by_cases hlt2 : j < g.edges.length
      case neg =>
        have HEE : Hid (items.map Prod.fst = (partD g keep).edges) := Lib.hid (by rw [HIT.out, List.take_of_length_le (by omega)]; rfl)
        clear HIT
        obtain rfl := HL.out
        have hle2 : (partD g keep).edges.length = items.length := by rw [← HEE.out, List.length_map]
        have HLE := Lib.hid hle2
        obtain ⟨Av, dv, rfl⟩ := hown.form
        obtain ⟨Ae, de, rfl⟩ := hownE.form
        obtain ⟨s1, s2, s3⟩ := B2.facts
        have hli : ∀ x, x ∈ (partD g keep).lives → I64 x.f ∧ I64 x.t := fun x hx => by
          have := hV.lives x (partLives_mem keep g.lives x hx)
          unfold I64
          omega
        have hei : ∀ it, it ∈ items → I64 it.1.a ∧ I64 it.1.b ∧ ∀ x, x ∈ it.1.legs → LegI x := fun it hm => by
          have h1 : it.1 ∈ (partD g keep).edges := by rw [← HEE.out]; exact List.mem_map_of_mem hm
          simp only [partD, List.mem_filterMap, partEdge] at h1
          obtain ⟨x, hx, he⟩ := h1
          split at he
          · have ho := hV.edges x hx
            have h2 := ho.a0; have h3 := ho.a1; have h4 := ho.b0; have h5 := ho.b1
            have k1 := kept_le keep x.a.toNat
            have k2 := kept_le keep x.b.toNat
            have he' : (⟨kept keep x.a.toNat, kept keep x.b.toNat, x.legs⟩ : EdgeD) = it.1 := by simpa using he
            rw [← he']
            refine ⟨⟨by simp only; omega, by simp only; omega⟩, ⟨by simp only; omega, by simp only; omega⟩, fun z hz => ?_⟩
            have h6 := ho.legs z hz
            unfold LegI I64
            omega
          · simp at he
        have HLI := Lib.hid hli
        have HEI := Lib.hid hei
        have hrv := hown.room
        have hre := hownE.room
        clear hli hei hle2
        go_wp2_with fail
        refine bodyPost_ret (v := .agg #[.int .i64 g.h, .slice Av (partD g keep).lives.length dv, .slice Ae items.length de]) (by simp [results, Try.results60, go_sem, s1, s2, s3]) rfl ?_
        have K : ∀ (t : TypeId) b cs, t ≠ 28 → Blk wr b t cs → Blk (((wr.setCell ⟨w.heap.size + 1, 0, none⟩ (.int .i64 g.h)).setCell ⟨w.heap.size + 1, 1, none⟩ (.slice Av (partD g keep).lives.length dv)).setCell ⟨w.heap.size + 1, 2, none⟩ (.slice Ae items.length de)) b t cs := fun t b cs ht h => by
          have hne := blk_ne h B2 ht
          exact ((h.far hne _).far hne _).far hne _
        refine ⟨Av, dv, Ae, de, by rw [← HLE.out]; rfl, fun w'' hk => ?_, ((hbw.setCell (by simp) _).setCell (by simp) _).setCell (by simp) _⟩
        obtain ⟨Av', dv', hvv, hSv⟩ := own_lives (hown.keep (fun b cs h => hk _ _ _ (by decide) (K _ b cs (by decide) h))) HLI.out
        obtain ⟨Ae', de', hee, hSe⟩ := own_edges (hownE.keep (fun b cs h => hk _ _ _ (by decide) (K _ b cs (by decide) h))) (hlegs.keep (fun b cs h => hk _ _ _ (by decide) (K _ b cs (by decide) h))) HEI.out
        simp only [Value.slice.injEq, true_and] at hvv hee
        obtain ⟨rfl, rfl⟩ := hvv
        obtain ⟨rfl, rfl⟩ := hee
        rw [HEE.out] at hSe
        exact ⟨⟨by simp only [partD]; have := hV.h0; omega, by simp only [partD]; omega⟩, hrv.1, hrv.2, by rw [HLE.out]; exact hre.1, hre.2, hSv, hSe⟩

      obtain ⟨be, oe, hE⟩ := hG.edges
      obtain ⟨y, hy⟩ := get_lt hlt2
      obtain ⟨rfl, hbe, ⟨⟨x0, x1, L, cl, x2, hl1, hl2, hL⟩, _⟩⟩ := hE j y hy
      have y0 := x0.now hbw
      have y1 := x1.now hbw
      have y2 := x2.now hbw
      have hyo := hV.edges y (List.mem_of_getElem? hy)
      have HTK := Lib.hid (take_snoc2 hy)
      have hl6 := hyo.six
      have ya0 := hyo.a0; have ya1 := hyo.a1; have yb0 := hyo.b0; have yb1 := hyo.b1
      clear hE hy x0 x1 x2
      obtain ⟨Av, dv, rfl⟩ := hown.form
      obtain ⟨Ae, de, rfl⟩ := hownE.form
      obtain ⟨Aq, cq, hoq, hSq⟩ := own_ints (howno.alloc (Obj.cells #[.int .i64 y.a, .int .i64 y.b, .slice L y.legs.length cl] 99)) (fun x hx => by rw [HO.out] at hx; have := olds_mem.1 hx; unfold I64; omega)
      simp only [Value.slice.injEq, true_and] at hoq
      obtain ⟨rfl, rfl⟩ := hoq
      have hol : lo.length ≤ maxLen := by unfold maxLen; omega
      have hidx : ∀ (n : Nat) (z : Int), Calls Try.prog 105 #[.slice Ao lo.length co, .int .i64 z] ((wr.alloc (Obj.cells #[.int .i64 y.a, .int .i64 y.b, .slice L y.legs.length cl] 99)).drewN n) (fun e w' => e = .returned (.int .i64 (idxOf z 0 lo)) ∧ (wr.alloc (Obj.cells #[.int .i64 y.a, .int .i64 y.b, .slice L y.legs.length cl] 99)).drewN n = w') := fun n z => indexInts_any Ao co lo.length lo z _ (SlAt.drewI hSq n) rfl hol
      clear hSq
      have HGY : Hid (some wr.heap.size ≠ (Value.slice Ae items.length de).ownBlock) := Lib.hid (hownE.block_lt (Nat.le_refl _))
      have hlog : Hid (idxOf y.a 0 lo = (if keptB keep y.a = true then (kept keep y.a.toNat : Int) else -1) ∧ idxOf y.b 0 lo = (if keptB keep y.b = true then (kept keep y.b.toNat : Int) else -1)) := Lib.hid (by
        rw [HO.out]
        constructor
        · cases h : keptB keep y.a
          · rw [olds_no h]; rfl
          · rw [olds_yes (Nat.le_refl _) ya0 (by rw [HLEN.out]; exact ya1) h]; rfl
        · cases h : keptB keep y.b
          · rw [olds_no h]; rfl
          · rw [olds_yes (Nat.le_refl _) yb0 (by rw [HLEN.out]; exact yb1) h]; rfl)
      obtain ⟨pa, hpa⟩ : ∃ p, keptB keep y.a = p := ⟨_, rfl⟩
      obtain ⟨pb, hpb⟩ : ∃ p, keptB keep y.b = p := ⟨_, rfl⟩
      have HPE : Hid (partEdge keep y = if pa = true ∧ pb = true then some ⟨kept keep y.a.toNat, kept keep y.b.toNat, y.legs⟩ else none) := Lib.hid (by unfold partEdge; rw [hpa, hpb])
      have hia := hlog.out.1
      have hib := hlog.out.2
      rw [hpa] at hia
      rw [hpb] at hib
      clear hpa hpb hlog
      cases pa
      case false =>
        have HN : Hid (items.map Prod.fst = (g.edges.take (j + 1)).filterMap (partEdge keep)) := Lib.hid (by rw [HIT.out, HTK.out, List.filterMap_append]; simp [HPE.out])
        have HIA : Hid (idxOf y.a 0 lo = -1) := Lib.hid hia
        obtain ⟨ib, hib⟩ : ∃ ib, idxOf y.b 0 lo = ib := ⟨_, rfl⟩
        have HIB := Lib.hid hib
        clear hia hib
        have hxa : ∀ n, Calls Try.prog 105 #[.slice Ao lo.length co, .int .i64 y.a] ((wr.alloc (Obj.cells #[.int .i64 y.a, .int .i64 y.b, .slice L y.legs.length cl] 99)).drewN n) (fun e w'' => e = .returned (.int .i64 (-1)) ∧ ∃ m, w'' = (wr.alloc (Obj.cells #[.int .i64 y.a, .int .i64 y.b, .slice L y.legs.length cl] 99)).drewN m) := fun n => (hidx n y.a).mono fun e w' h => ⟨by rw [h.1, HIA.out], n, h.2.symm⟩
        have hxb : ∀ n, Calls Try.prog 105 #[.slice Ao lo.length co, .int .i64 y.b] ((wr.alloc (Obj.cells #[.int .i64 y.a, .int .i64 y.b, .slice L y.legs.length cl] 99)).drewN n) (fun e w'' => e = .returned (.int .i64 ib) ∧ ∃ m, w'' = (wr.alloc (Obj.cells #[.int .i64 y.a, .int .i64 y.b, .slice L y.legs.length cl] 99)).drewN m) := fun n => (hidx n y.b).mono fun e w' h => ⟨by rw [h.1, HIB.out], n, h.2.symm⟩
        clear hidx
        go_wp2_with fail
        go_quiet (first | (go_at_call_of 105 (EdgeD.a y); exact hxa _) | (go_at_call_of 105 (EdgeD.b y); exact hxb _))
        go_wp2_with fail
        go_roundw
        case rel => exact ⟨j + 1, _, items, by omega, by go_num, HN, by omega, (hown.alloc (Obj.cells #[.int .i64 y.a, .int .i64 y.b, .slice L y.legs.length cl] 99)).keep (fun _ _ h => Blk.drewN h _), (howno.alloc (Obj.cells #[.int .i64 y.a, .int .i64 y.b, .slice L y.legs.length cl] 99)).keep (fun _ _ h => Blk.drewN h _), (hownE.alloc (Obj.cells #[.int .i64 y.a, .int .i64 y.b, .slice L y.legs.length cl] 99)).keep (fun _ _ h => Blk.drewN h _), (hlegs.keep (fun _ _ h => h.alloc (Obj.cells #[.int .i64 y.a, .int .i64 y.b, .slice L y.legs.length cl] 99))).keep (fun _ _ h => Blk.drewN h _), (B5.alloc (Obj.cells #[.int .i64 y.a, .int .i64 y.b, .slice L y.legs.length cl] 99)).drewN _, (B2.alloc (Obj.cells #[.int .i64 y.a, .int .i64 y.b, .slice L y.legs.length cl] 99)).drewN _, (B0.alloc (Obj.cells #[.int .i64 y.a, .int .i64 y.b, .slice L y.legs.length cl] 99)).drewN _, below_drewN (ext_alloc hbw (Obj.cells #[.int .i64 y.a, .int .i64 y.b, .slice L y.legs.length cl] 99)) _, Nat.le_trans hz (by simp [World.drewN])⟩
        case measure => simp [intOf]; omega
      obtain ⟨ka, hka⟩ : ∃ ka : Nat, kept keep y.a.toNat = ka := ⟨_, rfl⟩
      have HIA : Hid (idxOf y.a 0 lo = (ka : Int)) := Lib.hid (by rw [hia, ← hka]; rfl)
      have HKA := Lib.hid hka
      clear hia hka
      have hda : decide ((ka : Int) ≥ 0) = true := by simp
      cases pb
      case false =>
        have HN : Hid (items.map Prod.fst = (g.edges.take (j + 1)).filterMap (partEdge keep)) := Lib.hid (by rw [HIT.out, HTK.out, List.filterMap_append]; simp [HPE.out])
        have HIB : Hid (idxOf y.b 0 lo = -1) := Lib.hid hib
        clear hib
        have hxa : ∀ n, Calls Try.prog 105 #[.slice Ao lo.length co, .int .i64 y.a] ((wr.alloc (Obj.cells #[.int .i64 y.a, .int .i64 y.b, .slice L y.legs.length cl] 99)).drewN n) (fun e w'' => e = .returned (.int .i64 (ka : Int)) ∧ ∃ m, w'' = (wr.alloc (Obj.cells #[.int .i64 y.a, .int .i64 y.b, .slice L y.legs.length cl] 99)).drewN m) := fun n => (hidx n y.a).mono fun e w' h => ⟨by rw [h.1, HIA.out], n, h.2.symm⟩
        have hxb : ∀ n, Calls Try.prog 105 #[.slice Ao lo.length co, .int .i64 y.b] ((wr.alloc (Obj.cells #[.int .i64 y.a, .int .i64 y.b, .slice L y.legs.length cl] 99)).drewN n) (fun e w'' => e = .returned (.int .i64 (-1)) ∧ ∃ m, w'' = (wr.alloc (Obj.cells #[.int .i64 y.a, .int .i64 y.b, .slice L y.legs.length cl] 99)).drewN m) := fun n => (hidx n y.b).mono fun e w' h => ⟨by rw [h.1, HIB.out], n, h.2.symm⟩
        clear hidx
        go_wp2_with fail
        go_quiet (first | (go_at_call_of 105 (EdgeD.a y); exact hxa _) | (go_at_call_of 105 (EdgeD.b y); exact hxb _))
        go_wp2_with fail
        go_roundw
        case rel => exact ⟨j + 1, _, items, by omega, by go_num, HN, by omega, (hown.alloc (Obj.cells #[.int .i64 y.a, .int .i64 y.b, .slice L y.legs.length cl] 99)).keep (fun _ _ h => Blk.drewN h _), (howno.alloc (Obj.cells #[.int .i64 y.a, .int .i64 y.b, .slice L y.legs.length cl] 99)).keep (fun _ _ h => Blk.drewN h _), (hownE.alloc (Obj.cells #[.int .i64 y.a, .int .i64 y.b, .slice L y.legs.length cl] 99)).keep (fun _ _ h => Blk.drewN h _), (hlegs.keep (fun _ _ h => h.alloc (Obj.cells #[.int .i64 y.a, .int .i64 y.b, .slice L y.legs.length cl] 99))).keep (fun _ _ h => Blk.drewN h _), (B5.alloc (Obj.cells #[.int .i64 y.a, .int .i64 y.b, .slice L y.legs.length cl] 99)).drewN _, (B2.alloc (Obj.cells #[.int .i64 y.a, .int .i64 y.b, .slice L y.legs.length cl] 99)).drewN _, (B0.alloc (Obj.cells #[.int .i64 y.a, .int .i64 y.b, .slice L y.legs.length cl] 99)).drewN _, below_drewN (ext_alloc hbw (Obj.cells #[.int .i64 y.a, .int .i64 y.b, .slice L y.legs.length cl] 99)) _, Nat.le_trans hz (by simp [World.drewN])⟩
        case measure => simp [intOf]; omega
      obtain ⟨kb, hkb⟩ : ∃ kb : Nat, kept keep y.b.toNat = kb := ⟨_, rfl⟩
      have HIB : Hid (idxOf y.b 0 lo = (kb : Int)) := Lib.hid (by rw [hib, ← hkb]; rfl)
      have HKB := Lib.hid hkb
      clear hib hkb
      have hdb : decide ((kb : Int) ≥ 0) = true := by simp
      have HPE2 : Hid (partEdge keep y = some ⟨kept keep y.a.toNat, kept keep y.b.toNat, y.legs⟩) := Lib.hid (by rw [HPE.out]; rfl)
      have hxa : ∀ n, Calls Try.prog 105 #[.slice Ao lo.length co, .int .i64 y.a] ((wr.alloc (Obj.cells #[.int .i64 y.a, .int .i64 y.b, .slice L y.legs.length cl] 99)).drewN n) (fun e w'' => e = .returned (.int .i64 (ka : Int)) ∧ ∃ m, w'' = (wr.alloc (Obj.cells #[.int .i64 y.a, .int .i64 y.b, .slice L y.legs.length cl] 99)).drewN m) := fun n => (hidx n y.a).mono fun e w' h => ⟨by rw [h.1, HIA.out], n, h.2.symm⟩
      have hxb : ∀ n, Calls Try.prog 105 #[.slice Ao lo.length co, .int .i64 y.b] ((wr.alloc (Obj.cells #[.int .i64 y.a, .int .i64 y.b, .slice L y.legs.length cl] 99)).drewN n) (fun e w'' => e = .returned (.int .i64 (kb : Int)) ∧ ∃ m, w'' = (wr.alloc (Obj.cells #[.int .i64 y.a, .int .i64 y.b, .slice L y.legs.length cl] 99)).drewN m) := fun n => (hidx n y.b).mono fun e w' h => ⟨by rw [h.1, HIB.out], n, h.2.symm⟩
      clear hidx
      go_wp2_with fail
      go_quiet (first | (go_at_call_of 105 (EdgeD.a y); exact hxa _) | (go_at_call_of 105 (EdgeD.b y); exact hxb _))
      go_wp2_with fail
      have B5n : some g5 ≠ (Value.slice Ae items.length de).ownBlock := hownE.other B5 (by decide)
      have hown := (hown.alloc (Obj.cells #[.int .i64 y.a, .int .i64 y.b, .slice L y.legs.length cl] 99)).keep (fun _ _ h => Blk.drewN h nq)
      have howno := (howno.alloc (Obj.cells #[.int .i64 y.a, .int .i64 y.b, .slice L y.legs.length cl] 99)).keep (fun _ _ h => Blk.drewN h nq)
      have hownE := (hownE.alloc (Obj.cells #[.int .i64 y.a, .int .i64 y.b, .slice L y.legs.length cl] 99)).keep (fun _ _ h => Blk.drewN h nq)
      have hlegs := (hlegs.keep (fun _ _ h => h.alloc (Obj.cells #[.int .i64 y.a, .int .i64 y.b, .slice L y.legs.length cl] 99))).keep (fun _ _ h => Blk.drewN h nq)
      have B5 := (B5.alloc (Obj.cells #[.int .i64 y.a, .int .i64 y.b, .slice L y.legs.length cl] 99)).drewN nq
      have B2 := (B2.alloc (Obj.cells #[.int .i64 y.a, .int .i64 y.b, .slice L y.legs.length cl] 99)).drewN nq
      have B0 := (B0.alloc (Obj.cells #[.int .i64 y.a, .int .i64 y.b, .slice L y.legs.length cl] 99)).drewN nq
      have hbw := below_drewN (ext_alloc hbw (Obj.cells #[.int .i64 y.a, .int .i64 y.b, .slice L y.legs.length cl] 99)) nq
      have hz : g5 + 1 ≤ ((wr.alloc (Obj.cells #[.int .i64 y.a, .int .i64 y.b, .slice L y.legs.length cl] 99)).drewN nq).heap.size := Nat.le_trans hz (by simp [World.drewN])
      have BY := (Blk.new wr 99 #[.int .i64 y.a, .int .i64 y.b, .slice L y.legs.length cl]).drewN nq
      have hgy0 : wr.heap.size < ((wr.alloc (Obj.cells #[.int .i64 y.a, .int .i64 y.b, .slice L y.legs.length cl] 99)).drewN nq).heap.size := BY.lt
      obtain ⟨gy, hgy⟩ : ∃ gy, gy = wr.heap.size := ⟨_, rfl⟩
      rw [← hgy] at BY HGY hgy0 ⊢
      obtain ⟨wa, hwa⟩ : ∃ wa : World, wa = (wr.alloc (Obj.cells #[.int .i64 y.a, .int .i64 y.b, .slice L y.legs.length cl] 99)).drewN nq := ⟨_, rfl⟩
      rw [← hwa] at BY hown howno hownE hlegs B5 B2 B0 hbw hz hgy0 ⊢
      clear hgy hwa f1 f2 f3 c1 c2 c3 y0 y1 y2 hxa hxb
      obtain ⟨S, hSS⟩ : ∃ S : World → Prop, Hid (S = fun w' => w'.cell? ⟨g5, 2, none⟩ = some (.slice Ae items.length de) ∧ w'.cell? ⟨gy, 0, none⟩ = some (.int .i64 y.a) ∧ w'.cell? ⟨gy, 1, none⟩ = some (.int .i64 y.b) ∧ w'.cell? ⟨gy, 2, none⟩ = some (.slice L y.legs.length cl)) := ⟨_, Lib.hid rfl⟩
      have hSb : ∀ wz, Below wa.heap.size wa wz → S wz := fun wz hb => by
        rw [hSS.out]
        exact ⟨cell_keep hb (by rw [B5.cell]; rfl), cell_keep hb (by rw [BY.cell]; rfl), cell_keep hb (by rw [BY.cell]; rfl), cell_keep hb (by rw [BY.cell]; rfl)⟩
      have hS0 : S wa.drew := hSb _ (below_drew (Below.refl _ _))
      have HSB := Lib.hid hSb
      clear hSb
      refine WpN.begin (S := S) 11 (by kernel_rfl) ?_
      refine WpN.takeD (i := 0) (v := ?_) rfl rfl (by kernel_rfl) (fun _ _ _ h => h) (Or.inl ⟨by rfl, ?_⟩) (by assumption) ?_
      rotate_left
      · intro w hSw; rw [hSS.out] at hSw; obtain ⟨sw0, sw1, sw2, sw3⟩ := hSw; go_simp; try with_reducible rfl
      simp only [Act.put, List.setIfInBounds_toArray, List.set_cons_zero, List.set_cons_succ]
      refine WpN.takeD (i := 1) (v := ?_) rfl rfl (by kernel_rfl) (fun _ _ _ h => h) (Or.inl ⟨by rfl, ?_⟩) (by assumption) ?_
      rotate_left
      · intro w hSw; rw [hSS.out] at hSw; obtain ⟨sw0, sw1, sw2, sw3⟩ := hSw; go_simp; try with_reducible rfl
      simp only [Act.put, List.setIfInBounds_toArray, List.set_cons_zero, List.set_cons_succ]
      refine WpN.takeD (i := 2) (v := ?_) rfl rfl (by kernel_rfl) (fun _ _ _ h => h) (Or.inl ⟨by rfl, ?_⟩) (by assumption) ?_
      rotate_left
      · intro w hSw; rw [hSS.out] at hSw; obtain ⟨sw0, sw1, sw2, sw3⟩ := hSw; go_simp; try with_reducible rfl
      simp only [Act.put, List.setIfInBounds_toArray, List.set_cons_zero, List.set_cons_succ]
      refine WpN.takeD (i := 3) (v := ?_) rfl rfl (by kernel_rfl) (fun _ _ _ h => h) (Or.inl ⟨by rfl, ?_⟩) (by assumption) ?_
      rotate_left
      · intro w hSw; rw [hSS.out] at hSw; obtain ⟨sw0, sw1, sw2, sw3⟩ := hSw; go_simp; try with_reducible rfl
      simp only [Act.put, List.setIfInBounds_toArray, List.set_cons_zero, List.set_cons_succ]
      refine WpN.takeD (i := 4) (v := ?_) rfl rfl (by kernel_rfl) (fun _ _ _ h => h) (Or.inl ⟨by rfl, ?_⟩) (by assumption) ?_
      rotate_left
      · intro w hSw; rw [hSS.out] at hSw; obtain ⟨sw0, sw1, sw2, sw3⟩ := hSw; go_simp; try with_reducible rfl
      simp only [Act.put, List.setIfInBounds_toArray, List.set_cons_zero, List.set_cons_succ]
      refine WpN.takeD (i := 5) (v := ?_) rfl rfl (by kernel_rfl) (fun _ _ _ h => h) (Or.inl ⟨by rfl, ?_⟩) (by assumption) ?_
      rotate_left
      · intro w hSw; rw [hSS.out] at hSw; obtain ⟨sw0, sw1, sw2, sw3⟩ := hSw; go_simp; try with_reducible rfl
      simp only [Act.put, List.setIfInBounds_toArray, List.set_cons_zero, List.set_cons_succ]
      refine WpN.one (i := 6) rfl (by kernel_rfl) fun K hK => ?_
      refine wp_clone_legs (.tmp 70) rfl L cl y.legs rfl (hL.ext RLeg.stable (below_drew hbw)) hl6 ?_
      intro Lc cc w5 hLO hc1 hc2 hb5
      have hb6 : Below wa.heap.size wa w5 := ext_trans (below_drew (Below.refl _ _)) hb5
      have hS5 : S w5 := HSB.out _ hb6
      refine hK.out _ _ ⟨fun _ => hS5, ?_⟩
      clear hK K
      try simp only [Act.put, List.setIfInBounds_toArray, List.set_cons_zero, List.set_cons_succ]
      refine WpN.takeD (i := 7) (v := ?_) rfl rfl (by kernel_rfl) (fun _ _ _ h => h) (Or.inl ⟨by rfl, ?_⟩) (by assumption) ?_
      rotate_left
      · intro w hSw; rw [hSS.out] at hSw; obtain ⟨sw0, sw1, sw2, sw3⟩ := hSw; go_simp; try with_reducible rfl
      simp only [Act.put, List.setIfInBounds_toArray, List.set_cons_zero, List.set_cons_succ]
      refine WpN.one (i := 8) rfl (by kernel_rfl) fun K hK => ?_
      go_wp2_with fail
      have hb7 : Below wa.heap.size wa (w5.alloc (Obj.cells #[.int .i64 ka, .int .i64 kb, .slice Lc y.legs.length cc] 99)) := ext_alloc hb6 _
      have hS6 := HSB.out _ hb7
      refine hK.out _ _ ⟨fun _ => hS6, ?_⟩
      clear hK K
      try simp only [Act.put, List.setIfInBounds_toArray, List.set_cons_zero, List.set_cons_succ]
      refine WpN.one (i := 9) rfl (by kernel_rfl) fun K hK => ?_
      have hownE5 := hownE.keep (fun b cs h => (Blk.go h hb6).1)
      have hz5 : g5 + 1 ≤ w5.heap.size := Nat.le_trans hz hb6.size
      refine wp_append_lie (enc := eEnc) (.tmp 66) (.tmp 73) 26 rfl (g5 + 1) 99 j0 _ 3 40 Try.underlying26 hje hy0 hy1 hy2 rfl (by decide) _ items (⟨ka, kb, y.legs⟩, Lc, cc) rfl hownE5 _ rfl w5.heap.size rfl rfl rfl three_one (by omega) (by decide) hz5 ?_
      intro gn cap w6 hown6 hbb hkp hgn
      have B5b := hkp _ _ _ (Blk.go B5 hb6).1 B5n
      have BYb := hkp _ _ _ (Blk.go BY hb6).1 HGY.out
      have hS7 : S w6 := by rw [hSS.out]; exact ⟨by rw [B5b.cell]; rfl, by rw [BYb.cell]; rfl, by rw [BYb.cell]; rfl, by rw [BYb.cell]; rfl⟩
      refine hK.out _ _ ⟨fun _ => hS7, ?_⟩
      clear hK K
      try simp only [Act.put, List.setIfInBounds_toArray, List.set_cons_zero, List.set_cons_succ]
      refine WpN.takeD (i := 10) (v := ?_) rfl rfl (by kernel_rfl) (fun _ _ _ h => h) (Or.inl ⟨by rfl, ?_⟩) (by assumption) ?_
      rotate_left
      · intro w hSw; rw [hSS.out] at hSw; obtain ⟨sw0, sw1, sw2, sw3⟩ := hSw; go_simp; try with_reducible rfl
      simp only [Act.put, List.setIfInBounds_toArray, List.set_cons_zero, List.set_cons_succ]
      refine WpN.one (i := 11) rfl (by kernel_rfl) fun K hK => ?_
      obtain ⟨r1, r2, r3⟩ := B5b.facts
      go_wp2_with fail
      refine hK.out _ _ ⟨fun h => by omega, ?_⟩
      clear hK K
      refine WpN.done (by kernel_rfl) ?_ _
      have HN : Hid ((items ++ [((⟨ka, kb, y.legs⟩ : EdgeD), Lc, cc)]).map Prod.fst = (g.edges.take (j + 1)).filterMap (partEdge keep)) := Lib.hid (by rw [List.map_append, HIT.out, HTK.out, List.filterMap_append]; simp [HPE2.out, ← HKA.out, ← HKB.out])
      have hO6 := (hown.keep (fun b cs h => (Blk.go h hb6).1)).keep (fun b cs h => hkp _ _ _ h (hownE5.other h (by decide)))
      have hOo6 := (howno.keep (fun b cs h => (Blk.go h hb6).1)).keep (fun b cs h => hkp _ _ _ h (hownE5.other h (by decide)))
      have hL6 := (hlegs.keep (fun b cs h => (Blk.go h hb6).1)).keep (fun b cs h => hkp _ _ _ h (hownE5.other h (by decide)))
      have hLO6 := hLO.keep (fun b cs h => hkp _ _ _ h (hownE5.other h (by decide)))
      have B2b := hkp _ _ _ (Blk.go B2 hb6).1 (hownE5.other (Blk.go B2 hb6).1 (by decide))
      have B0b := hkp _ _ _ (Blk.go B0 hb6).1 (hownE5.other (Blk.go B0 hb6).1 (by decide))
      have hbw7 : Below w.heap.size w w6 := (ext_trans hbw hb6).trans (hbb.mono (by omega))
      have hz7 : g5 + 1 ≤ w6.heap.size := Nat.le_trans hz5 hbb.size
      go_wp2_with fail
      go_roundw
      case rel =>
        refine ⟨j + 1, _, items ++ [(⟨ka, kb, y.legs⟩, Lc, cc)], by omega, by go_num, HN, by simp; omega, hO6.keep (keep_store B5b (by decide) 2 _), hOo6.keep (keep_store B5b (by decide) 2 _), by simpa using hown6.keep (keep_store B5b (by decide) 2 _),
          (hL6.snoc (it := (⟨ka, kb, y.legs⟩, Lc, cc)) ⟨hLO6, hc1, hc2⟩).keep (keep_store B5b (by decide) 2 _), by simpa using B5b.set_ 2 (.slice (some ⟨gn, 0, none⟩) (items.length + 1) cap), B2b.far (by simp; omega) _, B0b.far (by simp; omega) _, hbw7.setCell (by simp; omega) _, by simpa using hz7⟩
      case measure => simp [intOf]; omega
end Go.Proofs.Ytcgnalpcbcpmkaa
