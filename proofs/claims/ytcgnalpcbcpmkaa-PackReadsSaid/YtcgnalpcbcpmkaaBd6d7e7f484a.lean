/- Several texts in one: Decoded, LawReads. -/
import Derived.Shelf.Abstract
import Derived.Test.YtcgnalpcbcpmkaaProg
import Derived.Test.YtcgnalpcbcpmkaaBdfac428d039
import Derived.Test.YtcgnalpcbcpmkaaBd11c9154019
import Derived.Test.YtcgnalpcbcpmkaaBd449dd27526
import Derived.Test.YtcgnalpcbcpmkaaBda3e52e72a0
import Derived.Test.YtcgnalpcbcpmkaaBd16b8a5747b
/- The walk of timeref.Decoded. -/
namespace Go.Proofs.Ytcgnalpcbcpmkaa
open Go.RowKit

theorem enters_next : Enters Try.prog 113 := enters_of Try.func113 (by kernel_rfl) rfl
/-- What lies in memory while the document reads a graph. -/
structure EMem (s : ByteArray) (w0 : World) (bR bA bE gx : Nat) (h : Int) (st : RSt) (vl ve : Value) (lv : List IvlD) (items : List EItem) (w : World) : Prop where
  rd : NxMem s w0.heap.size bA bE st w
  res : Blk w bR 28 #[.int .i64 0, .slice none 0 0, .slice none 0 0]
  gr : Blk w gx 28 #[.int .i64 h, vl, ve]
  lives : Own ivlC 2 w (gx + 1) 110 vl lv
  edges : Own eEnc 3 w (gx + 1) 99 ve items
  legs : LegsAt w items
  bel : Below w0.heap.size w0 w
  big : gx + 1 ≤ w.heap.size
  le : st.1 ≤ s.size
section
variable {s : ByteArray} {w0 w w' w2 : World} {bR bA bE gx : Nat} {h : Int} {st q : RSt} {vl ve : Value} {lv : List IvlD} {items : List EItem}
theorem EMem.drew (m : EMem s w0 bR bA bE gx h st vl ve lv items w) : EMem s w0 bR bA bE gx h st vl ve lv items w.drew := ⟨m.rd.drew, m.res.drew, m.gr.drew, m.lives.keep (fun _ _ h => h.drew), m.edges.keep (fun _ _ h => h.drew), m.legs.keep (fun _ _ h => h.drew), below_drew m.bel, m.big, m.le⟩
theorem EMem.nextK (m : NxMem s w0.heap.size bA bE st w) (hO : NxOut s w0.heap.size bA bE q w w') : ∀ (t : TypeId) b cs, t ≠ 3 → t ≠ 22 → Blk w b t cs → Blk w' b t cs := fun t b cs h1 h2 h => hO.keep b t cs (blk_ne h m.at_ h1) (blk_ne h m.err h2) h
theorem EMem.next (m : EMem s w0 bR bA bE gx h st vl ve lv items w) (hO : NxOut s w0.heap.size bA bE q w w') (h1 : w0.heap.size < bA) (h2 : w0.heap.size < bE) (hq : q.1 ≤ s.size) : EMem s w0 bR bA bE gx h q vl ve lv items w' :=
  have hk := EMem.nextK m.rd hO
  ⟨hO.mem, hk _ _ _ (by decide) (by decide) m.res, hk _ _ _ (by decide) (by decide) m.gr, m.lives.keep (fun b cs h => hk _ _ _ (by decide) (by decide) h), m.edges.keep (fun b cs h => hk _ _ _ (by decide) (by decide) h), m.legs.keep (fun b cs h => hk _ _ _ (by decide) (by decide) h),
    hO.below _ _ m.bel (by omega) (by omega) m.bel.size, Nat.le_trans m.big hO.size, hq⟩
/-- While an edge's legs are read: its block, the legs' row; all that was there ahead stays. -/
structure XMem (s : ByteArray) (w0 w2 : World) (bA bE bx : Nat) (na nb : Int) (st : RSt) (v : Value) (legs : List LegD) (w : World) : Prop where
  rd : NxMem s w0.heap.size bA bE st w
  edge : Blk w bx 99 #[.int .i64 na, .int .i64 nb, v]
  legs : Own legC 4 w (bx + 1) 114 v legs
  keep : ∀ b t cs, b ≠ bA → b ≠ bE → Blk w2 b t cs → Blk w b t cs
  bel : Below w0.heap.size w0 w
  big : bx + 1 ≤ w.heap.size
  le : st.1 ≤ s.size
/-- While one leg is read. -/
structure LMem (s : ByteArray) (w0 wr : World) (bA bE : Nat) (st : RSt) (cs : Array Value) (w : World) : Prop where
  rd : NxMem s w0.heap.size bA bE st w
  leg : Blk w wr.heap.size 114 cs
  keep : ∀ b t cs, b ≠ bA → b ≠ bE → Blk wr b t cs → Blk w b t cs
  bel : Below w0.heap.size w0 w
  big : wr.heap.size + 1 ≤ w.heap.size
theorem LMem.next {wr : World} {cs : Array Value} (m : LMem s w0 wr bA bE st cs w) (hO : NxOut s w0.heap.size bA bE q w w') (h1 : w0.heap.size < bA) (h2 : w0.heap.size < bE) : LMem s w0 wr bA bE q cs w' :=
  ⟨hO.mem, EMem.nextK m.rd hO _ _ _ (by decide) (by decide) m.leg, fun b t cs n1 n2 h => hO.keep _ _ _ n1 n2 (m.keep b t cs n1 n2 h), hO.below _ _ m.bel (by omega) (by omega) m.bel.size, Nat.le_trans m.big hO.size⟩
theorem LMem.put {wr : World} {cs : Array Value} (m : LMem s w0 wr bA bE q cs w') (hw : w0.heap.size < wr.heap.size) (i : Nat) (u : Value) : LMem s w0 wr bA bE q (cs.setIfInBounds i u) (w'.setCell ⟨wr.heap.size, i, none⟩ u) :=
  ⟨m.rd.far (blk_ne m.rd.str m.leg (by decide)) (blk_ne m.rd.at_ m.leg (by decide)) (blk_ne m.rd.err m.leg (by decide)) u, m.leg.set_ i u,
    fun b t cs n1 n2 h => (m.keep b t cs n1 n2 h).far (by have := h.lt; simp; omega) u, m.bel.setCell (by simp; omega) u, by simpa using m.big⟩
end
theorem tail4_digit {s : ByteArray} {a K q : Nat} (h : tail4 s a = K) (hq : q < 4) : K / 256 ^ q % 256 = byteAt s (a + q) := by
  have h0 := byteAt_lt s a
  have h1 := byteAt_lt s (a + 1)
  have h2 := byteAt_lt s (a + 2)
  have h3 := byteAt_lt s (a + 3)
  unfold tail4 at h
  match q, hq with
  | 0, _ => rw [Nat.add_zero]; omega
  | 1, _ => omega
  | 2, _ => omega
  | 3, _ => omega
theorem tail4_of {s : ByteArray} {a K : Nat} (hK : K < 4294967296) (h : ∀ j, j < 4 → byteAt s (a + j) = K / 256 ^ j % 256) : tail4 s a = K := by
  have h0 := h 0 (by decide)
  have h1 := h 1 (by decide)
  have h2 := h 2 (by decide)
  have h3 := h 3 (by decide)
  rw [Nat.add_zero] at h0
  unfold tail4
  omega
set_option maxRecDepth 100000 in
set_option maxHeartbeats 16000000 in
theorem decoded_any (s : ByteArray) (w : World) (hs : s.size ≤ 140737488351232) : Calls Try.prog 65 #[.string s] w (DecOutP s w) := by
  obtain ⟨i0, hi, hz0, hz1, hz2⟩ := info_ivl2
  obtain ⟨j0, hje, hy0, hy1, hy2⟩ := info_edge2
  obtain ⟨l0, hle, hx0, hx1, hx2⟩ := info_leg2
  have hmf : ∀ (fn : Fn) (first cap : Array Value) (w : World), (Instr.makeFunc fn first cap).run Try.prog w = .ok (.func fn first cap) w := fun _ _ _ _ => rfl
  have hent := enters_next
  unfold Enters at hent
  go_enter Try.func65, Try.ntmps65
  go_wp2_with fail
  obtain ⟨w1, hw1⟩ : ∃ w1, w1 = (((((w.alloc (Obj.cells #[.string s] 9)).alloc (Obj.cells #[.int .i64 0, .slice none 0 0, .slice none 0 0] 28)).alloc (Obj.cells #[.int .i64 0] 3)).alloc (Obj.cells #[.int .i64 0] 22)).alloc (Obj.cells #[.int .i64 0, .slice none 0 0, .slice none 0 0] 28)) := ⟨_, rfl⟩
  have M : EMem s w (w.heap.size + 1) (w.heap.size + 1 + 1) (w.heap.size + 1 + 1 + 1) (w.heap.size + 1 + 1 + 1 + 1) 0 (0, 0) (.slice none 0 0) (.slice none 0 0) [] [] w1 := by
    rw [hw1]
    exact ⟨⟨((((Blk.new w _ _).alloc _).alloc _).alloc _).alloc _, (((Blk.new_ (by simp)).alloc _).alloc _), ((Blk.new_ (by simp)).alloc _)⟩, ((((Blk.new_ (by simp)).alloc _).alloc _).alloc _), Blk.new_ (by simp), Own.nil, Own.nil, LegsAt.nil, by go_grown, by simp, Nat.zero_le _⟩
  obtain ⟨gx, hgx⟩ : ∃ b, b = w.heap.size + 1 + 1 + 1 + 1 := ⟨_, rfl⟩
  obtain ⟨bE, hbE⟩ : ∃ b, b = w.heap.size + 1 + 1 + 1 := ⟨_, rfl⟩
  obtain ⟨bA, hbA⟩ : ∃ b, b = w.heap.size + 1 + 1 := ⟨_, rfl⟩
  obtain ⟨bR, hbR⟩ : ∃ b, b = w.heap.size + 1 := ⟨_, rfl⟩
  have l1 : w.heap.size < bR := by omega
  have l2 : bR < bA := by omega
  have l3 : bA < bE := by omega
  have l4 : bE < gx := by omega
  have l5 : w.heap.size < bA := by omega
  have l6 : w.heap.size < bE := by omega
  rw [← hw1]
  rw [← hgx, ← hbE, ← hbA, ← hbR] at M
  rw [← hgx, ← hbE, ← hbA, ← hbR]
  clear hw1 hgx hbE hbA hbR
  have n1 : w.heap.size ≠ bA := by omega
  have n2 : w.heap.size ≠ bE := by omega
  have n3 : bA ≠ bE := by omega
  have N1 := Lib.hid n1; have N2 := Lib.hid n2; have N3 := Lib.hid n3
  clear n1 n2 n3
  refine (next_any s _ bA bE 65535 (0, 0) _ M.rd hs (Nat.zero_le _) N1.out N2.out N3.out).mono ?_
  have hr1 := rnum_at s 65535 (0, 0) (Nat.zero_le _)
  obtain ⟨pq, hpq⟩ : ∃ q, rnum s 65535 (0, 0) = q := ⟨_, rfl⟩
  have Hnh := Lib.hid hpq
  rw [hpq] at hr1
  clear hpq
  obtain ⟨nh, st1⟩ := pq
  simp only at hr1
  rw [Hnh.out]
  rintro e w2 ⟨rfl, hO⟩
  have M := M.next hO l5 l6 hr1
  obtain ⟨x1, x2, x3⟩ := M.gr.facts
  clear hO
  go_wp2_with fail
  have M : EMem s w bR bA bE gx nh st1 (.slice none 0 0) (.slice none 0 0) [] [] (w2.setCell ⟨gx, 0, none⟩ (.int .i64 (nh : Int))) :=
    ⟨M.rd.far (by simp; omega) (by simp; omega) (by simp; omega) _, M.res.far (by simp; omega) _, by simpa using M.gr.set_ 0 (.int .i64 (nh : Int)), Own.nil, Own.nil, LegsAt.nil, M.bel.setCell (by simp; omega) _, by simpa using M.big, hr1⟩
  clear x1 x2 x3
  refine (next_any s _ bA bE 12 st1 _ M.rd hs M.le N1.out N2.out N3.out).mono ?_
  have hv12 := (rnum_le s 12 st1).1
  have hr2 := rnum_at s 12 st1 M.le
  obtain ⟨pq, hpq⟩ : ∃ q, rnum s 12 st1 = q := ⟨_, rfl⟩
  have Hnv := Lib.hid hpq
  rw [hpq] at hr2
  clear hpq
  obtain ⟨nv, st2⟩ := pq
  simp only at hr2
  rw [Hnv.out] at hv12 ⊢
  simp only at hv12
  rintro e w3 ⟨rfl, hO⟩
  have M := M.next hO l5 l6 hr2
  clear hO
  go_wp2_with fail
  refine (next_any s _ bA bE 30 st2 _ M.rd hs M.le N1.out N2.out N3.out).mono ?_
  have hk30 := (rnum_le s 30 st2).1
  have hr3 := rnum_at s 30 st2 M.le
  obtain ⟨pq, hpq⟩ : ∃ q, rnum s 30 st2 = q := ⟨_, rfl⟩
  have Hnk := Lib.hid hpq
  rw [hpq] at hr3
  clear hpq
  obtain ⟨nk, st3⟩ := pq
  simp only at hr3
  rw [Hnk.out] at hk30 ⊢
  simp only at hk30
  rintro e w4 ⟨rfl, hO⟩
  have M := M.next hO l5 l6 hr3
  clear hO
  go_wp2_with fail
  go_loopw [11] (fun x wr => ∃ (k : Nat) (vl : Value) (lv : List IvlD) (st : RSt), k ≤ nv ∧ x = .int .i64 k ∧ Hid (rList (rIvl s) k st3 = (lv, st)) ∧ Hid (lv.length = k) ∧ EMem s w bR bA bE gx nh st vl (.slice none 0 0) lv [] wr) (fun x _ => nv - (intOf x).toNat)
  case atStart => exact ⟨0, _, [], st3, Nat.zero_le _, rfl, Lib.hid rfl, Lib.hid rfl, M⟩
  case round =>
    clear M
    obtain ⟨k, vl, lv, st, hk, rfl, HL, hll, M⟩ := hrel
    by_cases hlt : k < nv
    case pos =>
      obtain ⟨x1, x2, x3⟩ := M.gr.facts
      obtain ⟨Al, dl, rfl⟩ := M.lives.form
      have HST : Hid (rIvl s st = (⟨(rnum s 65535 st).1, (rnum s 65535 (rnum s 65535 st).2).1⟩, (rnum s 65535 (rnum s 65535 st).2).2)) := Lib.hid rfl
      have a1 := rnum_at s 65535 st M.le
      obtain ⟨q1, hq1⟩ : ∃ q, rnum s 65535 st = q := ⟨_, rfl⟩
      rw [hq1] at HST a1
      obtain ⟨n1, t1⟩ := q1
      simp only at HST a1
      have a2 := rnum_at s 65535 t1 a1
      obtain ⟨q2, hq2⟩ : ∃ q, rnum s 65535 t1 = q := ⟨_, rfl⟩
      rw [hq2] at HST a2
      obtain ⟨n2, t2⟩ := q2
      simp only at HST a2
      have HQ1 := Lib.hid hq1; have HQ2 := Lib.hid hq2
      clear hq1 hq2
      have HN : Hid (rList (rIvl s) (k + 1) st3 = (lv ++ [⟨n1, n2⟩], t2)) := Lib.hid (by rw [rList, HL.out]; simp only; rw [HST.out])
      go_wp2_with fail
      refine (next_any s _ bA bE 65535 st _ M.rd hs M.le N1.out N2.out N3.out).mono ?_
      rw [HQ1.out]
      rintro e v1 ⟨rfl, P1⟩
      have M1 := M.next P1 l5 l6 a1
      clear x1 x2 x3
      obtain ⟨x1, x2, x3⟩ := M1.gr.facts
      go_wp2_with fail
      obtain ⟨S, hSS⟩ : ∃ S : World → Prop, Hid (S = fun w' => w'.cell? ⟨gx, 1, none⟩ = some (.slice Al lv.length dl)) := ⟨_, Lib.hid rfl⟩
      have hSb : ∀ w', Blk w' gx 28 #[.int .i64 (nh : Int), .slice Al lv.length dl, .slice none 0 0] → S w' := fun w' h => by rw [hSS.out]; show w'.cell? ⟨gx, 1, none⟩ = _; rw [h.cell]; rfl
      have HSB := Lib.hid hSb
      have M0 := M1.drew
      have hS0 : S v1.drew := hSb _ M0.gr
      clear hSb x1 x2 x3 M M1
      refine WpN.begin (S := S) 9 (by kernel_rfl) ?_
      refine WpN.takeD (i := 0) (v := ?_) rfl rfl (by kernel_rfl) (fun _ _ _ h => h) (Or.inl ⟨by rfl, ?_⟩) (by assumption) ?_
      rotate_left
      · intro w hSw; rw [hSS.out] at hSw; have sw0 := hSw; go_simp; try with_reducible rfl
      simp only [Act.put, List.setIfInBounds_toArray, List.set_cons_zero, List.set_cons_succ]
      refine WpN.takeD (i := 1) (v := ?_) rfl rfl (by kernel_rfl) (fun _ _ _ h => h) (Or.inl ⟨by rfl, ?_⟩) (by assumption) ?_
      rotate_left
      · intro w hSw; rw [hSS.out] at hSw; have sw0 := hSw; go_simp; try with_reducible rfl
      simp only [Act.put, List.setIfInBounds_toArray, List.set_cons_zero, List.set_cons_succ]
      refine WpN.takeD (i := 2) (v := ?_) rfl rfl (by kernel_rfl) (fun _ _ _ h => h) (Or.inl ⟨by rfl, ?_⟩) (by assumption) ?_
      rotate_left
      · intro w hSw; rw [hSS.out] at hSw; have sw0 := hSw; go_simp; try with_reducible rfl
      simp only [Act.put, List.setIfInBounds_toArray, List.set_cons_zero, List.set_cons_succ]
      refine WpN.takeD (i := 3) (v := ?_) rfl rfl (by kernel_rfl) (fun _ _ _ h => h) (Or.inl ⟨by rfl, ?_⟩) (by assumption) ?_
      rotate_left
      · intro w hSw; rw [hSS.out] at hSw; have sw0 := hSw; go_simp; try with_reducible rfl
      simp only [Act.put, List.setIfInBounds_toArray, List.set_cons_zero, List.set_cons_succ]
      refine WpN.one (i := 4) rfl (by kernel_rfl) fun K hK => ?_
      go_wp2_with (first | (refine (next_any s _ bA bE 65535 t1 _ M0.rd hs M0.le N1.out N2.out N3.out).mono ?_; rw [HQ2.out]; rintro e v2 ⟨rfl, P2⟩))
      have M2 := M0.next P2 l5 l6 a2
      have hS5 := HSB.out _ M2.gr
      refine hK.out _ _ ⟨fun _ => hS5, ?_⟩
      clear hK K
      try simp only [Act.put, List.setIfInBounds_toArray, List.set_cons_zero, List.set_cons_succ]
      refine WpN.takeD (i := 5) (v := ?_) rfl rfl (by kernel_rfl) (fun _ _ _ h => h) (Or.inl ⟨by rfl, ?_⟩) (by assumption) ?_
      rotate_left
      · intro w hSw; rw [hSS.out] at hSw; have sw0 := hSw; go_simp; try with_reducible rfl
      simp only [Act.put, List.setIfInBounds_toArray, List.set_cons_zero, List.set_cons_succ]
      refine WpN.one (i := 6) rfl (by kernel_rfl) fun K hK => ?_
      go_wp2_with fail
      have hS7 := HSB.out _ (M2.gr.alloc (Obj.cells #[.int .i64 (n1 : Int), .int .i64 (n2 : Int)] 110))
      refine hK.out _ _ ⟨fun _ => hS7, ?_⟩
      clear hK K
      try simp only [Act.put, List.setIfInBounds_toArray, List.set_cons_zero, List.set_cons_succ]
      refine WpN.one (i := 7) rfl (by kernel_rfl) fun K hK => ?_
      refine wp_append_lie (enc := ivlC) (.tmp 38) (.tmp 43) 25 rfl (gx + 1) 110 i0 _ 2 16 Try.underlying25 hi hz0 hz1 hz2 rfl (by decide) _ lv ⟨n1, n2⟩ rfl M2.lives _ rfl v2.heap.size rfl rfl rfl two_one (by have := hll.out; omega) (by decide) M2.big ?_
      intro gn cap w6 hown6 hbb hkp hgn
      have X6 := hkp _ _ _ M2.gr (M2.lives.other M2.gr (by decide))
      have hS8 := HSB.out _ X6
      refine hK.out _ _ ⟨fun _ => hS8, ?_⟩
      clear hK K
      try simp only [Act.put, List.setIfInBounds_toArray, List.set_cons_zero, List.set_cons_succ]
      refine WpN.takeD (i := 8) (v := ?_) rfl rfl (by kernel_rfl) (fun _ _ _ h => h) (Or.inl ⟨by rfl, ?_⟩) (by assumption) ?_
      rotate_left
      · intro w hSw; rw [hSS.out] at hSw; have sw0 := hSw; go_simp; try with_reducible rfl
      simp only [Act.put, List.setIfInBounds_toArray, List.set_cons_zero, List.set_cons_succ]
      refine WpN.one (i := 9) rfl (by kernel_rfl) fun K hK => ?_
      obtain ⟨y1, y2, y3⟩ := X6.facts
      go_wp2_with fail
      refine hK.out _ _ ⟨fun h => by omega, ?_⟩
      clear hK K
      refine WpN.done (by kernel_rfl) ?_ _
      clear y1 y2 y3
      go_wp2_with fail
      go_roundw
      case rel =>
        refine ⟨k + 1, .slice (some ⟨gn, 0, none⟩) (lv.length + 1) cap, lv ++ [⟨n1, n2⟩], t2, by omega, by go_num, HN, Lib.hid (by have := hll.out; simp; omega), ?_⟩
        have hk6 : ∀ (t : TypeId) b cs, t ≠ 110 → Blk v2 b t cs → Blk w6 b t cs := fun t b cs ht h => hkp _ _ _ h (M2.lives.other h ht)
        exact ⟨(show NxMem s w.heap.size bA bE t2 w6 from ⟨hk6 _ _ _ (by decide) M2.rd.str, hk6 _ _ _ (by decide) M2.rd.at_, hk6 _ _ _ (by decide) M2.rd.err⟩).far (by simp; omega) (by simp; omega) (by simp; omega) _, (hk6 _ _ _ (by decide) M2.res).far (by simp; omega) _, by simpa using X6.set_ 1 (.slice (some ⟨gn, 0, none⟩) (lv.length + 1) cap), by simpa using hown6.keep (keep_store X6 (by decide) 1 _), Own.nil, LegsAt.nil, (M2.bel.trans (hbb.mono (by omega))).setCell (by simp; omega) _, by have := hbb.size; have := M2.big; simp; omega, a2⟩
      case measure => simp [intOf]; omega
    have HLV : Hid (rList (rIvl s) nv st3 = (lv, st)) := Lib.hid (by rw [show nv = k by omega]; exact HL.out)
    have hl12 : lv.length ≤ 12 := by have := hll.out; omega
    go_wp2_with fail
    go_loopw [13] (fun x wr => ∃ (j : Nat) (ve : Value) (items : List EItem) (st' : RSt), j ≤ nk ∧ x = .int .i64 j ∧ Hid (rList (rEdge s) j st = (items.map Prod.fst, st')) ∧ Hid (items.length = j) ∧ EMem s w bR bA bE gx nh st' vl ve lv items wr) (fun x _ => nk - (intOf x).toNat)
    case atStart => exact ⟨0, _, [], st, Nat.zero_le _, rfl, Lib.hid rfl, Lib.hid rfl, M⟩
    case round =>
      clear M HL hk hlt hll
      obtain ⟨j, ve, items, st', hj, rfl, HE, hil, M⟩ := hrel
      by_cases hlt : j < nk
      case pos =>
        have HSE : Hid (rList (rEdge s) (j + 1) st = (items.map Prod.fst ++ [(rEdge s st').1], (rEdge s st').2)) := Lib.hid (by rw [rList, HE.out])
        clear HE
        go_wp2_with fail
        refine (next_any s _ bA bE 65535 st' _ M.rd hs M.le N1.out N2.out N3.out).mono ?_
        have ha1 := rnum_at s 65535 st' M.le
        obtain ⟨pq, hpq⟩ : ∃ q, rnum s 65535 st' = q := ⟨_, rfl⟩
        have Hna := Lib.hid hpq
        rw [hpq] at ha1
        clear hpq
        obtain ⟨na, te1⟩ := pq
        simp only at ha1
        rw [Hna.out]
        rintro e v1 ⟨rfl, P1⟩
        have M1 := M.next P1 l5 l6 ha1
        clear M P1
        go_wp2_with fail
        refine (next_any s _ bA bE 65535 te1 _ M1.rd hs M1.le N1.out N2.out N3.out).mono ?_
        have ha2 := rnum_at s 65535 te1 M1.le
        obtain ⟨pq, hpq⟩ : ∃ q, rnum s 65535 te1 = q := ⟨_, rfl⟩
        have Hnb := Lib.hid hpq
        rw [hpq] at ha2
        clear hpq
        obtain ⟨nb, te2⟩ := pq
        simp only at ha2
        rw [Hnb.out]
        rintro e v2 ⟨rfl, P2⟩
        have M2 := M1.next P2 l5 l6 ha2
        clear M1 P2
        go_wp2_with fail
        obtain ⟨bx, hbx⟩ : ∃ b, b = v2.heap.size := ⟨_, rfl⟩
        have X : XMem s w v2 bA bE bx na nb te2 (.slice none 0 0) [] (v2.alloc (Obj.cells #[.int .i64 (na : Int), .int .i64 (nb : Int), .slice none 0 0] 99)) :=
          ⟨M2.rd.alloc _, by rw [hbx]; exact Blk.new _ _ _, Own.nil, fun b t cs _ _ h => h.alloc _, ext_alloc M2.bel _, by rw [hbx]; simp, ha2⟩
        have lx : gx < bx := by rw [hbx]; exact M2.big
        have HLX : Hid (∀ b t cs, Blk v2 b t cs → b < bx) := Lib.hid fun b t cs h => by rw [hbx]; exact h.lt
        rw [← hbx]
        clear hbx
        refine (next_any s _ bA bE 6 te2 _ X.rd hs X.le N1.out N2.out N3.out).mono ?_
        have hm6 := (rnum_le s 6 te2).1
        have ha3 := rnum_at s 6 te2 X.le
        obtain ⟨pq, hpq⟩ : ∃ q, rnum s 6 te2 = q := ⟨_, rfl⟩
        have Hnm := Lib.hid hpq
        rw [hpq] at ha3
        clear hpq
        obtain ⟨nm, te3⟩ := pq
        simp only at ha3
        rw [Hnm.out] at hm6 ⊢
        simp only at hm6
        rintro e v3 ⟨rfl, P3⟩
        have X : XMem s w v2 bA bE bx na nb te3 (.slice none 0 0) [] v3 :=
          ⟨P3.mem, EMem.nextK X.rd P3 _ _ _ (by decide) (by decide) X.edge, Own.nil, fun b t cs q1 q2 h => P3.keep _ _ _ q1 q2 (X.keep b t cs q1 q2 h), P3.below _ _ X.bel (by omega) (by omega) X.bel.size, Nat.le_trans X.big P3.size, ha3⟩
        clear P3
        go_wp2_with fail
        go_loopw [17] (fun x wr => ∃ (k : Nat) (v : Value) (legs : List LegD) (st : RSt), k ≤ nm ∧ x = .int .i64 k ∧ Hid (rList (rLeg s) k te3 = (legs, st)) ∧ Hid (legs.length = k) ∧ XMem s w v2 bA bE bx na nb st v legs wr) (fun x _ => nm - (intOf x).toNat)
        case atStart => exact ⟨0, _, [], te3, Nat.zero_le _, rfl, Lib.hid rfl, Lib.hid rfl, X⟩
        case round =>
          clear X
          obtain ⟨q, v, legs, sq, hq, rfl, HL, hll, X⟩ := hrel
          by_cases hlq : q < nm
          case pos =>
            have HN : Hid (rList (rLeg s) (q + 1) te3 = (legs ++ [(rLeg s sq).1], (rLeg s sq).2)) := Lib.hid (by rw [rList, HL.out])
            clear HL
            have lw : w.heap.size < wr.heap.size := by have := X.big; omega
            go_wp2_with fail
            have L : LMem s w wr bA bE sq #[.int .i64 0, .int .i64 0, .int .i64 0, .int .i64 0] (wr.alloc (Obj.cells #[.int .i64 0, .int .i64 0, .int .i64 0, .int .i64 0] 114)) :=
              ⟨X.rd.alloc _, Blk.new _ _ _, fun _ _ _ _ _ h => h.alloc _, ext_alloc X.bel _, by simp⟩
            refine (next_any s _ bA bE 65535 sq _ L.rd hs X.le N1.out N2.out N3.out).mono ?_
            have b1 := rnum_at s 65535 sq X.le
            obtain ⟨pq, hpq⟩ : ∃ q, rnum s 65535 sq = q := ⟨_, rfl⟩
            have Hlf := Lib.hid hpq
            rw [hpq] at b1
            clear hpq
            obtain ⟨lf, u1⟩ := pq
            simp only at b1
            rw [Hlf.out]
            rintro e v4 ⟨rfl, P⟩
            have L := L.next P l5 l6
            clear P
            obtain ⟨y1, y2, y3⟩ := L.leg.facts
            go_wp2_with fail
            have L2 : LMem s w wr bA bE u1 #[.int .i64 (lf : Int), .int .i64 0, .int .i64 0, .int .i64 0] (v4.setCell ⟨wr.heap.size, 0, none⟩ (.int .i64 (lf : Int))) := by simpa using L.put lw 0 (.int .i64 (lf : Int))
            have L := L2
            clear y1 y2 y3 L2
            refine (next_any s _ bA bE 65535 u1 _ L.rd hs b1 N1.out N2.out N3.out).mono ?_
            have b2 := rnum_at s 65535 u1 b1
            obtain ⟨pq, hpq⟩ : ∃ q, rnum s 65535 u1 = q := ⟨_, rfl⟩
            have Hlt := Lib.hid hpq
            rw [hpq] at b2
            clear hpq
            obtain ⟨lt, u2⟩ := pq
            simp only at b2
            rw [Hlt.out]
            rintro e v5 ⟨rfl, P⟩
            have L := L.next P l5 l6
            clear P
            obtain ⟨y1, y2, y3⟩ := L.leg.facts
            go_wp2_with fail
            have L2 : LMem s w wr bA bE u2 #[.int .i64 (lf : Int), .int .i64 (lt : Int), .int .i64 0, .int .i64 0] (v5.setCell ⟨wr.heap.size, 1, none⟩ (.int .i64 (lt : Int))) := by simpa using L.put lw 1 (.int .i64 (lt : Int))
            have L := L2
            clear y1 y2 y3 L2
            refine (next_any s _ bA bE 65535 u2 _ L.rd hs b2 N1.out N2.out N3.out).mono ?_
            have b3 := rnum_at s 65535 u2 b2
            obtain ⟨pq, hpq⟩ : ∃ q, rnum s 65535 u2 = q := ⟨_, rfl⟩
            have Hlm := Lib.hid hpq
            rw [hpq] at b3
            clear hpq
            obtain ⟨lm, u3⟩ := pq
            simp only at b3
            rw [Hlm.out]
            rintro e v6 ⟨rfl, P⟩
            have L := L.next P l5 l6
            clear P
            obtain ⟨y1, y2, y3⟩ := L.leg.facts
            go_wp2_with fail
            have L2 : LMem s w wr bA bE u3 #[.int .i64 (lf : Int), .int .i64 (lt : Int), .int .i64 (lm : Int), .int .i64 0] (v6.setCell ⟨wr.heap.size, 2, none⟩ (.int .i64 (lm : Int))) := by simpa using L.put lw 2 (.int .i64 (lm : Int))
            have L := L2
            clear y1 y2 y3 L2
            refine (next_any s _ bA bE 65535 u3 _ L.rd hs b3 N1.out N2.out N3.out).mono ?_
            have b4 := rnum_at s 65535 u3 b3
            obtain ⟨pq, hpq⟩ : ∃ q, rnum s 65535 u3 = q := ⟨_, rfl⟩
            have Hlc := Lib.hid hpq
            rw [hpq] at b4
            clear hpq
            obtain ⟨lc, u4⟩ := pq
            simp only at b4
            rw [Hlc.out]
            rintro e v7 ⟨rfl, P⟩
            have L := L.next P l5 l6
            clear P
            obtain ⟨y1, y2, y3⟩ := L.leg.facts
            have L2 : LMem s w wr bA bE u4 #[.int .i64 (lf : Int), .int .i64 (lt : Int), .int .i64 (lm : Int), .int .i64 (lc : Int)] (v7.setCell ⟨wr.heap.size, 3, none⟩ (.int .i64 (lc : Int))) := by simpa using L.put lw 3 (.int .i64 (lc : Int))
            have HRL : Hid (rLeg s sq = (⟨lf, lt, lm, lc⟩, u4)) := Lib.hid (by simp only [rLeg, Hlf.out, Hlt.out, Hlm.out, Hlc.out])
            obtain ⟨La, ca, rfl⟩ := X.legs.form
            have hXe : Blk (v7.setCell ⟨wr.heap.size, 3, none⟩ (.int .i64 (lc : Int))) bx 99 #[.int .i64 na, .int .i64 nb, .slice La legs.length ca] := L2.keep _ _ _ (by omega) (by omega) X.edge
            have hXo : Own legC 4 (v7.setCell ⟨wr.heap.size, 3, none⟩ (.int .i64 (lc : Int))) (bx + 1) 114 (.slice La legs.length ca) legs := X.legs.keep (fun b cs h => L2.keep _ _ _ (blk_ne h X.rd.at_ (by decide)) (blk_ne h X.rd.err (by decide)) h)
            obtain ⟨t1, t2, t3⟩ := L2.leg.facts
            obtain ⟨z1, z2, z3⟩ := hXe.facts
            have hbxl : bx + 1 ≤ (v7.setCell ⟨wr.heap.size, 3, none⟩ (.int .i64 (lc : Int))).heap.size := by have := X.big; have := L2.big; omega
            go_wp2_with (at_builtin; refine wpList_append_lie (enc := legC) rfl (.tmp 77) (.tmp 79) 97 rfl (bx + 1) 114 l0 _ 4 32 Try.underlying97 hle hx0 hx1 hx2 rfl (by decide) _ legs ⟨lf, lt, lm, lc⟩ rfl hXo _ rfl v7.heap.size (by simp) rfl rfl four_one (by have := hll.out; omega) (by decide) hbxl ?_; intro gn cap w6 hown6 hbb hkp hgn; have X6 := hkp _ _ _ hXe (hXo.other hXe (by decide)); clear y1 y2 y3 z1 z2 z3 t1 t2 t3; obtain ⟨z1, z2, z3⟩ := X6.facts)
            go_roundw
            case rel =>
              refine ⟨q + 1, .slice (some ⟨gn, 0, none⟩) (legs.length + 1) cap, legs ++ [⟨lf, lt, lm, lc⟩], u4, by omega, by go_num, by rw [HRL.out] at HN; exact HN, Lib.hid (by have := hll.out; simp; omega), ?_⟩
              have hk6 : ∀ (t : TypeId) b cs, t ≠ 114 → Blk (v7.setCell ⟨wr.heap.size, 3, none⟩ (.int .i64 (lc : Int))) b t cs → Blk w6 b t cs := fun t b cs ht h => hkp _ _ _ h (hXo.other h ht)
              refine ⟨(show NxMem s w.heap.size bA bE u4 w6 from ⟨hk6 _ _ _ (by decide) L2.rd.str, hk6 _ _ _ (by decide) L2.rd.at_, hk6 _ _ _ (by decide) L2.rd.err⟩).far (by simp; omega) (by simp; omega) (by simp; omega) _, by simpa using X6.set_ 2 (.slice (some ⟨gn, 0, none⟩) (legs.length + 1) cap), by simpa using hown6.keep (keep_store X6 (by decide) 2 _), fun b t cs q1 q2 h => ?_, (L2.bel.trans (hbb.mono (by omega))).setCell (by simp; omega) _, by have := hbb.size; simp; omega, b4⟩
              have hblt := HLX.out b t cs h
              refine (hkp b t cs (L2.keep b t cs q1 q2 (X.keep b t cs q1 q2 h)) fun e => ?_).far (by simp; omega) _
              have := (World.ownsRow.lt hXo b e.symm).1
              omega
            case measure => simp [intOf]; omega
          case neg =>
            have HEX : Hid (rEdge s st' = (⟨na, nb, legs⟩, sq)) := Lib.hid (by
              have h4 := HL.out
              rw [show q = nm by omega] at h4
              simp only [rEdge, Hna.out, Hnb.out, Hnm.out, h4])
            have hMg : Blk wr gx 28 #[.int .i64 (nh : Int), vl, ve] := X.keep _ _ _ (by omega) (by omega) M2.gr
            obtain ⟨Ae, de, rfl⟩ := M2.edges.form
            obtain ⟨Lq, cq, rfl⟩ := X.legs.form
            have hed : Own eEnc 3 wr (gx + 1) 99 (.slice Ae items.length de) items := M2.edges.keep (fun b cs h => X.keep _ _ _ (blk_ne h M2.rd.at_ (by decide)) (blk_ne h M2.rd.err (by decide)) h)
            obtain ⟨y1, y2, y3⟩ := hMg.facts
            obtain ⟨z1, z2, z3⟩ := X.edge.facts
            have hgl : gx + 1 ≤ wr.heap.size := by have := X.big; omega
            go_wp2_with (at_builtin; refine wpList_append_lie (enc := eEnc) rfl (.tmp 83) (.tmp 85) 26 rfl (gx + 1) 99 j0 _ 3 40 Try.underlying26 hje hy0 hy1 hy2 rfl (by decide) _ items (⟨na, nb, legs⟩, Lq, cq) rfl hed _ rfl wr.heap.size rfl rfl rfl three_one (by have := hil.out; omega) (by decide) hgl ?_; intro gn cap w6 hown6 hbb hkp hgn; have X6 := hkp _ _ _ hMg (hed.other hMg (by decide)); clear y1 y2 y3 z1 z2 z3; obtain ⟨z1, z2, z3⟩ := X6.facts)
            go_roundw
            case rel =>
              refine ⟨j + 1, .slice (some ⟨gn, 0, none⟩) (items.length + 1) cap, items ++ [(⟨na, nb, legs⟩, Lq, cq)], sq, by omega, by go_num, Lib.hid (by rw [HSE.out, HEX.out]; simp), Lib.hid (by have := hil.out; simp; omega), ?_⟩
              have hk6 : ∀ (t : TypeId) b cs, t ≠ 99 → Blk wr b t cs → Blk w6 b t cs := fun t b cs ht h => hkp _ _ _ h (hed.other h ht)
              have hkv : ∀ (t : TypeId) b cs, t ≠ 3 → t ≠ 22 → Blk v2 b t cs → Blk wr b t cs := fun t b cs h1 h2 h => X.keep _ _ _ (blk_ne h M2.rd.at_ h1) (blk_ne h M2.rd.err h2) h
              have hrm := X.legs.room
              exact ⟨(show NxMem s w.heap.size bA bE sq w6 from ⟨hk6 _ _ _ (by decide) X.rd.str, hk6 _ _ _ (by decide) X.rd.at_, hk6 _ _ _ (by decide) X.rd.err⟩).far (by simp; omega) (by simp; omega) (by simp; omega) _,
                (hk6 _ _ _ (by decide) (hkv _ _ _ (by decide) (by decide) M2.res)).far (by simp; omega) _, by simpa using X6.set_ 2 (.slice (some ⟨gn, 0, none⟩) (items.length + 1) cap),
                M2.lives.keep (fun b cs h => keep_store X6 (by decide) 2 _ b cs (hk6 _ _ _ (by decide) (hkv _ _ _ (by decide) (by decide) h))), by simpa using hown6.keep (keep_store X6 (by decide) 2 _),
                (((M2.legs.keep (fun b cs h => hkv _ _ _ (by decide) (by decide) h)).keep (fun b cs h => hk6 _ _ _ (by decide) h)).snoc (it := (⟨na, nb, legs⟩, Lq, cq)) ⟨X.legs.lown.keep (fun b cs h => hk6 _ _ _ (by decide) h), hrm.1, hrm.2⟩).keep (keep_store X6 (by decide) 2 _),
                (X.bel.trans (hbb.mono (by omega))).setCell (by simp; omega) _, by have := hbb.size; simp; omega, X.le⟩
            case measure => simp [intOf]; omega
      case neg =>
        have HRG : Hid (rGraph s = (⟨nh, lv, (rList (rEdge s) nk st).1⟩, (rList (rEdge s) nk st).2)) := Lib.hid (by simp only [rGraph, Hnh.out, Hnv.out, Hnk.out, HLV.out])
        obtain rfl : j = nk := by omega
        have HRG : Hid (rGraph s = (⟨nh, lv, items.map Prod.fst⟩, st')) := Lib.hid (by rw [HRG.out, HE.out])
        have hat := M.le
        obtain ⟨r1, r2, r3⟩ := M.rd.str.facts
        obtain ⟨a1, a2, a3⟩ := M.rd.at_.facts
        obtain ⟨b1, b2, b3⟩ := M.rd.err.facts
        obtain ⟨s1, s2, s3⟩ := M.res.facts
        by_cases he : st'.2 = 0
        case neg =>
          have hn : (st'.2 == 0) = false := by simp [he]
          have hn2 : (st'.2 != 0) = true := by simp [he]
          have HD : Hid (decErr s = st'.2) := Lib.hid (by unfold decErr; rw [HRG.out, if_pos he])
          have HO : Hid (decOut s = zeroG) := Lib.hid (by unfold decOut; rw [if_neg (by rw [HD.out]; exact he)])
          have HDN : Hid (decN s = 0) := Lib.hid (by unfold decN; rw [if_neg (by rw [HD.out]; exact he)])
          clear he
          go_wp2_with fail
          go_region
          go_wp2_with fail
          refine bodyPost_ret (v := .tuple #[gV none 0 none 0 zeroG, .int .i64 0, .int .i64 st'.2]) (by simp [results, Try.results65, go_sem, s1, s2, s3, zeroG]) rfl ?_
          refine ⟨none, 0, none, 0, by rw [HD.out, HO.out, HDN.out]; rfl, by rw [HO.out]; exact zero_at _, ?_⟩
          have hbb := M.bel
          go_grown
        case pos =>
          have hn : (st'.2 == 0) = true := by simp [he]
          have hn2 : (st'.2 != 0) = false := by simp [he]
          by_cases h4 : s.size < st'.1 + 4
          case pos =>
            have hd : decide ((st'.1 : Int) + 4 > (s.size : Int)) = true := by simp; omega
            have HD : Hid (decErr s = 5) := Lib.hid (by unfold decErr; rw [HRG.out, if_neg (by simp [he]), if_pos h4])
            have HO : Hid (decOut s = zeroG) := Lib.hid (by unfold decOut; rw [if_neg (by rw [HD.out]; decide)])
            have HDN : Hid (decN s = 0) := Lib.hid (by unfold decN; rw [if_neg (by rw [HD.out]; decide)])
            clear he h4
            go_wp2_with fail
            go_region
            go_wp2_with fail
            refine bodyPost_ret (v := .tuple #[gV none 0 none 0 zeroG, .int .i64 0, .int .i64 5]) (by simp [results, Try.results65, go_sem, s1, s2, s3, zeroG]) rfl ?_
            refine ⟨none, 0, none, 0, by rw [HD.out, HO.out, HDN.out]; rfl, by rw [HO.out]; exact zero_at _, ?_⟩
            have hbb := M.bel
            go_grown
          case neg =>
            have hd : decide ((st'.1 : Int) + 4 > (s.size : Int)) = false := by simp; omega
            have HDE : Hid (decErr s = if tail4 s st'.1 ≠ crc (s.extract 0 st'.1) then 5 else graphErr ⟨nh, lv, items.map Prod.fst⟩) := Lib.hid (by unfold decErr; rw [HRG.out, if_neg (by simp [he]), if_neg h4])
            have h4 : st'.1 + 4 ≤ s.size := by omega
            have hel : (s.extract 0 st'.1).size = st'.1 := by simp; omega
            clear he
            go_wp2_with (go_at_call 35; refine (refSum_any _ _ (by omega)).mono ?_; rintro e wx ⟨rfl, rfl⟩)
            obtain ⟨K, hK⟩ : ∃ K, crc (s.extract 0 st'.1) = K := ⟨_, rfl⟩
            have HKL : Hid (K < 4294967296) := Lib.hid (by rw [← hK]; exact crc_lt _)
            rw [hK] at HDE ⊢
            clear hK hel
            go_loopw [19, 20] (fun x i wq => ∃ (q u : Nat), q ≤ 4 ∧ x = .int .u32 (u : Int) ∧ i = .int .i64 (q : Int) ∧ Hid (u = K / 256 ^ q) ∧ Hid (∀ j, j < q → byteAt s (st'.1 + j) = K / 256 ^ j % 256) ∧ EMem s w bR bA bE gx nh st' vl ve lv items wq) (fun _ i _ => 4 - (intOf i).toNat)
            case atStart => exact ⟨0, K, by omega, rfl, rfl, Lib.hid (by simp), Lib.hid (fun j hj => by omega), M⟩
            case round =>
              clear M r1 r2 r3 a1 a2 a3 b1 b2 b3 s1 s2 s3
              obtain ⟨q, u, hq, rfl, rfl, HU, HB, M⟩ := hrel
              obtain ⟨r1, r2, r3⟩ := M.rd.str.facts
              obtain ⟨a1, a2, a3⟩ := M.rd.at_.facts
              obtain ⟨s1, s2, s3⟩ := M.res.facts
              by_cases hq4 : q < 4
              case pos =>
                have hix : st'.1 + q < s.size := by omega
                have g1 : ((s[st'.1 + q]'hix).toNat) = byteAt s (st'.1 + q) := (byteAt_of hix).symm
                have hu256 : u % 256 < 256 := Nat.mod_lt _ (by decide)
                have hb := byteAt_lt s (st'.1 + q)
                by_cases hne : u % 256 = byteAt s (st'.1 + q)
                case neg =>
                  have hnb : (((u % 256 : Nat) : Int) != ((byteAt s (st'.1 + q) : Nat) : Int)) = true := by simp; omega
                  have HD : Hid (decErr s = 5) := Lib.hid (by rw [HDE.out, if_pos fun e => hne (by rw [HU.out, tail4_digit e hq4])])
                  have HO : Hid (decOut s = zeroG) := Lib.hid (by unfold decOut; rw [if_neg (by rw [HD.out]; decide)])
                  have HDN : Hid (decN s = 0) := Lib.hid (by unfold decN; rw [if_neg (by rw [HD.out]; decide)])
                  clear hne
                  go_wp2_with fail
                  refine bodyPost_ret (v := .tuple #[gV none 0 none 0 zeroG, .int .i64 0, .int .i64 5]) (by simp [results, Try.results65, go_sem, s1, s2, s3, zeroG]) rfl ?_
                  refine ⟨none, 0, none, 0, by rw [HD.out, HO.out, HDN.out]; rfl, by rw [HO.out]; exact zero_at _, ?_⟩
                  have hbb := M.bel
                  go_grown
                case pos =>
                  have hnb : (((u % 256 : Nat) : Int) != ((byteAt s (st'.1 + q) : Nat) : Int)) = false := by simp; omega
                  have HU2 : Hid (u / 256 = K / 256 ^ (q + 1)) := Lib.hid (by rw [HU.out, Nat.div_div_eq_div_mul, Nat.pow_succ])
                  have HB2 : Hid (∀ j, j < q + 1 → byteAt s (st'.1 + j) = K / 256 ^ j % 256) := Lib.hid fun j hj => by
                    by_cases e : j = q
                    · rw [e, ← hne, HU.out]
                    · exact HB.out j (by omega)
                  clear hne
                  go_wp2_with fail
                  go_roundw
                  case rel =>
                    have hu32 : u < 4294967296 := by rw [HU.out]; exact Nat.lt_of_le_of_lt (Nat.div_le_self _ _) HKL.out
                    exact ⟨q + 1, u / 256, by omega, by go_num, by go_num, HU2, HB2, M⟩
                  case measure => simp [intOf]; omega
              case neg =>
                obtain rfl : q = 4 := by omega
                have hsum : tail4 s st'.1 = K := tail4_of HKL.out HB.out
                have hIL : ∀ x, x ∈ lv → I64 x.f ∧ I64 x.t := by
                  have e : lv = (rList (rIvl s) nv st3).1 := by rw [HLV.out]
                  rw [e]; exact rList_all (rIvl_small s) _ _
                have hIE : ∀ it, it ∈ items → I64 it.1.a ∧ I64 it.1.b ∧ ∀ x, x ∈ it.1.legs → LegI x := fun it hit => by
                  have e : items.map Prod.fst = (rList (rEdge s) j st).1 := by rw [HE.out]
                  exact rList_all (P := fun x : EdgeD => I64 x.a ∧ I64 x.b ∧ ∀ y, y ∈ x.legs → LegI y) (rEdge_small s) j st it.1 (by rw [← e]; exact List.mem_map_of_mem hit)
                have HIL := Lib.hid hIL; have HIE := Lib.hid hIE
                have hhr := (rnum_le s 65535 (0, 0)).1
                rw [Hnh.out] at hhr
                simp only at hhr
                obtain ⟨Al, dl, rfl⟩ := M.lives.form
                obtain ⟨Ae, de, rfl⟩ := M.edges.form
                have hlvr := M.lives.room; have her := M.edges.room
                obtain ⟨x1, x2, x3⟩ := M.gr.facts
                clear hIL hIE hq hq4 HB HU
                have HDE : Hid (decErr s = graphErr ⟨nh, lv, items.map Prod.fst⟩) := Lib.hid (by rw [HDE.out, if_neg (by simp [hsum])])
                have hlen : (items.map Prod.fst).length = items.length := by simp
                have HG : ∀ w', (∀ (t : TypeId) b cs, t ≠ 28 → Blk wr b t cs → Blk w' b t cs) → GraphAt w' Al dl Ae de ⟨nh, lv, items.map Prod.fst⟩ := fun w' hk => by
                  obtain ⟨Av', dv', hvv, hSv⟩ := own_lives (M.lives.keep (fun b cs h => hk _ _ _ (by decide) h)) HIL.out
                  obtain ⟨Ae', de', hee, hSe⟩ := own_edges (M.edges.keep (fun b cs h => hk _ _ _ (by decide) h)) (M.legs.keep (fun b cs h => hk _ _ _ (by decide) h)) HIE.out
                  simp only [Value.slice.injEq, true_and] at hvv hee
                  obtain ⟨rfl, rfl⟩ := hvv
                  obtain ⟨rfl, rfl⟩ := hee
                  exact ⟨⟨by simp only; omega, by simp only; omega⟩, hlvr.1, hlvr.2, by rw [hlen]; exact her.1, her.2, hSv, hSe⟩
                have HGH := Lib.hid HG
                have hG := HG wr (fun _ _ _ _ h => h)
                have HCK := Lib.hid (refGraph_any Al Ae dl de ⟨nh, lv, items.map Prod.fst⟩ wr hG)
                simp only [gV, hlen] at HCK
                clear hsum HG hG hlen
                go_wp2_with fail
                refine HCK.out.mono ?_
                rintro e w7 ⟨rfl, hb7⟩
                have BS := M.res.ext hb7
                have BX := M.gr.ext hb7
                have BA := M.rd.at_.ext hb7
                have hbb := ext_trans M.bel hb7
                have HK7 : Hid (∀ (t : TypeId) b cs, t ≠ 28 → Blk wr b t cs → Blk w7 b t cs) := Lib.hid fun t b cs _ h => h.ext hb7
                clear s1 s2 s3 x1 x2 x3 r1 r2 r3 a1 a2 a3 HCK
                obtain ⟨s1, s2, s3⟩ := BS.facts
                obtain ⟨x1, x2, x3⟩ := BX.facts
                obtain ⟨a1, a2, a3⟩ := BA.facts
                by_cases hce : graphErr ⟨nh, lv, items.map Prod.fst⟩ = 0
                case neg =>
                  have hc : (graphErr ⟨nh, lv, items.map Prod.fst⟩ != 0) = true := by simp [hce]
                  have HO : Hid (decOut s = zeroG) := Lib.hid (by unfold decOut; rw [if_neg (by rw [HDE.out]; exact hce)])
                  have HDN : Hid (decN s = 0) := Lib.hid (by unfold decN; rw [if_neg (by rw [HDE.out]; exact hce)])
                  clear hce
                  go_wp2_with fail
                  refine bodyPost_ret (v := .tuple #[gV none 0 none 0 zeroG, .int .i64 0, .int .i64 (graphErr ⟨nh, lv, items.map Prod.fst⟩)]) (by simp [results, Try.results65, go_sem, s1, s2, s3, zeroG]) rfl ?_
                  refine ⟨none, 0, none, 0, by rw [HDE.out, HO.out, HDN.out]; rfl, by rw [HO.out]; exact zero_at _, ?_⟩
                  go_grown
                case pos =>
                  have hc : (graphErr ⟨nh, lv, items.map Prod.fst⟩ != 0) = false := by simp [hce]
                  have HD : Hid (decErr s = 0) := Lib.hid (by rw [HDE.out, hce])
                  have HO : Hid (decOut s = ⟨nh, lv, items.map Prod.fst⟩) := Lib.hid (by unfold decOut; rw [if_pos HD.out, HRG.out])
                  have HDN : Hid (decN s = st'.1 + 4) := Lib.hid (by unfold decN; rw [if_pos HD.out, HRG.out])
                  clear hce
                  go_wp2_with fail
                  go_region
                  go_wp2_with fail
                  refine bodyPost_ret (v := .tuple #[gV Al dl Ae de ⟨nh, lv, items.map Prod.fst⟩, .int .i64 ((st'.1 : Int) + 4), .int .i64 0]) (by simp [results, Try.results65, go_sem, s1, s2, s3, x1, x2, x3]) rfl ?_
                  refine ⟨Al, dl, Ae, de, by rw [HD.out, HO.out, HDN.out]; rfl, ?_, ?_⟩
                  · rw [HO.out]
                    refine HGH.out _ fun t b cs ht h => ?_
                    have h7 := HK7.out t b cs ht h
                    have hne := blk_ne h7 BS ht
                    exact (((h7.drewN _).far hne _).far hne _).far hne _
                  · go_grown
end Go.Proofs.Ytcgnalpcbcpmkaa
/- The walk of the law PackReads. -/
namespace Go.Proofs.Ytcgnalpcbcpmkaa
open Go.RowKit

set_option maxRecDepth 100000 in
set_option maxHeartbeats 2000000 in
theorem packReads_calls (s : ByteArray) {w0 : World} (hs : s.size ≤ 140737488351232) :
    Calls Try.prog 12 #[.string s] w0 fun e w' => e = .returned (.bool true) ∧ Below w0.heap.size w0 w' := by
  go_enter Try.func12, Try.ntmps12
  go_wp2_with fail
  refine (decode_any s _ (by unfold maxLen; omega)).mono ?_
  rintro e w1 ⟨A1, c1, A1', c1', rfl, hG1, hb1⟩
  obtain ⟨g, hg⟩ : ∃ g, g = decOut s := ⟨_, rfl⟩
  obtain ⟨n, hn⟩ : ∃ n, n = decN s := ⟨_, rfl⟩
  obtain ⟨er, her⟩ : ∃ er, er = decErr s := ⟨_, rfl⟩
  rw [← hg] at hG1 ⊢
  rw [← hn, ← her]
  have HG := Lib.hid hg; have HN := Lib.hid hn; have HE := Lib.hid her
  clear hg hn her
  go_wp2_with fail
  refine (decoded_any s _ hs).mono ?_
  rintro e w2 ⟨A2, c2, A2', c2', rfl, hG2, hb2⟩
  rw [← HG.out] at hG2 ⊢
  rw [← HN.out, ← HE.out]
  have hbb : Below w0.heap.size w0 w2 := ext_trans (ext_trans hb1 (by go_grown)) hb2
  have hG1 := hG1.ext (ext_trans (by go_grown) hb2)
  have hB1 := (Blk.new w1 28 (gC A1 c1 A1' c1' g)).ext hb2
  obtain ⟨p1, p2, p3⟩ := (hB1.alloc (.cells (gC A2 c2 A2' c2' g) 28)).facts
  clear hb1 hb2 hB1
  go_wp2_with fail
  refine (sameGraph_any _ _ _ _ _ _ _ _ g _ (hG1.ext (by go_grown)) (hG2.ext (by go_grown))).mono ?_
  rintro e w3 ⟨rfl, hb3⟩
  have hbb := ext_trans (ext_trans hbb (by go_grown)) hb3
  go_wp2_with fail
  go_ret
  exact ⟨by simp, hbb⟩
end Go.Proofs.Ytcgnalpcbcpmkaa
