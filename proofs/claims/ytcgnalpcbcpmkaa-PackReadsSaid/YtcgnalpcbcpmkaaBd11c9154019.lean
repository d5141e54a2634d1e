/- Several texts in one: Decode, LawOne. -/
import Derived.BigRegion
import Derived.BigQuiet
import Derived.Deep.DeepCutAuto
import Derived.Test.YtcgnalpcbcpmkaaBd784cba0449
import Derived.Test.YtcgnalpcbcpmkaaBda3e52e72a0
import Derived.Test.YtcgnalpcbcpmkaaBd449dd27526
import Derived.Test.YtcgnalpcbcpmkaaBded4119261a
/- The walk of pack.Decode. -/
namespace Go.Proofs.Ytcgnalpcbcpmkaa
open Go.RowKit

def DecOutP (s : ByteArray) (w : World) (e : Ending) (w' : World) : Prop := ∃ A c A' c', e = .returned (.tuple #[gV A c A' c' (decOut s), .int .i64 (decN s : Int), .int .i64 (decErr s)]) ∧ GraphAt w' A c A' c' (decOut s) ∧ Below w.heap.size w w'
/-- What lies in memory while a graph is read. -/
structure DMem (s : ByteArray) (w0 : World) (rb gx : Nat) (h : Int) (st : RSt) (vl ve : Value) (lv : List IvlD) (items : List EItem) (w : World) : Prop where
  rd : Blk w rb 138 (rdC s st)
  res : Blk w w0.heap.size 28 #[.int .i64 0, .slice none 0 0, .slice none 0 0]
  gr : Blk w gx 28 #[.int .i64 h, vl, ve]
  lives : Own ivlC 2 w (gx + 1) 110 vl lv
  edges : Own eEnc 3 w (gx + 1) 99 ve items
  legs : LegsAt w items
  bel : Below w0.heap.size w0 w
  big : gx + 1 ≤ w.heap.size
  le : st.1 ≤ s.size
section
variable {s : ByteArray} {w0 w w' : World} {rb gx : Nat} {h : Int} {st q : RSt} {vl ve : Value} {lv : List IvlD} {items : List EItem}
theorem DMem.drew (m : DMem s w0 rb gx h st vl ve lv items w) : DMem s w0 rb gx h st vl ve lv items w.drew := ⟨m.rd.drew, m.res.drew, m.gr.drew, m.lives.keep (fun _ _ h => h.drew), m.edges.keep (fun _ _ h => h.drew), m.legs.keep (fun _ _ h => h.drew), below_drew m.bel, m.big, m.le⟩
theorem DMem.drewN (m : DMem s w0 rb gx h st vl ve lv items w) (n : Nat) : DMem s w0 rb gx h st vl ve lv items (w.drewN n) := ⟨m.rd.drewN n, m.res.drewN n, m.gr.drewN n, m.lives.keep (fun _ _ h => Blk.drewN h n), m.edges.keep (fun _ _ h => Blk.drewN h n), m.legs.keep (fun _ _ h => Blk.drewN h n), below_drewN m.bel n, m.big, m.le⟩
theorem DMem.rdOut (m : DMem s w0 rb gx h st vl ve lv items w) (hO : RdOut rb s q w w') (h1 : w0.heap.size < rb) (h2 : rb < gx) (hq : q.1 ≤ s.size) : DMem s w0 rb gx h q vl ve lv items w' :=
  ⟨hO.blk, hO.keep _ _ _ (by omega) m.res, hO.keep _ _ _ (by omega) m.gr, m.lives.keep (fun b cs h => hO.keep _ _ _ (blk_ne h m.rd (by decide)) h), m.edges.keep (fun b cs h => hO.keep _ _ _ (blk_ne h m.rd (by decide)) h), m.legs.keep (fun b cs h => hO.keep _ _ _ (blk_ne h m.rd (by decide)) h),
    hO.below _ _ m.bel (by omega) m.bel.size, Nat.le_trans m.big hO.size, hq⟩
end

set_option maxRecDepth 100000 in
set_option maxHeartbeats 8000000 in
theorem decode_any (s : ByteArray) (w : World) (hs : s.size ≤ maxLen) : Calls Try.prog 64 #[.string s] w (DecOutP s w) := by
  have hs : s.size ≤ 9223372036854775807 := by unfold maxLen at hs; omega
  obtain ⟨i0, hi, hz0, hz1, hz2⟩ := info_ivl2
  obtain ⟨j0, hje, hy0, hy1, hy2⟩ := info_edge2
  go_enter Try.func64, Try.ntmps64
  go_wp2_with fail
  have B0 := (Blk.new w 28 #[.int .i64 0, .slice none 0 0, .slice none 0 0]).alloc (Obj.cells (rdC s (0, 0)) 138)
  have BR : Blk ((w.alloc (Obj.cells #[.int .i64 0, .slice none 0 0, .slice none 0 0] 28)).alloc (Obj.cells (rdC s (0, 0)) 138)) (w.heap.size + 1) 138 (rdC s (0, 0)) := Blk.new_ (by simp)
  have hbw : Below w.heap.size w ((w.alloc (Obj.cells #[.int .i64 0, .slice none 0 0, .slice none 0 0] 28)).alloc (Obj.cells (rdC s (0, 0)) 138)) := by go_grown
  have hsz : w.heap.size + 1 < ((w.alloc (Obj.cells #[.int .i64 0, .slice none 0 0, .slice none 0 0] 28)).alloc (Obj.cells (rdC s (0, 0)) 138)).heap.size := by simp
  refine (number_any (w.heap.size + 1) s (0, 0) _ BR hs (Nat.zero_le _)).mono ?_
  have hr1 := rnum_at s 65535 (0, 0) (Nat.zero_le _)
  obtain ⟨p1, hp1⟩ : ∃ q, rnum s 65535 (0, 0) = q := ⟨_, rfl⟩
  have HP1 := Lib.hid hp1
  rw [hp1] at hr1 ⊢
  clear hp1
  obtain ⟨nh, st1⟩ := p1
  simp only at hr1 ⊢
  rintro e w1 ⟨rfl, hO1⟩
  have B0 := hO1.keep _ _ _ (by omega) B0
  have hb1 := hO1.below _ _ hbw (by omega) (by omega)
  have hsz1 : w.heap.size + 1 < w1.heap.size := Nat.lt_of_lt_of_le hsz hO1.size
  have BR := hO1.blk
  clear hO1 hbw hsz
  go_wp2_with fail
  obtain ⟨rb, hrb⟩ : ∃ rb, rb = w.heap.size + 1 := ⟨_, rfl⟩
  obtain ⟨gx, hgx⟩ : ∃ gx, gx = w1.heap.size := ⟨_, rfl⟩
  have M : DMem s w rb gx nh st1 (.slice none 0 0) (.slice none 0 0) [] [] (w1.alloc (Obj.cells #[.int .i64 (nh : Int), .slice none 0 0, .slice none 0 0] 28)) :=
    ⟨by rw [hrb]; exact BR.alloc _, B0.alloc _, by rw [hgx]; exact Blk.new _ _ _, Own.nil, Own.nil, LegsAt.nil, ext_alloc hb1 _, by rw [hgx]; simp, hr1⟩
  have l1 : w.heap.size < rb := by omega
  have l2 : rb < gx := by omega
  rw [← hrb, ← hgx]
  clear hrb hgx B0 BR hb1 hsz1
  refine (many_any rb 12 s st1 _ M.rd hs M.le (by decide)).mono ?_
  have hr2 := rnum_at s 12 st1 M.le
  have hv12 := (rnum_le s 12 st1).1
  obtain ⟨p2, hp2⟩ : ∃ q, rnum s 12 st1 = q := ⟨_, rfl⟩
  have HP2 := Lib.hid hp2
  rw [hp2] at hr2 hv12 ⊢
  clear hp2
  obtain ⟨nv, st2⟩ := p2
  simp only at hr2 hv12 ⊢
  rintro e w2 ⟨rfl, hO2⟩
  have M := M.rdOut hO2 l1 l2 hr2
  clear hO2
  have R := M.rd
  simp only [rdC] at R
  obtain ⟨r1, r2, r3⟩ := R.facts
  go_upto_if 25 with fail
  go_cut [8] from 25 to 27 (fun x wx => ∃ (k : Nat) (st : RSt), x = .int .i64 k ∧ Hid (rnum s 30 st2 = (k, st)) ∧ k ≤ 30 ∧ DMem s w rb gx nh st (.slice none 0 0) (.slice none 0 0) [] [] wx)
  case first =>
    have hr3 := rnum_at s 30 st2 M.le
    have hk30 := (rnum_le s 30 st2).1
    by_cases he : st2.2 = 0
    case neg =>
      have hn : (st2.2 == 0) = false := by simp [he]
      have HP3 := Lib.hid (rnum_bad (s := s) (m := 30) he)
      clear he
      go_wp2_with fail
      go_meet
      exact ⟨0, st2, rfl, HP3, by omega, M⟩
    case pos =>
      have hn : (st2.2 == 0) = true := by simp [he]
      obtain ⟨p3, hp3⟩ : ∃ q, rnum s 30 st2 = q := ⟨_, rfl⟩
      have HP3 := Lib.hid hp3
      rw [hp3] at hr3 hk30
      clear he hp3
      go_wp2_with fail
      refine (many_any rb 30 s st2 _ M.rd hs M.le (by decide)).mono ?_
      rw [HP3.out]
      obtain ⟨nk, st3⟩ := p3
      simp only at hr3 hk30 ⊢
      rintro e w3 ⟨rfl, hO3⟩
      have M := M.rdOut hO3 l1 l2 hr3
      go_wp2_with fail
      go_meet
      exact ⟨nk, st3, rfl, HP3, hk30, M⟩
  case rest =>
    clear M R r1 r2 r3
    obtain ⟨nk, st3, rfl, HP3, hk30, M⟩ := hcut
    go_wp2_with fail
    go_loopw [29] (fun x wr => ∃ (k : Nat) (vl : Value) (lv : List IvlD) (st : RSt), k ≤ nv ∧ x = .int .i64 k ∧ Hid (rList (rIvl s) k st3 = (lv, st)) ∧ Hid (lv.length = k) ∧ DMem s w rb gx nh st vl (.slice none 0 0) lv [] wr) (fun x _ => nv - (intOf x).toNat)
    case atStart => exact ⟨0, _, [], st3, Nat.zero_le _, rfl, Lib.hid rfl, Lib.hid rfl, M⟩
    case round =>
      clear M
      obtain ⟨k, vl, lv, st, hk, rfl, HL, hll, M⟩ := hrel
      by_cases hlt : k < nv
      case pos =>
        obtain ⟨x1, x2, x3⟩ := M.gr.facts
        obtain ⟨Al, dl, rfl⟩ := M.lives.form
        have HST : Hid (rIvl s st = (⟨(rnum s 65535 st).1, (rnum s 65535 (rnum s 65535 st).2).1⟩, (rnum s 65535 (rnum s 65535 st).2).2)) := Lib.hid rfl
        have a1 := rnum_at s 65535 st M.le
        obtain ⟨q1, hq1⟩ : ∃ q, rnum s 65535 st = q := ⟨_, rfl⟩
        rw [hq1] at HST a1
        obtain ⟨n1, t1⟩ := q1
        simp only at HST a1
        have a2 := rnum_at s 65535 t1 a1
        obtain ⟨q2, hq2⟩ : ∃ q, rnum s 65535 t1 = q := ⟨_, rfl⟩
        rw [hq2] at HST a2
        obtain ⟨n2, t2⟩ := q2
        simp only at HST a2
        have HQ1 := Lib.hid hq1; have HQ2 := Lib.hid hq2
        clear hq1 hq2
        have HN : Hid (rList (rIvl s) (k + 1) st3 = (lv ++ [⟨n1, n2⟩], t2)) := Lib.hid (by rw [rList, HL.out]; simp only; rw [HST.out])
        go_wp2_with fail
        obtain ⟨S, hSS⟩ : ∃ S : World → Prop, Hid (S = fun w' => w'.cell? ⟨gx, 1, none⟩ = some (.slice Al lv.length dl)) := ⟨_, Lib.hid rfl⟩
        have hSb : ∀ w', Blk w' gx 28 #[.int .i64 (nh : Int), .slice Al lv.length dl, .slice none 0 0] → S w' := fun w' h => by rw [hSS.out]; show w'.cell? ⟨gx, 1, none⟩ = _; rw [h.cell]; rfl
        have HSB := Lib.hid hSb
        have M0 := M.drew
        have hS0 : S wr.drew := hSb _ M0.gr
        clear hSb x1 x2 x3 M
        refine WpN.begin (S := S) 10 (by kernel_rfl) ?_
        refine WpN.takeD (i := 0) (v := ?_) rfl rfl (by kernel_rfl) (fun _ _ _ h => h) (Or.inl ⟨by rfl, ?_⟩) (by assumption) ?_
        rotate_left
        · intro w hSw; rw [hSS.out] at hSw; have sw0 := hSw; go_simp; try with_reducible rfl
        simp only [Act.put, List.setIfInBounds_toArray, List.set_cons_zero, List.set_cons_succ]
        refine WpN.takeD (i := 1) (v := ?_) rfl rfl (by kernel_rfl) (fun _ _ _ h => h) (Or.inl ⟨by rfl, ?_⟩) (by assumption) ?_
        rotate_left
        · intro w hSw; rw [hSS.out] at hSw; have sw0 := hSw; go_simp; try with_reducible rfl
        simp only [Act.put, List.setIfInBounds_toArray, List.set_cons_zero, List.set_cons_succ]
        refine WpN.takeD (i := 2) (v := ?_) rfl rfl (by kernel_rfl) (fun _ _ _ h => h) (Or.inl ⟨by rfl, ?_⟩) (by assumption) ?_
        rotate_left
        · intro w hSw; rw [hSS.out] at hSw; have sw0 := hSw; go_simp; try with_reducible rfl
        simp only [Act.put, List.setIfInBounds_toArray, List.set_cons_zero, List.set_cons_succ]
        refine WpN.takeD (i := 4) (v := ?_) rfl rfl (by kernel_rfl) (fun _ _ _ h => h) (Or.inl ⟨by rfl, ?_⟩) (by assumption) ?_
        rotate_left
        · intro w hSw; rw [hSS.out] at hSw; have sw0 := hSw; go_simp; try with_reducible rfl
        simp only [Act.put, List.setIfInBounds_toArray, List.set_cons_zero, List.set_cons_succ]
        refine WpN.one (i := 3) rfl (by kernel_rfl) fun K hK => ?_
        go_wp2_with (first | (refine (number_any rb s st _ M0.rd hs M0.le).mono ?_; rw [HQ1.out]; rintro e v1 ⟨rfl, P1⟩))
        have M1 := M0.rdOut P1 l1 l2 a1
        have hS3 := HSB.out _ M1.gr
        refine hK.out _ _ ⟨fun _ => hS3, ?_⟩
        clear hK K
        try simp only [Act.put, List.setIfInBounds_toArray, List.set_cons_zero, List.set_cons_succ]
        refine WpN.one (i := 5) rfl (by kernel_rfl) fun K hK => ?_
        go_wp2_with (first | (refine (number_any rb s t1 _ M1.rd hs a1).mono ?_; rw [HQ2.out]; rintro e v2 ⟨rfl, P2⟩))
        have M2 := M1.rdOut P2 l1 l2 a2
        have hS5 := HSB.out _ M2.gr
        refine hK.out _ _ ⟨fun _ => hS5, ?_⟩
        clear hK K
        try simp only [Act.put, List.setIfInBounds_toArray, List.set_cons_zero, List.set_cons_succ]
        refine WpN.takeD (i := 6) (v := ?_) rfl rfl (by kernel_rfl) (fun _ _ _ h => h) (Or.inl ⟨by rfl, ?_⟩) (by assumption) ?_
        rotate_left
        · intro w hSw; rw [hSS.out] at hSw; have sw0 := hSw; go_simp; try with_reducible rfl
        simp only [Act.put, List.setIfInBounds_toArray, List.set_cons_zero, List.set_cons_succ]
        refine WpN.one (i := 7) rfl (by kernel_rfl) fun K hK => ?_
        go_wp2_with fail
        have hS7 := HSB.out _ (M2.gr.alloc (Obj.cells #[.int .i64 (n1 : Int), .int .i64 (n2 : Int)] 110))
        refine hK.out _ _ ⟨fun _ => hS7, ?_⟩
        clear hK K
        try simp only [Act.put, List.setIfInBounds_toArray, List.set_cons_zero, List.set_cons_succ]
        refine WpN.one (i := 8) rfl (by kernel_rfl) fun K hK => ?_
        refine wp_append_lie (enc := ivlC) (.tmp 32) (.tmp 38) 25 rfl (gx + 1) 110 i0 _ 2 16 Try.underlying25 hi hz0 hz1 hz2 rfl (by decide) _ lv ⟨n1, n2⟩ rfl M2.lives _ rfl v2.heap.size rfl rfl rfl two_one (by have := hll.out; omega) (by decide) M2.big ?_
        intro gn cap w6 hown6 hbb hkp hgn
        have X6 := hkp _ _ _ M2.gr (M2.lives.other M2.gr (by decide))
        have hS8 := HSB.out _ X6
        refine hK.out _ _ ⟨fun _ => hS8, ?_⟩
        clear hK K
        try simp only [Act.put, List.setIfInBounds_toArray, List.set_cons_zero, List.set_cons_succ]
        refine WpN.takeD (i := 9) (v := ?_) rfl rfl (by kernel_rfl) (fun _ _ _ h => h) (Or.inl ⟨by rfl, ?_⟩) (by assumption) ?_
        rotate_left
        · intro w hSw; rw [hSS.out] at hSw; have sw0 := hSw; go_simp; try with_reducible rfl
        simp only [Act.put, List.setIfInBounds_toArray, List.set_cons_zero, List.set_cons_succ]
        refine WpN.one (i := 10) rfl (by kernel_rfl) fun K hK => ?_
        obtain ⟨y1, y2, y3⟩ := X6.facts
        go_wp2_with fail
        refine hK.out _ _ ⟨fun h => by omega, ?_⟩
        clear hK K
        refine WpN.done (by kernel_rfl) ?_ _
        clear y1 y2 y3
        go_wp2_with fail
        go_roundw
        case rel =>
          refine ⟨k + 1, .slice (some ⟨gn, 0, none⟩) (lv.length + 1) cap, lv ++ [⟨n1, n2⟩], t2, by omega, by go_num, HN, Lib.hid (by have := hll.out; simp; omega), ?_⟩
          refine ⟨(hkp _ _ _ M2.rd (M2.lives.other M2.rd (by decide))).far (by simp; omega) _, (hkp _ _ _ M2.res (M2.lives.other M2.res (by decide))).far (by simp; omega) _, by simpa using X6.set_ 1 (.slice (some ⟨gn, 0, none⟩) (lv.length + 1) cap), by simpa using hown6.keep (keep_store X6 (by decide) 1 _), Own.nil, LegsAt.nil, (M2.bel.trans (hbb.mono (by omega))).setCell (by simp; omega) _, by have := hbb.size; have := M2.big; simp; omega, a2⟩
        case measure => simp [intOf]; omega
      have HLV : Hid (rList (rIvl s) nv st3 = (lv, st)) := Lib.hid (by rw [show nv = k by omega]; exact HL.out)
      have hl12 : lv.length ≤ 12 := by have := hll.out; omega
      go_wp2_with fail
      go_loopw [9] (fun x wr => ∃ (j : Nat) (ve : Value) (items : List EItem) (st' : RSt), j ≤ nk ∧ x = .int .i64 j ∧ Hid (rList (rEdge s) j st = (items.map Prod.fst, st')) ∧ Hid (items.length = j) ∧ DMem s w rb gx nh st' vl ve lv items wr) (fun x _ => nk - (intOf x).toNat)
      case atStart => exact ⟨0, _, [], st, Nat.zero_le _, rfl, Lib.hid rfl, Lib.hid rfl, M⟩
      case round =>
        clear M HL hk hlt hll
        obtain ⟨j, ve, items, st', hj, rfl, HE, hil, M⟩ := hrel
        have R := M.rd
        simp only [rdC] at R
        obtain ⟨r1, r2, r3⟩ := R.facts
        by_cases hgo : j < nk ∧ st'.2 = 0
        case pos =>
          obtain ⟨hlt, he⟩ := hgo
          have hn : (st'.2 == 0) = true := by simp [he]
          have HSE : Hid (rList (rEdge s) (j + 1) st = (items.map Prod.fst ++ [(rEdge s st').1], (rEdge s st').2)) := Lib.hid (by rw [rList, HE.out])
          have a2 := rEdge_at s st' M.le
          clear he
          obtain ⟨x1, x2, x3⟩ := M.gr.facts
          obtain ⟨Ae, de, rfl⟩ := M.edges.form
          go_wp2_with fail
          obtain ⟨S, hSS⟩ : ∃ S : World → Prop, Hid (S = fun w' => w'.cell? ⟨gx, 2, none⟩ = some (.slice Ae items.length de)) := ⟨_, Lib.hid rfl⟩
          have hSb : ∀ w', Blk w' gx 28 #[.int .i64 (nh : Int), vl, .slice Ae items.length de] → S w' := fun w' h => by rw [hSS.out]; show w'.cell? ⟨gx, 2, none⟩ = _; rw [h.cell]; rfl
          have HSB := Lib.hid hSb
          have M0 := M.drew
          have hS0 : S wr.drew := hSb _ M0.gr
          clear hSb x1 x2 x3 M r1 r2 r3 R
          refine WpN.begin (S := S) 7 (by kernel_rfl) ?_
          refine WpN.takeD (i := 0) (v := ?_) rfl rfl (by kernel_rfl) (fun _ _ _ h => h) (Or.inl ⟨by rfl, ?_⟩) (by assumption) ?_
          rotate_left
          · intro w hSw; rw [hSS.out] at hSw; have sw0 := hSw; go_simp; try with_reducible rfl
          simp only [Act.put, List.setIfInBounds_toArray, List.set_cons_zero, List.set_cons_succ]
          refine WpN.takeD (i := 1) (v := ?_) rfl rfl (by kernel_rfl) (fun _ _ _ h => h) (Or.inl ⟨by rfl, ?_⟩) (by assumption) ?_
          rotate_left
          · intro w hSw; rw [hSS.out] at hSw; have sw0 := hSw; go_simp; try with_reducible rfl
          simp only [Act.put, List.setIfInBounds_toArray, List.set_cons_zero, List.set_cons_succ]
          refine WpN.takeD (i := 2) (v := ?_) rfl rfl (by kernel_rfl) (fun _ _ _ h => h) (Or.inl ⟨by rfl, ?_⟩) (by assumption) ?_
          rotate_left
          · intro w hSw; rw [hSS.out] at hSw; have sw0 := hSw; go_simp; try with_reducible rfl
          simp only [Act.put, List.setIfInBounds_toArray, List.set_cons_zero, List.set_cons_succ]
          refine WpN.one (i := 3) rfl (by kernel_rfl) fun K hK => ?_
          go_wp2_with (first | (refine (rdEdge_any rb s st' _ M0.rd hs M0.le).mono ?_; rintro e v1 ⟨⟨Lq, cq, rfl, hLq, hcq1, hcq2⟩, P1⟩))
          have M1 := M0.rdOut P1 l1 l2 a2
          have hS3 := HSB.out _ M1.gr
          refine hK.out _ _ ⟨fun _ => hS3, ?_⟩
          clear hK K
          try simp only [Act.put, List.setIfInBounds_toArray, List.set_cons_zero, List.set_cons_succ]
          obtain ⟨pe, hpe⟩ : ∃ q, rEdge s st' = q := ⟨_, rfl⟩
          rw [hpe] at HSE hLq hcq1 M1 a2 P1
          simp only [hpe]
          have HPE := Lib.hid hpe
          clear hpe
          obtain ⟨xe, te1⟩ := pe
          simp only at HSE hLq hcq1 M1 a2 ⊢
          refine WpN.one (i := 4) rfl (by kernel_rfl) fun K hK => ?_
          go_wp2_with fail
          have hS4 := HSB.out _ (M1.gr.alloc (Obj.cells #[.int .i64 xe.a, .int .i64 xe.b, .slice Lq xe.legs.length cq] 99))
          refine hK.out _ _ ⟨fun _ => hS4, ?_⟩
          clear hK K
          try simp only [Act.put, List.setIfInBounds_toArray, List.set_cons_zero, List.set_cons_succ]
          refine WpN.one (i := 5) rfl (by kernel_rfl) fun K hK => ?_
          refine wp_append_lie (enc := eEnc) (.tmp 55) (.tmp 58) 26 rfl (gx + 1) 99 j0 _ 3 40 Try.underlying26 hje hy0 hy1 hy2 rfl (by decide) _ items (xe, Lq, cq) rfl M1.edges _ rfl v1.heap.size rfl rfl rfl three_one (by have := hil.out; omega) (by decide) M1.big ?_
          intro gn cap w6 hown6 hbb hkp hgn
          have X6 := hkp _ _ _ M1.gr (M1.edges.other M1.gr (by decide))
          have hS5 := HSB.out _ X6
          refine hK.out _ _ ⟨fun _ => hS5, ?_⟩
          clear hK K
          try simp only [Act.put, List.setIfInBounds_toArray, List.set_cons_zero, List.set_cons_succ]
          refine WpN.takeD (i := 6) (v := ?_) rfl rfl (by kernel_rfl) (fun _ _ _ h => h) (Or.inl ⟨by rfl, ?_⟩) (by assumption) ?_
          rotate_left
          · intro w hSw; rw [hSS.out] at hSw; have sw0 := hSw; go_simp; try with_reducible rfl
          simp only [Act.put, List.setIfInBounds_toArray, List.set_cons_zero, List.set_cons_succ]
          refine WpN.one (i := 7) rfl (by kernel_rfl) fun K hK => ?_
          obtain ⟨y1, y2, y3⟩ := X6.facts
          go_wp2_with fail
          refine hK.out _ _ ⟨fun h => by omega, ?_⟩
          clear hK K
          refine WpN.done (by kernel_rfl) ?_ _
          clear y1 y2 y3
          have hlv6 := M1.lives.keep (fun b cs h => hkp _ _ _ h (M1.edges.other h (by decide)))
          have hlg6 := M1.legs.keep (fun b cs h => hkp _ _ _ h (M1.edges.other h (by decide)))
          have hLq6 := hLq.keep (fun b cs h => hkp _ _ _ h (M1.edges.other h (by decide)))
          go_wp2_with fail
          go_roundw
          case rel =>
            refine ⟨j + 1, .slice (some ⟨gn, 0, none⟩) (items.length + 1) cap, items ++ [(xe, Lq, cq)], te1, by omega, by go_num, Lib.hid (by rw [HSE.out]; simp), Lib.hid (by have := hil.out; simp; omega), ?_⟩
            refine ⟨(hkp _ _ _ M1.rd (M1.edges.other M1.rd (by decide))).far (by simp; omega) _, (hkp _ _ _ M1.res (M1.edges.other M1.res (by decide))).far (by simp; omega) _, by simpa using X6.set_ 2 (.slice (some ⟨gn, 0, none⟩) (items.length + 1) cap), hlv6.keep (keep_store X6 (by decide) 2 _), by simpa using hown6.keep (keep_store X6 (by decide) 2 _),
              (hlg6.snoc (it := (xe, Lq, cq)) ⟨hLq6, hcq1, hcq2⟩).keep (keep_store X6 (by decide) 2 _), (M1.bel.trans (hbb.mono (by omega))).setCell (by simp; omega) _, by have := hbb.size; have := M1.big; simp; omega, a2⟩
          case measure => simp [intOf]; omega
        have HRG : Hid (rGraph s = (⟨nh, lv, (rList (rEdge s) nk st).1⟩, (rList (rEdge s) nk st).2)) := Lib.hid (by simp only [rGraph, HP1.out, HP2.out, HP3.out, HLV.out])
        obtain ⟨s1, s2, s3⟩ := M.res.facts
        have hgr := M.gr.lt
        by_cases he : st'.2 = 0
        case neg =>
          have hn : (st'.2 == 0) = false := by simp [he]
          have hn2 : (st'.2 != 0) = true := by simp [he]
          have HD : Hid (decErr s = st'.2) := Lib.hid (by
            have e : (rGraph s).2 = st' := by
              rw [HRG.out]
              have h := rList_stays (f := rEdge s) (fun r h => rEdge_bad h) st (k := j) (by rw [HE.out]; exact he) (nk - j)
              rw [show j + (nk - j) = nk by omega, HE.out] at h
              exact h
            unfold decErr
            rw [e, if_pos he])
          have HO : Hid (decOut s = zeroG) := Lib.hid (by unfold decOut; rw [if_neg (by rw [HD.out]; exact he)])
          have HDN : Hid (decN s = 0) := Lib.hid (by unfold decN; rw [if_neg (by rw [HD.out]; exact he)])
          clear he
          by_cases hlt : j < nk
          case pos =>
            clear hgo
            go_wp2_with fail
            go_region
            go_wp2_with fail
            refine bodyPost_ret (v := .tuple #[gV none 0 none 0 zeroG, .int .i64 0, .int .i64 st'.2]) (by simp [results, Try.results64, go_sem, s1, s2, s3, zeroG]) rfl ?_
            refine ⟨none, 0, none, 0, by rw [HD.out, HO.out, HDN.out]; rfl, by rw [HO.out]; exact zero_at _, ?_⟩
            have hbb := M.bel
            go_grown
          case neg =>
            clear hgo
            go_wp2_with fail
            go_region
            go_wp2_with fail
            refine bodyPost_ret (v := .tuple #[gV none 0 none 0 zeroG, .int .i64 0, .int .i64 st'.2]) (by simp [results, Try.results64, go_sem, s1, s2, s3, zeroG]) rfl ?_
            refine ⟨none, 0, none, 0, by rw [HD.out, HO.out, HDN.out]; rfl, by rw [HO.out]; exact zero_at _, ?_⟩
            have hbb := M.bel
            go_grown
        case pos =>
          obtain rfl : j = nk := by omega
          have hn : (st'.2 == 0) = true := by simp [he]
          have hn2 : (st'.2 != 0) = false := by simp [he]
          have HRG : Hid (rGraph s = (⟨nh, lv, items.map Prod.fst⟩, st')) := Lib.hid (by rw [HRG.out, HE.out])
          have hat := M.le
          have hw1 : IntKind.i64.wrap ((s.size : Int) - (st'.1 : Int)) = (s.size : Int) - (st'.1 : Int) := IntWalk.i64_in _ (by omega)
          clear hgo hn
          by_cases h4 : s.size < st'.1 + 4
          case pos =>
            have hd : decide ((s.size : Int) - (st'.1 : Int) < 4) = true := by simp; omega
            have HD : Hid (decErr s = 5) := Lib.hid (by unfold decErr; rw [HRG.out, if_neg (by simp [he]), if_pos h4])
            have HO : Hid (decOut s = zeroG) := Lib.hid (by unfold decOut; rw [if_neg (by rw [HD.out]; decide)])
            have HDN : Hid (decN s = 0) := Lib.hid (by unfold decN; rw [if_neg (by rw [HD.out]; decide)])
            clear he h4
            go_wp2_with fail
            refine bodyPost_ret (v := .tuple #[gV none 0 none 0 zeroG, .int .i64 0, .int .i64 5]) (by simp [results, Try.results64, go_sem, s1, s2, s3, zeroG]) rfl ?_
            refine ⟨none, 0, none, 0, by rw [HD.out, HO.out, HDN.out]; rfl, by rw [HO.out]; exact zero_at _, ?_⟩
            have hbb := M.bel
            go_grown
          case neg =>
            have hd : decide ((s.size : Int) - (st'.1 : Int) < 4) = false := by simp; omega
            have HDE : Hid (decErr s = if tail4 s st'.1 ≠ crc (s.extract 0 st'.1) then 5 else graphErr ⟨nh, lv, items.map Prod.fst⟩) := Lib.hid (by unfold decErr; rw [HRG.out, if_neg (by simp [he]), if_neg h4])
            have h4 : st'.1 + 4 ≤ s.size := by omega
            have HTF := Lib.hid (tailF_four s st'.1)
            have HTR := Lib.hid (tailF_room s st'.1)
            have HTL := Lib.hid (tailF_lt s st'.1)
            go_wp2_with fail
            go_loopw [10, 11] (fun x i wr => ∃ (q u : Nat), q ≤ 4 ∧ x = .int .u32 (u : Int) ∧ i = .int .i64 (3 - (q : Int)) ∧ Hid (tailF s st'.1 q = u) ∧ DMem s w rb gx nh st' vl ve lv items wr) (fun _ i _ => (intOf i + 1).toNat)
            case atStart => exact ⟨0, 0, by omega, rfl, rfl, Lib.hid rfl, M⟩
            case round =>
              clear M s1 s2 s3 r1 r2 r3 R
              obtain ⟨q, u, hq, rfl, rfl, HU, M⟩ := hrel
              have R := M.rd
              simp only [rdC] at R
              obtain ⟨r1, r2, r3⟩ := R.facts
              by_cases hq4 : q < 4
              case pos =>
                obtain ⟨m, hm⟩ : ∃ m : Nat, 3 - (q : Int) = m := ⟨3 - q, by omega⟩
                have HM := Lib.hid (show m = 3 - q by omega)
                have hm0 : decide ((m : Int) ≥ 0) = true := by simp
                have hix : st'.1 + m < s.size := by omega
                have hu : u < 16777216 := by have := HTR.out q (by omega); rw [HU.out] at this; exact this
                have hb := byteAt_lt s (st'.1 + m)
                have hor := or_u32 u (byteAt s (st'.1 + m)) hu hb
                have hws : IntKind.u32.wrap ((u : Int) * 256) = (u : Int) * 256 := IntWalk.u32_in _ (by omega)
                have g1 : ((s[st'.1 + m]'hix).toNat) = byteAt s (st'.1 + m) := (byteAt_of hix).symm
                have HNU : Hid (tailF s st'.1 (q + 1) = u * 256 + byteAt s (st'.1 + m)) := Lib.hid (by rw [tailF, HU.out, HM.out])
                rw [hm]
                clear h4 he hq
                go_wp2_with fail
                go_roundw
                case rel => exact ⟨q + 1, u * 256 + byteAt s (st'.1 + m), by omega, by go_num, by have := HM.out; congr 1; omega, HNU, M⟩
                case measure => simp [intOf]
              case neg =>
                obtain rfl : q = 4 := by omega
                have hm0 : decide (3 - ((4 : Nat) : Int) ≥ 0) = false := by decide
                have HU := Lib.hid (HTF.out.symm.trans HU.out)
                obtain ⟨s1, s2, s3⟩ := M.res.facts
                have hrs := M.gr.lt
                have hIL : ∀ x, x ∈ lv → I64 x.f ∧ I64 x.t := by
                  have e : lv = (rList (rIvl s) nv st3).1 := by rw [HLV.out]
                  rw [e]; exact rList_all (rIvl_small s) _ _
                have hIE : ∀ it, it ∈ items → I64 it.1.a ∧ I64 it.1.b ∧ ∀ x, x ∈ it.1.legs → LegI x := fun it hit => by
                  have e : items.map Prod.fst = (rList (rEdge s) j st).1 := by rw [HE.out]
                  exact rList_all (P := fun x : EdgeD => I64 x.a ∧ I64 x.b ∧ ∀ y, y ∈ x.legs → LegI y) (rEdge_small s) j st it.1 (by rw [← e]; exact List.mem_map_of_mem hit)
                have HIL := Lib.hid hIL; have HIE := Lib.hid hIE
                have hhr := (rnum_le s 65535 (0, 0)).1
                rw [HP1.out] at hhr
                simp only at hhr
                obtain ⟨Al, dl, rfl⟩ := M.lives.form
                obtain ⟨Ae, de, rfl⟩ := M.edges.form
                have hlvr := M.lives.room; have her := M.edges.room
                obtain ⟨x1, x2, x3⟩ := M.gr.facts
                have hel : (s.extract 0 st'.1).size = st'.1 := by simp; omega
                clear hIL hIE hq hq4
                by_cases hsum : tail4 s st'.1 = crc (s.extract 0 st'.1)
                case neg =>
                  have HD : Hid (decErr s = 5) := Lib.hid (by rw [HDE.out, if_pos hsum])
                  have HO : Hid (decOut s = zeroG) := Lib.hid (by unfold decOut; rw [if_neg (by rw [HD.out]; decide)])
                  have HDN : Hid (decN s = 0) := Lib.hid (by unfold decN; rw [if_neg (by rw [HD.out]; decide)])
                  have hne : (((u : Nat) : Int) != ((crc (s.extract 0 st'.1) : Nat) : Int)) = true := by have := HU.out; simp; omega
                  clear hsum
                  go_wp2_with (go_at_call 34; refine (sum_any _ _ (by omega)).mono ?_; rintro e wx ⟨rfl, rfl⟩)
                  refine bodyPost_ret (v := .tuple #[gV none 0 none 0 zeroG, .int .i64 0, .int .i64 5]) (by simp [results, Try.results64, go_sem, s1, s2, s3, zeroG]) rfl ?_
                  refine ⟨none, 0, none, 0, by rw [HD.out, HO.out, HDN.out]; rfl, by rw [HO.out]; exact zero_at _, ?_⟩
                  have hbb := M.bel
                  go_grown
                case pos =>
                  have HDE : Hid (decErr s = graphErr ⟨nh, lv, items.map Prod.fst⟩) := Lib.hid (by rw [HDE.out, if_neg (by simp [hsum])])
                  have heq : (((u : Nat) : Int) != ((crc (s.extract 0 st'.1) : Nat) : Int)) = false := by have := HU.out; simp; omega
                  have hlen : (items.map Prod.fst).length = items.length := by simp
                  have HG : ∀ w', (∀ (t : TypeId) b cs, t ≠ 28 → Blk wr b t cs → Blk w' b t cs) → GraphAt w' Al dl Ae de ⟨nh, lv, items.map Prod.fst⟩ := fun w' hk => by
                    obtain ⟨Av', dv', hvv, hSv⟩ := own_lives (M.lives.keep (fun b cs h => hk _ _ _ (by decide) h)) HIL.out
                    obtain ⟨Ae', de', hee, hSe⟩ := own_edges (M.edges.keep (fun b cs h => hk _ _ _ (by decide) h)) (M.legs.keep (fun b cs h => hk _ _ _ (by decide) h)) HIE.out
                    simp only [Value.slice.injEq, true_and] at hvv hee
                    obtain ⟨rfl, rfl⟩ := hvv
                    obtain ⟨rfl, rfl⟩ := hee
                    exact ⟨⟨by simp only; omega, by simp only; omega⟩, hlvr.1, hlvr.2, by rw [hlen]; exact her.1, her.2, hSv, hSe⟩
                  have HGH := Lib.hid HG
                  have hG := HG wr (fun _ _ _ _ h => h)
                  have HCK := Lib.hid (check_any Al Ae dl de ⟨nh, lv, items.map Prod.fst⟩ wr hG)
                  simp only [gV, hlen] at HCK
                  clear hsum HG hG hlen
                  go_wp2_with (go_at_call 34; refine (sum_any _ _ (by omega)).mono ?_; rintro e wx ⟨rfl, rfl⟩)
                  refine HCK.out.mono ?_
                  rintro e w7 ⟨rfl, hb7⟩
                  have BS := M.res.ext hb7
                  have BX := M.gr.ext hb7
                  have BD := M.rd.ext hb7
                  have hbb := ext_trans M.bel hb7
                  have HK7 : Hid (∀ (t : TypeId) b cs, t ≠ 28 → Blk wr b t cs → Blk w7 b t cs) := Lib.hid fun t b cs _ h => h.ext hb7
                  clear s1 s2 s3 x1 x2 x3 r1 r2 r3 HCK
                  obtain ⟨s1, s2, s3⟩ := BS.facts
                  obtain ⟨x1, x2, x3⟩ := BX.facts
                  simp only [rdC] at BD
                  obtain ⟨r1, r2, r3⟩ := BD.facts
                  by_cases hce : graphErr ⟨nh, lv, items.map Prod.fst⟩ = 0
                  case neg =>
                    have hc : (graphErr ⟨nh, lv, items.map Prod.fst⟩ != 0) = true := by simp [hce]
                    have HO : Hid (decOut s = zeroG) := Lib.hid (by unfold decOut; rw [if_neg (by rw [HDE.out]; exact hce)])
                    have HDN : Hid (decN s = 0) := Lib.hid (by unfold decN; rw [if_neg (by rw [HDE.out]; exact hce)])
                    clear hce
                    go_wp2_with fail
                    refine bodyPost_ret (v := .tuple #[gV none 0 none 0 zeroG, .int .i64 0, .int .i64 (graphErr ⟨nh, lv, items.map Prod.fst⟩)]) (by simp [results, Try.results64, go_sem, s1, s2, s3, zeroG]) rfl ?_
                    refine ⟨none, 0, none, 0, by rw [HDE.out, HO.out, HDN.out]; rfl, by rw [HO.out]; exact zero_at _, ?_⟩
                    go_grown
                  case pos =>
                    have hc : (graphErr ⟨nh, lv, items.map Prod.fst⟩ != 0) = false := by simp [hce]
                    have HD : Hid (decErr s = 0) := Lib.hid (by rw [HDE.out, hce])
                    have HO : Hid (decOut s = ⟨nh, lv, items.map Prod.fst⟩) := Lib.hid (by unfold decOut; rw [if_pos HD.out, HRG.out])
                    have HDN : Hid (decN s = st'.1 + 4) := Lib.hid (by unfold decN; rw [if_pos HD.out, HRG.out])
                    clear hce
                    go_wp2_with fail
                    go_region
                    go_wp2_with fail
                    refine bodyPost_ret (v := .tuple #[gV Al dl Ae de ⟨nh, lv, items.map Prod.fst⟩, .int .i64 ((st'.1 : Int) + 4), .int .i64 0]) (by simp [results, Try.results64, go_sem, s1, s2, s3, x1, x2, x3]) rfl ?_
                    refine ⟨Al, dl, Ae, de, by rw [HD.out, HO.out, HDN.out]; rfl, ?_, ?_⟩
                    · rw [HO.out]
                      refine HGH.out _ fun t b cs ht h => ?_
                      have h7 := HK7.out t b cs ht h
                      have hne := blk_ne h7 BS ht
                      exact (((h7.drewN _).far hne _).far hne _).far hne _
                    · go_grown
end Go.Proofs.Ytcgnalpcbcpmkaa
/- The walk of the law PackOne. -/
namespace Go.Proofs.Ytcgnalpcbcpmkaa
open Go.RowKit

theorem large_one : decErr ⟨#[0, 5, 0, 13]⟩ = 2 := by kernel_rfl
theorem large_n : decN ⟨#[0, 5, 0, 13]⟩ = 0 := by kernel_rfl
theorem large_out : decOut ⟨#[0, 5, 0, 13]⟩ = zeroG := by unfold decOut; rw [if_neg (by rw [large_one]; decide)]
theorem dec_valid {s : ByteArray} (h : decErr s = 0) : decOut s = (rGraph s).1 ∧ Valid (decOut s) := by
  have e : decOut s = (rGraph s).1 := by unfold decOut; rw [if_pos h]
  exact ⟨e, by rw [e]; exact (dec_zero h).2.2.2⟩
theorem dec_not {s : ByteArray} (h : decErr s ≠ 0) : decOut s = zeroG ∧ decN s = 0 := by
  unfold decOut decN
  rw [if_neg h, if_neg h]
  exact ⟨rfl, rfl⟩

set_option maxHeartbeats 2000000 in
theorem packOne_calls (s : ByteArray) {w0 : World} (hs : s.size ≤ maxLen) :
    Calls Try.prog 13 #[.string s] w0 fun e w' => e = .returned (.bool true) ∧ Below w0.heap.size w0 w' := by
  go_enter Try.func13, Try.ntmps13
  go_wp2_with fail
  refine (decode_any _ _ (by decide)).mono ?_
  rintro e w1 ⟨A1, c1, A1', c1', rfl, hG1, hb1⟩
  rw [large_one, large_n, large_out]
  clear hG1
  simp only [gV, zeroG]
  go_wp2_with fail
  refine (decode_any s _ hs).mono ?_
  rintro e w2 ⟨A2, c2, A2', c2', rfl, hG2, hb2⟩
  have hbb : Below w0.heap.size w0 w2 := ext_trans (ext_trans hb1 (by go_grown)) hb2
  by_cases h0 : decErr s = 0
  case neg =>
    have hn : (decErr s != 0) = true := by simp [h0]
    obtain ⟨e1, e2⟩ := dec_not h0
    rw [e1, e2]
    clear h0 hG2
    simp only [gV, zeroG]
    go_wp2_with fail
    go_ret
    exact ⟨by simp, by have := hbb.size; go_grown⟩
  case pos =>
    obtain ⟨e1, hV⟩ := dec_valid h0
    obtain ⟨hle, hco⟩ := coded_dec h0
    rw [← e1] at hco
    have HV := Lib.hid hV
    have HC := Lib.hid hco
    rw [h0]
    clear h0 hV e1 hco hb1
    obtain ⟨g, hg⟩ : ∃ g, g = decOut s := ⟨_, rfl⟩
    obtain ⟨n, hn⟩ : ∃ n, n = decN s := ⟨_, rfl⟩
    rw [← hg] at hG2 HV HC ⊢
    rw [← hn] at hle HC ⊢
    clear hg hn
    have hd : decide ((n : Int) ≤ (s.size : Int)) = true := by simp; omega
    unfold maxLen at hs
    go_wp2_with fail
    refine (encode_any _ _ _ _ g _ (hG2.ext (by go_grown))).mono ?_
    rw [valid_ok HV.out, if_pos rfl]
    rintro e w3 ⟨rfl, hb3⟩
    rw [HC.out]
    go_wp2_with fail
    go_ret
    exact ⟨by simp, ext_trans (ext_alloc hbb _) hb3⟩
end Go.Proofs.Ytcgnalpcbcpmkaa
