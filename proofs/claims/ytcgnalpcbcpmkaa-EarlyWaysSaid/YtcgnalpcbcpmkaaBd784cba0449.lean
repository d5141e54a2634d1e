/- Several texts in one: RdEdge, DecMid. -/
import Derived.Test.YtcgnalpcbcpmkaaBdcb364ed89b
import Derived.Test.YtcgnalpcbcpmkaaBd97b53d9a67
/- The walk of the reader's edge. -/
namespace Go.Proofs.Ytcgnalpcbcpmkaa
open Go.RowKit

structure EdgeRd (rb : Nat) (s : ByteArray) (r : RSt) (w : World) (e : Ending) (w' : World) : Prop where
  ex : ∃ L c, e = .returned (.agg #[.int .i64 (rEdge s r).1.a, .int .i64 (rEdge s r).1.b, .slice L (rEdge s r).1.legs.length c]) ∧ LOwn w' L (rEdge s r).1.legs ∧ (rEdge s r).1.legs.length ≤ c ∧ c ≤ maxLen
  out : RdOut rb s (rEdge s r).2 w w'
theorem RdOut.trans {rb : Nat} {s : ByteArray} {r q : RSt} {a b c : World} (h : RdOut rb s r a b) (k : RdOut rb s q b c) : RdOut rb s q a c :=
  ⟨k.blk, fun g t cs hg hb => k.keep g t cs hg (h.keep g t cs hg hb), fun n w0 h0 h1 h2 => k.below n w0 (h.below n w0 h0 h1 h2) h1 (Nat.le_trans h2 h.size), Nat.le_trans h.size k.size⟩
theorem LOwn.rd {rb : Nat} {s : ByteArray} {r : RSt} {w w' : World} {L : Option Addr} {l : List LegD} (h : LOwn w L l) (hO : RdOut rb s r w w') (hB : ∀ q, Blk w rb 138 (rdC s q) → True) : True := trivial
def legOf (a b c d : Nat) : LegD := ⟨a, b, c, d⟩
theorem four_one {a b c d : Int} : ∀ u ∈ (#[.int .i64 a, .int .i64 b, .int .i64 c, .int .i64 d] : Array Value).toList, u.oneCell' = true := by simp [Value.oneCell']

set_option maxRecDepth 100000 in
set_option maxHeartbeats 8000000 in
theorem rdEdge_any (rb : Nat) (s : ByteArray) (r : RSt) (w : World) (hB : Blk w rb 138 (rdC s r)) (hs : s.size ≤ 9223372036854775807) (hr : r.1 ≤ s.size) :
    Calls Try.prog 112 #[.pointer (some ⟨rb, 0, none⟩)] w (EdgeRd rb s r w) := by
  obtain ⟨i0, hi, hz0, hz1, hz2⟩ := info_leg2
  have hrb := hB.lt
  go_enter Try.func112, Try.ntmps112
  go_wp2_with fail
  have hB := hB.alloc (Obj.cells #[.int .i64 0, .int .i64 0, .slice none 0 0] 99)
  have BR := Blk.new w 99 #[.int .i64 0, .int .i64 0, .slice none 0 0]
  refine (number_any rb s r _ hB hs hr).mono ?_
  obtain ⟨p1, hp1⟩ : ∃ q, rnum s 65535 r = q := ⟨_, rfl⟩
  have HP1 := Lib.hid hp1
  have hr1 := rnum_at s 65535 r hr
  rw [hp1] at hr1 ⊢
  clear hp1
  obtain ⟨na, st1⟩ := p1
  simp only at hr1 ⊢
  rintro e w1 ⟨rfl, hO1⟩
  go_wp2_with fail
  refine (number_any rb s st1 _ hO1.blk hs hr1).mono ?_
  obtain ⟨p2, hp2⟩ : ∃ q, rnum s 65535 st1 = q := ⟨_, rfl⟩
  have HP2 := Lib.hid hp2
  have hr2 := rnum_at s 65535 st1 hr1
  rw [hp2] at hr2 ⊢
  clear hp2
  obtain ⟨nb, st2⟩ := p2
  simp only at hr2 ⊢
  rintro e w2 ⟨rfl, hO2⟩
  have hO12 := hO1.trans hO2
  have BR := hO12.keep _ _ _ (by omega) BR
  clear hO1 hO2
  go_wp2_with fail
  have BX := Blk.new w2 99 #[.int .i64 (na : Int), .int .i64 (nb : Int), .slice none 0 0]
  have BR := BR.alloc (Obj.cells #[.int .i64 (na : Int), .int .i64 (nb : Int), .slice none 0 0] 99)
  have hsz2 : w.heap.size + 1 ≤ w2.heap.size := by have := hO12.size; simpa using this
  have hO3 : RdOut rb s st2 (w.alloc (Obj.cells #[.int .i64 0, .int .i64 0, .slice none 0 0] 99)) (w2.alloc (Obj.cells #[.int .i64 (na : Int), .int .i64 (nb : Int), .slice none 0 0] 99)) :=
    ⟨hO12.blk.alloc _, fun g t cs hg h => (hO12.keep g t cs hg h).alloc _, fun k w0 h h1 h2 => (hO12.below k w0 h h1 h2).alloc (Nat.le_trans h2 hO12.size) _, Nat.le_trans hO12.size (by simp)⟩
  obtain ⟨gx, hgx⟩ : ∃ gx, gx = w2.heap.size := ⟨_, rfl⟩
  have hgx1 : w.heap.size < gx := by omega
  rw [← hgx] at BX ⊢
  clear hgx hO12
  refine (many_any rb 6 s st2 _ hO3.blk hs hr2 (by decide)).mono ?_
  obtain ⟨p3, hp3⟩ : ∃ q, rnum s 6 st2 = q := ⟨_, rfl⟩
  have HP3 := Lib.hid hp3
  have hr3 := rnum_at s 6 st2 hr2
  have hm6 := (rnum_le s 6 st2).1
  rw [hp3] at hr3 hm6 ⊢
  clear hp3
  obtain ⟨nm, st3⟩ := p3
  simp only at hr3 hm6 ⊢
  rintro e w3 ⟨rfl, hO4⟩
  have hO5 := hO3.trans hO4
  have hxr0 : gx ≠ rb := by omega
  have BX := hO4.keep _ _ _ hxr0 BX
  have BR := hO4.keep _ _ _ (show w.heap.size ≠ rb by omega) BR
  clear hO3 hO4
  go_wp2_with fail
  have hz5 : w.heap.size + 1 ≤ w3.heap.size := by have := hO5.size; simpa using this
  go_loopw [11] (fun x wr => ∃ (k : Nat) (v : Value) (legs : List LegD) (st : RSt), k ≤ nm ∧ x = .int .i64 k ∧ Hid (rList (rLeg s) k st3 = (legs, st)) ∧ legs.length ≤ k ∧ st.1 ≤ s.size ∧ Own legC 4 wr (w.heap.size + 1) 114 v legs ∧ Blk wr gx 99 #[.int .i64 (na : Int), .int .i64 (nb : Int), v] ∧
    Blk wr w.heap.size 99 #[.int .i64 0, .int .i64 0, .slice none 0 0] ∧ RdOut rb s st (w.alloc (Obj.cells #[.int .i64 0, .int .i64 0, .slice none 0 0] 99)) wr) (fun x _ => nm - (intOf x).toNat)
  case atStart => exact ⟨0, _, [], st3, Nat.zero_le _, rfl, Lib.hid rfl, by simp, hr3, Own.nil, BX, BR, hO5⟩
  case round =>
    clear BX BR hO5 hz5
    obtain ⟨k, v, legs, st, hk, rfl, HL, hll, hst, hown, BX, BR, hO5⟩ := hrel
    obtain ⟨x1, x2, x3⟩ := BX.facts
    have hz5 : w.heap.size + 1 ≤ wr.heap.size := by have := hO5.size; simpa using this
    obtain ⟨Al, dl, rfl⟩ := hown.form
    by_cases hlt : k < nm
    case neg =>
      have HE : Hid (rEdge s r = (⟨na, nb, legs⟩, st)) := Lib.hid (by
        have h1 := HP1.out; have h2 := HP2.out; have h3 := HP3.out; have h4 := HL.out
        rw [show k = nm by omega] at h4
        simp only [rEdge, h1, h2, h3, h4])
      have hrm := hown.room
      have hxs : (⟨gx, 0, none⟩ : Addr).block ≠ w.heap.size := by simp; omega
      obtain ⟨r1, r2, r3⟩ := BR.facts
      go_wp2_with fail
      refine bodyPost_ret (v := .agg #[.int .i64 (na : Int), .int .i64 (nb : Int), .slice Al legs.length dl]) (by simp [results, Try.results112, go_sem, r1, r2, r3]) rfl ?_
      have KB : ∀ g t cs, t ≠ 99 → Blk wr g t cs → Blk (((wr.setCell ⟨w.heap.size, 0, none⟩ (.int .i64 (na : Int))).setCell ⟨w.heap.size, 1, none⟩ (.int .i64 (nb : Int))).setCell ⟨w.heap.size, 2, none⟩ (.slice Al legs.length dl)) g t cs := fun g t cs ht h => by
        have hne := blk_ne h BR ht
        exact ((h.far hne _).far hne _).far hne _
      refine ⟨?_, ?_⟩
      · rw [HE.out]
        exact ⟨Al, dl, rfl, (hown.keep (fun b cs h => KB b _ cs (by decide) h)).lown, hrm.1, hrm.2⟩
      · rw [HE.out]
        refine ⟨KB _ _ _ (by decide) hO5.blk, fun g t cs hg h => ?_, fun q w0 h h1 h2 => ?_, ?_⟩
        · have hgl := h.lt
          have := hO5.keep g t cs hg (h.alloc _)
          exact ((this.far (by simp; omega) _).far (by simp; omega) _).far (by simp; omega) _
        · exact (((hO5.below q w0 (h.alloc h2 _) h1 (Nat.le_trans h2 (by simp))).setCell (by simp; omega) _).setCell (by simp; omega) _).setCell (by simp; omega) _
        · simp; omega
    have HST : Hid (rLeg s st = (⟨(rnum s 65535 st).1, (rnum s 65535 (rnum s 65535 st).2).1, (rnum s 65535 (rnum s 65535 (rnum s 65535 st).2).2).1, (rnum s 65535 (rnum s 65535 (rnum s 65535 (rnum s 65535 st).2).2).2).1⟩, (rnum s 65535 (rnum s 65535 (rnum s 65535 (rnum s 65535 st).2).2).2).2)) := Lib.hid rfl
    have a1 := rnum_at s 65535 st hst
    obtain ⟨q1, hq1⟩ : ∃ q, rnum s 65535 st = q := ⟨_, rfl⟩
    rw [hq1] at HST a1
    obtain ⟨n1, t1⟩ := q1
    simp only at HST a1
    have a2 := rnum_at s 65535 t1 a1
    obtain ⟨q2, hq2⟩ : ∃ q, rnum s 65535 t1 = q := ⟨_, rfl⟩
    rw [hq2] at HST a2
    obtain ⟨n2, t2⟩ := q2
    simp only at HST a2
    have a3 := rnum_at s 65535 t2 a2
    obtain ⟨q3, hq3⟩ : ∃ q, rnum s 65535 t2 = q := ⟨_, rfl⟩
    rw [hq3] at HST a3
    obtain ⟨n3, t3⟩ := q3
    simp only at HST a3
    have a4 := rnum_at s 65535 t3 a3
    obtain ⟨q4, hq4⟩ : ∃ q, rnum s 65535 t3 = q := ⟨_, rfl⟩
    rw [hq4] at HST a4
    obtain ⟨n4, t4⟩ := q4
    simp only at HST a4
    have HQ1 := Lib.hid hq1; have HQ2 := Lib.hid hq2; have HQ3 := Lib.hid hq3; have HQ4 := Lib.hid hq4
    clear hq1 hq2 hq3 hq4
    have HN : Hid (rList (rLeg s) (k + 1) st3 = (legs ++ [⟨n1, n2, n3, n4⟩], t4)) := Lib.hid (by rw [rList, HL.out]; simp only; rw [HST.out])
    have HXR := Lib.hid hxr0
    go_wp2_with fail
    obtain ⟨S, hSS⟩ : ∃ S : World → Prop, Hid (S = fun w' => w'.cell? ⟨gx, 2, none⟩ = some (.slice Al legs.length dl)) := ⟨_, Lib.hid rfl⟩
    have hSb : ∀ w', Blk w' gx 99 #[.int .i64 (na : Int), .int .i64 (nb : Int), .slice Al legs.length dl] → S w' := fun w' h => by rw [hSS.out]; show w'.cell? ⟨gx, 2, none⟩ = _; rw [h.cell]; rfl
    have HSB := Lib.hid hSb
    have hS0 : S wr.drew := hSb _ BX.drew
    clear hSb x1 x2 x3
    have R0 : RdOut rb s st (w.alloc (Obj.cells #[.int .i64 0, .int .i64 0, .slice none 0 0] 99)) wr.drew := ⟨hO5.blk.drew, fun g t cs hg h => (hO5.keep g t cs hg h).drew, fun q w0 h h1 h2 => below_drew (hO5.below q w0 h h1 h2), hO5.size⟩
    refine WpN.begin (S := S) 14 (by kernel_rfl) ?_
    refine WpN.takeD (i := 0) (v := ?_) rfl rfl (by kernel_rfl) (fun _ _ _ h => h) (Or.inl ⟨by rfl, ?_⟩) (by assumption) ?_
    rotate_left
    · intro w hSw; rw [hSS.out] at hSw; have sw0 := hSw; go_simp; try with_reducible rfl
    simp only [Act.put, List.setIfInBounds_toArray, List.set_cons_zero, List.set_cons_succ]
    refine WpN.takeD (i := 1) (v := ?_) rfl rfl (by kernel_rfl) (fun _ _ _ h => h) (Or.inl ⟨by rfl, ?_⟩) (by assumption) ?_
    rotate_left
    · intro w hSw; rw [hSS.out] at hSw; have sw0 := hSw; go_simp; try with_reducible rfl
    simp only [Act.put, List.setIfInBounds_toArray, List.set_cons_zero, List.set_cons_succ]
    refine WpN.takeD (i := 2) (v := ?_) rfl rfl (by kernel_rfl) (fun _ _ _ h => h) (Or.inl ⟨by rfl, ?_⟩) (by assumption) ?_
    rotate_left
    · intro w hSw; rw [hSS.out] at hSw; have sw0 := hSw; go_simp; try with_reducible rfl
    simp only [Act.put, List.setIfInBounds_toArray, List.set_cons_zero, List.set_cons_succ]
    refine WpN.takeD (i := 4) (v := ?_) rfl rfl (by kernel_rfl) (fun _ _ _ h => h) (Or.inl ⟨by rfl, ?_⟩) (by assumption) ?_
    rotate_left
    · intro w hSw; rw [hSS.out] at hSw; have sw0 := hSw; go_simp; try with_reducible rfl
    simp only [Act.put, List.setIfInBounds_toArray, List.set_cons_zero, List.set_cons_succ]
    refine WpN.takeD (i := 6) (v := ?_) rfl rfl (by kernel_rfl) (fun _ _ _ h => h) (Or.inl ⟨by rfl, ?_⟩) (by assumption) ?_
    rotate_left
    · intro w hSw; rw [hSS.out] at hSw; have sw0 := hSw; go_simp; try with_reducible rfl
    simp only [Act.put, List.setIfInBounds_toArray, List.set_cons_zero, List.set_cons_succ]
    refine WpN.takeD (i := 8) (v := ?_) rfl rfl (by kernel_rfl) (fun _ _ _ h => h) (Or.inl ⟨by rfl, ?_⟩) (by assumption) ?_
    rotate_left
    · intro w hSw; rw [hSS.out] at hSw; have sw0 := hSw; go_simp; try with_reducible rfl
    simp only [Act.put, List.setIfInBounds_toArray, List.set_cons_zero, List.set_cons_succ]
    refine WpN.one (i := 3) rfl (by kernel_rfl) fun K hK => ?_
    go_wp2_with (first | (refine (number_any rb s st _ R0.blk hs hst).mono ?_; rw [HQ1.out]; rintro e v1 ⟨rfl, P1⟩))
    have R1 := R0.trans P1
    have X1 := P1.keep _ _ _ HXR.out BX.drew
    have BR1 := P1.keep _ _ _ (show w.heap.size ≠ rb by omega) BR.drew
    have W1 := (hown.keep (fun _ _ h => h.drew)).keep (fun b cs h => P1.keep _ _ _ (blk_ne h R0.blk (by decide)) h)
    have hS3 := HSB.out _ X1
    refine hK.out _ _ ⟨fun _ => hS3, ?_⟩
    clear hK K
    try simp only [Act.put, List.setIfInBounds_toArray, List.set_cons_zero, List.set_cons_succ]
    refine WpN.one (i := 5) rfl (by kernel_rfl) fun K hK => ?_
    go_wp2_with (first | (refine (number_any rb s t1 _ R1.blk hs a1).mono ?_; rw [HQ2.out]; rintro e v2 ⟨rfl, P2⟩))
    have R2 := R1.trans P2
    have X2 := P2.keep _ _ _ HXR.out X1
    have BR2 := P2.keep _ _ _ (show w.heap.size ≠ rb by omega) BR1
    have W2 := W1.keep (fun b cs h => P2.keep _ _ _ (blk_ne h R1.blk (by decide)) h)
    have hS5 := HSB.out _ X2
    refine hK.out _ _ ⟨fun _ => hS5, ?_⟩
    clear hK K
    try simp only [Act.put, List.setIfInBounds_toArray, List.set_cons_zero, List.set_cons_succ]
    refine WpN.one (i := 7) rfl (by kernel_rfl) fun K hK => ?_
    go_wp2_with (first | (refine (number_any rb s t2 _ R2.blk hs a2).mono ?_; rw [HQ3.out]; rintro e v3 ⟨rfl, P3⟩))
    have R3 := R2.trans P3
    have X3 := P3.keep _ _ _ HXR.out X2
    have BR3 := P3.keep _ _ _ (show w.heap.size ≠ rb by omega) BR2
    have W3 := W2.keep (fun b cs h => P3.keep _ _ _ (blk_ne h R2.blk (by decide)) h)
    have hS7 := HSB.out _ X3
    refine hK.out _ _ ⟨fun _ => hS7, ?_⟩
    clear hK K
    try simp only [Act.put, List.setIfInBounds_toArray, List.set_cons_zero, List.set_cons_succ]
    refine WpN.one (i := 9) rfl (by kernel_rfl) fun K hK => ?_
    go_wp2_with (first | (refine (number_any rb s t3 _ R3.blk hs a3).mono ?_; rw [HQ4.out]; rintro e v4 ⟨rfl, P4⟩))
    have R4 := R3.trans P4
    have X4 := P4.keep _ _ _ HXR.out X3
    have BR4 := P4.keep _ _ _ (show w.heap.size ≠ rb by omega) BR3
    have W4 := W3.keep (fun b cs h => P4.keep _ _ _ (blk_ne h R3.blk (by decide)) h)
    have hS9 := HSB.out _ X4
    refine hK.out _ _ ⟨fun _ => hS9, ?_⟩
    clear hK K
    try simp only [Act.put, List.setIfInBounds_toArray, List.set_cons_zero, List.set_cons_succ]
    refine WpN.takeD (i := 10) (v := ?_) rfl rfl (by kernel_rfl) (fun _ _ _ h => h) (Or.inl ⟨by rfl, ?_⟩) (by assumption) ?_
    rotate_left
    · intro w hSw; rw [hSS.out] at hSw; have sw0 := hSw; go_simp; try with_reducible rfl
    simp only [Act.put, List.setIfInBounds_toArray, List.set_cons_zero, List.set_cons_succ]
    refine WpN.one (i := 11) rfl (by kernel_rfl) fun K hK => ?_
    go_wp2_with fail
    have hS11 := HSB.out _ (X4.alloc (Obj.cells #[.int .i64 (n1 : Int), .int .i64 (n2 : Int), .int .i64 (n3 : Int), .int .i64 (n4 : Int)] 114))
    refine hK.out _ _ ⟨fun _ => hS11, ?_⟩
    clear hK K
    try simp only [Act.put, List.setIfInBounds_toArray, List.set_cons_zero, List.set_cons_succ]
    refine WpN.one (i := 12) rfl (by kernel_rfl) fun K hK => ?_
    have hz9 : w.heap.size + 1 ≤ v4.heap.size := by have := R4.size; simpa using this
    refine wp_append_lie (enc := legC) (.tmp 14) (.tmp 24) 97 rfl (w.heap.size + 1) 114 i0 _ 4 32 Try.underlying97 hi hz0 hz1 hz2 rfl (by decide) _ legs ⟨n1, n2, n3, n4⟩ rfl W4 _ rfl v4.heap.size rfl rfl rfl four_one (by omega) (by decide) hz9 ?_
    intro gn cap w6 hown6 hbb hkp hgn
    have X6 := hkp _ _ _ X4 (W4.other X4 (by decide))
    have hS12 := HSB.out _ X6
    refine hK.out _ _ ⟨fun _ => hS12, ?_⟩
    clear hK K
    try simp only [Act.put, List.setIfInBounds_toArray, List.set_cons_zero, List.set_cons_succ]
    refine WpN.takeD (i := 13) (v := ?_) rfl rfl (by kernel_rfl) (fun _ _ _ h => h) (Or.inl ⟨by rfl, ?_⟩) (by assumption) ?_
    rotate_left
    · intro w hSw; rw [hSS.out] at hSw; have sw0 := hSw; go_simp; try with_reducible rfl
    simp only [Act.put, List.setIfInBounds_toArray, List.set_cons_zero, List.set_cons_succ]
    refine WpN.one (i := 14) rfl (by kernel_rfl) fun K hK => ?_
    obtain ⟨y1, y2, y3⟩ := X6.facts
    go_wp2_with fail
    refine hK.out _ _ ⟨fun h => by omega, ?_⟩
    clear hK K
    refine WpN.done (by kernel_rfl) ?_ _
    have BR6 := hkp _ _ _ BR4 (W4.other BR4 (by decide))
    have hgwx : w.heap.size ≠ gx := by omega
    have HRB := Lib.hid hrb
    clear y1 y2 y3
    go_wp2_with fail
    go_roundw
    case rel =>
      refine ⟨k + 1, _, legs ++ [⟨n1, n2, n3, n4⟩], t4, by omega, by go_num, HN, by simp; omega, a4, by simpa using hown6.keep (keep_store X6 (by decide) 2 _), by simpa using X6.set_ 2 (.slice (some ⟨gn, 0, none⟩) (legs.length + 1) cap), BR6.far (by simp; omega) _, ?_⟩
      refine ⟨(hkp _ _ _ R4.blk (W4.other R4.blk (by decide))).far (by simp; omega) _, fun g t cs hg h => ?_, fun q w0 h h1 h2 => ?_, ?_⟩
      · have hgl := h.lt
        have h8 := R4.keep g t cs hg h
        by_cases hgW : some g = (Value.slice Al legs.length dl).ownBlock
        · exfalso
          have := hgl
          rcases W4.2 with ⟨k1, _⟩ | ⟨gg, _, _, k1, k2, _⟩
          · rw [k1] at hgW; simp [Value.ownBlock] at hgW
          · rw [k1] at hgW
            simp only [Value.ownBlock, Option.some.injEq] at hgW
            simp at hgl
            omega
        · have hgx2 : g ≠ gx := by
            rintro rfl
            have := h.lt
            simp at this
            omega
          exact (hkp _ _ _ h8 hgW).far (by simpa using hgx2) _
      · exact ((R4.below q w0 h h1 h2).trans (hbb.mono (by omega))).setCell (by simp; omega) _
      · have := hbb.size; have := R4.size; simp at *; omega
    case measure => simp [intOf]; omega
end Go.Proofs.Ytcgnalpcbcpmkaa
/- More plain laws of what is read: bounds, early ends, the last number; no program in sight. -/
namespace Go.Proofs.Ytcgnalpcbcpmkaa
open Go.RowKit

theorem rList_stays {α : Type} {f : RSt → α × RSt} (hf : ∀ r : RSt, r.2 ≠ 0 → (f r).2 = r) (r : RSt) {k : Nat} (h : (rList f k r).2.2 ≠ 0) : ∀ m, (rList f (k + m) r).2 = (rList f k r).2
  | 0 => rfl
  | m + 1 => by
    have ih := rList_stays hf r h m
    rw [← Nat.add_assoc]
    simp only [rList]
    rw [ih, hf _ h]
theorem rList_all {α : Type} {f : RSt → α × RSt} {P : α → Prop} (hf : ∀ r, P (f r).1) : ∀ (n : Nat) (r : RSt), ∀ x, x ∈ (rList f n r).1 → P x
  | 0, _, x, h => by simp [rList] at h
  | n + 1, r, x, h => by
    simp only [rList, List.mem_append, List.mem_singleton] at h
    rcases h with h | rfl
    · exact rList_all hf n r x h
    · exact hf _
theorem rIvl_small (s : ByteArray) (r : RSt) : I64 (rIvl s r).1.f ∧ I64 (rIvl s r).1.t := by
  have h1 := (rnum_le s 65535 r).2
  have h2 := (rnum_le s 65535 (rnum s 65535 r).2).2
  simp only [rIvl, I64]
  omega
theorem rLeg_small (s : ByteArray) (r : RSt) : LegI (rLeg s r).1 := by
  have h1 := (rnum_le s 65535 r).2
  have h2 := (rnum_le s 65535 (rnum s 65535 r).2).2
  have h3 := (rnum_le s 65535 (rnum s 65535 (rnum s 65535 r).2).2).2
  have h4 := (rnum_le s 65535 (rnum s 65535 (rnum s 65535 (rnum s 65535 r).2).2).2).2
  simp only [rLeg, LegI, I64]
  omega
theorem rEdge_small (s : ByteArray) (r : RSt) : I64 (rEdge s r).1.a ∧ I64 (rEdge s r).1.b ∧ ∀ x, x ∈ (rEdge s r).1.legs → LegI x := by
  have h1 := (rnum_le s 65535 r).2
  have h2 := (rnum_le s 65535 (rnum s 65535 r).2).2
  refine ⟨?_, ?_, fun x hx => rList_all (rLeg_small s) _ _ x hx⟩
  · simp only [rEdge, I64]; omega
  · simp only [rEdge, I64]; omega
/-- The last number's bytes, from the last one on. -/
def tailF (s : ByteArray) (a : Nat) : Nat → Nat
  | 0 => 0
  | j + 1 => tailF s a j * 256 + byteAt s (a + (3 - j))
theorem tailF_lt (s : ByteArray) (a : Nat) : ∀ j, tailF s a j < 256 ^ j
  | 0 => by simp [tailF]
  | j + 1 => by
    have ih := tailF_lt s a j
    have := byteAt_lt s (a + (3 - j))
    rw [tailF, Nat.pow_succ]
    omega
theorem tailF_four (s : ByteArray) (a : Nat) : tailF s a 4 = tail4 s a := by
  simp only [tailF, tail4, Nat.sub_zero, Nat.add_zero, show 3 - 1 = 2 from rfl, show 3 - 2 = 1 from rfl, show 3 - 3 = 0 from rfl]
  omega
theorem tailF_room (s : ByteArray) (a j : Nat) (h : j ≤ 3) : tailF s a j < 16777216 := by
  have h1 := tailF_lt s a j
  have h2 : 256 ^ j ≤ 256 ^ 3 := Nat.pow_le_pow_right (by decide) h
  have h3 : (256 : Nat) ^ 3 = 16777216 := by decide
  omega
theorem wraps_u32' (n : Int) (h0 : 0 ≤ n) (h1 : n < 2 ^ 32) : IntKind.u32.wrap n = n := wraps_u32 n h0 h1
theorem or_u32 (a b : Nat) (ha : a < 16777216) (hb : b < 256) : bits .or .u32 ((a : Int) * 256) (b : Int) = ((a * 256 + b : Nat) : Int) := by
  have h := (bits_nat .u32 32 (by decide) wraps_u32 (a * 256) b (by omega) (by omega)).2
  have e : a * 256 ||| b = a * 256 + b := by
    have := Nat.shiftLeft_add_eq_or_of_lt (i := 8) (b := b) (by omega) a
    rw [Nat.shiftLeft_eq] at this
    exact this.symm
  rw [e] at h
  simpa using h
def decOut (s : ByteArray) : GraphD := if decErr s = 0 then (rGraph s).1 else zeroG
end Go.Proofs.Ytcgnalpcbcpmkaa
