/- One text: LawSaysM. -/
import Derived.Test.YtcfachfldanddaaBdab14bfa918
import Derived.Test.YtcfachfldanddaaBd326a6a511a
import Derived.Test.YtcfachfldanddaaBd11a19a73e8
import Derived.Test.YtcfachfldanddaaBd44e7910821
import Derived.Test.YtcfachfldanddaaBd712578e31d
/- The law ImapSays. -/
namespace Go.Proofs.Ytcfachfldanddaa
open Go.RowKit Go.Shelf

theorem TimesSay.good {m : List PieceD} {er er' : Int} {out out' : List IvlD} (h0 : mapErr m = 0) (h : TimesSay m er out) (k : NormSay (spanL m) er' out') : er = 0 ∧ out = out' := by
  have h2 := TimesSay.of_norm h0 k
  have e1 : er = 0 := h.1.trans h0
  have e2 : er' = 0 := h2.1.trans h0
  refine ⟨e1, ?_⟩
  have h3 := h.2
  have h4 := h2.2
  rw [if_pos e1] at h3
  rw [if_pos e2] at h4
  exact h3.eq h4
theorem TimesSay.bad_of {m : List PieceD} {er : Int} {out : List IvlD} (h0 : mapErr m ≠ 0) (h : TimesSay m er out) : er = mapErr m ∧ out = [] := by
  refine ⟨h.1, ?_⟩
  have h3 := h.2
  rwa [if_neg (by rw [h.1]; exact h0)] at h3
set_option maxRecDepth 100000 in
set_option maxHeartbeats 16000000 in
theorem imapSays_calls (A0 : Option Addr) (c0 : Nat) (m : List PieceD) {w0 : World} (hI0 : PiecesAt w0 A0 c0 m) (p : PieceD) (_ : I64 p.f ∧ I64 p.t ∧ I64 p.v) (B0 : Option Addr) (d0 : Nat) (l : List IvlD) (hI1 : IvlsAt w0 B0 d0 l) (t : Int) (_ : I64 t) :
    Calls Try.prog 10 #[.slice A0 m.length c0, pieceV p, .slice B0 l.length d0, .int .i64 t] w0 fun e w' => e = .returned (.bool true) ∧ Below w0.heap.size w0 w' := by
  obtain ⟨i0, hi, hz0, hz1, hz2⟩ := info_ivl2
  have m0 := hI0.len
  have m1 := hI1.len
  have H0 := Lib.hid hI0
  have H1 := Lib.hid hI1
  have hC1 := fun W (h : PiecesAt W A0 c0 m) => refMap_any A0 c0 m W h
  have hC2 := fun W (h : PiecesAt W A0 c0 m) => imapCheck_any A0 c0 m W h
  have hT1 := fun W (h : PiecesAt W A0 c0 m) => imapAt_any A0 c0 m t W h
  have hT2 := fun W (h : PiecesAt W A0 c0 m) => refAt_any A0 c0 m t W h
  obtain ⟨er, her⟩ : ∃ er, mapErr m = er := ⟨_, rfl⟩
  obtain ⟨o, ho⟩ : ∃ o, atM m t = o := ⟨_, rfl⟩
  simp only [her] at hC1 hC2
  simp only [ho] at hT1 hT2
  unfold atV at hT1 hT2
  obtain ⟨ov, hov⟩ : ∃ v, o.getD 0 = v := ⟨_, rfl⟩
  obtain ⟨ob, hob⟩ : ∃ v, o.isSome = v := ⟨_, rfl⟩
  simp only [hov, hob] at hT1 hT2
  have HER := Lib.hid her
  clear hI0 hI1 her ho hov hob
  go_enter Try.func10, Try.ntmps10
  go_wp2_with fail
  have B4 := Blk.new w0 42 #[.int .i64 p.f, .int .i64 p.t, .int .i64 p.v]
  have hb0 := ext_alloc (Below.refl _ w0) (Obj.cells #[.int .i64 p.f, .int .i64 p.t, .int .i64 p.v] 42)
  refine (hC1 _ (H0.out.ext hb0)).mono ?_
  rintro e w1 ⟨rfl, hb1⟩
  have B4 := B4.ext hb1
  have hb1 := ext_trans hb0 hb1
  clear hb0
  go_wp2_with fail
  refine (hT1 _ (H0.out.ext hb1)).mono ?_
  rintro e w2 ⟨rfl, hb2⟩
  have B4 := B4.ext hb2
  have hb2 := ext_trans hb1 hb2
  clear hb1
  go_wp2_with fail
  refine (hT2 _ (H0.out.ext hb2)).mono ?_
  rintro e w3 ⟨rfl, rfl⟩
  go_wp2_with fail
  refine (hC2 _ (H0.out.ext hb2)).mono ?_
  rintro e w3 ⟨rfl, hb3⟩
  have B4 := B4.ext hb3
  have hb3 := ext_trans hb2 hb3
  clear hb2 hC1 hC2 hT1 hT2
  obtain ⟨q1, q2, q3⟩ := B4.facts
  go_wp2_with (go_at_call 31; refine (imapPut_any A0 c0 m p _ (H0.out.ext hb3)).mono ?_; rintro e w4 ⟨e1, x1, X1, y1, HP1, rfl, hP1, hb4⟩; clear q1 q2 q3; have B4 := B4.ext hb4; obtain ⟨q1, q2, q3⟩ := B4.facts)
  have hb4 := ext_trans hb3 hb4
  clear hb3
  refine (refPut_any A0 c0 m p _ (H0.out.ext hb4)).mono ?_
  rintro e w5 ⟨e2, x2, X2, y2, HP2, rfl, hP2, hb5⟩
  obtain ⟨rfl, rfl⟩ := HP1.out.same HP2.out
  have hP1 := hP1.ext hb5
  have hb5 := ext_trans hb4 hb5
  clear hb4 q1 q2 q3
  go_wp2_with fail
  refine (imapCut_any A0 B0 c0 d0 m l _ (H0.out.ext hb5) (H1.out.ext hb5)).mono ?_
  rintro e w6 ⟨e3, x3, X3, y3, HC1, rfl, hK1, hb6⟩
  have hP1 := hP1.ext hb6
  have hP2 := hP2.ext hb6
  have hb6 := ext_trans hb5 hb6
  clear hb5
  go_wp2_with fail
  refine (refOnly_any A0 B0 c0 d0 m l false _ (H0.out.ext hb6) (H1.out.ext hb6)).mono ?_
  rintro e w7 ⟨e4, x4, X4, y4, HC2, rfl, hK2, hb7⟩
  obtain ⟨rfl, rfl⟩ := HC1.out.same HC2.out
  have hP1 := hP1.ext hb7
  have hP2 := hP2.ext hb7
  have hK1 := hK1.ext hb7
  have hb7 := ext_trans hb6 hb7
  clear hb6
  go_wp2_with fail
  refine (imapKeep_any A0 B0 c0 d0 m l _ (H0.out.ext hb7) (H1.out.ext hb7)).mono ?_
  rintro e w8 ⟨e5, x5, X5, y5, HK1, rfl, hL1, hb8⟩
  have hP1 := hP1.ext hb8
  have hP2 := hP2.ext hb8
  have hK1 := hK1.ext hb8
  have hK2 := hK2.ext hb8
  have hb8 := ext_trans hb7 hb8
  clear hb7
  go_wp2_with fail
  refine (refOnly_any A0 B0 c0 d0 m l true _ (H0.out.ext hb8) (H1.out.ext hb8)).mono ?_
  rintro e w9 ⟨e6, x6, X6, y6, HK2, rfl, hL2, hb9⟩
  obtain ⟨rfl, rfl⟩ := HK1.out.same HK2.out
  have hP1 := hP1.ext hb9
  have hP2 := hP2.ext hb9
  have hK1 := hK1.ext hb9
  have hK2 := hK2.ext hb9
  have hL1 := hL1.ext hb9
  have hb9 := ext_trans hb8 hb9
  clear hb8
  go_wp2_with fail
  refine (imapTimes_any A0 c0 m _ (H0.out.ext hb9)).mono ?_
  rintro e w10 ⟨e7, x7, X7, y7, HT1, rfl, hM1, hb10⟩
  have hP1 := hP1.ext hb10
  have hP2 := hP2.ext hb10
  have hK1 := hK1.ext hb10
  have hK2 := hK2.ext hb10
  have hL1 := hL1.ext hb10
  have hL2 := hL2.ext hb10
  have hb10 := ext_trans hb9 hb10
  obtain rfl : e7 = er := HT1.out.1.trans HER.out
  clear hb9
  by_cases h0 : e7 = 0
  case neg =>
    have hd : (e7 == 0) = false := by simpa using h0
    obtain rfl : x7 = [] := (HT1.out.bad_of (by rw [HER.out]; exact h0)).2
    clear h0
    go_wp2_with fail
    refine (equalPiecesSame _ _ _ _ _ _ hP1 hP2).mono ?_
    rintro e w11 ⟨rfl, hb11⟩
    have hK1 := hK1.ext hb11
    have hK2 := hK2.ext hb11
    have hL1 := hL1.ext hb11
    have hL2 := hL2.ext hb11
    have hM1 := hM1.ext hb11
    have hb11 := ext_trans hb10 hb11
    go_wp2_with fail
    refine (equalPiecesSame _ _ _ _ _ _ hK1 hK2).mono ?_
    rintro e w12 ⟨rfl, hb12⟩
    have hL1 := hL1.ext hb12
    have hL2 := hL2.ext hb12
    have hM1 := hM1.ext hb12
    have hb12 := ext_trans hb11 hb12
    go_wp2_with fail
    refine (equalPiecesSame _ _ _ _ _ _ hL1 hL2).mono ?_
    rintro e w13 ⟨rfl, hb13⟩
    have hM1 := hM1.ext hb13
    have hb13 := ext_trans hb12 hb13
    go_wp2_with fail
    refine (equalIvlsSame _ _ _ _ _ _ hM1 IvlsAt.nil).mono ?_
    rintro e w14 ⟨rfl, hb14⟩
    go_wp2_with fail
    go_ret
    exact ⟨by simp, ext_trans hb13 hb14⟩
  case pos =>
  subst h0
  have HM := Lib.hid (mapErr_zero HER.out)
  have hz1w := hb10.size
  go_wp2_with fail
  go_loopw [29, 105] (fun u v wr => ∃ k : Nat, k ≤ m.length ∧ v = .int .i64 k ∧ Own ivlC 2 wr w10.heap.size 25 u (spanL (m.take k)) ∧ Below w10.heap.size w10 wr) (fun _ v _ => m.length - (intOf v).toNat)
  case atStart => exact ⟨0, Nat.zero_le _, rfl, Own.nil, Below.refl _ _⟩
  case round =>
    obtain ⟨k, hk, rfl, hO, hb⟩ := hrel
    have hzw := hb.size
    by_cases hlt : k < m.length
    case neg =>
      obtain rfl : k = m.length := by omega
      rw [List.take_length] at hO
      obtain ⟨A2, c2, rfl, hI2⟩ := own_ivls hO (fun y hy => by
        obtain ⟨x, hx, rfl⟩ := List.mem_map.1 hy
        obtain ⟨j, hj⟩ := List.getElem?_of_mem hx
        have := H0.out.i64 hj
        exact ⟨this.1, this.2.1⟩)
      have hN := refNorm_any A2 c2 (spanL m) wr hI2
      have hP1 := hP1.ext hb
      have hP2 := hP2.ext hb
      have hK1 := hK1.ext hb
      have hK2 := hK2.ext hb
      have hL1 := hL1.ext hb
      have hL2 := hL2.ext hb
      have hM1 := hM1.ext hb
      have hb := ext_trans hb10 hb
      clear hO hb10
      rw [spanL_len] at hN ⊢
      go_wp2_with fail
      refine hN.mono ?_
      rintro e w3' ⟨e8, x8, X8, y8, HR, rfl, hM2, hb3⟩
      obtain ⟨_, rfl⟩ := HT1.out.good HER.out HR.out
      have hP1 := hP1.ext hb3
      have hP2 := hP2.ext hb3
      have hK1 := hK1.ext hb3
      have hK2 := hK2.ext hb3
      have hL1 := hL1.ext hb3
      have hL2 := hL2.ext hb3
      have hM1 := hM1.ext hb3
      have hb3 := ext_trans hb hb3
      clear hN hb
      go_wp2_with fail
      refine (equalPiecesSame _ _ _ _ _ _ hP1 hP2).mono ?_
      rintro e w11 ⟨rfl, hb11⟩
      have hK1 := hK1.ext hb11
      have hK2 := hK2.ext hb11
      have hL1 := hL1.ext hb11
      have hL2 := hL2.ext hb11
      have hM1 := hM1.ext hb11
      have hM2 := hM2.ext hb11
      have hb11 := ext_trans hb3 hb11
      go_wp2_with fail
      refine (equalPiecesSame _ _ _ _ _ _ hK1 hK2).mono ?_
      rintro e w12 ⟨rfl, hb12⟩
      have hL1 := hL1.ext hb12
      have hL2 := hL2.ext hb12
      have hM1 := hM1.ext hb12
      have hM2 := hM2.ext hb12
      have hb12 := ext_trans hb11 hb12
      go_wp2_with fail
      refine (equalPiecesSame _ _ _ _ _ _ hL1 hL2).mono ?_
      rintro e w13 ⟨rfl, hb13⟩
      have hM1 := hM1.ext hb13
      have hM2 := hM2.ext hb13
      have hb13 := ext_trans hb12 hb13
      go_wp2_with fail
      refine (equalIvlsSame _ _ _ _ _ _ hM1 hM2).mono ?_
      rintro e w14 ⟨rfl, hb14⟩
      go_wp2_with fail
      go_ret
      exact ⟨by simp, ext_trans hb13 hb14⟩
    case pos =>
      obtain ⟨x, hx⟩ := get_lt hlt
      obtain ⟨b, off, rfl, hb0, x0, x1, x2⟩ := (H0.out.ext hb10).get hx
      rw [← hb.cell (by exact hb0)] at x0 x1 x2
      have HN := Lib.hid (spanL_succ hx)
      have hcl : (spanL (m.take k)).length + 1 ≤ 1000000 := by rw [spanL_len, List.length_take]; have := HM.out.1; omega
      obtain ⟨a2, ha2⟩ : ∃ a2, a2 = spanL (m.take k) := ⟨_, rfl⟩
      have HA2 := Lib.hid ha2
      rw [← ha2] at hcl hO
      clear hx ha2
      go_wp2_with (at_builtin; refine wpList_append_lie (enc := ivlC) rfl (.tmp 109) (.tmp 115) 22 rfl w10.heap.size 25 i0 _ 2 16 Try.underlying22 hi hz0 hz1 hz2 rfl (by decide) _ a2 ⟨x.f, x.t⟩ rfl (hO.alloc _) #[.int .i64 x.f, .int .i64 x.t] rfl (wr.heap.size + 1) (by simp) rfl rfl two_one hcl (by decide) (by simp; omega) ?_; intro gn cap w6' hown6 hb8 hkp hgn)
      go_roundw
      case rel => exact ⟨k + 1, by omega, by go_num, by rw [HN.out, ← HA2.out]; exact hown6, (ext_alloc hb _).trans hb8⟩
      case measure => simp [intOf]; omega
end Go.Proofs.Ytcfachfldanddaa
