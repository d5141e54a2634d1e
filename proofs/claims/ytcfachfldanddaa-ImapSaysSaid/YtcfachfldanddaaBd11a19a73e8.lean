/- Several texts in one: MapTimes, LawParts2. -/
import Derived.Test.YtcfachfldanddaaBd476b4ef948
import Derived.Test.YtcfachfldanddaaBd412ff9c6d9
import Derived.Test.YtcfachfldanddaaBd712578e31d
import Derived.Test.YtcfachfldanddaaBd44e7910821
import Derived.Test.YtcfachfldanddaaBd1064f1ead7
import Derived.Test.YtcfachfldanddaaBdccfcf96dcb
/- The walk of imap.Times. -/
namespace Go.Proofs.Ytcfachfldanddaa
open Go.RowKit Go.Shelf

theorem spanL_succ {m : List PieceD} {k : Nat} {x : PieceD} (h : m[k]? = some x) : spanL (m.take (k + 1)) = spanL (m.take k) ++ [⟨x.f, x.t⟩] := by
  unfold spanL; rw [takeM_succ h, List.map_append]; rfl
theorem spanL_len (m : List PieceD) : (spanL m).length = m.length := List.length_map _
theorem TimesSay.of_norm {m : List PieceD} {er : Int} {out : List IvlD} (h0 : mapErr m = 0) (h : NormSay (spanL m) er out) : TimesSay m er out := by
  obtain ⟨h1, h2⟩ := mapErr_zero h0
  have h3 : ¬ 200 < (spanL m).length := by rw [spanL_len]; omega
  have h4 : ¬ (spanL m).any farX = true := fun hc => by
    obtain ⟨x, hx, hf⟩ := List.any_eq_true.1 hc
    obtain ⟨y, hy, rfl⟩ := List.mem_map.1 hx
    have := h2.near y hy
    unfold farX farB at hf
    rw [this.1, this.2.1] at hf
    simp at hf
  unfold NormSay at h
  rw [if_neg h3, if_neg h4] at h
  exact ⟨by rw [h.1, h0], by rw [if_pos h.1]; exact h.2⟩
theorem TimesSay.bad {m : List PieceD} (h0 : mapErr m ≠ 0) : TimesSay m (mapErr m) [] := ⟨rfl, by rw [if_neg h0]⟩

set_option maxRecDepth 100000 in
set_option maxHeartbeats 4000000 in
theorem imapTimes_any (A : Option Addr) (c : Nat) (m : List PieceD) (w : World) (hI : PiecesAt w A c m) :
    Calls Try.prog 46 #[.slice A m.length c] w (SetOut (TimesSay m) w) := by
  obtain ⟨i0, hi, hz0, hz1, hz2⟩ := info_ivl2
  have m1 := hI.len
  have HI := Lib.hid hI
  have hC := imapCheck_any A c m w hI
  clear hI
  by_cases h0 : mapErr m = 0
  case neg =>
    have hd : (mapErr m != 0) = true := by simpa using h0
    have HS := Lib.hid (TimesSay.bad h0)
    clear h0
    obtain ⟨er, her⟩ : ∃ er, mapErr m = er := ⟨_, rfl⟩
    rw [her] at hd HS hC
    clear her
    go_enter Try.func46, Try.ntmps46
    go_wp2_with fail
    refine hC.mono ?_
    rintro e w1 ⟨rfl, hb1⟩
    clear hC
    go_wp2_with fail
    refine bodyPost_ret (v := .tuple #[.slice none 0 0, .int .i64 er]) (by simp [results, Try.results46]) rfl ?_
    exact ⟨er, [], none, 0, HS, rfl, IvlsAt.nil, hb1⟩
  case pos =>
  have H0 := Lib.hid h0
  have HM := Lib.hid (mapErr_zero h0)
  rw [h0] at hC
  clear h0
  go_enter Try.func46, Try.ntmps46
  go_wp2_with fail
  refine hC.mono ?_
  rintro e w1 ⟨rfl, hb1⟩
  clear hC
  go_wp2_with fail
  have hz1w := hb1.size
  go_loopw [5, 15] (fun u v wr => ∃ k : Nat, k ≤ m.length ∧ v = .int .i64 k ∧ Own ivlC 2 wr w1.heap.size 25 u (spanL (m.take k)) ∧ Below w1.heap.size w1 wr) (fun _ v _ => m.length - (intOf v).toNat)
  case atStart => exact ⟨0, Nat.zero_le _, rfl, Own.nil, Below.refl _ _⟩
  case round =>
    obtain ⟨k, hk, rfl, hO, hb⟩ := hrel
    have hzw := hb.size
    by_cases hlt : k < m.length
    case neg =>
      obtain rfl : k = m.length := by omega
      rw [List.take_length] at hO
      obtain ⟨A2, c2, rfl, hI2⟩ := own_ivls hO (fun y hy => by
        obtain ⟨x, hx, rfl⟩ := List.mem_map.1 hy
        obtain ⟨j, hj⟩ := List.getElem?_of_mem hx
        have := HI.out.i64 hj
        exact ⟨this.1, this.2.1⟩)
      have hN := ivlNorm_any A2 c2 (spanL m) wr hI2
      clear hO
      rw [spanL_len] at hN ⊢
      go_wp2_with fail
      refine hN.mono ?_
      rintro e w3 ⟨er, out, A3, c3, HR, rfl, hI3, hb3⟩
      clear hN
      go_wp2_with fail
      refine bodyPost_ret (v := .tuple #[.slice A3 out.length c3, .int .i64 er]) (by simp [results, Try.results46]) rfl ?_
      exact ⟨er, out, A3, c3, Lib.hid (TimesSay.of_norm H0.out HR.out), rfl, hI3, ext_trans (hb1.trans (hb.mono hz1w)) hb3⟩
    case pos =>
      obtain ⟨x, hx⟩ := get_lt hlt
      obtain ⟨b, off, rfl, hb0, x0, x1, x2⟩ := (HI.out.ext hb1).get hx
      rw [← hb.cell (by exact hb0)] at x0 x1 x2
      have HN := Lib.hid (spanL_succ hx)
      have hcl : (spanL (m.take k)).length + 1 ≤ 1000000 := by rw [spanL_len, List.length_take]; have := HM.out.1; omega
      obtain ⟨a2, ha2⟩ : ∃ a2, a2 = spanL (m.take k) := ⟨_, rfl⟩
      have HA2 := Lib.hid ha2
      rw [← ha2] at hcl hO
      clear hx ha2
      go_wp2_with (at_builtin; refine wpList_append_lie (enc := ivlC) rfl (.tmp 19) (.tmp 25) 22 rfl w1.heap.size 25 i0 _ 2 16 Try.underlying22 hi hz0 hz1 hz2 rfl (by decide) _ a2 ⟨x.f, x.t⟩ rfl (hO.alloc _) #[.int .i64 x.f, .int .i64 x.t] rfl (wr.heap.size + 1) (by simp) rfl rfl two_one hcl (by decide) (by simp; omega) ?_; intro gn cap w6 hown6 hb8 hkp hgn)
      go_roundw
      case rel => exact ⟨k + 1, by omega, by go_num, by rw [HN.out, ← HA2.out]; exact hown6, (ext_alloc hb _).trans hb8⟩
      case measure => simp [intOf]; omega
end Go.Proofs.Ytcfachfldanddaa
/- The law ImapParts. -/
namespace Go.Proofs.Ytcfachfldanddaa
open Go.RowKit Go.Shelf

set_option maxRecDepth 100000 in
set_option maxHeartbeats 8000000 in
theorem imapParts_calls (A0 : Option Addr) (c0 : Nat) (l0 : List PieceD) {w0 : World} (hI0 : PiecesAt w0 A0 c0 l0) (B0 : Option Addr) (d0 : Nat) (s0 : List IvlD) (hI1 : IvlsAt w0 B0 d0 s0) (k : Int) (hk : I64 k) :
    Calls Try.prog 11 #[.slice A0 l0.length c0, .slice B0 s0.length d0, .int .i64 k] w0 fun e w' => e = .returned (.bool true) ∧ Below w0.heap.size w0 w' := by
  have m0 := hI0.len
  have ms := hI1.len
  have H0 := Lib.hid hI0
  have H1 := Lib.hid hI1
  have HK64 := Lib.hid hk
  have hk0 := Int.emod_nonneg k (show (3 : Int) ≠ 0 by decide)
  have hk1 := Int.emod_lt_of_pos k (show (0 : Int) < 3 by decide)
  obtain ⟨j, hj⟩ : ∃ j, k % 3 = j := ⟨_, rfl⟩
  have hR := fun w => rest_any k 3 w hk (by decide) (by decide)
  rw [hj] at hk0 hk1
  simp only [hj] at hR
  have hkw : IntKind.i64.wrap (1 + j) = 1 + j := IntWalk.i64_in _ (by omega)
  clear hI0 hI1 hk hj
  go_enter Try.func11, Try.ntmps11
  go_wp2_with fail
  refine (begunMap_any _).mono ?_
  rintro e w1 ⟨rfl, hb1⟩
  go_wp2_with fail
  refine (built_any A0 c0 l0 _ (H0.out.ext hb1)).mono ?_
  rintro e w2 ⟨Am, cm, m, HM, rfl, hIm, hb2⟩
  have hb2 := ext_trans hb1 hb2
  have OM := Lib.hid HM.out.ok
  clear hb1 HM
  go_wp2_with fail
  refine (made_any B0 d0 s0 _ (H1.out.ext hb2)).mono ?_
  rintro e w3 ⟨As, cs, s, HS, rfl, hIs, hb3⟩
  have hIm := hIm.ext hb3
  have hb3 := ext_trans hb2 hb3
  have OS : Hid (Of (hasB s) 60 s) := Lib.hid (made_of HS.out)
  have OSE : Hid (setErr s = 0) := Lib.hid (OS.out.ok (by decide))
  clear hb2 HS
  go_wp2_with fail
  refine (imapCut_any Am As cm cs m s _ hIm hIs).mono ?_
  rintro e w4 ⟨e1, cut, Ac, cc, HC, rfl, hIc, hb4⟩
  have hIm := hIm.ext hb4
  have hIs := hIs.ext hb4
  have hb4 := ext_trans hb3 hb4
  clear hb3
  go_wp2_with fail
  refine (imapKeep_any Am As cm cs m s _ hIm hIs).mono ?_
  rintro e w5 ⟨e2, keep, Ak, ck, HK, rfl, hIk, hb5⟩
  have hIm := hIm.ext hb5
  have hIs := hIs.ext hb5
  have hIc := hIc.ext hb5
  have hb5 := ext_trans hb4 hb5
  clear hb4
  by_cases h1 : e1 = 0
  case neg =>
    obtain rfl : e1 = 2 := HC.out.two OM.out OSE.out h1
    clear h1
    go_wp2_with fail
    go_ret
    exact ⟨rfl, hb5⟩
  case pos =>
  subst h1
  by_cases h2 : e2 = 0
  case neg =>
    obtain rfl : e2 = 2 := HK.out.two OM.out OSE.out h2
    clear h2
    go_wp2_with fail
    go_ret
    exact ⟨rfl, hb5⟩
  case pos =>
  subst h2
  go_wp2_with fail
  refine (hR _).mono ?_
  rintro e w6 ⟨rfl, rfl⟩
  go_wp2_with fail
  refine (imapMerge_any Ac Ak cc ck cut keep (1 + j) _ hIc hIk).mono ?_
  rintro e w6 ⟨er, all, Aa, ca, HA, rfl, hIa, hb6⟩
  obtain ⟨rfl, rfl⟩ := parts_all HC.out HK.out HA.out OM.out OSE.out (by omega)
  have hIm := hIm.ext hb6
  have hIs := hIs.ext hb6
  have hIk := hIk.ext hb6
  have hb6 := ext_trans hb5 hb6
  clear hb5 hIc hR
  go_wp2_with fail
  refine (imapTimes_any Ak ck keep _ hIk).mono ?_
  rintro e w7 ⟨et, x, Ax, cx, HX, rfl, hIx, hb7⟩
  obtain rfl : et = 0 := (HX.out.of (HK.out.ok OM.out OSE.out rfl)).1
  have hIm := hIm.ext hb7
  have hIa := hIa.ext hb7
  have hIs := hIs.ext hb7
  have hb7 := ext_trans hb6 hb7
  clear hb6 hIk
  go_wp2_with fail
  refine (imapTimes_any Am cm _ _ hIm).mono ?_
  rintro e w8 ⟨et, y, Ay, cy, HY, rfl, hIy, hb8⟩
  obtain rfl : et = 0 := (HY.out.of OM.out).1
  have hIm := hIm.ext hb8
  have hIa := hIa.ext hb8
  have hIs := hIs.ext hb8
  have hIx := hIx.ext hb8
  have hb8 := ext_trans hb7 hb8
  clear hb7
  go_wp2_with fail
  refine (equalPiecesSame _ _ _ _ _ _ hIa hIm).mono ?_
  rintro e w9 ⟨rfl, hb9⟩
  have hIs := hIs.ext hb9
  have hIx := hIx.ext hb9
  have hIy := hIy.ext hb9
  have hb9 := ext_trans hb8 hb9
  clear hb8 hIa hIm
  go_wp2_with fail
  refine (meetS_any Ay As cy cs y s _ hIy hIs).mono ?_
  rintro e w10 ⟨e3, z, Az, cz, HZ, rfl, hIz, hb10⟩
  obtain ⟨_, _, rfl, rfl⟩ := parts_times HK.out HX.out HY.out HZ.out OM.out OS.out (by decide)
  have hIx := hIx.ext hb10
  have hb10 := ext_trans hb9 hb10
  clear hb9 hIy hIs
  go_wp2_with fail
  refine (got_ok Az _ cz _).mono ?_
  rintro e w11 ⟨rfl, rfl⟩
  go_wp2_with fail
  refine (equalIvlsSame _ _ _ _ _ _ hIx hIz).mono ?_
  rintro e w12 ⟨rfl, hb12⟩
  go_wp2_with fail
  go_ret
  exact ⟨rfl, ext_trans hb10 hb12⟩
end Go.Proofs.Ytcfachfldanddaa
