/- One text: IvlLaw2. -/
import Derived.Test.YtcfachfldanddaaBdccfcf96dcb
import Derived.Test.YtcfachfldanddaaBd0b6a58c66c
/- The walk of the law IvlLaws (printed by genivllaws.py). -/
namespace Go.Proofs.Ytcfachfldanddaa
open Go.RowKit Go.Shelf

theorem equalIvlsSame (A B : Option Addr) (c d : Nat) (l : List IvlD) (w : World) (hA : IvlsAt w A c l) (hB : IvlsAt w B d l) :
    Calls Try.prog 22 #[.slice A l.length c, .slice B l.length d] w fun e w' => e = .returned (.bool true) ∧ Below w.heap.size w w' :=
  (equalIvls_any A B c d l l w hA.sl hB.sl (Nat.le_trans hA.lc hA.cm) (Nat.le_trans hB.lc hB.cm)).mono fun _ _ ⟨h1, h2⟩ => ⟨by rw [h1]; simp, h2⟩
theorem ivls_lit2 {w : World} {g : Nat} {a b a' b' : Int} (h : Blk w g 25 #[.int .i64 a, .int .i64 b, .int .i64 a', .int .i64 b']) (ha : I64 a) (hb : I64 b) (ha' : I64 a') (hb' : I64 b') : IvlsAt w (some ⟨g, 0, none⟩) 2 [⟨a, b⟩, ⟨a', b'⟩] := by
  refine ⟨Nat.le_refl _, by unfold maxLen; omega, g, 0, fun i x hx => ?_⟩
  match i, hx with
  | 0, hx =>
    obtain rfl : (⟨a, b⟩ : IvlD) = x := by simpa using hx
    exact ⟨rfl, h.lt, ⟨h.cell 0, h.cell 1⟩, ha, hb⟩
  | 1, hx =>
    obtain rfl : (⟨a', b'⟩ : IvlD) = x := by simpa using hx
    exact ⟨rfl, h.lt, ⟨h.cell 2, h.cell 3⟩, ha', hb'⟩
  | i + 2, hx => simp at hx
theorem norm_lit {er : Int} {out : List IvlD} (h : NormSay [⟨5, 9⟩, ⟨1, 5⟩] er out) : er = 0 ∧ out = [⟨1, 9⟩] := by
  unfold NormSay at h
  rw [if_neg (by decide), if_neg (by decide)] at h
  refine ⟨h.1, norm_unique h.2.1 ⟨by simp, fun x hx => by simp at hx; rw [hx]; decide⟩ fun t => ?_⟩
  rw [h.2.2, Bool.eq_iff_iff]
  simp only [has_cons, has_nil]
  simp
  omega
theorem Of.sizes {p : Int → Bool} {n : Nat} {a : List IvlD} (h : Of p n a) (hn : n ≤ 200) : 0 ≤ sizeL a ∧ sizeL a ≤ 400000000000 := by
  have h1 := size_pre h.setOk (by have := h.len; omega) a.length
  rwa [List.take_length] at h1

set_option maxRecDepth 100000 in
set_option maxHeartbeats 16000000 in
theorem ivlLaws_calls (A0 : Option Addr) (c0 : Nat) (l0 : List IvlD) {w0 : World} (hI0 : IvlsAt w0 A0 c0 l0) (A1 : Option Addr) (c1 : Nat) (l1 : List IvlD) (hI1 : IvlsAt w0 A1 c1 l1) (A2 : Option Addr) (c2 : Nat) (l2 : List IvlD) (hI2 : IvlsAt w0 A2 c2 l2) :
    Calls Try.prog 4 #[.slice A0 l0.length c0, .slice A1 l1.length c1, .slice A2 l2.length c2] w0 fun e w' => e = .returned (.bool true) ∧ Below w0.heap.size w0 w' := by
  have H0 := Lib.hid hI0; have H1 := Lib.hid hI1; have H2 := Lib.hid hI2
  clear hI0 hI1 hI2
  go_enter Try.func4, Try.ntmps4
  go_wp2_with fail
  refine (ivlNorm_any _ _ [⟨5, 9⟩, ⟨1, 5⟩] _ (ivls_lit2 (Blk.new w0 25 #[.int .i64 5, .int .i64 9, .int .i64 1, .int .i64 5]) (by unfold I64; omega) (by unfold I64; omega) (by unfold I64; omega) (by unfold I64; omega))).mono ?_
  rintro e w8 ⟨er, lz, Az, cz, HS, rfl, hIz, hb8⟩
  obtain ⟨rfl, rfl⟩ := norm_lit HS.out
  have hb8 : Below w0.heap.size w0 w8 := ext_trans (by go_grown) hb8
  clear HS
  go_wp2_with fail
  refine (equalIvlsSame _ _ _ _ [⟨1, 9⟩] _ (hIz.ext (by go_grown)) (ivls_lit (Blk.new w8 25 #[.int .i64 1, .int .i64 9]) (by unfold I64; omega) (by unfold I64; omega))).mono ?_
  rintro e w9 ⟨rfl, hb9⟩
  have hb9 : Below w0.heap.size w0 w9 := ext_trans (ext_trans hb8 (by go_grown)) hb9
  clear hb8 hIz
  go_wp2_with fail
  refine (made_any A0 c0 l0 _ (H0.out.ext hb9)).mono ?_
  rintro e w10 ⟨Aa, ca, a, HM, rfl, hIa, hb10⟩
  have Oa := Lib.hid (made_of HM.out)
  clear HM
  have hb10 := ext_trans hb9 hb10
  clear hb9
  go_wp2_with fail
  refine (made_any A1 c1 l1 _ (H1.out.ext hb10)).mono ?_
  rintro e w11 ⟨Ab, cb, b, HM, rfl, hIb, hb11⟩
  have Ob := Lib.hid (made_of HM.out)
  clear HM
  have hIa := hIa.ext hb11
  have hb11 := ext_trans hb10 hb11
  clear hb10
  go_wp2_with fail
  refine (made_any A2 c2 l2 _ (H2.out.ext hb11)).mono ?_
  rintro e w12 ⟨Ac, cc, c, HM, rfl, hIc, hb12⟩
  have Oc := Lib.hid (made_of HM.out)
  clear HM
  have hIa := hIa.ext hb12
  have hIb := hIb.ext hb12
  have hb12 := ext_trans hb11 hb12
  clear hb11
  go_wp2_with fail
  refine (union_any Aa Ab ca cb a b _ hIa hIb).mono ?_
  rintro e w13 ⟨er, u, Au, cu, HS, rfl, hIu, hb13⟩
  obtain ⟨rfl, hO⟩ := HS.out.or_ Oa.out Ob.out (by omega) (by omega) (by omega)
  have Ou := Lib.hid hO
  clear hO HS
  have hIa := hIa.ext hb13
  have hIb := hIb.ext hb13
  have hIc := hIc.ext hb13
  have hb13 := ext_trans hb12 hb13
  clear hb12
  go_wp2_with fail
  refine (got_ok _ _ _ _).mono ?_
  rintro e w' ⟨rfl, rfl⟩
  go_wp2_with fail
  refine (meetS_any Aa Ab ca cb a b _ hIa hIb).mono ?_
  rintro e w14 ⟨er, i, Ai, ci, HS, rfl, hIi, hb14⟩
  obtain ⟨rfl, hO⟩ := HS.out.and_ Oa.out Ob.out (by omega) (by omega) (by omega)
  have Oi := Lib.hid hO
  clear hO HS
  have hIa := hIa.ext hb14
  have hIb := hIb.ext hb14
  have hIc := hIc.ext hb14
  have hIu := hIu.ext hb14
  have hb14 := ext_trans hb13 hb14
  clear hb13
  go_wp2_with fail
  refine (got_ok _ _ _ _).mono ?_
  rintro e w' ⟨rfl, rfl⟩
  go_wp2_with fail
  refine (minus_any Aa Ab ca cb a b _ hIa hIb).mono ?_
  rintro e w15 ⟨er, m, Am, cm, HS, rfl, hIm, hb15⟩
  obtain ⟨rfl, hO⟩ := HS.out.not_ Oa.out Ob.out (by omega) (by omega) (by omega)
  have Om := Lib.hid hO
  clear hO HS
  have hIa := hIa.ext hb15
  have hIb := hIb.ext hb15
  have hIc := hIc.ext hb15
  have hIu := hIu.ext hb15
  have hIi := hIi.ext hb15
  have hb15 := ext_trans hb14 hb15
  clear hb14
  go_wp2_with fail
  refine (got_ok _ _ _ _).mono ?_
  rintro e w' ⟨rfl, rfl⟩
  go_wp2_with fail
  refine (union_any Ab Aa cb ca b a _ hIb hIa).mono ?_
  rintro e w16 ⟨er, lz, Au2, cu2, HS, rfl, hIu2, hb16⟩
  obtain ⟨rfl, hz⟩ := HS.out.zero Ob.out Oa.out (by omega) (by omega) (Ou.out.le (by omega)) (fun t => by simp only [opOr]; cases hasB a t <;> cases hasB b t <;> rfl)
  obtain rfl := hz.symm
  clear HS
  have hIa := hIa.ext hb16
  have hIb := hIb.ext hb16
  have hIc := hIc.ext hb16
  have hIu := hIu.ext hb16
  have hIi := hIi.ext hb16
  have hIm := hIm.ext hb16
  have hb16 := ext_trans hb15 hb16
  clear hb15
  go_wp2_with fail
  refine (got_ok _ _ _ _).mono ?_
  rintro e w' ⟨rfl, rfl⟩
  go_wp2_with fail
  refine (equalIvlsSame Au Au2 cu cu2 u _ hIu hIu2).mono ?_
  rintro e w17 ⟨rfl, hb17⟩
  have hIa := hIa.ext hb17
  have hIb := hIb.ext hb17
  have hIc := hIc.ext hb17
  have hIu := hIu.ext hb17
  have hIi := hIi.ext hb17
  have hIm := hIm.ext hb17
  have hb17 := ext_trans hb16 hb17
  clear hb16
  go_wp2_with fail
  refine (meetS_any Ab Aa cb ca b a _ hIb hIa).mono ?_
  rintro e w18 ⟨er, lz, Ai2, ci2, HS, rfl, hIi2, hb18⟩
  obtain ⟨rfl, hz⟩ := HS.out.zero Ob.out Oa.out (by omega) (by omega) (Oi.out.le (by omega)) (fun t => by simp only [opAnd]; cases hasB a t <;> cases hasB b t <;> rfl)
  obtain rfl := hz.symm
  clear HS
  have hIa := hIa.ext hb18
  have hIb := hIb.ext hb18
  have hIc := hIc.ext hb18
  have hIu := hIu.ext hb18
  have hIi := hIi.ext hb18
  have hIm := hIm.ext hb18
  have hb18 := ext_trans hb17 hb18
  clear hb17
  go_wp2_with fail
  refine (got_ok _ _ _ _).mono ?_
  rintro e w' ⟨rfl, rfl⟩
  go_wp2_with fail
  refine (equalIvlsSame Ai Ai2 ci ci2 i _ hIi hIi2).mono ?_
  rintro e w19 ⟨rfl, hb19⟩
  have hIa := hIa.ext hb19
  have hIb := hIb.ext hb19
  have hIc := hIc.ext hb19
  have hIu := hIu.ext hb19
  have hIi := hIi.ext hb19
  have hIm := hIm.ext hb19
  have hb19 := ext_trans hb18 hb19
  clear hb18
  go_wp2_with fail
  refine (union_any Am Ai cm ci m i _ hIm hIi).mono ?_
  rintro e w20 ⟨er, lz, Aa2, ca2, HS, rfl, hIa2, hb20⟩
  obtain ⟨rfl, hz⟩ := HS.out.zero Om.out Oi.out (by omega) (by omega) (Oa.out.le (by omega)) (fun t => by simp only [opOr]; cases hasB a t <;> cases hasB b t <;> rfl)
  obtain rfl := hz.symm
  clear HS
  have hIa := hIa.ext hb20
  have hIb := hIb.ext hb20
  have hIc := hIc.ext hb20
  have hIu := hIu.ext hb20
  have hIi := hIi.ext hb20
  have hIm := hIm.ext hb20
  have hb20 := ext_trans hb19 hb20
  clear hb19
  go_wp2_with fail
  refine (got_ok _ _ _ _).mono ?_
  rintro e w' ⟨rfl, rfl⟩
  go_wp2_with fail
  refine (equalIvlsSame Aa2 Aa ca2 ca a _ hIa2 hIa).mono ?_
  rintro e w21 ⟨rfl, hb21⟩
  have hIa := hIa.ext hb21
  have hIb := hIb.ext hb21
  have hIc := hIc.ext hb21
  have hIu := hIu.ext hb21
  have hIi := hIi.ext hb21
  have hIm := hIm.ext hb21
  have hb21 := ext_trans hb20 hb21
  clear hb20
  go_wp2_with fail
  refine (union_any Am Ab cm cb m b _ hIm hIb).mono ?_
  rintro e w22 ⟨er, lz, Au3, cu3, HS, rfl, hIu3, hb22⟩
  obtain ⟨rfl, hz⟩ := HS.out.zero Om.out Ob.out (by omega) (by omega) (Ou.out.le (by omega)) (fun t => by simp only [opOr]; cases hasB a t <;> cases hasB b t <;> rfl)
  obtain rfl := hz.symm
  clear HS
  have hIa := hIa.ext hb22
  have hIb := hIb.ext hb22
  have hIc := hIc.ext hb22
  have hIu := hIu.ext hb22
  have hIi := hIi.ext hb22
  have hIm := hIm.ext hb22
  have hb22 := ext_trans hb21 hb22
  clear hb21
  go_wp2_with fail
  refine (got_ok _ _ _ _).mono ?_
  rintro e w' ⟨rfl, rfl⟩
  go_wp2_with fail
  refine (equalIvlsSame Au3 Au cu3 cu u _ hIu3 hIu).mono ?_
  rintro e w23 ⟨rfl, hb23⟩
  have hIa := hIa.ext hb23
  have hIb := hIb.ext hb23
  have hIc := hIc.ext hb23
  have hIu := hIu.ext hb23
  have hIi := hIi.ext hb23
  have hIm := hIm.ext hb23
  have hb23 := ext_trans hb22 hb23
  clear hb22
  go_wp2_with fail
  refine (union_any Ab Ac cb cc b c _ hIb hIc).mono ?_
  rintro e w24 ⟨er, v, Av, cv, HS, rfl, hIv, hb24⟩
  obtain ⟨rfl, hO⟩ := HS.out.or_ Ob.out Oc.out (by omega) (by omega) (by omega)
  have Ov := Lib.hid hO
  clear hO HS
  have hIa := hIa.ext hb24
  have hIb := hIb.ext hb24
  have hIc := hIc.ext hb24
  have hIu := hIu.ext hb24
  have hIi := hIi.ext hb24
  have hIm := hIm.ext hb24
  have hb24 := ext_trans hb23 hb24
  clear hb23
  go_wp2_with fail
  refine (got_ok _ _ _ _).mono ?_
  rintro e w' ⟨rfl, rfl⟩
  go_wp2_with fail
  refine (minus_any Aa Av ca cv a v _ hIa hIv).mono ?_
  rintro e w25 ⟨er, x, Ax, cx, HS, rfl, hIx, hb25⟩
  obtain ⟨rfl, hO⟩ := HS.out.not_ Oa.out Ov.out (by omega) (by omega) (by omega)
  have Ox := Lib.hid hO
  clear hO HS
  have hIa := hIa.ext hb25
  have hIb := hIb.ext hb25
  have hIc := hIc.ext hb25
  have hIu := hIu.ext hb25
  have hIi := hIi.ext hb25
  have hIm := hIm.ext hb25
  have hb25 := ext_trans hb24 hb25
  clear hb24
  go_wp2_with fail
  refine (got_ok _ _ _ _).mono ?_
  rintro e w' ⟨rfl, rfl⟩
  go_wp2_with fail
  refine (minus_any Am Ac cm cc m c _ hIm hIc).mono ?_
  rintro e w26 ⟨er, lz, Ax2, cx2, HS, rfl, hIx2, hb26⟩
  obtain ⟨rfl, hz⟩ := HS.out.zero Om.out Oc.out (by omega) (by omega) (Ox.out.le (by omega)) (fun t => by simp only [opNot]; cases hasB a t <;> cases hasB b t <;> cases hasB c t <;> rfl)
  obtain rfl := hz.symm
  clear HS
  have hIa := hIa.ext hb26
  have hIb := hIb.ext hb26
  have hIc := hIc.ext hb26
  have hIu := hIu.ext hb26
  have hIi := hIi.ext hb26
  have hIm := hIm.ext hb26
  have hIx := hIx.ext hb26
  have hb26 := ext_trans hb25 hb26
  clear hb25
  go_wp2_with fail
  refine (got_ok _ _ _ _).mono ?_
  rintro e w' ⟨rfl, rfl⟩
  go_wp2_with fail
  refine (equalIvlsSame Ax Ax2 cx cx2 x _ hIx hIx2).mono ?_
  rintro e w27 ⟨rfl, hb27⟩
  have hIa := hIa.ext hb27
  have hIb := hIb.ext hb27
  have hIc := hIc.ext hb27
  have hIu := hIu.ext hb27
  have hIi := hIi.ext hb27
  have hIm := hIm.ext hb27
  have hb27 := ext_trans hb26 hb27
  clear hb26
  go_wp2_with fail
  refine (union_any Ab Ac cb cc b c _ hIb hIc).mono ?_
  rintro e w28 ⟨er, v2, Av2, cv2, HS, rfl, hIv2, hb28⟩
  obtain ⟨rfl, hO⟩ := HS.out.or_ Ob.out Oc.out (by omega) (by omega) (by omega)
  have Ov2 := Lib.hid hO
  clear hO HS
  have hIa := hIa.ext hb28
  have hIb := hIb.ext hb28
  have hIc := hIc.ext hb28
  have hIu := hIu.ext hb28
  have hIi := hIi.ext hb28
  have hIm := hIm.ext hb28
  have hb28 := ext_trans hb27 hb28
  clear hb27
  go_wp2_with fail
  refine (got_ok _ _ _ _).mono ?_
  rintro e w' ⟨rfl, rfl⟩
  go_wp2_with fail
  refine (meetS_any Aa Av2 ca cv2 a v2 _ hIa hIv2).mono ?_
  rintro e w29 ⟨er, y, Ay, cy, HS, rfl, hIy, hb29⟩
  obtain ⟨rfl, hO⟩ := HS.out.and_ Oa.out Ov2.out (by omega) (by omega) (by omega)
  have Oy := Lib.hid hO
  clear hO HS
  have hIa := hIa.ext hb29
  have hIb := hIb.ext hb29
  have hIc := hIc.ext hb29
  have hIu := hIu.ext hb29
  have hIi := hIi.ext hb29
  have hIm := hIm.ext hb29
  have hb29 := ext_trans hb28 hb29
  clear hb28
  go_wp2_with fail
  refine (got_ok _ _ _ _).mono ?_
  rintro e w' ⟨rfl, rfl⟩
  go_wp2_with fail
  refine (meetS_any Aa Ac ca cc a c _ hIa hIc).mono ?_
  rintro e w30 ⟨er, d, Ad, cd, HS, rfl, hId, hb30⟩
  obtain ⟨rfl, hO⟩ := HS.out.and_ Oa.out Oc.out (by omega) (by omega) (by omega)
  have Od := Lib.hid hO
  clear hO HS
  have hIa := hIa.ext hb30
  have hIb := hIb.ext hb30
  have hIc := hIc.ext hb30
  have hIu := hIu.ext hb30
  have hIi := hIi.ext hb30
  have hIm := hIm.ext hb30
  have hIy := hIy.ext hb30
  have hb30 := ext_trans hb29 hb30
  clear hb29
  go_wp2_with fail
  refine (got_ok _ _ _ _).mono ?_
  rintro e w' ⟨rfl, rfl⟩
  go_wp2_with fail
  refine (union_any Ai Ad ci cd i d _ hIi hId).mono ?_
  rintro e w31 ⟨er, lz, Ay2, cy2, HS, rfl, hIy2, hb31⟩
  obtain ⟨rfl, hz⟩ := HS.out.zero Oi.out Od.out (by omega) (by omega) (Oy.out.le (by omega)) (fun t => by simp only [opOr]; cases hasB a t <;> cases hasB b t <;> cases hasB c t <;> rfl)
  obtain rfl := hz.symm
  clear HS
  have hIa := hIa.ext hb31
  have hIb := hIb.ext hb31
  have hIc := hIc.ext hb31
  have hIu := hIu.ext hb31
  have hIi := hIi.ext hb31
  have hIm := hIm.ext hb31
  have hIy := hIy.ext hb31
  have hb31 := ext_trans hb30 hb31
  clear hb30
  go_wp2_with fail
  refine (got_ok _ _ _ _).mono ?_
  rintro e w' ⟨rfl, rfl⟩
  go_wp2_with fail
  refine (equalIvlsSame Ay Ay2 cy cy2 y _ hIy hIy2).mono ?_
  rintro e w32 ⟨rfl, hb32⟩
  have hIa := hIa.ext hb32
  have hIb := hIb.ext hb32
  have hIc := hIc.ext hb32
  have hIu := hIu.ext hb32
  have hIi := hIi.ext hb32
  have hIm := hIm.ext hb32
  have hb32 := ext_trans hb31 hb32
  clear hb31
  go_wp2_with fail
  refine (ivlSize_any Aa ca a _ hIa).mono ?_
  rw [Oa.out.ok (by omega), if_pos rfl]
  rintro e w33 ⟨rfl, hb33⟩
  have hIa := hIa.ext hb33
  have hIb := hIb.ext hb33
  have hIc := hIc.ext hb33
  have hIu := hIu.ext hb33
  have hIi := hIi.ext hb33
  have hIm := hIm.ext hb33
  have hb33 := ext_trans hb32 hb33
  clear hb32
  go_wp2_with fail
  refine (ivlSize_any Ab cb b _ hIb).mono ?_
  rw [Ob.out.ok (by omega), if_pos rfl]
  rintro e w34 ⟨rfl, hb34⟩
  have hIa := hIa.ext hb34
  have hIb := hIb.ext hb34
  have hIc := hIc.ext hb34
  have hIu := hIu.ext hb34
  have hIi := hIi.ext hb34
  have hIm := hIm.ext hb34
  have hb34 := ext_trans hb33 hb34
  clear hb33
  go_wp2_with fail
  refine (ivlSize_any Au cu u _ hIu).mono ?_
  rw [Ou.out.ok (by omega), if_pos rfl]
  rintro e w35 ⟨rfl, hb35⟩
  have hIa := hIa.ext hb35
  have hIb := hIb.ext hb35
  have hIc := hIc.ext hb35
  have hIu := hIu.ext hb35
  have hIi := hIi.ext hb35
  have hIm := hIm.ext hb35
  have hb35 := ext_trans hb34 hb35
  clear hb34
  go_wp2_with fail
  refine (ivlSize_any Ai ci i _ hIi).mono ?_
  rw [Oi.out.ok (by omega), if_pos rfl]
  rintro e w36 ⟨rfl, hb36⟩
  have hIa := hIa.ext hb36
  have hIb := hIb.ext hb36
  have hIc := hIc.ext hb36
  have hIu := hIu.ext hb36
  have hIi := hIi.ext hb36
  have hIm := hIm.ext hb36
  have hb36 := ext_trans hb35 hb36
  clear hb35
  have hsz := Oa.out.size Ob.out (Ou.out.le (Nat.le_refl _)) Oi.out
  have z1 := Oa.out.sizes (by omega); have z2 := Ob.out.sizes (by omega); have z3 := Ou.out.sizes (by omega); have z4 := Oi.out.sizes (by omega)
  have HZ := Lib.hid hsz
  obtain ⟨s1, h1⟩ : ∃ s, sizeL a = s := ⟨_, rfl⟩
  obtain ⟨s2, h2⟩ : ∃ s, sizeL b = s := ⟨_, rfl⟩
  obtain ⟨s3, h3⟩ : ∃ s, sizeL u = s := ⟨_, rfl⟩
  obtain ⟨s4, h4⟩ : ∃ s, sizeL i = s := ⟨_, rfl⟩
  rw [h1, h2, h3, h4] at hsz
  rw [h1] at z1 ⊢
  rw [h2] at z2 ⊢
  rw [h3] at z3 ⊢
  rw [h4] at z4 ⊢
  have hq : ((s1 + s2) == (s3 + s4)) = true := by simpa using hsz
  have hw1 : IntKind.i64.wrap (s1 + s2) = s1 + s2 := IntWalk.i64_in _ (by omega)
  have hw2 : IntKind.i64.wrap (s3 + s4) = s3 + s4 := IntWalk.i64_in _ (by omega)
  clear h1 h2 h3 h4 hsz HZ
  go_wp2_with fail
  go_ret
  exact ⟨by simp, hb36⟩
end Go.Proofs.Ytcfachfldanddaa
