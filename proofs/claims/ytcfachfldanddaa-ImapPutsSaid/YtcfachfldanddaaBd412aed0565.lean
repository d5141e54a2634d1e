/- One text: LawPuts. -/
import Derived.Test.YtcfachfldanddaaBd5a79192ee2
/- The law ImapPuts. -/
namespace Go.Proofs.Ytcfachfldanddaa
open Go.RowKit Go.Shelf

set_option maxRecDepth 100000 in
set_option maxHeartbeats 8000000 in
theorem imapPuts_calls (A0 : Option Addr) (c0 : Nat) (l0 : List PieceD) {w0 : World} (hI0 : PiecesAt w0 A0 c0 l0) (p : PieceD) (_ : I64 p.f ∧ I64 p.t ∧ I64 p.v) (t : Int) (_ : I64 t) :
    Calls Try.prog 7 #[.slice A0 l0.length c0, pieceV p, .int .i64 t] w0 fun e w' => e = .returned (.bool true) ∧ Below w0.heap.size w0 w' := by
  have m0 := hI0.len
  have H0 := Lib.hid hI0
  clear hI0
  go_enter Try.func7, Try.ntmps7
  go_wp2_with fail
  have B4 := Blk.new w0 42 #[.int .i64 p.f, .int .i64 p.t, .int .i64 p.v]
  have hb0 := ext_alloc (Below.refl _ w0) (Obj.cells #[.int .i64 p.f, .int .i64 p.t, .int .i64 p.v] 42)
  refine (begunMap_any _).mono ?_
  rintro e w1 ⟨rfl, hb1⟩
  have B4 := B4.ext hb1
  have hb1 := ext_trans hb0 hb1
  clear hb0
  go_wp2_with fail
  refine (built_any A0 c0 l0 _ (H0.out.ext hb1)).mono ?_
  rintro e w2 ⟨Am, cm, m, HM, rfl, hIm, hb2⟩
  have B4 := B4.ext hb2
  have hb2 := ext_trans hb1 hb2
  have OM := Lib.hid HM.out.ok
  have IM := Lib.hid hIm
  clear hb1 hIm
  have hPm := imapPut_any Am cm m p w2 IM.out
  obtain ⟨q1, q2, q3⟩ := B4.facts
  go_wp2_with (go_at_call 31; refine hPm.mono ?_; rintro e w3 ⟨er, x, Ax, cx, HX, rfl, hIx, hb3⟩)
  clear hPm q1 q2 q3
  have B4 := B4.ext hb3
  have hb3' := ext_trans hb2 hb3
  have IM := Lib.hid (IM.out.ext hb3)
  clear hb3
  refine (imapCheck_any Am cm m w3 IM.out).mono ?_
  rw [OM.out]
  rintro e w4 ⟨rfl, hb4⟩
  have B4 := B4.ext hb4
  have IM := Lib.hid (IM.out.ext hb4)
  have IX := Lib.hid (hIx.ext hb4)
  have hb4 := ext_trans hb3' hb4
  have mx := hIx.len
  clear hb3' hIx hb2
  by_cases h0 : er = 0
  case neg =>
    have hd : (er != 0) = true := by simpa using h0
    obtain rfl : x = [] := HX.out.none h0
    clear h0
    go_wp2_with fail
    go_ret
    exact ⟨rfl, hb4⟩
  case pos =>
  subst h0
  have hgo := HX.out.good rfl
  have OX := Lib.hid hgo.2.2
  have HT : Hid (atM x t = putM m p t) := Lib.hid ((hgo.2.1.good rfl).2.1 t)
  have hIm := IM.out
  clear hgo
  go_wp2_with fail
  refine (told_any Am cm m t _ hIm).mono ?_
  rintro e w5 ⟨rfl, hb5⟩
  have B4 := B4.ext hb5
  have IX := Lib.hid (IX.out.ext hb5)
  have hb5 := ext_trans hb4 hb5
  have hlt := B4.lt
  obtain ⟨v0, v1, hv⟩ : ∃ v0 v1, toldV (atM m t) = .agg #[.int .i64 v0, .int .i64 v1] := ⟨_, _, rfl⟩
  have HV := Lib.hid hv
  rw [hv]
  have hIx := IX.out
  clear hIm hb4 IM hv
  by_cases h1 : p.f ≤ t
  case neg =>
    have hd1 : decide (p.f ≤ t) = false := by simpa using h1
    have HP : Hid (putM m p t = atM m t) := Lib.hid (by unfold putM; rw [if_neg (by omega)])
    clear h1
    obtain ⟨q1, q2, q3⟩ := (B4.alloc (Obj.cells #[.int .i64 v0, .int .i64 v1] 48)).facts
    go_wp2_with (go_at_call 31; refine (imapPut_any Ax cx x p _ (hIx.ext (ext_alloc (Below.refl _ w5) _))).mono ?_; rintro e w6 ⟨er, y, Ay, cy, HY, rfl, hIy, hb6⟩)
    obtain ⟨rfl, rfl⟩ := HX.out.again HY.out
    have W0 := (Blk.new w5 48 #[.int .i64 v0, .int .i64 v1]).ext hb6
    have hb6' := (ext_alloc (Below.refl _ w5) (Obj.cells #[.int .i64 v0, .int .i64 v1] 48)).trans (hb6.mono (by simp))
    have IX6 := Lib.hid (IX.out.ext hb6')
    have IY6 := Lib.hid hIy
    have hb6 := ext_trans hb5 hb6'
    have hsm := same_two v0 v1 v0 v1
    have hto := told_any Ax cx _ t w6.drew (IX6.out.ext (below_drew (Below.refl _ _)))
    rw [HT.out, HP.out, HV.out] at hto
    have S0 : w6.drew.cell? ⟨w5.heap.size, 0, none⟩ = some (.int .i64 v0) ∧ w6.drew.cell? ⟨w5.heap.size, 1, none⟩ = some (.int .i64 v1) := ⟨W0.cell 0, W0.cell 1⟩
    have hz6 := W0.lt
    clear q1 q2 q3 hb5 hb6' hIx hIy
    go_wp2_with fail
    go_region_held3 (fun w' => w'.cell? ⟨w5.heap.size, 0, none⟩ = some (.int .i64 v0) ∧ w'.cell? ⟨w5.heap.size, 1, none⟩ = some (.int .i64 v1))
      (first | exact S0 | exact keepB2 hb7 hz6 hz6 S0)
      (first
        | (go_at_call 33; refine hto.mono ?_; rintro e w7 ⟨rfl, hb7⟩)
        | (go_at_call 32; refine (imapCheck_any Ax cx _ _ ((IX6.out.ext (below_drew (Below.refl _ _))).ext hb7)).mono ?_; rw [OX.out]; rintro e w8 ⟨rfl, hb8⟩; have hb7 := ext_trans hb7 hb8)
        | (go_at_call 34; refine (equalPiecesSame _ _ _ _ _ _ ((IY6.out.ext (below_drew (Below.refl _ _))).ext hb7) ((IX6.out.ext (below_drew (Below.refl _ _))).ext hb7)).mono ?_; rintro e w9 ⟨rfl, hb9⟩; have hb7 := ext_trans hb7 hb9))
    go_wp2_with fail
    go_ret
    exact ⟨rfl, ext_trans (below_drew hb6) hb7⟩
  case pos =>
  have hd1 : decide (p.f ≤ t) = true := by simpa using h1
  by_cases h2 : t < p.t
  case neg =>
    have hd2 : decide (t < p.t) = false := by simpa using h2
    have HP : Hid (putM m p t = atM m t) := Lib.hid (by unfold putM; rw [if_neg (by omega)])
    clear h1 h2
    obtain ⟨q1, q2, q3⟩ := (B4.alloc (Obj.cells #[.int .i64 v0, .int .i64 v1] 48)).facts
    go_wp2_with (go_at_call 31; refine (imapPut_any Ax cx x p _ (hIx.ext (ext_alloc (Below.refl _ w5) _))).mono ?_; rintro e w6 ⟨er, y, Ay, cy, HY, rfl, hIy, hb6⟩)
    obtain ⟨rfl, rfl⟩ := HX.out.again HY.out
    have W0 := (Blk.new w5 48 #[.int .i64 v0, .int .i64 v1]).ext hb6
    have hb6' := (ext_alloc (Below.refl _ w5) (Obj.cells #[.int .i64 v0, .int .i64 v1] 48)).trans (hb6.mono (by simp))
    have IX6 := Lib.hid (IX.out.ext hb6')
    have IY6 := Lib.hid hIy
    have hb6 := ext_trans hb5 hb6'
    have hsm := same_two v0 v1 v0 v1
    have hto := told_any Ax cx _ t w6.drew (IX6.out.ext (below_drew (Below.refl _ _)))
    rw [HT.out, HP.out, HV.out] at hto
    have S0 : w6.drew.cell? ⟨w5.heap.size, 0, none⟩ = some (.int .i64 v0) ∧ w6.drew.cell? ⟨w5.heap.size, 1, none⟩ = some (.int .i64 v1) := ⟨W0.cell 0, W0.cell 1⟩
    have hz6 := W0.lt
    clear q1 q2 q3 hb5 hb6' hIx hIy
    go_wp2_with fail
    go_region_held3 (fun w' => w'.cell? ⟨w5.heap.size, 0, none⟩ = some (.int .i64 v0) ∧ w'.cell? ⟨w5.heap.size, 1, none⟩ = some (.int .i64 v1))
      (first | exact S0 | exact keepB2 hb7 hz6 hz6 S0)
      (first
        | (go_at_call 33; refine hto.mono ?_; rintro e w7 ⟨rfl, hb7⟩)
        | (go_at_call 32; refine (imapCheck_any Ax cx _ _ ((IX6.out.ext (below_drew (Below.refl _ _))).ext hb7)).mono ?_; rw [OX.out]; rintro e w8 ⟨rfl, hb8⟩; have hb7 := ext_trans hb7 hb8)
        | (go_at_call 34; refine (equalPiecesSame _ _ _ _ _ _ ((IY6.out.ext (below_drew (Below.refl _ _))).ext hb7) ((IX6.out.ext (below_drew (Below.refl _ _))).ext hb7)).mono ?_; rintro e w9 ⟨rfl, hb9⟩; have hb7 := ext_trans hb7 hb9))
    go_wp2_with fail
    go_ret
    exact ⟨rfl, ext_trans (below_drew hb6) hb7⟩
  case pos =>
    have hd2 : decide (t < p.t) = true := by simpa using h2
    have HP : Hid (putM m p t = some p.v) := Lib.hid (by unfold putM; rw [if_pos ⟨h1, h2⟩])
    have hv2 : toldV (some p.v) = .agg #[.int .i64 p.v, .int .i64 1] := rfl
    have HV2 := Lib.hid hv2
    clear h1 h2 hv2
    obtain ⟨q1, q2, q3⟩ := (B4.alloc (Obj.cells #[.int .i64 v0, .int .i64 v1] 48)).facts
    obtain ⟨r1, r2, r3⟩ := (B4.alloc (Obj.cells #[.int .i64 p.v, .int .i64 1] 48)).facts
    go_wp2_with (go_at_call 31; refine (imapPut_any Ax cx x p _ (hIx.ext (ext_alloc (Below.refl _ w5) _))).mono ?_; rintro e w6 ⟨er, y, Ay, cy, HY, rfl, hIy, hb6⟩)
    obtain ⟨rfl, rfl⟩ := HX.out.again HY.out
    have W0 := (Blk.new w5 48 #[.int .i64 p.v, .int .i64 1]).ext hb6
    have hb6' := (ext_alloc (Below.refl _ w5) (Obj.cells #[.int .i64 p.v, .int .i64 1] 48)).trans (hb6.mono (by simp))
    have IX6 := Lib.hid (IX.out.ext hb6')
    have IY6 := Lib.hid hIy
    have hb6 := ext_trans hb5 hb6'
    have hsm := same_two p.v 1 p.v 1
    have hto := told_any Ax cx _ t w6.drew (IX6.out.ext (below_drew (Below.refl _ _)))
    rw [HT.out, HP.out, HV2.out] at hto
    have S0 : w6.drew.cell? ⟨w5.heap.size, 0, none⟩ = some (.int .i64 p.v) ∧ w6.drew.cell? ⟨w5.heap.size, 1, none⟩ = some (.int .i64 1) := ⟨W0.cell 0, W0.cell 1⟩
    have hz6 := W0.lt
    clear r1 r2 r3 q1 q2 q3 hb5 hb6' hIx hIy
    go_wp2_with fail
    go_region_held3 (fun w' => w'.cell? ⟨w5.heap.size, 0, none⟩ = some (.int .i64 p.v) ∧ w'.cell? ⟨w5.heap.size, 1, none⟩ = some (.int .i64 1))
      (first | exact S0 | exact keepB2 hb7 hz6 hz6 S0)
      (first
        | (go_at_call 33; refine hto.mono ?_; rintro e w7 ⟨rfl, hb7⟩)
        | (go_at_call 32; refine (imapCheck_any Ax cx _ _ ((IX6.out.ext (below_drew (Below.refl _ _))).ext hb7)).mono ?_; rw [OX.out]; rintro e w8 ⟨rfl, hb8⟩; have hb7 := ext_trans hb7 hb8)
        | (go_at_call 34; refine (equalPiecesSame _ _ _ _ _ _ ((IY6.out.ext (below_drew (Below.refl _ _))).ext hb7) ((IX6.out.ext (below_drew (Below.refl _ _))).ext hb7)).mono ?_; rintro e w9 ⟨rfl, hb9⟩; have hb7 := ext_trans hb7 hb9))
    go_wp2_with fail
    go_ret
    exact ⟨rfl, ext_trans (below_drew hb6) hb7⟩
end Go.Proofs.Ytcfachfldanddaa
