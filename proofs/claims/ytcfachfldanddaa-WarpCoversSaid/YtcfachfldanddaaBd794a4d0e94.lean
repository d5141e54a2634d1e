/- One text: LawCovers. -/
import Derived.Test.YtcfachfldanddaaBd712578e31d
import Derived.Test.YtcfachfldanddaaBd4e50409d2c
/- The law WarpCovers. -/
namespace Go.Proofs.Ytcfachfldanddaa
open Go.RowKit Go.Shelf

theorem enters_cov : Enters Try.prog 51 := enters_of Try.func51 (by kernel_rfl) rfl
set_option maxHeartbeats 1000000 in
theorem cov1_any (t : Int) (b : Nat) (x : PieceD) (W : World) (hc : W.cell? ⟨b, 0, none⟩ = some (.int .i64 t)) : Calls Try.prog 51 #[pieceV x, .pointer (some ⟨b, 0, none⟩)] W fun e w' => e = .returned (.bool (decide (x.f ≤ t ∧ t < x.t))) ∧ Below W.heap.size W w' := by
  have hlt := World.block_lt_of_cell? W _ hc
  have hlt : b < W.heap.size := hlt
  by_cases h1 : x.f ≤ t
  · have d1 : decide (x.f ≤ t) = true := by simpa using h1
    go_enter Try.func51, Try.ntmps51
    go_wp2_with fail
    go_ret
    exact ⟨ret_bool (by first | rfl | simp | (rw [Bool.eq_iff_iff]; simp; omega)), by go_grown⟩
  · have d1 : decide (x.f ≤ t) = false := by simpa using h1
    go_enter Try.func51, Try.ntmps51
    go_wp2_with fail
    go_ret
    exact ⟨ret_bool (by first | rfl | simp | (rw [Bool.eq_iff_iff]; simp; omega)), by go_grown⟩
theorem msg_lit {w : World} {g : Nat} {x : PieceD} (h : Blk w g 68 #[.int .i64 x.f, .int .i64 x.t, .int .i64 x.v]) (hx : I64 x.f ∧ I64 x.t ∧ I64 x.v) : PiecesAt w (some ⟨g, 0, none⟩) 1 [x] := by
  refine ⟨by simp, by decide, g, 0, fun i z hz => ?_⟩
  match i, hz with
  | 0, hz =>
    obtain rfl : x = z := by simpa using hz
    exact ⟨rfl, h.lt, ⟨h.cell 0, h.cell 1, h.cell 2⟩, hx⟩
  | n + 1, hz => simp at hz
set_option maxRecDepth 100000 in
set_option maxHeartbeats 16000000 in
theorem warpCovers_calls (A0 : Option Addr) (c0 : Nat) (l0 : List PieceD) {w0 : World} (hI0 : PiecesAt w0 A0 c0 l0) (A1 : Option Addr) (c1 : Nat) (l1 : List PieceD) (hI1 : PiecesAt w0 A1 c1 l1) (k : Int) (hk : I64 k) (t : Int) (_ : I64 t) :
    Calls Try.prog 12 #[.slice A0 l0.length c0, .slice A1 l1.length c1, .int .i64 k, .int .i64 t] w0 fun e w' => e = .returned (.bool true) ∧ Below w0.heap.size w0 w' := by
  have m0 := hI0.len
  have m1 := hI1.len
  have H0 := Lib.hid hI0
  have H1 := Lib.hid hI1
  have hmf : ∀ (fn : Fn) (first cap : Array Value) (w : World), (Instr.makeFunc fn first cap).run Try.prog w = .ok (.func fn first cap) w := fun _ _ _ _ => rfl
  have hent := enters_cov
  unfold Enters at hent
  have HENT := Lib.hid hent
  clear hI0 hI1 hent
  obtain ⟨wb, hwb⟩ : ∃ wb, wb = w0.alloc (Obj.cells #[.int .i64 t] 3) := ⟨_, rfl⟩
  have HT : Hid (wb.cell? ⟨w0.heap.size, 0, none⟩ = some (.int .i64 t)) := Lib.hid (by rw [hwb]; exact (Blk.new w0 3 #[.int .i64 t]).cell 0)
  have HBB : Hid (Below w0.heap.size w0 wb) := Lib.hid (by rw [hwb]; exact ext_alloc (Below.refl _ w0) _)
  have HZB : Hid (w0.heap.size < wb.heap.size) := Lib.hid (by rw [hwb]; simp)
  go_enter Try.func12, Try.ntmps12
  go_wp2_with fail
  have HZ1 : w0.heap.size + 1 = wb.heap.size := by rw [hwb]; simp
  rw [← hwb, HZ1]
  have HZ := Lib.hid HZ1
  clear hwb HZ1
  have HPL : Hid (PiecesAt ((wb.alloc (Obj.cells #[.int .i64 0, .int .i64 5, .int .i64 3] 42)).alloc (Obj.cells #[.int .i64 3, .int .i64 8, .int .i64 9] 68)) (some ⟨wb.heap.size, 0, none⟩) 1 [⟨0, 5, 3⟩]) := Lib.hid (pieces_lit (l := [⟨0, 5, 3⟩]) ((Blk.new wb 42 _).alloc _) (by simp [I64]) (by decide))
  have HML : Hid (PiecesAt ((wb.alloc (Obj.cells #[.int .i64 0, .int .i64 5, .int .i64 3] 42)).alloc (Obj.cells #[.int .i64 3, .int .i64 8, .int .i64 9] 68)) (some ⟨wb.heap.size + 1, 0, none⟩) 1 [⟨3, 8, 9⟩]) := Lib.hid (msg_lit (x := ⟨3, 8, 9⟩) (Blk.new_ (by simp)) (by simp [I64]))
  refine (warpCellsP_any (some ⟨wb.heap.size, 0, none⟩) (some ⟨wb.heap.size + 1, 0, none⟩) 1 1 [⟨0, 5, 3⟩] [⟨3, 8, 9⟩] 1 _ HPL.out HML.out).mono ?_
  rintro e w1 ⟨er, out, A, c, HS, rfl, hC, hb1⟩
  obtain ⟨rfl, rfl⟩ := cells_lit_say HS.out
  have hb1 : Below wb.heap.size wb w1 := ext_trans (ext_alloc (ext_alloc (Below.refl _ wb) _) _) hb1
  have hqc := equalCells_any A (some ⟨w1.heap.size, 0, none⟩) c 2 [⟨3, 5, 3, true, 9⟩, ⟨5, 8, 0, false, 9⟩] [⟨3, 5, 3, true, 9⟩, ⟨5, 8, 0, false, 9⟩] (w1.alloc (Obj.cells #[.int .i64 3, .int .i64 5, .int .i64 3, .bool true, .int .i64 9, .int .i64 5, .int .i64 8, .int .i64 0, .bool false, .int .i64 9] 71)) (hC.ext (ext_alloc (Below.refl _ w1) _)).sl (cells_lit (x := ⟨3, 5, 3, true, 9⟩) (y := ⟨5, 8, 0, false, 9⟩) (Blk.new w1 _ _) (by simp [I64]) (by simp [I64])).sl (by decide) (by decide)
  rw [show decide ((([⟨3, 5, 3, true, 9⟩, ⟨5, 8, 0, false, 9⟩] : List CellD)) = [⟨3, 5, 3, true, 9⟩, ⟨5, 8, 0, false, 9⟩]) = true by decide] at hqc
  clear hC HS HPL HML
  go_wp2_with fail
  refine hqc.mono ?_
  rintro e w2 ⟨rfl, hb2⟩
  have hb2 := ext_trans (ext_alloc hb1 _) hb2
  clear hqc hb1
  go_wp2_with fail
  refine (built_any A0 c0 l0 _ ((H0.out.ext HBB.out).ext hb2)).mono ?_
  rintro e w3 ⟨As, cs, sl, Hs, rfl, hIs, hb3⟩
  have hb3 := ext_trans hb2 hb3
  clear hb2
  go_wp2_with fail
  refine (warpCellsP_any As A1 cs c1 sl l1 k _ hIs ((H1.out.ext HBB.out).ext hb3)).mono ?_
  rintro e w4 ⟨er, cl, Ac, cc, HC, rfl, hIc, hb4⟩
  have hIs := hIs.ext hb4
  have hb4 := ext_trans hb3 hb4
  clear hb3
  go_wp2_with fail
  refine (warpFold_any A1 c1 l1 k _ ((H1.out.ext HBB.out).ext hb4)).mono ?_
  rintro e w5 ⟨ef, fl, Af, cf, HF, rfl, hIf, hb5⟩
  have hIs := hIs.ext hb5
  have hIc := hIc.ext hb5
  have hb5 := ext_trans hb4 hb5
  clear hb4
  by_cases h0 : er = 0
  case neg =>
    have hd : (er != 0) = true := by simpa using h0
    obtain rfl := HC.out.none h0
    clear h0
    go_wp2_with fail
    go_ret
    exact ⟨rfl, HBB.out.trans (hb5.mono (Nat.le_of_lt HZB.out))⟩
  case pos =>
  subst h0
  by_cases h0 : ef = 0
  case neg =>
    have hd : (ef != 0) = true := by simpa using h0
    obtain rfl := HF.out.none h0
    clear h0
    by_cases hl : cl.length = 0
    · have hl' : ((cl.length : Int) == 0) = true := by simpa using hl
      clear hl
      go_wp2_with fail
      go_ret
      exact ⟨rfl, HBB.out.trans (hb5.mono (Nat.le_of_lt HZB.out))⟩
    · have hl' : ((cl.length : Int) == 0) = false := by simpa using hl
      clear hl
      go_wp2_with fail
      go_ret
      exact ⟨rfl, HBB.out.trans (hb5.mono (Nat.le_of_lt HZB.out))⟩
  case pos =>
  subst h0
  obtain ⟨U, hU, hUk, hUc⟩ := HC.out.zero
  obtain ⟨hft, hfe⟩ := HF.out.zero
  have HU := Lib.hid hU; have HUK := Lib.hid hUk; have HUC := Lib.hid hUc; have HFT := Lib.hid (hft t); have HFE := Lib.hid hfe
  have HBU := Lib.hid (has_key (t := t) hUk)
  clear hU hUk hUc hft hfe HC HF Hs
  have hP : PredP 51 #[.pointer (some ⟨w0.heap.size, 0, none⟩)] (fun x => decide (x.f ≤ t ∧ t < x.t)) w5 := fun W x hb _ => cov1_any t w0.heap.size x W (cell_keep (ext_trans hb5 hb) HT.out)
  have hC := containsMsg_any 51 _ _ HENT.out A1 c1 l1 w5 ((H1.out.ext HBB.out).ext hb5) hP
  rw [← HBU.out] at hC
  clear hP
  go_wp2_with (go_at_call 50; refine hC.mono ?_; rintro e w6 ⟨rfl, hb6⟩)
  have hIs := hIs.ext hb6
  have hIc := hIc.ext hb6
  have hIf := hIf.ext hb6
  have hb6 := ext_trans hb5 hb6
  clear hb5 hC
  have HIS := Lib.hid hIs; have HIC := Lib.hid hIc; have HIF := Lib.hid hIf; have HB6 := Lib.hid hb6
  have hcl := hIc.len
  have HT6 := Lib.hid (cell_keep hb6 HT.out)
  have HZ6 : Hid (w0.heap.size < w6.heap.size) := Lib.hid (Nat.lt_of_lt_of_le HZB.out hb6.size)
  clear hIs hIc hIf hb6
  go_wp2_with fail
  go_loopw [17, 74] (fun u v wr => ∃ n : Nat, n ≤ cl.length ∧ v = .int .i64 n ∧ u = .int .i64 (hit U t n) ∧ Below w6.heap.size w6 wr) (fun _ v _ => cl.length - (intOf v).toNat)
  case atStart => exact ⟨0, Nat.zero_le _, rfl, by simp [hit, atG], Below.refl _ _⟩
  case round =>
    obtain ⟨n, hn, rfl, rfl, hbr⟩ := hrel
    by_cases hlt : n < cl.length
    case pos =>
      obtain ⟨x, hx⟩ := get_lt hlt
      obtain ⟨b, off, rfl, hb0, x0, x1, x2, x3, x4⟩ := (HIC.out.ext hbr).get hx
      obtain ⟨y, hy, hxy, hft, hpv⟩ := cover_cell HU.out HUC.out hx
      have HXY := Lib.hid hxy; have HY := Lib.hid hy; have HX := Lib.hid hx
      have HPV := Lib.hid hpv
      have hd2 : decide (x.t ≤ x.f) = false := by simpa using hft
      clear hx hy hxy hpv hft
      go_wp2_with fail
      have BC := Blk.new wr 71 #[.int .i64 x.f, .int .i64 x.t, .int .i64 x.s, .bool x.has, .int .i64 x.v]
      have hb7 := ext_alloc (Below.refl _ wr) (Obj.cells #[.int .i64 x.f, .int .i64 x.t, .int .i64 x.s, .bool x.has, .int .i64 x.v] 71)
      obtain ⟨w7, hw7⟩ : ∃ w7, w7 = wr.alloc (Obj.cells #[.int .i64 x.f, .int .i64 x.t, .int .i64 x.s, .bool x.has, .int .i64 x.v] 71) := ⟨_, rfl⟩
      rw [← hw7] at BC hb7 ⊢
      have HB7 := Lib.hid hb7
      have hbr := ext_trans hbr hb7
      have HT7 := Lib.hid (cell_keep hbr HT6.out)
      obtain ⟨c1, c2, c3⟩ := BC.facts
      clear hw7 x0 x1 x2 x3 x4 hb7
      have hp : n = 0 ∨ ∃ j z, j + 1 = n ∧ cl[j]? = some z ∧ Hid (z.t ≤ x.f) ∧ w7.cell? ⟨b, off + j * 5 + 1, none⟩ = some (.int .i64 z.t) := by
        rcases Nat.eq_zero_or_pos n with h | h
        · exact .inl h
        · obtain ⟨z, hz⟩ := get_lt (show n - 1 < cl.length by omega)
          obtain ⟨b2, off2, e2, hb2, z0, z1, z2, z3, z4⟩ := (HIC.out.ext hbr).get hz
          cases e2
          exact .inr ⟨n - 1, z, by omega, hz, Lib.hid (HPV.out (n - 1) z (by omega) hz), z1⟩
      have t7 := HT7.out
      rcases hp with rfl | ⟨j, z, hj, hz, hzt, z1⟩
      · have hd1 : decide (((0 : Nat) : Int) > 0) = false := by decide
        go_quiet (fail)
        have hb8 : Below w6.heap.size w6 (w7.drewN nq) := below_drewN hbr nq
        by_cases g1 : x.f ≤ t
        case neg =>
          have d1 : decide (x.f ≤ t) = false := by simpa using g1
          have HH : Hid (hit U t (0 + 1) = hit U t 0) := Lib.hid (hit_out HY.out (by have := HXY.out; subst this; exact fun h => g1 h.1))
          clear g1
          go_wp2_with fail
          go_roundw
          case rel => exact ⟨0 + 1, by omega, by go_num, by rw [HH.out], hb8⟩
          case measure => simp [intOf]; omega
        by_cases g2 : t < x.t
        case neg =>
          have d1 : decide (x.f ≤ t) = true := by simpa using g1
          have d2 : decide (t < x.t) = false := by simpa using g2
          have HH : Hid (hit U t (0 + 1) = hit U t 0) := Lib.hid (hit_out HY.out (by have := HXY.out; subst this; exact fun h => g2 h.2))
          clear g1 g2
          go_wp2_with fail
          go_roundw
          case rel => exact ⟨0 + 1, by omega, by go_num, by rw [HH.out], hb8⟩
          case measure => simp [intOf]; omega
        have d1 : decide (x.f ≤ t) = true := by simpa using g1
        have d2 : decide (t < x.t) = true := by simpa using g2
        obtain ⟨e0, e1⟩ := hit_in (t := t) HU.out HY.out (by have := HXY.out; subst this; exact ⟨g1, g2⟩)
        have HE1 := Lib.hid e1
        rw [e0]
        obtain ⟨s1, s2, s3⟩ := cover_in HU.out HUK.out (List.mem_of_getElem? HY.out) HXY.out g1 g2
        have hat := imapAt_any As cs sl t (w7.drewN nq) (HIS.out.ext hb8)
        rw [show atV (atM sl t) = .tuple #[.int .i64 x.s, .bool x.has] from by unfold atV; rw [s1, s2]] at hat
        have HS3 := Lib.hid s3
        clear g1 g2 e0 e1 s1 s2 s3
        go_wp2_with fail
        refine hat.mono ?_
        rintro e w9 ⟨rfl, hb9⟩
        have hb79 : Below w7.heap.size w7 w9 := ext_trans (below_drewN (Below.refl _ w7) nq) hb9
        have hb9 := ext_trans hb8 hb9
        have BC9 := BC.ext hb79
        have hto := told_any Af cf fl t w9.drew (HIF.out.ext (below_drew hb9))
        rw [HFT.out, HS3.out, show toldV (some x.v) = .agg #[.int .i64 x.v, .int .i64 1] from rfl] at hto
        have hsm := same_two x.v 1 x.v 1
        have S0 : w9.drew.cell? ⟨wr.heap.size, 2, none⟩ = some (.int .i64 x.s) ∧ w9.drew.cell? ⟨wr.heap.size, 3, none⟩ = some (.bool x.has) ∧ w9.drew.cell? ⟨wr.heap.size, 4, none⟩ = some (.int .i64 x.v) ∧ w9.drew.cell? ⟨w0.heap.size, 0, none⟩ = some (.int .i64 t) := ⟨BC9.cell 2, BC9.cell 3, BC9.cell 4, cell_keep (below_drew hb79) HT7.out⟩
        have hz9 := BC9.lt
        have hz0 : w0.heap.size < w9.heap.size := Nat.lt_of_lt_of_le HZ6.out hb9.size
        clear hat hb8 hb79 c1 c2 c3 BC BC9 t7
        go_wp2_with fail
        go_region_held3 (fun w' => w'.cell? ⟨wr.heap.size, 2, none⟩ = some (.int .i64 x.s) ∧ w'.cell? ⟨wr.heap.size, 3, none⟩ = some (.bool x.has) ∧ w'.cell? ⟨wr.heap.size, 4, none⟩ = some (.int .i64 x.v) ∧ w'.cell? ⟨w0.heap.size, 0, none⟩ = some (.int .i64 t))
          (first | exact S0 | exact keepB4 hb11 hz9 hz9 hz9 hz0 S0)
          (first | (go_at_call 33; refine hto.mono ?_; rintro e w11 ⟨rfl, hb11⟩))
        have hb11 := ext_trans (below_drew hb9) hb11
        clear S0 hto hsm hb9
        go_wp2_with fail
        go_roundw
        case rel => exact ⟨0 + 1, by omega, by go_num, by rw [HE1.out], hb11⟩
        case measure => simp [intOf]; omega
      · have hd1 : decide ((n : Int) > 0) = true := by simp; omega
        have hn9 : (0 : Int) < (n : Int) := by omega
        have hn9p : 0 < n := by omega
        have hjw : IntKind.i64.wrap ((n : Int) - 1) = (j : Int) := by rw [show (n : Int) - 1 = j by omega]; exact IntWalk.i64_in _ (by omega)
        have hjl : j < cl.length := by omega
        have hd3 : decide (x.f < z.t) = false := by have := hzt.out; simpa using this
        have HJ := Lib.hid hj
        clear hj hz
        go_quiet (fail)
        clear z1
        have hb8 : Below w6.heap.size w6 (w7.drewN nq) := below_drewN hbr nq
        by_cases g1 : x.f ≤ t
        case neg =>
          have d1 : decide (x.f ≤ t) = false := by simpa using g1
          have HH : Hid (hit U t (n + 1) = hit U t n) := Lib.hid (hit_out HY.out (by have := HXY.out; subst this; exact fun h => g1 h.1))
          clear g1
          go_wp2_with fail
          go_roundw
          case rel => exact ⟨n + 1, by omega, by go_num, by rw [HH.out], hb8⟩
          case measure => simp [intOf]; omega
        by_cases g2 : t < x.t
        case neg =>
          have d1 : decide (x.f ≤ t) = true := by simpa using g1
          have d2 : decide (t < x.t) = false := by simpa using g2
          have HH : Hid (hit U t (n + 1) = hit U t n) := Lib.hid (hit_out HY.out (by have := HXY.out; subst this; exact fun h => g2 h.2))
          clear g1 g2
          go_wp2_with fail
          go_roundw
          case rel => exact ⟨n + 1, by omega, by go_num, by rw [HH.out], hb8⟩
          case measure => simp [intOf]; omega
        have d1 : decide (x.f ≤ t) = true := by simpa using g1
        have d2 : decide (t < x.t) = true := by simpa using g2
        obtain ⟨e0, e1⟩ := hit_in (t := t) HU.out HY.out (by have := HXY.out; subst this; exact ⟨g1, g2⟩)
        have HE1 := Lib.hid e1
        rw [e0]
        obtain ⟨s1, s2, s3⟩ := cover_in HU.out HUK.out (List.mem_of_getElem? HY.out) HXY.out g1 g2
        have hat := imapAt_any As cs sl t (w7.drewN nq) (HIS.out.ext hb8)
        rw [show atV (atM sl t) = .tuple #[.int .i64 x.s, .bool x.has] from by unfold atV; rw [s1, s2]] at hat
        have HS3 := Lib.hid s3
        clear g1 g2 e0 e1 s1 s2 s3
        go_wp2_with fail
        refine hat.mono ?_
        rintro e w9 ⟨rfl, hb9⟩
        have hb79 : Below w7.heap.size w7 w9 := ext_trans (below_drewN (Below.refl _ w7) nq) hb9
        have hb9 := ext_trans hb8 hb9
        have BC9 := BC.ext hb79
        have hto := told_any Af cf fl t w9.drew (HIF.out.ext (below_drew hb9))
        rw [HFT.out, HS3.out, show toldV (some x.v) = .agg #[.int .i64 x.v, .int .i64 1] from rfl] at hto
        have hsm := same_two x.v 1 x.v 1
        have S0 : w9.drew.cell? ⟨wr.heap.size, 2, none⟩ = some (.int .i64 x.s) ∧ w9.drew.cell? ⟨wr.heap.size, 3, none⟩ = some (.bool x.has) ∧ w9.drew.cell? ⟨wr.heap.size, 4, none⟩ = some (.int .i64 x.v) ∧ w9.drew.cell? ⟨w0.heap.size, 0, none⟩ = some (.int .i64 t) := ⟨BC9.cell 2, BC9.cell 3, BC9.cell 4, cell_keep (below_drew hb79) HT7.out⟩
        have hz9 := BC9.lt
        have hz0 : w0.heap.size < w9.heap.size := Nat.lt_of_lt_of_le HZ6.out hb9.size
        clear hat hb8 hb79 c1 c2 c3 BC BC9 t7
        go_wp2_with fail
        go_region_held3 (fun w' => w'.cell? ⟨wr.heap.size, 2, none⟩ = some (.int .i64 x.s) ∧ w'.cell? ⟨wr.heap.size, 3, none⟩ = some (.bool x.has) ∧ w'.cell? ⟨wr.heap.size, 4, none⟩ = some (.int .i64 x.v) ∧ w'.cell? ⟨w0.heap.size, 0, none⟩ = some (.int .i64 t))
          (first | exact S0 | exact keepB4 hb11 hz9 hz9 hz9 hz0 S0)
          (first | (go_at_call 33; refine hto.mono ?_; rintro e w11 ⟨rfl, hb11⟩))
        have hb11 := ext_trans (below_drew hb9) hb11
        clear S0 hto hsm hb9
        go_wp2_with fail
        go_roundw
        case rel => exact ⟨n + 1, by omega, by go_num, by rw [HE1.out], hb11⟩
        case measure => simp [intOf]; omega
    case neg =>
      obtain rfl : n = cl.length := by omega
      have hE : hit U t cl.length = if (atG U t).isSome then 1 else 0 := by rw [← hit_end, HUC.out, List.length_map]
      obtain ⟨q, hq⟩ : ∃ q, (atG U t).isSome = q := ⟨_, rfl⟩
      rw [hE, hq]
      clear hE hq HBU
      cases q
      all_goals
        simp only [if_true, if_false, Bool.false_eq_true]
        go_wp2_with fail
        refine (imapCheck_any Af cf fl _ (HIF.out.ext hbr)).mono ?_
        rw [HFE.out]
        rintro e w7 ⟨rfl, hb7⟩
        have hb7 := ext_trans hbr hb7
        go_wp2_with fail
        go_ret
        exact ⟨rfl, HBB.out.trans ((ext_trans HB6.out hb7).mono (Nat.le_of_lt HZB.out))⟩
end Go.Proofs.Ytcfachfldanddaa
