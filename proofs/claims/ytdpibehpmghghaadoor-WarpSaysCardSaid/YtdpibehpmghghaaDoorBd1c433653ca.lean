/- Several texts in one: RefCells, Sib. -/
import Derived.BigRegion
import Derived.Test.YtdpibehpmghghaaDoorBd7609a53e81
import Derived.Test.YtdpibehpmghghaaDoorBd488577e5cf
import Derived.Test.YtdpibehpmghghaaDoorBddb49e372d1
import Derived.Test.YtdpibehpmghghaaDoorBd956b9b2aac
import Derived.Test.YtdpibehpmghghaaDoorBd8506619883
/- The walk of the document's Cells (printed by genrefcells.py). -/
namespace Go.Proofs.YtdpibehpmghghaaDoor
open Go.RowKit Go.Shelf

theorem appendInts {P : Program} {ops : Array Oper} {rest : List Oper} {o : Oper} {a : Act} {Q : Exit → Act → World → Prop} {w : World} (hgd : o.guard = none) (s x : Operand) (t : TypeId)
    (ho : o.op = .call { callee := .builtin .append, args := #[s, x], argTypes := #[t, t] })
    (base base2 : Nat) (e : TypeId) (i : TypeInfo) (z : Value) (size bytes : Nat) (ht : P.underlying t = some (.slice e)) (hi : P.info? e = some i) (hz : i.zero = some z)
    (hsize : i.size = size) (hby : i.bytes = bytes) (hzs : z.cells.size = size) (hsz : 0 < size) {α : Type} {enc : α → List Value}
    (v v2 : Value) (l l2 : List α) (hs : a.eval s = v) (hx : a.eval x = v2) (hown : Own enc size w base e v l) (hown2 : Own enc size w base2 e v2 l2) (h1 : ∀ u ∈ l2.flatMap enc, u.oneCell' = true)
    (h63 : l.length + l2.length ≤ 1000000) (hby2 : bytes ≤ 1000) (hbase : base ≤ w.heap.size)
    (h : ∀ v' w', Own enc size w' base e v' (l ++ l2) → Below base w w' → wpList P ops Q rest (a.put o.dst v') w') : wpList P ops Q (o :: rest) a w := by
  refine wpList_plain hgd fun K hK => ?_
  exact wp_append_two s x t ho base base2 e i z size bytes ht hi hz hsize hby hzs hsz v v2 l l2 hs hx hown hown2 h1 h63 hby2 hbase fun v' w' k1 k2 => hK _ _ (h v' w' k1 k2)
set_option maxRecDepth 100000 in
set_option maxHeartbeats 16000000 in
theorem refCells_any (A B : Option Addr) (c d : Nat) (state l : List PieceD) (how : Int) (w : World) (hA : PiecesAt w A c state) (hB : PiecesAt w B d l) (ht : Tab w) :
    Calls Tryd.prog 24 #[.slice A state.length c, .slice B l.length d, .int .i64 how] w (CellsOut (CellsSay state l how) w) := by
  have m1 := hA.len
  have m2 := hB.len
  have HA := Lib.hid hA; have HB := Lib.hid hB
  have HTB := Lib.hid ht
  have hC1 := refMap_any A c state w hA
  have hC2 := fun W (h : PiecesAt W B d l) => refMessages_any B d l W h
  clear hA hB ht
  by_cases h0 : mapErr state = 0
  case neg =>
    have hd : (mapErr state != 0) = true := by simpa using h0
    have HS : Hid (CellsSay state l how (mapErr state) []) := Lib.hid (by unfold CellsSay; rw [if_neg h0]; exact ⟨rfl, rfl⟩)
    clear h0
    obtain ⟨er, her⟩ : ∃ er, mapErr state = er := ⟨_, rfl⟩
    rw [her] at hd HS hC1
    clear her
    go_enter Tryd.func24, Tryd.ntmps24
    go_wp2_with fail
    refine hC1.mono ?_
    rintro e w1 ⟨rfl, hb1⟩
    go_wp2_with fail
    go_ret2
    exact ⟨er, [], none, 0, HS, rfl, CellsAt.nil, hb1⟩
  case pos =>
  rw [h0] at hC1
  by_cases h1 : msgErr l = 0
  case neg =>
    have hd : (msgErr l != 0) = true := by simpa using h1
    have HS : Hid (CellsSay state l how (msgErr l) []) := Lib.hid (by unfold CellsSay; rw [if_pos h0, if_neg h1]; exact ⟨rfl, rfl⟩)
    clear h0 h1
    obtain ⟨er, her⟩ : ∃ er, msgErr l = er := ⟨_, rfl⟩
    rw [her] at hd HS
    simp only [her] at hC2
    clear her
    go_enter Tryd.func24, Tryd.ntmps24
    go_wp2_with fail
    refine hC1.mono ?_
    rintro e w1 ⟨rfl, hb1⟩
    clear hC1
    go_wp2_with fail
    refine (hC2 _ (HB.out.ext hb1)).mono ?_
    rintro e w2 ⟨rfl, hb2⟩
    go_wp2_with fail
    go_ret2
    exact ⟨er, [], none, 0, HS, rfl, CellsAt.nil, ext_trans hb1 hb2⟩
  case pos =>
  simp only [h1] at hC2
  have H0 := Lib.hid h0; have H1 := Lib.hid h1
  clear h0 h1
  by_cases hk : 1 ≤ how ∧ how ≤ 3
  case neg =>
    have HS : Hid (CellsSay state l how 1 []) := Lib.hid (by unfold CellsSay; rw [if_pos H0.out, if_pos H1.out, if_neg hk]; exact ⟨rfl, rfl⟩)
    have hkk : inB how 1 3 = false := by simp [inB]; omega
    have hin := fun W => in_any how 1 3 W
    rw [hkk] at hin
    clear hk hkk
    go_enter Tryd.func24, Tryd.ntmps24
    go_wp2_with fail
    refine hC1.mono ?_
    rintro e w1 ⟨rfl, hb1⟩
    go_wp2_with fail
    refine (hC2 _ (HB.out.ext hb1)).mono ?_
    rintro e w2 ⟨rfl, hb2⟩
    clear hC1 hC2
    go_wp2_with (first | (refine (hin _).mono ?_; rintro e w3 ⟨rfl, rfl⟩))
    go_ret2
    exact ⟨1, [], none, 0, HS, rfl, CellsAt.nil, ext_trans hb1 hb2⟩
  case pos =>
  have HK := Lib.hid hk
  have hkk : inB how 1 3 = true := by simp [inB]; omega
  have hin := fun W => in_any how 1 3 W
  rw [hkk] at hin
  clear hk hkk
  obtain ⟨i0, hi, hz0, hz1, hz2⟩ := info_cell2
  obtain ⟨j0, hj, hy0, hy1, hy2⟩ := info_int2
  have HS := Lib.hid (mapErr_zero H0.out)
  have HM := Lib.hid (msgErr_zero H1.out)
  have hsl : state.length ≤ 200 := by have := HS.out.1; omega
  have hll := HM.out.1
  go_enter Tryd.func24, Tryd.ntmps24
  go_wp2_with fail
  refine hC1.mono ?_
  rintro e w1 ⟨rfl, hb1⟩
  clear hC1
  go_wp2_with fail
  refine (hC2 _ (HB.out.ext hb1)).mono ?_
  rintro e w2 ⟨rfl, hb2⟩
  have hb2 := ext_trans hb1 hb2
  clear hC2 hb1
  go_wp2_with (first | (refine (hin _).mono ?_; rintro e w3 ⟨rfl, rfl⟩))
  clear hin
  refine (refTurns_any A c state _ (HA.out.ext hb2) (by omega)).mono ?_
  rintro e w3 ⟨v3, rfl, O3, hb3⟩
  have hb23 := ext_trans hb2 hb3
  go_wp2_with fail
  refine (refMailTurns_any B d l _ (HB.out.ext hb23) (by omega)).mono ?_
  rintro e w4 ⟨v4, rfl, O4, hb4⟩
  have O3 := O3.ext hb4
  have hb24 := ext_trans hb23 hb4
  have hz34 : w2.heap.size ≤ w4.heap.size := Nat.le_trans hb3.size hb4.size
  go_wp2_with (at_builtin; refine appendInts (enc := intEnc) rfl (.tmp 34) (.tmp 36) 52 rfl w2.heap.size w3.heap.size 3 j0 _ 1 8 Tryd.underlying52 hj hy0 hy1 hy2 rfl (by decide) v3 v4 (endsP state) (endsP l) rfl rfl O3 O4 (ints_one _) (by rw [endsP_len, endsP_len]; omega) (by decide) hz34 ?_; intro v5 w5 O5 hb5)
  obtain ⟨qs, hqs⟩ : ∃ q, q = endsP state ++ endsP l := ⟨_, rfl⟩
  rw [← hqs] at O5
  have HQS := Lib.hid hqs
  have hql : qs.length ≤ 1000 := by rw [hqs, List.length_append, endsP_len, endsP_len]; omega
  have hb25 : Below w.heap.size w w5 := hb24.trans (hb5.mono hb2.size)
  obtain ⟨A5, c5, rfl, hI5⟩ := own_ints O5 (fun n hn => by
    rw [HQS.out] at hn
    rcases List.mem_append.1 hn with hn | hn
    · exact endsP_i64 HA.out n hn
    · exact endsP_i64 HB.out n hn)
  clear hqs hb2 hb3 hb23 hb4 hb24 hb5 O3 O4 O5 hz34
  go_wp2_with fail
  refine (bounds_any A5 c5 qs _ hI5 (by omega)).mono ?_
  rintro e wd ⟨A1, c1, D, HD, rfl, hI1, hb6⟩
  have hb1 := ext_trans hb25 hb6
  clear hb25 hb6 hI5
  have hDl : D.length ≤ 1000 := Nat.le_trans HD.out.2.2 hql
  have hD9 := hI1.len
  have HT : Hid (TurnsAt D none (keyF state l)) := Lib.hid (key_turns HD.out.1 (endsP_sub HD.out.2.1 fun _ h => by rw [HQS.out]; exact List.mem_append_right _ h) (endsP_sub HD.out.2.1 fun _ h => by rw [HQS.out]; exact List.mem_append_left _ h))
  have HDI : Hid (∀ k x, D[k]? = some x → I64 x) := Lib.hid fun k x hx => hI1.i64 x (List.mem_of_getElem? hx)
  have HI1 := Lib.hid hI1
  clear hI1 hql
  go_wp2_with fail
  go_loopw [11, 12, 13, 14] (fun u s ee x wr => ∃ (i : Nat) (out : List (PieceG Key)) (ek : Int), x = .int .i64 i ∧ ee = .int .i64 ek ∧ s = .string (bs (textK (lastW out))) ∧ Hid (ek = farE l how out) ∧ Hid (i < D.length ∨ (D = [] ∧ i = 0 ∧ out = [])) ∧ Hid (KeyK (keyF state l) D i out) ∧
    Own cellC 5 wr wd.heap.size 67 u (out.map (toCell l how)) ∧ Below wd.heap.size wd wr) (fun _ _ _ x _ => D.length - (intOf x).toNat)
  case atStart => exact ⟨0, [], 0, rfl, rfl, rfl, Lib.hid rfl, Lib.hid (by cases D with
    | nil => exact .inr ⟨rfl, rfl, rfl⟩
    | cons y r => exact .inl (by simp)), Lib.hid KeyK.start, Own.nil, Below.refl _ _⟩
  case round =>
    obtain ⟨i, out, ek, rfl, rfl, rfl, HEK, H9, HKK, hO, hb⟩ := hrel
    have hil : i ≤ D.length := by rcases H9.out with h | ⟨h, h2, _⟩ <;> omega
    have hol := HKK.out.2.1
    have hbr := ext_trans hb1 hb
    have hzr := hb.size
    by_cases hlt : i + 1 < D.length
    case neg =>
      have HF : Hid (MapG out ∧ ∀ t, atG out t = keyF state l t) := Lib.hid (HKK.out.fin HD.out.1 HT.out (by omega) (H9.out.imp id fun h => ⟨h.1, h.2.2⟩))
      have HTE := Lib.hid (cells_tell (k := how) HF.out.1 HF.out.2)
      obtain ⟨Ao, co, rfl, hIo⟩ := own_cells hO (fun y hy => by
        obtain ⟨p, hp, rfl⟩ := List.mem_map.1 hy
        have h1 := HKK.out.2.2 p hp
        have h2 := HF.out.1.2 p hp
        have h3 := HF.out.2 p.f
        rw [HF.out.1.mem_at hp (Int.le_refl _) h2] at h3
        unfold keyF at h3
        split at h3
        · simp at h3
        · have e3 : p.v = (whichL l p.f, atM state p.f) := by simpa using h3
          have hvb := valOf_bound (t := p.f) HM.out.2 HM.out.1 HK.out
          refine ⟨h1.1, h1.2, ?_, ?_⟩
          · show I64 (p.v.2.getD 0)
            rw [e3]
            cases hc : atM state p.f with
            | none => simp [I64]
            | some v => exact near_i64 (HS.out.2.vals hc)
          · show I64 (valOf l how p.v.1)
            rw [e3]
            unfold I64
            simp only
            omega)
      rw [List.length_map]
      have HEK2 := HEK.out
      have HCS : Hid (∀ er oc, CellsTell state l how er oc → CellsSay state l how er oc) := Lib.hid fun er oc h => by unfold CellsSay; rw [if_pos H0.out, if_pos H1.out, if_pos HK.out]; exact h
      have HSZ : Hid (out.length ≤ 1000) := Lib.hid (by omega)
      clear hO HKK HEK H9
      by_cases hf : ek = 0
      case pos =>
        subst hf
        have HTE2 := HTE.out
        rw [← HEK2, if_pos rfl, if_pos rfl] at HTE2
        clear HEK2 HTE
        by_cases hl : 200 < out.length
        · have hd : decide ((out.length : Int) > 200) = true := by simp; omega
          rw [if_pos hl, if_pos hl] at HTE2
          have HT2 := Lib.hid HTE2
          clear hl HTE2
          go_wp2_with fail
          refine bodyPost_ret (v := .tuple #[.slice none 0 0, .int .i64 2]) (by simp [results, Tryd.results24]) rfl ?_
          exact ⟨2, [], none, 0, Lib.hid (HCS.out _ _ HT2.out), rfl, CellsAt.nil, hbr⟩
        · have hd : decide ((out.length : Int) > 200) = false := by simp; omega
          rw [if_neg hl, if_neg hl] at HTE2
          have HT2 := Lib.hid HTE2
          clear hl HTE2
          go_wp2_with fail
          refine bodyPost_ret (v := .tuple #[.slice Ao out.length co, .int .i64 0]) (by simp [results, Tryd.results24]) rfl ?_
          exact ⟨0, out.map (toCell l how), Ao, co, Lib.hid (HCS.out _ _ HT2.out), by rw [List.length_map], hIo, hbr⟩
      case neg =>
        have HTE2 := HTE.out
        rw [← HEK2, if_neg hf, if_neg hf] at HTE2
        have hd : (ek == 0) = false := by simpa using hf
        have hd2 : (ek != 0) = true := by simpa using hf
        have HT2 := Lib.hid HTE2
        clear HEK2 HTE hf HTE2
        go_wp2_with fail
        refine bodyPost_ret (v := .tuple #[.slice none 0 0, .int .i64 ek]) (by simp [results, Tryd.results24]) rfl ?_
        exact ⟨ek, [], none, 0, Lib.hid (HCS.out _ _ HT2.out), rfl, CellsAt.nil, hbr⟩
    case pos =>
      obtain ⟨a, ha⟩ := get_lt (show i < D.length by omega)
      obtain ⟨e, he⟩ := get_lt hlt
      have HA0 := Lib.hid ha; have HE0 := Lib.hid he
      obtain ⟨b, off, rfl, hb0, x0⟩ := HI1.out.get ha
      obtain ⟨b', off', e', _, x1⟩ := HI1.out.get he
      obtain ⟨rfl, rfl⟩ : b = b' ∧ off = off' := by simpa using e'
      have X0 := Lib.hid x0; have X1 := Lib.hid x1
      rw [← hb.cell (by exact hb0)] at x0 x1
      have HIA := Lib.hid (HDI.out i a ha); have HIE := Lib.hid (HDI.out (i + 1) e he)
      have hil' : i < D.length := by omega
      have hltz : (i : Int) + 1 < (D.length : Int) := by omega
      have hi0 : (0 : Int) ≤ (i : Int) + 1 := by omega
      have hiw : IntKind.i64.wrap ((i : Int) + 1) = (i : Int) + 1 := IntWalk.i64_in _ (by omega)
      obtain ⟨wh, hwh⟩ : ∃ wh, whichL l a = wh := ⟨_, rfl⟩
      obtain ⟨om, hom⟩ : ∃ om, atM state a = om := ⟨_, rfl⟩
      have HWH := Lib.hid hwh; have HOM := Lib.hid hom
      obtain ⟨vv, hvv⟩ : ∃ vv, valOf l how wh = vv := ⟨_, rfl⟩
      have HVV := Lib.hid hvv
      have hMx := refMixed_any B d l how a wr (HB.out.ext hbr) HM.out.2 HM.out.1 HK.out (HTB.out.ext hbr)
      have hatc := fun W h => refAt_any A c state a W h
      unfold mixV at hMx
      rw [hwh, hvv] at hMx
      rw [hom] at hatc
      have HAT := Lib.hid hatc
      clear ha he e' hwh hom hvv hatc
      by_cases hw0 : wh = []
      case pos =>
        subst hw0
        rw [show decide (([] : List Int) ≠ []) = false by simp] at hMx
        have HKN := Lib.hid (step_skip HKK.out HD.out.1 HT.out HA0.out HE0.out HWH.out)
        go_wp2_with fail
        refine hMx.mono ?_
        rintro ee w2 ⟨rfl, hb2⟩
        clear hMx
        go_wp2_with fail
        go_roundw
        case rel => exact ⟨i + 1, out, ek, by go_num, rfl, rfl, HEK, Lib.hid (.inl hlt), HKN, hO.ext hb2, ext_trans hb hb2⟩
        case measure => simp [intOf]; omega
      case neg =>
      rw [show decide (wh ≠ []) = true by simpa using hw0] at hMx
      obtain ⟨sv, hsv⟩ : ∃ x, om.getD 0 = x := ⟨_, rfl⟩
      obtain ⟨sb, hsb⟩ : ∃ x, om.isSome = x := ⟨_, rfl⟩
      have HATV : Hid (atV om = .tuple #[.int .i64 sv, .bool sb]) := Lib.hid (by unfold atV; rw [hsv, hsb])
      have HCE : Hid (toCell l how (pk a e wh om) = ⟨a, e, sv, sb, vv⟩) := Lib.hid (by unfold toCell pk; simp only [HVV.out, hsv, hsb])
      have HFN : Hid (keyF state l a = some (wh, om)) := Lib.hid (by unfold keyF; rw [HWH.out, HOM.out, if_neg hw0])
      have HSVB : Hid (om.getD 0 = sv ∧ om.isSome = sb) := Lib.hid ⟨hsv, hsb⟩
      obtain ⟨txw, htxw⟩ : ∃ x, textK wh = x := ⟨_, rfl⟩
      have HTXW := Lib.hid htxw
      rw [htxw] at hMx
      have hwn : ∀ q ∈ wh, 0 ≤ q := fun q hq => by rw [← HWH.out] at hq; exact (mem_whichK hq).1
      have HWN := Lib.hid hwn
      clear hw0 hsv hsb htxw hwn
      go_wp2_with fail
      refine hMx.mono ?_
      rintro ee w2 ⟨rfl, hb2⟩
      have hO := hO.ext hb2
      have hbd := ext_trans hb hb2
      have x0 := (hb2.cell (p := ⟨b, off + i, none⟩) (Nat.lt_of_lt_of_le hb0 hzr)).trans x0
      have x1 := (hb2.cell (p := ⟨b, off + (i + 1), none⟩) (Nat.lt_of_lt_of_le hb0 hzr)).trans x1
      have hzw2 : wd.heap.size ≤ w2.heap.size := hbd.size
      clear hMx hb2 hb hbr hzr
      have hbW := ext_trans hb1 hbd
      go_wp2_with fail
      have HNE : ∀ (nb : Bool), nearB vv = nb → ∀ (c : Int), (if nb = true then ek else 5) = farE l how (out ++ [pk a c wh om]) := fun nb hnb c => by
        cases nb
        · exact (farE_far (by simp only; rw [HVV.out]; exact hnb)).symm
        · rw [HEK.out]; exact (farE_near (by simp only; rw [HVV.out]; exact hnb)).symm
      have HNE := Lib.hid HNE
      have hbw2 : b < w2.heap.size := Nat.lt_of_lt_of_le hb0 hzw2
      have X0a : ∀ ob : Obj, (w2.alloc ob).cell? ⟨b, off + i, none⟩ = some (.int .i64 a) := fun ob => ((ext_alloc (Below.refl _ w2) ob).cell (p := ⟨b, off + i, none⟩) hbw2).trans x0
      have X1a : ∀ ob : Obj, (w2.alloc ob).cell? ⟨b, off + (i + 1), none⟩ = some (.int .i64 e) := fun ob => ((ext_alloc (Below.refl _ w2) ob).cell (p := ⟨b, off + (i + 1), none⟩) hbw2).trans x1
      cases hnb : nearB vv
      all_goals
        have HN2 := Lib.hid (HNE.out _ hnb)
        simp only [if_true, if_false, Bool.false_eq_true] at HN2
        go_wp2_with (first | (go_at_call 63; refine (near_is hnb _).mono ?_; rintro e w' ⟨rfl, rfl⟩))
        go_region
        go_wp2_with fail
        refine (HAT.out _ (HA.out.ext (below_drew (ext_alloc hbW _)))).mono ?_
        rintro ee w3 ⟨he, rfl⟩
        rw [HATV.out] at he
        subst he
        clear x0 x1 X0a X1a
        rcases nil_or_snoc out with rfl | ⟨o, z, rfl⟩
        · skip
          have HKN := Lib.hid (HKK.out.next HD.out.1 HT.out HA0.out HE0.out HFN.out (fun y hy => by simp at hy) HIA.out HIE.out)
          have HMAP : Hid ((([] : List (PieceG Key)) ++ [pk a e wh om]).map (toCell l how) = [] ++ [⟨a, e, sv, sb, vv⟩]) := Lib.hid (by rw [List.map_append, List.map_cons, List.map_nil, HCE.out])
          have HN3 := Lib.hid (HN2.out e)
          have hO : Own cellC 5 w2 wd.heap.size 67 u11 ([] : List CellD) := hO
          obtain ⟨Ao, co, rfl⟩ := hO.form
          go_wp2_with fail
          obtain ⟨w4, hw4⟩ : ∃ x, x = (w2.alloc (Obj.cells #[.int .i64 a, .int .i64 e, .int .i64 sv, .bool sb, .int .i64 vv] 67)).drew := ⟨_, rfl⟩
          have BX : Blk w4 w2.heap.size 67 #[.int .i64 a, .int .i64 e, .int .i64 sv, .bool sb, .int .i64 vv] := by rw [hw4]; exact (Blk.new w2 _ _).drew
          have hb24 : Below w2.heap.size w2 w4 := by rw [hw4]; exact below_drew (ext_alloc (Below.refl _ w2) _)
          rw [← hw4]
          have hO := hO.ext hb24
          have hb4 := ext_trans hbd hb24
          have hz4 := hb4.size
          obtain ⟨f1, f2, f3⟩ := BX.facts
          clear hw4 hb24 hbd
          go_quiet (fail)
          go_wp2_with (at_builtin; refine wpList_append_lie (enc := cellC) rfl (.tmp 133) (.tmp 135) 59 rfl wd.heap.size 67 i0 _ 5 40 Tryd.underlying59 hi hz0 hz1 hz2 rfl (by decide) _ [] ⟨a, e, sv, sb, vv⟩ rfl (hO.drewN _) #[.int .i64 a, .int .i64 e, .int .i64 sv, .bool sb, .int .i64 vv] rfl w4.heap.size (by simp) rfl rfl five_cells (by simp) (by decide) (by simp; omega) ?_; intro gn cap w6 hown6 hb8 hkp hgn)
          go_roundw
          case rel => exact ⟨i + 1, [] ++ [pk a e wh om], _, by go_num, rfl, by rw [lastW_snoc, HTXW.out], HN3, Lib.hid (.inl hlt), HKN, by rw [HMAP.out]; first | exact hown6 | (have h := hown6; rw [List.length_append] at h; exact h), (below_drewN hb4 _).trans hb8⟩
          case measure => simp [intOf]; omega
        · skip
          obtain ⟨zc, hzc⟩ : ∃ zc, toCell l how z = zc := ⟨_, rfl⟩
          obtain ⟨oc, hoc⟩ : ∃ oc, o.map (toCell l how) = oc := ⟨_, rfl⟩
          have hmz : (o ++ [z]).map (toCell l how) = oc ++ [zc] := by rw [List.map_append, List.map_cons, List.map_nil, hzc, hoc]
          have hocl : oc.length = o.length := by rw [← hoc, List.length_map]
          rw [hmz] at hO
          have HZC := Lib.hid hzc; have HOC := Lib.hid hoc; have HMZ := Lib.hid hmz; have HOL := Lib.hid hocl
          rw [List.length_append] at hol
          simp only [List.length_cons, List.length_nil, Nat.zero_add] at hol
          have HMAP : Hid ((o ++ [z] ++ [pk a e wh om]).map (toCell l how) = (oc ++ [zc]) ++ [⟨a, e, sv, sb, vv⟩]) := Lib.hid (by rw [List.map_append, hmz, List.map_cons, List.map_nil, HCE.out])
          have HZT : Hid (zc.t = z.t ∧ zc.s = z.v.2.getD 0 ∧ zc.has = z.v.2.isSome) := Lib.hid (by rw [← hzc]; exact ⟨rfl, rfl, rfl⟩)
          have hn5 : oc.length + 2 ≤ 1000000 := by omega
          have hn63 : oc.length + 1 ≤ 9223372036854775807 := by omega
          rw [lastW_snoc]
          obtain ⟨txl, htxl⟩ : ∃ x, textK z.v.1 = x := ⟨_, rfl⟩
          have HTXL := Lib.hid htxl
          rw [htxl]
          obtain ⟨Ao, co, rfl⟩ := hO.form
          rw [List.length_append] at hO ⊢
          simp only [List.length_cons, List.length_nil, Nat.zero_add] at hO ⊢
          obtain ⟨go, rfl⟩ : ∃ g, Ao = some ⟨g, 0, none⟩ := by
            rcases hO.2 with ⟨h1, _⟩ | ⟨g, cap, cur, hv, _⟩
            · simp at h1
            · simp only [Value.slice.injEq] at hv
              exact ⟨g, hv.1⟩
          have hjw : IntKind.i64.wrap (oc.length : Int) = oc.length := IntWalk.i64_in _ (by omega)
          have hjl : oc.length < oc.length + 1 := by omega
          clear hzc hoc hmz hocl htxl
          go_wp2_with fail
          obtain ⟨w4, hw4⟩ : ∃ x, x = (w2.alloc (Obj.cells #[.int .i64 a, .int .i64 e, .int .i64 sv, .bool sb, .int .i64 vv] 67)).drew := ⟨_, rfl⟩
          have BX : Blk w4 w2.heap.size 67 #[.int .i64 a, .int .i64 e, .int .i64 sv, .bool sb, .int .i64 vv] := by rw [hw4]; exact (Blk.new w2 _ _).drew
          have hb24 : Below w2.heap.size w2 w4 := by rw [hw4]; exact below_drew (ext_alloc (Below.refl _ w2) _)
          rw [← hw4]
          have hO := hO.ext hb24
          have hb4 := ext_trans hbd hb24
          have hz4 := hb4.size
          obtain ⟨f1, f2, f3⟩ := BX.facts
          clear hw4 hb24 hbd
          obtain ⟨hnm, hgo, hmc, hcm, cs, hBk, hcs, hrow⟩ := hO.cells cellC_len
          have hza : (oc ++ [zc])[oc.length]? = some zc := by simp
          have z0 : cs[oc.length * 5]? = some (.int .i64 zc.f) := by have := hrow _ zc hza 0 (by decide); simpa [cellC] using this
          have z1 : cs[oc.length * 5 + 1]? = some (.int .i64 zc.t) := by have := hrow _ zc hza 1 (by decide); simpa [cellC] using this
          have z2 : cs[oc.length * 5 + 2]? = some (.int .i64 zc.s) := by have := hrow _ zc hza 2 (by decide); simpa [cellC] using this
          have z3 : cs[oc.length * 5 + 3]? = some (.bool zc.has) := by have := hrow _ zc hza 3 (by decide); simpa [cellC] using this
          have z4 : cs[oc.length * 5 + 4]? = some (.int .i64 zc.v) := by have := hrow _ zc hza 4 (by decide); simpa [cellC] using this
          have q1 := (hBk.cell (oc.length * 5 + 1)).trans z1
          have q2 := (hBk.cell (oc.length * 5 + 2)).trans z2
          have q3 := (hBk.cell (oc.length * 5 + 3)).trans z3
          have q1f := hBk.frozen (oc.length * 5 + 1)
          have HR := Lib.hid hrow
          have HMC := Lib.hid hmc; have HCS := Lib.hid hcs; have HCM := Lib.hid hcm
          have HBK := Lib.hid hBk
          have HZ0 := Lib.hid z0; have HZ1 := Lib.hid z1; have HZ2 := Lib.hid z2; have HZ3 := Lib.hid z3; have HZ4 := Lib.hid z4
          clear hrow hmc hnm hza hcs hcm hBk z0 z1 z2 z3 z4
          by_cases hz : z.t = a ∧ z.v = (wh, om)
          case pos =>
            have hd1 : (zc.t == a) = true := by rw [HZT.out.1]; simpa using hz.1
            have hd2 : (txl == txw) = true := by rw [← HTXL.out, ← HTXW.out, hz.2]; simp
            have hd3 : (zc.s == sv) = true := by rw [HZT.out.2.1, hz.2, ← HSVB.out.1]; simp
            have hd4 : (zc.has == sb) = true := by rw [HZT.out.2.2, hz.2, ← HSVB.out.2]; simp
            have HKN := Lib.hid (HKK.out.grow HD.out.1 HT.out HA0.out HE0.out (by rw [HFN.out, hz.2]) hz.1 HIE.out)
            have HN3 := Lib.hid ((HN2.out e).trans (farE_again (d := e) hz.2))
            have HZV := Lib.hid hz.2
            clear hz
            go_quiet (fail)
            go_wp2_with fail
            go_roundw
            case rel =>
              refine ⟨i + 1, o ++ [(⟨z.f, e, z.v⟩ : PieceG Key)], _, by go_num, rfl, by rw [lastW_snoc, HZV.out, HTXW.out], HN3, Lib.hid (.inl hlt), HKN, ?_, (below_drewN hb4 _).setCell hgo _⟩
              have hm2 : (o ++ [(⟨z.f, e, z.v⟩ : PieceG Key)]).map (toCell l how) = oc ++ [⟨zc.f, e, zc.s, zc.has, zc.v⟩] := by rw [List.map_append, HOC.out, List.map_cons, List.map_nil, ← HZC.out]; rfl
              rw [hm2]
              have h2 := Own.of_cells (enc := cellC) (m := oc ++ [⟨zc.f, e, zc.s, zc.has, zc.v⟩]) cellC_len (by decide) ((HBK.out.drewN nq).set_ (oc.length * 5 + 1) (.int .i64 e)) hgo (by have := HMC.out; simpa using this) HCM.out (by simpa using HCS.out) (by
                have e1 : (oc ++ [zc]).set oc.length ⟨zc.f, e, zc.s, zc.has, zc.v⟩ = oc ++ [⟨zc.f, e, zc.s, zc.has, zc.v⟩] := by simp
                rw [← e1]
                refine HR.out.set (by simp) (fun t ht => by rw [Array.getElem?_setIfInBounds_ne (by omega)]) (fun t ht => ?_)
                have k1 : oc.length * 5 + 1 < cs.size := (Array.getElem?_eq_some_iff.1 HZ1.out).1
                match t, ht with
                | 0, _ =>
                  show (cs.setIfInBounds (oc.length * 5 + 1) (.int .i64 e))[oc.length * 5]? = _
                  rw [Array.getElem?_setIfInBounds_ne (by omega), HZ0.out]; rfl
                | 1, _ => rw [Array.getElem?_setIfInBounds_self_of_lt k1]; rfl
                | 2, _ => rw [Array.getElem?_setIfInBounds_ne (by omega), HZ2.out]; rfl
                | 3, _ => rw [Array.getElem?_setIfInBounds_ne (by omega), HZ3.out]; rfl
                | 4, _ => rw [Array.getElem?_setIfInBounds_ne (by omega), HZ4.out]; rfl)
              simpa using h2
            case measure => simp [intOf]; omega
          case neg =>
            have HKN := Lib.hid (HKK.out.next HD.out.1 HT.out HA0.out HE0.out HFN.out (KeyK.last (v := (wh, om)) HKK.out HA0.out hz) HIA.out HIE.out)
            have HN3 := Lib.hid (HN2.out e)
            have hor : (zc.t == a) = false ∨ ((zc.t == a) = true ∧ (txl == txw) = false) ∨ ((zc.t == a) = true ∧ (txl == txw) = true ∧ (zc.s == sv) = false) ∨ ((zc.t == a) = true ∧ (txl == txw) = true ∧ (zc.s == sv) = true ∧ (zc.has == sb) = false) := by
              rw [HZT.out.1, HZT.out.2.1, HZT.out.2.2, ← HTXL.out, ← HTXW.out, ← HSVB.out.1, ← HSVB.out.2]
              by_cases c1 : z.t = a
              · refine .inr ?_
                by_cases c2 : z.v.1 = wh
                · refine .inr ?_
                  by_cases c3 : z.v.2.getD 0 = om.getD 0
                  · by_cases c4 : z.v.2.isSome = om.isSome
                    · exact absurd ⟨c1, Prod.ext c2 (state_same.1 ⟨c3, c4⟩)⟩ hz
                    · exact .inr ⟨by simpa using c1, by rw [c2]; simp, by simpa using c3, by simpa using c4⟩
                  · exact .inl ⟨by simpa using c1, by rw [c2]; simp, by simpa using c3⟩
                · exact .inl ⟨by simpa using c1, by
                    have : ¬ textK z.v.1 = textK wh := fun h => c2 (textK_inj (key_nonneg HKK.out HA0.out (by simp)) HWN.out h)
                    simpa using this⟩
              · exact .inl (by simpa using c1)
            clear hz
            rcases hor with hd1 | ⟨hd1, hd2⟩ | ⟨hd1, hd2, hd3⟩ | ⟨hd1, hd2, hd3, hd4⟩
            all_goals
              go_quiet (fail)
              go_wp2_with (at_builtin; refine wpList_append_lie (enc := cellC) rfl (.tmp 133) (.tmp 135) 59 rfl wd.heap.size 67 i0 _ 5 40 Tryd.underlying59 hi hz0 hz1 hz2 rfl (by decide) _ (oc ++ [zc]) ⟨a, e, sv, sb, vv⟩ rfl (hO.drewN _) #[.int .i64 a, .int .i64 e, .int .i64 sv, .bool sb, .int .i64 vv] rfl w4.heap.size (by simp) rfl rfl five_cells (by simp; omega) (by decide) (by simp; omega) ?_; intro gn cap w6 hown6 hb8 hkp hgn)
              go_roundw
              case rel => exact ⟨i + 1, (o ++ [z]) ++ [pk a e wh om], _, by go_num, rfl, by rw [lastW_snoc, HTXW.out], HN3, Lib.hid (.inl hlt), HKN, by rw [HMAP.out]; first | exact hown6 | (have h := hown6; rw [List.length_append] at h; exact h), (below_drewN hb4 _).trans hb8⟩
              case measure => simp [intOf]; omega
end Go.Proofs.YtdpibehpmghghaaDoor
/- A world in which one block alone may have changed. -/
namespace Go.Proofs.YtdpibehpmghghaaDoor
open Go.RowKit Go.Shelf

structure Sib (g : Nat) (w w' : World) : Prop where
  os : w'.os = w.os
  tape : w'.tape = w.tape
  output : w'.output = w.output
  size : w.heap.size ≤ w'.heap.size
  block : ∀ k, k < w.heap.size → k ≠ g → w'.heap[k]? = w.heap[k]?
section
variable {g B c bw : Nat} {w w' W W' : World} {t : TypeId} {cs : Array Value} {A : Option Addr} {D : List Int} {v u : Value} {b : Bool}
theorem Sib.refl (g : Nat) (w : World) : Sib g w w := ⟨rfl, rfl, rfl, Nat.le_refl _, fun _ _ _ => rfl⟩
theorem Sib.trans (h : Sib g w W) (k : Sib g W W') : Sib g w W' :=
  ⟨k.os.trans h.os, k.tape.trans h.tape, k.output.trans h.output, Nat.le_trans h.size k.size, fun i hi hg => (k.block i (Nat.lt_of_lt_of_le hi h.size) hg).trans (h.block i hi hg)⟩
theorem Sib.of_below (h : Below w.heap.size w W) : Sib g w W := ⟨h.os, h.tape, h.output, h.size, fun k hk _ => h.block k hk⟩
theorem Sib.more (h : Sib g w W) (hb : Below w.heap.size W W') : Sib g w W' :=
  ⟨hb.os.trans h.os, hb.tape.trans h.tape, hb.output.trans h.output, Nat.le_trans h.size hb.size, fun i hi hg => (hb.block i hi).trans (h.block i hi hg)⟩
theorem Sib.store (w : World) (g : Nat) (u : Value) : Sib g w (w.setCell ⟨g, 0, none⟩ u) := by
  have h := (Below.refl g w).setCell (p := ⟨g, 0, none⟩) (Nat.le_refl _) u
  exact ⟨h.os, h.tape, h.output, h.size, fun k _ hg => Below.heap_setCell w ⟨g, 0, none⟩ u k hg⟩
theorem Sib.blk (h : Sib g w W) (hb : Blk w B t cs) (hg : B ≠ g) : Blk W B t cs := (h.block B hb.lt hg).trans hb
theorem Sib.below (h : Sib g w W) (hb : Below B w' w) (hB : B ≤ g) (hw : B ≤ w.heap.size) : Below B w' W :=
  ⟨h.os.trans hb.os, h.tape.trans hb.tape, h.output.trans hb.output, Nat.le_trans hb.size h.size, fun k hk => (h.block k (by omega) (by omega)).trans (hb.block k hk)⟩
theorem Sib.ints (h : Sib g w W) (hI : IntsAt w A c D) (hg : Blk w g 4 #[.bool b]) : IntsAt W A c D := by
  obtain ⟨x, off, hS⟩ := hI.sl
  refine ⟨hI.lc, hI.cm, x, off, fun i y hy => ?_⟩
  obtain ⟨h1, h2, h3, h4⟩ := hS i y hy
  have hne : x ≠ g := fun e => by
    subst e
    have h5 : w.cell? ⟨x, off + i * 1, none⟩ = some (.int .i64 y) := h3
    rw [hg.cell] at h5
    match hj : off + i * 1 with
    | 0 => rw [hj] at h5; simp at h5
    | n + 1 => rw [hj] at h5; simp at h5
  exact ⟨h1, Nat.lt_of_lt_of_le h2 h.size, (World.cell?_of_block (w := w) (h.block x h2 hne)).trans h3, h4⟩
end
theorem seg_of {t : Int} : ∀ {D : List Int}, D.Pairwise (· < ·) → (∃ a, a ∈ D ∧ a ≤ t) → (∃ c, c ∈ D ∧ t < c) → ∃ (j : Nat) (a c : Int), D[j]? = some a ∧ D[j + 1]? = some c ∧ a ≤ t ∧ t < c
  | [], _, ⟨_, h, _⟩, _ => by simp at h
  | [x], _, ⟨a, ha, h1⟩, ⟨c, hc, h2⟩ => by
    simp only [List.mem_singleton] at ha hc
    omega
  | x :: y :: r, hD, ⟨a, ha, h1⟩, ⟨c, hc, h2⟩ => by
    obtain ⟨hx, hl⟩ := List.pairwise_cons.1 hD
    by_cases hy : t < y
    · have hxa : x ≤ t := by
        rcases List.mem_cons.1 ha with rfl | ha
        · exact h1
        · rcases List.mem_cons.1 ha with rfl | ha
          · omega
          · have := (List.pairwise_cons.1 hl).1 a ha
            omega
      exact ⟨0, x, y, rfl, rfl, hxa, hy⟩
    · have hc2 : c ∈ y :: r := by
        rcases List.mem_cons.1 hc with rfl | hc
        · have := hx y (by simp)
          omega
        · exact hc
      obtain ⟨j, a', c', k1, k2, k3, k4⟩ := seg_of hl ⟨y, by simp, by omega⟩ ⟨c, hc2, h2⟩
      exact ⟨j + 1, a', c', k1, k2, k3, k4⟩
/-- Where what is told is far somewhere, it is so at one of the edges. -/
theorem far_at {fn : Int → Option Int} {D : List Int} (hD : D.Pairwise (· < ·)) (hT : TurnsAt D none fn) {i : Nat} (hi : D.length ≤ i + 1) (h0 : (D.take i).any (fun x => farO (fn x)) = false) : ∀ t v, fn t = some v → nearB v = true := fun t v hv => by
  obtain ⟨a, c, ha, hc, h1, h2⟩ := hT.inside t (by rw [hv]; simp)
  obtain ⟨j, a', c', k1, k2, k3, k4⟩ := seg_of hD ⟨a, ha, h1⟩ ⟨c, hc, h2⟩
  have hf := hT.const j a' c' k1 k2 t k3 k4
  obtain ⟨hj, _⟩ := List.getElem?_eq_some_iff.1 k2
  have hm : a' ∈ D.take i := List.mem_of_getElem? (i := j) (by rw [List.getElem?_take_of_lt (by omega)]; exact k1)
  have h3 := List.any_eq_false.1 h0 a' hm
  rw [← hf, hv] at h3
  exact far_off (by simpa [farO] using h3)
theorem far_some {fn : Int → Option Int} {D : List Int} {i : Nat} (h : (D.take i).any (fun x => farO (fn x)) = true) : ∃ t v, fn t = some v ∧ nearB v = false := by
  obtain ⟨x, _, hx⟩ := List.any_eq_true.1 h
  cases hf : fn x with
  | none => rw [hf] at hx; simp [farO] at hx
  | some v => rw [hf] at hx; exact ⟨x, v, hf, far_on hx⟩
end Go.Proofs.YtdpibehpmghghaaDoor
