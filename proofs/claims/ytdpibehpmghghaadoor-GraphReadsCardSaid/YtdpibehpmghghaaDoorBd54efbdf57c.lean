/- Several texts in one: Parse, LawGraphBack. -/
import Derived.Deep.DeepCutAuto
import Derived.Test.YtdpibehpmghghaaDoorBdc1b04250da
import Derived.Test.YtdpibehpmghghaaDoorBd39f6d3d90c
import Derived.Test.YtdpibehpmghghaaDoorBd73ff3eced1
/- The walk of graph.Parse. -/
namespace Go.Proofs.YtdpibehpmghghaaDoor
open Go.RowKit

theorem pieces_single {c : UInt8} {l p : List UInt8} (h : piecesB c l = [p]) : p = l := by
  have := join_pieces c l
  rw [h] at this
  simpa [joinB] using this
theorem pieces_short (c : UInt8) : ∀ (l : List UInt8), (∀ x, x ∈ piecesB c l → x.length ≤ l.length) ∧ (piecesB c l).length ≤ l.length + 1
  | [] => ⟨fun x h => by simp [piecesB] at h; simp [h], by simp [piecesB]⟩
  | b :: l => by
    obtain ⟨h1, h2⟩ := pieces_short c l
    obtain ⟨p, ps, hp⟩ := pieces_form c l
    by_cases hb : b = c
    · subst hb
      rw [pieces_cons_hit]
      refine ⟨fun x hx => ?_, by simp only [List.length_cons]; omega⟩
      rcases List.mem_cons.1 hx with rfl | hx
      · simp
      · have := h1 x hx; simp only [List.length_cons]; omega
    · rw [pieces_cons_miss hb hp]
      rw [hp] at h1 h2
      refine ⟨fun x hx => ?_, by simp only [List.length_cons] at h2 ⊢; omega⟩
      rcases List.mem_cons.1 hx with rfl | hx
      · have := h1 p (by simp); simp only [List.length_cons]; omega
      · have := h1 x (by simp [hx]); simp only [List.length_cons]; omega
theorem pieces_two (c : UInt8) (l : List UInt8) : piecesB c l = [l] ∨ ∃ p q ps, piecesB c l = p :: q :: ps := by
  obtain ⟨p, ps, h⟩ := pieces_form c l
  cases ps with
  | nil => left; rw [h, pieces_single h]
  | cons q ps => exact .inr ⟨p, q, ps, h⟩
def strOf (v : Value) : Nat := match v with | .string b => b.size | _ => 0
/-- What Parse tells. -/
def ParseOut (r : GraphD × Int × Int) (w : World) (e : Ending) (w' : World) : Prop := ∃ A c A' c', e = .returned (.tuple #[gV A c A' c' r.1, .int .i64 r.2.1, .int .i64 r.2.2]) ∧ GraphAt w' A c A' c' r.1 ∧ Below w.heap.size w w'
theorem noG_at (w : World) : GraphAt w none 0 none 0 noG := ⟨by simp [I64], by simp, by simp [maxLen], by simp, by simp [maxLen], SlAt.nil, SlAt.nil⟩
theorem gOf_v {A A' : Option Addr} {c c' : Nat} {h : Int} {lv : List IvlD} {items : List EItem} : gV A c A' c' (gOf h lv items) = .agg #[.int .i64 h, .slice A lv.length c, .slice A' items.length c'] := by
  unfold gV gOf
  rw [List.length_map]
set_option maxRecDepth 100000 in
set_option maxHeartbeats 16000000 in
theorem parse_any (l : List UInt8) (w : World) (hl : l.length ≤ 9223372036854775807) (hm : MaxL w) : Calls Tryd.prog 17 #[.string (bs l)] w (ParseOut (parseD l) w) := by
  have hsz := bs_size l
  by_cases h1 : 8192 < l.length
  case pos =>
    have HP : Hid (parseD l = (noG, 0, 2)) := Lib.hid (by unfold parseD; rw [if_pos h1])
    have hd : decide ((l.length : Int) > 8192) = true := by simp; omega
    rw [HP.out]
    have B0 := Blk.new w 25 #[.int .i64 0, .slice none 0 0, .slice none 0 0]
    obtain ⟨c1, c2, c3⟩ := B0.facts
    clear h1 hsz
    go_enter Tryd.func17, Tryd.ntmps17
    go_wp2_with fail
    refine bodyPost_ret (v := .tuple #[gV none 0 none 0 noG, .int .i64 0, .int .i64 2]) (by simp [results, Tryd.results17, go_sem, c1]) rfl ?_
    exact ⟨none, 0, none, 0, rfl, noG_at _, by go_grown⟩
  have HP : Hid (parseD l = readOut 0 noG (piecesB 10 l)) := Lib.hid (by unfold parseD; rw [if_neg h1])
  have hd : decide ((l.length : Int) > 8192) = false := by simp; omega
  have hl8 : l.length ≤ 8192 := by omega
  have HM := Lib.hid hm
  clear h1 hsz hl hm
  go_enter Tryd.func17, Tryd.ntmps17
  go_wp2_with fail
  go_loopw [0, 6] (fun s at_ wr => ∃ (i : Nat) (l' : List UInt8) (h : Int) (vl ve : Value) (lv : List IvlD) (items : List EItem), s = .string (bs l') ∧ at_ = .int .i64 ((i : Int) + 1) ∧ GMem wr (w.heap.size + 1) i h vl ve lv items ∧ Blk wr w.heap.size 25 #[.int .i64 0, .slice none 0 0, .slice none 0 0] ∧ Below w.heap.size w wr ∧ Hid (parseD l = readOut i (gOf h lv items) (piecesB 10 l')) ∧ i + l'.length ≤ 8192) (fun s _ _ => strOf s)
  case atStart => exact ⟨0, l, 0, _, _, [], [], rfl, rfl, GMem.new _ _ (by simp) 0, (Blk.new w _ _).alloc _, by go_grown, HP, by omega⟩
  case round =>
    obtain ⟨i, l', h, vl, ve, lv, items, rfl, rfl, M, BR, hb, HI, hil⟩ := hrel
    obtain ⟨A, cA, A', cA', rfl, rfl, hG⟩ := M.at_
    by_cases hend : 0 < i ∧ l' = []
    case pos =>
      obtain ⟨hi0, rfl⟩ := hend
      have hq : (((i : Int) + 1) == 1) = false := by simp; omega
      have HE : Hid (parseD l = finG (gOf h lv items)) := Lib.hid (by rw [HI.out]; exact readOut_end hi0)
      obtain ⟨p1, p2, p3⟩ := M.gr.facts
      clear HI
      go_wp2_with fail
      have hck := check_any A A' cA cA' (gOf h lv items) wr hG
      rw [gOf_v] at hck
      refine hck.mono ?_
      clear hck
      rintro e w5 ⟨rfl, hb5⟩
      have hbw := ext_trans hb hb5
      obtain ⟨c1, c2, c3⟩ := (BR.ext hb5).facts
      obtain ⟨p1, p2, p3⟩ := (M.gr.ext hb5).facts
      have hG5 := hG.ext hb5
      by_cases h0 : graphErr (gOf h lv items) = 0
      · have HF : Hid (parseD l = (gOf h lv items, 0, 0)) := Lib.hid (by rw [HE.out]; unfold finG; rw [if_pos h0])
        rw [h0]
        clear h0 HE
        go_wp2_with fail
        refine bodyPost_ret (v := .tuple #[.agg #[.int .i64 h, .slice A lv.length cA, .slice A' items.length cA'], .int .i64 0, .int .i64 0]) (by simp [results, Tryd.results17, go_sem, c1]) rfl ?_
        rw [HF.out]
        exact ⟨A, cA, A', cA', by rw [gOf_v], (M.ext hb5).told (BR.ext hb5) _ _ _, ((hbw.setCell (Nat.le_refl _) _).setCell (Nat.le_refl _) _).setCell (Nat.le_refl _) _⟩
      · have HF : Hid (parseD l = (noG, 0, graphErr (gOf h lv items))) := Lib.hid (by rw [HE.out]; unfold finG; rw [if_neg h0])
        have hn : (graphErr (gOf h lv items) != 0) = true := by simp [h0]
        clear h0 HE
        obtain ⟨er, her⟩ : ∃ er, graphErr (gOf h lv items) = er := ⟨_, rfl⟩
        rw [her] at hn HF ⊢
        clear her
        go_wp2_with fail
        refine bodyPost_ret (v := .tuple #[gV none 0 none 0 noG, .int .i64 0, .int .i64 er]) (by simp [results, Tryd.results17, go_sem, c1]) rfl ?_
        rw [HF.out]
        exact ⟨none, 0, none, 0, rfl, noG_at _, ((hbw.setCell (Nat.le_refl _) _).setCell (Nat.le_refl _) _).setCell (Nat.le_refl _) _⟩
    case neg =>
      obtain ⟨f, hf1, hf2, hf3⟩ : ∃ f, ((((i : Int) + 1) == 1) = f) ∧ decide (i = 0) = f ∧ (f = false → (!l'.isEmpty) = true) := ⟨decide (i = 0), by
        rw [Bool.eq_iff_iff]; simp; omega, rfl, fun hf => by
        simp at hf
        cases l' with
        | nil => exact absurd ⟨by omega, rfl⟩ hend
        | cons x r => rfl⟩
      have HM5 := Lib.hid (HM.out.ext hb)
      have hcut := cut_any 10 l' wr (by omega) HM5.out
      obtain ⟨c1, c2, c3⟩ := BR.facts
      rcases pieces_two 10 l' with hp | ⟨p, q, ps, hp⟩
      · have HF : Hid (parseD l = (noG, (i : Int) + 1, 3)) := Lib.hid (by rw [HI.out, hp]; exact readOut_cut hend)
        rw [cut_none hp] at hcut
        clear hp HI hend hf2 M hG
        cases f
        · have hf4 := hf3 rfl
          clear hf3
          go_wp2_with fail
          refine hcut.mono ?_
          rintro e w5 ⟨rfl, k, rfl⟩
          go_wp2_with fail
          refine bodyPost_ret (v := .tuple #[gV none 0 none 0 noG, .int .i64 ((i : Int) + 1), .int .i64 3]) (by simp [results, Tryd.results17, go_sem, c1]) rfl ?_
          rw [HF.out]
          exact ⟨none, 0, none, 0, rfl, noG_at _, (((below_drewN hb k).setCell (Nat.le_refl _) _).setCell (Nat.le_refl _) _).setCell (Nat.le_refl _) _⟩
        · clear hf3
          go_wp2_with fail
          refine hcut.mono ?_
          rintro e w5 ⟨rfl, k, rfl⟩
          go_wp2_with fail
          refine bodyPost_ret (v := .tuple #[gV none 0 none 0 noG, .int .i64 ((i : Int) + 1), .int .i64 3]) (by simp [results, Tryd.results17, go_sem, c1]) rfl ?_
          rw [HF.out]
          exact ⟨none, 0, none, 0, rfl, noG_at _, (((below_drewN hb k).setCell (Nat.le_refl _) _).setCell (Nat.le_refl _) _).setCell (Nat.le_refl _) _⟩
      · obtain ⟨r, hc, hr, hrl⟩ := cut_some hp
        obtain ⟨v, ws, hv⟩ := pieces_form 32 p
        have hpl : p.length ≤ l'.length := (pieces_short 10 l').1 p (by rw [hp]; simp)
        have hps := pieces_short 32 p
        rw [hv] at hps
        simp only [List.length_cons] at hps
        have hsp := fun W (h : MaxL W) => split_any 32 p W (by omega) h
        rw [hv] at hsp
        simp only [List.length_cons] at hsp
        rw [hc] at hcut
        have HSP := Lib.hid hsp
        have HWS : Hid (∀ x, x ∈ ws → x.length ≤ 100000) := Lib.hid fun x hx => by have := hps.1 x (by simp [hx]); omega
        have hwl : ws.length ≤ 100000 := by omega
        have HN : Hid (readOut i (gOf h lv items) (piecesB 10 l') = match stepG (gOf h lv items) f (v :: ws) with | none => (noG, (i : Int) + 1, 3) | some g' => readOut (i + 1) g' (piecesB 10 r)) := Lib.hid (by
          rw [hp, hr, readOut, hf2, hv]
          cases stepG (gOf h lv items) f (v :: ws) <;> rfl)
        obtain ⟨st, hst⟩ : ∃ st, stepG (gOf h lv items) f (v :: ws) = st := ⟨_, rfl⟩
        have HST := Lib.hid hst
        rw [hst] at HN
        have HPM := Lib.hid M
        have HBR := Lib.hid BR
        clear hp hr hc hv hps hsp hpl hst hend hf2 M hG BR
        have body : ∀ W : World, True := fun _ => trivial
        clear body
        cases f
        all_goals
          try have hf4 := hf3 rfl
          clear hf3
          go_wp2_with fail
          refine hcut.mono ?_
          rintro e w5 ⟨rfl, k, rfl⟩
          clear hcut c1 c2 c3
          have hb5 := below_drewN hb k
          have M5 := HPM.out.drewN k
          have B5 := HBR.out.drewN k
          go_wp2_with fail
          refine (HSP.out _ (HM.out.ext hb5)).mono ?_
          rintro e w6 ⟨rfl, hS6, hb6⟩
          have M6 := M5.ext hb6
          have B6 := B5.ext hb6
          have hbw := ext_trans hb5 hb6
          clear hb6 M5 B5
          go_wp2_with fail
          refine (read_any (w.heap.size + 1) i h _ _ lv items _ 0 _ v ws _ w6 M6 hS6 hwl HWS.out (by omega)).mono ?_
          rintro e w7 ⟨hb7, hr7⟩
          rw [HST.out] at hr7
          have hz6 := hbw.size
          have hbw7 := hbw.trans (hb7.mono (Nat.le_succ _))
          have B7 := B6.below hb7 (Nat.lt_succ_self _)
          obtain ⟨c1, c2, c3⟩ := B7.facts
          clear B6 hS6 M6
          cases st with
          | none =>
            have HF : Hid (parseD l = (noG, (i : Int) + 1, 3)) := Lib.hid (by rw [HI.out, HN.out])
            simp only at hr7
            subst hr7
            go_wp2_with fail
            refine bodyPost_ret (v := .tuple #[gV none 0 none 0 noG, .int .i64 ((i : Int) + 1), .int .i64 3]) (by simp [results, Tryd.results17, go_sem, c1]) rfl ?_
            rw [HF.out]
            exact ⟨none, 0, none, 0, rfl, noG_at _, ((hbw7.setCell (Nat.le_refl _) _).setCell (Nat.le_refl _) _).setCell (Nat.le_refl _) _⟩
          | some g' =>
            simp only at hr7
            obtain ⟨rfl, h', vl', ve', lv', items', M7, rfl⟩ := hr7
            have HF : Hid (parseD l = readOut (i + 1) (gOf h' lv' items') (piecesB 10 r)) := Lib.hid (by rw [HI.out, HN.out])
            clear hb7 c1 c2 c3
            go_wp2_with fail
            go_roundw
            case rel => exact ⟨i + 1, r, h', vl', ve', lv', items', rfl, by go_num, M7, B7, hbw7, HF, by omega⟩
            case measure => simp [strOf, bs_size]; omega
end Go.Proofs.YtdpibehpmghghaaDoor
/- The walk of the law GraphBack. -/
namespace Go.Proofs.YtdpibehpmghghaaDoor
open Go.RowKit

def litG : GraphD := ⟨5, [⟨0, 5⟩], []⟩
theorem lit_err : graphErr litG = 0 := by decide
theorem lit_text : graphT litG = [116, 105, 109, 101, 32, 53, 10, 118, 101, 114, 116, 101, 120, 32, 48, 32, 53, 10] := by
  have e5 : Lib.itoa 5 = [53] := by rw [itoa_nat (by decide), Lib.decDigits, dif_pos (by decide)]; rfl
  have e0 : Lib.itoa 0 = [48] := by rw [itoa_nat (by decide), Lib.decDigits, dif_pos (by decide)]; rfl
  simp [graphT, litG, lineT, numsT, vertexT, wTime, wVertex, e5, e0]
theorem lit_at (w : World) : GraphAt (w.alloc (.cells #[.int .i64 0, .int .i64 5] 49)) (some ⟨w.heap.size, 0, none⟩) 1 none 0 litG := by
  have B := Blk.new w 49 #[.int .i64 0, .int .i64 5]
  refine ⟨by simp [I64, litG], by simp [litG], by simp [maxLen], by simp [litG], by simp [maxLen], ⟨w.heap.size, 0, fun i x hx => ?_⟩, SlAt.nil⟩
  match i, hx with
  | 0, hx =>
    obtain rfl : (⟨0, 5⟩ : IvlD) = x := by simpa [litG] using hx
    exact ⟨rfl, B.lt, ⟨by unfold cellIs; rw [B.cell]; rfl, by unfold cellIs; rw [B.cell]; rfl⟩, by simp [I64], by simp [I64]⟩
  | i + 1, hx => simp [litG] at hx
set_option maxRecDepth 100000 in
set_option maxHeartbeats 4000000 in
/-- The second half: what is read is printed as it stood. -/
theorem back_text (l : List UInt8) (r : GraphD × Int × Int) (hr : parseD l = r) : (r.2.2 = 0 → r.2.1 = 0 ∧ graphErr r.1 = 0 ∧ graphT r.1 = l) ∧ (r.2.2 ≠ 0 → r.1 = noG ∧ 0 ≤ r.2.1) := by
  obtain ⟨g, n, er⟩ := r
  refine ⟨fun h => ?_, fun h => parse_err hr h⟩
  simp only at h
  subst h
  exact print_parse hr
set_option maxRecDepth 100000 in
set_option maxHeartbeats 8000000 in
theorem graphBack_calls (A A' : Option Addr) (c c' : Nat) (g : GraphD) {w : World} (hG : GraphAt w A c A' c' g) (l : List UInt8) (hl : l.length ≤ 9223372036854775807) (ht : ITab w) (hm : MaxL w) :
    Calls Tryd.prog 5 #[gV A c A' c' g, .string (bs l)] w fun e w' => e = .returned (.bool true) ∧ Below w.heap.size w w' := by
  have HT := Lib.hid ht; have HM := Lib.hid hm
  have HL : Hid (∀ W : World, ITab W → GraphAt W (some ⟨w.heap.size + 1, 0, none⟩) 1 none 0 litG → Calls Tryd.prog 10 #[.agg #[.int .i64 5, .slice (some ⟨w.heap.size + 1, 0, none⟩) 1 1, .slice none 0 0]] W fun e w' => e = .returned (.tuple #[.string (bs [116, 105, 109, 101, 32, 53, 10, 118, 101, 114, 116, 101, 120, 32, 48, 32, 53, 10]), .int .i64 0]) ∧ Below W.heap.size W w') := Lib.hid fun W hT hG => by
    have := print_any (some ⟨w.heap.size + 1, 0, none⟩) none 1 0 litG W hG hT
    rw [if_pos lit_err, lit_err, lit_text] at this
    exact this
  obtain ⟨⟨x, n, er⟩, hr⟩ : ∃ r, parseD l = r := ⟨_, rfl⟩
  have HB := Lib.hid (back_text l _ hr)
  have HQ : Hid (∀ W (hm : MaxL W), Calls Tryd.prog 17 #[.string (bs l)] W (ParseOut (x, n, er) W)) := Lib.hid fun W hm => by
    have := parse_any l W hl hm
    rwa [hr] at this
  have HPX : Hid (er = 0 → ∀ (W : World) (A : Option Addr) (c : Nat) (A' : Option Addr) (c' : Nat), ITab W → GraphAt W A c A' c' x → Calls Tryd.prog 10 #[gV A c A' c' x] W fun e w' => e = .returned (.tuple #[.string (bs l), .int .i64 0]) ∧ Below W.heap.size W w') := Lib.hid fun he W A c A' c' hT hG => by
    have := print_any A A' c c' x W hG hT
    obtain ⟨_, h2, h3⟩ := HB.out.1 he
    simp only at h2 h3
    rwa [if_pos h2, h2, h3] at this
  have HPG := Lib.hid fun W (hT : ITab W) (hG : GraphAt W A c A' c' g) => print_any A A' c c' g W hG hT
  have HGV : Hid (graphErr g = 0 → ∀ W (hm : MaxL W), Calls Tryd.prog 17 #[.string (bs (graphT g))] W (ParseOut (g, 0, 0) W)) := Lib.hid fun h0 W hm => by
    have hV := valid_of h0
    have := parse_any (graphT g) W (by have := graphT_len hV; omega) hm
    rwa [parse_print hV h0] at this
  obtain ⟨tx, htx⟩ : ∃ tx, graphT g = tx := ⟨_, rfl⟩
  rw [htx] at HPG HGV
  obtain ⟨ge, hge⟩ : ∃ ge, graphErr g = ge := ⟨_, rfl⟩
  rw [hge] at HPG HGV
  have HG := Lib.hid hG
  clear ht hm hr hl htx hge hG
  go_enter Tryd.func5, Tryd.ntmps5
  go_wp2_with fail
  have hb0 : Below w.heap.size w ((w.alloc (.cells (gC A c A' c' g) 25)).alloc (.cells #[.int .i64 0, .int .i64 5] 49)) := ext_alloc (ext_alloc (Below.refl _ w) _) _
  refine (HL.out _ (HT.out.ext hb0) (by have := lit_at (w.alloc (.cells (gC A c A' c' g) 25)); simpa using this)).mono ?_
  rintro e w1 ⟨rfl, hb1⟩
  obtain ⟨B0, c1, c2, c3⟩ := ((Blk.new w 25 (gC A c A' c' g)).alloc (.cells #[.int .i64 0, .int .i64 5] 49)).go hb1
  have hbw := ext_trans hb0 hb1
  clear hb1 hb0
  go_wp2_with fail
  refine (HPG.out _ (HT.out.ext hbw) (HG.out.ext hbw)).mono ?_
  rintro e w2 ⟨rfl, hb2⟩
  obtain ⟨B0, c1, c2, c3⟩ := B0.go hb2
  have hbw := ext_trans hbw hb2
  clear hb2
  by_cases h0 : ge = 0
  case pos =>
    subst h0
    have hgv := HGV.out rfl
    have HGW := Lib.hid hgv
    clear hgv
    rw [if_pos rfl]
    go_wp2_with fail
    refine (HGW.out _ (HM.out.ext hbw)).mono ?_
    rintro e w3 ⟨A3, d3, A3', d3', rfl, hG3, hb3⟩
    have B0 := B0.ext hb3
    have hbw := ext_trans hbw hb3
    obtain ⟨c1, c2, c3⟩ := (B0.alloc (.cells (gC A3 d3 A3' d3' g) 25)).facts
    have hG3 := hG3.ext (ext_alloc (Below.refl _ w3) (.cells (gC A3 d3 A3' d3' g) 25))
    obtain ⟨p1, p2, p3⟩ := (Blk.new w3 25 (gC A3 d3 A3' d3' g)).facts
    clear hb3
    go_wp2_with fail
    refine (sameGraph_any _ _ _ _ _ _ _ _ g _ hG3 (HG.out.ext (ext_alloc hbw _))).mono ?_
    rintro e w4 ⟨rfl, hb4⟩
    have hbw := ext_trans (ext_alloc hbw (.cells (gC A3 d3 A3' d3' g) 25)) hb4
    clear hb4 c1 c2 c3 p1 p2 p3
    go_wp2_with fail
    refine (HQ.out _ (HM.out.ext hbw)).mono ?_
    rintro e w3 ⟨A3, d3, A3', d3', rfl, hG3, hb3⟩
    have hbw := ext_trans hbw hb3
    have hbw2 := ext_alloc hbw (.cells (gC A3 d3 A3' d3' x) 25)
    have hG4 := hG3.ext (ext_alloc (Below.refl _ w3) (.cells (gC A3 d3 A3' d3' x) 25))
    obtain ⟨p1, p2, p3⟩ := (Blk.new w3 25 (gC A3 d3 A3' d3' x)).facts
    by_cases he : er = 0
    · subst he
      have hp := HPX.out rfl
      have HPP := Lib.hid hp
      clear hp
      go_wp2_with fail
      refine (HPP.out _ _ _ _ _ (HT.out.ext hbw2) hG4).mono ?_
      rintro e w4 ⟨rfl, hb4⟩
      go_wp2_with fail
      go_ret
      exact ⟨by simp, ext_trans hbw2 hb4⟩
    · have hn : (er != 0) = true := by simpa using he
      obtain ⟨rfl, h0⟩ := HB.out.2 he
      have h0 : 0 ≤ n := h0
      have hd : decide (n ≥ 0) = true := by simp; omega
      clear he
      go_wp2_with fail
      go_ret
      exact ⟨rfl, hbw2⟩
  case neg =>
    have hn0 : (ge == 0) = false := by simpa using h0
    rw [if_neg h0]
    clear h0 c1 c2 c3
    go_wp2_with fail
    refine (HQ.out _ (HM.out.ext hbw)).mono ?_
    rintro e w3 ⟨A3, d3, A3', d3', rfl, hG3, hb3⟩
    have hbw := ext_trans hbw hb3
    have hbw2 := ext_alloc hbw (.cells (gC A3 d3 A3' d3' x) 25)
    have hG4 := hG3.ext (ext_alloc (Below.refl _ w3) (.cells (gC A3 d3 A3' d3' x) 25))
    obtain ⟨p1, p2, p3⟩ := (Blk.new w3 25 (gC A3 d3 A3' d3' x)).facts
    by_cases he : er = 0
    · subst he
      have hp := HPX.out rfl
      have HPP := Lib.hid hp
      clear hp
      go_wp2_with fail
      refine (HPP.out _ _ _ _ _ (HT.out.ext hbw2) hG4).mono ?_
      rintro e w4 ⟨rfl, hb4⟩
      go_wp2_with fail
      go_ret
      exact ⟨by simp, ext_trans hbw2 hb4⟩
    · have hn : (er != 0) = true := by simpa using he
      obtain ⟨rfl, h0⟩ := HB.out.2 he
      have h0 : 0 ≤ n := h0
      have hd : decide (n ≥ 0) = true := by simp; omega
      clear he
      go_wp2_with fail
      go_ret
      exact ⟨rfl, hbw2⟩
end Go.Proofs.YtdpibehpmghghaaDoor
