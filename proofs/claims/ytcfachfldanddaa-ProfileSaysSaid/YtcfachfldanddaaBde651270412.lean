/- One text: LawProfSays. -/
import Derived.Test.YtcfachfldanddaaBd01c81254c1
import Derived.Test.YtcfachfldanddaaBda1ba12eadf
import Derived.Test.YtcfachfldanddaaBd712578e31d
/- The law ProfileSays (printed by genprofsays.py). -/
namespace Go.Proofs.Ytcfachfldanddaa
open Go.RowKit Go.Shelf

theorem RowsOk.eq {g : GraphD} {s e : Int} {k : Nat} {r q : List (List Bool)} (h : RowsOk g s e k r) (h' : RowsOk g s e k q) : r = q := by
  refine List.ext_getElem? fun i => ?_
  by_cases hi : i < k
  · obtain ⟨x, hx⟩ := get_lt (show i < r.length by rw [h.1]; exact hi)
    obtain ⟨y, hy⟩ := get_lt (show i < q.length by rw [h'.1]; exact hi)
    obtain ⟨l, h1, rfl⟩ := h.2 i x hx
    obtain ⟨l', h2, rfl⟩ := h'.2 i y hy
    rw [hx, hy, h1.eq h2]
  · rw [List.getElem?_eq_none (by rw [h.1]; omega), List.getElem?_eq_none (by rw [h'.1]; omega)]
theorem RowsOk.long {g : GraphD} {s e : Int} {k : Nat} {r : List (List Bool)} (h : RowsOk g s e k r) : ∀ x, x ∈ r → x.length = g.lives.length := fun x hx => by
  obtain ⟨i, hi⟩ := List.getElem?_of_mem hx
  obtain ⟨l, h1, rfl⟩ := h.2 i x hi
  simp [markRow, h1.1]
theorem OfSay.is {g : GraphD} {v u er : Int} {m out : List PieceD} (h : OfSay g v u er m) (h0 : graphErr g = 0) (hr : (0 ≤ v ∧ v < g.lives.length) ∧ 0 ≤ u ∧ u < g.lives.length) (ho : MapL out ∧ ∀ t, atM out t = profF g v u t) : er = 0 ∧ m = out := by
  unfold OfSay at h
  rw [if_pos h0, if_pos hr] at h
  exact ⟨h.1, map_unique h.2.1 ho.1 fun t => by rw [h.2.2.1, ho.2]⟩
theorem OfSay.far {g : GraphD} {v u er : Int} {m : List PieceD} (h : OfSay g v u er m) (h0 : graphErr g = 0) (hr : ¬ ((0 ≤ v ∧ v < g.lives.length) ∧ 0 ≤ u ∧ u < g.lives.length)) : er = 4 ∧ m = [] := by
  unfold OfSay at h
  rwa [if_pos h0, if_neg hr] at h
theorem OfSay.bad {g : GraphD} {v u er : Int} {m : List PieceD} (h : OfSay g v u er m) (h0 : graphErr g ≠ 0) : er = graphErr g ∧ m = [] := by
  unfold OfSay at h
  rwa [if_neg h0] at h
theorem items_ext {n : Nat} {w w' : World} {A : Option Addr} {l : List (Option Addr × Nat)} (h : SlAt (RItem n) 1 w A l) (hb : Below w.heap.size w w') : SlAt (RItem n) 1 w' A l := h.ext (fun _ _ _ _ _ hb hlt h => cellIs.ext hb hlt h) hb
theorem profSays1_any (A B : Option Addr) (c d : Nat) (l : List Bool) (n : Nat) (w : World) (hA : SlAt RBool 1 w A l) (hB : SlAt RBool 1 w B l) (hl : l.length ≤ maxLen) (hn : l.length = n) :
    Calls Try.prog 61 #[.slice A n c, .slice B n d] w fun e w' => e = .returned (.bool true) ∧ Below w.heap.size w w' := by
  go_enter Try.func61, Try.ntmps61
  go_wp2_with fail
  refine (equalBoolsSame_any A B c d l n n w hA hB hl hn hn).mono ?_
  rintro e w1 ⟨rfl, hb1⟩
  go_wp2_with fail
  go_ret
  exact ⟨rfl, hb1⟩
set_option maxRecDepth 100000 in
set_option maxHeartbeats 2000000 in
theorem equalRows_any (A B : Option Addr) (c d n N : Nat) (i1 i2 : List (Option Addr × Nat)) (rs : List (List Bool)) (w : World) (hA : SlAt (RItem n) 1 w A i1) (hB : SlAt (RItem n) 1 w B i2) (h1 : RowsAt w i1 rs) (h2 : RowsAt w i2 rs)
    (hn : ∀ r, r ∈ rs → r.length = n) (hn12 : n ≤ 12) (hN : rs.length = N) (hN2 : N ≤ 12) :
    Calls Try.prog 60 #[.slice A N c, .slice B N d, .func (.func 61) #[] #[]] w fun e w' => e = .returned (.bool true) ∧ Below w.heap.size w w' := by
  have H1 := Lib.hid h1; have H2 := Lib.hid h2; have HA := Lib.hid hA; have HB := Lib.hid hB; have HN := Lib.hid hn; have HNN := Lib.hid hN
  clear h1 h2 hA hB hn hN
  go_enter Try.func60, Try.ntmps60
  go_wp2_with fail
  go_loopw [17] (fun x wr => ∃ k : Nat, k ≤ N ∧ x = .int .i64 k ∧ Below w.heap.size w wr) (fun x _ => N - (intOf x).toNat)
  case atStart => exact ⟨0, Nat.zero_le _, rfl, Below.refl _ _⟩
  case round =>
    obtain ⟨k, hk, rfl, hb⟩ := hrel
    by_cases hlt : k < N
    case neg =>
      obtain rfl : k = N := by omega
      go_wp2_with fail
      go_ret
      exact ⟨rfl, hb⟩
    case pos =>
      obtain ⟨r, hr⟩ := get_lt (show k < rs.length by rw [HNN.out]; exact hlt)
      obtain ⟨p, hp⟩ := get_lt (show k < i1.length by rw [H1.out.1, HNN.out]; exact hlt)
      obtain ⟨q, hq⟩ := get_lt (show k < i2.length by rw [H2.out.1, HNN.out]; exact hlt)
      obtain ⟨b1, o1, hS1⟩ := HA.out
      obtain ⟨b2, o2, hS2⟩ := HB.out
      obtain ⟨rfl, hl1, hc1⟩ := hS1 k p hp
      obtain ⟨rfl, hl2, hc2⟩ := hS2 k q hq
      have x1 : wr.cell? ⟨b1, o1 + k, none⟩ = some (.slice p.1 n p.2) := by have h : cellIs w b1 (o1 + k * 1) _ := hc1; rw [Nat.mul_one] at h; exact (hb.cell (p := ⟨b1, o1 + k, none⟩) hl1).trans h
      have x2 : wr.cell? ⟨b2, o2 + k, none⟩ = some (.slice q.1 n q.2) := by have h : cellIs w b2 (o2 + k * 1) _ := hc2; rw [Nat.mul_one] at h; exact (hb.cell (p := ⟨b2, o2 + k, none⟩) hl2).trans h
      have hrn := HN.out r (List.mem_of_getElem? hr)
      have g1 := ((H1.out.ext hb).2 k p r hp hr).slAt
      have g2 := ((H2.out.ext hb).2 k q r hq hr).slAt
      have hcl := profSays1_any p.1 q.1 p.2 q.2 r n wr g1 g2 (by rw [hrn]; unfold maxLen; omega) hrn
      clear hS1 hS2 hr hp hq hc1 hc2 hrn g1 g2
      go_wp2_with fail
      refine hcl.mono ?_
      rintro e w1 ⟨rfl, hb1⟩
      go_wp2_with fail
      go_roundw
      case rel => exact ⟨k + 1, by omega, by go_num, ext_trans hb hb1⟩
      case measure => simp [intOf]; omega

set_option maxRecDepth 100000 in
set_option maxHeartbeats 16000000 in
theorem profileSays_calls (A A' : Option Addr) (c c' : Nat) (g : GraphD) {w : World} (hG : GraphAt w A c A' c' g) (v : Int) (_ : I64 v) (u : Int) (_ : I64 u) (s : Int) (_ : I64 s) (en : Int) (_ : I64 en) :
    Calls Try.prog 14 #[gV A c A' c' g, .int .i64 v, .int .i64 u, .int .i64 s, .int .i64 en] w fun e w' => e = .returned (.bool true) ∧ Below w.heap.size w w' := by
  have m1 : g.lives.length ≤ 9223372036854775807 := Nat.le_trans hG.lc hG.cm
  have hnw : IntKind.i64.wrap ((g.lives.length : Int) - 1) = (g.lives.length : Int) - 1 := IntWalk.i64_in _ (by omega)
  have HG := Lib.hid hG
  clear hG
  by_cases h0 : graphErr g = 0
  case neg =>
    have hn : (graphErr g == 0) = false := by simp [h0]
    have HE : Hid (reachErr g s en = graphErr g) := Lib.hid (by unfold reachErr; rw [if_neg h0])
    have HZ : Hid (¬ reachErr g s en = 0) := Lib.hid (by rw [HE.out]; exact h0)
    have H0 := Lib.hid h0
    clear h0
    go_enter Try.func14, Try.ntmps14
    go_wp2_with fail
    refine (refGraph_any _ _ _ _ g _ (HG.out.ext (by go_grown))).mono ?_
    rintro e w1 ⟨rfl, hb1⟩
    have B0 := (Blk.new w 78 (gC A c A' c' g)).ext hb1
    have hbw : Below w.heap.size w w1 := ext_trans (by go_grown) hb1
    obtain ⟨c1, c2, c3⟩ := B0.facts
    clear hb1
    go_wp2_with fail
    refine (profOf_any A A' c c' g v u _ (HG.out.ext hbw)).mono ?_
    rintro e w2 ⟨er, m, A2, c2', HO, rfl, hI, hb2⟩
    obtain ⟨rfl, rfl⟩ := HO.out.bad H0.out
    have B0 := B0.ext hb2
    have hbw := ext_trans hbw hb2
    clear c1 c2 c3 hb2
    obtain ⟨c1, c2, c3⟩ := B0.facts
    go_wp2_with fail
    refine (reach_any A A' c c' g s en _ (HG.out.ext hbw)).mono ?_
    rintro e w3 ⟨A3, c3', items, rs, rfl, hS3, hR3, HK, HN, hm3, hb3⟩
    obtain rfl := HN.out HZ.out
    rw [HE.out]
    have hI := hI.ext hb3
    have hbw := ext_trans hbw hb3
    clear hb3
    go_wp2_with fail
    refine (equalPiecesSame A2 none c2' 0 [] _ hI PiecesAt.nil).mono ?_
    rintro e w4 ⟨rfl, hb4⟩
    have hbw := ext_trans hbw hb4
    have hS3 := SlAt.nil (R := RItem 0) (sz := 1) (w := w4) (A := A3)
    go_wp2_with fail
    refine (equalRows_any A3 none c3' 0 0 0 [] [] [] _ hS3 SlAt.nil RowsAt.nil RowsAt.nil (fun r h => by simp at h) (by decide) rfl (by decide)).mono ?_
    rintro e w5 ⟨rfl, hb5⟩
    go_wp2_with fail
    go_ret
    exact ⟨by simp, ext_trans hbw hb5⟩
  have H0 := Lib.hid h0
  have hV := valid_of h0
  have hh1 := hV.h1
  have hhp := hV.h0
  have hn12 := hV.nl
  have hhw : IntKind.i64.wrap (g.h - 1) = g.h - 1 := IntWalk.i64_in _ (by omega)
  obtain ⟨i0, hi, hz0, hz1, hz2⟩ := info_bool2
  obtain ⟨j0, hj, hy0, hy1, hy2⟩ := info_row2
  clear h0
  by_cases hr : (0 ≤ v ∧ v < g.lives.length) ∧ 0 ≤ u ∧ u < g.lives.length
  case pos =>
    have HR := Lib.hid hr
    have q1 : inB v 0 ((g.lives.length : Int) - 1) = true := by simp [inB]; omega
    have q2 : inB u 0 ((g.lives.length : Int) - 1) = true := by simp [inB]; omega
    clear hr
    by_cases hs : (0 ≤ s ∧ s < g.h) ∧ 0 ≤ en ∧ en < g.h
    case pos =>
      have HS := Lib.hid hs.1
      have HE : Hid (reachErr g s en = 0) := Lib.hid (by unfold reachErr; rw [if_pos H0.out, if_pos hs])
      have q3 : inB s 0 (g.h - 1) = true := by simp [inB]; omega
      have q4 : inB en 0 (g.h - 1) = true := by simp [inB]; omega
      clear hs
      go_enter Try.func14, Try.ntmps14
      go_wp2_with fail
      refine (refGraph_any _ _ _ _ g _ (HG.out.ext (by go_grown))).mono ?_
      rw [H0.out]
      rintro e w1 ⟨rfl, hb1⟩
      have B0 := (Blk.new w 78 (gC A c A' c' g)).ext hb1
      have hbw : Below w.heap.size w w1 := ext_trans (by go_grown) hb1
      have hzw : w.heap.size + 1 ≤ w1.heap.size := B0.lt
      obtain ⟨c1, c2, c3⟩ := B0.facts
      clear hb1
      go_wp2_with fail
      refine (in_any _ _ _ _).mono ?_
      rw [q1]
      rintro e w2 ⟨rfl, rfl⟩
      go_wp2_with fail
      refine (in_any _ _ _ _).mono ?_
      rw [q2]
      rintro e w2 ⟨rfl, rfl⟩
      go_wp2_with fail
      refine (refProfile_any A A' c c' g v u _ (HG.out.ext hbw) H0.out HR.out).mono ?_
      rintro e w2 ⟨out, A2, c2', HOUT, rfl, hI2, hb2⟩
      have B0 := B0.ext hb2
      have hbw := ext_trans hbw hb2
      have hzw := Nat.le_trans hzw hb2.size
      clear c1 c2 c3 hb2
      obtain ⟨c1, c2, c3⟩ := B0.facts
      obtain ⟨w1, hw1⟩ : ∃ x, x = w2 := ⟨_, rfl⟩
      rw [← hw1] at B0 hbw hzw c1 c2 c3 hI2 ⊢
      clear hw1
      go_wp2_with fail
      refine (in_any _ _ _ _).mono ?_
      rw [q3]
      rintro e w3 ⟨rfl, rfl⟩
      go_wp2_with fail
      refine (in_any _ _ _ _).mono ?_
      rw [q4]
      rintro e w3 ⟨rfl, rfl⟩
      go_wp2_with fail
      go_loopw [14, 60] (fun o x wr => ∃ (k : Nat) (items : List (Option Addr × Nat)) (rs : List (List Bool)), k ≤ g.lives.length ∧ x = .int .i64 k ∧ Hid (RowsOk g s en k rs) ∧ Own (rowEnc g.lives.length) 1 wr w1.heap.size 89 o items ∧ RowsAt wr items rs ∧
        Blk wr w.heap.size 78 (gC A c A' c' g) ∧ Below w1.heap.size w1 wr) (fun _ x _ => g.lives.length - (intOf x).toNat)
      case atStart => exact ⟨0, [], [], Nat.zero_le _, rfl, Lib.hid RowsOk.zero, Own.nil, RowsAt.nil, B0, Below.refl _ _⟩
      case round =>
        clear B0 c1 c2 c3
        obtain ⟨k, ia, ra, hk, rfl, HRA, hown, hRa, B0, hb⟩ := hrel
        have hbr : Below w.heap.size w wr := ext_trans hbw hb
        have hzr : w.heap.size + 1 ≤ wr.heap.size := Nat.le_trans hzw hb.size
        obtain ⟨c1, c2, c3⟩ := B0.facts
        by_cases hlt : k < g.lives.length
        case neg =>
          obtain rfl : k = g.lives.length := by omega
          obtain ⟨Ao, co, rfl, hSa⟩ := own_items hown
          have hbw := hbr
          have hI2 := hI2.ext hb
          clear hbr hb hown hlt hk
          go_wp2_with fail
          refine (profOf_any A A' c c' g v u _ (HG.out.ext hbw)).mono ?_
          rintro e w5 ⟨er, m, Am, cm, HO, rfl, hI, hb5⟩
          obtain ⟨rfl, rfl⟩ := HO.out.is H0.out HR.out HOUT.out
          have hI2 := hI2.ext hb5
          have hSa := items_ext hSa hb5
          have hRa := hRa.ext hb5
          have B0 := B0.ext hb5
          have hbw := ext_trans hbw hb5
          clear c1 c2 c3 hb5
          obtain ⟨c1, c2, c3⟩ := B0.facts
          go_wp2_with fail
          refine (reach_any A A' c c' g s en _ (HG.out.ext hbw)).mono ?_
          rintro e w6 ⟨A3, c3', items, rs, rfl, hS3, hR3, HK, HN, hm3, hb6⟩
          rw [HE.out]
          obtain rfl := (HK.out HE.out).eq HRA.out
          have hSa := items_ext hSa hb6
          have hRa := hRa.ext hb6
          have hI := hI.ext hb6
          have hI2 := hI2.ext hb6
          have hbw := ext_trans hbw hb6
          clear hb6
          have hl1 : items.length = g.lives.length := by rw [hR3.1, HRA.out.1]
          have hl2 : ia.length = g.lives.length := by rw [hRa.1, HRA.out.1]
          rw [hl1, hl2]
          have HL1 := Lib.hid hl1
          clear hl1 hl2
          go_wp2_with fail
          refine (equalPiecesSame _ _ _ _ _ _ hI hI2).mono ?_
          rintro e w7 ⟨rfl, hb7⟩
          have hbw := ext_trans hbw hb7
          have hSa := items_ext hSa hb7
          have hRa := hRa.ext hb7
          have hS3 := items_ext hS3 hb7
          have hR3 := hR3.ext hb7
          go_wp2_with fail
          refine (equalRows_any _ _ _ _ g.lives.length g.lives.length items ia rs _ hS3 hSa hR3 hRa HRA.out.long hn12 HRA.out.1 hn12).mono ?_
          rintro e w8 ⟨rfl, hb8⟩
          go_wp2_with fail
          go_ret
          exact ⟨by simp, ext_trans hbw hb8⟩
        case pos =>
        have hil12 : ia.length ≤ 12 := by rw [hRa.1, HRA.out.1]; omega
        have HP : Hid (placeErr g k s = 0) := Lib.hid (place_ok hV (by omega) (by omega) HS.out.1 HS.out.2)
        go_wp2_with fail
        refine (refArrivals_any _ _ _ _ g k s _ (HG.out.ext hbr) HP.out).mono ?_
        rintro e w2 ⟨l, A1, d1, HL, rfl, hA1, hm1, hb2⟩
        have hn := HL.out.1
        rw [hn]
        have HN := Lib.hid hn
        have hown2 := hown.ext hb2
        have hrows2 := hRa.ext hb2
        have B02 := B0.ext hb2
        have hb2' : Below w1.heap.size w1 w2 := ext_trans hb hb2
        have hzr2 : w.heap.size + 1 ≤ w2.heap.size := Nat.le_trans hzr hb2.size
        clear hn hown hRa B0 hb hb2 c1 c2 c3 hbr hzr
        go_wp2_with fail
        go_loopw [17, 68] (fun o x wr => ∃ (j : Nat), j ≤ g.lives.length ∧ x = .int .i64 j ∧ Own boolEnc 1 wr w2.heap.size 4 o ((markRow en l).take j) ∧ Below w2.heap.size w2 wr) (fun _ x _ => g.lives.length - (intOf x).toNat)
        case atStart => exact ⟨0, Nat.zero_le _, rfl, Own.nil, Below.refl _ _⟩
        case round =>
          obtain ⟨j, hjk, rfl, hown, hb⟩ := hrel
          have hz2 : w2.heap.size ≤ wr.heap.size := hb.size
          by_cases hlt2 : j < g.lives.length
          case pos =>
            obtain ⟨b1, o1, rfl, hz1', hc1⟩ := hA1.cells (by rw [HN.out]; omega)
            have kj := cell_keep hb (hc1 j (by rw [HN.out]; exact hlt2))
            have HT := Lib.hid (mark_take (e := en) (l := l) (j := j) (by rw [HN.out]; exact hlt2))
            obtain ⟨x, hx⟩ : ∃ x, gi l j = x := ⟨_, rfl⟩
            rw [hx] at kj HT
            have hlen : ((markRow en l).take j).length ≤ 12 := by rw [List.length_take]; omega
            clear hc1 hx
            go_wp2_with (at_builtin; refine wpList_append_el (enc := boolEnc) rfl (.tmp 72) (.tmp 76) 89 rfl w2.heap.size 4 i0 _ 1 1 Try.underlying89 hi hz0 hz1 (by assumption) rfl (by decide) _ _ (decide (x ≤ en)) rfl hown _ rfl _ rfl rfl rfl bool_one (by omega) (by decide) (by omega) ?_; intro v' w6 hown6 hb6)
            go_roundw
            case rel => exact ⟨j + 1, by omega, by go_num, by rw [HT.out]; exact hown6, hb.trans hb6⟩
            case measure => simp [intOf]; omega
          case neg =>
            have hall : (markRow en l).take j = markRow en l := List.take_of_length_le (by simp [markRow, HN.out]; omega)
            rw [hall] at hown
            obtain ⟨Ab, cb, rfl, hB⟩ := hown.bown
            have hrl : (markRow en l).length = g.lives.length := by simp [markRow, HN.out]
            rw [hrl]
            have hown3 := hown2.ext hb
            have hrows3 := hrows2.ext hb
            have B03 := B02.ext hb
            have hb3 : Below w1.heap.size w1 wr := hb2'.trans (hb.mono hb2'.size)
            have HNX := Lib.hid (HRA.out.next HL.out)
            have hzz : w1.heap.size ≤ wr.heap.size := hb3.size
            clear hall hrl hown2 hrows2 B02 hown
            go_wp2_with (at_builtin; refine wpList_append_els (enc := rowEnc g.lives.length) rfl (.tmp 79) (.tmp 81) 86 rfl w1.heap.size 89 j0 _ 1 24 Try.underlying86 hj hy0 hy1 (by assumption) rfl (by decide) _ ia [(Ab, cb)] 1 rfl rfl hown3 _ rfl _ rfl rfl rfl row_one (by omega) (by decide) (by omega) ?_; intro v' w6 hown6 hb6 hkp)
            go_roundw
            case rel => exact ⟨k + 1, ia ++ [(Ab, cb)], ra ++ [markRow en l], by omega, by go_num, HNX, hown6, (hrows3.snoc hB).keep (fun b cs hb => hkp _ _ _ hb (by decide)), hkp _ _ _ B03 (by decide), hb3.trans hb6⟩
            case measure => simp [intOf]; omega
    case neg =>
      have HE : Hid (reachErr g s en = 1) := Lib.hid (by unfold reachErr; rw [if_pos H0.out, if_neg hs])
      cases q3 : inB s 0 (g.h - 1)
      case false =>
        clear hs
        go_enter Try.func14, Try.ntmps14
        go_wp2_with fail
        refine (refGraph_any _ _ _ _ g _ (HG.out.ext (by go_grown))).mono ?_
        rw [H0.out]
        rintro e w1 ⟨rfl, hb1⟩
        have B0 := (Blk.new w 78 (gC A c A' c' g)).ext hb1
        have hbw : Below w.heap.size w w1 := ext_trans (by go_grown) hb1
        have hzw : w.heap.size + 1 ≤ w1.heap.size := B0.lt
        obtain ⟨c1, c2, c3⟩ := B0.facts
        clear hb1
        go_wp2_with fail
        refine (in_any _ _ _ _).mono ?_
        rw [q1]
        rintro e w2 ⟨rfl, rfl⟩
        go_wp2_with fail
        refine (in_any _ _ _ _).mono ?_
        rw [q2]
        rintro e w2 ⟨rfl, rfl⟩
        go_wp2_with fail
        refine (refProfile_any A A' c c' g v u _ (HG.out.ext hbw) H0.out HR.out).mono ?_
        rintro e w2 ⟨out, A2, c2', HOUT, rfl, hI2, hb2⟩
        have B0 := B0.ext hb2
        have hbw := ext_trans hbw hb2
        have hzw := Nat.le_trans hzw hb2.size
        clear c1 c2 c3 hb2
        obtain ⟨c1, c2, c3⟩ := B0.facts
        obtain ⟨w1, hw1⟩ : ∃ x, x = w2 := ⟨_, rfl⟩
        rw [← hw1] at B0 hbw hzw c1 c2 c3 hI2 ⊢
        clear hw1
        go_wp2_with fail
        refine (in_any _ _ _ _).mono ?_
        rw [q3]
        rintro e w3 ⟨rfl, rfl⟩
        go_wp2_with fail
        refine (profOf_any A A' c c' g v u _ (HG.out.ext hbw)).mono ?_
        rintro e w5 ⟨er, m, Am, cm, HO, rfl, hI, hb5⟩
        obtain ⟨rfl, rfl⟩ := HO.out.is H0.out HR.out HOUT.out
        have hI2 := hI2.ext hb5
        have B0 := B0.ext hb5
        have hbw := ext_trans hbw hb5
        clear c1 c2 c3 hb5
        obtain ⟨c1, c2, c3⟩ := B0.facts
        go_wp2_with fail
        refine (reach_any A A' c c' g s en _ (HG.out.ext hbw)).mono ?_
        rintro e w6 ⟨A3, c3', items, rs, rfl, hS3, hR3, HK, HN, hm3, hb6⟩
        obtain rfl := HN.out (by rw [HE.out]; decide)
        rw [HE.out]
        have hI := hI.ext hb6
        have hI2 := hI2.ext hb6
        have hbw := ext_trans hbw hb6
        clear hb6
        go_wp2_with fail
        refine (equalPiecesSame _ _ _ _ _ _ hI hI2).mono ?_
        rintro e w7 ⟨rfl, hb7⟩
        have hbw := ext_trans hbw hb7
        have hS3 := SlAt.nil (R := RItem 0) (sz := 1) (w := w7) (A := A3)
        go_wp2_with fail
        refine (equalRows_any A3 none c3' 0 0 0 [] [] [] _ hS3 SlAt.nil RowsAt.nil RowsAt.nil (fun r h => by simp at h) (by decide) rfl (by decide)).mono ?_
        rintro e w8 ⟨rfl, hb8⟩
        go_wp2_with fail
        go_ret
        exact ⟨by simp, ext_trans hbw hb8⟩
      case true =>
        have q4 : inB en 0 (g.h - 1) = false := by
          simp [inB] at q3
          simp [inB]
          omega
        clear hs
        go_enter Try.func14, Try.ntmps14
        go_wp2_with fail
        refine (refGraph_any _ _ _ _ g _ (HG.out.ext (by go_grown))).mono ?_
        rw [H0.out]
        rintro e w1 ⟨rfl, hb1⟩
        have B0 := (Blk.new w 78 (gC A c A' c' g)).ext hb1
        have hbw : Below w.heap.size w w1 := ext_trans (by go_grown) hb1
        have hzw : w.heap.size + 1 ≤ w1.heap.size := B0.lt
        obtain ⟨c1, c2, c3⟩ := B0.facts
        clear hb1
        go_wp2_with fail
        refine (in_any _ _ _ _).mono ?_
        rw [q1]
        rintro e w2 ⟨rfl, rfl⟩
        go_wp2_with fail
        refine (in_any _ _ _ _).mono ?_
        rw [q2]
        rintro e w2 ⟨rfl, rfl⟩
        go_wp2_with fail
        refine (refProfile_any A A' c c' g v u _ (HG.out.ext hbw) H0.out HR.out).mono ?_
        rintro e w2 ⟨out, A2, c2', HOUT, rfl, hI2, hb2⟩
        have B0 := B0.ext hb2
        have hbw := ext_trans hbw hb2
        have hzw := Nat.le_trans hzw hb2.size
        clear c1 c2 c3 hb2
        obtain ⟨c1, c2, c3⟩ := B0.facts
        obtain ⟨w1, hw1⟩ : ∃ x, x = w2 := ⟨_, rfl⟩
        rw [← hw1] at B0 hbw hzw c1 c2 c3 hI2 ⊢
        clear hw1
        go_wp2_with fail
        refine (in_any _ _ _ _).mono ?_
        rw [q3]
        rintro e w3 ⟨rfl, rfl⟩
        go_wp2_with fail
        refine (in_any _ _ _ _).mono ?_
        rw [q4]
        rintro e w3 ⟨rfl, rfl⟩
        go_wp2_with fail
        refine (profOf_any A A' c c' g v u _ (HG.out.ext hbw)).mono ?_
        rintro e w5 ⟨er, m, Am, cm, HO, rfl, hI, hb5⟩
        obtain ⟨rfl, rfl⟩ := HO.out.is H0.out HR.out HOUT.out
        have hI2 := hI2.ext hb5
        have B0 := B0.ext hb5
        have hbw := ext_trans hbw hb5
        clear c1 c2 c3 hb5
        obtain ⟨c1, c2, c3⟩ := B0.facts
        go_wp2_with fail
        refine (reach_any A A' c c' g s en _ (HG.out.ext hbw)).mono ?_
        rintro e w6 ⟨A3, c3', items, rs, rfl, hS3, hR3, HK, HN, hm3, hb6⟩
        obtain rfl := HN.out (by rw [HE.out]; decide)
        rw [HE.out]
        have hI := hI.ext hb6
        have hI2 := hI2.ext hb6
        have hbw := ext_trans hbw hb6
        clear hb6
        go_wp2_with fail
        refine (equalPiecesSame _ _ _ _ _ _ hI hI2).mono ?_
        rintro e w7 ⟨rfl, hb7⟩
        have hbw := ext_trans hbw hb7
        have hS3 := SlAt.nil (R := RItem 0) (sz := 1) (w := w7) (A := A3)
        go_wp2_with fail
        refine (equalRows_any A3 none c3' 0 0 0 [] [] [] _ hS3 SlAt.nil RowsAt.nil RowsAt.nil (fun r h => by simp at h) (by decide) rfl (by decide)).mono ?_
        rintro e w8 ⟨rfl, hb8⟩
        go_wp2_with fail
        go_ret
        exact ⟨by simp, ext_trans hbw hb8⟩
  case neg =>
    have HR := Lib.hid hr
    cases q1 : inB v 0 ((g.lives.length : Int) - 1)
    case false =>
      clear hr
      by_cases hs : (0 ≤ s ∧ s < g.h) ∧ 0 ≤ en ∧ en < g.h
      case pos =>
        have HS := Lib.hid hs.1
        have HE : Hid (reachErr g s en = 0) := Lib.hid (by unfold reachErr; rw [if_pos H0.out, if_pos hs])
        have q3 : inB s 0 (g.h - 1) = true := by simp [inB]; omega
        have q4 : inB en 0 (g.h - 1) = true := by simp [inB]; omega
        clear hs
        go_enter Try.func14, Try.ntmps14
        go_wp2_with fail
        refine (refGraph_any _ _ _ _ g _ (HG.out.ext (by go_grown))).mono ?_
        rw [H0.out]
        rintro e w1 ⟨rfl, hb1⟩
        have B0 := (Blk.new w 78 (gC A c A' c' g)).ext hb1
        have hbw : Below w.heap.size w w1 := ext_trans (by go_grown) hb1
        have hzw : w.heap.size + 1 ≤ w1.heap.size := B0.lt
        obtain ⟨c1, c2, c3⟩ := B0.facts
        clear hb1
        go_wp2_with fail
        refine (in_any _ _ _ _).mono ?_
        rw [q1]
        rintro e w2 ⟨rfl, rfl⟩
        go_wp2_with fail
        refine (in_any _ _ _ _).mono ?_
        rw [q3]
        rintro e w3 ⟨rfl, rfl⟩
        go_wp2_with fail
        refine (in_any _ _ _ _).mono ?_
        rw [q4]
        rintro e w3 ⟨rfl, rfl⟩
        go_wp2_with fail
        go_loopw [14, 60] (fun o x wr => ∃ (k : Nat) (items : List (Option Addr × Nat)) (rs : List (List Bool)), k ≤ g.lives.length ∧ x = .int .i64 k ∧ Hid (RowsOk g s en k rs) ∧ Own (rowEnc g.lives.length) 1 wr w1.heap.size 89 o items ∧ RowsAt wr items rs ∧
          Blk wr w.heap.size 78 (gC A c A' c' g) ∧ Below w1.heap.size w1 wr) (fun _ x _ => g.lives.length - (intOf x).toNat)
        case atStart => exact ⟨0, [], [], Nat.zero_le _, rfl, Lib.hid RowsOk.zero, Own.nil, RowsAt.nil, B0, Below.refl _ _⟩
        case round =>
          clear B0 c1 c2 c3
          obtain ⟨k, ia, ra, hk, rfl, HRA, hown, hRa, B0, hb⟩ := hrel
          have hbr : Below w.heap.size w wr := ext_trans hbw hb
          have hzr : w.heap.size + 1 ≤ wr.heap.size := Nat.le_trans hzw hb.size
          obtain ⟨c1, c2, c3⟩ := B0.facts
          by_cases hlt : k < g.lives.length
          case neg =>
            obtain rfl : k = g.lives.length := by omega
            obtain ⟨Ao, co, rfl, hSa⟩ := own_items hown
            have hbw := hbr
            clear hbr hb hown hlt hk
            go_wp2_with fail
            refine (profOf_any A A' c c' g v u _ (HG.out.ext hbw)).mono ?_
            rintro e w5 ⟨er, m, Am, cm, HO, rfl, hI, hb5⟩
            obtain ⟨rfl, rfl⟩ := HO.out.far H0.out HR.out
            have hSa := items_ext hSa hb5
            have hRa := hRa.ext hb5
            have B0 := B0.ext hb5
            have hbw := ext_trans hbw hb5
            clear c1 c2 c3 hb5
            obtain ⟨c1, c2, c3⟩ := B0.facts
            go_wp2_with fail
            refine (reach_any A A' c c' g s en _ (HG.out.ext hbw)).mono ?_
            rintro e w6 ⟨A3, c3', items, rs, rfl, hS3, hR3, HK, HN, hm3, hb6⟩
            rw [HE.out]
            obtain rfl := (HK.out HE.out).eq HRA.out
            have hSa := items_ext hSa hb6
            have hRa := hRa.ext hb6
            have hI := hI.ext hb6
            have hbw := ext_trans hbw hb6
            clear hb6
            have hl1 : items.length = g.lives.length := by rw [hR3.1, HRA.out.1]
            have hl2 : ia.length = g.lives.length := by rw [hRa.1, HRA.out.1]
            rw [hl1, hl2]
            have HL1 := Lib.hid hl1
            clear hl1 hl2
            go_wp2_with fail
            refine (equalPiecesSame Am none cm 0 [] _ hI PiecesAt.nil).mono ?_
            rintro e w7 ⟨rfl, hb7⟩
            have hbw := ext_trans hbw hb7
            have hSa := items_ext hSa hb7
            have hRa := hRa.ext hb7
            have hS3 := items_ext hS3 hb7
            have hR3 := hR3.ext hb7
            go_wp2_with fail
            refine (equalRows_any _ _ _ _ g.lives.length g.lives.length items ia rs _ hS3 hSa hR3 hRa HRA.out.long hn12 HRA.out.1 hn12).mono ?_
            rintro e w8 ⟨rfl, hb8⟩
            go_wp2_with fail
            go_ret
            exact ⟨by simp, ext_trans hbw hb8⟩
          case pos =>
          have hil12 : ia.length ≤ 12 := by rw [hRa.1, HRA.out.1]; omega
          have HP : Hid (placeErr g k s = 0) := Lib.hid (place_ok hV (by omega) (by omega) HS.out.1 HS.out.2)
          go_wp2_with fail
          refine (refArrivals_any _ _ _ _ g k s _ (HG.out.ext hbr) HP.out).mono ?_
          rintro e w2 ⟨l, A1, d1, HL, rfl, hA1, hm1, hb2⟩
          have hn := HL.out.1
          rw [hn]
          have HN := Lib.hid hn
          have hown2 := hown.ext hb2
          have hrows2 := hRa.ext hb2
          have B02 := B0.ext hb2
          have hb2' : Below w1.heap.size w1 w2 := ext_trans hb hb2
          have hzr2 : w.heap.size + 1 ≤ w2.heap.size := Nat.le_trans hzr hb2.size
          clear hn hown hRa B0 hb hb2 c1 c2 c3 hbr hzr
          go_wp2_with fail
          go_loopw [17, 68] (fun o x wr => ∃ (j : Nat), j ≤ g.lives.length ∧ x = .int .i64 j ∧ Own boolEnc 1 wr w2.heap.size 4 o ((markRow en l).take j) ∧ Below w2.heap.size w2 wr) (fun _ x _ => g.lives.length - (intOf x).toNat)
          case atStart => exact ⟨0, Nat.zero_le _, rfl, Own.nil, Below.refl _ _⟩
          case round =>
            obtain ⟨j, hjk, rfl, hown, hb⟩ := hrel
            have hz2 : w2.heap.size ≤ wr.heap.size := hb.size
            by_cases hlt2 : j < g.lives.length
            case pos =>
              obtain ⟨b1, o1, rfl, hz1', hc1⟩ := hA1.cells (by rw [HN.out]; omega)
              have kj := cell_keep hb (hc1 j (by rw [HN.out]; exact hlt2))
              have HT := Lib.hid (mark_take (e := en) (l := l) (j := j) (by rw [HN.out]; exact hlt2))
              obtain ⟨x, hx⟩ : ∃ x, gi l j = x := ⟨_, rfl⟩
              rw [hx] at kj HT
              have hlen : ((markRow en l).take j).length ≤ 12 := by rw [List.length_take]; omega
              clear hc1 hx
              go_wp2_with (at_builtin; refine wpList_append_el (enc := boolEnc) rfl (.tmp 72) (.tmp 76) 89 rfl w2.heap.size 4 i0 _ 1 1 Try.underlying89 hi hz0 hz1 (by assumption) rfl (by decide) _ _ (decide (x ≤ en)) rfl hown _ rfl _ rfl rfl rfl bool_one (by omega) (by decide) (by omega) ?_; intro v' w6 hown6 hb6)
              go_roundw
              case rel => exact ⟨j + 1, by omega, by go_num, by rw [HT.out]; exact hown6, hb.trans hb6⟩
              case measure => simp [intOf]; omega
            case neg =>
              have hall : (markRow en l).take j = markRow en l := List.take_of_length_le (by simp [markRow, HN.out]; omega)
              rw [hall] at hown
              obtain ⟨Ab, cb, rfl, hB⟩ := hown.bown
              have hrl : (markRow en l).length = g.lives.length := by simp [markRow, HN.out]
              rw [hrl]
              have hown3 := hown2.ext hb
              have hrows3 := hrows2.ext hb
              have B03 := B02.ext hb
              have hb3 : Below w1.heap.size w1 wr := hb2'.trans (hb.mono hb2'.size)
              have HNX := Lib.hid (HRA.out.next HL.out)
              have hzz : w1.heap.size ≤ wr.heap.size := hb3.size
              clear hall hrl hown2 hrows2 B02 hown
              go_wp2_with (at_builtin; refine wpList_append_els (enc := rowEnc g.lives.length) rfl (.tmp 79) (.tmp 81) 86 rfl w1.heap.size 89 j0 _ 1 24 Try.underlying86 hj hy0 hy1 (by assumption) rfl (by decide) _ ia [(Ab, cb)] 1 rfl rfl hown3 _ rfl _ rfl rfl rfl row_one (by omega) (by decide) (by omega) ?_; intro v' w6 hown6 hb6 hkp)
              go_roundw
              case rel => exact ⟨k + 1, ia ++ [(Ab, cb)], ra ++ [markRow en l], by omega, by go_num, HNX, hown6, (hrows3.snoc hB).keep (fun b cs hb => hkp _ _ _ hb (by decide)), hkp _ _ _ B03 (by decide), hb3.trans hb6⟩
              case measure => simp [intOf]; omega
      case neg =>
        have HE : Hid (reachErr g s en = 1) := Lib.hid (by unfold reachErr; rw [if_pos H0.out, if_neg hs])
        cases q3 : inB s 0 (g.h - 1)
        case false =>
          clear hs
          go_enter Try.func14, Try.ntmps14
          go_wp2_with fail
          refine (refGraph_any _ _ _ _ g _ (HG.out.ext (by go_grown))).mono ?_
          rw [H0.out]
          rintro e w1 ⟨rfl, hb1⟩
          have B0 := (Blk.new w 78 (gC A c A' c' g)).ext hb1
          have hbw : Below w.heap.size w w1 := ext_trans (by go_grown) hb1
          have hzw : w.heap.size + 1 ≤ w1.heap.size := B0.lt
          obtain ⟨c1, c2, c3⟩ := B0.facts
          clear hb1
          go_wp2_with fail
          refine (in_any _ _ _ _).mono ?_
          rw [q1]
          rintro e w2 ⟨rfl, rfl⟩
          go_wp2_with fail
          refine (in_any _ _ _ _).mono ?_
          rw [q3]
          rintro e w3 ⟨rfl, rfl⟩
          go_wp2_with fail
          refine (profOf_any A A' c c' g v u _ (HG.out.ext hbw)).mono ?_
          rintro e w5 ⟨er, m, Am, cm, HO, rfl, hI, hb5⟩
          obtain ⟨rfl, rfl⟩ := HO.out.far H0.out HR.out
          have B0 := B0.ext hb5
          have hbw := ext_trans hbw hb5
          clear c1 c2 c3 hb5
          obtain ⟨c1, c2, c3⟩ := B0.facts
          go_wp2_with fail
          refine (reach_any A A' c c' g s en _ (HG.out.ext hbw)).mono ?_
          rintro e w6 ⟨A3, c3', items, rs, rfl, hS3, hR3, HK, HN, hm3, hb6⟩
          obtain rfl := HN.out (by rw [HE.out]; decide)
          rw [HE.out]
          have hI := hI.ext hb6
          have hbw := ext_trans hbw hb6
          clear hb6
          go_wp2_with fail
          refine (equalPiecesSame Am none cm 0 [] _ hI PiecesAt.nil).mono ?_
          rintro e w7 ⟨rfl, hb7⟩
          have hbw := ext_trans hbw hb7
          have hS3 := SlAt.nil (R := RItem 0) (sz := 1) (w := w7) (A := A3)
          go_wp2_with fail
          refine (equalRows_any A3 none c3' 0 0 0 [] [] [] _ hS3 SlAt.nil RowsAt.nil RowsAt.nil (fun r h => by simp at h) (by decide) rfl (by decide)).mono ?_
          rintro e w8 ⟨rfl, hb8⟩
          go_wp2_with fail
          go_ret
          exact ⟨by simp, ext_trans hbw hb8⟩
        case true =>
          have q4 : inB en 0 (g.h - 1) = false := by
            simp [inB] at q3
            simp [inB]
            omega
          clear hs
          go_enter Try.func14, Try.ntmps14
          go_wp2_with fail
          refine (refGraph_any _ _ _ _ g _ (HG.out.ext (by go_grown))).mono ?_
          rw [H0.out]
          rintro e w1 ⟨rfl, hb1⟩
          have B0 := (Blk.new w 78 (gC A c A' c' g)).ext hb1
          have hbw : Below w.heap.size w w1 := ext_trans (by go_grown) hb1
          have hzw : w.heap.size + 1 ≤ w1.heap.size := B0.lt
          obtain ⟨c1, c2, c3⟩ := B0.facts
          clear hb1
          go_wp2_with fail
          refine (in_any _ _ _ _).mono ?_
          rw [q1]
          rintro e w2 ⟨rfl, rfl⟩
          go_wp2_with fail
          refine (in_any _ _ _ _).mono ?_
          rw [q3]
          rintro e w3 ⟨rfl, rfl⟩
          go_wp2_with fail
          refine (in_any _ _ _ _).mono ?_
          rw [q4]
          rintro e w3 ⟨rfl, rfl⟩
          go_wp2_with fail
          refine (profOf_any A A' c c' g v u _ (HG.out.ext hbw)).mono ?_
          rintro e w5 ⟨er, m, Am, cm, HO, rfl, hI, hb5⟩
          obtain ⟨rfl, rfl⟩ := HO.out.far H0.out HR.out
          have B0 := B0.ext hb5
          have hbw := ext_trans hbw hb5
          clear c1 c2 c3 hb5
          obtain ⟨c1, c2, c3⟩ := B0.facts
          go_wp2_with fail
          refine (reach_any A A' c c' g s en _ (HG.out.ext hbw)).mono ?_
          rintro e w6 ⟨A3, c3', items, rs, rfl, hS3, hR3, HK, HN, hm3, hb6⟩
          obtain rfl := HN.out (by rw [HE.out]; decide)
          rw [HE.out]
          have hI := hI.ext hb6
          have hbw := ext_trans hbw hb6
          clear hb6
          go_wp2_with fail
          refine (equalPiecesSame Am none cm 0 [] _ hI PiecesAt.nil).mono ?_
          rintro e w7 ⟨rfl, hb7⟩
          have hbw := ext_trans hbw hb7
          have hS3 := SlAt.nil (R := RItem 0) (sz := 1) (w := w7) (A := A3)
          go_wp2_with fail
          refine (equalRows_any A3 none c3' 0 0 0 [] [] [] _ hS3 SlAt.nil RowsAt.nil RowsAt.nil (fun r h => by simp at h) (by decide) rfl (by decide)).mono ?_
          rintro e w8 ⟨rfl, hb8⟩
          go_wp2_with fail
          go_ret
          exact ⟨by simp, ext_trans hbw hb8⟩
    case true =>
      have q2 : inB u 0 ((g.lives.length : Int) - 1) = false := by
        simp [inB] at q1
        simp [inB]
        omega
      clear hr
      by_cases hs : (0 ≤ s ∧ s < g.h) ∧ 0 ≤ en ∧ en < g.h
      case pos =>
        have HS := Lib.hid hs.1
        have HE : Hid (reachErr g s en = 0) := Lib.hid (by unfold reachErr; rw [if_pos H0.out, if_pos hs])
        have q3 : inB s 0 (g.h - 1) = true := by simp [inB]; omega
        have q4 : inB en 0 (g.h - 1) = true := by simp [inB]; omega
        clear hs
        go_enter Try.func14, Try.ntmps14
        go_wp2_with fail
        refine (refGraph_any _ _ _ _ g _ (HG.out.ext (by go_grown))).mono ?_
        rw [H0.out]
        rintro e w1 ⟨rfl, hb1⟩
        have B0 := (Blk.new w 78 (gC A c A' c' g)).ext hb1
        have hbw : Below w.heap.size w w1 := ext_trans (by go_grown) hb1
        have hzw : w.heap.size + 1 ≤ w1.heap.size := B0.lt
        obtain ⟨c1, c2, c3⟩ := B0.facts
        clear hb1
        go_wp2_with fail
        refine (in_any _ _ _ _).mono ?_
        rw [q1]
        rintro e w2 ⟨rfl, rfl⟩
        go_wp2_with fail
        refine (in_any _ _ _ _).mono ?_
        rw [q2]
        rintro e w2 ⟨rfl, rfl⟩
        go_wp2_with fail
        refine (in_any _ _ _ _).mono ?_
        rw [q3]
        rintro e w3 ⟨rfl, rfl⟩
        go_wp2_with fail
        refine (in_any _ _ _ _).mono ?_
        rw [q4]
        rintro e w3 ⟨rfl, rfl⟩
        go_wp2_with fail
        go_loopw [14, 60] (fun o x wr => ∃ (k : Nat) (items : List (Option Addr × Nat)) (rs : List (List Bool)), k ≤ g.lives.length ∧ x = .int .i64 k ∧ Hid (RowsOk g s en k rs) ∧ Own (rowEnc g.lives.length) 1 wr w1.heap.size 89 o items ∧ RowsAt wr items rs ∧
          Blk wr w.heap.size 78 (gC A c A' c' g) ∧ Below w1.heap.size w1 wr) (fun _ x _ => g.lives.length - (intOf x).toNat)
        case atStart => exact ⟨0, [], [], Nat.zero_le _, rfl, Lib.hid RowsOk.zero, Own.nil, RowsAt.nil, B0, Below.refl _ _⟩
        case round =>
          clear B0 c1 c2 c3
          obtain ⟨k, ia, ra, hk, rfl, HRA, hown, hRa, B0, hb⟩ := hrel
          have hbr : Below w.heap.size w wr := ext_trans hbw hb
          have hzr : w.heap.size + 1 ≤ wr.heap.size := Nat.le_trans hzw hb.size
          obtain ⟨c1, c2, c3⟩ := B0.facts
          by_cases hlt : k < g.lives.length
          case neg =>
            obtain rfl : k = g.lives.length := by omega
            obtain ⟨Ao, co, rfl, hSa⟩ := own_items hown
            have hbw := hbr
            clear hbr hb hown hlt hk
            go_wp2_with fail
            refine (profOf_any A A' c c' g v u _ (HG.out.ext hbw)).mono ?_
            rintro e w5 ⟨er, m, Am, cm, HO, rfl, hI, hb5⟩
            obtain ⟨rfl, rfl⟩ := HO.out.far H0.out HR.out
            have hSa := items_ext hSa hb5
            have hRa := hRa.ext hb5
            have B0 := B0.ext hb5
            have hbw := ext_trans hbw hb5
            clear c1 c2 c3 hb5
            obtain ⟨c1, c2, c3⟩ := B0.facts
            go_wp2_with fail
            refine (reach_any A A' c c' g s en _ (HG.out.ext hbw)).mono ?_
            rintro e w6 ⟨A3, c3', items, rs, rfl, hS3, hR3, HK, HN, hm3, hb6⟩
            rw [HE.out]
            obtain rfl := (HK.out HE.out).eq HRA.out
            have hSa := items_ext hSa hb6
            have hRa := hRa.ext hb6
            have hI := hI.ext hb6
            have hbw := ext_trans hbw hb6
            clear hb6
            have hl1 : items.length = g.lives.length := by rw [hR3.1, HRA.out.1]
            have hl2 : ia.length = g.lives.length := by rw [hRa.1, HRA.out.1]
            rw [hl1, hl2]
            have HL1 := Lib.hid hl1
            clear hl1 hl2
            go_wp2_with fail
            refine (equalPiecesSame Am none cm 0 [] _ hI PiecesAt.nil).mono ?_
            rintro e w7 ⟨rfl, hb7⟩
            have hbw := ext_trans hbw hb7
            have hSa := items_ext hSa hb7
            have hRa := hRa.ext hb7
            have hS3 := items_ext hS3 hb7
            have hR3 := hR3.ext hb7
            go_wp2_with fail
            refine (equalRows_any _ _ _ _ g.lives.length g.lives.length items ia rs _ hS3 hSa hR3 hRa HRA.out.long hn12 HRA.out.1 hn12).mono ?_
            rintro e w8 ⟨rfl, hb8⟩
            go_wp2_with fail
            go_ret
            exact ⟨by simp, ext_trans hbw hb8⟩
          case pos =>
          have hil12 : ia.length ≤ 12 := by rw [hRa.1, HRA.out.1]; omega
          have HP : Hid (placeErr g k s = 0) := Lib.hid (place_ok hV (by omega) (by omega) HS.out.1 HS.out.2)
          go_wp2_with fail
          refine (refArrivals_any _ _ _ _ g k s _ (HG.out.ext hbr) HP.out).mono ?_
          rintro e w2 ⟨l, A1, d1, HL, rfl, hA1, hm1, hb2⟩
          have hn := HL.out.1
          rw [hn]
          have HN := Lib.hid hn
          have hown2 := hown.ext hb2
          have hrows2 := hRa.ext hb2
          have B02 := B0.ext hb2
          have hb2' : Below w1.heap.size w1 w2 := ext_trans hb hb2
          have hzr2 : w.heap.size + 1 ≤ w2.heap.size := Nat.le_trans hzr hb2.size
          clear hn hown hRa B0 hb hb2 c1 c2 c3 hbr hzr
          go_wp2_with fail
          go_loopw [17, 68] (fun o x wr => ∃ (j : Nat), j ≤ g.lives.length ∧ x = .int .i64 j ∧ Own boolEnc 1 wr w2.heap.size 4 o ((markRow en l).take j) ∧ Below w2.heap.size w2 wr) (fun _ x _ => g.lives.length - (intOf x).toNat)
          case atStart => exact ⟨0, Nat.zero_le _, rfl, Own.nil, Below.refl _ _⟩
          case round =>
            obtain ⟨j, hjk, rfl, hown, hb⟩ := hrel
            have hz2 : w2.heap.size ≤ wr.heap.size := hb.size
            by_cases hlt2 : j < g.lives.length
            case pos =>
              obtain ⟨b1, o1, rfl, hz1', hc1⟩ := hA1.cells (by rw [HN.out]; omega)
              have kj := cell_keep hb (hc1 j (by rw [HN.out]; exact hlt2))
              have HT := Lib.hid (mark_take (e := en) (l := l) (j := j) (by rw [HN.out]; exact hlt2))
              obtain ⟨x, hx⟩ : ∃ x, gi l j = x := ⟨_, rfl⟩
              rw [hx] at kj HT
              have hlen : ((markRow en l).take j).length ≤ 12 := by rw [List.length_take]; omega
              clear hc1 hx
              go_wp2_with (at_builtin; refine wpList_append_el (enc := boolEnc) rfl (.tmp 72) (.tmp 76) 89 rfl w2.heap.size 4 i0 _ 1 1 Try.underlying89 hi hz0 hz1 (by assumption) rfl (by decide) _ _ (decide (x ≤ en)) rfl hown _ rfl _ rfl rfl rfl bool_one (by omega) (by decide) (by omega) ?_; intro v' w6 hown6 hb6)
              go_roundw
              case rel => exact ⟨j + 1, by omega, by go_num, by rw [HT.out]; exact hown6, hb.trans hb6⟩
              case measure => simp [intOf]; omega
            case neg =>
              have hall : (markRow en l).take j = markRow en l := List.take_of_length_le (by simp [markRow, HN.out]; omega)
              rw [hall] at hown
              obtain ⟨Ab, cb, rfl, hB⟩ := hown.bown
              have hrl : (markRow en l).length = g.lives.length := by simp [markRow, HN.out]
              rw [hrl]
              have hown3 := hown2.ext hb
              have hrows3 := hrows2.ext hb
              have B03 := B02.ext hb
              have hb3 : Below w1.heap.size w1 wr := hb2'.trans (hb.mono hb2'.size)
              have HNX := Lib.hid (HRA.out.next HL.out)
              have hzz : w1.heap.size ≤ wr.heap.size := hb3.size
              clear hall hrl hown2 hrows2 B02 hown
              go_wp2_with (at_builtin; refine wpList_append_els (enc := rowEnc g.lives.length) rfl (.tmp 79) (.tmp 81) 86 rfl w1.heap.size 89 j0 _ 1 24 Try.underlying86 hj hy0 hy1 (by assumption) rfl (by decide) _ ia [(Ab, cb)] 1 rfl rfl hown3 _ rfl _ rfl rfl rfl row_one (by omega) (by decide) (by omega) ?_; intro v' w6 hown6 hb6 hkp)
              go_roundw
              case rel => exact ⟨k + 1, ia ++ [(Ab, cb)], ra ++ [markRow en l], by omega, by go_num, HNX, hown6, (hrows3.snoc hB).keep (fun b cs hb => hkp _ _ _ hb (by decide)), hkp _ _ _ B03 (by decide), hb3.trans hb6⟩
              case measure => simp [intOf]; omega
      case neg =>
        have HE : Hid (reachErr g s en = 1) := Lib.hid (by unfold reachErr; rw [if_pos H0.out, if_neg hs])
        cases q3 : inB s 0 (g.h - 1)
        case false =>
          clear hs
          go_enter Try.func14, Try.ntmps14
          go_wp2_with fail
          refine (refGraph_any _ _ _ _ g _ (HG.out.ext (by go_grown))).mono ?_
          rw [H0.out]
          rintro e w1 ⟨rfl, hb1⟩
          have B0 := (Blk.new w 78 (gC A c A' c' g)).ext hb1
          have hbw : Below w.heap.size w w1 := ext_trans (by go_grown) hb1
          have hzw : w.heap.size + 1 ≤ w1.heap.size := B0.lt
          obtain ⟨c1, c2, c3⟩ := B0.facts
          clear hb1
          go_wp2_with fail
          refine (in_any _ _ _ _).mono ?_
          rw [q1]
          rintro e w2 ⟨rfl, rfl⟩
          go_wp2_with fail
          refine (in_any _ _ _ _).mono ?_
          rw [q2]
          rintro e w2 ⟨rfl, rfl⟩
          go_wp2_with fail
          refine (in_any _ _ _ _).mono ?_
          rw [q3]
          rintro e w3 ⟨rfl, rfl⟩
          go_wp2_with fail
          refine (profOf_any A A' c c' g v u _ (HG.out.ext hbw)).mono ?_
          rintro e w5 ⟨er, m, Am, cm, HO, rfl, hI, hb5⟩
          obtain ⟨rfl, rfl⟩ := HO.out.far H0.out HR.out
          have B0 := B0.ext hb5
          have hbw := ext_trans hbw hb5
          clear c1 c2 c3 hb5
          obtain ⟨c1, c2, c3⟩ := B0.facts
          go_wp2_with fail
          refine (reach_any A A' c c' g s en _ (HG.out.ext hbw)).mono ?_
          rintro e w6 ⟨A3, c3', items, rs, rfl, hS3, hR3, HK, HN, hm3, hb6⟩
          obtain rfl := HN.out (by rw [HE.out]; decide)
          rw [HE.out]
          have hI := hI.ext hb6
          have hbw := ext_trans hbw hb6
          clear hb6
          go_wp2_with fail
          refine (equalPiecesSame Am none cm 0 [] _ hI PiecesAt.nil).mono ?_
          rintro e w7 ⟨rfl, hb7⟩
          have hbw := ext_trans hbw hb7
          have hS3 := SlAt.nil (R := RItem 0) (sz := 1) (w := w7) (A := A3)
          go_wp2_with fail
          refine (equalRows_any A3 none c3' 0 0 0 [] [] [] _ hS3 SlAt.nil RowsAt.nil RowsAt.nil (fun r h => by simp at h) (by decide) rfl (by decide)).mono ?_
          rintro e w8 ⟨rfl, hb8⟩
          go_wp2_with fail
          go_ret
          exact ⟨by simp, ext_trans hbw hb8⟩
        case true =>
          have q4 : inB en 0 (g.h - 1) = false := by
            simp [inB] at q3
            simp [inB]
            omega
          clear hs
          go_enter Try.func14, Try.ntmps14
          go_wp2_with fail
          refine (refGraph_any _ _ _ _ g _ (HG.out.ext (by go_grown))).mono ?_
          rw [H0.out]
          rintro e w1 ⟨rfl, hb1⟩
          have B0 := (Blk.new w 78 (gC A c A' c' g)).ext hb1
          have hbw : Below w.heap.size w w1 := ext_trans (by go_grown) hb1
          have hzw : w.heap.size + 1 ≤ w1.heap.size := B0.lt
          obtain ⟨c1, c2, c3⟩ := B0.facts
          clear hb1
          go_wp2_with fail
          refine (in_any _ _ _ _).mono ?_
          rw [q1]
          rintro e w2 ⟨rfl, rfl⟩
          go_wp2_with fail
          refine (in_any _ _ _ _).mono ?_
          rw [q2]
          rintro e w2 ⟨rfl, rfl⟩
          go_wp2_with fail
          refine (in_any _ _ _ _).mono ?_
          rw [q3]
          rintro e w3 ⟨rfl, rfl⟩
          go_wp2_with fail
          refine (in_any _ _ _ _).mono ?_
          rw [q4]
          rintro e w3 ⟨rfl, rfl⟩
          go_wp2_with fail
          refine (profOf_any A A' c c' g v u _ (HG.out.ext hbw)).mono ?_
          rintro e w5 ⟨er, m, Am, cm, HO, rfl, hI, hb5⟩
          obtain ⟨rfl, rfl⟩ := HO.out.far H0.out HR.out
          have B0 := B0.ext hb5
          have hbw := ext_trans hbw hb5
          clear c1 c2 c3 hb5
          obtain ⟨c1, c2, c3⟩ := B0.facts
          go_wp2_with fail
          refine (reach_any A A' c c' g s en _ (HG.out.ext hbw)).mono ?_
          rintro e w6 ⟨A3, c3', items, rs, rfl, hS3, hR3, HK, HN, hm3, hb6⟩
          obtain rfl := HN.out (by rw [HE.out]; decide)
          rw [HE.out]
          have hI := hI.ext hb6
          have hbw := ext_trans hbw hb6
          clear hb6
          go_wp2_with fail
          refine (equalPiecesSame Am none cm 0 [] _ hI PiecesAt.nil).mono ?_
          rintro e w7 ⟨rfl, hb7⟩
          have hbw := ext_trans hbw hb7
          have hS3 := SlAt.nil (R := RItem 0) (sz := 1) (w := w7) (A := A3)
          go_wp2_with fail
          refine (equalRows_any A3 none c3' 0 0 0 [] [] [] _ hS3 SlAt.nil RowsAt.nil RowsAt.nil (fun r h => by simp at h) (by decide) rfl (by decide)).mono ?_
          rintro e w8 ⟨rfl, hb8⟩
          go_wp2_with fail
          go_ret
          exact ⟨by simp, ext_trans hbw hb8⟩
end Go.Proofs.Ytcfachfldanddaa
