/- Several texts in one: Parse, HopRev, Spread. -/
import Derived.BigRegion
import Derived.IntWalk
import Derived.Outline
import Derived.Deep.LoopGhost
import Derived.Deep.DeepCutAuto
import Derived.Deep.RegionHeld3
import Derived.Shelf.Abstract
import Derived.Test.YtdpibehpmghghaaDoorBd2550c6b30e
import Derived.Test.YtdpibehpmghghaaDoorBd4cd4eeb2ba
import Derived.Test.YtdpibehpmghghaaDoorBd76cb561368
import Derived.Test.YtdpibehpmghghaaDoorBde5358e7a60
import Derived.Test.YtdpibehpmghghaaDoorBdbfd51ac406
import Derived.Test.YtdpibehpmghghaaDoorBdf5bde0992f
import Derived.Test.YtdpibehpmghghaaDoorBd8623bbcbb2
/- The walk of graph.Parse. -/
namespace Go.Proofs.YtdpibehpmghghaaDoor
open Go.RowKit

theorem pieces_single {c : UInt8} {l p : List UInt8} (h : piecesB c l = [p]) : p = l := by
  have := join_pieces c l
  rw [h] at this
  simpa [joinB] using this
theorem pieces_short (c : UInt8) : ∀ (l : List UInt8), (∀ x, x ∈ piecesB c l → x.length ≤ l.length) ∧ (piecesB c l).length ≤ l.length + 1
  | [] => ⟨fun x h => by simp [piecesB] at h; simp [h], by simp [piecesB]⟩
  | b :: l => by
    obtain ⟨h1, h2⟩ := pieces_short c l
    obtain ⟨p, ps, hp⟩ := pieces_form c l
    by_cases hb : b = c
    · subst hb
      rw [pieces_cons_hit]
      refine ⟨fun x hx => ?_, by simp only [List.length_cons]; omega⟩
      rcases List.mem_cons.1 hx with rfl | hx
      · simp
      · have := h1 x hx; simp only [List.length_cons]; omega
    · rw [pieces_cons_miss hb hp]
      rw [hp] at h1 h2
      refine ⟨fun x hx => ?_, by simp only [List.length_cons] at h2 ⊢; omega⟩
      rcases List.mem_cons.1 hx with rfl | hx
      · have := h1 p (by simp); simp only [List.length_cons]; omega
      · have := h1 x (by simp [hx]); simp only [List.length_cons]; omega
theorem pieces_two (c : UInt8) (l : List UInt8) : piecesB c l = [l] ∨ ∃ p q ps, piecesB c l = p :: q :: ps := by
  obtain ⟨p, ps, h⟩ := pieces_form c l
  cases ps with
  | nil => left; rw [h, pieces_single h]
  | cons q ps => exact .inr ⟨p, q, ps, h⟩
def strOf (v : Value) : Nat := match v with | .string b => b.size | _ => 0
/-- What Parse tells. -/
def ParseOut (r : GraphD × Int × Int) (w : World) (e : Ending) (w' : World) : Prop := ∃ A c A' c', e = .returned (.tuple #[gV A c A' c' r.1, .int .i64 r.2.1, .int .i64 r.2.2]) ∧ GraphAt w' A c A' c' r.1 ∧ Below w.heap.size w w'
theorem noG_at (w : World) : GraphAt w none 0 none 0 noG := ⟨by simp [I64], by simp, by simp [maxLen], by simp, by simp [maxLen], SlAt.nil, SlAt.nil⟩
theorem gOf_v {A A' : Option Addr} {c c' : Nat} {h : Int} {lv : List IvlD} {items : List EItem} : gV A c A' c' (gOf h lv items) = .agg #[.int .i64 h, .slice A lv.length c, .slice A' items.length c'] := by
  unfold gV gOf
  rw [List.length_map]
set_option maxRecDepth 100000 in
set_option maxHeartbeats 16000000 in
theorem parse_any (l : List UInt8) (w : World) (hl : l.length ≤ 9223372036854775807) (hm : MaxL w) : Calls Tryd.prog 17 #[.string (bs l)] w (ParseOut (parseD l) w) := by
  have hsz := bs_size l
  by_cases h1 : 8192 < l.length
  case pos =>
    have HP : Hid (parseD l = (noG, 0, 2)) := Lib.hid (by unfold parseD; rw [if_pos h1])
    have hd : decide ((l.length : Int) > 8192) = true := by simp; omega
    rw [HP.out]
    have B0 := Blk.new w 25 #[.int .i64 0, .slice none 0 0, .slice none 0 0]
    obtain ⟨c1, c2, c3⟩ := B0.facts
    clear h1 hsz
    go_enter Tryd.func17, Tryd.ntmps17
    go_wp2_with fail
    refine bodyPost_ret (v := .tuple #[gV none 0 none 0 noG, .int .i64 0, .int .i64 2]) (by simp [results, Tryd.results17, go_sem, c1, c2, c3]) rfl ?_
    exact ⟨none, 0, none, 0, rfl, noG_at _, by go_grown⟩
  have HP : Hid (parseD l = readOut 0 noG (piecesB 10 l)) := Lib.hid (by unfold parseD; rw [if_neg h1])
  have hd : decide ((l.length : Int) > 8192) = false := by simp; omega
  have hl8 : l.length ≤ 8192 := by omega
  have HM := Lib.hid hm
  clear h1 hsz hl hm
  go_enter Tryd.func17, Tryd.ntmps17
  go_wp2_with fail
  go_loopw [0, 6] (fun s at_ wr => ∃ (i : Nat) (l' : List UInt8) (h : Int) (vl ve : Value) (lv : List IvlD) (items : List EItem), s = .string (bs l') ∧ at_ = .int .i64 ((i : Int) + 1) ∧ GMem wr (w.heap.size + 1) i h vl ve lv items ∧ Blk wr w.heap.size 25 #[.int .i64 0, .slice none 0 0, .slice none 0 0] ∧ Below w.heap.size w wr ∧ Hid (parseD l = readOut i (gOf h lv items) (piecesB 10 l')) ∧ i + l'.length ≤ 8192) (fun s _ _ => strOf s)
  case atStart => exact ⟨0, l, 0, _, _, [], [], rfl, rfl, GMem.new _ _ (by simp) 0, (Blk.new w _ _).alloc _, by go_grown, HP, by omega⟩
  case round =>
    obtain ⟨i, l', h, vl, ve, lv, items, rfl, rfl, M, BR, hb, HI, hil⟩ := hrel
    obtain ⟨A, cA, A', cA', rfl, rfl, hG⟩ := M.at_
    by_cases hend : 0 < i ∧ l' = []
    case pos =>
      obtain ⟨hi0, rfl⟩ := hend
      have hq : (((i : Int) + 1) == 1) = false := by simp; omega
      have HE : Hid (parseD l = finG (gOf h lv items)) := Lib.hid (by rw [HI.out]; exact readOut_end hi0)
      obtain ⟨p1, p2, p3⟩ := M.gr.facts
      clear HI
      go_wp2_with fail
      have hck := check_any A A' cA cA' (gOf h lv items) wr hG
      rw [gOf_v] at hck
      refine hck.mono ?_
      clear hck
      rintro e w5 ⟨rfl, hb5⟩
      have hbw := ext_trans hb hb5
      obtain ⟨c1, c2, c3⟩ := (BR.ext hb5).facts
      obtain ⟨p1, p2, p3⟩ := (M.gr.ext hb5).facts
      have hG5 := hG.ext hb5
      by_cases h0 : graphErr (gOf h lv items) = 0
      · have HF : Hid (parseD l = (gOf h lv items, 0, 0)) := Lib.hid (by rw [HE.out]; unfold finG; rw [if_pos h0])
        rw [h0]
        clear h0 HE
        go_wp2_with fail
        refine bodyPost_ret (v := .tuple #[.agg #[.int .i64 h, .slice A lv.length cA, .slice A' items.length cA'], .int .i64 0, .int .i64 0]) (by simp [results, Tryd.results17, go_sem, c1, c2, c3]) rfl ?_
        rw [HF.out]
        exact ⟨A, cA, A', cA', by rw [gOf_v], (M.ext hb5).told (BR.ext hb5) _ _ _, ((hbw.setCell (Nat.le_refl _) _).setCell (Nat.le_refl _) _).setCell (Nat.le_refl _) _⟩
      · have HF : Hid (parseD l = (noG, 0, graphErr (gOf h lv items))) := Lib.hid (by rw [HE.out]; unfold finG; rw [if_neg h0])
        have hn : (graphErr (gOf h lv items) != 0) = true := by simp [h0]
        clear h0 HE
        obtain ⟨er, her⟩ : ∃ er, graphErr (gOf h lv items) = er := ⟨_, rfl⟩
        rw [her] at hn HF ⊢
        clear her
        go_wp2_with fail
        refine bodyPost_ret (v := .tuple #[gV none 0 none 0 noG, .int .i64 0, .int .i64 er]) (by simp [results, Tryd.results17, go_sem, c1, c2, c3]) rfl ?_
        rw [HF.out]
        exact ⟨none, 0, none, 0, rfl, noG_at _, ((hbw.setCell (Nat.le_refl _) _).setCell (Nat.le_refl _) _).setCell (Nat.le_refl _) _⟩
    case neg =>
      obtain ⟨f, hf1, hf2, hf3⟩ : ∃ f, ((((i : Int) + 1) == 1) = f) ∧ decide (i = 0) = f ∧ (f = false → (!l'.isEmpty) = true) := ⟨decide (i = 0), by
        rw [Bool.eq_iff_iff]; simp; omega, rfl, fun hf => by
        simp at hf
        cases l' with
        | nil => exact absurd ⟨by omega, rfl⟩ hend
        | cons x r => rfl⟩
      have HM5 := Lib.hid (HM.out.ext hb)
      have hcut := cut_any 10 l' wr (by omega) HM5.out
      obtain ⟨c1, c2, c3⟩ := BR.facts
      rcases pieces_two 10 l' with hp | ⟨p, q, ps, hp⟩
      · have HF : Hid (parseD l = (noG, (i : Int) + 1, 3)) := Lib.hid (by rw [HI.out, hp]; exact readOut_cut hend)
        rw [cut_none hp] at hcut
        clear hp HI hend hf2 M hG
        cases f
        · have hf4 := hf3 rfl
          clear hf3
          go_wp2_with fail
          refine hcut.mono ?_
          rintro e w5 ⟨rfl, k, rfl⟩
          go_wp2_with fail
          refine bodyPost_ret (v := .tuple #[gV none 0 none 0 noG, .int .i64 ((i : Int) + 1), .int .i64 3]) (by simp [results, Tryd.results17, go_sem, c1, c2, c3]) rfl ?_
          rw [HF.out]
          exact ⟨none, 0, none, 0, rfl, noG_at _, (((below_drewN hb k).setCell (Nat.le_refl _) _).setCell (Nat.le_refl _) _).setCell (Nat.le_refl _) _⟩
        · clear hf3
          go_wp2_with fail
          refine hcut.mono ?_
          rintro e w5 ⟨rfl, k, rfl⟩
          go_wp2_with fail
          refine bodyPost_ret (v := .tuple #[gV none 0 none 0 noG, .int .i64 ((i : Int) + 1), .int .i64 3]) (by simp [results, Tryd.results17, go_sem, c1, c2, c3]) rfl ?_
          rw [HF.out]
          exact ⟨none, 0, none, 0, rfl, noG_at _, (((below_drewN hb k).setCell (Nat.le_refl _) _).setCell (Nat.le_refl _) _).setCell (Nat.le_refl _) _⟩
      · obtain ⟨r, hc, hr, hrl⟩ := cut_some hp
        obtain ⟨v, ws, hv⟩ := pieces_form 32 p
        have hpl : p.length ≤ l'.length := (pieces_short 10 l').1 p (by rw [hp]; simp)
        have hps := pieces_short 32 p
        rw [hv] at hps
        simp only [List.length_cons] at hps
        have hsp := fun W (h : MaxL W) => split_any 32 p W (by omega) h
        rw [hv] at hsp
        simp only [List.length_cons] at hsp
        rw [hc] at hcut
        have HSP := Lib.hid hsp
        have HWS : Hid (∀ x, x ∈ ws → x.length ≤ 100000) := Lib.hid fun x hx => by have := hps.1 x (by simp [hx]); omega
        have hwl : ws.length ≤ 100000 := by omega
        have HN : Hid (readOut i (gOf h lv items) (piecesB 10 l') = match stepG (gOf h lv items) f (v :: ws) with | none => (noG, (i : Int) + 1, 3) | some g' => readOut (i + 1) g' (piecesB 10 r)) := Lib.hid (by
          rw [hp, hr, readOut, hf2, hv]
          cases stepG (gOf h lv items) f (v :: ws) <;> rfl)
        obtain ⟨st, hst⟩ : ∃ st, stepG (gOf h lv items) f (v :: ws) = st := ⟨_, rfl⟩
        have HST := Lib.hid hst
        rw [hst] at HN
        have HPM := Lib.hid M
        have HBR := Lib.hid BR
        clear hp hr hc hv hps hsp hpl hst hend hf2 M hG BR
        have body : ∀ W : World, True := fun _ => trivial
        clear body
        cases f
        all_goals
          try have hf4 := hf3 rfl
          clear hf3
          go_wp2_with fail
          refine hcut.mono ?_
          rintro e w5 ⟨rfl, k, rfl⟩
          clear hcut c1 c2 c3
          have hb5 := below_drewN hb k
          have M5 := HPM.out.drewN k
          have B5 := HBR.out.drewN k
          go_wp2_with fail
          refine (HSP.out _ (HM.out.ext hb5)).mono ?_
          rintro e w6 ⟨rfl, hS6, hb6⟩
          have M6 := M5.ext hb6
          have B6 := B5.ext hb6
          have hbw := ext_trans hb5 hb6
          clear hb6 M5 B5
          go_wp2_with fail
          refine (read_any (w.heap.size + 1) i h _ _ lv items _ 0 _ v ws _ w6 M6 hS6 hwl HWS.out (by omega)).mono ?_
          rintro e w7 ⟨hb7, hr7⟩
          rw [HST.out] at hr7
          have hz6 := hbw.size
          have hbw7 := hbw.trans (hb7.mono (Nat.le_succ _))
          have B7 := B6.below hb7 (Nat.lt_succ_self _)
          obtain ⟨c1, c2, c3⟩ := B7.facts
          clear B6 hS6 M6
          cases st with
          | none =>
            have HF : Hid (parseD l = (noG, (i : Int) + 1, 3)) := Lib.hid (by rw [HI.out, HN.out])
            simp only at hr7
            subst hr7
            go_wp2_with fail
            refine bodyPost_ret (v := .tuple #[gV none 0 none 0 noG, .int .i64 ((i : Int) + 1), .int .i64 3]) (by simp [results, Tryd.results17, go_sem, c1, c2, c3]) rfl ?_
            rw [HF.out]
            exact ⟨none, 0, none, 0, rfl, noG_at _, ((hbw7.setCell (Nat.le_refl _) _).setCell (Nat.le_refl _) _).setCell (Nat.le_refl _) _⟩
          | some g' =>
            simp only at hr7
            obtain ⟨rfl, h', vl', ve', lv', items', M7, rfl⟩ := hr7
            have HF : Hid (parseD l = readOut (i + 1) (gOf h' lv' items') (piecesB 10 r)) := Lib.hid (by rw [HI.out, HN.out])
            clear hb7 c1 c2 c3
            go_wp2_with fail
            go_roundw
            case rel => exact ⟨i + 1, r, h', vl', ve', lv', items', rfl, by go_num, M7, B7, hbw7, HF, by omega⟩
            case measure => simp [strOf, bs_size]; omega
end Go.Proofs.YtdpibehpmghghaaDoor
/- The walk of slices.Reverse over hops that a call has made. -/
namespace Go.Proofs.YtdpibehpmghghaaDoor
open Go.RowKit

/-- The first k and the last k have changed places. -/
def RevMid (hs cur : List HopD) (k : Nat) : Prop := cur.length = hs.length ∧ ∀ i, i < hs.length → cur[i]? = if i < k ∨ hs.length - k ≤ i then hs[hs.length - 1 - i]? else hs[i]?
theorem RevMid.start (hs : List HopD) : RevMid hs hs 0 := ⟨rfl, fun i hi => by rw [if_neg (by omega)]⟩
theorem RevMid.step {hs cur : List HopD} {k : Nat} (h : RevMid hs cur k) (hk : 2 * k + 1 < hs.length) {x y : HopD} (hx : cur[k]? = some x) (hy : cur[hs.length - 1 - k]? = some y) : RevMid hs ((cur.set k y).set (hs.length - 1 - k) x) (k + 1) := by
  obtain ⟨h1, h2⟩ := h
  refine ⟨by simp [h1], fun i hi => ?_⟩
  by_cases e1 : i = hs.length - 1 - k
  · rw [e1, List.getElem?_set_self (by simp; omega), if_pos (by omega)]
    have := h2 k (by omega)
    rw [if_neg (by omega), hx] at this
    rw [this]
    congr 1
    omega
  · rw [List.getElem?_set_ne (by omega)]
    by_cases e2 : i = k
    · rw [e2, List.getElem?_set_self (by omega), if_pos (by omega)]
      have := h2 (hs.length - 1 - k) (by omega)
      rw [if_neg (by omega), hy] at this
      exact this
    · rw [List.getElem?_set_ne (by omega), h2 i hi]
      by_cases c : i < k ∨ hs.length - k ≤ i
      · rw [if_pos c, if_pos (by omega)]
      · rw [if_neg c, if_neg (by omega)]
theorem RevMid.fin {hs cur : List HopD} {k : Nat} (h : RevMid hs cur k) (hk : hs.length ≤ 2 * k + 1) : cur = hs.reverse := by
  obtain ⟨h1, h2⟩ := h
  apply List.ext_getElem?
  intro i
  by_cases hi : i < hs.length
  · rw [h2 i hi, List.getElem?_reverse hi]
    split
    · rfl
    · rw [show hs.length - 1 - i = i by omega]
  · rw [List.getElem?_eq_none (by omega), List.getElem?_eq_none (by simp; omega)]

set_option maxRecDepth 100000 in
set_option maxHeartbeats 4000000 in
theorem reverseHops_any (b c n : Nat) (hs : List HopD) (w : World) (hH : HRow w b hs) (hn : hs.length = n) (hl : hs.length ≤ 1000) :
    Calls Tryd.prog 80 #[.slice (some ⟨b, 0, none⟩) n c] w fun e w' => e = .returned (.tuple #[]) ∧ HRow w' b hs.reverse ∧ (∀ g t cs, Blk w g t cs → g ≠ b → Blk w' g t cs) ∧ ∀ k (w0 : World), Below k w0 w → k ≤ b → Below k w0 w' := by
  subst hn
  have hlI : IntKind.i64.wrap ((hs.length : Int) - 1) = (hs.length : Int) - 1 := IntWalk.i64_in _ (by omega)
  go_enter Tryd.func80, Tryd.ntmps80
  go_wp2_with fail
  go_loopw [2, 3] (fun x y wr => ∃ (k : Nat) (cur : List HopD), k ≤ hs.length ∧ x = .int .i64 k ∧ y = .int .i64 ((hs.length : Int) - 1 - k) ∧ Hid (RevMid hs cur k) ∧ HRow wr b cur ∧ (∀ g t cs, Blk w g t cs → g ≠ b → Blk wr g t cs) ∧ ∀ k (w0 : World), Below k w0 w → k ≤ b → Below k w0 wr) (fun x _ _ => hs.length - (intOf x).toNat)
  case atStart => exact ⟨0, hs, Nat.zero_le _, rfl, by simp, Lib.hid (RevMid.start hs), hH, fun g t cs h _ => h, fun k w0 h _ => h⟩
  case round =>
    clear hH
    obtain ⟨k, cur, hk, rfl, rfl, HR, hH, hK, hB⟩ := hrel
    by_cases hlt : (k : Int) < (hs.length : Int) - 1 - k
    case neg =>
      have HE := Lib.hid (HR.out.fin (by omega))
      rw [HE.out] at hH
      go_wp2_with fail
      refine ⟨rfl, .tuple #[], by simp [results, Tryd.results80], ?_⟩
      exact ⟨rfl, hH, hK, hB⟩
    obtain ⟨x, hx⟩ := get_lt (l := cur) (k := k) (by rw [HR.out.1]; omega)
    obtain ⟨y, hy⟩ := get_lt (l := cur) (k := hs.length - 1 - k) (by rw [HR.out.1]; omega)
    have HN := Lib.hid (HR.out.step (by omega) hx hy)
    obtain ⟨x0, x1⟩ := hH.cell hx
    obtain ⟨y0, y1⟩ := hH.cell hy
    obtain ⟨j, hj⟩ : ∃ j : Nat, j = hs.length - 1 - k := ⟨_, rfl⟩
    have hji : (hs.length : Int) - 1 - k = (j : Int) := by omega
    have hjl : j < hs.length := by omega
    have hkj : k < j := by omega
    have hkl : k < hs.length := by omega
    rw [← hj] at y0 y1 HN
    rw [hji] at hlt ⊢
    have hcl := HR.out.1
    have HCL := Lib.hid hcl
    have HJI := Lib.hid hji
    clear hcl hji hj hx hy
    have hfz := hH.frozen
    have hbl := hH.lt
    have hw1 : IntKind.i64.wrap ((k : Int) + 1) = (k : Int) + 1 := IntWalk.i64_in _ (by omega)
    have hw2 : IntKind.i64.wrap ((j : Int) - 1) = (j : Int) - 1 := IntWalk.i64_in _ (by omega)
    go_wp2_with fail
    go_region
    have hH2 := ((hH.set k y (by rw [HCL.out]; exact hkl)).set j x (by rw [List.length_set, HCL.out]; exact hjl)).drew
    have hK2 : ∀ g t cs, Blk w g t cs → g ≠ b → Blk ((((wr.setCell ⟨b, k * 2, none⟩ (.int .i64 y.edge)).setCell ⟨b, k * 2 + 1, none⟩ (.int .i64 y.depart)).setCell ⟨b, j * 2, none⟩ (.int .i64 x.edge)).setCell ⟨b, j * 2 + 1, none⟩ (.int .i64 x.depart)).drew g t cs := fun g t cs h hne =>
      (((((hK g t cs h hne).far hne _).far hne _).far hne _).far hne _).drew
    have hB2 : ∀ q (w0 : World), Below q w0 w → q ≤ b → Below q w0 ((((wr.setCell ⟨b, k * 2, none⟩ (.int .i64 y.edge)).setCell ⟨b, k * 2 + 1, none⟩ (.int .i64 y.depart)).setCell ⟨b, j * 2, none⟩ (.int .i64 x.edge)).setCell ⟨b, j * 2 + 1, none⟩ (.int .i64 x.depart)).drew := fun q w0 h hq =>
      below_drew (((((hB q w0 h hq).setCell hq _).setCell hq _).setCell hq _).setCell hq _)
    clear x0 x1 y0 y1 hfz hbl
    go_wp2_with fail
    go_roundw
    case rel => exact ⟨k + 1, (cur.set k y).set j x, by omega, by go_num, by simp; have := HJI.out; omega, HN, hH2, hK2, hB2⟩
    case measure => simp [intOf]; omega
theorem reverseHops_nil (A : Option Addr) (c : Nat) (w : World) : Calls Tryd.prog 80 #[.slice A 0 c] w fun e w' => e = .returned (.tuple #[]) ∧ w = w' := by
  have hlI : IntKind.i64.wrap (-1) = -1 := IntWalk.i64_in _ (by omega)
  go_enter Tryd.func80, Tryd.ntmps80
  go_wp2_with fail
  go_loopw [2, 3] (fun x y wr => x = .int .i64 0 ∧ y = .int .i64 (-1) ∧ wr = w) (fun x _ _ => 0)
  case atStart => exact ⟨rfl, rfl, rfl⟩
  case round =>
    obtain ⟨rfl, rfl, rfl⟩ := hrel
    go_wp2_with fail
    refine ⟨rfl, .tuple #[], by simp [results, Tryd.results80], ?_⟩
    exact ⟨rfl, rfl⟩
end Go.Proofs.YtdpibehpmghghaaDoor
/- The walk of plain.spread: the ways from a vertex, the nearest vertex first. -/
namespace Go.Proofs.YtdpibehpmghghaaDoor
open Go.RowKit


/-- A list of numbers and an error are told. -/
def IntsOut (P : List Int → Prop) (er : Int) (w : World) (e : Ending) (w' : World) : Prop := ∃ l A c, P l ∧ e = .returned (.tuple #[.slice A l.length c, .int .i64 er]) ∧ SlAt RInt 1 w' A l ∧ l.length ≤ maxLen ∧ Below w.heap.size w w'
/-- A list of marks as a function; how many are not set. -/
def gb (r : List Bool) (i : Nat) : Bool := r.getD i false
def unset (r : List Bool) : Nat := (r.map fun b => if b then 0 else 1).sum
theorem gb_get {r : List Bool} {i : Nat} (h : i < r.length) : r[i]? = some (gb r i) := by simp [gb, List.getD, h]
theorem gb_set {r : List Bool} {c : Nat} (h : c < r.length) : gb (r.set c true) = mark (gb r) c := by
  funext j
  unfold mark
  by_cases hj : j = c
  · subst hj; simp [gb, List.getD, h]
  · simp only [if_neg hj, gb, List.getD]
    rw [List.getElem?_set_ne (fun h => hj h.symm)]
theorem unset_replicate (n : Nat) : unset (List.replicate n false) = n := by
  induction n with
  | zero => rfl
  | succ n ih => simp only [List.replicate_succ, unset, List.map_cons, List.sum_cons] at *; simp at ih ⊢; omega
theorem unset_set {r : List Bool} {c : Nat} (h : c < r.length) (hf : gb r c = false) : unset (r.set c true) < unset r := by
  induction r generalizing c with
  | nil => simp at h
  | cons x r ih =>
    cases c with
    | zero =>
      have : x = false := by simpa [gb] using hf
      subst this
      simp [unset]
    | succ c =>
      have := ih (c := c) (by simpa using h) (by simpa [gb] using hf)
      simp only [unset, List.set_cons_succ, List.map_cons, List.sum_cons] at *
      omega
/-- The nearest vertex so far of those that are not done; -1: none. -/
def MinAt (d : Nat → Int) (done : Nat → Bool) (I : Int) (k : Nat) (at' : Int) : Prop :=
  (at' = -1 ∧ ∀ i, i < k → done i = true ∨ I ≤ d i) ∨ ∃ c : Nat, at' = c ∧ c < k ∧ done c = false ∧ d c < I ∧ ∀ i, i < k → done i = true ∨ d c ≤ d i
section
variable {d : Nat → Int} {done : Nat → Bool} {I : Int} {k : Nat} {at' : Int}
theorem MinAt.zero : MinAt d done I 0 (-1) := .inl ⟨rfl, fun i h => by omega⟩
theorem MinAt.skip (h : MinAt d done I k at') (hk : done k = true ∨ I ≤ d k) : MinAt d done I (k + 1) at' := by
  rcases h with ⟨h1, h2⟩ | ⟨c, h1, h2, h3, h4, h5⟩
  · exact .inl ⟨h1, fun i hi => by
      by_cases e : i = k
      · rw [e]; exact hk
      · exact h2 i (by omega)⟩
  · exact .inr ⟨c, h1, by omega, h3, h4, fun i hi => by
      by_cases e : i = k
      · rw [e]; rcases hk with hk | hk
        · exact .inl hk
        · right; omega
      · exact h5 i (by omega)⟩
theorem MinAt.stay {c : Nat} (h : MinAt d done I k c) (hk : d c ≤ d k) : MinAt d done I (k + 1) c := by
  rcases h with ⟨h1, h2⟩ | ⟨e, h1, h2, h3, h4, h5⟩
  · omega
  · obtain rfl : c = e := by omega
    exact .inr ⟨c, rfl, by omega, h3, h4, fun i hi => by
      by_cases e : i = k
      · rw [e]; exact .inr hk
      · exact h5 i (by omega)⟩
theorem MinAt.take (h : MinAt d done I k at') (hk : done k = false) (hI : d k < I) (hlt : ∀ c : Nat, at' = c → d k < d c) : MinAt d done I (k + 1) k := by
  rcases h with ⟨h1, h2⟩ | ⟨e, h1, h2, h3, h4, h5⟩
  · exact .inr ⟨k, rfl, by omega, hk, hI, fun i hi => by
      by_cases e : i = k
      · rw [e]; right; exact Int.le_refl _
      · rcases h2 i (by omega) with h | h
        · exact .inl h
        · right; omega⟩
  · have := hlt e h1
    exact .inr ⟨k, rfl, by omega, hk, hI, fun i hi => by
      by_cases e' : i = k
      · rw [e']; right; exact Int.le_refl _
      · rcases h5 i (by omega) with h | h
        · exact .inl h
        · right; omega⟩
theorem MinAt.less {m : Nat} (h : MinAt d done I k m) (hk : done k = false) (hI : d k < I) (hlt : d k < d m) : MinAt d done I (k + 1) k :=
  h.take hk hI fun c h => by
    obtain rfl : m = c := by omega
    exact hlt
theorem MinAt.cases (h : MinAt d done I k at') : (at' = -1 ∧ ∀ i, i < k → done i = true ∨ I ≤ d i) ∨ ∃ c : Nat, at' = c ∧ c < k ∧ done c = false ∧ d c < I ∧ ∀ v, v < k → done v = false → d c ≤ d v := by
  rcases h with h | ⟨c, h1, h2, h3, h4, h5⟩
  · exact .inl h
  · exact .inr ⟨c, h1, h2, h3, h4, fun v hv hd => by
      rcases h5 v hv with h | h
      · rw [hd] at h; simp at h
      · exact h⟩
end
theorem arcsOf_get {s : SnapD} {wt : ArcD → Int} {j : Nat} {y : ArcD} (h : s.arcs[j]? = some y) : (arcsOf s wt)[j]? = some (arcF wt y) := by simp [arcsOf, h]
theorem near_start {s : SnapD} {wt : ArcD → Int} {v : Int} {n : Nat} : Near (arcsOf s wt) n Far (gi (startD s v)) (gi (startD s v)) (fun _ => false) :=
  ⟨fun _ => Int.le_refl _, fun i _ => start_big s v i, above_init, fun _ _ _ h => by simp at h, fun _ _ h => by simp at h⟩
theorem gb_replicate (n : Nat) : gb (List.replicate n false) = fun _ => false := by
  funext i
  simp only [gb, List.getD, List.getElem?_replicate]
  split <;> rfl
theorem fill_done {n : Nat} {l : List Int} (hl : l.length = n) (h : ∀ i, i < n → gi l i = Far) : l = List.replicate n Far :=
  gi_eq_of (by simp [hl]) fun i hi => by rw [h i (by omega)]; exact (gi_of (by simp [hl ▸ hi])).symm
theorem start_alive {s : SnapD} {v : Int} (h0 : 0 ≤ v) (h1 : v < s.alive.length) (h : s.alive[v.toNat]? = some true) : (List.replicate s.alive.length Far).set v.toNat 0 = startD s v :=
  gi_eq_of (by simp [startD]) fun i hi => by
    have hi' : i < s.alive.length := by simpa using hi
    rw [gi_set (by simp; omega)]
    by_cases e : i = v.toNat
    · rw [e, upd_at]; unfold startD; rw [gi_range (by omega), if_pos ⟨h, by omega⟩]
    · rw [upd_ne _ _ e]
      unfold startD; rw [gi_range hi', if_neg (fun h => e (by omega))]
      exact gi_of (by simp [hi'])
theorem start_dead {s : SnapD} {v : Int} (_h0 : 0 ≤ v) (h : s.alive[v.toNat]? = some false) : List.replicate s.alive.length Far = startD s v :=
  gi_eq_of (by simp [startD]) fun i hi => by
    have hi' : i < s.alive.length := by simpa using hi
    unfold startD; rw [gi_range hi', if_neg (fun ⟨h1, h2⟩ => by rw [← h2] at h; simp only [Int.toNat_natCast] at h; rw [h1] at h; simp at h)]
    exact gi_of (by simp [hi'])
theorem near_ways {s : SnapD} (hs : SnapOk s) {wt : ArcD → Int} {v : Int} {l : List Int} {done : Nat → Bool} (hl : l.length = s.alive.length) (hwt : ∀ a, a ∈ s.arcs → 0 ≤ wt a) (h : Near (arcsOf s wt) s.alive.length Far (gi (startD s v)) (gi l) done)
    (hall : ∀ i, i < s.alive.length → done i = true ∨ Far ≤ gi l i) : WaysL s wt v l := by
  refine ⟨hl, ?_⟩
  rw [← mem_arcsOf]
  refine h.best hall fun x hx => ?_
  simp only [arcsOf, List.mem_map] at hx
  obtain ⟨a, ha, rfl⟩ := hx
  have := hs.arcs a ha
  have h1 := this.a1; have h2 := this.b1
  have := hwt a ha
  exact ⟨h1, h2, mono_add _, by simp only [arcF]; omega⟩
def WaysOut (s : SnapD) (wt : ArcD → Int) (v : Int) (l : List Int) : Prop := if waysErr s v = 0 then WaysL s wt v l else l = []

end Go.Proofs.YtdpibehpmghghaaDoor
