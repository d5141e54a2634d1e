/- Several texts in one: Parse, DeskAsked, DeskHops, DeskHopsW. -/
import Derived.Test.YtjcimdpldlamfaaGreatDoorBd8faed83370
import Derived.Test.YtjcimdpldlamfaaGreatDoorBdaec1bd2d78
import Derived.Test.YtjcimdpldlamfaaGreatDoorBdd80fced6e0
import Derived.Test.YtjcimdpldlamfaaGreatDoorBdc202a36710
import Derived.Test.YtjcimdpldlamfaaGreatDoorBd1aa46607c4
import Derived.Test.YtjcimdpldlamfaaGreatDoorBde9be1d2845
import Derived.Test.YtjcimdpldlamfaaGreatDoorBdeff2250ea6
import Derived.Test.YtjcimdpldlamfaaGreatDoorBdcbb4f396b9
/- The walk of graph.Parse. -/
namespace Go.Proofs.YtjcimdpldlamfaaGreatDoor
open Go.RowKit

theorem pieces_single {c : UInt8} {l p : List UInt8} (h : piecesB c l = [p]) : p = l := by
 have := join_pieces c l
 rw [h] at this
 simpa [joinB] using this
theorem pieces_short (c : UInt8) : ∀ (l : List UInt8), (∀ x, x ∈ piecesB c l → x.length ≤ l.length) ∧ (piecesB c l).length ≤ l.length + 1
 | [] => ⟨fun x h => by simp [piecesB] at h; simp [h], by simp [piecesB]⟩
 | b :: l => by
  obtain ⟨h1, h2⟩ := pieces_short c l
  obtain ⟨p, ps, hp⟩ := pieces_form c l
  by_cases hb : b = c
  ·subst hb
   rw [pieces_cons_hit]
   refine ⟨fun x hx => ?_, by simp only [List.length_cons]; omega⟩
   rcases List.mem_cons.1 hx with rfl | hx
   ·simp
   ·have := h1 x hx; simp only [List.length_cons]; omega
  ·rw [pieces_cons_miss hb hp]
   rw [hp] at h1 h2
   refine ⟨fun x hx => ?_, by simp only [List.length_cons] at h2 ⊢; omega⟩
   rcases List.mem_cons.1 hx with rfl | hx
   ·have := h1 p (by simp); simp only [List.length_cons]; omega
   ·have := h1 x (by simp [hx]); simp only [List.length_cons]; omega
theorem pieces_two (c : UInt8) (l : List UInt8) : piecesB c l = [l] ∨ ∃ p q ps, piecesB c l = p :: q :: ps := by
 obtain ⟨p, ps, h⟩ := pieces_form c l
 cases ps with
 | nil => left; rw [h, pieces_single h]
 | cons q ps => exact .inr ⟨p, q, ps, h⟩
def strOf (v : Value) : Nat := match v with | .string b => b.size | _ => 0
/-- What Parse tells. -/
def ParseOut (r : GraphD × Int × Int) (w : World) (e : Ending) (w' : World) : Prop := ∃ A c A' c', e = .returned (.tuple #[gV A c A' c' r.1, .int .i64 r.2.1, .int .i64 r.2.2]) ∧ GraphAt w' A c A' c' r.1 ∧ Below w.heap.size w w'
theorem noG_at (w : World) : GraphAt w none 0 none 0 noG := ⟨by simp [I64], by simp, by simp [maxLen], by simp, by simp [maxLen], SlAt.nil, SlAt.nil⟩
theorem gOf_v {A A' : Option Addr} {c c' : Nat} {h : Int} {lv : List IvlD} {items : List EItem} : gV A c A' c' (gOf h lv items) = .agg #[.int .i64 h, .slice A lv.length c, .slice A' items.length c'] := by
 unfold gV gOf
 rw [List.length_map]
set_option maxRecDepth 100000 in
set_option maxHeartbeats 16000000 in
theorem parse_any (l : List UInt8) (w : World) (hl : l.length ≤ 9223372036854775807) (hm : MaxL w) : Calls Tryz.prog 71 #[.string (bs l)] w (ParseOut (parseD l) w) := by
 have hsz := bs_size l
 by_cases h1 : 8192 < l.length
 case pos =>
  have HP : Hid (parseD l = (noG, 0, 2)) := Lib.hid (by unfold parseD; rw [if_pos h1])
  have hd : decide ((l.length : Int) > 8192) = true := by simp; omega
  rw [HP.out]
  have B0 := Blk.new w 68 #[.int .i64 0, .slice none 0 0, .slice none 0 0]
  obtain ⟨c1, c2, c3⟩ := B0.facts
  clear h1 hsz
  go_enter Tryz.func71, Tryz.ntmps71
  go_wp2_with fail
  refine bodyPost_ret (v := .tuple #[gV none 0 none 0 noG, .int .i64 0, .int .i64 2]) (by simp [results, Tryz.results71, go_sem, c1]) rfl ?_
  exact ⟨none, 0, none, 0, rfl, noG_at _, by go_grown⟩
 have HP : Hid (parseD l = readOut 0 noG (piecesB 10 l)) := Lib.hid (by unfold parseD; rw [if_neg h1])
 have hd : decide ((l.length : Int) > 8192) = false := by simp; omega
 have hl8 : l.length ≤ 8192 := by omega
 have HM := Lib.hid hm
 clear h1 hsz hl hm
 go_enter Tryz.func71, Tryz.ntmps71
 go_wp2_with fail
 go_loopw [0, 6] (fun s at_ wr => ∃ (i : Nat) (l' : List UInt8) (h : Int) (vl ve : Value) (lv : List IvlD) (items : List EItem), s = .string (bs l') ∧ at_ = .int .i64 ((i : Int) + 1) ∧ GMem wr (w.heap.size + 1) i h vl ve lv items ∧ Blk wr w.heap.size 68 #[.int .i64 0, .slice none 0 0, .slice none 0 0] ∧ Below w.heap.size w wr ∧ Hid (parseD l = readOut i (gOf h lv items) (piecesB 10 l')) ∧ i + l'.length ≤ 8192) (fun s _ _ => strOf s)
 case atStart => exact ⟨0, l, 0, _, _, [], [], rfl, rfl, GMem.new _ _ (by simp) 0, (Blk.new w _ _).alloc _, by go_grown, HP, by omega⟩
 case round =>
  obtain ⟨i, l', h, vl, ve, lv, items, rfl, rfl, M, BR, hb, HI, hil⟩ := hrel
  obtain ⟨A, cA, A', cA', rfl, rfl, hG⟩ := M.at_
  by_cases hend : 0 < i ∧ l' = []
  case pos =>
   obtain ⟨hi0, rfl⟩ := hend
   have hq : (((i : Int) + 1) == 1) = false := by simp; omega
   have HE : Hid (parseD l = finG (gOf h lv items)) := Lib.hid (by rw [HI.out]; exact readOut_end hi0)
   obtain ⟨p1, p2, p3⟩ := M.gr.facts
   clear HI
   go_wp2_with fail
   have hck := check_any A A' cA cA' (gOf h lv items) wr hG
   rw [gOf_v] at hck
   refine hck.mono ?_
   clear hck
   rintro e w5 ⟨rfl, hb5⟩
   have hbw := ext_trans hb hb5
   obtain ⟨c1, c2, c3⟩ := (BR.ext hb5).facts
   obtain ⟨p1, p2, p3⟩ := (M.gr.ext hb5).facts
   have hG5 := hG.ext hb5
   by_cases h0 : graphErr (gOf h lv items) = 0
   ·have HF : Hid (parseD l = (gOf h lv items, 0, 0)) := Lib.hid (by rw [HE.out]; unfold finG; rw [if_pos h0])
    rw [h0]
    clear h0 HE
    go_wp2_with fail
    refine bodyPost_ret (v := .tuple #[.agg #[.int .i64 h, .slice A lv.length cA, .slice A' items.length cA'], .int .i64 0, .int .i64 0]) (by simp [results, Tryz.results71, go_sem, c1]) rfl ?_
    rw [HF.out]
    exact ⟨A, cA, A', cA', by rw [gOf_v], (M.ext hb5).told (BR.ext hb5) _ _ _, ((hbw.setCell (Nat.le_refl _) _).setCell (Nat.le_refl _) _).setCell (Nat.le_refl _) _⟩
   ·have HF : Hid (parseD l = (noG, 0, graphErr (gOf h lv items))) := Lib.hid (by rw [HE.out]; unfold finG; rw [if_neg h0])
    have hn : (graphErr (gOf h lv items) != 0) = true := by simp [h0]
    clear h0 HE
    obtain ⟨er, her⟩ : ∃ er, graphErr (gOf h lv items) = er := ⟨_, rfl⟩
    rw [her] at hn HF ⊢
    clear her
    go_wp2_with fail
    refine bodyPost_ret (v := .tuple #[gV none 0 none 0 noG, .int .i64 0, .int .i64 er]) (by simp [results, Tryz.results71, go_sem, c1]) rfl ?_
    rw [HF.out]
    exact ⟨none, 0, none, 0, rfl, noG_at _, ((hbw.setCell (Nat.le_refl _) _).setCell (Nat.le_refl _) _).setCell (Nat.le_refl _) _⟩
  case neg =>
   obtain ⟨f, hf1, hf2, hf3⟩ : ∃ f, ((((i : Int) + 1) == 1) = f) ∧ decide (i = 0) = f ∧ (f = false → (!l'.isEmpty) = true) := ⟨decide (i = 0), by
    rw [Bool.eq_iff_iff]; simp; omega, rfl, fun hf => by
    simp at hf
    cases l' with
    | nil => exact absurd ⟨by omega, rfl⟩ hend
    | cons x r => rfl⟩
   have HM5 := Lib.hid (HM.out.ext hb)
   have hcut := cut_any 10 l' wr (by omega) HM5.out
   obtain ⟨c1, c2, c3⟩ := BR.facts
   rcases pieces_two 10 l' with hp | ⟨p, q, ps, hp⟩
   ·have HF : Hid (parseD l = (noG, (i : Int) + 1, 3)) := Lib.hid (by rw [HI.out, hp]; exact readOut_cut hend)
    rw [cut_none hp] at hcut
    clear hp HI hend hf2 M hG
    cases f
    ·have hf4 := hf3 rfl
     clear hf3
     go_wp2_with fail
     refine hcut.mono ?_
     rintro e w5 ⟨rfl, k, rfl⟩
     go_wp2_with fail
     refine bodyPost_ret (v := .tuple #[gV none 0 none 0 noG, .int .i64 ((i : Int) + 1), .int .i64 3]) (by simp [results, Tryz.results71, go_sem, c1]) rfl ?_
     rw [HF.out]
     exact ⟨none, 0, none, 0, rfl, noG_at _, (((below_drewN hb k).setCell (Nat.le_refl _) _).setCell (Nat.le_refl _) _).setCell (Nat.le_refl _) _⟩
    ·clear hf3
     go_wp2_with fail
     refine hcut.mono ?_
     rintro e w5 ⟨rfl, k, rfl⟩
     go_wp2_with fail
     refine bodyPost_ret (v := .tuple #[gV none 0 none 0 noG, .int .i64 ((i : Int) + 1), .int .i64 3]) (by simp [results, Tryz.results71, go_sem, c1]) rfl ?_
     rw [HF.out]
     exact ⟨none, 0, none, 0, rfl, noG_at _, (((below_drewN hb k).setCell (Nat.le_refl _) _).setCell (Nat.le_refl _) _).setCell (Nat.le_refl _) _⟩
   ·obtain ⟨r, hc, hr, hrl⟩ := cut_some hp
    obtain ⟨v, ws, hv⟩ := pieces_form 32 p
    have hpl : p.length ≤ l'.length := (pieces_short 10 l').1 p (by rw [hp]; simp)
    have hps := pieces_short 32 p
    rw [hv] at hps
    simp only [List.length_cons] at hps
    have hsp := fun W (h : MaxL W) => split_any 32 p W (by omega) h
    rw [hv] at hsp
    simp only [List.length_cons] at hsp
    rw [hc] at hcut
    have HSP := Lib.hid hsp
    have HWS : Hid (∀ x, x ∈ ws → x.length ≤ 100000) := Lib.hid fun x hx => by have := hps.1 x (by simp [hx]); omega
    have hwl : ws.length ≤ 100000 := by omega
    have HN : Hid (readOut i (gOf h lv items) (piecesB 10 l') = match stepG (gOf h lv items) f (v :: ws) with | none => (noG, (i : Int) + 1, 3) | some g' => readOut (i + 1) g' (piecesB 10 r)) := Lib.hid (by
     rw [hp, hr, readOut, hf2, hv]
     cases stepG (gOf h lv items) f (v :: ws) <;> rfl)
    obtain ⟨st, hst⟩ : ∃ st, stepG (gOf h lv items) f (v :: ws) = st := ⟨_, rfl⟩
    have HST := Lib.hid hst
    rw [hst] at HN
    have HPM := Lib.hid M
    have HBR := Lib.hid BR
    clear hp hr hc hv hps hsp hpl hst hend hf2 M hG BR
    have body : ∀ W : World, True := fun _ => trivial
    clear body
    cases f
    all_goals
     try have hf4 := hf3 rfl
     clear hf3
     go_wp2_with fail
     refine hcut.mono ?_
     rintro e w5 ⟨rfl, k, rfl⟩
     clear hcut c1 c2 c3
     have hb5 := below_drewN hb k
     have M5 := HPM.out.drewN k
     have B5 := HBR.out.drewN k
     go_wp2_with fail
     refine (HSP.out _ (HM.out.ext hb5)).mono ?_
     rintro e w6 ⟨rfl, hS6, hb6⟩
     have M6 := M5.ext hb6
     have B6 := B5.ext hb6
     have hbw := ext_trans hb5 hb6
     clear hb6 M5 B5
     go_wp2_with fail
     refine (read_any (w.heap.size + 1) i h _ _ lv items _ 0 _ v ws _ w6 M6 hS6 hwl HWS.out (by omega)).mono ?_
     rintro e w7 ⟨hb7, hr7⟩
     rw [HST.out] at hr7
     have hz6 := hbw.size
     have hbw7 := hbw.trans (hb7.mono (Nat.le_succ _))
     have B7 := B6.below hb7 (Nat.lt_succ_self _)
     obtain ⟨c1, c2, c3⟩ := B7.facts
     clear B6 hS6 M6
     cases st with
     | none =>
      have HF : Hid (parseD l = (noG, (i : Int) + 1, 3)) := Lib.hid (by rw [HI.out, HN.out])
      simp only at hr7
      subst hr7
      go_wp2_with fail
      refine bodyPost_ret (v := .tuple #[gV none 0 none 0 noG, .int .i64 ((i : Int) + 1), .int .i64 3]) (by simp [results, Tryz.results71, go_sem, c1]) rfl ?_
      rw [HF.out]
      exact ⟨none, 0, none, 0, rfl, noG_at _, ((hbw7.setCell (Nat.le_refl _) _).setCell (Nat.le_refl _) _).setCell (Nat.le_refl _) _⟩
     | some g' =>
      simp only at hr7
      obtain ⟨rfl, h', vl', ve', lv', items', M7, rfl⟩ := hr7
      have HF : Hid (parseD l = readOut (i + 1) (gOf h' lv' items') (piecesB 10 r)) := Lib.hid (by rw [HI.out, HN.out])
      clear hb7 c1 c2 c3
      go_wp2_with fail
      go_roundw
      case rel => exact ⟨i + 1, r, h', vl', ve', lv', items', rfl, by go_num, M7, B7, hbw7, HF, by omega⟩
      case measure => simp [strOf, bs_size]; omega
end Go.Proofs.YtjcimdpldlamfaaGreatDoor
/- The walks of desk.asked, its first closure, and desk.netted. -/
namespace Go.Proofs.YtjcimdpldlamfaaGreatDoor
open Go.RowKit

/-- A function that answers F of a graph and so many numbers. -/
def ThenOk (fs : Nat) (F : Ans) (many : Nat) : Prop := ∀ (A A' An : Option Addr) (c c' cn : Nat) (g : GraphD) (n : List Int) (w : World), GraphAt w A c A' c' g → Valid g → IntsAt w An cn n → n.length = many → ITab w →
 Calls Tryz.prog fs #[gV A c A' c' g, .slice An n.length cn] w fun e w' => e = .returned (.string (bs (F g n))) ∧ (F g n).length ≤ 100000 ∧ Below w.heap.size w w'
set_option maxRecDepth 100000 in
set_option maxHeartbeats 2000000 in
theorem show_then (A A' An : Option Addr) (c c' cn : Nat) (g : GraphD) (n : List Int) (w : World) (hG : GraphAt w A c A' c' g) (hV : Valid g) (ht : ITab w) :
  Calls Tryz.prog 49 #[gV A c A' c' g, .slice An n.length cn] w fun e w' => e = .returned (.string (bs (ansShow g n))) ∧ (ansShow g n).length ≤ 100000 ∧ Below w.heap.size w w' := by
 have hba := ext_alloc (Below.refl w.heap.size w) (Obj.cells (gC A c A' c' g) 68)
 have hp := print_any A A' c c' g _ (hG.ext hba) (ht.ext hba)
 rw [valid_ok hV, if_pos rfl] at hp
 have hl := graphT_len hV
 have HR : Hid (ansShow g n = graphT g ++ wOk) := Lib.hid (by unfold ansShow; rw [if_pos (valid_ok hV)])
 obtain ⟨t, htt⟩ : ∃ t, graphT g = t := ⟨_, rfl⟩
 rw [htt] at hp hl HR
 clear htt hG ht
 go_enter Tryz.func49, Tryz.ntmps49
 go_wp2_with fail
 refine hp.mono ?_
 rintro e w1 ⟨rfl, hb1⟩
 have hb2 := ext_trans hba hb1
 clear hp
 go_wp2_with fail
 go_ret
 exact ⟨by rw [HR.out]; rfl, by rw [HR.out, List.length_append]; have : wOk.length = 2 := rfl; omega, hb2⟩
/-- What asked tells: a function and how many numbers it wants, or none. -/
def AskedOk (verb : List UInt8) : Prop := (∃ (many : Nat) (F : Ans) (fs : Nat), askT verb = some (many, F) ∧ many ≤ 2 ∧ ThenOk fs F many ∧ Enters Tryz.prog fs ∧ ∀ w, Calls Tryz.prog 32 #[.string (bs verb)] w fun e w' => e = .returned (.tuple #[.int .i64 many, .func (.func fs) #[] #[]]) ∧ Below w.heap.size w w') ∨
 (askT verb = none ∧ ∀ w, Calls Tryz.prog 32 #[.string (bs verb)] w fun e w' => e = .returned (.tuple #[.int .i64 0, Value.nilFunc]) ∧ Below w.heap.size w w')
-- ASKED BEGIN
theorem enters_askShow : Enters Tryz.prog 49 := enters_of Tryz.func49 (by kernel_rfl) rfl
set_option maxRecDepth 100000 in
theorem ask_Show : AskedOk vShow := .inl ⟨0, ansShow, 49, by unfold askT; simp [vShow, vHops, vCosts, vLabels, vAll, vEarly, vLate, vCheap, vFew, vFast], by decide, fun A A' An c c' cn g n w hG hV _ _ ht => show_then A A' An c c' cn g n w hG hV ht, enters_askShow, fun w => by
 show Calls Tryz.prog 32 #[.string ⟨#[115, 104, 111, 119]⟩] w _
 go_enter Tryz.func32, Tryz.ntmps32
 go_wp2_with fail
 go_ret2
 exact ⟨rfl, by go_grown⟩⟩
theorem enters_askHops : Enters Tryz.prog 51 := enters_of Tryz.func51 (by kernel_rfl) rfl
set_option maxRecDepth 100000 in
theorem ask_Hops : AskedOk vHops := .inl ⟨2, ansHops, 51, by unfold askT; simp [vShow, vHops, vCosts, vLabels, vAll, vEarly, vLate, vCheap, vFew, vFast], by decide, fun A A' An c c' cn g n w hG hV hN hn ht => hops_then A A' An c c' cn g n w hG hV hN hn ht, enters_askHops, fun w => by
 show Calls Tryz.prog 32 #[.string ⟨#[104, 111, 112, 115]⟩] w _
 go_enter Tryz.func32, Tryz.ntmps32
 go_wp2_with fail
 go_ret2
 exact ⟨rfl, by go_grown⟩⟩
theorem enters_askCosts : Enters Tryz.prog 55 := enters_of Tryz.func55 (by kernel_rfl) rfl
set_option maxRecDepth 100000 in
theorem ask_Costs : AskedOk vCosts := .inl ⟨2, ansCosts, 55, by unfold askT; simp [vShow, vHops, vCosts, vLabels, vAll, vEarly, vLate, vCheap, vFew, vFast], by decide, fun A A' An c c' cn g n w hG hV hN hn ht => pcosts_then A A' An c c' cn g n w hG hV hN hn ht, enters_askCosts, fun w => by
 show Calls Tryz.prog 32 #[.string ⟨#[99, 111, 115, 116, 115]⟩] w _
 go_enter Tryz.func32, Tryz.ntmps32
 go_wp2_with fail
 go_ret2
 exact ⟨rfl, by go_grown⟩⟩
theorem enters_askLabels : Enters Tryz.prog 58 := enters_of Tryz.func58 (by kernel_rfl) rfl
set_option maxRecDepth 100000 in
theorem ask_Labels : AskedOk vLabels := .inl ⟨1, ansLabels, 58, by unfold askT; simp [vShow, vHops, vCosts, vLabels, vAll, vEarly, vLate, vCheap, vFew, vFast], by decide, fun A A' An c c' cn g n w hG hV hN hn ht => labels_then A A' An c c' cn g n w hG hV hN hn ht, enters_askLabels, fun w => by
 show Calls Tryz.prog 32 #[.string ⟨#[108, 97, 98, 101, 108, 115]⟩] w _
 go_enter Tryz.func32, Tryz.ntmps32
 go_wp2_with fail
 go_ret2
 exact ⟨rfl, by go_grown⟩⟩
theorem enters_askAll : Enters Tryz.prog 60 := enters_of Tryz.func60 (by kernel_rfl) rfl
set_option maxRecDepth 100000 in
theorem ask_All : AskedOk vAll := .inl ⟨2, ansAll, 60, by unfold askT; simp [vShow, vHops, vCosts, vLabels, vAll, vEarly, vLate, vCheap, vFew, vFast], by decide, fun A A' An c c' cn g n w hG hV hN hn ht => all_then A A' An c c' cn g n w hG hV hN hn ht, enters_askAll, fun w => by
 show Calls Tryz.prog 32 #[.string ⟨#[97, 108, 108]⟩] w _
 go_enter Tryz.func32, Tryz.ntmps32
 go_wp2_with fail
 go_ret2
 exact ⟨rfl, by go_grown⟩⟩
theorem enters_askEarly : Enters Tryz.prog 61 := enters_of Tryz.func61 (by kernel_rfl) rfl
set_option maxRecDepth 100000 in
theorem ask_Early : AskedOk vEarly := .inl ⟨2, ansEarly, 61, by unfold askT; simp [vShow, vHops, vCosts, vLabels, vAll, vEarly, vLate, vCheap, vFew, vFast], by decide, fun A A' An c c' cn g n w hG hV hN hn ht => early_then A A' An c c' cn g n w hG hV hN hn ht, enters_askEarly, fun w => by
 show Calls Tryz.prog 32 #[.string ⟨#[101, 97, 114, 108, 121]⟩] w _
 go_enter Tryz.func32, Tryz.ntmps32
 go_wp2_with fail
 go_ret2
 exact ⟨rfl, by go_grown⟩⟩
theorem enters_askLate : Enters Tryz.prog 63 := enters_of Tryz.func63 (by kernel_rfl) rfl
set_option maxRecDepth 100000 in
theorem ask_Late : AskedOk vLate := .inl ⟨2, ansLate, 63, by unfold askT; simp [vShow, vHops, vCosts, vLabels, vAll, vEarly, vLate, vCheap, vFew, vFast], by decide, fun A A' An c c' cn g n w hG hV hN hn ht => late_then A A' An c c' cn g n w hG hV hN hn ht, enters_askLate, fun w => by
 show Calls Tryz.prog 32 #[.string ⟨#[108, 97, 116, 101]⟩] w _
 go_enter Tryz.func32, Tryz.ntmps32
 go_wp2_with fail
 go_ret2
 exact ⟨rfl, by go_grown⟩⟩
theorem enters_askCheap : Enters Tryz.prog 65 := enters_of Tryz.func65 (by kernel_rfl) rfl
set_option maxRecDepth 100000 in
theorem ask_Cheap : AskedOk vCheap := .inl ⟨2, ansCheap, 65, by unfold askT; simp [vShow, vHops, vCosts, vLabels, vAll, vEarly, vLate, vCheap, vFew, vFast], by decide, fun A A' An c c' cn g n w hG hV hN hn ht => cheap_then A A' An c c' cn g n w hG hV hN hn ht, enters_askCheap, fun w => by
 show Calls Tryz.prog 32 #[.string ⟨#[99, 104, 101, 97, 112]⟩] w _
 go_enter Tryz.func32, Tryz.ntmps32
 go_wp2_with fail
 go_ret2
 exact ⟨rfl, by go_grown⟩⟩
theorem enters_askFew : Enters Tryz.prog 67 := enters_of Tryz.func67 (by kernel_rfl) rfl
set_option maxRecDepth 100000 in
theorem ask_Few : AskedOk vFew := .inl ⟨2, ansFew, 67, by unfold askT; simp [vShow, vHops, vCosts, vLabels, vAll, vEarly, vLate, vCheap, vFew, vFast], by decide, fun A A' An c c' cn g n w hG hV hN hn ht => few_then A A' An c c' cn g n w hG hV hN hn ht, enters_askFew, fun w => by
 show Calls Tryz.prog 32 #[.string ⟨#[102, 101, 119]⟩] w _
 go_enter Tryz.func32, Tryz.ntmps32
 go_wp2_with fail
 go_ret2
 exact ⟨rfl, by go_grown⟩⟩
theorem enters_askFast : Enters Tryz.prog 69 := enters_of Tryz.func69 (by kernel_rfl) rfl
set_option maxRecDepth 100000 in
theorem ask_Fast : AskedOk vFast := .inl ⟨2, ansFast, 69, by unfold askT; simp [vShow, vHops, vCosts, vLabels, vAll, vEarly, vLate, vCheap, vFew, vFast], by decide, fun A A' An c c' cn g n w hG hV hN hn ht => fast_then A A' An c c' cn g n w hG hV hN hn ht, enters_askFast, fun w => by
 show Calls Tryz.prog 32 #[.string ⟨#[102, 97, 115, 116]⟩] w _
 go_enter Tryz.func32, Tryz.ntmps32
 go_wp2_with fail
 go_ret2
 exact ⟨rfl, by go_grown⟩⟩
set_option maxRecDepth 100000 in
set_option maxHeartbeats 2000000 in
theorem ask_none (verb : List UInt8) (h0 : verb ≠ vShow) (h1 : verb ≠ vHops) (h2 : verb ≠ vCosts) (h3 : verb ≠ vLabels) (h4 : verb ≠ vAll) (h5 : verb ≠ vEarly) (h6 : verb ≠ vLate) (h7 : verb ≠ vCheap) (h8 : verb ≠ vFew) (h9 : verb ≠ vFast) : AskedOk verb := .inr ⟨by unfold askT; simp only [h0, h1, h2, h3, h4, h5, h6, h7, h8, h9, if_false], fun w => by
 have k0 : (verb == ([115, 104, 111, 119] : List UInt8)) = false := beq_eq_false_iff_ne.2 h0
 have k1 : (verb == ([104, 111, 112, 115] : List UInt8)) = false := beq_eq_false_iff_ne.2 h1
 have k2 : (verb == ([99, 111, 115, 116, 115] : List UInt8)) = false := beq_eq_false_iff_ne.2 h2
 have k3 : (verb == ([108, 97, 98, 101, 108, 115] : List UInt8)) = false := beq_eq_false_iff_ne.2 h3
 have k4 : (verb == ([97, 108, 108] : List UInt8)) = false := beq_eq_false_iff_ne.2 h4
 have k5 : (verb == ([101, 97, 114, 108, 121] : List UInt8)) = false := beq_eq_false_iff_ne.2 h5
 have k6 : (verb == ([108, 97, 116, 101] : List UInt8)) = false := beq_eq_false_iff_ne.2 h6
 have k7 : (verb == ([99, 104, 101, 97, 112] : List UInt8)) = false := beq_eq_false_iff_ne.2 h7
 have k8 : (verb == ([102, 101, 119] : List UInt8)) = false := beq_eq_false_iff_ne.2 h8
 have k9 : (verb == ([102, 97, 115, 116] : List UInt8)) = false := beq_eq_false_iff_ne.2 h9
 clear h0 h1 h2 h3 h4 h5 h6 h7 h8 h9
 go_enter Tryz.func32, Tryz.ntmps32
 go_wp2_with fail
 go_ret2
 exact ⟨rfl, by go_grown⟩⟩
theorem asked_any (verb : List UInt8) : AskedOk verb := by
 by_cases h0 : verb = vShow
 ·rw [h0]; exact ask_Show
 by_cases h1 : verb = vHops
 ·rw [h1]; exact ask_Hops
 by_cases h2 : verb = vCosts
 ·rw [h2]; exact ask_Costs
 by_cases h3 : verb = vLabels
 ·rw [h3]; exact ask_Labels
 by_cases h4 : verb = vAll
 ·rw [h4]; exact ask_All
 by_cases h5 : verb = vEarly
 ·rw [h5]; exact ask_Early
 by_cases h6 : verb = vLate
 ·rw [h6]; exact ask_Late
 by_cases h7 : verb = vCheap
 ·rw [h7]; exact ask_Cheap
 by_cases h8 : verb = vFew
 ·rw [h8]; exact ask_Few
 by_cases h9 : verb = vFast
 ·rw [h9]; exact ask_Fast
 exact ask_none verb h0 h1 h2 h3 h4 h5 h6 h7 h8 h9
-- ASKED END
end Go.Proofs.YtjcimdpldlamfaaGreatDoor
/- The desk's words of hops; no program in sight. -/
namespace Go.Proofs.YtjcimdpldlamfaaGreatDoor

theorem hopsT_snoc {s : List UInt8} {h : HopD} (hh : hopT s = some h) : ∀ {l : List (List UInt8)} {r : List HopD}, hopsT l = some r → hopsT (l ++ [s]) = some (r ++ [h])
 | [], r, hr => by
  simp only [hopsT, Option.some.injEq] at hr
  subst hr
  simp [hopsT, hh]
 | x :: l, r, hr => by
  rw [List.cons_append]
  unfold hopsT at hr ⊢
  cases hx : hopT x with
  | none => rw [hx] at hr; simp at hr
  | some y =>
   cases hl : hopsT l with
   | none => rw [hx, hl] at hr; simp at hr
   | some r' =>
    rw [hx, hl] at hr
    simp only [Option.some.injEq] at hr
    subst hr
    rw [hopsT_snoc hh hl]
    rfl
theorem hopsT_none {s : List UInt8} (hh : hopT s = none) : ∀ {l : List (List UInt8)}, s ∈ l → hopsT l = none
 | [], h => by simp at h
 | x :: l, h => by
  unfold hopsT
  rcases List.mem_cons.1 h with rfl | h
  ·rw [hh]
  ·rw [hopsT_none hh h]
   cases hopT x <;> rfl
theorem hopsT_take {w : List (List UInt8)} {k : Nat} {s : List UInt8} {h : HopD} {r : List HopD} (hs : w[k]? = some s) (hh : hopT s = some h) (hr : hopsT (w.take k) = some r) : hopsT (w.take (k + 1)) = some (r ++ [h]) := by
 rw [List.take_add_one, hs]
 exact hopsT_snoc hh hr
theorem hopT_i64 {s : List UInt8} {h : HopD} (hh : hopT s = some h) : numsB [(Lib.cut s [64]).1, (Lib.cut s [64]).2.1] = some [h.edge, h.depart] := by
 unfold hopT at hh
 cases hn : numsB [(Lib.cut s [64]).1, (Lib.cut s [64]).2.1] with
 | none => rw [hn] at hh; simp at hh
 | some n =>
  rw [hn] at hh
  have h1 : n = [numB (Lib.cut s [64]).1, numB (Lib.cut s [64]).2.1] := by
   unfold numsB at hn
   split at hn
   ·simpa using hn.symm
   ·simp at hn
  subst h1
  simp only [Option.some.injEq] at hh
  subst hh
  rfl
theorem cut_lens (x : List UInt8) (c : UInt8) : (Lib.cut x [c]).1.length ≤ x.length ∧ (Lib.cut x [c]).2.1.length ≤ x.length := by
 unfold Lib.cut
 split
 ·simp only [List.length_take, List.length_drop]; omega
 ·simp
end Go.Proofs.YtjcimdpldlamfaaGreatDoor
/- The walk of desk.hops (printed by gendesk4.py). -/
namespace Go.Proofs.YtjcimdpldlamfaaGreatDoor
open Go.RowKit

def HopsR (l : List (List UInt8)) (w : World) (e : Ending) (w' : World) : Prop := ∃ (A : Option Addr) (c : Nat) (r : List HopD) (ok : Bool), e = .returned (.tuple #[.slice A r.length c, .bool ok]) ∧ (match hopsT l with | some q => ok = true ∧ r = q | none => ok = false) ∧ (r.length ≤ c ∧ c ≤ maxLen ∧ SlAt RHop 2 w' A r) ∧ Below w.heap.size w w'
theorem hopD_one {a b : Int} : ∀ u ∈ (#[.int .i64 a, .int .i64 b] : Array Value).toList, u.oneCell' = true := by simp [Value.oneCell']
set_option maxRecDepth 100000 in
set_option maxHeartbeats 8000000 in
theorem hopsD_any (A : Option Addr) (c : Nat) (l : List (List UInt8)) (w : World) (hA : StrsAt w A c l) (hl : l.length ≤ 100000) (hs : ∀ x, x ∈ l → x.length ≤ 70000) (hm : MaxL w) :
  Calls Tryz.prog 45 #[.slice A l.length c] w (HopsR l w) := by
 have HA := Lib.hid hA; have HS := Lib.hid hs; have HM := Lib.hid hm
 have m1 := hA.len
 clear hA hs hm
 obtain ⟨i0, hi, hz0, hz1, hz2⟩ := info_parts info_hop
 go_enter Tryz.func45, Tryz.ntmps45
 go_wp2_with fail
 go_loopw [4, 14] (fun u v wr => ∃ (k : Nat) (r : List HopD), k ≤ l.length ∧ v = .int .i64 k ∧ Hid (hopsT (l.take k) = some r) ∧ r.length ≤ k ∧ Hid (∀ x, x ∈ r → I64 x.edge ∧ I64 x.depart) ∧ Own hopEnc 2 wr w.heap.size 64 u r ∧ Below w.heap.size w wr) (fun _ v _ => l.length - (intOf v).toNat)
 case atStart => exact ⟨0, [], Nat.zero_le _, rfl, Lib.hid rfl, by simp, Lib.hid (fun x hx => by simp at hx), Own.nil, Below.refl _ _⟩
 case round =>
  obtain ⟨k, r, hk, rfl, HD, hrl, HI, hO, hb⟩ := hrel
  have hzr := hb.size
  by_cases hlt : k < l.length
  case neg =>
   obtain rfl : k = l.length := by omega
   have HQ : Hid (hopsT l = some r) := Lib.hid (by have h1 := HD.out; rwa [List.take_length] at h1)
   obtain ⟨Ao, co, rfl⟩ := hO.form
   clear HD
   go_wp2_with fail
   go_ret2
   have hrm := hO.room
   obtain ⟨A9, c9, hv9, hS9⟩ := own_hops hO HI.out
   injection hv9 with e1 e2 e3
   subst e1 e3
   refine ⟨Ao, co, r, true, rfl, ?_, ⟨hrm.1, hrm.2, hS9⟩, hb⟩
   rw [HQ.out]
   exact ⟨rfl, rfl⟩
  case pos =>
   obtain ⟨x, hx⟩ := get_lt hlt
   obtain ⟨b, off, rfl, hb0, x0⟩ := HA.out.get hx
   rw [← hb.cell (by exact hb0)] at x0
   have hxl := HS.out x (List.mem_of_getElem? hx)
   have hcut := cut_any 64 x wr hxl (HM.out.ext hb)
   have HX := Lib.hid hx
   have hc1 := cut_lens x 64
   obtain ⟨t1, ht1⟩ : ∃ t, (Lib.cut x [64]).1 = t := ⟨_, rfl⟩
   obtain ⟨t2, ht2⟩ : ∃ t, (Lib.cut x [64]).2.1 = t := ⟨_, rfl⟩
   obtain ⟨t3, ht3⟩ : ∃ t, (Lib.cut x [64]).2.2 = t := ⟨_, rfl⟩
   rw [ht1, ht2] at hc1
   rw [ht1, ht2, ht3] at hcut
   have HC : Hid ((Lib.cut x [64]).1 = t1 ∧ (Lib.cut x [64]).2.1 = t2) := Lib.hid ⟨ht1, ht2⟩
   clear hx ht1 ht2 ht3
   go_wp2_with fail
   refine hcut.mono ?_
   rintro e w5 ⟨rfl, nd, rfl⟩
   have hbd : Below wr.heap.size wr (wr.drewN nd) := below_drewN (Below.refl _ _) nd
   have hO5 : Own hopEnc 2 (wr.drewN nd) w.heap.size 64 _ r := hO.ext hbd
   have hb5 := ext_trans hb hbd
   have BS := Blk.new (wr.drewN nd) 9 #[.string (bs t1), .string (bs t2)]
   have hSt := strs_of_blk (l := [t1, t2]) BS rfl (by unfold maxLen; simp)
   have hnm := numbersD_any (some ⟨(wr.drewN nd).heap.size, 0, none⟩) 2 [t1, t2] ((wr.drewN nd).alloc (Obj.cells #[.string (bs t1), .string (bs t2)] 9)) hSt (by simp) (fun z hz => by simp at hz; rcases hz with rfl | rfl <;> omega)
   have hb6 := ext_alloc hb5 (Obj.cells #[.string (bs t1), .string (bs t2)] 9)
   have hO6 := hO5.alloc (Obj.cells #[.string (bs t1), .string (bs t2)] 9)
   have HNM := Lib.hid hnm
   clear hcut hO hO5 hbd hb5 BS hSt x0 hnm hc1 hxl
   cases hh : hopT x with
   | none =>
    have HQ : Hid (hopsT l = none) := Lib.hid (hopsT_none hh (List.mem_of_getElem? HX.out))
    have HNQ : Hid (numsQ [t1, t2] = ([], false)) := Lib.hid (by
     unfold hopT at hh
     rw [HC.out.1, HC.out.2] at hh
     unfold numsQ
     cases h9 : numsB [t1, t2] with
     | none => rfl
     | some n => rw [h9] at hh; simp at hh)
    clear hh
    go_wp2_with fail
    refine HNM.out.mono ?_
    rw [HNQ.out]
    rintro e w7 ⟨An, cn, rfl, _, hb7⟩
    go_wp2_with fail
    go_ret2
    refine ⟨none, 0, [], false, rfl, ?_, ⟨by simp, by simp [maxLen], SlAt.nil⟩, ext_trans hb6 hb7⟩
    rw [HQ.out]
   | some h =>
    have HNQ : Hid (numsQ [t1, t2] = ([h.edge, h.depart], true)) := Lib.hid (by
     have h9 := hopT_i64 hh
     rw [HC.out.1, HC.out.2] at h9
     unfold numsQ
     rw [h9])
    have HNX := Lib.hid (hopsT_take HX.out hh HD.out)
    clear hh
    go_wp2_with fail
    refine HNM.out.mono ?_
    rw [HNQ.out]
    rintro e w7 ⟨An, cn, rfl, ⟨hON, hIN⟩, hb7⟩
    have HIH : Hid (∀ y, y ∈ r ++ [h] → I64 y.edge ∧ I64 y.depart) := Lib.hid fun y hy => by
     rcases List.mem_append.1 hy with hy | hy
     ·exact HI.out y hy
     ·obtain rfl : y = h := by simpa using hy
      exact ⟨hIN y.edge (by simp), hIN y.depart (by simp)⟩
    obtain ⟨gn, cs, rfl, _, hBN, hcs⟩ := own_at hON (by simp)
    have y0 : w7.cell? ⟨gn, 0, none⟩ = some (.int .i64 h.edge) := (hBN.cell 0).trans (hcs 0 _ rfl)
    have y1 : w7.cell? ⟨gn, 1, none⟩ = some (.int .i64 h.depart) := (hBN.cell 1).trans (hcs 1 _ rfl)
    have hgl := hBN.lt
    have hb67 := ext_trans hb6 hb7
    have hO7 := hO6.ext hb7
    have hz7 := hb67.size
    have HY : Hid (w7.cell? ⟨gn, 0, none⟩ = some (.int .i64 h.edge) ∧ w7.cell? ⟨gn, 1, none⟩ = some (.int .i64 h.depart)) := Lib.hid ⟨y0, y1⟩
    have HBN : Hid (Blk w7 gn 3 cs ∧ cs[0]? = some (.int .i64 h.edge) ∧ cs[1]? = some (.int .i64 h.depart)) := Lib.hid ⟨hBN, hcs 0 _ rfl, hcs 1 _ rfl⟩
    clear hON hIN hBN hcs hO6 hb6 hb7 y0 y1 HNM
    simp only [List.length_cons, List.length_nil]
    obtain ⟨S1, hSS⟩ : ∃ S1 : World → Prop, Hid (S1 = fun w' => w'.cell? ⟨gn, 0, none⟩ = some (.int .i64 h.edge) ∧ w'.cell? ⟨gn, 1, none⟩ = some (.int .i64 h.depart)) := ⟨_, Lib.hid rfl⟩
    have HKS : Hid (∀ w', Below w7.heap.size w7 w' → S1 w') := Lib.hid fun w' h => by
     rw [hSS.out]
     exact ⟨(h.cell (p := ⟨gn, 0, none⟩) hgl).trans HY.out.1, (h.cell (p := ⟨gn, 1, none⟩) hgl).trans HY.out.2⟩
    have hd0 := below_drew (Below.refl w7.heap.size w7)
    have hS0 : S1 w7.drew := HKS.out _ hd0
    have HO7 := Lib.hid hO7
    have HB67 := Lib.hid hb67
    clear hO7 hb67
    go_upto_region 9 with fail
    refine anyH_begin S1 (by kernel_rfl) ?_
    refine tH 0 ?_ ?_ <| tH 1 ?_ ?_ <| tH 2 ?_ ?_ <| tH 3 ?_ ?_ <| tH 4 ?_ ?_ <| tH 5 ?_ ?_ <| tH 6 ?_ ?_ <| tH 7 ?_ ?_ ?_
    iterate 8
     rotate_left
     ·intro w hSw; rw [hSS.out] at hSw; obtain ⟨sw0, sw1⟩ := hSw; (try simp only [pS]); go_simp; try with_reducible rfl
    try simp only [pS]
    refine anyH_one (i := 8) rfl (by kernel_rfl) fun K hK => ?_
    go_wp2_with fail
    have hb8 := ext_alloc hd0 (Obj.cells #[.int .i64 h.edge, .int .i64 h.depart] 64)
    have hS8 := HKS.out _ hb8
    refine hK.out _ _ ⟨hS8, ?_⟩
    clear hK K hS0
    try simp only [pS]
    refine anyH_one (i := 9) rfl (by kernel_rfl) fun K hK => ?_
    refine wp_append_big (enc := hopEnc) (.tmp 33) (.tmp 41) 62 rfl w.heap.size 64 i0 _ 2 16 Tryz.underlying62 hi hz0 hz1 hz2 rfl (by decide) _ r h rfl ((HO7.out.ext hd0).alloc _) #[.int .i64 h.edge, .int .i64 h.depart] rfl w7.heap.size (Blk.new _ _ _) rfl rfl hopD_one (by unfold maxLen; omega) (by omega) (Nat.le_trans hz7 hb8.size) ?_
    intro v9 w9 hown9 hbb9 hoth9
    have hb15 : Below w.heap.size w w9 := HB67.out.trans ((hb8.mono hz7).trans hbb9)
    have hS15 : S1 w9 := by
     have hB := hoth9 _ _ _ (HBN.out.1.ext hb8) (by decide)
     rw [hSS.out]
     exact ⟨(hB.cell 0).trans HBN.out.2.1, (hB.cell 1).trans HBN.out.2.2⟩
    refine hK.out _ _ ⟨hS15, ?_⟩
    clear hK K hS8
    try simp only [pS]
    refine tH 10 ?_ ?_ ?_
    rotate_left
    ·intro w hSw; rw [hSS.out] at hSw; obtain ⟨sw0, sw1⟩ := hSw; (try simp only [pS]); go_simp; try with_reducible rfl
    try simp only [pS]
    refine wpAnyH_done (by kernel_rfl) ?_ _
    try simp only [pS]
    clear hS15
    go_wp2_with fail
    go_roundw
    case rel => exact ⟨k + 1, r ++ [h], by omega, by go_num, HNX, by simp; omega, HIH, hown9, hb15⟩
    case measure => simp [intOf]; omega
end Go.Proofs.YtjcimdpldlamfaaGreatDoor
