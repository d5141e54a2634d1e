/- Several texts in one: DeskDo, DeskGo, DeskDoW, DeskMem. -/
import Derived.Test.YtjcimdpldlamfaaGreatDoorBd46134eaded
import Derived.Test.YtjcimdpldlamfaaGreatDoorBdeff2250ea6
/- The walks of (*desk.desk).netted, more, journey, do. -/
namespace Go.Proofs.YtjcimdpldlamfaaGreatDoor
open Go.RowKit

set_option maxRecDepth 100000 in
set_option maxHeartbeats 4000000 in
theorem netted_any (b fs cn : Nat) (An : Option Addr) (text : List UInt8) (n : List Int) (lb : Array Value) (F : Ans) (w : World) (hB : Blk w b 31 #[.string (bs text)]) (hN : IntsAt w An cn n) (htl : text.length ≤ 8192) (ht : ITab w) (hm : MaxL w) (eg : Enters Tryz.prog fs)
  (hs : ∀ (W : World) (A A' : Option Addr) (c c' : Nat) (g : GraphD), Below w.heap.size w W → GraphAt W A c A' c' g → Valid g → Calls Tryz.prog fs (#[gV A c A' c' g, .slice An n.length cn] ++ lb) W fun e w' => e = .returned (.string (bs (F g n))) ∧ (F g n).length ≤ 100000 ∧ Below W.heap.size W w') :
  Calls Tryz.prog 34 #[.pointer (some ⟨b, 0, none⟩), .slice An n.length cn, .func (.func fs) #[] lb] w fun e w' => e = .returned (.string (bs (netT text F n))) ∧ (netT text F n).length ≤ 100000 ∧ Below w.heap.size w w' := by
 unfold Enters at eg
 have m1 : n.length ≤ 9223372036854775807 := hN.len
 have c0 : w.cell? ⟨b, 0, none⟩ = some (.string (bs text)) := hB.cell 0
 have hlt := hB.lt
 have hp := parse_any text w (by omega) hm
 obtain ⟨r, hr⟩ : ∃ r, parseD text = r := ⟨_, rfl⟩
 have hrg := parseD_range text
 rw [hr] at hp hrg
 have HR := Lib.hid hr
 have HT := Lib.hid ht; have HS := Lib.hid hs
 have HRG := Lib.hid hrg
 clear hB hN ht hm hs hr hrg
 go_enter Tryz.func34, Tryz.ntmps34
 go_wp2_with fail
 refine hp.mono ?_
 rintro e w1 ⟨A, c, A', c', rfl, hG, hb1⟩
 have HG := Lib.hid hG
 clear hp hG
 have hb2 := ext_alloc hb1 (Obj.cells (gC A c A' c' r.1) 68)
 by_cases h0 : r.2.2 = 0
 case neg =>
  have hne : (r.2.2 != 0) = true := by simp [h0]
  have HQ : Hid (netT text F n = errT r.2.2 ++ [32] ++ Lib.itoa r.2.1) := Lib.hid (by unfold netT; rw [HR.out, if_neg h0])
  have l1 := errT_len HRG.out.2
  have l2 := Lib.itoa_length_le r.2.1 HRG.out.1.1 HRG.out.1.2
  have hf := failed_any r.2.2 HRG.out.2 _ (HT.out.ext hb2)
  have hit := fun W (h : Below w.heap.size w W) => itoa_any r.2.1 HRG.out.1 W (HT.out.ext h)
  obtain ⟨t1, ht1⟩ : ∃ t, errT r.2.2 = t := ⟨_, rfl⟩
  obtain ⟨t2, ht2⟩ : ∃ t, Lib.itoa r.2.1 = t := ⟨_, rfl⟩
  rw [ht1] at hf HQ l1
  rw [ht2] at HQ l2
  simp only [ht2] at hit
  have HIT := Lib.hid hit
  have HF := Lib.hid hf
  clear h0 ht1 ht2 hit hf
  go_wp2_with fail
  refine HF.out.mono ?_
  rintro e w3 ⟨rfl, hb3⟩
  have hb23 := ext_trans hb2 hb3
  go_wp2_with fail
  refine (HIT.out _ hb23).mono ?_
  rintro e w4 ⟨rfl, hb4⟩
  go_wp2_with fail
  go_ret
  rw [HQ.out]
  exact ⟨rfl, by simp only [List.length_append, List.length_cons, List.length_nil]; omega, ext_trans hb23 hb4⟩
 have HQ : Hid (netT text F n = F r.1 n) := Lib.hid (by unfold netT; rw [HR.out, if_pos h0])
 have hV : Valid r.1 := by
  have h9 := parseD_valid (s := text) (by rw [HR.out]; exact h0)
  rwa [HR.out] at h9
 have hcall := HS.out _ A A' c c' r.1 hb2 (HG.out.ext (ext_alloc (Below.refl _ _) _)) hV
 rw [h0]
 have HC := Lib.hid hcall
 clear h0 hV hcall
 go_wp2_with fail
 refine HC.out.mono ?_
 rintro e w3 ⟨rfl, hfl, hb3⟩
 go_wp2_with fail
 go_ret
 exact ⟨by rw [HQ.out]; rfl, by rw [HQ.out]; exact hfl, ext_trans hb2 hb3⟩
/-- What a command leaves: memory that grew, and its text in the desk's block. -/
def DoOut (b : Nat) (r : List UInt8 × List UInt8) (text : List UInt8) (w : World) (e : Ending) (w' : World) : Prop := ∃ w1, (r.1.length ≤ 8192 ∧ r.2.length ≤ 100000) ∧ Below w.heap.size w w1 ∧ e = .returned (.string (bs r.2)) ∧ ((w' = w1 ∧ r.1 = text) ∨ w' = w1.setCell ⟨b, 0, none⟩ (.string (bs r.1)))
set_option maxRecDepth 100000 in
set_option maxHeartbeats 4000000 in
theorem more_say (b c : Nat) (A : Option Addr) (text : List UInt8) (l : List (List UInt8)) (w : World) (hB : Blk w b 31 #[.string (bs text)]) (hA : StrsAt w A c l) (hl : (joinB 32 l).length ≤ 100000) (htl : text.length ≤ 8192) (ht : ITab w) :
  Calls Tryz.prog 29 #[.pointer (some ⟨b, 0, none⟩), .slice A l.length c] w (DoOut b (moreT text l) text w) := by
 have m1 := hA.len
 have HT := Lib.hid ht; have HB := Lib.hid hB; have HA := Lib.hid hA
 clear hB ht hA
 cases l with
 | nil =>
  have HQ : Hid (moreT text [] = (text, errT 3)) := Lib.hid rfl
  have HF := Lib.hid (failed_any 3 (small_i64 (by decide) (by decide)) w HT.out)
  go_enter Tryz.func29, Tryz.ntmps29
  go_wp2_with fail
  refine HF.out.mono ?_
  rintro e w3 ⟨rfl, hb3⟩
  go_wp2_with fail
  go_ret
  rw [HQ.out]
  exact ⟨w3, ⟨htl, err_short (small_i64 (by decide) (by decide))⟩, hb3, rfl, .inl ⟨rfl, rfl⟩⟩
 | cons x l =>
  have HJ := Lib.hid (join_any A c (x :: l) 32 w HA.out (by omega))
  obtain ⟨s, hs⟩ : ∃ s, joinB 32 (x :: l) = s := ⟨_, rfl⟩
  have hne : (((x :: l).length : Int) == 0) = false := beq_eq_false_iff_ne.2 (by simp only [List.length_cons]; omega)
  obtain ⟨k, hk⟩ : ∃ k, (x :: l).length = k := ⟨_, rfl⟩
  rw [hs] at hl HJ
  rw [hk] at m1 hne HJ ⊢
  by_cases h8 : 8192 < text.length + (s ++ [10]).length
  ·have HQ : Hid (moreT text (x :: l) = (text, errT 2)) := Lib.hid (by unfold moreT; rw [if_neg (by simp), hs, if_pos h8])
   rw [List.length_append, List.length_singleton] at h8
   have hd : decide (((text.length : Int) + ((s.length : Int) + 1)) > 8192) = true := by simp; omega
   clear hs hk
   go_enter Tryz.func29, Tryz.ntmps29
   go_wp2_with fail
   refine HJ.out.mono ?_
   rintro e w3 ⟨rfl, hb3⟩
   have c0 : w3.cell? ⟨b, 0, none⟩ = some (.string (bs text)) := (HB.out.ext hb3).cell 0
   have HF := Lib.hid (failed_any 2 (small_i64 (by decide) (by decide)) w3 (HT.out.ext hb3))
   go_wp2_with fail
   refine HF.out.mono ?_
   rintro e w4 ⟨rfl, hb4⟩
   go_wp2_with fail
   go_ret
   rw [HQ.out]
   exact ⟨w4, ⟨htl, err_short (small_i64 (by decide) (by decide))⟩, ext_trans hb3 hb4, rfl, .inl ⟨rfl, rfl⟩⟩
  ·have HQ : Hid (moreT text (x :: l) = (text ++ (s ++ [10]), wOk)) := Lib.hid (by unfold moreT; rw [if_neg (by simp), hs, if_neg h8])
   rw [List.length_append, List.length_singleton] at h8
   have hd : decide (((text.length : Int) + ((s.length : Int) + 1)) > 8192) = false := by simp; omega
   clear hs hk
   go_enter Tryz.func29, Tryz.ntmps29
   go_wp2_with fail
   refine HJ.out.mono ?_
   rintro e w3 ⟨rfl, hb3⟩
   have B3 := HB.out.ext hb3
   have c0 : w3.cell? ⟨b, 0, none⟩ = some (.string (bs text)) := B3.cell 0
   have f0 := B3.frozen 0
   have l0 := B3.lt
   clear B3
   go_wp2_with fail
   go_ret
   rw [HQ.out]
   exact ⟨w3, ⟨by simp only [List.length_append, List.length_cons, List.length_nil]; omega, by show wOk.length ≤ 100000; decide⟩, hb3, rfl, .inr rfl⟩
end Go.Proofs.YtjcimdpldlamfaaGreatDoor
/- The walks of (*desk.desk).journey and do. -/
namespace Go.Proofs.YtjcimdpldlamfaaGreatDoor
open Go.RowKit

theorem numsB_two {l : List (List UInt8)} {n : List Int} (h : numsB l = some n) : n = l.map numB := by
 unfold numsB at h
 split at h
 ·exact (Option.some.inj h).symm
 ·simp at h
theorem numsQ_some {l : List (List UInt8)} {n : List Int} (h : numsB l = some n) : numsQ l = (n, true) := by unfold numsQ; rw [h]
theorem numsQ_none {l : List (List UInt8)} (h : numsB l = none) : numsQ l = ([], false) := by unfold numsQ; rw [h]
theorem StrsAt.take {w : World} {A : Option Addr} {c : Nat} {l : List (List UInt8)} (h : StrsAt w A c l) (k : Nat) : StrsAt w A c (l.take k) := ⟨by have := h.lc; rw [List.length_take]; omega, h.cm, h.sl.take k⟩
theorem StrsAt.drop2 {w : World} {b off c : Nat} {l : List (List UInt8)} (h : StrsAt w (some ⟨b, off, none⟩) c l) (hl : 2 ≤ l.length) : StrsAt w (some ⟨b, off + 2, none⟩) (c - 2) (l.drop 2) := by
 match l, hl, h with
 | x :: y :: r, _, h => exact h.tail.tail
theorem strs_nil {w : World} {A : Option Addr} {c : Nat} (hc : c ≤ maxLen) : StrsAt w A c [] := ⟨by simp, hc, SlAt.nil⟩
theorem enters_go1 : Enters Tryz.prog 46 := enters_of Tryz.func46 (by kernel_rfl) rfl
set_option maxRecDepth 100000 in
set_option maxHeartbeats 4000000 in
theorem journey_say (b c : Nat) (A : Option Addr) (text : List UInt8) (l : List (List UInt8)) (w : World) (hB : Blk w b 31 #[.string (bs text)]) (hA : StrsAt w A c l) (hl : l.length ≤ 100000) (hx : ∀ x, x ∈ l → x.length ≤ 70000) (htl : text.length ≤ 8192) (ht : ITab w) (hm : MaxL w) :
  Calls Tryz.prog 30 #[.pointer (some ⟨b, 0, none⟩), .slice A l.length c] w fun e w' => e = .returned (.string (bs (goT text l))) ∧ (goT text l).length ≤ 100000 ∧ Below w.heap.size w w' := by
 have hmf : ∀ (fn : Fn) (first cap : Array Value) (w : World), (Instr.makeFunc fn first cap).run Tryz.prog w = .ok (.func fn first cap) w := fun _ _ _ _ => rfl
 have m1 := hA.len
 have m2 := hA.lc
 have m3 : c ≤ 9223372036854775807 := hA.cm
 have HT := Lib.hid ht; have HB := Lib.hid hB; have HA := Lib.hid hA; have HX := Lib.hid hx; have HM := Lib.hid hm
 clear hB ht hA hx hm
 have HE3 : Hid (I64 3) := Lib.hid (small_i64 (by decide) (by decide))
 by_cases h2 : l.length < 2
 ·have HQ : Hid (goT text l = errT 3) := Lib.hid (by unfold goT; rw [if_pos h2])
  have HF := Lib.hid (failed_any 3 HE3.out w HT.out)
  have hd : decide ((l.length : Int) < 2) = true := by simp; omega
  clear h2
  go_enter Tryz.func30, Tryz.ntmps30
  go_wp2_with fail
  refine HF.out.mono ?_
  rintro e w3 ⟨rfl, hb3⟩
  go_wp2_with fail
  go_ret
  exact ⟨by rw [HQ.out]; rfl, by rw [HQ.out]; exact err_short HE3.out, hb3⟩
 have hd : decide ((l.length : Int) < 2) = false := by simp; omega
 have htk : (l.take 2).length = 2 := by rw [List.length_take]; omega
 have hnm := numbersD_any A c (l.take 2) w (HA.out.take 2) (by omega) (fun x h => by have := HX.out x (List.mem_of_mem_take h); omega)
 rw [htk] at hnm
 have HNM := Lib.hid hnm
 obtain ⟨x0, hx0⟩ := get_lt (show 0 < l.length by omega)
 obtain ⟨ba, oa, rfl, hba, _⟩ := HA.out.get hx0
 have hdl : (l.drop 2).length = l.length - 2 := List.length_drop
 have HHP : Hid (∀ W : World, Below w.heap.size w W → ∀ (A2 : Option Addr) (c2 : Nat), StrsAt W A2 c2 (l.drop 2) → Calls Tryz.prog 45 #[.slice A2 (l.length - 2) c2] W (HopsR (l.drop 2) W)) := Lib.hid fun W h A2 c2 hS => by
  have h1 := hopsD_any A2 c2 (l.drop 2) W hS (by omega) (fun x h => HX.out x (List.mem_of_mem_drop h)) (HM.out.ext h)
  rwa [hdl] at h1
 have HGT : Hid (goT text l = match numsB (l.take 2), hopsT (l.drop 2) with | some n, some q => netT text (ansGo q) n | _, _ => errT 3) := Lib.hid (by unfold goT; rw [if_neg h2]; cases numsB (l.take 2) <;> cases hopsT (l.drop 2) <;> rfl)
 have HN2 : Hid (∀ n, numsB (l.take 2) = some n → n.length = 2) := Lib.hid fun n h => by rw [numsB_two h, List.length_map, htk]
 have HD2 : Hid (∀ W : World, Below w.heap.size w W → StrsAt W (some ⟨ba, oa + 2, none⟩) (c - 2) (l.drop 2)) := Lib.hid fun W h => (HA.out.ext h).drop2 (by omega)
 have hl2 : 2 ≤ l.length := by omega
 have HL2 := Lib.hid hl2
 clear hnm hx0 htk hdl h2
 by_cases hc : 2 < c
 case neg =>
  have hce : c = 2 := by omega
  have hle : l.length = 2 := by omega
  have HHP0 : Hid (∀ W : World, Below w.heap.size w W → ∀ (A2 : Option Addr), Calls Tryz.prog 45 #[.slice A2 0 0] W (HopsR (l.drop 2) W)) := Lib.hid fun W h A2 => by
   have h1 := HHP.out W h A2 0 (by rw [List.drop_of_length_le (by omega)]; exact strs_nil (by simp))
   rw [hle] at h1
   exact h1
  subst hce
  rw [hle]
  clear hle hc hl2 m1 m2
  cases hn : numsB (l.take 2) with
  | none =>
   rw [numsQ_none hn] at HNM
   have HQ : Hid (goT text l = errT 3) := Lib.hid (by rw [HGT.out, hn])
   clear hn
   go_enter Tryz.func30, Tryz.ntmps30
   go_wp2_with fail
   refine HNM.out.mono ?_
   rintro e w3 ⟨An, cn, rfl, ⟨hON, hIN⟩, hb3⟩
   go_wp2_with fail
   refine (HHP0.out _ hb3 _).mono ?_
   rintro e w4 ⟨Ah, ch, r, ok, rfl, hok, hrr, hb4⟩
   have hb34 := ext_trans hb3 hb4
   have hb5 := ext_alloc hb34 (Obj.cells #[.slice Ah r.length ch] 62)
   simp only [List.length_nil]
   have HF := Lib.hid (failed_any 3 HE3.out _ (HT.out.ext hb5))
   clear hON hIN hok hrr
   go_wp2_with fail
   refine HF.out.mono ?_
   rintro e w6 ⟨rfl, hb6⟩
   go_wp2_with fail
   go_ret
   exact ⟨by rw [HQ.out]; rfl, by rw [HQ.out]; exact err_short HE3.out, ext_trans hb5 hb6⟩
  | some n =>
   have hn2 := HN2.out n hn
   rw [numsQ_some hn] at HNM
   cases hh : hopsT (l.drop 2) with
   | none =>
    have HQ : Hid (goT text l = errT 3) := Lib.hid (by rw [HGT.out, hn, hh])
    have HHH := Lib.hid hh
    clear hn hh hn2
    go_enter Tryz.func30, Tryz.ntmps30
    go_wp2_with fail
    refine HNM.out.mono ?_
    rintro e w3 ⟨An, cn, rfl, ⟨hON, hIN⟩, hb3⟩
    go_wp2_with fail
    refine (HHP0.out _ hb3 _).mono ?_
    rintro e w4 ⟨Ah, ch, r, ok, rfl, hok, hrr, hb4⟩
    have hb34 := ext_trans hb3 hb4
    have hb5 := ext_alloc hb34 (Obj.cells #[.slice Ah r.length ch] 62)
    rw [HHH.out] at hok
    simp only at hok
    subst hok
    have HF := Lib.hid (failed_any 3 HE3.out _ (HT.out.ext hb5))
    clear hON hIN hrr
    go_wp2_with fail
    refine HF.out.mono ?_
    rintro e w6 ⟨rfl, hb6⟩
    go_wp2_with fail
    go_ret
    exact ⟨by rw [HQ.out]; rfl, by rw [HQ.out]; exact err_short HE3.out, ext_trans hb5 hb6⟩
   | some q =>
    have HQ : Hid (goT text l = netT text (ansGo q) n) := Lib.hid (by rw [HGT.out, hn, hh])
    have HHH := Lib.hid hh
    clear hn hh
    have HNN := Lib.hid hn2
    clear hn2
    go_enter Tryz.func30, Tryz.ntmps30
    go_wp2_with fail
    refine HNM.out.mono ?_
    rintro e w3 ⟨An, cn, rfl, ⟨hON, hIN⟩, hb3⟩
    go_wp2_with fail
    refine (HHP0.out _ hb3 _).mono ?_
    rintro e w4 ⟨Ah, ch, r, ok, rfl, hok, hrr, hb4⟩
    have hb34 := ext_trans hb3 hb4
    have hb5 := ext_alloc hb34 (Obj.cells #[.slice Ah r.length ch] 62)
    rw [HHH.out] at hok
    simp only at hok
    obtain ⟨rfl, rfl⟩ := hok
    have BL := Blk.new w4 62 #[.slice Ah r.length ch]
    obtain ⟨An', cn', hv, hIA⟩ := own_ints hON hIN
    injection hv with e1 e2 e3
    subst e1 e3
    have hIA5 := hIA.ext (ext_alloc hb4 (Obj.cells #[.slice Ah r.length ch] 62))
    have hnet := netted_any b 46 cn An text n #[.pointer (some ⟨w4.heap.size, 0, none⟩)] (ansGo r) (w4.alloc (Obj.cells #[.slice Ah r.length ch] 62)) (HB.out.ext hb5) hIA5 htl (HT.out.ext hb5) (HM.out.ext hb5) enters_go1 (fun W A A' c c' g hW hG hV => by
     have hB := BL.ext hW
     exact go_then A A' An c c' cn g n Ah ch w4.heap.size r W hG ⟨hB.lt, hB.cell 0⟩ ⟨hrr.1, hrr.2.1, hrr.2.2.ext RHop.stable (ext_trans (ext_alloc (Below.refl _ _) _) hW)⟩ hV (hIA5.ext hW) HNN.out (HT.out.ext (ext_trans hb5 hW)))
    have HNT := Lib.hid hnet
    clear hON hIN hrr BL hIA hIA5 hnet
    go_wp2_with fail
    refine HNT.out.mono ?_
    rintro e w6 ⟨rfl, hfl, hb6⟩
    go_wp2_with fail
    go_ret
    exact ⟨by rw [HQ.out]; rfl, by rw [HQ.out]; exact hfl, ext_trans hb5 hb6⟩
 case pos =>
  cases hn : numsB (l.take 2) with
  | none =>
   rw [numsQ_none hn] at HNM
   have HQ : Hid (goT text l = errT 3) := Lib.hid (by rw [HGT.out, hn])
   clear hn
   go_enter Tryz.func30, Tryz.ntmps30
   go_wp2_with fail
   refine HNM.out.mono ?_
   rintro e w3 ⟨An, cn, rfl, ⟨hON, hIN⟩, hb3⟩
   go_wp2_with fail
   refine (HHP.out _ hb3 _ _ (HD2.out _ hb3)).mono ?_
   rintro e w4 ⟨Ah, ch, r, ok, rfl, hok, hrr, hb4⟩
   have hb34 := ext_trans hb3 hb4
   have hb5 := ext_alloc hb34 (Obj.cells #[.slice Ah r.length ch] 62)
   simp only [List.length_nil]
   have HF := Lib.hid (failed_any 3 HE3.out _ (HT.out.ext hb5))
   clear hON hIN hok hrr
   go_wp2_with fail
   refine HF.out.mono ?_
   rintro e w6 ⟨rfl, hb6⟩
   go_wp2_with fail
   go_ret
   exact ⟨by rw [HQ.out]; rfl, by rw [HQ.out]; exact err_short HE3.out, ext_trans hb5 hb6⟩
  | some n =>
   have hn2 := HN2.out n hn
   rw [numsQ_some hn] at HNM
   cases hh : hopsT (l.drop 2) with
   | none =>
    have HQ : Hid (goT text l = errT 3) := Lib.hid (by rw [HGT.out, hn, hh])
    have HHH := Lib.hid hh
    clear hn hh hn2
    go_enter Tryz.func30, Tryz.ntmps30
    go_wp2_with fail
    refine HNM.out.mono ?_
    rintro e w3 ⟨An, cn, rfl, ⟨hON, hIN⟩, hb3⟩
    go_wp2_with fail
    refine (HHP.out _ hb3 _ _ (HD2.out _ hb3)).mono ?_
    rintro e w4 ⟨Ah, ch, r, ok, rfl, hok, hrr, hb4⟩
    have hb34 := ext_trans hb3 hb4
    have hb5 := ext_alloc hb34 (Obj.cells #[.slice Ah r.length ch] 62)
    rw [HHH.out] at hok
    simp only at hok
    subst hok
    have HF := Lib.hid (failed_any 3 HE3.out _ (HT.out.ext hb5))
    clear hON hIN hrr
    go_wp2_with fail
    refine HF.out.mono ?_
    rintro e w6 ⟨rfl, hb6⟩
    go_wp2_with fail
    go_ret
    exact ⟨by rw [HQ.out]; rfl, by rw [HQ.out]; exact err_short HE3.out, ext_trans hb5 hb6⟩
   | some q =>
    have HQ : Hid (goT text l = netT text (ansGo q) n) := Lib.hid (by rw [HGT.out, hn, hh])
    have HHH := Lib.hid hh
    clear hn hh
    have HNN := Lib.hid hn2
    clear hn2
    go_enter Tryz.func30, Tryz.ntmps30
    go_wp2_with fail
    refine HNM.out.mono ?_
    rintro e w3 ⟨An, cn, rfl, ⟨hON, hIN⟩, hb3⟩
    go_wp2_with fail
    refine (HHP.out _ hb3 _ _ (HD2.out _ hb3)).mono ?_
    rintro e w4 ⟨Ah, ch, r, ok, rfl, hok, hrr, hb4⟩
    have hb34 := ext_trans hb3 hb4
    have hb5 := ext_alloc hb34 (Obj.cells #[.slice Ah r.length ch] 62)
    rw [HHH.out] at hok
    simp only at hok
    obtain ⟨rfl, rfl⟩ := hok
    have BL := Blk.new w4 62 #[.slice Ah r.length ch]
    obtain ⟨An', cn', hv, hIA⟩ := own_ints hON hIN
    injection hv with e1 e2 e3
    subst e1 e3
    have hIA5 := hIA.ext (ext_alloc hb4 (Obj.cells #[.slice Ah r.length ch] 62))
    have hnet := netted_any b 46 cn An text n #[.pointer (some ⟨w4.heap.size, 0, none⟩)] (ansGo r) (w4.alloc (Obj.cells #[.slice Ah r.length ch] 62)) (HB.out.ext hb5) hIA5 htl (HT.out.ext hb5) (HM.out.ext hb5) enters_go1 (fun W A A' c c' g hW hG hV => by
     have hB := BL.ext hW
     exact go_then A A' An c c' cn g n Ah ch w4.heap.size r W hG ⟨hB.lt, hB.cell 0⟩ ⟨hrr.1, hrr.2.1, hrr.2.2.ext RHop.stable (ext_trans (ext_alloc (Below.refl _ _) _) hW)⟩ hV (hIA5.ext hW) HNN.out (HT.out.ext (ext_trans hb5 hW)))
    have HNT := Lib.hid hnet
    clear hON hIN hrr BL hIA hIA5 hnet
    go_wp2_with fail
    refine HNT.out.mono ?_
    rintro e w6 ⟨rfl, hfl, hb6⟩
    go_wp2_with fail
    go_ret
    exact ⟨by rw [HQ.out]; rfl, by rw [HQ.out]; exact hfl, ext_trans hb5 hb6⟩
end Go.Proofs.YtjcimdpldlamfaaGreatDoor
/- The walk of (*desk.desk).do. -/
namespace Go.Proofs.YtjcimdpldlamfaaGreatDoor
open Go.RowKit

set_option maxRecDepth 100000 in
set_option maxHeartbeats 4000000 in
theorem do_say (b c : Nat) (A : Option Addr) (text verb : List UInt8) (l : List (List UInt8)) (w : World) (hB : Blk w b 31 #[.string (bs text)]) (hA : StrsAt w A c l) (hl : l.length ≤ 70000) (hx : ∀ x, x ∈ l → x.length ≤ 70000) (hj : (joinB 32 l).length ≤ 100000) (htl : text.length ≤ 8192) (ht : ITab w) (hm : MaxL w) :
  Calls Tryz.prog 16 #[.pointer (some ⟨b, 0, none⟩), .string (bs verb), .slice A l.length c] w (DoOut b (doT text verb l) text w) := by
 have m1 := hA.len
 have HT := Lib.hid ht; have HB := Lib.hid hB; have HA := Lib.hid hA; have HX := Lib.hid hx; have HM := Lib.hid hm
 have HE3 : Hid (I64 3) := Lib.hid (small_i64 (by decide) (by decide))
 clear hB ht hA hx hm
 by_cases h0 : verb = vGraph
 ·subst h0
  have HQ : Hid (doT text vGraph l = moreT text l) := Lib.hid (by unfold doT; rw [if_pos rfl])
  have HC := Lib.hid (more_say b c A text l w HB.out HA.out hj htl HT.out)
  show Calls Tryz.prog 16 #[.pointer (some ⟨b, 0, none⟩), .string ⟨#[103, 114, 97, 112, 104]⟩, .slice A l.length c] w _
  go_enter Tryz.func16, Tryz.ntmps16
  go_wp2_with fail
  refine HC.out.mono ?_
  rintro e w1 ⟨w2, hle, hb2, rfl, hw⟩
  go_wp2_with fail
  go_ret
  rw [HQ.out]
  exact ⟨w2, hle, hb2, rfl, hw⟩
 by_cases h1 : verb = vGo
 ·subst h1
  have HQ : Hid (doT text vGo l = (text, goT text l)) := Lib.hid (by unfold doT; rw [if_neg (by decide), if_pos rfl])
  have HC := Lib.hid (journey_say b c A text l w HB.out HA.out (by omega) HX.out htl HT.out HM.out)
  show Calls Tryz.prog 16 #[.pointer (some ⟨b, 0, none⟩), .string ⟨#[103, 111]⟩, .slice A l.length c] w _
  clear h0
  go_enter Tryz.func16, Tryz.ntmps16
  go_wp2_with fail
  refine HC.out.mono ?_
  rintro e w1 ⟨rfl, hfl, hb2⟩
  go_wp2_with fail
  go_ret
  rw [HQ.out]
  exact ⟨w1, ⟨htl, hfl⟩, hb2, rfl, .inl ⟨rfl, rfl⟩⟩
 by_cases h2 : verb = vClear
 ·subst h2
  show Calls Tryz.prog 16 #[.pointer (some ⟨b, 0, none⟩), .string ⟨#[99, 108, 101, 97, 114]⟩, .slice A l.length c] w _
  clear h0 h1
  by_cases hn : l = []
  ·subst hn
   have HQ : Hid (doT text vClear [] = ([], wOk)) := Lib.hid (by unfold doT; rw [if_neg (by decide), if_neg (by decide), if_pos rfl, if_pos rfl])
   have f0 := HB.out.frozen 0
   have l0 := HB.out.lt
   have c0 : w.cell? ⟨b, 0, none⟩ = some (.string (bs text)) := HB.out.cell 0
   go_enter Tryz.func16, Tryz.ntmps16
   go_wp2_with fail
   go_ret
   rw [HQ.out]
   exact ⟨w, ⟨by simp, by decide⟩, Below.refl _ _, rfl, .inr rfl⟩
  ·have HQ : Hid (doT text vClear l = (text, errT 3)) := Lib.hid (by unfold doT; rw [if_neg (by decide), if_neg (by decide), if_pos rfl, if_neg hn])
   have hp : 0 < l.length := List.length_pos_iff.2 hn
   have hd : decide ((l.length : Int) > 0) = true := by simp; omega
   have HF := Lib.hid (failed_any 3 HE3.out w HT.out)
   clear hn
   go_enter Tryz.func16, Tryz.ntmps16
   go_wp2_with fail
   refine HF.out.mono ?_
   rintro e w1 ⟨rfl, hb2⟩
   go_wp2_with fail
   go_ret
   rw [HQ.out]
   exact ⟨w1, ⟨htl, err_short HE3.out⟩, hb2, rfl, .inl ⟨rfl, rfl⟩⟩
 have HQ0 : Hid (doT text verb l = (text, askedT text verb l)) := Lib.hid (by unfold doT; rw [if_neg h0, if_neg h1, if_neg h2])
 have k0 : (verb == ([103, 114, 97, 112, 104] : List UInt8)) = false := beq_eq_false_iff_ne.2 h0
 have k1 : (verb == ([103, 111] : List UInt8)) = false := beq_eq_false_iff_ne.2 h1
 have k2 : (verb == ([99, 108, 101, 97, 114] : List UInt8)) = false := beq_eq_false_iff_ne.2 h2
 have HNM : Hid (∀ W, Below w.heap.size w W → Calls Tryz.prog 33 #[.slice A l.length c] W (NumsOut (numsQ l) W)) := Lib.hid fun W h => numbersD_any A c l W (HA.out.ext h) (by omega) fun x hx => by have := HX.out x hx; omega
 clear h0 h1 h2
 rcases asked_any verb with ⟨many, F, fs, hF, hm2, hT, hent, hC⟩ | ⟨hF, hC⟩
 ·have HC := Lib.hid (hC w)
  have HTH := Lib.hid hT; have HEN := Lib.hid hent
  clear hT hent hC
  have hfn : ∀ W : World, (binOp .eql 52 (.func (.func fs) #[] #[]) Value.nilFunc).run Tryz.prog W = .ok (.bool false) W := fun W => by with_unfolding_all rfl
  cases hn : numsB l with
  | none =>
   have HQ : Hid (askedT text verb l = errT 3) := Lib.hid (by unfold askedT; rw [hF, hn])
   rw [numsQ_none hn] at HNM
   clear hn hF
   go_enter Tryz.func16, Tryz.ntmps16
   go_wp2_with fail
   refine HC.out.mono ?_
   rintro e w1 ⟨rfl, hb1⟩
   go_wp2_with fail
   refine (HNM.out _ hb1).mono ?_
   rintro e w2 ⟨An, cn, rfl, _, hb2⟩
   have hb12 := ext_trans hb1 hb2
   have HF := Lib.hid (failed_any 3 HE3.out w2 (HT.out.ext hb12))
   go_wp2_with fail
   refine HF.out.mono ?_
   rintro e w3 ⟨rfl, hb3⟩
   go_wp2_with fail
   go_ret
   rw [HQ0.out, HQ.out]
   exact ⟨w3, ⟨htl, err_short HE3.out⟩, ext_trans hb12 hb3, rfl, .inl ⟨rfl, rfl⟩⟩
  | some n =>
   have HQA : Hid (askedT text verb l = if n.length = many then netT text F n else errT 3) := Lib.hid (by unfold askedT; rw [hF, hn])
   rw [numsQ_some hn] at HNM
   clear hn hF
   go_enter Tryz.func16, Tryz.ntmps16
   go_wp2_with fail
   refine HC.out.mono ?_
   rintro e w1 ⟨rfl, hb1⟩
   go_wp2_with fail
   refine (HNM.out _ hb1).mono ?_
   rintro e w2 ⟨An, cn, rfl, ⟨hON, hIN⟩, hb2⟩
   have hb12 := ext_trans hb1 hb2
   obtain ⟨An', cn', hv, hIA⟩ := own_ints hON hIN
   injection hv with e1 e2 e3
   subst e1 e3
   by_cases hlen : n.length = many
   ·have HQ : Hid (askedT text verb l = netT text F n) := Lib.hid (by rw [HQA.out, if_pos hlen])
    have hnet := netted_any b fs cn An text n #[] F w2 (HB.out.ext hb12) hIA htl (HT.out.ext hb12) (HM.out.ext hb12) HEN.out (fun W A' A'' c' c'' g hW hG hV => by
     have h9 := HTH.out A' A'' An c' c'' cn g n W hG hV (hIA.ext hW) hlen (HT.out.ext (ext_trans hb12 hW))
     simpa using h9)
    have hq : (((n.length : Int)) != (many : Int)) = false := by simp [hlen]
    have HNT := Lib.hid hnet
    obtain ⟨k, hk⟩ : ∃ k, n.length = k := ⟨_, rfl⟩
    rw [hk] at hq HNT ⊢
    clear hON hIN hIA hnet hlen hk
    go_wp2_with fail
    refine HNT.out.mono ?_
    rintro e w3 ⟨rfl, hfl, hb3⟩
    go_wp2_with fail
    go_ret
    rw [HQ0.out, HQ.out]
    exact ⟨w3, ⟨htl, hfl⟩, ext_trans hb12 hb3, rfl, .inl ⟨rfl, rfl⟩⟩
   ·have HQ : Hid (askedT text verb l = errT 3) := Lib.hid (by rw [HQA.out, if_neg hlen])
    have hq : (((n.length : Int)) != (many : Int)) = true := by simp; omega
    have HF := Lib.hid (failed_any 3 HE3.out w2 (HT.out.ext hb12))
    obtain ⟨k, hk⟩ : ∃ k, n.length = k := ⟨_, rfl⟩
    rw [hk] at hq ⊢
    clear hON hIN hIA hlen hk
    go_wp2_with fail
    refine HF.out.mono ?_
    rintro e w3 ⟨rfl, hb3⟩
    go_wp2_with fail
    go_ret
    rw [HQ0.out, HQ.out]
    exact ⟨w3, ⟨htl, err_short HE3.out⟩, ext_trans hb12 hb3, rfl, .inl ⟨rfl, rfl⟩⟩
 ·have HC := Lib.hid (hC w)
  have HQ : Hid (askedT text verb l = errT 3) := Lib.hid (by unfold askedT; rw [hF])
  have hfn : ∀ W : World, (binOp .eql 52 Value.nilFunc Value.nilFunc).run Tryz.prog W = .ok (.bool true) W := fun W => by with_unfolding_all rfl
  clear hF hC
  obtain ⟨q, hq⟩ : ∃ q, numsQ l = q := ⟨_, rfl⟩
  rw [hq] at HNM
  clear hq
  go_enter Tryz.func16, Tryz.ntmps16
  go_wp2_with fail
  refine HC.out.mono ?_
  rintro e w1 ⟨rfl, hb1⟩
  go_wp2_with fail
  refine (HNM.out _ hb1).mono ?_
  rintro e w2 ⟨An, cn, rfl, _, hb2⟩
  have hb12 := ext_trans hb1 hb2
  have HF := Lib.hid (failed_any 3 HE3.out w2 (HT.out.ext hb12))
  go_wp2_with fail
  refine HF.out.mono ?_
  rintro e w3 ⟨rfl, hb3⟩
  go_wp2_with fail
  go_ret
  rw [HQ0.out, HQ.out]
  exact ⟨w3, ⟨htl, err_short HE3.out⟩, ext_trans hb12 hb3, rfl, .inl ⟨rfl, rfl⟩⟩
end Go.Proofs.YtjcimdpldlamfaaGreatDoor
/- What a command of the desk leaves in memory: the desk's block, the builder, the words. -/
namespace Go.Proofs.YtjcimdpldlamfaaGreatDoor
open Go.RowKit

theorem own_str_at {w : World} {base n c : Nat} {A : Option Addr} {l : List (List UInt8)} (h : Own strEnc 1 w base 9 (.slice A n c) l) (h0 : 0 < l.length) : ∃ g cs, A = some ⟨g, 0, none⟩ ∧ base ≤ g ∧ Blk w g 9 cs := by
 rcases h.2 with ⟨h1, h2⟩ | ⟨g, cap, cur, hv, _⟩
 ·omega
 ·simp only [Value.slice.injEq] at hv
  obtain ⟨rfl, rfl, rfl⟩ := hv
  obtain ⟨_, hg, _, _, cs, hB, _, _⟩ := h.cells strEnc_len
  exact ⟨g, cs, rfl, hg, hB⟩
theorem BAtF.store {B b k : Nat} {p u : Value} {l : List Value} {w : World} (h : Lib.BuilderAtF 35 5 B b p l w) (hk : k < B) : Lib.BuilderAtF 35 5 B b p l (w.setCell ⟨k, 0, none⟩ u) := by
 obtain ⟨hB, v, hb, ⟨h1, h2⟩, hne⟩ := h
 have keep : ∀ x, B ≤ x → (w.setCell ⟨k, 0, none⟩ u).heap[x]? = w.heap[x]? := fun x hx => Below.heap_setCell w _ u x (by show x ≠ k; omega)
 refine ⟨hB, v, (keep b hB).trans hb, ⟨h1, ?_⟩, hne⟩
 rcases h2 with h2 | ⟨g, cap, cur, fz, hv, hg, hh, r⟩
 ·exact .inl h2
 ·exact .inr ⟨g, cap, cur, fz, hv, hg, (keep g hg).trans hh, r⟩
theorem BAt.store {B b k : Nat} {u : Value} {l : List UInt8} {w : World} (h : BAt B b l w) (hk : k < B) : BAt B b l (w.setCell ⟨k, 0, none⟩ u) := h.elim (fun h => .inl (BAtF.store h hk)) (fun h => .inr (BAtF.store h hk))
theorem do_after {b bw : Nat} {r : List UInt8 × List UInt8} {tx out : List UInt8} {cs : Array Value} {W w' : World} {e : Ending} (h : DoOut b r tx W e w') (hD : Blk W b 31 #[.string (bs tx)]) (hB : BAt (b + 1) (b + 1) out W) (hC : Blk W bw 9 cs) (hne : bw ≠ b) :
  e = .returned (.string (bs r.2)) ∧ (r.1.length ≤ 8192 ∧ r.2.length ≤ 100000) ∧ Blk w' b 31 #[.string (bs r.1)] ∧ BAt (b + 1) (b + 1) out w' ∧ Blk w' bw 9 cs ∧ Below b W w' ∧ W.heap.size ≤ w'.heap.size := by
 obtain ⟨w1, hle, hb, rfl, hw⟩ := h
 refine ⟨rfl, hle, ?_⟩
 rcases hw with ⟨rfl, h1⟩ | rfl
 ·rw [h1]
  exact ⟨hD.ext hb, BAt.ext hB hb, hC.ext hb, hb.mono (Nat.le_of_lt hD.lt), hb.size⟩
 ·exact ⟨(hD.ext hb).set_ 0 _, BAt.store (BAt.ext hB hb) (Nat.lt_succ_self b), (hC.ext hb).far hne _, (hb.mono (Nat.le_of_lt hD.lt)).setCell (Nat.le_refl b) _, by simpa using hb.size⟩
theorem write_after {b bw : Nat} {out t : List UInt8} {tx : List UInt8} {cs : Array Value} {W w' : World} (hw : BAt (b + 1) (b + 1) (out ++ t) w' ∧ Below (b + 1) W w' ∧ Lib.OthersKept 5 (some (b + 1)) W w') (hD : Blk W b 31 #[.string (bs tx)]) (hC : Blk W bw 9 cs) (hne : bw ≠ b + 1) :
  Blk w' b 31 #[.string (bs tx)] ∧ BAt (b + 1) (b + 1) (out ++ t) w' ∧ Blk w' bw 9 cs ∧ Below b W w' :=
 ⟨hD.below hw.2.1 (Nat.lt_succ_self b), hw.1, hw.2.2 _ _ hC (fun e => hne (by injection e)) (fun c fz e => by injection e with _ e2 _; exact absurd e2 (by decide)), hw.2.1.mono (Nat.le_succ b)⟩
end Go.Proofs.YtjcimdpldlamfaaGreatDoor
