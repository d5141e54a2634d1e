/- Several texts in one: RefFold, EqualC, WarpFold, LawWarpSays. -/
import Derived.Test.YtdpibehpmghghaaDoorBd7609a53e81
import Derived.Test.YtdpibehpmghghaaDoorBd8d0d4b5846
import Derived.Test.YtdpibehpmghghaaDoorBd1c433653ca
import Derived.Test.YtdpibehpmghghaaDoorBd488577e5cf
import Derived.Test.YtdpibehpmghghaaDoorBd956b9b2aac
import Derived.Test.YtdpibehpmghghaaDoorBd9ec67c05a9
import Derived.Test.YtdpibehpmghghaaDoorBd8506619883
/- The walk of the document's Fold. -/
namespace Go.Proofs.YtdpibehpmghghaaDoor
open Go.RowKit Go.Shelf

theorem enters_refFold1 : Enters Tryd.prog 66 := enters_of Tryd.func66 (by kernel_rfl) rfl
theorem Late.of_sib {g base : Nat} {w w' : World} (h : Sib g w w') (hg : g < base) : Late base w w' := ⟨h.size, fun k h1 h2 => h.block k h2 (by omega)⟩
theorem mixO_turns {l : List PieceD} {k : Int} {D : List Int} (hD : D.Pairwise (· < ·)) (hl : ∀ x, x ∈ l → x.f ∈ D ∧ x.t ∈ D) : TurnsAt D none (mixO l k) :=
  (which_turns hD hl).map2 (nb := ()) (e := fun _ => ()) (fun w _ => if w = [] then none else some (valOf l k w)) (if_pos rfl) ⟨fun _ _ _ _ _ _ _ _ => rfl, fun _ h => absurd rfl h⟩
set_option maxRecDepth 100000 in
set_option maxHeartbeats 4000000 in
theorem refFold1_any (B : Option Addr) (d bl bh be : Nat) (l : List PieceD) (how t ek : Int) (W : World) (hcl : W.cell? ⟨bl, 0, none⟩ = some (.slice B l.length d)) (hch : W.cell? ⟨bh, 0, none⟩ = some (.int .i64 how)) (hE : Blk W be 26 #[.int .i64 ek])
    (hB : PiecesAt W B d l) (hm : MsgOk l) (hl : l.length ≤ 200) (hk : 1 ≤ how ∧ how ≤ 3) (ht : Tab W) :
    Calls Tryd.prog 66 #[.int .i64 t, .pointer (some ⟨bl, 0, none⟩), .pointer (some ⟨bh, 0, none⟩), .pointer (some ⟨be, 0, none⟩)] W fun e w' => e = .returned (.tuple #[.int .i64 (valOf l how (whichL l t)), .bool (mixO l how t).isSome]) ∧
      ∃ w1, Below W.heap.size W w1 ∧ (w' = w1 ∨ w' = w1.setCell ⟨be, 0, none⟩ (.int .i64 5)) ∧ Blk w' be 26 #[.int .i64 (if farO (mixO l how t) = true then 5 else ek)] := by
  have hMx := refMixed_any B d l how t W hB hm hl hk ht
  unfold mixV at hMx
  obtain ⟨L, hL⟩ : ∃ L, whichL l t = L := ⟨_, rfl⟩
  obtain ⟨v, hv⟩ : ∃ v, valOf l how L = v := ⟨_, rfl⟩
  have HMO : Hid (mixO l how t = if L = [] then none else some v) := Lib.hid (by unfold mixO; rw [hL, hv])
  rw [hL, hv] at hMx ⊢
  rw [HMO.out]
  clear hL hv hB hm hk ht
  by_cases h0 : L = []
  · subst h0
    rw [show decide (([] : List Int) ≠ []) = false by simp] at hMx
    go_enter Tryd.func66, Tryd.ntmps66
    go_wp2_with fail
    refine hMx.mono ?_
    rintro e w1 ⟨rfl, hb1⟩
    go_wp2_with fail
    refine bodyPost_ret (v := .tuple #[.int .i64 v, .bool false]) (by simp [results, Tryd.results66]) rfl ?_
    exact ⟨rfl, w1, hb1, .inl rfl, hE.ext hb1⟩
  · rw [show decide (L ≠ []) = true by simpa using h0] at hMx
    rw [if_neg h0]
    have HE := Lib.hid hE
    clear h0 hE
    cases hn : nearB v
    · have HF : Hid (farO (some v) = true) := Lib.hid (by simp [farO, farB, hn])
      have hnr := fun W => near_is hn W
      rw [HF.out, if_pos rfl]
      go_enter Tryd.func66, Tryd.ntmps66
      go_wp2_with fail
      refine hMx.mono ?_
      rintro e w1 ⟨rfl, hb1⟩
      have hE1 := HE.out.ext hb1
      obtain ⟨f1, f2, f3⟩ := hE1.facts
      go_wp2_with (first | (go_at_call 63; refine (hnr _).mono ?_; rintro e w' ⟨rfl, rfl⟩))
      refine bodyPost_ret (v := .tuple #[.int .i64 v, .bool true]) (by simp [results, Tryd.results66]) rfl ?_
      exact ⟨rfl, w1, hb1, .inr rfl, hE1.set_ 0 _⟩
    · have HF : Hid (farO (some v) = false) := Lib.hid (by simp [farO, farB, hn])
      have hnr := fun W => near_is hn W
      rw [HF.out, if_neg (by simp)]
      go_enter Tryd.func66, Tryd.ntmps66
      go_wp2_with fail
      refine hMx.mono ?_
      rintro e w1 ⟨rfl, hb1⟩
      have hE1 := HE.out.ext hb1
      go_wp2_with (first | (go_at_call 63; refine (hnr _).mono ?_; rintro e w' ⟨rfl, rfl⟩))
      refine bodyPost_ret (v := .tuple #[.int .i64 v, .bool true]) (by simp [results, Tryd.results66]) rfl ?_
      exact ⟨rfl, w1, hb1, .inl rfl, hE1⟩
/-- A map is told, and an error. -/
def MapOutA (R : Int → List PieceD → Prop) (w : World) (e : Ending) (w' : World) : Prop := ∃ er out A c, Hid (R er out) ∧ e = .returned (.tuple #[.slice A out.length c, .int .i64 er]) ∧ PiecesAt w' A c out ∧ Below w.heap.size w w'
set_option maxRecDepth 100000 in
set_option maxHeartbeats 8000000 in
theorem refFold_any (B : Option Addr) (d : Nat) (l : List PieceD) (k : Int) (w : World) (hB : PiecesAt w B d l) (ht : Tab w) :
    Calls Tryd.prog 26 #[.slice B l.length d, .int .i64 k] w (MapOutA (FoldSay l k) w) := by
  have HB := Lib.hid hB
  have HTB := Lib.hid ht
  have hmf : ∀ (fn : Fn) (first cap : Array Value) (w : World), (Instr.makeFunc fn first cap).run Tryd.prog w = .ok (.func fn first cap) w := fun _ _ _ _ => rfl
  have hent := enters_refFold1
  unfold Enters at hent
  have m2 := hB.len
  clear hB ht
  go_enter Tryd.func26, Tryd.ntmps26
  go_wp2_with fail
  obtain ⟨w0, hw0⟩ : ∃ w0, w0 = ((w.alloc (Obj.cells #[.slice B l.length d] 58)).alloc (Obj.cells #[.int .i64 k] 3)) := ⟨_, rfl⟩
  have hb0 : Below w.heap.size w w0 := by rw [hw0]; go_grown
  have Bl : Blk w0 w.heap.size 58 #[.slice B l.length d] := by rw [hw0]; exact (Blk.new _ _ _).alloc _
  have Bh : Blk w0 (w.heap.size + 1) 3 #[.int .i64 k] := by rw [hw0]; exact Blk.new_ (by simp)
  rw [← hw0]
  clear hw0
  refine (refMessages_any B d l w0 (HB.out.ext hb0)).mono ?_
  by_cases h0 : msgErr l = 0
  case neg =>
    have hd : (msgErr l != 0) = true := by simpa using h0
    have HS : Hid (FoldSay l k (msgErr l) []) := Lib.hid (by unfold FoldSay; rw [if_neg h0]; exact ⟨rfl, rfl⟩)
    clear h0
    obtain ⟨er, her⟩ : ∃ er, msgErr l = er := ⟨_, rfl⟩
    rw [her] at hd HS ⊢
    clear her
    rintro e w1 ⟨rfl, hb1⟩
    go_wp2_with fail
    refine bodyPost_ret (v := .tuple #[.slice none 0 0, .int .i64 er]) (by simp [results, Tryd.results26]) rfl ?_
    exact ⟨er, [], none, 0, HS, rfl, .nil, ext_trans hb0 hb1⟩
  case pos =>
  have HEA := Lib.hid h0
  rw [h0]
  clear h0
  rintro e w1 ⟨rfl, hb1⟩
  have Bl := Bl.ext hb1
  have Bh := Bh.ext hb1
  have hb0 := ext_trans hb0 hb1
  clear hb1
  obtain ⟨c1, c2, c3⟩ := Bh.facts
  obtain ⟨d1, d2, d3⟩ := Bl.facts
  have hbh1 : w.heap.size + 1 < w1.heap.size := Bh.lt
  have HM := Lib.hid (msgErr_zero HEA.out)
  go_wp2_with fail
  refine (in_any _ _ _ _).mono ?_
  by_cases hk : 1 ≤ k ∧ k ≤ 3
  case neg =>
    have hkk : inB k 1 3 = false := by simp [inB]; omega
    rw [hkk]
    have HS : Hid (FoldSay l k 1 []) := Lib.hid (by unfold FoldSay; rw [if_pos HEA.out, if_neg hk]; exact ⟨rfl, rfl⟩)
    clear hk hkk
    rintro e w2 ⟨rfl, rfl⟩
    go_wp2_with fail
    refine bodyPost_ret (v := .tuple #[.slice none 0 0, .int .i64 1]) (by simp [results, Tryd.results26]) rfl ?_
    exact ⟨1, [], none, 0, HS, rfl, .nil, hb0⟩
  case pos =>
  have hkk : inB k 1 3 = true := by simp [inB]; omega
  rw [hkk]
  have HK := Lib.hid hk
  clear hk hkk
  rintro e w2 ⟨rfl, rfl⟩
  go_wp2_with fail
  obtain ⟨w3, hw3⟩ : ∃ x, x = w1.alloc (Obj.cells #[.int .i64 0] 26) := ⟨_, rfl⟩
  have Be : Blk w3 w1.heap.size 26 #[.int .i64 0] := by rw [hw3]; exact Blk.new _ _ _
  have hb13 : Below w1.heap.size w1 w3 := by rw [hw3]; exact ext_alloc (Below.refl _ w1) _
  have Bl := Bl.ext hb13
  have Bh := Bh.ext hb13
  have hb3 := ext_trans hb0 hb13
  have hz1 := hb0.size
  rw [← hw3]
  clear hw3 hb13 c1 c2 c3 d1 d2 d3 hb0
  refine (refMailTurns_any B d l _ (HB.out.ext hb3) (by have := HM.out.1; omega)).mono ?_
  rintro e w4 ⟨v4, rfl, O4, hb4⟩
  have Bl := Bl.ext hb4; have Bh := Bh.ext hb4; have Be := Be.ext hb4
  have hb4' := ext_trans hb3 hb4
  obtain ⟨A4, c4, rfl, hI4⟩ := own_ints O4 (fun n hn => endsP_i64 HB.out n hn)
  have hbl : w.heap.size < w4.heap.size := Bl.lt
  have hbh : w.heap.size + 1 < w4.heap.size := Bh.lt
  have hbe : w1.heap.size < w4.heap.size := Be.lt
  have HT := told_gen 66 #[.pointer (some ⟨w.heap.size, 0, none⟩), .pointer (some ⟨w.heap.size + 1, 0, none⟩), .pointer (some ⟨w1.heap.size, 0, none⟩)] (mixO l k) hent A4 c4 (endsP l) w4 hI4
    (by rw [endsP_len]; have := HM.out.1; omega)
    (fun D h1 h2 => mixO_turns h1 fun x hx => ⟨(h2 _).2 (mem_endsP.2 ⟨x, hx, .inl rfl⟩), (h2 _).2 (mem_endsP.2 ⟨x, hx, .inr rfl⟩)⟩)
    (fun t v hv => by
      unfold mixO at hv
      split at hv
      · simp at hv
      · have e : valOf l k (whichL l t) = v := by simpa using hv
        have := valOf_bound (t := t) HM.out.2 HM.out.1 HK.out
        rw [← e]
        exact ⟨by omega, by omega⟩)
    (fun D i W => Blk W w1.heap.size 26 #[.int .i64 (if (D.take i).any (fun x => farO (mixO l k x)) = true then 5 else 0)] ∧ Sib w1.heap.size w4 W)
    (fun D W hb => ⟨by simpa using Be.ext hb, Sib.of_below hb⟩)
    (fun D i W W' h hb => ⟨h.1.below hb hbe, h.2.more hb⟩)
    (fun D i W x _ _ hJ hx _ _ => by
      have hbW := hJ.2.below hb4' (show w.heap.size ≤ w1.heap.size by omega) (by omega)
      refine (refFold1_any B d w.heap.size (w.heap.size + 1) w1.heap.size l k x _ W ((hJ.2.blk Bl (by omega)).cell 0) ((hJ.2.blk Bh (by omega)).cell 0) hJ.1 (HB.out.ext hbW) HM.out.2 HM.out.1 HK.out (HTB.out.ext hbW)).mono ?_
      rintro e w' ⟨he, w1', hb1', hor, hblk⟩
      have hs : Sib w1.heap.size W w' := by
        rcases hor with rfl | rfl
        · exact Sib.of_below hb1'
        · exact (Sib.of_below hb1').trans (Sib.store _ _ _)
      refine ⟨_, he, fun y hy => ?_, ⟨?_, hJ.2.trans hs⟩, Late.of_sib hs hbe⟩
      · unfold mixO at hy
        split at hy
        · simp at hy
        · simpa using hy
      · rw [List.take_add_one, hx, List.any_append]
        have e : (if ((D.take i).any (fun x => farO (mixO l k x)) || (some x).toList.any (fun x => farO (mixO l k x))) = true then (5 : Int) else 0) = (if farO (mixO l k x) = true then 5 else (if (D.take i).any (fun x => farO (mixO l k x)) = true then 5 else 0)) := by
          cases (D.take i).any (fun x => farO (mixO l k x)) <;> cases h : farO (mixO l k x) <;> simp [h]
        rw [e]
        exact hblk)
  clear O4 hb4 hI4
  go_wp2_with fail
  refine HT.mono ?_
  clear HT
  rintro e w5 ⟨A5, c5, out, D, i, HO, rfl, hI5, hz5⟩
  obtain ⟨fl, hfl⟩ : ∃ fl, ((D.take i).any fun x => farO (mixO l k x)) = fl := ⟨_, rfl⟩
  have HFL := Lib.hid hfl
  have B6 := HO.out.2.1.1
  rw [hfl] at B6
  have HB5 : Hid (Below w.heap.size w w5) := Lib.hid (HO.out.2.1.2.below hb4' (show w.heap.size ≤ w1.heap.size by omega) (by omega))
  have h5 : out.length ≤ maxLen := Nat.le_trans hI5.lc hI5.cm
  have HI5 := Lib.hid hI5
  have H5 := Lib.hid h5
  have m5 := hI5.len
  clear hfl hI5 h5 hb4' hb3 Bl Bh Be
  cases fl
  case true =>
    simp only [if_true] at B6
    obtain ⟨r1, r2, r3⟩ := B6.facts
    have HS : Hid (FoldSay l k 5 []) := Lib.hid (by
      obtain ⟨t, v, hv, hf⟩ := far_some HFL.out
      unfold FoldSay
      rw [if_pos HEA.out, if_pos HK.out]
      exact ⟨out, HO.out.1.1, HO.out.1.2, (tellErr_far hv hf).symm, fun h => by simp at h, fun _ => rfl⟩)
    go_wp2_with fail
    go_quiet (fail)
    go_wp2_with fail
    refine bodyPost_ret (v := .tuple #[.slice none 0 0, .int .i64 5]) (by simp [results, Tryd.results26]) rfl ?_
    exact ⟨5, [], none, 0, HS, rfl, .nil, below_drewN HB5.out _⟩
  case false =>
    simp only [Bool.false_eq_true, if_false] at B6
    obtain ⟨r1, r2, r3⟩ := B6.facts
    have HTT : Hid (TurnsAt D none (mixO l k)) := Lib.hid (mixO_turns HO.out.2.2.1 fun x hx => ⟨(HO.out.2.2.2.1 _).2 (mem_endsP.2 ⟨x, hx, .inl rfl⟩), (HO.out.2.2.2.1 _).2 (mem_endsP.2 ⟨x, hx, .inr rfl⟩)⟩)
    have HV := Lib.hid (far_at HO.out.2.2.1 HTT.out HO.out.2.2.2.2.2.1 HFL.out)
    have hs7 := fun w => refSmall_any A5 out.length c5 w H5.out
    have HT : Hid (Tells (mixO l k) (if 200 < out.length then 2 else 0) (if 200 < out.length then [] else out)) := Lib.hid (EachSay.tells ⟨out, HO.out.1.1, HO.out.1.2, rfl, rfl⟩ HV.out)
    by_cases hl : 200 < out.length
    · rw [if_pos hl, if_pos hl] at HT
      simp only [if_pos hl] at hs7
      clear hl
      go_wp2_with (first | (refine (hs7 _).mono ?_; rintro e w8 ⟨rfl, rfl⟩))
      refine bodyPost_ret (v := .tuple #[.slice none 0 0, .int .i64 2]) (by simp [results, Tryd.results26]) rfl ?_
      exact ⟨2, [], none, 0, Lib.hid (by unfold FoldSay; rw [if_pos HEA.out, if_pos HK.out]; exact HT.out), rfl, .nil, HB5.out⟩
    · rw [if_neg hl, if_neg hl] at HT
      simp only [if_neg hl] at hs7
      clear hl
      go_wp2_with (first | (refine (hs7 _).mono ?_; rintro e w8 ⟨rfl, rfl⟩))
      refine bodyPost_ret (v := .tuple #[.slice A5 out.length c5, .int .i64 0]) (by simp [results, Tryd.results26]) rfl ?_
      exact ⟨0, out, A5, c5, Lib.hid (by unfold FoldSay; rw [if_pos HEA.out, if_pos HK.out]; exact HT.out), rfl, HI5.out, HB5.out⟩
end Go.Proofs.YtdpibehpmghghaaDoor
/- The walk of slices.Equal at cells; a list of cells in a block of its own. -/
namespace Go.Proofs.YtdpibehpmghghaaDoor
open Go.RowKit Go.Shelf

abbrev cellV (x : CellD) : Value := .agg #[.int .i64 x.f, .int .i64 x.t, .int .i64 x.s, .bool x.has, .int .i64 x.v]
theorem fields_cell : Tryd.prog.underlying 67 = some (.struct (Tryd.prog.fieldsOf 67)) := by kernel_rfl
theorem guard_cell : Tryd.prog.eqGuardType Tryd.prog.depth 67 = false := by kernel_rfl
theorem held_cell : Tryd.prog.stoodInHeld 67 = false := by kernel_rfl
theorem same_cell (x y : CellD) (w : World) : (Op.equalIn 10000 67 (cellV x) (cellV y)).run Tryd.prog w = .ok (decide (x = y)) w := by
  have e : decide (x = y) = decide (x.f = y.f ∧ x.t = y.t ∧ x.s = y.s ∧ x.has = y.has ∧ x.v = y.v) := by rw [decide_eq_decide]; cases x; cases y; simp
  rw [e, run_equalIn_agg w 9999 67 _ _ fields_cell held_cell]
  have hf : (Tryd.prog.fieldsOf 67).toList = (match Tryd.prog.underlying 67 with | some (.struct fs) => fs.toList | _ => []) := by kernel_rfl
  rw [hf, Tryd.underlying67]
  simp [Op.eqFields, go_sem]
  by_cases hf : x.f = y.f <;> by_cases ht : x.t = y.t <;> by_cases hs : x.s = y.s <;> by_cases hh : x.has = y.has <;> by_cases hv : x.v = y.v <;> simp [*]
set_option maxHeartbeats 1000000 in
theorem equalCells_any (A B : Option Addr) (c d : Nat) (a b : List CellD) (w : World) (hA : SlAt RCell 5 w A a) (hB : SlAt RCell 5 w B b) (ha : a.length ≤ maxLen) (hb : b.length ≤ maxLen) :
    Calls Tryd.prog 29 #[.slice A a.length c, .slice B b.length d] w fun e w' => e = .returned (.bool (decide (a = b))) ∧ Below w.heap.size w w' := by
  unfold maxLen at ha hb
  by_cases hl : a.length = b.length
  case neg =>
    have hne : ((a.length : Int) != (b.length : Int)) = true := by simp; omega
    go_enter Tryd.func29, Tryd.ntmps29
    go_wp2_with fail
    go_ret
    exact ⟨ret_bool (by symm; simp; intro h; exact hl (by rw [h])), Below.refl _ _⟩
  have hne : ((a.length : Int) != (b.length : Int)) = false := by simp; omega
  obtain ⟨ba, oa, hA⟩ := hA
  obtain ⟨bb, ob, hB⟩ := hB
  have HL := Lib.hid hl
  have hl1 : a.length ≤ b.length := by omega
  have hl2 : b.length ≤ a.length := by omega
  clear hl
  go_enter Tryd.func29, Tryd.ntmps29
  go_wp2_with fail
  go_loopw [13] (fun v wr => ∃ k : Nat, k ≤ a.length ∧ v = .int .i64 k ∧ Hid (a.take k = b.take k) ∧ Below w.heap.size w wr) (fun v _ => a.length - (intOf v).toNat)
  case atStart => exact ⟨0, Nat.zero_le _, rfl, Lib.hid (by simp), Below.refl _ _⟩
  case round =>
    obtain ⟨k, hk, rfl, HI, hw⟩ := hrel
    by_cases hlt : k < a.length
    · obtain ⟨x, hx⟩ := get_lt hlt
      obtain ⟨y, hy⟩ := get_lt (show k < b.length by omega)
      obtain ⟨rfl, hba, ⟨x0, x1, x2, x3, x4⟩, _⟩ := hA k x hx
      obtain ⟨rfl, hbb, ⟨y0, y1, y2, y3, y4⟩, _⟩ := hB k y hy
      have x0' := x0.now hw
      have y0' := y0.now hw
      have x1' := x1.now hw
      have y1' := y1.now hw
      have x2' := x2.now hw
      have y2' := y2.now hw
      have x3' := x3.now hw
      have y3' := y3.now hw
      have x4' := x4.now hw
      have y4' := y4.now hw
      have HX := Lib.hid hx
      have HY := Lib.hid hy
      have hlt2 : k < b.length := by omega
      clear hA hB hx hy x0 y0 x1 y1 x2 y2 x3 y3 x4 y4
      by_cases hxy : x = y
      · have HXY := Lib.hid hxy
        have hn : decide (x = y) = true := by simp [hxy]
        have hs := same_cell x y
        rw [hn] at hs
        have hgd := guard_cell
        clear hxy
        go_wp2_with fail
        go_quiet (fail)
        go_wp2
        go_roundw
        case rel => exact ⟨k + 1, by omega, by go_num, Lib.hid (take_step HX.out HY.out HI.out HXY.out), below_drewN hw _⟩
        case measure => simp [intOf]; omega
      · have HXY := Lib.hid hxy
        have hn : decide (x = y) = false := by simp [hxy]
        have hs := same_cell x y
        rw [hn] at hs
        have hgd := guard_cell
        clear hxy
        go_wp2_with fail
        go_quiet (fail)
        go_wp2
        go_ret
        exact ⟨ret_bool (by symm; simp; exact ne_of_get HX.out HY.out HXY.out), below_drewN hw _⟩
    · go_wp2_with fail
      go_ret
      exact ⟨ret_bool (by symm; simp; exact take_eq_of HL.out (by omega) HI.out), hw⟩

/-- A list of two cells in a block of its own. -/
theorem cells_lit {w : World} {g : Nat} {x y : CellD} (h : Blk w g 67 (cellC x ++ cellC y).toArray) (hx : I64 x.f ∧ I64 x.t ∧ I64 x.s ∧ I64 x.v) (hy : I64 y.f ∧ I64 y.t ∧ I64 y.s ∧ I64 y.v) : CellsAt w (some ⟨g, 0, none⟩) 2 [x, y] := by
  refine ⟨by simp, by decide, g, 0, fun i z hz => ?_⟩
  match i, hz with
  | 0, hz =>
    obtain rfl : x = z := by simpa using hz
    exact ⟨rfl, h.lt, ⟨h.cell 0, h.cell 1, h.cell 2, h.cell 3, h.cell 4⟩, hx⟩
  | 1, hz =>
    obtain rfl : y = z := by simpa using hz
    exact ⟨rfl, h.lt, ⟨h.cell 5, h.cell 6, h.cell 7, h.cell 8, h.cell 9⟩, hy⟩
  | n + 2, hz => simp at hz
end Go.Proofs.YtdpibehpmghghaaDoor
/- The walk of warp.Fold (printed by genwarpfold.py). -/
namespace Go.Proofs.YtdpibehpmghghaaDoor
open Go.RowKit Go.Shelf

theorem cell_at {U : List (PieceG Key)} {l : List PieceD} {how : Int} {k : Nat} {y : PieceG Key} (h : U[k]? = some y) : (U.map (toCell l how))[k]? = some (toCell l how y) := by rw [List.getElem?_map, h]; rfl
theorem mapErr_nil' : mapErr [] = 0 := mapErr_ok (by simp) MapOk.nil
theorem fold_vals {l : List PieceD} {how : Int} {U : List (PieceG Key)} (hU : MapG U) (hk : ∀ t, atG U t = keyF [] l t) (hq : U.any (farP l how) = false) : ∀ t v, mixO l how t = some v → nearB v = true := fun t v hv => by
  rw [← mix_fold hk] at hv
  unfold foldF at hv
  cases hc : atG U t with
  | none => rw [hc] at hv; simp at hv
  | some q =>
    rw [hc] at hv
    obtain ⟨x, hx, _, _, rfl⟩ := atG_some hc
    have := List.any_eq_false.1 hq x hx
    obtain rfl : valOf l how x.v.1 = v := by simpa using hv
    exact far_off (by simpa [farP] using this)
theorem cells_i64 {w : World} {A : Option Addr} {c : Nat} {U : List (PieceG Key)} {l : List PieceD} {k : Int} (h : CellsAt w A c (U.map (toCell l k))) : ∀ y, y ∈ U → I64 y.f ∧ I64 y.t ∧ I64 (valOf l k y.v.1) := fun y hy => by
  obtain ⟨j, hj⟩ := List.getElem?_of_mem hy
  obtain ⟨b, off, hS⟩ := h.sl
  have := (hS j _ (cell_at (l := l) (how := k) hj)).2.2.2
  exact ⟨this.1, this.2.1, this.2.2.2⟩
theorem fold_far {l : List PieceD} {how : Int} {U : List (PieceG Key)} (hU : MapG U) (hk : ∀ t, atG U t = keyF [] l t) (hq : U.any (farP l how) = true) : ∃ t v, mixO l how t = some v ∧ nearB v = false := by
  obtain ⟨x, hx, hf⟩ := List.any_eq_true.1 hq
  refine ⟨x.f, valOf l how x.v.1, ?_, far_on hf⟩
  rw [← mix_fold hk]
  unfold foldF
  rw [hU.mem_at hx (Int.le_refl _) (hU.2 x hx)]
  rfl
set_option maxRecDepth 100000 in
set_option maxHeartbeats 8000000 in
theorem warpFold_any (B : Option Addr) (d : Nat) (l : List PieceD) (k : Int) (w : World) (hB : PiecesAt w B d l) :
    Calls Tryd.prog 25 #[.slice B l.length d, .int .i64 k] w (MapOut (FoldSay l k) w) := by
  obtain ⟨i0, hi, hz0, hz1, hz2⟩ := info_piece2
  have m2 := hB.len
  have HB := Lib.hid hB
  have hC2 := warpCheck_any B d l w hB
  clear hB
  by_cases h1 : msgErr l = 0
  case neg =>
    have hd : (msgErr l != 0) = true := by simpa using h1
    have HS : Hid (FoldSay l k (msgErr l) []) := Lib.hid (by unfold FoldSay; rw [if_neg h1]; exact ⟨rfl, rfl⟩)
    clear h1
    obtain ⟨er, her⟩ : ∃ er, msgErr l = er := ⟨_, rfl⟩
    rw [her] at hd HS hC2
    clear her
    go_enter Tryd.func25, Tryd.ntmps25
    go_wp2_with fail
    refine hC2.mono ?_
    rintro e w2 ⟨rfl, hb2⟩
    go_wp2_with fail
    go_ret2
    exact ⟨er, [], none, 0, HS, rfl, .nil, hb2⟩
  case pos =>
  rw [h1] at hC2
  have H1 := Lib.hid h1
  clear h1
  by_cases hk : 1 ≤ k ∧ k ≤ 3
  case neg =>
    have HS : Hid (FoldSay l k 1 []) := Lib.hid (by unfold FoldSay; rw [if_pos H1.out, if_neg hk]; exact ⟨rfl, rfl⟩)
    have h3 : decide (k < 1) = true ∨ (decide (k < 1) = false ∧ decide (k > 3) = true) := by simp; omega
    clear hk
    rcases h3 with h3 | ⟨h3, h4⟩
    all_goals
      go_enter Tryd.func25, Tryd.ntmps25
      go_wp2_with fail
      refine hC2.mono ?_
      rintro e w2 ⟨rfl, hb2⟩
      go_wp2_with fail
      go_ret2
      exact ⟨1, [], none, 0, HS, rfl, .nil, hb2⟩
  case pos =>
  have HK := Lib.hid hk
  have h3 : decide (k < 1) = false := by simp; omega
  have h4 : decide (k > 3) = false := by simp; omega
  clear hk
  go_enter Tryd.func25, Tryd.ntmps25
  go_wp2_with fail
  refine hC2.mono ?_
  rintro e w2 ⟨rfl, hb2⟩
  clear hC2
  go_wp2_with fail
  refine (warpCells_any none B 0 d [] l k _ PiecesAt.nil (HB.out.ext hb2) mapErr_nil' H1.out HK.out).mono ?_
  rintro e w3 ⟨U, A3, c3, HU, rfl, hI3, hb3, hU9⟩
  have hb3 := ext_trans hb2 hb3
  have m3 := hI3.len
  rw [List.length_map] at m3
  clear hb2
  obtain ⟨q, hq⟩ : ∃ q, U.any (farP l k) = q := ⟨_, rfl⟩
  have HQ := Lib.hid hq
  rw [hq]
  clear hq
  cases q
  case true =>
    have HS : Hid (FoldSay l k 5 []) := Lib.hid (by
      unfold FoldSay
      rw [if_pos H1.out, if_pos HK.out]
      obtain ⟨t, v, hv, hf⟩ := fold_far HU.out.1 HU.out.2 HQ.out
      obtain ⟨out, ho⟩ := fold_ex (g := fun q => valOf l k q.1) HU.out.1 (cells_i64 hI3) U.length (Nat.le_refl _)
      exact ⟨out, (ho.fin HU.out.1).1, fun t => by rw [(ho.fin HU.out.1).2, mix_fold HU.out.2], (tellErr_far hv hf).symm, fun h => by simp at h, fun _ => rfl⟩)
    go_wp2_with fail
    go_ret2
    exact ⟨5, [], none, 0, HS, rfl, .nil, hb3⟩
  case false =>
  have HI3 := Lib.hid hI3
  clear hI3
  go_wp2_with fail
  go_loopw [9, 33] (fun u x wr => ∃ (j : Nat) (out : List PieceD), j ≤ U.length ∧ x = .int .i64 j ∧ Hid (FoldK U (fun q => valOf l k q.1) j out) ∧ Own pieceC 3 wr w3.heap.size 70 u out ∧ Below w3.heap.size w3 wr) (fun _ x _ => U.length - (intOf x).toNat)
  case atStart => exact ⟨0, [], Nat.zero_le _, rfl, Lib.hid FoldK.start, Own.nil, Below.refl _ _⟩
  case round =>
    obtain ⟨j, out, hj, rfl, HF, hO, hb⟩ := hrel
    have hol := HF.out.2.2.1
    have hzr := hb.size
    have hbr := ext_trans hb3 hb
    by_cases hlt : j < U.length
    case neg =>
      obtain rfl : j = U.length := by omega
      have HM : Hid (MapL out ∧ ∀ t, atM out t = mixO l k t) := Lib.hid ⟨(HF.out.fin HU.out.1).1, fun t => by rw [(HF.out.fin HU.out.1).2, mix_fold HU.out.2]⟩
      obtain ⟨Ao, co, rfl, hIo⟩ := own_pieces hO HF.out.2.2.2
      have HT : Hid (Tells (mixO l k) (if 200 < out.length then 2 else 0) (if 200 < out.length then [] else out)) := Lib.hid (EachSay.tells ⟨out, HM.out.1, HM.out.2, rfl, rfl⟩ (fold_vals HU.out.1 HU.out.2 HQ.out))
      by_cases hl : 200 < out.length
      · have hd : decide ((out.length : Int) > 200) = true := by simp; omega
        rw [if_pos hl, if_pos hl] at HT
        clear hl
        go_wp2_with fail
        go_ret2
        exact ⟨2, [], none, 0, Lib.hid (by unfold FoldSay; rw [if_pos H1.out, if_pos HK.out]; exact HT.out), rfl, .nil, hbr⟩
      · have hd : decide ((out.length : Int) > 200) = false := by simp; omega
        rw [if_neg hl, if_neg hl] at HT
        clear hl
        go_wp2_with fail
        go_ret2
        exact ⟨0, out, Ao, co, Lib.hid (by unfold FoldSay; rw [if_pos H1.out, if_pos HK.out]; exact HT.out), rfl, hIo.since hb3.size, hbr⟩
    case pos =>
      obtain ⟨y, hy⟩ := get_lt hlt
      have hyc := cell_at (l := l) (how := k) hy
      obtain ⟨b, off, rfl, hb0, x0, x1, x2, x3, x4⟩ := HI3.out.get hyc
      rw [← hb.cell (by exact hb0)] at x0 x1 x2 x3 x4
      have HY := Lib.hid hy
      obtain ⟨bb, oo, hSS⟩ := HI3.out.sl
      have hi64 := (hSS j _ hyc).2.2.2
      have HIY : Hid (I64 y.f ∧ I64 y.t ∧ I64 (valOf l k y.v.1)) := Lib.hid ⟨hi64.1, hi64.2.1, hi64.2.2.2⟩
      unfold toCell at x0 x1 x2 x3 x4
      simp only at x0 x1 x2 x3 x4
      obtain ⟨yf, hyf⟩ : ∃ a, y.f = a := ⟨_, rfl⟩
      obtain ⟨yt, hyt⟩ : ∃ a, y.t = a := ⟨_, rfl⟩
      obtain ⟨yv, hyv⟩ : ∃ a, valOf l k y.v.1 = a := ⟨_, rfl⟩
      obtain ⟨ys, hys⟩ : ∃ a, y.v.2.getD 0 = a := ⟨_, rfl⟩
      obtain ⟨yb, hyb⟩ : ∃ a, y.v.2.isSome = a := ⟨_, rfl⟩
      rw [hyf] at x0 HIY
      rw [hyt] at x1 HIY
      rw [hys] at x2
      rw [hyb] at x3
      rw [hyv] at x4 HIY
      have HYF := Lib.hid hyf; have HYT := Lib.hid hyt; have HYV := Lib.hid hyv
      have hcl : out.length + 1 ≤ 1000000 := by omega
      clear hy hyc hSS hi64 hyf hyt hyv hys hyb
      rcases List.eq_nil_or_concat out with rfl | ⟨o, z, rfl⟩
      · have HF2 : Hid (FoldK U (fun q => valOf l k q.1) (j + 1) ([] ++ [⟨yf, yt, yv⟩])) := Lib.hid (by
          have h := HF.out.next HU.out.1 HY.out (fun y hy => by simp at hy) (by rw [HYF.out]; exact HIY.out.1) (by rw [HYT.out]; exact HIY.out.2.1) (by simp only [HYV.out]; exact HIY.out.2.2)
          simpa only [HYF.out, HYT.out, HYV.out] using h)
        obtain ⟨Ao, co, rfl⟩ := hO.form
        go_wp2_with fail
        go_quiet (fail)
        go_wp2_with (at_builtin; refine wpList_append_lie (enc := pieceC) rfl (.tmp 70) (.tmp 78) 57 rfl w3.heap.size 70 i0 _ 3 24 Tryd.underlying57 hi hz0 hz1 hz2 rfl (by decide) _ [] ⟨yf, yt, yv⟩ rfl ((hO.alloc _).drewN _) #[.int .i64 yf, .int .i64 yt, .int .i64 yv] rfl (wr.heap.size + 1) (by simp) rfl rfl three_ints hcl (by decide) (by simp; omega) ?_; intro gn cap w6 hown6 hb8 hkp hgn)
        go_roundw
        case rel => exact ⟨j + 1, [] ++ [⟨yf, yt, yv⟩], by omega, by go_num, HF2, by first | exact hown6 | (have h := hown6; rw [List.length_append] at h; exact h), (below_drewN (hb.alloc hzr _) _).trans hb8⟩
        case measure => simp [intOf]; omega
      · rw [List.concat_eq_append] at HF hO hol hcl
        obtain ⟨Ao, co, rfl⟩ := hO.form
        rw [List.length_append] at hO hol hcl ⊢
        simp only [List.length_cons, List.length_nil, Nat.zero_add] at hO hol hcl ⊢
        obtain ⟨go, rfl⟩ : ∃ g, Ao = some ⟨g, 0, none⟩ := by
          rcases hO.2 with ⟨h1, _⟩ | ⟨g, cap, cur, hv, _⟩
          · simp at h1
          · simp only [Value.slice.injEq] at hv
            exact ⟨g, hv.1⟩
        obtain ⟨hnm, hgo, hmc, hcm, cs, hBk, hcs, hrow⟩ := hO.cells pieceC_len
        have hza : (o ++ [z])[o.length]? = some z := by simp
        have z0 : cs[o.length * 3]? = some (.int .i64 z.f) := by have := hrow _ z hza 0 (by decide); simpa [pieceC] using this
        have z1 : cs[o.length * 3 + 1]? = some (.int .i64 z.t) := by have := hrow _ z hza 1 (by decide); simpa [pieceC] using this
        have z2 : cs[o.length * 3 + 2]? = some (.int .i64 z.v) := by have := hrow _ z hza 2 (by decide); simpa [pieceC] using this
        have hjw : IntKind.i64.wrap (o.length : Int) = o.length := IntWalk.i64_in _ (by omega)
        have hjl : o.length < o.length + 1 := by omega
        have hBa := hBk.alloc (Obj.cells #[.int .i64 yf, .int .i64 yt, .int .i64 ys, .bool yb, .int .i64 yv] 67)
        obtain ⟨c1', c2', c3'⟩ := hBa.facts
        have HR := Lib.hid hrow
        have HMC := Lib.hid hmc
        clear hrow hmc hnm hza
        by_cases hz : z.t = yf ∧ z.v = yv
        case pos =>
          have hd2 : (z.t == yf) = true := by simpa using hz.1
          have hd3 : (z.v == yv) = true := by simpa using hz.2
          have HF2 : Hid (FoldK U (fun q => valOf l k q.1) (j + 1) (o ++ [⟨z.f, yt, z.v⟩])) := Lib.hid (by
            have h := HF.out.grow HU.out.1 HY.out (by rw [HYF.out]; exact hz.1) (by simp only [HYV.out]; exact hz.2) (by rw [HYT.out]; exact HIY.out.2.1)
            simpa only [HYT.out] using h)
          clear hz
          go_wp2_with fail
          go_quiet (fail)
          go_wp2_with fail
          go_roundw
          case rel =>
            have hbS : Below w3.heap.size w3 (((wr.alloc (Obj.cells #[.int .i64 yf, .int .i64 yt, .int .i64 ys, .bool yb, .int .i64 yv] 67)).drewN nq).setCell ⟨go, o.length * 3 + 1, none⟩ (.int .i64 yt)) := (below_drewN (hb.alloc hzr _) _).setCell hgo _
            refine ⟨j + 1, o ++ [⟨z.f, yt, z.v⟩], by omega, by go_num, HF2, ?_, hbS⟩
            have h2 := Own.of_cells (enc := pieceC) (m := o ++ [⟨z.f, yt, z.v⟩]) pieceC_len (by decide) ((hBa.drewN nq).set_ (o.length * 3 + 1) (.int .i64 yt)) hgo (by have := HMC.out; simpa using this) hcm (by simpa using hcs) (by
              have e : (o ++ [z]).set o.length ⟨z.f, yt, z.v⟩ = o ++ [⟨z.f, yt, z.v⟩] := by simp
              rw [← e]
              refine HR.out.set (by simp) (fun t ht => by rw [Array.getElem?_setIfInBounds_ne (by omega)]) (fun t ht => ?_)
              have k1 : o.length * 3 + 1 < cs.size := (Array.getElem?_eq_some_iff.1 z1).1
              match t, ht with
              | 0, _ =>
                show (cs.setIfInBounds (o.length * 3 + 1) (.int .i64 yt))[o.length * 3]? = _
                rw [Array.getElem?_setIfInBounds_ne (by omega), z0]; rfl
              | 1, _ => rw [Array.getElem?_setIfInBounds_self_of_lt k1]; rfl
              | 2, _ =>
                rw [Array.getElem?_setIfInBounds_ne (by omega), z2]; rfl)
            simpa using h2
          case measure => simp [intOf]; omega
        case neg =>
          have HF2 : Hid (FoldK U (fun q => valOf l k q.1) (j + 1) (o ++ [z] ++ [⟨yf, yt, yv⟩])) := Lib.hid (by
            have h := HF.out.next HU.out.1 HY.out (HF.out.last HU.out.1 HY.out (by simp only [HYF.out, HYV.out]; exact hz)) (by rw [HYF.out]; exact HIY.out.1) (by rw [HYT.out]; exact HIY.out.2.1) (by simp only [HYV.out]; exact HIY.out.2.2)
            simpa only [HYF.out, HYT.out, HYV.out] using h)
          by_cases ht : z.t = yf
          case pos =>
            have hd2 : (z.t == yf) = true := by simpa using ht
            have hd3 : (z.v == yv) = false := by
              cases hc : (z.v == yv)
              · rfl
              · exact absurd ⟨ht, by simpa using hc⟩ hz
            clear hz ht
            go_wp2_with fail
            go_quiet (fail)
            go_wp2_with (at_builtin; refine wpList_append_lie (enc := pieceC) rfl (.tmp 70) (.tmp 78) 57 rfl w3.heap.size 70 i0 _ 3 24 Tryd.underlying57 hi hz0 hz1 hz2 rfl (by decide) _ (o ++ [z]) ⟨yf, yt, yv⟩ rfl ((hO.alloc _).drewN _) #[.int .i64 yf, .int .i64 yt, .int .i64 yv] rfl (wr.heap.size + 1) (by simp) rfl rfl three_ints (by simp; omega) (by decide) (by simp; omega) ?_; intro gn cap w6 hown6 hb8 hkp hgn)
            go_roundw
            case rel => exact ⟨j + 1, (o ++ [z]) ++ [⟨yf, yt, yv⟩], by omega, by go_num, HF2, by first | exact hown6 | (have h := hown6; rw [List.length_append] at h; exact h), (below_drewN (hb.alloc hzr _) _).trans hb8⟩
            case measure => simp [intOf]; omega
          case neg =>
            have hd2 : (z.t == yf) = false := by simpa using ht
            clear hz ht
            go_wp2_with fail
            go_quiet (fail)
            go_wp2_with (at_builtin; refine wpList_append_lie (enc := pieceC) rfl (.tmp 70) (.tmp 78) 57 rfl w3.heap.size 70 i0 _ 3 24 Tryd.underlying57 hi hz0 hz1 hz2 rfl (by decide) _ (o ++ [z]) ⟨yf, yt, yv⟩ rfl ((hO.alloc _).drewN _) #[.int .i64 yf, .int .i64 yt, .int .i64 yv] rfl (wr.heap.size + 1) (by simp) rfl rfl three_ints (by simp; omega) (by decide) (by simp; omega) ?_; intro gn cap w6 hown6 hb8 hkp hgn)
            go_roundw
            case rel => exact ⟨j + 1, (o ++ [z]) ++ [⟨yf, yt, yv⟩], by omega, by go_num, HF2, by first | exact hown6 | (have h := hown6; rw [List.length_append] at h; exact h), (below_drewN (hb.alloc hzr _) _).trans hb8⟩
            case measure => simp [intOf]; omega
end Go.Proofs.YtdpibehpmghghaaDoor
/- The law WarpSays. -/
namespace Go.Proofs.YtdpibehpmghghaaDoor
open Go.RowKit Go.Shelf

theorem CellsSay.same {state l : List PieceD} {k er er' : Int} {out out' : List CellD} (h : CellsSay state l k er out) (g : CellsSay state l k er' out') : er = er' ∧ out = out' := by
  unfold CellsSay at h g
  split at h
  · rename_i h0
    rw [if_pos h0] at g
    split at h
    · rename_i h1
      rw [if_pos h1] at g
      split at h
      · rename_i h2
        rw [if_pos h2] at g
        obtain ⟨U, a1, a2, a3, a4, a5⟩ := h
        obtain ⟨V, b1, b2, b3, b4, b5⟩ := g
        obtain rfl : U = V := mapG_unique a1 b1 fun t => by rw [a2, b2]
        have he : er = er' := by rw [a3, b3]
        subst he
        refine ⟨rfl, ?_⟩
        by_cases h9 : er = 0
        · rw [a4 h9, b4 h9]
        · rw [a5 h9, b5 h9]
      · rename_i h2
        rw [if_neg h2] at g
        exact ⟨by rw [h.1, g.1], by rw [h.2, g.2]⟩
    · rename_i h1
      rw [if_neg h1] at g
      exact ⟨by rw [h.1, g.1], by rw [h.2, g.2]⟩
  · rename_i h0
    rw [if_neg h0] at g
    exact ⟨by rw [h.1, g.1], by rw [h.2, g.2]⟩
theorem FoldSay.same {l : List PieceD} {k er er' : Int} {out out' : List PieceD} (h : FoldSay l k er out) (g : FoldSay l k er' out') : er = er' ∧ out = out' := by
  unfold FoldSay at h g
  split at h
  · rename_i h1
    rw [if_pos h1] at g
    split at h
    · rename_i h2
      rw [if_pos h2] at g
      exact h.same g fun _ => rfl
    · rename_i h2
      rw [if_neg h2] at g
      exact ⟨by rw [h.1, g.1], by rw [h.2, g.2]⟩
  · rename_i h1
    rw [if_neg h1] at g
    exact ⟨by rw [h.1, g.1], by rw [h.2, g.2]⟩
theorem cells_same (A B : Option Addr) (c d : Nat) (l : List CellD) (w : World) (hA : CellsAt w A c l) (hB : CellsAt w B d l) :
    Calls Tryd.prog 29 #[.slice A l.length c, .slice B l.length d] w fun e w' => e = .returned (.bool true) ∧ Below w.heap.size w w' :=
  (equalCells_any A B c d l l w hA.sl hB.sl (Nat.le_trans hA.lc hA.cm) (Nat.le_trans hB.lc hB.cm)).mono fun _ _ ⟨h1, h2⟩ => ⟨by rw [h1]; simp, h2⟩
theorem pieces_sameW (A B : Option Addr) (c d : Nat) (l : List PieceD) (w : World) (hA : PiecesAt w A c l) (hB : PiecesAt w B d l) :
    Calls Tryd.prog 30 #[.slice A l.length c, .slice B l.length d] w fun e w' => e = .returned (.bool true) ∧ Below w.heap.size w w' :=
  (equalPieces_any A B c d l l w hA.sl hB.sl (Nat.le_trans hA.lc hA.cm) (Nat.le_trans hB.lc hB.cm)).mono fun _ _ ⟨h1, h2⟩ => ⟨by rw [h1]; simp, h2⟩
set_option maxRecDepth 100000 in
set_option maxHeartbeats 8000000 in
theorem warpSays_calls (A0 : Option Addr) (c0 : Nat) (state : List PieceD) {w0 : World} (hI0 : PiecesAt w0 A0 c0 state) (A1 : Option Addr) (c1 : Nat) (l : List PieceD) (hI1 : PiecesAt w0 A1 c1 l) (k : Int) (ht : Tab w0) :
    Calls Tryd.prog 7 #[.slice A0 state.length c0, .slice A1 l.length c1, .int .i64 k] w0 fun e w' => e = .returned (.bool true) ∧ Below w0.heap.size w0 w' := by
  have H0 := Lib.hid hI0; have H1 := Lib.hid hI1; have HT := Lib.hid ht
  have m0 := hI0.len
  have m1 := hI1.len
  clear hI0 hI1 ht
  go_enter Tryd.func7, Tryd.ntmps7
  go_wp2_with fail
  refine (warpCellsP_any A0 A1 c0 c1 state l k _ H0.out H1.out).mono ?_
  rintro e w1 ⟨er, out, A, c, HC, rfl, hC, hb1⟩
  go_wp2_with fail
  refine (refCells_any A0 A1 c0 c1 state l k _ (H0.out.ext hb1) (H1.out.ext hb1) (HT.out.ext hb1)).mono ?_
  rintro e w2 ⟨er', out', A', c', HC', rfl, hC', hb2⟩
  obtain ⟨rfl, rfl⟩ := HC.out.same HC'.out
  have hC := hC.ext hb2
  have hb2 := ext_trans hb1 hb2
  clear hb1 HC HC'
  go_wp2_with fail
  refine (warpFold_any A1 c1 l k _ (H1.out.ext hb2)).mono ?_
  rintro e w3 ⟨ef, fl, Af, cf, HF, rfl, hF, hb3⟩
  have hC := hC.ext hb3
  have hC' := hC'.ext hb3
  have hb3 := ext_trans hb2 hb3
  clear hb2
  go_wp2_with fail
  refine (refFold_any A1 c1 l k _ (H1.out.ext hb3) (HT.out.ext hb3)).mono ?_
  rintro e w4 ⟨ef', fl', Ag, cg, HF', rfl, hG, hb4⟩
  obtain ⟨rfl, rfl⟩ := HF.out.same HF'.out
  have hC := hC.ext hb4
  have hC' := hC'.ext hb4
  have hF := hF.toPiecesAt.ext hb4
  have hb4 := ext_trans hb3 hb4
  clear hb3 HF HF'
  go_wp2_with fail
  refine (warpCheck_any A1 c1 l _ (H1.out.ext hb4)).mono ?_
  rintro e w5 ⟨rfl, hb5⟩
  have hC := hC.ext hb5
  have hC' := hC'.ext hb5
  have hF := hF.ext hb5
  have hG := hG.ext hb5
  have hb5 := ext_trans hb4 hb5
  clear hb4
  go_wp2_with fail
  refine (refMessages_any A1 c1 l _ (H1.out.ext hb5)).mono ?_
  rintro e w6 ⟨rfl, hb6⟩
  have hC := hC.ext hb6
  have hC' := hC'.ext hb6
  have hF := hF.ext hb6
  have hG := hG.ext hb6
  have hb6 := ext_trans hb5 hb6
  clear hb5
  go_wp2_with fail
  refine (cells_same A A' c c' out _ hC hC').mono ?_
  rintro e w7 ⟨rfl, hb7⟩
  have hF := hF.ext hb7
  have hG := hG.ext hb7
  have hb7 := ext_trans hb6 hb7
  clear hb6 hC hC'
  go_wp2_with fail
  refine (pieces_sameW Af Ag cf cg fl _ hF hG).mono ?_
  rintro e w8 ⟨rfl, hb8⟩
  have hb8 := ext_trans hb7 hb8
  go_wp2_with fail
  go_ret
  exact ⟨rfl, hb8⟩
end Go.Proofs.YtdpibehpmghghaaDoor
