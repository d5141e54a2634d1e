/- Several texts in one: IvlMinus, BspLess. -/
import Derived.Test.YtjcimdpldlamfaaGreatDoorBd562325b5c7
import Derived.Test.YtjcimdpldlamfaaGreatDoorBd1f92171eeb
import Derived.Test.YtjcimdpldlamfaaGreatDoorBdda32f21b61
import Derived.Test.YtjcimdpldlamfaaGreatDoorBd069242f7b3
/- The walks of Meet and Minus. -/
namespace Go.Proofs.YtjcimdpldlamfaaGreatDoor
open Go.RowKit Go.Shelf

theorem ranged_i64 {out : List IvlD} (hn : NormL out) (h : ∀ t, hasB out t = true → -1000000000 ≤ t ∧ t < 1000000000) : ∀ x, x ∈ out → I64 x.f ∧ I64 x.t := fun x hx => by
 have hxl := hn.2 x hx
 have h1 := h x.f (hn.at_ hx (Int.le_refl _) hxl)
 have h2 := h (x.t - 1) (hn.at_ hx (by omega) (by omega))
 unfold I64
 omega
theorem minus_has {a b r o : List IvlD} (ha : SetOk a) (hr : ∀ t, hasB r t = true ↔ -1000000000 ≤ t ∧ t < 1000000000 ∧ ¬ hasB b t = true) (ho : ∀ t, hasB o t = (hasB a t && hasB r t)) (t : Int) : hasB o t = opNot (hasB a t) (hasB b t) := by
 rw [ho]
 unfold opNot
 cases h1 : hasB a t
 ·rfl
 ·have h2 := ha.inside h1
  rw [Bool.true_and, Bool.true_and, Bool.eq_iff_iff, hr t]
  simp only [Bool.not_eq_true']
  constructor
  ·intro h; simpa using h.2.2
  ·intro h; exact ⟨h2.1, h2.2, by simpa using h⟩
set_option maxRecDepth 100000 in
set_option maxHeartbeats 4000000 in
theorem minus_any (A B : Option Addr) (c d : Nat) (a b : List IvlD) (w : World) (hA : IvlsAt w A c a) (hB : IvlsAt w B d b) :
  Calls Tryz.prog 175 #[.slice A a.length c, .slice B b.length d] w (SetOut (SetsSay opNot a b) w) := by
 have hBo := both_any A B c d a b w hA hB
 by_cases h0 : bothErr a b = 0
 case neg =>
  have hd : (bothErr a b != 0) = true := by simpa using h0
  have HS : Hid (SetsSay opNot a b (bothErr a b) []) := Lib.hid (bothErr_bad h0)
  clear h0 hA hB
  obtain ⟨er, her⟩ : ∃ er, bothErr a b = er := ⟨_, rfl⟩
  rw [her] at hBo hd HS
  clear her
  go_enter Tryz.func175, Tryz.ntmps175
  go_wp2_with (go_at_call 191; refine hBo.mono ?_; rintro e w1 ⟨rfl, hb⟩)
  refine bodyPost_ret (v := .tuple #[.slice none 0 0, .int .i64 er]) (by simp [results, Tryz.results175]) rfl ?_
  exact ⟨er, [], none, 0, HS, rfl, .nil, hb⟩
 case pos =>
  rw [h0] at hBo
  obtain ⟨ha, hb⟩ := bothErr_zero h0
  obtain ⟨hla, hoa⟩ := setErr_zero ha
  obtain ⟨hlb, hob⟩ := setErr_zero hb
  have mB := hB.len
  have HA := Lib.hid hA; have HB := Lib.hid hB; have HEA := Lib.hid ha; have HEB := Lib.hid hb; have HOA := Lib.hid hoa; have HOB := Lib.hid hob
  clear h0 ha hb hA hB hoa hob
  obtain ⟨i0, hi, hz0, hz1, hz2⟩ := info_ivl2
  go_enter Tryz.func175, Tryz.ntmps175
  go_wp2_with (go_at_call 191; refine hBo.mono ?_; rintro e w1 ⟨rfl, hb1⟩)
  clear hBo
  have hw1 := hb1.size
  have HB1 := Lib.hid (HB.out.ext hb1)
  have HW := Lib.hid hb1
  go_loopw [7, 8, 19] (fun u v v' wr => ∃ (k : Nat) (m : Int) (out : List IvlD), k ≤ b.length ∧ v = .int .i64 m ∧ v' = .int .i64 k ∧ Hid (Gaps b k m out) ∧ out.length ≤ k ∧ Own ivlC 2 wr w1.heap.size 94 u out ∧ Below w1.heap.size w1 wr) (fun _ _ v' _ => b.length - (intOf v').toNat)
  case atStart => exact ⟨0, -1000000000, [], Nat.zero_le _, rfl, rfl, Lib.hid (Gaps.start HOB.out), Nat.le_refl _, Own.nil, Below.refl _ _⟩
  case round =>
   clear hb1
   obtain ⟨k, m, out, hk, rfl, rfl, HG, hol, hO, hbl⟩ := hrel
   have hwr := hbl.size
   obtain ⟨Ao, co, rfl⟩ := hO.form
   by_cases hlt : k < b.length
   case neg =>
    obtain rfl : k = b.length := by omega
    have hcl : out.length + 1 ≤ 1000000 := by omega
    by_cases hm : m < 1000000000
    case pos =>
     have d3 : decide (m < 1000000000) = true := by simpa using hm
     have HF := Lib.hid (HG.out.fin (Nat.le_refl _) rfl)
     rw [if_pos hm] at HF
     clear hm
     go_wp2_with (at_builtin; refine wpList_append_lie (enc := ivlC) rfl (.tmp 39) (.tmp 42) 65 rfl w1.heap.size 94 i0 _ 2 16 Tryz.underlying65 hi hz0 hz1 hz2 rfl (by decide) _ out ⟨m, 1000000000⟩ rfl hO #[.int .i64 m, .int .i64 1000000000] rfl wr.heap.size rfl rfl rfl two_one hcl (by decide) hwr ?_; intro gn cap w6 hown6 hbb hkp hgn)
     obtain ⟨Ax, cx, ex, hIo⟩ := own_ivls hown6 (ranged_i64 HF.out.1 fun t ht => by have := (HF.out.2 t).1 ht; omega)
     have hb6 : Below w.heap.size w w6 := HW.out.trans ((hbl.trans hbb).mono hw1)
     have hM := meet_any A Ax c cx a _ w6 (HA.out.ext hb6) hIo HOA.out.norm HF.out.1 (by omega) (by simp; omega)
     rw [← ex] at hM
     clear ex hIo
     refine hM.mono ?_
     rintro e w7 ⟨A7, c7, o7, HO, rfl, hI7, hb7⟩
     clear hM
     have HO2 : Hid (∀ t, hasB o7 t = opNot (hasB a t) (hasB b t)) := Lib.hid fun t => minus_has HOA.out HF.out.2 HO.out.2 t
     go_wp2_with fail
     refine (done_any (op := opNot) A7 c7 w7 (hI7.since hb6.size) HEA.out HEB.out HO.out.1 HO2.out).mono ?_
     rintro e w8 ⟨er, out', A8, c8, HS, rfl, hI8, hb8⟩
     go_wp2_with fail
     refine bodyPost_ret (v := .tuple #[.slice A8 out'.length c8, .int .i64 er]) (by simp [results, Tryz.results175]) rfl ?_
     exact ⟨er, out', A8, c8, HS, rfl, hI8, ext_trans (ext_trans hb6 hb7) hb8⟩
    case neg =>
     have d3 : decide (m < 1000000000) = false := by simpa using hm
     have HF := Lib.hid (HG.out.fin (Nat.le_refl _) rfl)
     rw [if_neg hm] at HF
     clear hm
     obtain ⟨Ax, cx, ex, hIo⟩ := own_ivls hO (ranged_i64 HF.out.1 fun t ht => by have := (HF.out.2 t).1 ht; omega)
     have hb6 : Below w.heap.size w wr := HW.out.trans (hbl.mono hw1)
     have hM := meet_any A Ax c cx a _ wr (HA.out.ext hb6) hIo HOA.out.norm HF.out.1 (by omega) (by omega)
     rw [← ex] at hM
     clear ex hIo
     go_wp2_with fail
     refine hM.mono ?_
     rintro e w7 ⟨A7, c7, o7, HO, rfl, hI7, hb7⟩
     clear hM
     have HO2 : Hid (∀ t, hasB o7 t = opNot (hasB a t) (hasB b t)) := Lib.hid fun t => minus_has HOA.out HF.out.2 HO.out.2 t
     go_wp2_with fail
     refine (done_any (op := opNot) A7 c7 w7 (hI7.since hb6.size) HEA.out HEB.out HO.out.1 HO2.out).mono ?_
     rintro e w8 ⟨er, out', A8, c8, HS, rfl, hI8, hb8⟩
     go_wp2_with fail
     refine bodyPost_ret (v := .tuple #[.slice A8 out'.length c8, .int .i64 er]) (by simp [results, Tryz.results175]) rfl ?_
     exact ⟨er, out', A8, c8, HS, rfl, hI8, ext_trans (ext_trans hb6 hb7) hb8⟩
   case pos =>
    obtain ⟨x, hx⟩ := get_lt hlt
    obtain ⟨bb, ob, rfl, hbb0, x0, x1⟩ := HB1.out.get hx
    rw [← hbl.cell (by exact hbb0)] at x0 x1
    have HX := Lib.hid hx
    clear hx
    have hcl : out.length + 1 ≤ 1000000 := by omega
    by_cases hm : m < x.f
    case pos =>
     have d3 : decide (m < x.f) = true := by simpa using hm
     have HG2 := Lib.hid (HG.out.step HOB.out HX.out rfl)
     rw [if_pos hm] at HG2
     clear hm
     obtain ⟨z0, z1, z2⟩ := (Blk.new wr 94 #[.int .i64 x.f, .int .i64 x.t]).facts
     have hO5 := hO.alloc (Obj.cells #[Value.int IntKind.i64 x.f, Value.int IntKind.i64 x.t] 94)
     have hb5 := ext_alloc hbl (Obj.cells #[Value.int IntKind.i64 x.f, Value.int IntKind.i64 x.t] 94)
     go_wp2_with (at_builtin; refine wpList_append_lie (enc := ivlC) rfl (.tmp 27) (.tmp 32) 65 rfl w1.heap.size 94 i0 _ 2 16 Tryz.underlying65 hi hz0 hz1 hz2 rfl (by decide) _ out ⟨m, x.f⟩ rfl hO5 #[.int .i64 m, .int .i64 x.f] rfl (wr.heap.size + 1) (by simp) rfl rfl two_one hcl (by decide) hb5.size ?_; intro gn cap w6 hown6 hbb hkp hgn; obtain ⟨q0, q1, q2⟩ := (hkp _ _ _ (Blk.new wr 94 #[.int .i64 x.f, .int .i64 x.t]) (hO.block_lt (Nat.le_refl _))).facts; clear z0 z1 z2)
     go_roundw
     case rel => exact ⟨k + 1, x.t, out ++ [⟨m, x.f⟩], by omega, rfl, by go_num, HG2, by simp; omega, by simpa using hown6, hb5.trans hbb⟩
     case measure => simp [intOf]; omega
    case neg =>
     have d3 : decide (m < x.f) = false := by simpa using hm
     have HG2 := Lib.hid (HG.out.step HOB.out HX.out rfl)
     rw [if_neg hm] at HG2
     clear hm
     have hO5 := hO.alloc (Obj.cells #[Value.int IntKind.i64 x.f, Value.int IntKind.i64 x.t] 94)
     have hb5 := ext_alloc hbl (Obj.cells #[Value.int IntKind.i64 x.f, Value.int IntKind.i64 x.t] 94)
     go_wp2_with fail
     go_roundw
     case rel => exact ⟨k + 1, x.t, out, by omega, rfl, by go_num, HG2, by omega, hO5, hb5⟩
     case measure => simp [intOf]; omega
end Go.Proofs.YtjcimdpldlamfaaGreatDoor
/- The walk of bsp.less. -/
namespace Go.Proofs.YtjcimdpldlamfaaGreatDoor
open Go.RowKit

theorem ivlC_len3 (x : IvlD) : (ivlC x).length = 2 := rfl
theorem LessK.len {h : Int} {now was F : List PieceD} {k : Nat} (hK : LessK h now was F k) (h0 : 0 ≤ h) : (F.length : Int) ≤ h := by
 have := span_len (l := F.map fun x => (x.f, x.t)) (lo := 0) (hi := h) (List.pairwise_map.2 hK.rise) (fun y hy => by
  obtain ⟨x, hx, rfl⟩ := List.mem_map.1 hy
  have := (hK.in_ x hx).1
  exact ⟨this.2.1, this.1, this.2.2⟩) h0
 simpa using this
theorem rest_len {p : PieceD} {was : List PieceD} {rest : List IvlD} {h : Int} (hr : RestIs p was rest) (hp : 0 ≤ p.f ∧ p.f < p.t ∧ p.t ≤ h) : (rest.length : Int) ≤ h := by
 have := span_len (l := rest.map fun x => (x.f, x.t)) (lo := 0) (hi := h) (List.pairwise_map.2 (hr.1.1.imp fun k => Int.le_of_lt k)) (fun y hy => by
  obtain ⟨x, hx, rfl⟩ := List.mem_map.1 hy
  have := rest_in hr x hx
  exact ⟨this.2.1, by omega, by omega⟩) (by omega)
 simpa using this
def BLessOut (h : Int) (now was : List PieceD) (w : World) (e : Ending) (w' : World) : Prop := ∃ A c F, Hid (FreshIs h now (val was) F) ∧ e = .returned (.slice A F.length c) ∧ PiecesNew w.heap.size w' A c F ∧ Below w.heap.size w w'
set_option maxRecDepth 100000 in
set_option maxHeartbeats 16000000 in
theorem bspLess_any (h : Int) (A B : Option Addr) (c d : Nat) (now was : List PieceD) (w : World) (hA : PiecesAt w A c now) (hB : PiecesAt w B d was) (hnow : Lies h now) (hwas : Lies h was) (h1 : 1 ≤ h) (h100 : h ≤ 100) :
  Calls Tryz.prog 165 #[.slice A now.length c, .slice B was.length d] w (BLessOut h now was w) := by
 obtain ⟨i0, hi, hz0, hz1, hz2⟩ := info_piece2
 obtain ⟨j0, hj, hy0, hy1, hy2⟩ := info_ivl2
 have HA := Lib.hid hA; have HB := Lib.hid hB; have HN := Lib.hid hnow; have HW := Lib.hid hwas
 have m1 := hA.len; have m2 := hB.len
 have hnl : now.length ≤ 100 := by have := hnow.len (by omega); omega
 have hwl : was.length ≤ 100 := by have := hwas.len (by omega); omega
 clear hA hB hnow hwas
 go_enter Tryz.func165, Tryz.ntmps165
 go_wp2_with fail
 go_loopw [5, 18] (fun u v wr => ∃ (k : Nat) (F : List PieceD), v = .int .i64 k ∧ k ≤ now.length ∧ Hid (LessK h now was F k) ∧ Own pieceC 3 wr w.heap.size 113 u F ∧ Below w.heap.size w wr) (fun _ v _ => now.length - (intOf v).toNat)
 case atStart => exact ⟨0, [], rfl, Nat.zero_le _, Lib.hid LessK.start, Own.nil, Below.refl _ _⟩
 case round =>
  obtain ⟨k, F, rfl, hk, HK, hO, hb⟩ := hrel
  have hzr := hb.size
  have hFl : F.length ≤ 100 := by have := HK.out.len (by omega); omega
  obtain ⟨AF, cF, rfl⟩ := hO.form
  by_cases hlt : k < now.length
  case neg =>
   obtain rfl : k = now.length := by omega
   have HF := Lib.hid (HK.out.fin HN.out HW.out (Nat.le_refl _))
   obtain ⟨A2, c2, e2, hP⟩ := own_pieces hO (fun x hx => by
    obtain ⟨q1, q2⟩ := HK.out.in_ x hx
    exact ⟨⟨by omega, by omega⟩, ⟨by omega, by omega⟩, ⟨by omega, by omega⟩⟩)
   obtain ⟨rfl, rfl⟩ : AF = A2 ∧ cF = c2 := by simpa using e2
   clear HK
   go_wp2_with fail
   go_ret
   exact ⟨AF, cF, F, HF, rfl, hP, hb⟩
  case pos =>
   obtain ⟨p, hp⟩ := get_lt hlt
   obtain ⟨b, off, rfl, hb0, x0, x1, x2⟩ := HA.out.get hp
   have x0 := (hb.cell (p := ⟨b, _, none⟩) hb0).trans x0
   have x1 := (hb.cell (p := ⟨b, _, none⟩) hb0).trans x1
   have x2 := (hb.cell (p := ⟨b, _, none⟩) hb0).trans x2
   have hpm := List.mem_of_getElem? hp
   have hpi := HN.out.in_ p hpm
   have hpl := HN.out.map.2 p hpm
   have HP := Lib.hid hp
   clear hp hpm
   go_wp2_with fail
   obtain ⟨g7, hg7⟩ : ∃ g7, g7 = wr.heap.size := ⟨_, rfl⟩
   have B7 : Blk ((wr.alloc (Obj.cells #[.int .i64 p.f, .int .i64 p.t, .int .i64 p.v] 113)).alloc (Obj.cells #[] 94)) g7 113 #[.int .i64 p.f, .int .i64 p.t, .int .i64 p.v] := by rw [hg7]; exact (Blk.new _ _ _).alloc _
   have hO2 := (hO.alloc (Obj.cells #[.int .i64 p.f, .int .i64 p.t, .int .i64 p.v] 113)).alloc (Obj.cells #[] 94)
   have hS0 : Own ivlC 2 ((wr.alloc (Obj.cells #[.int .i64 p.f, .int .i64 p.t, .int .i64 p.v] 113)).alloc (Obj.cells #[] 94)) w.heap.size 94 (.slice (some ⟨g7 + 1, 0, none⟩) 0 0) (sameOf p (was.take 0)) := by
    rw [hg7]
    exact Own.lit (enc := ivlC) (l := []) (by simp) (by omega) rfl rfl rfl (by decide)
   have hb2 := ext_alloc (ext_alloc hb (Obj.cells #[.int .i64 p.f, .int .i64 p.t, .int .i64 p.v] 113)) (Obj.cells #[] 94)
   have hne7 : some g7 ≠ (Value.slice AF F.length cF).ownBlock := hO.block_lt (by omega)
   have hg7w : w.heap.size ≤ g7 := by omega
   rw [← hg7]
   clear x0 x1 x2 hO hb hzr hg7
   go_loopw [8, 25] (fun u v wr => ∃ j : Nat, v = .int .i64 j ∧ j ≤ was.length ∧ Own ivlC 2 wr w.heap.size 94 u (sameOf p (was.take j)) ∧ Blk wr g7 113 #[.int .i64 p.f, .int .i64 p.t, .int .i64 p.v] ∧ Own pieceC 3 wr w.heap.size 113 (.slice AF F.length cF) F ∧ Below w.heap.size w wr) (fun _ v _ => was.length - (intOf v).toNat)
   case atStart => exact ⟨0, rfl, Nat.zero_le _, hS0, B7, hO2, hb2⟩
   case round =>
    clear B7 hO2 hS0 hb2
    obtain ⟨j, rfl, hjl, hS, B7, hO, hb⟩ := hrel
    have hzr := hb.size
    have hsl := sameOf_len p (was.take j)
    rw [List.length_take] at hsl
    obtain ⟨same, hsm⟩ : ∃ same, sameOf p (was.take j) = same := ⟨_, rfl⟩
    have HSM := Lib.hid hsm
    rw [hsm] at hS hsl
    clear hsm
    obtain ⟨AS, cS, rfl⟩ := hS.form
    have hcl : same.length + 1 ≤ 1000000 := by omega
    by_cases hltj : j < was.length
    case pos =>
     obtain ⟨q, hq⟩ := get_lt hltj
     obtain ⟨b', off', rfl, hb0', y0, y1, y2⟩ := HB.out.get hq
     have y0 := (hb.cell (p := ⟨b', _, none⟩) hb0').trans y0
     have y1 := (hb.cell (p := ⟨b', _, none⟩) hb0').trans y1
     have y2 := (hb.cell (p := ⟨b', _, none⟩) hb0').trans y2
     have HNX := Lib.hid (sameOf_snoc (p := p) hq)
     rw [HSM.out] at HNX
     obtain ⟨B7c, _, B7l⟩ := B7.facts
     have z0 : (wr.alloc (Obj.cells #[.int .i64 q.f, .int .i64 q.t, .int .i64 q.v] 113)).cell? ⟨g7, 0, none⟩ = some (.int .i64 p.f) := (B7.alloc _).cell 0
     have z1 : (wr.alloc (Obj.cells #[.int .i64 q.f, .int .i64 q.t, .int .i64 q.v] 113)).cell? ⟨g7, 1, none⟩ = some (.int .i64 p.t) := (B7.alloc _).cell 1
     have z2 : (wr.alloc (Obj.cells #[.int .i64 q.f, .int .i64 q.t, .int .i64 q.v] 113)).cell? ⟨g7, 2, none⟩ = some (.int .i64 p.v) := (B7.alloc _).cell 2
     clear hq
     by_cases hc1 : max p.f q.f < min p.t q.t
     case neg =>
      have d1 : decide (max p.f q.f < min p.t q.t) = false := by simpa using hc1
      have HE : Hid (sameOf p (was.take (j + 1)) = same) := Lib.hid (by rw [HNX.out, if_neg (fun h => hc1 h.1), List.append_nil])
      clear hc1
      go_wp2_with fail
      go_roundw
      case rel => exact ⟨j + 1, by go_num, by omega, by rw [HE.out]; exact (hS.alloc _).alloc _, (B7.alloc _).alloc _, (hO.alloc _).alloc _, ext_alloc (ext_alloc hb _) _⟩
      case measure => simp [intOf]; omega
     case pos =>
      have d1 : decide (max p.f q.f < min p.t q.t) = true := by simpa using hc1
      have B72 : Blk ((wr.alloc (Obj.cells #[.int .i64 q.f, .int .i64 q.t, .int .i64 q.v] 113)).alloc (Obj.cells #[.int .i64 (max p.f q.f), .int .i64 (min p.t q.t)] 94)) g7 113 #[.int .i64 p.f, .int .i64 p.t, .int .i64 p.v] := (B7.alloc _).alloc _
      have w2 := B72.cell 2
      by_cases hc2 : q.v ≤ p.v
      case neg =>
       have d2 : decide (p.v ≥ q.v) = false := by simp; omega
       have HE : Hid (sameOf p (was.take (j + 1)) = same) := Lib.hid (by rw [HNX.out, if_neg (fun h => hc2 h.2), List.append_nil])
       clear hc1 hc2
       go_wp2_with fail
       go_roundw
       case rel => exact ⟨j + 1, by go_num, by omega, by rw [HE.out]; exact (hS.alloc _).alloc _, B72, (hO.alloc _).alloc _, ext_alloc (ext_alloc hb _) _⟩
       case measure => simp [intOf]; omega
      case pos =>
       have d2 : decide (p.v ≥ q.v) = true := by simp; omega
       have HE : Hid (sameOf p (was.take (j + 1)) = same ++ [⟨max p.f q.f, min p.t q.t⟩]) := Lib.hid (by rw [HNX.out, if_pos ⟨hc1, hc2⟩])
       have hS2 := (hS.alloc (Obj.cells #[.int .i64 q.f, .int .i64 q.t, .int .i64 q.v] 113)).alloc (Obj.cells #[.int .i64 (max p.f q.f), .int .i64 (min p.t q.t)] 94)
       have hO2 := (hO.alloc (Obj.cells #[.int .i64 q.f, .int .i64 q.t, .int .i64 q.v] 113)).alloc (Obj.cells #[.int .i64 (max p.f q.f), .int .i64 (min p.t q.t)] 94)
       have hb2 := ext_alloc (ext_alloc hb (Obj.cells #[.int .i64 q.f, .int .i64 q.t, .int .i64 q.v] 113)) (Obj.cells #[.int .i64 (max p.f q.f), .int .i64 (min p.t q.t)] 94)
       have hz2' := hb2.size
       clear hc1 hc2
       go_wp2_with (at_builtin; refine wpList_append_lie (enc := ivlC) rfl (.tmp 52) (.tmp 54) 65 rfl w.heap.size 94 j0 _ 2 16 Tryz.underlying65 hj hy0 hy1 hy2 rfl (by decide) _ same ⟨max p.f q.f, min p.t q.t⟩ rfl hS2 #[.int .i64 (max p.f q.f), .int .i64 (min p.t q.t)] rfl (wr.heap.size + 1 + 1) (by simp) rfl rfl two_one hcl (by decide) hz2' ?_; intro gn cap w6 hown6 hbb hkp hgn; have B76 := hkp _ _ _ B72 (hS2.other B72 (by decide)); have hO6 : Own pieceC 3 w6 w.heap.size 113 (.slice AF F.length cF) F := hO2.keep (fun b cs h => hkp _ _ _ h (hS2.other h (by decide))))
       go_roundw
       case rel => exact ⟨j + 1, by go_num, by omega, by rw [HE.out]; exact hown6, B76, hO6, hb2.trans hbb⟩
       case measure => simp [intOf]; omega
    case neg =>
     have HE : Hid (same = sameOf p was) := Lib.hid (by rw [← HSM.out, List.take_of_length_le (by omega)])
     have hsi : ∀ x, x ∈ same → 0 ≤ x.f ∧ x.f < x.t ∧ x.t ≤ h := by rw [HE.out]; exact sameOf_in hpi.1
     obtain ⟨A2, c2, e2, hI⟩ := own_ivls hS (fun x hx => by have := hsi x hx; exact ⟨⟨by omega, by omega⟩, by omega, by omega⟩)
     obtain ⟨rfl, rfl⟩ : AS = A2 ∧ cS = c2 := by simpa using e2
     obtain ⟨z0, _, _⟩ := B7.facts
     have hNo := ivlNorm_any AS cS same wr hI.toIvlsAt
     clear hsi e2
     go_wp2_with fail
     refine hNo.mono ?_
     rintro e w3 ⟨er, nm, A3, c3, HNM, rfl, hI3, hb3⟩
     have B73 := B7.ext hb3
     have hO3 := hO.ext hb3
     have hb3' := ext_trans hb hb3
     obtain ⟨z0, _, _⟩ := B73.facts
     clear hNo hb3
     go_wp2_with fail
     have hIp : IvlsAt (w3.alloc (Obj.cells #[.int .i64 p.f, .int .i64 p.t] 94)) (some ⟨w3.heap.size, 0, none⟩) 1 [⟨p.f, p.t⟩] := by
      have B := Blk.new w3 94 #[.int .i64 p.f, .int .i64 p.t]
      refine ⟨Nat.le_refl _, by decide, w3.heap.size, 0, fun i x hx => ?_⟩
      match i, hx with
      | 0, hx =>
       obtain rfl : (⟨p.f, p.t⟩ : IvlD) = x := by simpa using hx
       exact ⟨rfl, B.lt, ⟨by unfold cellIs; rw [B.cell]; rfl, by unfold cellIs; rw [B.cell]; rfl⟩, ⟨by simp only; omega, by simp only; omega⟩, by simp only; omega, by simp only; omega⟩
      | i + 1, hx => simp at hx
     refine (minus_any _ _ _ _ [⟨p.f, p.t⟩] nm _ hIp (hI3.toIvlsAt.ext (ext_alloc (Below.refl _ _) _))).mono ?_
     rintro e w4 ⟨er4, rest, A4, c4, HMM, rfl, hI4, hb4⟩
     have B74 := (B73.alloc _).ext hb4
     have hO4 := (hO3.alloc _).ext hb4
     have hb4' := ext_trans (ext_alloc hb3' _) hb4
     have HRS : Hid (RestIs p was rest) := Lib.hid (by
      have hn := HNM.out
      rw [HE.out] at hn
      exact rest_of (h := h) ⟨hpi.1.1, hpl, hpi.1.2⟩ h1 h100 (HW.out.len (by omega)) hn HMM.out)
     have hrl : rest.length ≤ 100 := by have := rest_len HRS.out ⟨hpi.1.1, hpl, hpi.1.2⟩; omega
     have hR4 : Own ivlC 2 w4 w.heap.size 94 (.slice A4 rest.length c4) rest := hI4.own.since (by simp; have := hb3'.size; omega)
     clear hI4 hIp hI3 hI hS B7 hO hb4 hb3' hb hzr z0 hO3 B73
     go_wp2_with fail
     go_loopw [5, 75] (fun u v wr => ∃ i : Nat, v = .int .i64 i ∧ i ≤ rest.length ∧ Own pieceC 3 wr w.heap.size 113 u (F ++ (rest.take i).map (pieceAt p.v)) ∧ Blk wr g7 113 #[.int .i64 p.f, .int .i64 p.t, .int .i64 p.v] ∧ some g7 ≠ u.ownBlock ∧ Own ivlC 2 wr w.heap.size 94 (.slice A4 rest.length c4) rest ∧ Below w.heap.size w wr) (fun _ v _ => rest.length - (intOf v).toNat)
     case atStart => exact ⟨0, rfl, Nat.zero_le _, by simpa using hO4, B74, hne7, hR4, hb4'⟩
     case round =>
      clear hO4 B74 hR4 hb4'
      obtain ⟨i, rfl, hil, hO, B7, hne, hR, hb⟩ := hrel
      have hzr := hb.size
      obtain ⟨G, hG⟩ : ∃ G, F ++ (rest.take i).map (pieceAt p.v) = G := ⟨_, rfl⟩
      have HG := Lib.hid hG
      have hGl : G.length + 1 ≤ 1000000 := by rw [← hG, List.length_append, List.length_map, List.length_take]; omega
      rw [hG] at hO
      clear hG
      obtain ⟨AG, cG, rfl⟩ := hO.form
      by_cases hlti : i < rest.length
      case neg =>
       have HK2 : Hid (LessK h now was G (k + 1)) := Lib.hid (by
        have := HK.out.next HN.out HW.out HP.out HRS.out
        rw [← HG.out, List.take_of_length_le (by omega)]
        exact this)
       go_wp2_with fail
       go_roundw
       case rel => exact ⟨k + 1, G, by go_num, by omega, HK2, hO, hb⟩
       case measure => simp [intOf]; omega
      case pos =>
       obtain ⟨x, hx⟩ := get_lt hlti
       have hRn : ∃ g, A4 = some ⟨g, 0, none⟩ := by
        rcases hR.2 with ⟨_, h0⟩ | ⟨g, cap, cur, hv, _⟩
        ·omega
        ·simp only [Value.slice.injEq] at hv; exact ⟨g, hv.1⟩
       obtain ⟨g4, rfl⟩ := hRn
       obtain ⟨_, hg4, _, _, cs4, B4, _, hrow⟩ := hR.cells ivlC_len3
       have r0 : cs4[i * 2]? = some (.int .i64 x.f) := by have := hrow i x hx 0 (by decide); simpa [ivlC] using this
       have r1 : cs4[i * 2 + 1]? = some (.int .i64 x.t) := by have := hrow i x hx 1 (by decide); simpa [ivlC] using this
       have HXI := Lib.hid (rest_in HRS.out x (List.mem_of_getElem? hx))
       have HN2 : Hid (F ++ (rest.take (i + 1)).map (pieceAt p.v) = G ++ [⟨x.f, x.t, p.v⟩]) := Lib.hid (by
        rw [← HG.out, List.take_add_one, hx]
        simp [pieceAt])
       obtain ⟨b1, b2, b3⟩ := B4.facts
       have B72 := B7.alloc (Obj.cells #[.int .i64 x.f, .int .i64 x.t] 94)
       obtain ⟨z1, z2, z3⟩ := B72.facts
       have hO2 := hO.alloc (Obj.cells #[.int .i64 x.f, .int .i64 x.t] 94)
       have hR2 := hR.alloc (Obj.cells #[.int .i64 x.f, .int .i64 x.t] 94)
       have hb2 := ext_alloc hb (Obj.cells #[.int .i64 x.f, .int .i64 x.t] 94)
       have hz2' := hb2.size
       have hgw : g7 < wr.heap.size := B7.lt
       clear hx hrow
       go_wp2_with (at_builtin; refine wpList_append_lie (enc := pieceC) rfl (.tmp 79) (.tmp 87) 111 rfl w.heap.size 113 i0 _ 3 24 Tryz.underlying111 hi hz0 hz1 hz2 rfl (by decide) _ G ⟨x.f, x.t, p.v⟩ rfl hO2 #[.int .i64 x.f, .int .i64 x.t, .int .i64 p.v] rfl (wr.heap.size + 1) (by simp) rfl rfl three_ints hGl (by decide) hz2' ?_; intro gn cap w6 hown6 hbb hkp hgn; have B76 := hkp _ _ _ B72 hne; have hR6 : Own ivlC 2 w6 w.heap.size 94 (.slice (some ⟨g4, 0, none⟩) rest.length c4) rest := hR2.keep (fun b cs h => hkp _ _ _ h (hO2.other h (by decide))))
       go_roundw
       case rel =>
        refine ⟨i + 1, by go_num, by omega, by rw [HN2.out]; exact hown6, B76, ?_, hR6, hb2.trans hbb⟩
        intro e9
        simp only [Value.ownBlock] at e9
        obtain rfl : g7 = gn := Option.some.inj e9
        rcases hgn with h9 | h9
        ·exact hne h9.symm
        ·simp at h9; omega
       case measure => simp [intOf]; omega
end Go.Proofs.YtjcimdpldlamfaaGreatDoor
