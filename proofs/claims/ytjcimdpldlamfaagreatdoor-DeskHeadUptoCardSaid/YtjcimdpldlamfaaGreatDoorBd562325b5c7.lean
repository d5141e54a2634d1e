/- One text: IvlMeet. -/
import Derived.Test.YtjcimdpldlamfaaGreatDoorBd1f92171eeb
/- The walks of meet, Meet, Minus. -/
namespace Go.Proofs.YtjcimdpldlamfaaGreatDoor
open Go.RowKit Go.Shelf

/-- Two sets' common times are told. -/
def CommonOut (a b : List IvlD) (w : World) (e : Ending) (w' : World) : Prop := ∃ A c out, Hid (NormL out ∧ ∀ t, hasB out t = (hasB a t && hasB b t)) ∧ e = .returned (.slice A out.length c) ∧ IvlsNew w.heap.size w' A c out ∧ Below w.heap.size w w'
def commonNext (x y : IvlD) (out : List IvlD) : List IvlD := if max x.f y.f < min x.t y.t then out ++ [⟨max x.f y.f, min x.t y.t⟩] else out

set_option maxRecDepth 100000 in
set_option maxHeartbeats 8000000 in
theorem meet_any (A B : Option Addr) (c d : Nat) (a b : List IvlD) (w : World) (hA : IvlsAt w A c a) (hB : IvlsAt w B d b) (ha : NormL a) (hb : NormL b) (hla : a.length ≤ 1000) (hlb : b.length ≤ 1000) :
  Calls Tryz.prog 193 #[.slice A a.length c, .slice B b.length d] w (CommonOut a b w) := by
 obtain ⟨i0, hi, hz0, hz1, hz2⟩ := info_ivl2
 have HA := Lib.hid hA; have HB := Lib.hid hB
 have HNA := Lib.hid ha; have HNB := Lib.hid hb
 clear hA hB ha hb
 go_enter Tryz.func193, Tryz.ntmps193
 go_wp2_with fail
 go_loopw [5, 6, 7] (fun u v v' wr => ∃ (i j : Nat) (out : List IvlD), v = .int .i64 i ∧ v' = .int .i64 j ∧ i ≤ a.length ∧ j ≤ b.length ∧ Hid (Common a b i j out ∧ out.length ≤ i + j ∧ ∀ x, x ∈ out → I64 x.f ∧ I64 x.t) ∧ Own ivlC 2 wr w.heap.size 94 u out ∧ Below w.heap.size w wr) (fun _ v v' _ => a.length + b.length - (intOf v).toNat - (intOf v').toNat)
 case atStart => exact ⟨0, 0, [], rfl, rfl, Nat.zero_le _, Nat.zero_le _, Lib.hid ⟨Common.start, Nat.le_refl _, fun x h => by simp at h⟩, Own.nil, Below.refl _ _⟩
 case round =>
  obtain ⟨i, j, out, rfl, rfl, hia, hjb, HC, hO, hbl⟩ := hrel
  have hwr := hbl.size
  obtain ⟨Ao, co, rfl⟩ := hO.form
  have hol := HC.out.2.1
  by_cases hlt : i < a.length ∧ j < b.length
  case neg =>
   have hfin : Hid (NormL out ∧ ∀ t, hasB out t = (hasB a t && hasB b t)) := Lib.hid (HC.out.1.fin (by omega))
   obtain ⟨Ax, cx, ex, hIo⟩ := own_ivls hO HC.out.2.2
   have ex : Ao = Ax ∧ co = cx := by simpa using ex
   obtain ⟨rfl, rfl⟩ := ex
   by_cases h1 : i < a.length
   ·have h2 : ¬ j < b.length := fun h => hlt ⟨h1, h⟩
    have d1 : decide (i < a.length) = true := by simpa using h1
    have d2 : decide (j < b.length) = false := by simpa using h2
    clear hlt
    go_wp2_with fail
    go_ret
    exact ⟨Ao, co, out, hfin, rfl, hIo, hbl⟩
   ·have d1 : decide (i < a.length) = false := by simpa using h1
    clear hlt
    go_wp2_with fail
    go_ret
    exact ⟨Ao, co, out, hfin, rfl, hIo, hbl⟩
  case pos =>
   obtain ⟨h1, h2⟩ := hlt
   obtain ⟨x, hx⟩ := get_lt h1
   obtain ⟨y, hy⟩ := get_lt h2
   obtain ⟨ba, oa, rfl, hba, x0, x1⟩ := HA.out.get hx
   obtain ⟨bb, ob, rfl, hbb0, y0, y1⟩ := HB.out.get hy
   have WX := Lib.hid x1; have WY := Lib.hid y1
   rw [← hbl.cell (by exact hba)] at x0 x1
   rw [← hbl.cell (by exact hbb0)] at y0 y1
   have xi := HA.out.i64 hx
   have yi := HB.out.i64 hy
   have HX := Lib.hid hx; have HY := Lib.hid hy
   have HI : Hid (I64 (max x.f y.f) ∧ I64 (min x.t y.t)) := Lib.hid (by
    obtain ⟨p1, p2⟩ := xi
    obtain ⟨q1, q2⟩ := yi
    unfold I64 at p1 p2 q1 q2 ⊢
    omega)
   have d1 : decide (i < a.length) = true := by simpa using h1
   have d2 : decide (j < b.length) = true := by simpa using h2
   have k0 := cell_keep (ext_alloc (Below.refl _ wr) (Obj.cells #[Value.int IntKind.i64 0, Value.int IntKind.i64 0] 94)) x0
   have k1 := cell_keep (ext_alloc (Below.refl _ wr) (Obj.cells #[Value.int IntKind.i64 0, Value.int IntKind.i64 0] 94)) x1
   have k2 := cell_keep (ext_alloc (Below.refl _ wr) (Obj.cells #[Value.int IntKind.i64 0, Value.int IntKind.i64 0] 94)) y0
   have k3 := cell_keep (ext_alloc (Below.refl _ wr) (Obj.cells #[Value.int IntKind.i64 0, Value.int IntKind.i64 0] 94)) y1
   clear hx hy xi yi
   obtain ⟨out', ho'⟩ : ∃ o, o = commonNext x y out := ⟨_, rfl⟩
   have HO' := Lib.hid ho'
   have hol' : out'.length ≤ out.length + 1 := by rw [ho']; unfold commonNext; split <;> simp
   clear ho'
   have Hi : Hid (∀ z, z ∈ out' → I64 z.f ∧ I64 z.t) := Lib.hid (by
    rw [HO'.out]
    unfold commonNext
    split
    ·intro z hz
     rcases List.mem_append.1 hz with hz | hz
     ·exact HC.out.2.2 z hz
     ·obtain rfl : z = _ := by simpa using hz
      exact HI.out
    ·exact HC.out.2.2)
   have HA1 : Hid (x.t ≤ y.t → Common a b (i + 1) j out' ∧ out'.length ≤ i + 1 + j) := Lib.hid fun h => ⟨HC.out.1.stepA HNA.out HNB.out HX.out HY.out h HO'.out, by omega⟩
   have HB1 : Hid (y.t ≤ x.t → Common a b i (j + 1) out' ∧ out'.length ≤ i + (j + 1)) := Lib.hid fun h => ⟨HC.out.1.stepB HNA.out HNB.out HX.out HY.out h HO'.out, by omega⟩
   clear hol'
   by_cases hcm : max x.f y.f < min x.t y.t
   case pos =>
    have d3 : decide (max x.f y.f < min x.t y.t) = true := by simpa using hcm
    have HE : Hid (out' = out ++ [⟨max x.f y.f, min x.t y.t⟩]) := Lib.hid (by rw [HO'.out]; unfold commonNext; rw [if_pos hcm])
    clear hcm
    go_wp2_with fail
    go_region
    clear k0 k1 k2 k3 x0 x1 y0 y1
    obtain ⟨w5, hw5⟩ : ∃ w5, w5 = (wr.alloc (Obj.cells #[Value.int IntKind.i64 (max x.f y.f), Value.int IntKind.i64 (min x.t y.t)] 94)).drew := ⟨_, rfl⟩
    have hb5 : Below w.heap.size w w5 := by rw [hw5]; exact below_drew (ext_alloc hbl _)
    have hown5 : Own ivlC 2 w5 w.heap.size 94 (.slice Ao out.length co) out := by rw [hw5]; exact (hO.alloc _).drew
    have z0 : w5.cell? ⟨wr.heap.size, 0, none⟩ = some (.int .i64 (max x.f y.f)) := by rw [hw5]; exact (Blk.new wr 94 #[.int .i64 (max x.f y.f), .int .i64 (min x.t y.t)]).cell 0
    have z1 : w5.cell? ⟨wr.heap.size, 1, none⟩ = some (.int .i64 (min x.t y.t)) := by rw [hw5]; exact (Blk.new wr 94 #[.int .i64 (max x.f y.f), .int .i64 (min x.t y.t)]).cell 1
    rw [← hw5]
    clear hw5
    have hw5 := hb5.size
    have hcl : out.length + 1 ≤ 1000000 := by omega
    go_wp2_with (at_builtin; refine wpList_append_lie (enc := ivlC) rfl (.tmp 47) (.tmp 49) 65 rfl w.heap.size 94 i0 _ 2 16 Tryz.underlying65 hi hz0 hz1 hz2 rfl (by decide) _ out ⟨max x.f y.f, min x.t y.t⟩ rfl hown5 #[.int .i64 (max x.f y.f), .int .i64 (min x.t y.t)] rfl w5.heap.size rfl rfl rfl two_one hcl (by decide) hw5 ?_; intro gn cap w6 hown6 hbb hkp hgn; have hbz : Below w.heap.size w w6 := hb5.trans hbb; clear hbb hkp hgn z0 z1; have x1 := (hbz.cell (p := ⟨ba, oa + i * 2 + 1, none⟩) hba).trans WX.out; have y1 := (hbz.cell (p := ⟨bb, ob + j * 2 + 1, none⟩) hbb0).trans WY.out)
    by_cases hcmp : x.t < y.t
    case pos =>
     have d4 : decide (x.t < y.t) = true := by simpa using hcmp
     go_wp2_with fail
     go_quiet (fail)
     go_wp2_with fail
     go_roundw
     case rel => exact ⟨i + 1, j, out', by go_num, rfl, by omega, by omega, Lib.hid ⟨(HA1.out (by omega)).1, (HA1.out (by omega)).2, Hi.out⟩, by rw [HE.out]; exact hown6.drewN _, below_drewN hbz _⟩
     case measure => simp [intOf]; omega
    case neg =>
     have d4 : decide (x.t < y.t) = false := by simpa using hcmp
     go_wp2_with fail
     go_quiet (fail)
     go_wp2_with fail
     go_roundw
     case rel => exact ⟨i, j + 1, out', rfl, by go_num, by omega, by omega, Lib.hid ⟨(HB1.out (by omega)).1, (HB1.out (by omega)).2, Hi.out⟩, by rw [HE.out]; exact hown6.drewN _, below_drewN hbz _⟩
     case measure => simp [intOf]; omega
   case neg =>
    have d3 : decide (max x.f y.f < min x.t y.t) = false := by simpa using hcm
    have HE : Hid (out' = out) := Lib.hid (by rw [HO'.out]; unfold commonNext; rw [if_neg hcm])
    clear hcm
    go_wp2_with fail
    go_region
    clear k0 k1 k2 k3 x0 x1 y0 y1
    obtain ⟨w6, hw6⟩ : ∃ w6, w6 = (wr.alloc (Obj.cells #[Value.int IntKind.i64 (max x.f y.f), Value.int IntKind.i64 (min x.t y.t)] 94)).drew := ⟨_, rfl⟩
    have hbz : Below w.heap.size w w6 := by rw [hw6]; exact below_drew (ext_alloc hbl _)
    have hown6 : Own ivlC 2 w6 w.heap.size 94 (.slice Ao out.length co) out := by rw [hw6]; exact (hO.alloc _).drew
    have z0 : w6.cell? ⟨wr.heap.size, 0, none⟩ = some (.int .i64 (max x.f y.f)) := by rw [hw6]; exact (Blk.new wr 94 #[.int .i64 (max x.f y.f), .int .i64 (min x.t y.t)]).cell 0
    have z1 : w6.cell? ⟨wr.heap.size, 1, none⟩ = some (.int .i64 (min x.t y.t)) := by rw [hw6]; exact (Blk.new wr 94 #[.int .i64 (max x.f y.f), .int .i64 (min x.t y.t)]).cell 1
    have x1 := (hbz.cell (p := ⟨ba, oa + i * 2 + 1, none⟩) hba).trans WX.out
    have y1 := (hbz.cell (p := ⟨bb, ob + j * 2 + 1, none⟩) hbb0).trans WY.out
    rw [← hw6]
    clear hw6
    by_cases hcmp : x.t < y.t
    case pos =>
     have d4 : decide (x.t < y.t) = true := by simpa using hcmp
     go_wp2_with fail
     go_quiet (fail)
     go_wp2_with fail
     go_roundw
     case rel => exact ⟨i + 1, j, out', by go_num, rfl, by omega, by omega, Lib.hid ⟨(HA1.out (by omega)).1, (HA1.out (by omega)).2, Hi.out⟩, by rw [HE.out]; exact hown6.drewN _, below_drewN hbz _⟩
     case measure => simp [intOf]; omega
    case neg =>
     have d4 : decide (x.t < y.t) = false := by simpa using hcmp
     go_wp2_with fail
     go_quiet (fail)
     go_wp2_with fail
     go_roundw
     case rel => exact ⟨i, j + 1, out', rfl, by go_num, by omega, by omega, Lib.hid ⟨(HB1.out (by omega)).1, (HB1.out (by omega)).2, Hi.out⟩, by rw [HE.out]; exact hown6.drewN _, below_drewN hbz _⟩
     case measure => simp [intOf]; omega
end Go.Proofs.YtjcimdpldlamfaaGreatDoor
