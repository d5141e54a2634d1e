/- Several texts in one: WarpKey, IvlCheck, MapCheck, SortMem. -/
import Derived.Shelf.SlSortCmp.WholeK
import Derived.Test.YtjcimdpldlamfaaGreatDoorBd1aa46607c4
import Derived.Test.YtjcimdpldlamfaaGreatDoorBd2f7b3eaff4
import Derived.Test.YtjcimdpldlamfaaGreatDoorBd2df7774ef4
import Derived.Test.YtjcimdpldlamfaaGreatDoorBd0848e2b72a
/- What has been told of messages and states up to a bound; no program in sight. -/
namespace Go.Proofs.YtjcimdpldlamfaaGreatDoor

theorem MapG.mem_at {α : Type} : ∀ {l : List (PieceG α)}, MapG l → ∀ {x : PieceG α}, x ∈ l → ∀ {t : Int}, x.f ≤ t → t < x.t → atG l t = some x.v
 | [], _, _, hx, _, _, _ => by simp at hx
 | y :: l, h, x, hx, t, h1, h2 => by
  rcases List.mem_cons.1 hx with rfl | hx
  ·exact atG_hit ⟨h1, h2⟩
  ·have h3 := (List.pairwise_cons.1 h.1).1 x hx
   rw [atG_miss (by omega)]
   exact h.tail.mem_at hx h1 h2
def KeyK (fn : Int → Option Key) (D : List Int) (i : Nat) (out : List (PieceG Key)) : Prop := (∀ b a, D[0]? = some b → D[i]? = some a → ToldG fn b a out) ∧ out.length ≤ i ∧ (∀ x, x ∈ out → I64 x.f ∧ I64 x.t)
section
variable {fn : Int → Option Key} {D : List Int} {i : Nat} {out o : List (PieceG Key)} {a c p : Int} {v : Key} {z : PieceG Key}
theorem head_of (ha : D[i]? = some a) : ∃ b, D[0]? = some b := get_lt (by have := lt_of_get ha; omega)
theorem head_low (hD : D.Pairwise (· < ·)) {b : Int} (hb : D[0]? = some b) (ha : D[i]? = some a) : b ≤ a := rises_first hD hb (List.mem_of_getElem? ha)
theorem KeyK.start : KeyK fn D 0 [] :=
 ⟨fun b a hb ha => by
  obtain rfl : b = a := by rw [hb] at ha; simpa using ha
  exact ToldG.start, Nat.le_refl _, fun x h => by simp at h⟩
theorem KeyK.skip (h : KeyK fn D i out) (hD : D.Pairwise (· < ·)) (hT : TurnsAt D none fn) (ha : D[i]? = some a) (hc : D[i + 1]? = some c) (hn : fn a = none) : KeyK fn D (i + 1) out :=
 ⟨fun b c' hb hc' => by
  obtain rfl : c = c' := by rw [hc] at hc'; simpa using hc'
  exact (h.1 b a hb ha).skip (rises_lt hD ha hc) (hT.const i a c ha hc) hn, by have := h.2.1; omega, h.2.2⟩
theorem KeyK.grow (h : KeyK fn D i (o ++ [z])) (hD : D.Pairwise (· < ·)) (hT : TurnsAt D none fn) (ha : D[i]? = some a) (hc : D[i + 1]? = some c) (hn : fn a = some z.v) (hz : z.t = a) (hi : I64 c) : KeyK fn D (i + 1) (o ++ [⟨z.f, c, z.v⟩]) :=
 ⟨fun b c' hb hc' => by
  obtain rfl : c = c' := by rw [hc] at hc'; simpa using hc'
  exact (h.1 b a hb ha).grow (head_low hD hb ha) (rises_lt hD ha hc) (hT.const i a c ha hc) hn hz, by have := h.2.1; simp at this ⊢; omega, fun x hx => by
  rcases List.mem_append.1 hx with hx | hx
  ·exact h.2.2 x (List.mem_append_left _ hx)
  ·obtain rfl : x = _ := by simpa using hx
   exact ⟨(h.2.2 z (by simp)).1, hi⟩⟩
theorem KeyK.next (h : KeyK fn D i out) (hD : D.Pairwise (· < ·)) (hT : TurnsAt D none fn) (ha : D[i]? = some a) (hc : D[i + 1]? = some c) (hn : fn a = some v) (hz : ∀ y, y ∈ out → y.t = a → y.v ≠ v) (hia : I64 a) (hic : I64 c) : KeyK fn D (i + 1) (out ++ [⟨a, c, v⟩]) :=
 ⟨fun b c' hb hc' => by
  obtain rfl : c = c' := by rw [hc] at hc'; simpa using hc'
  exact (h.1 b a hb ha).next (head_low hD hb ha) (rises_lt hD ha hc) (hT.const i a c ha hc) hn hz, by have := h.2.1; simp; omega, fun x hx => by
  rcases List.mem_append.1 hx with hx | hx
  ·exact h.2.2 x hx
  ·obtain rfl : x = _ := by simpa using hx
   exact ⟨hia, hic⟩⟩
/-- Behind a stretch with something the last piece ends; behind one with nothing none ends. -/
theorem KeyK.prev (h : KeyK fn D (i + 1) out) (hD : D.Pairwise (· < ·)) (hT : TurnsAt D none fn) (hp : D[i]? = some p) (ha : D[i + 1]? = some a) : (fn p = none → ∀ y, y ∈ out → y.t ≠ a) ∧ ∀ v, fn p = some v → ∃ o z, out = o ++ [z] ∧ z.t = a ∧ z.v = v := by
 obtain ⟨b, hb⟩ := head_of hp
 have h1 := h.1 b a hb ha
 have hbp := head_low hD hb hp
 have hpa := rises_lt hD hp ha
 have e : atG out (a - 1) = fn p := by
  rw [h1.tells, if_pos (by omega)]
  exact hT.const i p a hp ha (a - 1) (by omega) (by omega)
 refine ⟨fun hn y hy hya => ?_, fun v hv => ?_⟩
 ·have := h1.map.2 y hy
  rw [h1.map.mem_at hy (by omega) (by omega), hn] at e
  simp at e
 ·rw [hv] at e
  obtain ⟨y, hy, k1, k2, k3⟩ := atG_some e
  have hlow := h1.low y hy
  rcases List.eq_nil_or_concat out with rfl | ⟨o, z, rfl⟩
  ·simp at hy
  ·rw [List.concat_eq_append] at *
   refine ⟨o, z, rfl, ?_⟩
   have hzl := h1.low z (by simp)
   rcases List.mem_append.1 hy with hy | hy
   ·have := h1.map.ahead hy
    omega
   ·obtain rfl : y = z := by simpa using hy
    exact ⟨by omega, k3⟩
theorem KeyK.fin (h : KeyK fn D i out) (hD : D.Pairwise (· < ·)) (hT : TurnsAt D none fn) (hi : D.length ≤ i + 1) (h0 : i < D.length ∨ (D = [] ∧ out = [])) : MapG out ∧ ∀ t, atG out t = fn t := by
 rcases h0 with h0 | ⟨rfl, rfl⟩
 ·obtain ⟨a, ha⟩ := get_lt h0
  obtain ⟨b, hb⟩ := head_of ha
  have h1 := h.1 b a hb ha
  refine ⟨h1.map, fun t => ?_⟩
  rw [h1.tells t]
  split
  ·rfl
  ·rename_i hn
   refine (Classical.byContradiction fun k => ?_ : none = fn t)
   obtain ⟨p, q, hp, hq, k1, k2⟩ := hT.inside t (fun e => k e.symm)
   have := rises_first hD hb hp
   have := rises_last hD ha (by omega) hq
   exact hn ⟨by omega, by omega⟩
 ·exact ⟨.nil, fun t => (hT.empty t).symm⟩
end
/-- What was there at the stretch ahead. -/
def LastIs (state l : List PieceD) (D : List Int) (i : Nat) (lw : List Int) (o : Option Int) : Prop := (i = 0 → lw = []) ∧ ∀ j p, i = j + 1 → D[j]? = some p → lw = whichL l p ∧ o = atM state p
section
variable {state l : List PieceD} {D : List Int} {i : Nat} {out : List (PieceG Key)} {a c : Int} {lw : List Int} {o : Option Int}
theorem LastIs.start : LastIs state l D 0 [] none := ⟨fun _ => rfl, fun j p h => by omega⟩
theorem LastIs.next (ha : D[i]? = some a) : LastIs state l D (i + 1) (whichL l a) (atM state a) := ⟨fun h => by omega, fun j p hj hp => by
 obtain rfl : i = j := by omega
 rw [ha] at hp
 obtain rfl : a = p := by simpa using hp
 exact ⟨rfl, rfl⟩⟩
theorem step_skip (h : KeyK (keyF state l) D i out) (hD : D.Pairwise (· < ·)) (hT : TurnsAt D none (keyF state l)) (ha : D[i]? = some a) (hc : D[i + 1]? = some c) (hw : whichL l a = []) : KeyK (keyF state l) D (i + 1) out :=
 h.skip hD hT ha hc (by unfold keyF; rw [if_pos hw])
theorem step_grow (h : KeyK (keyF state l) D i out) (hD : D.Pairwise (· < ·)) (hT : TurnsAt D none (keyF state l)) (ha : D[i]? = some a) (hc : D[i + 1]? = some c) (hi : I64 c) (hL : LastIs state l D i lw o) (h0 : lw ≠ []) (h1 : lw = whichL l a) (h2 : o = atM state a) :
  ∃ q z, out = q ++ [z] ∧ z.t = a ∧ z.v = (whichL l a, atM state a) ∧ KeyK (keyF state l) D (i + 1) (q ++ [⟨z.f, c, z.v⟩]) := by
 match i, h, ha, hc, hL with
 | 0, _, _, _, hL => exact absurd (hL.1 rfl) h0
 | j + 1, h, ha, hc, hL =>
  obtain ⟨p, hp⟩ := get_lt (show j < D.length by have := lt_of_get ha; omega)
  obtain ⟨k1, k2⟩ := hL.2 j p rfl hp
  have hk : keyF state l p = some (lw, o) := by unfold keyF; rw [← k1, ← k2, if_neg h0]
  obtain ⟨q, z, rfl, hz, hv⟩ := (h.prev hD hT hp ha).2 _ hk
  have hv2 : z.v = (whichL l a, atM state a) := by rw [hv, h1, h2]
  exact ⟨q, z, rfl, hz, hv2, h.grow hD hT ha hc (by unfold keyF; rw [if_neg (by rw [← h1]; exact h0), hv2]) hz hi⟩
theorem step_next (h : KeyK (keyF state l) D i out) (hD : D.Pairwise (· < ·)) (hT : TurnsAt D none (keyF state l)) (ha : D[i]? = some a) (hc : D[i + 1]? = some c) (hia : I64 a) (hic : I64 c) (hL : LastIs state l D i lw o) (hw : whichL l a ≠ []) (hne : lw = [] ∨ ¬ (lw = whichL l a ∧ o = atM state a)) :
  KeyK (keyF state l) D (i + 1) (out ++ [⟨a, c, (whichL l a, atM state a)⟩]) := by
 refine h.next hD hT ha hc (by unfold keyF; rw [if_neg hw]) (fun y hy hya hyv => ?_) hia hic
 match i, h, ha, hL with
 | 0, h, _, _ => have := h.2.1; simp at this; rw [this] at hy; simp at hy
 | j + 1, h, ha, hL =>
  obtain ⟨p, hp⟩ := get_lt (show j < D.length by have := lt_of_get ha; omega)
  obtain ⟨k1, k2⟩ := hL.2 j p rfl hp
  have hpr := h.prev hD hT hp ha
  by_cases h0 : lw = []
  ·exact hpr.1 (by unfold keyF; rw [← k1, if_pos h0]) y hy hya
  ·have hk : keyF state l p = some (lw, o) := by unfold keyF; rw [← k1, ← k2, if_neg h0]
   obtain ⟨q, z, rfl, hz, hv⟩ := hpr.2 _ hk
   obtain ⟨b, hb⟩ := head_of ha
   rcases List.mem_append.1 hy with hy | hy
   ·have := (h.1 b a hb ha).map.ahead hy
    omega
   ·obtain rfl : y = z := by simpa using hy
    rw [hv] at hyv
    rcases hne with hne | hne
    ·exact h0 hne
    ·exact hne (by simpa using hyv)
end
end Go.Proofs.YtjcimdpldlamfaaGreatDoor
/- The walks of the check of a set of times, the program's and the document's. -/
namespace Go.Proofs.YtjcimdpldlamfaaGreatDoor
open Go.RowKit

def farB (n : Int) : Bool := !nearB n
theorem far_off {n : Int} (h : farB n = false) : nearB n = true := by simpa [farB] using h
theorem far_on {n : Int} (h : farB n = true) : nearB n = false := by simpa [farB] using h
theorem farB_true {n : Int} (h : n < -1000000000 ∨ 1000000000 < n) : farB n = true := by simp [farB, nearB, inB]; omega
theorem farB_false {n : Int} (h1 : ¬ n < -1000000000) (h2 : ¬ 1000000000 < n) : farB n = false := by simp [farB, nearB, inB]; omega
theorem far_is {n : Int} {b : Bool} (h : farB n = b) (w : World) : Calls Tryz.prog 189 #[.int .i64 n] w fun e w' => e = .returned (.bool b) ∧ w = w' := by
 go_enter Tryz.func189, Tryz.ntmps189
 go_wp2
 all_goals go_ret
 all_goals exact ⟨ret_bool (by rw [← h, Bool.eq_iff_iff]; simp [farB, nearB, inB]; try omega), rfl⟩
theorem far_q {n : Int} {b : Bool} (h : farB n = b) (W : World) (k : Nat) : Calls Tryz.prog 189 #[.int .i64 n] (W.drewN k) fun e w' => e = .returned (.bool b) ∧ ∃ m, w' = W.drewN m := (far_is h _).mono fun _ _ ⟨h1, h2⟩ => ⟨h1, k, h2.symm⟩
theorem setErr_bad' {l : List IvlD} (h : l.length ≤ 200) (h2 : ¬ SetOk l) : setErr l = 5 := setErr_bad (by omega) h2
theorem bad_f {l : List IvlD} {k : Nat} {x : IvlD} (hx : l[k]? = some x) (h : farB x.f = true) : ¬ SetOk l := fun hs => by have := (hs.at_ hx).1; rw [far_on h] at this; simp at this
theorem bad_t {l : List IvlD} {k : Nat} {x : IvlD} (hx : l[k]? = some x) (h : farB x.t = true) : ¬ SetOk l := fun hs => by have := (hs.at_ hx).2.1; rw [far_on h] at this; simp at this
theorem bad_e {l : List IvlD} {k : Nat} {x : IvlD} (hx : l[k]? = some x) (h : x.t ≤ x.f) : ¬ SetOk l := fun hs => by have := (hs.at_ hx).2.2; omega
theorem bad_g {l : List IvlD} {k : Nat} {x z : IvlD} (hz : l[k]? = some z) (hx : l[k + 1]? = some x) (h : x.f ≤ z.t) : ¬ SetOk l := fun hs => by have := hs.gap hz hx; omega

set_option maxHeartbeats 2000000 in
theorem ivlCheck_any (A : Option Addr) (c : Nat) (l : List IvlD) (w : World) (hI : IvlsAt w A c l) :
  Calls Tryz.prog 204 #[.slice A l.length c] w fun e w' => e = .returned (.int .i64 (setErr l)) ∧ Below w.heap.size w w' := by
 have m1 := hI.len
 by_cases hl : l.length ≤ 200
 case neg =>
  have hd : decide ((l.length : Int) > 200) = true := by simp; omega
  go_enter Tryz.func204, Tryz.ntmps204
  go_wp2_with fail
  go_ret
  exact ⟨ret_int (setErr_large (by omega)).symm, by go_grown⟩
 have hd : decide ((l.length : Int) > 200) = false := by simp; omega
 have HI := Lib.hid hI
 clear hI
 go_enter Tryz.func204, Tryz.ntmps204
 go_wp2_with fail
 clear hd
 go_loopw [10] (fun v wr => ∃ k : Nat, k ≤ l.length ∧ v = .int .i64 k ∧ Hid (SetOk (l.take k)) ∧ Below w.heap.size w wr) (fun v _ => l.length - (intOf v).toNat)
 case atStart => exact ⟨0, Nat.zero_le _, rfl, Lib.hid (by simpa using SetOk.nil), Below.refl _ _⟩
 case round =>
  obtain ⟨k, hk, rfl, HS, hb⟩ := hrel
  by_cases hlt : k < l.length
  case neg =>
   obtain rfl : k = l.length := by omega
   go_wp2_with fail
   go_ret
   exact ⟨ret_int (setErr_ok (by omega) (by have := HS.out; rwa [List.take_length] at this)).symm, hb⟩
  case pos =>
   obtain ⟨x, hx⟩ := get_lt hlt
   obtain ⟨b, off, rfl, hb0, x0, x1⟩ := HI.out.get hx
   rw [← hb.cell (by exact hb0)] at x0 x1
   have HX := Lib.hid hx
   clear hx
   cases f1 : farB x.f
   case true =>
    go_wp2_with fail
    go_quiet (first | (go_at_call 189; exact far_q (by assumption) _ _))
    go_wp2
    go_ret
    exact ⟨ret_int (setErr_bad' hl (bad_f HX.out f1)).symm, below_drewN (ext_alloc hb _) _⟩
   cases f2 : farB x.t
   case true =>
    go_wp2_with fail
    go_quiet (first | (go_at_call 189; exact far_q (by assumption) _ _))
    go_wp2
    go_ret
    exact ⟨ret_int (setErr_bad' hl (bad_t HX.out f2)).symm, below_drewN (ext_alloc hb _) _⟩
   by_cases f3 : x.t ≤ x.f
   case pos =>
    have g3 : decide (x.t ≤ x.f) = true := by simpa using f3
    go_wp2_with fail
    go_quiet (first | (go_at_call 189; exact far_q (by assumption) _ _))
    go_wp2
    go_ret
    exact ⟨ret_int (setErr_bad' hl (bad_e HX.out f3)).symm, below_drewN (ext_alloc hb _) _⟩
   have g3 : decide (x.t ≤ x.f) = false := by simpa using f3
   have F3 := Lib.hid f3
   clear f3
   by_cases hk0 : k ≤ 0
   case pos =>
    have g4 : decide (0 < k) = false := by simp; omega
    go_wp2_with fail
    go_quiet (first | (go_at_call 189; exact far_q (by assumption) _ _))
    go_wp2
    go_roundw
    case rel =>
     obtain rfl : k = 0 := by omega
     exact ⟨1, by omega, by go_num, Lib.hid (SetOk.first HX.out (far_off f1) (far_off f2) (by have := F3.out; omega)), below_drewN (ext_alloc hb _) _⟩
    case measure => simp [intOf]; omega
   case neg =>
    obtain ⟨j, rfl⟩ : ∃ j, k = j + 1 := ⟨k - 1, by omega⟩
    obtain ⟨z, hz⟩ := get_lt (show j < l.length by omega)
    obtain ⟨b', off', e', _, z0, z1⟩ := HI.out.get hz
    obtain ⟨rfl, rfl⟩ : b = b' ∧ off = off' := by simpa using e'
    rw [← hb.cell (by exact hb0)] at z0 z1
    have HZ := Lib.hid hz
    clear hz e'
    have g4 : (0 : Int) < (j : Int) + 1 := by omega
    have hj1 : (j : Int) ≤ 200 := by omega
    have hjw : IntKind.i64.wrap (j : Int) = j := IntWalk.i64_in _ (by omega)
    have hjl : j < l.length := by omega
    have z1 : (wr.alloc (Obj.cells #[Value.int IntKind.i64 x.f, Value.int IntKind.i64 x.t] 94)).cell? ⟨b, off + j * 2 + 1, none⟩ = some (.int .i64 z.t) := cell_keep (ext_alloc (Below.refl _ _) _) z1
    by_cases f4 : x.f ≤ z.t
    case pos =>
     have g5 : decide (x.f ≤ z.t) = true := by simpa using f4
     go_wp2_with fail
     go_quiet (first | (go_at_call 189; exact far_q (by assumption) _ _))
     go_wp2
     go_ret
     exact ⟨ret_int (setErr_bad' hl (bad_g HZ.out HX.out f4)).symm, below_drewN (ext_alloc hb _) _⟩
    case neg =>
     have g5 : decide (x.f ≤ z.t) = false := by simpa using f4
     go_wp2_with fail
     go_quiet (first | (go_at_call 189; exact far_q (by assumption) _ _))
     go_wp2
     go_roundw
     case rel => exact ⟨j + 1 + 1, by omega, by go_num, Lib.hid (HS.out.next HZ.out HX.out (far_off f1) (far_off f2) (by have := F3.out; omega) (by omega)), below_drewN (ext_alloc hb _) _⟩
     case measure => simp [intOf]; omega

end Go.Proofs.YtjcimdpldlamfaaGreatDoor
/- The walks of the check of a map, and of what it tells, the program's and the document's (printed by genmapcheck.py). -/
namespace Go.Proofs.YtjcimdpldlamfaaGreatDoor
open Go.RowKit

theorem far2_is {n : Int} {b : Bool} (h : farB n = b) (w : World) : Calls Tryz.prog 169 #[.int .i64 n] w fun e w' => e = .returned (.bool b) ∧ w = w' := by
 go_enter Tryz.func169, Tryz.ntmps169
 go_wp2
 all_goals go_ret
 all_goals exact ⟨ret_bool (by rw [← h, Bool.eq_iff_iff]; simp [farB, nearB, inB]; try omega), rfl⟩
section
variable {l : List PieceD} {k : Nat} {x z : PieceD}
theorem mapErr_bad' (h : l.length ≤ 200) (h2 : ¬ MapOk l) : mapErr l = 5 := mapErr_bad (by omega) h2
theorem badM_f (hx : l[k]? = some x) (h : nearB x.f = false) : ¬ MapOk l := fun hs => by have := (hs.at_ hx).1; rw [h] at this; simp at this
theorem badM_t (hx : l[k]? = some x) (h : nearB x.t = false) : ¬ MapOk l := fun hs => by have := (hs.at_ hx).2.1; rw [h] at this; simp at this
theorem badM_v' (hx : l[k]? = some x) (h : nearB x.v = false) : ¬ MapOk l := fun hs => by have := (hs.at_ hx).2.2.1; rw [h] at this; simp at this
theorem badM_e (hx : l[k]? = some x) (h : x.t ≤ x.f) : ¬ MapOk l := fun hs => by have := (hs.at_ hx).2.2.2; omega
theorem badM_l (hz : l[k]? = some z) (hx : l[k + 1]? = some x) (h : x.f < z.t) : ¬ MapOk l := fun hs => by have := (hs.gap hz hx).1; omega
theorem badM_v (hz : l[k]? = some z) (hx : l[k + 1]? = some x) (h : x.f = z.t) (hv : x.v = z.v) : ¬ MapOk l := fun hs => (hs.gap hz hx).2 h.symm hv.symm
end

set_option maxHeartbeats 4000000 in
theorem imapCheck_any (A : Option Addr) (c : Nat) (l : List PieceD) (w : World) (hI : PiecesAt w A c l) :
  Calls Tryz.prog 166 #[.slice A l.length c] w fun e w' => e = .returned (.int .i64 (mapErr l)) ∧ Below w.heap.size w w' := by
 have m1 := hI.len
 by_cases hl : l.length ≤ 200
 case neg =>
  have hd : decide ((l.length : Int) > 200) = true := by simp; omega
  go_enter Tryz.func166, Tryz.ntmps166
  go_wp2_with fail
  go_ret
  exact ⟨ret_int (mapErr_large (by omega)).symm, by go_grown⟩
 have hd : decide ((l.length : Int) > 200) = false := by simp; omega
 have HI := Lib.hid hI
 clear hI
 go_enter Tryz.func166, Tryz.ntmps166
 go_wp2_with fail
 clear hd
 go_loopw [10] (fun v wr => ∃ k : Nat, k ≤ l.length ∧ v = .int .i64 k ∧ Hid (MapOk (l.take k)) ∧ Below w.heap.size w wr) (fun v _ => l.length - (intOf v).toNat)
 case atStart => exact ⟨0, Nat.zero_le _, rfl, Lib.hid (by simpa using MapOk.nil), Below.refl _ _⟩
 case round =>
  obtain ⟨k, hk, rfl, HS, hb⟩ := hrel
  by_cases hlt : k < l.length
  case neg =>
   obtain rfl : k = l.length := by omega
   go_wp2_with fail
   go_ret
   exact ⟨ret_int (mapErr_ok (by omega) (by have := HS.out; rwa [List.take_length] at this)).symm, hb⟩
  case pos =>
   obtain ⟨x, hx⟩ := get_lt hlt
   obtain ⟨b, off, rfl, hb0, x0, x1, x2⟩ := HI.out.get hx
   rw [← hb.cell (by exact hb0)] at x0 x1 x2
   have HX := Lib.hid hx
   clear hx
   have hba := ext_alloc hb (Obj.cells #[Value.int IntKind.i64 x.f, Value.int IntKind.i64 x.t, Value.int IntKind.i64 x.v] 113)
   cases f1 : farB x.f
   case true =>
    go_wp2_with (first | (go_at_call 169; refine (far2_is (by assumption) _).mono ?_; rintro e w' ⟨rfl, rfl⟩))
    go_ret
    exact ⟨ret_int (mapErr_bad' hl (badM_f HX.out (far_on f1))).symm, hba⟩
   cases f2 : farB x.t
   case true =>
    go_wp2_with (first | (go_at_call 169; refine (far2_is (by assumption) _).mono ?_; rintro e w' ⟨rfl, rfl⟩))
    go_ret
    exact ⟨ret_int (mapErr_bad' hl (badM_t HX.out (far_on f2))).symm, hba⟩
   cases f3 : farB x.v
   case true =>
    go_wp2_with (first | (go_at_call 169; refine (far2_is (by assumption) _).mono ?_; rintro e w' ⟨rfl, rfl⟩))
    go_ret
    exact ⟨ret_int (mapErr_bad' hl (badM_v' HX.out (far_on f3))).symm, hba⟩
   by_cases g3 : x.t ≤ x.f
   case pos =>
    have d3 : decide (x.t ≤ x.f) = true := by simpa using g3
    go_wp2_with (first | (go_at_call 169; refine (far2_is (by assumption) _).mono ?_; rintro e w' ⟨rfl, rfl⟩))
    go_ret
    exact ⟨ret_int (mapErr_bad' hl (badM_e HX.out g3)).symm, hba⟩
   have d3 : decide (x.t ≤ x.f) = false := by simpa using g3
   have F3 := Lib.hid g3
   clear g3
   by_cases hk0 : k ≤ 0
   case pos =>
    have g4 : decide (0 < k) = false := by simp; omega
    go_wp2_with (first | (go_at_call 169; refine (far2_is (by assumption) _).mono ?_; rintro e w' ⟨rfl, rfl⟩))
    go_quiet (fail)
    go_wp2
    go_roundw
    case rel =>
     obtain rfl : k = 0 := by omega
     exact ⟨1, by omega, by go_num, Lib.hid (MapOk.first HX.out (far_off f1) (far_off f2) (far_off f3) (by have := F3.out; omega)), below_drewN hba _⟩
    case measure => simp [intOf]; omega
   case neg =>
    obtain ⟨j, rfl⟩ : ∃ j, k = j + 1 := ⟨k - 1, by omega⟩
    obtain ⟨z, hz⟩ := get_lt (show j < l.length by omega)
    obtain ⟨b', off', e', _, z0, z1, z2⟩ := HI.out.get hz
    obtain ⟨rfl, rfl⟩ : b = b' ∧ off = off' := by simpa using e'
    have z1 := (hba.cell (p := ⟨b, off + j * 3 + 1, none⟩) hb0).trans z1
    have z2 := (hba.cell (p := ⟨b, off + j * 3 + 2, none⟩) hb0).trans z2
    have HZ := Lib.hid hz
    clear hz e' z0
    have g4 : (0 : Int) < (j : Int) + 1 := by omega
    have hjw : IntKind.i64.wrap (j : Int) = j := IntWalk.i64_in _ (by omega)
    have hjl : j < l.length := by omega
    by_cases a1 : x.f < z.t
    case pos =>
     have d4 : decide (x.f < z.t) = true := by simpa using a1
     go_wp2_with (first | (go_at_call 169; refine (far2_is (by assumption) _).mono ?_; rintro e w' ⟨rfl, rfl⟩))
     go_quiet (fail)
     go_wp2
     go_ret
     exact ⟨ret_int (mapErr_bad' hl (badM_l HZ.out HX.out a1)).symm, below_drewN hba _⟩
    case neg =>
     have d4 : decide (x.f < z.t) = false := by simp; omega
     by_cases a2 : x.f = z.t
     case neg =>
      have d5 : (x.f == z.t) = false := by simp; omega
      go_wp2_with (first | (go_at_call 169; refine (far2_is (by assumption) _).mono ?_; rintro e w' ⟨rfl, rfl⟩))
      go_quiet (fail)
      go_wp2
      go_roundw
      case rel => exact ⟨j + 1 + 1, by omega, by go_num, Lib.hid (HS.out.next HZ.out HX.out (far_off f1) (far_off f2) (far_off f3) (by have := F3.out; omega) (by omega) (fun e => absurd e.symm a2)), below_drewN hba _⟩
      case measure => simp [intOf]; omega
     case pos =>
      have d5 : (x.f == z.t) = true := by simp; omega
      have A2 := Lib.hid a2
      clear a2
      by_cases a3 : x.v = z.v
      case pos =>
       have d6 : (x.v == z.v) = true := by simp; omega
       have A3 := Lib.hid a3
       clear a3
       go_wp2_with (first | (go_at_call 169; refine (far2_is (by assumption) _).mono ?_; rintro e w' ⟨rfl, rfl⟩))
       go_quiet (fail)
       go_wp2
       go_ret
       exact ⟨ret_int (mapErr_bad' hl (badM_v HZ.out HX.out A2.out A3.out)).symm, below_drewN hba _⟩
      case neg =>
       have d6 : (x.v == z.v) = false := by simp; omega
       have A3 := Lib.hid a3
       clear a3
       go_wp2_with (first | (go_at_call 169; refine (far2_is (by assumption) _).mono ?_; rintro e w' ⟨rfl, rfl⟩))
       go_quiet (fail)
       go_wp2
       go_roundw
       case rel => exact ⟨j + 1 + 1, by omega, by go_num, Lib.hid (HS.out.next HZ.out HX.out (far_off f1) (far_off f2) (far_off f3) (by have := F3.out; omega) (by omega) (fun _ e => A3.out e.symm)), below_drewN hba _⟩
       case measure => simp [intOf]; omega

/-- What At tells. -/
def atV (o : Option Int) : Value := .tuple #[.int .i64 (o.getD 0), .bool o.isSome]
set_option maxHeartbeats 2000000 in
theorem imapAt_any (A : Option Addr) (c : Nat) (l : List PieceD) (t : Int) (w : World) (hI : PiecesAt w A c l) :
  Calls Tryz.prog 173 #[.slice A l.length c, .int .i64 t] w fun e w' => e = .returned (atV (atM l t)) ∧ Below w.heap.size w w' := by
 have m1 := hI.len
 have HI := Lib.hid hI
 clear hI
 go_enter Tryz.func173, Tryz.ntmps173
 go_wp2_with fail
 go_loopw [10] (fun v wr => ∃ k : Nat, k ≤ l.length ∧ v = .int .i64 k ∧ Hid (atM (l.drop k) t = atM l t) ∧ Below w.heap.size w wr) (fun v _ => l.length - (intOf v).toNat)
 case atStart => exact ⟨0, Nat.zero_le _, rfl, Lib.hid rfl, Below.refl _ _⟩
 case round =>
  obtain ⟨k, hk, rfl, HN, hb⟩ := hrel
  by_cases hlt : k < l.length
  case neg =>
   go_wp2_with fail
   refine bodyPost_ret (v := .tuple #[.int .i64 0, .bool false]) (by simp [results, Tryz.results173]) rfl ?_
   exact ⟨by rw [← HN.out, drop_end (by omega)]; rfl, hb⟩
  case pos =>
   obtain ⟨x, hx⟩ := get_lt hlt
   obtain ⟨b, off, rfl, hb0, x0, x1, x2⟩ := HI.out.get hx
   rw [← hb.cell (by exact hb0)] at x0 x1 x2
   have HD : Hid (l.drop k = x :: l.drop (k + 1)) := Lib.hid (drop_cons hx)
   have hba := ext_alloc hb (Obj.cells #[Value.int IntKind.i64 x.f, Value.int IntKind.i64 x.t, Value.int IntKind.i64 x.v] 113)
   clear hx
   by_cases h1 : x.f ≤ t
   ·have d1 : decide (x.f ≤ t) = true := by simpa using h1
    by_cases h2 : t < x.t
    ·have d2 : decide (t < x.t) = true := by simpa using h2
     go_wp2_with fail
     refine bodyPost_ret (v := .tuple #[.int .i64 x.v, .bool true]) (by simp [results, Tryz.results173]) rfl ?_
     exact ⟨by rw [← HN.out, HD.out, at_hit ⟨h1, h2⟩]; rfl, hba⟩
    ·have d2 : decide (t < x.t) = false := by simpa using h2
     go_wp2_with fail
     go_roundw
     case rel => exact ⟨k + 1, by omega, by go_num, Lib.hid (by rw [← HN.out, HD.out, at_miss (by omega)]), hba⟩
     case measure => simp [intOf]; omega
   ·have d1 : decide (x.f ≤ t) = false := by simpa using h1
    go_wp2_with fail
    go_roundw
    case rel => exact ⟨k + 1, by omega, by go_num, Lib.hid (by rw [← HN.out, HD.out, at_miss (by omega)]), hba⟩
    case measure => simp [intOf]; omega
end Go.Proofs.YtjcimdpldlamfaaGreatDoor
/- A list that a call owns, as the row of a sort. -/
namespace Go.Proofs.YtjcimdpldlamfaaGreatDoor
open Go.RowKit Go.Sort

section
variable {α : Type} {enc : α → List Value} {sz : Nat} {w w' : World} {base g cap m off : Nat} {t e : TypeId} {l : List α} {d : Array α} {cs : Array Value} {os : Array Obj}
theorem flat_at (hk : ∀ x, (enc x).length = sz) : ∀ {l : List α} {i j : Nat} {x : α}, l[i]? = some x → j < sz → (l.flatMap enc)[i * sz + j]? = (enc x)[j]?
 | [], i, j, x, h, _ => by simp at h
 | y :: l, 0, j, x, h, hj => by
  obtain rfl : y = x := by simpa using h
  rw [List.flatMap_cons, List.getElem?_append_left (by rw [hk]; omega), Nat.zero_mul, Nat.zero_add]
 | y :: l, i + 1, j, x, h, hj => by
  rw [List.flatMap_cons, List.getElem?_append_right (by rw [hk, Nat.succ_mul]; omega), hk, show (i + 1) * sz + j - sz = i * sz + j by rw [Nat.succ_mul]; omega]
  exact flat_at hk (by simpa using h) hj
theorem flat_length (hk : ∀ x, (enc x).length = sz) : ∀ l : List α, (l.flatMap enc).length = l.length * sz
 | [] => by simp
 | y :: l => by rw [List.flatMap_cons, List.length_append, flat_length hk l, hk, List.length_cons, Nat.succ_mul]; omega
section
variable [Inhabited α]
theorem flatK_list (hk : ∀ x, (enc x).length = sz) (hs : 0 < sz) (d : Array α) : (flatK enc sz d).toList = d.toList.flatMap enc := by
 refine List.ext_getElem? fun t => ?_
 by_cases ht : t < d.size * sz
 ·have hq : t / sz < d.size := Nat.div_lt_of_lt_mul (by rwa [Nat.mul_comm])
  have hr : t % sz < sz := Nat.mod_lt _ hs
  have hx : d.toList[t / sz]? = some d[t / sz]! := by
   rw [Array.getElem?_toList, Array.getElem?_eq_getElem hq, getElem!_pos d _ hq]
  have h1 := flat_at hk hx hr
  rw [Nat.div_add_mod' t sz] at h1
  rw [h1, Array.getElem?_toList, Array.getElem?_eq_getElem (by rw [size_flatK]; exact ht), ← getElem!_pos _ _ (by rw [size_flatK]; exact ht), get_flatK _ _ _ _ ht]
  rw [List.getElem?_eq_getElem (by rw [hk]; exact hr), ← getElem!_pos _ _ (by rw [hk]; exact hr)]
 ·rw [List.getElem?_eq_none (by simp; omega), List.getElem?_eq_none (by rw [flat_length hk]; simp; omega)]
omit [Inhabited α] in
theorem heap_grow_lt (w : World) (os : Array Obj) {b : Nat} (hb : b < w.heap.size) : (grow w os).heap[b]? = w.heap[b]? := heap_grow_old w os hb
theorem heap_sort_other {b : Nat} (hb : b ≠ g) (hlt : b < w.heap.size) : (Go.Proofs.sortWorldK enc sz w g off m d os).heap[b]? = w.heap[b]? := by
 unfold Go.Proofs.sortWorldK
 rw [heap_grow_lt _ _ (by unfold putRowK; simpa using hlt)]
 unfold putRowK putRow mapBlock
 simp [Array.getElem?_modify, hb.symm]
theorem size_sortWorldK : (Go.Proofs.sortWorldK enc sz w g off m d os).heap.size = w.heap.size + os.size := by
 unfold Go.Proofs.sortWorldK putRowK
 simp
theorem Blk.sorted (h : Blk w g t cs) : Blk (Go.Proofs.sortWorldK enc sz w g off m d os) g t (putCells id off (flatK enc sz d) cs) := by
 have h0 := h
 unfold Blk at h0
 unfold Blk Go.Proofs.sortWorldK
 rw [heap_grow_lt _ _ (by unfold putRowK; simpa using h.lt)]
 unfold putRowK putRow mapBlock
 simp [Array.getElem?_modify, h0, onCells]
theorem below_sort {B : Nat} (hg : B ≤ g) (hB : B ≤ w.heap.size) : Below B w (Go.Proofs.sortWorldK enc sz w g off m d os) :=
 ⟨rfl, rfl, rfl, by rw [size_sortWorldK]; omega, fun k hk => heap_sort_other (by omega) (by omega)⟩
/-- What is owned, as a sort wants it. -/
theorem Own.holdsK (hk : ∀ x, (enc x).length = sz) (hs : 0 < sz) (h : Own enc sz w base e (.slice (some ⟨g, 0, none⟩) l.length cap) l) : HoldsK enc sz w g 0 l.toArray := by
 rcases h.2 with ⟨h1, _⟩ | ⟨g', cap', cur, hv, hg, hh, hnc, hcm, hcs, htake⟩
 ·simp at h1
 ·simp only [Value.slice.injEq, Option.some.injEq, Addr.mk.injEq, and_true, true_and] at hv
  obtain ⟨rfl, rfl⟩ := hv
  intro j hj
  rw [size_flatK] at hj
  have hB : Blk w g e cur := hh
  rw [hB.cell, hB.frozen, Nat.zero_add]
  refine ⟨?_, rfl⟩
  have h1 : (flatK enc sz l.toArray).toList[j]? = (l.flatMap enc)[j]? := by rw [flatK_list hk hs]
  rw [Array.getElem?_toList, Array.getElem?_eq_getElem (by rw [size_flatK]; exact hj)] at h1
  rw [getElem!_pos _ _ (by rw [size_flatK]; exact hj)]
  refine Eq.trans ?_ h1.symm
  rw [← htake]
  simp only [List.size_toArray] at hj
  rw [List.getElem?_take_of_lt hj]
  simp
theorem Own.sortWorld {l' : List α} (hk : ∀ x, (enc x).length = sz) (hs : 0 < sz) (h : Own enc sz w base e (.slice (some ⟨g, 0, none⟩) l.length cap) l) (hl : l'.length = l.length) :
  Own enc sz (Go.Proofs.sortWorldK enc sz w g 0 m l'.toArray os) base e (.slice (some ⟨g, 0, none⟩) l.length cap) l' := by
 rcases h.2 with ⟨h1, _⟩ | ⟨g', cap', cur, hv, hg, hh, hnc, hcm, hcs, htake⟩
 ·simp at h1
 ·simp only [Value.slice.injEq, Option.some.injEq, Addr.mk.injEq, and_true, true_and] at hv
  obtain ⟨rfl, rfl⟩ := hv
  have hB : Blk w g e cur := hh
  refine ⟨by rw [hl]; exact (flat_length hk l').trans (by rw [hl]), .inr ⟨g, cap, putCells id 0 (flatK enc sz l'.toArray) cur, by rw [hl], hg, hB.sorted, by omega, hcm, by simpa [putCells] using hcs, ?_⟩⟩
  have hfl := flatK_list hk hs l'.toArray
  refine List.ext_getElem? fun t => ?_
  by_cases ht : t < l'.length * sz
  ·rw [List.getElem?_take_of_lt ht]
   have hcz : t < cur.size := by
    have h2 := congrArg List.length htake
    rw [flat_length hk, List.length_take] at h2
    have := hB.lt
    rw [hl] at ht
    have h3 : min (l.length * sz) cur.toList.length = l.length * sz := h2
    simp only [Array.length_toList] at h3
    omega
   have h1 : (flatK enc sz l'.toArray).toList[t]? = (l'.flatMap enc)[t]? := by rw [hfl]
   rw [Array.getElem?_toList, Array.getElem?_eq_getElem (by rw [size_flatK]; simpa using ht)] at h1
   rw [← h1, Array.getElem?_toList]
   unfold putCells
   rw [Array.getElem?_mapIdx, Array.getElem?_eq_getElem hcz]
   simp only [Option.map_some, Nat.zero_le, true_and, Nat.zero_add, Nat.sub_zero]
   rw [if_pos (by rw [size_flatK]; simpa using ht), getElem!_pos _ _ (by rw [size_flatK]; simpa using ht)]
   rfl
  ·rw [List.getElem?_eq_none (by simp; omega), List.getElem?_eq_none (by rw [flat_length hk]; omega)]
end
end
end Go.Proofs.YtjcimdpldlamfaaGreatDoor
