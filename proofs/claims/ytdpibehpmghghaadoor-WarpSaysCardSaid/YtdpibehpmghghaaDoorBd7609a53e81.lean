/- Several texts in one: RefMap, RefMail, Mixed, WarpTimes. -/
import Derived.Laws.Concat
import Derived.Lib.ItoaLen
import Derived.Test.YtdpibehpmghghaaDoorBd8506619883
import Derived.Test.YtdpibehpmghghaaDoorBd0316fa8142
import Derived.Test.YtdpibehpmghghaaDoorBd9ec67c05a9
/- The walks of the document's turns, small, Both and of the closures that Told is given (printed by genrefmap.py). -/
namespace Go.Proofs.YtdpibehpmghghaaDoor
open Go.RowKit Go.Shelf

theorem keepB3 {B : Nat} {w w' : World} {p0 p1 p2 : Addr} {v0 v1 v2 : Value} (hb : Below B w w') (h0 : p0.block < B) (h1 : p1.block < B) (h2 : p2.block < B) (h : w.cell? p0 = some v0 ∧ w.cell? p1 = some v1 ∧ w.cell? p2 = some v2) : w'.cell? p0 = some v0 ∧ w'.cell? p1 = some v1 ∧ w'.cell? p2 = some v2 := ⟨cell_keepB hb h0 h.1, cell_keepB hb h1 h.2.1, cell_keepB hb h2 h.2.2⟩
def TurnsOut (l : List PieceD) (w : World) (e : Ending) (w' : World) : Prop := ∃ v, e = .returned v ∧ Own intEnc 1 w' w.heap.size 3 v (endsP l) ∧ Below w.heap.size w w'
theorem endsP_i64 {w : World} {A : Option Addr} {c : Nat} {l : List PieceD} (h : PiecesAt w A c l) : ∀ n, n ∈ endsP l → I64 n := fun n hn => by
  obtain ⟨x, hx, h1⟩ := mem_endsP.1 hn
  obtain ⟨k, hk⟩ := List.getElem?_of_mem hx
  have := h.i64 hk
  rcases h1 with rfl | rfl
  · exact this.1
  · exact this.2.1
set_option maxRecDepth 100000 in
set_option maxHeartbeats 4000000 in
theorem refTurns_any (A : Option Addr) (c : Nat) (l : List PieceD) (w : World) (hI : PiecesAt w A c l) (hl : l.length ≤ 1000) :
    Calls Tryd.prog 60 #[.slice A l.length c] w (TurnsOut l w) := by
  obtain ⟨i0, hi, hz0, hz1, hz2⟩ := info_int2
  have m1 := hI.len
  have HI := Lib.hid hI
  clear hI
  go_enter Tryd.func60, Tryd.ntmps60
  go_wp2_with fail
  go_loopw [3, 4] (fun u v wr => ∃ (k : Nat), k ≤ l.length ∧ v = .int .i64 k ∧ Own intEnc 1 wr w.heap.size 3 u (endsP (l.take k)) ∧ Below w.heap.size w wr) (fun _ v _ => l.length - (intOf v).toNat)
  case atStart => exact ⟨0, Nat.zero_le _, rfl, Own.nil, Below.refl _ _⟩
  case round =>
    obtain ⟨k, hk, rfl, hO, hb⟩ := hrel
    by_cases hlt : k < l.length
    case neg =>
      obtain rfl : k = l.length := by omega
      rw [List.take_length] at hO
      go_wp2_with fail
      go_ret
      exact ⟨_, rfl, hO, hb⟩
    case pos =>
      obtain ⟨x, hx⟩ := get_lt hlt
      obtain ⟨b, off, rfl, hb0, x0, x1, _⟩ := HI.out.get hx
      rw [← hb.cell (by exact hb0)] at x0 x1
      have HN : Hid (endsP (l.take (k + 1)) = endsP (l.take k) ++ [x.f, x.t]) := Lib.hid (by rw [takeM_succ hx, endsP_snoc])
      have hcl : (endsP (l.take k)).length + 2 ≤ 1000000 := by rw [endsP_len, List.length_take]; omega
      obtain ⟨acc, hacc⟩ : ∃ acc, acc = endsP (l.take k) := ⟨_, rfl⟩
      rw [← hacc] at HN hcl hO
      have hzw := hb.size
      clear hx hacc
      have S0 : wr.cell? ⟨b, off + k * 3, none⟩ = some (.int .i64 x.f) ∧ wr.cell? ⟨b, off + k * 3 + 1, none⟩ = some (.int .i64 x.t) := ⟨x0, x1⟩
      go_wp2_with fail
      go_region_held_law (fun w' => w'.cell? ⟨b, off + k * 3, none⟩ = some (.int .i64 x.f) ∧ w'.cell? ⟨b, off + k * 3 + 1, none⟩ = some (.int .i64 x.t))
        (first | exact S0 | (exact keepB2 (B := w.heap.size) (below_drew ((Below.refl _ wr).alloc hzw _)) hb0 hb0 S0) | (exact keepB2 (B := w.heap.size) ((below_drew ((Below.refl _ wr).alloc hzw _)).trans hb8) hb0 hb0 S0))
        (first | (refine step_append_els (enc := intEnc) rfl (.tmp 11) (.tmp 22) 52 rfl w.heap.size 3 i0 _ 1 8 Tryd.underlying52 hi hz0 hz1 hz2 rfl (by decide) _ acc [x.f, x.t] 2 rfl (by decide) rfl (hO.alloc _).drew #[.int .i64 x.f, .int .i64 x.t] rfl _ (Blk.new wr 3 _).drew rfl rfl int_one2 hcl (by decide) (by simp; omega) ?_; intro v' w6 hown6 hb8 _))
      go_wp2_with fail
      go_roundw
      case rel => exact ⟨k + 1, by omega, by go_num, by rw [HN.out]; exact hown6, hb.trans ((below_drew ((Below.refl _ wr).alloc hzw _)).trans hb8)⟩
      case measure => simp [intOf]; omega
set_option maxHeartbeats 1000000 in
theorem refSmall_any (A : Option Addr) (n c : Nat) (w : World) (hn : n ≤ maxLen) : Calls Tryd.prog 67 #[.slice A n c] w fun e w' => e = .returned (.tuple #[if 200 < n then .slice none 0 0 else .slice A n c, .int .i64 (if 200 < n then 2 else 0)]) ∧ w = w' := by
  unfold maxLen at hn
  by_cases h : 200 < n
  · have hd : decide ((n : Int) > 200) = true := by simp; omega
    rw [if_pos h, if_pos h]
    clear h
    go_enter Tryd.func67, Tryd.ntmps67
    go_wp2_with fail
    refine bodyPost_ret (v := .tuple #[.slice none 0 0, .int .i64 2]) (by simp [results, Tryd.results67]) rfl ?_
    exact ⟨rfl, rfl⟩
  · have hd : decide ((n : Int) > 200) = false := by simp; omega
    rw [if_neg h, if_neg h]
    clear h
    go_enter Tryd.func67, Tryd.ntmps67
    go_wp2_with fail
    refine bodyPost_ret (v := .tuple #[.slice A n c, .int .i64 0]) (by simp [results, Tryd.results67]) rfl ?_
    exact ⟨rfl, rfl⟩
set_option maxHeartbeats 1000000 in
theorem refBoth_any (a b k : Int) (hk : 1 ≤ k ∧ k ≤ 3) (ha : nearB a = true) (hb : nearB b = true) (w : World) : Calls Tryd.prog 90 #[.int .i64 a, .int .i64 b, .int .i64 k] w fun e w' => e = .returned (.int .i64 (both3 k a b)) ∧ w = w' := by
  have h1 := near_iff.1 ha
  have h2 := near_iff.1 hb
  have hs : IntKind.i64.wrap (a + b) = a + b := IntWalk.i64_in _ (by omega)
  have hk3 : k = 1 ∨ k = 2 ∨ k = 3 := by omega
  clear ha hb hk
  have HR1 : both3 1 a b = if a < b then a else b := by unfold both3; rw [if_neg (by decide), if_pos rfl]; omega
  have HR2 : both3 2 a b = if a < b then b else a := by unfold both3; rw [if_neg (by decide), if_neg (by decide)]; omega
  have HR3 : both3 3 a b = a + b := by unfold both3; rw [if_pos rfl]
  have K1 := Lib.hid HR1; have K2 := Lib.hid HR2; have K3 := Lib.hid HR3
  clear HR1 HR2 HR3 h1 h2
  rcases hk3 with rfl | rfl | rfl
  · by_cases hab : a < b
    · have HK : Hid (a = both3 1 a b) := Lib.hid (by rw [K1.out, if_pos hab])
      go_enter Tryd.func90, Tryd.ntmps90
      go_wp2_with fail
      go_ret
      exact ⟨ret_int HK.out, rfl⟩
    · have HK : Hid (b = both3 1 a b) := Lib.hid (by rw [K1.out, if_neg hab])
      have hd : decide (a < b) = false := by simpa using hab
      clear hab
      go_enter Tryd.func90, Tryd.ntmps90
      go_wp2_with fail
      go_ret
      exact ⟨ret_int HK.out, rfl⟩
  · by_cases hab : a < b
    · have HK : Hid (b = both3 2 a b) := Lib.hid (by rw [K2.out, if_pos hab])
      go_enter Tryd.func90, Tryd.ntmps90
      go_wp2_with fail
      go_ret
      exact ⟨ret_int HK.out, rfl⟩
    · have HK : Hid (a = both3 2 a b) := Lib.hid (by rw [K2.out, if_neg hab])
      have hd : decide (a < b) = false := by simpa using hab
      clear hab
      go_enter Tryd.func90, Tryd.ntmps90
      go_wp2_with fail
      go_ret
      exact ⟨ret_int HK.out, rfl⟩
  · go_enter Tryd.func90, Tryd.ntmps90
    go_wp2_with fail
    go_ret
    exact ⟨ret_int K3.out.symm, rfl⟩
/-- What a closure tells, as Told wants it. -/
def CloOut (o : Option Int) (W : World) (e : Ending) (w' : World) : Prop := ∃ v, e = .returned (.tuple #[.int .i64 v, .bool o.isSome]) ∧ (∀ y, o = some y → v = y) ∧ Below W.heap.size W w'
theorem CloOut.of_at {o : Option Int} {W w' : World} {e : Ending} (h : e = .returned (atV o) ∧ Below W.heap.size W w') : CloOut o W e w' := ⟨o.getD 0, h.1, fun y hy => by rw [hy]; rfl, h.2⟩
end Go.Proofs.YtdpibehpmghghaaDoor
/- The walks of the document's Messages, mailTurns and Mixed. -/
namespace Go.Proofs.YtdpibehpmghghaaDoor
open Go.RowKit Go.Shelf

theorem MsgOk.nil : MsgOk [] := fun x h => by simp at h
theorem MsgOk.snoc {l : List PieceD} {k : Nat} {x : PieceD} (h : MsgOk (l.take k)) (hx : l[k]? = some x) (h1 : nearB x.f = true) (h2 : nearB x.t = true) (h3 : nearB x.v = true) (h4 : x.f < x.t) : MsgOk (l.take (k + 1)) := fun y hy => by
  rw [takeM_succ hx] at hy
  rcases List.mem_append.1 hy with hy | hy
  · exact h y hy
  · obtain rfl : y = x := by simpa using hy
    exact ⟨⟨h1, h2, h3⟩, h4⟩
theorem msg_bad {l : List PieceD} {k : Nat} {x : PieceD} (hl : l.length ≤ 200) (hx : l[k]? = some x) (h : ¬ ((nearB x.f = true ∧ nearB x.t = true ∧ nearB x.v = true) ∧ x.f < x.t)) : msgErr l = 5 :=
  msgErr_bad (by omega) fun h2 => h (h2 x (List.mem_of_getElem? hx))
set_option maxHeartbeats 4000000 in
theorem refMessages_any (A : Option Addr) (c : Nat) (l : List PieceD) (w : World) (hI : PiecesAt w A c l) :
    Calls Tryd.prog 28 #[.slice A l.length c] w fun e w' => e = .returned (.int .i64 (msgErr l)) ∧ Below w.heap.size w w' := by
  have m1 := hI.len
  by_cases hl : l.length ≤ 200
  case neg =>
    have hd : decide ((l.length : Int) > 200) = true := by simp; omega
    go_enter Tryd.func28, Tryd.ntmps28
    go_wp2_with fail
    go_ret
    exact ⟨ret_int (msgErr_large (by omega)).symm, by go_grown⟩
  have hd : decide ((l.length : Int) > 200) = false := by simp; omega
  have HI := Lib.hid hI
  clear hI
  go_enter Tryd.func28, Tryd.ntmps28
  go_wp2_with fail
  clear hd
  go_loopw [3] (fun v wr => ∃ k : Nat, k ≤ l.length ∧ v = .int .i64 k ∧ Hid (MsgOk (l.take k)) ∧ Below w.heap.size w wr) (fun v _ => l.length - (intOf v).toNat)
  case atStart => exact ⟨0, Nat.zero_le _, rfl, Lib.hid (by simpa using MsgOk.nil), Below.refl _ _⟩
  case round =>
    obtain ⟨k, hk, rfl, HS, hb⟩ := hrel
    by_cases hlt : k < l.length
    case neg =>
      obtain rfl : k = l.length := by omega
      go_wp2_with fail
      go_ret
      exact ⟨ret_int (msgErr_ok (by omega) (by have := HS.out; rwa [List.take_length] at this)).symm, hb⟩
    case pos =>
      obtain ⟨x, hx⟩ := get_lt hlt
      obtain ⟨b, off, rfl, hb0, x0, x1, x2⟩ := HI.out.get hx
      rw [← hb.cell (by exact hb0)] at x0 x1 x2
      have HX := Lib.hid hx
      clear hx
      have hba := ext_alloc hb (Obj.cells #[Value.int IntKind.i64 x.f, Value.int IntKind.i64 x.t, Value.int IntKind.i64 x.v] 130)
      cases f1 : nearB x.f
      case false =>
        go_wp2_with (first | (go_at_call 63; refine (near_is (by assumption) _).mono ?_; rintro e w' ⟨rfl, rfl⟩))
        go_ret
        exact ⟨ret_int (msg_bad hl HX.out (by simp [f1])).symm, hba⟩
      cases f2 : nearB x.t
      case false =>
        go_wp2_with (first | (go_at_call 63; refine (near_is (by assumption) _).mono ?_; rintro e w' ⟨rfl, rfl⟩))
        go_ret
        exact ⟨ret_int (msg_bad hl HX.out (by simp [f2])).symm, hba⟩
      cases f3 : nearB x.v
      case false =>
        go_wp2_with (first | (go_at_call 63; refine (near_is (by assumption) _).mono ?_; rintro e w' ⟨rfl, rfl⟩))
        go_ret
        exact ⟨ret_int (msg_bad hl HX.out (by simp [f3])).symm, hba⟩
      by_cases g3 : x.t ≤ x.f
      case pos =>
        have d3 : decide (x.f ≥ x.t) = true := by simpa using g3
        go_wp2_with (first | (go_at_call 63; refine (near_is (by assumption) _).mono ?_; rintro e w' ⟨rfl, rfl⟩))
        go_ret
        exact ⟨ret_int (msg_bad hl HX.out (by omega)).symm, hba⟩
      have d3 : decide (x.f ≥ x.t) = false := by simp; omega
      have F3 := Lib.hid g3
      clear g3
      go_wp2_with (first | (go_at_call 63; refine (near_is (by assumption) _).mono ?_; rintro e w' ⟨rfl, rfl⟩))
      go_roundw
      case rel => exact ⟨k + 1, by omega, by go_num, Lib.hid (HS.out.snoc HX.out f1 f2 f3 (by have := F3.out; omega)), hba⟩
      case measure => simp [intOf]; omega
set_option maxRecDepth 100000 in
set_option maxHeartbeats 4000000 in
theorem refMailTurns_any (A : Option Addr) (c : Nat) (l : List PieceD) (w : World) (hI : PiecesAt w A c l) (hl : l.length ≤ 1000) :
    Calls Tryd.prog 61 #[.slice A l.length c] w (TurnsOut l w) := by
  obtain ⟨i0, hi, hz0, hz1, hz2⟩ := info_int2
  have m1 := hI.len
  have HI := Lib.hid hI
  clear hI
  go_enter Tryd.func61, Tryd.ntmps61
  go_wp2_with fail
  go_loopw [3, 4] (fun u v wr => ∃ (k : Nat), k ≤ l.length ∧ v = .int .i64 k ∧ Own intEnc 1 wr w.heap.size 3 u (endsP (l.take k)) ∧ Below w.heap.size w wr) (fun _ v _ => l.length - (intOf v).toNat)
  case atStart => exact ⟨0, Nat.zero_le _, rfl, Own.nil, Below.refl _ _⟩
  case round =>
    obtain ⟨k, hk, rfl, hO, hb⟩ := hrel
    by_cases hlt : k < l.length
    case neg =>
      obtain rfl : k = l.length := by omega
      rw [List.take_length] at hO
      go_wp2_with fail
      go_ret
      exact ⟨_, rfl, hO, hb⟩
    case pos =>
      obtain ⟨x, hx⟩ := get_lt hlt
      obtain ⟨b, off, rfl, hb0, x0, x1, _⟩ := HI.out.get hx
      rw [← hb.cell (by exact hb0)] at x0 x1
      have HN : Hid (endsP (l.take (k + 1)) = endsP (l.take k) ++ [x.f, x.t]) := Lib.hid (by rw [takeM_succ hx, endsP_snoc])
      have hcl : (endsP (l.take k)).length + 2 ≤ 1000000 := by rw [endsP_len, List.length_take]; omega
      obtain ⟨acc, hacc⟩ : ∃ acc, acc = endsP (l.take k) := ⟨_, rfl⟩
      rw [← hacc] at HN hcl hO
      have hzw := hb.size
      clear hx hacc
      have S0 : wr.cell? ⟨b, off + k * 3, none⟩ = some (.int .i64 x.f) ∧ wr.cell? ⟨b, off + k * 3 + 1, none⟩ = some (.int .i64 x.t) := ⟨x0, x1⟩
      go_wp2_with fail
      go_region_held_law (fun w' => w'.cell? ⟨b, off + k * 3, none⟩ = some (.int .i64 x.f) ∧ w'.cell? ⟨b, off + k * 3 + 1, none⟩ = some (.int .i64 x.t))
        (first | exact S0 | (exact keepB2 (B := w.heap.size) (below_drew ((Below.refl _ wr).alloc hzw _)) hb0 hb0 S0) | (exact keepB2 (B := w.heap.size) ((below_drew ((Below.refl _ wr).alloc hzw _)).trans hb8) hb0 hb0 S0))
        (first | (refine step_append_els (enc := intEnc) rfl (.tmp 11) (.tmp 22) 52 rfl w.heap.size 3 i0 _ 1 8 Tryd.underlying52 hi hz0 hz1 hz2 rfl (by decide) _ acc [x.f, x.t] 2 rfl (by decide) rfl (hO.alloc _).drew #[.int .i64 x.f, .int .i64 x.t] rfl _ (Blk.new wr 3 _).drew rfl rfl int_one2 hcl (by decide) (by simp; omega) ?_; intro v' w6 hown6 hb8 _))
      go_wp2_with fail
      go_roundw
      case rel => exact ⟨k + 1, by omega, by go_num, by rw [HN.out]; exact hown6, hb.trans ((below_drew ((Below.refl _ wr).alloc hzw _)).trans hb8)⟩
      case measure => simp [intOf]; omega
end Go.Proofs.YtdpibehpmghghaaDoor
/- The walk of the document's Mixed. -/
namespace Go.Proofs.YtdpibehpmghghaaDoor
open Go.RowKit Go.Shelf

theorem whichK_skip {l : List PieceD} {t : Int} {k : Nat} {x : PieceD} (hx : l[k]? = some x) (h : inP x t = false) : whichK l t (k + 1) = whichK l t k := by rw [whichK_succ hx, h]; simp
theorem whichK_take {l : List PieceD} {t : Int} {k : Nat} {x : PieceD} (hx : l[k]? = some x) (h : inP x t = true) : whichK l t (k + 1) = whichK l t k ++ [(k : Int)] := by rw [whichK_succ hx, h]; simp
theorem valOf_snoc {l : List PieceD} {how i : Int} {L : List Int} (h : L ≠ []) : valOf l how (L ++ [i]) = both3 how (valOf l how L) (vAt l i) := by
  cases L with
  | nil => exact absurd rfl h
  | cons j L => exact valF_snoc
theorem textK_len : ∀ {L : List Int}, (∀ i ∈ L, I64 i) → (textK L).length ≤ L.length * 22
  | [], _ => by simp [textK]
  | i :: L, h => by
    have h1 := Lib.itoa_length_le i (h i (by simp)).1 (h i (by simp)).2
    have h2 := textK_len (L := L) fun j hj => h j (by simp [hj])
    simp only [textK, List.length_append, List.length_cons]
    omega
theorem which_bound {l : List PieceD} {how t : Int} {n : Nat} (hm : MsgOk l) (hk : 1 ≤ how ∧ how ≤ 3) (hl : l.length ≤ 200) (hn : n ≤ l.length) : -1000000000000 ≤ valOf l how (whichK l t n) ∧ valOf l how (whichK l t n) ≤ 1000000000000 := by
  have hw : (whichK l t n).length ≤ n := which_len
  cases hc : whichK l t n with
  | nil => simp [valOf]
  | cons j L =>
    have hj : ∀ i ∈ whichK l t n, 0 ≤ i ∧ i < l.length := fun i hi => by have := mem_whichK hi; omega
    rw [hc] at hj hw
    obtain ⟨x, hx⟩ := get_lt (show j.toNat < l.length by have := hj j (by simp); omega)
    have hv : vAt l j = x.v := by unfold vAt; rw [hx]; rfl
    have hnx := near_iff.1 (hm x (List.mem_of_getElem? hx)).1.2.2
    have := valF_bound hm hk L (vAt l j) 1000000000 (fun i hi => hj i (by simp [hi])) (by rw [hv]; omega) (by omega)
    simp only [List.length_cons] at hw
    simp only [valOf]
    omega
set_option maxHeartbeats 1000000 in
theorem refBothBig_any (a b k : Int) (hk : 1 ≤ k ∧ k ≤ 3) (h1 : -1000000000000 ≤ a) (h1' : a ≤ 1000000000000) (hb : nearB b = true) (w : World) : Calls Tryd.prog 90 #[.int .i64 a, .int .i64 b, .int .i64 k] w fun e w' => e = .returned (.int .i64 (both3 k a b)) ∧ w = w' := by
  have h2 := near_iff.1 hb
  have hs : IntKind.i64.wrap (a + b) = a + b := IntWalk.i64_in _ (by omega)
  have hk3 : k = 1 ∨ k = 2 ∨ k = 3 := by omega
  clear hb hk
  have HR1 : both3 1 a b = if a < b then a else b := by unfold both3; rw [if_neg (by decide), if_pos rfl]; omega
  have HR2 : both3 2 a b = if a < b then b else a := by unfold both3; rw [if_neg (by decide), if_neg (by decide)]; omega
  have HR3 : both3 3 a b = a + b := by unfold both3; rw [if_pos rfl]
  have K1 := Lib.hid HR1; have K2 := Lib.hid HR2; have K3 := Lib.hid HR3
  clear HR1 HR2 HR3 h1 h1' h2
  rcases hk3 with rfl | rfl | rfl
  · by_cases hab : a < b
    · have HK : Hid (a = both3 1 a b) := Lib.hid (by rw [K1.out, if_pos hab])
      go_enter Tryd.func90, Tryd.ntmps90
      go_wp2_with fail
      go_ret
      exact ⟨ret_int HK.out, rfl⟩
    · have HK : Hid (b = both3 1 a b) := Lib.hid (by rw [K1.out, if_neg hab])
      have hd : decide (a < b) = false := by simpa using hab
      clear hab
      go_enter Tryd.func90, Tryd.ntmps90
      go_wp2_with fail
      go_ret
      exact ⟨ret_int HK.out, rfl⟩
  · by_cases hab : a < b
    · have HK : Hid (b = both3 2 a b) := Lib.hid (by rw [K2.out, if_pos hab])
      go_enter Tryd.func90, Tryd.ntmps90
      go_wp2_with fail
      go_ret
      exact ⟨ret_int HK.out, rfl⟩
    · have HK : Hid (a = both3 2 a b) := Lib.hid (by rw [K2.out, if_neg hab])
      have hd : decide (a < b) = false := by simpa using hab
      clear hab
      go_enter Tryd.func90, Tryd.ntmps90
      go_wp2_with fail
      go_ret
      exact ⟨ret_int HK.out, rfl⟩
  · go_enter Tryd.func90, Tryd.ntmps90
    go_wp2_with fail
    go_ret
    exact ⟨ret_int K3.out.symm, rfl⟩
/-- What is told of the messages at a time. -/
def mixV (l : List PieceD) (how t : Int) : Value := .tuple #[.int .i64 (valOf l how (whichL l t)), .string (bs (textK (whichL l t))), .bool (decide (whichL l t ≠ []))]
set_option maxRecDepth 100000 in
set_option maxHeartbeats 4000000 in
theorem refMixed_any (B : Option Addr) (d : Nat) (l : List PieceD) (how t : Int) (w : World) (hB : PiecesAt w B d l) (hm : MsgOk l) (hl : l.length ≤ 200) (hk : 1 ≤ how ∧ how ≤ 3) (ht : Tab w) :
    Calls Tryd.prog 62 #[.slice B l.length d, .int .i64 t, .int .i64 how] w fun e w' => e = .returned (mixV l how t) ∧ Below w.heap.size w w' := by
  have m1 := hB.len
  have HB := Lib.hid hB; have HM := Lib.hid hm; have HK := Lib.hid hk; have HT := Lib.hid ht
  clear hB hm hk ht
  go_enter Tryd.func62, Tryd.ntmps62
  go_wp2_with fail
  go_loopw [9, 10, 11] (fun u s v wr => ∃ n : Nat, n ≤ l.length ∧ v = .int .i64 n ∧ s = .string (bs (textK (whichK l t n))) ∧ u = .int .i64 (valOf l how (whichK l t n)) ∧ Below w.heap.size w wr) (fun _ _ v _ => l.length - (intOf v).toNat)
  case atStart => exact ⟨0, Nat.zero_le _, rfl, rfl, rfl, Below.refl _ _⟩
  case round =>
    obtain ⟨n, hn, rfl, rfl, rfl, hb⟩ := hrel
    by_cases hlt : n < l.length
    case neg =>
      obtain rfl : n = l.length := by omega
      obtain ⟨L, hL⟩ : ∃ L, whichK l t l.length = L := ⟨_, rfl⟩
      have HLL : Hid (whichL l t = L) := Lib.hid hL
      rw [hL]
      clear hL
      obtain ⟨v, hv⟩ : ∃ v, valOf l how L = v := ⟨_, rfl⟩
      have HV := Lib.hid hv
      rw [hv]
      clear hv
      cases L with
      | nil =>
        go_wp2_with fail
        refine bodyPost_ret (v := .tuple #[.int .i64 v, .string (bs (textK [])), .bool false]) (by simp [results, Tryd.results62, textK]) rfl ?_
        exact ⟨by unfold mixV; rw [HLL.out, HV.out]; simp, hb⟩
      | cons i L =>
        obtain ⟨tx, htx⟩ : ∃ tx, textK (i :: L) = tx := ⟨_, rfl⟩
        have hne : tx ≠ [] := by rw [← htx]; simp [textK]
        have HTX := Lib.hid htx
        rw [htx]
        clear htx
        have hq : (tx == []) = false := by simpa using hne
        clear hne
        go_wp2_with fail
        refine bodyPost_ret (v := .tuple #[.int .i64 v, .string (bs tx), .bool true]) (by simp [results, Tryd.results62]) rfl ?_
        exact ⟨by unfold mixV; rw [HLL.out, HV.out, HTX.out]; simp, hb⟩
    case pos =>
      obtain ⟨x, hx⟩ := get_lt hlt
      obtain ⟨b, off, rfl, hb0, x0, x1, x2⟩ := HB.out.get hx
      rw [← hb.cell (by exact hb0)] at x0 x1 x2
      have HX := Lib.hid hx
      have HTW := Lib.hid (HT.out.ext hb)
      have hni : I64 (n : Int) := ⟨by omega, by omega⟩
      cases hp : inP x t
      case false =>
        have HS : Hid (whichK l t (n + 1) = whichK l t n) := Lib.hid (whichK_skip hx hp)
        obtain ⟨tx, htx⟩ : ∃ tx, textK (whichK l t n) = tx := ⟨_, rfl⟩
        obtain ⟨v, hv⟩ : ∃ v, valOf l how (whichK l t n) = v := ⟨_, rfl⟩
        have HTX := Lib.hid htx
        have HV := Lib.hid hv
        rw [htx, hv]
        have hp2 : decide (x.f > t) = true ∨ (decide (x.f > t) = false ∧ decide (t ≥ x.t) = true) := by
          simp only [inP, decide_eq_false_iff_not] at hp
          by_cases h : x.f > t
          · exact .inl (by simpa using h)
          · exact .inr ⟨by simpa using h, by simp; omega⟩
        clear hx htx hv hp
        rcases hp2 with h1 | ⟨h1, h2⟩
        all_goals
          go_wp2_with fail
          go_roundw
          case rel => exact ⟨n + 1, by omega, by go_num, by rw [HS.out, HTX.out], by rw [HS.out, HV.out], hb⟩
          case measure => simp [intOf]; omega
      case true =>
        have HS : Hid (whichK l t (n + 1) = whichK l t n ++ [(n : Int)]) := Lib.hid (whichK_take hx hp)
        have hp1 : x.f ≤ t ∧ t < x.t := by simpa [inP] using hp
        have h1 : decide (x.f > t) = false := by simp; omega
        have h2 : decide (t ≥ x.t) = false := by simp; omega
        have hnv := (HM.out x (List.mem_of_getElem? hx)).1.2.2
        have HVA : Hid (vAt l (n : Int) = x.v) := Lib.hid (vAt_of hx)
        have hbd := which_bound (t := t) (n := n) HM.out HK.out hl hn
        have hw9 : (whichK l t n).length ≤ n := which_len
        have hmem : ∀ i ∈ whichK l t n, I64 i := fun i hi => by have := mem_whichK hi; exact ⟨by omega, by omega⟩
        have htl := textK_len hmem
        have hil := Lib.itoa_length_le (n : Int) hni.1 hni.2
        have hit := fun W (h : Tab W) => itoa_any (n : Int) hni W h
        clear hx hp hp1 hmem
        obtain ⟨L, hL⟩ : ∃ L, whichK l t n = L := ⟨_, rfl⟩
        have HLL := Lib.hid hL
        rw [hL] at hbd hw9 htl ⊢
        clear hL
        obtain ⟨v, hv⟩ : ∃ v, valOf l how L = v := ⟨_, rfl⟩
        have HV := Lib.hid hv
        rw [hv] at hbd ⊢
        obtain ⟨tn, htn⟩ : ∃ tn, Lib.itoa (n : Int) = tn := ⟨_, rfl⟩
        have HTN := Lib.hid htn
        rw [htn] at hil
        simp only [htn] at hit
        have HIT := Lib.hid hit
        have HNT : Hid (textK [(n : Int)] = tn ++ [44]) := Lib.hid (by unfold textK; rw [htn]; rfl)
        clear hv htn hit
        cases L with
        | nil =>
          go_wp2_with fail
          refine (HIT.out _ HTW.out).mono ?_
          rintro e w3 ⟨rfl, hb3⟩
          go_wp2_with fail
          go_roundw
          case rel => exact ⟨n + 1, by omega, by go_num, by rw [HS.out, HLL.out, List.nil_append, HNT.out]; rfl, by rw [HS.out, HLL.out, List.nil_append]; show _ = Value.int .i64 (vAt l n); rw [HVA.out], ext_trans hb hb3⟩
          case measure => simp [intOf]; omega
        | cons i L =>
          obtain ⟨tx, htx⟩ : ∃ tx, textK (i :: L) = tx := ⟨_, rfl⟩
          have hne : tx ≠ [] := by rw [← htx]; simp [textK]
          have HTX := Lib.hid htx
          rw [htx] at htl ⊢
          clear htx
          have hq : (tx == []) = false := by simpa using hne
          simp only [List.length_cons] at htl hw9
          clear hne
          have hbo := fun W => refBothBig_any v x.v how HK.out hbd.1 hbd.2 hnv W
          have HBO := Lib.hid hbo
          clear hbo
          go_wp2_with fail
          refine (HBO.out _).mono ?_
          rintro e w2 ⟨rfl, rfl⟩
          go_wp2_with fail
          refine (HIT.out _ HTW.out).mono ?_
          rintro e w3 ⟨rfl, hb3⟩
          go_wp2_with fail
          go_roundw
          case rel => exact ⟨n + 1, by omega, by go_num, by rw [HS.out, HLL.out, textK_append, HTX.out, HNT.out]; rfl, by rw [HS.out, HLL.out, valOf_snoc (by simp), HV.out, HVA.out], ext_trans hb hb3⟩
          case measure => simp [intOf]; omega
end Go.Proofs.YtdpibehpmghghaaDoor
/- The walks of warp.times and warp.same. -/
namespace Go.Proofs.YtdpibehpmghghaaDoor
open Go.RowKit Go.Shelf

set_option maxRecDepth 100000 in
set_option maxHeartbeats 8000000 in
theorem warpTimes_any (A B : Option Addr) (c d : Nat) (m r : List PieceD) (w : World) (hA : PiecesAt w A c m) (hB : PiecesAt w B d r) (hlm : m.length ≤ 1000) (hlr : r.length ≤ 1000) :
    Calls Tryd.prog 85 #[.slice A m.length c, .slice B r.length d] w (CompOut (endsP m ++ endsP r) w w.heap.size) := by
  obtain ⟨i0, hi, hz0, hz1, hz2⟩ := info_int2
  have HI0 := Lib.hid hA; have HI1 := Lib.hid hB
  have m0l := hA.len
  have m1l := hB.len
  clear hA hB
  go_enter Tryd.func85, Tryd.ntmps85
  go_wp2_with fail
  go_loopw [5, 12] (fun u v wt => ∃ (k : Nat), k ≤ m.length ∧ v = .int .i64 k ∧ Own intEnc 1 wt w.heap.size 3 u (endsP (m.take k)) ∧ Below w.heap.size w wt) (fun _ v _ => m.length - (intOf v).toNat)
  case atStart => exact ⟨0, Nat.zero_le _, rfl, Own.nil, Below.refl _ _⟩
  case round =>
    obtain ⟨k, hk, rfl, hO, hb⟩ := hrel
    have hzw := hb.size
    by_cases hlt : k < m.length
    case pos =>
      obtain ⟨x, hx⟩ := get_lt hlt
      obtain ⟨b, off, rfl, hb0, x0, x1, x2⟩ := HI0.out.get hx
      rw [← hb.cell (by exact hb0)] at x0 x1 x2
      have HN : Hid (endsP (m.take (k + 1)) = endsP (m.take k) ++ [x.f, x.t]) := Lib.hid (by rw [takeM_succ hx, endsP_snoc])
      have hcl : (endsP (m.take k)).length + 2 ≤ 1000000 := by
        have h1 := hlm; have h2 := hlr
        simp only [endsP_len, List.length_take]; omega
      obtain ⟨a2, ha2⟩ : ∃ a2, a2 = endsP (m.take k) := ⟨_, rfl⟩
      have HA2 := Lib.hid ha2
      rw [← ha2] at hcl hO
      clear hx ha2
      go_wp2_with (at_builtin; refine wpList_append_els (enc := intEnc) rfl (.tmp 16) (.tmp 21) 52 rfl w.heap.size 3 i0 _ 1 8 Tryd.underlying52 hi hz0 hz1 hz2 rfl (by decide) _ a2 [x.f, x.t] 2 rfl rfl (hO.alloc _) #[.int .i64 x.f, .int .i64 x.t] rfl (wr.heap.size + 1) (by simp) rfl rfl int_one2 hcl (by decide) (by simp; omega) ?_; intro v' w6 hown6 hb8 _)
      go_roundw
      case rel => exact ⟨k + 1, by omega, by go_num, by rw [HN.out, ← HA2.out]; exact hown6, (ext_alloc hb _).trans hb8⟩
      case measure => simp [intOf]; omega
    case neg =>
      obtain rfl : k = m.length := by omega
      rw [List.take_length] at hO
      obtain ⟨wo, hwo⟩ : ∃ wo : World, wo = wr := ⟨_, rfl⟩
      rw [← hwo] at hO hb hzw ⊢
      clear hwo
      go_wp2_with fail
      go_loopw [5, 26] (fun u v wt => ∃ (k : Nat), k ≤ r.length ∧ v = .int .i64 k ∧ Own intEnc 1 wt w.heap.size 3 u (endsP m ++ endsP (r.take k)) ∧ Below w.heap.size w wt) (fun _ v _ => r.length - (intOf v).toNat)
      case atStart => exact ⟨0, Nat.zero_le _, rfl, by simpa [endsP] using hO, hb⟩
      case round =>
        clear hO hb
        obtain ⟨k, hk, rfl, hO, hb⟩ := hrel
        have hzr := hb.size
        by_cases hlt : k < r.length
        case pos =>
          obtain ⟨x, hx⟩ := get_lt hlt
          obtain ⟨b, off, rfl, hb0, x0, x1, x2⟩ := HI1.out.get hx
          rw [← hb.cell (by exact hb0)] at x0 x1 x2
          have HN : Hid (endsP (r.take (k + 1)) = endsP (r.take k) ++ [x.f, x.t]) := Lib.hid (by rw [takeM_succ hx, endsP_snoc])
          have hcl : (endsP m ++ endsP (r.take k)).length + 2 ≤ 1000000 := by
            have h1 := hlm; have h2 := hlr
            simp only [List.length_append, endsP_len, List.length_take]; omega
          obtain ⟨a2, ha2⟩ : ∃ a2, a2 = endsP m ++ endsP (r.take k) := ⟨_, rfl⟩
          have HA2 := Lib.hid ha2
          rw [← ha2] at hcl hO
          clear hx ha2
          go_wp2_with (at_builtin; refine wpList_append_els (enc := intEnc) rfl (.tmp 30) (.tmp 35) 52 rfl w.heap.size 3 i0 _ 1 8 Tryd.underlying52 hi hz0 hz1 hz2 rfl (by decide) _ a2 [x.f, x.t] 2 rfl rfl (hO.alloc _) #[.int .i64 x.f, .int .i64 x.t] rfl (wr.heap.size + 1) (by simp) rfl rfl int_one2 hcl (by decide) (by simp; omega) ?_; intro v' w6 hown6 hb8 _)
          go_roundw
          case rel => exact ⟨k + 1, by omega, by go_num, by rw [HN.out, ← List.append_assoc, ← HA2.out]; exact hown6, (ext_alloc hb _).trans hb8⟩
          case measure => simp [intOf]; omega
        case neg =>
          obtain rfl : k = r.length := by omega
          rw [List.take_length] at hO
          obtain ⟨acc, ha⟩ : ∃ acc, acc = endsP m ++ endsP r := ⟨_, rfl⟩
          rw [← ha] at hO
          have HA := Lib.hid ha
          have hi64 : ∀ x, x ∈ acc → I64 x := fun x hx => by
            rw [ha] at hx
            rcases List.mem_append.1 hx with hx | hx
            · obtain ⟨y, hy, h⟩ := mem_endsP.1 hx
              obtain ⟨k, hk⟩ := List.getElem?_of_mem hy
              have := HI0.out.i64 hk
              rcases h with rfl | rfl
              · exact this.1
              · exact this.2.1
            · obtain ⟨y, hy, h⟩ := mem_endsP.1 hx
              obtain ⟨k, hk⟩ := List.getElem?_of_mem hy
              have := HI1.out.i64 hk
              rcases h with rfl | rfl
              · exact this.1
              · exact this.2.1
          have hal : acc.length ≤ 100000 := by rw [ha, List.length_append, endsP_len, endsP_len]; omega
          have HI64 := Lib.hid hi64
          clear ha hi64
          go_wp2_with fail
          refine (sortInts_any _ acc wr w.heap.size hO hzr hal).mono ?_
          rintro e w7 ⟨rfl, S, hmem, hlen, hsort, O7, hb7⟩
          have hb8 := hb.trans hb7
          have hC := compact_any _ S w7 w.heap.size O7 hb8.size (by omega) hsort (fun x hx => HI64.out x ((hmem x).1 hx))
          have HM := Lib.hid hmem
          have HLN := Lib.hid hlen
          clear hmem hlen hsort O7 hO
          go_wp2_with fail
          refine hC.mono ?_
          rintro e w8 ⟨A8, c8, D, HD, rfl, hI8, hb9⟩
          go_wp2_with fail
          go_ret
          exact ⟨A8, c8, D, Lib.hid ⟨HD.out.1, fun x => by rw [HD.out.2.1, HM.out, HA.out], by rw [← HA.out, ← HLN.out]; exact HD.out.2.2⟩, rfl, hI8, hb8.trans hb9⟩
theorem opt_eq {o p : Option Int} : o = p ↔ o.getD 0 = p.getD 0 ∧ o.isSome = p.isSome := by
  cases o <;> cases p <;> simp
set_option maxRecDepth 100000 in
set_option maxHeartbeats 4000000 in
theorem warpSame_any (A B : Option Addr) (c d n m : Nat) (o p : Option Int) (a b : List Int) (w : World) (hA : IntsAt w A c a) (hB : IntsAt w B d b) (hn : a.length = n) (hm : b.length = m) :
    Calls Tryd.prog 87 #[momV A n c o, momV B m d p] w fun e w' => e = .returned (.bool (decide (a = b ∧ o = p))) ∧ Below w.heap.size w w' := by
  subst hn hm
  have HA := Lib.hid hA; have HB := Lib.hid hB
  have m1 := hA.len
  have m2 := hB.len
  clear hA hB
  obtain ⟨os, hos⟩ : ∃ x, o.getD 0 = x := ⟨_, rfl⟩
  obtain ⟨ob, hob⟩ : ∃ x, o.isSome = x := ⟨_, rfl⟩
  obtain ⟨ps, hps⟩ : ∃ x, p.getD 0 = x := ⟨_, rfl⟩
  obtain ⟨pb, hpb⟩ : ∃ x, p.isSome = x := ⟨_, rfl⟩
  have HO : Hid (o = p ↔ os = ps ∧ ob = pb) := Lib.hid (by rw [opt_eq, hos, hob, hps, hpb])
  unfold momV momC
  rw [hos, hob, hps, hpb]
  clear hos hob hps hpb
  by_cases h1 : os = ps
  case neg =>
    have hd1 : (os == ps) = false := by simpa using h1
    have HF : Hid (decide (a = b ∧ o = p) = false) := Lib.hid (by simp [HO.out, h1])
    rw [HF.out]
    clear h1
    go_enter Tryd.func87, Tryd.ntmps87
    go_wp2_with fail
    go_ret
    exact ⟨rfl, by go_grown⟩
  case pos =>
  subst h1
  by_cases h2 : ob = pb
  case neg =>
    have hd2 : (ob == pb) = false := by simpa using h2
    have HF : Hid (decide (a = b ∧ o = p) = false) := Lib.hid (by simp [HO.out, h2])
    rw [HF.out]
    clear h2
    go_enter Tryd.func87, Tryd.ntmps87
    go_wp2_with fail
    go_ret
    exact ⟨rfl, by go_grown⟩
  case pos =>
  subst h2
  have HF : Hid (decide (a = b ∧ o = p) = decide (a = b)) := Lib.hid (by simp [HO.out])
  rw [HF.out]
  go_enter Tryd.func87, Tryd.ntmps87
  go_wp2_with fail
  refine (equalInts_any _ _ _ _ a b _ (HA.out.ext (by go_grown)).sl (HB.out.ext (by go_grown)).sl (Nat.le_trans HA.out.lc HA.out.cm) (Nat.le_trans HB.out.lc HB.out.cm)).mono ?_
  rintro e w1 ⟨rfl, hb1⟩
  go_wp2_with fail
  go_ret
  exact ⟨rfl, ext_trans (by go_grown) hb1⟩
end Go.Proofs.YtdpibehpmghghaaDoor
