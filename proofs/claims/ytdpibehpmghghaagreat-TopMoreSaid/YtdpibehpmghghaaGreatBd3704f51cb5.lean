/- Several texts in one: MapCheck, SortMem, RowMem. -/
import Derived.Shelf.SlSortCmp.WholeK
import Derived.Lib.SliceRun
import Derived.Test.YtdpibehpmghghaaGreatBdbca928d534
import Derived.Test.YtdpibehpmghghaaGreatBdcc6882d3e7
/- The walks of the check of a map, and of what it tells, the program's and the document's (printed by genmapcheck.py). -/
namespace Go.Proofs.YtdpibehpmghghaaGreat
open Go.RowKit

theorem far2_is {n : Int} {b : Bool} (h : farB n = b) (w : World) : Calls Tryz.prog 46 #[.int .i64 n] w fun e w' => e = .returned (.bool b) ∧ w = w' := by
  go_enter Tryz.func46, Tryz.ntmps46
  go_wp2
  all_goals go_ret
  all_goals exact ⟨ret_bool (by rw [← h, Bool.eq_iff_iff]; simp [farB, nearB, inB]; try omega), rfl⟩
section
variable {l : List PieceD} {k : Nat} {x z : PieceD}
theorem mapErr_bad' (h : l.length ≤ 200) (h2 : ¬ MapOk l) : mapErr l = 5 := mapErr_bad (by omega) h2
theorem badM_f (hx : l[k]? = some x) (h : nearB x.f = false) : ¬ MapOk l := fun hs => by have := (hs.at_ hx).1; rw [h] at this; simp at this
theorem badM_t (hx : l[k]? = some x) (h : nearB x.t = false) : ¬ MapOk l := fun hs => by have := (hs.at_ hx).2.1; rw [h] at this; simp at this
theorem badM_v' (hx : l[k]? = some x) (h : nearB x.v = false) : ¬ MapOk l := fun hs => by have := (hs.at_ hx).2.2.1; rw [h] at this; simp at this
theorem badM_e (hx : l[k]? = some x) (h : x.t ≤ x.f) : ¬ MapOk l := fun hs => by have := (hs.at_ hx).2.2.2; omega
theorem badM_l (hz : l[k]? = some z) (hx : l[k + 1]? = some x) (h : x.f < z.t) : ¬ MapOk l := fun hs => by have := (hs.gap hz hx).1; omega
theorem badM_v (hz : l[k]? = some z) (hx : l[k + 1]? = some x) (h : x.f = z.t) (hv : x.v = z.v) : ¬ MapOk l := fun hs => (hs.gap hz hx).2 h.symm hv.symm
end

set_option maxHeartbeats 4000000 in
theorem imapCheck_any (A : Option Addr) (c : Nat) (l : List PieceD) (w : World) (hI : PiecesAt w A c l) :
    Calls Tryz.prog 16 #[.slice A l.length c] w fun e w' => e = .returned (.int .i64 (mapErr l)) ∧ Below w.heap.size w w' := by
  have m1 := hI.len
  by_cases hl : l.length ≤ 200
  case neg =>
    have hd : decide ((l.length : Int) > 200) = true := by simp; omega
    go_enter Tryz.func16, Tryz.ntmps16
    go_wp2_with fail
    go_ret
    exact ⟨ret_int (mapErr_large (by omega)).symm, by go_grown⟩
  have hd : decide ((l.length : Int) > 200) = false := by simp; omega
  have HI := Lib.hid hI
  clear hI
  go_enter Tryz.func16, Tryz.ntmps16
  go_wp2_with fail
  clear hd
  go_loopw [10] (fun v wr => ∃ k : Nat, k ≤ l.length ∧ v = .int .i64 k ∧ Hid (MapOk (l.take k)) ∧ Below w.heap.size w wr) (fun v _ => l.length - (intOf v).toNat)
  case atStart => exact ⟨0, Nat.zero_le _, rfl, Lib.hid (by simpa using MapOk.nil), Below.refl _ _⟩
  case round =>
    obtain ⟨k, hk, rfl, HS, hb⟩ := hrel
    by_cases hlt : k < l.length
    case neg =>
      obtain rfl : k = l.length := by omega
      go_wp2_with fail
      go_ret
      exact ⟨ret_int (mapErr_ok (by omega) (by have := HS.out; rwa [List.take_length] at this)).symm, hb⟩
    case pos =>
      obtain ⟨x, hx⟩ := get_lt hlt
      obtain ⟨b, off, rfl, hb0, x0, x1, x2⟩ := HI.out.get hx
      rw [← hb.cell (by exact hb0)] at x0 x1 x2
      have HX := Lib.hid hx
      clear hx
      have hba := ext_alloc hb (Obj.cells #[Value.int IntKind.i64 x.f, Value.int IntKind.i64 x.t, Value.int IntKind.i64 x.v] 53)
      cases f1 : farB x.f
      case true =>
        go_wp2_with (first | (go_at_call 46; refine (far2_is (by assumption) _).mono ?_; rintro e w' ⟨rfl, rfl⟩))
        go_ret
        exact ⟨ret_int (mapErr_bad' hl (badM_f HX.out (far_on f1))).symm, hba⟩
      cases f2 : farB x.t
      case true =>
        go_wp2_with (first | (go_at_call 46; refine (far2_is (by assumption) _).mono ?_; rintro e w' ⟨rfl, rfl⟩))
        go_ret
        exact ⟨ret_int (mapErr_bad' hl (badM_t HX.out (far_on f2))).symm, hba⟩
      cases f3 : farB x.v
      case true =>
        go_wp2_with (first | (go_at_call 46; refine (far2_is (by assumption) _).mono ?_; rintro e w' ⟨rfl, rfl⟩))
        go_ret
        exact ⟨ret_int (mapErr_bad' hl (badM_v' HX.out (far_on f3))).symm, hba⟩
      by_cases g3 : x.t ≤ x.f
      case pos =>
        have d3 : decide (x.t ≤ x.f) = true := by simpa using g3
        go_wp2_with (first | (go_at_call 46; refine (far2_is (by assumption) _).mono ?_; rintro e w' ⟨rfl, rfl⟩))
        go_ret
        exact ⟨ret_int (mapErr_bad' hl (badM_e HX.out g3)).symm, hba⟩
      have d3 : decide (x.t ≤ x.f) = false := by simpa using g3
      have F3 := Lib.hid g3
      clear g3
      by_cases hk0 : k ≤ 0
      case pos =>
        have g4 : decide (0 < k) = false := by simp; omega
        go_wp2_with (first | (go_at_call 46; refine (far2_is (by assumption) _).mono ?_; rintro e w' ⟨rfl, rfl⟩))
        go_quiet (fail)
        go_wp2
        go_roundw
        case rel =>
          obtain rfl : k = 0 := by omega
          exact ⟨1, by omega, by go_num, Lib.hid (MapOk.first HX.out (far_off f1) (far_off f2) (far_off f3) (by have := F3.out; omega)), below_drewN hba _⟩
        case measure => simp [intOf]; omega
      case neg =>
        obtain ⟨j, rfl⟩ : ∃ j, k = j + 1 := ⟨k - 1, by omega⟩
        obtain ⟨z, hz⟩ := get_lt (show j < l.length by omega)
        obtain ⟨b', off', e', _, z0, z1, z2⟩ := HI.out.get hz
        obtain ⟨rfl, rfl⟩ : b = b' ∧ off = off' := by simpa using e'
        have z1 := (hba.cell (p := ⟨b, off + j * 3 + 1, none⟩) hb0).trans z1
        have z2 := (hba.cell (p := ⟨b, off + j * 3 + 2, none⟩) hb0).trans z2
        have HZ := Lib.hid hz
        clear hz e' z0
        have g4 : (0 : Int) < (j : Int) + 1 := by omega
        have hjw : IntKind.i64.wrap (j : Int) = j := IntWalk.i64_in _ (by omega)
        have hjl : j < l.length := by omega
        by_cases a1 : x.f < z.t
        case pos =>
          have d4 : decide (x.f < z.t) = true := by simpa using a1
          go_wp2_with (first | (go_at_call 46; refine (far2_is (by assumption) _).mono ?_; rintro e w' ⟨rfl, rfl⟩))
          go_quiet (fail)
          go_wp2
          go_ret
          exact ⟨ret_int (mapErr_bad' hl (badM_l HZ.out HX.out a1)).symm, below_drewN hba _⟩
        case neg =>
          have d4 : decide (x.f < z.t) = false := by simp; omega
          by_cases a2 : x.f = z.t
          case neg =>
            have d5 : (x.f == z.t) = false := by simp; omega
            go_wp2_with (first | (go_at_call 46; refine (far2_is (by assumption) _).mono ?_; rintro e w' ⟨rfl, rfl⟩))
            go_quiet (fail)
            go_wp2
            go_roundw
            case rel => exact ⟨j + 1 + 1, by omega, by go_num, Lib.hid (HS.out.next HZ.out HX.out (far_off f1) (far_off f2) (far_off f3) (by have := F3.out; omega) (by omega) (fun e => absurd e.symm a2)), below_drewN hba _⟩
            case measure => simp [intOf]; omega
          case pos =>
            have d5 : (x.f == z.t) = true := by simp; omega
            have A2 := Lib.hid a2
            clear a2
            by_cases a3 : x.v = z.v
            case pos =>
              have d6 : (x.v == z.v) = true := by simp; omega
              have A3 := Lib.hid a3
              clear a3
              go_wp2_with (first | (go_at_call 46; refine (far2_is (by assumption) _).mono ?_; rintro e w' ⟨rfl, rfl⟩))
              go_quiet (fail)
              go_wp2
              go_ret
              exact ⟨ret_int (mapErr_bad' hl (badM_v HZ.out HX.out A2.out A3.out)).symm, below_drewN hba _⟩
            case neg =>
              have d6 : (x.v == z.v) = false := by simp; omega
              have A3 := Lib.hid a3
              clear a3
              go_wp2_with (first | (go_at_call 46; refine (far2_is (by assumption) _).mono ?_; rintro e w' ⟨rfl, rfl⟩))
              go_quiet (fail)
              go_wp2
              go_roundw
              case rel => exact ⟨j + 1 + 1, by omega, by go_num, Lib.hid (HS.out.next HZ.out HX.out (far_off f1) (far_off f2) (far_off f3) (by have := F3.out; omega) (by omega) (fun _ e => A3.out e.symm)), below_drewN hba _⟩
              case measure => simp [intOf]; omega

/-- What At tells. -/
def atV (o : Option Int) : Value := .tuple #[.int .i64 (o.getD 0), .bool o.isSome]
set_option maxHeartbeats 2000000 in
theorem imapAt_any (A : Option Addr) (c : Nat) (l : List PieceD) (t : Int) (w : World) (hI : PiecesAt w A c l) :
    Calls Tryz.prog 15 #[.slice A l.length c, .int .i64 t] w fun e w' => e = .returned (atV (atM l t)) ∧ Below w.heap.size w w' := by
  have m1 := hI.len
  have HI := Lib.hid hI
  clear hI
  go_enter Tryz.func15, Tryz.ntmps15
  go_wp2_with fail
  go_loopw [10] (fun v wr => ∃ k : Nat, k ≤ l.length ∧ v = .int .i64 k ∧ Hid (atM (l.drop k) t = atM l t) ∧ Below w.heap.size w wr) (fun v _ => l.length - (intOf v).toNat)
  case atStart => exact ⟨0, Nat.zero_le _, rfl, Lib.hid rfl, Below.refl _ _⟩
  case round =>
    obtain ⟨k, hk, rfl, HN, hb⟩ := hrel
    by_cases hlt : k < l.length
    case neg =>
      go_wp2_with fail
      refine bodyPost_ret (v := .tuple #[.int .i64 0, .bool false]) (by simp [results, Tryz.results15]) rfl ?_
      exact ⟨by rw [← HN.out, drop_end (by omega)]; rfl, hb⟩
    case pos =>
      obtain ⟨x, hx⟩ := get_lt hlt
      obtain ⟨b, off, rfl, hb0, x0, x1, x2⟩ := HI.out.get hx
      rw [← hb.cell (by exact hb0)] at x0 x1 x2
      have HD : Hid (l.drop k = x :: l.drop (k + 1)) := Lib.hid (drop_cons hx)
      have hba := ext_alloc hb (Obj.cells #[Value.int IntKind.i64 x.f, Value.int IntKind.i64 x.t, Value.int IntKind.i64 x.v] 53)
      clear hx
      by_cases h1 : x.f ≤ t
      · have d1 : decide (x.f ≤ t) = true := by simpa using h1
        by_cases h2 : t < x.t
        · have d2 : decide (t < x.t) = true := by simpa using h2
          go_wp2_with fail
          refine bodyPost_ret (v := .tuple #[.int .i64 x.v, .bool true]) (by simp [results, Tryz.results15]) rfl ?_
          exact ⟨by rw [← HN.out, HD.out, at_hit ⟨h1, h2⟩]; rfl, hba⟩
        · have d2 : decide (t < x.t) = false := by simpa using h2
          go_wp2_with fail
          go_roundw
          case rel => exact ⟨k + 1, by omega, by go_num, Lib.hid (by rw [← HN.out, HD.out, at_miss (by omega)]), hba⟩
          case measure => simp [intOf]; omega
      · have d1 : decide (x.f ≤ t) = false := by simpa using h1
        go_wp2_with fail
        go_roundw
        case rel => exact ⟨k + 1, by omega, by go_num, Lib.hid (by rw [← HN.out, HD.out, at_miss (by omega)]), hba⟩
        case measure => simp [intOf]; omega
end Go.Proofs.YtdpibehpmghghaaGreat
/- A list that a call owns, as the row of a sort. -/
namespace Go.Proofs.YtdpibehpmghghaaGreat
open Go.RowKit Go.Sort

section
variable {α : Type} {enc : α → List Value} {sz : Nat} {w w' : World} {base g cap m off : Nat} {t e : TypeId} {l : List α} {d : Array α} {cs : Array Value} {os : Array Obj}
theorem flat_at (hk : ∀ x, (enc x).length = sz) : ∀ {l : List α} {i j : Nat} {x : α}, l[i]? = some x → j < sz → (l.flatMap enc)[i * sz + j]? = (enc x)[j]?
  | [], i, j, x, h, _ => by simp at h
  | y :: l, 0, j, x, h, hj => by
    obtain rfl : y = x := by simpa using h
    rw [List.flatMap_cons, List.getElem?_append_left (by rw [hk]; omega), Nat.zero_mul, Nat.zero_add]
  | y :: l, i + 1, j, x, h, hj => by
    rw [List.flatMap_cons, List.getElem?_append_right (by rw [hk, Nat.succ_mul]; omega), hk, show (i + 1) * sz + j - sz = i * sz + j by rw [Nat.succ_mul]; omega]
    exact flat_at hk (by simpa using h) hj
theorem flat_length (hk : ∀ x, (enc x).length = sz) : ∀ l : List α, (l.flatMap enc).length = l.length * sz
  | [] => by simp
  | y :: l => by rw [List.flatMap_cons, List.length_append, flat_length hk l, hk, List.length_cons, Nat.succ_mul]; omega
section
variable [Inhabited α]
theorem flatK_list (hk : ∀ x, (enc x).length = sz) (hs : 0 < sz) (d : Array α) : (flatK enc sz d).toList = d.toList.flatMap enc := by
  refine List.ext_getElem? fun t => ?_
  by_cases ht : t < d.size * sz
  · have hq : t / sz < d.size := Nat.div_lt_of_lt_mul (by rwa [Nat.mul_comm])
    have hr : t % sz < sz := Nat.mod_lt _ hs
    have hx : d.toList[t / sz]? = some d[t / sz]! := by
      rw [Array.getElem?_toList, Array.getElem?_eq_getElem hq, getElem!_pos d _ hq]
    have h1 := flat_at hk hx hr
    rw [Nat.div_add_mod' t sz] at h1
    rw [h1, Array.getElem?_toList, Array.getElem?_eq_getElem (by rw [size_flatK]; exact ht), ← getElem!_pos _ _ (by rw [size_flatK]; exact ht), get_flatK _ _ _ _ ht]
    rw [List.getElem?_eq_getElem (by rw [hk]; exact hr), ← getElem!_pos _ _ (by rw [hk]; exact hr)]
  · rw [List.getElem?_eq_none (by simp; omega), List.getElem?_eq_none (by rw [flat_length hk]; simp; omega)]
omit [Inhabited α] in
theorem heap_grow_lt (w : World) (os : Array Obj) {b : Nat} (hb : b < w.heap.size) : (grow w os).heap[b]? = w.heap[b]? := heap_grow_old w os hb
theorem heap_sort_other {b : Nat} (hb : b ≠ g) (hlt : b < w.heap.size) : (Go.Proofs.sortWorldK enc sz w g off m d os).heap[b]? = w.heap[b]? := by
  unfold Go.Proofs.sortWorldK
  rw [heap_grow_lt _ _ (by unfold putRowK; simpa using hlt)]
  unfold putRowK putRow mapBlock
  simp [Array.getElem?_modify, hb.symm]
theorem size_sortWorldK : (Go.Proofs.sortWorldK enc sz w g off m d os).heap.size = w.heap.size + os.size := by
  unfold Go.Proofs.sortWorldK putRowK
  simp
theorem Blk.sort_other {b : Nat} (h : Blk w b t cs) (hb : b ≠ g) : Blk (Go.Proofs.sortWorldK enc sz w g off m d os) b t cs := (heap_sort_other hb h.lt).trans h
theorem Blk.sorted (h : Blk w g t cs) : Blk (Go.Proofs.sortWorldK enc sz w g off m d os) g t (putCells id off (flatK enc sz d) cs) := by
  have h0 := h
  unfold Blk at h0
  unfold Blk Go.Proofs.sortWorldK
  rw [heap_grow_lt _ _ (by unfold putRowK; simpa using h.lt)]
  unfold putRowK putRow mapBlock
  simp [Array.getElem?_modify, h0, onCells]
theorem below_sort {B : Nat} (hg : B ≤ g) (hB : B ≤ w.heap.size) : Below B w (Go.Proofs.sortWorldK enc sz w g off m d os) :=
  ⟨rfl, rfl, rfl, by rw [size_sortWorldK]; omega, fun k hk => heap_sort_other (by omega) (by omega)⟩
/-- What is owned, as a sort wants it. -/
theorem Own.holdsK (hk : ∀ x, (enc x).length = sz) (hs : 0 < sz) (h : Own enc sz w base e (.slice (some ⟨g, 0, none⟩) l.length cap) l) : HoldsK enc sz w g 0 l.toArray := by
  rcases h.2 with ⟨h1, _⟩ | ⟨g', cap', cur, hv, hg, hh, hnc, hcm, hcs, htake⟩
  · simp at h1
  · simp only [Value.slice.injEq, Option.some.injEq, Addr.mk.injEq, and_true, true_and] at hv
    obtain ⟨rfl, rfl⟩ := hv
    intro j hj
    rw [size_flatK] at hj
    have hB : Blk w g e cur := hh
    rw [hB.cell, hB.frozen, Nat.zero_add]
    refine ⟨?_, rfl⟩
    have h1 : (flatK enc sz l.toArray).toList[j]? = (l.flatMap enc)[j]? := by rw [flatK_list hk hs]
    rw [Array.getElem?_toList, Array.getElem?_eq_getElem (by rw [size_flatK]; exact hj)] at h1
    rw [getElem!_pos _ _ (by rw [size_flatK]; exact hj)]
    refine Eq.trans ?_ h1.symm
    rw [← htake]
    simp only [List.size_toArray] at hj
    rw [List.getElem?_take_of_lt hj]
    simp
theorem Own.sortWorld {l' : List α} (hk : ∀ x, (enc x).length = sz) (hs : 0 < sz) (h : Own enc sz w base e (.slice (some ⟨g, 0, none⟩) l.length cap) l) (hl : l'.length = l.length) :
    Own enc sz (Go.Proofs.sortWorldK enc sz w g 0 m l'.toArray os) base e (.slice (some ⟨g, 0, none⟩) l.length cap) l' := by
  rcases h.2 with ⟨h1, _⟩ | ⟨g', cap', cur, hv, hg, hh, hnc, hcm, hcs, htake⟩
  · simp at h1
  · simp only [Value.slice.injEq, Option.some.injEq, Addr.mk.injEq, and_true, true_and] at hv
    obtain ⟨rfl, rfl⟩ := hv
    have hB : Blk w g e cur := hh
    refine ⟨by rw [hl]; exact (flat_length hk l').trans (by rw [hl]), .inr ⟨g, cap, putCells id 0 (flatK enc sz l'.toArray) cur, by rw [hl], hg, hB.sorted, by omega, hcm, by simpa [putCells] using hcs, ?_⟩⟩
    have hfl := flatK_list hk hs l'.toArray
    refine List.ext_getElem? fun t => ?_
    by_cases ht : t < l'.length * sz
    · rw [List.getElem?_take_of_lt ht]
      have hcz : t < cur.size := by
        have h2 := congrArg List.length htake
        rw [flat_length hk, List.length_take] at h2
        have := hB.lt
        rw [hl] at ht
        have h3 : min (l.length * sz) cur.toList.length = l.length * sz := h2
        simp only [Array.length_toList] at h3
        omega
      have h1 : (flatK enc sz l'.toArray).toList[t]? = (l'.flatMap enc)[t]? := by rw [hfl]
      rw [Array.getElem?_toList, Array.getElem?_eq_getElem (by rw [size_flatK]; simpa using ht)] at h1
      rw [← h1, Array.getElem?_toList]
      unfold putCells
      rw [Array.getElem?_mapIdx, Array.getElem?_eq_getElem hcz]
      simp only [Option.map_some, Nat.zero_le, true_and, Nat.zero_add, Nat.sub_zero]
      rw [if_pos (by rw [size_flatK]; simpa using ht), getElem!_pos _ _ (by rw [size_flatK]; simpa using ht)]
      rfl
    · rw [List.getElem?_eq_none (by simp; omega), List.getElem?_eq_none (by rw [flat_length hk]; omega)]
end
end
end Go.Proofs.YtdpibehpmghghaaGreat
/- A list in a block of its own: cell by cell. -/
namespace Go.Proofs.YtdpibehpmghghaaGreat
open Go.RowKit

section
variable {α : Type} {enc : α → List Value} {sz : Nat} {w w' : World} {base g c n i : Nat} {t e : TypeId} {m : List α} {x y : α} {cs : Array Value}
/-- Cell by cell: what the block's cells are. -/
def RowC (enc : α → List Value) (sz : Nat) (cs : Array Value) (m : List α) : Prop := ∀ (k : Nat) (x : α), m[k]? = some x → ∀ j, j < sz → cs[k * sz + j]? = (enc x)[j]?
theorem Own.cells (hk : ∀ x, (enc x).length = sz) (h : Own enc sz w base e (.slice (some ⟨g, 0, none⟩) n c) m) :
    n = m.length ∧ base ≤ g ∧ m.length ≤ c ∧ c ≤ maxLen ∧ ∃ cs, Blk w g e cs ∧ cs.size = c * sz ∧ RowC enc sz cs m := by
  rcases h.2 with ⟨h1, _⟩ | ⟨g', cap', cur, hv, hg, hh, hnc, hcm, hcs, htake⟩
  · simp at h1
  · simp only [Value.slice.injEq, Option.some.injEq, Addr.mk.injEq, and_true] at hv
    obtain ⟨rfl, rfl, rfl⟩ := hv
    refine ⟨rfl, hg, hnc, hcm, cur, hh, hcs, fun k x hx j hj => ?_⟩
    have hl := lt_of_get hx
    have h2 := flat_at hk hx hj
    rw [← htake] at h2
    have hlt : k * sz + j < m.length * sz := by
      have := Nat.mul_le_mul_right sz (show k + 1 ≤ m.length from hl)
      rw [Nat.succ_mul] at this
      omega
    rw [List.getElem?_take_of_lt hlt] at h2
    rw [← h2]
    simp
theorem Own.of_cells (hk : ∀ x, (enc x).length = sz) (hs : 0 < sz) (hB : Blk w g e cs) (hg : base ≤ g) (h1 : m.length ≤ c) (h2 : c ≤ maxLen) (hcs : cs.size = c * sz) (hc : RowC enc sz cs m) :
    Own enc sz w base e (.slice (some ⟨g, 0, none⟩) m.length c) m := by
  refine ⟨flat_length hk m, .inr ⟨g, c, cs, rfl, hg, hB, h1, h2, hcs, ?_⟩⟩
  refine List.ext_getElem? fun t => ?_
  by_cases ht : t < m.length * sz
  · rw [List.getElem?_take_of_lt ht]
    have hq : t / sz < m.length := Nat.div_lt_of_lt_mul (by rwa [Nat.mul_comm])
    have hr : t % sz < sz := Nat.mod_lt _ hs
    obtain ⟨x, hx⟩ := get_lt hq
    have h3 := hc _ x hx _ hr
    have h4 := flat_at hk hx hr
    rw [Nat.div_add_mod' t sz] at h3 h4
    rw [h4, ← h3]
    simp
  · rw [List.getElem?_eq_none (by simp; omega), List.getElem?_eq_none (by rw [flat_length hk]; omega)]
theorem RowC.take (h : RowC enc sz cs m) (i : Nat) : RowC enc sz cs (m.take i) := fun k x hx j hj => h k x (by
  by_cases hi : k < i
  · rwa [List.getElem?_take_of_lt hi] at hx
  · rw [List.getElem?_take_eq_none (by omega)] at hx; cases hx) j hj
/-- One element is put over. -/
theorem RowC.set {cs' : Array Value} (h : RowC enc sz cs m) (hi : i < m.length) (hs : ∀ t, t < i * sz ∨ i * sz + sz ≤ t → cs'[t]? = cs[t]?) (hx : ∀ j, j < sz → cs'[i * sz + j]? = (enc x)[j]?) : RowC enc sz cs' (m.set i x) := fun k y hy j hj => by
  by_cases hki : i = k
  · subst hki
    rw [List.getElem?_set_self hi] at hy
    obtain rfl : x = y := by simpa using hy
    exact hx j hj
  · rw [List.getElem?_set_ne hki] at hy
    rw [hs _ (by
      rcases Nat.lt_or_gt_of_ne hki with h1 | h1
      · right
        have := Nat.mul_le_mul_right sz (show i + 1 ≤ k from h1)
        rw [Nat.succ_mul] at this
        omega
      · left
        have := Nat.mul_le_mul_right sz (show k + 1 ≤ i from h1)
        rw [Nat.succ_mul] at this
        omega)]
    exact h k y hy j hj
/-- A row of stores: what lies ahead of it stays. -/
theorem Blk.setCells : ∀ (vs : List Value) (o : Nat) {w : World} {cs : Array Value}, Blk w g t cs → ∃ cs', Blk (w.setCells g o vs) g t cs' ∧ cs'.size = cs.size ∧ ∀ i, i < o → cs'[i]? = cs[i]?
  | [], o, w, cs, h => ⟨cs, h, rfl, fun _ _ => rfl⟩
  | v :: vs, o, w, cs, h => by
    obtain ⟨cs', h1, h2, h3⟩ := Blk.setCells vs (o + 1) (h.set_ o v)
    refine ⟨cs', h1, by rw [h2]; simp, fun i hi => ?_⟩
    rw [h3 i (by omega), Array.getElem?_setIfInBounds_ne (by omega)]
theorem Blk.setCells_far {b : Nat} {cs : Array Value} (hb : b ≠ g) : ∀ (vs : List Value) (o : Nat) {w : World}, Blk w b t cs → Blk (w.setCells g o vs) b t cs
  | [], _, _, h => h
  | v :: vs, o, _, h => Blk.setCells_far hb vs (o + 1) (h.far (p := ⟨g, o, none⟩) hb v)
theorem below_setCells {B : Nat} (hB : B ≤ g) : ∀ (vs : List Value) (o : Nat) {w w' : World}, Below B w w' → Below B w (w'.setCells g o vs)
  | [], _, _, _, h => h
  | v :: vs, o, _, w', h => below_setCells hB vs (o + 1) (h.setCell hB v)
theorem zeroCells_len (zs : Array Value) (n : Nat) : (Builtin.zeroCells zs n).toList.length = n * zs.size := by simp [Builtin.zeroCells]
theorem zeroCells_size (zs : Array Value) (n : Nat) : (Builtin.zeroCells zs n).size = n * zs.size := by simp [Builtin.zeroCells]
/-- 'clear(s)', s a slice of n > 0 elements. -/
theorem run_clear_row {P : Program} (w : World) (t e ty : TypeId) (z : Value) (ht : P.underlying t = some (.slice e)) (hv : ∀ w, (zeroValue e).run P w = .ok z w) (h1 : ∀ v ∈ z.cells.toList, v.oneCell' = true) (b o n c : Nat) (hn : 0 < n)
    (hc : ∀ j, j < n * z.cells.size → (w.cell? ⟨b, o + j, none⟩).isSome = true) (hf : ∀ j, j < n * z.cells.size → w.frozen? ⟨b, o + j, none⟩ = false) :
    (Builtin.clear_ #[t] ty #[.slice (some ⟨b, o, none⟩) n c]).run P w = .ok (.tuple #[]) (w.setCells b o (Builtin.zeroCells z.cells n).toList) := by
  have hst := run_storeCells_cells (P := P) b o (Builtin.zeroCells z.cells n).toList 0 w (by simpa [zeroCells_size] using hc) (by simpa [zeroCells_size] using hf) (by
    intro v hv'
    obtain ⟨i, hi, rfl⟩ := List.mem_iff_getElem.1 hv'
    have hlt : i < n * z.cells.size := by simpa [zeroCells_size] using hi
    have hpos : 0 < z.cells.size := by
      rcases Nat.eq_zero_or_pos z.cells.size with h0 | h0
      · rw [h0] at hlt; omega
      · exact h0
    have e1 : (Builtin.zeroCells z.cells n).toList[i] ∈ z.cells.toList := by
      simp only [Builtin.zeroCells, Array.toList_map, List.getElem_map]
      have hm : i % z.cells.size < z.cells.size := Nat.mod_lt _ hpos
      simp [hm]
    exact h1 _ e1)
  simp only [Nat.add_zero] at hst
  obtain ⟨m, rfl⟩ : ∃ m, n = m + 1 := ⟨n - 1, by omega⟩
  simp [Builtin.clear_, run_underlying ht, hv, hst]
end
/-- Nothing is appended. -/
theorem run_append_nothing {P : Program} (w : World) (t e ty : TypeId) (i : TypeInfo) (ht : P.underlying t = some (.slice e)) (hi : P.info? e = some i) (b : Option Addr) (n c d : Nat) (hn : n ≤ c) :
    (Builtin.append_ #[t, t] ty #[.slice b n c, .slice none 0 d]).run P w = .ok (.slice b n c) w := by
  cases b <;> simp [Builtin.append_, run_underlying ht, sizeOf, typeInfo, hi, Builtin.lenOf, Builtin.firstCells, storeCells, hn]
theorem wpList_append_nothing {P : Program} {ops : Array Oper} {rest : List Oper} {o : Oper} {a : Act} {Q : Exit → Act → World → Prop} {w : World} (hgd : o.guard = none) (s x : Operand) (t : TypeId)
    (ho : o.op = .call { callee := .builtin .append, args := #[s, x], argTypes := #[t, t] }) (e : TypeId) (i : TypeInfo) (ht : P.underlying t = some (.slice e)) (hi : P.info? e = some i) (b : Option Addr) (n c d : Nat)
    (hs : a.eval s = .slice b n c) (hx : a.eval x = .slice none 0 d) (hn : n ≤ c) (h : wpList P ops Q rest (a.put o.dst (.slice b n c)) w) : wpList P ops Q (o :: rest) a w := by
  refine wpList_plain hgd fun K hK => ?_
  have hr := run_append_nothing (P := P) w t e o.type i ht hi b n c d hn
  unfold Oper.wp execOp
  simp only [ho, resolve, invoke, builtin, Sem.run_bind, Sem.run_pure, Result.andThen_ok, List.map_toArray, List.map_cons, List.map_nil, hs, hx, hr]
  exact hK _ _ h
end Go.Proofs.YtdpibehpmghghaaGreat
