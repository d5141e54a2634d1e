/- Several texts in one: EqualB, IvlHas, FoldSpec, IvlDel. -/
import Derived.Laws.StructEq
import Derived.Shelf.Abstract
import Derived.Shelf.GgClosure.Gives
import Derived.Maps.AppendAt
import Derived.Lib.BufferMore
import Derived.Test.YtdpibehpmghghaaGreatBd87574eba69
import Derived.Test.YtdpibehpmghghaaGreatBdcc6882d3e7
import Derived.Test.YtdpibehpmghghaaGreatBdbca928d534
import Derived.Test.YtdpibehpmghghaaGreatBd0a10e81a0b
import Derived.Test.YtdpibehpmghghaaGreatBd3704f51cb5
/- The walks of the library's slices.Equal, at hops, ints, bools and lives. -/
namespace Go.Proofs.YtdpibehpmghghaaGreat
open Go.RowKit

theorem take_eq_of {α : Type} {a b : List α} (hl : a.length = b.length) {k : Nat} (hk : a.length ≤ k) (h : a.take k = b.take k) : a = b := by
  rwa [List.take_of_length_le hk, List.take_of_length_le (by omega)] at h
theorem take_step {α : Type} {a b : List α} {k : Nat} {x y : α} (hx : a[k]? = some x) (hy : b[k]? = some y) (h : a.take k = b.take k) (hxy : x = y) : a.take (k + 1) = b.take (k + 1) := by
  rw [List.take_add_one, List.take_add_one, hx, hy, h, hxy]
theorem ne_of_get {α : Type} {a b : List α} {k : Nat} {x y : α} (hx : a[k]? = some x) (hy : b[k]? = some y) (hxy : ¬ x = y) : ¬ a = b := by
  rintro rfl
  rw [hx] at hy
  exact hxy (by simpa using hy)

set_option maxHeartbeats 1000000 in
theorem equalInts_any (A B : Option Addr) (c d : Nat) (a b : List Int) (w : World) (hA : SlAt RInt 1 w A a) (hB : SlAt RInt 1 w B b) (ha : a.length ≤ maxLen) (hb : b.length ≤ maxLen) :
    Calls Tryz.prog 54 #[.slice A a.length c, .slice B b.length d] w fun e w' => e = .returned (.bool (decide (a = b))) ∧ Below w.heap.size w w' := by
  unfold maxLen at ha hb
  by_cases hl : a.length = b.length
  case neg =>
    have hne : ((a.length : Int) != (b.length : Int)) = true := by simp; omega
    go_enter Tryz.func54, Tryz.ntmps54
    go_wp2_with fail
    go_ret
    exact ⟨ret_bool (by symm; simp; intro h; exact hl (by rw [h])), Below.refl _ _⟩
  have hne : ((a.length : Int) != (b.length : Int)) = false := by simp; omega
  obtain ⟨ba, oa, hA⟩ := hA
  obtain ⟨bb, ob, hB⟩ := hB
  have HL := Lib.hid hl
  have hl1 : a.length ≤ b.length := by omega
  have hl2 : b.length ≤ a.length := by omega
  clear hl
  go_enter Tryz.func54, Tryz.ntmps54
  go_wp2_with fail
  go_loopw [13] (fun v wr => ∃ k : Nat, k ≤ a.length ∧ v = .int .i64 k ∧ Hid (a.take k = b.take k) ∧ Below w.heap.size w wr) (fun v _ => a.length - (intOf v).toNat)
  case atStart => exact ⟨0, Nat.zero_le _, rfl, Lib.hid (by simp), Below.refl _ _⟩
  case round =>
    obtain ⟨k, hk, rfl, HI, hw⟩ := hrel
    by_cases hlt : k < a.length
    · obtain ⟨x, hx⟩ := get_lt hlt
      obtain ⟨y, hy⟩ := get_lt (show k < b.length by omega)
      obtain ⟨rfl, hba, x0, _⟩ := hA k x hx
      obtain ⟨rfl, hbb, y0, _⟩ := hB k y hy
      have x1 := x0.now hw
      have y1 := y0.now hw
      simp only [Nat.mul_one] at x1 y1
      have HX := Lib.hid hx
      have HY := Lib.hid hy
      have hlt2 : k < b.length := by omega
      clear hA hB hx hy x0 y0
      by_cases hxy : x = y
      · have HXY := Lib.hid hxy
        have hn : (x != y) = false := by simp [hxy]
        clear hxy
        go_wp2_with fail
        go_quiet (fail)
        go_wp2
        go_roundw
        case rel => exact ⟨k + 1, by omega, by go_num, Lib.hid (take_step HX.out HY.out HI.out HXY.out), below_drewN hw _⟩
        case measure => simp [intOf]; omega
      · have HXY := Lib.hid hxy
        have hn : (x != y) = true := by simp [hxy]
        clear hxy
        go_wp2_with fail
        go_quiet (fail)
        go_wp2
        go_ret
        exact ⟨ret_bool (by symm; simp; exact ne_of_get HX.out HY.out HXY.out), below_drewN hw _⟩
    · go_wp2_with fail
      go_ret
      exact ⟨ret_bool (by symm; simp; exact take_eq_of HL.out (by omega) HI.out), hw⟩

theorem fields_piece : Tryz.prog.underlying 53 = some (.struct (Tryz.prog.fieldsOf 53)) := by kernel_rfl
theorem guard_piece : Tryz.prog.eqGuardType Tryz.prog.depth 53 = false := by kernel_rfl
theorem held_piece : Tryz.prog.stoodInHeld 53 = false := by kernel_rfl
theorem same_piece (x y : PieceD) (w : World) : (Op.equalIn 10000 53 (pieceV x) (pieceV y)).run Tryz.prog w = .ok (decide (x = y)) w := by
  have e : decide (x = y) = decide (x.f = y.f ∧ x.t = y.t ∧ x.v = y.v) := by rw [decide_eq_decide]; cases x; cases y; simp
  rw [e, run_equalIn_agg w 9999 53 _ _ fields_piece held_piece]
  have hf : (Tryz.prog.fieldsOf 53).toList = (match Tryz.prog.underlying 53 with | some (.struct fs) => fs.toList | _ => []) := by kernel_rfl
  rw [hf, Tryz.underlying53]
  simp [Op.eqFields, go_sem]
  by_cases hf : x.f = y.f <;> by_cases ht : x.t = y.t <;> by_cases hv : x.v = y.v <;> simp [*]
set_option maxHeartbeats 1000000 in
theorem equalPieces_any (A B : Option Addr) (c d : Nat) (a b : List PieceD) (w : World) (hA : SlAt RPiece 3 w A a) (hB : SlAt RPiece 3 w B b) (ha : a.length ≤ maxLen) (hb : b.length ≤ maxLen) :
    Calls Tryz.prog 22 #[.slice A a.length c, .slice B b.length d] w fun e w' => e = .returned (.bool (decide (a = b))) ∧ Below w.heap.size w w' := by
  unfold maxLen at ha hb
  by_cases hl : a.length = b.length
  case neg =>
    have hne : ((a.length : Int) != (b.length : Int)) = true := by simp; omega
    go_enter Tryz.func22, Tryz.ntmps22
    go_wp2_with fail
    go_ret
    exact ⟨ret_bool (by symm; simp; intro h; exact hl (by rw [h])), Below.refl _ _⟩
  have hne : ((a.length : Int) != (b.length : Int)) = false := by simp; omega
  obtain ⟨ba, oa, hA⟩ := hA
  obtain ⟨bb, ob, hB⟩ := hB
  have HL := Lib.hid hl
  have hl1 : a.length ≤ b.length := by omega
  have hl2 : b.length ≤ a.length := by omega
  clear hl
  go_enter Tryz.func22, Tryz.ntmps22
  go_wp2_with fail
  go_loopw [13] (fun v wr => ∃ k : Nat, k ≤ a.length ∧ v = .int .i64 k ∧ Hid (a.take k = b.take k) ∧ Below w.heap.size w wr) (fun v _ => a.length - (intOf v).toNat)
  case atStart => exact ⟨0, Nat.zero_le _, rfl, Lib.hid (by simp), Below.refl _ _⟩
  case round =>
    obtain ⟨k, hk, rfl, HI, hw⟩ := hrel
    by_cases hlt : k < a.length
    · obtain ⟨x, hx⟩ := get_lt hlt
      obtain ⟨y, hy⟩ := get_lt (show k < b.length by omega)
      obtain ⟨rfl, hba, ⟨x0, x1, x2⟩, _⟩ := hA k x hx
      obtain ⟨rfl, hbb, ⟨y0, y1, y2⟩, _⟩ := hB k y hy
      have x0' := x0.now hw
      have y0' := y0.now hw
      have x1' := x1.now hw
      have y1' := y1.now hw
      have x2' := x2.now hw
      have y2' := y2.now hw
      have HX := Lib.hid hx
      have HY := Lib.hid hy
      have hlt2 : k < b.length := by omega
      clear hA hB hx hy x0 y0 x1 y1 x2 y2
      by_cases hxy : x = y
      · have HXY := Lib.hid hxy
        have hn : decide (x = y) = true := by simp [hxy]
        have hs := same_piece x y
        rw [hn] at hs
        have hgd := guard_piece
        clear hxy
        go_wp2_with fail
        go_quiet (fail)
        go_wp2
        go_roundw
        case rel => exact ⟨k + 1, by omega, by go_num, Lib.hid (take_step HX.out HY.out HI.out HXY.out), below_drewN hw _⟩
        case measure => simp [intOf]; omega
      · have HXY := Lib.hid hxy
        have hn : decide (x = y) = false := by simp [hxy]
        have hs := same_piece x y
        rw [hn] at hs
        have hgd := guard_piece
        clear hxy
        go_wp2_with fail
        go_quiet (fail)
        go_wp2
        go_ret
        exact ⟨ret_bool (by symm; simp; exact ne_of_get HX.out HY.out HXY.out), below_drewN hw _⟩
    · go_wp2_with fail
      go_ret
      exact ⟨ret_bool (by symm; simp; exact take_eq_of HL.out (by omega) HI.out), hw⟩

theorem fields_ivl : Tryz.prog.underlying 107 = some (.struct (Tryz.prog.fieldsOf 107)) := by kernel_rfl
theorem guard_ivl : Tryz.prog.eqGuardType Tryz.prog.depth 107 = false := by kernel_rfl
theorem held_ivl : Tryz.prog.stoodInHeld 107 = false := by kernel_rfl
theorem same_ivl (x y : IvlD) (w : World) : (Op.equalIn 10000 107 (ivlV x) (ivlV y)).run Tryz.prog w = .ok (decide (x = y)) w := by
  have e : decide (x = y) = decide (x.f = y.f ∧ x.t = y.t) := by rw [decide_eq_decide]; cases x; cases y; simp
  rw [e, run_equalIn_agg w 9999 107 _ _ fields_ivl held_ivl]
  have hf : (Tryz.prog.fieldsOf 107).toList = (match Tryz.prog.underlying 107 with | some (.struct fs) => fs.toList | _ => []) := by kernel_rfl
  rw [hf, Tryz.underlying107]
  simp [Op.eqFields, go_sem]
  by_cases hf : x.f = y.f <;> by_cases ht : x.t = y.t <;> simp [*]
end Go.Proofs.YtdpibehpmghghaaGreat
/- The walks of what holds of one of some intervals; of the time that is in them. -/
namespace Go.Proofs.YtdpibehpmghghaaGreat
open Go.RowKit Go.Shelf

/-- What is asked of a predicate: in every world in which all that lay in w lies there still, it answers p and leaves such a world. -/
def PredB (fn : Nat) (lb : Array Value) (p : IvlD → Bool) (w : World) : Prop :=
  ∀ (W : World) (x : IvlD), Below w.heap.size w W → Calls Tryz.prog fn (#[ivlV x] ++ lb) W fun e w' => e = .returned (.bool (p x)) ∧ Below W.heap.size W w'
/-- The first one, or none. -/
def FirstIs (p : IvlD → Bool) (l : List IvlD) (r : Int) : Prop :=
  (r = -1 ∧ ∀ x, x ∈ l → p x = false) ∨ ∃ (k : Nat) (x : IvlD), r = k ∧ l[k]? = some x ∧ p x = true ∧ ∀ y, y ∈ l.take k → p y = false
theorem FirstIs.any {p : IvlD → Bool} {l : List IvlD} {r : Int} (h : FirstIs p l r) : decide (r ≥ 0) = l.any p := by
  rw [Bool.eq_iff_iff, List.any_eq_true, decide_eq_true_iff]
  rcases h with ⟨rfl, h⟩ | ⟨k, x, rfl, hx, hp, _⟩
  · exact ⟨fun h1 => by omega, fun ⟨x, hx, hp⟩ => by rw [h x hx] at hp; simp at hp⟩
  · exact ⟨fun _ => ⟨x, List.mem_of_getElem? hx, hp⟩, fun _ => by omega⟩

set_option maxHeartbeats 1000000 in
theorem indexFunc_any (fn : Nat) (lb : Array Value) (p : IvlD → Bool) (eg : ∀ args w, (callFunc fn args).run Tryz.prog w = .ok (.enter fn args) w) (A : Option Addr) (c : Nat) (l : List IvlD) (w : World) (hI : IvlsAt w A c l) (hp : PredB fn lb p w) :
    Calls Tryz.prog 158 #[.slice A l.length c, .func (.func fn) #[] lb] w fun e w' => (∃ r, e = .returned (.int .i64 r) ∧ FirstIs p l r) ∧ Below w.heap.size w w' := by
  have m1 := hI.len
  have HI := Lib.hid hI
  have HP := Lib.hid hp
  clear hI hp
  go_enter Tryz.func158, Tryz.ntmps158
  go_wp2_with fail
  go_loopw [5, 8] (fun _ v wr => ∃ k : Nat, k ≤ l.length ∧ v = .int .i64 k ∧ Hid (∀ y, y ∈ l.take k → p y = false) ∧ Below w.heap.size w wr) (fun _ v _ => l.length - (intOf v).toNat)
  case atStart => exact ⟨0, Nat.zero_le _, rfl, Lib.hid (by simp), Below.refl _ _⟩
  case round =>
    obtain ⟨k, hk, rfl, HN, hb⟩ := hrel
    by_cases hlt : k < l.length
    case neg =>
      obtain rfl : k = l.length := by omega
      go_wp2_with fail
      go_ret
      exact ⟨⟨-1, rfl, .inl ⟨rfl, by have := HN.out; rwa [List.take_length] at this⟩⟩, hb⟩
    case pos =>
      obtain ⟨x, hx⟩ := get_lt hlt
      obtain ⟨b, off, rfl, hb0, x0, x1⟩ := HI.out.get hx
      rw [← hb.cell (by exact hb0)] at x0 x1
      have HX := Lib.hid hx
      have hc := HP.out wr x hb
      clear hx
      cases hq : p x
      case true =>
        rw [hq] at hc
        go_wp2_with (go_at_fn fn; refine hc.mono ?_; rintro e w' ⟨rfl, hb'⟩)
        go_ret
        exact ⟨⟨k, rfl, .inr ⟨k, x, rfl, HX.out, hq, HN.out⟩⟩, ext_trans hb hb'⟩
      case false =>
        rw [hq] at hc
        go_wp2_with (go_at_fn fn; refine hc.mono ?_; rintro e w' ⟨rfl, hb'⟩)
        go_roundw
        case rel =>
          refine ⟨k + 1, by omega, by go_num, Lib.hid fun y hy => ?_, ext_trans hb hb'⟩
          rw [take_succ_ HX.out] at hy
          rcases List.mem_append.1 hy with hy | hy
          · exact HN.out y hy
          · obtain rfl : y = x := by simpa using hy
            exact hq
        case measure => simp [intOf]; omega

set_option maxHeartbeats 1000000 in
theorem containsFunc_any (fn : Nat) (lb : Array Value) (p : IvlD → Bool) (eg : ∀ args w, (callFunc fn args).run Tryz.prog w = .ok (.enter fn args) w) (A : Option Addr) (c : Nat) (l : List IvlD) (w : World) (hI : IvlsAt w A c l) (hp : PredB fn lb p w) :
    Calls Tryz.prog 149 #[.slice A l.length c, .func (.func fn) #[] lb] w fun e w' => e = .returned (.bool (l.any p)) ∧ Below w.heap.size w w' := by
  have HI := Lib.hid hI
  have HP := Lib.hid hp
  clear hI hp
  go_enter Tryz.func149, Tryz.ntmps149
  go_wp2_with (go_at_call 158; refine (indexFunc_any fn lb p eg A c l _ HI.out HP.out).mono ?_; rintro e w' ⟨⟨r, rfl, hr⟩, hb⟩)
  go_ret
  exact ⟨ret_bool hr.any, hb⟩

end Go.Proofs.YtdpibehpmghghaaGreat
/- Cells put together: what a fold tells; no program in sight. -/
namespace Go.Proofs.YtdpibehpmghghaaGreat

/-- What is told of a list of keyed pieces. -/
def foldF (U : List (PieceG Key)) (g : Key → Int) (t : Int) : Option Int := (atG U t).map g
/-- The messages' values at a time put together. -/
def mixO (l : List PieceD) (k t : Int) : Option Int := if whichL l t = [] then none else some (valOf l k (whichL l t))
theorem mix_fold {state l : List PieceD} {k : Int} {U : List (PieceG Key)} (h : ∀ t, atG U t = keyF state l t) (t : Int) : foldF U (fun q => valOf l k q.1) t = mixO l k t := by
  unfold foldF mixO
  rw [h]
  unfold keyF
  split <;> rfl
def FoldK (U : List (PieceG Key)) (g : Key → Int) (k : Nat) (out : List PieceD) : Prop :=
  (k = 0 → out = []) ∧ (∀ j z, k = j + 1 → U[j]? = some z → ∃ b, (∀ x, x ∈ U → b ≤ x.f) ∧ Told (foldF U g) b z.t out) ∧ out.length ≤ k ∧ ∀ x, x ∈ out → I64 x.f ∧ I64 x.t ∧ I64 x.v
section
variable {U : List (PieceG Key)} {g : Key → Int} {k : Nat} {out o : List PieceD} {y : PieceG Key} {z : PieceD}
theorem FoldK.start : FoldK U g 0 [] := ⟨fun _ => rfl, fun j z h => by omega, Nat.le_refl _, fun x h => by simp at h⟩
theorem fold_in (hU : MapG U) (hy : y ∈ U) {t : Int} (h1 : y.f ≤ t) (h2 : t < y.t) : foldF U g t = some (g y.v) := by
  unfold foldF
  rw [hU.mem_at hy h1 h2]
  rfl
theorem FoldK.pre (h : FoldK U g k out) (hU : MapG U) (hy : U[k]? = some y) : ∃ b, (∀ x, x ∈ U → b ≤ x.f) ∧ Told (foldF U g) b y.f out := by
  obtain ⟨i1, i2⟩ := List.getElem?_eq_some_iff.1 hy
  match k, h, hy, i1, i2 with
  | 0, h, hy, i1, i2 =>
    refine ⟨y.f, fun x hx => ?_, ?_⟩
    · obtain ⟨i, hi, rfl⟩ := List.mem_iff_getElem.1 hx
      by_cases h0 : i = 0
      · subst h0; rw [i2]; exact Int.le_refl _
      · have := List.pairwise_iff_getElem.1 hU.1 0 i i1 hi (by omega)
        rw [i2] at this
        have := hU.2 y (List.mem_of_getElem? hy)
        omega
    · rw [h.1 rfl]; exact Told.start
  | j + 1, h, hy, i1, i2 =>
    obtain ⟨z, hz⟩ := get_lt (show j < U.length by omega)
    obtain ⟨j1, j2⟩ := List.getElem?_eq_some_iff.1 hz
    obtain ⟨b, hb, hT⟩ := h.2.1 j z rfl hz
    refine ⟨b, hb, ?_⟩
    have hzy := List.pairwise_iff_getElem.1 hU.1 j (j + 1) j1 i1 (by omega)
    rw [j2, i2] at hzy
    by_cases he : z.t = y.f
    · rw [← he]; exact hT
    · have key : ∀ t, z.t ≤ t → t < y.f → foldF U g t = none := fun t h1 h2 => by
        unfold foldF
        rw [atG_none fun x hx => ?_]
        · rfl
        · rintro ⟨h3, h4⟩
          obtain ⟨i, hi, rfl⟩ := List.mem_iff_getElem.1 hx
          rcases Nat.lt_trichotomy i j with hij | hij | hij
          · have := List.pairwise_iff_getElem.1 hU.1 i j hi j1 hij
            rw [j2] at this
            have := hU.2 z (List.mem_of_getElem? hz)
            omega
          · subst hij; rw [j2] at h4; omega
          · by_cases hik : i = j + 1
            · subst hik; rw [i2] at h3; omega
            · have := List.pairwise_iff_getElem.1 hU.1 (j + 1) i i1 hi (by omega)
              rw [i2] at this
              have := hU.2 y (List.mem_of_getElem? hy)
              omega
      exact hT.skip (by omega) (fun t h1 h2 => by rw [key t h1 h2, key z.t (Int.le_refl _) (by omega)]) (key z.t (Int.le_refl _) (by omega))
theorem FoldK.grow (h : FoldK U g k (o ++ [z])) (hU : MapG U) (hy : U[k]? = some y) (hz : z.t = y.f) (hv : z.v = g y.v) (hi : I64 y.t) : FoldK U g (k + 1) (o ++ [⟨z.f, y.t, z.v⟩]) := by
  obtain ⟨b, hb, hT⟩ := h.pre hU hy
  have my := List.mem_of_getElem? hy
  have hyl := hU.2 y my
  refine ⟨fun h => by omega, fun j x hj hx => ?_, by have := h.2.2.1; simp at this ⊢; omega, fun x hx => ?_⟩
  · obtain rfl : k = j := by omega
    rw [hy] at hx
    obtain rfl : y = x := by simpa using hx
    exact ⟨b, hb, hT.grow (hb y my) hyl (fun t h1 h2 => by rw [fold_in hU my h1 h2, fold_in hU my (Int.le_refl _) hyl]) (by rw [fold_in hU my (Int.le_refl _) hyl, hv]) hz⟩
  · rcases List.mem_append.1 hx with hx | hx
    · exact h.2.2.2 x (List.mem_append_left _ hx)
    · obtain rfl : x = _ := by simpa using hx
      have := h.2.2.2 z (by simp)
      exact ⟨this.1, hi, this.2.2⟩
theorem FoldK.next (h : FoldK U g k out) (hU : MapG U) (hy : U[k]? = some y) (hz : ∀ x, x ∈ out → x.t = y.f → x.v ≠ g y.v) (h1 : I64 y.f) (h2 : I64 y.t) (h3 : I64 (g y.v)) : FoldK U g (k + 1) (out ++ [⟨y.f, y.t, g y.v⟩]) := by
  obtain ⟨b, hb, hT⟩ := h.pre hU hy
  have my := List.mem_of_getElem? hy
  have hyl := hU.2 y my
  refine ⟨fun h => by omega, fun j x hj hx => ?_, by have := h.2.2.1; simp; omega, fun x hx => ?_⟩
  · obtain rfl : k = j := by omega
    rw [hy] at hx
    obtain rfl : y = x := by simpa using hx
    exact ⟨b, hb, hT.next (hb y my) hyl (fun t h1 h2 => by rw [fold_in hU my h1 h2, fold_in hU my (Int.le_refl _) hyl]) (fold_in hU my (Int.le_refl _) hyl) hz⟩
  · rcases List.mem_append.1 hx with hx | hx
    · exact h.2.2.2 x hx
    · obtain rfl : x = _ := by simpa using hx
      exact ⟨h1, h2, h3⟩
/-- Only the last one can end there. -/
theorem FoldK.last (h : FoldK U g k (o ++ [z])) (hU : MapG U) (hy : U[k]? = some y) (hn : ¬ (z.t = y.f ∧ z.v = g y.v)) : ∀ x, x ∈ o ++ [z] → x.t = y.f → x.v ≠ g y.v := fun x hx e ev => by
  obtain ⟨b, hb, hT⟩ := h.pre hU hy
  rcases List.mem_append.1 hx with hx | hx
  · have h2 := hT.map.ahead hx
    have h3 := hT.low z (by simp)
    omega
  · obtain rfl : x = z := by simpa using hx
    exact hn ⟨e, ev⟩
theorem fold_ex (hU : MapG U) (hi : ∀ y, y ∈ U → I64 y.f ∧ I64 y.t ∧ I64 (g y.v)) : ∀ k, k ≤ U.length → ∃ out, FoldK U g k out
  | 0, _ => ⟨[], FoldK.start⟩
  | k + 1, hk => by
    obtain ⟨out, ho⟩ := fold_ex hU hi k (by omega)
    obtain ⟨y, hy⟩ := get_lt (show k < U.length by omega)
    have h3 := hi y (List.mem_of_getElem? hy)
    rcases List.eq_nil_or_concat out with rfl | ⟨o, z, rfl⟩
    · exact ⟨_, ho.next hU hy (fun x hx => by simp at hx) h3.1 h3.2.1 h3.2.2⟩
    · rw [List.concat_eq_append] at ho
      by_cases hz : z.t = y.f ∧ z.v = g y.v
      · exact ⟨_, ho.grow hU hy hz.1 hz.2 h3.2.1⟩
      · exact ⟨_, ho.next hU hy (ho.last hU hy hz) h3.1 h3.2.1 h3.2.2⟩
theorem FoldK.fin (h : FoldK U g U.length out) (hU : MapG U) : MapL out ∧ ∀ t, atM out t = foldF U g t := by
  rcases Nat.eq_zero_or_pos U.length with h0 | h0
  · have e1 : U = [] := List.eq_nil_of_length_eq_zero h0
    have e2 := h.1 h0
    subst e1 e2
    exact ⟨.nil, fun t => rfl⟩
  · obtain ⟨z, hz⟩ := get_lt (show U.length - 1 < U.length by omega)
    obtain ⟨j1, j2⟩ := List.getElem?_eq_some_iff.1 hz
    obtain ⟨b, hb, hT⟩ := h.2.1 (U.length - 1) z (by omega) hz
    refine ⟨hT.map, fun t => ?_⟩
    rw [hT.tells]
    split
    · rfl
    · rename_i hn
      unfold foldF
      rw [atG_none fun x hx => ?_]
      · rfl
      · rintro ⟨h3, h4⟩
        have h5 := hb x hx
        obtain ⟨i, hi, rfl⟩ := List.mem_iff_getElem.1 hx
        by_cases hij : i = U.length - 1
        · subst hij; rw [j2] at h4; omega
        · have := List.pairwise_iff_getElem.1 hU.1 i (U.length - 1) hi j1 (by omega)
          rw [j2] at this
          have := hU.2 z (List.mem_of_getElem? hz)
          omega
end
/-- What Fold tells. -/
def FoldSay (l : List PieceD) (k er : Int) (out : List PieceD) : Prop :=
  if msgErr l = 0 then if 1 ≤ k ∧ k ≤ 3 then Tells (mixO l k) er out else er = 1 ∧ out = [] else er = msgErr l ∧ out = []
end Go.Proofs.YtdpibehpmghghaaGreat
/- The walks of slices.Clone and slices.DeleteFunc over intervals. -/
namespace Go.Proofs.YtdpibehpmghghaaGreat
open Go.RowKit Go.Shelf

theorem ivlC_len (x : IvlD) : (ivlC x).length = 2 := rfl
theorem ivls_one (l : List IvlD) : ∀ u ∈ l.flatMap ivlC, u.oneCell' = true := fun u hu => by
  obtain ⟨x, _, hx⟩ := List.mem_flatMap.1 hu
  simp only [ivlC, List.mem_cons, List.not_mem_nil, or_false] at hx
  rcases hx with rfl | rfl <;> rfl
/-- What memory holds of a list, cell by cell. -/
theorem IvlsAt.flat {w : World} {b off c : Nat} {l : List IvlD} (h : IvlsAt w (some ⟨b, off, none⟩) c l) : ∀ (j : Nat) u, (l.flatMap ivlC)[j]? = some u → w.cell? ⟨b, off + j, none⟩ = some u := fun j u hu => by
  have hj : j < l.length * 2 := by have := lt_of_get hu; rw [flat_length ivlC_len] at this; exact this
  obtain ⟨x, hx⟩ := get_lt (show j / 2 < l.length by omega)
  obtain ⟨b', off', e, _, h0, h1⟩ := h.get hx
  obtain ⟨rfl, rfl⟩ : b = b' ∧ off = off' := by simpa using e
  have h4 := flat_at ivlC_len hx (Nat.mod_lt j (show 0 < 2 by decide))
  rw [Nat.div_add_mod' j 2, hu] at h4
  have hd := Nat.div_add_mod' j 2
  rcases Nat.mod_two_eq_zero_or_one j with hm | hm
  · rw [hm] at h4
    have e1 : j / 2 * 2 = j := by omega
    rw [e1] at h0
    rw [h0, h4]
    rfl
  · rw [hm] at h4
    have e1 : off + j / 2 * 2 + 1 = off + j := by omega
    rw [e1] at h1
    rw [h1, h4]
    rfl
/-- A list is told, in a block of its own. -/
def OwnOut (l : List IvlD) (w : World) (base : Nat) (e : Ending) (w' : World) : Prop := ∃ v, e = .returned v ∧ Own ivlC 2 w' base 107 v l ∧ Below base w w'

set_option maxRecDepth 100000 in
set_option maxHeartbeats 2000000 in
theorem ivlClone_any (A : Option Addr) (c : Nat) (l : List IvlD) (w : World) (hI : IvlsAt w A c l) (hl : l.length ≤ 100000) :
    Calls Tryz.prog 160 #[.slice A l.length c] w (OwnOut l w w.heap.size) := by
  obtain ⟨i0, hi, hz0, hz1, hz2⟩ := info_ivl2
  cases A with
  | none =>
    have h0 : l = [] := by
      cases l with
      | nil => rfl
      | cons y l =>
        obtain ⟨b, off, e, _⟩ := hI.get (k := 0) (x := y) rfl
        simp at e
    subst h0
    have hnil : ∀ W : World, (binOp .eql 22 (.slice none 0 c) (.slice none 0 0)).run Tryz.prog W = .ok (.bool true) W := fun W => Lib.run_eql_slice_nil_nil W 0 c Tryz.underlying22
    go_enter Tryz.func160, Tryz.ntmps160
    go_wp2_with fail
    go_ret
    exact ⟨_, rfl, Own.nil, by go_grown⟩
  | some ad =>
    have hsome : ∀ W : World, (binOp .eql 22 (.slice (some ad) l.length c) (.slice none 0 0)).run Tryz.prog W = .ok (.bool false) W := fun W => Lib.run_eql_slice_some_nil W ad l.length c Tryz.underlying22
    have hcells : ∀ (w' : World), Below w.heap.size w w' → ∀ (j : Nat) u, (l.flatMap ivlC)[j]? = some u → w'.cell? (ad.add j) = some u := fun w' hb j u hu => by
      cases l with
      | nil => simp at hu
      | cons y l =>
        obtain ⟨b, off, e, _⟩ := hI.get (k := 0) (x := y) rfl
        obtain rfl : ad = ⟨b, off, none⟩ := by simpa using e
        rw [Go.WideShapes.add_plain]
        exact cell_keep hb (hI.flat j u hu)
    clear hI
    go_enter Tryz.func160, Tryz.ntmps160
    go_wp2_with (at_builtin; refine wpList_append_own_at _ rfl (.tmp 5) (.tmp 6) 22 rfl w.heap.size 107 i0 _ 2 16 Tryz.underlying22 hi hz0 hz1 hz2 rfl (by decide) _ 0 [] rfl (Own.lit (enc := ivlC) (l := []) rfl (Nat.le_refl _) rfl rfl rfl (by decide)) ad l.length c (l.flatMap ivlC) rfl (flat_length ivlC_len l) (hcells _ (by go_grown)) (ivls_one l) (by unfold maxLen; omega) (by omega) (by simp) ?_; intro v' w6 h2 h3 _ _; have hown : Own ivlC 2 w6 w.heap.size 107 v' l := (by simpa [Own] using h2))
    have hbb : Below w.heap.size w w6 := by
      refine ((Below.refl w.heap.size w).alloc (Nat.le_refl _) (Obj.cells #[] 107)).grown h3 (by simp) ?_
      intro k hk
      have e : some w.heap.size = some k := hk
      cases e
      exact Nat.le_refl _
    go_ret
    exact ⟨_, rfl, hown, hbb⟩

/-! ### what is deleted -/
/-- While elements are deleted: what is kept stands ahead, what is not read yet stands where it stood. -/
structure DelInv (p : IvlD → Bool) (l m : List IvlD) (j i : Nat) : Prop where
  len : m.length = l.length
  lt : i < j
  ahead : m.take i = (l.take j).filter fun x => !p x
  rest : ∀ k x, j ≤ k → l[k]? = some x → m[k]? = some x
section
variable {p : IvlD → Bool} {l m : List IvlD} {i j k : Nat} {x : IvlD}
theorem filter_none (h : ∀ y, y ∈ l → p y = false) : (l.filter fun x => !p x) = l := List.filter_eq_self.2 fun y hy => by simp [h y hy]
theorem DelInv.start (hx : l[k]? = some x) (hp : p x = true) (hn : ∀ y, y ∈ l.take k → p y = false) : DelInv p l l (k + 1) k :=
  ⟨rfl, by omega, by rw [take_succ_ hx, List.filter_append, filter_none hn]; simp [hp], fun _ _ _ h => h⟩
theorem DelInv.skip (h : DelInv p l m j i) (hx : l[j]? = some x) (hp : p x = true) : DelInv p l m (j + 1) i :=
  ⟨h.len, by have := h.lt; omega, by rw [take_succ_ hx, List.filter_append, h.ahead]; simp [hp], fun k y hk => h.rest k y (by omega)⟩
theorem DelInv.keep (h : DelInv p l m j i) (hx : l[j]? = some x) (hp : p x = false) : DelInv p l (m.set i x) (j + 1) (i + 1) := by
  have hjl := lt_of_get hx
  have hlt := h.lt
  refine ⟨by rw [List.length_set, h.len], by omega, ?_, fun k y hk hy => ?_⟩
  · rw [take_succ_ hx, List.filter_append, ← h.ahead]
    have e : (m.set i x)[i]? = some x := List.getElem?_set_self (by rw [h.len]; omega)
    rw [take_succ_ e, List.take_set_of_le (Nat.le_refl _)]
    simp [hp]
  · rw [List.getElem?_set_ne (by omega)]
    exact h.rest k y (by omega) hy
theorem DelInv.fin (h : DelInv p l m j i) (hj : l.length ≤ j) : m.take i = l.filter fun x => !p x := by rw [h.ahead, List.take_of_length_le hj]
theorem DelInv.count (h : DelInv p l m j i) (hj : l.length ≤ j) (hl : i < l.length) : (l.filter fun x => !p x).length = i := by rw [← h.fin hj, List.length_take, h.len]; omega
end
end Go.Proofs.YtdpibehpmghghaaGreat
