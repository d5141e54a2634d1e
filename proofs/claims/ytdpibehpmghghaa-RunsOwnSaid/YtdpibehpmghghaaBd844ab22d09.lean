/- Several texts in one: Equal, Pair, Spoil2. -/
import Derived.Laws.StructEq
import Derived.Test.YtdpibehpmghghaaBdc7e691d77d
import Derived.Test.YtdpibehpmghghaaBd9264425ae5
import Derived.Test.YtdpibehpmghghaaBd0069b257fc
import Derived.Test.YtdpibehpmghghaaBda2f47ef360
/- The walks of the library's slices.Equal, at hops, ints, bools and lives. -/
namespace Go.Proofs.Ytdpibehpmghghaa
open Go.RowKit

theorem take_eq_ofA {α : Type} {a b : List α} (hl : a.length = b.length) {k : Nat} (hk : a.length ≤ k) (h : a.take k = b.take k) : a = b := by
  rwa [List.take_of_length_le hk, List.take_of_length_le (by omega)] at h
theorem take_stepA {α : Type} {a b : List α} {k : Nat} {x y : α} (hx : a[k]? = some x) (hy : b[k]? = some y) (h : a.take k = b.take k) (hxy : x = y) : a.take (k + 1) = b.take (k + 1) := by
  rw [List.take_add_one, List.take_add_one, hx, hy, h, hxy]
theorem ne_of_getA {α : Type} {a b : List α} {k : Nat} {x y : α} (hx : a[k]? = some x) (hy : b[k]? = some y) (hxy : ¬ x = y) : ¬ a = b := by
  rintro rfl
  rw [hx] at hy
  exact hxy (by simpa using hy)

set_option maxHeartbeats 1000000 in
theorem equalInts_anyA (A B : Option Addr) (c d : Nat) (a b : List Int) (w : World) (hA : SlAt RInt 1 w A a) (hB : SlAt RInt 1 w B b) (ha : a.length ≤ maxLen) (_ : b.length ≤ maxLen) :
    Calls Try.prog 120 #[.slice A a.length c, .slice B b.length d] w fun e w' => e = .returned (.bool (decide (a = b))) ∧ Below w.heap.size w w' := by
  unfold maxLen at ha
  by_cases hl : a.length = b.length
  case neg =>
    have hne : ((a.length : Int) != (b.length : Int)) = true := by simp; omega
    go_enter Try.func120, Try.ntmps120
    go_wp2_with fail
    go_ret
    exact ⟨ret_bool (by symm; simp; intro h; exact hl (by rw [h])), Below.refl _ _⟩
  have hne : ((a.length : Int) != (b.length : Int)) = false := by simp; omega
  obtain ⟨ba, oa, hA⟩ := hA
  obtain ⟨bb, ob, hB⟩ := hB
  have HL := Lib.hid hl
  have hl1 : a.length ≤ b.length := by omega
  have hl2 : b.length ≤ a.length := by omega
  clear hl
  go_enter Try.func120, Try.ntmps120
  go_wp2_with fail
  go_loopw [13] (fun v wr => ∃ k : Nat, k ≤ a.length ∧ v = .int .i64 k ∧ Hid (a.take k = b.take k) ∧ Below w.heap.size w wr) (fun v _ => a.length - (intOf v).toNat)
  case atStart => exact ⟨0, Nat.zero_le _, rfl, Lib.hid (by simp), Below.refl _ _⟩
  case round =>
    obtain ⟨k, hk, rfl, HI, hw⟩ := hrel
    by_cases hlt : k < a.length
    · obtain ⟨x, hx⟩ := get_lt hlt
      obtain ⟨y, hy⟩ := get_lt (show k < b.length by omega)
      obtain ⟨rfl, hba, x0, _⟩ := hA k x hx
      obtain ⟨rfl, hbb, y0, _⟩ := hB k y hy
      have x1 := x0.now hw
      have y1 := y0.now hw
      simp only [Nat.mul_one] at x1 y1
      have HX := Lib.hid hx
      have HY := Lib.hid hy
      have hlt2 : k < b.length := by omega
      clear hA hB hx hy x0 y0
      by_cases hxy : x = y
      · have HXY := Lib.hid hxy
        have hn : (x != y) = false := by simp [hxy]
        clear hxy
        go_wp2_with fail
        go_quiet (fail)
        go_wp2
        go_roundw
        case rel => exact ⟨k + 1, by omega, by go_num, Lib.hid (take_stepA HX.out HY.out HI.out HXY.out), below_drewN hw _⟩
        case measure => simp [intOf]; omega
      · have HXY := Lib.hid hxy
        have hn : (x != y) = true := by simp [hxy]
        clear hxy
        go_wp2_with fail
        go_quiet (fail)
        go_wp2
        go_ret
        exact ⟨ret_bool (by symm; simp; exact ne_of_getA HX.out HY.out HXY.out), below_drewN hw _⟩
    · go_wp2_with fail
      go_ret
      exact ⟨ret_bool (by symm; simp; exact take_eq_ofA HL.out (by omega) HI.out), hw⟩

abbrev ivlVA (x : IvlD) : Value := .agg #[.int .i64 x.f, .int .i64 x.t]
theorem fields_ivlA : Try.prog.underlying 29 = some (.struct (Try.prog.fieldsOf 29)) := by kernel_rfl
theorem guard_ivlA : Try.prog.eqGuardType Try.prog.depth 29 = false := by kernel_rfl
theorem held_ivlA : Try.prog.stoodInHeld 29 = false := by kernel_rfl
theorem same_ivlA (x y : IvlD) (w : World) : (Op.equalIn 10000 29 (ivlVA x) (ivlVA y)).run Try.prog w = .ok (decide (x = y)) w := by
  have e : decide (x = y) = decide (x.f = y.f ∧ x.t = y.t) := by rw [decide_eq_decide]; cases x; cases y; simp
  rw [e, run_equalIn_agg w 9999 29 _ _ fields_ivlA held_ivlA]
  have hf : (Try.prog.fieldsOf 29).toList = (match Try.prog.underlying 29 with | some (.struct fs) => fs.toList | _ => []) := by kernel_rfl
  rw [hf, Try.underlying29]
  simp [Op.eqFields, go_sem]
  by_cases hf : x.f = y.f <;> by_cases ht : x.t = y.t <;> simp [*]
set_option maxHeartbeats 1000000 in
theorem equalIvls_anyA (A B : Option Addr) (c d : Nat) (a b : List IvlD) (w : World) (hA : SlAt RIvl 2 w A a) (hB : SlAt RIvl 2 w B b) (ha : a.length ≤ maxLen) (_ : b.length ≤ maxLen) :
    Calls Try.prog 22 #[.slice A a.length c, .slice B b.length d] w fun e w' => e = .returned (.bool (decide (a = b))) ∧ Below w.heap.size w w' := by
  unfold maxLen at ha
  by_cases hl : a.length = b.length
  case neg =>
    have hne : ((a.length : Int) != (b.length : Int)) = true := by simp; omega
    go_enter Try.func22, Try.ntmps22
    go_wp2_with fail
    go_ret
    exact ⟨ret_bool (by symm; simp; intro h; exact hl (by rw [h])), Below.refl _ _⟩
  have hne : ((a.length : Int) != (b.length : Int)) = false := by simp; omega
  obtain ⟨ba, oa, hA⟩ := hA
  obtain ⟨bb, ob, hB⟩ := hB
  have HL := Lib.hid hl
  have hl1 : a.length ≤ b.length := by omega
  have hl2 : b.length ≤ a.length := by omega
  clear hl
  go_enter Try.func22, Try.ntmps22
  go_wp2_with fail
  go_loopw [13] (fun v wr => ∃ k : Nat, k ≤ a.length ∧ v = .int .i64 k ∧ Hid (a.take k = b.take k) ∧ Below w.heap.size w wr) (fun v _ => a.length - (intOf v).toNat)
  case atStart => exact ⟨0, Nat.zero_le _, rfl, Lib.hid (by simp), Below.refl _ _⟩
  case round =>
    obtain ⟨k, hk, rfl, HI, hw⟩ := hrel
    by_cases hlt : k < a.length
    · obtain ⟨x, hx⟩ := get_lt hlt
      obtain ⟨y, hy⟩ := get_lt (show k < b.length by omega)
      obtain ⟨rfl, hba, ⟨x0, x1⟩, _⟩ := hA k x hx
      obtain ⟨rfl, hbb, ⟨y0, y1⟩, _⟩ := hB k y hy
      have x0' := x0.now hw
      have y0' := y0.now hw
      have x1' := x1.now hw
      have y1' := y1.now hw
      have HX := Lib.hid hx
      have HY := Lib.hid hy
      have hlt2 : k < b.length := by omega
      clear hA hB hx hy x0 y0 x1 y1
      by_cases hxy : x = y
      · have HXY := Lib.hid hxy
        have hn : decide (x = y) = true := by simp [hxy]
        have hs := same_ivlA x y
        rw [hn] at hs
        have hgd := guard_ivlA
        clear hxy
        go_wp2_with fail
        go_quiet (fail)
        go_wp2
        go_roundw
        case rel => exact ⟨k + 1, by omega, by go_num, Lib.hid (take_stepA HX.out HY.out HI.out HXY.out), below_drewN hw _⟩
        case measure => simp [intOf]; omega
      · have HXY := Lib.hid hxy
        have hn : decide (x = y) = false := by simp [hxy]
        have hs := same_ivlA x y
        rw [hn] at hs
        have hgd := guard_ivlA
        clear hxy
        go_wp2_with fail
        go_quiet (fail)
        go_wp2
        go_ret
        exact ⟨ret_bool (by symm; simp; exact ne_of_getA HX.out HY.out HXY.out), below_drewN hw _⟩
    · go_wp2_with fail
      go_ret
      exact ⟨ret_bool (by symm; simp; exact take_eq_ofA HL.out (by omega) HI.out), hw⟩

theorem fields_leg : Try.prog.underlying 95 = some (.struct (Try.prog.fieldsOf 95)) := by kernel_rfl
theorem guard_leg : Try.prog.eqGuardType Try.prog.depth 95 = false := by kernel_rfl
theorem held_leg : Try.prog.stoodInHeld 95 = false := by kernel_rfl
theorem same_leg (x y : LegD) (w : World) : (Op.equalIn 10000 95 (legV x) (legV y)).run Try.prog w = .ok (decide (x = y)) w := by
  have e : decide (x = y) = decide (x.f = y.f ∧ x.t = y.t ∧ x.time = y.time ∧ x.cost = y.cost) := by rw [decide_eq_decide]; cases x; cases y; simp
  rw [e, run_equalIn_agg w 9999 95 _ _ fields_leg held_leg]
  have hf : (Try.prog.fieldsOf 95).toList = (match Try.prog.underlying 95 with | some (.struct fs) => fs.toList | _ => []) := by kernel_rfl
  rw [hf, Try.underlying95]
  simp [Op.eqFields, go_sem]
  by_cases hf : x.f = y.f <;> by_cases ht : x.t = y.t <;> by_cases htime : x.time = y.time <;> by_cases hcost : x.cost = y.cost <;> simp [*]
end Go.Proofs.Ytdpibehpmghghaa
/- The walks of small things that the keeping laws begin with: the graph of a pair, the rest of a division, a hop among others, goes. -/
namespace Go.Proofs.Ytdpibehpmghghaa
open Go.RowKit

def pairG : GraphD := ⟨10, [⟨0, 10⟩, ⟨2, 9⟩], [⟨0, 1, [⟨1, 4, 3, 7⟩]⟩]⟩
def GraphOut (g : GraphD) (w : World) (e : Ending) (w' : World) : Prop := ∃ A c A' c', e = .returned (gV A c A' c' g) ∧ GraphAt w' A c A' c' g ∧ Below w.heap.size w w'
theorem slAt1 {α : Type} {R : World → Nat → Nat → α → Prop} {sz : Nat} {w : World} {b : Nat} {x : α} (hb : b < w.heap.size) (h : R w b 0 x) : SlAt R sz w (some ⟨b, 0, none⟩) [x] :=
  ⟨b, 0, fun i y hy => by
    cases i with
    | zero =>
      obtain rfl : x = y := by simpa using hy
      exact ⟨rfl, hb, by simpa using h⟩
    | succ i => simp at hy⟩
theorem slAt2 {α : Type} {R : World → Nat → Nat → α → Prop} {sz : Nat} {w : World} {b : Nat} {x y : α} (hb : b < w.heap.size) (h : R w b 0 x) (h2 : R w b sz y) : SlAt R sz w (some ⟨b, 0, none⟩) [x, y] :=
  ⟨b, 0, fun i z hz => by
    match i, hz with
    | 0, hz =>
      obtain rfl : x = z := by simpa using hz
      exact ⟨rfl, hb, by simpa using h⟩
    | 1, hz =>
      obtain rfl : y = z := by simpa using hz
      exact ⟨rfl, hb, by simpa using h2⟩
    | i + 2, hz => simp at hz⟩

set_option maxHeartbeats 1000000 in
theorem pair_any (w : World) : Calls Try.prog 46 #[] w (GraphOut pairG w) := by
  go_enter Try.func46, Try.ntmps46
  go_wp2
  refine bodyPost_ret (v := gV (some ⟨w.heap.size + 1, 0, none⟩) 2 (some ⟨w.heap.size + 3, 0, none⟩) 1 pairG) (by simp [results, Try.results46, go_sem, pairG]) rfl ?_
  refine ⟨some ⟨w.heap.size + 1, 0, none⟩, 2, some ⟨w.heap.size + 3, 0, none⟩, 1, rfl, ⟨by simp [I64, pairG], by simp [pairG], by simp [maxLen], by simp [pairG], by simp [maxLen], ?_, ?_⟩, by go_grown⟩
  · refine slAt2 (by simp) ?_ ?_ <;> simp [RIvl, cellIs, I64, go_sem]
  · refine slAt1 (by simp) ⟨⟨by simp [cellIs, go_sem], by simp [cellIs, go_sem], some ⟨w.heap.size + 2, 0, none⟩, 1, by simp [cellIs, go_sem], by simp, by simp [maxLen], slAt1 (by simp) (by simp [RLeg, cellIs, I64, go_sem])⟩, by simp [I64], by simp [I64]⟩

end Go.Proofs.Ytdpibehpmghghaa
/- The walk of spoil at pieces: the list's own block alone is written. -/
namespace Go.Proofs.Ytdpibehpmghghaa
open Go.RowKit

/-! ### spoil, piece -/
set_option maxRecDepth 100000 in
set_option maxHeartbeats 4000000 in
theorem spoil_one (A : Option Addr) (c n base : Nat) (l : List PieceD) (f : PieceD) (w : World) (hO : Own pieceC 3 w base 25 (.slice A n c) l) (hbase : base ≤ w.heap.size) :
    Calls Try.prog 19 #[.slice A n c, pieceV f] w fun e w' => e = .returned (.tuple #[]) ∧ Below base w w' ∧ ∀ b t cs, Blk w b t cs → some b ≠ (Value.slice A n c).ownBlock → Blk w' b t cs := by
  obtain ⟨Ao, co, hv⟩ := hO.form
  obtain ⟨rfl, rfl, rfl⟩ : A = Ao ∧ n = l.length ∧ c = co := by simpa using hv
  clear hv
  have hb0 := (Below.refl base w).alloc hbase (Obj.cells #[.int .i64 f.f, .int .i64 f.t, .int .i64 f.v] 25)
  have Bf := Blk.new w 25 #[.int .i64 f.f, .int .i64 f.t, .int .i64 f.v]
  rcases hO.2 with ⟨h1, h2⟩ | ⟨g, cap, cur, hv, hg, hh, hnc, hcm, hcs, _⟩
  · obtain ⟨rfl, h3, rfl⟩ : A = none ∧ l.length = 0 ∧ c = 0 := by simpa using h1
    rw [h3]
    clear hO h1 h2 h3
    go_enter Try.func19, Try.ntmps19
    go_wp2_with fail
    obtain ⟨w2, hw2⟩ : ∃ x, x = w.alloc (Obj.cells #[.int .i64 f.f, .int .i64 f.t, .int .i64 f.v] 25) := ⟨_, rfl⟩
    have HK0 : Hid (∀ b t cs, Blk w b t cs → some b ≠ (Value.slice none 0 0).ownBlock → Blk w2 b t cs) := Lib.hid fun b t cs hB _ => by rw [hw2]; exact hB.alloc _
    rw [← hw2] at hb0 ⊢
    clear hw2 Bf
    go_loopw [11] (fun v wr => v = .int .i64 0 ∧ wr = w2) (fun v _ => 0)
    case atStart => exact ⟨rfl, rfl⟩
    case round =>
      obtain ⟨rfl, rfl⟩ := hrel
      go_wp2_with fail
      refine ⟨rfl, .tuple #[], by simp [results, Try.results19], ?_⟩
      exact ⟨rfl, hb0, HK0.out⟩
  · obtain ⟨rfl, _, rfl⟩ : A = some ⟨g, 0, none⟩ ∧ True ∧ c = cap := by simpa using hv
    have hB : Blk w g 25 cur := hh
    have hgl := hB.lt
    have hnc' : l.length ≤ c := hnc
    have hcm' : c ≤ 9223372036854775807 := hcm
    have hcs' : cur.size = c * 3 := hcs
    have hcc : c ≤ c := Nat.le_refl _
    have hB := hB.alloc (Obj.cells #[.int .i64 f.f, .int .i64 f.t, .int .i64 f.v] 25)
    clear hO hv hnc hcm hcs hh
    go_enter Try.func19, Try.ntmps19
    go_wp2_with fail
    obtain ⟨w2, hw2⟩ : ∃ x, x = w.alloc (Obj.cells #[.int .i64 f.f, .int .i64 f.t, .int .i64 f.v] 25) := ⟨_, rfl⟩
    have hsz2 : w2.heap.size = w.heap.size + 1 := by rw [hw2]; simp
    have HK0 : Hid (∀ b t cs, Blk w b t cs → b ≠ g → Blk w2 b t cs) := Lib.hid fun b t cs hB _ => by rw [hw2]; exact hB.alloc _
    rw [← hw2] at hb0 hB Bf ⊢
    clear hw2
    go_loopw [11] (fun v wr => ∃ (j : Nat) (cs : Array Value), j ≤ c ∧ v = .int .i64 j ∧ Hid (cs.size = c * 3) ∧ Blk wr g 25 cs ∧ Blk wr w.heap.size 25 #[.int .i64 f.f, .int .i64 f.t, .int .i64 f.v] ∧ Below base w wr ∧ Hid (∀ b t cs, Blk w b t cs → b ≠ g → Blk wr b t cs)) (fun v _ => c - (intOf v).toNat)
    case atStart => exact ⟨0, cur, Nat.zero_le _, rfl, Lib.hid hcs', hB, Bf, hb0, HK0⟩
    case round =>
      obtain ⟨j, cs, hj, rfl, HC, hBr, hFr, hbr, HK⟩ := hrel
      by_cases hlt : j < c
      case neg =>
        obtain rfl : j = c := by omega
        go_wp2_with fail
        refine ⟨rfl, .tuple #[], by simp [results, Try.results19], ?_⟩
        exact ⟨rfl, hbr, fun b t cs hB hne => HK.out b t cs hB (fun e => hne (by rw [e]; rfl))⟩
      case pos =>
        have hjc : (j + 1) * 3 ≤ cs.size := by rw [HC.out]; exact Nat.mul_le_mul_right _ hlt
        obtain ⟨c1, c2, c3⟩ := hFr.facts
        obtain ⟨d1, d2, d3⟩ := hBr.facts
        obtain ⟨z0, hz0⟩ : ∃ z, cs[j * 3]? = some z := ⟨_, Array.getElem?_eq_getElem (by omega)⟩
        have g0 : wr.cell? ⟨g, j * 3, none⟩ = some z0 := (hBr.cell _).trans hz0
        obtain ⟨z1, hz1⟩ : ∃ z, cs[j * 3 + 1]? = some z := ⟨_, Array.getElem?_eq_getElem (by omega)⟩
        have g1 : wr.cell? ⟨g, j * 3 + 1, none⟩ = some z1 := (hBr.cell _).trans hz1
        obtain ⟨z2, hz2⟩ : ∃ z, cs[j * 3 + 2]? = some z := ⟨_, Array.getElem?_eq_getElem (by omega)⟩
        have g2 : wr.cell? ⟨g, j * 3 + 2, none⟩ = some z2 := (hBr.cell _).trans hz2
        have hne : w.heap.size ≠ g := by omega
        clear d1 hz0 hz1 hz2
        go_wp2_with fail
        go_roundw
        case rel => exact ⟨j + 1, _, by omega, by go_num, Lib.hid (by simp; exact HC.out), (((hBr).set_ (j * 3) _).set_ (j * 3 + 1) _).set_ (j * 3 + 2) _, (((hFr).far hne _).far hne _).far hne _, (((hbr).setCell hg _).setCell hg _).setCell hg _, Lib.hid fun b t cs hB hbg => (((HK.out b t cs hB hbg).far hbg _).far hbg _).far hbg _⟩
        case measure => simp [intOf]; omega

end Go.Proofs.Ytdpibehpmghghaa
