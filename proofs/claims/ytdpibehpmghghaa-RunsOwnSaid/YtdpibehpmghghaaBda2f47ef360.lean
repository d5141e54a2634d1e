/- Several texts in one: ListMem, OpenB, IvlCheck, IvlHas. -/
import Derived.Lib.SmallJoins
import Derived.Deep.Slices
import Derived.Deep.Fields
import Derived.Shelf.Abstract
import Derived.Shelf.GgClosure.Gives
import Derived.Test.YtdpibehpmghghaaBdd408b50993
import Derived.Test.YtdpibehpmghghaaBddaaa0efefd
import Derived.Test.YtdpibehpmghghaaBd51ecdcb288
import Derived.Test.YtdpibehpmghghaaBd8d00ac2edb
import Derived.Test.YtdpibehpmghghaaBdc7e691d77d
/- Lists of intervals and of pieces as memory holds them. -/
namespace Go.Proofs.Ytdpibehpmghghaa
open Go.RowKit

def RPiece (w : World) (b o : Nat) (x : PieceD) : Prop := (cellIs w b o (.int .i64 x.f) ∧ cellIs w b (o + 1) (.int .i64 x.t) ∧ cellIs w b (o + 2) (.int .i64 x.v)) ∧ I64 x.f ∧ I64 x.t ∧ I64 x.v
theorem RPiece.stable : Stable RPiece := fun _ _ _ _ _ hb hlt h => ⟨⟨h.1.1.ext hb hlt, h.1.2.1.ext hb hlt, h.1.2.2.ext hb hlt⟩, h.2⟩
structure IvlsAt (w : World) (A : Option Addr) (c : Nat) (l : List IvlD) : Prop where
  lc : l.length ≤ c
  cm : c ≤ maxLen
  sl : SlAt RIvl 2 w A l
structure PiecesAt (w : World) (A : Option Addr) (c : Nat) (l : List PieceD) : Prop where
  lc : l.length ≤ c
  cm : c ≤ maxLen
  sl : SlAt RPiece 3 w A l
section
variable {w w' : World} {A : Option Addr} {c n k : Nat} {l : List IvlD} {m : List PieceD} {base : Nat} {v : Value}
theorem IvlsAt.ext (h : IvlsAt w A c l) (hb : Below w.heap.size w w') : IvlsAt w' A c l := ⟨h.lc, h.cm, h.sl.ext RIvl.stable hb⟩
theorem PiecesAt.ext (h : PiecesAt w A c m) (hb : Below w.heap.size w w') : PiecesAt w' A c m := ⟨h.lc, h.cm, h.sl.ext RPiece.stable hb⟩
theorem IvlsAt.drewN (h : IvlsAt w A c l) (n : Nat) : IvlsAt (w.drewN n) A c l := ⟨h.lc, h.cm, h.sl⟩
theorem PiecesAt.drewN (h : PiecesAt w A c m) (n : Nat) : PiecesAt (w.drewN n) A c m := ⟨h.lc, h.cm, h.sl⟩
theorem IvlsAt.nil : IvlsAt w none 0 [] := ⟨Nat.le_refl _, Nat.zero_le _, SlAt.nil⟩
theorem PiecesAt.nil : PiecesAt w none 0 [] := ⟨Nat.le_refl _, Nat.zero_le _, SlAt.nil⟩
theorem IvlsAt.len (h : IvlsAt w A c l) : l.length ≤ 9223372036854775807 := Nat.le_trans h.lc h.cm
theorem PiecesAt.len (h : PiecesAt w A c m) : m.length ≤ 9223372036854775807 := Nat.le_trans h.lc h.cm
/-- One interval, as the walk reads it. -/
theorem IvlsAt.get (h : IvlsAt w A c l) {x : IvlD} (hx : l[k]? = some x) : ∃ b off, A = some ⟨b, off, none⟩ ∧ b < w.heap.size ∧ w.cell? ⟨b, off + k * 2, none⟩ = some (.int .i64 x.f) ∧ w.cell? ⟨b, off + k * 2 + 1, none⟩ = some (.int .i64 x.t) := by
  obtain ⟨b, off, hS⟩ := h.sl
  obtain ⟨h1, h2, h3, _⟩ := hS k x hx
  exact ⟨b, off, h1, h2, h3.1, h3.2⟩
theorem IvlsAt.i64 (h : IvlsAt w A c l) {x : IvlD} (hx : l[k]? = some x) : I64 x.f ∧ I64 x.t := by
  obtain ⟨b, off, hS⟩ := h.sl
  exact (hS k x hx).2.2.2
theorem PiecesAt.get (h : PiecesAt w A c m) {x : PieceD} (hx : m[k]? = some x) : ∃ b off, A = some ⟨b, off, none⟩ ∧ b < w.heap.size ∧ w.cell? ⟨b, off + k * 3, none⟩ = some (.int .i64 x.f) ∧ w.cell? ⟨b, off + k * 3 + 1, none⟩ = some (.int .i64 x.t) ∧ w.cell? ⟨b, off + k * 3 + 2, none⟩ = some (.int .i64 x.v) := by
  obtain ⟨b, off, hS⟩ := h.sl
  obtain ⟨h1, h2, h3, _⟩ := hS k x hx
  exact ⟨b, off, h1, h2, h3.1, h3.2.1, h3.2.2⟩
theorem PiecesAt.i64 (h : PiecesAt w A c m) {x : PieceD} (hx : m[k]? = some x) : I64 x.f ∧ I64 x.t ∧ I64 x.v := by
  obtain ⟨b, off, hS⟩ := h.sl
  exact (hS k x hx).2.2.2
def pieceC (x : PieceD) : List Value := [.int .i64 x.f, .int .i64 x.t, .int .i64 x.v]
/-- The same, in blocks that are new from a base on and that nothing else holds. -/
structure IvlsNew (base : Nat) (w : World) (A : Option Addr) (c : Nat) (l : List IvlD) : Prop extends IvlsAt w A c l where
  own : Own ivlC 2 w base 29 (.slice A l.length c) l
structure PiecesNew (base : Nat) (w : World) (A : Option Addr) (c : Nat) (l : List PieceD) : Prop extends PiecesAt w A c l where
  own : Own pieceC 3 w base 25 (.slice A l.length c) l
instance {base : Nat} {w : World} {A : Option Addr} {c : Nat} {l : List IvlD} : CoeOut (IvlsNew base w A c l) (IvlsAt w A c l) := ⟨fun h => h.toIvlsAt⟩
instance {base : Nat} {w : World} {A : Option Addr} {c : Nat} {l : List PieceD} : CoeOut (PiecesNew base w A c l) (PiecesAt w A c l) := ⟨fun h => h.toPiecesAt⟩
theorem IvlsNew.ext (h : IvlsNew base w A c l) (hb : Below w.heap.size w w') : IvlsNew base w' A c l := ⟨h.toIvlsAt.ext hb, h.own.ext hb⟩
theorem PiecesNew.ext (h : PiecesNew base w A c m) (hb : Below w.heap.size w w') : PiecesNew base w' A c m := ⟨h.toPiecesAt.ext hb, h.own.ext hb⟩
theorem IvlsNew.nil : IvlsNew base w none 0 [] := ⟨IvlsAt.nil, Own.nil⟩
theorem PiecesNew.nil : PiecesNew base w none 0 [] := ⟨PiecesAt.nil, Own.nil⟩
theorem Own.since {α : Type} {enc : α → List Value} {sz b0 : Nat} {e : TypeId} {l : List α} (h : Own enc sz w base e v l) (hb : b0 ≤ base) : Own enc sz w b0 e v l := by
  refine ⟨h.1, ?_⟩
  rcases h.2 with h2 | ⟨g, cap, cur, hv, hg, hh⟩
  · exact .inl h2
  · exact .inr ⟨g, cap, cur, hv, by omega, hh⟩
theorem IvlsNew.since {b0 : Nat} (h : IvlsNew base w A c l) (hb : b0 ≤ base) : IvlsNew b0 w A c l := ⟨h.toIvlsAt, h.own.since hb⟩
theorem PiecesNew.since {b0 : Nat} (h : PiecesNew base w A c m) (hb : b0 ≤ base) : PiecesNew b0 w A c m := ⟨h.toPiecesAt, h.own.since hb⟩
theorem own_pieces {l : List PieceD} (h : Own pieceC 3 w base 25 v l) (hi : ∀ x, x ∈ l → I64 x.f ∧ I64 x.t ∧ I64 x.v) : ∃ A c, v = .slice A l.length c ∧ PiecesNew base w A c l := by
  obtain ⟨A, c, hv, hS⟩ := Own.slAt (R := RPiece) (enc := pieceC) (fun _ => rfl) (fun x hx b o hc => ⟨⟨by have := hc 0 _ rfl; simpa using this, by have := hc 1 _ rfl; simpa using this, by have := hc 2 _ rfl; simpa using this⟩, hi x hx⟩) h
  subst hv
  exact ⟨A, c, rfl, ⟨h.room.1, h.room.2, hS⟩, h⟩
theorem own_ivls {l : List IvlD} (h : Own ivlC 2 w base 29 v l) (hi : ∀ x, x ∈ l → I64 x.f ∧ I64 x.t) : ∃ A c, v = .slice A l.length c ∧ IvlsNew base w A c l := by
  obtain ⟨A, c, hv, hS⟩ := own_lives h hi
  subst hv
  exact ⟨A, c, rfl, ⟨h.room.1, h.room.2, hS⟩, h⟩
theorem near_i64 {n : Int} (h : nearB n = true) : I64 n := by
  have := near_iff.1 h
  exact ⟨by omega, by omega⟩
end
theorem info_piece : (Try.prog.info? 25).map (fun i => (i.zero, i.size, i.bytes)) = some (some (.agg #[.int .i64 0, .int .i64 0, .int .i64 0]), 3, 24) := by kernel_rfl
theorem info_piece2 : ∃ i, Try.prog.info? 25 = some i ∧ i.zero = some (.agg #[.int .i64 0, .int .i64 0, .int .i64 0]) ∧ i.size = 3 ∧ i.bytes = 24 := by
  obtain ⟨i0, hi, hzz⟩ := Option.map_eq_some_iff.1 info_piece
  simp only [Prod.mk.injEq] at hzz
  exact ⟨i0, hi, hzz.1, hzz.2.1, hzz.2.2⟩
theorem three_ints {a b c : Int} : ∀ u ∈ (#[.int .i64 a, .int .i64 b, .int .i64 c] : Array Value).toList, u.oneCell' = true := by simp [Value.oneCell']
abbrev ivlV (x : IvlD) : Value := .agg #[.int .i64 x.f, .int .i64 x.t]
abbrev pieceV (x : PieceD) : Value := .agg #[.int .i64 x.f, .int .i64 x.t, .int .i64 x.v]
/-- A set and an error are told. -/
def SetOutB (b0 : Nat) (R : Int → List IvlD → Prop) (w : World) (e : Ending) (w' : World) : Prop := ∃ er out A c, Hid (R er out) ∧ e = .returned (.tuple #[.slice A out.length c, .int .i64 er]) ∧ IvlsNew b0 w' A c out ∧ Below w.heap.size w w'
def SetOut (R : Int → List IvlD → Prop) (w : World) (e : Ending) (w' : World) : Prop := ∃ er out A c, Hid (R er out) ∧ e = .returned (.tuple #[.slice A out.length c, .int .i64 er]) ∧ IvlsNew w.heap.size w' A c out ∧ Below w.heap.size w w'
def MapOut (R : Int → List PieceD → Prop) (w : World) (e : Ending) (w' : World) : Prop := ∃ er out A c, Hid (R er out) ∧ e = .returned (.tuple #[.slice A out.length c, .int .i64 er]) ∧ PiecesNew w.heap.size w' A c out ∧ Below w.heap.size w w'
end Go.Proofs.Ytdpibehpmghghaa
/- From the arguments as the row reads them to plain data: lists of intervals and of pieces. -/
namespace Go.Proofs.Ytdpibehpmghghaa
open Go.ChangeShapes Go.WideShapes Go.RowKit Go.Deep Go.Joins

section
variable {H : Type} {enc : TypeId × Value → H} {W : World} {spare : Nat → Bool} {held : Bool}

/-- A slice of whatever elements. -/
theorem el_piece : ∀ (n : Nat) (cs : List Value) (x : DataW H × List MemPlace) (b o : Nat), cs.length = 3 → (∀ j, j < 3 → W.cell? ⟨b, o + j, none⟩ = cs[j]?) →
    DataW.trod enc Try.prog W 0 spare held n 25 cs = some x → ∃ y : PieceD, RPiece W b o y := by
  intro n cs x b o hl hc h
  obtain ⟨p, hp, wp⟩ := field_int Try.underlying25 (by kernel_rfl) h (by simpa using hl) 0 rfl Try.underlying3
  obtain ⟨q, hq, wq⟩ := field_int Try.underlying25 (by kernel_rfl) h (by simpa using hl) 1 rfl Try.underlying3
  obtain ⟨r, hr, wr⟩ := field_int Try.underlying25 (by kernel_rfl) h (by simpa using hl) 2 rfl Try.underlying3
  exact ⟨⟨p, q, r⟩, ⟨at0 hc 0 (by omega) hp, at0 hc 1 (by omega) hq, at0 hc 2 (by omega) hr⟩, wp, wq, wr⟩
instance : Inhabited PieceD := ⟨⟨0, 0, 0⟩⟩
set_option maxRecDepth 100000 in
theorem ivls_open {v : Value} {d : DataW H} {p : List MemPlace} {r : Reach} {b0 : Nat} (hv : Value.okWide Try.prog W r b0 22 v) (h : DataW.Trod enc Try.prog W 0 spare held 22 v d p) :
    ∃ A c l, v = .slice A l.length c ∧ IvlsAt W A c l := by
  obtain ⟨a0, len, cap, rfl⟩ := okWide_slice Try.underlying22 hv
  obtain ⟨fuel, hf⟩ := h
  obtain ⟨A, c, l, hA, h1, h2, h3⟩ := sl_open (R := RIvl) Try.underlying22 (by kernel_rfl) (by omega) el_ivl hf
  simp [Value.cells] at hA
  obtain ⟨rfl, rfl, rfl⟩ := hA
  exact ⟨_, _, l, rfl, h1, h2, h3⟩
set_option maxRecDepth 100000 in
theorem pieces_open {v : Value} {d : DataW H} {p : List MemPlace} {r : Reach} {b0 : Nat} (hv : Value.okWide Try.prog W r b0 23 v) (h : DataW.Trod enc Try.prog W 0 spare held 23 v d p) :
    ∃ A c l, v = .slice A l.length c ∧ PiecesAt W A c l := by
  obtain ⟨a0, len, cap, rfl⟩ := okWide_slice Try.underlying23 hv
  obtain ⟨fuel, hf⟩ := h
  obtain ⟨A, c, l, hA, h1, h2, h3⟩ := sl_open (R := RPiece) Try.underlying23 (by kernel_rfl) (by omega) el_piece hf
  simp [Value.cells] at hA
  obtain ⟨rfl, rfl, rfl⟩ := hA
  exact ⟨_, _, l, rfl, h1, h2, h3⟩
set_option maxRecDepth 100000 in
theorem piece_open {v : Value} {d : DataW H} {p : List MemPlace} {r : Reach} {b0 : Nat} (hv : Value.okWide Try.prog W r b0 25 v) (h : DataW.Trod enc Try.prog W 0 spare held 25 v d p) :
    ∃ x, v = pieceV x ∧ I64 x.f ∧ I64 x.t ∧ I64 x.v := by
  obtain ⟨v0, v1, v2, y0, y1, y2, n, rfl, _, _, h0, h1, h2⟩ := open_agg3 Try.underlying25 (by kernel_rfl) (by kernel_rfl) hv h
  obtain ⟨a, ha, _, wa⟩ := DataW.trod_int Try.underlying3 h0
  obtain ⟨b, hb, _, wb⟩ := DataW.trod_int Try.underlying3 h1
  obtain ⟨c, hc, _, wc⟩ := DataW.trod_int Try.underlying3 h2
  simp at ha hb hc
  subst ha hb hc
  exact ⟨⟨a, b, c⟩, rfl, i64_of_wf wa, i64_of_wf wb, i64_of_wf wc⟩
end
end Go.Proofs.Ytdpibehpmghghaa
/- The walks of the check of a set of times, the program's and the document's. -/
namespace Go.Proofs.Ytdpibehpmghghaa
open Go.RowKit

def farB (n : Int) : Bool := !nearB n
theorem far_off {n : Int} (h : farB n = false) : nearB n = true := by simpa [farB] using h
theorem far_on {n : Int} (h : farB n = true) : nearB n = false := by simpa [farB] using h
theorem farB_true {n : Int} (h : n < -1000000000 ∨ 1000000000 < n) : farB n = true := by simp [farB, nearB, inB]; omega
theorem farB_false {n : Int} (h1 : ¬ n < -1000000000) (h2 : ¬ 1000000000 < n) : farB n = false := by simp [farB, nearB, inB]; omega
theorem far_is {n : Int} {b : Bool} (h : farB n = b) (w : World) : Calls Try.prog 36 #[.int .i64 n] w fun e w' => e = .returned (.bool b) ∧ w = w' := by
  go_enter Try.func36, Try.ntmps36
  go_wp2
  all_goals go_ret
  all_goals exact ⟨ret_bool (by rw [← h, Bool.eq_iff_iff]; simp [farB, nearB, inB]; try omega), rfl⟩
theorem far_q {n : Int} {b : Bool} (h : farB n = b) (W : World) (k : Nat) : Calls Try.prog 36 #[.int .i64 n] (W.drewN k) fun e w' => e = .returned (.bool b) ∧ ∃ m, w' = W.drewN m := (far_is h _).mono fun _ _ ⟨h1, h2⟩ => ⟨h1, k, h2.symm⟩
theorem setErr_bad' {l : List IvlD} (h : l.length ≤ 200) (h2 : ¬ SetOk l) : setErr l = 5 := setErr_bad (by omega) h2
theorem bad_f {l : List IvlD} {k : Nat} {x : IvlD} (hx : l[k]? = some x) (h : farB x.f = true) : ¬ SetOk l := fun hs => by have := (hs.at_ hx).1; rw [far_on h] at this; simp at this
theorem bad_t {l : List IvlD} {k : Nat} {x : IvlD} (hx : l[k]? = some x) (h : farB x.t = true) : ¬ SetOk l := fun hs => by have := (hs.at_ hx).2.1; rw [far_on h] at this; simp at this
theorem bad_e {l : List IvlD} {k : Nat} {x : IvlD} (hx : l[k]? = some x) (h : x.t ≤ x.f) : ¬ SetOk l := fun hs => by have := (hs.at_ hx).2.2; omega
theorem bad_g {l : List IvlD} {k : Nat} {x z : IvlD} (hz : l[k]? = some z) (hx : l[k + 1]? = some x) (h : x.f ≤ z.t) : ¬ SetOk l := fun hs => by have := hs.gap hz hx; omega

set_option maxHeartbeats 2000000 in
theorem ivlCheck_any (A : Option Addr) (c : Nat) (l : List IvlD) (w : World) (hI : IvlsAt w A c l) :
    Calls Try.prog 53 #[.slice A l.length c] w fun e w' => e = .returned (.int .i64 (setErr l)) ∧ Below w.heap.size w w' := by
  have m1 := hI.len
  by_cases hl : l.length ≤ 200
  case neg =>
    have hd : decide ((l.length : Int) > 200) = true := by simp; omega
    go_enter Try.func53, Try.ntmps53
    go_wp2_with fail
    go_ret
    exact ⟨ret_int (setErr_large (by omega)).symm, by go_grown⟩
  have hd : decide ((l.length : Int) > 200) = false := by simp; omega
  have HI := Lib.hid hI
  clear hI
  go_enter Try.func53, Try.ntmps53
  go_wp2_with fail
  clear hd
  go_loopw [10] (fun v wr => ∃ k : Nat, k ≤ l.length ∧ v = .int .i64 k ∧ Hid (SetOk (l.take k)) ∧ Below w.heap.size w wr) (fun v _ => l.length - (intOf v).toNat)
  case atStart => exact ⟨0, Nat.zero_le _, rfl, Lib.hid (by simpa using SetOk.nil), Below.refl _ _⟩
  case round =>
    obtain ⟨k, hk, rfl, HS, hb⟩ := hrel
    by_cases hlt : k < l.length
    case neg =>
      obtain rfl : k = l.length := by omega
      go_wp2_with fail
      go_ret
      exact ⟨ret_int (setErr_ok (by omega) (by have := HS.out; rwa [List.take_length] at this)).symm, hb⟩
    case pos =>
      obtain ⟨x, hx⟩ := get_lt hlt
      obtain ⟨b, off, rfl, hb0, x0, x1⟩ := HI.out.get hx
      rw [← hb.cell (by exact hb0)] at x0 x1
      have HX := Lib.hid hx
      clear hx
      cases f1 : farB x.f
      case true =>
        go_wp2_with fail
        go_quiet (first | (go_at_call 36; exact far_q (by assumption) _ _))
        go_wp2
        go_ret
        exact ⟨ret_int (setErr_bad' hl (bad_f HX.out f1)).symm, below_drewN (ext_alloc hb _) _⟩
      cases f2 : farB x.t
      case true =>
        go_wp2_with fail
        go_quiet (first | (go_at_call 36; exact far_q (by assumption) _ _))
        go_wp2
        go_ret
        exact ⟨ret_int (setErr_bad' hl (bad_t HX.out f2)).symm, below_drewN (ext_alloc hb _) _⟩
      by_cases f3 : x.t ≤ x.f
      case pos =>
        have g3 : decide (x.t ≤ x.f) = true := by simpa using f3
        go_wp2_with fail
        go_quiet (first | (go_at_call 36; exact far_q (by assumption) _ _))
        go_wp2
        go_ret
        exact ⟨ret_int (setErr_bad' hl (bad_e HX.out f3)).symm, below_drewN (ext_alloc hb _) _⟩
      have g3 : decide (x.t ≤ x.f) = false := by simpa using f3
      have F3 := Lib.hid f3
      clear f3
      by_cases hk0 : k ≤ 0
      case pos =>
        have g4 : decide (0 < k) = false := by simp; omega
        go_wp2_with fail
        go_quiet (first | (go_at_call 36; exact far_q (by assumption) _ _))
        go_wp2
        go_roundw
        case rel =>
          obtain rfl : k = 0 := by omega
          exact ⟨1, by omega, by go_num, Lib.hid (SetOk.first HX.out (far_off f1) (far_off f2) (by have := F3.out; omega)), below_drewN (ext_alloc hb _) _⟩
        case measure => simp [intOf]; omega
      case neg =>
        obtain ⟨j, rfl⟩ : ∃ j, k = j + 1 := ⟨k - 1, by omega⟩
        obtain ⟨z, hz⟩ := get_lt (show j < l.length by omega)
        obtain ⟨b', off', e', _, z0, z1⟩ := HI.out.get hz
        obtain ⟨rfl, rfl⟩ : b = b' ∧ off = off' := by simpa using e'
        rw [← hb.cell (by exact hb0)] at z0 z1
        have HZ := Lib.hid hz
        clear hz e'
        have g4 : (0 : Int) < (j : Int) + 1 := by omega
        have hj1 : (j : Int) ≤ 200 := by omega
        have hjw : IntKind.i64.wrap (j : Int) = j := IntWalk.i64_in _ (by omega)
        have hjl : j < l.length := by omega
        have z1 : (wr.alloc (Obj.cells #[Value.int IntKind.i64 x.f, Value.int IntKind.i64 x.t] 29)).cell? ⟨b, off + j * 2 + 1, none⟩ = some (.int .i64 z.t) := cell_keep (ext_alloc (Below.refl _ _) _) z1
        by_cases f4 : x.f ≤ z.t
        case pos =>
          have g5 : decide (x.f ≤ z.t) = true := by simpa using f4
          go_wp2_with fail
          go_quiet (first | (go_at_call 36; exact far_q (by assumption) _ _))
          go_wp2
          go_ret
          exact ⟨ret_int (setErr_bad' hl (bad_g HZ.out HX.out f4)).symm, below_drewN (ext_alloc hb _) _⟩
        case neg =>
          have g5 : decide (x.f ≤ z.t) = false := by simpa using f4
          go_wp2_with fail
          go_quiet (first | (go_at_call 36; exact far_q (by assumption) _ _))
          go_wp2
          go_roundw
          case rel => exact ⟨j + 1 + 1, by omega, by go_num, Lib.hid (HS.out.next HZ.out HX.out (far_off f1) (far_off f2) (by have := F3.out; omega) (by omega)), below_drewN (ext_alloc hb _) _⟩
          case measure => simp [intOf]; omega

end Go.Proofs.Ytdpibehpmghghaa
/- The walks of what holds of one of some intervals; of the time that is in them. -/
namespace Go.Proofs.Ytdpibehpmghghaa
open Go.RowKit Go.Shelf

/-- What is asked of a predicate: in every world in which all that lay in w lies there still, it answers p and leaves such a world. -/
def PredB (fn : Nat) (lb : Array Value) (p : IvlD → Bool) (w : World) : Prop :=
  ∀ (W : World) (x : IvlD), Below w.heap.size w W → Calls Try.prog fn (#[ivlV x] ++ lb) W fun e w' => e = .returned (.bool (p x)) ∧ Below W.heap.size W w'
/-- The first one, or none. -/
def FirstIs (p : IvlD → Bool) (l : List IvlD) (r : Int) : Prop :=
  (r = -1 ∧ ∀ x, x ∈ l → p x = false) ∨ ∃ (k : Nat) (x : IvlD), r = k ∧ l[k]? = some x ∧ p x = true ∧ ∀ y, y ∈ l.take k → p y = false
theorem FirstIs.any {p : IvlD → Bool} {l : List IvlD} {r : Int} (h : FirstIs p l r) : decide (r ≥ 0) = l.any p := by
  rw [Bool.eq_iff_iff, List.any_eq_true, decide_eq_true_iff]
  rcases h with ⟨rfl, h⟩ | ⟨k, x, rfl, hx, hp, _⟩
  · exact ⟨fun h1 => by omega, fun ⟨x, hx, hp⟩ => by rw [h x hx] at hp; simp at hp⟩
  · exact ⟨fun _ => ⟨x, List.mem_of_getElem? hx, hp⟩, fun _ => by omega⟩

set_option maxHeartbeats 1000000 in
theorem indexFunc_any (fn : Nat) (lb : Array Value) (p : IvlD → Bool) (eg : ∀ args w, (callFunc fn args).run Try.prog w = .ok (.enter fn args) w) (A : Option Addr) (c : Nat) (l : List IvlD) (w : World) (hI : IvlsAt w A c l) (hp : PredB fn lb p w) :
    Calls Try.prog 58 #[.slice A l.length c, .func (.func fn) #[] lb] w fun e w' => (∃ r, e = .returned (.int .i64 r) ∧ FirstIs p l r) ∧ Below w.heap.size w w' := by
  have m1 := hI.len
  have HI := Lib.hid hI
  have HP := Lib.hid hp
  clear hI hp
  go_enter Try.func58, Try.ntmps58
  go_wp2_with fail
  go_loopw [5, 8] (fun _ v wr => ∃ k : Nat, k ≤ l.length ∧ v = .int .i64 k ∧ Hid (∀ y, y ∈ l.take k → p y = false) ∧ Below w.heap.size w wr) (fun _ v _ => l.length - (intOf v).toNat)
  case atStart => exact ⟨0, Nat.zero_le _, rfl, Lib.hid (by simp), Below.refl _ _⟩
  case round =>
    obtain ⟨k, hk, rfl, HN, hb⟩ := hrel
    by_cases hlt : k < l.length
    case neg =>
      obtain rfl : k = l.length := by omega
      go_wp2_with fail
      go_ret
      exact ⟨⟨-1, rfl, .inl ⟨rfl, by have := HN.out; rwa [List.take_length] at this⟩⟩, hb⟩
    case pos =>
      obtain ⟨x, hx⟩ := get_lt hlt
      obtain ⟨b, off, rfl, hb0, x0, x1⟩ := HI.out.get hx
      rw [← hb.cell (by exact hb0)] at x0 x1
      have HX := Lib.hid hx
      have hc := HP.out wr x hb
      clear hx
      cases hq : p x
      case true =>
        rw [hq] at hc
        go_wp2_with (go_at_fn fn; refine hc.mono ?_; rintro e w' ⟨rfl, hb'⟩)
        go_ret
        exact ⟨⟨k, rfl, .inr ⟨k, x, rfl, HX.out, hq, HN.out⟩⟩, ext_trans hb hb'⟩
      case false =>
        rw [hq] at hc
        go_wp2_with (go_at_fn fn; refine hc.mono ?_; rintro e w' ⟨rfl, hb'⟩)
        go_roundw
        case rel =>
          refine ⟨k + 1, by omega, by go_num, Lib.hid fun y hy => ?_, ext_trans hb hb'⟩
          rw [take_succ_ HX.out] at hy
          rcases List.mem_append.1 hy with hy | hy
          · exact HN.out y hy
          · obtain rfl : y = x := by simpa using hy
            exact hq
        case measure => simp [intOf]; omega

set_option maxHeartbeats 1000000 in
theorem containsFunc_any (fn : Nat) (lb : Array Value) (p : IvlD → Bool) (eg : ∀ args w, (callFunc fn args).run Try.prog w = .ok (.enter fn args) w) (A : Option Addr) (c : Nat) (l : List IvlD) (w : World) (hI : IvlsAt w A c l) (hp : PredB fn lb p w) :
    Calls Try.prog 34 #[.slice A l.length c, .func (.func fn) #[] lb] w fun e w' => e = .returned (.bool (l.any p)) ∧ Below w.heap.size w w' := by
  have HI := Lib.hid hI
  have HP := Lib.hid hp
  clear hI hp
  go_enter Try.func34, Try.ntmps34
  go_wp2_with (go_at_call 58; refine (indexFunc_any fn lb p eg A c l _ HI.out HP.out).mono ?_; rintro e w' ⟨⟨r, rfl, hr⟩, hb⟩)
  go_ret
  exact ⟨ret_bool hr.any, hb⟩

theorem enters_has : Enters Try.prog 71 := enters_of Try.func71 (by kernel_rfl) rfl
set_option maxHeartbeats 1000000 in
theorem has1_any (t : Int) (b : Nat) (x : IvlD) (W : World) (hc : W.cell? ⟨b, 0, none⟩ = some (.int .i64 t)) : Calls Try.prog 71 #[ivlV x, .pointer (some ⟨b, 0, none⟩)] W fun e w' => e = .returned (.bool (decide (x.f ≤ t ∧ t < x.t))) ∧ Below W.heap.size W w' := by
  have hlt := World.block_lt_of_cell? W _ hc
  have hlt : b < W.heap.size := hlt
  by_cases h1 : x.f ≤ t
  · have d1 : decide (x.f ≤ t) = true := by simpa using h1
    go_enter Try.func71, Try.ntmps71
    go_wp2_with fail
    go_ret
    exact ⟨ret_bool (by first | rfl | simp | (rw [Bool.eq_iff_iff]; simp; omega)), by go_grown⟩
  · have d1 : decide (x.f ≤ t) = false := by simpa using h1
    go_enter Try.func71, Try.ntmps71
    go_wp2_with fail
    go_ret
    exact ⟨ret_bool (by first | rfl | simp | (rw [Bool.eq_iff_iff]; simp; omega)), by go_grown⟩
set_option maxHeartbeats 1000000 in
theorem ivlHas_any (A : Option Addr) (c : Nat) (l : List IvlD) (t : Int) (w : World) (hI : IvlsAt w A c l) :
    Calls Try.prog 61 #[.slice A l.length c, .int .i64 t] w fun e w' => e = .returned (.bool (hasB l t)) ∧ Below w.heap.size w w' := by
  have hmf : ∀ (fn : Fn) (first cap : Array Value) (w : World), (Instr.makeFunc fn first cap).run Try.prog w = .ok (.func fn first cap) w := fun _ _ _ _ => rfl
  have hent := enters_has
  unfold Enters at hent
  have hw0 : (w.alloc (.cells #[.int .i64 t] 3)).cell? ⟨w.heap.size, 0, none⟩ = some (.int .i64 t) := (Blk.new w 3 #[.int .i64 t]).cell 0
  have hP : PredB 71 #[.pointer (some ⟨w.heap.size, 0, none⟩)] (fun x => decide (x.f ≤ t ∧ t < x.t)) (w.alloc (.cells #[.int .i64 t] 3)) := fun W x hb => has1_any t w.heap.size x W (cell_keep hb hw0)
  have hI1 := hI.ext (ext_alloc (Below.refl _ w) (.cells #[.int .i64 t] 3))
  have hC := containsFunc_any 71 _ _ hent A c l _ hI1 hP
  clear hI hI1 hP hw0
  go_enter Try.func61, Try.ntmps61
  go_wp2_with (go_at_call 34; refine hC.mono ?_; rintro e w' ⟨rfl, hb⟩)
  go_ret
  exact ⟨ret_bool (by simp [hasB]), ext_trans (ext_alloc (Below.refl _ w) _) hb⟩

end Go.Proofs.Ytdpibehpmghghaa
