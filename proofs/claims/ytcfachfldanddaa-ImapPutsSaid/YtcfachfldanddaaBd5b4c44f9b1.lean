/- Several texts in one: ListMem, OpenB, IvlCheck, IvlHas. -/
import Derived.Lib.SmallJoins
import Derived.Deep.Slices
import Derived.Deep.Fields
import Derived.Shelf.Abstract
import Derived.Shelf.GgClosure.Gives
import Derived.Test.YtcfachfldanddaaBd13a3900d28
import Derived.Test.YtcfachfldanddaaBdd954ff6be0
import Derived.Test.YtcfachfldanddaaBd15e47e3898
import Derived.Test.YtcfachfldanddaaBd99a0450026
/- Lists of intervals and of pieces as memory holds them. -/
namespace Go.Proofs.Ytcfachfldanddaa
open Go.RowKit

def RPiece (w : World) (b o : Nat) (x : PieceD) : Prop := (cellIs w b o (.int .i64 x.f) ∧ cellIs w b (o + 1) (.int .i64 x.t) ∧ cellIs w b (o + 2) (.int .i64 x.v)) ∧ I64 x.f ∧ I64 x.t ∧ I64 x.v
theorem RPiece.stable : Stable RPiece := fun _ _ _ _ _ hb hlt h => ⟨⟨h.1.1.ext hb hlt, h.1.2.1.ext hb hlt, h.1.2.2.ext hb hlt⟩, h.2⟩
structure IvlsAt (w : World) (A : Option Addr) (c : Nat) (l : List IvlD) : Prop where
  lc : l.length ≤ c
  cm : c ≤ maxLen
  sl : SlAt RIvl 2 w A l
structure PiecesAt (w : World) (A : Option Addr) (c : Nat) (l : List PieceD) : Prop where
  lc : l.length ≤ c
  cm : c ≤ maxLen
  sl : SlAt RPiece 3 w A l
section
variable {w w' : World} {A : Option Addr} {c n k : Nat} {l : List IvlD} {m : List PieceD} {base : Nat} {v : Value}
theorem IvlsAt.ext (h : IvlsAt w A c l) (hb : Below w.heap.size w w') : IvlsAt w' A c l := ⟨h.lc, h.cm, h.sl.ext RIvl.stable hb⟩
theorem PiecesAt.ext (h : PiecesAt w A c m) (hb : Below w.heap.size w w') : PiecesAt w' A c m := ⟨h.lc, h.cm, h.sl.ext RPiece.stable hb⟩
theorem IvlsAt.drewN (h : IvlsAt w A c l) (n : Nat) : IvlsAt (w.drewN n) A c l := ⟨h.lc, h.cm, h.sl⟩
theorem PiecesAt.drewN (h : PiecesAt w A c m) (n : Nat) : PiecesAt (w.drewN n) A c m := ⟨h.lc, h.cm, h.sl⟩
theorem IvlsAt.nil : IvlsAt w none 0 [] := ⟨Nat.le_refl _, Nat.zero_le _, SlAt.nil⟩
theorem PiecesAt.nil : PiecesAt w none 0 [] := ⟨Nat.le_refl _, Nat.zero_le _, SlAt.nil⟩
theorem IvlsAt.len (h : IvlsAt w A c l) : l.length ≤ 9223372036854775807 := Nat.le_trans h.lc h.cm
theorem PiecesAt.len (h : PiecesAt w A c m) : m.length ≤ 9223372036854775807 := Nat.le_trans h.lc h.cm
/-- One interval, as the walk reads it. -/
theorem IvlsAt.get (h : IvlsAt w A c l) {x : IvlD} (hx : l[k]? = some x) : ∃ b off, A = some ⟨b, off, none⟩ ∧ b < w.heap.size ∧ w.cell? ⟨b, off + k * 2, none⟩ = some (.int .i64 x.f) ∧ w.cell? ⟨b, off + k * 2 + 1, none⟩ = some (.int .i64 x.t) := by
  obtain ⟨b, off, hS⟩ := h.sl
  obtain ⟨h1, h2, h3, _⟩ := hS k x hx
  exact ⟨b, off, h1, h2, h3.1, h3.2⟩
theorem IvlsAt.i64 (h : IvlsAt w A c l) {x : IvlD} (hx : l[k]? = some x) : I64 x.f ∧ I64 x.t := by
  obtain ⟨b, off, hS⟩ := h.sl
  exact (hS k x hx).2.2.2
theorem PiecesAt.get (h : PiecesAt w A c m) {x : PieceD} (hx : m[k]? = some x) : ∃ b off, A = some ⟨b, off, none⟩ ∧ b < w.heap.size ∧ w.cell? ⟨b, off + k * 3, none⟩ = some (.int .i64 x.f) ∧ w.cell? ⟨b, off + k * 3 + 1, none⟩ = some (.int .i64 x.t) ∧ w.cell? ⟨b, off + k * 3 + 2, none⟩ = some (.int .i64 x.v) := by
  obtain ⟨b, off, hS⟩ := h.sl
  obtain ⟨h1, h2, h3, _⟩ := hS k x hx
  exact ⟨b, off, h1, h2, h3.1, h3.2.1, h3.2.2⟩
theorem PiecesAt.i64 (h : PiecesAt w A c m) {x : PieceD} (hx : m[k]? = some x) : I64 x.f ∧ I64 x.t ∧ I64 x.v := by
  obtain ⟨b, off, hS⟩ := h.sl
  exact (hS k x hx).2.2.2
def pieceC (x : PieceD) : List Value := [.int .i64 x.f, .int .i64 x.t, .int .i64 x.v]
theorem own_pieces {l : List PieceD} (h : Own pieceC 3 w base 42 v l) (hi : ∀ x, x ∈ l → I64 x.f ∧ I64 x.t ∧ I64 x.v) : ∃ A c, v = .slice A l.length c ∧ PiecesAt w A c l := by
  obtain ⟨A, c, hv, hS⟩ := Own.slAt (R := RPiece) (enc := pieceC) (fun _ => rfl) (fun x hx b o hc => ⟨⟨by have := hc 0 _ rfl; simpa using this, by have := hc 1 _ rfl; simpa using this, by have := hc 2 _ rfl; simpa using this⟩, hi x hx⟩) h
  subst hv
  exact ⟨A, c, rfl, h.room.1, h.room.2, hS⟩
theorem own_ivls {l : List IvlD} (h : Own ivlC 2 w base 25 v l) (hi : ∀ x, x ∈ l → I64 x.f ∧ I64 x.t) : ∃ A c, v = .slice A l.length c ∧ IvlsAt w A c l := by
  obtain ⟨A, c, hv, hS⟩ := own_lives h hi
  subst hv
  exact ⟨A, c, rfl, h.room.1, h.room.2, hS⟩
theorem near_i64 {n : Int} (h : nearB n = true) : I64 n := by
  have := near_iff.1 h
  exact ⟨by omega, by omega⟩
end
theorem info_piece : (Try.prog.info? 42).map (fun i => (i.zero, i.size, i.bytes)) = some (some (.agg #[.int .i64 0, .int .i64 0, .int .i64 0]), 3, 24) := by kernel_rfl
theorem info_piece2 : ∃ i, Try.prog.info? 42 = some i ∧ i.zero = some (.agg #[.int .i64 0, .int .i64 0, .int .i64 0]) ∧ i.size = 3 ∧ i.bytes = 24 := by
  obtain ⟨i0, hi, hzz⟩ := Option.map_eq_some_iff.1 info_piece
  simp only [Prod.mk.injEq] at hzz
  exact ⟨i0, hi, hzz.1, hzz.2.1, hzz.2.2⟩
theorem three_ints {a b c : Int} : ∀ u ∈ (#[.int .i64 a, .int .i64 b, .int .i64 c] : Array Value).toList, u.oneCell' = true := by simp [Value.oneCell']
abbrev ivlV (x : IvlD) : Value := .agg #[.int .i64 x.f, .int .i64 x.t]
abbrev pieceV (x : PieceD) : Value := .agg #[.int .i64 x.f, .int .i64 x.t, .int .i64 x.v]
/-- A set and an error are told. -/
def SetOut (R : Int → List IvlD → Prop) (w : World) (e : Ending) (w' : World) : Prop := ∃ er out A c, Hid (R er out) ∧ e = .returned (.tuple #[.slice A out.length c, .int .i64 er]) ∧ IvlsAt w' A c out ∧ Below w.heap.size w w'
def MapOut (R : Int → List PieceD → Prop) (w : World) (e : Ending) (w' : World) : Prop := ∃ er out A c, Hid (R er out) ∧ e = .returned (.tuple #[.slice A out.length c, .int .i64 er]) ∧ PiecesAt w' A c out ∧ Below w.heap.size w w'
end Go.Proofs.Ytcfachfldanddaa
/- From the arguments as the row reads them to plain data: lists of intervals and of pieces. -/
namespace Go.Proofs.Ytcfachfldanddaa
open Go.ChangeShapes Go.WideShapes Go.RowKit Go.Deep Go.Joins

section
variable {H : Type} {enc : TypeId × Value → H} {W : World} {spare : Nat → Bool} {held : Bool}

theorem i64_of_wf {n : Int} (h : (Lit.int .i64 n).wf = true) : I64 n := by
  simp [Lit.wf, IntKind.min, IntKind.max, IntKind.signed, IntKind.bits] at h
  exact ⟨by omega, by omega⟩

theorem field_cell {P : Program} {base fuel : Nat} {e : TypeId} {fs : Array Field} {cs : List Value} {x : DataW H × List MemPlace} (he : P.underlying e = some (.struct fs)) (hone : oneCellFields P fs = true)
    (h : DataW.trod enc P W base spare held fuel e cs = some x) (hl : cs.length = fs.size) {j : Nat} {f : Field} (hf : fs[j]? = some f) :
    ∃ c n y, cs[j]? = some c ∧ DataW.trod enc P W base spare held n f.type [c] = some y := by
  obtain ⟨xs, n, _, _, _, hxl, hg⟩ := DataW.trod_struct he h
  obtain ⟨ho, hk⟩ := hone_of hone j f hf
  have hj : j < fs.size := (Array.getElem?_eq_some_iff.1 hf).1
  have h1 := hg j f hf
  rw [ho, hk] at h1
  have e1 : (cs.drop j).take 1 = [cs[j]'(by omega)] := by
    rw [List.drop_eq_getElem_cons (by omega)]; rfl
  rw [e1, List.getElem?_eq_getElem (by omega)] at h1
  exact ⟨_, n, _, List.getElem?_eq_getElem (by omega), h1⟩
theorem field_int {P : Program} {base fuel : Nat} {e : TypeId} {fs : Array Field} {cs : List Value} {x : DataW H × List MemPlace} (he : P.underlying e = some (.struct fs)) (hone : oneCellFields P fs = true)
    (h : DataW.trod enc P W base spare held fuel e cs = some x) (hl : cs.length = fs.size) (j : Nat) {f : Field} (hf : fs[j]? = some f) (hi : P.underlying f.type = some (.int .i64)) :
    ∃ n, cs[j]? = some (.int .i64 n) ∧ I64 n := by
  obtain ⟨c, m, y, hc, ht⟩ := field_cell he hone h hl hf
  obtain ⟨n, hn, _, hw⟩ := DataW.trod_int hi ht
  simp at hn
  exact ⟨n, by rw [hc, hn], i64_of_wf hw⟩

/-- A slice of whatever elements. -/
theorem sl_open {α : Type} [Inhabited α] {R : World → Nat → Nat → α → Prop} {sz : Nat} {t e : TypeId} (ht : Try.prog.underlying t = some (.slice e)) (hsz : Try.prog.cellsOf e = sz) (hpos : 0 < sz)
    (hel : ∀ (n : Nat) (cs : List Value) (x : DataW H × List MemPlace) (b o : Nat), cs.length = sz → (∀ j, j < sz → W.cell? ⟨b, o + j, none⟩ = cs[j]?) → DataW.trod enc Try.prog W 0 spare held n e cs = some x → ∃ y : α, R W b o y)
    {fuel : Nat} {cs : List Value} {x : DataW H × List MemPlace} (h : DataW.trod enc Try.prog W 0 spare held fuel t cs = some x) :
    ∃ A c l, cs = [.slice A l.length c] ∧ l.length ≤ c ∧ c ≤ maxLen ∧ SlAt R sz W A l := by
  rcases open_slice ht h with ⟨h0, _⟩ | ⟨a, len, cap, m, n, D, Pl, hcs, _, hlc, hcm, hm, _, hi⟩
  · exact ⟨none, 0, [], by simpa using h0, by simp, by simp, SlAt.nil⟩
  · rw [hsz] at hi
    have hmle : len ≤ m := by rw [hm]; split <;> omega
    rcases Nat.eq_zero_or_pos len with hz | hp
    · subst hz
      exact ⟨some a, cap, [], by simpa using hcs, by simp, hcm, SlAt.nil⟩
    · obtain ⟨b, off, spot⟩ := a
      have hspot : spot = none := by
        obtain ⟨cs', h1, _⟩ := hi 0 (by omega)
        obtain ⟨_, hl, hc⟩ := World.cells?_some h1
        have h2 := hc 0 hpos
        rw [List.getElem?_eq_getElem (by omega)] at h2
        simpa [Addr.add] using World.cell?_spot h2
      subst hspot
      have hy : ∀ i, i < len → ∃ y : α, R W b (off + i * sz) y ∧ b < W.heap.size := by
        intro i hi'
        obtain ⟨cs', h1, h2⟩ := hi i (by omega)
        obtain ⟨_, hl, hc⟩ := World.cells?_some h1
        have hc' : ∀ j, j < sz → W.cell? ⟨b, off + i * sz + j, none⟩ = cs'[j]? := fun j hj => by
          rw [← hc j hj, add_plain, add_plain]
        obtain ⟨y, hy⟩ := hel n cs' _ b (off + i * sz) hl hc' h2
        have h0 := hc' 0 hpos
        rw [List.getElem?_eq_getElem (by omega)] at h0
        exact ⟨y, hy, World.block_lt_of_cell? W _ h0⟩
      obtain ⟨f, hf⟩ := choose_lt hy
      refine ⟨_, cap, (List.range len).map f, by simpa using hcs, by simpa using hlc, hcm, b, off, fun i x hx => ?_⟩
      simp only [List.getElem?_map, Option.map_eq_some_iff] at hx
      obtain ⟨k, hk, rfl⟩ := hx
      have hki : i < len ∧ i = k := by
        rcases Nat.lt_or_ge i len with hlt | hge
        · rw [List.getElem?_range hlt] at hk; exact ⟨hlt, by simpa using hk⟩
        · rw [List.getElem?_eq_none (by simpa using hge)] at hk; cases hk
      obtain ⟨hlt, rfl⟩ := hki
      exact ⟨rfl, (hf i hlt).2, (hf i hlt).1⟩

theorem at0 {b o : Nat} {cs : List Value} {v : Value} {sz : Nat} (hc : ∀ j, j < sz → W.cell? ⟨b, o + j, none⟩ = cs[j]?) (j : Nat) (hj : j < sz) (h : cs[j]? = some v) : cellIs W b (o + j) v := (hc j hj).trans h
theorem el_int {t : TypeId} (ht : Try.prog.underlying t = some (.int .i64)) : ∀ (n : Nat) (cs : List Value) (x : DataW H × List MemPlace) (b o : Nat), cs.length = 1 → (∀ j, j < 1 → W.cell? ⟨b, o + j, none⟩ = cs[j]?) →
    DataW.trod enc Try.prog W 0 spare held n t cs = some x → ∃ y : Int, RInt W b o y := by
  intro n cs x b o hl hc h
  obtain ⟨m, rfl, _, hw⟩ := DataW.trod_int ht h
  exact ⟨m, at0 hc 0 (by omega) rfl, i64_of_wf hw⟩

theorem el_ivl : ∀ (n : Nat) (cs : List Value) (x : DataW H × List MemPlace) (b o : Nat), cs.length = 2 → (∀ j, j < 2 → W.cell? ⟨b, o + j, none⟩ = cs[j]?) →
    DataW.trod enc Try.prog W 0 spare held n 25 cs = some x → ∃ y : IvlD, RIvl W b o y := by
  intro n cs x b o hl hc h
  obtain ⟨p, hp, wp⟩ := field_int Try.underlying25 (by kernel_rfl) h (by simpa using hl) 0 rfl Try.underlying3
  obtain ⟨q, hq, wq⟩ := field_int Try.underlying25 (by kernel_rfl) h (by simpa using hl) 1 rfl Try.underlying3
  exact ⟨⟨p, q⟩, ⟨at0 hc 0 (by omega) hp, at0 hc 1 (by omega) hq⟩, wp, wq⟩

set_option maxRecDepth 100000 in
theorem ints_open {v : Value} {d : DataW H} {p : List MemPlace} {r : Reach} {b0 : Nat} (hv : Value.okWide Try.prog W r b0 81 v) (h : DataW.Trod enc Try.prog W 0 spare held 81 v d p) :
    ∃ A c l, v = .slice A l.length c ∧ l.length ≤ c ∧ c ≤ maxLen ∧ SlAt RInt 1 W A l := by
  obtain ⟨a0, len, cap, rfl⟩ := okWide_slice Try.underlying81 hv
  obtain ⟨fuel, hf⟩ := h
  obtain ⟨A, c, l, hA, h1⟩ := sl_open (R := RInt) Try.underlying81 (by kernel_rfl) (by omega) (el_int Try.underlying3) hf
  simp [Value.cells] at hA
  obtain ⟨rfl, rfl, rfl⟩ := hA
  exact ⟨_, _, l, rfl, h1⟩

set_option maxRecDepth 100000 in
theorem int_open {v : Value} {d : DataW H} {p : List MemPlace} {r : Reach} {b0 : Nat} (hv : Value.okWide Try.prog W r b0 3 v) (h : DataW.Trod enc Try.prog W 0 spare held 3 v d p) : ∃ n, v = .int .i64 n ∧ I64 n := by
  obtain ⟨x, rfl, _, _, wx⟩ := open_int Try.underlying3 hv h
  exact ⟨x, rfl, i64_of_wf wx⟩
theorem el_piece : ∀ (n : Nat) (cs : List Value) (x : DataW H × List MemPlace) (b o : Nat), cs.length = 3 → (∀ j, j < 3 → W.cell? ⟨b, o + j, none⟩ = cs[j]?) →
    DataW.trod enc Try.prog W 0 spare held n 42 cs = some x → ∃ y : PieceD, RPiece W b o y := by
  intro n cs x b o hl hc h
  obtain ⟨p, hp, wp⟩ := field_int Try.underlying42 (by kernel_rfl) h (by simpa using hl) 0 rfl Try.underlying3
  obtain ⟨q, hq, wq⟩ := field_int Try.underlying42 (by kernel_rfl) h (by simpa using hl) 1 rfl Try.underlying3
  obtain ⟨r, hr, wr⟩ := field_int Try.underlying42 (by kernel_rfl) h (by simpa using hl) 2 rfl Try.underlying3
  exact ⟨⟨p, q, r⟩, ⟨at0 hc 0 (by omega) hp, at0 hc 1 (by omega) hq, at0 hc 2 (by omega) hr⟩, wp, wq, wr⟩
instance : Inhabited PieceD := ⟨⟨0, 0, 0⟩⟩
set_option maxRecDepth 100000 in
theorem ivls_open {v : Value} {d : DataW H} {p : List MemPlace} {r : Reach} {b0 : Nat} (hv : Value.okWide Try.prog W r b0 22 v) (h : DataW.Trod enc Try.prog W 0 spare held 22 v d p) :
    ∃ A c l, v = .slice A l.length c ∧ IvlsAt W A c l := by
  obtain ⟨a0, len, cap, rfl⟩ := okWide_slice Try.underlying22 hv
  obtain ⟨fuel, hf⟩ := h
  obtain ⟨A, c, l, hA, h1, h2, h3⟩ := sl_open (R := RIvl) Try.underlying22 (by kernel_rfl) (by omega) el_ivl hf
  simp [Value.cells] at hA
  obtain ⟨rfl, rfl, rfl⟩ := hA
  exact ⟨_, _, l, rfl, h1, h2, h3⟩
set_option maxRecDepth 100000 in
theorem pieces_open {v : Value} {d : DataW H} {p : List MemPlace} {r : Reach} {b0 : Nat} (hv : Value.okWide Try.prog W r b0 40 v) (h : DataW.Trod enc Try.prog W 0 spare held 40 v d p) :
    ∃ A c l, v = .slice A l.length c ∧ PiecesAt W A c l := by
  obtain ⟨a0, len, cap, rfl⟩ := okWide_slice Try.underlying40 hv
  obtain ⟨fuel, hf⟩ := h
  obtain ⟨A, c, l, hA, h1, h2, h3⟩ := sl_open (R := RPiece) Try.underlying40 (by kernel_rfl) (by omega) el_piece hf
  simp [Value.cells] at hA
  obtain ⟨rfl, rfl, rfl⟩ := hA
  exact ⟨_, _, l, rfl, h1, h2, h3⟩
set_option maxRecDepth 100000 in
theorem piece_open {v : Value} {d : DataW H} {p : List MemPlace} {r : Reach} {b0 : Nat} (hv : Value.okWide Try.prog W r b0 42 v) (h : DataW.Trod enc Try.prog W 0 spare held 42 v d p) :
    ∃ x, v = pieceV x ∧ I64 x.f ∧ I64 x.t ∧ I64 x.v := by
  obtain ⟨v0, v1, v2, y0, y1, y2, n, rfl, _, _, h0, h1, h2⟩ := open_agg3 Try.underlying42 (by kernel_rfl) (by kernel_rfl) hv h
  obtain ⟨a, ha, _, wa⟩ := DataW.trod_int Try.underlying3 h0
  obtain ⟨b, hb, _, wb⟩ := DataW.trod_int Try.underlying3 h1
  obtain ⟨c, hc, _, wc⟩ := DataW.trod_int Try.underlying3 h2
  simp at ha hb hc
  subst ha hb hc
  exact ⟨⟨a, b, c⟩, rfl, i64_of_wf wa, i64_of_wf wb, i64_of_wf wc⟩
end
theorem params_read {l : List TypeId} (h : l.all (fun t => Try.prog.readableRec t && decide (t < Try.prog.types.size)) = true) : ∀ t ∈ l, Try.prog.readableRec t = true ∧ t < Try.prog.types.size := by
  intro t ht
  have := List.all_eq_true.1 h t ht
  simpa using this
end Go.Proofs.Ytcfachfldanddaa
/- The walks of the check of a set of times, the program's and the document's. -/
namespace Go.Proofs.Ytcfachfldanddaa
open Go.RowKit

def farB (n : Int) : Bool := !nearB n
theorem far_off {n : Int} (h : farB n = false) : nearB n = true := by simpa [farB] using h
theorem far_on {n : Int} (h : farB n = true) : nearB n = false := by simpa [farB] using h
theorem farB_true {n : Int} (h : n < -1000000000 ∨ 1000000000 < n) : farB n = true := by simp [farB, nearB, inB]; omega
theorem farB_false {n : Int} (h1 : ¬ n < -1000000000) (h2 : ¬ 1000000000 < n) : farB n = false := by simp [farB, nearB, inB]; omega
theorem far_is {n : Int} {b : Bool} (h : farB n = b) (w : World) : Calls Try.prog 66 #[.int .i64 n] w fun e w' => e = .returned (.bool b) ∧ w = w' := by
  go_enter Try.func66, Try.ntmps66
  go_wp2
  all_goals go_ret
  all_goals exact ⟨ret_bool (by rw [← h, Bool.eq_iff_iff]; simp [farB, nearB, inB]; try omega), rfl⟩
theorem near_is {n : Int} {b : Bool} (h : nearB n = b) (w : World) : Calls Try.prog 72 #[.int .i64 n] w fun e w' => e = .returned (.bool b) ∧ w = w' := by
  go_enter Try.func72, Try.ntmps72
  go_wp2_with (go_at_call 56; refine (in_any _ _ _ _).mono ?_; rintro e w' ⟨rfl, rfl⟩)
  go_ret
  exact ⟨ret_bool (by rw [← h]; rfl), rfl⟩

theorem far_q {n : Int} {b : Bool} (h : farB n = b) (W : World) (k : Nat) : Calls Try.prog 66 #[.int .i64 n] (W.drewN k) fun e w' => e = .returned (.bool b) ∧ ∃ m, w' = W.drewN m := (far_is h _).mono fun _ _ ⟨h1, h2⟩ => ⟨h1, k, h2.symm⟩
theorem near_q {n : Int} {b : Bool} (h : nearB n = b) (W : World) (k : Nat) : Calls Try.prog 72 #[.int .i64 n] (W.drewN k) fun e w' => e = .returned (.bool b) ∧ ∃ m, w' = W.drewN m := (near_is h _).mono fun _ _ ⟨h1, h2⟩ => ⟨h1, k, h2.symm⟩
theorem setErr_bad' {l : List IvlD} (h : l.length ≤ 200) (h2 : ¬ SetOk l) : setErr l = 5 := setErr_bad (by omega) h2
theorem bad_f {l : List IvlD} {k : Nat} {x : IvlD} (hx : l[k]? = some x) (h : farB x.f = true) : ¬ SetOk l := fun hs => by have := (hs.at_ hx).1; rw [far_on h] at this; simp at this
theorem bad_t {l : List IvlD} {k : Nat} {x : IvlD} (hx : l[k]? = some x) (h : farB x.t = true) : ¬ SetOk l := fun hs => by have := (hs.at_ hx).2.1; rw [far_on h] at this; simp at this
theorem bad_e {l : List IvlD} {k : Nat} {x : IvlD} (hx : l[k]? = some x) (h : x.t ≤ x.f) : ¬ SetOk l := fun hs => by have := (hs.at_ hx).2.2; omega
theorem bad_g {l : List IvlD} {k : Nat} {x z : IvlD} (hz : l[k]? = some z) (hx : l[k + 1]? = some x) (h : x.f ≤ z.t) : ¬ SetOk l := fun hs => by have := hs.gap hz hx; omega

set_option maxHeartbeats 2000000 in
theorem ivlCheck_any (A : Option Addr) (c : Nat) (l : List IvlD) (w : World) (hI : IvlsAt w A c l) :
    Calls Try.prog 26 #[.slice A l.length c] w fun e w' => e = .returned (.int .i64 (setErr l)) ∧ Below w.heap.size w w' := by
  have m1 := hI.len
  by_cases hl : l.length ≤ 200
  case neg =>
    have hd : decide ((l.length : Int) > 200) = true := by simp; omega
    go_enter Try.func26, Try.ntmps26
    go_wp2_with fail
    go_ret
    exact ⟨ret_int (setErr_large (by omega)).symm, by go_grown⟩
  have hd : decide ((l.length : Int) > 200) = false := by simp; omega
  have HI := Lib.hid hI
  clear hI
  go_enter Try.func26, Try.ntmps26
  go_wp2_with fail
  clear hd
  go_loopw [10] (fun v wr => ∃ k : Nat, k ≤ l.length ∧ v = .int .i64 k ∧ Hid (SetOk (l.take k)) ∧ Below w.heap.size w wr) (fun v _ => l.length - (intOf v).toNat)
  case atStart => exact ⟨0, Nat.zero_le _, rfl, Lib.hid (by simpa using SetOk.nil), Below.refl _ _⟩
  case round =>
    obtain ⟨k, hk, rfl, HS, hb⟩ := hrel
    by_cases hlt : k < l.length
    case neg =>
      obtain rfl : k = l.length := by omega
      go_wp2_with fail
      go_ret
      exact ⟨ret_int (setErr_ok (by omega) (by have := HS.out; rwa [List.take_length] at this)).symm, hb⟩
    case pos =>
      obtain ⟨x, hx⟩ := get_lt hlt
      obtain ⟨b, off, rfl, hb0, x0, x1⟩ := HI.out.get hx
      rw [← hb.cell (by exact hb0)] at x0 x1
      have HX := Lib.hid hx
      clear hx
      cases f1 : farB x.f
      case true =>
        go_wp2_with fail
        go_quiet (first | (go_at_call 66; exact far_q (by assumption) _ _))
        go_wp2
        go_ret
        exact ⟨ret_int (setErr_bad' hl (bad_f HX.out f1)).symm, below_drewN (ext_alloc hb _) _⟩
      cases f2 : farB x.t
      case true =>
        go_wp2_with fail
        go_quiet (first | (go_at_call 66; exact far_q (by assumption) _ _))
        go_wp2
        go_ret
        exact ⟨ret_int (setErr_bad' hl (bad_t HX.out f2)).symm, below_drewN (ext_alloc hb _) _⟩
      by_cases f3 : x.t ≤ x.f
      case pos =>
        have g3 : decide (x.t ≤ x.f) = true := by simpa using f3
        go_wp2_with fail
        go_quiet (first | (go_at_call 66; exact far_q (by assumption) _ _))
        go_wp2
        go_ret
        exact ⟨ret_int (setErr_bad' hl (bad_e HX.out f3)).symm, below_drewN (ext_alloc hb _) _⟩
      have g3 : decide (x.t ≤ x.f) = false := by simpa using f3
      have F3 := Lib.hid f3
      clear f3
      by_cases hk0 : k ≤ 0
      case pos =>
        have g4 : decide (0 < k) = false := by simp; omega
        go_wp2_with fail
        go_quiet (first | (go_at_call 66; exact far_q (by assumption) _ _))
        go_wp2
        go_roundw
        case rel =>
          obtain rfl : k = 0 := by omega
          exact ⟨1, by omega, by go_num, Lib.hid (SetOk.first HX.out (far_off f1) (far_off f2) (by have := F3.out; omega)), below_drewN (ext_alloc hb _) _⟩
        case measure => simp [intOf]; omega
      case neg =>
        obtain ⟨j, rfl⟩ : ∃ j, k = j + 1 := ⟨k - 1, by omega⟩
        obtain ⟨z, hz⟩ := get_lt (show j < l.length by omega)
        obtain ⟨b', off', e', _, z0, z1⟩ := HI.out.get hz
        obtain ⟨rfl, rfl⟩ : b = b' ∧ off = off' := by simpa using e'
        rw [← hb.cell (by exact hb0)] at z0 z1
        have HZ := Lib.hid hz
        clear hz e'
        have g4 : (0 : Int) < (j : Int) + 1 := by omega
        have hj1 : (j : Int) ≤ 200 := by omega
        have hjw : IntKind.i64.wrap (j : Int) = j := IntWalk.i64_in _ (by omega)
        have hjl : j < l.length := by omega
        have z1 : (wr.alloc (Obj.cells #[Value.int IntKind.i64 x.f, Value.int IntKind.i64 x.t] 25)).cell? ⟨b, off + j * 2 + 1, none⟩ = some (.int .i64 z.t) := cell_keep (ext_alloc (Below.refl _ _) _) z1
        by_cases f4 : x.f ≤ z.t
        case pos =>
          have g5 : decide (x.f ≤ z.t) = true := by simpa using f4
          go_wp2_with fail
          go_quiet (first | (go_at_call 66; exact far_q (by assumption) _ _))
          go_wp2
          go_ret
          exact ⟨ret_int (setErr_bad' hl (bad_g HZ.out HX.out f4)).symm, below_drewN (ext_alloc hb _) _⟩
        case neg =>
          have g5 : decide (x.f ≤ z.t) = false := by simpa using f4
          go_wp2_with fail
          go_quiet (first | (go_at_call 66; exact far_q (by assumption) _ _))
          go_wp2
          go_roundw
          case rel => exact ⟨j + 1 + 1, by omega, by go_num, Lib.hid (HS.out.next HZ.out HX.out (far_off f1) (far_off f2) (by have := F3.out; omega) (by omega)), below_drewN (ext_alloc hb _) _⟩
          case measure => simp [intOf]; omega

set_option maxHeartbeats 2000000 in
theorem refSet_any (A : Option Addr) (c : Nat) (l : List IvlD) (w : World) (hI : IvlsAt w A c l) :
    Calls Try.prog 24 #[.slice A l.length c] w fun e w' => e = .returned (.int .i64 (setErr l)) ∧ Below w.heap.size w w' := by
  have m1 := hI.len
  by_cases hl : l.length ≤ 200
  case neg =>
    have hd : decide ((l.length : Int) > 200) = true := by simp; omega
    go_enter Try.func24, Try.ntmps24
    go_wp2_with fail
    go_ret
    exact ⟨ret_int (setErr_large (by omega)).symm, by go_grown⟩
  have hd : decide ((l.length : Int) > 200) = false := by simp; omega
  have HI := Lib.hid hI
  clear hI
  go_enter Try.func24, Try.ntmps24
  go_wp2_with fail
  clear hd
  go_loopw [3] (fun v wr => ∃ k : Nat, k ≤ l.length ∧ v = .int .i64 k ∧ Hid (SetOk (l.take k)) ∧ Below w.heap.size w wr) (fun v _ => l.length - (intOf v).toNat)
  case atStart => exact ⟨0, Nat.zero_le _, rfl, Lib.hid (by simpa using SetOk.nil), Below.refl _ _⟩
  case round =>
    obtain ⟨k, hk, rfl, HS, hb⟩ := hrel
    by_cases hlt : k < l.length
    case neg =>
      obtain rfl : k = l.length := by omega
      go_wp2_with fail
      go_ret
      exact ⟨ret_int (setErr_ok (by omega) (by have := HS.out; rwa [List.take_length] at this)).symm, hb⟩
    case pos =>
      obtain ⟨x, hx⟩ := get_lt hlt
      obtain ⟨b, off, rfl, hb0, x0, x1⟩ := HI.out.get hx
      rw [← hb.cell (by exact hb0)] at x0 x1
      have HX := Lib.hid hx
      clear hx
      cases f1 : nearB x.f
      case false =>
        go_wp2_with fail
        go_quiet (first | (go_at_call 72; exact near_q (by assumption) _ _))
        go_wp2
        go_ret
        exact ⟨ret_int (setErr_bad' hl (bad_f HX.out (by simp [farB, f1]))).symm, below_drewN hb _⟩
      cases f2 : nearB x.t
      case false =>
        go_wp2_with fail
        go_quiet (first | (go_at_call 72; exact near_q (by assumption) _ _))
        go_wp2
        go_ret
        exact ⟨ret_int (setErr_bad' hl (bad_t HX.out (by simp [farB, f2]))).symm, below_drewN hb _⟩
      by_cases f3 : x.t ≤ x.f
      case pos =>
        have g3 : decide (x.f ≥ x.t) = true := by simpa using f3
        go_wp2_with fail
        go_quiet (first | (go_at_call 72; exact near_q (by assumption) _ _))
        go_wp2
        go_ret
        exact ⟨ret_int (setErr_bad' hl (bad_e HX.out f3)).symm, below_drewN hb _⟩
      have g3 : decide (x.f ≥ x.t) = false := by simp; omega
      have F3 := Lib.hid f3
      clear f3
      by_cases hk0 : k ≤ 0
      case pos =>
        have g4 : decide (0 < k) = false := by simp; omega
        go_wp2_with fail
        go_quiet (first | (go_at_call 72; exact near_q (by assumption) _ _))
        go_wp2
        go_roundw
        case rel =>
          obtain rfl : k = 0 := by omega
          exact ⟨1, by omega, by go_num, Lib.hid (SetOk.first HX.out f1 f2 (by have := F3.out; omega)), below_drewN hb _⟩
        case measure => simp [intOf]; omega
      case neg =>
        obtain ⟨j, rfl⟩ : ∃ j, k = j + 1 := ⟨k - 1, by omega⟩
        obtain ⟨z, hz⟩ := get_lt (show j < l.length by omega)
        obtain ⟨b', off', e', _, z0, z1⟩ := HI.out.get hz
        obtain ⟨rfl, rfl⟩ : b = b' ∧ off = off' := by simpa using e'
        rw [← hb.cell (by exact hb0)] at z0 z1
        have HZ := Lib.hid hz
        clear hz e'
        have g4 : (0 : Int) < (j : Int) + 1 := by omega
        have hj1 : (j : Int) ≤ 200 := by omega
        have hjw : IntKind.i64.wrap (j : Int) = j := IntWalk.i64_in _ (by omega)
        have hjl : j < l.length := by omega
        by_cases f4 : x.f ≤ z.t
        case pos =>
          have g5 : decide (z.t ≥ x.f) = true := by simpa using f4
          go_wp2_with fail
          go_quiet (first | (go_at_call 72; exact near_q (by assumption) _ _))
          go_wp2
          go_ret
          exact ⟨ret_int (setErr_bad' hl (bad_g HZ.out HX.out f4)).symm, below_drewN hb _⟩
        case neg =>
          have g5 : decide (z.t ≥ x.f) = false := by simp; omega
          go_wp2_with fail
          go_quiet (first | (go_at_call 72; exact near_q (by assumption) _ _))
          go_wp2
          go_roundw
          case rel => exact ⟨j + 1 + 1, by omega, by go_num, Lib.hid (HS.out.next HZ.out HX.out f1 f2 (by have := F3.out; omega) (by omega)), below_drewN hb _⟩
          case measure => simp [intOf]; omega

set_option maxHeartbeats 1000000 in
theorem ivlSize_any (A : Option Addr) (c : Nat) (l : List IvlD) (w : World) (hI : IvlsAt w A c l) :
    Calls Try.prog 23 #[.slice A l.length c] w fun e w' => e = .returned (.tuple #[.int .i64 (if setErr l = 0 then sizeL l else 0), .int .i64 (setErr l)]) ∧ Below w.heap.size w w' := by
  have m1 := hI.len
  by_cases h0 : setErr l = 0
  case neg =>
    have hd : (setErr l != 0) = true := by simpa using h0
    rw [if_neg h0]
    clear h0
    go_enter Try.func23, Try.ntmps23
    go_wp2_with (go_at_call 26; refine (ivlCheck_any A c l _ hI).mono ?_; rintro e w' ⟨rfl, hb⟩)
    refine bodyPost_ret (v := .tuple #[.int .i64 0, .int .i64 (setErr l)]) (by simp [results, Try.results23]) rfl ?_
    exact ⟨rfl, hb⟩
  case pos =>
    obtain ⟨hl, hok⟩ := setErr_zero h0
    have HO := Lib.hid hok
    rw [h0, if_pos rfl]
    have hC := ivlCheck_any A c l w hI
    rw [h0] at hC
    clear h0 hok
    have HI := Lib.hid hI
    clear hI
    go_enter Try.func23, Try.ntmps23
    go_wp2_with (go_at_call 26; refine hC.mono ?_; rintro e w1 ⟨rfl, hb⟩)
    clear hC
    go_loopw [5, 15] (fun s v wr => ∃ k : Nat, k ≤ l.length ∧ s = .int .i64 (sizeL (l.take k)) ∧ v = .int .i64 k ∧ Below w.heap.size w wr) (fun _ v _ => l.length - (intOf v).toNat)
    case atStart => exact ⟨0, Nat.zero_le _, rfl, rfl, hb⟩
    case round =>
      clear hb
      obtain ⟨k, hk, rfl, rfl, hb⟩ := hrel
      by_cases hlt : k < l.length
      case neg =>
        obtain rfl : k = l.length := by omega
        rw [List.take_length]
        go_wp2_with fail
        refine bodyPost_ret (v := .tuple #[.int .i64 (sizeL l), .int .i64 0]) (by simp [results, Try.results23]) rfl ?_
        exact ⟨rfl, hb⟩
      case pos =>
        obtain ⟨x, hx⟩ := get_lt hlt
        obtain ⟨b, off, rfl, hb0, x0, x1⟩ := HI.out.get hx
        rw [← hb.cell (by exact hb0)] at x0 x1
        have hs0 := size_pre HO.out (by omega) k
        have hs1 := size_pre HO.out (by omega) (k + 1)
        have hnx := HO.out.at_ hx
        have n1 := near_iff.1 hnx.1
        have n2 := near_iff.1 hnx.2.1
        have hsn : sizeL (l.take (k + 1)) = sizeL (l.take k) + (x.t - x.f) := by rw [take_succ_ hx, size_snoc]
        have HSN := Lib.hid hsn
        obtain ⟨sk, hsk⟩ : ∃ sk, sk = sizeL (l.take k) := ⟨_, rfl⟩
        rw [← hsk] at hs0 ⊢
        clear hx hnx hsn
        go_wp2_with fail
        go_roundw
        case rel => exact ⟨k + 1, by omega, by rw [HSN.out, ← hsk], by go_num, ext_alloc hb _⟩
        case measure => simp [intOf]; omega
end Go.Proofs.Ytcfachfldanddaa
/- The walks of what holds of one of some intervals; of the time that is in them. -/
namespace Go.Proofs.Ytcfachfldanddaa
open Go.RowKit Go.Shelf

/-- What is asked of a predicate: in every world in which all that lay in w lies there still, it answers p and leaves such a world. -/
def PredB (fn : Nat) (lb : Array Value) (p : IvlD → Bool) (w : World) : Prop :=
  ∀ (W : World) (x : IvlD), Below w.heap.size w W → Calls Try.prog fn (#[ivlV x] ++ lb) W fun e w' => e = .returned (.bool (p x)) ∧ Below W.heap.size W w'
/-- The first one, or none. -/
def FirstIs (p : IvlD → Bool) (l : List IvlD) (r : Int) : Prop :=
  (r = -1 ∧ ∀ x, x ∈ l → p x = false) ∨ ∃ (k : Nat) (x : IvlD), r = k ∧ l[k]? = some x ∧ p x = true ∧ ∀ y, y ∈ l.take k → p y = false
theorem FirstIs.any {p : IvlD → Bool} {l : List IvlD} {r : Int} (h : FirstIs p l r) : decide (r ≥ 0) = l.any p := by
  rw [Bool.eq_iff_iff, List.any_eq_true, decide_eq_true_iff]
  rcases h with ⟨rfl, h⟩ | ⟨k, x, rfl, hx, hp, _⟩
  · exact ⟨fun h1 => by omega, fun ⟨x, hx, hp⟩ => by rw [h x hx] at hp; simp at hp⟩
  · exact ⟨fun _ => ⟨x, List.mem_of_getElem? hx, hp⟩, fun _ => by omega⟩

set_option maxHeartbeats 1000000 in
theorem indexFunc_any (fn : Nat) (lb : Array Value) (p : IvlD → Bool) (eg : ∀ args w, (callFunc fn args).run Try.prog w = .ok (.enter fn args) w) (A : Option Addr) (c : Nat) (l : List IvlD) (w : World) (hI : IvlsAt w A c l) (hp : PredB fn lb p w) :
    Calls Try.prog 99 #[.slice A l.length c, .func (.func fn) #[] lb] w fun e w' => (∃ r, e = .returned (.int .i64 r) ∧ FirstIs p l r) ∧ Below w.heap.size w w' := by
  have m1 := hI.len
  have HI := Lib.hid hI
  have HP := Lib.hid hp
  clear hI hp
  go_enter Try.func99, Try.ntmps99
  go_wp2_with fail
  go_loopw [5, 8] (fun _ v wr => ∃ k : Nat, k ≤ l.length ∧ v = .int .i64 k ∧ Hid (∀ y, y ∈ l.take k → p y = false) ∧ Below w.heap.size w wr) (fun _ v _ => l.length - (intOf v).toNat)
  case atStart => exact ⟨0, Nat.zero_le _, rfl, Lib.hid (by simp), Below.refl _ _⟩
  case round =>
    obtain ⟨k, hk, rfl, HN, hb⟩ := hrel
    by_cases hlt : k < l.length
    case neg =>
      obtain rfl : k = l.length := by omega
      go_wp2_with fail
      go_ret
      exact ⟨⟨-1, rfl, .inl ⟨rfl, by have := HN.out; rwa [List.take_length] at this⟩⟩, hb⟩
    case pos =>
      obtain ⟨x, hx⟩ := get_lt hlt
      obtain ⟨b, off, rfl, hb0, x0, x1⟩ := HI.out.get hx
      rw [← hb.cell (by exact hb0)] at x0 x1
      have HX := Lib.hid hx
      have hc := HP.out wr x hb
      clear hx
      cases hq : p x
      case true =>
        rw [hq] at hc
        go_wp2_with (go_at_fn fn; refine hc.mono ?_; rintro e w' ⟨rfl, hb'⟩)
        go_ret
        exact ⟨⟨k, rfl, .inr ⟨k, x, rfl, HX.out, hq, HN.out⟩⟩, ext_trans hb hb'⟩
      case false =>
        rw [hq] at hc
        go_wp2_with (go_at_fn fn; refine hc.mono ?_; rintro e w' ⟨rfl, hb'⟩)
        go_roundw
        case rel =>
          refine ⟨k + 1, by omega, by go_num, Lib.hid fun y hy => ?_, ext_trans hb hb'⟩
          rw [take_succ_ HX.out] at hy
          rcases List.mem_append.1 hy with hy | hy
          · exact HN.out y hy
          · obtain rfl : y = x := by simpa using hy
            exact hq
        case measure => simp [intOf]; omega

set_option maxHeartbeats 1000000 in
theorem containsFunc_any (fn : Nat) (lb : Array Value) (p : IvlD → Bool) (eg : ∀ args w, (callFunc fn args).run Try.prog w = .ok (.enter fn args) w) (A : Option Addr) (c : Nat) (l : List IvlD) (w : World) (hI : IvlsAt w A c l) (hp : PredB fn lb p w) :
    Calls Try.prog 63 #[.slice A l.length c, .func (.func fn) #[] lb] w fun e w' => e = .returned (.bool (l.any p)) ∧ Below w.heap.size w w' := by
  have HI := Lib.hid hI
  have HP := Lib.hid hp
  clear hI hp
  go_enter Try.func63, Try.ntmps63
  go_wp2_with (go_at_call 99; refine (indexFunc_any fn lb p eg A c l _ HI.out HP.out).mono ?_; rintro e w' ⟨⟨r, rfl, hr⟩, hb⟩)
  go_ret
  exact ⟨ret_bool hr.any, hb⟩

theorem enters_has : Enters Try.prog 64 := enters_of Try.func64 (by kernel_rfl) rfl
set_option maxHeartbeats 1000000 in
theorem has1_any (t : Int) (b : Nat) (x : IvlD) (W : World) (hc : W.cell? ⟨b, 0, none⟩ = some (.int .i64 t)) : Calls Try.prog 64 #[ivlV x, .pointer (some ⟨b, 0, none⟩)] W fun e w' => e = .returned (.bool (decide (x.f ≤ t ∧ t < x.t))) ∧ Below W.heap.size W w' := by
  have hlt := World.block_lt_of_cell? W _ hc
  have hlt : b < W.heap.size := hlt
  by_cases h1 : x.f ≤ t
  · have d1 : decide (x.f ≤ t) = true := by simpa using h1
    go_enter Try.func64, Try.ntmps64
    go_wp2_with fail
    go_ret
    exact ⟨ret_bool (by first | rfl | simp | (rw [Bool.eq_iff_iff]; simp; omega)), by go_grown⟩
  · have d1 : decide (x.f ≤ t) = false := by simpa using h1
    go_enter Try.func64, Try.ntmps64
    go_wp2_with fail
    go_ret
    exact ⟨ret_bool (by first | rfl | simp | (rw [Bool.eq_iff_iff]; simp; omega)), by go_grown⟩
set_option maxHeartbeats 1000000 in
theorem ivlHas_any (A : Option Addr) (c : Nat) (l : List IvlD) (t : Int) (w : World) (hI : IvlsAt w A c l) :
    Calls Try.prog 15 #[.slice A l.length c, .int .i64 t] w fun e w' => e = .returned (.bool (hasB l t)) ∧ Below w.heap.size w w' := by
  have hmf : ∀ (fn : Fn) (first cap : Array Value) (w : World), (Instr.makeFunc fn first cap).run Try.prog w = .ok (.func fn first cap) w := fun _ _ _ _ => rfl
  have hent := enters_has
  unfold Enters at hent
  have hw0 : (w.alloc (.cells #[.int .i64 t] 3)).cell? ⟨w.heap.size, 0, none⟩ = some (.int .i64 t) := (Blk.new w 3 #[.int .i64 t]).cell 0
  have hP : PredB 64 #[.pointer (some ⟨w.heap.size, 0, none⟩)] (fun x => decide (x.f ≤ t ∧ t < x.t)) (w.alloc (.cells #[.int .i64 t] 3)) := fun W x hb => has1_any t w.heap.size x W (cell_keep hb hw0)
  have hI1 := hI.ext (ext_alloc (Below.refl _ w) (.cells #[.int .i64 t] 3))
  have hC := containsFunc_any 64 _ _ hent A c l _ hI1 hP
  clear hI hI1 hP hw0
  go_enter Try.func15, Try.ntmps15
  go_wp2_with (go_at_call 63; refine hC.mono ?_; rintro e w' ⟨rfl, hb⟩)
  go_ret
  exact ⟨ret_bool (by simp [hasB]), ext_trans (ext_alloc (Below.refl _ w) _) hb⟩

set_option maxHeartbeats 1000000 in
theorem refHas_any (A : Option Addr) (c : Nat) (l : List IvlD) (t : Int) (w : World) (hI : IvlsAt w A c l) :
    Calls Try.prog 27 #[.slice A l.length c, .int .i64 t] w fun e w' => e = .returned (.bool (hasB l t)) ∧ w = w' := by
  have m1 := hI.len
  have HI := Lib.hid hI
  clear hI
  go_enter Try.func27, Try.ntmps27
  go_wp2_with fail
  go_loop [5] (fun v => ∃ k : Nat, k ≤ l.length ∧ v = .int .i64 k ∧ Hid (hasB (l.drop k) t = hasB l t)) (fun v => l.length - (intOf v).toNat)
  case atStart => exact ⟨0, Nat.zero_le _, rfl, Lib.hid rfl⟩
  case round =>
    obtain ⟨k, hk, rfl, HN⟩ := hrel
    by_cases hlt : k < l.length
    case neg =>
      go_wp2_with fail
      go_ret
      exact ⟨ret_bool (by rw [← HN.out, drop_end (by omega)]; rfl), rfl⟩
    case pos =>
      obtain ⟨x, hx⟩ := get_lt hlt
      obtain ⟨b, off, rfl, hb0, x0, x1⟩ := HI.out.get hx
      have HD : Hid (l.drop k = x :: l.drop (k + 1)) := Lib.hid (drop_cons hx)
      clear hx
      by_cases h1 : x.f ≤ t
      · have d1 : decide (x.f ≤ t) = true := by simpa using h1
        by_cases h2 : t < x.t
        · have d2 : decide (t < x.t) = true := by simpa using h2
          go_wp2_with fail
          go_ret
          exact ⟨ret_bool (by rw [← HN.out, HD.out]; exact (has_cons.2 (.inl ⟨h1, h2⟩)).symm), rfl⟩
        · have d2 : decide (t < x.t) = false := by simpa using h2
          go_wp2_with fail
          go_round
          case rel => exact ⟨k + 1, by omega, by go_num, Lib.hid (by rw [← HN.out, HD.out, Bool.eq_iff_iff, has_cons]; exact ⟨.inr, fun h => h.elim (fun h => by omega) id⟩)⟩
          case measure => simp [intOf]; omega
      · have d1 : decide (x.f ≤ t) = false := by simpa using h1
        go_wp2_with fail
        go_round
        case rel => exact ⟨k + 1, by omega, by go_num, Lib.hid (by rw [← HN.out, HD.out, Bool.eq_iff_iff, has_cons]; exact ⟨.inr, fun h => h.elim (fun h => by omega) id⟩)⟩
        case measure => simp [intOf]; omega
end Go.Proofs.Ytcfachfldanddaa
