/- Several texts in one: Those, Builder, Each, Told, EachG, MapEdges, MapPut, MapOnly, MapMerge1. -/
import Derived.Shelf.Abstract
import Derived.Shelf.GgClosure.Gives
import Derived.BigRegion
import Derived.Test.YtdpibehpmghghaaDoorBd01d24bf232
import Derived.Test.YtdpibehpmghghaaDoorBd1dd7aab9be
import Derived.Test.YtdpibehpmghghaaDoorBddb49e372d1
/- The walks of the document's ends and Those. -/
namespace Go.Proofs.YtdpibehpmghghaaDoor
open Go.RowKit Go.Shelf

theorem ivlC_len2 (x : IvlD) : (ivlC x).length = 2 := rfl

theorem keepB2 {B : Nat} {w w' : World} {p0 p1 : Addr} {v0 v1 : Value} (hb : Below B w w') (h0 : p0.block < B) (h1 : p1.block < B) (h : w.cell? p0 = some v0 ∧ w.cell? p1 = some v1) : w'.cell? p0 = some v0 ∧ w'.cell? p1 = some v1 := ⟨cell_keepB hb h0 h.1, cell_keepB hb h1 h.2⟩
def ThoseOut (is : Int → Bool) (w : World) (e : Ending) (w' : World) : Prop := ∃ A c out, Hid (NormL out ∧ ∀ t, hasB out t = is t) ∧ e = .returned (.slice A out.length c) ∧ IvlsAt w' A c out ∧ Below w.heap.size w w'
/-- What has been told up to the bound i. -/
def BetwK (is : Int → Bool) (D : List Int) (i : Nat) (out : List IvlD) : Prop := (∀ b a, D[0]? = some b → D[i]? = some a → Between is b a out) ∧ out.length ≤ i ∧ (∀ x, x ∈ out → I64 x.f ∧ I64 x.t)
section
variable {is : Int → Bool} {D : List Int} {i : Nat} {out o : List IvlD} {a c : Int} {z : IvlD}
theorem BetwK.start : BetwK is D 0 [] :=
  ⟨fun b a hb ha => by
    obtain rfl : b = a := by rw [hb] at ha; simpa using ha
    exact Between.start, Nat.le_refl _, fun x h => by simp at h⟩
theorem rises_low (h : D.Pairwise (· < ·)) {b : Int} (hb : D[0]? = some b) (ha : D[i]? = some a) : b ≤ a := rises_first h hb (List.mem_of_getElem? ha)
theorem first_of_D (ha : D[i]? = some a) : ∃ b, D[0]? = some b := get_lt (by have := lt_of_get ha; omega)
theorem BetwK.skip (h : BetwK is D i out) (hD : D.Pairwise (· < ·)) (hT : TurnsAt D false is) (ha : D[i]? = some a) (hc : D[i + 1]? = some c) (hn : is a = false) : BetwK is D (i + 1) out :=
  ⟨fun b c' hb hc' => by
    obtain rfl : c = c' := by rw [hc] at hc'; simpa using hc'
    exact (h.1 b a hb ha).skip (rises_lt hD ha hc) (hT.const i a c ha hc) hn, by have := h.2.1; omega, h.2.2⟩
theorem BetwK.grow (h : BetwK is D i (o ++ [z])) (hD : D.Pairwise (· < ·)) (hT : TurnsAt D false is) (ha : D[i]? = some a) (hc : D[i + 1]? = some c) (hn : is a = true) (hz : z.t = a) (hi : I64 c) : BetwK is D (i + 1) (o ++ [⟨z.f, c⟩]) :=
  ⟨fun b c' hb hc' => by
    obtain rfl : c = c' := by rw [hc] at hc'; simpa using hc'
    exact (h.1 b a hb ha).grow (rises_low hD hb ha) (rises_lt hD ha hc) (hT.const i a c ha hc) hn hz, by have := h.2.1; simp at this ⊢; omega, fun x hx => by
    rcases List.mem_append.1 hx with hx | hx
    · exact h.2.2 x (List.mem_append_left _ hx)
    · obtain rfl : x = _ := by simpa using hx
      exact ⟨(h.2.2 z (by simp)).1, hi⟩⟩
theorem BetwK.next (h : BetwK is D i out) (hD : D.Pairwise (· < ·)) (hT : TurnsAt D false is) (ha : D[i]? = some a) (hc : D[i + 1]? = some c) (hn : is a = true) (hz : ∀ y, y ∈ out → y.t ≠ a) (hia : I64 a) (hic : I64 c) : BetwK is D (i + 1) (out ++ [⟨a, c⟩]) :=
  ⟨fun b c' hb hc' => by
    obtain rfl : c = c' := by rw [hc] at hc'; simpa using hc'
    have h1 := h.1 b a hb ha
    exact h1.next (rises_low hD hb ha) (rises_lt hD ha hc) (hT.const i a c ha hc) hn fun y hy => by have := h1.low y hy; have := hz y hy; omega, by have := h.2.1; simp; omega, fun x hx => by
    rcases List.mem_append.1 hx with hx | hx
    · exact h.2.2 x hx
    · obtain rfl : x = _ := by simpa using hx
      exact ⟨hia, hic⟩⟩
/-- Only the last one can end there. -/
theorem BetwK.last (h : BetwK is D i (o ++ [z])) (ha : D[i]? = some a) (hz : z.t ≠ a) : ∀ y, y ∈ o ++ [z] → y.t ≠ a := fun y hy e => by
  obtain ⟨b, hb⟩ := first_of_D ha
  have h1 := h.1 b a hb ha
  have h2 := h1.norm.rise y hy
  have h3 := h1.low z (by simp)
  omega
theorem BetwK.fin (h : BetwK is D i out) (hD : D.Pairwise (· < ·)) (hT : TurnsAt D false is) (hi : D.length ≤ i + 1) (h0 : i < D.length ∨ (D = [] ∧ out = [])) : NormL out ∧ ∀ t, hasB out t = is t := by
  rcases h0 with h0 | ⟨rfl, rfl⟩
  · obtain ⟨a, ha⟩ := get_lt h0
    obtain ⟨b, hb⟩ := first_of_D ha
    exact (h.1 b a hb ha).fin hD hT hb ha (by omega)
  · exact ⟨.nil, fun t => (hT.empty t).symm⟩
end

end Go.Proofs.YtdpibehpmghghaaDoor
/- The walks of the builder of a map: add, done (printed by genbuilder.py). -/
namespace Go.Proofs.YtdpibehpmghghaaDoor
open Go.RowKit Go.Shelf

theorem pieceC_len (x : PieceD) : (pieceC x).length = 3 := rfl
def joins (z p : PieceD) : Prop := z.t = p.f ∧ z.v = p.v
/-- What is done: a map, if it isn't too large. -/
def doneErr (out : List PieceD) : Int := if 200 < out.length then 2 else 0
end Go.Proofs.YtdpibehpmghghaaDoor
/- The walk of imap.each: a map by what is told between two edges (printed by geneach.py). -/
namespace Go.Proofs.YtdpibehpmghghaaDoor
open Go.RowKit Go.Shelf

def ToldK (fn : Int → Option Int) (D : List Int) (i : Nat) (out : List PieceD) : Prop := (∀ b a, D[0]? = some b → D[i]? = some a → Told fn b a out) ∧ out.length ≤ i ∧ (∀ x, x ∈ out → I64 x.f ∧ I64 x.t ∧ I64 x.v)
section
variable {fn : Int → Option Int} {D : List Int} {i : Nat} {out o : List PieceD} {a c v : Int} {z : PieceD}
theorem ToldK.start : ToldK fn D 0 [] :=
  ⟨fun b a hb ha => by
    obtain rfl : b = a := by rw [hb] at ha; simpa using ha
    exact Told.start, Nat.le_refl _, fun x h => by simp at h⟩
theorem ToldK.skip (h : ToldK fn D i out) (hD : D.Pairwise (· < ·)) (hT : TurnsAt D none fn) (ha : D[i]? = some a) (hc : D[i + 1]? = some c) (hn : fn a = none) : ToldK fn D (i + 1) out :=
  ⟨fun b c' hb hc' => by
    obtain rfl : c = c' := by rw [hc] at hc'; simpa using hc'
    exact (h.1 b a hb ha).skip (rises_lt hD ha hc) (hT.const i a c ha hc) hn, by have := h.2.1; omega, h.2.2⟩
theorem ToldK.grow (h : ToldK fn D i (o ++ [z])) (hD : D.Pairwise (· < ·)) (hT : TurnsAt D none fn) (ha : D[i]? = some a) (hc : D[i + 1]? = some c) (hn : fn a = some v) (hz : joins z ⟨a, c, v⟩) (hi : I64 c) : ToldK fn D (i + 1) (o ++ [⟨z.f, c, z.v⟩]) :=
  ⟨fun b c' hb hc' => by
    obtain rfl : c = c' := by rw [hc] at hc'; simpa using hc'
    exact (h.1 b a hb ha).grow (rises_low hD hb ha) (rises_lt hD ha hc) (hT.const i a c ha hc) (by rw [hn, hz.2]) hz.1, by have := h.2.1; simp at this ⊢; omega, fun x hx => by
    rcases List.mem_append.1 hx with hx | hx
    · exact h.2.2 x (List.mem_append_left _ hx)
    · obtain rfl : x = _ := by simpa using hx
      exact ⟨(h.2.2 z (by simp)).1, hi, (h.2.2 z (by simp)).2.2⟩⟩
theorem ToldK.next (h : ToldK fn D i out) (hD : D.Pairwise (· < ·)) (hT : TurnsAt D none fn) (ha : D[i]? = some a) (hc : D[i + 1]? = some c) (hn : fn a = some v) (hz : ∀ y, y ∈ out → y.t = a → y.v ≠ v) (hia : I64 a) (hic : I64 c) (hiv : I64 v) : ToldK fn D (i + 1) (out ++ [⟨a, c, v⟩]) :=
  ⟨fun b c' hb hc' => by
    obtain rfl : c = c' := by rw [hc] at hc'; simpa using hc'
    exact (h.1 b a hb ha).next (rises_low hD hb ha) (rises_lt hD ha hc) (hT.const i a c ha hc) hn hz, by have := h.2.1; simp; omega, fun x hx => by
    rcases List.mem_append.1 hx with hx | hx
    · exact h.2.2 x hx
    · obtain rfl : x = _ := by simpa using hx
      exact ⟨hia, hic, hiv⟩⟩
theorem ToldK.last (h : ToldK fn D i (o ++ [z])) (ha : D[i]? = some a) (hz : ¬ joins z ⟨a, c, v⟩) : ∀ y, y ∈ o ++ [z] → y.t = a → y.v ≠ v := fun y hy e ev => by
  obtain ⟨b, hb⟩ := first_of_D ha
  have h1 := h.1 b a hb ha
  rcases List.mem_append.1 hy with hy | hy
  · have h2 := h1.map.ahead hy
    have h3 := h1.low z (by simp)
    omega
  · obtain rfl : y = z := by simpa using hy
    exact hz ⟨e, ev⟩
theorem ToldK.fin (h : ToldK fn D i out) (hD : D.Pairwise (· < ·)) (hT : TurnsAt D none fn) (hi : D.length ≤ i + 1) (h0 : i < D.length ∨ (D = [] ∧ out = [])) : MapL out ∧ ∀ t, atM out t = fn t := by
  rcases h0 with h0 | ⟨rfl, rfl⟩
  · obtain ⟨a, ha⟩ := get_lt h0
    obtain ⟨b, hb⟩ := first_of_D ha
    exact (h.1 b a hb ha).fin hD hT hb ha (by omega)
  · exact ⟨.nil, fun t => (hT.empty t).symm⟩
end
/-- What each tells: the values may be too far. -/
def EachSay (fn : Int → Option Int) (er : Int) (out : List PieceD) : Prop := ∃ U, MapL U ∧ (∀ t, atM U t = fn t) ∧ er = (if 200 < U.length then 2 else 0) ∧ out = if 200 < U.length then [] else U

end Go.Proofs.YtdpibehpmghghaaDoor
/- The walk of the document's Told, for a closure that may write blocks older than the call (printed by gentold.py). -/
namespace Go.Proofs.YtdpibehpmghghaaDoor
open Go.RowKit Go.Shelf

/-- Only blocks older than base may have changed. -/
structure Late (base : Nat) (w w' : World) : Prop where
  size : w.heap.size ≤ w'.heap.size
  block : ∀ k, base ≤ k → k < w.heap.size → w'.heap[k]? = w.heap[k]?
section
variable {base : Nat} {w w' W : World}
theorem Late.of_below (h : Below w.heap.size w w') : Late base w w' := ⟨h.size, fun k _ hk => h.block k hk⟩
theorem Late.trans (h : Late base w w') (k : Late base w' W) : Late base w W := ⟨Nat.le_trans h.size k.size, fun i h1 h2 => (k.block i h1 (Nat.lt_of_lt_of_le h2 h.size)).trans (h.block i h1 h2)⟩
theorem Late.cell (h : Late base w w') {p : Addr} {v : Value} (hb : base ≤ p.block) (hl : p.block < w.heap.size) (hc : w.cell? p = some v) : w'.cell? p = some v := (World.cell?_of_block (h.block p.block hb hl)).trans hc
theorem Own.late {α : Type} {enc : α → List Value} {sz b : Nat} {e : TypeId} {v : Value} {l : List α} (h : Own enc sz w b e v l) (hk : Late base w w') (hb : base ≤ b) : Own enc sz w' b e v l := by
  obtain ⟨h0, h1⟩ := h
  refine ⟨h0, ?_⟩
  rcases h1 with h1 | ⟨g, cap, cur, hv, hg, hh, h2⟩
  · exact .inl h1
  · exact .inr ⟨g, cap, cur, hv, hg, (hk.block g (Nat.le_trans hb hg) (Array.getElem?_eq_some_iff.1 hh).1).trans hh, h2⟩
theorem Late.add {w1 : World} (h : Late base w1 w) (hb : Below w1.heap.size w w') : Late base w1 w' := ⟨Nat.le_trans h.size hb.size, fun k h1 h2 => (hb.block k h2).trans (h.block k h1 h2)⟩
theorem Late.refl (base : Nat) (w : World) : Late base w w := ⟨Nat.le_refl _, fun _ _ _ => rfl⟩
theorem IntsAt.late {A : Option Addr} {c : Nat} {l : List Int} (h : IntsAt w A c l) (hk : Late base w w') (hA : ∀ b, A = some b → base ≤ b.block) : IntsAt w' A c l := by
  obtain ⟨x, off, hS⟩ := h.sl
  refine ⟨h.lc, h.cm, x, off, fun i y hy => ?_⟩
  obtain ⟨h1, h2, h3, h4⟩ := hS i y hy
  exact ⟨h1, Nat.lt_of_lt_of_le h2 hk.size, hk.cell (p := ⟨x, off + i * 1, none⟩) (hA ⟨x, off, none⟩ h1) h2 h3, h4⟩
end
def ToldOut (f : Int → Option Int) (l : List Int) (J : List Int → Nat → World → Prop) (w : World) (e : Ending) (w' : World) : Prop := ∃ A c out D i, Hid ((MapL out ∧ ∀ t, atM out t = f t) ∧ J D i w' ∧ D.Pairwise (· < ·) ∧ (∀ x, x ∈ D ↔ x ∈ l) ∧ D.length ≤ l.length ∧ D.length ≤ i + 1 ∧ (i < D.length ∨ i = 0) ∧ out.length ≤ i) ∧ e = .returned (.slice A out.length c) ∧ PiecesAt w' A c out ∧ w.heap.size ≤ w'.heap.size

set_option maxRecDepth 100000 in
set_option maxHeartbeats 16000000 in
theorem told_gen (fn : Nat) (lb : Array Value) (f : Int → Option Int) (eg : ∀ args w, (callFunc fn args).run Tryd.prog w = .ok (.enter fn args) w) (A : Option Addr) (c : Nat) (l : List Int) (w : World) (hA : IntsAt w A c l) (hl : l.length ≤ 10000)
    (hT : ∀ D : List Int, D.Pairwise (· < ·) → (∀ x, x ∈ D ↔ x ∈ l) → TurnsAt D none f) (hv : ∀ t v, f t = some v → I64 v)
    (J : List Int → Nat → World → Prop) (hJ0 : ∀ D W, Below w.heap.size w W → J D 0 W) (hJB : ∀ D i W W', J D i W → Below w.heap.size W W' → J D i W')
    (hp : ∀ (D : List Int) (i : Nat) (W : World) (x : Int), D.Pairwise (· < ·) → (∀ x, x ∈ D ↔ x ∈ l) → J D i W → D[i]? = some x → i + 1 < D.length → w.heap.size ≤ W.heap.size → Calls Tryd.prog fn (#[.int .i64 x] ++ lb) W fun e w' => ∃ v, e = .returned (.tuple #[.int .i64 v, .bool (f x).isSome]) ∧ (∀ y, f x = some y → v = y) ∧ J D (i + 1) w' ∧ Late w.heap.size W w') :
    Calls Tryd.prog 65 #[.slice A l.length c, .func (.func fn) #[] lb] w (ToldOut f l J w) := by
  obtain ⟨i0, hi, hz0, hz1, hz2⟩ := info_piece2
  have hBo := bounds_fresh A c l w hA hl
  have HI64 := Lib.hid hA.i64
  have HP := Lib.hid hp; have HT := Lib.hid hT; have HV := Lib.hid hv; have HJ0 := Lib.hid hJ0; have HJB := Lib.hid hJB
  clear hA hp hT hv hJ0 hJB
  go_enter Tryd.func65, Tryd.ntmps65
  go_wp2_with fail
  refine hBo.mono ?_
  rintro e w1 ⟨A1, c1, D, HD, hfr, rfl, hI1, hb1⟩
  have hDl : D.length ≤ 10000 := by have := HD.out.2.2; omega
  have hD9 := hI1.len
  have HTD : Hid (TurnsAt D none f) := Lib.hid (HT.out D HD.out.1 HD.out.2.1)
  have HDI : Hid (∀ k x, D[k]? = some x → I64 x) := Lib.hid fun k x hx => HI64.out x ((HD.out.2.1 x).1 (List.mem_of_getElem? hx))
  have HFR := Lib.hid hfr
  have hw1 := hb1.size
  have HJ1 := Lib.hid (HJ0.out D w1 hb1)
  have HI1 := Lib.hid hI1
  clear hBo hfr hb1 hI1
  go_wp2_with fail
  go_loopw [5, 6] (fun u v wr => ∃ (i : Nat) (out : List PieceD), v = .int .i64 i ∧ Hid (i < D.length ∨ (D = [] ∧ i = 0 ∧ out = [])) ∧ Hid (ToldK f D i out) ∧ Own pieceC 3 wr w1.heap.size 70 u out ∧ Hid (Late w.heap.size w1 wr) ∧ Hid (J D i wr)) (fun _ v _ => D.length - (intOf v).toNat)
  case atStart => exact ⟨0, [], rfl, Lib.hid (by cases D with
    | nil => exact .inr ⟨rfl, rfl, rfl⟩
    | cons y r => exact .inl (by simp)), Lib.hid ToldK.start, Own.nil, Lib.hid (Late.refl _ _), HJ1⟩
  case round =>
    clear HJ1
    obtain ⟨i, out, rfl, H0, HB, hO, HL, HJ⟩ := hrel
    have hwr := HL.out.size
    have hil : i ≤ D.length := by rcases H0.out with h | ⟨h, h2, _⟩ <;> omega
    have hol := HB.out.2.1
    by_cases hlt : i + 1 < D.length
    case neg =>
      obtain ⟨Ao, co, rfl, hIo⟩ := own_pieces hO HB.out.2.2
      have HF : Hid ((MapL out ∧ ∀ t, atM out t = f t) ∧ J D i wr ∧ D.Pairwise (· < ·) ∧ (∀ x, x ∈ D ↔ x ∈ l) ∧ D.length ≤ l.length ∧ D.length ≤ i + 1 ∧ (i < D.length ∨ i = 0) ∧ out.length ≤ i) := Lib.hid ⟨HB.out.fin HD.out.1 HTD.out (by omega) (H0.out.imp id fun h => ⟨h.1, h.2.2⟩), HJ.out, HD.out.1, HD.out.2.1, HD.out.2.2, by omega, H0.out.imp id fun h => h.2.1, hol⟩
      go_wp2_with fail
      go_ret
      exact ⟨Ao, co, out, D, i, HF, rfl, hIo, by omega⟩
    case pos =>
      obtain ⟨a, ha⟩ := get_lt (show i < D.length by omega)
      obtain ⟨d, hd⟩ := get_lt hlt
      obtain ⟨b, off, rfl, hb0, x0⟩ := HI1.out.get ha
      obtain ⟨b', off', e', _, x1⟩ := HI1.out.get hd
      obtain ⟨rfl, rfl⟩ : b = b' ∧ off = off' := by simpa using e'
      have hbo : w.heap.size ≤ b := HFR.out _ rfl
      have hia := HDI.out i a ha; have hid := HDI.out (i + 1) d hd
      have HIA := Lib.hid hia; have HID := Lib.hid hid
      have WX0 := Lib.hid x0; have WX1 := Lib.hid x1
      have x0 := HL.out.cell (p := ⟨b, off + i, none⟩) hbo hb0 WX0.out
      have HA := Lib.hid ha; have HDD := Lib.hid hd
      have hc := HP.out D i wr a HD.out.1 HD.out.2.1 HJ.out ha hlt (by omega)
      have hil' : i < D.length := by omega
      have hltz : (i : Int) + 1 < (D.length : Int) := by omega
      have hi0 : (0 : Int) ≤ (i : Int) + 1 := by omega
      have hiw : IntKind.i64.wrap ((i : Int) + 1) = (i : Int) + 1 := IntWalk.i64_in _ (by omega)
      clear ha hd e' hia hid x1
      cases hq : f a with
      | none =>
        rw [hq] at hc
        have HQ := Lib.hid hq
        simp only [Option.isSome_none] at hc
        clear hq
        go_wp2_with fail
        refine hc.mono ?_
        rintro e w' ⟨v, rfl, _, hJ2, hL2⟩
        go_wp2_with fail
        go_roundw
        case rel => exact ⟨i + 1, out, by go_num, Lib.hid (.inl hlt), Lib.hid (HB.out.skip HD.out.1 HTD.out HA.out HDD.out HQ.out), hO.late hL2 hw1, Lib.hid (HL.out.trans hL2), Lib.hid hJ2⟩
        case measure => simp [intOf]; omega
      | some y =>
        rw [hq] at hc
        have HQ := Lib.hid hq
        have HIY := Lib.hid (HV.out a y hq)
        simp only [Option.isSome_some] at hc
        clear hq
        go_wp2_with fail
        refine hc.mono ?_
        rintro e w2 ⟨v, rfl, hvy, hJ2, hL2⟩
        obtain rfl : v = y := hvy y rfl
        clear hvy
        have hO := hO.late hL2 hw1
        have HL := Lib.hid (HL.out.trans hL2)
        have hwr := HL.out.size
        have x0 := HL.out.cell (p := ⟨b, off + i, none⟩) hbo hb0 WX0.out
        have x1 := HL.out.cell (p := ⟨b, off + (i + 1), none⟩) hbo hb0 WX1.out
        have HJ2 := Lib.hid hJ2
        clear hL2 hJ2
        have hcl : out.length + 1 ≤ 1000000 := by omega
        rcases List.eq_nil_or_concat out with rfl | ⟨o, z, rfl⟩
        · have HB2 : Hid (ToldK f D (i + 1) ([] ++ [⟨a, d, v⟩])) := Lib.hid (HB.out.next HD.out.1 HTD.out HA.out HDD.out HQ.out (fun y hy => by simp at hy) HIA.out HID.out HIY.out)
          obtain ⟨Ao, co, rfl⟩ := hO.form
          go_wp2_with fail
          go_quiet (fail)
          go_wp2_with fail
          obtain ⟨wr, hwr'⟩ : ∃ wr, wr = w2.drewN nq := ⟨_, rfl⟩
          have hO : Own pieceC 3 wr w1.heap.size 70 (.slice Ao ([] : List PieceD).length co) [] := by rw [hwr']; exact hO.drewN _
          have hb : Below w1.heap.size w2 wr := by rw [hwr']; exact below_drewN (Below.refl _ _) _
          have hwr := Nat.le_trans hwr hb.size
          have S0 : wr.cell? ⟨b, off + i, none⟩ = some (.int .i64 a) ∧ wr.cell? ⟨b, off + (i + 1), none⟩ = some (.int .i64 d) := by rw [hwr']; exact ⟨x0, x1⟩
          rw [← hwr']
          clear hwr' x0 x1
          go_region_held_law (fun w' => w'.cell? ⟨b, off + i, none⟩ = some (.int .i64 a) ∧ w'.cell? ⟨b, off + (i + 1), none⟩ = some (.int .i64 d))
            (first | exact S0 | (exact keepB2 (B := w1.heap.size) (below_drew ((Below.refl _ wr).alloc hwr _)) hb0 hb0 S0) | (exact keepB2 (B := w1.heap.size) ((below_drew ((Below.refl _ wr).alloc hwr _)).trans hb8) hb0 hb0 S0))
            (first | (refine step_append_els (enc := pieceC) rfl (.tmp 67) (.tmp 79) 57 rfl w1.heap.size 70 i0 _ 3 24 Tryd.underlying57 hi hz0 hz1 hz2 rfl (by decide) _ [] [⟨a, d, v⟩] 1 rfl (by decide) rfl (hO.alloc _).drew #[.int .i64 a, .int .i64 d, .int .i64 v] rfl _ (Blk.new wr 70 _).drew rfl rfl three_ints hcl (by decide) (by simp; omega) ?_; intro v' w6 hown6 hb8 _))
          have hbS := hb.trans ((below_drew ((Below.refl _ wr).alloc hwr _)).trans hb8)
          go_wp2_with fail
          go_roundw
          case rel => exact ⟨i + 1, [] ++ [⟨a, d, v⟩], by go_num, Lib.hid (.inl hlt), HB2, hown6, Lib.hid (HL.out.add hbS), Lib.hid (HJB.out _ _ _ _ HJ2.out (hbS.mono hw1))⟩
          case measure => simp [intOf]; omega
        · rw [List.concat_eq_append] at HB hO hol hcl
          obtain ⟨Ao, co, rfl⟩ := hO.form
          rw [List.length_append] at hO hol hcl ⊢
          simp only [List.length_cons, List.length_nil, Nat.zero_add] at hO hol hcl ⊢
          obtain ⟨go, rfl⟩ : ∃ g, Ao = some ⟨g, 0, none⟩ := by
            rcases hO.2 with ⟨h1, _⟩ | ⟨g, cap, cur, hv, _⟩
            · simp at h1
            · simp only [Value.slice.injEq] at hv
              exact ⟨g, hv.1⟩
          obtain ⟨hnm, hgo, hmc, hcm, cs, hBk, hcs, hrow⟩ := hO.cells pieceC_len
          have hza : (o ++ [z])[o.length]? = some z := by simp
          have z0 : cs[o.length * 3]? = some (.int .i64 z.f) := by have := hrow _ z hza 0 (by decide); simpa [pieceC] using this
          have z1 : cs[o.length * 3 + 1]? = some (.int .i64 z.t) := by have := hrow _ z hza 1 (by decide); simpa [pieceC] using this
          have z2 : cs[o.length * 3 + 2]? = some (.int .i64 z.v) := by have := hrow _ z hza 2 (by decide); simpa [pieceC] using this
          have hjw : IntKind.i64.wrap (o.length : Int) = o.length := IntWalk.i64_in _ (by omega)
          have hd : (0 : Int) < (o.length : Int) + 1 := by omega
          obtain ⟨c1', c2', c3'⟩ := hBk.facts
          have hjl : o.length < o.length + 1 := by omega
          have HR := Lib.hid hrow
          have HMC := Lib.hid hmc
          clear hrow hmc hnm hza
          by_cases hz : joins z ⟨a, d, v⟩
          case pos =>
            have hd2 : (z.t == a) = true := by simpa using hz.1
            have hd3 : (z.v == v) = true := by simpa using hz.2
            have HB2 := Lib.hid (HB.out.grow HD.out.1 HTD.out HA.out HDD.out HQ.out hz HID.out)
            clear hz
            go_wp2_with fail
            go_quiet (fail)
            go_wp2_with fail
            go_roundw
            case rel =>
              have hbS : Below w1.heap.size w2 ((w2.drewN nq).setCell ⟨go, o.length * 3 + 1, none⟩ (.int .i64 d)) := (below_drewN (Below.refl _ _) _).setCell hgo _
              refine ⟨i + 1, o ++ [⟨z.f, d, z.v⟩], by go_num, Lib.hid (.inl hlt), HB2, ?_, Lib.hid (HL.out.add hbS), Lib.hid (HJB.out _ _ _ _ HJ2.out (hbS.mono hw1))⟩
              · have h2 := Own.of_cells (enc := pieceC) (m := o ++ [⟨z.f, d, z.v⟩]) pieceC_len (by decide) ((hBk.drewN nq).set_ (o.length * 3 + 1) (.int .i64 d)) hgo (by have := HMC.out; simpa using this) hcm (by simpa using hcs) (by
                  have e : (o ++ [z]).set o.length ⟨z.f, d, z.v⟩ = o ++ [⟨z.f, d, z.v⟩] := by simp
                  rw [← e]
                  refine HR.out.set (by simp) (fun t ht => by rw [Array.getElem?_setIfInBounds_ne (by omega)]) (fun t ht => ?_)
                  have k1 : o.length * 3 + 1 < cs.size := (Array.getElem?_eq_some_iff.1 z1).1
                  match t, ht with
                  | 0, _ =>
                    show (cs.setIfInBounds (o.length * 3 + 1) (.int .i64 d))[o.length * 3]? = _
                    rw [Array.getElem?_setIfInBounds_ne (by omega), z0]; rfl
                  | 1, _ => rw [Array.getElem?_setIfInBounds_self_of_lt k1]; rfl
                  | 2, _ =>
                    rw [Array.getElem?_setIfInBounds_ne (by omega), z2]; rfl)
                simpa using h2
            case measure => simp [intOf]; omega
          case neg =>
            have HB2 : Hid (ToldK f D (i + 1) (o ++ [z] ++ [⟨a, d, v⟩])) := Lib.hid (HB.out.next HD.out.1 HTD.out HA.out HDD.out HQ.out (HB.out.last HA.out hz) HIA.out HID.out HIY.out)
            by_cases ht : z.t = a
            case pos =>
              have hd2 : (z.t == a) = true := by simpa using ht
              have hd3 : (z.v == v) = false := by
                cases hc : (z.v == v)
                · rfl
                · exact absurd ⟨ht, by simpa using hc⟩ hz
              clear hz ht
              go_wp2_with fail
              go_quiet (fail)
              go_wp2_with fail
              obtain ⟨wr, hwr'⟩ : ∃ wr, wr = w2.drewN nq := ⟨_, rfl⟩
              have hO : Own pieceC 3 wr w1.heap.size 70 (.slice (some ⟨go, 0, none⟩) (o.length + 1) co) (o ++ [z]) := by rw [hwr']; exact hO.drewN _
              have hb : Below w1.heap.size w2 wr := by rw [hwr']; exact below_drewN (Below.refl _ _) _
              have hwr := Nat.le_trans hwr hb.size
              have S0 : wr.cell? ⟨b, off + i, none⟩ = some (.int .i64 a) ∧ wr.cell? ⟨b, off + (i + 1), none⟩ = some (.int .i64 d) := by rw [hwr']; exact ⟨x0, x1⟩
              rw [← hwr']
              clear hwr' x0 x1
              go_region_held_law (fun w' => w'.cell? ⟨b, off + i, none⟩ = some (.int .i64 a) ∧ w'.cell? ⟨b, off + (i + 1), none⟩ = some (.int .i64 d))
                (first | exact S0 | (exact keepB2 (B := w1.heap.size) (below_drew ((Below.refl _ wr).alloc hwr _)) hb0 hb0 S0) | (exact keepB2 (B := w1.heap.size) ((below_drew ((Below.refl _ wr).alloc hwr _)).trans hb8) hb0 hb0 S0))
                (first | (refine step_append_els (enc := pieceC) rfl (.tmp 67) (.tmp 79) 57 rfl w1.heap.size 70 i0 _ 3 24 Tryd.underlying57 hi hz0 hz1 hz2 rfl (by decide) _ (o ++ [z]) [⟨a, d, v⟩] 1 rfl (by decide) rfl (hO.alloc _).drew #[.int .i64 a, .int .i64 d, .int .i64 v] rfl _ (Blk.new wr 70 _).drew rfl rfl three_ints (by simp; omega) (by decide) (by simp; omega) ?_; intro v' w6 hown6 hb8 _))
              have hbS := hb.trans ((below_drew ((Below.refl _ wr).alloc hwr _)).trans hb8)
              go_wp2_with fail
              go_roundw
              case rel => exact ⟨i + 1, (o ++ [z]) ++ [⟨a, d, v⟩], by go_num, Lib.hid (.inl hlt), HB2, hown6, Lib.hid (HL.out.add hbS), Lib.hid (HJB.out _ _ _ _ HJ2.out (hbS.mono hw1))⟩
              case measure => simp [intOf]; omega
            case neg =>
              have hd2 : (z.t == a) = false := by simpa using ht
              clear hz ht
              go_wp2_with fail
              go_quiet (fail)
              go_wp2_with fail
              obtain ⟨wr, hwr'⟩ : ∃ wr, wr = w2.drewN nq := ⟨_, rfl⟩
              have hO : Own pieceC 3 wr w1.heap.size 70 (.slice (some ⟨go, 0, none⟩) (o.length + 1) co) (o ++ [z]) := by rw [hwr']; exact hO.drewN _
              have hb : Below w1.heap.size w2 wr := by rw [hwr']; exact below_drewN (Below.refl _ _) _
              have hwr := Nat.le_trans hwr hb.size
              have S0 : wr.cell? ⟨b, off + i, none⟩ = some (.int .i64 a) ∧ wr.cell? ⟨b, off + (i + 1), none⟩ = some (.int .i64 d) := by rw [hwr']; exact ⟨x0, x1⟩
              rw [← hwr']
              clear hwr' x0 x1
              go_region_held_law (fun w' => w'.cell? ⟨b, off + i, none⟩ = some (.int .i64 a) ∧ w'.cell? ⟨b, off + (i + 1), none⟩ = some (.int .i64 d))
                (first | exact S0 | (exact keepB2 (B := w1.heap.size) (below_drew ((Below.refl _ wr).alloc hwr _)) hb0 hb0 S0) | (exact keepB2 (B := w1.heap.size) ((below_drew ((Below.refl _ wr).alloc hwr _)).trans hb8) hb0 hb0 S0))
                (first | (refine step_append_els (enc := pieceC) rfl (.tmp 67) (.tmp 79) 57 rfl w1.heap.size 70 i0 _ 3 24 Tryd.underlying57 hi hz0 hz1 hz2 rfl (by decide) _ (o ++ [z]) [⟨a, d, v⟩] 1 rfl (by decide) rfl (hO.alloc _).drew #[.int .i64 a, .int .i64 d, .int .i64 v] rfl _ (Blk.new wr 70 _).drew rfl rfl three_ints (by simp; omega) (by decide) (by simp; omega) ?_; intro v' w6 hown6 hb8 _))
              have hbS := hb.trans ((below_drew ((Below.refl _ wr).alloc hwr _)).trans hb8)
              go_wp2_with fail
              go_roundw
              case rel => exact ⟨i + 1, (o ++ [z]) ++ [⟨a, d, v⟩], by go_num, Lib.hid (.inl hlt), HB2, hown6, Lib.hid (HL.out.add hbS), Lib.hid (HJB.out _ _ _ _ HJ2.out (hbS.mono hw1))⟩
              case measure => simp [intOf]; omega
end Go.Proofs.YtdpibehpmghghaaDoor
/- The walk of imap.each, of a closure that writes (printed by geneachg.py). -/
namespace Go.Proofs.YtdpibehpmghghaaDoor
open Go.RowKit Go.Shelf

end Go.Proofs.YtdpibehpmghghaaDoor
/- The walk of imap.edges, of two maps (printed by genedges2.py). -/
namespace Go.Proofs.YtdpibehpmghghaaDoor
open Go.RowKit Go.Shelf Go.Sort

def endsP (l : List PieceD) : List Int := l.flatMap fun x => [x.f, x.t]
theorem endsP_snoc {l : List PieceD} {x : PieceD} : endsP (l ++ [x]) = endsP l ++ [x.f, x.t] := by simp [endsP]
theorem endsP_len : ∀ l : List PieceD, (endsP l).length = 2 * l.length
  | [] => rfl
  | x :: l => by
    show ([x.f, x.t] ++ endsP l).length = _
    rw [List.length_append, endsP_len l]
    simp
    omega
theorem mem_endsP {l : List PieceD} {n : Int} : n ∈ endsP l ↔ ∃ x, x ∈ l ∧ (n = x.f ∨ n = x.t) := by simp [endsP]
theorem endsP_turns {l : List PieceD} {D S : List Int} (h : D.Pairwise (· < ·)) (hm : ∀ x, x ∈ D ↔ x ∈ S) (hS : ∀ x, x ∈ endsP l → x ∈ S) : TurnsAt D none (atM l) :=
  atM_turns h fun x hx => ⟨(hm _).2 (hS _ (mem_endsP.2 ⟨x, hx, .inl rfl⟩)), (hm _).2 (hS _ (mem_endsP.2 ⟨x, hx, .inr rfl⟩))⟩
theorem compact_uniq {zs : List Int} (hs : zs.Pairwise (· ≤ ·)) : ∀ m, m ≤ zs.length → Uniq zs m (Lib.compactUpTo zs.toArray m) ∧ (0 < m → ∃ o, Lib.compactUpTo zs.toArray m = o ++ [zs.toArray[m - 1]!])
  | 0, _ => ⟨by simpa [Lib.compactUpTo] using Uniq.start, fun h => by omega⟩
  | m + 1, hm => by
    obtain ⟨h1, h2⟩ := compact_uniq hs m (by omega)
    have hx : zs[m]? = some zs.toArray[m]! := by
      rw [List.getElem?_eq_getElem (by omega)]
      simp [getElem!_pos, show m < zs.length by omega]
    rw [Lib.compactUpTo_succ]
    rcases Nat.eq_zero_or_pos m with rfl | h0
    · have hk : Lib.keeps zs.toArray 0 = true := Lib.keeps_lt_one _ 0 (by omega)
      rw [if_pos hk]
      have e : Lib.compactUpTo zs.toArray 0 = [] := by simp [Lib.compactUpTo]
      rw [e]
      exact ⟨by simpa using Uniq.first hx, fun _ => ⟨[], by simp⟩⟩
    · obtain ⟨o, ho⟩ := h2 h0
      by_cases hne : zs.toArray[m]! = zs.toArray[m - 1]!
      · rw [Lib.keeps_neg h0 hne, if_neg (by simp), List.append_nil]
        rw [ho] at h1 ⊢
        rw [← hne] at h1 ⊢
        exact ⟨h1.same hx, fun _ => ⟨o, by rw [Nat.add_sub_cancel]⟩⟩
      · rw [Lib.keeps_pos hne, if_pos rfl]
        refine ⟨?_, fun _ => ⟨_, by rw [Nat.add_sub_cancel]⟩⟩
        rw [ho] at h1 ⊢
        exact h1.new hs hx fun e => hne e.symm
def CompOut (l : List Int) (w : World) (base : Nat) (e : Ending) (w' : World) : Prop := ∃ A c D, Hid (D.Pairwise (· < ·) ∧ (∀ x, x ∈ D ↔ x ∈ l) ∧ D.length ≤ l.length) ∧ e = .returned (.slice A D.length c) ∧ IntsAt w' A c D ∧ Below base w w'
theorem compact_any (v : Value) (l : List Int) (w : World) (base : Nat) (hown : Own intEnc 1 w base 3 v l) (hbase : base ≤ w.heap.size) (hl : l.length ≤ 100000) (hs : l.Pairwise (· ≤ ·)) (hi : ∀ x, x ∈ l → I64 x) :
    Calls Tryd.prog 101 #[v] w (CompOut l w base) := by
  have hu := (compact_uniq hs l.length (Nat.le_refl _)).1
  have hm := hu.mem
  rw [List.take_length] at hm
  rcases hown.2 with ⟨hv, h0⟩ | ⟨g, cap, cur, hv, hg, hh, hnc, hcm, _⟩
  · rw [hv]
    have h0' : l = [] := List.eq_nil_of_length_eq_zero h0
    exact (Tryd.slices_Compact_int_empty none 0 w).mono fun e w' ⟨he, hw⟩ => ⟨none, 0, [], Lib.hid ⟨.nil, by simp [h0'], Nat.zero_le _⟩, he, ⟨Nat.le_refl _, Nat.zero_le _, SlAt.nil⟩, by rw [hw]; exact Below.refl _ _⟩
  · rw [hv] at hown ⊢
    have hH := holds_int (hown.holdsK (sz := 1) (fun _ => rfl) (by decide))
    refine (Tryd.slices_Compact_int g 0 cap l w hH (by omega) hnc).mono fun e w' ⟨he, n, hw⟩ => ?_
    have hcl : (Lib.compact l).length ≤ l.length := hu.short
    have hsz : (Lib.compact l ++ List.replicate (l.length - (Lib.compact l).length) (0 : Int)).length = l.length := by rw [List.length_append, List.length_replicate]; omega
    have h2 := hown.sortWorld (sz := 1) (m := n) (os := #[]) (fun _ => rfl) (by decide) hsz
    have ew : w' = Go.Proofs.sortWorldK intEnc 1 w g 0 n (Lib.compact l ++ List.replicate (l.length - (Lib.compact l).length) (0 : Int)).toArray #[] := by
      rw [hw, putRow_int]
      unfold Go.Proofs.sortWorldK
      rw [grow_empty]
    rw [← ew] at h2
    have h3 := h2.cut intEnc_len (by decide) hcl
    rw [List.take_left] at h3
    obtain ⟨Ax, cx, ex, hIx⟩ := own_ints h3 (fun x hx => hi x ((hm x).1 hx))
    refine ⟨Ax, cx, Lib.compact l, Lib.hid ⟨hu.up, hm, hcl⟩, ?_, hIx, ?_⟩
    · rw [he, ex]
    · rw [ew]; exact below_sort hg hbase

end Go.Proofs.YtdpibehpmghghaaDoor
/- The walk of imap.Put. -/
namespace Go.Proofs.YtdpibehpmghghaaDoor
open Go.RowKit Go.Shelf

/-- What one map tells, else another one. -/
def elseO (x y : Option Int) : Option Int := match x with | some v => some v | none => y
def oneL (p : PieceD) : List PieceD := if p.t ≤ p.f then [] else [p]
theorem oneL_put (p : PieceD) (m : List PieceD) (t : Int) : elseO (atM (oneL p) t) (atM m t) = putM m p t := by
  unfold oneL putM
  by_cases h : p.t ≤ p.f
  · rw [if_pos h, if_neg (by omega)]; rfl
  · rw [if_neg h]
    by_cases h2 : p.f ≤ t ∧ t < p.t
    · rw [if_pos h2, at_hit h2]; rfl
    · rw [if_neg h2, at_miss h2]; rfl
/-- A list of one piece, in a block of its own. -/
theorem one_at {W : World} {b : Nat} {p : PieceD} (h : Blk W b 70 #[.int .i64 p.f, .int .i64 p.t, .int .i64 p.v]) (h1 : I64 p.f) (h2 : I64 p.t) (h3 : I64 p.v) : PiecesAt W (some ⟨b, 0, none⟩) 1 [p] := by
  refine ⟨Nat.le_refl _, by decide, b, 0, fun k x hx => ?_⟩
  obtain ⟨rfl, rfl⟩ : k = 0 ∧ x = p := by
    match k, hx with
    | 0, hx => exact ⟨rfl, by simpa using hx.symm⟩
    | k + 1, hx => simp at hx
  exact ⟨rfl, h.lt, ⟨h.cell 0, h.cell 1, h.cell 2⟩, h1, h2, h3⟩
theorem EachSay.tells {fn : Int → Option Int} {er : Int} {out : List PieceD} (h : EachSay fn er out) (hv : ∀ t v, fn t = some v → nearB v = true) : Tells fn er out := by
  obtain ⟨U, h1, h2, h3, h4⟩ := h
  by_cases hl : 200 < U.length
  · rw [if_pos hl] at h3 h4
    exact ⟨U, h1, h2, by rw [h3, tellErr_large hv hl], fun h => by omega, fun _ => h4⟩
  · rw [if_neg hl] at h3 h4
    exact ⟨U, h1, h2, by rw [h3, tellErr_ok hv hl], fun _ => h4, fun h => absurd h3 h⟩
theorem put_vals {m : List PieceD} {p : PieceD} {t v : Int} (h0 : mapErr m = 0) (hp : nearB p.v = true) (h : putM m p t = some v) : nearB v = true := by
  unfold putM at h
  split at h
  · obtain rfl : p.v = v := by simpa using h
    exact hp
  · exact (mapErr_zero h0).2.vals h
end Go.Proofs.YtdpibehpmghghaaDoor
/- The walks of imap.only, Cut, Keep; imap.pieces (printed by genmaponly.py). -/
namespace Go.Proofs.YtdpibehpmghghaaDoor
open Go.RowKit Go.Shelf

/-- Pieces of a set. -/
def zeroP (l : List IvlD) : List PieceD := l.map fun x => ⟨x.f, x.t, 0⟩
theorem zeroP_succ {l : List IvlD} {k : Nat} {x : IvlD} (h : l[k]? = some x) : zeroP (l.take (k + 1)) = zeroP (l.take k) ++ [⟨x.f, x.t, 0⟩] := by
  unfold zeroP; rw [take_succ_ h, List.map_append]; rfl
theorem zeroP_len (l : List IvlD) : (zeroP l).length = l.length := List.length_map _
theorem mem_zeroP {l : List IvlD} {x : IvlD} (h : x ∈ l) : x.f ∈ endsP (zeroP l) ∧ x.t ∈ endsP (zeroP l) := by
  have h2 : (⟨x.f, x.t, 0⟩ : PieceD) ∈ zeroP l := List.mem_map.2 ⟨x, h, rfl⟩
  exact ⟨mem_endsP.2 ⟨_, h2, .inl rfl⟩, mem_endsP.2 ⟨_, h2, .inr rfl⟩⟩
end Go.Proofs.YtdpibehpmghghaaDoor
/- The walks of imap.Together and of the closure of imap.Merge. -/
namespace Go.Proofs.YtdpibehpmghghaaDoor
open Go.RowKit Go.Shelf

set_option maxHeartbeats 1000000 in
theorem together_any (a b k : Int) (hk : 1 ≤ k ∧ k ≤ 3) (ha : nearB a = true) (hb : nearB b = true) (w : World) : Calls Tryd.prog 103 #[.int .i64 a, .int .i64 b, .int .i64 k] w fun e w' => e = .returned (.int .i64 (both3 k a b)) ∧ w = w' := by
  have h1 := near_iff.1 ha
  have h2 := near_iff.1 hb
  have hs : IntKind.i64.wrap (a + b) = a + b := IntWalk.i64_in _ (by omega)
  have hk3 : k = 1 ∨ k = 2 ∨ k = 3 := by omega
  clear ha hb hk
  have HR1 : both3 1 a b = min a b := by unfold both3; rw [if_neg (by decide), if_pos rfl]
  have HR2 : both3 2 a b = max a b := by unfold both3; rw [if_neg (by decide), if_neg (by decide)]
  have HR3 : both3 3 a b = a + b := by unfold both3; rw [if_pos rfl]
  have K1 := Lib.hid HR1.symm; have K2 := Lib.hid HR2.symm; have K3 := Lib.hid HR3.symm
  clear HR1 HR2 HR3 h1 h2
  rcases hk3 with rfl | rfl | rfl
  all_goals
    go_enter Tryd.func103, Tryd.ntmps103
    go_wp2_with fail
    go_ret
    first
    | exact ⟨ret_int K1.out, rfl⟩
    | exact ⟨ret_int K2.out, rfl⟩
    | exact ⟨ret_int K3.out, rfl⟩

/-- Is a value too far? -/
def farO (o : Option Int) : Bool := match o with | some v => farB v | none => false
end Go.Proofs.YtdpibehpmghghaaDoor
