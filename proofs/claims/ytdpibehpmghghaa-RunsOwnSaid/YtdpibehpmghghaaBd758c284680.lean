/- One text: Those. -/
import Derived.Shelf.Abstract
import Derived.Shelf.GgClosure.Gives
import Derived.BigRegion
import Derived.Test.YtdpibehpmghghaaBd8b398bcfa9
import Derived.Test.YtdpibehpmghghaaBda2f47ef360
/- The walks of the document's ends and Those. -/
namespace Go.Proofs.Ytdpibehpmghghaa
open Go.RowKit Go.Shelf

theorem ivlC_len2 (x : IvlD) : (ivlC x).length = 2 := rfl

theorem keepB2 {B : Nat} {w w' : World} {p0 p1 : Addr} {v0 v1 : Value} (hb : Below B w w') (h0 : p0.block < B) (h1 : p1.block < B) (h : w.cell? p0 = some v0 ∧ w.cell? p1 = some v1) : w'.cell? p0 = some v0 ∧ w'.cell? p1 = some v1 := ⟨cell_keepB hb h0 h.1, cell_keepB hb h1 h.2⟩
def ThoseOut (is : Int → Bool) (w : World) (e : Ending) (w' : World) : Prop := ∃ A c out, Hid (NormL out ∧ ∀ t, hasB out t = is t) ∧ e = .returned (.slice A out.length c) ∧ IvlsAt w' A c out ∧ Below w.heap.size w w'
/-- What has been told up to the bound i. -/
def BetwK (is : Int → Bool) (D : List Int) (i : Nat) (out : List IvlD) : Prop := (∀ b a, D[0]? = some b → D[i]? = some a → Between is b a out) ∧ out.length ≤ i ∧ (∀ x, x ∈ out → I64 x.f ∧ I64 x.t)
section
variable {is : Int → Bool} {D : List Int} {i : Nat} {out o : List IvlD} {a c : Int} {z : IvlD}
theorem BetwK.start : BetwK is D 0 [] :=
  ⟨fun b a hb ha => by
    obtain rfl : b = a := by rw [hb] at ha; simpa using ha
    exact Between.start, Nat.le_refl _, fun x h => by simp at h⟩
theorem rises_low (h : D.Pairwise (· < ·)) {b : Int} (hb : D[0]? = some b) (ha : D[i]? = some a) : b ≤ a := rises_first h hb (List.mem_of_getElem? ha)
theorem first_of_D (ha : D[i]? = some a) : ∃ b, D[0]? = some b := get_lt (by have := lt_of_get ha; omega)
theorem BetwK.skip (h : BetwK is D i out) (hD : D.Pairwise (· < ·)) (hT : TurnsAt D false is) (ha : D[i]? = some a) (hc : D[i + 1]? = some c) (hn : is a = false) : BetwK is D (i + 1) out :=
  ⟨fun b c' hb hc' => by
    obtain rfl : c = c' := by rw [hc] at hc'; simpa using hc'
    exact (h.1 b a hb ha).skip (rises_lt hD ha hc) (hT.const i a c ha hc) hn, by have := h.2.1; omega, h.2.2⟩
theorem BetwK.grow (h : BetwK is D i (o ++ [z])) (hD : D.Pairwise (· < ·)) (hT : TurnsAt D false is) (ha : D[i]? = some a) (hc : D[i + 1]? = some c) (hn : is a = true) (hz : z.t = a) (hi : I64 c) : BetwK is D (i + 1) (o ++ [⟨z.f, c⟩]) :=
  ⟨fun b c' hb hc' => by
    obtain rfl : c = c' := by rw [hc] at hc'; simpa using hc'
    exact (h.1 b a hb ha).grow (rises_low hD hb ha) (rises_lt hD ha hc) (hT.const i a c ha hc) hn hz, by have := h.2.1; simp at this ⊢; omega, fun x hx => by
    rcases List.mem_append.1 hx with hx | hx
    · exact h.2.2 x (List.mem_append_left _ hx)
    · obtain rfl : x = _ := by simpa using hx
      exact ⟨(h.2.2 z (by simp)).1, hi⟩⟩
theorem BetwK.next (h : BetwK is D i out) (hD : D.Pairwise (· < ·)) (hT : TurnsAt D false is) (ha : D[i]? = some a) (hc : D[i + 1]? = some c) (hn : is a = true) (hz : ∀ y, y ∈ out → y.t ≠ a) (hia : I64 a) (hic : I64 c) : BetwK is D (i + 1) (out ++ [⟨a, c⟩]) :=
  ⟨fun b c' hb hc' => by
    obtain rfl : c = c' := by rw [hc] at hc'; simpa using hc'
    have h1 := h.1 b a hb ha
    exact h1.next (rises_low hD hb ha) (rises_lt hD ha hc) (hT.const i a c ha hc) hn fun y hy => by have := h1.low y hy; have := hz y hy; omega, by have := h.2.1; simp; omega, fun x hx => by
    rcases List.mem_append.1 hx with hx | hx
    · exact h.2.2 x hx
    · obtain rfl : x = _ := by simpa using hx
      exact ⟨hia, hic⟩⟩
/-- Only the last one can end there. -/
theorem BetwK.last (h : BetwK is D i (o ++ [z])) (ha : D[i]? = some a) (hz : z.t ≠ a) : ∀ y, y ∈ o ++ [z] → y.t ≠ a := fun y hy e => by
  obtain ⟨b, hb⟩ := first_of_D ha
  have h1 := h.1 b a hb ha
  have h2 := h1.norm.rise y hy
  have h3 := h1.low z (by simp)
  omega
theorem BetwK.fin (h : BetwK is D i out) (hD : D.Pairwise (· < ·)) (hT : TurnsAt D false is) (hi : D.length ≤ i + 1) (h0 : i < D.length ∨ (D = [] ∧ out = [])) : NormL out ∧ ∀ t, hasB out t = is t := by
  rcases h0 with h0 | ⟨rfl, rfl⟩
  · obtain ⟨a, ha⟩ := get_lt h0
    obtain ⟨b, hb⟩ := first_of_D ha
    exact (h.1 b a hb ha).fin hD hT hb ha (by omega)
  · exact ⟨.nil, fun t => (hT.empty t).symm⟩
end

end Go.Proofs.Ytdpibehpmghghaa
