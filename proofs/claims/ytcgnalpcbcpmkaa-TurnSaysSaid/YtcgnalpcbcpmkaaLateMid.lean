/- The latest times, edge by edge, as plain Lean; no program in sight. -/
import Derived.Test.YtcgnalpcbcpmkaaLateSpec
namespace Go.Proofs.Ytcgnalpcbcpmkaa

/-- How much later all could still be. -/
def left (l : List Int) : Nat := total (l.map fun x => 100 - x)
theorem left_set {l : List Int} {i : Nat} (h : i < l.length) {x : Int} (h1 : gi l i < x) (h2 : x ≤ 100) : left (l.set i x) < left l := by
  have e : gi (l.map fun x => 100 - x) i = 100 - gi l i := gi_of (by rw [List.getElem?_map, gi_get h]; rfl)
  have := total_set (l := l.map fun x => 100 - x) (i := i) (by simpa using h) (100 - x)
  rw [e] at this
  unfold left
  rw [List.map_set]
  omega
/-- In the midst of a round: j edges have been looked at. -/
structure TMid (g : GraphD) (v t : Int) (l0 l : List Int) (more : Bool) (j : Nat) : Prop where
  len : l.length = g.lives.length
  le : ∀ i, gi (startL g v t) i ≤ gi l i
  above : Above (· ∈ arcsD g) (fun i => - gi (startL g v t) i) (fun i => - gi l i)
  tot : left l ≤ left l0
  less : more = true → left l < left l0
  told : more = false → ∀ x, x ∈ g.edges.take j → lastT g x (gi l x.b.toNat) ≤ gi l x.a.toNat
section
variable {g : GraphD} {v t : Int} {l0 l : List Int} {more : Bool} {j : Nat}
theorem startL_low (ht : 0 ≤ t) (i : Nat) : -1 ≤ gi (startL g v t) i := by
  by_cases hi : i < g.lives.length
  · rw [startL_val hi]; split <;> omega
  · rw [startL_far (by omega)]; decide
theorem TMid.low (h : TMid g v t l0 l more j) (ht : 0 ≤ t) (i : Nat) : -1 ≤ gi l i := Int.le_trans (startL_low ht i) (h.le i)
theorem late_high (hV : Valid g) (ht : t ≤ 100) (h : Above (· ∈ arcsD g) (fun i => - gi (startL g v t) i) (fun i => - gi l i)) (i : Nat) : gi l i ≤ 100 := by
  have := h (fun _ => -100) ⟨fun i => ?_, fun y hy => ?_⟩ i
  · simp only at this; omega
  · by_cases hi : i < g.lives.length
    · simp only [startL_val hi]; split <;> omega
    · simp only [startL_far (show g.lives.length ≤ i by omega)]; decide
  · obtain ⟨x, hx, rfl⟩ := mem_arcsD.1 hy
    simp only [arcD]
    rcases lastT_lt (s := 100) hV (hV.edges x hx) with h4 | h4
    · rw [show -(-100 : Int) = 100 from by decide, h4]; decide
    · rw [show -(-100 : Int) = 100 from by decide]; omega
theorem TMid.start (ht : 0 ≤ t) : TMid g v t (startL g v t) (startL g v t) false 0 := ⟨by simp [startL], fun _ => Int.le_refl _, above_init, Nat.le_refl _, fun h => by simp at h, fun _ a ha => by simp at ha⟩
theorem TMid.again (h : TMid g v t l0 l more j) : TMid g v t l l false 0 := ⟨h.len, h.le, h.above, Nat.le_refl _, fun h => by simp at h, fun _ a ha => by simp at ha⟩
theorem TMid.same (h : TMid g v t l0 l more j) {y : EdgeD} (hy : g.edges[j]? = some y) (he : lastT g y (gi l y.b.toNat) ≤ gi l y.a.toNat) : TMid g v t l0 l more (j + 1) :=
  ⟨h.len, h.le, h.above, h.tot, h.less, fun hm a ha => by
    rw [List.take_add_one, hy] at ha
    rcases List.mem_append.1 ha with ha | ha
    · exact h.told hm a ha
    · obtain rfl : a = y := by simpa using ha
      exact he⟩
theorem TMid.change (h : TMid g v t l0 l more j) (hV : Valid g) {y : EdgeD} (hy : g.edges[j]? = some y) {d : Int} (hd : lastT g y (gi l y.b.toNat) = d) (hlt : gi l y.a.toNat < d) (hd2 : d ≤ 100) :
    TMid g v t l0 (l.set y.a.toNat d) true (j + 1) := by
  have hm := List.mem_of_getElem? hy
  have ho := hV.edges y hm
  have h0 := ho.a0; have h1 := ho.a1
  have hl := h.len
  have e1 : gi (l.set y.a.toNat d) = upd (gi l) y.a.toNat d := gi_set (by omega) d
  have hl2 := left_set (l := l) (i := y.a.toNat) (by omega) hlt hd2
  have hlt2 : left (l.set y.a.toNat d) < left l0 := by have := h.tot; omega
  refine ⟨by simp [hl], fun i => ?_, ?_, by omega, fun _ => hlt2, fun e => by simp at e⟩
  · rw [e1]
    by_cases hi : i = y.a.toNat
    · rw [hi, upd_at]; have := h.le y.a.toNat; omega
    · rw [upd_ne _ _ hi]; exact h.le i
  · have k := h.above.upd h.above (x := arcD g y) (mem_arcsD.2 ⟨y, hm, rfl⟩) (fun s r hsr => by
      simp only [arcD]
      have := lastT_mono (s := -r) (t := -s) hV ho (by omega)
      omega) (Int.le_refl _)
    have e2 : (fun i => - gi (l.set y.a.toNat d) i) = upd (fun i => - gi l i) (arcD g y).b (min (- gi l (arcD g y).b) ((arcD g y).f (- gi l (arcD g y).a))) := by
      funext i
      simp only [arcD, Int.neg_neg, e1, hd]
      by_cases hi : i = y.a.toNat
      · rw [hi, upd_at, upd_at]; omega
      · rw [upd_ne _ _ hi, upd_ne _ _ hi]
    rw [e2]
    exact k
theorem TMid.fin (h : TMid g v t l0 l false j) (hj : g.edges.length ≤ j) : LateL g v t l := by
  refine ⟨h.len, ⟨fun i => Int.neg_le_neg (h.le i), fun x hx => ?_⟩, h.above⟩
  obtain ⟨a, ha, rfl⟩ := mem_arcsD.1 hx
  have := h.told rfl a (by rw [List.take_of_length_le hj]; exact ha)
  simp only [arcD, Int.neg_neg]
  omega
theorem lastT_high {x : EdgeD} {s : Int} (hV : Valid g) : lastT g x s ≤ 100 := by
  have := (lastL_spec (g := g) (x := x) (s := s) g.h.toNat).2.1
  have := hV.h1
  have := hV.h0
  unfold lastT
  omega
/-- What is told if one isn't there at the end. -/
theorem late_none (hal : aliveB g v t = false) (ht : 0 ≤ t) (hV : Valid g) : LateL g v t (List.replicate g.lives.length (-1)) := by
  have e : startL g v t = List.replicate g.lives.length (-1) := gi_eq_of (by simp [startL]) fun i hi => by
    have hi' : i < g.lives.length := by simpa [startL] using hi
    rw [startL_val hi', if_neg (by simp [hal])]
    exact (gi_of (by simp [hi'])).symm
  refine ⟨by simp, ⟨fun i => by rw [e]; exact Int.le_refl _, fun y hy => ?_⟩, by rw [e]; exact above_init⟩
  obtain ⟨x, hx, rfl⟩ := mem_arcsD.1 hy
  have ho := hV.edges x hx
  have h0 := ho.a0; have h1 := ho.a1; have h2 := ho.b0; have h3 := ho.b1
  simp only [arcD]
  rw [gi_of (l := List.replicate g.lives.length (-1)) (v := x.a.toNat) (x := -1) (by rw [List.getElem?_replicate, if_pos (by omega)]), gi_of (l := List.replicate g.lives.length (-1)) (v := x.b.toNat) (x := -1) (by rw [List.getElem?_replicate, if_pos (by omega)])]
  have h4 := lastT_low (g := g) (x := x) (s := -1)
  rcases lastT_lt (s := -1) hV ho with h5 | h5
  · rw [show -(-(-1 : Int)) = -1 from by decide, h5]; decide
  · omega
theorem startL_is (hal : aliveB g v t = true) (h0 : 0 ≤ v) (h1 : v < g.lives.length) : (List.replicate g.lives.length (-1)).set v.toNat t = startL g v t :=
  gi_eq_of (by simp [startL]) fun i hi => by
    have hi' : i < g.lives.length := by simpa using hi
    rw [gi_set (by simp; omega)]
    by_cases e : i = v.toNat
    · rw [e, upd_at, startL_val (by omega), if_pos ⟨hal, by omega⟩]
    · rw [upd_ne _ _ e, startL_val hi', if_neg (fun h => e (by omega))]
      exact gi_of (by simp [hi'])
theorem startE_is (hal : aliveB g v t = true) (h0 : 0 ≤ v) (h1 : v < g.lives.length) : (List.replicate g.lives.length Never).set v.toNat t = startE g v t :=
  gi_eq_of (by simp [startE]) fun i hi => by
    have hi' : i < g.lives.length := by simpa using hi
    rw [gi_set (by simp; omega)]
    by_cases e : i = v.toNat
    · rw [e, upd_at, startE_val (by omega), if_pos ⟨hal, by omega⟩]
    · rw [upd_ne _ _ e, startE_val hi', if_neg (fun h => e (by omega))]
      exact gi_of (by simp [hi'])
theorem startE_no (hal : aliveB g v t = false) : List.replicate g.lives.length Never = startE g v t :=
  gi_eq_of (by simp [startE]) fun i hi => by
    have hi' : i < g.lives.length := by simpa using hi
    rw [startE_val hi', if_neg (by simp [hal])]
    exact gi_of (by simp [hi'])
end
end Go.Proofs.Ytcgnalpcbcpmkaa
