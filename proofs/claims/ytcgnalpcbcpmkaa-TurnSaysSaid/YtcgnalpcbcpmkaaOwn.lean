/- Lists that a call builds for itself: what it owns, how an append makes it longer, how it reads in the end. -/
import Derived.Test.YtcgnalpcbcpmkaaKeep
import Derived.OwnWalk
namespace Go.Proofs.Ytcgnalpcbcpmkaa
open Go.RowKit

/-- The slice value v owns the list l, each element of sz cells as enc says, in blocks from base on. -/
def Own {α : Type} (enc : α → List Value) (sz : Nat) (w : World) (base : Nat) (e : TypeId) (v : Value) (l : List α) : Prop := w.ownsRow base e sz v l.length (l.flatMap enc)
theorem Own.nil {α : Type} {enc : α → List Value} {sz : Nat} {w : World} {base : Nat} {e : TypeId} : Own enc sz w base e (.slice none 0 0) ([] : List α) := World.ownsRow_nil _ _ _ _
section
variable {α : Type} {enc : α → List Value} {sz : Nat} {w w' : World} {base : Nat} {e : TypeId} {v : Value} {l : List α}
theorem Own.alloc (h : Own enc sz w base e v l) (o : Obj) : Own enc sz (w.alloc o) base e v l := World.ownsRow.alloc h o
theorem Own.drew (h : Own enc sz w base e v l) : Own enc sz w.drew base e v l := h
theorem Own.drewN (h : Own enc sz w base e v l) (n : Nat) : Own enc sz (w.drewN n) base e v l := h
theorem Own.ext (h : Own enc sz w base e v l) (hb : Below w.heap.size w w') : Own enc sz w' base e v l := by
  refine ⟨h.1, ?_⟩
  rcases h.2 with h2 | ⟨g, cap, cur, hv, hg, hh, r⟩
  · exact .inl h2
  · have hlt : g < w.heap.size := by
      rcases Nat.lt_or_ge g w.heap.size with hlt | hge
      · exact hlt
      · rw [Array.getElem?_eq_none hge] at hh; cases hh
    exact .inr ⟨g, cap, cur, hv, hg, (hb.block g hlt).trans hh, r⟩
theorem Own.form (h : Own enc sz w base e v l) : ∃ A c, v = .slice A l.length c := by
  rcases h.2 with ⟨rfl, h0⟩ | ⟨g, cap, cur, rfl, _⟩
  · exact ⟨none, 0, by rw [h0]⟩
  · exact ⟨_, _, rfl⟩
theorem Own.len (h : Own enc sz w base e v l) : l.length ≤ maxLen := by
  rcases h.2 with ⟨rfl, h0⟩ | ⟨g, cap, cur, rfl, _, _, h1, h2, _⟩
  · rw [h0]; exact Nat.zero_le _
  · exact Nat.le_trans h1 h2
/-- What is owned reads as the list. -/
theorem Own.slAt {R : World → Nat → Nat → α → Prop} (hsz : ∀ x, (enc x).length = sz) (hR : ∀ x, x ∈ l → ∀ b o, (∀ j u, (enc x)[j]? = some u → cellIs w b (o + j) u) → R w b o x) (h : Own enc sz w base e v l) :
    ∃ A c, v = .slice A l.length c ∧ SlAt R sz w A l := by
  rcases h.2 with ⟨rfl, h0⟩ | ⟨g, cap, cur, rfl, hg, hh, hnc, hcm, hcs, htake⟩
  · refine ⟨none, 0, by rw [h0], 0, 0, fun i x hx => ?_⟩
    have : l = [] := List.eq_nil_of_length_eq_zero h0
    subst this
    simp at hx
  · refine ⟨some ⟨g, 0, none⟩, cap, rfl, g, 0, fun i x hx => ⟨rfl, ?_, ?_⟩⟩
    · rcases Nat.lt_or_ge g w.heap.size with hlt | hge
      · exact hlt
      · rw [Array.getElem?_eq_none hge] at hh; cases hh
    · refine hR x (List.mem_of_getElem? hx) g _ fun j u hu => ?_
      have hil := lt_of_get hx
      have hj : j < sz := by rw [← hsz x]; exact lt_of_get hu
      have hfl : ∀ (l : List α) (i : Nat), l[i]? = some x → (l.flatMap enc)[i * sz + j]? = some u := by
        intro l
        induction l with
        | nil => intro i h; simp at h
        | cons y l ih =>
          intro i h
          cases i with
          | zero =>
            obtain rfl : y = x := by simpa using h
            rw [List.flatMap_cons, List.getElem?_append_left (by rw [hsz]; omega)]
            simpa using hu
          | succ i =>
            have h' : l[i]? = some x := by simpa using h
            rw [List.flatMap_cons, List.getElem?_append_right (by rw [hsz, Nat.succ_mul]; omega), hsz]
            have e : (i + 1) * sz + j - sz = i * sz + j := by rw [Nat.succ_mul]; omega
            rw [e]
            exact ih i h'
      have h1 := hfl l i hx
      rw [← htake] at h1
      have hlt : i * sz + j < l.length * sz := by
        have := lt_of_get h1
        rw [List.length_take] at this
        omega
      rw [List.getElem?_take_of_lt hlt] at h1
      show w.cell? _ = _
      rw [cell_of_row w g _ cur e (0, 0) hh]
      simpa using h1
end

theorem wpList_append_el {P : Program} {ops : Array Oper} {rest : List Oper} {o : Oper} {a : Act} {Q : Exit → Act → World → Prop} {w0 : World} {α : Type} {enc : α → List Value} (hgd : o.guard = none) (s x : Operand) (t : TypeId)
    (ho : o.op = .call { callee := .builtin .append, args := #[s, x], argTypes := #[t, t] })
    (base : Nat) (e : TypeId) (i : TypeInfo) (z : Value) (size bytes : Nat) (ht : P.underlying t = some (.slice e)) (hi : P.info? e = some i) (hz : i.zero = some z)
    (hsize : i.size = size) (hby : i.bytes = bytes) (hzs : z.cells.size = size) (hsz : 0 < size)
    (v : Value) (l : List α) (y : α) (hs : a.eval s = v) (hown : Own enc size w0 base e v l) (cs : Array Value) (hcy : cs.toList = enc y) (k : Nat) (hk : k = w0.heap.size) (hx : a.eval x = .slice (some ⟨k, 0, none⟩) 1 1) (hcs : cs.size = size)
    (h1 : ∀ u ∈ cs.toList, u.oneCell' = true) (h63 : l.length + 1 ≤ 1000000) (hby2 : bytes ≤ 1000) (hbase : base ≤ w0.heap.size)
    (h : ∀ v' w', Own enc size w' base e v' (l ++ [y]) → Below base w0 w' → wpList P ops Q rest (a.put o.dst v') w') : wpList P ops Q (o :: rest) a (w0.alloc (.cells cs e)) := by
  subst hk
  have hb2 : (l.length + 1) * bytes ≤ 140737488355328 := Nat.le_trans (Nat.mul_le_mul h63 hby2) (by decide)
  refine wpList_append_own _ hgd s x t ho base e i z size bytes ht hi hz hsize hby hzs hsz v l.length (l.flatMap enc) hs (World.ownsRow.alloc hown _) ⟨w0.heap.size, 0, none⟩ 1 1 cs.toList hx (by simp [hcs])
    ?_ h1 (by unfold maxLen; omega) hb2 (by simp; omega) ?_
  · intro j u hu
    rw [Go.WideShapes.add_plain, cell_of_row _ _ _ cs e (0, 0) (heap_alloc_new w0 _)]
    simpa using hu
  · intro v' w' h2 h3 _
    refine h v' w' ?_ ?_
    · show w'.ownsRow base e size v' (l ++ [y]).length ((l ++ [y]).flatMap enc)
      rw [List.flatMap_append, List.length_append]
      simpa [hcy] using h2
    · have hb : Below base w0 (w0.alloc (.cells cs e)) := (Below.refl _ _).alloc hbase _
      exact hb.grown h3 (by simp; omega) fun k hk => (World.ownsRow.lt hown k hk).1
end Go.Proofs.Ytcgnalpcbcpmkaa
