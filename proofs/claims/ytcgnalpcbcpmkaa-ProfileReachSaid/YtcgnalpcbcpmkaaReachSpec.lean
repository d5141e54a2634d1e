/- Who reaches whom, as plain Lean: rows of marks; no program in sight. -/
import Derived.Test.YtcgnalpcbcpmkaaPairEarly
namespace Go.Proofs.Ytcgnalpcbcpmkaa

def reachErr (g : GraphD) (s e : Int) : Int := if graphErr g = 0 then (if (0 ≤ s ∧ s < g.h) ∧ 0 ≤ e ∧ e < g.h then 0 else 1) else graphErr g
def markRow (e : Int) (l : List Int) : List Bool := l.map fun t => decide (t ≤ e)
/-- Row k tells whom vertex k reaches. -/
def RowsOk (g : GraphD) (s e : Int) (k : Nat) (rs : List (List Bool)) : Prop := rs.length = k ∧ ∀ (i : Nat) r, rs[i]? = some r → ∃ l, EarlyL g i s l ∧ r = markRow e l
section
variable {g : GraphD} {s e : Int} {k : Nat} {rs : List (List Bool)} {l : List Int}
theorem RowsOk.zero : RowsOk g s e 0 [] := ⟨rfl, fun i r h => by simp at h⟩
theorem RowsOk.next (h : RowsOk g s e k rs) (hl : EarlyL g k s l) : RowsOk g s e (k + 1) (rs ++ [markRow e l]) := by
  refine ⟨by simp [h.1], fun i r hi => ?_⟩
  by_cases hk : i < rs.length
  · rw [List.getElem?_append_left hk] at hi; exact h.2 i r hi
  · have hik := lt_of_get hi
    simp only [List.length_append, List.length_cons, List.length_nil] at hik
    have : i = k := by have := h.1; omega
    subst this
    rw [List.getElem?_append_right (by omega)] at hi
    have e0 : i - rs.length = 0 := by have := h.1; omega
    rw [e0] at hi
    exact ⟨l, hl, by simpa using hi.symm⟩
theorem RowsOk.len {i : Nat} {r : List Bool} (h : RowsOk g s e k rs) (hi : rs[i]? = some r) : r.length = g.lives.length := by
  obtain ⟨l, hl, rfl⟩ := h.2 i r hi
  simp [markRow, hl.1]
theorem markRow_get {j : Nat} (hj : j < l.length) : (markRow e l)[j]? = some (decide (gi l j ≤ e)) := by
  simp [markRow, gi_get hj]
/-- One reaches oneself, if one is there. -/
theorem RowsOk.self (hV : Valid g) (h : RowsOk g s e k rs) (hs : 0 ≤ s ∧ s ≤ 100) (he : e ≤ 100) {i : Nat} {r : List Bool} (hi : rs[i]? = some r) (hn : i < g.lives.length) : r[i]? = some (aliveB g i s && decide (s ≤ e)) := by
  obtain ⟨l, hl, rfl⟩ := h.2 i r hi
  rw [markRow_get (by rw [hl.1]; exact hn)]
  cases ha : aliveB g i s with
  | true =>
    have := hl.self hV hs.2 ⟨by omega, by omega⟩ ha
    simp only [Int.toNat_natCast] at this
    rw [this]
    simp
  | false =>
    have := hl.dead hV hs.2 ha hn
    have hne : ¬ Never ≤ e := by simp only [Never]; omega
    rw [this]
    simp [hne]
/-- Whom one reaches by an end one reaches by a later one. -/
theorem RowsOk.later {f : Int} {qs : List (List Bool)} (h : RowsOk g s e k rs) (h2 : RowsOk g s f k qs) (hef : e ≤ f) {i j : Nat} {r q : List Bool} (hi : rs[i]? = some r) (hq : qs[i]? = some q) {x y : Bool} (hx : r[j]? = some x) (hy : q[j]? = some y) : (x && !y) = false := by
  obtain ⟨l, hl, rfl⟩ := h.2 i r hi
  obtain ⟨l', hl', rfl⟩ := h2.2 i q hq
  obtain rfl := hl.eq hl'
  have hj := lt_of_get hx
  simp only [markRow, List.length_map] at hj
  rw [markRow_get hj] at hx hy
  simp only [Option.some.injEq] at hx hy
  subst hx; subst hy
  by_cases h1 : gi l j ≤ e
  · simp [show gi l j ≤ f by omega]
  · simp [h1]
end
end Go.Proofs.Ytcgnalpcbcpmkaa
