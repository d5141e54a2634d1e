/- One text: DepSpec. -/
import Derived.Test.YtcgnalpcbcpmkaaBd62db7b8b90
/- The latest times, as the document finds them: each time is tried; no program in sight. -/
namespace Go.Proofs.Ytcgnalpcbcpmkaa

/-- Of the times ahead of k the latest from which one comes in time; none: -1. -/
def DepN (g : GraphD) (v e : Int) (u : Nat) (k n : Int) : Prop := (n = -1 ∨ (n < k ∧ Comes g v e u n)) ∧ ∀ s, s < k → Comes g v e u s → s ≤ n
section
variable {g : GraphD} {v e k n : Int} {u : Nat}
theorem DepN.start : DepN g v e u 0 (-1) := ⟨.inl rfl, fun s hs hc => by have := hc.1; omega⟩
theorem DepN.take (_h : DepN g v e u k n) (hc : Comes g v e u k) : DepN g v e u (k + 1) k := ⟨.inr ⟨by omega, hc⟩, fun s hs _ => by omega⟩
theorem DepN.skip (h : DepN g v e u k n) (hn : ¬ Comes g v e u k) : DepN g v e u (k + 1) n := by
  refine ⟨h.1.imp id fun ⟨h1, h2⟩ => ⟨by omega, h2⟩, fun s hs hc => ?_⟩
  by_cases hk : s = k
  · subst hk; exact absurd hc hn
  · exact h.2 s (by omega) hc
theorem DepN.low (h : DepN g v e u k n) : -1 ≤ n := by
  rcases h.1 with h | ⟨_, h⟩
  · omega
  · have := h.1; omega
theorem DepN.late (h : DepN g v e u (e + 1) n) (hV : Valid g) {l : List Int} (hl : LateL g v e l) (hv : 0 ≤ v ∧ v < g.lives.length) (he : e ≤ 100) (hal : aliveB g v e = true) (hu : u < g.lives.length) : gi l u = n := by
  obtain ⟨k1, k2⟩ := hl.is hV hv he hal hu
  refine Int.le_antisymm ?_ ?_
  · rcases k1 with k1 | k1
    · have := h.low; omega
    · refine h.2 _ ?_ k1
      obtain ⟨c1, c2, c3, a, c4, c5⟩ := k1
      have := c4.low hV (by omega) (k := v.toNat) (by omega)
      omega
  · rcases h.1 with h1 | ⟨_, h1⟩
    · rcases k1 with k1 | ⟨k1, _⟩
      · omega
      · omega
    · exact k2 n h1
/-- What Departures tells of the first k vertices. -/
def DepsL (g : GraphD) (v e : Int) (k : Nat) (l : List Int) : Prop := l.length = k ∧ ∀ u, u < k → if aliveB g v e = true then DepN g v e u (e + 1) (gi l u) else gi l u = -1
theorem DepsL.nil : DepsL g v e 0 [] := ⟨rfl, fun u hu => by omega⟩
theorem DepsL.snoc {l : List Int} {k : Nat} (h : DepsL g v e k l) (hn : if aliveB g v e = true then DepN g v e k (e + 1) n else n = -1) : DepsL g v e (k + 1) (l ++ [n]) := by
  refine ⟨by simp [h.1], fun u hu => ?_⟩
  by_cases hk : u = k
  · subst hk
    rw [gi_of (l := l ++ [n]) (v := u) (x := n) (by rw [List.getElem?_append_right (by rw [h.1]; exact Nat.le_refl _), h.1]; simp)]
    exact hn
  · have hl : u < l.length := by rw [h.1]; omega
    rw [gi_of (l := l ++ [n]) (v := u) (x := gi l u) (by rw [List.getElem?_append_left hl]; exact gi_get hl)]
    exact h.2 u (by omega)
theorem DepsL.late {l r : List Int} (h : DepsL g v e g.lives.length l) (hV : Valid g) (hr : LateL g v e r) (hv : 0 ≤ v ∧ v < g.lives.length) (he : e ≤ 100) : r = l := by
  refine gi_eq_of (hr.1.trans h.1.symm) fun u hu => ?_
  have hu' : u < g.lives.length := by rw [← hr.1]; exact hu
  have h2 := h.2 u hu'
  by_cases hal : aliveB g v e = true
  · rw [if_pos hal] at h2
    exact h2.late hV hr hv he hal hu'
  · rw [if_neg hal] at h2
    rw [h2]
    exact hr.dead hV (by simpa using hal) hu'
end
end Go.Proofs.Ytcgnalpcbcpmkaa
