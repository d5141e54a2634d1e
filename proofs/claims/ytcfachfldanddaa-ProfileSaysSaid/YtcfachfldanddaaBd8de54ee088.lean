/- One text: Spread. -/
import Derived.Outline
import Derived.Deep.LoopGhost
import Derived.Deep.DeepCutAuto
import Derived.Deep.RegionHeld3
import Derived.IntWalk
import Derived.Shelf.Abstract
import Derived.Test.YtcfachfldanddaaBdc60da392f0
import Derived.Test.YtcfachfldanddaaBd0e3b3965a6
import Derived.Test.YtcfachfldanddaaBdecb1d1e777
/- The walk of plain.spread: the ways from a vertex, the nearest vertex first. -/
namespace Go.Proofs.Ytcfachfldanddaa
open Go.RowKit


/-- A list of numbers and an error are told. -/
def IntsOut (P : List Int → Prop) (er : Int) (w : World) (e : Ending) (w' : World) : Prop := ∃ l A c, P l ∧ e = .returned (.tuple #[.slice A l.length c, .int .i64 er]) ∧ SlAt RInt 1 w' A l ∧ l.length ≤ maxLen ∧ Below w.heap.size w w'
/-- A list of marks as a function; how many are not set. -/
def gb (r : List Bool) (i : Nat) : Bool := r.getD i false
def unset (r : List Bool) : Nat := (r.map fun b => if b then 0 else 1).sum
theorem gb_get {r : List Bool} {i : Nat} (h : i < r.length) : r[i]? = some (gb r i) := by simp [gb, List.getD, h]
theorem gb_set {r : List Bool} {c : Nat} (h : c < r.length) : gb (r.set c true) = mark (gb r) c := by
  funext j
  unfold mark
  by_cases hj : j = c
  · subst hj; simp [gb, List.getD, h]
  · simp only [if_neg hj, gb, List.getD]
    rw [List.getElem?_set_ne (fun h => hj h.symm)]
theorem unset_replicate (n : Nat) : unset (List.replicate n false) = n := by
  induction n with
  | zero => rfl
  | succ n ih => simp only [List.replicate_succ, unset, List.map_cons, List.sum_cons] at *; simp at ih ⊢; omega
theorem unset_set {r : List Bool} {c : Nat} (h : c < r.length) (hf : gb r c = false) : unset (r.set c true) < unset r := by
  induction r generalizing c with
  | nil => simp at h
  | cons x r ih =>
    cases c with
    | zero =>
      have : x = false := by simpa [gb] using hf
      subst this
      simp [unset]
    | succ c =>
      have := ih (c := c) (by simpa using h) (by simpa [gb] using hf)
      simp only [unset, List.set_cons_succ, List.map_cons, List.sum_cons] at *
      omega
/-- The nearest vertex so far of those that are not done; -1: none. -/
def MinAt (d : Nat → Int) (done : Nat → Bool) (I : Int) (k : Nat) (at' : Int) : Prop :=
  (at' = -1 ∧ ∀ i, i < k → done i = true ∨ I ≤ d i) ∨ ∃ c : Nat, at' = c ∧ c < k ∧ done c = false ∧ d c < I ∧ ∀ i, i < k → done i = true ∨ d c ≤ d i
section
variable {d : Nat → Int} {done : Nat → Bool} {I : Int} {k : Nat} {at' : Int}
theorem MinAt.zero : MinAt d done I 0 (-1) := .inl ⟨rfl, fun i h => by omega⟩
theorem MinAt.skip (h : MinAt d done I k at') (hk : done k = true ∨ I ≤ d k) : MinAt d done I (k + 1) at' := by
  rcases h with ⟨h1, h2⟩ | ⟨c, h1, h2, h3, h4, h5⟩
  · exact .inl ⟨h1, fun i hi => by
      by_cases e : i = k
      · rw [e]; exact hk
      · exact h2 i (by omega)⟩
  · exact .inr ⟨c, h1, by omega, h3, h4, fun i hi => by
      by_cases e : i = k
      · rw [e]; rcases hk with hk | hk
        · exact .inl hk
        · right; omega
      · exact h5 i (by omega)⟩
theorem MinAt.stay {c : Nat} (h : MinAt d done I k c) (hk : d c ≤ d k) : MinAt d done I (k + 1) c := by
  rcases h with ⟨h1, h2⟩ | ⟨e, h1, h2, h3, h4, h5⟩
  · omega
  · obtain rfl : c = e := by omega
    exact .inr ⟨c, rfl, by omega, h3, h4, fun i hi => by
      by_cases e : i = k
      · rw [e]; exact .inr hk
      · exact h5 i (by omega)⟩
theorem MinAt.take (h : MinAt d done I k at') (hk : done k = false) (hI : d k < I) (hlt : ∀ c : Nat, at' = c → d k < d c) : MinAt d done I (k + 1) k := by
  rcases h with ⟨h1, h2⟩ | ⟨e, h1, h2, h3, h4, h5⟩
  · exact .inr ⟨k, rfl, by omega, hk, hI, fun i hi => by
      by_cases e : i = k
      · rw [e]; right; exact Int.le_refl _
      · rcases h2 i (by omega) with h | h
        · exact .inl h
        · right; omega⟩
  · have := hlt e h1
    exact .inr ⟨k, rfl, by omega, hk, hI, fun i hi => by
      by_cases e' : i = k
      · rw [e']; right; exact Int.le_refl _
      · rcases h5 i (by omega) with h | h
        · exact .inl h
        · right; omega⟩
theorem MinAt.less {m : Nat} (h : MinAt d done I k m) (hk : done k = false) (hI : d k < I) (hlt : d k < d m) : MinAt d done I (k + 1) k :=
  h.take hk hI fun c h => by
    obtain rfl : m = c := by omega
    exact hlt
theorem MinAt.cases (h : MinAt d done I k at') : (at' = -1 ∧ ∀ i, i < k → done i = true ∨ I ≤ d i) ∨ ∃ c : Nat, at' = c ∧ c < k ∧ done c = false ∧ d c < I ∧ ∀ v, v < k → done v = false → d c ≤ d v := by
  rcases h with h | ⟨c, h1, h2, h3, h4, h5⟩
  · exact .inl h
  · exact .inr ⟨c, h1, h2, h3, h4, fun v hv hd => by
      rcases h5 v hv with h | h
      · rw [hd] at h; simp at h
      · exact h⟩
end
theorem arcsOf_get {s : SnapD} {wt : ArcD → Int} {j : Nat} {y : ArcD} (h : s.arcs[j]? = some y) : (arcsOf s wt)[j]? = some (arcF wt y) := by simp [arcsOf, h]
theorem near_start {s : SnapD} {wt : ArcD → Int} {v : Int} {n : Nat} : Near (arcsOf s wt) n Far (gi (startD s v)) (gi (startD s v)) (fun _ => false) :=
  ⟨fun _ => Int.le_refl _, fun i _ => start_big s v i, above_init, fun _ _ _ h => by simp at h, fun _ _ h => by simp at h⟩
theorem gb_replicate (n : Nat) : gb (List.replicate n false) = fun _ => false := by
  funext i
  simp only [gb, List.getD, List.getElem?_replicate]
  split <;> rfl
theorem fill_done {n : Nat} {l : List Int} (hl : l.length = n) (h : ∀ i, i < n → gi l i = Far) : l = List.replicate n Far :=
  gi_eq_of (by simp [hl]) fun i hi => by rw [h i (by omega)]; exact (gi_of (by simp [hl ▸ hi])).symm
theorem start_alive {s : SnapD} {v : Int} (h0 : 0 ≤ v) (h1 : v < s.alive.length) (h : s.alive[v.toNat]? = some true) : (List.replicate s.alive.length Far).set v.toNat 0 = startD s v :=
  gi_eq_of (by simp [startD]) fun i hi => by
    have hi' : i < s.alive.length := by simpa using hi
    rw [gi_set (by simp; omega)]
    by_cases e : i = v.toNat
    · rw [e, upd_at]; unfold startD; rw [gi_range (by omega), if_pos ⟨h, by omega⟩]
    · rw [upd_ne _ _ e]
      unfold startD; rw [gi_range hi', if_neg (fun h => e (by omega))]
      exact gi_of (by simp [hi'])
theorem start_dead {s : SnapD} {v : Int} (_h0 : 0 ≤ v) (h : s.alive[v.toNat]? = some false) : List.replicate s.alive.length Far = startD s v :=
  gi_eq_of (by simp [startD]) fun i hi => by
    have hi' : i < s.alive.length := by simpa using hi
    unfold startD; rw [gi_range hi', if_neg (fun ⟨h1, h2⟩ => by rw [← h2] at h; simp only [Int.toNat_natCast] at h; rw [h1] at h; simp at h)]
    exact gi_of (by simp [hi'])
theorem near_ways {s : SnapD} (hs : SnapOk s) {wt : ArcD → Int} {v : Int} {l : List Int} {done : Nat → Bool} (hl : l.length = s.alive.length) (hwt : ∀ a, a ∈ s.arcs → 0 ≤ wt a) (h : Near (arcsOf s wt) s.alive.length Far (gi (startD s v)) (gi l) done)
    (hall : ∀ i, i < s.alive.length → done i = true ∨ Far ≤ gi l i) : WaysL s wt v l := by
  refine ⟨hl, ?_⟩
  rw [← mem_arcsOf]
  refine h.best hall fun x hx => ?_
  simp only [arcsOf, List.mem_map] at hx
  obtain ⟨a, ha, rfl⟩ := hx
  have := hs.arcs a ha
  have h1 := this.a1; have h2 := this.b1
  have := hwt a ha
  exact ⟨h1, h2, mono_add _, by simp only [arcF]; omega⟩
def WaysOut (s : SnapD) (wt : ArcD → Int) (v : Int) (l : List Int) : Prop := if waysErr s v = 0 then WaysL s wt v l else l = []

end Go.Proofs.Ytcfachfldanddaa
