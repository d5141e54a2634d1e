/- Journeys, as plain Lean functions. -/
import Derived.Test.YtcgnalpcbcpmkaaSpec
namespace Go.Proofs.Ytcgnalpcbcpmkaa
open Go.RowKit

/-- One hop from a place: where one is then, when, and at what cost. -/
def hopTo (g : GraphD) (v t : Int) (h : HopD) : Option (Int × Int × Int) :=
  if inB h.edge 0 (g.edges.length - 1) = true then (match g.edges[h.edge.toNat]? with
    | some x => if x.a = v ∧ t ≤ h.depart then (arrive g x h.depart).map fun p => (x.b, p.2, p.1.cost) else none
    | none => none) else none
theorem hopTo_far {g : GraphD} {v t : Int} {h : HopD} (h1 : inB h.edge 0 (g.edges.length - 1) = false) : hopTo g v t h = none := by unfold hopTo; rw [if_neg (by simp [h1])]
theorem hopTo_in {g : GraphD} {v t : Int} {h : HopD} {x : EdgeD} (h1 : inB h.edge 0 (g.edges.length - 1) = true) (hx : g.edges[h.edge.toNat]? = some x) :
    hopTo g v t h = if x.a = v ∧ t ≤ h.depart then (arrive g x h.depart).map fun p => (x.b, p.2, p.1.cost) else none := by
  unfold hopTo; rw [if_pos h1, hx]
theorem hopTo_not {g : GraphD} {v t : Int} {h : HopD} {x : EdgeD} (h1 : inB h.edge 0 (g.edges.length - 1) = true) (hx : g.edges[h.edge.toNat]? = some x) (h2 : ¬ (x.a = v ∧ t ≤ h.depart)) : hopTo g v t h = none := by
  rw [hopTo_in h1 hx, if_neg h2]
theorem hopTo_none {g : GraphD} {v t : Int} {h : HopD} {x : EdgeD} (h1 : inB h.edge 0 (g.edges.length - 1) = true) (hx : g.edges[h.edge.toNat]? = some x) (h3 : arrive g x h.depart = none) : hopTo g v t h = none := by
  rw [hopTo_in h1 hx]; split <;> simp [h3]
theorem hopTo_some {g : GraphD} {v t to : Int} {h : HopD} {x : EdgeD} {l : LegD} (h1 : inB h.edge 0 (g.edges.length - 1) = true) (hx : g.edges[h.edge.toNat]? = some x) (h2 : x.a = v ∧ t ≤ h.depart)
    (h3 : arrive g x h.depart = some (l, to)) : hopTo g v t h = some (x.b, to, l.cost) := by
  rw [hopTo_in h1 hx, if_pos h2, h3]; rfl
def goL (g : GraphD) : Int → Int → Int → List HopD → Option (Int × Int × Int)
  | v, t, c, [] => some (v, t, c)
  | v, t, c, h :: r => match hopTo g v t h with
    | some p => goL g p.1 p.2.1 (c + p.2.2) r
    | none => none
theorem goL_none {g : GraphD} {v t c : Int} {h : HopD} {r : List HopD} (hh : hopTo g v t h = none) : goL g v t c (h :: r) = none := by simp [goL, hh]
theorem goL_some {g : GraphD} {v t c a b d : Int} {h : HopD} {r : List HopD} (hh : hopTo g v t h = some (a, b, d)) : goL g v t c (h :: r) = goL g a b (c + d) r := by simp [goL, hh]
/-- P15: Go, its four results. -/
def goR (g : GraphD) (v t : Int) (l : List HopD) : Int × Int × Int × Int :=
  if placeErr g v t = 0 then (if 500 < l.length then (0, 0, 0, 2) else if aliveB g v t = true then (match goL g v t 0 l with
    | some p => (p.1, p.2.1, p.2.2, 0)
    | none => (0, 0, 0, 5)) else (0, 0, 0, 5)) else (0, 0, 0, placeErr g v t)
theorem goR_place {g : GraphD} {v t : Int} {l : List HopD} (h : ¬ placeErr g v t = 0) : goR g v t l = (0, 0, 0, placeErr g v t) := by unfold goR; rw [if_neg h]
theorem goR_large {g : GraphD} {v t : Int} {l : List HopD} (h : placeErr g v t = 0) (h2 : 500 < l.length) : goR g v t l = (0, 0, 0, 2) := by unfold goR; rw [if_pos h, if_pos h2]
theorem goR_dead {g : GraphD} {v t : Int} {l : List HopD} (h : placeErr g v t = 0) (h2 : ¬ 500 < l.length) (h3 : aliveB g v t = false) : goR g v t l = (0, 0, 0, 5) := by
  unfold goR; rw [if_pos h, if_neg h2, if_neg (by simp [h3])]
theorem goR_none {g : GraphD} {v t : Int} {l : List HopD} (h : placeErr g v t = 0) (h2 : ¬ 500 < l.length) (h3 : aliveB g v t = true) (h4 : goL g v t 0 l = none) : goR g v t l = (0, 0, 0, 5) := by
  unfold goR; rw [if_pos h, if_neg h2, if_pos h3, h4]
theorem goR_some {g : GraphD} {v t a b c : Int} {l : List HopD} (h : placeErr g v t = 0) (h2 : ¬ 500 < l.length) (h3 : aliveB g v t = true) (h4 : goL g v t 0 l = some (a, b, c)) : goR g v t l = (a, b, c, 0) := by
  unfold goR; rw [if_pos h, if_neg h2, if_pos h3, h4]
/-- The value of the four results. -/
def goV (p : Int × Int × Int × Int) : Value := .tuple #[.int .i64 p.1, .int .i64 p.2.1, .int .i64 p.2.2.1, .int .i64 p.2.2.2]
theorem arrive_some {g : GraphD} {x : EdgeD} {t to : Int} {l : LegD} (h : arrive g x t = some (l, to)) : l ∈ x.legs ∧ l.f ≤ t ∧ t < l.t ∧ to = t + l.time ∧ to < g.h ∧ aliveB g x.a t = true ∧ aliveB g x.b to = true := by
  unfold arrive at h
  cases hl : leaves t x.legs with
  | none => rw [hl] at h; simp at h
  | some y =>
    rw [hl] at h
    simp only at h
    split at h
    · rename_i h1
      simp only [Option.some.injEq, Prod.mk.injEq] at h
      obtain ⟨rfl, rfl⟩ := h
      have := leaves_mem hl
      exact ⟨this.1, this.2.1, this.2.2, rfl, h1.2.1, h1.1, h1.2.2⟩
    · simp at h
end Go.Proofs.Ytcgnalpcbcpmkaa
