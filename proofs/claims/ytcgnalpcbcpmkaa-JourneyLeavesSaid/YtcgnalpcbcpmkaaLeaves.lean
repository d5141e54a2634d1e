/- The plain law of JourneyLeaves: the hops that Out tells go, lie in order, and no other one goes. No program in sight. -/
import Derived.Test.YtcgnalpcbcpmkaaJourneys
namespace Go.Proofs.Ytcgnalpcbcpmkaa
open Go.RowKit

def hopLt (a b : HopD) : Prop := a.depart < b.depart ∨ (a.depart = b.depart ∧ a.edge < b.edge)
theorem outsAt_sorted {g : GraphD} {v d : Int} : ∀ (l : List EdgeD) (i : Nat), (outsAt g v d i l).Pairwise hopLt
  | [], i => by simp [outsAt]
  | y :: l, i => by
    have ih := outsAt_sorted (g := g) (v := v) (d := d) l (i + 1)
    cases hb : leavesB g v d y
    · rw [outsAt_no hb]; exact ih
    · rw [outsAt_yes hb, List.pairwise_cons]
      refine ⟨fun h hh => ?_, ih⟩
      obtain ⟨h1, k, x, _, h2, _⟩ := (outsAt_mem _ _).1 hh
      exact .inr ⟨h1.symm, by simp only [h2]; omega⟩
theorem outsL_sorted {g : GraphD} {v : Int} : ∀ (n : Nat) (d : Int), (outsL g v n d).Pairwise hopLt
  | 0, d => by simp [outsL]
  | n + 1, d => by
    rw [outsL, List.pairwise_append]
    refine ⟨outsAt_sorted _ _, outsL_sorted n (d + 1), fun a ha b hb => ?_⟩
    have h1 := ((outsAt_mem _ _).1 ha).1
    have h2 := ((outsL_mem _ _).1 hb).1
    exact .inl (by omega)
theorem outs_sorted {g : GraphD} {v t : Int} : (outs g v t).Pairwise hopLt := by
  unfold outs
  split
  · exact outsL_sorted _ _
  · exact List.Pairwise.nil
theorem pairwise_next {α : Type} {r : α → α → Prop} {l : List α} (h : l.Pairwise r) {k : Nat} {x y : α} (hx : l[k]? = some x) (hy : l[k + 1]? = some y) : r x y := by
  obtain ⟨h1, rfl⟩ := List.getElem?_eq_some_iff.1 hx
  obtain ⟨h2, rfl⟩ := List.getElem?_eq_some_iff.1 hy
  exact List.pairwise_iff_getElem.1 h _ _ h1 h2 (by omega)
theorem goL_one {g : GraphD} {v t : Int} {h : HopD} : goL g v t 0 [h] = hopTo g v t h := by
  cases hh : hopTo g v t h with
  | none => exact goL_none hh
  | some p =>
    obtain ⟨a, b, d⟩ := p
    rw [goL_some hh]
    simp [goL]
/-- A single hop goes just if it is told. -/
theorem goR_one {g : GraphD} {v t : Int} (hp : placeErr g v t = 0) (h : HopD) : ∃ a b d e, goR g v t [h] = (a, b, d, e) ∧ (e == 0) = decide (h ∈ outs g v t) := by
  cases hal : aliveB g v t
  case false =>
    refine ⟨_, _, _, _, goR_dead hp (by simp) hal, ?_⟩
    simp [outs_hop hp, hal]
  cases hh : hopTo g v t h with
  | none =>
    refine ⟨_, _, _, _, goR_none hp (by simp) hal (by rw [goL_one, hh]), ?_⟩
    simp [outs_hop hp, hh]
  | some p =>
    obtain ⟨a, b, d⟩ := p
    refine ⟨_, _, _, _, goR_some hp (by simp) hal (by rw [goL_one, hh]), ?_⟩
    simp [outs_hop hp, hh, hal]
theorem goR_told {g : GraphD} {v t : Int} (hp : placeErr g v t = 0) {h : HopD} (hm : h ∈ outs g v t) : ∃ a b d, goR g v t [h] = (a, b, d, 0) := by
  obtain ⟨a, b, d, e, h1, h2⟩ := goR_one hp h
  rw [decide_eq_true hm] at h2
  obtain rfl : e = 0 := by simpa using h2
  exact ⟨a, b, d, h1⟩
end Go.Proofs.Ytcgnalpcbcpmkaa
