/- The reach: how long what is read can be. -/
import Derived.Test.YtcgnalpcbcpmkaaOpen
import Derived.SizedLaws
namespace Go.Proofs.Ytcgnalpcbcpmkaa
open Go.ChangeShapes Go.WideShapes Go.RowKit Go.Deep Go.Joins

section
variable {H : Type} {enc : TypeId × Value → H} {W : World} {spare : Nat → Bool} {held : Bool}
theorem sl_weight {t e : TypeId} (ht : Try.prog.underlying t = some (.slice e)) {fuel : Nat} {A : Option Addr} {n c : Nat} {x : DataW H × List MemPlace} (h : DataW.trod enc Try.prog W 0 spare held fuel t [.slice A n c] = some x) {R : Nat} (hR : ∀ k, k ∈ x.1.weights Try.prog t → k ≤ R) : n * Try.prog.bytesOf e ≤ R := by
  rcases open_slice ht h with ⟨h0, _⟩ | ⟨a, len, cap, m, n', D, Pl, hcs, _, hlc, hcm, hm, hx, hi⟩
  · obtain ⟨_, rfl, _⟩ : A = none ∧ n = 0 ∧ c = 0 := by simpa using h0
    simp
  · obtain ⟨_, rfl, _⟩ : A = some a ∧ n = len ∧ c = cap := by simpa using hcs
    rw [hx] at hR
    have := hR (((List.range n).map D).length + ((List.range (m - n)).map fun j => D (n + j)).length |>.mul (Try.prog.bytesOf e)) (by simp only [DataW.weights, ht]; exact List.mem_cons_self ..)
    refine Nat.le_trans ?_ this
    exact Nat.mul_le_mul_right _ (by simp)
set_option maxRecDepth 100000 in
theorem graph_sized {v : Value} {d : DataW H} {p : List MemPlace} {r : Reach} {b0 : Nat} (hv : Value.okWide Try.prog W r b0 28 v) (h : DataW.Trod enc Try.prog W 0 spare held 28 v d p) :
    ∃ A c A' c' g, v = gV A c A' c' g ∧ GraphAt W A c A' c' g ∧ ∀ R, (∀ k, k ∈ d.weights Try.prog 28 → k ≤ R) → g.lives.length * 16 ≤ R ∧ g.edges.length * 40 ≤ R := by
  obtain ⟨v0, v1, v2, y0, y1, y2, n, rfl, rfl, _, h0, h1, h2⟩ := open_agg3 Try.underlying28 (by kernel_rfl) (by kernel_rfl) hv h
  obtain ⟨x, hx, _, wx⟩ := DataW.trod_int Try.underlying3 h0
  obtain ⟨A, c, l, hA, h3, h4, h5⟩ := sl_open (R := RIvl) Try.underlying25 (by kernel_rfl) (by omega) el_ivl h1
  obtain ⟨A', c', l', hA', h3', h4', h5'⟩ := sl_open (R := REdge) Try.underlying26 (by kernel_rfl) (by omega) el_edge h2
  simp at hx hA hA'
  subst hx hA hA'
  refine ⟨A, c, A', c', ⟨x, l, l'⟩, rfl, ⟨i64_of_wf wx, h3, h4, h3', h4', h5, h5'⟩, fun R hR => ⟨?_, ?_⟩⟩
  · have := sl_weight Try.underlying25 h1 (R := R) (fun k hk => hR k ?_)
    · rwa [show Try.prog.bytesOf 110 = 16 by kernel_rfl] at this
    · simp only [DataW.weights, Try.underlying28, DataW.weightsEach, List.map_cons, List.mem_append]
      exact .inr (.inl hk)
  · have := sl_weight Try.underlying26 h2 (R := R) (fun k hk => hR k ?_)
    · rwa [show Try.prog.bytesOf 99 = 40 by kernel_rfl] at this
    · simp only [DataW.weights, Try.underlying28, DataW.weightsEach, List.map_cons, List.mem_append]
      exact .inr (.inr (.inl hk))
theorem weights_reach {ts : List TypeId} {ds : List (DataW H)} (h : (DataW.weightsEach Try.prog ts ds).all (· ≤ reachBytes) = true) {j : Nat} {t : TypeId} {d : DataW H} (ht : ts[j]? = some t) (hd : ds[j]? = some d) : ∀ k, k ∈ d.weights Try.prog t → k ≤ reachBytes := fun k hk => by
  have := List.all_eq_true.1 h _ (DataW.weights_mem_each ht hd k hk)
  simpa using this
end
end Go.Proofs.Ytcgnalpcbcpmkaa
