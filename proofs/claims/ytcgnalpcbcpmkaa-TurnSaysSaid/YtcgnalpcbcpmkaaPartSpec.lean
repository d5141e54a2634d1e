/- Parts of a graph, as plain Lean; no program in sight. -/
import Derived.Test.YtcgnalpcbcpmkaaLateMid
namespace Go.Proofs.Ytcgnalpcbcpmkaa

/-- How many of the first k are kept. -/
def kept (keep : List Bool) (k : Nat) : Nat := (keep.take k).countP id
def keptB (keep : List Bool) (v : Int) : Bool := keep[v.toNat]? == some true
def partLives : List Bool → List IvlD → List IvlD
  | b :: r, l :: s => if b = true then l :: partLives r s else partLives r s
  | _, _ => []
def partEdge (keep : List Bool) (x : EdgeD) : Option EdgeD := if keptB keep x.a = true ∧ keptB keep x.b = true then some ⟨kept keep x.a.toNat, kept keep x.b.toNat, x.legs⟩ else none
def partD (g : GraphD) (keep : List Bool) : GraphD := ⟨g.h, partLives keep g.lives, g.edges.filterMap (partEdge keep)⟩
def onlyErr (g : GraphD) (n : Nat) : Int := if graphErr g = 0 then (if n = g.lives.length then 0 else 5) else graphErr g
theorem kept_succ {keep : List Bool} {k : Nat} {b : Bool} (h : keep[k]? = some b) : kept keep (k + 1) = kept keep k + (if b = true then 1 else 0) := by
  unfold kept
  rw [List.take_add_one, h, List.countP_append]
  cases b <;> simp
theorem kept_le (keep : List Bool) (k : Nat) : kept keep k ≤ k := by
  unfold kept
  exact Nat.le_trans List.countP_le_length (by rw [List.length_take]; omega)
theorem partLives_take : ∀ (keep : List Bool) (ls : List IvlD) (k : Nat) (b : Bool) (l : IvlD), keep[k]? = some b → ls[k]? = some l →
    partLives (keep.take (k + 1)) (ls.take (k + 1)) = partLives (keep.take k) (ls.take k) ++ (if b = true then [l] else [])
  | [], _, _, _, _, h, _ => by simp at h
  | _ :: _, [], _, _, _, _, h => by simp at h
  | c :: r, m :: s, 0, b, l, h1, h2 => by
    obtain rfl : c = b := by simpa using h1
    obtain rfl : m = l := by simpa using h2
    cases c <;> simp [partLives]
  | c :: r, m :: s, k + 1, b, l, h1, h2 => by
    have ih := partLives_take r s k b l (by simpa using h1) (by simpa using h2)
    simp only [List.take_succ_cons, partLives]
    split
    · rw [ih]; rfl
    · exact ih
theorem partLives_len : ∀ (keep : List Bool) (ls : List IvlD) (k : Nat), keep.length = ls.length → (partLives (keep.take k) (ls.take k)).length = kept keep k
  | [], [], k, _ => by simp [partLives, kept]
  | [], _ :: _, _, h => by simp at h
  | _ :: _, [], _, h => by simp at h
  | c :: r, m :: s, 0, _ => by simp [partLives, kept]
  | c :: r, m :: s, k + 1, h => by
    have ih := partLives_len r s k (by simpa using h)
    have e : kept (c :: r) (k + 1) = kept r k + (if c = true then 1 else 0) := by unfold kept; rw [List.take_succ_cons, List.countP_cons]; cases c <;> simp
    rw [e, List.take_succ_cons, List.take_succ_cons]
    cases c <;> simp [partLives, ih]
theorem filterMap_same {α : Type} {f : α → Option α} : ∀ (l : List α), (∀ x, x ∈ l → f x = some x) → l.filterMap f = l
  | [], _ => rfl
  | x :: l, h => by rw [List.filterMap_cons, h x (by simp)]; simp only; rw [filterMap_same l fun y hy => h y (by simp [hy])]
theorem part_all {keep : List Bool} {g : GraphD} (h : keep = List.replicate g.lives.length true) (hV : Valid g) : partD g keep = g := by
  have hk : ∀ k, k ≤ g.lives.length → kept keep k = k := fun k hk => by
    subst h
    unfold kept
    rw [List.take_replicate, List.countP_replicate]
    show min k g.lives.length = k
    omega
  have hl : ∀ (ls : List IvlD), partLives (List.replicate ls.length true) ls = ls := by
    intro ls
    induction ls with
    | nil => rfl
    | cons l ls ih => simp [List.replicate_succ, partLives, ih]
  have he : ∀ x, x ∈ g.edges → partEdge keep x = some x := fun x hx => by
    have ho := hV.edges x hx
    have h0 := ho.a0; have h1 := ho.a1; have h2 := ho.b0; have h3 := ho.b1
    unfold partEdge keptB
    rw [hk _ (by omega), hk _ (by omega), h]
    rw [if_pos ⟨by rw [List.getElem?_replicate, if_pos (by omega)]; rfl, by rw [List.getElem?_replicate, if_pos (by omega)]; rfl⟩]
    cases x
    simp only [Option.some.injEq, EdgeD.mk.injEq, and_true] at *
    omega
  have hE : g.edges.filterMap (partEdge keep) = g.edges := filterMap_same _ he
  unfold partD
  rw [hE]
  subst h
  rw [hl]
end Go.Proofs.Ytcgnalpcbcpmkaa
