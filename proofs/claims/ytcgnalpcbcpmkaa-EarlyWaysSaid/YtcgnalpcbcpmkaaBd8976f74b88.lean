/- Several texts in one: PartSpec, PartIdx. -/
import Derived.Test.YtcgnalpcbcpmkaaBd62db7b8b90
import Derived.Test.YtcgnalpcbcpmkaaBd0f08d7f12b
/- Parts of a graph, as plain Lean; no program in sight. -/
namespace Go.Proofs.Ytcgnalpcbcpmkaa

/-- How many of the first k are kept. -/
def kept (keep : List Bool) (k : Nat) : Nat := (keep.take k).countP id
def keptB (keep : List Bool) (v : Int) : Bool := keep[v.toNat]? == some true
def partLives : List Bool → List IvlD → List IvlD
  | b :: r, l :: s => if b = true then l :: partLives r s else partLives r s
  | _, _ => []
def partEdge (keep : List Bool) (x : EdgeD) : Option EdgeD := if keptB keep x.a = true ∧ keptB keep x.b = true then some ⟨kept keep x.a.toNat, kept keep x.b.toNat, x.legs⟩ else none
def partD (g : GraphD) (keep : List Bool) : GraphD := ⟨g.h, partLives keep g.lives, g.edges.filterMap (partEdge keep)⟩
def onlyErr (g : GraphD) (n : Nat) : Int := if graphErr g = 0 then (if n = g.lives.length then 0 else 5) else graphErr g
theorem kept_succ {keep : List Bool} {k : Nat} {b : Bool} (h : keep[k]? = some b) : kept keep (k + 1) = kept keep k + (if b = true then 1 else 0) := by
  unfold kept
  rw [List.take_add_one, h, List.countP_append]
  cases b <;> simp
theorem kept_le (keep : List Bool) (k : Nat) : kept keep k ≤ k := by
  unfold kept
  exact Nat.le_trans List.countP_le_length (by rw [List.length_take]; omega)
theorem partLives_take : ∀ (keep : List Bool) (ls : List IvlD) (k : Nat) (b : Bool) (l : IvlD), keep[k]? = some b → ls[k]? = some l →
    partLives (keep.take (k + 1)) (ls.take (k + 1)) = partLives (keep.take k) (ls.take k) ++ (if b = true then [l] else [])
  | [], _, _, _, _, h, _ => by simp at h
  | _ :: _, [], _, _, _, _, h => by simp at h
  | c :: r, m :: s, 0, b, l, h1, h2 => by
    obtain rfl : c = b := by simpa using h1
    obtain rfl : m = l := by simpa using h2
    cases c <;> simp [partLives]
  | c :: r, m :: s, k + 1, b, l, h1, h2 => by
    have ih := partLives_take r s k b l (by simpa using h1) (by simpa using h2)
    simp only [List.take_succ_cons, partLives]
    split
    · rw [ih]; rfl
    · exact ih
theorem partLives_len : ∀ (keep : List Bool) (ls : List IvlD) (k : Nat), keep.length = ls.length → (partLives (keep.take k) (ls.take k)).length = kept keep k
  | [], [], k, _ => by simp [partLives, kept]
  | [], _ :: _, _, h => by simp at h
  | _ :: _, [], _, h => by simp at h
  | c :: r, m :: s, 0, _ => by simp [partLives, kept]
  | c :: r, m :: s, k + 1, h => by
    have ih := partLives_len r s k (by simpa using h)
    have e : kept (c :: r) (k + 1) = kept r k + (if c = true then 1 else 0) := by unfold kept; rw [List.take_succ_cons, List.countP_cons]; cases c <;> simp
    rw [e, List.take_succ_cons, List.take_succ_cons]
    cases c <;> simp [partLives, ih]
theorem filterMap_same {α : Type} {f : α → Option α} : ∀ (l : List α), (∀ x, x ∈ l → f x = some x) → l.filterMap f = l
  | [], _ => rfl
  | x :: l, h => by rw [List.filterMap_cons, h x (by simp)]; simp only; rw [filterMap_same l fun y hy => h y (by simp [hy])]
theorem part_all {keep : List Bool} {g : GraphD} (h : keep = List.replicate g.lives.length true) (hV : Valid g) : partD g keep = g := by
  have hk : ∀ k, k ≤ g.lives.length → kept keep k = k := fun k hk => by
    subst h
    unfold kept
    rw [List.take_replicate, List.countP_replicate]
    show min k g.lives.length = k
    omega
  have hl : ∀ (ls : List IvlD), partLives (List.replicate ls.length true) ls = ls := by
    intro ls
    induction ls with
    | nil => rfl
    | cons l ls ih => simp [List.replicate_succ, partLives, ih]
  have he : ∀ x, x ∈ g.edges → partEdge keep x = some x := fun x hx => by
    have ho := hV.edges x hx
    have h0 := ho.a0; have h1 := ho.a1; have h2 := ho.b0; have h3 := ho.b1
    unfold partEdge keptB
    rw [hk _ (by omega), hk _ (by omega), h]
    rw [if_pos ⟨by rw [List.getElem?_replicate, if_pos (by omega)]; rfl, by rw [List.getElem?_replicate, if_pos (by omega)]; rfl⟩]
    cases x
    simp only [Option.some.injEq, EdgeD.mk.injEq, and_true] at *
    omega
  have hE : g.edges.filterMap (partEdge keep) = g.edges := filterMap_same _ he
  unfold partD
  rw [hE]
  subst h
  rw [hl]
end Go.Proofs.Ytcgnalpcbcpmkaa
/- Where a vertex stands among those that are kept, and slices.Index of numbers. -/
namespace Go.Proofs.Ytcgnalpcbcpmkaa
open Go.RowKit

/-- The numbers that are kept, of the first k. -/
def oldsF (keep : List Bool) : Nat → List Int
  | 0 => []
  | k + 1 => oldsF keep k ++ (if keep[k]? = some true then [(k : Int)] else [])
theorem idxOf_append {α : Type} [DecidableEq α] {y : α} : ∀ (l m : List α) (s : Nat), idxOf y s (l ++ m) = if y ∈ l then idxOf y s l else idxOf y (s + l.length) m
  | [], m, s => by simp
  | x :: l, m, s => by
    by_cases h : y = x
    · rw [List.cons_append, idxOf_hit h, idxOf_hit h, if_pos (by simp [h])]
    · rw [List.cons_append, idxOf_miss h, idxOf_miss h, idxOf_append l m (s + 1)]
      simp only [List.mem_cons, h, false_or, List.length_cons]
      rw [show s + 1 + l.length = s + (l.length + 1) by omega]
theorem olds_mem {keep : List Bool} {x : Int} : ∀ {k : Nat}, x ∈ oldsF keep k ↔ 0 ≤ x ∧ x < k ∧ keptB keep x = true
  | 0 => by simp [oldsF]; omega
  | k + 1 => by
    rw [oldsF, List.mem_append, olds_mem (k := k)]
    constructor
    · rintro (h | h)
      · exact ⟨h.1, by omega, h.2.2⟩
      · split at h
        · rename_i hk
          obtain rfl : x = k := by simpa using h
          exact ⟨by omega, by omega, by simp [keptB, hk]⟩
        · simp at h
    · rintro ⟨h1, h2, h3⟩
      by_cases e : x = k
      · right
        subst e
        have : keep[k]? = some true := by simpa [keptB] using h3
        rw [if_pos this]; simp
      · exact .inl ⟨h1, by omega, h3⟩
theorem olds_len {keep : List Bool} : ∀ {k : Nat}, k ≤ keep.length → (oldsF keep k).length = kept keep k
  | 0, _ => by simp [oldsF, kept]
  | k + 1, h => by
    rw [oldsF, List.length_append, olds_len (by omega), kept_succ (List.getElem?_eq_getElem (show k < keep.length by omega))]
    rw [List.getElem?_eq_getElem (show k < keep.length by omega)]
    cases keep[k] <;> simp
theorem olds_yes {keep : List Bool} {a : Int} : ∀ {k : Nat}, k ≤ keep.length → 0 ≤ a → a < k → keptB keep a = true → idxOf a 0 (oldsF keep k) = kept keep a.toNat
  | 0, _, _, _, _ => by omega
  | k + 1, hk, h0, h1, h2 => by
    rw [oldsF, idxOf_append]
    by_cases e : a = k
    · subst e
      have hn : ¬ (k : Int) ∈ oldsF keep k := fun hm => by have := (olds_mem.1 hm).2.1; omega
      have : keep[k]? = some true := by simpa [keptB] using h2
      rw [if_neg hn, if_pos this, idxOf_hit rfl, olds_len (by omega)]
      simp
    · rw [if_pos (olds_mem.2 ⟨h0, by omega, h2⟩), olds_yes (by omega) h0 (by omega) h2]
theorem olds_no {keep : List Bool} {a : Int} {k : Nat} (h : keptB keep a = false) : idxOf a 0 (oldsF keep k) = -1 := by
  have h1 := idxOf_mem (y := a) (oldsF keep k) 0
  have hn : ¬ a ∈ oldsF keep k := fun hm => by rw [(olds_mem.1 hm).2.2] at h; simp at h
  have : ¬ 0 ≤ idxOf a 0 (oldsF keep k) := fun h => hn (h1.1.1 h)
  omega

set_option maxHeartbeats 1000000 in
theorem indexInts_any (A : Option Addr) (c n : Nat) (l : List Int) (y : Int) (w : World) (hA : SlAt RInt 1 w A l) (hn : l.length = n) (hl : l.length ≤ maxLen) :
    Calls Try.prog 105 #[.slice A n c, .int .i64 y] w fun e w' => e = .returned (.int .i64 (idxOf y 0 l)) ∧ w = w' := by
  subst hn
  unfold maxLen at hl
  obtain ⟨ba, oa, hA⟩ := hA
  go_enter Try.func105, Try.ntmps105
  go_wp2_with fail
  go_loopw [8] (fun v wr => ∃ k : Nat, k ≤ l.length ∧ v = .int .i64 k ∧ Hid (idxOf y k (l.drop k) = idxOf y 0 l) ∧ wr = w) (fun v _ => l.length - (intOf v).toNat)
  case atStart => exact ⟨0, Nat.zero_le _, rfl, Lib.hid rfl, rfl⟩
  case round =>
    obtain ⟨k, hk, rfl, HI, rfl⟩ := hrel
    by_cases hlt : k < l.length
    · obtain ⟨x, hx⟩ := get_lt hlt
      obtain ⟨rfl, hba, x0⟩ := hA k x hx
      have HX := Lib.hid (drop_cons hx)
      unfold RInt at x0
      obtain ⟨x0, x1⟩ := x0
      unfold cellIs at x0
      simp only [Nat.mul_one] at x0
      clear hA hx
      by_cases hxy : y = x
      · have HXY := Lib.hid hxy
        have hs : ((y : Int) == x) = true := by simp [hxy]
        clear hxy
        go_wp2_with fail
        go_ret
        exact ⟨ret_int (by rw [← HI.out, HX.out, idxOf_hit HXY.out]), rfl⟩
      · have HXY := Lib.hid hxy
        have hs : ((y : Int) == x) = false := by simp [hxy]
        clear hxy
        go_wp2_with fail
        go_roundw
        case rel => exact ⟨k + 1, by omega, by go_num, Lib.hid (by rw [← HI.out, HX.out, idxOf_miss HXY.out]), by trivial⟩
        case measure => simp [intOf]; omega
    · go_wp2_with fail
      go_ret
      exact ⟨ret_int (by rw [← HI.out, drop_end (by omega)]; rfl), rfl⟩
end Go.Proofs.Ytcgnalpcbcpmkaa
