/- Where a vertex stands among those that are kept, and slices.Index of numbers. -/
import Derived.Test.YtcgnalpcbcpmkaaPartSpec
import Derived.Test.YtcgnalpcbcpmkaaWalk
namespace Go.Proofs.Ytcgnalpcbcpmkaa
open Go.RowKit

/-- The numbers that are kept, of the first k. -/
def oldsF (keep : List Bool) : Nat → List Int
  | 0 => []
  | k + 1 => oldsF keep k ++ (if keep[k]? = some true then [(k : Int)] else [])
theorem idxOf_append {α : Type} [DecidableEq α] {y : α} : ∀ (l m : List α) (s : Nat), idxOf y s (l ++ m) = if y ∈ l then idxOf y s l else idxOf y (s + l.length) m
  | [], m, s => by simp
  | x :: l, m, s => by
    by_cases h : y = x
    · rw [List.cons_append, idxOf_hit h, idxOf_hit h, if_pos (by simp [h])]
    · rw [List.cons_append, idxOf_miss h, idxOf_miss h, idxOf_append l m (s + 1)]
      simp only [List.mem_cons, h, false_or, List.length_cons]
      rw [show s + 1 + l.length = s + (l.length + 1) by omega]
theorem olds_mem {keep : List Bool} {x : Int} : ∀ {k : Nat}, x ∈ oldsF keep k ↔ 0 ≤ x ∧ x < k ∧ keptB keep x = true
  | 0 => by simp [oldsF]; omega
  | k + 1 => by
    rw [oldsF, List.mem_append, olds_mem (k := k)]
    constructor
    · rintro (h | h)
      · exact ⟨h.1, by omega, h.2.2⟩
      · split at h
        · rename_i hk
          obtain rfl : x = k := by simpa using h
          exact ⟨by omega, by omega, by simp [keptB, hk]⟩
        · simp at h
    · rintro ⟨h1, h2, h3⟩
      by_cases e : x = k
      · right
        subst e
        have : keep[k]? = some true := by simpa [keptB] using h3
        rw [if_pos this]; simp
      · exact .inl ⟨h1, by omega, h3⟩
theorem olds_len {keep : List Bool} : ∀ {k : Nat}, k ≤ keep.length → (oldsF keep k).length = kept keep k
  | 0, _ => by simp [oldsF, kept]
  | k + 1, h => by
    rw [oldsF, List.length_append, olds_len (by omega), kept_succ (List.getElem?_eq_getElem (show k < keep.length by omega))]
    rw [List.getElem?_eq_getElem (show k < keep.length by omega)]
    cases keep[k] <;> simp
theorem olds_yes {keep : List Bool} {a : Int} : ∀ {k : Nat}, k ≤ keep.length → 0 ≤ a → a < k → keptB keep a = true → idxOf a 0 (oldsF keep k) = kept keep a.toNat
  | 0, _, _, _, _ => by omega
  | k + 1, hk, h0, h1, h2 => by
    rw [oldsF, idxOf_append]
    by_cases e : a = k
    · subst e
      have hn : ¬ (k : Int) ∈ oldsF keep k := fun hm => by have := (olds_mem.1 hm).2.1; omega
      have : keep[k]? = some true := by simpa [keptB] using h2
      rw [if_neg hn, if_pos this, idxOf_hit rfl, olds_len (by omega)]
      simp
    · rw [if_pos (olds_mem.2 ⟨h0, by omega, h2⟩), olds_yes (by omega) h0 (by omega) h2]
theorem olds_no {keep : List Bool} {a : Int} {k : Nat} (h : keptB keep a = false) : idxOf a 0 (oldsF keep k) = -1 := by
  have h1 := idxOf_mem (y := a) (oldsF keep k) 0
  have hn : ¬ a ∈ oldsF keep k := fun hm => by rw [(olds_mem.1 hm).2.2] at h; simp at h
  have : ¬ 0 ≤ idxOf a 0 (oldsF keep k) := fun h => hn (h1.1.1 h)
  omega

set_option maxHeartbeats 1000000 in
theorem indexInts_any (A : Option Addr) (c n : Nat) (l : List Int) (y : Int) (w : World) (hA : SlAt RInt 1 w A l) (hn : l.length = n) (hl : l.length ≤ maxLen) :
    Calls Try.prog 105 #[.slice A n c, .int .i64 y] w fun e w' => e = .returned (.int .i64 (idxOf y 0 l)) ∧ w = w' := by
  subst hn
  unfold maxLen at hl
  obtain ⟨ba, oa, hA⟩ := hA
  go_enter Try.func105, Try.ntmps105
  go_wp2_with fail
  go_loopw [8] (fun v wr => ∃ k : Nat, k ≤ l.length ∧ v = .int .i64 k ∧ Hid (idxOf y k (l.drop k) = idxOf y 0 l) ∧ wr = w) (fun v _ => l.length - (intOf v).toNat)
  case atStart => exact ⟨0, Nat.zero_le _, rfl, Lib.hid rfl, rfl⟩
  case round =>
    obtain ⟨k, hk, rfl, HI, rfl⟩ := hrel
    by_cases hlt : k < l.length
    · obtain ⟨x, hx⟩ := get_lt hlt
      obtain ⟨rfl, hba, x0⟩ := hA k x hx
      have HX := Lib.hid (drop_cons hx)
      unfold RInt at x0
      obtain ⟨x0, x1⟩ := x0
      unfold cellIs at x0
      simp only [Nat.mul_one] at x0
      clear hA hx
      by_cases hxy : y = x
      · have HXY := Lib.hid hxy
        have hs : ((y : Int) == x) = true := by simp [hxy]
        clear hxy
        go_wp2_with fail
        go_ret
        exact ⟨ret_int (by rw [← HI.out, HX.out, idxOf_hit HXY.out]), rfl⟩
      · have HXY := Lib.hid hxy
        have hs : ((y : Int) == x) = false := by simp [hxy]
        clear hxy
        go_wp2_with fail
        go_roundw
        case rel => exact ⟨k + 1, by omega, by go_num, Lib.hid (by rw [← HI.out, HX.out, idxOf_miss HXY.out]), by trivial⟩
        case measure => simp [intOf]; omega
    · go_wp2_with fail
      go_ret
      exact ⟨ret_int (by rw [← HI.out, drop_end (by omega)]; rfl), rfl⟩
end Go.Proofs.Ytcgnalpcbcpmkaa
