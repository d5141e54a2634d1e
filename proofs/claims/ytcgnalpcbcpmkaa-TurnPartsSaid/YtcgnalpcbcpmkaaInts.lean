/- Lists of numbers that are told, with an error; two lists that are the same. -/
import Derived.Test.YtcgnalpcbcpmkaaSpread
import Derived.Test.YtcgnalpcbcpmkaaEqual
namespace Go.Proofs.Ytcgnalpcbcpmkaa
open Go.RowKit

/-- A list of numbers that is as it should be, and no error. -/
def IntsGood (P : List Int → Prop) (w : World) (e : Ending) (w' : World) : Prop := ∃ l A c, Hid (P l) ∧ e = .returned (.tuple #[.slice A l.length c, .int .i64 0]) ∧ SlAt RInt 1 w' A l ∧ l.length ≤ maxLen ∧ Below w.heap.size w w'
def IntsBad (er : Int) (w : World) (e : Ending) (w' : World) : Prop := ∃ A c, e = .returned (.tuple #[.slice A 0 c, .int .i64 er]) ∧ Below w.heap.size w w'
section
variable {P Q : List Int → Prop} {er : Int} {w w' : World} {e : Ending}
theorem ints_good (h : IntsOut P er w e w') (h0 : er = 0) (hpq : ∀ l, P l → Q l) : IntsGood Q w e w' := by
  subst h0
  obtain ⟨l, A, c, hl, he, h1, h2, h3⟩ := h
  exact ⟨l, A, c, Lib.hid (hpq l hl), he, h1, h2, h3⟩
theorem ints_bad (h : IntsOut P er w e w') (hpq : ∀ l, P l → l = []) : IntsBad er w e w' := by
  obtain ⟨l, A, c, hl, he, h1, h2, h3⟩ := h
  obtain rfl := hpq l hl
  exact ⟨A, c, he, h3⟩
end
theorem equalNil_any (A B : Option Addr) (c d : Nat) (w : World) : Calls Try.prog 51 #[.slice A 0 c, .slice B 0 d] w fun e w' => e = .returned (.bool true) ∧ Below w.heap.size w w' :=
  (equalInts_any A B c d [] [] w SlAt.nil SlAt.nil (by simp) (by simp)).mono fun e w' ⟨h1, h2⟩ => ⟨by rw [h1]; simp, h2⟩
theorem equalSame_any (A B : Option Addr) (c d : Nat) (l : List Int) (n m : Nat) (w : World) (hA : SlAt RInt 1 w A l) (hB : SlAt RInt 1 w B l) (hl : l.length ≤ maxLen) (hn : l.length = n) (hm : l.length = m) :
    Calls Try.prog 51 #[.slice A n c, .slice B m d] w fun e w' => e = .returned (.bool true) ∧ Below w.heap.size w w' := by
  subst hn; subst hm
  exact (equalInts_any A B c d l l w hA hB hl hl).mono fun e w' ⟨h1, h2⟩ => ⟨by rw [h1]; simp, h2⟩

theorem SlAt.cells {w : World} {A : Option Addr} {l : List Int} (h : SlAt RInt 1 w A l) (h0 : 0 < l.length) : ∃ b off, A = some ⟨b, off, none⟩ ∧ b < w.heap.size ∧ ∀ i, i < l.length → w.cell? ⟨b, off + i, none⟩ = some (.int .i64 (gi l i)) := by
  obtain ⟨b, off, h⟩ := h
  obtain ⟨rfl, hb, _⟩ := h 0 _ (gi_get h0)
  refine ⟨b, off, rfl, hb, fun i hi => ?_⟩
  obtain ⟨_, _, h2, _⟩ := h i _ (gi_get hi)
  simpa [cellIs] using h2
end Go.Proofs.Ytcgnalpcbcpmkaa
