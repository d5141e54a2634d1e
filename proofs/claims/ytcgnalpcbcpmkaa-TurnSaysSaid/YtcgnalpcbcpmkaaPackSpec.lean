/- A graph's numbers and bytes, as plain Lean functions; no program in sight. -/
import Derived.Test.YtcgnalpcbcpmkaaSpec
import Derived.Test.YtcgnalpcbcpmkaaSumSpec
import Derived.Laws.BytesArg
namespace Go.Proofs.Ytcgnalpcbcpmkaa
open Go.RowKit

def lifeNums (l : IvlD) : List Int := [l.f, l.t]
def legNums (l : LegD) : List Int := [l.f, l.t, l.time, l.cost]
def edgeNums (x : EdgeD) : List Int := [x.a, x.b, (x.legs.length : Int)] ++ x.legs.flatMap legNums
/-- P23: the numbers of a graph. -/
def numsL (g : GraphD) : List Int := [g.h, (g.lives.length : Int), (g.edges.length : Int)] ++ (g.lives.flatMap lifeNums ++ g.edges.flatMap edgeNums)
def bytesL (l : List Int) : List Int := l.flatMap fun n => [n / 256, n % 256]
def sumBytes (n : Nat) : List Int := [((n % 256 : Nat) : Int), ((n / 256 % 256 : Nat) : Int), ((n / 65536 % 256 : Nat) : Int), ((n / 16777216 % 256 : Nat) : Int)]
/-- P23: the bytes of a graph. -/
def coded (g : GraphD) : ByteArray := strOfNums (bytesL (numsL g) ++ sumBytes (crc (strOfNums (bytesL (numsL g)))))

def Num (n : Int) : Prop := 0 ≤ n ∧ n ≤ 1000
theorem len_flatMap_le {α β : Type} {f : α → List β} {m : Nat} : ∀ (l : List α), (∀ x, x ∈ l → (f x).length ≤ m) → (l.flatMap f).length ≤ l.length * m
  | [], _ => by simp
  | x :: l, h => by
    have h1 := h x (by simp)
    have h2 := len_flatMap_le l fun y hy => h y (by simp [hy])
    rw [List.flatMap_cons, List.length_append, List.length_cons, Nat.succ_mul]
    omega
theorem nums_edge {g : GraphD} (hV : Valid g) {x : EdgeD} (hx : x ∈ g.edges) : (∀ n, n ∈ edgeNums x → Num n) ∧ (edgeNums x).length ≤ 27 := by
  have h := hV.edges x hx
  have h1 := h.a0; have h2 := h.a1; have h3 := h.b0; have h4 := h.b1; have h5 := h.six
  have h6 := hV.nl; have h7 := hV.h1
  constructor
  · intro n hn
    unfold edgeNums at hn
    rw [List.mem_append] at hn
    rcases hn with hn | hn
    · simp at hn
      unfold Num
      omega
    · obtain ⟨l, hl, hn⟩ := List.mem_flatMap.1 hn
      have := h.legs l hl
      simp [legNums] at hn
      unfold Num
      omega
  · have := len_flatMap_le (f := legNums) (m := 4) x.legs (fun _ _ => by simp [legNums])
    unfold edgeNums
    simp only [List.length_append, List.length_cons, List.length_nil]
    omega
theorem nums_num {g : GraphD} (hV : Valid g) : (∀ n, n ∈ numsL g → Num n) ∧ (numsL g).length ≤ 900 := by
  have h6 := hV.nl; have h7 := hV.h1; have h8 := hV.ne; have h9 := hV.h0
  constructor
  · intro n hn
    unfold numsL at hn
    rw [List.mem_append, List.mem_append] at hn
    rcases hn with hn | hn | hn
    · simp at hn
      unfold Num
      omega
    · obtain ⟨l, hl, hn⟩ := List.mem_flatMap.1 hn
      have := hV.lives l hl
      simp [lifeNums] at hn
      unfold Num
      omega
    · obtain ⟨x, hx, hn⟩ := List.mem_flatMap.1 hn
      exact (nums_edge hV hx).1 n hn
  · have h1 := len_flatMap_le (f := lifeNums) (m := 2) g.lives (fun _ _ => by simp [lifeNums])
    have h2 := len_flatMap_le (f := edgeNums) (m := 27) g.edges (fun x hx => (nums_edge hV hx).2)
    unfold numsL
    simp only [List.length_append, List.length_cons, List.length_nil]
    omega
end Go.Proofs.Ytcgnalpcbcpmkaa
