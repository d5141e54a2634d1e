/- The hops that leave a place, as plain Lean functions. -/
import Derived.Test.YtcgnalpcbcpmkaaSpec2
namespace Go.Proofs.Ytcgnalpcbcpmkaa
open Go.RowKit

def hopEnc (h : HopD) : List Value := [.int .i64 h.edge, .int .i64 h.depart]
/-- Can one leave along an edge from v at d? -/
def leavesB (g : GraphD) (v d : Int) (x : EdgeD) : Bool := (arrive g x d).isSome && decide (x.a = v)
theorem leavesB_none {g : GraphD} {v d : Int} {x : EdgeD} (h : arrive g x d = none) : leavesB g v d x = false := by simp [leavesB, h]
theorem leavesB_some {g : GraphD} {v d : Int} {x : EdgeD} {p : LegD × Int} (h : arrive g x d = some p) (h2 : x.a = v) : leavesB g v d x = true := by simp [leavesB, h, h2]
theorem leavesB_other {g : GraphD} {v d : Int} {x : EdgeD} (h2 : ¬ x.a = v) : leavesB g v d x = false := by simp [leavesB, h2]
/-- The hops of one time, by edges from number i on. -/
def outsAt (g : GraphD) (v d : Int) : Nat → List EdgeD → List HopD
  | _, [] => []
  | i, x :: r => if leavesB g v d x = true then ⟨i, d⟩ :: outsAt g v d (i + 1) r else outsAt g v d (i + 1) r
theorem outsAt_yes {g : GraphD} {v d : Int} {i : Nat} {x : EdgeD} {r : List EdgeD} (h : leavesB g v d x = true) : outsAt g v d i (x :: r) = ⟨i, d⟩ :: outsAt g v d (i + 1) r := by rw [outsAt, if_pos h]
theorem outsAt_no {g : GraphD} {v d : Int} {i : Nat} {x : EdgeD} {r : List EdgeD} (h : leavesB g v d x = false) : outsAt g v d i (x :: r) = outsAt g v d (i + 1) r := by rw [outsAt, if_neg (by simp [h])]
/-- The hops of n times from d on. -/
def outsL (g : GraphD) (v : Int) : Nat → Int → List HopD
  | 0, _ => []
  | n + 1, d => outsAt g v d 0 g.edges ++ outsL g v n (d + 1)
def outs (g : GraphD) (v t : Int) : List HopD := if aliveB g v t = true then outsL g v (g.h - t).toNat t else []
/-- P15: Out, its list and its error. -/
def outR (g : GraphD) (v t : Int) : List HopD := if placeErr g v t = 0 then outs g v t else []

theorem outsAt_mem {g : GraphD} {v d : Int} {h : HopD} : ∀ (l : List EdgeD) (i : Nat), h ∈ outsAt g v d i l ↔ h.depart = d ∧ ∃ k x, l[k]? = some x ∧ h.edge = ((i + k : Nat) : Int) ∧ leavesB g v d x = true
  | [], i => by simp [outsAt]
  | y :: l, i => by
    have ih := outsAt_mem (g := g) (v := v) (d := d) (h := h) l (i + 1)
    have key : (∃ k x, (y :: l)[k]? = some x ∧ h.edge = ((i + k : Nat) : Int) ∧ leavesB g v d x = true) ↔ (h.edge = (i : Int) ∧ leavesB g v d y = true) ∨ ∃ k x, l[k]? = some x ∧ h.edge = ((i + 1 + k : Nat) : Int) ∧ leavesB g v d x = true := by
      constructor
      · rintro ⟨k, x, hk, he, hl⟩
        cases k with
        | zero =>
          have hyx : y = x := by simpa using hk
          exact .inl ⟨by simpa using he, by rw [hyx]; exact hl⟩
        | succ k => exact .inr ⟨k, x, by simpa using hk, by rw [he]; congr 1; omega, hl⟩
      · rintro (⟨he, hl⟩ | ⟨k, x, hk, he, hl⟩)
        · exact ⟨0, y, by simp, by simpa using he, hl⟩
        · exact ⟨k + 1, x, by simpa using hk, by rw [he]; congr 1; omega, hl⟩
    cases hb : leavesB g v d y
    · rw [outsAt_no hb, ih, key, hb]; simp
    · rw [outsAt_yes hb, List.mem_cons, ih, key, hb]
      constructor
      · rintro (rfl | ⟨h1, h2⟩)
        · exact ⟨rfl, .inl ⟨rfl, rfl⟩⟩
        · exact ⟨h1, .inr h2⟩
      · rintro ⟨h1, ⟨h2, _⟩ | h2⟩
        · left; cases h; simp at h1 h2; simp [h1, h2]
        · exact .inr ⟨h1, h2⟩
theorem outsAt_len {g : GraphD} {v d : Int} : ∀ (l : List EdgeD) (i : Nat), (outsAt g v d i l).length ≤ l.length
  | [], _ => by simp [outsAt]
  | y :: l, i => by
    have := outsAt_len (g := g) (v := v) (d := d) l (i + 1)
    unfold outsAt
    split <;> simp <;> omega
theorem outsL_len {g : GraphD} {v : Int} : ∀ (n : Nat) (d : Int), (outsL g v n d).length ≤ n * g.edges.length
  | 0, _ => by simp [outsL]
  | n + 1, d => by
    have h1 := outsL_len (g := g) (v := v) n (d + 1)
    have h2 := outsAt_len (g := g) (v := v) (d := d) g.edges 0
    rw [outsL, List.length_append, Nat.succ_mul]
    omega
theorem outsL_mem {g : GraphD} {v : Int} {h : HopD} : ∀ (n : Nat) (d : Int), h ∈ outsL g v n d ↔ d ≤ h.depart ∧ h.depart < d + n ∧ h ∈ outsAt g v h.depart 0 g.edges
  | 0, d => by simp [outsL]; intros; omega
  | n + 1, d => by
    rw [outsL, List.mem_append, outsL_mem n (d + 1)]
    constructor
    · rintro (h1 | ⟨h1, h2, h3⟩)
      · have := (outsAt_mem _ _).1 h1
        obtain ⟨rfl, _⟩ := this
        exact ⟨by omega, by omega, h1⟩
      · exact ⟨by omega, by omega, h3⟩
    · rintro ⟨h1, h2, h3⟩
      by_cases e : h.depart = d
      · left; rw [e] at h3; exact h3
      · right; exact ⟨by omega, by omega, h3⟩
end Go.Proofs.Ytcgnalpcbcpmkaa
