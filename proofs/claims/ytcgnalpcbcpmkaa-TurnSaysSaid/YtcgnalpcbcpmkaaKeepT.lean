/- A graph that a call has made stays, whatever is written into blocks of another kind. -/
import Derived.Test.YtcgnalpcbcpmkaaTurnMem
namespace Go.Proofs.Ytcgnalpcbcpmkaa
open Go.RowKit

/-- All blocks stay but those of graphs' heads. -/
def KeepsT (w w' : World) : Prop := ∀ (t : TypeId) (b : Nat) (cs : Array Value), t ≠ 28 → Blk w b t cs → Blk w' b t cs
theorem KeepsT.refl (w : World) : KeepsT w w := fun _ _ _ _ h => h
theorem KeepsT.set {w w' : World} (h : KeepsT w w') {g : Nat} {cs : Array Value} (hB : Blk w' g 28 cs) (i : Nat) (v : Value) : KeepsT w (w'.setCell ⟨g, i, none⟩ v) := fun t b cs' ht hb => (h t b cs' ht hb).far (blk_ne (h t b cs' ht hb) hB ht) v
def GraphK (w : World) (A : Option Addr) (c : Nat) (A' : Option Addr) (c' : Nat) (g : GraphD) : Prop := ∀ w', KeepsT w w' → GraphAt w' A c A' c' g
def GraphErrK (g : GraphD) (er : Int) (w : World) (e : Ending) (w' : World) : Prop := ∃ A c A' c', e = .returned (.tuple #[gV A c A' c' g, .int .i64 er]) ∧ GraphK w' A c A' c' g ∧ Below w.heap.size w w'
end Go.Proofs.Ytcgnalpcbcpmkaa
