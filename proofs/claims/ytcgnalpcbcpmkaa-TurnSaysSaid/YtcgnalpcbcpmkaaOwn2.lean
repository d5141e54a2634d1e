/- More on lists that a call owns: an append of several elements, a list that a literal makes. -/
import Derived.Test.YtcgnalpcbcpmkaaOwn
import Derived.Deep.AppendLies
import Derived.Deep.RegionHeldLaw
namespace Go.Proofs.Ytcgnalpcbcpmkaa
open Go.RowKit

/-- A block of another kind than a list's rows is not the list's. -/
theorem Own.other {α : Type} {enc : α → List Value} {sz : Nat} {w : World} {base : Nat} {e t : TypeId} {v : Value} {l : List α} {b : Nat} {cs : Array Value} (h : Own enc sz w base e v l) (hb : Blk w b t cs) (ht : t ≠ e) : some b ≠ v.ownBlock := by
  rcases h.2 with ⟨rfl, _⟩ | ⟨g, cap, cur, rfl, _, hh, _⟩
  · simp [Value.ownBlock]
  · intro hbg
    simp only [Value.ownBlock, Option.some.injEq] at hbg
    subst hbg
    unfold Blk at hb
    rw [hh] at hb
    cases hb
    exact ht rfl
theorem wpList_append_els {P : Program} {ops : Array Oper} {rest : List Oper} {o : Oper} {a : Act} {Q : Exit → Act → World → Prop} {w0 : World} {α : Type} {enc : α → List Value} (hgd : o.guard = none) (s x : Operand) (t : TypeId)
    (ho : o.op = .call { callee := .builtin .append, args := #[s, x], argTypes := #[t, t] })
    (base : Nat) (e : TypeId) (i : TypeInfo) (z : Value) (size bytes : Nat) (ht : P.underlying t = some (.slice e)) (hi : P.info? e = some i) (hz : i.zero = some z)
    (hsize : i.size = size) (hby : i.bytes = bytes) (hzs : z.cells.size = size) (hsz : 0 < size)
    (v : Value) (l : List α) (ys : List α) (m : Nat) (hm : ys.length = m) (hs : a.eval s = v) (hown : Own enc size w0 base e v l) (cs : Array Value) (hcy : cs.toList = ys.flatMap enc) (k : Nat) (hk : k = w0.heap.size) (hx : a.eval x = .slice (some ⟨k, 0, none⟩) m m) (hcs : cs.size = m * size)
    (h1 : ∀ u ∈ cs.toList, u.oneCell' = true) (h63 : l.length + m ≤ 1000000) (hby2 : bytes ≤ 1000) (hbase : base ≤ w0.heap.size)
    (h : ∀ v' w', Own enc size w' base e v' (l ++ ys) → Below base w0 w' → (∀ b t' cs', Blk w0 b t' cs' → t' ≠ e → Blk w' b t' cs') → wpList P ops Q rest (a.put o.dst v') w') : wpList P ops Q (o :: rest) a (w0.alloc (.cells cs e)) := by
  subst hk
  have hb2 : (l.length + m) * bytes ≤ 140737488355328 := Nat.le_trans (Nat.mul_le_mul h63 hby2) (by decide)
  refine wpList_append_own _ hgd s x t ho base e i z size bytes ht hi hz hsize hby hzs hsz v l.length (l.flatMap enc) hs (World.ownsRow.alloc hown _) ⟨w0.heap.size, 0, none⟩ m m cs.toList hx (by simp [hcs])
    ?_ h1 (by unfold maxLen; omega) hb2 (by simp; omega) ?_
  · intro j u hu
    rw [Go.WideShapes.add_plain, cell_of_row _ _ _ cs e (0, 0) (heap_alloc_new w0 _)]
    simpa using hu
  · intro v' w' h2 h3 _
    refine h v' w' ?_ ?_ fun b t' cs' hB ht' => (hB.alloc _).grown h3 (hown.other hB ht')
    · show w'.ownsRow base e size v' (l ++ ys).length ((l ++ ys).flatMap enc)
      rw [List.flatMap_append, List.length_append, hm]
      simpa [hcy] using h2
    · have hb : Below base w0 (w0.alloc (.cells cs e)) := (Below.refl _ _).alloc hbase _
      exact hb.grown h3 (by simp; omega) fun k hk => (World.ownsRow.lt hown k hk).1
/-- What a literal makes is owned. -/
theorem Own.lit {α : Type} {enc : α → List Value} {sz : Nat} {w : World} {base : Nat} {e : TypeId} {cs : Array Value} {l : List α} {n m : Nat} (hn : n = w.heap.size) (hb : base ≤ n) (hl : l.length = m) (hcs : cs.toList = l.flatMap enc) (hsz : cs.size = m * sz) (hm : m ≤ maxLen) :
    Own enc sz (w.alloc (.cells cs e)) base e (.slice (some ⟨n, 0, none⟩) m m) l := by
  subst hn
  refine ⟨by rw [← hcs, hl]; simpa using hsz, .inr ⟨w.heap.size, m, cs, by rw [hl], hb, heap_alloc_new w _, by omega, hm, hsz, ?_⟩⟩
  rw [← hcs, hl, List.take_of_length_le]
  simp [hsz]
theorem below_drew {B : Nat} {a w : World} (h : Below B a w) : Below B a w.drew := ⟨h.os, h.tape, h.output, h.size, h.block⟩
theorem cell_keepB {B : Nat} {w w' : World} {p : Addr} {v : Value} (hb : Below B w w') (hp : p.block < B) (h : w.cell? p = some v) : w'.cell? p = some v := (hb.cell hp).trans h
theorem keepB4 {B : Nat} {w w' : World} {p0 p1 p2 p3 : Addr} {v0 v1 v2 v3 : Value} (hb : Below B w w') (h0 : p0.block < B) (h1 : p1.block < B) (h2 : p2.block < B) (h3 : p3.block < B)
    (h : w.cell? p0 = some v0 ∧ w.cell? p1 = some v1 ∧ w.cell? p2 = some v2 ∧ w.cell? p3 = some v3) : w'.cell? p0 = some v0 ∧ w'.cell? p1 = some v1 ∧ w'.cell? p2 = some v2 ∧ w'.cell? p3 = some v3 := by
  obtain ⟨k0, k1, k2, k3⟩ := h
  exact ⟨cell_keepB hb h0 k0, cell_keepB hb h1 k1, cell_keepB hb h2 k2, cell_keepB hb h3 k3⟩
theorem keepB5 {B : Nat} {w w' : World} {p0 p1 p2 p3 p4 : Addr} {v0 v1 v2 v3 v4 : Value} (hb : Below B w w') (h0 : p0.block < B) (h1 : p1.block < B) (h2 : p2.block < B) (h3 : p3.block < B) (h4 : p4.block < B)
    (h : w.cell? p0 = some v0 ∧ w.cell? p1 = some v1 ∧ w.cell? p2 = some v2 ∧ w.cell? p3 = some v3 ∧ w.cell? p4 = some v4) : w'.cell? p0 = some v0 ∧ w'.cell? p1 = some v1 ∧ w'.cell? p2 = some v2 ∧ w'.cell? p3 = some v3 ∧ w'.cell? p4 = some v4 := by
  obtain ⟨k0, k1, k2, k3, k4⟩ := h
  exact ⟨cell_keepB hb h0 k0, cell_keepB hb h1 k1, cell_keepB hb h2 k2, cell_keepB hb h3 k3, cell_keepB hb h4 k4⟩
/-- An append of several elements at a step of a region that draws its order. -/
theorem step_append_els {P : Program} {w : World} {ops : Array Oper} {o : Oper} {a : Act} {K : Act → World → Prop} {Q : Exit → Act → World → Prop} {E : Prop} {α : Type} {enc : α → List Value} (hgd : o.guard = none) (s x : Operand) (t : TypeId)
    (ho : o.op = .call { callee := .builtin .append, args := #[s, x], argTypes := #[t, t] })
    (base : Nat) (e : TypeId) (i : TypeInfo) (z : Value) (size bytes : Nat) (ht : P.underlying t = some (.slice e)) (hi : P.info? e = some i) (hz : i.zero = some z)
    (hsize : i.size = size) (hby : i.bytes = bytes) (hzs : z.cells.size = size) (hsz : 0 < size)
    (v : Value) (l : List α) (ys : List α) (m : Nat) (hm : ys.length = m) (hm0 : 0 < m) (hs : a.eval s = v) (hown : Own enc size w base e v l) (cs : Array Value) (hcy : cs.toList = ys.flatMap enc) (k : Nat) (hk : Blk w k e cs) (hx : a.eval x = .slice (some ⟨k, 0, none⟩) m m) (hcs : cs.size = m * size)
    (h1 : ∀ u ∈ cs.toList, u.oneCell' = true) (h63 : l.length + m ≤ 1000000) (hby2 : bytes ≤ 1000) (hbase : base ≤ w.heap.size)
    (h : ∀ v' w', Own enc size w' base e v' (l ++ ys) → Below base w w' → (∀ b t' cs', Blk w b t' cs' → t' ≠ e → Blk w' b t' cs') → K (a.put o.dst v') w') :
    if Region.wanted o (yielded ops a.tmps) = true then Oper.wp P o a w K Q else E := by
  have hb2 : (l.length + m) * bytes ≤ 140737488355328 := Nat.le_trans (Nat.mul_le_mul h63 hby2) (by decide)
  refine step_append_lies w hgd s x t ho base e i z size bytes ht hi hz hsize hby hzs hsz v l.length (l.flatMap enc) hs hown ⟨k, 0, none⟩ m m cs.toList hx (by simp [hcs])
    (World.news_of_block hk) h1 hm0 (by unfold maxLen; omega) hb2 hbase _ rfl ?_
  intro g cap w' h2 h3 _ _
  refine h _ w' ?_ ?_ fun b t' cs' hB ht' => hB.grown h3 (hown.other hB ht')
  · show w'.ownsRow base e size _ (l ++ ys).length ((l ++ ys).flatMap enc)
    rw [List.flatMap_append, List.length_append, hm]
    simpa [hcy] using h2
  · exact (Below.refl base w).grown h3 hbase fun k hk => (World.ownsRow.lt hown k hk).1
end Go.Proofs.Ytcgnalpcbcpmkaa
