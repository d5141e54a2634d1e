/- Several texts in one: TurnMem, ListMem, IvlCheck. -/
import Derived.Test.YtdpibehpmghghaaGreatProg
import Derived.Test.YtdpibehpmghghaaGreatBdcc6882d3e7
import Derived.Test.YtdpibehpmghghaaGreatBd3095caa12a
import Derived.Test.YtdpibehpmghghaaGreatBd0a10e81a0b
import Derived.Test.YtdpibehpmghghaaGreatBd87574eba69
/- A graph that a call builds: its lives, its edges and their legs, each in blocks of its own. -/
namespace Go.Proofs.YtdpibehpmghghaaGreat
open Go.RowKit

def ivlC (x : IvlD) : List Value := [.int .i64 x.f, .int .i64 x.t]
/-- An edge, where its legs lie, and for how many there is room. -/
abbrev EItem := EdgeD × Option Addr × Nat
def eEnc (it : EItem) : List Value := [.int .i64 it.1.a, .int .i64 it.1.b, .slice it.2.1 it.1.legs.length it.2.2]
/-- At the address a block of legs begins with the list. -/
def LOwn (w : World) (A : Option Addr) (r : List LegD) : Prop := 0 < r.length → ∃ (g : Nat) (cs : Array Value), A = some ⟨g, 0, none⟩ ∧ Blk w g 77 cs ∧
  ∀ (k : Nat) (x : LegD), r[k]? = some x → cs[k * 4]? = some (.int .i64 x.f) ∧ cs[k * 4 + 1]? = some (.int .i64 x.t) ∧ cs[k * 4 + 2]? = some (.int .i64 x.time) ∧ cs[k * 4 + 3]? = some (.int .i64 x.cost)
def LegsAt (w : World) (items : List EItem) : Prop := ∀ it, it ∈ items → LOwn w it.2.1 it.1.legs ∧ it.1.legs.length ≤ it.2.2 ∧ it.2.2 ≤ maxLen
def LegI (x : LegD) : Prop := I64 x.f ∧ I64 x.t ∧ I64 x.time ∧ I64 x.cost
section
variable {w w' : World} {A : Option Addr} {r : List LegD} {items : List EItem} {base : Nat} {v : Value}
theorem Own.keep {α : Type} {enc : α → List Value} {sz : Nat} {e : TypeId} {l : List α} (h : Own enc sz w base e v l) (hk : ∀ b cs, Blk w b e cs → Blk w' b e cs) : Own enc sz w' base e v l := by
  refine ⟨h.1, ?_⟩
  rcases h.2 with h2 | ⟨g, cap, cur, hv, hg, hh, r⟩
  · exact .inl h2
  · exact .inr ⟨g, cap, cur, hv, hg, hk g cur hh, r⟩
theorem Own.room {α : Type} {enc : α → List Value} {sz : Nat} {e : TypeId} {n c : Nat} {l : List α} (h : Own enc sz w base e (.slice A n c) l) : l.length ≤ c ∧ c ≤ maxLen := by
  rcases h.2 with ⟨h1, h0⟩ | ⟨g, cap, cur, hv, _, _, h1, h2, _⟩
  · cases h1; rw [h0]; simp
  · cases hv; exact ⟨h1, h2⟩
theorem LOwn.keep (h : LOwn w A r) (hk : ∀ b cs, Blk w b 77 cs → Blk w' b 77 cs) : LOwn w' A r := fun h0 => by
  obtain ⟨g, cs, h1, h2, h3⟩ := h h0
  exact ⟨g, cs, h1, hk _ _ h2, h3⟩
theorem LOwn.slAt (h : LOwn w A r) (hi : ∀ x, x ∈ r → LegI x) : SlAt RLeg 4 w A r := by
  rcases Nat.eq_zero_or_pos r.length with h0 | h0
  · rw [List.eq_nil_of_length_eq_zero h0]; exact SlAt.nil
  · obtain ⟨g, cs, rfl, hB, hc⟩ := h h0
    refine ⟨g, 0, fun i x hx => ⟨rfl, hB.lt, ?_⟩⟩
    obtain ⟨h1, h2, h3, h4⟩ := hc i x hx
    have hI := hi x (List.mem_of_getElem? hx)
    refine ⟨⟨?_, ?_, ?_, ?_⟩, hI⟩ <;> (unfold cellIs; rw [Nat.zero_add, hB.cell])
    · exact h1
    · exact h2
    · exact h3
    · exact h4
theorem LOwn.one {g : Nat} {x : LegD} (h : Blk w g 77 #[.int .i64 x.f, .int .i64 x.t, .int .i64 x.time, .int .i64 x.cost]) : LOwn w (some ⟨g, 0, none⟩) [x] := fun _ => ⟨g, _, rfl, h, fun k y hk => by
  match k, hk with
  | 0, hk =>
    obtain rfl : x = y := by simpa using hk
    simp
  | k + 1, hk => simp at hk⟩
theorem LegsAt.keep (h : LegsAt w items) (hk : ∀ b cs, Blk w b 77 cs → Blk w' b 77 cs) : LegsAt w' items := fun it hi => ⟨(h it hi).1.keep hk, (h it hi).2⟩
theorem LegsAt.nil : LegsAt w [] := fun it h => by simp at h
theorem LegsAt.snoc {it : EItem} (h : LegsAt w items) (hi : LOwn w it.2.1 it.1.legs ∧ it.1.legs.length ≤ it.2.2 ∧ it.2.2 ≤ maxLen) : LegsAt w (items ++ [it]) := fun y hy => by
  rcases List.mem_append.1 hy with hy | hy
  · exact h y hy
  · obtain rfl : y = it := by simpa using hy
    exact hi
theorem slAt_map {α β : Type} {R : World → Nat → Nat → β → Prop} {sz : Nat} {f : α → β} {l : List α} (h : SlAt (fun w b o x => R w b o (f x)) sz w A l) : SlAt R sz w A (l.map f) := by
  obtain ⟨b, off, h⟩ := h
  refine ⟨b, off, fun i x hx => ?_⟩
  simp only [List.getElem?_map, Option.map_eq_some_iff] at hx
  obtain ⟨y, hy, rfl⟩ := hx
  exact h i y hy
theorem own_lives {l : List IvlD} (h : Own ivlC 2 w base 107 v l) (hi : ∀ x, x ∈ l → I64 x.f ∧ I64 x.t) : ∃ A c, v = .slice A l.length c ∧ SlAt RIvl 2 w A l :=
  Own.slAt (R := RIvl) (enc := ivlC) (fun _ => rfl) (fun x hx b o hc => ⟨⟨by have := hc 0 _ rfl; simpa using this, by have := hc 1 _ rfl; simpa using this⟩, hi x hx⟩) h
theorem own_edges (h : Own eEnc 3 w base 60 v items) (hl : LegsAt w items) (hi : ∀ it, it ∈ items → I64 it.1.a ∧ I64 it.1.b ∧ ∀ x, x ∈ it.1.legs → LegI x) : ∃ A c, v = .slice A items.length c ∧ SlAt REdge 3 w A (items.map Prod.fst) := by
  obtain ⟨A, c, hv, hs⟩ := Own.slAt (R := fun w b o (it : EItem) => REdge w b o it.1) (enc := eEnc) (fun _ => rfl) (fun it hm b o hc => by
    have h1 := hi it hm
    have h2 := hl it hm
    exact ⟨⟨by have := hc 0 _ rfl; simpa using this, by have := hc 1 _ rfl; simpa using this, it.2.1, it.2.2, by have := hc 2 _ rfl; simpa using this, h2.2.1, h2.2.2, h2.1.slAt h1.2.2⟩, h1.1, h1.2.1⟩) h
  exact ⟨A, c, hv, slAt_map (f := Prod.fst) hs⟩
end
theorem blk_ne {w : World} {b g : Nat} {t t' : TypeId} {cs cs' : Array Value} (h : Blk w b t cs) (h' : Blk w g t' cs') (ht : t ≠ t') : b ≠ g := by
  intro e
  subst e
  unfold Blk at h h'
  rw [h] at h'
  cases h'
  exact ht rfl
/-- A store into a block of another kind. -/
theorem keep_store {w : World} {g : Nat} {t e : TypeId} {cs' : Array Value} (h' : Blk w g t cs') (ht : e ≠ t) (i : Nat) (u : Value) : ∀ b cs, Blk w b e cs → Blk (w.setCell ⟨g, i, none⟩ u) b e cs := fun _ _ h => h.far (blk_ne h h' ht) u
theorem Own.block_lt {α : Type} {enc : α → List Value} {sz : Nat} {w : World} {base : Nat} {e : TypeId} {v : Value} {l : List α} (h : Own enc sz w base e v l) {b : Nat} (hb : w.heap.size ≤ b) : some b ≠ v.ownBlock := fun e => by
  have := (World.ownsRow.lt h b e.symm).2
  omega
/-- An append of one element, and where the new slice lies. -/
theorem wpList_append_lie {P : Program} {ops : Array Oper} {rest : List Oper} {o : Oper} {a : Act} {Q : Exit → Act → World → Prop} {w0 : World} {α : Type} {enc : α → List Value} (hgd : o.guard = none) (s x : Operand) (t : TypeId)
    (ho : o.op = .call { callee := .builtin .append, args := #[s, x], argTypes := #[t, t] })
    (base : Nat) (e : TypeId) (i : TypeInfo) (z : Value) (size bytes : Nat) (ht : P.underlying t = some (.slice e)) (hi : P.info? e = some i) (hz : i.zero = some z)
    (hsize : i.size = size) (hby : i.bytes = bytes) (hzs : z.cells.size = size) (hsz : 0 < size)
    (v : Value) (l : List α) (y : α) (hs : a.eval s = v) (hown : Own enc size w0 base e v l) (cs : Array Value) (hcy : cs.toList = enc y) (k : Nat) (hk : k = w0.heap.size) (hx : a.eval x = .slice (some ⟨k, 0, none⟩) 1 1) (hcs : cs.size = size)
    (h1 : ∀ u ∈ cs.toList, u.oneCell' = true) (h63 : l.length + 1 ≤ 1000000) (hby2 : bytes ≤ 1000) (hbase : base ≤ w0.heap.size)
    (h : ∀ g cap w', Own enc size w' base e (.slice (some ⟨g, 0, none⟩) (l.length + 1) cap) (l ++ [y]) → Below base w0 w' → (∀ b t' cs', Blk w0 b t' cs' → some b ≠ v.ownBlock → Blk w' b t' cs') → (v.ownBlock = some g ∨ w0.heap.size < g) →
      wpList P ops Q rest (a.put o.dst (.slice (some ⟨g, 0, none⟩) (l.length + 1) cap)) w') : wpList P ops Q (o :: rest) a (w0.alloc (.cells cs e)) := by
  subst hk
  have hb2 : (l.length + 1) * bytes ≤ 140737488355328 := Nat.le_trans (Nat.mul_le_mul h63 hby2) (by decide)
  refine wpList_append_lies (w0.alloc (.cells cs e)) hgd s x t ho base e i z size bytes ht hi hz hsize hby hzs hsz v l.length (l.flatMap enc) hs (World.ownsRow.alloc hown _) ⟨w0.heap.size, 0, none⟩ 1 1 cs.toList hx (by simp [hcs])
    ?_ h1 (by omega) (by unfold maxLen; omega) hb2 (by simp; omega) (w0.heap.size + 1) (by simp) ?_
  · intro j u hu
    rw [Go.WideShapes.add_plain, cell_of_row _ _ _ cs e (0, 0) (heap_alloc_new w0 _)]
    simpa using hu
  · intro g cap w' h2 h3 h4 _
    refine h g cap w' ?_ ?_ (fun b t' cs' hB hn => (hB.alloc _).grown h3 hn) (h4.imp id fun e => by omega)
    · show w'.ownsRow base e size _ (l ++ [y]).length ((l ++ [y]).flatMap enc)
      rw [List.flatMap_append, List.length_append]
      simpa [hcy] using h2
    · have hb : Below base w0 (w0.alloc (.cells cs e)) := (Below.refl _ _).alloc hbase _
      exact hb.grown h3 (by simp; omega) fun k hk => (World.ownsRow.lt hown k hk).1
theorem wp_append_lie {P : Program} {o : Oper} {a : Act} {K : Act → World → Prop} {Q : Exit → Act → World → Prop} {w0 : World} {α : Type} {enc : α → List Value} (s x : Operand) (t : TypeId)
    (ho : o.op = .call { callee := .builtin .append, args := #[s, x], argTypes := #[t, t] })
    (base : Nat) (e : TypeId) (i : TypeInfo) (z : Value) (size bytes : Nat) (ht : P.underlying t = some (.slice e)) (hi : P.info? e = some i) (hz : i.zero = some z)
    (hsize : i.size = size) (hby : i.bytes = bytes) (hzs : z.cells.size = size) (hsz : 0 < size)
    (v : Value) (l : List α) (y : α) (hs : a.eval s = v) (hown : Own enc size w0 base e v l) (cs : Array Value) (hcy : cs.toList = enc y) (k : Nat) (hk : k = w0.heap.size) (hx : a.eval x = .slice (some ⟨k, 0, none⟩) 1 1) (hcs : cs.size = size)
    (h1 : ∀ u ∈ cs.toList, u.oneCell' = true) (h63 : l.length + 1 ≤ 1000000) (hby2 : bytes ≤ 1000) (hbase : base ≤ w0.heap.size)
    (h : ∀ g cap w', Own enc size w' base e (.slice (some ⟨g, 0, none⟩) (l.length + 1) cap) (l ++ [y]) → Below base w0 w' → (∀ b t' cs', Blk w0 b t' cs' → some b ≠ v.ownBlock → Blk w' b t' cs') → (v.ownBlock = some g ∨ w0.heap.size < g) →
      K (a.put o.dst (.slice (some ⟨g, 0, none⟩) (l.length + 1) cap)) w') : Oper.wp P o a (w0.alloc (.cells cs e)) K Q := by
  subst hk
  have hb2 : (l.length + 1) * bytes ≤ 140737488355328 := Nat.le_trans (Nat.mul_le_mul h63 hby2) (by decide)
  refine wp_append_lies (w0.alloc (.cells cs e)) s x t ho base e i z size bytes ht hi hz hsize hby hzs hsz v l.length (l.flatMap enc) hs (World.ownsRow.alloc hown _) ⟨w0.heap.size, 0, none⟩ 1 1 cs.toList hx (by simp [hcs])
    ?_ h1 (by omega) (by unfold maxLen; omega) hb2 (by simp; omega) (w0.heap.size + 1) (by simp) ?_
  · intro j u hu
    rw [Go.WideShapes.add_plain, cell_of_row _ _ _ cs e (0, 0) (heap_alloc_new w0 _)]
    simpa using hu
  · intro g cap w' h2 h3 h4 _
    refine h g cap w' ?_ ?_ (fun b t' cs' hB hn => (hB.alloc _).grown h3 hn) (h4.imp id fun e => by omega)
    · show w'.ownsRow base e size _ (l ++ [y]).length ((l ++ [y]).flatMap enc)
      rw [List.flatMap_append, List.length_append]
      simpa [hcy] using h2
    · have hb : Below base w0 (w0.alloc (.cells cs e)) := (Below.refl _ _).alloc hbase _
      exact hb.grown h3 (by simp; omega) fun k hk => (World.ownsRow.lt hown k hk).1
def zeroG : GraphD := ⟨0, [], []⟩
theorem zero_at (w : World) : GraphAt w none 0 none 0 zeroG := ⟨by simp [I64, zeroG], by simp [zeroG], by simp [maxLen], by simp [zeroG], by simp [maxLen], SlAt.nil, SlAt.nil⟩
/-- A graph and an error are told. -/
def GraphErr (g : GraphD) (er : Int) (w : World) (e : Ending) (w' : World) : Prop := ∃ A c A' c', e = .returned (.tuple #[gV A c A' c' g, .int .i64 er]) ∧ GraphAt w' A c A' c' g ∧ Below w.heap.size w w'
theorem info_ivl : (Tryz.prog.info? 107).map (fun i => (i.zero, i.size, i.bytes)) = some (some (.agg #[.int .i64 0, .int .i64 0]), 2, 16) := by kernel_rfl
theorem info_edge : (Tryz.prog.info? 60).map (fun i => (i.zero, i.size, i.bytes)) = some (some (.agg #[.int .i64 0, .int .i64 0, .slice none 0 0]), 3, 40) := by kernel_rfl
theorem info_ivl2 : ∃ i, Tryz.prog.info? 107 = some i ∧ i.zero = some (.agg #[.int .i64 0, .int .i64 0]) ∧ i.size = 2 ∧ i.bytes = 16 := by
  obtain ⟨i0, hi, hzz⟩ := Option.map_eq_some_iff.1 info_ivl
  simp only [Prod.mk.injEq] at hzz
  exact ⟨i0, hi, hzz.1, hzz.2.1, hzz.2.2⟩
theorem info_edge2 : ∃ i, Tryz.prog.info? 60 = some i ∧ i.zero = some (.agg #[.int .i64 0, .int .i64 0, .slice none 0 0]) ∧ i.size = 3 ∧ i.bytes = 40 := by
  obtain ⟨i0, hi, hzz⟩ := Option.map_eq_some_iff.1 info_edge
  simp only [Prod.mk.injEq] at hzz
  exact ⟨i0, hi, hzz.1, hzz.2.1, hzz.2.2⟩
theorem two_one {a b : Int} : ∀ u ∈ (#[.int .i64 a, .int .i64 b] : Array Value).toList, u.oneCell' = true := by simp [Value.oneCell']
theorem three_one {a b : Int} {A : Option Addr} {n c : Nat} : ∀ u ∈ (#[.int .i64 a, .int .i64 b, .slice A n c] : Array Value).toList, u.oneCell' = true := by simp [Value.oneCell']
end Go.Proofs.YtdpibehpmghghaaGreat
/- Lists of intervals and of pieces as memory holds them. -/
namespace Go.Proofs.YtdpibehpmghghaaGreat
open Go.RowKit

def RPiece (w : World) (b o : Nat) (x : PieceD) : Prop := (cellIs w b o (.int .i64 x.f) ∧ cellIs w b (o + 1) (.int .i64 x.t) ∧ cellIs w b (o + 2) (.int .i64 x.v)) ∧ I64 x.f ∧ I64 x.t ∧ I64 x.v
theorem RPiece.stable : Stable RPiece := fun _ _ _ _ _ hb hlt h => ⟨⟨h.1.1.ext hb hlt, h.1.2.1.ext hb hlt, h.1.2.2.ext hb hlt⟩, h.2⟩
structure IvlsAt (w : World) (A : Option Addr) (c : Nat) (l : List IvlD) : Prop where
  lc : l.length ≤ c
  cm : c ≤ maxLen
  sl : SlAt RIvl 2 w A l
structure PiecesAt (w : World) (A : Option Addr) (c : Nat) (l : List PieceD) : Prop where
  lc : l.length ≤ c
  cm : c ≤ maxLen
  sl : SlAt RPiece 3 w A l
section
variable {w w' : World} {A : Option Addr} {c n k : Nat} {l : List IvlD} {m : List PieceD} {base : Nat} {v : Value}
theorem IvlsAt.ext (h : IvlsAt w A c l) (hb : Below w.heap.size w w') : IvlsAt w' A c l := ⟨h.lc, h.cm, h.sl.ext RIvl.stable hb⟩
theorem PiecesAt.ext (h : PiecesAt w A c m) (hb : Below w.heap.size w w') : PiecesAt w' A c m := ⟨h.lc, h.cm, h.sl.ext RPiece.stable hb⟩
theorem IvlsAt.drewN (h : IvlsAt w A c l) (n : Nat) : IvlsAt (w.drewN n) A c l := ⟨h.lc, h.cm, h.sl⟩
theorem PiecesAt.drewN (h : PiecesAt w A c m) (n : Nat) : PiecesAt (w.drewN n) A c m := ⟨h.lc, h.cm, h.sl⟩
theorem IvlsAt.nil : IvlsAt w none 0 [] := ⟨Nat.le_refl _, Nat.zero_le _, SlAt.nil⟩
theorem PiecesAt.nil : PiecesAt w none 0 [] := ⟨Nat.le_refl _, Nat.zero_le _, SlAt.nil⟩
theorem IvlsAt.len (h : IvlsAt w A c l) : l.length ≤ 9223372036854775807 := Nat.le_trans h.lc h.cm
theorem PiecesAt.len (h : PiecesAt w A c m) : m.length ≤ 9223372036854775807 := Nat.le_trans h.lc h.cm
/-- One interval, as the walk reads it. -/
theorem IvlsAt.get (h : IvlsAt w A c l) {x : IvlD} (hx : l[k]? = some x) : ∃ b off, A = some ⟨b, off, none⟩ ∧ b < w.heap.size ∧ w.cell? ⟨b, off + k * 2, none⟩ = some (.int .i64 x.f) ∧ w.cell? ⟨b, off + k * 2 + 1, none⟩ = some (.int .i64 x.t) := by
  obtain ⟨b, off, hS⟩ := h.sl
  obtain ⟨h1, h2, h3, _⟩ := hS k x hx
  exact ⟨b, off, h1, h2, h3.1, h3.2⟩
theorem IvlsAt.i64 (h : IvlsAt w A c l) {x : IvlD} (hx : l[k]? = some x) : I64 x.f ∧ I64 x.t := by
  obtain ⟨b, off, hS⟩ := h.sl
  exact (hS k x hx).2.2.2
theorem PiecesAt.get (h : PiecesAt w A c m) {x : PieceD} (hx : m[k]? = some x) : ∃ b off, A = some ⟨b, off, none⟩ ∧ b < w.heap.size ∧ w.cell? ⟨b, off + k * 3, none⟩ = some (.int .i64 x.f) ∧ w.cell? ⟨b, off + k * 3 + 1, none⟩ = some (.int .i64 x.t) ∧ w.cell? ⟨b, off + k * 3 + 2, none⟩ = some (.int .i64 x.v) := by
  obtain ⟨b, off, hS⟩ := h.sl
  obtain ⟨h1, h2, h3, _⟩ := hS k x hx
  exact ⟨b, off, h1, h2, h3.1, h3.2.1, h3.2.2⟩
theorem PiecesAt.i64 (h : PiecesAt w A c m) {x : PieceD} (hx : m[k]? = some x) : I64 x.f ∧ I64 x.t ∧ I64 x.v := by
  obtain ⟨b, off, hS⟩ := h.sl
  exact (hS k x hx).2.2.2
def pieceC (x : PieceD) : List Value := [.int .i64 x.f, .int .i64 x.t, .int .i64 x.v]
/-- The same, in blocks that are new from a base on and that nothing else holds. -/
structure IvlsNew (base : Nat) (w : World) (A : Option Addr) (c : Nat) (l : List IvlD) : Prop extends IvlsAt w A c l where
  own : Own ivlC 2 w base 107 (.slice A l.length c) l
structure PiecesNew (base : Nat) (w : World) (A : Option Addr) (c : Nat) (l : List PieceD) : Prop extends PiecesAt w A c l where
  own : Own pieceC 3 w base 53 (.slice A l.length c) l
instance {base : Nat} {w : World} {A : Option Addr} {c : Nat} {l : List IvlD} : CoeOut (IvlsNew base w A c l) (IvlsAt w A c l) := ⟨fun h => h.toIvlsAt⟩
instance {base : Nat} {w : World} {A : Option Addr} {c : Nat} {l : List PieceD} : CoeOut (PiecesNew base w A c l) (PiecesAt w A c l) := ⟨fun h => h.toPiecesAt⟩
theorem IvlsNew.ext (h : IvlsNew base w A c l) (hb : Below w.heap.size w w') : IvlsNew base w' A c l := ⟨h.toIvlsAt.ext hb, h.own.ext hb⟩
theorem PiecesNew.ext (h : PiecesNew base w A c m) (hb : Below w.heap.size w w') : PiecesNew base w' A c m := ⟨h.toPiecesAt.ext hb, h.own.ext hb⟩
theorem IvlsNew.nil : IvlsNew base w none 0 [] := ⟨IvlsAt.nil, Own.nil⟩
theorem PiecesNew.nil : PiecesNew base w none 0 [] := ⟨PiecesAt.nil, Own.nil⟩
theorem Own.since {α : Type} {enc : α → List Value} {sz b0 : Nat} {e : TypeId} {l : List α} (h : Own enc sz w base e v l) (hb : b0 ≤ base) : Own enc sz w b0 e v l := by
  refine ⟨h.1, ?_⟩
  rcases h.2 with h2 | ⟨g, cap, cur, hv, hg, hh⟩
  · exact .inl h2
  · exact .inr ⟨g, cap, cur, hv, by omega, hh⟩
theorem IvlsNew.since {b0 : Nat} (h : IvlsNew base w A c l) (hb : b0 ≤ base) : IvlsNew b0 w A c l := ⟨h.toIvlsAt, h.own.since hb⟩
theorem PiecesNew.since {b0 : Nat} (h : PiecesNew base w A c m) (hb : b0 ≤ base) : PiecesNew b0 w A c m := ⟨h.toPiecesAt, h.own.since hb⟩
theorem own_pieces {l : List PieceD} (h : Own pieceC 3 w base 53 v l) (hi : ∀ x, x ∈ l → I64 x.f ∧ I64 x.t ∧ I64 x.v) : ∃ A c, v = .slice A l.length c ∧ PiecesNew base w A c l := by
  obtain ⟨A, c, hv, hS⟩ := Own.slAt (R := RPiece) (enc := pieceC) (fun _ => rfl) (fun x hx b o hc => ⟨⟨by have := hc 0 _ rfl; simpa using this, by have := hc 1 _ rfl; simpa using this, by have := hc 2 _ rfl; simpa using this⟩, hi x hx⟩) h
  subst hv
  exact ⟨A, c, rfl, ⟨h.room.1, h.room.2, hS⟩, h⟩
theorem own_ivls {l : List IvlD} (h : Own ivlC 2 w base 107 v l) (hi : ∀ x, x ∈ l → I64 x.f ∧ I64 x.t) : ∃ A c, v = .slice A l.length c ∧ IvlsNew base w A c l := by
  obtain ⟨A, c, hv, hS⟩ := own_lives h hi
  subst hv
  exact ⟨A, c, rfl, ⟨h.room.1, h.room.2, hS⟩, h⟩
theorem near_i64 {n : Int} (h : nearB n = true) : I64 n := by
  have := near_iff.1 h
  exact ⟨by omega, by omega⟩
end
theorem info_piece : (Tryz.prog.info? 53).map (fun i => (i.zero, i.size, i.bytes)) = some (some (.agg #[.int .i64 0, .int .i64 0, .int .i64 0]), 3, 24) := by kernel_rfl
theorem info_piece2 : ∃ i, Tryz.prog.info? 53 = some i ∧ i.zero = some (.agg #[.int .i64 0, .int .i64 0, .int .i64 0]) ∧ i.size = 3 ∧ i.bytes = 24 := by
  obtain ⟨i0, hi, hzz⟩ := Option.map_eq_some_iff.1 info_piece
  simp only [Prod.mk.injEq] at hzz
  exact ⟨i0, hi, hzz.1, hzz.2.1, hzz.2.2⟩
theorem three_ints {a b c : Int} : ∀ u ∈ (#[.int .i64 a, .int .i64 b, .int .i64 c] : Array Value).toList, u.oneCell' = true := by simp [Value.oneCell']
abbrev ivlV (x : IvlD) : Value := .agg #[.int .i64 x.f, .int .i64 x.t]
abbrev pieceV (x : PieceD) : Value := .agg #[.int .i64 x.f, .int .i64 x.t, .int .i64 x.v]
/-- A set and an error are told. -/
def SetOutB (b0 : Nat) (R : Int → List IvlD → Prop) (w : World) (e : Ending) (w' : World) : Prop := ∃ er out A c, Hid (R er out) ∧ e = .returned (.tuple #[.slice A out.length c, .int .i64 er]) ∧ IvlsNew b0 w' A c out ∧ Below w.heap.size w w'
def SetOut (R : Int → List IvlD → Prop) (w : World) (e : Ending) (w' : World) : Prop := ∃ er out A c, Hid (R er out) ∧ e = .returned (.tuple #[.slice A out.length c, .int .i64 er]) ∧ IvlsNew w.heap.size w' A c out ∧ Below w.heap.size w w'
def MapOut (R : Int → List PieceD → Prop) (w : World) (e : Ending) (w' : World) : Prop := ∃ er out A c, Hid (R er out) ∧ e = .returned (.tuple #[.slice A out.length c, .int .i64 er]) ∧ PiecesNew w.heap.size w' A c out ∧ Below w.heap.size w w'
end Go.Proofs.YtdpibehpmghghaaGreat
/- The walks of the check of a set of times, the program's and the document's. -/
namespace Go.Proofs.YtdpibehpmghghaaGreat
open Go.RowKit

def farB (n : Int) : Bool := !nearB n
theorem far_off {n : Int} (h : farB n = false) : nearB n = true := by simpa [farB] using h
theorem far_on {n : Int} (h : farB n = true) : nearB n = false := by simpa [farB] using h
theorem farB_true {n : Int} (h : n < -1000000000 ∨ 1000000000 < n) : farB n = true := by simp [farB, nearB, inB]; omega
theorem farB_false {n : Int} (h1 : ¬ n < -1000000000) (h2 : ¬ 1000000000 < n) : farB n = false := by simp [farB, nearB, inB]; omega
theorem far_is {n : Int} {b : Bool} (h : farB n = b) (w : World) : Calls Tryz.prog 151 #[.int .i64 n] w fun e w' => e = .returned (.bool b) ∧ w = w' := by
  go_enter Tryz.func151, Tryz.ntmps151
  go_wp2
  all_goals go_ret
  all_goals exact ⟨ret_bool (by rw [← h, Bool.eq_iff_iff]; simp [farB, nearB, inB]; try omega), rfl⟩
theorem far_q {n : Int} {b : Bool} (h : farB n = b) (W : World) (k : Nat) : Calls Tryz.prog 151 #[.int .i64 n] (W.drewN k) fun e w' => e = .returned (.bool b) ∧ ∃ m, w' = W.drewN m := (far_is h _).mono fun _ _ ⟨h1, h2⟩ => ⟨h1, k, h2.symm⟩
theorem setErr_bad' {l : List IvlD} (h : l.length ≤ 200) (h2 : ¬ SetOk l) : setErr l = 5 := setErr_bad (by omega) h2
theorem bad_f {l : List IvlD} {k : Nat} {x : IvlD} (hx : l[k]? = some x) (h : farB x.f = true) : ¬ SetOk l := fun hs => by have := (hs.at_ hx).1; rw [far_on h] at this; simp at this
theorem bad_t {l : List IvlD} {k : Nat} {x : IvlD} (hx : l[k]? = some x) (h : farB x.t = true) : ¬ SetOk l := fun hs => by have := (hs.at_ hx).2.1; rw [far_on h] at this; simp at this
theorem bad_e {l : List IvlD} {k : Nat} {x : IvlD} (hx : l[k]? = some x) (h : x.t ≤ x.f) : ¬ SetOk l := fun hs => by have := (hs.at_ hx).2.2; omega
theorem bad_g {l : List IvlD} {k : Nat} {x z : IvlD} (hz : l[k]? = some z) (hx : l[k + 1]? = some x) (h : x.f ≤ z.t) : ¬ SetOk l := fun hs => by have := hs.gap hz hx; omega

set_option maxHeartbeats 2000000 in
theorem ivlCheck_any (A : Option Addr) (c : Nat) (l : List IvlD) (w : World) (hI : IvlsAt w A c l) :
    Calls Tryz.prog 164 #[.slice A l.length c] w fun e w' => e = .returned (.int .i64 (setErr l)) ∧ Below w.heap.size w w' := by
  have m1 := hI.len
  by_cases hl : l.length ≤ 200
  case neg =>
    have hd : decide ((l.length : Int) > 200) = true := by simp; omega
    go_enter Tryz.func164, Tryz.ntmps164
    go_wp2_with fail
    go_ret
    exact ⟨ret_int (setErr_large (by omega)).symm, by go_grown⟩
  have hd : decide ((l.length : Int) > 200) = false := by simp; omega
  have HI := Lib.hid hI
  clear hI
  go_enter Tryz.func164, Tryz.ntmps164
  go_wp2_with fail
  clear hd
  go_loopw [10] (fun v wr => ∃ k : Nat, k ≤ l.length ∧ v = .int .i64 k ∧ Hid (SetOk (l.take k)) ∧ Below w.heap.size w wr) (fun v _ => l.length - (intOf v).toNat)
  case atStart => exact ⟨0, Nat.zero_le _, rfl, Lib.hid (by simpa using SetOk.nil), Below.refl _ _⟩
  case round =>
    obtain ⟨k, hk, rfl, HS, hb⟩ := hrel
    by_cases hlt : k < l.length
    case neg =>
      obtain rfl : k = l.length := by omega
      go_wp2_with fail
      go_ret
      exact ⟨ret_int (setErr_ok (by omega) (by have := HS.out; rwa [List.take_length] at this)).symm, hb⟩
    case pos =>
      obtain ⟨x, hx⟩ := get_lt hlt
      obtain ⟨b, off, rfl, hb0, x0, x1⟩ := HI.out.get hx
      rw [← hb.cell (by exact hb0)] at x0 x1
      have HX := Lib.hid hx
      clear hx
      cases f1 : farB x.f
      case true =>
        go_wp2_with fail
        go_quiet (first | (go_at_call 151; exact far_q (by assumption) _ _))
        go_wp2
        go_ret
        exact ⟨ret_int (setErr_bad' hl (bad_f HX.out f1)).symm, below_drewN (ext_alloc hb _) _⟩
      cases f2 : farB x.t
      case true =>
        go_wp2_with fail
        go_quiet (first | (go_at_call 151; exact far_q (by assumption) _ _))
        go_wp2
        go_ret
        exact ⟨ret_int (setErr_bad' hl (bad_t HX.out f2)).symm, below_drewN (ext_alloc hb _) _⟩
      by_cases f3 : x.t ≤ x.f
      case pos =>
        have g3 : decide (x.t ≤ x.f) = true := by simpa using f3
        go_wp2_with fail
        go_quiet (first | (go_at_call 151; exact far_q (by assumption) _ _))
        go_wp2
        go_ret
        exact ⟨ret_int (setErr_bad' hl (bad_e HX.out f3)).symm, below_drewN (ext_alloc hb _) _⟩
      have g3 : decide (x.t ≤ x.f) = false := by simpa using f3
      have F3 := Lib.hid f3
      clear f3
      by_cases hk0 : k ≤ 0
      case pos =>
        have g4 : decide (0 < k) = false := by simp; omega
        go_wp2_with fail
        go_quiet (first | (go_at_call 151; exact far_q (by assumption) _ _))
        go_wp2
        go_roundw
        case rel =>
          obtain rfl : k = 0 := by omega
          exact ⟨1, by omega, by go_num, Lib.hid (SetOk.first HX.out (far_off f1) (far_off f2) (by have := F3.out; omega)), below_drewN (ext_alloc hb _) _⟩
        case measure => simp [intOf]; omega
      case neg =>
        obtain ⟨j, rfl⟩ : ∃ j, k = j + 1 := ⟨k - 1, by omega⟩
        obtain ⟨z, hz⟩ := get_lt (show j < l.length by omega)
        obtain ⟨b', off', e', _, z0, z1⟩ := HI.out.get hz
        obtain ⟨rfl, rfl⟩ : b = b' ∧ off = off' := by simpa using e'
        rw [← hb.cell (by exact hb0)] at z0 z1
        have HZ := Lib.hid hz
        clear hz e'
        have g4 : (0 : Int) < (j : Int) + 1 := by omega
        have hj1 : (j : Int) ≤ 200 := by omega
        have hjw : IntKind.i64.wrap (j : Int) = j := IntWalk.i64_in _ (by omega)
        have hjl : j < l.length := by omega
        have z1 : (wr.alloc (Obj.cells #[Value.int IntKind.i64 x.f, Value.int IntKind.i64 x.t] 107)).cell? ⟨b, off + j * 2 + 1, none⟩ = some (.int .i64 z.t) := cell_keep (ext_alloc (Below.refl _ _) _) z1
        by_cases f4 : x.f ≤ z.t
        case pos =>
          have g5 : decide (x.f ≤ z.t) = true := by simpa using f4
          go_wp2_with fail
          go_quiet (first | (go_at_call 151; exact far_q (by assumption) _ _))
          go_wp2
          go_ret
          exact ⟨ret_int (setErr_bad' hl (bad_g HZ.out HX.out f4)).symm, below_drewN (ext_alloc hb _) _⟩
        case neg =>
          have g5 : decide (x.f ≤ z.t) = false := by simpa using f4
          go_wp2_with fail
          go_quiet (first | (go_at_call 151; exact far_q (by assumption) _ _))
          go_wp2
          go_roundw
          case rel => exact ⟨j + 1 + 1, by omega, by go_num, Lib.hid (HS.out.next HZ.out HX.out (far_off f1) (far_off f2) (by have := F3.out; omega) (by omega)), below_drewN (ext_alloc hb _) _⟩
          case measure => simp [intOf]; omega

end Go.Proofs.YtdpibehpmghghaaGreat
