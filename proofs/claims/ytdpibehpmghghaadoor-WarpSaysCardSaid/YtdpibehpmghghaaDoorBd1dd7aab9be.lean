/- Several texts in one: TurnMem, ListMem, OpenB, OpenM, KeySpec. -/
import Derived.Lib.SmallJoins
import Derived.Deep.Slices
import Derived.Deep.Fields
import Derived.Test.YtdpibehpmghghaaDoorProg
import Derived.Test.YtdpibehpmghghaaDoorBda2bc8e65a6
import Derived.Test.YtdpibehpmghghaaDoorBd3dd289faf9
import Derived.Test.YtdpibehpmghghaaDoorBd54ff1697d8
import Derived.Test.YtdpibehpmghghaaDoorBdc66bac3a96
/- A graph that a call builds: its lives, its edges and their legs, each in blocks of its own. -/
namespace Go.Proofs.YtdpibehpmghghaaDoor
open Go.RowKit

def ivlC (x : IvlD) : List Value := [.int .i64 x.f, .int .i64 x.t]
/-- An edge, where its legs lie, and for how many there is room. -/
abbrev EItem := EdgeD × Option Addr × Nat
def eEnc (it : EItem) : List Value := [.int .i64 it.1.a, .int .i64 it.1.b, .slice it.2.1 it.1.legs.length it.2.2]
/-- At the address a block of legs begins with the list. -/
def LOwn (w : World) (A : Option Addr) (r : List LegD) : Prop := 0 < r.length → ∃ (g : Nat) (cs : Array Value), A = some ⟨g, 0, none⟩ ∧ Blk w g 76 cs ∧
  ∀ (k : Nat) (x : LegD), r[k]? = some x → cs[k * 4]? = some (.int .i64 x.f) ∧ cs[k * 4 + 1]? = some (.int .i64 x.t) ∧ cs[k * 4 + 2]? = some (.int .i64 x.time) ∧ cs[k * 4 + 3]? = some (.int .i64 x.cost)
def LegsAt (w : World) (items : List EItem) : Prop := ∀ it, it ∈ items → LOwn w it.2.1 it.1.legs ∧ it.1.legs.length ≤ it.2.2 ∧ it.2.2 ≤ maxLen
def LegI (x : LegD) : Prop := I64 x.f ∧ I64 x.t ∧ I64 x.time ∧ I64 x.cost
section
variable {w w' : World} {A : Option Addr} {r : List LegD} {items : List EItem} {base : Nat} {v : Value}
theorem Own.keep {α : Type} {enc : α → List Value} {sz : Nat} {e : TypeId} {l : List α} (h : Own enc sz w base e v l) (hk : ∀ b cs, Blk w b e cs → Blk w' b e cs) : Own enc sz w' base e v l := by
  refine ⟨h.1, ?_⟩
  rcases h.2 with h2 | ⟨g, cap, cur, hv, hg, hh, r⟩
  · exact .inl h2
  · exact .inr ⟨g, cap, cur, hv, hg, hk g cur hh, r⟩
theorem Own.room {α : Type} {enc : α → List Value} {sz : Nat} {e : TypeId} {n c : Nat} {l : List α} (h : Own enc sz w base e (.slice A n c) l) : l.length ≤ c ∧ c ≤ maxLen := by
  rcases h.2 with ⟨h1, h0⟩ | ⟨g, cap, cur, hv, _, _, h1, h2, _⟩
  · cases h1; rw [h0]; simp
  · cases hv; exact ⟨h1, h2⟩
theorem LOwn.keep (h : LOwn w A r) (hk : ∀ b cs, Blk w b 76 cs → Blk w' b 76 cs) : LOwn w' A r := fun h0 => by
  obtain ⟨g, cs, h1, h2, h3⟩ := h h0
  exact ⟨g, cs, h1, hk _ _ h2, h3⟩
theorem LOwn.slAt (h : LOwn w A r) (hi : ∀ x, x ∈ r → LegI x) : SlAt RLeg 4 w A r := by
  rcases Nat.eq_zero_or_pos r.length with h0 | h0
  · rw [List.eq_nil_of_length_eq_zero h0]; exact SlAt.nil
  · obtain ⟨g, cs, rfl, hB, hc⟩ := h h0
    refine ⟨g, 0, fun i x hx => ⟨rfl, hB.lt, ?_⟩⟩
    obtain ⟨h1, h2, h3, h4⟩ := hc i x hx
    have hI := hi x (List.mem_of_getElem? hx)
    refine ⟨⟨?_, ?_, ?_, ?_⟩, hI⟩ <;> (unfold cellIs; rw [Nat.zero_add, hB.cell])
    · exact h1
    · exact h2
    · exact h3
    · exact h4
theorem LOwn.one {g : Nat} {x : LegD} (h : Blk w g 76 #[.int .i64 x.f, .int .i64 x.t, .int .i64 x.time, .int .i64 x.cost]) : LOwn w (some ⟨g, 0, none⟩) [x] := fun _ => ⟨g, _, rfl, h, fun k y hk => by
  match k, hk with
  | 0, hk =>
    obtain rfl : x = y := by simpa using hk
    simp
  | k + 1, hk => simp at hk⟩
theorem LegsAt.keep (h : LegsAt w items) (hk : ∀ b cs, Blk w b 76 cs → Blk w' b 76 cs) : LegsAt w' items := fun it hi => ⟨(h it hi).1.keep hk, (h it hi).2⟩
theorem LegsAt.nil : LegsAt w [] := fun it h => by simp at h
theorem LegsAt.snoc {it : EItem} (h : LegsAt w items) (hi : LOwn w it.2.1 it.1.legs ∧ it.1.legs.length ≤ it.2.2 ∧ it.2.2 ≤ maxLen) : LegsAt w (items ++ [it]) := fun y hy => by
  rcases List.mem_append.1 hy with hy | hy
  · exact h y hy
  · obtain rfl : y = it := by simpa using hy
    exact hi
theorem slAt_map {α β : Type} {R : World → Nat → Nat → β → Prop} {sz : Nat} {f : α → β} {l : List α} (h : SlAt (fun w b o x => R w b o (f x)) sz w A l) : SlAt R sz w A (l.map f) := by
  obtain ⟨b, off, h⟩ := h
  refine ⟨b, off, fun i x hx => ?_⟩
  simp only [List.getElem?_map, Option.map_eq_some_iff] at hx
  obtain ⟨y, hy, rfl⟩ := hx
  exact h i y hy
theorem own_lives {l : List IvlD} (h : Own ivlC 2 w base 49 v l) (hi : ∀ x, x ∈ l → I64 x.f ∧ I64 x.t) : ∃ A c, v = .slice A l.length c ∧ SlAt RIvl 2 w A l :=
  Own.slAt (R := RIvl) (enc := ivlC) (fun _ => rfl) (fun x hx b o hc => ⟨⟨by have := hc 0 _ rfl; simpa using this, by have := hc 1 _ rfl; simpa using this⟩, hi x hx⟩) h
theorem own_edges (h : Own eEnc 3 w base 74 v items) (hl : LegsAt w items) (hi : ∀ it, it ∈ items → I64 it.1.a ∧ I64 it.1.b ∧ ∀ x, x ∈ it.1.legs → LegI x) : ∃ A c, v = .slice A items.length c ∧ SlAt REdge 3 w A (items.map Prod.fst) := by
  obtain ⟨A, c, hv, hs⟩ := Own.slAt (R := fun w b o (it : EItem) => REdge w b o it.1) (enc := eEnc) (fun _ => rfl) (fun it hm b o hc => by
    have h1 := hi it hm
    have h2 := hl it hm
    exact ⟨⟨by have := hc 0 _ rfl; simpa using this, by have := hc 1 _ rfl; simpa using this, it.2.1, it.2.2, by have := hc 2 _ rfl; simpa using this, h2.2.1, h2.2.2, h2.1.slAt h1.2.2⟩, h1.1, h1.2.1⟩) h
  exact ⟨A, c, hv, slAt_map (f := Prod.fst) hs⟩
end
theorem blk_ne {w : World} {b g : Nat} {t t' : TypeId} {cs cs' : Array Value} (h : Blk w b t cs) (h' : Blk w g t' cs') (ht : t ≠ t') : b ≠ g := by
  intro e
  subst e
  unfold Blk at h h'
  rw [h] at h'
  cases h'
  exact ht rfl
/-- A store into a block of another kind. -/
theorem keep_store {w : World} {g : Nat} {t e : TypeId} {cs' : Array Value} (h' : Blk w g t cs') (ht : e ≠ t) (i : Nat) (u : Value) : ∀ b cs, Blk w b e cs → Blk (w.setCell ⟨g, i, none⟩ u) b e cs := fun _ _ h => h.far (blk_ne h h' ht) u
theorem Own.block_lt {α : Type} {enc : α → List Value} {sz : Nat} {w : World} {base : Nat} {e : TypeId} {v : Value} {l : List α} (h : Own enc sz w base e v l) {b : Nat} (hb : w.heap.size ≤ b) : some b ≠ v.ownBlock := fun e => by
  have := (World.ownsRow.lt h b e.symm).2
  omega
/-- An append of one element, and where the new slice lies. -/
theorem wpList_append_lie {P : Program} {ops : Array Oper} {rest : List Oper} {o : Oper} {a : Act} {Q : Exit → Act → World → Prop} {w0 : World} {α : Type} {enc : α → List Value} (hgd : o.guard = none) (s x : Operand) (t : TypeId)
    (ho : o.op = .call { callee := .builtin .append, args := #[s, x], argTypes := #[t, t] })
    (base : Nat) (e : TypeId) (i : TypeInfo) (z : Value) (size bytes : Nat) (ht : P.underlying t = some (.slice e)) (hi : P.info? e = some i) (hz : i.zero = some z)
    (hsize : i.size = size) (hby : i.bytes = bytes) (hzs : z.cells.size = size) (hsz : 0 < size)
    (v : Value) (l : List α) (y : α) (hs : a.eval s = v) (hown : Own enc size w0 base e v l) (cs : Array Value) (hcy : cs.toList = enc y) (k : Nat) (hk : k = w0.heap.size) (hx : a.eval x = .slice (some ⟨k, 0, none⟩) 1 1) (hcs : cs.size = size)
    (h1 : ∀ u ∈ cs.toList, u.oneCell' = true) (h63 : l.length + 1 ≤ 1000000) (hby2 : bytes ≤ 1000) (hbase : base ≤ w0.heap.size)
    (h : ∀ g cap w', Own enc size w' base e (.slice (some ⟨g, 0, none⟩) (l.length + 1) cap) (l ++ [y]) → Below base w0 w' → (∀ b t' cs', Blk w0 b t' cs' → some b ≠ v.ownBlock → Blk w' b t' cs') → (v.ownBlock = some g ∨ w0.heap.size < g) →
      wpList P ops Q rest (a.put o.dst (.slice (some ⟨g, 0, none⟩) (l.length + 1) cap)) w') : wpList P ops Q (o :: rest) a (w0.alloc (.cells cs e)) := by
  subst hk
  have hb2 : (l.length + 1) * bytes ≤ 140737488355328 := Nat.le_trans (Nat.mul_le_mul h63 hby2) (by decide)
  refine wpList_append_lies (w0.alloc (.cells cs e)) hgd s x t ho base e i z size bytes ht hi hz hsize hby hzs hsz v l.length (l.flatMap enc) hs (World.ownsRow.alloc hown _) ⟨w0.heap.size, 0, none⟩ 1 1 cs.toList hx (by simp [hcs])
    ?_ h1 (by omega) (by unfold maxLen; omega) hb2 (by simp; omega) (w0.heap.size + 1) (by simp) ?_
  · intro j u hu
    rw [Go.WideShapes.add_plain, cell_of_row _ _ _ cs e (0, 0) (heap_alloc_new w0 _)]
    simpa using hu
  · intro g cap w' h2 h3 h4 _
    refine h g cap w' ?_ ?_ (fun b t' cs' hB hn => (hB.alloc _).grown h3 hn) (h4.imp id fun e => by omega)
    · show w'.ownsRow base e size _ (l ++ [y]).length ((l ++ [y]).flatMap enc)
      rw [List.flatMap_append, List.length_append]
      simpa [hcy] using h2
    · have hb : Below base w0 (w0.alloc (.cells cs e)) := (Below.refl _ _).alloc hbase _
      exact hb.grown h3 (by simp; omega) fun k hk => (World.ownsRow.lt hown k hk).1
theorem wp_append_lie {P : Program} {o : Oper} {a : Act} {K : Act → World → Prop} {Q : Exit → Act → World → Prop} {w0 : World} {α : Type} {enc : α → List Value} (s x : Operand) (t : TypeId)
    (ho : o.op = .call { callee := .builtin .append, args := #[s, x], argTypes := #[t, t] })
    (base : Nat) (e : TypeId) (i : TypeInfo) (z : Value) (size bytes : Nat) (ht : P.underlying t = some (.slice e)) (hi : P.info? e = some i) (hz : i.zero = some z)
    (hsize : i.size = size) (hby : i.bytes = bytes) (hzs : z.cells.size = size) (hsz : 0 < size)
    (v : Value) (l : List α) (y : α) (hs : a.eval s = v) (hown : Own enc size w0 base e v l) (cs : Array Value) (hcy : cs.toList = enc y) (k : Nat) (hk : k = w0.heap.size) (hx : a.eval x = .slice (some ⟨k, 0, none⟩) 1 1) (hcs : cs.size = size)
    (h1 : ∀ u ∈ cs.toList, u.oneCell' = true) (h63 : l.length + 1 ≤ 1000000) (hby2 : bytes ≤ 1000) (hbase : base ≤ w0.heap.size)
    (h : ∀ g cap w', Own enc size w' base e (.slice (some ⟨g, 0, none⟩) (l.length + 1) cap) (l ++ [y]) → Below base w0 w' → (∀ b t' cs', Blk w0 b t' cs' → some b ≠ v.ownBlock → Blk w' b t' cs') → (v.ownBlock = some g ∨ w0.heap.size < g) →
      K (a.put o.dst (.slice (some ⟨g, 0, none⟩) (l.length + 1) cap)) w') : Oper.wp P o a (w0.alloc (.cells cs e)) K Q := by
  subst hk
  have hb2 : (l.length + 1) * bytes ≤ 140737488355328 := Nat.le_trans (Nat.mul_le_mul h63 hby2) (by decide)
  refine wp_append_lies (w0.alloc (.cells cs e)) s x t ho base e i z size bytes ht hi hz hsize hby hzs hsz v l.length (l.flatMap enc) hs (World.ownsRow.alloc hown _) ⟨w0.heap.size, 0, none⟩ 1 1 cs.toList hx (by simp [hcs])
    ?_ h1 (by omega) (by unfold maxLen; omega) hb2 (by simp; omega) (w0.heap.size + 1) (by simp) ?_
  · intro j u hu
    rw [Go.WideShapes.add_plain, cell_of_row _ _ _ cs e (0, 0) (heap_alloc_new w0 _)]
    simpa using hu
  · intro g cap w' h2 h3 h4 _
    refine h g cap w' ?_ ?_ (fun b t' cs' hB hn => (hB.alloc _).grown h3 hn) (h4.imp id fun e => by omega)
    · show w'.ownsRow base e size _ (l ++ [y]).length ((l ++ [y]).flatMap enc)
      rw [List.flatMap_append, List.length_append]
      simpa [hcy] using h2
    · have hb : Below base w0 (w0.alloc (.cells cs e)) := (Below.refl _ _).alloc hbase _
      exact hb.grown h3 (by simp; omega) fun k hk => (World.ownsRow.lt hown k hk).1
def zeroG : GraphD := ⟨0, [], []⟩
theorem zero_at (w : World) : GraphAt w none 0 none 0 zeroG := ⟨by simp [I64, zeroG], by simp [zeroG], by simp [maxLen], by simp [zeroG], by simp [maxLen], SlAt.nil, SlAt.nil⟩
/-- A graph and an error are told. -/
def GraphErr (g : GraphD) (er : Int) (w : World) (e : Ending) (w' : World) : Prop := ∃ A c A' c', e = .returned (.tuple #[gV A c A' c' g, .int .i64 er]) ∧ GraphAt w' A c A' c' g ∧ Below w.heap.size w w'
theorem info_ivl : (Tryd.prog.info? 49).map (fun i => (i.zero, i.size, i.bytes)) = some (some (.agg #[.int .i64 0, .int .i64 0]), 2, 16) := by kernel_rfl
theorem info_edge : (Tryd.prog.info? 74).map (fun i => (i.zero, i.size, i.bytes)) = some (some (.agg #[.int .i64 0, .int .i64 0, .slice none 0 0]), 3, 40) := by kernel_rfl
theorem info_ivl2 : ∃ i, Tryd.prog.info? 49 = some i ∧ i.zero = some (.agg #[.int .i64 0, .int .i64 0]) ∧ i.size = 2 ∧ i.bytes = 16 := by
  obtain ⟨i0, hi, hzz⟩ := Option.map_eq_some_iff.1 info_ivl
  simp only [Prod.mk.injEq] at hzz
  exact ⟨i0, hi, hzz.1, hzz.2.1, hzz.2.2⟩
theorem info_edge2 : ∃ i, Tryd.prog.info? 74 = some i ∧ i.zero = some (.agg #[.int .i64 0, .int .i64 0, .slice none 0 0]) ∧ i.size = 3 ∧ i.bytes = 40 := by
  obtain ⟨i0, hi, hzz⟩ := Option.map_eq_some_iff.1 info_edge
  simp only [Prod.mk.injEq] at hzz
  exact ⟨i0, hi, hzz.1, hzz.2.1, hzz.2.2⟩
theorem two_one {a b : Int} : ∀ u ∈ (#[.int .i64 a, .int .i64 b] : Array Value).toList, u.oneCell' = true := by simp [Value.oneCell']
theorem three_one {a b : Int} {A : Option Addr} {n c : Nat} : ∀ u ∈ (#[.int .i64 a, .int .i64 b, .slice A n c] : Array Value).toList, u.oneCell' = true := by simp [Value.oneCell']
end Go.Proofs.YtdpibehpmghghaaDoor
/- Lists of intervals and of pieces as memory holds them. -/
namespace Go.Proofs.YtdpibehpmghghaaDoor
open Go.RowKit

def RPiece (w : World) (b o : Nat) (x : PieceD) : Prop := (cellIs w b o (.int .i64 x.f) ∧ cellIs w b (o + 1) (.int .i64 x.t) ∧ cellIs w b (o + 2) (.int .i64 x.v)) ∧ I64 x.f ∧ I64 x.t ∧ I64 x.v
theorem RPiece.stable : Stable RPiece := fun _ _ _ _ _ hb hlt h => ⟨⟨h.1.1.ext hb hlt, h.1.2.1.ext hb hlt, h.1.2.2.ext hb hlt⟩, h.2⟩
structure IvlsAt (w : World) (A : Option Addr) (c : Nat) (l : List IvlD) : Prop where
  lc : l.length ≤ c
  cm : c ≤ maxLen
  sl : SlAt RIvl 2 w A l
structure PiecesAt (w : World) (A : Option Addr) (c : Nat) (l : List PieceD) : Prop where
  lc : l.length ≤ c
  cm : c ≤ maxLen
  sl : SlAt RPiece 3 w A l
section
variable {w w' : World} {A : Option Addr} {c n k : Nat} {l : List IvlD} {m : List PieceD} {base : Nat} {v : Value}
theorem IvlsAt.ext (h : IvlsAt w A c l) (hb : Below w.heap.size w w') : IvlsAt w' A c l := ⟨h.lc, h.cm, h.sl.ext RIvl.stable hb⟩
theorem PiecesAt.ext (h : PiecesAt w A c m) (hb : Below w.heap.size w w') : PiecesAt w' A c m := ⟨h.lc, h.cm, h.sl.ext RPiece.stable hb⟩
theorem IvlsAt.drewN (h : IvlsAt w A c l) (n : Nat) : IvlsAt (w.drewN n) A c l := ⟨h.lc, h.cm, h.sl⟩
theorem PiecesAt.drewN (h : PiecesAt w A c m) (n : Nat) : PiecesAt (w.drewN n) A c m := ⟨h.lc, h.cm, h.sl⟩
theorem IvlsAt.nil : IvlsAt w none 0 [] := ⟨Nat.le_refl _, Nat.zero_le _, SlAt.nil⟩
theorem PiecesAt.nil : PiecesAt w none 0 [] := ⟨Nat.le_refl _, Nat.zero_le _, SlAt.nil⟩
theorem IvlsAt.len (h : IvlsAt w A c l) : l.length ≤ 9223372036854775807 := Nat.le_trans h.lc h.cm
theorem PiecesAt.len (h : PiecesAt w A c m) : m.length ≤ 9223372036854775807 := Nat.le_trans h.lc h.cm
/-- One interval, as the walk reads it. -/
theorem IvlsAt.get (h : IvlsAt w A c l) {x : IvlD} (hx : l[k]? = some x) : ∃ b off, A = some ⟨b, off, none⟩ ∧ b < w.heap.size ∧ w.cell? ⟨b, off + k * 2, none⟩ = some (.int .i64 x.f) ∧ w.cell? ⟨b, off + k * 2 + 1, none⟩ = some (.int .i64 x.t) := by
  obtain ⟨b, off, hS⟩ := h.sl
  obtain ⟨h1, h2, h3, _⟩ := hS k x hx
  exact ⟨b, off, h1, h2, h3.1, h3.2⟩
theorem IvlsAt.i64 (h : IvlsAt w A c l) {x : IvlD} (hx : l[k]? = some x) : I64 x.f ∧ I64 x.t := by
  obtain ⟨b, off, hS⟩ := h.sl
  exact (hS k x hx).2.2.2
theorem PiecesAt.get (h : PiecesAt w A c m) {x : PieceD} (hx : m[k]? = some x) : ∃ b off, A = some ⟨b, off, none⟩ ∧ b < w.heap.size ∧ w.cell? ⟨b, off + k * 3, none⟩ = some (.int .i64 x.f) ∧ w.cell? ⟨b, off + k * 3 + 1, none⟩ = some (.int .i64 x.t) ∧ w.cell? ⟨b, off + k * 3 + 2, none⟩ = some (.int .i64 x.v) := by
  obtain ⟨b, off, hS⟩ := h.sl
  obtain ⟨h1, h2, h3, _⟩ := hS k x hx
  exact ⟨b, off, h1, h2, h3.1, h3.2.1, h3.2.2⟩
theorem PiecesAt.i64 (h : PiecesAt w A c m) {x : PieceD} (hx : m[k]? = some x) : I64 x.f ∧ I64 x.t ∧ I64 x.v := by
  obtain ⟨b, off, hS⟩ := h.sl
  exact (hS k x hx).2.2.2
def pieceC (x : PieceD) : List Value := [.int .i64 x.f, .int .i64 x.t, .int .i64 x.v]
/-- The same, in blocks that are new from a base on and that nothing else holds. -/
structure IvlsNew (base : Nat) (w : World) (A : Option Addr) (c : Nat) (l : List IvlD) : Prop extends IvlsAt w A c l where
  own : Own ivlC 2 w base 49 (.slice A l.length c) l
structure PiecesNew (base : Nat) (w : World) (A : Option Addr) (c : Nat) (l : List PieceD) : Prop extends PiecesAt w A c l where
  own : Own pieceC 3 w base 70 (.slice A l.length c) l
instance {base : Nat} {w : World} {A : Option Addr} {c : Nat} {l : List IvlD} : CoeOut (IvlsNew base w A c l) (IvlsAt w A c l) := ⟨fun h => h.toIvlsAt⟩
instance {base : Nat} {w : World} {A : Option Addr} {c : Nat} {l : List PieceD} : CoeOut (PiecesNew base w A c l) (PiecesAt w A c l) := ⟨fun h => h.toPiecesAt⟩
theorem IvlsNew.ext (h : IvlsNew base w A c l) (hb : Below w.heap.size w w') : IvlsNew base w' A c l := ⟨h.toIvlsAt.ext hb, h.own.ext hb⟩
theorem PiecesNew.ext (h : PiecesNew base w A c m) (hb : Below w.heap.size w w') : PiecesNew base w' A c m := ⟨h.toPiecesAt.ext hb, h.own.ext hb⟩
theorem IvlsNew.nil : IvlsNew base w none 0 [] := ⟨IvlsAt.nil, Own.nil⟩
theorem PiecesNew.nil : PiecesNew base w none 0 [] := ⟨PiecesAt.nil, Own.nil⟩
theorem Own.since {α : Type} {enc : α → List Value} {sz b0 : Nat} {e : TypeId} {l : List α} (h : Own enc sz w base e v l) (hb : b0 ≤ base) : Own enc sz w b0 e v l := by
  refine ⟨h.1, ?_⟩
  rcases h.2 with h2 | ⟨g, cap, cur, hv, hg, hh⟩
  · exact .inl h2
  · exact .inr ⟨g, cap, cur, hv, by omega, hh⟩
theorem IvlsNew.since {b0 : Nat} (h : IvlsNew base w A c l) (hb : b0 ≤ base) : IvlsNew b0 w A c l := ⟨h.toIvlsAt, h.own.since hb⟩
theorem PiecesNew.since {b0 : Nat} (h : PiecesNew base w A c m) (hb : b0 ≤ base) : PiecesNew b0 w A c m := ⟨h.toPiecesAt, h.own.since hb⟩
theorem own_pieces {l : List PieceD} (h : Own pieceC 3 w base 70 v l) (hi : ∀ x, x ∈ l → I64 x.f ∧ I64 x.t ∧ I64 x.v) : ∃ A c, v = .slice A l.length c ∧ PiecesNew base w A c l := by
  obtain ⟨A, c, hv, hS⟩ := Own.slAt (R := RPiece) (enc := pieceC) (fun _ => rfl) (fun x hx b o hc => ⟨⟨by have := hc 0 _ rfl; simpa using this, by have := hc 1 _ rfl; simpa using this, by have := hc 2 _ rfl; simpa using this⟩, hi x hx⟩) h
  subst hv
  exact ⟨A, c, rfl, ⟨h.room.1, h.room.2, hS⟩, h⟩
theorem own_ivls {l : List IvlD} (h : Own ivlC 2 w base 49 v l) (hi : ∀ x, x ∈ l → I64 x.f ∧ I64 x.t) : ∃ A c, v = .slice A l.length c ∧ IvlsNew base w A c l := by
  obtain ⟨A, c, hv, hS⟩ := own_lives h hi
  subst hv
  exact ⟨A, c, rfl, ⟨h.room.1, h.room.2, hS⟩, h⟩
theorem near_i64 {n : Int} (h : nearB n = true) : I64 n := by
  have := near_iff.1 h
  exact ⟨by omega, by omega⟩
end
theorem info_piece : (Tryd.prog.info? 70).map (fun i => (i.zero, i.size, i.bytes)) = some (some (.agg #[.int .i64 0, .int .i64 0, .int .i64 0]), 3, 24) := by kernel_rfl
theorem info_piece2 : ∃ i, Tryd.prog.info? 70 = some i ∧ i.zero = some (.agg #[.int .i64 0, .int .i64 0, .int .i64 0]) ∧ i.size = 3 ∧ i.bytes = 24 := by
  obtain ⟨i0, hi, hzz⟩ := Option.map_eq_some_iff.1 info_piece
  simp only [Prod.mk.injEq] at hzz
  exact ⟨i0, hi, hzz.1, hzz.2.1, hzz.2.2⟩
theorem three_ints {a b c : Int} : ∀ u ∈ (#[.int .i64 a, .int .i64 b, .int .i64 c] : Array Value).toList, u.oneCell' = true := by simp [Value.oneCell']
abbrev ivlV (x : IvlD) : Value := .agg #[.int .i64 x.f, .int .i64 x.t]
abbrev pieceV (x : PieceD) : Value := .agg #[.int .i64 x.f, .int .i64 x.t, .int .i64 x.v]
/-- A set and an error are told. -/
def SetOutB (b0 : Nat) (R : Int → List IvlD → Prop) (w : World) (e : Ending) (w' : World) : Prop := ∃ er out A c, Hid (R er out) ∧ e = .returned (.tuple #[.slice A out.length c, .int .i64 er]) ∧ IvlsNew b0 w' A c out ∧ Below w.heap.size w w'
def SetOut (R : Int → List IvlD → Prop) (w : World) (e : Ending) (w' : World) : Prop := ∃ er out A c, Hid (R er out) ∧ e = .returned (.tuple #[.slice A out.length c, .int .i64 er]) ∧ IvlsNew w.heap.size w' A c out ∧ Below w.heap.size w w'
def MapOut (R : Int → List PieceD → Prop) (w : World) (e : Ending) (w' : World) : Prop := ∃ er out A c, Hid (R er out) ∧ e = .returned (.tuple #[.slice A out.length c, .int .i64 er]) ∧ PiecesNew w.heap.size w' A c out ∧ Below w.heap.size w w'
end Go.Proofs.YtdpibehpmghghaaDoor
/- From the arguments as the row reads them to plain data: lists of intervals and of pieces. -/
namespace Go.Proofs.YtdpibehpmghghaaDoor
open Go.ChangeShapes Go.WideShapes Go.RowKit Go.Deep Go.Joins

section
variable {H : Type} {enc : TypeId × Value → H} {W : World} {spare : Nat → Bool} {held : Bool}

theorem i64_of_wf {n : Int} (h : (Lit.int .i64 n).wf = true) : I64 n := by
  simp [Lit.wf, IntKind.min, IntKind.max, IntKind.signed, IntKind.bits] at h
  exact ⟨by omega, by omega⟩

theorem field_cell {P : Program} {base fuel : Nat} {e : TypeId} {fs : Array Field} {cs : List Value} {x : DataW H × List MemPlace} (he : P.underlying e = some (.struct fs)) (hone : oneCellFields P fs = true)
    (h : DataW.trod enc P W base spare held fuel e cs = some x) (hl : cs.length = fs.size) {j : Nat} {f : Field} (hf : fs[j]? = some f) :
    ∃ c n y, cs[j]? = some c ∧ DataW.trod enc P W base spare held n f.type [c] = some y := by
  obtain ⟨xs, n, _, _, _, hxl, hg⟩ := DataW.trod_struct he h
  obtain ⟨ho, hk⟩ := hone_of hone j f hf
  have hj : j < fs.size := (Array.getElem?_eq_some_iff.1 hf).1
  have h1 := hg j f hf
  rw [ho, hk] at h1
  have e1 : (cs.drop j).take 1 = [cs[j]'(by omega)] := by
    rw [List.drop_eq_getElem_cons (by omega)]; rfl
  rw [e1, List.getElem?_eq_getElem (by omega)] at h1
  exact ⟨_, n, _, List.getElem?_eq_getElem (by omega), h1⟩
theorem field_int {P : Program} {base fuel : Nat} {e : TypeId} {fs : Array Field} {cs : List Value} {x : DataW H × List MemPlace} (he : P.underlying e = some (.struct fs)) (hone : oneCellFields P fs = true)
    (h : DataW.trod enc P W base spare held fuel e cs = some x) (hl : cs.length = fs.size) (j : Nat) {f : Field} (hf : fs[j]? = some f) (hi : P.underlying f.type = some (.int .i64)) :
    ∃ n, cs[j]? = some (.int .i64 n) ∧ I64 n := by
  obtain ⟨c, m, y, hc, ht⟩ := field_cell he hone h hl hf
  obtain ⟨n, hn, _, hw⟩ := DataW.trod_int hi ht
  simp at hn
  exact ⟨n, by rw [hc, hn], i64_of_wf hw⟩

/-- A slice of whatever elements. -/
theorem sl_open {α : Type} [Inhabited α] {R : World → Nat → Nat → α → Prop} {sz : Nat} {t e : TypeId} (ht : Tryd.prog.underlying t = some (.slice e)) (hsz : Tryd.prog.cellsOf e = sz) (hpos : 0 < sz)
    (hel : ∀ (n : Nat) (cs : List Value) (x : DataW H × List MemPlace) (b o : Nat), cs.length = sz → (∀ j, j < sz → W.cell? ⟨b, o + j, none⟩ = cs[j]?) → DataW.trod enc Tryd.prog W 0 spare held n e cs = some x → ∃ y : α, R W b o y)
    {fuel : Nat} {cs : List Value} {x : DataW H × List MemPlace} (h : DataW.trod enc Tryd.prog W 0 spare held fuel t cs = some x) :
    ∃ A c l, cs = [.slice A l.length c] ∧ l.length ≤ c ∧ c ≤ maxLen ∧ SlAt R sz W A l := by
  rcases open_slice ht h with ⟨h0, _⟩ | ⟨a, len, cap, m, n, D, Pl, hcs, _, hlc, hcm, hm, _, hi⟩
  · exact ⟨none, 0, [], by simpa using h0, by simp, by simp, SlAt.nil⟩
  · rw [hsz] at hi
    have hmle : len ≤ m := by rw [hm]; split <;> omega
    rcases Nat.eq_zero_or_pos len with hz | hp
    · subst hz
      exact ⟨some a, cap, [], by simpa using hcs, by simp, hcm, SlAt.nil⟩
    · obtain ⟨b, off, spot⟩ := a
      have hspot : spot = none := by
        obtain ⟨cs', h1, _⟩ := hi 0 (by omega)
        obtain ⟨_, hl, hc⟩ := World.cells?_some h1
        have h2 := hc 0 hpos
        rw [List.getElem?_eq_getElem (by omega)] at h2
        simpa [Addr.add] using World.cell?_spot h2
      subst hspot
      have hy : ∀ i, i < len → ∃ y : α, R W b (off + i * sz) y ∧ b < W.heap.size := by
        intro i hi'
        obtain ⟨cs', h1, h2⟩ := hi i (by omega)
        obtain ⟨_, hl, hc⟩ := World.cells?_some h1
        have hc' : ∀ j, j < sz → W.cell? ⟨b, off + i * sz + j, none⟩ = cs'[j]? := fun j hj => by
          rw [← hc j hj, add_plain, add_plain]
        obtain ⟨y, hy⟩ := hel n cs' _ b (off + i * sz) hl hc' h2
        have h0 := hc' 0 hpos
        rw [List.getElem?_eq_getElem (by omega)] at h0
        exact ⟨y, hy, World.block_lt_of_cell? W _ h0⟩
      obtain ⟨f, hf⟩ := choose_lt hy
      refine ⟨_, cap, (List.range len).map f, by simpa using hcs, by simpa using hlc, hcm, b, off, fun i x hx => ?_⟩
      simp only [List.getElem?_map, Option.map_eq_some_iff] at hx
      obtain ⟨k, hk, rfl⟩ := hx
      have hki : i < len ∧ i = k := by
        rcases Nat.lt_or_ge i len with hlt | hge
        · rw [List.getElem?_range hlt] at hk; exact ⟨hlt, by simpa using hk⟩
        · rw [List.getElem?_eq_none (by simpa using hge)] at hk; cases hk
      obtain ⟨hlt, rfl⟩ := hki
      exact ⟨rfl, (hf i hlt).2, (hf i hlt).1⟩

theorem at0 {b o : Nat} {cs : List Value} {v : Value} {sz : Nat} (hc : ∀ j, j < sz → W.cell? ⟨b, o + j, none⟩ = cs[j]?) (j : Nat) (hj : j < sz) (h : cs[j]? = some v) : cellIs W b (o + j) v := (hc j hj).trans h
theorem el_int {t : TypeId} (ht : Tryd.prog.underlying t = some (.int .i64)) : ∀ (n : Nat) (cs : List Value) (x : DataW H × List MemPlace) (b o : Nat), cs.length = 1 → (∀ j, j < 1 → W.cell? ⟨b, o + j, none⟩ = cs[j]?) →
    DataW.trod enc Tryd.prog W 0 spare held n t cs = some x → ∃ y : Int, RInt W b o y := by
  intro n cs x b o hl hc h
  obtain ⟨m, rfl, _, hw⟩ := DataW.trod_int ht h
  exact ⟨m, at0 hc 0 (by omega) rfl, i64_of_wf hw⟩

theorem el_ivl : ∀ (n : Nat) (cs : List Value) (x : DataW H × List MemPlace) (b o : Nat), cs.length = 2 → (∀ j, j < 2 → W.cell? ⟨b, o + j, none⟩ = cs[j]?) →
    DataW.trod enc Tryd.prog W 0 spare held n 49 cs = some x → ∃ y : IvlD, RIvl W b o y := by
  intro n cs x b o hl hc h
  obtain ⟨p, hp, wp⟩ := field_int Tryd.underlying49 (by kernel_rfl) h (by simpa using hl) 0 rfl Tryd.underlying3
  obtain ⟨q, hq, wq⟩ := field_int Tryd.underlying49 (by kernel_rfl) h (by simpa using hl) 1 rfl Tryd.underlying3
  exact ⟨⟨p, q⟩, ⟨at0 hc 0 (by omega) hp, at0 hc 1 (by omega) hq⟩, wp, wq⟩

set_option maxRecDepth 100000 in
theorem ints_open {v : Value} {d : DataW H} {p : List MemPlace} {r : Reach} {b0 : Nat} (hv : Value.okWide Tryd.prog W r b0 52 v) (h : DataW.Trod enc Tryd.prog W 0 spare held 52 v d p) :
    ∃ A c l, v = .slice A l.length c ∧ l.length ≤ c ∧ c ≤ maxLen ∧ SlAt RInt 1 W A l := by
  obtain ⟨a0, len, cap, rfl⟩ := okWide_slice Tryd.underlying52 hv
  obtain ⟨fuel, hf⟩ := h
  obtain ⟨A, c, l, hA, h1⟩ := sl_open (R := RInt) Tryd.underlying52 (by kernel_rfl) (by omega) (el_int Tryd.underlying3) hf
  simp [Value.cells] at hA
  obtain ⟨rfl, rfl, rfl⟩ := hA
  exact ⟨_, _, l, rfl, h1⟩

set_option maxRecDepth 100000 in
theorem int_open {v : Value} {d : DataW H} {p : List MemPlace} {r : Reach} {b0 : Nat} (hv : Value.okWide Tryd.prog W r b0 3 v) (h : DataW.Trod enc Tryd.prog W 0 spare held 3 v d p) : ∃ n, v = .int .i64 n ∧ I64 n := by
  obtain ⟨x, rfl, _, _, wx⟩ := open_int Tryd.underlying3 hv h
  exact ⟨x, rfl, i64_of_wf wx⟩
theorem el_piece : ∀ (n : Nat) (cs : List Value) (x : DataW H × List MemPlace) (b o : Nat), cs.length = 3 → (∀ j, j < 3 → W.cell? ⟨b, o + j, none⟩ = cs[j]?) →
    DataW.trod enc Tryd.prog W 0 spare held n 70 cs = some x → ∃ y : PieceD, RPiece W b o y := by
  intro n cs x b o hl hc h
  obtain ⟨p, hp, wp⟩ := field_int Tryd.underlying70 (by kernel_rfl) h (by simpa using hl) 0 rfl Tryd.underlying3
  obtain ⟨q, hq, wq⟩ := field_int Tryd.underlying70 (by kernel_rfl) h (by simpa using hl) 1 rfl Tryd.underlying3
  obtain ⟨r, hr, wr⟩ := field_int Tryd.underlying70 (by kernel_rfl) h (by simpa using hl) 2 rfl Tryd.underlying3
  exact ⟨⟨p, q, r⟩, ⟨at0 hc 0 (by omega) hp, at0 hc 1 (by omega) hq, at0 hc 2 (by omega) hr⟩, wp, wq, wr⟩
instance : Inhabited PieceD := ⟨⟨0, 0, 0⟩⟩
set_option maxRecDepth 100000 in
theorem ivls_open {v : Value} {d : DataW H} {p : List MemPlace} {r : Reach} {b0 : Nat} (hv : Value.okWide Tryd.prog W r b0 22 v) (h : DataW.Trod enc Tryd.prog W 0 spare held 22 v d p) :
    ∃ A c l, v = .slice A l.length c ∧ IvlsAt W A c l := by
  obtain ⟨a0, len, cap, rfl⟩ := okWide_slice Tryd.underlying22 hv
  obtain ⟨fuel, hf⟩ := h
  obtain ⟨A, c, l, hA, h1, h2, h3⟩ := sl_open (R := RIvl) Tryd.underlying22 (by kernel_rfl) (by omega) el_ivl hf
  simp [Value.cells] at hA
  obtain ⟨rfl, rfl, rfl⟩ := hA
  exact ⟨_, _, l, rfl, h1, h2, h3⟩
set_option maxRecDepth 100000 in
theorem pieces_open {v : Value} {d : DataW H} {p : List MemPlace} {r : Reach} {b0 : Nat} (hv : Value.okWide Tryd.prog W r b0 57 v) (h : DataW.Trod enc Tryd.prog W 0 spare held 57 v d p) :
    ∃ A c l, v = .slice A l.length c ∧ PiecesAt W A c l := by
  obtain ⟨a0, len, cap, rfl⟩ := okWide_slice Tryd.underlying57 hv
  obtain ⟨fuel, hf⟩ := h
  obtain ⟨A, c, l, hA, h1, h2, h3⟩ := sl_open (R := RPiece) Tryd.underlying57 (by kernel_rfl) (by omega) el_piece hf
  simp [Value.cells] at hA
  obtain ⟨rfl, rfl, rfl⟩ := hA
  exact ⟨_, _, l, rfl, h1, h2, h3⟩
set_option maxRecDepth 100000 in
theorem piece_open {v : Value} {d : DataW H} {p : List MemPlace} {r : Reach} {b0 : Nat} (hv : Value.okWide Tryd.prog W r b0 70 v) (h : DataW.Trod enc Tryd.prog W 0 spare held 70 v d p) :
    ∃ x, v = pieceV x ∧ I64 x.f ∧ I64 x.t ∧ I64 x.v := by
  obtain ⟨v0, v1, v2, y0, y1, y2, n, rfl, _, _, h0, h1, h2⟩ := open_agg3 Tryd.underlying70 (by kernel_rfl) (by kernel_rfl) hv h
  obtain ⟨a, ha, _, wa⟩ := DataW.trod_int Tryd.underlying3 h0
  obtain ⟨b, hb, _, wb⟩ := DataW.trod_int Tryd.underlying3 h1
  obtain ⟨c, hc, _, wc⟩ := DataW.trod_int Tryd.underlying3 h2
  simp at ha hb hc
  subst ha hb hc
  exact ⟨⟨a, b, c⟩, rfl, i64_of_wf wa, i64_of_wf wb, i64_of_wf wc⟩
end
theorem params_read {l : List TypeId} (h : l.all (fun t => Tryd.prog.readableRec t && decide (t < Tryd.prog.types.size)) = true) : ∀ t ∈ l, Tryd.prog.readableRec t = true ∧ t < Tryd.prog.types.size := by
  intro t ht
  have := List.all_eq_true.1 h t ht
  simpa using this
end Go.Proofs.YtdpibehpmghghaaDoor
/- From the arguments as the row reads them to plain data: lists of messages. -/
namespace Go.Proofs.YtdpibehpmghghaaDoor
open Go.ChangeShapes Go.WideShapes Go.RowKit Go.Deep Go.Joins

section
variable {H : Type} {enc : TypeId × Value → H} {W : World} {spare : Nat → Bool} {held : Bool}
theorem el_msg : ∀ (n : Nat) (cs : List Value) (x : DataW H × List MemPlace) (b o : Nat), cs.length = 3 → (∀ j, j < 3 → W.cell? ⟨b, o + j, none⟩ = cs[j]?) →
    DataW.trod enc Tryd.prog W 0 spare held n 130 cs = some x → ∃ y : PieceD, RPiece W b o y := by
  intro n cs x b o hl hc h
  obtain ⟨p, hp, wp⟩ := field_int Tryd.underlying130 (by kernel_rfl) h (by simpa using hl) 0 rfl Tryd.underlying3
  obtain ⟨q, hq, wq⟩ := field_int Tryd.underlying130 (by kernel_rfl) h (by simpa using hl) 1 rfl Tryd.underlying3
  obtain ⟨r, hr, wr⟩ := field_int Tryd.underlying130 (by kernel_rfl) h (by simpa using hl) 2 rfl Tryd.underlying3
  exact ⟨⟨p, q, r⟩, ⟨at0 hc 0 (by omega) hp, at0 hc 1 (by omega) hq, at0 hc 2 (by omega) hr⟩, wp, wq, wr⟩
set_option maxRecDepth 100000 in
theorem msgs_open {v : Value} {d : DataW H} {p : List MemPlace} {r : Reach} {b0 : Nat} (hv : Value.okWide Tryd.prog W r b0 58 v) (h : DataW.Trod enc Tryd.prog W 0 spare held 58 v d p) :
    ∃ A c l, v = .slice A l.length c ∧ PiecesAt W A c l := by
  obtain ⟨a0, len, cap, rfl⟩ := okWide_slice Tryd.underlying58 hv
  obtain ⟨fuel, hf⟩ := h
  obtain ⟨A, c, l, hA, h1, h2, h3⟩ := sl_open (R := RPiece) Tryd.underlying58 (by kernel_rfl) (by omega) el_msg hf
  simp [Value.cells] at hA
  obtain ⟨rfl, rfl, rfl⟩ := hA
  exact ⟨_, _, l, rfl, h1, h2, h3⟩
end
end Go.Proofs.YtdpibehpmghghaaDoor
/- Values of any type over times, as lists of pieces; no program in sight (XMapSpec turned to any type). -/
namespace Go.Proofs.YtdpibehpmghghaaDoor

structure PieceG (α : Type) where
  f : Int
  t : Int
  v : α
/-- What is told at a time. -/
def atG {α : Type} : List (PieceG α) → Int → Option α
  | [], _ => none
  | x :: l, t => if x.f ≤ t ∧ t < x.t then some x.v else atG l t
def MapG {α : Type} (l : List (PieceG α)) : Prop := l.Pairwise (fun x y => x.t ≤ y.f ∧ (x.t = y.f → x.v ≠ y.v)) ∧ ∀ x, x ∈ l → x.f < x.t
section
variable {α : Type} {l r out : List (PieceG α)} {x y z : PieceG α} {t : Int} {v : α}
theorem atG_nil : atG ([] : List (PieceG α)) t = none := rfl
theorem atG_hit (h : x.f ≤ t ∧ t < x.t) : atG (x :: l) t = some x.v := by rw [atG, if_pos h]
theorem atG_miss (h : ¬ (x.f ≤ t ∧ t < x.t)) : atG (x :: l) t = atG l t := by rw [atG, if_neg h]
theorem atG_some : ∀ {l : List (PieceG α)}, atG l t = some v → ∃ x, x ∈ l ∧ x.f ≤ t ∧ t < x.t ∧ x.v = v
  | [], h => by simp [atG] at h
  | x :: l, h => by
    by_cases hx : x.f ≤ t ∧ t < x.t
    · rw [atG_hit hx] at h
      exact ⟨x, by simp, hx.1, hx.2, by simpa using h⟩
    · rw [atG_miss hx] at h
      obtain ⟨y, hy, h1⟩ := atG_some h
      exact ⟨y, List.mem_cons_of_mem _ hy, h1⟩
theorem atG_none : ∀ {l : List (PieceG α)}, (∀ x, x ∈ l → ¬ (x.f ≤ t ∧ t < x.t)) → atG l t = none
  | [], _ => rfl
  | x :: l, h => by rw [atG_miss (h x (by simp)), atG_none fun y hy => h y (List.mem_cons_of_mem _ hy)]
theorem atG_append : ∀ {l r : List (PieceG α)}, atG (l ++ r) t = (atG l t).or (atG r t)
  | [], r => by simp [atG]
  | x :: l, r => by
    rw [List.cons_append]
    by_cases hx : x.f ≤ t ∧ t < x.t
    · rw [atG_hit hx, atG_hit hx]; rfl
    · rw [atG_miss hx, atG_miss hx, atG_append]
theorem MapG.nil : MapG ([] : List (PieceG α)) := ⟨.nil, fun x h => by simp at h⟩
theorem MapG.tail (h : MapG (x :: l)) : MapG l := ⟨(List.pairwise_cons.1 h.1).2, fun y hy => h.2 y (List.mem_cons_of_mem _ hy)⟩
theorem MapG.past (h : MapG (x :: l)) (ht : atG l t = some v) : x.t ≤ t ∧ (t = x.t → v ≠ x.v) := by
  obtain ⟨y, hy, h1, _, h2⟩ := atG_some ht
  have h3 := (List.pairwise_cons.1 h.1).1 y hy
  refine ⟨by omega, fun e => ?_⟩
  rw [← h2]
  exact (h3.2 (by omega)).symm
theorem MapG.low (h : MapG (x :: l)) (ht : atG (x :: l) t = some v) : x.f ≤ t := by
  by_cases hx : x.f ≤ t ∧ t < x.t
  · exact hx.1
  · rw [atG_miss hx] at ht
    have := (h.past ht).1
    have := h.2 x (by simp)
    omega
theorem MapG.head (h : MapG (x :: l)) : atG (x :: l) x.f = some x.v := atG_hit ⟨Int.le_refl _, h.2 x (by simp)⟩
/-- What a map is written as, is told by what it tells. -/
theorem mapG_unique : ∀ {l r : List (PieceG α)}, MapG l → MapG r → (∀ t, atG l t = atG r t) → l = r
  | [], [], _, _, _ => rfl
  | [], y :: r, _, hr, h => by
    have h1 := h y.f
    rw [hr.head, atG_nil] at h1
    simp at h1
  | x :: l, [], hl, _, h => by
    have h1 := h x.f
    rw [hl.head, atG_nil] at h1
    simp at h1
  | x :: l, y :: r, hl, hr, h => by
    have hx := hl.2 x (by simp)
    have hy := hr.2 y (by simp)
    have e1 : x.f = y.f := by
      have h1 := hr.low (t := x.f) (by rw [← h]; exact hl.head)
      have h2 := hl.low (t := y.f) (by rw [h]; exact hr.head)
      omega
    have ev : x.v = y.v := by
      have h1 := h x.f
      rw [hl.head, e1, hr.head] at h1
      simpa using h1
    have e2 : x.t = y.t := by
      rcases Int.lt_trichotomy x.t y.t with h1 | h1 | h1
      · exfalso
        have h2 := h x.t
        rw [atG_hit (x := y) ⟨by omega, h1⟩, atG_miss (by omega)] at h2
        exact (hl.past h2).2 rfl ev.symm
      · exact h1
      · exfalso
        have h2 := (h y.t).symm
        rw [atG_hit (x := x) ⟨by omega, h1⟩, atG_miss (by omega)] at h2
        exact (hr.past h2).2 rfl ev
    have e : x = y := by
      cases x; cases y
      simp only at e1 e2 ev
      subst e1 e2 ev
      rfl
    subst e
    congr 1
    refine mapG_unique hl.tail hr.tail fun t => ?_
    have h1 := h t
    by_cases ht : x.f ≤ t ∧ t < x.t
    · have k1 : atG l t = none := by
        cases hc : atG l t with
        | none => rfl
        | some v => have := (hl.past hc).1; omega
      have k2 : atG r t = none := by
        cases hc : atG r t with
        | none => rfl
        | some v => have := (hr.past hc).1; omega
      rw [k1, k2]
    · rwa [atG_miss ht, atG_miss ht] at h1
theorem MapG.init (h : MapG (out ++ [z])) : MapG out := ⟨(List.pairwise_append.1 h.1).1, fun y hy => h.2 y (List.mem_append_left _ hy)⟩
theorem MapG.snoc_lt (h : MapG (out ++ [z])) {y : PieceG α} (hy : y ∈ out) : y.t ≤ z.f ∧ (y.t = z.f → y.v ≠ z.v) := (List.pairwise_append.1 h.1).2.2 y hy z (by simp)
theorem MapG.snoc (h : MapG out) (hx : x.f < x.t) (hl : ∀ y, y ∈ out → y.t ≤ x.f ∧ (y.t = x.f → y.v ≠ x.v)) : MapG (out ++ [x]) := by
  refine ⟨List.pairwise_append.2 ⟨h.1, by simp, fun y hy u hu => ?_⟩, fun y hy => ?_⟩
  · obtain rfl : u = x := by simpa using hu
    exact hl y hy
  · rcases List.mem_append.1 hy with hy | hy
    · exact h.2 y hy
    · obtain rfl : y = x := by simpa using hy
      exact hx
theorem MapG.grow (h : MapG (out ++ [z])) {n : Int} (hn : z.t ≤ n) : MapG (out ++ [⟨z.f, n, z.v⟩]) :=
  h.init.snoc (by have := h.2 z (by simp); simp only; omega) fun _ hy => h.snoc_lt hy
theorem MapG.rise (h : MapG (out ++ [z])) : ∀ y, y ∈ out ++ [z] → y.t ≤ z.t := fun y hy => by
  rcases List.mem_append.1 hy with hy | hy
  · have := h.snoc_lt hy; have := h.2 z (by simp); omega
  · obtain rfl : y = z := by simpa using hy
    exact Int.le_refl _
/-- Who is told ahead of the last one ends ahead of it. -/
theorem MapG.ahead (h : MapG (out ++ [z])) {y : PieceG α} (hy : y ∈ out) : y.t < z.t := by
  have := h.snoc_lt hy; have := h.2 z (by simp); omega
end
/-! ### a map, written between one bound and the next -/
structure ToldG {α : Type} (fn : Int → Option α) (b a : Int) (out : List (PieceG α)) : Prop where
  map : MapG out
  tells : ∀ t, atG out t = if b ≤ t ∧ t < a then fn t else none
  low : ∀ y, y ∈ out → y.t ≤ a
section
variable {α : Type} {fn : Int → Option α} {b a c : Int} {v : α} {out o : List (PieceG α)} {z : PieceG α}
theorem ToldG.start : ToldG fn a a [] := ⟨.nil, fun t => by rw [atG_nil, if_neg (by omega)], fun y h => by simp at h⟩
theorem ToldG.skip (h : ToldG fn b a out) (hac : a < c) (hfn : ∀ t, a ≤ t → t < c → fn t = fn a) (hn : fn a = none) : ToldG fn b c out := by
  refine ⟨h.map, fun t => ?_, fun y hy => by have := h.low y hy; omega⟩
  rw [h.tells t]
  by_cases h1 : b ≤ t ∧ t < a
  · rw [if_pos h1, if_pos (by omega)]
  · rw [if_neg h1]
    split
    · rw [hfn t (by omega) (by omega), hn]
    · rfl
theorem ToldG.grow (h : ToldG fn b a (o ++ [z])) (_ : b ≤ a) (hac : a < c) (hfn : ∀ t, a ≤ t → t < c → fn t = fn a) (hv : fn a = some z.v) (hz : z.t = a) : ToldG fn b c (o ++ [⟨z.f, c, z.v⟩]) := by
  have hzl := h.map.2 z (by simp)
  have hzf : b ≤ z.f := by
    have h1 := h.tells z.f
    have h2 : atG (o ++ [z]) z.f = some z.v := by
      rw [atG_append, atG_none fun y hy => by have := h.map.snoc_lt hy; omega]
      exact atG_hit ⟨Int.le_refl _, hzl⟩
    rw [h2] at h1
    refine Classical.byContradiction fun hn => ?_
    rw [if_neg (by omega)] at h1
    simp at h1
  refine ⟨h.map.grow (by omega), fun t => ?_, fun y hy => ?_⟩
  · have h1 := h.tells t
    rw [atG_append] at h1 ⊢
    cases hc : atG o t with
    | some u =>
      rw [hc] at h1
      obtain ⟨q, hq, k1, k2, _⟩ := atG_some hc
      have := h.low q (List.mem_append_left _ hq)
      simp only [Option.or] at h1 ⊢
      rw [h1]
      by_cases hb : b ≤ t ∧ t < a
      · rw [if_pos hb, if_pos (by omega)]
      · rw [if_neg hb] at h1; simp at h1
    | none =>
      rw [hc] at h1
      simp only [Option.none_or] at h1 ⊢
      by_cases ht : z.f ≤ t ∧ t < c
      · rw [atG_hit (by simpa using ht), if_pos (by omega)]
        by_cases hta : t < a
        · rw [atG_hit ⟨ht.1, by omega⟩, if_pos (by omega)] at h1
          simp only
          exact h1
        · rw [hfn t (by omega) ht.2, hv]
      · rw [atG_miss (by simpa using ht), atG_nil]
        rw [atG_miss (by omega), atG_nil] at h1
        by_cases hb : b ≤ t ∧ t < c
        · rw [if_pos hb]
          rw [if_pos (by omega)] at h1
          exact h1
        · rw [if_neg hb]
  · rcases List.mem_append.1 hy with hy | hy
    · have := h.low y (List.mem_append_left _ hy); omega
    · obtain rfl : y = _ := by simpa using hy
      exact Int.le_refl _
theorem ToldG.next (h : ToldG fn b a out) (hba : b ≤ a) (hac : a < c) (hfn : ∀ t, a ≤ t → t < c → fn t = fn a) (hv : fn a = some v) (hz : ∀ y, y ∈ out → y.t = a → y.v ≠ v) : ToldG fn b c (out ++ [⟨a, c, v⟩]) := by
  refine ⟨h.map.snoc hac fun y hy => ⟨h.low y hy, fun e => hz y hy e⟩, fun t => ?_, fun y hy => ?_⟩
  · have h1 := h.tells t
    rw [atG_append, h1]
    by_cases hb : b ≤ t ∧ t < a
    · rw [if_pos hb, if_pos (by omega), atG_miss (by simp only; omega), atG_nil]
      simp
    · rw [if_neg hb]
      simp only [Option.none_or]
      by_cases hc : b ≤ t ∧ t < c
      · rw [if_pos hc, atG_hit (by simp only; omega), hfn t (by omega) (by omega), hv]
      · rw [if_neg hc, atG_miss (by simp only; omega), atG_nil]
  · rcases List.mem_append.1 hy with hy | hy
    · have := h.low y hy; omega
    · obtain rfl : y = _ := by simpa using hy
      exact Int.le_refl _
end
end Go.Proofs.YtdpibehpmghghaaDoor
