/- Several texts in one: RevSpec, TurnMem, ListMem, OpenB, Sized, Digits, Text. -/
import Derived.Lib.SmallJoins
import Derived.Deep.Slices
import Derived.Deep.Fields
import Derived.SizedLaws
import Derived.ChangeMaps5
import Derived.Lib.ItoaNum
import Derived.Lib.ItoaMem
import Derived.Lib.ItoaLen
import Derived.Test.YtjcimdpldlamfaaGreatDoorProg
import Derived.Test.YtjcimdpldlamfaaGreatDoorBd19914bea13
import Derived.Test.YtjcimdpldlamfaaGreatDoorBd0848e2b72a
import Derived.Test.YtjcimdpldlamfaaGreatDoorBd002cafd2b4
/- Time turned round, as plain Lean: a right graph's is right; who goes there goes here, backward; no program in sight. -/
namespace Go.Proofs.YtjcimdpldlamfaaGreatDoor

theorem legs_after {h : Int} : ∀ (r : List LegD) (q : Int), legsErr h (some q) r = 0 → ∀ l, l ∈ r → q ≤ l.f
 | [], _, _, l, hl => by simp at hl
 | y :: r, q, he, l, hl => by
  have h1 : legOk y h = true := by
   cases h0 : legOk y h
   ·rw [legsErr_bad h0] at he; simp at he
   ·rfl
  by_cases hq : y.f < q
  ·rw [legsErr_form h1 hq] at he; simp at he
  ·rw [legsErr_next h1 hq] at he
   rcases List.mem_cons.1 hl with rfl | hl
   ·omega
   ·have := legs_after r y.t he l hl
    simp [legOk] at h1
    omega
theorem leaves_of {h t : Int} : ∀ (r : List LegD) (p : Option Int), legsErr h p r = 0 → ∀ l, l ∈ r → l.f ≤ t → t < l.t → leaves t r = some l
 | [], _, _, l, hl, _, _ => by simp at hl
 | y :: r, p, he, l, hl, h2, h3 => by
  have h1 : legOk y h = true := by
   cases h0 : legOk y h
   ·rw [legsErr_bad h0] at he; simp at he
   ·rfl
  have he2 : legsErr h (some y.t) r = 0 := by
   cases p with
   | none => rwa [legsErr_first h1] at he
   | some q =>
    by_cases hq : y.f < q
    ·rw [legsErr_form h1 hq] at he; simp at he
    ·rwa [legsErr_next h1 hq] at he
  rcases List.mem_cons.1 hl with rfl | hl
  ·exact leaves_hit ⟨h2, h3⟩
  ·have := legs_after r y.t he2 l hl
   rw [leaves_miss (by omega)]
   exact leaves_of r _ he2 l hl h2 h3
/-! ### the graph with time turned round -/
/-! ### the latest times are the earliest ones, with time turned round -/
end Go.Proofs.YtjcimdpldlamfaaGreatDoor
/- A graph that a call builds: its lives, its edges and their legs, each in blocks of its own. -/
namespace Go.Proofs.YtjcimdpldlamfaaGreatDoor
open Go.RowKit

def ivlC (x : IvlD) : List Value := [.int .i64 x.f, .int .i64 x.t]
/-- An edge, where its legs lie, and for how many there is room. -/
abbrev EItem := EdgeD × Option Addr × Nat
def eEnc (it : EItem) : List Value := [.int .i64 it.1.a, .int .i64 it.1.b, .slice it.2.1 it.1.legs.length it.2.2]
/-- At the address a block of legs begins with the list. -/
def LOwn (w : World) (A : Option Addr) (r : List LegD) : Prop := 0 < r.length → ∃ (g : Nat) (cs : Array Value), A = some ⟨g, 0, none⟩ ∧ Blk w g 100 cs ∧
 ∀ (k : Nat) (x : LegD), r[k]? = some x → cs[k * 4]? = some (.int .i64 x.f) ∧ cs[k * 4 + 1]? = some (.int .i64 x.t) ∧ cs[k * 4 + 2]? = some (.int .i64 x.time) ∧ cs[k * 4 + 3]? = some (.int .i64 x.cost)
def LegsAt (w : World) (items : List EItem) : Prop := ∀ it, it ∈ items → LOwn w it.2.1 it.1.legs ∧ it.1.legs.length ≤ it.2.2 ∧ it.2.2 ≤ maxLen
def LegI (x : LegD) : Prop := I64 x.f ∧ I64 x.t ∧ I64 x.time ∧ I64 x.cost
section
variable {w w' : World} {A : Option Addr} {r : List LegD} {items : List EItem} {base : Nat} {v : Value}
theorem Own.keep {α : Type} {enc : α → List Value} {sz : Nat} {e : TypeId} {l : List α} (h : Own enc sz w base e v l) (hk : ∀ b cs, Blk w b e cs → Blk w' b e cs) : Own enc sz w' base e v l := by
 refine ⟨h.1, ?_⟩
 rcases h.2 with h2 | ⟨g, cap, cur, hv, hg, hh, r⟩
 ·exact .inl h2
 ·exact .inr ⟨g, cap, cur, hv, hg, hk g cur hh, r⟩
theorem Own.room {α : Type} {enc : α → List Value} {sz : Nat} {e : TypeId} {n c : Nat} {l : List α} (h : Own enc sz w base e (.slice A n c) l) : l.length ≤ c ∧ c ≤ maxLen := by
 rcases h.2 with ⟨h1, h0⟩ | ⟨g, cap, cur, hv, _, _, h1, h2, _⟩
 ·cases h1; rw [h0]; simp
 ·cases hv; exact ⟨h1, h2⟩
theorem LOwn.keep (h : LOwn w A r) (hk : ∀ b cs, Blk w b 100 cs → Blk w' b 100 cs) : LOwn w' A r := fun h0 => by
 obtain ⟨g, cs, h1, h2, h3⟩ := h h0
 exact ⟨g, cs, h1, hk _ _ h2, h3⟩
theorem LOwn.slAt (h : LOwn w A r) (hi : ∀ x, x ∈ r → LegI x) : SlAt RLeg 4 w A r := by
 rcases Nat.eq_zero_or_pos r.length with h0 | h0
 ·rw [List.eq_nil_of_length_eq_zero h0]; exact SlAt.nil
 ·obtain ⟨g, cs, rfl, hB, hc⟩ := h h0
  refine ⟨g, 0, fun i x hx => ⟨rfl, hB.lt, ?_⟩⟩
  obtain ⟨h1, h2, h3, h4⟩ := hc i x hx
  have hI := hi x (List.mem_of_getElem? hx)
  refine ⟨⟨?_, ?_, ?_, ?_⟩, hI⟩ <;> (unfold cellIs; rw [Nat.zero_add, hB.cell])
  ·exact h1
  ·exact h2
  ·exact h3
  ·exact h4
theorem LegsAt.keep (h : LegsAt w items) (hk : ∀ b cs, Blk w b 100 cs → Blk w' b 100 cs) : LegsAt w' items := fun it hi => ⟨(h it hi).1.keep hk, (h it hi).2⟩
theorem LegsAt.nil : LegsAt w [] := fun it h => by simp at h
theorem LegsAt.snoc {it : EItem} (h : LegsAt w items) (hi : LOwn w it.2.1 it.1.legs ∧ it.1.legs.length ≤ it.2.2 ∧ it.2.2 ≤ maxLen) : LegsAt w (items ++ [it]) := fun y hy => by
 rcases List.mem_append.1 hy with hy | hy
 ·exact h y hy
 ·obtain rfl : y = it := by simpa using hy
  exact hi
theorem slAt_map {α β : Type} {R : World → Nat → Nat → β → Prop} {sz : Nat} {f : α → β} {l : List α} (h : SlAt (fun w b o x => R w b o (f x)) sz w A l) : SlAt R sz w A (l.map f) := by
 obtain ⟨b, off, h⟩ := h
 refine ⟨b, off, fun i x hx => ?_⟩
 simp only [List.getElem?_map, Option.map_eq_some_iff] at hx
 obtain ⟨y, hy, rfl⟩ := hx
 exact h i y hy
theorem own_lives {l : List IvlD} (h : Own ivlC 2 w base 94 v l) (hi : ∀ x, x ∈ l → I64 x.f ∧ I64 x.t) : ∃ A c, v = .slice A l.length c ∧ SlAt RIvl 2 w A l :=
 Own.slAt (R := RIvl) (enc := ivlC) (fun _ => rfl) (fun x hx b o hc => ⟨⟨by have := hc 0 _ rfl; simpa using this, by have := hc 1 _ rfl; simpa using this⟩, hi x hx⟩) h
theorem own_edges (h : Own eEnc 3 w base 97 v items) (hl : LegsAt w items) (hi : ∀ it, it ∈ items → I64 it.1.a ∧ I64 it.1.b ∧ ∀ x, x ∈ it.1.legs → LegI x) : ∃ A c, v = .slice A items.length c ∧ SlAt REdge 3 w A (items.map Prod.fst) := by
 obtain ⟨A, c, hv, hs⟩ := Own.slAt (R := fun w b o (it : EItem) => REdge w b o it.1) (enc := eEnc) (fun _ => rfl) (fun it hm b o hc => by
  have h1 := hi it hm
  have h2 := hl it hm
  exact ⟨⟨by have := hc 0 _ rfl; simpa using this, by have := hc 1 _ rfl; simpa using this, it.2.1, it.2.2, by have := hc 2 _ rfl; simpa using this, h2.2.1, h2.2.2, h2.1.slAt h1.2.2⟩, h1.1, h1.2.1⟩) h
 exact ⟨A, c, hv, slAt_map (f := Prod.fst) hs⟩
end
theorem blk_ne {w : World} {b g : Nat} {t t' : TypeId} {cs cs' : Array Value} (h : Blk w b t cs) (h' : Blk w g t' cs') (ht : t ≠ t') : b ≠ g := by
 intro e
 subst e
 unfold Blk at h h'
 rw [h] at h'
 cases h'
 exact ht rfl
/-- A store into a block of another kind. -/
theorem keep_store {w : World} {g : Nat} {t e : TypeId} {cs' : Array Value} (h' : Blk w g t cs') (ht : e ≠ t) (i : Nat) (u : Value) : ∀ b cs, Blk w b e cs → Blk (w.setCell ⟨g, i, none⟩ u) b e cs := fun _ _ h => h.far (blk_ne h h' ht) u
theorem Own.block_lt {α : Type} {enc : α → List Value} {sz : Nat} {w : World} {base : Nat} {e : TypeId} {v : Value} {l : List α} (h : Own enc sz w base e v l) {b : Nat} (hb : w.heap.size ≤ b) : some b ≠ v.ownBlock := fun e => by
 have := (World.ownsRow.lt h b e.symm).2
 omega
/-- An append of one element, and where the new slice lies. -/
theorem wpList_append_lie {P : Program} {ops : Array Oper} {rest : List Oper} {o : Oper} {a : Act} {Q : Exit → Act → World → Prop} {w0 : World} {α : Type} {enc : α → List Value} (hgd : o.guard = none) (s x : Operand) (t : TypeId)
  (ho : o.op = .call { callee := .builtin .append, args := #[s, x], argTypes := #[t, t] })
  (base : Nat) (e : TypeId) (i : TypeInfo) (z : Value) (size bytes : Nat) (ht : P.underlying t = some (.slice e)) (hi : P.info? e = some i) (hz : i.zero = some z)
  (hsize : i.size = size) (hby : i.bytes = bytes) (hzs : z.cells.size = size) (hsz : 0 < size)
  (v : Value) (l : List α) (y : α) (hs : a.eval s = v) (hown : Own enc size w0 base e v l) (cs : Array Value) (hcy : cs.toList = enc y) (k : Nat) (hk : k = w0.heap.size) (hx : a.eval x = .slice (some ⟨k, 0, none⟩) 1 1) (hcs : cs.size = size)
  (h1 : ∀ u ∈ cs.toList, u.oneCell' = true) (h63 : l.length + 1 ≤ 1000000) (hby2 : bytes ≤ 1000) (hbase : base ≤ w0.heap.size)
  (h : ∀ g cap w', Own enc size w' base e (.slice (some ⟨g, 0, none⟩) (l.length + 1) cap) (l ++ [y]) → Below base w0 w' → (∀ b t' cs', Blk w0 b t' cs' → some b ≠ v.ownBlock → Blk w' b t' cs') → (v.ownBlock = some g ∨ w0.heap.size < g) →
   wpList P ops Q rest (a.put o.dst (.slice (some ⟨g, 0, none⟩) (l.length + 1) cap)) w') : wpList P ops Q (o :: rest) a (w0.alloc (.cells cs e)) := by
 subst hk
 have hb2 : (l.length + 1) * bytes ≤ 140737488355328 := Nat.le_trans (Nat.mul_le_mul h63 hby2) (by decide)
 refine wpList_append_lies (w0.alloc (.cells cs e)) hgd s x t ho base e i z size bytes ht hi hz hsize hby hzs hsz v l.length (l.flatMap enc) hs (World.ownsRow.alloc hown _) ⟨w0.heap.size, 0, none⟩ 1 1 cs.toList hx (by simp [hcs])
  ?_ h1 (by omega) (by unfold maxLen; omega) hb2 (by simp; omega) (w0.heap.size + 1) (by simp) ?_
 ·intro j u hu
  rw [Go.WideShapes.add_plain, cell_of_row _ _ _ cs e (0, 0) (heap_alloc_new w0 _)]
  simpa using hu
 ·intro g cap w' h2 h3 h4 _
  refine h g cap w' ?_ ?_ (fun b t' cs' hB hn => (hB.alloc _).grown h3 hn) (h4.imp id fun e => by omega)
  ·show w'.ownsRow base e size _ (l ++ [y]).length ((l ++ [y]).flatMap enc)
   rw [List.flatMap_append, List.length_append]
   simpa [hcy] using h2
  ·have hb : Below base w0 (w0.alloc (.cells cs e)) := (Below.refl _ _).alloc hbase _
   exact hb.grown h3 (by simp; omega) fun k hk => (World.ownsRow.lt hown k hk).1
theorem wp_append_lie {P : Program} {o : Oper} {a : Act} {K : Act → World → Prop} {Q : Exit → Act → World → Prop} {w0 : World} {α : Type} {enc : α → List Value} (s x : Operand) (t : TypeId)
  (ho : o.op = .call { callee := .builtin .append, args := #[s, x], argTypes := #[t, t] })
  (base : Nat) (e : TypeId) (i : TypeInfo) (z : Value) (size bytes : Nat) (ht : P.underlying t = some (.slice e)) (hi : P.info? e = some i) (hz : i.zero = some z)
  (hsize : i.size = size) (hby : i.bytes = bytes) (hzs : z.cells.size = size) (hsz : 0 < size)
  (v : Value) (l : List α) (y : α) (hs : a.eval s = v) (hown : Own enc size w0 base e v l) (cs : Array Value) (hcy : cs.toList = enc y) (k : Nat) (hk : k = w0.heap.size) (hx : a.eval x = .slice (some ⟨k, 0, none⟩) 1 1) (hcs : cs.size = size)
  (h1 : ∀ u ∈ cs.toList, u.oneCell' = true) (h63 : l.length + 1 ≤ 1000000) (hby2 : bytes ≤ 1000) (hbase : base ≤ w0.heap.size)
  (h : ∀ g cap w', Own enc size w' base e (.slice (some ⟨g, 0, none⟩) (l.length + 1) cap) (l ++ [y]) → Below base w0 w' → (∀ b t' cs', Blk w0 b t' cs' → some b ≠ v.ownBlock → Blk w' b t' cs') → (v.ownBlock = some g ∨ w0.heap.size < g) →
   K (a.put o.dst (.slice (some ⟨g, 0, none⟩) (l.length + 1) cap)) w') : Oper.wp P o a (w0.alloc (.cells cs e)) K Q := by
 subst hk
 have hb2 : (l.length + 1) * bytes ≤ 140737488355328 := Nat.le_trans (Nat.mul_le_mul h63 hby2) (by decide)
 refine wp_append_lies (w0.alloc (.cells cs e)) s x t ho base e i z size bytes ht hi hz hsize hby hzs hsz v l.length (l.flatMap enc) hs (World.ownsRow.alloc hown _) ⟨w0.heap.size, 0, none⟩ 1 1 cs.toList hx (by simp [hcs])
  ?_ h1 (by omega) (by unfold maxLen; omega) hb2 (by simp; omega) (w0.heap.size + 1) (by simp) ?_
 ·intro j u hu
  rw [Go.WideShapes.add_plain, cell_of_row _ _ _ cs e (0, 0) (heap_alloc_new w0 _)]
  simpa using hu
 ·intro g cap w' h2 h3 h4 _
  refine h g cap w' ?_ ?_ (fun b t' cs' hB hn => (hB.alloc _).grown h3 hn) (h4.imp id fun e => by omega)
  ·show w'.ownsRow base e size _ (l ++ [y]).length ((l ++ [y]).flatMap enc)
   rw [List.flatMap_append, List.length_append]
   simpa [hcy] using h2
  ·have hb : Below base w0 (w0.alloc (.cells cs e)) := (Below.refl _ _).alloc hbase _
   exact hb.grown h3 (by simp; omega) fun k hk => (World.ownsRow.lt hown k hk).1
theorem info_ivl : (Tryz.prog.info? 94).map (fun i => (i.zero, i.size, i.bytes)) = some (some (.agg #[.int .i64 0, .int .i64 0]), 2, 16) := by kernel_rfl
theorem info_edge : (Tryz.prog.info? 97).map (fun i => (i.zero, i.size, i.bytes)) = some (some (.agg #[.int .i64 0, .int .i64 0, .slice none 0 0]), 3, 40) := by kernel_rfl
theorem info_ivl2 : ∃ i, Tryz.prog.info? 94 = some i ∧ i.zero = some (.agg #[.int .i64 0, .int .i64 0]) ∧ i.size = 2 ∧ i.bytes = 16 := by
 obtain ⟨i0, hi, hzz⟩ := Option.map_eq_some_iff.1 info_ivl
 simp only [Prod.mk.injEq] at hzz
 exact ⟨i0, hi, hzz.1, hzz.2.1, hzz.2.2⟩
theorem info_edge2 : ∃ i, Tryz.prog.info? 97 = some i ∧ i.zero = some (.agg #[.int .i64 0, .int .i64 0, .slice none 0 0]) ∧ i.size = 3 ∧ i.bytes = 40 := by
 obtain ⟨i0, hi, hzz⟩ := Option.map_eq_some_iff.1 info_edge
 simp only [Prod.mk.injEq] at hzz
 exact ⟨i0, hi, hzz.1, hzz.2.1, hzz.2.2⟩
theorem two_one {a b : Int} : ∀ u ∈ (#[.int .i64 a, .int .i64 b] : Array Value).toList, u.oneCell' = true := by simp [Value.oneCell']
theorem three_one {a b : Int} {A : Option Addr} {n c : Nat} : ∀ u ∈ (#[.int .i64 a, .int .i64 b, .slice A n c] : Array Value).toList, u.oneCell' = true := by simp [Value.oneCell']
end Go.Proofs.YtjcimdpldlamfaaGreatDoor
/- Lists of intervals and of pieces as memory holds them. -/
namespace Go.Proofs.YtjcimdpldlamfaaGreatDoor
open Go.RowKit

def RPiece (w : World) (b o : Nat) (x : PieceD) : Prop := (cellIs w b o (.int .i64 x.f) ∧ cellIs w b (o + 1) (.int .i64 x.t) ∧ cellIs w b (o + 2) (.int .i64 x.v)) ∧ I64 x.f ∧ I64 x.t ∧ I64 x.v
theorem RPiece.stable : Stable RPiece := fun _ _ _ _ _ hb hlt h => ⟨⟨h.1.1.ext hb hlt, h.1.2.1.ext hb hlt, h.1.2.2.ext hb hlt⟩, h.2⟩
structure IvlsAt (w : World) (A : Option Addr) (c : Nat) (l : List IvlD) : Prop where
 lc : l.length ≤ c
 cm : c ≤ maxLen
 sl : SlAt RIvl 2 w A l
structure PiecesAt (w : World) (A : Option Addr) (c : Nat) (l : List PieceD) : Prop where
 lc : l.length ≤ c
 cm : c ≤ maxLen
 sl : SlAt RPiece 3 w A l
section
variable {w w' : World} {A : Option Addr} {c n k : Nat} {l : List IvlD} {m : List PieceD} {base : Nat} {v : Value}
theorem IvlsAt.ext (h : IvlsAt w A c l) (hb : Below w.heap.size w w') : IvlsAt w' A c l := ⟨h.lc, h.cm, h.sl.ext RIvl.stable hb⟩
theorem PiecesAt.ext (h : PiecesAt w A c m) (hb : Below w.heap.size w w') : PiecesAt w' A c m := ⟨h.lc, h.cm, h.sl.ext RPiece.stable hb⟩
theorem IvlsAt.nil : IvlsAt w none 0 [] := ⟨Nat.le_refl _, Nat.zero_le _, SlAt.nil⟩
theorem PiecesAt.nil : PiecesAt w none 0 [] := ⟨Nat.le_refl _, Nat.zero_le _, SlAt.nil⟩
theorem IvlsAt.len (h : IvlsAt w A c l) : l.length ≤ 9223372036854775807 := Nat.le_trans h.lc h.cm
theorem PiecesAt.len (h : PiecesAt w A c m) : m.length ≤ 9223372036854775807 := Nat.le_trans h.lc h.cm
/-- One interval, as the walk reads it. -/
theorem IvlsAt.get (h : IvlsAt w A c l) {x : IvlD} (hx : l[k]? = some x) : ∃ b off, A = some ⟨b, off, none⟩ ∧ b < w.heap.size ∧ w.cell? ⟨b, off + k * 2, none⟩ = some (.int .i64 x.f) ∧ w.cell? ⟨b, off + k * 2 + 1, none⟩ = some (.int .i64 x.t) := by
 obtain ⟨b, off, hS⟩ := h.sl
 obtain ⟨h1, h2, h3, _⟩ := hS k x hx
 exact ⟨b, off, h1, h2, h3.1, h3.2⟩
theorem IvlsAt.i64 (h : IvlsAt w A c l) {x : IvlD} (hx : l[k]? = some x) : I64 x.f ∧ I64 x.t := by
 obtain ⟨b, off, hS⟩ := h.sl
 exact (hS k x hx).2.2.2
theorem PiecesAt.get (h : PiecesAt w A c m) {x : PieceD} (hx : m[k]? = some x) : ∃ b off, A = some ⟨b, off, none⟩ ∧ b < w.heap.size ∧ w.cell? ⟨b, off + k * 3, none⟩ = some (.int .i64 x.f) ∧ w.cell? ⟨b, off + k * 3 + 1, none⟩ = some (.int .i64 x.t) ∧ w.cell? ⟨b, off + k * 3 + 2, none⟩ = some (.int .i64 x.v) := by
 obtain ⟨b, off, hS⟩ := h.sl
 obtain ⟨h1, h2, h3, _⟩ := hS k x hx
 exact ⟨b, off, h1, h2, h3.1, h3.2.1, h3.2.2⟩
theorem PiecesAt.i64 (h : PiecesAt w A c m) {x : PieceD} (hx : m[k]? = some x) : I64 x.f ∧ I64 x.t ∧ I64 x.v := by
 obtain ⟨b, off, hS⟩ := h.sl
 exact (hS k x hx).2.2.2
def pieceC (x : PieceD) : List Value := [.int .i64 x.f, .int .i64 x.t, .int .i64 x.v]
/-- The same, in blocks that are new from a base on and that nothing else holds. -/
structure IvlsNew (base : Nat) (w : World) (A : Option Addr) (c : Nat) (l : List IvlD) : Prop extends IvlsAt w A c l where
 own : Own ivlC 2 w base 94 (.slice A l.length c) l
structure PiecesNew (base : Nat) (w : World) (A : Option Addr) (c : Nat) (l : List PieceD) : Prop extends PiecesAt w A c l where
 own : Own pieceC 3 w base 113 (.slice A l.length c) l
instance {base : Nat} {w : World} {A : Option Addr} {c : Nat} {l : List IvlD} : CoeOut (IvlsNew base w A c l) (IvlsAt w A c l) := ⟨fun h => h.toIvlsAt⟩
instance {base : Nat} {w : World} {A : Option Addr} {c : Nat} {l : List PieceD} : CoeOut (PiecesNew base w A c l) (PiecesAt w A c l) := ⟨fun h => h.toPiecesAt⟩
theorem IvlsNew.nil : IvlsNew base w none 0 [] := ⟨IvlsAt.nil, Own.nil⟩
theorem PiecesNew.nil : PiecesNew base w none 0 [] := ⟨PiecesAt.nil, Own.nil⟩
theorem Own.since {α : Type} {enc : α → List Value} {sz b0 : Nat} {e : TypeId} {l : List α} (h : Own enc sz w base e v l) (hb : b0 ≤ base) : Own enc sz w b0 e v l := by
 refine ⟨h.1, ?_⟩
 rcases h.2 with h2 | ⟨g, cap, cur, hv, hg, hh⟩
 ·exact .inl h2
 ·exact .inr ⟨g, cap, cur, hv, by omega, hh⟩
theorem IvlsNew.since {b0 : Nat} (h : IvlsNew base w A c l) (hb : b0 ≤ base) : IvlsNew b0 w A c l := ⟨h.toIvlsAt, h.own.since hb⟩
theorem PiecesNew.since {b0 : Nat} (h : PiecesNew base w A c m) (hb : b0 ≤ base) : PiecesNew b0 w A c m := ⟨h.toPiecesAt, h.own.since hb⟩
theorem own_pieces {l : List PieceD} (h : Own pieceC 3 w base 113 v l) (hi : ∀ x, x ∈ l → I64 x.f ∧ I64 x.t ∧ I64 x.v) : ∃ A c, v = .slice A l.length c ∧ PiecesNew base w A c l := by
 obtain ⟨A, c, hv, hS⟩ := Own.slAt (R := RPiece) (enc := pieceC) (fun _ => rfl) (fun x hx b o hc => ⟨⟨by have := hc 0 _ rfl; simpa using this, by have := hc 1 _ rfl; simpa using this, by have := hc 2 _ rfl; simpa using this⟩, hi x hx⟩) h
 subst hv
 exact ⟨A, c, rfl, ⟨h.room.1, h.room.2, hS⟩, h⟩
theorem own_ivls {l : List IvlD} (h : Own ivlC 2 w base 94 v l) (hi : ∀ x, x ∈ l → I64 x.f ∧ I64 x.t) : ∃ A c, v = .slice A l.length c ∧ IvlsNew base w A c l := by
 obtain ⟨A, c, hv, hS⟩ := own_lives h hi
 subst hv
 exact ⟨A, c, rfl, ⟨h.room.1, h.room.2, hS⟩, h⟩
theorem near_i64 {n : Int} (h : nearB n = true) : I64 n := by
 have := near_iff.1 h
 exact ⟨by omega, by omega⟩
end
theorem info_piece : (Tryz.prog.info? 113).map (fun i => (i.zero, i.size, i.bytes)) = some (some (.agg #[.int .i64 0, .int .i64 0, .int .i64 0]), 3, 24) := by kernel_rfl
theorem info_piece2 : ∃ i, Tryz.prog.info? 113 = some i ∧ i.zero = some (.agg #[.int .i64 0, .int .i64 0, .int .i64 0]) ∧ i.size = 3 ∧ i.bytes = 24 := by
 obtain ⟨i0, hi, hzz⟩ := Option.map_eq_some_iff.1 info_piece
 simp only [Prod.mk.injEq] at hzz
 exact ⟨i0, hi, hzz.1, hzz.2.1, hzz.2.2⟩
theorem three_ints {a b c : Int} : ∀ u ∈ (#[.int .i64 a, .int .i64 b, .int .i64 c] : Array Value).toList, u.oneCell' = true := by simp [Value.oneCell']
abbrev ivlV (x : IvlD) : Value := .agg #[.int .i64 x.f, .int .i64 x.t]
abbrev pieceV (x : PieceD) : Value := .agg #[.int .i64 x.f, .int .i64 x.t, .int .i64 x.v]
/-- A set and an error are told. -/
def SetOutB (b0 : Nat) (R : Int → List IvlD → Prop) (w : World) (e : Ending) (w' : World) : Prop := ∃ er out A c, Hid (R er out) ∧ e = .returned (.tuple #[.slice A out.length c, .int .i64 er]) ∧ IvlsNew b0 w' A c out ∧ Below w.heap.size w w'
def SetOut (R : Int → List IvlD → Prop) (w : World) (e : Ending) (w' : World) : Prop := ∃ er out A c, Hid (R er out) ∧ e = .returned (.tuple #[.slice A out.length c, .int .i64 er]) ∧ IvlsNew w.heap.size w' A c out ∧ Below w.heap.size w w'
def MapOut (R : Int → List PieceD → Prop) (w : World) (e : Ending) (w' : World) : Prop := ∃ er out A c, Hid (R er out) ∧ e = .returned (.tuple #[.slice A out.length c, .int .i64 er]) ∧ PiecesNew w.heap.size w' A c out ∧ Below w.heap.size w w'
end Go.Proofs.YtjcimdpldlamfaaGreatDoor
/- From the arguments as the row reads them to plain data: lists of intervals and of pieces. -/
namespace Go.Proofs.YtjcimdpldlamfaaGreatDoor
open Go.ChangeShapes Go.WideShapes Go.RowKit Go.Deep Go.Joins

section
variable {H : Type} {enc : TypeId × Value → H} {W : World} {spare : Nat → Bool} {held : Bool}

instance : Inhabited PieceD := ⟨⟨0, 0, 0⟩⟩
end
end Go.Proofs.YtjcimdpldlamfaaGreatDoor
/- The reach: how long what is read can be. -/
namespace Go.Proofs.YtjcimdpldlamfaaGreatDoor
open Go.ChangeShapes Go.WideShapes Go.RowKit Go.Deep Go.Joins
open Go.ChangeMaps (open_string)

section
variable {H : Type} {enc : TypeId × Value → H} {W : World} {spare : Nat → Bool} {held : Bool}
set_option maxRecDepth 100000 in
theorem string_sized {v : Value} {d : DataW H} {p : List MemPlace} {r : Reach} {b0 : Nat} (hv : Value.okWide Tryz.prog W r b0 9 v) (h : DataW.Trod enc Tryz.prog W 0 spare held 9 v d p) : ∃ s : ByteArray, v = .string s ∧ d = .lit (.string s.data.toList) := by
 obtain ⟨s, rfl, hd, _, _⟩ := open_string Tryz.underlying9 hv h
 exact ⟨s, rfl, hd⟩
end
end Go.Proofs.YtjcimdpldlamfaaGreatDoor
/- Decimal numerals: what they are read as, and texts of numbers with commas; no program in sight. -/
namespace Go.Proofs.YtjcimdpldlamfaaGreatDoor
open Go.Lib

/-- What digits are read as. -/
def readD (l : List UInt8) : Nat := l.foldl (fun a b => 10 * a + (b.toNat - 48)) 0
theorem readD_snoc (l : List UInt8) (b : UInt8) : readD (l ++ [b]) = 10 * readD l + (b.toNat - 48) := by simp [readD]
theorem digit_nat {u : Nat} (h : u < 10) : (UInt8.ofNat (48 + u)).toNat = 48 + u := by
 rw [UInt8.toNat_ofNat']; omega
theorem read_dec (u : Nat) : readD (decDigits u) = u := by
 induction u using Nat.strongRecOn with
 | _ u ih =>
  by_cases h : u < 10
  ·rw [decDigits, dif_pos h]
   show readD ([] ++ [_]) = u
   rw [readD_snoc, digit_nat h]
   simp [readD]
  ·rw [decDigits, dif_neg h, readD_snoc, ih (u / 10) (by omega), digit_nat (by omega)]
   omega
theorem dec_digit (u : Nat) : ∀ b ∈ decDigits u, 48 ≤ b.toNat ∧ b.toNat ≤ 57 := by
 induction u using Nat.strongRecOn with
 | _ u ih =>
  intro b hb
  by_cases h : u < 10
  ·rw [decDigits, dif_pos h] at hb
   rw [List.mem_singleton.1 hb, digit_nat h]; omega
  ·rw [decDigits, dif_neg h] at hb
   rcases List.mem_append.1 hb with hb | hb
   ·exact ih _ (by omega) b hb
   ·rw [List.mem_singleton.1 hb, digit_nat (by omega)]; omega
theorem dec_ne (u : Nat) : decDigits u ≠ [] := fun h => by
 have := nDigits_pos u
 rw [← decDigits_length, h] at this
 simp at this
/-- No nought ahead. -/
theorem dec_head {u : Nat} (h : 1 < (decDigits u).length) : (decDigits u)[0]? ≠ some 48 := by
 induction u using Nat.strongRecOn with
 | _ u ih =>
  by_cases h1 : u < 10
  ·rw [decDigits, dif_pos h1] at h; simp at h
  ·rw [decDigits, dif_neg h1]
   have hp : 0 < (decDigits (u / 10)).length := List.length_pos_iff.2 (dec_ne _)
   rw [List.getElem?_append_left hp]
   by_cases h2 : u / 10 < 10
   ·rw [decDigits, dif_pos h2]
    intro e
    have e2 : UInt8.ofNat (48 + u / 10) = 48 := Option.some.inj e
    have := congrArg UInt8.toNat e2
    rw [digit_nat h2] at this
    have : (48 : UInt8).toNat = 48 := rfl
    omega
   ·refine ih _ (by omega) ?_
    rw [decDigits_length, nDigits_big h2]
    have := nDigits_pos (u / 10 / 10)
    omega
theorem dec_len4 {u : Nat} (h : u < 10000) : (decDigits u).length ≤ 4 := by
 rw [decDigits_length]
 refine Classical.byContradiction fun hn => ?_
 have key : ∀ (k u : Nat), u < 10 ^ k → 1 ≤ k → nDigits u ≤ k := fun k => by
  induction k with
  | zero => intro u _ h; omega
  | succ k ih =>
   intro u hu _
   by_cases h1 : u < 10
   ·rw [nDigits_small h1]; omega
   ·rw [nDigits_big h1]
    have hk : 1 ≤ k := by
     rcases Nat.eq_zero_or_pos k with rfl | h
     ·simp at hu; omega
     ·exact h
    have := ih (u / 10) (by rw [Nat.pow_succ] at hu; omega) hk
    omega
 exact hn (key 4 u (by simpa using h) (by decide))
end Go.Proofs.YtjcimdpldlamfaaGreatDoor
/- A graph as a text; no program in sight. -/
namespace Go.Proofs.YtjcimdpldlamfaaGreatDoor
open Go.Lib

/-- Numbers, each with a blank ahead. -/
def numsT (l : List Int) : List UInt8 := l.flatMap fun n => 32 :: itoa n
theorem numsT_snoc (l : List Int) (n : Int) : numsT (l ++ [n]) = numsT l ++ (32 :: itoa n) := by simp [numsT]
theorem numsT_take {l : List Int} {k : Nat} {n : Int} (h : l[k]? = some n) : numsT (l.take (k + 1)) = numsT (l.take k) ++ (32 :: itoa n) := by
 rw [List.take_add_one, h]
 exact numsT_snoc _ _
theorem numsT_len : ∀ {l : List Int}, (∀ n ∈ l, I64 n) → (numsT l).length ≤ l.length * 22
 | [], _ => by simp [numsT]
 | n :: l, h => by
  have h1 := itoa_length_le n (h n (by simp)).1 (h n (by simp)).2
  have h2 := numsT_len (l := l) fun m hm => h m (by simp [hm])
  have e : numsT (n :: l) = (32 :: itoa n) ++ numsT l := rfl
  rw [e, List.length_append, List.length_cons, List.length_cons]
  omega
/-- A line of a word and numbers. -/
def lineT (word : List UInt8) (l : List Int) : List UInt8 := word ++ numsT l ++ [10]
theorem lineT_len {word : List UInt8} {l : List Int} (h : ∀ n ∈ l, I64 n) : (lineT word l).length ≤ word.length + l.length * 22 + 1 := by
 have := numsT_len h
 unfold lineT
 rw [List.length_append, List.length_append]
 simp only [List.length_cons, List.length_nil]
 omega
def wTime : List UInt8 := [116, 105, 109, 101]
def wVertex : List UInt8 := [118, 101, 114, 116, 101, 120]
def wEdge : List UInt8 := [101, 100, 103, 101]
def wLeg : List UInt8 := [108, 101, 103]
def vertexT (x : IvlD) : List UInt8 := lineT wVertex [x.f, x.t]
def legT (x : LegD) : List UInt8 := lineT wLeg [x.f, x.t, x.time, x.cost]
def edgeT (x : EdgeD) : List UInt8 := lineT wEdge [x.a, x.b] ++ x.legs.flatMap legT
/-- A graph's text. -/
def graphT (g : GraphD) : List UInt8 := lineT wTime [g.h] ++ g.lives.flatMap vertexT ++ g.edges.flatMap edgeT
theorem flat_take {α : Type} {f : α → List UInt8} {l : List α} {k : Nat} {x : α} (h : l[k]? = some x) : (l.take (k + 1)).flatMap f = (l.take k).flatMap f ++ f x := by
 rw [List.take_add_one, h]
 simp
theorem flat_len {α : Type} {f : α → List UInt8} {m : Nat} : ∀ {l : List α}, (∀ x ∈ l, (f x).length ≤ m) → (l.flatMap f).length ≤ l.length * m
 | [], _ => by simp
 | x :: l, h => by
  have h1 := h x (by simp)
  have h2 := flat_len (l := l) fun y hy => h y (by simp [hy])
  rw [List.flatMap_cons, List.length_append, List.length_cons, Nat.succ_mul]
  omega
end Go.Proofs.YtjcimdpldlamfaaGreatDoor
