/- Several texts in one: TurnMem, Tab, Held. -/
import Derived.Maps.OwnSet
import Derived.DeepKeys4
import Derived.Test.YtcgnalpcbcpmkaaProg
import Derived.Test.YtcgnalpcbcpmkaaBded4119261a
import Derived.Test.YtcgnalpcbcpmkaaBd2643a67226
import Derived.Test.YtcgnalpcbcpmkaaBdac12786b2a
/- A graph that a call builds: its lives, its edges and their legs, each in blocks of its own. -/
namespace Go.Proofs.Ytcgnalpcbcpmkaa
open Go.RowKit

def ivlC (x : IvlD) : List Value := [.int .i64 x.f, .int .i64 x.t]
/-- An edge, where its legs lie, and for how many there is room. -/
abbrev EItem := EdgeD × Option Addr × Nat
def eEnc (it : EItem) : List Value := [.int .i64 it.1.a, .int .i64 it.1.b, .slice it.2.1 it.1.legs.length it.2.2]
/-- At the address a block of legs begins with the list. -/
def LOwn (w : World) (A : Option Addr) (r : List LegD) : Prop := 0 < r.length → ∃ (g : Nat) (cs : Array Value), A = some ⟨g, 0, none⟩ ∧ Blk w g 114 cs ∧
  ∀ (k : Nat) (x : LegD), r[k]? = some x → cs[k * 4]? = some (.int .i64 x.f) ∧ cs[k * 4 + 1]? = some (.int .i64 x.t) ∧ cs[k * 4 + 2]? = some (.int .i64 x.time) ∧ cs[k * 4 + 3]? = some (.int .i64 x.cost)
def LegsAt (w : World) (items : List EItem) : Prop := ∀ it, it ∈ items → LOwn w it.2.1 it.1.legs ∧ it.1.legs.length ≤ it.2.2 ∧ it.2.2 ≤ maxLen
def LegI (x : LegD) : Prop := I64 x.f ∧ I64 x.t ∧ I64 x.time ∧ I64 x.cost
section
variable {w w' : World} {A : Option Addr} {r : List LegD} {items : List EItem} {base : Nat} {v : Value}
theorem Own.keep {α : Type} {enc : α → List Value} {sz : Nat} {e : TypeId} {l : List α} (h : Own enc sz w base e v l) (hk : ∀ b cs, Blk w b e cs → Blk w' b e cs) : Own enc sz w' base e v l := by
  refine ⟨h.1, ?_⟩
  rcases h.2 with h2 | ⟨g, cap, cur, hv, hg, hh, r⟩
  · exact .inl h2
  · exact .inr ⟨g, cap, cur, hv, hg, hk g cur hh, r⟩
theorem Own.room {α : Type} {enc : α → List Value} {sz : Nat} {e : TypeId} {n c : Nat} {l : List α} (h : Own enc sz w base e (.slice A n c) l) : l.length ≤ c ∧ c ≤ maxLen := by
  rcases h.2 with ⟨h1, h0⟩ | ⟨g, cap, cur, hv, _, _, h1, h2, _⟩
  · cases h1; rw [h0]; simp
  · cases hv; exact ⟨h1, h2⟩
theorem LOwn.keep (h : LOwn w A r) (hk : ∀ b cs, Blk w b 114 cs → Blk w' b 114 cs) : LOwn w' A r := fun h0 => by
  obtain ⟨g, cs, h1, h2, h3⟩ := h h0
  exact ⟨g, cs, h1, hk _ _ h2, h3⟩
theorem LOwn.slAt (h : LOwn w A r) (hi : ∀ x, x ∈ r → LegI x) : SlAt RLeg 4 w A r := by
  rcases Nat.eq_zero_or_pos r.length with h0 | h0
  · rw [List.eq_nil_of_length_eq_zero h0]; exact SlAt.nil
  · obtain ⟨g, cs, rfl, hB, hc⟩ := h h0
    refine ⟨g, 0, fun i x hx => ⟨rfl, hB.lt, ?_⟩⟩
    obtain ⟨h1, h2, h3, h4⟩ := hc i x hx
    have hI := hi x (List.mem_of_getElem? hx)
    refine ⟨⟨?_, ?_, ?_, ?_⟩, hI⟩ <;> (unfold cellIs; rw [Nat.zero_add, hB.cell])
    · exact h1
    · exact h2
    · exact h3
    · exact h4
theorem LOwn.one {g : Nat} {x : LegD} (h : Blk w g 114 #[.int .i64 x.f, .int .i64 x.t, .int .i64 x.time, .int .i64 x.cost]) : LOwn w (some ⟨g, 0, none⟩) [x] := fun _ => ⟨g, _, rfl, h, fun k y hk => by
  match k, hk with
  | 0, hk =>
    obtain rfl : x = y := by simpa using hk
    simp
  | k + 1, hk => simp at hk⟩
theorem LegsAt.keep (h : LegsAt w items) (hk : ∀ b cs, Blk w b 114 cs → Blk w' b 114 cs) : LegsAt w' items := fun it hi => ⟨(h it hi).1.keep hk, (h it hi).2⟩
theorem LegsAt.nil : LegsAt w [] := fun it h => by simp at h
theorem LegsAt.snoc {it : EItem} (h : LegsAt w items) (hi : LOwn w it.2.1 it.1.legs ∧ it.1.legs.length ≤ it.2.2 ∧ it.2.2 ≤ maxLen) : LegsAt w (items ++ [it]) := fun y hy => by
  rcases List.mem_append.1 hy with hy | hy
  · exact h y hy
  · obtain rfl : y = it := by simpa using hy
    exact hi
theorem slAt_map {α β : Type} {R : World → Nat → Nat → β → Prop} {sz : Nat} {f : α → β} {l : List α} (h : SlAt (fun w b o x => R w b o (f x)) sz w A l) : SlAt R sz w A (l.map f) := by
  obtain ⟨b, off, h⟩ := h
  refine ⟨b, off, fun i x hx => ?_⟩
  simp only [List.getElem?_map, Option.map_eq_some_iff] at hx
  obtain ⟨y, hy, rfl⟩ := hx
  exact h i y hy
theorem own_lives {l : List IvlD} (h : Own ivlC 2 w base 110 v l) (hi : ∀ x, x ∈ l → I64 x.f ∧ I64 x.t) : ∃ A c, v = .slice A l.length c ∧ SlAt RIvl 2 w A l :=
  Own.slAt (R := RIvl) (enc := ivlC) (fun _ => rfl) (fun x hx b o hc => ⟨⟨by have := hc 0 _ rfl; simpa using this, by have := hc 1 _ rfl; simpa using this⟩, hi x hx⟩) h
theorem own_edges (h : Own eEnc 3 w base 99 v items) (hl : LegsAt w items) (hi : ∀ it, it ∈ items → I64 it.1.a ∧ I64 it.1.b ∧ ∀ x, x ∈ it.1.legs → LegI x) : ∃ A c, v = .slice A items.length c ∧ SlAt REdge 3 w A (items.map Prod.fst) := by
  obtain ⟨A, c, hv, hs⟩ := Own.slAt (R := fun w b o (it : EItem) => REdge w b o it.1) (enc := eEnc) (fun _ => rfl) (fun it hm b o hc => by
    have h1 := hi it hm
    have h2 := hl it hm
    exact ⟨⟨by have := hc 0 _ rfl; simpa using this, by have := hc 1 _ rfl; simpa using this, it.2.1, it.2.2, by have := hc 2 _ rfl; simpa using this, h2.2.1, h2.2.2, h2.1.slAt h1.2.2⟩, h1.1, h1.2.1⟩) h
  exact ⟨A, c, hv, slAt_map (f := Prod.fst) hs⟩
end
theorem blk_ne {w : World} {b g : Nat} {t t' : TypeId} {cs cs' : Array Value} (h : Blk w b t cs) (h' : Blk w g t' cs') (ht : t ≠ t') : b ≠ g := by
  intro e
  subst e
  unfold Blk at h h'
  rw [h] at h'
  cases h'
  exact ht rfl
/-- A store into a block of another kind. -/
theorem keep_store {w : World} {g : Nat} {t e : TypeId} {cs' : Array Value} (h' : Blk w g t cs') (ht : e ≠ t) (i : Nat) (u : Value) : ∀ b cs, Blk w b e cs → Blk (w.setCell ⟨g, i, none⟩ u) b e cs := fun _ _ h => h.far (blk_ne h h' ht) u
theorem Own.block_lt {α : Type} {enc : α → List Value} {sz : Nat} {w : World} {base : Nat} {e : TypeId} {v : Value} {l : List α} (h : Own enc sz w base e v l) {b : Nat} (hb : w.heap.size ≤ b) : some b ≠ v.ownBlock := fun e => by
  have := (World.ownsRow.lt h b e.symm).2
  omega
/-- An append of one element, and where the new slice lies. -/
theorem wpList_append_lie {P : Program} {ops : Array Oper} {rest : List Oper} {o : Oper} {a : Act} {Q : Exit → Act → World → Prop} {w0 : World} {α : Type} {enc : α → List Value} (hgd : o.guard = none) (s x : Operand) (t : TypeId)
    (ho : o.op = .call { callee := .builtin .append, args := #[s, x], argTypes := #[t, t] })
    (base : Nat) (e : TypeId) (i : TypeInfo) (z : Value) (size bytes : Nat) (ht : P.underlying t = some (.slice e)) (hi : P.info? e = some i) (hz : i.zero = some z)
    (hsize : i.size = size) (hby : i.bytes = bytes) (hzs : z.cells.size = size) (hsz : 0 < size)
    (v : Value) (l : List α) (y : α) (hs : a.eval s = v) (hown : Own enc size w0 base e v l) (cs : Array Value) (hcy : cs.toList = enc y) (k : Nat) (hk : k = w0.heap.size) (hx : a.eval x = .slice (some ⟨k, 0, none⟩) 1 1) (hcs : cs.size = size)
    (h1 : ∀ u ∈ cs.toList, u.oneCell' = true) (h63 : l.length + 1 ≤ 1000000) (hby2 : bytes ≤ 1000) (hbase : base ≤ w0.heap.size)
    (h : ∀ g cap w', Own enc size w' base e (.slice (some ⟨g, 0, none⟩) (l.length + 1) cap) (l ++ [y]) → Below base w0 w' → (∀ b t' cs', Blk w0 b t' cs' → some b ≠ v.ownBlock → Blk w' b t' cs') → (v.ownBlock = some g ∨ w0.heap.size < g) →
      wpList P ops Q rest (a.put o.dst (.slice (some ⟨g, 0, none⟩) (l.length + 1) cap)) w') : wpList P ops Q (o :: rest) a (w0.alloc (.cells cs e)) := by
  subst hk
  have hb2 : (l.length + 1) * bytes ≤ 140737488355328 := Nat.le_trans (Nat.mul_le_mul h63 hby2) (by decide)
  refine wpList_append_lies (w0.alloc (.cells cs e)) hgd s x t ho base e i z size bytes ht hi hz hsize hby hzs hsz v l.length (l.flatMap enc) hs (World.ownsRow.alloc hown _) ⟨w0.heap.size, 0, none⟩ 1 1 cs.toList hx (by simp [hcs])
    ?_ h1 (by omega) (by unfold maxLen; omega) hb2 (by simp; omega) (w0.heap.size + 1) (by simp) ?_
  · intro j u hu
    rw [Go.WideShapes.add_plain, cell_of_row _ _ _ cs e (0, 0) (heap_alloc_new w0 _)]
    simpa using hu
  · intro g cap w' h2 h3 h4 _
    refine h g cap w' ?_ ?_ (fun b t' cs' hB hn => (hB.alloc _).grown h3 hn) (h4.imp id fun e => by omega)
    · show w'.ownsRow base e size _ (l ++ [y]).length ((l ++ [y]).flatMap enc)
      rw [List.flatMap_append, List.length_append]
      simpa [hcy] using h2
    · have hb : Below base w0 (w0.alloc (.cells cs e)) := (Below.refl _ _).alloc hbase _
      exact hb.grown h3 (by simp; omega) fun k hk => (World.ownsRow.lt hown k hk).1
theorem wp_append_lie {P : Program} {o : Oper} {a : Act} {K : Act → World → Prop} {Q : Exit → Act → World → Prop} {w0 : World} {α : Type} {enc : α → List Value} (s x : Operand) (t : TypeId)
    (ho : o.op = .call { callee := .builtin .append, args := #[s, x], argTypes := #[t, t] })
    (base : Nat) (e : TypeId) (i : TypeInfo) (z : Value) (size bytes : Nat) (ht : P.underlying t = some (.slice e)) (hi : P.info? e = some i) (hz : i.zero = some z)
    (hsize : i.size = size) (hby : i.bytes = bytes) (hzs : z.cells.size = size) (hsz : 0 < size)
    (v : Value) (l : List α) (y : α) (hs : a.eval s = v) (hown : Own enc size w0 base e v l) (cs : Array Value) (hcy : cs.toList = enc y) (k : Nat) (hk : k = w0.heap.size) (hx : a.eval x = .slice (some ⟨k, 0, none⟩) 1 1) (hcs : cs.size = size)
    (h1 : ∀ u ∈ cs.toList, u.oneCell' = true) (h63 : l.length + 1 ≤ 1000000) (hby2 : bytes ≤ 1000) (hbase : base ≤ w0.heap.size)
    (h : ∀ g cap w', Own enc size w' base e (.slice (some ⟨g, 0, none⟩) (l.length + 1) cap) (l ++ [y]) → Below base w0 w' → (∀ b t' cs', Blk w0 b t' cs' → some b ≠ v.ownBlock → Blk w' b t' cs') → (v.ownBlock = some g ∨ w0.heap.size < g) →
      K (a.put o.dst (.slice (some ⟨g, 0, none⟩) (l.length + 1) cap)) w') : Oper.wp P o a (w0.alloc (.cells cs e)) K Q := by
  subst hk
  have hb2 : (l.length + 1) * bytes ≤ 140737488355328 := Nat.le_trans (Nat.mul_le_mul h63 hby2) (by decide)
  refine wp_append_lies (w0.alloc (.cells cs e)) s x t ho base e i z size bytes ht hi hz hsize hby hzs hsz v l.length (l.flatMap enc) hs (World.ownsRow.alloc hown _) ⟨w0.heap.size, 0, none⟩ 1 1 cs.toList hx (by simp [hcs])
    ?_ h1 (by omega) (by unfold maxLen; omega) hb2 (by simp; omega) (w0.heap.size + 1) (by simp) ?_
  · intro j u hu
    rw [Go.WideShapes.add_plain, cell_of_row _ _ _ cs e (0, 0) (heap_alloc_new w0 _)]
    simpa using hu
  · intro g cap w' h2 h3 h4 _
    refine h g cap w' ?_ ?_ (fun b t' cs' hB hn => (hB.alloc _).grown h3 hn) (h4.imp id fun e => by omega)
    · show w'.ownsRow base e size _ (l ++ [y]).length ((l ++ [y]).flatMap enc)
      rw [List.flatMap_append, List.length_append]
      simpa [hcy] using h2
    · have hb : Below base w0 (w0.alloc (.cells cs e)) := (Below.refl _ _).alloc hbase _
      exact hb.grown h3 (by simp; omega) fun k hk => (World.ownsRow.lt hown k hk).1
def zeroG : GraphD := ⟨0, [], []⟩
theorem zero_at (w : World) : GraphAt w none 0 none 0 zeroG := ⟨by simp [I64, zeroG], by simp [zeroG], by simp [maxLen], by simp [zeroG], by simp [maxLen], SlAt.nil, SlAt.nil⟩
/-- A graph and an error are told. -/
def GraphErr (g : GraphD) (er : Int) (w : World) (e : Ending) (w' : World) : Prop := ∃ A c A' c', e = .returned (.tuple #[gV A c A' c' g, .int .i64 er]) ∧ GraphAt w' A c A' c' g ∧ Below w.heap.size w w'
theorem info_ivl : (Try.prog.info? 110).map (fun i => (i.zero, i.size, i.bytes)) = some (some (.agg #[.int .i64 0, .int .i64 0]), 2, 16) := by kernel_rfl
theorem info_edge : (Try.prog.info? 99).map (fun i => (i.zero, i.size, i.bytes)) = some (some (.agg #[.int .i64 0, .int .i64 0, .slice none 0 0]), 3, 40) := by kernel_rfl
theorem info_ivl2 : ∃ i, Try.prog.info? 110 = some i ∧ i.zero = some (.agg #[.int .i64 0, .int .i64 0]) ∧ i.size = 2 ∧ i.bytes = 16 := by
  obtain ⟨i0, hi, hzz⟩ := Option.map_eq_some_iff.1 info_ivl
  simp only [Prod.mk.injEq] at hzz
  exact ⟨i0, hi, hzz.1, hzz.2.1, hzz.2.2⟩
theorem info_edge2 : ∃ i, Try.prog.info? 99 = some i ∧ i.zero = some (.agg #[.int .i64 0, .int .i64 0, .slice none 0 0]) ∧ i.size = 3 ∧ i.bytes = 40 := by
  obtain ⟨i0, hi, hzz⟩ := Option.map_eq_some_iff.1 info_edge
  simp only [Prod.mk.injEq] at hzz
  exact ⟨i0, hi, hzz.1, hzz.2.1, hzz.2.2⟩
theorem two_one {a b : Int} : ∀ u ∈ (#[.int .i64 a, .int .i64 b] : Array Value).toList, u.oneCell' = true := by simp [Value.oneCell']
theorem three_one {a b : Int} {A : Option Addr} {n c : Nat} : ∀ u ∈ (#[.int .i64 a, .int .i64 b, .slice A n c] : Array Value).toList, u.oneCell' = true := by simp [Value.oneCell']
end Go.Proofs.Ytcgnalpcbcpmkaa
/- A map keyed by a vertex and a time, as a plain function: what its look-ups tell and its stores leave. -/
namespace Go.Proofs.Ytcgnalpcbcpmkaa
open Go.RowKit
open Go.Maps (Keyed has atKey_put_same atKey_put_other has_put_same has_put_other atKey_of_not_has)

theorem row_st : (148 : TypeId) < Try.prog.types.size := of_decide_eq_true (by kernel_rfl)
theorem keyT_st : Try.prog.keyTypeAt 2 148 = true := by kernel_rfl
set_option maxRecDepth 100000 in
theorem wide_st : (match Try.prog.underlying 148 with | some (.array _ _) | some (.struct _) => true | _ => false) = true := by rw [Try.underlying148]
set_option maxRecDepth 100000 in
theorem law_st : Keyed Try.prog 148 := Keyed.of_law (deep_law_laid Try.laidOut (m := 2) (by omega) row_st keyT_st wide_st)
def klS (p : Nat × Nat) : Lit := .string (keyBytes [.int .i64 (p.1 : Int), .int .i64 (p.2 : Int)])
def stV (p : Nat × Nat) : Value := .agg #[.int .i64 (p.1 : Int), .int .i64 (p.2 : Int)]
def Sml (p : Nat × Nat) : Prop := p.1 ≤ 1000 ∧ p.2 ≤ 1000
theorem keyType_st : Try.prog.keyType 148 = true := by kernel_rfl
theorem formed_st (a b : Int) : (Value.agg #[.int .i64 a, .int .i64 b]).formed Try.prog 148 = true := by
  simp [Value.formed, Try.underlying148, show Try.prog.cellsOf 148 = 2 by kernel_rfl]
theorem lits_st (a b : Int) (ha : (Lit.int .i64 a).wf = true) (hb : (Lit.int .i64 b).wf = true) : Try.prog.keyLits (Try.prog.types.size + 1) 148 [.int .i64 a, .int .i64 b] = some [.int .i64 a, .int .i64 b] := by
  obtain ⟨k, hk⟩ : ∃ k, Try.prog.types.size = k + 1 := Nat.exists_eq_add_one.2 (Nat.lt_of_le_of_lt (Nat.zero_le _) row_st)
  rw [hk]
  simp [Program.keyLits, Try.underlying148, Try.underlying3, show Try.prog.cellsOf 148 = 2 by kernel_rfl, show Try.prog.cellsOf 3 = 1 by kernel_rfl, ha, hb]
theorem wf_small {n : Nat} (h : n ≤ 1000) : (Lit.int .i64 (n : Int)).wf = true := WalkArith.wf_i64 (by omega)
theorem key_st {p : Nat × Nat} (h : Sml p) : keyOf Try.prog 148 (stV p) = some (klS p) := by
  unfold keyOf
  rw [Try.underlying148]
  simp only [stV, keyType_st, formed_st, Bool.and_self, if_true]
  show (Try.prog.keyLits (Try.prog.types.size + 1) 148 [.int .i64 (p.1 : Int), .int .i64 (p.2 : Int)]).map _ = _
  rw [lits_st _ _ (wf_small h.1) (wf_small h.2)]
  rfl
theorem kl_inj {p q : Nat × Nat} (hp : Sml p) (hq : Sml q) (h : klS p = klS q) : p = q := by
  have h1 := key_st hp
  rw [h] at h1
  have := law_st.inj h1 (key_st hq)
  simp only [stV, Value.agg.injEq, Array.mk.injEq, List.cons.injEq, Value.int.injEq, true_and, and_true] at this
  exact Prod.ext (by omega) (by omega)
theorem kl_key {p : Nat × Nat} (h : Sml p) : WideAt.IsKeyLit (klS p) := law_st.key (key_st h)

def rV (v : Value) : Option (DataW Value × List MemPlace) := some (.held v, [])
section
variable {α : Type}
/-- Block b is a map of at most n entries that tells what the function tells. -/
def TabAt (enc : α → Value) (w : World) (b n : Nat) (F : Tab α) : Prop := ∃ D : DataW Value, w.ownsMap Try.prog 148 rV b n D ∧ ∀ p, Sml p → match F p with
  | some a => has D (klS p) = true ∧ ∀ z, D.atKey (klS p) z = .held (enc a)
  | none => has D (klS p) = false
variable {enc : α → Value} {w : World} {b n : Nat} {F : Tab α}
theorem TabAt.made (enc : α → Value) (w : World) : TabAt enc (w.alloc (.map #[] 0)) w.heap.size 0 (fun _ => none) := ⟨_, World.ownsMap_made _ _ _ _, fun _ _ => rfl⟩
theorem TabAt.mono (h : TabAt enc w b n F) {m : Nat} (hn : n ≤ m) : TabAt enc w b m F := by
  obtain ⟨D, h1, h2⟩ := h
  exact ⟨D, h1.mono hn, h2⟩
theorem TabAt.lt (h : TabAt enc w b n F) : b < w.heap.size := by
  obtain ⟨D, h1, _⟩ := h
  exact h1.lt
theorem TabAt.grown (h : TabAt enc w b n F) {w' : World} {row : Option Nat} (hg : w.grownBy w' row) (hne : some b ≠ row) : TabAt enc w' b n F := by
  obtain ⟨D, h1, h2⟩ := h
  exact ⟨D, h1.kept hg hne, h2⟩
theorem TabAt.alloc (h : TabAt enc w b n F) (o : Obj) : TabAt enc (w.alloc o) b n F := by
  obtain ⟨D, h1, h2⟩ := h
  exact ⟨D, h1.alloc o, h2⟩
theorem TabAt.drew (h : TabAt enc w b n F) : TabAt enc w.drew b n F := h
theorem TabAt.far (h : TabAt enc w b n F) {a : Addr} (ha : b ≠ a.block) (u : Value) : TabAt enc (w.setCell a u) b n F := by
  obtain ⟨D, h1, h2⟩ := h
  exact ⟨D, h1.setCell ha u, h2⟩
theorem TabAt.noBlk (h : TabAt enc w b n F) {g : Nat} {t : TypeId} {cs : Array Value} (hB : Blk w g t cs) : g ≠ b := by
  obtain ⟨D, ⟨es, clock, h1, _⟩, _⟩ := h
  rintro rfl
  unfold Blk at hB
  rw [h1] at hB
  simp at hB
/-- 'v, ok := m[k]' -/
theorem TabAt.look (h : TabAt enc w b n F) {t e : TypeId} (ht : Try.prog.underlying t = some (.map 148 e)) {z : Value} (hz : (zeroValue e).run Try.prog w = .ok z w) {p : Nat × Nat} (hp : Sml p) :
    (Instr.lookup t (.map (some b)) (.agg #[.int .i64 (p.1 : Int), .int .i64 (p.2 : Int)]) true).run Try.prog w = .ok (.tuple #[((F p).map enc).getD z, .bool (F p).isSome]) w := by
  obtain ⟨D, h1, h2⟩ := h
  obtain ⟨v, ps, hrun, hv⟩ := h1.look_ok law_st ht hz (zd := .held z) (zp := []) rfl (key_st hp)
  have h3 := h2 p hp
  simp only [rV, Option.some.injEq, Prod.mk.injEq] at hv
  rw [show (Value.agg #[.int .i64 (p.1 : Int), .int .i64 (p.2 : Int)]) = stV p from rfl, hrun]
  cases hF : F p with
  | none =>
    rw [hF] at h3
    rw [h3]
    have := hv.1
    rw [atKey_of_not_has h3] at this
    simp only [DataW.held.injEq] at this
    rw [this]; rfl
  | some a =>
    rw [hF] at h3
    rw [h3.1]
    have := hv.1
    rw [h3.2] at this
    simp only [DataW.held.injEq] at this
    rw [this]; rfl
theorem TabAt.store (h : TabAt enc w b n F) {t e : TypeId} (ht : Try.prog.underlying t = some (.map 148 e)) (hn : n < maxLen) {p : Nat × Nat} (hp : Sml p) (a : α) :
    ∃ w', (Instr.mapUpdate t (.map (some b)) (.agg #[.int .i64 (p.1 : Int), .int .i64 (p.2 : Int)]) (enc a)).run Try.prog w = .ok () w' ∧ TabAt enc w' b (n + 1) (setF F p a) ∧ w.mapTurned w' b := by
  obtain ⟨D, h1, h2⟩ := h
  obtain ⟨w', hrun, h3, h4⟩ := h1.store law_st ht hn (key_st hp) (val := enc a) (d := .held (enc a)) (ps := []) rfl
  refine ⟨w', hrun, ⟨_, h3, fun q hq => ?_⟩, h4⟩
  by_cases e : q = p
  · subst e
    rw [setF_at]
    exact ⟨has_put_same h1.isMap (kl_key hp) _, fun z => atKey_put_same h1.isMap (kl_key hp) _ z⟩
  · have hne : klS q ≠ klS p := fun h => e (kl_inj hq hp h)
    rw [setF_ne _ _ e]
    have := h2 q hq
    cases hF : F q with
    | none =>
      rw [hF] at this
      simp only
      rw [has_put_other hne]; exact this
    | some a' =>
      rw [hF] at this
      simp only
      rw [has_put_other hne]
      exact ⟨this.1, fun z => by rw [atKey_put_other hne]; exact this.2 z⟩
theorem Blk.turned {w w' : World} {b g : Nat} {t : TypeId} {cs : Array Value} (h : Blk w g t cs) (hT : w.mapTurned w' b) (hne : g ≠ b) : Blk w' g t cs := by
  have := hT.grown.block g h.lt (by simpa using hne)
  exact this.trans h
theorem below_turned {k : Nat} {w0 w w' : World} {b : Nat} (h : Below k w0 w) (hT : w.mapTurned w' b) (hk : k ≤ w.heap.size) (hb : k ≤ b) : Below k w0 w' := h.grown hT.grown hk (fun j hj => by cases hj; exact hb)
variable {P : Program} {ops : Array Oper} {rest : List Oper} {o : Oper} {a : Act} {Q : Exit → Act → World → Prop}
theorem wpList_store_tab (hg : o.guard = none) (m x v : Operand) (t : TypeId) (hop : o.op = Op.mapUpdate t m x v) (e : TypeId) (ht : Try.prog.underlying t = some (.map 148 e)) (enc : α → Value) (b n : Nat) (F : Tab α)
    (hm : a.eval m = .map (some b)) (hown : TabAt enc w b n F) (hn : n < maxLen) (p : Nat × Nat) (hp : Sml p) (y : α) (hx : a.eval x = .agg #[.int .i64 (p.1 : Int), .int .i64 (p.2 : Int)]) (hv : a.eval v = enc y)
    (hK : ∀ w', TabAt enc w' b (n + 1) (setF F p y) → w.mapTurned w' b → wpList Try.prog ops Q rest (a.put o.dst undef) w') : wpList Try.prog ops Q (o :: rest) a w := by
  refine wpList_plain hg fun K' hK' => ?_
  obtain ⟨w', hrun, r1, r2⟩ := hown.store ht hn hp y
  unfold Oper.wp
  simp [execOp, hop, hm, hx, hv, hrun, Result.andThen]
  exact hK' _ _ (hK w' r1 r2)
end
end Go.Proofs.Ytcgnalpcbcpmkaa
/- A region that draws its order and keeps a condition, step by step: one operation alone may come up; the way a guard that is false goes. -/
namespace Go.Proofs.Ytcgnalpcbcpmkaa
open Go Go.RowKit

section
variable {P : Program} {ops : Array Oper} {Q : Exit → Act → World → Prop} {md : Region.Mode} {S : World → Prop}
theorem anyH_take {i : Nat} {oi : Oper} {v : Value} {f : Nat} {listed : Array Bool} {a : Act} {w : World} {d : Nat} (hi : ops[i]? = some oi) (hd : oi.dst = some d)
    (hB : (Region.noSelect ops && Region.free md ops listed i && (Region.ready md ops listed).contains i) = true)
    (hQ : ∀ c a w, Q (.panic c) (a.put (some d) v) w → Q (.panic c) a w) (hy : YieldsIf P ops S oi v a) (hS : S w)
    (h : wpAnyH P md ops Q S f (listed.setIfInBounds i true) (a.put (some d) v) w) : wpAnyH P md ops Q S (f + 1) listed a w := by
  simp only [Bool.and_eq_true] at hB
  obtain ⟨⟨b1, b2⟩, b3⟩ := hB
  rw [← hd] at hQ h
  exact wpAnyH_take hi b1 b2 b3 hQ hy hS h
/-- As WpN.take, the slot given outright. -/
theorem WpN.takeD {n i : Nat} {oi : Oper} {v : Value} {f : Nat} {listed : Array Bool} {a : Act} {w : World} {d : Nat} (hi : ops[i]? = some oi) (hd : oi.dst = some d)
    (hB : (Region.noSelect ops && Region.free md ops listed i && (Region.ready md ops listed).contains i && Region.sinkB md ops n && Region.chainB md ops n && decide (n < ops.size) && decide (i < n) && headB md ops n listed) = true)
    (hQ : ∀ c a w, Q (.panic c) (a.put (some d) v) w → Q (.panic c) a w) (hy : YieldsIf P ops S oi v a) (hS : S w)
    (h : WpN P md ops Q S n f (listed.setIfInBounds i true) (a.put (some d) v) w) : WpN P md ops Q S n (f + 1) listed a w := by
  rw [← hd] at hQ h
  exact WpN.take hi hB hQ hy hS h
/-- One alone may come up. -/
theorem anyH_one {i : Nat} {oi : Oper} {f : Nat} {listed : Array Bool} {a : Act} {w : World} (hi : ops[i]? = some oi) (hr : (Region.ready md ops listed == [i] && Region.wanted oi (yielded ops a.tmps)) = true)
    (h : ∀ K : Act → World → Prop, Hid (∀ a' w', (S w' ∧ wpAnyH P md ops Q S f (listed.setIfInBounds i true) a' w') → K a' w') → Oper.wp P oi a w K Q) : wpAnyH P md ops Q S (f + 1) listed a w := by
  simp only [Bool.and_eq_true, beq_iff_eq] at hr
  obtain ⟨hr, hw⟩ := hr
  refine ⟨fun h0 => (by rw [h0] at hr; cases hr), fun j hj => ?_⟩
  rw [hr] at hj
  obtain rfl : j = i := by simpa using hj
  unfold wpOp
  simp only [hi, hw, if_true]
  exact .inl (h _ (Lib.hid fun _ _ h => h))
end
end Go.Proofs.Ytcgnalpcbcpmkaa
