/- Rows of numbers that a call has made by append: a copy, reads, stores; lists of numbers built element by element. -/
import Derived.Test.YtcgnalpcbcpmkaaRow
import Derived.Test.YtcgnalpcbcpmkaaOwn2
import Derived.Maps.AppendAt
namespace Go.Proofs.Ytcgnalpcbcpmkaa
open Go.RowKit

def intEnc (x : Int) : List Value := [.int .i64 x]
theorem intEnc_len (x : Int) : (intEnc x).length = 1 := rfl
/-- The address is that of a block of the call's own that begins with the list's numbers; of an empty list nothing is said. -/
def IOwn (w : World) (base : Nat) (A : Option Addr) (l : List Int) : Prop := 0 < l.length → ∃ g cs, A = some ⟨g, 0, none⟩ ∧ base ≤ g ∧ Blk w g 3 cs ∧ l.length ≤ cs.size ∧ ∀ k, k < l.length → cs[k]? = some (.int .i64 (gi l k))
theorem flat_int (l : List Int) : l.flatMap intEnc = l.map iV := by
  induction l with
  | nil => rfl
  | cons x l ih => rw [List.flatMap_cons, ih]; rfl
section
variable {w w' : World} {base : Nat} {A : Option Addr} {l : List Int} {v : Value}
theorem IOwn.of_row {n c : Nat} (h : w.ownsRow base 3 1 (.slice A n c) n (l.map iV)) : IOwn w base A l := by
  intro h0
  have hl := h.1
  simp at hl
  rcases h.2 with ⟨_, rfl⟩ | ⟨g, cap, cur, hv, hg, hh, hnc, hcm, hcs, htake⟩
  · omega
  · injection hv with h1 h2 h3
    subst h1
    refine ⟨g, cur, rfl, hg, hh, by omega, fun k hk => ?_⟩
    have hk2 : (cur.toList.take (n * 1))[k]? = some (iV (gi l k)) := by rw [htake]; simp [gi_get hk]
    rw [List.getElem?_take_of_lt (by omega)] at hk2
    simpa using hk2
theorem Own.iown (h : Own intEnc 1 w base 3 v l) : ∃ A c, v = .slice A l.length c ∧ IOwn w base A l := by
  obtain ⟨A, c, rfl⟩ := h.form
  refine ⟨A, c, rfl, IOwn.of_row (n := l.length) (c := c) ?_⟩
  have h' := h
  unfold Own at h'
  rwa [flat_int] at h'
theorem IOwn.ext (h : IOwn w base A l) (hb : Below w.heap.size w w') : IOwn w' base A l := fun h0 => by
  obtain ⟨g, cs, h1, h2, h3, h4⟩ := h h0
  exact ⟨g, cs, h1, h2, h3.ext hb, h4⟩
theorem IOwn.lower {base' : Nat} (h : IOwn w base A l) (hb : base' ≤ base) : IOwn w base' A l := fun h0 => by
  obtain ⟨g, cs, h1, h2, h3⟩ := h h0
  exact ⟨g, cs, h1, Nat.le_trans hb h2, h3⟩
theorem IOwn.slAt (h : IOwn w base A l) (hi : ∀ k, k < l.length → I64 (gi l k)) : SlAt RInt 1 w A l := by
  rcases Nat.eq_zero_or_pos l.length with h0 | h0
  · rw [List.eq_nil_of_length_eq_zero h0]; exact SlAt.nil
  · obtain ⟨g, cs, rfl, _, hB, hs, hc⟩ := h h0
    refine ⟨g, 0, fun i x hx => ⟨rfl, hB.lt, ?_, ?_⟩⟩
    · have := hB.cell i
      rw [hc i (lt_of_get hx), gi_of hx] at this
      unfold cellIs
      simpa using this
    · have := hi i (lt_of_get hx)
      rwa [gi_of hx] at this
/-- What stands at the address: the block, each number's cell. -/
theorem IOwn.at_ (h : IOwn w base A l) {k : Nat} (hk : k < l.length) : ∃ g, A = some ⟨g, 0, none⟩ ∧ base ≤ g ∧ g < w.heap.size ∧ (∀ i, i < l.length → w.cell? ⟨g, i, none⟩ = some (.int .i64 (gi l i))) ∧ ∀ i, w.frozen? ⟨g, i, none⟩ = false := by
  obtain ⟨g, cs, h1, h2, h3, h4, h5⟩ := h (by omega)
  exact ⟨g, h1, h2, h3.lt, fun i hi => by rw [h3.cell, h5 i hi], h3.frozen⟩
theorem IOwn.set {g : Nat} (h : IOwn w base (some ⟨g, 0, none⟩) l) (k : Nat) (x : Int) : IOwn (w.setCell ⟨g, k, none⟩ (.int .i64 x)) base (some ⟨g, 0, none⟩) (l.set k x) := by
  intro h0
  rw [List.length_set] at h0
  obtain ⟨g', cs, h1, h2, h3, h4, h5⟩ := h h0
  obtain rfl : g = g' := by simpa using h1
  refine ⟨g, cs.setIfInBounds k (.int .i64 x), rfl, h2, h3.set_ _ _, by simpa using h4, fun i hi => ?_⟩
  rw [List.length_set] at hi
  by_cases e : k = i
  · subst e
    rw [gi_set hi, upd_at]
    simp [show k < cs.size by omega]
  · rw [Array.getElem?_setIfInBounds_ne e, h5 i hi]
    have : gi (l.set k x) i = gi l i := by simp only [gi, List.getD]; rw [List.getElem?_set_ne e]
    rw [this]
theorem IOwn.far (h : IOwn w base A l) {p : Addr} (hp : ∀ g, A = some ⟨g, 0, none⟩ → g ≠ p.block) (u : Value) : IOwn (w.setCell p u) base A l := fun h0 => by
  obtain ⟨g, cs, h1, h2, h3, h4⟩ := h h0
  exact ⟨g, cs, h1, h2, h3.far (hp g h1) u, h4⟩
theorem IOwn.far_ {g : Nat} (h : IOwn w base (some ⟨g, 0, none⟩) l) {p : Addr} (hp : g ≠ p.block) (u : Value) : IOwn (w.setCell p u) base (some ⟨g, 0, none⟩) l :=
  h.far (fun g' e => by
    have e' : g = g' := by simpa using e
    rw [← e']; exact hp) u
end
theorem info_int2 : ∃ i, Try.prog.info? 3 = some i ∧ i.zero = some (.int .i64 0) ∧ i.size = 1 ∧ i.bytes = 8 := by
  obtain ⟨i0, hi, hz0, hz1, hz2⟩ := info_parts info_int
  exact ⟨i0, hi, hz0, hz1, hz2⟩

set_option maxRecDepth 100000 in
theorem wpList_append_copy {ops : Array Oper} {rest : List Oper} {o : Oper} {a : Act} {Q : Exit → Act → World → Prop} {w : World} (hgd : o.guard = none) (x : Operand)
    (ho : o.op = .call { callee := .builtin .append, args := #[.const (.slice none 0 0), x], argTypes := #[53, 53] })
    (A : Option Addr) (c : Nat) (l : List Int) (hx : a.eval x = .slice A l.length c) (hS : SlAt RInt 1 w A l) (hl : l.length ≤ 1000000)
    (h : ∀ A' c' w', IOwn w' w.heap.size A' l → Below w.heap.size w w' → wpList Try.prog ops Q rest (a.put o.dst (.slice A' l.length c')) w') : wpList Try.prog ops Q (o :: rest) a w := by
  obtain ⟨i0, hi, hz0, hz1, hz2⟩ := info_int2
  have hrun : ∃ A' c' w', (Builtin.append_ #[53, 53] o.type #[.slice none 0 0, .slice A l.length c]).run Try.prog w = .ok (.slice A' l.length c') w' ∧ IOwn w' w.heap.size A' l ∧ Below w.heap.size w w' := by
    cases A with
    | none =>
      have h0 : l = [] := by
        cases l with
        | nil => rfl
        | cons y l =>
          obtain ⟨b, off, h⟩ := hS
          have := (h 0 y rfl).1
          simp at this
      subst h0
      exact ⟨none, 0, w, by simp [Builtin.append_, run_underlying Try.underlying53, sizeOf, typeInfo, hi, Builtin.lenOf, Builtin.firstCells], fun h => by simp at h, Below.refl _ _⟩
    | some ad =>
      obtain ⟨b, off, hS⟩ := hS
      have hc : ∀ (j : Nat) u, (l.map iV)[j]? = some u → w.cell? (ad.add j) = some u := fun j u hu => by
        simp only [List.getElem?_map, Option.map_eq_some_iff] at hu
        obtain ⟨y, hy, rfl⟩ := hu
        obtain ⟨h1, _, h2, _⟩ := hS j y hy
        obtain rfl : ad = ⟨b, off, none⟩ := by simpa using h1
        rw [Go.WideShapes.add_plain]
        simpa [cellIs] using h2
      obtain ⟨v', w', hr, h2, h3, _, _⟩ := run_append_own_at (P := Try.prog) w w.heap.size 53 o.type 3 i0 (.int .i64 0) 1 8 Try.underlying53 hi hz0 hz1 hz2 rfl (by omega) (.slice none 0 0) 0 [] (World.ownsRow_nil _ _ _ _) ad l.length c (l.map iV) (by simp) hc
        (by simp [Value.oneCell']) (by unfold maxLen; omega) (by omega) (Nat.le_refl _)
      have hb : Below w.heap.size w w' := (Below.refl _ _).grown h3 (Nat.le_refl _) (by simp [Value.ownBlock])
      have hf : ∃ A' c', v' = .slice A' l.length c' := by
        rcases h2.2 with ⟨rfl, h0⟩ | ⟨g, cap, cur, rfl, _⟩
        · exact ⟨none, 0, by rw [show l.length = 0 by omega]⟩
        · exact ⟨some ⟨g, 0, none⟩, cap, by rw [Nat.zero_add]⟩
      obtain ⟨A', c', rfl⟩ := hf
      exact ⟨A', c', w', hr, IOwn.of_row (n := l.length) (c := c') (by simpa using h2), hb⟩
  obtain ⟨A', c', w', hr, h1, h2⟩ := hrun
  have he : a.eval (.const (.slice none 0 0)) = .slice none 0 0 := rfl
  refine wpList_plain hgd fun _ hK => ?_
  unfold Oper.wp execOp
  simp only [ho, resolve, invoke, builtin, Sem.run_bind, Sem.run_pure, Result.andThen_ok, List.map_toArray, List.map_cons, List.map_nil, he, hx, hr]
  exact hK _ _ (h A' c' w' h1 h2)
end Go.Proofs.Ytcgnalpcbcpmkaa
