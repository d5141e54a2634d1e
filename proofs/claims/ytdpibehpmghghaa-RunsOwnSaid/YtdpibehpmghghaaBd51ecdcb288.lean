/- Several texts in one: Open, Five, Open2, IvlSpec. -/
import Derived.Lib.SmallJoins
import Derived.Deep.Slices
import Derived.Deep.Fields
import Derived.Test.YtdpibehpmghghaaBd8d00ac2edb
/- From the arguments as the row reads them to plain data: graphs, lists of hops, of ints, of bools, snapshots. -/
namespace Go.Proofs.Ytdpibehpmghghaa
open Go.ChangeShapes Go.WideShapes Go.RowKit Go.Deep Go.Joins

section
variable {H : Type} {enc : TypeId × Value → H} {W : World} {spare : Nat → Bool} {held : Bool}

theorem i64_of_wf {n : Int} (h : (Lit.int .i64 n).wf = true) : I64 n := by
  simp [Lit.wf, IntKind.min, IntKind.max, IntKind.signed, IntKind.bits] at h
  exact ⟨by omega, by omega⟩

theorem field_cell {P : Program} {base fuel : Nat} {e : TypeId} {fs : Array Field} {cs : List Value} {x : DataW H × List MemPlace} (he : P.underlying e = some (.struct fs)) (hone : oneCellFields P fs = true)
    (h : DataW.trod enc P W base spare held fuel e cs = some x) (hl : cs.length = fs.size) {j : Nat} {f : Field} (hf : fs[j]? = some f) :
    ∃ c n y, cs[j]? = some c ∧ DataW.trod enc P W base spare held n f.type [c] = some y := by
  obtain ⟨xs, n, _, _, _, hxl, hg⟩ := DataW.trod_struct he h
  obtain ⟨ho, hk⟩ := hone_of hone j f hf
  have hj : j < fs.size := (Array.getElem?_eq_some_iff.1 hf).1
  have h1 := hg j f hf
  rw [ho, hk] at h1
  have e1 : (cs.drop j).take 1 = [cs[j]'(by omega)] := by
    rw [List.drop_eq_getElem_cons (by omega)]; rfl
  rw [e1, List.getElem?_eq_getElem (by omega)] at h1
  exact ⟨_, n, _, List.getElem?_eq_getElem (by omega), h1⟩
theorem field_int {P : Program} {base fuel : Nat} {e : TypeId} {fs : Array Field} {cs : List Value} {x : DataW H × List MemPlace} (he : P.underlying e = some (.struct fs)) (hone : oneCellFields P fs = true)
    (h : DataW.trod enc P W base spare held fuel e cs = some x) (hl : cs.length = fs.size) (j : Nat) {f : Field} (hf : fs[j]? = some f) (hi : P.underlying f.type = some (.int .i64)) :
    ∃ n, cs[j]? = some (.int .i64 n) ∧ I64 n := by
  obtain ⟨c, m, y, hc, ht⟩ := field_cell he hone h hl hf
  obtain ⟨n, hn, _, hw⟩ := DataW.trod_int hi ht
  simp at hn
  exact ⟨n, by rw [hc, hn], i64_of_wf hw⟩

/-- A slice of whatever elements. -/
theorem sl_open {α : Type} [Inhabited α] {R : World → Nat → Nat → α → Prop} {sz : Nat} {t e : TypeId} (ht : Try.prog.underlying t = some (.slice e)) (hsz : Try.prog.cellsOf e = sz) (hpos : 0 < sz)
    (hel : ∀ (n : Nat) (cs : List Value) (x : DataW H × List MemPlace) (b o : Nat), cs.length = sz → (∀ j, j < sz → W.cell? ⟨b, o + j, none⟩ = cs[j]?) → DataW.trod enc Try.prog W 0 spare held n e cs = some x → ∃ y : α, R W b o y)
    {fuel : Nat} {cs : List Value} {x : DataW H × List MemPlace} (h : DataW.trod enc Try.prog W 0 spare held fuel t cs = some x) :
    ∃ A c l, cs = [.slice A l.length c] ∧ l.length ≤ c ∧ c ≤ maxLen ∧ SlAt R sz W A l := by
  rcases open_slice ht h with ⟨h0, _⟩ | ⟨a, len, cap, m, n, D, Pl, hcs, _, hlc, hcm, hm, _, hi⟩
  · exact ⟨none, 0, [], by simpa using h0, by simp, by simp, SlAt.nil⟩
  · rw [hsz] at hi
    have hmle : len ≤ m := by rw [hm]; split <;> omega
    rcases Nat.eq_zero_or_pos len with hz | hp
    · subst hz
      exact ⟨some a, cap, [], by simpa using hcs, by simp, hcm, SlAt.nil⟩
    · obtain ⟨b, off, spot⟩ := a
      have hspot : spot = none := by
        obtain ⟨cs', h1, _⟩ := hi 0 (by omega)
        obtain ⟨_, hl, hc⟩ := World.cells?_some h1
        have h2 := hc 0 hpos
        rw [List.getElem?_eq_getElem (by omega)] at h2
        simpa [Addr.add] using World.cell?_spot h2
      subst hspot
      have hy : ∀ i, i < len → ∃ y : α, R W b (off + i * sz) y ∧ b < W.heap.size := by
        intro i hi'
        obtain ⟨cs', h1, h2⟩ := hi i (by omega)
        obtain ⟨_, hl, hc⟩ := World.cells?_some h1
        have hc' : ∀ j, j < sz → W.cell? ⟨b, off + i * sz + j, none⟩ = cs'[j]? := fun j hj => by
          rw [← hc j hj, add_plain, add_plain]
        obtain ⟨y, hy⟩ := hel n cs' _ b (off + i * sz) hl hc' h2
        have h0 := hc' 0 hpos
        rw [List.getElem?_eq_getElem (by omega)] at h0
        exact ⟨y, hy, World.block_lt_of_cell? W _ h0⟩
      obtain ⟨f, hf⟩ := choose_lt hy
      refine ⟨_, cap, (List.range len).map f, by simpa using hcs, by simpa using hlc, hcm, b, off, fun i x hx => ?_⟩
      simp only [List.getElem?_map, Option.map_eq_some_iff] at hx
      obtain ⟨k, hk, rfl⟩ := hx
      have hki : i < len ∧ i = k := by
        rcases Nat.lt_or_ge i len with hlt | hge
        · rw [List.getElem?_range hlt] at hk; exact ⟨hlt, by simpa using hk⟩
        · rw [List.getElem?_eq_none (by simpa using hge)] at hk; cases hk
      obtain ⟨hlt, rfl⟩ := hki
      exact ⟨rfl, (hf i hlt).2, (hf i hlt).1⟩

theorem at0 {b o : Nat} {cs : List Value} {v : Value} {sz : Nat} (hc : ∀ j, j < sz → W.cell? ⟨b, o + j, none⟩ = cs[j]?) (j : Nat) (hj : j < sz) (h : cs[j]? = some v) : cellIs W b (o + j) v := (hc j hj).trans h
theorem el_int {t : TypeId} (ht : Try.prog.underlying t = some (.int .i64)) : ∀ (n : Nat) (cs : List Value) (x : DataW H × List MemPlace) (b o : Nat), cs.length = 1 → (∀ j, j < 1 → W.cell? ⟨b, o + j, none⟩ = cs[j]?) →
    DataW.trod enc Try.prog W 0 spare held n t cs = some x → ∃ y : Int, RInt W b o y := by
  intro n cs x b o hl hc h
  obtain ⟨m, rfl, _, hw⟩ := DataW.trod_int ht h
  exact ⟨m, at0 hc 0 (by omega) rfl, i64_of_wf hw⟩
theorem el_bool : ∀ (n : Nat) (cs : List Value) (x : DataW H × List MemPlace) (b o : Nat), cs.length = 1 → (∀ j, j < 1 → W.cell? ⟨b, o + j, none⟩ = cs[j]?) →
    DataW.trod enc Try.prog W 0 spare held n 4 cs = some x → ∃ y : Bool, RBool W b o y := by
  intro n cs x b o hl hc h
  obtain ⟨m, rfl, _⟩ := DataW.trod_bool Try.underlying4 h
  exact ⟨m, at0 hc 0 (by omega) rfl⟩
theorem el_ivl : ∀ (n : Nat) (cs : List Value) (x : DataW H × List MemPlace) (b o : Nat), cs.length = 2 → (∀ j, j < 2 → W.cell? ⟨b, o + j, none⟩ = cs[j]?) →
    DataW.trod enc Try.prog W 0 spare held n 29 cs = some x → ∃ y : IvlD, RIvl W b o y := by
  intro n cs x b o hl hc h
  obtain ⟨p, hp, wp⟩ := field_int Try.underlying29 (by kernel_rfl) h (by simpa using hl) 0 rfl Try.underlying3
  obtain ⟨q, hq, wq⟩ := field_int Try.underlying29 (by kernel_rfl) h (by simpa using hl) 1 rfl Try.underlying3
  exact ⟨⟨p, q⟩, ⟨at0 hc 0 (by omega) hp, at0 hc 1 (by omega) hq⟩, wp, wq⟩
theorem el_leg : ∀ (n : Nat) (cs : List Value) (x : DataW H × List MemPlace) (b o : Nat), cs.length = 4 → (∀ j, j < 4 → W.cell? ⟨b, o + j, none⟩ = cs[j]?) →
    DataW.trod enc Try.prog W 0 spare held n 95 cs = some x → ∃ y : LegD, RLeg W b o y := by
  intro n cs x b o hl hc h
  obtain ⟨p, hp, wp⟩ := field_int Try.underlying95 (by kernel_rfl) h (by simpa using hl) 0 rfl Try.underlying3
  obtain ⟨q, hq, wq⟩ := field_int Try.underlying95 (by kernel_rfl) h (by simpa using hl) 1 rfl Try.underlying3
  obtain ⟨r, hr, wr⟩ := field_int Try.underlying95 (by kernel_rfl) h (by simpa using hl) 2 rfl Try.underlying3
  obtain ⟨s, hs, ws⟩ := field_int Try.underlying95 (by kernel_rfl) h (by simpa using hl) 3 rfl Try.underlying3
  exact ⟨⟨p, q, r, s⟩, ⟨at0 hc 0 (by omega) hp, at0 hc 1 (by omega) hq, at0 hc 2 (by omega) hr, at0 hc 3 (by omega) hs⟩, wp, wq, wr, ws⟩
theorem el_edge : ∀ (n : Nat) (cs : List Value) (x : DataW H × List MemPlace) (b o : Nat), cs.length = 3 → (∀ j, j < 3 → W.cell? ⟨b, o + j, none⟩ = cs[j]?) →
    DataW.trod enc Try.prog W 0 spare held n 98 cs = some x → ∃ y : EdgeD, REdge W b o y := by
  intro n cs x b o hl hc h
  obtain ⟨p, hp, wp⟩ := field_int Try.underlying98 (by kernel_rfl) h (by simpa using hl) 0 rfl Try.underlying3
  obtain ⟨q, hq, wq⟩ := field_int Try.underlying98 (by kernel_rfl) h (by simpa using hl) 1 rfl Try.underlying3
  obtain ⟨c, m, y, hcc, ht⟩ := field_cell Try.underlying98 (by kernel_rfl) h (by simpa using hl) (j := 2) rfl
  obtain ⟨A, cp, l, hA, h1, h2, h3⟩ := sl_open (R := RLeg) Try.underlying96 (by kernel_rfl) (by omega) el_leg ht
  simp at hA
  exact ⟨⟨p, q, l⟩, ⟨at0 hc 0 (by omega) hp, at0 hc 1 (by omega) hq, A, cp, at0 hc 2 (by omega) (by rw [hcc, hA]), h1, h2, h3⟩, wp, wq⟩

set_option maxRecDepth 100000 in
theorem graph_open {v : Value} {d : DataW H} {p : List MemPlace} {r : Reach} {b0 : Nat} (hv : Value.okWide Try.prog W r b0 52 v) (h : DataW.Trod enc Try.prog W 0 spare held 52 v d p) :
    ∃ A c A' c' g, v = gV A c A' c' g ∧ GraphAt W A c A' c' g := by
  obtain ⟨v0, v1, v2, y0, y1, y2, n, rfl, _, _, h0, h1, h2⟩ := open_agg3 Try.underlying52 (by kernel_rfl) (by kernel_rfl) hv h
  obtain ⟨x, hx, _, wx⟩ := DataW.trod_int Try.underlying3 h0
  obtain ⟨A, c, l, hA, h3, h4, h5⟩ := sl_open (R := RIvl) Try.underlying22 (by kernel_rfl) (by omega) el_ivl h1
  obtain ⟨A', c', l', hA', h3', h4', h5'⟩ := sl_open (R := REdge) Try.underlying50 (by kernel_rfl) (by omega) el_edge h2
  simp at hx hA hA'
  subst hx hA hA'
  exact ⟨A, c, A', c', ⟨x, l, l'⟩, rfl, i64_of_wf wx, h3, h4, h3', h4', h5, h5'⟩
set_option maxRecDepth 100000 in
theorem ints_open {v : Value} {d : DataW H} {p : List MemPlace} {r : Reach} {b0 : Nat} (hv : Value.okWide Try.prog W r b0 66 v) (h : DataW.Trod enc Try.prog W 0 spare held 66 v d p) :
    ∃ A c l, v = .slice A l.length c ∧ l.length ≤ c ∧ c ≤ maxLen ∧ SlAt RInt 1 W A l := by
  obtain ⟨a0, len, cap, rfl⟩ := okWide_slice Try.underlying66 hv
  obtain ⟨fuel, hf⟩ := h
  obtain ⟨A, c, l, hA, h1⟩ := sl_open (R := RInt) Try.underlying66 (by kernel_rfl) (by omega) (el_int Try.underlying3) hf
  simp [Value.cells] at hA
  obtain ⟨rfl, rfl, rfl⟩ := hA
  exact ⟨_, _, l, rfl, h1⟩
set_option maxRecDepth 100000 in
theorem int_open {v : Value} {d : DataW H} {p : List MemPlace} {r : Reach} {b0 : Nat} (hv : Value.okWide Try.prog W r b0 3 v) (h : DataW.Trod enc Try.prog W 0 spare held 3 v d p) : ∃ n, v = .int .i64 n ∧ I64 n := by
  obtain ⟨x, rfl, _, _, wx⟩ := open_int Try.underlying3 hv h
  exact ⟨x, rfl, i64_of_wf wx⟩

end
end Go.Proofs.Ytdpibehpmghghaa
/- Five arguments. -/
namespace Go.Proofs.Ytdpibehpmghghaa
open Go.ChangeShapes Go.WideShapes Go.RowKit Go.Deep Go.Joins

section
variable {H : Type} {enc : TypeId × Value → H} {W : World} {spare : Nat → Bool} {held : Bool} {P : Program} {base : Nat}
theorem trodAll_five {t0 t1 t2 t3 t4 : TypeId} {args : Array Value} {ds : List (DataW H)} {ps : List MemPlace} (h : DataW.TrodAll enc P W base spare held [t0, t1, t2, t3, t4] args.toList ds ps) :
    ∃ v0 v1 v2 v3 v4 d0 d1 d2 d3 d4 p0 p1 p2 p3 p4, args = #[v0, v1, v2, v3, v4] ∧ ds = [d0, d1, d2, d3, d4] ∧ ps = p0 ++ (p1 ++ (p2 ++ (p3 ++ p4))) ∧ DataW.Trod enc P W base spare held t0 v0 d0 p0 ∧ DataW.Trod enc P W base spare held t1 v1 d1 p1 ∧
      DataW.Trod enc P W base spare held t2 v2 d2 p2 ∧ DataW.Trod enc P W base spare held t3 v3 d3 p3 ∧ DataW.Trod enc P W base spare held t4 v4 d4 p4 := by
  obtain ⟨v0, vs0, d0, ds0, p0, q0, hargs, rfl, rfl, h0, r0⟩ := trodAll_cons h
  obtain ⟨v1, vs1, d1, ds1, p1, q1, rfl, rfl, rfl, h1, r1⟩ := trodAll_cons r0
  obtain ⟨v2, vs2, d2, ds2, p2, q2, rfl, rfl, rfl, h2, r2⟩ := trodAll_cons r1
  obtain ⟨v3, vs3, d3, ds3, p3, q3, rfl, rfl, rfl, h3, r3⟩ := trodAll_cons r2
  obtain ⟨v4, vs4, d4, ds4, p4, q4, rfl, rfl, rfl, h4, r4⟩ := trodAll_cons r3
  obtain ⟨rfl, rfl, rfl⟩ := trodAll_nil r4
  refine ⟨v0, v1, v2, v3, v4, d0, d1, d2, d3, d4, p0, p1, p2, p3, p4, ?_, rfl, by simp, h0, h1, h2, h3, h4⟩
  cases args
  simpa using hargs
end
end Go.Proofs.Ytdpibehpmghghaa
/- More openings: strings, a hop by value, five arguments; that a list of parameters is readable. -/
namespace Go.Proofs.Ytdpibehpmghghaa
open Go.ChangeShapes Go.WideShapes Go.RowKit Go.Deep Go.Joins
open Go.ChangeMaps (open_string)

theorem params_read {l : List TypeId} (h : l.all (fun t => Try.prog.readableRec t && decide (t < Try.prog.types.size)) = true) : ∀ t ∈ l, Try.prog.readableRec t = true ∧ t < Try.prog.types.size := by
  intro t ht
  have := List.all_eq_true.1 h t ht
  simpa using this
section
variable {H : Type} {enc : TypeId × Value → H} {W : World} {spare : Nat → Bool} {held : Bool} {P : Program} {base : Nat}
set_option maxRecDepth 100000 in
theorem string_open_ {v : Value} {d : DataW H} {p : List MemPlace} {r : Reach} {b0 : Nat} (hv : Value.okWide Try.prog W r b0 9 v) (h : DataW.Trod enc Try.prog W 0 spare held 9 v d p) : ∃ s, v = .string s ∧ s.size ≤ maxLen := by
  obtain ⟨s, rfl, _, _, hs⟩ := open_string Try.underlying9 hv h
  exact ⟨s, rfl, hs⟩
end
end Go.Proofs.Ytdpibehpmghghaa
/- Sets of times, as lists of intervals; no program in sight. -/
namespace Go.Proofs.Ytdpibehpmghghaa

/-- The time is in one of the intervals. -/
def hasB (l : List IvlD) (t : Int) : Bool := l.any fun x => decide (x.f ≤ t ∧ t < x.t)
/-- A set as it should be written: intervals that rise, none of them empty, none meets another one. -/
def NormL (l : List IvlD) : Prop := l.Pairwise (fun x y => x.t < y.f) ∧ ∀ x, x ∈ l → x.f < x.t
section
variable {l r out : List IvlD} {x y z : IvlD} {t : Int}
theorem has_nil : hasB [] t = false := rfl
theorem has_cons : hasB (x :: l) t = true ↔ (x.f ≤ t ∧ t < x.t) ∨ hasB l t = true := by simp [hasB]
theorem has_append : hasB (l ++ r) t = (hasB l t || hasB r t) := by simp [hasB]
theorem has_iff : hasB l t = true ↔ ∃ x, x ∈ l ∧ x.f ≤ t ∧ t < x.t := by simp [hasB]
theorem NormL.nil : NormL [] := ⟨.nil, fun x h => by simp at h⟩
theorem NormL.tail (h : NormL (x :: l)) : NormL l := ⟨(List.pairwise_cons.1 h.1).2, fun y hy => h.2 y (List.mem_cons_of_mem _ hy)⟩
theorem NormL.past (h : NormL (x :: l)) (ht : hasB l t = true) : x.t < t := by
  obtain ⟨y, hy, h1, _⟩ := has_iff.1 ht
  have := (List.pairwise_cons.1 h.1).1 y hy
  omega
theorem NormL.low (h : NormL (x :: l)) (ht : hasB (x :: l) t = true) : x.f ≤ t := by
  rcases has_cons.1 ht with h1 | h1
  · exact h1.1
  · have := h.past h1
    have := h.2 x (by simp)
    omega
/-- What a set is written as, is told by its times. -/
theorem norm_unique : ∀ {l r : List IvlD}, NormL l → NormL r → (∀ t, hasB l t = hasB r t) → l = r
  | [], [], _, _, _ => rfl
  | [], y :: r, _, hr, h => by
    have h1 := h y.f
    rw [has_nil, has_cons.2 (.inl ⟨Int.le_refl _, hr.2 y (by simp)⟩)] at h1
    simp at h1
  | x :: l, [], hl, _, h => by
    have h1 := h x.f
    rw [has_nil, has_cons.2 (.inl ⟨Int.le_refl _, hl.2 x (by simp)⟩)] at h1
    simp at h1
  | x :: l, y :: r, hl, hr, h => by
    have hx := hl.2 x (by simp)
    have hy := hr.2 y (by simp)
    have e1 : x.f = y.f := by
      have h1 := hr.low (t := x.f) (by rw [← h]; exact has_cons.2 (.inl ⟨Int.le_refl _, hx⟩))
      have h2 := hl.low (t := y.f) (by rw [h]; exact has_cons.2 (.inl ⟨Int.le_refl _, hy⟩))
      omega
    have e2 : x.t = y.t := by
      rcases Int.lt_trichotomy x.t y.t with h1 | h1 | h1
      · exfalso
        have h2 := h x.t
        rw [has_cons.2 (.inl ⟨by omega, h1⟩)] at h2
        rcases has_cons.1 h2 with h3 | h3
        · omega
        · have := hl.past h3; omega
      · exact h1
      · exfalso
        have h2 := (h y.t).symm
        rw [has_cons.2 (.inl ⟨by omega, h1⟩)] at h2
        rcases has_cons.1 h2 with h3 | h3
        · omega
        · have := hr.past h3; omega
    have e : x = y := by
      cases x; cases y
      simp only at e1 e2
      subst e1 e2
      rfl
    subst e
    congr 1
    refine norm_unique hl.tail hr.tail fun t => ?_
    rw [Bool.eq_iff_iff]
    constructor
    · intro ht
      have h1 := hl.past ht
      rcases has_cons.1 ((h t).symm.trans (has_cons.2 (.inr ht))) with h2 | h2
      · omega
      · exact h2
    · intro ht
      have h1 := hr.past ht
      rcases has_cons.1 ((h t).trans (has_cons.2 (.inr ht))) with h2 | h2
      · omega
      · exact h2
/-- The last of a set comes behind all else. -/
theorem NormL.snoc_lt (h : NormL (out ++ [z])) {y : IvlD} (hy : y ∈ out) : y.t < z.f := (List.pairwise_append.1 h.1).2.2 y hy z (by simp)
theorem NormL.snoc (h : NormL out) (hx : x.f < x.t) (hl : ∀ y, y ∈ out → y.t < x.f) : NormL (out ++ [x]) := by
  refine ⟨List.pairwise_append.2 ⟨h.1, by simp, fun y hy u hu => ?_⟩, fun y hy => ?_⟩
  · obtain rfl : u = x := by simpa using hu
    exact hl y hy
  · rcases List.mem_append.1 hy with hy | hy
    · exact h.2 y hy
    · obtain rfl : y = x := by simpa using hy
      exact hx
theorem NormL.init (h : NormL (out ++ [z])) : NormL out := ⟨(List.pairwise_append.1 h.1).1, fun y hy => h.2 y (List.mem_append_left _ hy)⟩
/-- The last one reaches further. -/
theorem NormL.grow (h : NormL (out ++ [z])) {n : Int} (hn : z.t ≤ n) : NormL (out ++ [⟨z.f, n⟩]) :=
  h.init.snoc (by have := h.2 z (by simp); simp only; omega) fun _ hy => h.snoc_lt hy
theorem has_snoc : hasB (out ++ [z]) t = true ↔ hasB out t = true ∨ (z.f ≤ t ∧ t < z.t) := by
  rw [has_append, Bool.or_eq_true, has_cons, has_nil]
  simp
theorem NormL.rise (h : NormL (out ++ [z])) : ∀ y, y ∈ out ++ [z] → y.t ≤ z.t := fun y hy => by
  rcases List.mem_append.1 hy with hy | hy
  · have := h.snoc_lt hy; have := h.2 z (by simp); omega
  · obtain rfl : y = z := by simpa using hy
    exact Int.le_refl _
end
/-! ### how the program writes a set: sorted intervals, one after the other -/
/-- All that comes is put together: what has been read, in what is told. -/
structure Merged (done out : List IvlD) (last : Int) : Prop where
  norm : NormL out
  has : ∀ t, hasB out t = hasB done t
  low : ∀ y, y ∈ out → y.f ≤ last
section
variable {dn out o : List IvlD} {x z : IvlD} {n : Int}
theorem Merged.start : Merged [] [] n := ⟨.nil, fun _ => rfl, fun y h => by simp at h⟩
theorem Merged.later {m : Int} (h : Merged dn out n) (hm : n ≤ m) : Merged dn out m := ⟨h.norm, h.has, fun y hy => by have := h.low y hy; omega⟩
theorem Merged.join (h : Merged dn (o ++ [z]) x.f) (_ : x.f < x.t) (hz : x.f ≤ z.t) : Merged (dn ++ [x]) (o ++ [⟨z.f, max z.t x.t⟩]) x.f := by
  have hl := h.low z (by simp)
  refine ⟨h.norm.grow (by omega), fun t => ?_, fun y hy => ?_⟩
  · have key : (z.f ≤ t ∧ t < max z.t x.t) ↔ (z.f ≤ t ∧ t < z.t) ∨ (x.f ≤ t ∧ t < x.t) := by omega
    rw [Bool.eq_iff_iff, has_snoc, has_snoc, ← h.has t, has_snoc, or_assoc, ← key]
  · rcases List.mem_append.1 hy with hy | hy
    · exact h.low y (List.mem_append_left _ hy)
    · obtain rfl : y = _ := by simpa using hy
      exact hl
theorem Merged.next (h : Merged dn out x.f) (hx : x.f < x.t) (hz : ∀ y, y ∈ out → y.t < x.f) : Merged (dn ++ [x]) (out ++ [x]) x.f := by
  refine ⟨h.norm.snoc hx hz, fun t => ?_, fun y hy => ?_⟩
  · rw [Bool.eq_iff_iff, has_snoc, has_snoc, h.has t]
  · rcases List.mem_append.1 hy with hy | hy
    · exact h.low y hy
    · obtain rfl : y = x := by simpa using hy
      exact Int.le_refl _
theorem Merged.next_ (h : Merged dn (o ++ [z]) x.f) (hx : x.f < x.t) (hz : z.t < x.f) : Merged (dn ++ [x]) (o ++ [z] ++ [x]) x.f :=
  h.next hx fun y hy => by have := h.norm.rise y hy; omega
end
/-! ### how the document writes a set: between two bounds, where something holds -/
/-- Behind the bound a: what holds between b and a is told. -/
structure Between (is : Int → Bool) (b a : Int) (out : List IvlD) : Prop where
  norm : NormL out
  has : ∀ t, hasB out t = true ↔ b ≤ t ∧ t < a ∧ is t = true
  low : ∀ y, y ∈ out → y.t ≤ a
section
variable {is : Int → Bool} {b a c : Int} {out o : List IvlD} {z : IvlD}
theorem Between.start : Between is a a [] := ⟨.nil, fun t => ⟨fun h => by simp [has_nil] at h, fun h => by omega⟩, fun y h => by simp at h⟩
theorem Between.skip (h : Between is b a out) (hac : a < c) (his : ∀ t, a ≤ t → t < c → is t = is a) (hn : is a = false) : Between is b c out := by
  refine ⟨h.norm, fun t => ?_, fun y hy => by have := h.low y hy; omega⟩
  rw [h.has t]
  constructor
  · rintro ⟨h1, h2, h3⟩; exact ⟨h1, by omega, h3⟩
  · rintro ⟨h1, h2, h3⟩
    refine ⟨h1, ?_, h3⟩
    by_cases hta : t < a
    · exact hta
    · rw [his t (by omega) h2, hn] at h3; simp at h3
theorem Between.grow (h : Between is b a (o ++ [z])) (hba : b ≤ a) (hac : a < c) (his : ∀ t, a ≤ t → t < c → is t = is a) (hy : is a = true) (hz : z.t = a) : Between is b c (o ++ [⟨z.f, c⟩]) := by
  have hzl := h.norm.2 z (by simp)
  refine ⟨h.norm.grow (by omega), fun t => ?_, fun y hy => ?_⟩
  · have h1 := h.has t
    rw [has_snoc] at h1
    rw [has_snoc]
    simp only
    constructor
    · rintro (h2 | h2)
      · obtain ⟨k1, k2, k3⟩ := h1.1 (.inl h2)
        exact ⟨k1, by omega, k3⟩
      · by_cases hta : t < a
        · obtain ⟨k1, k2, k3⟩ := h1.1 (.inr ⟨h2.1, by omega⟩)
          exact ⟨k1, by omega, k3⟩
        · exact ⟨by omega, by omega, by rw [his t (by omega) (by omega)]; exact hy⟩
    · rintro ⟨h2, h3, h4⟩
      by_cases hta : t < a
      · rcases h1.2 ⟨h2, hta, h4⟩ with k | k
        · exact .inl k
        · exact .inr ⟨k.1, by omega⟩
      · exact .inr ⟨by omega, h3⟩
  · rcases List.mem_append.1 hy with hy | hy
    · have := h.low y (List.mem_append_left _ hy); omega
    · obtain rfl : y = _ := by simpa using hy
      exact Int.le_refl _
theorem Between.next (h : Between is b a out) (hba : b ≤ a) (hac : a < c) (his : ∀ t, a ≤ t → t < c → is t = is a) (hy : is a = true) (hz : ∀ y, y ∈ out → y.t < a) : Between is b c (out ++ [⟨a, c⟩]) := by
  refine ⟨h.norm.snoc hac hz, fun t => ?_, fun y hy => ?_⟩
  · have h1 := h.has t
    rw [has_snoc, h1]
    simp only
    constructor
    · rintro (⟨k1, k2, k3⟩ | h2)
      · exact ⟨k1, by omega, k3⟩
      · exact ⟨by omega, by omega, by rw [his t (by omega) (by omega)]; exact hy⟩
    · rintro ⟨h2, h3, h4⟩
      by_cases hta : t < a
      · exact .inl ⟨h2, hta, h4⟩
      · exact .inr ⟨by omega, h3⟩
  · rcases List.mem_append.1 hy with hy | hy
    · have := h.low y hy; omega
    · obtain rfl : y = _ := by simpa using hy
      exact Int.le_refl _
end
end Go.Proofs.Ytdpibehpmghghaa
