/- Several texts in one: Own2, Sys, Spec2, Spec3, Journeys. -/
import Derived.Deep.AppendLies
import Derived.Deep.RegionHeldLaw
import Derived.Test.YtdpibehpmghghaaDoorBd6508cabd72
import Derived.Test.YtdpibehpmghghaaDoorBdf0a653a3c9
import Derived.Test.YtdpibehpmghghaaDoorBd3ad2f3bfb1
/- More on lists that a call owns: an append of several elements, a list that a literal makes. -/
namespace Go.Proofs.YtdpibehpmghghaaDoor
open Go.RowKit

/-- A block of another kind than a list's rows is not the list's. -/
theorem Own.other {α : Type} {enc : α → List Value} {sz : Nat} {w : World} {base : Nat} {e t : TypeId} {v : Value} {l : List α} {b : Nat} {cs : Array Value} (h : Own enc sz w base e v l) (hb : Blk w b t cs) (ht : t ≠ e) : some b ≠ v.ownBlock := by
  rcases h.2 with ⟨rfl, _⟩ | ⟨g, cap, cur, rfl, _, hh, _⟩
  · simp [Value.ownBlock]
  · intro hbg
    simp only [Value.ownBlock, Option.some.injEq] at hbg
    subst hbg
    unfold Blk at hb
    rw [hh] at hb
    cases hb
    exact ht rfl
theorem wpList_append_els {P : Program} {ops : Array Oper} {rest : List Oper} {o : Oper} {a : Act} {Q : Exit → Act → World → Prop} {w0 : World} {α : Type} {enc : α → List Value} (hgd : o.guard = none) (s x : Operand) (t : TypeId)
    (ho : o.op = .call { callee := .builtin .append, args := #[s, x], argTypes := #[t, t] })
    (base : Nat) (e : TypeId) (i : TypeInfo) (z : Value) (size bytes : Nat) (ht : P.underlying t = some (.slice e)) (hi : P.info? e = some i) (hz : i.zero = some z)
    (hsize : i.size = size) (hby : i.bytes = bytes) (hzs : z.cells.size = size) (hsz : 0 < size)
    (v : Value) (l : List α) (ys : List α) (m : Nat) (hm : ys.length = m) (hs : a.eval s = v) (hown : Own enc size w0 base e v l) (cs : Array Value) (hcy : cs.toList = ys.flatMap enc) (k : Nat) (hk : k = w0.heap.size) (hx : a.eval x = .slice (some ⟨k, 0, none⟩) m m) (hcs : cs.size = m * size)
    (h1 : ∀ u ∈ cs.toList, u.oneCell' = true) (h63 : l.length + m ≤ 1000000) (hby2 : bytes ≤ 1000) (hbase : base ≤ w0.heap.size)
    (h : ∀ v' w', Own enc size w' base e v' (l ++ ys) → Below base w0 w' → (∀ b t' cs', Blk w0 b t' cs' → t' ≠ e → Blk w' b t' cs') → wpList P ops Q rest (a.put o.dst v') w') : wpList P ops Q (o :: rest) a (w0.alloc (.cells cs e)) := by
  subst hk
  have hb2 : (l.length + m) * bytes ≤ 140737488355328 := Nat.le_trans (Nat.mul_le_mul h63 hby2) (by decide)
  refine wpList_append_own _ hgd s x t ho base e i z size bytes ht hi hz hsize hby hzs hsz v l.length (l.flatMap enc) hs (World.ownsRow.alloc hown _) ⟨w0.heap.size, 0, none⟩ m m cs.toList hx (by simp [hcs])
    ?_ h1 (by unfold maxLen; omega) hb2 (by simp; omega) ?_
  · intro j u hu
    rw [Go.WideShapes.add_plain, cell_of_row _ _ _ cs e (0, 0) (heap_alloc_new w0 _)]
    simpa using hu
  · intro v' w' h2 h3 _
    refine h v' w' ?_ ?_ fun b t' cs' hB ht' => (hB.alloc _).grown h3 (hown.other hB ht')
    · show w'.ownsRow base e size v' (l ++ ys).length ((l ++ ys).flatMap enc)
      rw [List.flatMap_append, List.length_append, hm]
      simpa [hcy] using h2
    · have hb : Below base w0 (w0.alloc (.cells cs e)) := (Below.refl _ _).alloc hbase _
      exact hb.grown h3 (by simp; omega) fun k hk => (World.ownsRow.lt hown k hk).1
/-- What a literal makes is owned. -/
theorem Own.lit {α : Type} {enc : α → List Value} {sz : Nat} {w : World} {base : Nat} {e : TypeId} {cs : Array Value} {l : List α} {n m : Nat} (hn : n = w.heap.size) (hb : base ≤ n) (hl : l.length = m) (hcs : cs.toList = l.flatMap enc) (hsz : cs.size = m * sz) (hm : m ≤ maxLen) :
    Own enc sz (w.alloc (.cells cs e)) base e (.slice (some ⟨n, 0, none⟩) m m) l := by
  subst hn
  refine ⟨by rw [← hcs, hl]; simpa using hsz, .inr ⟨w.heap.size, m, cs, by rw [hl], hb, heap_alloc_new w _, by omega, hm, hsz, ?_⟩⟩
  rw [← hcs, hl, List.take_of_length_le]
  simp [hsz]
theorem below_drew {B : Nat} {a w : World} (h : Below B a w) : Below B a w.drew := ⟨h.os, h.tape, h.output, h.size, h.block⟩
theorem cell_keepB {B : Nat} {w w' : World} {p : Addr} {v : Value} (hb : Below B w w') (hp : p.block < B) (h : w.cell? p = some v) : w'.cell? p = some v := (hb.cell hp).trans h
theorem keepB4 {B : Nat} {w w' : World} {p0 p1 p2 p3 : Addr} {v0 v1 v2 v3 : Value} (hb : Below B w w') (h0 : p0.block < B) (h1 : p1.block < B) (h2 : p2.block < B) (h3 : p3.block < B)
    (h : w.cell? p0 = some v0 ∧ w.cell? p1 = some v1 ∧ w.cell? p2 = some v2 ∧ w.cell? p3 = some v3) : w'.cell? p0 = some v0 ∧ w'.cell? p1 = some v1 ∧ w'.cell? p2 = some v2 ∧ w'.cell? p3 = some v3 := by
  obtain ⟨k0, k1, k2, k3⟩ := h
  exact ⟨cell_keepB hb h0 k0, cell_keepB hb h1 k1, cell_keepB hb h2 k2, cell_keepB hb h3 k3⟩
theorem keepB5 {B : Nat} {w w' : World} {p0 p1 p2 p3 p4 : Addr} {v0 v1 v2 v3 v4 : Value} (hb : Below B w w') (h0 : p0.block < B) (h1 : p1.block < B) (h2 : p2.block < B) (h3 : p3.block < B) (h4 : p4.block < B)
    (h : w.cell? p0 = some v0 ∧ w.cell? p1 = some v1 ∧ w.cell? p2 = some v2 ∧ w.cell? p3 = some v3 ∧ w.cell? p4 = some v4) : w'.cell? p0 = some v0 ∧ w'.cell? p1 = some v1 ∧ w'.cell? p2 = some v2 ∧ w'.cell? p3 = some v3 ∧ w'.cell? p4 = some v4 := by
  obtain ⟨k0, k1, k2, k3, k4⟩ := h
  exact ⟨cell_keepB hb h0 k0, cell_keepB hb h1 k1, cell_keepB hb h2 k2, cell_keepB hb h3 k3, cell_keepB hb h4 k4⟩
/-- An append of several elements at a step of a region that draws its order. -/
theorem step_append_els {P : Program} {w : World} {ops : Array Oper} {o : Oper} {a : Act} {K : Act → World → Prop} {Q : Exit → Act → World → Prop} {E : Prop} {α : Type} {enc : α → List Value} (hgd : o.guard = none) (s x : Operand) (t : TypeId)
    (ho : o.op = .call { callee := .builtin .append, args := #[s, x], argTypes := #[t, t] })
    (base : Nat) (e : TypeId) (i : TypeInfo) (z : Value) (size bytes : Nat) (ht : P.underlying t = some (.slice e)) (hi : P.info? e = some i) (hz : i.zero = some z)
    (hsize : i.size = size) (hby : i.bytes = bytes) (hzs : z.cells.size = size) (hsz : 0 < size)
    (v : Value) (l : List α) (ys : List α) (m : Nat) (hm : ys.length = m) (hm0 : 0 < m) (hs : a.eval s = v) (hown : Own enc size w base e v l) (cs : Array Value) (hcy : cs.toList = ys.flatMap enc) (k : Nat) (hk : Blk w k e cs) (hx : a.eval x = .slice (some ⟨k, 0, none⟩) m m) (hcs : cs.size = m * size)
    (h1 : ∀ u ∈ cs.toList, u.oneCell' = true) (h63 : l.length + m ≤ 1000000) (hby2 : bytes ≤ 1000) (hbase : base ≤ w.heap.size)
    (h : ∀ v' w', Own enc size w' base e v' (l ++ ys) → Below base w w' → (∀ b t' cs', Blk w b t' cs' → t' ≠ e → Blk w' b t' cs') → K (a.put o.dst v') w') :
    if Region.wanted o (yielded ops a.tmps) = true then Oper.wp P o a w K Q else E := by
  have hb2 : (l.length + m) * bytes ≤ 140737488355328 := Nat.le_trans (Nat.mul_le_mul h63 hby2) (by decide)
  refine step_append_lies w hgd s x t ho base e i z size bytes ht hi hz hsize hby hzs hsz v l.length (l.flatMap enc) hs hown ⟨k, 0, none⟩ m m cs.toList hx (by simp [hcs])
    (World.news_of_block hk) h1 hm0 (by unfold maxLen; omega) hb2 hbase _ rfl ?_
  intro g cap w' h2 h3 _ _
  refine h _ w' ?_ ?_ fun b t' cs' hB ht' => hB.grown h3 (hown.other hB ht')
  · show w'.ownsRow base e size _ (l ++ ys).length ((l ++ ys).flatMap enc)
    rw [List.flatMap_append, List.length_append, hm]
    simpa [hcy] using h2
  · exact (Below.refl base w).grown h3 hbase fun k hk => (World.ownsRow.lt hown k hk).1
end Go.Proofs.YtdpibehpmghghaaDoor
/- Systems of inequalities along arcs and their greatest solutions; no program in sight. -/
namespace Go.Proofs.YtdpibehpmghghaaDoor

structure Arc (ι : Type) where
  a : ι
  b : ι
  f : Int → Int
section
variable {ι : Type}
def Sol (A : Arc ι → Prop) (init d : ι → Int) : Prop := (∀ i, d i ≤ init i) ∧ ∀ x, A x → d x.b ≤ x.f (d x.a)
def Above (A : Arc ι → Prop) (init d : ι → Int) : Prop := ∀ e, Sol A init e → ∀ i, e i ≤ d i
/-- The greatest solution. -/
def Best (A : Arc ι → Prop) (init d : ι → Int) : Prop := Sol A init d ∧ Above A init d
def Mono (f : Int → Int) : Prop := ∀ s t, s ≤ t → f s ≤ f t
variable {A : Arc ι → Prop} {init d e : ι → Int}
theorem Best.eq (h : Best A init d) (k : Best A init e) : d = e := funext fun i => Int.le_antisymm (k.2 d h.1 i) (h.2 e k.1 i)
theorem above_init : Above A init init := fun _ h i => h.1 i
variable [DecidableEq ι]
def upd (d : ι → Int) (i : ι) (x : Int) : ι → Int := fun j => if j = i then x else d j
theorem upd_at (d : ι → Int) (i : ι) (x : Int) : upd d i x i = x := by simp [upd]
theorem upd_ne (d : ι → Int) {i j : ι} (x : Int) (h : ¬ j = i) : upd d i x j = d j := by simp [upd, h]
theorem upd_same (d : ι → Int) (i : ι) : upd d i (d i) = d := by funext j; by_cases h : j = i <;> simp [upd, h]
theorem Above.upd {d' : ι → Int} (h : Above A init d) (h' : Above A init d') {x : Arc ι} (hx : A x) (hm : Mono x.f) {n : Int} (hn : x.f (d' x.a) ≤ n) : Above A init (upd d x.b (min (d x.b) n)) := by
  intro e he i
  by_cases hi : i = x.b
  · subst hi
    rw [upd_at]
    have h1 := h e he x.b
    have h2 := he.2 x hx
    have h3 := hm _ _ (h' e he x.a)
    omega
  · rw [upd_ne _ _ hi]; exact h e he i
theorem Best.tight (h : Best A init d) (hm : ∀ x, A x → Mono x.f) {j : ι} (hj : d j < init j) : ∃ x, A x ∧ x.b = j ∧ x.f (d x.a) = d j := by
  refine Classical.byContradiction fun hno => ?_
  have hle : ∀ i, d i ≤ Go.Proofs.YtdpibehpmghghaaDoor.upd d j (d j + 1) i := fun i => by
    by_cases hi : i = j
    · subst hi; rw [upd_at]; omega
    · rw [upd_ne _ _ hi]; exact Int.le_refl _
  have hs : Sol A init (Go.Proofs.YtdpibehpmghghaaDoor.upd d j (d j + 1)) := by
    refine ⟨fun i => ?_, fun x hx => ?_⟩
    · by_cases hi : i = j
      · subst hi; rw [upd_at]; omega
      · rw [upd_ne _ _ hi]; exact h.1.1 i
    · have h1 := h.1.2 x hx
      have h2 := hm x hx _ _ (hle x.a)
      by_cases hi : x.b = j
      · rw [hi, upd_at]
        have h3 : ¬ x.f (d x.a) = d j := fun e => hno ⟨x, hx, hi, e⟩
        rw [hi] at h1
        omega
      · rw [upd_ne _ _ hi]; omega
  have := h.2 _ hs j
  rw [upd_at] at this
  omega
omit [DecidableEq ι] in
/-- What only comes from far away is far away. -/
theorem Best.far (h : Best A init d) {I : Int} (hI : ∀ i, d i ≤ I) (hm : ∀ x, A x → Mono x.f) (hf : ∀ x, A x → I ≤ x.f I) (S : ι → Prop) (hS : ∀ x, A x → S x.b → S x.a) (hi : ∀ i, S i → I ≤ init i) : ∀ i, S i → d i = I := by
  intro i hi0
  have hs : Sol A init (fun j => open Classical in if S j then I else d j) := by
    refine ⟨fun j => ?_, fun x hx => ?_⟩
    · by_cases hj : S j
      · simp only [if_pos hj]; exact hi j hj
      · simp only [if_neg hj]; exact h.1.1 j
    · have hge : d x.a ≤ (open Classical in if S x.a then I else d x.a) := by
        by_cases ha : S x.a
        · rw [if_pos ha]; exact hI _
        · rw [if_neg ha]; exact Int.le_refl _
      by_cases hb : S x.b
      · simp only [if_pos hb, if_pos (hS x hx hb)]; exact hf x hx
      · simp only [if_neg hb]
        exact Int.le_trans (h.1.2 x hx) (hm x hx _ _ hge)
  have := h.2 _ hs i
  simp only [if_pos hi0] at this
  exact Int.le_antisymm (hI i) this
end
/-- A bounded set of numbers has a greatest one. -/
theorem greatest {P : Int → Prop} {B : Int} (hB : ∀ x, P x → x ≤ B) (h : ∃ x, P x) : ∃ m, P m ∧ ∀ x, P x → x ≤ m := by
  obtain ⟨x, hx⟩ := h
  obtain ⟨k, hk⟩ : ∃ k : Nat, k = (B - x).toNat := ⟨_, rfl⟩
  induction k using Nat.strongRecOn generalizing x with
  | ind k ih =>
    by_cases hm : ∀ y, P y → y ≤ x
    · exact ⟨x, hx, hm⟩
    · have ⟨y, hy⟩ := Classical.not_forall.1 hm
      have ⟨h1, h2⟩ := Classical.not_imp.1 hy
      have h3 := hB y h1
      have h4 := hB x hx
      exact ih (B - y).toNat (by omega) y h1 rfl
/-- There is a greatest solution, if there is one at all. -/
theorem Best.ex {ι : Type} {A : Arc ι → Prop} {init : ι → Int} (hm : ∀ x, A x → Mono x.f) (h : ∃ e, Sol A init e) : ∃ d, Best A init d := by
  obtain ⟨e0, h0⟩ := h
  have hg : ∀ i, ∃ m, (∃ e, Sol A init e ∧ e i = m) ∧ ∀ x, (∃ e, Sol A init e ∧ e i = x) → x ≤ m := fun i =>
    greatest (B := init i) (fun x ⟨e, he, hx⟩ => by rw [← hx]; exact he.1 i) ⟨_, e0, h0, rfl⟩
  obtain ⟨d, hd⟩ := Classical.axiomOfChoice hg
  refine ⟨d, ⟨fun i => ?_, fun x hx => ?_⟩, fun e he i => (hd i).2 _ ⟨e, he, rfl⟩⟩
  · obtain ⟨e, he, hx⟩ := (hd i).1
    rw [← hx]; exact he.1 i
  · obtain ⟨e, he, hx'⟩ := (hd x.b).1
    rw [← hx']
    exact Int.le_trans (he.2 x hx) (hm x hx _ _ ((hd x.a).2 _ ⟨e, he, rfl⟩))

/-! ### lists as functions -/
def gi (l : List Int) (v : Nat) : Int := l.getD v 0
theorem gi_of {l : List Int} {v : Nat} {x : Int} (h : l[v]? = some x) : gi l v = x := by simp [gi, List.getD, h]
theorem gi_get {l : List Int} {v : Nat} (h : v < l.length) : l[v]? = some (gi l v) := by simp [gi, List.getD, h]
theorem gi_far {l : List Int} {v : Nat} (h : l.length ≤ v) : gi l v = 0 := by simp [gi, List.getD, h]
theorem gi_set {l : List Int} {i : Nat} (h : i < l.length) (x : Int) : gi (l.set i x) = upd (gi l) i x := by
  funext j
  by_cases hj : j = i
  · subst hj; rw [upd_at]; exact gi_of (by simp [h])
  · rw [upd_ne _ _ hj]
    simp only [gi, List.getD]
    rw [List.getElem?_set_ne (fun h => hj h.symm)]
theorem gi_ext {l r : List Int} (hl : l.length = r.length) (h : gi l = gi r) : l = r := by
  refine List.ext_getElem? fun i => ?_
  by_cases hi : i < l.length
  · rw [gi_get hi, gi_get (by omega), h]
  · rw [List.getElem?_eq_none (by omega), List.getElem?_eq_none (by omega)]
theorem gi_eq_of {l r : List Int} (hl : l.length = r.length) (h : ∀ i, i < l.length → gi l i = gi r i) : l = r := by
  refine gi_ext hl (funext fun i => ?_)
  by_cases hi : i < l.length
  · exact h i hi
  · rw [gi_far (by omega), gi_far (by omega)]
/-- How much there is left to lose. -/
def total (l : List Int) : Nat := (l.map Int.toNat).sum
theorem total_set {l : List Int} {i : Nat} (h : i < l.length) (x : Int) : total (l.set i x) + (gi l i).toNat = total l + x.toNat := by
  induction l generalizing i with
  | nil => simp at h
  | cons y l ih =>
    cases i with
    | zero => simp [total, gi]; omega
    | succ i =>
      have := ih (i := i) (by simpa using h)
      simp only [List.set_cons_succ, total, List.map_cons, List.sum_cons] at *
      have e : gi (y :: l) (i + 1) = gi l i := by simp [gi]
      rw [e]
      omega
theorem total_le {l r : List Int} (hl : l.length = r.length) (h : ∀ i, gi l i ≤ gi r i) : total l ≤ total r := by
  induction l generalizing r with
  | nil => simp [total]
  | cons x l ih =>
    cases r with
    | nil => simp at hl
    | cons y r =>
      have h0 := h 0
      have h1 := ih (r := r) (by simpa using hl) fun i => by have := h (i + 1); simpa [gi] using this
      simp [gi] at h0
      simp only [total, List.map_cons, List.sum_cons] at *
      omega
theorem total_lt {l r : List Int} (hl : l.length = r.length) (h : ∀ i, gi l i ≤ gi r i) (h0 : ∀ i, 0 ≤ gi l i) (hne : ¬ l = r) : total l < total r := by
  induction l generalizing r with
  | nil =>
    cases r with
    | nil => exact absurd rfl hne
    | cons y r => simp at hl
  | cons x l ih =>
    cases r with
    | nil => simp at hl
    | cons y r =>
      have k0 := h 0
      have k1 := h0 0
      have hs : ∀ i, gi l i ≤ gi r i := fun i => by have := h (i + 1); simpa [gi] using this
      have hp : ∀ i, 0 ≤ gi l i := fun i => by have := h0 (i + 1); simpa [gi] using this
      simp [gi] at k0 k1
      have hl' : l.length = r.length := by simpa using hl
      have h2 := total_le hl' hs
      by_cases e : l = r
      · have : ¬ x = y := fun e' => hne (by rw [e, e'])
        simp only [total, List.map_cons, List.sum_cons] at *
        omega
      · have := ih hl' hs hp e
        simp only [total, List.map_cons, List.sum_cons] at *
        omega

/-! ### one vertex after the other, the nearest one first -/
section
variable {arcs : List (Arc Nat)} {init d d0 : Nat → Int} {done : Nat → Bool} {n : Nat} {I : Int}
/-- What holds whenever all of a vertex's arcs have been looked at. -/
structure Near (arcs : List (Arc Nat)) (n : Nat) (I : Int) (init d : Nat → Int) (done : Nat → Bool) : Prop where
  le : ∀ i, d i ≤ init i
  big : ∀ i, i < n → d i ≤ I
  above : Above (· ∈ arcs) init d
  near : ∀ u v, v < n → done u = true → done v = false → d u ≤ d v
  told : ∀ x, x ∈ arcs → done x.a = true → d x.b ≤ x.f (d x.a)
/-- .. in the midst of a vertex's arcs. -/
structure Mid (arcs : List (Arc Nat)) (n : Nat) (I : Int) (init d0 d : Nat → Int) (done : Nat → Bool) (c k : Nat) : Prop where
  le : ∀ i, d i ≤ d0 i
  above : Above (· ∈ arcs) init d
  same : d c = d0 c
  olds : ∀ u, done u = true → d u = d0 u
  news : ∀ v, v < n → done v = false → d c ≤ d v
  told : ∀ x, x ∈ arcs.take k → x.a = c → d x.b ≤ x.f (d c)
def mark (done : Nat → Bool) (c : Nat) : Nat → Bool := fun j => if j = c then true else done j
theorem Near.begin (h : Near arcs n I init d done) {c : Nat} (hm : ∀ v, v < n → done v = false → d c ≤ d v) : Mid arcs n I init d d done c 0 :=
  ⟨fun _ => Int.le_refl _, h.above, rfl, fun _ _ => rfl, hm, fun x hx => by simp at hx⟩
theorem Mid.skip {c k : Nat} (h : Mid arcs n I init d0 d done c k) {x : Arc Nat} (hx : arcs[k]? = some x) (hc : ¬ x.a = c) : Mid arcs n I init d0 d done c (k + 1) :=
  ⟨h.le, h.above, h.same, h.olds, h.news, fun y hy hyc => by
    rw [List.take_add_one, hx] at hy
    rcases List.mem_append.1 hy with hy | hy
    · exact h.told y hy hyc
    · obtain rfl : y = x := by simpa using hy
      exact absurd hyc hc⟩
theorem Mid.step {c k : Nat} (h : Mid arcs n I init d0 d done c k) (h0 : Near arcs n I init d0 done) (hcn : c < n) (hdc : done c = false) {x : Arc Nat} (hx : arcs[k]? = some x) (hc : x.a = c) (hxm : Mono x.f) (hge : d c ≤ x.f (d c)) :
    Mid arcs n I init d0 (upd d x.b (min (d x.b) (x.f (d c)))) done c (k + 1) := by
  have hmem : x ∈ arcs := List.mem_of_getElem? hx
  have hle : ∀ i, upd d x.b (min (d x.b) (x.f (d c))) i ≤ d i := fun i => by
    by_cases hi : i = x.b
    · subst hi; rw [upd_at]; omega
    · rw [upd_ne _ _ hi]; exact Int.le_refl _
  have hcc : upd d x.b (min (d x.b) (x.f (d c))) c = d c := by
    by_cases hi : c = x.b
    · rw [← hi, upd_at]; omega
    · rw [upd_ne _ _ hi]
  refine ⟨fun i => Int.le_trans (hle i) (h.le i), h.above.upd h.above hmem hxm (by rw [hc]; exact Int.le_refl _), by rw [hcc]; exact h.same, fun u hu => ?_, fun v hv hd => ?_, fun y hy hyc => ?_⟩
  · have h1 := h0.near u c hcn hu hdc
    have h2 := h.olds u hu
    have h3 := h.same
    by_cases hi : u = x.b
    · rw [hi, upd_at, ← hi]; omega
    · rw [upd_ne _ _ hi]; exact h2
  · rw [hcc]
    have h1 := h.news v hv hd
    by_cases hi : v = x.b
    · rw [hi, upd_at, ← hi]; omega
    · rw [upd_ne _ _ hi]; exact h1
  · rw [hcc]
    rw [List.take_add_one, hx] at hy
    rcases List.mem_append.1 hy with hy | hy
    · exact Int.le_trans (hle _) (h.told y hy hyc)
    · obtain rfl : y = x := by simpa using hy
      rw [upd_at]
      omega
theorem Mid.stay {c k : Nat} (h : Mid arcs n I init d0 d done c k) {x : Arc Nat} (hx : arcs[k]? = some x) (hge : d x.b ≤ x.f (d c)) : Mid arcs n I init d0 d done c (k + 1) :=
  ⟨h.le, h.above, h.same, h.olds, h.news, fun y hy hyc => by
    rw [List.take_add_one, hx] at hy
    rcases List.mem_append.1 hy with hy | hy
    · exact h.told y hy hyc
    · obtain rfl : y = x := by simpa using hy
      exact hge⟩
theorem Mid.fin {c k : Nat} (h : Mid arcs n I init d0 d done c k) (h0 : Near arcs n I init d0 done) (hcn : c < n) (hdc : done c = false) (hk : arcs.length ≤ k) : Near arcs n I init d (mark done c) := by
  refine ⟨fun i => Int.le_trans (h.le i) (h0.le i), fun i hi => Int.le_trans (h.le i) (h0.big i hi), h.above, fun u v hv hu hd => ?_, fun x hx hd => ?_⟩
  · have hd' : done v = false := by
      simp only [mark] at hd
      split at hd
      · simp at hd
      · exact hd
    simp only [mark] at hu
    split at hu
    · rename_i e; rw [e]; exact h.news v hv hd'
    · have h1 := h0.near u c hcn hu hdc
      have h2 := h.olds u hu
      have h3 := h.same
      have h4 := h.news v hv hd'
      omega
  · by_cases e : x.a = c
    · rw [e]; exact h.told x (by rw [List.take_of_length_le hk]; exact hx) e
    · simp only [mark, if_neg e] at hd
      rw [h.olds _ hd]
      exact Int.le_trans (h.le _) (h0.told x hx hd)
theorem Near.best (h : Near arcs n I init d done) (hall : ∀ v, v < n → done v = true ∨ I ≤ d v) (hb : ∀ x, x ∈ arcs → x.a < n ∧ x.b < n ∧ Mono x.f ∧ I ≤ x.f I) : Best (· ∈ arcs) init d := by
  refine ⟨⟨h.le, fun x hx => ?_⟩, h.above⟩
  obtain ⟨h1, h2, h3, h4⟩ := hb x hx
  rcases hall x.a h1 with hd | hd
  · exact h.told x hx hd
  · have := h3 _ _ hd
    have := h.big x.b h2
    omega
end
end Go.Proofs.YtdpibehpmghghaaDoor
/- Journeys, as plain Lean functions. -/
namespace Go.Proofs.YtdpibehpmghghaaDoor
open Go.RowKit

/-- One hop from a place: where one is then, when, and at what cost. -/
def hopTo (g : GraphD) (v t : Int) (h : HopD) : Option (Int × Int × Int) :=
  if inB h.edge 0 (g.edges.length - 1) = true then (match g.edges[h.edge.toNat]? with
    | some x => if x.a = v ∧ t ≤ h.depart then (arrive g x h.depart).map fun p => (x.b, p.2, p.1.cost) else none
    | none => none) else none
theorem hopTo_far {g : GraphD} {v t : Int} {h : HopD} (h1 : inB h.edge 0 (g.edges.length - 1) = false) : hopTo g v t h = none := by unfold hopTo; rw [if_neg (by simp [h1])]
theorem hopTo_in {g : GraphD} {v t : Int} {h : HopD} {x : EdgeD} (h1 : inB h.edge 0 (g.edges.length - 1) = true) (hx : g.edges[h.edge.toNat]? = some x) :
    hopTo g v t h = if x.a = v ∧ t ≤ h.depart then (arrive g x h.depart).map fun p => (x.b, p.2, p.1.cost) else none := by
  unfold hopTo; rw [if_pos h1, hx]
theorem hopTo_not {g : GraphD} {v t : Int} {h : HopD} {x : EdgeD} (h1 : inB h.edge 0 (g.edges.length - 1) = true) (hx : g.edges[h.edge.toNat]? = some x) (h2 : ¬ (x.a = v ∧ t ≤ h.depart)) : hopTo g v t h = none := by
  rw [hopTo_in h1 hx, if_neg h2]
theorem hopTo_none {g : GraphD} {v t : Int} {h : HopD} {x : EdgeD} (h1 : inB h.edge 0 (g.edges.length - 1) = true) (hx : g.edges[h.edge.toNat]? = some x) (h3 : arrive g x h.depart = none) : hopTo g v t h = none := by
  rw [hopTo_in h1 hx]; split <;> simp [h3]
theorem hopTo_some {g : GraphD} {v t to : Int} {h : HopD} {x : EdgeD} {l : LegD} (h1 : inB h.edge 0 (g.edges.length - 1) = true) (hx : g.edges[h.edge.toNat]? = some x) (h2 : x.a = v ∧ t ≤ h.depart)
    (h3 : arrive g x h.depart = some (l, to)) : hopTo g v t h = some (x.b, to, l.cost) := by
  rw [hopTo_in h1 hx, if_pos h2, h3]; rfl
def goL (g : GraphD) : Int → Int → Int → List HopD → Option (Int × Int × Int)
  | v, t, c, [] => some (v, t, c)
  | v, t, c, h :: r => match hopTo g v t h with
    | some p => goL g p.1 p.2.1 (c + p.2.2) r
    | none => none
theorem goL_none {g : GraphD} {v t c : Int} {h : HopD} {r : List HopD} (hh : hopTo g v t h = none) : goL g v t c (h :: r) = none := by simp [goL, hh]
theorem goL_some {g : GraphD} {v t c a b d : Int} {h : HopD} {r : List HopD} (hh : hopTo g v t h = some (a, b, d)) : goL g v t c (h :: r) = goL g a b (c + d) r := by simp [goL, hh]
/-- P15: Go, its four results. -/
def goR (g : GraphD) (v t : Int) (l : List HopD) : Int × Int × Int × Int :=
  if placeErr g v t = 0 then (if 500 < l.length then (0, 0, 0, 2) else if aliveB g v t = true then (match goL g v t 0 l with
    | some p => (p.1, p.2.1, p.2.2, 0)
    | none => (0, 0, 0, 5)) else (0, 0, 0, 5)) else (0, 0, 0, placeErr g v t)
theorem goR_place {g : GraphD} {v t : Int} {l : List HopD} (h : ¬ placeErr g v t = 0) : goR g v t l = (0, 0, 0, placeErr g v t) := by unfold goR; rw [if_neg h]
theorem goR_large {g : GraphD} {v t : Int} {l : List HopD} (h : placeErr g v t = 0) (h2 : 500 < l.length) : goR g v t l = (0, 0, 0, 2) := by unfold goR; rw [if_pos h, if_pos h2]
theorem goR_dead {g : GraphD} {v t : Int} {l : List HopD} (h : placeErr g v t = 0) (h2 : ¬ 500 < l.length) (h3 : aliveB g v t = false) : goR g v t l = (0, 0, 0, 5) := by
  unfold goR; rw [if_pos h, if_neg h2, if_neg (by simp [h3])]
theorem goR_none {g : GraphD} {v t : Int} {l : List HopD} (h : placeErr g v t = 0) (h2 : ¬ 500 < l.length) (h3 : aliveB g v t = true) (h4 : goL g v t 0 l = none) : goR g v t l = (0, 0, 0, 5) := by
  unfold goR; rw [if_pos h, if_neg h2, if_pos h3, h4]
theorem goR_some {g : GraphD} {v t a b c : Int} {l : List HopD} (h : placeErr g v t = 0) (h2 : ¬ 500 < l.length) (h3 : aliveB g v t = true) (h4 : goL g v t 0 l = some (a, b, c)) : goR g v t l = (a, b, c, 0) := by
  unfold goR; rw [if_pos h, if_neg h2, if_pos h3, h4]
/-- The value of the four results. -/
def goV (p : Int × Int × Int × Int) : Value := .tuple #[.int .i64 p.1, .int .i64 p.2.1, .int .i64 p.2.2.1, .int .i64 p.2.2.2]
theorem arrive_some {g : GraphD} {x : EdgeD} {t to : Int} {l : LegD} (h : arrive g x t = some (l, to)) : l ∈ x.legs ∧ l.f ≤ t ∧ t < l.t ∧ to = t + l.time ∧ to < g.h ∧ aliveB g x.a t = true ∧ aliveB g x.b to = true := by
  unfold arrive at h
  cases hl : leaves t x.legs with
  | none => rw [hl] at h; simp at h
  | some y =>
    rw [hl] at h
    simp only at h
    split at h
    · rename_i h1
      simp only [Option.some.injEq, Prod.mk.injEq] at h
      obtain ⟨rfl, rfl⟩ := h
      have := leaves_mem hl
      exact ⟨this.1, this.2.1, this.2.2, rfl, h1.2.1, h1.1, h1.2.2⟩
    · simp at h
end Go.Proofs.YtdpibehpmghghaaDoor
/- The hops that leave a place, as plain Lean functions. -/
namespace Go.Proofs.YtdpibehpmghghaaDoor
open Go.RowKit

def hopEnc (h : HopD) : List Value := [.int .i64 h.edge, .int .i64 h.depart]
/-- Can one leave along an edge from v at d? -/
def leavesB (g : GraphD) (v d : Int) (x : EdgeD) : Bool := (arrive g x d).isSome && decide (x.a = v)
theorem leavesB_none {g : GraphD} {v d : Int} {x : EdgeD} (h : arrive g x d = none) : leavesB g v d x = false := by simp [leavesB, h]
theorem leavesB_some {g : GraphD} {v d : Int} {x : EdgeD} {p : LegD × Int} (h : arrive g x d = some p) (h2 : x.a = v) : leavesB g v d x = true := by simp [leavesB, h, h2]
theorem leavesB_other {g : GraphD} {v d : Int} {x : EdgeD} (h2 : ¬ x.a = v) : leavesB g v d x = false := by simp [leavesB, h2]
/-- The hops of one time, by edges from number i on. -/
def outsAt (g : GraphD) (v d : Int) : Nat → List EdgeD → List HopD
  | _, [] => []
  | i, x :: r => if leavesB g v d x = true then ⟨i, d⟩ :: outsAt g v d (i + 1) r else outsAt g v d (i + 1) r
theorem outsAt_yes {g : GraphD} {v d : Int} {i : Nat} {x : EdgeD} {r : List EdgeD} (h : leavesB g v d x = true) : outsAt g v d i (x :: r) = ⟨i, d⟩ :: outsAt g v d (i + 1) r := by rw [outsAt, if_pos h]
theorem outsAt_no {g : GraphD} {v d : Int} {i : Nat} {x : EdgeD} {r : List EdgeD} (h : leavesB g v d x = false) : outsAt g v d i (x :: r) = outsAt g v d (i + 1) r := by rw [outsAt, if_neg (by simp [h])]
/-- The hops of n times from d on. -/
def outsL (g : GraphD) (v : Int) : Nat → Int → List HopD
  | 0, _ => []
  | n + 1, d => outsAt g v d 0 g.edges ++ outsL g v n (d + 1)
def outs (g : GraphD) (v t : Int) : List HopD := if aliveB g v t = true then outsL g v (g.h - t).toNat t else []
/-- P15: Out, its list and its error. -/
def outR (g : GraphD) (v t : Int) : List HopD := if placeErr g v t = 0 then outs g v t else []

theorem outsAt_mem {g : GraphD} {v d : Int} {h : HopD} : ∀ (l : List EdgeD) (i : Nat), h ∈ outsAt g v d i l ↔ h.depart = d ∧ ∃ k x, l[k]? = some x ∧ h.edge = ((i + k : Nat) : Int) ∧ leavesB g v d x = true
  | [], i => by simp [outsAt]
  | y :: l, i => by
    have ih := outsAt_mem (g := g) (v := v) (d := d) (h := h) l (i + 1)
    have key : (∃ k x, (y :: l)[k]? = some x ∧ h.edge = ((i + k : Nat) : Int) ∧ leavesB g v d x = true) ↔ (h.edge = (i : Int) ∧ leavesB g v d y = true) ∨ ∃ k x, l[k]? = some x ∧ h.edge = ((i + 1 + k : Nat) : Int) ∧ leavesB g v d x = true := by
      constructor
      · rintro ⟨k, x, hk, he, hl⟩
        cases k with
        | zero =>
          have hyx : y = x := by simpa using hk
          exact .inl ⟨by simpa using he, by rw [hyx]; exact hl⟩
        | succ k => exact .inr ⟨k, x, by simpa using hk, by rw [he]; congr 1; omega, hl⟩
      · rintro (⟨he, hl⟩ | ⟨k, x, hk, he, hl⟩)
        · exact ⟨0, y, by simp, by simpa using he, hl⟩
        · exact ⟨k + 1, x, by simpa using hk, by rw [he]; congr 1; omega, hl⟩
    cases hb : leavesB g v d y
    · rw [outsAt_no hb, ih, key, hb]; simp
    · rw [outsAt_yes hb, List.mem_cons, ih, key, hb]
      constructor
      · rintro (rfl | ⟨h1, h2⟩)
        · exact ⟨rfl, .inl ⟨rfl, rfl⟩⟩
        · exact ⟨h1, .inr h2⟩
      · rintro ⟨h1, ⟨h2, _⟩ | h2⟩
        · left; cases h; simp at h1 h2; simp [h1, h2]
        · exact .inr ⟨h1, h2⟩
theorem outsAt_len {g : GraphD} {v d : Int} : ∀ (l : List EdgeD) (i : Nat), (outsAt g v d i l).length ≤ l.length
  | [], _ => by simp [outsAt]
  | y :: l, i => by
    have := outsAt_len (g := g) (v := v) (d := d) l (i + 1)
    unfold outsAt
    split <;> simp <;> omega
theorem outsL_len {g : GraphD} {v : Int} : ∀ (n : Nat) (d : Int), (outsL g v n d).length ≤ n * g.edges.length
  | 0, _ => by simp [outsL]
  | n + 1, d => by
    have h1 := outsL_len (g := g) (v := v) n (d + 1)
    have h2 := outsAt_len (g := g) (v := v) (d := d) g.edges 0
    rw [outsL, List.length_append, Nat.succ_mul]
    omega
theorem outsL_mem {g : GraphD} {v : Int} {h : HopD} : ∀ (n : Nat) (d : Int), h ∈ outsL g v n d ↔ d ≤ h.depart ∧ h.depart < d + n ∧ h ∈ outsAt g v h.depart 0 g.edges
  | 0, d => by simp [outsL]; intros; omega
  | n + 1, d => by
    rw [outsL, List.mem_append, outsL_mem n (d + 1)]
    constructor
    · rintro (h1 | ⟨h1, h2, h3⟩)
      · have := (outsAt_mem _ _).1 h1
        obtain ⟨rfl, _⟩ := this
        exact ⟨by omega, by omega, h1⟩
      · exact ⟨by omega, by omega, h3⟩
    · rintro ⟨h1, h2, h3⟩
      by_cases e : h.depart = d
      · left; rw [e] at h3; exact h3
      · right; exact ⟨by omega, by omega, h3⟩
end Go.Proofs.YtdpibehpmghghaaDoor
/- Plain laws of journeys: parts, bounds, where one is; the hops that a walk takes. No program in sight. -/
namespace Go.Proofs.YtdpibehpmghghaaDoor
open Go.RowKit

theorem hopTo_spec {g : GraphD} {v t b to k : Int} {h : HopD} (hh : hopTo g v t h = some (b, to, k)) :
    ∃ x lg, 0 ≤ h.edge ∧ g.edges[h.edge.toNat]? = some x ∧ x.a = v ∧ t ≤ h.depart ∧ arrive g x h.depart = some (lg, to) ∧ b = x.b ∧ k = lg.cost := by
  unfold hopTo at hh
  split at hh
  · rename_i h1
    have h2 : 0 ≤ h.edge := by simp [inB] at h1; omega
    split at hh
    · rename_i x hx
      split at hh
      · rename_i h3
        cases ha : arrive g x h.depart with
        | none => rw [ha] at hh; simp at hh
        | some p =>
          obtain ⟨lg, u⟩ := p
          rw [ha] at hh
          simp only [Option.map_some, Option.some.injEq, Prod.mk.injEq] at hh
          obtain ⟨rfl, rfl, rfl⟩ := hh
          exact ⟨x, lg, h2, hx, h3.1, h3.2, ha, rfl, rfl⟩
      · simp at hh
    · simp at hh
  · simp at hh
theorem hopTo_of {g : GraphD} {v t to : Int} {h : HopD} {x : EdgeD} {lg : LegD} (h0 : 0 ≤ h.edge) (hx : g.edges[h.edge.toNat]? = some x) (h1 : x.a = v) (h2 : t ≤ h.depart) (h3 : arrive g x h.depart = some (lg, to)) :
    hopTo g v t h = some (x.b, to, lg.cost) :=
  hopTo_some (by have := lt_of_get hx; simp [inB]; omega) hx ⟨h1, h2⟩ h3

theorem goL_append {g : GraphD} : ∀ (l r : List HopD) (v t c : Int), goL g v t c (l ++ r) = (goL g v t c l).bind fun p => goL g p.1 p.2.1 p.2.2 r
  | [], r, v, t, c => by simp [goL]
  | h :: l, r, v, t, c => by
    cases hh : hopTo g v t h with
    | none => rw [List.cons_append, goL_none hh, goL_none hh]; rfl
    | some p =>
      obtain ⟨a, b, d⟩ := p
      rw [List.cons_append, goL_some hh, goL_some hh, goL_append l r a b (c + d)]
theorem goL_cost {g : GraphD} : ∀ (l : List HopD) (v t c : Int), goL g v t c l = (goL g v t 0 l).map fun p => (p.1, p.2.1, c + p.2.2)
  | [], v, t, c => by simp [goL]
  | h :: l, v, t, c => by
    cases hh : hopTo g v t h with
    | none => rw [goL_none hh, goL_none hh]; rfl
    | some p =>
      obtain ⟨a, b, d⟩ := p
      rw [goL_some hh, goL_some hh, goL_cost l a b (c + d), goL_cost l a b (0 + d), Option.map_map]
      congr 1
      funext p
      simp
      omega
/-- One is at v at t: it is a vertex's number, a time, and the vertex is alive then. -/
def Here (g : GraphD) (v t : Int) : Prop := 0 ≤ v ∧ v < g.lives.length ∧ 0 ≤ t ∧ t < g.h ∧ aliveB g v t = true
theorem Here.place {g : GraphD} {v t : Int} (h : Here g v t) (hV : Valid g) : placeErr g v t = 0 := by
  obtain ⟨h1, h2, h3, h4, _⟩ := h
  exact placeErr_0 (valid_ok hV) (by simp [inB]; omega) (by simp [inB]; omega)
theorem here_of {g : GraphD} {v t : Int} (h : placeErr g v t = 0) (ha : aliveB g v t = true) : Here g v t := by
  obtain ⟨_, h1, h2⟩ := place_of h
  exact ⟨h1.1, h1.2, h2.1, h2.2, ha⟩
theorem hopTo_here {g : GraphD} (hV : Valid g) {v t b to k : Int} {h : HopD} (h0 : 0 ≤ t) (hh : hopTo g v t h = some (b, to, k)) : Here g b to ∧ t < to ∧ 0 ≤ k ∧ k ≤ 1000 := by
  obtain ⟨x, lg, h1, hx, h2, h3, ha, rfl, rfl⟩ := hopTo_spec hh
  have hs := arrive_some ha
  have hxe := hV.edges x (List.mem_of_getElem? hx)
  have hlg := hxe.legs lg hs.1
  have h4 := hxe.b0; have h5 := hxe.b1
  exact ⟨⟨h4, h5, by omega, by omega, hs.2.2.2.2.2.2⟩, by omega, by omega, by omega⟩
theorem goL_here {g : GraphD} (hV : Valid g) : ∀ (l : List HopD) (v t c a b d : Int), Here g v t → goL g v t c l = some (a, b, d) → Here g a b ∧ t ≤ b ∧ c ≤ d ∧ d ≤ c + 1000 * l.length
  | [], v, t, c, a, b, d, h0, h => by
    simp [goL] at h
    obtain ⟨rfl, rfl, rfl⟩ := h
    exact ⟨h0, by omega, by omega, by simp⟩
  | h :: l, v, t, c, a, b, d, h0, hg => by
    cases hh : hopTo g v t h with
    | none => rw [goL_none hh] at hg; simp at hg
    | some p =>
      obtain ⟨x, y, k⟩ := p
      rw [goL_some hh] at hg
      have h1 := hopTo_here hV h0.2.2.1 hh
      have h2 := goL_here hV l x y (c + k) a b d h1.1 hg
      have e : ((h :: l).length : Int) = l.length + 1 := by simp
      rw [e]
      exact ⟨h2.1, by omega, by omega, by omega⟩
theorem goR_ok {g : GraphD} {v t : Int} {l : List HopD} {a b d : Int} (h : goR g v t l = (a, b, d, 0)) : placeErr g v t = 0 ∧ l.length ≤ 500 ∧ aliveB g v t = true ∧ goL g v t 0 l = some (a, b, d) := by
  unfold goR at h
  split at h
  · rename_i h1
    split at h
    · simp at h
    · rename_i h2
      split at h
      · rename_i h3
        split at h
        · rename_i p hp
          simp only [Prod.mk.injEq] at h
          obtain ⟨rfl, rfl, rfl, _⟩ := h
          exact ⟨h1, by omega, h3, hp⟩
        · simp at h
      · simp at h
  · rename_i h1
    simp only [Prod.mk.injEq] at h
    exact absurd h.2.2.2 h1
theorem goR_here {g : GraphD} (hV : Valid g) {v t : Int} {l : List HopD} {a b d : Int} (h : Here g v t) (hl : l.length ≤ 500) (hg : goL g v t 0 l = some (a, b, d)) : goR g v t l = (a, b, d, 0) :=
  goR_some (h.place hV) (by omega) h.2.2.2.2 hg
theorem goR_err {g : GraphD} {v t : Int} {l : List HopD} {a b d e : Int} (h : goR g v t l = (a, b, d, e)) (he : e ≠ 0) : a = 0 ∧ b = 0 ∧ d = 0 := by
  unfold goR at h
  split at h
  · split at h
    · simp at h; omega
    · split at h
      · split at h
        · simp at h; omega
        · simp at h; omega
      · simp at h; omega
  · simp at h; omega

/-- The hops of a walk, as numbers say; where one is then. -/
def walkL (g : GraphD) : Int → Int → List Int → List HopD × Int × Int
  | v, t, [] => ([], v, t)
  | v, t, k :: r =>
    if placeErr g v t = 0 ∧ outR g v t ≠ [] then
      (match (outR g v t)[(k % (outR g v t).length).toNat]? with
      | some h => (match goR g v t [h] with
        | (a, b, _, e) => if e = 0 then (h :: (walkL g a b r).1, (walkL g a b r).2) else ([], v, t))
      | none => ([], v, t))
    else ([], v, t)
theorem walkL_stop {g : GraphD} {v t k : Int} {r : List Int} (h : ¬ (placeErr g v t = 0 ∧ outR g v t ≠ [])) : walkL g v t (k :: r) = ([], v, t) := by rw [walkL, if_neg h]
theorem walkL_bad {g : GraphD} {v t k a b d e : Int} {r : List Int} {h : HopD} (h1 : placeErr g v t = 0 ∧ outR g v t ≠ []) (h2 : (outR g v t)[(k % (outR g v t).length).toNat]? = some h) (h3 : goR g v t [h] = (a, b, d, e)) (h4 : ¬ e = 0) :
    walkL g v t (k :: r) = ([], v, t) := by rw [walkL, if_pos h1, h2]; simp only [h3]; rw [if_neg h4]
theorem walkL_go {g : GraphD} {v t k a b d : Int} {r : List Int} {h : HopD} (h1 : placeErr g v t = 0 ∧ outR g v t ≠ []) (h2 : (outR g v t)[(k % (outR g v t).length).toNat]? = some h) (h3 : goR g v t [h] = (a, b, d, 0)) :
    walkL g v t (k :: r) = (h :: (walkL g a b r).1, (walkL g a b r).2) := by rw [walkL, if_pos h1, h2]; simp only [h3]; rfl
theorem walkL_len {g : GraphD} : ∀ (l : List Int) (v t : Int), (walkL g v t l).1.length ≤ l.length
  | [], v, t => by simp [walkL]
  | k :: r, v, t => by
    unfold walkL
    split
    · split
      · rename_i h _
        have := fun a b => walkL_len (g := g) r a b
        generalize goR g v t [h] = q
        obtain ⟨a, b, d, e⟩ := q
        simp only
        split
        · simpa using this a b
        · simp
      · simp
    · simp
/-- What a walk takes is a journey. -/
theorem walkL_goes {g : GraphD} : ∀ (l : List Int) (v t : Int), placeErr g v t = 0 → ∃ d, goL g v t 0 (walkL g v t l).1 = some ((walkL g v t l).2.1, (walkL g v t l).2.2, d)
  | [], v, t, _ => ⟨0, by simp [walkL, goL]⟩
  | k :: r, v, t, hp => by
    by_cases h1 : placeErr g v t = 0 ∧ outR g v t ≠ []
    case neg => rw [walkL_stop h1]; exact ⟨0, rfl⟩
    have hV := (place_of hp).1
    cases h2 : (outR g v t)[(k % (outR g v t).length).toNat]? with
    | none => rw [walkL, if_pos h1, h2]; exact ⟨0, rfl⟩
    | some h =>
      obtain ⟨a, b, d, e, h3⟩ : ∃ a b d e, goR g v t [h] = (a, b, d, e) := ⟨_, _, _, _, rfl⟩
      by_cases h4 : e = 0
      case neg => rw [walkL_bad h1 h2 h3 h4]; exact ⟨0, rfl⟩
      subst h4
      rw [walkL_go h1 h2 h3]
      obtain ⟨_, _, hal, hg⟩ := goR_ok h3
      have hh : hopTo g v t h = some (a, b, d) := by
        cases hh : hopTo g v t h with
        | none => rw [goL_none hh] at hg; simp at hg
        | some p =>
          obtain ⟨x, y, k⟩ := p
          rw [goL_some hh] at hg
          simp [goL] at hg
          obtain ⟨rfl, rfl, rfl⟩ := hg
          rfl
      have hhere := (hopTo_here hV (place_of hp).2.2.1 hh).1
      obtain ⟨d2, ih⟩ := walkL_goes r a b (hhere.place hV)
      refine ⟨0 + d + d2, ?_⟩
      show goL g v t 0 (h :: (walkL g a b r).1) = some ((walkL g a b r).2.1, (walkL g a b r).2.2, 0 + d + d2)
      rw [goL_some hh, goL_cost, ih]
      rfl
/-- A list of hops that is empty unless one can be at the place. -/
theorem walkL_dead {g : GraphD} {v t : Int} (l : List Int) (h : ¬ placeErr g v t = 0) : walkL g v t l = ([], v, t) := by
  cases l with
  | nil => rfl
  | cons k r => exact walkL_stop fun hh => h hh.1
theorem walkL_notalive {g : GraphD} {v t : Int} (l : List Int) (h : aliveB g v t = false) : walkL g v t l = ([], v, t) := by
  cases l with
  | nil => rfl
  | cons k r =>
    refine walkL_stop fun hh => hh.2 ?_
    simp [outR, outs, h]
/-- Out's hops go, and no others. -/
theorem outs_hop {g : GraphD} {v t : Int} (hp : placeErr g v t = 0) (h : HopD) : h ∈ outs g v t ↔ (aliveB g v t = true ∧ ∃ p, hopTo g v t h = some p) := by
  obtain ⟨hV, hv, ht⟩ := place_of hp
  unfold outs
  split
  · rename_i hal
    rw [outsL_mem, outsAt_mem]
    constructor
    · rintro ⟨h1, h2, _, k, x, hk, he, hl⟩
      refine ⟨hal, ?_⟩
      simp only [leavesB, Bool.and_eq_true, decide_eq_true_eq] at hl
      obtain ⟨hl1, hl2⟩ := hl
      obtain ⟨p, hp'⟩ := Option.isSome_iff_exists.1 hl1
      obtain ⟨lg, to⟩ := p
      have e1 : h.edge.toNat = k := by omega
      exact ⟨_, hopTo_of (by omega) (by rw [e1]; exact hk) hl2 h1 hp'⟩
    · rintro ⟨_, p, hh⟩
      obtain ⟨b, to, c⟩ := p
      obtain ⟨x, lg, h0, hx, h1, h2, ha, _, _⟩ := hopTo_spec hh
      have hs := arrive_some ha
      have hxe := hV.edges x (List.mem_of_getElem? hx)
      have hlg := hxe.legs lg hs.1
      refine ⟨h2, by omega, rfl, h.edge.toNat, x, hx, by omega, ?_⟩
      simp [leavesB, ha, h1]
  · rename_i hal
    simp [hal]
end Go.Proofs.YtdpibehpmghghaaDoor
