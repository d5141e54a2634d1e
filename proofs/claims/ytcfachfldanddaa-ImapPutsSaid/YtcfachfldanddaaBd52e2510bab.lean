/- Several texts in one: Keep, Sys, Row, Spec, Spec2. -/
import Derived.Deep.RegionHeld3
import Derived.Deep.OwnRows
import Derived.Laws.OwnMore
import Derived.Test.YtcfachfldanddaaProg
import Derived.Test.YtcfachfldanddaaBd15e47e3898
/- Cells that stay while memory grows, by the handful; small laws for drawn regions. -/
namespace Go.Proofs.Ytcfachfldanddaa
open Go.RowKit

theorem results_tmp4 {fn : Func} {t u v x : Tmp} (h : fn.results = #[.tmp t, .tmp u, .tmp v, .tmp x]) (tmps : Array Value) (P : Program) (w : World) :
    (results fn tmps).run P w = .ok (.tuple #[tmps.getD t undef, tmps.getD u undef, tmps.getD v undef, tmps.getD x undef]) w := by simp [results, h]
theorem cell_keep {w w' : World} {p : Addr} {v : Value} (hb : Below w.heap.size w w') (h : w.cell? p = some v) : w'.cell? p = some v := (hb.cell (World.block_lt_of_cell? w p h)).trans h
theorem bcell {W w1 : World} (hb : Below W.heap.size W w1) : (∀ b o, b < W.heap.size → w1.cell? ⟨b, o, none⟩ = W.cell? ⟨b, o, none⟩) ∧ (∀ b o, b < W.heap.size → w1.frozen? ⟨b, o, none⟩ = W.frozen? ⟨b, o, none⟩) :=
  ⟨fun b o h => hb.cell (p := ⟨b, o, none⟩) h, fun b o h => hb.frozen (p := ⟨b, o, none⟩) h⟩
theorem keep2 {w w' : World} {p0 p1 : Addr} {v0 v1 : Value} (hb : Below w.heap.size w w') (h : w.cell? p0 = some v0 ∧ w.cell? p1 = some v1) : w'.cell? p0 = some v0 ∧ w'.cell? p1 = some v1 := by
  obtain ⟨h0, h1⟩ := h
  exact ⟨cell_keep hb h0, cell_keep hb h1⟩
theorem keep3 {w w' : World} {p0 p1 p2 : Addr} {v0 v1 v2 : Value} (hb : Below w.heap.size w w') (h : w.cell? p0 = some v0 ∧ w.cell? p1 = some v1 ∧ w.cell? p2 = some v2) : w'.cell? p0 = some v0 ∧ w'.cell? p1 = some v1 ∧ w'.cell? p2 = some v2 := by
  obtain ⟨h0, h1, h2⟩ := h
  exact ⟨cell_keep hb h0, cell_keep hb h1, cell_keep hb h2⟩
theorem keep4 {w w' : World} {p0 p1 p2 p3 : Addr} {v0 v1 v2 v3 : Value} (hb : Below w.heap.size w w') (h : w.cell? p0 = some v0 ∧ w.cell? p1 = some v1 ∧ w.cell? p2 = some v2 ∧ w.cell? p3 = some v3) : w'.cell? p0 = some v0 ∧ w'.cell? p1 = some v1 ∧ w'.cell? p2 = some v2 ∧ w'.cell? p3 = some v3 := by
  obtain ⟨h0, h1, h2, h3⟩ := h
  exact ⟨cell_keep hb h0, cell_keep hb h1, cell_keep hb h2, cell_keep hb h3⟩
theorem keep5 {w w' : World} {p0 p1 p2 p3 p4 : Addr} {v0 v1 v2 v3 v4 : Value} (hb : Below w.heap.size w w') (h : w.cell? p0 = some v0 ∧ w.cell? p1 = some v1 ∧ w.cell? p2 = some v2 ∧ w.cell? p3 = some v3 ∧ w.cell? p4 = some v4) : w'.cell? p0 = some v0 ∧ w'.cell? p1 = some v1 ∧ w'.cell? p2 = some v2 ∧ w'.cell? p3 = some v3 ∧ w'.cell? p4 = some v4 := by
  obtain ⟨h0, h1, h2, h3, h4⟩ := h
  exact ⟨cell_keep hb h0, cell_keep hb h1, cell_keep hb h2, cell_keep hb h3, cell_keep hb h4⟩
theorem keep6 {w w' : World} {p0 p1 p2 p3 p4 p5 : Addr} {v0 v1 v2 v3 v4 v5 : Value} (hb : Below w.heap.size w w') (h : w.cell? p0 = some v0 ∧ w.cell? p1 = some v1 ∧ w.cell? p2 = some v2 ∧ w.cell? p3 = some v3 ∧ w.cell? p4 = some v4 ∧ w.cell? p5 = some v5) : w'.cell? p0 = some v0 ∧ w'.cell? p1 = some v1 ∧ w'.cell? p2 = some v2 ∧ w'.cell? p3 = some v3 ∧ w'.cell? p4 = some v4 ∧ w'.cell? p5 = some v5 := by
  obtain ⟨h0, h1, h2, h3, h4, h5⟩ := h
  exact ⟨cell_keep hb h0, cell_keep hb h1, cell_keep hb h2, cell_keep hb h3, cell_keep hb h4, cell_keep hb h5⟩
theorem keep7 {w w' : World} {p0 p1 p2 p3 p4 p5 p6 : Addr} {v0 v1 v2 v3 v4 v5 v6 : Value} (hb : Below w.heap.size w w') (h : w.cell? p0 = some v0 ∧ w.cell? p1 = some v1 ∧ w.cell? p2 = some v2 ∧ w.cell? p3 = some v3 ∧ w.cell? p4 = some v4 ∧ w.cell? p5 = some v5 ∧ w.cell? p6 = some v6) : w'.cell? p0 = some v0 ∧ w'.cell? p1 = some v1 ∧ w'.cell? p2 = some v2 ∧ w'.cell? p3 = some v3 ∧ w'.cell? p4 = some v4 ∧ w'.cell? p5 = some v5 ∧ w'.cell? p6 = some v6 := by
  obtain ⟨h0, h1, h2, h3, h4, h5, h6⟩ := h
  exact ⟨cell_keep hb h0, cell_keep hb h1, cell_keep hb h2, cell_keep hb h3, cell_keep hb h4, cell_keep hb h5, cell_keep hb h6⟩
theorem keep8 {w w' : World} {p0 p1 p2 p3 p4 p5 p6 p7 : Addr} {v0 v1 v2 v3 v4 v5 v6 v7 : Value} (hb : Below w.heap.size w w') (h : w.cell? p0 = some v0 ∧ w.cell? p1 = some v1 ∧ w.cell? p2 = some v2 ∧ w.cell? p3 = some v3 ∧ w.cell? p4 = some v4 ∧ w.cell? p5 = some v5 ∧ w.cell? p6 = some v6 ∧ w.cell? p7 = some v7) : w'.cell? p0 = some v0 ∧ w'.cell? p1 = some v1 ∧ w'.cell? p2 = some v2 ∧ w'.cell? p3 = some v3 ∧ w'.cell? p4 = some v4 ∧ w'.cell? p5 = some v5 ∧ w'.cell? p6 = some v6 ∧ w'.cell? p7 = some v7 := by
  obtain ⟨h0, h1, h2, h3, h4, h5, h6, h7⟩ := h
  exact ⟨cell_keep hb h0, cell_keep hb h1, cell_keep hb h2, cell_keep hb h3, cell_keep hb h4, cell_keep hb h5, cell_keep hb h6, cell_keep hb h7⟩
theorem keep9 {w w' : World} {p0 p1 p2 p3 p4 p5 p6 p7 p8 : Addr} {v0 v1 v2 v3 v4 v5 v6 v7 v8 : Value} (hb : Below w.heap.size w w') (h : w.cell? p0 = some v0 ∧ w.cell? p1 = some v1 ∧ w.cell? p2 = some v2 ∧ w.cell? p3 = some v3 ∧ w.cell? p4 = some v4 ∧ w.cell? p5 = some v5 ∧ w.cell? p6 = some v6 ∧ w.cell? p7 = some v7 ∧ w.cell? p8 = some v8) : w'.cell? p0 = some v0 ∧ w'.cell? p1 = some v1 ∧ w'.cell? p2 = some v2 ∧ w'.cell? p3 = some v3 ∧ w'.cell? p4 = some v4 ∧ w'.cell? p5 = some v5 ∧ w'.cell? p6 = some v6 ∧ w'.cell? p7 = some v7 ∧ w'.cell? p8 = some v8 := by
  obtain ⟨h0, h1, h2, h3, h4, h5, h6, h7, h8⟩ := h
  exact ⟨cell_keep hb h0, cell_keep hb h1, cell_keep hb h2, cell_keep hb h3, cell_keep hb h4, cell_keep hb h5, cell_keep hb h6, cell_keep hb h7, cell_keep hb h8⟩
theorem keep10 {w w' : World} {p0 p1 p2 p3 p4 p5 p6 p7 p8 p9 : Addr} {v0 v1 v2 v3 v4 v5 v6 v7 v8 v9 : Value} (hb : Below w.heap.size w w') (h : w.cell? p0 = some v0 ∧ w.cell? p1 = some v1 ∧ w.cell? p2 = some v2 ∧ w.cell? p3 = some v3 ∧ w.cell? p4 = some v4 ∧ w.cell? p5 = some v5 ∧ w.cell? p6 = some v6 ∧ w.cell? p7 = some v7 ∧ w.cell? p8 = some v8 ∧ w.cell? p9 = some v9) : w'.cell? p0 = some v0 ∧ w'.cell? p1 = some v1 ∧ w'.cell? p2 = some v2 ∧ w'.cell? p3 = some v3 ∧ w'.cell? p4 = some v4 ∧ w'.cell? p5 = some v5 ∧ w'.cell? p6 = some v6 ∧ w'.cell? p7 = some v7 ∧ w'.cell? p8 = some v8 ∧ w'.cell? p9 = some v9 := by
  obtain ⟨h0, h1, h2, h3, h4, h5, h6, h7, h8, h9⟩ := h
  exact ⟨cell_keep hb h0, cell_keep hb h1, cell_keep hb h2, cell_keep hb h3, cell_keep hb h4, cell_keep hb h5, cell_keep hb h6, cell_keep hb h7, cell_keep hb h8, cell_keep hb h9⟩
theorem keep11 {w w' : World} {p0 p1 p2 p3 p4 p5 p6 p7 p8 p9 p10 : Addr} {v0 v1 v2 v3 v4 v5 v6 v7 v8 v9 v10 : Value} (hb : Below w.heap.size w w') (h : w.cell? p0 = some v0 ∧ w.cell? p1 = some v1 ∧ w.cell? p2 = some v2 ∧ w.cell? p3 = some v3 ∧ w.cell? p4 = some v4 ∧ w.cell? p5 = some v5 ∧ w.cell? p6 = some v6 ∧ w.cell? p7 = some v7 ∧ w.cell? p8 = some v8 ∧ w.cell? p9 = some v9 ∧ w.cell? p10 = some v10) : w'.cell? p0 = some v0 ∧ w'.cell? p1 = some v1 ∧ w'.cell? p2 = some v2 ∧ w'.cell? p3 = some v3 ∧ w'.cell? p4 = some v4 ∧ w'.cell? p5 = some v5 ∧ w'.cell? p6 = some v6 ∧ w'.cell? p7 = some v7 ∧ w'.cell? p8 = some v8 ∧ w'.cell? p9 = some v9 ∧ w'.cell? p10 = some v10 := by
  obtain ⟨h0, h1, h2, h3, h4, h5, h6, h7, h8, h9, h10⟩ := h
  exact ⟨cell_keep hb h0, cell_keep hb h1, cell_keep hb h2, cell_keep hb h3, cell_keep hb h4, cell_keep hb h5, cell_keep hb h6, cell_keep hb h7, cell_keep hb h8, cell_keep hb h9, cell_keep hb h10⟩
theorem keep12 {w w' : World} {p0 p1 p2 p3 p4 p5 p6 p7 p8 p9 p10 p11 : Addr} {v0 v1 v2 v3 v4 v5 v6 v7 v8 v9 v10 v11 : Value} (hb : Below w.heap.size w w') (h : w.cell? p0 = some v0 ∧ w.cell? p1 = some v1 ∧ w.cell? p2 = some v2 ∧ w.cell? p3 = some v3 ∧ w.cell? p4 = some v4 ∧ w.cell? p5 = some v5 ∧ w.cell? p6 = some v6 ∧ w.cell? p7 = some v7 ∧ w.cell? p8 = some v8 ∧ w.cell? p9 = some v9 ∧ w.cell? p10 = some v10 ∧ w.cell? p11 = some v11) : w'.cell? p0 = some v0 ∧ w'.cell? p1 = some v1 ∧ w'.cell? p2 = some v2 ∧ w'.cell? p3 = some v3 ∧ w'.cell? p4 = some v4 ∧ w'.cell? p5 = some v5 ∧ w'.cell? p6 = some v6 ∧ w'.cell? p7 = some v7 ∧ w'.cell? p8 = some v8 ∧ w'.cell? p9 = some v9 ∧ w'.cell? p10 = some v10 ∧ w'.cell? p11 = some v11 := by
  obtain ⟨h0, h1, h2, h3, h4, h5, h6, h7, h8, h9, h10, h11⟩ := h
  exact ⟨cell_keep hb h0, cell_keep hb h1, cell_keep hb h2, cell_keep hb h3, cell_keep hb h4, cell_keep hb h5, cell_keep hb h6, cell_keep hb h7, cell_keep hb h8, cell_keep hb h9, cell_keep hb h10, cell_keep hb h11⟩
end Go.Proofs.Ytcfachfldanddaa
/- Systems of inequalities along arcs and their greatest solutions; no program in sight. -/
namespace Go.Proofs.Ytcfachfldanddaa

structure Arc (ι : Type) where
  a : ι
  b : ι
  f : Int → Int
section
variable {ι : Type}
def Sol (A : Arc ι → Prop) (init d : ι → Int) : Prop := (∀ i, d i ≤ init i) ∧ ∀ x, A x → d x.b ≤ x.f (d x.a)
def Above (A : Arc ι → Prop) (init d : ι → Int) : Prop := ∀ e, Sol A init e → ∀ i, e i ≤ d i
/-- The greatest solution. -/
def Best (A : Arc ι → Prop) (init d : ι → Int) : Prop := Sol A init d ∧ Above A init d
def Mono (f : Int → Int) : Prop := ∀ s t, s ≤ t → f s ≤ f t
variable {A : Arc ι → Prop} {init d e : ι → Int}
theorem Best.eq (h : Best A init d) (k : Best A init e) : d = e := funext fun i => Int.le_antisymm (k.2 d h.1 i) (h.2 e k.1 i)
theorem above_init : Above A init init := fun _ h i => h.1 i
variable [DecidableEq ι]
def upd (d : ι → Int) (i : ι) (x : Int) : ι → Int := fun j => if j = i then x else d j
theorem upd_at (d : ι → Int) (i : ι) (x : Int) : upd d i x i = x := by simp [upd]
theorem upd_ne (d : ι → Int) {i j : ι} (x : Int) (h : ¬ j = i) : upd d i x j = d j := by simp [upd, h]
theorem upd_same (d : ι → Int) (i : ι) : upd d i (d i) = d := by funext j; by_cases h : j = i <;> simp [upd, h]
theorem Above.upd {d' : ι → Int} (h : Above A init d) (h' : Above A init d') {x : Arc ι} (hx : A x) (hm : Mono x.f) {n : Int} (hn : x.f (d' x.a) ≤ n) : Above A init (upd d x.b (min (d x.b) n)) := by
  intro e he i
  by_cases hi : i = x.b
  · subst hi
    rw [upd_at]
    have h1 := h e he x.b
    have h2 := he.2 x hx
    have h3 := hm _ _ (h' e he x.a)
    omega
  · rw [upd_ne _ _ hi]; exact h e he i
theorem Best.tight (h : Best A init d) (hm : ∀ x, A x → Mono x.f) {j : ι} (hj : d j < init j) : ∃ x, A x ∧ x.b = j ∧ x.f (d x.a) = d j := by
  refine Classical.byContradiction fun hno => ?_
  have hle : ∀ i, d i ≤ Go.Proofs.Ytcfachfldanddaa.upd d j (d j + 1) i := fun i => by
    by_cases hi : i = j
    · subst hi; rw [upd_at]; omega
    · rw [upd_ne _ _ hi]; exact Int.le_refl _
  have hs : Sol A init (Go.Proofs.Ytcfachfldanddaa.upd d j (d j + 1)) := by
    refine ⟨fun i => ?_, fun x hx => ?_⟩
    · by_cases hi : i = j
      · subst hi; rw [upd_at]; omega
      · rw [upd_ne _ _ hi]; exact h.1.1 i
    · have h1 := h.1.2 x hx
      have h2 := hm x hx _ _ (hle x.a)
      by_cases hi : x.b = j
      · rw [hi, upd_at]
        have h3 : ¬ x.f (d x.a) = d j := fun e => hno ⟨x, hx, hi, e⟩
        rw [hi] at h1
        omega
      · rw [upd_ne _ _ hi]; omega
  have := h.2 _ hs j
  rw [upd_at] at this
  omega
omit [DecidableEq ι] in
/-- What only comes from far away is far away. -/
theorem Best.far (h : Best A init d) {I : Int} (hI : ∀ i, d i ≤ I) (hm : ∀ x, A x → Mono x.f) (hf : ∀ x, A x → I ≤ x.f I) (S : ι → Prop) (hS : ∀ x, A x → S x.b → S x.a) (hi : ∀ i, S i → I ≤ init i) : ∀ i, S i → d i = I := by
  intro i hi0
  have hs : Sol A init (fun j => open Classical in if S j then I else d j) := by
    refine ⟨fun j => ?_, fun x hx => ?_⟩
    · by_cases hj : S j
      · simp only [if_pos hj]; exact hi j hj
      · simp only [if_neg hj]; exact h.1.1 j
    · have hge : d x.a ≤ (open Classical in if S x.a then I else d x.a) := by
        by_cases ha : S x.a
        · rw [if_pos ha]; exact hI _
        · rw [if_neg ha]; exact Int.le_refl _
      by_cases hb : S x.b
      · simp only [if_pos hb, if_pos (hS x hx hb)]; exact hf x hx
      · simp only [if_neg hb]
        exact Int.le_trans (h.1.2 x hx) (hm x hx _ _ hge)
  have := h.2 _ hs i
  simp only [if_pos hi0] at this
  exact Int.le_antisymm (hI i) this
end
/-- A bounded set of numbers has a greatest one. -/
theorem greatest {P : Int → Prop} {B : Int} (hB : ∀ x, P x → x ≤ B) (h : ∃ x, P x) : ∃ m, P m ∧ ∀ x, P x → x ≤ m := by
  obtain ⟨x, hx⟩ := h
  obtain ⟨k, hk⟩ : ∃ k : Nat, k = (B - x).toNat := ⟨_, rfl⟩
  induction k using Nat.strongRecOn generalizing x with
  | ind k ih =>
    by_cases hm : ∀ y, P y → y ≤ x
    · exact ⟨x, hx, hm⟩
    · have ⟨y, hy⟩ := Classical.not_forall.1 hm
      have ⟨h1, h2⟩ := Classical.not_imp.1 hy
      have h3 := hB y h1
      have h4 := hB x hx
      exact ih (B - y).toNat (by omega) y h1 rfl
/-- There is a greatest solution, if there is one at all. -/
theorem Best.ex {ι : Type} {A : Arc ι → Prop} {init : ι → Int} (hm : ∀ x, A x → Mono x.f) (h : ∃ e, Sol A init e) : ∃ d, Best A init d := by
  obtain ⟨e0, h0⟩ := h
  have hg : ∀ i, ∃ m, (∃ e, Sol A init e ∧ e i = m) ∧ ∀ x, (∃ e, Sol A init e ∧ e i = x) → x ≤ m := fun i =>
    greatest (B := init i) (fun x ⟨e, he, hx⟩ => by rw [← hx]; exact he.1 i) ⟨_, e0, h0, rfl⟩
  obtain ⟨d, hd⟩ := Classical.axiomOfChoice hg
  refine ⟨d, ⟨fun i => ?_, fun x hx => ?_⟩, fun e he i => (hd i).2 _ ⟨e, he, rfl⟩⟩
  · obtain ⟨e, he, hx⟩ := (hd i).1
    rw [← hx]; exact he.1 i
  · obtain ⟨e, he, hx'⟩ := (hd x.b).1
    rw [← hx']
    exact Int.le_trans (he.2 x hx) (hm x hx _ _ ((hd x.a).2 _ ⟨e, he, rfl⟩))

/-! ### lists as functions -/
def gi (l : List Int) (v : Nat) : Int := l.getD v 0
theorem gi_of {l : List Int} {v : Nat} {x : Int} (h : l[v]? = some x) : gi l v = x := by simp [gi, List.getD, h]
theorem gi_get {l : List Int} {v : Nat} (h : v < l.length) : l[v]? = some (gi l v) := by simp [gi, List.getD, h]
theorem gi_far {l : List Int} {v : Nat} (h : l.length ≤ v) : gi l v = 0 := by simp [gi, List.getD, h]
theorem gi_set {l : List Int} {i : Nat} (h : i < l.length) (x : Int) : gi (l.set i x) = upd (gi l) i x := by
  funext j
  by_cases hj : j = i
  · subst hj; rw [upd_at]; exact gi_of (by simp [h])
  · rw [upd_ne _ _ hj]
    simp only [gi, List.getD]
    rw [List.getElem?_set_ne (fun h => hj h.symm)]
theorem gi_ext {l r : List Int} (hl : l.length = r.length) (h : gi l = gi r) : l = r := by
  refine List.ext_getElem? fun i => ?_
  by_cases hi : i < l.length
  · rw [gi_get hi, gi_get (by omega), h]
  · rw [List.getElem?_eq_none (by omega), List.getElem?_eq_none (by omega)]
theorem gi_eq_of {l r : List Int} (hl : l.length = r.length) (h : ∀ i, i < l.length → gi l i = gi r i) : l = r := by
  refine gi_ext hl (funext fun i => ?_)
  by_cases hi : i < l.length
  · exact h i hi
  · rw [gi_far (by omega), gi_far (by omega)]
/-- How much there is left to lose. -/
def total (l : List Int) : Nat := (l.map Int.toNat).sum
theorem total_set {l : List Int} {i : Nat} (h : i < l.length) (x : Int) : total (l.set i x) + (gi l i).toNat = total l + x.toNat := by
  induction l generalizing i with
  | nil => simp at h
  | cons y l ih =>
    cases i with
    | zero => simp [total, gi]; omega
    | succ i =>
      have := ih (i := i) (by simpa using h)
      simp only [List.set_cons_succ, total, List.map_cons, List.sum_cons] at *
      have e : gi (y :: l) (i + 1) = gi l i := by simp [gi]
      rw [e]
      omega
theorem total_le {l r : List Int} (hl : l.length = r.length) (h : ∀ i, gi l i ≤ gi r i) : total l ≤ total r := by
  induction l generalizing r with
  | nil => simp [total]
  | cons x l ih =>
    cases r with
    | nil => simp at hl
    | cons y r =>
      have h0 := h 0
      have h1 := ih (r := r) (by simpa using hl) fun i => by have := h (i + 1); simpa [gi] using this
      simp [gi] at h0
      simp only [total, List.map_cons, List.sum_cons] at *
      omega
theorem total_lt {l r : List Int} (hl : l.length = r.length) (h : ∀ i, gi l i ≤ gi r i) (h0 : ∀ i, 0 ≤ gi l i) (hne : ¬ l = r) : total l < total r := by
  induction l generalizing r with
  | nil =>
    cases r with
    | nil => exact absurd rfl hne
    | cons y r => simp at hl
  | cons x l ih =>
    cases r with
    | nil => simp at hl
    | cons y r =>
      have k0 := h 0
      have k1 := h0 0
      have hs : ∀ i, gi l i ≤ gi r i := fun i => by have := h (i + 1); simpa [gi] using this
      have hp : ∀ i, 0 ≤ gi l i := fun i => by have := h0 (i + 1); simpa [gi] using this
      simp [gi] at k0 k1
      have hl' : l.length = r.length := by simpa using hl
      have h2 := total_le hl' hs
      by_cases e : l = r
      · have : ¬ x = y := fun e' => hne (by rw [e, e'])
        simp only [total, List.map_cons, List.sum_cons] at *
        omega
      · have := ih hl' hs hp e
        simp only [total, List.map_cons, List.sum_cons] at *
        omega

/-! ### one vertex after the other, the nearest one first -/
section
variable {arcs : List (Arc Nat)} {init d d0 : Nat → Int} {done : Nat → Bool} {n : Nat} {I : Int}
/-- What holds whenever all of a vertex's arcs have been looked at. -/
structure Near (arcs : List (Arc Nat)) (n : Nat) (I : Int) (init d : Nat → Int) (done : Nat → Bool) : Prop where
  le : ∀ i, d i ≤ init i
  big : ∀ i, i < n → d i ≤ I
  above : Above (· ∈ arcs) init d
  near : ∀ u v, v < n → done u = true → done v = false → d u ≤ d v
  told : ∀ x, x ∈ arcs → done x.a = true → d x.b ≤ x.f (d x.a)
/-- .. in the midst of a vertex's arcs. -/
structure Mid (arcs : List (Arc Nat)) (n : Nat) (I : Int) (init d0 d : Nat → Int) (done : Nat → Bool) (c k : Nat) : Prop where
  le : ∀ i, d i ≤ d0 i
  above : Above (· ∈ arcs) init d
  same : d c = d0 c
  olds : ∀ u, done u = true → d u = d0 u
  news : ∀ v, v < n → done v = false → d c ≤ d v
  told : ∀ x, x ∈ arcs.take k → x.a = c → d x.b ≤ x.f (d c)
def mark (done : Nat → Bool) (c : Nat) : Nat → Bool := fun j => if j = c then true else done j
theorem Near.begin (h : Near arcs n I init d done) {c : Nat} (hm : ∀ v, v < n → done v = false → d c ≤ d v) : Mid arcs n I init d d done c 0 :=
  ⟨fun _ => Int.le_refl _, h.above, rfl, fun _ _ => rfl, hm, fun x hx => by simp at hx⟩
theorem Mid.skip {c k : Nat} (h : Mid arcs n I init d0 d done c k) {x : Arc Nat} (hx : arcs[k]? = some x) (hc : ¬ x.a = c) : Mid arcs n I init d0 d done c (k + 1) :=
  ⟨h.le, h.above, h.same, h.olds, h.news, fun y hy hyc => by
    rw [List.take_add_one, hx] at hy
    rcases List.mem_append.1 hy with hy | hy
    · exact h.told y hy hyc
    · obtain rfl : y = x := by simpa using hy
      exact absurd hyc hc⟩
theorem Mid.step {c k : Nat} (h : Mid arcs n I init d0 d done c k) (h0 : Near arcs n I init d0 done) (hcn : c < n) (hdc : done c = false) {x : Arc Nat} (hx : arcs[k]? = some x) (hc : x.a = c) (hxm : Mono x.f) (hge : d c ≤ x.f (d c)) :
    Mid arcs n I init d0 (upd d x.b (min (d x.b) (x.f (d c)))) done c (k + 1) := by
  have hmem : x ∈ arcs := List.mem_of_getElem? hx
  have hle : ∀ i, upd d x.b (min (d x.b) (x.f (d c))) i ≤ d i := fun i => by
    by_cases hi : i = x.b
    · subst hi; rw [upd_at]; omega
    · rw [upd_ne _ _ hi]; exact Int.le_refl _
  have hcc : upd d x.b (min (d x.b) (x.f (d c))) c = d c := by
    by_cases hi : c = x.b
    · rw [← hi, upd_at]; omega
    · rw [upd_ne _ _ hi]
  refine ⟨fun i => Int.le_trans (hle i) (h.le i), h.above.upd h.above hmem hxm (by rw [hc]; exact Int.le_refl _), by rw [hcc]; exact h.same, fun u hu => ?_, fun v hv hd => ?_, fun y hy hyc => ?_⟩
  · have h1 := h0.near u c hcn hu hdc
    have h2 := h.olds u hu
    have h3 := h.same
    by_cases hi : u = x.b
    · rw [hi, upd_at, ← hi]; omega
    · rw [upd_ne _ _ hi]; exact h2
  · rw [hcc]
    have h1 := h.news v hv hd
    by_cases hi : v = x.b
    · rw [hi, upd_at, ← hi]; omega
    · rw [upd_ne _ _ hi]; exact h1
  · rw [hcc]
    rw [List.take_add_one, hx] at hy
    rcases List.mem_append.1 hy with hy | hy
    · exact Int.le_trans (hle _) (h.told y hy hyc)
    · obtain rfl : y = x := by simpa using hy
      rw [upd_at]
      omega
theorem Mid.stay {c k : Nat} (h : Mid arcs n I init d0 d done c k) {x : Arc Nat} (hx : arcs[k]? = some x) (hge : d x.b ≤ x.f (d c)) : Mid arcs n I init d0 d done c (k + 1) :=
  ⟨h.le, h.above, h.same, h.olds, h.news, fun y hy hyc => by
    rw [List.take_add_one, hx] at hy
    rcases List.mem_append.1 hy with hy | hy
    · exact h.told y hy hyc
    · obtain rfl : y = x := by simpa using hy
      exact hge⟩
theorem Mid.fin {c k : Nat} (h : Mid arcs n I init d0 d done c k) (h0 : Near arcs n I init d0 done) (hcn : c < n) (hdc : done c = false) (hk : arcs.length ≤ k) : Near arcs n I init d (mark done c) := by
  refine ⟨fun i => Int.le_trans (h.le i) (h0.le i), fun i hi => Int.le_trans (h.le i) (h0.big i hi), h.above, fun u v hv hu hd => ?_, fun x hx hd => ?_⟩
  · have hd' : done v = false := by
      simp only [mark] at hd
      split at hd
      · simp at hd
      · exact hd
    simp only [mark] at hu
    split at hu
    · rename_i e; rw [e]; exact h.news v hv hd'
    · have h1 := h0.near u c hcn hu hdc
      have h2 := h.olds u hu
      have h3 := h.same
      have h4 := h.news v hv hd'
      omega
  · by_cases e : x.a = c
    · rw [e]; exact h.told x (by rw [List.take_of_length_le hk]; exact hx) e
    · simp only [mark, if_neg e] at hd
      rw [h.olds _ hd]
      exact Int.le_trans (h.le _) (h0.told x hx hd)
theorem Near.best (h : Near arcs n I init d done) (hall : ∀ v, v < n → done v = true ∨ I ≤ d v) (hb : ∀ x, x ∈ arcs → x.a < n ∧ x.b < n ∧ Mono x.f ∧ I ≤ x.f I) : Best (· ∈ arcs) init d := by
  refine ⟨⟨h.le, fun x hx => ?_⟩, h.above⟩
  obtain ⟨h1, h2, h3, h4⟩ := hb x hx
  rcases hall x.a h1 with hd | hd
  · exact h.told x hx hd
  · have := h3 _ _ hd
    have := h.big x.b h2
    omega
end
end Go.Proofs.Ytcfachfldanddaa
/- Blocks that hold a list of numbers, or of bools: how they are made, read, written. -/
namespace Go.Proofs.Ytcfachfldanddaa
open Go.RowKit

def IRow (w : World) (b : Nat) (l : List Int) : Prop := Blk w b 3 (l.map iV).toArray
def BRow (w : World) (b : Nat) (l : List Bool) : Prop := Blk w b 4 (l.map Value.bool).toArray
theorem made_is (z : Value) (n : Nat) : madeCells #[z] n = (List.replicate n z).toArray := by
  apply Array.toList_inj.1
  rw [toList_madeCells_one]
theorem IRow.made {w : World} {b n : Nat} (hb : b = w.heap.size) : IRow (w.alloc (.cells (madeCells #[.int .i64 0] n) 3)) b (List.replicate n 0) := by
  unfold IRow
  rw [made_is]
  simpa using Blk.new_ hb
theorem BRow.made {w : World} {b n : Nat} (hb : b = w.heap.size) : BRow (w.alloc (.cells (madeCells #[.bool false] n) 4)) b (List.replicate n false) := by
  unfold BRow
  rw [made_is]
  simpa using Blk.new_ hb
section
variable {w w' : World} {b : Nat} {l : List Int} {r : List Bool}
theorem IRow.cell (h : IRow w b l) {k : Nat} (hk : k < l.length) : w.cell? ⟨b, k, none⟩ = some (.int .i64 (gi l k)) := by
  rw [Blk.cell h]
  simp [gi_get hk]
theorem BRow.cell (h : BRow w b r) {k : Nat} {x : Bool} (hk : r[k]? = some x) : w.cell? ⟨b, k, none⟩ = some (.bool x) := by
  rw [Blk.cell h]
  simp [hk]
theorem IRow.set (h : IRow w b l) (k : Nat) (x : Int) : IRow (w.setCell ⟨b, k, none⟩ (.int .i64 x)) b (l.set k x) := by
  have := Blk.set_ h k (.int .i64 x)
  unfold IRow
  simpa [List.map_set] using this
theorem BRow.set (h : BRow w b r) (k : Nat) (x : Bool) : BRow (w.setCell ⟨b, k, none⟩ (.bool x)) b (r.set k x) := by
  have := Blk.set_ h k (.bool x)
  unfold BRow
  simpa [List.map_set] using this
theorem IRow.slAt (h : IRow w b l) (hi : ∀ k, k < l.length → I64 (gi l k)) : SlAt RInt 1 w (some ⟨b, 0, none⟩) l := by
  refine ⟨b, 0, fun i x hx => ⟨rfl, Blk.lt h, ?_, ?_⟩⟩
  · have hl := lt_of_get hx
    have := IRow.cell h hl
    unfold cellIs
    rw [gi_of hx] at this
    simpa using this
  · have hl := lt_of_get hx
    have := hi i hl
    rwa [gi_of hx] at this
end
theorem info_int : (Try.prog.info? 3).map (fun i => (i.zero, i.size, i.bytes)) = some (some (.int .i64 0), 1, 8) := by kernel_rfl
theorem info_bool : (Try.prog.info? 4).map (fun i => (i.zero, i.size, i.bytes)) = some (some (.bool false), 1, 1) := by kernel_rfl
theorem make_ints (n : Nat) (h : n ≤ 1000000) (w : World) : (Instr.makeSlice 81 (.int .i64 (n : Int)) (.int .i64 (n : Int))).run Try.prog w = .ok (.slice (some ⟨w.heap.size, 0, none⟩) n n) (w.alloc (.cells (madeCells #[.int .i64 0] n) 3)) :=
  run_make_row' (P := Try.prog) 81 3 (.int .i64 0) 8 Try.underlying81 info_int rfl .i64 .i64 n (by omega) (by omega) w
theorem make_bools (n : Nat) (h : n ≤ 1000000) (w : World) : (Instr.makeSlice 89 (.int .i64 (n : Int)) (.int .i64 (n : Int))).run Try.prog w = .ok (.slice (some ⟨w.heap.size, 0, none⟩) n n) (w.alloc (.cells (madeCells #[.bool false] n) 4)) :=
  run_make_row' (P := Try.prog) 89 4 (.bool false) 1 Try.underlying89 info_bool rfl .i64 .i64 n (by omega) (by omega) w
end Go.Proofs.Ytcfachfldanddaa
/- What the program's functions compute, as plain Lean functions; no program in sight. -/
namespace Go.Proofs.Ytcfachfldanddaa
open Go.RowKit

def inB (n lo hi : Int) : Bool := decide (lo ≤ n ∧ n ≤ hi)
def legOk (l : LegD) (h : Int) : Bool := decide (0 ≤ l.f ∧ l.f < l.t ∧ l.t ≤ h ∧ 1 ≤ l.time ∧ l.time ≤ 50 ∧ 0 ≤ l.cost ∧ l.cost ≤ 1000)
/-- The legs of an edge, behind one that ends at p (none: no bound). -/
def legsErr (h : Int) : Option Int → List LegD → Int
  | _, [] => 0
  | p, l :: r => if legOk l h = false then 1 else if (match p with | some q => decide (l.f < q) | none => false) = true then 5 else legsErr h (some l.t) r
theorem legsErr_bad {h : Int} {p : Option Int} {l : LegD} {r : List LegD} (hl : legOk l h = false) : legsErr h p (l :: r) = 1 := by simp [legsErr, hl]
theorem legsErr_form {h q : Int} {l : LegD} {r : List LegD} (hl : legOk l h = true) (hq : l.f < q) : legsErr h (some q) (l :: r) = 5 := by simp [legsErr, hl, hq]
theorem legsErr_next {h q : Int} {l : LegD} {r : List LegD} (hl : legOk l h = true) (hq : ¬ l.f < q) : legsErr h (some q) (l :: r) = legsErr h (some l.t) r := by simp [legsErr, hl, hq]
theorem legsErr_first {h : Int} {l : LegD} {r : List LegD} (hl : legOk l h = true) : legsErr h none (l :: r) = legsErr h (some l.t) r := by simp [legsErr, hl]
/-- The leg ahead of number k. -/
def legAhead (l : List LegD) : Nat → Option Int
  | 0 => none
  | k + 1 => (l[k]?).map LegD.t
theorem legAhead_of {l : List LegD} {k : Nat} {z : LegD} (h : l[k]? = some z) : legAhead l (k + 1) = some z.t := by simp [legAhead, h]
def edgeErr (h n : Int) (x : EdgeD) : Int :=
  if inB x.a 0 (n - 1) = false ∨ inB x.b 0 (n - 1) = false then 4 else if 6 < x.legs.length then 2 else legsErr h none x.legs
def edgesErr (h n : Int) : List EdgeD → Int
  | [] => 0
  | x :: r => if edgeErr h n x = 0 then edgesErr h n r else edgeErr h n x
def lifeOk (h : Int) (l : IvlD) : Bool := decide (0 ≤ l.f ∧ l.f < l.t ∧ l.t ≤ h)
/-- P7. -/
def graphErr (g : GraphD) : Int :=
  if inB g.h 1 100 = false then 1 else if 12 < g.lives.length ∨ 30 < g.edges.length then 2 else if g.lives.all (lifeOk g.h) = false then 1 else edgesErr g.h g.lives.length g.edges
theorem graphErr_h {g : GraphD} (h : inB g.h 1 100 = false) : graphErr g = 1 := by unfold graphErr; rw [if_pos h]
theorem graphErr_large {g : GraphD} (h : inB g.h 1 100 = true) (h2 : 12 < g.lives.length ∨ 30 < g.edges.length) : graphErr g = 2 := by unfold graphErr; rw [if_neg (by simp [h]), if_pos h2]
theorem graphErr_life {g : GraphD} (h : inB g.h 1 100 = true) (h2 : ¬ (12 < g.lives.length ∨ 30 < g.edges.length)) (h3 : g.lives.all (lifeOk g.h) = false) : graphErr g = 1 := by
  unfold graphErr; rw [if_neg (by simp [h]), if_neg h2, if_pos h3]
theorem graphErr_edges {g : GraphD} (h : inB g.h 1 100 = true) (h2 : ¬ (12 < g.lives.length ∨ 30 < g.edges.length)) (h3 : g.lives.all (lifeOk g.h) = true) : graphErr g = edgesErr g.h g.lives.length g.edges := by
  unfold graphErr; rw [if_neg (by simp [h]), if_neg h2, if_neg (by simp [h3])]
theorem edgesErr_next {h n : Int} {x : EdgeD} {r : List EdgeD} (he : edgeErr h n x = 0) : edgesErr h n (x :: r) = edgesErr h n r := by rw [edgesErr, if_pos he]
theorem edgesErr_bad {h n : Int} {x : EdgeD} {r : List EdgeD} (he : ¬ edgeErr h n x = 0) : edgesErr h n (x :: r) = edgeErr h n x := by rw [edgesErr, if_neg he]
theorem all_next {α : Type} {p : α → Bool} {x : α} {r : List α} (h : p x = true) : (x :: r).all p = r.all p := by simp [h]
theorem all_bad {α : Type} {p : α → Bool} {x : α} {r : List α} (h : p x = false) : (x :: r).all p = false := by simp [h]
theorem lifeOk_true {h : Int} {l : IvlD} (h1 : 0 ≤ l.f ∧ l.f < l.t ∧ l.t ≤ h) : lifeOk h l = true := by simp [lifeOk, h1]
theorem lifeOk_false {h : Int} {l : IvlD} (h1 : ¬ (0 ≤ l.f ∧ l.f < l.t ∧ l.t ≤ h)) : lifeOk h l = false := by simp only [lifeOk, decide_eq_false_iff_not]; exact h1

/-! ### right graphs -/
structure EdgeOk (g : GraphD) (x : EdgeD) : Prop where
  a0 : 0 ≤ x.a
  a1 : x.a < g.lives.length
  b0 : 0 ≤ x.b
  b1 : x.b < g.lives.length
  six : x.legs.length ≤ 6
  legs : ∀ l, l ∈ x.legs → 0 ≤ l.f ∧ l.f < l.t ∧ l.t ≤ g.h ∧ 1 ≤ l.time ∧ l.time ≤ 50 ∧ 0 ≤ l.cost ∧ l.cost ≤ 1000
  err : legsErr g.h none x.legs = 0
structure Valid (g : GraphD) : Prop where
  h0 : 1 ≤ g.h
  h1 : g.h ≤ 100
  nl : g.lives.length ≤ 12
  ne : g.edges.length ≤ 30
  lives : ∀ l, l ∈ g.lives → 0 ≤ l.f ∧ l.f < l.t ∧ l.t ≤ g.h
  edges : ∀ x, x ∈ g.edges → EdgeOk g x

theorem legs_of_err {h : Int} : ∀ (l : List LegD) (p : Option Int), legsErr h p l = 0 → ∀ x, x ∈ l → legOk x h = true
  | [], _, _, x, hx => by simp at hx
  | y :: r, p, he, x, hx => by
    have h1 : legOk y h = true := by
      cases h0 : legOk y h
      · rw [legsErr_bad h0] at he; simp at he
      · rfl
    have h2 : legsErr h (some y.t) r = 0 := by
      cases p with
      | none => rwa [legsErr_first h1] at he
      | some q =>
        by_cases hq : y.f < q
        · rw [legsErr_form h1 hq] at he; simp at he
        · rwa [legsErr_next h1 hq] at he
    rcases List.mem_cons.1 hx with rfl | hx
    · exact h1
    · exact legs_of_err r _ h2 x hx
theorem edges_of_err {h n : Int} : ∀ (l : List EdgeD), edgesErr h n l = 0 → ∀ x, x ∈ l → edgeErr h n x = 0
  | [], _, x, hx => by simp at hx
  | y :: r, he, x, hx => by
    unfold edgesErr at he
    split at he
    · rename_i h1
      rcases List.mem_cons.1 hx with rfl | hx
      · exact h1
      · exact edges_of_err r he x hx
    · contradiction
theorem edgesErr_ok {h n : Int} : ∀ (l : List EdgeD), (∀ x, x ∈ l → edgeErr h n x = 0) → edgesErr h n l = 0
  | [], _ => rfl
  | y :: r, hh => by rw [edgesErr, if_pos (hh y (by simp))]; exact edgesErr_ok r fun x hx => hh x (by simp [hx])
theorem valid_of {g : GraphD} (h : graphErr g = 0) : Valid g := by
  unfold graphErr at h
  split at h
  · simp at h
  · rename_i h1
    split at h
    · simp at h
    · rename_i h2
      split at h
      · simp at h
      · rename_i h3
        simp [inB] at h1
        simp [lifeOk] at h3
        refine ⟨h1.1, h1.2, by omega, by omega, h3, fun x hx => ?_⟩
        have he := edges_of_err _ h x hx
        unfold edgeErr at he
        split at he
        · simp at he
        · rename_i k1
          split at he
          · simp at he
          · rename_i k2
            simp [inB] at k1
            refine ⟨by omega, by omega, by omega, by omega, by omega, fun l hl => ?_, he⟩
            have := legs_of_err _ _ he l hl
            simpa [legOk] using this
theorem valid_ok {g : GraphD} (h : Valid g) : graphErr g = 0 := by
  have h1 := h.h0; have h2 := h.h1; have h3 := h.nl; have h4 := h.ne
  rw [graphErr_edges (by simp [inB]; omega) (by omega) (by simp [lifeOk]; exact h.lives)]
  refine edgesErr_ok _ fun x hx => ?_
  have e := h.edges x hx
  have e1 := e.a0; have e2 := e.a1; have e3 := e.b0; have e4 := e.b1; have e5 := e.six
  unfold edgeErr
  rw [if_neg (by simp [inB]; omega), if_neg (by omega)]
  exact e.err

/-! ### one step -/
def aliveB (g : GraphD) (v t : Int) : Bool := match g.lives[v.toNat]? with
  | some l => decide (l.f ≤ t ∧ t < l.t)
  | none => false
theorem aliveB_of {g : GraphD} {v t : Int} {l : IvlD} (h : g.lives[v.toNat]? = some l) : aliveB g v t = decide (l.f ≤ t ∧ t < l.t) := by simp [aliveB, h]
def leaves (t : Int) : List LegD → Option LegD
  | [] => none
  | x :: l => if x.f ≤ t ∧ t < x.t then some x else leaves t l
theorem leaves_hit {t : Int} {x : LegD} {l : List LegD} (h : x.f ≤ t ∧ t < x.t) : leaves t (x :: l) = some x := by simp [leaves, h]
theorem leaves_miss {t : Int} {x : LegD} {l : List LegD} (h : ¬ (x.f ≤ t ∧ t < x.t)) : leaves t (x :: l) = leaves t l := by rw [leaves, if_neg h]
theorem leaves_mem {t : Int} {x : LegD} : ∀ {l : List LegD}, leaves t l = some x → x ∈ l ∧ x.f ≤ t ∧ t < x.t
  | [], h => by simp [leaves] at h
  | y :: l, h => by
    unfold leaves at h
    split at h
    · rename_i h1
      obtain rfl : y = x := by simpa using h
      exact ⟨by simp, h1⟩
    · have := leaves_mem h
      exact ⟨by simp [this.1], this.2⟩
/-- Who leaves along an edge at a time: by which leg, and when one comes. -/
def arrive (g : GraphD) (x : EdgeD) (t : Int) : Option (LegD × Int) := match leaves t x.legs with
  | some l => if aliveB g x.a t = true ∧ t + l.time < g.h ∧ aliveB g x.b (t + l.time) = true then some (l, t + l.time) else none
  | none => none
theorem arrive_no {g : GraphD} {x : EdgeD} {t : Int} (h : leaves t x.legs = none) : arrive g x t = none := by simp [arrive, h]
theorem arrive_of {g : GraphD} {x : EdgeD} {t : Int} {l : LegD} (h : leaves t x.legs = some l) :
    arrive g x t = if aliveB g x.a t = true ∧ t + l.time < g.h ∧ aliveB g x.b (t + l.time) = true then some (l, t + l.time) else none := by simp [arrive, h]
/-- What is wrong with a graph, a vertex and a time. -/
def placeErr (g : GraphD) (v t : Int) : Int :=
  if graphErr g = 0 then (if inB v 0 (g.lives.length - 1) = true then (if inB t 0 (g.h - 1) = true then 0 else 1) else 4) else graphErr g
theorem placeErr_g {g : GraphD} {v t : Int} (h : ¬ graphErr g = 0) : placeErr g v t = graphErr g := by unfold placeErr; rw [if_neg h]
theorem placeErr_v {g : GraphD} {v t : Int} (h : graphErr g = 0) (h2 : inB v 0 (g.lives.length - 1) = false) : placeErr g v t = 4 := by unfold placeErr; rw [if_pos h, if_neg (by simp [h2])]
theorem placeErr_t {g : GraphD} {v t : Int} (h : graphErr g = 0) (h2 : inB v 0 (g.lives.length - 1) = true) (h3 : inB t 0 (g.h - 1) = false) : placeErr g v t = 1 := by
  unfold placeErr; rw [if_pos h, if_pos h2, if_neg (by simp [h3])]
theorem placeErr_0 {g : GraphD} {v t : Int} (h : graphErr g = 0) (h2 : inB v 0 (g.lives.length - 1) = true) (h3 : inB t 0 (g.h - 1) = true) : placeErr g v t = 0 := by
  unfold placeErr; rw [if_pos h, if_pos h2, if_pos h3]
theorem place_of {g : GraphD} {v t : Int} (h : placeErr g v t = 0) : Valid g ∧ (0 ≤ v ∧ v < g.lives.length) ∧ 0 ≤ t ∧ t < g.h := by
  unfold placeErr at h
  split at h
  · rename_i h1
    split at h
    · rename_i h2
      split at h
      · rename_i h3
        simp [inB] at h2 h3
        exact ⟨valid_of h1, by omega, by omega⟩
      · simp at h
    · simp at h
  · contradiction
end Go.Proofs.Ytcfachfldanddaa
/- Journeys, as plain Lean functions. -/
namespace Go.Proofs.Ytcfachfldanddaa
open Go.RowKit

/-- One hop from a place: where one is then, when, and at what cost. -/
def hopTo (g : GraphD) (v t : Int) (h : HopD) : Option (Int × Int × Int) :=
  if inB h.edge 0 (g.edges.length - 1) = true then (match g.edges[h.edge.toNat]? with
    | some x => if x.a = v ∧ t ≤ h.depart then (arrive g x h.depart).map fun p => (x.b, p.2, p.1.cost) else none
    | none => none) else none
theorem hopTo_far {g : GraphD} {v t : Int} {h : HopD} (h1 : inB h.edge 0 (g.edges.length - 1) = false) : hopTo g v t h = none := by unfold hopTo; rw [if_neg (by simp [h1])]
theorem hopTo_in {g : GraphD} {v t : Int} {h : HopD} {x : EdgeD} (h1 : inB h.edge 0 (g.edges.length - 1) = true) (hx : g.edges[h.edge.toNat]? = some x) :
    hopTo g v t h = if x.a = v ∧ t ≤ h.depart then (arrive g x h.depart).map fun p => (x.b, p.2, p.1.cost) else none := by
  unfold hopTo; rw [if_pos h1, hx]
theorem hopTo_not {g : GraphD} {v t : Int} {h : HopD} {x : EdgeD} (h1 : inB h.edge 0 (g.edges.length - 1) = true) (hx : g.edges[h.edge.toNat]? = some x) (h2 : ¬ (x.a = v ∧ t ≤ h.depart)) : hopTo g v t h = none := by
  rw [hopTo_in h1 hx, if_neg h2]
theorem hopTo_none {g : GraphD} {v t : Int} {h : HopD} {x : EdgeD} (h1 : inB h.edge 0 (g.edges.length - 1) = true) (hx : g.edges[h.edge.toNat]? = some x) (h3 : arrive g x h.depart = none) : hopTo g v t h = none := by
  rw [hopTo_in h1 hx]; split <;> simp [h3]
theorem hopTo_some {g : GraphD} {v t to : Int} {h : HopD} {x : EdgeD} {l : LegD} (h1 : inB h.edge 0 (g.edges.length - 1) = true) (hx : g.edges[h.edge.toNat]? = some x) (h2 : x.a = v ∧ t ≤ h.depart)
    (h3 : arrive g x h.depart = some (l, to)) : hopTo g v t h = some (x.b, to, l.cost) := by
  rw [hopTo_in h1 hx, if_pos h2, h3]; rfl
def goL (g : GraphD) : Int → Int → Int → List HopD → Option (Int × Int × Int)
  | v, t, c, [] => some (v, t, c)
  | v, t, c, h :: r => match hopTo g v t h with
    | some p => goL g p.1 p.2.1 (c + p.2.2) r
    | none => none
theorem goL_none {g : GraphD} {v t c : Int} {h : HopD} {r : List HopD} (hh : hopTo g v t h = none) : goL g v t c (h :: r) = none := by simp [goL, hh]
theorem goL_some {g : GraphD} {v t c a b d : Int} {h : HopD} {r : List HopD} (hh : hopTo g v t h = some (a, b, d)) : goL g v t c (h :: r) = goL g a b (c + d) r := by simp [goL, hh]
/-- P15: Go, its four results. -/
def goR (g : GraphD) (v t : Int) (l : List HopD) : Int × Int × Int × Int :=
  if placeErr g v t = 0 then (if 500 < l.length then (0, 0, 0, 2) else if aliveB g v t = true then (match goL g v t 0 l with
    | some p => (p.1, p.2.1, p.2.2, 0)
    | none => (0, 0, 0, 5)) else (0, 0, 0, 5)) else (0, 0, 0, placeErr g v t)
theorem goR_place {g : GraphD} {v t : Int} {l : List HopD} (h : ¬ placeErr g v t = 0) : goR g v t l = (0, 0, 0, placeErr g v t) := by unfold goR; rw [if_neg h]
theorem goR_large {g : GraphD} {v t : Int} {l : List HopD} (h : placeErr g v t = 0) (h2 : 500 < l.length) : goR g v t l = (0, 0, 0, 2) := by unfold goR; rw [if_pos h, if_pos h2]
theorem goR_dead {g : GraphD} {v t : Int} {l : List HopD} (h : placeErr g v t = 0) (h2 : ¬ 500 < l.length) (h3 : aliveB g v t = false) : goR g v t l = (0, 0, 0, 5) := by
  unfold goR; rw [if_pos h, if_neg h2, if_neg (by simp [h3])]
theorem goR_none {g : GraphD} {v t : Int} {l : List HopD} (h : placeErr g v t = 0) (h2 : ¬ 500 < l.length) (h3 : aliveB g v t = true) (h4 : goL g v t 0 l = none) : goR g v t l = (0, 0, 0, 5) := by
  unfold goR; rw [if_pos h, if_neg h2, if_pos h3, h4]
theorem goR_some {g : GraphD} {v t a b c : Int} {l : List HopD} (h : placeErr g v t = 0) (h2 : ¬ 500 < l.length) (h3 : aliveB g v t = true) (h4 : goL g v t 0 l = some (a, b, c)) : goR g v t l = (a, b, c, 0) := by
  unfold goR; rw [if_pos h, if_neg h2, if_pos h3, h4]
/-- The value of the four results. -/
def goV (p : Int × Int × Int × Int) : Value := .tuple #[.int .i64 p.1, .int .i64 p.2.1, .int .i64 p.2.2.1, .int .i64 p.2.2.2]
theorem arrive_some {g : GraphD} {x : EdgeD} {t to : Int} {l : LegD} (h : arrive g x t = some (l, to)) : l ∈ x.legs ∧ l.f ≤ t ∧ t < l.t ∧ to = t + l.time ∧ to < g.h ∧ aliveB g x.a t = true ∧ aliveB g x.b to = true := by
  unfold arrive at h
  cases hl : leaves t x.legs with
  | none => rw [hl] at h; simp at h
  | some y =>
    rw [hl] at h
    simp only at h
    split at h
    · rename_i h1
      simp only [Option.some.injEq, Prod.mk.injEq] at h
      obtain ⟨rfl, rfl⟩ := h
      have := leaves_mem hl
      exact ⟨this.1, this.2.1, this.2.2, rfl, h1.2.1, h1.1, h1.2.2⟩
    · simp at h
end Go.Proofs.Ytcfachfldanddaa
