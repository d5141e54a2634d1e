/- Systems of inequalities along arcs and their greatest solutions; no program in sight. -/
import Derived.Test.YtcgnalpcbcpmkaaMem
namespace Go.Proofs.Ytcgnalpcbcpmkaa

structure Arc (ι : Type) where
  a : ι
  b : ι
  f : Int → Int
section
variable {ι : Type}
def Sol (A : Arc ι → Prop) (init d : ι → Int) : Prop := (∀ i, d i ≤ init i) ∧ ∀ x, A x → d x.b ≤ x.f (d x.a)
def Above (A : Arc ι → Prop) (init d : ι → Int) : Prop := ∀ e, Sol A init e → ∀ i, e i ≤ d i
/-- The greatest solution. -/
def Best (A : Arc ι → Prop) (init d : ι → Int) : Prop := Sol A init d ∧ Above A init d
def Mono (f : Int → Int) : Prop := ∀ s t, s ≤ t → f s ≤ f t
variable {A : Arc ι → Prop} {init d e : ι → Int}
theorem Best.eq (h : Best A init d) (k : Best A init e) : d = e := funext fun i => Int.le_antisymm (k.2 d h.1 i) (h.2 e k.1 i)
theorem above_init : Above A init init := fun _ h i => h.1 i
variable [DecidableEq ι]
def upd (d : ι → Int) (i : ι) (x : Int) : ι → Int := fun j => if j = i then x else d j
theorem upd_at (d : ι → Int) (i : ι) (x : Int) : upd d i x i = x := by simp [upd]
theorem upd_ne (d : ι → Int) {i j : ι} (x : Int) (h : ¬ j = i) : upd d i x j = d j := by simp [upd, h]
theorem upd_same (d : ι → Int) (i : ι) : upd d i (d i) = d := by funext j; by_cases h : j = i <;> simp [upd, h]
theorem Above.upd {d' : ι → Int} (h : Above A init d) (h' : Above A init d') {x : Arc ι} (hx : A x) (hm : Mono x.f) {n : Int} (hn : x.f (d' x.a) ≤ n) : Above A init (upd d x.b (min (d x.b) n)) := by
  intro e he i
  by_cases hi : i = x.b
  · subst hi
    rw [upd_at]
    have h1 := h e he x.b
    have h2 := he.2 x hx
    have h3 := hm _ _ (h' e he x.a)
    omega
  · rw [upd_ne _ _ hi]; exact h e he i
theorem Best.tight (h : Best A init d) (hm : ∀ x, A x → Mono x.f) {j : ι} (hj : d j < init j) : ∃ x, A x ∧ x.b = j ∧ x.f (d x.a) = d j := by
  refine Classical.byContradiction fun hno => ?_
  have hle : ∀ i, d i ≤ Go.Proofs.Ytcgnalpcbcpmkaa.upd d j (d j + 1) i := fun i => by
    by_cases hi : i = j
    · subst hi; rw [upd_at]; omega
    · rw [upd_ne _ _ hi]; exact Int.le_refl _
  have hs : Sol A init (Go.Proofs.Ytcgnalpcbcpmkaa.upd d j (d j + 1)) := by
    refine ⟨fun i => ?_, fun x hx => ?_⟩
    · by_cases hi : i = j
      · subst hi; rw [upd_at]; omega
      · rw [upd_ne _ _ hi]; exact h.1.1 i
    · have h1 := h.1.2 x hx
      have h2 := hm x hx _ _ (hle x.a)
      by_cases hi : x.b = j
      · rw [hi, upd_at]
        have h3 : ¬ x.f (d x.a) = d j := fun e => hno ⟨x, hx, hi, e⟩
        rw [hi] at h1
        omega
      · rw [upd_ne _ _ hi]; omega
  have := h.2 _ hs j
  rw [upd_at] at this
  omega
omit [DecidableEq ι] in
/-- What only comes from far away is far away. -/
theorem Best.far (h : Best A init d) {I : Int} (hI : ∀ i, d i ≤ I) (hm : ∀ x, A x → Mono x.f) (hf : ∀ x, A x → I ≤ x.f I) (S : ι → Prop) (hS : ∀ x, A x → S x.b → S x.a) (hi : ∀ i, S i → I ≤ init i) : ∀ i, S i → d i = I := by
  intro i hi0
  have hs : Sol A init (fun j => open Classical in if S j then I else d j) := by
    refine ⟨fun j => ?_, fun x hx => ?_⟩
    · by_cases hj : S j
      · simp only [if_pos hj]; exact hi j hj
      · simp only [if_neg hj]; exact h.1.1 j
    · have hge : d x.a ≤ (open Classical in if S x.a then I else d x.a) := by
        by_cases ha : S x.a
        · rw [if_pos ha]; exact hI _
        · rw [if_neg ha]; exact Int.le_refl _
      by_cases hb : S x.b
      · simp only [if_pos hb, if_pos (hS x hx hb)]; exact hf x hx
      · simp only [if_neg hb]
        exact Int.le_trans (h.1.2 x hx) (hm x hx _ _ hge)
  have := h.2 _ hs i
  simp only [if_pos hi0] at this
  exact Int.le_antisymm (hI i) this
end
/-- A bounded set of numbers has a greatest one. -/
theorem greatest {P : Int → Prop} {B : Int} (hB : ∀ x, P x → x ≤ B) (h : ∃ x, P x) : ∃ m, P m ∧ ∀ x, P x → x ≤ m := by
  obtain ⟨x, hx⟩ := h
  obtain ⟨k, hk⟩ : ∃ k : Nat, k = (B - x).toNat := ⟨_, rfl⟩
  induction k using Nat.strongRecOn generalizing x with
  | ind k ih =>
    by_cases hm : ∀ y, P y → y ≤ x
    · exact ⟨x, hx, hm⟩
    · have ⟨y, hy⟩ := Classical.not_forall.1 hm
      have ⟨h1, h2⟩ := Classical.not_imp.1 hy
      have h3 := hB y h1
      have h4 := hB x hx
      exact ih (B - y).toNat (by omega) y h1 rfl
/-- There is a greatest solution, if there is one at all. -/
theorem Best.ex {ι : Type} {A : Arc ι → Prop} {init : ι → Int} (hm : ∀ x, A x → Mono x.f) (h : ∃ e, Sol A init e) : ∃ d, Best A init d := by
  obtain ⟨e0, h0⟩ := h
  have hg : ∀ i, ∃ m, (∃ e, Sol A init e ∧ e i = m) ∧ ∀ x, (∃ e, Sol A init e ∧ e i = x) → x ≤ m := fun i =>
    greatest (B := init i) (fun x ⟨e, he, hx⟩ => by rw [← hx]; exact he.1 i) ⟨_, e0, h0, rfl⟩
  obtain ⟨d, hd⟩ := Classical.axiomOfChoice hg
  refine ⟨d, ⟨fun i => ?_, fun x hx => ?_⟩, fun e he i => (hd i).2 _ ⟨e, he, rfl⟩⟩
  · obtain ⟨e, he, hx⟩ := (hd i).1
    rw [← hx]; exact he.1 i
  · obtain ⟨e, he, hx'⟩ := (hd x.b).1
    rw [← hx']
    exact Int.le_trans (he.2 x hx) (hm x hx _ _ ((hd x.a).2 _ ⟨e, he, rfl⟩))

/-! ### lists as functions -/
def gi (l : List Int) (v : Nat) : Int := l.getD v 0
theorem gi_of {l : List Int} {v : Nat} {x : Int} (h : l[v]? = some x) : gi l v = x := by simp [gi, List.getD, h]
theorem gi_get {l : List Int} {v : Nat} (h : v < l.length) : l[v]? = some (gi l v) := by simp [gi, List.getD, h]
theorem gi_far {l : List Int} {v : Nat} (h : l.length ≤ v) : gi l v = 0 := by simp [gi, List.getD, h]
theorem gi_set {l : List Int} {i : Nat} (h : i < l.length) (x : Int) : gi (l.set i x) = upd (gi l) i x := by
  funext j
  by_cases hj : j = i
  · subst hj; rw [upd_at]; exact gi_of (by simp [h])
  · rw [upd_ne _ _ hj]
    simp only [gi, List.getD]
    rw [List.getElem?_set_ne (fun h => hj h.symm)]
theorem gi_ext {l r : List Int} (hl : l.length = r.length) (h : gi l = gi r) : l = r := by
  refine List.ext_getElem? fun i => ?_
  by_cases hi : i < l.length
  · rw [gi_get hi, gi_get (by omega), h]
  · rw [List.getElem?_eq_none (by omega), List.getElem?_eq_none (by omega)]
theorem gi_eq_of {l r : List Int} (hl : l.length = r.length) (h : ∀ i, i < l.length → gi l i = gi r i) : l = r := by
  refine gi_ext hl (funext fun i => ?_)
  by_cases hi : i < l.length
  · exact h i hi
  · rw [gi_far (by omega), gi_far (by omega)]
/-- How much there is left to lose. -/
def total (l : List Int) : Nat := (l.map Int.toNat).sum
theorem total_set {l : List Int} {i : Nat} (h : i < l.length) (x : Int) : total (l.set i x) + (gi l i).toNat = total l + x.toNat := by
  induction l generalizing i with
  | nil => simp at h
  | cons y l ih =>
    cases i with
    | zero => simp [total, gi]; omega
    | succ i =>
      have := ih (i := i) (by simpa using h)
      simp only [List.set_cons_succ, total, List.map_cons, List.sum_cons] at *
      have e : gi (y :: l) (i + 1) = gi l i := by simp [gi]
      rw [e]
      omega
theorem total_le {l r : List Int} (hl : l.length = r.length) (h : ∀ i, gi l i ≤ gi r i) : total l ≤ total r := by
  induction l generalizing r with
  | nil => simp [total]
  | cons x l ih =>
    cases r with
    | nil => simp at hl
    | cons y r =>
      have h0 := h 0
      have h1 := ih (r := r) (by simpa using hl) fun i => by have := h (i + 1); simpa [gi] using this
      simp [gi] at h0
      simp only [total, List.map_cons, List.sum_cons] at *
      omega
theorem total_lt {l r : List Int} (hl : l.length = r.length) (h : ∀ i, gi l i ≤ gi r i) (h0 : ∀ i, 0 ≤ gi l i) (hne : ¬ l = r) : total l < total r := by
  induction l generalizing r with
  | nil =>
    cases r with
    | nil => exact absurd rfl hne
    | cons y r => simp at hl
  | cons x l ih =>
    cases r with
    | nil => simp at hl
    | cons y r =>
      have k0 := h 0
      have k1 := h0 0
      have hs : ∀ i, gi l i ≤ gi r i := fun i => by have := h (i + 1); simpa [gi] using this
      have hp : ∀ i, 0 ≤ gi l i := fun i => by have := h0 (i + 1); simpa [gi] using this
      simp [gi] at k0 k1
      have hl' : l.length = r.length := by simpa using hl
      have h2 := total_le hl' hs
      by_cases e : l = r
      · have : ¬ x = y := fun e' => hne (by rw [e, e'])
        simp only [total, List.map_cons, List.sum_cons] at *
        omega
      · have := ih hl' hs hp e
        simp only [total, List.map_cons, List.sum_cons] at *
        omega

/-! ### one vertex after the other, the nearest one first -/
section
variable {arcs : List (Arc Nat)} {init d d0 : Nat → Int} {done : Nat → Bool} {n : Nat} {I : Int}
/-- What holds whenever all of a vertex's arcs have been looked at. -/
structure Near (arcs : List (Arc Nat)) (n : Nat) (I : Int) (init d : Nat → Int) (done : Nat → Bool) : Prop where
  le : ∀ i, d i ≤ init i
  big : ∀ i, i < n → d i ≤ I
  above : Above (· ∈ arcs) init d
  near : ∀ u v, v < n → done u = true → done v = false → d u ≤ d v
  told : ∀ x, x ∈ arcs → done x.a = true → d x.b ≤ x.f (d x.a)
/-- .. in the midst of a vertex's arcs. -/
structure Mid (arcs : List (Arc Nat)) (n : Nat) (I : Int) (init d0 d : Nat → Int) (done : Nat → Bool) (c k : Nat) : Prop where
  le : ∀ i, d i ≤ d0 i
  above : Above (· ∈ arcs) init d
  same : d c = d0 c
  olds : ∀ u, done u = true → d u = d0 u
  news : ∀ v, v < n → done v = false → d c ≤ d v
  told : ∀ x, x ∈ arcs.take k → x.a = c → d x.b ≤ x.f (d c)
def mark (done : Nat → Bool) (c : Nat) : Nat → Bool := fun j => if j = c then true else done j
theorem Near.begin (h : Near arcs n I init d done) {c : Nat} (hm : ∀ v, v < n → done v = false → d c ≤ d v) : Mid arcs n I init d d done c 0 :=
  ⟨fun _ => Int.le_refl _, h.above, rfl, fun _ _ => rfl, hm, fun x hx => by simp at hx⟩
theorem Mid.skip {c k : Nat} (h : Mid arcs n I init d0 d done c k) {x : Arc Nat} (hx : arcs[k]? = some x) (hc : ¬ x.a = c) : Mid arcs n I init d0 d done c (k + 1) :=
  ⟨h.le, h.above, h.same, h.olds, h.news, fun y hy hyc => by
    rw [List.take_add_one, hx] at hy
    rcases List.mem_append.1 hy with hy | hy
    · exact h.told y hy hyc
    · obtain rfl : y = x := by simpa using hy
      exact absurd hyc hc⟩
theorem Mid.step {c k : Nat} (h : Mid arcs n I init d0 d done c k) (h0 : Near arcs n I init d0 done) (hcn : c < n) (hdc : done c = false) {x : Arc Nat} (hx : arcs[k]? = some x) (hc : x.a = c) (hxm : Mono x.f) (hge : d c ≤ x.f (d c)) :
    Mid arcs n I init d0 (upd d x.b (min (d x.b) (x.f (d c)))) done c (k + 1) := by
  have hmem : x ∈ arcs := List.mem_of_getElem? hx
  have hle : ∀ i, upd d x.b (min (d x.b) (x.f (d c))) i ≤ d i := fun i => by
    by_cases hi : i = x.b
    · subst hi; rw [upd_at]; omega
    · rw [upd_ne _ _ hi]; exact Int.le_refl _
  have hcc : upd d x.b (min (d x.b) (x.f (d c))) c = d c := by
    by_cases hi : c = x.b
    · rw [← hi, upd_at]; omega
    · rw [upd_ne _ _ hi]
  refine ⟨fun i => Int.le_trans (hle i) (h.le i), h.above.upd h.above hmem hxm (by rw [hc]; exact Int.le_refl _), by rw [hcc]; exact h.same, fun u hu => ?_, fun v hv hd => ?_, fun y hy hyc => ?_⟩
  · have h1 := h0.near u c hcn hu hdc
    have h2 := h.olds u hu
    have h3 := h.same
    by_cases hi : u = x.b
    · rw [hi, upd_at, ← hi]; omega
    · rw [upd_ne _ _ hi]; exact h2
  · rw [hcc]
    have h1 := h.news v hv hd
    by_cases hi : v = x.b
    · rw [hi, upd_at, ← hi]; omega
    · rw [upd_ne _ _ hi]; exact h1
  · rw [hcc]
    rw [List.take_add_one, hx] at hy
    rcases List.mem_append.1 hy with hy | hy
    · exact Int.le_trans (hle _) (h.told y hy hyc)
    · obtain rfl : y = x := by simpa using hy
      rw [upd_at]
      omega
theorem Mid.stay {c k : Nat} (h : Mid arcs n I init d0 d done c k) {x : Arc Nat} (hx : arcs[k]? = some x) (hge : d x.b ≤ x.f (d c)) : Mid arcs n I init d0 d done c (k + 1) :=
  ⟨h.le, h.above, h.same, h.olds, h.news, fun y hy hyc => by
    rw [List.take_add_one, hx] at hy
    rcases List.mem_append.1 hy with hy | hy
    · exact h.told y hy hyc
    · obtain rfl : y = x := by simpa using hy
      exact hge⟩
theorem Mid.fin {c k : Nat} (h : Mid arcs n I init d0 d done c k) (h0 : Near arcs n I init d0 done) (hcn : c < n) (hdc : done c = false) (hk : arcs.length ≤ k) : Near arcs n I init d (mark done c) := by
  refine ⟨fun i => Int.le_trans (h.le i) (h0.le i), fun i hi => Int.le_trans (h.le i) (h0.big i hi), h.above, fun u v hv hu hd => ?_, fun x hx hd => ?_⟩
  · have hd' : done v = false := by
      simp only [mark] at hd
      split at hd
      · simp at hd
      · exact hd
    simp only [mark] at hu
    split at hu
    · rename_i e; rw [e]; exact h.news v hv hd'
    · have h1 := h0.near u c hcn hu hdc
      have h2 := h.olds u hu
      have h3 := h.same
      have h4 := h.news v hv hd'
      omega
  · by_cases e : x.a = c
    · rw [e]; exact h.told x (by rw [List.take_of_length_le hk]; exact hx) e
    · simp only [mark, if_neg e] at hd
      rw [h.olds _ hd]
      exact Int.le_trans (h.le _) (h0.told x hx hd)
theorem Near.best (h : Near arcs n I init d done) (hall : ∀ v, v < n → done v = true ∨ I ≤ d v) (hb : ∀ x, x ∈ arcs → x.a < n ∧ x.b < n ∧ Mono x.f ∧ I ≤ x.f I) : Best (· ∈ arcs) init d := by
  refine ⟨⟨h.le, fun x hx => ?_⟩, h.above⟩
  obtain ⟨h1, h2, h3, h4⟩ := hb x hx
  rcases hall x.a h1 with hd | hd
  · exact h.told x hx hd
  · have := h3 _ _ hd
    have := h.big x.b h2
    omega
end
end Go.Proofs.Ytcgnalpcbcpmkaa
