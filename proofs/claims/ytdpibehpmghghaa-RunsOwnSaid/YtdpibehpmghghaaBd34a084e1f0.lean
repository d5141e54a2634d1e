/- Several texts in one: Sys, Spec2, Spec3. -/
import Derived.Test.YtdpibehpmghghaaBd8d00ac2edb
import Derived.Test.YtdpibehpmghghaaBdc7e691d77d
/- Systems of inequalities along arcs and their greatest solutions; no program in sight. -/
namespace Go.Proofs.Ytdpibehpmghghaa

structure Arc (ι : Type) where
  a : ι
  b : ι
  f : Int → Int
section
variable {ι : Type}
def Sol (A : Arc ι → Prop) (init d : ι → Int) : Prop := (∀ i, d i ≤ init i) ∧ ∀ x, A x → d x.b ≤ x.f (d x.a)
def Above (A : Arc ι → Prop) (init d : ι → Int) : Prop := ∀ e, Sol A init e → ∀ i, e i ≤ d i
/-- The greatest solution. -/
def Best (A : Arc ι → Prop) (init d : ι → Int) : Prop := Sol A init d ∧ Above A init d
def Mono (f : Int → Int) : Prop := ∀ s t, s ≤ t → f s ≤ f t
variable {A : Arc ι → Prop} {init d e : ι → Int}
theorem Best.eq (h : Best A init d) (k : Best A init e) : d = e := funext fun i => Int.le_antisymm (k.2 d h.1 i) (h.2 e k.1 i)
theorem above_init : Above A init init := fun _ h i => h.1 i
variable [DecidableEq ι]
def upd (d : ι → Int) (i : ι) (x : Int) : ι → Int := fun j => if j = i then x else d j
theorem upd_at (d : ι → Int) (i : ι) (x : Int) : upd d i x i = x := by simp [upd]
theorem upd_ne (d : ι → Int) {i j : ι} (x : Int) (h : ¬ j = i) : upd d i x j = d j := by simp [upd, h]
theorem upd_same (d : ι → Int) (i : ι) : upd d i (d i) = d := by funext j; by_cases h : j = i <;> simp [upd, h]
theorem Above.upd {d' : ι → Int} (h : Above A init d) (h' : Above A init d') {x : Arc ι} (hx : A x) (hm : Mono x.f) {n : Int} (hn : x.f (d' x.a) ≤ n) : Above A init (upd d x.b (min (d x.b) n)) := by
  intro e he i
  by_cases hi : i = x.b
  · subst hi
    rw [upd_at]
    have h1 := h e he x.b
    have h2 := he.2 x hx
    have h3 := hm _ _ (h' e he x.a)
    omega
  · rw [upd_ne _ _ hi]; exact h e he i
theorem Best.tight (h : Best A init d) (hm : ∀ x, A x → Mono x.f) {j : ι} (hj : d j < init j) : ∃ x, A x ∧ x.b = j ∧ x.f (d x.a) = d j := by
  refine Classical.byContradiction fun hno => ?_
  have hle : ∀ i, d i ≤ Go.Proofs.Ytdpibehpmghghaa.upd d j (d j + 1) i := fun i => by
    by_cases hi : i = j
    · subst hi; rw [upd_at]; omega
    · rw [upd_ne _ _ hi]; exact Int.le_refl _
  have hs : Sol A init (Go.Proofs.Ytdpibehpmghghaa.upd d j (d j + 1)) := by
    refine ⟨fun i => ?_, fun x hx => ?_⟩
    · by_cases hi : i = j
      · subst hi; rw [upd_at]; omega
      · rw [upd_ne _ _ hi]; exact h.1.1 i
    · have h1 := h.1.2 x hx
      have h2 := hm x hx _ _ (hle x.a)
      by_cases hi : x.b = j
      · rw [hi, upd_at]
        have h3 : ¬ x.f (d x.a) = d j := fun e => hno ⟨x, hx, hi, e⟩
        rw [hi] at h1
        omega
      · rw [upd_ne _ _ hi]; omega
  have := h.2 _ hs j
  rw [upd_at] at this
  omega
omit [DecidableEq ι] in
/-- What only comes from far away is far away. -/
theorem Best.far (h : Best A init d) {I : Int} (hI : ∀ i, d i ≤ I) (hm : ∀ x, A x → Mono x.f) (hf : ∀ x, A x → I ≤ x.f I) (S : ι → Prop) (hS : ∀ x, A x → S x.b → S x.a) (hi : ∀ i, S i → I ≤ init i) : ∀ i, S i → d i = I := by
  intro i hi0
  have hs : Sol A init (fun j => open Classical in if S j then I else d j) := by
    refine ⟨fun j => ?_, fun x hx => ?_⟩
    · by_cases hj : S j
      · simp only [if_pos hj]; exact hi j hj
      · simp only [if_neg hj]; exact h.1.1 j
    · have hge : d x.a ≤ (open Classical in if S x.a then I else d x.a) := by
        by_cases ha : S x.a
        · rw [if_pos ha]; exact hI _
        · rw [if_neg ha]; exact Int.le_refl _
      by_cases hb : S x.b
      · simp only [if_pos hb, if_pos (hS x hx hb)]; exact hf x hx
      · simp only [if_neg hb]
        exact Int.le_trans (h.1.2 x hx) (hm x hx _ _ hge)
  have := h.2 _ hs i
  simp only [if_pos hi0] at this
  exact Int.le_antisymm (hI i) this
end
/-- A bounded set of numbers has a greatest one. -/
theorem greatest {P : Int → Prop} {B : Int} (hB : ∀ x, P x → x ≤ B) (h : ∃ x, P x) : ∃ m, P m ∧ ∀ x, P x → x ≤ m := by
  obtain ⟨x, hx⟩ := h
  obtain ⟨k, hk⟩ : ∃ k : Nat, k = (B - x).toNat := ⟨_, rfl⟩
  induction k using Nat.strongRecOn generalizing x with
  | ind k ih =>
    by_cases hm : ∀ y, P y → y ≤ x
    · exact ⟨x, hx, hm⟩
    · have ⟨y, hy⟩ := Classical.not_forall.1 hm
      have ⟨h1, h2⟩ := Classical.not_imp.1 hy
      have h3 := hB y h1
      have h4 := hB x hx
      exact ih (B - y).toNat (by omega) y h1 rfl
/-- There is a greatest solution, if there is one at all. -/
theorem Best.ex {ι : Type} {A : Arc ι → Prop} {init : ι → Int} (hm : ∀ x, A x → Mono x.f) (h : ∃ e, Sol A init e) : ∃ d, Best A init d := by
  obtain ⟨e0, h0⟩ := h
  have hg : ∀ i, ∃ m, (∃ e, Sol A init e ∧ e i = m) ∧ ∀ x, (∃ e, Sol A init e ∧ e i = x) → x ≤ m := fun i =>
    greatest (B := init i) (fun x ⟨e, he, hx⟩ => by rw [← hx]; exact he.1 i) ⟨_, e0, h0, rfl⟩
  obtain ⟨d, hd⟩ := Classical.axiomOfChoice hg
  refine ⟨d, ⟨fun i => ?_, fun x hx => ?_⟩, fun e he i => (hd i).2 _ ⟨e, he, rfl⟩⟩
  · obtain ⟨e, he, hx⟩ := (hd i).1
    rw [← hx]; exact he.1 i
  · obtain ⟨e, he, hx'⟩ := (hd x.b).1
    rw [← hx']
    exact Int.le_trans (he.2 x hx) (hm x hx _ _ ((hd x.a).2 _ ⟨e, he, rfl⟩))

/-! ### lists as functions -/
def gi (l : List Int) (v : Nat) : Int := l.getD v 0
theorem gi_of {l : List Int} {v : Nat} {x : Int} (h : l[v]? = some x) : gi l v = x := by simp [gi, List.getD, h]
theorem gi_get {l : List Int} {v : Nat} (h : v < l.length) : l[v]? = some (gi l v) := by simp [gi, List.getD, h]
theorem gi_far {l : List Int} {v : Nat} (h : l.length ≤ v) : gi l v = 0 := by simp [gi, List.getD, h]
theorem gi_set {l : List Int} {i : Nat} (h : i < l.length) (x : Int) : gi (l.set i x) = upd (gi l) i x := by
  funext j
  by_cases hj : j = i
  · subst hj; rw [upd_at]; exact gi_of (by simp [h])
  · rw [upd_ne _ _ hj]
    simp only [gi, List.getD]
    rw [List.getElem?_set_ne (fun h => hj h.symm)]
theorem gi_ext {l r : List Int} (hl : l.length = r.length) (h : gi l = gi r) : l = r := by
  refine List.ext_getElem? fun i => ?_
  by_cases hi : i < l.length
  · rw [gi_get hi, gi_get (by omega), h]
  · rw [List.getElem?_eq_none (by omega), List.getElem?_eq_none (by omega)]
theorem gi_eq_of {l r : List Int} (hl : l.length = r.length) (h : ∀ i, i < l.length → gi l i = gi r i) : l = r := by
  refine gi_ext hl (funext fun i => ?_)
  by_cases hi : i < l.length
  · exact h i hi
  · rw [gi_far (by omega), gi_far (by omega)]
/-- How much there is left to lose. -/
def total (l : List Int) : Nat := (l.map Int.toNat).sum
theorem total_set {l : List Int} {i : Nat} (h : i < l.length) (x : Int) : total (l.set i x) + (gi l i).toNat = total l + x.toNat := by
  induction l generalizing i with
  | nil => simp at h
  | cons y l ih =>
    cases i with
    | zero => simp [total, gi]; omega
    | succ i =>
      have := ih (i := i) (by simpa using h)
      simp only [List.set_cons_succ, total, List.map_cons, List.sum_cons] at *
      have e : gi (y :: l) (i + 1) = gi l i := by simp [gi]
      rw [e]
      omega
theorem total_le {l r : List Int} (hl : l.length = r.length) (h : ∀ i, gi l i ≤ gi r i) : total l ≤ total r := by
  induction l generalizing r with
  | nil => simp [total]
  | cons x l ih =>
    cases r with
    | nil => simp at hl
    | cons y r =>
      have h0 := h 0
      have h1 := ih (r := r) (by simpa using hl) fun i => by have := h (i + 1); simpa [gi] using this
      simp [gi] at h0
      simp only [total, List.map_cons, List.sum_cons] at *
      omega
theorem total_lt {l r : List Int} (hl : l.length = r.length) (h : ∀ i, gi l i ≤ gi r i) (h0 : ∀ i, 0 ≤ gi l i) (hne : ¬ l = r) : total l < total r := by
  induction l generalizing r with
  | nil =>
    cases r with
    | nil => exact absurd rfl hne
    | cons y r => simp at hl
  | cons x l ih =>
    cases r with
    | nil => simp at hl
    | cons y r =>
      have k0 := h 0
      have k1 := h0 0
      have hs : ∀ i, gi l i ≤ gi r i := fun i => by have := h (i + 1); simpa [gi] using this
      have hp : ∀ i, 0 ≤ gi l i := fun i => by have := h0 (i + 1); simpa [gi] using this
      simp [gi] at k0 k1
      have hl' : l.length = r.length := by simpa using hl
      have h2 := total_le hl' hs
      by_cases e : l = r
      · have : ¬ x = y := fun e' => hne (by rw [e, e'])
        simp only [total, List.map_cons, List.sum_cons] at *
        omega
      · have := ih hl' hs hp e
        simp only [total, List.map_cons, List.sum_cons] at *
        omega

/-! ### one vertex after the other, the nearest one first -/
section
variable {arcs : List (Arc Nat)} {init d d0 : Nat → Int} {done : Nat → Bool} {n : Nat} {I : Int}
/-- What holds whenever all of a vertex's arcs have been looked at. -/
structure Near (arcs : List (Arc Nat)) (n : Nat) (I : Int) (init d : Nat → Int) (done : Nat → Bool) : Prop where
  le : ∀ i, d i ≤ init i
  big : ∀ i, i < n → d i ≤ I
  above : Above (· ∈ arcs) init d
  near : ∀ u v, v < n → done u = true → done v = false → d u ≤ d v
  told : ∀ x, x ∈ arcs → done x.a = true → d x.b ≤ x.f (d x.a)
/-- .. in the midst of a vertex's arcs. -/
structure Mid (arcs : List (Arc Nat)) (n : Nat) (I : Int) (init d0 d : Nat → Int) (done : Nat → Bool) (c k : Nat) : Prop where
  le : ∀ i, d i ≤ d0 i
  above : Above (· ∈ arcs) init d
  same : d c = d0 c
  olds : ∀ u, done u = true → d u = d0 u
  news : ∀ v, v < n → done v = false → d c ≤ d v
  told : ∀ x, x ∈ arcs.take k → x.a = c → d x.b ≤ x.f (d c)
def mark (done : Nat → Bool) (c : Nat) : Nat → Bool := fun j => if j = c then true else done j
theorem Near.begin (h : Near arcs n I init d done) {c : Nat} (hm : ∀ v, v < n → done v = false → d c ≤ d v) : Mid arcs n I init d d done c 0 :=
  ⟨fun _ => Int.le_refl _, h.above, rfl, fun _ _ => rfl, hm, fun x hx => by simp at hx⟩
theorem Mid.skip {c k : Nat} (h : Mid arcs n I init d0 d done c k) {x : Arc Nat} (hx : arcs[k]? = some x) (hc : ¬ x.a = c) : Mid arcs n I init d0 d done c (k + 1) :=
  ⟨h.le, h.above, h.same, h.olds, h.news, fun y hy hyc => by
    rw [List.take_add_one, hx] at hy
    rcases List.mem_append.1 hy with hy | hy
    · exact h.told y hy hyc
    · obtain rfl : y = x := by simpa using hy
      exact absurd hyc hc⟩
theorem Mid.step {c k : Nat} (h : Mid arcs n I init d0 d done c k) (h0 : Near arcs n I init d0 done) (hcn : c < n) (hdc : done c = false) {x : Arc Nat} (hx : arcs[k]? = some x) (hc : x.a = c) (hxm : Mono x.f) (hge : d c ≤ x.f (d c)) :
    Mid arcs n I init d0 (upd d x.b (min (d x.b) (x.f (d c)))) done c (k + 1) := by
  have hmem : x ∈ arcs := List.mem_of_getElem? hx
  have hle : ∀ i, upd d x.b (min (d x.b) (x.f (d c))) i ≤ d i := fun i => by
    by_cases hi : i = x.b
    · subst hi; rw [upd_at]; omega
    · rw [upd_ne _ _ hi]; exact Int.le_refl _
  have hcc : upd d x.b (min (d x.b) (x.f (d c))) c = d c := by
    by_cases hi : c = x.b
    · rw [← hi, upd_at]; omega
    · rw [upd_ne _ _ hi]
  refine ⟨fun i => Int.le_trans (hle i) (h.le i), h.above.upd h.above hmem hxm (by rw [hc]; exact Int.le_refl _), by rw [hcc]; exact h.same, fun u hu => ?_, fun v hv hd => ?_, fun y hy hyc => ?_⟩
  · have h1 := h0.near u c hcn hu hdc
    have h2 := h.olds u hu
    have h3 := h.same
    by_cases hi : u = x.b
    · rw [hi, upd_at, ← hi]; omega
    · rw [upd_ne _ _ hi]; exact h2
  · rw [hcc]
    have h1 := h.news v hv hd
    by_cases hi : v = x.b
    · rw [hi, upd_at, ← hi]; omega
    · rw [upd_ne _ _ hi]; exact h1
  · rw [hcc]
    rw [List.take_add_one, hx] at hy
    rcases List.mem_append.1 hy with hy | hy
    · exact Int.le_trans (hle _) (h.told y hy hyc)
    · obtain rfl : y = x := by simpa using hy
      rw [upd_at]
      omega
theorem Mid.stay {c k : Nat} (h : Mid arcs n I init d0 d done c k) {x : Arc Nat} (hx : arcs[k]? = some x) (hge : d x.b ≤ x.f (d c)) : Mid arcs n I init d0 d done c (k + 1) :=
  ⟨h.le, h.above, h.same, h.olds, h.news, fun y hy hyc => by
    rw [List.take_add_one, hx] at hy
    rcases List.mem_append.1 hy with hy | hy
    · exact h.told y hy hyc
    · obtain rfl : y = x := by simpa using hy
      exact hge⟩
theorem Mid.fin {c k : Nat} (h : Mid arcs n I init d0 d done c k) (h0 : Near arcs n I init d0 done) (hcn : c < n) (hdc : done c = false) (hk : arcs.length ≤ k) : Near arcs n I init d (mark done c) := by
  refine ⟨fun i => Int.le_trans (h.le i) (h0.le i), fun i hi => Int.le_trans (h.le i) (h0.big i hi), h.above, fun u v hv hu hd => ?_, fun x hx hd => ?_⟩
  · have hd' : done v = false := by
      simp only [mark] at hd
      split at hd
      · simp at hd
      · exact hd
    simp only [mark] at hu
    split at hu
    · rename_i e; rw [e]; exact h.news v hv hd'
    · have h1 := h0.near u c hcn hu hdc
      have h2 := h.olds u hu
      have h3 := h.same
      have h4 := h.news v hv hd'
      omega
  · by_cases e : x.a = c
    · rw [e]; exact h.told x (by rw [List.take_of_length_le hk]; exact hx) e
    · simp only [mark, if_neg e] at hd
      rw [h.olds _ hd]
      exact Int.le_trans (h.le _) (h0.told x hx hd)
theorem Near.best (h : Near arcs n I init d done) (hall : ∀ v, v < n → done v = true ∨ I ≤ d v) (hb : ∀ x, x ∈ arcs → x.a < n ∧ x.b < n ∧ Mono x.f ∧ I ≤ x.f I) : Best (· ∈ arcs) init d := by
  refine ⟨⟨h.le, fun x hx => ?_⟩, h.above⟩
  obtain ⟨h1, h2, h3, h4⟩ := hb x hx
  rcases hall x.a h1 with hd | hd
  · exact h.told x hx hd
  · have := h3 _ _ hd
    have := h.big x.b h2
    omega
end
end Go.Proofs.Ytdpibehpmghghaa
/- Journeys, as plain Lean functions. -/
namespace Go.Proofs.Ytdpibehpmghghaa
open Go.RowKit

/-- One hop from a place: where one is then, when, and at what cost. -/
def hopTo (g : GraphD) (v t : Int) (h : HopD) : Option (Int × Int × Int) :=
  if inB h.edge 0 (g.edges.length - 1) = true then (match g.edges[h.edge.toNat]? with
    | some x => if x.a = v ∧ t ≤ h.depart then (arrive g x h.depart).map fun p => (x.b, p.2, p.1.cost) else none
    | none => none) else none
theorem hopTo_far {g : GraphD} {v t : Int} {h : HopD} (h1 : inB h.edge 0 (g.edges.length - 1) = false) : hopTo g v t h = none := by unfold hopTo; rw [if_neg (by simp [h1])]
theorem hopTo_in {g : GraphD} {v t : Int} {h : HopD} {x : EdgeD} (h1 : inB h.edge 0 (g.edges.length - 1) = true) (hx : g.edges[h.edge.toNat]? = some x) :
    hopTo g v t h = if x.a = v ∧ t ≤ h.depart then (arrive g x h.depart).map fun p => (x.b, p.2, p.1.cost) else none := by
  unfold hopTo; rw [if_pos h1, hx]
theorem hopTo_not {g : GraphD} {v t : Int} {h : HopD} {x : EdgeD} (h1 : inB h.edge 0 (g.edges.length - 1) = true) (hx : g.edges[h.edge.toNat]? = some x) (h2 : ¬ (x.a = v ∧ t ≤ h.depart)) : hopTo g v t h = none := by
  rw [hopTo_in h1 hx, if_neg h2]
theorem hopTo_none {g : GraphD} {v t : Int} {h : HopD} {x : EdgeD} (h1 : inB h.edge 0 (g.edges.length - 1) = true) (hx : g.edges[h.edge.toNat]? = some x) (h3 : arrive g x h.depart = none) : hopTo g v t h = none := by
  rw [hopTo_in h1 hx]; split <;> simp [h3]
theorem hopTo_some {g : GraphD} {v t to : Int} {h : HopD} {x : EdgeD} {l : LegD} (h1 : inB h.edge 0 (g.edges.length - 1) = true) (hx : g.edges[h.edge.toNat]? = some x) (h2 : x.a = v ∧ t ≤ h.depart)
    (h3 : arrive g x h.depart = some (l, to)) : hopTo g v t h = some (x.b, to, l.cost) := by
  rw [hopTo_in h1 hx, if_pos h2, h3]; rfl
def goL (g : GraphD) : Int → Int → Int → List HopD → Option (Int × Int × Int)
  | v, t, c, [] => some (v, t, c)
  | v, t, c, h :: r => match hopTo g v t h with
    | some p => goL g p.1 p.2.1 (c + p.2.2) r
    | none => none
theorem goL_none {g : GraphD} {v t c : Int} {h : HopD} {r : List HopD} (hh : hopTo g v t h = none) : goL g v t c (h :: r) = none := by simp [goL, hh]
theorem goL_some {g : GraphD} {v t c a b d : Int} {h : HopD} {r : List HopD} (hh : hopTo g v t h = some (a, b, d)) : goL g v t c (h :: r) = goL g a b (c + d) r := by simp [goL, hh]
/-- P15: Go, its four results. -/
def goR (g : GraphD) (v t : Int) (l : List HopD) : Int × Int × Int × Int :=
  if placeErr g v t = 0 then (if 500 < l.length then (0, 0, 0, 2) else if aliveB g v t = true then (match goL g v t 0 l with
    | some p => (p.1, p.2.1, p.2.2, 0)
    | none => (0, 0, 0, 5)) else (0, 0, 0, 5)) else (0, 0, 0, placeErr g v t)
theorem goR_place {g : GraphD} {v t : Int} {l : List HopD} (h : ¬ placeErr g v t = 0) : goR g v t l = (0, 0, 0, placeErr g v t) := by unfold goR; rw [if_neg h]
theorem goR_large {g : GraphD} {v t : Int} {l : List HopD} (h : placeErr g v t = 0) (h2 : 500 < l.length) : goR g v t l = (0, 0, 0, 2) := by unfold goR; rw [if_pos h, if_pos h2]
theorem goR_dead {g : GraphD} {v t : Int} {l : List HopD} (h : placeErr g v t = 0) (h2 : ¬ 500 < l.length) (h3 : aliveB g v t = false) : goR g v t l = (0, 0, 0, 5) := by
  unfold goR; rw [if_pos h, if_neg h2, if_neg (by simp [h3])]
theorem goR_none {g : GraphD} {v t : Int} {l : List HopD} (h : placeErr g v t = 0) (h2 : ¬ 500 < l.length) (h3 : aliveB g v t = true) (h4 : goL g v t 0 l = none) : goR g v t l = (0, 0, 0, 5) := by
  unfold goR; rw [if_pos h, if_neg h2, if_pos h3, h4]
theorem goR_some {g : GraphD} {v t a b c : Int} {l : List HopD} (h : placeErr g v t = 0) (h2 : ¬ 500 < l.length) (h3 : aliveB g v t = true) (h4 : goL g v t 0 l = some (a, b, c)) : goR g v t l = (a, b, c, 0) := by
  unfold goR; rw [if_pos h, if_neg h2, if_pos h3, h4]
/-- The value of the four results. -/
def goV (p : Int × Int × Int × Int) : Value := .tuple #[.int .i64 p.1, .int .i64 p.2.1, .int .i64 p.2.2.1, .int .i64 p.2.2.2]
theorem arrive_some {g : GraphD} {x : EdgeD} {t to : Int} {l : LegD} (h : arrive g x t = some (l, to)) : l ∈ x.legs ∧ l.f ≤ t ∧ t < l.t ∧ to = t + l.time ∧ to < g.h ∧ aliveB g x.a t = true ∧ aliveB g x.b to = true := by
  unfold arrive at h
  cases hl : leaves t x.legs with
  | none => rw [hl] at h; simp at h
  | some y =>
    rw [hl] at h
    simp only at h
    split at h
    · rename_i h1
      simp only [Option.some.injEq, Prod.mk.injEq] at h
      obtain ⟨rfl, rfl⟩ := h
      have := leaves_mem hl
      exact ⟨this.1, this.2.1, this.2.2, rfl, h1.2.1, h1.1, h1.2.2⟩
    · simp at h
end Go.Proofs.Ytdpibehpmghghaa
/- The hops that leave a place, as plain Lean functions. -/
namespace Go.Proofs.Ytdpibehpmghghaa
open Go.RowKit

def hopEnc (h : HopD) : List Value := [.int .i64 h.edge, .int .i64 h.depart]
/-- Can one leave along an edge from v at d? -/
def leavesB (g : GraphD) (v d : Int) (x : EdgeD) : Bool := (arrive g x d).isSome && decide (x.a = v)
theorem leavesB_none {g : GraphD} {v d : Int} {x : EdgeD} (h : arrive g x d = none) : leavesB g v d x = false := by simp [leavesB, h]
theorem leavesB_some {g : GraphD} {v d : Int} {x : EdgeD} {p : LegD × Int} (h : arrive g x d = some p) (h2 : x.a = v) : leavesB g v d x = true := by simp [leavesB, h, h2]
theorem leavesB_other {g : GraphD} {v d : Int} {x : EdgeD} (h2 : ¬ x.a = v) : leavesB g v d x = false := by simp [leavesB, h2]
/-- The hops of one time, by edges from number i on. -/
def outsAt (g : GraphD) (v d : Int) : Nat → List EdgeD → List HopD
  | _, [] => []
  | i, x :: r => if leavesB g v d x = true then ⟨i, d⟩ :: outsAt g v d (i + 1) r else outsAt g v d (i + 1) r
theorem outsAt_yes {g : GraphD} {v d : Int} {i : Nat} {x : EdgeD} {r : List EdgeD} (h : leavesB g v d x = true) : outsAt g v d i (x :: r) = ⟨i, d⟩ :: outsAt g v d (i + 1) r := by rw [outsAt, if_pos h]
theorem outsAt_no {g : GraphD} {v d : Int} {i : Nat} {x : EdgeD} {r : List EdgeD} (h : leavesB g v d x = false) : outsAt g v d i (x :: r) = outsAt g v d (i + 1) r := by rw [outsAt, if_neg (by simp [h])]
/-- The hops of n times from d on. -/
def outsL (g : GraphD) (v : Int) : Nat → Int → List HopD
  | 0, _ => []
  | n + 1, d => outsAt g v d 0 g.edges ++ outsL g v n (d + 1)
def outs (g : GraphD) (v t : Int) : List HopD := if aliveB g v t = true then outsL g v (g.h - t).toNat t else []
/-- P15: Out, its list and its error. -/
def outR (g : GraphD) (v t : Int) : List HopD := if placeErr g v t = 0 then outs g v t else []

theorem outsAt_mem {g : GraphD} {v d : Int} {h : HopD} : ∀ (l : List EdgeD) (i : Nat), h ∈ outsAt g v d i l ↔ h.depart = d ∧ ∃ k x, l[k]? = some x ∧ h.edge = ((i + k : Nat) : Int) ∧ leavesB g v d x = true
  | [], i => by simp [outsAt]
  | y :: l, i => by
    have ih := outsAt_mem (g := g) (v := v) (d := d) (h := h) l (i + 1)
    have key : (∃ k x, (y :: l)[k]? = some x ∧ h.edge = ((i + k : Nat) : Int) ∧ leavesB g v d x = true) ↔ (h.edge = (i : Int) ∧ leavesB g v d y = true) ∨ ∃ k x, l[k]? = some x ∧ h.edge = ((i + 1 + k : Nat) : Int) ∧ leavesB g v d x = true := by
      constructor
      · rintro ⟨k, x, hk, he, hl⟩
        cases k with
        | zero =>
          have hyx : y = x := by simpa using hk
          exact .inl ⟨by simpa using he, by rw [hyx]; exact hl⟩
        | succ k => exact .inr ⟨k, x, by simpa using hk, by rw [he]; congr 1; omega, hl⟩
      · rintro (⟨he, hl⟩ | ⟨k, x, hk, he, hl⟩)
        · exact ⟨0, y, by simp, by simpa using he, hl⟩
        · exact ⟨k + 1, x, by simpa using hk, by rw [he]; congr 1; omega, hl⟩
    cases hb : leavesB g v d y
    · rw [outsAt_no hb, ih, key, hb]; simp
    · rw [outsAt_yes hb, List.mem_cons, ih, key, hb]
      constructor
      · rintro (rfl | ⟨h1, h2⟩)
        · exact ⟨rfl, .inl ⟨rfl, rfl⟩⟩
        · exact ⟨h1, .inr h2⟩
      · rintro ⟨h1, ⟨h2, _⟩ | h2⟩
        · left; cases h; simp at h1 h2; simp [h1, h2]
        · exact .inr ⟨h1, h2⟩
theorem outsAt_len {g : GraphD} {v d : Int} : ∀ (l : List EdgeD) (i : Nat), (outsAt g v d i l).length ≤ l.length
  | [], _ => by simp [outsAt]
  | y :: l, i => by
    have := outsAt_len (g := g) (v := v) (d := d) l (i + 1)
    unfold outsAt
    split <;> simp <;> omega
theorem outsL_len {g : GraphD} {v : Int} : ∀ (n : Nat) (d : Int), (outsL g v n d).length ≤ n * g.edges.length
  | 0, _ => by simp [outsL]
  | n + 1, d => by
    have h1 := outsL_len (g := g) (v := v) n (d + 1)
    have h2 := outsAt_len (g := g) (v := v) (d := d) g.edges 0
    rw [outsL, List.length_append, Nat.succ_mul]
    omega
theorem outsL_mem {g : GraphD} {v : Int} {h : HopD} : ∀ (n : Nat) (d : Int), h ∈ outsL g v n d ↔ d ≤ h.depart ∧ h.depart < d + n ∧ h ∈ outsAt g v h.depart 0 g.edges
  | 0, d => by simp [outsL]; intros; omega
  | n + 1, d => by
    rw [outsL, List.mem_append, outsL_mem n (d + 1)]
    constructor
    · rintro (h1 | ⟨h1, h2, h3⟩)
      · have := (outsAt_mem _ _).1 h1
        obtain ⟨rfl, _⟩ := this
        exact ⟨by omega, by omega, h1⟩
      · exact ⟨by omega, by omega, h3⟩
    · rintro ⟨h1, h2, h3⟩
      by_cases e : h.depart = d
      · left; rw [e] at h3; exact h3
      · right; exact ⟨by omega, by omega, h3⟩
end Go.Proofs.Ytdpibehpmghghaa
