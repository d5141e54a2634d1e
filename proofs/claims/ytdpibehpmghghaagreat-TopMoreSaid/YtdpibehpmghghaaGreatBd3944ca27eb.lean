/- Several texts in one: BfSpec, Spec, SnapSpec, Spec2, Spec3. -/
import Derived.Test.YtdpibehpmghghaaGreatBd528e27e166
import Derived.Test.YtdpibehpmghghaaGreatBd615d7ca311
/- Rounds of FORD and BELLMAN, all at once: how many there can be, what they end in; no program in sight. -/
namespace Go.Proofs.YtdpibehpmghghaaGreat

/-- One round. -/
structure Bf (A : Arc Nat → Prop) (d e : Nat → Int) : Prop where
  le : ∀ v, e v ≤ d v
  arc : ∀ x, A x → e x.b ≤ x.f (d x.a)
  from_ : ∀ v, e v = d v ∨ ∃ x, A x ∧ x.b = v ∧ e v = x.f (d x.a)
theorem Bf.eq {A : Arc Nat → Prop} {d e e' : Nat → Int} (h : Bf A d e) (k : Bf A d e') : e = e' := by
  have key : ∀ {e e' : Nat → Int}, Bf A d e → Bf A d e' → ∀ v, e v ≤ e' v := fun {e e'} h k v => by
    rcases k.from_ v with h1 | ⟨x, hx, rfl, h1⟩
    · rw [h1]; exact h.le v
    · rw [h1]; exact h.arc x hx
  exact funext fun v => Int.le_antisymm (key h k v) (key k h v)
/-- So many rounds. -/
inductive BfN (A : Arc Nat → Prop) (init : Nat → Int) : Nat → (Nat → Int) → Prop
  | zero : BfN A init 0 init
  | succ {k : Nat} {d e : Nat → Int} : BfN A init k d → Bf A d e → BfN A init (k + 1) e
section
variable {A : Arc Nat → Prop} {init d e d' : Nat → Int} {k m n : Nat}
theorem BfN.eq (h : BfN A init k d) : ∀ {d' : Nat → Int}, BfN A init k d' → d = d' := by
  induction h with
  | zero => intro d' h'; cases h'; rfl
  | succ h hb ih =>
    intro d' h'
    cases h' with
    | succ h' hb' =>
      obtain rfl := ih h'
      exact hb.eq hb'
theorem BfN.le (h : BfN A init k d) : ∀ v, d v ≤ init v := by
  induction h with
  | zero => intro v; exact Int.le_refl _
  | succ h hb ih => intro v; exact Int.le_trans (hb.le v) (ih v)
theorem Above.bf (hm : ∀ x, A x → Mono x.f) (h : Above A init d) (hb : Bf A d e) : Above A init e := fun s hs v => by
  rcases hb.from_ v with h1 | ⟨x, hx, rfl, h1⟩
  · rw [h1]; exact h s hs v
  · rw [h1]; exact Int.le_trans (hs.2 x hx) (hm x hx _ _ (h s hs x.a))
theorem BfN.above (hm : ∀ x, A x → Mono x.f) (h : BfN A init k d) : Above A init d := by
  induction h with
  | zero => exact above_init
  | succ h hb ih => exact ih.bf hm hb
/-- Where nothing is less any more, it is the greatest solution. -/
theorem BfN.best (hm : ∀ x, A x → Mono x.f) (h : BfN A init k d) (hs : Bf A d d) : Best A init d := ⟨⟨h.le, hs.arc⟩, h.above hm⟩
theorem BfN.stay (h : BfN A init k d) (hs : Bf A d d) : ∀ {m : Nat}, k ≤ m → BfN A init m d
  | 0, hk => by obtain rfl : k = 0 := by omega
                exact h
  | m + 1, hk => by
    rcases Nat.lt_or_ge m k with h1 | h1
    · obtain rfl : k = m + 1 := by omega
      exact h
    · exact .succ (BfN.stay h hs h1) hs
/-- A first place where nothing is less comes no later than any. -/
theorem BfN.first (h : BfN A init k d) (hs : Bf A d d) (h' : BfN A init m d') (hd : m = 0 ∨ ∃ p c, m = p + 1 ∧ BfN A init p c ∧ c ≠ d') : m ≤ k := by
  refine Classical.byContradiction fun hn => ?_
  rcases hd with rfl | ⟨p, c, rfl, hc, hne⟩
  · omega
  · have h1 := BfN.stay h hs (show k ≤ p by omega)
    have h2 := BfN.stay h hs (show k ≤ p + 1 by omega)
    exact hne (by rw [hc.eq h1, h'.eq h2])
/-- Arcs that add. -/
def Adds (A : Arc Nat → Prop) (n : Nat) : Prop := ∀ x, A x → x.a < n ∧ x.b < n ∧ ∃ c : Int, 0 ≤ c ∧ c ≤ 1000 ∧ x.f = fun t => t + c
theorem Adds.mono (h : Adds A n) : ∀ x, A x → Mono x.f := fun x hx => by
  obtain ⟨_, _, c, _, _, e⟩ := h x hx
  rw [e]; exact mono_add c
theorem Adds.best (h : Adds A n) (h0 : ∀ v, 0 ≤ init v) : ∃ b, Best A init b := Best.ex h.mono ⟨fun _ => 0, h0, fun x hx => by
  obtain ⟨_, _, c, h1, _, e⟩ := h x hx
  rw [e]; simp only; omega⟩
/-- As long as something is less, one more has its best each round. -/
theorem bf_tight (hA : Adds A n) {b : Nat → Int} (hb : Best A init b) (hle : ∀ v, d v ≤ init v) (hab : Above A init d) (hne : ∃ v, v < n ∧ d v ≠ b v) : ∃ x, A x ∧ d x.a = b x.a ∧ d x.b ≠ b x.b ∧ b x.b = x.f (b x.a) := by
  refine Classical.byContradiction fun hn => ?_
  have hn' : ∀ x, A x → d x.a = b x.a → d x.b ≠ b x.b → b x.b ≠ x.f (b x.a) := fun x h1 h2 h3 h4 => hn ⟨x, h1, h2, h3, h4⟩
  have hdb : ∀ v, b v ≤ d v := hab b hb.1
  let e : Nat → Int := fun v => if v < n ∧ d v ≠ b v then b v + 1 else b v
  have he : Sol A init e := by
    refine ⟨fun v => ?_, fun x hx => ?_⟩
    · show (if v < n ∧ d v ≠ b v then b v + 1 else b v) ≤ init v
      split
      · next h => have := hdb v; have := hle v; omega
      · exact hb.1.1 v
    · obtain ⟨h1, h2, c, _, _, ef⟩ := hA x hx
      have h3 := hb.1.2 x hx
      have h4 := hn' x hx
      show (if x.b < n ∧ d x.b ≠ b x.b then b x.b + 1 else b x.b) ≤ x.f (if x.a < n ∧ d x.a ≠ b x.a then b x.a + 1 else b x.a)
      rw [ef] at h3 h4 ⊢
      simp only at h3 h4 ⊢
      by_cases ha : d x.a = b x.a
      · rw [if_neg (show ¬ (x.a < n ∧ d x.a ≠ b x.a) from fun h => h.2 ha)]
        split
        · next h => have := h4 ha h.2; omega
        · exact h3
      · rw [if_pos (show x.a < n ∧ d x.a ≠ b x.a from ⟨h1, ha⟩)]
        split <;> omega
  obtain ⟨v, hv, hvn⟩ := hne
  have := hb.2 e he v
  have h5 : e v = b v + 1 := if_pos ⟨hv, hvn⟩
  omega
theorem BfN.count (hA : Adds A n) {b : Nat → Int} (hb : Best A init b) (h : BfN A init k d) : (∀ v, v < n → d v = b v) ∨ k ≤ (List.range n).countP fun v => decide (d v = b v) := by
  induction h with
  | zero => exact .inr (Nat.zero_le _)
  | @succ k d e h hs ih =>
    by_cases hall : ∀ v, v < n → e v = b v
    · exact .inl hall
    · refine .inr ?_
      have hae := (h.above hA.mono).bf hA.mono hs b hb.1
      have hle := h.le
      have hnd : ∃ v, v < n ∧ d v ≠ b v := by
        refine Classical.byContradiction fun hn => hall fun v hv => ?_
        have h1 : d v = b v := Classical.byContradiction fun h2 => hn ⟨v, hv, h2⟩
        have h2 := hs.le v
        have h3 := hae v
        omega
      have ih' : k ≤ (List.range n).countP fun v => decide (d v = b v) := by
        rcases ih with h1 | h1
        · obtain ⟨v, hv, hvn⟩ := hnd
          exact absurd (h1 v hv) hvn
        · exact h1
      obtain ⟨x, hx, hxa, hxb, hxt⟩ := bf_tight hA hb hle (h.above hA.mono) hnd
      have hmore := count_more (p := fun v => decide (d v = b v)) (q := fun v => decide (e v = b v)) (fun u hu => by
        simp only [decide_eq_true_eq] at hu ⊢
        have h2 := hs.le u
        have h3 := hae u
        omega) (List.range n) ⟨x.b, List.mem_range.2 (hA x hx).2.1, by
          simp only [decide_eq_true_eq]
          have h2 := hs.arc x hx
          have h3 := hae x.b
          rw [hxa, ← hxt] at h2
          omega, by simpa using hxb⟩
      omega
/-- If something gets less in a round, there were fewer rounds than vertices. -/
theorem BfN.few (hA : Adds A n) (h0 : ∀ v, 0 ≤ init v) (h : BfN A init k d) (hs : Bf A d e) {v : Nat} (hv : e v ≠ d v) : k + 1 ≤ n := by
  obtain ⟨b, hb⟩ := hA.best h0
  have hae := (h.above hA.mono).bf hA.mono hs b hb.1
  have hvn : v < n := by
    rcases hs.from_ v with h1 | ⟨x, hx, rfl, _⟩
    · exact absurd h1 hv
    · exact (hA x hx).2.1
  have hvb : d v ≠ b v := fun h1 => by
    have h2 := hs.le v
    have h3 := hae v
    omega
  rcases h.count hA hb with h1 | h1
  · exact absurd (h1 v hvn) hvb
  · have h2 := count_more (p := fun v => decide (d v = b v)) (q := fun _ => true) (fun _ _ => rfl) (List.range n) ⟨v, List.mem_range.2 hvn, rfl, by simpa using hvb⟩
    have h3 : (List.range n).countP (fun _ => true) ≤ n := by
      have := List.countP_le_length (p := fun _ : Nat => true) (l := List.range n)
      simp at this ⊢
    omega
/-- How much there can be. -/
theorem BfN.bound (hA : Adds A n) (h0 : ∀ v, 0 ≤ init v ∧ (init v = Far ∨ init v ≤ 12)) (h : BfN A init k d) : ∀ v, 0 ≤ d v ∧ (d v = Far ∨ d v ≤ 12 + 1000 * k) := by
  induction h with
  | zero => intro v; have := h0 v; omega
  | @succ k d e h hs ih =>
    intro v
    rcases hs.from_ v with h1 | ⟨x, hx, rfl, h1⟩
    · rw [h1]; have := ih v; omega
    · obtain ⟨_, _, c, hc0, hc1, ef⟩ := hA x hx
      have h2 := ih x.a
      have h3 := ih x.b
      have h4 := hs.le x.b
      rw [ef] at h1
      simp only at h1
      unfold Far at *
      omega
end
end Go.Proofs.YtdpibehpmghghaaGreat
/- What the program's functions compute, as plain Lean functions; no program in sight. -/
namespace Go.Proofs.YtdpibehpmghghaaGreat
open Go.RowKit

def inB (n lo hi : Int) : Bool := decide (lo ≤ n ∧ n ≤ hi)
def legOk (l : LegD) (h : Int) : Bool := decide (0 ≤ l.f ∧ l.f < l.t ∧ l.t ≤ h ∧ 1 ≤ l.time ∧ l.time ≤ 50 ∧ 0 ≤ l.cost ∧ l.cost ≤ 1000)
/-- The legs of an edge, behind one that ends at p (none: no bound). -/
def legsErr (h : Int) : Option Int → List LegD → Int
  | _, [] => 0
  | p, l :: r => if legOk l h = false then 1 else if (match p with | some q => decide (l.f < q) | none => false) = true then 5 else legsErr h (some l.t) r
theorem legsErr_bad {h : Int} {p : Option Int} {l : LegD} {r : List LegD} (hl : legOk l h = false) : legsErr h p (l :: r) = 1 := by simp [legsErr, hl]
theorem legsErr_form {h q : Int} {l : LegD} {r : List LegD} (hl : legOk l h = true) (hq : l.f < q) : legsErr h (some q) (l :: r) = 5 := by simp [legsErr, hl, hq]
theorem legsErr_next {h q : Int} {l : LegD} {r : List LegD} (hl : legOk l h = true) (hq : ¬ l.f < q) : legsErr h (some q) (l :: r) = legsErr h (some l.t) r := by simp [legsErr, hl, hq]
theorem legsErr_first {h : Int} {l : LegD} {r : List LegD} (hl : legOk l h = true) : legsErr h none (l :: r) = legsErr h (some l.t) r := by simp [legsErr, hl]
/-- The leg ahead of number k. -/
def legAhead (l : List LegD) : Nat → Option Int
  | 0 => none
  | k + 1 => (l[k]?).map LegD.t
theorem legAhead_of {l : List LegD} {k : Nat} {z : LegD} (h : l[k]? = some z) : legAhead l (k + 1) = some z.t := by simp [legAhead, h]
def edgeErr (h n : Int) (x : EdgeD) : Int :=
  if inB x.a 0 (n - 1) = false ∨ inB x.b 0 (n - 1) = false then 4 else if 6 < x.legs.length then 2 else legsErr h none x.legs
def edgesErr (h n : Int) : List EdgeD → Int
  | [] => 0
  | x :: r => if edgeErr h n x = 0 then edgesErr h n r else edgeErr h n x
def lifeOk (h : Int) (l : IvlD) : Bool := decide (0 ≤ l.f ∧ l.f < l.t ∧ l.t ≤ h)
/-- P7. -/
def graphErr (g : GraphD) : Int :=
  if inB g.h 1 100 = false then 1 else if 12 < g.lives.length ∨ 30 < g.edges.length then 2 else if g.lives.all (lifeOk g.h) = false then 1 else edgesErr g.h g.lives.length g.edges
theorem graphErr_h {g : GraphD} (h : inB g.h 1 100 = false) : graphErr g = 1 := by unfold graphErr; rw [if_pos h]
theorem graphErr_large {g : GraphD} (h : inB g.h 1 100 = true) (h2 : 12 < g.lives.length ∨ 30 < g.edges.length) : graphErr g = 2 := by unfold graphErr; rw [if_neg (by simp [h]), if_pos h2]
theorem graphErr_life {g : GraphD} (h : inB g.h 1 100 = true) (h2 : ¬ (12 < g.lives.length ∨ 30 < g.edges.length)) (h3 : g.lives.all (lifeOk g.h) = false) : graphErr g = 1 := by
  unfold graphErr; rw [if_neg (by simp [h]), if_neg h2, if_pos h3]
theorem graphErr_edges {g : GraphD} (h : inB g.h 1 100 = true) (h2 : ¬ (12 < g.lives.length ∨ 30 < g.edges.length)) (h3 : g.lives.all (lifeOk g.h) = true) : graphErr g = edgesErr g.h g.lives.length g.edges := by
  unfold graphErr; rw [if_neg (by simp [h]), if_neg h2, if_neg (by simp [h3])]
theorem edgesErr_next {h n : Int} {x : EdgeD} {r : List EdgeD} (he : edgeErr h n x = 0) : edgesErr h n (x :: r) = edgesErr h n r := by rw [edgesErr, if_pos he]
theorem edgesErr_bad {h n : Int} {x : EdgeD} {r : List EdgeD} (he : ¬ edgeErr h n x = 0) : edgesErr h n (x :: r) = edgeErr h n x := by rw [edgesErr, if_neg he]
theorem all_next {α : Type} {p : α → Bool} {x : α} {r : List α} (h : p x = true) : (x :: r).all p = r.all p := by simp [h]
theorem all_bad {α : Type} {p : α → Bool} {x : α} {r : List α} (h : p x = false) : (x :: r).all p = false := by simp [h]
theorem lifeOk_true {h : Int} {l : IvlD} (h1 : 0 ≤ l.f ∧ l.f < l.t ∧ l.t ≤ h) : lifeOk h l = true := by simp [lifeOk, h1]
theorem lifeOk_false {h : Int} {l : IvlD} (h1 : ¬ (0 ≤ l.f ∧ l.f < l.t ∧ l.t ≤ h)) : lifeOk h l = false := by simp only [lifeOk, decide_eq_false_iff_not]; exact h1

/-! ### right graphs -/
structure EdgeOk (g : GraphD) (x : EdgeD) : Prop where
  a0 : 0 ≤ x.a
  a1 : x.a < g.lives.length
  b0 : 0 ≤ x.b
  b1 : x.b < g.lives.length
  six : x.legs.length ≤ 6
  legs : ∀ l, l ∈ x.legs → 0 ≤ l.f ∧ l.f < l.t ∧ l.t ≤ g.h ∧ 1 ≤ l.time ∧ l.time ≤ 50 ∧ 0 ≤ l.cost ∧ l.cost ≤ 1000
  err : legsErr g.h none x.legs = 0
structure Valid (g : GraphD) : Prop where
  h0 : 1 ≤ g.h
  h1 : g.h ≤ 100
  nl : g.lives.length ≤ 12
  ne : g.edges.length ≤ 30
  lives : ∀ l, l ∈ g.lives → 0 ≤ l.f ∧ l.f < l.t ∧ l.t ≤ g.h
  edges : ∀ x, x ∈ g.edges → EdgeOk g x

theorem legs_of_err {h : Int} : ∀ (l : List LegD) (p : Option Int), legsErr h p l = 0 → ∀ x, x ∈ l → legOk x h = true
  | [], _, _, x, hx => by simp at hx
  | y :: r, p, he, x, hx => by
    have h1 : legOk y h = true := by
      cases h0 : legOk y h
      · rw [legsErr_bad h0] at he; simp at he
      · rfl
    have h2 : legsErr h (some y.t) r = 0 := by
      cases p with
      | none => rwa [legsErr_first h1] at he
      | some q =>
        by_cases hq : y.f < q
        · rw [legsErr_form h1 hq] at he; simp at he
        · rwa [legsErr_next h1 hq] at he
    rcases List.mem_cons.1 hx with rfl | hx
    · exact h1
    · exact legs_of_err r _ h2 x hx
theorem edges_of_err {h n : Int} : ∀ (l : List EdgeD), edgesErr h n l = 0 → ∀ x, x ∈ l → edgeErr h n x = 0
  | [], _, x, hx => by simp at hx
  | y :: r, he, x, hx => by
    unfold edgesErr at he
    split at he
    · rename_i h1
      rcases List.mem_cons.1 hx with rfl | hx
      · exact h1
      · exact edges_of_err r he x hx
    · contradiction
theorem edgesErr_ok {h n : Int} : ∀ (l : List EdgeD), (∀ x, x ∈ l → edgeErr h n x = 0) → edgesErr h n l = 0
  | [], _ => rfl
  | y :: r, hh => by rw [edgesErr, if_pos (hh y (by simp))]; exact edgesErr_ok r fun x hx => hh x (by simp [hx])
theorem valid_of {g : GraphD} (h : graphErr g = 0) : Valid g := by
  unfold graphErr at h
  split at h
  · simp at h
  · rename_i h1
    split at h
    · simp at h
    · rename_i h2
      split at h
      · simp at h
      · rename_i h3
        simp [inB] at h1
        simp [lifeOk] at h3
        refine ⟨h1.1, h1.2, by omega, by omega, h3, fun x hx => ?_⟩
        have he := edges_of_err _ h x hx
        unfold edgeErr at he
        split at he
        · simp at he
        · rename_i k1
          split at he
          · simp at he
          · rename_i k2
            simp [inB] at k1
            refine ⟨by omega, by omega, by omega, by omega, by omega, fun l hl => ?_, he⟩
            have := legs_of_err _ _ he l hl
            simpa [legOk] using this
theorem valid_ok {g : GraphD} (h : Valid g) : graphErr g = 0 := by
  have h1 := h.h0; have h2 := h.h1; have h3 := h.nl; have h4 := h.ne
  rw [graphErr_edges (by simp [inB]; omega) (by omega) (by simp [lifeOk]; exact h.lives)]
  refine edgesErr_ok _ fun x hx => ?_
  have e := h.edges x hx
  have e1 := e.a0; have e2 := e.a1; have e3 := e.b0; have e4 := e.b1; have e5 := e.six
  unfold edgeErr
  rw [if_neg (by simp [inB]; omega), if_neg (by omega)]
  exact e.err

/-! ### one step -/
def aliveB (g : GraphD) (v t : Int) : Bool := match g.lives[v.toNat]? with
  | some l => decide (l.f ≤ t ∧ t < l.t)
  | none => false
theorem aliveB_of {g : GraphD} {v t : Int} {l : IvlD} (h : g.lives[v.toNat]? = some l) : aliveB g v t = decide (l.f ≤ t ∧ t < l.t) := by simp [aliveB, h]
def leaves (t : Int) : List LegD → Option LegD
  | [] => none
  | x :: l => if x.f ≤ t ∧ t < x.t then some x else leaves t l
theorem leaves_hit {t : Int} {x : LegD} {l : List LegD} (h : x.f ≤ t ∧ t < x.t) : leaves t (x :: l) = some x := by simp [leaves, h]
theorem leaves_miss {t : Int} {x : LegD} {l : List LegD} (h : ¬ (x.f ≤ t ∧ t < x.t)) : leaves t (x :: l) = leaves t l := by rw [leaves, if_neg h]
theorem leaves_mem {t : Int} {x : LegD} : ∀ {l : List LegD}, leaves t l = some x → x ∈ l ∧ x.f ≤ t ∧ t < x.t
  | [], h => by simp [leaves] at h
  | y :: l, h => by
    unfold leaves at h
    split at h
    · rename_i h1
      obtain rfl : y = x := by simpa using h
      exact ⟨by simp, h1⟩
    · have := leaves_mem h
      exact ⟨by simp [this.1], this.2⟩
/-- Who leaves along an edge at a time: by which leg, and when one comes. -/
def arrive (g : GraphD) (x : EdgeD) (t : Int) : Option (LegD × Int) := match leaves t x.legs with
  | some l => if aliveB g x.a t = true ∧ t + l.time < g.h ∧ aliveB g x.b (t + l.time) = true then some (l, t + l.time) else none
  | none => none
theorem arrive_no {g : GraphD} {x : EdgeD} {t : Int} (h : leaves t x.legs = none) : arrive g x t = none := by simp [arrive, h]
theorem arrive_of {g : GraphD} {x : EdgeD} {t : Int} {l : LegD} (h : leaves t x.legs = some l) :
    arrive g x t = if aliveB g x.a t = true ∧ t + l.time < g.h ∧ aliveB g x.b (t + l.time) = true then some (l, t + l.time) else none := by simp [arrive, h]
/-- What is wrong with a graph, a vertex and a time. -/
def placeErr (g : GraphD) (v t : Int) : Int :=
  if graphErr g = 0 then (if inB v 0 (g.lives.length - 1) = true then (if inB t 0 (g.h - 1) = true then 0 else 1) else 4) else graphErr g
theorem placeErr_g {g : GraphD} {v t : Int} (h : ¬ graphErr g = 0) : placeErr g v t = graphErr g := by unfold placeErr; rw [if_neg h]
theorem placeErr_v {g : GraphD} {v t : Int} (h : graphErr g = 0) (h2 : inB v 0 (g.lives.length - 1) = false) : placeErr g v t = 4 := by unfold placeErr; rw [if_pos h, if_neg (by simp [h2])]
theorem placeErr_t {g : GraphD} {v t : Int} (h : graphErr g = 0) (h2 : inB v 0 (g.lives.length - 1) = true) (h3 : inB t 0 (g.h - 1) = false) : placeErr g v t = 1 := by
  unfold placeErr; rw [if_pos h, if_pos h2, if_neg (by simp [h3])]
theorem placeErr_0 {g : GraphD} {v t : Int} (h : graphErr g = 0) (h2 : inB v 0 (g.lives.length - 1) = true) (h3 : inB t 0 (g.h - 1) = true) : placeErr g v t = 0 := by
  unfold placeErr; rw [if_pos h, if_pos h2, if_pos h3]
theorem place_of {g : GraphD} {v t : Int} (h : placeErr g v t = 0) : Valid g ∧ (0 ≤ v ∧ v < g.lives.length) ∧ 0 ≤ t ∧ t < g.h := by
  unfold placeErr at h
  split at h
  · rename_i h1
    split at h
    · rename_i h2
      split at h
      · rename_i h3
        simp [inB] at h2 h3
        exact ⟨valid_of h1, by omega, by omega⟩
      · simp at h
    · simp at h
  · contradiction
end Go.Proofs.YtdpibehpmghghaaGreat
/- The snapshot of a time, as plain lists. -/
namespace Go.Proofs.YtdpibehpmghghaaGreat
open Go.RowKit

def snapL (g : GraphD) (t : Int) : List Bool := (List.range g.lives.length).map fun (k : Nat) => aliveB g (k : Int) t
/-- The arc that an edge is at a time; or none. -/
def arcOf (g : GraphD) (t : Int) (x : EdgeD) : List ArcD := match leaves t x.legs with
  | some l => if aliveB g x.a t = true ∧ aliveB g x.b t = true then [⟨x.a, x.b, l.cost⟩] else []
  | none => []
def arcsL (g : GraphD) (t : Int) (l : List EdgeD) : List ArcD := l.flatMap (arcOf g t)
def snapD (g : GraphD) (t : Int) : SnapD := ⟨snapL g t, arcsL g t g.edges⟩
def atErr (g : GraphD) (t : Int) : Int := if graphErr g = 0 then (if 0 ≤ t ∧ t ≤ g.h - 1 then 0 else 1) else graphErr g
def atD (g : GraphD) (t : Int) : SnapD := if atErr g t = 0 then snapD g t else ⟨[], []⟩
theorem snapL_len (g : GraphD) (t : Int) : (snapL g t).length = g.lives.length := by simp [snapL]
theorem snapL_get {g : GraphD} {t : Int} {k : Nat} (h : k < g.lives.length) : (snapL g t)[k]? = some (aliveB g k t) := by simp [snapL, h]
theorem snapL_at {g : GraphD} {t v : Int} (h0 : 0 ≤ v) (h : v < g.lives.length) : (snapL g t)[v.toNat]? = some (aliveB g v t) := by
  rw [snapL_get (by omega), Int.toNat_of_nonneg h0]
theorem snapL_take {g : GraphD} {t : Int} {k : Nat} (h : k < g.lives.length) : (snapL g t).take (k + 1) = (snapL g t).take k ++ [aliveB g k t] := by
  rw [List.take_add_one, snapL_get h]; rfl
theorem snapL_end {g : GraphD} {t : Int} {k : Nat} (h : g.lives.length ≤ k) : (snapL g t).take k = snapL g t := List.take_of_length_le (by rw [snapL_len]; exact h)
theorem arcOf_no {g : GraphD} {t : Int} {x : EdgeD} (h : leaves t x.legs = none) : arcOf g t x = [] := by simp [arcOf, h]
theorem arcOf_a {g : GraphD} {t : Int} {x : EdgeD} (h : aliveB g x.a t = false) : arcOf g t x = [] := by
  unfold arcOf; split <;> simp [h]
theorem arcOf_b {g : GraphD} {t : Int} {x : EdgeD} (h : aliveB g x.b t = false) : arcOf g t x = [] := by
  unfold arcOf; split <;> simp [h]
theorem arcOf_yes {g : GraphD} {t : Int} {x : EdgeD} {l : LegD} (h : leaves t x.legs = some l) (ha : aliveB g x.a t = true) (hb : aliveB g x.b t = true) : arcOf g t x = [⟨x.a, x.b, l.cost⟩] := by simp [arcOf, h, ha, hb]
theorem arcsL_snoc (g : GraphD) (t : Int) {l : List EdgeD} {j : Nat} {x : EdgeD} (h : l[j]? = some x) : arcsL g t (l.take (j + 1)) = arcsL g t (l.take j) ++ arcOf g t x := by
  rw [List.take_add_one, h]; simp [arcsL]
theorem arcsL_mem {g : GraphD} {t : Int} {l : List EdgeD} {y : ArcD} (h : y ∈ arcsL g t l) : ∃ x lg, x ∈ l ∧ leaves t x.legs = some lg ∧ lg ∈ x.legs ∧ aliveB g x.a t = true ∧ aliveB g x.b t = true ∧ y = ⟨x.a, x.b, lg.cost⟩ := by
  simp only [arcsL, List.mem_flatMap] at h
  obtain ⟨x, hx, hy⟩ := h
  unfold arcOf at hy
  split at hy
  · rename_i lg hl
    split at hy
    · rename_i hab
      exact ⟨x, lg, hx, hl, (leaves_mem hl).1, hab.1, hab.2, by simpa using hy⟩
    · simp at hy
  · simp at hy
theorem atD_0 {g : GraphD} {t : Int} (h : atErr g t = 0) : atD g t = snapD g t := by unfold atD; rw [if_pos h]
theorem atD_no {g : GraphD} {t : Int} (h : ¬ atErr g t = 0) : atD g t = ⟨[], []⟩ := by unfold atD; rw [if_neg h]
end Go.Proofs.YtdpibehpmghghaaGreat
/- Journeys, as plain Lean functions. -/
namespace Go.Proofs.YtdpibehpmghghaaGreat
open Go.RowKit

/-- One hop from a place: where one is then, when, and at what cost. -/
def hopTo (g : GraphD) (v t : Int) (h : HopD) : Option (Int × Int × Int) :=
  if inB h.edge 0 (g.edges.length - 1) = true then (match g.edges[h.edge.toNat]? with
    | some x => if x.a = v ∧ t ≤ h.depart then (arrive g x h.depart).map fun p => (x.b, p.2, p.1.cost) else none
    | none => none) else none
theorem hopTo_far {g : GraphD} {v t : Int} {h : HopD} (h1 : inB h.edge 0 (g.edges.length - 1) = false) : hopTo g v t h = none := by unfold hopTo; rw [if_neg (by simp [h1])]
theorem hopTo_in {g : GraphD} {v t : Int} {h : HopD} {x : EdgeD} (h1 : inB h.edge 0 (g.edges.length - 1) = true) (hx : g.edges[h.edge.toNat]? = some x) :
    hopTo g v t h = if x.a = v ∧ t ≤ h.depart then (arrive g x h.depart).map fun p => (x.b, p.2, p.1.cost) else none := by
  unfold hopTo; rw [if_pos h1, hx]
theorem hopTo_not {g : GraphD} {v t : Int} {h : HopD} {x : EdgeD} (h1 : inB h.edge 0 (g.edges.length - 1) = true) (hx : g.edges[h.edge.toNat]? = some x) (h2 : ¬ (x.a = v ∧ t ≤ h.depart)) : hopTo g v t h = none := by
  rw [hopTo_in h1 hx, if_neg h2]
theorem hopTo_none {g : GraphD} {v t : Int} {h : HopD} {x : EdgeD} (h1 : inB h.edge 0 (g.edges.length - 1) = true) (hx : g.edges[h.edge.toNat]? = some x) (h3 : arrive g x h.depart = none) : hopTo g v t h = none := by
  rw [hopTo_in h1 hx]; split <;> simp [h3]
theorem hopTo_some {g : GraphD} {v t to : Int} {h : HopD} {x : EdgeD} {l : LegD} (h1 : inB h.edge 0 (g.edges.length - 1) = true) (hx : g.edges[h.edge.toNat]? = some x) (h2 : x.a = v ∧ t ≤ h.depart)
    (h3 : arrive g x h.depart = some (l, to)) : hopTo g v t h = some (x.b, to, l.cost) := by
  rw [hopTo_in h1 hx, if_pos h2, h3]; rfl
def goL (g : GraphD) : Int → Int → Int → List HopD → Option (Int × Int × Int)
  | v, t, c, [] => some (v, t, c)
  | v, t, c, h :: r => match hopTo g v t h with
    | some p => goL g p.1 p.2.1 (c + p.2.2) r
    | none => none
theorem goL_none {g : GraphD} {v t c : Int} {h : HopD} {r : List HopD} (hh : hopTo g v t h = none) : goL g v t c (h :: r) = none := by simp [goL, hh]
theorem goL_some {g : GraphD} {v t c a b d : Int} {h : HopD} {r : List HopD} (hh : hopTo g v t h = some (a, b, d)) : goL g v t c (h :: r) = goL g a b (c + d) r := by simp [goL, hh]
/-- P15: Go, its four results. -/
def goR (g : GraphD) (v t : Int) (l : List HopD) : Int × Int × Int × Int :=
  if placeErr g v t = 0 then (if 500 < l.length then (0, 0, 0, 2) else if aliveB g v t = true then (match goL g v t 0 l with
    | some p => (p.1, p.2.1, p.2.2, 0)
    | none => (0, 0, 0, 5)) else (0, 0, 0, 5)) else (0, 0, 0, placeErr g v t)
theorem goR_place {g : GraphD} {v t : Int} {l : List HopD} (h : ¬ placeErr g v t = 0) : goR g v t l = (0, 0, 0, placeErr g v t) := by unfold goR; rw [if_neg h]
theorem goR_large {g : GraphD} {v t : Int} {l : List HopD} (h : placeErr g v t = 0) (h2 : 500 < l.length) : goR g v t l = (0, 0, 0, 2) := by unfold goR; rw [if_pos h, if_pos h2]
theorem goR_dead {g : GraphD} {v t : Int} {l : List HopD} (h : placeErr g v t = 0) (h2 : ¬ 500 < l.length) (h3 : aliveB g v t = false) : goR g v t l = (0, 0, 0, 5) := by
  unfold goR; rw [if_pos h, if_neg h2, if_neg (by simp [h3])]
theorem goR_none {g : GraphD} {v t : Int} {l : List HopD} (h : placeErr g v t = 0) (h2 : ¬ 500 < l.length) (h3 : aliveB g v t = true) (h4 : goL g v t 0 l = none) : goR g v t l = (0, 0, 0, 5) := by
  unfold goR; rw [if_pos h, if_neg h2, if_pos h3, h4]
theorem goR_some {g : GraphD} {v t a b c : Int} {l : List HopD} (h : placeErr g v t = 0) (h2 : ¬ 500 < l.length) (h3 : aliveB g v t = true) (h4 : goL g v t 0 l = some (a, b, c)) : goR g v t l = (a, b, c, 0) := by
  unfold goR; rw [if_pos h, if_neg h2, if_pos h3, h4]
/-- The value of the four results. -/
def goV (p : Int × Int × Int × Int) : Value := .tuple #[.int .i64 p.1, .int .i64 p.2.1, .int .i64 p.2.2.1, .int .i64 p.2.2.2]
theorem arrive_some {g : GraphD} {x : EdgeD} {t to : Int} {l : LegD} (h : arrive g x t = some (l, to)) : l ∈ x.legs ∧ l.f ≤ t ∧ t < l.t ∧ to = t + l.time ∧ to < g.h ∧ aliveB g x.a t = true ∧ aliveB g x.b to = true := by
  unfold arrive at h
  cases hl : leaves t x.legs with
  | none => rw [hl] at h; simp at h
  | some y =>
    rw [hl] at h
    simp only at h
    split at h
    · rename_i h1
      simp only [Option.some.injEq, Prod.mk.injEq] at h
      obtain ⟨rfl, rfl⟩ := h
      have := leaves_mem hl
      exact ⟨this.1, this.2.1, this.2.2, rfl, h1.2.1, h1.1, h1.2.2⟩
    · simp at h
end Go.Proofs.YtdpibehpmghghaaGreat
/- The hops that leave a place, as plain Lean functions. -/
namespace Go.Proofs.YtdpibehpmghghaaGreat
open Go.RowKit

def hopEnc (h : HopD) : List Value := [.int .i64 h.edge, .int .i64 h.depart]
/-- Can one leave along an edge from v at d? -/
def leavesB (g : GraphD) (v d : Int) (x : EdgeD) : Bool := (arrive g x d).isSome && decide (x.a = v)
theorem leavesB_none {g : GraphD} {v d : Int} {x : EdgeD} (h : arrive g x d = none) : leavesB g v d x = false := by simp [leavesB, h]
theorem leavesB_some {g : GraphD} {v d : Int} {x : EdgeD} {p : LegD × Int} (h : arrive g x d = some p) (h2 : x.a = v) : leavesB g v d x = true := by simp [leavesB, h, h2]
theorem leavesB_other {g : GraphD} {v d : Int} {x : EdgeD} (h2 : ¬ x.a = v) : leavesB g v d x = false := by simp [leavesB, h2]
/-- The hops of one time, by edges from number i on. -/
def outsAt (g : GraphD) (v d : Int) : Nat → List EdgeD → List HopD
  | _, [] => []
  | i, x :: r => if leavesB g v d x = true then ⟨i, d⟩ :: outsAt g v d (i + 1) r else outsAt g v d (i + 1) r
theorem outsAt_yes {g : GraphD} {v d : Int} {i : Nat} {x : EdgeD} {r : List EdgeD} (h : leavesB g v d x = true) : outsAt g v d i (x :: r) = ⟨i, d⟩ :: outsAt g v d (i + 1) r := by rw [outsAt, if_pos h]
theorem outsAt_no {g : GraphD} {v d : Int} {i : Nat} {x : EdgeD} {r : List EdgeD} (h : leavesB g v d x = false) : outsAt g v d i (x :: r) = outsAt g v d (i + 1) r := by rw [outsAt, if_neg (by simp [h])]
/-- The hops of n times from d on. -/
def outsL (g : GraphD) (v : Int) : Nat → Int → List HopD
  | 0, _ => []
  | n + 1, d => outsAt g v d 0 g.edges ++ outsL g v n (d + 1)
def outs (g : GraphD) (v t : Int) : List HopD := if aliveB g v t = true then outsL g v (g.h - t).toNat t else []
/-- P15: Out, its list and its error. -/
def outR (g : GraphD) (v t : Int) : List HopD := if placeErr g v t = 0 then outs g v t else []

theorem outsAt_mem {g : GraphD} {v d : Int} {h : HopD} : ∀ (l : List EdgeD) (i : Nat), h ∈ outsAt g v d i l ↔ h.depart = d ∧ ∃ k x, l[k]? = some x ∧ h.edge = ((i + k : Nat) : Int) ∧ leavesB g v d x = true
  | [], i => by simp [outsAt]
  | y :: l, i => by
    have ih := outsAt_mem (g := g) (v := v) (d := d) (h := h) l (i + 1)
    have key : (∃ k x, (y :: l)[k]? = some x ∧ h.edge = ((i + k : Nat) : Int) ∧ leavesB g v d x = true) ↔ (h.edge = (i : Int) ∧ leavesB g v d y = true) ∨ ∃ k x, l[k]? = some x ∧ h.edge = ((i + 1 + k : Nat) : Int) ∧ leavesB g v d x = true := by
      constructor
      · rintro ⟨k, x, hk, he, hl⟩
        cases k with
        | zero =>
          have hyx : y = x := by simpa using hk
          exact .inl ⟨by simpa using he, by rw [hyx]; exact hl⟩
        | succ k => exact .inr ⟨k, x, by simpa using hk, by rw [he]; congr 1; omega, hl⟩
      · rintro (⟨he, hl⟩ | ⟨k, x, hk, he, hl⟩)
        · exact ⟨0, y, by simp, by simpa using he, hl⟩
        · exact ⟨k + 1, x, by simpa using hk, by rw [he]; congr 1; omega, hl⟩
    cases hb : leavesB g v d y
    · rw [outsAt_no hb, ih, key, hb]; simp
    · rw [outsAt_yes hb, List.mem_cons, ih, key, hb]
      constructor
      · rintro (rfl | ⟨h1, h2⟩)
        · exact ⟨rfl, .inl ⟨rfl, rfl⟩⟩
        · exact ⟨h1, .inr h2⟩
      · rintro ⟨h1, ⟨h2, _⟩ | h2⟩
        · left; cases h; simp at h1 h2; simp [h1, h2]
        · exact .inr ⟨h1, h2⟩
theorem outsAt_len {g : GraphD} {v d : Int} : ∀ (l : List EdgeD) (i : Nat), (outsAt g v d i l).length ≤ l.length
  | [], _ => by simp [outsAt]
  | y :: l, i => by
    have := outsAt_len (g := g) (v := v) (d := d) l (i + 1)
    unfold outsAt
    split <;> simp <;> omega
theorem outsL_len {g : GraphD} {v : Int} : ∀ (n : Nat) (d : Int), (outsL g v n d).length ≤ n * g.edges.length
  | 0, _ => by simp [outsL]
  | n + 1, d => by
    have h1 := outsL_len (g := g) (v := v) n (d + 1)
    have h2 := outsAt_len (g := g) (v := v) (d := d) g.edges 0
    rw [outsL, List.length_append, Nat.succ_mul]
    omega
theorem outsL_mem {g : GraphD} {v : Int} {h : HopD} : ∀ (n : Nat) (d : Int), h ∈ outsL g v n d ↔ d ≤ h.depart ∧ h.depart < d + n ∧ h ∈ outsAt g v h.depart 0 g.edges
  | 0, d => by simp [outsL]; intros; omega
  | n + 1, d => by
    rw [outsL, List.mem_append, outsL_mem n (d + 1)]
    constructor
    · rintro (h1 | ⟨h1, h2, h3⟩)
      · have := (outsAt_mem _ _).1 h1
        obtain ⟨rfl, _⟩ := this
        exact ⟨by omega, by omega, h1⟩
      · exact ⟨by omega, by omega, h3⟩
    · rintro ⟨h1, h2, h3⟩
      by_cases e : h.depart = d
      · left; rw [e] at h3; exact h3
      · right; exact ⟨by omega, by omega, h3⟩
end Go.Proofs.YtdpibehpmghghaaGreat
