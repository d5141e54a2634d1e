/- Several texts in one: Spec2, Spec3, Journeys, EarlySpec, LateSpec, LateMid. -/
import Derived.Test.YtjcimdpldlamfaaGreatDoorBd2df7774ef4
import Derived.Test.YtjcimdpldlamfaaGreatDoorBd0848e2b72a
/- Journeys, as plain Lean functions. -/
namespace Go.Proofs.YtjcimdpldlamfaaGreatDoor
open Go.RowKit

/-- One hop from a place: where one is then, when, and at what cost. -/
def hopTo (g : GraphD) (v t : Int) (h : HopD) : Option (Int × Int × Int) :=
 if inB h.edge 0 (g.edges.length - 1) = true then (match g.edges[h.edge.toNat]? with
  | some x => if x.a = v ∧ t ≤ h.depart then (arrive g x h.depart).map fun p => (x.b, p.2, p.1.cost) else none
  | none => none) else none
theorem hopTo_far {g : GraphD} {v t : Int} {h : HopD} (h1 : inB h.edge 0 (g.edges.length - 1) = false) : hopTo g v t h = none := by unfold hopTo; rw [if_neg (by simp [h1])]
theorem hopTo_in {g : GraphD} {v t : Int} {h : HopD} {x : EdgeD} (h1 : inB h.edge 0 (g.edges.length - 1) = true) (hx : g.edges[h.edge.toNat]? = some x) :
  hopTo g v t h = if x.a = v ∧ t ≤ h.depart then (arrive g x h.depart).map fun p => (x.b, p.2, p.1.cost) else none := by
 unfold hopTo; rw [if_pos h1, hx]
theorem hopTo_not {g : GraphD} {v t : Int} {h : HopD} {x : EdgeD} (h1 : inB h.edge 0 (g.edges.length - 1) = true) (hx : g.edges[h.edge.toNat]? = some x) (h2 : ¬ (x.a = v ∧ t ≤ h.depart)) : hopTo g v t h = none := by
 rw [hopTo_in h1 hx, if_neg h2]
theorem hopTo_none {g : GraphD} {v t : Int} {h : HopD} {x : EdgeD} (h1 : inB h.edge 0 (g.edges.length - 1) = true) (hx : g.edges[h.edge.toNat]? = some x) (h3 : arrive g x h.depart = none) : hopTo g v t h = none := by
 rw [hopTo_in h1 hx]; split <;> simp [h3]
theorem hopTo_some {g : GraphD} {v t to : Int} {h : HopD} {x : EdgeD} {l : LegD} (h1 : inB h.edge 0 (g.edges.length - 1) = true) (hx : g.edges[h.edge.toNat]? = some x) (h2 : x.a = v ∧ t ≤ h.depart)
  (h3 : arrive g x h.depart = some (l, to)) : hopTo g v t h = some (x.b, to, l.cost) := by
 rw [hopTo_in h1 hx, if_pos h2, h3]; rfl
def goL (g : GraphD) : Int → Int → Int → List HopD → Option (Int × Int × Int)
 | v, t, c, [] => some (v, t, c)
 | v, t, c, h :: r => match hopTo g v t h with
  | some p => goL g p.1 p.2.1 (c + p.2.2) r
  | none => none
theorem goL_none {g : GraphD} {v t c : Int} {h : HopD} {r : List HopD} (hh : hopTo g v t h = none) : goL g v t c (h :: r) = none := by simp [goL, hh]
theorem goL_some {g : GraphD} {v t c a b d : Int} {h : HopD} {r : List HopD} (hh : hopTo g v t h = some (a, b, d)) : goL g v t c (h :: r) = goL g a b (c + d) r := by simp [goL, hh]
/-- P15: Go, its four results. -/
def goR (g : GraphD) (v t : Int) (l : List HopD) : Int × Int × Int × Int :=
 if placeErr g v t = 0 then (if 500 < l.length then (0, 0, 0, 2) else if aliveB g v t = true then (match goL g v t 0 l with
  | some p => (p.1, p.2.1, p.2.2, 0)
  | none => (0, 0, 0, 5)) else (0, 0, 0, 5)) else (0, 0, 0, placeErr g v t)
theorem goR_place {g : GraphD} {v t : Int} {l : List HopD} (h : ¬ placeErr g v t = 0) : goR g v t l = (0, 0, 0, placeErr g v t) := by unfold goR; rw [if_neg h]
theorem goR_large {g : GraphD} {v t : Int} {l : List HopD} (h : placeErr g v t = 0) (h2 : 500 < l.length) : goR g v t l = (0, 0, 0, 2) := by unfold goR; rw [if_pos h, if_pos h2]
theorem goR_dead {g : GraphD} {v t : Int} {l : List HopD} (h : placeErr g v t = 0) (h2 : ¬ 500 < l.length) (h3 : aliveB g v t = false) : goR g v t l = (0, 0, 0, 5) := by
 unfold goR; rw [if_pos h, if_neg h2, if_neg (by simp [h3])]
theorem goR_none {g : GraphD} {v t : Int} {l : List HopD} (h : placeErr g v t = 0) (h2 : ¬ 500 < l.length) (h3 : aliveB g v t = true) (h4 : goL g v t 0 l = none) : goR g v t l = (0, 0, 0, 5) := by
 unfold goR; rw [if_pos h, if_neg h2, if_pos h3, h4]
theorem goR_some {g : GraphD} {v t a b c : Int} {l : List HopD} (h : placeErr g v t = 0) (h2 : ¬ 500 < l.length) (h3 : aliveB g v t = true) (h4 : goL g v t 0 l = some (a, b, c)) : goR g v t l = (a, b, c, 0) := by
 unfold goR; rw [if_pos h, if_neg h2, if_pos h3, h4]
/-- The value of the four results. -/
def goV (p : Int × Int × Int × Int) : Value := .tuple #[.int .i64 p.1, .int .i64 p.2.1, .int .i64 p.2.2.1, .int .i64 p.2.2.2]
theorem arrive_some {g : GraphD} {x : EdgeD} {t to : Int} {l : LegD} (h : arrive g x t = some (l, to)) : l ∈ x.legs ∧ l.f ≤ t ∧ t < l.t ∧ to = t + l.time ∧ to < g.h ∧ aliveB g x.a t = true ∧ aliveB g x.b to = true := by
 unfold arrive at h
 cases hl : leaves t x.legs with
 | none => rw [hl] at h; simp at h
 | some y =>
  rw [hl] at h
  simp only at h
  split at h
  ·rename_i h1
   simp only [Option.some.injEq, Prod.mk.injEq] at h
   obtain ⟨rfl, rfl⟩ := h
   have := leaves_mem hl
   exact ⟨this.1, this.2.1, this.2.2, rfl, h1.2.1, h1.1, h1.2.2⟩
  ·simp at h
end Go.Proofs.YtjcimdpldlamfaaGreatDoor
/- The hops that leave a place, as plain Lean functions. -/
namespace Go.Proofs.YtjcimdpldlamfaaGreatDoor
open Go.RowKit

def hopEnc (h : HopD) : List Value := [.int .i64 h.edge, .int .i64 h.depart]
/-- Can one leave along an edge from v at d? -/
def leavesB (g : GraphD) (v d : Int) (x : EdgeD) : Bool := (arrive g x d).isSome && decide (x.a = v)
theorem leavesB_none {g : GraphD} {v d : Int} {x : EdgeD} (h : arrive g x d = none) : leavesB g v d x = false := by simp [leavesB, h]
theorem leavesB_some {g : GraphD} {v d : Int} {x : EdgeD} {p : LegD × Int} (h : arrive g x d = some p) (h2 : x.a = v) : leavesB g v d x = true := by simp [leavesB, h, h2]
theorem leavesB_other {g : GraphD} {v d : Int} {x : EdgeD} (h2 : ¬ x.a = v) : leavesB g v d x = false := by simp [leavesB, h2]
/-- The hops of one time, by edges from number i on. -/
def outsAt (g : GraphD) (v d : Int) : Nat → List EdgeD → List HopD
 | _, [] => []
 | i, x :: r => if leavesB g v d x = true then ⟨i, d⟩ :: outsAt g v d (i + 1) r else outsAt g v d (i + 1) r
theorem outsAt_yes {g : GraphD} {v d : Int} {i : Nat} {x : EdgeD} {r : List EdgeD} (h : leavesB g v d x = true) : outsAt g v d i (x :: r) = ⟨i, d⟩ :: outsAt g v d (i + 1) r := by rw [outsAt, if_pos h]
theorem outsAt_no {g : GraphD} {v d : Int} {i : Nat} {x : EdgeD} {r : List EdgeD} (h : leavesB g v d x = false) : outsAt g v d i (x :: r) = outsAt g v d (i + 1) r := by rw [outsAt, if_neg (by simp [h])]
/-- The hops of n times from d on. -/
def outsL (g : GraphD) (v : Int) : Nat → Int → List HopD
 | 0, _ => []
 | n + 1, d => outsAt g v d 0 g.edges ++ outsL g v n (d + 1)
def outs (g : GraphD) (v t : Int) : List HopD := if aliveB g v t = true then outsL g v (g.h - t).toNat t else []
/-- P15: Out, its list and its error. -/
def outR (g : GraphD) (v t : Int) : List HopD := if placeErr g v t = 0 then outs g v t else []

theorem outsAt_mem {g : GraphD} {v d : Int} {h : HopD} : ∀ (l : List EdgeD) (i : Nat), h ∈ outsAt g v d i l ↔ h.depart = d ∧ ∃ k x, l[k]? = some x ∧ h.edge = ((i + k : Nat) : Int) ∧ leavesB g v d x = true
 | [], i => by simp [outsAt]
 | y :: l, i => by
  have ih := outsAt_mem (g := g) (v := v) (d := d) (h := h) l (i + 1)
  have key : (∃ k x, (y :: l)[k]? = some x ∧ h.edge = ((i + k : Nat) : Int) ∧ leavesB g v d x = true) ↔ (h.edge = (i : Int) ∧ leavesB g v d y = true) ∨ ∃ k x, l[k]? = some x ∧ h.edge = ((i + 1 + k : Nat) : Int) ∧ leavesB g v d x = true := by
   constructor
   ·rintro ⟨k, x, hk, he, hl⟩
    cases k with
    | zero =>
     have hyx : y = x := by simpa using hk
     exact .inl ⟨by simpa using he, by rw [hyx]; exact hl⟩
    | succ k => exact .inr ⟨k, x, by simpa using hk, by rw [he]; congr 1; omega, hl⟩
   ·rintro (⟨he, hl⟩ | ⟨k, x, hk, he, hl⟩)
    ·exact ⟨0, y, by simp, by simpa using he, hl⟩
    ·exact ⟨k + 1, x, by simpa using hk, by rw [he]; congr 1; omega, hl⟩
  cases hb : leavesB g v d y
  ·rw [outsAt_no hb, ih, key, hb]; simp
  ·rw [outsAt_yes hb, List.mem_cons, ih, key, hb]
   constructor
   ·rintro (rfl | ⟨h1, h2⟩)
    ·exact ⟨rfl, .inl ⟨rfl, rfl⟩⟩
    ·exact ⟨h1, .inr h2⟩
   ·rintro ⟨h1, ⟨h2, _⟩ | h2⟩
    ·left; cases h; simp at h1 h2; simp [h1, h2]
    ·exact .inr ⟨h1, h2⟩
theorem outsAt_len {g : GraphD} {v d : Int} : ∀ (l : List EdgeD) (i : Nat), (outsAt g v d i l).length ≤ l.length
 | [], _ => by simp [outsAt]
 | y :: l, i => by
  have := outsAt_len (g := g) (v := v) (d := d) l (i + 1)
  unfold outsAt
  split <;> simp <;> omega
theorem outsL_len {g : GraphD} {v : Int} : ∀ (n : Nat) (d : Int), (outsL g v n d).length ≤ n * g.edges.length
 | 0, _ => by simp [outsL]
 | n + 1, d => by
  have h1 := outsL_len (g := g) (v := v) n (d + 1)
  have h2 := outsAt_len (g := g) (v := v) (d := d) g.edges 0
  rw [outsL, List.length_append, Nat.succ_mul]
  omega
theorem outsL_mem {g : GraphD} {v : Int} {h : HopD} : ∀ (n : Nat) (d : Int), h ∈ outsL g v n d ↔ d ≤ h.depart ∧ h.depart < d + n ∧ h ∈ outsAt g v h.depart 0 g.edges
 | 0, d => by simp [outsL]; intros; omega
 | n + 1, d => by
  rw [outsL, List.mem_append, outsL_mem n (d + 1)]
  constructor
  ·rintro (h1 | ⟨h1, h2, h3⟩)
   ·have := (outsAt_mem _ _).1 h1
    obtain ⟨rfl, _⟩ := this
    exact ⟨by omega, by omega, h1⟩
   ·exact ⟨by omega, by omega, h3⟩
  ·rintro ⟨h1, h2, h3⟩
   by_cases e : h.depart = d
   ·left; rw [e] at h3; exact h3
   ·right; exact ⟨by omega, by omega, h3⟩
end Go.Proofs.YtjcimdpldlamfaaGreatDoor
/- Plain laws of journeys: parts, bounds, where one is; the hops that a walk takes. No program in sight. -/
namespace Go.Proofs.YtjcimdpldlamfaaGreatDoor
open Go.RowKit

theorem hopTo_spec {g : GraphD} {v t b to k : Int} {h : HopD} (hh : hopTo g v t h = some (b, to, k)) :
  ∃ x lg, 0 ≤ h.edge ∧ g.edges[h.edge.toNat]? = some x ∧ x.a = v ∧ t ≤ h.depart ∧ arrive g x h.depart = some (lg, to) ∧ b = x.b ∧ k = lg.cost := by
 unfold hopTo at hh
 split at hh
 ·rename_i h1
  have h2 : 0 ≤ h.edge := by simp [inB] at h1; omega
  split at hh
  ·rename_i x hx
   split at hh
   ·rename_i h3
    cases ha : arrive g x h.depart with
    | none => rw [ha] at hh; simp at hh
    | some p =>
     obtain ⟨lg, u⟩ := p
     rw [ha] at hh
     simp only [Option.map_some, Option.some.injEq, Prod.mk.injEq] at hh
     obtain ⟨rfl, rfl, rfl⟩ := hh
     exact ⟨x, lg, h2, hx, h3.1, h3.2, ha, rfl, rfl⟩
   ·simp at hh
  ·simp at hh
 ·simp at hh
/-- One is at v at t: it is a vertex's number, a time, and the vertex is alive then. -/
def Here (g : GraphD) (v t : Int) : Prop := 0 ≤ v ∧ v < g.lives.length ∧ 0 ≤ t ∧ t < g.h ∧ aliveB g v t = true
theorem hopTo_here {g : GraphD} (hV : Valid g) {v t b to k : Int} {h : HopD} (h0 : 0 ≤ t) (hh : hopTo g v t h = some (b, to, k)) : Here g b to ∧ t < to ∧ 0 ≤ k ∧ k ≤ 1000 := by
 obtain ⟨x, lg, h1, hx, h2, h3, ha, rfl, rfl⟩ := hopTo_spec hh
 have hs := arrive_some ha
 have hxe := hV.edges x (List.mem_of_getElem? hx)
 have hlg := hxe.legs lg hs.1
 have h4 := hxe.b0; have h5 := hxe.b1
 exact ⟨⟨h4, h5, by omega, by omega, hs.2.2.2.2.2.2⟩, by omega, by omega, by omega⟩
theorem goL_here {g : GraphD} (hV : Valid g) : ∀ (l : List HopD) (v t c a b d : Int), Here g v t → goL g v t c l = some (a, b, d) → Here g a b ∧ t ≤ b ∧ c ≤ d ∧ d ≤ c + 1000 * l.length
 | [], v, t, c, a, b, d, h0, h => by
  simp [goL] at h
  obtain ⟨rfl, rfl, rfl⟩ := h
  exact ⟨h0, by omega, by omega, by simp⟩
 | h :: l, v, t, c, a, b, d, h0, hg => by
  cases hh : hopTo g v t h with
  | none => rw [goL_none hh] at hg; simp at hg
  | some p =>
   obtain ⟨x, y, k⟩ := p
   rw [goL_some hh] at hg
   have h1 := hopTo_here hV h0.2.2.1 hh
   have h2 := goL_here hV l x y (c + k) a b d h1.1 hg
   have e : ((h :: l).length : Int) = l.length + 1 := by simp
   rw [e]
   exact ⟨h2.1, by omega, by omega, by omega⟩
end Go.Proofs.YtjcimdpldlamfaaGreatDoor
/- The earliest times, as greatest solutions; the first hop along an edge, the last one; no program in sight. -/
namespace Go.Proofs.YtjcimdpldlamfaaGreatDoor

def Never : Int := 1099511627776
/-- One more time is tried: who comes earlier stays. -/
def fstep (g : GraphD) (x : EdgeD) (o : Option (Int × Int)) (d : Int) : Option (Int × Int) := match arrive g x d with
 | some p => (match o with
  | some q => if p.2 < q.2 then some (d, p.2) else o
  | none => some (d, p.2))
 | none => o
theorem fstep_no {g : GraphD} {x : EdgeD} {o : Option (Int × Int)} {d : Int} (h : arrive g x d = none) : fstep g x o d = o := by simp [fstep, h]
theorem fstep_new {g : GraphD} {x : EdgeD} {d to : Int} {l : LegD} (h : arrive g x d = some (l, to)) : fstep g x none d = some (d, to) := by simp [fstep, h]
theorem fstep_less {g : GraphD} {x : EdgeD} {d to a b : Int} {l : LegD} (h : arrive g x d = some (l, to)) (h2 : to < b) : fstep g x (some (a, b)) d = some (d, to) := by simp [fstep, h, h2]
theorem fstep_more {g : GraphD} {x : EdgeD} {d to a b : Int} {l : LegD} (h : arrive g x d = some (l, to)) (h2 : ¬ to < b) : fstep g x (some (a, b)) d = some (a, b) := by simp [fstep, h, h2]
def firstL (g : GraphD) (x : EdgeD) : Nat → Int → Option (Int × Int) → Option (Int × Int)
 | 0, _, o => o
 | n + 1, d, o => firstL g x n (d + 1) (fstep g x o d)
def first (g : GraphD) (x : EdgeD) (t : Int) : Option (Int × Int) := firstL g x (g.h - t).toNat t none
theorem firstL_spec {g : GraphD} {x : EdgeD} : ∀ (n : Nat) (d : Int) (o : Option (Int × Int)),
  (firstL g x n d o = none → o = none ∧ ∀ e, d ≤ e → e < d + n → arrive g x e = none) ∧
  (∀ a b, firstL g x n d o = some (a, b) → (o = some (a, b) ∨ d ≤ a ∧ a < d + n ∧ ∃ l, arrive g x a = some (l, b)) ∧ (∀ p q, o = some (p, q) → b ≤ q) ∧ ∀ e l u, d ≤ e → e < d + n → arrive g x e = some (l, u) → b ≤ u)
 | 0, d, o => ⟨fun h => ⟨h, fun e h1 h2 => by omega⟩, fun a b h => ⟨.inl h, fun p q hp => by
   rw [firstL, hp] at h
   obtain ⟨rfl, rfl⟩ : p = a ∧ q = b := by simpa using h
   exact Int.le_refl _, fun e l u h1 h2 => by omega⟩⟩
 | n + 1, d, o => by
  obtain ⟨ih1, ih2⟩ := firstL_spec n (d + 1) (fstep g x o d)
  refine ⟨fun h => ?_, fun a b h => ?_⟩
  ·obtain ⟨h1, h2⟩ := ih1 h
   cases ha : arrive g x d with
   | none =>
    rw [fstep_no ha] at h1
    refine ⟨h1, fun e k1 k2 => ?_⟩
    by_cases he : e = d
    ·rw [he]; exact ha
    ·exact h2 e (by omega) (by omega)
   | some p =>
    obtain ⟨l, to⟩ := p
    cases o with
    | none => rw [fstep_new ha] at h1; simp at h1
    | some q =>
     obtain ⟨a, b⟩ := q
     by_cases hlt : to < b
     ·rw [fstep_less ha hlt] at h1; simp at h1
     ·rw [fstep_more ha hlt] at h1; simp at h1
  ·obtain ⟨h1, h2, h3⟩ := ih2 a b h
   cases ha : arrive g x d with
   | none =>
    rw [fstep_no ha] at h1 h2
    refine ⟨h1.imp id fun ⟨k1, k2, k3⟩ => ⟨by omega, by omega, k3⟩, h2, fun e l u k1 k2 k3 => ?_⟩
    by_cases he : e = d
    ·rw [he, ha] at k3; simp at k3
    ·exact h3 e l u (by omega) (by omega) k3
   | some p =>
    obtain ⟨l, to⟩ := p
    have hto : b ≤ to ∧ (∀ p q, o = some (p, q) → b ≤ q) ∧ (fstep g x o d = some (a, b) → o = some (a, b) ∨ a = d ∧ b = to) := by
     cases o with
     | none =>
      rw [fstep_new ha] at h2 ⊢
      exact ⟨h2 _ _ rfl, fun p q hp => by simp at hp, fun e => .inr (by simp only [Option.some.injEq, Prod.mk.injEq] at e; omega)⟩
     | some q =>
      obtain ⟨p, q⟩ := q
      by_cases hlt : to < q
      ·rw [fstep_less ha hlt] at h2 ⊢
       have := h2 _ _ rfl
       refine ⟨this, fun p' q' hp => ?_, fun e => .inr (by simp only [Option.some.injEq, Prod.mk.injEq] at e; omega)⟩
       simp only [Option.some.injEq, Prod.mk.injEq] at hp
       omega
      ·rw [fstep_more ha hlt] at h2 ⊢
       have := h2 _ _ rfl
       exact ⟨by omega, h2, fun e => .inl e⟩
    refine ⟨?_, hto.2.1, fun e l' u k1 k2 k3 => ?_⟩
    ·rcases h1 with h1 | ⟨k1, k2, k3⟩
     ·rcases hto.2.2 h1 with h4 | ⟨rfl, rfl⟩
      ·exact .inl h4
      ·exact .inr ⟨Int.le_refl _, by omega, l, ha⟩
     ·exact .inr ⟨by omega, by omega, k3⟩
    ·by_cases he : e = d
     ·rw [he, ha] at k3
      simp only [Option.some.injEq, Prod.mk.injEq] at k3
      omega
     ·exact h3 e l' u (by omega) (by omega) k3
theorem arrive_late {g : GraphD} (hV : Valid g) {x : EdgeD} (hx : EdgeOk g x) {t to : Int} {l : LegD} (h : arrive g x t = some (l, to)) : 0 ≤ t ∧ t < to ∧ to < g.h ∧ to ≤ 100 := by
 have h1 := arrive_some h
 have h2 := hx.legs l h1.1
 have h3 := hV.h1
 omega
theorem first_some {g : GraphD} {x : EdgeD} {t a b : Int} (h : first g x t = some (a, b)) : t ≤ a ∧ (∃ l, arrive g x a = some (l, b)) ∧ ∀ e l u, t ≤ e → arrive g x e = some (l, u) → e < g.h → b ≤ u := by
 obtain ⟨h1, _, h3⟩ := (firstL_spec _ _ _).2 a b h
 rcases h1 with h1 | ⟨k1, k2, k3⟩
 ·simp at h1
 ·exact ⟨k1, k3, fun e l u h4 h5 h6 => h3 e l u h4 (by omega) h5⟩
theorem first_none {g : GraphD} {x : EdgeD} {t : Int} (h : first g x t = none) : ∀ e, t ≤ e → e < g.h → arrive g x e = none :=
 fun e h1 h2 => ((firstL_spec _ _ _).1 h).2 e h1 (by omega)
/-- When one comes along an edge, who can leave from a time on. -/
def earlyF (g : GraphD) (x : EdgeD) (t : Int) : Int := match first g x t with
 | some p => p.2
 | none => Never
theorem earlyF_some {g : GraphD} {x : EdgeD} {t a b : Int} (h : first g x t = some (a, b)) : earlyF g x t = b := by simp [earlyF, h]
theorem earlyF_none {g : GraphD} {x : EdgeD} {t : Int} (h : first g x t = none) : earlyF g x t = Never := by simp [earlyF, h]
section
variable {g : GraphD} {x : EdgeD}
theorem earlyF_le (hV : Valid g) (hx : EdgeOk g x) {t d to : Int} {l : LegD} (h1 : t ≤ d) (h2 : arrive g x d = some (l, to)) : earlyF g x t ≤ to := by
 have h3 := arrive_late hV hx h2
 cases hf : first g x t with
 | none =>
  have := first_none hf d h1 (by omega)
  rw [h2] at this
  simp at this
 | some p =>
  obtain ⟨a, b⟩ := p
  rw [earlyF_some hf]
  exact (first_some hf).2.2 d l to h1 h2 (by omega)
theorem earlyF_cases (_ : Valid g) (_ : EdgeOk g x) (t : Int) : earlyF g x t = Never ∨ ∃ d l to, t ≤ d ∧ arrive g x d = some (l, to) ∧ earlyF g x t = to ∧ first g x t = some (d, to) := by
 cases hf : first g x t with
 | none => exact .inl (earlyF_none hf)
 | some p =>
  obtain ⟨a, b⟩ := p
  obtain ⟨h1, ⟨l, h2⟩, _⟩ := first_some hf
  exact .inr ⟨a, l, b, h1, h2, earlyF_some hf, rfl⟩
theorem earlyF_mono (hV : Valid g) (hx : EdgeOk g x) : Mono (earlyF g x) := by
 intro s t hst
 rcases earlyF_cases hV hx t with h | ⟨d, l, to, h1, h2, h3, _⟩
 ·rcases earlyF_cases hV hx s with h' | ⟨d, l, to, h1, h2, h3, _⟩
  ·rw [h, h']; exact Int.le_refl _
  ·have := arrive_late hV hx h2
   rw [h, h3]; simp only [Never]; omega
 ·rw [h3]; exact earlyF_le hV hx (by omega) h2
theorem earlyF_ge (hV : Valid g) (hx : EdgeOk g x) {t : Int} (ht : t ≤ Never) : t ≤ earlyF g x t := by
 rcases earlyF_cases hV hx t with h | ⟨d, l, to, h1, h2, h3, _⟩
 ·rw [h]; exact ht
 ·have := arrive_late hV hx h2
  rw [h3]; omega
theorem earlyF_never (hV : Valid g) (hx : EdgeOk g x) : Never ≤ earlyF g x Never := earlyF_ge hV hx (Int.le_refl _)
end
/-! ### the earliest times -/
def arcE (g : GraphD) (x : EdgeD) : Arc Nat := ⟨x.a.toNat, x.b.toNat, earlyF g x⟩
def arcsE (g : GraphD) : List (Arc Nat) := g.edges.map (arcE g)
def startE (g : GraphD) (v t : Int) : List Int := (List.range g.lives.length).map fun (k : Nat) => if aliveB g v t = true ∧ (k : Int) = v then t else Never
/-- The list tells when one comes from a place. -/
def EarlyL (g : GraphD) (v t : Int) (l : List Int) : Prop := l.length = g.lives.length ∧ Best (· ∈ arcsE g) (gi (startE g v t)) (gi l)
theorem EarlyL.eq {g : GraphD} {v t : Int} {l r : List Int} (h : EarlyL g v t l) (k : EarlyL g v t r) : l = r := gi_ext (h.1.trans k.1.symm) (h.2.eq k.2)
theorem mem_arcsE {g : GraphD} {y : Arc Nat} : y ∈ arcsE g ↔ ∃ x, x ∈ g.edges ∧ y = arcE g x := by
 simp only [arcsE, List.mem_map]
 exact ⟨fun ⟨x, h, e⟩ => ⟨x, h, e.symm⟩, fun ⟨x, h, e⟩ => ⟨x, h, e.symm⟩⟩
theorem gi_map_range {n : Nat} {f : Nat → Int} {k : Nat} (h : k < n) : gi ((List.range n).map f) k = f k := gi_of (by simp [h])
theorem gi_map_range_far {n : Nat} {f : Nat → Int} {k : Nat} (h : n ≤ k) : gi ((List.range n).map f) k = 0 := gi_far (by simpa using h)
section
variable {g : GraphD} {v t : Int} {l : List Int}
theorem startE_val {k : Nat} (h : k < g.lives.length) : gi (startE g v t) k = if aliveB g v t = true ∧ (k : Int) = v then t else Never := by unfold startE; rw [gi_map_range h]
theorem startE_far {k : Nat} (h : g.lives.length ≤ k) : gi (startE g v t) k = 0 := by unfold startE; rw [gi_map_range_far h]
theorem startE_big (ht : t ≤ 100) (k : Nat) : gi (startE g v t) k ≤ Never := by
 by_cases h : k < g.lives.length
 ·rw [startE_val h]; split <;> simp only [Never] <;> omega
 ·rw [startE_far (by omega)]; simp [Never]
theorem arcsE_ok (hV : Valid g) : ∀ y, y ∈ arcsE g → y.a < g.lives.length ∧ y.b < g.lives.length ∧ Mono y.f ∧ Never ≤ y.f Never := by
 intro y hy
 obtain ⟨x, hx, rfl⟩ := mem_arcsE.1 hy
 have h := hV.edges x hx
 have h0 := h.a0; have h1 := h.a1; have h2 := h.b0; have h3 := h.b1
 exact ⟨by simp only [arcE]; omega, by simp only [arcE]; omega, earlyF_mono hV h, earlyF_never hV h⟩
theorem EarlyL.big (h : EarlyL g v t l) (ht : t ≤ 100) (k : Nat) : gi l k ≤ Never := Int.le_trans (h.2.1.1 k) (startE_big ht k)
/-- Nothing is told ahead of the start; and what is told is a time, or never. -/
theorem EarlyL.low (hV : Valid g) (h : EarlyL g v t l) (ht : t ≤ 100) {k : Nat} (hk : k < g.lives.length) : t ≤ gi l k := by
 have : ∀ i, (fun i => if i < g.lives.length then t else 0) i ≤ gi l i := h.2.2 _ ⟨fun i => ?_, fun y hy => ?_⟩
 ·have := this k; simpa [hk] using this
 ·by_cases hi : i < g.lives.length
  ·simp only [if_pos hi, startE_val hi]; split <;> (try simp only [Never]) <;> omega
  ·simp only [if_neg hi, startE_far (show g.lives.length ≤ i by omega)]; exact Int.le_refl _
 ·obtain ⟨h1, h2, h3, h4⟩ := arcsE_ok hV y hy
  obtain ⟨x, hx, rfl⟩ := mem_arcsE.1 hy
  simp only [if_pos h1, if_pos h2]
  exact earlyF_ge hV (hV.edges x hx) (by simp only [Never]; omega)
/-- Who comes somewhere else has come along an edge. -/
theorem EarlyL.by_hop (hV : Valid g) (h : EarlyL g v t l) {k : Nat} (hk : k < g.lives.length) (hf : gi l k < gi (startE g v t) k) :
  ∃ x d lg, x ∈ g.edges ∧ x.b = (k : Int) ∧ gi l x.a.toNat ≤ d ∧ arrive g x d = some (lg, gi l k) := by
 obtain ⟨y, hy, hb, he⟩ := h.2.tight (fun y hy => (arcsE_ok hV y hy).2.2.1) hf
 obtain ⟨x, hx, rfl⟩ := mem_arcsE.1 hy
 have ho := hV.edges x hx
 have h1 := ho.b0
 simp only [arcE] at hb he
 have hs : gi (startE g v t) k ≤ Never ∨ 100 < t := by
  by_cases ht : t ≤ 100
  ·exact .inl (startE_big ht k)
  ·exact .inr (by omega)
 rcases earlyF_cases hV ho (gi l x.a.toNat) with h2 | ⟨d, lg, to, h2, h3, h4, _⟩
 ·rw [h2] at he
  rw [startE_val hk] at hf
  split at hf
  ·rename_i hp
   rw [← he] at hf
   simp only [Never] at hf
   obtain ⟨hp1, _⟩ := hp
   unfold aliveB at hp1
   split at hp1
   ·rename_i lf hlf
    have := hV.lives lf (List.mem_of_getElem? hlf)
    have := hV.h1
    simp at hp1
    omega
   ·simp at hp1
  ·rw [← he] at hf; simp only [Never] at hf; omega
 ·exact ⟨x, d, lg, hx, by omega, h2, by rw [← he, h4]; exact h3⟩
/-- A time that is told is one at which one is alive there. -/
theorem EarlyL.here (hV : Valid g) (h : EarlyL g v t l) (hh : 0 ≤ v ∧ v < g.lives.length ∧ 0 ≤ t ∧ t < g.h) {k : Nat} (hk : k < g.lives.length) (hf : gi l k < Never) : Here g k (gi l k) := by
 have hle := h.2.1.1 k
 by_cases he : gi l k = gi (startE g v t) k
 ·rw [startE_val hk] at he
  split at he
  ·rename_i hp
   rw [he, hp.2]
   exact ⟨hh.1, hh.2.1, hh.2.2.1, hh.2.2.2, hp.1⟩
  ·omega
 ·obtain ⟨x, d, lg, hx, hb, _, ha⟩ := h.by_hop hV hk (by omega)
  have h1 := arrive_some ha
  have h2 := arrive_late hV (hV.edges x hx) ha
  rw [hb] at h1
  exact ⟨by omega, by omega, by omega, by omega, h1.2.2.2.2.2.2⟩
end
end Go.Proofs.YtjcimdpldlamfaaGreatDoor
/- The latest times, as greatest solutions of a system turned round; what they have to do with the earliest ones; no program in sight. -/
namespace Go.Proofs.YtjcimdpldlamfaaGreatDoor

/-- The last one of n times (from d - 1 down) at which one can leave along an edge to come by a time; -1: none. -/
def lastL (g : GraphD) (x : EdgeD) (by' : Int) : Nat → Int
 | 0 => -1
 | n + 1 => match arrive g x n with
  | some p => if p.2 ≤ by' then (n : Int) else lastL g x by' n
  | none => lastL g x by' n
theorem lastL_no {g : GraphD} {x : EdgeD} {s : Int} {n : Nat} (h : arrive g x n = none) : lastL g x s (n + 1) = lastL g x s n := by simp [lastL, h]
theorem lastL_yes {g : GraphD} {x : EdgeD} {s to : Int} {n : Nat} {l : LegD} (h : arrive g x n = some (l, to)) (h2 : to ≤ s) : lastL g x s (n + 1) = n := by simp [lastL, h, h2]
theorem lastL_late {g : GraphD} {x : EdgeD} {s to : Int} {n : Nat} {l : LegD} (h : arrive g x n = some (l, to)) (h2 : ¬ to ≤ s) : lastL g x s (n + 1) = lastL g x s n := by simp [lastL, h, h2]
def lastT (g : GraphD) (x : EdgeD) (s : Int) : Int := lastL g x s g.h.toNat
theorem lastL_spec {g : GraphD} {x : EdgeD} {s : Int} : ∀ n : Nat, -1 ≤ lastL g x s n ∧ lastL g x s n < n ∧ (0 ≤ lastL g x s n → ∃ l to, arrive g x (lastL g x s n) = some (l, to) ∧ to ≤ s) ∧
  ∀ (d : Int) l to, 0 ≤ d → d < n → arrive g x d = some (l, to) → to ≤ s → d ≤ lastL g x s n
 | 0 => ⟨by simp [lastL], by simp [lastL], fun h => by simp [lastL] at h, fun d l to h1 h2 => by omega⟩
 | n + 1 => by
  obtain ⟨h1, h2, h3, h4⟩ := lastL_spec (g := g) (x := x) (s := s) n
  have hlow : lastL g x s (n + 1) = lastL g x s n → (∀ l to, arrive g x n = some (l, to) → ¬ to ≤ s) → -1 ≤ lastL g x s (n + 1) ∧ lastL g x s (n + 1) < ((n + 1 : Nat) : Int) ∧ (0 ≤ lastL g x s (n + 1) → ∃ l to, arrive g x (lastL g x s (n + 1)) = some (l, to) ∧ to ≤ s) ∧
    ∀ (d : Int) l to, 0 ≤ d → d < ((n + 1 : Nat) : Int) → arrive g x d = some (l, to) → to ≤ s → d ≤ lastL g x s (n + 1) := by
   intro e hno
   rw [e]
   refine ⟨h1, by omega, h3, fun d l to k1 k2 k3 k4 => ?_⟩
   by_cases hd : d = n
   ·rw [hd] at k3; exact absurd k4 (hno l to k3)
   ·exact h4 d l to k1 (by omega) k3 k4
  cases ha : arrive g x n with
  | none => exact hlow (lastL_no ha) fun l to h => by simp [ha] at h
  | some p =>
   obtain ⟨l, to⟩ := p
   by_cases hle : to ≤ s
   ·rw [lastL_yes ha hle]
    exact ⟨by omega, by omega, fun _ => ⟨l, to, ha, hle⟩, fun d l' to' k1 k2 k3 k4 => by omega⟩
   ·refine hlow (lastL_late ha hle) fun l' to' h => ?_
    rw [ha] at h
    simp only [Option.some.injEq, Prod.mk.injEq] at h
    omega
section
variable {g : GraphD} {x : EdgeD} {s : Int}
theorem lastT_low : -1 ≤ lastT g x s := (lastL_spec _).1
theorem lastT_some (h : 0 ≤ lastT g x s) : ∃ l to, arrive g x (lastT g x s) = some (l, to) ∧ to ≤ s := (lastL_spec _).2.2.1 h
theorem lastT_ge (hV : Valid g) (hx : EdgeOk g x) {d to : Int} {l : LegD} (h : arrive g x d = some (l, to)) (h2 : to ≤ s) : d ≤ lastT g x s := by
 have := arrive_late hV hx h
 exact (lastL_spec _).2.2.2 d l to (by omega) (by omega) h h2
theorem lastT_lt (hV : Valid g) (hx : EdgeOk g x) : lastT g x s = -1 ∨ lastT g x s < s := by
 by_cases h : 0 ≤ lastT g x s
 ·obtain ⟨l, to, h1, h2⟩ := lastT_some h
  have := arrive_late hV hx h1
  right; omega
 ·have := lastT_low (g := g) (x := x) (s := s)
  left; omega
theorem lastT_mono (hV : Valid g) (hx : EdgeOk g x) {t : Int} (h : s ≤ t) : lastT g x s ≤ lastT g x t := by
 by_cases h0 : 0 ≤ lastT g x s
 ·obtain ⟨l, to, h1, h2⟩ := lastT_some h0
  exact lastT_ge hV hx h1 (by omega)
 ·have := lastT_low (g := g) (x := x) (s := t); omega
end
def arcD (g : GraphD) (x : EdgeD) : Arc Nat := ⟨x.b.toNat, x.a.toNat, fun e => - lastT g x (- e)⟩
def arcsD (g : GraphD) : List (Arc Nat) := g.edges.map (arcD g)
def startL (g : GraphD) (v t : Int) : List Int := (List.range g.lives.length).map fun (k : Nat) => if aliveB g v t = true ∧ (k : Int) = v then t else -1
/-- The list tells how late one can be at a vertex, to come to a place by then. -/
def LateL (g : GraphD) (v t : Int) (l : List Int) : Prop := l.length = g.lives.length ∧ Best (· ∈ arcsD g) (fun i => - gi (startL g v t) i) (fun i => - gi l i)
theorem LateL.eq {g : GraphD} {v t : Int} {l r : List Int} (h : LateL g v t l) (k : LateL g v t r) : l = r :=
 gi_ext (h.1.trans k.1.symm) (funext fun i => by have e : - gi l i = - gi r i := congrFun (h.2.eq k.2) i; omega)
theorem mem_arcsD {g : GraphD} {y : Arc Nat} : y ∈ arcsD g ↔ ∃ x, x ∈ g.edges ∧ y = arcD g x := by
 simp only [arcsD, List.mem_map]
 exact ⟨fun ⟨x, h, e⟩ => ⟨x, h, e.symm⟩, fun ⟨x, h, e⟩ => ⟨x, h, e.symm⟩⟩
section
variable {g : GraphD} {v t : Int} {l a b : List Int}
theorem startL_val {k : Nat} (h : k < g.lives.length) : gi (startL g v t) k = if aliveB g v t = true ∧ (k : Int) = v then t else -1 := by unfold startL; rw [gi_map_range h]
theorem startL_far {k : Nat} (h : g.lives.length ≤ k) : gi (startL g v t) k = 0 := by unfold startL; rw [gi_map_range_far h]
/-! ### between earliest times -/
/-! ### between latest and earliest times -/
end
end Go.Proofs.YtjcimdpldlamfaaGreatDoor
/- The latest times, edge by edge, as plain Lean; no program in sight. -/
namespace Go.Proofs.YtjcimdpldlamfaaGreatDoor

/-- How much later all could still be. -/
def left (l : List Int) : Nat := total (l.map fun x => 100 - x)
theorem left_set {l : List Int} {i : Nat} (h : i < l.length) {x : Int} (h1 : gi l i < x) (h2 : x ≤ 100) : left (l.set i x) < left l := by
 have e : gi (l.map fun x => 100 - x) i = 100 - gi l i := gi_of (by rw [List.getElem?_map, gi_get h]; rfl)
 have := total_set (l := l.map fun x => 100 - x) (i := i) (by simpa using h) (100 - x)
 rw [e] at this
 unfold left
 rw [List.map_set]
 omega
/-- In the midst of a round: j edges have been looked at. -/
structure TMid (g : GraphD) (v t : Int) (l0 l : List Int) (more : Bool) (j : Nat) : Prop where
 len : l.length = g.lives.length
 le : ∀ i, gi (startL g v t) i ≤ gi l i
 above : Above (· ∈ arcsD g) (fun i => - gi (startL g v t) i) (fun i => - gi l i)
 tot : left l ≤ left l0
 less : more = true → left l < left l0
 told : more = false → ∀ x, x ∈ g.edges.take j → lastT g x (gi l x.b.toNat) ≤ gi l x.a.toNat
section
variable {g : GraphD} {v t : Int} {l0 l : List Int} {more : Bool} {j : Nat}
theorem startL_low (ht : 0 ≤ t) (i : Nat) : -1 ≤ gi (startL g v t) i := by
 by_cases hi : i < g.lives.length
 ·rw [startL_val hi]; split <;> omega
 ·rw [startL_far (by omega)]; decide
theorem late_high (hV : Valid g) (ht : t ≤ 100) (h : Above (· ∈ arcsD g) (fun i => - gi (startL g v t) i) (fun i => - gi l i)) (i : Nat) : gi l i ≤ 100 := by
 have := h (fun _ => -100) ⟨fun i => ?_, fun y hy => ?_⟩ i
 ·simp only at this; omega
 ·by_cases hi : i < g.lives.length
  ·simp only [startL_val hi]; split <;> omega
  ·simp only [startL_far (show g.lives.length ≤ i by omega)]; decide
 ·obtain ⟨x, hx, rfl⟩ := mem_arcsD.1 hy
  simp only [arcD]
  rcases lastT_lt (s := 100) hV (hV.edges x hx) with h4 | h4
  ·rw [show -(-100 : Int) = 100 from by decide, h4]; decide
  ·rw [show -(-100 : Int) = 100 from by decide]; omega
theorem TMid.start (_ : 0 ≤ t) : TMid g v t (startL g v t) (startL g v t) false 0 := ⟨by simp [startL], fun _ => Int.le_refl _, above_init, Nat.le_refl _, fun h => by simp at h, fun _ a ha => by simp at ha⟩
theorem TMid.again (h : TMid g v t l0 l more j) : TMid g v t l l false 0 := ⟨h.len, h.le, h.above, Nat.le_refl _, fun h => by simp at h, fun _ a ha => by simp at ha⟩
theorem TMid.same (h : TMid g v t l0 l more j) {y : EdgeD} (hy : g.edges[j]? = some y) (he : lastT g y (gi l y.b.toNat) ≤ gi l y.a.toNat) : TMid g v t l0 l more (j + 1) :=
 ⟨h.len, h.le, h.above, h.tot, h.less, fun hm a ha => by
  rw [List.take_add_one, hy] at ha
  rcases List.mem_append.1 ha with ha | ha
  ·exact h.told hm a ha
  ·obtain rfl : a = y := by simpa using ha
   exact he⟩
theorem TMid.change (h : TMid g v t l0 l more j) (hV : Valid g) {y : EdgeD} (hy : g.edges[j]? = some y) {d : Int} (hd : lastT g y (gi l y.b.toNat) = d) (hlt : gi l y.a.toNat < d) (hd2 : d ≤ 100) :
  TMid g v t l0 (l.set y.a.toNat d) true (j + 1) := by
 have hm := List.mem_of_getElem? hy
 have ho := hV.edges y hm
 have h0 := ho.a0; have h1 := ho.a1
 have hl := h.len
 have e1 : gi (l.set y.a.toNat d) = upd (gi l) y.a.toNat d := gi_set (by omega) d
 have hl2 := left_set (l := l) (i := y.a.toNat) (by omega) hlt hd2
 have hlt2 : left (l.set y.a.toNat d) < left l0 := by have := h.tot; omega
 refine ⟨by simp [hl], fun i => ?_, ?_, by omega, fun _ => hlt2, fun e => by simp at e⟩
 ·rw [e1]
  by_cases hi : i = y.a.toNat
  ·rw [hi, upd_at]; have := h.le y.a.toNat; omega
  ·rw [upd_ne _ _ hi]; exact h.le i
 ·have k := h.above.upd h.above (x := arcD g y) (mem_arcsD.2 ⟨y, hm, rfl⟩) (fun s r hsr => by
   simp only [arcD]
   have := lastT_mono (s := -r) (t := -s) hV ho (by omega)
   omega) (Int.le_refl _)
  have e2 : (fun i => - gi (l.set y.a.toNat d) i) = upd (fun i => - gi l i) (arcD g y).b (min (- gi l (arcD g y).b) ((arcD g y).f (- gi l (arcD g y).a))) := by
   funext i
   simp only [arcD, Int.neg_neg, e1, hd]
   by_cases hi : i = y.a.toNat
   ·rw [hi, upd_at, upd_at]; omega
   ·rw [upd_ne _ _ hi, upd_ne _ _ hi]
  rw [e2]
  exact k
theorem TMid.fin (h : TMid g v t l0 l false j) (hj : g.edges.length ≤ j) : LateL g v t l := by
 refine ⟨h.len, ⟨fun i => Int.neg_le_neg (h.le i), fun x hx => ?_⟩, h.above⟩
 obtain ⟨a, ha, rfl⟩ := mem_arcsD.1 hx
 have := h.told rfl a (by rw [List.take_of_length_le hj]; exact ha)
 simp only [arcD, Int.neg_neg]
 omega
theorem lastT_high {x : EdgeD} {s : Int} (hV : Valid g) : lastT g x s ≤ 100 := by
 have := (lastL_spec (g := g) (x := x) (s := s) g.h.toNat).2.1
 have := hV.h1
 have := hV.h0
 unfold lastT
 omega
/-- What is told if one isn't there at the end. -/
theorem late_none (hal : aliveB g v t = false) (_ : 0 ≤ t) (hV : Valid g) : LateL g v t (List.replicate g.lives.length (-1)) := by
 have e : startL g v t = List.replicate g.lives.length (-1) := gi_eq_of (by simp [startL]) fun i hi => by
  have hi' : i < g.lives.length := by simpa [startL] using hi
  rw [startL_val hi', if_neg (by simp [hal])]
  exact (gi_of (by simp [hi'])).symm
 refine ⟨by simp, ⟨fun i => by rw [e]; exact Int.le_refl _, fun y hy => ?_⟩, by rw [e]; exact above_init⟩
 obtain ⟨x, hx, rfl⟩ := mem_arcsD.1 hy
 have ho := hV.edges x hx
 have h0 := ho.a0; have h1 := ho.a1; have h2 := ho.b0; have h3 := ho.b1
 simp only [arcD]
 rw [gi_of (l := List.replicate g.lives.length (-1)) (v := x.a.toNat) (x := -1) (by rw [List.getElem?_replicate, if_pos (by omega)]), gi_of (l := List.replicate g.lives.length (-1)) (v := x.b.toNat) (x := -1) (by rw [List.getElem?_replicate, if_pos (by omega)])]
 have h4 := lastT_low (g := g) (x := x) (s := -1)
 rcases lastT_lt (s := -1) hV ho with h5 | h5
 ·rw [show -(-(-1 : Int)) = -1 from by decide, h5]; decide
 ·omega
theorem startL_is (hal : aliveB g v t = true) (h0 : 0 ≤ v) (h1 : v < g.lives.length) : (List.replicate g.lives.length (-1)).set v.toNat t = startL g v t :=
 gi_eq_of (by simp [startL]) fun i hi => by
  have hi' : i < g.lives.length := by simpa using hi
  rw [gi_set (by simp; omega)]
  by_cases e : i = v.toNat
  ·rw [e, upd_at, startL_val (by omega), if_pos ⟨hal, by omega⟩]
  ·rw [upd_ne _ _ e, startL_val hi', if_neg (fun h => e (by omega))]
   exact gi_of (by simp [hi'])
theorem startE_is (hal : aliveB g v t = true) (h0 : 0 ≤ v) (h1 : v < g.lives.length) : (List.replicate g.lives.length Never).set v.toNat t = startE g v t :=
 gi_eq_of (by simp [startE]) fun i hi => by
  have hi' : i < g.lives.length := by simpa using hi
  rw [gi_set (by simp; omega)]
  by_cases e : i = v.toNat
  ·rw [e, upd_at, startE_val (by omega), if_pos ⟨hal, by omega⟩]
  ·rw [upd_ne _ _ e, startE_val hi', if_neg (fun h => e (by omega))]
   exact gi_of (by simp [hi'])
theorem startE_no (hal : aliveB g v t = false) : List.replicate g.lives.length Never = startE g v t :=
 gi_eq_of (by simp [startE]) fun i hi => by
  have hi' : i < g.lives.length := by simpa using hi
  rw [startE_val hi', if_neg (by simp [hal])]
  exact gi_of (by simp [hi'])
end
end Go.Proofs.YtjcimdpldlamfaaGreatDoor
