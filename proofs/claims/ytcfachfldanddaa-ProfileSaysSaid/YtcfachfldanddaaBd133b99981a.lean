/- Several texts in one: CostSpec, FillSpec, LeastSpec. -/
import Derived.Test.YtcfachfldanddaaBdb6370b3d97
/- The least sums by vertex and time, as greatest solutions; what they say of the earliest times; no program in sight. -/
namespace Go.Proofs.Ytcfachfldanddaa

def CostA (g : GraphD) (wt : LegD → Int) (y : Arc (Nat × Nat)) : Prop :=
  (∃ v t : Nat, y = ⟨(v, t), (v, t + 1), fun n => n⟩ ∧ v < g.lives.length ∧ (t : Int) + 1 < g.h ∧ aliveB g v ((t : Int) + 1) = true) ∨
  ∃ x l to, ∃ t : Nat, x ∈ g.edges ∧ arrive g x t = some (l, to) ∧ y = ⟨(x.a.toNat, t), (x.b.toNat, to.toNat), fun n => n + wt l⟩
def initC (g : GraphD) (v t : Int) (p : Nat × Nat) : Int := if aliveB g v t = true ∧ (p.1 : Int) = v ∧ (p.2 : Int) = t then 0 else Never
/-- The function tells the least sums from a place. -/
def CostL (g : GraphD) (wt : LegD → Int) (v t : Int) (d : Nat × Nat → Int) : Prop := Best (CostA g wt) (initC g v t) d
def lCost (l : LegD) : Int := l.cost
def lOne (_ : LegD) : Int := 1
/-- Weights of legs that serve: not below nought, not large. -/
def Light (g : GraphD) (wt : LegD → Int) : Prop := ∀ x, x ∈ g.edges → ∀ l, l ∈ x.legs → 0 ≤ wt l ∧ wt l ≤ 1000
theorem light_cost {g : GraphD} (hV : Valid g) : Light g lCost := fun x hx l hl => by have := (hV.edges x hx).legs l hl; simp only [lCost]; omega
theorem light_one {g : GraphD} : Light g lOne := fun x _ l _ => by simp only [lOne]; omega
/-- The first of m times from k on at which something is told. -/
def soon (f : Nat → Int) : Nat → Nat → Int
  | _, 0 => Never
  | k, m + 1 => if f k < Never then (k : Int) else soon f (k + 1) m
theorem soon_yes {f : Nat → Int} {k m : Nat} (h : f k < Never) : soon f k (m + 1) = k := by rw [soon, if_pos h]
theorem soon_no {f : Nat → Int} {k m : Nat} (h : ¬ f k < Never) : soon f k (m + 1) = soon f (k + 1) m := by rw [soon, if_neg h]
theorem soon_spec {f : Nat → Int} : ∀ (m k : Nat), (soon f k m = Never ∨ ∃ s : Nat, soon f k m = s ∧ k ≤ s ∧ s < k + m ∧ f s < Never) ∧ ∀ s : Nat, k ≤ s → s < k + m → f s < Never → soon f k m ≤ s
  | 0, k => ⟨.inl rfl, fun s h1 h2 => by omega⟩
  | m + 1, k => by
    by_cases h : f k < Never
    · rw [soon_yes h]
      exact ⟨.inr ⟨k, rfl, by omega, by omega, h⟩, fun s h1 h2 h3 => by omega⟩
    · rw [soon_no h]
      obtain ⟨h1, h2⟩ := soon_spec (f := f) m (k + 1)
      refine ⟨h1.imp id fun ⟨s, k1, k2, k3, k4⟩ => ⟨s, k1, by omega, by omega, k4⟩, fun s k1 k2 k3 => ?_⟩
      by_cases e : s = k
      · rw [e] at k3; exact absurd k3 h
      · exact h2 s (by omega) (by omega) k3
section
variable {g : GraphD} {wt : LegD → Int} {v t : Int} {d : Nat × Nat → Int}
theorem cost_mono : ∀ y, CostA g wt y → Mono y.f := by
  rintro y (⟨_, _, rfl, _⟩ | ⟨_, l, _, _, _, _, rfl⟩)
  · exact fun s t h => h
  · exact fun s t h => by simp only; omega
theorem cost_up (hw : Light g wt) (N : Int) : ∀ y, CostA g wt y → N ≤ y.f N := by
  rintro y (⟨_, _, rfl, _⟩ | ⟨x, l, _, _, hx, ha, rfl⟩)
  · exact Int.le_refl _
  · have := hw x hx l (arrive_some ha).1
    simp only; omega
theorem initC_big (p : Nat × Nat) : initC g v t p ≤ Never := by unfold initC; split <;> simp [Never]
theorem CostL.big (h : CostL g wt v t d) (p : Nat × Nat) : d p ≤ Never := Int.le_trans (h.1.1 p) (initC_big p)
theorem CostL.pos (hw : Light g wt) (h : CostL g wt v t d) (p : Nat × Nat) : 0 ≤ d p :=
  h.2 (fun _ => 0) ⟨fun p => by unfold initC; split <;> simp [Never], fun y hy => cost_up hw 0 y hy⟩ p
/-- What is told is told of a vertex that is there, and is small. -/
theorem CostL.told (hV : Valid g) (hw : Light g wt) (h : CostL g wt v t d) (hv : 0 ≤ v ∧ v < g.lives.length) (_ : 0 ≤ t) {p : Nat × Nat} (hp : d p < Never) : d p ≤ 1000 * p.2 ∧ p.1 < g.lives.length ∧ aliveB g p.1 p.2 = true := by
  constructor
  · refine Classical.byContradiction fun hn => ?_
    have hb : ∀ q, (open Classical in if d q ≤ 1000 * q.2 then d q else Never) ≤ Never := fun q => by
      split
      · exact h.big q
      · exact Int.le_refl _
    have := h.2 (fun q => open Classical in if d q ≤ 1000 * q.2 then d q else Never) ⟨fun q => ?_, ?_⟩ p
    · simp only [if_neg hn] at this; omega
    · have h1 := h.1.1 q
      show (if d q ≤ 1000 * q.2 then d q else Never) ≤ initC g v t q
      by_cases hq : d q ≤ 1000 * q.2
      · rw [if_pos hq]; exact h1
      · rw [if_neg hq]
        unfold initC at h1 ⊢
        split
        · rename_i h2; rw [if_pos h2] at h1; omega
        · exact Int.le_refl _
    · rintro y (⟨u, s, rfl, h1, h2, h3⟩ | ⟨x, l, to, s, hx, ha, rfl⟩)
      · have h4 := h.1.2 _ (.inl ⟨u, s, rfl, h1, h2, h3⟩)
        simp only at h4 ⊢
        by_cases hq : d (u, s) ≤ 1000 * (s : Int)
        · rw [if_pos hq, if_pos (by omega)]; exact h4
        · rw [if_neg hq]; exact hb _
      · have h4 := h.1.2 _ (.inr ⟨x, l, to, s, hx, ha, rfl⟩)
        have h5 := arrive_late hV (hV.edges x hx) ha
        have h6 := hw x hx l (arrive_some ha).1
        simp only at h4 ⊢
        by_cases hq : d (x.a.toNat, s) ≤ 1000 * (s : Int)
        · rw [if_pos hq, if_pos (by omega)]; exact h4
        · rw [if_neg hq]; have := hb (x.b.toNat, to.toNat); simp only at this; omega
  · refine Classical.byContradiction fun hn => ?_
    have := h.far (I := Never) h.big cost_mono (cost_up hw Never) (fun q => ¬ (q.1 < g.lives.length ∧ aliveB g q.1 q.2 = true)) ?_ (fun q hq => ?_) p hn
    · omega
    · rintro y (⟨u, s, rfl, h1, h2, h3⟩ | ⟨x, l, to, s, hx, ha, rfl⟩) hS
      · exact absurd ⟨h1, by simpa using h3⟩ hS
      · have h5 := arrive_late hV (hV.edges x hx) ha
        have h6 := (arrive_some ha).2.2.2.2.2.2
        have ho := hV.edges x hx
        have h7 := ho.b0; have h8 := ho.b1
        refine absurd ⟨?_, ?_⟩ hS
        · simp only; omega
        · simp only
          rw [show ((x.b.toNat : Nat) : Int) = x.b by omega, show ((to.toNat : Nat) : Int) = to by omega]
          exact h6
    · unfold initC
      split
      · rename_i h1
        refine absurd ⟨by omega, ?_⟩ hq
        rw [h1.2.1, h1.2.2]; exact h1.1
      · exact Int.le_refl _
/-- Waiting. -/
theorem alive_between {u s r q : Int} (h1 : aliveB g u s = true) (h2 : aliveB g u r = true) (h3 : s ≤ q) (h4 : q ≤ r) : aliveB g u q = true := by
  unfold aliveB at h1 h2 ⊢
  split at h1
  · rename_i lf hlf
    rw [hlf] at h2
    simp at h1 h2 ⊢
    omega
  · simp at h1
theorem CostL.wait (h : CostL g wt v t d) {u s : Nat} (hu : u < g.lives.length) : ∀ (k : Nat), aliveB g u s = true → aliveB g u ((s + k : Nat) : Int) = true → ((s + k : Nat) : Int) < g.h → d (u, s + k) ≤ d (u, s)
  | 0, _, _, _ => Int.le_refl _
  | k + 1, h1, h2, h3 => by
    have h4 := alive_between (q := ((s + k : Nat) : Int)) h1 h2 (by omega) (by omega)
    have ih := CostL.wait h hu k h1 h4 (by omega)
    have h5 := h.1.2 _ (.inl ⟨u, s + k, rfl, hu, by omega, by rw [← h2]; congr 1⟩)
    simp only at h5
    exact Int.le_trans h5 ih
/-- When something is told of a vertex first. -/
def soonL (g : GraphD) (d : Nat × Nat → Int) : List Int := (List.range g.lives.length).map fun u => soon (fun s => d (u, s)) 0 g.h.toNat
theorem soonL_val {u : Nat} (h : u < g.lives.length) : gi (soonL g d) u = soon (fun s => d (u, s)) 0 g.h.toNat := by unfold soonL; rw [gi_map_range h]
theorem soonL_far {u : Nat} (h : g.lives.length ≤ u) : gi (soonL g d) u = 0 := by unfold soonL; rw [gi_map_range_far h]
theorem soonL_early (hV : Valid g) (hw : Light g wt) (h : CostL g wt v t d) (hv : 0 ≤ v ∧ v < g.lives.length) (ht : 0 ≤ t ∧ t < g.h) : EarlyL g v t (soonL g d) := by
  refine ⟨by simp [soonL], ⟨fun u => ?_, fun y hy => ?_⟩, fun e he u => ?_⟩
  · by_cases hu : u < g.lives.length
    · rw [soonL_val hu, startE_val hu]
      obtain ⟨h1, h2⟩ := soon_spec (f := fun s => d (u, s)) g.h.toNat 0
      split
      · rename_i hp
        have h3 := h.1.1 (u, t.toNat)
        unfold initC at h3
        rw [if_pos ⟨hp.1, hp.2, by simp only; omega⟩] at h3
        have := h2 t.toNat (by omega) (by omega) (by simp only [Never]; omega)
        omega
      · rcases h1 with h1 | ⟨s, h1, _, h3, _⟩
        · rw [h1]; exact Int.le_refl _
        · rw [h1]; have := hV.h1; simp only [Never]; omega
    · rw [soonL_far (by omega), startE_far (by omega)]; exact Int.le_refl _
  · obtain ⟨x, hx, rfl⟩ := mem_arcsE.1 hy
    have ho := hV.edges x hx
    have h0 := ho.a0; have h1 := ho.a1; have h2 := ho.b0; have h3 := ho.b1
    simp only [arcE]
    rw [soonL_val (show x.a.toNat < g.lives.length by omega), soonL_val (show x.b.toNat < g.lives.length by omega)]
    obtain ⟨k1, k2⟩ := soon_spec (f := fun s => d (x.a.toNat, s)) g.h.toNat 0
    obtain ⟨m1, m2⟩ := soon_spec (f := fun s => d (x.b.toNat, s)) g.h.toNat 0
    have hbig : soon (fun s => d (x.b.toNat, s)) 0 g.h.toNat ≤ Never := by
      rcases m1 with m1 | ⟨s, m1, _, m3, _⟩
      · rw [m1]; exact Int.le_refl _
      · rw [m1]; have := hV.h1; simp only [Never]; omega
    rcases k1 with k1 | ⟨s, k1, _, k3, k4⟩
    · rw [k1]; exact Int.le_trans hbig (earlyF_never hV ho)
    · rw [k1]
      rcases earlyF_cases hV ho (s : Int) with h4 | ⟨q, lg, to, h4, h5, h6, _⟩
      · rw [h4]; exact hbig
      · rw [h6]
        have h7 := arrive_late hV ho h5
        have h8 := arrive_some h5
        obtain ⟨n1, n2, n3⟩ := h.told hV hw hv ht.1 k4
        simp only at n1 n3
        obtain ⟨k, rfl⟩ : ∃ k : Nat, q = ((s + k : Nat) : Int) := ⟨(q - s).toNat, by omega⟩
        have n4 := h.wait n2 k n3 (by rw [show ((x.a.toNat : Nat) : Int) = x.a by omega]; exact h8.2.2.2.2.2.1) (by omega)
        have n5 := h.1.2 _ (.inr ⟨x, lg, to, s + k, hx, h5, rfl⟩)
        have n6 := hw x hx lg h8.1
        simp only at n4 n5
        have n7 := hV.h1
        have := m2 to.toNat (by omega) (by omega) (by simp only [Never]; omega)
        omega
  · by_cases hu : u < g.lives.length
    · rw [soonL_val hu]
      obtain ⟨h1, _⟩ := soon_spec (f := fun s => d (u, s)) g.h.toNat 0
      rcases h1 with h1 | ⟨s, h1, _, h3, h4⟩
      · rw [h1]
        have := he.1 u
        exact Int.le_trans this (startE_big (by have := hV.h1; omega) u)
      · rw [h1]
        refine Classical.byContradiction fun hn => ?_
        have := h.far (I := Never) h.big cost_mono (cost_up hw Never) (fun q => q.1 < g.lives.length ∧ (q.2 : Int) < e q.1) ?_ (fun q hq => ?_) (u, s) ⟨hu, by simp only; omega⟩
        · omega
        · rintro y (⟨u', s', rfl, h1, h2, h3⟩ | ⟨x, l, to, s', hx, ha, rfl⟩) hS
          · simp only at hS ⊢; exact ⟨h1, by omega⟩
          · have ho := hV.edges x hx
            have h0 := ho.a0; have h1 := ho.a1; have h2 := ho.b0; have h3 := ho.b1
            have h5 := arrive_late hV ho ha
            simp only at hS ⊢
            refine ⟨by omega, ?_⟩
            refine Classical.byContradiction fun hn => ?_
            have h6 := he.2 _ (mem_arcsE.2 ⟨x, hx, rfl⟩)
            have h7 := earlyF_le hV ho (t := e x.a.toNat) (d := s') (by omega) ha
            simp only [arcE] at h6
            omega
        · unfold initC
          split
          · rename_i hp
            have h6 := he.1 q.1
            rw [startE_val hq.1, if_pos ⟨hp.1, hp.2.1⟩] at h6
            have := hq.2
            omega
          · exact Int.le_refl _
    · have := he.1 u
      rw [startE_far (by omega)] at this
      rw [soonL_far (by omega)]; exact this
/-- What is told at which times. -/
theorem CostL.reach (hV : Valid g) (hw : Light g wt) (h : CostL g wt v t d) (hv : 0 ≤ v ∧ v < g.lives.length) (ht : 0 ≤ t ∧ t < g.h) {a : List Int} (ha : EarlyL g v t a) {u s : Nat} (hu : u < g.lives.length) (hs : (s : Int) < g.h) :
    d (u, s) < Never ↔ gi a u ≤ s ∧ aliveB g u s = true := by
  have he : a = soonL g d := ha.eq (soonL_early hV hw h hv ht)
  rw [he, soonL_val hu]
  obtain ⟨h1, h2⟩ := soon_spec (f := fun s => d (u, s)) g.h.toNat 0
  constructor
  · intro hd
    obtain ⟨_, _, h3⟩ := h.told hV hw hv ht.1 hd
    exact ⟨h2 s (by omega) (by omega) hd, h3⟩
  · rintro ⟨h3, h4⟩
    rcases h1 with h1 | ⟨r, h1, _, h5, h6⟩
    · rw [h1] at h3; have := hV.h1; simp only [Never] at h3; omega
    · obtain ⟨_, _, h7⟩ := h.told hV hw hv ht.1 h6
      rw [h1] at h3
      obtain ⟨k, rfl⟩ : ∃ k : Nat, s = r + k := ⟨s - r, by omega⟩
      have : d (u, r + k) ≤ d (u, r) := h.wait hu k h7 h4 hs
      omega
end
end Go.Proofs.Ytcfachfldanddaa
/- The least sums by vertex and time, told one after another: what stays true while they are filled in; no program in sight. -/
namespace Go.Proofs.Ytcfachfldanddaa

/-- From where, and by which hop, one comes. -/
structure OrigD where
  v : Int
  t : Int
  edge : Int
  depart : Int
  hops : Bool
abbrev Tab (α : Type) := Nat × Nat → Option α
def vT (B : Tab Int) (p : Nat × Nat) : Int := (B p).getD Never
def setF {α : Type} (F : Tab α) (p : Nat × Nat) (a : α) : Tab α := fun q => if q = p then some a else F q
def lessF {α : Type} (B : Tab Int) (F : Tab α) (p : Nat × Nat) (n : Int) (a : α) : Tab α := if n < vT B p then setF F p a else F
theorem setF_at {α : Type} (F : Tab α) (p : Nat × Nat) (a : α) : setF F p a p = some a := by simp [setF]
theorem setF_ne {α : Type} (F : Tab α) {p q : Nat × Nat} (a : α) (h : q ≠ p) : setF F p a q = F q := by simp [setF, h]
theorem lessF_ne {α : Type} (B : Tab Int) (F : Tab α) {p q : Nat × Nat} (n : Int) (a : α) (h : q ≠ p) : lessF B F p n a q = F q := by
  unfold lessF
  split
  · exact setF_ne _ _ h
  · rfl
theorem vT_less (B : Tab Int) (p : Nat × Nat) (n : Int) : vT (lessF B B p n n) = upd (vT B) p (min (vT B p) n) := by
  funext q
  by_cases h : q = p
  · subst h
    rw [upd_at]
    unfold lessF
    split
    · rw [vT, setF_at, Option.getD_some]; omega
    · omega
  · rw [upd_ne _ _ h, vT, lessF_ne _ _ _ _ h, vT]
theorem vT_some {B : Tab Int} {p : Nat × Nat} {n : Int} (h : B p = some n) : vT B p = n := by rw [vT, h]; rfl
theorem vT_none {B : Tab Int} {p : Nat × Nat} (h : B p = none) : vT B p = Never := by rw [vT, h]; rfl

/-- An origin says how one comes here with this sum. -/
def OrigOk (g : GraphD) (wt : LegD → Int) (B : Tab Int) (p : Nat × Nat) (n : Int) (o : OrigD) : Prop :=
  (o.hops = false ∧ o.v = p.1 ∧ o.t + 1 = p.2 ∧ 0 ≤ o.t ∧ o.edge = 0 ∧ o.depart = 0 ∧ B (p.1, o.t.toNat) = some n) ∨
  (o.hops = true ∧ ∃ (j : Nat) (x : EdgeD) (l : LegD) (m : Int), o.edge = j ∧ g.edges[j]? = some x ∧ o.v = x.a ∧ x.b = p.1 ∧ o.depart = o.t ∧ 0 ≤ o.t ∧ arrive g x o.t = some (l, (p.2 : Int)) ∧ B (x.a.toNat, o.t.toNat) = some m ∧ n = m + wt l)
structure FillInv (g : GraphD) (wt : LegD → Int) (v s : Int) (t u : Nat) (ww : Bool) (i : Nat) (B : Tab Int) (O : Tab OrigD) : Prop where
  above : Above (CostA g wt) (initC g v s) (vT B)
  start : aliveB g v s = true → B (v.toNat, s.toNat) = some 0
  told : ∀ p n, B p = some n → p.1 < g.lives.length ∧ s ≤ p.2 ∧ (p.2 : Int) < g.h ∧ aliveB g p.1 p.2 = true ∧ 0 ≤ n ∧ n ≤ 1000 * (p.2 : Int)
  orig : ∀ p n, B p = some n → p ≠ (v.toNat, s.toNat) → s < p.2 ∧ ∃ o, O p = some o ∧ OrigOk g wt B p n o ∧ o.t ≤ t
  waits : ∀ (w r : Nat), (r < t ∨ r = t ∧ (w < u ∨ w = u ∧ ww = true)) → w < g.lives.length → (r : Int) + 1 < g.h → aliveB g w ((r : Int) + 1) = true → vT B (w, r + 1) ≤ vT B (w, r)
  legs : ∀ (j r : Nat) x l to, g.edges[j]? = some x → arrive g x r = some (l, to) → (r < t ∨ r = t ∧ (x.a < u ∨ x.a = u ∧ j < i)) → vT B (x.b.toNat, to.toNat) ≤ vT B (x.a.toNat, r) + wt l

section
variable {g : GraphD} {wt : LegD → Int} {v s : Int} {t u i : Nat} {ww : Bool} {B : Tab Int} {O : Tab OrigD}
theorem FillInv.big (hV : Valid g) (h : FillInv g wt v s t u ww i B O) (p : Nat × Nat) : vT B p ≤ Never := by
  cases hp : B p with
  | none => rw [vT_none hp]; exact Int.le_refl _
  | some n =>
    have := h.told p n hp
    have := hV.h1
    rw [vT_some hp]
    simp only [Never]
    omega
/-- At the start. -/
theorem fill_start (hV : Valid g) (hw : Light g wt) (hv : 0 ≤ v ∧ v < g.lives.length) (hs : 0 ≤ s ∧ s < g.h) (ha : aliveB g v s = true) : FillInv g wt v s s.toNat 0 false 0 (setF (fun _ => none) (v.toNat, s.toNat) 0) (fun _ => none) := by
  have hval : vT (setF (fun _ => none) (v.toNat, s.toNat) 0) = initC g v s := by
    funext q
    unfold initC
    by_cases h : q = (v.toNat, s.toNat)
    · rw [vT, h, setF_at, if_pos ⟨ha, by simp only; omega, by simp only; omega⟩]; rfl
    · rw [vT, setF_ne _ _ h, if_neg]
      · rfl
      · rintro ⟨_, h1, h2⟩
        apply h
        apply Prod.ext
        · simp only; omega
        · simp only; omega
  have hsome : ∀ p n, setF (fun _ => none) (v.toNat, s.toNat) (0 : Int) p = some n → p = (v.toNat, s.toNat) ∧ n = 0 := fun p n hp => by
    by_cases h : p = (v.toNat, s.toNat)
    · subst h
      rw [setF_at] at hp
      exact ⟨rfl, by simpa using hp.symm⟩
    · rw [setF_ne _ _ h] at hp; simp at hp
  have hnone : ∀ (r w : Nat), r < s.toNat → vT (setF (fun _ => none) (v.toNat, s.toNat) 0) (w, r) = Never := fun r w hr => by
    rw [vT, setF_ne _ _ (fun e => by simp only [Prod.mk.injEq] at e; omega)]; rfl
  have hle : ∀ p, vT (setF (fun _ => none) (v.toNat, s.toNat) 0) p ≤ Never := fun p => by rw [hval]; exact initC_big p
  refine ⟨by rw [hval]; exact above_init, fun _ => setF_at _ _ _, fun p n hp => ?_, fun p n hp hne => ?_, fun w r hr h1 h2 h3 => ?_, fun j r x l to hx hr hc => ?_⟩
  · obtain ⟨rfl, rfl⟩ := hsome p n hp
    refine ⟨by simp only; omega, by simp only; omega, by simp only; omega, ?_, by omega, by simp only; omega⟩
    simp only
    rw [show ((v.toNat : Nat) : Int) = v by omega, show ((s.toNat : Nat) : Int) = s by omega]
    exact ha
  · exact absurd (hsome p n hp).1 hne
  · rw [hnone r w (by rcases hr with h | ⟨h, h4 | h4⟩ <;> simp at * <;> omega)]
    exact hle _
  · have ho := hV.edges x (List.mem_of_getElem? hx)
    have h0 := ho.a0
    rw [hnone r x.a.toNat (by omega)]
    have := hw x (List.mem_of_getElem? hx) l (arrive_some hr).1
    have := hle (x.b.toNat, to.toNat)
    omega
theorem fill_start0 (hw : Light g wt) (ha : aliveB g v s = false) : FillInv g wt v s s.toNat 0 false 0 (fun _ => none) (fun _ => none) := by
  have hval : vT (fun _ => none) = initC g v s := by
    funext q
    unfold initC
    rw [if_neg (by rw [ha]; simp)]; rfl
  refine ⟨by rw [hval]; exact above_init, fun h => by rw [ha] at h; simp at h, fun p n hp => by simp at hp, fun p n hp => by simp at hp, fun w r hr h1 h2 h3 => Int.le_refl _, fun j r x l to hx hr hc => ?_⟩
  have := hw x (List.mem_of_getElem? hx) l (arrive_some hr).1
  show Never ≤ Never + wt l
  omega
theorem FillInv.put (h : FillInv g wt v s t u ww i B O) {m : Int} (hm : B (u, t) = some m) {p : Nat × Nat} {n : Int} {f : Int → Int} (hy : CostA g wt ⟨(u, t), p, f⟩) (hn : f m = n) (hp1 : p.1 < g.lives.length) (hp2 : t < p.2) (hp3 : (p.2 : Int) < g.h)
    (hp4 : aliveB g p.1 p.2 = true) (h0 : 0 ≤ n) (h1 : n ≤ 1000 * (p.2 : Int)) {o : OrigD} (ho : OrigOk g wt B p n o) (hot : o.t ≤ t) :
    FillInv g wt v s t u ww i (lessF B B p n n) (lessF B O p n o) ∧ vT (lessF B B p n n) p ≤ n ∧ ∀ q : Nat × Nat, q.2 ≤ t → lessF B B p n n q = B q := by
  have hk : ∀ q : Nat × Nat, q.2 ≤ t → lessF B B p n n q = B q := fun q hq => lessF_ne _ _ _ _ (fun e => by rw [e] at hq; omega)
  have hkv : ∀ q : Nat × Nat, q.2 ≤ t → vT (lessF B B p n n) q = vT B q := fun q hq => by rw [vT, vT, hk q hq]
  have hle : ∀ q, vT (lessF B B p n n) q ≤ vT B q := fun q => by
    rw [vT_less]
    by_cases e : q = p
    · rw [e, upd_at]; omega
    · rw [upd_ne _ _ e]; exact Int.le_refl _
  have hst : s ≤ t := (h.told _ _ hm).2.1
  have hor : ∀ q n' o', OrigOk g wt B q n' o' → o'.t ≤ t → OrigOk g wt (lessF B B p n n) q n' o' := fun q n' o' hq ht => by
    rcases hq with ⟨a1, a2, a3, a4, a5, a6, a7⟩ | ⟨a1, j, x, l, m', a2, a3, a4, a5, a6, a7, a8, a9, a10⟩
    · exact .inl ⟨a1, a2, a3, a4, a5, a6, by rw [hk _ (by simp only; omega)]; exact a7⟩
    · exact .inr ⟨a1, j, x, l, m', a2, a3, a4, a5, a6, a7, a8, by rw [hk _ (by simp only; omega)]; exact a9, a10⟩
  refine ⟨⟨?_, fun ha => ?_, fun q n' hq => ?_, fun q n' hq hne => ?_, fun w r hr k1 k2 k3 => ?_, fun j r x l to hx hr hc => ?_⟩, ?_, hk⟩
  · rw [vT_less]
    exact Above.upd h.above h.above hy (cost_mono _ hy) (by simp only; rw [vT_some hm, hn]; exact Int.le_refl _)
  · rw [hk _ (by simp only; omega)]; exact h.start ha
  · by_cases e : q = p
    · subst e
      unfold lessF at hq
      split at hq
      · rw [setF_at] at hq
        obtain rfl : n = n' := by simpa using hq
        exact ⟨hp1, by omega, hp3, hp4, h0, h1⟩
      · exact h.told _ _ hq
    · rw [lessF_ne _ _ _ _ e] at hq
      exact h.told _ _ hq
  · by_cases e : q = p
    · subst e
      by_cases hlt : n < vT B q
      · have e1 : lessF B B q n n q = some n := by unfold lessF; rw [if_pos hlt, setF_at]
        have e2 : lessF B O q n o q = some o := by unfold lessF; rw [if_pos hlt, setF_at]
        rw [e1] at hq
        obtain rfl : n = n' := by simpa using hq
        exact ⟨by omega, o, e2, hor _ _ _ ho hot, hot⟩
      · have e1 : lessF B B q n n q = B q := by unfold lessF; rw [if_neg hlt]
        have e2 : lessF B O q n o q = O q := by unfold lessF; rw [if_neg hlt]
        rw [e1] at hq
        obtain ⟨k1, o', k2, k3, k4⟩ := h.orig _ _ hq hne
        exact ⟨k1, o', by rw [e2]; exact k2, hor _ _ _ k3 k4, k4⟩
    · rw [lessF_ne _ _ _ _ e] at hq
      obtain ⟨k1, o', k2, k3, k4⟩ := h.orig _ _ hq hne
      exact ⟨k1, o', by rw [lessF_ne _ _ _ _ e]; exact k2, hor _ _ _ k3 k4, k4⟩
  · have := h.waits w r hr k1 k2 k3
    rw [hkv (w, r) (by simp only; omega)]
    exact Int.le_trans (hle _) this
  · have := h.legs j r x l to hx hr hc
    rw [hkv (x.a.toNat, r) (by simp only; omega)]
    exact Int.le_trans (hle _) this
  · rw [vT_less, upd_at]; omega
/-- A vertex at which one isn't then. -/
theorem FillInv.skip (hV : Valid g) (hw : Light g wt) (h : FillInv g wt v s t u false 0 B O) (hn : B (u, t) = none) : FillInv g wt v s t (u + 1) false 0 B O := by
  refine ⟨h.above, h.start, h.told, h.orig, fun w r hr k1 k2 k3 => ?_, fun j r x l to hx hr hc => ?_⟩
  · by_cases e : r = t ∧ w = u
    · rw [e.1, e.2, vT_none hn]; exact h.big hV _
    · exact h.waits w r (by rcases hr with hr | ⟨hr, hr2 | hr2⟩ <;> simp at * <;> omega) k1 k2 k3
  · have h2 := hw x (List.mem_of_getElem? hx) l (arrive_some hr).1
    have h0 := (hV.edges x (List.mem_of_getElem? hx)).a0
    by_cases e : r = t ∧ x.a = u
    · rw [e.1, show x.a.toNat = u by omega, vT_none hn]; have := h.big hV (x.b.toNat, to.toNat); omega
    · exact h.legs j r x l to hx hr (by omega)
theorem FillInv.wait (h : FillInv g wt v s t u false 0 B O) (hd : (t : Int) + 1 < g.h → aliveB g u ((t : Int) + 1) = true → vT B (u, t + 1) ≤ vT B (u, t)) : FillInv g wt v s t u true 0 B O := by
  refine ⟨h.above, h.start, h.told, h.orig, fun w r hr k1 k2 k3 => ?_, h.legs⟩
  by_cases e : r = t ∧ w = u
  · obtain ⟨rfl, rfl⟩ := e; exact hd k2 k3
  · exact h.waits w r (by rcases hr with hr | ⟨hr, hr2 | hr2⟩ <;> simp at * <;> omega) k1 k2 k3
theorem FillInv.edge (h : FillInv g wt v s t u true i B O) {x : EdgeD} (hx : g.edges[i]? = some x) (hd : x.a = u → ∀ l to, arrive g x t = some (l, to) → vT B (x.b.toNat, to.toNat) ≤ vT B (u, t) + wt l) : FillInv g wt v s t u true (i + 1) B O := by
  refine ⟨h.above, h.start, h.told, h.orig, h.waits, fun j r y l to hy hr hc => ?_⟩
  by_cases e : r = t ∧ y.a = u ∧ j = i
  · obtain ⟨rfl, e2, rfl⟩ := e
    rw [hx] at hy
    obtain rfl : x = y := by simpa using hy
    have := hd e2 l to hr
    rw [show x.a.toNat = u by omega]
    exact this
  · exact h.legs j r y l to hy hr (by omega)
theorem FillInv.nextV (h : FillInv g wt v s t u true g.edges.length B O) : FillInv g wt v s t (u + 1) false 0 B O := by
  refine ⟨h.above, h.start, h.told, h.orig, fun w r hr k1 k2 k3 => ?_, fun j r x l to hx hr hc => ?_⟩
  · exact h.waits w r (by rcases hr with hr | ⟨hr, hr2 | hr2⟩ <;> simp at * <;> omega) k1 k2 k3
  · have := (List.getElem?_eq_some_iff.1 hx).1
    exact h.legs j r x l to hx hr (by omega)
theorem FillInv.nextT (hV : Valid g) (h : FillInv g wt v s t g.lives.length false 0 B O) : FillInv g wt v s (t + 1) 0 false 0 B O := by
  refine ⟨h.above, h.start, h.told, fun p n hp hne => ?_, fun w r hr k1 k2 k3 => ?_, fun j r x l to hx hr hc => ?_⟩
  · obtain ⟨k1, o, k2, k3, k4⟩ := h.orig p n hp hne
    exact ⟨k1, o, k2, k3, by omega⟩
  · exact h.waits w r (by rcases hr with hr | ⟨hr, hr2 | hr2⟩ <;> simp at * <;> omega) k1 k2 k3
  · have h0 := (hV.edges x (List.mem_of_getElem? hx)).a0
    have h1 := (hV.edges x (List.mem_of_getElem? hx)).a1
    exact h.legs j r x l to hx hr (by omega)
/-- All is filled in. -/
theorem FillInv.ends (hV : Valid g) (hv : 0 ≤ v ∧ v < g.lives.length) (hs : 0 ≤ s) (h : FillInv g wt v s t 0 false 0 B O) (ht : g.h ≤ t) : CostL g wt v s (vT B) := by
  refine ⟨⟨fun p => ?_, ?_⟩, h.above⟩
  · unfold initC
    split
    · rename_i hp
      have e : p = (v.toNat, s.toNat) := Prod.ext (by simp only; omega) (by simp only; omega)
      rw [e, vT_some (h.start hp.1)]; exact Int.le_refl _
    · exact h.big hV p
  · rintro y (⟨w, r, rfl, h1, h2, h3⟩ | ⟨x, l, to, r, hx, ha, rfl⟩)
    · exact h.waits w r (.inl (by omega)) h1 h2 h3
    · obtain ⟨j, hj⟩ := List.getElem?_of_mem hx
      have := arrive_late hV (hV.edges x hx) ha
      exact h.legs j r x l to hj ha (.inl (by omega))
end
end Go.Proofs.Ytcfachfldanddaa
/- The least sum of each vertex; no program in sight. -/
namespace Go.Proofs.Ytcfachfldanddaa

/-- The least of the first k sums of a vertex, and when it is told first. -/
def leastN (d : Nat × Nat → Int) (v : Nat) : Nat → Int × Int
  | 0 => (Never, 0)
  | k + 1 => if d (v, k) < (leastN d v k).1 then (d (v, k), (k : Int)) else leastN d v k
theorem leastN_le (d : Nat × Nat → Int) (v : Nat) : ∀ k, (leastN d v k).1 ≤ Never
  | 0 => Int.le_refl _
  | k + 1 => by
    have ih := leastN_le d v k
    rw [leastN]
    split
    · simp only; omega
    · exact ih
theorem leastN_all {d : Nat × Nat → Int} {v : Nat} : ∀ {k r : Nat}, r < k → (leastN d v k).1 ≤ d (v, r)
  | 0, r, h => by omega
  | k + 1, r, h => by
    rw [leastN]
    by_cases e : r = k
    · subst e
      split
      · exact Int.le_refl _
      · omega
    · have ih := leastN_all (d := d) (v := v) (show r < k by omega)
      split
      · simp only; omega
      · exact ih
theorem leastN_at {d : Nat × Nat → Int} {v : Nat} : ∀ {k : Nat}, (leastN d v k).1 < Never → ∃ r : Nat, r < k ∧ (leastN d v k).2 = r ∧ d (v, r) = (leastN d v k).1
  | 0, h => by simp [leastN] at h
  | k + 1, h => by
    rw [leastN] at h ⊢
    by_cases c : d (v, k) < (leastN d v k).1
    · rw [if_pos c]
      exact ⟨k, by omega, rfl, rfl⟩
    · rw [if_neg c] at h ⊢
      obtain ⟨r, h1, h2, h3⟩ := leastN_at h
      exact ⟨r, by omega, h2, h3⟩
theorem leastN_range (d : Nat × Nat → Int) (v : Nat) : ∀ k, 0 ≤ (leastN d v k).2 ∧ (leastN d v k).2 ≤ k
  | 0 => by simp [leastN]
  | k + 1 => by
    have ih := leastN_range d v k
    rw [leastN]
    split
    · simp only; omega
    · omega
/-- The least sums of the vertices. -/
def leastL (g : GraphD) (d : Nat × Nat → Int) : List Int := (List.range g.lives.length).map fun u => (leastN d u g.h.toNat).1
/-- The list tells the least sums from a place. -/
def CostsL (g : GraphD) (wt : LegD → Int) (v s : Int) (l : List Int) : Prop := ∃ d, CostL g wt v s d ∧ l = leastL g d
theorem CostsL.eq {g : GraphD} {wt : LegD → Int} {v s : Int} {l r : List Int} (h : CostsL g wt v s l) (k : CostsL g wt v s r) : l = r := by
  obtain ⟨d, h1, rfl⟩ := h
  obtain ⟨e, k1, rfl⟩ := k
  rw [h1.eq k1]
def CostsOut (g : GraphD) (wt : LegD → Int) (v s : Int) (l : List Int) : Prop := if placeErr g v s = 0 then CostsL g wt v s l else l = []
theorem leastL_get {g : GraphD} {d : Nat × Nat → Int} {k : Nat} (h : k < g.lives.length) : (leastL g d)[k]? = some (leastN d k g.h.toNat).1 := by simp [leastL, h]
theorem leastL_len (g : GraphD) (d : Nat × Nat → Int) : (leastL g d).length = g.lives.length := by simp [leastL]
end Go.Proofs.Ytcfachfldanddaa
