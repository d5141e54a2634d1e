/- Several texts in one: WaySpec, CostSpec, FillSpec, LeastSpec, LineSpec. -/
import Derived.Test.YtcfachfldanddaaBd2aa8e41777
import Derived.Test.YtcfachfldanddaaBd486a092092
import Derived.Test.YtcfachfldanddaaBd99a0450026
/- The way back along the hops by which one has come first; no program in sight. -/
namespace Go.Proofs.Ytcfachfldanddaa
open Go.RowKit

def bOf (g : GraphD) (h : HopD) : Int := match g.edges[h.edge.toNat]? with
  | some x => x.b
  | none => 0
theorem bOf_of {g : GraphD} {h : HopD} {x : EdgeD} (e : g.edges[h.edge.toNat]? = some x) : bOf g h = x.b := by unfold bOf; rw [e]
structure WayInv (g : GraphD) (l : List Int) (to : Int) (k : Nat) (acc : List HopD) : Prop where
  lt : k < g.lives.length
  fin : gi l k < Never
  go : ∃ c, goL g k (gi l k) 0 acc.reverse = some (to, gi l to.toNat, c)
  len : (acc.length : Int) + gi l k ≤ gi l to.toNat
  once : ((k : Int) :: acc.reverse.map (bOf g)).Pairwise (fun a b => gi l a.toNat < gi l b.toNat)
  small : ∀ h, h ∈ acc → 0 ≤ h.edge ∧ h.edge ≤ 30 ∧ 0 ≤ h.depart ∧ h.depart ≤ 100
  tight : ∀ h, h ∈ acc → ∃ x lg, g.edges[h.edge.toNat]? = some x ∧ arrive g x h.depart = some (lg, gi l x.b.toNat)
structure WayOk (g : GraphD) (v t to : Int) (l : List Int) (hops : List HopD) : Prop where
  go : ∃ c, goL g v t 0 hops = some (to, gi l to.toNat, c)
  alive : aliveB g v t = true
  len : hops.length ≤ 100
  once : (v :: hops.map (bOf g)).Nodup
  small : ∀ h, h ∈ hops → 0 ≤ h.edge ∧ h.edge ≤ 30 ∧ 0 ≤ h.depart ∧ h.depart ≤ 100
  tight : ∀ h, h ∈ hops → ∃ x lg, g.edges[h.edge.toNat]? = some x ∧ arrive g x h.depart = some (lg, gi l x.b.toNat)
section
variable {g : GraphD} {v t to : Int} {l : List Int} {hs acc : List HopD} {k : Nat}
theorem WayInv.start (h0 : 0 ≤ to) (h1 : to < g.lives.length) (hf : gi l to.toNat < Never) : WayInv g l to to.toNat [] :=
  ⟨by omega, hf, ⟨0, by simp [goL]; omega⟩, by simp, by simp, by simp, by simp⟩
theorem WayInv.step (hV : Valid g) (h : WayInv g l to k acc) (hH : HopsOk g v t l hs fun _ => true) (hk : ¬ (k : Int) = v) :
    ∃ x h lg, hs[k]? = some h ∧ g.edges[h.edge.toNat]? = some x ∧ x.b = (k : Int) ∧ arrive g x h.depart = some (lg, gi l k) ∧ gi l x.a.toNat < gi l k ∧ WayInv g l to x.a.toNat (acc ++ [h]) := by
  rcases hH.come k h.lt h.fin with ⟨h1, _⟩ | ⟨x, y, lg, h1, h2, h3, _, h5, h6⟩
  · exact absurd h1 hk
  · have hm := hH.small y (List.mem_of_getElem? h1)
    have ho := hV.edges x (List.mem_of_getElem? h2)
    have a0 := ho.a0; have a1 := ho.a1
    have hlate := arrive_late hV ho h6
    refine ⟨x, y, lg, h1, h2, h3, h6, by omega, by omega, by simp only [Never]; omega, ?_, by rw [List.length_append, List.length_singleton]; have := h.len; omega, ?_, fun z hz => ?_, fun z hz => ?_⟩
    · obtain ⟨c, hc⟩ := h.go
      rw [List.reverse_append, List.reverse_singleton, List.singleton_append]
      rw [goL_some (hopTo_of (v := ((x.a.toNat : Nat) : Int)) (by omega) h2 (by omega) h5 h6), h3, goL_cost, hc]
      exact ⟨_, rfl⟩
    · rw [List.reverse_append, List.reverse_singleton, List.singleton_append, List.map_cons, bOf_of h2, h3]
      refine List.pairwise_cons.2 ⟨fun z hz => ?_, h.once⟩
      have hx : gi l x.a.toNat < gi l k := by omega
      rcases List.mem_cons.1 hz with rfl | hz
      · simp only [Int.toNat_natCast]; exact hx
      · have := (List.pairwise_cons.1 h.once).1 z hz
        simp only [Int.toNat_natCast] at this ⊢
        omega
    · rcases List.mem_append.1 hz with hz | hz
      · exact h.small z hz
      · obtain rfl : z = y := by simpa using hz
        exact hm
    · rcases List.mem_append.1 hz with hz | hz
      · exact h.tight z hz
      · obtain rfl : z = y := by simpa using hz
        exact ⟨x, lg, h2, by rw [h3]; simpa using h6⟩
/-- Who comes anywhere is alive at the start. -/
theorem early_alive (hV : Valid g) (he : EarlyL g v t l) (ht : t ≤ 100) {k : Nat} (hk : k < g.lives.length) (hf : gi l k < Never) : aliveB g v t = true := by
  cases ha : aliveB g v t with
  | true => rfl
  | false =>
    exfalso
    have := he.2.far (I := Never) (fun i => he.big ht i) (fun y hy => (arcsE_ok hV y hy).2.2.1) (fun y hy => (arcsE_ok hV y hy).2.2.2) (fun i => i < g.lives.length) (fun y hy _ => (arcsE_ok hV y hy).1) (fun i hi => by
      rw [startE_val hi, if_neg (by rw [ha]; simp)]; exact Int.le_refl _) k hk
    omega
theorem early_at (hV : Valid g) (he : EarlyL g v t l) (ht : t ≤ 100) (hv0 : 0 ≤ v) (hv1 : v < g.lives.length) (ha : aliveB g v t = true) : gi l v.toNat = t := by
  have h1 := he.2.1.1 v.toNat
  rw [startE_val (by omega), if_pos ⟨ha, by omega⟩] at h1
  have h2 := he.low hV ht (show v.toNat < g.lives.length by omega)
  omega
theorem WayInv.fin' (hV : Valid g) (he : EarlyL g v t l) (ht : t ≤ 100) (ht0 : 0 ≤ t) (hto : gi l to.toNat ≤ 100) (h : WayInv g l to k acc) (hk : (k : Int) = v) : WayOk g v t to l acc.reverse := by
  have ha := early_alive hV he ht h.lt h.fin
  have hlt := h.lt
  have hat := early_at hV he ht (by omega) (by omega) ha
  have e : v.toNat = k := by omega
  rw [e] at hat
  refine ⟨?_, ha, ?_, ?_, fun z hz => h.small z (List.mem_reverse.1 hz), fun z hz => h.tight z (List.mem_reverse.1 hz)⟩
  · have := h.go
    rw [hk, hat] at this
    exact this
  · have := h.len
    rw [List.length_reverse]
    omega
  · have := h.once
    rw [hk] at this
    exact this.imp fun {a b} hab => fun e => by rw [e] at hab; omega
/-- What Way answers. -/
def EWayR (g : GraphD) (v t to : Int) (hops : List HopD) (er : Int) : Prop :=
  (placeErr g v t ≠ 0 ∧ hops = [] ∧ er = placeErr g v t) ∨
  (placeErr g v t = 0 ∧ ∃ a, EarlyL g v t a ∧ (((to < 0 ∨ (g.lives.length : Int) ≤ to ∨ gi a to.toNat = Never) ∧ hops = [] ∧ er = 4) ∨ (0 ≤ to ∧ to < g.lives.length ∧ gi a to.toNat < Never ∧ er = 0 ∧ WayOk g v t to a hops)))
end
end Go.Proofs.Ytcfachfldanddaa
/- The least sums by vertex and time, as greatest solutions; what they say of the earliest times; no program in sight. -/
namespace Go.Proofs.Ytcfachfldanddaa

def CostA (g : GraphD) (wt : LegD → Int) (y : Arc (Nat × Nat)) : Prop :=
  (∃ v t : Nat, y = ⟨(v, t), (v, t + 1), fun n => n⟩ ∧ v < g.lives.length ∧ (t : Int) + 1 < g.h ∧ aliveB g v ((t : Int) + 1) = true) ∨
  ∃ x l to, ∃ t : Nat, x ∈ g.edges ∧ arrive g x t = some (l, to) ∧ y = ⟨(x.a.toNat, t), (x.b.toNat, to.toNat), fun n => n + wt l⟩
def initC (g : GraphD) (v t : Int) (p : Nat × Nat) : Int := if aliveB g v t = true ∧ (p.1 : Int) = v ∧ (p.2 : Int) = t then 0 else Never
/-- The function tells the least sums from a place. -/
def CostL (g : GraphD) (wt : LegD → Int) (v t : Int) (d : Nat × Nat → Int) : Prop := Best (CostA g wt) (initC g v t) d
def lCost (l : LegD) : Int := l.cost
def lOne (_ : LegD) : Int := 1
/-- Weights of legs that serve: not below nought, not large. -/
def Light (g : GraphD) (wt : LegD → Int) : Prop := ∀ x, x ∈ g.edges → ∀ l, l ∈ x.legs → 0 ≤ wt l ∧ wt l ≤ 1000
theorem light_cost {g : GraphD} (hV : Valid g) : Light g lCost := fun x hx l hl => by have := (hV.edges x hx).legs l hl; simp only [lCost]; omega
theorem light_one {g : GraphD} : Light g lOne := fun x _ l _ => by simp only [lOne]; omega
/-- The first of m times from k on at which something is told. -/
def soon (f : Nat → Int) : Nat → Nat → Int
  | _, 0 => Never
  | k, m + 1 => if f k < Never then (k : Int) else soon f (k + 1) m
theorem soon_yes {f : Nat → Int} {k m : Nat} (h : f k < Never) : soon f k (m + 1) = k := by rw [soon, if_pos h]
theorem soon_no {f : Nat → Int} {k m : Nat} (h : ¬ f k < Never) : soon f k (m + 1) = soon f (k + 1) m := by rw [soon, if_neg h]
theorem soon_spec {f : Nat → Int} : ∀ (m k : Nat), (soon f k m = Never ∨ ∃ s : Nat, soon f k m = s ∧ k ≤ s ∧ s < k + m ∧ f s < Never) ∧ ∀ s : Nat, k ≤ s → s < k + m → f s < Never → soon f k m ≤ s
  | 0, k => ⟨.inl rfl, fun s h1 h2 => by omega⟩
  | m + 1, k => by
    by_cases h : f k < Never
    · rw [soon_yes h]
      exact ⟨.inr ⟨k, rfl, by omega, by omega, h⟩, fun s h1 h2 h3 => by omega⟩
    · rw [soon_no h]
      obtain ⟨h1, h2⟩ := soon_spec (f := f) m (k + 1)
      refine ⟨h1.imp id fun ⟨s, k1, k2, k3, k4⟩ => ⟨s, k1, by omega, by omega, k4⟩, fun s k1 k2 k3 => ?_⟩
      by_cases e : s = k
      · rw [e] at k3; exact absurd k3 h
      · exact h2 s (by omega) (by omega) k3
section
variable {g : GraphD} {wt : LegD → Int} {v t : Int} {d : Nat × Nat → Int}
theorem cost_mono : ∀ y, CostA g wt y → Mono y.f := by
  rintro y (⟨_, _, rfl, _⟩ | ⟨_, l, _, _, _, _, rfl⟩)
  · exact fun s t h => h
  · exact fun s t h => by simp only; omega
theorem cost_up (hw : Light g wt) (N : Int) : ∀ y, CostA g wt y → N ≤ y.f N := by
  rintro y (⟨_, _, rfl, _⟩ | ⟨x, l, _, _, hx, ha, rfl⟩)
  · exact Int.le_refl _
  · have := hw x hx l (arrive_some ha).1
    simp only; omega
theorem initC_big (p : Nat × Nat) : initC g v t p ≤ Never := by unfold initC; split <;> simp [Never]
theorem CostL.big (h : CostL g wt v t d) (p : Nat × Nat) : d p ≤ Never := Int.le_trans (h.1.1 p) (initC_big p)
theorem CostL.pos (hw : Light g wt) (h : CostL g wt v t d) (p : Nat × Nat) : 0 ≤ d p :=
  h.2 (fun _ => 0) ⟨fun p => by unfold initC; split <;> simp [Never], fun y hy => cost_up hw 0 y hy⟩ p
/-- What is told is told of a vertex that is there, and is small. -/
theorem CostL.told (hV : Valid g) (hw : Light g wt) (h : CostL g wt v t d) (hv : 0 ≤ v ∧ v < g.lives.length) (_ : 0 ≤ t) {p : Nat × Nat} (hp : d p < Never) : d p ≤ 1000 * p.2 ∧ p.1 < g.lives.length ∧ aliveB g p.1 p.2 = true := by
  constructor
  · refine Classical.byContradiction fun hn => ?_
    have hb : ∀ q, (open Classical in if d q ≤ 1000 * q.2 then d q else Never) ≤ Never := fun q => by
      split
      · exact h.big q
      · exact Int.le_refl _
    have := h.2 (fun q => open Classical in if d q ≤ 1000 * q.2 then d q else Never) ⟨fun q => ?_, ?_⟩ p
    · simp only [if_neg hn] at this; omega
    · have h1 := h.1.1 q
      show (if d q ≤ 1000 * q.2 then d q else Never) ≤ initC g v t q
      by_cases hq : d q ≤ 1000 * q.2
      · rw [if_pos hq]; exact h1
      · rw [if_neg hq]
        unfold initC at h1 ⊢
        split
        · rename_i h2; rw [if_pos h2] at h1; omega
        · exact Int.le_refl _
    · rintro y (⟨u, s, rfl, h1, h2, h3⟩ | ⟨x, l, to, s, hx, ha, rfl⟩)
      · have h4 := h.1.2 _ (.inl ⟨u, s, rfl, h1, h2, h3⟩)
        simp only at h4 ⊢
        by_cases hq : d (u, s) ≤ 1000 * (s : Int)
        · rw [if_pos hq, if_pos (by omega)]; exact h4
        · rw [if_neg hq]; exact hb _
      · have h4 := h.1.2 _ (.inr ⟨x, l, to, s, hx, ha, rfl⟩)
        have h5 := arrive_late hV (hV.edges x hx) ha
        have h6 := hw x hx l (arrive_some ha).1
        simp only at h4 ⊢
        by_cases hq : d (x.a.toNat, s) ≤ 1000 * (s : Int)
        · rw [if_pos hq, if_pos (by omega)]; exact h4
        · rw [if_neg hq]; have := hb (x.b.toNat, to.toNat); simp only at this; omega
  · refine Classical.byContradiction fun hn => ?_
    have := h.far (I := Never) h.big cost_mono (cost_up hw Never) (fun q => ¬ (q.1 < g.lives.length ∧ aliveB g q.1 q.2 = true)) ?_ (fun q hq => ?_) p hn
    · omega
    · rintro y (⟨u, s, rfl, h1, h2, h3⟩ | ⟨x, l, to, s, hx, ha, rfl⟩) hS
      · exact absurd ⟨h1, by simpa using h3⟩ hS
      · have h5 := arrive_late hV (hV.edges x hx) ha
        have h6 := (arrive_some ha).2.2.2.2.2.2
        have ho := hV.edges x hx
        have h7 := ho.b0; have h8 := ho.b1
        refine absurd ⟨?_, ?_⟩ hS
        · simp only; omega
        · simp only
          rw [show ((x.b.toNat : Nat) : Int) = x.b by omega, show ((to.toNat : Nat) : Int) = to by omega]
          exact h6
    · unfold initC
      split
      · rename_i h1
        refine absurd ⟨by omega, ?_⟩ hq
        rw [h1.2.1, h1.2.2]; exact h1.1
      · exact Int.le_refl _
/-- Waiting. -/
theorem alive_between {u s r q : Int} (h1 : aliveB g u s = true) (h2 : aliveB g u r = true) (h3 : s ≤ q) (h4 : q ≤ r) : aliveB g u q = true := by
  unfold aliveB at h1 h2 ⊢
  split at h1
  · rename_i lf hlf
    rw [hlf] at h2
    simp at h1 h2 ⊢
    omega
  · simp at h1
theorem CostL.wait (h : CostL g wt v t d) {u s : Nat} (hu : u < g.lives.length) : ∀ (k : Nat), aliveB g u s = true → aliveB g u ((s + k : Nat) : Int) = true → ((s + k : Nat) : Int) < g.h → d (u, s + k) ≤ d (u, s)
  | 0, _, _, _ => Int.le_refl _
  | k + 1, h1, h2, h3 => by
    have h4 := alive_between (q := ((s + k : Nat) : Int)) h1 h2 (by omega) (by omega)
    have ih := CostL.wait h hu k h1 h4 (by omega)
    have h5 := h.1.2 _ (.inl ⟨u, s + k, rfl, hu, by omega, by rw [← h2]; congr 1⟩)
    simp only at h5
    exact Int.le_trans h5 ih
/-- When something is told of a vertex first. -/
def soonL (g : GraphD) (d : Nat × Nat → Int) : List Int := (List.range g.lives.length).map fun u => soon (fun s => d (u, s)) 0 g.h.toNat
theorem soonL_val {u : Nat} (h : u < g.lives.length) : gi (soonL g d) u = soon (fun s => d (u, s)) 0 g.h.toNat := by unfold soonL; rw [gi_map_range h]
theorem soonL_far {u : Nat} (h : g.lives.length ≤ u) : gi (soonL g d) u = 0 := by unfold soonL; rw [gi_map_range_far h]
theorem soonL_early (hV : Valid g) (hw : Light g wt) (h : CostL g wt v t d) (hv : 0 ≤ v ∧ v < g.lives.length) (ht : 0 ≤ t ∧ t < g.h) : EarlyL g v t (soonL g d) := by
  refine ⟨by simp [soonL], ⟨fun u => ?_, fun y hy => ?_⟩, fun e he u => ?_⟩
  · by_cases hu : u < g.lives.length
    · rw [soonL_val hu, startE_val hu]
      obtain ⟨h1, h2⟩ := soon_spec (f := fun s => d (u, s)) g.h.toNat 0
      split
      · rename_i hp
        have h3 := h.1.1 (u, t.toNat)
        unfold initC at h3
        rw [if_pos ⟨hp.1, hp.2, by simp only; omega⟩] at h3
        have := h2 t.toNat (by omega) (by omega) (by simp only [Never]; omega)
        omega
      · rcases h1 with h1 | ⟨s, h1, _, h3, _⟩
        · rw [h1]; exact Int.le_refl _
        · rw [h1]; have := hV.h1; simp only [Never]; omega
    · rw [soonL_far (by omega), startE_far (by omega)]; exact Int.le_refl _
  · obtain ⟨x, hx, rfl⟩ := mem_arcsE.1 hy
    have ho := hV.edges x hx
    have h0 := ho.a0; have h1 := ho.a1; have h2 := ho.b0; have h3 := ho.b1
    simp only [arcE]
    rw [soonL_val (show x.a.toNat < g.lives.length by omega), soonL_val (show x.b.toNat < g.lives.length by omega)]
    obtain ⟨k1, k2⟩ := soon_spec (f := fun s => d (x.a.toNat, s)) g.h.toNat 0
    obtain ⟨m1, m2⟩ := soon_spec (f := fun s => d (x.b.toNat, s)) g.h.toNat 0
    have hbig : soon (fun s => d (x.b.toNat, s)) 0 g.h.toNat ≤ Never := by
      rcases m1 with m1 | ⟨s, m1, _, m3, _⟩
      · rw [m1]; exact Int.le_refl _
      · rw [m1]; have := hV.h1; simp only [Never]; omega
    rcases k1 with k1 | ⟨s, k1, _, k3, k4⟩
    · rw [k1]; exact Int.le_trans hbig (earlyF_never hV ho)
    · rw [k1]
      rcases earlyF_cases hV ho (s : Int) with h4 | ⟨q, lg, to, h4, h5, h6, _⟩
      · rw [h4]; exact hbig
      · rw [h6]
        have h7 := arrive_late hV ho h5
        have h8 := arrive_some h5
        obtain ⟨n1, n2, n3⟩ := h.told hV hw hv ht.1 k4
        simp only at n1 n3
        obtain ⟨k, rfl⟩ : ∃ k : Nat, q = ((s + k : Nat) : Int) := ⟨(q - s).toNat, by omega⟩
        have n4 := h.wait n2 k n3 (by rw [show ((x.a.toNat : Nat) : Int) = x.a by omega]; exact h8.2.2.2.2.2.1) (by omega)
        have n5 := h.1.2 _ (.inr ⟨x, lg, to, s + k, hx, h5, rfl⟩)
        have n6 := hw x hx lg h8.1
        simp only at n4 n5
        have n7 := hV.h1
        have := m2 to.toNat (by omega) (by omega) (by simp only [Never]; omega)
        omega
  · by_cases hu : u < g.lives.length
    · rw [soonL_val hu]
      obtain ⟨h1, _⟩ := soon_spec (f := fun s => d (u, s)) g.h.toNat 0
      rcases h1 with h1 | ⟨s, h1, _, h3, h4⟩
      · rw [h1]
        have := he.1 u
        exact Int.le_trans this (startE_big (by have := hV.h1; omega) u)
      · rw [h1]
        refine Classical.byContradiction fun hn => ?_
        have := h.far (I := Never) h.big cost_mono (cost_up hw Never) (fun q => q.1 < g.lives.length ∧ (q.2 : Int) < e q.1) ?_ (fun q hq => ?_) (u, s) ⟨hu, by simp only; omega⟩
        · omega
        · rintro y (⟨u', s', rfl, h1, h2, h3⟩ | ⟨x, l, to, s', hx, ha, rfl⟩) hS
          · simp only at hS ⊢; exact ⟨h1, by omega⟩
          · have ho := hV.edges x hx
            have h0 := ho.a0; have h1 := ho.a1; have h2 := ho.b0; have h3 := ho.b1
            have h5 := arrive_late hV ho ha
            simp only at hS ⊢
            refine ⟨by omega, ?_⟩
            refine Classical.byContradiction fun hn => ?_
            have h6 := he.2 _ (mem_arcsE.2 ⟨x, hx, rfl⟩)
            have h7 := earlyF_le hV ho (t := e x.a.toNat) (d := s') (by omega) ha
            simp only [arcE] at h6
            omega
        · unfold initC
          split
          · rename_i hp
            have h6 := he.1 q.1
            rw [startE_val hq.1, if_pos ⟨hp.1, hp.2.1⟩] at h6
            have := hq.2
            omega
          · exact Int.le_refl _
    · have := he.1 u
      rw [startE_far (by omega)] at this
      rw [soonL_far (by omega)]; exact this
/-- What is told at which times. -/
theorem CostL.reach (hV : Valid g) (hw : Light g wt) (h : CostL g wt v t d) (hv : 0 ≤ v ∧ v < g.lives.length) (ht : 0 ≤ t ∧ t < g.h) {a : List Int} (ha : EarlyL g v t a) {u s : Nat} (hu : u < g.lives.length) (hs : (s : Int) < g.h) :
    d (u, s) < Never ↔ gi a u ≤ s ∧ aliveB g u s = true := by
  have he : a = soonL g d := ha.eq (soonL_early hV hw h hv ht)
  rw [he, soonL_val hu]
  obtain ⟨h1, h2⟩ := soon_spec (f := fun s => d (u, s)) g.h.toNat 0
  constructor
  · intro hd
    obtain ⟨_, _, h3⟩ := h.told hV hw hv ht.1 hd
    exact ⟨h2 s (by omega) (by omega) hd, h3⟩
  · rintro ⟨h3, h4⟩
    rcases h1 with h1 | ⟨r, h1, _, h5, h6⟩
    · rw [h1] at h3; have := hV.h1; simp only [Never] at h3; omega
    · obtain ⟨_, _, h7⟩ := h.told hV hw hv ht.1 h6
      rw [h1] at h3
      obtain ⟨k, rfl⟩ : ∃ k : Nat, s = r + k := ⟨s - r, by omega⟩
      have : d (u, r + k) ≤ d (u, r) := h.wait hu k h7 h4 hs
      omega
end
end Go.Proofs.Ytcfachfldanddaa
/- The least sums by vertex and time, told one after another: what stays true while they are filled in; no program in sight. -/
namespace Go.Proofs.Ytcfachfldanddaa

/-- From where, and by which hop, one comes. -/
structure OrigD where
  v : Int
  t : Int
  edge : Int
  depart : Int
  hops : Bool
abbrev Tab (α : Type) := Nat × Nat → Option α
def vT (B : Tab Int) (p : Nat × Nat) : Int := (B p).getD Never
def setF {α : Type} (F : Tab α) (p : Nat × Nat) (a : α) : Tab α := fun q => if q = p then some a else F q
def lessF {α : Type} (B : Tab Int) (F : Tab α) (p : Nat × Nat) (n : Int) (a : α) : Tab α := if n < vT B p then setF F p a else F
theorem setF_at {α : Type} (F : Tab α) (p : Nat × Nat) (a : α) : setF F p a p = some a := by simp [setF]
theorem setF_ne {α : Type} (F : Tab α) {p q : Nat × Nat} (a : α) (h : q ≠ p) : setF F p a q = F q := by simp [setF, h]
theorem lessF_ne {α : Type} (B : Tab Int) (F : Tab α) {p q : Nat × Nat} (n : Int) (a : α) (h : q ≠ p) : lessF B F p n a q = F q := by
  unfold lessF
  split
  · exact setF_ne _ _ h
  · rfl
theorem vT_less (B : Tab Int) (p : Nat × Nat) (n : Int) : vT (lessF B B p n n) = upd (vT B) p (min (vT B p) n) := by
  funext q
  by_cases h : q = p
  · subst h
    rw [upd_at]
    unfold lessF
    split
    · rw [vT, setF_at, Option.getD_some]; omega
    · omega
  · rw [upd_ne _ _ h, vT, lessF_ne _ _ _ _ h, vT]
theorem vT_some {B : Tab Int} {p : Nat × Nat} {n : Int} (h : B p = some n) : vT B p = n := by rw [vT, h]; rfl
theorem vT_none {B : Tab Int} {p : Nat × Nat} (h : B p = none) : vT B p = Never := by rw [vT, h]; rfl

/-- An origin says how one comes here with this sum. -/
def OrigOk (g : GraphD) (wt : LegD → Int) (B : Tab Int) (p : Nat × Nat) (n : Int) (o : OrigD) : Prop :=
  (o.hops = false ∧ o.v = p.1 ∧ o.t + 1 = p.2 ∧ 0 ≤ o.t ∧ o.edge = 0 ∧ o.depart = 0 ∧ B (p.1, o.t.toNat) = some n) ∨
  (o.hops = true ∧ ∃ (j : Nat) (x : EdgeD) (l : LegD) (m : Int), o.edge = j ∧ g.edges[j]? = some x ∧ o.v = x.a ∧ x.b = p.1 ∧ o.depart = o.t ∧ 0 ≤ o.t ∧ arrive g x o.t = some (l, (p.2 : Int)) ∧ B (x.a.toNat, o.t.toNat) = some m ∧ n = m + wt l)
structure FillInv (g : GraphD) (wt : LegD → Int) (v s : Int) (t u : Nat) (ww : Bool) (i : Nat) (B : Tab Int) (O : Tab OrigD) : Prop where
  above : Above (CostA g wt) (initC g v s) (vT B)
  start : aliveB g v s = true → B (v.toNat, s.toNat) = some 0
  told : ∀ p n, B p = some n → p.1 < g.lives.length ∧ s ≤ p.2 ∧ (p.2 : Int) < g.h ∧ aliveB g p.1 p.2 = true ∧ 0 ≤ n ∧ n ≤ 1000 * (p.2 : Int)
  orig : ∀ p n, B p = some n → p ≠ (v.toNat, s.toNat) → s < p.2 ∧ ∃ o, O p = some o ∧ OrigOk g wt B p n o ∧ o.t ≤ t
  waits : ∀ (w r : Nat), (r < t ∨ r = t ∧ (w < u ∨ w = u ∧ ww = true)) → w < g.lives.length → (r : Int) + 1 < g.h → aliveB g w ((r : Int) + 1) = true → vT B (w, r + 1) ≤ vT B (w, r)
  legs : ∀ (j r : Nat) x l to, g.edges[j]? = some x → arrive g x r = some (l, to) → (r < t ∨ r = t ∧ (x.a < u ∨ x.a = u ∧ j < i)) → vT B (x.b.toNat, to.toNat) ≤ vT B (x.a.toNat, r) + wt l

section
variable {g : GraphD} {wt : LegD → Int} {v s : Int} {t u i : Nat} {ww : Bool} {B : Tab Int} {O : Tab OrigD}
theorem FillInv.big (hV : Valid g) (h : FillInv g wt v s t u ww i B O) (p : Nat × Nat) : vT B p ≤ Never := by
  cases hp : B p with
  | none => rw [vT_none hp]; exact Int.le_refl _
  | some n =>
    have := h.told p n hp
    have := hV.h1
    rw [vT_some hp]
    simp only [Never]
    omega
/-- At the start. -/
theorem fill_start (hV : Valid g) (hw : Light g wt) (hv : 0 ≤ v ∧ v < g.lives.length) (hs : 0 ≤ s ∧ s < g.h) (ha : aliveB g v s = true) : FillInv g wt v s s.toNat 0 false 0 (setF (fun _ => none) (v.toNat, s.toNat) 0) (fun _ => none) := by
  have hval : vT (setF (fun _ => none) (v.toNat, s.toNat) 0) = initC g v s := by
    funext q
    unfold initC
    by_cases h : q = (v.toNat, s.toNat)
    · rw [vT, h, setF_at, if_pos ⟨ha, by simp only; omega, by simp only; omega⟩]; rfl
    · rw [vT, setF_ne _ _ h, if_neg]
      · rfl
      · rintro ⟨_, h1, h2⟩
        apply h
        apply Prod.ext
        · simp only; omega
        · simp only; omega
  have hsome : ∀ p n, setF (fun _ => none) (v.toNat, s.toNat) (0 : Int) p = some n → p = (v.toNat, s.toNat) ∧ n = 0 := fun p n hp => by
    by_cases h : p = (v.toNat, s.toNat)
    · subst h
      rw [setF_at] at hp
      exact ⟨rfl, by simpa using hp.symm⟩
    · rw [setF_ne _ _ h] at hp; simp at hp
  have hnone : ∀ (r w : Nat), r < s.toNat → vT (setF (fun _ => none) (v.toNat, s.toNat) 0) (w, r) = Never := fun r w hr => by
    rw [vT, setF_ne _ _ (fun e => by simp only [Prod.mk.injEq] at e; omega)]; rfl
  have hle : ∀ p, vT (setF (fun _ => none) (v.toNat, s.toNat) 0) p ≤ Never := fun p => by rw [hval]; exact initC_big p
  refine ⟨by rw [hval]; exact above_init, fun _ => setF_at _ _ _, fun p n hp => ?_, fun p n hp hne => ?_, fun w r hr h1 h2 h3 => ?_, fun j r x l to hx hr hc => ?_⟩
  · obtain ⟨rfl, rfl⟩ := hsome p n hp
    refine ⟨by simp only; omega, by simp only; omega, by simp only; omega, ?_, by omega, by simp only; omega⟩
    simp only
    rw [show ((v.toNat : Nat) : Int) = v by omega, show ((s.toNat : Nat) : Int) = s by omega]
    exact ha
  · exact absurd (hsome p n hp).1 hne
  · rw [hnone r w (by rcases hr with h | ⟨h, h4 | h4⟩ <;> simp at * <;> omega)]
    exact hle _
  · have ho := hV.edges x (List.mem_of_getElem? hx)
    have h0 := ho.a0
    rw [hnone r x.a.toNat (by omega)]
    have := hw x (List.mem_of_getElem? hx) l (arrive_some hr).1
    have := hle (x.b.toNat, to.toNat)
    omega
theorem fill_start0 (hw : Light g wt) (ha : aliveB g v s = false) : FillInv g wt v s s.toNat 0 false 0 (fun _ => none) (fun _ => none) := by
  have hval : vT (fun _ => none) = initC g v s := by
    funext q
    unfold initC
    rw [if_neg (by rw [ha]; simp)]; rfl
  refine ⟨by rw [hval]; exact above_init, fun h => by rw [ha] at h; simp at h, fun p n hp => by simp at hp, fun p n hp => by simp at hp, fun w r hr h1 h2 h3 => Int.le_refl _, fun j r x l to hx hr hc => ?_⟩
  have := hw x (List.mem_of_getElem? hx) l (arrive_some hr).1
  show Never ≤ Never + wt l
  omega
theorem FillInv.put (h : FillInv g wt v s t u ww i B O) {m : Int} (hm : B (u, t) = some m) {p : Nat × Nat} {n : Int} {f : Int → Int} (hy : CostA g wt ⟨(u, t), p, f⟩) (hn : f m = n) (hp1 : p.1 < g.lives.length) (hp2 : t < p.2) (hp3 : (p.2 : Int) < g.h)
    (hp4 : aliveB g p.1 p.2 = true) (h0 : 0 ≤ n) (h1 : n ≤ 1000 * (p.2 : Int)) {o : OrigD} (ho : OrigOk g wt B p n o) (hot : o.t ≤ t) :
    FillInv g wt v s t u ww i (lessF B B p n n) (lessF B O p n o) ∧ vT (lessF B B p n n) p ≤ n ∧ ∀ q : Nat × Nat, q.2 ≤ t → lessF B B p n n q = B q := by
  have hk : ∀ q : Nat × Nat, q.2 ≤ t → lessF B B p n n q = B q := fun q hq => lessF_ne _ _ _ _ (fun e => by rw [e] at hq; omega)
  have hkv : ∀ q : Nat × Nat, q.2 ≤ t → vT (lessF B B p n n) q = vT B q := fun q hq => by rw [vT, vT, hk q hq]
  have hle : ∀ q, vT (lessF B B p n n) q ≤ vT B q := fun q => by
    rw [vT_less]
    by_cases e : q = p
    · rw [e, upd_at]; omega
    · rw [upd_ne _ _ e]; exact Int.le_refl _
  have hst : s ≤ t := (h.told _ _ hm).2.1
  have hor : ∀ q n' o', OrigOk g wt B q n' o' → o'.t ≤ t → OrigOk g wt (lessF B B p n n) q n' o' := fun q n' o' hq ht => by
    rcases hq with ⟨a1, a2, a3, a4, a5, a6, a7⟩ | ⟨a1, j, x, l, m', a2, a3, a4, a5, a6, a7, a8, a9, a10⟩
    · exact .inl ⟨a1, a2, a3, a4, a5, a6, by rw [hk _ (by simp only; omega)]; exact a7⟩
    · exact .inr ⟨a1, j, x, l, m', a2, a3, a4, a5, a6, a7, a8, by rw [hk _ (by simp only; omega)]; exact a9, a10⟩
  refine ⟨⟨?_, fun ha => ?_, fun q n' hq => ?_, fun q n' hq hne => ?_, fun w r hr k1 k2 k3 => ?_, fun j r x l to hx hr hc => ?_⟩, ?_, hk⟩
  · rw [vT_less]
    exact Above.upd h.above h.above hy (cost_mono _ hy) (by simp only; rw [vT_some hm, hn]; exact Int.le_refl _)
  · rw [hk _ (by simp only; omega)]; exact h.start ha
  · by_cases e : q = p
    · subst e
      unfold lessF at hq
      split at hq
      · rw [setF_at] at hq
        obtain rfl : n = n' := by simpa using hq
        exact ⟨hp1, by omega, hp3, hp4, h0, h1⟩
      · exact h.told _ _ hq
    · rw [lessF_ne _ _ _ _ e] at hq
      exact h.told _ _ hq
  · by_cases e : q = p
    · subst e
      by_cases hlt : n < vT B q
      · have e1 : lessF B B q n n q = some n := by unfold lessF; rw [if_pos hlt, setF_at]
        have e2 : lessF B O q n o q = some o := by unfold lessF; rw [if_pos hlt, setF_at]
        rw [e1] at hq
        obtain rfl : n = n' := by simpa using hq
        exact ⟨by omega, o, e2, hor _ _ _ ho hot, hot⟩
      · have e1 : lessF B B q n n q = B q := by unfold lessF; rw [if_neg hlt]
        have e2 : lessF B O q n o q = O q := by unfold lessF; rw [if_neg hlt]
        rw [e1] at hq
        obtain ⟨k1, o', k2, k3, k4⟩ := h.orig _ _ hq hne
        exact ⟨k1, o', by rw [e2]; exact k2, hor _ _ _ k3 k4, k4⟩
    · rw [lessF_ne _ _ _ _ e] at hq
      obtain ⟨k1, o', k2, k3, k4⟩ := h.orig _ _ hq hne
      exact ⟨k1, o', by rw [lessF_ne _ _ _ _ e]; exact k2, hor _ _ _ k3 k4, k4⟩
  · have := h.waits w r hr k1 k2 k3
    rw [hkv (w, r) (by simp only; omega)]
    exact Int.le_trans (hle _) this
  · have := h.legs j r x l to hx hr hc
    rw [hkv (x.a.toNat, r) (by simp only; omega)]
    exact Int.le_trans (hle _) this
  · rw [vT_less, upd_at]; omega
/-- A vertex at which one isn't then. -/
theorem FillInv.skip (hV : Valid g) (hw : Light g wt) (h : FillInv g wt v s t u false 0 B O) (hn : B (u, t) = none) : FillInv g wt v s t (u + 1) false 0 B O := by
  refine ⟨h.above, h.start, h.told, h.orig, fun w r hr k1 k2 k3 => ?_, fun j r x l to hx hr hc => ?_⟩
  · by_cases e : r = t ∧ w = u
    · rw [e.1, e.2, vT_none hn]; exact h.big hV _
    · exact h.waits w r (by rcases hr with hr | ⟨hr, hr2 | hr2⟩ <;> simp at * <;> omega) k1 k2 k3
  · have h2 := hw x (List.mem_of_getElem? hx) l (arrive_some hr).1
    have h0 := (hV.edges x (List.mem_of_getElem? hx)).a0
    by_cases e : r = t ∧ x.a = u
    · rw [e.1, show x.a.toNat = u by omega, vT_none hn]; have := h.big hV (x.b.toNat, to.toNat); omega
    · exact h.legs j r x l to hx hr (by omega)
theorem FillInv.wait (h : FillInv g wt v s t u false 0 B O) (hd : (t : Int) + 1 < g.h → aliveB g u ((t : Int) + 1) = true → vT B (u, t + 1) ≤ vT B (u, t)) : FillInv g wt v s t u true 0 B O := by
  refine ⟨h.above, h.start, h.told, h.orig, fun w r hr k1 k2 k3 => ?_, h.legs⟩
  by_cases e : r = t ∧ w = u
  · obtain ⟨rfl, rfl⟩ := e; exact hd k2 k3
  · exact h.waits w r (by rcases hr with hr | ⟨hr, hr2 | hr2⟩ <;> simp at * <;> omega) k1 k2 k3
theorem FillInv.edge (h : FillInv g wt v s t u true i B O) {x : EdgeD} (hx : g.edges[i]? = some x) (hd : x.a = u → ∀ l to, arrive g x t = some (l, to) → vT B (x.b.toNat, to.toNat) ≤ vT B (u, t) + wt l) : FillInv g wt v s t u true (i + 1) B O := by
  refine ⟨h.above, h.start, h.told, h.orig, h.waits, fun j r y l to hy hr hc => ?_⟩
  by_cases e : r = t ∧ y.a = u ∧ j = i
  · obtain ⟨rfl, e2, rfl⟩ := e
    rw [hx] at hy
    obtain rfl : x = y := by simpa using hy
    have := hd e2 l to hr
    rw [show x.a.toNat = u by omega]
    exact this
  · exact h.legs j r y l to hy hr (by omega)
theorem FillInv.nextV (h : FillInv g wt v s t u true g.edges.length B O) : FillInv g wt v s t (u + 1) false 0 B O := by
  refine ⟨h.above, h.start, h.told, h.orig, fun w r hr k1 k2 k3 => ?_, fun j r x l to hx hr hc => ?_⟩
  · exact h.waits w r (by rcases hr with hr | ⟨hr, hr2 | hr2⟩ <;> simp at * <;> omega) k1 k2 k3
  · have := (List.getElem?_eq_some_iff.1 hx).1
    exact h.legs j r x l to hx hr (by omega)
theorem FillInv.nextT (hV : Valid g) (h : FillInv g wt v s t g.lives.length false 0 B O) : FillInv g wt v s (t + 1) 0 false 0 B O := by
  refine ⟨h.above, h.start, h.told, fun p n hp hne => ?_, fun w r hr k1 k2 k3 => ?_, fun j r x l to hx hr hc => ?_⟩
  · obtain ⟨k1, o, k2, k3, k4⟩ := h.orig p n hp hne
    exact ⟨k1, o, k2, k3, by omega⟩
  · exact h.waits w r (by rcases hr with hr | ⟨hr, hr2 | hr2⟩ <;> simp at * <;> omega) k1 k2 k3
  · have h0 := (hV.edges x (List.mem_of_getElem? hx)).a0
    have h1 := (hV.edges x (List.mem_of_getElem? hx)).a1
    exact h.legs j r x l to hx hr (by omega)
/-- All is filled in. -/
theorem FillInv.ends (hV : Valid g) (hv : 0 ≤ v ∧ v < g.lives.length) (hs : 0 ≤ s) (h : FillInv g wt v s t 0 false 0 B O) (ht : g.h ≤ t) : CostL g wt v s (vT B) := by
  refine ⟨⟨fun p => ?_, ?_⟩, h.above⟩
  · unfold initC
    split
    · rename_i hp
      have e : p = (v.toNat, s.toNat) := Prod.ext (by simp only; omega) (by simp only; omega)
      rw [e, vT_some (h.start hp.1)]; exact Int.le_refl _
    · exact h.big hV p
  · rintro y (⟨w, r, rfl, h1, h2, h3⟩ | ⟨x, l, to, r, hx, ha, rfl⟩)
    · exact h.waits w r (.inl (by omega)) h1 h2 h3
    · obtain ⟨j, hj⟩ := List.getElem?_of_mem hx
      have := arrive_late hV (hV.edges x hx) ha
      exact h.legs j r x l to hj ha (.inl (by omega))
end
end Go.Proofs.Ytcfachfldanddaa
/- The least sum of each vertex; no program in sight. -/
namespace Go.Proofs.Ytcfachfldanddaa

/-- The least of the first k sums of a vertex, and when it is told first. -/
def leastN (d : Nat × Nat → Int) (v : Nat) : Nat → Int × Int
  | 0 => (Never, 0)
  | k + 1 => if d (v, k) < (leastN d v k).1 then (d (v, k), (k : Int)) else leastN d v k
theorem leastN_le (d : Nat × Nat → Int) (v : Nat) : ∀ k, (leastN d v k).1 ≤ Never
  | 0 => Int.le_refl _
  | k + 1 => by
    have ih := leastN_le d v k
    rw [leastN]
    split
    · simp only; omega
    · exact ih
theorem leastN_all {d : Nat × Nat → Int} {v : Nat} : ∀ {k r : Nat}, r < k → (leastN d v k).1 ≤ d (v, r)
  | 0, r, h => by omega
  | k + 1, r, h => by
    rw [leastN]
    by_cases e : r = k
    · subst e
      split
      · exact Int.le_refl _
      · omega
    · have ih := leastN_all (d := d) (v := v) (show r < k by omega)
      split
      · simp only; omega
      · exact ih
theorem leastN_at {d : Nat × Nat → Int} {v : Nat} : ∀ {k : Nat}, (leastN d v k).1 < Never → ∃ r : Nat, r < k ∧ (leastN d v k).2 = r ∧ d (v, r) = (leastN d v k).1
  | 0, h => by simp [leastN] at h
  | k + 1, h => by
    rw [leastN] at h ⊢
    by_cases c : d (v, k) < (leastN d v k).1
    · rw [if_pos c]
      exact ⟨k, by omega, rfl, rfl⟩
    · rw [if_neg c] at h ⊢
      obtain ⟨r, h1, h2, h3⟩ := leastN_at h
      exact ⟨r, by omega, h2, h3⟩
theorem leastN_range (d : Nat × Nat → Int) (v : Nat) : ∀ k, 0 ≤ (leastN d v k).2 ∧ (leastN d v k).2 ≤ k
  | 0 => by simp [leastN]
  | k + 1 => by
    have ih := leastN_range d v k
    rw [leastN]
    split
    · simp only; omega
    · omega
/-- The least sums of the vertices. -/
def leastL (g : GraphD) (d : Nat × Nat → Int) : List Int := (List.range g.lives.length).map fun u => (leastN d u g.h.toNat).1
/-- The list tells the least sums from a place. -/
def CostsL (g : GraphD) (wt : LegD → Int) (v s : Int) (l : List Int) : Prop := ∃ d, CostL g wt v s d ∧ l = leastL g d
theorem CostsL.eq {g : GraphD} {wt : LegD → Int} {v s : Int} {l r : List Int} (h : CostsL g wt v s l) (k : CostsL g wt v s r) : l = r := by
  obtain ⟨d, h1, rfl⟩ := h
  obtain ⟨e, k1, rfl⟩ := k
  rw [h1.eq k1]
def CostsOut (g : GraphD) (wt : LegD → Int) (v s : Int) (l : List Int) : Prop := if placeErr g v s = 0 then CostsL g wt v s l else l = []
theorem leastL_get {g : GraphD} {d : Nat × Nat → Int} {k : Nat} (h : k < g.lives.length) : (leastL g d)[k]? = some (leastN d k g.h.toNat).1 := by simp [leastL, h]
theorem leastL_len (g : GraphD) (d : Nat × Nat → Int) : (leastL g d).length = g.lives.length := by simp [leastL]
end Go.Proofs.Ytcfachfldanddaa
/- The line's earliest times, costs, and its way; no program in sight. -/
namespace Go.Proofs.Ytcfachfldanddaa

def lineG : GraphD := ⟨12, [⟨0, 12⟩, ⟨0, 12⟩, ⟨1, 12⟩], [⟨0, 1, [⟨0, 3, 2, 5⟩, ⟨3, 6, 1, 1⟩]⟩, ⟨1, 2, [⟨4, 5, 3, 2⟩]⟩]⟩
def lineE0 : EdgeD := ⟨0, 1, [⟨0, 3, 2, 5⟩, ⟨3, 6, 1, 1⟩]⟩
def lineE1 : EdgeD := ⟨1, 2, [⟨4, 5, 3, 2⟩]⟩
theorem line_edges : lineG.edges = [lineE0, lineE1] := rfl
theorem line_valid : Valid lineG := valid_of (by decide)
theorem line_early {l : List Int} (h : EarlyL lineG 0 0 l) : l = [0, 2, 7] := by
  have hV := line_valid
  have hx := hV.edges lineE0 (by simp [line_edges])
  have hy := hV.edges lineE1 (by simp [line_edges])
  refine h.eq ⟨rfl, ⟨fun i => ?_, ?_⟩, fun e he i => ?_⟩
  · match i with
    | 0 => decide
    | 1 => decide
    | 2 => decide
    | n + 3 => rw [gi_far (by simp), startE_far (by simp [lineG])]; exact Int.le_refl _
  · intro x hx
    obtain ⟨y, hy, rfl⟩ := mem_arcsE.1 hx
    rw [line_edges] at hy
    simp only [List.mem_cons, List.not_mem_nil, or_false] at hy
    rcases hy with rfl | rfl
    · decide
    · decide
  · have h0 := he.1 0
    have h1 := he.2 (arcE lineG lineE0) (mem_arcsE.2 ⟨_, by simp [line_edges], rfl⟩)
    have h3 := he.2 (arcE lineG lineE1) (mem_arcsE.2 ⟨_, by simp [line_edges], rfl⟩)
    have e0 : gi (startE lineG 0 0) 0 = 0 := by decide
    rw [e0] at h0
    have h2 := earlyF_mono hV hx (e 0) 0 h0
    have e1 : earlyF lineG lineE0 0 = 2 := by decide
    rw [e1] at h2
    have k1 : e 1 ≤ 2 := Int.le_trans h1 h2
    have h4 := earlyF_mono hV hy (e 1) 2 k1
    have e2 : earlyF lineG lineE1 2 = 7 := by decide
    rw [e2] at h4
    have k2 : e 2 ≤ 7 := Int.le_trans h3 h4
    match i with
    | 0 => show e 0 ≤ 0; omega
    | 1 => show e 1 ≤ 2; exact k1
    | 2 => show e 2 ≤ 7; exact k2
    | n + 3 =>
      have := he.1 (n + 3)
      rw [startE_far (by simp [lineG])] at this
      rw [gi_far (by simp)]
      exact this
theorem least_eq {d : Nat × Nat → Int} {v k r : Nat} {m : Int} (hr : r < k) (h1 : d (v, r) ≤ m) (h2 : ∀ s, m ≤ d (v, s)) (hm : m < Never) : (leastN d v k).1 = m := by
  have h3 := leastN_all (d := d) (v := v) hr
  obtain ⟨s, _, _, h4⟩ := leastN_at (d := d) (v := v) (k := k) (by omega)
  have := h2 s
  omega
theorem line_costs {l : List Int} (h : CostsL lineG lCost 0 0 l) : l = [0, 1, 3] := by
  obtain ⟨d, hd, rfl⟩ := h
  have low : ∀ p : Nat × Nat, (if p.1 = 0 then (0 : Int) else if p.1 = 1 then 1 else if p.1 = 2 then 3 else 0) ≤ d p := hd.2 _ ⟨fun p => ?_, ?_⟩
  · have hw : ∀ s : Nat, (s : Int) + 1 < 12 → d (0, s + 1) ≤ d (0, s) := fun s hs => hd.1.2 _ (.inl ⟨0, s, rfl, by decide, hs, by
      unfold aliveB
      show decide ((0 : Int) ≤ (s : Int) + 1 ∧ (s : Int) + 1 < 12) = true
      simp; omega⟩)
    have c0 : d (0, 0) ≤ 0 := by have := hd.1.1 (0, 0); simpa [initC, lineG, aliveB] using this
    have c1 : d (0, 1) ≤ d (0, 0) := hw 0 (by omega)
    have c2 : d (0, 2) ≤ d (0, 1) := hw 1 (by omega)
    have c3 : d (0, 3) ≤ d (0, 2) := hw 2 (by omega)
    have c4 : d (1, 4) ≤ d (0, 3) + 1 := hd.1.2 _ (.inr ⟨lineE0, ⟨3, 6, 1, 1⟩, 4, 3, by simp [line_edges], by decide, rfl⟩)
    have c5 : d (2, 7) ≤ d (1, 4) + 2 := hd.1.2 _ (.inr ⟨lineE1, ⟨4, 5, 3, 2⟩, 7, 4, by simp [line_edges], by decide, rfl⟩)
    have e0 := least_eq (d := d) (v := 0) (k := 12) (r := 0) (m := 0) (by omega) c0 (fun s => by simpa using low (0, s)) (by decide)
    have e1 := least_eq (d := d) (v := 1) (k := 12) (r := 4) (m := 1) (by omega) (by omega) (fun s => by simpa using low (1, s)) (by decide)
    have e2 := least_eq (d := d) (v := 2) (k := 12) (r := 7) (m := 3) (by omega) (by omega) (fun s => by simpa using low (2, s)) (by decide)
    show [(leastN d 0 12).1, (leastN d 1 12).1, (leastN d 2 12).1] = _
    rw [e0, e1, e2]
  · unfold initC
    show (if p.1 = 0 then (0 : Int) else if p.1 = 1 then 1 else if p.1 = 2 then 3 else 0) ≤ _
    by_cases h0 : p.1 = 0
    · rw [if_pos h0]; split <;> simp [Never]
    · have hn : ¬ (aliveB lineG 0 0 = true ∧ (p.1 : Int) = 0 ∧ (p.2 : Int) = 0) := fun h => h0 (by have := h.2.1; omega)
      rw [if_neg h0, if_neg hn]
      split
      · simp [Never]
      · split <;> simp [Never]
  · rintro y (⟨v, t, rfl, _, _, _⟩ | ⟨x, lg, te, t, hx, ha, rfl⟩)
    · exact Int.le_refl _
    · rw [line_edges] at hx
      have hs := arrive_some ha
      simp only [List.mem_cons, List.not_mem_nil, or_false] at hx
      rcases hx with rfl | rfl
      · have := hs.1
        simp only [lineE0, List.mem_cons, List.not_mem_nil, or_false] at this
        rcases this with rfl | rfl <;> simp [lineE0, lCost]
      · have := hs.1
        simp only [lineE1, List.mem_cons, List.not_mem_nil, or_false] at this
        subst this
        simp [lineE1, lCost]
theorem line_hop {v t b te k : Int} {h : HopD} (hh : hopTo lineG v t h = some (b, te, k)) : (h.edge = 0 ∧ v = 0 ∧ b = 1) ∨ (h.edge = 1 ∧ v = 1 ∧ b = 2 ∧ h.depart = 4) := by
  obtain ⟨x, lg, h0, hx, h1, h2, h3, h4, h5⟩ := hopTo_spec hh
  rw [line_edges] at hx
  have hl := (List.getElem?_eq_some_iff.1 hx).1
  simp only [List.length_cons, List.length_nil] at hl
  by_cases e : h.edge = 0
  · rw [e] at hx
    obtain rfl : lineE0 = x := by simpa using hx
    exact .inl ⟨e, h1.symm, h4⟩
  · have e1 : h.edge = 1 := by omega
    rw [e1] at hx
    obtain rfl : lineE1 = x := by simpa using hx
    have hs := arrive_some h3
    have := hs.1
    simp only [lineE1, List.mem_cons, List.not_mem_nil, or_false] at this
    subst this
    exact .inr ⟨e1, h1.symm, h4, by simp only at hs; omega⟩
theorem line_way {a : List Int} {hops : List HopD} (ha : EarlyL lineG 0 0 a) (h : WayOk lineG 0 0 2 a hops) : hops = [⟨0, 0⟩, ⟨1, 4⟩] := by
  obtain rfl := line_early ha
  obtain ⟨c, hc⟩ := h.go
  match hops, h, hc with
  | [], _, hc => simp [goL] at hc
  | [y], h, hc =>
    exfalso
    cases hh : hopTo lineG 0 0 y with
    | none => rw [goL_none hh] at hc; simp at hc
    | some p =>
      obtain ⟨b, te, k⟩ := p
      rw [goL_some hh] at hc
      simp only [goL, Option.some.injEq, Prod.mk.injEq] at hc
      rcases line_hop hh with h1 | h1 <;> omega
  | y :: z :: r, h, hc =>
    cases hh : hopTo lineG 0 0 y with
    | none => rw [goL_none hh] at hc; simp at hc
    | some p =>
      obtain ⟨b, te, k⟩ := p
      rw [goL_some hh] at hc
      have h1 : y.edge = 0 ∧ b = 1 := by rcases line_hop hh with h1 | h1 <;> omega
      obtain ⟨h1, rfl⟩ := h1
      cases hh2 : hopTo lineG 1 te z with
      | none => rw [goL_none hh2] at hc; simp at hc
      | some q =>
        obtain ⟨b2, te2, k2⟩ := q
        rw [goL_some hh2] at hc
        have h2 : z.edge = 1 ∧ b2 = 2 ∧ z.depart = 4 := by rcases line_hop hh2 with h2 | h2 <;> omega
        obtain ⟨h2, rfl, h3⟩ := h2
        have hr : r = [] := by
          cases r with
          | nil => rfl
          | cons u r =>
            exfalso
            cases hh3 : hopTo lineG 2 te2 u with
            | none => rw [goL_none hh3] at hc; simp at hc
            | some q => obtain ⟨b3, te3, k3⟩ := q; rcases line_hop hh3 with h2 | h2 <;> omega
        subst hr
        have hy : y.depart = 0 := by
          obtain ⟨x, lg, k1, k3⟩ := h.tight y (by simp)
          rw [line_edges, h1] at k1
          obtain rfl : lineE0 = x := by simpa using k1
          have hs := arrive_some k3
          have h5 := hs.2.2.2.1
          have h4 := hs.1
          have e7 : gi [0, 2, 7] lineE0.b.toNat = 2 := rfl
          rw [e7] at h5
          simp only [lineE0, List.mem_cons, List.not_mem_nil, or_false] at h4
          rcases h4 with rfl | rfl <;> (simp only at hs h5; omega)
        obtain ⟨ye, yd⟩ := y
        obtain ⟨ze, zd⟩ := z
        simp only at h1 h2 h3 hy
        subst h1 h2 h3 hy
        rfl
end Go.Proofs.Ytcfachfldanddaa
