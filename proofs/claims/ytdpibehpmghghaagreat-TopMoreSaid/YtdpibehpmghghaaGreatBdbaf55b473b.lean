/- Several texts in one: LateSpec, LateMid. -/
import Derived.Test.YtdpibehpmghghaaGreatBd0780f597cc
/- The latest times, as greatest solutions of a system turned round; what they have to do with the earliest ones; no program in sight. -/
namespace Go.Proofs.YtdpibehpmghghaaGreat

/-- The last one of n times (from d - 1 down) at which one can leave along an edge to come by a time; -1: none. -/
def lastL (g : GraphD) (x : EdgeD) (by' : Int) : Nat → Int
  | 0 => -1
  | n + 1 => match arrive g x n with
    | some p => if p.2 ≤ by' then (n : Int) else lastL g x by' n
    | none => lastL g x by' n
theorem lastL_no {g : GraphD} {x : EdgeD} {s : Int} {n : Nat} (h : arrive g x n = none) : lastL g x s (n + 1) = lastL g x s n := by simp [lastL, h]
theorem lastL_yes {g : GraphD} {x : EdgeD} {s to : Int} {n : Nat} {l : LegD} (h : arrive g x n = some (l, to)) (h2 : to ≤ s) : lastL g x s (n + 1) = n := by simp [lastL, h, h2]
theorem lastL_late {g : GraphD} {x : EdgeD} {s to : Int} {n : Nat} {l : LegD} (h : arrive g x n = some (l, to)) (h2 : ¬ to ≤ s) : lastL g x s (n + 1) = lastL g x s n := by simp [lastL, h, h2]
def lastT (g : GraphD) (x : EdgeD) (s : Int) : Int := lastL g x s g.h.toNat
theorem lastL_spec {g : GraphD} {x : EdgeD} {s : Int} : ∀ n : Nat, -1 ≤ lastL g x s n ∧ lastL g x s n < n ∧ (0 ≤ lastL g x s n → ∃ l to, arrive g x (lastL g x s n) = some (l, to) ∧ to ≤ s) ∧
    ∀ (d : Int) l to, 0 ≤ d → d < n → arrive g x d = some (l, to) → to ≤ s → d ≤ lastL g x s n
  | 0 => ⟨by simp [lastL], by simp [lastL], fun h => by simp [lastL] at h, fun d l to h1 h2 => by omega⟩
  | n + 1 => by
    obtain ⟨h1, h2, h3, h4⟩ := lastL_spec (g := g) (x := x) (s := s) n
    have hlow : lastL g x s (n + 1) = lastL g x s n → (∀ l to, arrive g x n = some (l, to) → ¬ to ≤ s) → -1 ≤ lastL g x s (n + 1) ∧ lastL g x s (n + 1) < ((n + 1 : Nat) : Int) ∧ (0 ≤ lastL g x s (n + 1) → ∃ l to, arrive g x (lastL g x s (n + 1)) = some (l, to) ∧ to ≤ s) ∧
        ∀ (d : Int) l to, 0 ≤ d → d < ((n + 1 : Nat) : Int) → arrive g x d = some (l, to) → to ≤ s → d ≤ lastL g x s (n + 1) := by
      intro e hno
      rw [e]
      refine ⟨h1, by omega, h3, fun d l to k1 k2 k3 k4 => ?_⟩
      by_cases hd : d = n
      · rw [hd] at k3; exact absurd k4 (hno l to k3)
      · exact h4 d l to k1 (by omega) k3 k4
    cases ha : arrive g x n with
    | none => exact hlow (lastL_no ha) fun l to h => by simp [ha] at h
    | some p =>
      obtain ⟨l, to⟩ := p
      by_cases hle : to ≤ s
      · rw [lastL_yes ha hle]
        exact ⟨by omega, by omega, fun _ => ⟨l, to, ha, hle⟩, fun d l' to' k1 k2 k3 k4 => by omega⟩
      · refine hlow (lastL_late ha hle) fun l' to' h => ?_
        rw [ha] at h
        simp only [Option.some.injEq, Prod.mk.injEq] at h
        omega
section
variable {g : GraphD} {x : EdgeD} {s : Int}
theorem lastT_low : -1 ≤ lastT g x s := (lastL_spec _).1
theorem lastT_some (h : 0 ≤ lastT g x s) : ∃ l to, arrive g x (lastT g x s) = some (l, to) ∧ to ≤ s := (lastL_spec _).2.2.1 h
theorem lastT_ge (hV : Valid g) (hx : EdgeOk g x) {d to : Int} {l : LegD} (h : arrive g x d = some (l, to)) (h2 : to ≤ s) : d ≤ lastT g x s := by
  have := arrive_late hV hx h
  exact (lastL_spec _).2.2.2 d l to (by omega) (by omega) h h2
theorem lastT_lt (hV : Valid g) (hx : EdgeOk g x) : lastT g x s = -1 ∨ lastT g x s < s := by
  by_cases h : 0 ≤ lastT g x s
  · obtain ⟨l, to, h1, h2⟩ := lastT_some h
    have := arrive_late hV hx h1
    right; omega
  · have := lastT_low (g := g) (x := x) (s := s)
    left; omega
theorem lastT_mono (hV : Valid g) (hx : EdgeOk g x) {t : Int} (h : s ≤ t) : lastT g x s ≤ lastT g x t := by
  by_cases h0 : 0 ≤ lastT g x s
  · obtain ⟨l, to, h1, h2⟩ := lastT_some h0
    exact lastT_ge hV hx h1 (by omega)
  · have := lastT_low (g := g) (x := x) (s := t); omega
end
def arcD (g : GraphD) (x : EdgeD) : Arc Nat := ⟨x.b.toNat, x.a.toNat, fun e => - lastT g x (- e)⟩
def arcsD (g : GraphD) : List (Arc Nat) := g.edges.map (arcD g)
def startL (g : GraphD) (v t : Int) : List Int := (List.range g.lives.length).map fun (k : Nat) => if aliveB g v t = true ∧ (k : Int) = v then t else -1
/-- The list tells how late one can be at a vertex, to come to a place by then. -/
def LateL (g : GraphD) (v t : Int) (l : List Int) : Prop := l.length = g.lives.length ∧ Best (· ∈ arcsD g) (fun i => - gi (startL g v t) i) (fun i => - gi l i)
theorem LateL.eq {g : GraphD} {v t : Int} {l r : List Int} (h : LateL g v t l) (k : LateL g v t r) : l = r :=
  gi_ext (h.1.trans k.1.symm) (funext fun i => by have e : - gi l i = - gi r i := congrFun (h.2.eq k.2) i; omega)
theorem mem_arcsD {g : GraphD} {y : Arc Nat} : y ∈ arcsD g ↔ ∃ x, x ∈ g.edges ∧ y = arcD g x := by
  simp only [arcsD, List.mem_map]
  exact ⟨fun ⟨x, h, e⟩ => ⟨x, h, e.symm⟩, fun ⟨x, h, e⟩ => ⟨x, h, e.symm⟩⟩
theorem arcD_in {g : GraphD} (hV : Valid g) {x : EdgeD} (hx : x ∈ g.edges) : (arcD g x).a < g.lives.length ∧ (arcD g x).b < g.lives.length := by
  have ho := hV.edges x hx
  have h0 := ho.a0; have h1 := ho.a1; have h2 := ho.b0; have h3 := ho.b1
  simp only [arcD]; omega
theorem arcE_in {g : GraphD} (hV : Valid g) {x : EdgeD} (hx : x ∈ g.edges) : (arcE g x).a < g.lives.length ∧ (arcE g x).b < g.lives.length := by
  have ho := hV.edges x hx
  have h0 := ho.a0; have h1 := ho.a1; have h2 := ho.b0; have h3 := ho.b1
  simp only [arcE]; omega
section
variable {g : GraphD} {v t : Int} {l a b : List Int}
theorem startL_val {k : Nat} (h : k < g.lives.length) : gi (startL g v t) k = if aliveB g v t = true ∧ (k : Int) = v then t else -1 := by unfold startL; rw [gi_map_range h]
theorem startL_far {k : Nat} (h : g.lives.length ≤ k) : gi (startL g v t) k = 0 := by unfold startL; rw [gi_map_range_far h]
/-! ### between earliest times -/
/-- Who starts later, where one could have waited, comes no earlier. -/
theorem EarlyL.later (_hV : Valid g) {s : Int} (ha : EarlyL g v s a) (hb : EarlyL g v t b) (hal : aliveB g v s = true) (hst : s ≤ t) (hs : s ≤ 100) (i : Nat) : gi a i ≤ gi b i := by
  refine hb.2.2 (gi a) ⟨fun k => ?_, ha.2.1.2⟩ i
  by_cases hk : k < g.lives.length
  · rw [startE_val hk]
    split
    · rename_i hp
      have := ha.2.1.1 k
      rw [startE_val hk, if_pos ⟨hal, hp.2⟩] at this
      omega
    · exact ha.big hs k
  · rw [startE_far (by omega), gi_far (by have := ha.1; omega)]; exact Int.le_refl _
/-- By way of another vertex one comes no earlier. -/
theorem EarlyL.via (ha : EarlyL g v t a) (ht : t ≤ 100) {m : Nat} (hb : EarlyL g m (gi a m) b) (i : Nat) : gi a i ≤ gi b i := by
  refine hb.2.2 (gi a) ⟨fun k => ?_, ha.2.1.2⟩ i
  by_cases hk : k < g.lives.length
  · rw [startE_val hk]
    split
    · rename_i hp
      have : k = m := by omega
      rw [this]; exact Int.le_refl _
    · exact ha.big ht k
  · rw [startE_far (by omega), gi_far (by have := ha.1; omega)]; exact Int.le_refl _
theorem EarlyL.dead (hV : Valid g) (ha : EarlyL g v t a) (ht : t ≤ 100) (hal : aliveB g v t = false) {k : Nat} (hk : k < g.lives.length) : gi a k = Never := by
  refine ha.2.far (I := Never) (fun i => ha.big ht i) (fun y hy => (arcsE_ok hV y hy).2.2.1) (fun y hy => (arcsE_ok hV y hy).2.2.2) (fun i => i < g.lives.length) (fun y hy _ => (arcsE_ok hV y hy).1) (fun i hi => ?_) k hk
  rw [startE_val hi, if_neg (by simp [hal])]
  exact Int.le_refl _
theorem EarlyL.self (hV : Valid g) (ha : EarlyL g v t a) (ht : t ≤ 100) (hv : 0 ≤ v ∧ v < g.lives.length) (hal : aliveB g v t = true) : gi a v.toNat = t := by
  have h1 := ha.2.1.1 v.toNat
  rw [startE_val (by omega), if_pos ⟨hal, by omega⟩] at h1
  have h2 := ha.low hV ht (k := v.toNat) (by omega)
  omega
/-! ### between latest and earliest times -/
/-- What the latest times say: alive or never; no later than the end; of each time at which one is alive whether one comes by the end. -/
theorem LateL.ge (h : LateL g v t l) (hal : aliveB g v t = true) (hv : 0 ≤ v ∧ v < g.lives.length) : t ≤ gi l v.toNat := by
  have h1 := h.2.1.1 v.toNat
  simp only at h1
  rw [startL_val (by omega), if_pos ⟨hal, by omega⟩] at h1
  omega
theorem LateL.arc (h : LateL g v t l) {x : EdgeD} (hx : x ∈ g.edges) : lastT g x (gi l x.b.toNat) ≤ gi l x.a.toNat := by
  have := h.2.1.2 (arcD g x) (mem_arcsD.2 ⟨x, hx, rfl⟩)
  simp only [arcD, Int.neg_neg] at this
  omega
theorem LateL.dead (hV : Valid g) (h : LateL g v t l) (hal : aliveB g v t = false) {k : Nat} (hk : k < g.lives.length) : gi l k = -1 := by
  have h1 := h.2.1.1 k
  simp only [startL_val hk] at h1
  rw [if_neg (by simp [hal])] at h1
  have h2 := h.2.2 (fun i => if i < g.lives.length then 1 else 0) ⟨fun i => ?_, fun y hy => ?_⟩ k
  · simp only [if_pos hk] at h2; omega
  · by_cases hi : i < g.lives.length
    · simp only [if_pos hi]; rw [startL_val hi, if_neg (by simp [hal])]; omega
    · simp only [if_neg hi]; rw [startL_far (by omega)]; omega
  · obtain ⟨x, hx, rfl⟩ := mem_arcsD.1 hy
    have ho := hV.edges x hx
    have h0 := ho.a0; have h1 := ho.a1; have h2 := ho.b0; have h3 := ho.b1
    obtain ⟨e1, e2⟩ := arcD_in hV hx
    simp only [if_pos e1, if_pos e2]
    simp only [arcD]
    rcases lastT_lt (s := -1) hV ho with h4 | h4
    · rw [h4]; decide
    · have := lastT_low (g := g) (x := x) (s := -1); omega
theorem LateL.reach (hV : Valid g) (h : LateL g v t l) (hv : 0 ≤ v ∧ v < g.lives.length) (ht : t ≤ 100) (hal : aliveB g v t = true) {u : Nat} (_hu : u < g.lives.length) {s : Int} (_ : 0 ≤ s ∧ s ≤ 100) (_ : aliveB g u s = true) (ha : EarlyL g u s a) :
    gi a v.toNat ≤ t → s ≤ gi l u := by
  intro hle
  refine Classical.byContradiction fun hn => ?_
  have hlow : ∀ k, k < g.lives.length → -1 ≤ gi l k := fun k hk => by
    have h1 := h.2.1.1 k
    simp only at h1
    rw [startL_val hk] at h1
    split at h1
    · rename_i hp
      obtain ⟨hp1, _⟩ := hp
      unfold aliveB at hp1
      split at hp1
      · rename_i lf hlf
        have := hV.lives lf (List.mem_of_getElem? hlf)
        simp at hp1
        omega
      · simp at hp1
    · omega
  have hbig : ∀ k, k < g.lives.length → gi l k < 100 + 1 := by
    have := h.2.2 (fun i => if i < g.lives.length then -100 else 0) ⟨fun i => ?_, fun y hy => ?_⟩
    · intro k hk
      have := this k
      simp only [if_pos hk] at this
      omega
    · by_cases hi : i < g.lives.length
      · simp only [if_pos hi]; rw [startL_val hi]; split <;> omega
      · simp only [if_neg hi]; rw [startL_far (by omega)]; omega
    · obtain ⟨x, hx, rfl⟩ := mem_arcsD.1 hy
      have ho := hV.edges x hx
      have h0 := ho.a0; have h1 := ho.a1; have h2 := ho.b0; have h3 := ho.b1
      obtain ⟨e1, e2⟩ := arcD_in hV hx
      simp only [if_pos e1, if_pos e2]
      simp only [arcD]
      rcases lastT_lt (s := 100) hV ho with h4 | h4
      · rw [show -(-100 : Int) = 100 from by decide, h4]; decide
      · rw [show -(-100 : Int) = 100 from by decide]; omega
  have := ha.2.2 (fun i => if i < g.lives.length then gi l i + 1 else 0) ⟨fun i => ?_, fun y hy => ?_⟩ v.toNat
  · rw [if_pos (show v.toNat < g.lives.length by omega)] at this
    have := h.ge hal hv
    omega
  · by_cases hi : i < g.lives.length
    · simp only [if_pos hi]
      rw [startE_val hi]
      split
      · rename_i hp
        have : i = u := by omega
        rw [this]; omega
      · have := hbig i hi; simp only [Never]; omega
    · simp only [if_neg hi]; rw [startE_far (by omega)]; exact Int.le_refl _
  · obtain ⟨x, hx, rfl⟩ := mem_arcsE.1 hy
    have ho := hV.edges x hx
    have h0 := ho.a0; have h1 := ho.a1; have h2 := ho.b0; have h3 := ho.b1
    obtain ⟨e1, e2⟩ := arcE_in hV hx
    simp only [if_pos e1, if_pos e2]
    simp only [arcE]
    rcases earlyF_cases hV ho (gi l x.a.toNat + 1) with h4 | ⟨d, lg, to, h4, h5, h6, _⟩
    · rw [h4]
      have := hbig x.b.toNat (by omega)
      simp only [Never]; omega
    · rw [h6]
      refine Classical.byContradiction fun hgt => ?_
      have k1 := lastT_ge (s := gi l x.b.toNat) hV ho h5 (by omega)
      have k2 := h.arc hx
      omega
theorem early_ex (hV : Valid g) (v t : Int) (h0 : 0 ≤ t ∧ t ≤ 100) : ∃ a, EarlyL g v t a := by
  obtain ⟨d, hd⟩ := Best.ex (A := (· ∈ arcsE g)) (init := gi (startE g v t)) (fun y hy => (arcsE_ok hV y hy).2.2.1) ⟨fun _ => 0, fun i => by
    by_cases hi : i < g.lives.length
    · rw [startE_val hi]; split <;> simp only [Never] <;> omega
    · rw [startE_far (by omega)]; exact Int.le_refl _, fun y hy => by
    obtain ⟨x, hx, rfl⟩ := mem_arcsE.1 hy
    exact earlyF_ge hV (hV.edges x hx) (by simp [Never])⟩
  refine ⟨(List.range g.lives.length).map d, by simp, ⟨fun i => ?_, fun y hy => ?_⟩, fun e he i => ?_⟩
  · by_cases hi : i < g.lives.length
    · rw [gi_map_range hi]; exact hd.1.1 i
    · rw [gi_map_range_far (by omega), startE_far (by omega)]; exact Int.le_refl _
  · obtain ⟨h1, h2, _⟩ := arcsE_ok hV y hy
    rw [gi_map_range h1, gi_map_range h2]
    exact hd.1.2 y hy
  · by_cases hi : i < g.lives.length
    · rw [gi_map_range hi]; exact hd.2 e he i
    · have := he.1 i
      rw [startE_far (by omega)] at this
      rw [gi_map_range_far (by omega)]; exact this
/-- Whether one comes by the end, who is somewhere at a time. -/
def Comes (g : GraphD) (v t : Int) (u : Nat) (s : Int) : Prop := 0 ≤ s ∧ s ≤ 100 ∧ aliveB g u s = true ∧ ∃ a, EarlyL g u s a ∧ gi a v.toNat ≤ t
theorem alive_time (hV : Valid g) {u s : Int} (h : aliveB g u s = true) : 0 ≤ s ∧ s < g.h ∧ s ≤ 99 := by
  unfold aliveB at h
  split at h
  · rename_i lf hlf
    have := hV.lives lf (List.mem_of_getElem? hlf)
    have := hV.h1
    simp at h
    omega
  · simp at h
theorem Comes.earlier (hV : Valid g) {u : Nat} {s r : Int} (h : Comes g v t u s) (hr : aliveB g u r = true) (hrs : r ≤ s) : Comes g v t u r := by
  obtain ⟨h1, h2, h3, a, h4, h5⟩ := h
  have h6 := alive_time hV hr
  obtain ⟨b, hb⟩ := early_ex hV u r (by omega)
  exact ⟨by omega, by omega, hr, b, hb, Int.le_trans (hb.later hV h4 hr hrs (by omega) _) h5⟩
/-- The latest time at a vertex is one from which one comes by the end, or there is none such. -/
theorem LateL.is (hV : Valid g) (h : LateL g v t l) (hv : 0 ≤ v ∧ v < g.lives.length) (ht : t ≤ 100) (hal : aliveB g v t = true) {u : Nat} (hu : u < g.lives.length) :
    (gi l u = -1 ∨ Comes g v t u (gi l u)) ∧ ∀ s, Comes g v t u s → s ≤ gi l u := by
  have hup : ∀ k, k < g.lives.length → ∀ s, Comes g v t k s → s ≤ gi l k := fun k hk s ⟨h1, h2, h3, a, h4, h5⟩ => h.reach hV hv ht hal hk ⟨h1, h2⟩ h3 h4 h5
  have hg : ∀ k : Nat, ∃ m, (m = -1 ∨ Comes g v t k m) ∧ ∀ x, (x = -1 ∨ Comes g v t k x) → x ≤ m := fun k =>
    greatest (P := fun m => m = -1 ∨ Comes g v t k m) (B := 100) (fun x hx => hx.elim (fun h => by omega) (fun h => h.2.1)) ⟨-1, .inl rfl⟩
  obtain ⟨D, hD⟩ := Classical.axiomOfChoice hg
  refine ⟨?_, fun s hs => hup u hu s hs⟩
  have hlow : -1 ≤ gi l u := by
    have h1 := h.2.1.1 u
    simp only [startL_val hu] at h1
    split at h1
    · have := alive_time hV hal; omega
    · omega
  have hDl : gi l u ≤ D u := by
    have := h.2.2 (fun i => if i < g.lives.length then - D i else 0) ⟨fun i => ?_, fun y hy => ?_⟩ u
    · simp only [if_pos hu] at this; omega
    · by_cases hi : i < g.lives.length
      · simp only [if_pos hi]
        rw [startL_val hi]
        split
        · rename_i hp
          have hvi : v = (i : Int) := hp.2.symm
          have htm := alive_time hV hal
          obtain ⟨a, ha⟩ := early_ex hV v t (by omega)
          have := (hD i).2 t (.inr ⟨by omega, by omega, by rw [← hvi]; exact hal, a, by rw [← hvi]; exact ha, by rw [ha.self hV ht hv hal]; exact Int.le_refl _⟩)
          omega
        · have := (hD i).2 (-1) (.inl rfl)
          omega
      · simp only [if_neg hi]; rw [startL_far (by omega)]; exact Int.le_refl _
    · obtain ⟨x, hx, rfl⟩ := mem_arcsD.1 hy
      have ho := hV.edges x hx
      have h0 := ho.a0; have h1 := ho.a1; have h2 := ho.b0; have h3 := ho.b1
      obtain ⟨e1, e2⟩ := arcD_in hV hx
      simp only [if_pos e1, if_pos e2]
      simp only [arcD, Int.neg_neg]
      refine Int.neg_le_neg ?_
      by_cases hlast : 0 ≤ lastT g x (D x.b.toNat)
      · obtain ⟨lg, to, h4, h5⟩ := lastT_some hlast
        have h6 := arrive_late hV ho h4
        have h7 := arrive_some h4
        rcases (hD x.b.toNat).1 with he | ⟨k1, k2, k3, a, k4, k5⟩
        · omega
        · refine (hD x.a.toNat).2 _ (.inr ⟨hlast, by omega, by rw [show ((x.a.toNat : Nat) : Int) = x.a by omega]; exact h7.2.2.2.2.2.1, ?_⟩)
          obtain ⟨a', ha'⟩ := early_ex hV x.a.toNat (lastT g x (D x.b.toNat)) (by omega)
          refine ⟨a', ha', ?_⟩
          have hxa : aliveB g x.a.toNat (lastT g x (D x.b.toNat)) = true := by rw [show ((x.a.toNat : Nat) : Int) = x.a by omega]; exact h7.2.2.2.2.2.1
          have e1 := ha'.self hV (by omega) ⟨by omega, by omega⟩ hxa
          have e2 := ha'.arc hx
          simp only [Int.toNat_natCast] at e1
          rw [e1] at e2
          have e3 := earlyF_le hV ho (Int.le_refl _) h4
          have e4 : Here g x.b.toNat (gi a' x.b.toNat) := ha'.here hV ⟨by omega, by omega, by omega, by omega⟩ (by omega) (by simp only [Never]; omega)
          obtain ⟨b, hb⟩ := early_ex hV x.b.toNat (gi a' x.b.toNat) ⟨e4.2.2.1, by have := e4.2.2.2.1; have := hV.h1; omega⟩
          have e5 := ha'.via (by omega) hb v.toNat
          have e6 := hb.later hV k4 e4.2.2.2.2 (by omega) (by have := e4.2.2.2.1; have := hV.h1; omega) v.toNat
          omega
      · have := (hD x.a.toNat).2 (-1) (.inl rfl)
        omega
  rcases (hD u).1 with he | hc
  · left; omega
  · have := hup u hu _ hc
    right
    rw [show gi l u = D u by omega]
    exact hc
end
end Go.Proofs.YtdpibehpmghghaaGreat
/- The latest times, edge by edge, as plain Lean; no program in sight. -/
namespace Go.Proofs.YtdpibehpmghghaaGreat

/-- How much later all could still be. -/
def left (l : List Int) : Nat := total (l.map fun x => 100 - x)
theorem left_set {l : List Int} {i : Nat} (h : i < l.length) {x : Int} (h1 : gi l i < x) (h2 : x ≤ 100) : left (l.set i x) < left l := by
  have e : gi (l.map fun x => 100 - x) i = 100 - gi l i := gi_of (by rw [List.getElem?_map, gi_get h]; rfl)
  have := total_set (l := l.map fun x => 100 - x) (i := i) (by simpa using h) (100 - x)
  rw [e] at this
  unfold left
  rw [List.map_set]
  omega
/-- In the midst of a round: j edges have been looked at. -/
structure TMid (g : GraphD) (v t : Int) (l0 l : List Int) (more : Bool) (j : Nat) : Prop where
  len : l.length = g.lives.length
  le : ∀ i, gi (startL g v t) i ≤ gi l i
  above : Above (· ∈ arcsD g) (fun i => - gi (startL g v t) i) (fun i => - gi l i)
  tot : left l ≤ left l0
  less : more = true → left l < left l0
  told : more = false → ∀ x, x ∈ g.edges.take j → lastT g x (gi l x.b.toNat) ≤ gi l x.a.toNat
section
variable {g : GraphD} {v t : Int} {l0 l : List Int} {more : Bool} {j : Nat}
theorem startL_low (ht : 0 ≤ t) (i : Nat) : -1 ≤ gi (startL g v t) i := by
  by_cases hi : i < g.lives.length
  · rw [startL_val hi]; split <;> omega
  · rw [startL_far (by omega)]; decide
theorem TMid.low (h : TMid g v t l0 l more j) (ht : 0 ≤ t) (i : Nat) : -1 ≤ gi l i := Int.le_trans (startL_low ht i) (h.le i)
theorem late_high (hV : Valid g) (ht : t ≤ 100) (h : Above (· ∈ arcsD g) (fun i => - gi (startL g v t) i) (fun i => - gi l i)) (i : Nat) : gi l i ≤ 100 := by
  have := h (fun _ => -100) ⟨fun i => ?_, fun y hy => ?_⟩ i
  · simp only at this; omega
  · by_cases hi : i < g.lives.length
    · simp only [startL_val hi]; split <;> omega
    · simp only [startL_far (show g.lives.length ≤ i by omega)]; decide
  · obtain ⟨x, hx, rfl⟩ := mem_arcsD.1 hy
    simp only [arcD]
    rcases lastT_lt (s := 100) hV (hV.edges x hx) with h4 | h4
    · rw [show -(-100 : Int) = 100 from by decide, h4]; decide
    · rw [show -(-100 : Int) = 100 from by decide]; omega
theorem TMid.start (_ : 0 ≤ t) : TMid g v t (startL g v t) (startL g v t) false 0 := ⟨by simp [startL], fun _ => Int.le_refl _, above_init, Nat.le_refl _, fun h => by simp at h, fun _ a ha => by simp at ha⟩
theorem TMid.again (h : TMid g v t l0 l more j) : TMid g v t l l false 0 := ⟨h.len, h.le, h.above, Nat.le_refl _, fun h => by simp at h, fun _ a ha => by simp at ha⟩
theorem TMid.same (h : TMid g v t l0 l more j) {y : EdgeD} (hy : g.edges[j]? = some y) (he : lastT g y (gi l y.b.toNat) ≤ gi l y.a.toNat) : TMid g v t l0 l more (j + 1) :=
  ⟨h.len, h.le, h.above, h.tot, h.less, fun hm a ha => by
    rw [List.take_add_one, hy] at ha
    rcases List.mem_append.1 ha with ha | ha
    · exact h.told hm a ha
    · obtain rfl : a = y := by simpa using ha
      exact he⟩
theorem TMid.change (h : TMid g v t l0 l more j) (hV : Valid g) {y : EdgeD} (hy : g.edges[j]? = some y) {d : Int} (hd : lastT g y (gi l y.b.toNat) = d) (hlt : gi l y.a.toNat < d) (hd2 : d ≤ 100) :
    TMid g v t l0 (l.set y.a.toNat d) true (j + 1) := by
  have hm := List.mem_of_getElem? hy
  have ho := hV.edges y hm
  have h0 := ho.a0; have h1 := ho.a1
  have hl := h.len
  have e1 : gi (l.set y.a.toNat d) = upd (gi l) y.a.toNat d := gi_set (by omega) d
  have hl2 := left_set (l := l) (i := y.a.toNat) (by omega) hlt hd2
  have hlt2 : left (l.set y.a.toNat d) < left l0 := by have := h.tot; omega
  refine ⟨by simp [hl], fun i => ?_, ?_, by omega, fun _ => hlt2, fun e => by simp at e⟩
  · rw [e1]
    by_cases hi : i = y.a.toNat
    · rw [hi, upd_at]; have := h.le y.a.toNat; omega
    · rw [upd_ne _ _ hi]; exact h.le i
  · have k := h.above.upd h.above (x := arcD g y) (mem_arcsD.2 ⟨y, hm, rfl⟩) (fun s r hsr => by
      simp only [arcD]
      have := lastT_mono (s := -r) (t := -s) hV ho (by omega)
      omega) (Int.le_refl _)
    have e2 : (fun i => - gi (l.set y.a.toNat d) i) = upd (fun i => - gi l i) (arcD g y).b (min (- gi l (arcD g y).b) ((arcD g y).f (- gi l (arcD g y).a))) := by
      funext i
      simp only [arcD, Int.neg_neg, e1, hd]
      by_cases hi : i = y.a.toNat
      · rw [hi, upd_at, upd_at]; omega
      · rw [upd_ne _ _ hi, upd_ne _ _ hi]
    rw [e2]
    exact k
theorem TMid.fin (h : TMid g v t l0 l false j) (hj : g.edges.length ≤ j) : LateL g v t l := by
  refine ⟨h.len, ⟨fun i => Int.neg_le_neg (h.le i), fun x hx => ?_⟩, h.above⟩
  obtain ⟨a, ha, rfl⟩ := mem_arcsD.1 hx
  have := h.told rfl a (by rw [List.take_of_length_le hj]; exact ha)
  simp only [arcD, Int.neg_neg]
  omega
theorem lastT_high {x : EdgeD} {s : Int} (hV : Valid g) : lastT g x s ≤ 100 := by
  have := (lastL_spec (g := g) (x := x) (s := s) g.h.toNat).2.1
  have := hV.h1
  have := hV.h0
  unfold lastT
  omega
/-- What is told if one isn't there at the end. -/
theorem late_none (hal : aliveB g v t = false) (_ : 0 ≤ t) (hV : Valid g) : LateL g v t (List.replicate g.lives.length (-1)) := by
  have e : startL g v t = List.replicate g.lives.length (-1) := gi_eq_of (by simp [startL]) fun i hi => by
    have hi' : i < g.lives.length := by simpa [startL] using hi
    rw [startL_val hi', if_neg (by simp [hal])]
    exact (gi_of (by simp [hi'])).symm
  refine ⟨by simp, ⟨fun i => by rw [e]; exact Int.le_refl _, fun y hy => ?_⟩, by rw [e]; exact above_init⟩
  obtain ⟨x, hx, rfl⟩ := mem_arcsD.1 hy
  have ho := hV.edges x hx
  have h0 := ho.a0; have h1 := ho.a1; have h2 := ho.b0; have h3 := ho.b1
  simp only [arcD]
  rw [gi_of (l := List.replicate g.lives.length (-1)) (v := x.a.toNat) (x := -1) (by rw [List.getElem?_replicate, if_pos (by omega)]), gi_of (l := List.replicate g.lives.length (-1)) (v := x.b.toNat) (x := -1) (by rw [List.getElem?_replicate, if_pos (by omega)])]
  have h4 := lastT_low (g := g) (x := x) (s := -1)
  rcases lastT_lt (s := -1) hV ho with h5 | h5
  · rw [show -(-(-1 : Int)) = -1 from by decide, h5]; decide
  · omega
theorem startL_is (hal : aliveB g v t = true) (h0 : 0 ≤ v) (h1 : v < g.lives.length) : (List.replicate g.lives.length (-1)).set v.toNat t = startL g v t :=
  gi_eq_of (by simp [startL]) fun i hi => by
    have hi' : i < g.lives.length := by simpa using hi
    rw [gi_set (by simp; omega)]
    by_cases e : i = v.toNat
    · rw [e, upd_at, startL_val (by omega), if_pos ⟨hal, by omega⟩]
    · rw [upd_ne _ _ e, startL_val hi', if_neg (fun h => e (by omega))]
      exact gi_of (by simp [hi'])
theorem startE_is (hal : aliveB g v t = true) (h0 : 0 ≤ v) (h1 : v < g.lives.length) : (List.replicate g.lives.length Never).set v.toNat t = startE g v t :=
  gi_eq_of (by simp [startE]) fun i hi => by
    have hi' : i < g.lives.length := by simpa using hi
    rw [gi_set (by simp; omega)]
    by_cases e : i = v.toNat
    · rw [e, upd_at, startE_val (by omega), if_pos ⟨hal, by omega⟩]
    · rw [upd_ne _ _ e, startE_val hi', if_neg (fun h => e (by omega))]
      exact gi_of (by simp [hi'])
theorem startE_no (hal : aliveB g v t = false) : List.replicate g.lives.length Never = startE g v t :=
  gi_eq_of (by simp [startE]) fun i hi => by
    have hi' : i < g.lives.length := by simpa using hi
    rw [startE_val hi', if_neg (by simp [hal])]
    exact gi_of (by simp [hi'])
end
end Go.Proofs.YtdpibehpmghghaaGreat
