/- Several texts in one: SumsSpec, SumSpec, PackSpec, Nums, SumsMem, SumPut. -/
import Derived.Laws.BitsLemmas
import Derived.Laws.BytesArg
import Derived.Shelf.Abstract
import Derived.Test.YtcfachfldanddaaProg
import Derived.Test.YtcfachfldanddaaBd133b99981a
import Derived.Test.YtcfachfldanddaaBdec5c056207
import Derived.Test.YtcfachfldanddaaBd6b7ba0c9b1
import Derived.Test.YtcfachfldanddaaBd0e3b3965a6
import Derived.Test.YtcfachfldanddaaBd6a04bbb789
import Derived.Test.YtcfachfldanddaaBd329d7f171a
/- The least sums, round after round, as the document fills them in; no program in sight. -/
namespace Go.Proofs.Ytcfachfldanddaa

def sumN (f : Nat → Nat) : Nat → Nat
  | 0 => 0
  | k + 1 => sumN f k + f k
theorem sumN_le {f e : Nat → Nat} : ∀ k, (∀ i, i < k → f i ≤ e i) → sumN f k ≤ sumN e k
  | 0, _ => Nat.le_refl _
  | k + 1, h => by
    have h1 := sumN_le k fun i hi => h i (by omega)
    have h2 := h k (by omega)
    simp only [sumN]
    omega
theorem sumN_lt {f e : Nat → Nat} : ∀ k i, i < k → (∀ i, i < k → f i ≤ e i) → f i < e i → sumN f k < sumN e k
  | 0, i, h, _, _ => by omega
  | k + 1, i, hi, h, hlt => by
    have h1 := sumN_le k fun i hi => h i (by omega)
    have h2 := h k (by omega)
    simp only [sumN]
    by_cases e : i = k
    · subst e; omega
    · have := sumN_lt k i (by omega) (fun i hi => h i (by omega)) hlt
      omega
/-- All that is told, together. -/
def mass (n m : Nat) (d : Nat × Nat → Int) : Nat := sumN (fun v => sumN (fun t => (d (v, t)).toNat) m) n
/-- One told less, if it is less. -/
def putF (d : Nat × Nat → Int) (p : Nat × Nat) (n : Int) : Nat × Nat → Int := upd d p (min (d p) n)
section
variable {d : Nat × Nat → Int} {p q : Nat × Nat} {n x : Int}
theorem putF_at : putF d p n p = min (d p) n := upd_at _ _ _
theorem putF_ne (h : ¬ q = p) : putF d p n q = d q := upd_ne _ _ h
theorem putF_le : putF d p n q ≤ d q := by
  by_cases h : q = p
  · subst h; rw [putF_at]; omega
  · rw [putF_ne h]; exact Int.le_refl _
theorem putF_not (h : ¬ n < d p) : putF d p n = d := by
  unfold putF
  rw [show min (d p) n = d p by omega, upd_same]
theorem putF_yes (h : n < d p) : putF d p n = upd d p n := by
  unfold putF
  rw [show min (d p) n = n by omega]
theorem mass_le {a b : Nat} {e : Nat × Nat → Int} (h : ∀ q, e q ≤ d q) : mass a b e ≤ mass a b d :=
  sumN_le _ fun v _ => sumN_le _ fun t _ => by have := h (v, t); omega
theorem mass_put {a b : Nat} (h1 : p.1 < a) (h2 : p.2 < b) (h0 : 0 ≤ n) (h : n < d p) : mass a b (putF d p n) < mass a b d := by
  refine sumN_lt _ p.1 h1 (fun v _ => sumN_le _ fun t _ => by have := putF_le (d := d) (p := p) (n := n) (q := (v, t)); omega) ?_
  refine sumN_lt _ p.2 h2 (fun t _ => by have := putF_le (d := d) (p := p) (n := n) (q := (p.1, t)); omega) ?_
  have : putF d p n (p.1, p.2) = n := by rw [putF_at]; omega
  rw [this]
  have : d (p.1, p.2) = d p := rfl
  omega
end
structure SInv (g : GraphD) (v s : Int) (C H : Nat × Nat → Int) : Prop where
  ac : Above (CostA g lCost) (initC g v s) C
  ah : Above (CostA g lOne) (initC g v s) H
  ic : ∀ p, C p ≤ initC g v s p
  ih : ∀ p, H p ≤ initC g v s p
  told : ∀ p, C p < Never → p.1 < g.lives.length ∧ (p.2 : Int) < g.h ∧ 0 ≤ C p ∧ C p ≤ 1000 * (p.2 : Int) ∧ 0 ≤ H p ∧ H p ≤ (p.2 : Int)
  both : ∀ p, ¬ C p < Never → C p = Never ∧ H p = Never
section
variable {g : GraphD} {v s : Int} {C H C0 H0 : Nat × Nat → Int}
theorem SInv.init (hv : 0 ≤ v ∧ v < g.lives.length) (hs : 0 ≤ s ∧ s < g.h) : SInv g v s (initC g v s) (initC g v s) := by
  refine ⟨above_init, above_init, fun _ => Int.le_refl _, fun _ => Int.le_refl _, fun p hp => ?_, fun p hp => ?_⟩
  · unfold initC at hp ⊢
    split at hp
    · rename_i h
      rw [if_pos h]
      omega
    · omega
  · have := initC_big (g := g) (v := v) (t := s) p
    omega
theorem SInv.big (h : SInv g v s C H) (p : Nat × Nat) : C p ≤ Never := Int.le_trans (h.ic p) (initC_big p)
theorem SInv.bigH (h : SInv g v s C H) (p : Nat × Nat) : H p ≤ Never := Int.le_trans (h.ih p) (initC_big p)
theorem SInv.low (h : SInv g v s C H) (p : Nat × Nat) : 0 ≤ C p ∧ 0 ≤ H p := by
  by_cases hp : C p < Never
  · have := h.told p hp; omega
  · have := h.both p hp; simp only [Never] at this; omega
theorem SInv.same (h : SInv g v s C H) (p : Nat × Nat) (hV : Valid g) : C p < Never ↔ H p < Never := by
  constructor
  · intro hp
    have := h.told p hp
    have := hV.h1
    simp only [Never]
    omega
  · intro hp
    refine Classical.byContradiction fun hn => ?_
    have := h.both p hn
    omega
theorem SInv.put (h : SInv g v s C H) (hV : Valid g) {q p : Nat × Nat} {fc fh : Int → Int} {nc nh : Int} (_hq : C q < Never) (yc : CostA g lCost ⟨q, p, fc⟩) (yh : CostA g lOne ⟨q, p, fh⟩) (ec : fc (C q) = nc) (eh : fh (H q) = nh)
    (h1 : p.1 < g.lives.length) (h2 : (p.2 : Int) < g.h) (h3 : 0 ≤ nc) (h4 : nc ≤ 1000 * (p.2 : Int)) (h5 : 0 ≤ nh) (h6 : nh ≤ (p.2 : Int)) : SInv g v s (putF C p nc) (putF H p nh) := by
  refine ⟨?_, ?_, fun r => Int.le_trans putF_le (h.ic r), fun r => Int.le_trans putF_le (h.ih r), fun r hr => ?_, fun r hr => ?_⟩
  · exact Above.upd h.ac h.ac yc (cost_mono _ yc) (by simp only; rw [ec]; exact Int.le_refl _)
  · exact Above.upd h.ah h.ah yh (cost_mono _ yh) (by simp only; rw [eh]; exact Int.le_refl _)
  · by_cases e : r = p
    · subst e
      rw [putF_at] at hr ⊢
      rw [putF_at]
      have hl := h.low r
      by_cases hc : C r < Never
      · have := h.told r hc
        omega
      · have hb := h.both r hc
        have hh := hV.h1
        simp only [Never] at hb
        omega
    · rw [putF_ne e] at hr ⊢
      rw [putF_ne e]
      exact h.told r hr
  · by_cases e : r = p
    · subst e
      rw [putF_at] at hr
      have := hV.h1
      simp only [Never] at hr
      omega
    · rw [putF_ne e] at hr ⊢
      rw [putF_ne e]
      exact h.both r hr
/-- In the midst of a round, at a time t: u vertices have waited, i edges have been looked at. -/
structure SMid (g : GraphD) (v s : Int) (C0 H0 : Nat × Nat → Int) (more : Bool) (t u i : Nat) (C H : Nat × Nat → Int) : Prop where
  inv : SInv g v s C H
  tot : mass g.lives.length g.h.toNat C + mass g.lives.length g.h.toNat H ≤ mass g.lives.length g.h.toNat C0 + mass g.lives.length g.h.toNat H0
  less : more = true → mass g.lives.length g.h.toNat C + mass g.lives.length g.h.toNat H < mass g.lives.length g.h.toNat C0 + mass g.lives.length g.h.toNat H0
  waits : more = false → ∀ w r : Nat, (r < t ∨ r = t ∧ w < u) → w < g.lives.length → (r : Int) + 1 < g.h → aliveB g w ((r : Int) + 1) = true → C (w, r + 1) ≤ C (w, r) ∧ H (w, r + 1) ≤ H (w, r)
  legs : more = false → ∀ (j r : Nat) x l to, g.edges[j]? = some x → arrive g x r = some (l, to) → (r < t ∨ r = t ∧ j < i) →
    C (x.b.toNat, to.toNat) ≤ C (x.a.toNat, r) + lCost l ∧ H (x.b.toNat, to.toNat) ≤ H (x.a.toNat, r) + lOne l
theorem SMid.start (h : SInv g v s C H) : SMid g v s C H false 0 0 0 C H := ⟨h, Nat.le_refl _, fun h => by simp at h, fun _ w r hr => by omega, fun _ j r x l to _ _ hr => by omega⟩
variable {more : Bool} {t u i : Nat}
theorem SMid.put (h : SMid g v s C0 H0 more t u i C H) (hV : Valid g) {q p : Nat × Nat} {fc fh : Int → Int} {nc nh : Int} (hq : C q < Never) (yc : CostA g lCost ⟨q, p, fc⟩) (yh : CostA g lOne ⟨q, p, fh⟩) (ec : fc (C q) = nc) (eh : fh (H q) = nh)
    (h1 : p.1 < g.lives.length) (h2 : (p.2 : Int) < g.h) (h3 : 0 ≤ nc) (h4 : nc ≤ 1000 * (p.2 : Int)) (h5 : 0 ≤ nh) (h6 : nh ≤ (p.2 : Int)) {more' : Bool} (hm : more' = ((more || decide (nc < C p)) || decide (nh < H p))) :
    SMid g v s C0 H0 more' t u i (putF C p nc) (putF H p nh) ∧ (more' = false → C p ≤ nc ∧ H p ≤ nh ∧ putF C p nc = C ∧ putF H p nh = H) := by
  have hno : more' = false → more = false ∧ C p ≤ nc ∧ H p ≤ nh ∧ putF C p nc = C ∧ putF H p nh = H := fun he => by
    rw [hm] at he
    simp only [Bool.or_eq_false_iff, decide_eq_false_iff_not] at he
    exact ⟨he.1.1, by omega, by omega, putF_not he.1.2, putF_not he.2⟩
  have m1 : mass g.lives.length g.h.toNat (putF C p nc) ≤ mass g.lives.length g.h.toNat C := mass_le fun _ => putF_le
  have m2 : mass g.lives.length g.h.toNat (putF H p nh) ≤ mass g.lives.length g.h.toNat H := mass_le fun _ => putF_le
  have ht := h.tot
  refine ⟨⟨h.inv.put hV hq yc yh ec eh h1 h2 h3 h4 h5 h6, by omega, fun he => ?_, fun he => ?_, fun he => ?_⟩, fun he => (hno he).2⟩
  · by_cases hmo : more = true
    · have := h.less hmo
      omega
    · by_cases k1 : nc < C p
      · have := mass_put (a := g.lives.length) (b := g.h.toNat) h1 (by omega) h3 k1
        omega
      · by_cases k2 : nh < H p
        · have := mass_put (a := g.lives.length) (b := g.h.toNat) h1 (by omega) h5 k2
          omega
        · rw [hm] at he
          simp [k1, k2, hmo] at he
  · obtain ⟨k1, _, _, k2, k3⟩ := hno he
    rw [k2, k3]
    exact h.waits k1
  · obtain ⟨k1, _, _, k2, k3⟩ := hno he
    rw [k2, k3]
    exact h.legs k1
theorem SMid.moreW (h : SMid g v s C0 H0 more t u i C H) (hd : more = false → (t : Int) + 1 < g.h → aliveB g u ((t : Int) + 1) = true → C (u, t + 1) ≤ C (u, t) ∧ H (u, t + 1) ≤ H (u, t)) : SMid g v s C0 H0 more t (u + 1) i C H := by
  refine ⟨h.inv, h.tot, h.less, fun hm w r hr k1 k2 k3 => ?_, h.legs⟩
  by_cases e : r = t ∧ w = u
  · obtain ⟨rfl, rfl⟩ := e; exact hd hm k2 k3
  · exact h.waits hm w r (by omega) k1 k2 k3
theorem SMid.moreL (h : SMid g v s C0 H0 more t u i C H) {x : EdgeD} (hx : g.edges[i]? = some x) (hd : more = false → ∀ l to, arrive g x t = some (l, to) → C (x.b.toNat, to.toNat) ≤ C (x.a.toNat, t) + lCost l ∧ H (x.b.toNat, to.toNat) ≤ H (x.a.toNat, t) + lOne l) :
    SMid g v s C0 H0 more t u (i + 1) C H := by
  refine ⟨h.inv, h.tot, h.less, h.waits, fun hm j r y l to hy hr hc => ?_⟩
  by_cases e : r = t ∧ j = i
  · obtain ⟨rfl, rfl⟩ := e
    rw [hx] at hy
    obtain rfl : x = y := by simpa using hy
    exact hd hm l to hr
  · exact h.legs hm j r y l to hy hr (by omega)
theorem SMid.skipW (h : SMid g v s C0 H0 more t u i C H) (hn : ¬ (C (u, t) < Never ∧ (t : Int) + 1 < g.h ∧ aliveB g u ((t : Int) + 1) = true)) : SMid g v s C0 H0 more t (u + 1) i C H :=
  h.moreW fun _ k1 k2 => by
    have hc : ¬ C (u, t) < Never := fun hc => hn ⟨hc, k1, k2⟩
    obtain ⟨e1, e2⟩ := h.inv.both _ hc
    rw [e1, e2]
    exact ⟨h.inv.big _, h.inv.bigH _⟩
theorem SMid.wait (h : SMid g v s C0 H0 more t u i C H) (hV : Valid g) (hc : C (u, t) < Never) (k1 : (t : Int) + 1 < g.h) (k2 : aliveB g u ((t : Int) + 1) = true) {more' : Bool} (hm : more' = ((more || decide (C (u, t) < C (u, t + 1))) || decide (H (u, t) < H (u, t + 1)))) :
    SMid g v s C0 H0 more' t (u + 1) i (putF C (u, t + 1) (C (u, t))) (putF H (u, t + 1) (H (u, t))) := by
  have ht := h.inv.told _ hc
  simp only at ht
  obtain ⟨a1, a2⟩ := h.put hV (q := (u, t)) (p := (u, t + 1)) (fc := fun n => n) (fh := fun n => n) hc (.inl ⟨u, t, rfl, ht.1, k1, k2⟩) (.inl ⟨u, t, rfl, ht.1, k1, k2⟩) rfl rfl ht.1 (by simp only; omega) (by omega) (by simp only; omega) (by omega) (by simp only; omega) hm
  refine a1.moreW fun he _ _ => ?_
  obtain ⟨b1, b2, b3, b4⟩ := a2 he
  rw [b3, b4]
  exact ⟨b1, b2⟩
theorem SMid.skipL (h : SMid g v s C0 H0 more t u i C H) (hV : Valid g) {x : EdgeD} (hx : g.edges[i]? = some x) (hn : arrive g x t = none ∨ ¬ C (x.a.toNat, t) < Never) : SMid g v s C0 H0 more t u (i + 1) C H :=
  h.moreL hx fun _ l to hr => by
    rcases hn with hn | hn
    · rw [hn] at hr; simp at hr
    · obtain ⟨e1, e2⟩ := h.inv.both _ hn
      have h1 := light_cost hV x (List.mem_of_getElem? hx) l (arrive_some hr).1
      have h2 := h.inv.big (x.b.toNat, to.toNat)
      have h3 := h.inv.bigH (x.b.toNat, to.toNat)
      rw [e1, e2]
      simp only [lOne]
      omega
theorem SMid.leg (h : SMid g v s C0 H0 more t u i C H) (hV : Valid g) {x : EdgeD} (hx : g.edges[i]? = some x) {l : LegD} {to : Int} (hr : arrive g x t = some (l, to)) (hc : C (x.a.toNat, t) < Never) {more' : Bool}
    (hm : more' = ((more || decide (C (x.a.toNat, t) + l.cost < C (x.b.toNat, to.toNat))) || decide (H (x.a.toNat, t) + 1 < H (x.b.toNat, to.toNat)))) :
    SMid g v s C0 H0 more' t u (i + 1) (putF C (x.b.toNat, to.toNat) (C (x.a.toNat, t) + l.cost)) (putF H (x.b.toNat, to.toNat) (H (x.a.toNat, t) + 1)) := by
  have ht := h.inv.told _ hc
  simp only at ht
  have hm2 := List.mem_of_getElem? hx
  have ho := hV.edges x hm2
  have h0 := ho.b0; have h1 := ho.b1
  have hl := arrive_late hV ho hr
  have hlc := light_cost hV x hm2 l (arrive_some hr).1
  simp only [lCost] at hlc
  obtain ⟨a1, a2⟩ := h.put hV (q := (x.a.toNat, t)) (p := (x.b.toNat, to.toNat)) (fc := fun n => n + lCost l) (fh := fun n => n + lOne l) hc (.inr ⟨x, l, to, t, hm2, hr, rfl⟩) (.inr ⟨x, l, to, t, hm2, hr, rfl⟩) rfl rfl (by simp only; omega) (by simp only; omega) (by simp only [lCost]; omega) (by simp only [lCost]; omega) (by simp only [lOne]; omega) (by simp only [lOne]; omega) hm
  refine a1.moreL hx fun he l' to' hr' => ?_
  rw [hr] at hr'
  simp only [Option.some.injEq, Prod.mk.injEq] at hr'
  obtain ⟨rfl, rfl⟩ := hr'
  obtain ⟨b1, b2, b3, b4⟩ := a2 he
  rw [b3, b4]
  exact ⟨b1, b2⟩
theorem SMid.nextT (h : SMid g v s C0 H0 more t g.lives.length g.edges.length C H) : SMid g v s C0 H0 more (t + 1) 0 0 C H :=
  ⟨h.inv, h.tot, h.less, fun hm w r hr k1 k2 k3 => h.waits hm w r (by omega) k1 k2 k3, fun hm j r x l to hx hr hc => by
    have := (List.getElem?_eq_some_iff.1 hx).1
    exact h.legs hm j r x l to hx hr (by omega)⟩
/-- Nothing has changed in a round. -/
theorem SMid.fin (h : SMid g v s C0 H0 false t 0 0 C H) (hV : Valid g) (ht : g.h ≤ t) : CostL g lCost v s C ∧ CostL g lOne v s H := by
  refine ⟨⟨⟨h.inv.ic, ?_⟩, h.inv.ac⟩, ⟨⟨h.inv.ih, ?_⟩, h.inv.ah⟩⟩
  · rintro y (⟨w, r, rfl, h1, h2, h3⟩ | ⟨x, l, to, r, hx, ha, rfl⟩)
    · exact (h.waits rfl w r (.inl (by omega)) h1 h2 h3).1
    · obtain ⟨j, hj⟩ := List.getElem?_of_mem hx
      have := arrive_late hV (hV.edges x hx) ha
      exact (h.legs rfl j r x l to hj ha (.inl (by omega))).1
  · rintro y (⟨w, r, rfl, h1, h2, h3⟩ | ⟨x, l, to, r, hx, ha, rfl⟩)
    · exact (h.waits rfl w r (.inl (by omega)) h1 h2 h3).2
    · obtain ⟨j, hj⟩ := List.getElem?_of_mem hx
      have := arrive_late hV (hV.edges x hx) ha
      exact (h.legs rfl j r x l to hj ha (.inl (by omega))).2
end
/-- A row of sums. -/
def rowL (d : Nat × Nat → Int) (m v : Nat) : List Int := (List.range m).map fun t => d (v, t)
theorem rowL_len (d : Nat × Nat → Int) (m v : Nat) : (rowL d m v).length = m := by simp [rowL]
theorem rowL_gi {d : Nat × Nat → Int} {m v t : Nat} (h : t < m) : gi (rowL d m v) t = d (v, t) := by unfold rowL; rw [gi_map_range h]
theorem rowL_set {d : Nat × Nat → Int} {m v t : Nat} (h : t < m) (x : Int) : (rowL d m v).set t x = rowL (upd d (v, t) x) m v :=
  gi_eq_of (by simp [rowL]) fun i hi => by
    have hi' : i < m := by simpa [rowL] using hi
    rw [gi_set (by simpa [rowL] using h), rowL_gi hi']
    by_cases e : i = t
    · rw [e, upd_at, upd_at]
    · rw [upd_ne _ _ e, upd_ne _ _ (fun h => e (by simpa using h)), rowL_gi hi']
theorem rowL_other {d : Nat × Nat → Int} {m v w t : Nat} (h : ¬ w = v) (x : Int) : rowL (upd d (v, t) x) m w = rowL d m w :=
  gi_eq_of (by simp [rowL]) fun i hi => by
    have hi' : i < m := by simpa [rowL] using hi
    rw [rowL_gi hi', rowL_gi hi', upd_ne _ _ (fun h2 => h (by simp only [Prod.mk.injEq] at h2; exact h2.1))]
theorem rowL_never {m v : Nat} : rowL (fun _ => Never) m v = List.replicate m Never := gi_eq_of (by simp [rowL]) fun i hi => by
  have hi' : i < m := by simpa [rowL] using hi
  rw [rowL_gi hi']
  exact (gi_of (by simp [hi'])).symm
end Go.Proofs.Ytcfachfldanddaa
/- The sum of bytes, as a plain Lean function; the laws of bits that its walks need. No program in sight. -/
namespace Go.Proofs.Ytcfachfldanddaa
open Go.RowKit

theorem wraps_u32 (n : Int) (h0 : 0 ≤ n) (h1 : n < 2 ^ 32) : IntKind.u32.wrap n = n := by rw [IntKind.wrap_u32]; omega
theorem xor_u32 (a b : Nat) (ha : a < 4294967296) (hb : b < 4294967296) : bits .xor .u32 (a : Int) (b : Int) = ((a ^^^ b : Nat) : Int) := by
  have ha' : a % 2 ^ IntKind.u32.bits = a := Nat.mod_eq_of_lt ha
  have hb' : b % 2 ^ IntKind.u32.bits = b := Nat.mod_eq_of_lt hb
  have hx : a ^^^ b < 2 ^ 32 := Nat.xor_lt_two_pow ha hb
  simp only [bits, BitVec.ofInt_natCast, BitVec.toNat_xor, BitVec.toNat_ofNat, ha', hb']
  exact wraps_u32 _ (Int.natCast_nonneg _) (by exact_mod_cast hx)
theorem and_u32 (a : Nat) (ha : a < 4294967296) : bits .and .u32 (a : Int) 1 = ((a % 2 : Nat) : Int) := by
  have h := (bits_nat .u32 32 (by decide) wraps_u32 a 1 (by omega) (by decide)).1
  rw [Nat.and_one_is_mod] at h
  exact h

def poly : Nat := 3988292384
/-- One bit. -/
def crcBit (r c : Nat) : Nat := if r % 2 = c % 2 then r / 2 else (r / 2) ^^^ poly
/-- n bits of a byte, from number k on. -/
def crcB : Nat → Nat → Nat → Nat → Nat
  | 0, _, r, _ => r
  | n + 1, k, r, b => crcB n (k + 1) (crcBit r (b / 2 ^ k)) b
def byteAt (s : ByteArray) (k : Nat) : Nat := if h : k < s.size then s[k].toNat else 0
theorem byteAt_of {s : ByteArray} {k : Nat} (h : k < s.size) : byteAt s k = s[k].toNat := by simp [byteAt, h]
theorem byteAt_lt (s : ByteArray) (k : Nat) : byteAt s k < 256 := by
  unfold byteAt
  split
  · exact UInt8.toNat_lt _
  · omega
/-- What the first k bytes leave. -/
def crcF (s : ByteArray) : Nat → Nat
  | 0 => 4294967295
  | k + 1 => crcB 8 0 (crcF s k) (byteAt s k)
def crc (s : ByteArray) : Nat := 4294967295 - crcF s s.size
theorem crcBit_lt {r c : Nat} (h : r < 4294967296) : crcBit r c < 4294967296 := by
  unfold crcBit
  split
  · omega
  · exact Nat.xor_lt_two_pow (n := 32) (by omega) (by decide)
theorem crcB_lt : ∀ (n k r b : Nat), r < 4294967296 → crcB n k r b < 4294967296
  | 0, _, _, _, h => h
  | n + 1, k, _, b, h => crcB_lt n (k + 1) _ b (crcBit_lt h)
theorem crcF_lt (s : ByteArray) : ∀ k, crcF s k < 4294967296
  | 0 => by simp [crcF]
  | k + 1 => crcB_lt _ _ _ _ (crcF_lt s k)
theorem xor_low {r c : Nat} : (r ^^^ c) % 2 = if r % 2 = c % 2 then 0 else 1 := by
  have h := @Nat.xor_mod_two_eq_one r c
  split
  · rename_i h1
    rcases Nat.mod_two_eq_zero_or_one (r ^^^ c) with h2 | h2
    · exact h2
    · exfalso; rw [h, h1] at h2; exact h2 Iff.rfl
  · rename_i h1
    rw [h]
    omega
theorem xor_half {r b k : Nat} : (r ^^^ (b / 2 ^ k)) / 2 = (r / 2) ^^^ (b / 2 ^ (k + 1)) := by
  rw [Nat.xor_div_two, Nat.div_div_eq_div_mul, ← Nat.pow_succ]
theorem xor_half_poly {r b k : Nat} : ((r ^^^ (b / 2 ^ k)) / 2) ^^^ poly = ((r / 2) ^^^ poly) ^^^ (b / 2 ^ (k + 1)) := by
  rw [xor_half, Nat.xor_assoc, Nat.xor_comm (b / 2 ^ (k + 1)) poly, ← Nat.xor_assoc]
theorem xor_not {r : Nat} (h : r < 4294967296) : 4294967295 ^^^ r = 4294967295 - r := by
  have e : 2 ^ 32 - (r + 1) = 4294967295 - r := by omega
  rw [← e]
  apply Nat.eq_of_testBit_eq
  intro i
  rw [Nat.testBit_two_pow_sub_succ (n := 32) h, Nat.testBit_xor, show (4294967295 : Nat) = 2 ^ 32 - 1 by rfl, Nat.testBit_two_pow_sub_one]
  by_cases hi : i < 32
  · simp [hi]
  · have : r.testBit i = false := Nat.testBit_lt_two_pow (Nat.lt_of_lt_of_le h (show (2 : Nat) ^ 32 ≤ 2 ^ i from Nat.pow_le_pow_right (by decide) (by omega)))
    simp [hi, this]
end Go.Proofs.Ytcfachfldanddaa
/- A graph's numbers and bytes, as plain Lean functions; no program in sight. -/
namespace Go.Proofs.Ytcfachfldanddaa
open Go.RowKit

def lifeNums (l : IvlD) : List Int := [l.f, l.t]
def legNums (l : LegD) : List Int := [l.f, l.t, l.time, l.cost]
def edgeNums (x : EdgeD) : List Int := [x.a, x.b, (x.legs.length : Int)] ++ x.legs.flatMap legNums
/-- P23: the numbers of a graph. -/
def numsL (g : GraphD) : List Int := [g.h, (g.lives.length : Int), (g.edges.length : Int)] ++ (g.lives.flatMap lifeNums ++ g.edges.flatMap edgeNums)
def bytesL (l : List Int) : List Int := l.flatMap fun n => [n / 256, n % 256]
def sumBytes (n : Nat) : List Int := [((n % 256 : Nat) : Int), ((n / 256 % 256 : Nat) : Int), ((n / 65536 % 256 : Nat) : Int), ((n / 16777216 % 256 : Nat) : Int)]
/-- P23: the bytes of a graph. -/
def coded (g : GraphD) : ByteArray := strOfNums (bytesL (numsL g) ++ sumBytes (crc (strOfNums (bytesL (numsL g)))))

def Num (n : Int) : Prop := 0 ≤ n ∧ n ≤ 1000
theorem len_flatMap_le {α β : Type} {f : α → List β} {m : Nat} : ∀ (l : List α), (∀ x, x ∈ l → (f x).length ≤ m) → (l.flatMap f).length ≤ l.length * m
  | [], _ => by simp
  | x :: l, h => by
    have h1 := h x (by simp)
    have h2 := len_flatMap_le l fun y hy => h y (by simp [hy])
    rw [List.flatMap_cons, List.length_append, List.length_cons, Nat.succ_mul]
    omega
theorem nums_edge {g : GraphD} (hV : Valid g) {x : EdgeD} (hx : x ∈ g.edges) : (∀ n, n ∈ edgeNums x → Num n) ∧ (edgeNums x).length ≤ 27 := by
  have h := hV.edges x hx
  have h1 := h.a0; have h2 := h.a1; have h3 := h.b0; have h4 := h.b1; have h5 := h.six
  have h6 := hV.nl; have h7 := hV.h1
  constructor
  · intro n hn
    unfold edgeNums at hn
    rw [List.mem_append] at hn
    rcases hn with hn | hn
    · simp at hn
      unfold Num
      omega
    · obtain ⟨l, hl, hn⟩ := List.mem_flatMap.1 hn
      have := h.legs l hl
      simp [legNums] at hn
      unfold Num
      omega
  · have := len_flatMap_le (f := legNums) (m := 4) x.legs (fun _ _ => by simp [legNums])
    unfold edgeNums
    simp only [List.length_append, List.length_cons, List.length_nil]
    omega
theorem nums_num {g : GraphD} (hV : Valid g) : (∀ n, n ∈ numsL g → Num n) ∧ (numsL g).length ≤ 900 := by
  have h6 := hV.nl; have h7 := hV.h1; have h8 := hV.ne; have h9 := hV.h0
  constructor
  · intro n hn
    unfold numsL at hn
    rw [List.mem_append, List.mem_append] at hn
    rcases hn with hn | hn | hn
    · simp at hn
      unfold Num
      omega
    · obtain ⟨l, hl, hn⟩ := List.mem_flatMap.1 hn
      have := hV.lives l hl
      simp [lifeNums] at hn
      unfold Num
      omega
    · obtain ⟨x, hx, hn⟩ := List.mem_flatMap.1 hn
      exact (nums_edge hV hx).1 n hn
  · have h1 := len_flatMap_le (f := lifeNums) (m := 2) g.lives (fun _ _ => by simp [lifeNums])
    have h2 := len_flatMap_le (f := edgeNums) (m := 27) g.edges (fun x hx => (nums_edge hV hx).2)
    unfold numsL
    simp only [List.length_append, List.length_cons, List.length_nil]
    omega
end Go.Proofs.Ytcfachfldanddaa
/- The walk of the document's numbers: it tells numsL. -/
namespace Go.Proofs.Ytcfachfldanddaa
open Go.RowKit

theorem info_parts' {i : Option TypeInfo} {v : Value} {a b : Nat} (h : i.map (fun i => (i.zero, i.size, i.bytes)) = some (some v, a, b)) : ∃ i0, i = some i0 ∧ i0.zero = some v ∧ i0.size = a ∧ i0.bytes = b := by
  cases i with
  | none => simp at h
  | some i0 => simp at h; exact ⟨i0, rfl, h⟩
def intEncN (n : Int) : List Value := [.int .i64 n]
theorem int_one1N {a : Int} : ∀ u ∈ (#[.int .i64 a] : Array Value).toList, u.oneCell' = true := by simp [Value.oneCell']
theorem int_one2N {a b : Int} : ∀ u ∈ (#[.int .i64 a, .int .i64 b] : Array Value).toList, u.oneCell' = true := by simp [Value.oneCell']
theorem int_one3 {a b c : Int} : ∀ u ∈ (#[.int .i64 a, .int .i64 b, .int .i64 c] : Array Value).toList, u.oneCell' = true := by simp [Value.oneCell']
theorem int_one4 {a b c d : Int} : ∀ u ∈ (#[.int .i64 a, .int .i64 b, .int .i64 c, .int .i64 d] : Array Value).toList, u.oneCell' = true := by simp [Value.oneCell']

theorem own_intsN {w : World} {base : Nat} {v : Value} {l : List Int} (h : Own intEncN 1 w base 3 v l) (hi : ∀ x, x ∈ l → I64 x) : ∃ A c, v = .slice A l.length c ∧ SlAt RInt 1 w A l :=
  h.slAt (fun _ => rfl) fun x hx b o hc => ⟨by simpa using hc 0 _ rfl, hi x hx⟩
theorem num_i64 {n : Int} (h : Num n) : I64 n := by unfold Num at h; unfold I64; omega
end Go.Proofs.Ytcfachfldanddaa
/- Tables of sums, each row in a block of its own. -/
namespace Go.Proofs.Ytcfachfldanddaa
open Go.RowKit

theorem Own.keep1 {α : Type} {enc : α → List Value} {sz : Nat} {w w' : World} {base : Nat} {e : TypeId} {v : Value} {l : List α} (h : Own enc sz w base e v l) (hk : ∀ b cs, some b = v.ownBlock → Blk w b e cs → Blk w' b e cs) : Own enc sz w' base e v l := by
  refine ⟨h.1, ?_⟩
  rcases h.2 with h2 | ⟨g, cap, cur, hv, hg, hh, r⟩
  · exact .inl h2
  · exact .inr ⟨g, cap, cur, hv, hg, hk g cur (by rw [hv]; simp [Value.ownBlock]) hh, r⟩
/-- Two values do not lie in one block. -/
def Apart (u v : Value) : Prop := ∀ b, some b = u.ownBlock → some b = v.ownBlock → False
theorem Apart.nil {v : Value} : Apart (.slice none 0 0) v := fun b h => by simp [Value.ownBlock] at h
theorem Apart.symm {u v : Value} (h : Apart u v) : Apart v u := fun b h1 h2 => h b h2 h1
/-- Behind an append: where the new slice lies. -/
theorem Apart.put {α : Type} {enc : α → List Value} {sz : Nat} {w : World} {base n c g : Nat} {e : TypeId} {u v : Value} {l : List α} (h : Apart u v) (hv : Own enc sz w base e v l) (hg : u.ownBlock = some g ∨ w.heap.size < g) : Apart (.slice (some ⟨g, 0, none⟩) n c) v := fun b h1 h2 => by
  have e1 : b = g := by simpa [Value.ownBlock] using h1
  subst e1
  rcases hg with hg | hg
  · exact h b hg.symm h2
  · have := (World.ownsRow.lt hv b h2.symm).2
    omega
/-- A row's block, and for how many there is room. -/
abbrev RowI := Nat × Nat
def rowE (m : Nat) (p : RowI) : List Value := [.slice (some ⟨p.1, 0, none⟩) m p.2]
theorem rowE_one {b m c : Nat} : ∀ u ∈ (#[.slice (some ⟨b, 0, none⟩) m c] : Array Value).toList, u.oneCell' = true := by simp [Value.oneCell']
theorem flat_ints : ∀ r : List Int, r.flatMap intEncN = r.map fun n => Value.int .i64 n
  | [] => rfl
  | y :: l => by rw [List.flatMap_cons, flat_ints l]; rfl
theorem flat_rows (m : Nat) : ∀ l : List RowI, l.flatMap (rowE m) = l.map fun p => Value.slice (some ⟨p.1, 0, none⟩) m p.2
  | [] => rfl
  | y :: l => by rw [List.flatMap_cons, flat_rows m l]; rfl
/-- The block begins with the numbers. -/
def RowAt (w : World) (b : Nat) (r : List Int) : Prop := ∃ cs, Blk w b 3 cs ∧ ∀ (k : Nat) x, r[k]? = some x → cs[k]? = some (.int .i64 x)
/-- The block begins with the rows. -/
def OutAt (w : World) (b m : Nat) (its : List RowI) : Prop := ∃ cs, Blk w b 81 cs ∧ ∀ (k : Nat) p, its[k]? = some p → cs[k]? = some (.slice (some ⟨p.1, 0, none⟩) m p.2)
def TabR (w : World) (m : Nat) (its : List RowI) (d : Nat × Nat → Int) : Prop := ∀ v p, its[v]? = some p → RowAt w p.1 (rowL d m v)
section
variable {w w' : World} {b m base : Nat} {r : List Int} {its : List RowI} {v : Value} {d : Nat × Nat → Int}
theorem RowAt.keep (h : RowAt w b r) (hk : ∀ cs, Blk w b 3 cs → Blk w' b 3 cs) : RowAt w' b r := by
  obtain ⟨cs, h1, h2⟩ := h
  exact ⟨cs, hk _ h1, h2⟩
theorem RowAt.lt (h : RowAt w b r) : b < w.heap.size := by
  obtain ⟨cs, h1, _⟩ := h
  exact h1.lt
theorem RowAt.cell (h : RowAt w b r) {k : Nat} (hk : k < r.length) : w.cell? ⟨b, k, none⟩ = some (.int .i64 (gi r k)) := by
  obtain ⟨cs, h1, h2⟩ := h
  rw [h1.cell]
  exact h2 k _ (gi_get hk)
theorem RowAt.set (h : RowAt w b r) (k : Nat) (hk : k < r.length) (x : Int) : RowAt (w.setCell ⟨b, k, none⟩ (.int .i64 x)) b (r.set k x) := by
  obtain ⟨cs, h1, h2⟩ := h
  refine ⟨_, h1.set_ k _, fun i y hi => ?_⟩
  have hc := h2 k _ (gi_get hk)
  have hkc := (Array.getElem?_eq_some_iff.1 hc).1
  rw [List.getElem?_set] at hi
  rw [Array.getElem?_setIfInBounds]
  by_cases e : k = i
  · subst e
    rw [if_pos rfl, if_pos hk] at hi
    rw [if_pos rfl, if_pos hkc]
    simpa using hi
  · rw [if_neg e] at hi
    rw [if_neg e]
    exact h2 i y hi
theorem RowAt.slAt (h : RowAt w b r) (hi : ∀ x, x ∈ r → I64 x) : SlAt RInt 1 w (some ⟨b, 0, none⟩) r := by
  obtain ⟨cs, h1, h2⟩ := h
  refine ⟨b, 0, fun i x hx => ⟨rfl, h1.lt, ?_, hi x (List.mem_of_getElem? hx)⟩⟩
  unfold cellIs
  rw [Nat.zero_add, Nat.mul_one, h1.cell]
  exact h2 i x hx
theorem Own.rowAt {n c : Nat} {A : Option Addr} (h : Own intEncN 1 w base 3 (.slice A n c) r) (hr : r ≠ []) : ∃ b, A = some ⟨b, 0, none⟩ ∧ base ≤ b ∧ RowAt w b r := by
  rcases h.2 with ⟨_, h2⟩ | ⟨g, cap, cur, hv, hg, hh, hnc, hcm, hcs, htake⟩
  · exact absurd (List.length_eq_zero_iff.1 h2) hr
  · injection hv with h1 h2 h3
    refine ⟨g, h1, hg, cur, hh, fun k x hk => ?_⟩
    have hlt := lt_of_get hk
    rw [flat_ints] at htake
    have h4 : (cur.toList.take (r.length * 1))[k]? = some (.int .i64 x) := by rw [htake]; simp [hk]
    rw [List.getElem?_take_of_lt (by omega)] at h4
    simpa using h4
theorem Own.outAt {n c : Nat} {A : Option Addr} (h : Own (rowE m) 1 w base 81 (.slice A n c) its) (hr : its ≠ []) : ∃ b, A = some ⟨b, 0, none⟩ ∧ base ≤ b ∧ OutAt w b m its := by
  rcases h.2 with ⟨_, h2⟩ | ⟨g, cap, cur, hv, hg, hh, hnc, hcm, hcs, htake⟩
  · exact absurd (List.length_eq_zero_iff.1 h2) hr
  · injection hv with h1 h2 h3
    refine ⟨g, h1, hg, cur, hh, fun k x hk => ?_⟩
    have hlt := lt_of_get hk
    rw [flat_rows] at htake
    have h4 : (cur.toList.take (its.length * 1))[k]? = some (.slice (some ⟨x.1, 0, none⟩) m x.2) := by rw [htake]; simp [hk]
    rw [List.getElem?_take_of_lt (by omega)] at h4
    simpa using h4
theorem OutAt.keep (h : OutAt w b m its) (hk : ∀ cs, Blk w b 81 cs → Blk w' b 81 cs) : OutAt w' b m its := by
  obtain ⟨cs, h1, h2⟩ := h
  exact ⟨cs, hk _ h1, h2⟩
theorem OutAt.lt (h : OutAt w b m its) : b < w.heap.size := by
  obtain ⟨cs, h1, _⟩ := h
  exact h1.lt
theorem OutAt.cell (h : OutAt w b m its) {k : Nat} {p : RowI} (hk : its[k]? = some p) : w.cell? ⟨b, k, none⟩ = some (.slice (some ⟨p.1, 0, none⟩) m p.2) := by
  obtain ⟨cs, h1, h2⟩ := h
  rw [h1.cell]
  exact h2 k p hk
theorem TabR.keep (h : TabR w m its d) (hk : ∀ b cs, Blk w b 3 cs → Blk w' b 3 cs) : TabR w' m its d := fun v p hp => (h v p hp).keep fun _ => hk _ _
theorem TabR.nil : TabR w m [] d := fun v p h => by simp at h
theorem TabR.snoc {c : Nat} (h : TabR w m its d) (hr : RowAt w b (rowL d m its.length)) : TabR w m (its ++ [(b, c)]) d := fun v p hp => by
  by_cases hv : v < its.length
  · rw [List.getElem?_append_left hv] at hp
    exact h v p hp
  · have hl := lt_of_get hp
    simp only [List.length_append, List.length_cons, List.length_nil] at hl
    obtain rfl : v = its.length := by omega
    rw [List.getElem?_append_right (Nat.le_refl _), Nat.sub_self] at hp
    obtain rfl : (b, c) = p := by simpa using hp
    exact hr
/-- All rows' blocks are below. -/
theorem TabR.lt (h : TabR w m its d) {p : RowI} (hp : p ∈ its) : p.1 < w.heap.size := by
  obtain ⟨v, hv⟩ := List.getElem?_of_mem hp
  exact (h v p hv).lt
theorem TabR.cell (h : TabR w m its d) {v t : Nat} {p : RowI} (hp : its[v]? = some p) (ht : t < m) : w.cell? ⟨p.1, t, none⟩ = some (.int .i64 (d (v, t))) := by
  have := (h v p hp).cell (k := t) (by rw [rowL_len]; exact ht)
  rwa [rowL_gi ht] at this
theorem TabR.frozen (h : TabR w m its d) {v : Nat} {p : RowI} (hp : its[v]? = some p) (t : Nat) : w.frozen? ⟨p.1, t, none⟩ = false := by
  obtain ⟨cs, h1, _⟩ := h v p hp
  exact h1.frozen t
/-- One number is told anew. -/
theorem TabR.set (h : TabR w m its d) {v t : Nat} {p : RowI} (hp : its[v]? = some p) (ht : t < m) (hnd : (its.map Prod.fst).Nodup) (x : Int) : TabR (w.setCell ⟨p.1, t, none⟩ (.int .i64 x)) m its (upd d (v, t) x) := fun u q hq => by
  by_cases e : u = v
  · subst e
    rw [hp] at hq
    obtain rfl : p = q := by simpa using hq
    rw [← rowL_set ht]
    exact (h u p hp).set t (by rw [rowL_len]; exact ht) x
  · rw [rowL_other e]
    refine (h u q hq).keep fun cs hB => hB.far ?_ _
    intro e2
    refine e ?_
    have h1 : (its.map Prod.fst)[u]? = some q.1 := by rw [List.getElem?_map, hq]; rfl
    have h2 : (its.map Prod.fst)[v]? = some q.1 := by rw [List.getElem?_map, hp]; simp only [Option.map_some]; rw [show q.1 = p.1 from e2]
    have hu := lt_of_get h1
    exact (List.getElem?_inj hu hnd).1 (h1.trans h2.symm)
/-- A store into a row of another table. -/
theorem TabR.far (h : TabR w m its d) {a : Addr} (hne : ∀ p, p ∈ its → p.1 ≠ a.block) (u : Value) : TabR (w.setCell a u) m its d := fun v p hp => (h v p hp).keep fun _ hB => hB.far (hne p (List.mem_of_getElem? hp)) u
/-- A number of a row, one less; nothing else. -/
structure PutOut (m bm : Nat) (its : List RowI) (d : Nat × Nat → Int) (more : Bool) (v t : Nat) (x : Int) (w w' : World) : Prop where
  tab : TabR w' m its (putF d (v, t) x)
  more : Blk w' bm 4 #[.bool (more || decide (x < d (v, t)))]
  keep : ∀ b t cs, (∀ p, p ∈ its → b ≠ p.1) → b ≠ bm → Blk w b t cs → Blk w' b t cs
  below : ∀ k (w0 : World), Below k w0 w → (∀ p, p ∈ its → k ≤ p.1) → k ≤ bm → Below k w0 w'
  size : w.heap.size ≤ w'.heap.size
end
end Go.Proofs.Ytcfachfldanddaa
/- The walk of the closure that tells a number less; what lies in memory while sums are filled in. -/
namespace Go.Proofs.Ytcfachfldanddaa
open Go.RowKit

theorem enters_put : Enters Try.prog 124 := enters_of Try.func124 (by kernel_rfl) rfl
theorem TabR.ne {w : World} {m g : Nat} {t : TypeId} {its : List RowI} {d : Nat × Nat → Int} {cs : Array Value} (h : TabR w m its d) (hB : Blk w g t cs) (ht : 3 ≠ t) : ∀ p, p ∈ its → p.1 ≠ g := fun p hp => by
  obtain ⟨u, hu⟩ := List.getElem?_of_mem hp
  obtain ⟨cs', h1, _⟩ := h u p hu
  exact blk_ne h1 hB ht

set_option maxRecDepth 100000 in
set_option maxHeartbeats 2000000 in
theorem put_any (b n c m bm v t : Nat) (its : List RowI) (d : Nat × Nat → Int) (more : Bool) (x : Int) (w : World) (hO : OutAt w b m its) (hn : its.length = n) (hT : TabR w m its d) (hM : Blk w bm 4 #[.bool more]) (hnd : (its.map Prod.fst).Nodup) (hv : v < n) (ht : t < m) :
    Calls Try.prog 124 #[.slice (some ⟨b, 0, none⟩) n c, .int .i64 (v : Int), .int .i64 (t : Int), .int .i64 x, .pointer (some ⟨bm, 0, none⟩)] w fun e w' => e = .returned (.tuple #[]) ∧ PutOut m bm its d more v t x w w' := by
  obtain ⟨p, hp⟩ := get_lt (l := its) (k := v) (by omega)
  have k1 := hO.cell hp
  have k2 := hT.cell hp ht
  have k3 := hT.frozen hp t
  have hne := hT.ne hM (by decide)
  have hpb : p.1 ≠ bm := hne p (List.mem_of_getElem? hp)
  obtain ⟨m1, m2, m3⟩ := hM.facts
  have hpm := List.mem_of_getElem? hp
  have hlt' := (hT.lt hpm)
  have HP := Lib.hid hp; have HPM := Lib.hid hpm; have HND := Lib.hid hnd
  obtain ⟨y, hy⟩ : ∃ y, d (v, t) = y := ⟨_, rfl⟩
  have HY := Lib.hid hy
  rw [hy] at k2
  clear hp hpm hnd hy hn
  by_cases hlt : x < y
  case pos =>
    have hd : decide (x < y) = true := by simpa using hlt
    have HLT := Lib.hid hlt
    clear hlt
    go_enter Try.func124, Try.ntmps124
    go_wp2_with fail
    refine ⟨rfl, .tuple #[], by simp [results, Try.results124], ?_⟩
    refine ⟨rfl, ?_, ?_, fun b' t' cs h1 h2 hB => ?_, fun k w0 hB h1 h2 => ?_, by simp⟩
    · rw [putF_yes (by rw [HY.out]; exact HLT.out)]
      exact (hT.set HP.out ht HND.out x).far hne _
    · have := (hM.far (p := ⟨p.1, t, none⟩) (Ne.symm hpb) (.int .i64 x)).set_ 0 (.bool true)
      rw [HY.out, hd]
      simpa using this
    · exact (hB.far (h1 p HPM.out) _).far h2 _
    · exact (hB.setCell (h1 p HPM.out) _).setCell h2 _
  case neg =>
    have hd : decide (x < y) = false := by simpa using hlt
    have HLT := Lib.hid hlt
    clear hlt
    go_enter Try.func124, Try.ntmps124
    go_wp2_with fail
    refine ⟨rfl, .tuple #[], by simp [results, Try.results124], ?_⟩
    refine ⟨rfl, ?_, ?_, fun b' t' cs h1 h2 hB => hB, fun k w0 hB h1 h2 => hB, Nat.le_refl _⟩
    · rw [putF_not (by rw [HY.out]; have := HLT.out; omega)]
      exact hT
    · rw [HY.out, hd, Bool.or_false]
      exact hM
/-- What lies in memory while sums are filled in: both tables, whether something has changed, and the graph. -/
structure SMem (w0 : World) (gcs : Array Value) (m bc bh bm : Nat) (ic ih : List RowI) (more : Bool) (C H : Nat × Nat → Int) (w : World) : Prop where
  oc : OutAt w bc m ic
  oh : OutAt w bh m ih
  tc : TabR w m ic C
  th : TabR w m ih H
  mo : Blk w bm 4 #[.bool more]
  gr : Blk w w0.heap.size 78 gcs
  bel : Below w0.heap.size w0 w
/-- What stays as it is. -/
structure SFix (w0 : World) (n bm : Nat) (ic ih : List RowI) : Prop where
  nc : ic.length = n
  nh : ih.length = n
  dc : (ic.map Prod.fst).Nodup
  dh : (ih.map Prod.fst).Nodup
  apart : ∀ p q, p ∈ ic → q ∈ ih → p.1 ≠ q.1
  lc : ∀ p, p ∈ ic → w0.heap.size ≤ p.1
  lh : ∀ p, p ∈ ih → w0.heap.size ≤ p.1
  lm : w0.heap.size ≤ bm
section
variable {w0 w w' : World} {gcs : Array Value} {n m bc bh bm : Nat} {ic ih : List RowI} {more : Bool} {C H : Nat × Nat → Int} {v t : Nat} {x : Int}
theorem SMem.ext (M : SMem w0 gcs m bc bh bm ic ih more C H w) (hb : Below w.heap.size w w') : SMem w0 gcs m bc bh bm ic ih more C H w' :=
  ⟨M.oc.keep fun _ h => h.ext hb, M.oh.keep fun _ h => h.ext hb, M.tc.keep fun _ _ h => h.ext hb, M.th.keep fun _ _ h => h.ext hb, M.mo.ext hb, M.gr.ext hb, ext_trans M.bel hb⟩
theorem SMem.alloc (M : SMem w0 gcs m bc bh bm ic ih more C H w) (o : Obj) : SMem w0 gcs m bc bh bm ic ih more C H (w.alloc o) :=
  ⟨M.oc.keep fun _ h => h.alloc o, M.oh.keep fun _ h => h.alloc o, M.tc.keep fun _ _ h => h.alloc o, M.th.keep fun _ _ h => h.alloc o, M.mo.alloc o, M.gr.alloc o, ext_alloc M.bel o⟩
theorem SMem.drew (M : SMem w0 gcs m bc bh bm ic ih more C H w) : SMem w0 gcs m bc bh bm ic ih more C H w.drew :=
  ⟨M.oc.keep fun _ h => h.drew, M.oh.keep fun _ h => h.drew, M.tc.keep fun _ _ h => h.drew, M.th.keep fun _ _ h => h.drew, M.mo.drew, M.gr.drew, below_drew M.bel⟩
theorem SMem.putC (M : SMem w0 gcs m bc bh bm ic ih more C H w) (F : SFix w0 n bm ic ih) (P : PutOut m bm ic C more v t x w w') : SMem w0 gcs m bc bh bm ic ih (more || decide (x < C (v, t))) (putF C (v, t) x) H w' := by
  have k1 : ∀ {b t cs}, Blk w b t cs → 3 ≠ t → 4 ≠ t → Blk w' b t cs := fun {b t cs} hB h1 h2 => P.keep _ _ _ (fun p hp => (M.tc.ne hB h1 p hp).symm) (blk_ne M.mo hB h2).symm hB
  refine ⟨M.oc.keep fun _ h => k1 h (by decide) (by decide), M.oh.keep fun _ h => k1 h (by decide) (by decide), P.tab, ?_, P.more, k1 M.gr (by decide) (by decide), P.below _ _ M.bel F.lc F.lm⟩
  intro u q hq
  refine (M.th u q hq).keep fun cs h => P.keep _ _ _ (fun p hp => (F.apart p q hp (List.mem_of_getElem? hq)).symm) (blk_ne h M.mo (by decide)) h
theorem SMem.putH (M : SMem w0 gcs m bc bh bm ic ih more C H w) (F : SFix w0 n bm ic ih) (P : PutOut m bm ih H more v t x w w') : SMem w0 gcs m bc bh bm ic ih (more || decide (x < H (v, t))) C (putF H (v, t) x) w' := by
  have k1 : ∀ {b t cs}, Blk w b t cs → 3 ≠ t → 4 ≠ t → Blk w' b t cs := fun {b t cs} hB h1 h2 => P.keep _ _ _ (fun p hp => (M.th.ne hB h1 p hp).symm) (blk_ne M.mo hB h2).symm hB
  refine ⟨M.oc.keep fun _ h => k1 h (by decide) (by decide), M.oh.keep fun _ h => k1 h (by decide) (by decide), ?_, P.tab, P.more, k1 M.gr (by decide) (by decide), P.below _ _ M.bel F.lh F.lm⟩
  intro u q hq
  refine (M.tc u q hq).keep fun cs h => P.keep _ _ _ (fun p hp => F.apart q p (List.mem_of_getElem? hq) hp) (blk_ne h M.mo (by decide)) h
theorem SMem.setMore (M : SMem w0 gcs m bc bh bm ic ih more C H w) (hl : w0.heap.size ≤ bm) (b : Bool) : SMem w0 gcs m bc bh bm ic ih b C H (w.setCell ⟨bm, 0, none⟩ (.bool b)) := by
  have k1 : ∀ {t g cs}, 4 ≠ t → Blk w g t cs → Blk (w.setCell ⟨bm, 0, none⟩ (.bool b)) g t cs := fun {t g cs} ht h => h.far (blk_ne M.mo h ht).symm _
  exact ⟨M.oc.keep fun _ h => k1 (by decide) h, M.oh.keep fun _ h => k1 (by decide) h, M.tc.keep fun _ _ h => k1 (by decide) h, M.th.keep fun _ _ h => k1 (by decide) h, by simpa using M.mo.set_ 0 (.bool b), k1 (by decide) M.gr, M.bel.setCell hl _⟩
theorem SMem.newMore (M : SMem w0 gcs m bc bh bm ic ih more C H w) (b : Bool) {k : Nat} (hk : k = w.heap.size) : SMem w0 gcs m bc bh k ic ih b C H (w.alloc (.cells #[.bool b] 4)) := by
  have M2 := M.alloc (.cells #[.bool b] 4)
  exact ⟨M2.oc, M2.oh, M2.tc, M2.th, Blk.new_ hk, M2.gr, M2.bel⟩
theorem SFix.anew {k : Nat} (F : SFix w0 n bm ic ih) (hk : w0.heap.size ≤ k) : SFix w0 n k ic ih := ⟨F.nc, F.nh, F.dc, F.dh, F.apart, F.lc, F.lh, hk⟩
theorem putC_any (cc v t : Nat) (vi ti : Int) (hvi : vi = v) (hti : ti = t) (M : SMem w0 gcs m bc bh bm ic ih more C H w) (F : SFix w0 n bm ic ih) (hv : v < n) (ht : t < m) (x : Int) :
    Calls Try.prog 124 #[.slice (some ⟨bc, 0, none⟩) n cc, .int .i64 vi, .int .i64 ti, .int .i64 x, .pointer (some ⟨bm, 0, none⟩)] w fun e w' => e = .returned (.tuple #[]) ∧ SMem w0 gcs m bc bh bm ic ih (more || decide (x < C (v, t))) (putF C (v, t) x) H w' ∧ ∀ b t cs, 3 ≠ t → 4 ≠ t → Blk w b t cs → Blk w' b t cs := by
  subst hvi hti
  exact (put_any bc n cc m bm v t ic C more x w M.oc F.nc M.tc M.mo F.dc hv ht).mono fun e w' h => ⟨h.1, M.putC F h.2, fun b t cs h1 h2 hB => h.2.keep _ _ _ (fun p hp => (M.tc.ne hB h1 p hp).symm) (blk_ne M.mo hB h2).symm hB⟩
theorem putH_any (ch v t : Nat) (vi ti : Int) (hvi : vi = v) (hti : ti = t) (M : SMem w0 gcs m bc bh bm ic ih more C H w) (F : SFix w0 n bm ic ih) (hv : v < n) (ht : t < m) (x : Int) :
    Calls Try.prog 124 #[.slice (some ⟨bh, 0, none⟩) n ch, .int .i64 vi, .int .i64 ti, .int .i64 x, .pointer (some ⟨bm, 0, none⟩)] w fun e w' => e = .returned (.tuple #[]) ∧ SMem w0 gcs m bc bh bm ic ih (more || decide (x < H (v, t))) C (putF H (v, t) x) w' ∧ ∀ b t cs, 3 ≠ t → 4 ≠ t → Blk w b t cs → Blk w' b t cs := by
  subst hvi hti
  exact (put_any bh n ch m bm v t ih H more x w M.oh F.nh M.th M.mo F.dh hv ht).mono fun e w' h => ⟨h.1, M.putH F h.2, fun b t cs h1 h2 hB => h.2.keep _ _ _ (fun p hp => (M.th.ne hB h1 p hp).symm) (blk_ne M.mo hB h2).symm hB⟩
end
end Go.Proofs.Ytcfachfldanddaa
