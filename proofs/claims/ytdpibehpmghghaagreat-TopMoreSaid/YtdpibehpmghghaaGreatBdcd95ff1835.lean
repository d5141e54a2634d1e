/- Several texts in one: FillSpec, LeastSpec, LineSpec, EarlyF. -/
import Derived.IntWalk
import Derived.Test.YtdpibehpmghghaaGreatBd3ed04debcf
import Derived.Test.YtdpibehpmghghaaGreatBd75f6f4d008
import Derived.Test.YtdpibehpmghghaaGreatBdbaf55b473b
/- The least sums by vertex and time, told one after another: what stays true while they are filled in; no program in sight. -/
namespace Go.Proofs.YtdpibehpmghghaaGreat

/-- From where, and by which hop, one comes. -/
structure OrigD where
  v : Int
  t : Int
  edge : Int
  depart : Int
  hops : Bool
abbrev Tab (α : Type) := Nat × Nat → Option α
def vT (B : Tab Int) (p : Nat × Nat) : Int := (B p).getD Never
def setF {α : Type} (F : Tab α) (p : Nat × Nat) (a : α) : Tab α := fun q => if q = p then some a else F q
def lessF {α : Type} (B : Tab Int) (F : Tab α) (p : Nat × Nat) (n : Int) (a : α) : Tab α := if n < vT B p then setF F p a else F
theorem setF_at {α : Type} (F : Tab α) (p : Nat × Nat) (a : α) : setF F p a p = some a := by simp [setF]
theorem setF_ne {α : Type} (F : Tab α) {p q : Nat × Nat} (a : α) (h : q ≠ p) : setF F p a q = F q := by simp [setF, h]
theorem lessF_ne {α : Type} (B : Tab Int) (F : Tab α) {p q : Nat × Nat} (n : Int) (a : α) (h : q ≠ p) : lessF B F p n a q = F q := by
  unfold lessF
  split
  · exact setF_ne _ _ h
  · rfl
theorem vT_less (B : Tab Int) (p : Nat × Nat) (n : Int) : vT (lessF B B p n n) = upd (vT B) p (min (vT B p) n) := by
  funext q
  by_cases h : q = p
  · subst h
    rw [upd_at]
    unfold lessF
    split
    · rw [vT, setF_at, Option.getD_some]; omega
    · omega
  · rw [upd_ne _ _ h, vT, lessF_ne _ _ _ _ h, vT]
theorem vT_some {B : Tab Int} {p : Nat × Nat} {n : Int} (h : B p = some n) : vT B p = n := by rw [vT, h]; rfl
theorem vT_none {B : Tab Int} {p : Nat × Nat} (h : B p = none) : vT B p = Never := by rw [vT, h]; rfl

/-- An origin says how one comes here with this sum. -/
def OrigOk (g : GraphD) (wt : LegD → Int) (B : Tab Int) (p : Nat × Nat) (n : Int) (o : OrigD) : Prop :=
  (o.hops = false ∧ o.v = p.1 ∧ o.t + 1 = p.2 ∧ 0 ≤ o.t ∧ o.edge = 0 ∧ o.depart = 0 ∧ B (p.1, o.t.toNat) = some n) ∨
  (o.hops = true ∧ ∃ (j : Nat) (x : EdgeD) (l : LegD) (m : Int), o.edge = j ∧ g.edges[j]? = some x ∧ o.v = x.a ∧ x.b = p.1 ∧ o.depart = o.t ∧ 0 ≤ o.t ∧ arrive g x o.t = some (l, (p.2 : Int)) ∧ B (x.a.toNat, o.t.toNat) = some m ∧ n = m + wt l)
structure FillInv (g : GraphD) (wt : LegD → Int) (v s : Int) (t u : Nat) (ww : Bool) (i : Nat) (B : Tab Int) (O : Tab OrigD) : Prop where
  above : Above (CostA g wt) (initC g v s) (vT B)
  start : aliveB g v s = true → B (v.toNat, s.toNat) = some 0
  told : ∀ p n, B p = some n → p.1 < g.lives.length ∧ s ≤ p.2 ∧ (p.2 : Int) < g.h ∧ aliveB g p.1 p.2 = true ∧ 0 ≤ n ∧ n ≤ 1000 * (p.2 : Int)
  orig : ∀ p n, B p = some n → p ≠ (v.toNat, s.toNat) → s < p.2 ∧ ∃ o, O p = some o ∧ OrigOk g wt B p n o ∧ o.t ≤ t
  waits : ∀ (w r : Nat), (r < t ∨ r = t ∧ (w < u ∨ w = u ∧ ww = true)) → w < g.lives.length → (r : Int) + 1 < g.h → aliveB g w ((r : Int) + 1) = true → vT B (w, r + 1) ≤ vT B (w, r)
  legs : ∀ (j r : Nat) x l to, g.edges[j]? = some x → arrive g x r = some (l, to) → (r < t ∨ r = t ∧ (x.a < u ∨ x.a = u ∧ j < i)) → vT B (x.b.toNat, to.toNat) ≤ vT B (x.a.toNat, r) + wt l

section
variable {g : GraphD} {wt : LegD → Int} {v s : Int} {t u i : Nat} {ww : Bool} {B : Tab Int} {O : Tab OrigD}
theorem FillInv.big (hV : Valid g) (h : FillInv g wt v s t u ww i B O) (p : Nat × Nat) : vT B p ≤ Never := by
  cases hp : B p with
  | none => rw [vT_none hp]; exact Int.le_refl _
  | some n =>
    have := h.told p n hp
    have := hV.h1
    rw [vT_some hp]
    simp only [Never]
    omega
/-- At the start. -/
theorem fill_start (hV : Valid g) (hw : Light g wt) (hv : 0 ≤ v ∧ v < g.lives.length) (hs : 0 ≤ s ∧ s < g.h) (ha : aliveB g v s = true) : FillInv g wt v s s.toNat 0 false 0 (setF (fun _ => none) (v.toNat, s.toNat) 0) (fun _ => none) := by
  have hval : vT (setF (fun _ => none) (v.toNat, s.toNat) 0) = initC g v s := by
    funext q
    unfold initC
    by_cases h : q = (v.toNat, s.toNat)
    · rw [vT, h, setF_at, if_pos ⟨ha, by simp only; omega, by simp only; omega⟩]; rfl
    · rw [vT, setF_ne _ _ h, if_neg]
      · rfl
      · rintro ⟨_, h1, h2⟩
        apply h
        apply Prod.ext
        · simp only; omega
        · simp only; omega
  have hsome : ∀ p n, setF (fun _ => none) (v.toNat, s.toNat) (0 : Int) p = some n → p = (v.toNat, s.toNat) ∧ n = 0 := fun p n hp => by
    by_cases h : p = (v.toNat, s.toNat)
    · subst h
      rw [setF_at] at hp
      exact ⟨rfl, by simpa using hp.symm⟩
    · rw [setF_ne _ _ h] at hp; simp at hp
  have hnone : ∀ (r w : Nat), r < s.toNat → vT (setF (fun _ => none) (v.toNat, s.toNat) 0) (w, r) = Never := fun r w hr => by
    rw [vT, setF_ne _ _ (fun e => by simp only [Prod.mk.injEq] at e; omega)]; rfl
  have hle : ∀ p, vT (setF (fun _ => none) (v.toNat, s.toNat) 0) p ≤ Never := fun p => by rw [hval]; exact initC_big p
  refine ⟨by rw [hval]; exact above_init, fun _ => setF_at _ _ _, fun p n hp => ?_, fun p n hp hne => ?_, fun w r hr h1 h2 h3 => ?_, fun j r x l to hx hr hc => ?_⟩
  · obtain ⟨rfl, rfl⟩ := hsome p n hp
    refine ⟨by simp only; omega, by simp only; omega, by simp only; omega, ?_, by omega, by simp only; omega⟩
    simp only
    rw [show ((v.toNat : Nat) : Int) = v by omega, show ((s.toNat : Nat) : Int) = s by omega]
    exact ha
  · exact absurd (hsome p n hp).1 hne
  · rw [hnone r w (by rcases hr with h | ⟨h, h4 | h4⟩ <;> simp at * <;> omega)]
    exact hle _
  · have ho := hV.edges x (List.mem_of_getElem? hx)
    have h0 := ho.a0
    rw [hnone r x.a.toNat (by omega)]
    have := hw x (List.mem_of_getElem? hx) l (arrive_some hr).1
    have := hle (x.b.toNat, to.toNat)
    omega
theorem fill_start0 (hw : Light g wt) (ha : aliveB g v s = false) : FillInv g wt v s s.toNat 0 false 0 (fun _ => none) (fun _ => none) := by
  have hval : vT (fun _ => none) = initC g v s := by
    funext q
    unfold initC
    rw [if_neg (by rw [ha]; simp)]; rfl
  refine ⟨by rw [hval]; exact above_init, fun h => by rw [ha] at h; simp at h, fun p n hp => by simp at hp, fun p n hp => by simp at hp, fun w r hr h1 h2 h3 => Int.le_refl _, fun j r x l to hx hr hc => ?_⟩
  have := hw x (List.mem_of_getElem? hx) l (arrive_some hr).1
  show Never ≤ Never + wt l
  omega
theorem FillInv.put (h : FillInv g wt v s t u ww i B O) {m : Int} (hm : B (u, t) = some m) {p : Nat × Nat} {n : Int} {f : Int → Int} (hy : CostA g wt ⟨(u, t), p, f⟩) (hn : f m = n) (hp1 : p.1 < g.lives.length) (hp2 : t < p.2) (hp3 : (p.2 : Int) < g.h)
    (hp4 : aliveB g p.1 p.2 = true) (h0 : 0 ≤ n) (h1 : n ≤ 1000 * (p.2 : Int)) {o : OrigD} (ho : OrigOk g wt B p n o) (hot : o.t ≤ t) :
    FillInv g wt v s t u ww i (lessF B B p n n) (lessF B O p n o) ∧ vT (lessF B B p n n) p ≤ n ∧ ∀ q : Nat × Nat, q.2 ≤ t → lessF B B p n n q = B q := by
  have hk : ∀ q : Nat × Nat, q.2 ≤ t → lessF B B p n n q = B q := fun q hq => lessF_ne _ _ _ _ (fun e => by rw [e] at hq; omega)
  have hkv : ∀ q : Nat × Nat, q.2 ≤ t → vT (lessF B B p n n) q = vT B q := fun q hq => by rw [vT, vT, hk q hq]
  have hle : ∀ q, vT (lessF B B p n n) q ≤ vT B q := fun q => by
    rw [vT_less]
    by_cases e : q = p
    · rw [e, upd_at]; omega
    · rw [upd_ne _ _ e]; exact Int.le_refl _
  have hst : s ≤ t := (h.told _ _ hm).2.1
  have hor : ∀ q n' o', OrigOk g wt B q n' o' → o'.t ≤ t → OrigOk g wt (lessF B B p n n) q n' o' := fun q n' o' hq ht => by
    rcases hq with ⟨a1, a2, a3, a4, a5, a6, a7⟩ | ⟨a1, j, x, l, m', a2, a3, a4, a5, a6, a7, a8, a9, a10⟩
    · exact .inl ⟨a1, a2, a3, a4, a5, a6, by rw [hk _ (by simp only; omega)]; exact a7⟩
    · exact .inr ⟨a1, j, x, l, m', a2, a3, a4, a5, a6, a7, a8, by rw [hk _ (by simp only; omega)]; exact a9, a10⟩
  refine ⟨⟨?_, fun ha => ?_, fun q n' hq => ?_, fun q n' hq hne => ?_, fun w r hr k1 k2 k3 => ?_, fun j r x l to hx hr hc => ?_⟩, ?_, hk⟩
  · rw [vT_less]
    exact Above.upd h.above h.above hy (cost_mono _ hy) (by simp only; rw [vT_some hm, hn]; exact Int.le_refl _)
  · rw [hk _ (by simp only; omega)]; exact h.start ha
  · by_cases e : q = p
    · subst e
      unfold lessF at hq
      split at hq
      · rw [setF_at] at hq
        obtain rfl : n = n' := by simpa using hq
        exact ⟨hp1, by omega, hp3, hp4, h0, h1⟩
      · exact h.told _ _ hq
    · rw [lessF_ne _ _ _ _ e] at hq
      exact h.told _ _ hq
  · by_cases e : q = p
    · subst e
      by_cases hlt : n < vT B q
      · have e1 : lessF B B q n n q = some n := by unfold lessF; rw [if_pos hlt, setF_at]
        have e2 : lessF B O q n o q = some o := by unfold lessF; rw [if_pos hlt, setF_at]
        rw [e1] at hq
        obtain rfl : n = n' := by simpa using hq
        exact ⟨by omega, o, e2, hor _ _ _ ho hot, hot⟩
      · have e1 : lessF B B q n n q = B q := by unfold lessF; rw [if_neg hlt]
        have e2 : lessF B O q n o q = O q := by unfold lessF; rw [if_neg hlt]
        rw [e1] at hq
        obtain ⟨k1, o', k2, k3, k4⟩ := h.orig _ _ hq hne
        exact ⟨k1, o', by rw [e2]; exact k2, hor _ _ _ k3 k4, k4⟩
    · rw [lessF_ne _ _ _ _ e] at hq
      obtain ⟨k1, o', k2, k3, k4⟩ := h.orig _ _ hq hne
      exact ⟨k1, o', by rw [lessF_ne _ _ _ _ e]; exact k2, hor _ _ _ k3 k4, k4⟩
  · have := h.waits w r hr k1 k2 k3
    rw [hkv (w, r) (by simp only; omega)]
    exact Int.le_trans (hle _) this
  · have := h.legs j r x l to hx hr hc
    rw [hkv (x.a.toNat, r) (by simp only; omega)]
    exact Int.le_trans (hle _) this
  · rw [vT_less, upd_at]; omega
/-- A vertex at which one isn't then. -/
theorem FillInv.skip (hV : Valid g) (hw : Light g wt) (h : FillInv g wt v s t u false 0 B O) (hn : B (u, t) = none) : FillInv g wt v s t (u + 1) false 0 B O := by
  refine ⟨h.above, h.start, h.told, h.orig, fun w r hr k1 k2 k3 => ?_, fun j r x l to hx hr hc => ?_⟩
  · by_cases e : r = t ∧ w = u
    · rw [e.1, e.2, vT_none hn]; exact h.big hV _
    · exact h.waits w r (by rcases hr with hr | ⟨hr, hr2 | hr2⟩ <;> simp at * <;> omega) k1 k2 k3
  · have h2 := hw x (List.mem_of_getElem? hx) l (arrive_some hr).1
    have h0 := (hV.edges x (List.mem_of_getElem? hx)).a0
    by_cases e : r = t ∧ x.a = u
    · rw [e.1, show x.a.toNat = u by omega, vT_none hn]; have := h.big hV (x.b.toNat, to.toNat); omega
    · exact h.legs j r x l to hx hr (by omega)
theorem FillInv.wait (h : FillInv g wt v s t u false 0 B O) (hd : (t : Int) + 1 < g.h → aliveB g u ((t : Int) + 1) = true → vT B (u, t + 1) ≤ vT B (u, t)) : FillInv g wt v s t u true 0 B O := by
  refine ⟨h.above, h.start, h.told, h.orig, fun w r hr k1 k2 k3 => ?_, h.legs⟩
  by_cases e : r = t ∧ w = u
  · obtain ⟨rfl, rfl⟩ := e; exact hd k2 k3
  · exact h.waits w r (by rcases hr with hr | ⟨hr, hr2 | hr2⟩ <;> simp at * <;> omega) k1 k2 k3
theorem FillInv.edge (h : FillInv g wt v s t u true i B O) {x : EdgeD} (hx : g.edges[i]? = some x) (hd : x.a = u → ∀ l to, arrive g x t = some (l, to) → vT B (x.b.toNat, to.toNat) ≤ vT B (u, t) + wt l) : FillInv g wt v s t u true (i + 1) B O := by
  refine ⟨h.above, h.start, h.told, h.orig, h.waits, fun j r y l to hy hr hc => ?_⟩
  by_cases e : r = t ∧ y.a = u ∧ j = i
  · obtain ⟨rfl, e2, rfl⟩ := e
    rw [hx] at hy
    obtain rfl : x = y := by simpa using hy
    have := hd e2 l to hr
    rw [show x.a.toNat = u by omega]
    exact this
  · exact h.legs j r y l to hy hr (by omega)
theorem FillInv.nextV (h : FillInv g wt v s t u true g.edges.length B O) : FillInv g wt v s t (u + 1) false 0 B O := by
  refine ⟨h.above, h.start, h.told, h.orig, fun w r hr k1 k2 k3 => ?_, fun j r x l to hx hr hc => ?_⟩
  · exact h.waits w r (by rcases hr with hr | ⟨hr, hr2 | hr2⟩ <;> simp at * <;> omega) k1 k2 k3
  · have := (List.getElem?_eq_some_iff.1 hx).1
    exact h.legs j r x l to hx hr (by omega)
theorem FillInv.nextT (hV : Valid g) (h : FillInv g wt v s t g.lives.length false 0 B O) : FillInv g wt v s (t + 1) 0 false 0 B O := by
  refine ⟨h.above, h.start, h.told, fun p n hp hne => ?_, fun w r hr k1 k2 k3 => ?_, fun j r x l to hx hr hc => ?_⟩
  · obtain ⟨k1, o, k2, k3, k4⟩ := h.orig p n hp hne
    exact ⟨k1, o, k2, k3, by omega⟩
  · exact h.waits w r (by rcases hr with hr | ⟨hr, hr2 | hr2⟩ <;> simp at * <;> omega) k1 k2 k3
  · have h0 := (hV.edges x (List.mem_of_getElem? hx)).a0
    have h1 := (hV.edges x (List.mem_of_getElem? hx)).a1
    exact h.legs j r x l to hx hr (by omega)
/-- All is filled in. -/
theorem FillInv.ends (hV : Valid g) (hv : 0 ≤ v ∧ v < g.lives.length) (hs : 0 ≤ s) (h : FillInv g wt v s t 0 false 0 B O) (ht : g.h ≤ t) : CostL g wt v s (vT B) := by
  refine ⟨⟨fun p => ?_, ?_⟩, h.above⟩
  · unfold initC
    split
    · rename_i hp
      have e : p = (v.toNat, s.toNat) := Prod.ext (by simp only; omega) (by simp only; omega)
      rw [e, vT_some (h.start hp.1)]; exact Int.le_refl _
    · exact h.big hV p
  · rintro y (⟨w, r, rfl, h1, h2, h3⟩ | ⟨x, l, to, r, hx, ha, rfl⟩)
    · exact h.waits w r (.inl (by omega)) h1 h2 h3
    · obtain ⟨j, hj⟩ := List.getElem?_of_mem hx
      have := arrive_late hV (hV.edges x hx) ha
      exact h.legs j r x l to hj ha (.inl (by omega))
end
end Go.Proofs.YtdpibehpmghghaaGreat
/- The least sum of each vertex; no program in sight. -/
namespace Go.Proofs.YtdpibehpmghghaaGreat

/-- The least of the first k sums of a vertex, and when it is told first. -/
def leastN (d : Nat × Nat → Int) (v : Nat) : Nat → Int × Int
  | 0 => (Never, 0)
  | k + 1 => if d (v, k) < (leastN d v k).1 then (d (v, k), (k : Int)) else leastN d v k
theorem leastN_le (d : Nat × Nat → Int) (v : Nat) : ∀ k, (leastN d v k).1 ≤ Never
  | 0 => Int.le_refl _
  | k + 1 => by
    have ih := leastN_le d v k
    rw [leastN]
    split
    · simp only; omega
    · exact ih
theorem leastN_all {d : Nat × Nat → Int} {v : Nat} : ∀ {k r : Nat}, r < k → (leastN d v k).1 ≤ d (v, r)
  | 0, r, h => by omega
  | k + 1, r, h => by
    rw [leastN]
    by_cases e : r = k
    · subst e
      split
      · exact Int.le_refl _
      · omega
    · have ih := leastN_all (d := d) (v := v) (show r < k by omega)
      split
      · simp only; omega
      · exact ih
theorem leastN_at {d : Nat × Nat → Int} {v : Nat} : ∀ {k : Nat}, (leastN d v k).1 < Never → ∃ r : Nat, r < k ∧ (leastN d v k).2 = r ∧ d (v, r) = (leastN d v k).1
  | 0, h => by simp [leastN] at h
  | k + 1, h => by
    rw [leastN] at h ⊢
    by_cases c : d (v, k) < (leastN d v k).1
    · rw [if_pos c]
      exact ⟨k, by omega, rfl, rfl⟩
    · rw [if_neg c] at h ⊢
      obtain ⟨r, h1, h2, h3⟩ := leastN_at h
      exact ⟨r, by omega, h2, h3⟩
theorem leastN_range (d : Nat × Nat → Int) (v : Nat) : ∀ k, 0 ≤ (leastN d v k).2 ∧ (leastN d v k).2 ≤ k
  | 0 => by simp [leastN]
  | k + 1 => by
    have ih := leastN_range d v k
    rw [leastN]
    split
    · simp only; omega
    · omega
/-- The least sums of the vertices. -/
def leastL (g : GraphD) (d : Nat × Nat → Int) : List Int := (List.range g.lives.length).map fun u => (leastN d u g.h.toNat).1
/-- The list tells the least sums from a place. -/
def CostsL (g : GraphD) (wt : LegD → Int) (v s : Int) (l : List Int) : Prop := ∃ d, CostL g wt v s d ∧ l = leastL g d
theorem CostsL.eq {g : GraphD} {wt : LegD → Int} {v s : Int} {l r : List Int} (h : CostsL g wt v s l) (k : CostsL g wt v s r) : l = r := by
  obtain ⟨d, h1, rfl⟩ := h
  obtain ⟨e, k1, rfl⟩ := k
  rw [h1.eq k1]
def CostsOut (g : GraphD) (wt : LegD → Int) (v s : Int) (l : List Int) : Prop := if placeErr g v s = 0 then CostsL g wt v s l else l = []
theorem leastL_get {g : GraphD} {d : Nat × Nat → Int} {k : Nat} (h : k < g.lives.length) : (leastL g d)[k]? = some (leastN d k g.h.toNat).1 := by simp [leastL, h]
theorem leastL_len (g : GraphD) (d : Nat × Nat → Int) : (leastL g d).length = g.lives.length := by simp [leastL]
end Go.Proofs.YtdpibehpmghghaaGreat
/- The line's earliest times, costs, and its way; no program in sight. -/
namespace Go.Proofs.YtdpibehpmghghaaGreat

def lineG : GraphD := ⟨12, [⟨0, 12⟩, ⟨0, 12⟩, ⟨1, 12⟩], [⟨0, 1, [⟨0, 3, 2, 5⟩, ⟨3, 6, 1, 1⟩]⟩, ⟨1, 2, [⟨4, 5, 3, 2⟩]⟩]⟩
def lineE0 : EdgeD := ⟨0, 1, [⟨0, 3, 2, 5⟩, ⟨3, 6, 1, 1⟩]⟩
def lineE1 : EdgeD := ⟨1, 2, [⟨4, 5, 3, 2⟩]⟩
theorem line_edges : lineG.edges = [lineE0, lineE1] := rfl
theorem line_valid : Valid lineG := valid_of (by decide)
theorem line_early {l : List Int} (h : EarlyL lineG 0 0 l) : l = [0, 2, 7] := by
  have hV := line_valid
  have hx := hV.edges lineE0 (by simp [line_edges])
  have hy := hV.edges lineE1 (by simp [line_edges])
  refine h.eq ⟨rfl, ⟨fun i => ?_, ?_⟩, fun e he i => ?_⟩
  · match i with
    | 0 => decide
    | 1 => decide
    | 2 => decide
    | n + 3 => rw [gi_far (by simp), startE_far (by simp [lineG])]; exact Int.le_refl _
  · intro x hx
    obtain ⟨y, hy, rfl⟩ := mem_arcsE.1 hx
    rw [line_edges] at hy
    simp only [List.mem_cons, List.not_mem_nil, or_false] at hy
    rcases hy with rfl | rfl
    · decide
    · decide
  · have h0 := he.1 0
    have h1 := he.2 (arcE lineG lineE0) (mem_arcsE.2 ⟨_, by simp [line_edges], rfl⟩)
    have h3 := he.2 (arcE lineG lineE1) (mem_arcsE.2 ⟨_, by simp [line_edges], rfl⟩)
    have e0 : gi (startE lineG 0 0) 0 = 0 := by decide
    rw [e0] at h0
    have h2 := earlyF_mono hV hx (e 0) 0 h0
    have e1 : earlyF lineG lineE0 0 = 2 := by decide
    rw [e1] at h2
    have k1 : e 1 ≤ 2 := Int.le_trans h1 h2
    have h4 := earlyF_mono hV hy (e 1) 2 k1
    have e2 : earlyF lineG lineE1 2 = 7 := by decide
    rw [e2] at h4
    have k2 : e 2 ≤ 7 := Int.le_trans h3 h4
    match i with
    | 0 => show e 0 ≤ 0; omega
    | 1 => show e 1 ≤ 2; exact k1
    | 2 => show e 2 ≤ 7; exact k2
    | n + 3 =>
      have := he.1 (n + 3)
      rw [startE_far (by simp [lineG])] at this
      rw [gi_far (by simp)]
      exact this
theorem least_eq {d : Nat × Nat → Int} {v k r : Nat} {m : Int} (hr : r < k) (h1 : d (v, r) ≤ m) (h2 : ∀ s, m ≤ d (v, s)) (hm : m < Never) : (leastN d v k).1 = m := by
  have h3 := leastN_all (d := d) (v := v) hr
  obtain ⟨s, _, _, h4⟩ := leastN_at (d := d) (v := v) (k := k) (by omega)
  have := h2 s
  omega
theorem line_costs {l : List Int} (h : CostsL lineG lCost 0 0 l) : l = [0, 1, 3] := by
  obtain ⟨d, hd, rfl⟩ := h
  have low : ∀ p : Nat × Nat, (if p.1 = 0 then (0 : Int) else if p.1 = 1 then 1 else if p.1 = 2 then 3 else 0) ≤ d p := hd.2 _ ⟨fun p => ?_, ?_⟩
  · have hw : ∀ s : Nat, (s : Int) + 1 < 12 → d (0, s + 1) ≤ d (0, s) := fun s hs => hd.1.2 _ (.inl ⟨0, s, rfl, by decide, hs, by
      unfold aliveB
      show decide ((0 : Int) ≤ (s : Int) + 1 ∧ (s : Int) + 1 < 12) = true
      simp; omega⟩)
    have c0 : d (0, 0) ≤ 0 := by have := hd.1.1 (0, 0); simpa [initC, lineG, aliveB] using this
    have c1 : d (0, 1) ≤ d (0, 0) := hw 0 (by omega)
    have c2 : d (0, 2) ≤ d (0, 1) := hw 1 (by omega)
    have c3 : d (0, 3) ≤ d (0, 2) := hw 2 (by omega)
    have c4 : d (1, 4) ≤ d (0, 3) + 1 := hd.1.2 _ (.inr ⟨lineE0, ⟨3, 6, 1, 1⟩, 4, 3, by simp [line_edges], by decide, rfl⟩)
    have c5 : d (2, 7) ≤ d (1, 4) + 2 := hd.1.2 _ (.inr ⟨lineE1, ⟨4, 5, 3, 2⟩, 7, 4, by simp [line_edges], by decide, rfl⟩)
    have e0 := least_eq (d := d) (v := 0) (k := 12) (r := 0) (m := 0) (by omega) c0 (fun s => by simpa using low (0, s)) (by decide)
    have e1 := least_eq (d := d) (v := 1) (k := 12) (r := 4) (m := 1) (by omega) (by omega) (fun s => by simpa using low (1, s)) (by decide)
    have e2 := least_eq (d := d) (v := 2) (k := 12) (r := 7) (m := 3) (by omega) (by omega) (fun s => by simpa using low (2, s)) (by decide)
    show [(leastN d 0 12).1, (leastN d 1 12).1, (leastN d 2 12).1] = _
    rw [e0, e1, e2]
  · unfold initC
    show (if p.1 = 0 then (0 : Int) else if p.1 = 1 then 1 else if p.1 = 2 then 3 else 0) ≤ _
    by_cases h0 : p.1 = 0
    · rw [if_pos h0]; split <;> simp [Never]
    · have hn : ¬ (aliveB lineG 0 0 = true ∧ (p.1 : Int) = 0 ∧ (p.2 : Int) = 0) := fun h => h0 (by have := h.2.1; omega)
      rw [if_neg h0, if_neg hn]
      split
      · simp [Never]
      · split <;> simp [Never]
  · rintro y (⟨v, t, rfl, _, _, _⟩ | ⟨x, lg, te, t, hx, ha, rfl⟩)
    · exact Int.le_refl _
    · rw [line_edges] at hx
      have hs := arrive_some ha
      simp only [List.mem_cons, List.not_mem_nil, or_false] at hx
      rcases hx with rfl | rfl
      · have := hs.1
        simp only [lineE0, List.mem_cons, List.not_mem_nil, or_false] at this
        rcases this with rfl | rfl <;> simp [lineE0, lCost]
      · have := hs.1
        simp only [lineE1, List.mem_cons, List.not_mem_nil, or_false] at this
        subst this
        simp [lineE1, lCost]
theorem line_hop {v t b te k : Int} {h : HopD} (hh : hopTo lineG v t h = some (b, te, k)) : (h.edge = 0 ∧ v = 0 ∧ b = 1) ∨ (h.edge = 1 ∧ v = 1 ∧ b = 2 ∧ h.depart = 4) := by
  obtain ⟨x, lg, h0, hx, h1, h2, h3, h4, h5⟩ := hopTo_spec hh
  rw [line_edges] at hx
  have hl := (List.getElem?_eq_some_iff.1 hx).1
  simp only [List.length_cons, List.length_nil] at hl
  by_cases e : h.edge = 0
  · rw [e] at hx
    obtain rfl : lineE0 = x := by simpa using hx
    exact .inl ⟨e, h1.symm, h4⟩
  · have e1 : h.edge = 1 := by omega
    rw [e1] at hx
    obtain rfl : lineE1 = x := by simpa using hx
    have hs := arrive_some h3
    have := hs.1
    simp only [lineE1, List.mem_cons, List.not_mem_nil, or_false] at this
    subst this
    exact .inr ⟨e1, h1.symm, h4, by simp only at hs; omega⟩
theorem line_way {a : List Int} {hops : List HopD} (ha : EarlyL lineG 0 0 a) (h : WayOk lineG 0 0 2 a hops) : hops = [⟨0, 0⟩, ⟨1, 4⟩] := by
  obtain rfl := line_early ha
  obtain ⟨c, hc⟩ := h.go
  match hops, h, hc with
  | [], _, hc => simp [goL] at hc
  | [y], h, hc =>
    exfalso
    cases hh : hopTo lineG 0 0 y with
    | none => rw [goL_none hh] at hc; simp at hc
    | some p =>
      obtain ⟨b, te, k⟩ := p
      rw [goL_some hh] at hc
      simp only [goL, Option.some.injEq, Prod.mk.injEq] at hc
      rcases line_hop hh with h1 | h1 <;> omega
  | y :: z :: r, h, hc =>
    cases hh : hopTo lineG 0 0 y with
    | none => rw [goL_none hh] at hc; simp at hc
    | some p =>
      obtain ⟨b, te, k⟩ := p
      rw [goL_some hh] at hc
      have h1 : y.edge = 0 ∧ b = 1 := by rcases line_hop hh with h1 | h1 <;> omega
      obtain ⟨h1, rfl⟩ := h1
      cases hh2 : hopTo lineG 1 te z with
      | none => rw [goL_none hh2] at hc; simp at hc
      | some q =>
        obtain ⟨b2, te2, k2⟩ := q
        rw [goL_some hh2] at hc
        have h2 : z.edge = 1 ∧ b2 = 2 ∧ z.depart = 4 := by rcases line_hop hh2 with h2 | h2 <;> omega
        obtain ⟨h2, rfl, h3⟩ := h2
        have hr : r = [] := by
          cases r with
          | nil => rfl
          | cons u r =>
            exfalso
            cases hh3 : hopTo lineG 2 te2 u with
            | none => rw [goL_none hh3] at hc; simp at hc
            | some q => obtain ⟨b3, te3, k3⟩ := q; rcases line_hop hh3 with h2 | h2 <;> omega
        subst hr
        have hy : y.depart = 0 := by
          obtain ⟨x, lg, k1, k3⟩ := h.tight y (by simp)
          rw [line_edges, h1] at k1
          obtain rfl : lineE0 = x := by simpa using k1
          have hs := arrive_some k3
          have h5 := hs.2.2.2.1
          have h4 := hs.1
          have e7 : gi [0, 2, 7] lineE0.b.toNat = 2 := rfl
          rw [e7] at h5
          simp only [lineE0, List.mem_cons, List.not_mem_nil, or_false] at h4
          rcases h4 with rfl | rfl <;> (simp only at hs h5; omega)
        obtain ⟨ye, yd⟩ := y
        obtain ⟨ze, zd⟩ := z
        simp only at h1 h2 h3 hy
        subst h1 h2 h3 hy
        rfl
end Go.Proofs.YtdpibehpmghghaaGreat
/- The walks of the first and of the last hop along an edge. -/
namespace Go.Proofs.YtdpibehpmghghaaGreat
open Go.RowKit

theorem arrive_yes {A A' L : Option Addr} {c c' cl : Nat} {g : GraphD} {x : EdgeD} {t to : Int} {l : LegD} (w : World) (hG : GraphAt w A c A' c' g) (hV : Valid g) (hx : EdgeOk g x) (hL : SlAt RLeg 4 w L x.legs) (hl : x.legs.length ≤ maxLen) (ht : I64 t) (h : arrive g x t = some (l, to)) :
    Calls Tryz.prog 80 #[gV A c A' c' g, edgeV L cl x, .int .i64 t] w fun e w' => e = .returned (.tuple #[legV l, .int .i64 to, .bool true]) ∧ Below w.heap.size w w' :=
  (arrive_any A A' L c c' cl g x t w hG hV hx hL hl ht).mono fun e w' ⟨he, hb⟩ => ⟨by rw [he, h]; rfl, hb⟩
theorem arrive_not {A A' L : Option Addr} {c c' cl : Nat} {g : GraphD} {x : EdgeD} {t : Int} (w : World) (hG : GraphAt w A c A' c' g) (hV : Valid g) (hx : EdgeOk g x) (hL : SlAt RLeg 4 w L x.legs) (hl : x.legs.length ≤ maxLen) (ht : I64 t) (h : arrive g x t = none) :
    Calls Tryz.prog 80 #[gV A c A' c' g, edgeV L cl x, .int .i64 t] w fun e w' => e = .returned (.tuple #[legV ⟨0, 0, 0, 0⟩, .int .i64 0, .bool false]) ∧ Below w.heap.size w w' :=
  (arrive_any A A' L c c' cl g x t w hG hV hx hL hl ht).mono fun e w' ⟨he, hb⟩ => ⟨by rw [he, h]; rfl, hb⟩
abbrev edgeC (L : Option Addr) (cl : Nat) (x : EdgeD) : Array Value := #[.int .i64 x.a, .int .i64 x.b, .slice L x.legs.length cl]
theorem results3 {fn : Func} {t u v : Tmp} (h : fn.results = #[.tmp t, .tmp u, .tmp v]) (tmps : Array Value) (P : Program) (w : World) :
    (results fn tmps).run P w = .ok (.tuple #[tmps.getD t undef, tmps.getD u undef, tmps.getD v undef]) w := by simp [results, h]
/-- The three results of first. -/
def firstR (o : Option (Int × Int)) : Value := match o with
  | some p => .tuple #[.int .i64 p.1, .int .i64 p.2, .bool true]
  | none => .tuple #[.int .i64 0, .int .i64 0, .bool false]
/-- The three variables of the loop: what is best, when one leaves, whether there is one. -/
def FState (o : Option (Int × Int)) (b d f : Value) : Prop := match o with
  | some p => b = .int .i64 p.2 ∧ d = .int .i64 p.1 ∧ f = .bool true
  | none => b = .int .i64 0 ∧ d = .int .i64 0 ∧ f = .bool false
theorem firstL_end {g : GraphD} {x : EdgeD} {d : Int} {o : Option (Int × Int)} {n : Nat} (h : n = 0) : firstL g x n d o = o := by subst h; rfl
theorem firstL_go {g : GraphD} {x : EdgeD} {d : Int} {o : Option (Int × Int)} {n : Nat} (h : 0 < n) : firstL g x n d o = firstL g x (n - 1) (d + 1) (fstep g x o d) := by
  cases n with
  | zero => omega
  | succ n => rfl

set_option maxRecDepth 100000 in
set_option maxHeartbeats 4000000 in
theorem first_any (A A' L : Option Addr) (c c' cl : Nat) (g : GraphD) (x : EdgeD) (t : Int) (w : World) (hG : GraphAt w A c A' c' g) (hV : Valid g) (hx : EdgeOk g x) (hL : SlAt RLeg 4 w L x.legs) (hl : x.legs.length ≤ maxLen) (ht0 : 0 ≤ t) (ht1 : t ≤ 100) :
    Calls Tryz.prog 81 #[gV A c A' c' g, edgeV L cl x, .int .i64 t] w fun e w' => e = .returned (firstR (first g x t)) ∧ Below w.heap.size w w' := by
  have hh1 := hV.h1
  have hh0 := hV.h0
  go_enter Tryz.func81, Tryz.ntmps81
  go_wp2_with fail
  go_loopw [9, 10, 11, 12] (fun vb vd vf vt wr => ∃ (d : Int) (o : Option (Int × Int)), t ≤ d ∧ d ≤ 100 ∧ vt = .int .i64 d ∧ Hid (FState o vb vd vf) ∧ Hid (firstL g x (g.h - d).toNat d o = first g x t) ∧ Hid (∀ p q, o = some (p, q) → p ≤ 100 ∧ q ≤ 100) ∧
      Blk wr w.heap.size 25 (gC A c A' c' g) ∧ Blk wr (w.heap.size + 1) 60 (edgeC L cl x) ∧ Below w.heap.size w wr)
    (fun _ _ _ vt _ => (100 - intOf vt).toNat)
  case atStart => exact ⟨t, none, Int.le_refl _, ht1, rfl, Lib.hid ⟨rfl, rfl, rfl⟩, Lib.hid rfl, Lib.hid (fun p q h => by simp at h), (Blk.new _ _ _).alloc _, Blk.new_ (by simp), by go_grown⟩
  case round =>
    obtain ⟨d, o, hd0, hd1, rfl, HS, HF, HO, B0, B1, hb⟩ := hrel
    obtain ⟨c1, c2, c3⟩ := B0.facts
    obtain ⟨e1, e2, e3⟩ := B1.facts
    by_cases hlt : d < g.h
    case neg =>
      have HE : Hid (o = first g x t) := Lib.hid ((firstL_end (by omega)).symm.trans HF.out)
      cases o with
      | none =>
        obtain ⟨rfl, rfl, rfl⟩ := HS.out
        go_wp2_with fail
        refine bodyPost_ret (results3 rfl _ _ _) rfl ?_
        exact ⟨by rw [← HE.out]; rfl, hb⟩
      | some p =>
        obtain ⟨p, q⟩ := p
        obtain ⟨rfl, rfl, rfl⟩ := HS.out
        go_wp2_with fail
        refine bodyPost_ret (results3 rfl _ _ _) rfl ?_
        exact ⟨by rw [← HE.out]; rfl, hb⟩
    have HN : Hid (firstL g x (g.h - (d + 1)).toNat (d + 1) (fstep g x o d) = first g x t) := Lib.hid (by
      rw [← HF.out, firstL_go (n := (g.h - d).toNat) (by omega), show (g.h - d).toNat - 1 = (g.h - (d + 1)).toNat by omega])
    have hw1 : IntKind.i64.wrap (d + 1) = d + 1 := IntWalk.i64_in _ (by omega)
    clear HF
    cases ha : arrive g x d with
    | none =>
      have HA := Lib.hid ha
      rw [fstep_no ha] at HN
      clear ha
      cases o with
      | none =>
        obtain ⟨rfl, rfl, rfl⟩ := HS.out
        go_wp2_with fail
        refine (arrive_not _ (hG.ext hb) hV hx (hL.ext RLeg.stable hb) hl ⟨by omega, by omega⟩ HA.out).mono ?_
        rintro e w1 ⟨rfl, hb1⟩
        have B0 := B0.ext hb1
        have B1 := B1.ext hb1
        have hb := ext_trans hb hb1
        go_wp2_with fail
        go_roundw
        case rel => exact ⟨d + 1, none, by omega, by omega, by go_num, HS, HN, HO, B0.alloc _, B1.alloc _, ext_alloc hb _⟩
        case measure => simp [intOf]; omega
      | some p =>
        obtain ⟨p, q⟩ := p
        obtain ⟨rfl, rfl, rfl⟩ := HS.out
        go_wp2_with fail
        refine (arrive_not _ (hG.ext hb) hV hx (hL.ext RLeg.stable hb) hl ⟨by omega, by omega⟩ HA.out).mono ?_
        rintro e w1 ⟨rfl, hb1⟩
        have B0 := B0.ext hb1
        have B1 := B1.ext hb1
        have hb := ext_trans hb hb1
        go_wp2_with fail
        go_roundw
        case rel => exact ⟨d + 1, some (p, q), by omega, by omega, by go_num, HS, HN, HO, B0.alloc _, B1.alloc _, ext_alloc hb _⟩
        case measure => simp [intOf]; omega
    | some p =>
      obtain ⟨lg, to⟩ := p
      have HA := Lib.hid ha
      have hto := arrive_late hV hx ha
      obtain ⟨hto0, hto1, hto2, hto3⟩ := hto
      cases o with
      | none =>
        rw [fstep_new ha] at HN
        clear ha
        obtain ⟨rfl, rfl, rfl⟩ := HS.out
        go_wp2_with fail
        refine (arrive_yes _ (hG.ext hb) hV hx (hL.ext RLeg.stable hb) hl ⟨by omega, by omega⟩ HA.out).mono ?_
        rintro e w1 ⟨rfl, hb1⟩
        have B0 := B0.ext hb1
        have B1 := B1.ext hb1
        have hb := ext_trans hb hb1
        go_wp2_with fail
        go_roundw
        case rel => exact ⟨d + 1, some (d, to), by omega, by omega, by go_num, Lib.hid ⟨rfl, rfl, rfl⟩, HN, Lib.hid (fun p q h => by simp only [Option.some.injEq, Prod.mk.injEq] at h; omega), B0.alloc _, B1.alloc _, ext_alloc hb _⟩
        case measure => simp [intOf]; omega
      | some p =>
        obtain ⟨p, q⟩ := p
        obtain ⟨rfl, rfl, rfl⟩ := HS.out
        by_cases hq : to < q
        case pos =>
          rw [fstep_less ha hq] at HN
          have hqd : decide (to < q) = true := by simpa using hq
          clear ha
          go_wp2_with fail
          refine (arrive_yes _ (hG.ext hb) hV hx (hL.ext RLeg.stable hb) hl ⟨by omega, by omega⟩ HA.out).mono ?_
          rintro e w1 ⟨rfl, hb1⟩
          have B0 := B0.ext hb1
          have B1 := B1.ext hb1
          have hb := ext_trans hb hb1
          go_wp2_with fail
          go_roundw
          case rel => exact ⟨d + 1, some (d, to), by omega, by omega, by go_num, Lib.hid ⟨rfl, rfl, rfl⟩, HN, Lib.hid (fun p q h => by simp only [Option.some.injEq, Prod.mk.injEq] at h; omega), B0.alloc _, B1.alloc _, ext_alloc hb _⟩
          case measure => simp [intOf]; omega
        case neg =>
          rw [fstep_more ha hq] at HN
          have hqd : decide (to < q) = false := by simpa using hq
          clear ha
          go_wp2_with fail
          refine (arrive_yes _ (hG.ext hb) hV hx (hL.ext RLeg.stable hb) hl ⟨by omega, by omega⟩ HA.out).mono ?_
          rintro e w1 ⟨rfl, hb1⟩
          have B0 := B0.ext hb1
          have B1 := B1.ext hb1
          have hb := ext_trans hb hb1
          go_wp2_with fail
          go_roundw
          case rel => exact ⟨d + 1, some (p, q), by omega, by omega, by go_num, HS, HN, HO, B0.alloc _, B1.alloc _, ext_alloc hb _⟩
          case measure => simp [intOf]; omega

end Go.Proofs.YtdpibehpmghghaaGreat
