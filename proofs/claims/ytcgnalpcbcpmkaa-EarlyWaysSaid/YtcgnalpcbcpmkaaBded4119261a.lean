/- Several texts in one: FillSpec, LeastSpec, LineSpec, Own2. -/
import Derived.Deep.AppendLies
import Derived.Deep.RegionHeldLaw
import Derived.Test.YtcgnalpcbcpmkaaBd87da4791cb
import Derived.Test.YtcgnalpcbcpmkaaBd8fdecc6850
/- The least sums by vertex and time, told one after another: what stays true while they are filled in; no program in sight. -/
namespace Go.Proofs.Ytcgnalpcbcpmkaa

/-- From where, and by which hop, one comes. -/
structure OrigD where
  v : Int
  t : Int
  edge : Int
  depart : Int
  hops : Bool
abbrev Tab (α : Type) := Nat × Nat → Option α
def vT (B : Tab Int) (p : Nat × Nat) : Int := (B p).getD Never
def setF {α : Type} (F : Tab α) (p : Nat × Nat) (a : α) : Tab α := fun q => if q = p then some a else F q
def lessF {α : Type} (B : Tab Int) (F : Tab α) (p : Nat × Nat) (n : Int) (a : α) : Tab α := if n < vT B p then setF F p a else F
theorem setF_at {α : Type} (F : Tab α) (p : Nat × Nat) (a : α) : setF F p a p = some a := by simp [setF]
theorem setF_ne {α : Type} (F : Tab α) {p q : Nat × Nat} (a : α) (h : q ≠ p) : setF F p a q = F q := by simp [setF, h]
theorem lessF_ne {α : Type} (B : Tab Int) (F : Tab α) {p q : Nat × Nat} (n : Int) (a : α) (h : q ≠ p) : lessF B F p n a q = F q := by
  unfold lessF
  split
  · exact setF_ne _ _ h
  · rfl
theorem vT_less (B : Tab Int) (p : Nat × Nat) (n : Int) : vT (lessF B B p n n) = upd (vT B) p (min (vT B p) n) := by
  funext q
  by_cases h : q = p
  · subst h
    rw [upd_at]
    unfold lessF
    split
    · rw [vT, setF_at, Option.getD_some]; omega
    · omega
  · rw [upd_ne _ _ h, vT, lessF_ne _ _ _ _ h, vT]
theorem vT_some {B : Tab Int} {p : Nat × Nat} {n : Int} (h : B p = some n) : vT B p = n := by rw [vT, h]; rfl
theorem vT_none {B : Tab Int} {p : Nat × Nat} (h : B p = none) : vT B p = Never := by rw [vT, h]; rfl

/-- An origin says how one comes here with this sum. -/
def OrigOk (g : GraphD) (wt : LegD → Int) (B : Tab Int) (p : Nat × Nat) (n : Int) (o : OrigD) : Prop :=
  (o.hops = false ∧ o.v = p.1 ∧ o.t + 1 = p.2 ∧ 0 ≤ o.t ∧ o.edge = 0 ∧ o.depart = 0 ∧ B (p.1, o.t.toNat) = some n) ∨
  (o.hops = true ∧ ∃ (j : Nat) (x : EdgeD) (l : LegD) (m : Int), o.edge = j ∧ g.edges[j]? = some x ∧ o.v = x.a ∧ x.b = p.1 ∧ o.depart = o.t ∧ 0 ≤ o.t ∧ arrive g x o.t = some (l, (p.2 : Int)) ∧ B (x.a.toNat, o.t.toNat) = some m ∧ n = m + wt l)
structure FillInv (g : GraphD) (wt : LegD → Int) (v s : Int) (t u : Nat) (ww : Bool) (i : Nat) (B : Tab Int) (O : Tab OrigD) : Prop where
  above : Above (CostA g wt) (initC g v s) (vT B)
  start : aliveB g v s = true → B (v.toNat, s.toNat) = some 0
  told : ∀ p n, B p = some n → p.1 < g.lives.length ∧ s ≤ p.2 ∧ (p.2 : Int) < g.h ∧ aliveB g p.1 p.2 = true ∧ 0 ≤ n ∧ n ≤ 1000 * (p.2 : Int)
  orig : ∀ p n, B p = some n → p ≠ (v.toNat, s.toNat) → s < p.2 ∧ ∃ o, O p = some o ∧ OrigOk g wt B p n o ∧ o.t ≤ t
  waits : ∀ (w r : Nat), (r < t ∨ r = t ∧ (w < u ∨ w = u ∧ ww = true)) → w < g.lives.length → (r : Int) + 1 < g.h → aliveB g w ((r : Int) + 1) = true → vT B (w, r + 1) ≤ vT B (w, r)
  legs : ∀ (j r : Nat) x l to, g.edges[j]? = some x → arrive g x r = some (l, to) → (r < t ∨ r = t ∧ (x.a < u ∨ x.a = u ∧ j < i)) → vT B (x.b.toNat, to.toNat) ≤ vT B (x.a.toNat, r) + wt l

section
variable {g : GraphD} {wt : LegD → Int} {v s : Int} {t u i : Nat} {ww : Bool} {B : Tab Int} {O : Tab OrigD}
theorem FillInv.big (hV : Valid g) (h : FillInv g wt v s t u ww i B O) (p : Nat × Nat) : vT B p ≤ Never := by
  cases hp : B p with
  | none => rw [vT_none hp]; exact Int.le_refl _
  | some n =>
    have := h.told p n hp
    have := hV.h1
    rw [vT_some hp]
    simp only [Never]
    omega
/-- At the start. -/
theorem fill_start (hV : Valid g) (hw : Light g wt) (hv : 0 ≤ v ∧ v < g.lives.length) (hs : 0 ≤ s ∧ s < g.h) (ha : aliveB g v s = true) : FillInv g wt v s s.toNat 0 false 0 (setF (fun _ => none) (v.toNat, s.toNat) 0) (fun _ => none) := by
  have hval : vT (setF (fun _ => none) (v.toNat, s.toNat) 0) = initC g v s := by
    funext q
    unfold initC
    by_cases h : q = (v.toNat, s.toNat)
    · rw [vT, h, setF_at, if_pos ⟨ha, by simp only; omega, by simp only; omega⟩]; rfl
    · rw [vT, setF_ne _ _ h, if_neg]
      · rfl
      · rintro ⟨_, h1, h2⟩
        apply h
        apply Prod.ext
        · simp only; omega
        · simp only; omega
  have hsome : ∀ p n, setF (fun _ => none) (v.toNat, s.toNat) (0 : Int) p = some n → p = (v.toNat, s.toNat) ∧ n = 0 := fun p n hp => by
    by_cases h : p = (v.toNat, s.toNat)
    · subst h
      rw [setF_at] at hp
      exact ⟨rfl, by simpa using hp.symm⟩
    · rw [setF_ne _ _ h] at hp; simp at hp
  have hnone : ∀ (r w : Nat), r < s.toNat → vT (setF (fun _ => none) (v.toNat, s.toNat) 0) (w, r) = Never := fun r w hr => by
    rw [vT, setF_ne _ _ (fun e => by simp only [Prod.mk.injEq] at e; omega)]; rfl
  have hle : ∀ p, vT (setF (fun _ => none) (v.toNat, s.toNat) 0) p ≤ Never := fun p => by rw [hval]; exact initC_big p
  refine ⟨by rw [hval]; exact above_init, fun _ => setF_at _ _ _, fun p n hp => ?_, fun p n hp hne => ?_, fun w r hr h1 h2 h3 => ?_, fun j r x l to hx hr hc => ?_⟩
  · obtain ⟨rfl, rfl⟩ := hsome p n hp
    refine ⟨by simp only; omega, by simp only; omega, by simp only; omega, ?_, by omega, by simp only; omega⟩
    simp only
    rw [show ((v.toNat : Nat) : Int) = v by omega, show ((s.toNat : Nat) : Int) = s by omega]
    exact ha
  · exact absurd (hsome p n hp).1 hne
  · rw [hnone r w (by rcases hr with h | ⟨h, h4 | h4⟩ <;> simp at * <;> omega)]
    exact hle _
  · have ho := hV.edges x (List.mem_of_getElem? hx)
    have h0 := ho.a0
    rw [hnone r x.a.toNat (by omega)]
    have := hw x (List.mem_of_getElem? hx) l (arrive_some hr).1
    have := hle (x.b.toNat, to.toNat)
    omega
theorem fill_start0 (hw : Light g wt) (ha : aliveB g v s = false) : FillInv g wt v s s.toNat 0 false 0 (fun _ => none) (fun _ => none) := by
  have hval : vT (fun _ => none) = initC g v s := by
    funext q
    unfold initC
    rw [if_neg (by rw [ha]; simp)]; rfl
  refine ⟨by rw [hval]; exact above_init, fun h => by rw [ha] at h; simp at h, fun p n hp => by simp at hp, fun p n hp => by simp at hp, fun w r hr h1 h2 h3 => Int.le_refl _, fun j r x l to hx hr hc => ?_⟩
  have := hw x (List.mem_of_getElem? hx) l (arrive_some hr).1
  show Never ≤ Never + wt l
  omega
theorem FillInv.put (h : FillInv g wt v s t u ww i B O) {m : Int} (hm : B (u, t) = some m) {p : Nat × Nat} {n : Int} {f : Int → Int} (hy : CostA g wt ⟨(u, t), p, f⟩) (hn : f m = n) (hp1 : p.1 < g.lives.length) (hp2 : t < p.2) (hp3 : (p.2 : Int) < g.h)
    (hp4 : aliveB g p.1 p.2 = true) (h0 : 0 ≤ n) (h1 : n ≤ 1000 * (p.2 : Int)) {o : OrigD} (ho : OrigOk g wt B p n o) (hot : o.t ≤ t) :
    FillInv g wt v s t u ww i (lessF B B p n n) (lessF B O p n o) ∧ vT (lessF B B p n n) p ≤ n ∧ ∀ q : Nat × Nat, q.2 ≤ t → lessF B B p n n q = B q := by
  have hk : ∀ q : Nat × Nat, q.2 ≤ t → lessF B B p n n q = B q := fun q hq => lessF_ne _ _ _ _ (fun e => by rw [e] at hq; omega)
  have hkv : ∀ q : Nat × Nat, q.2 ≤ t → vT (lessF B B p n n) q = vT B q := fun q hq => by rw [vT, vT, hk q hq]
  have hle : ∀ q, vT (lessF B B p n n) q ≤ vT B q := fun q => by
    rw [vT_less]
    by_cases e : q = p
    · rw [e, upd_at]; omega
    · rw [upd_ne _ _ e]; exact Int.le_refl _
  have hst : s ≤ t := (h.told _ _ hm).2.1
  have hor : ∀ q n' o', OrigOk g wt B q n' o' → o'.t ≤ t → OrigOk g wt (lessF B B p n n) q n' o' := fun q n' o' hq ht => by
    rcases hq with ⟨a1, a2, a3, a4, a5, a6, a7⟩ | ⟨a1, j, x, l, m', a2, a3, a4, a5, a6, a7, a8, a9, a10⟩
    · exact .inl ⟨a1, a2, a3, a4, a5, a6, by rw [hk _ (by simp only; omega)]; exact a7⟩
    · exact .inr ⟨a1, j, x, l, m', a2, a3, a4, a5, a6, a7, a8, by rw [hk _ (by simp only; omega)]; exact a9, a10⟩
  refine ⟨⟨?_, fun ha => ?_, fun q n' hq => ?_, fun q n' hq hne => ?_, fun w r hr k1 k2 k3 => ?_, fun j r x l to hx hr hc => ?_⟩, ?_, hk⟩
  · rw [vT_less]
    exact Above.upd h.above h.above hy (cost_mono _ hy) (by simp only; rw [vT_some hm, hn]; exact Int.le_refl _)
  · rw [hk _ (by simp only; omega)]; exact h.start ha
  · by_cases e : q = p
    · subst e
      unfold lessF at hq
      split at hq
      · rw [setF_at] at hq
        obtain rfl : n = n' := by simpa using hq
        exact ⟨hp1, by omega, hp3, hp4, h0, h1⟩
      · exact h.told _ _ hq
    · rw [lessF_ne _ _ _ _ e] at hq
      exact h.told _ _ hq
  · by_cases e : q = p
    · subst e
      by_cases hlt : n < vT B q
      · have e1 : lessF B B q n n q = some n := by unfold lessF; rw [if_pos hlt, setF_at]
        have e2 : lessF B O q n o q = some o := by unfold lessF; rw [if_pos hlt, setF_at]
        rw [e1] at hq
        obtain rfl : n = n' := by simpa using hq
        exact ⟨by omega, o, e2, hor _ _ _ ho hot, hot⟩
      · have e1 : lessF B B q n n q = B q := by unfold lessF; rw [if_neg hlt]
        have e2 : lessF B O q n o q = O q := by unfold lessF; rw [if_neg hlt]
        rw [e1] at hq
        obtain ⟨k1, o', k2, k3, k4⟩ := h.orig _ _ hq hne
        exact ⟨k1, o', by rw [e2]; exact k2, hor _ _ _ k3 k4, k4⟩
    · rw [lessF_ne _ _ _ _ e] at hq
      obtain ⟨k1, o', k2, k3, k4⟩ := h.orig _ _ hq hne
      exact ⟨k1, o', by rw [lessF_ne _ _ _ _ e]; exact k2, hor _ _ _ k3 k4, k4⟩
  · have := h.waits w r hr k1 k2 k3
    rw [hkv (w, r) (by simp only; omega)]
    exact Int.le_trans (hle _) this
  · have := h.legs j r x l to hx hr hc
    rw [hkv (x.a.toNat, r) (by simp only; omega)]
    exact Int.le_trans (hle _) this
  · rw [vT_less, upd_at]; omega
/-- A vertex at which one isn't then. -/
theorem FillInv.skip (hV : Valid g) (hw : Light g wt) (h : FillInv g wt v s t u false 0 B O) (hn : B (u, t) = none) : FillInv g wt v s t (u + 1) false 0 B O := by
  refine ⟨h.above, h.start, h.told, h.orig, fun w r hr k1 k2 k3 => ?_, fun j r x l to hx hr hc => ?_⟩
  · by_cases e : r = t ∧ w = u
    · rw [e.1, e.2, vT_none hn]; exact h.big hV _
    · exact h.waits w r (by rcases hr with hr | ⟨hr, hr2 | hr2⟩ <;> simp at * <;> omega) k1 k2 k3
  · have h2 := hw x (List.mem_of_getElem? hx) l (arrive_some hr).1
    have h0 := (hV.edges x (List.mem_of_getElem? hx)).a0
    by_cases e : r = t ∧ x.a = u
    · rw [e.1, show x.a.toNat = u by omega, vT_none hn]; have := h.big hV (x.b.toNat, to.toNat); omega
    · exact h.legs j r x l to hx hr (by omega)
theorem FillInv.wait (h : FillInv g wt v s t u false 0 B O) (hd : (t : Int) + 1 < g.h → aliveB g u ((t : Int) + 1) = true → vT B (u, t + 1) ≤ vT B (u, t)) : FillInv g wt v s t u true 0 B O := by
  refine ⟨h.above, h.start, h.told, h.orig, fun w r hr k1 k2 k3 => ?_, h.legs⟩
  by_cases e : r = t ∧ w = u
  · obtain ⟨rfl, rfl⟩ := e; exact hd k2 k3
  · exact h.waits w r (by rcases hr with hr | ⟨hr, hr2 | hr2⟩ <;> simp at * <;> omega) k1 k2 k3
theorem FillInv.edge (h : FillInv g wt v s t u true i B O) {x : EdgeD} (hx : g.edges[i]? = some x) (hd : x.a = u → ∀ l to, arrive g x t = some (l, to) → vT B (x.b.toNat, to.toNat) ≤ vT B (u, t) + wt l) : FillInv g wt v s t u true (i + 1) B O := by
  refine ⟨h.above, h.start, h.told, h.orig, h.waits, fun j r y l to hy hr hc => ?_⟩
  by_cases e : r = t ∧ y.a = u ∧ j = i
  · obtain ⟨rfl, e2, rfl⟩ := e
    rw [hx] at hy
    obtain rfl : x = y := by simpa using hy
    have := hd e2 l to hr
    rw [show x.a.toNat = u by omega]
    exact this
  · exact h.legs j r y l to hy hr (by omega)
theorem FillInv.nextV (h : FillInv g wt v s t u true g.edges.length B O) : FillInv g wt v s t (u + 1) false 0 B O := by
  refine ⟨h.above, h.start, h.told, h.orig, fun w r hr k1 k2 k3 => ?_, fun j r x l to hx hr hc => ?_⟩
  · exact h.waits w r (by rcases hr with hr | ⟨hr, hr2 | hr2⟩ <;> simp at * <;> omega) k1 k2 k3
  · have := (List.getElem?_eq_some_iff.1 hx).1
    exact h.legs j r x l to hx hr (by omega)
theorem FillInv.nextT (hV : Valid g) (h : FillInv g wt v s t g.lives.length false 0 B O) : FillInv g wt v s (t + 1) 0 false 0 B O := by
  refine ⟨h.above, h.start, h.told, fun p n hp hne => ?_, fun w r hr k1 k2 k3 => ?_, fun j r x l to hx hr hc => ?_⟩
  · obtain ⟨k1, o, k2, k3, k4⟩ := h.orig p n hp hne
    exact ⟨k1, o, k2, k3, by omega⟩
  · exact h.waits w r (by rcases hr with hr | ⟨hr, hr2 | hr2⟩ <;> simp at * <;> omega) k1 k2 k3
  · have h0 := (hV.edges x (List.mem_of_getElem? hx)).a0
    have h1 := (hV.edges x (List.mem_of_getElem? hx)).a1
    exact h.legs j r x l to hx hr (by omega)
/-- All is filled in. -/
theorem FillInv.ends (hV : Valid g) (hv : 0 ≤ v ∧ v < g.lives.length) (hs : 0 ≤ s) (h : FillInv g wt v s t 0 false 0 B O) (ht : g.h ≤ t) : CostL g wt v s (vT B) := by
  refine ⟨⟨fun p => ?_, ?_⟩, h.above⟩
  · unfold initC
    split
    · rename_i hp
      have e : p = (v.toNat, s.toNat) := Prod.ext (by simp only; omega) (by simp only; omega)
      rw [e, vT_some (h.start hp.1)]; exact Int.le_refl _
    · exact h.big hV p
  · rintro y (⟨w, r, rfl, h1, h2, h3⟩ | ⟨x, l, to, r, hx, ha, rfl⟩)
    · exact h.waits w r (.inl (by omega)) h1 h2 h3
    · obtain ⟨j, hj⟩ := List.getElem?_of_mem hx
      have := arrive_late hV (hV.edges x hx) ha
      exact h.legs j r x l to hj ha (.inl (by omega))
end
end Go.Proofs.Ytcgnalpcbcpmkaa
/- The least sum of each vertex; no program in sight. -/
namespace Go.Proofs.Ytcgnalpcbcpmkaa

/-- The least of the first k sums of a vertex, and when it is told first. -/
def leastN (d : Nat × Nat → Int) (v : Nat) : Nat → Int × Int
  | 0 => (Never, 0)
  | k + 1 => if d (v, k) < (leastN d v k).1 then (d (v, k), (k : Int)) else leastN d v k
theorem leastN_le (d : Nat × Nat → Int) (v : Nat) : ∀ k, (leastN d v k).1 ≤ Never
  | 0 => Int.le_refl _
  | k + 1 => by
    have ih := leastN_le d v k
    rw [leastN]
    split
    · simp only; omega
    · exact ih
theorem leastN_all {d : Nat × Nat → Int} {v : Nat} : ∀ {k r : Nat}, r < k → (leastN d v k).1 ≤ d (v, r)
  | 0, r, h => by omega
  | k + 1, r, h => by
    rw [leastN]
    by_cases e : r = k
    · subst e
      split
      · exact Int.le_refl _
      · omega
    · have ih := leastN_all (d := d) (v := v) (show r < k by omega)
      split
      · simp only; omega
      · exact ih
theorem leastN_at {d : Nat × Nat → Int} {v : Nat} : ∀ {k : Nat}, (leastN d v k).1 < Never → ∃ r : Nat, r < k ∧ (leastN d v k).2 = r ∧ d (v, r) = (leastN d v k).1
  | 0, h => by simp [leastN] at h
  | k + 1, h => by
    rw [leastN] at h ⊢
    by_cases c : d (v, k) < (leastN d v k).1
    · rw [if_pos c]
      exact ⟨k, by omega, rfl, rfl⟩
    · rw [if_neg c] at h ⊢
      obtain ⟨r, h1, h2, h3⟩ := leastN_at h
      exact ⟨r, by omega, h2, h3⟩
theorem leastN_range (d : Nat × Nat → Int) (v : Nat) : ∀ k, 0 ≤ (leastN d v k).2 ∧ (leastN d v k).2 ≤ k
  | 0 => by simp [leastN]
  | k + 1 => by
    have ih := leastN_range d v k
    rw [leastN]
    split
    · simp only; omega
    · omega
/-- The least sums of the vertices. -/
def leastL (g : GraphD) (d : Nat × Nat → Int) : List Int := (List.range g.lives.length).map fun u => (leastN d u g.h.toNat).1
/-- The list tells the least sums from a place. -/
def CostsL (g : GraphD) (wt : LegD → Int) (v s : Int) (l : List Int) : Prop := ∃ d, CostL g wt v s d ∧ l = leastL g d
theorem CostsL.eq {g : GraphD} {wt : LegD → Int} {v s : Int} {l r : List Int} (h : CostsL g wt v s l) (k : CostsL g wt v s r) : l = r := by
  obtain ⟨d, h1, rfl⟩ := h
  obtain ⟨e, k1, rfl⟩ := k
  rw [h1.eq k1]
def CostsOut (g : GraphD) (wt : LegD → Int) (v s : Int) (l : List Int) : Prop := if placeErr g v s = 0 then CostsL g wt v s l else l = []
theorem leastL_get {g : GraphD} {d : Nat × Nat → Int} {k : Nat} (h : k < g.lives.length) : (leastL g d)[k]? = some (leastN d k g.h.toNat).1 := by simp [leastL, h]
theorem leastL_len (g : GraphD) (d : Nat × Nat → Int) : (leastL g d).length = g.lives.length := by simp [leastL]
end Go.Proofs.Ytcgnalpcbcpmkaa
/- The line's earliest times, costs, and its way; no program in sight. -/
namespace Go.Proofs.Ytcgnalpcbcpmkaa

def lineG : GraphD := ⟨12, [⟨0, 12⟩, ⟨0, 12⟩, ⟨1, 12⟩], [⟨0, 1, [⟨0, 3, 2, 5⟩, ⟨3, 6, 1, 1⟩]⟩, ⟨1, 2, [⟨4, 5, 3, 2⟩]⟩]⟩
def lineE0 : EdgeD := ⟨0, 1, [⟨0, 3, 2, 5⟩, ⟨3, 6, 1, 1⟩]⟩
def lineE1 : EdgeD := ⟨1, 2, [⟨4, 5, 3, 2⟩]⟩
theorem line_edges : lineG.edges = [lineE0, lineE1] := rfl
theorem line_valid : Valid lineG := valid_of (by decide)
theorem line_early {l : List Int} (h : EarlyL lineG 0 0 l) : l = [0, 2, 7] := by
  have hV := line_valid
  have hx := hV.edges lineE0 (by simp [line_edges])
  have hy := hV.edges lineE1 (by simp [line_edges])
  refine h.eq ⟨rfl, ⟨fun i => ?_, ?_⟩, fun e he i => ?_⟩
  · match i with
    | 0 => decide
    | 1 => decide
    | 2 => decide
    | n + 3 => rw [gi_far (by simp), startE_far (by simp [lineG])]; exact Int.le_refl _
  · intro x hx
    obtain ⟨y, hy, rfl⟩ := mem_arcsE.1 hx
    rw [line_edges] at hy
    simp only [List.mem_cons, List.not_mem_nil, or_false] at hy
    rcases hy with rfl | rfl
    · decide
    · decide
  · have h0 := he.1 0
    have h1 := he.2 (arcE lineG lineE0) (mem_arcsE.2 ⟨_, by simp [line_edges], rfl⟩)
    have h3 := he.2 (arcE lineG lineE1) (mem_arcsE.2 ⟨_, by simp [line_edges], rfl⟩)
    have e0 : gi (startE lineG 0 0) 0 = 0 := by decide
    rw [e0] at h0
    have h2 := earlyF_mono hV hx (e 0) 0 h0
    have e1 : earlyF lineG lineE0 0 = 2 := by decide
    rw [e1] at h2
    have k1 : e 1 ≤ 2 := Int.le_trans h1 h2
    have h4 := earlyF_mono hV hy (e 1) 2 k1
    have e2 : earlyF lineG lineE1 2 = 7 := by decide
    rw [e2] at h4
    have k2 : e 2 ≤ 7 := Int.le_trans h3 h4
    match i with
    | 0 => show e 0 ≤ 0; omega
    | 1 => show e 1 ≤ 2; exact k1
    | 2 => show e 2 ≤ 7; exact k2
    | n + 3 =>
      have := he.1 (n + 3)
      rw [startE_far (by simp [lineG])] at this
      rw [gi_far (by simp)]
      exact this
theorem least_eq {d : Nat × Nat → Int} {v k r : Nat} {m : Int} (hr : r < k) (h1 : d (v, r) ≤ m) (h2 : ∀ s, m ≤ d (v, s)) (hm : m < Never) : (leastN d v k).1 = m := by
  have h3 := leastN_all (d := d) (v := v) hr
  obtain ⟨s, _, _, h4⟩ := leastN_at (d := d) (v := v) (k := k) (by omega)
  have := h2 s
  omega
theorem line_costs {l : List Int} (h : CostsL lineG lCost 0 0 l) : l = [0, 1, 3] := by
  obtain ⟨d, hd, rfl⟩ := h
  have low : ∀ p : Nat × Nat, (if p.1 = 0 then (0 : Int) else if p.1 = 1 then 1 else if p.1 = 2 then 3 else 0) ≤ d p := hd.2 _ ⟨fun p => ?_, ?_⟩
  · have hw : ∀ s : Nat, (s : Int) + 1 < 12 → d (0, s + 1) ≤ d (0, s) := fun s hs => hd.1.2 _ (.inl ⟨0, s, rfl, by decide, hs, by
      unfold aliveB
      show decide ((0 : Int) ≤ (s : Int) + 1 ∧ (s : Int) + 1 < 12) = true
      simp; omega⟩)
    have c0 : d (0, 0) ≤ 0 := by have := hd.1.1 (0, 0); simpa [initC, lineG, aliveB] using this
    have c1 : d (0, 1) ≤ d (0, 0) := hw 0 (by omega)
    have c2 : d (0, 2) ≤ d (0, 1) := hw 1 (by omega)
    have c3 : d (0, 3) ≤ d (0, 2) := hw 2 (by omega)
    have c4 : d (1, 4) ≤ d (0, 3) + 1 := hd.1.2 _ (.inr ⟨lineE0, ⟨3, 6, 1, 1⟩, 4, 3, by simp [line_edges], by decide, rfl⟩)
    have c5 : d (2, 7) ≤ d (1, 4) + 2 := hd.1.2 _ (.inr ⟨lineE1, ⟨4, 5, 3, 2⟩, 7, 4, by simp [line_edges], by decide, rfl⟩)
    have e0 := least_eq (d := d) (v := 0) (k := 12) (r := 0) (m := 0) (by omega) c0 (fun s => by simpa using low (0, s)) (by decide)
    have e1 := least_eq (d := d) (v := 1) (k := 12) (r := 4) (m := 1) (by omega) (by omega) (fun s => by simpa using low (1, s)) (by decide)
    have e2 := least_eq (d := d) (v := 2) (k := 12) (r := 7) (m := 3) (by omega) (by omega) (fun s => by simpa using low (2, s)) (by decide)
    show [(leastN d 0 12).1, (leastN d 1 12).1, (leastN d 2 12).1] = _
    rw [e0, e1, e2]
  · unfold initC
    show (if p.1 = 0 then (0 : Int) else if p.1 = 1 then 1 else if p.1 = 2 then 3 else 0) ≤ _
    by_cases h0 : p.1 = 0
    · rw [if_pos h0]; split <;> simp [Never]
    · have hn : ¬ (aliveB lineG 0 0 = true ∧ (p.1 : Int) = 0 ∧ (p.2 : Int) = 0) := fun h => h0 (by have := h.2.1; omega)
      rw [if_neg h0, if_neg hn]
      split
      · simp [Never]
      · split <;> simp [Never]
  · rintro y (⟨v, t, rfl, _, _, _⟩ | ⟨x, lg, te, t, hx, ha, rfl⟩)
    · exact Int.le_refl _
    · rw [line_edges] at hx
      have hs := arrive_some ha
      simp only [List.mem_cons, List.not_mem_nil, or_false] at hx
      rcases hx with rfl | rfl
      · have := hs.1
        simp only [lineE0, List.mem_cons, List.not_mem_nil, or_false] at this
        rcases this with rfl | rfl <;> simp [lineE0, lCost]
      · have := hs.1
        simp only [lineE1, List.mem_cons, List.not_mem_nil, or_false] at this
        subst this
        simp [lineE1, lCost]
theorem line_hop {v t b te k : Int} {h : HopD} (hh : hopTo lineG v t h = some (b, te, k)) : (h.edge = 0 ∧ v = 0 ∧ b = 1) ∨ (h.edge = 1 ∧ v = 1 ∧ b = 2 ∧ h.depart = 4) := by
  obtain ⟨x, lg, h0, hx, h1, h2, h3, h4, h5⟩ := hopTo_spec hh
  rw [line_edges] at hx
  have hl := (List.getElem?_eq_some_iff.1 hx).1
  simp only [List.length_cons, List.length_nil] at hl
  by_cases e : h.edge = 0
  · rw [e] at hx
    obtain rfl : lineE0 = x := by simpa using hx
    exact .inl ⟨e, h1.symm, h4⟩
  · have e1 : h.edge = 1 := by omega
    rw [e1] at hx
    obtain rfl : lineE1 = x := by simpa using hx
    have hs := arrive_some h3
    have := hs.1
    simp only [lineE1, List.mem_cons, List.not_mem_nil, or_false] at this
    subst this
    exact .inr ⟨e1, h1.symm, h4, by simp only at hs; omega⟩
theorem line_way {a : List Int} {hops : List HopD} (ha : EarlyL lineG 0 0 a) (h : WayOk lineG 0 0 2 a hops) : hops = [⟨0, 0⟩, ⟨1, 4⟩] := by
  obtain rfl := line_early ha
  obtain ⟨c, hc⟩ := h.go
  match hops, h, hc with
  | [], _, hc => simp [goL] at hc
  | [y], h, hc =>
    exfalso
    cases hh : hopTo lineG 0 0 y with
    | none => rw [goL_none hh] at hc; simp at hc
    | some p =>
      obtain ⟨b, te, k⟩ := p
      rw [goL_some hh] at hc
      simp only [goL, Option.some.injEq, Prod.mk.injEq] at hc
      rcases line_hop hh with h1 | h1 <;> omega
  | y :: z :: r, h, hc =>
    cases hh : hopTo lineG 0 0 y with
    | none => rw [goL_none hh] at hc; simp at hc
    | some p =>
      obtain ⟨b, te, k⟩ := p
      rw [goL_some hh] at hc
      have h1 : y.edge = 0 ∧ b = 1 := by rcases line_hop hh with h1 | h1 <;> omega
      obtain ⟨h1, rfl⟩ := h1
      cases hh2 : hopTo lineG 1 te z with
      | none => rw [goL_none hh2] at hc; simp at hc
      | some q =>
        obtain ⟨b2, te2, k2⟩ := q
        rw [goL_some hh2] at hc
        have h2 : z.edge = 1 ∧ b2 = 2 ∧ z.depart = 4 := by rcases line_hop hh2 with h2 | h2 <;> omega
        obtain ⟨h2, rfl, h3⟩ := h2
        have hr : r = [] := by
          cases r with
          | nil => rfl
          | cons u r =>
            exfalso
            cases hh3 : hopTo lineG 2 te2 u with
            | none => rw [goL_none hh3] at hc; simp at hc
            | some q => obtain ⟨b3, te3, k3⟩ := q; rcases line_hop hh3 with h2 | h2 <;> omega
        subst hr
        have hy : y.depart = 0 := by
          obtain ⟨x, lg, k1, k3⟩ := h.tight y (by simp)
          rw [line_edges, h1] at k1
          obtain rfl : lineE0 = x := by simpa using k1
          have hs := arrive_some k3
          have h5 := hs.2.2.2.1
          have h4 := hs.1
          have e7 : gi [0, 2, 7] lineE0.b.toNat = 2 := rfl
          rw [e7] at h5
          simp only [lineE0, List.mem_cons, List.not_mem_nil, or_false] at h4
          rcases h4 with rfl | rfl <;> (simp only at hs h5; omega)
        obtain ⟨ye, yd⟩ := y
        obtain ⟨ze, zd⟩ := z
        simp only at h1 h2 h3 hy
        subst h1 h2 h3 hy
        rfl
end Go.Proofs.Ytcgnalpcbcpmkaa
/- More on lists that a call owns: an append of several elements, a list that a literal makes. -/
namespace Go.Proofs.Ytcgnalpcbcpmkaa
open Go.RowKit

/-- A block of another kind than a list's rows is not the list's. -/
theorem Own.other {α : Type} {enc : α → List Value} {sz : Nat} {w : World} {base : Nat} {e t : TypeId} {v : Value} {l : List α} {b : Nat} {cs : Array Value} (h : Own enc sz w base e v l) (hb : Blk w b t cs) (ht : t ≠ e) : some b ≠ v.ownBlock := by
  rcases h.2 with ⟨rfl, _⟩ | ⟨g, cap, cur, rfl, _, hh, _⟩
  · simp [Value.ownBlock]
  · intro hbg
    simp only [Value.ownBlock, Option.some.injEq] at hbg
    subst hbg
    unfold Blk at hb
    rw [hh] at hb
    cases hb
    exact ht rfl
theorem wpList_append_els {P : Program} {ops : Array Oper} {rest : List Oper} {o : Oper} {a : Act} {Q : Exit → Act → World → Prop} {w0 : World} {α : Type} {enc : α → List Value} (hgd : o.guard = none) (s x : Operand) (t : TypeId)
    (ho : o.op = .call { callee := .builtin .append, args := #[s, x], argTypes := #[t, t] })
    (base : Nat) (e : TypeId) (i : TypeInfo) (z : Value) (size bytes : Nat) (ht : P.underlying t = some (.slice e)) (hi : P.info? e = some i) (hz : i.zero = some z)
    (hsize : i.size = size) (hby : i.bytes = bytes) (hzs : z.cells.size = size) (hsz : 0 < size)
    (v : Value) (l : List α) (ys : List α) (m : Nat) (hm : ys.length = m) (hs : a.eval s = v) (hown : Own enc size w0 base e v l) (cs : Array Value) (hcy : cs.toList = ys.flatMap enc) (k : Nat) (hk : k = w0.heap.size) (hx : a.eval x = .slice (some ⟨k, 0, none⟩) m m) (hcs : cs.size = m * size)
    (h1 : ∀ u ∈ cs.toList, u.oneCell' = true) (h63 : l.length + m ≤ 1000000) (hby2 : bytes ≤ 1000) (hbase : base ≤ w0.heap.size)
    (h : ∀ v' w', Own enc size w' base e v' (l ++ ys) → Below base w0 w' → (∀ b t' cs', Blk w0 b t' cs' → t' ≠ e → Blk w' b t' cs') → wpList P ops Q rest (a.put o.dst v') w') : wpList P ops Q (o :: rest) a (w0.alloc (.cells cs e)) := by
  subst hk
  have hb2 : (l.length + m) * bytes ≤ 140737488355328 := Nat.le_trans (Nat.mul_le_mul h63 hby2) (by decide)
  refine wpList_append_own _ hgd s x t ho base e i z size bytes ht hi hz hsize hby hzs hsz v l.length (l.flatMap enc) hs (World.ownsRow.alloc hown _) ⟨w0.heap.size, 0, none⟩ m m cs.toList hx (by simp [hcs])
    ?_ h1 (by unfold maxLen; omega) hb2 (by simp; omega) ?_
  · intro j u hu
    rw [Go.WideShapes.add_plain, cell_of_row _ _ _ cs e (0, 0) (heap_alloc_new w0 _)]
    simpa using hu
  · intro v' w' h2 h3 _
    refine h v' w' ?_ ?_ fun b t' cs' hB ht' => (hB.alloc _).grown h3 (hown.other hB ht')
    · show w'.ownsRow base e size v' (l ++ ys).length ((l ++ ys).flatMap enc)
      rw [List.flatMap_append, List.length_append, hm]
      simpa [hcy] using h2
    · have hb : Below base w0 (w0.alloc (.cells cs e)) := (Below.refl _ _).alloc hbase _
      exact hb.grown h3 (by simp; omega) fun k hk => (World.ownsRow.lt hown k hk).1
/-- What a literal makes is owned. -/
theorem Own.lit {α : Type} {enc : α → List Value} {sz : Nat} {w : World} {base : Nat} {e : TypeId} {cs : Array Value} {l : List α} {n m : Nat} (hn : n = w.heap.size) (hb : base ≤ n) (hl : l.length = m) (hcs : cs.toList = l.flatMap enc) (hsz : cs.size = m * sz) (hm : m ≤ maxLen) :
    Own enc sz (w.alloc (.cells cs e)) base e (.slice (some ⟨n, 0, none⟩) m m) l := by
  subst hn
  refine ⟨by rw [← hcs, hl]; simpa using hsz, .inr ⟨w.heap.size, m, cs, by rw [hl], hb, heap_alloc_new w _, by omega, hm, hsz, ?_⟩⟩
  rw [← hcs, hl, List.take_of_length_le]
  simp [hsz]
theorem below_drew {B : Nat} {a w : World} (h : Below B a w) : Below B a w.drew := ⟨h.os, h.tape, h.output, h.size, h.block⟩
theorem cell_keepB {B : Nat} {w w' : World} {p : Addr} {v : Value} (hb : Below B w w') (hp : p.block < B) (h : w.cell? p = some v) : w'.cell? p = some v := (hb.cell hp).trans h
theorem keepB4 {B : Nat} {w w' : World} {p0 p1 p2 p3 : Addr} {v0 v1 v2 v3 : Value} (hb : Below B w w') (h0 : p0.block < B) (h1 : p1.block < B) (h2 : p2.block < B) (h3 : p3.block < B)
    (h : w.cell? p0 = some v0 ∧ w.cell? p1 = some v1 ∧ w.cell? p2 = some v2 ∧ w.cell? p3 = some v3) : w'.cell? p0 = some v0 ∧ w'.cell? p1 = some v1 ∧ w'.cell? p2 = some v2 ∧ w'.cell? p3 = some v3 := by
  obtain ⟨k0, k1, k2, k3⟩ := h
  exact ⟨cell_keepB hb h0 k0, cell_keepB hb h1 k1, cell_keepB hb h2 k2, cell_keepB hb h3 k3⟩
theorem keepB5 {B : Nat} {w w' : World} {p0 p1 p2 p3 p4 : Addr} {v0 v1 v2 v3 v4 : Value} (hb : Below B w w') (h0 : p0.block < B) (h1 : p1.block < B) (h2 : p2.block < B) (h3 : p3.block < B) (h4 : p4.block < B)
    (h : w.cell? p0 = some v0 ∧ w.cell? p1 = some v1 ∧ w.cell? p2 = some v2 ∧ w.cell? p3 = some v3 ∧ w.cell? p4 = some v4) : w'.cell? p0 = some v0 ∧ w'.cell? p1 = some v1 ∧ w'.cell? p2 = some v2 ∧ w'.cell? p3 = some v3 ∧ w'.cell? p4 = some v4 := by
  obtain ⟨k0, k1, k2, k3, k4⟩ := h
  exact ⟨cell_keepB hb h0 k0, cell_keepB hb h1 k1, cell_keepB hb h2 k2, cell_keepB hb h3 k3, cell_keepB hb h4 k4⟩
/-- An append of several elements at a step of a region that draws its order. -/
theorem step_append_els {P : Program} {w : World} {ops : Array Oper} {o : Oper} {a : Act} {K : Act → World → Prop} {Q : Exit → Act → World → Prop} {E : Prop} {α : Type} {enc : α → List Value} (hgd : o.guard = none) (s x : Operand) (t : TypeId)
    (ho : o.op = .call { callee := .builtin .append, args := #[s, x], argTypes := #[t, t] })
    (base : Nat) (e : TypeId) (i : TypeInfo) (z : Value) (size bytes : Nat) (ht : P.underlying t = some (.slice e)) (hi : P.info? e = some i) (hz : i.zero = some z)
    (hsize : i.size = size) (hby : i.bytes = bytes) (hzs : z.cells.size = size) (hsz : 0 < size)
    (v : Value) (l : List α) (ys : List α) (m : Nat) (hm : ys.length = m) (hm0 : 0 < m) (hs : a.eval s = v) (hown : Own enc size w base e v l) (cs : Array Value) (hcy : cs.toList = ys.flatMap enc) (k : Nat) (hk : Blk w k e cs) (hx : a.eval x = .slice (some ⟨k, 0, none⟩) m m) (hcs : cs.size = m * size)
    (h1 : ∀ u ∈ cs.toList, u.oneCell' = true) (h63 : l.length + m ≤ 1000000) (hby2 : bytes ≤ 1000) (hbase : base ≤ w.heap.size)
    (h : ∀ v' w', Own enc size w' base e v' (l ++ ys) → Below base w w' → (∀ b t' cs', Blk w b t' cs' → t' ≠ e → Blk w' b t' cs') → K (a.put o.dst v') w') :
    if Region.wanted o (yielded ops a.tmps) = true then Oper.wp P o a w K Q else E := by
  have hb2 : (l.length + m) * bytes ≤ 140737488355328 := Nat.le_trans (Nat.mul_le_mul h63 hby2) (by decide)
  refine step_append_lies w hgd s x t ho base e i z size bytes ht hi hz hsize hby hzs hsz v l.length (l.flatMap enc) hs hown ⟨k, 0, none⟩ m m cs.toList hx (by simp [hcs])
    (World.news_of_block hk) h1 hm0 (by unfold maxLen; omega) hb2 hbase _ rfl ?_
  intro g cap w' h2 h3 _ _
  refine h _ w' ?_ ?_ fun b t' cs' hB ht' => hB.grown h3 (hown.other hB ht')
  · show w'.ownsRow base e size _ (l ++ ys).length ((l ++ ys).flatMap enc)
    rw [List.flatMap_append, List.length_append, hm]
    simpa [hcy] using h2
  · exact (Below.refl base w).grown h3 hbase fun k hk => (World.ownsRow.lt hown k hk).1
end Go.Proofs.Ytcgnalpcbcpmkaa
