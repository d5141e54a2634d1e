/- Several texts in one: HopRow, WaySpec, CostSpec. -/
import Derived.Test.YtdpibehpmghghaaGreatBd127ac6da48
import Derived.Test.YtdpibehpmghghaaGreatBdbaf55b473b
import Derived.Test.YtdpibehpmghghaaGreatBd8ba506424c
import Derived.Test.YtdpibehpmghghaaGreatBd0780f597cc
/- Blocks that hold a list of hops: how they are made, read, written; which hop one has come by. -/
namespace Go.Proofs.YtdpibehpmghghaaGreat
open Go.RowKit

def HRow (w : World) (b : Nat) (hs : List HopD) : Prop := ∃ cs, Blk w b 95 cs ∧ ∀ k h, hs[k]? = some h → cs[k * 2]? = some (.int .i64 h.edge) ∧ cs[k * 2 + 1]? = some (.int .i64 h.depart)
theorem made_two (z : Value) (n : Nat) : madeCells #[z, z] n = (List.replicate n z).toArray := by
  apply Array.toList_inj.1
  apply List.ext_getElem?
  intro j
  by_cases hj : j < n
  · have h2 : j % 2 = 0 ∨ j % 2 = 1 := by omega
    rcases h2 with h2 | h2 <;> simp [madeCells, hj, h2]
  · simp [madeCells, hj]
section
variable {w w' : World} {b : Nat} {hs : List HopD}
theorem HRow.made {n : Nat} (hb : b = w.heap.size) : HRow (w.alloc (.cells (madeCells #[.int .i64 0, .int .i64 0] (n * 2)) 95)) b (List.replicate n ⟨0, 0⟩) := by
  refine ⟨_, Blk.new_ hb, fun k h hk => ?_⟩
  have hlt := lt_of_get hk
  simp only [List.length_replicate] at hlt
  rw [List.getElem?_replicate, if_pos hlt] at hk
  obtain rfl : (⟨0, 0⟩ : HopD) = h := by simpa using hk
  rw [made_two]
  constructor
  · rw [List.getElem?_toArray, List.getElem?_replicate, if_pos (by omega)]
  · rw [List.getElem?_toArray, List.getElem?_replicate, if_pos (by omega)]
theorem HRow.lt (h : HRow w b hs) : b < w.heap.size := by obtain ⟨cs, h, _⟩ := h; exact h.lt
theorem HRow.frozen (h : HRow w b hs) (i : Nat) : w.frozen? ⟨b, i, none⟩ = false := by obtain ⟨cs, h, _⟩ := h; exact h.frozen i
theorem HRow.cell (h : HRow w b hs) {k : Nat} {x : HopD} (hk : hs[k]? = some x) : w.cell? ⟨b, k * 2, none⟩ = some (.int .i64 x.edge) ∧ w.cell? ⟨b, k * 2 + 1, none⟩ = some (.int .i64 x.depart) := by
  obtain ⟨cs, h, hc⟩ := h
  rw [h.cell, h.cell]
  exact hc k x hk
theorem HRow.ext (h : HRow w b hs) (hb : Below w.heap.size w w') : HRow w' b hs := by obtain ⟨cs, h, hc⟩ := h; exact ⟨cs, h.ext hb, hc⟩
theorem HRow.alloc (h : HRow w b hs) (o : Obj) : HRow (w.alloc o) b hs := by obtain ⟨cs, h, hc⟩ := h; exact ⟨cs, h.alloc o, hc⟩
theorem HRow.drew (h : HRow w b hs) : HRow w.drew b hs := h
theorem HRow.drewN (h : HRow w b hs) (n : Nat) : HRow (w.drewN n) b hs := h
theorem HRow.far (h : HRow w b hs) {p : Addr} (hp : b ≠ p.block) (u : Value) : HRow (w.setCell p u) b hs := by obtain ⟨cs, h, hc⟩ := h; exact ⟨cs, h.far hp u, hc⟩
theorem HRow.set (h : HRow w b hs) (k : Nat) (x : HopD) (hk : k < hs.length) : HRow ((w.setCell ⟨b, k * 2, none⟩ (.int .i64 x.edge)).setCell ⟨b, k * 2 + 1, none⟩ (.int .i64 x.depart)) b (hs.set k x) := by
  obtain ⟨cs, h, hc⟩ := h
  obtain ⟨y, hy⟩ := get_lt hk
  have h1 := hc k y hy
  have hz : k * 2 + 1 < cs.size := by
    refine Classical.byContradiction fun hn => ?_
    have h2 := h1.2
    rw [Array.getElem?_eq_none (by omega)] at h2
    simp at h2
  refine ⟨_, (h.set_ _ _).set_ _ _, fun i z hi => ?_⟩
  by_cases e : k = i
  · subst e
    rw [List.getElem?_set_self hk] at hi
    obtain rfl : x = z := by simpa using hi
    constructor
    · rw [Array.getElem?_setIfInBounds_ne (by omega), Array.getElem?_setIfInBounds_self_of_lt (by omega)]
    · rw [Array.getElem?_setIfInBounds_self_of_lt (by simp; omega)]
  · rw [List.getElem?_set_ne e] at hi
    have h2 := hc i z hi
    constructor
    · rw [Array.getElem?_setIfInBounds_ne (by omega), Array.getElem?_setIfInBounds_ne (by omega)]; exact h2.1
    · rw [Array.getElem?_setIfInBounds_ne (by omega), Array.getElem?_setIfInBounds_ne (by omega)]; exact h2.2
theorem HRow.slAt (h : HRow w b hs) (hi : ∀ x, x ∈ hs → I64 x.edge ∧ I64 x.depart) : SlAt RHop 2 w (some ⟨b, 0, none⟩) hs := by
  refine ⟨b, 0, fun i x hx => ⟨rfl, h.lt, ?_⟩⟩
  have h2 := h.cell hx
  have h3 := hi x (List.mem_of_getElem? hx)
  refine ⟨⟨?_, ?_⟩, h3⟩ <;> (unfold cellIs; rw [Nat.zero_add])
  · exact h2.1
  · exact h2.2
end
theorem make_hops (n : Nat) (h : n ≤ 1000000) (w : World) : (Instr.makeSlice 89 (.int .i64 (n : Int)) (.int .i64 (n : Int))).run Tryz.prog w = .ok (.slice (some ⟨w.heap.size, 0, none⟩) n n) (w.alloc (.cells (madeCells #[.int .i64 0, .int .i64 0] (n * 2)) 95)) := by
  obtain ⟨i, hi, hzz⟩ := Option.map_eq_some_iff.1 info_hop
  simp only [Prod.mk.injEq] at hzz
  obtain ⟨hz, hs, hb⟩ := hzz
  have hr := run_make (P := Tryz.prog) w 89 95 i _ Tryz.underlying89 hi hz .i64 .i64 n n (by omega) (Int.le_refl _) (by rw [hb]; omega) (by omega)
  simp only [Int.toNat_natCast, hs] at hr
  exact hr

/-- By which hop one has come to each vertex. -/
structure HopsOk (g : GraphD) (v t : Int) (l : List Int) (hs : List HopD) (done : Nat → Bool) : Prop where
  len : hs.length = g.lives.length
  small : ∀ h, h ∈ hs → 0 ≤ h.edge ∧ h.edge ≤ 30 ∧ 0 ≤ h.depart ∧ h.depart ≤ 100
  come : ∀ k, k < g.lives.length → gi l k < Never → ((k : Int) = v ∧ gi l k = t ∧ aliveB g v t = true) ∨
    ∃ x h lg, hs[k]? = some h ∧ g.edges[h.edge.toNat]? = some x ∧ x.b = (k : Int) ∧ done x.a.toNat = true ∧ gi l x.a.toNat ≤ h.depart ∧ arrive g x h.depart = some (lg, gi l k)
section
variable {g : GraphD} {v t : Int} {l : List Int} {hs : List HopD} {done done' : Nat → Bool}
theorem HopsOk.start : HopsOk g v t (startE g v t) (List.replicate g.lives.length ⟨0, 0⟩) done :=
  ⟨by simp, fun h hm => by obtain ⟨_, rfl⟩ := List.mem_replicate.1 hm; simp, fun k hk hf => by
    rw [startE_val hk] at hf ⊢
    split at hf
    · rename_i hp
      exact .inl ⟨hp.2, by rw [if_pos hp], hp.1⟩
    · omega⟩
theorem HopsOk.mono (h : HopsOk g v t l hs done) (hd : ∀ u, done u = true → done' u = true) : HopsOk g v t l hs done' :=
  ⟨h.len, h.small, fun k hk hf => (h.come k hk hf).imp id fun ⟨x, y, lg, h1, h2, h3, h4, h5⟩ => ⟨x, y, lg, h1, h2, h3, hd _ h4, h5⟩⟩
theorem HopsOk.step (hV : Valid g) (h : HopsOk g v t l hs done) (hl : l.length = g.lives.length) {x : EdgeD} {j : Nat} (hx : g.edges[j]? = some x) {d to : Int} (hf : first g x (gi l x.a.toNat) = some (d, to)) (_ : 0 ≤ gi l x.a.toNat)
    (hlt : to < gi l x.b.toNat) (hda : done x.a.toNat = true) (hle : ∀ u, done u = true → gi l u ≤ gi l x.a.toNat) : HopsOk g v t (l.set x.b.toNat to) (hs.set x.b.toNat ⟨j, d⟩) done := by
  have ho := hV.edges x (List.mem_of_getElem? hx)
  have h0 := ho.b0; have h1 := ho.b1; have h2 := ho.a0; have h3 := ho.a1
  obtain ⟨f1, ⟨lg, f2⟩, _⟩ := first_some hf
  have f3 := arrive_late hV ho f2
  have hj := lt_of_get hx
  have hne := hV.ne
  have hb : done x.b.toNat = false := by
    cases hb : done x.b.toNat with
    | false => rfl
    | true => have := hle _ hb; omega
  have ha : ¬ x.a.toNat = x.b.toNat := fun e => by rw [e, hb] at hda; simp at hda
  have e0 : gi (l.set x.b.toNat to) = upd (gi l) x.b.toNat to := gi_set (by omega) to
  refine ⟨by simp [h.len], fun y hy => ?_, fun k hk hn => ?_⟩
  · rcases List.mem_or_eq_of_mem_set hy with hy | rfl
    · exact h.small y hy
    · simp only; omega
  · rw [e0] at hn ⊢
    by_cases e : k = x.b.toNat
    · right
      refine ⟨x, ⟨j, d⟩, lg, by rw [e, List.getElem?_set_self (by rw [h.len]; omega)], by simpa using hx, by omega, hda, ?_, ?_⟩
      · rw [upd_ne _ _ ha]; exact f1
      · rw [e, upd_at]; exact f2
    · rw [upd_ne _ _ e] at hn ⊢
      rcases h.come k hk hn with hc | ⟨y, z, lg', c1, c2, c3, c4, c5, c6⟩
      · exact .inl hc
      · right
        have hya : ¬ y.a.toNat = x.b.toNat := fun e => by rw [e, hb] at c4; simp at c4
        exact ⟨y, z, lg', by rw [List.getElem?_set_ne (fun h => e h.symm)]; exact c1, c2, c3, c4, by rw [upd_ne _ _ hya]; exact c5, c6⟩
end
end Go.Proofs.YtdpibehpmghghaaGreat
/- The way back along the hops by which one has come first; no program in sight. -/
namespace Go.Proofs.YtdpibehpmghghaaGreat
open Go.RowKit

def bOf (g : GraphD) (h : HopD) : Int := match g.edges[h.edge.toNat]? with
  | some x => x.b
  | none => 0
theorem bOf_of {g : GraphD} {h : HopD} {x : EdgeD} (e : g.edges[h.edge.toNat]? = some x) : bOf g h = x.b := by unfold bOf; rw [e]
structure WayInv (g : GraphD) (l : List Int) (to : Int) (k : Nat) (acc : List HopD) : Prop where
  lt : k < g.lives.length
  fin : gi l k < Never
  go : ∃ c, goL g k (gi l k) 0 acc.reverse = some (to, gi l to.toNat, c)
  len : (acc.length : Int) + gi l k ≤ gi l to.toNat
  once : ((k : Int) :: acc.reverse.map (bOf g)).Pairwise (fun a b => gi l a.toNat < gi l b.toNat)
  small : ∀ h, h ∈ acc → 0 ≤ h.edge ∧ h.edge ≤ 30 ∧ 0 ≤ h.depart ∧ h.depart ≤ 100
  tight : ∀ h, h ∈ acc → ∃ x lg, g.edges[h.edge.toNat]? = some x ∧ arrive g x h.depart = some (lg, gi l x.b.toNat)
structure WayOk (g : GraphD) (v t to : Int) (l : List Int) (hops : List HopD) : Prop where
  go : ∃ c, goL g v t 0 hops = some (to, gi l to.toNat, c)
  alive : aliveB g v t = true
  len : hops.length ≤ 100
  once : (v :: hops.map (bOf g)).Nodup
  small : ∀ h, h ∈ hops → 0 ≤ h.edge ∧ h.edge ≤ 30 ∧ 0 ≤ h.depart ∧ h.depart ≤ 100
  tight : ∀ h, h ∈ hops → ∃ x lg, g.edges[h.edge.toNat]? = some x ∧ arrive g x h.depart = some (lg, gi l x.b.toNat)
section
variable {g : GraphD} {v t to : Int} {l : List Int} {hs acc : List HopD} {k : Nat}
theorem WayInv.start (h0 : 0 ≤ to) (h1 : to < g.lives.length) (hf : gi l to.toNat < Never) : WayInv g l to to.toNat [] :=
  ⟨by omega, hf, ⟨0, by simp [goL]; omega⟩, by simp, by simp, by simp, by simp⟩
theorem WayInv.step (hV : Valid g) (h : WayInv g l to k acc) (hH : HopsOk g v t l hs fun _ => true) (hk : ¬ (k : Int) = v) :
    ∃ x h lg, hs[k]? = some h ∧ g.edges[h.edge.toNat]? = some x ∧ x.b = (k : Int) ∧ arrive g x h.depart = some (lg, gi l k) ∧ gi l x.a.toNat < gi l k ∧ WayInv g l to x.a.toNat (acc ++ [h]) := by
  rcases hH.come k h.lt h.fin with ⟨h1, _⟩ | ⟨x, y, lg, h1, h2, h3, _, h5, h6⟩
  · exact absurd h1 hk
  · have hm := hH.small y (List.mem_of_getElem? h1)
    have ho := hV.edges x (List.mem_of_getElem? h2)
    have a0 := ho.a0; have a1 := ho.a1
    have hlate := arrive_late hV ho h6
    refine ⟨x, y, lg, h1, h2, h3, h6, by omega, by omega, by simp only [Never]; omega, ?_, by rw [List.length_append, List.length_singleton]; have := h.len; omega, ?_, fun z hz => ?_, fun z hz => ?_⟩
    · obtain ⟨c, hc⟩ := h.go
      rw [List.reverse_append, List.reverse_singleton, List.singleton_append]
      rw [goL_some (hopTo_of (v := ((x.a.toNat : Nat) : Int)) (by omega) h2 (by omega) h5 h6), h3, goL_cost, hc]
      exact ⟨_, rfl⟩
    · rw [List.reverse_append, List.reverse_singleton, List.singleton_append, List.map_cons, bOf_of h2, h3]
      refine List.pairwise_cons.2 ⟨fun z hz => ?_, h.once⟩
      have hx : gi l x.a.toNat < gi l k := by omega
      rcases List.mem_cons.1 hz with rfl | hz
      · simp only [Int.toNat_natCast]; exact hx
      · have := (List.pairwise_cons.1 h.once).1 z hz
        simp only [Int.toNat_natCast] at this ⊢
        omega
    · rcases List.mem_append.1 hz with hz | hz
      · exact h.small z hz
      · obtain rfl : z = y := by simpa using hz
        exact hm
    · rcases List.mem_append.1 hz with hz | hz
      · exact h.tight z hz
      · obtain rfl : z = y := by simpa using hz
        exact ⟨x, lg, h2, by rw [h3]; simpa using h6⟩
/-- Who comes anywhere is alive at the start. -/
theorem early_alive (hV : Valid g) (he : EarlyL g v t l) (ht : t ≤ 100) {k : Nat} (hk : k < g.lives.length) (hf : gi l k < Never) : aliveB g v t = true := by
  cases ha : aliveB g v t with
  | true => rfl
  | false =>
    exfalso
    have := he.2.far (I := Never) (fun i => he.big ht i) (fun y hy => (arcsE_ok hV y hy).2.2.1) (fun y hy => (arcsE_ok hV y hy).2.2.2) (fun i => i < g.lives.length) (fun y hy _ => (arcsE_ok hV y hy).1) (fun i hi => by
      rw [startE_val hi, if_neg (by rw [ha]; simp)]; exact Int.le_refl _) k hk
    omega
theorem early_at (hV : Valid g) (he : EarlyL g v t l) (ht : t ≤ 100) (hv0 : 0 ≤ v) (hv1 : v < g.lives.length) (ha : aliveB g v t = true) : gi l v.toNat = t := by
  have h1 := he.2.1.1 v.toNat
  rw [startE_val (by omega), if_pos ⟨ha, by omega⟩] at h1
  have h2 := he.low hV ht (show v.toNat < g.lives.length by omega)
  omega
theorem WayInv.fin' (hV : Valid g) (he : EarlyL g v t l) (ht : t ≤ 100) (ht0 : 0 ≤ t) (hto : gi l to.toNat ≤ 100) (h : WayInv g l to k acc) (hk : (k : Int) = v) : WayOk g v t to l acc.reverse := by
  have ha := early_alive hV he ht h.lt h.fin
  have hlt := h.lt
  have hat := early_at hV he ht (by omega) (by omega) ha
  have e : v.toNat = k := by omega
  rw [e] at hat
  refine ⟨?_, ha, ?_, ?_, fun z hz => h.small z (List.mem_reverse.1 hz), fun z hz => h.tight z (List.mem_reverse.1 hz)⟩
  · have := h.go
    rw [hk, hat] at this
    exact this
  · have := h.len
    rw [List.length_reverse]
    omega
  · have := h.once
    rw [hk] at this
    exact this.imp fun {a b} hab => fun e => by rw [e] at hab; omega
/-- What Way answers. -/
def EWayR (g : GraphD) (v t to : Int) (hops : List HopD) (er : Int) : Prop :=
  (placeErr g v t ≠ 0 ∧ hops = [] ∧ er = placeErr g v t) ∨
  (placeErr g v t = 0 ∧ ∃ a, EarlyL g v t a ∧ (((to < 0 ∨ (g.lives.length : Int) ≤ to ∨ gi a to.toNat = Never) ∧ hops = [] ∧ er = 4) ∨ (0 ≤ to ∧ to < g.lives.length ∧ gi a to.toNat < Never ∧ er = 0 ∧ WayOk g v t to a hops)))
end
end Go.Proofs.YtdpibehpmghghaaGreat
/- The least sums by vertex and time, as greatest solutions; what they say of the earliest times; no program in sight. -/
namespace Go.Proofs.YtdpibehpmghghaaGreat

def CostA (g : GraphD) (wt : LegD → Int) (y : Arc (Nat × Nat)) : Prop :=
  (∃ v t : Nat, y = ⟨(v, t), (v, t + 1), fun n => n⟩ ∧ v < g.lives.length ∧ (t : Int) + 1 < g.h ∧ aliveB g v ((t : Int) + 1) = true) ∨
  ∃ x l to, ∃ t : Nat, x ∈ g.edges ∧ arrive g x t = some (l, to) ∧ y = ⟨(x.a.toNat, t), (x.b.toNat, to.toNat), fun n => n + wt l⟩
def initC (g : GraphD) (v t : Int) (p : Nat × Nat) : Int := if aliveB g v t = true ∧ (p.1 : Int) = v ∧ (p.2 : Int) = t then 0 else Never
/-- The function tells the least sums from a place. -/
def CostL (g : GraphD) (wt : LegD → Int) (v t : Int) (d : Nat × Nat → Int) : Prop := Best (CostA g wt) (initC g v t) d
def lCost (l : LegD) : Int := l.cost
def lOne (_ : LegD) : Int := 1
/-- Weights of legs that serve: not below nought, not large. -/
def Light (g : GraphD) (wt : LegD → Int) : Prop := ∀ x, x ∈ g.edges → ∀ l, l ∈ x.legs → 0 ≤ wt l ∧ wt l ≤ 1000
theorem light_cost {g : GraphD} (hV : Valid g) : Light g lCost := fun x hx l hl => by have := (hV.edges x hx).legs l hl; simp only [lCost]; omega
theorem light_one {g : GraphD} : Light g lOne := fun x _ l _ => by simp only [lOne]; omega
/-- The first of m times from k on at which something is told. -/
def soon (f : Nat → Int) : Nat → Nat → Int
  | _, 0 => Never
  | k, m + 1 => if f k < Never then (k : Int) else soon f (k + 1) m
theorem soon_yes {f : Nat → Int} {k m : Nat} (h : f k < Never) : soon f k (m + 1) = k := by rw [soon, if_pos h]
theorem soon_no {f : Nat → Int} {k m : Nat} (h : ¬ f k < Never) : soon f k (m + 1) = soon f (k + 1) m := by rw [soon, if_neg h]
theorem soon_spec {f : Nat → Int} : ∀ (m k : Nat), (soon f k m = Never ∨ ∃ s : Nat, soon f k m = s ∧ k ≤ s ∧ s < k + m ∧ f s < Never) ∧ ∀ s : Nat, k ≤ s → s < k + m → f s < Never → soon f k m ≤ s
  | 0, k => ⟨.inl rfl, fun s h1 h2 => by omega⟩
  | m + 1, k => by
    by_cases h : f k < Never
    · rw [soon_yes h]
      exact ⟨.inr ⟨k, rfl, by omega, by omega, h⟩, fun s h1 h2 h3 => by omega⟩
    · rw [soon_no h]
      obtain ⟨h1, h2⟩ := soon_spec (f := f) m (k + 1)
      refine ⟨h1.imp id fun ⟨s, k1, k2, k3, k4⟩ => ⟨s, k1, by omega, by omega, k4⟩, fun s k1 k2 k3 => ?_⟩
      by_cases e : s = k
      · rw [e] at k3; exact absurd k3 h
      · exact h2 s (by omega) (by omega) k3
section
variable {g : GraphD} {wt : LegD → Int} {v t : Int} {d : Nat × Nat → Int}
theorem cost_mono : ∀ y, CostA g wt y → Mono y.f := by
  rintro y (⟨_, _, rfl, _⟩ | ⟨_, l, _, _, _, _, rfl⟩)
  · exact fun s t h => h
  · exact fun s t h => by simp only; omega
theorem cost_up (hw : Light g wt) (N : Int) : ∀ y, CostA g wt y → N ≤ y.f N := by
  rintro y (⟨_, _, rfl, _⟩ | ⟨x, l, _, _, hx, ha, rfl⟩)
  · exact Int.le_refl _
  · have := hw x hx l (arrive_some ha).1
    simp only; omega
theorem initC_big (p : Nat × Nat) : initC g v t p ≤ Never := by unfold initC; split <;> simp [Never]
theorem CostL.big (h : CostL g wt v t d) (p : Nat × Nat) : d p ≤ Never := Int.le_trans (h.1.1 p) (initC_big p)
theorem CostL.pos (hw : Light g wt) (h : CostL g wt v t d) (p : Nat × Nat) : 0 ≤ d p :=
  h.2 (fun _ => 0) ⟨fun p => by unfold initC; split <;> simp [Never], fun y hy => cost_up hw 0 y hy⟩ p
/-- What is told is told of a vertex that is there, and is small. -/
theorem CostL.told (hV : Valid g) (hw : Light g wt) (h : CostL g wt v t d) (hv : 0 ≤ v ∧ v < g.lives.length) (_ : 0 ≤ t) {p : Nat × Nat} (hp : d p < Never) : d p ≤ 1000 * p.2 ∧ p.1 < g.lives.length ∧ aliveB g p.1 p.2 = true := by
  constructor
  · refine Classical.byContradiction fun hn => ?_
    have hb : ∀ q, (open Classical in if d q ≤ 1000 * q.2 then d q else Never) ≤ Never := fun q => by
      split
      · exact h.big q
      · exact Int.le_refl _
    have := h.2 (fun q => open Classical in if d q ≤ 1000 * q.2 then d q else Never) ⟨fun q => ?_, ?_⟩ p
    · simp only [if_neg hn] at this; omega
    · have h1 := h.1.1 q
      show (if d q ≤ 1000 * q.2 then d q else Never) ≤ initC g v t q
      by_cases hq : d q ≤ 1000 * q.2
      · rw [if_pos hq]; exact h1
      · rw [if_neg hq]
        unfold initC at h1 ⊢
        split
        · rename_i h2; rw [if_pos h2] at h1; omega
        · exact Int.le_refl _
    · rintro y (⟨u, s, rfl, h1, h2, h3⟩ | ⟨x, l, to, s, hx, ha, rfl⟩)
      · have h4 := h.1.2 _ (.inl ⟨u, s, rfl, h1, h2, h3⟩)
        simp only at h4 ⊢
        by_cases hq : d (u, s) ≤ 1000 * (s : Int)
        · rw [if_pos hq, if_pos (by omega)]; exact h4
        · rw [if_neg hq]; exact hb _
      · have h4 := h.1.2 _ (.inr ⟨x, l, to, s, hx, ha, rfl⟩)
        have h5 := arrive_late hV (hV.edges x hx) ha
        have h6 := hw x hx l (arrive_some ha).1
        simp only at h4 ⊢
        by_cases hq : d (x.a.toNat, s) ≤ 1000 * (s : Int)
        · rw [if_pos hq, if_pos (by omega)]; exact h4
        · rw [if_neg hq]; have := hb (x.b.toNat, to.toNat); simp only at this; omega
  · refine Classical.byContradiction fun hn => ?_
    have := h.far (I := Never) h.big cost_mono (cost_up hw Never) (fun q => ¬ (q.1 < g.lives.length ∧ aliveB g q.1 q.2 = true)) ?_ (fun q hq => ?_) p hn
    · omega
    · rintro y (⟨u, s, rfl, h1, h2, h3⟩ | ⟨x, l, to, s, hx, ha, rfl⟩) hS
      · exact absurd ⟨h1, by simpa using h3⟩ hS
      · have h5 := arrive_late hV (hV.edges x hx) ha
        have h6 := (arrive_some ha).2.2.2.2.2.2
        have ho := hV.edges x hx
        have h7 := ho.b0; have h8 := ho.b1
        refine absurd ⟨?_, ?_⟩ hS
        · simp only; omega
        · simp only
          rw [show ((x.b.toNat : Nat) : Int) = x.b by omega, show ((to.toNat : Nat) : Int) = to by omega]
          exact h6
    · unfold initC
      split
      · rename_i h1
        refine absurd ⟨by omega, ?_⟩ hq
        rw [h1.2.1, h1.2.2]; exact h1.1
      · exact Int.le_refl _
/-- Waiting. -/
theorem alive_between {u s r q : Int} (h1 : aliveB g u s = true) (h2 : aliveB g u r = true) (h3 : s ≤ q) (h4 : q ≤ r) : aliveB g u q = true := by
  unfold aliveB at h1 h2 ⊢
  split at h1
  · rename_i lf hlf
    rw [hlf] at h2
    simp at h1 h2 ⊢
    omega
  · simp at h1
theorem CostL.wait (h : CostL g wt v t d) {u s : Nat} (hu : u < g.lives.length) : ∀ (k : Nat), aliveB g u s = true → aliveB g u ((s + k : Nat) : Int) = true → ((s + k : Nat) : Int) < g.h → d (u, s + k) ≤ d (u, s)
  | 0, _, _, _ => Int.le_refl _
  | k + 1, h1, h2, h3 => by
    have h4 := alive_between (q := ((s + k : Nat) : Int)) h1 h2 (by omega) (by omega)
    have ih := CostL.wait h hu k h1 h4 (by omega)
    have h5 := h.1.2 _ (.inl ⟨u, s + k, rfl, hu, by omega, by rw [← h2]; congr 1⟩)
    simp only at h5
    exact Int.le_trans h5 ih
/-- When something is told of a vertex first. -/
def soonL (g : GraphD) (d : Nat × Nat → Int) : List Int := (List.range g.lives.length).map fun u => soon (fun s => d (u, s)) 0 g.h.toNat
theorem soonL_val {u : Nat} (h : u < g.lives.length) : gi (soonL g d) u = soon (fun s => d (u, s)) 0 g.h.toNat := by unfold soonL; rw [gi_map_range h]
theorem soonL_far {u : Nat} (h : g.lives.length ≤ u) : gi (soonL g d) u = 0 := by unfold soonL; rw [gi_map_range_far h]
theorem soonL_early (hV : Valid g) (hw : Light g wt) (h : CostL g wt v t d) (hv : 0 ≤ v ∧ v < g.lives.length) (ht : 0 ≤ t ∧ t < g.h) : EarlyL g v t (soonL g d) := by
  refine ⟨by simp [soonL], ⟨fun u => ?_, fun y hy => ?_⟩, fun e he u => ?_⟩
  · by_cases hu : u < g.lives.length
    · rw [soonL_val hu, startE_val hu]
      obtain ⟨h1, h2⟩ := soon_spec (f := fun s => d (u, s)) g.h.toNat 0
      split
      · rename_i hp
        have h3 := h.1.1 (u, t.toNat)
        unfold initC at h3
        rw [if_pos ⟨hp.1, hp.2, by simp only; omega⟩] at h3
        have := h2 t.toNat (by omega) (by omega) (by simp only [Never]; omega)
        omega
      · rcases h1 with h1 | ⟨s, h1, _, h3, _⟩
        · rw [h1]; exact Int.le_refl _
        · rw [h1]; have := hV.h1; simp only [Never]; omega
    · rw [soonL_far (by omega), startE_far (by omega)]; exact Int.le_refl _
  · obtain ⟨x, hx, rfl⟩ := mem_arcsE.1 hy
    have ho := hV.edges x hx
    have h0 := ho.a0; have h1 := ho.a1; have h2 := ho.b0; have h3 := ho.b1
    simp only [arcE]
    rw [soonL_val (show x.a.toNat < g.lives.length by omega), soonL_val (show x.b.toNat < g.lives.length by omega)]
    obtain ⟨k1, k2⟩ := soon_spec (f := fun s => d (x.a.toNat, s)) g.h.toNat 0
    obtain ⟨m1, m2⟩ := soon_spec (f := fun s => d (x.b.toNat, s)) g.h.toNat 0
    have hbig : soon (fun s => d (x.b.toNat, s)) 0 g.h.toNat ≤ Never := by
      rcases m1 with m1 | ⟨s, m1, _, m3, _⟩
      · rw [m1]; exact Int.le_refl _
      · rw [m1]; have := hV.h1; simp only [Never]; omega
    rcases k1 with k1 | ⟨s, k1, _, k3, k4⟩
    · rw [k1]; exact Int.le_trans hbig (earlyF_never hV ho)
    · rw [k1]
      rcases earlyF_cases hV ho (s : Int) with h4 | ⟨q, lg, to, h4, h5, h6, _⟩
      · rw [h4]; exact hbig
      · rw [h6]
        have h7 := arrive_late hV ho h5
        have h8 := arrive_some h5
        obtain ⟨n1, n2, n3⟩ := h.told hV hw hv ht.1 k4
        simp only at n1 n3
        obtain ⟨k, rfl⟩ : ∃ k : Nat, q = ((s + k : Nat) : Int) := ⟨(q - s).toNat, by omega⟩
        have n4 := h.wait n2 k n3 (by rw [show ((x.a.toNat : Nat) : Int) = x.a by omega]; exact h8.2.2.2.2.2.1) (by omega)
        have n5 := h.1.2 _ (.inr ⟨x, lg, to, s + k, hx, h5, rfl⟩)
        have n6 := hw x hx lg h8.1
        simp only at n4 n5
        have n7 := hV.h1
        have := m2 to.toNat (by omega) (by omega) (by simp only [Never]; omega)
        omega
  · by_cases hu : u < g.lives.length
    · rw [soonL_val hu]
      obtain ⟨h1, _⟩ := soon_spec (f := fun s => d (u, s)) g.h.toNat 0
      rcases h1 with h1 | ⟨s, h1, _, h3, h4⟩
      · rw [h1]
        have := he.1 u
        exact Int.le_trans this (startE_big (by have := hV.h1; omega) u)
      · rw [h1]
        refine Classical.byContradiction fun hn => ?_
        have := h.far (I := Never) h.big cost_mono (cost_up hw Never) (fun q => q.1 < g.lives.length ∧ (q.2 : Int) < e q.1) ?_ (fun q hq => ?_) (u, s) ⟨hu, by simp only; omega⟩
        · omega
        · rintro y (⟨u', s', rfl, h1, h2, h3⟩ | ⟨x, l, to, s', hx, ha, rfl⟩) hS
          · simp only at hS ⊢; exact ⟨h1, by omega⟩
          · have ho := hV.edges x hx
            have h0 := ho.a0; have h1 := ho.a1; have h2 := ho.b0; have h3 := ho.b1
            have h5 := arrive_late hV ho ha
            simp only at hS ⊢
            refine ⟨by omega, ?_⟩
            refine Classical.byContradiction fun hn => ?_
            have h6 := he.2 _ (mem_arcsE.2 ⟨x, hx, rfl⟩)
            have h7 := earlyF_le hV ho (t := e x.a.toNat) (d := s') (by omega) ha
            simp only [arcE] at h6
            omega
        · unfold initC
          split
          · rename_i hp
            have h6 := he.1 q.1
            rw [startE_val hq.1, if_pos ⟨hp.1, hp.2.1⟩] at h6
            have := hq.2
            omega
          · exact Int.le_refl _
    · have := he.1 u
      rw [startE_far (by omega)] at this
      rw [soonL_far (by omega)]; exact this
/-- What is told at which times. -/
theorem CostL.reach (hV : Valid g) (hw : Light g wt) (h : CostL g wt v t d) (hv : 0 ≤ v ∧ v < g.lives.length) (ht : 0 ≤ t ∧ t < g.h) {a : List Int} (ha : EarlyL g v t a) {u s : Nat} (hu : u < g.lives.length) (hs : (s : Int) < g.h) :
    d (u, s) < Never ↔ gi a u ≤ s ∧ aliveB g u s = true := by
  have he : a = soonL g d := ha.eq (soonL_early hV hw h hv ht)
  rw [he, soonL_val hu]
  obtain ⟨h1, h2⟩ := soon_spec (f := fun s => d (u, s)) g.h.toNat 0
  constructor
  · intro hd
    obtain ⟨_, _, h3⟩ := h.told hV hw hv ht.1 hd
    exact ⟨h2 s (by omega) (by omega) hd, h3⟩
  · rintro ⟨h3, h4⟩
    rcases h1 with h1 | ⟨r, h1, _, h5, h6⟩
    · rw [h1] at h3; have := hV.h1; simp only [Never] at h3; omega
    · obtain ⟨_, _, h7⟩ := h.told hV hw hv ht.1 h6
      rw [h1] at h3
      obtain ⟨k, rfl⟩ : ∃ k : Nat, s = r + k := ⟨s - r, by omega⟩
      have : d (u, r + k) ≤ d (u, r) := h.wait hu k h7 h4 hs
      omega
end
end Go.Proofs.YtdpibehpmghghaaGreat
