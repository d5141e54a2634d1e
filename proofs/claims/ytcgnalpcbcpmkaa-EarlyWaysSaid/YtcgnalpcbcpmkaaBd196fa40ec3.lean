/- One text: CWaySpec. -/
import Derived.Test.YtcgnalpcbcpmkaaBded4119261a
import Derived.Test.YtcgnalpcbcpmkaaBdcfcb0331ab
/- The way back along the origins of the sums; no program in sight. -/
namespace Go.Proofs.Ytcgnalpcbcpmkaa

theorem goL_sooner {g : GraphD} : ∀ (l : List HopD) (x r r' c b u e : Int), r' ≤ r → goL g x r c l = some (b, u, e) → ∃ u', goL g x r' c l = some (b, u', e)
  | [], x, r, r', c, b, u, e, _, hg => by
    simp [goL] at hg
    obtain ⟨rfl, rfl, rfl⟩ := hg
    exact ⟨r', rfl⟩
  | h :: l, x, r, r', c, b, u, e, hr, hg => by
    cases hh : hopTo g x r h with
    | none => rw [goL_none hh] at hg; simp at hg
    | some p =>
      obtain ⟨b1, t1, k1⟩ := p
      rw [goL_some hh] at hg
      obtain ⟨y, lg, h0, hy, h1, h2, h3, h4, h5⟩ := hopTo_spec hh
      have := hopTo_of (v := x) (t := r') h0 hy h1 (by omega) h3
      rw [← h4, ← h5] at this
      exact ⟨u, by rw [goL_some this]; exact hg⟩
structure CWayInv (g : GraphD) (B : Tab Int) (s to n : Int) (t0 : Nat) (q : Nat × Nat) (acc : List HopD) : Prop where
  at_ : ∃ m, B q = some m ∧ ∃ u, goL g q.1 q.2 0 acc.reverse = some (to, u, n - m)
  len : acc.length + q.2 ≤ t0
  small : ∀ h, h ∈ acc → 0 ≤ h.edge ∧ h.edge ≤ 30 ∧ 0 ≤ h.depart ∧ h.depart ≤ 100
/-- What the way is. -/
structure CWayOk (g : GraphD) (v s to n : Int) (hops : List HopD) : Prop where
  go : ∃ u, goL g v s 0 hops = some (to, u, n)
  alive : aliveB g v s = true
  len : hops.length ≤ 100
  small : ∀ h, h ∈ hops → 0 ≤ h.edge ∧ h.edge ≤ 30 ∧ 0 ≤ h.depart ∧ h.depart ≤ 100
section
variable {g : GraphD} {v s to n : Int} {t t0 : Nat} {B : Tab Int} {O : Tab OrigD} {q : Nat × Nat} {acc : List HopD}
theorem CWayInv.start (h : B q = some n) (hq : (q.1 : Int) = to) : CWayInv g B s to n q.2 q [] := ⟨⟨n, h, q.2, by simp [goL, hq]⟩, by simp, by simp⟩
theorem CWayInv.step (hV : Valid g) (hF : FillInv g lCost v s t 0 false 0 B O) (h : CWayInv g B s to n t0 q acc) (hq : q ≠ (v.toNat, s.toNat)) (hs : 0 ≤ s) :
    ∃ o, O q = some o ∧ 0 ≤ o.v ∧ 0 ≤ o.t ∧ o.t < (q.2 : Int) ∧ o.v ≤ 12 ∧ o.t ≤ 100 ∧ CWayInv g B s to n t0 (o.v.toNat, o.t.toNat) (if o.hops = true then acc ++ [⟨o.edge, o.depart⟩] else acc) := by
  obtain ⟨m, hm, u, hg⟩ := h.at_
  obtain ⟨k1, k2, k3, k4, _, _⟩ := hF.told _ _ hm
  obtain ⟨j1, o, j2, j3, j4⟩ := hF.orig _ _ hm hq
  have hlen := h.len
  have hh := hV.h1
  have hn := hV.nl
  refine ⟨o, j2, ?_⟩
  rcases j3 with ⟨a1, a2, a3, a4, a5, a6, a7⟩ | ⟨a1, j, x, l, m', a2, a3, a4, a5, a6, a7, a8, a9, a10⟩
  · refine ⟨by omega, a4, by omega, by omega, by omega, ?_⟩
    rw [a1]
    simp only [Bool.false_eq_true, if_false]
    obtain ⟨u', hu⟩ := goL_sooner acc.reverse q.1 q.2 o.t 0 to u (n - m) (by omega) hg
    refine ⟨⟨m, by rw [a2]; simpa using a7, u', ?_⟩, by simp only; omega, h.small⟩
    simp only
    rw [show ((o.v.toNat : Nat) : Int) = (q.1 : Int) by omega, show ((o.t.toNat : Nat) : Int) = o.t by omega]
    exact hu
  · have hm2 := List.mem_of_getElem? a3
    have ho := hV.edges x hm2
    have b0 := ho.a0; have b1 := ho.a1
    have hl := arrive_late hV ho a8
    have hjl := (List.getElem?_eq_some_iff.1 a3).1
    have hne := hV.ne
    refine ⟨by omega, a7, by omega, by omega, by omega, ?_⟩
    rw [a1]
    simp only [if_true]
    refine ⟨⟨m', by rw [a4]; exact a9, u, ?_⟩, by simp only [List.length_append, List.length_singleton]; omega, fun z hz => ?_⟩
    · rw [List.reverse_append, List.reverse_singleton, List.singleton_append]
      simp only
      rw [show ((o.v.toNat : Nat) : Int) = o.v by omega, show ((o.t.toNat : Nat) : Int) = o.t by omega]
      rw [goL_some (hopTo_of (v := o.v) (t := o.t) (h := ⟨o.edge, o.depart⟩) (by simp only; omega) (by simp only [a2, Int.toNat_natCast]; exact a3) a4.symm (by simp only; omega) (by simp only [a6]; exact a8)), a5, goL_cost, hg]
      simp only [Option.map_some, Option.some.injEq, Prod.mk.injEq, true_and]
      simp only [lCost] at a10
      omega
    · rcases List.mem_append.1 hz with hz | hz
      · exact h.small z hz
      · obtain rfl : z = ⟨o.edge, o.depart⟩ := by simpa using hz
        simp only
        omega
theorem CWayInv.fin (hV : Valid g) (hF : FillInv g lCost v s t 0 false 0 B O) (h : CWayInv g B s to n t0 q acc) (ht0 : t0 ≤ 100) (hv0 : 0 ≤ v) (hs : 0 ≤ s) (hq : q = (v.toNat, s.toNat)) : CWayOk g v s to n acc.reverse := by
  obtain ⟨m, hm, u, hg⟩ := h.at_
  obtain ⟨_, _, _, k4, _, _⟩ := hF.told _ _ hm
  have hlen := h.len
  subst hq
  simp only at hg k4 hlen
  rw [show ((v.toNat : Nat) : Int) = v by omega, show ((s.toNat : Nat) : Int) = s by omega] at hg k4
  have := hF.start k4
  rw [this] at hm
  obtain rfl : 0 = m := by simpa using hm
  refine ⟨⟨u, by rw [hg]; simp⟩, k4, by rw [List.length_reverse]; omega, fun z hz => h.small z (List.mem_reverse.1 hz)⟩
/-- What cheap.Way answers. -/
def CWayR (g : GraphD) (v s to : Int) (hops : List HopD) (er : Int) : Prop :=
  (placeErr g v s ≠ 0 ∧ hops = [] ∧ er = placeErr g v s) ∨
  (placeErr g v s = 0 ∧ (to < 0 ∨ (g.lives.length : Int) ≤ to) ∧ hops = [] ∧ er = 4) ∨
  (placeErr g v s = 0 ∧ 0 ≤ to ∧ to < g.lives.length ∧ ∃ d, CostL g lCost v s d ∧ (((leastN d to.toNat g.h.toNat).1 = Never ∧ hops = [] ∧ er = 4) ∨
    ((leastN d to.toNat g.h.toNat).1 < Never ∧ er = 0 ∧ CWayOk g v s to (leastN d to.toNat g.h.toNat).1 hops)))
end
end Go.Proofs.Ytcgnalpcbcpmkaa
