/- Blocks that hold a list of hops: how they are made, read, written; which hop one has come by. -/
import Derived.Test.YtcgnalpcbcpmkaaRow
import Derived.Test.YtcgnalpcbcpmkaaLateMid
import Derived.Test.YtcgnalpcbcpmkaaOutP
namespace Go.Proofs.Ytcgnalpcbcpmkaa
open Go.RowKit

def HRow (w : World) (b : Nat) (hs : List HopD) : Prop := ∃ cs, Blk w b 46 cs ∧ ∀ k h, hs[k]? = some h → cs[k * 2]? = some (.int .i64 h.edge) ∧ cs[k * 2 + 1]? = some (.int .i64 h.depart)
theorem made_two (z : Value) (n : Nat) : madeCells #[z, z] n = (List.replicate n z).toArray := by
  apply Array.toList_inj.1
  apply List.ext_getElem?
  intro j
  by_cases hj : j < n
  · have h2 : j % 2 = 0 ∨ j % 2 = 1 := by omega
    rcases h2 with h2 | h2 <;> simp [madeCells, hj, h2]
  · simp [madeCells, hj]
section
variable {w w' : World} {b : Nat} {hs : List HopD}
theorem HRow.made {n : Nat} (hb : b = w.heap.size) : HRow (w.alloc (.cells (madeCells #[.int .i64 0, .int .i64 0] (n * 2)) 46)) b (List.replicate n ⟨0, 0⟩) := by
  refine ⟨_, Blk.new_ hb, fun k h hk => ?_⟩
  have hlt := lt_of_get hk
  simp only [List.length_replicate] at hlt
  rw [List.getElem?_replicate, if_pos hlt] at hk
  obtain rfl : (⟨0, 0⟩ : HopD) = h := by simpa using hk
  rw [made_two]
  constructor
  · rw [List.getElem?_toArray, List.getElem?_replicate, if_pos (by omega)]
  · rw [List.getElem?_toArray, List.getElem?_replicate, if_pos (by omega)]
theorem HRow.lt (h : HRow w b hs) : b < w.heap.size := by obtain ⟨cs, h, _⟩ := h; exact h.lt
theorem HRow.frozen (h : HRow w b hs) (i : Nat) : w.frozen? ⟨b, i, none⟩ = false := by obtain ⟨cs, h, _⟩ := h; exact h.frozen i
theorem HRow.cell (h : HRow w b hs) {k : Nat} {x : HopD} (hk : hs[k]? = some x) : w.cell? ⟨b, k * 2, none⟩ = some (.int .i64 x.edge) ∧ w.cell? ⟨b, k * 2 + 1, none⟩ = some (.int .i64 x.depart) := by
  obtain ⟨cs, h, hc⟩ := h
  rw [h.cell, h.cell]
  exact hc k x hk
theorem HRow.ext (h : HRow w b hs) (hb : Below w.heap.size w w') : HRow w' b hs := by obtain ⟨cs, h, hc⟩ := h; exact ⟨cs, h.ext hb, hc⟩
theorem HRow.alloc (h : HRow w b hs) (o : Obj) : HRow (w.alloc o) b hs := by obtain ⟨cs, h, hc⟩ := h; exact ⟨cs, h.alloc o, hc⟩
theorem HRow.drew (h : HRow w b hs) : HRow w.drew b hs := h
theorem HRow.drewN (h : HRow w b hs) (n : Nat) : HRow (w.drewN n) b hs := h
theorem HRow.far (h : HRow w b hs) {p : Addr} (hp : b ≠ p.block) (u : Value) : HRow (w.setCell p u) b hs := by obtain ⟨cs, h, hc⟩ := h; exact ⟨cs, h.far hp u, hc⟩
theorem HRow.set (h : HRow w b hs) (k : Nat) (x : HopD) (hk : k < hs.length) : HRow ((w.setCell ⟨b, k * 2, none⟩ (.int .i64 x.edge)).setCell ⟨b, k * 2 + 1, none⟩ (.int .i64 x.depart)) b (hs.set k x) := by
  obtain ⟨cs, h, hc⟩ := h
  obtain ⟨y, hy⟩ := get_lt hk
  have h1 := hc k y hy
  have hz : k * 2 + 1 < cs.size := by
    refine Classical.byContradiction fun hn => ?_
    have h2 := h1.2
    rw [Array.getElem?_eq_none (by omega)] at h2
    simp at h2
  refine ⟨_, (h.set_ _ _).set_ _ _, fun i z hi => ?_⟩
  by_cases e : k = i
  · subst e
    rw [List.getElem?_set_self hk] at hi
    obtain rfl : x = z := by simpa using hi
    constructor
    · rw [Array.getElem?_setIfInBounds_ne (by omega), Array.getElem?_setIfInBounds_self_of_lt (by omega)]
    · rw [Array.getElem?_setIfInBounds_self_of_lt (by simp; omega)]
  · rw [List.getElem?_set_ne e] at hi
    have h2 := hc i z hi
    constructor
    · rw [Array.getElem?_setIfInBounds_ne (by omega), Array.getElem?_setIfInBounds_ne (by omega)]; exact h2.1
    · rw [Array.getElem?_setIfInBounds_ne (by omega), Array.getElem?_setIfInBounds_ne (by omega)]; exact h2.2
theorem HRow.slAt (h : HRow w b hs) (hi : ∀ x, x ∈ hs → I64 x.edge ∧ I64 x.depart) : SlAt RHop 2 w (some ⟨b, 0, none⟩) hs := by
  refine ⟨b, 0, fun i x hx => ⟨rfl, h.lt, ?_⟩⟩
  have h2 := h.cell hx
  have h3 := hi x (List.mem_of_getElem? hx)
  refine ⟨⟨?_, ?_⟩, h3⟩ <;> (unfold cellIs; rw [Nat.zero_add])
  · exact h2.1
  · exact h2.2
end
theorem make_hops (n : Nat) (h : n ≤ 1000000) (w : World) : (Instr.makeSlice 36 (.int .i64 (n : Int)) (.int .i64 (n : Int))).run Try.prog w = .ok (.slice (some ⟨w.heap.size, 0, none⟩) n n) (w.alloc (.cells (madeCells #[.int .i64 0, .int .i64 0] (n * 2)) 46)) := by
  obtain ⟨i, hi, hzz⟩ := Option.map_eq_some_iff.1 info_hop
  simp only [Prod.mk.injEq] at hzz
  obtain ⟨hz, hs, hb⟩ := hzz
  have hr := run_make (P := Try.prog) w 36 46 i _ Try.underlying36 hi hz .i64 .i64 n n (by omega) (Int.le_refl _) (by rw [hb]; omega) (by omega)
  simp only [Int.toNat_natCast, hs] at hr
  exact hr

/-- By which hop one has come to each vertex. -/
structure HopsOk (g : GraphD) (v t : Int) (l : List Int) (hs : List HopD) (done : Nat → Bool) : Prop where
  len : hs.length = g.lives.length
  small : ∀ h, h ∈ hs → 0 ≤ h.edge ∧ h.edge ≤ 30 ∧ 0 ≤ h.depart ∧ h.depart ≤ 100
  come : ∀ k, k < g.lives.length → gi l k < Never → ((k : Int) = v ∧ gi l k = t ∧ aliveB g v t = true) ∨
    ∃ x h lg, hs[k]? = some h ∧ g.edges[h.edge.toNat]? = some x ∧ x.b = (k : Int) ∧ done x.a.toNat = true ∧ gi l x.a.toNat ≤ h.depart ∧ arrive g x h.depart = some (lg, gi l k)
section
variable {g : GraphD} {v t : Int} {l : List Int} {hs : List HopD} {done done' : Nat → Bool}
theorem HopsOk.start : HopsOk g v t (startE g v t) (List.replicate g.lives.length ⟨0, 0⟩) done :=
  ⟨by simp, fun h hm => by obtain ⟨_, rfl⟩ := List.mem_replicate.1 hm; simp, fun k hk hf => by
    rw [startE_val hk] at hf ⊢
    split at hf
    · rename_i hp
      exact .inl ⟨hp.2, by rw [if_pos hp], hp.1⟩
    · omega⟩
theorem HopsOk.mono (h : HopsOk g v t l hs done) (hd : ∀ u, done u = true → done' u = true) : HopsOk g v t l hs done' :=
  ⟨h.len, h.small, fun k hk hf => (h.come k hk hf).imp id fun ⟨x, y, lg, h1, h2, h3, h4, h5⟩ => ⟨x, y, lg, h1, h2, h3, hd _ h4, h5⟩⟩
theorem HopsOk.step (hV : Valid g) (h : HopsOk g v t l hs done) (hl : l.length = g.lives.length) {x : EdgeD} {j : Nat} (hx : g.edges[j]? = some x) {d to : Int} (hf : first g x (gi l x.a.toNat) = some (d, to)) (ht0 : 0 ≤ gi l x.a.toNat)
    (hlt : to < gi l x.b.toNat) (hda : done x.a.toNat = true) (hle : ∀ u, done u = true → gi l u ≤ gi l x.a.toNat) : HopsOk g v t (l.set x.b.toNat to) (hs.set x.b.toNat ⟨j, d⟩) done := by
  have ho := hV.edges x (List.mem_of_getElem? hx)
  have h0 := ho.b0; have h1 := ho.b1; have h2 := ho.a0; have h3 := ho.a1
  obtain ⟨f1, ⟨lg, f2⟩, _⟩ := first_some hf
  have f3 := arrive_late hV ho f2
  have hj := lt_of_get hx
  have hne := hV.ne
  have hb : done x.b.toNat = false := by
    cases hb : done x.b.toNat with
    | false => rfl
    | true => have := hle _ hb; omega
  have ha : ¬ x.a.toNat = x.b.toNat := fun e => by rw [e, hb] at hda; simp at hda
  have e0 : gi (l.set x.b.toNat to) = upd (gi l) x.b.toNat to := gi_set (by omega) to
  refine ⟨by simp [h.len], fun y hy => ?_, fun k hk hn => ?_⟩
  · rcases List.mem_or_eq_of_mem_set hy with hy | rfl
    · exact h.small y hy
    · simp only; omega
  · rw [e0] at hn ⊢
    by_cases e : k = x.b.toNat
    · right
      refine ⟨x, ⟨j, d⟩, lg, by rw [e, List.getElem?_set_self (by rw [h.len]; omega)], by simpa using hx, by omega, hda, ?_, ?_⟩
      · rw [upd_ne _ _ ha]; exact f1
      · rw [e, upd_at]; exact f2
    · rw [upd_ne _ _ e] at hn ⊢
      rcases h.come k hk hn with hc | ⟨y, z, lg', c1, c2, c3, c4, c5, c6⟩
      · exact .inl hc
      · right
        have hya : ¬ y.a.toNat = x.b.toNat := fun e => by rw [e, hb] at c4; simp at c4
        exact ⟨y, z, lg', by rw [List.getElem?_set_ne (fun h => e h.symm)]; exact c1, c2, c3, c4, by rw [upd_ne _ _ hya]; exact c5, c6⟩
end
end Go.Proofs.Ytcgnalpcbcpmkaa
