/- Several texts in one: WarpKey, Keep, Own, Own2. -/
import Derived.Deep.RegionHeld3
import Derived.OwnWalk
import Derived.Deep.AppendLies
import Derived.Deep.RegionHeldLaw
import Derived.Test.YtdpibehpmghghaaGreatBd0a10e81a0b
import Derived.Test.YtdpibehpmghghaaGreatBd615d7ca311
/- What has been told of messages and states up to a bound; no program in sight. -/
namespace Go.Proofs.YtdpibehpmghghaaGreat

theorem MapG.mem_at {α : Type} : ∀ {l : List (PieceG α)}, MapG l → ∀ {x : PieceG α}, x ∈ l → ∀ {t : Int}, x.f ≤ t → t < x.t → atG l t = some x.v
  | [], _, _, hx, _, _, _ => by simp at hx
  | y :: l, h, x, hx, t, h1, h2 => by
    rcases List.mem_cons.1 hx with rfl | hx
    · exact atG_hit ⟨h1, h2⟩
    · have h3 := (List.pairwise_cons.1 h.1).1 x hx
      rw [atG_miss (by omega)]
      exact h.tail.mem_at hx h1 h2
def KeyK (fn : Int → Option Key) (D : List Int) (i : Nat) (out : List (PieceG Key)) : Prop := (∀ b a, D[0]? = some b → D[i]? = some a → ToldG fn b a out) ∧ out.length ≤ i ∧ (∀ x, x ∈ out → I64 x.f ∧ I64 x.t)
section
variable {fn : Int → Option Key} {D : List Int} {i : Nat} {out o : List (PieceG Key)} {a c p : Int} {v : Key} {z : PieceG Key}
theorem head_of (ha : D[i]? = some a) : ∃ b, D[0]? = some b := get_lt (by have := lt_of_get ha; omega)
theorem head_low (hD : D.Pairwise (· < ·)) {b : Int} (hb : D[0]? = some b) (ha : D[i]? = some a) : b ≤ a := rises_first hD hb (List.mem_of_getElem? ha)
theorem KeyK.start : KeyK fn D 0 [] :=
  ⟨fun b a hb ha => by
    obtain rfl : b = a := by rw [hb] at ha; simpa using ha
    exact ToldG.start, Nat.le_refl _, fun x h => by simp at h⟩
theorem KeyK.skip (h : KeyK fn D i out) (hD : D.Pairwise (· < ·)) (hT : TurnsAt D none fn) (ha : D[i]? = some a) (hc : D[i + 1]? = some c) (hn : fn a = none) : KeyK fn D (i + 1) out :=
  ⟨fun b c' hb hc' => by
    obtain rfl : c = c' := by rw [hc] at hc'; simpa using hc'
    exact (h.1 b a hb ha).skip (rises_lt hD ha hc) (hT.const i a c ha hc) hn, by have := h.2.1; omega, h.2.2⟩
theorem KeyK.grow (h : KeyK fn D i (o ++ [z])) (hD : D.Pairwise (· < ·)) (hT : TurnsAt D none fn) (ha : D[i]? = some a) (hc : D[i + 1]? = some c) (hn : fn a = some z.v) (hz : z.t = a) (hi : I64 c) : KeyK fn D (i + 1) (o ++ [⟨z.f, c, z.v⟩]) :=
  ⟨fun b c' hb hc' => by
    obtain rfl : c = c' := by rw [hc] at hc'; simpa using hc'
    exact (h.1 b a hb ha).grow (head_low hD hb ha) (rises_lt hD ha hc) (hT.const i a c ha hc) hn hz, by have := h.2.1; simp at this ⊢; omega, fun x hx => by
    rcases List.mem_append.1 hx with hx | hx
    · exact h.2.2 x (List.mem_append_left _ hx)
    · obtain rfl : x = _ := by simpa using hx
      exact ⟨(h.2.2 z (by simp)).1, hi⟩⟩
theorem KeyK.next (h : KeyK fn D i out) (hD : D.Pairwise (· < ·)) (hT : TurnsAt D none fn) (ha : D[i]? = some a) (hc : D[i + 1]? = some c) (hn : fn a = some v) (hz : ∀ y, y ∈ out → y.t = a → y.v ≠ v) (hia : I64 a) (hic : I64 c) : KeyK fn D (i + 1) (out ++ [⟨a, c, v⟩]) :=
  ⟨fun b c' hb hc' => by
    obtain rfl : c = c' := by rw [hc] at hc'; simpa using hc'
    exact (h.1 b a hb ha).next (head_low hD hb ha) (rises_lt hD ha hc) (hT.const i a c ha hc) hn hz, by have := h.2.1; simp; omega, fun x hx => by
    rcases List.mem_append.1 hx with hx | hx
    · exact h.2.2 x hx
    · obtain rfl : x = _ := by simpa using hx
      exact ⟨hia, hic⟩⟩
/-- Behind a stretch with something the last piece ends; behind one with nothing none ends. -/
theorem KeyK.prev (h : KeyK fn D (i + 1) out) (hD : D.Pairwise (· < ·)) (hT : TurnsAt D none fn) (hp : D[i]? = some p) (ha : D[i + 1]? = some a) : (fn p = none → ∀ y, y ∈ out → y.t ≠ a) ∧ ∀ v, fn p = some v → ∃ o z, out = o ++ [z] ∧ z.t = a ∧ z.v = v := by
  obtain ⟨b, hb⟩ := head_of hp
  have h1 := h.1 b a hb ha
  have hbp := head_low hD hb hp
  have hpa := rises_lt hD hp ha
  have e : atG out (a - 1) = fn p := by
    rw [h1.tells, if_pos (by omega)]
    exact hT.const i p a hp ha (a - 1) (by omega) (by omega)
  refine ⟨fun hn y hy hya => ?_, fun v hv => ?_⟩
  · have := h1.map.2 y hy
    rw [h1.map.mem_at hy (by omega) (by omega), hn] at e
    simp at e
  · rw [hv] at e
    obtain ⟨y, hy, k1, k2, k3⟩ := atG_some e
    have hlow := h1.low y hy
    rcases List.eq_nil_or_concat out with rfl | ⟨o, z, rfl⟩
    · simp at hy
    · rw [List.concat_eq_append] at *
      refine ⟨o, z, rfl, ?_⟩
      have hzl := h1.low z (by simp)
      rcases List.mem_append.1 hy with hy | hy
      · have := h1.map.ahead hy
        omega
      · obtain rfl : y = z := by simpa using hy
        exact ⟨by omega, k3⟩
theorem KeyK.fin (h : KeyK fn D i out) (hD : D.Pairwise (· < ·)) (hT : TurnsAt D none fn) (hi : D.length ≤ i + 1) (h0 : i < D.length ∨ (D = [] ∧ out = [])) : MapG out ∧ ∀ t, atG out t = fn t := by
  rcases h0 with h0 | ⟨rfl, rfl⟩
  · obtain ⟨a, ha⟩ := get_lt h0
    obtain ⟨b, hb⟩ := head_of ha
    have h1 := h.1 b a hb ha
    refine ⟨h1.map, fun t => ?_⟩
    rw [h1.tells t]
    split
    · rfl
    · rename_i hn
      refine (Classical.byContradiction fun k => ?_ : none = fn t)
      obtain ⟨p, q, hp, hq, k1, k2⟩ := hT.inside t (fun e => k e.symm)
      have := rises_first hD hb hp
      have := rises_last hD ha (by omega) hq
      exact hn ⟨by omega, by omega⟩
  · exact ⟨.nil, fun t => (hT.empty t).symm⟩
end
/-- What was there at the stretch ahead. -/
def LastIs (state l : List PieceD) (D : List Int) (i : Nat) (lw : List Int) (o : Option Int) : Prop := (i = 0 → lw = []) ∧ ∀ j p, i = j + 1 → D[j]? = some p → lw = whichL l p ∧ o = atM state p
section
variable {state l : List PieceD} {D : List Int} {i : Nat} {out : List (PieceG Key)} {a c : Int} {lw : List Int} {o : Option Int}
theorem LastIs.start : LastIs state l D 0 [] none := ⟨fun _ => rfl, fun j p h => by omega⟩
theorem LastIs.next (ha : D[i]? = some a) : LastIs state l D (i + 1) (whichL l a) (atM state a) := ⟨fun h => by omega, fun j p hj hp => by
  obtain rfl : i = j := by omega
  rw [ha] at hp
  obtain rfl : a = p := by simpa using hp
  exact ⟨rfl, rfl⟩⟩
theorem step_skip (h : KeyK (keyF state l) D i out) (hD : D.Pairwise (· < ·)) (hT : TurnsAt D none (keyF state l)) (ha : D[i]? = some a) (hc : D[i + 1]? = some c) (hw : whichL l a = []) : KeyK (keyF state l) D (i + 1) out :=
  h.skip hD hT ha hc (by unfold keyF; rw [if_pos hw])
theorem step_grow (h : KeyK (keyF state l) D i out) (hD : D.Pairwise (· < ·)) (hT : TurnsAt D none (keyF state l)) (ha : D[i]? = some a) (hc : D[i + 1]? = some c) (hi : I64 c) (hL : LastIs state l D i lw o) (h0 : lw ≠ []) (h1 : lw = whichL l a) (h2 : o = atM state a) :
    ∃ q z, out = q ++ [z] ∧ z.t = a ∧ z.v = (whichL l a, atM state a) ∧ KeyK (keyF state l) D (i + 1) (q ++ [⟨z.f, c, z.v⟩]) := by
  match i, h, ha, hc, hL with
  | 0, _, _, _, hL => exact absurd (hL.1 rfl) h0
  | j + 1, h, ha, hc, hL =>
    obtain ⟨p, hp⟩ := get_lt (show j < D.length by have := lt_of_get ha; omega)
    obtain ⟨k1, k2⟩ := hL.2 j p rfl hp
    have hk : keyF state l p = some (lw, o) := by unfold keyF; rw [← k1, ← k2, if_neg h0]
    obtain ⟨q, z, rfl, hz, hv⟩ := (h.prev hD hT hp ha).2 _ hk
    have hv2 : z.v = (whichL l a, atM state a) := by rw [hv, h1, h2]
    exact ⟨q, z, rfl, hz, hv2, h.grow hD hT ha hc (by unfold keyF; rw [if_neg (by rw [← h1]; exact h0), hv2]) hz hi⟩
theorem step_next (h : KeyK (keyF state l) D i out) (hD : D.Pairwise (· < ·)) (hT : TurnsAt D none (keyF state l)) (ha : D[i]? = some a) (hc : D[i + 1]? = some c) (hia : I64 a) (hic : I64 c) (hL : LastIs state l D i lw o) (hw : whichL l a ≠ []) (hne : lw = [] ∨ ¬ (lw = whichL l a ∧ o = atM state a)) :
    KeyK (keyF state l) D (i + 1) (out ++ [⟨a, c, (whichL l a, atM state a)⟩]) := by
  refine h.next hD hT ha hc (by unfold keyF; rw [if_neg hw]) (fun y hy hya hyv => ?_) hia hic
  match i, h, ha, hL with
  | 0, h, _, _ => have := h.2.1; simp at this; rw [this] at hy; simp at hy
  | j + 1, h, ha, hL =>
    obtain ⟨p, hp⟩ := get_lt (show j < D.length by have := lt_of_get ha; omega)
    obtain ⟨k1, k2⟩ := hL.2 j p rfl hp
    have hpr := h.prev hD hT hp ha
    by_cases h0 : lw = []
    · exact hpr.1 (by unfold keyF; rw [← k1, if_pos h0]) y hy hya
    · have hk : keyF state l p = some (lw, o) := by unfold keyF; rw [← k1, ← k2, if_neg h0]
      obtain ⟨q, z, rfl, hz, hv⟩ := hpr.2 _ hk
      obtain ⟨b, hb⟩ := head_of ha
      rcases List.mem_append.1 hy with hy | hy
      · have := (h.1 b a hb ha).map.ahead hy
        omega
      · obtain rfl : y = z := by simpa using hy
        rw [hv] at hyv
        rcases hne with hne | hne
        · exact h0 hne
        · exact hne (by simpa using hyv)
end
end Go.Proofs.YtdpibehpmghghaaGreat
/- Cells that stay while memory grows, by the handful; small laws for drawn regions. -/
namespace Go.Proofs.YtdpibehpmghghaaGreat
open Go.RowKit

theorem results_tmp4 {fn : Func} {t u v x : Tmp} (h : fn.results = #[.tmp t, .tmp u, .tmp v, .tmp x]) (tmps : Array Value) (P : Program) (w : World) :
    (results fn tmps).run P w = .ok (.tuple #[tmps.getD t undef, tmps.getD u undef, tmps.getD v undef, tmps.getD x undef]) w := by simp [results, h]
theorem cell_keep {w w' : World} {p : Addr} {v : Value} (hb : Below w.heap.size w w') (h : w.cell? p = some v) : w'.cell? p = some v := (hb.cell (World.block_lt_of_cell? w p h)).trans h
theorem bcell {W w1 : World} (hb : Below W.heap.size W w1) : (∀ b o, b < W.heap.size → w1.cell? ⟨b, o, none⟩ = W.cell? ⟨b, o, none⟩) ∧ (∀ b o, b < W.heap.size → w1.frozen? ⟨b, o, none⟩ = W.frozen? ⟨b, o, none⟩) :=
  ⟨fun b o h => hb.cell (p := ⟨b, o, none⟩) h, fun b o h => hb.frozen (p := ⟨b, o, none⟩) h⟩
theorem keep2 {w w' : World} {p0 p1 : Addr} {v0 v1 : Value} (hb : Below w.heap.size w w') (h : w.cell? p0 = some v0 ∧ w.cell? p1 = some v1) : w'.cell? p0 = some v0 ∧ w'.cell? p1 = some v1 := by
  obtain ⟨h0, h1⟩ := h
  exact ⟨cell_keep hb h0, cell_keep hb h1⟩
theorem keep3 {w w' : World} {p0 p1 p2 : Addr} {v0 v1 v2 : Value} (hb : Below w.heap.size w w') (h : w.cell? p0 = some v0 ∧ w.cell? p1 = some v1 ∧ w.cell? p2 = some v2) : w'.cell? p0 = some v0 ∧ w'.cell? p1 = some v1 ∧ w'.cell? p2 = some v2 := by
  obtain ⟨h0, h1, h2⟩ := h
  exact ⟨cell_keep hb h0, cell_keep hb h1, cell_keep hb h2⟩
theorem keep4 {w w' : World} {p0 p1 p2 p3 : Addr} {v0 v1 v2 v3 : Value} (hb : Below w.heap.size w w') (h : w.cell? p0 = some v0 ∧ w.cell? p1 = some v1 ∧ w.cell? p2 = some v2 ∧ w.cell? p3 = some v3) : w'.cell? p0 = some v0 ∧ w'.cell? p1 = some v1 ∧ w'.cell? p2 = some v2 ∧ w'.cell? p3 = some v3 := by
  obtain ⟨h0, h1, h2, h3⟩ := h
  exact ⟨cell_keep hb h0, cell_keep hb h1, cell_keep hb h2, cell_keep hb h3⟩
theorem keep5 {w w' : World} {p0 p1 p2 p3 p4 : Addr} {v0 v1 v2 v3 v4 : Value} (hb : Below w.heap.size w w') (h : w.cell? p0 = some v0 ∧ w.cell? p1 = some v1 ∧ w.cell? p2 = some v2 ∧ w.cell? p3 = some v3 ∧ w.cell? p4 = some v4) : w'.cell? p0 = some v0 ∧ w'.cell? p1 = some v1 ∧ w'.cell? p2 = some v2 ∧ w'.cell? p3 = some v3 ∧ w'.cell? p4 = some v4 := by
  obtain ⟨h0, h1, h2, h3, h4⟩ := h
  exact ⟨cell_keep hb h0, cell_keep hb h1, cell_keep hb h2, cell_keep hb h3, cell_keep hb h4⟩
theorem keep6 {w w' : World} {p0 p1 p2 p3 p4 p5 : Addr} {v0 v1 v2 v3 v4 v5 : Value} (hb : Below w.heap.size w w') (h : w.cell? p0 = some v0 ∧ w.cell? p1 = some v1 ∧ w.cell? p2 = some v2 ∧ w.cell? p3 = some v3 ∧ w.cell? p4 = some v4 ∧ w.cell? p5 = some v5) : w'.cell? p0 = some v0 ∧ w'.cell? p1 = some v1 ∧ w'.cell? p2 = some v2 ∧ w'.cell? p3 = some v3 ∧ w'.cell? p4 = some v4 ∧ w'.cell? p5 = some v5 := by
  obtain ⟨h0, h1, h2, h3, h4, h5⟩ := h
  exact ⟨cell_keep hb h0, cell_keep hb h1, cell_keep hb h2, cell_keep hb h3, cell_keep hb h4, cell_keep hb h5⟩
theorem keep7 {w w' : World} {p0 p1 p2 p3 p4 p5 p6 : Addr} {v0 v1 v2 v3 v4 v5 v6 : Value} (hb : Below w.heap.size w w') (h : w.cell? p0 = some v0 ∧ w.cell? p1 = some v1 ∧ w.cell? p2 = some v2 ∧ w.cell? p3 = some v3 ∧ w.cell? p4 = some v4 ∧ w.cell? p5 = some v5 ∧ w.cell? p6 = some v6) : w'.cell? p0 = some v0 ∧ w'.cell? p1 = some v1 ∧ w'.cell? p2 = some v2 ∧ w'.cell? p3 = some v3 ∧ w'.cell? p4 = some v4 ∧ w'.cell? p5 = some v5 ∧ w'.cell? p6 = some v6 := by
  obtain ⟨h0, h1, h2, h3, h4, h5, h6⟩ := h
  exact ⟨cell_keep hb h0, cell_keep hb h1, cell_keep hb h2, cell_keep hb h3, cell_keep hb h4, cell_keep hb h5, cell_keep hb h6⟩
theorem keep8 {w w' : World} {p0 p1 p2 p3 p4 p5 p6 p7 : Addr} {v0 v1 v2 v3 v4 v5 v6 v7 : Value} (hb : Below w.heap.size w w') (h : w.cell? p0 = some v0 ∧ w.cell? p1 = some v1 ∧ w.cell? p2 = some v2 ∧ w.cell? p3 = some v3 ∧ w.cell? p4 = some v4 ∧ w.cell? p5 = some v5 ∧ w.cell? p6 = some v6 ∧ w.cell? p7 = some v7) : w'.cell? p0 = some v0 ∧ w'.cell? p1 = some v1 ∧ w'.cell? p2 = some v2 ∧ w'.cell? p3 = some v3 ∧ w'.cell? p4 = some v4 ∧ w'.cell? p5 = some v5 ∧ w'.cell? p6 = some v6 ∧ w'.cell? p7 = some v7 := by
  obtain ⟨h0, h1, h2, h3, h4, h5, h6, h7⟩ := h
  exact ⟨cell_keep hb h0, cell_keep hb h1, cell_keep hb h2, cell_keep hb h3, cell_keep hb h4, cell_keep hb h5, cell_keep hb h6, cell_keep hb h7⟩
theorem keep9 {w w' : World} {p0 p1 p2 p3 p4 p5 p6 p7 p8 : Addr} {v0 v1 v2 v3 v4 v5 v6 v7 v8 : Value} (hb : Below w.heap.size w w') (h : w.cell? p0 = some v0 ∧ w.cell? p1 = some v1 ∧ w.cell? p2 = some v2 ∧ w.cell? p3 = some v3 ∧ w.cell? p4 = some v4 ∧ w.cell? p5 = some v5 ∧ w.cell? p6 = some v6 ∧ w.cell? p7 = some v7 ∧ w.cell? p8 = some v8) : w'.cell? p0 = some v0 ∧ w'.cell? p1 = some v1 ∧ w'.cell? p2 = some v2 ∧ w'.cell? p3 = some v3 ∧ w'.cell? p4 = some v4 ∧ w'.cell? p5 = some v5 ∧ w'.cell? p6 = some v6 ∧ w'.cell? p7 = some v7 ∧ w'.cell? p8 = some v8 := by
  obtain ⟨h0, h1, h2, h3, h4, h5, h6, h7, h8⟩ := h
  exact ⟨cell_keep hb h0, cell_keep hb h1, cell_keep hb h2, cell_keep hb h3, cell_keep hb h4, cell_keep hb h5, cell_keep hb h6, cell_keep hb h7, cell_keep hb h8⟩
theorem keep10 {w w' : World} {p0 p1 p2 p3 p4 p5 p6 p7 p8 p9 : Addr} {v0 v1 v2 v3 v4 v5 v6 v7 v8 v9 : Value} (hb : Below w.heap.size w w') (h : w.cell? p0 = some v0 ∧ w.cell? p1 = some v1 ∧ w.cell? p2 = some v2 ∧ w.cell? p3 = some v3 ∧ w.cell? p4 = some v4 ∧ w.cell? p5 = some v5 ∧ w.cell? p6 = some v6 ∧ w.cell? p7 = some v7 ∧ w.cell? p8 = some v8 ∧ w.cell? p9 = some v9) : w'.cell? p0 = some v0 ∧ w'.cell? p1 = some v1 ∧ w'.cell? p2 = some v2 ∧ w'.cell? p3 = some v3 ∧ w'.cell? p4 = some v4 ∧ w'.cell? p5 = some v5 ∧ w'.cell? p6 = some v6 ∧ w'.cell? p7 = some v7 ∧ w'.cell? p8 = some v8 ∧ w'.cell? p9 = some v9 := by
  obtain ⟨h0, h1, h2, h3, h4, h5, h6, h7, h8, h9⟩ := h
  exact ⟨cell_keep hb h0, cell_keep hb h1, cell_keep hb h2, cell_keep hb h3, cell_keep hb h4, cell_keep hb h5, cell_keep hb h6, cell_keep hb h7, cell_keep hb h8, cell_keep hb h9⟩
theorem keep11 {w w' : World} {p0 p1 p2 p3 p4 p5 p6 p7 p8 p9 p10 : Addr} {v0 v1 v2 v3 v4 v5 v6 v7 v8 v9 v10 : Value} (hb : Below w.heap.size w w') (h : w.cell? p0 = some v0 ∧ w.cell? p1 = some v1 ∧ w.cell? p2 = some v2 ∧ w.cell? p3 = some v3 ∧ w.cell? p4 = some v4 ∧ w.cell? p5 = some v5 ∧ w.cell? p6 = some v6 ∧ w.cell? p7 = some v7 ∧ w.cell? p8 = some v8 ∧ w.cell? p9 = some v9 ∧ w.cell? p10 = some v10) : w'.cell? p0 = some v0 ∧ w'.cell? p1 = some v1 ∧ w'.cell? p2 = some v2 ∧ w'.cell? p3 = some v3 ∧ w'.cell? p4 = some v4 ∧ w'.cell? p5 = some v5 ∧ w'.cell? p6 = some v6 ∧ w'.cell? p7 = some v7 ∧ w'.cell? p8 = some v8 ∧ w'.cell? p9 = some v9 ∧ w'.cell? p10 = some v10 := by
  obtain ⟨h0, h1, h2, h3, h4, h5, h6, h7, h8, h9, h10⟩ := h
  exact ⟨cell_keep hb h0, cell_keep hb h1, cell_keep hb h2, cell_keep hb h3, cell_keep hb h4, cell_keep hb h5, cell_keep hb h6, cell_keep hb h7, cell_keep hb h8, cell_keep hb h9, cell_keep hb h10⟩
theorem keep12 {w w' : World} {p0 p1 p2 p3 p4 p5 p6 p7 p8 p9 p10 p11 : Addr} {v0 v1 v2 v3 v4 v5 v6 v7 v8 v9 v10 v11 : Value} (hb : Below w.heap.size w w') (h : w.cell? p0 = some v0 ∧ w.cell? p1 = some v1 ∧ w.cell? p2 = some v2 ∧ w.cell? p3 = some v3 ∧ w.cell? p4 = some v4 ∧ w.cell? p5 = some v5 ∧ w.cell? p6 = some v6 ∧ w.cell? p7 = some v7 ∧ w.cell? p8 = some v8 ∧ w.cell? p9 = some v9 ∧ w.cell? p10 = some v10 ∧ w.cell? p11 = some v11) : w'.cell? p0 = some v0 ∧ w'.cell? p1 = some v1 ∧ w'.cell? p2 = some v2 ∧ w'.cell? p3 = some v3 ∧ w'.cell? p4 = some v4 ∧ w'.cell? p5 = some v5 ∧ w'.cell? p6 = some v6 ∧ w'.cell? p7 = some v7 ∧ w'.cell? p8 = some v8 ∧ w'.cell? p9 = some v9 ∧ w'.cell? p10 = some v10 ∧ w'.cell? p11 = some v11 := by
  obtain ⟨h0, h1, h2, h3, h4, h5, h6, h7, h8, h9, h10, h11⟩ := h
  exact ⟨cell_keep hb h0, cell_keep hb h1, cell_keep hb h2, cell_keep hb h3, cell_keep hb h4, cell_keep hb h5, cell_keep hb h6, cell_keep hb h7, cell_keep hb h8, cell_keep hb h9, cell_keep hb h10, cell_keep hb h11⟩
end Go.Proofs.YtdpibehpmghghaaGreat
/- Lists that a call builds for itself: what it owns, how an append makes it longer, how it reads in the end. -/
namespace Go.Proofs.YtdpibehpmghghaaGreat
open Go.RowKit

/-- The slice value v owns the list l, each element of sz cells as enc says, in blocks from base on. -/
def Own {α : Type} (enc : α → List Value) (sz : Nat) (w : World) (base : Nat) (e : TypeId) (v : Value) (l : List α) : Prop := w.ownsRow base e sz v l.length (l.flatMap enc)
theorem Own.nil {α : Type} {enc : α → List Value} {sz : Nat} {w : World} {base : Nat} {e : TypeId} : Own enc sz w base e (.slice none 0 0) ([] : List α) := World.ownsRow_nil _ _ _ _
section
variable {α : Type} {enc : α → List Value} {sz : Nat} {w w' : World} {base : Nat} {e : TypeId} {v : Value} {l : List α}
theorem Own.alloc (h : Own enc sz w base e v l) (o : Obj) : Own enc sz (w.alloc o) base e v l := World.ownsRow.alloc h o
theorem Own.drew (h : Own enc sz w base e v l) : Own enc sz w.drew base e v l := h
theorem Own.drewN (h : Own enc sz w base e v l) (n : Nat) : Own enc sz (w.drewN n) base e v l := h
theorem Own.ext (h : Own enc sz w base e v l) (hb : Below w.heap.size w w') : Own enc sz w' base e v l := by
  refine ⟨h.1, ?_⟩
  rcases h.2 with h2 | ⟨g, cap, cur, hv, hg, hh, r⟩
  · exact .inl h2
  · have hlt : g < w.heap.size := by
      rcases Nat.lt_or_ge g w.heap.size with hlt | hge
      · exact hlt
      · rw [Array.getElem?_eq_none hge] at hh; cases hh
    exact .inr ⟨g, cap, cur, hv, hg, (hb.block g hlt).trans hh, r⟩
theorem Own.form (h : Own enc sz w base e v l) : ∃ A c, v = .slice A l.length c := by
  rcases h.2 with ⟨rfl, h0⟩ | ⟨g, cap, cur, rfl, _⟩
  · exact ⟨none, 0, by rw [h0]⟩
  · exact ⟨_, _, rfl⟩
theorem Own.len (h : Own enc sz w base e v l) : l.length ≤ maxLen := by
  rcases h.2 with ⟨rfl, h0⟩ | ⟨g, cap, cur, rfl, _, _, h1, h2, _⟩
  · rw [h0]; exact Nat.zero_le _
  · exact Nat.le_trans h1 h2
/-- What is owned reads as the list. -/
theorem Own.slAt {R : World → Nat → Nat → α → Prop} (hsz : ∀ x, (enc x).length = sz) (hR : ∀ x, x ∈ l → ∀ b o, (∀ j u, (enc x)[j]? = some u → cellIs w b (o + j) u) → R w b o x) (h : Own enc sz w base e v l) :
    ∃ A c, v = .slice A l.length c ∧ SlAt R sz w A l := by
  rcases h.2 with ⟨rfl, h0⟩ | ⟨g, cap, cur, rfl, hg, hh, hnc, hcm, hcs, htake⟩
  · refine ⟨none, 0, by rw [h0], 0, 0, fun i x hx => ?_⟩
    have : l = [] := List.eq_nil_of_length_eq_zero h0
    subst this
    simp at hx
  · refine ⟨some ⟨g, 0, none⟩, cap, rfl, g, 0, fun i x hx => ⟨rfl, ?_, ?_⟩⟩
    · rcases Nat.lt_or_ge g w.heap.size with hlt | hge
      · exact hlt
      · rw [Array.getElem?_eq_none hge] at hh; cases hh
    · refine hR x (List.mem_of_getElem? hx) g _ fun j u hu => ?_
      have hil := lt_of_get hx
      have hj : j < sz := by rw [← hsz x]; exact lt_of_get hu
      have hfl : ∀ (l : List α) (i : Nat), l[i]? = some x → (l.flatMap enc)[i * sz + j]? = some u := by
        intro l
        induction l with
        | nil => intro i h; simp at h
        | cons y l ih =>
          intro i h
          cases i with
          | zero =>
            obtain rfl : y = x := by simpa using h
            rw [List.flatMap_cons, List.getElem?_append_left (by rw [hsz]; omega)]
            simpa using hu
          | succ i =>
            have h' : l[i]? = some x := by simpa using h
            rw [List.flatMap_cons, List.getElem?_append_right (by rw [hsz, Nat.succ_mul]; omega), hsz]
            have e : (i + 1) * sz + j - sz = i * sz + j := by rw [Nat.succ_mul]; omega
            rw [e]
            exact ih i h'
      have h1 := hfl l i hx
      rw [← htake] at h1
      have hlt : i * sz + j < l.length * sz := by
        have := lt_of_get h1
        rw [List.length_take] at this
        omega
      rw [List.getElem?_take_of_lt hlt] at h1
      show w.cell? _ = _
      rw [cell_of_row w g _ cur e (0, 0) hh]
      simpa using h1
end

theorem wpList_append_el {P : Program} {ops : Array Oper} {rest : List Oper} {o : Oper} {a : Act} {Q : Exit → Act → World → Prop} {w0 : World} {α : Type} {enc : α → List Value} (hgd : o.guard = none) (s x : Operand) (t : TypeId)
    (ho : o.op = .call { callee := .builtin .append, args := #[s, x], argTypes := #[t, t] })
    (base : Nat) (e : TypeId) (i : TypeInfo) (z : Value) (size bytes : Nat) (ht : P.underlying t = some (.slice e)) (hi : P.info? e = some i) (hz : i.zero = some z)
    (hsize : i.size = size) (hby : i.bytes = bytes) (hzs : z.cells.size = size) (hsz : 0 < size)
    (v : Value) (l : List α) (y : α) (hs : a.eval s = v) (hown : Own enc size w0 base e v l) (cs : Array Value) (hcy : cs.toList = enc y) (k : Nat) (hk : k = w0.heap.size) (hx : a.eval x = .slice (some ⟨k, 0, none⟩) 1 1) (hcs : cs.size = size)
    (h1 : ∀ u ∈ cs.toList, u.oneCell' = true) (h63 : l.length + 1 ≤ 1000000) (hby2 : bytes ≤ 1000) (hbase : base ≤ w0.heap.size)
    (h : ∀ v' w', Own enc size w' base e v' (l ++ [y]) → Below base w0 w' → wpList P ops Q rest (a.put o.dst v') w') : wpList P ops Q (o :: rest) a (w0.alloc (.cells cs e)) := by
  subst hk
  have hb2 : (l.length + 1) * bytes ≤ 140737488355328 := Nat.le_trans (Nat.mul_le_mul h63 hby2) (by decide)
  refine wpList_append_own _ hgd s x t ho base e i z size bytes ht hi hz hsize hby hzs hsz v l.length (l.flatMap enc) hs (World.ownsRow.alloc hown _) ⟨w0.heap.size, 0, none⟩ 1 1 cs.toList hx (by simp [hcs])
    ?_ h1 (by unfold maxLen; omega) hb2 (by simp; omega) ?_
  · intro j u hu
    rw [Go.WideShapes.add_plain, cell_of_row _ _ _ cs e (0, 0) (heap_alloc_new w0 _)]
    simpa using hu
  · intro v' w' h2 h3 _
    refine h v' w' ?_ ?_
    · show w'.ownsRow base e size v' (l ++ [y]).length ((l ++ [y]).flatMap enc)
      rw [List.flatMap_append, List.length_append]
      simpa [hcy] using h2
    · have hb : Below base w0 (w0.alloc (.cells cs e)) := (Below.refl _ _).alloc hbase _
      exact hb.grown h3 (by simp; omega) fun k hk => (World.ownsRow.lt hown k hk).1
end Go.Proofs.YtdpibehpmghghaaGreat
/- More on lists that a call owns: an append of several elements, a list that a literal makes. -/
namespace Go.Proofs.YtdpibehpmghghaaGreat
open Go.RowKit

/-- A block of another kind than a list's rows is not the list's. -/
theorem Own.other {α : Type} {enc : α → List Value} {sz : Nat} {w : World} {base : Nat} {e t : TypeId} {v : Value} {l : List α} {b : Nat} {cs : Array Value} (h : Own enc sz w base e v l) (hb : Blk w b t cs) (ht : t ≠ e) : some b ≠ v.ownBlock := by
  rcases h.2 with ⟨rfl, _⟩ | ⟨g, cap, cur, rfl, _, hh, _⟩
  · simp [Value.ownBlock]
  · intro hbg
    simp only [Value.ownBlock, Option.some.injEq] at hbg
    subst hbg
    unfold Blk at hb
    rw [hh] at hb
    cases hb
    exact ht rfl
theorem wpList_append_els {P : Program} {ops : Array Oper} {rest : List Oper} {o : Oper} {a : Act} {Q : Exit → Act → World → Prop} {w0 : World} {α : Type} {enc : α → List Value} (hgd : o.guard = none) (s x : Operand) (t : TypeId)
    (ho : o.op = .call { callee := .builtin .append, args := #[s, x], argTypes := #[t, t] })
    (base : Nat) (e : TypeId) (i : TypeInfo) (z : Value) (size bytes : Nat) (ht : P.underlying t = some (.slice e)) (hi : P.info? e = some i) (hz : i.zero = some z)
    (hsize : i.size = size) (hby : i.bytes = bytes) (hzs : z.cells.size = size) (hsz : 0 < size)
    (v : Value) (l : List α) (ys : List α) (m : Nat) (hm : ys.length = m) (hs : a.eval s = v) (hown : Own enc size w0 base e v l) (cs : Array Value) (hcy : cs.toList = ys.flatMap enc) (k : Nat) (hk : k = w0.heap.size) (hx : a.eval x = .slice (some ⟨k, 0, none⟩) m m) (hcs : cs.size = m * size)
    (h1 : ∀ u ∈ cs.toList, u.oneCell' = true) (h63 : l.length + m ≤ 1000000) (hby2 : bytes ≤ 1000) (hbase : base ≤ w0.heap.size)
    (h : ∀ v' w', Own enc size w' base e v' (l ++ ys) → Below base w0 w' → (∀ b t' cs', Blk w0 b t' cs' → t' ≠ e → Blk w' b t' cs') → wpList P ops Q rest (a.put o.dst v') w') : wpList P ops Q (o :: rest) a (w0.alloc (.cells cs e)) := by
  subst hk
  have hb2 : (l.length + m) * bytes ≤ 140737488355328 := Nat.le_trans (Nat.mul_le_mul h63 hby2) (by decide)
  refine wpList_append_own _ hgd s x t ho base e i z size bytes ht hi hz hsize hby hzs hsz v l.length (l.flatMap enc) hs (World.ownsRow.alloc hown _) ⟨w0.heap.size, 0, none⟩ m m cs.toList hx (by simp [hcs])
    ?_ h1 (by unfold maxLen; omega) hb2 (by simp; omega) ?_
  · intro j u hu
    rw [Go.WideShapes.add_plain, cell_of_row _ _ _ cs e (0, 0) (heap_alloc_new w0 _)]
    simpa using hu
  · intro v' w' h2 h3 _
    refine h v' w' ?_ ?_ fun b t' cs' hB ht' => (hB.alloc _).grown h3 (hown.other hB ht')
    · show w'.ownsRow base e size v' (l ++ ys).length ((l ++ ys).flatMap enc)
      rw [List.flatMap_append, List.length_append, hm]
      simpa [hcy] using h2
    · have hb : Below base w0 (w0.alloc (.cells cs e)) := (Below.refl _ _).alloc hbase _
      exact hb.grown h3 (by simp; omega) fun k hk => (World.ownsRow.lt hown k hk).1
/-- What a literal makes is owned. -/
theorem Own.lit {α : Type} {enc : α → List Value} {sz : Nat} {w : World} {base : Nat} {e : TypeId} {cs : Array Value} {l : List α} {n m : Nat} (hn : n = w.heap.size) (hb : base ≤ n) (hl : l.length = m) (hcs : cs.toList = l.flatMap enc) (hsz : cs.size = m * sz) (hm : m ≤ maxLen) :
    Own enc sz (w.alloc (.cells cs e)) base e (.slice (some ⟨n, 0, none⟩) m m) l := by
  subst hn
  refine ⟨by rw [← hcs, hl]; simpa using hsz, .inr ⟨w.heap.size, m, cs, by rw [hl], hb, heap_alloc_new w _, by omega, hm, hsz, ?_⟩⟩
  rw [← hcs, hl, List.take_of_length_le]
  simp [hsz]
theorem below_drew {B : Nat} {a w : World} (h : Below B a w) : Below B a w.drew := ⟨h.os, h.tape, h.output, h.size, h.block⟩
theorem cell_keepB {B : Nat} {w w' : World} {p : Addr} {v : Value} (hb : Below B w w') (hp : p.block < B) (h : w.cell? p = some v) : w'.cell? p = some v := (hb.cell hp).trans h
theorem keepB4 {B : Nat} {w w' : World} {p0 p1 p2 p3 : Addr} {v0 v1 v2 v3 : Value} (hb : Below B w w') (h0 : p0.block < B) (h1 : p1.block < B) (h2 : p2.block < B) (h3 : p3.block < B)
    (h : w.cell? p0 = some v0 ∧ w.cell? p1 = some v1 ∧ w.cell? p2 = some v2 ∧ w.cell? p3 = some v3) : w'.cell? p0 = some v0 ∧ w'.cell? p1 = some v1 ∧ w'.cell? p2 = some v2 ∧ w'.cell? p3 = some v3 := by
  obtain ⟨k0, k1, k2, k3⟩ := h
  exact ⟨cell_keepB hb h0 k0, cell_keepB hb h1 k1, cell_keepB hb h2 k2, cell_keepB hb h3 k3⟩
theorem keepB5 {B : Nat} {w w' : World} {p0 p1 p2 p3 p4 : Addr} {v0 v1 v2 v3 v4 : Value} (hb : Below B w w') (h0 : p0.block < B) (h1 : p1.block < B) (h2 : p2.block < B) (h3 : p3.block < B) (h4 : p4.block < B)
    (h : w.cell? p0 = some v0 ∧ w.cell? p1 = some v1 ∧ w.cell? p2 = some v2 ∧ w.cell? p3 = some v3 ∧ w.cell? p4 = some v4) : w'.cell? p0 = some v0 ∧ w'.cell? p1 = some v1 ∧ w'.cell? p2 = some v2 ∧ w'.cell? p3 = some v3 ∧ w'.cell? p4 = some v4 := by
  obtain ⟨k0, k1, k2, k3, k4⟩ := h
  exact ⟨cell_keepB hb h0 k0, cell_keepB hb h1 k1, cell_keepB hb h2 k2, cell_keepB hb h3 k3, cell_keepB hb h4 k4⟩
/-- An append of several elements at a step of a region that draws its order. -/
theorem step_append_els {P : Program} {w : World} {ops : Array Oper} {o : Oper} {a : Act} {K : Act → World → Prop} {Q : Exit → Act → World → Prop} {E : Prop} {α : Type} {enc : α → List Value} (hgd : o.guard = none) (s x : Operand) (t : TypeId)
    (ho : o.op = .call { callee := .builtin .append, args := #[s, x], argTypes := #[t, t] })
    (base : Nat) (e : TypeId) (i : TypeInfo) (z : Value) (size bytes : Nat) (ht : P.underlying t = some (.slice e)) (hi : P.info? e = some i) (hz : i.zero = some z)
    (hsize : i.size = size) (hby : i.bytes = bytes) (hzs : z.cells.size = size) (hsz : 0 < size)
    (v : Value) (l : List α) (ys : List α) (m : Nat) (hm : ys.length = m) (hm0 : 0 < m) (hs : a.eval s = v) (hown : Own enc size w base e v l) (cs : Array Value) (hcy : cs.toList = ys.flatMap enc) (k : Nat) (hk : Blk w k e cs) (hx : a.eval x = .slice (some ⟨k, 0, none⟩) m m) (hcs : cs.size = m * size)
    (h1 : ∀ u ∈ cs.toList, u.oneCell' = true) (h63 : l.length + m ≤ 1000000) (hby2 : bytes ≤ 1000) (hbase : base ≤ w.heap.size)
    (h : ∀ v' w', Own enc size w' base e v' (l ++ ys) → Below base w w' → (∀ b t' cs', Blk w b t' cs' → t' ≠ e → Blk w' b t' cs') → K (a.put o.dst v') w') :
    if Region.wanted o (yielded ops a.tmps) = true then Oper.wp P o a w K Q else E := by
  have hb2 : (l.length + m) * bytes ≤ 140737488355328 := Nat.le_trans (Nat.mul_le_mul h63 hby2) (by decide)
  refine step_append_lies w hgd s x t ho base e i z size bytes ht hi hz hsize hby hzs hsz v l.length (l.flatMap enc) hs hown ⟨k, 0, none⟩ m m cs.toList hx (by simp [hcs])
    (World.news_of_block hk) h1 hm0 (by unfold maxLen; omega) hb2 hbase _ rfl ?_
  intro g cap w' h2 h3 _ _
  refine h _ w' ?_ ?_ fun b t' cs' hB ht' => hB.grown h3 (hown.other hB ht')
  · show w'.ownsRow base e size _ (l ++ ys).length ((l ++ ys).flatMap enc)
    rw [List.flatMap_append, List.length_append, hm]
    simpa [hcy] using h2
  · exact (Below.refl base w).grown h3 hbase fun k hk => (World.ownsRow.lt hown k hk).1
end Go.Proofs.YtdpibehpmghghaaGreat
