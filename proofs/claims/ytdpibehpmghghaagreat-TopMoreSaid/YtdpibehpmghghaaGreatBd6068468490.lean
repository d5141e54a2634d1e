/- Several texts in one: Open, Five, Open2, Leaving, Sys. -/
import Derived.Lib.SmallJoins
import Derived.Deep.Slices
import Derived.Deep.Fields
import Derived.Conc.Holds
import Derived.Handed
import Derived.Test.YtdpibehpmghghaaGreatBd615d7ca311
/- From the arguments as the row reads them to plain data: graphs, lists of hops, of ints, of bools, snapshots. -/
namespace Go.Proofs.YtdpibehpmghghaaGreat
open Go.ChangeShapes Go.WideShapes Go.RowKit Go.Deep Go.Joins

section
variable {H : Type} {enc : TypeId × Value → H} {W : World} {spare : Nat → Bool} {held : Bool}

theorem i64_of_wf {n : Int} (h : (Lit.int .i64 n).wf = true) : I64 n := by
  simp [Lit.wf, IntKind.min, IntKind.max, IntKind.signed, IntKind.bits] at h
  exact ⟨by omega, by omega⟩

theorem field_cell {P : Program} {base fuel : Nat} {e : TypeId} {fs : Array Field} {cs : List Value} {x : DataW H × List MemPlace} (he : P.underlying e = some (.struct fs)) (hone : oneCellFields P fs = true)
    (h : DataW.trod enc P W base spare held fuel e cs = some x) (hl : cs.length = fs.size) {j : Nat} {f : Field} (hf : fs[j]? = some f) :
    ∃ c n y, cs[j]? = some c ∧ DataW.trod enc P W base spare held n f.type [c] = some y := by
  obtain ⟨xs, n, _, _, _, hxl, hg⟩ := DataW.trod_struct he h
  obtain ⟨ho, hk⟩ := hone_of hone j f hf
  have hj : j < fs.size := (Array.getElem?_eq_some_iff.1 hf).1
  have h1 := hg j f hf
  rw [ho, hk] at h1
  have e1 : (cs.drop j).take 1 = [cs[j]'(by omega)] := by
    rw [List.drop_eq_getElem_cons (by omega)]; rfl
  rw [e1, List.getElem?_eq_getElem (by omega)] at h1
  exact ⟨_, n, _, List.getElem?_eq_getElem (by omega), h1⟩
theorem field_int {P : Program} {base fuel : Nat} {e : TypeId} {fs : Array Field} {cs : List Value} {x : DataW H × List MemPlace} (he : P.underlying e = some (.struct fs)) (hone : oneCellFields P fs = true)
    (h : DataW.trod enc P W base spare held fuel e cs = some x) (hl : cs.length = fs.size) (j : Nat) {f : Field} (hf : fs[j]? = some f) (hi : P.underlying f.type = some (.int .i64)) :
    ∃ n, cs[j]? = some (.int .i64 n) ∧ I64 n := by
  obtain ⟨c, m, y, hc, ht⟩ := field_cell he hone h hl hf
  obtain ⟨n, hn, _, hw⟩ := DataW.trod_int hi ht
  simp at hn
  exact ⟨n, by rw [hc, hn], i64_of_wf hw⟩

/-- A slice of whatever elements. -/
theorem sl_open {α : Type} [Inhabited α] {R : World → Nat → Nat → α → Prop} {sz : Nat} {t e : TypeId} (ht : Tryz.prog.underlying t = some (.slice e)) (hsz : Tryz.prog.cellsOf e = sz) (hpos : 0 < sz)
    (hel : ∀ (n : Nat) (cs : List Value) (x : DataW H × List MemPlace) (b o : Nat), cs.length = sz → (∀ j, j < sz → W.cell? ⟨b, o + j, none⟩ = cs[j]?) → DataW.trod enc Tryz.prog W 0 spare held n e cs = some x → ∃ y : α, R W b o y)
    {fuel : Nat} {cs : List Value} {x : DataW H × List MemPlace} (h : DataW.trod enc Tryz.prog W 0 spare held fuel t cs = some x) :
    ∃ A c l, cs = [.slice A l.length c] ∧ l.length ≤ c ∧ c ≤ maxLen ∧ SlAt R sz W A l := by
  rcases open_slice ht h with ⟨h0, _⟩ | ⟨a, len, cap, m, n, D, Pl, hcs, _, hlc, hcm, hm, _, hi⟩
  · exact ⟨none, 0, [], by simpa using h0, by simp, by simp, SlAt.nil⟩
  · rw [hsz] at hi
    have hmle : len ≤ m := by rw [hm]; split <;> omega
    rcases Nat.eq_zero_or_pos len with hz | hp
    · subst hz
      exact ⟨some a, cap, [], by simpa using hcs, by simp, hcm, SlAt.nil⟩
    · obtain ⟨b, off, spot⟩ := a
      have hspot : spot = none := by
        obtain ⟨cs', h1, _⟩ := hi 0 (by omega)
        obtain ⟨_, hl, hc⟩ := World.cells?_some h1
        have h2 := hc 0 hpos
        rw [List.getElem?_eq_getElem (by omega)] at h2
        simpa [Addr.add] using World.cell?_spot h2
      subst hspot
      have hy : ∀ i, i < len → ∃ y : α, R W b (off + i * sz) y ∧ b < W.heap.size := by
        intro i hi'
        obtain ⟨cs', h1, h2⟩ := hi i (by omega)
        obtain ⟨_, hl, hc⟩ := World.cells?_some h1
        have hc' : ∀ j, j < sz → W.cell? ⟨b, off + i * sz + j, none⟩ = cs'[j]? := fun j hj => by
          rw [← hc j hj, add_plain, add_plain]
        obtain ⟨y, hy⟩ := hel n cs' _ b (off + i * sz) hl hc' h2
        have h0 := hc' 0 hpos
        rw [List.getElem?_eq_getElem (by omega)] at h0
        exact ⟨y, hy, World.block_lt_of_cell? W _ h0⟩
      obtain ⟨f, hf⟩ := choose_lt hy
      refine ⟨_, cap, (List.range len).map f, by simpa using hcs, by simpa using hlc, hcm, b, off, fun i x hx => ?_⟩
      simp only [List.getElem?_map, Option.map_eq_some_iff] at hx
      obtain ⟨k, hk, rfl⟩ := hx
      have hki : i < len ∧ i = k := by
        rcases Nat.lt_or_ge i len with hlt | hge
        · rw [List.getElem?_range hlt] at hk; exact ⟨hlt, by simpa using hk⟩
        · rw [List.getElem?_eq_none (by simpa using hge)] at hk; cases hk
      obtain ⟨hlt, rfl⟩ := hki
      exact ⟨rfl, (hf i hlt).2, (hf i hlt).1⟩

theorem at0 {b o : Nat} {cs : List Value} {v : Value} {sz : Nat} (hc : ∀ j, j < sz → W.cell? ⟨b, o + j, none⟩ = cs[j]?) (j : Nat) (hj : j < sz) (h : cs[j]? = some v) : cellIs W b (o + j) v := (hc j hj).trans h
theorem el_int {t : TypeId} (ht : Tryz.prog.underlying t = some (.int .i64)) : ∀ (n : Nat) (cs : List Value) (x : DataW H × List MemPlace) (b o : Nat), cs.length = 1 → (∀ j, j < 1 → W.cell? ⟨b, o + j, none⟩ = cs[j]?) →
    DataW.trod enc Tryz.prog W 0 spare held n t cs = some x → ∃ y : Int, RInt W b o y := by
  intro n cs x b o hl hc h
  obtain ⟨m, rfl, _, hw⟩ := DataW.trod_int ht h
  exact ⟨m, at0 hc 0 (by omega) rfl, i64_of_wf hw⟩
theorem el_bool : ∀ (n : Nat) (cs : List Value) (x : DataW H × List MemPlace) (b o : Nat), cs.length = 1 → (∀ j, j < 1 → W.cell? ⟨b, o + j, none⟩ = cs[j]?) →
    DataW.trod enc Tryz.prog W 0 spare held n 4 cs = some x → ∃ y : Bool, RBool W b o y := by
  intro n cs x b o hl hc h
  obtain ⟨m, rfl, _⟩ := DataW.trod_bool Tryz.underlying4 h
  exact ⟨m, at0 hc 0 (by omega) rfl⟩
theorem el_ivl : ∀ (n : Nat) (cs : List Value) (x : DataW H × List MemPlace) (b o : Nat), cs.length = 2 → (∀ j, j < 2 → W.cell? ⟨b, o + j, none⟩ = cs[j]?) →
    DataW.trod enc Tryz.prog W 0 spare held n 107 cs = some x → ∃ y : IvlD, RIvl W b o y := by
  intro n cs x b o hl hc h
  obtain ⟨p, hp, wp⟩ := field_int Tryz.underlying107 (by kernel_rfl) h (by simpa using hl) 0 rfl Tryz.underlying3
  obtain ⟨q, hq, wq⟩ := field_int Tryz.underlying107 (by kernel_rfl) h (by simpa using hl) 1 rfl Tryz.underlying3
  exact ⟨⟨p, q⟩, ⟨at0 hc 0 (by omega) hp, at0 hc 1 (by omega) hq⟩, wp, wq⟩
theorem el_hop : ∀ (n : Nat) (cs : List Value) (x : DataW H × List MemPlace) (b o : Nat), cs.length = 2 → (∀ j, j < 2 → W.cell? ⟨b, o + j, none⟩ = cs[j]?) →
    DataW.trod enc Tryz.prog W 0 spare held n 95 cs = some x → ∃ y : HopD, RHop W b o y := by
  intro n cs x b o hl hc h
  obtain ⟨p, hp, wp⟩ := field_int Tryz.underlying95 (by kernel_rfl) h (by simpa using hl) 0 rfl Tryz.underlying3
  obtain ⟨q, hq, wq⟩ := field_int Tryz.underlying95 (by kernel_rfl) h (by simpa using hl) 1 rfl Tryz.underlying3
  exact ⟨⟨p, q⟩, ⟨at0 hc 0 (by omega) hp, at0 hc 1 (by omega) hq⟩, wp, wq⟩
theorem el_arc : ∀ (n : Nat) (cs : List Value) (x : DataW H × List MemPlace) (b o : Nat), cs.length = 3 → (∀ j, j < 3 → W.cell? ⟨b, o + j, none⟩ = cs[j]?) →
    DataW.trod enc Tryz.prog W 0 spare held n 81 cs = some x → ∃ y : ArcD, RArc W b o y := by
  intro n cs x b o hl hc h
  obtain ⟨p, hp, wp⟩ := field_int Tryz.underlying81 (by kernel_rfl) h (by simpa using hl) 0 rfl Tryz.underlying3
  obtain ⟨q, hq, wq⟩ := field_int Tryz.underlying81 (by kernel_rfl) h (by simpa using hl) 1 rfl Tryz.underlying3
  obtain ⟨r, hr, wr⟩ := field_int Tryz.underlying81 (by kernel_rfl) h (by simpa using hl) 2 rfl Tryz.underlying3
  exact ⟨⟨p, q, r⟩, ⟨at0 hc 0 (by omega) hp, at0 hc 1 (by omega) hq, at0 hc 2 (by omega) hr⟩, wp, wq, wr⟩
theorem el_leg : ∀ (n : Nat) (cs : List Value) (x : DataW H × List MemPlace) (b o : Nat), cs.length = 4 → (∀ j, j < 4 → W.cell? ⟨b, o + j, none⟩ = cs[j]?) →
    DataW.trod enc Tryz.prog W 0 spare held n 77 cs = some x → ∃ y : LegD, RLeg W b o y := by
  intro n cs x b o hl hc h
  obtain ⟨p, hp, wp⟩ := field_int Tryz.underlying77 (by kernel_rfl) h (by simpa using hl) 0 rfl Tryz.underlying3
  obtain ⟨q, hq, wq⟩ := field_int Tryz.underlying77 (by kernel_rfl) h (by simpa using hl) 1 rfl Tryz.underlying3
  obtain ⟨r, hr, wr⟩ := field_int Tryz.underlying77 (by kernel_rfl) h (by simpa using hl) 2 rfl Tryz.underlying3
  obtain ⟨s, hs, ws⟩ := field_int Tryz.underlying77 (by kernel_rfl) h (by simpa using hl) 3 rfl Tryz.underlying3
  exact ⟨⟨p, q, r, s⟩, ⟨at0 hc 0 (by omega) hp, at0 hc 1 (by omega) hq, at0 hc 2 (by omega) hr, at0 hc 3 (by omega) hs⟩, wp, wq, wr, ws⟩
theorem el_edge : ∀ (n : Nat) (cs : List Value) (x : DataW H × List MemPlace) (b o : Nat), cs.length = 3 → (∀ j, j < 3 → W.cell? ⟨b, o + j, none⟩ = cs[j]?) →
    DataW.trod enc Tryz.prog W 0 spare held n 60 cs = some x → ∃ y : EdgeD, REdge W b o y := by
  intro n cs x b o hl hc h
  obtain ⟨p, hp, wp⟩ := field_int Tryz.underlying60 (by kernel_rfl) h (by simpa using hl) 0 rfl Tryz.underlying3
  obtain ⟨q, hq, wq⟩ := field_int Tryz.underlying60 (by kernel_rfl) h (by simpa using hl) 1 rfl Tryz.underlying3
  obtain ⟨c, m, y, hcc, ht⟩ := field_cell Tryz.underlying60 (by kernel_rfl) h (by simpa using hl) (j := 2) rfl
  obtain ⟨A, cp, l, hA, h1, h2, h3⟩ := sl_open (R := RLeg) Tryz.underlying58 (by kernel_rfl) (by omega) el_leg ht
  simp at hA
  exact ⟨⟨p, q, l⟩, ⟨at0 hc 0 (by omega) hp, at0 hc 1 (by omega) hq, A, cp, at0 hc 2 (by omega) (by rw [hcc, hA]), h1, h2, h3⟩, wp, wq⟩

set_option maxRecDepth 100000 in
theorem graph_open {v : Value} {d : DataW H} {p : List MemPlace} {r : Reach} {b0 : Nat} (hv : Value.okWide Tryz.prog W r b0 25 v) (h : DataW.Trod enc Tryz.prog W 0 spare held 25 v d p) :
    ∃ A c A' c' g, v = gV A c A' c' g ∧ GraphAt W A c A' c' g := by
  obtain ⟨v0, v1, v2, y0, y1, y2, n, rfl, _, _, h0, h1, h2⟩ := open_agg3 Tryz.underlying25 (by kernel_rfl) (by kernel_rfl) hv h
  obtain ⟨x, hx, _, wx⟩ := DataW.trod_int Tryz.underlying3 h0
  obtain ⟨A, c, l, hA, h3, h4, h5⟩ := sl_open (R := RIvl) Tryz.underlying22 (by kernel_rfl) (by omega) el_ivl h1
  obtain ⟨A', c', l', hA', h3', h4', h5'⟩ := sl_open (R := REdge) Tryz.underlying23 (by kernel_rfl) (by omega) el_edge h2
  simp at hx hA hA'
  subst hx hA hA'
  exact ⟨A, c, A', c', ⟨x, l, l'⟩, rfl, i64_of_wf wx, h3, h4, h3', h4', h5, h5'⟩
set_option maxRecDepth 100000 in
theorem hops_open {v : Value} {d : DataW H} {p : List MemPlace} {r : Reach} {b0 : Nat} (hv : Value.okWide Tryz.prog W r b0 89 v) (h : DataW.Trod enc Tryz.prog W 0 spare held 89 v d p) :
    ∃ A c l, v = .slice A l.length c ∧ l.length ≤ c ∧ c ≤ maxLen ∧ SlAt RHop 2 W A l := by
  obtain ⟨a0, len, cap, rfl⟩ := okWide_slice Tryz.underlying89 hv
  obtain ⟨fuel, hf⟩ := h
  obtain ⟨A, c, l, hA, h1⟩ := sl_open (R := RHop) Tryz.underlying89 (by kernel_rfl) (by omega) el_hop hf
  simp [Value.cells] at hA
  obtain ⟨rfl, rfl, rfl⟩ := hA
  exact ⟨_, _, l, rfl, h1⟩
set_option maxRecDepth 100000 in
theorem ints_open {v : Value} {d : DataW H} {p : List MemPlace} {r : Reach} {b0 : Nat} (hv : Value.okWide Tryz.prog W r b0 38 v) (h : DataW.Trod enc Tryz.prog W 0 spare held 38 v d p) :
    ∃ A c l, v = .slice A l.length c ∧ l.length ≤ c ∧ c ≤ maxLen ∧ SlAt RInt 1 W A l := by
  obtain ⟨a0, len, cap, rfl⟩ := okWide_slice Tryz.underlying38 hv
  obtain ⟨fuel, hf⟩ := h
  obtain ⟨A, c, l, hA, h1⟩ := sl_open (R := RInt) Tryz.underlying38 (by kernel_rfl) (by omega) (el_int Tryz.underlying3) hf
  simp [Value.cells] at hA
  obtain ⟨rfl, rfl, rfl⟩ := hA
  exact ⟨_, _, l, rfl, h1⟩
set_option maxRecDepth 100000 in
theorem bools_open {v : Value} {d : DataW H} {p : List MemPlace} {r : Reach} {b0 : Nat} (hv : Value.okWide Tryz.prog W r b0 31 v) (h : DataW.Trod enc Tryz.prog W 0 spare held 31 v d p) :
    ∃ A c l, v = .slice A l.length c ∧ l.length ≤ c ∧ c ≤ maxLen ∧ SlAt RBool 1 W A l := by
  obtain ⟨a0, len, cap, rfl⟩ := okWide_slice Tryz.underlying31 hv
  obtain ⟨fuel, hf⟩ := h
  obtain ⟨A, c, l, hA, h1⟩ := sl_open (R := RBool) Tryz.underlying31 (by kernel_rfl) (by omega) el_bool hf
  simp [Value.cells] at hA
  obtain ⟨rfl, rfl, rfl⟩ := hA
  exact ⟨_, _, l, rfl, h1⟩
set_option maxRecDepth 100000 in
theorem int_open {v : Value} {d : DataW H} {p : List MemPlace} {r : Reach} {b0 : Nat} (hv : Value.okWide Tryz.prog W r b0 3 v) (h : DataW.Trod enc Tryz.prog W 0 spare held 3 v d p) : ∃ n, v = .int .i64 n ∧ I64 n := by
  obtain ⟨x, rfl, _, _, wx⟩ := open_int Tryz.underlying3 hv h
  exact ⟨x, rfl, i64_of_wf wx⟩

set_option maxRecDepth 100000 in
theorem snap_open {v : Value} {d : DataW H} {p : List MemPlace} {r : Reach} {b0 : Nat} (hv : Value.okWide Tryz.prog W r b0 34 v) (h : DataW.Trod enc Tryz.prog W 0 spare held 34 v d p) :
    ∃ A c A' c' s, v = snapV A c A' c' s ∧ SnapAt W A c A' c' s := by
  obtain ⟨v0, v1, y0, y1, n, rfl, _, _, h1, h2⟩ := open_agg2 Tryz.underlying34 (by kernel_rfl) (by kernel_rfl) hv h
  obtain ⟨A, c, l, hA, h3, h4, h5⟩ := sl_open (R := RBool) Tryz.underlying31 (by kernel_rfl) (by omega) el_bool h1
  obtain ⟨A', c', l', hA', h3', h4', h5'⟩ := sl_open (R := RArc) Tryz.underlying32 (by kernel_rfl) (by omega) el_arc h2
  simp at hA hA'
  subst hA hA'
  exact ⟨A, c, A', c', ⟨l, l'⟩, rfl, h3, h4, h3', h4', h5, h5'⟩
end
end Go.Proofs.YtdpibehpmghghaaGreat
/- Five arguments. -/
namespace Go.Proofs.YtdpibehpmghghaaGreat
open Go.ChangeShapes Go.WideShapes Go.RowKit Go.Deep Go.Joins

section
variable {H : Type} {enc : TypeId × Value → H} {W : World} {spare : Nat → Bool} {held : Bool} {P : Program} {base : Nat}
theorem trodAll_five {t0 t1 t2 t3 t4 : TypeId} {args : Array Value} {ds : List (DataW H)} {ps : List MemPlace} (h : DataW.TrodAll enc P W base spare held [t0, t1, t2, t3, t4] args.toList ds ps) :
    ∃ v0 v1 v2 v3 v4 d0 d1 d2 d3 d4 p0 p1 p2 p3 p4, args = #[v0, v1, v2, v3, v4] ∧ ds = [d0, d1, d2, d3, d4] ∧ ps = p0 ++ (p1 ++ (p2 ++ (p3 ++ p4))) ∧ DataW.Trod enc P W base spare held t0 v0 d0 p0 ∧ DataW.Trod enc P W base spare held t1 v1 d1 p1 ∧
      DataW.Trod enc P W base spare held t2 v2 d2 p2 ∧ DataW.Trod enc P W base spare held t3 v3 d3 p3 ∧ DataW.Trod enc P W base spare held t4 v4 d4 p4 := by
  obtain ⟨v0, vs0, d0, ds0, p0, q0, hargs, rfl, rfl, h0, r0⟩ := trodAll_cons h
  obtain ⟨v1, vs1, d1, ds1, p1, q1, rfl, rfl, rfl, h1, r1⟩ := trodAll_cons r0
  obtain ⟨v2, vs2, d2, ds2, p2, q2, rfl, rfl, rfl, h2, r2⟩ := trodAll_cons r1
  obtain ⟨v3, vs3, d3, ds3, p3, q3, rfl, rfl, rfl, h3, r3⟩ := trodAll_cons r2
  obtain ⟨v4, vs4, d4, ds4, p4, q4, rfl, rfl, rfl, h4, r4⟩ := trodAll_cons r3
  obtain ⟨rfl, rfl, rfl⟩ := trodAll_nil r4
  refine ⟨v0, v1, v2, v3, v4, d0, d1, d2, d3, d4, p0, p1, p2, p3, p4, ?_, rfl, by simp, h0, h1, h2, h3, h4⟩
  cases args
  simpa using hargs
end
end Go.Proofs.YtdpibehpmghghaaGreat
/- More openings: strings, a hop by value, five arguments; that a list of parameters is readable. -/
namespace Go.Proofs.YtdpibehpmghghaaGreat
open Go.ChangeShapes Go.WideShapes Go.RowKit Go.Deep Go.Joins
open Go.ChangeMaps (open_string)

theorem params_read {l : List TypeId} (h : l.all (fun t => Tryz.prog.readableRec t && decide (t < Tryz.prog.types.size)) = true) : ∀ t ∈ l, Tryz.prog.readableRec t = true ∧ t < Tryz.prog.types.size := by
  intro t ht
  have := List.all_eq_true.1 h t ht
  simpa using this
section
variable {H : Type} {enc : TypeId × Value → H} {W : World} {spare : Nat → Bool} {held : Bool} {P : Program} {base : Nat}
set_option maxRecDepth 100000 in
theorem string_open_ {v : Value} {d : DataW H} {p : List MemPlace} {r : Reach} {b0 : Nat} (hv : Value.okWide Tryz.prog W r b0 9 v) (h : DataW.Trod enc Tryz.prog W 0 spare held 9 v d p) : ∃ s, v = .string s ∧ s.size ≤ maxLen := by
  obtain ⟨s, rfl, _, _, hs⟩ := open_string Tryz.underlying9 hv h
  exact ⟨s, rfl, hs⟩
set_option maxRecDepth 100000 in
theorem hop_open {v : Value} {d : DataW H} {p : List MemPlace} {r : Reach} {b0 : Nat} (hv : Value.okWide Tryz.prog W r b0 95 v) (h : DataW.Trod enc Tryz.prog W 0 spare held 95 v d p) :
    ∃ x, v = hopV x ∧ I64 x.edge ∧ I64 x.depart := by
  obtain ⟨v0, v1, y0, y1, n, rfl, _, _, h1, h2⟩ := open_agg2 Tryz.underlying95 (by kernel_rfl) (by kernel_rfl) hv h
  obtain ⟨a, ha, _, wa⟩ := DataW.trod_int Tryz.underlying3 h1
  obtain ⟨b, hb, _, wb⟩ := DataW.trod_int Tryz.underlying3 h2
  simp at ha hb
  subst ha hb
  exact ⟨⟨a, b⟩, rfl, i64_of_wf wa, i64_of_wf wb⟩
end
end Go.Proofs.YtdpibehpmghghaaGreat
/- A call that starts no goroutine, in a row that would let others be leaving. -/
namespace Go.Proofs.YtdpibehpmghghaaGreat
open Go

theorem leaving_of_alone {P : Program} {m : Machine} {w : World} {t : Trace} (h : aloneAtReturn P m w t) : leavingAtReturn P m w t := by
  obtain ⟨⟨h1, h2⟩, h3, h4⟩ := h
  refine ⟨h3, ⟨fun g hg => ⟨0, ?_⟩, h2⟩, h4⟩
  unfold Machine.othersDone at h1
  have h5 := List.all_eq_true.1 h1 g hg
  show g.status = .finished
  simpa using h5
theorem handed_leaving {a : Assume} {C : Checked} {os : Os} {f : FuncId} {r : Reach} {Pre : World → Array Value → Prop} {Post : World → Array Value → Value → World → Prop} (h : ReturnsInHanded a C os f r Pre Post) : ReturnsInLeavingWide a C os f r Pre Post :=
  fun enter => (h enter).mono (fun _ _ _ x => leaving_of_alone x) (fun _ x => x)
end Go.Proofs.YtdpibehpmghghaaGreat
/- Systems of inequalities along arcs and their greatest solutions; no program in sight. -/
namespace Go.Proofs.YtdpibehpmghghaaGreat

structure Arc (ι : Type) where
  a : ι
  b : ι
  f : Int → Int
section
variable {ι : Type}
def Sol (A : Arc ι → Prop) (init d : ι → Int) : Prop := (∀ i, d i ≤ init i) ∧ ∀ x, A x → d x.b ≤ x.f (d x.a)
def Above (A : Arc ι → Prop) (init d : ι → Int) : Prop := ∀ e, Sol A init e → ∀ i, e i ≤ d i
/-- The greatest solution. -/
def Best (A : Arc ι → Prop) (init d : ι → Int) : Prop := Sol A init d ∧ Above A init d
def Mono (f : Int → Int) : Prop := ∀ s t, s ≤ t → f s ≤ f t
variable {A : Arc ι → Prop} {init d e : ι → Int}
theorem Best.eq (h : Best A init d) (k : Best A init e) : d = e := funext fun i => Int.le_antisymm (k.2 d h.1 i) (h.2 e k.1 i)
theorem above_init : Above A init init := fun _ h i => h.1 i
variable [DecidableEq ι]
def upd (d : ι → Int) (i : ι) (x : Int) : ι → Int := fun j => if j = i then x else d j
theorem upd_at (d : ι → Int) (i : ι) (x : Int) : upd d i x i = x := by simp [upd]
theorem upd_ne (d : ι → Int) {i j : ι} (x : Int) (h : ¬ j = i) : upd d i x j = d j := by simp [upd, h]
theorem upd_same (d : ι → Int) (i : ι) : upd d i (d i) = d := by funext j; by_cases h : j = i <;> simp [upd, h]
theorem Above.upd {d' : ι → Int} (h : Above A init d) (h' : Above A init d') {x : Arc ι} (hx : A x) (hm : Mono x.f) {n : Int} (hn : x.f (d' x.a) ≤ n) : Above A init (upd d x.b (min (d x.b) n)) := by
  intro e he i
  by_cases hi : i = x.b
  · subst hi
    rw [upd_at]
    have h1 := h e he x.b
    have h2 := he.2 x hx
    have h3 := hm _ _ (h' e he x.a)
    omega
  · rw [upd_ne _ _ hi]; exact h e he i
theorem Best.tight (h : Best A init d) (hm : ∀ x, A x → Mono x.f) {j : ι} (hj : d j < init j) : ∃ x, A x ∧ x.b = j ∧ x.f (d x.a) = d j := by
  refine Classical.byContradiction fun hno => ?_
  have hle : ∀ i, d i ≤ Go.Proofs.YtdpibehpmghghaaGreat.upd d j (d j + 1) i := fun i => by
    by_cases hi : i = j
    · subst hi; rw [upd_at]; omega
    · rw [upd_ne _ _ hi]; exact Int.le_refl _
  have hs : Sol A init (Go.Proofs.YtdpibehpmghghaaGreat.upd d j (d j + 1)) := by
    refine ⟨fun i => ?_, fun x hx => ?_⟩
    · by_cases hi : i = j
      · subst hi; rw [upd_at]; omega
      · rw [upd_ne _ _ hi]; exact h.1.1 i
    · have h1 := h.1.2 x hx
      have h2 := hm x hx _ _ (hle x.a)
      by_cases hi : x.b = j
      · rw [hi, upd_at]
        have h3 : ¬ x.f (d x.a) = d j := fun e => hno ⟨x, hx, hi, e⟩
        rw [hi] at h1
        omega
      · rw [upd_ne _ _ hi]; omega
  have := h.2 _ hs j
  rw [upd_at] at this
  omega
omit [DecidableEq ι] in
/-- What only comes from far away is far away. -/
theorem Best.far (h : Best A init d) {I : Int} (hI : ∀ i, d i ≤ I) (hm : ∀ x, A x → Mono x.f) (hf : ∀ x, A x → I ≤ x.f I) (S : ι → Prop) (hS : ∀ x, A x → S x.b → S x.a) (hi : ∀ i, S i → I ≤ init i) : ∀ i, S i → d i = I := by
  intro i hi0
  have hs : Sol A init (fun j => open Classical in if S j then I else d j) := by
    refine ⟨fun j => ?_, fun x hx => ?_⟩
    · by_cases hj : S j
      · simp only [if_pos hj]; exact hi j hj
      · simp only [if_neg hj]; exact h.1.1 j
    · have hge : d x.a ≤ (open Classical in if S x.a then I else d x.a) := by
        by_cases ha : S x.a
        · rw [if_pos ha]; exact hI _
        · rw [if_neg ha]; exact Int.le_refl _
      by_cases hb : S x.b
      · simp only [if_pos hb, if_pos (hS x hx hb)]; exact hf x hx
      · simp only [if_neg hb]
        exact Int.le_trans (h.1.2 x hx) (hm x hx _ _ hge)
  have := h.2 _ hs i
  simp only [if_pos hi0] at this
  exact Int.le_antisymm (hI i) this
end
/-- A bounded set of numbers has a greatest one. -/
theorem greatest {P : Int → Prop} {B : Int} (hB : ∀ x, P x → x ≤ B) (h : ∃ x, P x) : ∃ m, P m ∧ ∀ x, P x → x ≤ m := by
  obtain ⟨x, hx⟩ := h
  obtain ⟨k, hk⟩ : ∃ k : Nat, k = (B - x).toNat := ⟨_, rfl⟩
  induction k using Nat.strongRecOn generalizing x with
  | ind k ih =>
    by_cases hm : ∀ y, P y → y ≤ x
    · exact ⟨x, hx, hm⟩
    · have ⟨y, hy⟩ := Classical.not_forall.1 hm
      have ⟨h1, h2⟩ := Classical.not_imp.1 hy
      have h3 := hB y h1
      have h4 := hB x hx
      exact ih (B - y).toNat (by omega) y h1 rfl
/-- There is a greatest solution, if there is one at all. -/
theorem Best.ex {ι : Type} {A : Arc ι → Prop} {init : ι → Int} (hm : ∀ x, A x → Mono x.f) (h : ∃ e, Sol A init e) : ∃ d, Best A init d := by
  obtain ⟨e0, h0⟩ := h
  have hg : ∀ i, ∃ m, (∃ e, Sol A init e ∧ e i = m) ∧ ∀ x, (∃ e, Sol A init e ∧ e i = x) → x ≤ m := fun i =>
    greatest (B := init i) (fun x ⟨e, he, hx⟩ => by rw [← hx]; exact he.1 i) ⟨_, e0, h0, rfl⟩
  obtain ⟨d, hd⟩ := Classical.axiomOfChoice hg
  refine ⟨d, ⟨fun i => ?_, fun x hx => ?_⟩, fun e he i => (hd i).2 _ ⟨e, he, rfl⟩⟩
  · obtain ⟨e, he, hx⟩ := (hd i).1
    rw [← hx]; exact he.1 i
  · obtain ⟨e, he, hx'⟩ := (hd x.b).1
    rw [← hx']
    exact Int.le_trans (he.2 x hx) (hm x hx _ _ ((hd x.a).2 _ ⟨e, he, rfl⟩))

/-! ### lists as functions -/
def gi (l : List Int) (v : Nat) : Int := l.getD v 0
theorem gi_of {l : List Int} {v : Nat} {x : Int} (h : l[v]? = some x) : gi l v = x := by simp [gi, List.getD, h]
theorem gi_get {l : List Int} {v : Nat} (h : v < l.length) : l[v]? = some (gi l v) := by simp [gi, List.getD, h]
theorem gi_far {l : List Int} {v : Nat} (h : l.length ≤ v) : gi l v = 0 := by simp [gi, List.getD, h]
theorem gi_set {l : List Int} {i : Nat} (h : i < l.length) (x : Int) : gi (l.set i x) = upd (gi l) i x := by
  funext j
  by_cases hj : j = i
  · subst hj; rw [upd_at]; exact gi_of (by simp [h])
  · rw [upd_ne _ _ hj]
    simp only [gi, List.getD]
    rw [List.getElem?_set_ne (fun h => hj h.symm)]
theorem gi_ext {l r : List Int} (hl : l.length = r.length) (h : gi l = gi r) : l = r := by
  refine List.ext_getElem? fun i => ?_
  by_cases hi : i < l.length
  · rw [gi_get hi, gi_get (by omega), h]
  · rw [List.getElem?_eq_none (by omega), List.getElem?_eq_none (by omega)]
theorem gi_eq_of {l r : List Int} (hl : l.length = r.length) (h : ∀ i, i < l.length → gi l i = gi r i) : l = r := by
  refine gi_ext hl (funext fun i => ?_)
  by_cases hi : i < l.length
  · exact h i hi
  · rw [gi_far (by omega), gi_far (by omega)]
/-- How much there is left to lose. -/
def total (l : List Int) : Nat := (l.map Int.toNat).sum
theorem total_set {l : List Int} {i : Nat} (h : i < l.length) (x : Int) : total (l.set i x) + (gi l i).toNat = total l + x.toNat := by
  induction l generalizing i with
  | nil => simp at h
  | cons y l ih =>
    cases i with
    | zero => simp [total, gi]; omega
    | succ i =>
      have := ih (i := i) (by simpa using h)
      simp only [List.set_cons_succ, total, List.map_cons, List.sum_cons] at *
      have e : gi (y :: l) (i + 1) = gi l i := by simp [gi]
      rw [e]
      omega
theorem total_le {l r : List Int} (hl : l.length = r.length) (h : ∀ i, gi l i ≤ gi r i) : total l ≤ total r := by
  induction l generalizing r with
  | nil => simp [total]
  | cons x l ih =>
    cases r with
    | nil => simp at hl
    | cons y r =>
      have h0 := h 0
      have h1 := ih (r := r) (by simpa using hl) fun i => by have := h (i + 1); simpa [gi] using this
      simp [gi] at h0
      simp only [total, List.map_cons, List.sum_cons] at *
      omega
theorem total_lt {l r : List Int} (hl : l.length = r.length) (h : ∀ i, gi l i ≤ gi r i) (h0 : ∀ i, 0 ≤ gi l i) (hne : ¬ l = r) : total l < total r := by
  induction l generalizing r with
  | nil =>
    cases r with
    | nil => exact absurd rfl hne
    | cons y r => simp at hl
  | cons x l ih =>
    cases r with
    | nil => simp at hl
    | cons y r =>
      have k0 := h 0
      have k1 := h0 0
      have hs : ∀ i, gi l i ≤ gi r i := fun i => by have := h (i + 1); simpa [gi] using this
      have hp : ∀ i, 0 ≤ gi l i := fun i => by have := h0 (i + 1); simpa [gi] using this
      simp [gi] at k0 k1
      have hl' : l.length = r.length := by simpa using hl
      have h2 := total_le hl' hs
      by_cases e : l = r
      · have : ¬ x = y := fun e' => hne (by rw [e, e'])
        simp only [total, List.map_cons, List.sum_cons] at *
        omega
      · have := ih hl' hs hp e
        simp only [total, List.map_cons, List.sum_cons] at *
        omega

/-! ### one vertex after the other, the nearest one first -/
section
variable {arcs : List (Arc Nat)} {init d d0 : Nat → Int} {done : Nat → Bool} {n : Nat} {I : Int}
/-- What holds whenever all of a vertex's arcs have been looked at. -/
structure Near (arcs : List (Arc Nat)) (n : Nat) (I : Int) (init d : Nat → Int) (done : Nat → Bool) : Prop where
  le : ∀ i, d i ≤ init i
  big : ∀ i, i < n → d i ≤ I
  above : Above (· ∈ arcs) init d
  near : ∀ u v, v < n → done u = true → done v = false → d u ≤ d v
  told : ∀ x, x ∈ arcs → done x.a = true → d x.b ≤ x.f (d x.a)
/-- .. in the midst of a vertex's arcs. -/
structure Mid (arcs : List (Arc Nat)) (n : Nat) (I : Int) (init d0 d : Nat → Int) (done : Nat → Bool) (c k : Nat) : Prop where
  le : ∀ i, d i ≤ d0 i
  above : Above (· ∈ arcs) init d
  same : d c = d0 c
  olds : ∀ u, done u = true → d u = d0 u
  news : ∀ v, v < n → done v = false → d c ≤ d v
  told : ∀ x, x ∈ arcs.take k → x.a = c → d x.b ≤ x.f (d c)
def mark (done : Nat → Bool) (c : Nat) : Nat → Bool := fun j => if j = c then true else done j
theorem Near.begin (h : Near arcs n I init d done) {c : Nat} (hm : ∀ v, v < n → done v = false → d c ≤ d v) : Mid arcs n I init d d done c 0 :=
  ⟨fun _ => Int.le_refl _, h.above, rfl, fun _ _ => rfl, hm, fun x hx => by simp at hx⟩
theorem Mid.skip {c k : Nat} (h : Mid arcs n I init d0 d done c k) {x : Arc Nat} (hx : arcs[k]? = some x) (hc : ¬ x.a = c) : Mid arcs n I init d0 d done c (k + 1) :=
  ⟨h.le, h.above, h.same, h.olds, h.news, fun y hy hyc => by
    rw [List.take_add_one, hx] at hy
    rcases List.mem_append.1 hy with hy | hy
    · exact h.told y hy hyc
    · obtain rfl : y = x := by simpa using hy
      exact absurd hyc hc⟩
theorem Mid.step {c k : Nat} (h : Mid arcs n I init d0 d done c k) (h0 : Near arcs n I init d0 done) (hcn : c < n) (hdc : done c = false) {x : Arc Nat} (hx : arcs[k]? = some x) (hc : x.a = c) (hxm : Mono x.f) (hge : d c ≤ x.f (d c)) :
    Mid arcs n I init d0 (upd d x.b (min (d x.b) (x.f (d c)))) done c (k + 1) := by
  have hmem : x ∈ arcs := List.mem_of_getElem? hx
  have hle : ∀ i, upd d x.b (min (d x.b) (x.f (d c))) i ≤ d i := fun i => by
    by_cases hi : i = x.b
    · subst hi; rw [upd_at]; omega
    · rw [upd_ne _ _ hi]; exact Int.le_refl _
  have hcc : upd d x.b (min (d x.b) (x.f (d c))) c = d c := by
    by_cases hi : c = x.b
    · rw [← hi, upd_at]; omega
    · rw [upd_ne _ _ hi]
  refine ⟨fun i => Int.le_trans (hle i) (h.le i), h.above.upd h.above hmem hxm (by rw [hc]; exact Int.le_refl _), by rw [hcc]; exact h.same, fun u hu => ?_, fun v hv hd => ?_, fun y hy hyc => ?_⟩
  · have h1 := h0.near u c hcn hu hdc
    have h2 := h.olds u hu
    have h3 := h.same
    by_cases hi : u = x.b
    · rw [hi, upd_at, ← hi]; omega
    · rw [upd_ne _ _ hi]; exact h2
  · rw [hcc]
    have h1 := h.news v hv hd
    by_cases hi : v = x.b
    · rw [hi, upd_at, ← hi]; omega
    · rw [upd_ne _ _ hi]; exact h1
  · rw [hcc]
    rw [List.take_add_one, hx] at hy
    rcases List.mem_append.1 hy with hy | hy
    · exact Int.le_trans (hle _) (h.told y hy hyc)
    · obtain rfl : y = x := by simpa using hy
      rw [upd_at]
      omega
theorem Mid.stay {c k : Nat} (h : Mid arcs n I init d0 d done c k) {x : Arc Nat} (hx : arcs[k]? = some x) (hge : d x.b ≤ x.f (d c)) : Mid arcs n I init d0 d done c (k + 1) :=
  ⟨h.le, h.above, h.same, h.olds, h.news, fun y hy hyc => by
    rw [List.take_add_one, hx] at hy
    rcases List.mem_append.1 hy with hy | hy
    · exact h.told y hy hyc
    · obtain rfl : y = x := by simpa using hy
      exact hge⟩
theorem Mid.fin {c k : Nat} (h : Mid arcs n I init d0 d done c k) (h0 : Near arcs n I init d0 done) (hcn : c < n) (hdc : done c = false) (hk : arcs.length ≤ k) : Near arcs n I init d (mark done c) := by
  refine ⟨fun i => Int.le_trans (h.le i) (h0.le i), fun i hi => Int.le_trans (h.le i) (h0.big i hi), h.above, fun u v hv hu hd => ?_, fun x hx hd => ?_⟩
  · have hd' : done v = false := by
      simp only [mark] at hd
      split at hd
      · simp at hd
      · exact hd
    simp only [mark] at hu
    split at hu
    · rename_i e; rw [e]; exact h.news v hv hd'
    · have h1 := h0.near u c hcn hu hdc
      have h2 := h.olds u hu
      have h3 := h.same
      have h4 := h.news v hv hd'
      omega
  · by_cases e : x.a = c
    · rw [e]; exact h.told x (by rw [List.take_of_length_le hk]; exact hx) e
    · simp only [mark, if_neg e] at hd
      rw [h.olds _ hd]
      exact Int.le_trans (h.le _) (h0.told x hx hd)
theorem Near.best (h : Near arcs n I init d done) (hall : ∀ v, v < n → done v = true ∨ I ≤ d v) (hb : ∀ x, x ∈ arcs → x.a < n ∧ x.b < n ∧ Mono x.f ∧ I ≤ x.f I) : Best (· ∈ arcs) init d := by
  refine ⟨⟨h.le, fun x hx => ?_⟩, h.above⟩
  obtain ⟨h1, h2, h3, h4⟩ := hb x hx
  rcases hall x.a h1 with hd | hd
  · exact h.told x hx hd
  · have := h3 _ _ hd
    have := h.big x.b h2
    omega
end
end Go.Proofs.YtdpibehpmghghaaGreat
