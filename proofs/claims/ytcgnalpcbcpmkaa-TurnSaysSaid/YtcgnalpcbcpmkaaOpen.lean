/- From the arguments as the row reads them to plain data: graphs, lists of hops, of ints, of bools, snapshots. -/
import Derived.Test.YtcgnalpcbcpmkaaLaw
import Derived.Lib.SmallJoins
import Derived.Deep.Slices
import Derived.Deep.Fields
namespace Go.Proofs.Ytcgnalpcbcpmkaa
open Go.ChangeShapes Go.WideShapes Go.RowKit Go.Deep Go.Joins

section
variable {H : Type} {enc : TypeId × Value → H} {W : World} {spare : Nat → Bool} {held : Bool}

theorem i64_of_wf {n : Int} (h : (Lit.int .i64 n).wf = true) : I64 n := by
  simp [Lit.wf, IntKind.min, IntKind.max, IntKind.signed, IntKind.bits] at h
  exact ⟨by omega, by omega⟩

theorem field_cell {P : Program} {base fuel : Nat} {e : TypeId} {fs : Array Field} {cs : List Value} {x : DataW H × List MemPlace} (he : P.underlying e = some (.struct fs)) (hone : oneCellFields P fs = true)
    (h : DataW.trod enc P W base spare held fuel e cs = some x) (hl : cs.length = fs.size) {j : Nat} {f : Field} (hf : fs[j]? = some f) :
    ∃ c n y, cs[j]? = some c ∧ DataW.trod enc P W base spare held n f.type [c] = some y := by
  obtain ⟨xs, n, _, _, _, hxl, hg⟩ := DataW.trod_struct he h
  obtain ⟨ho, hk⟩ := hone_of hone j f hf
  have hj : j < fs.size := (Array.getElem?_eq_some_iff.1 hf).1
  have h1 := hg j f hf
  rw [ho, hk] at h1
  have e1 : (cs.drop j).take 1 = [cs[j]'(by omega)] := by
    rw [List.drop_eq_getElem_cons (by omega)]; rfl
  rw [e1, List.getElem?_eq_getElem (by omega)] at h1
  exact ⟨_, n, _, List.getElem?_eq_getElem (by omega), h1⟩
theorem field_int {P : Program} {base fuel : Nat} {e : TypeId} {fs : Array Field} {cs : List Value} {x : DataW H × List MemPlace} (he : P.underlying e = some (.struct fs)) (hone : oneCellFields P fs = true)
    (h : DataW.trod enc P W base spare held fuel e cs = some x) (hl : cs.length = fs.size) (j : Nat) {f : Field} (hf : fs[j]? = some f) (hi : P.underlying f.type = some (.int .i64)) :
    ∃ n, cs[j]? = some (.int .i64 n) ∧ I64 n := by
  obtain ⟨c, m, y, hc, ht⟩ := field_cell he hone h hl hf
  obtain ⟨n, hn, _, hw⟩ := DataW.trod_int hi ht
  simp at hn
  exact ⟨n, by rw [hc, hn], i64_of_wf hw⟩

/-- A slice of whatever elements. -/
theorem sl_open {α : Type} [Inhabited α] {R : World → Nat → Nat → α → Prop} {sz : Nat} {t e : TypeId} (ht : Try.prog.underlying t = some (.slice e)) (hsz : Try.prog.cellsOf e = sz) (hpos : 0 < sz)
    (hel : ∀ (n : Nat) (cs : List Value) (x : DataW H × List MemPlace) (b o : Nat), cs.length = sz → (∀ j, j < sz → W.cell? ⟨b, o + j, none⟩ = cs[j]?) → DataW.trod enc Try.prog W 0 spare held n e cs = some x → ∃ y : α, R W b o y)
    {fuel : Nat} {cs : List Value} {x : DataW H × List MemPlace} (h : DataW.trod enc Try.prog W 0 spare held fuel t cs = some x) :
    ∃ A c l, cs = [.slice A l.length c] ∧ l.length ≤ c ∧ c ≤ maxLen ∧ SlAt R sz W A l := by
  rcases open_slice ht h with ⟨h0, _⟩ | ⟨a, len, cap, m, n, D, Pl, hcs, _, hlc, hcm, hm, _, hi⟩
  · exact ⟨none, 0, [], by simpa using h0, by simp, by simp, SlAt.nil⟩
  · rw [hsz] at hi
    have hmle : len ≤ m := by rw [hm]; split <;> omega
    rcases Nat.eq_zero_or_pos len with hz | hp
    · subst hz
      exact ⟨some a, cap, [], by simpa using hcs, by simp, hcm, SlAt.nil⟩
    · obtain ⟨b, off, spot⟩ := a
      have hspot : spot = none := by
        obtain ⟨cs', h1, _⟩ := hi 0 (by omega)
        obtain ⟨_, hl, hc⟩ := World.cells?_some h1
        have h2 := hc 0 hpos
        rw [List.getElem?_eq_getElem (by omega)] at h2
        simpa [Addr.add] using World.cell?_spot h2
      subst hspot
      have hy : ∀ i, i < len → ∃ y : α, R W b (off + i * sz) y ∧ b < W.heap.size := by
        intro i hi'
        obtain ⟨cs', h1, h2⟩ := hi i (by omega)
        obtain ⟨_, hl, hc⟩ := World.cells?_some h1
        have hc' : ∀ j, j < sz → W.cell? ⟨b, off + i * sz + j, none⟩ = cs'[j]? := fun j hj => by
          rw [← hc j hj, add_plain, add_plain]
        obtain ⟨y, hy⟩ := hel n cs' _ b (off + i * sz) hl hc' h2
        have h0 := hc' 0 hpos
        rw [List.getElem?_eq_getElem (by omega)] at h0
        exact ⟨y, hy, World.block_lt_of_cell? W _ h0⟩
      obtain ⟨f, hf⟩ := choose_lt hy
      refine ⟨_, cap, (List.range len).map f, by simpa using hcs, by simpa using hlc, hcm, b, off, fun i x hx => ?_⟩
      simp only [List.getElem?_map, Option.map_eq_some_iff] at hx
      obtain ⟨k, hk, rfl⟩ := hx
      have hki : i < len ∧ i = k := by
        rcases Nat.lt_or_ge i len with hlt | hge
        · rw [List.getElem?_range hlt] at hk; exact ⟨hlt, by simpa using hk⟩
        · rw [List.getElem?_eq_none (by simpa using hge)] at hk; cases hk
      obtain ⟨hlt, rfl⟩ := hki
      exact ⟨rfl, (hf i hlt).2, (hf i hlt).1⟩

theorem at0 {b o : Nat} {cs : List Value} {v : Value} {sz : Nat} (hc : ∀ j, j < sz → W.cell? ⟨b, o + j, none⟩ = cs[j]?) (j : Nat) (hj : j < sz) (h : cs[j]? = some v) : cellIs W b (o + j) v := (hc j hj).trans h
theorem el_int {t : TypeId} (ht : Try.prog.underlying t = some (.int .i64)) : ∀ (n : Nat) (cs : List Value) (x : DataW H × List MemPlace) (b o : Nat), cs.length = 1 → (∀ j, j < 1 → W.cell? ⟨b, o + j, none⟩ = cs[j]?) →
    DataW.trod enc Try.prog W 0 spare held n t cs = some x → ∃ y : Int, RInt W b o y := by
  intro n cs x b o hl hc h
  obtain ⟨m, rfl, _, hw⟩ := DataW.trod_int ht h
  exact ⟨m, at0 hc 0 (by omega) rfl, i64_of_wf hw⟩
theorem el_bool : ∀ (n : Nat) (cs : List Value) (x : DataW H × List MemPlace) (b o : Nat), cs.length = 1 → (∀ j, j < 1 → W.cell? ⟨b, o + j, none⟩ = cs[j]?) →
    DataW.trod enc Try.prog W 0 spare held n 4 cs = some x → ∃ y : Bool, RBool W b o y := by
  intro n cs x b o hl hc h
  obtain ⟨m, rfl, _⟩ := DataW.trod_bool Try.underlying4 h
  exact ⟨m, at0 hc 0 (by omega) rfl⟩
theorem el_ivl : ∀ (n : Nat) (cs : List Value) (x : DataW H × List MemPlace) (b o : Nat), cs.length = 2 → (∀ j, j < 2 → W.cell? ⟨b, o + j, none⟩ = cs[j]?) →
    DataW.trod enc Try.prog W 0 spare held n 110 cs = some x → ∃ y : IvlD, RIvl W b o y := by
  intro n cs x b o hl hc h
  obtain ⟨p, hp, wp⟩ := field_int Try.underlying110 (by kernel_rfl) h (by simpa using hl) 0 rfl Try.underlying3
  obtain ⟨q, hq, wq⟩ := field_int Try.underlying110 (by kernel_rfl) h (by simpa using hl) 1 rfl Try.underlying3
  exact ⟨⟨p, q⟩, ⟨at0 hc 0 (by omega) hp, at0 hc 1 (by omega) hq⟩, wp, wq⟩
theorem el_hop : ∀ (n : Nat) (cs : List Value) (x : DataW H × List MemPlace) (b o : Nat), cs.length = 2 → (∀ j, j < 2 → W.cell? ⟨b, o + j, none⟩ = cs[j]?) →
    DataW.trod enc Try.prog W 0 spare held n 46 cs = some x → ∃ y : HopD, RHop W b o y := by
  intro n cs x b o hl hc h
  obtain ⟨p, hp, wp⟩ := field_int Try.underlying46 (by kernel_rfl) h (by simpa using hl) 0 rfl Try.underlying3
  obtain ⟨q, hq, wq⟩ := field_int Try.underlying46 (by kernel_rfl) h (by simpa using hl) 1 rfl Try.underlying3
  exact ⟨⟨p, q⟩, ⟨at0 hc 0 (by omega) hp, at0 hc 1 (by omega) hq⟩, wp, wq⟩
theorem el_arc : ∀ (n : Nat) (cs : List Value) (x : DataW H × List MemPlace) (b o : Nat), cs.length = 3 → (∀ j, j < 3 → W.cell? ⟨b, o + j, none⟩ = cs[j]?) →
    DataW.trod enc Try.prog W 0 spare held n 69 cs = some x → ∃ y : ArcD, RArc W b o y := by
  intro n cs x b o hl hc h
  obtain ⟨p, hp, wp⟩ := field_int Try.underlying69 (by kernel_rfl) h (by simpa using hl) 0 rfl Try.underlying3
  obtain ⟨q, hq, wq⟩ := field_int Try.underlying69 (by kernel_rfl) h (by simpa using hl) 1 rfl Try.underlying3
  obtain ⟨r, hr, wr⟩ := field_int Try.underlying69 (by kernel_rfl) h (by simpa using hl) 2 rfl Try.underlying3
  exact ⟨⟨p, q, r⟩, ⟨at0 hc 0 (by omega) hp, at0 hc 1 (by omega) hq, at0 hc 2 (by omega) hr⟩, wp, wq, wr⟩
theorem el_leg : ∀ (n : Nat) (cs : List Value) (x : DataW H × List MemPlace) (b o : Nat), cs.length = 4 → (∀ j, j < 4 → W.cell? ⟨b, o + j, none⟩ = cs[j]?) →
    DataW.trod enc Try.prog W 0 spare held n 114 cs = some x → ∃ y : LegD, RLeg W b o y := by
  intro n cs x b o hl hc h
  obtain ⟨p, hp, wp⟩ := field_int Try.underlying114 (by kernel_rfl) h (by simpa using hl) 0 rfl Try.underlying3
  obtain ⟨q, hq, wq⟩ := field_int Try.underlying114 (by kernel_rfl) h (by simpa using hl) 1 rfl Try.underlying3
  obtain ⟨r, hr, wr⟩ := field_int Try.underlying114 (by kernel_rfl) h (by simpa using hl) 2 rfl Try.underlying3
  obtain ⟨s, hs, ws⟩ := field_int Try.underlying114 (by kernel_rfl) h (by simpa using hl) 3 rfl Try.underlying3
  exact ⟨⟨p, q, r, s⟩, ⟨at0 hc 0 (by omega) hp, at0 hc 1 (by omega) hq, at0 hc 2 (by omega) hr, at0 hc 3 (by omega) hs⟩, wp, wq, wr, ws⟩
theorem el_edge : ∀ (n : Nat) (cs : List Value) (x : DataW H × List MemPlace) (b o : Nat), cs.length = 3 → (∀ j, j < 3 → W.cell? ⟨b, o + j, none⟩ = cs[j]?) →
    DataW.trod enc Try.prog W 0 spare held n 99 cs = some x → ∃ y : EdgeD, REdge W b o y := by
  intro n cs x b o hl hc h
  obtain ⟨p, hp, wp⟩ := field_int Try.underlying99 (by kernel_rfl) h (by simpa using hl) 0 rfl Try.underlying3
  obtain ⟨q, hq, wq⟩ := field_int Try.underlying99 (by kernel_rfl) h (by simpa using hl) 1 rfl Try.underlying3
  obtain ⟨c, m, y, hcc, ht⟩ := field_cell Try.underlying99 (by kernel_rfl) h (by simpa using hl) (j := 2) rfl
  obtain ⟨A, cp, l, hA, h1, h2, h3⟩ := sl_open (R := RLeg) Try.underlying97 (by kernel_rfl) (by omega) el_leg ht
  simp at hA
  exact ⟨⟨p, q, l⟩, ⟨at0 hc 0 (by omega) hp, at0 hc 1 (by omega) hq, A, cp, at0 hc 2 (by omega) (by rw [hcc, hA]), h1, h2, h3⟩, wp, wq⟩

set_option maxRecDepth 100000 in
theorem graph_open {v : Value} {d : DataW H} {p : List MemPlace} {r : Reach} {b0 : Nat} (hv : Value.okWide Try.prog W r b0 28 v) (h : DataW.Trod enc Try.prog W 0 spare held 28 v d p) :
    ∃ A c A' c' g, v = gV A c A' c' g ∧ GraphAt W A c A' c' g := by
  obtain ⟨v0, v1, v2, y0, y1, y2, n, rfl, _, _, h0, h1, h2⟩ := open_agg3 Try.underlying28 (by kernel_rfl) (by kernel_rfl) hv h
  obtain ⟨x, hx, _, wx⟩ := DataW.trod_int Try.underlying3 h0
  obtain ⟨A, c, l, hA, h3, h4, h5⟩ := sl_open (R := RIvl) Try.underlying25 (by kernel_rfl) (by omega) el_ivl h1
  obtain ⟨A', c', l', hA', h3', h4', h5'⟩ := sl_open (R := REdge) Try.underlying26 (by kernel_rfl) (by omega) el_edge h2
  simp at hx hA hA'
  subst hx hA hA'
  exact ⟨A, c, A', c', ⟨x, l, l'⟩, rfl, i64_of_wf wx, h3, h4, h3', h4', h5, h5'⟩
set_option maxRecDepth 100000 in
theorem hops_open {v : Value} {d : DataW H} {p : List MemPlace} {r : Reach} {b0 : Nat} (hv : Value.okWide Try.prog W r b0 36 v) (h : DataW.Trod enc Try.prog W 0 spare held 36 v d p) :
    ∃ A c l, v = .slice A l.length c ∧ l.length ≤ c ∧ c ≤ maxLen ∧ SlAt RHop 2 W A l := by
  obtain ⟨a0, len, cap, rfl⟩ := okWide_slice Try.underlying36 hv
  obtain ⟨fuel, hf⟩ := h
  obtain ⟨A, c, l, hA, h1⟩ := sl_open (R := RHop) Try.underlying36 (by kernel_rfl) (by omega) el_hop hf
  simp [Value.cells] at hA
  obtain ⟨rfl, rfl, rfl⟩ := hA
  exact ⟨_, _, l, rfl, h1⟩
set_option maxRecDepth 100000 in
theorem ints_open {v : Value} {d : DataW H} {p : List MemPlace} {r : Reach} {b0 : Nat} (hv : Value.okWide Try.prog W r b0 53 v) (h : DataW.Trod enc Try.prog W 0 spare held 53 v d p) :
    ∃ A c l, v = .slice A l.length c ∧ l.length ≤ c ∧ c ≤ maxLen ∧ SlAt RInt 1 W A l := by
  obtain ⟨a0, len, cap, rfl⟩ := okWide_slice Try.underlying53 hv
  obtain ⟨fuel, hf⟩ := h
  obtain ⟨A, c, l, hA, h1⟩ := sl_open (R := RInt) Try.underlying53 (by kernel_rfl) (by omega) (el_int Try.underlying3) hf
  simp [Value.cells] at hA
  obtain ⟨rfl, rfl, rfl⟩ := hA
  exact ⟨_, _, l, rfl, h1⟩
set_option maxRecDepth 100000 in
theorem bools_open {v : Value} {d : DataW H} {p : List MemPlace} {r : Reach} {b0 : Nat} (hv : Value.okWide Try.prog W r b0 48 v) (h : DataW.Trod enc Try.prog W 0 spare held 48 v d p) :
    ∃ A c l, v = .slice A l.length c ∧ l.length ≤ c ∧ c ≤ maxLen ∧ SlAt RBool 1 W A l := by
  obtain ⟨a0, len, cap, rfl⟩ := okWide_slice Try.underlying48 hv
  obtain ⟨fuel, hf⟩ := h
  obtain ⟨A, c, l, hA, h1⟩ := sl_open (R := RBool) Try.underlying48 (by kernel_rfl) (by omega) el_bool hf
  simp [Value.cells] at hA
  obtain ⟨rfl, rfl, rfl⟩ := hA
  exact ⟨_, _, l, rfl, h1⟩
set_option maxRecDepth 100000 in
theorem int_open {v : Value} {d : DataW H} {p : List MemPlace} {r : Reach} {b0 : Nat} (hv : Value.okWide Try.prog W r b0 3 v) (h : DataW.Trod enc Try.prog W 0 spare held 3 v d p) : ∃ n, v = .int .i64 n ∧ I64 n := by
  obtain ⟨x, rfl, _, _, wx⟩ := open_int Try.underlying3 hv h
  exact ⟨x, rfl, i64_of_wf wx⟩

set_option maxRecDepth 100000 in
theorem snap_open {v : Value} {d : DataW H} {p : List MemPlace} {r : Reach} {b0 : Nat} (hv : Value.okWide Try.prog W r b0 51 v) (h : DataW.Trod enc Try.prog W 0 spare held 51 v d p) :
    ∃ A c A' c' s, v = snapV A c A' c' s ∧ SnapAt W A c A' c' s := by
  obtain ⟨v0, v1, y0, y1, n, rfl, _, _, h1, h2⟩ := open_agg2 Try.underlying51 (by kernel_rfl) (by kernel_rfl) hv h
  obtain ⟨A, c, l, hA, h3, h4, h5⟩ := sl_open (R := RBool) Try.underlying48 (by kernel_rfl) (by omega) el_bool h1
  obtain ⟨A', c', l', hA', h3', h4', h5'⟩ := sl_open (R := RArc) Try.underlying49 (by kernel_rfl) (by omega) el_arc h2
  simp at hA hA'
  subst hA hA'
  exact ⟨A, c, A', c', ⟨l, l'⟩, rfl, h3, h4, h3', h4', h5, h5'⟩
end
end Go.Proofs.Ytcgnalpcbcpmkaa
