/- Several texts in one: Open, Open2, ProfSpec, Row, Step. -/
import Derived.Lib.SmallJoins
import Derived.Deep.Slices
import Derived.Deep.Fields
import Derived.Deep.OwnRows
import Derived.Laws.OwnMore
import Derived.Test.YtcfachfldanddaaProg
import Derived.Test.YtcfachfldanddaaBdec5c056207
import Derived.Test.YtcfachfldanddaaBd39c8e2073b
import Derived.Test.YtcfachfldanddaaBdb6370b3d97
import Derived.Test.YtcfachfldanddaaBd6b7ba0c9b1
import Derived.Test.YtcfachfldanddaaBd6a04bbb789
/- From the arguments as the row reads them to plain data: graphs, lists of hops, of ints, of bools, snapshots. -/
namespace Go.Proofs.Ytcfachfldanddaa
open Go.ChangeShapes Go.WideShapes Go.RowKit Go.Deep Go.Joins

section
variable {H : Type} {enc : TypeId × Value → H} {W : World} {spare : Nat → Bool} {held : Bool}

theorem i64_of_wf {n : Int} (h : (Lit.int .i64 n).wf = true) : I64 n := by
  simp [Lit.wf, IntKind.min, IntKind.max, IntKind.signed, IntKind.bits] at h
  exact ⟨by omega, by omega⟩

theorem field_cell {P : Program} {base fuel : Nat} {e : TypeId} {fs : Array Field} {cs : List Value} {x : DataW H × List MemPlace} (he : P.underlying e = some (.struct fs)) (hone : oneCellFields P fs = true)
    (h : DataW.trod enc P W base spare held fuel e cs = some x) (hl : cs.length = fs.size) {j : Nat} {f : Field} (hf : fs[j]? = some f) :
    ∃ c n y, cs[j]? = some c ∧ DataW.trod enc P W base spare held n f.type [c] = some y := by
  obtain ⟨xs, n, _, _, _, hxl, hg⟩ := DataW.trod_struct he h
  obtain ⟨ho, hk⟩ := hone_of hone j f hf
  have hj : j < fs.size := (Array.getElem?_eq_some_iff.1 hf).1
  have h1 := hg j f hf
  rw [ho, hk] at h1
  have e1 : (cs.drop j).take 1 = [cs[j]'(by omega)] := by
    rw [List.drop_eq_getElem_cons (by omega)]; rfl
  rw [e1, List.getElem?_eq_getElem (by omega)] at h1
  exact ⟨_, n, _, List.getElem?_eq_getElem (by omega), h1⟩
theorem field_int {P : Program} {base fuel : Nat} {e : TypeId} {fs : Array Field} {cs : List Value} {x : DataW H × List MemPlace} (he : P.underlying e = some (.struct fs)) (hone : oneCellFields P fs = true)
    (h : DataW.trod enc P W base spare held fuel e cs = some x) (hl : cs.length = fs.size) (j : Nat) {f : Field} (hf : fs[j]? = some f) (hi : P.underlying f.type = some (.int .i64)) :
    ∃ n, cs[j]? = some (.int .i64 n) ∧ I64 n := by
  obtain ⟨c, m, y, hc, ht⟩ := field_cell he hone h hl hf
  obtain ⟨n, hn, _, hw⟩ := DataW.trod_int hi ht
  simp at hn
  exact ⟨n, by rw [hc, hn], i64_of_wf hw⟩

/-- A slice of whatever elements. -/
theorem sl_open {α : Type} [Inhabited α] {R : World → Nat → Nat → α → Prop} {sz : Nat} {t e : TypeId} (ht : Try.prog.underlying t = some (.slice e)) (hsz : Try.prog.cellsOf e = sz) (hpos : 0 < sz)
    (hel : ∀ (n : Nat) (cs : List Value) (x : DataW H × List MemPlace) (b o : Nat), cs.length = sz → (∀ j, j < sz → W.cell? ⟨b, o + j, none⟩ = cs[j]?) → DataW.trod enc Try.prog W 0 spare held n e cs = some x → ∃ y : α, R W b o y)
    {fuel : Nat} {cs : List Value} {x : DataW H × List MemPlace} (h : DataW.trod enc Try.prog W 0 spare held fuel t cs = some x) :
    ∃ A c l, cs = [.slice A l.length c] ∧ l.length ≤ c ∧ c ≤ maxLen ∧ SlAt R sz W A l := by
  rcases open_slice ht h with ⟨h0, _⟩ | ⟨a, len, cap, m, n, D, Pl, hcs, _, hlc, hcm, hm, _, hi⟩
  · exact ⟨none, 0, [], by simpa using h0, by simp, by simp, SlAt.nil⟩
  · rw [hsz] at hi
    have hmle : len ≤ m := by rw [hm]; split <;> omega
    rcases Nat.eq_zero_or_pos len with hz | hp
    · subst hz
      exact ⟨some a, cap, [], by simpa using hcs, by simp, hcm, SlAt.nil⟩
    · obtain ⟨b, off, spot⟩ := a
      have hspot : spot = none := by
        obtain ⟨cs', h1, _⟩ := hi 0 (by omega)
        obtain ⟨_, hl, hc⟩ := World.cells?_some h1
        have h2 := hc 0 hpos
        rw [List.getElem?_eq_getElem (by omega)] at h2
        simpa [Addr.add] using World.cell?_spot h2
      subst hspot
      have hy : ∀ i, i < len → ∃ y : α, R W b (off + i * sz) y ∧ b < W.heap.size := by
        intro i hi'
        obtain ⟨cs', h1, h2⟩ := hi i (by omega)
        obtain ⟨_, hl, hc⟩ := World.cells?_some h1
        have hc' : ∀ j, j < sz → W.cell? ⟨b, off + i * sz + j, none⟩ = cs'[j]? := fun j hj => by
          rw [← hc j hj, add_plain, add_plain]
        obtain ⟨y, hy⟩ := hel n cs' _ b (off + i * sz) hl hc' h2
        have h0 := hc' 0 hpos
        rw [List.getElem?_eq_getElem (by omega)] at h0
        exact ⟨y, hy, World.block_lt_of_cell? W _ h0⟩
      obtain ⟨f, hf⟩ := choose_lt hy
      refine ⟨_, cap, (List.range len).map f, by simpa using hcs, by simpa using hlc, hcm, b, off, fun i x hx => ?_⟩
      simp only [List.getElem?_map, Option.map_eq_some_iff] at hx
      obtain ⟨k, hk, rfl⟩ := hx
      have hki : i < len ∧ i = k := by
        rcases Nat.lt_or_ge i len with hlt | hge
        · rw [List.getElem?_range hlt] at hk; exact ⟨hlt, by simpa using hk⟩
        · rw [List.getElem?_eq_none (by simpa using hge)] at hk; cases hk
      obtain ⟨hlt, rfl⟩ := hki
      exact ⟨rfl, (hf i hlt).2, (hf i hlt).1⟩

theorem at0 {b o : Nat} {cs : List Value} {v : Value} {sz : Nat} (hc : ∀ j, j < sz → W.cell? ⟨b, o + j, none⟩ = cs[j]?) (j : Nat) (hj : j < sz) (h : cs[j]? = some v) : cellIs W b (o + j) v := (hc j hj).trans h
theorem el_int {t : TypeId} (ht : Try.prog.underlying t = some (.int .i64)) : ∀ (n : Nat) (cs : List Value) (x : DataW H × List MemPlace) (b o : Nat), cs.length = 1 → (∀ j, j < 1 → W.cell? ⟨b, o + j, none⟩ = cs[j]?) →
    DataW.trod enc Try.prog W 0 spare held n t cs = some x → ∃ y : Int, RInt W b o y := by
  intro n cs x b o hl hc h
  obtain ⟨m, rfl, _, hw⟩ := DataW.trod_int ht h
  exact ⟨m, at0 hc 0 (by omega) rfl, i64_of_wf hw⟩
theorem el_bool : ∀ (n : Nat) (cs : List Value) (x : DataW H × List MemPlace) (b o : Nat), cs.length = 1 → (∀ j, j < 1 → W.cell? ⟨b, o + j, none⟩ = cs[j]?) →
    DataW.trod enc Try.prog W 0 spare held n 4 cs = some x → ∃ y : Bool, RBool W b o y := by
  intro n cs x b o hl hc h
  obtain ⟨m, rfl, _⟩ := DataW.trod_bool Try.underlying4 h
  exact ⟨m, at0 hc 0 (by omega) rfl⟩
theorem el_ivl : ∀ (n : Nat) (cs : List Value) (x : DataW H × List MemPlace) (b o : Nat), cs.length = 2 → (∀ j, j < 2 → W.cell? ⟨b, o + j, none⟩ = cs[j]?) →
    DataW.trod enc Try.prog W 0 spare held n 25 cs = some x → ∃ y : IvlD, RIvl W b o y := by
  intro n cs x b o hl hc h
  obtain ⟨p, hp, wp⟩ := field_int Try.underlying25 (by kernel_rfl) h (by simpa using hl) 0 rfl Try.underlying3
  obtain ⟨q, hq, wq⟩ := field_int Try.underlying25 (by kernel_rfl) h (by simpa using hl) 1 rfl Try.underlying3
  exact ⟨⟨p, q⟩, ⟨at0 hc 0 (by omega) hp, at0 hc 1 (by omega) hq⟩, wp, wq⟩
theorem el_hop : ∀ (n : Nat) (cs : List Value) (x : DataW H × List MemPlace) (b o : Nat), cs.length = 2 → (∀ j, j < 2 → W.cell? ⟨b, o + j, none⟩ = cs[j]?) →
    DataW.trod enc Try.prog W 0 spare held n 153 cs = some x → ∃ y : HopD, RHop W b o y := by
  intro n cs x b o hl hc h
  obtain ⟨p, hp, wp⟩ := field_int Try.underlying153 (by kernel_rfl) h (by simpa using hl) 0 rfl Try.underlying3
  obtain ⟨q, hq, wq⟩ := field_int Try.underlying153 (by kernel_rfl) h (by simpa using hl) 1 rfl Try.underlying3
  exact ⟨⟨p, q⟩, ⟨at0 hc 0 (by omega) hp, at0 hc 1 (by omega) hq⟩, wp, wq⟩
theorem el_leg : ∀ (n : Nat) (cs : List Value) (x : DataW H × List MemPlace) (b o : Nat), cs.length = 4 → (∀ j, j < 4 → W.cell? ⟨b, o + j, none⟩ = cs[j]?) →
    DataW.trod enc Try.prog W 0 spare held n 115 cs = some x → ∃ y : LegD, RLeg W b o y := by
  intro n cs x b o hl hc h
  obtain ⟨p, hp, wp⟩ := field_int Try.underlying115 (by kernel_rfl) h (by simpa using hl) 0 rfl Try.underlying3
  obtain ⟨q, hq, wq⟩ := field_int Try.underlying115 (by kernel_rfl) h (by simpa using hl) 1 rfl Try.underlying3
  obtain ⟨r, hr, wr⟩ := field_int Try.underlying115 (by kernel_rfl) h (by simpa using hl) 2 rfl Try.underlying3
  obtain ⟨s, hs, ws⟩ := field_int Try.underlying115 (by kernel_rfl) h (by simpa using hl) 3 rfl Try.underlying3
  exact ⟨⟨p, q, r, s⟩, ⟨at0 hc 0 (by omega) hp, at0 hc 1 (by omega) hq, at0 hc 2 (by omega) hr, at0 hc 3 (by omega) hs⟩, wp, wq, wr, ws⟩
theorem el_edge : ∀ (n : Nat) (cs : List Value) (x : DataW H × List MemPlace) (b o : Nat), cs.length = 3 → (∀ j, j < 3 → W.cell? ⟨b, o + j, none⟩ = cs[j]?) →
    DataW.trod enc Try.prog W 0 spare held n 118 cs = some x → ∃ y : EdgeD, REdge W b o y := by
  intro n cs x b o hl hc h
  obtain ⟨p, hp, wp⟩ := field_int Try.underlying118 (by kernel_rfl) h (by simpa using hl) 0 rfl Try.underlying3
  obtain ⟨q, hq, wq⟩ := field_int Try.underlying118 (by kernel_rfl) h (by simpa using hl) 1 rfl Try.underlying3
  obtain ⟨c, m, y, hcc, ht⟩ := field_cell Try.underlying118 (by kernel_rfl) h (by simpa using hl) (j := 2) rfl
  obtain ⟨A, cp, l, hA, h1, h2, h3⟩ := sl_open (R := RLeg) Try.underlying116 (by kernel_rfl) (by omega) el_leg ht
  simp at hA
  exact ⟨⟨p, q, l⟩, ⟨at0 hc 0 (by omega) hp, at0 hc 1 (by omega) hq, A, cp, at0 hc 2 (by omega) (by rw [hcc, hA]), h1, h2, h3⟩, wp, wq⟩

set_option maxRecDepth 100000 in
theorem graph_open {v : Value} {d : DataW H} {p : List MemPlace} {r : Reach} {b0 : Nat} (hv : Value.okWide Try.prog W r b0 78 v) (h : DataW.Trod enc Try.prog W 0 spare held 78 v d p) :
    ∃ A c A' c' g, v = gV A c A' c' g ∧ GraphAt W A c A' c' g := by
  obtain ⟨v0, v1, v2, y0, y1, y2, n, rfl, _, _, h0, h1, h2⟩ := open_agg3 Try.underlying78 (by kernel_rfl) (by kernel_rfl) hv h
  obtain ⟨x, hx, _, wx⟩ := DataW.trod_int Try.underlying3 h0
  obtain ⟨A, c, l, hA, h3, h4, h5⟩ := sl_open (R := RIvl) Try.underlying22 (by kernel_rfl) (by omega) el_ivl h1
  obtain ⟨A', c', l', hA', h3', h4', h5'⟩ := sl_open (R := REdge) Try.underlying76 (by kernel_rfl) (by omega) el_edge h2
  simp at hx hA hA'
  subst hx hA hA'
  exact ⟨A, c, A', c', ⟨x, l, l'⟩, rfl, i64_of_wf wx, h3, h4, h3', h4', h5, h5'⟩
set_option maxRecDepth 100000 in
theorem hops_open {v : Value} {d : DataW H} {p : List MemPlace} {r : Reach} {b0 : Nat} (hv : Value.okWide Try.prog W r b0 119 v) (h : DataW.Trod enc Try.prog W 0 spare held 119 v d p) :
    ∃ A c l, v = .slice A l.length c ∧ l.length ≤ c ∧ c ≤ maxLen ∧ SlAt RHop 2 W A l := by
  obtain ⟨a0, len, cap, rfl⟩ := okWide_slice Try.underlying119 hv
  obtain ⟨fuel, hf⟩ := h
  obtain ⟨A, c, l, hA, h1⟩ := sl_open (R := RHop) Try.underlying119 (by kernel_rfl) (by omega) el_hop hf
  simp [Value.cells] at hA
  obtain ⟨rfl, rfl, rfl⟩ := hA
  exact ⟨_, _, l, rfl, h1⟩
set_option maxRecDepth 100000 in
theorem ints_open {v : Value} {d : DataW H} {p : List MemPlace} {r : Reach} {b0 : Nat} (hv : Value.okWide Try.prog W r b0 81 v) (h : DataW.Trod enc Try.prog W 0 spare held 81 v d p) :
    ∃ A c l, v = .slice A l.length c ∧ l.length ≤ c ∧ c ≤ maxLen ∧ SlAt RInt 1 W A l := by
  obtain ⟨a0, len, cap, rfl⟩ := okWide_slice Try.underlying81 hv
  obtain ⟨fuel, hf⟩ := h
  obtain ⟨A, c, l, hA, h1⟩ := sl_open (R := RInt) Try.underlying81 (by kernel_rfl) (by omega) (el_int Try.underlying3) hf
  simp [Value.cells] at hA
  obtain ⟨rfl, rfl, rfl⟩ := hA
  exact ⟨_, _, l, rfl, h1⟩
set_option maxRecDepth 100000 in
theorem bools_open {v : Value} {d : DataW H} {p : List MemPlace} {r : Reach} {b0 : Nat} (hv : Value.okWide Try.prog W r b0 89 v) (h : DataW.Trod enc Try.prog W 0 spare held 89 v d p) :
    ∃ A c l, v = .slice A l.length c ∧ l.length ≤ c ∧ c ≤ maxLen ∧ SlAt RBool 1 W A l := by
  obtain ⟨a0, len, cap, rfl⟩ := okWide_slice Try.underlying89 hv
  obtain ⟨fuel, hf⟩ := h
  obtain ⟨A, c, l, hA, h1⟩ := sl_open (R := RBool) Try.underlying89 (by kernel_rfl) (by omega) el_bool hf
  simp [Value.cells] at hA
  obtain ⟨rfl, rfl, rfl⟩ := hA
  exact ⟨_, _, l, rfl, h1⟩
set_option maxRecDepth 100000 in
theorem int_open {v : Value} {d : DataW H} {p : List MemPlace} {r : Reach} {b0 : Nat} (hv : Value.okWide Try.prog W r b0 3 v) (h : DataW.Trod enc Try.prog W 0 spare held 3 v d p) : ∃ n, v = .int .i64 n ∧ I64 n := by
  obtain ⟨x, rfl, _, _, wx⟩ := open_int Try.underlying3 hv h
  exact ⟨x, rfl, i64_of_wf wx⟩

end
end Go.Proofs.Ytcfachfldanddaa
/- More openings: strings, a hop by value, five arguments; that a list of parameters is readable. -/
namespace Go.Proofs.Ytcfachfldanddaa
open Go.ChangeShapes Go.WideShapes Go.RowKit Go.Deep Go.Joins
open Go.ChangeMaps (open_string)

theorem params_read {l : List TypeId} (h : l.all (fun t => Try.prog.readableRec t && decide (t < Try.prog.types.size)) = true) : ∀ t ∈ l, Try.prog.readableRec t = true ∧ t < Try.prog.types.size := by
  intro t ht
  have := List.all_eq_true.1 h t ht
  simpa using this
section
variable {H : Type} {enc : TypeId × Value → H} {W : World} {spare : Nat → Bool} {held : Bool} {P : Program} {base : Nat}
set_option maxRecDepth 100000 in
theorem string_open_ {v : Value} {d : DataW H} {p : List MemPlace} {r : Reach} {b0 : Nat} (hv : Value.okWide Try.prog W r b0 9 v) (h : DataW.Trod enc Try.prog W 0 spare held 9 v d p) : ∃ s, v = .string s ∧ s.size ≤ maxLen := by
  obtain ⟨s, rfl, _, _, hs⟩ := open_string Try.underlying9 hv h
  exact ⟨s, rfl, hs⟩
set_option maxRecDepth 100000 in
theorem hop_open {v : Value} {d : DataW H} {p : List MemPlace} {r : Reach} {b0 : Nat} (hv : Value.okWide Try.prog W r b0 153 v) (h : DataW.Trod enc Try.prog W 0 spare held 153 v d p) :
    ∃ x, v = hopV x ∧ I64 x.edge ∧ I64 x.depart := by
  obtain ⟨v0, v1, y0, y1, n, rfl, _, _, h1, h2⟩ := open_agg2 Try.underlying153 (by kernel_rfl) (by kernel_rfl) hv h
  obtain ⟨a, ha, _, wa⟩ := DataW.trod_int Try.underlying3 h1
  obtain ⟨b, hb, _, wb⟩ := DataW.trod_int Try.underlying3 h2
  simp at ha hb
  subst ha hb
  exact ⟨⟨a, b⟩, rfl, i64_of_wf wa, i64_of_wf wb⟩
end
end Go.Proofs.Ytcfachfldanddaa
/- What is told of a profile: plain law; no program in sight. -/
namespace Go.Proofs.Ytcfachfldanddaa

open Classical in
/-- When one comes, who starts at a time. -/
noncomputable def profF (g : GraphD) (v u t : Int) : Option Int := if h : ∃ l, placeErr g v t = 0 ∧ EarlyL g v t l ∧ gi l u.toNat < Never then some (gi (Classical.choose h) u.toNat) else none
section
variable {g : GraphD} {v u t y : Int} {l : List Int}
theorem profF_of (h0 : placeErr g v t = 0) (h : EarlyL g v t l) : profF g v u t = if gi l u.toNat < Never then some (gi l u.toNat) else none := by
  unfold profF
  by_cases hn : gi l u.toNat < Never
  · have hx : ∃ l, placeErr g v t = 0 ∧ EarlyL g v t l ∧ gi l u.toNat < Never := ⟨l, h0, h, hn⟩
    rw [dif_pos hx, if_pos hn, (Classical.choose_spec hx).2.1.eq h]
  · rw [dif_neg (fun ⟨r, _, hr, hrn⟩ => by rw [hr.eq h] at hrn; exact hn hrn), if_neg hn]
theorem profF_some (h : profF g v u t = some y) : ∃ l, placeErr g v t = 0 ∧ EarlyL g v t l ∧ gi l u.toNat = y ∧ y < Never := by
  unfold profF at h
  split at h
  · rename_i hx
    obtain ⟨h0, h1, h2⟩ := Classical.choose_spec hx
    have e : gi (Classical.choose hx) u.toNat = y := by simpa using h
    exact ⟨_, h0, h1, e, by rw [← e]; exact h2⟩
  · simp at h
theorem profF_place (h : profF g v u t = some y) : placeErr g v t = 0 := (profF_some h).choose_spec.1
theorem profF_out (h : ¬ (0 ≤ t ∧ t < g.h)) : profF g v u t = none := by
  cases hc : profF g v u t with
  | none => rfl
  | some y => exact absurd (place_of (profF_place hc)).2.2 h
theorem profF_val (hu : 0 ≤ u ∧ u < g.lives.length) (h : profF g v u t = some y) : t ≤ y ∧ y < g.h ∧ g.h ≤ 100 ∧ 0 ≤ t := by
  obtain ⟨l, h0, h1, h2, h3⟩ := profF_some h
  obtain ⟨hV, hv, ht0, ht1⟩ := place_of h0
  have hh := hV.h1
  have hk : u.toNat < g.lives.length := by omega
  have hlow := h1.low hV (by omega) hk
  have hhere := h1.here hV ⟨hv.1, hv.2, ht0, ht1⟩ hk (by rw [h2]; exact h3)
  obtain ⟨_, _, _, k1, _⟩ := hhere
  rw [h2] at hlow k1
  exact ⟨hlow, k1, hh, ht0⟩
theorem profF_near (hu : 0 ≤ u ∧ u < g.lives.length) (h : profF g v u t = some y) : nearB y = true := by
  obtain ⟨h1, h2, h3, h4⟩ := profF_val hu h
  exact near_iff.2 (by omega)
/-- Who starts later comes no earlier. -/
theorem profF_rises {s x : Int} (hs : profF g v u s = some x) (ht : profF g v u t = some y) (hst : s ≤ t) (hu : 0 ≤ u ∧ u < g.lives.length) : x ≤ y := by
  obtain ⟨l, h0, h1, rfl, h3⟩ := profF_some hs
  obtain ⟨r, k0, k1, rfl, k3⟩ := profF_some ht
  obtain ⟨hV, hv, ht0, ht1⟩ := place_of h0
  have hh := hV.h1
  refine h1.later hV k1 ?_ hst (by omega) _
  cases ha : aliveB g v s
  · have := h1.dead hV (by omega) ha (k := u.toNat) (by omega)
    omega
  · rfl
end
/-- A profile up to a time. -/
noncomputable def profTo (g : GraphD) (v u : Int) (k : Nat) (t : Int) : Option Int := if t < k then profF g v u t else none
section
variable {g : GraphD} {v u : Int} {k : Nat} {y : Int} {m out : List PieceD}
theorem profTo_zero : profTo g v u 0 = fun _ => none := funext fun t => by
  unfold profTo
  split
  · exact profF_out (by omega)
  · rfl
theorem profTo_none (h : profF g v u k = none) : profTo g v u (k + 1) = profTo g v u k := funext fun t => by
  unfold profTo
  by_cases h1 : t < k
  · rw [if_pos h1, if_pos (by omega)]
  · rw [if_neg h1]
    split
    · obtain rfl : t = k := by omega
      exact h
    · rfl
theorem profTo_some (hm : ∀ t, atM m t = profTo g v u k t) (h : profF g v u k = some y) : ∀ t, putM m ⟨k, k + 1, y⟩ t = profTo g v u (k + 1) t := fun t => by
  unfold putM profTo
  by_cases h1 : (k : Int) ≤ t ∧ t < k + 1
  · obtain rfl : t = k := by omega
    rw [if_pos h1, if_pos (by omega), h]
  · rw [if_neg h1, hm]
    unfold profTo
    by_cases h2 : t < k
    · rw [if_pos h2, if_pos (by omega)]
    · rw [if_neg h2, if_neg (by omega)]
theorem profTo_end (hk : g.h ≤ k) : profTo g v u k = profF g v u := funext fun t => by
  unfold profTo
  split
  · rfl
  · exact (profF_out (by omega)).symm
end
/-- Pieces between two bounds are no more than the times between them. -/
theorem map_len : ∀ {l : List PieceD} {a b : Int}, MapL l → (∀ x, x ∈ l → a ≤ x.f ∧ x.t ≤ b) → a ≤ b → (l.length : Int) ≤ b - a
  | [], a, b, _, _, hab => by simp; omega
  | x :: l, a, b, h, hb, _ => by
    have hx := hb x (by simp)
    have hxl := h.2 x (by simp)
    have := map_len (a := x.t) (b := b) h.tail (fun y hy => ⟨((List.pairwise_cons.1 h.1).1 y hy).1, (hb y (List.mem_cons_of_mem _ hy)).2⟩) hx.2
    rw [List.length_cons]
    omega
theorem map_inside {l : List PieceD} {a b : Int} (h : MapL l) (hn : ∀ t, atM l t ≠ none → a ≤ t ∧ t < b) : ∀ x, x ∈ l → a ≤ x.f ∧ x.t ≤ b := fun x hx => by
  have hxl := h.2 x hx
  have h1 := hn x.f (by rw [h.mem_at hx (Int.le_refl _) hxl]; simp)
  have h2 := hn (x.t - 1) (by rw [h.mem_at hx (by omega) (by omega)]; simp)
  omega
theorem tells_small {fn : Int → Option Int} {er : Int} {out : List PieceD} (h : Tells fn er out) (hv : ∀ t v, fn t = some v → nearB v = true) (hn : ∀ t, fn t ≠ none → 0 ≤ t ∧ t < 100) : er = 0 ∧ MapL out ∧ (∀ t, atM out t = fn t) ∧ mapErr out = 0 := by
  obtain ⟨U, h1, h2, h3, h4, _⟩ := h
  have hin := map_inside (a := 0) (b := 100) h1 fun t ht => hn t (by rw [← h2]; exact ht)
  have hl := map_len h1 hin (by decide)
  have h0 : er = 0 := by rw [h3]; exact tellErr_ok hv (by omega)
  have e := h4 h0
  subst e
  refine ⟨h0, h1, h2, mapErr_ok (by omega) ⟨h1, fun x hx => ?_⟩⟩
  have hi := hin x hx
  have hxl := h1.2 x hx
  exact ⟨near_iff.2 (by omega), near_iff.2 (by omega), hv x.f x.v (by rw [← h2]; exact h1.mem_at hx (Int.le_refl _) hxl)⟩
theorem of_step {g : GraphD} {v u y er : Int} {k : Nat} {m o : List PieceD} (hu : 0 ≤ u ∧ u < g.lives.length) (h0 : mapErr m = 0) (hm : ∀ t, atM m t = profTo g v u k t) (hf : profF g v u k = some y) (hP : PutSay m ⟨k, k + 1, y⟩ er o) : er = 0 ∧ mapErr o = 0 ∧ ∀ t, atM o t = profTo g v u (k + 1) t := by
  have hy := profF_val hu hf
  unfold PutSay at hP
  rw [if_pos h0, if_pos ⟨near_iff.2 (by simp only; omega), near_iff.2 (by simp only; omega), profF_near hu hf⟩] at hP
  have e : putM m ⟨k, k + 1, y⟩ = profTo g v u (k + 1) := funext (profTo_some hm hf)
  rw [e] at hP
  have hs : ∀ t x, profTo g v u (k + 1) t = some x → profF g v u t = some x := fun t x hx => by
    unfold profTo at hx
    split at hx
    · exact hx
    · simp at hx
  obtain ⟨h1, _, h3, h4⟩ := tells_small hP (fun t x hx => profF_near hu (hs t x hx)) fun t ht => by
    cases hc : profTo g v u (k + 1) t with
    | none => exact absurd hc ht
    | some x => have := profF_val hu (hs t x hc); omega
  exact ⟨h1, h4, h3⟩
/-- What Of tells. -/
def OfSay (g : GraphD) (v u er : Int) (out : List PieceD) : Prop :=
  if graphErr g = 0 then if (0 ≤ v ∧ v < g.lives.length) ∧ 0 ≤ u ∧ u < g.lives.length then er = 0 ∧ MapL out ∧ (∀ t, atM out t = profF g v u t) ∧ mapErr out = 0 else er = 4 ∧ out = [] else er = graphErr g ∧ out = []
section
variable {g : GraphD} {v u er : Int} {out : List PieceD} {D : List Int}
theorem prof_turns (hD : D.Pairwise (· < ·)) (hm : ∀ x, x ∈ D ↔ 0 ≤ x ∧ x ≤ g.h) : TurnsAt D none (profF g v u) := by
  refine ⟨fun i a c ha hc t h1 h2 => ?_, fun t ht => ?_⟩
  · have hac := rises_lt hD ha hc
    have ma := (hm a).1 (List.mem_of_getElem? ha)
    have mc := (hm c).1 (List.mem_of_getElem? hc)
    by_cases hta : t = a
    · rw [hta]
    · exfalso
      have mt := (hm t).2 (by omega)
      obtain ⟨j, hj⟩ := List.getElem?_of_mem mt
      rcases Nat.lt_trichotomy j i with h | h | h
      · have := List.pairwise_iff_getElem.1 hD j i (lt_of_get hj) (lt_of_get ha) h
        rw [(List.getElem?_eq_some_iff.1 hj).2, (List.getElem?_eq_some_iff.1 ha).2] at this
        omega
      · subst h; rw [ha] at hj; simp at hj; omega
      · rcases Nat.lt_trichotomy j (i + 1) with h' | h' | h'
        · omega
        · subst h'; rw [hc] at hj; simp at hj; omega
        · have := List.pairwise_iff_getElem.1 hD (i + 1) j (lt_of_get hc) (lt_of_get hj) h'
          rw [(List.getElem?_eq_some_iff.1 hj).2, (List.getElem?_eq_some_iff.1 hc).2] at this
          omega
  · cases hc : profF g v u t with
    | none => exact absurd hc ht
    | some y =>
      have h1 := (place_of (profF_place hc)).2.2
      exact ⟨0, g.h, (hm 0).2 (by omega), (hm g.h).2 (by omega), h1.1, h1.2⟩
end
section
variable {g : GraphD} {v u er : Int} {m : List PieceD} {k : Nat} {x y : PieceD}
theorem OfSay.good (h : OfSay g v u er m) (h0 : er = 0) : Valid g ∧ (0 ≤ u ∧ u < g.lives.length) ∧ MapL m ∧ (∀ t, atM m t = profF g v u t) ∧ mapErr m = 0 := by
  unfold OfSay at h
  split at h
  · rename_i h1
    split at h
    · rename_i h2
      exact ⟨valid_of h1, h2.2, h.2.1, h.2.2.1, h.2.2.2⟩
    · rw [h0] at h; simp at h
  · rename_i h1
    rw [h0] at h; exact absurd h.1.symm h1
theorem OfSay.none (h : OfSay g v u er m) (h0 : er ≠ 0) : m = [] := by
  unfold OfSay at h
  split at h
  · split at h
    · exact absurd h.1 h0
    · exact h.2
  · exact h.2
theorem OfSay.piece (h : OfSay g v u 0 m) (hx : x ∈ m) : 0 ≤ x.v ∧ x.t - 1 ≤ x.v ∧ x.t ≤ 100 ∧ 0 ≤ x.f ∧ x.f < x.t := by
  obtain ⟨_, h2, h3, h4, _⟩ := h.good rfl
  have hxl := h3.2 x hx
  have e1 := profF_val h2 ((h4 (x.t - 1)).symm.trans (h3.mem_at hx (by omega) (by omega)))
  have e2 := profF_val h2 ((h4 x.f).symm.trans (h3.mem_at hx (Int.le_refl _) hxl))
  omega
theorem OfSay.rise (h : OfSay g v u 0 m) (hx : m[k]? = some x) (hy : m[k + 1]? = some y) : x.v ≤ y.v := by
  obtain ⟨_, h2, h3, h4, _⟩ := h.good rfl
  have mx := List.mem_of_getElem? hx
  have my := List.mem_of_getElem? hy
  obtain ⟨i1, i2⟩ := List.getElem?_eq_some_iff.1 hx
  obtain ⟨j1, j2⟩ := List.getElem?_eq_some_iff.1 hy
  have hg := List.pairwise_iff_getElem.1 h3.1 k (k + 1) i1 j1 (by omega)
  rw [i2, j2] at hg
  have := h3.2 x mx
  exact profF_rises ((h4 x.f).symm.trans (h3.mem_at mx (Int.le_refl _) this)) ((h4 y.f).symm.trans (h3.mem_at my (Int.le_refl _) (h3.2 y my))) (by omega) h2
theorem OfSay.first (h : OfSay g v u 0 m) (hy : m[0]? = some y) : 0 ≤ y.v := (h.piece (List.mem_of_getElem? hy)).1
/-- The value of the last piece ahead. -/
def lastV (m : List PieceD) : Nat → Int
  | 0 => 0
  | k + 1 => ((m[k]?).map PieceD.v).getD 0
theorem OfSay.above (h : OfSay g v u 0 m) (hy : m[k]? = some y) : lastV m k ≤ y.v := by
  cases k with
  | zero => exact h.first hy
  | succ k =>
    obtain ⟨x, hx⟩ := get_lt (show k < m.length by have := lt_of_get hy; omega)
    show ((m[k]?).map PieceD.v).getD 0 ≤ y.v
    rw [hx]
    exact h.rise hx hy
theorem lastV_succ (hx : m[k]? = some x) : lastV m (k + 1) = x.v := by show ((m[k]?).map PieceD.v).getD 0 = x.v; rw [hx]; rfl
end
end Go.Proofs.Ytcfachfldanddaa
/- Blocks that hold a list of numbers, or of bools: how they are made, read, written. -/
namespace Go.Proofs.Ytcfachfldanddaa
open Go.RowKit

def IRow (w : World) (b : Nat) (l : List Int) : Prop := Blk w b 3 (l.map iV).toArray
def BRow (w : World) (b : Nat) (l : List Bool) : Prop := Blk w b 4 (l.map Value.bool).toArray
theorem made_is (z : Value) (n : Nat) : madeCells #[z] n = (List.replicate n z).toArray := by
  apply Array.toList_inj.1
  rw [toList_madeCells_one]
theorem IRow.made {w : World} {b n : Nat} (hb : b = w.heap.size) : IRow (w.alloc (.cells (madeCells #[.int .i64 0] n) 3)) b (List.replicate n 0) := by
  unfold IRow
  rw [made_is]
  simpa using Blk.new_ hb
theorem BRow.made {w : World} {b n : Nat} (hb : b = w.heap.size) : BRow (w.alloc (.cells (madeCells #[.bool false] n) 4)) b (List.replicate n false) := by
  unfold BRow
  rw [made_is]
  simpa using Blk.new_ hb
section
variable {w w' : World} {b : Nat} {l : List Int} {r : List Bool}
theorem IRow.cell (h : IRow w b l) {k : Nat} (hk : k < l.length) : w.cell? ⟨b, k, none⟩ = some (.int .i64 (gi l k)) := by
  rw [Blk.cell h]
  simp [gi_get hk]
theorem BRow.cell (h : BRow w b r) {k : Nat} {x : Bool} (hk : r[k]? = some x) : w.cell? ⟨b, k, none⟩ = some (.bool x) := by
  rw [Blk.cell h]
  simp [hk]
theorem IRow.set (h : IRow w b l) (k : Nat) (x : Int) : IRow (w.setCell ⟨b, k, none⟩ (.int .i64 x)) b (l.set k x) := by
  have := Blk.set_ h k (.int .i64 x)
  unfold IRow
  simpa [List.map_set] using this
theorem BRow.set (h : BRow w b r) (k : Nat) (x : Bool) : BRow (w.setCell ⟨b, k, none⟩ (.bool x)) b (r.set k x) := by
  have := Blk.set_ h k (.bool x)
  unfold BRow
  simpa [List.map_set] using this
theorem IRow.slAt (h : IRow w b l) (hi : ∀ k, k < l.length → I64 (gi l k)) : SlAt RInt 1 w (some ⟨b, 0, none⟩) l := by
  refine ⟨b, 0, fun i x hx => ⟨rfl, Blk.lt h, ?_, ?_⟩⟩
  · have hl := lt_of_get hx
    have := IRow.cell h hl
    unfold cellIs
    rw [gi_of hx] at this
    simpa using this
  · have hl := lt_of_get hx
    have := hi i hl
    rwa [gi_of hx] at this
end
theorem info_int : (Try.prog.info? 3).map (fun i => (i.zero, i.size, i.bytes)) = some (some (.int .i64 0), 1, 8) := by kernel_rfl
theorem info_bool : (Try.prog.info? 4).map (fun i => (i.zero, i.size, i.bytes)) = some (some (.bool false), 1, 1) := by kernel_rfl
theorem make_ints (n : Nat) (h : n ≤ 1000000) (w : World) : (Instr.makeSlice 81 (.int .i64 (n : Int)) (.int .i64 (n : Int))).run Try.prog w = .ok (.slice (some ⟨w.heap.size, 0, none⟩) n n) (w.alloc (.cells (madeCells #[.int .i64 0] n) 3)) :=
  run_make_row' (P := Try.prog) 81 3 (.int .i64 0) 8 Try.underlying81 info_int rfl .i64 .i64 n (by omega) (by omega) w
theorem make_bools (n : Nat) (h : n ≤ 1000000) (w : World) : (Instr.makeSlice 89 (.int .i64 (n : Int)) (.int .i64 (n : Int))).run Try.prog w = .ok (.slice (some ⟨w.heap.size, 0, none⟩) n n) (w.alloc (.cells (madeCells #[.bool false] n) 4)) :=
  run_make_row' (P := Try.prog) 89 4 (.bool false) 1 Try.underlying89 info_bool rfl .i64 .i64 n (by omega) (by omega) w
end Go.Proofs.Ytcfachfldanddaa
/- The walks of one step: alive, the leg of a time, when one comes; the program's and the document's. -/
namespace Go.Proofs.Ytcfachfldanddaa
open Go.RowKit

set_option maxHeartbeats 400000 in
theorem alive_any (A A' : Option Addr) (c c' : Nat) (g : GraphD) (v t : Int) (w : World) (hG : GraphAt w A c A' c' g) (h0 : 0 ≤ v) (h1 : v < g.lives.length) :
    Calls Try.prog 120 #[gV A c A' c' g, .int .i64 v, .int .i64 t] w fun e w' => e = .returned (.bool (aliveB g v t)) ∧ Below w.heap.size w w' := by
  obtain ⟨b, off, hL⟩ := hG.lives
  obtain ⟨y, hy⟩ := get_lt (show v.toNat < g.lives.length by omega)
  obtain ⟨rfl, hb0, ⟨⟨x0, x1⟩, _⟩⟩ := hL _ y hy
  unfold cellIs at x0 x1
  have HA := Lib.hid (aliveB_of (t := t) hy)
  clear hL hy
  by_cases h2 : y.f ≤ t
  all_goals
    go_enter Try.func120, Try.ntmps120
    go_wp2
    go_ret
    exact ⟨ret_bool (by rw [HA.out]; first | (rw [Bool.eq_iff_iff]; simp; omega) | (symm; simp; omega)), by go_grown⟩

set_option maxHeartbeats 400000 in
theorem refAlive_any (A A' : Option Addr) (c c' : Nat) (g : GraphD) (v t : Int) (w : World) (hG : GraphAt w A c A' c' g) (h0 : 0 ≤ v) (h1 : v < g.lives.length) :
    Calls Try.prog 123 #[gV A c A' c' g, .int .i64 v, .int .i64 t] w fun e w' => e = .returned (.bool (aliveB g v t)) ∧ Below w.heap.size w w' := by
  obtain ⟨b, off, hL⟩ := hG.lives
  obtain ⟨y, hy⟩ := get_lt (show v.toNat < g.lives.length by omega)
  obtain ⟨rfl, hb0, ⟨⟨x0, x1⟩, _⟩⟩ := hL _ y hy
  unfold cellIs at x0 x1
  have HA := Lib.hid (aliveB_of (t := t) hy)
  clear hL hy
  by_cases h2 : y.f ≤ t
  all_goals
    go_enter Try.func123, Try.ntmps123
    go_wp2
    go_ret
    exact ⟨ret_bool (by rw [HA.out]; first | (rw [Bool.eq_iff_iff]; simp; omega) | (symm; simp; omega)), by go_grown⟩

/-- The two results of looking for a leg. -/
def legsR (o : Option LegD) : Value := match o with
  | some x => .tuple #[legV x, .bool true]
  | none => .tuple #[legV ⟨0, 0, 0, 0⟩, .bool false]

set_option maxHeartbeats 1000000 in
theorem leaves_any (L : Option Addr) (cl : Nat) (x : EdgeD) (t : Int) (w : World) (hL : SlAt RLeg 4 w L x.legs) (hl : x.legs.length ≤ maxLen) :
    Calls Try.prog 131 #[edgeV L cl x, .int .i64 t] w fun e w' => e = .returned (legsR (leaves t x.legs)) ∧ Below w.heap.size w w' := by
  unfold maxLen at hl
  obtain ⟨b, off, hL⟩ := hL
  go_enter Try.func131, Try.ntmps131
  go_wp2
  go_loopw [11] (fun v wr => ∃ k : Nat, k ≤ x.legs.length ∧ v = .int .i64 k ∧ Hid (leaves t (x.legs.drop k) = leaves t x.legs) ∧ Below w.heap.size w wr ∧ Blk wr (w.heap.size + 1) 115 #[.int .i64 0, .int .i64 0, .int .i64 0, .int .i64 0]) (fun v _ => x.legs.length - (intOf v).toNat)
  case atStart => exact ⟨0, Nat.zero_le _, rfl, Lib.hid rfl, by go_grown, Blk.new_ (by simp)⟩
  case round =>
    obtain ⟨k, hk, rfl, HI, hb, hB⟩ := hrel
    obtain ⟨hc, hf, hz⟩ := hB.facts
    by_cases hlt : k < x.legs.length
    · obtain ⟨y, hy⟩ := get_lt hlt
      obtain ⟨rfl, hb0, ⟨⟨x0, x1, x2, x3⟩, _⟩⟩ := hL k y hy
      have y0 := x0.now hb
      have y1 := x1.now hb
      have y2 := x2.now hb
      have y3 := x3.now hb
      have hd := drop_cons hy
      have HI2 : Hid (leaves t (y :: x.legs.drop (k + 1)) = leaves t x.legs) := by rw [← hd]; exact HI
      clear hL hd hy HI x0 x1 x2 x3
      by_cases hok : y.f ≤ t ∧ t < y.t
      · obtain ⟨k1, k2⟩ := hok
        go_wp2
        refine bodyPost_ret (v := .tuple #[legV y, .bool true]) (by simp [results, Try.results131, go_sem, hc, hz, legV]) rfl ?_
        refine ⟨by rw [← HI2.out, leaves_hit ⟨k1, k2⟩]; rfl, ?_⟩
        exact ((((hb.setCell (by simp) _).setCell (by simp) _).setCell (by simp) _).setCell (by simp) _).alloc (by simp; omega) _
      · go_wp2
        all_goals
          go_roundw
          case rel => exact ⟨k + 1, by omega, by go_num, Lib.hid ((leaves_miss (by omega)).symm.trans HI2.out), ext_alloc hb _, hB.alloc _⟩
          case measure => simp [intOf]; omega
    · go_wp2
      refine bodyPost_ret (v := .tuple #[legV ⟨0, 0, 0, 0⟩, .bool false]) (by simp [results, Try.results131, go_sem, hc, legV]) rfl ?_
      refine ⟨by rw [← HI.out, drop_end (by omega)]; rfl, ?_⟩
      exact ((((hb.setCell (by simp) _).setCell (by simp) _).setCell (by simp) _).setCell (by simp) _)

set_option maxHeartbeats 1000000 in
theorem refLeg_any (L : Option Addr) (cl : Nat) (x : EdgeD) (t : Int) (w : World) (hL : SlAt RLeg 4 w L x.legs) (hl : x.legs.length ≤ maxLen) :
    Calls Try.prog 132 #[edgeV L cl x, .int .i64 t] w fun e w' => e = .returned (legsR (leaves t x.legs)) ∧ Below w.heap.size w w' := by
  unfold maxLen at hl
  obtain ⟨b, off, hL⟩ := hL
  go_enter Try.func132, Try.ntmps132
  go_wp2
  go_loopw [6] (fun v wr => ∃ k : Nat, k ≤ x.legs.length ∧ v = .int .i64 k ∧ Hid (leaves t (x.legs.drop k) = leaves t x.legs) ∧ Below w.heap.size w wr ∧ Blk wr w.heap.size 118 #[.int .i64 x.a, .int .i64 x.b, .slice L x.legs.length cl] ∧ Blk wr (w.heap.size + 1) 115 #[.int .i64 0, .int .i64 0, .int .i64 0, .int .i64 0]) (fun v _ => x.legs.length - (intOf v).toNat)
  case atStart => exact ⟨0, Nat.zero_le _, rfl, Lib.hid rfl, by go_grown, (Blk.new _ _ _).alloc _, Blk.new_ (by simp)⟩
  case round =>
    obtain ⟨k, hk, rfl, HI, hb, hB0, hB⟩ := hrel
    obtain ⟨hc, hf, hz⟩ := hB.facts
    obtain ⟨b1, b2, b3⟩ := hB0.facts
    by_cases hlt : k < x.legs.length
    · obtain ⟨y, hy⟩ := get_lt hlt
      obtain ⟨rfl, hb0, ⟨⟨x0, x1, x2, x3⟩, _⟩⟩ := hL k y hy
      have y0 := x0.now hb
      have y1 := x1.now hb
      have y2 := x2.now hb
      have y3 := x3.now hb
      have hd := drop_cons hy
      have HI2 : Hid (leaves t (y :: x.legs.drop (k + 1)) = leaves t x.legs) := by rw [← hd]; exact HI
      clear hL hd hy HI x0 x1 x2 x3
      by_cases hok : y.f ≤ t ∧ t < y.t
      · obtain ⟨k1, k2⟩ := hok
        go_wp2
        refine bodyPost_ret (v := .tuple #[legV y, .bool true]) (by simp [results, Try.results132, go_sem, hc, legV]) rfl ?_
        refine ⟨by rw [← HI2.out, leaves_hit ⟨k1, k2⟩]; rfl, ?_⟩
        exact ((((hb.setCell (by simp) _).setCell (by simp) _).setCell (by simp) _).setCell (by simp) _)
      · go_wp2
        all_goals
          go_roundw
          case rel => exact ⟨k + 1, by omega, by go_num, Lib.hid ((leaves_miss (by omega)).symm.trans HI2.out), hb, hB0, hB⟩
          case measure => simp [intOf]; omega
    · go_wp2
      refine bodyPost_ret (v := .tuple #[legV ⟨0, 0, 0, 0⟩, .bool false]) (by simp [results, Try.results132, go_sem, hc, legV]) rfl ?_
      refine ⟨by rw [← HI.out, drop_end (by omega)]; rfl, ?_⟩
      exact ((((hb.setCell (by simp) _).setCell (by simp) _).setCell (by simp) _).setCell (by simp) _)
end Go.Proofs.Ytcfachfldanddaa
