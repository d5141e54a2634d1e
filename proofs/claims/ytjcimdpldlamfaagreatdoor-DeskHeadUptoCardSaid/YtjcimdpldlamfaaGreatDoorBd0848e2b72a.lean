/- Several texts in one: MapLawSpec, Keep, Own, Own2, Sys. -/
import Derived.Deep.RegionHeld3
import Derived.OwnWalk
import Derived.Deep.AppendLies
import Derived.Deep.RegionHeldLaw
import Derived.Test.YtjcimdpldlamfaaGreatDoorBd2df7774ef4
import Derived.Test.YtjcimdpldlamfaaGreatDoorBd002cafd2b4
/- What is told of maps of times; laws of maps; no program in sight. -/
namespace Go.Proofs.YtjcimdpldlamfaaGreatDoor

structure MapOk (m : List PieceD) : Prop where
 map : MapL m
 near : ∀ x, x ∈ m → nearB x.f = true ∧ nearB x.t = true ∧ nearB x.v = true
open Classical in
/-- What is wrong with a map. -/
noncomputable def mapErr (m : List PieceD) : Int := if 200 < m.length then 2 else if MapOk m then 0 else 5
section
variable {l m r u : List PieceD} {x y : PieceD} {t v : Int} {k : Nat}
theorem mapErr_large (h : 200 < l.length) : mapErr l = 2 := if_pos h
theorem mapErr_ok (h : ¬ 200 < l.length) (h2 : MapOk l) : mapErr l = 0 := by unfold mapErr; rw [if_neg h, if_pos h2]
theorem mapErr_bad (h : ¬ 200 < l.length) (h2 : ¬ MapOk l) : mapErr l = 5 := by unfold mapErr; rw [if_neg h, if_neg h2]
theorem mapErr_zero (h : mapErr l = 0) : ¬ 200 < l.length ∧ MapOk l := by
 by_cases h1 : 200 < l.length
 ·rw [mapErr_large h1] at h; simp at h
 ·by_cases h2 : MapOk l
  ·exact ⟨h1, h2⟩
  ·rw [mapErr_bad h1 h2] at h; simp at h
theorem MapOk.nil : MapOk [] := ⟨.nil, fun x h => by simp at h⟩
theorem takeM_succ (hx : l[k]? = some x) : l.take (k + 1) = l.take k ++ [x] := by rw [List.take_add_one, hx]; rfl
theorem MapOk.first (hx : l[0]? = some x) (h1 : nearB x.f = true) (h2 : nearB x.t = true) (h0 : nearB x.v = true) (h3 : x.f < x.t) : MapOk (l.take 1) := by
 rw [takeM_succ hx]
 have e : ∀ y, y ∈ l.take 0 ++ [x] → y = x := fun y hy => by simpa using hy
 exact ⟨⟨by simp, fun y hy => by rw [e y hy]; exact h3⟩, fun y hy => by rw [e y hy]; exact ⟨h1, h2, h0⟩⟩
theorem MapOk.next (h : MapOk (l.take (k + 1))) (hy : l[k]? = some y) (hx : l[k + 1]? = some x) (h1 : nearB x.f = true) (h2 : nearB x.t = true) (h0 : nearB x.v = true) (h3 : x.f < x.t) (h4 : y.t ≤ x.f) (h5 : y.t = x.f → y.v ≠ x.v) : MapOk (l.take (k + 2)) := by
 rw [takeM_succ hx]
 have hn := h.map
 rw [takeM_succ hy] at hn
 have hyl := hn.2 y (by simp)
 refine ⟨h.map.snoc h3 fun z hz => ?_, fun z hz => ?_⟩
 ·rw [takeM_succ hy] at hz
  rcases List.mem_append.1 hz with hz | hz
  ·have := hn.ahead hz
   exact ⟨by omega, fun e => by omega⟩
  ·obtain rfl : z = y := by simpa using hz
   exact ⟨h4, h5⟩
 ·rcases List.mem_append.1 hz with hz | hz
  ·exact h.near z hz
  ·obtain rfl : z = x := by simpa using hz
   exact ⟨h1, h2, h0⟩
theorem MapOk.at_ (h : MapOk l) (hx : l[k]? = some x) : nearB x.f = true ∧ nearB x.t = true ∧ nearB x.v = true ∧ x.f < x.t := by
 have hm := List.mem_of_getElem? hx
 exact ⟨(h.near x hm).1, (h.near x hm).2.1, (h.near x hm).2.2, h.map.2 x hm⟩
theorem MapOk.gap (h : MapOk l) (hy : l[k]? = some y) (hx : l[k + 1]? = some x) : y.t ≤ x.f ∧ (y.t = x.f → y.v ≠ x.v) := by
 obtain ⟨h1, h2⟩ := List.getElem?_eq_some_iff.1 hy
 obtain ⟨h3, h4⟩ := List.getElem?_eq_some_iff.1 hx
 have := List.pairwise_iff_getElem.1 h.map.1 k (k + 1) h1 h3 (by omega)
 rw [h2, h4] at this
 exact this
theorem MapL.mem_at : ∀ {l : List PieceD}, MapL l → ∀ {x : PieceD}, x ∈ l → ∀ {t : Int}, x.f ≤ t → t < x.t → atM l t = some x.v
 | [], _, _, hx, _, _, _ => by simp at hx
 | y :: l, h, x, hx, t, h1, h2 => by
  rcases List.mem_cons.1 hx with rfl | hx
  ·exact at_hit ⟨h1, h2⟩
  ·have h3 := (List.pairwise_cons.1 h.1).1 x hx
   rw [at_miss (by omega)]
   exact h.tail.mem_at hx h1 h2
end
/-- Where something turns. -/
def TurnsIn {α : Type} (S : List Int) (fn : Int → α) : Prop := ∀ t, fn t ≠ fn (t - 1) → t ∈ S
theorem hasB_turnsIn (l : List IvlD) : TurnsIn (endsL l) (hasB l) := fun t hl => by
 unfold endsL
 cases h1 : hasB l t
 ·cases h0 : hasB l (t - 1)
  ·rw [h1, h0] at hl; exact absurd rfl hl
  ·exact List.mem_append_right _ (turn_down h1 h0)
 ·cases h0 : hasB l (t - 1)
  ·exact List.mem_append_left _ (turn_up h1 h0)
  ·rw [h1, h0] at hl; exact absurd rfl hl
def NearAll (S : List Int) : Prop := ∀ t, t ∈ S → nearB t = true
section
variable {S T : List Int} {fn : Int → Option Int} {l m u : List PieceD}
theorem MapOk.vals (h : MapOk m) {t v : Int} (ht : atM m t = some v) : nearB v = true := by
 obtain ⟨x, hx, _, _, rfl⟩ := at_some ht
 exact (h.near x hx).2.2
end
open Classical in
/-- What a map that tells fn is written as: it may be too large, or have a value too far. -/
noncomputable def tellErr (fn : Int → Option Int) (n : Nat) : Int := if ∃ t v, fn t = some v ∧ nearB v = false then 5 else if 200 < n then 2 else 0
def Tells (fn : Int → Option Int) (er : Int) (out : List PieceD) : Prop := ∃ U, MapL U ∧ (∀ t, atM U t = fn t) ∧ er = tellErr fn U.length ∧ (er = 0 → out = U) ∧ (er ≠ 0 → out = [])
section
variable {fn gn : Int → Option Int} {er er' : Int} {out out' l m u : List PieceD} {n : Nat}
theorem tellErr_large (h : ∀ t v, fn t = some v → nearB v = true) (hn : 200 < n) : tellErr fn n = 2 := by
 unfold tellErr; rw [if_neg (fun ⟨t, v, h1, h2⟩ => by rw [h t v h1] at h2; simp at h2), if_pos hn]
theorem tellErr_ok (h : ∀ t v, fn t = some v → nearB v = true) (hn : ¬ 200 < n) : tellErr fn n = 0 := by
 unfold tellErr; rw [if_neg (fun ⟨t, v, h1, h2⟩ => by rw [h t v h1] at h2; simp at h2), if_neg hn]
end
/-! ### Put, Cut and Keep, Merge -/
def putM (m : List PieceD) (p : PieceD) (t : Int) : Option Int := if p.f ≤ t ∧ t < p.t then some p.v else atM m t
def both3 (k x y : Int) : Int := if k = 3 then x + y else if k = 1 then min x y else max x y
def PutSay (m : List PieceD) (p : PieceD) (er : Int) (out : List PieceD) : Prop :=
 if mapErr m = 0 then if nearB p.f = true ∧ nearB p.t = true ∧ nearB p.v = true then Tells (putM m p) er out else er = 5 ∧ out = [] else er = mapErr m ∧ out = []
section
variable {m a b c out out' : List PieceD} {p : PieceD} {l : List IvlD} {yes : Bool} {k er er' t v : Int}
/-! ### what is cut and what is kept -/
/-- What is written as a set of some intervals has no more of them. -/
theorem NormIs.of {l out : List IvlD} (h : NormIs l out) (hn : ∀ x, x ∈ l → nearB x.f = true ∧ nearB x.t = true) : Of (hasB l) l.length out := by
 refine ⟨h.1, h.2, fun x hx => ?_, ?_⟩
 ·have hxl := h.1.2 x hx
  have key : NearAll (endsL l) := fun t ht => by
   rcases List.mem_append.1 ht with ht | ht
   ·obtain ⟨x, hx, rfl⟩ := List.mem_map.1 ht; exact (hn x hx).1
   ·obtain ⟨x, hx, rfl⟩ := List.mem_map.1 ht; exact (hn x hx).2
  refine ⟨key _ (hasB_turnsIn l _ ?_), key _ (hasB_turnsIn l _ ?_)⟩
  ·rw [← h.2, ← h.2, h.1.at_ hx (Int.le_refl _) hxl, h.1.gapF hx]; simp
  ·rw [← h.2, ← h.2, h.1.at_ hx (show x.f ≤ x.t - 1 by omega) (by omega), h.1.gapT hx]; simp
 ·have := h.1.count (S := l.map IvlD.f) fun t h1 h0 => turn_up (by rw [← h.2]; exact h1) (by rw [← h.2]; exact h0)
  simpa using this
end
end Go.Proofs.YtjcimdpldlamfaaGreatDoor
/- Cells that stay while memory grows, by the handful; small laws for drawn regions. -/
namespace Go.Proofs.YtjcimdpldlamfaaGreatDoor
open Go.RowKit

theorem results_tmp4 {fn : Func} {t u v x : Tmp} (h : fn.results = #[.tmp t, .tmp u, .tmp v, .tmp x]) (tmps : Array Value) (P : Program) (w : World) :
  (results fn tmps).run P w = .ok (.tuple #[tmps.getD t undef, tmps.getD u undef, tmps.getD v undef, tmps.getD x undef]) w := by simp [results, h]
theorem cell_keep {w w' : World} {p : Addr} {v : Value} (hb : Below w.heap.size w w') (h : w.cell? p = some v) : w'.cell? p = some v := (hb.cell (World.block_lt_of_cell? w p h)).trans h
theorem bcell {W w1 : World} (hb : Below W.heap.size W w1) : (∀ b o, b < W.heap.size → w1.cell? ⟨b, o, none⟩ = W.cell? ⟨b, o, none⟩) ∧ (∀ b o, b < W.heap.size → w1.frozen? ⟨b, o, none⟩ = W.frozen? ⟨b, o, none⟩) :=
 ⟨fun b o h => hb.cell (p := ⟨b, o, none⟩) h, fun b o h => hb.frozen (p := ⟨b, o, none⟩) h⟩
theorem keep5 {w w' : World} {p0 p1 p2 p3 p4 : Addr} {v0 v1 v2 v3 v4 : Value} (hb : Below w.heap.size w w') (h : w.cell? p0 = some v0 ∧ w.cell? p1 = some v1 ∧ w.cell? p2 = some v2 ∧ w.cell? p3 = some v3 ∧ w.cell? p4 = some v4) : w'.cell? p0 = some v0 ∧ w'.cell? p1 = some v1 ∧ w'.cell? p2 = some v2 ∧ w'.cell? p3 = some v3 ∧ w'.cell? p4 = some v4 := by
 obtain ⟨h0, h1, h2, h3, h4⟩ := h
 exact ⟨cell_keep hb h0, cell_keep hb h1, cell_keep hb h2, cell_keep hb h3, cell_keep hb h4⟩
theorem keep8 {w w' : World} {p0 p1 p2 p3 p4 p5 p6 p7 : Addr} {v0 v1 v2 v3 v4 v5 v6 v7 : Value} (hb : Below w.heap.size w w') (h : w.cell? p0 = some v0 ∧ w.cell? p1 = some v1 ∧ w.cell? p2 = some v2 ∧ w.cell? p3 = some v3 ∧ w.cell? p4 = some v4 ∧ w.cell? p5 = some v5 ∧ w.cell? p6 = some v6 ∧ w.cell? p7 = some v7) : w'.cell? p0 = some v0 ∧ w'.cell? p1 = some v1 ∧ w'.cell? p2 = some v2 ∧ w'.cell? p3 = some v3 ∧ w'.cell? p4 = some v4 ∧ w'.cell? p5 = some v5 ∧ w'.cell? p6 = some v6 ∧ w'.cell? p7 = some v7 := by
 obtain ⟨h0, h1, h2, h3, h4, h5, h6, h7⟩ := h
 exact ⟨cell_keep hb h0, cell_keep hb h1, cell_keep hb h2, cell_keep hb h3, cell_keep hb h4, cell_keep hb h5, cell_keep hb h6, cell_keep hb h7⟩
theorem keep9 {w w' : World} {p0 p1 p2 p3 p4 p5 p6 p7 p8 : Addr} {v0 v1 v2 v3 v4 v5 v6 v7 v8 : Value} (hb : Below w.heap.size w w') (h : w.cell? p0 = some v0 ∧ w.cell? p1 = some v1 ∧ w.cell? p2 = some v2 ∧ w.cell? p3 = some v3 ∧ w.cell? p4 = some v4 ∧ w.cell? p5 = some v5 ∧ w.cell? p6 = some v6 ∧ w.cell? p7 = some v7 ∧ w.cell? p8 = some v8) : w'.cell? p0 = some v0 ∧ w'.cell? p1 = some v1 ∧ w'.cell? p2 = some v2 ∧ w'.cell? p3 = some v3 ∧ w'.cell? p4 = some v4 ∧ w'.cell? p5 = some v5 ∧ w'.cell? p6 = some v6 ∧ w'.cell? p7 = some v7 ∧ w'.cell? p8 = some v8 := by
 obtain ⟨h0, h1, h2, h3, h4, h5, h6, h7, h8⟩ := h
 exact ⟨cell_keep hb h0, cell_keep hb h1, cell_keep hb h2, cell_keep hb h3, cell_keep hb h4, cell_keep hb h5, cell_keep hb h6, cell_keep hb h7, cell_keep hb h8⟩
end Go.Proofs.YtjcimdpldlamfaaGreatDoor
/- Lists that a call builds for itself: what it owns, how an append makes it longer, how it reads in the end. -/
namespace Go.Proofs.YtjcimdpldlamfaaGreatDoor
open Go.RowKit

/-- The slice value v owns the list l, each element of sz cells as enc says, in blocks from base on. -/
def Own {α : Type} (enc : α → List Value) (sz : Nat) (w : World) (base : Nat) (e : TypeId) (v : Value) (l : List α) : Prop := w.ownsRow base e sz v l.length (l.flatMap enc)
theorem Own.nil {α : Type} {enc : α → List Value} {sz : Nat} {w : World} {base : Nat} {e : TypeId} : Own enc sz w base e (.slice none 0 0) ([] : List α) := World.ownsRow_nil _ _ _ _
section
variable {α : Type} {enc : α → List Value} {sz : Nat} {w w' : World} {base : Nat} {e : TypeId} {v : Value} {l : List α}
theorem Own.alloc (h : Own enc sz w base e v l) (o : Obj) : Own enc sz (w.alloc o) base e v l := World.ownsRow.alloc h o
theorem Own.drew (h : Own enc sz w base e v l) : Own enc sz w.drew base e v l := h
theorem Own.drewN (h : Own enc sz w base e v l) (n : Nat) : Own enc sz (w.drewN n) base e v l := h
theorem Own.ext (h : Own enc sz w base e v l) (hb : Below w.heap.size w w') : Own enc sz w' base e v l := by
 refine ⟨h.1, ?_⟩
 rcases h.2 with h2 | ⟨g, cap, cur, hv, hg, hh, r⟩
 ·exact .inl h2
 ·have hlt : g < w.heap.size := by
   rcases Nat.lt_or_ge g w.heap.size with hlt | hge
   ·exact hlt
   ·rw [Array.getElem?_eq_none hge] at hh; cases hh
  exact .inr ⟨g, cap, cur, hv, hg, (hb.block g hlt).trans hh, r⟩
theorem Own.form (h : Own enc sz w base e v l) : ∃ A c, v = .slice A l.length c := by
 rcases h.2 with ⟨rfl, h0⟩ | ⟨g, cap, cur, rfl, _⟩
 ·exact ⟨none, 0, by rw [h0]⟩
 ·exact ⟨_, _, rfl⟩
/-- What is owned reads as the list. -/
theorem Own.slAt {R : World → Nat → Nat → α → Prop} (hsz : ∀ x, (enc x).length = sz) (hR : ∀ x, x ∈ l → ∀ b o, (∀ j u, (enc x)[j]? = some u → cellIs w b (o + j) u) → R w b o x) (h : Own enc sz w base e v l) :
  ∃ A c, v = .slice A l.length c ∧ SlAt R sz w A l := by
 rcases h.2 with ⟨rfl, h0⟩ | ⟨g, cap, cur, rfl, hg, hh, hnc, hcm, hcs, htake⟩
 ·refine ⟨none, 0, by rw [h0], 0, 0, fun i x hx => ?_⟩
  have : l = [] := List.eq_nil_of_length_eq_zero h0
  subst this
  simp at hx
 ·refine ⟨some ⟨g, 0, none⟩, cap, rfl, g, 0, fun i x hx => ⟨rfl, ?_, ?_⟩⟩
  ·rcases Nat.lt_or_ge g w.heap.size with hlt | hge
   ·exact hlt
   ·rw [Array.getElem?_eq_none hge] at hh; cases hh
  ·refine hR x (List.mem_of_getElem? hx) g _ fun j u hu => ?_
   have hil := lt_of_get hx
   have hj : j < sz := by rw [← hsz x]; exact lt_of_get hu
   have hfl : ∀ (l : List α) (i : Nat), l[i]? = some x → (l.flatMap enc)[i * sz + j]? = some u := by
    intro l
    induction l with
    | nil => intro i h; simp at h
    | cons y l ih =>
     intro i h
     cases i with
     | zero =>
      obtain rfl : y = x := by simpa using h
      rw [List.flatMap_cons, List.getElem?_append_left (by rw [hsz]; omega)]
      simpa using hu
     | succ i =>
      have h' : l[i]? = some x := by simpa using h
      rw [List.flatMap_cons, List.getElem?_append_right (by rw [hsz, Nat.succ_mul]; omega), hsz]
      have e : (i + 1) * sz + j - sz = i * sz + j := by rw [Nat.succ_mul]; omega
      rw [e]
      exact ih i h'
   have h1 := hfl l i hx
   rw [← htake] at h1
   have hlt : i * sz + j < l.length * sz := by
    have := lt_of_get h1
    rw [List.length_take] at this
    omega
   rw [List.getElem?_take_of_lt hlt] at h1
   show w.cell? _ = _
   rw [cell_of_row w g _ cur e (0, 0) hh]
   simpa using h1
end

theorem wpList_append_el {P : Program} {ops : Array Oper} {rest : List Oper} {o : Oper} {a : Act} {Q : Exit → Act → World → Prop} {w0 : World} {α : Type} {enc : α → List Value} (hgd : o.guard = none) (s x : Operand) (t : TypeId)
  (ho : o.op = .call { callee := .builtin .append, args := #[s, x], argTypes := #[t, t] })
  (base : Nat) (e : TypeId) (i : TypeInfo) (z : Value) (size bytes : Nat) (ht : P.underlying t = some (.slice e)) (hi : P.info? e = some i) (hz : i.zero = some z)
  (hsize : i.size = size) (hby : i.bytes = bytes) (hzs : z.cells.size = size) (hsz : 0 < size)
  (v : Value) (l : List α) (y : α) (hs : a.eval s = v) (hown : Own enc size w0 base e v l) (cs : Array Value) (hcy : cs.toList = enc y) (k : Nat) (hk : k = w0.heap.size) (hx : a.eval x = .slice (some ⟨k, 0, none⟩) 1 1) (hcs : cs.size = size)
  (h1 : ∀ u ∈ cs.toList, u.oneCell' = true) (h63 : l.length + 1 ≤ 1000000) (hby2 : bytes ≤ 1000) (hbase : base ≤ w0.heap.size)
  (h : ∀ v' w', Own enc size w' base e v' (l ++ [y]) → Below base w0 w' → wpList P ops Q rest (a.put o.dst v') w') : wpList P ops Q (o :: rest) a (w0.alloc (.cells cs e)) := by
 subst hk
 have hb2 : (l.length + 1) * bytes ≤ 140737488355328 := Nat.le_trans (Nat.mul_le_mul h63 hby2) (by decide)
 refine wpList_append_own _ hgd s x t ho base e i z size bytes ht hi hz hsize hby hzs hsz v l.length (l.flatMap enc) hs (World.ownsRow.alloc hown _) ⟨w0.heap.size, 0, none⟩ 1 1 cs.toList hx (by simp [hcs])
  ?_ h1 (by unfold maxLen; omega) hb2 (by simp; omega) ?_
 ·intro j u hu
  rw [Go.WideShapes.add_plain, cell_of_row _ _ _ cs e (0, 0) (heap_alloc_new w0 _)]
  simpa using hu
 ·intro v' w' h2 h3 _
  refine h v' w' ?_ ?_
  ·show w'.ownsRow base e size v' (l ++ [y]).length ((l ++ [y]).flatMap enc)
   rw [List.flatMap_append, List.length_append]
   simpa [hcy] using h2
  ·have hb : Below base w0 (w0.alloc (.cells cs e)) := (Below.refl _ _).alloc hbase _
   exact hb.grown h3 (by simp; omega) fun k hk => (World.ownsRow.lt hown k hk).1
end Go.Proofs.YtjcimdpldlamfaaGreatDoor
/- More on lists that a call owns: an append of several elements, a list that a literal makes. -/
namespace Go.Proofs.YtjcimdpldlamfaaGreatDoor
open Go.RowKit

/-- A block of another kind than a list's rows is not the list's. -/
theorem Own.other {α : Type} {enc : α → List Value} {sz : Nat} {w : World} {base : Nat} {e t : TypeId} {v : Value} {l : List α} {b : Nat} {cs : Array Value} (h : Own enc sz w base e v l) (hb : Blk w b t cs) (ht : t ≠ e) : some b ≠ v.ownBlock := by
 rcases h.2 with ⟨rfl, _⟩ | ⟨g, cap, cur, rfl, _, hh, _⟩
 ·simp [Value.ownBlock]
 ·intro hbg
  simp only [Value.ownBlock, Option.some.injEq] at hbg
  subst hbg
  unfold Blk at hb
  rw [hh] at hb
  cases hb
  exact ht rfl
theorem wpList_append_els {P : Program} {ops : Array Oper} {rest : List Oper} {o : Oper} {a : Act} {Q : Exit → Act → World → Prop} {w0 : World} {α : Type} {enc : α → List Value} (hgd : o.guard = none) (s x : Operand) (t : TypeId)
  (ho : o.op = .call { callee := .builtin .append, args := #[s, x], argTypes := #[t, t] })
  (base : Nat) (e : TypeId) (i : TypeInfo) (z : Value) (size bytes : Nat) (ht : P.underlying t = some (.slice e)) (hi : P.info? e = some i) (hz : i.zero = some z)
  (hsize : i.size = size) (hby : i.bytes = bytes) (hzs : z.cells.size = size) (hsz : 0 < size)
  (v : Value) (l : List α) (ys : List α) (m : Nat) (hm : ys.length = m) (hs : a.eval s = v) (hown : Own enc size w0 base e v l) (cs : Array Value) (hcy : cs.toList = ys.flatMap enc) (k : Nat) (hk : k = w0.heap.size) (hx : a.eval x = .slice (some ⟨k, 0, none⟩) m m) (hcs : cs.size = m * size)
  (h1 : ∀ u ∈ cs.toList, u.oneCell' = true) (h63 : l.length + m ≤ 1000000) (hby2 : bytes ≤ 1000) (hbase : base ≤ w0.heap.size)
  (h : ∀ v' w', Own enc size w' base e v' (l ++ ys) → Below base w0 w' → (∀ b t' cs', Blk w0 b t' cs' → t' ≠ e → Blk w' b t' cs') → wpList P ops Q rest (a.put o.dst v') w') : wpList P ops Q (o :: rest) a (w0.alloc (.cells cs e)) := by
 subst hk
 have hb2 : (l.length + m) * bytes ≤ 140737488355328 := Nat.le_trans (Nat.mul_le_mul h63 hby2) (by decide)
 refine wpList_append_own _ hgd s x t ho base e i z size bytes ht hi hz hsize hby hzs hsz v l.length (l.flatMap enc) hs (World.ownsRow.alloc hown _) ⟨w0.heap.size, 0, none⟩ m m cs.toList hx (by simp [hcs])
  ?_ h1 (by unfold maxLen; omega) hb2 (by simp; omega) ?_
 ·intro j u hu
  rw [Go.WideShapes.add_plain, cell_of_row _ _ _ cs e (0, 0) (heap_alloc_new w0 _)]
  simpa using hu
 ·intro v' w' h2 h3 _
  refine h v' w' ?_ ?_ fun b t' cs' hB ht' => (hB.alloc _).grown h3 (hown.other hB ht')
  ·show w'.ownsRow base e size v' (l ++ ys).length ((l ++ ys).flatMap enc)
   rw [List.flatMap_append, List.length_append, hm]
   simpa [hcy] using h2
  ·have hb : Below base w0 (w0.alloc (.cells cs e)) := (Below.refl _ _).alloc hbase _
   exact hb.grown h3 (by simp; omega) fun k hk => (World.ownsRow.lt hown k hk).1
/-- What a literal makes is owned. -/
theorem Own.lit {α : Type} {enc : α → List Value} {sz : Nat} {w : World} {base : Nat} {e : TypeId} {cs : Array Value} {l : List α} {n m : Nat} (hn : n = w.heap.size) (hb : base ≤ n) (hl : l.length = m) (hcs : cs.toList = l.flatMap enc) (hsz : cs.size = m * sz) (hm : m ≤ maxLen) :
  Own enc sz (w.alloc (.cells cs e)) base e (.slice (some ⟨n, 0, none⟩) m m) l := by
 subst hn
 refine ⟨by rw [← hcs, hl]; simpa using hsz, .inr ⟨w.heap.size, m, cs, by rw [hl], hb, heap_alloc_new w _, by omega, hm, hsz, ?_⟩⟩
 rw [← hcs, hl, List.take_of_length_le]
 simp [hsz]
theorem below_drew {B : Nat} {a w : World} (h : Below B a w) : Below B a w.drew := ⟨h.os, h.tape, h.output, h.size, h.block⟩
theorem cell_keepB {B : Nat} {w w' : World} {p : Addr} {v : Value} (hb : Below B w w') (hp : p.block < B) (h : w.cell? p = some v) : w'.cell? p = some v := (hb.cell hp).trans h
theorem keepB4 {B : Nat} {w w' : World} {p0 p1 p2 p3 : Addr} {v0 v1 v2 v3 : Value} (hb : Below B w w') (h0 : p0.block < B) (h1 : p1.block < B) (h2 : p2.block < B) (h3 : p3.block < B)
  (h : w.cell? p0 = some v0 ∧ w.cell? p1 = some v1 ∧ w.cell? p2 = some v2 ∧ w.cell? p3 = some v3) : w'.cell? p0 = some v0 ∧ w'.cell? p1 = some v1 ∧ w'.cell? p2 = some v2 ∧ w'.cell? p3 = some v3 := by
 obtain ⟨k0, k1, k2, k3⟩ := h
 exact ⟨cell_keepB hb h0 k0, cell_keepB hb h1 k1, cell_keepB hb h2 k2, cell_keepB hb h3 k3⟩
/-- An append of several elements at a step of a region that draws its order. -/
theorem step_append_els {P : Program} {w : World} {ops : Array Oper} {o : Oper} {a : Act} {K : Act → World → Prop} {Q : Exit → Act → World → Prop} {E : Prop} {α : Type} {enc : α → List Value} (hgd : o.guard = none) (s x : Operand) (t : TypeId)
  (ho : o.op = .call { callee := .builtin .append, args := #[s, x], argTypes := #[t, t] })
  (base : Nat) (e : TypeId) (i : TypeInfo) (z : Value) (size bytes : Nat) (ht : P.underlying t = some (.slice e)) (hi : P.info? e = some i) (hz : i.zero = some z)
  (hsize : i.size = size) (hby : i.bytes = bytes) (hzs : z.cells.size = size) (hsz : 0 < size)
  (v : Value) (l : List α) (ys : List α) (m : Nat) (hm : ys.length = m) (hm0 : 0 < m) (hs : a.eval s = v) (hown : Own enc size w base e v l) (cs : Array Value) (hcy : cs.toList = ys.flatMap enc) (k : Nat) (hk : Blk w k e cs) (hx : a.eval x = .slice (some ⟨k, 0, none⟩) m m) (hcs : cs.size = m * size)
  (h1 : ∀ u ∈ cs.toList, u.oneCell' = true) (h63 : l.length + m ≤ 1000000) (hby2 : bytes ≤ 1000) (hbase : base ≤ w.heap.size)
  (h : ∀ v' w', Own enc size w' base e v' (l ++ ys) → Below base w w' → (∀ b t' cs', Blk w b t' cs' → t' ≠ e → Blk w' b t' cs') → K (a.put o.dst v') w') :
  if Region.wanted o (yielded ops a.tmps) = true then Oper.wp P o a w K Q else E := by
 have hb2 : (l.length + m) * bytes ≤ 140737488355328 := Nat.le_trans (Nat.mul_le_mul h63 hby2) (by decide)
 refine step_append_lies w hgd s x t ho base e i z size bytes ht hi hz hsize hby hzs hsz v l.length (l.flatMap enc) hs hown ⟨k, 0, none⟩ m m cs.toList hx (by simp [hcs])
  (World.news_of_block hk) h1 hm0 (by unfold maxLen; omega) hb2 hbase _ rfl ?_
 intro g cap w' h2 h3 _ _
 refine h _ w' ?_ ?_ fun b t' cs' hB ht' => hB.grown h3 (hown.other hB ht')
 ·show w'.ownsRow base e size _ (l ++ ys).length ((l ++ ys).flatMap enc)
  rw [List.flatMap_append, List.length_append, hm]
  simpa [hcy] using h2
 ·exact (Below.refl base w).grown h3 hbase fun k hk => (World.ownsRow.lt hown k hk).1
end Go.Proofs.YtjcimdpldlamfaaGreatDoor
/- Systems of inequalities along arcs and their greatest solutions; no program in sight. -/
namespace Go.Proofs.YtjcimdpldlamfaaGreatDoor

structure Arc (ι : Type) where
 a : ι
 b : ι
 f : Int → Int
section
variable {ι : Type}
def Sol (A : Arc ι → Prop) (init d : ι → Int) : Prop := (∀ i, d i ≤ init i) ∧ ∀ x, A x → d x.b ≤ x.f (d x.a)
def Above (A : Arc ι → Prop) (init d : ι → Int) : Prop := ∀ e, Sol A init e → ∀ i, e i ≤ d i
/-- The greatest solution. -/
def Best (A : Arc ι → Prop) (init d : ι → Int) : Prop := Sol A init d ∧ Above A init d
def Mono (f : Int → Int) : Prop := ∀ s t, s ≤ t → f s ≤ f t
variable {A : Arc ι → Prop} {init d e : ι → Int}
theorem Best.eq (h : Best A init d) (k : Best A init e) : d = e := funext fun i => Int.le_antisymm (k.2 d h.1 i) (h.2 e k.1 i)
theorem above_init : Above A init init := fun _ h i => h.1 i
variable [DecidableEq ι]
def upd (d : ι → Int) (i : ι) (x : Int) : ι → Int := fun j => if j = i then x else d j
theorem upd_at (d : ι → Int) (i : ι) (x : Int) : upd d i x i = x := by simp [upd]
theorem upd_ne (d : ι → Int) {i j : ι} (x : Int) (h : ¬ j = i) : upd d i x j = d j := by simp [upd, h]
theorem Above.upd {d' : ι → Int} (h : Above A init d) (h' : Above A init d') {x : Arc ι} (hx : A x) (hm : Mono x.f) {n : Int} (hn : x.f (d' x.a) ≤ n) : Above A init (upd d x.b (min (d x.b) n)) := by
 intro e he i
 by_cases hi : i = x.b
 ·subst hi
  rw [upd_at]
  have h1 := h e he x.b
  have h2 := he.2 x hx
  have h3 := hm _ _ (h' e he x.a)
  omega
 ·rw [upd_ne _ _ hi]; exact h e he i
theorem Best.tight (h : Best A init d) (hm : ∀ x, A x → Mono x.f) {j : ι} (hj : d j < init j) : ∃ x, A x ∧ x.b = j ∧ x.f (d x.a) = d j := by
 refine Classical.byContradiction fun hno => ?_
 have hle : ∀ i, d i ≤ Go.Proofs.YtjcimdpldlamfaaGreatDoor.upd d j (d j + 1) i := fun i => by
  by_cases hi : i = j
  ·subst hi; rw [upd_at]; omega
  ·rw [upd_ne _ _ hi]; exact Int.le_refl _
 have hs : Sol A init (Go.Proofs.YtjcimdpldlamfaaGreatDoor.upd d j (d j + 1)) := by
  refine ⟨fun i => ?_, fun x hx => ?_⟩
  ·by_cases hi : i = j
   ·subst hi; rw [upd_at]; omega
   ·rw [upd_ne _ _ hi]; exact h.1.1 i
  ·have h1 := h.1.2 x hx
   have h2 := hm x hx _ _ (hle x.a)
   by_cases hi : x.b = j
   ·rw [hi, upd_at]
    have h3 : ¬ x.f (d x.a) = d j := fun e => hno ⟨x, hx, hi, e⟩
    rw [hi] at h1
    omega
   ·rw [upd_ne _ _ hi]; omega
 have := h.2 _ hs j
 rw [upd_at] at this
 omega
omit [DecidableEq ι] in
end
/-- A bounded set of numbers has a greatest one. -/
theorem greatest {P : Int → Prop} {B : Int} (hB : ∀ x, P x → x ≤ B) (h : ∃ x, P x) : ∃ m, P m ∧ ∀ x, P x → x ≤ m := by
 obtain ⟨x, hx⟩ := h
 obtain ⟨k, hk⟩ : ∃ k : Nat, k = (B - x).toNat := ⟨_, rfl⟩
 induction k using Nat.strongRecOn generalizing x with
 | ind k ih =>
  by_cases hm : ∀ y, P y → y ≤ x
  ·exact ⟨x, hx, hm⟩
  ·have ⟨y, hy⟩ := Classical.not_forall.1 hm
   have ⟨h1, h2⟩ := Classical.not_imp.1 hy
   have h3 := hB y h1
   have h4 := hB x hx
   exact ih (B - y).toNat (by omega) y h1 rfl
/-- There is a greatest solution, if there is one at all. -/
theorem Best.ex {ι : Type} {A : Arc ι → Prop} {init : ι → Int} (hm : ∀ x, A x → Mono x.f) (h : ∃ e, Sol A init e) : ∃ d, Best A init d := by
 obtain ⟨e0, h0⟩ := h
 have hg : ∀ i, ∃ m, (∃ e, Sol A init e ∧ e i = m) ∧ ∀ x, (∃ e, Sol A init e ∧ e i = x) → x ≤ m := fun i =>
  greatest (B := init i) (fun x ⟨e, he, hx⟩ => by rw [← hx]; exact he.1 i) ⟨_, e0, h0, rfl⟩
 obtain ⟨d, hd⟩ := Classical.axiomOfChoice hg
 refine ⟨d, ⟨fun i => ?_, fun x hx => ?_⟩, fun e he i => (hd i).2 _ ⟨e, he, rfl⟩⟩
 ·obtain ⟨e, he, hx⟩ := (hd i).1
  rw [← hx]; exact he.1 i
 ·obtain ⟨e, he, hx'⟩ := (hd x.b).1
  rw [← hx']
  exact Int.le_trans (he.2 x hx) (hm x hx _ _ ((hd x.a).2 _ ⟨e, he, rfl⟩))

/-! ### lists as functions -/
def gi (l : List Int) (v : Nat) : Int := l.getD v 0
theorem gi_of {l : List Int} {v : Nat} {x : Int} (h : l[v]? = some x) : gi l v = x := by simp [gi, List.getD, h]
theorem gi_get {l : List Int} {v : Nat} (h : v < l.length) : l[v]? = some (gi l v) := by simp [gi, List.getD, h]
theorem gi_far {l : List Int} {v : Nat} (h : l.length ≤ v) : gi l v = 0 := by simp [gi, List.getD, h]
theorem gi_set {l : List Int} {i : Nat} (h : i < l.length) (x : Int) : gi (l.set i x) = upd (gi l) i x := by
 funext j
 by_cases hj : j = i
 ·subst hj; rw [upd_at]; exact gi_of (by simp [h])
 ·rw [upd_ne _ _ hj]
  simp only [gi, List.getD]
  rw [List.getElem?_set_ne (fun h => hj h.symm)]
theorem gi_ext {l r : List Int} (hl : l.length = r.length) (h : gi l = gi r) : l = r := by
 refine List.ext_getElem? fun i => ?_
 by_cases hi : i < l.length
 ·rw [gi_get hi, gi_get (by omega), h]
 ·rw [List.getElem?_eq_none (by omega), List.getElem?_eq_none (by omega)]
theorem gi_eq_of {l r : List Int} (hl : l.length = r.length) (h : ∀ i, i < l.length → gi l i = gi r i) : l = r := by
 refine gi_ext hl (funext fun i => ?_)
 by_cases hi : i < l.length
 ·exact h i hi
 ·rw [gi_far (by omega), gi_far (by omega)]
/-- How much there is left to lose. -/
def total (l : List Int) : Nat := (l.map Int.toNat).sum
theorem total_set {l : List Int} {i : Nat} (h : i < l.length) (x : Int) : total (l.set i x) + (gi l i).toNat = total l + x.toNat := by
 induction l generalizing i with
 | nil => simp at h
 | cons y l ih =>
  cases i with
  | zero => simp [total, gi]; omega
  | succ i =>
   have := ih (i := i) (by simpa using h)
   simp only [List.set_cons_succ, total, List.map_cons, List.sum_cons] at *
   have e : gi (y :: l) (i + 1) = gi l i := by simp [gi]
   rw [e]
   omega
/-! ### one vertex after the other, the nearest one first -/
section
variable {arcs : List (Arc Nat)} {init d d0 : Nat → Int} {done : Nat → Bool} {n : Nat} {I : Int}
/-- What holds whenever all of a vertex's arcs have been looked at. -/
structure Near (arcs : List (Arc Nat)) (n : Nat) (I : Int) (init d : Nat → Int) (done : Nat → Bool) : Prop where
 le : ∀ i, d i ≤ init i
 big : ∀ i, i < n → d i ≤ I
 above : Above (· ∈ arcs) init d
 near : ∀ u v, v < n → done u = true → done v = false → d u ≤ d v
 told : ∀ x, x ∈ arcs → done x.a = true → d x.b ≤ x.f (d x.a)
/-- .. in the midst of a vertex's arcs. -/
structure Mid (arcs : List (Arc Nat)) (n : Nat) (I : Int) (init d0 d : Nat → Int) (done : Nat → Bool) (c k : Nat) : Prop where
 le : ∀ i, d i ≤ d0 i
 above : Above (· ∈ arcs) init d
 same : d c = d0 c
 olds : ∀ u, done u = true → d u = d0 u
 news : ∀ v, v < n → done v = false → d c ≤ d v
 told : ∀ x, x ∈ arcs.take k → x.a = c → d x.b ≤ x.f (d c)
def mark (done : Nat → Bool) (c : Nat) : Nat → Bool := fun j => if j = c then true else done j
theorem Near.begin (h : Near arcs n I init d done) {c : Nat} (hm : ∀ v, v < n → done v = false → d c ≤ d v) : Mid arcs n I init d d done c 0 :=
 ⟨fun _ => Int.le_refl _, h.above, rfl, fun _ _ => rfl, hm, fun x hx => by simp at hx⟩
theorem Mid.skip {c k : Nat} (h : Mid arcs n I init d0 d done c k) {x : Arc Nat} (hx : arcs[k]? = some x) (hc : ¬ x.a = c) : Mid arcs n I init d0 d done c (k + 1) :=
 ⟨h.le, h.above, h.same, h.olds, h.news, fun y hy hyc => by
  rw [List.take_add_one, hx] at hy
  rcases List.mem_append.1 hy with hy | hy
  ·exact h.told y hy hyc
  ·obtain rfl : y = x := by simpa using hy
   exact absurd hyc hc⟩
theorem Mid.step {c k : Nat} (h : Mid arcs n I init d0 d done c k) (h0 : Near arcs n I init d0 done) (hcn : c < n) (hdc : done c = false) {x : Arc Nat} (hx : arcs[k]? = some x) (hc : x.a = c) (hxm : Mono x.f) (hge : d c ≤ x.f (d c)) :
  Mid arcs n I init d0 (upd d x.b (min (d x.b) (x.f (d c)))) done c (k + 1) := by
 have hmem : x ∈ arcs := List.mem_of_getElem? hx
 have hle : ∀ i, upd d x.b (min (d x.b) (x.f (d c))) i ≤ d i := fun i => by
  by_cases hi : i = x.b
  ·subst hi; rw [upd_at]; omega
  ·rw [upd_ne _ _ hi]; exact Int.le_refl _
 have hcc : upd d x.b (min (d x.b) (x.f (d c))) c = d c := by
  by_cases hi : c = x.b
  ·rw [← hi, upd_at]; omega
  ·rw [upd_ne _ _ hi]
 refine ⟨fun i => Int.le_trans (hle i) (h.le i), h.above.upd h.above hmem hxm (by rw [hc]; exact Int.le_refl _), by rw [hcc]; exact h.same, fun u hu => ?_, fun v hv hd => ?_, fun y hy hyc => ?_⟩
 ·have h1 := h0.near u c hcn hu hdc
  have h2 := h.olds u hu
  have h3 := h.same
  by_cases hi : u = x.b
  ·rw [hi, upd_at, ← hi]; omega
  ·rw [upd_ne _ _ hi]; exact h2
 ·rw [hcc]
  have h1 := h.news v hv hd
  by_cases hi : v = x.b
  ·rw [hi, upd_at, ← hi]; omega
  ·rw [upd_ne _ _ hi]; exact h1
 ·rw [hcc]
  rw [List.take_add_one, hx] at hy
  rcases List.mem_append.1 hy with hy | hy
  ·exact Int.le_trans (hle _) (h.told y hy hyc)
  ·obtain rfl : y = x := by simpa using hy
   rw [upd_at]
   omega
theorem Mid.stay {c k : Nat} (h : Mid arcs n I init d0 d done c k) {x : Arc Nat} (hx : arcs[k]? = some x) (hge : d x.b ≤ x.f (d c)) : Mid arcs n I init d0 d done c (k + 1) :=
 ⟨h.le, h.above, h.same, h.olds, h.news, fun y hy hyc => by
  rw [List.take_add_one, hx] at hy
  rcases List.mem_append.1 hy with hy | hy
  ·exact h.told y hy hyc
  ·obtain rfl : y = x := by simpa using hy
   exact hge⟩
theorem Mid.fin {c k : Nat} (h : Mid arcs n I init d0 d done c k) (h0 : Near arcs n I init d0 done) (hcn : c < n) (hdc : done c = false) (hk : arcs.length ≤ k) : Near arcs n I init d (mark done c) := by
 refine ⟨fun i => Int.le_trans (h.le i) (h0.le i), fun i hi => Int.le_trans (h.le i) (h0.big i hi), h.above, fun u v hv hu hd => ?_, fun x hx hd => ?_⟩
 ·have hd' : done v = false := by
   simp only [mark] at hd
   split at hd
   ·simp at hd
   ·exact hd
  simp only [mark] at hu
  split at hu
  ·rename_i e; rw [e]; exact h.news v hv hd'
  ·have h1 := h0.near u c hcn hu hdc
   have h2 := h.olds u hu
   have h3 := h.same
   have h4 := h.news v hv hd'
   omega
 ·by_cases e : x.a = c
  ·rw [e]; exact h.told x (by rw [List.take_of_length_le hk]; exact hx) e
  ·simp only [mark, if_neg e] at hd
   rw [h.olds _ hd]
   exact Int.le_trans (h.le _) (h0.told x hx hd)
theorem Near.best (h : Near arcs n I init d done) (hall : ∀ v, v < n → done v = true ∨ I ≤ d v) (hb : ∀ x, x ∈ arcs → x.a < n ∧ x.b < n ∧ Mono x.f ∧ I ≤ x.f I) : Best (· ∈ arcs) init d := by
 refine ⟨⟨h.le, fun x hx => ?_⟩, h.above⟩
 obtain ⟨h1, h2, h3, h4⟩ := hb x hx
 rcases hall x.a h1 with hd | hd
 ·exact h.told x hx hd
 ·have := h3 _ _ hd
  have := h.big x.b h2
  omega
end
end Go.Proofs.YtjcimdpldlamfaaGreatDoor
