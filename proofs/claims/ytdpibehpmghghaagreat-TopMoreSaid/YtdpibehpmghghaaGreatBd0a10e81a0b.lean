/- Several texts in one: MapLawSpec, WarpSpec. -/
import Derived.Test.YtdpibehpmghghaaGreatBd176df3c8ca
import Derived.Test.YtdpibehpmghghaaGreatBd3095caa12a
import Derived.Test.YtdpibehpmghghaaGreatBd87574eba69
/- What is told of maps of times; laws of maps; no program in sight. -/
namespace Go.Proofs.YtdpibehpmghghaaGreat

structure MapOk (m : List PieceD) : Prop where
  map : MapL m
  near : ∀ x, x ∈ m → nearB x.f = true ∧ nearB x.t = true ∧ nearB x.v = true
open Classical in
/-- What is wrong with a map. -/
noncomputable def mapErr (m : List PieceD) : Int := if 200 < m.length then 2 else if MapOk m then 0 else 5
/-- All bounds of a map. -/
def endsM (l : List PieceD) : List Int := l.map PieceD.f ++ l.map PieceD.t
section
variable {l m r u : List PieceD} {x y : PieceD} {t v : Int} {k : Nat}
theorem mapErr_large (h : 200 < l.length) : mapErr l = 2 := if_pos h
theorem mapErr_ok (h : ¬ 200 < l.length) (h2 : MapOk l) : mapErr l = 0 := by unfold mapErr; rw [if_neg h, if_pos h2]
theorem mapErr_bad (h : ¬ 200 < l.length) (h2 : ¬ MapOk l) : mapErr l = 5 := by unfold mapErr; rw [if_neg h, if_neg h2]
theorem mapErr_zero (h : mapErr l = 0) : ¬ 200 < l.length ∧ MapOk l := by
  by_cases h1 : 200 < l.length
  · rw [mapErr_large h1] at h; simp at h
  · by_cases h2 : MapOk l
    · exact ⟨h1, h2⟩
    · rw [mapErr_bad h1 h2] at h; simp at h
theorem MapOk.nil : MapOk [] := ⟨.nil, fun x h => by simp at h⟩
theorem MapOk.take (h : MapOk l) (k : Nat) : MapOk (l.take k) :=
  ⟨⟨h.map.1.sublist (List.take_sublist k l), fun x hx => h.map.2 x (List.mem_of_mem_take hx)⟩, fun x hx => h.near x (List.mem_of_mem_take hx)⟩
theorem takeM_succ (hx : l[k]? = some x) : l.take (k + 1) = l.take k ++ [x] := by rw [List.take_add_one, hx]; rfl
theorem MapOk.first (hx : l[0]? = some x) (h1 : nearB x.f = true) (h2 : nearB x.t = true) (h0 : nearB x.v = true) (h3 : x.f < x.t) : MapOk (l.take 1) := by
  rw [takeM_succ hx]
  have e : ∀ y, y ∈ l.take 0 ++ [x] → y = x := fun y hy => by simpa using hy
  exact ⟨⟨by simp, fun y hy => by rw [e y hy]; exact h3⟩, fun y hy => by rw [e y hy]; exact ⟨h1, h2, h0⟩⟩
theorem MapOk.next (h : MapOk (l.take (k + 1))) (hy : l[k]? = some y) (hx : l[k + 1]? = some x) (h1 : nearB x.f = true) (h2 : nearB x.t = true) (h0 : nearB x.v = true) (h3 : x.f < x.t) (h4 : y.t ≤ x.f) (h5 : y.t = x.f → y.v ≠ x.v) : MapOk (l.take (k + 2)) := by
  rw [takeM_succ hx]
  have hn := h.map
  rw [takeM_succ hy] at hn
  have hyl := hn.2 y (by simp)
  refine ⟨h.map.snoc h3 fun z hz => ?_, fun z hz => ?_⟩
  · rw [takeM_succ hy] at hz
    rcases List.mem_append.1 hz with hz | hz
    · have := hn.ahead hz
      exact ⟨by omega, fun e => by omega⟩
    · obtain rfl : z = y := by simpa using hz
      exact ⟨h4, h5⟩
  · rcases List.mem_append.1 hz with hz | hz
    · exact h.near z hz
    · obtain rfl : z = x := by simpa using hz
      exact ⟨h1, h2, h0⟩
theorem MapOk.at_ (h : MapOk l) (hx : l[k]? = some x) : nearB x.f = true ∧ nearB x.t = true ∧ nearB x.v = true ∧ x.f < x.t := by
  have hm := List.mem_of_getElem? hx
  exact ⟨(h.near x hm).1, (h.near x hm).2.1, (h.near x hm).2.2, h.map.2 x hm⟩
theorem MapOk.gap (h : MapOk l) (hy : l[k]? = some y) (hx : l[k + 1]? = some x) : y.t ≤ x.f ∧ (y.t = x.f → y.v ≠ x.v) := by
  obtain ⟨h1, h2⟩ := List.getElem?_eq_some_iff.1 hy
  obtain ⟨h3, h4⟩ := List.getElem?_eq_some_iff.1 hx
  have := List.pairwise_iff_getElem.1 h.map.1 k (k + 1) h1 h3 (by omega)
  rw [h2, h4] at this
  exact this
theorem MapL.mem_at : ∀ {l : List PieceD}, MapL l → ∀ {x : PieceD}, x ∈ l → ∀ {t : Int}, x.f ≤ t → t < x.t → atM l t = some x.v
  | [], _, _, hx, _, _, _ => by simp at hx
  | y :: l, h, x, hx, t, h1, h2 => by
    rcases List.mem_cons.1 hx with rfl | hx
    · exact at_hit ⟨h1, h2⟩
    · have h3 := (List.pairwise_cons.1 h.1).1 x hx
      rw [at_miss (by omega)]
      exact h.tail.mem_at hx h1 h2
/-- Ahead of a piece something else is told; behind it too. -/
theorem MapL.gapF (h : MapL l) (hx : x ∈ l) : atM l (x.f - 1) ≠ some x.v := fun hc => by
  obtain ⟨y, hy, h1, h2, h3⟩ := at_some hc
  have hxl := h.2 x hx
  obtain ⟨i, hi, rfl⟩ := List.mem_iff_getElem.1 hx
  obtain ⟨j, hj, rfl⟩ := List.mem_iff_getElem.1 hy
  rcases Nat.lt_trichotomy i j with hij | hij | hij
  · have := List.pairwise_iff_getElem.1 h.1 i j hi hj hij; omega
  · subst hij; omega
  · have := List.pairwise_iff_getElem.1 h.1 j i hj hi hij
    exact this.2 (by omega) h3
theorem MapL.gapT (h : MapL l) (hx : x ∈ l) : atM l x.t ≠ some x.v := fun hc => by
  obtain ⟨y, hy, h1, h2, h3⟩ := at_some hc
  have hxl := h.2 x hx
  obtain ⟨i, hi, rfl⟩ := List.mem_iff_getElem.1 hx
  obtain ⟨j, hj, rfl⟩ := List.mem_iff_getElem.1 hy
  rcases Nat.lt_trichotomy i j with hij | hij | hij
  · have := List.pairwise_iff_getElem.1 h.1 i j hi hj hij
    exact this.2 (by omega) h3.symm
  · subst hij; omega
  · have := List.pairwise_iff_getElem.1 h.1 j i hj hi hij; omega
end
/-- Where something turns. -/
def TurnsIn {α : Type} (S : List Int) (fn : Int → α) : Prop := ∀ t, fn t ≠ fn (t - 1) → t ∈ S
theorem atM_turnsIn : ∀ (l : List PieceD), TurnsIn (endsM l) (atM l)
  | [] => fun t h => absurd rfl h
  | x :: l => fun t h => by
    by_cases hx : t = x.f ∨ t = x.t
    · rcases hx with rfl | rfl <;> simp [endsM]
    · have ih := atM_turnsIn l t
      have hm : t ∈ endsM l → t ∈ endsM (x :: l) := fun k => by
        simp only [endsM, List.map_cons, List.mem_append, List.mem_cons] at k ⊢
        rcases k with k | k
        · exact .inl (.inr k)
        · exact .inr (.inr k)
      by_cases h1 : x.f ≤ t ∧ t < x.t
      · rw [at_hit h1, at_hit (by omega)] at h; exact absurd rfl h
      · rw [at_miss h1, at_miss (by omega)] at h
        exact hm (ih h)
theorem hasB_turnsIn (l : List IvlD) : TurnsIn (endsL l) (hasB l) := fun t hl => by
  unfold endsL
  cases h1 : hasB l t
  · cases h0 : hasB l (t - 1)
    · rw [h1, h0] at hl; exact absurd rfl hl
    · exact List.mem_append_right _ (turn_down h1 h0)
  · cases h0 : hasB l (t - 1)
    · exact List.mem_append_left _ (turn_up h1 h0)
    · rw [h1, h0] at hl; exact absurd rfl hl
theorem TurnsIn.op {α β γ : Type} {S T : List Int} {f : Int → α} {g : Int → β} (op : α → β → γ) (hf : TurnsIn S f) (hg : TurnsIn T g) : TurnsIn (S ++ T) fun t => op (f t) (g t) := fun t h => by
  by_cases h1 : f t = f (t - 1)
  · by_cases h2 : g t = g (t - 1)
    · exact absurd (by simp only [h1, h2]) h
    · exact List.mem_append_right _ (hg t h2)
  · exact List.mem_append_left _ (hf t h1)
def NearAll (S : List Int) : Prop := ∀ t, t ∈ S → nearB t = true
section
variable {S T : List Int} {fn : Int → Option Int} {l m u : List PieceD}
theorem NearAll.append (h : NearAll S) (k : NearAll T) : NearAll (S ++ T) := fun t ht => (List.mem_append.1 ht).elim (h t) (k t)
theorem MapOk.ends (h : MapOk m) : NearAll (endsM m) := fun t ht => by
  rcases List.mem_append.1 ht with ht | ht
  · obtain ⟨x, hx, rfl⟩ := List.mem_map.1 ht; exact (h.near x hx).1
  · obtain ⟨x, hx, rfl⟩ := List.mem_map.1 ht; exact (h.near x hx).2.1
theorem SetOk.ends {l : List IvlD} (h : SetOk l) : NearAll (endsL l) := fun t ht => by
  rcases List.mem_append.1 ht with ht | ht
  · obtain ⟨x, hx, rfl⟩ := List.mem_map.1 ht; exact (h.near x hx).1
  · obtain ⟨x, hx, rfl⟩ := List.mem_map.1 ht; exact (h.near x hx).2
theorem MapOk.vals (h : MapOk m) {t v : Int} (ht : atM m t = some v) : nearB v = true := by
  obtain ⟨x, hx, _, _, rfl⟩ := at_some ht
  exact (h.near x hx).2.2
theorem MapL.ok (h : MapL u) (hu : ∀ t, atM u t = fn t) (hS : TurnsIn S fn) (hn : NearAll S) (hv : ∀ t v, fn t = some v → nearB v = true) : MapOk u := by
  refine ⟨h, fun x hx => ?_⟩
  have hxl := h.2 x hx
  have h1 := h.mem_at hx (Int.le_refl _) hxl
  have h2 := h.mem_at hx (show x.f ≤ x.t - 1 by omega) (by omega)
  refine ⟨hn _ (hS _ ?_), hn _ (hS _ ?_), hv x.f _ (by rw [← hu]; exact h1)⟩
  · rw [← hu, ← hu, h1]; exact (h.gapF hx).symm
  · rw [← hu, ← hu, h2]; exact h.gapT hx
end
open Classical in
/-- What a map that tells fn is written as: it may be too large, or have a value too far. -/
noncomputable def tellErr (fn : Int → Option Int) (n : Nat) : Int := if ∃ t v, fn t = some v ∧ nearB v = false then 5 else if 200 < n then 2 else 0
def Tells (fn : Int → Option Int) (er : Int) (out : List PieceD) : Prop := ∃ U, MapL U ∧ (∀ t, atM U t = fn t) ∧ er = tellErr fn U.length ∧ (er = 0 → out = U) ∧ (er ≠ 0 → out = [])
section
variable {fn gn : Int → Option Int} {er er' : Int} {out out' l m u : List PieceD} {n : Nat}
theorem tellErr_far {t v : Int} (h : fn t = some v) (hv : nearB v = false) : tellErr fn n = 5 := by unfold tellErr; rw [if_pos ⟨t, v, h, hv⟩]
theorem tellErr_large (h : ∀ t v, fn t = some v → nearB v = true) (hn : 200 < n) : tellErr fn n = 2 := by
  unfold tellErr; rw [if_neg (fun ⟨t, v, h1, h2⟩ => by rw [h t v h1] at h2; simp at h2), if_pos hn]
theorem tellErr_ok (h : ∀ t v, fn t = some v → nearB v = true) (hn : ¬ 200 < n) : tellErr fn n = 0 := by
  unfold tellErr; rw [if_neg (fun ⟨t, v, h1, h2⟩ => by rw [h t v h1] at h2; simp at h2), if_neg hn]
theorem tellErr_zero (h : tellErr fn n = 0) : (∀ t v, fn t = some v → nearB v = true) ∧ n ≤ 200 := by
  unfold tellErr at h
  split at h
  · simp at h
  · rename_i h1
    split at h
    · simp at h
    · refine ⟨fun t v hv => ?_, by omega⟩
      cases hc : nearB v
      · exact absurd ⟨t, v, hv, hc⟩ h1
      · rfl
theorem Tells.mk_ (hU : MapL u) (hs : ∀ t, atM u t = fn t) (he : er = tellErr fn u.length) (h0 : er = 0 → out = u) (h1 : er ≠ 0 → out = []) : Tells fn er out := ⟨u, hU, hs, he, h0, h1⟩
theorem Tells.same (h : Tells fn er out) (k : Tells gn er' out') (e : ∀ t, fn t = gn t) : er = er' ∧ out = out' := by
  obtain rfl : fn = gn := funext e
  obtain ⟨U, h1, h2, h3, h4, h5⟩ := h
  obtain ⟨V, k1, k2, k3, k4, k5⟩ := k
  obtain rfl : U = V := map_unique h1 k1 fun t => by rw [h2, k2]
  obtain rfl : er = er' := h3.trans k3.symm
  refine ⟨rfl, ?_⟩
  by_cases h0 : er = 0
  · rw [h4 h0, k4 h0]
  · rw [h5 h0, k5 h0]
/-- No error: what is told is a map. -/
theorem Tells.good (h : Tells fn er out) (h0 : er = 0) : MapL out ∧ (∀ t, atM out t = fn t) ∧ out.length ≤ 200 ∧ ∀ t v, fn t = some v → nearB v = true := by
  obtain ⟨U, h1, h2, h3, h4, _⟩ := h
  obtain rfl := h4 h0
  have h5 := tellErr_zero (h3.symm.trans h0)
  exact ⟨h1, h2, h5.2, h5.1⟩
theorem Tells.mok {S : List Int} (h : Tells fn er out) (h0 : er = 0) (hS : TurnsIn S fn) (hn : NearAll S) : mapErr out = 0 := by
  obtain ⟨h1, h2, h3, h4⟩ := h.good h0
  exact mapErr_ok (by omega) (h1.ok h2 hS hn h4)
/-- Where a map tells it, no error is told. -/
theorem Tells.zero (h : Tells fn er out) (hm : mapErr m = 0) (e : ∀ t, fn t = atM m t) : er = 0 ∧ out = m := by
  obtain ⟨U, h1, h2, h3, h4, _⟩ := h
  obtain ⟨k1, k2⟩ := mapErr_zero hm
  obtain rfl : U = m := map_unique h1 k2.map fun t => by rw [h2, e]
  have : er = 0 := by rw [h3]; exact tellErr_ok (fun t v hv => k2.vals (by rw [← e]; exact hv)) k1
  exact ⟨this, h4 this⟩
theorem Tells.two (h : Tells fn er out) (hv : ∀ t v, fn t = some v → nearB v = true) (h0 : er ≠ 0) : er = 2 := by
  obtain ⟨U, h1, h2, h3, _, _⟩ := h
  by_cases hl : 200 < U.length
  · rw [h3, tellErr_large hv hl]
  · rw [h3, tellErr_ok hv hl] at h0; exact absurd rfl h0
end
/-! ### Put, Cut and Keep, Merge -/
def putM (m : List PieceD) (p : PieceD) (t : Int) : Option Int := if p.f ≤ t ∧ t < p.t then some p.v else atM m t
def onlyF (m : List PieceD) (l : List IvlD) (yes : Bool) (t : Int) : Option Int := if hasB l t = yes then atM m t else none
def both3 (k x y : Int) : Int := if k = 3 then x + y else if k = 1 then min x y else max x y
def bothO (k : Int) : Option Int → Option Int → Option Int
  | some x, some y => some (both3 k x y)
  | some x, none => some x
  | none, y => y
def mergeF (k : Int) (a b : List PieceD) (t : Int) : Option Int := bothO k (atM a t) (atM b t)
def PutSay (m : List PieceD) (p : PieceD) (er : Int) (out : List PieceD) : Prop :=
  if mapErr m = 0 then if nearB p.f = true ∧ nearB p.t = true ∧ nearB p.v = true then Tells (putM m p) er out else er = 5 ∧ out = [] else er = mapErr m ∧ out = []
def OnlySay (m : List PieceD) (l : List IvlD) (yes : Bool) (er : Int) (out : List PieceD) : Prop :=
  if mapErr m = 0 then if setErr l = 0 then Tells (onlyF m l yes) er out else er = setErr l ∧ out = [] else er = mapErr m ∧ out = []
def MergeSay (k : Int) (a b : List PieceD) (er : Int) (out : List PieceD) : Prop :=
  if mapErr a = 0 then if mapErr b = 0 then if 1 ≤ k ∧ k ≤ 3 then Tells (mergeF k a b) er out else er = 1 ∧ out = [] else er = mapErr b ∧ out = [] else er = mapErr a ∧ out = []
def spanL (m : List PieceD) : List IvlD := m.map fun x => ⟨x.f, x.t⟩
def TimesSay (m : List PieceD) (er : Int) (out : List IvlD) : Prop := er = mapErr m ∧ if er = 0 then NormIs (spanL m) out else out = []
section
variable {m a b c out out' : List PieceD} {p : PieceD} {l : List IvlD} {yes : Bool} {k er er' t v : Int}
theorem PutSay.same (h : PutSay m p er out) (g : PutSay m p er' out') : er = er' ∧ out = out' := by
  unfold PutSay at h g
  split at h
  · rename_i h1
    rw [if_pos h1] at g
    split at h
    · rename_i h2
      rw [if_pos h2] at g
      exact h.same g fun _ => rfl
    · rename_i h2
      rw [if_neg h2] at g
      rw [h.1, h.2, g.1, g.2]; exact ⟨rfl, rfl⟩
  · rename_i h1
    rw [if_neg h1] at g
    rw [h.1, h.2, g.1, g.2]; exact ⟨rfl, rfl⟩
theorem OnlySay.same (h : OnlySay m l yes er out) (g : OnlySay m l yes er' out') : er = er' ∧ out = out' := by
  unfold OnlySay at h g
  split at h
  · rename_i h1
    rw [if_pos h1] at g
    split at h
    · rename_i h2
      rw [if_pos h2] at g
      exact h.same g fun _ => rfl
    · rename_i h2
      rw [if_neg h2] at g
      rw [h.1, h.2, g.1, g.2]; exact ⟨rfl, rfl⟩
  · rename_i h1
    rw [if_neg h1] at g
    rw [h.1, h.2, g.1, g.2]; exact ⟨rfl, rfl⟩
theorem MergeSay.same (h : MergeSay k a b er out) (g : MergeSay k a b er' out') : er = er' ∧ out = out' := by
  unfold MergeSay at h g
  split at h
  · rename_i h1
    rw [if_pos h1] at g
    split at h
    · rename_i h2
      rw [if_pos h2] at g
      split at h
      · rename_i h3
        rw [if_pos h3] at g
        exact h.same g fun _ => rfl
      · rename_i h3
        rw [if_neg h3] at g
        rw [h.1, h.2, g.1, g.2]; exact ⟨rfl, rfl⟩
    · rename_i h2
      rw [if_neg h2] at g
      rw [h.1, h.2, g.1, g.2]; exact ⟨rfl, rfl⟩
  · rename_i h1
    rw [if_neg h1] at g
    rw [h.1, h.2, g.1, g.2]; exact ⟨rfl, rfl⟩
theorem put_turns (m : List PieceD) (p : PieceD) : TurnsIn ([p.f, p.t] ++ endsM m) (putM m p) := fun t h => by
  by_cases hp : t = p.f ∨ t = p.t
  · refine List.mem_append_left _ ?_
    rcases hp with rfl | rfl <;> simp
  · refine List.mem_append_right _ (atM_turnsIn m t ?_)
    unfold putM at h
    by_cases h1 : p.f ≤ t ∧ t < p.t
    · rw [if_pos h1, if_pos (by omega)] at h; exact absurd rfl h
    · rw [if_neg h1, if_neg (by omega)] at h; exact h
theorem only_turns (m : List PieceD) (l : List IvlD) (yes : Bool) : TurnsIn (endsL l ++ endsM m) (onlyF m l yes) := (hasB_turnsIn l).op (fun x y => if x = yes then y else none) (atM_turnsIn m)
theorem merge_turns (k : Int) (a b : List PieceD) : TurnsIn (endsM a ++ endsM b) (mergeF k a b) := (atM_turnsIn a).op (bothO k) (atM_turnsIn b)
theorem PutSay.good (h : PutSay m p er out) (h0 : er = 0) : mapErr m = 0 ∧ Tells (putM m p) er out ∧ mapErr out = 0 := by
  unfold PutSay at h
  split at h
  · rename_i h1
    split at h
    · rename_i h2
      refine ⟨h1, h, h.mok h0 (put_turns m p) (NearAll.append (fun t ht => ?_) (mapErr_zero h1).2.ends)⟩
      simp only [List.mem_cons, List.not_mem_nil, or_false] at ht
      rcases ht with rfl | rfl
      · exact h2.1
      · exact h2.2.1
    · rw [h0] at h; simp at h
  · rename_i h1
    rw [h0] at h; exact absurd h.1.symm h1
theorem PutSay.none (h : PutSay m p er out) (h0 : er ≠ 0) : out = [] := by
  unfold PutSay at h
  split at h
  · split at h
    · obtain ⟨U, _, _, _, _, h5⟩ := h; exact h5 h0
    · exact h.2
  · exact h.2
/-- Put once more: nothing changes. -/
theorem PutSay.again (h : PutSay m p 0 out) (g : PutSay out p er out') : er = 0 ∧ out' = out := by
  obtain ⟨h1, h2, h3⟩ := h.good rfl
  unfold PutSay at h
  rw [if_pos h1] at h
  split at h
  · rename_i hp
    unfold PutSay at g
    rw [if_pos h3, if_pos hp] at g
    refine g.zero h3 fun t => ?_
    unfold putM
    by_cases ht : p.f ≤ t ∧ t < p.t
    · rw [if_pos ht, (h2.good rfl).2.1 t]; unfold putM; rw [if_pos ht]
    · rw [if_neg ht]
  · simp at h
theorem both_comm (k x y : Int) : both3 k x y = both3 k y x := by unfold both3; split; omega; split <;> omega
theorem both_assoc (k x y z : Int) : both3 k (both3 k x y) z = both3 k x (both3 k y z) := by unfold both3; split; omega; split <;> omega
theorem bothO_comm (k : Int) (x y : Option Int) : bothO k x y = bothO k y x := by
  cases x <;> cases y <;> first | rfl | exact congrArg some (both_comm _ _ _)
theorem bothO_assoc (k : Int) (x y z : Option Int) : bothO k (bothO k x y) z = bothO k x (bothO k y z) := by
  cases x <;> cases y <;> cases z <;> first | rfl | exact congrArg some (both_assoc _ _ _ _)
theorem MergeSay.tells (h : MergeSay k a b er out) (ha : mapErr a = 0) (hb : mapErr b = 0) (hk : 1 ≤ k ∧ k ≤ 3) : Tells (mergeF k a b) er out := by
  unfold MergeSay at h
  rwa [if_pos ha, if_pos hb, if_pos hk] at h
theorem MergeSay.ok (h : MergeSay k a b er out) (ha : mapErr a = 0) (hb : mapErr b = 0) (hk : 1 ≤ k ∧ k ≤ 3) (h0 : er = 0) : mapErr out = 0 :=
  (h.tells ha hb hk).mok h0 (merge_turns k a b) ((mapErr_zero ha).2.ends.append (mapErr_zero hb).2.ends)
theorem MergeSay.comm (h : MergeSay k a b er out) (g : MergeSay k b a er' out') (ha : mapErr a = 0) (hb : mapErr b = 0) (hk : 1 ≤ k ∧ k ≤ 3) : er = er' ∧ out = out' :=
  (h.tells ha hb hk).same (g.tells hb ha hk) fun _ => bothO_comm _ _ _
/-- It doesn't matter in which order three are put together. -/
theorem merge_assoc {ab bc : List PieceD} (h1 : MergeSay k a b 0 ab) (h2 : MergeSay k ab c 0 out) (h3 : MergeSay k b c 0 bc) (h4 : MergeSay k a bc 0 out') (ha : mapErr a = 0) (hb : mapErr b = 0) (hc : mapErr c = 0) (hk : 1 ≤ k ∧ k ≤ 3) : out = out' := by
  have k1 := h1.ok ha hb hk rfl
  have k3 := h3.ok hb hc hk rfl
  refine ((h2.tells k1 hc hk).same (h4.tells ha k3 hk) fun t => ?_).2
  unfold mergeF
  rw [((h1.tells ha hb hk).good rfl).2.1, ((h3.tells hb hc hk).good rfl).2.1]
  exact bothO_assoc _ _ _ _
/-! ### what is cut and what is kept -/
theorem OnlySay.tells (h : OnlySay m l yes er out) (hm : mapErr m = 0) (hl : setErr l = 0) : Tells (onlyF m l yes) er out := by
  unfold OnlySay at h
  rwa [if_pos hm, if_pos hl] at h
theorem only_vals (hm : mapErr m = 0) : ∀ t v, onlyF m l yes t = some v → nearB v = true := fun t v hv => by
  unfold onlyF at hv
  split at hv
  · exact (mapErr_zero hm).2.vals hv
  · simp at hv
theorem OnlySay.two (h : OnlySay m l yes er out) (hm : mapErr m = 0) (hl : setErr l = 0) (h0 : er ≠ 0) : er = 2 := (h.tells hm hl).two (only_vals hm) h0
theorem OnlySay.ok (h : OnlySay m l yes er out) (hm : mapErr m = 0) (hl : setErr l = 0) (h0 : er = 0) : mapErr out = 0 :=
  (h.tells hm hl).mok h0 (only_turns m l yes) ((setErr_zero hl).2.ends.append (mapErr_zero hm).2.ends)
theorem parts_all {cut keep : List PieceD} (h1 : OnlySay m l false 0 cut) (h2 : OnlySay m l true 0 keep) (h3 : MergeSay k cut keep er out) (hm : mapErr m = 0) (hl : setErr l = 0) (hk : 1 ≤ k ∧ k ≤ 3) : er = 0 ∧ out = m := by
  refine (h3.tells (h1.ok hm hl rfl) (h2.ok hm hl rfl) hk).zero hm fun t => ?_
  unfold mergeF
  rw [((h1.tells hm hl).good rfl).2.1, ((h2.tells hm hl).good rfl).2.1]
  unfold onlyF
  cases hasB l t
  · simp only [if_true, if_neg (show ¬ (false = true) by simp)]
    cases atM m t <;> rfl
  · simp only [if_true, if_neg (show ¬ (true = false) by simp)]
    rfl
theorem span_has (m : List PieceD) (t : Int) : hasB (spanL m) t = (atM m t).isSome := by
  induction m with
  | nil => rfl
  | cons x m ih =>
    by_cases hx : x.f ≤ t ∧ t < x.t
    · rw [at_hit hx]; exact has_cons.2 (.inl hx)
    · rw [at_miss hx, ← ih, Bool.eq_iff_iff]
      show hasB (⟨x.f, x.t⟩ :: spanL m) t = true ↔ _
      rw [has_cons]
      exact ⟨fun h => h.elim (fun h => absurd h hx) id, .inr⟩
/-- What is written as a set of some intervals has no more of them. -/
theorem NormIs.of {l out : List IvlD} (h : NormIs l out) (hn : ∀ x, x ∈ l → nearB x.f = true ∧ nearB x.t = true) : Of (hasB l) l.length out := by
  refine ⟨h.1, h.2, fun x hx => ?_, ?_⟩
  · have hxl := h.1.2 x hx
    have key : NearAll (endsL l) := fun t ht => by
      rcases List.mem_append.1 ht with ht | ht
      · obtain ⟨x, hx, rfl⟩ := List.mem_map.1 ht; exact (hn x hx).1
      · obtain ⟨x, hx, rfl⟩ := List.mem_map.1 ht; exact (hn x hx).2
    refine ⟨key _ (hasB_turnsIn l _ ?_), key _ (hasB_turnsIn l _ ?_)⟩
    · rw [← h.2, ← h.2, h.1.at_ hx (Int.le_refl _) hxl, h.1.gapF hx]; simp
    · rw [← h.2, ← h.2, h.1.at_ hx (show x.f ≤ x.t - 1 by omega) (by omega), h.1.gapT hx]; simp
  · have := h.1.count (S := l.map IvlD.f) fun t h1 h0 => turn_up (by rw [← h.2]; exact h1) (by rw [← h.2]; exact h0)
    simpa using this
theorem TimesSay.of {m : List PieceD} {out : List IvlD} (h : TimesSay m er out) (hm : mapErr m = 0) : er = 0 ∧ Of (fun t => (atM m t).isSome) 200 out := by
  obtain ⟨h1, h2⟩ := h
  obtain rfl : er = 0 := h1.trans hm
  rw [if_pos rfl] at h2
  obtain ⟨k1, k2⟩ := mapErr_zero hm
  have h3 := h2.of fun x hx => by
    obtain ⟨y, hy, rfl⟩ := List.mem_map.1 hx
    exact ⟨(k2.near y hy).1, (k2.near y hy).2.1⟩
  refine ⟨rfl, h3.norm, fun t => by rw [h3.has, span_has], h3.near, ?_⟩
  have := h3.len
  simp only [spanL, List.length_map] at this
  omega
/-- What is kept is told at times of the set alone. -/
theorem parts_times {keep : List PieceD} {x y z s : List IvlD} {e1 e2 e3 : Int} {n : Nat} (h2 : OnlySay m s true 0 keep) (hx : TimesSay keep e1 x) (hy : TimesSay m e2 y) (hz : SetsSay opAnd y s e3 z) (hm : mapErr m = 0) (hs : Of (hasB s) n s) (hn : n ≤ 200) : e1 = 0 ∧ e2 = 0 ∧ e3 = 0 ∧ z = x := by
  have hl := hs.ok hn
  have h3 := h2.ok hm hl rfl
  obtain ⟨k1, k2⟩ := hx.of h3
  obtain ⟨g1, g2⟩ := hy.of hm
  refine ⟨k1, g1, ?_⟩
  refine hz.zero g2 hs (Nat.le_refl _) hn k2 fun t => ?_
  simp only [opAnd]
  rw [((h2.tells hm hl).good rfl).2.1]
  unfold onlyF
  cases hasB s t
  · simp
  · simp
end
end Go.Proofs.YtdpibehpmghghaaGreat
/- Messages against states: what is told of them; no program in sight. -/
namespace Go.Proofs.YtdpibehpmghghaaGreat

structure CellD where
  f : Int
  t : Int
  s : Int
  has : Bool
  v : Int
deriving DecidableEq
/-- Is a message there at a time? -/
def inP (x : PieceD) (t : Int) : Bool := decide (x.f ≤ t ∧ t < x.t)
/-- Which of the first messages are there at a time. -/
def whichK (l : List PieceD) (t : Int) : Nat → List Int
  | 0 => []
  | k + 1 => whichK l t k ++ (match l[k]? with | some x => if inP x t then [(k : Int)] else [] | none => [])
def whichL (l : List PieceD) (t : Int) : List Int := whichK l t l.length
def vAt (l : List PieceD) (i : Int) : Int := ((l[i.toNat]?).map PieceD.v).getD 0
def valF (l : List PieceD) (k : Int) : Int → List Int → Int
  | v, [] => v
  | v, i :: is => valF l k (both3 k v (vAt l i)) is
/-- Their values put together. -/
def valOf (l : List PieceD) (k : Int) : List Int → Int
  | [] => 0
  | i :: is => valF l k (vAt l i) is
abbrev Key := List Int × Option Int
/-- What is there at a time: messages and a state; none: no message. -/
def keyF (state l : List PieceD) (t : Int) : Option Key := if whichL l t = [] then none else some (whichL l t, atM state t)
def toCell (l : List PieceD) (k : Int) (p : PieceG Key) : CellD := ⟨p.f, p.t, p.v.2.getD 0, p.v.2.isSome, valOf l k p.v.1⟩
/-- What is wrong with messages. -/
def MsgOk (l : List PieceD) : Prop := ∀ x, x ∈ l → (nearB x.f = true ∧ nearB x.t = true ∧ nearB x.v = true) ∧ x.f < x.t
open Classical in
noncomputable def msgErr (l : List PieceD) : Int := if 200 < l.length then 2 else if MsgOk l then 0 else 5
section
variable {l state : List PieceD} {t k v : Int} {n : Nat} {x : PieceD} {D : List Int}
theorem msgErr_large (h : 200 < l.length) : msgErr l = 2 := if_pos h
theorem msgErr_ok (h : ¬ 200 < l.length) (h2 : MsgOk l) : msgErr l = 0 := by unfold msgErr; rw [if_neg h, if_pos h2]
theorem msgErr_bad (h : ¬ 200 < l.length) (h2 : ¬ MsgOk l) : msgErr l = 5 := by unfold msgErr; rw [if_neg h, if_neg h2]
theorem msgErr_zero (h : msgErr l = 0) : l.length ≤ 200 ∧ MsgOk l := by
  by_cases h1 : 200 < l.length
  · rw [msgErr_large h1] at h; simp at h
  · by_cases h2 : MsgOk l
    · exact ⟨by omega, h2⟩
    · rw [msgErr_bad h1 h2] at h; simp at h
theorem whichK_succ (hx : l[n]? = some x) : whichK l t (n + 1) = whichK l t n ++ if inP x t then [(n : Int)] else [] := by
  show whichK l t n ++ (match l[n]? with | some x => if inP x t then [(n : Int)] else [] | none => []) = _
  rw [hx]
theorem mem_whichK : ∀ {n : Nat} {i : Int}, i ∈ whichK l t n → 0 ≤ i ∧ i < n ∧ ∃ x, l[i.toNat]? = some x ∧ inP x t = true
  | 0, i, h => by simp [whichK] at h
  | n + 1, i, h => by
    rcases List.mem_append.1 h with h | h
    · obtain ⟨h1, h2, h3⟩ := mem_whichK h
      exact ⟨h1, by omega, h3⟩
    · cases hx : l[n]? with
      | none => rw [hx] at h; simp at h
      | some x =>
        rw [hx] at h
        by_cases hp : inP x t = true
        · simp only [hp, if_true, List.mem_cons, List.not_mem_nil, or_false] at h
          subst h
          exact ⟨by omega, by omega, x, by simpa using hx, hp⟩
        · simp [hp] at h
theorem which_mem : ∀ {n : Nat} {i : Nat}, i < n → l[i]? = some x → inP x t = true → (i : Int) ∈ whichK l t n
  | n + 1, i, h, hx, hp => by
    by_cases hi : i = n
    · subst hi
      rw [whichK_succ hx, hp]
      simp
    · exact List.mem_append_left _ (which_mem (by omega) hx hp)
theorem which_has : whichL l t ≠ [] ↔ ∃ x, x ∈ l ∧ inP x t = true := by
  constructor
  · intro h
    obtain ⟨i, hi⟩ := List.exists_mem_of_ne_nil _ h
    obtain ⟨_, _, x, hx, hp⟩ := mem_whichK hi
    exact ⟨x, List.mem_of_getElem? hx, hp⟩
  · rintro ⟨x, hx, hp⟩ h
    obtain ⟨i, hi⟩ := List.getElem?_of_mem hx
    have := which_mem (n := l.length) (lt_of_get hi) hi hp
    unfold whichL at h
    rw [h] at this
    simp at this
theorem which_len : (whichK l t n).length ≤ n := by
  induction n with
  | zero => simp [whichK]
  | succ n ih =>
    show (whichK l t n ++ _).length ≤ _
    rw [List.length_append]
    cases l[n]? with
    | none => simp; omega
    | some x =>
      simp only
      split <;> simp <;> omega
theorem inP_has (x : PieceD) (t : Int) : hasB [⟨x.f, x.t⟩] t = inP x t := by
  rw [Bool.eq_iff_iff, has_cons]
  simp [inP, hasB]
theorem which_turns (hD : D.Pairwise (· < ·)) (hl : ∀ x, x ∈ l → x.f ∈ D ∧ x.t ∈ D) : TurnsAt D [] (whichL l) := by
  refine ⟨fun i a c ha hc t h1 h2 => ?_, fun t ht => ?_⟩
  · have key : ∀ n, whichK l t n = whichK l a n := fun n => by
      induction n with
      | zero => rfl
      | succ n ih =>
        show whichK l t n ++ _ = whichK l a n ++ _
        rw [ih]
        cases hx : l[n]? with
        | none => rfl
        | some x =>
          have hm := hl x (List.mem_of_getElem? hx)
          have := (hasB_turns (l := [⟨x.f, x.t⟩]) hD fun y hy => by
            obtain rfl : y = _ := by simpa using hy
            exact hm).const i a c ha hc t h1 h2
          rw [inP_has, inP_has] at this
          simp only [this]
    exact key _
  · obtain ⟨x, hx, hp⟩ := which_has.1 ht
    have h3 : x.f ≤ t ∧ t < x.t := by simpa [inP] using hp
    exact ⟨x.f, x.t, (hl x hx).1, (hl x hx).2, h3.1, h3.2⟩
theorem key_turns (hD : D.Pairwise (· < ·)) (hl : ∀ x, x ∈ l → x.f ∈ D ∧ x.t ∈ D) (hs : ∀ x, x ∈ state → x.f ∈ D ∧ x.t ∈ D) : TurnsAt D none (keyF state l) :=
  (which_turns hD hl).map2 (fun w s => if w = [] then none else some (w, s)) (if_pos rfl) (atM_turns hD hs)
/-- How far values put together may be. -/
theorem both_bound {k a b A : Int} (hk : 1 ≤ k ∧ k ≤ 3) (ha : -A ≤ a ∧ a ≤ A) (hA : 0 ≤ A) (hb : nearB b = true) : -(A + 1000000000) ≤ both3 k a b ∧ both3 k a b ≤ A + 1000000000 := by
  have := near_iff.1 hb
  unfold both3
  split
  · omega
  · split <;> omega
end
end Go.Proofs.YtdpibehpmghghaaGreat
