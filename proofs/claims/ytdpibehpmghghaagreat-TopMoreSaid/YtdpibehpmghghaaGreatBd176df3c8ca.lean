/- One text: IvlLawSpec. -/
import Derived.Test.YtdpibehpmghghaaGreatBd87574eba69
/- What two sets' union, meet and difference are; laws of sets; no program in sight. -/
namespace Go.Proofs.YtdpibehpmghghaaGreat

theorem nodup_len {α : Type} [DecidableEq α] : ∀ {l r : List α}, l.Nodup → (∀ x, x ∈ l → x ∈ r) → l.length ≤ r.length
  | [], _, _, _ => Nat.zero_le _
  | x :: l, r, hn, h => by
    have hx := h x (by simp)
    have hn' := List.nodup_cons.1 hn
    have ih := nodup_len (l := l) (r := r.erase x) hn'.2 fun y hy => (List.mem_erase_of_ne (show y ≠ x from fun e => hn'.1 (e ▸ hy))).2 (h y (List.mem_cons_of_mem _ hy))
    rw [List.length_erase_of_mem hx] at ih
    have := List.length_pos_of_mem hx
    simp only [List.length_cons]
    omega
/-- All bounds of a set. -/
def endsL (l : List IvlD) : List Int := l.map IvlD.f ++ l.map IvlD.t
section
variable {l r u a b : List IvlD} {x y : IvlD} {t : Int}
theorem NormL.at_ (_ : NormL l) (hx : x ∈ l) (h1 : x.f ≤ t) (h2 : t < x.t) : hasB l t = true := has_iff.2 ⟨x, hx, h1, h2⟩
/-- Ahead of an interval there is a gap; behind it too. -/
theorem NormL.gapF (h : NormL l) (hx : x ∈ l) : hasB l (x.f - 1) = false := by
  rw [Bool.eq_false_iff]
  intro hc
  obtain ⟨y, hy, h1, h2⟩ := has_iff.1 hc
  have hxl := h.2 x hx
  obtain ⟨i, hi, rfl⟩ := List.mem_iff_getElem.1 hx
  obtain ⟨j, hj, rfl⟩ := List.mem_iff_getElem.1 hy
  rcases Nat.lt_trichotomy i j with hij | hij | hij
  · have := List.pairwise_iff_getElem.1 h.1 i j hi hj hij; omega
  · subst hij; omega
  · have := List.pairwise_iff_getElem.1 h.1 j i hj hi hij; omega
theorem NormL.gapT (h : NormL l) (hx : x ∈ l) : hasB l x.t = false := by
  rw [Bool.eq_false_iff]
  intro hc
  obtain ⟨y, hy, h1, h2⟩ := has_iff.1 hc
  have hxl := h.2 x hx
  obtain ⟨i, hi, rfl⟩ := List.mem_iff_getElem.1 hx
  obtain ⟨j, hj, rfl⟩ := List.mem_iff_getElem.1 hy
  rcases Nat.lt_trichotomy i j with hij | hij | hij
  · have := List.pairwise_iff_getElem.1 h.1 i j hi hj hij; omega
  · subst hij; omega
  · have := List.pairwise_iff_getElem.1 h.1 j i hj hi hij; omega
/-- Where a list of intervals turns, one begins or ends. -/
theorem turn_up (h1 : hasB l t = true) (h0 : hasB l (t - 1) = false) : t ∈ l.map IvlD.f := by
  obtain ⟨x, hx, k1, k2⟩ := has_iff.1 h1
  refine List.mem_map.2 ⟨x, hx, ?_⟩
  refine Classical.byContradiction fun hn => ?_
  rw [has_iff.2 ⟨x, hx, by omega, by omega⟩] at h0
  simp at h0
theorem turn_down (h1 : hasB l t = false) (h0 : hasB l (t - 1) = true) : t ∈ l.map IvlD.t := by
  obtain ⟨x, hx, k1, k2⟩ := has_iff.1 h0
  refine List.mem_map.2 ⟨x, hx, ?_⟩
  refine Classical.byContradiction fun hn => ?_
  rw [has_iff.2 ⟨x, hx, by omega, by omega⟩] at h1
  simp at h1
theorem NormL.nodup (h : NormL l) : (l.map IvlD.f).Nodup := by
  refine List.pairwise_map.2 (List.Pairwise.imp_of_mem (fun {x y} hx hy hxy => ?_) h.1)
  have := h.2 x hx
  intro e
  omega
theorem NormL.count (h : NormL u) {S : List Int} (hS : ∀ t, hasB u t = true → hasB u (t - 1) = false → t ∈ S) : u.length ≤ S.length := by
  have := nodup_len h.nodup (r := S) fun t ht => by
    obtain ⟨x, hx, rfl⟩ := List.mem_map.1 ht
    exact hS _ (h.at_ hx (Int.le_refl _) (h.2 x hx)) (h.gapF hx)
  simpa using this
/-- Where two sets put together turn, one of them does. -/
theorem op_turns {op : Bool → Bool → Bool} (hu : ∀ t, hasB u t = op (hasB a t) (hasB b t)) (h : hasB u t ≠ hasB u (t - 1)) : t ∈ endsL a ∨ t ∈ endsL b := by
  rw [hu, hu] at h
  have key : ∀ l : List IvlD, hasB l t ≠ hasB l (t - 1) → t ∈ endsL l := fun l hl => by
    unfold endsL
    cases h1 : hasB l t
    · cases h0 : hasB l (t - 1)
      · rw [h1, h0] at hl; exact absurd rfl hl
      · exact List.mem_append_right _ (turn_down h1 h0)
    · cases h0 : hasB l (t - 1)
      · exact List.mem_append_left _ (turn_up h1 h0)
      · rw [h1, h0] at hl; exact absurd rfl hl
  by_cases ha : hasB a t = hasB a (t - 1)
  · by_cases hb : hasB b t = hasB b (t - 1)
    · rw [ha, hb] at h; exact absurd rfl h
    · exact .inr (key b hb)
  · exact .inl (key a ha)
end
/-- A set whose times are known, of n intervals at most. -/
structure Of (p : Int → Bool) (n : Nat) (l : List IvlD) : Prop where
  norm : NormL l
  has : ∀ t, hasB l t = p t
  near : ∀ x, x ∈ l → nearB x.f = true ∧ nearB x.t = true
  len : l.length ≤ n
section
variable {p q r : Int → Bool} {n m : Nat} {l a b u out : List IvlD} {op : Bool → Bool → Bool} {er : Int}
theorem Of.ok (h : Of p n l) (hn : n ≤ 200) : setErr l = 0 := setErr_ok (by have := h.len; omega) ⟨h.norm, h.near⟩
theorem Of.setOk (h : Of p n l) : SetOk l := ⟨h.norm, h.near⟩
theorem Of.eq (h : Of p n l) (k : Of q m u) (e : ∀ t, p t = q t) : l = u := norm_unique h.norm k.norm fun t => by rw [h.has, k.has, e]
theorem Of.nil : Of (fun _ => false) 0 [] := ⟨.nil, fun _ => rfl, fun x h => by simp at h, Nat.le_refl _⟩
theorem Of.le (h : Of p n l) (hnm : n ≤ m) : Of p m l := ⟨h.norm, h.has, h.near, Nat.le_trans h.len hnm⟩
theorem SetOk.of (h : SetOk l) (hn : l.length ≤ n) : Of (hasB l) n l := ⟨h.norm, fun _ => rfl, h.near, hn⟩
/-- The bounds of what two sets put together make are bounds of them. -/
theorem near_of (ha : SetOk a) (hb : SetOk b) (hu : NormL u) (h : ∀ t, hasB u t = op (hasB a t) (hasB b t)) : ∀ x, x ∈ u → nearB x.f = true ∧ nearB x.t = true := by
  have key : ∀ l : List IvlD, SetOk l → ∀ t, t ∈ endsL l → nearB t = true := fun l hl t ht => by
    rcases List.mem_append.1 ht with ht | ht
    · obtain ⟨x, hx, rfl⟩ := List.mem_map.1 ht; exact (hl.near x hx).1
    · obtain ⟨x, hx, rfl⟩ := List.mem_map.1 ht; exact (hl.near x hx).2
  intro x hx
  have hxl := hu.2 x hx
  have h1 : hasB u x.f ≠ hasB u (x.f - 1) := by rw [hu.at_ hx (Int.le_refl _) hxl, hu.gapF hx]; simp
  have h2 : hasB u x.t ≠ hasB u (x.t - 1) := by rw [hu.at_ hx (by omega : x.f ≤ x.t - 1) (by omega), hu.gapT hx]; simp
  exact ⟨(op_turns h h1).elim (key a ha _) (key b hb _), (op_turns h h2).elim (key a ha _) (key b hb _)⟩
end
/-- What is told of two lists that should be sets. -/
def SetsSay (op : Bool → Bool → Bool) (a b : List IvlD) (er : Int) (out : List IvlD) : Prop :=
  if setErr a = 0 then if setErr b = 0 then ∃ U, NormL U ∧ (∀ t, hasB U t = op (hasB a t) (hasB b t)) ∧ er = (if 200 < U.length then 2 else 0) ∧ out = (if 200 < U.length then [] else U)
  else er = setErr b ∧ out = [] else er = setErr a ∧ out = []
def opOr (x y : Bool) : Bool := x || y
def opAnd (x y : Bool) : Bool := x && y
def opNot (x y : Bool) : Bool := x && !y
section
variable {p q r : Int → Bool} {n m : Nat} {l a b u out out' : List IvlD} {op : Bool → Bool → Bool} {er er' : Int}
theorem SetsSay.badA (h : setErr a ≠ 0) : SetsSay op a b (setErr a) [] := by unfold SetsSay; rw [if_neg h]; exact ⟨rfl, rfl⟩
theorem SetsSay.badB (h : setErr a = 0) (hb : setErr b ≠ 0) : SetsSay op a b (setErr b) [] := by unfold SetsSay; rw [if_pos h, if_neg hb]; exact ⟨rfl, rfl⟩
theorem SetsSay.large (h : setErr a = 0) (hb : setErr b = 0) (hU : NormL u) (hs : ∀ t, hasB u t = op (hasB a t) (hasB b t)) (hl : 200 < u.length) : SetsSay op a b 2 [] := by
  unfold SetsSay; rw [if_pos h, if_pos hb]; exact ⟨u, hU, hs, by rw [if_pos hl], by rw [if_pos hl]⟩
theorem SetsSay.good (h : setErr a = 0) (hb : setErr b = 0) (hU : NormL u) (hs : ∀ t, hasB u t = op (hasB a t) (hasB b t)) (hl : ¬ 200 < u.length) : SetsSay op a b 0 u := by
  unfold SetsSay; rw [if_pos h, if_pos hb]; exact ⟨u, hU, hs, by rw [if_neg hl], by rw [if_neg hl]⟩
/-- What is told is one. -/
theorem SetsSay.same (h : SetsSay op a b er out) (k : SetsSay op a b er' out') : er = er' ∧ out = out' := by
  unfold SetsSay at h k
  by_cases ha : setErr a = 0
  · rw [if_pos ha] at h k
    by_cases hb : setErr b = 0
    · rw [if_pos hb] at h k
      obtain ⟨U, h1, h2, rfl, rfl⟩ := h
      obtain ⟨V, k1, k2, rfl, rfl⟩ := k
      obtain rfl : U = V := norm_unique h1 k1 fun t => by rw [h2, k2]
      exact ⟨rfl, rfl⟩
    · rw [if_neg hb] at h k
      rw [h.1, h.2, k.1, k.2]; exact ⟨rfl, rfl⟩
  · rw [if_neg ha] at h k
    rw [h.1, h.2, k.1, k.2]; exact ⟨rfl, rfl⟩
/-- Where a list as short has those times, no error is told. -/
theorem SetsSay.zero (h : SetsSay op a b er out) (ha : Of p n a) (hb : Of q m b) (hn : n ≤ 200) (hm : m ≤ 200) (hr : Of r 200 l) (he : ∀ t, op (p t) (q t) = r t) : er = 0 ∧ out = l := by
  unfold SetsSay at h
  rw [if_pos (ha.ok hn), if_pos (hb.ok hm)] at h
  obtain ⟨U, h1, h2, rfl, rfl⟩ := h
  obtain rfl : U = l := norm_unique h1 hr.norm fun t => by rw [h2, ha.has, hb.has, he, hr.has]
  have := hr.len
  rw [if_neg (by omega), if_neg (by omega)]
  exact ⟨rfl, rfl⟩
theorem SetsSay.of_ (h : SetsSay op a b er out) (ha : Of p n a) (hb : Of q m b) (hn : n ≤ 200) (hm : m ≤ 200) (hnm : n + m ≤ 200)
    (_ : ∀ u, NormL u → (∀ t, hasB u t = op (hasB a t) (hasB b t)) → ∀ t, hasB u t = true → hasB u (t - 1) = false → t ∈ a.map IvlD.f ++ b.map IvlD.f ∨ t ∈ a.map IvlD.f ++ b.map IvlD.t)
    (hT2 : (∀ u, NormL u → (∀ t, hasB u t = op (hasB a t) (hasB b t)) → ∀ t, hasB u t = true → hasB u (t - 1) = false → t ∈ a.map IvlD.f ++ b.map IvlD.f) ∨ (∀ u, NormL u → (∀ t, hasB u t = op (hasB a t) (hasB b t)) → ∀ t, hasB u t = true → hasB u (t - 1) = false → t ∈ a.map IvlD.f ++ b.map IvlD.t)) :
    er = 0 ∧ Of (fun t => op (p t) (q t)) (n + m) out := by
  unfold SetsSay at h
  rw [if_pos (ha.ok hn), if_pos (hb.ok hm)] at h
  obtain ⟨U, h1, h2, rfl, rfl⟩ := h
  have hal := ha.len; have hbl := hb.len
  have hUl : U.length ≤ n + m := by
    rcases hT2 with k | k
    · have := h1.count (k U h1 h2); simp at this; omega
    · have := h1.count (k U h1 h2); simp at this; omega
  rw [if_neg (by omega), if_neg (by omega)]
  exact ⟨rfl, h1, fun t => by rw [h2, ha.has, hb.has], near_of ha.setOk hb.setOk h1 h2, hUl⟩
theorem SetsSay.or_ (h : SetsSay opOr a b er out) (ha : Of p n a) (hb : Of q m b) (hn : n ≤ 200) (hm : m ≤ 200) (hnm : n + m ≤ 200) : er = 0 ∧ Of (fun t => p t || q t) (n + m) out := by
  have key : ∀ u, NormL u → (∀ t, hasB u t = opOr (hasB a t) (hasB b t)) → ∀ t, hasB u t = true → hasB u (t - 1) = false → t ∈ a.map IvlD.f ++ b.map IvlD.f := fun u _ hu t h1 h0 => by
    rw [hu] at h1 h0
    simp only [opOr, Bool.or_eq_true, Bool.or_eq_false_iff] at h1 h0
    rcases h1 with h1 | h1
    · exact List.mem_append_left _ (turn_up h1 h0.1)
    · exact List.mem_append_right _ (turn_up h1 h0.2)
  exact h.of_ ha hb hn hm hnm (fun u k1 k2 t h1 h2 => .inl (key u k1 k2 t h1 h2)) (.inl key)
theorem SetsSay.and_ (h : SetsSay opAnd a b er out) (ha : Of p n a) (hb : Of q m b) (hn : n ≤ 200) (hm : m ≤ 200) (hnm : n + m ≤ 200) : er = 0 ∧ Of (fun t => p t && q t) (n + m) out := by
  have key : ∀ u, NormL u → (∀ t, hasB u t = opAnd (hasB a t) (hasB b t)) → ∀ t, hasB u t = true → hasB u (t - 1) = false → t ∈ a.map IvlD.f ++ b.map IvlD.f := fun u _ hu t h1 h0 => by
    rw [hu] at h1 h0
    simp only [opAnd, Bool.and_eq_true] at h1 h0
    cases ha0 : hasB a (t - 1)
    · exact List.mem_append_left _ (turn_up h1.1 ha0)
    · cases hb0 : hasB b (t - 1)
      · exact List.mem_append_right _ (turn_up h1.2 hb0)
      · rw [ha0, hb0] at h0; simp at h0
  exact h.of_ ha hb hn hm hnm (fun u k1 k2 t h1 h2 => .inl (key u k1 k2 t h1 h2)) (.inl key)
theorem SetsSay.not_ (h : SetsSay opNot a b er out) (ha : Of p n a) (hb : Of q m b) (hn : n ≤ 200) (hm : m ≤ 200) (hnm : n + m ≤ 200) : er = 0 ∧ Of (fun t => p t && !q t) (n + m) out := by
  have key : ∀ u, NormL u → (∀ t, hasB u t = opNot (hasB a t) (hasB b t)) → ∀ t, hasB u t = true → hasB u (t - 1) = false → t ∈ a.map IvlD.f ++ b.map IvlD.t := fun u _ hu t h1 h0 => by
    rw [hu] at h1 h0
    simp only [opNot, Bool.and_eq_true, Bool.not_eq_true'] at h1 h0
    cases ha0 : hasB a (t - 1)
    · exact List.mem_append_left _ (turn_up h1.1 ha0)
    · cases hb0 : hasB b (t - 1)
      · rw [ha0, hb0] at h0; simp at h0
      · exact List.mem_append_right _ (turn_down h1.2 hb0)
  exact h.of_ ha hb hn hm hnm (fun u k1 k2 t h1 h2 => .inr (key u k1 k2 t h1 h2)) (.inr key)
end
/-! ### the size of a set -/
def sizeL : List IvlD → Int
  | [] => 0
  | x :: l => (x.t - x.f) + sizeL l
def cnt (p : Int → Bool) (lo : Int) : Nat → Int
  | 0 => 0
  | n + 1 => cnt p lo n + if p (lo + n) then 1 else 0
section
variable {p q r s : Int → Bool} {l : List IvlD} {x : IvlD} {lo : Int} {n : Nat}
theorem cnt_ext : ∀ {n : Nat}, (∀ t, lo ≤ t → t < lo + n → p t = q t) → cnt p lo n = cnt q lo n
  | 0, _ => rfl
  | n + 1, h => by
    simp only [cnt]
    rw [cnt_ext fun t h1 h2 => h t h1 (by omega), h (lo + n) (by omega) (by omega)]
theorem cnt_none : ∀ {n : Nat}, (∀ t, lo ≤ t → t < lo + n → p t = false) → cnt p lo n = 0
  | 0, _ => rfl
  | n + 1, h => by
    simp only [cnt]
    rw [cnt_none fun t h1 h2 => h t h1 (by omega), h (lo + n) (by omega) (by omega)]
    rfl
theorem cnt_four (h : ∀ t, (if p t then (1 : Int) else 0) + (if q t then 1 else 0) = (if r t then 1 else 0) + (if s t then 1 else 0)) : ∀ n, cnt p lo n + cnt q lo n = cnt r lo n + cnt s lo n
  | 0 => rfl
  | n + 1 => by
    simp only [cnt]
    have := cnt_four h n
    have := h (lo + n)
    omega
theorem cnt_join (h : ∀ t, (if p t then (1 : Int) else 0) = (if r t then 1 else 0) + (if s t then 1 else 0)) : ∀ n, cnt p lo n = cnt r lo n + cnt s lo n
  | 0 => rfl
  | n + 1 => by
    simp only [cnt]
    have := cnt_join h n
    have := h (lo + n)
    omega
/-- One interval alone. -/
theorem cnt_one (a b : Int) (h1 : lo ≤ a) (hab : a ≤ b) : ∀ {n : Nat}, cnt (fun t => decide (a ≤ t ∧ t < b)) lo n = max 0 (min b (lo + n) - a)
  | 0 => by simp only [cnt]; omega
  | n + 1 => by
    simp only [cnt]
    rw [cnt_one a b h1 hab (n := n)]
    by_cases h : a ≤ lo + n ∧ lo + n < b
    · rw [if_pos (by simpa using h)]; push_cast; omega
    · rw [if_neg (by simpa using h)]; push_cast; omega
theorem cnt_size : ∀ {l : List IvlD}, NormL l → (∀ x, x ∈ l → lo ≤ x.f ∧ x.t ≤ lo + n) → cnt (hasB l) lo n = sizeL l
  | [], _, _ => cnt_none fun _ _ _ => rfl
  | x :: l, h, hl => by
    have hx := hl x (by simp)
    have hxl := h.2 x (by simp)
    rw [cnt_join (r := fun t => decide (x.f ≤ t ∧ t < x.t)) (s := hasB l) fun t => by
      cases h2 : hasB l t
      · have : hasB (x :: l) t = decide (x.f ≤ t ∧ t < x.t) := by
          rw [Bool.eq_iff_iff, has_cons, h2]; simp
        rw [this]; simp
      · have h3 := h.past h2
        have : hasB (x :: l) t = true := has_cons.2 (.inr h2)
        rw [this]
        have : decide (x.f ≤ t ∧ t < x.t) = false := by simp; omega
        rw [this]; rfl]
    rw [cnt_one _ _ hx.1 (by omega), cnt_size h.tail fun y hy => hl y (List.mem_cons_of_mem _ hy)]
    simp only [sizeL]
    omega
end
theorem Of.size {p q : Int → Bool} {n m i j : Nat} {a b u v : List IvlD} (ha : Of p n a) (hb : Of q m b) (hu : Of (fun t => p t || q t) i u) (hv : Of (fun t => p t && q t) j v) : sizeL a + sizeL b = sizeL u + sizeL v := by
  have key : ∀ {r : Int → Bool} {k : Nat} {l : List IvlD}, Of r k l → cnt (hasB l) (-1000000000) 2000000000 = sizeL l := fun h => cnt_size h.norm fun x hx => by
    have h1 := near_iff.1 (h.near x hx).1
    have h2 := near_iff.1 (h.near x hx).2
    omega
  rw [← key ha, ← key hb, ← key hu, ← key hv]
  refine cnt_four (fun t => ?_) _
  rw [ha.has, hb.has, hu.has, hv.has]
  cases p t <;> cases q t <;> rfl
theorem size_pre {l : List IvlD} (h : SetOk l) (hl : l.length ≤ 200) (k : Nat) : 0 ≤ sizeL (l.take k) ∧ sizeL (l.take k) ≤ 400000000000 := by
  have key : ∀ {l : List IvlD}, SetOk l → 0 ≤ sizeL l ∧ sizeL l ≤ 2000000000 * l.length := fun {l} h => by
    induction l with
    | nil => simp [sizeL]
    | cons x l ih =>
      have h1 := near_iff.1 (h.near x (by simp)).1
      have h2 := near_iff.1 (h.near x (by simp)).2
      have h3 := h.norm.2 x (by simp)
      have := ih ⟨h.norm.tail, fun y hy => h.near y (List.mem_cons_of_mem _ hy)⟩
      simp only [sizeL, List.length_cons]
      omega
  have h1 := key (h.take k)
  have : (l.take k).length ≤ 200 := by simp; omega
  omega
theorem size_snoc {l : List IvlD} {x : IvlD} : sizeL (l ++ [x]) = sizeL l + (x.t - x.f) := by
  induction l with
  | nil => simp [sizeL]
  | cons y l ih => rw [List.cons_append, sizeL, sizeL, ih]; omega
end Go.Proofs.YtdpibehpmghghaaGreat
