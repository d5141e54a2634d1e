/- With fewer vertices one comes nowhere earlier; no program in sight. -/
import Derived.Test.YtcgnalpcbcpmkaaPartSpec
import Derived.Test.YtcgnalpcbcpmkaaRevSpec
namespace Go.Proofs.Ytcgnalpcbcpmkaa

/-- What stands at the kept places. -/
def sel {α : Type} : List Bool → List α → List α
  | b :: r, l :: s => if b = true then l :: sel r s else sel r s
  | _, _ => []
theorem partLives_sel : ∀ (keep : List Bool) (ls : List IvlD), partLives keep ls = sel keep ls
  | [], _ => by simp [partLives, sel]
  | _ :: _, [] => by simp [partLives, sel]
  | c :: r, m :: s => by simp only [partLives, sel, partLives_sel r s]
theorem kept_cons (c : Bool) (r : List Bool) (k : Nat) : kept (c :: r) (k + 1) = kept r k + (if c = true then 1 else 0) := by
  unfold kept; rw [List.take_succ_cons, List.countP_cons]; cases c <;> simp
theorem kept_zero (r : List Bool) : kept r 0 = 0 := by simp [kept]
theorem sel_get {α : Type} : ∀ (keep : List Bool) (ls : List α) (v : Nat) (x : α), keep[v]? = some true → ls[v]? = some x → (sel keep ls)[kept keep v]? = some x
  | [], _, _, _, h, _ => by simp at h
  | _ :: _, [], _, _, _, h => by simp at h
  | c :: r, m :: s, 0, x, h1, h2 => by
    obtain rfl : c = true := by simpa using h1
    obtain rfl : m = x := by simpa using h2
    simp [sel, kept_zero]
  | c :: r, m :: s, v + 1, x, h1, h2 => by
    have ih := sel_get r s v x (by simpa using h1) (by simpa using h2)
    rw [kept_cons]
    cases c <;> simpa [sel] using ih
theorem sel_back {α : Type} : ∀ (keep : List Bool) (ls : List α) (k : Nat) (x : α), (sel keep ls)[k]? = some x → ∃ v, keep[v]? = some true ∧ ls[v]? = some x ∧ kept keep v = k
  | [], _, _, _, h => by simp [sel] at h
  | _ :: _, [], _, _, h => by simp [sel] at h
  | c :: r, m :: s, k, x, h => by
    cases c
    · obtain ⟨v, h1, h2, h3⟩ := sel_back r s k x (by simpa [sel] using h)
      exact ⟨v + 1, by simpa using h1, by simpa using h2, by rw [kept_cons, h3]; simp⟩
    · cases k with
      | zero =>
        obtain rfl : m = x := by simpa [sel] using h
        exact ⟨0, rfl, rfl, kept_zero _⟩
      | succ k =>
        obtain ⟨v, h1, h2, h3⟩ := sel_back r s k x (by simpa [sel] using h)
        exact ⟨v + 1, by simpa using h1, by simpa using h2, by rw [kept_cons, h3]; simp⟩
theorem sel_len {α β : Type} : ∀ (keep : List Bool) (l : List α) (s : List β), l.length = s.length → (sel keep l).length = (sel keep s).length
  | [], _, _, _ => by simp [sel]
  | _ :: _, [], [], _ => by simp [sel]
  | _ :: _, [], _ :: _, h => by simp at h
  | _ :: _, _ :: _, [], h => by simp at h
  | c :: r, m :: s, n :: t, h => by
    have ih := sel_len r s t (by simpa using h)
    cases c <;> simp [sel, ih]
section
variable {g : GraphD} {keep : List Bool}
theorem part_len (hl : keep.length = g.lives.length) : (partD g keep).lives.length = kept keep g.lives.length := by
  have h := partLives_len keep g.lives g.lives.length hl
  rw [List.take_of_length_le (by omega), List.take_of_length_le (by omega)] at h
  exact h
theorem keptB_iff {v : Int} : keptB keep v = true ↔ keep[v.toNat]? = some true := by simp [keptB]
theorem part_at {v : Nat} (hk : keep[v]? = some true) {l : IvlD} (hl : g.lives[v]? = some l) : (partD g keep).lives[kept keep v]? = some l := by
  show (partLives keep g.lives)[_]? = _
  rw [partLives_sel]
  exact sel_get _ _ _ _ hk hl
theorem part_lt (hl : keep.length = g.lives.length) {v : Nat} (hk : keep[v]? = some true) : kept keep v < (partD g keep).lives.length := by
  have hv : v < keep.length := (List.getElem?_eq_some_iff.1 hk).1
  have := part_at (g := g) hk (List.getElem?_eq_getElem (by omega))
  exact (List.getElem?_eq_some_iff.1 this).1
theorem part_alive (hl : keep.length = g.lives.length) {v : Int} (hk : keptB keep v = true) (t : Int) : aliveB (partD g keep) (kept keep v.toNat) t = aliveB g v t := by
  have hk := keptB_iff.1 hk
  have hv : v.toNat < keep.length := (List.getElem?_eq_some_iff.1 hk).1
  have h1 : g.lives[v.toNat]? = some (g.lives[v.toNat]'(by omega)) := List.getElem?_eq_getElem (by omega)
  have := part_at (g := g) hk h1
  rw [aliveB_of h1, aliveB_of (v := (kept keep v.toNat : Nat)) (by simpa using this)]
theorem part_edge {y : EdgeD} (h : y ∈ (partD g keep).edges) : ∃ x, x ∈ g.edges ∧ keptB keep x.a = true ∧ keptB keep x.b = true ∧ y = ⟨kept keep x.a.toNat, kept keep x.b.toNat, x.legs⟩ := by
  simp only [partD, List.mem_filterMap, partEdge] at h
  obtain ⟨x, hx, he⟩ := h
  split at he
  · rename_i hp
    exact ⟨x, hx, hp.1, hp.2, by simpa using he.symm⟩
  · simp at he
theorem part_valid (hV : Valid g) (hl : keep.length = g.lives.length) : Valid (partD g keep) := by
  refine ⟨hV.h0, hV.h1, ?_, ?_, fun l hm => hV.lives l ?_, fun y hy => ?_⟩
  · rw [part_len hl]; have := kept_le keep g.lives.length; have := hV.nl; omega
  · exact Nat.le_trans (List.length_filterMap_le _ _) hV.ne
  · have hm : l ∈ partLives keep g.lives := hm
    rw [partLives_sel] at hm
    obtain ⟨k, hk⟩ := List.getElem?_of_mem hm
    obtain ⟨v, _, h2, _⟩ := sel_back _ _ _ _ hk
    exact List.mem_of_getElem? h2
  · obtain ⟨x, hx, ha, hb, rfl⟩ := part_edge hy
    have ho := hV.edges x hx
    have h1 := part_lt hl (keptB_iff.1 ha)
    have h2 := part_lt hl (keptB_iff.1 hb)
    exact ⟨by simp only; omega, by simp only; omega, by simp only; omega, by simp only; omega, ho.six, ho.legs, ho.err⟩
theorem part_arrive (hl : keep.length = g.lives.length) {x : EdgeD} (ha : keptB keep x.a = true) (hb : keptB keep x.b = true) (t : Int) :
    arrive (partD g keep) ⟨kept keep x.a.toNat, kept keep x.b.toNat, x.legs⟩ t = arrive g x t := by
  unfold arrive
  simp only
  cases leaves t x.legs with
  | none => rfl
  | some l => simp only [part_alive hl ha, part_alive hl hb]; rfl
theorem firstL_same {p : GraphD} {x y : EdgeD} (h : ∀ t, arrive p y t = arrive g x t) : ∀ (n : Nat) (d : Int) (o : Option (Int × Int)), firstL p y n d o = firstL g x n d o
  | 0, _, _ => rfl
  | n + 1, d, o => by
    rw [firstL, firstL]
    have e : fstep p y o d = fstep g x o d := by unfold fstep; rw [h]
    rw [e]
    exact firstL_same h n _ _
theorem part_early (hl : keep.length = g.lives.length) {x : EdgeD} (ha : keptB keep x.a = true) (hb : keptB keep x.b = true) (t : Int) :
    earlyF (partD g keep) ⟨kept keep x.a.toNat, kept keep x.b.toNat, x.legs⟩ t = earlyF g x t := by
  unfold earlyF first
  rw [firstL_same (part_arrive hl ha hb)]
  rfl
theorem gi_at {l : List Int} {k : Nat} {x : Int} (h : l[k]? = some x) : gi l k = x := gi_of h
/-- One comes nowhere earlier. -/
theorem part_later (hV : Valid g) (hl : keep.length = g.lives.length) {u : Nat} {t : Int} {a b : List Int} (hu : keep[u]? = some true) (ha : EarlyL g u t a) (hb : EarlyL (partD g keep) (kept keep u) t b) {v : Nat} (hv : keep[v]? = some true) :
    gi a v ≤ gi b (kept keep v) := by
  have hsel : ∀ i, keep[i]? = some true → gi (sel keep a) (kept keep i) = gi a i := fun i hi => by
    have h1 : i < keep.length := (List.getElem?_eq_some_iff.1 hi).1
    have h2 : a[i]? = some (a[i]'(by rw [ha.1]; omega)) := List.getElem?_eq_getElem _
    rw [gi_at (sel_get _ _ _ _ hi h2), gi_at h2]
  have hS : Sol (· ∈ arcsE (partD g keep)) (gi (startE (partD g keep) (kept keep u) t)) (gi (sel keep a)) := by
    refine ⟨fun k => ?_, fun y hy => ?_⟩
    · by_cases hk : k < (sel keep a).length
      · obtain ⟨v, h1, h2, h3⟩ := sel_back keep a k _ (List.getElem?_eq_getElem hk)
        have hkl : k < (partD g keep).lives.length := by
          show k < (partLives keep g.lives).length
          rw [partLives_sel, ← sel_len keep a g.lives ha.1]
          exact hk
        have hvl : v < g.lives.length := by have := (List.getElem?_eq_some_iff.1 h1).1; omega
        subst h3
        rw [hsel v h1, startE_val hkl]
        have h4 := ha.2.1.1 v
        rw [startE_val hvl] at h4
        have h5 := part_alive hl (v := (u : Int)) (by rw [keptB_iff]; simpa using hu) t
        simp only [Int.toNat_natCast] at h5
        split
        · rename_i hp
          rw [h5] at hp
          split at h4
          · exact h4
          · rename_i hq
            exfalso
            apply hq
            refine ⟨hp.1, ?_⟩
            have hp2 : kept keep v = kept keep u := by have := hp.2; omega
            by_cases he : v = u
            · rw [he]
            · exfalso
              rcases Nat.lt_or_gt_of_ne he with hlt | hlt
              · have h6 := kept_succ h1
                have h7 : kept keep (v + 1) ≤ kept keep u := by
                  unfold kept
                  rw [show List.take (v + 1) keep = List.take (v + 1) (List.take u keep) by rw [List.take_take, Nat.min_eq_left (by omega)]]
                  exact List.Sublist.countP_le (List.take_sublist _ _)
                simp at h6
                omega
              · have h6 := kept_succ hu
                have h7 : kept keep (u + 1) ≤ kept keep v := by
                  unfold kept
                  rw [show List.take (u + 1) keep = List.take (u + 1) (List.take v keep) by rw [List.take_take, Nat.min_eq_left (by omega)]]
                  exact List.Sublist.countP_le (List.take_sublist _ _)
                simp at h6
                omega
        · split at h4
          · rename_i hq
            have h8 := alive_time hV hq.1
            simp only [Never]
            omega
          · exact h4
      · rw [gi_far (by omega), startE_far ?_]
        · exact Int.le_refl _
        · show (partLives keep g.lives).length ≤ k
          rw [partLives_sel, ← sel_len keep a g.lives ha.1]
          omega
    · obtain ⟨z, hz, rfl⟩ := mem_arcsE.1 hy
      obtain ⟨x, hx, h1, h2, rfl⟩ := part_edge hz
      simp only [arcE, Int.toNat_natCast]
      rw [part_early hl h1 h2, hsel _ (keptB_iff.1 h1), hsel _ (keptB_iff.1 h2)]
      exact ha.arc hx
  have h := hb.2.2 _ hS (kept keep v)
  rwa [hsel v hv] at h
theorem part_place (hV : Valid g) (hl : keep.length = g.lives.length) {u : Int} (hu : keptB keep u = true) (h0 : 0 ≤ u) (h1 : u < g.lives.length) (t : Int) : placeErr (partD g keep) (kept keep u.toNat) t = placeErr g u t := by
  have h2 := part_lt hl (keptB_iff.1 hu)
  have e1 : inB u 0 (g.lives.length - 1) = true := by simp [inB]; omega
  have e2 : inB (kept keep u.toNat : Nat) 0 ((partD g keep).lives.length - 1) = true := by simp [inB]; omega
  unfold placeErr
  rw [if_pos (valid_ok hV), if_pos (valid_ok (part_valid hV hl)), if_pos e1, if_pos e2]
  rfl
end
end Go.Proofs.Ytcgnalpcbcpmkaa
