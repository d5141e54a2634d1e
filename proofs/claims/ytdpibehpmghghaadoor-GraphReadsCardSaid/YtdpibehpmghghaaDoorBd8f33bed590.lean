/- Several texts in one: FoldSpec, LaidTab. -/
import Derived.LaidMore
import Derived.MakeChecks
import Derived.Stop.LaidErr
import Derived.Stop.Joined
import Derived.Lib.LaidTab
import Derived.Test.YtdpibehpmghghaaDoorCards
import Derived.Test.YtdpibehpmghghaaDoorTie
import Derived.Test.YtdpibehpmghghaaDoorBd3df84f4302
import Derived.Test.YtdpibehpmghghaaDoorBd6508cabd72
import Derived.Test.YtdpibehpmghghaaDoorBdf0a653a3c9
/- Cells put together: what a fold tells; no program in sight. -/
namespace Go.Proofs.YtdpibehpmghghaaDoor

/-- What is told of a list of keyed pieces. -/
def foldF (U : List (PieceG Key)) (g : Key → Int) (t : Int) : Option Int := (atG U t).map g
/-- The messages' values at a time put together. -/
def mixO (l : List PieceD) (k t : Int) : Option Int := if whichL l t = [] then none else some (valOf l k (whichL l t))
theorem mix_fold {state l : List PieceD} {k : Int} {U : List (PieceG Key)} (h : ∀ t, atG U t = keyF state l t) (t : Int) : foldF U (fun q => valOf l k q.1) t = mixO l k t := by
  unfold foldF mixO
  rw [h]
  unfold keyF
  split <;> rfl
def FoldK (U : List (PieceG Key)) (g : Key → Int) (k : Nat) (out : List PieceD) : Prop :=
  (k = 0 → out = []) ∧ (∀ j z, k = j + 1 → U[j]? = some z → ∃ b, (∀ x, x ∈ U → b ≤ x.f) ∧ Told (foldF U g) b z.t out) ∧ out.length ≤ k ∧ ∀ x, x ∈ out → I64 x.f ∧ I64 x.t ∧ I64 x.v
section
variable {U : List (PieceG Key)} {g : Key → Int} {k : Nat} {out o : List PieceD} {y : PieceG Key} {z : PieceD}
theorem FoldK.start : FoldK U g 0 [] := ⟨fun _ => rfl, fun j z h => by omega, Nat.le_refl _, fun x h => by simp at h⟩
theorem fold_in (hU : MapG U) (hy : y ∈ U) {t : Int} (h1 : y.f ≤ t) (h2 : t < y.t) : foldF U g t = some (g y.v) := by
  unfold foldF
  rw [hU.mem_at hy h1 h2]
  rfl
theorem FoldK.pre (h : FoldK U g k out) (hU : MapG U) (hy : U[k]? = some y) : ∃ b, (∀ x, x ∈ U → b ≤ x.f) ∧ Told (foldF U g) b y.f out := by
  obtain ⟨i1, i2⟩ := List.getElem?_eq_some_iff.1 hy
  match k, h, hy, i1, i2 with
  | 0, h, hy, i1, i2 =>
    refine ⟨y.f, fun x hx => ?_, ?_⟩
    · obtain ⟨i, hi, rfl⟩ := List.mem_iff_getElem.1 hx
      by_cases h0 : i = 0
      · subst h0; rw [i2]; exact Int.le_refl _
      · have := List.pairwise_iff_getElem.1 hU.1 0 i i1 hi (by omega)
        rw [i2] at this
        have := hU.2 y (List.mem_of_getElem? hy)
        omega
    · rw [h.1 rfl]; exact Told.start
  | j + 1, h, hy, i1, i2 =>
    obtain ⟨z, hz⟩ := get_lt (show j < U.length by omega)
    obtain ⟨j1, j2⟩ := List.getElem?_eq_some_iff.1 hz
    obtain ⟨b, hb, hT⟩ := h.2.1 j z rfl hz
    refine ⟨b, hb, ?_⟩
    have hzy := List.pairwise_iff_getElem.1 hU.1 j (j + 1) j1 i1 (by omega)
    rw [j2, i2] at hzy
    by_cases he : z.t = y.f
    · rw [← he]; exact hT
    · have key : ∀ t, z.t ≤ t → t < y.f → foldF U g t = none := fun t h1 h2 => by
        unfold foldF
        rw [atG_none fun x hx => ?_]
        · rfl
        · rintro ⟨h3, h4⟩
          obtain ⟨i, hi, rfl⟩ := List.mem_iff_getElem.1 hx
          rcases Nat.lt_trichotomy i j with hij | hij | hij
          · have := List.pairwise_iff_getElem.1 hU.1 i j hi j1 hij
            rw [j2] at this
            have := hU.2 z (List.mem_of_getElem? hz)
            omega
          · subst hij; rw [j2] at h4; omega
          · by_cases hik : i = j + 1
            · subst hik; rw [i2] at h3; omega
            · have := List.pairwise_iff_getElem.1 hU.1 (j + 1) i i1 hi (by omega)
              rw [i2] at this
              have := hU.2 y (List.mem_of_getElem? hy)
              omega
      exact hT.skip (by omega) (fun t h1 h2 => by rw [key t h1 h2, key z.t (Int.le_refl _) (by omega)]) (key z.t (Int.le_refl _) (by omega))
theorem FoldK.grow (h : FoldK U g k (o ++ [z])) (hU : MapG U) (hy : U[k]? = some y) (hz : z.t = y.f) (hv : z.v = g y.v) (hi : I64 y.t) : FoldK U g (k + 1) (o ++ [⟨z.f, y.t, z.v⟩]) := by
  obtain ⟨b, hb, hT⟩ := h.pre hU hy
  have my := List.mem_of_getElem? hy
  have hyl := hU.2 y my
  refine ⟨fun h => by omega, fun j x hj hx => ?_, by have := h.2.2.1; simp at this ⊢; omega, fun x hx => ?_⟩
  · obtain rfl : k = j := by omega
    rw [hy] at hx
    obtain rfl : y = x := by simpa using hx
    exact ⟨b, hb, hT.grow (hb y my) hyl (fun t h1 h2 => by rw [fold_in hU my h1 h2, fold_in hU my (Int.le_refl _) hyl]) (by rw [fold_in hU my (Int.le_refl _) hyl, hv]) hz⟩
  · rcases List.mem_append.1 hx with hx | hx
    · exact h.2.2.2 x (List.mem_append_left _ hx)
    · obtain rfl : x = _ := by simpa using hx
      have := h.2.2.2 z (by simp)
      exact ⟨this.1, hi, this.2.2⟩
theorem FoldK.next (h : FoldK U g k out) (hU : MapG U) (hy : U[k]? = some y) (hz : ∀ x, x ∈ out → x.t = y.f → x.v ≠ g y.v) (h1 : I64 y.f) (h2 : I64 y.t) (h3 : I64 (g y.v)) : FoldK U g (k + 1) (out ++ [⟨y.f, y.t, g y.v⟩]) := by
  obtain ⟨b, hb, hT⟩ := h.pre hU hy
  have my := List.mem_of_getElem? hy
  have hyl := hU.2 y my
  refine ⟨fun h => by omega, fun j x hj hx => ?_, by have := h.2.2.1; simp; omega, fun x hx => ?_⟩
  · obtain rfl : k = j := by omega
    rw [hy] at hx
    obtain rfl : y = x := by simpa using hx
    exact ⟨b, hb, hT.next (hb y my) hyl (fun t h1 h2 => by rw [fold_in hU my h1 h2, fold_in hU my (Int.le_refl _) hyl]) (fold_in hU my (Int.le_refl _) hyl) hz⟩
  · rcases List.mem_append.1 hx with hx | hx
    · exact h.2.2.2 x hx
    · obtain rfl : x = _ := by simpa using hx
      exact ⟨h1, h2, h3⟩
/-- Only the last one can end there. -/
theorem FoldK.last (h : FoldK U g k (o ++ [z])) (hU : MapG U) (hy : U[k]? = some y) (hn : ¬ (z.t = y.f ∧ z.v = g y.v)) : ∀ x, x ∈ o ++ [z] → x.t = y.f → x.v ≠ g y.v := fun x hx e ev => by
  obtain ⟨b, hb, hT⟩ := h.pre hU hy
  rcases List.mem_append.1 hx with hx | hx
  · have h2 := hT.map.ahead hx
    have h3 := hT.low z (by simp)
    omega
  · obtain rfl : x = z := by simpa using hx
    exact hn ⟨e, ev⟩
theorem fold_ex (hU : MapG U) (hi : ∀ y, y ∈ U → I64 y.f ∧ I64 y.t ∧ I64 (g y.v)) : ∀ k, k ≤ U.length → ∃ out, FoldK U g k out
  | 0, _ => ⟨[], FoldK.start⟩
  | k + 1, hk => by
    obtain ⟨out, ho⟩ := fold_ex hU hi k (by omega)
    obtain ⟨y, hy⟩ := get_lt (show k < U.length by omega)
    have h3 := hi y (List.mem_of_getElem? hy)
    rcases List.eq_nil_or_concat out with rfl | ⟨o, z, rfl⟩
    · exact ⟨_, ho.next hU hy (fun x hx => by simp at hx) h3.1 h3.2.1 h3.2.2⟩
    · rw [List.concat_eq_append] at ho
      by_cases hz : z.t = y.f ∧ z.v = g y.v
      · exact ⟨_, ho.grow hU hy hz.1 hz.2 h3.2.1⟩
      · exact ⟨_, ho.next hU hy (ho.last hU hy hz) h3.1 h3.2.1 h3.2.2⟩
theorem FoldK.fin (h : FoldK U g U.length out) (hU : MapG U) : MapL out ∧ ∀ t, atM out t = foldF U g t := by
  rcases Nat.eq_zero_or_pos U.length with h0 | h0
  · have e1 : U = [] := List.eq_nil_of_length_eq_zero h0
    have e2 := h.1 h0
    subst e1 e2
    exact ⟨.nil, fun t => rfl⟩
  · obtain ⟨z, hz⟩ := get_lt (show U.length - 1 < U.length by omega)
    obtain ⟨j1, j2⟩ := List.getElem?_eq_some_iff.1 hz
    obtain ⟨b, hb, hT⟩ := h.2.1 (U.length - 1) z (by omega) hz
    refine ⟨hT.map, fun t => ?_⟩
    rw [hT.tells]
    split
    · rfl
    · rename_i hn
      unfold foldF
      rw [atG_none fun x hx => ?_]
      · rfl
      · rintro ⟨h3, h4⟩
        have h5 := hb x hx
        obtain ⟨i, hi, rfl⟩ := List.mem_iff_getElem.1 hx
        by_cases hij : i = U.length - 1
        · subst hij; rw [j2] at h4; omega
        · have := List.pairwise_iff_getElem.1 hU.1 i (U.length - 1) hi j1 (by omega)
          rw [j2] at this
          have := hU.2 z (List.mem_of_getElem? hz)
          omega
end
/-- What Fold tells. -/
def FoldSay (l : List PieceD) (k er : Int) (out : List PieceD) : Prop :=
  if msgErr l = 0 then if 1 ≤ k ∧ k ≤ 3 then Tells (mixO l k) er out else er = 1 ∧ out = [] else er = msgErr l ∧ out = []
end Go.Proofs.YtdpibehpmghghaaDoor
/- What a row's list of laid tables gives: the table that Itoa reads; where a call may start so that the list is met. -/
namespace Go.Proofs.YtdpibehpmghghaaDoor
open Go.ChangeShapes Go.WideShapes Go.ChangeAt Go.RowKit

theorem tab_type : (Tryd.prog.globals[1]?).map (·.type) = some 206 := by kernel_rfl
theorem tab_global : Tryd.prog.globalNamed "internal/strconv.uint64pow10" = some 1 := by kernel_rfl
theorem tab_of {rest : List (String × DataW Unit)} {w : World} (h : laidMet Tryd.prog (("internal/strconv.uint64pow10", Rows.laid_internal_strconv_uint64pow10) :: rest) w) : ITab w :=
  Lib.tabIs_of_head tab_global tab_type Tryd.underlying206 Tryd.underlying192 (by kernel_rfl) (by kernel_rfl) (by
    have e : (Rows.laid_internal_strconv_uint64pow10 : DataW Unit) = Lib.tabData .u64 Lib.pow10Tab := by kernel_rfl
    rw [← e]
    exact h)
end Go.Proofs.YtdpibehpmghghaaDoor
