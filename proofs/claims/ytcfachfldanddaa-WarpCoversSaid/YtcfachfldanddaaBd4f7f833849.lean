/- Several texts in one: WarpVal, FoldSpec. -/
import Derived.Test.YtcfachfldanddaaBd077cbc6546
import Derived.Test.YtcfachfldanddaaBd39c8e2073b
/- The walk of a moment's value. -/
namespace Go.Proofs.Ytcfachfldanddaa
open Go.RowKit Go.Shelf

theorem valF_snoc {l : List PieceD} {k i : Int} : ∀ {is : List Int} {v : Int}, valF l k v (is ++ [i]) = both3 k (valF l k v is) (vAt l i)
  | [], _ => rfl
  | _ :: is, _ => valF_snoc (is := is)
theorem vAt_of {l : List PieceD} {j : Nat} {x : PieceD} (hx : l[j]? = some x) : vAt l j = x.v := by unfold vAt; rw [Int.toNat_natCast, hx]; rfl
theorem valF_bound {l : List PieceD} {k : Int} (hm : MsgOk l) (hk : 1 ≤ k ∧ k ≤ 3) : ∀ (is : List Int) (v A : Int), (∀ i, i ∈ is → 0 ≤ i ∧ i < l.length) → (-A ≤ v ∧ v ≤ A) → 0 ≤ A → -(A + is.length * 1000000000) ≤ valF l k v is ∧ valF l k v is ≤ A + is.length * 1000000000
  | [], v, A, _, hv, _ => by simp only [valF, List.length_nil]; omega
  | i :: is, v, A, hi, hv, hA => by
    have h0 := hi i (by simp)
    obtain ⟨x, hx⟩ := get_lt (show i.toNat < l.length by omega)
    have hx2 : vAt l i = x.v := by unfold vAt; rw [hx]; rfl
    have hb := both_bound hk hv hA (hm x (List.mem_of_getElem? hx)).1.2.2
    rw [← hx2] at hb
    have ih := valF_bound hm hk is (both3 k v (vAt l i)) (A + 1000000000) (fun j hj => hi j (List.mem_cons_of_mem _ hj)) hb (by omega)
    simp only [valF, List.length_cons]
    omega
set_option maxHeartbeats 1000000 in
theorem togetherBig_any (a b k : Int) (hk : 1 ≤ k ∧ k ≤ 3) (h1 : -1000000000000 ≤ a) (h1' : a ≤ 1000000000000) (hb : nearB b = true) (w : World) : Calls Try.prog 82 #[.int .i64 a, .int .i64 b, .int .i64 k] w fun e w' => e = .returned (.int .i64 (both3 k a b)) ∧ w = w' := by
  have h2 := near_iff.1 hb
  have hs : IntKind.i64.wrap (a + b) = a + b := IntWalk.i64_in _ (by omega)
  have hk3 : k = 1 ∨ k = 2 ∨ k = 3 := by omega
  clear hb hk
  have HR1 : both3 1 a b = min a b := by unfold both3; rw [if_neg (by decide), if_pos rfl]
  have HR2 : both3 2 a b = max a b := by unfold both3; rw [if_neg (by decide), if_neg (by decide)]
  have HR3 : both3 3 a b = a + b := by unfold both3; rw [if_pos rfl]
  have K1 := Lib.hid HR1.symm; have K2 := Lib.hid HR2.symm; have K3 := Lib.hid HR3.symm
  clear HR1 HR2 HR3 h1 h1' h2
  rcases hk3 with rfl | rfl | rfl
  all_goals
    go_enter Try.func82, Try.ntmps82
    go_wp2_with fail
    go_ret
    first
    | exact ⟨ret_int K1.out, rfl⟩
    | exact ⟨ret_int K2.out, rfl⟩
    | exact ⟨ret_int K3.out, rfl⟩

set_option maxRecDepth 100000 in
set_option maxHeartbeats 4000000 in
theorem warpValue_any (A B : Option Addr) (c d n : Nat) (o : Option Int) (wh : List Int) (l : List PieceD) (how : Int) (w : World) (hA : IntsAt w A c wh) (hn : wh.length = n) (h0 : wh ≠ []) (hi : ∀ i, i ∈ wh → 0 ≤ i ∧ i < l.length) (hB : PiecesAt w B d l) (hm : MsgOk l) (hl : l.length ≤ 200) (hwl : wh.length ≤ 200) (hk : 1 ≤ how ∧ how ≤ 3) :
    Calls Try.prog 116 #[momV A n c o, .slice B l.length d, .int .i64 how] w fun e w' => e = .returned (.int .i64 (valOf l how wh)) ∧ Below w.heap.size w w' := by
  have m2 := hB.len
  obtain ⟨i, is, rfl⟩ : ∃ i is, wh = i :: is := by
    cases wh with
    | nil => exact absurd rfl h0
    | cons i is => exact ⟨i, is, rfl⟩
  obtain ⟨j, rfl⟩ : ∃ j : Nat, i = j := ⟨i.toNat, by have := hi i (by simp); omega⟩
  have hjl : j < l.length := by have := hi j (by simp); omega
  obtain ⟨x, hx⟩ := get_lt hjl
  have hnn : n = is.length + 1 := by rw [← hn]; simp
  have hnc : is.length + 1 ≤ c := by have := hA.lc; simpa using this
  subst hnn
  have hcm : c ≤ 9223372036854775807 := hA.cm
  have HB := Lib.hid hB; have HA := Lib.hid hA; have HI := Lib.hid hi; have HM := Lib.hid hm; have HK := Lib.hid hk; have HL := Lib.hid hl
  have HV : Hid (valOf l how ((j : Int) :: is) = valF l how x.v is) := Lib.hid (by show valF l how (vAt l j) is = _; rw [vAt_of hx])
  have HXN := Lib.hid (hm x (List.mem_of_getElem? hx)).1.2.2
  have HWL : Hid (is.length ≤ 200) := Lib.hid (by simp at hwl; omega)
  obtain ⟨b, off, rfl, hb0, x0⟩ := hA.get (k := 0) (x := (j : Int)) rfl
  obtain ⟨b2, off2, rfl, hb2, y0, y1, y2⟩ := hB.get hx
  rw [Nat.add_zero] at x0
  have X0 : ∀ ob : Obj, (w.alloc ob).cell? ⟨b, off, none⟩ = some (.int .i64 j) := fun ob => ((ext_alloc (Below.refl _ w) ob).cell (p := ⟨b, off, none⟩) hb0).trans x0
  have Y2 : ∀ ob : Obj, (w.alloc ob).cell? ⟨b2, off2 + j * 3 + 2, none⟩ = some (.int .i64 x.v) := fun ob => ((ext_alloc (Below.refl _ w) ob).cell (p := ⟨b2, off2 + j * 3 + 2, none⟩) hb2).trans y2
  have hn1 : 1 ≤ is.length + 1 := by omega
  rw [HV.out]
  clear hA hB hi hm hk hx hn h0 x0 y0 y1 y2 hl hwl HV
  unfold momV momC
  by_cases hc1 : c = 1
  case pos =>
    obtain rfl : is = [] := List.eq_nil_of_length_eq_zero (by omega)
    subst hc1
    go_enter Try.func116, Try.ntmps116
    go_wp2_with fail
    go_loopw [7, 22] (fun a y wr => y = .int .i64 0 ∧ a = .int .i64 x.v ∧ Below w.heap.size w wr) (fun _ _ _ => 0)
    case atStart => exact ⟨rfl, rfl, by go_grown⟩
    case round =>
      obtain ⟨rfl, rfl, hb⟩ := hrel
      go_wp2_with fail
      go_ret
      exact ⟨rfl, hb⟩
  case neg =>
    have hcc : 1 < c := by omega
    go_enter Try.func116, Try.ntmps116
    go_wp2_with fail
    go_loopw [7, 22] (fun a y wr => ∃ k : Nat, k ≤ is.length ∧ y = .int .i64 k ∧ a = .int .i64 (valF l how x.v (is.take k)) ∧ Below w.heap.size w wr) (fun _ y _ => is.length - (intOf y).toNat)
    case atStart => exact ⟨0, Nat.zero_le _, rfl, rfl, by go_grown⟩
    case round =>
      clear X0 Y2
      obtain ⟨k, hk, rfl, rfl, hb⟩ := hrel
      by_cases hlt : k < is.length
      case neg =>
        obtain rfl : k = is.length := by omega
        rw [List.take_length]
        go_wp2_with fail
        go_ret
        exact ⟨rfl, hb⟩
      case pos =>
        obtain ⟨i2, hi2⟩ := get_lt hlt
        obtain ⟨j2, rfl⟩ : ∃ j2 : Nat, i2 = j2 := ⟨i2.toNat, by have := HI.out i2 (List.mem_cons_of_mem _ (List.mem_of_getElem? hi2)); omega⟩
        have hj2 : j2 < l.length := by have := HI.out j2 (List.mem_cons_of_mem _ (List.mem_of_getElem? hi2)); omega
        obtain ⟨z, hz⟩ := get_lt hj2
        obtain ⟨b', off', e', _, u0⟩ := HA.out.get (k := k + 1) (x := (j2 : Int)) (by rw [List.getElem?_cons_succ]; exact hi2)
        obtain ⟨rfl, rfl⟩ : b = b' ∧ off = off' := by simpa using e'
        obtain ⟨b3, off3, e3, _, v0, v1, v2⟩ := HB.out.get hz
        obtain ⟨rfl, rfl⟩ : b2 = b3 ∧ off2 = off3 := by simpa using e3
        have u0 : wr.cell? ⟨b, off + 1 + k, none⟩ = some (.int .i64 j2) := by rw [show off + 1 + k = off + (k + 1) by omega]; exact (hb.cell (p := ⟨b, off + (k + 1), none⟩) hb0).trans u0
        have v2 : wr.cell? ⟨b2, off2 + j2 * 3 + 2, none⟩ = some (.int .i64 z.v) := (hb.cell (p := ⟨b2, off2 + j2 * 3 + 2, none⟩) hb2).trans v2
        have HN : Hid (is.take (k + 1) = is.take k ++ [(j2 : Int)]) := Lib.hid (by rw [List.take_add_one, hi2]; rfl)
        have HS : Hid (valF l how x.v (is.take (k + 1)) = both3 how (valF l how x.v (is.take k)) z.v) := Lib.hid (by rw [HN.out, valF_snoc, vAt_of hz])
        have hbd := valF_bound HM.out HK.out (is.take k) x.v 1000000000 (fun i hi => HI.out i (List.mem_cons_of_mem _ (List.mem_of_mem_take hi))) (by have := near_iff.1 HXN.out; omega) (by omega)
        have hlk : (is.take k).length ≤ 200 := by rw [List.length_take]; have := HWL.out; omega
        obtain ⟨a1, ha1⟩ : ∃ a1, valF l how x.v (is.take k) = a1 := ⟨_, rfl⟩
        rw [ha1] at hbd HS ⊢
        have hT := togetherBig_any a1 z.v how HK.out (by omega) (by omega) (HM.out z (List.mem_of_getElem? hz)).1.2.2
        have hk9 : (k : Int) + 1 < (c : Int) := by omega
        clear hi2 hz e' e3 v0 v1 hbd hlk ha1
        go_wp2_with fail
        refine (hT _).mono ?_
        rintro e w5 ⟨rfl, rfl⟩
        go_wp2_with fail
        go_roundw
        case rel => exact ⟨k + 1, by omega, by go_num, by rw [HS.out], hb⟩
        case measure => simp [intOf]; omega
end Go.Proofs.Ytcfachfldanddaa
/- Cells put together: what a fold tells; no program in sight. -/
namespace Go.Proofs.Ytcfachfldanddaa

/-- What is told of a list of keyed pieces. -/
def foldF (U : List (PieceG Key)) (g : Key → Int) (t : Int) : Option Int := (atG U t).map g
/-- The messages' values at a time put together. -/
def mixO (l : List PieceD) (k t : Int) : Option Int := if whichL l t = [] then none else some (valOf l k (whichL l t))
theorem mix_fold {state l : List PieceD} {k : Int} {U : List (PieceG Key)} (h : ∀ t, atG U t = keyF state l t) (t : Int) : foldF U (fun q => valOf l k q.1) t = mixO l k t := by
  unfold foldF mixO
  rw [h]
  unfold keyF
  split <;> rfl
def FoldK (U : List (PieceG Key)) (g : Key → Int) (k : Nat) (out : List PieceD) : Prop :=
  (k = 0 → out = []) ∧ (∀ j z, k = j + 1 → U[j]? = some z → ∃ b, (∀ x, x ∈ U → b ≤ x.f) ∧ Told (foldF U g) b z.t out) ∧ out.length ≤ k ∧ ∀ x, x ∈ out → I64 x.f ∧ I64 x.t ∧ I64 x.v
section
variable {U : List (PieceG Key)} {g : Key → Int} {k : Nat} {out o : List PieceD} {y : PieceG Key} {z : PieceD}
theorem FoldK.start : FoldK U g 0 [] := ⟨fun _ => rfl, fun j z h => by omega, Nat.le_refl _, fun x h => by simp at h⟩
theorem fold_in (hU : MapG U) (hy : y ∈ U) {t : Int} (h1 : y.f ≤ t) (h2 : t < y.t) : foldF U g t = some (g y.v) := by
  unfold foldF
  rw [hU.mem_at hy h1 h2]
  rfl
theorem FoldK.pre (h : FoldK U g k out) (hU : MapG U) (hy : U[k]? = some y) : ∃ b, (∀ x, x ∈ U → b ≤ x.f) ∧ Told (foldF U g) b y.f out := by
  obtain ⟨i1, i2⟩ := List.getElem?_eq_some_iff.1 hy
  match k, h, hy, i1, i2 with
  | 0, h, hy, i1, i2 =>
    refine ⟨y.f, fun x hx => ?_, ?_⟩
    · obtain ⟨i, hi, rfl⟩ := List.mem_iff_getElem.1 hx
      by_cases h0 : i = 0
      · subst h0; rw [i2]; exact Int.le_refl _
      · have := List.pairwise_iff_getElem.1 hU.1 0 i i1 hi (by omega)
        rw [i2] at this
        have := hU.2 y (List.mem_of_getElem? hy)
        omega
    · rw [h.1 rfl]; exact Told.start
  | j + 1, h, hy, i1, i2 =>
    obtain ⟨z, hz⟩ := get_lt (show j < U.length by omega)
    obtain ⟨j1, j2⟩ := List.getElem?_eq_some_iff.1 hz
    obtain ⟨b, hb, hT⟩ := h.2.1 j z rfl hz
    refine ⟨b, hb, ?_⟩
    have hzy := List.pairwise_iff_getElem.1 hU.1 j (j + 1) j1 i1 (by omega)
    rw [j2, i2] at hzy
    by_cases he : z.t = y.f
    · rw [← he]; exact hT
    · have key : ∀ t, z.t ≤ t → t < y.f → foldF U g t = none := fun t h1 h2 => by
        unfold foldF
        rw [atG_none fun x hx => ?_]
        · rfl
        · rintro ⟨h3, h4⟩
          obtain ⟨i, hi, rfl⟩ := List.mem_iff_getElem.1 hx
          rcases Nat.lt_trichotomy i j with hij | hij | hij
          · have := List.pairwise_iff_getElem.1 hU.1 i j hi j1 hij
            rw [j2] at this
            have := hU.2 z (List.mem_of_getElem? hz)
            omega
          · subst hij; rw [j2] at h4; omega
          · by_cases hik : i = j + 1
            · subst hik; rw [i2] at h3; omega
            · have := List.pairwise_iff_getElem.1 hU.1 (j + 1) i i1 hi (by omega)
              rw [i2] at this
              have := hU.2 y (List.mem_of_getElem? hy)
              omega
      exact hT.skip (by omega) (fun t h1 h2 => by rw [key t h1 h2, key z.t (Int.le_refl _) (by omega)]) (key z.t (Int.le_refl _) (by omega))
theorem FoldK.grow (h : FoldK U g k (o ++ [z])) (hU : MapG U) (hy : U[k]? = some y) (hz : z.t = y.f) (hv : z.v = g y.v) (hi : I64 y.t) : FoldK U g (k + 1) (o ++ [⟨z.f, y.t, z.v⟩]) := by
  obtain ⟨b, hb, hT⟩ := h.pre hU hy
  have my := List.mem_of_getElem? hy
  have hyl := hU.2 y my
  refine ⟨fun h => by omega, fun j x hj hx => ?_, by have := h.2.2.1; simp at this ⊢; omega, fun x hx => ?_⟩
  · obtain rfl : k = j := by omega
    rw [hy] at hx
    obtain rfl : y = x := by simpa using hx
    exact ⟨b, hb, hT.grow (hb y my) hyl (fun t h1 h2 => by rw [fold_in hU my h1 h2, fold_in hU my (Int.le_refl _) hyl]) (by rw [fold_in hU my (Int.le_refl _) hyl, hv]) hz⟩
  · rcases List.mem_append.1 hx with hx | hx
    · exact h.2.2.2 x (List.mem_append_left _ hx)
    · obtain rfl : x = _ := by simpa using hx
      have := h.2.2.2 z (by simp)
      exact ⟨this.1, hi, this.2.2⟩
theorem FoldK.next (h : FoldK U g k out) (hU : MapG U) (hy : U[k]? = some y) (hz : ∀ x, x ∈ out → x.t = y.f → x.v ≠ g y.v) (h1 : I64 y.f) (h2 : I64 y.t) (h3 : I64 (g y.v)) : FoldK U g (k + 1) (out ++ [⟨y.f, y.t, g y.v⟩]) := by
  obtain ⟨b, hb, hT⟩ := h.pre hU hy
  have my := List.mem_of_getElem? hy
  have hyl := hU.2 y my
  refine ⟨fun h => by omega, fun j x hj hx => ?_, by have := h.2.2.1; simp; omega, fun x hx => ?_⟩
  · obtain rfl : k = j := by omega
    rw [hy] at hx
    obtain rfl : y = x := by simpa using hx
    exact ⟨b, hb, hT.next (hb y my) hyl (fun t h1 h2 => by rw [fold_in hU my h1 h2, fold_in hU my (Int.le_refl _) hyl]) (fold_in hU my (Int.le_refl _) hyl) hz⟩
  · rcases List.mem_append.1 hx with hx | hx
    · exact h.2.2.2 x hx
    · obtain rfl : x = _ := by simpa using hx
      exact ⟨h1, h2, h3⟩
/-- Only the last one can end there. -/
theorem FoldK.last (h : FoldK U g k (o ++ [z])) (hU : MapG U) (hy : U[k]? = some y) (hn : ¬ (z.t = y.f ∧ z.v = g y.v)) : ∀ x, x ∈ o ++ [z] → x.t = y.f → x.v ≠ g y.v := fun x hx e ev => by
  obtain ⟨b, hb, hT⟩ := h.pre hU hy
  rcases List.mem_append.1 hx with hx | hx
  · have h2 := hT.map.ahead hx
    have h3 := hT.low z (by simp)
    omega
  · obtain rfl : x = z := by simpa using hx
    exact hn ⟨e, ev⟩
theorem fold_ex (hU : MapG U) (hi : ∀ y, y ∈ U → I64 y.f ∧ I64 y.t ∧ I64 (g y.v)) : ∀ k, k ≤ U.length → ∃ out, FoldK U g k out
  | 0, _ => ⟨[], FoldK.start⟩
  | k + 1, hk => by
    obtain ⟨out, ho⟩ := fold_ex hU hi k (by omega)
    obtain ⟨y, hy⟩ := get_lt (show k < U.length by omega)
    have h3 := hi y (List.mem_of_getElem? hy)
    rcases List.eq_nil_or_concat out with rfl | ⟨o, z, rfl⟩
    · exact ⟨_, ho.next hU hy (fun x hx => by simp at hx) h3.1 h3.2.1 h3.2.2⟩
    · rw [List.concat_eq_append] at ho
      by_cases hz : z.t = y.f ∧ z.v = g y.v
      · exact ⟨_, ho.grow hU hy hz.1 hz.2 h3.2.1⟩
      · exact ⟨_, ho.next hU hy (ho.last hU hy hz) h3.1 h3.2.1 h3.2.2⟩
theorem FoldK.fin (h : FoldK U g U.length out) (hU : MapG U) : MapL out ∧ ∀ t, atM out t = foldF U g t := by
  rcases Nat.eq_zero_or_pos U.length with h0 | h0
  · have e1 : U = [] := List.eq_nil_of_length_eq_zero h0
    have e2 := h.1 h0
    subst e1 e2
    exact ⟨.nil, fun t => rfl⟩
  · obtain ⟨z, hz⟩ := get_lt (show U.length - 1 < U.length by omega)
    obtain ⟨j1, j2⟩ := List.getElem?_eq_some_iff.1 hz
    obtain ⟨b, hb, hT⟩ := h.2.1 (U.length - 1) z (by omega) hz
    refine ⟨hT.map, fun t => ?_⟩
    rw [hT.tells]
    split
    · rfl
    · rename_i hn
      unfold foldF
      rw [atG_none fun x hx => ?_]
      · rfl
      · rintro ⟨h3, h4⟩
        have h5 := hb x hx
        obtain ⟨i, hi, rfl⟩ := List.mem_iff_getElem.1 hx
        by_cases hij : i = U.length - 1
        · subst hij; rw [j2] at h4; omega
        · have := List.pairwise_iff_getElem.1 hU.1 i (U.length - 1) hi j1 (by omega)
          rw [j2] at this
          have := hU.2 z (List.mem_of_getElem? hz)
          omega
end
/-- What Fold tells. -/
def FoldSay (l : List PieceD) (k er : Int) (out : List PieceD) : Prop :=
  if msgErr l = 0 then if 1 ≤ k ∧ k ≤ 3 then Tells (mixO l k) er out else er = 1 ∧ out = [] else er = msgErr l ∧ out = []
end Go.Proofs.Ytcfachfldanddaa
