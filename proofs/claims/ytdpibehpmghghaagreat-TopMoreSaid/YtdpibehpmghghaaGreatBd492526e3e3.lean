/- Several texts in one: IvlNormW, IvlSetW. -/
import Derived.Test.YtdpibehpmghghaaGreatBdbd4e5f7a2d
/- The walk of ivl.norm: the loop that puts together; Norm, Union. -/
namespace Go.Proofs.YtdpibehpmghghaaGreat
open Go.RowKit Go.Shelf

theorem enters_norm1 : Enters Tryz.prog 161 := enters_of Tryz.func161 (by kernel_rfl) rfl
set_option maxHeartbeats 1000000 in
theorem norm1_any (x : IvlD) (W : World) : Calls Tryz.prog 161 #[ivlV x] W fun e w' => e = .returned (.bool (decide (x.t ≤ x.f))) ∧ Below W.heap.size W w' := by
  go_enter Tryz.func161, Tryz.ntmps161
  go_wp2_with fail
  go_ret
  exact ⟨rfl, by go_grown⟩
/-- What has been put together of a sorted list, up to k. -/
def MergedK (l : List IvlD) (k : Nat) (out : List IvlD) : Prop := (∃ m, Merged (l.take k) out m ∧ ∀ j x, k ≤ j → l[j]? = some x → m ≤ x.f) ∧ out.length ≤ k ∧ ∀ y, y ∈ out → nearB y.f = true ∧ nearB y.t = true
section
variable {l out o : List IvlD} {k : Nat} {x z : IvlD}
theorem MergedK.start : MergedK l 0 [] := ⟨by
  cases l with
  | nil => exact ⟨0, Merged.start, fun j x _ h => by simp at h⟩
  | cons y r =>
    obtain ⟨m, hm⟩ : ∃ m : Int, ∀ x, x ∈ y :: r → m ≤ x.f := by
      generalize y :: r = q
      induction q with
      | nil => exact ⟨0, fun x h => by simp at h⟩
      | cons u q ih =>
        obtain ⟨m, hm⟩ := ih
        refine ⟨min m u.f, fun x hx => ?_⟩
        rcases List.mem_cons.1 hx with rfl | hx
        · omega
        · have := hm x hx; omega
    exact ⟨m, Merged.start, fun j x _ h => hm x (List.mem_of_getElem? h)⟩, Nat.le_refl _, fun y h => by simp at h⟩
theorem MergedK.at_ (h : MergedK l k out) (hx : l[k]? = some x) : Merged (l.take k) out x.f := by
  obtain ⟨⟨m, h1, h2⟩, _⟩ := h
  exact h1.later (h2 k x (Nat.le_refl _) hx)
theorem sorted_le (hs : l.Pairwise fun x y => x.f ≤ y.f) {j : Nat} {y : IvlD} (hx : l[k]? = some x) (hy : l[j]? = some y) (hj : k + 1 ≤ j) : x.f ≤ y.f := by
  obtain ⟨h1, h2⟩ := List.getElem?_eq_some_iff.1 hx
  obtain ⟨h3, h4⟩ := List.getElem?_eq_some_iff.1 hy
  have := List.pairwise_iff_getElem.1 hs k j h1 h3 (by omega)
  rw [h2, h4] at this
  exact this
theorem MergedK.join (h : MergedK l k (o ++ [z])) (hs : l.Pairwise fun x y => x.f ≤ y.f) (hx : l[k]? = some x) (hxt : x.f < x.t) (hn : nearB x.f = true ∧ nearB x.t = true) (hz : x.f ≤ z.t) : MergedK l (k + 1) (o ++ [⟨z.f, max z.t x.t⟩]) := by
  have h1 := (h.at_ hx).join hxt hz
  refine ⟨⟨x.f, by rw [take_succ_ hx]; exact h1, fun j y hj hy => sorted_le hs hx hy hj⟩, by have := h.2.1; simp at this ⊢; omega, fun y hy => ?_⟩
  rcases List.mem_append.1 hy with hy | hy
  · exact h.2.2 y (List.mem_append_left _ hy)
  · obtain rfl : y = _ := by simpa using hy
    have h2 := h.2.2 z (by simp)
    refine ⟨h2.1, ?_⟩
    simp only
    rw [Int.max_def]
    split
    · exact hn.2
    · exact h2.2
theorem MergedK.next (h : MergedK l k out) (hs : l.Pairwise fun x y => x.f ≤ y.f) (hx : l[k]? = some x) (hxt : x.f < x.t) (hn : nearB x.f = true ∧ nearB x.t = true) (hz : ∀ y, y ∈ out → y.t < x.f) : MergedK l (k + 1) (out ++ [x]) := by
  refine ⟨⟨x.f, by rw [take_succ_ hx]; exact (h.at_ hx).next hxt hz, fun j y hj hy => sorted_le hs hx hy hj⟩, by have := h.2.1; simp; omega, fun y hy => ?_⟩
  rcases List.mem_append.1 hy with hy | hy
  · exact h.2.2 y hy
  · obtain rfl : y = x := by simpa using hy
    exact hn
theorem MergedK.fin (h : MergedK l k out) (hk : l.length ≤ k) : NormIs l out := by
  obtain ⟨⟨m, h1, _⟩, _⟩ := h
  rw [List.take_of_length_le hk] at h1
  exact ⟨h1.norm, h1.has⟩
end
/-- A set is told, in a block of its own. -/
def NormedOut (l : List IvlD) (w : World) (e : Ending) (w' : World) : Prop := ∃ A c out, Hid (NormIs l out ∧ out.length ≤ l.length ∧ ∀ y, y ∈ out → nearB y.f = true ∧ nearB y.t = true) ∧ e = .returned (.slice A out.length c) ∧ IvlsNew w.heap.size w' A c out ∧ Below w.heap.size w w'

set_option maxRecDepth 100000 in
set_option maxHeartbeats 8000000 in
theorem norm_any (A : Option Addr) (c : Nat) (l : List IvlD) (w : World) (hI : IvlsAt w A c l) (hl : l.length ≤ 1000) (hn : ∀ x, x ∈ l → nearB x.f = true ∧ nearB x.t = true) :
    Calls Tryz.prog 152 #[.slice A l.length c] w (NormedOut l w) := by
  obtain ⟨i0, hi, hz0, hz1, hz2⟩ := info_ivl2
  have hC := fun W (h : IvlsAt W A c l) => ivlClone_any A c l W h (by omega)
  have hD := fun v W base (h : Own ivlC 2 W base 107 v l) (hb : base ≤ W.heap.size) => ivlDelete_any 161 #[] (fun x => decide (x.t ≤ x.f)) enters_norm1 v l W base h hb (fun x hx => ⟨near_i64 (hn x hx).1, near_i64 (hn x hx).2⟩) (by omega) (fun W x => norm1_any x W)
  obtain ⟨l2, hl2⟩ : ∃ l2, l2 = l.filter fun x => !decide (x.t ≤ x.f) := ⟨_, rfl⟩
  rw [← hl2] at hD
  have h2l : l2.length ≤ l.length := by rw [hl2]; exact List.length_filter_le _ _
  have h2n : ∀ x, x ∈ l2 → (nearB x.f = true ∧ nearB x.t = true) ∧ x.f < x.t := fun x hx => by
    rw [hl2] at hx
    have := List.mem_filter.1 hx
    exact ⟨hn x this.1, by have h3 := this.2; simp at h3; omega⟩
  have h2h : ∀ t, hasB l2 t = hasB l t := fun t => by
    have e : l2 = l.filter fun x => decide (x.f < x.t) := by
      rw [hl2]
      congr 1
      funext x
      by_cases h : x.t ≤ x.f
      · have h' : ¬ x.f < x.t := by omega
        simp [h, h']
      · have h' : x.f < x.t := by omega
        simp [h, h']
    rw [e]; exact has_filter
  have H2N := Lib.hid h2n
  have H2H := Lib.hid h2h
  have HL := Lib.hid hl
  have H2L := Lib.hid h2l
  clear hl2 hn hl h2l h2n h2h
  go_enter Tryz.func152, Tryz.ntmps152
  go_wp2_with fail
  refine (hC _ hI).mono ?_
  rintro e w1 ⟨v1, rfl, O1, hb1⟩
  clear hC hI
  go_wp2_with fail
  refine (hD v1 w1 _ O1 hb1.size).mono ?_
  rintro e w2 ⟨v2, rfl, O2, hb2⟩
  clear hD O1
  have hsz2 : w.heap.size ≤ w2.heap.size := Nat.le_trans hb1.size hb2.size
  have hb2 : Below w.heap.size w w2 := hb1.trans hb2
  clear hb1
  go_wp2_with fail
  refine (ivlSort_any v2 l2 w2 w.heap.size O2 hsz2 (fun x hx => (H2N.out x hx).1) (by have := HL.out; have := H2L.out; omega)).mono ?_
  rintro e w3 ⟨rfl, l3, hmem, hlen, hsort, O3, hb3⟩
  obtain ⟨A3, c3, rfl, hI3⟩ := own_ivls O3 (fun x hx => by have := (H2N.out x ((hmem x).1 hx)).1; exact ⟨near_i64 this.1, near_i64 this.2⟩)
  have hbw : Below w.heap.size w w3 := hb2.trans hb3
  have H3N : Hid (∀ x, x ∈ l3 → (nearB x.f = true ∧ nearB x.t = true) ∧ x.f < x.t) := Lib.hid fun x hx => H2N.out x ((hmem x).1 hx)
  have H3H : Hid (∀ t, hasB l3 t = hasB l t) := Lib.hid fun t => (has_perm hmem t).trans (H2H.out t)
  have H3S := Lib.hid hsort
  have H3L : Hid (l3.length ≤ l.length) := Lib.hid (by have := H2L.out; omega)
  have m3 : l3.length ≤ 1000 := by have := HL.out; have := H3L.out; omega
  have HI3 := Lib.hid hI3
  have hw3 : w.heap.size ≤ w3.heap.size := hbw.size
  clear hmem hlen hsort O3 O2 hb3 hb2 hI3 hsz2
  go_wp2_with fail
  go_loopw [3, 14] (fun u v wr => ∃ (k : Nat) (out : List IvlD), k ≤ l3.length ∧ v = .int .i64 k ∧ Hid (MergedK l3 k out) ∧ Own ivlC 2 wr w3.heap.size 107 u out ∧ Below w3.heap.size w3 wr) (fun _ v _ => l3.length - (intOf v).toNat)
  case atStart => exact ⟨0, [], Nat.zero_le _, rfl, Lib.hid MergedK.start, Own.nil, Below.refl _ _⟩
  case round =>
    obtain ⟨k, out, hk, rfl, HM, hO, hb⟩ := hrel
    have hol := HM.out.2.1
    have hwr := hb.size
    by_cases hlt : k < l3.length
    case neg =>
      obtain rfl : k = l3.length := by omega
      obtain ⟨Ao, co, rfl, hIo⟩ := own_ivls hO (fun x hx => by have := HM.out.2.2 x hx; exact ⟨near_i64 this.1, near_i64 this.2⟩)
      have hbe : Below w.heap.size w wr := hbw.trans (hb.mono hw3)
      go_wp2_with fail
      go_ret
      refine ⟨Ao, co, out, Lib.hid ⟨⟨(HM.out.fin (Nat.le_refl _)).1, fun t => ((HM.out.fin (Nat.le_refl _)).2 t).trans (H3H.out t)⟩, by have := H3L.out; omega, HM.out.2.2⟩, rfl, hIo.since hw3, hbe⟩
    case pos =>
      obtain ⟨x, hx⟩ := get_lt hlt
      obtain ⟨b, off, rfl, hb0, x0, x1⟩ := HI3.out.get hx
      rw [← hb.cell (by exact hb0)] at x0 x1
      have hxn := H3N.out x (List.mem_of_getElem? hx)
      have HX := Lib.hid hx
      have HXN := Lib.hid hxn
      clear hx hxn
      rcases List.eq_nil_or_concat out with rfl | ⟨o, z, rfl⟩
      · have hd : decide ((0 : Int) > 0) = false := by decide
        have HM2 : Hid (MergedK l3 (k + 1) ([] ++ [x])) := Lib.hid (HM.out.next H3S.out HX.out HXN.out.2 HXN.out.1 fun y hy => by simp at hy)
        obtain ⟨Ao, co, rfl⟩ := hO.form
        go_wp2_with fail
        go_quiet (fail)
        go_wp2_with (at_builtin; refine wpList_append_lie (enc := ivlC) rfl (.tmp 47) (.tmp 49) 22 rfl w3.heap.size 107 i0 _ 2 16 Tryz.underlying22 hi hz0 hz1 hz2 rfl (by decide) _ [] x rfl ((hO.alloc _).drewN _) #[.int .i64 x.f, .int .i64 x.t] rfl (wr.heap.size + 1) (by simp) rfl rfl two_one (by simp) (by decide) (by simp; omega) ?_; intro gn cap w6 hown6 hbb hkp hgn)
        go_roundw
        case rel => exact ⟨k + 1, [] ++ [x], by omega, by go_num, HM2, hown6, (below_drewN (ext_alloc hb _) _).trans hbb⟩
        case measure => simp [intOf]; omega
      · rw [List.concat_eq_append] at HM hO hol
        obtain ⟨Ao, co, rfl⟩ := hO.form
        rw [List.length_append] at hO hol ⊢
        simp only [List.length_cons, List.length_nil, Nat.zero_add] at hO hol ⊢
        obtain ⟨go, rfl⟩ : ∃ g, Ao = some ⟨g, 0, none⟩ := by
          rcases hO.2 with ⟨h1, _⟩ | ⟨g, cap, cur, hv, _⟩
          · simp at h1
          · simp only [Value.slice.injEq] at hv
            exact ⟨g, hv.1⟩
        obtain ⟨hnm, hgo, hmc, hcm, cs, hBk, hcs, hrow⟩ := hO.cells ivlC_len
        have hza : (o ++ [z])[o.length]? = some z := by simp
        have z0 : cs[o.length * 2]? = some (.int .i64 z.f) := by have := hrow _ z hza 0 (by decide); simpa [ivlC] using this
        have z1 : cs[o.length * 2 + 1]? = some (.int .i64 z.t) := by have := hrow _ z hza 1 (by decide); simpa [ivlC] using this
        have hjw : IntKind.i64.wrap (o.length : Int) = o.length := IntWalk.i64_in _ (by omega)
        have hd : (0 : Int) < (o.length : Int) + 1 := by omega
        have hBw := hBk.alloc (Obj.cells #[.int .i64 x.f, .int .i64 x.t] 107)
        obtain ⟨c1, c2, c3'⟩ := hBw.facts
        have hjl : o.length < o.length + 1 := by omega
        have HR := Lib.hid hrow
        have HMC := Lib.hid hmc
        have HZA := Lib.hid hza
        clear hrow hmc hnm hza
        by_cases hz : x.f ≤ z.t
        case pos =>
          have hd2 : decide (x.f ≤ z.t) = true := by simpa using hz
          have HM2 := Lib.hid (HM.out.join H3S.out HX.out HXN.out.2 HXN.out.1 hz)
          clear hz
          go_wp2_with fail
          go_quiet (fail)
          go_wp2_with fail
          go_region
          go_wp2_with fail
          go_roundw
          case rel =>
            refine ⟨k + 1, o ++ [⟨z.f, max z.t x.t⟩], by omega, by go_num, HM2, ?_, (below_drewN (ext_alloc hb _) _).setCell hgo _⟩
            have h2 := Own.of_cells (enc := ivlC) (m := o ++ [⟨z.f, max z.t x.t⟩]) ivlC_len (by decide) ((hBw.drewN (nq + 1)).set_ (o.length * 2 + 1) (.int .i64 (max z.t x.t))) hgo (by have := HMC.out; simpa using this) hcm (by simpa using hcs) (by
              have e : (o ++ [z]).set o.length ⟨z.f, max z.t x.t⟩ = o ++ [⟨z.f, max z.t x.t⟩] := by simp
              rw [← e]
              refine HR.out.set (by simp) (fun t ht => by rw [Array.getElem?_setIfInBounds_ne (by omega)]) (fun t ht => ?_)
              have k1 : o.length * 2 + 1 < cs.size := (Array.getElem?_eq_some_iff.1 z1).1
              match t, ht with
              | 0, _ =>
                show (cs.setIfInBounds (o.length * 2 + 1) (.int .i64 (max z.t x.t)))[o.length * 2]? = _
                rw [Array.getElem?_setIfInBounds_ne (by omega), z0]; rfl
              | 1, _ => rw [Array.getElem?_setIfInBounds_self_of_lt k1]; rfl)
            simpa using h2
          case measure => simp [intOf]; omega
        case neg =>
          have hd2 : decide (x.f ≤ z.t) = false := by simpa using hz
          have HM2 : Hid (MergedK l3 (k + 1) (o ++ [z] ++ [x])) := Lib.hid (HM.out.next H3S.out HX.out HXN.out.2 HXN.out.1 fun y hy => by
            have := (HM.out.at_ HX.out).norm.rise y hy; omega)
          clear hz
          go_wp2_with fail
          go_quiet (fail)
          go_wp2_with (at_builtin; refine wpList_append_lie (enc := ivlC) rfl (.tmp 47) (.tmp 49) 22 rfl w3.heap.size 107 i0 _ 2 16 Tryz.underlying22 hi hz0 hz1 hz2 rfl (by decide) _ (o ++ [z]) x rfl ((hO.alloc _).drewN _) #[.int .i64 x.f, .int .i64 x.t] rfl (wr.heap.size + 1) (by simp) rfl rfl two_one (by simp; omega) (by decide) (by simp; omega) ?_; intro gn cap w6 hown6 hbb hkp hgn)
          go_roundw
          case rel => exact ⟨k + 1, o ++ [z] ++ [x], by omega, by go_num, HM2, by simpa using hown6, (below_drewN (ext_alloc hb _) _).trans hbb⟩
          case measure => simp [intOf]; omega
end Go.Proofs.YtdpibehpmghghaaGreat
/- The walks of Norm, both, done, Union. -/
namespace Go.Proofs.YtdpibehpmghghaaGreat
open Go.RowKit Go.Shelf

def farX (x : IvlD) : Bool := farB x.f || farB x.t
def NormSay (l : List IvlD) (er : Int) (out : List IvlD) : Prop :=
  if 200 < l.length then er = 2 ∧ out = [] else if l.any farX = true then er = 5 ∧ out = [] else er = 0 ∧ NormIs l out
theorem NormSay.same {l : List IvlD} {er er' : Int} {out out' : List IvlD} (h : NormSay l er out) (k : NormSay l er' out') : er = er' ∧ out = out' := by
  unfold NormSay at h k
  split at h
  · rename_i h1; rw [if_pos h1] at k; rw [h.1, h.2, k.1, k.2]; exact ⟨rfl, rfl⟩
  · rename_i h1
    rw [if_neg h1] at k
    split at h
    · rename_i h2; rw [if_pos h2] at k; rw [h.1, h.2, k.1, k.2]; exact ⟨rfl, rfl⟩
    · rename_i h2; rw [if_neg h2] at k; rw [h.1, k.1]; exact ⟨rfl, h.2.eq k.2⟩
theorem far_none {l : List IvlD} (h : ¬ l.any farX = true) : ∀ x, x ∈ l → nearB x.f = true ∧ nearB x.t = true := fun x hx => by
  have h1 : farX x = false := by
    cases hc : farX x
    · rfl
    · exact absurd (List.any_eq_true.2 ⟨x, hx, hc⟩) h
  unfold farX at h1
  rw [Bool.or_eq_false_iff] at h1
  exact ⟨far_off h1.1, far_off h1.2⟩
/-- What is made of a list, no more than 200 of it. -/
theorem NormSay.of {l : List IvlD} {er : Int} {out : List IvlD} (h : NormSay l er out) (h0 : er = 0) : Of (hasB l) l.length out ∧ l.length ≤ 200 := by
  unfold NormSay at h
  split at h
  · rw [h0] at h; simp at h
  · rename_i h1
    split at h
    · rw [h0] at h; simp at h
    · rename_i h2
      exact ⟨h.2.of (far_none h2), by omega⟩

theorem enters_Norm1 : Enters Tryz.prog 150 := enters_of Tryz.func150 (by kernel_rfl) rfl
set_option maxHeartbeats 1000000 in
theorem Norm1_any (x : IvlD) (W : World) : Calls Tryz.prog 150 #[ivlV x] W fun e w' => e = .returned (.bool (farX x)) ∧ Below W.heap.size W w' := by
  cases f1 : farB x.f
  case true =>
    go_enter Tryz.func150, Tryz.ntmps150
    go_wp2_with (first | (go_at_call 151; refine (far_is (by assumption) _).mono ?_; rintro e w' ⟨rfl, rfl⟩))
    go_ret
    exact ⟨ret_bool (by simp [farX, f1]), by go_grown⟩
  case false =>
    cases f2 : farB x.t
    all_goals
      go_enter Tryz.func150, Tryz.ntmps150
      go_wp2_with (first | (go_at_call 151; refine (far_is (by assumption) _).mono ?_; rintro e w' ⟨rfl, rfl⟩))
      go_ret
      exact ⟨ret_bool (by simp [farX, f1, f2]), by go_grown⟩

set_option maxHeartbeats 1000000 in
theorem ivlNorm_any (A : Option Addr) (c : Nat) (l : List IvlD) (w : World) (hI : IvlsAt w A c l) : Calls Tryz.prog 134 #[.slice A l.length c] w (SetOut (NormSay l) w) := by
  have m1 := hI.len
  by_cases hl : 200 < l.length
  case pos =>
    have hd : decide ((l.length : Int) > 200) = true := by simp; omega
    have HS : Hid (NormSay l 2 []) := Lib.hid (by unfold NormSay; rw [if_pos hl]; exact ⟨rfl, rfl⟩)
    clear hl hI
    go_enter Tryz.func134, Tryz.ntmps134
    go_wp2_with fail
    refine bodyPost_ret (v := .tuple #[.slice none 0 0, .int .i64 2]) (by simp [results, Tryz.results134]) rfl ?_
    exact ⟨2, [], none, 0, HS, rfl, .nil, Below.refl _ _⟩
  case neg =>
    have hd : decide ((l.length : Int) > 200) = false := by simp; omega
    have hC := containsFunc_any 150 #[] farX enters_Norm1 A c l w hI fun W x _ => Norm1_any x W
    cases hf : l.any farX
    case true =>
      have HS : Hid (NormSay l 5 []) := Lib.hid (by unfold NormSay; rw [if_neg hl, if_pos hf]; exact ⟨rfl, rfl⟩)
      rw [hf] at hC
      clear hl hI hf
      go_enter Tryz.func134, Tryz.ntmps134
      go_wp2_with (go_at_call 149; refine hC.mono ?_; rintro e w1 ⟨rfl, hb⟩)
      refine bodyPost_ret (v := .tuple #[.slice none 0 0, .int .i64 5]) (by simp [results, Tryz.results134]) rfl ?_
      exact ⟨5, [], none, 0, HS, rfl, .nil, hb⟩
    case false =>
      have hn := far_none (l := l) (by rw [hf]; simp)
      rw [hf] at hC
      have HS : ∀ out, NormIs l out → NormSay l 0 out := fun out h => by unfold NormSay; rw [if_neg hl, if_neg (by rw [hf]; simp)]; exact ⟨rfl, h⟩
      have HSS := Lib.hid HS
      have HL := Lib.hid hl
      have hN := fun W (h : IvlsAt W A c l) => norm_any A c l W h (by omega) hn
      have HI := Lib.hid hI
      clear hl hf HS hn hI
      go_enter Tryz.func134, Tryz.ntmps134
      go_wp2_with (go_at_call 149; refine hC.mono ?_; rintro e w1 ⟨rfl, hb⟩)
      refine (hN _ (HI.out.ext hb)).mono ?_
      rintro e w2 ⟨A2, c2, out, HO, rfl, hI2, hb2⟩
      clear hN hC
      go_wp2_with fail
      refine bodyPost_ret (v := .tuple #[.slice A2 out.length c2, .int .i64 0]) (by simp [results, Tryz.results134]) rfl ?_
      exact ⟨0, out, A2, c2, Lib.hid (HSS.out out HO.out.1), rfl, hI2.since hb.size, ext_trans hb hb2⟩

/-- What is wrong with two sets. -/
noncomputable def bothErr (a b : List IvlD) : Int := if setErr a = 0 then setErr b else setErr a
set_option maxHeartbeats 1000000 in
theorem both_any (A B : Option Addr) (c d : Nat) (a b : List IvlD) (w : World) (hA : IvlsAt w A c a) (hB : IvlsAt w B d b) :
    Calls Tryz.prog 153 #[.slice A a.length c, .slice B b.length d] w fun e w' => e = .returned (.int .i64 (bothErr a b)) ∧ Below w.heap.size w w' := by
  have hCa := ivlCheck_any A c a w hA
  have HB := Lib.hid hB
  by_cases h0 : setErr a = 0
  case pos =>
    unfold bothErr
    rw [if_pos h0]
    rw [h0] at hCa
    clear h0 hA hB
    go_enter Tryz.func153, Tryz.ntmps153
    go_wp2_with (go_at_call_of 164 a; refine hCa.mono ?_; rintro e w1 ⟨rfl, hb⟩)
    refine (ivlCheck_any B d b _ (HB.out.ext hb)).mono ?_
    rintro e w2 ⟨rfl, hb2⟩
    go_wp2_with fail
    go_ret
    exact ⟨rfl, ext_trans hb hb2⟩
  case neg =>
    have hd : (setErr a != 0) = true := by simpa using h0
    unfold bothErr
    rw [if_neg h0]
    clear h0 hA hB
    go_enter Tryz.func153, Tryz.ntmps153
    go_wp2_with (go_at_call 164; refine hCa.mono ?_; rintro e w1 ⟨rfl, hb⟩)
    go_ret
    exact ⟨rfl, hb⟩
theorem done_yes (A : Option Addr) (n c : Nat) (w : World) (h : 200 < n) : Calls Tryz.prog 154 #[.slice A n c] w fun e w' => e = .returned (.tuple #[.slice none 0 0, .int .i64 2]) ∧ w = w' := by
  have hd : decide ((n : Int) > 200) = true := by simp; omega
  go_enter Tryz.func154, Tryz.ntmps154
  go_wp2_with fail
  refine bodyPost_ret (v := .tuple #[.slice none 0 0, .int .i64 2]) (by simp [results, Tryz.results154]) rfl ?_
  exact ⟨rfl, rfl⟩
theorem done_no (A : Option Addr) (n c : Nat) (w : World) (h : ¬ 200 < n) : Calls Tryz.prog 154 #[.slice A n c] w fun e w' => e = .returned (.tuple #[.slice A n c, .int .i64 0]) ∧ w = w' := by
  have hd : decide ((n : Int) > 200) = false := by simp; omega
  go_enter Tryz.func154, Tryz.ntmps154
  go_wp2_with fail
  refine bodyPost_ret (v := .tuple #[.slice A n c, .int .i64 0]) (by simp [results, Tryz.results154]) rfl ?_
  exact ⟨rfl, rfl⟩
/-- What done tells of a set, where two sets are right. -/
theorem done_any {op : Bool → Bool → Bool} {a b out : List IvlD} (A : Option Addr) (c : Nat) (w : World) {b0 : Nat} (hI : IvlsNew b0 w A c out) (ha : setErr a = 0) (hb : setErr b = 0) (hn : NormL out) (hs : ∀ t, hasB out t = op (hasB a t) (hasB b t)) :
    Calls Tryz.prog 154 #[.slice A out.length c] w (SetOutB b0 (SetsSay op a b) w) := by
  by_cases hl : 200 < out.length
  · exact (done_yes A out.length c w hl).mono fun e w' ⟨he, hw⟩ => ⟨2, [], none, 0, Lib.hid (SetsSay.large ha hb hn hs hl), he, by rw [← hw]; exact .nil, by rw [← hw]; exact Below.refl _ _⟩
  · exact (done_no A out.length c w hl).mono fun e w' ⟨he, hw⟩ => ⟨0, out, A, c, Lib.hid (SetsSay.good ha hb hn hs hl), he, by rw [← hw]; exact hI, by rw [← hw]; exact Below.refl _ _⟩
theorem bothErr_bad {op : Bool → Bool → Bool} {a b : List IvlD} (h : bothErr a b ≠ 0) : SetsSay op a b (bothErr a b) [] := by
  unfold bothErr at h ⊢
  by_cases h0 : setErr a = 0
  · rw [if_pos h0] at h ⊢
    exact SetsSay.badB h0 h
  · rw [if_neg h0]
    exact SetsSay.badA h0
theorem bothErr_zero {a b : List IvlD} (h : bothErr a b = 0) : setErr a = 0 ∧ setErr b = 0 := by
  unfold bothErr at h
  by_cases h0 : setErr a = 0
  · rw [if_pos h0] at h; exact ⟨h0, h⟩
  · rw [if_neg h0] at h; exact absurd h h0
/-- A call that begins by looking at both sets, and finds one wrong. -/
theorem SetOut.trans {R : Int → List IvlD → Prop} {w w1 : World} {e : Ending} {w' : World} (hb : Below w.heap.size w w1) (h : SetOut R w1 e w') : SetOut R w e w' := by
  obtain ⟨er, out, A, c, h1, h2, h3, h4⟩ := h
  exact ⟨er, out, A, c, h1, h2, h3.since hb.size, ext_trans hb h4⟩

end Go.Proofs.YtdpibehpmghghaaGreat
